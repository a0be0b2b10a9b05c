/- Own work: how calls of the model run over plain data. -/
import Derived.Test.YtbmojpadjglncaaGreatAc10c
set_option linter.unusedVariables false
set_option linter.unusedSimpArgs false
namespace Go.Ac
def rwAt (s : St) (x : A) : Option (Nat × TypeId × Nat × List D) :=
  match x with
  | .row n => match lk s.B n with
    | some (.rw e k xs) => some (n, e, k, xs)
    | _ => none
  | _ => none
def isRw (s : St) (x : A) : Bool := (rwAt s x).isSome
theorem rwAt_ok {s : St} {h w val} {a : Act} (H : Holds s h w val a) {x : A} {u : Value} (hr : RA h w val x u) {n e k xs} (hb : rwAt s x = some (n, e, k, xs)) :
    lk s.B n = some (.rw e k xs) ∧ u = val n ∧ ∃ us, w.ownsRow 0 e k (val n) xs.length us ∧ RRow h w k xs us ∧ ∀ g, (val n).ownBlock = some g → h g = 0 := by
  unfold rwAt at hb
  split at hb
  · rename_i m
    split at hb
    · rename_i e' k' xs' hl
      simp only [Option.some.injEq, Prod.mk.injEq] at hb
      obtain ⟨rfl, rfl, rfl, rfl⟩ := hb
      simp only [RA] at hr
      exact ⟨hl, hr.1, H.inv.rep _ (List.mem_append_left _ (lk_mem hl))⟩
    · cases hb
  · cases hb
theorem rw_place {s : St} {h w val} {a : Act} (H : Holds s h w val a) {n e k xs} (hl : lk s.B n = some (.rw e k xs)) (h0 : 0 < xs.length) :
    ∃ g cap us, val n = .slice (some ⟨g, 0, none⟩) xs.length cap ∧ w.heap[g]? = some (.cells ⟨us⟩ e (0, 0)) ∧ xs.length ≤ cap ∧ cap ≤ maxLen ∧ us.length = cap * k ∧ RRow h w k xs (us.take (xs.length * k)) ∧ h g = 0 := by
  obtain ⟨vs, ho, hrow, hh⟩ := H.inv.rep _ (List.mem_append_left _ (lk_mem hl))
  rcases ho.2 with ⟨_, hz⟩ | ⟨g, cap, cur, hv, _, hg, hn, hm, hs, ht⟩
  · omega
  · refine ⟨g, cap, cur.toList, hv, by simpa using hg, hn, hm, by simpa using hs, by rw [ht]; exact hrow, hh g ?_⟩
    simp only at hv
    rw [hv]; rfl

theorem rw_set {s : St} {h : Hw} {w : World} {val : Val} {a : Act} (H : Holds s h w val a) {n : Nat} {e : TypeId} {k : Nat} {xs ys : List D} {g cap : Nat} {us us' : List Value}
    (hl : lk s.B n = some (.rw e k xs)) (hv : val n = .slice (some ⟨g, 0, none⟩) xs.length cap) (hg : w.heap[g]? = some (.cells ⟨us⟩ e (0, 0))) (hn : xs.length ≤ cap) (hm : cap ≤ maxLen) (h0 : h g = 0)
    (hs : us'.length = cap * k) (hlen : ys.length = xs.length) (hr : RRow h w k ys (us'.take (xs.length * k))) :
    Holds { s with B := updB s.B n (.rw e k ys) } h (w.setRow g us'.toArray) val a ∧ Nx s h w val { s with B := updB s.B n (.rw e k ys) } h (w.setRow g us'.toArray) val := by
  have hmem : (n, Bk.rw e k xs) ∈ s.all := List.mem_append_left _ (lk_mem hl)
  have hvb : vblk (val n) = some g := by rw [hv]; rfl
  have hgM : g ∈ blks val s.all := Inv.blk_mem hmem (blkOf_of hvb rfl)
  have hk : Keep (blks val s.all) h w h (w.setRow g us'.toArray) := setRow_keep hg h0 hgM
  have hsame : ∀ b', (n, b') ∈ s.B → b'.isOld = (Bk.rw e k ys).isOld := fun b' hb' => by
    have := nodup_names H.inv.nms (List.mem_append_left _ hb') hmem
    rw [this]; rfl
  refine ⟨⟨RAs.stays hk.stays _ _ _ H.e, ⟨?_, ?_, ?_⟩, H.far, H.defs.keep H.inv hk (fun b hb => hb) rfl⟩, ⟨hk, fun _ _ => rfl, fun b hb => .inl ?_⟩⟩
  · intro p hp
    rcases List.mem_append.1 hp with hp | hp
    · rcases updB_mem hp with rfl | ⟨hp, hne⟩
      · refine ⟨us'.take (xs.length * k), ⟨by have := RRow.length hr; rw [hlen] at this ⊢; exact this, .inr ⟨g, cap, us'.toArray, by rw [hlen]; exact hv, Nat.zero_le _, setRow_heap w g _ _ e _ hg, by rw [hlen]; exact hn, hm, by simpa using hs, by rw [hlen]⟩⟩, RRow.stays hk.stays _ _ _ hr, fun g' hg' => ?_⟩
        simp only [hv, Value.ownBlock, Option.some.injEq] at hg'
        subst hg'; exact h0
      · refine RB.stays hk.stays (fun b hb => ⟨setRow_other w g b _ fun e => ?_, rfl⟩) (H.inv.rep p (List.mem_append_left _ hp))
        subst e
        have := blk_inj H.inv.bks (List.mem_append_left _ hp) hmem hb (blkOf_of hvb rfl)
        rw [this] at hne
        exact hne rfl
    · refine RB.stays hk.stays (fun b hb => ⟨setRow_other w g b _ fun e => ?_, rfl⟩) (H.inv.rep p (List.mem_append_right _ hp))
      subst e
      have e4 := blk_inj H.inv.bks (List.mem_append_right _ hp) hmem hb (blkOf_of hvb rfl)
      have hnd := H.inv.nms
      simp only [St.all, names_append] at hnd
      have m1 : n ∈ names s.B := by simp only [names, List.mem_map]; exact ⟨_, lk_mem hl, rfl⟩
      have m2 : n ∈ names s.F := by simp only [names, List.mem_map]; exact ⟨p, hp, by rw [e4]⟩
      exact (List.nodup_append.1 hnd).2.2 n m1 n m2 rfl
  · have := H.inv.nms
    simpa only [St.all, names_append, updB_names] using this
  · have := H.inv.bks
    simpa only [St.all, blks_append, updB_blks hsame] using this
  · simpa only [St.all, blks_append, updB_blks hsame] using hb

def arwAt (P : Program) (o : Oper) (s : St) (wt : W) : Option (Cn × A × List Ed) :=
  match o.op with
  | .indexAddr t x i => match rwAt s (s.ev x), s.ev i, P.underlying t with
    | some (n, _, k, xs), .d (.v (.int _ i)), some (.slice e) => if (P.info? e).isSome && P.cellsOf e == k then some (.both (.le 0 i) (.le (i + 1) xs.length), .ep n k i.toNat 0, []) else none
    | _, _, _ => none
  | .load t x => match s.ev x, wt with
    | .ep n k i off, .el y => match lk s.B n with
      | some (.rw _ k' xs) => if k' = k then (partA P t (y.cells.map .d) off).map fun v => (.elem xs i y, v, []) else none
      | _ => none
    | _, _ => none
  | .store t x y => match s.ev x, toD (s.look (s.ev y)) with
    | .ep n k i 0, some yd => match lk s.B n with
      | some (.rw e k' xs) => if k' = k ∧ (P.info? t).isSome = true ∧ P.cellsOf t = k ∧ yd.nc = k then
          some (.both (.le (i + 1) xs.length) (.upd xs i yd (outL (fun _ => xs.set i yd) wt)), .any, [.chg n (.rw e k (outL (fun _ => xs.set i yd) wt))]) else none
      | _ => none
    | _, _ => none
  | .call c => match c.callee, c.args.toList, c.argTypes.toList with
    | .builtin .len, [x], [t] => match P.underlying t, rwAt s (s.ev x) with
      | some (.slice _), some (_, _, _, xs) => (fun p => (p.1, p.2, [])) <$> some (outI .i64 (.len xs) (fun _ => xs.length) wt)
      | _, _ => none
    | _, _, _ => none
  | _ => none
theorem arwAt_ok {P : Program} {o : Oper} {s : St} {wt : W} {Φ : Cn} {r : A} {es : List Ed} (he : arwAt P o s wt = some (Φ, r, es)) : OpOk P o s Φ.ok r (s.edit es) := by
  intro hΦ h w val a H K Q hK
  unfold arwAt at he
  split at he
  · rename_i t x i ho
    split at he
    · rename_i n e0 k xs ki i' e hb hi hu
      split at he
      · rename_i hc
        simp only [Bool.and_eq_true, beq_iff_eq] at hc
        simp only [Option.some.injEq, Prod.mk.injEq] at he
        obtain ⟨rfl, rfl, rfl⟩ := he
        simp only [Cn.ok] at hΦ
        obtain ⟨hl, hu1, _⟩ := rwAt_ok H (H.ev x) hb
        obtain ⟨g, cap, us, r1, r3, r4, r5, r6, r7, r8⟩ := rw_place H hl (by omega)
        have hi' := H.ev i
        rw [hi] at hi'
        simp only [RA, RD] at hi'
        rw [r1] at hu1
        refine wp_of_run (u := .pointer (some ⟨g, i'.toNat * k + 0, none⟩)) (w' := w) ?_ (hK h w val _ (by simp only [RA]; exact ⟨g, by rw [r1]; rfl, rfl⟩) H (Nx.refl s h w val rfl))
        have hlt : i' < (xs.length : Int) := by omega
        simp [execOp, ho, hu1, hi'.1, Instr.indexAt, Sem.run_bind, run_underlying hu, asIntOf, hΦ.1, hlt, run_size' hc.1, Addr.add_lit, hc.2]
      · cases he
    · cases he
  · rename_i t x ho
    split at he
    · rename_i n k i off y hx
      split at he
      · rename_i e k' xs hl
        split at he
        · rename_i hk
          subst hk
          simp only [Option.map_eq_some_iff, Prod.mk.injEq] at he
          obtain ⟨v, hv, rfl, rfl, rfl⟩ := he
          simp only [Cn.ok, Int.toNat_natCast] at hΦ
          have hlt : i < xs.length := (List.getElem?_eq_some_iff.1 hΦ.2).1
          obtain ⟨g, cap, us, r1, r3, r4, r5, r6, r7, r8⟩ := rw_place H hl (by omega)
          have hx' := H.ev x
          rw [hx] at hx'
          simp only [RA] at hx'
          obtain ⟨b, q1, q2⟩ := hx'
          have hbg : b = g := by
            rw [r1] at q1
            simp [vblk] at q1; exact q1.symm
          subst hbg
          obtain ⟨c1, c2⟩ := RRow.one_cells (val := val) r7 hΦ.2
          obtain ⟨u, g1, g2⟩ := loadA_ok (P := P) (a := ⟨b, i * k', none⟩) hv c1 c2 (fun j v hj => by
            rw [Addr.add_lit, cell_of_row w b _ ⟨us⟩ e (0, 0) r3]
            rw [List.getElem?_take] at hj
            split at hj
            · rw [List.getElem?_drop, List.getElem?_take] at hj
              split at hj
              · simpa using hj
              · cases hj
            · cases hj)
          rw [Addr.add_lit] at g1
          refine wp_of_run (u := u) (w' := w) ?_ (hK h w val u g2 H (Nx.refl s h w val rfl))
          simp [execOp, ho, q2, Instr.loadAt, Instr.sureAddr, g1]
        · cases he
      · cases he
    · cases he
  · rename_i t x y ho
    split at he
    · rename_i n k i yd hx hy
      split at he
      · rename_i e k' xs hl
        split at he
        · rename_i hc
          obtain ⟨hk, hI, hC, hn⟩ := hc
          subst hk
          simp only [Option.some.injEq, Prod.mk.injEq] at he
          obtain ⟨rfl, rfl, rfl⟩ := he
          simp only [Cn.ok] at hΦ
          obtain ⟨p1, p2⟩ := hΦ
          have e0 : outL (fun _ => xs.set i yd) wt = xs.set i yd := p2.symm
          rw [e0] at hK
          have hlt : i < xs.length := by omega
          obtain ⟨g, cap, us, r1, r3, r4, r5, r6, r7, r8⟩ := rw_place H hl (by omega)
          have hx' := H.ev x
          rw [hx] at hx'
          simp only [RA] at hx'
          obtain ⟨b, q1, q2⟩ := hx'
          have hbg : b = g := by
            rw [r1] at q1
            simp [vblk] at q1; exact q1.symm
          subst hbg
          have hy' := toD_ok hy (H.look (H.ev y))
          have hcs := hy'.cells
          have hsz : (a.eval y).cells.size = k' := by rw [RD.size hy', hn]
          have hle : i * k' + k' ≤ xs.length * k' := by
            have := Nat.mul_le_mul_right k' (show i + 1 ≤ xs.length from hlt)
            rw [Nat.add_mul] at this
            omega
          have hle2 : xs.length * k' ≤ cap * k' := Nat.mul_le_mul_right k' r4
          have hst := run_storeCells_at P b (i * k') e (a.eval y).cells.toList 0 ⟨us⟩ w r3 (by simp only [Nat.add_zero, Array.length_toList, hsz]; simp; omega) hcs.2
          simp only [Nat.add_zero, Array.length_toList, hsz] at hst
          have hrow := RRow.set hy' hsz hn hcs.2 r7 hlt
          have et : (us.take (i * k') ++ (a.eval y).cells.toList ++ us.drop (i * k' + k')).take (xs.length * k') = (us.take (xs.length * k')).take (i * k') ++ (a.eval y).cells.toList ++ (us.take (xs.length * k')).drop (i * k' + k') := by
            rw [List.take_append, List.take_of_length_le (by simp [hsz]; omega), List.take_take, Nat.min_eq_left (by omega), List.drop_take]
            congr 2
            simp [hsz]; omega
          rw [← et] at hrow
          obtain ⟨f1, f2⟩ := rw_set H hl r1 r3 r4 r5 r8 (us' := us.take (i * k') ++ (a.eval y).cells.toList ++ us.drop (i * k' + k')) (by simp [hsz]; omega) (by simp) hrow
          refine wp_of_skip (w' := w.setRow b (us.take (i * k') ++ (a.eval y).cells.toList ++ us.drop (i * k' + k')).toArray) ?_ (hK h _ val undef (by simp [RA]) f1 f2)
          have hnn : ¬ (a.eval y).cells.size ≠ P.cellsOf t := by rw [hsz, hC]; simp
          simp only [execOp, ho, Sem.run_bind, Instr.storeAt, q2, Instr.sureAddr, Sem.run_pure, Result.andThen_ok, storeVar, run_size' hI, hnn, if_false, Nat.add_zero, hst]
        · cases he
      · cases he
    · cases he
  · rename_i c ho
    obtain ⟨callee, ⟨args⟩, ⟨tys⟩⟩ := c
    simp only at he
    split at he
    · rename_i x t
      split at he
      · rename_i e n e0 k xs hu hb
        simp only [Option.map_eq_map, Option.map_some, Option.some.injEq, Prod.mk.injEq] at he
        obtain ⟨h1, h2, rfl⟩ := he
        obtain ⟨hl, hu1, us, ho1, _, _⟩ := rwAt_ok H (H.ev x) hb
        have hr : RA h w val r (.int .i64 xs.length) := outI_ok (wt := wt) (f := .len xs) (v := fun _ => (xs.length : Int)) (fun n hn => hn) (Prod.ext h1 h2) hΦ
        refine wp_of_run (u := .int .i64 xs.length) (w' := w) ?_ (hK h w val _ hr H (Nx.refl s h w val rfl))
        have hq : P.underlying t = some (.slice (P.elem t)) := by simp [Program.elem, hu]
        obtain ⟨ad, cap, hv, hle⟩ : ∃ ad cap, val n = .slice ad xs.length cap ∧ xs.length ≤ maxLen := by
          rcases ho1.2 with ⟨hv, hz⟩ | ⟨g, cap, cur, hv, _, _, hn, hm, _⟩
          · exact ⟨none, 0, by rw [hv, hz], by omega⟩
          · exact ⟨_, cap, hv, Nat.le_trans hn hm⟩
        have h63 : IntKind.i64.wrap (xs.length : Int) = xs.length := IntWalk.i64_in _ ⟨by omega, by simp [maxLen] at hle; omega⟩
        simp [execOp, ho, resolve, invoke, builtin, hu1, hv, run_len_slice w t o.type ad xs.length cap hq, goInt, h63]
      · cases he
    · cases he
  · cases he
end Go.Ac
