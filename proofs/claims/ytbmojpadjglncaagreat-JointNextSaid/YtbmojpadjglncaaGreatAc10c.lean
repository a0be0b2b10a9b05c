/- Own work: how calls of the model run over plain data. -/
import Derived.Test.YtbmojpadjglncaaGreatAc10b
import Derived.WalkSpells
import Derived.Lib.SliceRun
set_option linter.unusedVariables false
set_option linter.unusedSimpArgs false
namespace Go.Ac

def isArr (P : Program) (t : TypeId) : Bool :=
  match P.underlying t with
  | some (.array _ _) => true
  | _ => false
def abufMk (P : Program) (o : Oper) (s : St) (wt : W) : Option (Cn × A × List Ed) :=
  match o.dst, o.op with
  | some d, .alloc t => match (P.info? t).bind (·.zero) with
    | some z => if z.cells.toList.all (·.oneCell') && Nat.ble z.cells.size 16777216 && d < up && !hasAny d s.E && !bxHas d s.B then
        some (.t, .box d 0, [.add d (.buf false t 1 (z.cells.toList.map cstCell))]) else none
    | none => none
  | some d, .makeSlice t l c => match elemOf' P t, s.ev l, s.ev c with
    | some e, .d (.v (.int _ n)), .d (.v (.int _ n')) => match P.info? e with
      | some i => match i.zero with
        | some z => if i.bytes != 0 && z.cells.size == i.size && i.size != 0 && z.cells.toList.all (·.oneCell') && (zeroD z).nc == z.cells.size && d < up && !hasAny d s.E && !bxHas d s.B then
            some (.both (.le 0 n) (.both (.le n n') (.both (.le n' n) (.both (.fits [] (List.replicate n.toNat (zeroD z)) i.bytes) (.app [] (List.replicate n.toNat (zeroD z)) (outL (fun _ => List.replicate n.toNat (zeroD z)) wt))))),
              .row d, [.add d (.buf true e i.size (outL (fun _ => List.replicate n.toNat (zeroD z)) wt))]) else none
        | none => none
      | none => none
    | _, _, _ => none
  | _, _ => none
theorem abufMk_ok {P : Program} {o : Oper} {s : St} {wt : W} {Φ : Cn} {r : A} {es : List Ed} (he : abufMk P o s wt = some (Φ, r, es)) : OpOk P o s Φ.ok r (s.edit es) := by
  intro hΦ h w val a H K Q hK
  unfold abufMk at he
  split at he
  · rename_i d t hd ho
    split at he
    · rename_i z hz
      split at he
      · rename_i hc
        simp only [Bool.and_eq_true, decide_eq_true_eq, Bool.not_eq_true', Nat.ble_eq] at hc
        obtain ⟨⟨⟨⟨c1, c2⟩, c3⟩, c4⟩, c5⟩ := hc
        simp only [Option.some.injEq, Prod.mk.injEq] at he
        obtain ⟨rfl, rfl, rfl⟩ := he
        have h1 : ∀ c ∈ z.cells.toList, c.oneCell' = true := fun c hc => (List.all_eq_true.1 c1) c hc
        have hvd : setV val d (.pointer (some ⟨w.heap.size, 0, none⟩)) d = .pointer (some ⟨w.heap.size, 0, none⟩) := by simp [setV]
        obtain ⟨f1, f2⟩ := H.fresh c3 c4 c5 (.cells z.cells t) (.pointer (some ⟨w.heap.size, 0, none⟩)) 0 (.buf false t 1 (z.cells.toList.map cstCell)) rfl rfl (by
          refine ⟨w.heap.size, z.cells.toList, by rw [hvd]; rfl, by simp [maxLen]; omega, by exact heap_alloc_new w _, RRow_one _ h1, by simp [setH]⟩)
        refine wp_of_run (u := .pointer (some ⟨w.heap.size, 0, none⟩)) (w' := w.alloc (.cells z.cells t)) ?_ (hK _ _ _ _ (by simp only [RA]; exact ⟨_, hvd, rfl⟩) f1.ins f2.ins)
        simp only [Option.bind_eq_some_iff] at hz
        obtain ⟨i, hi, hz⟩ := hz
        simp [execOp, ho, Instr.alloc, zeroValue, typeInfo, hi, hz, newVar, newRow]
      · cases he
    · cases he
  · rename_i d t l c hd ho
    split at he
    · rename_i e k n k' n' hel hn hn'
      split at he
      · rename_i i hi
        split at he
        · rename_i z hz
          split at he
          · rename_i hc
            simp only [Bool.and_eq_true, decide_eq_true_eq, Bool.not_eq_true', bne_iff_ne, ne_eq, beq_iff_eq] at hc
            obtain ⟨⟨⟨⟨⟨⟨⟨c1, c2⟩, c3⟩, c4⟩, c5⟩, c6⟩, c7⟩, c8⟩ := hc
            simp only [Option.some.injEq, Prod.mk.injEq] at he
            obtain ⟨rfl, rfl, rfl⟩ := he
            simp only [Cn.ok] at hΦ
            obtain ⟨p1, p2, p3, p4, p5⟩ := hΦ
            obtain rfl : n = n' := Int.le_antisymm p2 p3
            obtain ⟨hu, _, _⟩ := elemOf'_ok hel
            have h1 : ∀ c ∈ z.cells.toList, c.oneCell' = true := fun c hc => (List.all_eq_true.1 c4) c hc
            have el := H.ev l; rw [hn] at el; simp only [RA, RD] at el
            have ec := H.ev c; rw [hn'] at ec; simp only [RA, RD] at ec
            have e0 : outL (fun _ => List.replicate n.toNat (zeroD z)) wt = List.replicate n.toNat (zeroD z) := by rw [← p5]; rfl
            rw [e0] at hK
            simp only [List.length_nil, Nat.zero_add, List.length_replicate] at p4
            have hb1 : 1 ≤ i.bytes := Nat.pos_of_ne_zero c1
            have hnb : n.toNat ≤ 140737488355328 := Nat.le_trans (Nat.le_mul_of_pos_right _ hb1) p4
            have hrun := run_make (P := P) w t e i z hu hi hz k k' n n p1 (Int.le_refl _) (by
              have : ((n.toNat * i.bytes : Nat) : Int) ≤ 140737488355328 := by omega
              rw [Int.natCast_mul, Int.toNat_of_nonneg p1, Int.mul_comm] at this
              omega) (by omega)
            have hvd : setV val d (.slice (some ⟨w.heap.size, 0, none⟩) n.toNat n.toNat) d = .slice (some ⟨w.heap.size, 0, none⟩) n.toNat n.toNat := by simp [setV]
            obtain ⟨f1, f2⟩ := H.fresh c6 c7 c8 (.cells (madeCells z.cells (n.toNat * i.size)) e) (.slice (some ⟨w.heap.size, 0, none⟩) n.toNat n.toNat) 0 (.buf true e i.size (List.replicate n.toNat (zeroD z))) rfl rfl (by
              refine ⟨w.heap.size, (madeCells z.cells (n.toNat * i.size)).toList, by rw [hvd]; simp, by simp [maxLen]; omega, by exact heap_alloc_new w _, ?_, by simp [setH]⟩
              rw [← c2]
              exact RRow_made h1 (by rw [c2]; exact Nat.pos_of_ne_zero c3) c5 _)
            refine wp_of_run (u := .slice (some ⟨w.heap.size, 0, none⟩) n.toNat n.toNat) (w' := w.alloc (.cells (madeCells z.cells (n.toNat * i.size)) e)) ?_ (hK _ _ _ _ (by simp only [RA]; exact ⟨hvd.symm, hnd.sl _ _ _⟩) f1.ins f2.ins)
            simp [execOp, ho, el.1, ec.1, hrun]
          · cases he
        · cases he
      · cases he
    · cases he
  · cases he

def bufAt (s : St) (x : A) : Option (Nat × Bool × TypeId × Nat × List D) :=
  match x with
  | .box n 0 => match lk s.B n with
    | some (.buf false e k xs) => some (n, false, e, k, xs)
    | _ => none
  | .row n => match lk s.B n with
    | some (.buf true e k xs) => some (n, true, e, k, xs)
    | _ => none
  | _ => none
theorem bufAt_ok {s : St} {h w val} {a : Act} (H : Holds s h w val a) {x : A} {u : Value} (hr : RA h w val x u) {n sl e k xs} (hb : bufAt s x = some (n, sl, e, k, xs)) :
    lk s.B n = some (.buf sl e k xs) ∧ ∃ g us, val n = (if sl then .slice (some ⟨g, 0, none⟩) xs.length xs.length else .pointer (some ⟨g, 0, none⟩)) ∧ xs.length ≤ maxLen ∧
      w.heap[g]? = some (.cells ⟨us⟩ e (0, 0)) ∧ RRow h w k xs us ∧ h g = 0 ∧ u = (if sl then .slice (some ⟨g, 0, none⟩) xs.length xs.length else .pointer (some ⟨g, 0, none⟩)) := by
  unfold bufAt at hb
  split at hb
  · rename_i m
    split at hb
    · rename_i e' k' xs' hl
      simp only [Option.some.injEq, Prod.mk.injEq] at hb
      obtain ⟨rfl, rfl, rfl, rfl, rfl⟩ := hb
      obtain ⟨g, us, r1, r2, r3, r4, r5⟩ := H.inv.rep _ (List.mem_append_left _ (lk_mem hl))
      refine ⟨hl, g, us, r1, r2, r3, r4, r5, ?_⟩
      simp only [RA] at hr
      obtain ⟨b, q1, q2⟩ := hr
      simp only at r1
      rw [q1] at r1
      simp at r1
      subst r1
      simpa using q2
    · cases hb
  · rename_i m
    split at hb
    · rename_i e' k' xs' hl
      simp only [Option.some.injEq, Prod.mk.injEq] at hb
      obtain ⟨rfl, rfl, rfl, rfl, rfl⟩ := hb
      obtain ⟨g, us, r1, r2, r3, r4, r5⟩ := H.inv.rep _ (List.mem_append_left _ (lk_mem hl))
      refine ⟨hl, g, us, r1, r2, r3, r4, r5, ?_⟩
      simp only [RA] at hr
      rw [hr.1]
      exact r1
    · cases hb
  · cases hb

def abufAt (P : Program) (o : Oper) (s : St) (wt : W) : Option (Cn × A × List Ed) :=
  match o.op with
  | .indexAddr t x i => match bufAt s (s.ev x), s.ev i, P.underlying t with
    | some (n, true, _, k, xs), .d (.v (.int _ i)), some (.slice e) => if (P.info? e).isSome && P.cellsOf e == k then some (.both (.le 0 i) (.le (i + 1) xs.length), .ep n k i.toNat 0, []) else none
    | some (n, false, _, k, _), .d (.v (.int _ i)), some (.array m e) => if (P.info? e).isSome && P.cellsOf e == k && Nat.blt 1 m then some (.both (.le 0 i) (.le (i + 1) (m : Int)), .ep n k i.toNat 0, []) else none
    | _, _, _ => none
  | .load t x => match s.ev x, wt with
    | .ep n k i off, .el y => match lk s.B n with
      | some (.buf _ _ k' xs) => if k' = k then (partA P t (y.cells.map .d) off).map fun v => (.elem xs i y, v, []) else none
      | _ => none
    | _, _ => none
  | .store t x y => match s.ev x, toD (s.look (s.ev y)) with
    | .ep n k i 0, some yd => match lk s.B n with
      | some (.buf sl e k' xs) => if k' = k ∧ (P.info? t).isSome = true ∧ P.cellsOf t = k ∧ yd.nc = k then
          some (.both (.le (i + 1) xs.length) (.upd xs i yd (outL (fun _ => xs.set i yd) wt)), .any, [.chg n (.buf sl e k (outL (fun _ => xs.set i yd) wt))]) else none
      | _ => none
    | _, _ => none
  | .slice t x none none none => match bufAt s (s.ev x), P.underlying t with
    | some (n, false, _, k, _), some (.array m e) => if (P.info? e).isSome && Nat.ble m 16777216 then some (.t, .bsl n 0 m, []) else none
    | _, _ => none
  | .call c => match c.callee, c.args.toList, c.argTypes.toList with
    | .builtin .len, [x], [t] => match P.underlying t, bufAt s (s.ev x) with
      | some (.slice _), some (_, true, _, _, xs) => (fun p => (p.1, p.2, [])) <$> some (outI .i64 (.len xs) (fun _ => xs.length) wt)
      | _, _ => none
    | _, _, _ => none
  | .move x => match bufAt s (s.ev x) with
    | some (n, true, e, k, xs) => match wt with
      | .frz => some (.t, .row n, [.chg n (.row e k xs)])
      | _ => some (.t, .row n, [])
    | _ => none
  | _ => none
theorem RRow.one_cells {h w k} {val : Val} {xs : List D} {us : List Value} (hr : RRow h w k xs us) {i : Nat} {y : D} (hy : xs[i]? = some y) :
    RAs h w val (y.cells.map .d) ((us.drop (i * k)).take k) ∧ (∀ u ∈ (us.drop (i * k)).take k, u.oneCell' = true) := by
  obtain ⟨u, a1, a2, a3, a4⟩ := hr.get _ _ hy
  have e : (us.drop (i * k)).take k = u.cells.toList := by
    apply List.ext_getElem?
    intro j
    by_cases hj : j < k
    · rw [List.getElem?_take_of_lt hj, List.getElem?_drop, a4 j hj]; simp
    · rw [List.getElem?_eq_none (by simp; omega), List.getElem?_eq_none (by simp [a2]; omega)]
  rw [e]
  exact ⟨RDs_map_d a1.cells.1, a1.cells.2⟩
theorem abufAt_ok {P : Program} {o : Oper} {s : St} {wt : W} {Φ : Cn} {r : A} {es : List Ed} (he : abufAt P o s wt = some (Φ, r, es)) : OpOk P o s Φ.ok r (s.edit es) := by
  intro hΦ h w val a H K Q hK
  unfold abufAt at he
  split at he
  · rename_i t x i ho
    split at he
    · rename_i n e0 k xs ki i' e hb hi hu
      split at he
      · rename_i hc
        simp only [Bool.and_eq_true, beq_iff_eq] at hc
        simp only [Option.some.injEq, Prod.mk.injEq] at he
        obtain ⟨rfl, rfl, rfl⟩ := he
        simp only [Cn.ok] at hΦ
        obtain ⟨hl, g, us, r1, r2, r3, r4, r5, r6⟩ := bufAt_ok H (H.ev x) hb
        simp only [if_true] at r1 r6
        have hi' := H.ev i
        rw [hi] at hi'
        simp only [RA, RD] at hi'
        refine wp_of_run (u := .pointer (some ⟨g, i'.toNat * k + 0, none⟩)) (w' := w) ?_ (hK h w val _ (by simp only [RA]; exact ⟨g, by rw [r1]; rfl, rfl⟩) H (Nx.refl s h w val rfl))
        have hlt : i' < (xs.length : Int) := by omega
        simp [execOp, ho, r6, hi'.1, Instr.indexAt, Sem.run_bind, run_underlying hu, asIntOf, hΦ.1, hlt, run_size' hc.1, Addr.add_lit, hc.2]
      · cases he
    · rename_i n e0 k xs ki i' m e hb hi hu
      split at he
      · rename_i hc
        simp only [Bool.and_eq_true, beq_iff_eq, Nat.blt_eq] at hc
        simp only [Option.some.injEq, Prod.mk.injEq] at he
        obtain ⟨rfl, rfl, rfl⟩ := he
        simp only [Cn.ok] at hΦ
        obtain ⟨hl, g, us, r1, r2, r3, r4, r5, r6⟩ := bufAt_ok H (H.ev x) hb
        simp only [Bool.false_eq_true, if_false] at r1 r6
        have hi' := H.ev i
        rw [hi] at hi'
        simp only [RA, RD] at hi'
        refine wp_of_run (u := .pointer (some ⟨g, i'.toNat * k + 0, none⟩)) (w' := w) ?_ (hK h w val _ (by simp only [RA]; exact ⟨g, by rw [r1]; rfl, rfl⟩) H (Nx.refl s h w val rfl))
        have hlt : i' < (m : Int) := by omega
        simp [execOp, ho, r6, hi'.1, Instr.indexAt, Sem.run_bind, run_underlying hu, asIntOf, hΦ.1, hlt, run_size' hc.1.1, Addr.add_lit, hc.1.2, Instr.sureAddr]
      · cases he
    · cases he
  · rename_i t x ho
    split at he
    · rename_i n k i off y hx
      split at he
      · rename_i sl e k' xs hl
        split at he
        · rename_i hk
          subst hk
          simp only [Option.map_eq_some_iff, Prod.mk.injEq] at he
          obtain ⟨v, hv, rfl, rfl, rfl⟩ := he
          simp only [Cn.ok, Int.toNat_natCast] at hΦ
          obtain ⟨g, us, r1, r2, r3, r4, r5⟩ := H.inv.rep _ (List.mem_append_left _ (lk_mem hl))
          have hx' := H.ev x
          rw [hx] at hx'
          simp only [RA] at hx'
          obtain ⟨b, q1, q2⟩ := hx'
          have hbg : b = g := by
            rw [r1] at q1
            cases sl <;> (simp [vblk] at q1; exact q1.symm)
          subst hbg
          obtain ⟨c1, c2⟩ := RRow.one_cells (val := val) r4 hΦ.2
          obtain ⟨u, g1, g2⟩ := loadA_ok (P := P) (a := ⟨b, i * k', none⟩) hv c1 c2 (fun j v hj => by
            rw [Addr.add_lit, cell_of_row w b _ ⟨us⟩ e (0, 0) r3]
            rw [List.getElem?_take] at hj
            split at hj
            · rw [List.getElem?_drop] at hj; simpa using hj
            · cases hj)
          rw [Addr.add_lit] at g1
          refine wp_of_run (u := u) (w' := w) ?_ (hK h w val u g2 H (Nx.refl s h w val rfl))
          simp [execOp, ho, q2, Instr.loadAt, Instr.sureAddr, g1]
        · cases he
      · cases he
    · cases he
  · rename_i t x y ho
    split at he
    · rename_i n k i yd hx hy
      split at he
      · rename_i sl e k' xs hl
        split at he
        · rename_i hc
          obtain ⟨hk, hI, hC, hn⟩ := hc
          subst hk
          simp only [Option.some.injEq, Prod.mk.injEq] at he
          obtain ⟨rfl, rfl, rfl⟩ := he
          simp only [Cn.ok] at hΦ
          obtain ⟨p1, p2⟩ := hΦ
          have e0 : outL (fun _ => xs.set i yd) wt = xs.set i yd := p2.symm
          rw [e0] at hK
          obtain ⟨g, us, r1, r2, r3, r4, r5⟩ := H.inv.rep _ (List.mem_append_left _ (lk_mem hl))
          have hx' := H.ev x
          rw [hx] at hx'
          simp only [RA] at hx'
          obtain ⟨b, q1, q2⟩ := hx'
          have hbg : b = g := by
            rw [r1] at q1
            cases sl <;> (simp [vblk] at q1; exact q1.symm)
          subst hbg
          have hy' := toD_ok hy (H.look (H.ev y))
          have hcs := hy'.cells
          have hsz : (a.eval y).cells.size = k' := by rw [RD.size hy', hn]
          have hlt : i < xs.length := by omega
          have hul := RRow.length r4
          have hle : i * k' + k' ≤ us.length := by
            rw [hul]
            have := Nat.mul_le_mul_right k' (show i + 1 ≤ xs.length from hlt)
            rw [Nat.add_mul] at this
            omega
          have hst := run_storeCells_at P b (i * k') e (a.eval y).cells.toList 0 ⟨us⟩ w r3 (by simp only [Nat.add_zero, Array.length_toList, hsz]; simpa using hle) hcs.2
          simp only [Nat.add_zero, Array.length_toList, hsz] at hst
          obtain ⟨f1, f2⟩ := buf_set H hl r1 r2 r3 r5 (by simp) (RRow.set hy' hsz hn hcs.2 r4 hlt)
          refine wp_of_skip (w' := w.setRow b (us.take (i * k') ++ (a.eval y).cells.toList ++ us.drop (i * k' + k')).toArray) ?_ (hK h _ val undef (by simp [RA]) f1 f2)
          have hnn : ¬ (a.eval y).cells.size ≠ P.cellsOf t := by rw [hsz, hC]; simp
          simp only [execOp, ho, Sem.run_bind, Instr.storeAt, q2, Instr.sureAddr, Sem.run_pure, Result.andThen_ok, storeVar, run_size' hI, hnn, if_false, Nat.add_zero, hst]
        · cases he
      · cases he
    · cases he
  · rename_i t x ho
    split at he
    · rename_i n e0 k xs m e hb hu
      split at he
      · rename_i hc
        simp only [Bool.and_eq_true, Nat.ble_eq] at hc
        simp only [Option.some.injEq, Prod.mk.injEq] at he
        obtain ⟨rfl, rfl, rfl⟩ := he
        obtain ⟨hl, g, us, r1, r2, r3, r4, r5, r6⟩ := bufAt_ok H (H.ev x) hb
        simp only [Bool.false_eq_true, if_false] at r1 r6
        refine wp_of_run (u := .slice (some ⟨g, 0, none⟩) m m) (w' := w) ?_ (hK h w val _ (by simp only [RA]; exact ⟨g, m, r1, rfl, Nat.le_refl _, by simp [maxLen]; omega⟩) H (Nx.refl s h w val rfl))
        simp [execOp, ho, r6, Instr.sliceAt, Sem.run_bind, run_underlying hu, Instr.sureAddr, Instr.sliceBounds, run_size' hc.1, Addr.add_lit]
      · cases he
    · cases he
  · rename_i c ho
    obtain ⟨callee, ⟨args⟩, ⟨tys⟩⟩ := c
    simp only at he
    split at he
    · rename_i x t
      split at he
      · rename_i e n e0 k xs hu hb
        simp only [Option.map_eq_map, Option.map_some, Option.some.injEq, Prod.mk.injEq] at he
        obtain ⟨h1, h2, rfl⟩ := he
        obtain ⟨hl, g, us, r1, r2, r3, r4, r5, r6⟩ := bufAt_ok H (H.ev x) hb
        simp only [if_true] at r1 r6
        have hr : RA h w val r (.int .i64 xs.length) := outI_ok (wt := wt) (f := .len xs) (v := fun _ => (xs.length : Int)) (fun n hn => hn) (Prod.ext h1 h2) hΦ
        refine wp_of_run (u := .int .i64 xs.length) (w' := w) ?_ (hK h w val _ hr H (Nx.refl s h w val rfl))
        have h63 : IntKind.i64.wrap (xs.length : Int) = xs.length := IntWalk.i64_in _ ⟨by omega, by simp [maxLen] at r2; omega⟩
        have hq : P.underlying t = some (.slice (P.elem t)) := by simp [Program.elem, hu]
        simp [execOp, ho, resolve, invoke, builtin, r6, run_len_slice w t o.type (some ⟨g, 0, none⟩) xs.length xs.length hq, goInt, h63]
      · cases he
    · cases he
  · rename_i x ho
    split at he
    · rename_i n e k xs hb
      obtain ⟨hl, g, us, r1, r2, r3, r4, r5, r6⟩ := bufAt_ok H (H.ev x) hb
      simp only [if_true] at r1 r6
      split at he
      · simp only [Option.some.injEq, Prod.mk.injEq] at he
        obtain ⟨rfl, rfl, rfl⟩ := he
        obtain ⟨h', f1, f2⟩ := buf_frz H hl
        exact wp_of_run (u := a.eval x) (w' := w) (by simp [execOp, ho]) (hK h' w val _ (by simp only [RA]; exact ⟨by rw [r6, r1], .inl ⟨_, _, _, r6⟩⟩) f1 f2)
      · simp only [Option.some.injEq, Prod.mk.injEq] at he
        obtain ⟨rfl, rfl, rfl⟩ := he
        exact wp_of_run (u := a.eval x) (w' := w) (by simp [execOp, ho]) (hK h w val _ (by simp only [RA]; exact ⟨by rw [r6, r1], .inl ⟨_, _, _, r6⟩⟩) H (Nx.refl s h w val rfl))
    · cases he
  · cases he

def copied (xs ys : List D) : List D := ys.take xs.length ++ xs.drop ys.length
def copySrc (s : St) (n : Nat) (y : Operand) : Option (List D × Cn) :=
  match s.look (s.ev y) with
  | .d (.sl ys) => some (ys, .nc ys 1)
  | .bsl m 0 l => match lk s.B m with
    | some (.buf _ _ 1 ys) => if m = n then none else some (ys, .len ys l)
    | _ => none
  | _ => none
def abufCopy (P : Program) (o : Oper) (s : St) (wt : W) : Option (Cn × A × List Ed) :=
  match o.op with
  | .call c => match c.callee, c.args.toList, c.argTypes.toList with
    | .builtin .copy, [x, y], [t, _] => match bufAt s (s.ev x), elemOf' P t with
      | some (n, true, e, 1, xs), some el => match copySrc s n y with
        | some (ys, Φ) => if P.cellsOf el = 1 then
            some (.both Φ (.app (ys.take xs.length) (xs.drop ys.length) (outL (fun _ => copied xs ys) wt)), it .i64 ((min ys.length xs.length : Nat) : Int), [.chg n (.buf true e 1 (outL (fun _ => copied xs ys) wt))]) else none
        | none => none
      | _, _ => none
    | _, _, _ => none
  | _ => none
theorem RRow.len1 {h w} {xs : List D} {us : List Value} {k : Nat} (hr : RRow h w k xs us) (hn : ∀ y ∈ xs, y.nc = 1) : RRow h w 1 xs us := by
  cases xs with
  | nil => simpa [RRow] using hr
  | cons x xs =>
    have h1 := hr.mk x (by simp)
    rw [hn x (by simp)] at h1
    subst h1
    exact hr
theorem copySrc_ok {s : St} {h w val} {a : Act} (H : Holds s h w val a) {n : Nat} {y : Operand} {ys : List D} {Φ : Cn} (he : copySrc s n y = some (ys, Φ)) (hΦ : Φ.ok) :
    ∃ ad cap us, a.eval y = .slice ad ys.length cap ∧ RRow h w 1 ys us ∧ (0 < ys.length → ∃ b, ad = some b ∧ ∀ j v, us[j]? = some v → w.cell? (b.add j) = some v) := by
  unfold copySrc at he
  have hy := H.look (H.ev y)
  split at he
  · rename_i zs hz
    simp only [Option.some.injEq, Prod.mk.injEq] at he
    obtain ⟨rfl, rfl⟩ := he
    rw [hz] at hy
    simp only [RA, RD] at hy
    obtain ⟨ad, cap, k, us, e1, _, _, hr, hc⟩ := hy
    refine ⟨ad, cap, us, e1, RRow.len1 hr hΦ, fun h0 => ?_⟩
    obtain ⟨b, hb, hc⟩ := hc h0
    exact ⟨b, hb, fun j v hj => (hc j v hj).1⟩
  · rename_i m l hz
    split at he
    · rename_i sl e zs hl
      split at he
      · cases he
      · simp only [Option.some.injEq, Prod.mk.injEq] at he
        obtain ⟨rfl, rfl⟩ := he
        rw [hz] at hy
        simp only [RA] at hy
        obtain ⟨b, c, q1, q2, _⟩ := hy
        simp only [Cn.ok] at hΦ
        obtain ⟨g, us, r1, r2, r3, r4, r5⟩ := H.inv.rep _ (List.mem_append_left _ (lk_mem hl))
        simp only at r1
        rw [q1] at r1
        have hbg : b = g := by cases sl <;> simp at r1; exact r1
        subst hbg
        refine ⟨some ⟨b, 0, none⟩, c, us, by rw [q2]; congr 1; omega, r4, fun _ => ⟨_, rfl, fun j v hj => ?_⟩⟩
        rw [Addr.add_lit, Nat.zero_add, cell_of_row w b j ⟨us⟩ e (0, 0) r3]
        simpa using hj
    · cases he
  · cases he
theorem abufCopy_ok {P : Program} {o : Oper} {s : St} {wt : W} {Φ : Cn} {r : A} {es : List Ed} (he : abufCopy P o s wt = some (Φ, r, es)) : OpOk P o s Φ.ok r (s.edit es) := by
  intro hΦ h w val a H K Q hK
  unfold abufCopy at he
  split at he
  · rename_i c ho
    obtain ⟨callee, ⟨args⟩, ⟨tys⟩⟩ := c
    simp only at he
    split at he
    · rename_i x y t t'
      split at he
      · rename_i n e xs el hb hel
        split at he
        · rename_i ys Φ' hsrc
          split at he
          · rename_i hk
            simp only [Option.some.injEq, Prod.mk.injEq] at he
            obtain ⟨rfl, rfl, rfl⟩ := he
            simp only [Cn.ok] at hΦ
            obtain ⟨p1, p2⟩ := hΦ
            have e0 : outL (fun _ => copied xs ys) wt = copied xs ys := p2.symm
            rw [e0] at hK
            obtain ⟨hl, g, us, r1, r2, r3, r4, r5, r6⟩ := bufAt_ok H (H.ev x) hb
            simp only [if_true] at r1 r6
            obtain ⟨ad, cap, us2, e1, hr2, hc2⟩ := copySrc_ok H hsrc p1
            obtain ⟨hu, hI, _⟩ := elemOf'_ok hel
            have hsz : (P.info? el).map (·.size) = some 1 := by
              unfold Program.cellsOf at hk
              cases hq : P.info? el with
              | none => simp [hq] at hI
              | some i => simp [hq] at hk ⊢; exact hk
            have hl1 : us.length = xs.length := by simpa using RRow.length r4
            have hl2 : us2.length = ys.length := by simpa using RRow.length hr2
            have hlen : (copied xs ys).length = xs.length := by simp [copied]; omega
            have hrr : RRow h w 1 (copied xs ys) (us2.take xs.length ++ us.drop ys.length) := by
              have a1 := hr2.take xs.length
              have a2 := r4.drop ys.length
              rw [Nat.mul_one] at a1 a2
              exact a1.append a2
            obtain ⟨f1, f2⟩ := buf_set H hl r1 r2 r3 r5 hlen hrr
            refine wp_of_run (u := .int .i64 ((min ys.length xs.length : Nat) : Int)) (w' := w.setRow g (us2.take xs.length ++ us.drop ys.length).toArray) ?_ (hK h _ val _ (RA_it _ _) f1 f2)
            have hrun : (Builtin.copy_ #[t, t'] o.type #[a.eval x, a.eval y]).run P w = .ok (goInt ((Nat.min ys.length xs.length : Nat) : Int)) (w.setRow g (us2.take xs.length ++ us.drop ys.length).toArray) := by
              rw [r6, e1]
              by_cases hz : Nat.min ys.length xs.length = 0
              · have h1 := run_copy_none (P := P) w t t' o.type el (some ⟨g, 0, none⟩) ad xs.length xs.length ys.length cap hu hsz hz
                rw [h1]
                have e2 : us2.take xs.length ++ us.drop ys.length = us := by
                  rcases Nat.eq_zero_or_pos ys.length with h0 | h0
                  · have : us2 = [] := List.eq_nil_of_length_eq_zero (by omega)
                    rw [this, h0]; simp
                  · have hx0 : xs.length = 0 := by simp [Nat.min_def] at hz; split at hz <;> omega
                    have : us = [] := List.eq_nil_of_length_eq_zero (by omega)
                    rw [this, hx0]; simp
                rw [e2, setRow_self w g us.toArray e (0, 0) r3]
                rw [hz]; rfl
              · have hpos : 0 < ys.length := by
                  rcases Nat.eq_zero_or_pos ys.length with h0 | h0
                  · exact absurd (by rw [h0]; exact Nat.zero_min _) hz
                  · exact h0
                obtain ⟨b, rfl, hcell⟩ := hc2 hpos
                have hcl : (us2.take xs.length).length = Nat.min ys.length xs.length := by
                  rw [List.length_take, hl2, Nat.min_comm]
                have h1 := run_copy_row (P := P) w t t' o.type el g 0 xs.length xs.length b ys.length cap ⟨us⟩ e (us2.take xs.length) hu hsz r3 hcl
                  (fun j v hj => hcell j v (by
                    rw [List.getElem?_take] at hj
                    split at hj
                    · exact hj
                    · cases hj)) (by rw [hcl]; simp [hl1]; exact Nat.min_le_right _ _) (fun v hv => hr2.one v (List.mem_of_mem_take hv))
                rw [h1, hcl]
                have e3 : us.drop (Nat.min ys.length xs.length) = us.drop ys.length := by
                  rcases Nat.le_total ys.length xs.length with hh | hh
                  · have : Nat.min ys.length xs.length = ys.length := Nat.min_eq_left hh
                    rw [this]
                  · have : Nat.min ys.length xs.length = xs.length := Nat.min_eq_right hh
                    rw [this, List.drop_eq_nil_of_le (by omega), List.drop_eq_nil_of_le (by omega)]
                simp only [List.take_zero, List.nil_append, Nat.zero_add, e3]
            have hg : goInt ((Nat.min ys.length xs.length : Nat) : Int) = .int .i64 ((min ys.length xs.length : Nat) : Int) := rfl
            rw [← hg]
            simp [execOp, ho, resolve, invoke, builtin, hrun]
          · cases he
        · cases he
      · cases he
    · cases he
  · cases he

def anil (P : Program) (o : Oper) (s : St) (wt : W) : Option (Cn × A × List Ed) :=
  match o.op with
  | .binOp op t x y _ => match P.underlying t, s.ev y, s.ev x, s.look (s.ev x) with
    | some (.slice _), .nil, .nil, _ => match op with
      | .eql => some (.t, bo true, [])
      | .neq => some (.t, bo false, [])
      | _ => none
    | some (.slice _), .nil, _, .d (.sl xs) => match op, wt with
      | .eql, .bit false => some (.nonnil xs, bo false, [])
      | .neq, .bit true => some (.nonnil xs, bo true, [])
      | .eql, _ => some (.t, .ub, [])
      | .neq, _ => some (.t, .ub, [])
      | _, _ => none
    | _, _, _, _ => none
  | _ => none
theorem eqGuard_slice {op : BinOp} {t : TypeId} {x y : Operand} {a : Option Addr} {n c : Nat} {v : Value} : eqGuard op t x y (.slice a n c) v = pure () := by cases op <;> rfl
theorem anil_ok {P : Program} {o : Oper} {s : St} {wt : W} {Φ : Cn} {r : A} {es : List Ed} (he : anil P o s wt = some (Φ, r, es)) : OpOk P o s Φ.ok r (s.edit es) := by
  intro hΦ h w val a H K Q hK
  unfold anil at he
  split at he
  · rename_i op t x y yt ho
    split at he
    · rename_i e hu hy hx
      have ey := H.ev y; rw [hy] at ey; simp only [RA] at ey
      have ex := H.ev x; rw [hx] at ex; simp only [RA] at ex
      split at he
      · simp only [Option.some.injEq, Prod.mk.injEq] at he
        obtain ⟨rfl, rfl, rfl⟩ := he
        exact wp_of_run (u := .bool true) (w' := w) (by simp [execOp, ho, ex, ey, eqGuard_slice, Lib.run_eql_slice_nil w t e none 0 0 0 0 hu]) (hK h w val _ (by simp [bo, RA, RD, Value.oneCell']) H (Nx.refl s h w val rfl))
      · simp only [Option.some.injEq, Prod.mk.injEq] at he
        obtain ⟨rfl, rfl, rfl⟩ := he
        exact wp_of_run (u := .bool false) (w' := w) (by simp [execOp, ho, ex, ey, eqGuard_slice, run_neq_slice_nil_any w t e none 0 0 0 0 hu]) (hK h w val _ (by simp [bo, RA, RD, Value.oneCell']) H (Nx.refl s h w val rfl))
      · cases he
    · rename_i e xs hu hy hx _
      have ey := H.ev y; rw [hy] at ey; simp only [RA] at ey
      have ex := H.look (H.ev x); rw [hx] at ex; simp only [RA, RD] at ex
      obtain ⟨ad, cap, k, us, ex, hl, hm, hr, hc⟩ := ex
      split at he
      · simp only [Option.some.injEq, Prod.mk.injEq] at he
        obtain ⟨rfl, rfl, rfl⟩ := he
        simp only [Cn.ok] at hΦ
        obtain ⟨b, rfl, _⟩ := hc (List.length_pos_iff.2 hΦ)
        exact wp_of_run (u := .bool false) (w' := w) (by simp [execOp, ho, ex, ey, eqGuard_slice, Lib.run_eql_slice_nil w t e (some b) xs.length cap 0 0 hu]) (hK h w val _ (by simp [bo, RA, RD, Value.oneCell']) H (Nx.refl s h w val rfl))
      · simp only [Option.some.injEq, Prod.mk.injEq] at he
        obtain ⟨rfl, rfl, rfl⟩ := he
        simp only [Cn.ok] at hΦ
        obtain ⟨b, rfl, _⟩ := hc (List.length_pos_iff.2 hΦ)
        exact wp_of_run (u := .bool true) (w' := w) (by simp [execOp, ho, ex, ey, eqGuard_slice, run_neq_slice_nil_any w t e (some b) xs.length cap 0 0 hu]) (hK h w val _ (by simp [bo, RA, RD, Value.oneCell']) H (Nx.refl s h w val rfl))
      · simp only [Option.some.injEq, Prod.mk.injEq] at he
        obtain ⟨rfl, rfl, rfl⟩ := he
        exact wp_of_run (u := .bool ad.isNone) (w' := w) (by simp [execOp, ho, ex, ey, eqGuard_slice, Lib.run_eql_slice_nil w t e ad xs.length cap 0 0 hu]) (hK h w val _ (by simp only [RA]; exact ⟨_, rfl⟩) H (Nx.refl s h w val rfl))
      · simp only [Option.some.injEq, Prod.mk.injEq] at he
        obtain ⟨rfl, rfl, rfl⟩ := he
        exact wp_of_run (u := .bool (!ad.isNone)) (w' := w) (by simp [execOp, ho, ex, ey, eqGuard_slice, run_neq_slice_nil_any w t e ad xs.length cap 0 0 hu]) (hK h w val _ (by simp only [RA]; exact ⟨_, rfl⟩) H (Nx.refl s h w val rfl))
      · cases he
    · cases he
  · cases he

def toDl (s : St) : List A → Option (List D)
  | [] => some []
  | c :: l => match toD (s.look c), toDl s l with
    | some y, some ys => some (y :: ys)
    | _, _ => none
theorem toDl_ok {s : St} {h w val} {a : Act} (H : Holds s h w val a) : ∀ {cs : List A} {us : List Value} {xs : List D}, toDl s cs = some xs → RAs h w val cs us → (∀ u ∈ us, u.oneCell' = true) → RDs h w xs us
  | [], us, xs, he, hr, _ => by
    simp only [toDl, Option.some.injEq] at he
    subst he
    simpa only [RAs, RDs] using hr
  | c :: cs, us, xs, he, hr, h1 => by
    simp only [toDl] at he
    split at he
    · rename_i y ys hy hys
      simp only [Option.some.injEq] at he
      subst he
      simp only [RAs] at hr
      obtain ⟨u, us', rfl, g1, g2⟩ := hr
      simp only [RDs]
      exact ⟨u, us', rfl, toD_ok hy (H.look g1), h1 u (by simp), toDl_ok H hys g2 fun v hv => h1 v (by simp [hv])⟩
    · cases he
theorem updB_sub {val : Val} {n : Nat} {b : Bk} (ho : b.isOld = true) : ∀ {B : Bx}, (blks val (updB B n b)).Sublist (blks val B)
  | [] => .slnil
  | p :: B => by
    have ih := updB_sub (val := val) (n := n) ho (B := B)
    simp only [updB, blks] at ih ⊢
    simp only [List.map_cons]
    split
    · have e : blkOf val (n, b) = none := by simp [blkOf, ho]
      rw [List.filterMap_cons, e]
      cases hv : blkOf val p with
      | none => simp only [List.filterMap_cons, hv]; exact ih
      | some b => simp only [List.filterMap_cons, hv]; exact .cons _ ih
    · cases hv : blkOf val p with
      | none => simp only [List.filterMap_cons, hv]; exact ih
      | some b => simp only [List.filterMap_cons, hv]; exact .cons_cons _ ih
theorem box_frz {s : St} {h : Hw} {w : World} {val : Val} {a : Act} (H : Holds s h w val a) {n : Nat} {cs : List A} {xs : List D} (hl : lk s.B n = some (.cells cs)) (hx : toDl s cs = some xs) :
    ∃ h', Holds { s with B := updB s.B n (.fz xs) } h' w val a ∧ Nx s h w val { s with B := updB s.B n (.fz xs) } h' w val := by
  have hmem : (n, Bk.cells cs) ∈ s.all := List.mem_append_left _ (lk_mem hl)
  obtain ⟨g, us, ty, hv, hg, hr, h1, h0⟩ := H.inv.rep _ hmem
  simp only at hv
  have hvb : vblk (val n) = some g := by rw [hv]; rfl
  have hgM : g ∈ blks val s.all := Inv.blk_mem hmem (blkOf_of hvb rfl)
  have hd := toDl_ok H hx hr h1
  have hk : Keep (blks val s.all) h w (setH h g us.length) w := by
    refine ⟨rfl, rfl, rfl, Nat.le_refl _, fun _ _ _ _ hc => hc, fun b _ => ?_, fun b _ hn => ⟨rfl, ?_⟩⟩
    · simp only [setH]; split
      · rename_i e; subst e; omega
      · exact Nat.le_refl _
    · have hne : b ≠ g := fun hh => hn (hh ▸ hgM)
      simp only [setH, hne, if_false]
  have hsub : (blks val ({ s with B := updB s.B n (.fz xs) } : St).all).Sublist (blks val s.all) := by
    simp only [St.all, blks_append]
    exact (updB_sub rfl).append (.refl _)
  refine ⟨setH h g us.length, ⟨RAs.stays hk.stays _ _ _ H.e, ⟨?_, ?_, H.inv.bks.sublist hsub⟩, H.far, H.defs⟩, ⟨hk, fun _ _ => rfl, fun b hb => .inl (hsub.subset hb)⟩⟩
  · have other : ∀ p ∈ s.all, p.1 ≠ n → RB (setH h g us.length) w val p.1 p.2 := by
      intro p hp hne
      refine RB.stays hk.stays (fun b hb => ⟨rfl, ?_⟩) (H.inv.rep p hp)
      have hbg : b ≠ g := fun hh => by
        subst hh
        have := blk_inj H.inv.bks hp hmem hb (blkOf_of hvb rfl)
        rw [this] at hne
        exact hne rfl
      simp only [setH, hbg, if_false]
    intro p hp
    rcases List.mem_append.1 hp with hp | hp
    · rcases updB_mem hp with rfl | ⟨hp, hne⟩
      · refine ⟨g, us, hv, RDs.stays hk.stays _ _ hd, fun j v hj => ⟨?_, ?_⟩⟩
        · rw [cell_of_row w g j ⟨us⟩ ty (0, 0) hg]; simpa using hj
        · simp only [setH, if_true]; exact (List.getElem?_eq_some_iff.1 hj).1
      · exact other p (List.mem_append_left _ hp) hne
    · refine other p (List.mem_append_right _ hp) fun e => ?_
      have hnd := H.inv.nms
      simp only [St.all, names_append] at hnd
      have m1 : n ∈ names s.B := by simp only [names, List.mem_map]; exact ⟨_, lk_mem hl, rfl⟩
      have m2 : n ∈ names s.F := by simp only [names, List.mem_map]; exact ⟨p, hp, e⟩
      exact (List.nodup_append.1 hnd).2.2 n m1 n m2 rfl
  · have := H.inv.nms
    simpa only [St.all, names_append, updB_names] using this
def afbox (o : Oper) (s : St) : Option A :=
  match o.op with
  | .box _ x => match toD (s.look (s.ev x)) with
    | some y => some (.eptr y.cells)
    | none => none
  | _ => none
theorem afbox_ok {P : Program} {o : Oper} {s : St} {r : A} (he : afbox o s = some r) : OpOk P o s True r s := by
  intro _ h w val a H K Q hK
  unfold afbox at he
  split at he
  · rename_i t x ho
    split at he
    · rename_i y hy
      simp only [Option.some.injEq] at he
      subst he
      have hr := toD_ok hy (H.look (H.ev x))
      have hcs := hr.cells
      have hkn := keep_new [] h w (.cells (a.eval x).cells t) (a.eval x).cells.size
      have hk := keep_new (blks val s.all) h w (.cells (a.eval x).cells t) (a.eval x).cells.size
      refine wp_of_run (u := .pointer (some ⟨w.heap.size, 0, none⟩)) (w' := w.alloc (.cells (a.eval x).cells t)) ?_ (hK (setH h w.heap.size (a.eval x).cells.size) _ val _ ?_ ?_ ?_)
      · simp [execOp, ho, Instr.box, newVar, newRow]
      · simp only [RA]
        refine ⟨_, (a.eval x).cells.toList, rfl, RDs.stays hk.stays _ _ hcs.1, fun j v hj => ?_⟩
        rw [Addr.add_lit, Nat.zero_add]
        refine ⟨?_, ?_⟩
        · rw [cell_of_row _ w.heap.size j (a.eval x).cells t (0, 0) (heap_alloc_new w _)]; simpa using hj
        · simp only [setH, if_true]; have := (List.getElem?_eq_some_iff.1 hj).1; simpa using this
      · refine ⟨RAs.stays hk.stays _ _ _ H.e, ⟨fun p hp => RB.stays hk.stays (fun b hb => ?_) (H.inv.rep p hp), H.inv.nms, H.inv.bks⟩, H.far, H.defs.keep H.inv hkn (fun b hb => by cases hb) rfl⟩
        exact hkn.far b (H.inv.blk_lt b (Inv.blk_mem hp hb)) (by simp)
      · exact ⟨hk, fun _ _ => rfl, fun b hb => .inl hb⟩
    · cases he
  · cases he
def astoreF (P : Program) (o : Oper) (s : St) : Option (List Ed) :=
  match astore P o s with
  | some [.chg n (.cells cs)] => match allD cs with
    | some xs => some [.chg n (.fz xs)]
    | _ => none
  | _ => none
theorem toDl_allD {s : St} : ∀ {cs : List A} {xs : List D}, allD cs = some xs → toDl s cs = some xs
  | [], xs, h => by simpa only [allD, toDl] using h
  | .d x :: cs, xs, h => by
    simp only [allD, Option.map_eq_some_iff] at h
    obtain ⟨ys, h1, rfl⟩ := h
    simp only [toDl, St.look, toD, toDl_allD h1]
  | .nil :: cs, xs, h => by
    simp only [allD, Option.map_eq_some_iff] at h
    obtain ⟨ys, h1, rfl⟩ := h
    simp only [toDl, St.look, toD, toDl_allD h1]
theorem lk_updB_some {B : Bx} {n : Nat} {b b0 : Bk} (h : lk B n = some b0) : lk (updB B n b) n = some b := by
  induction B with
  | nil => simp [lk] at h
  | cons p B ih =>
    by_cases hp : p.1 = n
    · simp [lk, updB, hp]
    · have h2 : lk B n = some b0 := by simpa [lk, hp] using h
      have := ih h2
      simpa [lk, updB, hp] using this
theorem astore_at {P : Program} {o : Oper} {s : St} {n : Nat} {cs : List A} (h : astore P o s = some [.chg n (.cells cs)]) : ∃ b, lk s.B n = some b := by
  unfold astore at h
  split at h
  · split at h
    · split at h
      · rename_i hl _
        split at h
        · simp only [Option.some.injEq, List.cons.injEq, Ed.chg.injEq, and_true] at h
          obtain ⟨rfl, _⟩ := h
          exact ⟨_, hl⟩
        · cases h
      · cases h
    · cases h
  · cases h
theorem updB_updB (B : Bx) (n : Nat) (b b' : Bk) : updB (updB B n b) n b' = updB B n b' := by
  simp only [updB, List.map_map]
  apply List.map_congr_left
  intro p _
  simp only [Function.comp_apply]
  split
  · simp
  · rename_i h; simp [h]
theorem astoreF_ok {P : Program} {o : Oper} {s : St} {es : List Ed} (he : astoreF P o s = some es) : OpOk P o s True .any (s.edit es) := by
  intro hΦ h w val a H K Q hK
  unfold astoreF at he
  split at he
  · rename_i n cs hst
    split at he
    · rename_i xs hx
      simp only [Option.some.injEq] at he
      subst he
      obtain ⟨b0, hb0⟩ := astore_at hst
      refine astore_ok hst trivial h w val a H K Q fun h1 w1 v1 u hr H1 n1 => ?_
      obtain ⟨h2, H2, n2⟩ := box_frz H1 (n := n) (cs := cs) (lk_updB_some hb0) (toDl_allD hx)
      have e : ({ s.edit [.chg n (.cells cs)] with B := updB (s.edit [.chg n (.cells cs)]).B n (.fz xs) } : St) = s.edit [.chg n (.fz xs)] := by
        simp only [St.edit, List.foldl_cons, List.foldl_nil, applyEd, updB_updB]
      rw [e] at H2 n2
      exact hK h2 w1 v1 u (by simp [RA]) H2 (n1.trans n2)
    · cases he
  · cases he
end Go.Ac
