/- Own work: how calls of the model run over plain data. -/
import Derived.Test.YtbmojpadjglncaaGreatAc10h
import Derived.Maps.RangeRun
set_option linter.unusedVariables false
set_option linter.unusedSimpArgs false
namespace Go.Ac
open Go.MapKept
theorem blk_set {s : St} {h : Hw} {w : World} {val : Val} {a : Act} (H : Holds s h w val a) {n b : Nat} {bk bk' : Bk} {o0 o' : Obj}
    (hl : lk s.B n = some bk) (ho : bk.isOld = false) (ho' : bk'.isOld = false) (hvb : vblk (val n) = some b) (hg : w.heap[b]? = some o0) (hc : ∀ c e f, o0 ≠ .cells c e f) (hb' : RB h { w with heap := w.heap.setIfInBounds b o' } val n bk') :
    Holds { s with B := updB s.B n bk' } h { w with heap := w.heap.setIfInBounds b o' } val a ∧ Nx s h w val { s with B := updB s.B n bk' } h { w with heap := w.heap.setIfInBounds b o' } val := by
  have hmem : (n, bk) ∈ s.all := List.mem_append_left _ (lk_mem hl)
  have hgM : b ∈ blks val s.all := Inv.blk_mem hmem (blkOf_of hvb ho)
  have hk : Keep (blks val s.all) h w h { w with heap := w.heap.setIfInBounds b o' } := ⟨rfl, rfl, rfl, by simp, fun x i v _ hcc => by
    unfold World.cell? at hcc ⊢
    by_cases e : x = b
    · subst e; simp only [hg] at hcc; cases o0 <;> first | (cases hcc; done) | exact absurd rfl (hc _ _ _)
    · simp only at hcc ⊢; rw [heap_other e]; exact hcc, fun _ _ => Nat.le_refl _, fun x _ hn => ⟨heap_other fun e => hn (e ▸ hgM), rfl⟩⟩
  have hsame : ∀ b', (n, b') ∈ s.B → b'.isOld = bk'.isOld := fun b2 hb2 => by
    have := nodup_names H.inv.nms (List.mem_append_left _ hb2) hmem
    rw [this, ho, ho']
  refine ⟨⟨RAs.stays hk.stays _ _ _ H.e, ⟨?_, ?_, ?_⟩, H.far, H.defs.keep H.inv hk (fun b hb => hb) rfl⟩, ⟨hk, fun _ _ => rfl, fun b hb => .inl ?_⟩⟩
  · intro p hp
    rcases List.mem_append.1 hp with hp | hp
    · rcases updB_mem hp with rfl | ⟨hp, hne⟩
      · exact hb'
      · refine RB.stays hk.stays (fun g hg' => ⟨heap_other fun e => ?_, rfl⟩) (H.inv.rep p (List.mem_append_left _ hp))
        subst e
        have := blk_inj H.inv.bks (List.mem_append_left _ hp) hmem hg' (blkOf_of hvb ho)
        rw [this] at hne
        exact hne rfl
    · refine RB.stays hk.stays (fun g hg' => ⟨heap_other fun e => ?_, rfl⟩) (H.inv.rep p (List.mem_append_right _ hp))
      subst e
      have e4 := blk_inj H.inv.bks (List.mem_append_right _ hp) hmem hg' (blkOf_of hvb ho)
      have hnd := H.inv.nms
      simp only [St.all, names_append] at hnd
      have m1 : n ∈ names s.B := by simp only [names, List.mem_map]; exact ⟨_, lk_mem hl, rfl⟩
      have m2 : n ∈ names s.F := by simp only [names, List.mem_map]; exact ⟨p, hp, by rw [e4]⟩
      exact (List.nodup_append.1 hnd).2.2 n m1 n m2 rfl
  · have := H.inv.nms
    simpa only [St.all, names_append, updB_names] using this
  · have := H.inv.bks
    simpa only [St.all, blks_append, updB_blks hsame] using this
  · simpa only [St.all, blks_append, updB_blks hsame] using hb
theorem REs.mem' {h w} : ∀ {xs : List (Nat × D × D)} {l : List MapEntry}, REs h w xs l → ∀ x ∈ xs, ∃ e ∈ l, e.born = x.1 ∧ RD h w x.2.1 e.key ∧ RD h w x.2.2 e.val
  | [], _, _, x, hx => by simp at hx
  | y :: xs, _, ⟨e0, l', a, b, c, d, r⟩, x, hx => by
    subst a
    rcases List.mem_cons.1 hx with rfl | hx
    · exact ⟨e0, by simp, b, c, d⟩
    · obtain ⟨e, he, q⟩ := REs.mem' r x hx
      exact ⟨e, by simp [he], q⟩
def MEnr (clk clk' : Nat) (es : List (Nat × D × D)) (seen : List Nat) (k v : D) : Prop := clk = clk' ∧ ∃ sn st, seen = sn ++ [st] ∧ (st, k, v) ∈ es
def amit (P : Program) (o : Oper) (s : St) (wt : W) : Option (Cn × A × List Ed) :=
  match o.op with
  | .range t x => match mapAt s (s.ev x), P.underlying t, o.dst with
    | some (n, clk, _), some (.map _ _), some d => if d < up && !hasAny d s.E && !bxHas d s.B then some (.t, .box d 0, [.add d (.mit n clk [])]) else none
    | _, _, _ => none
  | .entry it => match s.ev it, wt with
    | .box d 0, .en k v => match lk s.B d with
      | some (.mit n clk seen) => match lk s.B n with
        | some (.map clk' es) => some (.pr (MEnr clk clk' es seen k v), .tup [.d k, .d v], [])
        | _ => none
      | _ => none
    | _, _ => none
  | _ => none
theorem natPush (l : List Nat) (x : Nat) : (⟨l⟩ : Array Nat).push x = ⟨l ++ [x]⟩ := by apply Array.ext'; simp
theorem amit_ok {P : Program} {o : Oper} {s : St} {wt : W} {Φ : Cn} {r : A} {es : List Ed} (he : amit P o s wt = some (Φ, r, es)) : OpOk P o s Φ.ok r (s.edit es) := by
  intro hΦ h w val a H K Q hK
  unfold amit at he
  split at he
  · rename_i t x ho
    split at he
    · rename_i n clk es0 kt et d hm ht hd
      split at he
      · rename_i hc
        simp only [Bool.and_eq_true, decide_eq_true_eq, Bool.not_eq_true'] at hc
        obtain ⟨⟨c3, c4⟩, c5⟩ := hc
        simp only [Option.some.injEq, Prod.mk.injEq] at he
        obtain ⟨rfl, rfl, rfl⟩ := he
        obtain ⟨hl, b, l, hum, hv0, hg, hr, q1, q2, q3, h0⟩ := mapAt_ok H (H.ev x) hm
        have hnd : n ≠ d := fun e => (bxHas_spec c5 _ (lk_mem hl)).1 e
        have hvd : setV val d (.pointer (some ⟨w.heap.size, 0, none⟩)) d = .pointer (some ⟨w.heap.size, 0, none⟩) := by simp [setV]
        obtain ⟨f1, f2⟩ := H.fresh c3 c4 c5 (.mapIter (some b) clk #[] clk) (.pointer (some ⟨w.heap.size, 0, none⟩)) 0 (.mit n clk []) rfl rfl
          ⟨w.heap.size, b, hvd, by simp only [setV, hnd, if_false]; exact hv0, heap_alloc_new w _⟩
        refine wp_of_run (u := .pointer (some ⟨w.heap.size, 0, none⟩)) (w' := w.alloc (.mapIter (some b) clk #[] clk)) ?_ (hK _ _ _ _ (by simp only [RA]; exact ⟨_, hvd, rfl⟩) f1.ins f2.ins)
        simp [execOp, ho, Instr.range, run_underlying ht, hum, MapKept.run_getObj_map hg]
      · cases he
    · cases he
  · rename_i it ho
    split at he
    · rename_i d k v hit
      split at he
      · rename_i n clk seen hl
        split at he
        · rename_i clk' es0 hl2
          simp only [Option.some.injEq, Prod.mk.injEq] at he
          obtain ⟨rfl, rfl, rfl⟩ := he
          obtain ⟨rfl, sn, st, rfl, hmem⟩ := hΦ
          obtain ⟨r, b, e1, e2, e3⟩ := H.inv.rep _ (List.mem_append_left _ (lk_mem hl))
          obtain ⟨b', l, g1, g2, g3, g4, g5, g6, g7⟩ := H.inv.rep _ (List.mem_append_left _ (lk_mem hl2))
          simp only at e1 e2 g1
          have hb : b = b' := by rw [e2] at g1; cases g1; rfl
          subst hb
          have hi := H.ev it
          rw [hit] at hi
          simp only [RA] at hi
          obtain ⟨r', i1, i2⟩ := hi
          have hr' : r' = r := by rw [e1] at i1; cases i1; rfl
          subst hr'
          obtain ⟨e, he, f1, f2, f3⟩ := REs.mem' g3 _ hmem
          simp only at f1
          have hrun := run_entry_at (P := P) w r' b clk ⟨sn⟩ ⟨l⟩ clk e (by rw [natPush, f1]; exact e3) g2 he (by rw [REs.born g3]; exact g5)
          refine wp_of_run (u := .tuple #[e.key, e.val]) (w' := w) ?_ (hK h w val _ ?_ H (Nx.refl s h w val rfl))
          · simp [execOp, ho, i2, hrun]
          · simp only [RA, RAs]
            exact ⟨[e.key, e.val], rfl, e.key, [e.val], rfl, f2, e.val, [], rfl, f3, rfl⟩
        · cases he
      · cases he
    · cases he
  · cases he
end Go.Ac
