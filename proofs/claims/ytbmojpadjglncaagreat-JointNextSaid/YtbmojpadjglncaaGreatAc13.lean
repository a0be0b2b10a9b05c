/- Own work: how calls of the model run over plain data. -/
import Derived.Test.YtbmojpadjglncaaGreatAc12
set_option linter.unusedVariables false
set_option linter.unusedSimpArgs false
namespace Go.Ac

def fresh (d : Nat) (s : St) : Bool := decide (d < up) && !hasAny d s.E && !bxHas d s.B

def xns : W → List Nat
  | .cx _ ρ0 _ _ _ => ρ0.map (·.2)
  | .lend ns _ => ns
  | .fzn m => [m]
  | _ => []
def nns : W → List Nat
  | .cx _ _ ρ1 _ _ => ρ1.map (·.2)
  | _ => []
structure Same (o : Oper) (s s' : St) : Prop where
  ev : ∀ x ∈ o.op.operands, s'.ev x = s.ev x
  bx : ∀ x ∈ o.op.operands, ∀ n, (s.ev x).has n = true → lk s'.B n = lk s.B n

theorem Same.look {o : Oper} {s s' : St} (h : Same o s s') : ∀ x ∈ o.op.operands, s'.look (s'.ev x) = s.look (s.ev x) := by
  intro x hx
  rw [h.ev x hx]
  have hb := h.bx x hx
  cases hv : s.ev x with
  | row n => rw [hv] at hb; simp only [St.look, hb n (by simp [A.has])]
  | box n off => rw [hv] at hb; cases off <;> simp only [St.look, hb n (by simp [A.has])]
  | _ => simp only [St.look]

theorem apure_same {P : Program} {o : Oper} {ev ev' rd rd' : Operand → A} {wt : W} (he : ∀ x ∈ o.op.operands, ev' x = ev x) (hr : ∀ x ∈ o.op.operands, rd' x = rd x) : apure P o ev' rd' wt = apure P o ev rd wt := by
  unfold apure
  cases ho : o.op <;> try rfl
  all_goals (rw [ho] at he hr; simp only [Op.operands] at he hr)
  case call c =>
    obtain ⟨callee, args, tys⟩ := c
    have he' : ∀ x ∈ args.toList, ev' x = ev x := fun x hx => he x (by simp only [Call.operands, Array.mem_append]; exact .inr (Array.mem_toList_iff.1 hx))
    have hr' : ∀ x ∈ args.toList, rd' x = rd x := fun x hx => hr x (by simp only [Call.operands, Array.mem_append]; exact .inr (Array.mem_toList_iff.1 hx))
    revert he' hr'
    simp only
    generalize args.toList = l
    intro he' hr'
    split <;> first | rfl | (simp only [List.mem_cons, List.not_mem_nil, or_false, forall_eq_or_imp, forall_eq] at he' hr'; simp [he', hr'])
  case slice t x l h m =>
    have h1 : ev' x = ev x := he x (by simp)
    have h2 : rd' x = rd x := hr x (by simp)
    have h3 : l.map ev' = l.map ev := by
      cases l with
      | none => rfl
      | some y => simp only [Option.map_some]; rw [he y (by simp)]
    have h4 : h.map ev' = h.map ev := by
      cases h with
      | none => rfl
      | some y => simp only [Option.map_some]; rw [he y (by simp)]
    cases m <;> simp only [h2, h3, h4]
  case makeFunc fn first captured =>
    have h1 : first.toList.map rd' = first.toList.map rd := List.map_congr_left fun x hx => hr x (by simp only [Array.mem_append]; exact .inl (Array.mem_toList_iff.1 hx))
    have h2 : captured.toList.map rd' = captured.toList.map rd := List.map_congr_left fun x hx => hr x (by simp only [Array.mem_append]; exact .inr (Array.mem_toList_iff.1 hx))
    simp only [h1, h2]
  all_goals simp_all

theorem aload_same {P : Program} {o : Oper} {s s' : St} {wt : W} (h : Same o s s') : aload P o s' wt = aload P o s wt := by
  unfold aload
  cases ho : o.op <;> try rfl
  rename_i t x
  have h1 := h.ev x (by rw [ho]; simp [Op.operands])
  have h2 := h.bx x (by rw [ho]; simp [Op.operands])
  simp only [h1]
  cases hv : s.ev x <;> simp only
  rename_i n off
  rw [hv] at h2
  rw [h2 n (by simp [A.has])]
theorem astore_same {P : Program} {o : Oper} {s s' : St} (h : Same o s s') : astore P o s' = astore P o s := by
  unfold astore
  cases ho : o.op <;> try rfl
  rename_i t x y
  have h1 := h.ev x (by rw [ho]; simp [Op.operands])
  have h2 := h.bx x (by rw [ho]; simp [Op.operands])
  have h3 := h.ev y (by rw [ho]; simp [Op.operands])
  simp only [h1, h3]
  cases hv : s.ev x <;> simp only
  rename_i n off
  rw [hv] at h2
  rw [h2 n (by simp [A.has])]
theorem fresh_and {d : Nat} {s : St} (h : fresh d s = true) : d < up ∧ hasAny d s.E = false ∧ bxHas d s.B = false := by
  simp only [fresh, Bool.and_eq_true, decide_eq_true_eq, Bool.not_eq_true'] at h
  exact ⟨h.1.1, h.1.2, h.2⟩
theorem abox_same {P : Program} {o : Oper} {s s' : St} {z : A × List Ed} (h : Same o s s') (hf : ∀ d, o.dst = some d → fresh d s' = true) (he : abox P o s = some z) : abox P o s' = some z := by
  unfold abox at he ⊢
  split at he
  · cases he
  · rename_i d hd
    obtain ⟨f1, f2, f3⟩ := fresh_and (hf d hd)
    split at he
    · simp only [f1, f2, f3, decide_true, Bool.not_false, Bool.and_self, if_true]
      cases ho : o.op <;> simp only [ho] at he ⊢ <;> try (cases he; done)
      · exact he
      · rename_i t x
        rw [h.ev x (by rw [ho]; simp [Op.operands])]
        exact he
    · cases he
theorem toDs_same {s s' : St} : ∀ {l : List Operand}, (∀ x ∈ l, s'.look (s'.ev x) = s.look (s.ev x)) → toDs s' l = toDs s l
  | [], _ => rfl
  | x :: l, h => by
    simp only [toDs]
    rw [h x (by simp), toDs_same fun y hy => h y (by simp [hy])]
theorem abuildSlice_same {P : Program} {o : Oper} {s s' : St} {z : Cn × A × List Ed} (h : Same o s s') (hf : ∀ d, o.dst = some d → fresh d s' = true) (he : abuildSlice P o s = some z) : abuildSlice P o s' = some z := by
  unfold abuildSlice at he ⊢
  split at he
  · rename_i d t len parts hd ho
    obtain ⟨f1, f2, f3⟩ := fresh_and (hf d hd)
    skip
    split at he
    · split at he
      · split at he
        · rename_i e he1 i hi hc
          simp only [Bool.and_eq_true, decide_eq_true_eq, Bool.not_eq_true'] at hc
          have e1 : toDs s' (parts.toList.map (·.2)) = toDs s (parts.toList.map (·.2)) := toDs_same fun x hx => h.look x (by rw [ho]; simpa [Op.operands] using hx)
          simp only [f1, f2, f3, hc.1.1.1.1.1, hc.1.1.1.1.2, hc.1.1.1.2, decide_true, Bool.not_false, Bool.and_self, if_true, e1]
          exact he
        · cases he
      · cases he
    · cases he
  · cases he
theorem aappend_same {P : Program} {o : Oper} {s s' : St} {wt : W} {z : Cn × A × List Ed} (h : Same o s s') (hf : ∀ d, o.dst = some d → fresh d s' = true) (he : aappend P o s wt = some z) : aappend P o s' wt = some z := by
  unfold aappend at he ⊢
  cases hd : o.dst with
  | none => rw [hd] at he; simp only at he; cases he
  | some d =>
    obtain ⟨f1, f2, f3⟩ := fresh_and (hf d hd)
    rw [hd] at he
    cases ho : o.op <;> rw [ho] at he <;> simp only at he ⊢ <;> try (cases he; done)
    rename_i c
    obtain ⟨callee, args, tys⟩ := c
    have hargs : ∀ x ∈ args.toList, x ∈ o.op.operands := fun x hx => by
      rw [ho]; simp only [Op.operands, Call.operands, Array.mem_append]; exact .inr (Array.mem_toList_iff.1 hx)
    simp only at he ⊢
    split at he
    · rename_i x y t t' ha ht
      rw [ha] at hargs
      have h1 := h.ev x (hargs x (by simp))
      have h2 := h.bx x (hargs x (by simp))
      have h3 := h.look y (hargs y (by simp))
      simp only [h1, h3]
      split at he
      · split at he
        · rename_i e ys he1 he2
          split at he
          · rename_i i hi
            split at he
            · rename_i hc
              rw [if_pos (by assumption)]
              skip
              rw [if_pos hc]
              split at he
              · rename_i hx
                skip
                simp only [f1, f2, f3, decide_true, Bool.not_false, Bool.and_self, if_true]
                split at he
                · exact he
                · cases he
              · rename_i n hx
                rw [hx] at h2
                skip
                simp only [h2 n (by simp [A.has])]
                split at he
                · rename_i e' k xs hl
                  split at he
                  · rename_i hcc
                    skip
                    rw [if_pos ⟨hcc.1, hcc.2.1, f1, f2, f3⟩]
                    exact he
                  · cases he
                · cases he
              · cases he
            · cases he
          · cases he
        · cases he
      · cases he
    · cases he
theorem acallP_same {P : Program} {o : Oper} {s s' : St} {wt : W} (h : Same o s s') : acallP P o s' wt = acallP P o s wt := by
  unfold acallP
  cases ho : o.op <;> try rfl
  rename_i c
  obtain ⟨callee, args, tys⟩ := c
  cases callee <;> try rfl
  rename_i g
  have h1 := h.ev g (by rw [ho]; simp [Op.operands, Call.operands])
  have h2 : args.toList.map (fun x => s'.look (s'.ev x)) = args.toList.map (fun x => s.look (s.ev x)) := List.map_congr_left fun x hx => h.look x (by
    rw [ho]; simp only [Op.operands, Call.operands, Array.mem_append]; exact .inr (Array.mem_toList_iff.1 hx))
  simp only [h1, h2]
theorem lentRow_same {s s' : St} {ns : List Nat} (h : ∀ n ∈ ns, lk s'.B n = lk s.B n) (n : Nat) : lentRow s' ns n = lentRow s ns n := by
  unfold lentRow
  cases hn : listMem n ns
  · rfl
  · simp only [if_true]
    rw [h n (listMem_iff.1 hn)]
theorem lentC_same {s s' : St} {ns : List Nat} {bx bx' : Nat → Option D} (h : ∀ n ∈ ns, lk s'.B n = lk s.B n) (hb : ∀ n, bx' n = bx n) : ∀ (cs : List A), (∀ n, hasAny n cs = true → n ∈ ns) → lentC s' ns bx' cs = lentC s ns bx cs
  | [], _ => rfl
  | c :: cs, hc => by
    have ih := lentC_same h hb cs fun n hn => hc n (by simp [hasAny, hn])
    cases c with
    | row n =>
      have hn : n ∈ ns := hc n (by simp [hasAny, A.has])
      simp only [lentC, lentRow_same h, ih, St.look, h n hn]
    | box n off => simp only [lentC, hb, ih]
    | d x => simp only [lentC, ih]
    | nil => simp only [lentC, ih]
    | eptr x => simp only [lentC, ih]
    | clo f a b =>
      cases a with
      | nil => cases b <;> simp only [lentC, ih]
      | cons _ _ => simp only [lentC]
    | _ => simp only [lentC]
def cellsIn (s : St) (ns : List Nat) : Bool := listAll (fun n => match lk s.B n with
  | some (.cells cs) => nmssIn cs ns
  | _ => true) ns
theorem nmssIn_ok {as : List A} {l : List Nat} (h : nmssIn as l = true) (n : Nat) (hn : hasAny n as = true) : n ∈ l := by
  unfold nmssIn at h
  split at h
  · rename_i x hx
    exact listMem_iff.1 (listAll_ok h n (has_nmss as hx n hn))
  · cases h
theorem lentB_same {s s' : St} {ns : List Nat} (h : ∀ n ∈ ns, lk s'.B n = lk s.B n) (hc : cellsIn s ns = true) : ∀ (k n : Nat), lentB s' ns k n = lentB s ns k n
  | 0, _ => rfl
  | k + 1, n => by
    simp only [lentB]
    cases hn : listMem n ns
    · rfl
    · simp only [if_true]
      have hm := listMem_iff.1 hn
      rw [h n hm]
      cases hl : lk s.B n with
      | none => rfl
      | some b =>
        cases b with
        | cells cs =>
          simp only
          have := listAll_ok hc n hm
          simp only [hl] at this
          exact lentC_same h (fun m => by rw [lentB_same h hc k m]) cs (nmssIn_ok this)
        | _ => rfl
mutual
theorem lentA_same {s s' : St} {ns : List Nat} (h : ∀ n ∈ ns, lk s'.B n = lk s.B n) (hc : cellsIn s ns = true) : ∀ a : A, lentA s' ns a = lentA s ns a
  | .row n => by simp only [lentA, lentRow_same h]
  | .box n off => by simp only [lentA, lentB_same h hc]
  | .clo f a b => by simp only [lentA, lentAs_same h hc a, lentAs_same h hc b]
  | .d _ => by simp only [lentA]
  | .bsl _ _ _ => by simp only [lentA]
  | .ep _ _ _ _ => by simp only [lentA]
  | .ub => by simp only [lentA]
  | .eptr _ => by simp only [lentA]
  | .agg _ => by simp only [lentA]
  | .tup _ => by simp only [lentA]
  | .opq _ => by simp only [lentA]
  | .nil => by simp only [lentA]
  | .any => by simp only [lentA]
theorem lentAs_same {s s' : St} {ns : List Nat} (h : ∀ n ∈ ns, lk s'.B n = lk s.B n) (hc : cellsIn s ns = true) : ∀ as : List A, lentAs s' ns as = lentAs s ns as
  | [] => rfl
  | a :: as => by simp only [lentAs, lentA_same h hc a, lentAs_same h hc as]
end
theorem frs_fresh (d : Nat) (s : St) : frs d s = fresh d s := rfl
theorem xOk_same {ρ0 ρ1 : List (Nat × Nat)} {s s' : St} {args : List A} {r : A} {X' raw : Bx} (hf : ∀ d ∈ ρ1.map (·.2), fresh d s' = true) (h : xOk ρ0 ρ1 s args r X' raw = true) : xOk ρ0 ρ1 s' args r X' raw = true := by
  simp only [xOk, Bool.and_eq_true] at h ⊢
  refine ⟨h.1, ?_⟩
  have : ∀ l : List Nat, (∀ d ∈ l, fresh d s' = true) → listAll (fun n => frs n s') l = true := by
    intro l
    induction l with
    | nil => intro _; rfl
    | cons x l ih =>
      intro hl
      simp only [listAll, Bool.and_eq_true]
      exact ⟨hl x (.head _), ih fun d hd => hl d (.tail _ hd)⟩
  exact this _ hf
theorem call_args_same {o : Oper} {s s' : St} (h : Same o s s') {callee : Operand} {args : Array Operand} {tys : Array TypeId} (ho : o.op = .call { callee := .value callee, args, argTypes := tys }) :
    s'.ev callee = s.ev callee ∧ args.toList.map (fun x => s'.look (s'.ev x)) = args.toList.map (fun x => s.look (s.ev x)) :=
  ⟨h.ev callee (by rw [ho]; simp [Op.operands, Call.operands]), List.map_congr_left fun x hx => h.look x (by
    rw [ho]; simp only [Op.operands, Call.operands, Array.mem_append]; exact .inr (Array.mem_toList_iff.1 hx))⟩
theorem acallL_same {P : Program} {o : Oper} {s s' : St} {wt : W} (h : Same o s s') (hx : ∀ n ∈ xns wt, lk s'.B n = lk s.B n) (hc : ∀ ns r, wt = .lend ns r → cellsIn s ns = true) : acallL P o s' wt = acallL P o s wt := by
  unfold acallL
  cases ho : o.op <;> try rfl
  rename_i c
  obtain ⟨callee, args, tys⟩ := c
  cases callee <;> try rfl
  rename_i g
  obtain ⟨h1, h2⟩ := call_args_same h ho
  simp only [h1, h2]
  cases calleeOf (s.ev g) with
  | none => rfl
  | some p =>
    obtain ⟨f, fs, cs⟩ := p
    cases wt <;> try rfl
    rename_i ns r
    have e : ∀ as, lentAs s' ns as = lentAs s ns as := lentAs_same (fun n hn => hx n hn) (hc ns r rfl)
    simp only [e]
theorem acallX_same {P : Program} {o : Oper} {s s' : St} {wt : W} {z : Ob × A × List Ed} (h : Same o s s') (hx : ∀ n ∈ xns wt, lk s'.B n = lk s.B n) (hf : ∀ d ∈ nns wt, fresh d s' = true) (he : acallX P o s wt = some z) : acallX P o s' wt = some z := by
  unfold acallX at he ⊢
  cases ho : o.op <;> rw [ho] at he <;> try (cases he; done)
  rename_i c
  obtain ⟨callee, args, tys⟩ := c
  cases callee <;> try (cases he; done)
  rename_i g
  obtain ⟨h1, h2⟩ := call_args_same h ho
  have h3 : ∀ bb : Bool, args.toList.map (fun x => if bb = true then s'.ev x else s'.look (s'.ev x)) = args.toList.map (fun x => if bb = true then s.ev x else s.look (s.ev x)) := fun bb => List.map_congr_left fun x hx => by
    have hm : x ∈ o.op.operands := by rw [ho]; simp only [Op.operands, Call.operands, Array.mem_append]; exact .inr (Array.mem_toList_iff.1 hx)
    rw [← h.look x hm, h.ev x hm]
  simp only [h1] at he ⊢
  cases hg : calleeOf (s.ev g) with
  | none => rw [hg] at he; cases he
  | some p =>
    obtain ⟨f, fs, cs⟩ := p
    rw [hg] at he
    cases wt <;> try (cases he; done)
    rename_i bb ρ0 ρ1 r X'
    simp only [h3 bb] at he ⊢
    have e : lkAll s'.B ρ0 = lkAll s.B ρ0 := lkAll_same fun p hp => hx p.2 (List.mem_map.2 ⟨p, hp, rfl⟩)
    rw [e]
    generalize args.toList.map (fun x => if bb = true then s.ev x else s.look (s.ev x)) = as at he ⊢
    split at he
    · rename_i raw hraw
      split at he
      · rename_i hb
        simp only [Bool.and_eq_true] at hb
        rw [if_pos (by simp only [Bool.and_eq_true]; exact ⟨hb.1, xOk_same hf hb.2⟩)]
        exact he
      · cases he
    · cases he
theorem abuild_same {P : Program} {o : Oper} {s s' : St} (h : Same o s s') : abuild P o (fun x => s'.look (s'.ev x)) = abuild P o (fun x => s.look (s.ev x)) := by
  unfold abuild
  cases ho : o.op <;> try rfl
  rename_i t parts
  have h1 : parts.toList.map (fun p => (p.1, s'.look (s'.ev p.2))) = parts.toList.map (fun p => (p.1, s.look (s.ev p.2))) := List.map_congr_left fun x hx => by
    rw [h.look x.2 (by rw [ho]; simp only [Op.operands, List.mem_toArray]; exact List.mem_map.2 ⟨x, hx, rfl⟩)]
  simp only [h1]
theorem bufAt_same {s s' : St} {x : A} (hb : ∀ n, x.has n = true → lk s'.B n = lk s.B n) : bufAt s' x = bufAt s x := by
  unfold bufAt
  cases x <;> try rfl
  · rename_i n off
    cases off <;> simp only [hb n (by simp [A.has])]
  · rename_i n
    simp only [hb n (by simp [A.has])]
theorem isBuf_same {s s' : St} {x : A} (hb : ∀ n, x.has n = true → lk s'.B n = lk s.B n) : isBuf s' x = isBuf s x := by
  unfold isBuf; rw [bufAt_same hb]
theorem rwAt_same {s s' : St} {x : A} (hb : ∀ n, x.has n = true → lk s'.B n = lk s.B n) : rwAt s' x = rwAt s x := by
  unfold rwAt
  cases x <;> try rfl
  rename_i n
  simp only [hb n (by simp [A.has])]
theorem isRw_same {s s' : St} {x : A} (hb : ∀ n, x.has n = true → lk s'.B n = lk s.B n) : isRw s' x = isRw s x := by
  unfold isRw; rw [rwAt_same hb]
theorem mapAt_same {s s' : St} {x : A} (hb : ∀ n, x.has n = true → lk s'.B n = lk s.B n) : mapAt s' x = mapAt s x := by
  unfold mapAt
  cases x <;> try rfl
  rename_i n
  simp only [hb n (by simp [A.has])]
theorem isMap_same {s s' : St} {x : A} (hb : ∀ n, x.has n = true → lk s'.B n = lk s.B n) : isMap s' x = isMap s x := by
  unfold isMap; rw [mapAt_same hb]
theorem tagOf_same {P : Program} {o : Oper} {s s' : St} (h : Same o s s') : tagOf P s' o = tagOf P s o := by
  have hev := h.ev
  have hbx := fun x hx => isBuf_same (h.bx x hx)
  have hrw := fun x hx => isRw_same (h.bx x hx)
  have hmp := fun x hx => isMap_same (h.bx x hx)
  unfold tagOf
  cases ho : o.op <;> rw [ho] at hev hbx hrw hmp <;> simp only [Op.operands] at hev hbx hrw hmp <;> try rfl
  case load t x => simp only [hev x (by simp)]
  case store t x y => simp only [hev x (by simp)]
  case move x => simp only [hev x (by simp), hbx x (by simp)]
  case indexAddr t x i => simp only [hev x (by simp), hbx x (by simp), hrw x (by simp)]
  case slice t x l hh m =>
    cases l <;> cases hh <;> cases m <;> simp only [hev x (by simp), hbx x (by simp)]
  case binOp op t x y yt => simp only [hev y (by simp)]
  case call c =>
    obtain ⟨callee, ⟨args⟩, tys⟩ := c
    cases callee <;> try rfl
    rename_i b
    cases b <;> try rfl
    simp only [Call.operands] at hev hbx hrw hmp
    match args with
    | [] => rfl
    | [x] => simp only [hev x (by simp), hbx x (by simp), hrw x (by simp), hmp x (by simp)]
    | x :: y :: l => rfl
theorem abufMk_same {P : Program} {o : Oper} {s s' : St} {wt : W} {z : Cn × A × List Ed} (h : Same o s s') (hf : ∀ d, o.dst = some d → fresh d s' = true) (he : abufMk P o s wt = some z) : abufMk P o s' wt = some z := by
  unfold abufMk at he ⊢
  split at he
  · rename_i d t hd ho
    obtain ⟨f1, f2, f3⟩ := fresh_and (hf d hd)
    split at he
    · split at he
      · rename_i z hz hc
        simp only [Bool.and_eq_true, decide_eq_true_eq, Bool.not_eq_true'] at hc
        simp only [hd, ho, f1, f2, f3, hc.1.1.1.1, hc.1.1.1.2, hz, decide_true, Bool.not_false, Bool.and_self, if_true]
        exact he
      · cases he
    · cases he
  · rename_i d t l c hd ho
    obtain ⟨f1, f2, f3⟩ := fresh_and (hf d hd)
    have h1 := h.ev l (by rw [ho]; simp [Op.operands])
    have h2 := h.ev c (by rw [ho]; simp [Op.operands])
    simp only [hd, ho, h1, h2]
    split at he
    · split at he
      · split at he
        · split at he
          · rename_i hc
            simp only [Bool.and_eq_true, decide_eq_true_eq, Bool.not_eq_true'] at hc
            obtain ⟨⟨⟨⟨⟨⟨⟨c1, c2⟩, c3⟩, c4⟩, c5⟩, c6⟩, c7⟩, c8⟩ := hc
            simp only [c1, c2, c3, c4, c5, f1, f2, f3, decide_true, Bool.not_false, Bool.and_self, if_true]
            exact he
          · cases he
        · cases he
      · cases he
    · cases he
  · cases he
theorem lk_same_ep {o : Oper} {s s' : St} (h : Same o s s') {x : Operand} (hx : x ∈ o.op.operands) {n k i off : Nat} (he : s.ev x = .ep n k i off) : lk s'.B n = lk s.B n :=
  h.bx x hx n (by rw [he]; simp [A.has])
theorem abufAt_same {P : Program} {o : Oper} {s s' : St} {wt : W} (h : Same o s s') : abufAt P o s' wt = abufAt P o s wt := by
  have hev := h.ev
  have hbx := fun x hx => bufAt_same (h.bx x hx)
  unfold abufAt
  cases ho : o.op <;> try rfl
  case indexAddr t x i =>
    rw [ho] at hev hbx; simp only [Op.operands] at hev hbx
    simp only [hev x (by simp), hev i (by simp), hbx x (by simp)]
  case move x =>
    rw [ho] at hev hbx; simp only [Op.operands] at hev hbx
    simp only [hev x (by simp), hbx x (by simp)]
  case slice t x l hh m =>
    rw [ho] at hev hbx; simp only [Op.operands] at hev hbx
    cases l <;> cases hh <;> cases m <;> simp only [hev x (by simp), hbx x (by simp)]
  case load t x =>
    have h1 := h.ev x (by rw [ho]; simp [Op.operands])
    simp only [h1]
    cases hx : s.ev x with
    | ep n k i off =>
      have hlk := lk_same_ep h (by rw [ho]; simp [Op.operands]) hx
      cases wt <;> first | rfl | simp only [hlk]
    | _ => rfl
  case store t x y =>
    have h1 := h.ev x (by rw [ho]; simp [Op.operands])
    have h2 := h.look y (by rw [ho]; simp [Op.operands])
    simp only [h1, h2]
    cases hx : s.ev x with
    | ep n k i off =>
      have hlk := lk_same_ep h (by rw [ho]; simp [Op.operands]) hx
      cases hy : toD (s.look (s.ev y)) <;> cases off <;> first | rfl | simp only [hlk]
    | _ => rfl
  case call c =>
    obtain ⟨callee, ⟨args⟩, ⟨tys⟩⟩ := c
    simp only
    split
    · rename_i x t
      have h1 := h.ev x (by rw [ho]; simp [Op.operands, Call.operands])
      have h2 := bufAt_same (h.bx x (by rw [ho]; simp [Op.operands, Call.operands]))
      simp only [h1, h2]
    · rfl
theorem arwAt_same {P : Program} {o : Oper} {s s' : St} {wt : W} (h : Same o s s') : arwAt P o s' wt = arwAt P o s wt := by
  have hev := h.ev
  have hbx := fun x hx => rwAt_same (h.bx x hx)
  unfold arwAt
  cases ho : o.op <;> try rfl
  case indexAddr t x i =>
    rw [ho] at hev hbx; simp only [Op.operands] at hev hbx
    simp only [hev x (by simp), hev i (by simp), hbx x (by simp)]
  case load t x =>
    have h1 := h.ev x (by rw [ho]; simp [Op.operands])
    simp only [h1]
    cases hx : s.ev x with
    | ep n k i off =>
      have hlk := lk_same_ep h (by rw [ho]; simp [Op.operands]) hx
      cases wt <;> first | rfl | simp only [hlk]
    | _ => rfl
  case store t x y =>
    have h1 := h.ev x (by rw [ho]; simp [Op.operands])
    have h2 := h.look y (by rw [ho]; simp [Op.operands])
    simp only [h1, h2]
    cases hx : s.ev x with
    | ep n k i off =>
      have hlk := lk_same_ep h (by rw [ho]; simp [Op.operands]) hx
      cases hy : toD (s.look (s.ev y)) <;> cases off <;> first | rfl | simp only [hlk]
    | _ => rfl
  case call c =>
    obtain ⟨callee, ⟨args⟩, ⟨tys⟩⟩ := c
    simp only
    split
    · rename_i x t
      have h1 := h.ev x (by rw [ho]; simp [Op.operands, Call.operands])
      have h2 := rwAt_same (h.bx x (by rw [ho]; simp [Op.operands, Call.operands]))
      simp only [h1, h2]
    · rfl
theorem abufCopy_same {P : Program} {o : Oper} {s s' : St} {wt : W} (h : Same o s s') : abufCopy P o s' wt = abufCopy P o s wt := by
  unfold abufCopy
  cases ho : o.op <;> try rfl
  rename_i c
  obtain ⟨callee, ⟨args⟩, ⟨tys⟩⟩ := c
  simp only
  split
  · rename_i x y t t'
    have h1 := h.ev x (by rw [ho]; simp [Op.operands, Call.operands])
    have h2 := bufAt_same (h.bx x (by rw [ho]; simp [Op.operands, Call.operands]))
    have h3 := h.look y (by rw [ho]; simp [Op.operands, Call.operands])
    have h4 : ∀ n, copySrc s' n y = copySrc s n y := by
      intro n
      unfold copySrc
      rw [h3]
      cases hv : s.look (s.ev y) with
      | d x => cases x <;> rfl
      | bsl m off l =>
        have hb : (s.ev y).has m = true := by
          cases hz : s.ev y with
          | row n =>
            rw [hz] at hv
            simp only [St.look] at hv
            split at hv <;> cases hv
          | box n off =>
            rw [hz] at hv
            cases off <;> simp only [St.look] at hv
            · split at hv <;> cases hv
            · cases hv
          | bsl m' off' l' =>
            rw [hz] at hv
            simp only [St.look, A.bsl.injEq] at hv
            simp [A.has, hv.1]
          | _ => rw [hz] at hv; simp only [St.look] at hv; cases hv
        cases off <;> simp only [h.bx y (by rw [ho]; simp [Op.operands, Call.operands]) m hb]
      | _ => rfl
    simp only [h1, h2, h4]
  · rfl

def isAdd : Ed → Bool
  | .add _ _ => true
  | _ => false
theorem abox_adds {P : Program} {o : Oper} {s : St} {p : A × List Ed} (he : abox P o s = some p) : p.2.any isAdd = true := by
  unfold abox at he
  split at he
  · cases he
  · split at he
    · split at he
      · split at he
        · split at he
          · cases he; rfl
          · cases he
        · cases he
      · split at he
        · split at he
          · cases he
          · cases he; rfl
        · cases he
      · cases he
    · cases he
theorem aappend_adds {P : Program} {o : Oper} {s : St} {wt : W} {Φ : Cn} {r : A} {es : List Ed} (he : aappend P o s wt = some (Φ, r, es)) : es.any isAdd = true := by
  unfold aappend at he
  repeat' split at he
  all_goals first
    | (cases he; done)
    | (simp only [Option.some.injEq, Prod.mk.injEq] at he; obtain ⟨_, _, rfl⟩ := he; rfl)
theorem aappendW_adds {P : Program} {o : Oper} {s : St} {zs : List D} {Φ : Cn} {r : A} {es : List Ed} (he : aappendW P o s zs = some (Φ, r, es)) : es.any isAdd = true := by
  unfold aappendW at he
  repeat' split at he
  all_goals first
    | (cases he; done)
    | (simp only [Option.some.injEq, Prod.mk.injEq] at he; obtain ⟨_, _, rfl⟩ := he; rfl)
theorem rwSrc_same {s s' : St} {x : A} (hb : ∀ n, x.has n = true → lk s'.B n = lk s.B n) : rwSrc s' x = rwSrc s x := by
  unfold rwSrc
  cases x <;> try rfl
  rename_i n
  simp only [hb n (by simp [A.has])]
theorem aappendW_same {P : Program} {o : Oper} {s s' : St} {zs : List D} {z : Cn × A × List Ed} (h : Same o s s') (hf : ∀ d, o.dst = some d → fresh d s' = true) (he : aappendW P o s zs = some z) : aappendW P o s' zs = some z := by
  unfold aappendW at he ⊢
  cases hd : o.dst with
  | none => rw [hd] at he; simp only at he; cases he
  | some d =>
    obtain ⟨f1, f2, f3⟩ := fresh_and (hf d hd)
    rw [hd] at he
    cases ho : o.op <;> rw [ho] at he <;> simp only at he ⊢ <;> try (cases he; done)
    rename_i c
    obtain ⟨callee, args, tys⟩ := c
    have hargs : ∀ x ∈ args.toList, x ∈ o.op.operands := fun x hx => by
      rw [ho]; simp only [Op.operands, Call.operands, Array.mem_append]; exact .inr (Array.mem_toList_iff.1 hx)
    simp only at he ⊢
    split at he
    · rename_i x y t t' ha ht
      rw [ha] at hargs
      have h1 := h.ev x (hargs x (by simp))
      have h2 := rwSrc_same (h.bx x (hargs x (by simp)))
      have h3 := h.look y (hargs y (by simp))
      simp only [h1, h2, h3]
      split at he
      · split at he
        · rename_i e ys he1 he2
          split at he
          · rename_i i hi
            split at he
            · rename_i hc
              simp only [Bool.and_eq_true, decide_eq_true_eq, Bool.not_eq_true'] at hc
              obtain ⟨⟨⟨⟨c0, cz⟩, c1⟩, c2⟩, c3⟩ := hc
              rw [if_pos (by assumption)]
              rw [if_pos (by simp only [Bool.and_eq_true, decide_eq_true_eq, Bool.not_eq_true']; exact ⟨⟨⟨⟨c0, cz⟩, f1⟩, f2⟩, f3⟩)]
              exact he
            · cases he
          · cases he
        · cases he
      · cases he
    · cases he
theorem abuildSlice_adds {P : Program} {o : Oper} {s : St} {Φ : Cn} {r : A} {es : List Ed} (he : abuildSlice P o s = some (Φ, r, es)) : es.any isAdd = true := by
  unfold abuildSlice at he
  repeat' split at he
  all_goals first
    | (cases he; done)
    | (simp only [Option.some.injEq, Prod.mk.injEq] at he; obtain ⟨_, _, rfl⟩ := he; rfl)
theorem abufMk_adds {P : Program} {o : Oper} {s : St} {wt : W} {Φ : Cn} {r : A} {es : List Ed} (he : abufMk P o s wt = some (Φ, r, es)) : es.any isAdd = true := by
  unfold abufMk at he
  repeat' split at he
  all_goals first
    | (cases he; done)
    | (simp only [Option.some.injEq, Prod.mk.injEq] at he; obtain ⟨_, _, rfl⟩ := he; rfl)
theorem anil_same {P : Program} {o : Oper} {s s' : St} {wt : W} (h : Same o s s') : anil P o s' wt = anil P o s wt := by
  unfold anil
  cases ho : o.op <;> try rfl
  rename_i op t x y yt
  have h1 := h.ev x (by rw [ho]; simp [Op.operands])
  have h2 := h.ev y (by rw [ho]; simp [Op.operands])
  have h3 := h.look x (by rw [ho]; simp [Op.operands])
  simp only [h1, h2] at h3 ⊢
  simp only [h3]
theorem afbox_same {o : Oper} {s s' : St} (h : Same o s s') : afbox o s' = afbox o s := by
  unfold afbox
  cases ho : o.op <;> try rfl
  rename_i t x
  have h3 := h.look x (by rw [ho]; simp [Op.operands])
  simp only [h3]
theorem amap_same {P : Program} {o : Oper} {s s' : St} {wt : W} {z : Cn × A × List Ed} (h : Same o s s') (hf : z.2.2.any isAdd = true → ∀ d, o.dst = some d → fresh d s' = true) (he : amap P o s wt = some z) : amap P o s' wt = some z := by
  have hmp := fun x hx => mapAt_same (h.bx x hx)
  have hlk := h.look
  have hev := h.ev
  unfold amap at he ⊢
  cases ho : o.op <;> rw [ho] at hmp hlk hev <;> simp only [ho] at he ⊢ <;> try (exact he)
  case makeMap t r =>
    cases r with
    | some r => exact he
    | none =>
      simp only at he ⊢
      cases hd : o.dst with
      | none => rw [hd] at he; exact he
      | some d =>
        rw [hd] at he
        simp only at he ⊢
        split at he
        · simp only [Option.some.injEq] at he
          obtain ⟨f1, f2, f3⟩ := fresh_and (hf (by rw [← he]; rfl) d hd)
          simp only [f1, f2, f3, decide_true, Bool.not_false, Bool.and_self, if_true]
          rw [he]
        · cases he
  case lookup t m k c =>
    simp only [Op.operands] at hmp hlk hev
    have e1 : mapAt s' (s'.ev m) = mapAt s (s.ev m) := by rw [hev m (by simp)]; exact hmp m (by simp)
    simp only [e1, hlk k (by simp)]; exact he
  case mapUpdate t m k x =>
    simp only [Op.operands] at hmp hlk hev
    have e1 : mapAt s' (s'.ev m) = mapAt s (s.ev m) := by rw [hev m (by simp)]; exact hmp m (by simp)
    simp only [e1, hlk k (by simp), hlk x (by simp)]; exact he
  case insert t m k x =>
    simp only [Op.operands] at hmp hlk hev
    have e1 : mapAt s' (s'.ev m) = mapAt s (s.ev m) := by rw [hev m (by simp)]; exact hmp m (by simp)
    simp only [e1, hlk k (by simp), hlk x (by simp)]; exact he
  case mapEntry t m k =>
    simp only [Op.operands] at hmp hlk hev
    have e1 : mapAt s' (s'.ev m) = mapAt s (s.ev m) := by rw [hev m (by simp)]; exact hmp m (by simp)
    simp only [e1, hlk k (by simp)]; exact he
  case entryStore t m st x =>
    simp only [Op.operands] at hmp hlk hev
    have e1 : mapAt s' (s'.ev m) = mapAt s (s.ev m) := by rw [hev m (by simp)]; exact hmp m (by simp)
    simp only [e1, hev st (by simp), hlk x (by simp)]; exact he
  case call c =>
    obtain ⟨callee, ⟨args⟩, ⟨tys⟩⟩ := c
    simp only [Op.operands, Call.operands] at hmp hlk hev
    simp only at he ⊢
    split at he
    · rename_i m k t t2
      have e1 : mapAt s' (s'.ev m) = mapAt s (s.ev m) := by rw [hev m (by simp)]; exact hmp m (by simp)
      simp only [e1, hlk k (by simp)]; exact he
    · rename_i m t
      have e1 : mapAt s' (s'.ev m) = mapAt s (s.ev m) := by rw [hev m (by simp)]; exact hmp m (by simp)
      simp only [e1]; exact he
    · rename_i m t
      have e1 : mapAt s' (s'.ev m) = mapAt s (s.ev m) := by rw [hev m (by simp)]; exact hmp m (by simp)
      simp only [e1]; exact he
    · cases he
theorem mapSAt_same {s s' : St} {x : A} (hb : ∀ n, x.has n = true → lk s'.B n = lk s.B n) : mapSAt s' x = mapSAt s x := by
  unfold mapSAt
  cases x <;> try rfl
  rename_i n
  simp only [hb n (by simp [A.has])]
theorem amapS_same {P : Program} {o : Oper} {s s' : St} {wt : W} {z : Cn × A × List Ed} (h : Same o s s') (hf : z.2.2.any isAdd = true → ∀ d, o.dst = some d → fresh d s' = true) (he : amapS P o s wt = some z) : amapS P o s' wt = some z := by
  have hmp := fun x hx => mapSAt_same (h.bx x hx)
  have hlk := h.look
  have hev := h.ev
  unfold amapS at he ⊢
  cases ho : o.op <;> rw [ho] at hmp hlk hev <;> simp only [ho] at he ⊢ <;> try (exact he)
  case makeMap t r =>
    cases r with
    | some r => exact he
    | none =>
      simp only at he ⊢
      cases hd : o.dst with
      | none => rw [hd] at he; exact he
      | some d =>
        rw [hd] at he
        simp only at he ⊢
        split at he
        · simp only [Option.some.injEq] at he
          obtain ⟨f1, f2, f3⟩ := fresh_and (hf (by rw [← he]; rfl) d hd)
          simp only [f1, f2, f3, decide_true, Bool.not_false, Bool.and_self, if_true]
          rw [he]
        · cases he
  case mapUpdate t m k x =>
    simp only [Op.operands] at hmp hlk hev
    have e1 : mapSAt s' (s'.ev m) = mapSAt s (s.ev m) := by rw [hev m (by simp)]; exact hmp m (by simp)
    simp only [e1, hlk k (by simp), hlk x (by simp)]; exact he
  case insert t m k x =>
    simp only [Op.operands] at hmp hlk hev
    have e1 : mapSAt s' (s'.ev m) = mapSAt s (s.ev m) := by rw [hev m (by simp)]; exact hmp m (by simp)
    simp only [e1, hlk k (by simp), hlk x (by simp)]; exact he
  case call c =>
    obtain ⟨callee, ⟨args⟩, ⟨tys⟩⟩ := c
    simp only [Op.operands, Call.operands] at hmp hlk hev
    simp only at he ⊢
    split at he
    · rename_i m k t t2
      have e1 : mapSAt s' (s'.ev m) = mapSAt s (s.ev m) := by rw [hev m (by simp)]; exact hmp m (by simp)
      simp only [e1, hlk k (by simp)]; exact he
    · cases he
theorem aopT_same {P : Program} {o : Oper} {s s' : St} {wt : W} {Φ : Ob} {r : A} {es : List Ed} (h : Same o s s') (hx : ∀ n ∈ xns wt, lk s'.B n = lk s.B n) (hc : ∀ ns r, wt = .lend ns r → cellsIn s ns = true) (hg : ∀ d ∈ nns wt, fresh d s' = true) (hf : es.any isAdd = true → ∀ d, o.dst = some d → fresh d s' = true) (he : aopT P o s wt (tagOf P s o) = some (Φ, r, es)) : aopT P o s' wt (tagOf P s' o) = some (Φ, r, es) := by
  rw [tagOf_same h]
  generalize tagOf P s o = k at he ⊢
  match k with
  | 0 => simp only [aopT] at he ⊢; rw [apure_same h.ev h.look]; exact he
  | 1 => simp only [aopT] at he ⊢; rw [aload_same h]; exact he
  | 2 =>
    simp only [aopT] at he ⊢
    split at he
    · rw [afbox_same h]; exact he
    · simp only [Option.map_eq_some_iff, Prod.mk.injEq] at he ⊢
      obtain ⟨p, h1, h2, h3, h4⟩ := he
      refine ⟨p, abox_same h (hf ?_) h1, h2, h3, h4⟩
      rw [← h4]
      exact abox_adds h1
  | 3 =>
    simp only [aopT] at he ⊢
    have e : astoreF P o s' = astoreF P o s := by unfold astoreF; rw [astore_same h]
    rw [astore_same h, e]; exact he
  | 4 =>
    have key : ∀ wt', ((aappend P o s wt').map fun p => (Ob.c p.1, p.2)) = some (Φ, r, es) → ((aappend P o s' wt').map fun p => (Ob.c p.1, p.2)) = some (Φ, r, es) := by
      intro wt' he
      simp only [Option.map_eq_some_iff, Prod.mk.injEq] at he ⊢
      obtain ⟨⟨Φ', r', es'⟩, h1, h2, h3⟩ := he
      cases h3
      exact ⟨_, aappend_same h (hf (aappend_adds h1)) h1, h2, rfl⟩
    simp only [aopT] at he ⊢
    cases wt with
    | rwl zs =>
      simp only [Option.map_eq_some_iff, Prod.mk.injEq] at he ⊢
      obtain ⟨⟨Φ', r', es'⟩, h1, h2, h3⟩ := he
      cases h3
      exact ⟨_, aappendW_same h (hf (aappendW_adds h1)) h1, h2, rfl⟩
    | _ => exact key _ he
  | 5 =>
    simp only [aopT, Option.map_eq_some_iff, Prod.mk.injEq] at he ⊢
    obtain ⟨⟨Φ', r', es'⟩, h1, h2, h3⟩ := he
    cases h3
    exact ⟨_, abuildSlice_same h (hf (abuildSlice_adds h1)) h1, h2, rfl⟩
  | 6 =>
    simp only [aopT] at he ⊢
    cases wt with
    | lend ns r => simp only at he ⊢; rw [acallL_same h hx hc]; exact he
    | cx _ _ _ _ _ => exact acallX_same h hx hg he
    | _ => simp only at he ⊢; rw [acallP_same h]; exact he
  | 7 => simp only [aopT] at he ⊢; rw [abuild_same h]; exact he
  | 8 =>
    simp only [aopT, Option.map_eq_some_iff, Prod.mk.injEq] at he ⊢
    obtain ⟨⟨Φ', r', es'⟩, h1, h2, h3⟩ := he
    cases h3
    exact ⟨_, abufMk_same h (hf (abufMk_adds h1)) h1, h2, rfl⟩
  | 9 => simp only [aopT] at he ⊢; rw [abufAt_same h, arwAt_same h]; exact he
  | 10 => simp only [aopT] at he ⊢; rw [abufCopy_same h]; exact he
  | 11 => simp only [aopT] at he ⊢; rw [anil_same h]; exact he
  | 12 =>
    have k1 : ((amap P o s wt).map fun p => (Ob.c p.1, p.2)) = some (Φ, r, es) → ((amap P o s' wt).map fun p => (Ob.c p.1, p.2)) = some (Φ, r, es) := by
      intro he
      simp only [Option.map_eq_some_iff, Prod.mk.injEq] at he ⊢
      obtain ⟨⟨Φ', r', es'⟩, h1, h2, h3⟩ := he
      cases h3
      exact ⟨_, amap_same h hf h1, h2, rfl⟩
    have k2 : ((amapS P o s wt).map fun p => (Ob.c p.1, p.2)) = some (Φ, r, es) → ((amapS P o s' wt).map fun p => (Ob.c p.1, p.2)) = some (Φ, r, es) := by
      intro he
      simp only [Option.map_eq_some_iff, Prod.mk.injEq] at he ⊢
      obtain ⟨⟨Φ', r', es'⟩, h1, h2, h3⟩ := he
      cases h3
      exact ⟨_, amapS_same h hf h1, h2, rfl⟩
    simp only [aopT] at he ⊢
    cases wt with
    | frz => exact k2 he
    | ms S => exact k2 he
    | _ => exact k1 he
  | k + 13 => simp only [aopT] at he; cases he

theorem aopE_same {P : Program} {o : Oper} {s s' : St} {wt : W} {Φ : Ob} {r : A} {es : List Ed} (h : Same o s s') (hx : ∀ n ∈ xns wt, lk s'.B n = lk s.B n) (hc : ∀ ns r, wt = .lend ns r → cellsIn s ns = true) (hg : ∀ d ∈ nns wt, fresh d s' = true) (hf : es.any isAdd = true → ∀ d, o.dst = some d → fresh d s' = true) (he : aopE P o s wt = some (Φ, r, es)) : aopE P o s' wt = some (Φ, r, es) := by
  unfold aopE at he ⊢
  cases wt with
  | fzn m =>
    simp only at he ⊢
    split at he
    · rename_i Φ' r' h1
      have h2 := aopT_same (es := []) h (fun n hn => by cases hn) (fun ns r e => by cases e) (fun d hd => by cases hd) (fun hh => by cases hh) h1
      rw [h2]
      simp only [hx m (.head _)]
      exact he
    · cases he
  | _ => exact aopT_same h hx hc hg hf he
end Go.Ac
