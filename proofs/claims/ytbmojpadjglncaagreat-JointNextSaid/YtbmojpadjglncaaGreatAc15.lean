/- Own work: how calls of the model run over plain data. -/
import Derived.Test.YtbmojpadjglncaaGreatAc14
set_option linter.unusedVariables false
set_option linter.unusedSimpArgs false
namespace Go.Ac

def maskOf (T : List Nat) (o : Oper) : Nat :=
  o.after.toList.foldl (fun m e => if Region.binds .any e then m ||| (1 <<< e.on) ||| T.getD e.on 0 else m) 0
theorem mask_fold {T : List Nat} {i : Nat} : ∀ (l : List Edge) (m : Nat), (l.foldl (fun m e => if Region.binds .any e then m ||| (1 <<< e.on) ||| T.getD e.on 0 else m) m).testBit i = true →
    m.testBit i = true ∨ ∃ e ∈ l, Region.binds .any e = true ∧ (i = e.on ∨ (T.getD e.on 0).testBit i = true)
  | [], m, h => .inl h
  | e :: l, m, h => by
    simp only [List.foldl_cons] at h
    rcases mask_fold l _ h with h | ⟨e', he, hb⟩
    · split at h
      · rename_i hb
        simp only [Nat.testBit_or, Bool.or_eq_true] at h
        rcases h with (h | h) | h
        · exact .inl h
        · rw [Nat.one_shiftLeft, Nat.testBit_two_pow] at h
          simp only [decide_eq_true_eq] at h
          exact .inr ⟨e, by simp, hb, .inl h.symm⟩
        · exact .inr ⟨e, by simp, hb, .inr h⟩
      · exact .inl h
    · exact .inr ⟨e', by simp [he], hb⟩
theorem maskOf_spec {T : List Nat} {o : Oper} {i : Nat} (h : (maskOf T o).testBit i = true) : ∃ e ∈ o.after, Region.binds .any e = true ∧ (i = e.on ∨ (T.getD e.on 0).testBit i = true) := by
  rcases mask_fold _ _ h with h | ⟨e, he, hb⟩
  · simp at h
  · exact ⟨e, by simpa using he, hb⟩
def closT : List Oper → List Nat → List Nat
  | [], T => T
  | o :: l, T => closT l (T ++ [maskOf T o])
def Good (L : Nat → Bool) (T : List Nat) : Prop := ∀ j m i, T[j]? = some m → m.testBit i = true → L j = true → L i = true
theorem closT_good {L : Nat → Bool} : ∀ (l : List Oper) (T : List Nat), (∀ j o, l[j]? = some o → L (T.length + j) = true → ∀ e ∈ o.after, Region.binds .any e = true → L e.on = true) → Good L T → Good L (closT l T)
  | [], T, _, h => h
  | o :: l, T, hl, h => by
    simp only [closT]
    refine closT_good l _ (fun j o' hj hL => hl (j + 1) o' (by simpa using hj) (by simpa [Nat.add_assoc, Nat.add_comm 1 j] using hL)) ?_
    intro j m i hj hb hL
    rw [List.getElem?_append] at hj
    split at hj
    · exact h j m i hj hb hL
    · rename_i hlt
      have hj0 : j = T.length := by
        rcases Nat.lt_or_ge (j - T.length) 1 with h1 | h1
        · omega
        · rw [List.getElem?_eq_none (by simpa using h1)] at hj; cases hj
      subst hj0
      simp only [Nat.sub_self, List.getElem?_cons_zero, Option.some.injEq] at hj
      subst hj
      obtain ⟨e, he, hbd, hi⟩ := maskOf_spec hb
      have hon := hl 0 o (by simp) (by simpa using hL) e he hbd
      rcases hi with rfl | hi
      · exact hon
      · cases ht : T[e.on]? with
        | none => simp [List.getD, ht] at hi
        | some m => simp only [List.getD, ht, Option.getD_some] at hi; exact h e.on m i ht hi hon
theorem closT_len : ∀ (l : List Oper) (T : List Nat), (closT l T).length = T.length + l.length
  | [], T => by simp [closT]
  | o :: l, T => by simp only [closT, closT_len l, List.length_append, List.length_cons, List.length_nil]; omega
def backB : Nat → List Oper → Bool
  | _, [] => true
  | k, o :: l => o.after.toList.all (fun e => !Region.binds .any e || decide (e.on < k)) && backB (k + 1) l
theorem backB_spec : ∀ (l : List Oper) (k : Nat), backB k l = true → ∀ j o, l[j]? = some o → ∀ e ∈ o.after, Region.binds .any e = true → e.on < k + j
  | [], _, _, j, o, h, _, _, _ => by simp at h
  | o' :: l, k, hB, 0, o, h, e, he, hb => by
    simp only [List.getElem?_cons_zero, Option.some.injEq] at h
    subst h
    simp only [backB, Bool.and_eq_true] at hB
    have := List.all_eq_true.1 hB.1 e (by simpa using he)
    simp only [hb, Bool.not_true, Bool.false_or, decide_eq_true_eq] at this
    simpa using this
  | o' :: l, k, hB, j + 1, o, h, e, he, hb => by
    simp only [backB, Bool.and_eq_true] at hB
    have := backB_spec l (k + 1) hB.2 j o (by simpa using h) e he hb
    omega

def amv (o : Oper) (s : St) (w : W) : Option Nat :=
  match o.op, w with
  | .move (.tmp x), .no => match s.E.getD x .any with
    | .row n => some n
    | _ => none
  | _, _ => none
def dstep (P : Program) (ops : Array Oper) (ws : List (Nat × W)) (s : St) (o : Oper) : Option (Ob × Rc) :=
  if noDefer o.op then
    match guardB ops s o with
    | some true => match amv o s (wOf ws o) with
      | some n => some (.c .t, ⟨o.dst, .row n, []⟩)
      | none => match aopE P o s (wOf ws o) with
        | some (Φ, r, es) => some (Φ, ⟨o.dst, r, es⟩)
        | none => none
    | some false => some (.c .t, ⟨o.dst, .tup [], []⟩)
    | none => none
  else none
theorem dstep_ok {rd : Option Nat} {P : Program} {ops : Array Oper} {ws : List (Nat × W)} {s : St} {o : Oper} {L : Lp} {Φ : Ob} {c : Rc} (he : dstep P ops ws s o = some (Φ, c)) (hΦ : Φ.ok P L)
    {h w val a} (H : Holds s h w val a) {i : Nat} (hi : ops[i]? = some o) {K : Act → World → Prop} {Q : Exit → Act → World → Prop}
    (hK : ∀ h' w' val' a', Holds (c.ap s) h' w' val' a' → Nx s h w val (c.ap s) h' w' val' → K a' w') : wpOpIn (fc rd) 0 P ops Q i K a w := by
  unfold dstep at he
  split at he
  · rename_i hnd
    split at he
    · rename_i hg
      split at he
      · rename_i n hm
        simp only [Option.some.injEq, Prod.mk.injEq] at he
        obtain ⟨rfl, rfl⟩ := he
        unfold amv at hm
        split at hm
        · rename_i x ho hw
          split at hm
          · rename_i n' hx
            simp only [Option.some.injEq] at hm
            subst hm
            have hv := H.ev (.tmp x)
            have hx' : s.ev (.tmp x) = .row n' := hx
            rw [hx'] at hv
            unfold wpOpIn
            rw [hi]
            simp only [guardB_ok hg H, if_true]
            refine wpIn_of_wp hnd (wp_of_run (u := a.eval (.tmp x)) (w' := w) (by simp [execOp, ho]) ?_)
            exact hK h w val _ (H.put o.dst hv) ((Nx.refl s h w val rfl).put _ _)
          · cases hm
        · cases hm
      · split at he
        · rename_i Φ' r es ho
          simp only [Option.some.injEq, Prod.mk.injEq] at he
          obtain ⟨rfl, rfl⟩ := he
          unfold wpOpIn
          rw [hi]
          simp only [guardB_ok hg H, if_true]
          exact wpIn_of_wp hnd (aopE_ok ho hΦ h w val a H K Q fun h' w' val' u hr H' hn => hK h' w' val' _ (H'.put o.dst hr) (hn.put _ _))
        · cases he
    · rename_i hg
      simp only [Option.some.injEq, Prod.mk.injEq] at he
      obtain ⟨rfl, rfl⟩ := he
      unfold wpOpIn
      rw [hi]
      simp only [guardB_ok hg H, Bool.false_eq_true, if_false]
      exact ⟨fun _ _ => trivial, hK h w val _ (H.put o.dst RA_undef) ((Nx.refl s h w val rfl).put _ _)⟩
    · cases he
  · cases he

theorem hasAny_mem {n : Nat} {a : A} (h : a.has n = true) : ∀ {l : List A}, a ∈ l → hasAny n l = true
  | b :: l, hm => by
    simp only [hasAny, Bool.or_eq_true]
    rcases List.mem_cons.1 hm with rfl | hm
    · exact .inl h
    · exact .inr (hasAny_mem h hm)
theorem cst_has (n : Nat) (v : Value) : (cst v).has n = false := by
  unfold cst
  split
  · rfl
  · split <;> rfl
  · rfl
  · rfl
theorem FP.same {ops : Array Oper} {o : Oper} {s s' : St} (h : FP (o.looksAt ops) (fun n => hasAny n ((o.looksAt ops).map fun t => s.E.getD t .any)) s s') : Same o s s' := by
  have hin : ∀ t, Operand.tmp t ∈ o.op.operands → t ∈ o.looksAt ops := fun t ht => List.mem_append_left _ (List.mem_filterMap.2 ⟨.tmp t, by simpa using ht, rfl⟩)
  refine ⟨fun x hx => ?_, fun x hx n hn => ?_⟩
  · cases x with
    | tmp t => simp only [St.ev, List.getD, h.e t (hin t hx)]
    | const v => rfl
    | global g => rfl
    | func f => rfl
  · cases x with
    | tmp t => exact h.b n (hasAny_mem hn (List.mem_map.2 ⟨t, hin t hx, rfl⟩))
    | const v => simp only [St.ev, cst_has] at hn; cases hn
    | global g => simp [St.ev, A.has] at hn
    | func f => simp [St.ev, A.has, hasAny] at hn
def vsOf (ops : Array Oper) (ws : List (Nat × W)) (s : St) (o : Oper) : List A := match amv o s (wOf ws o) with
  | some _ => []
  | none => ((o.looksAt ops).map fun t => s.E.getD t .any) ++ (xns (wOf ws o)).map .row
theorem amv_same {o : Oper} {s s' : St} {w : W} (h : ∀ t, Operand.tmp t ∈ o.op.operands → s'.E[t]? = s.E[t]?) : amv o s' w = amv o s w := by
  unfold amv
  split
  · rename_i x ho
    have : s'.E[x]? = s.E[x]? := h x (by rw [ho]; simp [Op.operands])
    simp only [List.getD, this]
  · rfl
theorem hasAny_append {n : Nat} : ∀ (a b : List A), hasAny n (a ++ b) = (hasAny n a || hasAny n b)
  | [], b => rfl
  | x :: a, b => by simp only [List.cons_append, hasAny, hasAny_append a b, Bool.or_assoc]
theorem FP.left {ts : List Nat} {a b : List A} {s s' : St} (h : FP ts (fun n => hasAny n (a ++ b)) s s') : FP ts (fun n => hasAny n a) s s' := ⟨h.len, h.e, fun n hn => h.b n (by rw [hasAny_append, hn]; rfl)⟩
theorem FP.xs {ts : List Nat} {a : List A} {l : List Nat} {s s' : St} (h : FP ts (fun n => hasAny n (a ++ l.map .row)) s s') : ∀ n ∈ l, lk s'.B n = lk s.B n := fun n hn => h.b n (by
  rw [hasAny_append]
  have : hasAny n (l.map A.row) = true := hasAny_mem (a := .row n) (by simp [A.has]) (List.mem_map.2 ⟨n, hn, rfl⟩)
  rw [this, Bool.or_true])
def lendOk (s : St) : W → Bool
  | .lend ns _ => cellsIn s ns
  | _ => true
theorem dstep_same {P : Program} {ops : Array Oper} {ws : List (Nat × W)} {s s' : St} {o : Oper} {Φ : Ob} {c : Rc} (he : dstep P ops ws s o = some (Φ, c))
    (h : FP (o.looksAt ops) (fun n => hasAny n (vsOf ops ws s o)) s s') (hc : lendOk s (wOf ws o) = true) (hn : ∀ d ∈ nns (wOf ws o), fresh d s' = true) (hf : c.es.any isAdd = true → ∀ d, o.dst = some d → fresh d s' = true) : dstep P ops ws s' o = some (Φ, c) := by
  have hc' : ∀ ns r, wOf ws o = .lend ns r → cellsIn s ns = true := fun ns r e => by rw [e] at hc; exact hc
  have hin : ∀ t, Operand.tmp t ∈ o.op.operands → t ∈ o.looksAt ops := fun t ht => List.mem_append_left _ (List.mem_filterMap.2 ⟨.tmp t, by simpa using ht, rfl⟩)
  have hav : amv o s' (wOf ws o) = amv o s (wOf ws o) := amv_same fun t ht => h.e t (hin t ht)
  have hg : guardB ops s' o = guardB ops s o := by
    unfold guardB
    cases hg : o.guard with
    | none => rfl
    | some g =>
      obtain ⟨j, want⟩ := g
      simp only
      cases ht : (ops[j]?).bind (·.dst) with
      | none => rfl
      | some t =>
        have : t ∈ o.looksAt ops := List.mem_append_right _ (by simp [hg, ht])
        simp only [h.e t this]
  unfold dstep at he ⊢
  rw [hg]
  split at he
  · rename_i hnd
    rw [if_pos hnd]
    split at he
    · split at he
      · rename_i n hm
        rw [hav, hm]
        exact he
      · rename_i hm
        rw [hav, hm]
        have hvs : vsOf ops ws s o = ((o.looksAt ops).map fun t => s.E.getD t .any) ++ (xns (wOf ws o)).map .row := by unfold vsOf; rw [hm]
        rw [hvs] at h
        have hx : ∀ n ∈ xns (wOf ws o), lk s'.B n = lk s.B n := FP.xs h
        have h2 := FP.left h
        split at he
        · rename_i Φ' r es ho
          simp only [Option.some.injEq, Prod.mk.injEq] at he
          obtain ⟨rfl, rfl⟩ := he
          simp only [aopE_same h2.same hx hc' hn hf ho]
        · cases he
    · exact he
    · cases he
  · cases he

def drun (P : Program) (ops : Array Oper) (ws : List (Nat × W)) : List Oper → St → Option (Ob × List Dr × St)
  | [], s => some (.c .t, [], s)
  | o :: l, s => match dstep P ops ws s o with
    | some (Φ, c) => if lendOk s (wOf ws o) then match drun P ops ws l (c.ap s) with
      | some (Ψ, ds, s') => some (Φ.and Ψ, ⟨c, o.looksAt ops, vsOf ops ws s o, nns (wOf ws o)⟩ :: ds, s')
      | none => none
      else none
    | none => none
def pre (ds : List Dr) (j : Nat) (s : St) : St := (ds.take j).foldl (fun s d => d.c.ap s) s
theorem drun_spec {L : Lp} {P : Program} {ops : Array Oper} {ws : List (Nat × W)} : ∀ (l : List Oper) (s s' : St) (Φ : Ob) (ds : List Dr), drun P ops ws l s = some (Φ, ds, s') → Φ.ok P L →
    ds.length = l.length ∧ s' = pre ds l.length s ∧ ∀ j o, l[j]? = some o → ∃ d Φ', ds[j]? = some d ∧ Φ'.ok P L ∧ dstep P ops ws (pre ds j s) o = some (Φ', d.c) ∧ d.ts = o.looksAt ops ∧ d.vs = vsOf ops ws (pre ds j s) o ∧ d.ns = nns (wOf ws o) ∧ lendOk (pre ds j s) (wOf ws o) = true
  | [], s, s', Φ, ds, he, _ => by
    simp only [drun, Option.some.injEq, Prod.mk.injEq] at he
    obtain ⟨_, rfl, rfl⟩ := he
    exact ⟨rfl, rfl, fun j o h => by simp at h⟩
  | o :: l, s, s', Φ, ds, he, hΦ => by
    simp only [drun] at he
    split at he
    · rename_i Φ1 c h1
      split at he
      case isFalse => cases he
      rename_i hlo
      split at he
      · rename_i Ψ ds' s'' h2
        simp only [Option.some.injEq, Prod.mk.injEq] at he
        obtain ⟨rfl, rfl, rfl⟩ := he
        obtain ⟨hΦ1, hΨ⟩ := Ob.and_ok hΦ
        obtain ⟨e1, e2, e3⟩ := drun_spec l _ _ _ _ h2 hΨ
        refine ⟨by simp [e1], by simpa [pre] using e2, fun j o' hj => ?_⟩
        cases j with
        | zero =>
          simp only [List.getElem?_cons_zero, Option.some.injEq] at hj
          subst hj
          exact ⟨_, Φ1, rfl, hΦ1, h1, rfl, rfl, rfl, hlo⟩
        | succ j =>
          obtain ⟨d, Φ', f1, f2, f3, f4, f5, f6, f7⟩ := e3 j o' (by simpa using hj)
          exact ⟨d, Φ', by simpa using f1, f2, f3, f4, f5, f6, f7⟩
      · cases he
    · cases he
theorem pre_sig : ∀ (ds : List Dr) (k j : Nat) (s : St), pre ds j s = sig (fun i => decide (i < k + j)) k ds s
  | [], k, j, s => by simp [pre, sig]
  | d :: ds, k, 0, s => by
    have : ∀ (ds : List Dr) (m : Nat) (s : St), k ≤ m → sig (fun i => decide (i < k + 0)) m ds s = s := by
      intro ds
      induction ds with
      | nil => intro m s _; rfl
      | cons d ds ih =>
        intro m s hm
        have : ¬ m < k + 0 := by omega
        simp only [sig, this, decide_false, Bool.false_eq_true, if_false]
        exact ih (m + 1) s (by omega)
    rw [this _ k s (Nat.le_refl _)]
    simp [pre]
  | d :: ds, k, j + 1, s => by
    have h := pre_sig ds (k + 1) j (d.c.ap s)
    have e : k + 1 + j = k + (j + 1) := by omega
    rw [e] at h
    have : k < k + (j + 1) := by omega
    simp only [sig, this, decide_true, if_true]
    rw [← h]
    simp [pre]

def newB (a b : Dr) : Bool := (!b.c.es.any isAdd || (match b.c.dst with | some d => a.c.free d | none => true)) && listAll (fun d => a.c.free d) b.ns
def pairB (ord : Bool) (a b : Dr) : Bool := newB a b && (ord || (indep a.c b && indep b.c a && commB a.c b.c && commB b.c a.c && newB b a))
def rowB (m : Nat) (b : Dr) : Nat → List Dr → Bool
  | _, [] => true
  | i, a :: ds => pairB (m.testBit i) a b && rowB m b (i + 1) ds
def pairsB : List Nat → List Dr → List Dr → Bool
  | _, _, [] => true
  | [], _, _ => false
  | m :: T, before, b :: ds => rowB m b 0 before && pairsB T (before ++ [b]) ds
def newsB (s : St) : List Dr → Bool
  | [] => true
  | b :: ds => (!b.c.es.any isAdd || (match b.c.dst with | some d => fresh d s | none => true)) && listAll (fun d => fresh d s) b.ns && newsB s ds
theorem rowB_spec {m : Nat} {b : Dr} : ∀ (ds : List Dr) (k : Nat), rowB m b k ds = true → ∀ i a, ds[i]? = some a → pairB (m.testBit (k + i)) a b = true
  | [], _, _, i, a, h => by simp at h
  | a' :: ds, k, hB, 0, a, h => by
    simp only [List.getElem?_cons_zero, Option.some.injEq] at h
    subst h
    simp only [rowB, Bool.and_eq_true] at hB
    exact hB.1
  | a' :: ds, k, hB, i + 1, a, h => by
    simp only [rowB, Bool.and_eq_true] at hB
    have := rowB_spec ds (k + 1) hB.2 i a (by simpa using h)
    simpa [Nat.add_assoc, Nat.add_comm 1 i] using this
theorem pairsB_spec : ∀ (T : List Nat) (before ds : List Dr), pairsB T before ds = true → ∀ j m b, T[j]? = some m → ds[j]? = some b → ∀ i a, i < before.length + j → (before ++ ds)[i]? = some a → pairB (m.testBit i) a b = true
  | [], _, _, _, j, m, b, h, _, _, _, _, _ => by simp at h
  | _ :: _, _, [], _, j, m, b, _, h, _, _, _, _ => by simp at h
  | m' :: T, before, b' :: ds, hB, 0, m, b, hm, hb, i, a, hi, ha => by
    simp only [List.getElem?_cons_zero, Option.some.injEq] at hm hb
    subst hm; subst hb
    simp only [pairsB, Bool.and_eq_true] at hB
    have : before[i]? = some a := by rwa [List.getElem?_append_left (by simpa using hi)] at ha
    simpa using rowB_spec before 0 hB.1 i a this
  | m' :: T, before, b' :: ds, hB, j + 1, m, b, hm, hb, i, a, hi, ha => by
    simp only [pairsB, Bool.and_eq_true] at hB
    exact pairsB_spec T _ ds hB.2 j m b (by simpa using hm) (by simpa using hb) i a (by simp only [List.length_append, List.length_cons, List.length_nil]; omega) (by simpa using ha)
theorem newsB_spec {s : St} : ∀ (ds : List Dr), newsB s ds = true → ∀ (i : Nat) (b : Dr), ds[i]? = some b → (b.c.es.any isAdd = true → ∀ d, b.c.dst = some d → fresh d s = true) ∧ ∀ d ∈ b.ns, fresh d s = true
  | [], _, i, b, h => by simp at h
  | b' :: ds, hB, 0, b, h => by
    simp only [List.getElem?_cons_zero, Option.some.injEq] at h
    subst h
    simp only [newsB, Bool.and_eq_true] at hB
    exact ⟨fun ha d hd => by simpa [ha, hd] using hB.1.1, fun d hd => listAll_ok hB.1.2 d hd⟩
  | b' :: ds, hB, i + 1, b, h => by
    simp only [newsB, Bool.and_eq_true] at hB
    exact newsB_spec ds hB.2 i b (by simpa using h)
end Go.Ac
