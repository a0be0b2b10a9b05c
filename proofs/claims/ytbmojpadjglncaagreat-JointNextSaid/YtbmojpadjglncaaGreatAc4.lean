/- Own work: how calls of the model run over plain data. -/
import Derived.Test.YtbmojpadjglncaaGreatAc3
set_option linter.unusedVariables false
set_option linter.unusedSimpArgs false
namespace Go.Ac

def isAggT (P : Program) (t : TypeId) : Option Bool :=
  match P.underlying t with
  | some (.struct _) | some (.array _ _) => some true
  | some _ => some false
  | none => none
theorem run_isAgg {P : Program} {t : TypeId} {b : Bool} (h : isAggT P t = some b) (w : World) : (isAgg t).run P w = .ok b w := by
  unfold isAggT at h
  unfold isAgg
  cases hu : P.underlying t with
  | none => simp [hu] at h
  | some d =>
    rw [Sem.run_bind, run_underlying hu w]
    rw [hu] at h
    cases d <;> simp_all
theorem run_size {P : Program} {t : TypeId} {b : Bool} (_ : isAggT P t = some b) (hi : (P.info? t).isSome = true) (w : World) : (sizeOf t).run P w = .ok (P.cellsOf t) w := by
  cases hq : P.info? t with
  | none => simp [hq] at hi
  | some i => simp [sizeOf, typeInfo, hq, Program.cellsOf]
theorem run_size' {P : Program} {t : TypeId} (hi : (P.info? t).isSome = true) (w : World) : (sizeOf t).run P w = .ok (P.cellsOf t) w := by
  cases hq : P.info? t with
  | none => simp [hq] at hi
  | some i => simp [sizeOf, typeInfo, hq, Program.cellsOf]

def partD (P : Program) (t : TypeId) (cs : List D) (off : Nat) : Option D :=
  match isAggT P t, (P.info? t).isSome with
  | some true, true => if off + P.cellsOf t ≤ cs.length then some (.agg ((cs.drop off).take (P.cellsOf t))) else none
  | some false, true => cs[off]?
  | _, _ => none
theorem partD_ok {P : Program} {h w} {t : TypeId} {cs : List D} {off : Nat} {x : D} {us : List Value} (he : partD P t cs off = some x) (hr : RDs h w cs us) :
    ∃ u, (part t ⟨us⟩ off).run P w = .ok u w ∧ RD h w x u := by
  unfold partD at he
  split at he
  · rename_i hA hI
    split at he
    · rename_i hl
      simp only [Option.some.injEq] at he
      subst he
      refine ⟨.agg ⟨(us.drop off).take (P.cellsOf t)⟩, ?_, ?_⟩
      · simp [part, Sem.run_bind, run_isAgg hA, run_size' hI]
      · simp only [RD]
        exact ⟨_, rfl, (hr.drop off).take _⟩
    · cases he
  · rename_i hA hI
    obtain ⟨u, hu, hr', _⟩ := hr.get off x he
    exact ⟨u, by simp [part, Sem.run_bind, run_isAgg hA, hu], hr'⟩
  · cases he

def eqFs (P : Program) (rec : TypeId → D → D → Option BX) (xs ys : List D) : List Field → Option BX
  | [] => some (.lit true)
  | f :: fs =>
    if f.name ≠ "_" then
      match partD P f.type xs f.offset, partD P f.type ys f.offset with
      | some a, some b => match rec f.type a b, eqFs P rec xs ys fs with
        | some r, some r' => some (.and r r')
        | _, _ => none
      | _, _ => none
    else eqFs P rec xs ys fs
def eqD (P : Program) : Nat → TypeId → D → D → Option BX
  | 0, _, _, _ => none
  | n + 1, t, x, y => match P.underlying t, x, y with
    | some (.int _), .v (.int k a), .v (.int k' b) => if k = k' then some (.iEq a b) else none
    | some .bool, .v (.bool a), .v (.bool b) => some (.bEq a b)
    | some .string, .v (.string a), .v (.string b) => some (.sEq a b)
    | some (.struct fs), .agg xs, .agg ys => if P.stoodInHeld t then none else eqFs P (eqD P n) xs ys fs.toList
    | _, _, _ => none

theorem beq_decide_list (a b : ByteArray) : (a.toList == b.toList) = decide (a.data.toList = b.data.toList) := by
  rw [ByteArray.toList_eq, ByteArray.toList_eq]
  rw [Bool.eq_iff_iff]
  simp

theorem eqFs_ok {P : Program} {h : Hw} {w : World} (rec : TypeId → D → D → Option BX) (d : Nat)
    (hrec : ∀ t x y b u v, rec t x y = some b → RD h w x u → RD h w y v → (Op.equalIn d t u v).run P w = .ok b.val w)
    {xs ys : List D} {us vs : List Value} (hx : RDs h w xs us) (hy : RDs h w ys vs) :
    ∀ (fs : List Field) (b : BX), eqFs P rec xs ys fs = some b → (Op.eqFields d ⟨us⟩ ⟨vs⟩ fs).run P w = .ok b.val w
  | [], b, he => by simp [eqFs] at he; subst he; simp [Op.eqFields, BX.val]
  | f :: fs, b, he => by
    simp only [eqFs] at he
    simp only [Op.eqFields]
    split at he
    · rename_i hn
      rw [if_pos hn]
      split at he
      · rename_i a c ha hc
        split at he
        · rename_i r r' hr hr'
          simp only [Option.some.injEq] at he
          obtain ⟨u, hu, hru⟩ := partD_ok ha hx
          obtain ⟨v, hv, hrv⟩ := partD_ok hc hy
          simp only [Sem.run_bind, hu, hv, Result.andThen_ok, hrec _ _ _ _ _ _ hr hru hrv]
          subst he
          have hrest := eqFs_ok rec d hrec hx hy fs _ hr'
          simp only [BX.val]
          cases hv' : r.val
          · simp
          · simpa using hrest
        · cases he
      · cases he
    · rename_i hn
      rw [if_neg hn]
      exact eqFs_ok rec d hrec hx hy fs b he

theorem eqD_ok {P : Program} {h : Hw} {w : World} : ∀ (n d : Nat) (_ : n ≤ d) (t : TypeId) (x y : D) (b : BX) (u v : Value), eqD P n t x y = some b → RD h w x u → RD h w y v →
    (Op.equalIn d t u v).run P w = .ok b.val w
  | 0, d, _, t, x, y, b, u, v, he, _, _ => by simp [eqD] at he
  | n + 1, 0, hd, t, x, y, b, u, v, he, _, _ => by omega
  | n + 1, d + 1, hd, t, x, y, b, u, v, he, hx, hy => by
    simp only [eqD] at he
    split at he
    · rename_i ht
      split at he
      · rename_i hk
        subst hk
        simp only [RD] at hx hy
        obtain ⟨rfl, _⟩ := hx
        obtain ⟨rfl, _⟩ := hy
        simp only [Option.some.injEq] at he
        rw [run_equalIn_int w d t _ _ _ _ ht, ← he]
        rfl
      · cases he
    · rename_i ht
      simp only [RD] at hx hy
      obtain ⟨rfl, _⟩ := hx
      obtain ⟨rfl, _⟩ := hy
      simp only [Option.some.injEq] at he
      rw [run_equalIn_bool' w d t _ _ ht, ← he]
      rfl
    · rename_i ht
      simp only [RD] at hx hy
      obtain ⟨rfl, _⟩ := hx
      obtain ⟨rfl, _⟩ := hy
      simp only [Option.some.injEq] at he
      rw [run_equalIn_string w d t _ _ ht, ← he, beq_decide_list]
      rfl
    · rename_i fs xs ys ht
      split at he
      · cases he
      · rename_i hs
        simp only [RD] at hx hy
        obtain ⟨us, rfl, hx⟩ := hx
        obtain ⟨vs, rfl, hy⟩ := hy
        have hf : P.fieldsOf t = fs := by simp [Program.fieldsOf, ht]
        rw [run_equalIn_struct w d t _ _ (by rw [hf]; exact ht) (by simpa using hs), hf]
        exact eqFs_ok (eqD P n) d (fun t x y b u v h1 h2 h3 => eqD_ok n d (by omega) t x y b u v h1 h2 h3) hx hy fs.toList b he
    · cases he

def eqDepth : Nat := 20
def abin (P : Program) (op : BinOp) (t : TypeId) (x y : A) (wt : W) : Option (Cn × A) :=
  match x, y with
  | .d (.v (.int k a)), .d (.v (.int k' b)) =>
    match op with
    | .shl => some (outJ (.le 0 b) (outI k (.int .shl k a b) (fun _ => intVal .shl k a b) wt))
    | .shr => some (outJ (.le 0 b) (outI k (.int .shr k a b) (fun _ => intVal .shr k a b) wt))
    | op => if k = k' then intBin op k a b wt else none
  | .d (.v (.string a)), .d (.v (.string b)) =>
    match op with
    | .add => match wt with
      | .str l => some (.sapp a b l, .d (.v (.string ⟨⟨l⟩⟩)))
      | _ => none
    | .eql => some (conc (.sEq a b) wt)
    | .neq => some (conc (.not (.sEq a b)) wt)
    | .lss => some (conc (.sLt a b) wt)
    | _ => none
  | .d (.v (.bool a)), .d (.v (.bool b)) =>
    match op, P.underlying t with
    | .eql, some .bool => some (conc (.bEq a b) wt)
    | .neq, some .bool => some (conc (.not (.bEq a b)) wt)
    | _, _ => none
  | .d (.agg xs), .d (.agg ys) =>
    if P.eqGuardType P.depth t then none else
    match op, eqD P eqDepth t (.agg xs) (.agg ys) with
    | .eql, some b => some (conc b wt)
    | .neq, some b => some (conc (.not b) wt)
    | _, _ => none
  | _, _ => none

theorem abin_ok {P : Program} {h : Hw} {w : World} {val : Val} {op : BinOp} {t : TypeId} {x y : A} {wt : W} {Φ : Cn} {r : A} {u v : Value} (he : abin P op t x y wt = some (Φ, r)) (hΦ : Φ.ok)
    (hx : RA h w val x u) (hy : RA h w val y v) (X Y : Operand) :
    ∃ z, (do eqGuard op t X Y u v; binOp op t u v : Sem Value).run P w = .ok z w ∧ RA h w val r z := by
  unfold abin at he
  split at he
  · rename_i k a k' b
    simp only [RA, RD] at hx hy
    obtain ⟨rfl, _⟩ := hx
    obtain ⟨rfl, _⟩ := hy
    rw [eqGuard_at_int]
    simp only [Sem.run_bind, Sem.run_pure, Result.andThen_ok]
    split at he
    · simp only [Option.some.injEq, outJ, Prod.mk.injEq] at he
      obtain ⟨h1, h2⟩ := he
      rw [← h1] at hΦ
      simp only [Cn.ok] at hΦ
      exact ⟨_, by simp [binOp, Op.shift, Int.not_lt.2 hΦ.1]; rfl, outI_ok (f := .int .shl k a b) (v := fun _ => intVal .shl k a b) (fun n hn => hn) (Prod.ext rfl h2) hΦ.2⟩
    · simp only [Option.some.injEq, outJ, Prod.mk.injEq] at he
      obtain ⟨h1, h2⟩ := he
      rw [← h1] at hΦ
      simp only [Cn.ok] at hΦ
      exact ⟨_, by simp [binOp, Op.shift, Int.not_lt.2 hΦ.1]; rfl, outI_ok (f := .int .shr k a b) (v := fun _ => intVal .shr k a b) (fun n hn => hn) (Prod.ext rfl h2) hΦ.2⟩
    · split at he
      · rename_i hk
        subst hk
        exact intBin_ok he hΦ
      · cases he
  · rename_i a b
    simp only [RA, RD] at hx hy
    obtain ⟨rfl, _⟩ := hx
    obtain ⟨rfl, _⟩ := hy
    rw [eqGuard_at_string]
    simp only [Sem.run_bind, Sem.run_pure, Result.andThen_ok]
    split at he
    · split at he
      · simp only [Option.some.injEq, Prod.mk.injEq] at he
        obtain ⟨rfl, rfl⟩ := he
        simp only [Cn.ok] at hΦ
        exact ⟨_, by simp only [binOp_string_add]; exact run_string_add_sum (P := P) w a b hΦ.1, by simp [RA, RD, Value.oneCell', hΦ.2]⟩
      · cases he
    · simp only [Option.some.injEq] at he
      exact ⟨_, by simp only [binOp_string_eql, Sem.run_pure]; rw [beq_decide_list]; rfl, conc_ok he hΦ⟩
    · simp only [Option.some.injEq] at he
      exact ⟨_, by simp only [binOp_string_neq, Sem.run_pure]; rw [beq_decide_list]; rfl, conc_ok he hΦ⟩
    · simp only [Option.some.injEq] at he
      exact ⟨_, by simp only [binOp_string_lss, Sem.run_pure]; rw [ByteArray.toList_eq, ByteArray.toList_eq]; rfl, conc_ok he hΦ⟩
    · cases he
  · rename_i a b
    simp only [RA, RD] at hx hy
    obtain ⟨rfl, _⟩ := hx
    obtain ⟨rfl, _⟩ := hy
    rw [eqGuard_at_bool]
    simp only [Sem.run_bind, Sem.run_pure, Result.andThen_ok]
    split at he
    · rename_i ht
      simp only [Option.some.injEq] at he
      exact ⟨_, by simp [binOp, Op.equal, Op.maxDepth, run_equalIn_bool' w _ t a b ht, BX.val], conc_ok he hΦ⟩
    · rename_i ht
      simp only [Option.some.injEq] at he
      exact ⟨_, by simp [binOp, Op.equal, Op.maxDepth, run_equalIn_bool' w _ t a b ht, BX.val], conc_ok he hΦ⟩
    · cases he
  · rename_i xs ys
    split at he
    · cases he
    · rename_i hg
      simp only [RA] at hx hy
      split at he
      · rename_i b hb
        simp only [Option.some.injEq] at he
        have hq := eqD_ok (P := P) eqDepth 10000 (by decide) t _ _ b u v hb hx hy
        simp only [RD] at hx hy
        obtain ⟨us, rfl, _⟩ := hx
        obtain ⟨vs, rfl, _⟩ := hy
        exact ⟨_, by simp only [Sem.run_bind, run_eqGuard_agg w .eql t X Y ⟨us⟩ ⟨vs⟩ (by simpa using hg), Result.andThen_ok, run_eql_struct, hq], conc_ok he hΦ⟩
      · rename_i b hb
        simp only [Option.some.injEq] at he
        have hq := eqD_ok (P := P) eqDepth 10000 (by decide) t _ _ b u v hb hx hy
        simp only [RD] at hx hy
        obtain ⟨us, rfl, _⟩ := hx
        obtain ⟨vs, rfl, _⟩ := hy
        exact ⟨_, by simp only [Sem.run_bind, run_eqGuard_agg w .neq t X Y ⟨us⟩ ⟨vs⟩ (by simpa using hg), Result.andThen_ok, run_neq_struct, hq]; rfl, conc_ok he hΦ⟩
      · cases he
  · cases he
end Go.Ac
