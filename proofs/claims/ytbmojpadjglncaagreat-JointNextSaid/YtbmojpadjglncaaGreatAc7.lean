/- Own work: how calls of the model run over plain data. -/
import Derived.Test.YtbmojpadjglncaaGreatAc6
set_option linter.unusedVariables false
set_option linter.unusedSimpArgs false
namespace Go.Ac

def concA (x : A) (wt : W) : Cn × A :=
  match x, wt with
  | .d (.v (.bool b)), .bit c => (.eq (.lit b) c, bo c)
  | x, _ => (.t, x)
theorem concA_ok {h w val} {x : A} {wt : W} {Φ : Cn} {r : A} {u : Value} (he : concA x wt = (Φ, r)) (hΦ : Φ.ok) (hr : RA h w val x u) : RA h w val r u := by
  unfold concA at he
  split at he
  · simp only [Prod.mk.injEq] at he
    obtain ⟨rfl, rfl⟩ := he
    simp only [Cn.ok] at hΦ
    subst hΦ
    exact hr
  · simp only [Prod.mk.injEq] at he
    obtain ⟨_, rfl⟩ := he
    exact hr

def isNilP : A → Bool
  | .d (.v (.pointer none)) => true
  | _ => false
theorem isNilP_ok {h w val} {a : A} {u : Value} (hp : isNilP a = true) (hr : RA h w val a u) : u = .pointer none := by
  unfold isNilP at hp
  split at hp
  · simp only [RA, RD] at hr; exact hr.1
  · cases hp
def isAggA : A → Bool
  | .d (.agg _) => true
  | .agg _ => true
  | _ => false
theorem isAggA_ok {h w val} {a : A} {u : Value} (hp : isAggA a = true) (hr : RA h w val a u) : ∃ us, u = .agg ⟨us⟩ := by
  unfold isAggA at hp
  split at hp
  · simp only [RA, RD] at hr; obtain ⟨us, e, _⟩ := hr; exact ⟨us, e⟩
  · simp only [RA] at hr; obtain ⟨us, e, _⟩ := hr; exact ⟨us, e⟩
  · cases hp

def optI : Option A → Option (Option Int)
  | none => some none
  | some (.d (.v (.int _ n))) => some (some n)
  | _ => none
theorem optI_int {x : Option A} {oh : Option Int} (h : optI x = some oh) (d : Int) : optInt x d = some (oh.getD d) := by
  unfold optI at h
  split at h
  · simp only [Option.some.injEq] at h; subst h; rfl
  · simp only [Option.some.injEq] at h; subst h; rfl
  · cases h
def unptr : A → A
  | .d (.ptr cs) => .eptr cs
  | x => x
theorem unptr_ok {h w val} {x : A} {u : Value} (hr : RA h w val x u) : RA h w val (unptr x) u := by
  unfold unptr
  split
  · simpa only [RA, RD] using hr
  · exact hr
def apure (P : Program) (o : Oper) (ev rd : Operand → A) (wt : W) : Option (Cn × A) :=
  match o.op with
  | .move x => some (concA (ev x) wt)
  | .assign x => some (concA (ev x) wt)
  | .pick c a b => match ev c with
    | .d (.v (.bool true)) => some (concA (ev a) wt)
    | .d (.v (.bool false)) => some (concA (ev b) wt)
    | _ => none
  | .nilCheck x => match ev x with
    | .clo f a b => if f matches .func _ then some (.t, .clo f a b) else none
    | .opq (.clo f a b) => if f matches .func _ then some (.t, .opq (.clo f a b)) else none
    | y => if isPtr y then some (.t, y) else none
  | .binOp op t x y _ =>
    if isPtr (ev x) && isNilP (ev y) then
      match op, P.underlying t with
      | .eql, some (.pointer _) => some (conc (.lit false) wt)
      | .neq, some (.pointer _) => some (conc (.lit true) wt)
      | _, _ => none
    else if isNilP (ev x) && isNilP (ev y) then
      match op, P.underlying t with
      | .eql, some (.pointer _) => some (conc (.lit true) wt)
      | .neq, some (.pointer _) => some (conc (.lit false) wt)
      | _, _ => none
    else abin P op t (rd x) (rd y) wt
  | .unOp op _ x => match op, ev x with
    | .not, .d (.v (.bool b)) => some (conc (.not (.lit b)) wt)
    | .neg, .d (.v (.int k n)) => some (outI k (.int .sub k 0 n) (fun _ => intVal .sub k 0 n) wt)
    | _, _ => none
  | .convert src dst x => match P.underlying src, P.underlying dst, rd x with
    | some _, some (.int k), .d (.v (.int _ n)) => some (outI k (.wrap k n) (fun _ => k.wrap n) wt)
    | some .string, some .string, .d (.v (.string s)) => some (.t, .d (.v (.string s)))
    | some (.slice e), some .string, .d (.sl xs) => match P.underlying e, wt with
      | some (.int .u8), .str l => some (.bytes xs l, .d (.v (.string ⟨⟨l⟩⟩)))
      | _, _ => none
    | _, _, _ => none
  | .makeFunc fn first captured => some (.t, .clo fn (first.toList.map rd) (captured.toList.map rd))
  | .extract t i => match ev t with
    | .tup vs => vs[i]?.map fun v => concA v wt
    | _ => none
  | .field t x f => match fieldOf P t f, (rd x).cells with
    | some fd, some cs => if isAggA (rd x) then (partA P fd.type cs fd.offset).map fun v => concA v wt else none
    | _, _ => none
  | .fieldAddr t x f => match fieldOf P t f, ev x with
    | some fd, .box n off => some (.t, .box n (off + fd.offset))
    | some fd, .eptr cs => some (.t, .eptr (cs.drop fd.offset))
    | _, _ => none
  | .indexAddr t x i => match elemOf' P t, rd x, ev i, wt with
    | some e, .d (.sl xs), .d (.v (.int _ i)), .el y => if y.nc == P.cellsOf e then some (.elem xs i y, .eptr y.cells) else none
    | _, _, _, _ => none
  | .index t x i => match P.underlying t, ev x, ev i, wt with
    | some .string, .d (.v (.string s)), .d (.v (.int _ i)), .int n => some (.byte s i n, it .u8 n)
    | _, _, _, _ => none
  | .slice t x lo hi none => match P.underlying t, rd x with
    | some (.slice _), .d (.sl xs) => match elemOf' P t, optInt (lo.map ev) 0, optI (hi.map ev), wt with
      | some e, some l, some oh, .sl ys => some (.cut xs l oh ys (P.cellsOf e), .d (.sl ys))
      | _, _, _, _ => none
    | some .string, .d (.v (.string s)) => match optInt (lo.map ev) 0, optI (hi.map ev), wt with
      | some l, some oh, .str ys => some (.scut s l oh ys, .d (.v (.string ⟨⟨ys⟩⟩)))
      | _, _, _ => none
    | _, _ => none
  | .load t x => match ev x with
    | .eptr cs => (partA P t (cs.map .d) 0).map fun v => concA (unptr v) wt
    | _ => none
  | .call c => match c.callee, c.args.toList, c.argTypes.toList with
    | .builtin .len, [x], [t] => match P.underlying t, rd x with
      | some (.slice _), .d (.sl xs) => some (outI .i64 (.len xs) (fun _ => xs.length) wt)
      | some .string, .d (.v (.string s)) => some (outI .i64 (.slen s) (fun _ => s.size) wt)
      | _, _ => none
    | .builtin .min, [x, y], _ => match ev x, ev y with
      | .d (.v (.int k a)), .d (.v (.int _ b)) => some (outI k (.min a b) (fun _ => if b < a then b else a) wt)
      | _, _ => none
    | .builtin .max, [x, y], _ => match ev x, ev y with
      | .d (.v (.int k a)), .d (.v (.int _ b)) => some (outI k (.max a b) (fun _ => if a < b then b else a) wt)
      | _, _ => none
    | _, _, _ => none
  | _ => none


theorem fold_push : ∀ (l acc : List UInt8), (l.map fun b => (b.toNat : Int)).foldl (fun (r : ByteArray) n => r.push (UInt8.ofNat n.toNat)) ⟨⟨acc⟩⟩ = ⟨⟨acc ++ l⟩⟩
  | [], acc => by simp
  | b :: l, acc => by
    simp only [List.map_cons, List.foldl_cons]
    have : (ByteArray.mk ⟨acc⟩).push (UInt8.ofNat (b.toNat : Int).toNat) = ⟨⟨acc ++ [b]⟩⟩ := by simp [ByteArray.push]
    rw [this, fold_push l (acc ++ [b])]
    simp

section
variable {P : Program} {h : Hw} {w : World} {val : Val}

theorem run_bytes {xs : List D} {u : Value} {l : List UInt8} (hr : RD h w (.sl xs) u) (hx : xs = l.map dbyte) : (Conv.bytesToString u).run P w = .ok (.string ⟨⟨l⟩⟩) w := by
  subst hx
  simp only [RD] at hr
  obtain ⟨ad, cap, k, us, rfl, hl, hm, hrow, hc⟩ := hr
  have hus : us = l.map fun b => Value.int .u8 (b.toNat : Int) := by
    clear hc hl hm
    induction l generalizing us with
    | nil => simpa [RRow] using hrow
    | cons b l ih =>
      simp only [List.map_cons, RRow, dbyte, RD] at hrow
      obtain ⟨u, us', rfl, _, _, ⟨rfl, _⟩, _, h5⟩ := hrow
      simp only [Value.cells, List.map_cons]
      rw [ih us' h5]
      rfl
  cases ad with
  | none =>
    have h0 : l = [] := by
      cases l with
      | nil => rfl
      | cons b l => obtain ⟨a, ha, _⟩ := hc (by simp); cases ha
    subst h0
    simp [Conv.bytesToString]; rfl
  | some a =>
    have hcell : ∀ j v, us[j]? = some v → w.cell? (a.add j) = some v := by
      intro j v hj
      rcases Nat.eq_zero_or_pos l.length with h0 | h0
      · have hl0 : l = [] := List.eq_nil_of_length_eq_zero h0
        subst hl0; subst hus; simp at hj
      · obtain ⟨a', ha, hcell⟩ := hc (by simpa using h0)
        cases ha
        exact (hcell j v hj).1
    have hl' := run_loadCells_list (P := P) w a us hcell
    have := run_bytesToString (P := P) w a us.length cap (l.map fun b => (b.toNat : Int)) (by rw [hl', hus]; simp [Function.comp_def])
    have he : us.length = (l.map dbyte).length := by rw [hus]; simp
    rw [he] at this
    rw [this]
    have hf := fold_push l []
    simp only [List.nil_append] at hf
    congr 2

theorem optInt_ok {val : Val} {f : Operand → A} {ρ : Operand → Value} (hρ : ∀ x, RA h w val (f x) (ρ x)) {x : Option Operand} {d i : Int} (he : optInt (x.map f) d = some i) :
    (x = none ∧ i = d) ∨ ∃ y k, x = some y ∧ ρ y = .int k i := by
  cases x with
  | none => simp [optInt] at he; exact .inl ⟨rfl, he.symm⟩
  | some y =>
    simp only [Option.map_some, optInt] at he
    split at he
    · rename_i e; simp at e
    · rename_i d' k' i' e
      simp only [Option.some.injEq] at e he
      subst he
      have := hρ y
      rw [e] at this
      simp only [RA, RD] at this
      exact .inr ⟨y, _, rfl, this.1⟩
    · cases he
end

theorem RAs_map {h w val} {f : Operand → A} {ρ : Operand → Value} (hρ : ∀ x, RA h w val (f x) (ρ x)) : ∀ l : List Operand, RAs h w val (l.map f) (l.map ρ)
  | [] => by simp [RAs]
  | x :: l => by simp only [List.map_cons, RAs]; exact ⟨_, _, rfl, hρ x, RAs_map hρ l⟩

theorem apure_ok {P : Program} {h : Hw} {w : World} {val : Val} {o : Oper} {ev rd : Operand → A} {wt : W} {Φ : Cn} {r : A} {ρ : Operand → Value}
    (hev : ∀ x, RA h w val (ev x) (ρ x)) (hrd : ∀ x, RA h w val (rd x) (ρ x)) (he : apure P o ev rd wt = some (Φ, r)) (hΦ : Φ.ok) :
    ∃ u, (execOp ρ o).run P w = .ok (.value u) w ∧ RA h w val r u := by
  obtain ⟨dst, op, type, pos, after, guard⟩ := o
  unfold apure at he
  unfold execOp
  cases op <;> simp only at he <;> simp only
  case move x => simp only [Option.some.injEq] at he; exact ⟨_, rfl, concA_ok he hΦ (hev x)⟩
  case assign x => simp only [Option.some.injEq] at he; exact ⟨_, rfl, concA_ok he hΦ (hev x)⟩
  case pick c a b =>
    split at he
    · rename_i hc
      simp only [Option.some.injEq] at he
      have := hev c
      rw [hc] at this
      simp only [RA, RD] at this
      exact ⟨_, by simp [this.1, asBool], concA_ok he hΦ (hev a)⟩
    · rename_i hc
      simp only [Option.some.injEq] at he
      have := hev c
      rw [hc] at this
      simp only [RA, RD] at this
      exact ⟨_, by simp [this.1, asBool], concA_ok he hΦ (hev b)⟩
    · cases he
  case nilCheck x =>
    split at he
    · rename_i f a b hx
      split at he
      · cases he
        have hh := hev x
        rw [hx] at hh
        have hh0 := hh
        simp only [RA] at hh
        obtain ⟨fs, cs, e, _⟩ := hh
        refine ⟨ρ x, ?_, hh0⟩
        rw [e]
        rfl
      · cases he
    · rename_i f a b hx
      split at he
      · cases he
        have hh := hev x
        rw [hx] at hh
        have hh0 := hh
        simp only [RA] at hh
        obtain ⟨fs, cs, e, _⟩ := hh
        refine ⟨ρ x, ?_, hh0⟩
        rw [e]
        rfl
      · cases he
    · split at he
      · rename_i hp
        simp only [Option.some.injEq, Prod.mk.injEq] at he
        obtain ⟨_, rfl⟩ := he
        obtain ⟨p, e⟩ := isPtr_ok hp (hev x)
        refine ⟨ρ x, ?_, hev x⟩
        rw [e]
        rfl
      · cases he
  case binOp op t x y yt =>
    split at he
    · rename_i hp
      simp only [Bool.and_eq_true] at hp
      obtain ⟨p, ex⟩ := isPtr_ok hp.1 (hev x)
      have ey := isNilP_ok hp.2 (hev y)
      rw [ex, ey, eqGuard_at_pointer]
      split at he
      · rename_i el ht
        simp only [Option.some.injEq] at he
        have hq : P.underlying t = some (.pointer (P.pointee t)) := by simp [Program.pointee, ht]
        exact ⟨_, by simp [run_eql_pointer_nil w t (some p) hq, BX.val], conc_ok he hΦ⟩
      · rename_i el ht
        simp only [Option.some.injEq] at he
        have hq : P.underlying t = some (.pointer (P.pointee t)) := by simp [Program.pointee, ht]
        exact ⟨_, by simp [run_neq_pointer_nil w t (some p) hq, BX.val], conc_ok he hΦ⟩
      · cases he
    · split at he
      · rename_i hp
        simp only [Bool.and_eq_true] at hp
        rw [isNilP_ok hp.1 (hev x), isNilP_ok hp.2 (hev y), eqGuard_at_pointer]
        split at he
        · rename_i el ht
          simp only [Option.some.injEq] at he
          have hq : P.underlying t = some (.pointer (P.pointee t)) := by simp [Program.pointee, ht]
          exact ⟨_, by simp [run_eql_pointer_nil w t none hq, BX.val], conc_ok he hΦ⟩
        · rename_i el ht
          simp only [Option.some.injEq] at he
          have hq : P.underlying t = some (.pointer (P.pointee t)) := by simp [Program.pointee, ht]
          exact ⟨_, by simp [run_neq_pointer_nil w t none hq, BX.val], conc_ok he hΦ⟩
        · cases he
      · obtain ⟨z, h1, h2⟩ := abin_ok (X := x) (Y := y) he hΦ (hrd x) (hrd y)
        refine ⟨z, ?_, h2⟩
        simp only [Sem.run_bind] at h1 ⊢
        rw [h1]
        rfl
  case unOp op xt x =>
    split at he
    · rename_i b hx
      have ex := hev x
      rw [hx] at ex
      simp only [RA, RD] at ex
      rw [ex.1]
      simp only [Option.some.injEq] at he
      exact ⟨_, by simp [Op.unary, BX.val], conc_ok he hΦ⟩
    · rename_i k n hx
      have ex := hev x
      rw [hx] at ex
      simp only [RA, RD] at ex
      rw [ex.1]
      simp only [Option.some.injEq] at he
      exact ⟨_, by simp [Op.unary, Op.intArith, intVal], outI_ok (f := .int .sub k 0 n) (v := fun _ => intVal .sub k 0 n) (fun n hn => hn) he hΦ⟩
    · cases he
  case convert src dst x =>
    have ex := hrd x
    split at he
    · rename_i ds k k' n hs hd hx
      rw [hx] at ex
      simp only [RA, RD] at ex
      rw [ex.1]
      simp only [Option.some.injEq] at he
      exact ⟨_, by simp [convert, Sem.run_bind, run_underlying hs, run_underlying hd, Conv.intToInt], outI_ok (f := .wrap k n) (v := fun _ => k.wrap n) (fun n hn => hn) he hΦ⟩
    · rename_i s hs hd hx
      rw [hx] at ex
      have ex0 := ex
      simp only [RA, RD] at ex
      simp only [Option.some.injEq, Prod.mk.injEq] at he
      obtain ⟨_, rfl⟩ := he
      refine ⟨ρ x, ?_, ex0⟩
      rw [ex.1]
      simp [convert, Sem.run_bind, run_underlying hs, run_underlying hd]
    · rename_i e xs hs hd hx
      rw [hx] at ex
      simp only [RA] at ex
      split at he
      · rename_i l hel
        simp only [Option.some.injEq, Prod.mk.injEq] at he
        obtain ⟨rfl, rfl⟩ := he
        try simp only [Cn.ok] at hΦ
        have hb := run_bytes (P := P) ex hΦ
        refine ⟨_, ?_, by simp only [RA, RD]; exact ⟨rfl, rfl⟩⟩
        have : ∃ ad n c, ρ x = .slice ad n c := by
          simp only [RD] at ex
          obtain ⟨ad, cap, k, us, e, _⟩ := ex
          exact ⟨_, _, _, e⟩
        obtain ⟨ad, n, c, e⟩ := this
        rw [e] at hb ⊢
        simp [convert, Sem.run_bind, run_underlying hs, run_underlying hd, run_underlying hel, hb]
      · cases he
    · cases he
  case makeFunc fn first captured =>
    simp only [Option.some.injEq, Prod.mk.injEq] at he
    obtain ⟨_, rfl⟩ := he
    refine ⟨.func fn (first.map ρ) (captured.map ρ), rfl, ?_⟩
    simp only [RA]
    refine ⟨first.toList.map ρ, captured.toList.map ρ, ?_, RAs_map hrd _, RAs_map hrd _⟩
    congr 1 <;> (apply Array.ext'; simp)
  case extract t i =>
    split at he
    · rename_i vs ht
      have hh := hev t
      rw [ht] at hh
      simp only [RA] at hh
      obtain ⟨us, e, hr⟩ := hh
      simp only [Option.map_eq_some_iff] at he
      obtain ⟨v, hv, he⟩ := he
      obtain ⟨u, hu, hr'⟩ := hr.get i v hv
      rw [e]
      exact ⟨u, by simp [Instr.extract, hu], concA_ok he hΦ hr'⟩
    · cases he
  case field t x f =>
    split at he
    · rename_i fd cs hf hc
      split at he
      · rename_i hag
        simp only [Option.map_eq_some_iff] at he
        obtain ⟨v, hv, he⟩ := he
        obtain ⟨fs, hu, hy, _, _⟩ := fieldOf_ok hf
        have hx := hrd x
        have hcs := A.cells_ok hc hx
        obtain ⟨us, e⟩ := isAggA_ok hag hx
        rw [e] at hcs ⊢
        obtain ⟨u, h1, h2⟩ := partA_ok (P := P) hv hcs.1 hcs.2
        simp only [Value.cells] at h1
        exact ⟨u, by simp [Instr.field, Sem.run_bind, run_underlying hu, hy, asAgg, h1], concA_ok he hΦ h2⟩
      · cases he
    · cases he
  case fieldAddr t x f =>
    split at he
    · rename_i fd n off hf hx
      have hh := hev x
      rw [hx] at hh
      simp only [RA] at hh
      obtain ⟨b, h1, h2⟩ := hh
      rw [h2]
      simp only [Option.some.injEq, Prod.mk.injEq] at he
      obtain ⟨_, rfl⟩ := he
      refine ⟨_, by simp only [Sem.run_bind, run_fieldAt hf]; rfl, ?_⟩
      simp only [RA]
      exact ⟨b, h1, by rw [Addr.add_lit]⟩
    · rename_i fd cs hf hx
      have hh := hev x
      rw [hx] at hh
      simp only [RA] at hh
      obtain ⟨a, us, h1, h2, h3⟩ := hh
      rw [h1]
      simp only [Option.some.injEq, Prod.mk.injEq] at he
      obtain ⟨_, rfl⟩ := he
      refine ⟨_, by simp only [Sem.run_bind, run_fieldAt hf]; rfl, ?_⟩
      simp only [RA]
      refine ⟨_, us.drop fd.offset, rfl, h2.drop _, fun j v hj => ?_⟩
      rw [List.getElem?_drop] at hj
      have := h3 _ v hj
      rw [add_add, add_block, add_off, Nat.add_assoc]
      exact this
    · cases he
  case indexAddr t x i =>
    split at he
    · rename_i e xs k i' y hel hx hi
      split at he
      · rename_i hk
        simp only [Option.some.injEq, Prod.mk.injEq] at he
        obtain ⟨rfl, rfl⟩ := he
        try simp only [Cn.ok] at hΦ
        have hh := hrd x
        rw [hx] at hh
        simp only [RA] at hh
        have hi' := hev i
        rw [hi] at hi'
        simp only [RA, RD] at hi'
        rw [hi'.1]
        obtain ⟨p, h1, h2⟩ := RD.index (P := P) (val := val) (k := k) hh hel hΦ.1 hΦ.2 (by simpa using hk)
        exact ⟨p, by simp [h1], h2⟩
      · cases he
    · cases he
  case index t x i =>
    split at he
    · rename_i s k i' c' ht hx hi
      simp only [Option.some.injEq, Prod.mk.injEq] at he
      obtain ⟨rfl, rfl⟩ := he
      try simp only [Cn.ok] at hΦ
      obtain ⟨hΦ1, c, hΦ2, hΦ3⟩ := hΦ
      have hΦ := And.intro hΦ1 hΦ2
      subst hΦ3
      have hh := hev x
      rw [hx] at hh
      simp only [RA, RD] at hh
      have hi' := hev i
      rw [hi] at hi'
      simp only [RA, RD] at hi'
      rw [hi'.1, hh.1]
      have hlt : i'.toNat < s.size := by
        rcases Nat.lt_or_ge i'.toNat s.data.toList.length with h | h
        · simpa using h
        · rw [List.getElem?_eq_none h] at hΦ; cases hΦ.2
      have hg : s[i'.toNat] = c := by
        have h2 := hΦ.2
        rw [List.getElem?_eq_getElem (by simpa using hlt)] at h2
        simp only [Option.some.injEq] at h2
        rw [← h2]
        rfl
      refine ⟨_, ?_, RA_it _ _⟩
      rw [Sem.run_bind, run_index_string w t s k i' ht, dif_pos ⟨hΦ.1, by omega⟩, hg]
      rfl
    · cases he
  case slice t x lo hi mx =>
    cases mx with
    | some m => cases he
    | none =>
      simp only at he
      split at he
      · rename_i e0 xs ht hx
        split at he
        · rename_i e l oh ys hel hl hhi0
          simp only [Option.some.injEq, Prod.mk.injEq] at he
          obtain ⟨rfl, rfl⟩ := he
          try simp only [Cn.ok] at hΦ
          obtain ⟨p1, p2, p3, p4, p5⟩ := hΦ
          subst p5
          have hhi := optI_int hhi0 xs.length
          generalize oh.getD (xs.length : Int) = hh at *
          have hx' := hrd x
          rw [hx] at hx'
          simp only [RA] at hx'
          obtain ⟨hu, hI, _⟩ := elemOf'_ok hel
          have hP : P.elem t = e := by simp [Program.elem, hu]
          obtain ⟨a, n, c, e1, e2, e3, hr⟩ := RD.sub (P := P) hx' hel l.toNat hh.toNat (by omega) (by omega) p4
          have hq : P.underlying t = some (.slice (P.elem t)) := by rw [hP]; exact hu
          have hsz := fun w => run_size' (P := P) hI w
          rw [e1]
          refine ⟨_, ?_, by simp only [RA]; exact hr⟩
          rw [Sem.run_bind, run_sliceAt_slice w t _ _ _ _ hq]
          rcases optInt_ok hev hl with ⟨rfl, rfl⟩ | ⟨y, k, rfl, hy⟩ <;> rcases optInt_ok hev hhi with ⟨rfl, rfl⟩ | ⟨y', k', rfl, hy'⟩
          · simp only [Option.map_none, run_slice_all w t a n c hq, hP, hsz, Result.andThen_ok, sliced]
            simp [e2]
          · simp only [Option.map_none, Option.map_some, hy', run_slice_h w t a n c hq k' hh (by omega) (by omega), hP, hsz, Result.andThen_ok, sliced]
            simp
          · simp only [Option.map_none, Option.map_some, hy, run_slice_l w t a n c hq k l (by omega) (by omega), hP, hsz, Result.andThen_ok, sliced]
            simp [e2]
          · rw [Option.map_some, Option.map_some, Option.map_none, hy, hy', run_slice_lh w t a n c hq k k' l hh (by omega) (by omega) (by omega), hP, hsz]
            simp [sliced]
        · cases he
      · rename_i s ht hx
        split at he
        · rename_i l oh ys hl hhi0
          simp only [Option.some.injEq, Prod.mk.injEq] at he
          obtain ⟨rfl, rfl⟩ := he
          try simp only [Cn.ok] at hΦ
          obtain ⟨p1, p2, p3, p4⟩ := hΦ
          rw [← p4]
          have hhi := optI_int hhi0 s.size
          generalize oh.getD (s.size : Int) = hh at *
          have hx' := hrd x
          rw [hx] at hx'
          simp only [RA, RD] at hx'
          rw [hx'.1]
          refine ⟨_, ?_, by simp only [RA, RD]; exact ⟨rfl, rfl⟩⟩
          rw [Sem.run_bind, run_sliceAt_string w t _ _ _ _ ht]
          rcases optInt_ok hev hl with ⟨rfl, rfl⟩ | ⟨y, k, rfl, hy⟩ <;> rcases optInt_ok hev hhi with ⟨rfl, rfl⟩ | ⟨y', k', rfl, hy'⟩
          · simp only [Option.map_none, run_slice_string_all w t s ht, Result.andThen_ok]
            simp
          · simp only [Option.map_none, Option.map_some, hy', run_slice_string_h w t s ht k' hh (by omega) (by omega), Result.andThen_ok]
            simp
          · simp only [Option.map_none, Option.map_some, hy, run_slice_string_l w t s ht k l (by omega) (by omega), Result.andThen_ok]
            simp
          · simp only [Option.map_some, hy, hy']
            have eh : (hh.toNat : Int) = hh := Int.toNat_of_nonneg (by omega)
            simp [Instr.slice, run_underlying ht, Instr.sliceBounds, run_sliceBound, *, (by omega : 0 ≤ hh)]
        · cases he
      · cases he
  case load t x =>
    split at he
    · rename_i cs hx
      have hh := hev x
      rw [hx] at hh
      simp only [RA] at hh
      obtain ⟨a, us, h1, h2, h3⟩ := hh
      rw [h1]
      simp only [Option.map_eq_some_iff] at he
      obtain ⟨v, hv, he⟩ := he
      obtain ⟨u, g1, g2⟩ := loadA_ok (P := P) (val := val) hv (RDs_map_d h2) h2.one (fun j v hj => (h3 j v hj).1)
      rw [Addr.add_zero'] at g1
      exact ⟨u, by simp [Instr.loadAt, Instr.sureAddr, g1], concA_ok he hΦ (unptr_ok g2)⟩
    · cases he
  case call c =>
    obtain ⟨callee, args, argTypes⟩ := c
    simp only at he
    split at he
    · rename_i x t hargs htys
      obtain ⟨args⟩ := args
      obtain ⟨argTypes⟩ := argTypes
      simp only at hargs htys
      subst hargs; subst htys
      split at he
      · rename_i e xs ht hx
        have hh := hrd x
        rw [hx] at hh
        simp only [RA, RD] at hh
        obtain ⟨ad, cap, k, us, e1, _⟩ := hh
        simp only [Option.some.injEq] at he
        have hq : P.underlying t = some (.slice (P.elem t)) := by simp [Program.elem, ht]
        exact ⟨_, by simp [resolve, invoke, builtin, e1, run_len_slice w t type ad xs.length cap hq, goInt], outI_ok (f := .len xs) (v := fun _ => xs.length) (fun n hn => hn) he hΦ⟩
      · rename_i s ht hx
        have hh := hrd x
        rw [hx] at hh
        simp only [RA, RD] at hh
        simp only [Option.some.injEq] at he
        exact ⟨_, by simp [resolve, invoke, builtin, hh.1, run_len_string w t type s ht, goInt], outI_ok (f := .slen s) (v := fun _ => s.size) (fun n hn => hn) he hΦ⟩
      · cases he
    · rename_i x y hargs
      obtain ⟨args⟩ := args
      simp only at hargs
      subst hargs
      split at he
      · rename_i k a k' b hx hy
        have ex := hev x
        rw [hx] at ex
        have ey := hev y
        rw [hy] at ey
        simp only [RA, RD] at ex ey
        simp only [Option.some.injEq] at he
        exact ⟨_, by simp [resolve, invoke, builtin, ex.1, ey.1, Builtin.min_, Builtin.min2], outI_ok (f := .min a b) (v := fun _ => if b < a then b else a) (fun n hn => hn) he hΦ⟩
      · cases he
    · rename_i x y hargs
      obtain ⟨args⟩ := args
      simp only at hargs
      subst hargs
      split at he
      · rename_i k a k' b hx hy
        have ex := hev x
        rw [hx] at ex
        have ey := hev y
        rw [hy] at ey
        simp only [RA, RD] at ex ey
        simp only [Option.some.injEq] at he
        exact ⟨_, by simp [resolve, invoke, builtin, ex.1, ey.1, Builtin.max_, Builtin.max2], outI_ok (f := .max a b) (v := fun _ => if a < b then b else a) (fun n hn => hn) he hΦ⟩
      · cases he
    · cases he
  all_goals cases he
end Go.Ac
