/- Own work: how calls of the model run over plain data. -/
import Derived.Test.YtbmojpadjglncaaGreatAc18
import Derived.Test.YtbmojpadjglncaaGreatAc11b
set_option linter.unusedVariables false
set_option linter.unusedSimpArgs false
namespace Go.Ac

structure Lw where
  path : List Nat
  wk : List Ws
  e : Ex
  s : St

def cutAt (lw : List Lw) (p : List Nat) (s : St) : Option (Option (Ob × Ex × St)) :=
  match lw.find? fun q => q.path == p with
  | some q => some (match wks q.wk s with
    | some s1 => some (.loop p s1 q.e q.s, q.e, q.s)
    | none => none)
  | none => none
def acode (P : Program) (ws : List (Nat × W)) (lw : List Lw) : List Nat → Code → St → Option (Ob × Ex × St)
  | _, .skip, s => some (.c .t, .normal, s)
  | _, .label _, s => some (.c .t, .normal, s)
  | _, .region _ ops d, s => match aregion P ops d ws s with
    | some (Φ, s') => some (Φ, .normal, s')
    | none => none
  | p, .seq a b, s => match cutAt lw p s with
    | some r => r
    | none => match acode P ws lw (0 :: p) a s with
      | some (Φ, .normal, s1) => match acode P ws lw (1 :: p) b s1 with
        | some (Ψ, e, s2) => some (Φ.and Ψ, e, s2)
        | none => none
      | r => r
  | p, .cond c a b, s => match cutAt lw p s with
    | some r => r
    | none => match s.ev c with
      | .d (.v (.bool true)) => acode P ws lw (0 :: p) a s
      | .d (.v (.bool false)) => acode P ws lw (1 :: p) b s
      | _ => none
  | p, .block id b, s => match cutAt lw p s with
    | some r => r
    | none => match acode P ws lw (0 :: p) b s with
      | some (Φ, .exit j, s') => if j = id then some (Φ, .normal, s') else some (Φ, .exit j, s')
      | r => r
  | p, .loop _, s => match cutAt lw p s with
    | some r => r
    | none => none
  | p, .rangeFunc _ _ _ _, s => match cutAt lw p s with
    | some r => r
    | none => none
  | p, .scope b, s => match cutAt lw p s with
    | some r => r
    | none => acode P ws lw (0 :: p) b s
  | _, .exit id, s => some (.c .t, .exit id, s)
  | _, .ret, s => some (.c .t, .ret, s)
  | _, _, _ => none

def LpOf (P : Program) (rd : Option Nat) (root : Code) : Lp := fun p s e s' => AC P rd (codeAt root p) s fun e1 s1 => e1 = e ∧ s1 = s'

theorem AC.done {P : Program} {rd : Option Nat} {c : Code} {s : St} {Ψ : Ex → St → Prop} {e : Ex} (hw : ∀ a w Q, Q e.toExit a w → c.wpIn (fc rd) 0 P Q a w) (h : Ψ e s) : AC P rd c s Ψ :=
  fun h' w val a H Q hQ => hw a w Q (hQ e s h' w val a h H (Nx.refl s h' w val rfl))
theorem AC.mono {P : Program} {rd : Option Nat} {c : Code} {s : St} {Ψ Ψ' : Ex → St → Prop} (h : AC P rd c s Ψ) (hp : ∀ e s1, Ψ e s1 → Ψ' e s1) : AC P rd c s Ψ' :=
  h.post fun e s1 hΨ => ⟨s1, Wk.refl _, hp e s1 hΨ⟩

theorem cutAt_ok {P : Program} {rd : Option Nat} {root : Code} {lw : List Lw} {p : List Nat} {c : Code} {s s' : St} {Φ : Ob} {e : Ex} {r : Option (Ob × Ex × St)} (hp : codeAt root p = c) (hc : cutAt lw p s = some r) (he : r = some (Φ, e, s')) (hΦ : Φ.ok P (LpOf P rd root)) : AC P rd c s fun e1 s1 => e1 = e ∧ s1 = s' := by
  unfold cutAt at hc
  split at hc
  · rename_i q hq
    simp only [Option.some.injEq] at hc
    rw [he] at hc
    split at hc
    · rename_i s1 hs1
      simp only [Option.some.injEq, Prod.mk.injEq] at hc
      obtain ⟨rfl, rfl, rfl⟩ := hc
      have h2 : AC P rd (codeAt root p) s1 fun e1 s1 => e1 = q.e ∧ s1 = q.s := hΦ
      rw [hp] at h2
      exact AC.wk (wks_ok hs1) h2
    · cases hc
  · cases hc

theorem acode_ok {P : Program} {rd : Option Nat} {root : Code} {ws : List (Nat × W)} {lw : List Lw} (hm : P.follows .mixedOrders = true) : ∀ (c : Code) (p : List Nat) (s s' : St) (Φ : Ob) (e : Ex), codeAt root p = c →
    acode P ws lw p c s = some (Φ, e, s') → Φ.ok P (LpOf P rd root) → AC P rd c s fun e1 s1 => e1 = e ∧ s1 = s' := by
  intro c
  induction c with
  | skip =>
    intro p s s' Φ e _ he _
    simp only [acode, Option.some.injEq, Prod.mk.injEq] at he
    obtain ⟨_, rfl, rfl⟩ := he
    exact AC.done (e := .normal) (fun a w Q => wpIn_skip) ⟨rfl, rfl⟩
  | label l =>
    intro p s s' Φ e _ he _
    simp only [acode, Option.some.injEq, Prod.mk.injEq] at he
    obtain ⟨_, rfl, rfl⟩ := he
    exact AC.done (e := .normal) (fun a w Q => wpIn_label) ⟨rfl, rfl⟩
  | exit id =>
    intro p s s' Φ e _ he _
    simp only [acode, Option.some.injEq, Prod.mk.injEq] at he
    obtain ⟨_, rfl, rfl⟩ := he
    exact AC.done (e := .exit id) (fun a w Q => wpIn_exit) ⟨rfl, rfl⟩
  | ret =>
    intro p s s' Φ e _ he _
    simp only [acode, Option.some.injEq, Prod.mk.injEq] at he
    obtain ⟨_, rfl, rfl⟩ := he
    exact AC.done (e := .ret) (fun a w Q => wpIn_ret) ⟨rfl, rfl⟩
  | region id ops d =>
    intro p s s' Φ e _ he hΦ
    simp only [acode] at he
    split at he
    · rename_i Φ' s1 hr
      simp only [Option.some.injEq, Prod.mk.injEq] at he
      obtain ⟨rfl, rfl, rfl⟩ := he
      exact fun h w val a H Q hQ => aregion_ok hm hr hΦ H fun h' w' val' a' H' n' => hQ .normal _ h' w' val' a' ⟨rfl, rfl⟩ H' n'
    · cases he
  | seq x y ihx ihy =>
    intro p s s' Φ e hp he hΦ
    simp only [acode] at he
    have hpx : codeAt root (0 :: p) = x := by simp only [codeAt, hp, child]
    have hpy : codeAt root (1 :: p) = y := by simp only [codeAt, hp, child]
    split at he
    · rename_i hcut; exact cutAt_ok hp hcut he hΦ
    split at he
    · rename_i Φ1 s1 h1
      split at he
      · rename_i Ψ e2 s2 h2
        simp only [Option.some.injEq, Prod.mk.injEq] at he
        obtain ⟨rfl, rfl, rfl⟩ := he
        obtain ⟨o1, o2⟩ := Ob.and_ok hΦ
        refine AC.seq ((ihx _ _ _ _ _ hpx h1 o1).mono ?_)
        rintro e1 s1' ⟨rfl, rfl⟩
        exact ihy _ _ _ _ _ hpy h2 o2
      · cases he
    · rename_i hne
      refine AC.seq ((ihx _ _ _ _ _ hpx he hΦ).mono ?_)
      rintro e1 s1' ⟨rfl, rfl⟩
      cases e1 with
      | normal => exact absurd he (hne _ _)
      | exit id => exact ⟨rfl, rfl⟩
      | ret => exact ⟨rfl, rfl⟩
  | cond c x y ihx ihy =>
    intro p s s' Φ e hp he hΦ
    simp only [acode] at he
    have hpx : codeAt root (0 :: p) = x := by simp only [codeAt, hp, child]
    have hpy : codeAt root (1 :: p) = y := by simp only [codeAt, hp, child]
    split at he
    · rename_i hcut; exact cutAt_ok hp hcut he hΦ
    split at he
    · rename_i hc
      exact AC.cond (b := true) hc (ihx _ _ _ _ _ hpx he hΦ)
    · rename_i hc
      exact AC.cond (b := false) hc (ihy _ _ _ _ _ hpy he hΦ)
    · cases he
  | block id b ih =>
    intro p s s' Φ e hp he hΦ
    simp only [acode] at he
    have hpb : codeAt root (0 :: p) = b := by simp only [codeAt, hp, child]
    split at he
    · rename_i hcut; exact cutAt_ok hp hcut he hΦ
    split at he
    · rename_i Φ1 j s1 h1
      split at he
      · rename_i hj
        simp only [Option.some.injEq, Prod.mk.injEq] at he
        obtain ⟨rfl, rfl, rfl⟩ := he
        refine AC.block ((ih _ _ _ _ _ hpb h1 hΦ).mono ?_)
        rintro e1 s1' ⟨rfl, rfl⟩
        simp [hj]
      · rename_i hj
        simp only [Option.some.injEq, Prod.mk.injEq] at he
        obtain ⟨rfl, rfl, rfl⟩ := he
        refine AC.block ((ih _ _ _ _ _ hpb h1 hΦ).mono ?_)
        rintro e1 s1' ⟨rfl, rfl⟩
        simp [hj]
    · rename_i hne
      refine AC.block ((ih _ _ _ _ _ hpb he hΦ).mono ?_)
      rintro e1 s1' ⟨rfl, rfl⟩
      cases e1 with
      | normal => exact ⟨rfl, rfl⟩
      | exit id => exact absurd he (hne _ _ _)
      | ret => exact ⟨rfl, rfl⟩
  | loop b ih =>
    intro p s s' Φ e hp he hΦ
    simp only [acode] at he
    split at he
    · rename_i hcut; exact cutAt_ok hp hcut he hΦ
    · cases he
  | rangeFunc f params assign body _ _ =>
    intro p s s' Φ e hp he hΦ
    simp only [acode] at he
    split at he
    · rename_i hcut; exact cutAt_ok hp hcut he hΦ
    · cases he
  | scope b ih =>
    intro p s s' Φ e hp he hΦ
    simp only [acode] at he
    have hpb : codeAt root (0 :: p) = b := by simp only [codeAt, hp, child]
    split at he
    · rename_i hcut; exact cutAt_ok hp hcut he hΦ
    · exact AC.scope (ih _ _ _ _ _ hpb he hΦ)
  | goto l => intro p s s' Φ e _ he _; simp only [acode] at he; cases he
  | refuse why => intro p s s' Φ e _ he _; simp only [acode] at he; cases he

def isLoop : Code → Bool
  | .loop _ => true
  | _ => false
def around (P : Program) (ws : List (Nat × W)) (lw : List Lw) (root : Code) (p : List Nat) (l : List Ws) (s : St) : Option (Ob × Ex × St) :=
  match acode P ws lw (0 :: p) (codeAt root (0 :: p)) s with
  | some (Φ, e, s1) => match wks l s1 with
    | some s2 => some (Φ, e, s2)
    | none => none
  | none => none
theorem around_ok {P : Program} {rd : Option Nat} {root : Code} {ws : List (Nat × W)} {lw : List Lw} {p : List Nat} {l : List Ws} {s s' : St} {Φ : Ob} {e : Ex} (hm : P.follows .mixedOrders = true)
    (he : around P ws lw root p l s = some (Φ, e, s')) (hΦ : Φ.ok P (LpOf P rd root)) : AC P rd (codeAt root (0 :: p)) s fun e1 s1 => e1 = e ∧ Wk s1 s' := by
  unfold around at he
  split at he
  · rename_i Φ' e' s1 h1
    split at he
    · rename_i s2 h2
      simp only [Option.some.injEq, Prod.mk.injEq] at he
      obtain ⟨rfl, rfl, rfl⟩ := he
      exact (acode_ok hm _ _ _ _ _ _ rfl h1 hΦ).mono fun e1 s1' hh => ⟨hh.1, by rw [hh.2]; exact wks_ok h2⟩
    · cases he
  · cases he

theorem loop_ok {P : Program} {rd : Option Nat} {root : Code} {p : List Nat} (hm : P.follows .mixedOrders = true) (hl : isLoop (codeAt root p) = true) {ι : Type} (I : ι → St) (μ : ι → Nat) (Out : ι → Ex × St)
    (hr : ∀ i, ∃ ws lw l Φ e s', around P ws lw root p l (I i) = some (Φ, e, s') ∧ Φ.ok P (LpOf P rd root) ∧
      ((e = .normal ∧ ∃ j, s' = I j ∧ μ j < μ i ∧ Out j = Out i) ∨ (e ≠ .normal ∧ Out i = (e, s')))) (i : ι) : LpOf P rd root p (I i) (Out i).1 (Out i).2 := by
  unfold LpOf
  have hc : codeAt root p = .loop (codeAt root (0 :: p)) := by
    cases h : codeAt root p with
    | loop b => simp only [codeAt, h, child]
    | _ => rw [h] at hl; cases hl
  rw [hc]
  have hloop := AC.loop (P := P) (rd := rd) (c := codeAt root (0 :: p)) I μ (fun i e s => e = (Out i).1 ∧ Wk s (Out i).2) ?_ i
  · exact hloop.post fun e s1 hh => ⟨(Out i).2, hh.2, hh.1, rfl⟩
  · intro i
    obtain ⟨ws, lw, l, Φ, e, s', he, hΦ, hcase⟩ := hr i
    refine (around_ok hm he hΦ).mono ?_
    rintro e1 s1 ⟨rfl, hw⟩
    rcases hcase with ⟨rfl, j, rfl, hμ, ho⟩ | ⟨hne, ho⟩
    · exact ⟨j, hμ, hw, fun e s hh => by rw [← ho]; exact hh⟩
    · cases e1 with
      | normal => exact absurd rfl hne
      | exit id => rw [ho]; exact ⟨rfl, hw⟩
      | ret => rw [ho]; exact ⟨rfl, hw⟩

def rvRun (tmps : Array Value) : ResultVar → Sem Value
  | .tmp t => pure (tmps.getD t undef)
  | .cell a t => do loadVar t (← asAddr (tmps.getD a undef))
def rvA (P : Program) (s : St) : ResultVar → Option A
  | .tmp t => some (s.look (s.E.getD t .any))
  | .cell t ty => match s.E.getD t .any with
    | .box n off => match lk s.B n with
      | some (.cells cs) => (partA P ty cs off).map s.look
      | _ => none
    | _ => none
def rvsA (P : Program) (s : St) : List ResultVar → Option (List A)
  | [] => some []
  | x :: l => match rvA P s x, rvsA P s l with
    | some a, some as => some (a :: as)
    | _, _ => none
def resOf (P : Program) (s : St) (rs : List ResultVar) : Option A :=
  match rvsA P s rs with
  | some [a] => some a
  | some as => some (.tup as)
  | none => none
theorem rvA_ok {P : Program} {s : St} {h w val} {a : Act} (H : Holds s h w val a) {x : ResultVar} {r : A} (he : rvA P s x = some r) : ∃ u, (rvRun a.tmps x).run P w = .ok u w ∧ RA h w val r u := by
  cases x with
  | tmp t =>
    simp only [rvA, Option.some.injEq] at he
    subst he
    exact ⟨a.tmps.getD t undef, by simp [rvRun], H.look (H.ev (.tmp t))⟩
  | cell t ty =>
    simp only [rvA] at he
    split at he
    · rename_i n off hx
      split at he
      · rename_i cs hl
        simp only [Option.map_eq_some_iff] at he
        obtain ⟨v, hv, rfl⟩ := he
        have hx' := H.ev (.tmp t)
        simp only [St.ev, hx, RA] at hx'
        obtain ⟨b, e1, e2⟩ := hx'
        have hb := H.inv.rep (n, .cells cs) (List.mem_append_left _ (lk_mem hl))
        obtain ⟨g, us, tt, e3, hg, hr, h1, _⟩ := hb
        simp only at e3
        rw [e1] at e3
        cases e3
        obtain ⟨u, g1, g2⟩ := loadA_ok (P := P) (a := ⟨b, 0, none⟩) hv hr h1 (fun j v hj => by
          rw [Addr.add_lit, Nat.zero_add, cell_of_row w b j ⟨us⟩ tt (0, 0) hg]; simpa using hj)
        rw [Addr.add_lit, Nat.zero_add] at g1
        refine ⟨u, ?_, H.look g2⟩
        have e2' : a.tmps.getD t undef = .pointer (some ⟨b, off, none⟩) := e2
        simp [rvRun, e2', asAddr, g1]
      · cases he
    · cases he
theorem rvsA_ok {P : Program} {s : St} {h w val} {a : Act} (H : Holds s h w val a) : ∀ {l : List ResultVar} {as : List A}, rvsA P s l = some as → ∃ us, (l.mapM (rvRun a.tmps)).run P w = .ok us w ∧ RAs h w val as us
  | [], as, he => by simp only [rvsA, Option.some.injEq] at he; subst he; exact ⟨[], by simp, by simp [RAs]⟩
  | x :: l, as, he => by
    simp only [rvsA] at he
    split at he
    · rename_i r as' h1 h2
      simp only [Option.some.injEq] at he
      subst he
      obtain ⟨u, g1, g2⟩ := rvA_ok H h1
      obtain ⟨us, g3, g4⟩ := rvsA_ok H h2
      exact ⟨u :: us, by simp [List.mapM_cons, g1, g3], by simp only [RAs]; exact ⟨u, us, rfl, g2, g4⟩⟩
    · cases he
theorem resOf_ok {P : Program} {s : St} {h w val} {a : Act} (H : Holds s h w val a) {fn : Func} {r : A} (he : resOf P s fn.results.toList = some r) : ∃ u, (results fn a.tmps).run P w = .ok u w ∧ RA h w val r u := by
  unfold resOf at he
  have hres : ∀ us, (fn.results.toList.mapM (rvRun a.tmps)).run P w = .ok us w → (results fn a.tmps).run P w = .ok (if hs : us.toArray.size = 1 then us.toArray[0] else .tuple us.toArray) w := by
    intro us hus
    have e : results fn a.tmps = (do let vs ← fn.results.mapM (rvRun a.tmps); pure (if h : vs.size = 1 then vs[0] else .tuple vs)) := by
      unfold results
      congr 1
    rw [e, Array.mapM_eq_mapM_toList]
    simp [hus]
  split at he
  · rename_i r' hr
    simp only [Option.some.injEq] at he
    subst he
    obtain ⟨us, g1, g2⟩ := rvsA_ok H hr
    simp only [RAs] at g2
    obtain ⟨u, us', rfl, g3, rfl⟩ := g2
    exact ⟨u, by rw [hres _ g1]; simp, g3⟩
  · rename_i as hne hr
    simp only [Option.some.injEq] at he
    subst he
    obtain ⟨us, g1, g2⟩ := rvsA_ok H hr
    have hl := g2.length
    have : us.length ≠ 1 := by
      intro e
      match as, hne, hl with
      | [], _, hl => simp at hl; rw [hl] at e; simp at e
      | [x], hne, _ => exact hne x rfl
      | _ :: _ :: _, _, hl => simp at hl; omega
    exact ⟨.tuple ⟨us⟩, by rw [hres _ g1]; simp [this], by simp only [RA]; exact ⟨us, rfl, g2⟩⟩
  · cases he

def afunF (P : Program) (f : FuncId) (ws : List (Nat × W)) (lw : List Lw) (wk : List Ws) (args : List A) (F0 : Bx) : Option (Ob × A × Bx) :=
  match P.funcs[f]? with
  | some fn => match fn.body with
    | some c => if bares args then
        match acode P ws lw [] c ⟨args ++ List.replicate (fn.ntmps - args.length) (.tup []), [], F0⟩ with
        | some (Φ, .ret, s') => (wks wk s').bind fun s2 => (resOf P s2 fn.results.toList).map fun r => (Φ, r, s2.F)
        | some (Φ, .normal, s') => (wks wk s').bind fun s2 => (resOf P s2 fn.results.toList).map fun r => (Φ, r, s2.F)
        | _ => none
      else none
    | _ => none
  | none => none
theorem RAs_undef {h w val} (n : Nat) : RAs h w val (List.replicate n (.tup [])) (List.replicate n undef) := by
  induction n with
  | zero => simp [RAs]
  | succ n ih => simp only [List.replicate_succ, RAs]; exact ⟨undef, _, rfl, RA_undef, ih⟩

def fbody (P : Program) (f : FuncId) : Code := ((P.funcs[f]?).bind (·.body)).getD .skip

theorem cell_putObj {w : World} {D : Nat} {o o' : Obj} (hD : w.heap[D]? = some o) (ho : o.isCells = false) {b i : Nat} {v : Value} (hc : w.cell? ⟨b, i, none⟩ = some v) : (w.putObj D o').cell? ⟨b, i, none⟩ = some v := by
  by_cases h : b = D
  · subst h
    unfold World.cell? at hc
    simp only [hD] at hc
    cases o <;> simp_all [Obj.isCells]
  · unfold World.cell? at hc ⊢
    have : (w.putObj D o').heap[b]? = w.heap[b]? := by simp [World.putObj, Array.getElem?_setIfInBounds, Ne.symm h]
    simp only [this]
    exact hc
theorem keep_putObj {M : List Nat} {h : Hw} {w : World} {D : Nat} {o o' : Obj} (hD : w.heap[D]? = some o) (ho : o.isCells = false) (hM : D ∈ M) : Keep M h w h (w.putObj D o') where
  os := rfl
  tape := rfl
  output := rfl
  size := by simp [World.putObj]
  cells := fun b i v _ hc => cell_putObj hD ho hc
  mono := fun _ _ => Nat.le_refl _
  far := fun b _ hn => ⟨by
    have : b ≠ D := fun e => hn (e ▸ hM)
    simp [World.putObj, Array.getElem?_setIfInBounds, Ne.symm this], rfl⟩
theorem Holds.shut {s : St} {h : Hw} {w : World} {val : Val} {a : Act} {D : Nat} {o' : Obj} (H : Holds s h w val a) (hD : w.heap[D]? = some (.deferred (some []))) : Holds s h (w.putObj D o') val { a with defers := [] } := by
  have hk : Keep [D] h w h (w.putObj D o') := keep_putObj hD rfl (by simp)
  refine ⟨RAs.stays hk.stays _ _ _ H.e, ⟨fun p hp => RB.stays hk.stays (fun g hg => ?_) (H.inv.rep p hp), H.inv.nms, H.inv.bks⟩, H.far, DefsOk.nil (Nat.le_trans H.defs.1 hk.size)⟩
  have hgm := Inv.blk_mem hp hg
  refine hk.far g (H.inv.blk_lt g hgm) fun hin => ?_
  simp only [List.mem_singleton] at hin
  subst hin
  have := H.inv.blk_def g hgm _ hD
  cases this
theorem leavesM {P : Program} {fn : Func} {R : Ending → World → Prop} {s : St} {h : Hw} {val : Val} {tmps : Array Value} : ∀ (Ds : List Nat) (w : World) (a : Act), a.tmps = tmps → Holds s h w val a → Ds.Nodup → (∀ D ∈ Ds, w.heap[D]? = some (.deferred (some []))) →
    (∀ w' a', a'.tmps = tmps → Holds s h w' val a' → Keep Ds h w h w' → ∃ v, (results fn tmps).run P w' = .ok v w' ∧ R (.returned v) w') → LeavesInM (fc none) 0 P fn tmps R (Ds.map fun D => { target := .collected D, args := #[] }) .returning w
  | [], w, a, ha, H, _, _, hR => hR w a ha H (Keep.refl _ _ _)
  | D :: Ds, w, a, ha, H, hn, hd, hR => by
    have hD := hd D (.head _)
    obtain ⟨hn1, hn2⟩ := List.nodup_cons.1 hn
    refine ⟨by simp, .inl ⟨D, _, rfl, run_takeDeferred hD, ?_⟩⟩
    refine leavesM Ds (w.putObj D (.deferred none)) { a with defers := [] } ha (H.shut hD) hn2 (fun D' hD' => ?_) fun w' a' ha' H' hk => ?_
    · have h1 := hd D' (.tail _ hD')
      have hne : D ≠ D' := fun e => hn1 (e ▸ hD')
      simpa [World.putObj, Array.getElem?_setIfInBounds, hne] using h1
    · refine hR w' a' ha' H' ((keep_putObj hD rfl (by simp)).trans (hk.mono' fun x hx => .inl (List.mem_cons_of_mem _ hx)) fun b hb => .inl hb)

theorem afunF_ok {P : Program} {f : FuncId} {ws : List (Nat × W)} {lw : List Lw} {wk : List Ws} {args : List A} {F0 F' : Bx} {Φ : Ob} {r : A} (hm : P.follows .mixedOrders = true)
    (he : afunF P f ws lw wk args F0 = some (Φ, r, F')) (hΦ : Φ.ok P (LpOf P none (fbody P f))) (hb : r.bare = true) (hF0 : Far F0) (hcl : ∀ p ∈ F', ∀ m, p.2.has m = true → m ∈ names F') :
    ∀ h w val vs, Inv h w val F0 → RAs h w val args vs → Calls P f ⟨vs⟩ w fun e w' => ∃ h' val' u, e = .returned u ∧ Inv h' w' val' F' ∧ RA h' w' val' r u ∧ Keep (blks val F0) h w h' w' ∧ (∀ n, n ∉ names F' → val' n = val n) ∧ ∀ b ∈ blks val' F', b ∈ blks val F0 ∨ w.heap.size ≤ b := by
  intro h w val vs hInv hargs
  unfold afunF at he
  split at he
  · rename_i fn hfn
    split at he
    · rename_i c hc
      split at he
      case isFalse => cases he
      rename_i hbare
      have hroot : fbody P f = c := by simp [fbody, hfn, hc]
      rw [hroot] at hΦ
      have hn : vs.length = args.length := hargs.length
      let val0 : Val := setV val bn (.int .i64 (w.heap.size : Int))
      have hv0 : ∀ m, m ≠ bn → val0 m = val m := fun m hm => by simp [val0, setV, hm]
      have hI0 : Inv h w val0 F0 := ⟨fun p hp => RB.upd hv0 (hF0 bn (.inr (rfl)) p hp).1 (hF0 bn (.inr (rfl)) p hp).2 (hInv.rep p hp), hInv.nms, by
        rw [blks_congr fun m hm => hv0 m fun e => by
          obtain ⟨p, hp, e2⟩ := List.mem_map.1 hm
          exact (hF0 bn (.inr (rfl)) p hp).1 (e2.trans e)]
        exact hInv.bks⟩
      have hblk0 : blks val0 F0 = blks val F0 := blks_congr fun m hm => hv0 m fun e => by
          obtain ⟨p, hp, e2⟩ := List.mem_map.1 hm
          exact (hF0 bn (.inr (rfl)) p hp).1 (e2.trans e)
      have H : Holds ⟨args ++ List.replicate (fn.ntmps - args.length) (.tup []), [], F0⟩ h w val0 { tmps := ⟨vs⟩ ++ Array.replicate (fn.ntmps - vs.length) undef, defers := [] } := by
        refine ⟨?_, hI0, hF0, DefsOk.nil (by simp [bound, val0, setV])⟩
        simp only [Array.toList_append, Array.toList_replicate]
        rw [hn]
        exact (RAs.bare _ _ hbare hargs).append (RAs_undef _)
      have key : ∀ (e : Ex) (s' : St), (e = .ret ∨ e = .normal) → acode P ws lw [] c ⟨args ++ List.replicate (fn.ntmps - args.length) (.tup []), [], F0⟩ = some (Φ, e, s') → ((wks wk s').bind fun s2 => (resOf P s2 fn.results.toList).map fun r => (Φ, r, s2.F)) = some (Φ, r, F') →
          Calls P f ⟨vs⟩ w fun e w' => ∃ h' val' u, e = .returned u ∧ Inv h' w' val' F' ∧ RA h' w' val' r u ∧ Keep (blks val F0) h w h' w' ∧ (∀ n, n ∉ names F' → val' n = val n) ∧ ∀ b ∈ blks val' F', b ∈ blks val F0 ∨ w.heap.size ≤ b := by
        intro e s' hor hrun hr
        refine callsIn_wide.1 (callsIn_of_wp_marks (F := .wide) (n := 0) hfn hc trivial ?_)
        refine acode_ok (rd := none) hm c [] _ s' Φ e rfl hrun hΦ h w val0 _ H _ ?_
        rintro e1 s1 h1 w1 v1 a1 ⟨rfl, rfl⟩ H1 n1
        simp only [Option.bind_eq_some_iff, Option.map_eq_some_iff, Prod.mk.injEq, true_and] at hr
        obtain ⟨s2, hwk, r2, hr, rfl, rfl⟩ := hr
        obtain ⟨h2, v2, H2, n2⟩ := wks_ok hwk _ _ _ _ H1
        have n3 := n1.trans n2
        obtain ⟨_, Ds, eD, hDn, hD⟩ := H2.defs
        have hbd : bound v2 = w.heap.size := by
          unfold bound
          rw [n3.vals bn (by decide)]
          simp [val0, setV]
        have hL : LeavesInM (fc none) 0 P fn a1.tmps (fun e w' => ∃ h' val' u, e = .returned u ∧ Inv h' w' val' s2.F ∧ RA h' w' val' r2 u ∧ Keep (blks val F0) h w h' w' ∧ (∀ n, n ∉ names s2.F → val' n = val n) ∧ ∀ b ∈ blks val' s2.F, b ∈ blks val F0 ∨ w.heap.size ≤ b) a1.defers .returning w1 := by
          rw [eD]
          refine leavesM Ds w1 a1 rfl H2 hDn (fun D hD1 => (hD D hD1).1) fun w' a' ha' H' hk => ?_
          obtain ⟨u, g1, g2⟩ := resOf_ok H' hr
          rw [ha'] at g1
          let v3 : Val := fun n => if n ∈ names s2.F then v2 n else val n
          have hfar : ∀ p ∈ s2.F, (∀ m, m = p.1 ∨ p.2.has m = true → v3 m = v2 m) := fun p hp m hm => if_pos (by
            rcases hm with rfl | hm
            · exact List.mem_map.2 ⟨p, hp, rfl⟩
            · exact hcl p hp m hm)
          have hbF : blks v3 s2.F = blks v2 s2.F := blks_congr fun m hm => if_pos hm
          have hIR := Inv.right H'.inv
          refine ⟨u, g1, h2, v3, u, rfl, ⟨fun p hp => RB.congr (hfar p hp p.1 (.inl rfl)) (fun m hm => hfar p hp m (.inr hm)) (hIR.rep p hp), hIR.nms, by rw [hbF]; exact hIR.bks⟩, RA.bare _ _ hb g2, ?_, fun n hn => if_neg hn, fun b hb => ?_⟩
          · have hK := n3.keep.trans hk fun x hx => .inr (by rw [← hbd]; exact (hD x hx).2)
            have hall : blks val0 (⟨args ++ List.replicate (fn.ntmps - args.length) (.tup []), [], F0⟩ : St).all = blks val F0 := hblk0
            rw [hall] at hK
            exact hK
          · rw [hbF] at hb
            have := n3.new b (by show b ∈ blks v2 (s2.B ++ s2.F); rw [blks_append]; exact List.mem_append_right _ hb)
            rw [← hblk0]; exact this
        rcases hor with rfl | rfl
        · exact hL
        · exact hL
      split at he
      · rename_i Φ' s' hrun
        have : Φ' = Φ := by
          simp only [Option.bind_eq_some_iff, Option.map_eq_some_iff, Prod.mk.injEq] at he
          obtain ⟨_, _, _, _, h, _⟩ := he
          exact h
        subst this
        exact key .ret s' (.inl rfl) hrun he
      · rename_i Φ' s' hrun
        have : Φ' = Φ := by
          simp only [Option.bind_eq_some_iff, Option.map_eq_some_iff, Prod.mk.injEq] at he
          obtain ⟨_, _, _, _, h, _⟩ := he
          exact h
        subst this
        exact key .normal s' (.inr rfl) hrun he
      · cases he
    · cases he
  · cases he
def afun (P : Program) (f : FuncId) (ws : List (Nat × W)) (lw : List Lw) (wk : List Ws) (args : List A) : Option (Ob × A) := (afunF P f ws lw wk args []).bind fun p => match p.2.2 with
  | [] => some (p.1, p.2.1)
  | _ => none
theorem afun_ok {P : Program} {f : FuncId} {ws : List (Nat × W)} {lw : List Lw} {wk : List Ws} {args : List A} {Φ : Ob} {r : A} (hm : P.follows .mixedOrders = true)
    (he : afun P f ws lw wk args = some (Φ, r)) (hΦ : Φ.ok P (LpOf P none (fbody P f))) (hb : r.bare = true) : ACall P f args [] r [] := by
  unfold afun at he
  simp only [Option.bind_eq_some_iff] at he
  obtain ⟨⟨Φ', r', F'⟩, h1, he⟩ := he
  simp only at he
  split at he
  · simp only [Option.some.injEq, Prod.mk.injEq] at he
    obtain ⟨rfl, rfl⟩ := he
    intro h w val vs hI hargs
    refine (afunF_ok hm h1 hΦ hb (fun _ _ _ h => by cases h) (fun _ h => by cases h) h w val vs hI hargs).mono fun e w' hh => ?_
    obtain ⟨h', val', u, rfl, hI', hr, hk, hv, hn⟩ := hh
    exact ⟨h', val', u, rfl, hI', hr, hk, fun n _ => hv n (by simp [names]), hn⟩
  · cases he
theorem afunF_call {P : Program} {f : FuncId} {ws : List (Nat × W)} {lw : List Lw} {wk : List Ws} {args : List A} {F0 F' : Bx} {Φ : Ob} {r : A} (hm : P.follows .mixedOrders = true)
    (he : afunF P f ws lw wk args F0 = some (Φ, r, F')) (hΦ : Φ.ok P (LpOf P none (fbody P f))) (hb : r.bare = true) (hF0 : Far F0) (hcl : ∀ p ∈ F', ∀ m, p.2.has m = true → m ∈ names F') : ACallW P f args F0 r F' :=
  fun h w val vs hI hargs => afunF_ok hm he hΦ hb hF0 hcl h w val vs hI hargs

end Go.Ac
