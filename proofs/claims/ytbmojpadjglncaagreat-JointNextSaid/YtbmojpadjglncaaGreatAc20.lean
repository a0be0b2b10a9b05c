/- Own work: how calls of the model run over plain data. -/
import Derived.Test.YtbmojpadjglncaaGreatAc19b
import Derived.KernelRfl
set_option linter.unusedVariables false
set_option linter.unusedSimpArgs false
namespace Go.Ac

def Cn.okK : Cn → Prop → Prop
  | .t, k => k
  | .both a b, k => a.okK (b.okK k)
  | o, k => o.ok ∧ k
def Ob.okK (P : Program) (L : Lp) : Ob → Prop → Prop
  | .c x, k => x.okK k
  | .both a b, k => a.okK P L (b.okK P L k)
  | o, k => o.ok P L ∧ k
theorem Cn.okK_iff : ∀ (x : Cn) (k : Prop), x.okK k ↔ x.ok ∧ k := by
  intro x
  induction x with
  | both a b iha ihb => intro k; simp only [Cn.okK, iha, ihb, Cn.ok, and_assoc]
  | t => intro k; simp [Cn.okK, Cn.ok]
  | _ => intro k; exact Iff.rfl
theorem Ob.okK_iff {P : Program} {L : Lp} : ∀ (x : Ob) (k : Prop), x.okK P L k ↔ x.ok P L ∧ k := by
  intro x
  induction x with
  | both a b iha ihb => intro k; simp only [Ob.okK, iha, ihb, Ob.ok, and_assoc]
  | c x => intro k; exact Cn.okK_iff x k
  | _ => intro k; exact Iff.rfl

def Arr (P : Program) (rd : Option Nat) (root : Code) (q : List Nat) (s : St) (e : Ex) (s' : St) : Prop :=
  AC P rd (codeAt root q) s fun e1 s1 => e1 = e ∧ Wk s1 s'
theorem Arr.lp {P : Program} {rd : Option Nat} {root : Code} {q : List Nat} {s s' : St} {e : Ex} (h : Arr P rd root q s e s') : LpOf P rd root q s e s' :=
  AC.post h fun _ _ hh => ⟨s', hh.2, hh.1, rfl⟩
def RunB (P : Program) (rd : Option Nat) (root : Code) (ws : List (Nat × W)) (lw : List Lw) (q : List Nat) (l : List Ws) (s : St) (e : Ex) (s' : St) : Prop :=
  match acode P ws lw q (codeAt root q) s with
  | some (Φ, e1, s1) => match wks l s1 with
    | some s2 => Φ.okK P (LpOf P rd root) True ∧ (e1 = e ∧ s2 = s')
    | none => False
  | none => False
theorem RunB.arr {P : Program} {rd : Option Nat} {root : Code} {ws : List (Nat × W)} {lw : List Lw} {q : List Nat} {l : List Ws} {s s' : St} {e : Ex} (hm : P.follows .mixedOrders = true)
    (h : RunB P rd root ws lw q l s e s') : Arr P rd root q s e s' := by
  unfold RunB at h
  split at h
  · rename_i Φ e1 s1 h1
    split at h
    · rename_i s2 h2
      obtain ⟨hΦ, rfl, rfl⟩ := h
      have hΦ := ((Ob.okK_iff _ _).1 hΦ).1
      exact (acode_ok hm _ _ _ _ _ _ rfl h1 hΦ).mono fun e1 s1' hh => ⟨hh.1, by rw [hh.2]; exact wks_ok h2⟩
    · exact h.elim
  · exact h.elim
def RunF (P : Program) (f : FuncId) (ws : List (Nat × W)) (lw : List Lw) (wk : List Ws) (args : List A) (r : A) : Prop :=
  match afun P f ws lw wk args with
  | some (Φ, r') => Φ.okK P (LpOf P none (fbody P f)) True ∧ (r' = r ∧ r.bare = true)
  | none => False
theorem RunF.call {P : Program} {f : FuncId} {ws : List (Nat × W)} {lw : List Lw} {wk : List Ws} {args : List A} {r : A} (hm : P.follows .mixedOrders = true) (h : RunF P f ws lw wk args r) : ACall P f args [] r [] := by
  unfold RunF at h
  split at h
  · rename_i Φ r' h1
    obtain ⟨hΦ, rfl, hb⟩ := h
    exact afun_ok hm h1 ((Ob.okK_iff _ _).1 hΦ).1 hb
  · exact h.elim
def RunX (P : Program) (f : FuncId) (ws : List (Nat × W)) (lw : List Lw) (wk : List Ws) (args : List A) (X : Bx) (ks : List Nat) (us : List Value) (r : A) (X' : Bx) : Prop :=
  match afunX P f ws lw wk args X ks us with
  | some (Φ, r', X'') => Φ.okK P (LpOf P none (fbody P f)) True ∧ (r' = r ∧ X'' = X' ++ [(vx, .vals (kept args ks) us)] ∧ xcond args X ks r X' = true)
  | none => False
theorem RunX.call {P : Program} {f : FuncId} {ws : List Value → List (Nat × W)} {lw : List Value → List Lw} {wk : List Value → List Ws} {args : List A} {X : Bx} {ks : List Nat} {r : A} {X' : Bx} (hm : P.follows .mixedOrders = true)
    (h : ∀ us, RunX P f (ws us) (lw us) (wk us) args X ks us r X') : ACall P f args X r X' := by
  have h2 : ∀ us, ∃ Φ : Ob, afunX P f (ws us) (lw us) (wk us) args X ks us = some (Φ, r, X' ++ [(vx, .vals (kept args ks) us)]) ∧ Φ.ok P (LpOf P none (fbody P f)) ∧ xcond args X ks r X' = true := by
    intro us
    have := h us
    unfold RunX at this
    split at this
    · rename_i Φ r' X'' h1
      obtain ⟨hΦ, rfl, rfl, hx⟩ := this
      exact ⟨Φ, h1, ((Ob.okK_iff _ _).1 hΦ).1, hx⟩
    · exact this.elim
  exact afunX_ok (ws := ws) (lw := lw) (wk := wk) (Φ := fun us => Classical.choose (h2 us)) hm (fun us => (Classical.choose_spec (h2 us)).1) (fun us => (Classical.choose_spec (h2 us)).2.1) (h2 []).choose_spec.2.2
def RunI (P : Program) (f : FuncId) (ws : List (Nat × W)) (lw : List Lw) (wk : List Ws) (args : List A) (F0 : Bx) (r : A) (F' : Bx) : Prop :=
  match afunF P f ws lw wk args F0 with
  | some (Φ, r', F'') => Φ.okK P (LpOf P none (fbody P f)) True ∧ (r' = r ∧ F'' = F' ∧ r.bare = true)
  | none => False
theorem RunI.call {P : Program} {f : FuncId} {ws : List (Nat × W)} {lw : List Lw} {wk : List Ws} {args : List A} {F0 F' : Bx} {r : A} (hm : P.follows .mixedOrders = true) (hF0 : Far F0) (hcl : ∀ p ∈ F', ∀ m, p.2.has m = true → m ∈ names F')
    (h : RunI P f ws lw wk args F0 r F') : ACallW P f args F0 r F' := by
  unfold RunI at h
  split at h
  · rename_i Φ r' F'' h1
    obtain ⟨hΦ, rfl, rfl, hb⟩ := h
    exact afunF_call hm h1 ((Ob.okK_iff _ _).1 hΦ).1 hb hF0 hcl
  · exact h.elim
attribute [irreducible] RunB RunF RunX RunI
theorem runB_arr {P : Program} {rd : Option Nat} {root : Code} (hm : P.follows .mixedOrders = true) (ws : List (Nat × W)) (lw : List Lw) {q : List Nat} (l : List Ws) {s s' : St} {e : Ex} {p : Prop} (h : p)
    (he : (p ∧ (e = e ∧ s' = s')) = RunB P rd root ws lw q l s e s') : Arr P rd root q s e s' := RunB.arr (ws := ws) (lw := lw) (l := l) hm (he.mp ⟨h, rfl, rfl⟩)
theorem runF_call {P : Program} {f : FuncId} (hm : P.follows .mixedOrders = true) (ws : List (Nat × W)) (lw : List Lw) (wk : List Ws) {args : List A} {r : A} {p : Prop} (h : p)
    (he : (p ∧ (r = r ∧ true = true)) = RunF P f ws lw wk args r) : ACall P f args [] r [] := RunF.call (ws := ws) (lw := lw) (wk := wk) hm (he.mp ⟨h, rfl, rfl⟩)

theorem runX_call {P : Program} {f : FuncId} (hm : P.follows .mixedOrders = true) (ws : List Value → List (Nat × W)) (lw : List Value → List Lw) (wk : List Ws) (ks : List Nat) {args : List A} {X : Bx} {r : A} {X' : Bx} {p : List Value → Prop} (h : ∀ us, p us)
    (he : (fun us => (p us ∧ (r = r ∧ X' ++ [(vx, .vals (kept args ks) us)] = X' ++ [(vx, .vals (kept args ks) us)] ∧ true = true))) = fun us => RunX P f (ws us) (lw us) wk args X ks us r X') : ACall P f args X r X' :=
  RunX.call (ws := ws) (lw := lw) (wk := fun _ => wk) (ks := ks) hm fun us => (congrFun he us).mp ⟨h us, rfl, rfl, rfl⟩
theorem runI_call {P : Program} {f : FuncId} (hm : P.follows .mixedOrders = true) (ws : List (Nat × W)) (lw : List Lw) (wk : List Ws) {args : List A} {F0 F' : Bx} {r : A} (hF0 : Far F0) (hcl : ∀ p ∈ F', ∀ m, p.2.has m = true → m ∈ names F') {p : Prop} (h : p)
    (he : (p ∧ (r = r ∧ F' = F' ∧ true = true)) = RunI P f ws lw wk args F0 r F') : ACallW P f args F0 r F' := RunI.call (ws := ws) (lw := lw) (wk := wk) hm hF0 hcl (he.mp ⟨h, rfl, rfl, rfl⟩)

section
variable {σ τ : Type}
def itE (step : σ → Option (σ ⊕ τ)) : Nat → σ → Option τ
  | 0, _ => none
  | n + 1, s => match step s with
    | none => none
    | some (.inl s') => itE step n s'
    | some (.inr t) => some t
theorem itE_mono {step : σ → Option (σ ⊕ τ)} : ∀ {n m : Nat} {s : σ} {t : τ}, n ≤ m → itE step n s = some t → itE step m s = some t
  | 0, _, s, t, _, h => by simp [itE] at h
  | n + 1, 0, s, t, hle, h => by omega
  | n + 1, m + 1, s, t, hle, h => by
    simp only [itE] at h ⊢
    split at h
    · cases h
    · exact itE_mono (Nat.le_of_succ_le_succ hle) h
    · exact h
open Classical in
noncomputable def loopE (step : σ → Option (σ ⊕ τ)) (s : σ) : Option τ :=
  if h : ∃ t, ∃ n, itE step n s = some t then some (Classical.choose h) else none
theorem loopE_iff {step : σ → Option (σ ⊕ τ)} {s : σ} {t : τ} : loopE step s = some t ↔ ∃ n, itE step n s = some t := by
  unfold loopE
  constructor
  · intro h
    split at h
    · rename_i hh
      simp only [Option.some.injEq] at h
      rw [← h]
      exact Classical.choose_spec hh
    · cases h
  · rintro ⟨n, hn⟩
    have hh : ∃ t, ∃ n, itE step n s = some t := ⟨t, n, hn⟩
    rw [dif_pos hh]
    obtain ⟨m, hm⟩ := Classical.choose_spec hh
    have h1 := itE_mono (Nat.le_max_left n m) hn
    have h2 := itE_mono (Nat.le_max_right n m) hm
    rw [h1] at h2
    exact h2.symm
def nextE (o : Option (σ ⊕ τ)) (k : σ → Option τ) : Option τ := match o with
  | none => none
  | some (.inl s) => k s
  | some (.inr t) => some t
theorem loopE_eq (step : σ → Option (σ ⊕ τ)) (s : σ) : loopE step s = nextE (step s) (loopE step) := by
  apply Option.ext
  intro t
  rw [loopE_iff]
  unfold nextE
  cases hs : step s with
  | none =>
    constructor
    · rintro ⟨n, hn⟩
      cases n with
      | zero => simp [itE] at hn
      | succ n => simp [itE, hs] at hn
    · intro h; simp at h
  | some x =>
    cases x with
    | inl s' =>
      simp only
      rw [loopE_iff]
      constructor
      · rintro ⟨n, hn⟩
        cases n with
        | zero => simp [itE] at hn
        | succ n => exact ⟨n, by simpa [itE, hs] using hn⟩
      · rintro ⟨n, hn⟩
        exact ⟨n + 1, by simpa [itE, hs] using hn⟩
    | inr t' =>
      constructor
      · rintro ⟨n, hn⟩
        cases n with
        | zero => simp [itE] at hn
        | succ n => simpa [itE, hs] using hn
      · intro h
        exact ⟨1, by simpa [itE, hs] using h⟩
end

theorem loopE_lp {P : Program} {rd : Option Nat} {root : Code} {p : List Nat} (hl : isLoop (codeAt root p) = true) {σ τ : Type} {step : σ → Option (σ ⊕ τ)} {I : σ → St} {O : τ → Ex × St} (hO : ∀ t, (O t).1 ≠ .normal)
    (hn : ∀ s s', step s = some (.inl s') → Arr P rd root (0 :: p) (I s) .normal (I s')) (hx : ∀ s t, step s = some (.inr t) → Arr P rd root (0 :: p) (I s) (O t).1 (O t).2)
    {s : σ} {t : τ} (h : loopE step s = some t) : LpOf P rd root p (I s) (O t).1 (O t).2 := by
  obtain ⟨n, hn0⟩ := loopE_iff.1 h
  unfold LpOf
  have hc : codeAt root p = .loop (codeAt root (0 :: p)) := by
    cases h : codeAt root p with
    | loop b => simp only [codeAt, h, child]
    | _ => rw [h] at hl; cases hl
  rw [hc]
  have hloop := AC.loop (P := P) (rd := rd) (c := codeAt root (0 :: p)) (ι := { x : σ × Nat // itE step x.2 x.1 = some t }) (fun x => I x.1.1) (fun x => x.1.2) (fun _ e s => e = (O t).1 ∧ Wk s (O t).2) ?_ ⟨(s, n), hn0⟩
  · exact hloop.post fun e s1 hh => ⟨(O t).2, hh.2, hh.1, rfl⟩
  · rintro ⟨⟨s, n⟩, hi⟩
    cases n with
    | zero => simp [itE] at hi
    | succ n =>
      simp only [itE] at hi
      split at hi
      · cases hi
      · rename_i s' hs
        refine AC.mono (hn s s' hs) ?_
        rintro e s1 ⟨rfl, hw⟩
        exact ⟨⟨(s', n), hi⟩, Nat.lt_succ_self n, hw, fun e s hh => hh⟩
      · rename_i t' hs
        simp only [Option.some.injEq] at hi
        subst hi
        refine AC.mono (hx s t' hs) ?_
        rintro e s1 ⟨rfl, hw⟩
        cases he : (O t').1 with
        | normal => exact absurd he (hO t')
        | exit id => exact ⟨rfl, hw⟩
        | ret => exact ⟨rfl, hw⟩

def rR {σ τ : Type} (I : σ → St) (O : τ → Ex × St) : σ ⊕ τ → Ex × St
  | .inl s => (.normal, I s)
  | .inr t => O t
theorem loopE_lpR {P : Program} {rd : Option Nat} {root : Code} {p : List Nat} {σ τ : Type} {step : σ → Option (σ ⊕ τ)} (I : σ → St) (O : τ → Ex × St) (hl : isLoop (codeAt root p) = true) (hO : ∀ t, (O t).1 ≠ .normal)
    (hr : ∀ s o, step s = some o → Arr P rd root (0 :: p) (I s) (rR I O o).1 (rR I O o).2)
    {s : σ} {t : τ} (h : loopE step s = some t) : LpOf P rd root p (I s) (O t).1 (O t).2 :=
  loopE_lp hl hO (fun s s' h => hr s (.inl s') h) (fun s t h => hr s (.inr t) h) h

section
variable {α β : Type}
def letE (x : α) (k : α → Option β) : Option β := k x
def iteE (c : Bool) (a b : Option β) : Option β := match c with
  | true => a
  | false => b
def chkE (p : Prop) [Decidable p] (k : Option β) : Option β := if p then k else none
def idxE (xs : List α) (i : Int) (k : α → Option β) : Option β := if 0 ≤ i then (match xs[i.toNat]? with
  | some x => k x
  | none => none) else none
def bndE (x : Option α) (k : α → Option β) : Option β := match x with
  | some a => k a
  | none => none
theorem letE_some {x : α} {k : α → Option β} {r : β} (h : letE x k = some r) : k x = some r := h
theorem iS {c : Bool} {a b : Option β} {r : β} (h : iteE c a b = some r) : (c = true ∧ a = some r) ∨ (c = false ∧ b = some r) := by
  cases c
  · exact .inr ⟨rfl, h⟩
  · exact .inl ⟨rfl, h⟩
theorem iteT {a b : Option β} {r : β} (h : iteE true a b = some r) : a = some r := h
theorem iteF {a b : Option β} {r : β} (h : iteE false a b = some r) : b = some r := h
theorem cS {p : Prop} [Decidable p] {k : Option β} {r : β} (h : chkE p k = some r) : p ∧ k = some r := by
  unfold chkE at h
  split at h
  · exact ⟨‹_›, h⟩
  · cases h
theorem xS {xs : List α} {i : Int} {k : α → Option β} {r : β} (h : idxE xs i k = some r) : ∃ x, (0 ≤ i ∧ xs[i.toNat]? = some x) ∧ k x = some r := by
  unfold idxE at h
  split at h
  · split at h
    · exact ⟨_, ⟨‹_›, ‹_›⟩, h⟩
    · cases h
  · cases h
theorem bS {x : Option α} {k : α → Option β} {r : β} (h : bndE x k = some r) : ∃ a, x = some a ∧ k a = some r := by
  cases x with
  | none => cases h
  | some a => exact ⟨a, rfl, h⟩
end
end Go.Ac
