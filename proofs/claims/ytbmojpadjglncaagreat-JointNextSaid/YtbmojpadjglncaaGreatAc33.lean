/- Own work: how calls of the model run over plain data. -/
import Derived.Test.YtbmojpadjglncaaGreatAc20g
import Derived.Test.YtbmojpadjglncaaGreatAc32
set_option linter.unusedVariables false
set_option linter.unusedSimpArgs false
namespace Go.Ac
section
variable {α σ τ : Type}
def foldE (step : α → σ → Option σ) : σ → List α → Option σ
  | s, [] => some s
  | s, x :: l => bndE (step x s) fun s' => foldE step s' l
theorem foldE_append (step : α → σ → Option σ) : ∀ (l m : List α) (s : σ), foldE step s (l ++ m) = bndE (foldE step s l) fun s' => foldE step s' m
  | [], m, s => rfl
  | x :: l, m, s => by
    simp only [List.cons_append, foldE]
    cases step x s with
    | none => rfl
    | some s' => exact foldE_append step l m s'
open Classical in
noncomputable def exactE (c : σ → τ) (xs : List α) (step : α → σ → Option σ) (s : σ) : Option τ :=
  if h : ∃ r, ∀ p : List α, p.Perm xs → ∃ s', foldE step s p = some s' ∧ c s' = r then some (Classical.choose h) else none
theorem exactE_some {c : σ → τ} {xs : List α} {step : α → σ → Option σ} {s : σ} {r : τ} (h : exactE c xs step s = some r) : ∀ p : List α, p.Perm xs → ∃ s', foldE step s p = some s' ∧ c s' = r := by
  unfold exactE at h
  split at h
  · rename_i hh
    have := Classical.choose_spec hh
    simp only [Option.some.injEq] at h
    rw [h] at this
    exact this
  · cases h
theorem exactE_of {c : σ → τ} {xs : List α} {step : α → σ → Option σ} {s : σ} {r : τ} (h : ∀ p : List α, p.Perm xs → ∃ s', foldE step s p = some s' ∧ c s' = r) : exactE c xs step s = some r := by
  have hh : ∃ r, ∀ p : List α, p.Perm xs → ∃ s', foldE step s p = some s' ∧ c s' = r := ⟨r, h⟩
  unfold exactE
  rw [dif_pos hh]
  obtain ⟨s1, h1, h2⟩ := Classical.choose_spec hh xs (List.Perm.refl _)
  obtain ⟨s2, h3, h4⟩ := h xs (List.Perm.refl _)
  rw [h1, Option.some.injEq] at h3
  rw [← h2, ← h4, h3]
open Classical in
noncomputable def bagE (f : List α → Option τ) (xs : List α) : Option τ :=
  if h : ∃ r, ∀ p : List α, p.Perm xs → f p = some r then some (Classical.choose h) else none
theorem bagE_some {f : List α → Option τ} {xs : List α} {r : τ} (h : bagE f xs = some r) : ∀ p : List α, p.Perm xs → f p = some r := by
  unfold bagE at h
  split at h
  · rename_i hh
    have := Classical.choose_spec hh
    simp only [Option.some.injEq] at h
    rw [h] at this
    exact this
  · cases h
theorem bagE_of {f : List α → Option τ} {xs : List α} {r : τ} (h : ∀ p : List α, p.Perm xs → f p = some r) : bagE f xs = some r := by
  have hh : ∃ r, ∀ p : List α, p.Perm xs → f p = some r := ⟨r, h⟩
  unfold bagE
  rw [dif_pos hh, ← Classical.choose_spec hh xs (List.Perm.refl _), h xs (List.Perm.refl _)]
end
theorem perm_map_inv {α β : Type} (f : α → β) : ∀ {l : List β} {S : List α}, l.Perm (S.map f) → ∃ T : List α, T.Perm S ∧ l = T.map f := by
  intro l S h
  generalize hm : S.map f = m at h
  induction h generalizing S with
  | nil =>
    cases S with
    | nil => exact ⟨[], List.Perm.refl _, rfl⟩
    | cons a S => cases hm
  | @cons x l1 l2 h ih =>
    cases S with
    | nil => cases hm
    | cons a S =>
      rw [List.map_cons, List.cons.injEq] at hm
      obtain ⟨T, h1, h2⟩ := ih hm.2
      exact ⟨a :: T, h1.cons a, by rw [List.map_cons, hm.1, h2]⟩
  | swap x y l =>
    cases S with
    | nil => cases hm
    | cons a S =>
      cases S with
      | nil => cases hm
      | cons b S =>
        simp only [List.map_cons, List.cons.injEq] at hm
        exact ⟨b :: a :: S, List.Perm.swap a b S, by rw [List.map_cons, List.map_cons, hm.1, hm.2.1, hm.2.2]⟩
  | trans h1 h2 ih1 ih2 =>
    obtain ⟨T2, p2, e2⟩ := ih2 hm
    obtain ⟨T1, p1, e1⟩ := ih1 e2.symm
    exact ⟨T1, p1.trans p2, e1⟩
section
variable {K V : Type}
abbrev ms (fk : K → D) (fv : V → D) (S : List (K × V)) : List (D × D) := S.map fun x => (fk x.1, fv x.2)
theorem dl_inv {fk : K → D} {fv : V → D} {S : List (K × V)} {es : List (Nat × D × D)} (h : (es.map (·.2)).Perm (ms fk fv S)) : ∃ es' : List (Nat × K × V), es = dl fk fv es' ∧ (es'.map (·.2)).Perm S := by
  obtain ⟨T, hT, he⟩ := perm_map_inv _ h
  refine ⟨(es.map (·.1)).zip T, ?_, ?_⟩
  · have hl : es.length = T.length := by simpa using congrArg List.length he
    clear h hT
    induction es generalizing T with
    | nil => cases T with
      | nil => rfl
      | cons a T => cases hl
    | cons e es ih =>
      cases T with
      | nil => cases hl
      | cons a T =>
        simp only [List.map_cons, List.cons.injEq] at he
        simp only [List.map_cons, List.zip_cons_cons, dl, List.cons.injEq]
        exact ⟨by rw [← he.1], ih T he.2 (by simpa using hl)⟩
  · have hl : es.length = T.length := by simpa using congrArg List.length he
    have : ((es.map (·.1)).zip T).map (·.2) = T := List.map_snd_zip (by simp [hl])
    rw [this]; exact hT
theorem Arr.exact {P : Program} {rd : Option Nat} {root : Code} {q : List Nat} {s s' : St} {e : Ex} (n : Nat) {fk : K → D} {fv : V → D} {S : List (K × V)} (hl : lk s.B n = some (.mapS (ms fk fv S)))
    (h : ∀ (clk : Nat) (es : List (Nat × K × V)), (es.map (·.2)).Perm S → Arr P rd root q { s with B := updB s.B n (.map clk (dl fk fv es)) } e s') : Arr P rd root q s e s' := by
  refine AC.exact hl fun clk es hp _ _ => ?_
  obtain ⟨es', rfl, hp'⟩ := dl_inv hp
  exact h clk es' hp'
theorem Arr.setm {P : Program} {rd : Option Nat} {root : Code} {q : List Nat} {s s' : St} {e : Ex} (n : Nat) {fk : K → D} {fv : V → D} {S : List (K × V)} {clk : Nat} {es : List (Nat × K × V)} (hp : (es.map (·.2)).Perm S)
    (hl : lk (updB s'.B n (.map clk (dl fk fv es))) n = some (.map clk (dl fk fv es))) (hu : updB s'.B n (.mapS (ms fk fv S)) = s'.B)
    (h : Arr P rd root q s e { s' with B := updB s'.B n (.map clk (dl fk fv es)) }) : Arr P rd root q s e s' := by
  refine AC.mono h fun e1 s1 hh => ⟨hh.1, hh.2.trans ?_⟩
  have := Wk.setm (s := { s' with B := updB s'.B n (.map clk (dl fk fv es)) }) (S := ms fk fv S) hl (by simpa [dl, ms, Function.comp_def] using hp.map fun x : K × V => (fk x.1, fv x.2))
  simp only [updB_updB, hu] at this
  exact this
end
def lpId : Code → Nat
  | .loop (.seq (.region i _ _) _) => i
  | _ => 0
def lpOps : Code → Array Oper
  | .loop (.seq (.region _ ops _) _) => ops
  | _ => #[]
def RunN (P : Program) (rd : Option Nat) (root : Code) (ws : List (Nat × W)) (lw : List Lw) (q : List Nat) (l : List Ws) (s : St) (e : Ex) (s' : St) : Prop :=
  match arun P (lpOps (codeAt root q)) ws ((lpOps (codeAt root q)).toList.drop 1) s with
  | some (Φ0, s0) => match acode P ws lw (1 :: 0 :: q) (codeAt root (1 :: 0 :: q)) s0 with
    | some (Φ, e1, s1) => match wks l s1 with
      | some s2 => Φ0.okK P (LpOf P rd root) (Φ.okK P (LpOf P rd root) True) ∧ (e1 = e ∧ s2 = s')
      | none => False
    | none => False
  | none => False
theorem RunN.acn {P : Program} {rd : Option Nat} {root : Code} {ws : List (Nat × W)} {lw : List Lw} {q : List Nat} {l : List Ws} {s s' : St} {e : Ex} (hm : P.follows .mixedOrders = true)
    (h : RunN P rd root ws lw q l s e s') : ACN P rd (lpOps (codeAt root q)) (codeAt root (1 :: 0 :: q)) s fun e1 s1 => e1 = e ∧ Wk s1 s' := by
  unfold RunN at h
  split at h
  · rename_i Φ0 s0 h0
    split at h
    · rename_i Φ e1 s1 h1
      split at h
      · rename_i s2 h2
        obtain ⟨hΦ, rfl, rfl⟩ := h
        have hΦ0 := (Ob.okK_iff _ _).1 hΦ
        have hΦ1 := ((Ob.okK_iff _ _).1 hΦ0.2).1
        exact ACN.run h0 hΦ0.1 ((acode_ok hm _ _ _ _ _ _ rfl h1 hΦ1).mono fun e1 s1' hh => ⟨hh.1, by rw [hh.2]; exact wks_ok h2⟩)
      · exact h.elim
    · exact h.elim
  · exact h.elim
attribute [irreducible] RunN
def ACNa (P : Program) (rd : Option Nat) (root : Code) (q : List Nat) (s : St) (Ψ : Ex → St → Prop) : Prop := ACN P rd (lpOps (codeAt root q)) (codeAt root (1 :: 0 :: q)) s Ψ
theorem ACNa.wk {P : Program} {rd : Option Nat} {root : Code} {q : List Nat} {s s1 s2 : St} {e : Ex} (h : ACNa P rd root q s fun e1 s' => e1 = e ∧ Wk s' s1) (hw : Wk s1 s2) : ACNa P rd root q s fun e1 s' => e1 = e ∧ Wk s' s2 :=
  ACN.post h fun _ _ hh => ⟨hh.1, hh.2.trans hw⟩
def lpOk (x t : Nat) : Code → Bool
  | .loop (.seq (.region _ ops false) _) => match ops[0]? with
    | some o => match o.op, o.guard, o.dst with
      | .next (.tmp y) false, none, some d => Nat.beq y x && Nat.beq d t
      | _, _, _ => false
    | none => false
  | _ => false
theorem lpOk_spec {root : Code} {p : List Nat} {x t : Nat} (h : lpOk x t (codeAt root p) = true) : ∃ (i : Nat) (o : Oper), codeAt root p = .loop (.seq (.region i (lpOps (codeAt root p)) false) (codeAt root (1 :: 0 :: p))) ∧
    (lpOps (codeAt root p))[0]? = some o ∧ o.op = .next (.tmp x) false ∧ o.guard = none ∧ o.dst = some t := by
  have hcd : codeAt root (1 :: 0 :: p) = codeAt (codeAt root p) [1, 0] := rfl
  rw [hcd]
  generalize codeAt root p = c at h ⊢
  unfold lpOk at h
  split at h
  · rename_i i ops rest
    split at h
    · rename_i o ho
      split at h
      · rename_i y d h1 h2 h3
        simp only [Bool.and_eq_true] at h
        have e1 := Nat.eq_of_beq_eq_true h.1
        have e2 := Nat.eq_of_beq_eq_true h.2
        subst e1; subst e2
        exact ⟨i, o, rfl, ho, h1, h2, h3⟩
      · cases h
    · cases h
  · cases h
theorem runN_acn {P : Program} {rd : Option Nat} {root : Code} (hm : P.follows .mixedOrders = true) (ws : List (Nat × W)) (lw : List Lw) {q : List Nat} (l : List Ws) {s s' : St} {e : Ex} {p : Prop} (h : p)
    (he : (p ∧ (e = e ∧ s' = s')) = RunN P rd root ws lw q l s e s') : ACNa P rd root q s fun e1 s1 => e1 = e ∧ Wk s1 s' := RunN.acn (ws := ws) (lw := lw) (l := l) hm (he.mp ⟨h, rfl, rfl⟩)
theorem menr_ok {K V : Type} {fk : K → D} {fv : V → D} {clk : Nat} {es : List (Nat × K × V)} {sn : List Nat} {st : Nat} {k : K} {v : V} (h : (st, k, v) ∈ es) : MEnr clk clk (dl fk fv es) (sn ++ [st]) (fk k) (fv v) :=
  ⟨rfl, sn, st, rfl, List.mem_map.2 ⟨_, h, rfl⟩⟩
theorem mapLoop {P : Program} {rd : Option Nat} {root : Code} {p : List Nat} {K V σ τ : Type} {fk : K → D} {fv : V → D} (x t d n clk : Nat) (es : List (Nat × K × V)) {S : List (K × V)}
    {c : σ → τ} {step : K × V → σ → Option σ} {s0 : σ} {r : τ} (J : List Nat → σ → St) (O : τ → Ex × St) (hk : lpOk x t (codeAt root p) = true)
    (hO : (O r).1 ≠ .normal)
    (hit : ∀ sn a, (J sn a).ev (.tmp x) = .box d 0) (h1 : ∀ sn a, lk (J sn a).B d = some (.mit n clk sn)) (h2 : ∀ sn a, lk (J sn a).B n = some (.map clk (dl fk fv es)))
    (hp : (es.map (·.2)).Perm S)
    (hA : ∀ sn a k v st a', (st, k, v) ∈ es → step (k, v) a = some a' → ACNa P rd root p ({ J sn a with B := updB (J sn a).B d (.mit n clk (sn ++ [st])) }.put (some t) (.tup [bo true, .d (fk k), .d (fv v)])) fun e s1 => e = .normal ∧ Wk s1 (J (sn ++ [st]) a'))
    (hB : ∀ sn a, c a = r → ACNa P rd root p ((J sn a).put (some t) (.tup [bo false])) fun e s1 => e = (O r).1 ∧ Wk s1 (O r).2)
    (h : exactE c S step s0 = some r) : LpOf P rd root p (J [] s0) (O r).1 (O r).2 := by
  have hx := exactE_some h
  obtain ⟨i0, o, hc, ho, hop, hg, hd⟩ := lpOk_spec hk
  suffices hs : AC P rd (codeAt root p) (J [] s0) fun e1 s1 => e1 = (O r).1 ∧ Wk s1 (O r).2 from
    AC.post hs fun _ _ hh => ⟨(O r).2, hh.2, hh.1, rfl⟩
  rw [hc]
  let ι := { x : List (Nat × K × V) × σ // (∃ rest, (x.1 ++ rest).Perm es) ∧ foldE step s0 (x.1.map (·.2)) = some x.2 }
  refine AC.loop (ι := ι) (fun i => J (i.1.1.map (·.1)) i.1.2) (fun i => es.length - i.1.1.length) (fun _ e1 s1 => e1 = (O r).1 ∧ Wk s1 (O r).2) ?_ ⟨([], s0), ⟨es, List.Perm.refl _⟩, rfl⟩
  rintro ⟨⟨done, a⟩, ⟨rest, hr⟩, hf⟩
  simp only at hf
  have hb : dl fk fv es = es.map fun x => (x.1, fk x.2.1, fv x.2.2) := rfl
  have hb1 : (dl fk fv es).map (·.1) = es.map (·.1) := by simp [dl, Function.comp_def]
  refine AC.next ho hop hg hd (hit _ _) (h1 _ _) (h2 _ _) ?_ ?_
  · intro hn e he hns
    obtain ⟨⟨st, k, v⟩, hm, rfl⟩ := List.mem_map.1 he
    simp only at hns ⊢
    have hm' : (st, k, v) ∈ rest := by
      rcases List.mem_append.1 (hr.mem_iff.2 hm) with h | h
      · exact absurd (List.mem_map.2 ⟨_, h, rfl⟩) hns
      · exact h
    obtain ⟨r1, r2, rfl⟩ := List.append_of_mem hm'
    have hr2 : ((done ++ [(st, k, v)]) ++ (r1 ++ r2)).Perm es := by
      refine List.Perm.trans ?_ hr
      rw [List.append_assoc]
      exact List.Perm.append_left done (show ((st, k, v) :: (r1 ++ r2)).Perm (r1 ++ (st, k, v) :: r2) from List.perm_middle.symm)
    obtain ⟨a2, ha2, _⟩ := hx _ ((hr2.map (·.2)).trans hp)
    rw [List.map_append, foldE_append, List.map_append, foldE_append, hf] at ha2
    simp only [bndE, List.map_cons, List.map_nil, foldE] at ha2
    cases hs : step (k, v) a with
    | none => rw [hs] at ha2; cases ha2
    | some a' =>
      refine ACN.post (hA _ a k v st a' hm hs) ?_
      rintro e1 s1 ⟨rfl, hw⟩
      refine ⟨⟨(done ++ [(st, k, v)], a'), ⟨_, hr2⟩, ?_⟩, ?_, ?_, fun _ _ x => x⟩
      · simp only [List.map_append, foldE_append, hf, bndE, List.map_cons, List.map_nil, foldE, hs]
      · have := hr2.length_eq
        simp only [List.length_append, List.length_cons, List.length_nil] at this ⊢
        omega
      · simpa only [List.map_append, List.map_cons, List.map_nil] using hw
  · intro hn hall
    have hrest : rest = [] := by
      cases rest with
      | nil => rfl
      | cons x rest =>
        exfalso
        have hxm : x ∈ es := hr.mem_iff.1 (by simp)
        have hseen : x.1 ∈ done.map (·.1) := hall (x.1, fk x.2.1, fv x.2.2) (List.mem_map.2 ⟨x, hxm, rfl⟩)
        rw [hb1] at hn
        have hn2 := (hr.map (·.1)).nodup_iff.2 hn
        rw [List.map_append, List.nodup_append] at hn2
        exact hn2.2.2 _ hseen _ (by simp) rfl
    subst hrest
    rw [List.append_nil] at hr
    obtain ⟨a2, ha2, hc2⟩ := hx _ ((hr.map (·.2)).trans hp)
    rw [hf, Option.some.injEq] at ha2
    subst ha2
    refine ACN.post (hB _ a hc2) ?_
    rintro e1 s1 ⟨h1, hw⟩
    subst h1
    cases he : (O r).1 with
    | normal => exact absurd he hO
    | exit id => exact ⟨rfl, hw⟩
    | ret => exact ⟨rfl, hw⟩
end Go.Ac
