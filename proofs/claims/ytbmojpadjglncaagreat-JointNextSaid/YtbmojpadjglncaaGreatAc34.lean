/- Own work: how calls of the model run over plain data. -/
import Derived.Test.YtbmojpadjglncaaGreatAc33
set_option linter.unusedVariables false
set_option linter.unusedSimpArgs false
namespace Go.Ac
open Go.MapKept
section
variable {K V : Type} {P : Program} {kt : TypeId} {fk : K → D} {fv : V → D}
theorem ms_ok (T : KeyT P kt fk) (S : List (K × V)) : ∀ x ∈ ms fk fv S, KOk P kt x.1 := fun x hx => by
  obtain ⟨y, _, rfl⟩ := List.mem_map.1 hx
  exact T.ok _
variable [DecidableEq K]
def putS (k : K) (v : V) : List (K × V) → List (K × V)
  | [] => [(k, v)]
  | x :: xs => if x.1 = k then (k, v) :: xs else x :: putS k v xs
def delS (k : K) : List (K × V) → List (K × V)
  | [] => []
  | x :: xs => if x.1 = k then xs else x :: delS k xs
theorem putS_split (T : KeyT P kt fk) (fv : V → D) (k : K) (v : V) : ∀ S : List (K × V), (∃ (pre : List (D × D)) (v0 : D) (post : List (D × D)), ms fk fv S = pre ++ (fk k, v0) :: post ∧ ms fk fv (putS k v S) = pre ++ (fk k, fv v) :: post) ∨ (ms fk fv (putS k v S) = ms fk fv S ++ [(fk k, fv v)] ∧ ∀ x ∈ ms fk fv S, x.1 ≠ fk k)
  | [] => .inr ⟨rfl, by simp [ms]⟩
  | x :: xs => by
    rw [putS]
    split
    · rename_i h
      exact .inl ⟨[], fv x.2, ms fk fv xs, by rw [← h]; rfl, rfl⟩
    · rename_i h
      have hne : fk x.1 ≠ fk k := fun e => h (T.inj _ _ e)
      rcases putS_split T fv k v xs with ⟨pre, v0, post, h1, h2⟩ | ⟨h1, h2⟩
      · exact .inl ⟨(fk x.1, fv x.2) :: pre, v0, post, by rw [List.cons_append, ← h1]; rfl, by rw [List.cons_append, ← h2]; rfl⟩
      · refine .inr ⟨by rw [ms, List.map_cons, ← ms, h1]; rfl, fun y hy => ?_⟩
        rcases List.mem_cons.1 hy with rfl | hy
        · exact hne
        · exact h2 y hy
theorem delS_split (T : KeyT P kt fk) (fv : V → D) (k : K) : ∀ S : List (K × V), (∃ (pre : List (D × D)) (v0 : D) (post : List (D × D)), ms fk fv S = pre ++ (fk k, v0) :: post ∧ ms fk fv (delS k S) = pre ++ post) ∨ (ms fk fv (delS k S) = ms fk fv S ∧ ∀ x ∈ ms fk fv S, x.1 ≠ fk k)
  | [] => .inr ⟨rfl, by simp [ms]⟩
  | x :: xs => by
    rw [delS]
    split
    · rename_i h
      exact .inl ⟨[], fv x.2, ms fk fv xs, by rw [← h]; rfl, rfl⟩
    · rename_i h
      have hne : fk x.1 ≠ fk k := fun e => h (T.inj _ _ e)
      rcases delS_split T fv k xs with ⟨pre, v0, post, h1, h2⟩ | ⟨h1, h2⟩
      · exact .inl ⟨(fk x.1, fv x.2) :: pre, v0, post, by rw [List.cons_append, ← h1]; rfl, by rw [List.cons_append, ← h2]; rfl⟩
      · refine .inr ⟨by rw [ms, List.map_cons, ← ms, h1]; rfl, fun y hy => ?_⟩
        rcases List.mem_cons.1 hy with rfl | hy
        · exact hne
        · exact h2 y hy
theorem putS_ok (T : KeyT P kt fk) (fv : V → D) (S : List (K × V)) (k : K) (v : V) : MPutS P kt (ms fk fv S) (fk k) (fv v) (ms fk fv (putS k v S)) := ⟨ms_ok T S, T.ok k, putS_split T fv k v S⟩
theorem delS_ok (T : KeyT P kt fk) (fv : V → D) (S : List (K × V)) (k : K) : MDelS P kt (ms fk fv S) (fk k) (ms fk fv (delS k S)) := ⟨ms_ok T S, T.ok k, delS_split T fv k S⟩
end
section
variable {α : Type}
def insBy (le : α → α → Bool) (x : α) : List α → List α
  | [] => [x]
  | y :: l => match le x y with
    | true => x :: y :: l
    | false => y :: insBy le x l
def sortBy (le : α → α → Bool) : List α → List α
  | [] => []
  | x :: l => insBy le x (sortBy le l)
theorem insBy_perm (le : α → α → Bool) (x : α) : ∀ l, (insBy le x l).Perm (x :: l)
  | [] => List.Perm.refl _
  | y :: l => by
    rw [insBy]
    split
    · exact List.Perm.refl _
    · exact ((insBy_perm le x l).cons y).trans (List.Perm.swap x y l)
theorem sortBy_perm (le : α → α → Bool) : ∀ l, (sortBy le l).Perm l
  | [] => List.Perm.refl _
  | x :: l => (insBy_perm le x _).trans ((sortBy_perm le l).cons x)
def keyC {V : Type} (S : List (Int × V)) : List (Int × V) := sortBy (fun a b => decide (a.1 ≤ b.1)) S
def rowC (xs : List Int) : List Int := sortBy (fun a b => decide (a ≤ b)) xs
theorem keyC_perm {V : Type} (S : List (Int × V)) : (keyC S).Perm S := sortBy_perm _ S
theorem rowC_perm (xs : List Int) : (rowC xs).Perm xs := sortBy_perm _ xs
theorem Wk.canS {V : Type} {s s' : St} (n : Nat) {fk : Int → D} {fv : V → D} {S : List (Int × V)} (hl : lk s.B n = some (.mapS (ms fk fv S))) (hs : { s with B := updB s.B n (.mapS (ms fk fv (keyC S))) } = s') : Wk s s' :=
  hs ▸ Wk.permS hl ((keyC_perm S).symm.map _)
theorem Wk.canB {α : Type} {s s' : St} (n : Nat) {e k : Nat} {fd : α → D} {xs ys : List α} (hp : xs.Perm ys) (hl : lk s.B n = some (.rw e k (xs.map fd))) (hs : { s with B := updB s.B n (.bag e k (ys.map fd)) } = s') : Wk s s' :=
  hs ▸ Wk.bagw hl (hp.map _)
end
theorem ACall.bag {α : Type} {P : Program} {f : FuncId} {e k : Nat} {fd : α → D} {xs : List α} {r : A} {X' : Bx} (h : ∀ ys : List α, ys.Perm xs → ACall P f [.row 0] [(0, .rw e k (ys.map fd))] r X') : ACall P f [.row 0] [(0, .bag e k (xs.map fd))] r X' := by
  intro hh w val vs H hr
  obtain ⟨ys, us, hp, h1, h2, h3⟩ := H.rep _ (List.mem_singleton.2 rfl)
  obtain ⟨zs, hz, rfl⟩ := perm_map_inv _ hp
  refine h zs hz hh w val vs ⟨fun p hp => ?_, H.nms, H.bks⟩ hr
  rw [List.mem_singleton.1 hp]
  exact ⟨us, h1, h2, h3⟩
theorem ACall.bagE {α τ : Type} {P : Program} {f : FuncId} {e k : Nat} {fd : α → D} {xs : List α} {F : List α → Option τ} {R : τ → A} {X' : τ → Bx} (hF : ∀ (ys : List α) (r : τ), F ys = some r → ACall P f [.row 0] [(0, .rw e k (ys.map fd))] (R r) (X' r)) (r : τ) (h : Ac.bagE F xs = some r) : ACall P f [.row 0] [(0, .bag e k (xs.map fd))] (R r) (X' r) :=
  ACall.bag fun ys hp => hF ys r (bagE_some h ys hp)
end Go.Ac
