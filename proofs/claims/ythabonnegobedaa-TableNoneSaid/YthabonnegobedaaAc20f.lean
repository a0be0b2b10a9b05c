/- Own work: how calls of the model run over plain data. -/
import Derived.Test.YthabonnegobedaaAc20e
set_option linter.unusedVariables false
set_option linter.unusedSimpArgs false
namespace Go.Ac
theorem lp_cast {P : Program} {rd : Option Nat} {root : Code} {p : List Nat} {s s' t t' : St} {e e' : Ex} (h : LpOf P rd root p s e t) (h1 : s = s') (h2 : e = e') (h3 : t = t') : LpOf P rd root p s' e' t' := by
  subst h1; subst h2; subst h3; exact h
theorem Wk.perm {E : List A} {B B' F : Bx} (hp : B.Perm B') : Wk ⟨E, B, F⟩ ⟨E, B', F⟩ := fun h w val a H =>
  ⟨h, val, Holds.perm (s := ⟨E, B, F⟩) hp H, Nx.perm (s' := ⟨E, B, F⟩) hp (Nx.refl _ h w val rfl)⟩
def rex {σ τ : Type} (X : τ → Ex) : σ ⊕ τ → Ex
  | .inl _ => .normal
  | .inr t => X t
def rbx {σ τ : Type} (BL : σ → Bx) (BT : τ → Bx) : σ ⊕ τ → Bx
  | .inl s => BL s
  | .inr t => BT t
theorem range_ok {P : Program} {root : Code} {p : List Nat} {g : Operand} {ps : Array Tmp} {assign body : Code} (hc : codeAt root p = .rangeFunc g ps assign body)
    {σ τ ι : Type} {E : List A} (BL : σ → Bx) (BT : τ → Bx) (FL : σ → Bx) (FT : τ → Bx) (X : τ → Ex) (enc : ι → List A) (round : σ → ι → Option (σ ⊕ τ)) {gf : FuncId} {cs : List A} {st0 : σ} {fin : σ ⊕ τ}
    (hg : calleeOf (St.ev ⟨E, BL st0, FL st0⟩ g) = some (gf, [], cs)) (hf : fnOk P gf = true) (hcs : bares cs = true)
    (henc : ∀ x, bares (enc x) = true ∧ (enc x).length = ps.size)
    (hlowL : ∀ s us, (lowB ((vn, .vals E us) :: BL s) && closB ((vn, .vals E us) :: BL s)) = true)
    (hlowT : ∀ t us, (lowB ((vn, .vals E us) :: BT t) && closB ((vn, .vals E us) :: BT t)) = true)
    (hnL : ∀ s, names (BL s) = names (BL st0)) (hnT : ∀ t, names (BT t) = names (BL st0)) (hvn : listMem vn (names (BL st0)) = false) (hX : ∀ t, isN (X t) = false)
    (hFL : ∀ s, FOk (FL s) (names (FL st0))) (hFT : ∀ t, FOk (FT t) (names (FL st0)))
    (hr : ∀ s x o, round s x = some o → ∀ l us, ∃ M E1, LpOf P (some l) root (0 :: p) ⟨setPs E (ps.toList.zip (enc x)), BL s ++ [(vn, .vals E us)], FL s⟩ .normal M ∧
      LpOf P (some l) root (1 :: p) M (rex X o) ⟨E1, rbx BL BT o ++ [(vn, .vals E us)], rbx FL FT o⟩)
    (hit : AIt P gf cs enc (stepOf round) (.inl st0) fin) :
    LpOf P none root p ⟨E, BL st0, FL st0⟩ (rex X fin) ⟨E, rbx BL BT fin, rbx FL FT fin⟩ := by
  have ha : codeAt root (0 :: p) = assign := by simp only [codeAt, hc, child]
  have hb : codeAt root (1 :: p) = body := by simp only [codeAt, hc, child]
  have hpm : ∀ (B : Bx) us, (B ++ [(vn, Bk.vals E us)]).Perm ((vn, .vals E us) :: B) := fun B us => List.perm_append_comm
  have key : ∀ s x o, round s x = some o → ∀ l us, ∃ M E1, AC P (some l) assign ⟨setPs E (ps.toList.zip (enc x)), (vn, .vals E us) :: BL s, FL s⟩ (fun e s1 => e = .normal ∧ s1 = M) ∧
      AC P (some l) body M fun e1 s1 => e1 = rex X o ∧ s1 = ⟨E1, (vn, .vals E us) :: rbx BL BT o, rbx FL FT o⟩ := by
    intro s x o ho l us
    obtain ⟨M, E1, h1, h2⟩ := hr s x o ho l us
    refine ⟨M, E1, ?_, ?_⟩
    · unfold LpOf at h1
      rw [ha] at h1
      exact AC.wk (Wk.perm (hpm (BL s) us).symm) h1
    · unfold LpOf at h2
      rw [hb] at h2
      exact h2.post fun e s1 hh => ⟨_, by rw [hh.2]; exact Wk.perm (hpm _ us), hh.1, rfl⟩
  have hand : ∀ {a b : Bool}, (a && b) = true → a = true ∧ b = true := fun h => by simpa using h
  have := arange (P := P) (root := root) (p := p) hc (BL := BL) (BT := BT) (FL := FL) (FT := FT) (X := X) (enc := enc) (round := round) (st0 := st0) (fin := fin) hg hf hcs henc (fun s us => hand (hlowL s us)) (fun t us => hand (hlowT t us)) hnL hnT
    (listMem_false hvn) hX hFL hFT (fun s x s' h => key s x _ h) (fun s x t h => key s x _ h) hit
  unfold LpOf
  refine this.mono fun e s1 hh => ?_
  cases fin with
  | inl s' => exact hh
  | inr t => exact hh
end Go.Ac
namespace Go.Ac
theorem lp_wks {P : Program} {rd : Option Nat} {root : Code} {p : List Nat} {w : List Ws} {s s1 s' : St} {e : Ex} (hw : wks w s = some s1) (h : LpOf P rd root p s1 e s') : LpOf P rd root p s e s' := AC.wk (wks_ok hw) h
end Go.Ac
