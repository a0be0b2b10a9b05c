/- Own work: how calls of the model run over plain data. -/
import Derived.Test.YtbmojpadjglncaaGreatAc27
set_option linter.unusedVariables false
set_option linter.unusedSimpArgs false
namespace Go.Ac
open Go.Proofs Go.Shelf Go.RowKit Go.Lib Go.Sort
section
variable {P : Program} {ρ : Ren}
theorem AInsertNil {e : TypeId} {i0 : TypeInfo} {z : Value} (mixed : P.follows .mixedOrders = true) (FB : Bears P (ρ.f 22) (Body2.n22 ρ))
    (t3 : P.underlying (ρ.t 3) = some (.int .i64)) (t4 : P.underlying (ρ.t 4) = some .bool) (T : RowT P (ρ.t 24) e i0 z)
    (ys : List D) (hy : 0 < ys.length) (h63 : ys.length ≤ maxLen) (hbytes : ys.length * i0.bytes ≤ 140737488355328) :
    ACall P (ρ.f 22) [.nil, .d (.v (.int .i64 ((0 : Nat) : Int))), .row 0] [(0, .row e i0.size ys)] (.row 1) [(1, .rw e i0.size ys)] := by
  intro h w val vs hI hA
  simp only [RAs, RA, RD] at hA
  obtain ⟨_, _, rfl, rfl, _, _, rfl, ⟨rfl, _⟩, _, _, rfl, ⟨rfl, _⟩, rfl⟩ := hA
  obtain ⟨ws, hown2, hrow2, hh2⟩ := hI.rep (0, .row e i0.size ys) (by simp)
  have hlen2 := RRow.length hrow2
  rcases hown2.2 with ⟨hv2, h0⟩ | ⟨g2, cap2, cur2, hv2, _, hg2, hn2, hc2, hcs2, htk2⟩
  · omega
  simp only at hv2
  have hws : ∀ j u, ws[j]? = some u → w.cell? ((⟨g2, 0, none⟩ : Addr).add j) = some u := fun j u hu => by
    rw [hv2] at hown2; exact hown2.cells (g := g2) rfl j u hu
  rw [hv2]
  refine (ins_end mixed FB t3 t4 T w none 0 0 [] ⟨g2, 0, none⟩ ys.length cap2 ws (World.ownsRow_nil _ _ _ _) hy hlen2 hws (RRow.one hrow2) (by omega) (by simpa using hbytes)).mono ?_
  rintro ex w' ⟨v', rfl, ho, hcase⟩
  refine own_result (X := [(0, Bk.row e i0.size ys)]) (m := 1) (v := .slice none 0 0) (by simp [names]) (by simp [Value.ownBlock]) (by simp [Value.ownBlock]) (by simpa using ho) hrow2 (fun g hg => ?_) ?_
  · rcases hcase with ⟨h1, _⟩ | ⟨h1, _⟩
    · rw [h1] at hg; simp [Value.ownBlock] at hg
    · rw [h1] at hg; cases hg; exact .inr (Nat.le_refl _)
  · rcases hcase with ⟨_, h1⟩ | ⟨_, h1⟩
    · exact h1
    · exact ⟨h1.os, h1.tape, h1.output, h1.size, fun b hb _ => h1.block b hb (by simp)⟩
end
def insN {α : Type} (by_ : Nat) (i : Int) (ys : List α) : Option (List α) :=
  if i = 0 ∧ 0 < ys.length ∧ fit 0 ys.length by_ then some ys else none
theorem insN_ok {P : Program} {ρ : Ren} {e : TypeId} {k by_ fi : Nat} {α : Type} (f : α → D) (mixed : P.follows .mixedOrders = true) (hfi : ρ.f 22 = fi) (FB : Bears P (ρ.f 22) (Body2.n22 ρ))
    (t3 : P.underlying (ρ.t 3) = some (.int .i64)) (t4 : P.underlying (ρ.t 4) = some .bool) (ht : P.underlying (ρ.t 24) = some (.slice e))
    (hq : (P.info? e).map (fun i => (i.size, i.bytes, i.zero.map (·.cells.size), i.zero.map (fun z => z.cells.all (·.oneCell')))) = some (k, by_, some k, some true)) (hby : 0 < by_)
    (i : Int) (ys r : List α) (h : insN by_ i ys = some r) : ACall P fi [.nil, .d (D.i .i64 i), .row 0] [(0, .row e k (ys.map f))] (.row 1) [(1, .rw e k (r.map f))] := by
  obtain ⟨i0, z, T, rfl, rfl⟩ := rowT_of ht hq
  unfold insN at h
  split at h
  · rename_i hc
    obtain ⟨rfl, hy, hf⟩ := hc
    obtain rfl := Option.some.inj h
    subst hfi
    unfold fit at hf
    rw [Nat.zero_add] at hf
    have h63 : ys.length ≤ maxLen := by
      have : ys.length ≤ ys.length * i0.bytes := Nat.le_mul_of_pos_right _ hby
      exact Nat.le_trans (Nat.le_trans this hf) (by decide)
    exact AInsertNil mixed FB t3 t4 T (ys.map f) (by rw [List.length_map]; exact hy) (by simpa using h63) (by simpa using hf)
  · cases h
end Go.Ac
