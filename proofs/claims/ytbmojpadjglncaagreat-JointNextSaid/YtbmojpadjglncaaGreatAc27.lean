/- Own work: how calls of the model run over plain data. -/
import Derived.Test.YtbmojpadjglncaaGreatAc26
set_option linter.unusedVariables false
set_option linter.unusedSimpArgs false
namespace Go.Ac
open Go.Proofs Go.Shelf Go.RowKit Go.Lib Go.Sort
section
variable {P : Program} {ρ : Ren}
theorem AInsert {e : TypeId} {i0 : TypeInfo} {z : Value} (mixed : P.follows .mixedOrders = true) (FB : Bears P (ρ.f 22) (Body2.n22 ρ))
    (t3 : P.underlying (ρ.t 3) = some (.int .i64)) (t4 : P.underlying (ρ.t 4) = some .bool) (T : RowT P (ρ.t 24) e i0 z) (hk0 : 0 < i0.size)
    (hox : ∀ args w, (callFunc (ρ.f 29) args).run P w = ((Extern.SlicesOverlaps.overlaps #[ρ.t 24, ρ.t 24] #[ρ.t 4] args).run P w).andThen fun v w => .ok (.value v) w)
    (xs ys : List D) (i : Nat) (hi : i ≤ xs.length) (hy : 0 < ys.length) (h63 : xs.length + ys.length ≤ maxLen) (hbytes : (xs.length + ys.length) * i0.bytes ≤ 140737488355328) :
    ACall P (ρ.f 22) [.row 0, .d (.v (.int .i64 i)), .row 1] [(0, .rw e i0.size xs), (1, .row e i0.size ys)] (.row 2) [(2, .rw e i0.size (xs.take i ++ ys ++ xs.drop i))] := by
  intro h w val vs hI hA
  simp only [RAs, RA, RD] at hA
  obtain ⟨_, _, rfl, ⟨rfl, _⟩, _, _, rfl, ⟨rfl, _⟩, _, _, rfl, ⟨rfl, _⟩, rfl⟩ := hA
  obtain ⟨us, hown, hrow, hh⟩ := hI.rep (0, .rw e i0.size xs) (by simp)
  obtain ⟨ws, hown2, hrow2, hh2⟩ := hI.rep (1, .row e i0.size ys) (by simp)
  have hlen := RRow.length hrow
  have hlen2 := RRow.length hrow2
  obtain ⟨k, hk⟩ : ∃ k, k = i0.size := ⟨_, rfl⟩
  have e5 : (xs.take i ++ ys ++ xs.drop i).length = xs.length + ys.length := by
    simp only [List.length_append, List.length_take, List.length_drop]; omega
  rcases hown2.2 with ⟨hv2, h0⟩ | ⟨g2, cap2, cur2, hv2, _, hg2, hn2, hc2, hcs2, htk2⟩
  · omega
  simp only at hv2
  have hM : ∀ g, (val 0).ownBlock = some g → g ∈ blks val [(0, Bk.rw e i0.size xs), (1, .row e i0.size ys)] := by
    intro g hg
    have hb : blkOf val (0, Bk.rw e i0.size xs) = some g := by simp [blkOf, Bk.isOld, vblk_eq_own hown, hg]
    unfold blks
    rw [List.filterMap_cons, hb]
    exact List.mem_cons_self
  have hne : ∀ g, (val 0).ownBlock = some g → g2 ≠ g := by
    intro g hg q
    subst q
    have hb := hI.bks
    have hv0 : vblk (val 0) = some g2 := (vblk_eq_own hown).trans hg
    have b0 : blkOf val (0, Bk.rw e i0.size xs) = some g2 := by simp [blkOf, Bk.isOld, hv0]
    have b1 : blkOf val (1, Bk.row e i0.size ys) = some g2 := by simp [blkOf, Bk.isOld, hv2, vblk]
    unfold blks at hb
    rw [List.filterMap_cons, b0, List.filterMap_cons, b1] at hb
    simp at hb
  have hR2 : rawAt w g2 e cur2.toList := by unfold rawAt; simpa using hg2
  have hws : ∀ j u, ws[j]? = some u → w.cell? ((⟨g2, 0, none⟩ : Addr).add j) = some u := fun j u hu => by
    rw [hv2] at hown2; exact hown2.cells (g := g2) rfl j u hu
  have hone2 := RRow.one hrow2
  have hone := RRow.one hrow
  have hrow3 : RRow h w i0.size (xs.take i ++ ys ++ xs.drop i) (us.take (i * i0.size) ++ ws ++ us.drop (i * i0.size)) := RRow.append (RRow.append (RRow.take i hrow) hrow2) (RRow.drop i hrow)
  have hgo : ∀ v' w', w'.ownsRow 0 e i0.size v' (xs.take i ++ ys ++ xs.drop i).length (us.take (i * i0.size) ++ ws ++ us.drop (i * i0.size)) → (∀ g, v'.ownBlock = some g → (val 0).ownBlock = some g ∨ w.heap.size ≤ g) → w.grownBy w' (val 0).ownBlock → _ :=
    fun v' w' h1 h2 h3 => own_result (X := [(0, Bk.rw e i0.size xs), (1, .row e i0.size ys)]) (m := 2) (by simp [names]) hh hM h1 hrow3 h2 h3
  rw [hv2]
  by_cases hend : i = xs.length
  · subst hend
    obtain ⟨ad, ln, cp, hv⟩ := ownsRow_form hown
    have hln : ln = xs.length := by
      rcases hown.2 with ⟨h1, h0⟩ | ⟨g, cap, cur, h1, _⟩
      · simp only at h1; rw [hv] at h1; cases h1; exact h0.symm
      · simp only at h1; rw [hv] at h1; cases h1; rfl
    subst hln
    simp only at hv
    rw [hv]
    refine (ins_end mixed FB t3 t4 T w ad xs.length cp us ⟨g2, 0, none⟩ ys.length cap2 ws (by rw [← hv]; exact hown) hy hlen2 hws hone2 h63 hbytes).mono ?_
    rintro ex w' ⟨v', rfl, ho, hcase⟩
    have e1 : xs.take xs.length ++ ys ++ xs.drop xs.length = xs ++ ys := by simp
    have e2 : us.take (xs.length * i0.size) ++ ws ++ us.drop (xs.length * i0.size) = us ++ ws := by
      rw [← hlen]; simp
    rw [e1, e2] at hgo
    rw [e1]
    refine hgo v' w' (by rw [List.length_append]; exact ho) (fun g hg => ?_) ?_
    · rcases hcase with ⟨h1, _⟩ | ⟨h1, _⟩
      · rw [h1, ← hv] at hg; exact .inl hg
      · rw [h1] at hg; cases hg; exact .inr (Nat.le_refl _)
    · rcases hcase with ⟨_, h1⟩ | ⟨_, h1⟩
      · rw [hv]; exact h1
      · exact ⟨h1.os, h1.tape, h1.output, h1.size, fun b hb _ => h1.block b hb (by simp)⟩
  · have hlt : i < xs.length := by omega
    rcases hown.2 with ⟨hv, h0⟩ | ⟨g, cap, cur, hv, _, hg, hn, hc, hcs, htk⟩
    · omega
    simp only at hv
    rw [hv]
    have hR : rawAt w g e cur.toList := by unfold rawAt; simpa using hg
    have hg2g : g2 ≠ g := hne g (by rw [hv]; rfl)
    have m1 : xs.length * k ≤ cap * k := Nat.mul_le_mul_right k hn
    have m2 : (i + ys.length) * k = i * k + ys.length * k := Nat.add_mul _ _ _
    have m4 : i * k ≤ xs.length * k := Nat.mul_le_mul_right k hi
    have hcl : cur.toList.length = cap * k := by rw [hk]; simpa using hcs
    have l1 : (us.drop (i * k)).length = xs.length * k - i * k := by rw [List.length_drop, hlen, hk]
    by_cases hroom : xs.length + ys.length ≤ cap
    · refine (ins_room mixed FB t3 t4 T hox w g xs.length cap i cur.toList us ⟨g2, 0, none⟩ ys.length cap2 ws cur2.toList e hR (by simpa using hcs) htk hone hR2 hg2g hk0 hlt hy hroom (Nat.le_trans hc (by decide)) hlen2 hws hone2).mono ?_
      rintro ex w' ⟨rfl, rfl⟩
      rw [← hk] at hlen hlen2 hcs htk hgo ⊢
      have m3 : (xs.length + ys.length) * k ≤ cap * k := Nat.mul_le_mul_right k hroom
      have m5 : (xs.length + ys.length) * k = xs.length * k + ys.length * k := Nat.add_mul _ _ _
      have hR1 := rawAt.set (us.drop (i * k)) ((i + ys.length) * k) hR.drew (by rw [l1]; omega)
      have hR3 := rawAt.set ws (i * k) hR1 (by simp only [List.length_append, List.length_take, List.length_drop]; omega)
      refine hgo _ _ ?_ (fun g' hg' => .inl (by rw [hv]; exact hg')) ?_
      · rw [e5]
        refine ⟨by simp only [List.length_append, List.length_take, l1]; rw [Nat.min_eq_left (by omega)]; omega, .inr ⟨g, cap, _, rfl, Nat.zero_le _, hR3, hroom, hc, ?_, ?_⟩⟩
        · simp only [List.size_toArray, List.length_append, List.length_take, List.length_drop]
          omega
        · simp only
          have a1 : (cur.toList.take ((i + ys.length) * k) ++ us.drop (i * k) ++ cur.toList.drop ((i + ys.length) * k + (us.drop (i * k)).length)).take (i * k) = us.take (i * k) := by
            rw [List.append_assoc, List.take_append_of_le_length (by rw [List.length_take]; omega), List.take_take, Nat.min_eq_left (by omega), ← htk, List.take_take, Nat.min_eq_left (by omega)]
          have a2 : (cur.toList.take ((i + ys.length) * k) ++ us.drop (i * k) ++ cur.toList.drop ((i + ys.length) * k + (us.drop (i * k)).length)).drop (i * k + ws.length) = us.drop (i * k) ++ cur.toList.drop ((i + ys.length) * k + (us.drop (i * k)).length) := by
            rw [List.append_assoc, show i * k + ws.length = (cur.toList.take ((i + ys.length) * k)).length by rw [List.length_take]; omega, List.drop_left]
          rw [a1, a2, ← List.append_assoc, List.take_append_of_le_length (by simp only [List.length_append, List.length_take, l1]; omega), List.take_of_length_le (by simp only [List.length_append, List.length_take, l1]; omega)]
      · rw [hv]
        obtain ⟨a1, a2, a3, a4, a5⟩ := setCells_keeps g (us.drop (i * k)) ((i + ys.length) * k) w.drew
        obtain ⟨b1, b2, b3, b4, b5⟩ := setCells_keeps g ws (i * k) (w.drew.setCells g ((i + ys.length) * k) (us.drop (i * k)))
        refine ⟨b1.trans a1, b2.trans a2, b3.trans a3, Nat.le_of_eq (b4.trans a4).symm, fun x hx hne => ?_⟩
        have hne' : x ≠ g := fun q => hne (by rw [q]; rfl)
        exact (b5 x hne').trans (a5 x hne')
    · refine (ins_grow mixed FB t3 t4 T w g xs.length cap i cur.toList us ⟨g2, 0, none⟩ ys.length cap2 ws hR (by simpa using hcs) htk hone hR2.lt hk0 hlt hy hn (by omega) hbytes h63 hlen2 hws hone2).mono ?_
      rintro ex w' ⟨rfl, rfl⟩
      have hzs := T.hzs
      rw [← hk] at hlen hlen2 hcs htk hgo hzs ⊢
      obtain ⟨G, hG⟩ : ∃ G, G = grownCap w (xs.length + ys.length) cap e := ⟨_, rfl⟩
      have hGn : xs.length + ys.length ≤ G := by rw [hG]; exact grownCap_ge w _ _ _
      have hGm : G ≤ maxLen := by rw [hG]; exact grownCap_le_maxLen w _ _ e h63
      rw [← hG]
      obtain ⟨ROW, hROW⟩ : ∃ ROW : Array Value, ROW = (us.take (i * k)).toArray ++ Builtin.zeroCells z.cells (xs.length + ys.length - i) ++ Builtin.zeroCells z.cells (G - (xs.length + ys.length)) := ⟨_, rfl⟩
      rw [← hROW]
      have z1 : ∀ n, (Builtin.zeroCells z.cells n).size = n * k := fun n => by rw [← hzs]; exact zeroCells_length _ _
      have m5 : (xs.length + ys.length) * k = xs.length * k + ys.length * k := Nat.add_mul _ _ _
      have m6 : (xs.length + ys.length - i) * k = (xs.length + ys.length) * k - i * k := Nat.sub_mul _ _ _
      have m7 : (G - (xs.length + ys.length)) * k = G * k - (xs.length + ys.length) * k := Nat.sub_mul _ _ _
      have m8 : (xs.length + ys.length) * k ≤ G * k := Nat.mul_le_mul_right k hGn
      have hRl : ROW.toList.length = G * k := by
        rw [hROW]
        simp only [Array.length_toList, Array.size_append, List.size_toArray, List.length_take, z1]
        omega
      have hRt : ROW.toList.take (i * k) = us.take (i * k) := by
        rw [hROW]
        simp only [Array.toList_append, List.append_assoc]
        rw [List.take_append_of_le_length (by rw [List.length_take]; omega), List.take_take, Nat.min_self]
      have hR0 : rawAt ((w.alloc (.cells ROW e)).drew) w.heap.size e ROW.toList := by
        unfold rawAt; exact heap_alloc_new w (.cells ROW e)
      have hR1 := (rawAt.set ws (i * k) hR0 (by omega)).drew
      have hR3 := rawAt.set (us.drop (i * k)) ((i + ys.length) * k) hR1 (by simp only [List.length_append, List.length_take, List.length_drop]; omega)
      refine hgo _ _ ?_ (fun g' hg' => .inr (by simp [Value.ownBlock] at hg'; omega)) ?_
      · rw [e5]
        refine ⟨by simp only [List.length_append, List.length_take, l1]; rw [Nat.min_eq_left (by omega)]; omega, .inr ⟨w.heap.size, G, _, rfl, Nat.zero_le _, hR3, hGn, hGm, ?_, ?_⟩⟩
        · simp only [List.size_toArray, List.length_append, List.length_take, List.length_drop]
          omega
        · simp only
          have a1 : (ROW.toList.take (i * k) ++ ws ++ ROW.toList.drop (i * k + ws.length)).take ((i + ys.length) * k) = us.take (i * k) ++ ws := by
            rw [hRt, List.take_append_of_le_length (by simp only [List.length_append, List.length_take]; omega), List.take_of_length_le (by simp only [List.length_append, List.length_take]; omega)]
          rw [a1, List.take_append_of_le_length (by simp only [List.length_append, List.length_take, l1]; omega), List.take_of_length_le (by simp only [List.length_append, List.length_take, l1]; omega)]
      · rw [hv]
        obtain ⟨a1, a2, a3, a4, a5⟩ := setCells_keeps w.heap.size ws (i * k) (w.alloc (.cells ROW e)).drew
        obtain ⟨b1, b2, b3, b4, b5⟩ := setCells_keeps w.heap.size (us.drop (i * k)) ((i + ys.length) * k) (((w.alloc (.cells ROW e)).drew.setCells w.heap.size (i * k) ws).drew)
        have hsz : w.heap.size ≤ (w.alloc (.cells ROW e)).heap.size := by simp
        refine ⟨b1.trans a1, b2.trans a2, b3.trans a3, by rw [b4]; exact Nat.le_trans hsz (Nat.le_of_eq a4.symm), fun x hx hne => ?_⟩
        have hne' : x ≠ w.heap.size := by omega
        exact (b5 x hne').trans ((a5 x hne').trans (heap_alloc_old w _ hx))
end
def insE {α : Type} (by_ : Nat) (i : Int) (xs ys : List α) : Option (List α) :=
  if 0 ≤ i ∧ i ≤ xs.length ∧ 0 < ys.length ∧ fit xs.length ys.length by_ then some (xs.take i.toNat ++ ys ++ xs.drop i.toNat) else none
theorem insE_ok {P : Program} {ρ : Ren} {e : TypeId} {k by_ fi : Nat} {α : Type} (f : α → D) (mixed : P.follows .mixedOrders = true) (hfi : ρ.f 22 = fi) (FB : Bears P (ρ.f 22) (Body2.n22 ρ))
    (t3 : P.underlying (ρ.t 3) = some (.int .i64)) (t4 : P.underlying (ρ.t 4) = some .bool) (ht : P.underlying (ρ.t 24) = some (.slice e))
    (hq : (P.info? e).map (fun i => (i.size, i.bytes, i.zero.map (·.cells.size), i.zero.map (fun z => z.cells.all (·.oneCell')))) = some (k, by_, some k, some true))
    (hk0 : 0 < k) (hby : 0 < by_)
    (hox : ∀ args w, (callFunc (ρ.f 29) args).run P w = ((Extern.SlicesOverlaps.overlaps #[ρ.t 24, ρ.t 24] #[ρ.t 4] args).run P w).andThen fun v w => .ok (.value v) w)
    (i : Int) (xs ys r : List α) (h : insE by_ i xs ys = some r) : ACall P fi [.row 0, .d (D.i .i64 i), .row 1] [(0, .rw e k (xs.map f)), (1, .row e k (ys.map f))] (.row 2) [(2, .rw e k (r.map f))] := by
  obtain ⟨i0, z, T, rfl, rfl⟩ := rowT_of ht hq
  unfold insE at h
  split at h
  · rename_i hc
    obtain rfl := Option.some.inj h
    obtain ⟨n, rfl⟩ := Int.eq_ofNat_of_zero_le hc.1
    subst hfi
    have hf := hc.2.2.2
    unfold fit at hf
    have h63 : xs.length + ys.length ≤ maxLen := by
      have : xs.length + ys.length ≤ (xs.length + ys.length) * i0.bytes := Nat.le_mul_of_pos_right _ hby
      exact Nat.le_trans (Nat.le_trans this hf) (by decide)
    have := AInsert mixed FB t3 t4 T hk0 hox (xs.map f) (ys.map f) n (by rw [List.length_map]; omega) (by rw [List.length_map]; exact hc.2.2.1) (by simpa using h63) (by simpa using hf)
    simpa [List.map_take, List.map_drop, D.i] using this
  · cases h
end Go.Ac
