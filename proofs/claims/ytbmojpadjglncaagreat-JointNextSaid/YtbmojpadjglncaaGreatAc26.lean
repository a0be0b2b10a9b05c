/- Own work: how calls of the model run over plain data. -/
import Derived.Test.YtbmojpadjglncaaGreatAc25
import Derived.Shelf.Spec.SlicesInsertGrow
set_option linter.unusedVariables false
set_option linter.unusedSimpArgs false
namespace Go.Ac
open Go.Proofs Go.Shelf Go.RowKit Go.Lib Go.Sort
section
variable {P : Program} {ρ : Ren}
theorem run_copy_k (w : World) (dT sT ty elem : TypeId) (b o dLen dCap : Nat) (a : Addr) (sLen sCap : Nat) (cs : List Value) (i : TypeInfo)
    (hu : P.underlying dT = some (.slice elem)) (hi : P.info? elem = some i) (hn : cs.length = Nat.min sLen dLen * i.size)
    (hsrc : ∀ j v, cs[j]? = some v → w.cell? (a.add j) = some v) (hc : ∀ j, j < cs.length → (w.cell? ⟨b, o + j, none⟩).isSome = true) (hf : ∀ j, j < cs.length → w.frozen? ⟨b, o + j, none⟩ = false) (h1 : ∀ v ∈ cs, v.oneCell' = true) :
    (Builtin.copy_ #[dT, sT] ty #[.slice (some ⟨b, o, none⟩) dLen dCap, .slice (some a) sLen sCap]).run P w = .ok (goInt (Nat.min sLen dLen)) (w.setCells b o cs) := by
  have hl := run_firstCells_some (P := P) w i.size (Nat.min sLen dLen) a sLen sCap cs (by omega) hsrc
  have hst := run_storeCells_cells (P := P) b o cs 0 w (by simpa using hc) (by simpa using hf) h1
  simp [Builtin.copy_, run_underlying hu, Builtin.lenOf, sizeOf, typeInfo, hi, hl, hst]

set_option maxHeartbeats 4000000 in
set_option maxRecDepth 100000 in
theorem ins_end {e : TypeId} {i0 : TypeInfo} {z : Value} (mixed : P.follows .mixedOrders = true) (FB : Bears P (ρ.f 22) (Body2.n22 ρ))
    (t3 : P.underlying (ρ.t 3) = some (.int .i64)) (t4 : P.underlying (ρ.t 4) = some .bool) (T : RowT P (ρ.t 24) e i0 z) (w : World) (ad : Option Addr) (n cap : Nat) (us : List Value) (a : Addr) (m vc : Nat) (vs : List Value)
    (hown : w.ownsRow 0 e i0.size (.slice ad n cap) n us) (hm : 0 < m) (hvl : vs.length = m * i0.size) (hvs : ∀ j u, vs[j]? = some u → w.cell? (a.add j) = some u) (h1v : ∀ u ∈ vs, u.oneCell' = true)
    (h63 : n + m ≤ maxLen) (hbytes : (n + m) * i0.bytes ≤ 140737488355328) :
    Calls P (ρ.f 22) #[.slice ad n cap, .int .i64 n, .slice (some a) m vc] w fun ex w' => ∃ v', ex = .returned v' ∧ w'.ownsRow 0 e i0.size v' (n + m) (us ++ vs) ∧
      (((v'.ownBlock = (Value.slice ad n cap).ownBlock ∧ w.grownBy w' (Value.slice ad n cap).ownBlock) ∨ (v'.ownBlock = some w.heap.size ∧ w.grownBy w' none))) := by
  have t24 := T.ht
  have a24 : ∀ w, (isAgg (ρ.t 24)).run P w = .ok false w := fun w => run_isAgg (by simp [isAggT, t24]) w
  have a3 : ∀ w, (isAgg (ρ.t 3)).run P w = .ok false w := fun w => run_isAgg (by simp [isAggT, t3]) w
  have a4 : ∀ w, (isAgg (ρ.t 4)).run P w = .ok false w := fun w => run_isAgg (by simp [isAggT, t4]) w
  have z9 : ∀ w, (Go.sizeOf e).run P w = .ok i0.size w := fun w => by simp [sizeOf, typeInfo, T.hi]
  have hz1 : ¬ ((m : Int) = 0) := by omega
  have hn : n ≤ cap := by
    rcases hown.2 with ⟨h, h0⟩ | ⟨g, cap', cur, h, _, _, h1, _⟩
    · omega
    · cases h; exact h1
  obtain ⟨v', w', hr, ho, hcase⟩ := run_append_two (P := P) w (ρ.t 24) (ρ.t 24) e i0 z t24 T.hi T.hz T.hzs (.slice ad n cap) n us hown a m vc vs hvl hvs h1v h63 hbytes
  obtain ⟨PQ, hPQ⟩ : ∃ PQ : Value → World → Prop, ∀ a b, PQ a b ↔ (b.ownsRow 0 e i0.size a (n + m) (us ++ vs) ∧
      (((a.ownBlock = (Value.slice ad n cap).ownBlock ∧ w.grownBy b (Value.slice ad n cap).ownBlock) ∨ (a.ownBlock = some w.heap.size ∧ w.grownBy b none)))) := ⟨_, fun _ _ => Iff.rfl⟩
  have hX : Hid (PQ v' w') := (hPQ _ _).2 ⟨ho, hcase⟩
  have hr' : Hid ((Builtin.append_ #[ρ.t 24, ρ.t 24] (ρ.t 24) #[.slice ad n cap, .slice (some a) m vc]).run P w = .ok v' w') := hr
  suffices h : Calls P (ρ.f 22) #[.slice ad n cap, .int .i64 n, .slice (some a) m vc] w fun ex w' => ∃ v', ex = .returned v' ∧ PQ v' w' from
    h.mono fun ex w' ⟨v', h1, h2⟩ => ⟨v', h1, (hPQ _ _).1 h2⟩
  have hnil : ad = none → n = 0 := by
    intro h; subst h
    rcases hown.2 with ⟨_, h0⟩ | ⟨g, cap', cur, h, _⟩
    · exact h0
    · cases h
  clear hr ho hcase hown hvs h1v hvl hPQ h63 hbytes T
  obtain ⟨_, _, FG⟩ := FB
  go_enter FG, Body2.n22_ntmps ρ
  cases ad with
  | none =>
    have h0 := hnil rfl
    subst h0
    go_wp2_with (at_builtin; refine Lib.wpList_append_run _ rfl _ _ _ _ rfl _ _ rfl rfl _ _ hr'.out ?_)
    go_ret
    exact ⟨_, rfl, hX.out⟩
  | some a =>
    obtain ⟨ab, ao, asp⟩ := a
    go_wp2_with (at_builtin; refine Lib.wpList_append_run _ rfl _ _ _ _ rfl _ _ rfl rfl _ _ hr'.out ?_)
    all_goals (go_ret; exact ⟨_, rfl, hX.out⟩)

set_option maxHeartbeats 4000000 in
set_option maxRecDepth 100000 in
theorem ins_room {e : TypeId} {i0 : TypeInfo} {z : Value} (mixed : P.follows .mixedOrders = true) (FB : Bears P (ρ.f 22) (Body2.n22 ρ))
    (t3 : P.underlying (ρ.t 3) = some (.int .i64)) (t4 : P.underlying (ρ.t 4) = some .bool) (T : RowT P (ρ.t 24) e i0 z)
    (hox : ∀ args w, (callFunc (ρ.f 29) args).run P w = ((Extern.SlicesOverlaps.overlaps #[ρ.t 24, ρ.t 24] #[ρ.t 4] args).run P w).andThen fun v w => .ok (.value v) w)
    (w : World) (b n c i : Nat) (cur us : List Value) (va : Addr) (m vc : Nat) (vs vcur : List Value) (ve : TypeId)
    (hr : rawAt w b e cur) (hcur : cur.length = c * i0.size) (htk : cur.take (n * i0.size) = us) (hone : ∀ u ∈ us, u.oneCell' = true)
    (hv : rawAt w va.block ve vcur) (hvb : va.block ≠ b) (hk0 : 0 < i0.size)
    (hi : i < n) (hm : 0 < m) (hroom : n + m ≤ c) (hc63 : c ≤ 9223372036854775807)
    (hvl : vs.length = m * i0.size) (hvs : ∀ j u, vs[j]? = some u → w.cell? (va.add j) = some u) (h1v : ∀ u ∈ vs, u.oneCell' = true) :
    Calls P (ρ.f 22) #[.slice (some ⟨b, 0, none⟩) n c, .int .i64 i, .slice (some va) m vc] w fun ex w' =>
      ex = .returned (.slice (some ⟨b, 0, none⟩) (n + m) c) ∧ w' = (w.drew.setCells b ((i + m) * i0.size) (us.drop (i * i0.size))).setCells b (i * i0.size) vs := by
  have t24 := T.ht
  obtain ⟨k, hk⟩ : ∃ k, k = i0.size := ⟨_, rfl⟩
  have a24 : ∀ w, (isAgg (ρ.t 24)).run P w = .ok false w := fun w => run_isAgg (by simp [isAggT, t24]) w
  have a3 : ∀ w, (isAgg (ρ.t 3)).run P w = .ok false w := fun w => run_isAgg (by simp [isAggT, t3]) w
  have a4 : ∀ w, (isAgg (ρ.t 4)).run P w = .ok false w := fun w => run_isAgg (by simp [isAggT, t4]) w
  have z9 : ∀ w, (Go.sizeOf e).run P w = .ok k w := fun w => by simp [sizeOf, typeInfo, T.hi, hk]
  have hz1 : ¬ ((m : Int) = 0) := by omega
  have hz2 : ¬ ((i : Int) = (n : Int)) := by omega
  rw [← hk] at hcur htk hvl hk0 ⊢
  have hcl : cur.length = c * k := hcur
  have hnk : n * k + m * k ≤ c * k := by rw [← Nat.add_mul]; exact Nat.mul_le_mul_right k hroom
  have husl : us.length = n * k := by rw [← htk, List.length_take]; omega
  have hik : i * k ≤ n * k := Nat.mul_le_mul_right k (by omega)
  have hcell : ∀ j u, us[j]? = some u → w.cell? ⟨b, j, none⟩ = some u := by
    intro j u hu
    rw [hr.cell]
    rw [← htk, List.getElem?_take] at hu
    split at hu
    · exact hu
    · cases hu
  have hov : ∀ lb cb, (callFunc (ρ.f 29) #[.slice (some va) m vc, .slice (some ⟨b, (i + m) * k, none⟩) lb cb]).run P w = .ok (.value (.bool false)) w := fun lb cb => by
    rw [hox, Lib.run_overlaps_apart w (ρ.t 24) (ρ.t 4) e t24 k z9 va ⟨b, (i + m) * k, none⟩ m vc lb cb hvb ve e vcur.length cur.length hv.shape hr.shape (by rw [hcl]; exact Nat.ne_of_gt (Nat.mul_pos (by omega) hk0)) (by unfold World.frozen?; rw [show w.heap[va.block]? = _ from hv]; simp) (hv.thawed _)]
    rfl
  have hw1 : IntKind.i64.wrap ((i : Int) + (m : Int)) = (i : Int) + (m : Int) := by rw [IntKind.wrap_i64]; omega
  have hb1 : (0 : Int) ≤ (i : Int) + (m : Int) := by omega
  have hin : i ≤ n := by omega
  have htn : ((i : Int) + (m : Int)).toNat = i + m := by omega
  have hb2 : ¬ (c = i + m) := by omega
  have hb3 : (i : Int) ≤ (n : Int) + (m : Int) := by omega
  have hb4 : ¬ (c = i) := by omega
  have hdl : (us.drop (i * k)).length = (n - i) * k := by rw [List.length_drop, husl, Nat.sub_mul]
  have e1 : (i + m) * k = i * k + m * k := Nat.add_mul _ _ _
  have e2 : (n - i) * k = n * k - i * k := Nat.sub_mul _ _ _
  have hmin1 : Nat.min (n + m - i) (n + m - (i + m)) = n - i := by simp only [Nat.min_def]; split <;> omega
  have hmin2 : Nat.min m (n + m - i) = m := by simp only [Nat.min_def]; split <;> omega
  have hcp1 : ∀ ty dc sc, (Builtin.copy_ #[(ρ.t 24), (ρ.t 24)] ty #[.slice (some ⟨b, (i + m) * k, none⟩) (n + m - (i + m)) dc, .slice (some ⟨b, i * k, none⟩) (n + m - i) sc]).run P w.drew = .ok (goInt ((n - i : Nat) : Int)) (w.drew.setCells b ((i + m) * k) (us.drop (i * k))) := fun ty dc sc => by
    have h := run_copy_k (P := P) w.drew (ρ.t 24) (ρ.t 24) ty e b ((i + m) * k) (n + m - (i + m)) dc ⟨b, i * k, none⟩ (n + m - i) sc (us.drop (i * k)) i0 t24 T.hi (by rw [hdl, hmin1, hk])
      (fun j v hj => by rw [Addr.add_lit]; exact hcell (i * k + j) v (by rwa [List.getElem?_drop] at hj))
      (fun j hj => by rw [hdl] at hj; rw [hr.drew.cell, List.getElem?_eq_getElem (by omega)]; rfl) (fun j hj => hr.drew.thawed _) (fun v hv => hone v (List.mem_of_mem_drop hv))
    rw [hmin1] at h
    exact h
  obtain ⟨W1, hW1⟩ : ∃ W1, W1 = w.drew.setCells b ((i + m) * k) (us.drop (i * k)) := ⟨_, rfl⟩
  obtain ⟨cur1, hR1, hc1⟩ : ∃ cur1, rawAt W1 b e cur1 ∧ cur1.length = c * k := by
    refine ⟨_, by rw [hW1]; exact rawAt.set _ _ hr.drew (by omega), ?_⟩
    simp only [List.length_append, List.length_take, List.length_drop]
    omega
  have hcp2 : ∀ (W : World), (∀ x, W.cell? x = W1.cell? x) → (∀ x, W.frozen? x = W1.frozen? x) → ∀ ty dc, (Builtin.copy_ #[(ρ.t 24), (ρ.t 24)] ty #[.slice (some ⟨b, i * k, none⟩) (n + m - i) dc, .slice (some va) m vc]).run P W = .ok (goInt m) (W.setCells b (i * k) vs) := fun W hWc hWf ty dc => by
    have h := run_copy_k (P := P) W (ρ.t 24) (ρ.t 24) ty e b (i * k) (n + m - i) dc va m vc vs i0 t24 T.hi (by rw [hvl, hmin2, hk])
      (fun j v hj => by
        rw [hWc, hW1, World.cell?_setCells_out b _ _ _ _ (fun h _ => absurd (by rw [← h, add_block]) hvb)]
        exact hvs j v hj)
      (fun j hj => by rw [hvl] at hj; rw [hWc, hR1.cell, List.getElem?_eq_getElem (by omega)]; rfl) (fun j hj => by rw [hWf, hR1.thawed]) h1v
    rw [hmin2] at h
    exact h
  rw [← hW1] at hcp1
  have X : Hid (W1 = w.drew.setCells b ((i + m) * k) (us.drop (i * k))) := hW1
  clear hR1 hc1 hcell hr hv hone hvs h1v hvl hcur hcl htk husl hdl hk hW1 e1 e2 hmin1 hmin2 hnk hik T hox
  obtain ⟨_, _, FG⟩ := FB
  go_enter FG, Body2.n22_ntmps ρ
  go_wp2_with (simp only [hov])
  go_region_law_o (refine step_copy_runI rfl _ _ (ρ.t 24) (ρ.t 24) rfl _ _ (by simp [Act.eval, Act.put]) (by simp [Act.eval, Act.put]) (hcp1 _ _ _) ?_)
  go_wp2_with (at_builtin; refine wpList_copy_runI _ rfl _ _ (ρ.t 24) (ρ.t 24) rfl _ _ rfl rfl (hcp2 _ (fun _ => rfl) (fun _ => rfl) _ _) ?_)
  go_ret
  exact ⟨rfl, by rw [X.out]⟩

set_option maxHeartbeats 4000000 in
set_option maxRecDepth 100000 in
theorem ins_grow {e : TypeId} {i0 : TypeInfo} {z : Value} (mixed : P.follows .mixedOrders = true) (FB : Bears P (ρ.f 22) (Body2.n22 ρ))
    (t3 : P.underlying (ρ.t 3) = some (.int .i64)) (t4 : P.underlying (ρ.t 4) = some .bool) (T : RowT P (ρ.t 24) e i0 z)
    (w : World) (b n c i : Nat) (cur us : List Value) (va : Addr) (m vc : Nat) (vs : List Value)
    (hr : rawAt w b e cur) (hcur : cur.length = c * i0.size) (htk : cur.take (n * i0.size) = us) (hone : ∀ u ∈ us, u.oneCell' = true)
    (hvb : va.block < w.heap.size) (hk0 : 0 < i0.size)
    (hi : i < n) (hm : 0 < m) (hnc : n ≤ c) (hroom : c < n + m) (hbig : (n + m) * i0.bytes ≤ 140737488355328) (h63 : n + m ≤ maxLen)
    (hvl : vs.length = m * i0.size) (hvs : ∀ j u, vs[j]? = some u → w.cell? (va.add j) = some u) (h1v : ∀ u ∈ vs, u.oneCell' = true) :
    Calls P (ρ.f 22) #[.slice (some ⟨b, 0, none⟩) n c, .int .i64 i, .slice (some va) m vc] w fun ex w' =>
      ex = .returned (.slice (some ⟨w.heap.size, 0, none⟩) (n + m) (grownCap w (n + m) c e)) ∧
      w' = (((w.alloc (.cells ((us.take (i * i0.size)).toArray ++ Builtin.zeroCells z.cells (n + m - i) ++ Builtin.zeroCells z.cells (grownCap w (n + m) c e - (n + m))) e)).drew.setCells w.heap.size (i * i0.size) vs).drew).setCells w.heap.size ((i + m) * i0.size) (us.drop (i * i0.size)) := by
  have t24 := T.ht
  obtain ⟨k, hk⟩ : ∃ k, k = i0.size := ⟨_, rfl⟩
  have a24 : ∀ w, (isAgg (ρ.t 24)).run P w = .ok false w := fun w => run_isAgg (by simp [isAggT, t24]) w
  have a3 : ∀ w, (isAgg (ρ.t 3)).run P w = .ok false w := fun w => run_isAgg (by simp [isAggT, t3]) w
  have a4 : ∀ w, (isAgg (ρ.t 4)).run P w = .ok false w := fun w => run_isAgg (by simp [isAggT, t4]) w
  have z9 : ∀ w, (Go.sizeOf e).run P w = .ok k w := fun w => by simp [sizeOf, typeInfo, T.hi, hk]
  have h63' : n + m ≤ 9223372036854775807 := Nat.le_trans h63 (by decide)
  have hz1 : ¬ ((m : Int) = 0) := by omega
  have hz2 : ¬ ((i : Int) = (n : Int)) := by omega
  have hz3 : (c : Int) < (n : Int) + (m : Int) := by omega
  have hkk : (n : Int) + (m : Int) - (i : Int) = ((n + m - i : Nat) : Int) := by omega
  have hik : i + (n + m - i) = n + m := by omega
  have hzs := T.hzs
  have hcur0 := hcur
  rw [← hk] at hcur htk hvl hk0 hzs ⊢
  have hnk : n * k ≤ c * k := Nat.mul_le_mul_right k hnc
  have husl : us.length = n * k := by rw [← htk, List.length_take]; omega
  have hikn : i * k ≤ n * k := Nat.mul_le_mul_right k (by omega)
  have hcell : ∀ j u, us[j]? = some u → w.cell? ⟨b, j, none⟩ = some u := by
    intro j u hu
    rw [hr.cell]
    rw [← htk, List.getElem?_take] at hu
    split at hu
    · exact hu
    · cases hu
  have hbw : b < w.heap.size := hr.lt
  have hold : (Builtin.firstCells i0.size i (.slice (some ⟨b, 0, none⟩) i c)).run P w.drew = .ok (us.take (i * k)).toArray w.drew := by
    rw [← hk]
    exact run_firstCells_some w.drew k i ⟨b, 0, none⟩ i c (us.take (i * k)) (by rw [List.length_take]; omega) (fun j v hj => by
      rw [Addr.add_lit, Nat.zero_add]
      rw [List.getElem?_take] at hj
      split at hj
      · exact hcell j v hj
      · cases hj)
  have hrz : ∀ ty, (Builtin.append_ #[(ρ.t 24), (ρ.t 3)] ty #[.slice (some ⟨b, 0, none⟩) i c, .int .i64 ((n : Int) + (m : Int) - (i : Int))]).run P w =
      .ok (.slice (some ⟨w.heap.size, 0, none⟩) (n + m) (grownCap w (n + m) c e)) (w.drew.alloc (.cells ((us.take (i * k)).toArray ++ Builtin.zeroCells z.cells (n + m - i) ++ Builtin.zeroCells z.cells (grownCap w (n + m) c e - (n + m))) e)) := fun ty => by
    have hb0 : (n + m - i) * i0.bytes ≤ (n + m) * i0.bytes := Nat.mul_le_mul_right _ (by omega)
    have h := Lib.run_append_grow_zeros w (ρ.t 24) (ρ.t 3) ty e i0 z .i64 .i64 t24 t3 T.hi T.hz (some ⟨b, 0, none⟩) i c (us.take (i * k)) hold (n + m - i) (by omega) (by omega) (by omega) (by omega) (by omega) (by rw [hik]; exact growslice_fits hroom hbig)
    rw [hik] at h
    rw [hkk]
    exact h
  obtain ⟨G, hG⟩ : ∃ G, G = grownCap w (n + m) c e := ⟨_, rfl⟩
  obtain ⟨ROW, hROW⟩ : ∃ ROW : Array Value, ROW = (us.take (i * k)).toArray ++ Builtin.zeroCells z.cells (n + m - i) ++ Builtin.zeroCells z.cells (G - (n + m)) := ⟨_, rfl⟩
  rw [← hG] at hrz ⊢
  rw [← hROW] at hrz ⊢
  have e1 : (i + m) * k = i * k + m * k := Nat.add_mul _ _ _
  have e2 : (n - i) * k = n * k - i * k := Nat.sub_mul _ _ _
  have e3 : (n + m) * k = n * k + m * k := Nat.add_mul _ _ _
  have e4 : (n + m - i) * k = (n + m) * k - i * k := Nat.sub_mul _ _ _
  have hRl : (n + m) * k ≤ ROW.size := by
    rw [hROW]
    have z1 : (Builtin.zeroCells z.cells (n + m - i)).size = (n + m - i) * k := by rw [← hzs]; exact zeroCells_length _ _
    simp only [Array.size_append, List.size_toArray, List.length_take, z1]
    omega
  obtain ⟨W1, hW1⟩ : ∃ W1, W1 = w.drew.alloc (.cells ROW e) := ⟨_, rfl⟩
  rw [← hW1] at hrz
  have hR1 : rawAt W1 w.heap.size e ROW.toList := by
    rw [hW1]; unfold rawAt; simpa using heap_alloc_new w.drew (.cells ROW e)
  have hOb : ∀ x v, w.cell? x = some v → W1.cell? x = some v := fun x v h => by rw [hW1]; exact Lib.cell?_alloc_some _ h
  have hmin1 : Nat.min (n - i) (n + m - (i + m)) = n - i := by simp only [Nat.min_def]; split <;> omega
  have hmin2 : Nat.min m (n + m - i) = m := by simp only [Nat.min_def]; split <;> omega
  have hcpA : ∀ (W : World), (∀ x, W.cell? x = W1.cell? x) → (∀ x, W.frozen? x = W1.frozen? x) → ∀ ty dc, (Builtin.copy_ #[(ρ.t 24), (ρ.t 24)] ty #[.slice (some ⟨w.heap.size, i * k, none⟩) (n + m - i) dc, .slice (some va) m vc]).run P W = .ok (goInt m) (W.setCells w.heap.size (i * k) vs) := fun W hWc hWf ty dc => by
    have h := run_copy_k (P := P) W (ρ.t 24) (ρ.t 24) ty e w.heap.size (i * k) (n + m - i) dc va m vc vs i0 t24 T.hi (by rw [hvl, hmin2, hk])
      (fun j v hj => by rw [hWc]; exact hOb _ v (hvs j v hj))
      (fun j hj => by rw [hvl] at hj; rw [hWc, hR1.cell, List.getElem?_eq_getElem (by rw [Array.length_toList]; omega)]; rfl) (fun j hj => by rw [hWf]; exact hR1.thawed _) h1v
    rw [hmin2] at h
    exact h
  have hGn : n + m ≤ G := by rw [hG]; exact grownCap_ge w _ _ _
  have hG63 : G ≤ 9223372036854775807 := by
    have := grownCap_le_maxLen w (n + m) c e h63
    rw [← hG] at this
    exact Nat.le_trans this (by decide)
  have hGi : ¬ (G = i) := by omega
  have hGim : ¬ (G = i + m) := by omega
  have hci : ¬ (c = i) := by omega
  have hdl : (us.drop (i * k)).length = (n - i) * k := by rw [List.length_drop, husl, Nat.sub_mul]
  obtain ⟨cur2, hR2, hc2⟩ : ∃ cur2, rawAt (W1.setCells w.heap.size (i * k) vs) w.heap.size e cur2 ∧ cur2.length = ROW.size := by
    refine ⟨_, rawAt.set _ _ hR1 (by rw [hvl, Array.length_toList]; omega), ?_⟩
    simp only [List.length_append, List.length_take, List.length_drop, Array.length_toList, hvl]
    omega
  have hcpB : ∀ (W : World), (∀ x, W.cell? x = (W1.setCells w.heap.size (i * k) vs).cell? x) → (∀ x, W.frozen? x = (W1.setCells w.heap.size (i * k) vs).frozen? x) → ∀ ty dc sc, (Builtin.copy_ #[(ρ.t 24), (ρ.t 24)] ty #[.slice (some ⟨w.heap.size, (i + m) * k, none⟩) (n + m - (i + m)) dc, .slice (some ⟨b, i * k, none⟩) (n - i) sc]).run P W = .ok (goInt ((n - i : Nat) : Int)) (W.setCells w.heap.size ((i + m) * k) (us.drop (i * k))) := fun W hWc hWf ty dc sc => by
    have h := run_copy_k (P := P) W (ρ.t 24) (ρ.t 24) ty e w.heap.size ((i + m) * k) (n + m - (i + m)) dc ⟨b, i * k, none⟩ (n - i) sc (us.drop (i * k)) i0 t24 T.hi (by rw [hdl, hmin1, hk])
      (fun j v hj => by
        rw [Addr.add_lit, hWc, World.cell?_setCells_out _ _ _ _ _ (fun h _ => absurd h (show b ≠ w.heap.size by omega))]
        exact hOb _ v (hcell (i * k + j) v (by rwa [List.getElem?_drop] at hj)))
      (fun j hj => by rw [hdl] at hj; rw [hWc, hR2.cell, List.getElem?_eq_getElem (by omega)]; rfl)
      (fun j hj => by rw [hWf]; exact hR2.thawed _) (fun v hv => hone v (List.mem_of_mem_drop hv))
    rw [hmin1] at h
    exact h
  clear hR1 hR2 hc2
  subst hW1
  have hE1 : ∀ x, ((w.alloc (.cells ROW e)).drew).cell? x = (w.drew.alloc (.cells ROW e)).cell? x := fun x => rfl
  have hE2 : ∀ x, ((w.alloc (.cells ROW e)).drew).frozen? x = (w.drew.alloc (.cells ROW e)).frozen? x := fun x => rfl
  have hF1 : ∀ x, (((w.alloc (.cells ROW e)).drew.setCells w.heap.size (i * k) vs).drew).cell? x = ((w.drew.alloc (.cells ROW e)).setCells w.heap.size (i * k) vs).cell? x := fun x => rfl
  have hF2 : ∀ x, (((w.alloc (.cells ROW e)).drew.setCells w.heap.size (i * k) vs).drew).frozen? x = ((w.drew.alloc (.cells ROW e)).setCells w.heap.size (i * k) vs).frozen? x := fun x => rfl
  have hw1 : IntKind.i64.wrap ((i : Int) + (m : Int)) = (i : Int) + (m : Int) := by rw [IntKind.wrap_i64]; omega
  have hb1 : (0 : Int) ≤ (i : Int) + (m : Int) := by omega
  have hin : i ≤ n := by omega
  have htn : ((i : Int) + (m : Int)).toNat = i + m := by omega
  have hb3 : (i : Int) ≤ (n : Int) := by omega
  clear hcell hr hone hvs h1v hvl hcur htk husl hdl hk e1 e2 e3 e4 hmin1 hmin2 hnk hikn T hkk hik hold hROW hG hRl hOb hcur0 hbw hvb hzs
  obtain ⟨_, _, FG⟩ := FB
  go_enter FG, Body2.n22_ntmps ρ
  go_wp2_with (first
    | (at_builtin; refine Lib.wpList_append_run _ rfl _ _ _ _ rfl _ _ rfl rfl _ _ (hrz _) ?_)
    | (at_builtin; refine wpList_copy_runI _ rfl _ _ (ρ.t 24) (ρ.t 24) rfl _ _ rfl rfl (hcpA _ hE1 hE2 _ _) ?_)
    | (at_builtin; refine wpList_copy_runI _ rfl _ _ (ρ.t 24) (ρ.t 24) rfl _ _ rfl rfl (hcpB _ (fun _ => rfl) (fun _ => rfl) _ _ _) ?_))
  go_region_law_o (refine step_copy_runI rfl _ _ (ρ.t 24) (ρ.t 24) rfl (.slice (some ⟨w.heap.size, (i + m) * k, none⟩) (n + m - (i + m)) (G - (i + m))) (.slice (some ⟨b, i * k, none⟩) (n - i) (c - i)) (by simp [Act.eval, Act.put]) (by simp [Act.eval, Act.put]) (hcpB _ hF1 hF2 (ρ.t 3) (G - (i + m)) (c - i)) ?_)
  go_wp2
  go_ret
  exact ⟨rfl, rfl⟩
end
end Go.Ac
