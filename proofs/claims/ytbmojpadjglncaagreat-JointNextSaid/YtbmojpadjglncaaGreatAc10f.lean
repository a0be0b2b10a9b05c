/- Own work: how calls of the model run over plain data. -/
import Derived.Test.YtbmojpadjglncaaGreatAc10e
set_option linter.unusedVariables false
set_option linter.unusedSimpArgs false
namespace Go.Ac
theorem run_cut (P : Program) (w : World) (t e : TypeId) (hu : P.underlying t = some (.slice e)) (hI : (P.info? e).isSome = true) (g n cap : Nat) (k : IntKind) (i : Int) (h0 : 0 ≤ i) (h1 : i ≤ cap) :
    (Instr.sliceAt t (.slice (some ⟨g, 0, none⟩) n cap) none (some (.int k i)) none).run P w = .ok (.slice (some ⟨g, 0, none⟩) i.toNat cap) w := by
  have hP : P.elem t = e := by simp [Program.elem, hu]
  have hq : P.underlying t = some (.slice (P.elem t)) := by rw [hP]; exact hu
  rw [run_sliceAt_slice w t _ _ _ _ hq, run_slice_h w t _ _ _ hq k i h0 h1, hP, run_size' hI]
  simp [sliced, Addr.add]
def noDefer' : Op → Bool
  | .defer _ => false
  | _ => true
def arwCut (P : Program) (o : Oper) (s : St) (wt : W) : Option (Cn × A × List Ed) :=
  match o.dst, o.op with
  | some d, .slice t x none (some y) none => match rwAt s (s.ev x), s.ev y, P.underlying t with
    | some (n, e, k, xs), .d (.v (.int _ i)), some (.slice e') =>
      if e' == e && (P.info? e).isSome && decide (d < up) && !hasAny d s.E && !bxHas d s.B then
        some (.both (.le 0 i) (.both (.le i xs.length) (.app (xs.take i.toNat) [] (outL (fun _ => xs.take i.toNat) wt))), .row d, [.chg n .dead, .add d (.rw e k (outL (fun _ => xs.take i.toNat) wt))]) else none
    | _, _, _ => none
  | _, _ => none
theorem arwCut_ok {P : Program} {o : Oper} {s : St} {wt : W} {Φ : Cn} {r : A} {es : List Ed} (he : arwCut P o s wt = some (Φ, r, es)) : OpOk P o s Φ.ok r (s.edit es) := by
  intro hΦ h w val a H K Q hK
  unfold arwCut at he
  split at he
  · rename_i d t x y hd ho
    split at he
    · rename_i n e k xs ki i e' hb hi hu
      split at he
      · rename_i hc
        simp only [Bool.and_eq_true, beq_iff_eq, decide_eq_true_eq, Bool.not_eq_true'] at hc
        obtain ⟨⟨⟨⟨rfl, hI⟩, c1⟩, c2⟩, c3⟩ := hc
        simp only [Option.some.injEq, Prod.mk.injEq] at he
        obtain ⟨rfl, rfl, rfl⟩ := he
        simp only [Cn.ok] at hΦ
        obtain ⟨p1, p2, p3⟩ := hΦ
        rw [← p3, List.append_nil] at hK
        have hΦ : 0 ≤ i ∧ i ≤ (xs.length : Int) := ⟨p1, p2⟩
        obtain ⟨hl, hu1, us, hown, hrow, hh⟩ := rwAt_ok H (H.ev x) hb
        have hi' := H.ev y
        rw [hi] at hi'
        simp only [RA, RD] at hi'
        obtain ⟨hdrop, hsub, hnot⟩ := H.dead' hl rfl
        have hmem : (n, Bk.rw e' k xs) ∈ s.all := List.mem_append_left _ (lk_mem hl)
        have hlen := RRow.length hrow
        have hlt : (xs.take i.toNat).length = i.toNat := by rw [List.length_take]; omega
        -- the value behind
        obtain ⟨v', hrun, hown', hsame⟩ : ∃ v', (Instr.sliceAt t (val n) none (some (.int ki i)) none).run P w = .ok v' w ∧ w.ownsRow 0 e' k v' (xs.take i.toNat).length (us.take (i.toNat * k)) ∧ v'.ownBlock = (val n).ownBlock := by
          rcases hown.2 with ⟨hv, hz⟩ | ⟨g, cap, cur, hv, hg0, hg, hn, hm, hs, ht⟩
          · have hi0 : i = 0 := by omega
            subst hi0
            refine ⟨.slice none 0 0, ?_, ?_, by rw [hv]⟩
            · have hP : P.elem t = e' := by simp [Program.elem, hu]
              have hq : P.underlying t = some (.slice (P.elem t)) := by rw [hP]; exact hu
              rw [hv, run_sliceAt_slice w t _ _ _ _ hq, run_slice_h w t _ _ _ hq ki 0 (by omega) (by omega), hP, run_size' hI]
              simp [sliced]
            · have := World.ownsRow_nil w 0 e' k
              simpa using this
          · refine ⟨.slice (some ⟨g, 0, none⟩) i.toNat cap, ?_, ⟨?_, .inr ⟨g, cap, cur, by rw [hlt], hg0, hg, by rw [hlt]; omega, hm, hs, ?_⟩⟩, by rw [hv]; rfl⟩
            · rw [hv]
              exact run_cut P w t e' hu hI g _ cap ki i hΦ.1 (by omega)
            · rw [hlt, List.length_take, hlen]
              have := Nat.mul_le_mul_right k (show i.toNat ≤ xs.length by omega)
              omega
            · rw [hlt, ← ht, List.take_take]
              have := Nat.mul_le_mul_right k (show i.toNat ≤ xs.length by omega)
              rw [Nat.min_eq_left this]
        have hvb : vblk v' = v'.ownBlock := vblk_eq_own hown'
        have hvd : setV val d v' d = v' := by simp [setV]
        obtain ⟨k2, k3⟩ := hdrop.add c1 c2 (bxHas_updB c3 rfl) (Keep.refl [] h w) (fun b _ hm => by cases hm) (fun b hb => by cases hb) v' (.rw e' k (xs.take i.toNat)) (fun b hb => hnot b (by
            rw [hvb, hsame] at hb; exact vblk_own hb)) rfl
          ⟨us.take (i.toNat * k), by rw [hvd]; exact hown', RRow.take _ hrow, fun g hg => hh g (by rw [hvd, hsame] at hg; exact hg)⟩
        refine wp_of_run (u := v') (w' := w) ?_ (hK h w _ v' (by simp only [RA]; exact ⟨by simp [setV], .inl (ownsRow_form hown')⟩) k2.ins (Nx.ins ⟨Keep.refl _ _ _, fun m hm => by have : m ≠ d := Nat.ne_of_gt (Nat.lt_of_lt_of_le c1 (up_le hm)); simp [setV, this], fun b hb => ?_⟩))
        · simp [execOp, ho, hu1, hi'.1, hrun]
        · replace hb : b ∈ blks (setV val d v') ((d, Bk.rw e' k (xs.take i.toNat)) :: ({ s with B := updB s.B n .dead } : St).all) := hb
          rw [k3] at hb
          rcases List.mem_append.1 hb with hb | hb
          · refine .inl ?_
            simp only [Option.mem_toList] at hb
            rw [hvb, hsame] at hb
            exact Inv.blk_mem hmem (blkOf_of (vblk_own hb) rfl)
          · exact .inl (hsub b hb)
      · cases he
    · cases he
  · cases he
def aclear (P : Program) (s : St) (o o2 : Oper) (wt : W) : Option (Cn × List Ed) :=
  match o.dst, o.op, o2.op with
  | some d, .slice t x (some y) none none, .call c => match c.callee, c.args.toList, c.argTypes.toList with
    | .builtin .clear, [.tmp d'], [t'] => match rwAt s (s.ev x), s.ev y, P.underlying t with
      | some (n, e, k, xs), .d (.v (.int _ i)), some (.slice e') => match P.info? e with
        | some inf => match inf.zero with
          | some z => if d' == d && t' == t && e' == e && o.guard.isNone && o2.guard.isNone && z.cells.size == k && inf.size == k && z.cells.toList.all (·.oneCell') && (zeroD z).nc == k && decide (0 < k) && decide (d < s.E.length) then
              some (.both (.le 0 i) (.both (.le i xs.length) (.app (xs.take i.toNat) (List.replicate (xs.length - i.toNat) (zeroD z)) (outL (fun _ => xs.take i.toNat ++ List.replicate (xs.length - i.toNat) (zeroD z)) wt))), [.chg n (.rw e k (outL (fun _ => xs.take i.toNat ++ List.replicate (xs.length - i.toNat) (zeroD z)) wt))]) else none
          | none => none
        | none => none
      | _, _, _ => none
    | _, _, _ => none
  | _, _, _ => none
theorem aclear_ok {P : Program} {o o2 : Oper} {s : St} {wt : W} {Φ : Cn} {es : List Ed} (he : aclear P s o o2 wt = some (Φ, es)) (hΦ : Φ.ok) {h w val} {a : Act} (H : Holds s h w val a) :
    ∃ d u w', o.dst = some d ∧ o.guard = none ∧ o2.guard = none ∧ noDefer' o.op = true ∧ noDefer' o2.op = true ∧ (execOp a.eval o).run P w = .ok (.value u) w ∧ (execOp (a.put (some d) u).eval o2).run P w = .ok (.value (.tuple #[])) w' ∧
      Holds (s.edit es) h w' val a ∧ Nx s h w val (s.edit es) h w' val := by
  unfold aclear at he
  split at he
  · rename_i d t x y c hd ho ho2
    obtain ⟨callee, args, argTypes⟩ := c
    simp only at he
    split at he
    · rename_i d' t' hargs htys
      obtain ⟨args⟩ := args
      obtain ⟨argTypes⟩ := argTypes
      simp only at hargs htys
      subst hargs; subst htys
      split at he
      · rename_i n e k xs ki i e' hb hi hu
        split at he
        · rename_i inf hinf
          split at he
          · rename_i z hz
            split at he
            · rename_i hc
              simp only [Bool.and_eq_true, beq_iff_eq, decide_eq_true_eq, Option.isNone_iff_eq_none] at hc
              obtain ⟨⟨⟨⟨⟨⟨⟨⟨⟨⟨rfl, rfl⟩, rfl⟩, g1⟩, g2⟩, zs⟩, is⟩, z1⟩, zn⟩, hk0⟩, hdl⟩ := hc
              simp only [Option.some.injEq, Prod.mk.injEq] at he
              obtain ⟨rfl, rfl⟩ := he
              simp only [Cn.ok] at hΦ
              obtain ⟨p1, p2, p3⟩ := hΦ
              rw [← p3]
              have hΦ : 0 ≤ i ∧ i ≤ (xs.length : Int) := ⟨p1, p2⟩
              have z1' : ∀ v ∈ z.cells.toList, v.oneCell' = true := fun v hv => List.all_eq_true.1 z1 v hv
              obtain ⟨hl, hu1, us, hown, hrow, hh⟩ := rwAt_ok H (H.ev x) hb
              have hi' := H.ev y
              rw [hi] at hi'
              simp only [RA, RD] at hi'
              have hP : P.elem t' = e' := by simp [Program.elem, hu]
              have hq : P.underlying t' = some (.slice (P.elem t')) := by rw [hP]; exact hu
              have hI : (P.info? e').isSome = true := by rw [hinf]; rfl
              have hcs : P.cellsOf e' = k := by simp [Program.cellsOf, hinf, is]
              have hzv : ∀ w, (zeroValue e').run P w = .ok z w := fun w => by simp [zeroValue, typeInfo, hinf, hz]
              have hlen := RRow.length hrow
              have hput : ∀ u, (a.put (some d') u).eval (.tmp d') = u := fun u => by
                have hsz : a.tmps.size = s.E.length := by have := RAs.length H.e; simpa using this
                simp [Act.put, Act.eval, hsz, hdl]
              have same : (∀ u, (execOp a.eval o).run P w = .ok (.value u) w → (execOp (a.put (some d') u).eval o2).run P w = .ok (.value (.tuple #[])) w) → xs.length - i.toNat = 0 → (∃ u, (execOp a.eval o).run P w = .ok (.value u) w) →
                  ∃ d u w', o.dst = some d ∧ o.guard = none ∧ o2.guard = none ∧ noDefer' o.op = true ∧ noDefer' o2.op = true ∧ (execOp a.eval o).run P w = .ok (.value u) w ∧ (execOp (a.put (some d) u).eval o2).run P w = .ok (.value (.tuple #[])) w' ∧
                    Holds (s.edit [.chg n (.rw e' k (xs.take i.toNat ++ List.replicate (xs.length - i.toNat) (zeroD z)))]) h w' val a ∧ Nx s h w val (s.edit [.chg n (.rw e' k (xs.take i.toNat ++ List.replicate (xs.length - i.toNat) (zeroD z)))]) h w' val := by
                intro h1 h2 h3
                obtain ⟨u, hu⟩ := h3
                have e1 : xs.take i.toNat ++ List.replicate (xs.length - i.toNat) (zeroD z) = xs := by rw [h2, List.replicate_zero, List.append_nil, List.take_of_length_le (by omega)]
                have e2 : s.edit [.chg n (.rw e' k xs)] = s := by
                  have : updB s.B n (.rw e' k xs) = s.B := by
                    unfold updB
                    rw [List.map_congr_left (g := id)]
                    · simp
                    · intro p hp
                      split
                      · rename_i hpn
                        have hp2 : p = (n, Bk.rw e' k xs) := by
                          have := nodup_names (b := p.2) (b' := Bk.rw e' k xs) (n := n) H.inv.nms (List.mem_append_left _ (by rw [← hpn]; exact hp)) (List.mem_append_left _ (lk_mem hl))
                          obtain ⟨p1, p2⟩ := p
                          simp only at hpn this
                          rw [hpn, this]
                        rw [hp2]; rfl
                      · rfl
                  show ({ s with B := updB s.B n (.rw e' k xs) } : St) = s
                  rw [this]
                rw [e1, e2]
                exact ⟨d', u, w, hd, g1, g2, by rw [ho]; rfl, by rw [ho2]; rfl, hu, h1 u hu, H, Nx.refl s h w val rfl⟩
              rcases hown.2 with ⟨hv, hz0⟩ | ⟨g, cap, cur, hv, hg0, hg, hn, hm, hs, ht⟩
              · have hi0 : i = 0 := by omega
                subst hi0
                have hr1 : (execOp a.eval o).run P w = .ok (.value (.slice none 0 0)) w := by
                  simp [execOp, ho, hu1, hi'.1, hv, Sem.run_bind, run_sliceAt_slice w t' _ _ _ _ hq, run_slice_l w t' none 0 0 hq ki 0 (by omega) (by omega), hP, run_size' hI, sliced]
                refine same (fun u hu => ?_) (by omega) ⟨_, hr1⟩
                rw [hr1] at hu
                cases hu
                simp [execOp, ho2, resolve, invoke, builtin, hput, Builtin.clear_, run_underlying hu, *]
              · have hr1 : (execOp a.eval o).run P w = .ok (.value (sliced (some ⟨g, 0, none⟩) i.toNat xs.length cap k)) w := by
                  simp [execOp, ho, hu1, hi'.1, hv, run_sliceAt_slice w t' _ _ _ _ hq, run_slice_l w t' _ _ _ hq ki i hΦ.1 hΦ.2, hP, run_size' hI, hcs]
                by_cases hz0 : xs.length - i.toNat = 0
                · refine same (fun u hu => ?_) hz0 ⟨_, hr1⟩
                  rw [hr1] at hu
                  cases hu
                  by_cases hci : cap = i.toNat <;> simp [execOp, ho2, resolve, invoke, builtin, hput, Builtin.clear_, sliced, hz0, hci, run_underlying ‹P.underlying t' = some (TypeDesc.slice e')›]
                · have hcap : ¬ cap = i.toNat := by omega
                  obtain ⟨m, hmm⟩ : ∃ m, xs.length - i.toNat = m + 1 := ⟨xs.length - i.toNat - 1, by omega⟩
                  have hr2 : (execOp a.eval o).run P w = .ok (.value (.slice (some ⟨g, i.toNat * k, none⟩) (m + 1) (cap - i.toNat))) w := by
                    rw [hr1]; simp [sliced, hcap, Addr.add_lit, hmm]
                  have hle : i.toNat * k ≤ xs.length * k := Nat.mul_le_mul_right k (by omega)
                  have hle2 : xs.length * k ≤ cap * k := Nat.mul_le_mul_right k hn
                  have hmk : i.toNat * k + (m + 1) * k = xs.length * k := by rw [← Nat.add_mul]; congr 1; omega
                  have hzl : (Builtin.zeroCells z.cells (m + 1)).toList.length = (m + 1) * k := by simp [Builtin.zeroCells, zs]
                  have hone : ∀ v ∈ (Builtin.zeroCells z.cells (m + 1)).toList, v.oneCell' = true := fun v hv => by
                    simp only [Builtin.zeroCells, Array.toList_map, List.mem_map] at hv
                    obtain ⟨j, _, rfl⟩ := hv
                    have hlt : j % z.cells.size < z.cells.size := Nat.mod_lt _ (by omega)
                    rw [getElem!_pos z.cells _ hlt]
                    exact z1' _ (by simp)
                  have hst := run_storeCells_at P g (i.toNat * k) e' (Builtin.zeroCells z.cells (m + 1)).toList 0 cur w hg (by rw [hzl]; omega) hone
                  simp only [Nat.add_zero, hzl] at hst
                  have hrow2 : RRow h w k (xs.take i.toNat ++ List.replicate (m + 1) (zeroD z)) (us.take (i.toNat * k) ++ (Builtin.zeroCells z.cells (m + 1)).toList) := by
                    refine RRow.append (RRow.take _ hrow) ?_
                    have := RRow_made (h := h) (w := w) z1' (by omega) (by omega) (m + 1)
                    rw [zs] at this
                    have e : Builtin.zeroCells z.cells (m + 1) = madeCells z.cells ((m + 1) * k) := by rw [← zs]; rfl
                    rw [e]; exact this
                  have hcl : cur.toList.length = cap * k := by simpa using hs
                  have hus : us = cur.toList.take (xs.length * k) := ht.symm
                  have et : (cur.toList.take (i.toNat * k) ++ (Builtin.zeroCells z.cells (m + 1)).toList ++ cur.toList.drop (i.toNat * k + (m + 1) * k)).take (xs.length * k) = us.take (i.toNat * k) ++ (Builtin.zeroCells z.cells (m + 1)).toList := by
                    rw [List.take_append_of_le_length (by simp only [List.length_append, List.length_take, hcl, hzl]; omega), List.take_of_length_le (by simp only [List.length_append, List.length_take, hcl, hzl]; omega), hus, List.take_take, Nat.min_eq_left hle]
                  rw [← et] at hrow2
                  obtain ⟨f1, f2⟩ := rw_set H hl hv (us := cur.toList) (by simpa using hg) hn hm (hh g (by rw [hv]; rfl)) (us' := cur.toList.take (i.toNat * k) ++ (Builtin.zeroCells z.cells (m + 1)).toList ++ cur.toList.drop (i.toNat * k + (m + 1) * k))
                    (by simp only [List.length_append, List.length_take, List.length_drop, hcl, hzl]; omega) (by simp only [List.length_append, List.length_take, List.length_replicate]; omega) hrow2
                  refine ⟨d', _, w.setRow g (cur.toList.take (i.toNat * k) ++ (Builtin.zeroCells z.cells (m + 1)).toList ++ cur.toList.drop (i.toNat * k + (m + 1) * k)).toArray, hd, g1, g2, by rw [ho]; rfl, by rw [ho2]; rfl, hr2, ?_, ?_, ?_⟩
                  · simp [execOp, ho2, resolve, invoke, builtin, hput, Builtin.clear_, run_underlying ‹P.underlying t' = some (TypeDesc.slice e')›, hzv, hst]
                  · rw [hmm]; exact f1
                  · rw [hmm]; exact f2
            · cases he
          · cases he
        · cases he
      · cases he
    · cases he
  · cases he
end Go.Ac
