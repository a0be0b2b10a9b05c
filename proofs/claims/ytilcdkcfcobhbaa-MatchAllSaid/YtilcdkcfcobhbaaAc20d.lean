/-
  Part of a proof: how calls of the model run over plain data (own work; no conditions).
-/
import Derived.Test.YtilcdkcfcobhbaaAc20c
import Derived.Test.YtilcdkcfcobhbaaAc21
set_option linter.unusedVariables false
set_option linter.unusedSimpArgs false
namespace Go.Ac
theorem sh_inj {n m : Nat} (hn : n < up) (hm : m < up) (h : sh n = sh m) : n = m := by
  rw [sh_lt hn, sh_lt hm] at h
  omega
theorem isCells_loop (r : Loop) : (Obj.loop r).isCells = false := rfl
/-- **A round, as the loop's iterator sees it**: its assignments and its body, from boxes to boxes. -/
theorem ayield {P : Program} {l : Nat} {r : Loop} {E : List A} {B B' : Bx} {xs : List A} {e : Ex} (M : St) (E1 : List A)
    (hps : xs.length = r.params.size) (hxs : bares xs = true) (hB : lowB B = true) (hB' : lowB B' = true) (hcl : closB B' = true) (hn : names B' = names B)
    (hvs : ∃ k, (k, Bk.vals E r.tmps.toList) ∈ B)
    (h1 : AC P (some l) r.assign ⟨setPs E (r.params.toList.zip xs), B, []⟩ fun e s => e = .normal ∧ s = M)
    (h2 : AC P (some l) r.body M fun e1 s1 => e1 = e ∧ s1 = ⟨E1, B', []⟩) :
    AYield P l xs (frameOf l (recOf r none) B) (.d (D.b (isN e))) (frameOf l (recOf r (jumpOf e)) B') := by
  intro h w val vs hI hargs
  obtain ⟨hvrn, hrec, _⟩ : val rn = .pointer (some ⟨l, 0, none⟩) ∧ w.heap[l]? = some (.loop (recOf r none)) ∧ _ := hI.rep (rn, .obj l _) (.head _)
  have hlw : l < w.heap.size := (Array.getElem?_eq_some_iff.1 hrec).1
  let vr : Val := fun n => if n < up then val (n + up) else .tuple #[]
  have hvr : ∀ n, n < up → vr n = val (sh n) := fun n hn => by simp only [vr, if_pos hn, sh_lt hn]
  have hblkB : blks vr B = blks (fun n => val (sh n)) B := blks_congr fun n hn => by
    obtain ⟨p, hp, rfl⟩ := List.mem_map.1 hn
    exact hvr _ (lowB_ok hB hp).1
  have hbks := hI.bks
  rw [blks_frame hvrn, ← hblkB] at hbks
  obtain ⟨hlB, hbB⟩ := List.nodup_cons.1 hbks
  have hIB : Inv h w vr B := by
    refine ⟨fun p hp => ?_, ?_, hbB⟩
    · obtain ⟨c1, c2⟩ := lowB_ok hB hp
      exact RB.congr (hvr _ c1) (fun m hm => hvr m (c2 m hm)) ((RB_mapN sh_up p.1 p.2).1 (hI.rep (mapP sh p) (.tail _ (List.mem_map.2 ⟨p, hp, rfl⟩))))
    · have := hI.nms
      rw [names_frame] at this
      exact nodup_of_map _ (List.nodup_cons.1 this).2
  obtain ⟨k, hk⟩ := hvs
  have hE : RAs h w vr E r.tmps.toList := hIB.rep _ hk
  have hargs' : RAs h w vr xs vs := RAs.bare _ _ hxs hargs
  refine ⟨_, _, _, _, run_yield hrec (by have := hargs.length; simp only [List.size_toArray]; exact this.trans hps), ?_⟩
  refine roundIn_of_wpIn trivial ?_
  have H0 : Holds ⟨setPs E (r.params.toList.zip xs), B, []⟩ h w vr { tmps := ((recOf r none).params.zip ⟨vs⟩).foldl (fun tmps (t, a) => tmps.setIfInBounds t a) (recOf r none).tmps, defers := [] } := by
    refine ⟨?_, by show Inv h w vr (B ++ []); rw [List.append_nil]; exact hIB, (fun n _ p hp => by cases hp), DefsOk.nil (by have : vr bn = .tuple #[] := if_neg (by decide); simp [bound, this])⟩
    have := setPs_ok r.params.toList xs vs E r.tmps hargs' hE
    have e : ((recOf r none).params.zip ⟨vs⟩).foldl (fun tmps (t, a) => tmps.setIfInBounds t a) (recOf r none).tmps = (r.params.toList.zip vs).foldl (fun t p => t.setIfInBounds p.1 p.2) r.tmps := by
      rw [← Array.foldl_toList, Array.toList_zip]
      rfl
    rw [e]
    exact this
  refine h1 h w vr _ H0 _ ?_
  rintro e1 s1 hh1 w1 v1 a1 ⟨rfl, rfl⟩ H1 n1
  have hall : blks vr (⟨setPs E (r.params.toList.zip xs), B, []⟩ : St).all = blks vr B := by simp [St.all]
  have n1k := n1.keep
  rw [hall] at n1k
  have hl1 : w1.heap[l]? = some (.loop (recOf r none)) := (n1k.far l hlw hlB).1.trans hrec
  have hlM : l ∉ blks v1 s1.all := fun hm => by
    rcases n1.new l hm with h3 | h3
    · rw [hall] at h3; exact hlB h3
    · omega
  refine ⟨_, run_beginRound hl1 rfl, ?_⟩
  have HM := H1.turn (o' := .loop { recOf r none with state := .busy }) hl1 rfl rfl hlM
  refine h2 _ _ _ _ HM _ ?_
  rintro e2 s2 hh2 w2 v2 a2 ⟨rfl, rfl⟩ H2 n2
  have hl1s : l < w1.heap.size := (Array.getElem?_eq_some_iff.1 hl1).1
  have hl2 : w2.heap[l]? = some (.loop { recOf r none with state := .busy }) := (n2.keep.far l (by simpa [World.putObj] using hl1s) hlM).1.trans (World.putObj_heap_same hl1s)
  have hlB' : l ∉ blks v2 B' := fun hm => by
    have : l ∈ blks v2 (⟨E1, B', []⟩ : St).all := by simpa [St.all] using hm
    rcases n2.new l this with h3 | h3
    · exact hlM h3
    · simp [World.putObj] at h3; omega
  have H3 := H2.turn (o' := .loop (recOf r (jumpOf e2))) hl2 rfl rfl (by simpa [St.all] using hlB')
  have hend : ∀ jump, jump = jumpOf e2 → ∃ v w', (Instr.endRound l jump).run P w2 = .ok v w' ∧ ∃ h' val' u, Ending.returned v = .returned u ∧ Inv h' w' val' (frameOf l (recOf r (jumpOf e2)) B') ∧ RA h' w' val' (.d (D.b (isN e2))) u ∧
      Keep (blks val (frameOf l (recOf r none) B)) h w h' w' ∧ (∀ n, n ∉ names (frameOf l (recOf r (jumpOf e2)) B') → val' n = val n) ∧ ∀ b ∈ blks val' (frameOf l (recOf r (jumpOf e2)) B'), b ∈ blks val (frameOf l (recOf r none) B) ∨ w.heap.size ≤ b := by
    rintro jump rfl
    refine ⟨_, _, run_endRound (jumpOf e2) hl2, hh2, fun n => if n ∈ (names B').map sh then v2 (n - up) else val n, _, rfl, ?_⟩
    have hv3 : ∀ n ∈ names B', (fun n => if n ∈ (names B').map sh then v2 (n - up) else val n) (sh n) = v2 n := fun n hn => by
      obtain ⟨p, hp, e⟩ := List.mem_map.1 hn
      have hlow := (lowB_ok hB' hp).1
      rw [e] at hlow
      have hm2 : sh n ∈ (names B').map sh := List.mem_map.2 ⟨n, hn, rfl⟩
      rw [sh_lt hlow] at hm2
      simp only [sh_lt hlow, if_pos hm2, Nat.add_sub_cancel]
    have hrn : (fun n => if n ∈ (names B').map sh then v2 (n - up) else val n) rn = val rn := if_neg fun hin => by
      obtain ⟨n, hn, e⟩ := List.mem_map.1 hin
      obtain ⟨p, hp, e2⟩ := List.mem_map.1 hn
      have hlow := (lowB_ok hB' hp).1
      rw [e2] at hlow
      rw [sh_lt hlow] at e
      simp only [rn, up] at e hlow
      omega
    generalize hv : (fun n => if n ∈ (names B').map sh then v2 (n - up) else val n) = val' at hv3 hrn
    have hbl : blks (fun n => val' (sh n)) B' = blks v2 B' := blks_congr fun n hn => hv3 n hn
    have hblf : blks val' (frameOf l (recOf r (jumpOf e2)) B') = l :: blks v2 B' := by rw [blks_frame (hrn.trans hvrn), hbl]
    have hputw : ∀ o, (w2.putObj l o).heap[l]? = some o := fun o => World.putObj_heap_same (Array.getElem?_eq_some_iff.1 hl2).1
    refine ⟨⟨fun p hp => ?_, ?_, ?_⟩, ?_, ?_, ?_, ?_⟩
    · rcases List.mem_cons.1 hp with rfl | hp
      · exact ⟨hrn.trans hvrn, hputw _, rfl⟩
      · obtain ⟨q, hq, rfl⟩ := List.mem_map.1 hp
        have hI3 : Inv hh2 (w2.putObj l (.loop (recOf r (jumpOf e2)))) v2 B' := by have := H3.inv; simpa [St.all] using this
        exact (RB_mapN sh_up q.1 q.2).2 (RB.congr (hv3 _ (List.mem_map.2 ⟨q, hq, rfl⟩)) (fun m hm => hv3 m (closB_ok hcl hq m hm)) (hI3.rep q hq))
    · have := hI.nms
      rw [names_frame] at this ⊢
      rw [hn]; exact this
    · rw [hblf]
      refine List.nodup_cons.2 ⟨hlB', ?_⟩
      have := H3.inv.bks
      simpa [St.all] using this
    · simp only [RA, RD, D.b]
      refine ⟨?_, rfl⟩
      cases e2 <;> rfl
    · have k2 : Keep (blks vr B ++ [l]) h w hh1 w1 := n1k.mono' fun x hx => .inl (List.mem_append_left _ hx)
      have k3 : Keep [l] hh1 w1 hh1 (w1.putObj l (.loop { recOf r none with state := .busy })) := keep_putObj hl1 rfl (by simp)
      have k4 := n2.keep
      have k5 : Keep [l] hh2 w2 hh2 (w2.putObj l (.loop (recOf r (jumpOf e2)))) := keep_putObj hl2 rfl (by simp)
      rw [blks_frame hvrn, ← hblkB]
      have hl : ∀ x, x ∈ [l] → x ∈ l :: blks vr B := fun x hx => by simp at hx; simp [hx]
      have k6 : Keep (l :: blks vr B) h w hh1 (w1.putObj l (.loop { recOf r none with state := .busy })) := (n1k.mono' fun x hx => .inl (List.mem_cons_of_mem _ hx)).trans k3 fun x hx => .inl (hl x hx)
      have k7 := k6.trans k4 fun x hx => by
        rcases n1.new x hx with h3 | h3
        · rw [hall] at h3; exact .inl (List.mem_cons_of_mem _ h3)
        · exact .inr h3
      exact k7.trans k5 fun x hx => .inl (hl x hx)
    · intro n hnn
      rw [← hv]
      refine if_neg fun hin => hnn ?_
      rw [names_frame]
      exact List.mem_cons_of_mem _ hin
    · intro b hb
      rw [hblf] at hb
      rw [blks_frame hvrn, ← hblkB]
      rcases List.mem_cons.1 hb with rfl | hb
      · exact .inl (List.mem_cons_self)
      · have h4 : b ∈ blks v2 (⟨E1, B', []⟩ : St).all := by simpa [St.all] using hb
        rcases n2.new b h4 with h3 | h3
        · rcases n1.new b h3 with h5 | h5
          · rw [hall] at h5; exact .inl (List.mem_cons_of_mem _ h5)
          · exact .inr h5
        · have := n1k.size
          simp [World.putObj] at h3
          exact .inr (by omega)
  cases e2 with
  | normal => exact hend none rfl
  | exit id => exact hend (some (.exit id)) rfl
  | ret => exact hend (some .ret) rfl
end Go.Ac
