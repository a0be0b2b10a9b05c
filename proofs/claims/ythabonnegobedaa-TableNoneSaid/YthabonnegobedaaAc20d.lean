/- Own work: how calls of the model run over plain data. -/
import Derived.Test.YthabonnegobedaaAc20c
import Derived.Test.YthabonnegobedaaAc21
set_option linter.unusedVariables false
set_option linter.unusedSimpArgs false
namespace Go.Ac
theorem isCells_loop (r : Loop) : (Obj.loop r).isCells = false := rfl
theorem ayield {P : Program} {l : Nat} {r : Loop} {E : List A} {B B' F F' : Bx} {xs : List A} {e : Ex} (M : St) (E1 : List A)
    (hps : xs.length = r.params.size) (hxs : bares xs = true) (hB : lowB B = true) (hB' : lowB B' = true) (hcl : closB B' = true) (hn : names B' = names B)
    (hF : Far F) (hF' : Far F') (hFm : Nmd F) (hFm' : Nmd F') (hFc' : Clsd F') (hFn : names F' = names F)
    (hvs : ∃ k, (k, Bk.vals E r.tmps.toList) ∈ B)
    (h1 : AC P (some l) r.assign ⟨setPs E (r.params.toList.zip xs), B, F⟩ fun e s => e = .normal ∧ s = M)
    (h2 : AC P (some l) r.body M fun e1 s1 => e1 = e ∧ s1 = ⟨E1, B', F'⟩) :
    AYield P l xs (frameOf l (recOf r none) (B ++ F)) (.d (D.b (isN e))) (frameOf l (recOf r (jumpOf e)) (B' ++ F')) := by
  intro h w val vs hI hargs
  have hnn : names (B' ++ F') = names (B ++ F) := by rw [names_append, names_append, hn, hFn]
  have hNm := nmd_app (lowB_nmd hB) hFm
  have hNm' := nmd_app (lowB_nmd hB') hFm'
  have hcl' : ∀ p ∈ B' ++ F', ∀ m, p.2.has m = true → m ∈ names (B' ++ F') := fun p hp m hm => by
    rw [names_append]
    rcases List.mem_append.1 hp with h | h
    · exact List.mem_append_left _ (closB_ok hcl h m hm)
    · exact List.mem_append_right _ (hFc' p h m hm)
  obtain ⟨hvrn, hrec, _⟩ : val rn = .pointer (some ⟨l, 0, none⟩) ∧ w.heap[l]? = some (.loop (recOf r none)) ∧ _ := hI.rep (rn, .obj l _) (.head _)
  have hlw : l < w.heap.size := (Array.getElem?_eq_some_iff.1 hrec).1
  let vr : Val := fun n => if n = bn then .tuple #[] else val (sh n)
  have hvr : ∀ n, n ≠ bn → vr n = val (sh n) := fun n hn => if_neg hn
  have hblkB : blks vr (B ++ F) = blks (fun n => val (sh n)) (B ++ F) := blks_congr fun n hn => by
    obtain ⟨p, hp, rfl⟩ := List.mem_map.1 hn
    exact hvr _ (ne_bn hB hF hp).1
  have hbks := hI.bks
  rw [blks_frame hvrn, ← hblkB] at hbks
  obtain ⟨hlB, hbB⟩ := List.nodup_cons.1 hbks
  have hIB : Inv h w vr (B ++ F) := by
    refine ⟨fun p hp => ?_, ?_, hbB⟩
    · obtain ⟨c1, c2⟩ := ne_bn hB hF hp
      obtain ⟨k, hk⟩ := hNm p hp
      exact RB.congr (hvr _ c1) (fun m hm => hvr m (c2 m hm)) ((RB_mapS p.1 hk).1 (hI.rep (mapP sh p) (.tail _ (List.mem_map.2 ⟨p, hp, rfl⟩))))
    · have := hI.nms
      rw [names_frame] at this
      exact nodup_of_map _ (List.nodup_cons.1 this).2
  obtain ⟨k, hk⟩ := hvs
  have hE : RAs h w vr E r.tmps.toList := hIB.rep _ (List.mem_append_left _ hk)
  have hargs' : RAs h w vr xs vs := RAs.bare _ _ hxs hargs
  refine ⟨_, _, _, _, run_yield hrec (by have := hargs.length; simp only [List.size_toArray]; exact this.trans hps), ?_⟩
  refine roundIn_of_wpIn trivial ?_
  have H0 : Holds ⟨setPs E (r.params.toList.zip xs), B, F⟩ h w vr { tmps := ((recOf r none).params.zip ⟨vs⟩).foldl (fun tmps (t, a) => tmps.setIfInBounds t a) (recOf r none).tmps, defers := [] } := by
    refine ⟨?_, hIB, hF, DefsOk.nil (by have : vr bn = .tuple #[] := if_pos rfl; simp [bound, this])⟩
    have := setPs_ok r.params.toList xs vs E r.tmps hargs' hE
    have e : ((recOf r none).params.zip ⟨vs⟩).foldl (fun tmps (t, a) => tmps.setIfInBounds t a) (recOf r none).tmps = (r.params.toList.zip vs).foldl (fun t p => t.setIfInBounds p.1 p.2) r.tmps := by
      rw [← Array.foldl_toList, Array.toList_zip]
      rfl
    rw [e]
    exact this
  refine h1 h w vr _ H0 _ ?_
  rintro e1 s1 hh1 w1 v1 a1 ⟨rfl, rfl⟩ H1 n1
  have n1k : Keep (blks vr (B ++ F)) h w hh1 w1 := n1.keep
  have hl1 : w1.heap[l]? = some (.loop (recOf r none)) := (n1k.far l hlw hlB).1.trans hrec
  have hlM : l ∉ blks v1 s1.all := fun hm => by
    rcases n1.new l hm with h3 | h3
    · exact hlB h3
    · omega
  refine ⟨_, run_beginRound hl1 rfl, ?_⟩
  have HM := H1.turn (o' := .loop { recOf r none with state := .busy }) hl1 rfl rfl hlM
  refine h2 _ _ _ _ HM _ ?_
  rintro e2 s2 hh2 w2 v2 a2 ⟨rfl, rfl⟩ H2 n2
  have hl1s : l < w1.heap.size := (Array.getElem?_eq_some_iff.1 hl1).1
  have hl2 : w2.heap[l]? = some (.loop { recOf r none with state := .busy }) := (n2.keep.far l (by simpa [World.putObj] using hl1s) hlM).1.trans (World.putObj_heap_same hl1s)
  have hlB' : l ∉ blks v2 (B' ++ F') := fun hm => by
    have : l ∈ blks v2 (⟨E1, B', F'⟩ : St).all := hm
    rcases n2.new l this with h3 | h3
    · exact hlM h3
    · simp [World.putObj] at h3; omega
  have H3 := H2.turn (o' := .loop (recOf r (jumpOf e2))) hl2 rfl rfl hlB'
  have hend : ∀ jump, jump = jumpOf e2 → ∃ v w', (Instr.endRound l jump).run P w2 = .ok v w' ∧ ∃ h' val' u, Ending.returned v = .returned u ∧ Inv h' w' val' (frameOf l (recOf r (jumpOf e2)) (B' ++ F')) ∧ RA h' w' val' (.d (D.b (isN e2))) u ∧
      Keep (blks val (frameOf l (recOf r none) (B ++ F))) h w h' w' ∧ (∀ n, n ∉ names (frameOf l (recOf r (jumpOf e2)) (B' ++ F')) → val' n = val n) ∧ ∀ b ∈ blks val' (frameOf l (recOf r (jumpOf e2)) (B' ++ F')), b ∈ blks val (frameOf l (recOf r none) (B ++ F)) ∨ w.heap.size ≤ b := by
    rintro jump rfl
    refine ⟨_, _, run_endRound (jumpOf e2) hl2, hh2, fun n => if n ∈ (names (B' ++ F')).map sh then v2 (shi n) else val n, _, rfl, ?_⟩
    have hv3 : ∀ n ∈ names (B' ++ F'), (fun n => if n ∈ (names (B' ++ F')).map sh then v2 (shi n) else val n) (sh n) = v2 n := fun n hn => by
      have hm2 : sh n ∈ (names (B' ++ F')).map sh := List.mem_map.2 ⟨n, hn, rfl⟩
      simp only [if_pos hm2, shi_sh]
    have hrn : (fun n => if n ∈ (names (B' ++ F')).map sh then v2 (shi n) else val n) rn = val rn := if_neg fun hin => by
      obtain ⟨n, hn, e⟩ := List.mem_map.1 hin
      exact (sh_ge n).2.2 e
    generalize hv : (fun n => if n ∈ (names (B' ++ F')).map sh then v2 (shi n) else val n) = val' at hv3 hrn
    have hbl : blks (fun n => val' (sh n)) (B' ++ F') = blks v2 (B' ++ F') := blks_congr fun n hn => hv3 n hn
    have hblf : blks val' (frameOf l (recOf r (jumpOf e2)) (B' ++ F')) = l :: blks v2 (B' ++ F') := by rw [blks_frame (hrn.trans hvrn), hbl]
    have hputw : ∀ o, (w2.putObj l o).heap[l]? = some o := fun o => World.putObj_heap_same (Array.getElem?_eq_some_iff.1 hl2).1
    refine ⟨⟨fun p hp => ?_, ?_, ?_⟩, ?_, ?_, ?_, ?_⟩
    · rcases List.mem_cons.1 hp with rfl | hp
      · exact ⟨hrn.trans hvrn, hputw _, rfl⟩
      · obtain ⟨q, hq, rfl⟩ := List.mem_map.1 hp
        have hI3 : Inv hh2 (w2.putObj l (.loop (recOf r (jumpOf e2)))) v2 (B' ++ F') := H3.inv
        obtain ⟨k, hk⟩ := hNm' q hq
        exact (RB_mapS q.1 hk).2 (RB.congr (hv3 _ (List.mem_map.2 ⟨q, hq, rfl⟩)) (fun m hm => hv3 m (hcl' q hq m hm)) (hI3.rep q hq))
    · have := hI.nms
      rw [names_frame] at this ⊢
      rw [hnn]; exact this
    · rw [hblf]
      exact List.nodup_cons.2 ⟨hlB', H3.inv.bks⟩
    · simp only [RA, RD, D.b]
      refine ⟨?_, rfl⟩
      cases e2 <;> rfl
    · have k3 : Keep [l] hh1 w1 hh1 (w1.putObj l (.loop { recOf r none with state := .busy })) := keep_putObj hl1 rfl (by simp)
      have k4 := n2.keep
      have k5 : Keep [l] hh2 w2 hh2 (w2.putObj l (.loop (recOf r (jumpOf e2)))) := keep_putObj hl2 rfl (by simp)
      rw [blks_frame hvrn, ← hblkB]
      have hl : ∀ x, x ∈ [l] → x ∈ l :: blks vr (B ++ F) := fun x hx => by simp at hx; simp [hx]
      have k6 : Keep (l :: blks vr (B ++ F)) h w hh1 (w1.putObj l (.loop { recOf r none with state := .busy })) := (n1k.mono' fun x hx => .inl (List.mem_cons_of_mem _ hx)).trans k3 fun x hx => .inl (hl x hx)
      have k7 := k6.trans k4 fun x hx => by
        rcases n1.new x hx with h3 | h3
        · exact .inl (List.mem_cons_of_mem _ h3)
        · exact .inr h3
      exact k7.trans k5 fun x hx => .inl (hl x hx)
    · intro n hnn
      rw [← hv]
      refine if_neg fun hin => hnn ?_
      rw [names_frame]
      exact List.mem_cons_of_mem _ hin
    · intro b hb
      rw [hblf] at hb
      rw [blks_frame hvrn, ← hblkB]
      rcases List.mem_cons.1 hb with rfl | hb
      · exact .inl (List.mem_cons_self)
      · have h4 : b ∈ blks v2 (⟨E1, B', F'⟩ : St).all := hb
        rcases n2.new b h4 with h3 | h3
        · rcases n1.new b h3 with h5 | h5
          · exact .inl (List.mem_cons_of_mem _ h5)
          · exact .inr h5
        · have := n1k.size
          simp [World.putObj] at h3
          exact .inr (by omega)
  cases e2 with
  | normal => exact hend none rfl
  | exit id => exact hend (some (.exit id)) rfl
  | ret => exact hend (some .ret) rfl
end Go.Ac
