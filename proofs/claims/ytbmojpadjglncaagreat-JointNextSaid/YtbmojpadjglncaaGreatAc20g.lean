/- Own work: how calls of the model run over plain data. -/
import Derived.Test.YtbmojpadjglncaaGreatAc22
set_option linter.unusedVariables false
set_option linter.unusedSimpArgs false
namespace Go.Ac
theorem redesc_at {s : St} {n : Nat} {b b' : Bk} (hl : lk s.B n = some b) (ho : b'.isOld = b.isOld) {h w val a} (H : Holds s h w val a) (hr : RB h w val n b') : Holds { s with B := updB s.B n b' } h w val a ∧ Nx s h w val { s with B := updB s.B n b' } h w val := by
  have hmem : (n, b) ∈ s.all := List.mem_append_left _ (lk_mem hl)
  have hsame : ∀ b2, (n, b2) ∈ s.B → b2.isOld = b'.isOld := fun b2 hb2 => by
    rw [nodup_names H.inv.nms (List.mem_append_left _ hb2) hmem, ho]
  refine ⟨⟨H.e, ⟨fun p hp => ?_, ?_, ?_⟩, H.far, H.defs⟩, ⟨Keep.refl _ _ _, fun _ _ => rfl, fun b hb => .inl ?_⟩⟩
  · rcases List.mem_append.1 hp with hp | hp
    · rcases updB_mem hp with rfl | ⟨hp, hne⟩
      · exact hr
      · exact H.inv.rep p (List.mem_append_left _ hp)
    · exact H.inv.rep p (List.mem_append_right _ hp)
  · have := H.inv.nms
    simpa only [St.all, names_append, updB_names] using this
  · have := H.inv.bks
    simpa only [St.all, blks_append, updB_blks hsame] using this
  · simpa only [St.all, blks_append, updB_blks hsame] using hb
theorem AC.exact {P : Program} {rd : Option Nat} {c : Code} {s : St} {Ψ : Ex → St → Prop} {n : Nat} {S : List (D × D)} (hl : lk s.B n = some (.mapS S))
    (h : ∀ clk es, (es.map (·.2)).Perm S → (es.map (·.1)).Nodup → (es.map (·.2.1)).Nodup → AC P rd c { s with B := updB s.B n (.map clk es) } Ψ) : AC P rd c s Ψ := by
  intro h' w val a H Q hQ
  obtain ⟨clk, es, hm, hp⟩ := H.inv.rep _ (List.mem_append_left _ (lk_mem hl))
  obtain ⟨H', n'⟩ := redesc_at hl (b' := .map clk es) rfl H hm
  obtain ⟨b, l, _, _, _, _, h5, h6, _⟩ := hm
  exact h clk es hp h5 h6 h' w val a H' Q fun e s2 h2 w2 v2 a2 hΨ H2 n2 => hQ e s2 h2 w2 v2 a2 hΨ H2 (n'.trans n2)
theorem Wk.setm {s : St} {n clk : Nat} {es : List (Nat × D × D)} {S : List (D × D)} (hl : lk s.B n = some (.map clk es)) (hp : (es.map (·.2)).Perm S) : Wk s { s with B := updB s.B n (.mapS S) } :=
  Wk.redesc hl rfl fun _ _ _ _ _ hr => ⟨clk, es, hr, hp⟩
theorem Wk.permS {s : St} {n : Nat} {S S' : List (D × D)} (hl : lk s.B n = some (.mapS S)) (hp : S.Perm S') : Wk s { s with B := updB s.B n (.mapS S') } :=
  Wk.redesc hl rfl fun _ _ _ _ _ hr => by
    obtain ⟨clk, es, hm, h⟩ := hr
    exact ⟨clk, es, hm, h.trans hp⟩
theorem Wk.bagw {s : St} {n : Nat} {e : TypeId} {k : Nat} {xs ys : List D} (hl : lk s.B n = some (.rw e k xs)) (hp : xs.Perm ys) : Wk s { s with B := updB s.B n (.bag e k ys) } :=
  Wk.redesc hl rfl fun _ _ _ _ _ hr => by
    obtain ⟨us, a, b, c⟩ := hr
    exact ⟨xs, us, hp, a, b, c⟩
def ACN (P : Program) (rd : Option Nat) (ops : Array Oper) (rest : Code) (s : St) (Ψ : Ex → St → Prop) : Prop :=
  ∀ h w val a, Holds s h w val a → ∀ Q : Exit → Act → World → Prop,
    (∀ e s' h' w' val' a', Ψ e s' → Holds s' h' w' val' a' → Nx s h w val s' h' w' val' → Q e.toExit a' w') → wpOpsIn (fc rd) 0 P ops (Exit.then (rest.wpIn (fc rd) 0 P Q) Q) (List.range' 1 (ops.size - 1)) a w
theorem ACN.run {P : Program} {rd : Option Nat} {ops : Array Oper} {rest : Code} {s s1 : St} {ws : List (Nat × W)} {Φ : Ob} {L : Lp} {Ψ : Ex → St → Prop} (h1 : arun P ops ws (ops.toList.drop 1) s = some (Φ, s1)) (hΦ : Φ.ok P L) (h2 : AC P rd rest s1 Ψ) : ACN P rd ops rest s Ψ := by
  intro h w val a H Q hQ
  have hlen : (ops.toList.drop 1).length = ops.size - 1 := by simp
  rw [← hlen]
  refine arun_ok (ops.toList.drop 1) 1 s s1 Φ (fun j => by simp [List.getElem?_drop, Nat.add_comm]) h1 hΦ h w val a H fun h' w' val' a' H' n' => ?_
  exact h2 h' w' val' a' H' Q fun e s2 h2 w2 v2 a2 hΨ H2 n2 => hQ e s2 h2 w2 v2 a2 hΨ H2 (n'.trans n2)
theorem ACN.post {P : Program} {rd : Option Nat} {ops : Array Oper} {rest : Code} {s : St} {Ψ Ψ' : Ex → St → Prop} (h : ACN P rd ops rest s Ψ) (hp : ∀ e s1, Ψ e s1 → Ψ' e s1) : ACN P rd ops rest s Ψ' :=
  fun h' w val a H Q hQ => h h' w val a H Q fun e s1 h1 w1 v1 a1 hΨ H1 n1 => hQ e s1 h1 w1 v1 a1 (hp e s1 hΨ) H1 n1
theorem AC.next {P : Program} {rd : Option Nat} {id : Nat} {ops : Array Oper} {rest : Code} {s : St} {Ψ : Ex → St → Prop} {o : Oper} {it : Operand} {t d n clk : Nat} {es : List (Nat × D × D)} {seen : List Nat}
    (ho : ops[0]? = some o) (hop : o.op = .next it false) (hg : o.guard = none) (hd : o.dst = some t) (hit : s.ev it = .box d 0) (h1 : lk s.B d = some (.mit n clk seen)) (h2 : lk s.B n = some (.map clk es))
    (hA : (es.map (·.1)).Nodup → ∀ e ∈ es, e.1 ∉ seen → ACN P rd ops rest ({ s with B := updB s.B d (.mit n clk (seen ++ [e.1])) }.put (some t) (.tup [bo true, .d e.2.1, .d e.2.2])) Ψ)
    (hB : (es.map (·.1)).Nodup → (∀ e ∈ es, e.1 ∈ seen) → ACN P rd ops rest (s.put (some t) (.tup [bo false])) Ψ) : AC P rd (.seq (.region id ops false) rest) s Ψ := by
  intro h w val a H Q hQ
  refine wpIn_seq (wpIn_region ?_)
  have hsz : 0 < ops.size := (Array.getElem?_eq_some_iff.1 ho).1
  rw [List.range_eq_range', show ops.size = ops.size - 1 + 1 by omega, List.range'_succ, wpOpsIn_cons]
  obtain ⟨r, b, e1, e2, e3⟩ := H.inv.rep _ (List.mem_append_left _ (lk_mem h1))
  obtain ⟨b', l, g1, g2, g3, g4, g5, g6, g7⟩ := H.inv.rep _ (List.mem_append_left _ (lk_mem h2))
  simp only at e1 e2 g1
  have hb : b = b' := by rw [e2] at g1; cases g1; rfl
  subst hb
  have hi := H.ev it
  rw [hit] at hi
  simp only [RA] at hi
  obtain ⟨r', i1, i2⟩ := hi
  have hr' : r' = r := by rw [e1] at i1; cases i1; rfl
  subst hr'
  unfold wpOpIn
  rw [ho]
  have hw : Region.wanted o (yielded ops a.tmps) = true := by unfold Region.wanted; rw [hg]
  simp only [hw, if_true]
  have hnd : noDefer o.op = true := by rw [hop]; rfl
  refine wpIn_of_wp hnd ?_
  have hborn := REs.born g3
  rcases run_next_at (P := P) w o.type r' b clk clk ⟨seen⟩ ⟨l⟩ clk e3 g2 (fun x hx => by
    obtain ⟨y, hy, q, _⟩ := REs.mem g3 x hx
    rw [q]; exact g4 y hy) (Nat.le_refl _) with ⟨h0, hrun⟩ | ⟨e, he, w1, hw1, hrun⟩
  · refine wp_of_run (u := .tuple #[.bool false]) (w' := w) (by simp [execOp, hop, i2, hrun]) ?_
    have hall : ∀ e ∈ es, e.1 ∈ seen := fun x hx => by
      obtain ⟨e, he, q, _⟩ := REs.mem' g3 x hx
      have hz : (leftOf ⟨l⟩ ⟨seen⟩).toList = [] := by
        have : (leftOf ⟨l⟩ ⟨seen⟩) = #[] := Array.eq_empty_of_size_eq_zero h0
        rw [this]
      cases hc : decide (x.1 ∈ seen) with
      | true => exact of_decide_eq_true hc
      | false =>
        exfalso
        have : e ∈ (leftOf ⟨l⟩ ⟨seen⟩).toList := by
          unfold leftOf
          simp only [Array.toList_filter, List.mem_filter]
          refine ⟨he, ?_⟩
          have hns : x.1 ∉ seen := of_decide_eq_false hc
          simp [q, hns]
        rw [hz] at this; simp at this
    have hR : RA h w val (.tup [bo false]) (.tuple #[.bool false]) := by
      simp only [RA, RAs, bo]
      exact ⟨[.bool false], rfl, .bool false, [], rfl, by simp [RD, Value.oneCell'], rfl⟩
    have H' := H.put o.dst hR
    rw [hd] at H'
    have := hB g5 hall h w val _ H' Q fun e2 s2 h2 w2 v2 a2 hΨ H2 n2 => hQ e2 s2 h2 w2 v2 a2 hΨ H2 (((Nx.refl s h w val rfl).put (some t) _).trans n2)
    rw [hd]; exact this
  · have hel : e ∈ l ∧ e.born ∉ seen := by
      unfold leftOf at he
      simp only [Array.toList_filter, List.mem_filter] at he
      refine ⟨he.1, ?_⟩
      simpa using he.2
    obtain ⟨x, hx, q1, q2, q3⟩ := REs.mem g3 e hel.1
    have hkM : ∀ M, Keep M h w h w1 := fun M => by
      rcases hw1 with rfl | rfl
      · exact Keep.refl _ _ _
      · exact Keep.drew M h w
    have hk1 : Keep [] h w h w1 := hkM []
    have hh1 : w1.heap = w.heap := by rcases hw1 with rfl | rfl <;> rfl
    have H1 := H.quiet hk1
    have hvb : vblk (val d) = some r' := by rw [e1]; rfl
    obtain ⟨f1, f2⟩ := blk_set H1 h1 rfl (bk' := .mit n clk (seen ++ [x.1])) (o0 := .mapIter (some b) clk ⟨seen⟩ clk) (o' := .mapIter (some b) clk ⟨seen ++ [x.1]⟩ clk) rfl hvb (by rw [hh1]; exact e3) (by simp)
      ⟨r', b, e1, e2, heap_self (by rw [hh1]; exact e3)⟩
    refine wp_of_run (u := .tuple #[.bool true, e.key, e.val]) (w' := { w1 with heap := w1.heap.setIfInBounds r' (.mapIter (some b) clk ⟨seen ++ [x.1]⟩ clk) }) ?_ ?_
    · simp only [execOp, hop, i2, Sem.run_bind, hrun, Result.andThen_ok, Sem.run_pure]
      have : (⟨seen⟩ : Array Nat).push e.born = ⟨seen ++ [x.1]⟩ := by rw [natPush, q1]
      rw [this]; rfl
    · have hst := f2.keep.stays
      have hR : RA h { w1 with heap := w1.heap.setIfInBounds r' (.mapIter (some b) clk ⟨seen ++ [x.1]⟩ clk) } val (.tup [bo true, .d x.2.1, .d x.2.2]) (.tuple #[.bool true, e.key, e.val]) := by
        simp only [RA, RAs, bo]
        exact ⟨[.bool true, e.key, e.val], rfl, .bool true, [e.key, e.val], rfl, by simp [RD, Value.oneCell'], e.key, [e.val], rfl, RD.stays hst _ _ (RD.stays hk1.stays _ _ q2), e.val, [], rfl, RD.stays hst _ _ (RD.stays hk1.stays _ _ q3), rfl⟩
      have H' := f1.put o.dst hR
      rw [hd] at H'
      have hn1 : Nx s h w val { s with B := updB s.B d (.mit n clk (seen ++ [x.1])) } h { w1 with heap := w1.heap.setIfInBounds r' (.mapIter (some b) clk ⟨seen ++ [x.1]⟩ clk) } val :=
        Nx.trans (s1 := s) ⟨hkM _, fun _ _ => rfl, fun b hb => .inl hb⟩ f2
      have := hA g5 x hx (by rw [← q1]; exact hel.2) h _ val _ H' Q fun e2 s2 h2 w2 v2 a2 hΨ H2 n2 => hQ e2 s2 h2 w2 v2 a2 hΨ H2 ((hn1.put (some t) _).trans n2)
      rw [hd]; exact this
end Go.Ac
