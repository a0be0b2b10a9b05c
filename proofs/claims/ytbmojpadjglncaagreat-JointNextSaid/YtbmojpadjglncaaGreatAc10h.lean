/- Own work: how calls of the model run over plain data. -/
import Derived.Test.YtbmojpadjglncaaGreatAc10g
set_option linter.unusedVariables false
set_option linter.unusedSimpArgs false
namespace Go.Ac
open Go.MapKept
def MPutS (P : Program) (kt : TypeId) (S : List (D × D)) (kd vd : D) (S' : List (D × D)) : Prop :=
  (∀ x ∈ S, KOk P kt x.1) ∧ KOk P kt kd ∧ ((∃ (pre : List (D × D)) (v0 : D) (post : List (D × D)), S = pre ++ (kd, v0) :: post ∧ S' = pre ++ (kd, vd) :: post) ∨ (S' = S ++ [(kd, vd)] ∧ ∀ x ∈ S, x.1 ≠ kd))
def MDelS (P : Program) (kt : TypeId) (S : List (D × D)) (kd : D) (S' : List (D × D)) : Prop :=
  (∀ x ∈ S, KOk P kt x.1) ∧ KOk P kt kd ∧ ((∃ (pre : List (D × D)) (v0 : D) (post : List (D × D)), S = pre ++ (kd, v0) :: post ∧ S' = pre ++ post) ∨ (S' = S ∧ ∀ x ∈ S, x.1 ≠ kd))
theorem split_at {es : List (Nat × D × D)} {kd v0 : D} (hn : (es.map (·.2.1)).Nodup) (h : (kd, v0) ∈ es.map (·.2)) : ∃ (pre : List (Nat × D × D)) (s : Nat) (post : List (Nat × D × D)), es = pre ++ (s, kd, v0) :: post ∧ ∀ x ∈ pre, x.2.1 ≠ kd := by
  obtain ⟨⟨s, p⟩, hx, e⟩ := List.mem_map.1 h
  simp only at e; subst e
  obtain ⟨pre, post, rfl⟩ := List.append_of_mem hx
  refine ⟨pre, s, post, rfl, fun x hx e => ?_⟩
  rw [List.map_append, List.map_cons, List.nodup_append] at hn
  exact hn.2.2 _ (List.mem_map_of_mem hx) _ (by simp) e
theorem perm_mid {pre post pre' post' : List (D × D)} {x : D × D} (h : (pre ++ x :: post).Perm (pre' ++ x :: post')) : (pre ++ post).Perm (pre' ++ post') :=
  ((List.perm_middle.symm.trans h).trans List.perm_middle).cons_inv
theorem putS_perm {P : Program} {kt : TypeId} {clk : Nat} {es : List (Nat × D × D)} {S S' : List (D × D)} {kd vd : D} (hn : (es.map (·.2.1)).Nodup) (hp : (es.map (·.2)).Perm S) (h : MPutS P kt S kd vd S') :
    ∃ clk' es', MPut P kt es kd vd clk es' clk' ∧ (es'.map (·.2)).Perm S' := by
  obtain ⟨hK, hk, hc⟩ := h
  have hK' : ∀ x ∈ es, KOk P kt x.2.1 := fun x hx => hK x.2 (hp.mem_iff.1 (List.mem_map_of_mem hx))
  rcases hc with ⟨pre, v0, post, rfl, rfl⟩ | ⟨rfl, hne⟩
  · obtain ⟨pre2, s, post2, rfl, hne⟩ := split_at (kd := kd) (v0 := v0) hn (hp.mem_iff.2 (by simp))
    refine ⟨clk, pre2 ++ (s, kd, vd) :: post2, ⟨hK', hk, .inl ⟨rfl, pre2, s, v0, post2, rfl, hne, rfl⟩⟩, ?_⟩
    rw [List.map_append, List.map_cons] at hp ⊢
    have := perm_mid hp
    exact List.perm_middle.trans ((List.Perm.cons _ this).trans List.perm_middle.symm)
  · refine ⟨clk + 1, es ++ [(clk, kd, vd)], ⟨hK', hk, .inr ⟨rfl, rfl, fun x hx e => ?_⟩⟩, ?_⟩
    · exact hne x.2 (hp.mem_iff.1 (List.mem_map_of_mem hx)) e
    · rw [List.map_append]
      exact hp.append_right _
theorem delS_perm {P : Program} {kt : TypeId} {es : List (Nat × D × D)} {S S' : List (D × D)} {kd : D} (hn : (es.map (·.2.1)).Nodup) (hp : (es.map (·.2)).Perm S) (h : MDelS P kt S kd S') :
    ∃ es', MDel P kt es kd es' ∧ (es'.map (·.2)).Perm S' := by
  obtain ⟨hK, hk, hc⟩ := h
  have hK' : ∀ x ∈ es, KOk P kt x.2.1 := fun x hx => hK x.2 (hp.mem_iff.1 (List.mem_map_of_mem hx))
  rcases hc with ⟨pre, v0, post, rfl, rfl⟩ | ⟨rfl, hne⟩
  · obtain ⟨pre2, s, post2, rfl, hne⟩ := split_at (kd := kd) (v0 := v0) hn (hp.mem_iff.2 (by simp))
    refine ⟨pre2 ++ post2, ⟨hK', hk, .inl ⟨pre2, s, v0, post2, rfl, hne, rfl⟩⟩, ?_⟩
    rw [List.map_append, List.map_cons] at hp
    rw [List.map_append]
    exact perm_mid hp
  · exact ⟨es, ⟨hK', hk, .inr ⟨rfl, fun x hx e => hne x.2 (hp.mem_iff.1 (List.mem_map_of_mem hx)) e⟩⟩, hp⟩
def mapSAt (s : St) : A → Option (Nat × List (D × D))
  | .row n => match lk s.B n with
    | some (.mapS S) => some (n, S)
    | _ => none
  | _ => none
theorem mapSAt_ok {s : St} {h w val} {a : Act} (H : Holds s h w val a) {x : A} {u : Value} (hr : RA h w val x u) {n S} (he : mapSAt s x = some (n, S)) :
    lk s.B n = some (.mapS S) ∧ ∃ clk es b l, (es.map (·.2)).Perm S ∧ u = .map (some b) ∧ val n = .map (some b) ∧ w.heap[b]? = some (.map ⟨l⟩ clk) ∧ REs h w es l ∧ (∀ x ∈ es, x.1 < clk) ∧ (es.map (·.1)).Nodup ∧ (es.map (·.2.1)).Nodup ∧ h b = 0 := by
  unfold mapSAt at he
  split at he
  · rename_i m
    split at he
    · rename_i S' hl
      simp only [Option.some.injEq, Prod.mk.injEq] at he
      obtain ⟨rfl, rfl⟩ := he
      simp only [RA] at hr
      obtain ⟨clk, es, ⟨b, l, hv, rest⟩, hp⟩ := H.inv.rep _ (List.mem_append_left _ (lk_mem hl))
      exact ⟨hl, clk, es, b, l, hp, by rw [hr.1]; exact hv, hv, rest⟩
    · cases he
  · cases he
def amapS (P : Program) (o : Oper) (s : St) (wt : W) : Option (Cn × A × List Ed) :=
  match o.op with
  | .makeMap _ none => match o.dst with
    | some d => if d < up && !hasAny d s.E && !bxHas d s.B then some (.t, .row d, [.add d (.mapS [])]) else none
    | none => none
  | .mapUpdate t m k x => match mapSAt s (s.ev m), toD (s.look (s.ev k)), toD (s.look (s.ev x)), P.underlying t, wt with
    | some (n, S), some kd, some vd, some (.map kt _), .ms S' => some (.pr (MPutS P kt S kd vd S'), .any, [.chg n (.mapS S')])
    | _, _, _, _, _ => none
  | .insert t m k x => match mapSAt s (s.ev m), toD (s.look (s.ev k)), toD (s.look (s.ev x)), P.underlying t, wt with
    | some (n, S), some kd, some vd, some (.map kt _), .ms S' => some (.pr (MPutS P kt S kd vd S'), .any, [.chg n (.mapS S')])
    | _, _, _, _, _ => none
  | .call c => match c.callee, c.args.toList, c.argTypes.toList with
    | .builtin .delete, [m, k], [t, _] => match mapSAt s (s.ev m), toD (s.look (s.ev k)), P.underlying t, wt with
      | some (n, S), some kd, some (.map kt _), .ms S' => some (.pr (MDelS P kt S kd S'), .tup [], [.chg n (.mapS S')])
      | _, _, _, _ => none
    | _, _, _ => none
  | _ => none
theorem mapUpdateS_run {P : Program} {s : St} {h : Hw} {w : World} {val : Val} {a : Act} (H : Holds s h w val a) {t kt et : TypeId} (ht : P.underlying t = some (.map kt et)) {n : Nat} {S S' : List (D × D)} {kd vd : D} {x : A} {um key v : Value}
    (hm : mapSAt s x = some (n, S)) (hu : RA h w val x um) (hk : RD h w kd key) (hv : RD h w vd v) (hp : MPutS P kt S kd vd S') :
    ∃ w', (Instr.mapUpdate t um key v).run P w = .ok () w' ∧ Holds { s with B := updB s.B n (.mapS S') } h w' val a ∧ Nx s h w val { s with B := updB s.B n (.mapS S') } h w' val := by
  obtain ⟨hl, clk, es, b, l, hpm, rfl, hv0, hg, hr, q1, q2, q3, h0⟩ := mapSAt_ok H hu hm
  obtain ⟨clk', es', hput, hpm'⟩ := putS_perm (clk := clk) q3 hpm hp
  obtain ⟨hK, hkk, ⟨rfl, pre, st, v0, post, rfl, hne, rfl⟩ | ⟨rfl, rfl, hne⟩⟩ := hput
  · obtain ⟨lp, e, lq, d, rfl, e2, e3, e4, e5, e6, e7, hd, hik, hf⟩ := find_at hr hK hkk hne hk
    obtain ⟨f1, f2⟩ := map_setB H hl rfl (bk' := .mapS S') rfl hv0 hg h0 (REs.set (s := st) (kd := kd) (vd := vd) (e := { e with key := key, val := v }) e3 e4 hk hv e7) (lt_set q1) (nd_set q2) (kd_set q3) (fun w' hm' => ⟨_, _, hm', hpm'⟩)
    refine ⟨_, ?_, f1, f2⟩
    have ha := arr_get lp lq e e2
    simp only [Instr.mapUpdate, Sem.run_bind, run_underlying ht, MapKept.run_getObj_map hg, MapKept.run_checkKey hd hik, MapKept.run_findKey hd hf, Result.andThen_ok, ha, Option.map_some, Option.getD_some, e5, MapKept.run_keyThatStays hik, arr_mod lp lq e _ e2, MapKept.run_setObj_map _ hg]
  · obtain ⟨d, hd, hik, hf⟩ := find_no hr hK hkk hne hk
    obtain ⟨f1, f2⟩ := map_setB H hl rfl (bk' := .mapS S') rfl hv0 hg h0 (REs.append hr (REs.one (s := clk) (kd := kd) (vd := vd) (e := ⟨key, v, clk⟩) rfl hk hv)) (lt_push q1) (nd_push q1 q2) (kd_push hne q3) (fun w' hm' => ⟨_, _, hm', hpm'⟩)
    refine ⟨_, ?_, f1, f2⟩
    simp only [Instr.mapUpdate, Sem.run_bind, run_underlying ht, MapKept.run_getObj_map hg, MapKept.run_checkKey hd hik, MapKept.run_findKey hd hf, Result.andThen_ok, MapKept.run_setObj_map _ hg, arr_push]
theorem amapS_ok {P : Program} {o : Oper} {s : St} {wt : W} {Φ : Cn} {r : A} {es : List Ed} (he : amapS P o s wt = some (Φ, r, es)) : OpOk P o s Φ.ok r (s.edit es) := by
  intro hΦ h w val a H K Q hK
  unfold amapS at he
  split at he
  · rename_i t ho
    split at he
    · rename_i d hd
      split at he
      · rename_i hc
        simp only [Bool.and_eq_true, decide_eq_true_eq, Bool.not_eq_true'] at hc
        obtain ⟨⟨c3, c4⟩, c5⟩ := hc
        simp only [Option.some.injEq, Prod.mk.injEq] at he
        obtain ⟨rfl, rfl, rfl⟩ := he
        have hvd : setV val d (.map (some w.heap.size)) d = .map (some w.heap.size) := by simp [setV]
        obtain ⟨f1, f2⟩ := H.fresh c3 c4 c5 (.map #[] 0) (.map (some w.heap.size)) 0 (.mapS []) rfl rfl
          ⟨0, [], ⟨w.heap.size, [], hvd, heap_alloc_new w _, rfl, by simp, by simp, by simp, by simp [setH]⟩, by simp⟩
        refine wp_of_run (u := .map (some w.heap.size)) (w' := w.alloc (.map #[] 0)) ?_ (hK _ _ _ _ (by simp only [RA]; exact ⟨hvd.symm, .inr ⟨_, rfl⟩⟩) f1.ins f2.ins)
        simp [execOp, ho, Instr.makeMap]
      · cases he
    · cases he
  · rename_i t m k x ho
    split at he
    · rename_i n S kd vd kt et S' hm hk hv ht
      simp only [Option.some.injEq, Prod.mk.injEq] at he
      obtain ⟨rfl, rfl, rfl⟩ := he
      obtain ⟨w', hrun, f1, f2⟩ := mapUpdateS_run H ht (um := a.eval m) hm (H.ev m) (toD_ok hk (H.look (H.ev k))) (toD_ok hv (H.look (H.ev x))) hΦ
      exact wp_of_skip (w' := w') (by simp [execOp, ho, hrun]) (hK h _ val undef (by simp [RA]) f1 f2)
    · cases he
  · rename_i t m k x ho
    split at he
    · rename_i n S kd vd kt et S' hm hk hv ht
      simp only [Option.some.injEq, Prod.mk.injEq] at he
      obtain ⟨rfl, rfl, rfl⟩ := he
      obtain ⟨w', hrun, f1, f2⟩ := mapUpdateS_run H ht (um := a.eval m) hm (H.ev m) (toD_ok hk (H.look (H.ev k))) (toD_ok hv (H.look (H.ev x))) hΦ
      exact wp_of_skip (w' := w') (by simp [execOp, ho, hrun]) (hK h _ val undef (by simp [RA]) f1 f2)
    · cases he
  · rename_i c ho
    obtain ⟨callee, ⟨args⟩, ⟨tys⟩⟩ := c
    simp only at he
    split at he
    · rename_i m k t t2
      split at he
      · rename_i n S kd kt et S' hm hk ht
        simp only [Option.some.injEq, Prod.mk.injEq] at he
        obtain ⟨rfl, rfl, rfl⟩ := he
        obtain ⟨hl, clk, es, b, l, hpm, hum, hv0, hg, hr, q1, q2, q3, h0⟩ := mapSAt_ok H (H.ev m) hm
        have hkr := toD_ok hk (H.look (H.ev k))
        obtain ⟨es', hdel, hpm'⟩ := delS_perm q3 hpm hΦ
        obtain ⟨hKs, hkk, ⟨pre, st, v0, post, rfl, hne, rfl⟩ | ⟨rfl, hne⟩⟩ := hdel
        · obtain ⟨lp, e, lq, d, rfl, e2, e3, e4, e5, e6, e7, hd, hik, hf⟩ := find_at hr hKs hkk hne hkr
          have hsub : (pre ++ post).Sublist (pre ++ (st, kd, v0) :: post) := List.Sublist.append (List.Sublist.refl _) (List.sublist_cons_self _ _)
          obtain ⟨f1, f2⟩ := map_setB H hl rfl (bk' := .mapS S') rfl hv0 hg h0 (REs.append e3 e7) (clk' := clk) (fun x hx => q1 x (hsub.subset hx)) ((hsub.map _).nodup q2) ((hsub.map _).nodup q3) (fun w' hm' => ⟨_, _, hm', hpm'⟩)
          refine wp_of_run (u := .tuple #[]) (w' := _) ?_ (hK h _ val _ (by simp [RA, RAs]) f1 f2)
          simp [execOp, ho, resolve, invoke, builtin, Builtin.delete_, run_underlying ht, hum, MapKept.run_getObj_map hg, MapKept.run_checkKey hd hik, MapKept.run_findKey hd hf, MapKept.run_setObj_map _ hg]
          have := arr_del lp lq e e2
          simp only [List.eraseIdxIfInBounds_toArray] at this
          first | rw [this] | rw [← e2, List.eraseIdx_append_of_length_le (Nat.le_refl _), Nat.sub_self]; rfl
        · obtain ⟨d, hd, hik, hf⟩ := find_no hr hKs hkk hne hkr
          obtain ⟨f1, f2⟩ := map_setB H hl rfl (bk' := .mapS S') rfl hv0 hg h0 hr q1 q2 q3 (fun w' hm' => ⟨_, _, hm', hpm'⟩)
          refine wp_of_run (u := .tuple #[]) (w' := _) ?_ (hK h _ val _ (by simp [RA, RAs]) f1 f2)
          simp [execOp, ho, resolve, invoke, builtin, Builtin.delete_, run_underlying ht, hum, MapKept.run_getObj_map hg, MapKept.run_checkKey hd hik, MapKept.run_findKey hd hf, MapKept.run_setObj_map _ hg]
      · cases he
    · cases he
  · cases he
end Go.Ac
