/- Own work: how calls of the model run over plain data. -/
import Derived.Test.YtbmojpadjglncaaGreatAc19
set_option linter.unusedVariables false
set_option linter.unusedSimpArgs false
namespace Go.Ac
def vx : Nat := 997
mutual
def A.fix : A → Bool
  | .box _ _ => true
  | .row _ => true
  | .clo _ fs cs => fixs fs && fixs cs
  | .agg cs => fixs cs
  | .tup cs => fixs cs
  | .d _ => true
  | .eptr _ => true
  | .nil => true
  | _ => false
def fixs : List A → Bool
  | [] => true
  | a :: as => a.fix && fixs as
end
mutual
theorem RA.det {h w h' w'} {val val' : Val} : ∀ (a : A) (u : Value), a.fix = true → RA h w val a u → RA h' w' val' a u → ∀ n, a.has n = true → val' n = val n
  | .box m off, u, _, h1, h2, n, hn => by
    simp only [A.has, beq_iff_eq] at hn; subst hn
    simp only [RA] at h1 h2
    obtain ⟨b, e1, e2⟩ := h1
    obtain ⟨b', e3, e4⟩ := h2
    rw [e2] at e4
    cases e4
    rw [e1, e3]
  | .row m, u, _, h1, h2, n, hn => by
    simp only [A.has, beq_iff_eq] at hn; subst hn
    simp only [RA] at h1 h2
    rw [← h1.1, ← h2.1]
  | .clo f fs cs, u, hf, h1, h2, n, hn => by
    simp only [A.fix, Bool.and_eq_true] at hf
    simp only [RA] at h1 h2
    obtain ⟨x, y, e, a1, a2⟩ := h1
    obtain ⟨x', y', e', b1, b2⟩ := h2
    rw [e] at e'
    cases e'
    simp only [A.has, Bool.or_eq_true] at hn
    rcases hn with hn | hn
    · exact RAs.det fs x hf.1 a1 b1 n hn
    · exact RAs.det cs y hf.2 a2 b2 n hn
  | .agg cs, u, hf, h1, h2, n, hn => by
    simp only [A.fix] at hf
    simp only [RA] at h1 h2
    obtain ⟨x, e, a1, _⟩ := h1
    obtain ⟨x', e', b1, _⟩ := h2
    rw [e] at e'
    cases e'
    exact RAs.det cs x hf a1 b1 n (by simpa only [A.has] using hn)
  | .tup cs, u, hf, h1, h2, n, hn => by
    simp only [A.fix] at hf
    simp only [RA] at h1 h2
    obtain ⟨x, e, a1⟩ := h1
    obtain ⟨x', e', b1⟩ := h2
    rw [e] at e'
    cases e'
    exact RAs.det cs x hf a1 b1 n (by simpa only [A.has] using hn)
  | .d _, u, _, _, _, n, hn => by simp [A.has] at hn
  | .eptr _, u, _, _, _, n, hn => by simp [A.has] at hn
  | .nil, u, _, _, _, n, hn => by simp [A.has] at hn
  | .bsl _ _ _, u, hf, _, _, n, hn => by simp [A.fix] at hf
  | .ep _ _ _ _, u, hf, _, _, n, hn => by simp [A.fix] at hf
  | .ub, u, hf, _, _, n, hn => by simp [A.fix] at hf
  | .opq _, u, hf, _, _, n, hn => by simp [A.fix] at hf
  | .any, u, hf, _, _, n, hn => by simp [A.fix] at hf
theorem RAs.det {h w h' w'} {val val' : Val} : ∀ (as : List A) (us : List Value), fixs as = true → RAs h w val as us → RAs h' w' val' as us → ∀ n, hasAny n as = true → val' n = val n
  | [], us, _, _, _, n, hn => by simp [hasAny] at hn
  | a :: as, us, hf, h1, h2, n, hn => by
    simp only [fixs, Bool.and_eq_true] at hf
    simp only [RAs] at h1 h2
    obtain ⟨u, us', rfl, a1, a2⟩ := h1
    obtain ⟨u', us2, e, b1, b2⟩ := h2
    cases e
    simp only [hasAny, Bool.or_eq_true] at hn
    rcases hn with hn | hn
    · exact RA.det a u hf.1 a1 b1 n hn
    · exact RAs.det as us' hf.2 a2 b2 n hn
end
def kept (args : List A) (ks : List Nat) : List A := ks.map fun i => args.getD i .any
def afunX (P : Program) (f : FuncId) (ws : List (Nat × W)) (lw : List Lw) (wk : List Ws) (args : List A) (X : Bx) (ks : List Nat) (us : List Value) : Option (Ob × A × Bx) :=
  match P.funcs[f]? with
  | some fn => match fn.body with
    | some c => match acode P ws lw [] c ⟨args ++ List.replicate (fn.ntmps - args.length) (.tup []), X ++ [(vx, .vals (kept args ks) us)], []⟩ with
        | some (Φ, .ret, s') => (wks wk s').bind fun s2 => (resOf P s2 fn.results.toList).map fun r => (Φ, r, s2.B)
        | some (Φ, .normal, s') => (wks wk s').bind fun s2 => (resOf P s2 fn.results.toList).map fun r => (Φ, r, s2.B)
        | _ => none
    | _ => none
  | none => none
def xcond (args : List A) (X : Bx) (ks : List Nat) (r : A) (X' : Bx) : Bool :=
  lowE args && lowB X && listAll (fun n => Nat.blt n vx) (names X) && listAll (fun i => Nat.blt i args.length) ks && fixs (kept args ks) &&
  nmsIn r (names X') && X'.all (fun p => bkIn p.2 (names X')) && listAll (fun n => !listMem n (names X) || hasAny n (kept args ks)) (names X')
theorem RAs_kept {h w} {val : Val} {args : List A} {vs : List Value} (hr : RAs h w val args vs) : ∀ (ks : List Nat), listAll (fun i => Nat.blt i args.length) ks = true → RAs h w val (kept args ks) (ks.map fun i => vs.getD i undef)
  | [], _ => by simp [kept, RAs]
  | i :: ks, hk => by
    simp only [listAll, Bool.and_eq_true, Nat.blt_eq] at hk
    simp only [kept, List.map_cons, RAs]
    refine ⟨_, _, rfl, ?_, RAs_kept hr ks hk.2⟩
    obtain ⟨u, hu, h1⟩ := RAs.get hr i _ (List.getElem?_eq_getElem hk.1)
    simp only [List.getD, hu, List.getElem?_eq_getElem hk.1, Option.getD_some]
    exact h1
theorem afunX_ok {P : Program} {f : FuncId} {ws : List Value → List (Nat × W)} {lw : List Value → List Lw} {wk : List Value → List Ws} {args : List A} {X X' : Bx} {ks : List Nat} {Φ : List Value → Ob} {r : A} (hm : P.follows .mixedOrders = true)
    (he : ∀ us, afunX P f (ws us) (lw us) (wk us) args X ks us = some (Φ us, r, X' ++ [(vx, .vals (kept args ks) us)])) (hΦ : ∀ us, (Φ us).ok P (LpOf P none (fbody P f))) (hx : xcond args X ks r X' = true) : ACall P f args X r X' := by
  intro h w val vs hInv hargs
  simp only [xcond, Bool.and_eq_true] at hx
  obtain ⟨⟨⟨⟨⟨⟨⟨x1, x2⟩, x3⟩, x4⟩, x5⟩, x6⟩, x7⟩, x8⟩ := hx
  let us0 := ks.map fun i => vs.getD i undef
  replace he := he us0
  replace hΦ := hΦ us0
  unfold afunX at he
  split at he
  · rename_i fn hfn
    split at he
    · rename_i c hc
      have hroot : fbody P f = c := by simp [fbody, hfn, hc]
      rw [hroot] at hΦ
      have hn : vs.length = args.length := hargs.length
      let val0 : Val := setV val bn (.int .i64 (w.heap.size : Int))
      have hv0 : ∀ m, m ≠ bn → val0 m = val m := fun m hm => by simp [val0, setV, hm]
      have hlt : ∀ m, m < up → m ≠ bn := fun m hm e => by subst e; simp only [up, bn] at hm; omega
      have hX1 : ∀ p ∈ X, val0 p.1 = val p.1 := fun p hp => hv0 _ (hlt _ (lowB_ok x2 hp).1)
      have hblk0 : blks val0 X = blks val X := blks_congr fun m hm => by
          obtain ⟨p, hp, e2⟩ := List.mem_map.1 hm
          rw [← e2]; exact hX1 p hp
      have hI0 : Inv h w val0 X := ⟨fun p hp => RB.congr (hX1 p hp) (fun m hm => hv0 m (hlt m ((lowB_ok x2 hp).2 m hm))) (hInv.rep p hp), hInv.nms, by rw [hblk0]; exact hInv.bks⟩
      have hargs0 : RAs h w val0 args vs := RAs.congr _ _ (fun n hn => hv0 n (hlt n (lowE_ok x1 n hn))) hargs
      have hkept0 : RAs h w val0 (kept args ks) us0 := RAs_kept hargs0 ks x4
      have hbv : ∀ (v : Val) (Y : Bx) (as : List A) (us : List Value), blks v (Y ++ [(vx, Bk.vals as us)]) = blks v Y := fun v Y as us => by
        rw [blks_append]
        have : blks v [(vx, Bk.vals as us)] = [] := rfl
        rw [this, List.append_nil]
      have hvxX : vx ∉ names X := fun hm => by
        have := listAll_ok x3 vx hm
        simp at this
      have H : Holds ⟨args ++ List.replicate (fn.ntmps - args.length) (.tup []), X ++ [(vx, .vals (kept args ks) us0)], []⟩ h w val0 { tmps := ⟨vs⟩ ++ Array.replicate (fn.ntmps - vs.length) undef, defers := [] } := by
        refine ⟨?_, ?_, (fun _ _ p hp => by cases hp), DefsOk.nil (by simp [bound, val0, setV])⟩
        · simp only [Array.toList_append, Array.toList_replicate]
          rw [hn]
          exact hargs0.append (RAs_undef _)
        · show Inv h w val0 ((X ++ [(vx, .vals (kept args ks) us0)]) ++ [])
          rw [List.append_nil]
          refine ⟨fun p hp => ?_, ?_, by rw [hbv]; exact hI0.bks⟩
          · rcases List.mem_append.1 hp with hp | hp
            · exact hI0.rep p hp
            · simp only [List.mem_singleton] at hp
              subst hp
              exact hkept0
          · rw [names_append]
            refine List.nodup_append.2 ⟨hI0.nms, by simp [names], fun x hx y hy e => ?_⟩
            simp only [names, List.map_cons, List.map_nil, List.mem_singleton] at hy
            subst hy; subst e
            exact hvxX hx
      have key : ∀ (e : Ex) (s' : St), (e = .ret ∨ e = .normal) → acode P (ws us0) (lw us0) [] c ⟨args ++ List.replicate (fn.ntmps - args.length) (.tup []), X ++ [(vx, .vals (kept args ks) us0)], []⟩ = some (Φ us0, e, s') →
          ((wks (wk us0) s').bind fun s2 => (resOf P s2 fn.results.toList).map fun r => (Φ us0, r, s2.B)) = some (Φ us0, r, X' ++ [(vx, .vals (kept args ks) us0)]) →
          Calls P f ⟨vs⟩ w fun e w' => ∃ h' val' u, e = .returned u ∧ Inv h' w' val' X' ∧ RA h' w' val' r u ∧ Keep (blks val X) h w h' w' ∧ (∀ n, (n ∈ names X' → n ∈ names X) → val' n = val n) ∧ ∀ b ∈ blks val' X', b ∈ blks val X ∨ w.heap.size ≤ b := by
        intro e s' hor hrun hr
        refine callsIn_wide.1 (callsIn_of_wp_marks (F := .wide) (n := 0) hfn hc trivial ?_)
        refine acode_ok (rd := none) hm c [] _ s' (Φ us0) e rfl hrun hΦ h w val0 _ H _ ?_
        rintro e1 s1 h1 w1 v1 a1 ⟨rfl, rfl⟩ H1 n1
        simp only [Option.bind_eq_some_iff, Option.map_eq_some_iff, Prod.mk.injEq, true_and] at hr
        obtain ⟨s2, hwk, r2, hr, rfl, hB2⟩ := hr
        obtain ⟨h2, v2, H2, n2⟩ := wks_ok hwk _ _ _ _ H1
        have n3 := n1.trans n2
        obtain ⟨_, Ds, eD, hDn, hD⟩ := H2.defs
        have hbd : bound v2 = w.heap.size := by
          unfold bound
          rw [n3.vals bn (by decide)]
          simp [val0, setV]
        have hall : blks val0 (⟨args ++ List.replicate (fn.ntmps - args.length) (.tup []), X ++ [(vx, .vals (kept args ks) us0)], []⟩ : St).all = blks val X := by
          show blks val0 ((X ++ [(vx, .vals (kept args ks) us0)]) ++ []) = _
          rw [List.append_nil, hbv, hblk0]
        have hL : LeavesInM (fc none) 0 P fn a1.tmps (fun e w' => ∃ h' val' u, e = .returned u ∧ Inv h' w' val' X' ∧ RA h' w' val' r2 u ∧ Keep (blks val X) h w h' w' ∧ (∀ n, (n ∈ names X' → n ∈ names X) → val' n = val n) ∧ ∀ b ∈ blks val' X', b ∈ blks val X ∨ w.heap.size ≤ b) a1.defers .returning w1 := by
          rw [eD]
          refine leavesM Ds w1 a1 rfl H2 hDn (fun D hD1 => (hD D hD1).1) fun w' a' ha' H' hk => ?_
          obtain ⟨u, g1, g2⟩ := resOf_ok H' hr
          rw [ha'] at g1
          let v3 : Val := fun n => if n ∈ names X' then v2 n else val n
          have hv3 : ∀ n ∈ names X', v3 n = v2 n := fun n hn => if_pos hn
          have hIB : Inv h2 w' v2 (X' ++ [(vx, .vals (kept args ks) us0)]) := by
            rw [← hB2]
            have := H'.inv
            unfold St.all at this
            exact Inv.sub (List.sublist_append_left _ _) this
          have hkept2 : RAs h2 w' v2 (kept args ks) us0 := hIB.rep (vx, .vals (kept args ks) us0) (List.mem_append_right _ (.head _))
          have hsame : ∀ n, n ∈ names X' → n ∈ names X → v2 n = val n := fun n hn hnX => by
            have h8 := listAll_ok x8 n hn
            simp only [Bool.or_eq_true, Bool.not_eq_true'] at h8
            rcases h8 with h8 | h8
            · exact absurd hnX (listMem_false h8)
            · rw [RAs.det _ _ x5 hkept0 hkept2 n h8]
              obtain ⟨p, hp, e2⟩ := List.mem_map.1 hnX
              rw [← e2]; exact hX1 p hp
          have hbX : blks v3 X' = blks v2 X' := blks_congr fun m hm => hv3 m hm
          have hIX : Inv h2 w' v2 X' := Inv.sub (List.sublist_append_left _ _) hIB
          refine ⟨u, g1, h2, v3, u, rfl, ⟨fun p hp => RB.congr (hv3 _ (List.mem_map.2 ⟨p, hp, rfl⟩)) (fun m hm => hv3 m (bkIn_ok ((List.all_eq_true.1 x7) p hp) m hm)) (hIX.rep p hp), hIX.nms, by rw [hbX]; exact hIX.bks⟩,
            RA.congr _ _ (fun n hn => hv3 n (nmsIn_ok x6 n hn)) g2, ?_, fun n hn => ?_, fun b hb => ?_⟩
          · have hK := n3.keep.trans hk fun x hx => .inr (by rw [← hbd]; exact (hD x hx).2)
            rw [hall] at hK
            exact hK
          · show (if n ∈ names X' then v2 n else val n) = val n
            split
            · rename_i hin; exact hsame n hin (hn hin)
            · rfl
          · rw [hbX] at hb
            have hb2 : b ∈ blks v2 s2.all := by
              show b ∈ blks v2 (s2.B ++ s2.F)
              rw [blks_append, hB2, hbv]; exact List.mem_append_left _ hb
            have := n3.new b hb2
            rw [hall] at this
            exact this
        rcases hor with rfl | rfl
        · exact hL
        · exact hL
      split at he
      · rename_i Φ' s' hrun
        have : Φ' = Φ us0 := by
          simp only [Option.bind_eq_some_iff, Option.map_eq_some_iff, Prod.mk.injEq] at he
          obtain ⟨_, _, _, _, h, _⟩ := he
          exact h
        subst this
        exact key .ret s' (.inl rfl) hrun he
      · rename_i Φ' s' hrun
        have : Φ' = Φ us0 := by
          simp only [Option.bind_eq_some_iff, Option.map_eq_some_iff, Prod.mk.injEq] at he
          obtain ⟨_, _, _, _, h, _⟩ := he
          exact h
        subst this
        exact key .normal s' (.inr rfl) hrun he
      · cases he
    · cases he
  · cases he
end Go.Ac
