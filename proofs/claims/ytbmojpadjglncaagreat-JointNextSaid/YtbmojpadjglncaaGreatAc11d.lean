/- Own work: how calls of the model run over plain data. -/
import Derived.Test.YtbmojpadjglncaaGreatAc11c
set_option linter.unusedVariables false
set_option linter.unusedSimpArgs false
namespace Go.Ac
mutual
def D.scal : D → Bool
  | .v _ => true
  | .agg cs => scals cs
  | .sl _ => false
  | .ptr _ => false
def scals : List D → Bool
  | [] => true
  | x :: l => x.scal && scals l
end
mutual
theorem RD.scal {h w h' w'} : ∀ (x : D) (u : Value), x.scal = true → RD h w x u → RD h' w' x u
  | .v x, u, _, hr => by simpa only [RD] using hr
  | .agg cs, u, hs, hr => by
    simp only [D.scal] at hs
    simp only [RD] at hr ⊢
    obtain ⟨us, e, hr⟩ := hr
    exact ⟨us, e, RDs.scal cs us hs hr⟩
  | .sl xs, u, hs, hr => by simp [D.scal] at hs
  | .ptr xs, u, hs, hr => by simp [D.scal] at hs
theorem RDs.scal {h w h' w'} : ∀ (cs : List D) (us : List Value), scals cs = true → RDs h w cs us → RDs h' w' cs us
  | [], us, _, hr => by simpa only [RDs] using hr
  | c :: cs, us, hs, hr => by
    simp only [scals, Bool.and_eq_true] at hs
    simp only [RDs] at hr ⊢
    obtain ⟨u, us', e, h1, h1', h2⟩ := hr
    exact ⟨u, us', e, RD.scal c u hs.1 h1, h1', RDs.scal cs us' hs.2 h2⟩
end
def scalAs : List A → Bool
  | [] => true
  | .d x :: l => x.scal && scalAs l
  | _ :: _ => false
def A.scal : A → Bool
  | .d x => x.scal
  | .tup vs => scalAs vs
  | .any => true
  | _ => false
theorem RAs.scal {h w h' w'} {val val' : Val} : ∀ (as : List A) (us : List Value), scalAs as = true → RAs h w val as us → RAs h' w' val' as us
  | [], us, _, hr => by simpa only [RAs] using hr
  | .d x :: l, us, hs, hr => by
    simp only [scalAs, Bool.and_eq_true] at hs
    simp only [RAs, RA] at hr ⊢
    obtain ⟨u, us', e, h1, h2⟩ := hr
    exact ⟨u, us', e, RD.scal x u hs.1 h1, RAs.scal l us' hs.2 h2⟩
theorem RA.scal {h w h' w'} {val val' : Val} {a : A} {u : Value} (hs : a.scal = true) (hr : RA h w val a u) : RA h' w' val' a u := by
  cases a with
  | d x => simp only [RA] at hr ⊢; exact RD.scal x u hs hr
  | tup vs =>
    simp only [RA] at hr ⊢
    obtain ⟨us, e, h1⟩ := hr
    exact ⟨us, e, RAs.scal vs us hs h1⟩
  | any => simp [RA]
  | _ => simp [A.scal] at hs

theorem cell_size {w : World} {g j : Nat} {v : Value} (h : w.cell? ⟨g, j, none⟩ = some v) : ∃ c t f, w.heap[g]? = some (.cells c t f) ∧ j < c.size := by
  unfold World.cell? at h
  split at h
  · rename_i c t f hg
    simp only [Option.isSome_none, Bool.false_eq_true, if_false] at h
    exact ⟨c, t, f, hg, (Array.getElem?_eq_some_iff.1 h).1⟩
  · cases h
def blkSize (w : World) (b : Nat) : Nat := match w.heap[b]? with
  | some (.cells c _ _) => c.size
  | _ => 0
theorem cell_blkSize {w : World} {g j : Nat} {v : Value} (h : w.cell? ⟨g, j, none⟩ = some v) : j < blkSize w g := by
  obtain ⟨c, t, f, hg, hj⟩ := cell_size h
  unfold blkSize; rw [hg]; exact hj
theorem own_data {h : Hw} {w : World} {e : TypeId} {k : Nat} {v : Value} {xs : List D} {us : List Value} (hown : w.ownsRow 0 e k v xs.length us) (hrow : RRow h w k xs us)
    (hh : ∀ g, v.ownBlock = some g → ∀ j x, w.cell? ⟨g, j, none⟩ = some x → j < h g) : RD h w (.sl xs) v := by
  simp only [RD]
  rcases hown.2 with ⟨hv, hn⟩ | ⟨g, cap, cur, hv, _, hg, hnc, hcm, hcs, htake⟩
  · have hx : xs = [] := List.eq_nil_of_length_eq_zero hn
    subst hx
    rw [hv]
    exact ⟨none, 0, k, us, by simp, by simp, by simp [maxLen], hrow, by simp⟩
  · refine ⟨some ⟨g, 0, none⟩, cap, k, us, hv, hnc, hcm, hrow, fun h0 => ⟨_, rfl, fun j x hj => ?_⟩⟩
    have hb : v.ownBlock = some g := by rw [hv]; rfl
    have hc := hown.cells hb j x hj
    refine ⟨hc, ?_⟩
    rw [Addr.add_lit] at hc
    exact hh g hb _ x hc
theorem RB.buf_rw {h : Hw} {w : World} {val : Val} {n : Nat} {e : TypeId} {k : Nat} {xs : List D} (hr : RB h w val n (.buf true e k xs)) : RB h w val n (.rw e k xs) := by
  obtain ⟨g, us, hv, hm, hg, hrow, h0⟩ := hr
  simp only [if_true] at hv
  have hlen := RRow.length hrow
  refine ⟨us, ⟨hlen, .inr ⟨g, xs.length, ⟨us⟩, hv, Nat.zero_le _, hg, Nat.le_refl _, hm, by simpa using hlen, ?_⟩⟩, hrow, fun g' hg' => ?_⟩
  · rw [← hlen]; simp
  · simp only [hv, Value.ownBlock, Option.some.injEq] at hg'
    subst hg'
    exact h0

def lentRow (s : St) (ns : List Nat) (n : Nat) : Option D :=
  if listMem n ns then match lk s.B n with
    | some (.rw _ _ xs) => some (.sl xs)
    | some (.buf true _ _ xs) => some (.sl xs)
    | _ => none
  else none
def lentC (s : St) (ns : List Nat) (bx : Nat → Option D) : List A → Option (List D)
  | [] => some []
  | .d x :: l => (lentC s ns bx l).map fun ds => x :: ds
  | .nil :: l => (lentC s ns bx l).map fun ds => .sl [] :: ds
  | .row n :: l => match lentRow s ns n with
    | some x => (lentC s ns bx l).map fun ds => x :: ds
    | none => match s.look (.row n) with
      | .d x => (lentC s ns bx l).map fun ds => x :: ds
      | _ => none
  | .clo f [] [] :: l => (lentC s ns bx l).map fun ds => .v (.func f #[] #[]) :: ds
  | .box n off :: l => if Nat.beq off 0 then match bx n with
      | some x => (lentC s ns bx l).map fun ds => x :: ds
      | none => none
    else none
  | .eptr cs :: l => (lentC s ns bx l).map fun ds => .ptr cs :: ds
  | _ :: _ => none
def lentB (s : St) (ns : List Nat) : Nat → Nat → Option (List D)
  | 0, _ => none
  | k + 1, n => if listMem n ns then match lk s.B n with
      | some (.cells cs) => lentC s ns (fun m => (lentB s ns k m).map .ptr) cs
      | _ => none
    else none
mutual
def lentA (s : St) (ns : List Nat) : A → A
  | .row n => match lentRow s ns n with
    | some x => .d x
    | none => .row n
  | .box n off => if Nat.beq off 0 then match lentB s ns 4 n with
      | some ds => .eptr ds
      | _ => .box n off
    else .box n off
  | .clo f a b => .clo f (lentAs s ns a) (lentAs s ns b)
  | x => x
def lentAs (s : St) (ns : List Nat) : List A → List A
  | [] => []
  | a :: l => lentA s ns a :: lentAs s ns l
end
def acallL (P : Program) (o : Oper) (s : St) (wt : W) : Option (Ob × A) :=
  match o.op with
  | .call c => match c.callee with
    | .value g => match calleeOf (s.ev g), wt with
      | some (f, fs, cs), .lend ns r =>
        if fnOk P f && bares (lentAs s ns (fs ++ c.args.toList.map (fun x => s.look (s.ev x)) ++ cs)) && r.scal then
          some (.call f (lentAs s ns (fs ++ c.args.toList.map (fun x => s.look (s.ev x)) ++ cs)) [] r [], r) else none
      | _, _ => none
    | _ => none
  | _ => none

def lentL (val : Val) (s : St) (ns : List Nat) : List Nat := blks val (pickB ns s.B)
def lentH (h : Hw) (w : World) (L : List Nat) : Hw := fun b => if listMem b L then max (h b) (blkSize w b) else h b
theorem lentH_le (h : Hw) (w : World) (L : List Nat) (b : Nat) : h b ≤ lentH h w L b := by
  unfold lentH; split
  · exact Nat.le_max_left _ _
  · exact Nat.le_refl _
theorem lentH_stays (h : Hw) (w : World) (L : List Nat) : Stays h w (lentH h w L) w := ⟨fun _ _ _ _ hc => hc, fun b _ => lentH_le h w L b⟩
theorem lentH_in {h : Hw} {w : World} {L : List Nat} {b : Nat} (hb : b ∈ L) {j : Nat} {x : Value} (hc : w.cell? ⟨b, j, none⟩ = some x) : j < lentH h w L b := by
  unfold lentH; rw [if_pos (listMem_iff.2 hb)]
  exact Nat.lt_of_lt_of_le (cell_blkSize hc) (Nat.le_max_right _ _)
theorem lent_in {val : Val} {s : St} {ns : List Nat} {n : Nat} {bk : Bk} {g : Nat} (hn : listMem n ns = true) (hl : lk s.B n = some bk) (ho : bk.isOld = false) (hv : vblk (val n) = some g) : g ∈ lentL val s ns :=
  Inv.blk_mem (p := (n, bk)) (List.mem_filter.2 ⟨lk_mem hl, hn⟩) (blkOf_of hv ho)
section
variable {s : St} {h : Hw} {w : World} {val : Val} {ns : List Nat}
theorem lentRow_ok (I : Inv h w val s.all) {n : Nat} {x : D} (he : lentRow s ns n = some x) : RD (lentH h w (lentL val s ns)) w x (val n) := by
  have key : ∀ e k xs, (∃ bk, lk s.B n = some bk ∧ bk.isOld = false) → listMem n ns = true → RB h w val n (.rw e k xs) → RD (lentH h w (lentL val s ns)) w (.sl xs) (val n) := by
    intro e k xs ⟨bk, hl, ho⟩ hn hr
    obtain ⟨us, hown, hrow, _⟩ := hr
    exact own_data hown (RRow.stays (lentH_stays h w _) _ _ _ hrow) fun g hg j x hc => lentH_in (lent_in hn hl ho (vblk_own hg)) hc
  unfold lentRow at he
  split at he
  · rename_i hn
    split at he
    · rename_i e k xs hl
      simp only [Option.some.injEq] at he; subst he
      exact key e k xs ⟨_, hl, rfl⟩ hn (I.rep _ (List.mem_append_left _ (lk_mem hl)))
    · rename_i e k xs hl
      simp only [Option.some.injEq] at he; subst he
      exact key e k xs ⟨_, hl, rfl⟩ hn (RB.buf_rw (I.rep _ (List.mem_append_left _ (lk_mem hl))))
    · cases he
  · cases he
theorem lentC_ok {a : Act} (H : Holds s h w val a) {bx : Nat → Option D} (hbx : ∀ m x, bx m = some x → RD (lentH h w (lentL val s ns)) w x (val m)) : ∀ (cs : List A) (ds : List D) (us : List Value), lentC s ns bx cs = some ds → RAs h w val cs us → (∀ u ∈ us, u.oneCell' = true) → RDs (lentH h w (lentL val s ns)) w ds us
  | [], ds, us, he, hr, _ => by
    simp only [lentC, Option.some.injEq] at he; subst he
    simpa only [RAs, RDs] using hr
  | c :: cs, ds, us, he, hr, h1 => by
    simp only [RAs] at hr
    obtain ⟨u, us', rfl, hc, hcs⟩ := hr
    have hu1 := h1 u (.head _)
    have ih := fun ds he => lentC_ok H hbx cs ds us' he hcs fun v hv => h1 v (.tail _ hv)
    have st := lentH_stays h w (lentL val s ns)
    unfold lentC at he
    split at he
    · rename_i e; cases e
    · rename_i x l e
      obtain ⟨rfl, rfl⟩ := List.cons.inj e
      simp only [Option.map_eq_some_iff] at he
      obtain ⟨ds', h2, rfl⟩ := he
      simp only [RA] at hc
      simp only [RDs]
      exact ⟨u, us', rfl, RD.stays st _ _ hc, hu1, ih _ h2⟩
    · rename_i l e
      obtain ⟨rfl, rfl⟩ := List.cons.inj e
      simp only [Option.map_eq_some_iff] at he
      obtain ⟨ds', h2, rfl⟩ := he
      simp only [RA] at hc
      subst hc
      simp only [RDs]
      exact ⟨_, us', rfl, RD_nil _ _, hu1, ih _ h2⟩
    · rename_i n l e
      obtain ⟨rfl, rfl⟩ := List.cons.inj e
      split at he
      · rename_i x hx
        simp only [Option.map_eq_some_iff] at he
        obtain ⟨ds', h2, rfl⟩ := he
        simp only [RA] at hc
        simp only [RDs]
        refine ⟨u, us', rfl, ?_, hu1, ih _ h2⟩
        rw [hc.1]
        exact lentRow_ok H.inv hx
      · split at he
        · rename_i x hx
          simp only [Option.map_eq_some_iff] at he
          obtain ⟨ds', h2, rfl⟩ := he
          have := H.look hc
          rw [hx] at this
          simp only [RA] at this
          simp only [RDs]
          exact ⟨u, us', rfl, RD.stays st _ _ this, hu1, ih _ h2⟩
        · cases he
    · rename_i f l e
      obtain ⟨rfl, rfl⟩ := List.cons.inj e
      simp only [Option.map_eq_some_iff] at he
      obtain ⟨ds', h2, rfl⟩ := he
      simp only [RA, RAs] at hc
      obtain ⟨fs, cs2, e2, e3, e4⟩ := hc
      subst e3; subst e4
      simp only [RDs, RD]
      exact ⟨u, us', rfl, ⟨e2, by rw [← e2]; exact hu1⟩, hu1, ih _ h2⟩
    · rename_i n off l e
      obtain ⟨rfl, rfl⟩ := List.cons.inj e
      split at he
      · rename_i hoff
        simp only [Nat.beq_eq] at hoff
        subst hoff
        split at he
        · rename_i x hx
          simp only [Option.map_eq_some_iff] at he
          obtain ⟨ds', h2, rfl⟩ := he
          simp only [RA] at hc
          obtain ⟨b, e1, e2⟩ := hc
          simp only [RDs]
          refine ⟨u, us', rfl, ?_, hu1, ih _ h2⟩
          rw [e2, ← e1]
          exact hbx _ _ hx
        · cases he
      · cases he
    · rename_i cs0 l e
      obtain ⟨rfl, rfl⟩ := List.cons.inj e
      simp only [Option.map_eq_some_iff] at he
      obtain ⟨ds', h2, rfl⟩ := he
      simp only [RDs]
      refine ⟨u, us', rfl, RD.stays st _ _ ?_, hu1, ih _ h2⟩
      simpa only [RA, RD] using hc
    · cases he
theorem lentB_ok {a : Act} (H : Holds s h w val a) : ∀ (k n : Nat) (ds : List D), lentB s ns k n = some ds → ∃ b us, val n = .pointer (some ⟨b, 0, none⟩) ∧ RDs (lentH h w (lentL val s ns)) w ds us ∧
    ∀ j v, us[j]? = some v → w.cell? ((⟨b, 0, none⟩ : Addr).add j) = some v ∧ (⟨b, 0, none⟩ : Addr).off + j < lentH h w (lentL val s ns) b
  | 0, n, ds, he => by simp [lentB] at he
  | k + 1, n, ds, he => by
    simp only [lentB] at he
    split at he
    · rename_i hn
      split at he
      · rename_i cs hl
        obtain ⟨g, us, t, e, hg, hcs, h1, h0⟩ := H.inv.rep (n, .cells cs) (List.mem_append_left _ (lk_mem hl))
        refine ⟨g, us, e, lentC_ok H (bx := fun m => (lentB s ns k m).map .ptr) (fun m x hx => ?_) cs ds us he hcs h1, fun j v hj => ?_⟩
        · simp only [Option.map_eq_some_iff] at hx
          obtain ⟨ds', hd, rfl⟩ := hx
          obtain ⟨b, us', e1, e2, e3⟩ := lentB_ok H k m ds' hd
          simp only [RD]
          exact ⟨_, us', e1, e2, e3⟩
        · have hc : w.cell? ((⟨g, 0, none⟩ : Addr).add j) = some v := by
            rw [Addr.add_lit, Nat.zero_add, cell_of_row w g j ⟨us⟩ t (0, 0) hg]; simpa using hj
          refine ⟨hc, ?_⟩
          rw [Addr.add_lit] at hc
          exact lentH_in (lent_in hn hl rfl (by rw [e]; rfl)) hc
      · cases he
    · cases he
mutual
theorem lentA_ok {a : Act} (H : Holds s h w val a) : ∀ (x : A) (u : Value), RA h w val x u → RA (lentH h w (lentL val s ns)) w val (lentA s ns x) u
  | .row n, u, hr => by
    unfold lentA
    split
    · rename_i x hx
      simp only [RA] at hr ⊢
      rw [hr.1]; exact lentRow_ok H.inv hx
    · exact RA.stays (lentH_stays h w _) _ _ _ hr
  | .box n off, u, hr => by
    unfold lentA
    split
    · rename_i hoff
      simp only [Nat.beq_eq] at hoff
      subst hoff
      split
      · rename_i ds hd
        obtain ⟨b, us, e1, e2, e3⟩ := lentB_ok H _ n ds hd
        simp only [RA] at hr ⊢
        obtain ⟨b', e4, e5⟩ := hr
        rw [e1] at e4
        cases e4
        exact ⟨_, us, e5, e2, e3⟩
      · exact RA.stays (lentH_stays h w _) _ _ _ hr
    · exact RA.stays (lentH_stays h w _) _ _ _ hr
  | .clo f fs cs, u, hr => by
    simp only [lentA, RA] at hr ⊢
    obtain ⟨x, y, e, h1, h2⟩ := hr
    exact ⟨x, y, e, lentAs_ok H fs x h1, lentAs_ok H cs y h2⟩
  | .d x, u, hr => by simpa only [lentA] using RA.stays (lentH_stays h w _) _ _ _ hr
  | .bsl n o l, u, hr => by simpa only [lentA] using RA.stays (lentH_stays h w _) _ _ _ hr
  | .ep n k i o, u, hr => by simpa only [lentA] using RA.stays (lentH_stays h w _) _ _ _ hr
  | .ub, u, hr => by simpa only [lentA] using RA.stays (lentH_stays h w _) _ _ _ hr
  | .eptr cs, u, hr => by simpa only [lentA] using RA.stays (lentH_stays h w _) _ _ _ hr
  | .agg cs, u, hr => by simpa only [lentA] using RA.stays (lentH_stays h w _) _ _ _ hr
  | .tup cs, u, hr => by simpa only [lentA] using RA.stays (lentH_stays h w _) _ _ _ hr
  | .opq x, u, hr => by simpa only [lentA] using RA.stays (lentH_stays h w _) _ _ _ hr
  | .nil, u, hr => by simpa only [lentA] using RA.stays (lentH_stays h w _) _ _ _ hr
  | .any, u, hr => by simpa only [lentA] using RA.stays (lentH_stays h w _) _ _ _ hr
theorem lentAs_ok {a : Act} (H : Holds s h w val a) : ∀ (xs : List A) (us : List Value), RAs h w val xs us → RAs (lentH h w (lentL val s ns)) w val (lentAs s ns xs) us
  | [], us, hr => by simpa only [lentAs, RAs] using hr
  | x :: xs, us, hr => by
    simp only [lentAs, RAs] at hr ⊢
    obtain ⟨u, us', e, h1, h2⟩ := hr
    exact ⟨u, us', e, lentA_ok H x u h1, lentAs_ok H xs us' h2⟩
end
end
theorem acallL_ok {P : Program} {o : Oper} {s : St} {wt : W} {L : Lp} {Φ : Ob} {r : A} (he : acallL P o s wt = some (Φ, r)) : OpOk P o s (Φ.ok P L) r s := by
  intro hΦ h w val a H K Q hK
  unfold acallL at he
  split at he
  · rename_i c ho
    obtain ⟨callee, args, argTypes⟩ := c
    simp only at he
    split at he
    · rename_i g
      split at he
      · rename_i f fs cs ns r' hg
        obtain ⟨us, vs, e1, hfs, hcs⟩ := calleeOf_ok hg (H.ev g)
        split at he
        · rename_i hb
          simp only [Bool.and_eq_true] at hb
          simp only [Option.some.injEq, Prod.mk.injEq] at he
          obtain ⟨rfl, rfl⟩ := he
          simp only [Ob.ok] at hΦ
          unfold Oper.wp
          rw [run_call ho e1 hb.1.1, Oper.upon_enter]
          have hargs : RAs h w val (fs ++ args.toList.map (fun x => s.look (s.ev x)) ++ cs) (us ++ args.toList.map a.eval ++ vs) :=
            (hfs.append (RAs_map (f := fun x => s.look (s.ev x)) (fun x => H.look (H.ev x)) _)).append hcs
          have hargs2 := lentAs_ok (ns := ns) H _ _ hargs
          let L0 := lentL val s ns
          refine (hΦ (lentH h w L0) w val _ (Inv.nil _ w val) hargs2).mono fun e w' hh => ?_
          obtain ⟨h', val', u, rfl, _, hr, hk, _, _⟩ := hh
          let h2 : Hw := fun b => if b < w.heap.size then h b else h' b
          have hk0 : Keep [] h w h2 w' := by
            refine ⟨hk.os, hk.tape, hk.output, hk.size, fun b i v hi hc => hk.cells b i v (Nat.lt_of_lt_of_le hi (lentH_le _ _ _ _)) hc, fun b hb => ?_, fun b hb _ => ⟨(hk.far b hb (by simp [blks])).1, ?_⟩⟩
            · simp only [h2, hb, if_true]; exact Nat.le_refl _
            · simp only [h2, hb, if_true]
          exact hK h2 w' val u (RA.scal hb.2 hr) (H.quiet hk0) ⟨hk0.mono' (fun x hx => by cases hx), fun _ _ => rfl, fun b hb => .inl hb⟩
        · cases he
      · cases he
    · cases he
  · cases he
theorem rw_frz {s : St} {h : Hw} {w : World} {val : Val} {a : Act} (H : Holds s h w val a) {n : Nat} {e : TypeId} {k : Nat} {xs : List D} (hl : lk s.B n = some (.rw e k xs)) :
    ∃ h', Holds { s with B := updB s.B n (.row e k xs) } h' w val a ∧ Nx s h w val { s with B := updB s.B n (.row e k xs) } h' w val := by
  have hmem : (n, Bk.rw e k xs) ∈ s.all := List.mem_append_left _ (lk_mem hl)
  obtain ⟨us, hown, hrow, h0⟩ := H.inv.rep _ hmem
  simp only at hown h0
  let h' : Hw := fun b => if (val n).ownBlock = some b then xs.length * k else h b
  have hgM : ∀ g, (val n).ownBlock = some g → g ∈ blks val s.all := fun g hg => Inv.blk_mem hmem (blkOf_of (vblk_own hg) rfl)
  have hk : Keep (blks val s.all) h w h' w := by
    refine ⟨rfl, rfl, rfl, Nat.le_refl _, fun _ _ _ _ hc => hc, fun b _ => ?_, fun b _ hn => ⟨rfl, ?_⟩⟩
    · show h b ≤ if (val n).ownBlock = some b then _ else h b
      split
      · rename_i e; rw [h0 b e]; exact Nat.zero_le _
      · exact Nat.le_refl _
    · show (if (val n).ownBlock = some b then _ else h b) = h b
      rw [if_neg fun e => hn (hgM b e)]
  have hsame : ∀ b', (n, b') ∈ s.B → b'.isOld = (Bk.row e k xs).isOld := fun b' hb' => by
    have := nodup_names H.inv.nms (List.mem_append_left _ hb') hmem
    rw [this]; rfl
  have hother : ∀ p ∈ s.all, p.1 ≠ n → ∀ b, blkOf val p = some b → h' b = h b := fun p hp hne b hb => by
    show (if (val n).ownBlock = some b then _ else h b) = h b
    refine if_neg fun e => ?_
    have := blk_inj H.inv.bks hp hmem hb (blkOf_of (vblk_own e) rfl)
    rw [this] at hne
    exact hne rfl
  refine ⟨h', ⟨RAs.stays hk.stays _ _ _ H.e, ⟨?_, ?_, ?_⟩, H.far, H.defs⟩, ⟨hk, fun _ _ => rfl, fun b hb => .inl ?_⟩⟩
  · intro p hp
    rcases List.mem_append.1 hp with hp | hp
    · rcases updB_mem hp with rfl | ⟨hp, hne⟩
      · exact ⟨us, hown, RRow.stays hk.stays _ _ _ hrow, fun g hg => if_pos hg⟩
      · exact RB.stays hk.stays (fun b hb => ⟨rfl, hother p (List.mem_append_left _ hp) hne b hb⟩) (H.inv.rep p (List.mem_append_left _ hp))
    · refine RB.stays hk.stays (fun b hb => ⟨rfl, hother p (List.mem_append_right _ hp) (fun e4 => ?_) b hb⟩) (H.inv.rep p (List.mem_append_right _ hp))
      have hnd := H.inv.nms
      simp only [St.all, names_append] at hnd
      have m1 : n ∈ names s.B := by simp only [names, List.mem_map]; exact ⟨_, lk_mem hl, rfl⟩
      have m2 : n ∈ names s.F := by simp only [names, List.mem_map]; exact ⟨p, hp, by rw [e4]⟩
      exact (List.nodup_append.1 hnd).2.2 n m1 n m2 rfl
  · have := H.inv.nms
    simpa only [St.all, names_append, updB_names] using this
  · have := H.inv.bks
    simpa only [St.all, blks_append, updB_blks hsame] using this
  · simpa only [St.all, blks_append, updB_blks hsame] using hb
end Go.Ac
