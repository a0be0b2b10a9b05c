/- Own work: how calls of the model run over plain data. -/
import Derived.Test.YtbmojpadjglncaaGreatAc8
set_option linter.unusedVariables false
set_option linter.unusedSimpArgs false
namespace Go.Ac

def updB (B : Bx) (n : Nat) (b : Bk) : Bx := B.map fun p => if p.1 = n then (n, b) else p

theorem blk_inj {val : Val} : ∀ {B : Bx} {p q : Nat × Bk} {g : Nat}, (blks val B).Nodup → p ∈ B → q ∈ B → blkOf val p = some g → blkOf val q = some g → p = q
  | [], p, q, g, _, hp, _, _, _ => by cases hp
  | r :: B, p, q, g, hn, hp, hq, h1, h2 => by
    have hin : ∀ {x : Nat × Bk}, x ∈ B → blkOf val x = some g → g ∈ blks val B := fun {x} hx hv => by
      simp only [blks, List.mem_filterMap]; exact ⟨x, hx, hv⟩
    cases hr : blkOf val r with
    | none =>
      have e : blks val (r :: B) = blks val B := by simp [blks, hr]
      rw [e] at hn
      rcases List.mem_cons.1 hp with rfl | hp
      · rw [hr] at h1; cases h1
      · rcases List.mem_cons.1 hq with rfl | hq
        · rw [hr] at h2; cases h2
        · exact blk_inj hn hp hq h1 h2
    | some b =>
      have e : blks val (r :: B) = b :: blks val B := by simp [blks, hr]
      rw [e, List.nodup_cons] at hn
      rcases List.mem_cons.1 hp with hp2 | hp2
      · rw [hp2, hr] at h1
        cases h1
        rcases List.mem_cons.1 hq with hq2 | hq2
        · rw [hp2, hq2]
        · exact absurd (hin hq2 h2) hn.1
      · rcases List.mem_cons.1 hq with hq2 | hq2
        · rw [hq2, hr] at h2
          cases h2
          exact absurd (hin hp2 h1) hn.1
        · exact blk_inj hn.2 hp2 hq2 h1 h2

theorem updB_names (B : Bx) (n : Nat) (b : Bk) : names (updB B n b) = names B := by
  simp only [names, updB, List.map_map]
  apply List.map_congr_left
  intro p _
  simp only [Function.comp_apply]
  split
  · rename_i e; exact e.symm
  · rfl
theorem updB_blks {val : Val} {n : Nat} {b : Bk} : ∀ {B : Bx}, (∀ b', (n, b') ∈ B → b'.isOld = b.isOld) → blks val (updB B n b) = blks val B
  | [], _ => rfl
  | p :: B, ho => by
    have ih := updB_blks (val := val) (b := b) (B := B) fun b' hb => ho b' (List.mem_cons_of_mem _ hb)
    have e : blkOf val (if p.1 = n then (n, b) else p) = blkOf val p := by
      split
      · rename_i e
        have h1 := ho p.2 (by rw [← e]; exact List.mem_cons_self)
        simp only [blkOf, e, h1]
      · rfl
    simp only [updB, blks] at ih ⊢
    simp only [List.map_cons, List.filterMap_cons, ih, e]
theorem updB_old {val : Val} {n : Nat} {xs : List D} : ∀ {B : Bx}, (blks val (updB B n (.old xs))).Sublist (blks val B)
  | [] => .slnil
  | p :: B => by
    have ih := updB_old (val := val) (n := n) (xs := xs) (B := B)
    simp only [updB, blks] at ih ⊢
    simp only [List.map_cons]
    split
    · have e : blkOf val (n, Bk.old xs) = none := rfl
      rw [List.filterMap_cons, e]
      cases hv : blkOf val p with
      | none => simp only [List.filterMap_cons, hv]; exact ih
      | some b => simp only [List.filterMap_cons, hv]; exact .cons _ ih
    · cases hv : blkOf val p with
      | none => simp only [List.filterMap_cons, hv]; exact ih
      | some b => simp only [List.filterMap_cons, hv]; exact .cons_cons _ ih
theorem updB_mem {B : Bx} {n : Nat} {b : Bk} {p : Nat × Bk} (h : p ∈ updB B n b) : p = (n, b) ∨ (p ∈ B ∧ p.1 ≠ n) := by
  simp only [updB, List.mem_map] at h
  obtain ⟨q, hq, e⟩ := h
  split at e
  · exact .inl e.symm
  · rename_i hne; subst e; exact .inr ⟨hq, hne⟩

theorem Holds.add {s : St} {h h' : Hw} {w w' : World} {val : Val} {a : Act} (H : Holds s h w val a) {n : Nat} (hn : n < up) (hE : hasAny n s.E = false) (hB : bxHas n s.B = false)
    {M : List Nat} (hk : Keep M h w h' w') (hM : ∀ b ∈ blks val s.all, b ∉ M) (hMd : ∀ b ∈ M, ∀ o, w.heap[b]? = some o → isDef o = false) (v : Value) (bk : Bk) (hvb : ∀ b, vblk v = some b → b ∉ blks val s.all) (hold : bk.isOld = false)
    (hrb : RB h' w' (setV val n v) n bk) :
    Holds { s with B := (n, bk) :: s.B } h' w' (setV val n v) a ∧ blks (setV val n v) ((n, bk) :: s.all) = (vblk v).toList ++ blks val s.all := by
  have hv : ∀ m, m ≠ n → setV val n v m = val m := fun m hm => by simp [setV, hm]
  have hap : ∀ p ∈ s.all, p.1 ≠ n ∧ p.2.has n = false := fun p hp => by
    rcases List.mem_append.1 hp with hp | hp
    · exact bxHas_spec hB p hp
    · exact H.far n (.inl hn) p hp
  have hbl : blks (setV val n v) s.all = blks val s.all := blks_congr fun m hm => by
    simp only [names, List.mem_map] at hm
    obtain ⟨p, hp, rfl⟩ := hm
    exact hv _ (hap p hp).1
  have hall : ({ s with B := (n, bk) :: s.B } : St).all = (n, bk) :: s.all := rfl
  have hblk : blks (setV val n v) ((n, bk) :: s.all) = (vblk v).toList ++ blks val s.all := by
    rw [← hbl]
    have e : blkOf (setV val n v) (n, bk) = vblk v := by simp [blkOf, hold, setV]
    simp only [blks, List.filterMap_cons, e]
    cases vblk v <;> simp
  refine ⟨⟨RAs.upd hv _ _ hE (RAs.stays hk.stays _ _ _ H.e), ⟨?_, ?_, ?_⟩, H.far, H.defs.keep' hk hMd (hv _ (by have : n < up := hn; simp only [up] at this; simp only [bn]; omega))⟩, hblk⟩
  · intro p hp
    rw [hall] at hp
    rcases List.mem_cons.1 hp with rfl | hp
    · exact hrb
    · refine RB.upd hv (hap p hp).1 (hap p hp).2 (RB.stays hk.stays (fun g hg => ?_) (H.inv.rep p hp))
      have hm : g ∈ blks val s.all := by simp only [blks, List.mem_filterMap]; exact ⟨p, hp, hg⟩
      exact hk.far g (H.inv.blk_lt g hm) (hM g hm)
  · rw [hall]
    simp only [names, List.map_cons, List.nodup_cons]
    refine ⟨fun hm => ?_, H.inv.nms⟩
    obtain ⟨p, hp, he⟩ := List.mem_map.1 hm
    exact (hap p hp).1 he
  · rw [hall, hblk]
    cases hvv : vblk v with
    | none => simpa using H.inv.bks
    | some b =>
      simp only [Option.toList_some, List.singleton_append, List.nodup_cons]
      exact ⟨hvb b hvv, H.inv.bks⟩

theorem Keep.mono' {M M' : List Nat} {h h' w w'} (k : Keep M h w h' w') (hs : ∀ x ∈ M, x ∈ M' ∨ w.heap.size ≤ x) : Keep M' h w h' w' :=
  ⟨k.os, k.tape, k.output, k.size, k.cells, k.mono, fun b hb hn => k.far b hb fun hm => by
    rcases hs b hm with h | h
    · exact hn h
    · omega⟩

theorem nodup_names {B : Bx} {n : Nat} {b b' : Bk} (h : (names B).Nodup) (h1 : (n, b) ∈ B) (h2 : (n, b') ∈ B) : b = b' := by
  induction B with
  | nil => cases h1
  | cons p B ih =>
    simp only [names, List.map_cons, List.nodup_cons] at h
    rcases List.mem_cons.1 h1 with e1 | h1
    · rcases List.mem_cons.1 h2 with e2 | h2
      · rw [← e1] at e2; injection e2 with _ e2; exact e2.symm
      · exact absurd (by rw [← e1]; exact List.mem_map.2 ⟨_, h2, rfl⟩) h.1
    · rcases List.mem_cons.1 h2 with e2 | h2
      · exact absurd (by rw [← e2]; exact List.mem_map.2 ⟨_, h1, rfl⟩) h.1
      · exact ih h.2 h1 h2

theorem Holds.old {s : St} {h w val a} (H : Holds s h w val a) {n : Nat} {e k} {xs : List D} (hl : lk s.B n = some (.row e k xs)) :
    Holds { s with B := updB s.B n (.old xs) } h w val a ∧ (∀ b ∈ blks val ({ s with B := updB s.B n (.old xs) } : St).all, b ∈ blks val s.all) ∧
      ∀ g, vblk (val n) = some g → g ∉ blks val ({ s with B := updB s.B n (.old xs) } : St).all := by
  have hmem : (n, Bk.row e k xs) ∈ s.all := List.mem_append_left _ (lk_mem hl)
  have hdat := RB.data (H.inv.rep _ hmem)
  have hsub : (blks val ({ s with B := updB s.B n (.old xs) } : St).all).Sublist (blks val s.all) := by
    simp only [St.all, blks_append]
    exact updB_old.append (.refl _)
  have hnF : ∀ p ∈ s.F, p.1 ≠ n := fun p hp e => by
    have hnd := H.inv.nms
    simp only [St.all, names_append] at hnd
    exact (List.nodup_append.1 hnd).2.2 n (List.mem_map.2 ⟨_, lk_mem hl, rfl⟩) n (List.mem_map.2 ⟨p, hp, e⟩) rfl
  refine ⟨⟨H.e, ⟨fun p hp => ?_, ?_, H.inv.bks.sublist hsub⟩, H.far, H.defs⟩, fun b hb => hsub.subset hb, fun g hg hin => ?_⟩
  · rcases List.mem_append.1 hp with hp | hp
    · rcases updB_mem hp with rfl | ⟨hp, _⟩
      · exact hdat
      · exact H.inv.rep p (List.mem_append_left _ hp)
    · exact H.inv.rep p (List.mem_append_right _ hp)
  · have := H.inv.nms
    simpa only [St.all, names_append, updB_names] using this
  · simp only [blks, List.mem_filterMap] at hin
    obtain ⟨p, hp, hpg⟩ := hin
    have key : ∀ q ∈ s.all, q.1 ≠ n → blkOf val q = some g → False := fun q hq hne hqg => by
      have := blk_inj H.inv.bks hq hmem hqg (blkOf_of hg rfl)
      rw [this] at hne
      exact hne rfl
    rcases List.mem_append.1 hp with hp | hp
    · rcases updB_mem hp with rfl | ⟨hp, hne⟩
      · simp [blkOf, Bk.isOld] at hpg
      · exact key p (List.mem_append_left _ hp) hne hpg
    · exact key p (List.mem_append_right _ hp) (hnF p hp) hpg

theorem Inv.blk_mem {val : Val} {B : Bx} {p : Nat × Bk} {g : Nat} (hp : p ∈ B) (hg : blkOf val p = some g) : g ∈ blks val B := by
  simp only [blks, List.mem_filterMap]; exact ⟨p, hp, hg⟩

theorem Holds.fresh {s : St} {h : Hw} {w : World} {val : Val} {a : Act} (H : Holds s h w val a) {n : Nat} (hn : n < up) (hE : hasAny n s.E = false) (hB : bxHas n s.B = false)
    (o : Obj) (v : Value) (k : Nat) (bk : Bk) (hvb : vblk v = some w.heap.size) (hold : bk.isOld = false) (hrb : RB (setH h w.heap.size k) (w.alloc o) (setV val n v) n bk) :
    Holds { s with B := (n, bk) :: s.B } (setH h w.heap.size k) (w.alloc o) (setV val n v) a ∧
    Nx s h w val { s with B := (n, bk) :: s.B } (setH h w.heap.size k) (w.alloc o) (setV val n v) := by
  have hk := keep_new [] h w o k
  obtain ⟨h1, h2⟩ := H.add hn hE hB hk (fun _ _ hm => by cases hm) (fun _ hm => by cases hm) v bk (fun b hb hin => by
    rw [hvb] at hb; injection hb with hb
    have := H.inv.blk_lt b hin
    omega) hold hrb
  refine ⟨h1, ⟨keep_new _ h w o k, fun m hm => ?_, fun b hb => ?_⟩⟩
  · have : m ≠ n := Nat.ne_of_gt (Nat.lt_of_lt_of_le hn (up_le hm))
    simp [setV, this]
  · have hb' : b ∈ blks (setV val n v) ((n, bk) :: s.all) := hb
    rw [h2, hvb] at hb'
    rcases List.mem_append.1 hb' with hb' | hb'
    · simp at hb'; subst hb'; exact .inr (Nat.le_refl _)
    · exact .inl hb'

inductive Ed where
  | add (n : Nat) (b : Bk)
  | chg (n : Nat) (b : Bk)
def insB (n : Nat) (b : Bk) : Bx → Bx
  | [] => [(n, b)]
  | p :: B => if Nat.ble n p.1 then (n, b) :: p :: B else p :: insB n b B
theorem insB_perm (n : Nat) (b : Bk) : ∀ B : Bx, (insB n b B).Perm ((n, b) :: B)
  | [] => .refl _
  | p :: B => by
    simp only [insB]
    split
    · exact .refl _
    · exact (List.Perm.cons p (insB_perm n b B)).trans (.swap _ _ _)
theorem Inv.perm {h w val} {B B' : Bx} (hp : B.Perm B') (I : Inv h w val B) : Inv h w val B' :=
  ⟨fun p hm => I.rep p (hp.mem_iff.2 hm), (hp.map _).nodup_iff.1 I.nms, (hp.filterMap _).nodup_iff.1 I.bks⟩
theorem Holds.perm {s : St} {B : Bx} {h w val a} (hp : s.B.Perm B) (H : Holds s h w val a) : Holds { s with B := B } h w val a :=
  ⟨H.e, H.inv.perm (hp.append_right _), H.far, H.defs⟩
theorem Nx.perm {s s' : St} {B : Bx} {h w val h' w' val'} (hp : s'.B.Perm B) (n : Nx s h w val s' h' w' val') : Nx s h w val { s' with B := B } h' w' val' :=
  ⟨n.keep, n.vals, fun b hb => n.new b (((hp.append_right s'.F).filterMap (blkOf val')).mem_iff.2 hb)⟩
theorem Holds.ins {E : List A} {B F : Bx} {d : Nat} {b : Bk} {h w val a} (H : Holds ⟨E, (d, b) :: B, F⟩ h w val a) : Holds ⟨E, insB d b B, F⟩ h w val a :=
  Holds.perm (s := ⟨E, (d, b) :: B, F⟩) (insB_perm d b B).symm H
theorem Nx.ins {s : St} {E : List A} {B F : Bx} {d : Nat} {b : Bk} {h w val h' w' val'} (n : Nx s h w val ⟨E, (d, b) :: B, F⟩ h' w' val') : Nx s h w val ⟨E, insB d b B, F⟩ h' w' val' :=
  Nx.perm (s' := ⟨E, (d, b) :: B, F⟩) (insB_perm d b B).symm n
def applyEd (B : Bx) : Ed → Bx
  | .add n b => insB n b B
  | .chg n b => updB B n b
def St.edit (s : St) (es : List Ed) : St := { s with B := es.foldl applyEd s.B }

def OpOk (P : Program) (o : Oper) (s : St) (Φ : Prop) (r : A) (s' : St) : Prop :=
  Φ → ∀ h w val a, Holds s h w val a → ∀ (K : Act → World → Prop) (Q : Exit → Act → World → Prop),
    (∀ h' w' val' u, RA h' w' val' r u → Holds s' h' w' val' a → Nx s h w val s' h' w' val' → K (a.put o.dst u) w') → o.wp P a w K Q

theorem wp_of_run {P : Program} {o : Oper} {a : Act} {w w' : World} {K : Act → World → Prop} {Q : Exit → Act → World → Prop} {u : Value}
    (h : (execOp a.eval o).run P w = .ok (.value u) w') (hK : K (a.put o.dst u) w') : o.wp P a w K Q := by
  unfold Oper.wp
  rw [h]
  exact hK
theorem wp_of_skip {P : Program} {o : Oper} {a : Act} {w w' : World} {K : Act → World → Prop} {Q : Exit → Act → World → Prop}
    (h : (execOp a.eval o).run P w = .ok .skip w') (hK : K (a.put o.dst undef) w') : o.wp P a w K Q := by
  unfold Oper.wp
  rw [h]
  exact hK

theorem pure_ok {P : Program} {o : Oper} {s : St} {wt : W} {Φ : Cn} {r : A} (he : apure P o s.ev (fun x => s.look (s.ev x)) wt = some (Φ, r)) : OpOk P o s Φ.ok r s := by
  intro hΦ h w val a H K Q hK
  obtain ⟨u, h1, h2⟩ := apure_ok (ρ := a.eval) (fun x => H.ev x) (fun x => H.look (H.ev x)) he hΦ
  exact wp_of_run h1 (hK h w val u h2 H (Nx.refl s h w val rfl))

def aload (P : Program) (o : Oper) (s : St) (wt : W) : Option (Cn × A) :=
  match o.op with
  | .load t x => match s.ev x with
    | .box n off => match lk s.B n with
      | some (.cells cs) => (partA P t cs off).map fun v => concA v wt
      | some (.fz cs) => (partA P t (cs.map .d) off).map fun v => concA v wt
      | _ => none
    | _ => none
  | _ => none
theorem aload_ok {P : Program} {o : Oper} {s : St} {wt : W} {Φ : Cn} {r : A} (he : aload P o s wt = some (Φ, r)) : OpOk P o s Φ.ok r s := by
  intro hΦ h w val a H K Q hK
  unfold aload at he
  split at he
  · rename_i t x ho
    split at he
    · rename_i n off hx
      split at he
      · rename_i cs hl
        simp only [Option.map_eq_some_iff] at he
        obtain ⟨v, hv, he⟩ := he
        have hx' := H.ev x
        rw [hx] at hx'
        simp only [RA] at hx'
        obtain ⟨b, e1, e2⟩ := hx'
        have hb := H.inv.rep (n, .cells cs) (List.mem_append_left _ (lk_mem hl))
        obtain ⟨g, us, ty, e3, hg, hr, h1, _⟩ := hb
        simp only at e3
        rw [e1] at e3
        cases e3
        obtain ⟨u, g1, g2⟩ := loadA_ok (P := P) (a := ⟨b, 0, none⟩) hv hr h1 (fun j v hj => by
          rw [Addr.add_lit, Nat.zero_add, cell_of_row w b j ⟨us⟩ ty (0, 0) hg]; simpa using hj)
        rw [Addr.add_lit, Nat.zero_add] at g1
        refine wp_of_run (u := u) (w' := w) ?_ (hK h w val u (concA_ok he hΦ g2) H (Nx.refl s h w val rfl))
        simp [execOp, ho, e2, Instr.loadAt, Instr.sureAddr, g1]
      · rename_i cs hl
        simp only [Option.map_eq_some_iff] at he
        obtain ⟨v, hv, he⟩ := he
        have hx' := H.ev x
        rw [hx] at hx'
        simp only [RA] at hx'
        obtain ⟨b, e1, e2⟩ := hx'
        have hb := H.inv.rep (n, .fz cs) (List.mem_append_left _ (lk_mem hl))
        obtain ⟨g, us, e3, hr, hc⟩ := hb
        simp only at e3
        rw [e1] at e3
        cases e3
        obtain ⟨u, g1, g2⟩ := loadA_ok (P := P) (val := val) (a := ⟨b, 0, none⟩) hv (RDs_map_d hr) hr.one (fun j v hj => by
          rw [Addr.add_lit, Nat.zero_add]; exact (hc j v hj).1)
        rw [Addr.add_lit, Nat.zero_add] at g1
        refine wp_of_run (u := u) (w' := w) ?_ (hK h w val u (concA_ok he hΦ g2) H (Nx.refl s h w val rfl))
        simp [execOp, ho, e2, Instr.loadAt, Instr.sureAddr, g1]
      · cases he
    · cases he
  · cases he

def cstA : Value → A
  | .slice none 0 0 => .nil
  | x => .d (.v x)
theorem RAs_cstA {h w val} : ∀ (l : List Value), (∀ x ∈ l, x.oneCell' = true) → RAs h w val (l.map cstA) l
  | [], _ => by simp [RAs]
  | x :: l, hl => by
    simp only [List.map_cons, RAs]
    refine ⟨x, l, rfl, ?_, RAs_cstA l fun y hy => hl y (by simp [hy])⟩
    unfold cstA
    split
    · simp [RA]
    · simp [RA, RD, hl x (by simp)]
theorem hasAny_cstA (n : Nat) : ∀ l : List Value, hasAny n (l.map cstA) = false
  | [] => rfl
  | x :: l => by
    simp only [List.map_cons, hasAny, hasAny_cstA n l, Bool.or_false]
    unfold cstA
    split <;> rfl
def abox (P : Program) (o : Oper) (s : St) : Option (A × List Ed) :=
  match o.dst with
  | none => none
  | some d =>
    if d < up && !hasAny d s.E && !bxHas d s.B then
      match o.op with
      | .alloc t => match (P.info? t).bind (·.zero) with
        | some z => if z.cells.toList.all (·.oneCell') then some (.box d 0, [.add d (.cells (z.cells.toList.map cstA))]) else none
        | none => none
      | .box _ x => match (s.ev x).cells with
        | some cs => if hasAny d cs then none else some (.box d 0, [.add d (.cells cs)])
        | none => none
      | _ => none
    else none

theorem hasAny_map_d (n : Nat) : ∀ xs : List D, hasAny n (xs.map .d) = false
  | [] => rfl
  | x :: xs => by simp [hasAny, A.has, hasAny_map_d n xs]
theorem box_step {P : Program} {o : Oper} {s : St} {h : Hw} {w : World} {val : Val} {a : Act} {K : Act → World → Prop} {Q : Exit → Act → World → Prop} {d : Nat} {t : TypeId} {z : Value} {cs : List A}
    (H : Holds s h w val a) (hd : d < up) (hE : hasAny d s.E = false) (hB : bxHas d s.B = false) (hcs : hasAny d cs = false)
    (hz : RAs h w val cs z.cells.toList) (hz1 : ∀ c ∈ z.cells.toList, c.oneCell' = true)
    (hrun : (execOp a.eval o).run P w = .ok (.value (.pointer (some ⟨w.heap.size, 0, none⟩))) (w.alloc (.cells z.cells t)))
    (hK : ∀ h' w' val' u, RA h' w' val' (.box d 0) u → Holds (s.edit [.add d (.cells cs)]) h' w' val' a → Nx s h w val (s.edit [.add d (.cells cs)]) h' w' val' → K (a.put o.dst u) w') : o.wp P a w K Q := by
  have hv : ∀ m, m ≠ d → setV val d (.pointer (some ⟨w.heap.size, 0, none⟩)) m = val m := fun m hm => by simp [setV, hm]
  have hvd : setV val d (.pointer (some ⟨w.heap.size, 0, none⟩)) d = .pointer (some ⟨w.heap.size, 0, none⟩) := by simp [setV]
  have hk := keep_new (blks val s.all) h w (.cells z.cells t) 0
  obtain ⟨h1, h2⟩ := H.fresh hd hE hB (.cells z.cells t) (.pointer (some ⟨w.heap.size, 0, none⟩)) 0 (.cells cs) rfl rfl
    ⟨w.heap.size, z.cells.toList, t, hvd, heap_alloc_new w _, RAs.upd hv _ _ hcs (RAs.stays hk.stays _ _ _ hz), hz1, by simp [setH]⟩
  exact wp_of_run hrun (hK _ _ _ _ (by simp only [RA]; exact ⟨_, hvd, rfl⟩) h1.ins h2.ins)

theorem abox_ok {P : Program} {o : Oper} {s : St} {r : A} {es : List Ed} (he : abox P o s = some (r, es)) : OpOk P o s True r (s.edit es) := by
  intro _ h w val a H K Q hK
  unfold abox at he
  split at he
  · cases he
  · rename_i d hd
    split at he
    · rename_i hc
      simp only [Bool.and_eq_true, decide_eq_true_eq, Bool.not_eq_true'] at hc
      split at he
      · rename_i t ho
        split at he
        · rename_i z hz
          split at he
          · rename_i hcs
            simp only [Option.some.injEq, Prod.mk.injEq] at he
            obtain ⟨rfl, rfl⟩ := he
            have hz1 : ∀ c ∈ z.cells.toList, c.oneCell' = true := fun c hc => (List.all_eq_true.1 hcs) c hc
            refine box_step (t := t) H hc.1.1 hc.1.2 hc.2 (hasAny_cstA d _) (RAs_cstA _ hz1) hz1 ?_ hK
            simp only [Option.bind_eq_some_iff] at hz
            obtain ⟨i, hi, hz⟩ := hz
            simp [execOp, ho, Instr.alloc, zeroValue, typeInfo, hi, hz, newVar, newRow]
          · cases he
        · cases he
      · rename_i t x ho
        split at he
        · rename_i cs hcs
          split at he
          · cases he
          · rename_i hh
            simp only [Option.some.injEq, Prod.mk.injEq] at he
            obtain ⟨rfl, rfl⟩ := he
            have hz' := A.cells_ok hcs (H.ev x)
            refine box_step (t := t) H hc.1.1 hc.1.2 hc.2 (by simpa using hh) hz'.1 hz'.2 ?_ hK
            simp [execOp, ho, Instr.box, newVar, newRow]
        · cases he
      · cases he
    · cases he

theorem setRow_keep {h : Hw} {w : World} {g : Nat} {M : List Nat} {cs cs' : Array Value} {t : TypeId} (hg : w.heap[g]? = some (.cells cs t (0, 0))) (h0 : h g = 0) (hM : g ∈ M) : Keep M h w h (w.setRow g cs') where
  os := rfl
  tape := rfl
  output := rfl
  size := by simp
  cells := fun b i v hi hc => by
    have hne : b ≠ g := fun e => by subst e; omega
    rw [World.cell?_of_block (w := w) (a := ⟨b, i, none⟩) (setRow_other w g b _ hne)]
    exact hc
  mono := fun _ _ => Nat.le_refl _
  far := fun b _ hn => ⟨setRow_other w g b _ fun e => hn (e ▸ hM), rfl⟩

def astore (P : Program) (o : Oper) (s : St) : Option (List Ed) :=
  match o.op with
  | .store t x y => match s.ev x with
    | .box n off => match lk s.B n, (s.ev y).cells with
      | some (.cells cs), some vs => if (P.info? t).isSome && vs.length == P.cellsOf t && Nat.ble (off + vs.length) cs.length then some [.chg n (.cells (cs.take off ++ vs ++ cs.drop (off + vs.length)))] else none
      | _, _ => none
    | _ => none
  | _ => none
theorem astore_ok {P : Program} {o : Oper} {s : St} {es : List Ed} (he : astore P o s = some es) : OpOk P o s True .any (s.edit es) := by
  intro _ h w val a H K Q hK
  unfold astore at he
  split at he
  · rename_i t x y ho
    split at he
    · rename_i n off hx
      split at he
      · rename_i cs vs hl hv
        split at he
        · rename_i hc
          simp only [Bool.and_eq_true, beq_iff_eq, Nat.ble_eq] at hc
          simp only [Option.some.injEq] at he
          have hx' := H.ev x
          rw [hx] at hx'
          simp only [RA] at hx'
          obtain ⟨g, e1, e2⟩ := hx'
          have hmem : (n, Bk.cells cs) ∈ s.all := List.mem_append_left _ (lk_mem hl)
          obtain ⟨g', us, ty, e3, hg, hr, h1, h0⟩ := H.inv.rep _ hmem
          simp only at e3
          rw [e1] at e3
          cases e3
          have hy := A.cells_ok hv (H.ev y)
          have hlen : us.length = cs.length := hr.length
          have hvl : (a.eval y).cells.toList.length = vs.length := hy.1.length
          have hst := run_storeCells_at P g off ty (a.eval y).cells.toList 0 ⟨us⟩ w hg (by simp only [Nat.add_zero]; rw [hvl]; simp only [List.size_toArray]; omega) hy.2
          simp only [Nat.add_zero] at hst
          have hgM : g ∈ blks val s.all := by
            exact Inv.blk_mem hmem (blkOf_of (by simp only [e1, vblk]) rfl)
          have hk : Keep (blks val s.all) h w h (w.setRow g (us.take off ++ (a.eval y).cells.toList ++ us.drop (off + (a.eval y).cells.toList.length)).toArray) := setRow_keep hg h0 hgM
          have hsame : ∀ b', (n, b') ∈ s.B → b'.isOld = (Bk.cells (cs.take off ++ vs ++ cs.drop (off + vs.length))).isOld := fun b' hb' => by
            have := nodup_names H.inv.nms (List.mem_append_left _ hb') hmem
            rw [this]; rfl
          refine wp_of_skip (w' := w.setRow g (us.take off ++ (a.eval y).cells.toList ++ us.drop (off + (a.eval y).cells.toList.length)).toArray) ?_ ?_
          · have hsz : (a.eval y).cells.size = P.cellsOf t := by have := hvl; simp at this; omega
            simp only [execOp, ho, Sem.run_bind, Instr.storeAt, e2, Instr.sureAddr, Sem.run_pure, Result.andThen_ok, storeVar, run_size' hc.1.1, hsz, ne_eq, not_true_eq_false, if_false, hst]
          · refine hK h _ val undef (by simp [RA]) ?_ ⟨hk, fun _ _ => rfl, fun b hb => .inl ?_⟩
            · subst he
              refine ⟨RAs.stays hk.stays _ _ _ H.e, ⟨?_, ?_, ?_⟩, H.far, H.defs.keep H.inv hk (fun b hb => hb) rfl⟩
              · intro p hp
                rcases List.mem_append.1 hp with hp | hp
                · rcases updB_mem hp with rfl | ⟨hp, hne⟩
                  · refine ⟨g, _, ty, e1, setRow_heap w g _ _ ty _ hg, ?_, ?_, h0⟩
                    · refine RAs.stays hk.stays _ _ _ (((hr.take off).append hy.1).append ?_)
                      rw [hvl]
                      exact hr.drop _
                    · intro u hu
                      rcases List.mem_append.1 hu with hu | hu
                      · rcases List.mem_append.1 hu with hu | hu
                        · exact h1 u (List.mem_of_mem_take hu)
                        · exact hy.2 u hu
                      · exact h1 u (List.mem_of_mem_drop hu)
                  · refine RB.stays hk.stays (fun b hb => ⟨setRow_other w g b _ fun e => ?_, rfl⟩) (H.inv.rep p (List.mem_append_left _ hp))
                    subst e
                    have := blk_inj H.inv.bks (List.mem_append_left _ hp) hmem hb (blkOf_of (by simp only [e1, vblk]) rfl)
                    rw [this] at hne
                    exact hne rfl
                · refine RB.stays hk.stays (fun b hb => ⟨setRow_other w g b _ fun e => ?_, rfl⟩) (H.inv.rep p (List.mem_append_right _ hp))
                  subst e
                  have e4 := blk_inj H.inv.bks (List.mem_append_right _ hp) hmem hb (blkOf_of (by simp only [e1, vblk]) rfl)
                  have hnd := H.inv.nms
                  simp only [St.all, names_append] at hnd
                  have m1 : n ∈ names s.B := by simp only [names, List.mem_map]; exact ⟨_, lk_mem hl, rfl⟩
                  have m2 : n ∈ names s.F := by simp only [names, List.mem_map]; exact ⟨p, hp, by rw [e4]⟩
                  exact (List.nodup_append.1 hnd).2.2 n m1 n m2 rfl
              · have := H.inv.nms
                simpa only [St.all, St.edit, List.foldl_cons, List.foldl_nil, applyEd, names_append, updB_names] using this
              · have := H.inv.bks
                simpa only [St.all, St.edit, List.foldl_cons, List.foldl_nil, applyEd, blks_append, updB_blks hsame] using this
            · subst he
              simpa only [St.all, St.edit, List.foldl_cons, List.foldl_nil, applyEd, blks_append, updB_blks hsame] using hb
        · cases he
      · cases he
    · cases he
  · cases he

end Go.Ac
