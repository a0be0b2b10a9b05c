/- Own work: how calls of the model run over plain data. -/
import Derived.Test.YtbmojpadjglncaaGreatAc10f
import Derived.MapKept
set_option linter.unusedVariables false
set_option linter.unusedSimpArgs false
namespace Go.Ac
open Go.MapKept

theorem REs.append {h w} : ∀ {xs : List (Nat × D × D)} {l : List MapEntry} {ys m}, REs h w xs l → REs h w ys m → REs h w (xs ++ ys) (l ++ m)
  | [], _, _, _, hl, hr => by simp only [REs] at hl; subst hl; exact hr
  | x :: xs, _, _, _, ⟨e, l', a, b, c, d, r⟩, hr => by
    subst a
    exact ⟨e, l' ++ _, rfl, b, c, d, REs.append r hr⟩
theorem REs.split {h w} : ∀ {pre : List (Nat × D × D)} {x post} {l : List MapEntry}, REs h w (pre ++ x :: post) l → ∃ lp e lq, l = lp ++ e :: lq ∧ lp.length = pre.length ∧ REs h w pre lp ∧ e.born = x.1 ∧ RD h w x.2.1 e.key ∧ RD h w x.2.2 e.val ∧ REs h w post lq
  | [], x, post, l, ⟨e, l', a, b, c, d, r⟩ => ⟨[], e, l', a, rfl, rfl, b, c, d, r⟩
  | y :: pre, x, post, l, ⟨e, l', a, b, c, d, r⟩ => by
    obtain ⟨lp, e2, lq, q1, q2, q3, q4⟩ := REs.split r
    refine ⟨e :: lp, e2, lq, by rw [a, q1]; rfl, by simp [q2], ⟨e, lp, rfl, b, c, d, q3⟩, q4⟩
theorem REs.length {h w} : ∀ {xs : List (Nat × D × D)} {l : List MapEntry}, REs h w xs l → l.length = xs.length
  | [], _, hl => by simp only [REs] at hl; subst hl; rfl
  | x :: xs, _, ⟨e, l', a, b, c, d, r⟩ => by subst a; simp [REs.length r]
theorem REs.mem {h w} : ∀ {xs : List (Nat × D × D)} {l : List MapEntry}, REs h w xs l → ∀ e ∈ l, ∃ x ∈ xs, e.born = x.1 ∧ RD h w x.2.1 e.key ∧ RD h w x.2.2 e.val
  | [], _, hl, e, he => by simp only [REs] at hl; subst hl; simp at he
  | x :: xs, _, ⟨e0, l', a, b, c, d, r⟩, e, he => by
    subst a
    rcases List.mem_cons.1 he with rfl | he
    · exact ⟨x, by simp, b, c, d⟩
    · obtain ⟨y, hy, q⟩ := REs.mem r e he
      exact ⟨y, by simp [hy], q⟩
theorem REs.born {h w} : ∀ {xs : List (Nat × D × D)} {l : List MapEntry}, REs h w xs l → l.map (·.born) = xs.map (·.1)
  | [], _, hl => by simp only [REs] at hl; subst hl; rfl
  | x :: xs, _, ⟨e, l', a, b, c, d, r⟩ => by subst a; simp [b, REs.born r]

def KOk (P : Program) (kt : TypeId) (x : D) : Prop := ∃ d v, P.underlying kt = some d ∧ x = .v v ∧ IsKey d v
def MGet (P : Program) (kt : TypeId) (z : D) (es : List (Nat × D × D)) (kd vd : D) (ok : Bool) : Prop :=
  (∀ x ∈ es, KOk P kt x.2.1) ∧ KOk P kt kd ∧ ((ok = true ∧ ∃ (pre : List (Nat × D × D)) (s : Nat) (post : List (Nat × D × D)), es = pre ++ (s, kd, vd) :: post ∧ ∀ x ∈ pre, x.2.1 ≠ kd) ∨ (ok = false ∧ vd = z ∧ ∀ x ∈ es, x.2.1 ≠ kd))
def MPut (P : Program) (kt : TypeId) (es : List (Nat × D × D)) (kd vd : D) (clk : Nat) (es' : List (Nat × D × D)) (clk' : Nat) : Prop :=
  (∀ x ∈ es, KOk P kt x.2.1) ∧ KOk P kt kd ∧ ((clk' = clk ∧ ∃ (pre : List (Nat × D × D)) (s : Nat) (v0 : D) (post : List (Nat × D × D)), es = pre ++ (s, kd, v0) :: post ∧ (∀ x ∈ pre, x.2.1 ≠ kd) ∧ es' = pre ++ (s, kd, vd) :: post) ∨ (clk' = clk + 1 ∧ es' = es ++ [(clk, kd, vd)] ∧ ∀ x ∈ es, x.2.1 ≠ kd))
def MEnt (P : Program) (kt : TypeId) (z : D) (es : List (Nat × D × D)) (kd : D) (clk : Nat) (es' : List (Nat × D × D)) (clk' : Nat) (v : D) (st : Nat) : Prop :=
  (∀ x ∈ es, KOk P kt x.2.1) ∧ KOk P kt kd ∧ st ≤ 4611686018427387904 ∧ ((clk' = clk ∧ es' = es ∧ ∃ (pre post : List (Nat × D × D)), es = pre ++ (st, kd, v) :: post ∧ ∀ x ∈ pre, x.2.1 ≠ kd) ∨ (clk' = clk + 1 ∧ st = clk ∧ v = z ∧ es' = es ++ [(clk, kd, z)] ∧ ∀ x ∈ es, x.2.1 ≠ kd))
def MSto (es : List (Nat × D × D)) (st : Int) (vd : D) (es' : List (Nat × D × D)) : Prop :=
  ∃ (pre : List (Nat × D × D)) (s : Nat) (kd v0 : D) (post : List (Nat × D × D)), st = (s : Int) ∧ es = pre ++ (s, kd, v0) :: post ∧ (∀ x ∈ pre, x.1 ≠ s) ∧ es' = pre ++ (s, kd, vd) :: post
def MDel (P : Program) (kt : TypeId) (es : List (Nat × D × D)) (kd : D) (es' : List (Nat × D × D)) : Prop :=
  (∀ x ∈ es, KOk P kt x.2.1) ∧ KOk P kt kd ∧ ((∃ (pre : List (Nat × D × D)) (s : Nat) (v0 : D) (post : List (Nat × D × D)), es = pre ++ (s, kd, v0) :: post ∧ (∀ x ∈ pre, x.2.1 ≠ kd) ∧ es' = pre ++ post) ∨ (es' = es ∧ ∀ x ∈ es, x.2.1 ≠ kd))
def MLen (es : List (Nat × D × D)) (n : Int) : Prop := (es.length : Int) = n ∧ n ≤ 4611686018427387904

theorem RD_v {h w} {v u : Value} (hr : RD h w (.v v) u) : u = v := by simp only [RD] at hr; exact hr.1
theorem find_at {P : Program} {h : Hw} {w : World} {kt : TypeId} {pre : List (Nat × D × D)} {s : Nat} {kd v0 : D} {post : List (Nat × D × D)} {l : List MapEntry} {key : Value} (hr : REs h w (pre ++ (s, kd, v0) :: post) l)
    (hK : ∀ x ∈ pre ++ (s, kd, v0) :: post, KOk P kt x.2.1) (hk : KOk P kt kd) (hne : ∀ x ∈ pre, x.2.1 ≠ kd) (hkr : RD h w kd key) :
    ∃ lp e lq d, l = lp ++ e :: lq ∧ lp.length = pre.length ∧ REs h w pre lp ∧ e.born = s ∧ e.key = key ∧ RD h w v0 e.val ∧ REs h w post lq ∧ P.underlying kt = some d ∧ IsKey d key ∧ Instr.findNow d key l 0 = some (some (pre.length, e.val)) := by
  obtain ⟨lp, e, lq, e1, e2, e3, e4, e5, e6, e7⟩ := REs.split hr
  obtain ⟨d, v, hd, rfl, hv⟩ := hk
  have hkv : key = v := RD_v hkr
  subst hkv
  have hek : e.key = key := RD_v e5
  have hall : ∀ x ∈ l, IsKey d x.key := fun x hx => by
    obtain ⟨y, hy, _, q, _⟩ := REs.mem hr x hx
    obtain ⟨d', v', h1, h2, h3⟩ := hK y hy
    rw [hd] at h1; cases h1
    rw [h2] at q
    rw [RD_v q]; exact h3
  have hlp : ∀ x ∈ lp, x.key ≠ key := fun x hx => by
    obtain ⟨y, hy, _, q, _⟩ := REs.mem e3 x hx
    obtain ⟨d', v', h1, h2, h3⟩ := hK y (List.mem_append_left _ hy)
    intro e
    rw [h2] at q
    have := RD_v q
    exact hne y hy (by rw [h2, ← this, e])
  refine ⟨lp, e, lq, d, e1, e2, e3, e4, hek, e6, e7, hd, hv, ?_⟩
  have key2 : ∀ (lp : List MapEntry) (i : Nat), (∀ x ∈ lp, IsKey d x.key ∧ x.key ≠ key) → Instr.findNow d key (lp ++ e :: lq) i = some (some (i + lp.length, e.val)) := by
    intro lp
    induction lp with
    | nil =>
      intro i _
      obtain ⟨r, hr, hiff⟩ := sameNow_of_keys hv (by rw [hek]; exact hv : IsKey d e.key)
      have : r = true := hiff.2 hek.symm
      subst this
      simp [Instr.findNow, hr]
    | cons x lp ih =>
      intro i hx
      obtain ⟨r, hr, hiff⟩ := sameNow_of_keys hv (hx x (by simp)).1
      have : r = false := by
        cases r with
        | false => rfl
        | true => exact absurd (hiff.1 rfl).symm (hx x (by simp)).2
      subst this
      simp only [List.cons_append, Instr.findNow, hr]
      rw [ih (i + 1) fun y hy => hx y (by simp [hy])]
      simp; omega
  rw [e1, key2 lp 0 fun x hx => ⟨hall x (by rw [e1]; simp [hx]), hlp x hx⟩, e2, Nat.zero_add]
theorem find_no {P : Program} {h : Hw} {w : World} {kt : TypeId} {es : List (Nat × D × D)} {kd : D} {l : List MapEntry} {key : Value} (hr : REs h w es l)
    (hK : ∀ x ∈ es, KOk P kt x.2.1) (hk : KOk P kt kd) (hne : ∀ x ∈ es, x.2.1 ≠ kd) (hkr : RD h w kd key) :
    ∃ d, P.underlying kt = some d ∧ IsKey d key ∧ Instr.findNow d key l 0 = some none := by
  obtain ⟨d, v, hd, rfl, hv⟩ := hk
  have hkv : key = v := RD_v hkr
  subst hkv
  have hall : ∀ x ∈ l, IsKey d x.key ∧ x.key ≠ key := fun x hx => by
    obtain ⟨y, hy, _, q, _⟩ := REs.mem hr x hx
    obtain ⟨d', v', h1, h2, h3⟩ := hK y hy
    rw [hd] at h1; cases h1
    rw [h2] at q
    have e := RD_v q
    exact ⟨by rw [e]; exact h3, fun e2 => hne y hy (by rw [h2, ← e, e2])⟩
  refine ⟨d, hd, hv, ?_⟩
  rcases findNow_spec hv l 0 (fun x hx => (hall x hx).1) with ⟨h1, _⟩ | ⟨j, e, _, h2, h3⟩
  · exact h1
  · exact absurd h3 (hall e (List.mem_of_getElem? h2)).2

def mapAt (s : St) : A → Option (Nat × Nat × List (Nat × D × D))
  | .row n => match lk s.B n with
    | some (.map clk es) => some (n, clk, es)
    | _ => none
  | _ => none
theorem mapAt_ok {s : St} {h w val} {a : Act} (H : Holds s h w val a) {x : A} {u : Value} (hr : RA h w val x u) {n clk es} (he : mapAt s x = some (n, clk, es)) :
    lk s.B n = some (.map clk es) ∧ ∃ b l, u = .map (some b) ∧ val n = .map (some b) ∧ w.heap[b]? = some (.map ⟨l⟩ clk) ∧ REs h w es l ∧ (∀ x ∈ es, x.1 < clk) ∧ (es.map (·.1)).Nodup ∧ (es.map (·.2.1)).Nodup ∧ h b = 0 := by
  unfold mapAt at he
  split at he
  · rename_i m
    split at he
    · rename_i clk' es' hl
      simp only [Option.some.injEq, Prod.mk.injEq] at he
      obtain ⟨rfl, rfl, rfl⟩ := he
      simp only [RA] at hr
      obtain ⟨b, l, hv, rest⟩ := H.inv.rep _ (List.mem_append_left _ (lk_mem hl))
      exact ⟨hl, b, l, by rw [hr.1]; exact hv, hv, rest⟩
    · cases he
  · cases he
theorem heap_other {w : World} {b g : Nat} {o : Obj} (hg : g ≠ b) : ({ w with heap := w.heap.setIfInBounds b o } : World).heap[g]? = w.heap[g]? := by
  simp [Array.getElem?_setIfInBounds, Ne.symm hg]
theorem heap_self {w : World} {b : Nat} {o o' : Obj} (hb : w.heap[b]? = some o) : ({ w with heap := w.heap.setIfInBounds b o' } : World).heap[b]? = some o' := by
  have hlt : b < w.heap.size := (Array.getElem?_eq_some_iff.1 hb).1
  simp [hlt]
theorem map_setB {s : St} {h : Hw} {w : World} {val : Val} {a : Act} (H : Holds s h w val a) {n clk clk' : Nat} {es' : List (Nat × D × D)} {b : Nat} {l l' : List MapEntry} {bk bk' : Bk}
    (hl : lk s.B n = some bk) (ho : bk.isOld = false) (ho' : bk'.isOld = false) (hv : val n = .map (some b)) (hg : w.heap[b]? = some (.map ⟨l⟩ clk)) (h0 : h b = 0) (hr : REs h w es' l') (h1 : ∀ x ∈ es', x.1 < clk') (h2 : (es'.map (·.1)).Nodup) (h3 : (es'.map (·.2.1)).Nodup)
    (hb' : ∀ w', RM h w' (val n) clk' es' → RB h w' val n bk') :
    Holds { s with B := updB s.B n bk' } h { w with heap := w.heap.setIfInBounds b (.map ⟨l'⟩ clk') } val a ∧ Nx s h w val { s with B := updB s.B n bk' } h { w with heap := w.heap.setIfInBounds b (.map ⟨l'⟩ clk') } val := by
  have hmem : (n, bk) ∈ s.all := List.mem_append_left _ (lk_mem hl)
  have hvb : vblk (val n) = some b := by rw [hv]; rfl
  have hgM : b ∈ blks val s.all := Inv.blk_mem hmem (blkOf_of hvb ho)
  have hk : Keep (blks val s.all) h w h { w with heap := w.heap.setIfInBounds b (.map ⟨l'⟩ clk') } := ⟨rfl, rfl, rfl, by simp, fun x i v _ hc => by
    unfold World.cell? at hc ⊢
    by_cases e : x = b
    · subst e; simp only [hg] at hc; cases hc
    · simp only at hc ⊢; rw [heap_other e]; exact hc, fun _ _ => Nat.le_refl _, fun x _ hn => ⟨heap_other fun e => hn (e ▸ hgM), rfl⟩⟩
  have hsame : ∀ b', (n, b') ∈ s.B → b'.isOld = bk'.isOld := fun b2 hb2 => by
    have := nodup_names H.inv.nms (List.mem_append_left _ hb2) hmem
    rw [this, ho, ho']
  refine ⟨⟨RAs.stays hk.stays _ _ _ H.e, ⟨?_, ?_, ?_⟩, H.far, H.defs.keep H.inv hk (fun b hb => hb) rfl⟩, ⟨hk, fun _ _ => rfl, fun b hb => .inl ?_⟩⟩
  · intro p hp
    rcases List.mem_append.1 hp with hp | hp
    · rcases updB_mem hp with rfl | ⟨hp, hne⟩
      · exact hb' _ ⟨b, l', hv, heap_self hg, REs.stays hk.stays _ _ hr, h1, h2, h3, h0⟩
      · refine RB.stays hk.stays (fun g hg' => ⟨heap_other fun e => ?_, rfl⟩) (H.inv.rep p (List.mem_append_left _ hp))
        subst e
        have := blk_inj H.inv.bks (List.mem_append_left _ hp) hmem hg' (blkOf_of hvb ho)
        rw [this] at hne
        exact hne rfl
    · refine RB.stays hk.stays (fun g hg' => ⟨heap_other fun e => ?_, rfl⟩) (H.inv.rep p (List.mem_append_right _ hp))
      subst e
      have e4 := blk_inj H.inv.bks (List.mem_append_right _ hp) hmem hg' (blkOf_of hvb ho)
      have hnd := H.inv.nms
      simp only [St.all, names_append] at hnd
      have m1 : n ∈ names s.B := by simp only [names, List.mem_map]; exact ⟨_, lk_mem hl, rfl⟩
      have m2 : n ∈ names s.F := by simp only [names, List.mem_map]; exact ⟨p, hp, by rw [e4]⟩
      exact (List.nodup_append.1 hnd).2.2 n m1 n m2 rfl
  · have := H.inv.nms
    simpa only [St.all, names_append, updB_names] using this
  · have := H.inv.bks
    simpa only [St.all, blks_append, updB_blks hsame] using this
  · simpa only [St.all, blks_append, updB_blks hsame] using hb
theorem map_set {s : St} {h : Hw} {w : World} {val : Val} {a : Act} (H : Holds s h w val a) {n clk clk' : Nat} {es es' : List (Nat × D × D)} {b : Nat} {l l' : List MapEntry}
    (hl : lk s.B n = some (.map clk es)) (hv : val n = .map (some b)) (hg : w.heap[b]? = some (.map ⟨l⟩ clk)) (h0 : h b = 0) (hr : REs h w es' l') (h1 : ∀ x ∈ es', x.1 < clk') (h2 : (es'.map (·.1)).Nodup) (h3 : (es'.map (·.2.1)).Nodup) :
    Holds { s with B := updB s.B n (.map clk' es') } h { w with heap := w.heap.setIfInBounds b (.map ⟨l'⟩ clk') } val a ∧ Nx s h w val { s with B := updB s.B n (.map clk' es') } h { w with heap := w.heap.setIfInBounds b (.map ⟨l'⟩ clk') } val :=
  map_setB H hl rfl rfl hv hg h0 hr h1 h2 h3 fun _ hm => hm

def amap (P : Program) (o : Oper) (s : St) (wt : W) : Option (Cn × A × List Ed) :=
  match o.op with
  | .makeMap _ none => match o.dst with
    | some d => if d < up && !hasAny d s.E && !bxHas d s.B then some (.t, .row d, [.add d (.map 0 [])]) else none
    | none => none
  | .lookup t m k cok => match mapAt s (s.ev m), toD (s.look (s.ev k)), P.underlying t, wt with
    | some (_, _, es), some kd, some (.map kt et), .mg vd ok => match (P.info? et).bind (·.zero) with
      | some z => if z.cells.toList.all (·.oneCell') then some (.pr (MGet P kt (zeroD z) es kd vd ok), if cok then .tup [.d vd, bo ok] else .d vd, []) else none
      | none => none
    | _, _, _, _ => none
  | .mapUpdate t m k x => match mapAt s (s.ev m), toD (s.look (s.ev k)), toD (s.look (s.ev x)), P.underlying t, wt with
    | some (n, clk, es), some kd, some vd, some (.map kt _), .mp clk' es' => some (.pr (MPut P kt es kd vd clk es' clk'), .any, [.chg n (.map clk' es')])
    | _, _, _, _, _ => none
  | .insert t m k x => match mapAt s (s.ev m), toD (s.look (s.ev k)), toD (s.look (s.ev x)), P.underlying t, wt with
    | some (n, clk, es), some kd, some vd, some (.map kt _), .mp clk' es' => some (.pr (MPut P kt es kd vd clk es' clk'), .any, [.chg n (.map clk' es')])
    | _, _, _, _, _ => none
  | .mapEntry t m k => match mapAt s (s.ev m), toD (s.look (s.ev k)), P.underlying t, wt with
    | some (n, clk, es), some kd, some (.map kt et), .me clk' es' v st => match (P.info? et).bind (·.zero) with
      | some z => if z.cells.toList.all (·.oneCell') then some (.pr (MEnt P kt (zeroD z) es kd clk es' clk' v st), .tup [.d v, .d (.v (.int .i64 st))], [.chg n (.map clk' es')]) else none
      | none => none
    | _, _, _, _ => none
  | .entryStore _ m st x => match mapAt s (s.ev m), s.ev st, toD (s.look (s.ev x)), wt with
    | some (n, clk, es), .d (.v (.int .i64 i)), some vd, .mp _ es' => some (.pr (MSto es i vd es'), .any, [.chg n (.map clk es')])
    | _, _, _, _ => none
  | .call c => match c.callee, c.args.toList, c.argTypes.toList with
    | .builtin .delete, [m, k], [t, _] => match mapAt s (s.ev m), toD (s.look (s.ev k)), P.underlying t, wt with
      | some (n, clk, es), some kd, some (.map kt _), .mp _ es' => some (.pr (MDel P kt es kd es'), .tup [], [.chg n (.map clk es')])
      | _, _, _, _ => none
    | .builtin .clear, [m], [t] => match mapAt s (s.ev m), P.underlying t with
      | some (n, clk, _), some (.map _ _) => some (.t, .tup [], [.chg n (.map clk [])])
      | _, _ => none
    | .builtin .len, [m], [t] => match mapAt s (s.ev m), P.underlying t, wt with
      | some (_, _, es), some (.map _ _), .int n => some (.pr (MLen es n), .d (.v (.int .i64 n)), [])
      | _, _, _ => none
    | _, _, _ => none
  | _ => none
theorem arr_mod (lp lq : List MapEntry) (e : MapEntry) (f : MapEntry → MapEntry) {n : Nat} (hn : lp.length = n) : (⟨lp ++ e :: lq⟩ : Array MapEntry).modify n f = ⟨lp ++ f e :: lq⟩ := by
  subst hn
  apply Array.ext'
  rw [Array.toList_modify]
  show (lp ++ e :: lq).modify lp.length f = lp ++ f e :: lq
  induction lp with
  | nil => rfl
  | cons x lp ih => simp only [List.cons_append, List.length_cons, List.modify_succ_cons, ih]
theorem arr_push (l : List MapEntry) (x : MapEntry) : (⟨l⟩ : Array MapEntry).push x = ⟨l ++ [x]⟩ := by apply Array.ext'; simp
theorem arr_get (lp lq : List MapEntry) (e : MapEntry) {n : Nat} (hn : lp.length = n) : (⟨lp ++ e :: lq⟩ : Array MapEntry)[n]? = some e := by subst hn; simp
theorem arr_del (lp lq : List MapEntry) (e : MapEntry) {n : Nat} (hn : lp.length = n) : (⟨lp ++ e :: lq⟩ : Array MapEntry).eraseIdxIfInBounds n = ⟨lp ++ lq⟩ := by
  subst hn
  apply Array.ext'
  simp [Array.eraseIdxIfInBounds, List.eraseIdx_append]
theorem arr_idx {lp lq : List MapEntry} {e : MapEntry} {s : Nat} (h1 : ∀ x ∈ lp, x.born ≠ s) (h2 : e.born = s) : (⟨lp ++ e :: lq⟩ : Array MapEntry).findIdx? (fun e => (e.born : Int) == (s : Int)) = some lp.length := by
  rw [List.findIdx?_toArray, List.findIdx?_append]
  have : lp.findIdx? (fun e => (e.born : Int) == (s : Int)) = none := by
    rw [List.findIdx?_eq_none_iff]
    intro x hx
    have := h1 x hx
    simp; omega
  rw [this]
  simp [List.findIdx?_cons, h2]
theorem REs.set {h w} : ∀ {pre : List (Nat × D × D)} {lp : List MapEntry} {s : Nat} {kd vd : D} {post : List (Nat × D × D)} {lq : List MapEntry} {e : MapEntry}, REs h w pre lp → e.born = s → RD h w kd e.key → RD h w vd e.val → REs h w post lq → REs h w (pre ++ (s, kd, vd) :: post) (lp ++ e :: lq) :=
  fun h1 h2 h3 h4 h5 => REs.append h1 ⟨_, _, rfl, h2, h3, h4, h5⟩
theorem REs.one {h w} {s : Nat} {kd vd : D} {e : MapEntry} (h2 : e.born = s) (h3 : RD h w kd e.key) (h4 : RD h w vd e.val) : REs h w [(s, kd, vd)] [e] := ⟨_, _, rfl, h2, h3, h4, rfl⟩
theorem lt_set {pre post : List (Nat × D × D)} {s clk : Nat} {kd v0 vd : D} (h : ∀ x ∈ pre ++ (s, kd, v0) :: post, x.1 < clk) : ∀ x ∈ pre ++ (s, kd, vd) :: post, x.1 < clk := fun x hx => by
  rcases List.mem_append.1 hx with g | g
  · exact h x (by simp [g])
  · rcases List.mem_cons.1 g with rfl | g
    · exact h (s, kd, v0) (by simp)
    · exact h x (by simp [g])
theorem nd_set {pre post : List (Nat × D × D)} {s : Nat} {kd v0 vd : D} (h : ((pre ++ (s, kd, v0) :: post).map (·.1)).Nodup) : ((pre ++ (s, kd, vd) :: post).map (·.1)).Nodup := by
  simpa using h
theorem lt_push {es : List (Nat × D × D)} {clk : Nat} {kd vd : D} (h : ∀ x ∈ es, x.1 < clk) : ∀ x ∈ es ++ [(clk, kd, vd)], x.1 < clk + 1 := fun x hx => by
  rcases List.mem_append.1 hx with g | g
  · have := h x g; omega
  · rw [List.mem_singleton] at g; subst g; exact Nat.lt_succ_self _
theorem nd_push {es : List (Nat × D × D)} {clk : Nat} {kd vd : D} (h1 : ∀ x ∈ es, x.1 < clk) (h : (es.map (·.1)).Nodup) : ((es ++ [(clk, kd, vd)]).map (·.1)).Nodup := by
  rw [List.map_append, List.nodup_append]
  refine ⟨h, by simp, fun a ha b hb => ?_⟩
  obtain ⟨x, hx, rfl⟩ := List.mem_map.1 ha
  simp only [List.map_cons, List.map_nil, List.mem_singleton] at hb
  have := h1 x hx
  omega
theorem kd_set {pre post : List (Nat × D × D)} {s : Nat} {kd v0 vd : D} (h : ((pre ++ (s, kd, v0) :: post).map (·.2.1)).Nodup) : ((pre ++ (s, kd, vd) :: post).map (·.2.1)).Nodup := by
  simpa using h
theorem kd_push {es : List (Nat × D × D)} {clk : Nat} {kd vd : D} (h1 : ∀ x ∈ es, x.2.1 ≠ kd) (h : (es.map (·.2.1)).Nodup) : ((es ++ [(clk, kd, vd)]).map (·.2.1)).Nodup := by
  rw [List.map_append, List.nodup_append]
  refine ⟨h, by simp, fun a ha b hb => ?_⟩
  obtain ⟨x, hx, rfl⟩ := List.mem_map.1 ha
  simp only [List.map_cons, List.map_nil, List.mem_singleton] at hb
  subst hb
  exact h1 x hx
theorem i64_small {n : Nat} (h : n ≤ 4611686018427387904) : IntKind.i64.wrap (n : Int) = n := IntWalk.i64_in _ ⟨by omega, by omega⟩

theorem mapUpdate_run {P : Program} {s : St} {h : Hw} {w : World} {val : Val} {a : Act} (H : Holds s h w val a) {t kt et : TypeId} (ht : P.underlying t = some (.map kt et)) {n clk clk' : Nat} {es es' : List (Nat × D × D)} {kd vd : D} {um key v : Value}
    (hm : mapAt s (.row n) = some (n, clk, es)) (hu : RA h w val (.row n) um) (hk : RD h w kd key) (hv : RD h w vd v) (hp : MPut P kt es kd vd clk es' clk') :
    ∃ w', (Instr.mapUpdate t um key v).run P w = .ok () w' ∧ Holds { s with B := updB s.B n (.map clk' es') } h w' val a ∧ Nx s h w val { s with B := updB s.B n (.map clk' es') } h w' val := by
  obtain ⟨hl, b, l, rfl, hv0, hg, hr, q1, q2, q3, h0⟩ := mapAt_ok H hu hm
  obtain ⟨hK, hkk, ⟨rfl, pre, st, v0, post, rfl, hne, rfl⟩ | ⟨rfl, rfl, hne⟩⟩ := hp
  · obtain ⟨lp, e, lq, d, rfl, e2, e3, e4, e5, e6, e7, hd, hik, hf⟩ := find_at hr hK hkk hne hk
    obtain ⟨f1, f2⟩ := map_set H hl hv0 hg h0 (REs.set (s := st) (kd := kd) (vd := vd) (e := { e with key := key, val := v }) e3 e4 hk hv e7) (lt_set q1) (nd_set q2) (kd_set q3)
    refine ⟨_, ?_, f1, f2⟩
    have ha := arr_get lp lq e e2
    simp only [Instr.mapUpdate, Sem.run_bind, run_underlying ht, MapKept.run_getObj_map hg, MapKept.run_checkKey hd hik, MapKept.run_findKey hd hf, Result.andThen_ok, ha, Option.map_some, Option.getD_some, e5, MapKept.run_keyThatStays hik, arr_mod lp lq e _ e2, MapKept.run_setObj_map _ hg]
  · obtain ⟨d, hd, hik, hf⟩ := find_no hr hK hkk hne hk
    obtain ⟨f1, f2⟩ := map_set H hl hv0 hg h0 (REs.append hr (REs.one (s := clk) (kd := kd) (vd := vd) (e := ⟨key, v, clk⟩) rfl hk hv)) (lt_push q1) (nd_push q1 q2) (kd_push hne q3)
    refine ⟨_, ?_, f1, f2⟩
    simp only [Instr.mapUpdate, Sem.run_bind, run_underlying ht, MapKept.run_getObj_map hg, MapKept.run_checkKey hd hik, MapKept.run_findKey hd hf, Result.andThen_ok, MapKept.run_setObj_map _ hg, arr_push]
theorem mapAt_row {s : St} {x : A} {n clk es} (h : mapAt s x = some (n, clk, es)) : x = .row n := by
  unfold mapAt at h
  split at h
  · split at h
    · simp only [Option.some.injEq, Prod.mk.injEq] at h; rw [h.1]
    · cases h
  · cases h
theorem zero_run {P : Program} {et : TypeId} {z : Value} (hz : (P.info? et).bind (·.zero) = some z) (w : World) : (zeroValue et).run P w = .ok z w := by
  simp only [Option.bind_eq_some_iff] at hz
  obtain ⟨i, hi, hz⟩ := hz
  simp [zeroValue, typeInfo, hi, hz]
theorem amap_ok {P : Program} {o : Oper} {s : St} {wt : W} {Φ : Cn} {r : A} {es : List Ed} (he : amap P o s wt = some (Φ, r, es)) : OpOk P o s Φ.ok r (s.edit es) := by
  intro hΦ h w val a H K Q hK
  unfold amap at he
  split at he
  · rename_i t ho
    split at he
    · rename_i d hd
      split at he
      · rename_i hc
        simp only [Bool.and_eq_true, decide_eq_true_eq, Bool.not_eq_true'] at hc
        obtain ⟨⟨c3, c4⟩, c5⟩ := hc
        simp only [Option.some.injEq, Prod.mk.injEq] at he
        obtain ⟨rfl, rfl, rfl⟩ := he
        have hvd : setV val d (.map (some w.heap.size)) d = .map (some w.heap.size) := by simp [setV]
        obtain ⟨f1, f2⟩ := H.fresh c3 c4 c5 (.map #[] 0) (.map (some w.heap.size)) 0 (.map 0 []) rfl rfl
          ⟨w.heap.size, [], hvd, heap_alloc_new w _, rfl, by simp, by simp, by simp, by simp [setH]⟩
        refine wp_of_run (u := .map (some w.heap.size)) (w' := w.alloc (.map #[] 0)) ?_ (hK _ _ _ _ (by simp only [RA]; exact ⟨hvd.symm, .inr ⟨_, rfl⟩⟩) f1.ins f2.ins)
        simp [execOp, ho, Instr.makeMap]
      · cases he
    · cases he
  · rename_i t m k cok ho
    split at he
    · rename_i n clk es kd kt et vd ok hm hk ht
      split at he
      · rename_i z hz
        split at he
        · rename_i hz1
          simp only [Option.some.injEq, Prod.mk.injEq] at he
          obtain ⟨rfl, rfl, rfl⟩ := he
          have hx := mapAt_row hm
          have hu := H.ev m
          obtain ⟨hl, b, l, hum, hv0, hg, hr, q1, q2, q3, h0⟩ := mapAt_ok H hu hm
          have hkr := toD_ok hk (H.look (H.ev k))
          have hzr : (zeroValue et).run P w = .ok z w := zero_run hz w
          obtain ⟨hKs, hkk, hcase⟩ := hΦ
          have key : ∃ v, (Instr.lookup t (a.eval m) (a.eval k) cok).run P w = .ok (if cok then .tuple #[v, .bool ok] else v) w ∧ RD h w vd v := by
            rcases hcase with ⟨rfl, pre, st, post, rfl, hne⟩ | ⟨rfl, rfl, hne⟩
            · obtain ⟨lp, e, lq, d, rfl, e2, e3, e4, e5, e6, e7, hd, hik, hf⟩ := find_at hr hKs hkk hne hkr
              refine ⟨e.val, ?_, e6⟩
              rw [hum]
              cases cok <;> simp [Instr.lookup, run_underlying ht, MapKept.run_getObj_map hg, MapKept.run_checkKey hd hik, MapKept.run_findKey hd hf]
            · obtain ⟨d, hd, hik, hf⟩ := find_no hr hKs hkk hne hkr
              refine ⟨z, ?_, RD_zeroD fun x hx => List.all_eq_true.1 hz1 x hx⟩
              rw [hum]
              cases cok <;> simp [Instr.lookup, run_underlying ht, MapKept.run_getObj_map hg, MapKept.run_checkKey hd hik, MapKept.run_findKey hd hf, hzr]
          obtain ⟨v, hrun, hvr⟩ := key
          refine wp_of_run (u := if cok then .tuple #[v, .bool ok] else v) (w' := w) ?_ (hK h w val _ ?_ H (Nx.refl s h w val rfl))
          · simp [execOp, ho, hrun]
          · cases cok
            · simp only [Bool.false_eq_true, if_false, RA]; exact hvr
            · simp only [if_true, RA, RAs]
              exact ⟨[v, .bool ok], rfl, v, [.bool ok], rfl, hvr, .bool ok, [], rfl, by simp [bo, RA, RD, Value.oneCell'], rfl⟩
        · cases he
      · cases he
    · cases he
  · rename_i t m k x ho
    split at he
    · rename_i n clk es kd vd kt et clk' es' hm hk hv ht
      simp only [Option.some.injEq, Prod.mk.injEq] at he
      obtain ⟨rfl, rfl, rfl⟩ := he
      have hx := mapAt_row hm
      obtain ⟨w', hrun, f1, f2⟩ := mapUpdate_run H ht (um := a.eval m) (by rw [← hx]; exact hm) (by rw [← hx]; exact H.ev m) (toD_ok hk (H.look (H.ev k))) (toD_ok hv (H.look (H.ev x))) hΦ
      exact wp_of_skip (w' := w') (by simp [execOp, ho, hrun]) (hK h _ val undef (by simp [RA]) f1 f2)
    · cases he
  · rename_i t m k x ho
    split at he
    · rename_i n clk es kd vd kt et clk' es' hm hk hv ht
      simp only [Option.some.injEq, Prod.mk.injEq] at he
      obtain ⟨rfl, rfl, rfl⟩ := he
      have hx := mapAt_row hm
      obtain ⟨w', hrun, f1, f2⟩ := mapUpdate_run H ht (um := a.eval m) (by rw [← hx]; exact hm) (by rw [← hx]; exact H.ev m) (toD_ok hk (H.look (H.ev k))) (toD_ok hv (H.look (H.ev x))) hΦ
      exact wp_of_skip (w' := w') (by simp [execOp, ho, hrun]) (hK h _ val undef (by simp [RA]) f1 f2)
    · cases he
  · rename_i t m k ho
    split at he
    · rename_i n clk es kd kt et clk' es' v st hm hk ht
      split at he
      · rename_i z hz
        split at he
        · rename_i hz1
          simp only [Option.some.injEq, Prod.mk.injEq] at he
          obtain ⟨rfl, rfl, rfl⟩ := he
          obtain ⟨hl, b, l, hum, hv0, hg, hr, q1, q2, q3, h0⟩ := mapAt_ok H (H.ev m) hm
          have hkr := toD_ok hk (H.look (H.ev k))
          have hzr : (zeroValue et).run P w = .ok z w := zero_run hz w
          have hzd := RD_zeroD (h := h) (w := w) fun x hx => List.all_eq_true.1 hz1 x hx
          obtain ⟨hKs, hkk, hst, hcase⟩ := hΦ
          have h63 := i64_small hst
          have key : ∃ v' w', (Instr.mapEntry t (a.eval m) (a.eval k)).run P w = .ok (.tuple #[v', .int .i64 st]) w' ∧ RD h w' v v' ∧ Holds { s with B := updB s.B n (.map clk' es') } h w' val a ∧ Nx s h w val { s with B := updB s.B n (.map clk' es') } h w' val := by
            rcases hcase with ⟨rfl, rfl, pre, post, rfl, hne⟩ | ⟨rfl, rfl, rfl, rfl, hne⟩
            · obtain ⟨lp, e, lq, d, rfl, e2, e3, e4, e5, e6, e7, hd, hik, hf⟩ := find_at hr hKs hkk hne hkr
              obtain ⟨f1, f2⟩ := map_set H hl hv0 hg h0 (REs.set (s := st) (kd := kd) (vd := v) (e := { e with key := a.eval k }) e3 e4 hkr e6 e7) (lt_set q1) (nd_set q2) (kd_set q3)
              refine ⟨e.val, _, ?_, RD.stays f2.keep.stays _ _ e6, f1, f2⟩
              have ha := arr_get lp lq e e2
              rw [hum]
              simp only [Instr.mapEntry, Sem.run_bind, run_underlying ht, MapKept.run_getObj_map hg, MapKept.run_checkKey hd hik, MapKept.run_findKey hd hf, Result.andThen_ok, ha, Option.map_some, Option.getD_some, e5, MapKept.run_keyThatStays hik, arr_mod lp lq e _ e2, MapKept.run_setObj_map _ hg, Sem.run_pure, goInt, e4, h63]
            · obtain ⟨d, hd, hik, hf⟩ := find_no hr hKs hkk hne hkr
              obtain ⟨f1, f2⟩ := map_set H hl hv0 hg h0 (REs.append hr (REs.one (s := st) (kd := kd) (vd := zeroD z) (e := ⟨a.eval k, z, st⟩) rfl hkr hzd)) (lt_push q1) (nd_push q1 q2) (kd_push hne q3)
              refine ⟨z, _, ?_, RD.stays f2.keep.stays _ _ hzd, f1, f2⟩
              rw [hum]
              simp only [Instr.mapEntry, Sem.run_bind, run_underlying ht, MapKept.run_getObj_map hg, MapKept.run_checkKey hd hik, MapKept.run_findKey hd hf, hzr, Result.andThen_ok, MapKept.run_setObj_map _ hg, Sem.run_pure, goInt, h63, arr_push]
          obtain ⟨v', w', hrun, hvr, f1, f2⟩ := key
          refine wp_of_run (u := .tuple #[v', .int .i64 st]) (w' := w') ?_ (hK h w' val _ ?_ f1 f2)
          · simp [execOp, ho, hrun]
          · simp only [RA, RAs]
            exact ⟨[v', .int .i64 st], rfl, v', [.int .i64 st], rfl, hvr, .int .i64 st, [], rfl, by simp [RD, Value.oneCell'], rfl⟩
        · cases he
      · cases he
    · cases he
  · rename_i t m st x ho
    split at he
    · rename_i n clk es i vd clk' es' hm hst hv
      simp only [Option.some.injEq, Prod.mk.injEq] at he
      obtain ⟨rfl, rfl, rfl⟩ := he
      obtain ⟨hl, b, l, hum, hv0, hg, hr, q1, q2, q3, h0⟩ := mapAt_ok H (H.ev m) hm
      have hvr := toD_ok hv (H.look (H.ev x))
      obtain ⟨pre, st', kd, v0, post, rfl, rfl, hne, rfl⟩ := hΦ
      have hi := H.ev st
      rw [hst] at hi
      simp only [RA, RD] at hi
      obtain ⟨lp, e, lq, rfl, e2, e3, e4, e5, e6, e7⟩ := REs.split hr
      obtain ⟨f1, f2⟩ := map_set H hl hv0 hg h0 (REs.set (s := st') (kd := kd) (vd := vd) (e := { e with val := a.eval x }) e3 e4 e5 hvr e7) (lt_set q1) (nd_set q2) (kd_set q3)
      have hlp : ∀ x ∈ lp, x.born ≠ st' := fun x hx => by
        obtain ⟨y, hy, q, _⟩ := REs.mem e3 x hx
        rw [q]; exact hne y hy
      refine wp_of_skip (w' := _) ?_ (hK h _ val undef (by simp [RA]) f1 f2)
      simp only [execOp, ho, hum, hi.1, Instr.entryStore, Sem.run_bind, MapKept.run_getObj_map hg, asInt, asIntOf, Sem.run_pure, Result.andThen_ok, arr_idx hlp e4, arr_mod lp lq e _ rfl, MapKept.run_setObj_map _ hg]
    · cases he
  · rename_i c ho
    obtain ⟨callee, ⟨args⟩, ⟨tys⟩⟩ := c
    simp only at he
    split at he
    · rename_i m k t t2
      split at he
      · rename_i n clk es kd kt et clk' es' hm hk ht
        simp only [Option.some.injEq, Prod.mk.injEq] at he
        obtain ⟨rfl, rfl, rfl⟩ := he
        obtain ⟨hl, b, l, hum, hv0, hg, hr, q1, q2, q3, h0⟩ := mapAt_ok H (H.ev m) hm
        have hkr := toD_ok hk (H.look (H.ev k))
        obtain ⟨hKs, hkk, ⟨pre, st, v0, post, rfl, hne, rfl⟩ | ⟨rfl, hne⟩⟩ := hΦ
        · obtain ⟨lp, e, lq, d, rfl, e2, e3, e4, e5, e6, e7, hd, hik, hf⟩ := find_at hr hKs hkk hne hkr
          obtain ⟨f1, f2⟩ := map_set H hl hv0 hg h0 (REs.append e3 e7) (clk' := clk) (fun x hx => q1 x (by
            rcases List.mem_append.1 hx with g | g <;> simp [g])) (by
            have : (pre ++ post).Sublist (pre ++ (st, kd, v0) :: post) := List.Sublist.append (List.Sublist.refl _) (List.sublist_cons_self _ _)
            exact (this.map _).nodup q2) (by
            have : (pre ++ post).Sublist (pre ++ (st, kd, v0) :: post) := List.Sublist.append (List.Sublist.refl _) (List.sublist_cons_self _ _)
            exact (this.map _).nodup q3)
          refine wp_of_run (u := .tuple #[]) (w' := _) ?_ (hK h _ val _ (by simp [RA, RAs]) f1 f2)
          simp [execOp, ho, resolve, invoke, builtin, Builtin.delete_, run_underlying ht, hum, MapKept.run_getObj_map hg, MapKept.run_checkKey hd hik, MapKept.run_findKey hd hf, MapKept.run_setObj_map _ hg]
          have := arr_del lp lq e e2
          simp only [List.eraseIdxIfInBounds_toArray] at this
          first | rw [this] | rw [← e2, List.eraseIdx_append_of_length_le (Nat.le_refl _), Nat.sub_self]; rfl
        · obtain ⟨d, hd, hik, hf⟩ := find_no hr hKs hkk hne hkr
          obtain ⟨f1, f2⟩ := map_set H hl hv0 hg h0 hr q1 q2 q3
          refine wp_of_run (u := .tuple #[]) (w' := _) ?_ (hK h _ val _ (by simp [RA, RAs]) f1 f2)
          simp [execOp, ho, resolve, invoke, builtin, Builtin.delete_, run_underlying ht, hum, MapKept.run_getObj_map hg, MapKept.run_checkKey hd hik, MapKept.run_findKey hd hf, MapKept.run_setObj_map _ hg]
      · cases he
    · rename_i m t
      split at he
      · rename_i n clk es kt et hm ht
        simp only [Option.some.injEq, Prod.mk.injEq] at he
        obtain ⟨rfl, rfl, rfl⟩ := he
        obtain ⟨hl, b, l, hum, hv0, hg, hr, q1, q2, q3, h0⟩ := mapAt_ok H (H.ev m) hm
        obtain ⟨f1, f2⟩ := map_set H hl hv0 hg h0 (es' := []) (l' := []) (clk' := clk) rfl (by simp) (by simp) (by simp)
        refine wp_of_run (u := .tuple #[]) (w' := _) ?_ (hK h _ val _ (by simp [RA, RAs]) f1 f2)
        simp [execOp, ho, resolve, invoke, builtin, Builtin.clear_, run_underlying ht, hum, MapKept.run_getObj_map hg, MapKept.run_setObj_map _ hg]
      · cases he
    · rename_i m t
      split at he
      · rename_i n clk es kt et n' hm ht
        simp only [Option.some.injEq, Prod.mk.injEq] at he
        obtain ⟨rfl, rfl, rfl⟩ := he
        obtain ⟨hl, b, l, hum, hv0, hg, hr, q1, q2, q3, h0⟩ := mapAt_ok H (H.ev m) hm
        obtain ⟨rfl, hn⟩ := hΦ
        have h63 := i64_small (n := es.length) (by omega)
        refine wp_of_run (u := .int .i64 es.length) (w' := w) ?_ (hK h w val _ (by simp [RA, RD, Value.oneCell']) H (Nx.refl s h w val rfl))
        have hlen : l.length = es.length := REs.length hr
        simp [execOp, ho, resolve, invoke, builtin, Builtin.len_, run_underlying ht, hum, MapKept.run_getObj_map hg, goInt, hlen, h63]
      · cases he
    · cases he
  · cases he
end Go.Ac
