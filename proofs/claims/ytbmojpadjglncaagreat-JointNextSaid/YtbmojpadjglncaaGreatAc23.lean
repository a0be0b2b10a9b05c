/- Own work: how calls of the model run over plain data. -/
import Derived.Test.YtbmojpadjglncaaGreatAc22
import Derived.ProofKit
import Derived.OpenShut
import Derived.JoinedCond
import Derived.Carry
set_option linter.unusedVariables false
set_option linter.unusedSimpArgs false
namespace Go.Ac
open Go.ChangeShapes Go.WideShapes Go.ChangeAt Go.RowKit

def hOf (w : World) : Hw := fun b => match w.heap[b]? with
  | some (.cells cs _ _) => cs.size
  | _ => 0
theorem hOf_lt {w : World} {a : Addr} {v : Value} (h : w.cell? a = some v) : a.off < hOf w a.block := by
  have hs := cell_spot h
  obtain ⟨b, o, sp⟩ := a
  simp only at hs
  subst hs
  unfold World.cell? at h
  unfold hOf
  simp only at h ⊢
  cases hb : w.heap[b]? with
  | none => simp [hb] at h
  | some ob =>
    cases ob with
    | cells cs t fr =>
      simp [hb] at h
      exact (Array.getElem?_eq_some_iff.1 h).1
    | _ => simp [hb] at h
def ReadsAs {α : Type} (P : Program) (t : TypeId) (f : α → D) (R : α → Prop) : Prop :=
  ∀ {H : Type} (enc : TypeId × Value → H) (w : World) (sp : Nat → Bool) (held : Bool) (fuel : Nat) (cs : List Value) (x : DataW H × List MemPlace), DataW.trod enc P w 0 sp held fuel t cs = some x →
    ∃ v : α, RDs (hOf w) w (f v).cells cs ∧ R v
theorem reads_int {P : Program} {t : TypeId} {k : IntKind} (ht : P.underlying t = some (.int k)) : ReadsAs P t (D.i k) (fun n => (Lit.int k n).wf = true) := by
  intro H enc w sp held fuel cs x h
  cases fuel with
  | zero => simp [DataW.trod] at h
  | succ fuel =>
    unfold DataW.trod at h
    rw [ht] at h
    match cs, h with
    | [.int k' n], h =>
      simp only at h
      split at h
      · rename_i hc
        obtain ⟨rfl, hw⟩ := hc
        exact ⟨n, by simp only [D.i, D.cells, RDs, RD]; exact ⟨_, [], rfl, ⟨rfl, rfl⟩, rfl, rfl⟩, hw⟩
      · cases h
theorem reads_bool {P : Program} {t : TypeId} (ht : P.underlying t = some .bool) : ReadsAs P t D.b (fun _ => True) := by
  intro H enc w sp held fuel cs x h
  cases fuel with
  | zero => simp [DataW.trod] at h
  | succ fuel =>
    unfold DataW.trod at h
    rw [ht] at h
    match cs, h with
    | [.bool b], h => exact ⟨b, by simp only [D.b, D.cells, RDs, RD]; exact ⟨_, [], rfl, ⟨rfl, rfl⟩, rfl, rfl⟩, trivial⟩
theorem reads_string {P : Program} {t : TypeId} (ht : P.underlying t = some .string) : ReadsAs P t D.s (fun l => l.length ≤ 9223372036854775807) := by
  intro H enc w sp held fuel cs x h
  cases fuel with
  | zero => simp [DataW.trod] at h
  | succ fuel =>
    unfold DataW.trod at h
    rw [ht] at h
    match cs, h with
    | [.string s], h =>
      simp only at h
      split at h
      · rename_i hc
        exact ⟨s.data.toList, by simp only [D.s, D.cells, RDs, RD]; exact ⟨_, [], rfl, ⟨rfl, rfl⟩, rfl, rfl⟩, by simpa [maxLen] using hc⟩
      · cases h
theorem reads_byte {P : Program} {t : TypeId} (ht : P.underlying t = some (.int .u8)) : ReadsAs P t dbyte (fun _ => True) := by
  intro H enc w sp held fuel cs x h
  obtain ⟨n, h1, h2⟩ := reads_int ht enc w sp held fuel cs x h
  refine ⟨u8w n, ?_, trivial⟩
  have h3 : 0 ≤ n ∧ n ≤ 255 := by simpa [Lit.wf, IntKind.min, IntKind.max, IntKind.signed, IntKind.bits] using h2
  have e : dbyte (u8w n) = D.i .u8 n := by
    unfold dbyte D.i
    rw [← u8w_ok]
    have : IntKind.u8.wrap n = n := by simp [IntKind.wrap, IntKind.signed, IntKind.bits]; omega
    rw [this]
  rw [e]; exact h1
theorem RDs_field {h : Hw} {w : World} {A B : List D} {cs : List Value} {o k : Nat} (h1 : RDs h w A ((cs.drop o).take k)) (h2 : RDs h w B (cs.drop (o + k))) : RDs h w (A ++ B) (cs.drop o) := by
  have := RDs.append h1 h2
  rwa [← List.drop_drop, List.take_append_drop] at this
theorem trod_fields {H : Type} {enc : TypeId × Value → H} {P : Program} {w : World} {sp : Nat → Bool} {held : Bool} {fuel : Nat} {cs : List Value} : ∀ {l : List Field} {xs : List (DataW H × List MemPlace)},
    l.mapM (fun f => DataW.trod enc P w 0 sp held fuel f.type ((cs.drop f.offset).take (P.cellsOf f.type))) = some xs → ∀ f ∈ l, ∃ x, DataW.trod enc P w 0 sp held fuel f.type ((cs.drop f.offset).take (P.cellsOf f.type)) = some x
  | [], xs, _, f, hf => by cases hf
  | g :: l, xs, h, f, hf => by
    simp only [List.mapM_cons] at h
    cases h1 : DataW.trod enc P w 0 sp held fuel g.type ((cs.drop g.offset).take (P.cellsOf g.type)) with
    | none => simp [h1] at h
    | some y =>
      rcases List.mem_cons.1 hf with rfl | hf
      · exact ⟨y, h1⟩
      · cases h2 : l.mapM (fun f => DataW.trod enc P w 0 sp held fuel f.type ((cs.drop f.offset).take (P.cellsOf f.type))) with
        | none => simp [h1, h2] at h
        | some ys => exact trod_fields h2 f hf
theorem reads_struct {P : Program} {t : TypeId} {fs : Array Field} {n : Nat} {α : Type} {f : α → D} {R : α → Prop} (ht : P.underlying t = some (.struct fs)) (hn : P.cellsOf t = n)
    (key : ∀ {H : Type} (enc : TypeId × Value → H) (w : World) (sp : Nat → Bool) (held : Bool) (fuel : Nat) (cs : List Value), cs.length = n →
      (∀ g ∈ fs.toList, ∃ x, DataW.trod enc P w 0 sp held fuel g.type ((cs.drop g.offset).take (P.cellsOf g.type)) = some x) → ∃ v : α, RDs (hOf w) w (f v).cells cs ∧ R v) : ReadsAs P t f R := by
  intro H enc w sp held fuel cs x h
  cases fuel with
  | zero => simp [DataW.trod] at h
  | succ fuel =>
    unfold DataW.trod at h
    rw [ht] at h
    simp only at h
    split at h
    · rename_i hc
      simp only [Option.map_eq_some_iff] at h
      obtain ⟨xs, hx, _⟩ := h
      exact key enc w sp held fuel cs (by rw [hc, hn]) (trod_fields hx)
    · cases h

theorem cells_mapM {w : World} {a : Addr} {n : Nat} {cs : List Value} (h : w.cells? 0 a n = some cs) : cs.length = n ∧ ∀ j v, cs[j]? = some v → w.cell? (a.add j) = some v := by
  unfold World.cells? at h
  simp only [Nat.zero_le, if_true] at h
  have key : ∀ (l : List Nat) (cs : List Value), l.mapM (fun i => w.cell? (a.add i)) = some cs → cs.length = l.length ∧ ∀ (j i : Nat) (v : Value), l[j]? = some i → cs[j]? = some v → w.cell? (a.add i) = some v := by
    intro l
    induction l with
    | nil => intro cs h; simp at h; subst h; simp
    | cons x l ih =>
      intro cs h
      simp only [List.mapM_cons] at h
      cases h1 : w.cell? (a.add x) with
      | none => simp [h1] at h
      | some y =>
        cases h2 : l.mapM (fun i => w.cell? (a.add i)) with
        | none => simp [h1, h2] at h
        | some ys =>
          simp [h1, h2] at h
          subst h
          obtain ⟨g1, g2⟩ := ih ys h2
          refine ⟨by simp [g1], fun j i v hj hv => ?_⟩
          cases j with
          | zero => simp at hj hv; subst hj; subst hv; exact h1
          | succ j => exact g2 j i v (by simpa using hj) (by simpa using hv)
  obtain ⟨h1, h2⟩ := key _ _ h
  rw [List.length_range] at h1
  refine ⟨h1, fun j v hj => h2 j j v ?_ hj⟩
  have : j < n := by rw [← h1]; exact (List.getElem?_eq_some_iff.1 hj).1
  rw [List.getElem?_range this]
theorem cells_value {h : Hw} {w : World} {x : D} {cs : List Value} (hr : RDs h w x.cells cs) : ∃ u : Value, u.cells.toList = cs ∧ RD h w x u := by
  cases x with
  | agg l =>
    refine ⟨.agg ⟨cs⟩, rfl, ?_⟩
    simp only [RD]
    exact ⟨cs, rfl, hr⟩
  | v x =>
    simp only [D.cells, RDs] at hr
    obtain ⟨u, us', rfl, h1, h2, rfl⟩ := hr
    have hc : u.cells = #[u] := by cases u <;> first | rfl | (simp [Value.oneCell'] at h2)
    exact ⟨u, by rw [hc], h1⟩
  | sl xs =>
    simp only [D.cells, RDs] at hr
    obtain ⟨u, us', rfl, h1, h2, rfl⟩ := hr
    have hc : u.cells = #[u] := by cases u <;> first | rfl | (simp [Value.oneCell'] at h2)
    exact ⟨u, by rw [hc], h1⟩
  | ptr xs =>
    simp only [D.cells, RDs] at hr
    obtain ⟨u, us', rfl, h1, h2, rfl⟩ := hr
    have hc : u.cells = #[u] := by cases u <;> first | rfl | (simp [Value.oneCell'] at h2)
    exact ⟨u, by rw [hc], h1⟩
theorem reads_slice {P : Program} {t e : TypeId} {α : Type} {f : α → D} {R : α → Prop} {k : Nat} [hk : HasNc f k] (ht : P.underlying t = some (.slice e)) (hc : P.cellsOf e = k) (he : ReadsAs P e f R) :
    ReadsAs P t (D.l f) (fun l => l.length ≤ 9223372036854775807 ∧ ∀ x ∈ l, R x) := by
  intro H enc w sp held fuel cs x h
  cases fuel with
  | zero => simp [DataW.trod] at h
  | succ fuel =>
    unfold DataW.trod at h
    rw [ht] at h
    match cs, h with
    | [.slice none 0 0], _ =>
      exact ⟨[], by simp only [D.l, List.map_nil, D.cells, RDs]; exact ⟨_, [], rfl, RD_nil _ _, rfl, rfl⟩, by simp⟩
    | [.slice (some a) len cap], h =>
      simp only at h
      split at h
      · rename_i hh
        simp only [Option.bind_eq_some_iff] at h
        obtain ⟨elems, hel, _⟩ := h
        have key : ∀ (n : Nat) (ys : List (DataW H × List MemPlace)), (List.range n).mapM (fun i => (w.cells? 0 (a.add (i * P.cellsOf e)) (P.cellsOf e)).bind (DataW.trod enc P w 0 sp held fuel e)) = some ys →
            ∃ (vs : List α) (us : List Value), vs.length = n ∧ RRow (hOf w) w k (vs.map f) us ∧ (∀ x ∈ vs, R x) ∧ ∀ j v, us[j]? = some v → w.cell? (a.add j) = some v := by
          intro n
          induction n with
          | zero => intro ys _; exact ⟨[], [], rfl, by simp [RRow], by simp, by simp⟩
          | succ n ih =>
            intro ys h
            rw [List.range_succ, List.mapM_append] at h
            cases h1 : (List.range n).mapM (fun i => (w.cells? 0 (a.add (i * P.cellsOf e)) (P.cellsOf e)).bind (DataW.trod enc P w 0 sp held fuel e)) with
            | none => simp [h1] at h
            | some zs =>
              obtain ⟨vs, us, g1, g2, g3, g4⟩ := ih zs h1
              cases h2 : w.cells? 0 (a.add (n * P.cellsOf e)) (P.cellsOf e) with
              | none => simp [h1, h2] at h
              | some cs' =>
                cases h3 : DataW.trod enc P w 0 sp held fuel e cs' with
                | none => simp [h1, h2, h3] at h
                | some y =>
                  obtain ⟨v, r1, r2⟩ := he enc w sp held fuel cs' y h3
                  obtain ⟨u, e1, r3⟩ := cells_value r1
                  obtain ⟨c1, c2⟩ := cells_mapM h2
                  have hul := RRow.length g2
                  rw [List.length_map, g1] at hul
                  have hn : (f v).nc = k := HasNc.h v
                  refine ⟨vs ++ [v], us ++ cs', by simp [g1], ?_, ?_, ?_⟩
                  · rw [List.map_append]
                    refine g2.append ?_
                    simp only [List.map_cons, List.map_nil, RRow]
                    refine ⟨u, [], by simp [e1], ?_, hn, r3, ?_, rfl⟩
                    · rw [RD.size r3, hn]
                    · exact (RD.cells r3).2
                  · intro x hx
                    rcases List.mem_append.1 hx with hx | hx
                    · exact g3 x hx
                    · simp at hx; subst hx; exact r2
                  · intro j v' hj
                    rcases Nat.lt_or_ge j us.length with hlt | hge
                    · rw [List.getElem?_append_left hlt] at hj
                      exact g4 j v' hj
                    · rw [List.getElem?_append_right hge] at hj
                      have := c2 _ _ hj
                      rw [add_add, hul, hc] at this
                      rw [show n * k + (j - n * k) = j by omega] at this
                      exact this
        obtain ⟨vs, us, g1, g2, g3, g4⟩ := key len elems hel
        refine ⟨vs, ?_, by rw [g1]; have := hh.2.1; have := hh.2.2; simp [maxLen] at this; omega, g3⟩
        simp only [D.l, D.cells, RDs]
        refine ⟨_, [], rfl, ?_, rfl, rfl⟩
        simp only [RD]
        refine ⟨some a, cap, k, us, by rw [List.length_map, g1], by rw [List.length_map, g1]; exact hh.2.1, hh.2.2, g2, fun _ => ⟨a, rfl, fun j v hj => ?_⟩⟩
        have := g4 j v hj
        refine ⟨this, ?_⟩
        have h5 := hOf_lt this
        rw [add_block, add_off] at h5
        exact h5
      · cases h

theorem below_of_keep {h h' : Hw} {w w' : World} (k : Keep [] h w h' w') : Below w.heap.size w w' :=
  ⟨k.os, k.tape, k.output, k.size, fun b hb => (k.far b hb (by simp)).1⟩
section
variable {H : Type} {enc : TypeId × Value → H} {P : Program}
theorem post_of_below {f : Func} {s : ChangeSpec} {apart fresh handsOn again : Bool} {W W' : World} {args : Array Value} {v : Value} {ds gs : List (DataW H)} {before pa pv : List MemPlace}
    (hW : DataW.Whole enc P f.params.toList s.vars apart W args.toList ds gs before)
    (hres : ∀ (b : Nat) (sp : Nat → Bool) (hd : Bool), DataW.TrodAll enc P W' b sp hd f.resultTypes.toList (v.resultList f.resultTypes.size) (s.fn H (ds ++ gs)).results [])
    (hargs : ∀ sp : Nat → Bool, (∀ p ∈ before, sp p.block = true) → DataW.TrodAll enc P W' 0 sp true f.params.toList args.toList (s.fn H (ds ++ gs)).args pa)
    (hvars : ∀ sp : Nat → Bool, (∀ p ∈ before, sp p.block = true) → DataW.TrodVars enc P W' sp s.vars (s.fn H (ds ++ gs)).vars pv)
    (hps : before = pa ++ pv) (hb : Below W.heap.size W W')
    (hok : ∀ (j : Nat) (t : TypeId) (r : Value), f.resultTypes[j]? = some t → (v.resultList f.resultTypes.size)[j]? = some r → Value.okWide P W' .any 0 t r) :
    s.post enc P f apart fresh handsOn again W args v W' := by
  have hlt : ∀ p ∈ before, p.block < W.heap.size := fun p hp => hW.lt p hp
  have hold : ∀ p ∈ before, (fun b => decide (b < W.heap.size)) p.block = true := fun p hp => by simpa using hlt p hp
  refine ⟨ds, gs, before, [], pa, pv, hW, hres _ _ _, hargs _ hold, hvars _ hold, World.keptBut_mono (fun p hp => ⟨hp, ?_⟩) (hb.frame (· ∈ before)), fun _ => ?_⟩
  · rw [hps, List.mem_append] at hp
    exact Or.inr hp
  · obtain ⟨_, _, _, _, _, hz, hn⟩ := hW
    refine ⟨hok, _, _, ([] ++ pa) ++ pv, ⟨[] ++ pa, pv, trodAll_append (hargs _ (fun _ _ => rfl)) (hres _ _ _), hvars _ (fun _ _ => rfl), rfl, ?_, ?_⟩, ?_⟩
    · intro b off hp
      have hin : MemPlace.cell b off ∈ before := by rw [hps]; simpa using hp
      rw [hb.frozen (hlt _ hin)]
      exact hz b off hin
    · intro ha
      have := hn ha
      rw [hps] at this
      simpa using this
    · intro p hp _
      rw [hps]
      simpa using hp
end
theorem trodAll_stays {H : Type} {enc : TypeId × Value → H} {P : Program} (hl : laidOutB P = true) {W W' : World} (hb : Below W.heap.size W W') : ∀ {ts : List TypeId} {vs : List Value} {ds : List (DataW H)} {ps : List MemPlace},
    (ts.all fun t => P.readableRec t && decide (t < P.types.size)) = true → DataW.TrodAll enc P W 0 (fun _ => true) true ts vs ds ps → (∀ x ∈ ps, x.block < W.heap.size) → ∀ sp : Nat → Bool, (∀ p ∈ ps, sp p.block = true) →
    DataW.TrodAll enc P W' 0 sp true ts vs ds ps
  | [], [], [], ps, _, h, _, sp, _ => h
  | t :: ts, v :: vs, d :: ds, ps, ht, h, hlt, sp, hsp => by
    obtain ⟨p, q, h1, h2, rfl⟩ := h
    simp only [List.all_cons, Bool.and_eq_true, decide_eq_true_eq] at ht
    exact ⟨p, q, WideElems.Trod_stays hl ht.1.1 ht.1.2 h1 (fun x hx => hb.same (hlt x (List.mem_append_left _ hx))) (fun x hx => hsp x (List.mem_append_left _ hx)),
      trodAll_stays hl hb ht.2 h2 (fun x hx => hlt x (List.mem_append_right _ hx)) sp (fun x hx => hsp x (List.mem_append_right _ hx)), rfl⟩
  | [], _ :: _, _, _, _, h, _, _, _ => h.elim
  | [], [], _ :: _, _, _, h, _, _, _ => h.elim
  | _ :: _, [], _, _, _, h, _, _, _ => h.elim
  | _ :: _, _ :: _, [], _, _, h, _, _, _ => h.elim
theorem law_contract {P : Program} {F : FuncId} {f : Func} {s : ChangeSpec} {H : Type} {enc : TypeId × Value → H} {W : World} {args : Array Value} {ds gs : List (DataW H)} {before : List MemPlace} {tb : TypeId}
    (hl : laidOutB P = true) (hts : (f.params.toList.all fun t => P.readableRec t && decide (t < P.types.size)) = true) (hr : f.resultTypes = #[tb]) (htb : P.underlying tb = some .bool) (hvs : s.vars = [])
    (hfn : ∀ ds : List (DataW H), ds.length = f.params.size → s.fn H ds = { results := [.lit (.bool true)], args := ds, vars := [] })
    (hW : DataW.Whole enc P f.params.toList s.vars false W args.toList ds gs before)
    (hcall : ∃ as : List A, RAs (hOf W) W (fun _ => .bool true) as args.toList ∧ ACall P F as [] (bo true) []) :
    Calls P F args W fun e W' => ∃ v, e = .returned v ∧ s.post enc P f false true false false W args v W' := by
  have hW' := hW
  obtain ⟨p, q, hA, hV, rfl, hfz, hnd⟩ := hW
  have hlt : ∀ x ∈ p ++ q, x.block < W.heap.size := fun x hx => hW'.lt x hx
  rw [hvs] at hV
  have hg : gs = [] ∧ q = [] := by
    cases gs with
    | nil => exact ⟨rfl, by simpa [DataW.TrodVars] using hV⟩
    | cons g gs => simp [DataW.TrodVars] at hV
  obtain ⟨rfl, rfl⟩ := hg
  have hlen : ∀ {ts : List TypeId} {vs : List Value} {ds : List (DataW H)} {ps : List MemPlace}, DataW.TrodAll enc P W 0 (fun _ => true) true ts vs ds ps → ds.length = ts.length := by
    intro ts
    induction ts with
    | nil =>
      intro vs ds ps h
      cases vs <;> cases ds <;> first | rfl | exact h.elim
    | cons t ts ih =>
      intro vs ds ps h
      cases vs <;> cases ds <;> first | exact h.elim | (obtain ⟨_, _, _, h2, _⟩ := h; simp [ih h2])
  have hd : ds.length = f.params.size := by rw [hlen hA]; simp
  obtain ⟨as, hra, hc⟩ := hcall
  refine (hc (hOf W) W (fun _ => .bool true) args.toList (Inv.nil _ _ _) hra).mono fun e W' hh => ?_
  obtain ⟨h', val', u, rfl, _, hu, hk, _, _⟩ := hh
  have hb := below_of_keep hk
  simp only [bo, RA, RD] at hu
  obtain ⟨rfl, _⟩ := hu
  have hsf : s.fn H (ds ++ []) = { results := [.lit (.bool true)], args := ds, vars := [] } := by rw [List.append_nil]; exact hfn ds hd
  simp only [List.append_nil] at hlt hW'
  refine ⟨_, rfl, post_of_below (pa := p) (pv := []) (ds := ds) (gs := []) (before := p) hW' ?_ ?_ ?_ (by simp) hb ?_⟩
  · intro b sp hd
    rw [hsf, hr]
    exact trodAll_mk1 (shut_bool htb _)
  · intro sp hsp
    rw [hsf]
    exact trodAll_stays hl hb hts hA hlt sp hsp
  · intro sp _
    rw [hsf, hvs]; rfl
  · exact ok_one hr rfl (okWide_bool_mk htb _)

theorem one_of_okWide {P : Program} {w : World} {base : Nat} {t : TypeId} {v : Value} (h : Value.okWide P w .any base t v)
    (ht : (match P.underlying t with | some (.int _) | some .bool | some .string | some (.slice _) => true | _ => false) = true) : ∀ cs, v ≠ .agg cs := by
  intro cs e
  subst e
  unfold Value.okWide at h
  split at ht <;> first | cases ht | skip
  all_goals (rename_i hu; simp only [hu, Cell.okWide, Cell.ok] at h)
theorem arg_one {h : Hw} {w : World} {x : D} {v : Value} (hr : RDs h w x.cells v.cells.toList) (hx : ∀ c, x ≠ .agg c) (hv : ∀ cs, v ≠ .agg cs) : RD h w x v := by
  have e : v.cells = #[v] := by cases v <;> first | rfl | exact absurd rfl (hv _)
  rw [e] at hr
  have e2 : x.cells = [x] := by cases x <;> first | rfl | exact absurd rfl (hx _)
  rw [e2] at hr
  simp only [RDs] at hr
  obtain ⟨u, us', h1, h2, _⟩ := hr
  simp at h1
  rw [h1.1]
  exact h2
theorem arg_agg {h : Hw} {w : World} {cs : List D} {v : Value} (hr : RDs h w cs v.cells.toList) (hv : ∃ us, v = .agg us) : RD h w (.agg cs) v := by
  obtain ⟨us, rfl⟩ := hv
  simp only [RD]
  exact ⟨us.toList, rfl, hr⟩
theorem agg_of_okWide {P : Program} {w : World} {base : Nat} {t : TypeId} {v : Value} {fs : Array Field} (h : Value.okWide P w .any base t v) (ht : P.underlying t = some (.struct fs)) : ∃ us, v = .agg us := by
  unfold Value.okWide at h
  rw [ht] at h
  obtain ⟨cs, rfl, _⟩ := h
  exact ⟨cs, rfl⟩
theorem arg_reads {α : Type} {P : Program} {t : TypeId} {f : α → D} {R : α → Prop} (hR : ReadsAs P t f R) {H : Type} {enc : TypeId × Value → H} {W : World} {v : Value} {d : DataW H} {p : List MemPlace} {base : Nat} {sp : Nat → Bool}
    (h : DataW.Trod enc P W 0 sp true t v d p) (hx : ∀ a c, f a ≠ .agg c) (hok : Value.okWide P W .any base t v)
    (ht : (match P.underlying t with | some (.int _) | some .bool | some .string | some (.slice _) => true | _ => false) = true) : ∃ x : α, RD (hOf W) W (f x) v ∧ R x := by
  obtain ⟨fuel, h⟩ := h
  obtain ⟨x, h1, h2⟩ := hR enc W _ _ _ _ _ h
  exact ⟨x, arg_one h1 (hx x) (one_of_okWide hok ht), h2⟩
theorem arg_readsS {α : Type} {P : Program} {t : TypeId} {f : α → D} {R : α → Prop} (hR : ReadsAs P t f R) {H : Type} {enc : TypeId × Value → H} {W : World} {v : Value} {d : DataW H} {p : List MemPlace} {base : Nat} {sp : Nat → Bool} {fs : Array Field}
    (h : DataW.Trod enc P W 0 sp true t v d p) (hx : ∀ a, ∃ c, f a = .agg c) (hok : Value.okWide P W .any base t v)
    (ht : P.underlying t = some (.struct fs)) : ∃ x : α, RD (hOf W) W (f x) v ∧ R x := by
  obtain ⟨fuel, h⟩ := h
  obtain ⟨x, h1, h2⟩ := hR enc W _ _ _ _ _ h
  obtain ⟨c, hc⟩ := hx x
  refine ⟨x, ?_, h2⟩
  rw [hc] at h1 ⊢
  exact arg_agg h1 (agg_of_okWide hok ht)
end Go.Ac
namespace Go.Ac
theorem cells_i (k : IntKind) (n : Int) : (D.i k n).cells = [D.i k n] := rfl
theorem cells_b (b : Bool) : (D.b b).cells = [D.b b] := rfl
theorem cells_s (l : List UInt8) : (D.s l).cells = [D.s l] := rfl
theorem cells_y (c : UInt8) : (dbyte c).cells = [dbyte c] := rfl
theorem cells_l {α : Type} (f : α → D) (l : List α) : (D.l f l).cells = [D.l f l] := rfl
theorem cells_agg (l : List D) : (D.agg l).cells = l := rfl
end Go.Ac
