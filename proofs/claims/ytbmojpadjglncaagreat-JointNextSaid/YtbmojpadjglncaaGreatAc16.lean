/- Own work: how calls of the model run over plain data. -/
import Derived.Test.YtbmojpadjglncaaGreatAc15
set_option linter.unusedVariables false
set_option linter.unusedSimpArgs false
namespace Go.Ac

def drawB (ops : Array Oper) (s : St) (ds : List Dr) : Bool :=
  backB 0 ops.toList && pairsB (closT ops.toList []) [] ds && newsB s ds

theorem unl_lt {n i : Nat} {fl fl' : Nat → Bool} (hfl : ∀ k, fl' k = if k = i then true else fl k) (hi : i < n) (h0 : fl i = false) :
    ((List.range n).filter fun k => !fl' k).length < ((List.range n).filter fun k => !fl k).length := by
  have e : (List.range n).filter (fun k => !fl' k) = ((List.range n).filter fun k => !fl k).filter fun k => k != i := by
    rw [List.filter_filter]
    apply List.filter_congr
    intro k _
    rw [hfl k]
    by_cases hk : k = i
    · simp [hk]
    · simp [hk]
  rw [e, List.length_filter_lt_length_iff_exists]
  exact ⟨i, List.mem_filter.2 ⟨List.mem_range.2 hi, by simp [h0]⟩, by simp⟩

structure Closed (ops : Array Oper) (listed : Array Bool) : Prop where
  size : listed.size = ops.size
  deps : ∀ j o, ops[j]? = some o → listed.getD j false = true → ∀ e ∈ o.after, Region.binds .any e = true → listed.getD e.on false = true

theorem getD_setB {listed : Array Bool} {j : Nat} (hj : j < listed.size) (i : Nat) : (listed.setIfInBounds j true).getD i false = if i = j then true else listed.getD i false := by
  by_cases h : i = j
  · subst h; simp [hj]
  · rw [if_neg h]
    simp only [Array.getD_eq_getD_getElem?]
    rw [Array.getElem?_setIfInBounds_ne (Ne.symm h)]

theorem Closed.set {ops : Array Oper} {listed : Array Bool} (C : Closed ops listed) {j : Nat} (hj : j ∈ Region.ready .any ops listed) : Closed ops (listed.setIfInBounds j true) := by
  obtain ⟨_, oj, hoj, hall⟩ := mem_ready.1 hj
  have hlt : j < listed.size := by rw [C.size]; exact (Array.getElem?_eq_some_iff.1 hoj).1
  refine ⟨by simp [C.size], fun i o ho hl e he hb => ?_⟩
  rw [getD_setB hlt] at hl ⊢
  split
  · rfl
  · split at hl
    · rename_i h2
      subst h2
      have : o = oj := Option.some.inj (ho.symm.trans hoj)
      subst this
      exact hall e he hb
    · exact C.deps i o ho hl e he hb
theorem Closed.good {ops : Array Oper} {listed : Array Bool} (C : Closed ops listed) : Good (fun i => listed.getD i false) (closT ops.toList []) :=
  closT_good _ _ (fun j o hj hL e he hb => C.deps j o (by simpa using hj) (by simpa using hL) e he hb) (fun j m i h => by simp at h)

theorem all_listed {ops : Array Oper} {listed : Array Bool} (C : Closed ops listed) (hb : backB 0 ops.toList = true) (hr : Region.ready .any ops listed = []) : ∀ j, j < ops.size → listed.getD j false = true := by
  intro j
  induction j using Nat.strongRecOn with
  | _ j ih =>
    intro hj
    cases hl : listed.getD j false with
    | true => rfl
    | false =>
      exfalso
      have : j ∈ Region.ready .any ops listed := mem_ready.2 ⟨by
        have : j < listed.size := by rw [C.size]; exact hj
        simp [this] at hl ⊢; exact hl, ops[j], Array.getElem?_eq_getElem hj, fun e he hbd => by
        have h1 := backB_spec _ 0 hb j ops[j] (by simp [hj]) e he hbd
        have h2 : e.on < j := by simpa using h1
        exact ih e.on h2 (Nat.lt_trans h2 hj)⟩
      rw [hr] at this
      cases this

theorem any_done {rd : Option Nat} {P : Program} {ops : Array Oper} {Q : Exit → Act → World → Prop} {listed : Array Bool} {a : Act} {w : World} (hs : listed.size = ops.size) (hl : ∀ j, j < ops.size → listed.getD j false = true) (hQ : Q .normal a w) (fuel : Nat) :
    wpAnyIn (fc rd) 0 P .any ops Q fuel listed a w := by
  have hr : Region.ready .any ops listed = [] := by
    rcases List.eq_nil_or_concat (Region.ready .any ops listed) with h0 | ⟨l, j, hj⟩
    · exact h0
    · exfalso
      have hj' : j ∈ Region.ready .any ops listed := by rw [hj]; simp
      obtain ⟨h1, oj, hoj, _⟩ := mem_ready.1 hj'
      have hlt := (Array.getElem?_eq_some_iff.1 hoj).1
      have h2 := hl j hlt
      simp [hs, hlt] at h1 h2
      rw [h1] at h2; cases h2
  cases fuel with
  | zero => exact ⟨hr, hQ⟩
  | succ n => exact ⟨fun _ => hQ, fun j hj => by rw [hr] at hj; cases hj⟩
theorem draw_go {rd : Option Nat} {P : Program} {ops : Array Oper} {ws : List (Nat × W)} {Q : Exit → Act → World → Prop} {s0 s' : St} {L : Lp} {Φ : Ob} {ds : List Dr} {n : Nat}
    (hn1 : n ≤ ops.size) (hn2 : ops.size ≤ n + 1) (hmask : n < ops.size → ∃ m : Nat, (closT ops.toList [])[n]? = some m ∧ ∀ i, i < n → m.testBit i = true)
    (hrun : drun P ops ws (ops.toList.take n) s0 = some (Φ, ds, s')) (hΦ : Φ.ok P L) (hB : drawB ops s0 ds = true) :
    ∀ (fuel : Nat) (listed : Array Bool) (a : Act) (w : World) (h : Hw) (val : Val), Closed ops listed → (n < ops.size → listed.getD n false = false) → ((List.range ops.size).filter fun k => !listed.getD k false).length ≤ fuel →
      Holds (sig (fun i => listed.getD i false) 0 ds s0) h w val a →
      (∀ h' w' val' a', Holds s' h' w' val' a' → Nx (sig (fun i => listed.getD i false) 0 ds s0) h w val s' h' w' val' → (n = ops.size → Q .normal a' w') ∧
        (n < ops.size → ∀ K : Act → World → Prop, (∀ a2 w2, Q .normal a2 w2 → K a2 w2) → wpOpIn (fc rd) 0 P ops Q n K a' w')) → wpAnyIn (fc rd) 0 P .any ops Q fuel listed a w := by
  obtain ⟨hlen, hend, hall⟩ := drun_spec _ _ _ _ _ hrun hΦ
  have htl : (ops.toList.take n).length = n := by simp only [List.length_take, Array.length_toList]; omega
  rw [htl] at hlen hend
  simp only [drawB, Bool.and_eq_true] at hB
  obtain ⟨⟨hback, hpairs⟩, hnews⟩ := hB
  have hp : ∀ (j : Nat) (b : Dr) (i : Nat) (a : Dr), ds[j]? = some b → ds[i]? = some a → i < j → ∃ m : Nat, (closT ops.toList [])[j]? = some m ∧ pairB (m.testBit i) a b = true := by
    intro j b i a hb ha hij
    have hj : j < (closT ops.toList []).length := by
      have := (List.getElem?_eq_some_iff.1 hb).1
      rw [closT_len]; simp only [List.length_nil, Nat.zero_add, Array.length_toList]; omega
    exact ⟨_, List.getElem?_eq_getElem hj, pairsB_spec _ _ _ hpairs j _ b (List.getElem?_eq_getElem hj) hb i a (by simpa using hij) (by simpa using ha)⟩
  have hsig : ∀ (listed : Array Bool), (∀ j, j < n → listed.getD j false = true) → sig (fun i => listed.getD i false) 0 ds s0 = s' := by
    intro listed hal
    rw [hend, pre_sig ds 0]
    have : ∀ (l : List Dr) (k : Nat) (s : St), k + l.length ≤ n → sig (fun i => listed.getD i false) k l s = sig (fun i => decide (i < 0 + n)) k l s := by
      intro l
      induction l with
      | nil => intro k s _; rfl
      | cons d l ih =>
        intro k s hk
        simp only [List.length_cons] at hk
        have h1 : k < 0 + n := by omega
        simp only [sig, hal k (by omega), h1, decide_true, if_true]
        exact ih (k + 1) _ (by omega)
    exact this ds 0 s0 (by omega)
  have hdone : ∀ (listed : Array Bool) (a : Act) (w : World) (h : Hw) (val : Val), Closed ops listed → (n < ops.size → listed.getD n false = false) → Region.ready .any ops listed = [] →
      Holds (sig (fun i => listed.getD i false) 0 ds s0) h w val a →
      (∀ h' w' val' a', Holds s' h' w' val' a' → Nx (sig (fun i => listed.getD i false) 0 ds s0) h w val s' h' w' val' → (n = ops.size → Q .normal a' w') ∧
        (n < ops.size → ∀ K : Act → World → Prop, (∀ a2 w2, Q .normal a2 w2 → K a2 w2) → wpOpIn (fc rd) 0 P ops Q n K a' w')) → Q .normal a w := by
    intro listed a w h val C hnl hr H hQ
    have hal := all_listed C hback hr
    have e := hsig listed fun j hj => hal j (by omega)
    rw [e] at H hQ
    rcases Nat.lt_or_ge n ops.size with hlt | hge
    · have h1 := hnl hlt
      rw [hal n hlt] at h1; cases h1
    · exact (hQ h w val a H (Nx.refl s' h w val rfl)).1 (by omega)
  intro fuel
  induction fuel with
  | zero =>
    intro listed a w h val C hnl hn H hQ
    have hr : Region.ready .any ops listed = [] := by
      rcases List.eq_nil_or_concat (Region.ready .any ops listed) with h0 | ⟨l, j, hj⟩
      · exact h0
      · exfalso
        have hj' : j ∈ Region.ready .any ops listed := by rw [hj]; simp
        obtain ⟨h1, oj, hoj, _⟩ := mem_ready.1 hj'
        have hlt := (Array.getElem?_eq_some_iff.1 hoj).1
        have : j ∈ (List.range ops.size).filter fun k => !listed.getD k false := List.mem_filter.2 ⟨List.mem_range.2 hlt, by
          have h2 : j < listed.size := by rw [C.size]; exact hlt
          simp [h2] at h1 ⊢; exact h1⟩
        have := List.length_pos_of_mem this
        omega
    exact ⟨hr, hdone listed a w h val C hnl hr H hQ⟩
  | succ fuel ih =>
    intro listed a w h val C hnl hn H hQ
    refine ⟨fun hr => hdone listed a w h val C hnl hr H hQ, fun j hj => ?_⟩
    obtain ⟨hj1, oj, hoj, hdeps⟩ := mem_ready.1 hj
    have hlt := (Array.getElem?_eq_some_iff.1 hoj).1
    have hltL : j < listed.size := by rw [C.size]; exact hlt
    have hj0 : listed.getD j false = false := by simp [hltL] at hj1 ⊢; exact hj1
    have C' := C.set hj
    have hfl : ∀ i, (listed.setIfInBounds j true).getD i false = if i = j then true else listed.getD i false := getD_setB hltL
    rcases Nat.lt_or_ge j n with hjn | hjn
    rotate_left
    · have hjn : j = n := by omega
      subst hjn
      obtain ⟨m, hm, hmb⟩ := hmask hlt
      have hal : ∀ i, i < j → listed.getD i false = true := fun i hi => by
        have := C'.good j m i hm (hmb i hi) (by simp only [hfl, if_true])
        simp only [hfl] at this
        rwa [if_neg (by omega)] at this
      have e := hsig listed hal
      rw [e] at H hQ
      refine (hQ h w val a H (Nx.refl s' h w val rfl)).2 hlt _ fun a2 w2 hq => any_done C'.size (fun i hi => ?_) hq fuel
      rw [hfl]
      split
      · rfl
      · exact hal i (by omega)
    obtain ⟨d, Φ', hd, hΦ', hst, hts, hvs, hns, hlo⟩ := hall j oj (by rw [List.getElem?_take, if_pos hjn]; simpa using hoj)
    -- two that are not ordered
    have hun1 : ∀ (i : Nat) (a : Dr), ds[i]? = some a → i < j → pairB (((closT ops.toList []).getD j 0).testBit i) a d = true := by
      intro i a ha hij
      obtain ⟨m, hm, hpb⟩ := hp j d i a hd ha hij
      simpa [List.getD, hm] using hpb
    have hun2 : ∀ (i : Nat) (a : Dr), ds[i]? = some a → j < i → listed.getD i false = true → pairB false d a = true := by
      intro i a ha hij hL
      obtain ⟨m, hm, hpb⟩ := hp i a j d ha hd hij
      cases hb : m.testBit j with
      | false => rwa [hb] at hpb
      | true =>
        have h1 := C.good i m j hm hb hL
        simp only at h1
        rw [hj0] at h1
        cases h1
    have hun3 : ∀ (i : Nat) (a : Dr), ds[i]? = some a → i < j → listed.getD i false = false → pairB false a d = true := by
      intro i a ha hij hL
      obtain ⟨m, hm, hpb⟩ := hp j d i a hd ha hij
      cases hb : m.testBit i with
      | false => rwa [hb] at hpb
      | true =>
        have := C'.good j m i hm hb (by simp only [hfl, if_true])
        simp only [hfl] at this
        rw [if_neg (by omega), hL] at this
        cases this
    have hspec : ∀ {a b : Dr}, pairB false a b = true → newB a b = true ∧ indep a.c b = true ∧ indep b.c a = true ∧ commB a.c b.c = true ∧ commB b.c a.c = true ∧ newB b a = true := by
      intro a b h
      simp only [pairB, Bool.false_or, Bool.and_eq_true] at h
      exact ⟨h.1, h.2.1.1.1.1, h.2.1.1.1.2, h.2.1.1.2, h.2.1.2, h.2.2⟩
    have hfp : FP d.ts (fun n => hasAny n d.vs) (pre ds j s0) (sig (fun i => listed.getD i false) 0 ds s0) := by
      rw [pre_sig ds 0]
      refine sig_fp ds 0 (fun i a ha hne => ?_) (FP.refl _ _ _)
      simp only [Nat.zero_add] at hne
      rcases Nat.lt_trichotomy i j with hij | hij | hij
      · simp only [hij, decide_true] at hne
        have hL : listed.getD i false = false := by
          cases hh : listed.getD i false with
          | false => rfl
          | true => rw [hh] at hne; exact absurd rfl hne
        exact (hspec (hun3 i a ha hij hL)).2.1
      · subst hij
        exfalso
        apply hne
        rw [hj0]
        simp
      · have : ¬ i < j := by omega
        simp only [this, decide_false] at hne
        have hL : listed.getD i false = true := by
          cases hh : listed.getD i false with
          | true => rfl
          | false => rw [hh] at hne; exact absurd rfl hne
        exact (hspec (hun2 i a ha hij hL)).2.2.1
    rw [hts, hvs] at hfp
    have hfr : d.c.es.any isAdd = true → ∀ x, oj.dst = some x → fresh x (sig (fun i => listed.getD i false) 0 ds s0) = true := by
      intro hadd x hx
      have hdst : d.c.dst = some x := by
        have : d.c.dst = oj.dst := by
          unfold dstep at hst
          split at hst
          · split at hst
            · split at hst
              · simp only [Option.some.injEq, Prod.mk.injEq] at hst; rw [← hst.2]
              · split at hst
                · simp only [Option.some.injEq, Prod.mk.injEq] at hst; rw [← hst.2]
                · cases hst
            · simp only [Option.some.injEq, Prod.mk.injEq] at hst; rw [← hst.2]
            · cases hst
          · cases hst
        rw [this]; exact hx
      have hnb : ∀ {a : Dr}, newB a d = true → a.c.free x = true := by
        intro a h
        simp only [newB, hadd, Bool.not_true, Bool.false_or, hdst, Bool.and_eq_true] at h
        exact h.1
      refine sig_fresh ds 0 (fun i a ha hL => ?_) ((newsB_spec ds hnews j d hd).1 hadd x hdst)
      simp only [Nat.zero_add] at hL
      rcases Nat.lt_trichotomy i j with hij | hij | hij
      · have := hun1 i a ha hij
        simp only [pairB, Bool.and_eq_true] at this
        exact hnb this.1
      · subst hij; rw [hj0] at hL; cases hL
      · exact hnb (hspec (hun2 i a ha hij hL)).2.2.2.2.2
    have hfn : ∀ x ∈ nns (wOf ws oj), fresh x (sig (fun i => listed.getD i false) 0 ds s0) = true := by
      intro x hx
      rw [← hns] at hx
      have hnb : ∀ {a : Dr}, newB a d = true → a.c.free x = true := by
        intro a h
        simp only [newB, Bool.and_eq_true] at h
        exact listAll_ok h.2 x hx
      refine sig_fresh ds 0 (fun i a ha hL => ?_) ((newsB_spec ds hnews j d hd).2 x hx)
      simp only [Nat.zero_add] at hL
      rcases Nat.lt_trichotomy i j with hij | hij | hij
      · have := hun1 i a ha hij
        simp only [pairB, Bool.and_eq_true] at this
        exact hnb this.1
      · subst hij; rw [hj0] at hL; cases hL
      · exact hnb (hspec (hun2 i a ha hij hL)).2.2.2.2.2
    have hst' := dstep_same hst hfp hlo hfn hfr
    have hins : sig (fun i => (listed.setIfInBounds j true).getD i false) 0 ds s0 = d.c.ap (sig (fun i => listed.getD i false) 0 ds s0) :=
      sig_insert (fl := fun i => listed.getD i false) hfl hj0 ds 0 s0 (Nat.zero_le _) (by simpa using hd) fun i a ha hij hL => by
        simp only [Nat.zero_add] at hij hL
        exact (hspec (hun2 i a ha hij hL)).2.2.2.2.1
    refine dstep_ok hst' hΦ' H hoj fun h' w' val' a' H' hn' => ?_
    rw [← hins] at H' hn'
    refine ih (listed.setIfInBounds j true) a' w' h' val' C' (fun hlt => by rw [hfl, if_neg (by omega)]; exact hnl hlt) ?_ H' fun h2 w2 v2 a2 H2 hn2 => hQ h2 w2 v2 a2 H2 (hn'.trans hn2)
    have := unl_lt (n := ops.size) hfl hlt hj0
    omega

theorem getD_replF (m j : Nat) : (Array.replicate m false).getD j false = false := by
  rcases Nat.lt_or_ge j m with h | h
  · simp [h]
  · simp [h]
theorem sig_none (n : Nat) : ∀ (ds : List Dr) (k : Nat) (s : St), sig (fun i => (Array.replicate n false).getD i false) k ds s = s
  | [], _, _ => rfl
  | d :: ds, k, s => by
    simp only [sig, getD_replF, Bool.false_eq_true, if_false]
    have := sig_none n ds (k + 1) s
    simpa only [getD_replF] using this
def maskB (T : List Nat) (n : Nat) : Bool := match T[n]? with
  | some m => (List.range n).all fun i => m.testBit i
  | none => false
def aregion (P : Program) (ops : Array Oper) (draws : Bool) (ws : List (Nat × W)) (s : St) : Option (Ob × St) :=
  if draws then match drun P ops ws ops.toList s with
    | some (Φ, ds, s') => if drawB ops s ds then some (Φ, s') else none
    | none => match ops[ops.size - 1]? with
      | none => none
      | some o => match drun P ops ws (ops.toList.take (ops.size - 1)) s with
        | none => none
        | some (Φ, ds, s1) => if drawB ops s ds && maskB (closT ops.toList []) (ops.size - 1) then match astep P ops ws s1 o with
          | some (Ψ, s2) => some (Φ.and Ψ, s2)
          | none => none
          else none
  else arun P ops ws ops.toList s

theorem RA_world {h : Hw} {w : World} {val : Val} : Stays h w h { w with drawn := w.drawn + 1 } := ⟨fun _ _ _ _ hc => hc, fun _ _ => Nat.le_refl _⟩
theorem Keep.drew (M : List Nat) (h : Hw) (w : World) : Keep M h w h { w with drawn := w.drawn + 1 } :=
  ⟨rfl, rfl, rfl, Nat.le_refl _, fun _ _ _ _ hc => hc, fun _ _ => Nat.le_refl _, fun _ _ _ => ⟨rfl, rfl⟩⟩

theorem aregion_ok {rd : Option Nat} {P : Program} {id : Nat} {ops : Array Oper} {draws : Bool} {ws : List (Nat × W)} {s s' : St} {L : Lp} {Φ : Ob} {Q : Exit → Act → World → Prop} (hm : P.follows .mixedOrders = true)
    (he : aregion P ops draws ws s = some (Φ, s')) (hΦ : Φ.ok P L) {h w val a} (H : Holds s h w val a)
    (hQ : ∀ h' w' val' a', Holds s' h' w' val' a' → Nx s h w val s' h' w' val' → Q .normal a' w') : (Code.region id ops draws).wpIn (fc rd) 0 P Q a w := by
  unfold aregion at he
  cases draws with
  | true =>
    simp only [if_true] at he
    have hk := Keep.drew [] h w
    have hq := H.quiet hk
    have hcl : Closed ops (Array.replicate ops.size false) := ⟨by simp, fun j o _ hl => by rw [getD_replF] at hl; cases hl⟩
    have hun : ((List.range ops.size).filter fun k => !(Array.replicate ops.size false).getD k false).length ≤ ops.size := Nat.le_trans (List.length_filter_le _ _) (by simp)
    split at he
    · rename_i Φ' ds s1 hr
      split at he
      · rename_i hB
        simp only [Option.some.injEq, Prod.mk.injEq] at he
        obtain ⟨rfl, rfl⟩ := he
        have hr' : drun P ops ws (ops.toList.take ops.size) s = some (Φ', ds, s1) := by
          rw [List.take_of_length_le (by simp)]; exact hr
        refine wpIn_region_any hm (draw_go (Nat.le_refl _) (by omega) (fun h => absurd h (Nat.lt_irrefl _)) hr' hΦ hB _ _ _ _ h val hcl (fun h => absurd h (Nat.lt_irrefl _)) hun ?_ ?_)
        · rw [sig_none]; exact hq
        · intro h' w' val' a' H' hn
          rw [sig_none] at hn
          exact ⟨fun _ => hQ h' w' val' a' H' (Nx.trans ⟨Keep.drew _ h w, fun _ _ => rfl, fun b hb => .inl hb⟩ hn), fun h => absurd h (Nat.lt_irrefl _)⟩
      · cases he
    · split at he
      · cases he
      · rename_i o ho
        split at he
        · cases he
        · rename_i Φ' ds s1 hr
          split at he
          · rename_i hB
            split at he
            · rename_i Ψ s2 ha
              simp only [Option.some.injEq, Prod.mk.injEq] at he
              obtain ⟨rfl, rfl⟩ := he
              obtain ⟨hΦ1, hΨ⟩ := Ob.and_ok hΦ
              simp only [Bool.and_eq_true] at hB
              have hlt := (Array.getElem?_eq_some_iff.1 ho).1
              have hmask : ops.size - 1 < ops.size → ∃ m : Nat, (closT ops.toList [])[ops.size - 1]? = some m ∧ ∀ i, i < ops.size - 1 → m.testBit i = true := fun _ => by
                have h2 := hB.2
                unfold maskB at h2
                split at h2
                · rename_i m hm
                  exact ⟨m, hm, fun i hi => List.all_eq_true.1 h2 i (List.mem_range.2 hi)⟩
                · cases h2
              refine wpIn_region_any hm (draw_go (by omega) (by omega) hmask hr hΦ1 hB.1 _ _ _ _ h val hcl (fun _ => getD_replF _ _) hun ?_ ?_)
              · rw [sig_none]; exact hq
              · intro h' w' val' a' H' hn
                rw [sig_none] at hn
                refine ⟨fun h => absurd h (by omega), fun _ K hK => astep_ok ha hΨ H' ho fun h2 w2 v2 a2 H2 hn2 => hK _ _ ?_⟩
                exact hQ h2 w2 v2 a2 H2 (Nx.trans ⟨Keep.drew _ h w, fun _ _ => rfl, fun b hb => .inl hb⟩ (hn.trans hn2))
            · cases he
          · cases he
  | false =>
    simp only [Bool.false_eq_true, if_false] at he
    refine wpIn_region ?_
    have := arun_ok (rd := rd) (Q := Q) ops.toList 0 s s' Φ (fun j => by simp) he hΦ h w val a H hQ
    simpa [List.range_eq_range'] using this
end Go.Ac
