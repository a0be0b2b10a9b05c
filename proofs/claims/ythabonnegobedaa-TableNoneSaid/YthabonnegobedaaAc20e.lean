/- Own work: how calls of the model run over plain data. -/
import Derived.Test.YthabonnegobedaaAc20d
set_option linter.unusedVariables false
set_option linter.unusedSimpArgs false
namespace Go.Ac
def AIt (P : Program) (gf : FuncId) (cs : List A) {ι φ : Type} (enc : ι → List A) (step : φ → ι → Option (φ × Bool)) (f0 f1 : φ) : Prop :=
  ∀ (l : Nat) (F : φ → Bx) (N : List Nat), (∀ f, FOk (F f) N) →
    (∀ f x r, step f x = some r → AYield P l (enc x) (F f) (.d (D.b r.2)) (F r.1)) →
    ∃ r, ACallW P gf (.d (.v (.func (.yield l) #[] #[])) :: cs) (F f0) r (F f1)
def stepOf {σ τ ι : Type} (round : σ → ι → Option (σ ⊕ τ)) : σ ⊕ τ → ι → Option ((σ ⊕ τ) × Bool)
  | .inr _, _ => none
  | .inl s, x => match round s x with
    | some (.inl s') => some (.inl s', true)
    | some (.inr t) => some (.inr t, false)
    | none => none
def vn : Nat := 998
theorem run_resolve_clo {P : Program} {w : World} {a : Act} {g : Operand} {l : Nat} {gf : FuncId} {vs : List Value} (e : a.eval g = .func (.func gf) #[] ⟨vs⟩) :
    (resolve a.eval (rangeCall g l) 0).run P w = .ok { target := .fn (.func gf) ⟨vs⟩, args := #[.func (.yield l) #[] #[]] } w := by
  simp only [resolve, e]
  simp [go_sem]
theorem arange {P : Program} {root : Code} {p : List Nat} {g : Operand} {ps : Array Tmp} {assign body : Code} (hc : codeAt root p = .rangeFunc g ps assign body)
    {σ τ ι : Type} {E : List A} {BL FL : σ → Bx} {BT FT : τ → Bx} {X : τ → Ex} {enc : ι → List A} {round : σ → ι → Option (σ ⊕ τ)} {gf : FuncId} {cs : List A} {st0 : σ} {fin : σ ⊕ τ}
    (hg : calleeOf (St.ev ⟨E, BL st0, FL st0⟩ g) = some (gf, [], cs)) (hf : fnOk P gf = true) (hcs : bares cs = true)
    (henc : ∀ x, bares (enc x) = true ∧ (enc x).length = ps.size)
    (hlowL : ∀ s us, lowB ((vn, .vals E us) :: BL s) = true ∧ closB ((vn, .vals E us) :: BL s) = true)
    (hlowT : ∀ t us, lowB ((vn, .vals E us) :: BT t) = true ∧ closB ((vn, .vals E us) :: BT t) = true)
    (hnL : ∀ s, names (BL s) = names (BL st0)) (hnT : ∀ t, names (BT t) = names (BL st0)) (hvn : vn ∉ names (BL st0)) (hX : ∀ t, isN (X t) = false)
    (hFL : ∀ s, FOk (FL s) (names (FL st0))) (hFT : ∀ t, FOk (FT t) (names (FL st0)))
    (hn : ∀ s x s', round s x = some (.inl s') → ∀ l us, ∃ M E1, AC P (some l) assign ⟨setPs E (ps.toList.zip (enc x)), (vn, .vals E us) :: BL s, FL s⟩ (fun e s1 => e = .normal ∧ s1 = M) ∧
      AC P (some l) body M fun e1 s1 => e1 = .normal ∧ s1 = ⟨E1, (vn, .vals E us) :: BL s', FL s'⟩)
    (hx : ∀ s x t, round s x = some (.inr t) → ∀ l us, ∃ M E1, AC P (some l) assign ⟨setPs E (ps.toList.zip (enc x)), (vn, .vals E us) :: BL s, FL s⟩ (fun e s1 => e = .normal ∧ s1 = M) ∧
      AC P (some l) body M fun e1 s1 => e1 = X t ∧ s1 = ⟨E1, (vn, .vals E us) :: BT t, FT t⟩)
    (hit : AIt P gf cs enc (stepOf round) (.inl st0) fin) :
    AC P none (codeAt root p) ⟨E, BL st0, FL st0⟩ fun e s => match fin with
      | .inl s' => e = .normal ∧ s = ⟨E, BL s', FL s'⟩
      | .inr t => e = X t ∧ s = ⟨E, BT t, FT t⟩ := by
  intro h w val a H Q hQ
  rw [hc]
  refine wpIn_rangeFunc ?_
  intro fn _
  obtain ⟨us0, vs, e1, hu0, hcv⟩ := calleeOf_ok hg (H.ev g)
  simp only [RAs] at hu0
  subst hu0
  let rec0 : Loop := { state := .ready, pending := none, fn, tmps := a.tmps, params := ps, assign, body, defers := w.heap.size }
  let us := a.tmps.toList
  let W1 := (w.alloc (.deferred (some []))).alloc (.loop rec0)
  let l := w.heap.size + 1
  -- the frame
  let Bf : σ ⊕ τ → Bx := fun f => match f with
    | .inl s => BL s
    | .inr t => BT t
  let Ff : σ ⊕ τ → Bx := fun f => match f with
    | .inl s => FL s
    | .inr t => FT t
  let jf : σ ⊕ τ → Option Code := fun f => match f with
    | .inl _ => none
    | .inr t => jumpOf (X t)
  let Al : σ ⊕ τ → Bx := fun f => ((vn, .vals E us) :: Bf f) ++ Ff f
  let F : σ ⊕ τ → Bx := fun f => frameOf l (recOf rec0 (jf f)) (Al f)
  have hlow : ∀ f, lowB ((vn, .vals E us) :: Bf f) = true ∧ closB ((vn, .vals E us) :: Bf f) = true := fun f => by
    cases f with
    | inl s => exact hlowL s us
    | inr t => exact hlowT t us
  have hFf : ∀ f, FOk (Ff f) (names (FL st0)) := fun f => by
    cases f with
    | inl s => exact hFL s
    | inr t => exact hFT t
  have hnB : ∀ f, names (Bf f) = names (BL st0) := fun f => by
    cases f with
    | inl s => exact hnL s
    | inr t => exact hnT t
  have hnA : ∀ f, names (Al f) = vn :: names (BL st0) ++ names (FL st0) := fun f => by
    show names (((vn, .vals E us) :: Bf f) ++ Ff f) = _
    rw [names_append, (hFf f).nms]
    show vn :: names (Bf f) ++ _ = _
    rw [hnB]
  have hNm : ∀ f, Nmd (Al f) := fun f => nmd_app (lowB_nmd (hlow f).1) (hFf f).nmd
  have hclA : ∀ f, ∀ q ∈ Al f, ∀ m, q.2.has m = true → m ∈ names (Al f) := fun f q hq m hm => by
    show m ∈ names (((vn, .vals E us) :: Bf f) ++ Ff f)
    rw [names_append]
    rcases List.mem_append.1 hq with h | h
    · exact List.mem_append_left _ (closB_ok (hlow f).2 h m hm)
    · exact List.mem_append_right _ ((hFf f).cls q h m hm)
  have hnbn : ∀ f, ∀ q ∈ Al f, q.1 ≠ bn ∧ ∀ m, q.2.has m = true → m ≠ bn := fun f q hq => ne_bn (hlow f).1 (hFf f).far hq
  have hnF : ∀ f, names (F f) = rn :: (vn :: names (BL st0) ++ names (FL st0)).map sh := fun f => by
    show names (frameOf _ _ _) = _
    rw [names_frame, hnA]
  have hclF : ∀ f, Clsd (F f) := by
    intro f q hq m hm
    rcases List.mem_cons.1 hq with rfl | hq
    · simp [Bk.has] at hm
    · obtain ⟨q', hq', rfl⟩ := List.mem_map.1 hq
      obtain ⟨k, hk⟩ := hNm f q' hq'
      obtain ⟨n, h3, h4⟩ := Bk.has_mapN hk m hm
      show m ∈ names (frameOf _ _ _)
      rw [names_frame]
      exact List.mem_cons_of_mem _ (List.mem_map.2 ⟨n, hclA f q' hq' n h3, h4⟩)
  have hY : ∀ f x r, stepOf round f x = some r → AYield P l (enc x) (F f) (.d (D.b r.2)) (F r.1) := by
    intro f x r hr
    cases f with
    | inr t => simp [stepOf] at hr
    | inl s =>
      simp only [stepOf] at hr
      have hnn : ∀ f', names ((vn, Bk.vals E us) :: Bf f') = names ((vn, Bk.vals E us) :: BL s) := fun f' => by
        show vn :: names (Bf f') = vn :: names (BL s)
        rw [hnB, hnL s]
      have hfn : ∀ f', names (Ff f') = names (FL s) := fun f' => by rw [(hFf f').nms, (hFL s).nms]
      have o1 := hFf (.inl s)
      split at hr
      · rename_i s' hs
        simp only [Option.some.injEq] at hr
        subst hr
        obtain ⟨M, E1, g1, g2⟩ := hn s x s' hs l us
        have o2 := hFf (.inl s')
        exact ayield (r := rec0) (e := .normal) M E1 (henc x).2 (henc x).1 (hlow (.inl s)).1 (hlow (.inl s')).1 (hlow (.inl s')).2 (hnn (.inl s')) o1.far o2.far o1.nmd o2.nmd o2.cls (hfn (.inl s')) ⟨vn, .head _⟩ g1 g2
      · rename_i t hs
        simp only [Option.some.injEq] at hr
        subst hr
        obtain ⟨M, E1, g1, g2⟩ := hx s x t hs l us
        have o2 := hFf (.inr t)
        have := ayield (r := rec0) (e := X t) M E1 (henc x).2 (henc x).1 (hlow (.inl s)).1 (hlow (.inr t)).1 (hlow (.inr t)).2 (hnn (.inr t)) o1.far o2.far o1.nmd o2.nmd o2.cls (hfn (.inr t)) ⟨vn, .head _⟩ g1 g2
        rw [hX t] at this
        exact this
      · cases hr
  obtain ⟨r, hcall⟩ := hit l F _ (fun f => ⟨far_frame (hNm f), nmd_frame (hNm f), hclF f, hnF f⟩) hY
  -- the record and the block are laid
  let h1 : Hw := setH (setH h w.heap.size 0) (w.alloc (.deferred (some []))).heap.size 0
  have k1 : Keep [] h w h1 W1 := (keep_new [] h w (.deferred (some [])) 0).trans (keep_new [] _ (w.alloc (.deferred (some []))) (.loop rec0) 0) (fun x hx => by cases hx)
  have hsz1 : W1.heap.size = w.heap.size + 2 := by simp [W1]
  have hlW : W1.heap[l]? = some (.loop rec0) := by
    have := World.alloc_heap_new (w.alloc (.deferred (some []))) (.loop rec0)
    rwa [World.size_alloc] at this
  have hDW : W1.heap[w.heap.size]? = some (.deferred (some [])) := (heap_alloc_old (w.alloc (.deferred (some []))) (.loop rec0) (by simp)).trans (World.alloc_heap_new w _)
  let vF : Val := fun n => if n = rn then .pointer (some ⟨l, 0, none⟩) else val (shi n)
  have hvrn : vF rn = .pointer (some ⟨l, 0, none⟩) := if_pos rfl
  have hvsh : ∀ n, vF (sh n) = val n := fun n => by
    show (if sh n = rn then _ else val (shi (sh n))) = _
    rw [if_neg (show sh n ≠ rn from (sh_ge n).2.2), shi_sh]
  have hBL : Inv h w val (BL st0 ++ FL st0) := H.inv
  have hIB : Inv h1 W1 val (Al (.inl st0)) := by
    refine ⟨fun q hq => ?_, ?_, ?_⟩
    · rcases List.mem_cons.1 hq with rfl | hq
      · exact RAs.stays k1.stays _ _ _ H.e
      · exact (hBL.quiet k1).rep q hq
    · refine List.nodup_cons.2 ⟨?_, hBL.nms⟩
      show vn ∉ names (BL st0 ++ FL st0)
      rw [names_append]
      intro hin
      rcases List.mem_append.1 hin with h | h
      · exact hvn h
      · obtain ⟨q, hq, e⟩ := List.mem_map.1 h
        exact ((hFL st0).far vn (.inl (by decide)) q hq).1 e
    · exact hBL.bks
  have hblF0 : blks vF (F (.inl st0)) = l :: blks val (BL st0 ++ FL st0) := by
    show blks vF (frameOf _ _ _) = _
    rw [blks_frame hvrn]
    congr 1
    show blks (fun n => vF (sh n)) (((vn, Bk.vals E us) :: BL st0) ++ FL st0) = _
    have : blks (fun n => vF (sh n)) (((vn, Bk.vals E us) :: BL st0) ++ FL st0) = blks (fun n => vF (sh n)) (BL st0 ++ FL st0) := rfl
    rw [this]
    exact blks_congr fun n hn => hvsh n
  have hltB : ∀ b ∈ blks val (BL st0 ++ FL st0), b < w.heap.size := hBL.blk_lt
  have hIF : Inv h1 W1 vF (F (.inl st0)) := by
    refine ⟨fun q hq => ?_, ?_, ?_⟩
    · rcases List.mem_cons.1 hq with rfl | hq
      · exact ⟨hvrn, hlW, rfl⟩
      · obtain ⟨q', hq', rfl⟩ := List.mem_map.1 hq
        obtain ⟨k, hk⟩ := hNm (.inl st0) q' hq'
        exact (RB_mapS q'.1 hk).2 (RB.congr (hvsh _) (fun m _ => hvsh m) (hIB.rep q' hq'))
    · show (names (frameOf _ _ _)).Nodup
      rw [names_frame]
      refine List.nodup_cons.2 ⟨fun hin => ?_, nodup_map_on (fun x hx y hy e => sh_inj e) hIB.nms⟩
      obtain ⟨n, hn, e⟩ := List.mem_map.1 hin
      exact (sh_ge n).2.2 e
    · rw [hblF0]
      exact List.nodup_cons.2 ⟨fun hin => by have := hltB l hin; simp only [l] at this; omega, hBL.bks⟩
  have hargs : RAs h1 W1 vF (.d (.v (.func (.yield l) #[] #[])) :: cs) (.func (.yield l) #[] #[] :: vs) := by
    simp only [RAs]
    exact ⟨_, _, rfl, by simp [RA, RD, Value.oneCell'], RAs.bare _ _ hcs (RAs.stays k1.stays _ _ _ hcv)⟩
  have hC := hcall h1 W1 vF _ hIF hargs
  refine ⟨l, [{ target := .collected w.heap.size, args := #[] }], W1, { target := .fn (.func gf) ⟨vs⟩, args := #[.func (.yield l) #[] #[]] }, W1, gf, #[.func (.yield l) #[] #[]] ++ ⟨vs⟩, W1, ?_, run_resolve_clo e1, fun _ _ => trivial, ?_, fc_depth none, ?_⟩
  · exact run_enterLoop_outer _ _ _ _ _
  · simp [invoke, go_sem, run_callFunc hf]
  · have he : (#[.func (.yield l) #[] #[]] ++ ⟨vs⟩ : Array Value) = ⟨.func (.yield l) #[] #[] :: vs⟩ := by apply Array.ext'; simp
    rw [he]
    refine (callsIn_fc hC).mono ?_
    rintro e w' ⟨h', val', u, rfl, hI', hr, hk, hv, hnew⟩
    obtain ⟨hvl, hl', _⟩ : val' rn = .pointer (some ⟨l, 0, none⟩) ∧ w'.heap[l]? = some (.loop (recOf rec0 (jf fin))) ∧ _ := hI'.rep (rn, .obj l (.loop (recOf rec0 (jf fin)))) (.head _)
    refine ⟨_, _, run_endLoop hl' (by simp only [recOf]; split <;> exact fun e => by cases e), ?_⟩
    generalize hW4 : w'.putObj l (.loop { recOf rec0 (jf fin) with state := .exhausted }) = W4
    have k5 : Keep [l] h' w' h' W4 := by rw [← hW4]; exact keep_putObj hl' rfl (by simp)
    have kT : Keep (blks val (BL st0 ++ FL st0)) h w h' W4 := by
      rw [hblF0] at hk
      have k6 : Keep (blks val (BL st0 ++ FL st0)) h w h1 W1 := k1.mono' fun x hx => by cases hx
      have hle : ∀ x, x = l → w.heap.size ≤ x := fun x e => by rw [e]; simp only [l]; omega
      have k7 := k6.trans hk fun x hx => by
        rcases List.mem_cons.1 hx with e | hx
        · exact .inr (hle x e)
        · exact .inl hx
      exact k7.trans k5 fun x hx => .inr (hle x (by simpa using hx))
    let v2 : Val := fun n => if n = bn then val n else val' (sh n)
    have hv2 : ∀ n, n ≠ bn → v2 n = val' (sh n) := fun n hn => if_neg hn
    have hv2' : v2 bn = val bn := if_pos rfl
    have hlf := hlow fin
    have hbf := hI'.bks
    have ebf : blks val' (F fin) = l :: blks v2 (Bf fin ++ Ff fin) := by
      show blks val' (frameOf _ _ _) = _
      rw [blks_frame hvl]
      congr 1
      have : blks (fun n => val' (sh n)) (((vn, Bk.vals E us) :: Bf fin) ++ Ff fin) = blks (fun n => val' (sh n)) (Bf fin ++ Ff fin) := rfl
      show blks (fun n => val' (sh n)) (((vn, Bk.vals E us) :: Bf fin) ++ Ff fin) = _
      rw [this]
      exact (blks_congr fun n hn => by
        obtain ⟨q, hq, rfl⟩ := List.mem_map.1 hn
        exact hv2 _ (hnbn fin q (.tail _ hq)).1).symm
    rw [ebf] at hbf
    obtain ⟨hlb, hbb⟩ := List.nodup_cons.1 hbf
    have hIw : Inv h' w' v2 (Bf fin ++ Ff fin) := by
      refine ⟨fun q hq => ?_, ?_, hbb⟩
      · obtain ⟨c1, c2⟩ := hnbn fin q (.tail _ hq)
        obtain ⟨k, hk⟩ := hNm fin q (.tail _ hq)
        exact RB.congr (hv2 _ c1) (fun m hm => hv2 m (c2 m hm)) ((RB_mapS q.1 hk).1 (hI'.rep (mapP sh q) (.tail _ (List.mem_map.2 ⟨q, .tail _ hq, rfl⟩))))
      · rw [names_append, hnB, (hFf fin).nms, ← names_append]; exact hBL.nms
    have hE' : RAs h' w' v2 E us := by
      obtain ⟨k, hk⟩ := hNm fin (vn, .vals E us) (.head _)
      have h3 : RAs h' w' val' (mapNs sh E) us := hI'.rep (mapP sh (vn, .vals E us)) (.tail _ (.head _))
      exact RAs.congr _ _ (fun n hn => hv2 n ((hnbn fin (vn, .vals E us) (.head _)).2 n hn)) ((RAs_mapS E k hk us).1 h3)
    have HF : Holds ⟨E, Bf fin, Ff fin⟩ h' W4 v2 { a with defers := [{ target := .collected w.heap.size, args := #[] }] ++ a.defers } := by
      refine ⟨RAs.stays k5.stays _ _ _ hE', ?_, (hFf fin).far, ?_⟩
      · show Inv h' W4 v2 (Bf fin ++ Ff fin)
        refine ⟨fun q hq => RB.stays k5.stays (fun b hb => ?_) (hIw.rep q hq), hIw.nms, hIw.bks⟩
        have hbm := Inv.blk_mem hq hb
        exact k5.far b (hIw.blk_lt b hbm) fun hin => by simp only [List.mem_singleton] at hin; exact hlb (hin ▸ hbm)
      · obtain ⟨hb0, Ds, eD, hDn, hD⟩ := H.defs
        have hbd : bound v2 = bound val := by unfold bound; rw [hv2']
        have hDlt : ∀ D ∈ Ds, D < w.heap.size := fun D hm => (Array.getElem?_eq_some_iff.1 (hD D hm).1).1
        refine ⟨by rw [hbd]; exact Nat.le_trans hb0 kT.size, w.heap.size :: Ds, by simp [eD], List.nodup_cons.2 ⟨fun hm => Nat.lt_irrefl _ (hDlt _ hm), hDn⟩, fun D hm => ?_⟩
        rcases List.mem_cons.1 hm with rfl | hm
        · refine ⟨?_, by rw [hbd]; exact hb0⟩
          have hlt2 : w.heap.size < W1.heap.size := by omega
          have c1 := (hk.far _ hlt2 fun hin => by
            rw [hblF0] at hin
            rcases List.mem_cons.1 hin with e | hin
            · simp only [l] at e; omega
            · exact Nat.lt_irrefl _ (hltB _ hin)).1
          have c2 := (k5.far w.heap.size (Nat.lt_of_lt_of_le hlt2 hk.size) fun hin => by simp only [List.mem_singleton, l] at hin; omega).1
          exact c2.trans (c1.trans hDW)
        · refine ⟨(kT.far D (hDlt D hm) fun hin => ?_).1.trans (hD D hm).1, by rw [hbd]; exact (hD D hm).2⟩
          have := hBL.blk_def D hin _ (hD D hm).1
          cases this
    have NF : Nx ⟨E, BL st0, FL st0⟩ h w val ⟨E, Bf fin, Ff fin⟩ h' W4 v2 := by
      refine ⟨kT, fun n hn => by rw [show n = bn from hn]; exact hv2', fun b hb => ?_⟩
      have hb' : b ∈ blks v2 (Bf fin ++ Ff fin) := hb
      have h3 : b ∈ blks val' (F fin) := by rw [ebf]; exact List.mem_cons_of_mem _ hb'
      show b ∈ blks val (BL st0 ++ FL st0) ∨ _
      rcases hnew b h3 with h4 | h4
      · rw [hblF0] at h4
        rcases List.mem_cons.1 h4 with e | h4
        · exact .inr (by rw [e]; simp only [l]; omega)
        · exact .inl h4
      · exact .inr (by omega)
    cases hfin : fin with
    | inl s' =>
      subst hfin
      exact hQ .normal _ h' W4 v2 _ ⟨rfl, rfl⟩ HF NF
    | inr t =>
      subst hfin
      have hXt := hX t
      cases hXe : X t with
      | normal => rw [hXe] at hXt; cases hXt
      | exit id =>
        have := hQ (.exit id) _ h' W4 v2 _ ⟨hXe.symm, rfl⟩ HF NF
        simp only [recOf, jf, hXe, jumpOf]
        exact wpIn_exit this
      | ret =>
        have := hQ .ret _ h' W4 v2 _ ⟨hXe.symm, rfl⟩ HF NF
        simp only [recOf, jf, hXe, jumpOf]
        exact wpIn_ret this
end Go.Ac
