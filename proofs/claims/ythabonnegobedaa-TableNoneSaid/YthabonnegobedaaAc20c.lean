/- Own work: how calls of the model run over plain data. -/
import Derived.Test.YthabonnegobedaaAc20
import Derived.Test.YthabonnegobedaaAc11b
set_option linter.unusedVariables false
set_option linter.unusedSimpArgs false
namespace Go.Ac
set_option maxRecDepth 4000
def sh (n : Nat) : Nat := if n < up then n + up else if n < 996000 then n + 4000 else n + 4001
def shi (n : Nat) : Nat := if n < up + up then n - up else if n < 1000000 then n - 4000 else n - 4001
theorem sh_cases (n : Nat) : (n < 1000 ∧ sh n = n + 1000) ∨ (1000 ≤ n ∧ n < 996000 ∧ sh n = n + 4000) ∨ (996000 ≤ n ∧ sh n = n + 4001) := by
  unfold sh up
  by_cases h1 : n < 1000
  · exact .inl ⟨h1, if_pos h1⟩
  · by_cases h2 : n < 996000
    · exact .inr (.inl ⟨by omega, h2, by rw [if_neg h1, if_pos h2]⟩)
    · exact .inr (.inr ⟨by omega, by rw [if_neg h1, if_neg h2]⟩)
theorem shi_sh (n : Nat) : shi (sh n) = n := by
  unfold shi up
  rcases sh_cases n with ⟨h, e⟩ | ⟨h, h2, e⟩ | ⟨h, e⟩ <;> rw [e]
  · rw [if_pos (by omega)]; omega
  · rw [if_neg (by omega), if_pos (by omega)]; omega
  · rw [if_neg (by omega), if_neg (by omega)]; omega
theorem sh_inj {n m : Nat} (h : sh n = sh m) : n = m := by rw [← shi_sh n, h, shi_sh]
theorem sh_ge (n : Nat) : up ≤ sh n ∧ sh n ≠ 1000000 ∧ sh n ≠ 3000 := by
  unfold up
  rcases sh_cases n with ⟨h, e⟩ | ⟨h, h2, e⟩ | ⟨h, e⟩ <;> rw [e] <;> omega
mutual
theorem RA_mapS {h w} {val : Val} {ρ : Nat → Nat} : ∀ (a : A) (l : List Nat), a.nms = some l → ∀ (u : Value), RA h w val (a.mapN ρ) u ↔ RA h w (fun n => val (ρ n)) a u
  | .d _, _, _, u => by simp only [A.mapN, RA]
  | .eptr _, _, _, u => by simp only [A.mapN, RA]
  | .nil, _, _, u => by simp only [A.mapN, RA]
  | .ub, _, _, u => by simp only [A.mapN, RA]
  | .any, _, _, u => by simp only [A.mapN, RA]
  | .box _ _, _, _, u => by simp only [A.mapN, RA]
  | .bsl _ _ _, _, _, u => by simp only [A.mapN, RA]
  | .ep _ _ _ _, _, _, u => by simp only [A.mapN, RA]
  | .row _, _, _, u => by simp only [A.mapN, RA]
  | .opq a, l, h, u => by simp [A.nms] at h
  | .clo f fs cs, l, h, u => by
    simp only [A.nms] at h
    split at h
    · rename_i x y hx hy
      simp only [A.mapN, RA, RAs_mapS fs x hx, RAs_mapS cs y hy]
    · cases h
  | .agg cs, l, h, u => by simp only [A.mapN, RA, RAs_mapS cs l (by simpa only [A.nms] using h)]
  | .tup cs, l, h, u => by simp only [A.mapN, RA, RAs_mapS cs l (by simpa only [A.nms] using h)]
theorem RAs_mapS {h w} {val : Val} {ρ : Nat → Nat} : ∀ (as : List A) (l : List Nat), nmss as = some l → ∀ (us : List Value), RAs h w val (mapNs ρ as) us ↔ RAs h w (fun n => val (ρ n)) as us
  | [], _, _, us => by simp only [mapNs, RAs]
  | a :: as, l, h, us => by
    simp only [nmss] at h
    split at h
    · rename_i x y hx hy
      simp only [mapNs, RAs, RA_mapS a x hx, RAs_mapS as y hy]
    · cases h
end
theorem RB_mapS {h w} {val : Val} {ρ : Nat → Nat} (n : Nat) {b : Bk} {l : List Nat} (hb : b.nms = some l) : RB h w val (ρ n) (b.mapN ρ) ↔ RB h w (fun n => val (ρ n)) n b := by
  cases b with
  | cells cs => simp only [Bk.mapN, RB, RAs_mapS cs l hb]
  | vals as us => simp only [Bk.mapN, RB, RAs_mapS as l hb]
  | _ => simp only [Bk.mapN, RB]
mutual
theorem A.nms_mapN {ρ : Nat → Nat} : ∀ (a : A) (l : List Nat), a.nms = some l → (a.mapN ρ).nms = some (l.map ρ)
  | .d _, l, h => by simp only [A.nms] at h; cases h; rfl
  | .eptr _, l, h => by simp only [A.nms] at h; cases h; rfl
  | .nil, l, h => by simp only [A.nms] at h; cases h; rfl
  | .ub, l, h => by simp only [A.nms] at h; cases h; rfl
  | .any, l, h => by simp only [A.nms] at h; cases h; rfl
  | .box _ _, l, h => by simp only [A.nms] at h; cases h; rfl
  | .bsl _ _ _, l, h => by simp only [A.nms] at h; cases h; rfl
  | .ep _ _ _ _, l, h => by simp only [A.nms] at h; cases h; rfl
  | .row _, l, h => by simp only [A.nms] at h; cases h; rfl
  | .opq a, l, h => by simp [A.nms] at h
  | .clo f fs cs, l, h => by
    simp only [A.nms] at h
    split at h
    · rename_i x y hx hy
      cases h
      simp only [A.mapN, A.nms, nmss_mapN fs x hx, nmss_mapN cs y hy, List.map_append]
    · cases h
  | .agg cs, l, h => by simp only [A.mapN, A.nms]; exact nmss_mapN cs l (by simpa only [A.nms] using h)
  | .tup cs, l, h => by simp only [A.mapN, A.nms]; exact nmss_mapN cs l (by simpa only [A.nms] using h)
theorem nmss_mapN {ρ : Nat → Nat} : ∀ (as : List A) (l : List Nat), nmss as = some l → nmss (mapNs ρ as) = some (l.map ρ)
  | [], l, h => by simp only [nmss] at h; cases h; rfl
  | a :: as, l, h => by
    simp only [nmss] at h
    split at h
    · rename_i x y hx hy
      cases h
      simp only [mapNs, nmss, A.nms_mapN a x hx, nmss_mapN as y hy, List.map_append]
    · cases h
end
theorem Bk.nms_mapN {ρ : Nat → Nat} {b : Bk} {l : List Nat} (h : b.nms = some l) : ∃ l', (b.mapN ρ).nms = some l' := by
  cases b with
  | cells cs => exact ⟨_, nmss_mapN cs l h⟩
  | vals as us => exact ⟨_, nmss_mapN as l h⟩
  | _ => exact ⟨_, rfl⟩
mutual
theorem A.has_mapN {ρ : Nat → Nat} : ∀ (a : A) (l : List Nat), a.nms = some l → ∀ m, (a.mapN ρ).has m = true → ∃ n, a.has n = true ∧ ρ n = m
  | .d _, l, h, m, hm => by simp [A.mapN, A.has] at hm
  | .eptr _, l, h, m, hm => by simp [A.mapN, A.has] at hm
  | .nil, l, h, m, hm => by simp [A.mapN, A.has] at hm
  | .ub, l, h, m, hm => by simp [A.mapN, A.has] at hm
  | .any, l, h, m, hm => by simp [A.mapN, A.has] at hm
  | .box k off, l, h, m, hm => ⟨k, by simp [A.has], by simp only [A.mapN, A.has] at hm; simpa using hm⟩
  | .bsl k off j, l, h, m, hm => ⟨k, by simp [A.has], by simp only [A.mapN, A.has] at hm; simpa using hm⟩
  | .ep k a i off, l, h, m, hm => ⟨k, by simp [A.has], by simp only [A.mapN, A.has] at hm; simpa using hm⟩
  | .row k, l, h, m, hm => ⟨k, by simp [A.has], by simp only [A.mapN, A.has] at hm; simpa using hm⟩
  | .opq a, l, h, m, hm => by simp [A.nms] at h
  | .clo f fs cs, l, h, m, hm => by
    simp only [A.nms] at h
    split at h
    · rename_i x y hx hy
      simp only [A.mapN, A.has, Bool.or_eq_true] at hm ⊢
      rcases hm with hm | hm
      · obtain ⟨n, h1, h2⟩ := has_mapNs fs x hx m hm
        exact ⟨n, .inl h1, h2⟩
      · obtain ⟨n, h1, h2⟩ := has_mapNs cs y hy m hm
        exact ⟨n, .inr h1, h2⟩
    · cases h
  | .agg cs, l, h, m, hm => by simp only [A.mapN, A.has] at hm ⊢; exact has_mapNs cs l (by simpa only [A.nms] using h) m hm
  | .tup cs, l, h, m, hm => by simp only [A.mapN, A.has] at hm ⊢; exact has_mapNs cs l (by simpa only [A.nms] using h) m hm
theorem has_mapNs {ρ : Nat → Nat} : ∀ (as : List A) (l : List Nat), nmss as = some l → ∀ m, hasAny m (mapNs ρ as) = true → ∃ n, hasAny n as = true ∧ ρ n = m
  | [], l, h, m, hm => by simp [mapNs, hasAny] at hm
  | a :: as, l, h, m, hm => by
    simp only [nmss] at h
    split at h
    · rename_i x y hx hy
      simp only [mapNs, hasAny, Bool.or_eq_true] at hm ⊢
      rcases hm with hm | hm
      · obtain ⟨n, h1, h2⟩ := A.has_mapN a x hx m hm
        exact ⟨n, .inl h1, h2⟩
      · obtain ⟨n, h1, h2⟩ := has_mapNs as y hy m hm
        exact ⟨n, .inr h1, h2⟩
    · cases h
end
theorem Bk.has_mapN {ρ : Nat → Nat} {b : Bk} {l : List Nat} (h : b.nms = some l) (m : Nat) (hm : (b.mapN ρ).has m = true) : ∃ n, b.has n = true ∧ ρ n = m := by
  cases b with
  | cells cs => exact has_mapNs cs l h m hm
  | vals as us => exact has_mapNs as l h m hm
  | mit k clk seen => exact ⟨k, by simp [Bk.has], by simpa [Bk.mapN, Bk.has] using hm⟩
  | _ => simp [Bk.mapN, Bk.has] at hm

def rn : Nat := 3000
def Nmd (B : Bx) : Prop := ∀ p ∈ B, ∃ l, p.2.nms = some l
def frameOf (l : Nat) (r : Loop) (B : Bx) : Bx := (rn, .obj l (.loop r)) :: B.map (mapP sh)
theorem names_frame {l : Nat} {r : Loop} {B : Bx} : names (frameOf l r B) = rn :: (names B).map sh := by
  have := names_mapP sh B
  show rn :: names (B.map (mapP sh)) = _
  rw [this]
theorem nmd_frame {l : Nat} {r : Loop} {B : Bx} (hB : Nmd B) : Nmd (frameOf l r B) := by
  intro p hp
  rcases List.mem_cons.1 hp with rfl | hp
  · exact ⟨_, rfl⟩
  · obtain ⟨q, hq, rfl⟩ := List.mem_map.1 hp
    obtain ⟨x, hx⟩ := hB q hq
    exact Bk.nms_mapN hx
theorem far_frame {l : Nat} {r : Loop} {B : Bx} (hB : Nmd B) : Far (frameOf l r B) := by
  intro n hn p hp
  have hne : ∀ m, sh m ≠ n := fun m e => by
    have := sh_ge m
    omega
  rcases List.mem_cons.1 hp with rfl | hp
  · refine ⟨fun e => ?_, rfl⟩
    simp only [rn] at e
    simp only [up] at hn
    omega
  · obtain ⟨q, hq, rfl⟩ := List.mem_map.1 hp
    refine ⟨hne q.1, ?_⟩
    show (q.2.mapN sh).has n = false
    cases hh : (q.2.mapN sh).has n with
    | false => rfl
    | true =>
      exfalso
      obtain ⟨k, hk⟩ := hB q hq
      obtain ⟨m, h1, h3⟩ := Bk.has_mapN hk n hh
      exact hne m h3
theorem blks_frame {l : Nat} {r : Loop} {B : Bx} {val : Val} (hv : val rn = .pointer (some ⟨l, 0, none⟩)) : blks val (frameOf l r B) = l :: blks (fun n => val (sh n)) B := by
  have h1 : blkOf val (rn, Bk.obj l (.loop r)) = some l := by rw [blkOf, hv]; rfl
  have h2 := blks_mapP sh val B
  unfold blks at h2 ⊢
  simp only [frameOf, List.filterMap_cons, h1, h2]
theorem lowB_nmd {B : Bx} (h : lowB B = true) : Nmd B := fun p hp => by
  have := List.all_eq_true.1 h p hp
  simp only [Bool.and_eq_true] at this
  have h2 := this.2
  split at h2
  · rename_i k hk; exact ⟨k, hk⟩
  · cases h2
theorem nmd_app {B F : Bx} (h1 : Nmd B) (h2 : Nmd F) : Nmd (B ++ F) := fun p hp => (List.mem_append.1 hp).elim (h1 p) (h2 p)
theorem ne_bn {B F : Bx} (hB : lowB B = true) (hF : Far F) {p : Nat × Bk} (hp : p ∈ B ++ F) : p.1 ≠ bn ∧ ∀ m, p.2.has m = true → m ≠ bn := by
  rcases List.mem_append.1 hp with hp | hp
  · obtain ⟨c1, c2⟩ := lowB_ok hB hp
    exact ⟨fun e => by rw [e] at c1; exact absurd c1 (by decide), fun m hm e => by have := c2 m hm; rw [e] at this; exact absurd this (by decide)⟩
  · obtain ⟨c1, c2⟩ := hF bn (.inr rfl) p hp
    exact ⟨c1, fun m hm e => by rw [e, c2] at hm; cases hm⟩
def Clsd (F : Bx) : Prop := ∀ p ∈ F, ∀ m, p.2.has m = true → m ∈ names F
structure FOk (F : Bx) (N : List Nat) : Prop where
  far : Far F
  nmd : Nmd F
  cls : Clsd F
  nms : names F = N
theorem FOk.to {F G : Bx} {N : List Nat} (h : FOk F N) (g : FOk G N) : FOk F (names G) := ⟨h.far, h.nmd, h.cls, h.nms.trans g.nms.symm⟩
theorem FOk.nil : FOk [] [] := ⟨fun _ _ _ hq => (by cases hq), fun _ hp => (by cases hp), fun _ hp => (by cases hp), rfl⟩
def closB (B : Bx) : Bool := B.all fun p => match p.2.nms with
  | some l => l.all fun n => (names B).contains n
  | none => false
theorem closB_ok {B : Bx} (h : closB B = true) {p : Nat × Bk} (hp : p ∈ B) (n : Nat) (hn : p.2.has n = true) : n ∈ names B := by
  have := List.all_eq_true.1 h p hp
  split at this
  · rename_i l hl
    have := List.all_eq_true.1 this n (Bk.has_nms hl n hn)
    simpa using this
  · cases this
def setPs : List A → List (Nat × A) → List A
  | E, [] => E
  | E, (t, x) :: l => setPs (E.set t x) l
theorem setPs_ok {h w} {val : Val} : ∀ (ps : List Nat) (xs : List A) (vs : List Value) (E : List A) (arr : Array Value), RAs h w val xs vs → RAs h w val E arr.toList →
    RAs h w val (setPs E (ps.zip xs)) ((ps.zip vs).foldl (fun t p => t.setIfInBounds p.1 p.2) arr).toList
  | [], xs, vs, E, arr, _, hE => by simpa [setPs] using hE
  | p :: ps, [], vs, E, arr, hx, hE => by
    simp only [RAs] at hx
    subst hx
    simpa [setPs] using hE
  | p :: ps, x :: xs, vs, E, arr, hx, hE => by
    simp only [RAs] at hx
    obtain ⟨u, us, rfl, h1, h2⟩ := hx
    simp only [List.zip_cons_cons, setPs, List.foldl_cons]
    refine setPs_ok ps xs us (E.set p x) (arr.setIfInBounds p u) h2 ?_
    have := RAs.set hE p h1
    simpa using this
def recOf (r : Loop) (o : Option Code) : Loop := { r with state := if o.isNone then .ready else .done, pending := o }
def jumpOf : Ex → Option Code
  | .normal => none
  | .exit id => some (.exit id)
  | .ret => some .ret
theorem Holds.turn {s : St} {h : Hw} {w : World} {val : Val} {a : Act} {g : Nat} {o o' : Obj} (H : Holds s h w val a) (hg : w.heap[g]? = some o) (ho : o.isCells = false) (hd : isDef o = false) (hn : g ∉ blks val s.all) : Holds s h (w.putObj g o') val a := by
  have hk : Keep [g] h w h (w.putObj g o') := keep_putObj hg ho (by simp)
  refine ⟨RAs.stays hk.stays _ _ _ H.e, ⟨fun p hp => RB.stays hk.stays (fun b hb => ?_) (H.inv.rep p hp), H.inv.nms, H.inv.bks⟩, H.far, H.defs.keep' hk (fun b hb o2 ho2 => ?_) rfl⟩
  · have hbm := Inv.blk_mem hp hb
    exact hk.far b (H.inv.blk_lt b hbm) fun hin => by simp only [List.mem_singleton] at hin; exact hn (hin ▸ hbm)
  · simp only [List.mem_singleton] at hb
    subst hb
    rw [hg] at ho2
    cases ho2
    exact hd
end Go.Ac
