/- Own work: how calls of the model run over plain data. -/
import Derived.Test.YtbmojpadjglncaaGreatAc11
set_option linter.unusedVariables false
set_option linter.unusedSimpArgs false
namespace Go.Ac

mutual
def A.mapN (ρ : Nat → Nat) : A → A
  | .box n off => .box (ρ n) off
  | .bsl n off l => .bsl (ρ n) off l
  | .ep n k i off => .ep (ρ n) k i off
  | .row n => .row (ρ n)
  | .clo f fs cs => .clo f (mapNs ρ fs) (mapNs ρ cs)
  | .agg cs => .agg (mapNs ρ cs)
  | .tup vs => .tup (mapNs ρ vs)
  | a => a
def mapNs (ρ : Nat → Nat) : List A → List A
  | [] => []
  | a :: as => a.mapN ρ :: mapNs ρ as
end
def Bk.mapN (ρ : Nat → Nat) : Bk → Bk
  | .cells cs => .cells (mapNs ρ cs)
  | .vals as us => .vals (mapNs ρ as) us
  | .mit m clk seen => .mit (ρ m) clk seen
  | b => b
mutual
def A.nms : A → Option (List Nat)
  | .box n _ => some [n]
  | .bsl n _ _ => some [n]
  | .ep n _ _ _ => some [n]
  | .row n => some [n]
  | .clo _ fs cs => match nmss fs, nmss cs with
    | some x, some y => some (x ++ y)
    | _, _ => none
  | .agg cs => nmss cs
  | .tup vs => nmss vs
  | .opq _ => none
  | _ => some []
def nmss : List A → Option (List Nat)
  | [] => some []
  | a :: as => match a.nms, nmss as with
    | some x, some y => some (x ++ y)
    | _, _ => none
end
def Bk.nms : Bk → Option (List Nat)
  | .cells cs => nmss cs
  | .vals as _ => nmss as
  | .mit m _ _ => some [m]
  | _ => some []
mutual
theorem A.has_nms : ∀ (a : A) {l : List Nat}, a.nms = some l → ∀ n, a.has n = true → n ∈ l
  | .d _, l, h, n, hn => by simp [A.has] at hn
  | .eptr _, l, h, n, hn => by simp [A.has] at hn
  | .nil, l, h, n, hn => by simp [A.has] at hn
  | .ub, l, h, n, hn => by simp [A.has] at hn
  | .any, l, h, n, hn => by simp [A.has] at hn
  | .box m off, l, h, n, hn => by simp [A.nms] at h; simp [A.has] at hn; subst h; simp [hn]
  | .bsl m off k, l, h, n, hn => by simp [A.nms] at h; simp [A.has] at hn; subst h; simp [hn]
  | .ep m k i off, l, h, n, hn => by simp [A.nms] at h; simp [A.has] at hn; subst h; simp [hn]
  | .row m, l, h, n, hn => by simp [A.nms] at h; simp [A.has] at hn; subst h; simp [hn]
  | .opq a, l, h, n, hn => by simp [A.nms] at h
  | .clo f fs cs, l, h, n, hn => by
    simp only [A.nms] at h
    split at h
    · rename_i x y hx hy
      simp only [Option.some.injEq] at h
      subst h
      simp only [A.has, Bool.or_eq_true] at hn
      rcases hn with hn | hn
      · exact List.mem_append_left _ (has_nmss fs hx n hn)
      · exact List.mem_append_right _ (has_nmss cs hy n hn)
    · cases h
  | .agg cs, l, h, n, hn => has_nmss cs (by simpa only [A.nms] using h) n (by simpa only [A.has] using hn)
  | .tup cs, l, h, n, hn => has_nmss cs (by simpa only [A.nms] using h) n (by simpa only [A.has] using hn)
theorem has_nmss : ∀ (as : List A) {l : List Nat}, nmss as = some l → ∀ n, hasAny n as = true → n ∈ l
  | [], l, h, n, hn => by simp [hasAny] at hn
  | a :: as, l, h, n, hn => by
    simp only [nmss] at h
    split at h
    · rename_i x y hx hy
      simp only [Option.some.injEq] at h
      subst h
      simp only [hasAny, Bool.or_eq_true] at hn
      rcases hn with hn | hn
      · exact List.mem_append_left _ (A.has_nms a hx n hn)
      · exact List.mem_append_right _ (has_nmss as hy n hn)
    · cases h
end
theorem Bk.has_nms {b : Bk} {l : List Nat} (h : b.nms = some l) (n : Nat) (hn : b.has n = true) : n ∈ l := by
  cases b with
  | cells cs => exact has_nmss cs h n hn
  | vals as us => exact has_nmss as h n hn
  | mit m clk seen => simp only [Bk.nms, Option.some.injEq] at h; simp only [Bk.has, beq_iff_eq] at hn; subst h; simp [hn]
  | _ => simp [Bk.has] at hn
mutual
theorem A.mapN_id : ∀ (a : A) {l : List Nat} {ρ : Nat → Nat}, a.nms = some l → (∀ n ∈ l, ρ n = n) → a.mapN ρ = a
  | .d _, l, ρ, h, hn => rfl
  | .eptr _, l, ρ, h, hn => rfl
  | .nil, l, ρ, h, hn => rfl
  | .ub, l, ρ, h, hn => rfl
  | .any, l, ρ, h, hn => rfl
  | .opq a, l, ρ, h, hn => rfl
  | .box m off, l, ρ, h, hn => by simp [A.nms] at h; subst h; simp [A.mapN, hn m (by simp)]
  | .bsl m off k, l, ρ, h, hn => by simp [A.nms] at h; subst h; simp [A.mapN, hn m (by simp)]
  | .ep m k i off, l, ρ, h, hn => by simp [A.nms] at h; subst h; simp [A.mapN, hn m (by simp)]
  | .row m, l, ρ, h, hn => by simp [A.nms] at h; subst h; simp [A.mapN, hn m (by simp)]
  | .clo f fs cs, l, ρ, h, hn => by
    simp only [A.nms] at h
    split at h
    · rename_i x y hx hy
      simp only [Option.some.injEq] at h
      subst h
      simp only [A.mapN, mapNs_id fs hx fun n h => hn n (List.mem_append_left _ h), mapNs_id cs hy fun n h => hn n (List.mem_append_right _ h)]
    · cases h
  | .agg cs, l, ρ, h, hn => by simp only [A.nms] at h; simp only [A.mapN, mapNs_id cs h hn]
  | .tup cs, l, ρ, h, hn => by simp only [A.nms] at h; simp only [A.mapN, mapNs_id cs h hn]
theorem mapNs_id : ∀ (as : List A) {l : List Nat} {ρ : Nat → Nat}, nmss as = some l → (∀ n ∈ l, ρ n = n) → mapNs ρ as = as
  | [], l, ρ, h, hn => rfl
  | a :: as, l, ρ, h, hn => by
    simp only [nmss] at h
    split at h
    · rename_i x y hx hy
      simp only [Option.some.injEq] at h
      subst h
      simp only [mapNs, A.mapN_id a hx fun n h => hn n (List.mem_append_left _ h), mapNs_id as hy fun n h => hn n (List.mem_append_right _ h)]
    · cases h
end
mutual
theorem A.mapN_mapN (f g : Nat → Nat) : ∀ a : A, (a.mapN g).mapN f = a.mapN (fun n => f (g n))
  | .d _ | .eptr _ | .nil | .ub | .any | .opq _ | .box _ _ | .bsl _ _ _ | .ep _ _ _ _ | .row _ => by simp only [A.mapN]
  | .clo h fs cs => by simp only [A.mapN, mapNs_mapNs f g fs, mapNs_mapNs f g cs]
  | .agg cs => by simp only [A.mapN, mapNs_mapNs f g cs]
  | .tup cs => by simp only [A.mapN, mapNs_mapNs f g cs]
theorem mapNs_mapNs (f g : Nat → Nat) : ∀ l : List A, mapNs f (mapNs g l) = mapNs (fun n => f (g n)) l
  | [] => rfl
  | a :: as => by simp only [mapNs, A.mapN_mapN f g a, mapNs_mapNs f g as]
end
mutual
theorem RA_mapN {h w} {val : Val} {ρ : Nat → Nat} (hup : ∀ n, up ≤ n → ρ n = n) : ∀ (a : A) (u : Value), RA h w val (a.mapN ρ) u ↔ RA h w (fun n => val (ρ n)) a u
  | .d _, u => by simp only [A.mapN, RA]
  | .eptr _, u => by simp only [A.mapN, RA]
  | .nil, u => by simp only [A.mapN, RA]
  | .ub, u => by simp only [A.mapN, RA]
  | .any, u => by simp only [A.mapN, RA]
  | .box _ _, u => by simp only [A.mapN, RA]
  | .bsl _ _ _, u => by simp only [A.mapN, RA]
  | .ep _ _ _ _, u => by simp only [A.mapN, RA]
  | .row _, u => by simp only [A.mapN, RA]
  | .opq a, u => by
    simp only [A.mapN, RA]
    have : (fun n => val (ρ (n + up))) = fun n => val (n + up) := by
      funext n
      rw [hup (n + up) (Nat.le_add_left _ _)]
    rw [this]
  | .clo f fs cs, u => by simp only [A.mapN, RA, RAs_mapN hup fs, RAs_mapN hup cs]
  | .agg cs, u => by simp only [A.mapN, RA, RAs_mapN hup cs]
  | .tup cs, u => by simp only [A.mapN, RA, RAs_mapN hup cs]
theorem RAs_mapN {h w} {val : Val} {ρ : Nat → Nat} (hup : ∀ n, up ≤ n → ρ n = n) : ∀ (as : List A) (us : List Value), RAs h w val (mapNs ρ as) us ↔ RAs h w (fun n => val (ρ n)) as us
  | [], us => by simp only [mapNs, RAs]
  | a :: as, us => by simp only [mapNs, RAs, RA_mapN hup a, RAs_mapN hup as]
end
theorem RB_mapN {h w} {val : Val} {ρ : Nat → Nat} (hup : ∀ n, up ≤ n → ρ n = n) (n : Nat) (b : Bk) : RB h w val (ρ n) (b.mapN ρ) ↔ RB h w (fun n => val (ρ n)) n b := by
  cases b with
  | cells cs => simp only [Bk.mapN, RB, RAs_mapN hup cs]
  | vals as us => simp only [Bk.mapN, RB, RAs_mapN hup as]
  | _ => simp only [Bk.mapN, RB]
theorem RB.congr {h w} {val val' : Val} {n : Nat} {b : Bk} (h1 : val' n = val n) (h2 : ∀ m, b.has m = true → val' m = val m) (hr : RB h w val n b) : RB h w val' n b := by
  cases b with
  | cells cs =>
    obtain ⟨g, us, t, e, hg, hr, ho, h0⟩ := hr
    exact ⟨g, us, t, h1.trans e, hg, RAs.congr cs us h2 hr, ho, h0⟩
  | row e k xs => obtain ⟨us, a, b, c⟩ := hr; rw [← h1] at a c; exact ⟨us, a, b, c⟩
  | rw e k xs => obtain ⟨us, a, b, c⟩ := hr; rw [← h1] at a c; exact ⟨us, a, b, c⟩
  | old xs => simp only [RB] at hr ⊢; rw [h1]; exact hr
  | vals as us => exact RAs.congr as us h2 hr
  | dead => trivial
  | buf sl e k xs => obtain ⟨g, us, a, r⟩ := hr; exact ⟨g, us, h1.trans a, r⟩
  | fz cs => obtain ⟨g, us, a, r⟩ := hr; exact ⟨g, us, h1.trans a, r⟩
  | obj g o => obtain ⟨a, r⟩ := hr; exact ⟨h1.trans a, r⟩
  | map clk es => obtain ⟨g, l, a, r⟩ := hr; exact ⟨g, l, h1.trans a, r⟩
  | mapS es => obtain ⟨clk, es', ⟨g, l, a, r⟩, hp⟩ := hr; exact ⟨clk, es', ⟨g, l, h1.trans a, r⟩, hp⟩
  | bag e k xs => obtain ⟨xs', us, hp, a, b, c⟩ := hr; rw [← h1] at a c; exact ⟨xs', us, hp, a, b, c⟩
  | mit m clk seen => obtain ⟨r, b, a, c, d⟩ := hr; exact ⟨r, b, h1.trans a, (h2 m (by simp [Bk.has])).trans c, d⟩
def mapP (ρ : Nat → Nat) (p : Nat × Bk) : Nat × Bk := (ρ p.1, p.2.mapN ρ)
theorem mapP_old (ρ : Nat → Nat) (p : Nat × Bk) : (mapP ρ p).2.isOld = p.2.isOld := by
  obtain ⟨n, b⟩ := p
  cases b <;> rfl
theorem blks_mapP (ρ : Nat → Nat) (val : Val) (X : Bx) : blks val (X.map (mapP ρ)) = blks (fun n => val (ρ n)) X := by
  simp only [blks, List.filterMap_map]
  congr 1
  funext p
  simp only [Function.comp_apply, blkOf, mapP_old]
  rfl
theorem names_mapP (ρ : Nat → Nat) (X : Bx) : names (X.map (mapP ρ)) = (names X).map ρ := by
  simp only [names, List.map_map]; rfl

theorem nodup_of_map {α β} (f : α → β) : ∀ {l : List α}, (l.map f).Nodup → l.Nodup
  | [], _ => List.Pairwise.nil
  | a :: l, h => by
    rw [List.map_cons, List.nodup_cons] at h
    exact List.nodup_cons.2 ⟨fun ha => h.1 (List.mem_map.2 ⟨a, ha, rfl⟩), nodup_of_map f h.2⟩
theorem nodup_map_on {α β} {f : α → β} : ∀ {l : List α}, (∀ x ∈ l, ∀ y ∈ l, f x = f y → x = y) → l.Nodup → (l.map f).Nodup
  | [], _, _ => List.Pairwise.nil
  | a :: l, hi, h => by
    rw [List.nodup_cons] at h
    rw [List.map_cons, List.nodup_cons]
    refine ⟨fun ha => ?_, nodup_map_on (fun x hx y hy => hi x (.tail _ hx) y (.tail _ hy)) h.2⟩
    obtain ⟨b, hb, e⟩ := List.mem_map.1 ha
    have := hi b (.tail _ hb) a (.head _) e
    exact h.1 (this ▸ hb)

theorem ACall.frame {P : Program} {f : FuncId} {args : List A} {X X' : Bx} {r : A} (hc : ACall P f args X r X') (ρ : Nat → Nat) (hup : ∀ n, up ≤ n → ρ n = n) (Y : Bx)
    (hinj : ∀ n ∈ names X', ∀ m ∈ names X', ρ n = ρ m → n = m) (hnX : ∀ n ∈ names X', n ∉ names X → ∀ m ∈ names X, ρ n ≠ ρ m) (hnY : ∀ n ∈ names X', ρ n ∉ names Y)
    (hnew : ∀ n ∈ names X', n ∉ names X → ∀ p ∈ Y, p.2.has (ρ n) = false) (hr : ∀ n, r.has n = true → n ∈ names X') (hX' : ∀ p ∈ X', ∀ n, p.2.has n = true → n ∈ names X') :
    ACall P f (mapNs ρ args) (X.map (mapP ρ) ++ Y) (r.mapN ρ) (X'.map (mapP ρ) ++ Y) := by
  intro h w val vs hI hargs
  have hargs' := (RAs_mapN hup args vs).1 hargs
  have hbks := hI.bks
  rw [blks_append, blks_mapP] at hbks
  have hnms := hI.nms
  rw [names_append, names_mapP] at hnms
  obtain ⟨b1, b2, b3⟩ := List.nodup_append.1 hbks
  obtain ⟨m1, m2, m3⟩ := List.nodup_append.1 hnms
  have hIX : Inv h w (fun n => val (ρ n)) X := ⟨fun p hp => (RB_mapN hup p.1 p.2).1 (hI.rep (mapP ρ p) (List.mem_append_left _ (List.mem_map.2 ⟨p, hp, rfl⟩))), nodup_of_map _ m1, b1⟩
  refine (hc h w _ vs hIX hargs').mono fun e w' hh => ?_
  obtain ⟨h', val1, u, rfl, hI', hru, hk, hv, hb⟩ := hh
  -- the values behind the call
  let val' : Val := fun m => match (names X').find? fun n => ρ n == m with
    | some n => val1 n
    | none => val m
  have v1 : ∀ n ∈ names X', val' (ρ n) = val1 n := by
    intro n hn
    show (match (names X').find? fun k => ρ k == ρ n with | some k => val1 k | none => val (ρ n)) = val1 n
    cases hf : (names X').find? (fun k => ρ k == ρ n) with
    | none =>
      have := List.find?_eq_none.1 hf n hn
      simp at this
    | some k =>
      have h1 := List.find?_some hf
      have h2 := List.mem_of_find?_eq_some hf
      simp only [beq_iff_eq] at h1
      simp only
      rw [hinj k h2 n hn h1]
  have v2 : ∀ m, (∀ n ∈ names X', n ∉ names X → ρ n ≠ m) → val' m = val m := by
    intro m hm
    show (match (names X').find? fun k => ρ k == m with | some k => val1 k | none => val m) = val m
    cases hf : (names X').find? (fun k => ρ k == m) with
    | none => rfl
    | some k =>
      have h1 := List.find?_some hf
      have h2 := List.mem_of_find?_eq_some hf
      simp only [beq_iff_eq] at h1
      simp only
      have hkX : k ∈ names X := Classical.byContradiction fun hk => hm k h2 hk h1
      rw [hv k fun _ => hkX, h1]
  have hkM : Keep (blks val (X.map (mapP ρ) ++ Y)) h w h' w' := hk.mono' fun x hx => .inl (by rw [blks_append, blks_mapP]; exact List.mem_append_left _ hx)
  have hY : ∀ p ∈ Y, RB h' w' val' p.1 p.2 := by
    intro p hp
    refine RB.congr (val := val) (v2 _ fun n hn _ e => hnY n hn (by rw [e]; exact List.mem_map.2 ⟨p, hp, rfl⟩)) (fun m hm => v2 _ fun n hn hnn e => ?_) (RB.stays hk.stays (fun g hg => ?_) (hI.rep p (List.mem_append_right _ hp)))
    · have := hnew n hn hnn p hp
      rw [e, hm] at this
      cases this
    · have hgY : g ∈ blks val Y := Inv.blk_mem hp hg
      refine hk.far g (hI.blk_lt g (by rw [blks_append]; exact List.mem_append_right _ hgY)) fun hgX => ?_
      exact b3 g hgX g hgY rfl
  have hblkX : blks val' (X'.map (mapP ρ)) = blks val1 X' := by
    rw [blks_mapP]
    exact blks_congr fun n hn => v1 n hn
  have hblkY : blks val' Y = blks val Y := blks_congr fun m hm => v2 m fun n hn _ e => hnY n hn (e ▸ hm)
  refine ⟨h', val', u, rfl, ⟨?_, ?_, ?_⟩, ?_, hkM, ?_, ?_⟩
  · intro p hp
    rcases List.mem_append.1 hp with hp | hp
    · obtain ⟨q, hq, rfl⟩ := List.mem_map.1 hp
      have hqn : q.1 ∈ names X' := List.mem_map.2 ⟨q, hq, rfl⟩
      exact (RB_mapN hup q.1 q.2).2 (RB.congr (v1 _ hqn) (fun m hm => v1 m (hX' q hq m hm)) (hI'.rep q hq))
    · exact hY p hp
  · rw [names_append, names_mapP]
    refine List.nodup_append.2 ⟨?_, m2, fun x hx y hy e => ?_⟩
    · exact nodup_map_on hinj hI'.nms
    · obtain ⟨n, hn, rfl⟩ := List.mem_map.1 hx
      exact hnY n hn (e ▸ hy)
  · rw [blks_append, hblkX, hblkY]
    refine List.nodup_append.2 ⟨hI'.bks, b2, fun x hx y hy e => ?_⟩
    subst e
    rcases hb x hx with h1 | h1
    · exact b3 x h1 x hy rfl
    · have := hI.blk_lt x (by rw [blks_append]; exact List.mem_append_right _ hy)
      omega
  · exact (RA_mapN hup r u).2 (RA.congr r u (fun n hn => v1 n (hr n hn)) hru)
  · intro m hm
    refine v2 m fun n hn hnn e => ?_
    have h1 := hm (by rw [names_append, names_mapP]; exact List.mem_append_left _ (List.mem_map.2 ⟨n, hn, e⟩))
    rw [names_append, names_mapP] at h1
    rcases List.mem_append.1 h1 with h1 | h1
    · obtain ⟨k, hk, e2⟩ := List.mem_map.1 h1
      exact hnX n hn hnn k hk (e.trans e2.symm)
    · exact hnY n hn (e ▸ h1)
  · intro b hbb
    rw [blks_append, hblkX, hblkY] at hbb
    rw [blks_append, blks_mapP]
    rcases List.mem_append.1 hbb with h1 | h1
    · rcases hb b h1 with h2 | h2
      · exact .inl (List.mem_append_left _ h2)
      · exact .inr h2
    · exact .inl (List.mem_append_right _ h1)
theorem ACall.perm {P : Program} {f : FuncId} {args : List A} {X X' Z Z' : Bx} {r : A} (hc : ACall P f args X r X') (h1 : Z.Perm X) (h2 : X'.Perm Z') : ACall P f args Z r Z' := by
  intro h w val vs hI hargs
  refine (hc h w val vs (hI.perm h1) hargs).mono fun e w' hh => ?_
  obtain ⟨h', val1, u, rfl, hI', hru, hk, hv, hb⟩ := hh
  have hbl : ∀ {x}, x ∈ blks val X ↔ x ∈ blks val Z := fun {x} => ((h1.filterMap (blkOf val)).mem_iff).symm
  refine ⟨h', val1, u, rfl, hI'.perm h2, hru, hk.mono' fun x hx => .inl (hbl.1 hx), fun n hn => hv n fun hx => ?_, fun b hb' => ?_⟩
  · exact ((h1.map (·.1)).mem_iff).1 (hn (((h2.map (·.1)).mem_iff).1 hx))
  · rcases hb b (((h2.filterMap (blkOf val1)).mem_iff).2 hb') with h | h
    · exact .inl (hbl.1 h)
    · exact .inr h
def lowB (B : Bx) : Bool := B.all fun p => decide (p.1 < up) && match p.2.nms with
  | some l => l.all fun n => decide (n < up)
  | none => false
theorem lowB_ok {B : Bx} (h : lowB B = true) {p : Nat × Bk} (hp : p ∈ B) : p.1 < up ∧ ∀ n, p.2.has n = true → n < up := by
  have := List.all_eq_true.1 h p hp
  simp only [Bool.and_eq_true, decide_eq_true_eq] at this
  refine ⟨this.1, fun n hn => ?_⟩
  have h2 := this.2
  split at h2
  · rename_i l hl
    have := List.all_eq_true.1 h2 n (Bk.has_nms hl n hn)
    simpa using this
  · cases h2
def lowE (E : List A) : Bool := match nmss E with
  | some l => l.all fun n => decide (n < up)
  | none => false
theorem lowE_ok {E : List A} (h : lowE E = true) (n : Nat) (hn : hasAny n E = true) : n < up := by
  unfold lowE at h
  split at h
  · rename_i l hl
    have := List.all_eq_true.1 h n (has_nmss E hl n hn)
    simpa using this
  · cases h
end Go.Ac
