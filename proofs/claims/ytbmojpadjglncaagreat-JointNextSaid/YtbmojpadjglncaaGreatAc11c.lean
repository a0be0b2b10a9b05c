/- Own work: how calls of the model run over plain data. -/
import Derived.Test.YtbmojpadjglncaaGreatAc11b
set_option linter.unusedVariables false
set_option linter.unusedSimpArgs false
namespace Go.Ac

def rho (l : List (Nat × Nat)) (n : Nat) : Nat := if Nat.ble up n then n else match l.find? fun p => p.1 == n with
  | some p => p.2
  | none => n
def rhoi (l : List (Nat × Nat)) (n : Nat) : Nat := if Nat.ble up n then n else match l.find? fun p => p.2 == n with
  | some p => p.1
  | none => n
theorem rho_up {l : List (Nat × Nat)} {n : Nat} (h : up ≤ n) : rho l n = n := by
  unfold rho; rw [if_pos (Nat.ble_eq_true_of_le h)]
def sortB (B : Bx) : Bx := B.foldr (fun p C => insB p.1 p.2 C) []
theorem sortB_perm : ∀ B : Bx, (sortB B).Perm B
  | [] => .refl _
  | p :: B => by
    show (insB p.1 p.2 (sortB B)).Perm _
    exact (insB_perm _ _ _).trans (.cons _ (sortB_perm B))
def listAll (f : Nat → Bool) : List Nat → Bool
  | [] => true
  | x :: l => f x && listAll f l
theorem listAll_ok {f : Nat → Bool} : ∀ {l : List Nat}, listAll f l = true → ∀ x ∈ l, f x = true
  | [], _, x, hx => by cases hx
  | y :: l, h, x, hx => by
    simp only [listAll, Bool.and_eq_true] at h
    rcases List.mem_cons.1 hx with rfl | hx
    · exact h.1
    · exact listAll_ok h.2 x hx
def listMem (n : Nat) : List Nat → Bool
  | [] => false
  | x :: l => Nat.beq x n || listMem n l
theorem listMem_iff {n : Nat} : ∀ {l : List Nat}, listMem n l = true ↔ n ∈ l
  | [] => by simp [listMem]
  | x :: l => by
    simp only [listMem, Bool.or_eq_true, Nat.beq_eq, List.mem_cons, listMem_iff]
    constructor
    · rintro (h | h)
      · exact .inl h.symm
      · exact .inr h
    · rintro (h | h)
      · exact .inl h.symm
      · exact .inr h
theorem listMem_false {n : Nat} {l : List Nat} (h : listMem n l = false) : n ∉ l := fun hn => by
  rw [listMem_iff.2 hn] at h; cases h
def pickB (l : List Nat) (B : Bx) : Bx := B.filter fun p => listMem p.1 l
def restB (l : List Nat) (B : Bx) : Bx := B.filter fun p => !listMem p.1 l
theorem pick_rest (l : List Nat) : ∀ B : Bx, B.Perm (pickB l B ++ restB l B)
  | [] => .refl _
  | p :: B => by
    have ih := pick_rest l B
    unfold pickB restB
    simp only [List.filter_cons]
    cases h : listMem p.1 l
    · simp only [Bool.not_false, if_true, Bool.false_eq_true, if_false]
      exact (ih.cons p).trans (List.perm_middle.symm)
    · simp only [Bool.not_true, if_true, Bool.false_eq_true, if_false, List.cons_append]
      exact ih.cons p
def nmsIn (a : A) (l : List Nat) : Bool := match a.nms with
  | some x => listAll (fun n => listMem n l) x
  | none => false
def nmssIn (as : List A) (l : List Nat) : Bool := match nmss as with
  | some x => listAll (fun n => listMem n l) x
  | none => false
def bkIn (b : Bk) (l : List Nat) : Bool := match b.nms with
  | some x => listAll (fun n => listMem n l) x
  | none => false
theorem nmsIn_ok {a : A} {l : List Nat} (h : nmsIn a l = true) (n : Nat) (hn : a.has n = true) : n ∈ l := by
  unfold nmsIn at h
  split at h
  · rename_i x hx
    exact listMem_iff.1 (listAll_ok h n (A.has_nms a hx n hn))
  · cases h
theorem bkIn_ok {b : Bk} {l : List Nat} (h : bkIn b l = true) (n : Nat) (hn : b.has n = true) : n ∈ l := by
  unfold bkIn at h
  split at h
  · rename_i x hx
    exact listMem_iff.1 (listAll_ok h n (Bk.has_nms hx n hn))
  · cases h
theorem Bk.mapN_mapN (f g : Nat → Nat) (b : Bk) : (b.mapN g).mapN f = b.mapN (fun n => f (g n)) := by
  cases b <;> simp [Bk.mapN, mapNs_mapNs]
theorem Bk.mapN_id {b : Bk} {l : List Nat} {ρ : Nat → Nat} (h : b.nms = some l) (hρ : ∀ n ∈ l, ρ n = n) : b.mapN ρ = b := by
  cases b with
  | cells cs => simp only [Bk.mapN]; rw [mapNs_id cs h hρ]
  | vals as us => simp only [Bk.mapN]; rw [mapNs_id as h hρ]
  | mit m clk seen => simp only [Bk.nms, Option.some.injEq] at h; subst h; simp only [Bk.mapN]; rw [hρ m (by simp)]
  | _ => rfl
theorem nmssIn_id {as : List A} {l : List Nat} {ρ : Nat → Nat} (h : nmssIn as l = true) (hρ : ∀ n ∈ l, ρ n = n) : mapNs ρ as = as := by
  unfold nmssIn at h
  split at h
  · rename_i x hx
    exact mapNs_id as hx fun n hn => hρ n (listMem_iff.1 (listAll_ok h n hn))
  · cases h
theorem mapB_id {ρ : Nat → Nat} {l : List Nat} (hρ : ∀ n ∈ l, ρ n = n) : ∀ {B : Bx}, (∀ p ∈ B, p.1 ∈ l ∧ bkIn p.2 l = true) → B.map (mapP ρ) = B
  | [], _ => rfl
  | p :: B, h => by
    obtain ⟨h1, h2⟩ := h p (.head _)
    have e : mapP ρ p = p := by
      unfold bkIn at h2
      split at h2
      · rename_i x hx
        show (ρ p.1, p.2.mapN ρ) = p
        rw [hρ p.1 h1, Bk.mapN_id hx fun n hn => hρ n (listMem_iff.1 (listAll_ok h2 n hn))]
      · cases h2
    rw [List.map_cons, e, mapB_id hρ fun q hq => h q (.tail _ hq)]

def lkAll (B : Bx) : List (Nat × Nat) → Option Bx
  | [] => some []
  | p :: l => match lk B p.2, lkAll B l with
    | some b, some X => some ((p.2, b) :: X)
    | _, _ => none
theorem lkAll_names {B : Bx} : ∀ {l : List (Nat × Nat)} {X : Bx}, lkAll B l = some X → names X = l.map (·.2)
  | [], X, h => by simp only [lkAll, Option.some.injEq] at h; subst h; rfl
  | p :: l, X, h => by
    simp only [lkAll] at h
    split at h
    · rename_i b X' h1 h2
      simp only [Option.some.injEq] at h; subst h
      simp only [names, List.map_cons]
      rw [← lkAll_names h2]; rfl
    · cases h
theorem lkAll_mem {B : Bx} : ∀ {l : List (Nat × Nat)} {X : Bx}, lkAll B l = some X → ∀ p ∈ X, p ∈ B
  | [], X, h, p, hp => by simp only [lkAll, Option.some.injEq] at h; subst h; cases hp
  | q :: l, X, h, p, hp => by
    simp only [lkAll] at h
    split at h
    · rename_i b X' h1 h2
      simp only [Option.some.injEq] at h; subst h
      rcases List.mem_cons.1 hp with rfl | hp
      · exact lk_mem h1
      · exact lkAll_mem h2 p hp
    · cases h
theorem lkAll_same {B B' : Bx} : ∀ {l : List (Nat × Nat)}, (∀ p ∈ l, lk B' p.2 = lk B p.2) → lkAll B' l = lkAll B l
  | [], _ => rfl
  | p :: l, h => by
    simp only [lkAll]
    rw [h p (.head _), lkAll_same fun q hq => h q (.tail _ hq)]
def nodupB : List Nat → Bool
  | [] => true
  | x :: l => !listMem x l && nodupB l
theorem nodupB_ok : ∀ {l : List Nat}, nodupB l = true → l.Nodup
  | [], _ => List.nodup_nil
  | x :: l, h => by
    simp only [nodupB, Bool.and_eq_true, Bool.not_eq_true'] at h
    exact List.nodup_cons.2 ⟨listMem_false h.1, nodupB_ok h.2⟩
def frs (d : Nat) (s : St) : Bool := decide (d < up) && !hasAny d s.E && !bxHas d s.B
def xOk (ρ0 ρ1 : List (Nat × Nat)) (s : St) (args : List A) (r : A) (X' raw : Bx) : Bool :=
  let l := ρ0.map (·.2)
  let X := l.map (rhoi ρ0)
  let ρ := rho (ρ0 ++ ρ1)
  listAll (fun n => Nat.beq (ρ (rhoi ρ0 n)) n) l && nodupB l &&
  nmssIn args l && raw.all (fun p => bkIn p.2 l) &&
  (nodupB (names X') && listAll (fun n => listAll (fun m => !Nat.beq (ρ n) (ρ m) || Nat.beq n m) (names X')) (names X')) &&
  listAll (fun n => listMem n X || listMem (ρ n) (ρ1.map (·.2))) (names X') &&
  nmsIn r (names X') && X'.all (fun p => bkIn p.2 (names X')) && listAll (fun n => frs n s) (ρ1.map (·.2))
def xNew (ρ0 ρ1 : List (Nat × Nat)) (X' : Bx) (a : Nat) : Bk := match X'.find? fun q => Nat.beq (rho (ρ0 ++ ρ1) q.1) a with
  | some q => q.2.mapN (rho (ρ0 ++ ρ1))
  | none => .dead
def xEd (ρ0 ρ1 : List (Nat × Nat)) (X' : Bx) : List Ed := ρ0.map (fun p => .chg p.2 (xNew ρ0 ρ1 X' p.2)) ++
  (X'.filter fun q => !listMem (rho (ρ0 ++ ρ1) q.1) (ρ0.map (·.2))).map fun p => .add (rho (ρ0 ++ ρ1) p.1) (p.2.mapN (rho (ρ0 ++ ρ1)))
theorem updB_mem_iff {B : Bx} {n : Nat} {b : Bk} {p : Nat × Bk} : p ∈ updB B n b ↔ (p = (n, b) ∧ n ∈ names B) ∨ (p ∈ B ∧ p.1 ≠ n) := by
  simp only [updB, List.mem_map, names]
  constructor
  · rintro ⟨q, hq, rfl⟩
    by_cases h : q.1 = n
    · left; simp only [h, if_true, true_and]; exact ⟨q, hq, h⟩
    · right; simp only [h, if_false]; exact ⟨hq, h⟩
  · rintro (⟨rfl, q, hq, e⟩ | ⟨hp, hne⟩)
    · exact ⟨q, hq, by simp [e]⟩
    · exact ⟨p, hp, by simp [hne]⟩
theorem chgs_names (g : Nat → Bk) : ∀ (l : List (Nat × Nat)) (B : Bx), names ((l.map fun p => Ed.chg p.2 (g p.2)).foldl applyEd B) = names B
  | [], B => rfl
  | p :: l, B => by
    simp only [List.map_cons, List.foldl_cons, applyEd]
    rw [chgs_names g l, updB_names]
theorem chgs_mem (g : Nat → Bk) : ∀ (l : List (Nat × Nat)) (B : Bx) (q : Nat × Bk), q ∈ (l.map fun p => Ed.chg p.2 (g p.2)).foldl applyEd B ↔ (q ∈ B ∧ q.1 ∉ l.map (·.2)) ∨ (q.1 ∈ names B ∧ q.1 ∈ l.map (·.2) ∧ q.2 = g q.1)
  | [], B, q => by simp
  | p :: l, B, q => by
    simp only [List.map_cons, List.foldl_cons, applyEd]
    rw [chgs_mem g l, updB_mem_iff, updB_names]
    simp only [List.mem_cons, not_or]
    constructor
    · rintro (⟨⟨rfl, h1⟩ | ⟨h1, h2⟩, h3⟩ | ⟨h1, h2, h3⟩)
      · exact .inr ⟨h1, .inl rfl, rfl⟩
      · exact .inl ⟨h1, h2, h3⟩
      · exact .inr ⟨h1, .inr h2, h3⟩
    · rintro (⟨h1, h2, h3⟩ | ⟨h1, h2, h3⟩)
      · exact .inl ⟨.inr ⟨h1, h2⟩, h3⟩
      · by_cases h4 : q.1 ∈ l.map (·.2)
        · exact .inr ⟨h1, h4, h3⟩
        · rcases h2 with h2 | h2
          · refine .inl ⟨.inl ⟨?_, h2 ▸ h1⟩, h4⟩
            obtain ⟨a, b⟩ := q
            simp only at h2 h3
            rw [h2] at h3 ⊢
            rw [h3]
          · exact absurd h2 h4
theorem adds_perm (ρ : Nat → Nat) : ∀ (X : Bx) (B : Bx), ((X.map fun p => Ed.add (ρ p.1) (p.2.mapN ρ)).foldl applyEd B).Perm (X.map (mapP ρ) ++ B)
  | [], B => .refl _
  | p :: X, B => by
    simp only [List.map_cons, List.foldl_cons, applyEd, List.cons_append]
    refine (adds_perm ρ X _).trans ?_
    refine ((insB_perm _ _ _).append_left _).trans ?_
    exact List.perm_middle
def xDead (ρ0 ρ1 : List (Nat × Nat)) (X' : Bx) : Bx := ((ρ0.map (·.2)).filter fun a => !X'.any fun q => Nat.beq (rho (ρ0 ++ ρ1) q.1) a).map fun a => (a, .dead)
theorem xEd_perm {ρ0 ρ1 : List (Nat × Nat)} {X' : Bx} {s : St} (hB : (names s.B).Nodup) (hl : (ρ0.map (·.2)).Nodup) (hin : ∀ a ∈ ρ0.map (·.2), a ∈ names s.B) (hX : (names (X'.map (mapP (rho (ρ0 ++ ρ1))))).Nodup)
    (hnew : ∀ q ∈ X', rho (ρ0 ++ ρ1) q.1 ∈ ρ0.map (·.2) ∨ rho (ρ0 ++ ρ1) q.1 ∉ names s.B) :
    (s.edit (xEd ρ0 ρ1 X')).B.Perm (X'.map (mapP (rho (ρ0 ++ ρ1))) ++ (xDead ρ0 ρ1 X' ++ restB (ρ0.map (·.2)) s.B)) := by
  let ρ := rho (ρ0 ++ ρ1)
  let im := ρ0.map (·.2)
  simp only [St.edit, xEd, List.foldl_append]
  refine (adds_perm ρ _ _).trans ?_
  let N := X'.filter fun q => !listMem (ρ q.1) im
  let C := (ρ0.map fun p => Ed.chg p.2 (xNew ρ0 ρ1 X' p.2)).foldl applyEd s.B
  have hCn : names C = names s.B := chgs_names (xNew ρ0 ρ1 X') ρ0 s.B
  have hNm : ∀ q ∈ N, q ∈ X' ∧ ρ q.1 ∉ im := fun q hq => by
    obtain ⟨h1, h2⟩ := List.mem_filter.1 hq
    simp only [Bool.not_eq_true'] at h2
    exact ⟨h1, listMem_false h2⟩
  have hnN : (names (N.map (mapP ρ))).Nodup := hX.sublist ((List.filter_sublist.map _).map _)
  have hL : (N.map (mapP ρ) ++ C).Nodup := by
    refine nodup_of_map (·.1) ?_
    show (names (N.map (mapP ρ) ++ C)).Nodup
    rw [names_append, hCn]
    refine List.nodup_append.2 ⟨hnN, hB, fun x hx y hy e => ?_⟩
    obtain ⟨p, hp, rfl⟩ := List.mem_map.1 hx
    obtain ⟨q, hq, rfl⟩ := List.mem_map.1 hp
    obtain ⟨h1, h2⟩ := hNm q hq
    rcases hnew q h1 with h | h
    · exact h2 h
    · exact h (by rw [show rho (ρ0 ++ ρ1) q.1 = y from e]; exact hy)
  have hD : ∀ p, p ∈ xDead ρ0 ρ1 X' ↔ p.1 ∈ im ∧ (∀ q ∈ X', ρ q.1 ≠ p.1) ∧ p.2 = .dead := fun p => by
    simp only [xDead, List.mem_map, List.mem_filter]
    constructor
    · rintro ⟨a, ⟨h1, h2⟩, rfl⟩
      refine ⟨List.mem_map.2 h1, fun q hq e => ?_, rfl⟩
      simp only [Bool.not_eq_true', List.any_eq_false] at h2
      exact h2 q hq (by rw [show rho (ρ0 ++ ρ1) q.1 = a from e]; exact Nat.beq_refl a)
    · rintro ⟨h1, h2, h3⟩
      refine ⟨p.1, ⟨List.mem_map.1 h1, ?_⟩, by obtain ⟨a, b⟩ := p; simp only at h3; rw [h3]⟩
      simp only [Bool.not_eq_true', List.any_eq_false]
      intro q hq e
      exact h2 q hq (Nat.eq_of_beq_eq_true e)
  have hDn : (names (xDead ρ0 ρ1 X')).Nodup := by
    simp only [names, xDead, List.map_map]
    have : ((fun p : Nat × Bk => p.1) ∘ fun a => (a, Bk.dead)) = id := rfl
    rw [this, List.map_id]
    exact hl.filter _
  have hR : (X'.map (mapP ρ) ++ (xDead ρ0 ρ1 X' ++ restB im s.B)).Nodup := by
    refine nodup_of_map (·.1) ?_
    show (names (X'.map (mapP ρ) ++ (xDead ρ0 ρ1 X' ++ restB im s.B))).Nodup
    rw [names_append, names_append]
    have hrs : ∀ x ∈ names (restB im s.B), x ∈ names s.B ∧ x ∉ im := fun x hx => by
      obtain ⟨p, hp, rfl⟩ := List.mem_map.1 hx
      obtain ⟨h1, h2⟩ := List.mem_filter.1 hp
      simp only [Bool.not_eq_true'] at h2
      exact ⟨List.mem_map.2 ⟨p, h1, rfl⟩, listMem_false h2⟩
    have hds : ∀ x ∈ names (xDead ρ0 ρ1 X'), x ∈ im ∧ ∀ q ∈ X', ρ q.1 ≠ x := fun x hx => by
      obtain ⟨p, hp, rfl⟩ := List.mem_map.1 hx
      obtain ⟨h1, h2, _⟩ := (hD p).1 hp
      exact ⟨h1, h2⟩
    refine List.nodup_append.2 ⟨hX, List.nodup_append.2 ⟨hDn, hB.sublist (List.filter_sublist.map _), fun x hx y hy e => ?_⟩, fun x hx y hy e => ?_⟩
    · exact (hrs y hy).2 (e ▸ (hds x hx).1)
    · obtain ⟨p, hp, rfl⟩ := List.mem_map.1 hx
      obtain ⟨q, hq, rfl⟩ := List.mem_map.1 hp
      rcases List.mem_append.1 hy with hy | hy
      · exact (hds y hy).2 q hq e
      · obtain ⟨c1, c2⟩ := hrs y hy
        rcases hnew q hq with h | h
        · exact c2 (e ▸ h)
        · exact h (by rw [show rho (ρ0 ++ ρ1) q.1 = y from e]; exact c1)
  refine (List.perm_ext_iff_of_nodup hL hR).2 fun p => ?_
  have hC := chgs_mem (xNew ρ0 ρ1 X') ρ0 s.B p
  have hfind : ∀ q ∈ X', xNew ρ0 ρ1 X' (ρ q.1) = q.2.mapN ρ := fun q hq => by
    unfold xNew
    cases hf : X'.find? (fun q' => Nat.beq (rho (ρ0 ++ ρ1) q'.1) (ρ q.1)) with
    | none =>
      have := List.find?_eq_none.1 hf q hq
      exact absurd (Nat.beq_refl _) this
    | some q' =>
      have h1 := List.mem_of_find?_eq_some hf
      have h2' : Nat.beq (rho (ρ0 ++ ρ1) q'.1) (ρ q.1) = true := List.find?_some (p := fun q' : Nat × Bk => Nat.beq (rho (ρ0 ++ ρ1) q'.1) (ρ q.1)) hf
      have h2 := Nat.eq_of_beq_eq_true h2'
      have h3 : mapP ρ q' = mapP ρ q := by
        have h4 : (mapP ρ q').1 = (mapP ρ q).1 := h2
        have e1 : (mapP ρ q') ∈ X'.map (mapP ρ) := List.mem_map.2 ⟨q', h1, rfl⟩
        have e2 : (mapP ρ q) ∈ X'.map (mapP ρ) := List.mem_map.2 ⟨q, hq, rfl⟩
        have h5 : mapP ρ q' = ((mapP ρ q).1, (mapP ρ q').2) := by rw [← h4]
        rw [h5] at e1
        have e2' : ((mapP ρ q).1, (mapP ρ q).2) ∈ X'.map (mapP ρ) := e2
        rw [h5, nodup_names hX e1 e2']
      exact congrArg (·.2) h3
  constructor
  · intro hp
    rcases List.mem_append.1 hp with hp | hp
    · obtain ⟨q, hq, rfl⟩ := List.mem_map.1 hp
      exact List.mem_append_left _ (List.mem_map.2 ⟨q, (hNm q hq).1, rfl⟩)
    · rcases hC.1 hp with ⟨h1, h2⟩ | ⟨h1, h2, h3⟩
      · refine List.mem_append_right _ (List.mem_append_right _ (List.mem_filter.2 ⟨h1, ?_⟩))
        cases hm : listMem p.1 im
        · rfl
        · exact absurd (listMem_iff.1 hm) h2
      · by_cases hq : ∃ q ∈ X', ρ q.1 = p.1
        · obtain ⟨q, hq, e⟩ := hq
          refine List.mem_append_left _ (List.mem_map.2 ⟨q, hq, ?_⟩)
          obtain ⟨a, b⟩ := p
          simp only at e h3
          show (ρ q.1, q.2.mapN ρ) = (a, b)
          rw [h3, ← e, hfind q hq]
        · refine List.mem_append_right _ (List.mem_append_left _ ((hD p).2 ⟨h2, fun q hq' e => hq ⟨q, hq', e⟩, ?_⟩))
          rw [h3]
          unfold xNew
          cases hf : X'.find? (fun q' => Nat.beq (rho (ρ0 ++ ρ1) q'.1) p.1) with
          | none => rfl
          | some q' => exact absurd ⟨q', List.mem_of_find?_eq_some hf, Nat.eq_of_beq_eq_true (List.find?_some (p := fun q' : Nat × Bk => Nat.beq (rho (ρ0 ++ ρ1) q'.1) p.1) hf)⟩ hq
  · intro hp
    rcases List.mem_append.1 hp with hp | hp
    · obtain ⟨q, hq, rfl⟩ := List.mem_map.1 hp
      by_cases hm : ρ q.1 ∈ im
      · exact List.mem_append_right _ (hC.2 (.inr ⟨hin _ hm, hm, (hfind q hq).symm⟩))
      · refine List.mem_append_left _ (List.mem_map.2 ⟨q, List.mem_filter.2 ⟨hq, ?_⟩, rfl⟩)
        cases hmm : listMem (ρ q.1) im
        · rfl
        · exact absurd (listMem_iff.1 hmm) hm
    · refine List.mem_append_right _ ?_
      rcases List.mem_append.1 hp with hp | hp
      · obtain ⟨h1, h2, h3⟩ := (hD p).1 hp
        refine hC.2 (.inr ⟨hin _ h1, h1, ?_⟩)
        rw [h3]
        unfold xNew
        cases hf : X'.find? (fun q' => Nat.beq (rho (ρ0 ++ ρ1) q'.1) p.1) with
        | none => rfl
        | some q' => exact absurd (Nat.eq_of_beq_eq_true (List.find?_some (p := fun q' : Nat × Bk => Nat.beq (rho (ρ0 ++ ρ1) q'.1) p.1) hf)) (h2 q' (List.mem_of_find?_eq_some hf))
      · obtain ⟨h1, h2⟩ := List.mem_filter.1 hp
        simp only [Bool.not_eq_true'] at h2
        exact hC.2 (.inl ⟨h1, listMem_false h2⟩)
theorem ACall.dead {P : Program} {f : FuncId} {args : List A} {X X' : Bx} {r : A} (hc : ACall P f args X r X') (Dd : Bx) (hd : ∀ p ∈ Dd, p.2 = .dead ∧ p.1 ∈ names X ∧ p.1 ∉ names X') (hn : (names Dd).Nodup) : ACall P f args X r (X' ++ Dd) := by
  intro h w val vs hI hargs
  refine (hc h w val vs hI hargs).mono fun e w' hh => ?_
  obtain ⟨h', val', u, rfl, hI', hru, hk, hv, hb⟩ := hh
  have hbl : blks val' (X' ++ Dd) = blks val' X' := by
    rw [blks_append]
    have : blks val' Dd = [] := by
      refine List.filterMap_eq_nil_iff.2 fun p hp => ?_
      unfold blkOf
      rw [(hd p hp).1]
      rfl
    rw [this, List.append_nil]
  refine ⟨h', val', u, rfl, ⟨fun p hp => ?_, ?_, ?_⟩, hru, hk, fun n hn => hv n fun hx => hn (by rw [names_append]; exact List.mem_append_left _ hx), by rw [hbl]; exact hb⟩
  · rcases List.mem_append.1 hp with hp | hp
    · exact hI'.rep p hp
    · rw [(hd p hp).1]; trivial
  · rw [names_append]
    refine List.nodup_append.2 ⟨hI'.nms, hn, fun x hx y hy e => ?_⟩
    obtain ⟨p, hp, rfl⟩ := List.mem_map.1 hy
    exact (hd p hp).2.2 (e ▸ hx)
  · rw [hbl]; exact hI'.bks
def acallX (P : Program) (o : Oper) (s : St) (wt : W) : Option (Ob × A × List Ed) :=
  match o.op with
  | .call c => match c.callee with
    | .value g => match calleeOf (s.ev g), wt with
      | some (f, fs, cs), .cx bb ρ0 ρ1 r X' => match lkAll s.B ρ0 with
        | some raw =>
          if fnOk P f && xOk ρ0 ρ1 s (fs ++ c.args.toList.map (fun x => if bb = true then s.ev x else s.look (s.ev x)) ++ cs) r X' raw then
            some (.call f (mapNs (rhoi ρ0) (fs ++ c.args.toList.map (fun x => if bb = true then s.ev x else s.look (s.ev x)) ++ cs)) (raw.map (mapP (rhoi ρ0))) r X', r.mapN (rho (ρ0 ++ ρ1)), xEd ρ0 ρ1 X') else none
        | none => none
      | _, _ => none
    | _ => none
  | _ => none
theorem raw_perm {l : List Nat} {B raw : Bx} (hB : (names B).Nodup) (hl : l.Nodup) (hr : names raw = l) (hm : ∀ p ∈ raw, p ∈ B) : (pickB l B).Perm raw := by
  have hBn : B.Nodup := nodup_of_map _ hB
  have hrn : raw.Nodup := nodup_of_map (·.1) (by rw [← hr] at hl; exact hl)
  refine (List.perm_ext_iff_of_nodup (hBn.filter _) hrn).2 fun p => ?_
  constructor
  · intro hp
    obtain ⟨h1, h2⟩ := List.mem_filter.1 hp
    have h3 := listMem_iff.1 h2
    rw [← hr] at h3
    obtain ⟨q, hq, e⟩ := List.mem_map.1 h3
    obtain ⟨n, b⟩ := p
    obtain ⟨n', b'⟩ := q
    simp only at e
    subst e
    rw [nodup_names hB h1 (hm _ hq)]
    exact hq
  · intro hp
    refine List.mem_filter.2 ⟨hm p hp, listMem_iff.2 ?_⟩
    rw [← hr]; exact List.mem_map.2 ⟨p, hp, rfl⟩
theorem bxHas_names {n : Nat} {B : Bx} (h : bxHas n B = false) : n ∉ names B := fun hn => by
  obtain ⟨p, hp, e⟩ := List.mem_map.1 hn
  exact (bxHas_spec h p hp).1 e
theorem xcall_ok {P : Program} {f : FuncId} {ρ0 ρ1 : List (Nat × Nat)} {s : St} {args : List A} {r : A} {X' raw : Bx} (hok : xOk ρ0 ρ1 s args r X' raw = true) (hraw : lkAll s.B ρ0 = some raw) (hF : Far s.F) (hn : (names s.all).Nodup)
    (hc : ACall P f (mapNs (rhoi ρ0) args) (raw.map (mapP (rhoi ρ0))) r X') :
    ACall P f args (s.B ++ s.F) (r.mapN (rho (ρ0 ++ ρ1))) ((s.edit (xEd ρ0 ρ1 X')).B ++ s.F) ∧ ∀ p ∈ (s.edit (xEd ρ0 ρ1 X')).B, p.1 ∈ names s.B ∨ (p.1 < up ∧ hasAny p.1 s.E = false) := by
  simp only [xOk, Bool.and_eq_true] at hok
  obtain ⟨⟨⟨⟨⟨⟨⟨⟨k1, k2⟩, k3⟩, k4⟩, k5⟩, k6⟩, k7⟩, k8⟩, k9⟩ := hok
  let im := ρ0.map (·.2)
  let ρ := rho (ρ0 ++ ρ1)
  have hrn : names raw = im := lkAll_names hraw
  have hnB : (names s.B).Nodup := by
    have := hn; unfold St.all at this; rw [names_append] at this; exact (List.nodup_append.1 this).1
  have hround : ∀ n ∈ im, (fun n => ρ (rhoi ρ0 n)) n = n := fun n hn => by simpa using listAll_ok k1 n hn
  have hpick : ∀ p ∈ raw, p.1 ∈ im ∧ bkIn p.2 im = true := fun p hp => ⟨by rw [← hrn]; exact List.mem_map.2 ⟨p, hp, rfl⟩, (List.all_eq_true.1 k4) p hp⟩
  have hargs : mapNs ρ (mapNs (rhoi ρ0) args) = args := by rw [mapNs_mapNs]; exact nmssIn_id k3 hround
  have hXmap : (raw.map (mapP (rhoi ρ0))).map (mapP ρ) = raw := by
    rw [List.map_map]
    have : (mapP ρ ∘ mapP (rhoi ρ0)) = mapP (fun n => ρ (rhoi ρ0 n)) := by
      funext p
      show (ρ (rhoi ρ0 p.1), (p.2.mapN (rhoi ρ0)).mapN ρ) = (ρ (rhoi ρ0 p.1), p.2.mapN fun n => ρ (rhoi ρ0 n))
      rw [Bk.mapN_mapN]
    rw [this]
    exact mapB_id hround hpick
  have hnX : ∀ n, n ∈ names (raw.map (mapP (rhoi ρ0))) ↔ n ∈ im.map (rhoi ρ0) := fun n => by rw [names_mapP, hrn]
  have hinB : ∀ m ∈ im, m ∈ names s.B := fun m hm => by
    rw [← hrn] at hm
    obtain ⟨p, hp, e⟩ := List.mem_map.1 hm
    exact List.mem_map.2 ⟨p, lkAll_mem hraw p hp, e⟩
  have hX : ∀ n ∈ im.map (rhoi ρ0), ρ n ∈ im := fun n hn => by
    obtain ⟨m, hm, rfl⟩ := List.mem_map.1 hn
    have := hround m hm
    simp only at this
    rw [this]; exact hm
  have h4 : ∀ n ∈ names X', ∀ m ∈ names X', ρ n = ρ m → n = m := fun n hn m hm e => by
    have := listAll_ok (listAll_ok k5.2 n hn) m hm
    simp only [Bool.or_eq_true, Bool.not_eq_true', Nat.beq_eq] at this
    rcases this with h | h
    · rw [show rho (ρ0 ++ ρ1) n = rho (ρ0 ++ ρ1) m from e] at h
      rw [Nat.beq_refl] at h; cases h
    · exact h
  have h6 : ∀ n ∈ names X', n ∈ im.map (rhoi ρ0) ∨ (ρ n < up ∧ hasAny (ρ n) s.E = false ∧ bxHas (ρ n) s.B = false) := fun n hn => by
    have := listAll_ok k6 n hn
    simp only [Bool.or_eq_true] at this
    rcases this with h | h
    · exact .inl (listMem_iff.1 h)
    · right
      have h9 := listAll_ok k9 _ (listMem_iff.1 h)
      simp only [frs, Bool.and_eq_true, decide_eq_true_eq, Bool.not_eq_true'] at h9
      exact ⟨h9.1.1, h9.1.2, h9.2⟩
  have hrest : ∀ p ∈ restB im s.B, p ∈ s.B ∧ p.1 ∉ im := fun p hp => by
    obtain ⟨h1, h2⟩ := List.mem_filter.1 hp
    simp only [Bool.not_eq_true'] at h2
    exact ⟨h1, listMem_false h2⟩
  have hfr := hc.frame ρ (fun n h => rho_up h) (restB im s.B ++ s.F) h4
    (fun n hn hne m hm e => by
      rcases h6 n hn with h | ⟨_, _, h⟩
      · exact hne ((hnX n).2 h)
      · exact bxHas_names h (by rw [e]; exact hinB _ (hX m ((hnX m).1 hm))))
    (fun n hn' => by
      rw [names_append, List.mem_append]
      rcases h6 n hn' with h | ⟨h1, h2, h3⟩
      · have hin := hX n h
        rintro (hh | hh)
        · obtain ⟨p, hp, e⟩ := List.mem_map.1 hh
          exact (hrest p hp).2 (e ▸ hin)
        · have := hn; unfold St.all at this; rw [names_append] at this
          exact (List.nodup_append.1 this).2.2 _ (hinB _ hin) _ hh rfl
      · rintro (hh | hh)
        · obtain ⟨p, hp, e⟩ := List.mem_map.1 hh
          exact (bxHas_spec h3 p (hrest p hp).1).1 e
        · obtain ⟨p, hp, e⟩ := List.mem_map.1 hh
          exact (hF _ (.inl h1) p hp).1 e)
    (fun n hn hne p hp => by
      rcases h6 n hn with h | ⟨h1, h2, h3⟩
      · exact absurd ((hnX n).2 h) hne
      · rcases List.mem_append.1 hp with hp | hp
        · exact (bxHas_spec h3 p (hrest p hp).1).2
        · exact (hF _ (.inl h1) p hp).2)
    (fun n hn => nmsIn_ok k7 n hn) (fun p hp n hn => bkIn_ok ((List.all_eq_true.1 k8) p hp) n hn)
  rw [hargs, hXmap] at hfr
  have hXn : (names (X'.map (mapP ρ))).Nodup := by
    rw [names_mapP]
    exact nodup_map_on h4 (nodupB_ok k5.1)
  have hnew : ∀ q ∈ X', ρ q.1 ∈ im ∨ ρ q.1 ∉ names s.B := fun q hq => by
    rcases h6 q.1 (List.mem_map.2 ⟨q, hq, rfl⟩) with h | ⟨_, _, h⟩
    · exact .inl (hX _ h)
    · exact .inr (bxHas_names h)
  have hperm := xEd_perm hnB (nodupB_ok k2) hinB hXn hnew
  have hfr2 := hfr.dead (xDead ρ0 ρ1 X') (fun p hp => by
    simp only [xDead, List.mem_map, List.mem_filter] at hp
    obtain ⟨a, ⟨h1, h2⟩, rfl⟩ := hp
    have ha : a ∈ im := List.mem_map.2 h1
    refine ⟨rfl, ?_, fun hh => ?_⟩
    · rw [names_append]
      exact List.mem_append_left _ (by rw [hrn]; exact ha)
    · rw [names_append, names_append] at hh
      rcases List.mem_append.1 hh with hh | hh
      · rw [names_mapP] at hh
        obtain ⟨n, hn', e⟩ := List.mem_map.1 hh
        obtain ⟨q, hq, rfl⟩ := List.mem_map.1 hn'
        simp only [Bool.not_eq_true', List.any_eq_false] at h2
        exact h2 q hq (by rw [show rho (ρ0 ++ ρ1) q.1 = a from e]; exact Nat.beq_refl a)
      · rcases List.mem_append.1 hh with hh | hh
        · obtain ⟨p, hp, e⟩ := List.mem_map.1 hh
          exact (hrest p hp).2 (e ▸ ha)
        · have := hn; unfold St.all at this; rw [names_append] at this
          exact (List.nodup_append.1 this).2.2 _ (hinB _ ha) _ hh rfl) (by
    simp only [names, xDead, List.map_map]
    have : ((fun p : Nat × Bk => p.1) ∘ fun a => (a, Bk.dead)) = id := rfl
    rw [this, List.map_id]
    exact (nodupB_ok k2).filter _)
  refine ⟨hfr2.perm ?_ ?_, fun p hp => ?_⟩
  · rw [← List.append_assoc]
    exact ((pick_rest im s.B).trans ((raw_perm hnB (nodupB_ok k2) hrn (lkAll_mem hraw)).append_right _)).append_right _
  · refine List.Perm.trans ?_ (hperm.symm.append_right s.F)
    simp only [List.append_assoc]
    refine List.Perm.append_left _ ?_
    rw [← List.append_assoc]
    exact List.perm_append_comm
  · rcases List.mem_append.1 (hperm.mem_iff.1 hp) with hp | hp
    · obtain ⟨q, hq, rfl⟩ := List.mem_map.1 hp
      have hqn : q.1 ∈ names X' := List.mem_map.2 ⟨q, hq, rfl⟩
      rcases h6 q.1 hqn with h | ⟨h1, h2, h3⟩
      · exact .inl (hinB _ (hX _ h))
      · exact .inr ⟨h1, h2⟩
    · rcases List.mem_append.1 hp with hp | hp
      · simp only [xDead, List.mem_map, List.mem_filter] at hp
        obtain ⟨a, ⟨h1, h2⟩, rfl⟩ := hp
        exact .inl (hinB _ (List.mem_map.2 h1))
      · exact .inl (List.mem_map.2 ⟨p, (hrest p hp).1, rfl⟩)
theorem acallX_ok {P : Program} {o : Oper} {s : St} {wt : W} {L : Lp} {Φ : Ob} {r : A} {es : List Ed} (he : acallX P o s wt = some (Φ, r, es)) : OpOk P o s (Φ.ok P L) r (s.edit es) := by
  intro hΦ h w val a H K Q hK
  unfold acallX at he
  split at he
  · rename_i c ho
    obtain ⟨callee, args, argTypes⟩ := c
    simp only at he
    split at he
    · rename_i g
      split at he
      · rename_i f fs cs bb ρ0 ρ1 r' X' hg
        split at he
        · rename_i raw hraw
          obtain ⟨ff, hff⟩ : ∃ ff : Operand → A, ff = fun x => if bb = true then s.ev x else s.look (s.ev x) := ⟨_, rfl⟩
          rw [← hff] at he
          split at he
          · rename_i hb
            simp only [Bool.and_eq_true] at hb
            obtain ⟨hf, hok⟩ := hb
            simp only [Option.some.injEq, Prod.mk.injEq] at he
            obtain ⟨rfl, rfl, rfl⟩ := he
            subst hff
            simp only [Ob.ok] at hΦ
            obtain ⟨hc, hfree⟩ := xcall_ok hok hraw H.far H.inv.nms hΦ
            have heo : acallO P o s (.own bb (r'.mapN (rho (ρ0 ++ ρ1))) (s.edit (xEd ρ0 ρ1 X')).B s.F) =
                some (.both (.call f (fs ++ args.toList.map (fun x => if bb = true then s.ev x else s.look (s.ev x)) ++ cs) (s.B ++ s.F) (r'.mapN (rho (ρ0 ++ ρ1))) ((s.edit (xEd ρ0 ρ1 X')).B ++ s.F)) (.frame s.F s.F), r'.mapN (rho (ρ0 ++ ρ1)),
                  { s with B := (s.edit (xEd ρ0 ρ1 X')).B, F := s.F }) := by
              unfold acallO
              rw [ho]
              simp only [hg]
              rw [if_pos]
              simp only [Bool.and_eq_true]
              refine ⟨hf, List.all_eq_true.2 fun p hp => ?_⟩
              simp only [Bool.or_eq_true, Bool.and_eq_true, decide_eq_true_eq, Bool.not_eq_true', List.contains_iff_mem]
              exact hfree p hp
            refine acallO_ok (L := L) heo ?_ h w val a H K Q hK
            simp only [Ob.ok]
            exact ⟨by simpa using hc, by simp⟩
          · cases he
        · cases he
      · cases he
    · cases he
  · cases he
end Go.Ac
