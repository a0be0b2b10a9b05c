/- Own work: how calls of the model run over plain data. -/
import Derived.Test.YtbmojpadjglncaaGreatAc16
import Derived.Deep.LoopGhost
import Derived.ControlIn
set_option linter.unusedVariables false
set_option linter.unusedSimpArgs false
namespace Go.Ac

def AC (P : Program) (rd : Option Nat) (c : Code) (s : St) (Ψ : Ex → St → Prop) : Prop :=
  ∀ h w val a, Holds s h w val a → ∀ Q : Exit → Act → World → Prop,
    (∀ e s' h' w' val' a', Ψ e s' → Holds s' h' w' val' a' → Nx s h w val s' h' w' val' → Q e.toExit a' w') → c.wpIn (fc rd) 0 P Q a w

def child : Code → Nat → Code
  | .seq a _, 0 => a
  | .seq _ b, _ => b
  | .cond _ a _, 0 => a
  | .cond _ _ b, _ => b
  | .block _ b, _ => b
  | .loop b, _ => b
  | .scope b, _ => b
  | .rangeFunc _ _ a _, 0 => a
  | .rangeFunc _ _ _ b, _ => b
  | _, _ => .skip
def codeAt (root : Code) : List Nat → Code
  | [] => root
  | i :: p => child (codeAt root p) i

def Wk (s s' : St) : Prop := ∀ h w val a, Holds s h w val a → ∃ h' val', Holds s' h' w val' a ∧ Nx s h w val s' h' w val'
theorem Wk.refl (s : St) : Wk s s := fun h w val _ H => ⟨h, val, H, Nx.refl s h w val rfl⟩
theorem Wk.trans {s s1 s2 : St} (a : Wk s s1) (b : Wk s1 s2) : Wk s s2 := fun h w val x H =>
  let ⟨h1, v1, H1, n1⟩ := a h w val x H
  let ⟨h2, v2, H2, n2⟩ := b h1 w v1 x H1
  ⟨h2, v2, H2, n1.trans n2⟩
theorem AC.wk {P : Program} {rd : Option Nat} {c : Code} {s s' : St} {Ψ : Ex → St → Prop} (hw : Wk s s') (h : AC P rd c s' Ψ) : AC P rd c s Ψ := by
  intro h' w val a H Q hQ
  obtain ⟨h1, v1, H1, n1⟩ := hw h' w val a H
  exact h h1 w v1 a H1 Q fun e s2 h2 w2 v2 a2 hΨ H2 n2 => hQ e s2 h2 w2 v2 a2 hΨ H2 (n1.trans n2)
theorem AC.post {P : Program} {rd : Option Nat} {c : Code} {s : St} {Ψ Ψ' : Ex → St → Prop} (h : AC P rd c s Ψ) (hp : ∀ e s1, Ψ e s1 → ∃ s2, Wk s1 s2 ∧ Ψ' e s2) : AC P rd c s Ψ' := by
  intro h' w val a H Q hQ
  refine h h' w val a H Q fun e s1 h1 w1 v1 a1 hΨ H1 n1 => ?_
  obtain ⟨s2, hw, hΨ'⟩ := hp e s1 hΨ
  obtain ⟨h2, v2, H2, n2⟩ := hw _ _ _ _ H1
  exact hQ e s2 h2 w1 v2 a1 hΨ' H2 (n1.trans n2)

theorem AC.seq {P : Program} {rd : Option Nat} {x y : Code} {s : St} {Ψ : Ex → St → Prop} (h : AC P rd x s fun e s1 => match e with | .normal => AC P rd y s1 Ψ | e => Ψ e s1) : AC P rd (.seq x y) s Ψ := by
  intro h' w val a H Q hQ
  refine wpIn_seq (h h' w val a H _ fun e s1 h1 w1 v1 a1 hΨ H1 n1 => ?_)
  cases e with
  | normal => exact hΨ h1 w1 v1 a1 H1 Q fun e s2 h2 w2 v2 a2 hΨ2 H2 n2 => hQ e s2 h2 w2 v2 a2 hΨ2 H2 (n1.trans n2)
  | exit id => exact hQ _ s1 h1 w1 v1 a1 hΨ H1 n1
  | ret => exact hQ _ s1 h1 w1 v1 a1 hΨ H1 n1
theorem AC.cond {P : Program} {rd : Option Nat} {c : Operand} {x y : Code} {s : St} {b : Bool} {Ψ : Ex → St → Prop} (hc : s.ev c = bo b) (h : AC P rd (if b then x else y) s Ψ) : AC P rd (.cond c x y) s Ψ := by
  intro h' w val a H Q hQ
  have := H.ev c
  rw [hc] at this
  simp only [bo, RA, RD] at this
  exact wpIn_cond this.1 (h h' w val a H Q hQ)
theorem AC.block {P : Program} {rd : Option Nat} {id : Nat} {c : Code} {s : St} {Ψ : Ex → St → Prop} (h : AC P rd c s fun e s1 => match e with | .exit j => if j = id then Ψ .normal s1 else Ψ (.exit j) s1 | e => Ψ e s1) : AC P rd (.block id c) s Ψ := by
  intro h' w val a H Q hQ
  refine wpIn_block (h h' w val a H _ fun e s1 h1 w1 v1 a1 hΨ H1 n1 => ?_)
  cases e with
  | normal => exact hQ _ s1 h1 w1 v1 a1 hΨ H1 n1
  | exit j =>
    simp only [Ex.toExit, Exit.inBlock]
    simp only at hΨ
    split at hΨ
    · rename_i hj; rw [if_pos hj]; exact hQ .normal s1 h1 w1 v1 a1 hΨ H1 n1
    · rename_i hj; rw [if_neg hj]; exact hQ (.exit j) s1 h1 w1 v1 a1 hΨ H1 n1
  | ret => exact hQ _ s1 h1 w1 v1 a1 hΨ H1 n1

section
variable {P : Program} {b : Frame} {a : Act} {k : List Item} {cs : List Frame} {w : World}
theorem stepR_scope' {c : Code} : step P (lone (b.atR a (.code (.scope c) :: k)) cs w) = .next (lone (b.atR a (.code c :: .inScope c :: k)) cs w) :=
  step_lone_go (by simp [stepG, stepG.exec, Frame.atR])
theorem stepR_inScope' {c : Code} : step P (lone (b.atR a (.inScope c :: k)) cs w) = .next (lone (b.atR a k) cs w) :=
  step_lone_go (by simp [stepG, stepG.exec, Frame.atR])
end
theorem wpIn_scope {F : Fence} {n : Nat} {P : Program} {c : Code} {Q : Exit → Act → World → Prop} {a : Act} {w : World}
    (h : c.wpIn F n P (fun e a w => match e with | .goto _ => False | e => Q e a w) a w) : (Code.scope c).wpIn F n P Q a w := by
  intro b k cs hro hb hr
  have h0 : (lone (b.atR a (.code (.scope c) :: k)) cs w).fenced P F := fenced_calm hb hr rfl
  obtain ⟨e, a₁, w₁, hq, harr⟩ := h b (.inScope c :: k) cs hro hb hr
  cases e with
  | normal => exact ⟨.normal, a₁, w₁, hq, .head h0 stepR_scope' (StepsIn.trans harr (.one (fenced_calm hb hr rfl) stepR_inScope'))⟩
  | exit id' =>
    have hx : exitTo id' (.inScope c :: k) = exitTo id' k := by simp [exitTo]
    exact ⟨.exit id', a₁, w₁, hq, fun k' hk => .head h0 stepR_scope' (harr.1 k' (by rw [hx]; exact hk)),
      fun hr' hk => let ⟨k₁, h1, h2⟩ := harr.2 hr' (by rw [hx]; exact hk); ⟨k₁, h1, .head h0 stepR_scope' h2⟩⟩
  | goto l => exact hq.elim
  | ret => exact ⟨_, a₁, w₁, hq, .of_steps (.one h0 stepR_scope') harr⟩
  | panic ch => exact ⟨_, a₁, w₁, hq, .of_steps (.one h0 stepR_scope') harr⟩
  | outgrown => exact ⟨_, a₁, w₁, hq, .of_steps (.one h0 stepR_scope') harr⟩
theorem AC.scope {P : Program} {rd : Option Nat} {c : Code} {s : St} {Ψ : Ex → St → Prop} (h : AC P rd c s Ψ) : AC P rd (.scope c) s Ψ := by
  intro h' w val a H Q hQ
  refine wpIn_scope (h h' w val a H _ fun e s1 h1 w1 v1 a1 hΨ H1 n1 => ?_)
  cases e with
  | normal => exact hQ .normal s1 h1 w1 v1 a1 hΨ H1 n1
  | exit j => exact hQ (.exit j) s1 h1 w1 v1 a1 hΨ H1 n1
  | ret => exact hQ .ret s1 h1 w1 v1 a1 hΨ H1 n1

theorem wpIn_loop_ghost' {F : Fence} {rm : Nat} {P : Program} {Q : Exit → Act → World → Prop} {a : Act} {w : World} {c : Code} (I : Nat → Act → World → Prop) (n₀ : Nat) (h₀ : I n₀ a w)
    (round : ∀ n a w, I n a w → c.wpIn F rm P (Exit.then (fun a' w' => ∃ n', n' < n ∧ I n' a' w') Q) a w) : (Code.loop c).wpIn F rm P Q a w := by
  refine wpIn_loop (fun a w => ∃ n, I n a w) (fun a w => leastOf (fun n => I n a w)) ⟨n₀, h₀⟩ ?_
  intro a w hI
  refine wpIn_mono (round _ a w (leastOf_spec hI).1) ?_
  intro e a' w' hq
  cases e with
  | normal =>
    obtain ⟨n', hlt, hI'⟩ := hq
    exact show (∃ n, I n a' w') ∧ leastOf (fun n => I n a' w') < leastOf (fun n => I n a w) from ⟨⟨n', hI'⟩, Nat.lt_of_le_of_lt ((leastOf_spec ⟨n', hI'⟩).2 n' hI') hlt⟩
  | exit id => exact hq
  | goto l => exact hq
  | ret => exact hq
  | panic ch => exact hq
  | outgrown => exact hq

theorem AC.loop {P : Program} {rd : Option Nat} {c : Code} {ι : Type} (I : ι → St) (μ : ι → Nat) (Ψ : ι → Ex → St → Prop)
    (hr : ∀ i, AC P rd c (I i) fun e s1 => match e with | .normal => ∃ j, μ j < μ i ∧ Wk s1 (I j) ∧ (∀ e s, Ψ j e s → Ψ i e s) | e => Ψ i e s1) (i : ι) : AC P rd (.loop c) (I i) (Ψ i) := by
  intro h w val a H Q hQ
  refine wpIn_loop_ghost' (fun n a' w' => ∃ j h' val', μ j = n ∧ Holds (I j) h' w' val' a' ∧ Nx (I i) h w val (I j) h' w' val' ∧ (∀ e s, Ψ j e s → Ψ i e s)) (μ i) ⟨i, h, val, rfl, H, Nx.refl _ h w val rfl, fun _ _ x => x⟩ ?_
  rintro n a' w' ⟨j, h', val', rfl, H', n', hj⟩
  refine hr j h' w' val' a' H' _ fun e s1 h1 w1 v1 a1 hΨ H1 n1 => ?_
  cases e with
  | normal =>
    obtain ⟨k, hlt, hw, hk⟩ := hΨ
    obtain ⟨h2, v2, H2, n2⟩ := hw _ _ _ _ H1
    exact ⟨μ k, hlt, k, h2, v2, rfl, H2, (n'.trans n1).trans n2, fun e s x => hj e s (hk e s x)⟩
  | exit id => exact hQ _ s1 h1 w1 v1 a1 (hj _ _ hΨ) H1 (n'.trans n1)
  | ret => exact hQ _ s1 h1 w1 v1 a1 (hj _ _ hΨ) H1 (n'.trans n1)

def maskE (live : Nat → Bool) : Nat → List A → List A
  | _, [] => []
  | i, a :: l => (if live i then a else .any) :: maskE live (i + 1) l
theorem maskE_ok {h w val} (live : Nat → Bool) : ∀ (l : List A) (i : Nat) (us : List Value), RAs h w val l us → RAs h w val (maskE live i l) us
  | [], _, us, hr => by simpa [maskE, RAs] using hr
  | a :: l, i, us, hr => by
    simp only [RAs] at hr
    obtain ⟨u, us', e, h1, h2⟩ := hr
    simp only [maskE, RAs]
    refine ⟨u, us', e, ?_, maskE_ok live l (i + 1) us' h2⟩
    split
    · exact h1
    · simp [RA]
theorem Wk.mask (live : Nat → Bool) (s : St) : Wk s { s with E := maskE live 0 s.E } := fun h w val _ H =>
  ⟨h, val, ⟨maskE_ok live _ 0 _ H.e, H.inv, H.far, H.defs⟩, Nx.refl s h w val rfl⟩

theorem Inv.sub {h w val} {B B' : Bx} (hs : B'.Sublist B) (I : Inv h w val B) : Inv h w val B' :=
  ⟨fun p hp => I.rep p (hs.subset hp), (hs.map _).nodup I.nms, (hs.filterMap _).nodup I.bks⟩
theorem Wk.drop (p : Nat × Bk → Bool) (s : St) : Wk s { s with B := s.B.filter p } := fun h w val _ H => by
  have hs : (s.B.filter p ++ s.F).Sublist s.all := List.Sublist.append List.filter_sublist (List.Sublist.refl _)
  exact ⟨h, val, ⟨H.e, H.inv.sub hs, H.far, H.defs⟩, ⟨Keep.refl _ _ _, fun _ _ => rfl, fun b hb => .inl ((hs.filterMap _).subset hb)⟩⟩
end Go.Ac
