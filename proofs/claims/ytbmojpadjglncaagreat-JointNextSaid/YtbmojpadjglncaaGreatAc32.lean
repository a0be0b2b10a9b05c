/- Own work: how calls of the model run over plain data. -/
import Derived.Test.YtbmojpadjglncaaGreatAc22
set_option linter.unusedVariables false
set_option linter.unusedSimpArgs false
namespace Go.Ac
open Go.MapKept
structure MP (K V : Type) where
  clk : Nat
  es : List (Nat × K × V)
section
variable {K V : Type}
def MP.dl (fk : K → D) (fv : V → D) (m : MP K V) : List (Nat × D × D) := m.es.map fun x => (x.1, fk x.2.1, fv x.2.2)
def mnewE : MP K V := ⟨0, []⟩
structure KeyT (P : Program) (kt : TypeId) (fk : K → D) : Prop where
  ok : ∀ a, KOk P kt (fk a)
  inj : ∀ a b, fk a = fk b → a = b
variable {P : Program} {kt : TypeId} {fk : K → D} {fv : V → D}
abbrev dl (fk : K → D) (fv : V → D) (l : List (Nat × K × V)) : List (Nat × D × D) := l.map fun x => (x.1, fk x.2.1, fv x.2.2)
theorem dl_ok (T : KeyT P kt fk) (l : List (Nat × K × V)) : ∀ x ∈ dl fk fv l, KOk P kt x.2.1 := fun x hx => by
  obtain ⟨y, _, rfl⟩ := List.mem_map.1 hx
  exact T.ok _
def stoM (st : Int) (v : V) : List (Nat × K × V) → List (Nat × K × V)
  | [] => []
  | x :: xs => if (x.1 : Int) = st then (x.1, x.2.1, v) :: xs else x :: stoM st v xs
def mstoE (m : MP K V) (st : Int) (v : V) : MP K V := ⟨m.clk, stoM st v m.es⟩
def mhasE (m : MP K V) (st : Int) : Bool := m.es.any fun x => decide ((x.1 : Int) = st)
def mclrE (m : MP K V) : MP K V := ⟨m.clk, []⟩
theorem stoM_ok (st : Int) (v : V) : ∀ l : List (Nat × K × V), (l.any fun x => decide ((x.1 : Int) = st)) = true → MSto (dl fk fv l) st (fv v) (dl fk fv (stoM st v l))
  | [], h => by simp at h
  | x :: xs, h => by
    rw [stoM]
    split
    · rename_i e
      exact ⟨[], x.1, fk x.2.1, fv x.2.2, dl fk fv xs, e.symm, rfl, by simp, rfl⟩
    · rename_i e
      have h' : (xs.any fun x => decide ((x.1 : Int) = st)) = true := by simpa [e] using h
      obtain ⟨pre, s, kd, v0, post, h1, h2, h3, h4⟩ := stoM_ok st v xs h'
      refine ⟨(x.1, fk x.2.1, fv x.2.2) :: pre, s, kd, v0, post, h1, by rw [List.cons_append, ← h2]; rfl, fun y hy => ?_, by rw [List.cons_append, ← h4]; rfl⟩
      rcases List.mem_cons.1 hy with rfl | hy
      · exact fun e2 => e (by rw [h1]; simp only at e2; omega)
      · exact h3 y hy
theorem msto_ok (fk : K → D) (fv : V → D) (m : MP K V) (st : Int) (v : V) (h : mhasE m st = true) : MSto (MP.dl fk fv m) st (fv v) (MP.dl fk fv (mstoE m st v)) := stoM_ok st v m.es h
theorem mlen_ok (fk : K → D) (fv : V → D) (m : MP K V) (h : (m.es.length : Int) ≤ 4611686018427387904) : MLen (MP.dl fk fv m) (m.es.length : Int) := ⟨by simp [MP.dl], h⟩
variable [DecidableEq K]
def getM (z : V) (k : K) : List (Nat × K × V) → V × Bool
  | [] => (z, false)
  | x :: xs => if x.2.1 = k then (x.2.2, true) else getM z k xs
def putM (clk : Nat) (k : K) (v : V) : List (Nat × K × V) → Nat × List (Nat × K × V)
  | [] => (clk + 1, [(clk, k, v)])
  | x :: xs => if x.2.1 = k then (clk, (x.1, x.2.1, v) :: xs) else ((putM clk k v xs).1, x :: (putM clk k v xs).2)
def entM (clk : Nat) (z : V) (k : K) : List (Nat × K × V) → (Nat × List (Nat × K × V)) × V × Nat
  | [] => ((clk + 1, [(clk, k, z)]), z, clk)
  | x :: xs => if x.2.1 = k then ((clk, x :: xs), x.2.2, x.1) else (((entM clk z k xs).1.1, x :: (entM clk z k xs).1.2), (entM clk z k xs).2)
def delM (k : K) : List (Nat × K × V) → List (Nat × K × V)
  | [] => []
  | x :: xs => if x.2.1 = k then xs else x :: delM k xs
def mgetE (z : V) (m : MP K V) (k : K) : V × Bool := getM z k m.es
def mputE (m : MP K V) (k : K) (v : V) : MP K V := ⟨(putM m.clk k v m.es).1, (putM m.clk k v m.es).2⟩
def mentE (z : V) (m : MP K V) (k : K) : MP K V := ⟨(entM m.clk z k m.es).1.1, (entM m.clk z k m.es).1.2⟩
def mevE (z : V) (m : MP K V) (k : K) : V := (entM m.clk z k m.es).2.1
def mesE (z : V) (m : MP K V) (k : K) : Nat := (entM m.clk z k m.es).2.2
def mdelE (m : MP K V) (k : K) : MP K V := ⟨m.clk, delM k m.es⟩
theorem getM_ok (T : KeyT P kt fk) (z : V) (k : K) : ∀ l : List (Nat × K × V), ((getM z k l).2 = true ∧ ∃ (pre : List (Nat × D × D)) (s : Nat) (post : List (Nat × D × D)), dl fk fv l = pre ++ (s, fk k, fv (getM z k l).1) :: post ∧ ∀ x ∈ pre, x.2.1 ≠ fk k) ∨ ((getM z k l).2 = false ∧ fv (getM z k l).1 = fv z ∧ ∀ x ∈ dl fk fv l, x.2.1 ≠ fk k)
  | [] => .inr ⟨rfl, rfl, by simp⟩
  | x :: xs => by
    rw [getM]
    split
    · rename_i h
      exact .inl ⟨rfl, [], x.1, dl fk fv xs, by rw [← h]; rfl, by simp⟩
    · rename_i h
      have hne : fk x.2.1 ≠ fk k := fun e => h (T.inj _ _ e)
      rcases getM_ok T z k xs with ⟨h1, pre, s, post, h2, h3⟩ | ⟨h1, h2, h3⟩
      · refine .inl ⟨h1, (x.1, fk x.2.1, fv x.2.2) :: pre, s, post, by rw [List.cons_append, ← h2]; rfl, fun y hy => ?_⟩
        rcases List.mem_cons.1 hy with rfl | hy
        · exact hne
        · exact h3 y hy
      · refine .inr ⟨h1, h2, fun y hy => ?_⟩
        rcases List.mem_cons.1 hy with rfl | hy
        · exact hne
        · exact h3 y hy
theorem mget_ok (T : KeyT P kt fk) (fv : V → D) (z : V) (m : MP K V) (k : K) : MGet P kt (fv z) (MP.dl fk fv m) (fk k) (fv (mgetE z m k).1) (mgetE z m k).2 := ⟨dl_ok T m.es, T.ok k, getM_ok T z k m.es⟩
theorem putM_ok (T : KeyT P kt fk) (clk : Nat) (k : K) (v : V) : ∀ l : List (Nat × K × V), ((putM clk k v l).1 = clk ∧ ∃ (pre : List (Nat × D × D)) (s : Nat) (v0 : D) (post : List (Nat × D × D)), dl fk fv l = pre ++ (s, fk k, v0) :: post ∧ (∀ x ∈ pre, x.2.1 ≠ fk k) ∧ dl fk fv (putM clk k v l).2 = pre ++ (s, fk k, fv v) :: post) ∨ ((putM clk k v l).1 = clk + 1 ∧ dl fk fv (putM clk k v l).2 = dl fk fv l ++ [(clk, fk k, fv v)] ∧ ∀ x ∈ dl fk fv l, x.2.1 ≠ fk k)
  | [] => .inr ⟨rfl, rfl, by simp⟩
  | x :: xs => by
    rw [putM]
    split
    · rename_i h
      exact .inl ⟨rfl, [], x.1, fv x.2.2, dl fk fv xs, by rw [← h]; rfl, by simp, by rw [← h]; rfl⟩
    · rename_i h
      have hne : fk x.2.1 ≠ fk k := fun e => h (T.inj _ _ e)
      rcases putM_ok T clk k v xs with ⟨h1, pre, s, v0, post, h2, h3, h4⟩ | ⟨h1, h2, h3⟩
      · refine .inl ⟨h1, (x.1, fk x.2.1, fv x.2.2) :: pre, s, v0, post, by rw [List.cons_append, ← h2]; rfl, fun y hy => ?_, by rw [List.cons_append, ← h4]; rfl⟩
        rcases List.mem_cons.1 hy with rfl | hy
        · exact hne
        · exact h3 y hy
      · refine .inr ⟨h1, ?_, fun y hy => ?_⟩
        · show (x.1, fk x.2.1, fv x.2.2) :: dl fk fv (putM clk k v xs).2 = _
          rw [h2]; rfl
        · rcases List.mem_cons.1 hy with rfl | hy
          · exact hne
          · exact h3 y hy
theorem mput_ok (T : KeyT P kt fk) (fv : V → D) (m : MP K V) (k : K) (v : V) : MPut P kt (MP.dl fk fv m) (fk k) (fv v) m.clk (MP.dl fk fv (mputE m k v)) (mputE m k v).clk := ⟨dl_ok T m.es, T.ok k, putM_ok T m.clk k v m.es⟩
theorem entM_ok (T : KeyT P kt fk) (clk : Nat) (z : V) (k : K) : ∀ l : List (Nat × K × V), ((entM clk z k l).1.1 = clk ∧ dl fk fv (entM clk z k l).1.2 = dl fk fv l ∧ ∃ (pre post : List (Nat × D × D)), dl fk fv l = pre ++ ((entM clk z k l).2.2, fk k, fv (entM clk z k l).2.1) :: post ∧ ∀ x ∈ pre, x.2.1 ≠ fk k) ∨ ((entM clk z k l).1.1 = clk + 1 ∧ (entM clk z k l).2.2 = clk ∧ fv (entM clk z k l).2.1 = fv z ∧ dl fk fv (entM clk z k l).1.2 = dl fk fv l ++ [(clk, fk k, fv z)] ∧ ∀ x ∈ dl fk fv l, x.2.1 ≠ fk k)
  | [] => .inr ⟨rfl, rfl, rfl, rfl, by simp⟩
  | x :: xs => by
    rw [entM]
    split
    · rename_i h
      exact .inl ⟨rfl, rfl, [], dl fk fv xs, by rw [← h]; rfl, by simp⟩
    · rename_i h
      have hne : fk x.2.1 ≠ fk k := fun e => h (T.inj _ _ e)
      rcases entM_ok T clk z k xs with ⟨h1, h0, pre, post, h2, h3⟩ | ⟨h1, h2, h3, h4, h5⟩
      · refine .inl ⟨h1, ?_, (x.1, fk x.2.1, fv x.2.2) :: pre, post, by rw [List.cons_append, ← h2]; rfl, fun y hy => ?_⟩
        · show (x.1, fk x.2.1, fv x.2.2) :: dl fk fv (entM clk z k xs).1.2 = _
          rw [h0]; rfl
        · rcases List.mem_cons.1 hy with rfl | hy
          · exact hne
          · exact h3 y hy
      · refine .inr ⟨h1, h2, h3, ?_, fun y hy => ?_⟩
        · show (x.1, fk x.2.1, fv x.2.2) :: dl fk fv (entM clk z k xs).1.2 = _
          rw [h4]; rfl
        · rcases List.mem_cons.1 hy with rfl | hy
          · exact hne
          · exact h5 y hy
theorem ment_ok (T : KeyT P kt fk) (fv : V → D) (z : V) (m : MP K V) (k : K) (h : mesE z m k ≤ 4611686018427387904) : MEnt P kt (fv z) (MP.dl fk fv m) (fk k) m.clk (MP.dl fk fv (mentE z m k)) (mentE z m k).clk (fv (mevE z m k)) (mesE z m k) := ⟨dl_ok T m.es, T.ok k, h, entM_ok T m.clk z k m.es⟩
theorem delM_ok (T : KeyT P kt fk) (k : K) : ∀ l : List (Nat × K × V), (∃ (pre : List (Nat × D × D)) (s : Nat) (v0 : D) (post : List (Nat × D × D)), dl fk fv l = pre ++ (s, fk k, v0) :: post ∧ (∀ x ∈ pre, x.2.1 ≠ fk k) ∧ dl fk fv (delM k l) = pre ++ post) ∨ (dl fk fv (delM k l) = dl fk fv l ∧ ∀ x ∈ dl fk fv l, x.2.1 ≠ fk k)
  | [] => .inr ⟨rfl, by simp⟩
  | x :: xs => by
    rw [delM]
    split
    · rename_i h
      exact .inl ⟨[], x.1, fv x.2.2, dl fk fv xs, by rw [← h]; rfl, by simp, rfl⟩
    · rename_i h
      have hne : fk x.2.1 ≠ fk k := fun e => h (T.inj _ _ e)
      rcases delM_ok T k xs with ⟨pre, s, v0, post, h2, h3, h4⟩ | ⟨h2, h3⟩
      · refine .inl ⟨(x.1, fk x.2.1, fv x.2.2) :: pre, s, v0, post, by rw [List.cons_append, ← h2]; rfl, fun y hy => ?_, by rw [List.cons_append, ← h4]; rfl⟩
        rcases List.mem_cons.1 hy with rfl | hy
        · exact hne
        · exact h3 y hy
      · refine .inr ⟨?_, fun y hy => ?_⟩
        · show (x.1, fk x.2.1, fv x.2.2) :: dl fk fv (delM k xs) = _
          rw [h2]; rfl
        · rcases List.mem_cons.1 hy with rfl | hy
          · exact hne
          · exact h3 y hy
theorem mdel_ok (T : KeyT P kt fk) (fv : V → D) (m : MP K V) (k : K) : MDel P kt (MP.dl fk fv m) (fk k) (MP.dl fk fv (mdelE m k)) := ⟨dl_ok T m.es, T.ok k, delM_ok T k m.es⟩
end
theorem keyI {P : Program} {kt : TypeId} {k : IntKind} (hu : P.underlying kt = some (.int k)) : KeyT P kt (D.i k) := ⟨fun a => ⟨_, _, hu, rfl, rfl⟩, fun a b e => by simpa [D.i] using e⟩
theorem keyS {P : Program} {kt : TypeId} (hu : P.underlying kt = some .string) : KeyT P kt D.s := ⟨fun a => ⟨_, _, hu, rfl, trivial⟩, fun a b e => by simpa [D.s] using e⟩
end Go.Ac
