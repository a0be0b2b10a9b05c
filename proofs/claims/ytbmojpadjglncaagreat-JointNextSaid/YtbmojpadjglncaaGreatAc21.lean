/- Own work: how calls of the model run over plain data. -/
import Derived.Test.YtbmojpadjglncaaGreatAc20
import Derived.IntWalk
set_option linter.unusedVariables false
set_option linter.unusedSimpArgs false
namespace Go.Ac
def D.i (k : IntKind) (n : Int) : D := .v (.int k n)
def D.b (b : Bool) : D := .v (.bool b)
def D.s (l : List UInt8) : D := .v (.string ⟨⟨l⟩⟩)
def D.l {α : Type} (f : α → D) (xs : List α) : D := .sl (xs.map f)
def cellsA (x : D) : List A := x.cells.map .d
def sp : Nat → Nat → List (Nat × A) → List A
  | 0, _, _ => []
  | n + 1, i, [] => .any :: sp n (i + 1) []
  | n + 1, i, (j, a) :: l => if Nat.beq j i then a :: sp n (i + 1) l else .any :: sp n (i + 1) ((j, a) :: l)
class HasNc {α : Type} (f : α → D) (k : outParam Nat) : Prop where
  h : ∀ x, (f x).nc = k
instance (k : IntKind) : HasNc (D.i k) 1 := ⟨fun _ => rfl⟩
instance : HasNc D.b 1 := ⟨fun _ => rfl⟩
instance : HasNc D.s 1 := ⟨fun _ => rfl⟩
instance : HasNc dbyte 1 := ⟨fun _ => rfl⟩
instance {α : Type} (f : α → D) : HasNc (D.l f) 1 := ⟨fun _ => rfl⟩

section
variable {α β : Type}
theorem nc_ok (f : α → D) {k : Nat} [HasNc f k] (l : List α) : ∀ y ∈ l.map f, y.nc = k := by
  intro y hy
  obtain ⟨x, _, rfl⟩ := List.mem_map.1 hy
  exact HasNc.h x
theorem elem_map (f : α → D) {xs : List α} {i : Int} {x : α} (h : 0 ≤ i ∧ xs[i.toNat]? = some x) : 0 ≤ i ∧ (xs.map f)[i.toNat]? = some (f x) :=
  ⟨h.1, by rw [List.getElem?_map, h.2]; rfl⟩
theorem len_map (f : α → D) (xs : List α) : ((xs.map f).length : Int) = (xs.length : Int) := by rw [List.length_map]
theorem len_str (l : List UInt8) : ((ByteArray.mk ⟨l⟩).size : Int) = (l.length : Int) := rfl
theorem byte_ok {l : List UInt8} {i : Int} {x : UInt8} (h : 0 ≤ i ∧ l[i.toNat]? = some x) : 0 ≤ i ∧ ∃ c : UInt8, (ByteArray.mk ⟨l⟩).data.toList[i.toNat]? = some c ∧ (c.toNat : Int) = (x.toNat : Int) :=
  ⟨h.1, x, h.2, rfl⟩
def fit (a b n : Nat) : Prop := (a + b) * n ≤ 140737488355328
instance (a b n : Nat) : Decidable (fit a b n) := inferInstanceAs (Decidable (_ ≤ _))
theorem fit_map (f : α → D) {xs ys : List α} {n : Nat} (h : fit xs.length ys.length n) : ((xs.map f).length + (ys.map f).length) * n ≤ 140737488355328 := by
  rw [List.length_map, List.length_map]; exact h
theorem fit_nil (f : α → D) {ys : List α} {n : Nat} (h : fit 0 ys.length n) : (([] : List D).length + (ys.map f).length) * n ≤ 140737488355328 := by
  rw [List.length_map]; exact h
theorem app_map (f : α → D) (xs ys : List α) : xs.map f ++ ys.map f = (xs ++ ys).map f := (List.map_append).symm
def sub (xs : List α) (l h : Int) : List α := (xs.take h.toNat).drop l.toNat
theorem cut_some (f : α → D) {k : Nat} [HasNc f k] {xs : List α} {l h : Int} (hh : 0 ≤ l ∧ l ≤ h ∧ h ≤ xs.length) :
    0 ≤ l ∧ l ≤ (some h).getD ((xs.map f).length : Int) ∧ (some h).getD ((xs.map f).length : Int) ≤ ((xs.map f).length : Int) ∧ (∀ y ∈ xs.map f, y.nc = k) ∧
      ((xs.map f).take ((some h).getD ((xs.map f).length : Int)).toNat).drop l.toNat = (sub xs l h).map f := by
  refine ⟨hh.1, hh.2.1, by rw [List.length_map]; exact hh.2.2, nc_ok f xs, ?_⟩
  simp only [Option.getD_some, sub, List.map_drop, List.map_take]
theorem cut_none (f : α → D) {k : Nat} [HasNc f k] {xs : List α} {l : Int} (hh : 0 ≤ l ∧ l ≤ (xs.length : Int) ∧ (xs.length : Int) ≤ xs.length) :
    0 ≤ l ∧ l ≤ (none : Option Int).getD ((xs.map f).length : Int) ∧ (none : Option Int).getD ((xs.map f).length : Int) ≤ ((xs.map f).length : Int) ∧ (∀ y ∈ xs.map f, y.nc = k) ∧
      ((xs.map f).take ((none : Option Int).getD ((xs.map f).length : Int)).toNat).drop l.toNat = (sub xs l (xs.length : Int)).map f := by
  refine ⟨hh.1, by simp only [Option.getD_none, List.length_map]; exact hh.2.1, Int.le_refl _, nc_ok f xs, ?_⟩
  simp only [Option.getD_none, sub, List.map_drop, List.map_take, List.length_map, Int.toNat_natCast]
theorem scut_some {s : List UInt8} {l h : Int} (hh : 0 ≤ l ∧ l ≤ h ∧ h ≤ s.length) :
    0 ≤ l ∧ l ≤ (some h).getD ((ByteArray.mk ⟨s⟩).size : Int) ∧ (some h).getD ((ByteArray.mk ⟨s⟩).size : Int) ≤ ((ByteArray.mk ⟨s⟩).size : Int) ∧
      (ByteArray.mk ⟨s⟩).extract l.toNat ((some h).getD ((ByteArray.mk ⟨s⟩).size : Int)).toNat = ⟨⟨sub s l h⟩⟩ := by
  refine ⟨hh.1, hh.2.1, hh.2.2, ?_⟩
  apply ByteArray.ext
  simp only [Option.getD_some, sub, ByteArray.data_extract]
  apply Array.ext'
  simp [List.extract, List.drop_take]
theorem scut_none {s : List UInt8} {l : Int} (hh : 0 ≤ l ∧ l ≤ (s.length : Int) ∧ (s.length : Int) ≤ s.length) :
    0 ≤ l ∧ l ≤ (none : Option Int).getD ((ByteArray.mk ⟨s⟩).size : Int) ∧ (none : Option Int).getD ((ByteArray.mk ⟨s⟩).size : Int) ≤ ((ByteArray.mk ⟨s⟩).size : Int) ∧
      (ByteArray.mk ⟨s⟩).extract l.toNat ((none : Option Int).getD ((ByteArray.mk ⟨s⟩).size : Int)).toNat = ⟨⟨sub s l (s.length : Int)⟩⟩ := by
  refine ⟨hh.1, hh.2.1, Int.le_refl _, ?_⟩
  apply ByteArray.ext
  simp only [Option.getD_none, sub, ByteArray.data_extract]
  apply Array.ext'
  have e : (ByteArray.mk ⟨s⟩).size = s.length := rfl
  simp [List.extract, e]
  exact List.take_of_length_le (by simp)
theorem sapp_ok {a b : List UInt8} (h : a.length + b.length ≤ 9223372036854775807) : (ByteArray.mk ⟨a⟩).size + (ByteArray.mk ⟨b⟩).size ≤ 9223372036854775807 ∧ ByteArray.mk ⟨a⟩ ++ ByteArray.mk ⟨b⟩ = ⟨⟨a ++ b⟩⟩ := by
  refine ⟨h, ?_⟩
  apply ByteArray.ext
  simp
def u8w (n : Int) : UInt8 := UInt8.ofNat (n % 256).toNat
theorem u8w_ok (n : Int) : IntKind.u8.wrap n = ((u8w n).toNat : Int) := by
  have h : IntKind.u8.wrap n = n % 256 := by simp [IntKind.wrap, IntKind.signed, IntKind.bits]
  rw [h]
  unfold u8w
  rw [UInt8.toNat_ofNat']
  omega
def u8i (n : Int) : UInt8 := u8w n
theorem u8i_wrap (n : Int) : IntKind.u8.wrap n = ((u8i (IntKind.u8.wrap n)).toNat : Int) := by
  unfold u8i
  rw [← u8w_ok]
  have h : ∀ m, IntKind.u8.wrap m = m % 256 := fun m => by simp [IntKind.wrap, IntKind.signed, IntKind.bits]
  rw [h, h]
  omega
theorem u8i_add (a b : Int) : intVal .add .u8 a b = ((u8i (intVal .add .u8 a b)).toNat : Int) := u8i_wrap _
theorem u8i_sub (a b : Int) : intVal .sub .u8 a b = ((u8i (intVal .sub .u8 a b)).toNat : Int) := u8i_wrap _
theorem u8i_mul (a b : Int) : intVal .mul .u8 a b = ((u8i (intVal .mul .u8 a b)).toNat : Int) := u8i_wrap _
theorem u8i_quo (a b : Int) : intVal .quo .u8 a b = ((u8i (intVal .quo .u8 a b)).toNat : Int) := u8i_wrap _
theorem u8i_rem (c : UInt8) (b : Int) : intVal .rem .u8 (c.toNat : Int) b = ((u8i (intVal .rem .u8 (c.toNat : Int) b)).toNat : Int) := by
  have h1 : intVal .rem .u8 (c.toNat : Int) b = (c.toNat : Int).tmod b := rfl
  have h2 : 0 ≤ (c.toNat : Int).tmod b := Int.tmod_nonneg _ (by omega)
  have h3 : (c.toNat : Int).tmod b ≤ (c.toNat : Int) := by
    rw [← Int.natAbs_of_nonneg h2, Int.natAbs_tmod]
    have := Nat.mod_le (c.toNat : Int).natAbs b.natAbs
    simp at this ⊢
    omega
  have h4 := c.toNat_lt
  rw [h1]
  unfold u8i
  rw [← u8w_ok]
  have h : ∀ m, IntKind.u8.wrap m = m % 256 := fun m => by simp [IntKind.wrap, IntKind.signed, IntKind.bits]
  rw [h]
  omega
theorem wrap_u8_u8 (c : UInt8) : IntKind.u8.wrap (c.toNat : Int) = (c.toNat : Int) := by
  have := c.toNat_lt
  simp [IntKind.wrap, IntKind.signed, IntKind.bits]; omega
theorem wrap_u8_i64 (c : UInt8) : IntKind.i64.wrap (c.toNat : Int) = (c.toNat : Int) := by
  have := c.toNat_lt
  exact IntWalk.i64_in _ ⟨by omega, by omega⟩
theorem wrap_u8_u64 (c : UInt8) : IntKind.u64.wrap (c.toNat : Int) = (c.toNat : Int) := by
  have := c.toNat_lt
  simp [IntKind.wrap, IntKind.signed, IntKind.bits]; omega
theorem wrap_u8_u32 (c : UInt8) : IntKind.u32.wrap (c.toNat : Int) = (c.toNat : Int) := by
  have := c.toNat_lt
  simp [IntKind.wrap, IntKind.signed, IntKind.bits]; omega
theorem wrap_u8_i32 (c : UInt8) : IntKind.i32.wrap (c.toNat : Int) = (c.toNat : Int) := by
  have := c.toNat_lt
  simp [IntKind.wrap, IntKind.signed, IntKind.bits]; omega
def minE (a b : Int) : Int := if b < a then b else a
def maxE (a b : Int) : Int := if a < b then b else a
def sumE {γ : Type} (o : α ⊕ β) (f : α → Option γ) (g : β → Option γ) : Option γ := match o with
  | .inl a => f a
  | .inr b => g b
theorem sumE_some {γ : Type} {o : α ⊕ β} {f : α → Option γ} {g : β → Option γ} {r : γ} (h : sumE o f g = some r) : (∃ a, o = .inl a ∧ f a = some r) ∨ (∃ b, o = .inr b ∧ g b = some r) := by
  cases o with
  | inl a => exact .inl ⟨a, rfl, h⟩
  | inr b => exact .inr ⟨b, rfl, h⟩
end
def isN : Ex → Bool
  | .normal => true
  | _ => false
theorem isN_ne {e : Ex} (h : isN e = false) : e ≠ .normal := by
  intro hh
  rw [hh] at h
  cases h
end Go.Ac
namespace Go.Ac
section
variable {α : Type}
theorem elem_ep (f : α → D) {xs : List α} {i : Int} {x : α} (h : 0 ≤ i ∧ xs[i.toNat]? = some x) : 0 ≤ (i.toNat : Int) ∧ (xs.map f)[(i.toNat : Int).toNat]? = some (f x) :=
  ⟨by omega, by rw [Int.toNat_natCast, List.getElem?_map, h.2]; rfl⟩
theorem le_map (f : α → D) {xs : List α} {i : Int} (h : i + 1 ≤ (xs.length : Int)) : i + 1 ≤ ((xs.map f).length : Int) := by
  rw [List.length_map]; exact h
theorem le_ep (f : α → D) {xs : List α} {i : Int} (h : 0 ≤ i ∧ i + 1 ≤ (xs.length : Int)) : (i.toNat : Int) + 1 ≤ ((xs.map f).length : Int) := by
  rw [List.length_map]; omega
theorem upd_map (f : α → D) (xs : List α) (i : Int) (x : α) : (xs.map f).set i.toNat (f x) = (xs.set i.toNat x).map f := by
  rw [List.map_set]
theorem mk_app (f : α → D) (n : Int) (x : α) : ([] : List D) ++ List.replicate n.toNat (f x) = (List.replicate n.toNat x).map f := by
  rw [List.map_replicate]; rfl
theorem mk_fit (f : α → D) {n : Int} (x : α) {b : Nat} (h : fit 0 n.toNat b) : (([] : List D).length + (List.replicate n.toNat (f x)).length) * b ≤ 140737488355328 := by
  rw [List.length_replicate]; exact h
theorem copy_app (f : α → D) (xs ys : List α) : (ys.map f).take (xs.map f).length ++ (xs.map f).drop (ys.map f).length = (ys.take xs.length ++ xs.drop ys.length).map f := by
  rw [List.length_map, List.length_map, List.map_append, List.map_take, List.map_drop]
theorem len_eq (f : α → D) {xs : List α} {n : Nat} (h : xs.length = n) : (((xs.map f).length : Nat) : Int) = (n : Int) := by
  rw [List.length_map, h]
end
end Go.Ac
namespace Go.Ac
section
variable {φ β : Type}
def yldE (x : Option (φ × Bool)) (a b : φ → Option β) : Option β := match x with
  | some (f, true) => a f
  | some (f, false) => b f
  | none => none
theorem yldE_some {x : Option (φ × Bool)} {a b : φ → Option β} {r : β} (h : yldE x a b = some r) : (∃ f, x = some (f, true) ∧ a f = some r) ∨ (∃ f, x = some (f, false) ∧ b f = some r) := by
  unfold yldE at h
  split at h
  · exact .inl ⟨_, rfl, h⟩
  · exact .inr ⟨_, rfl, h⟩
  · cases h
end
end Go.Ac
