/- Own work, printed: the functions compute these. -/
import Derived.Test.YtbmojpadjglncaaGreatWa22znx1
set_option linter.unusedVariables false
set_option linter.unusedSimpArgs false
set_option linter.unusedVariables false
set_option linter.unusedSimpArgs false
namespace Go.Ac
open Go.Proofs
theorem ref22_Next_b5_ok (rd : Option Nat) {s1 : Int} {s2 : Int} {s7 : Int} {s8 : Int} {s9 : Int} {s10 : Int} {s49 : Bool} {w3 : TQea} {w11 : TTrans} {o : Int} (h : ref22_Next_b5 s1 s2 s7 s8 s9 s10 s49 w3 w11 = some o) : LpOfR Tryz.prog rd (fbody Tryz.prog 9) [1, 1, 0, 0, 1, 0, 0, 1, 0, 1, 1, 0, 0, 1, 0, 0, 1, 0, 1, 1] (ref22_Next_b5_I s1 s2 s7 s8 s9 s10 s49 w3 w11) (ref22_Next_b5_O s1 s2 s7 s8 s9 s10 s49 w3 w11 o) := by
  unfold ref22_Next_b5 at h
  apply g0 (o := o)
  cases s49
  replace h := iteF h
  exact lP h (lv [1,2,3,7,8,9,10] [3])
  replace h := iteT h
  obtain ⟨h9, h⟩ := cS h
  refine gQ h9 ?_
  exact lP h (lv [1,2,3,7,8,9,10] [3])
def ref22_Next_b4_I (s1 : Int) (s2 : Int) (s7 : Int) (s8 : Int) (s9 : Int) (s10 : Int) (w3 : TQea) : St := ⟨sp 74 0 [(1, .d ((D.i .u32) s1)), (2, .d ((D.i .u64) s2)), (3, .box 3 0), (7, .d ((D.i .u32) s7)), (8, dI s8), (9, .d ((D.i .u32) s9)), (10, dI s10)], [(3, .cells ((cellsA (TQea.D w3))))], []⟩
def ref22_Next_b4_O (s1 : Int) (s2 : Int) (s7 : Int) (s8 : Int) (s9 : Int) (s10 : Int) (w3 : TQea) (o : Int) : Ex × St := (.normal, ⟨sp 74 0 [(1, .d ((D.i .u32) s1)), (2, .d ((D.i .u64) s2)), (3, .box 3 0), (7, .d ((D.i .u32) s7)), (8, dI s8), (9, .d ((D.i .u32) o)), (10, dI s10)], [(3, .cells ((cellsA (TQea.D w3))))], []⟩)
theorem ref22_Next_b4_ok (rd : Option Nat) {s1 : Int} {s2 : Int} {s7 : Int} {s8 : Int} {s9 : Int} {s10 : Int} {w3 : TQea} {o : Int} (h : ref22_Next_b4 s1 s2 s7 s8 s9 s10 w3 = some o) : LpOfR Tryz.prog rd (fbody Tryz.prog 9) [0, 1, 0, 0, 1, 0, 1, 1, 0, 0, 1, 0, 0, 1, 0, 1, 1] (ref22_Next_b4_I s1 s2 s7 s8 s9 s10 w3) (ref22_Next_b4_O s1 s2 s7 s8 s9 s10 w3 o) := by
  unfold ref22_Next_b4 at h
  apply g0 (o := o)
  refine xX 35 TTrans.D h fun x1 h => ?_
  refine iB 41 h (fun h => ?_) fun h => ?_
  obtain ⟨h7, h⟩ := cS h
  refine gQ h7 <| gQ (of_decide_eq_true rfl : (2 : Int) ≠ 0) ?_
  obtain ⟨o2, h10, h⟩ := bS h
  refine gL (lv [1,2,3,7,8,9,10,11,49] [3,11]) (ref22_Next_b5_ok rd h10) ?_
  exact lP h (lv [1,2,3,7,8,9,10] [3])
  obtain ⟨o3, h11, h⟩ := bS h
  refine gL (lv [1,2,3,7,8,9,10,11,49] [3,11]) (ref22_Next_b5_ok rd h11) ?_
  exact lP h (lv [1,2,3,7,8,9,10] [3])
def ref22_Next_l3_I (s1 : Int) (s2 : Int) (s7 : Int) (s8 : Int) (w3 : TQea) (s9 : Int) (s10 : Int) : St := ⟨sp 74 0 [(1, .d ((D.i .u32) s1)), (2, .d ((D.i .u64) s2)), (3, .box 3 0), (7, .d ((D.i .u32) s7)), (8, dI s8), (9, .d ((D.i .u32) s9)), (10, dI s10)], [(3, .cells ((cellsA (TQea.D w3))))], []⟩
def ref22_Next_l3_O (s1 : Int) (s2 : Int) (s7 : Int) (s8 : Int) (w3 : TQea) (o : Int) : Ex × St := (.exit 2, ⟨sp 74 0 [(1, .d ((D.i .u32) s1)), (2, .d ((D.i .u64) s2)), (3, .box 3 0), (7, .d ((D.i .u32) s7)), (8, dI s8), (9, .d ((D.i .u32) o))], [(3, .cells ((cellsA (TQea.D w3))))], []⟩)
theorem ref22_Next_l3_ok (rd : Option Nat) {s1 : Int} {s2 : Int} {s7 : Int} {s8 : Int} {w3 : TQea} {s9 : Int} {s10 : Int} {t : Int} (h : ref22_Next_l3 s1 s2 s7 s8 w3 s9 s10 = some t) : LpOfR Tryz.prog rd (fbody Tryz.prog 9) [0, 1, 0, 1, 1, 0, 0, 1, 0, 0, 1, 0, 1, 1] (ref22_Next_l3_I s1 s2 s7 s8 w3 s9 s10) ((ref22_Next_l3_O s1 s2 s7 s8 w3) t) :=
  loopE_lpR (fun s : Int × Int => ref22_Next_l3_I s1 s2 s7 s8 w3 s.1 s.2) (ref22_Next_l3_O s1 s2 s7 s8 w3) (by kernel_rfl) (fun t => isN_ne (by rfl)) (fun ⟨s9, s10⟩ o h => by
  replace h : ref22_Next_l3_s s1 s2 s7 s8 w3 s9 s10 = some o := h
  unfold ref22_Next_l3_s at h
  apply g0 (o := o)
  refine gN 28 TTrans.D w3.trans ?_
  refine iB 29 h (fun h => ?_) fun h => ?_
  obtain ⟨o4, h12, h⟩ := bS h
  refine gL (lv [1,2,3,7,8,9,10] [3]) (ref22_Next_b4_ok rd h12) ?_
  exact lB h (lv [1,2,3,7,8,9,10] [3])
  exact lB h (lv [1,2,3,7,8,9] [3])) (s := (s9, s10)) (t := t) h
def ref22_Next_b6_I (s1 : Int) (s2 : Int) (s7 : Int) (s8 : Int) (s9 : Int) (s66 : Bool) (w3 : TQea) : St := ⟨sp 74 0 [(1, .d ((D.i .u32) s1)), (2, .d ((D.i .u64) s2)), (3, .box 3 0), (7, .d ((D.i .u32) s7)), (8, dI s8), (9, .d ((D.i .u32) s9)), (66, .d (D.b s66))], [(3, .cells ((cellsA (TQea.D w3))))], []⟩
def ref22_Next_b6_O (s1 : Int) (s2 : Int) (s7 : Int) (s8 : Int) (s9 : Int) (s66 : Bool) (w3 : TQea) (o : Int) : Ex × St := (.normal, ⟨sp 74 0 [(1, .d ((D.i .u32) s1)), (2, .d ((D.i .u64) s2)), (3, .box 3 0), (7, .d ((D.i .u32) s7)), (8, dI s8), (9, .d ((D.i .u32) o))], [(3, .cells ((cellsA (TQea.D w3))))], []⟩)
theorem ref22_Next_b6_ok (rd : Option Nat) {s1 : Int} {s2 : Int} {s7 : Int} {s8 : Int} {s9 : Int} {s66 : Bool} {w3 : TQea} {o : Int} (h : ref22_Next_b6 s1 s2 s7 s8 s9 s66 w3 = some o) : LpOfR Tryz.prog rd (fbody Tryz.prog 9) [1, 0, 1, 1, 1, 0, 0, 1, 0, 0, 1, 0, 1, 1] (ref22_Next_b6_I s1 s2 s7 s8 s9 s66 w3) (ref22_Next_b6_O s1 s2 s7 s8 s9 s66 w3 o) := by
  unfold ref22_Next_b6 at h
  apply g0 (o := o)
  cases s66
  replace h := iteF h
  exact lP h (lv [1,2,3,7,8,9] [3])
  replace h := iteT h
  obtain ⟨h17, h⟩ := cS h
  refine gQ h17 ?_
  exact lP h (lv [1,2,3,7,8,9] [3])
def ref22_Next_b2_I (s1 : Int) (s2 : Int) (s7 : Int) (s8 : Int) (w3 : TQea) : St := ⟨sp 74 0 [(1, .d ((D.i .u32) s1)), (2, .d ((D.i .u64) s2)), (3, .box 3 0), (7, .d ((D.i .u32) s7)), (8, dI s8)], [(3, .cells ((cellsA (TQea.D w3))))], []⟩
def ref22_Next_b2_O (s1 : Int) (s2 : Int) (s7 : Int) (s8 : Int) (w3 : TQea) (o : Int) : Ex × St := (.normal, ⟨sp 74 0 [(1, .d ((D.i .u32) s1)), (2, .d ((D.i .u64) s2)), (3, .box 3 0), (7, .d ((D.i .u32) o)), (8, dI s8)], [(3, .cells ((cellsA (TQea.D w3))))], []⟩)
theorem ref22_Next_b2_ok (rd : Option Nat) {s1 : Int} {s2 : Int} {s7 : Int} {s8 : Int} {w3 : TQea} {o : Int} (h : ref22_Next_b2 s1 s2 s7 s8 w3 = some o) : LpOfR Tryz.prog rd (fbody Tryz.prog 9) [0, 1, 0, 0, 1, 0, 1, 1] (ref22_Next_b2_I s1 s2 s7 s8 w3) (ref22_Next_b2_O s1 s2 s7 s8 w3 o) := by
  unfold ref22_Next_b2 at h
  apply g0 (o := o)
  obtain ⟨h2, h⟩ := cS h
  refine gQ h2 <| gQ (of_decide_eq_true rfl : (2 : Int) ≠ 0) ?_
  refine iB 24 h (fun h => ?_) fun h => ?_
  exact lP h (lv [1,2,3,7,8] [3])
  obtain ⟨o5, h13, h⟩ := bS h
  refine gL (lv [1,2,3,7,8,9,10] [3]) (ref22_Next_l3_ok rd h13) ?_
  refine iB 58 h (fun h => ?_) fun h => ?_
  refine xX 62 TState.D h fun x6 h => ?_
  obtain ⟨o7, h18, h⟩ := bS h
  refine gL (lv [1,2,3,7,8,9,66] [3]) (ref22_Next_b6_ok rd h18) ?_
  exact lP h (lv [1,2,3,7,8] [3])
  obtain ⟨o8, h19, h⟩ := bS h
  refine gL (lv [1,2,3,7,8,9,66] [3]) (ref22_Next_b6_ok rd h19) ?_
  exact lP h (lv [1,2,3,7,8] [3])
def ref22_Next_l1_I (s1 : Int) (s2 : Int) (w3 : TQea) (s7 : Int) (s8 : Int) : St := ⟨sp 74 0 [(1, .d ((D.i .u32) s1)), (2, .d ((D.i .u64) s2)), (3, .box 3 0), (7, .d ((D.i .u32) s7)), (8, dI s8)], [(3, .cells ((cellsA (TQea.D w3))))], []⟩
def ref22_Next_l1_O (s1 : Int) (s2 : Int) (w3 : TQea) (o : Int) : Ex × St := (.exit 0, ⟨sp 74 0 [(7, .d ((D.i .u32) o))], [], []⟩)
theorem ref22_Next_l1_ok (rd : Option Nat) {s1 : Int} {s2 : Int} {w3 : TQea} {s7 : Int} {s8 : Int} {t : Int} (h : ref22_Next_l1 s1 s2 w3 s7 s8 = some t) : LpOfR Tryz.prog rd (fbody Tryz.prog 9) [0, 1, 0, 1, 1] (ref22_Next_l1_I s1 s2 w3 s7 s8) ((ref22_Next_l1_O s1 s2 w3) t) :=
  loopE_lpR (fun s : Int × Int => ref22_Next_l1_I s1 s2 w3 s.1 s.2) (ref22_Next_l1_O s1 s2 w3) (by kernel_rfl) (fun t => isN_ne (by rfl)) (fun ⟨s7, s8⟩ o h => by
  replace h : ref22_Next_l1_s s1 s2 w3 s7 s8 = some o := h
  unfold ref22_Next_l1_s at h
  apply g0 (o := o)
  refine gN 15 TState.D w3.states ?_
  refine iB 16 h (fun h => ?_) fun h => ?_
  obtain ⟨o9, h20, h⟩ := bS h
  refine gL (lv [1,2,3,7,8] [3]) (ref22_Next_b2_ok rd h20) ?_
  exact lB h (lv [1,2,3,7,8] [3])
  exact lB h (lv [7] [])) (s := (s7, s8)) (t := t) h
theorem ref22_Next_ok {a0 : TQea} {a1 : Int} {a2 : Int} {r : Int} (h : ref22_Next a0 a1 a2 = some r) : ACall Tryz.prog 9 [.d (TQea.D a0), .d ((D.i .u32) a1), .d ((D.i .u64) a2)] [] (.d ((D.i .u32) r)) [] := by
  unfold ref22_Next at h
  apply g0 (o := r)
  obtain ⟨o10, h21, h⟩ := bS h
  refine gL (lv [1,2,3,7,8] [3]) (ref22_Next_l1_ok none h21) ?_
  exact lF h []
def ref05_Get_l1_I (s0 : List TSlot) (s1 : Int) (w4 : TValue) (s6 : Int) : St := ⟨sp 26 0 [(0, .d ((D.l TSlot.D) s0)), (1, dI s1), (4, .box 4 0), (6, dI s6)], [(4, .cells ((cellsA (TValue.D w4))))], []⟩
def ref05_Get_l1_O (s0 : List TSlot) (s1 : Int) (w4 : TValue) (o : Unit ⊕ TValue) : Ex × St := match o with
  | .inl o => (.exit 0, ⟨sp 26 0 [(4, .box 4 0)], [(4, .cells ((cellsA (TValue.D w4))))], []⟩)
  | .inr o => (.ret, ⟨sp 26 0 [(4, .box 4 0), (5, .d (D.b true))], [(4, .cells ((cellsA (TValue.D o))))], []⟩)
theorem ref05_Get_l1_ok (rd : Option Nat) {s0 : List TSlot} {s1 : Int} {w4 : TValue} {s6 : Int} {t : Unit ⊕ TValue} (h : ref05_Get_l1 s0 s1 w4 s6 = some t) : LpOfR Tryz.prog rd (fbody Tryz.prog 45) [0, 1, 0, 1] (ref05_Get_l1_I s0 s1 w4 s6) ((ref05_Get_l1_O s0 s1 w4) t) :=
  loopE_lpR (fun s : Int => ref05_Get_l1_I s0 s1 w4 s) (ref05_Get_l1_O s0 s1 w4) (by kernel_rfl) (fun t => isN_ne (by rcases t with (_ | _) <;> rfl)) (fun s6 o h => by
  replace h : ref05_Get_l1_s s0 s1 w4 s6 = some o := h
  unfold ref05_Get_l1_s at h
  apply g0 (o := o)
  refine gN 9 TSlot.D s0 ?_
  refine iB 10 h (fun h => ?_) fun h => ?_
  refine xX 15 TSlot.D h fun x1 h => ?_
  refine iB 19 h (fun h => ?_) fun h => ?_
  refine xX 22 TSlot.D h fun x2 h => ?_
  exact lB h (lv [4,5] [4])
  exact lB h (lv [0,1,4,6] [4])
  exact lB h (lv [4] [4])) (s := s6) (t := t) h
theorem ref05_Get_ok {a0 : List TSlot} {a1 : Int} {r : TValue × Bool} (h : ref05_Get a0 a1 = some r) : ACall Tryz.prog 45 [.d ((D.l TSlot.D) a0), dI a1] [] (.tup [.d (TValue.D r.1), .d (D.b r.2)]) [] := by
  unfold ref05_Get at h
  apply g0 (o := r)
  obtain ⟨o3, h5, h⟩ := bS h
  refine gL (lv [0,1,4,6] [4]) (ref05_Get_l1_ok none h5) ?_
  rcases sumE_some h with ⟨o4, rfl, h⟩ | ⟨o5, rfl, h⟩
  exact lF h []
  exact lF h []
def ref05_Fits_l1_I (s0 : List TSlot) (s1 : List TSlot) (s5 : Int) : St := ⟨sp 34 0 [(0, .d ((D.l TSlot.D) s0)), (1, .d ((D.l TSlot.D) s1)), (5, dI s5)], [], []⟩
def ref05_Fits_l1_O (s0 : List TSlot) (s1 : List TSlot) (o : Unit ⊕ Unit) : Ex × St := match o with
  | .inl o => (.exit 0, ⟨sp 34 0 [], [], []⟩)
  | .inr o => (.ret, ⟨sp 34 0 [(4, .d (D.b false))], [], []⟩)
theorem ref05_Fits_l1_ok (rd : Option Nat) {s0 : List TSlot} {s1 : List TSlot} {s5 : Int} {t : Unit ⊕ Unit} (h : ref05_Fits_l1 s0 s1 s5 = some t) : LpOfR Tryz.prog rd (fbody Tryz.prog 46) [0, 1, 0, 1] (ref05_Fits_l1_I s0 s1 s5) ((ref05_Fits_l1_O s0 s1) t) :=
  loopE_lpR (fun s : Int => ref05_Fits_l1_I s0 s1 s) (ref05_Fits_l1_O s0 s1) (by kernel_rfl) (fun t => isN_ne (by rcases t with (_ | _) <;> rfl)) (fun s5 o h => by
  replace h : ref05_Fits_l1_s s0 s1 s5 = some o := h
  unfold ref05_Fits_l1_s at h
  apply g0 (o := o)
  refine gN 10 TSlot.D s0 ?_
  refine iB 11 h (fun h => ?_) fun h => ?_
  refine xX 18 TSlot.D h fun x1 h => ?_
  obtain ⟨r2, h3, h⟩ := bS h
  refine gC 21 (ref05_Get_ok h3) ?_
  refine iB 25 h (fun h => ?_) fun h => ?_
  refine xX 29 TSlot.D h fun x3 h => ?_
  refine iB 33 h (fun h => ?_) fun h => ?_
  exact lB h (lv [4] [])
  exact lB h (lv [0,1,5] [])
  exact lB h (lv [0,1,5] [])
  exact lB h (lv [] [])) (s := s5) (t := t) h
theorem ref05_Fits_ok {a0 : List TSlot} {a1 : List TSlot} {r : Bool} (h : ref05_Fits a0 a1 = some r) : ACall Tryz.prog 46 [.d ((D.l TSlot.D) a0), .d ((D.l TSlot.D) a1)] [] (.d (D.b r)) [] := by
  unfold ref05_Fits at h
  apply g0 (o := r)
  obtain ⟨o4, h7, h⟩ := bS h
  refine gL (lv [0,1,5] []) (ref05_Fits_l1_ok none h7) ?_
  rcases sumE_some h with ⟨o5, rfl, h⟩ | ⟨o6, rfl, h⟩
  exact lF h []
  exact lF h []
def ref05_Union_b7_I (s0 : List TSlot) (s1 : List TSlot) (s6 : Int) (s34 : Bool) (w5 : List TSlot) (w9 : TValue) : St := ⟨sp 42 0 [(0, .d ((D.l TSlot.D) s0)), (1, .d ((D.l TSlot.D) s1)), (5, .row 5), (6, dI s6), (9, .box 9 0), (34, .d (D.b s34))], [(5, .row 65 5 (w5.map TSlot.D)), (9, .cells ((cellsA (TValue.D w9))))], []⟩
def ref05_Union_b7_O (s0 : List TSlot) (s1 : List TSlot) (s6 : Int) (s34 : Bool) (w5 : List TSlot) (w9 : TValue) (o : (List TSlot)) : Ex × St := (.normal, ⟨sp 42 0 [(0, .d ((D.l TSlot.D) s0)), (1, .d ((D.l TSlot.D) s1)), (5, .row 5), (6, dI s6)], [(5, .row 65 5 (o.map TSlot.D))], []⟩)
theorem ref05_Union_b7_ok (rd : Option Nat) {s0 : List TSlot} {s1 : List TSlot} {s6 : Int} {s34 : Bool} {w5 : List TSlot} {w9 : TValue} {o : (List TSlot)} (h : ref05_Union_b7 s0 s1 s6 s34 w5 w9 = some o) : LpOfR Tryz.prog rd (fbody Tryz.prog 47) [1, 1, 1, 1, 1, 0, 0, 1, 0, 0, 1, 0, 1, 1] (ref05_Union_b7_I s0 s1 s6 s34 w5 w9) (ref05_Union_b7_O s0 s1 s6 s34 w5 w9 o) := by
  unfold ref05_Union_b7 at h
  apply g0 (o := o)
  cases s34
  replace h := iteF h
  exact lP h (lv [0,1,5,6] [5])
  replace h := iteT h
  refine gQ (nc_ok TSlot.D [TSlot.mk s6 w9]) <| gG 40 (.sl ((w5 ++ [TSlot.mk s6 w9]).map TSlot.D)) (nc_ok TSlot.D [TSlot.mk s6 w9]) ?_
  obtain ⟨h17, h⟩ := cS h
  refine gQ (fit_map TSlot.D h17) <| gQ (app_map TSlot.D w5 [TSlot.mk s6 w9]) ?_
  exact lP h [.live [0,1,5,6], .keep [40], .ren 40 5, .sort]
def ref05_Union_b6_I (s0 : List TSlot) (s1 : List TSlot) (s6 : Int) (s10 : Bool) (s27 : Bool) (w5 : List TSlot) (w7 : TValue) (w9 : TValue) : St := ⟨sp 42 0 [(0, .d ((D.l TSlot.D) s0)), (1, .d ((D.l TSlot.D) s1)), (5, .row 5), (6, dI s6), (7, .box 7 0), (9, .box 9 0), (10, .d (D.b s10)), (27, .d (D.b s27))], [(5, .row 65 5 (w5.map TSlot.D)), (7, .cells ((cellsA (TValue.D w7)))), (9, .cells ((cellsA (TValue.D w9))))], []⟩
def ref05_Union_b6_O (s0 : List TSlot) (s1 : List TSlot) (s6 : Int) (s10 : Bool) (s27 : Bool) (w5 : List TSlot) (w7 : TValue) (w9 : TValue) (o : (List TSlot)) : Ex × St := (.normal, ⟨sp 42 0 [(0, .d ((D.l TSlot.D) s0)), (1, .d ((D.l TSlot.D) s1)), (5, .row 5), (6, dI s6)], [(5, .row 65 5 (o.map TSlot.D))], []⟩)
theorem ref05_Union_b6_ok (rd : Option Nat) {s0 : List TSlot} {s1 : List TSlot} {s6 : Int} {s10 : Bool} {s27 : Bool} {w5 : List TSlot} {w7 : TValue} {w9 : TValue} {o : (List TSlot)} (h : ref05_Union_b6 s0 s1 s6 s10 s27 w5 w7 w9 = some o) : LpOfR Tryz.prog rd (fbody Tryz.prog 47) [1, 1, 1, 0, 0, 1, 0, 0, 1, 0, 1, 1] (ref05_Union_b6_I s0 s1 s6 s10 s27 w5 w7 w9) (ref05_Union_b6_O s0 s1 s6 s10 s27 w5 w7 w9 o) := by
  unfold ref05_Union_b6 at h
  apply g0 (o := o)
  cases s27
  replace h := iteF h
  obtain ⟨o8, h18, h⟩ := bS h
  refine gL (lv [0,1,5,6,9,34] [5,9]) (ref05_Union_b7_ok rd h18) ?_
  exact lP h (lv [0,1,5,6] [5])
  replace h := iteT h
  refine gQ (nc_ok TSlot.D [TSlot.mk s6 w7]) <| gG 33 (.sl ((w5 ++ [TSlot.mk s6 w7]).map TSlot.D)) (nc_ok TSlot.D [TSlot.mk s6 w7]) ?_
  obtain ⟨h15, h⟩ := cS h
  refine gQ (fit_map TSlot.D h15) <| gQ (app_map TSlot.D w5 [TSlot.mk s6 w7]) ?_
  exact lP h [.live [0,1,5,6], .keep [33], .ren 33 5, .sort]
def ref05_Union_b5_I (s0 : List TSlot) (s1 : List TSlot) (s6 : Int) (w5 : List TSlot) : St := ⟨sp 42 0 [(0, .d ((D.l TSlot.D) s0)), (1, .d ((D.l TSlot.D) s1)), (5, .row 5), (6, dI s6)], [(5, .row 65 5 (w5.map TSlot.D))], []⟩
def ref05_Union_b5_O (s0 : List TSlot) (s1 : List TSlot) (s6 : Int) (w5 : List TSlot) (o : (List TSlot)) : Ex × St := (.normal, ⟨sp 42 0 [(0, .d ((D.l TSlot.D) s0)), (1, .d ((D.l TSlot.D) s1)), (5, .row 5), (6, dI s6)], [(5, .row 65 5 (o.map TSlot.D))], []⟩)
theorem ref05_Union_b5_ok (rd : Option Nat) {s0 : List TSlot} {s1 : List TSlot} {s6 : Int} {w5 : List TSlot} {o : (List TSlot)} (h : ref05_Union_b5 s0 s1 s6 w5 = some o) : LpOfR Tryz.prog rd (fbody Tryz.prog 47) [0, 1, 0, 0, 1, 0, 1, 1] (ref05_Union_b5_I s0 s1 s6 w5) (ref05_Union_b5_O s0 s1 s6 w5 o) := by
  unfold ref05_Union_b5 at h
  apply g0 (o := o)
  obtain ⟨r6, h12, h⟩ := bS h
  refine gC 18 (ref05_Get_ok h12) ?_
  obtain ⟨r7, h13, h⟩ := bS h
  refine gC 24 (ref05_Get_ok h13) ?_
  obtain ⟨o9, h19, h⟩ := bS h
  refine gL (lv [0,1,5,6,7,9,10,27] [5,7,9]) (ref05_Union_b6_ok rd h19) ?_
  exact lP h (lv [0,1,5,6] [5])
def ref05_Union_l1_I (s0 : List TSlot) (s1 : List TSlot) (s6 : Int) (w5 : List TSlot) : St := ⟨sp 42 0 [(0, .d ((D.l TSlot.D) s0)), (1, .d ((D.l TSlot.D) s1)), (5, .row 5), (6, dI s6)], [(5, .row 65 5 (w5.map TSlot.D))], []⟩
def ref05_Union_l1_O (s0 : List TSlot) (s1 : List TSlot) (o : (List TSlot)) : Ex × St := (.exit 0, ⟨sp 42 0 [(5, .row 5)], [(5, .row 65 5 (o.map TSlot.D))], []⟩)
theorem ref05_Union_l1_ok (rd : Option Nat) {s0 : List TSlot} {s1 : List TSlot} {s6 : Int} {w5 : List TSlot} {t : (List TSlot)} (h : ref05_Union_l1 s0 s1 s6 w5 = some t) : LpOfR Tryz.prog rd (fbody Tryz.prog 47) [0, 1, 0, 1, 1] (ref05_Union_l1_I s0 s1 s6 w5) ((ref05_Union_l1_O s0 s1) t) :=
  loopE_lpR (fun s : Int × List TSlot => ref05_Union_l1_I s0 s1 s.1 s.2) (ref05_Union_l1_O s0 s1) (by kernel_rfl) (fun t => isN_ne (by rfl)) (fun ⟨s6, w5⟩ o h => by
  replace h : ref05_Union_l1_s s0 s1 s6 w5 = some o := h
  unfold ref05_Union_l1_s at h
  apply g0 (o := o)
  refine iB 12 h (fun h => ?_) fun h => ?_
  obtain ⟨o10, h20, h⟩ := bS h
  refine gL (lv [0,1,5,6] [5]) (ref05_Union_b5_ok rd h20) ?_
  exact lB h (lv [0,1,5,6] [5])
  exact lB h (lv [5] [5])) (s := (s6, w5)) (t := t) h
theorem ref05_Union_ok {a0 : List TSlot} {a1 : List TSlot} {r : List TSlot} (h : ref05_Union a0 a1 = some r) : ACall Tryz.prog 47 [.d ((D.l TSlot.D) a0), .d ((D.l TSlot.D) a1)] [] (.d ((D.l TSlot.D) r)) [] := by
  unfold ref05_Union at h
  apply g0 (o := r)
  obtain ⟨o11, h21, h⟩ := bS h
  refine gL [.live [0,1,5,6], .keep [], .nil 5 5 65 5, .sort] (ref05_Union_l1_ok none h21) ?_
  exact lF h []
def ref17_put_l1_I (s0 : List TSlot) (w3 : TSlot) (s5 : Int) : St := ⟨sp 38 0 [(0, .d ((D.l TSlot.D) s0)), (3, .box 3 0), (5, dI s5)], [(3, .cells ((cellsA (TSlot.D w3))))], []⟩
def ref17_put_l1_O (s0 : List TSlot) (w3 : TSlot) (o : Int) : Ex × St := (.exit 0, ⟨sp 38 0 [(0, .d ((D.l TSlot.D) s0)), (3, .box 3 0), (5, dI o)], [(3, .cells ((cellsA (TSlot.D w3))))], []⟩)
theorem ref17_put_l1_ok (rd : Option Nat) {s0 : List TSlot} {w3 : TSlot} {s5 : Int} {t : Int} (h : ref17_put_l1 s0 w3 s5 = some t) : LpOfR Tryz.prog rd (fbody Tryz.prog 48) [0, 0, 1, 1] (ref17_put_l1_I s0 w3 s5) ((ref17_put_l1_O s0 w3) t) :=
  loopE_lpR (fun s : Int => ref17_put_l1_I s0 w3 s) (ref17_put_l1_O s0 w3) (by kernel_rfl) (fun t => isN_ne (by rfl)) (fun s5 o h => by
  replace h : ref17_put_l1_s s0 w3 s5 = some o := h
  unfold ref17_put_l1_s at h
  apply g0 (o := o)
  refine iB 11 h (fun h => ?_) fun h => ?_
  refine xX 15 TSlot.D h fun x1 h => ?_
  refine iB 21 h (fun h => ?_) fun h => ?_
  exact lB h (lv [0,3,5] [3])
  exact lB h (lv [0,3,5] [3])
  exact lB h (lv [0,3,5] [3])) (s := s5) (t := t) h
theorem ref17_put_ok {a0 : List TSlot} {a1 : TSlot} {r : List TSlot} (h : ref17_put a0 a1 = some r) : ACall Tryz.prog 48 [.d ((D.l TSlot.D) a0), .d (TSlot.D a1)] [] (.d ((D.l TSlot.D) r)) [] := by
  unfold ref17_put at h
  apply g0 (o := r)
  refine gN 8 TSlot.D a0 ?_
  obtain ⟨o2, h4, h⟩ := bS h
  refine gL (lv [0,3,5] [3]) (ref17_put_l1_ok none h4) <| gQ (nc_ok TSlot.D ([] : List TSlot)) <| gW 27 (.sl ((sub a0 0 o2).map TSlot.D)) <| gW 28 (.sl ((([] : List TSlot) ++ (sub a0 0 o2)).map TSlot.D)) <| gW 32 (.sl (((([] : List TSlot) ++ (sub a0 0 o2)) ++ [a1]).map TSlot.D)) <| gW 36 (.sl ((sub a0 o2 (a0.length : Int)).map TSlot.D)) <| gW 37 (.sl ((((([] : List TSlot) ++ (sub a0 0 o2)) ++ [a1]) ++ (sub a0 o2 (a0.length : Int))).map TSlot.D)) ?_
  obtain ⟨h5, h⟩ := cS h
  refine gQ (cut_some TSlot.D h5) <| gQ (nc_ok TSlot.D (sub a0 0 o2)) ?_
  obtain ⟨h6, h⟩ := cS h
  refine gQ (fit_map TSlot.D h6) <| gQ (app_map TSlot.D ([] : List TSlot) (sub a0 0 o2)) <| gQ (nc_ok TSlot.D [a1]) <| gQ (nc_ok TSlot.D [a1]) ?_
  obtain ⟨h7, h⟩ := cS h
  refine gQ (fit_map TSlot.D h7) <| gQ (app_map TSlot.D (([] : List TSlot) ++ (sub a0 0 o2)) [a1]) ?_
  obtain ⟨h8, h⟩ := cS h
  refine gQ (cut_none TSlot.D h8) <| gQ (nc_ok TSlot.D (sub a0 o2 (a0.length : Int))) ?_
  obtain ⟨h9, h⟩ := cS h
  refine gQ (fit_map TSlot.D h9) <| gQ (app_map TSlot.D ((([] : List TSlot) ++ (sub a0 0 o2)) ++ [a1]) (sub a0 o2 (a0.length : Int))) ?_
  exact lF h []
def ref17_Hit_b7_I (s1 : Int) (s10 : List TSlot) (s11 : List TSlot) (s12 : Int) (s80 : Bool) (w5 : TEvent) (w6 : Int) (w8 : TSymbol) (w9 : THit) (w13 : TArg) (w14 : List TSlot) : St := ⟨sp 121 0 [(1, dI s1), (5, .box 5 0), (6, .box 6 0), (8, .box 8 0), (9, .box 9 0), (10, .d ((D.l TSlot.D) s10)), (11, .d ((D.l TSlot.D) s11)), (12, dI s12), (13, .box 13 0), (14, .row 14), (80, .d (D.b s80))], [(5, .cells ((cellsA (TEvent.D w5)))), (6, .cells ([dI w6, .nil, .nil])), (8, .cells ((cellsA (TSymbol.D w8)))), (9, .cells ((cellsA (THit.D w9)))), (13, .cells ((cellsA (TArg.D w13)))), (14, .row 65 5 (w14.map TSlot.D))], []⟩
def ref17_Hit_b7_O (s1 : Int) (s10 : List TSlot) (s11 : List TSlot) (s12 : Int) (s80 : Bool) (w5 : TEvent) (w6 : Int) (w8 : TSymbol) (w9 : THit) (w13 : TArg) (w14 : List TSlot) (o : (List TSlot) ⊕ Unit) : Ex × St := match o with
  | .inl o => (.normal, ⟨sp 121 0 [(1, dI s1), (5, .box 5 0), (6, .box 6 0), (8, .box 8 0), (9, .box 9 0), (10, .d ((D.l TSlot.D) o)), (11, .d ((D.l TSlot.D) s11)), (12, dI s12), (13, .box 13 0), (14, .row 14)], [(5, .cells ((cellsA (TEvent.D w5)))), (6, .cells ([dI w6, .nil, .nil])), (8, .cells ((cellsA (TSymbol.D w8)))), (9, .cells ((cellsA (THit.D w9)))), (13, .cells ((cellsA (TArg.D w13)))), (14, .row 65 5 (w14.map TSlot.D))], []⟩)
  | .inr o => (.ret, ⟨sp 121 0 [(6, .box 6 0), (7, .d (D.b false))], [(6, .cells ((cellsA (THit.D w9))))], []⟩)
theorem ref17_Hit_b7_ok (rd : Option Nat) {s1 : Int} {s10 : List TSlot} {s11 : List TSlot} {s12 : Int} {s80 : Bool} {w5 : TEvent} {w6 : Int} {w8 : TSymbol} {w9 : THit} {w13 : TArg} {w14 : List TSlot} {o : (List TSlot) ⊕ Unit} (h : ref17_Hit_b7 s1 s10 s11 s12 s80 w5 w6 w8 w9 w13 w14 = some o) : LpOfR Tryz.prog rd (fbody Tryz.prog 28) [1, 0, 1, 1, 1, 0, 0, 1, 0, 0, 1, 0, 1, 1, 1, 1, 1, 1] (ref17_Hit_b7_I s1 s10 s11 s12 s80 w5 w6 w8 w9 w13 w14) (ref17_Hit_b7_O s1 s10 s11 s12 s80 w5 w6 w8 w9 w13 w14 o) := by
  unfold ref17_Hit_b7 at h
  apply g0 (o := o)
  cases s80
  replace h := iteF h
  exact lP h (lv [1,5,6,8,9,10,11,12,13,14] [5,6,8,9,13,14])
  replace h := iteT h
  obtain ⟨r32, h37, h⟩ := bS h
  refine gC 83 (ref05_Fits_ok h37) ?_
  refine iB 84 h (fun h => ?_) fun h => ?_
  exact lP h (lv [6,7] [6])
  obtain ⟨r33, h39, h⟩ := bS h
  refine gC 88 (ref05_Union_ok h39) ?_
  exact lP h (lv [1,5,6,8,9,10,11,12,13,14] [5,6,8,9,13,14])
def ref17_Hit_b9_I (s1 : Int) (s10 : List TSlot) (s11 : List TSlot) (s12 : Int) (s111 : Bool) (w5 : TEvent) (w6 : Int) (w8 : TSymbol) (w9 : THit) (w14 : List TSlot) : St := ⟨sp 121 0 [(1, dI s1), (5, .box 5 0), (6, .box 6 0), (8, .box 8 0), (9, .box 9 0), (10, .d ((D.l TSlot.D) s10)), (11, .d ((D.l TSlot.D) s11)), (12, dI s12), (14, .row 14), (111, .d (D.b s111))], [(5, .cells ((cellsA (TEvent.D w5)))), (6, .cells ([dI w6, .nil, .nil])), (8, .cells ((cellsA (TSymbol.D w8)))), (9, .cells ((cellsA (THit.D w9)))), (14, .row 65 5 (w14.map TSlot.D))], []⟩
def ref17_Hit_b9_O (s1 : Int) (s10 : List TSlot) (s11 : List TSlot) (s12 : Int) (s111 : Bool) (w5 : TEvent) (w6 : Int) (w8 : TSymbol) (w9 : THit) (w14 : List TSlot) (o : (List TSlot)) : Ex × St := (.normal, ⟨sp 121 0 [(1, dI s1), (5, .box 5 0), (6, .box 6 0), (8, .box 8 0), (9, .box 9 0), (10, .d ((D.l TSlot.D) s10)), (11, .d ((D.l TSlot.D) o)), (12, dI s12)], [(5, .cells ((cellsA (TEvent.D w5)))), (6, .cells ([dI w6, .nil, .nil])), (8, .cells ((cellsA (TSymbol.D w8)))), (9, .cells ((cellsA (THit.D w9))))], []⟩)
theorem ref17_Hit_b9_ok (rd : Option Nat) {s1 : Int} {s10 : List TSlot} {s11 : List TSlot} {s12 : Int} {s111 : Bool} {w5 : TEvent} {w6 : Int} {w8 : TSymbol} {w9 : THit} {w14 : List TSlot} {o : (List TSlot)} (h : ref17_Hit_b9 s1 s10 s11 s12 s111 w5 w6 w8 w9 w14 = some o) : LpOfR Tryz.prog rd (fbody Tryz.prog 28) [1, 1, 1, 0, 1, 1, 1, 1, 1, 0, 0, 1, 0, 0, 1, 0, 1, 1, 1, 1, 1, 1] (ref17_Hit_b9_I s1 s10 s11 s12 s111 w5 w6 w8 w9 w14) (ref17_Hit_b9_O s1 s10 s11 s12 s111 w5 w6 w8 w9 w14 o) := by
  unfold ref17_Hit_b9 at h
  apply g0 (o := o)
  cases s111
  replace h := iteF h
  exact lP h (lv [1,5,6,8,9,10,11,12] [5,6,8,9])
  replace h := iteT h
  refine xX 114 TSlot.D h fun x39 h => ?_
  obtain ⟨r40, h48, h⟩ := bS h
  refine gC 116 (ref17_put_ok h48) ?_
  exact lP h (lv [1,5,6,8,9,10,11,12] [5,6,8,9])
def ref17_Hit_b8_I (s1 : Int) (s10 : List TSlot) (s11 : List TSlot) (s12 : Int) (s91 : Bool) (w5 : TEvent) (w6 : Int) (w8 : TSymbol) (w9 : THit) (w13 : TArg) (w14 : List TSlot) : St := ⟨sp 121 0 [(1, dI s1), (5, .box 5 0), (6, .box 6 0), (8, .box 8 0), (9, .box 9 0), (10, .d ((D.l TSlot.D) s10)), (11, .d ((D.l TSlot.D) s11)), (12, dI s12), (13, .box 13 0), (14, .row 14), (91, .d (D.b s91))], [(5, .cells ((cellsA (TEvent.D w5)))), (6, .cells ([dI w6, .nil, .nil])), (8, .cells ((cellsA (TSymbol.D w8)))), (9, .cells ((cellsA (THit.D w9)))), (13, .cells ((cellsA (TArg.D w13)))), (14, .row 65 5 (w14.map TSlot.D))], []⟩
def ref17_Hit_b8_O (s1 : Int) (s10 : List TSlot) (s11 : List TSlot) (s12 : Int) (s91 : Bool) (w5 : TEvent) (w6 : Int) (w8 : TSymbol) (w9 : THit) (w13 : TArg) (w14 : List TSlot) (o : (List TSlot) ⊕ Unit) : Ex × St := match o with
  | .inl o => (.normal, ⟨sp 121 0 [(1, dI s1), (5, .box 5 0), (6, .box 6 0), (8, .box 8 0), (9, .box 9 0), (10, .d ((D.l TSlot.D) s10)), (11, .d ((D.l TSlot.D) o)), (12, dI s12)], [(5, .cells ((cellsA (TEvent.D w5)))), (6, .cells ([dI w6, .nil, .nil])), (8, .cells ((cellsA (TSymbol.D w8)))), (9, .cells ((cellsA (THit.D w9))))], []⟩)
  | .inr o => (.ret, ⟨sp 121 0 [(6, .box 6 0), (7, .d (D.b false))], [(6, .cells ((cellsA (THit.D w9))))], []⟩)
theorem ref17_Hit_b8_ok (rd : Option Nat) {s1 : Int} {s10 : List TSlot} {s11 : List TSlot} {s12 : Int} {s91 : Bool} {w5 : TEvent} {w6 : Int} {w8 : TSymbol} {w9 : THit} {w13 : TArg} {w14 : List TSlot} {o : (List TSlot) ⊕ Unit} (h : ref17_Hit_b8 s1 s10 s11 s12 s91 w5 w6 w8 w9 w13 w14 = some o) : LpOfR Tryz.prog rd (fbody Tryz.prog 28) [1, 1, 1, 1, 1, 0, 0, 1, 0, 0, 1, 0, 1, 1, 1, 1, 1, 1] (ref17_Hit_b8_I s1 s10 s11 s12 s91 w5 w6 w8 w9 w13 w14) (ref17_Hit_b8_O s1 s10 s11 s12 s91 w5 w6 w8 w9 w13 w14 o) := by
  unfold ref17_Hit_b8 at h
  apply g0 (o := o)
  cases s91
  replace h := iteF h
  exact lP h (lv [1,5,6,8,9,10,11,12] [5,6,8,9])
  replace h := iteT h
  obtain ⟨r37, h42, h⟩ := bS h
  refine gC 96 (ref05_Get_ok h42) ?_
  refine iB 100 h (fun h => ?_) fun h => ?_
  refine xX 105 TValue.D h fun x38 h => ?_
  refine iB 108 h (fun h => ?_) fun h => ?_
  exact lP h (lv [6,7] [6])
  obtain ⟨o41, h49, h⟩ := bS h
  refine gL (lv [1,5,6,8,9,10,11,12,14,111] [5,6,8,9,14]) (ref17_Hit_b9_ok rd h49) ?_
  exact lP h (lv [1,5,6,8,9,10,11,12] [5,6,8,9])
  obtain ⟨o42, h50, h⟩ := bS h
  refine gL (lv [1,5,6,8,9,10,11,12,14,111] [5,6,8,9,14]) (ref17_Hit_b9_ok rd h50) ?_
  exact lP h (lv [1,5,6,8,9,10,11,12] [5,6,8,9])
def ref17_Hit_b6_I (s1 : Int) (s10 : List TSlot) (s11 : List TSlot) (s12 : Int) (w5 : TEvent) (w6 : Int) (w8 : TSymbol) (w9 : THit) : St := ⟨sp 121 0 [(1, dI s1), (5, .box 5 0), (6, .box 6 0), (8, .box 8 0), (9, .box 9 0), (10, .d ((D.l TSlot.D) s10)), (11, .d ((D.l TSlot.D) s11)), (12, dI s12)], [(5, .cells ((cellsA (TEvent.D w5)))), (6, .cells ([dI w6, .nil, .nil])), (8, .cells ((cellsA (TSymbol.D w8)))), (9, .cells ((cellsA (THit.D w9))))], []⟩
def ref17_Hit_b6_O (s1 : Int) (s10 : List TSlot) (s11 : List TSlot) (s12 : Int) (w5 : TEvent) (w6 : Int) (w8 : TSymbol) (w9 : THit) (o : (List TSlot × List TSlot) ⊕ Unit) : Ex × St := match o with
  | .inl o => (.normal, ⟨sp 121 0 [(1, dI s1), (5, .box 5 0), (6, .box 6 0), (8, .box 8 0), (9, .box 9 0), (10, .d ((D.l TSlot.D) o.1)), (11, .d ((D.l TSlot.D) o.2)), (12, dI s12)], [(5, .cells ((cellsA (TEvent.D w5)))), (6, .cells ([dI w6, .nil, .nil])), (8, .cells ((cellsA (TSymbol.D w8)))), (9, .cells ((cellsA (THit.D w9))))], []⟩)
  | .inr o => (.ret, ⟨sp 121 0 [(6, .box 6 0), (7, .d (D.b false))], [(6, .cells ((cellsA (THit.D w9))))], []⟩)
theorem ref17_Hit_b6_ok (rd : Option Nat) {s1 : Int} {s10 : List TSlot} {s11 : List TSlot} {s12 : Int} {w5 : TEvent} {w6 : Int} {w8 : TSymbol} {w9 : THit} {o : (List TSlot × List TSlot) ⊕ Unit} (h : ref17_Hit_b6 s1 s10 s11 s12 w5 w6 w8 w9 = some o) : LpOfR Tryz.prog rd (fbody Tryz.prog 28) [0, 1, 0, 0, 1, 0, 1, 1, 1, 1, 1, 1] (ref17_Hit_b6_I s1 s10 s11 s12 w5 w6 w8 w9) (ref17_Hit_b6_O s1 s10 s11 s12 w5 w6 w8 w9 o) := by
  unfold ref17_Hit_b6 at h
  apply g0 (o := o)
  refine xX 53 TArg.D h fun x29 h => ?_
  refine xX 60 TValue.D h fun x30 h => ?_
  refine gQ (nc_ok TSlot.D [TSlot.mk x29.n x30]) ?_
  refine iB 67 h (fun h => ?_) fun h => ?_
  refine xX 73 TValue.D h fun x31 h => ?_
  refine iB 76 h (fun h => ?_) fun h => ?_
  exact lP h (lv [6,7] [6])
  obtain ⟨o34, h40, h⟩ := bS h
  refine gL [.live [1,5,6,8,9,10,11,12,13,14,80], .keep [5,6,8,9,13,63], .ren 63 14, .sort] (ref17_Hit_b7_ok rd h40) ?_
  rcases sumE_some h with ⟨o35, rfl, h⟩ | ⟨o36, rfl, h⟩
  obtain ⟨o43, h51, h⟩ := bS h
  refine gL (lv [1,5,6,8,9,10,11,12,13,14,91] [5,6,8,9,13,14]) (ref17_Hit_b8_ok rd h51) ?_
  rcases sumE_some h with ⟨o44, rfl, h⟩ | ⟨o45, rfl, h⟩
  exact lP h (lv [1,5,6,8,9,10,11,12] [5,6,8,9])
  exact lP h (lv [6,7] [6])
  exact lP h (lv [6,7] [6])
  obtain ⟨o46, h52, h⟩ := bS h
  refine gL [.live [1,5,6,8,9,10,11,12,13,14,80], .keep [5,6,8,9,13,63], .ren 63 14, .sort] (ref17_Hit_b7_ok rd h52) ?_
  rcases sumE_some h with ⟨o47, rfl, h⟩ | ⟨o48, rfl, h⟩
  obtain ⟨o49, h53, h⟩ := bS h
  refine gL (lv [1,5,6,8,9,10,11,12,13,14,91] [5,6,8,9,13,14]) (ref17_Hit_b8_ok rd h53) ?_
  rcases sumE_some h with ⟨o50, rfl, h⟩ | ⟨o51, rfl, h⟩
  exact lP h (lv [1,5,6,8,9,10,11,12] [5,6,8,9])
  exact lP h (lv [6,7] [6])
  exact lP h (lv [6,7] [6])
def ref17_Hit_l1_I (s1 : Int) (w5 : TEvent) (w6 : Int) (w8 : TSymbol) (w9 : THit) (s10 : List TSlot) (s11 : List TSlot) (s12 : Int) : St := ⟨sp 121 0 [(1, dI s1), (5, .box 5 0), (6, .box 6 0), (8, .box 8 0), (9, .box 9 0), (10, .d ((D.l TSlot.D) s10)), (11, .d ((D.l TSlot.D) s11)), (12, dI s12)], [(5, .cells ((cellsA (TEvent.D w5)))), (6, .cells ([dI w6, .nil, .nil])), (8, .cells ((cellsA (TSymbol.D w8)))), (9, .cells ((cellsA (THit.D w9))))], []⟩
def ref17_Hit_l1_O (s1 : Int) (w5 : TEvent) (w6 : Int) (w8 : TSymbol) (w9 : THit) (o : (List TSlot × List TSlot) ⊕ Unit) : Ex × St := match o with
  | .inl o => (.exit 0, ⟨sp 121 0 [(1, dI s1), (6, .box 6 0), (10, .d ((D.l TSlot.D) o.1)), (11, .d ((D.l TSlot.D) o.2))], [(6, .cells ([dI w6, .nil, .nil]))], []⟩)
  | .inr o => (.ret, ⟨sp 121 0 [(6, .box 6 0), (7, .d (D.b false))], [(6, .cells ((cellsA (THit.D w9))))], []⟩)
theorem ref17_Hit_l1_ok (rd : Option Nat) {s1 : Int} {w5 : TEvent} {w6 : Int} {w8 : TSymbol} {w9 : THit} {s10 : List TSlot} {s11 : List TSlot} {s12 : Int} {t : (List TSlot × List TSlot) ⊕ Unit} (h : ref17_Hit_l1 s1 w5 w6 w8 w9 s10 s11 s12 = some t) : LpOfR Tryz.prog rd (fbody Tryz.prog 28) [0, 1, 0, 1, 1, 1, 1, 1, 1] (ref17_Hit_l1_I s1 w5 w6 w8 w9 s10 s11 s12) ((ref17_Hit_l1_O s1 w5 w6 w8 w9) t) :=
  loopE_lpR (fun s : List TSlot × List TSlot × Int => ref17_Hit_l1_I s1 w5 w6 w8 w9 s.1 s.2.1 s.2.2) (ref17_Hit_l1_O s1 w5 w6 w8 w9) (by kernel_rfl) (fun t => isN_ne (by rcases t with (_ | _) <;> rfl)) (fun ⟨s10, s11, s12⟩ o h => by
  replace h : ref17_Hit_l1_s s1 w5 w6 w8 w9 s10 s11 s12 = some o := h
  unfold ref17_Hit_l1_s at h
  apply g0 (o := o)
  refine gN 46 TArg.D w8.args ?_
  refine iB 47 h (fun h => ?_) fun h => ?_
  obtain ⟨o52, h54, h⟩ := bS h
  refine gL (lv [1,5,6,8,9,10,11,12] [5,6,8,9]) (ref17_Hit_b6_ok rd h54) ?_
  rcases sumE_some h with ⟨o53, rfl, h⟩ | ⟨o54, rfl, h⟩
  exact lB h (lv [1,5,6,8,9,10,11,12] [5,6,8,9])
  exact lB h (lv [6,7] [6])
  exact lB h (lv [1,6,10,11] [6])) (s := (s10, s11, s12)) (t := t) h
theorem ref17_Hit_ok {a0 : TQea} {a1 : Int} {a2 : TEvent} {r : THit × Bool} (h : ref17_Hit a0 a1 a2 = some r) : ACall Tryz.prog 28 [.d (TQea.D a0), dI a1, .d (TEvent.D a2)] [] (.tup [.d (THit.D r.1), .d (D.b r.2)]) [] := by
  unfold ref17_Hit at h
  apply g0 (o := r)
  refine xX 20 TSymbol.D h fun x1 h => ?_
  refine xX 27 TDecl.D h fun x2 h => ?_
  refine iB 33 h (fun h => ?_) fun h => ?_
  exact lF h []
  refine gN 36 TArg.D x1.args <| gN 39 TValue.D a2.args ?_
  refine iB 41 h (fun h => ?_) fun h => ?_
  exact lF h []
  obtain ⟨o55, h55, h⟩ := bS h
  refine gL [.look 10, .look 11, .live [1,5,6,8,9,10,11,12], .keep [5,6,8,9]] (ref17_Hit_l1_ok none h55) ?_
  rcases sumE_some h with ⟨o56, rfl, h⟩ | ⟨o57, rfl, h⟩
  exact lF h []
  exact lF h []
def ref17_All_b5_I (s6 : Int) (s23 : Bool) (w2 : TQea) (w3 : TEvent) (w5 : List THit) (w7 : THit) : St := ⟨sp 29 0 [(2, .box 2 0), (3, .box 3 0), (5, .row 5), (6, dI s6), (7, .box 7 0), (23, .d (D.b s23))], [(2, .cells ((cellsA (TQea.D w2)))), (3, .cells ((cellsA (TEvent.D w3)))), (5, .row 83 3 (w5.map THit.D)), (7, .cells ((cellsA (THit.D w7))))], []⟩
def ref17_All_b5_O (s6 : Int) (s23 : Bool) (w2 : TQea) (w3 : TEvent) (w5 : List THit) (w7 : THit) (o : (List THit)) : Ex × St := (.normal, ⟨sp 29 0 [(2, .box 2 0), (3, .box 3 0), (5, .row 5), (6, dI s6)], [(2, .cells ((cellsA (TQea.D w2)))), (3, .cells ((cellsA (TEvent.D w3)))), (5, .row 83 3 (o.map THit.D))], []⟩)
theorem ref17_All_b5_ok (rd : Option Nat) {s6 : Int} {s23 : Bool} {w2 : TQea} {w3 : TEvent} {w5 : List THit} {w7 : THit} {o : (List THit)} (h : ref17_All_b5 s6 s23 w2 w3 w5 w7 = some o) : LpOfR Tryz.prog rd (fbody Tryz.prog 11) [1, 1, 0, 0, 1, 0, 0, 1, 0, 1, 1] (ref17_All_b5_I s6 s23 w2 w3 w5 w7) (ref17_All_b5_O s6 s23 w2 w3 w5 w7 o) := by
  unfold ref17_All_b5 at h
  apply g0 (o := o)
  cases s23
  replace h := iteF h
  exact lP h (lv [2,3,5,6] [2,3,5])
  replace h := iteT h
  refine gQ (nc_ok THit.D [w7]) <| gG 27 (.sl ((w5 ++ [w7]).map THit.D)) (nc_ok THit.D [w7]) ?_
  obtain ⟨h10, h⟩ := cS h
  refine gQ (fit_map THit.D h10) <| gQ (app_map THit.D w5 [w7]) ?_
  exact lP h [.live [2,3,5,6], .keep [2,3,27], .ren 27 5, .sort]
def ref17_All_b4_I (s6 : Int) (w2 : TQea) (w3 : TEvent) (w5 : List THit) : St := ⟨sp 29 0 [(2, .box 2 0), (3, .box 3 0), (5, .row 5), (6, dI s6)], [(2, .cells ((cellsA (TQea.D w2)))), (3, .cells ((cellsA (TEvent.D w3)))), (5, .row 83 3 (w5.map THit.D))], []⟩
def ref17_All_b4_O (s6 : Int) (w2 : TQea) (w3 : TEvent) (w5 : List THit) (o : (List THit)) : Ex × St := (.normal, ⟨sp 29 0 [(2, .box 2 0), (3, .box 3 0), (5, .row 5), (6, dI s6)], [(2, .cells ((cellsA (TQea.D w2)))), (3, .cells ((cellsA (TEvent.D w3)))), (5, .row 83 3 (o.map THit.D))], []⟩)
theorem ref17_All_b4_ok (rd : Option Nat) {s6 : Int} {w2 : TQea} {w3 : TEvent} {w5 : List THit} {o : (List THit)} (h : ref17_All_b4 s6 w2 w3 w5 = some o) : LpOfR Tryz.prog rd (fbody Tryz.prog 11) [0, 1, 0, 0, 1, 0, 1, 1] (ref17_All_b4_I s6 w2 w3 w5) (ref17_All_b4_O s6 w2 w3 w5 o) := by
  unfold ref17_All_b4 at h
  apply g0 (o := o)
  obtain ⟨r4, h8, h⟩ := bS h
  refine gC 20 (ref17_Hit_ok h8) ?_
  obtain ⟨o5, h11, h⟩ := bS h
  refine gL (lv [2,3,5,6,7,23] [2,3,5,7]) (ref17_All_b5_ok rd h11) ?_
  exact lP h (lv [2,3,5,6] [2,3,5])
def ref17_All_l1_I (w2 : TQea) (w3 : TEvent) (s6 : Int) (w5 : List THit) : St := ⟨sp 29 0 [(2, .box 2 0), (3, .box 3 0), (5, .row 5), (6, dI s6)], [(2, .cells ((cellsA (TQea.D w2)))), (3, .cells ((cellsA (TEvent.D w3)))), (5, .row 83 3 (w5.map THit.D))], []⟩
def ref17_All_l1_O (w2 : TQea) (w3 : TEvent) (o : (List THit)) : Ex × St := (.exit 0, ⟨sp 29 0 [(5, .row 5)], [(5, .row 83 3 (o.map THit.D))], []⟩)
theorem ref17_All_l1_ok (rd : Option Nat) {w2 : TQea} {w3 : TEvent} {s6 : Int} {w5 : List THit} {t : (List THit)} (h : ref17_All_l1 w2 w3 s6 w5 = some t) : LpOfR Tryz.prog rd (fbody Tryz.prog 11) [0, 1, 0, 1, 1] (ref17_All_l1_I w2 w3 s6 w5) ((ref17_All_l1_O w2 w3) t) :=
  loopE_lpR (fun s : Int × List THit => ref17_All_l1_I w2 w3 s.1 s.2) (ref17_All_l1_O w2 w3) (by kernel_rfl) (fun t => isN_ne (by rfl)) (fun ⟨s6, w5⟩ o h => by
  replace h : ref17_All_l1_s w2 w3 s6 w5 = some o := h
  unfold ref17_All_l1_s at h
  apply g0 (o := o)
  refine gN 12 TSymbol.D w2.symbols ?_
  refine iB 13 h (fun h => ?_) fun h => ?_
  obtain ⟨o6, h12, h⟩ := bS h
  refine gL (lv [2,3,5,6] [2,3,5]) (ref17_All_b4_ok rd h12) ?_
  exact lB h (lv [2,3,5,6] [2,3,5])
  exact lB h (lv [5] [5])) (s := (s6, w5)) (t := t) h
theorem ref17_All_ok {a0 : TQea} {a1 : TEvent} {r : List THit} (h : ref17_All a0 a1 = some r) : ACall Tryz.prog 11 [.d (TQea.D a0), .d (TEvent.D a1)] [] (.d ((D.l THit.D) r)) [] := by
  unfold ref17_All at h
  apply g0 (o := r)
  obtain ⟨o7, h13, h⟩ := bS h
  refine gL [.live [2,3,5,6], .keep [2,3], .nil 5 5 83 3, .sort] (ref17_All_l1_ok none h13) ?_
  exact lF h []
def ref05_Under_l1_I (s0 : List TSlot) (s1 : List TSlot) (s5 : Int) : St := ⟨sp 35 0 [(0, .d ((D.l TSlot.D) s0)), (1, .d ((D.l TSlot.D) s1)), (5, dI s5)], [], []⟩
def ref05_Under_l1_O (s0 : List TSlot) (s1 : List TSlot) (o : Unit ⊕ Unit) : Ex × St := match o with
  | .inl o => (.exit 0, ⟨sp 35 0 [], [], []⟩)
  | .inr o => (.ret, ⟨sp 35 0 [(4, .d (D.b false))], [], []⟩)
theorem ref05_Under_l1_ok (rd : Option Nat) {s0 : List TSlot} {s1 : List TSlot} {s5 : Int} {t : Unit ⊕ Unit} (h : ref05_Under_l1 s0 s1 s5 = some t) : LpOfR Tryz.prog rd (fbody Tryz.prog 27) [0, 1, 0, 1] (ref05_Under_l1_I s0 s1 s5) ((ref05_Under_l1_O s0 s1) t) :=
  loopE_lpR (fun s : Int => ref05_Under_l1_I s0 s1 s) (ref05_Under_l1_O s0 s1) (by kernel_rfl) (fun t => isN_ne (by rcases t with (_ | _) <;> rfl)) (fun s5 o h => by
  replace h : ref05_Under_l1_s s0 s1 s5 = some o := h
  unfold ref05_Under_l1_s at h
  apply g0 (o := o)
  refine gN 10 TSlot.D s0 ?_
  refine iB 11 h (fun h => ?_) fun h => ?_
  refine xX 18 TSlot.D h fun x1 h => ?_
  obtain ⟨r2, h3, h⟩ := bS h
  refine gC 21 (ref05_Get_ok h3) ?_
  refine iB 26 h (fun h => ?_) fun h => ?_
  exact lB h (lv [4] [])
  refine xX 30 TSlot.D h fun x3 h => ?_
  refine iB 34 h (fun h => ?_) fun h => ?_
  exact lB h (lv [4] [])
  exact lB h (lv [0,1,5] [])
  exact lB h (lv [] [])) (s := s5) (t := t) h
theorem ref05_Under_ok {a0 : List TSlot} {a1 : List TSlot} {r : Bool} (h : ref05_Under a0 a1 = some r) : ACall Tryz.prog 27 [.d ((D.l TSlot.D) a0), .d ((D.l TSlot.D) a1)] [] (.d (D.b r)) [] := by
  unfold ref05_Under at h
  apply g0 (o := r)
  obtain ⟨o4, h7, h⟩ := bS h
  refine gL (lv [0,1,5] []) (ref05_Under_l1_ok none h7) ?_
  rcases sumE_some h with ⟨o5, rfl, h⟩ | ⟨o6, rfl, h⟩
  exact lF h []
  exact lF h []
def ref17_Under_b5_I (s0 : List THit) (s1 : List TSlot) (s6 : Int) (s19 : Bool) (w5 : List THit) : St := ⟨sp 28 0 [(0, .d ((D.l THit.D) s0)), (1, .d ((D.l TSlot.D) s1)), (5, .row 5), (6, dI s6), (19, .d (D.b s19))], [(5, .row 83 3 (w5.map THit.D))], []⟩
def ref17_Under_b5_O (s0 : List THit) (s1 : List TSlot) (s6 : Int) (s19 : Bool) (w5 : List THit) (o : (List THit)) : Ex × St := (.normal, ⟨sp 28 0 [(0, .d ((D.l THit.D) s0)), (1, .d ((D.l TSlot.D) s1)), (5, .row 5), (6, dI s6)], [(5, .row 83 3 (o.map THit.D))], []⟩)
theorem ref17_Under_b5_ok (rd : Option Nat) {s0 : List THit} {s1 : List TSlot} {s6 : Int} {s19 : Bool} {w5 : List THit} {o : (List THit)} (h : ref17_Under_b5 s0 s1 s6 s19 w5 = some o) : LpOfR Tryz.prog rd (fbody Tryz.prog 10) [1, 0, 0, 1, 0, 0, 1, 0, 1, 1] (ref17_Under_b5_I s0 s1 s6 s19 w5) (ref17_Under_b5_O s0 s1 s6 s19 w5 o) := by
  unfold ref17_Under_b5 at h
  apply g0 (o := o)
  cases s19
  replace h := iteF h
  exact lP h (lv [0,1,5,6] [5])
  replace h := iteT h
  refine xX 23 THit.D h fun x8 h => ?_
  refine gQ (nc_ok THit.D [x8]) <| gG 26 (.sl ((w5 ++ [x8]).map THit.D)) (nc_ok THit.D [x8]) ?_
  obtain ⟨h14, h⟩ := cS h
  refine gQ (fit_map THit.D h14) <| gQ (app_map THit.D w5 [x8]) ?_
  exact lP h [.live [0,1,5,6], .keep [26], .ren 26 5, .sort]
def ref17_Under_b4_I (s0 : List THit) (s1 : List TSlot) (s6 : Int) (w5 : List THit) : St := ⟨sp 28 0 [(0, .d ((D.l THit.D) s0)), (1, .d ((D.l TSlot.D) s1)), (5, .row 5), (6, dI s6)], [(5, .row 83 3 (w5.map THit.D))], []⟩
def ref17_Under_b4_O (s0 : List THit) (s1 : List TSlot) (s6 : Int) (w5 : List THit) (o : (List THit)) : Ex × St := (.normal, ⟨sp 28 0 [(0, .d ((D.l THit.D) s0)), (1, .d ((D.l TSlot.D) s1)), (5, .row 5), (6, dI s6)], [(5, .row 83 3 (o.map THit.D))], []⟩)
theorem ref17_Under_b4_ok (rd : Option Nat) {s0 : List THit} {s1 : List TSlot} {s6 : Int} {w5 : List THit} {o : (List THit)} (h : ref17_Under_b4 s0 s1 s6 w5 = some o) : LpOfR Tryz.prog rd (fbody Tryz.prog 10) [0, 1, 0, 0, 1, 0, 1, 1] (ref17_Under_b4_I s0 s1 s6 w5) (ref17_Under_b4_O s0 s1 s6 w5 o) := by
  unfold ref17_Under_b4 at h
  apply g0 (o := o)
  refine xX 15 THit.D h fun x6 h => ?_
  obtain ⟨r7, h11, h⟩ := bS h
  refine gC 19 (ref05_Under_ok h11) ?_
  obtain ⟨o9, h15, h⟩ := bS h
  refine gL (lv [0,1,5,6,19] [5]) (ref17_Under_b5_ok rd h15) ?_
  exact lP h (lv [0,1,5,6] [5])
def ref17_Under_l1_I (s0 : List THit) (s1 : List TSlot) (s6 : Int) (w5 : List THit) : St := ⟨sp 28 0 [(0, .d ((D.l THit.D) s0)), (1, .d ((D.l TSlot.D) s1)), (5, .row 5), (6, dI s6)], [(5, .row 83 3 (w5.map THit.D))], []⟩
def ref17_Under_l1_O (s0 : List THit) (s1 : List TSlot) (o : (List THit)) : Ex × St := (.exit 0, ⟨sp 28 0 [(5, .row 5)], [(5, .row 83 3 (o.map THit.D))], []⟩)
theorem ref17_Under_l1_ok (rd : Option Nat) {s0 : List THit} {s1 : List TSlot} {s6 : Int} {w5 : List THit} {t : (List THit)} (h : ref17_Under_l1 s0 s1 s6 w5 = some t) : LpOfR Tryz.prog rd (fbody Tryz.prog 10) [0, 1, 0, 1, 1] (ref17_Under_l1_I s0 s1 s6 w5) ((ref17_Under_l1_O s0 s1) t) :=
  loopE_lpR (fun s : Int × List THit => ref17_Under_l1_I s0 s1 s.1 s.2) (ref17_Under_l1_O s0 s1) (by kernel_rfl) (fun t => isN_ne (by rfl)) (fun ⟨s6, w5⟩ o h => by
  replace h : ref17_Under_l1_s s0 s1 s6 w5 = some o := h
  unfold ref17_Under_l1_s at h
  apply g0 (o := o)
  refine gN 9 THit.D s0 ?_
  refine iB 10 h (fun h => ?_) fun h => ?_
  obtain ⟨o10, h16, h⟩ := bS h
  refine gL (lv [0,1,5,6] [5]) (ref17_Under_b4_ok rd h16) ?_
  exact lB h (lv [0,1,5,6] [5])
  exact lB h (lv [5] [5])) (s := (s6, w5)) (t := t) h
theorem ref17_Under_ok {a0 : List THit} {a1 : List TSlot} {r : List THit} (h : ref17_Under a0 a1 = some r) : ACall Tryz.prog 10 [.d ((D.l THit.D) a0), .d ((D.l TSlot.D) a1)] [] (.d ((D.l THit.D) r)) [] := by
  unfold ref17_Under at h
  apply g0 (o := r)
  obtain ⟨o11, h17, h⟩ := bS h
  refine gL [.live [0,1,5,6], .keep [], .nil 5 5 83 3, .sort] (ref17_Under_l1_ok none h17) ?_
  exact lF h []
def ref18_Less_l1_I (w2 : TConfig) (w3 : TConfig) (s5 : Int) : St := ⟨sp 59 0 [(2, .box 2 0), (3, .box 3 0), (5, dI s5)], [(2, .cells ((cellsA (TConfig.D w2)))), (3, .cells ((cellsA (TConfig.D w3))))], []⟩
def ref18_Less_l1_O (w2 : TConfig) (w3 : TConfig) (o : Unit ⊕ Bool) : Ex × St := match o with
  | .inl o => (.exit 0, ⟨sp 59 0 [(2, .box 2 0), (3, .box 3 0)], [(2, .cells ((cellsA (TConfig.D w2)))), (3, .cells ((cellsA (TConfig.D w3))))], []⟩)
  | .inr o => (.ret, ⟨sp 59 0 [(4, .d (D.b o))], [], []⟩)
theorem ref18_Less_l1_ok (rd : Option Nat) {w2 : TConfig} {w3 : TConfig} {s5 : Int} {t : Unit ⊕ Bool} (h : ref18_Less_l1 w2 w3 s5 = some t) : LpOfR Tryz.prog rd (fbody Tryz.prog 50) [0, 1, 0, 1, 1] (ref18_Less_l1_I w2 w3 s5) ((ref18_Less_l1_O w2 w3) t) :=
  loopE_lpR (fun s : Int => ref18_Less_l1_I w2 w3 s) (ref18_Less_l1_O w2 w3) (by kernel_rfl) (fun t => isN_ne (by rcases t with (_ | _) <;> rfl)) (fun s5 o h => by
  replace h : ref18_Less_l1_s w2 w3 s5 = some o := h
  unfold ref18_Less_l1_s at h
  apply g0 (o := o)
  refine gN 19 TValue.D w2.vals ?_
  refine iB 21 h (fun h => ?_) fun h => ?_
  refine gN 25 TValue.D w3.vals ?_
  refine iB 27 h (fun h => ?_) fun h => ?_
  refine xX 33 TValue.D h fun x1 h => ?_
  refine xX 38 TValue.D h fun x2 h => ?_
  refine iB 40 h (fun h => ?_) fun h => ?_
  refine xX 44 TValue.D h fun x3 h => ?_
  refine xX 49 TValue.D h fun x4 h => ?_
  obtain ⟨r5, h9, h⟩ := bS h
  refine gC 51 (ref03_Less_ok h9) ?_
  exact lB h (lv [4] [])
  exact lB h (lv [2,3,5] [2,3])
  exact lB h (lv [2,3] [2,3])
  exact lB h (lv [2,3] [2,3])) (s := s5) (t := t) h
theorem ref18_Less_ok {a0 : TConfig} {a1 : TConfig} {r : Bool} (h : ref18_Less a0 a1 = some r) : ACall Tryz.prog 50 [.d (TConfig.D a0), .d (TConfig.D a1)] [] (.d (D.b r)) [] := by
  unfold ref18_Less at h
  apply g0 (o := r)
  refine iB 10 h (fun h => ?_) fun h => ?_
  exact lF h []
  obtain ⟨o6, h10, h⟩ := bS h
  refine gL (lv [2,3,5] [2,3]) (ref18_Less_l1_ok none h10) ?_
  rcases sumE_some h with ⟨o7, rfl, h⟩ | ⟨o8, rfl, h⟩
  refine gN 54 TValue.D a0.vals <| gN 57 TValue.D a1.vals ?_
  exact lF h []
  exact lF h []
theorem ref18_One_ok {a0 : TConfig} {a1 : TConfig} {r : Bool} (h : ref18_One a0 a1 = some r) : ACall Tryz.prog 51 [.d (TConfig.D a0), .d (TConfig.D a1)] [] (.d (D.b r)) [] := by
  unfold ref18_One at h
  apply g0 (o := r)
  obtain ⟨r1, h1, h⟩ := bS h
  refine gC 7 (ref18_Less_ok h1) ?_
  refine iB 9 h (fun h => ?_) fun h => ?_
  obtain ⟨r2, h3, h⟩ := bS h
  refine gC 12 (ref18_Less_ok h3) ?_
  exact lF h []
  exact lF h []
def ref18_Put_l1_I (s0 : List TConfig) (w3 : TConfig) (s5 : Int) : St := ⟨sp 48 0 [(0, .d ((D.l TConfig.D) s0)), (3, .box 3 0), (5, dI s5)], [(3, .cells ((cellsA (TConfig.D w3))))], []⟩
def ref18_Put_l1_O (s0 : List TConfig) (w3 : TConfig) (o : Int) : Ex × St := (.exit 0, ⟨sp 48 0 [(0, .d ((D.l TConfig.D) s0)), (3, .box 3 0), (5, dI o)], [(3, .cells ((cellsA (TConfig.D w3))))], []⟩)
theorem ref18_Put_l1_ok (rd : Option Nat) {s0 : List TConfig} {w3 : TConfig} {s5 : Int} {t : Int} (h : ref18_Put_l1 s0 w3 s5 = some t) : LpOfR Tryz.prog rd (fbody Tryz.prog 31) [0, 0, 1, 1] (ref18_Put_l1_I s0 w3 s5) ((ref18_Put_l1_O s0 w3) t) :=
  loopE_lpR (fun s : Int => ref18_Put_l1_I s0 w3 s) (ref18_Put_l1_O s0 w3) (by kernel_rfl) (fun t => isN_ne (by rfl)) (fun s5 o h => by
  replace h : ref18_Put_l1_s s0 w3 s5 = some o := h
  unfold ref18_Put_l1_s at h
  apply g0 (o := o)
  refine iB 11 h (fun h => ?_) fun h => ?_
  refine xX 16 TConfig.D h fun x1 h => ?_
  obtain ⟨r2, h3, h⟩ := bS h
  refine gQ (ref18_Less_ok h3) ?_
  cases r2
  replace h := iteF h
  refine gW 18 (.ret (.d (D.b false))) ?_
  exact lB h (lv [0,3,5] [3])
  replace h := iteT h
  refine gW 18 (.ret (.d (D.b true))) ?_
  exact lB h (lv [0,3,5] [3])
  exact lB h (lv [0,3,5] [3])) (s := s5) (t := t) h
theorem ref18_Put_ok {a0 : List TConfig} {a1 : TConfig} {r : List TConfig} (h : ref18_Put a0 a1 = some r) : ACall Tryz.prog 31 [.d ((D.l TConfig.D) a0), .d (TConfig.D a1)] [] (.d ((D.l TConfig.D) r)) [] := by
  unfold ref18_Put at h
  apply g0 (o := r)
  refine gN 8 TConfig.D a0 ?_
  obtain ⟨o3, h5, h⟩ := bS h
  refine gL (lv [0,3,5] [3]) (ref18_Put_l1_ok none h5) ?_
  refine iB 24 h (fun h => ?_) fun h => ?_
  refine xX 28 TConfig.D h fun x4 h => ?_
  obtain ⟨r5, h8, h⟩ := bS h
  refine gQ (ref18_One_ok h8) ?_
  cases r5
  replace h := iteF h
  refine gQ (nc_ok TConfig.D ([] : List TConfig)) <| gW 31 (.ret (.d (D.b false))) <| gW 37 (.sl ((sub a0 0 o3).map TConfig.D)) <| gW 38 (.sl ((([] : List TConfig) ++ (sub a0 0 o3)).map TConfig.D)) <| gW 42 (.sl (((([] : List TConfig) ++ (sub a0 0 o3)) ++ [a1]).map TConfig.D)) <| gW 46 (.sl ((sub a0 o3 (a0.length : Int)).map TConfig.D)) <| gW 47 (.sl ((((([] : List TConfig) ++ (sub a0 0 o3)) ++ [a1]) ++ (sub a0 o3 (a0.length : Int))).map TConfig.D)) ?_
  obtain ⟨h10, h⟩ := cS h
  refine gQ (cut_some TConfig.D h10) <| gQ (nc_ok TConfig.D (sub a0 0 o3)) ?_
  obtain ⟨h11, h⟩ := cS h
  refine gQ (fit_map TConfig.D h11) <| gQ (app_map TConfig.D ([] : List TConfig) (sub a0 0 o3)) <| gQ (nc_ok TConfig.D [a1]) <| gQ (nc_ok TConfig.D [a1]) ?_
  obtain ⟨h12, h⟩ := cS h
  refine gQ (fit_map TConfig.D h12) <| gQ (app_map TConfig.D (([] : List TConfig) ++ (sub a0 0 o3)) [a1]) ?_
  obtain ⟨h13, h⟩ := cS h
  refine gQ (cut_none TConfig.D h13) <| gQ (nc_ok TConfig.D (sub a0 o3 (a0.length : Int))) ?_
  obtain ⟨h14, h⟩ := cS h
  refine gQ (fit_map TConfig.D h14) <| gQ (app_map TConfig.D ((([] : List TConfig) ++ (sub a0 0 o3)) ++ [a1]) (sub a0 o3 (a0.length : Int))) ?_
  exact lF h []
  replace h := iteT h
  refine gW 31 (.ret (.d (D.b true))) ?_
  exact lF h []
  refine gQ (nc_ok TConfig.D ([] : List TConfig)) <| gW 37 (.sl ((sub a0 0 o3).map TConfig.D)) <| gW 38 (.sl ((([] : List TConfig) ++ (sub a0 0 o3)).map TConfig.D)) <| gW 42 (.sl (((([] : List TConfig) ++ (sub a0 0 o3)) ++ [a1]).map TConfig.D)) <| gW 46 (.sl ((sub a0 o3 (a0.length : Int)).map TConfig.D)) <| gW 47 (.sl ((((([] : List TConfig) ++ (sub a0 0 o3)) ++ [a1]) ++ (sub a0 o3 (a0.length : Int))).map TConfig.D)) ?_
  obtain ⟨h15, h⟩ := cS h
  refine gQ (cut_some TConfig.D h15) <| gQ (nc_ok TConfig.D (sub a0 0 o3)) ?_
  obtain ⟨h16, h⟩ := cS h
  refine gQ (fit_map TConfig.D h16) <| gQ (app_map TConfig.D ([] : List TConfig) (sub a0 0 o3)) <| gQ (nc_ok TConfig.D [a1]) <| gQ (nc_ok TConfig.D [a1]) ?_
  obtain ⟨h17, h⟩ := cS h
  refine gQ (fit_map TConfig.D h17) <| gQ (app_map TConfig.D (([] : List TConfig) ++ (sub a0 0 o3)) [a1]) ?_
  obtain ⟨h18, h⟩ := cS h
  refine gQ (cut_none TConfig.D h18) <| gQ (nc_ok TConfig.D (sub a0 o3 (a0.length : Int))) ?_
  obtain ⟨h19, h⟩ := cS h
  refine gQ (fit_map TConfig.D h19) <| gQ (app_map TConfig.D ((([] : List TConfig) ++ (sub a0 0 o3)) ++ [a1]) (sub a0 o3 (a0.length : Int))) ?_
  exact lF h []
def ref18_Of_l1_I (s0 : List TConfig) (s3 : List TConfig) (s4 : Int) : St := ⟨sp 18 0 [(0, .d ((D.l TConfig.D) s0)), (3, .d ((D.l TConfig.D) s3)), (4, dI s4)], [], []⟩
def ref18_Of_l1_O (s0 : List TConfig) (o : (List TConfig)) : Ex × St := (.exit 0, ⟨sp 18 0 [(3, .d ((D.l TConfig.D) o))], [], []⟩)
theorem ref18_Of_l1_ok (rd : Option Nat) {s0 : List TConfig} {s3 : List TConfig} {s4 : Int} {t : (List TConfig)} (h : ref18_Of_l1 s0 s3 s4 = some t) : LpOfR Tryz.prog rd (fbody Tryz.prog 13) [0, 1, 0, 1, 1] (ref18_Of_l1_I s0 s3 s4) ((ref18_Of_l1_O s0) t) :=
  loopE_lpR (fun s : List TConfig × Int => ref18_Of_l1_I s0 s.1 s.2) (ref18_Of_l1_O s0) (by kernel_rfl) (fun t => isN_ne (by rfl)) (fun ⟨s3, s4⟩ o h => by
  replace h : ref18_Of_l1_s s0 s3 s4 = some o := h
  unfold ref18_Of_l1_s at h
  apply g0 (o := o)
  refine gN 7 TConfig.D s0 ?_
  refine iB 8 h (fun h => ?_) fun h => ?_
  refine xX 14 TConfig.D h fun x3 h => ?_
  obtain ⟨r4, h6, h⟩ := bS h
  refine gC 16 (ref18_Put_ok h6) ?_
  exact lB h (lv [0,3,4] [])
  exact lB h (lv [3] [])) (s := (s3, s4)) (t := t) h
theorem ref18_Of_ok {a0 : List TConfig} {r : List TConfig} (h : ref18_Of a0 = some r) : ACall Tryz.prog 13 [.d ((D.l TConfig.D) a0)] [] (.d ((D.l TConfig.D) r)) [] := by
  unfold ref18_Of at h
  apply g0 (o := r)
  obtain ⟨o5, h7, h⟩ := bS h
  refine gL [.look 3, .live [0,3,4], .keep []] (ref18_Of_l1_ok none h7) ?_
  exact lF h []
def ref19_free_l1_I (us : List Value) (s1 : List TSlot) (s6 : Int) (w5 : List TValue) : St := ⟨sp 29 0 [(1, .d ((D.l TSlot.D) s1)), (5, .row 5), (6, dI s6)], [(5, .rw 54 4 (w5.map TValue.D)), (997, .vals [] us)], []⟩
def ref19_free_l1_O (us : List Value) (s1 : List TSlot) (o : (List TValue)) : Ex × St := (.exit 0, ⟨sp 29 0 [(5, .row 5)], [(5, .rw 54 4 (o.map TValue.D)), (997, .vals [] us)], []⟩)
theorem ref19_free_l1_ok (rd : Option Nat) (us : List Value) {s1 : List TSlot} {s6 : Int} {w5 : List TValue} {t : (List TValue)} (h : ref19_free_l1 s1 s6 w5 = some t) : LpOfR Tryz.prog rd (fbody Tryz.prog 71) [0, 1, 0, 1, 1] (ref19_free_l1_I us s1 s6 w5) ((ref19_free_l1_O us s1) t) :=
  loopE_lpR (fun s : Int × List TValue => ref19_free_l1_I us s1 s.1 s.2) (ref19_free_l1_O us s1) (by kernel_rfl) (fun t => isN_ne (by rfl)) (fun ⟨s6, w5⟩ o h => by
  replace h : ref19_free_l1_s s1 s6 w5 = some o := h
  unfold ref19_free_l1_s at h
  apply g0 (o := o)
  refine gN 12 TSlot.D s1 ?_
  refine iB 13 h (fun h => ?_) fun h => ?_
  refine xX 19 TSlot.D h fun x1 h => ?_
  refine xX 24 TSlot.D h fun x2 h => ?_
  refine gW 10027 (.sl ((w5.set x1.var.toNat x2.value).map TValue.D)) ?_
  obtain ⟨h5, h⟩ := cS h
  refine gQ h5.1 <| gQ (le_map TValue.D h5.2) ?_
  obtain ⟨h6, h⟩ := cS h
  refine gQ (le_ep TValue.D h6) <| gQ (upd_map TValue.D w5 x1.var x2.value) ?_
  exact lB h (lv [1,5,6] [5,997])
  exact lB h (lv [5] [5,997])) (s := (s6, w5)) (t := t) h
theorem ref19_free_ok {a0 : List TValue} {a1 : List TSlot} {r : List TValue} (h : ref19_free a0 a1 = some r) : ACall Tryz.prog 71 [.d ((D.l TValue.D) a0), .d ((D.l TSlot.D) a1)] [] (.row 0) [(0, .rw 54 4 (r.map TValue.D))] := by
  unfold ref19_free at h
  refine XG.call (ks := []) mixed fun us => ?_
  apply g0 (o := r)
  refine gQ (nc_ok TValue.D ([] : List TValue)) <| gG 9 (.rwl ((a0).map TValue.D)) (nc_ok TValue.D a0) ?_
  obtain ⟨h1, h⟩ := cS h
  refine gQ (fit_map TValue.D h1) <| gQ (app_map TValue.D ([] : List TValue) a0) ?_
  obtain ⟨o3, h7, h⟩ := bS h
  refine gL [.live [1,5,6], .keep [9,997], .ren 9 5, .sort] (ref19_free_l1_ok none us h7) ?_
  exact lX h [.live [4], .keep [5,997], .ren 5 0, .sort]
theorem ref16_Value_F_ok (self : TQea → Int → (List TSlot) → (List TValue) → Option (TValue × Int)) (hs : ∀ (a0 : TQea) (a1 : Int) (a2 : List TSlot) (a3 : List TValue) (r : TValue × Int), self a0 a1 a2 a3 = some r → ACall Tryz.prog 106 [.d (TQea.D a0), dI a1, .d ((D.l TSlot.D) a2), .d ((D.l TValue.D) a3)] [] (.tup [.d (TValue.D r.1), dI r.2]) []) (a0 : TQea) (a1 : Int) (a2 : List TSlot) (a3 : List TValue) (r : TValue × Int) (h : ref16_Value_F self a0 a1 a2 a3 = some r) : ACall Tryz.prog 106 [.d (TQea.D a0), dI a1, .d ((D.l TSlot.D) a2), .d ((D.l TValue.D) a3)] [] (.tup [.d (TValue.D r.1), dI r.2]) [] := by
  unfold ref16_Value_F at h
  apply g0 (o := r)
  refine xX 19 TNode.D h fun x1 h => ?_
  refine iB 23 h (fun h => ?_) fun h => ?_
  exact lF h []
  refine iB 28 h (fun h => ?_) fun h => ?_
  obtain ⟨r2, h4, h⟩ := bS h
  refine gC 33 (ref05_Get_ok h4) ?_
  refine iB 38 h (fun h => ?_) fun h => ?_
  exact lF h []
  refine xX 45 TQuant.D h fun x3 h => ?_
  refine iB 49 h (fun h => ?_) fun h => ?_
  exact lF h []
  exact lF h []
  refine iB 54 h (fun h => ?_) fun h => ?_
  refine xX 58 TValue.D h fun x4 h => ?_
  exact lF h []
  obtain ⟨r5, h10, h⟩ := bS h
  refine gG 66 (.ret (.tup [.d (TValue.D r5.1), dI r5.2])) (hs a0 x1.a a2 a3 r5 h10) ?_
  refine iB 70 h (fun h => ?_) fun h => ?_
  exact lF h []
  refine iB 75 h (fun h => ?_) fun h => ?_
  obtain ⟨r6, h13, h⟩ := bS h
  refine gC 80 (ref03_Op_ok h13) ?_
  exact lF h []
  refine iB 86 h (fun h => ?_) fun h => ?_
  refine iB 91 h (fun h => ?_) fun h => ?_
  exact lF h []
  refine iB 95 h (fun h => ?_) fun h => ?_
  refine iB 99 h (fun h => ?_) fun h => ?_
  exact lF h []
  obtain ⟨r7, h18, h⟩ := bS h
  refine gG 107 (.ret (.tup [.d (TValue.D r7.1), dI r7.2])) (hs a0 x1.b a2 a3 r7 h18) ?_
  refine iB 111 h (fun h => ?_) fun h => ?_
  exact lF h []
  obtain ⟨r8, h20, h⟩ := bS h
  refine gC 118 (ref03_Op_ok h20) ?_
  exact lF h []
  obtain ⟨r9, h21, h⟩ := bS h
  refine gG 107 (.ret (.tup [.d (TValue.D r9.1), dI r9.2])) (hs a0 x1.b a2 a3 r9 h21) ?_
  refine iB 111 h (fun h => ?_) fun h => ?_
  exact lF h []
  obtain ⟨r10, h23, h⟩ := bS h
  refine gC 118 (ref03_Op_ok h23) ?_
  exact lF h []
  refine iB 95 h (fun h => ?_) fun h => ?_
  refine iB 99 h (fun h => ?_) fun h => ?_
  exact lF h []
  obtain ⟨r11, h26, h⟩ := bS h
  refine gG 107 (.ret (.tup [.d (TValue.D r11.1), dI r11.2])) (hs a0 x1.b a2 a3 r11 h26) ?_
  refine iB 111 h (fun h => ?_) fun h => ?_
  exact lF h []
  obtain ⟨r12, h28, h⟩ := bS h
  refine gC 118 (ref03_Op_ok h28) ?_
  exact lF h []
  obtain ⟨r13, h29, h⟩ := bS h
  refine gG 107 (.ret (.tup [.d (TValue.D r13.1), dI r13.2])) (hs a0 x1.b a2 a3 r13 h29) ?_
  refine iB 111 h (fun h => ?_) fun h => ?_
  exact lF h []
  obtain ⟨r14, h31, h⟩ := bS h
  refine gC 118 (ref03_Op_ok h31) ?_
  exact lF h []
theorem ref16_Value_n_ok : ∀ (n : Nat) (a0 : TQea) (a1 : Int) (a2 : List TSlot) (a3 : List TValue) (r : TValue × Int), ref16_Value_n n a0 a1 a2 a3 = some r → ACall Tryz.prog 106 [.d (TQea.D a0), dI a1, .d ((D.l TSlot.D) a2), .d ((D.l TValue.D) a3)] [] (.tup [.d (TValue.D r.1), dI r.2]) []
  | 0, a0, a1, a2, a3, r, h => by simp [ref16_Value_n] at h
  | n + 1, a0, a1, a2, a3, r, h => ref16_Value_F_ok _ (ref16_Value_n_ok n) a0 a1 a2 a3 r h
theorem ref16_Value_ok {a0 : TQea} {a1 : Int} {a2 : List TSlot} {a3 : List TValue} {r : TValue × Int} (h : ref16_Value a0 a1 a2 a3 = some r) : ACall Tryz.prog 106 [.d (TQea.D a0), dI a1, .d ((D.l TSlot.D) a2), .d ((D.l TValue.D) a3)] [] (.tup [.d (TValue.D r.1), dI r.2]) [] := ref16_Value_n_ok 100000 a0 a1 a2 a3 r h
theorem ref16_Guard_ok {a0 : TQea} {a1 : Int} {a2 : List TSlot} {a3 : List TValue} {r : Bool × Int} (h : ref16_Guard a0 a1 a2 a3 = some r) : ACall Tryz.prog 72 [.d (TQea.D a0), dI a1, .d ((D.l TSlot.D) a2), .d ((D.l TValue.D) a3)] [] (.tup [.d (D.b r.1), dI r.2]) [] := by
  unfold ref16_Guard at h
  apply g0 (o := r)
  refine xX 16 TTrans.D h fun x1 h => ?_
  refine iB 20 h (fun h => ?_) fun h => ?_
  exact lF h []
  obtain ⟨r2, h3, h⟩ := bS h
  refine gC 26 (ref16_Value_ok h3) ?_
  exact lF h []
def ref16_Sets_l1_I (us : List Value) (s2 : List TSlot) (s11 : List TSet) (w3 : List TValue) (w4 : TQea) (s12 : Int) (w10 : List TValue) : St := ⟨sp 54 0 [(2, .d ((D.l TSlot.D) s2)), (3, .row 3), (4, .box 4 0), (10, .row 10), (11, .d ((D.l TSet.D) s11)), (12, dI s12)], [(3, .row 54 4 (w3.map TValue.D)), (4, .cells ((cellsA (TQea.D w4)))), (10, .rw 54 4 (w10.map TValue.D)), (997, .vals [] us)], []⟩
def ref16_Sets_l1_O (us : List Value) (s2 : List TSlot) (s11 : List TSet) (w3 : List TValue) (w4 : TQea) (o : (List TValue) ⊕ Int) : Ex × St := match o with
  | .inl o => (.exit 0, ⟨sp 54 0 [(10, .row 10)], [(10, .rw 54 4 (o.map TValue.D)), (997, .vals [] us)], []⟩)
  | .inr o => (.ret, ⟨sp 54 0 [(8, .nil), (9, dI o)], [(997, .vals [] us)], []⟩)
theorem ref16_Sets_l1_ok (rd : Option Nat) (us : List Value) {s2 : List TSlot} {s11 : List TSet} {w3 : List TValue} {w4 : TQea} {s12 : Int} {w10 : List TValue} {t : (List TValue) ⊕ Int} (h : ref16_Sets_l1 s2 s11 w3 w4 s12 w10 = some t) : LpOfR Tryz.prog rd (fbody Tryz.prog 73) [0, 1, 0, 1, 1, 1] (ref16_Sets_l1_I us s2 s11 w3 w4 s12 w10) ((ref16_Sets_l1_O us s2 s11 w3 w4) t) :=
  loopE_lpR (fun s : Int × List TValue => ref16_Sets_l1_I us s2 s11 w3 w4 s.1 s.2) (ref16_Sets_l1_O us s2 s11 w3 w4) (by kernel_rfl) (fun t => isN_ne (by rcases t with (_ | _) <;> rfl)) (fun ⟨s12, w10⟩ o h => by
  replace h : ref16_Sets_l1_s s2 s11 w3 w4 s12 w10 = some o := h
  unfold ref16_Sets_l1_s at h
  apply g0 (o := o)
  refine gN 26 TSet.D s11 ?_
  refine iB 27 h (fun h => ?_) fun h => ?_
  refine xX 34 TSet.D h fun x2 h => ?_
  obtain ⟨r3, h5, h⟩ := bS h
  refine gC 39 (ref16_Value_ok h5) ?_
  refine iB 43 h (fun h => ?_) fun h => ?_
  exact lB h (lv [8,9] [997])
  refine xX 48 TSet.D h fun x4 h => ?_
  refine gW 10052 (.sl ((w10.set x4.free.toNat r3.1).map TValue.D)) ?_
  obtain ⟨h8, h⟩ := cS h
  refine gQ h8.1 <| gQ (le_map TValue.D h8.2) ?_
  obtain ⟨h9, h⟩ := cS h
  refine gQ (le_ep TValue.D h9) <| gQ (upd_map TValue.D w10 x4.free r3.1) ?_
  exact lB h (lv [2,3,4,10,11,12] [3,4,10,997])
  exact lB h (lv [10] [10,997])) (s := (s12, w10)) (t := t) h
theorem ref16_Sets_ok {a0 : TQea} {a1 : Int} {a2 : List TSlot} {w0 : List TValue} {r : List TValue × Int} (h : ref16_Sets a0 a1 a2 w0 = some r) : ACall Tryz.prog 73 [.d (TQea.D a0), dI a1, .d ((D.l TSlot.D) a2), .row 0] [(0, .rw 54 4 (w0.map TValue.D))] (.tup [.d ((D.l TValue.D) r.1), dI r.2]) [] := by
  unfold ref16_Sets at h
  refine XG.call (ks := []) mixed fun us => ?_
  apply g0 (o := r)
  refine gQ (nc_ok TValue.D ([] : List TValue)) <| gG 17 (.rwl ((w0).map TValue.D)) (nc_ok TValue.D w0) <| gW 16 (.fzn 0) ?_
  obtain ⟨h1, h⟩ := cS h
  refine gQ (fit_map TValue.D h1) <| gQ (app_map TValue.D ([] : List TValue) w0) <| xX 21 TTrans.D h fun x1 h => ?_
  obtain ⟨o5, h10, h⟩ := bS h
  refine gL [.live [2,3,4,10,11,12], .keep [0,4,17,997], .ren 0 3, .ren 17 10, .sort] (ref16_Sets_l1_ok none us h10) ?_
  rcases sumE_some h with ⟨o6, rfl, h⟩ | ⟨o7, rfl, h⟩
  exact lX h [.frz 10, .look 8, .live [8,9], .keep [997]]
  exact lX h [.look 8, .live [8,9], .keep [997]]
theorem ref19_fired_ok {a0 : TQea} {a1 : Int} {a2 : TConfig} {a3 : THit} {r : TConfig × Bool × Int} (h : ref19_fired a0 a1 a2 a3 = some r) : ACall Tryz.prog 49 [.d (TQea.D a0), dI a1, .d (TConfig.D a2), .d (THit.D a3)] [] (.tup [.d (TConfig.D r.1), .d (D.b r.2.1), dI r.2.2]) [] := by
  unfold ref19_fired at h
  apply g0 (o := r)
  obtain ⟨r1, h1, h⟩ := bS h
  refine gG 19 (.cx false [] [(0,19)] (.row 0) [(0, .rw 54 4 (r1.map TValue.D))]) (ref19_free_ok h1) ?_
  obtain ⟨r2, h2, h⟩ := bS h
  refine gG 26 (.lend [19] (.tup [.d (D.b r2.1), dI r2.2])) (ref16_Guard_ok h2) ?_
  refine iB 31 h (fun h => ?_) fun h => ?_
  exact lF h []
  refine iB 34 h (fun h => ?_) fun h => ?_
  exact lF h []
  obtain ⟨r3, h5, h⟩ := bS h
  refine gG 43 (.cx false [(0,19)] [] (.tup [.d ((D.l TValue.D) r3.1), dI r3.2]) []) (ref16_Sets_ok h5) ?_
  refine iB 47 h (fun h => ?_) fun h => ?_
  exact lF h []
  refine xX 53 TTrans.D h fun x4 h => ?_
  exact lF h []
theorem ref19_worse_ok {a0 : Int} {a1 : Int} {r : Int} (h : ref19_worse a0 a1 = some r) : ACall Tryz.prog 30 [dI a0, dI a1] [] (dI r) [] := by
  unfold ref19_worse at h
  apply g0 (o := r)
  refine iB 7 h (fun h => ?_) fun h => ?_
  exact lF h []
  refine iB 10 h (fun h => ?_) fun h => ?_
  refine iB 15 h (fun h => ?_) fun h => ?_
  exact lF h []
  exact lF h []
  exact lF h []
def ref18_Put_v2_l1_I (us : List Value) (w0 : List TConfig) (w3 : TConfig) (s5 : Int) : St := ⟨sp 48 0 [(0, .row 0), (3, .box 3 0), (5, dI s5)], [(0, .rw 44 2 (w0.map TConfig.D)), (3, .cells ((cellsA (TConfig.D w3)))), (997, .vals [] us)], []⟩
def ref18_Put_v2_l1_O (us : List Value) (w0 : List TConfig) (w3 : TConfig) (o : Int) : Ex × St := (.exit 0, ⟨sp 48 0 [(0, .row 0), (3, .box 3 0), (5, dI o)], [(0, .rw 44 2 (w0.map TConfig.D)), (3, .cells ((cellsA (TConfig.D w3)))), (997, .vals [] us)], []⟩)
theorem ref18_Put_v2_l1_ok (rd : Option Nat) (us : List Value) {w0 : List TConfig} {w3 : TConfig} {s5 : Int} {t : Int} (h : ref18_Put_v2_l1 w0 w3 s5 = some t) : LpOfR Tryz.prog rd (fbody Tryz.prog 31) [0, 0, 1, 1] (ref18_Put_v2_l1_I us w0 w3 s5) ((ref18_Put_v2_l1_O us w0 w3) t) :=
  loopE_lpR (fun s : Int => ref18_Put_v2_l1_I us w0 w3 s) (ref18_Put_v2_l1_O us w0 w3) (by kernel_rfl) (fun t => isN_ne (by rfl)) (fun s5 o h => by
  replace h : ref18_Put_v2_l1_s w0 w3 s5 = some o := h
  unfold ref18_Put_v2_l1_s at h
  apply g0 (o := o)
  refine iB 11 h (fun h => ?_) fun h => ?_
  obtain ⟨h2, h⟩ := cS h
  refine gQ h2.1 <| gQ (le_map TConfig.D h2.2) ?_
  obtain ⟨x1, h3, h⟩ := xS h
  refine gG 17 (.el (TConfig.D x1)) (elem_ep TConfig.D h3) ?_
  obtain ⟨r2, h4, h⟩ := bS h
  refine gQ (ref18_Less_ok h4) ?_
  cases r2
  replace h := iteF h
  refine gW 18 (.ret (.d (D.b false))) ?_
  exact lB h (lv [0,3,5] [0,3,997])
  replace h := iteT h
  refine gW 18 (.ret (.d (D.b true))) ?_
  exact lB h (lv [0,3,5] [0,3,997])
  exact lB h (lv [0,3,5] [0,3,997])) (s := s5) (t := t) h
theorem ref18_Put_v2_ok {a1 : TConfig} {w0 : List TConfig} {r : List TConfig} (h : ref18_Put_v2 a1 w0 = some r) : ACall Tryz.prog 31 [.row 0, .d (TConfig.D a1)] [(0, .rw 44 2 (w0.map TConfig.D))] (.row 1) [(1, .rw 44 2 (r.map TConfig.D))] := by
  unfold ref18_Put_v2 at h
  refine XG.call (ks := []) mixed fun us => ?_
  apply g0 (o := r)
  refine gN 8 TConfig.D w0 ?_
  obtain ⟨o3, h6, h⟩ := bS h
  refine gL (lv [0,3,5] [0,3,997]) (ref18_Put_v2_l1_ok none us h6) ?_
  refine iB 24 h (fun h => ?_) fun h => ?_
  obtain ⟨h8, h⟩ := cS h
  refine gQ h8.1 <| gQ (le_map TConfig.D h8.2) ?_
  obtain ⟨x4, h9, h⟩ := xS h
  refine gG 29 (.el (TConfig.D x4)) (elem_ep TConfig.D h9) ?_
  obtain ⟨r5, h10, h⟩ := bS h
  refine gQ (ref18_One_ok h10) ?_
  cases r5
  replace h := iteF h
  refine gQ (nc_ok TConfig.D ([] : List TConfig)) <| gW 31 (.ret (.d (D.b false))) <| gW 35 (.fzn 0) <| gW 37 (.sl ((sub w0 0 o3).map TConfig.D)) <| gW 38 (.rwl ((sub w0 0 o3).map TConfig.D)) <| gW 42 (.rwl (((sub w0 0 o3) ++ [a1]).map TConfig.D)) <| gW 46 (.sl ((sub w0 o3 (w0.length : Int)).map TConfig.D)) <| gW 47 (.rwl ((((sub w0 0 o3) ++ [a1]) ++ (sub w0 o3 (w0.length : Int))).map TConfig.D)) ?_
  obtain ⟨h12, h⟩ := cS h
  refine gQ (cut_some TConfig.D h12) <| gQ (nc_ok TConfig.D (sub w0 0 o3)) ?_
  obtain ⟨h13, h⟩ := cS h
  refine gQ (fit_map TConfig.D h13) <| gQ (app_map TConfig.D ([] : List TConfig) (sub w0 0 o3)) <| gQ (nc_ok TConfig.D [a1]) <| gQ (nc_ok TConfig.D [a1]) ?_
  obtain ⟨h14, h⟩ := cS h
  refine gQ (fit_map TConfig.D h14) <| gQ (app_map TConfig.D (sub w0 0 o3) [a1]) ?_
  obtain ⟨h15, h⟩ := cS h
  refine gQ (cut_none TConfig.D h15) <| gQ (nc_ok TConfig.D (sub w0 o3 (w0.length : Int))) ?_
  obtain ⟨h16, h⟩ := cS h
  refine gQ (fit_map TConfig.D h16) <| gQ (app_map TConfig.D ((sub w0 0 o3) ++ [a1]) (sub w0 o3 (w0.length : Int))) ?_
  exact lX h [.live [4], .keep [47,997], .ren 47 1, .sort]
  replace h := iteT h
  refine gW 31 (.ret (.d (D.b true))) ?_
  exact lX h [.live [4], .keep [0,997], .ren 0 1, .sort]
  refine gQ (nc_ok TConfig.D ([] : List TConfig)) <| gW 35 (.fzn 0) <| gW 37 (.sl ((sub w0 0 o3).map TConfig.D)) <| gW 38 (.rwl ((sub w0 0 o3).map TConfig.D)) <| gW 42 (.rwl (((sub w0 0 o3) ++ [a1]).map TConfig.D)) <| gW 46 (.sl ((sub w0 o3 (w0.length : Int)).map TConfig.D)) <| gW 47 (.rwl ((((sub w0 0 o3) ++ [a1]) ++ (sub w0 o3 (w0.length : Int))).map TConfig.D)) ?_
  obtain ⟨h17, h⟩ := cS h
  refine gQ (cut_some TConfig.D h17) <| gQ (nc_ok TConfig.D (sub w0 0 o3)) ?_
  obtain ⟨h18, h⟩ := cS h
  refine gQ (fit_map TConfig.D h18) <| gQ (app_map TConfig.D ([] : List TConfig) (sub w0 0 o3)) <| gQ (nc_ok TConfig.D [a1]) <| gQ (nc_ok TConfig.D [a1]) ?_
  obtain ⟨h19, h⟩ := cS h
  refine gQ (fit_map TConfig.D h19) <| gQ (app_map TConfig.D (sub w0 0 o3) [a1]) ?_
  obtain ⟨h20, h⟩ := cS h
  refine gQ (cut_none TConfig.D h20) <| gQ (nc_ok TConfig.D (sub w0 o3 (w0.length : Int))) ?_
  obtain ⟨h21, h⟩ := cS h
  refine gQ (fit_map TConfig.D h21) <| gQ (app_map TConfig.D ((sub w0 0 o3) ++ [a1]) (sub w0 o3 (w0.length : Int))) ?_
  exact lX h [.live [4], .keep [47,997], .ren 47 1, .sort]
def ref19_One_b5_I (s2 : List THit) (s9 : Int) (s10 : Int) (s11 : Int) (s64 : Bool) (w3 : TQea) (w4 : TConfig) (w8 : List TConfig) (w12 : TConfig) : St := ⟨sp 89 0 [(2, .d ((D.l THit.D) s2)), (3, .box 3 0), (4, .box 4 0), (8, .row 8), (9, dI s9), (10, dI s10), (11, dI s11), (12, .box 12 0), (64, .d (D.b s64))], [(3, .cells ((cellsA (TQea.D w3)))), (4, .cells ((cellsA (TConfig.D w4)))), (8, .rw 44 2 (w8.map TConfig.D)), (12, .cells ((cellsA (TConfig.D w12))))], []⟩
def ref19_One_b5_O (s2 : List THit) (s9 : Int) (s10 : Int) (s11 : Int) (s64 : Bool) (w3 : TQea) (w4 : TConfig) (w8 : List TConfig) (w12 : TConfig) (o : (List TConfig)) : Ex × St := (.normal, ⟨sp 89 0 [(2, .d ((D.l THit.D) s2)), (3, .box 3 0), (4, .box 4 0), (8, .row 8), (9, dI s9), (10, dI s10), (11, dI s11)], [(3, .cells ((cellsA (TQea.D w3)))), (4, .cells ((cellsA (TConfig.D w4)))), (8, .rw 44 2 (o.map TConfig.D))], []⟩)
theorem ref19_One_b5_ok (rd : Option Nat) {s2 : List THit} {s9 : Int} {s10 : Int} {s11 : Int} {s64 : Bool} {w3 : TQea} {w4 : TConfig} {w8 : List TConfig} {w12 : TConfig} {o : (List TConfig)} (h : ref19_One_b5 s2 s9 s10 s11 s64 w3 w4 w8 w12 = some o) : LpOfR Tryz.prog rd (fbody Tryz.prog 29) [1, 1, 1, 1, 0, 0, 1, 0, 0, 1, 1, 0, 0, 1, 0, 0, 1, 0, 1, 1, 1] (ref19_One_b5_I s2 s9 s10 s11 s64 w3 w4 w8 w12) (ref19_One_b5_O s2 s9 s10 s11 s64 w3 w4 w8 w12 o) := by
  unfold ref19_One_b5 at h
  apply g0 (o := o)
  cases s64
  replace h := iteF h
  exact lP h (lv [2,3,4,8,9,10,11] [3,4,8])
  replace h := iteT h
  obtain ⟨r7, h12, h⟩ := bS h
  refine gG 67 (.cx false [(0,8)] [(1,67)] (.row 1) [(1, .rw 44 2 (r7.map TConfig.D))]) (ref18_Put_v2_ok h12) ?_
  exact lP h [.live [2,3,4,8,9,10,11], .keep [3,4,67], .ren 67 8, .sort]
def ref19_One_b4_I (s2 : List THit) (s9 : Int) (s10 : Int) (s11 : Int) (w3 : TQea) (w4 : TConfig) (w8 : List TConfig) : St := ⟨sp 89 0 [(2, .d ((D.l THit.D) s2)), (3, .box 3 0), (4, .box 4 0), (8, .row 8), (9, dI s9), (10, dI s10), (11, dI s11)], [(3, .cells ((cellsA (TQea.D w3)))), (4, .cells ((cellsA (TConfig.D w4)))), (8, .rw 44 2 (w8.map TConfig.D))], []⟩
def ref19_One_b4_O (s2 : List THit) (s9 : Int) (s10 : Int) (s11 : Int) (w3 : TQea) (w4 : TConfig) (w8 : List TConfig) (o : (Int × List TConfig)) : Ex × St := (.normal, ⟨sp 89 0 [(2, .d ((D.l THit.D) s2)), (3, .box 3 0), (4, .box 4 0), (8, .row 8), (9, dI o.1), (10, dI s10), (11, dI s11)], [(3, .cells ((cellsA (TQea.D w3)))), (4, .cells ((cellsA (TConfig.D w4)))), (8, .rw 44 2 (o.2.map TConfig.D))], []⟩)
theorem ref19_One_b4_ok (rd : Option Nat) {s2 : List THit} {s9 : Int} {s10 : Int} {s11 : Int} {w3 : TQea} {w4 : TConfig} {w8 : List TConfig} {o : (Int × List TConfig)} (h : ref19_One_b4 s2 s9 s10 s11 w3 w4 w8 = some o) : LpOfR Tryz.prog rd (fbody Tryz.prog 29) [0, 1, 0, 0, 1, 1, 0, 0, 1, 0, 0, 1, 0, 1, 1, 1] (ref19_One_b4_I s2 s9 s10 s11 w3 w4 w8) (ref19_One_b4_O s2 s9 s10 s11 w3 w4 w8 o) := by
  unfold ref19_One_b4 at h
  apply g0 (o := o)
  refine xX 39 THit.D h fun x2 h => ?_
  refine xX 45 TTrans.D h fun x3 h => ?_
  refine iB 48 h (fun h => ?_) fun h => ?_
  exact lP h (lv [2,3,4,8,9,10,11] [3,4,8])
  refine xX 55 THit.D h fun x4 h => ?_
  obtain ⟨r5, h9, h⟩ := bS h
  refine gC 57 (ref19_fired_ok h9) ?_
  obtain ⟨r6, h10, h⟩ := bS h
  refine gC 63 (ref19_worse_ok h10) ?_
  obtain ⟨o8, h13, h⟩ := bS h
  refine gL (lv [2,3,4,8,9,10,11,12,64] [3,4,8,12]) (ref19_One_b5_ok rd h13) ?_
  exact lP h (lv [2,3,4,8,9,10,11] [3,4,8])
def ref19_One_l3_I (s2 : List THit) (s10 : Int) (w3 : TQea) (w4 : TConfig) (s9 : Int) (s11 : Int) (w8 : List TConfig) : St := ⟨sp 89 0 [(2, .d ((D.l THit.D) s2)), (3, .box 3 0), (4, .box 4 0), (8, .row 8), (9, dI s9), (10, dI s10), (11, dI s11)], [(3, .cells ((cellsA (TQea.D w3)))), (4, .cells ((cellsA (TConfig.D w4)))), (8, .rw 44 2 (w8.map TConfig.D))], []⟩
def ref19_One_l3_O (s2 : List THit) (s10 : Int) (w3 : TQea) (w4 : TConfig) (o : (Int × List TConfig)) : Ex × St := (.exit 2, ⟨sp 89 0 [(2, .d ((D.l THit.D) s2)), (3, .box 3 0), (4, .box 4 0), (8, .row 8), (9, dI o.1), (10, dI s10)], [(3, .cells ((cellsA (TQea.D w3)))), (4, .cells ((cellsA (TConfig.D w4)))), (8, .rw 44 2 (o.2.map TConfig.D))], []⟩)
theorem ref19_One_l3_ok (rd : Option Nat) {s2 : List THit} {s10 : Int} {w3 : TQea} {w4 : TConfig} {s9 : Int} {s11 : Int} {w8 : List TConfig} {t : (Int × List TConfig)} (h : ref19_One_l3 s2 s10 w3 w4 s9 s11 w8 = some t) : LpOfR Tryz.prog rd (fbody Tryz.prog 29) [0, 1, 1, 0, 0, 1, 0, 0, 1, 0, 1, 1, 1] (ref19_One_l3_I s2 s10 w3 w4 s9 s11 w8) ((ref19_One_l3_O s2 s10 w3 w4) t) :=
  loopE_lpR (fun s : Int × Int × List TConfig => ref19_One_l3_I s2 s10 w3 w4 s.1 s.2.1 s.2.2) (ref19_One_l3_O s2 s10 w3 w4) (by kernel_rfl) (fun t => isN_ne (by rfl)) (fun ⟨s9, s11, w8⟩ o h => by
  replace h : ref19_One_l3_s s2 s10 w3 w4 s9 s11 w8 = some o := h
  unfold ref19_One_l3_s at h
  apply g0 (o := o)
  refine gN 33 THit.D s2 ?_
  refine iB 34 h (fun h => ?_) fun h => ?_
  obtain ⟨o9, h14, h⟩ := bS h
  refine gL (lv [2,3,4,8,9,10,11] [3,4,8]) (ref19_One_b4_ok rd h14) ?_
  exact lB h (lv [2,3,4,8,9,10,11] [3,4,8])
  exact lB h (lv [2,3,4,8,9,10] [3,4,8])) (s := (s9, s11, w8)) (t := t) h
def ref19_One_b2_I (s2 : List THit) (s9 : Int) (s10 : Int) (w3 : TQea) (w4 : TConfig) (w8 : List TConfig) : St := ⟨sp 89 0 [(2, .d ((D.l THit.D) s2)), (3, .box 3 0), (4, .box 4 0), (8, .row 8), (9, dI s9), (10, dI s10)], [(3, .cells ((cellsA (TQea.D w3)))), (4, .cells ((cellsA (TConfig.D w4)))), (8, .rw 44 2 (w8.map TConfig.D))], []⟩
def ref19_One_b2_O (s2 : List THit) (s9 : Int) (s10 : Int) (w3 : TQea) (w4 : TConfig) (w8 : List TConfig) (o : (Int × List TConfig)) : Ex × St := (.normal, ⟨sp 89 0 [(2, .d ((D.l THit.D) s2)), (3, .box 3 0), (4, .box 4 0), (8, .row 8), (9, dI o.1), (10, dI s10)], [(3, .cells ((cellsA (TQea.D w3)))), (4, .cells ((cellsA (TConfig.D w4)))), (8, .rw 44 2 (o.2.map TConfig.D))], []⟩)
theorem ref19_One_b2_ok (rd : Option Nat) {s2 : List THit} {s9 : Int} {s10 : Int} {w3 : TQea} {w4 : TConfig} {w8 : List TConfig} {o : (Int × List TConfig)} (h : ref19_One_b2 s2 s9 s10 w3 w4 w8 = some o) : LpOfR Tryz.prog rd (fbody Tryz.prog 29) [0, 1, 0, 0, 1, 0, 1, 1, 1] (ref19_One_b2_I s2 s9 s10 w3 w4 w8) (ref19_One_b2_O s2 s9 s10 w3 w4 w8 o) := by
  unfold ref19_One_b2 at h
  apply g0 (o := o)
  refine xX 25 TTrans.D h fun x1 h => ?_
  refine iB 30 h (fun h => ?_) fun h => ?_
  exact lP h (lv [2,3,4,8,9,10] [3,4,8])
  obtain ⟨o10, h15, h⟩ := bS h
  refine gL (lv [2,3,4,8,9,10,11] [3,4,8]) (ref19_One_l3_ok rd h15) ?_
  exact lP h (lv [2,3,4,8,9,10] [3,4,8])
def ref19_One_l1_I (s2 : List THit) (w3 : TQea) (w4 : TConfig) (s9 : Int) (s10 : Int) (w8 : List TConfig) : St := ⟨sp 89 0 [(2, .d ((D.l THit.D) s2)), (3, .box 3 0), (4, .box 4 0), (8, .row 8), (9, dI s9), (10, dI s10)], [(3, .cells ((cellsA (TQea.D w3)))), (4, .cells ((cellsA (TConfig.D w4)))), (8, .rw 44 2 (w8.map TConfig.D))], []⟩
def ref19_One_l1_O (s2 : List THit) (w3 : TQea) (w4 : TConfig) (o : (Int × List TConfig)) : Ex × St := (.exit 0, ⟨sp 89 0 [(3, .box 3 0), (4, .box 4 0), (8, .row 8), (9, dI o.1)], [(3, .cells ((cellsA (TQea.D w3)))), (4, .cells ((cellsA (TConfig.D w4)))), (8, .rw 44 2 (o.2.map TConfig.D))], []⟩)
theorem ref19_One_l1_ok (rd : Option Nat) {s2 : List THit} {w3 : TQea} {w4 : TConfig} {s9 : Int} {s10 : Int} {w8 : List TConfig} {t : (Int × List TConfig)} (h : ref19_One_l1 s2 w3 w4 s9 s10 w8 = some t) : LpOfR Tryz.prog rd (fbody Tryz.prog 29) [0, 1, 0, 1, 1, 1] (ref19_One_l1_I s2 w3 w4 s9 s10 w8) ((ref19_One_l1_O s2 w3 w4) t) :=
  loopE_lpR (fun s : Int × Int × List TConfig => ref19_One_l1_I s2 w3 w4 s.1 s.2.1 s.2.2) (ref19_One_l1_O s2 w3 w4) (by kernel_rfl) (fun t => isN_ne (by rfl)) (fun ⟨s9, s10, w8⟩ o h => by
  replace h : ref19_One_l1_s s2 w3 w4 s9 s10 w8 = some o := h
  unfold ref19_One_l1_s at h
  apply g0 (o := o)
  refine gN 18 TTrans.D w3.trans ?_
  refine iB 19 h (fun h => ?_) fun h => ?_
  obtain ⟨o11, h16, h⟩ := bS h
  refine gL (lv [2,3,4,8,9,10] [3,4,8]) (ref19_One_b2_ok rd h16) ?_
  exact lB h (lv [2,3,4,8,9,10] [3,4,8])
  exact lB h (lv [3,4,8,9] [3,4,8])) (s := (s9, s10, w8)) (t := t) h
def ref19_One_b6_I (s83 : Bool) (w4 : TConfig) (w8 : List TConfig) : St := ⟨sp 89 0 [(4, .box 4 0), (8, .row 8), (83, .d (D.b s83))], [(4, .cells ((cellsA (TConfig.D w4)))), (8, .rw 44 2 (w8.map TConfig.D))], []⟩
def ref19_One_b6_O (s83 : Bool) (w4 : TConfig) (w8 : List TConfig) (o : (List TConfig)) : Ex × St := (.normal, ⟨sp 89 0 [(8, .row 8)], [(8, .rw 44 2 (o.map TConfig.D))], []⟩)
theorem ref19_One_b6_ok (rd : Option Nat) {s83 : Bool} {w4 : TConfig} {w8 : List TConfig} {o : (List TConfig)} (h : ref19_One_b6 s83 w4 w8 = some o) : LpOfR Tryz.prog rd (fbody Tryz.prog 29) [1, 0, 1, 1, 1, 1, 1] (ref19_One_b6_I s83 w4 w8) (ref19_One_b6_O s83 w4 w8 o) := by
  unfold ref19_One_b6 at h
  apply g0 (o := o)
  cases s83
  replace h := iteF h
  exact lP h (lv [8] [8])
  replace h := iteT h
  refine gQ (nc_ok TConfig.D [w4]) <| gG 87 (.rwl ((w8 ++ [w4]).map TConfig.D)) (nc_ok TConfig.D [w4]) ?_
  obtain ⟨h22, h⟩ := cS h
  refine gQ (fit_map TConfig.D h22) <| gQ (app_map TConfig.D w8 [w4]) ?_
  exact lP h [.live [8], .keep [87], .ren 87 8, .sort]
theorem ref19_One_ok {a0 : TQea} {a1 : TConfig} {a2 : List THit} {r : List TConfig × Int} (h : ref19_One a0 a1 a2 = some r) : ACall Tryz.prog 29 [.d (TQea.D a0), .d (TConfig.D a1), .d ((D.l THit.D) a2)] [] (.tup [.d ((D.l TConfig.D) r.1), dI r.2]) [] := by
  unfold ref19_One at h
  apply g0 (o := r)
  obtain ⟨o12, h17, h⟩ := bS h
  refine gL [.live [2,3,4,8,9,10], .keep [3,4], .nilw 8 8 44 2, .sort] (ref19_One_l1_ok none h17) ?_
  refine iB 69 h (fun h => ?_) fun h => ?_
  exact lF h []
  refine gN 72 TConfig.D o12.2 ?_
  refine iB 74 h (fun h => ?_) fun h => ?_
  refine xX 79 TState.D h fun x13 h => ?_
  obtain ⟨o14, h23, h⟩ := bS h
  refine gL (lv [4,8,83] [4,8]) (ref19_One_b6_ok none h23) ?_
  exact lF h [.frz 8]
  obtain ⟨o15, h24, h⟩ := bS h
  refine gL (lv [4,8,83] [4,8]) (ref19_One_b6_ok none h24) ?_
  exact lF h [.frz 8]
def ref19_All_l3_I (s1 : List TConfig) (s2 : List THit) (s9 : Int) (s10 : Int) (s11 : List TConfig) (w3 : TQea) (s8 : List TConfig) (s13 : Int) : St := ⟨sp 56 0 [(1, .d ((D.l TConfig.D) s1)), (2, .d ((D.l THit.D) s2)), (3, .box 3 0), (8, .d ((D.l TConfig.D) s8)), (9, dI s9), (10, dI s10), (11, .d ((D.l TConfig.D) s11)), (13, dI s13)], [(3, .cells ((cellsA (TQea.D w3))))], []⟩
def ref19_All_l3_O (s1 : List TConfig) (s2 : List THit) (s9 : Int) (s10 : Int) (s11 : List TConfig) (w3 : TQea) (o : (List TConfig)) : Ex × St := (.exit 2, ⟨sp 56 0 [(1, .d ((D.l TConfig.D) s1)), (2, .d ((D.l THit.D) s2)), (3, .box 3 0), (8, .d ((D.l TConfig.D) o)), (9, dI s9), (10, dI s10)], [(3, .cells ((cellsA (TQea.D w3))))], []⟩)
theorem ref19_All_l3_ok (rd : Option Nat) {s1 : List TConfig} {s2 : List THit} {s9 : Int} {s10 : Int} {s11 : List TConfig} {w3 : TQea} {s8 : List TConfig} {s13 : Int} {t : (List TConfig)} (h : ref19_All_l3 s1 s2 s9 s10 s11 w3 s8 s13 = some t) : LpOfR Tryz.prog rd (fbody Tryz.prog 12) [0, 1, 1, 1, 0, 0, 1, 0, 0, 1, 0, 1, 1, 1] (ref19_All_l3_I s1 s2 s9 s10 s11 w3 s8 s13) ((ref19_All_l3_O s1 s2 s9 s10 s11 w3) t) :=
  loopE_lpR (fun s : List TConfig × Int => ref19_All_l3_I s1 s2 s9 s10 s11 w3 s.1 s.2) (ref19_All_l3_O s1 s2 s9 s10 s11 w3) (by kernel_rfl) (fun t => isN_ne (by rfl)) (fun ⟨s8, s13⟩ o h => by
  replace h : ref19_All_l3_s s1 s2 s9 s10 s11 w3 s8 s13 = some o := h
  unfold ref19_All_l3_s at h
  apply g0 (o := o)
  refine gN 35 TConfig.D s11 ?_
  refine iB 36 h (fun h => ?_) fun h => ?_
  refine xX 42 TConfig.D h fun x12 h => ?_
  obtain ⟨r13, h18, h⟩ := bS h
  refine gC 44 (ref18_Put_ok h18) ?_
  exact lB h (lv [1,2,3,8,9,10,11,13] [3])
  exact lB h (lv [1,2,3,8,9,10] [3])) (s := (s8, s13)) (t := t) h
def ref19_All_l1_I (s1 : List TConfig) (s2 : List THit) (w3 : TQea) (s8 : List TConfig) (s9 : Int) (s10 : Int) : St := ⟨sp 56 0 [(1, .d ((D.l TConfig.D) s1)), (2, .d ((D.l THit.D) s2)), (3, .box 3 0), (8, .d ((D.l TConfig.D) s8)), (9, dI s9), (10, dI s10)], [(3, .cells ((cellsA (TQea.D w3))))], []⟩
def ref19_All_l1_O (s1 : List TConfig) (s2 : List THit) (w3 : TQea) (o : (List TConfig × Int)) : Ex × St := (.exit 0, ⟨sp 56 0 [(8, .d ((D.l TConfig.D) o.1)), (9, dI o.2)], [], []⟩)
theorem ref19_All_l1_ok (rd : Option Nat) {s1 : List TConfig} {s2 : List THit} {w3 : TQea} {s8 : List TConfig} {s9 : Int} {s10 : Int} {t : (List TConfig × Int)} (h : ref19_All_l1 s1 s2 w3 s8 s9 s10 = some t) : LpOfR Tryz.prog rd (fbody Tryz.prog 12) [0, 1, 0, 1, 1, 1] (ref19_All_l1_I s1 s2 w3 s8 s9 s10) ((ref19_All_l1_O s1 s2 w3) t) :=
  loopE_lpR (fun s : List TConfig × Int × Int => ref19_All_l1_I s1 s2 w3 s.1 s.2.1 s.2.2) (ref19_All_l1_O s1 s2 w3) (by kernel_rfl) (fun t => isN_ne (by rfl)) (fun ⟨s8, s9, s10⟩ o h => by
  replace h : ref19_All_l1_s s1 s2 w3 s8 s9 s10 = some o := h
  unfold ref19_All_l1_s at h
  apply g0 (o := o)
  refine gN 16 TConfig.D s1 ?_
  refine iB 17 h (fun h => ?_) fun h => ?_
  refine xX 24 TConfig.D h fun x9 h => ?_
  obtain ⟨r10, h14, h⟩ := bS h
  refine gC 27 (ref19_One_ok h14) ?_
  obtain ⟨r11, h15, h⟩ := bS h
  refine gC 32 (ref19_worse_ok h15) ?_
  obtain ⟨o14, h19, h⟩ := bS h
  refine gL (lv [1,2,3,8,9,10,11,13] [3]) (ref19_All_l3_ok rd h19) ?_
  exact lB h (lv [1,2,3,8,9,10] [3])
  exact lB h (lv [8,9] [])) (s := (s8, s9, s10)) (t := t) h
def ref19_All_b4_I (s8 : List TConfig) (s9 : Int) (s51 : Bool) : St := ⟨sp 56 0 [(8, .d ((D.l TConfig.D) s8)), (9, dI s9), (51, .d (D.b s51))], [], []⟩
def ref19_All_b4_O (s8 : List TConfig) (s9 : Int) (s51 : Bool) (o : Int) : Ex × St := (.normal, ⟨sp 56 0 [(8, .d ((D.l TConfig.D) s8)), (9, dI o)], [], []⟩)
theorem ref19_All_b4_ok (rd : Option Nat) {s8 : List TConfig} {s9 : Int} {s51 : Bool} {o : Int} (h : ref19_All_b4 s8 s9 s51 = some o) : LpOfR Tryz.prog rd (fbody Tryz.prog 12) [1, 0, 1, 1, 1, 1] (ref19_All_b4_I s8 s9 s51) (ref19_All_b4_O s8 s9 s51 o) := by
  unfold ref19_All_b4 at h
  apply g0 (o := o)
  cases s51
  replace h := iteF h
  exact lP h (lv [8,9] [])
  replace h := iteT h
  exact lP h (lv [8,9] [])
theorem ref19_All_ok {a0 : TQea} {a1 : List TConfig} {a2 : List THit} {r : List TConfig × Int} (h : ref19_All a0 a1 a2 = some r) : ACall Tryz.prog 12 [.d (TQea.D a0), .d ((D.l TConfig.D) a1), .d ((D.l THit.D) a2)] [] (.tup [.d ((D.l TConfig.D) r.1), dI r.2]) [] := by
  unfold ref19_All at h
  apply g0 (o := r)
  obtain ⟨o15, h20, h⟩ := bS h
  refine gL [.look 8, .live [1,2,3,8,9,10], .keep [3]] (ref19_All_l1_ok none h20) ?_
  refine iB 47 h (fun h => ?_) fun h => ?_
  refine gN 49 TConfig.D o15.1 ?_
  obtain ⟨o16, h23, h⟩ := bS h
  refine gL (lv [8,9,51] []) (ref19_All_b4_ok none h23) ?_
  refine iB 53 h (fun h => ?_) fun h => ?_
  exact lF h []
  exact lF h []
  obtain ⟨o17, h25, h⟩ := bS h
  refine gL (lv [8,9,51] []) (ref19_All_b4_ok none h25) ?_
  refine iB 53 h (fun h => ?_) fun h => ?_
  exact lF h []
  exact lF h []
def ref22_Mask_l1_I (s0 : List THit) (s3 : Int) (s4 : Int) : St := ⟨sp 21 0 [(0, .d ((D.l THit.D) s0)), (3, .d ((D.i .u64) s3)), (4, dI s4)], [], []⟩
def ref22_Mask_l1_O (s0 : List THit) (o : Int) : Ex × St := (.exit 0, ⟨sp 21 0 [(3, .d ((D.i .u64) o))], [], []⟩)
theorem ref22_Mask_l1_ok (rd : Option Nat) {s0 : List THit} {s3 : Int} {s4 : Int} {t : Int} (h : ref22_Mask_l1 s0 s3 s4 = some t) : LpOfR Tryz.prog rd (fbody Tryz.prog 14) [0, 1, 0, 1, 1] (ref22_Mask_l1_I s0 s3 s4) ((ref22_Mask_l1_O s0) t) :=
  loopE_lpR (fun s : Int × Int => ref22_Mask_l1_I s0 s.1 s.2) (ref22_Mask_l1_O s0) (by kernel_rfl) (fun t => isN_ne (by rfl)) (fun ⟨s3, s4⟩ o h => by
  replace h : ref22_Mask_l1_s s0 s3 s4 = some o := h
  unfold ref22_Mask_l1_s at h
  apply g0 (o := o)
  refine gN 7 THit.D s0 ?_
  refine iB 8 h (fun h => ?_) fun h => ?_
  refine xX 14 THit.D h fun x1 h => ?_
  obtain ⟨h3, h⟩ := cS h
  refine gQ h3 ?_
  exact lB h (lv [0,3,4] [])
  exact lB h (lv [3] [])) (s := (s3, s4)) (t := t) h
theorem ref22_Mask_ok {a0 : List THit} {r : Int} (h : ref22_Mask a0 = some r) : ACall Tryz.prog 14 [.d ((D.l THit.D) a0)] [] (.d ((D.i .u64) r)) [] := by
  unfold ref22_Mask at h
  apply g0 (o := r)
  obtain ⟨o2, h4, h⟩ := bS h
  refine gL (lv [0,3,4] []) (ref22_Mask_l1_ok none h4) ?_
  exact lF h []
def law22_JointNext_b5_I (s1 : List TSlot) (s2 : Int) (s12 : Int) (s51 : Bool) (w5 : TQea) (w9 : TEvent) (w11 : List TConfig) : St := ⟨sp 99 0 [(1, .d ((D.l TSlot.D) s1)), (2, .d ((D.i .u32) s2)), (5, .box 5 0), (9, .box 9 0), (11, .row 11), (12, dI s12), (51, .d (D.b s51))], [(5, .cells ((cellsA (TQea.D w5)))), (9, .cells ((cellsA (TEvent.D w9)))), (11, .row 44 2 (w11.map TConfig.D))], []⟩
def law22_JointNext_b5_O (s1 : List TSlot) (s2 : Int) (s12 : Int) (s51 : Bool) (w5 : TQea) (w9 : TEvent) (w11 : List TConfig) (o : (List TConfig)) : Ex × St := (.normal, ⟨sp 99 0 [(1, .d ((D.l TSlot.D) s1)), (2, .d ((D.i .u32) s2)), (5, .box 5 0), (9, .box 9 0), (11, .row 11), (12, dI s12)], [(5, .cells ((cellsA (TQea.D w5)))), (9, .cells ((cellsA (TEvent.D w9)))), (11, .row 44 2 (o.map TConfig.D))], []⟩)
theorem law22_JointNext_b5_ok (rd : Option Nat) {s1 : List TSlot} {s2 : Int} {s12 : Int} {s51 : Bool} {w5 : TQea} {w9 : TEvent} {w11 : List TConfig} {o : (List TConfig)} (h : law22_JointNext_b5 s1 s2 s12 s51 w5 w9 w11 = some o) : LpOfR Tryz.prog rd (fbody Tryz.prog 3) [1, 0, 0, 1, 0, 0, 1, 0, 1, 1, 1, 1] (law22_JointNext_b5_I s1 s2 s12 s51 w5 w9 w11) (law22_JointNext_b5_O s1 s2 s12 s51 w5 w9 w11 o) := by
  unfold law22_JointNext_b5 at h
  apply g0 (o := o)
  cases s51
  replace h := iteF h
  exact lP h (lv [1,2,5,9,11,12] [5,9,11])
  replace h := iteT h
  refine gQ (nc_ok TConfig.D ([TConfig.mk s12 ([] : List TValue)])) <| gG 56 (.sl ((w11 ++ ([TConfig.mk s12 ([] : List TValue)])).map TConfig.D)) (nc_ok TConfig.D ([TConfig.mk s12 ([] : List TValue)])) ?_
  obtain ⟨h19, h⟩ := cS h
  refine gQ (fit_map TConfig.D h19) <| gQ (app_map TConfig.D w11 ([TConfig.mk s12 ([] : List TValue)])) ?_
  exact lP h [.live [1,2,5,9,11,12], .keep [5,9,56], .ren 56 11, .sort]
def law22_JointNext_b4_I (s1 : List TSlot) (s2 : Int) (s12 : Int) (w5 : TQea) (w9 : TEvent) (w11 : List TConfig) : St := ⟨sp 99 0 [(1, .d ((D.l TSlot.D) s1)), (2, .d ((D.i .u32) s2)), (5, .box 5 0), (9, .box 9 0), (11, .row 11), (12, dI s12)], [(5, .cells ((cellsA (TQea.D w5)))), (9, .cells ((cellsA (TEvent.D w9)))), (11, .row 44 2 (w11.map TConfig.D))], []⟩
def law22_JointNext_b4_O (s1 : List TSlot) (s2 : Int) (s12 : Int) (w5 : TQea) (w9 : TEvent) (w11 : List TConfig) (o : (List TConfig)) : Ex × St := (.normal, ⟨sp 99 0 [(1, .d ((D.l TSlot.D) s1)), (2, .d ((D.i .u32) s2)), (5, .box 5 0), (9, .box 9 0), (11, .row 11), (12, dI s12)], [(5, .cells ((cellsA (TQea.D w5)))), (9, .cells ((cellsA (TEvent.D w9)))), (11, .row 44 2 (o.map TConfig.D))], []⟩)
theorem law22_JointNext_b4_ok (rd : Option Nat) {s1 : List TSlot} {s2 : Int} {s12 : Int} {w5 : TQea} {w9 : TEvent} {w11 : List TConfig} {o : (List TConfig)} (h : law22_JointNext_b4 s1 s2 s12 w5 w9 w11 = some o) : LpOfR Tryz.prog rd (fbody Tryz.prog 3) [0, 1, 0, 0, 1, 0, 1, 1, 1, 1] (law22_JointNext_b4_I s1 s2 s12 w5 w9 w11) (law22_JointNext_b4_O s1 s2 s12 w5 w9 w11 o) := by
  unfold law22_JointNext_b4 at h
  apply g0 (o := o)
  obtain ⟨h17, h⟩ := cS h
  refine gQ h17 <| gQ (of_decide_eq_true rfl : (2 : Int) ≠ 0) ?_
  obtain ⟨o9, h20, h⟩ := bS h
  refine gL (lv [1,2,5,9,11,12,51] [5,9,11]) (law22_JointNext_b5_ok rd h20) ?_
  exact lP h (lv [1,2,5,9,11,12] [5,9,11])
def law22_JointNext_l1_I (s1 : List TSlot) (s2 : Int) (w5 : TQea) (w9 : TEvent) (s12 : Int) (w11 : List TConfig) : St := ⟨sp 99 0 [(1, .d ((D.l TSlot.D) s1)), (2, .d ((D.i .u32) s2)), (5, .box 5 0), (9, .box 9 0), (11, .row 11), (12, dI s12)], [(5, .cells ((cellsA (TQea.D w5)))), (9, .cells ((cellsA (TEvent.D w9)))), (11, .row 44 2 (w11.map TConfig.D))], []⟩
def law22_JointNext_l1_O (s1 : List TSlot) (s2 : Int) (w5 : TQea) (w9 : TEvent) (o : (List TConfig)) : Ex × St := (.exit 0, ⟨sp 99 0 [(1, .d ((D.l TSlot.D) s1)), (2, .d ((D.i .u32) s2)), (5, .box 5 0), (9, .box 9 0), (11, .row 11)], [(5, .cells ((cellsA (TQea.D w5)))), (9, .cells ((cellsA (TEvent.D w9)))), (11, .row 44 2 (o.map TConfig.D))], []⟩)
theorem law22_JointNext_l1_ok (rd : Option Nat) {s1 : List TSlot} {s2 : Int} {w5 : TQea} {w9 : TEvent} {s12 : Int} {w11 : List TConfig} {t : (List TConfig)} (h : law22_JointNext_l1 s1 s2 w5 w9 s12 w11 = some t) : LpOfR Tryz.prog rd (fbody Tryz.prog 3) [0, 1, 0, 1, 1, 1, 1] (law22_JointNext_l1_I s1 s2 w5 w9 s12 w11) ((law22_JointNext_l1_O s1 s2 w5 w9) t) :=
  loopE_lpR (fun s : Int × List TConfig => law22_JointNext_l1_I s1 s2 w5 w9 s.1 s.2) (law22_JointNext_l1_O s1 s2 w5 w9) (by kernel_rfl) (fun t => isN_ne (by rfl)) (fun ⟨s12, w11⟩ o h => by
  replace h : law22_JointNext_l1_s s1 s2 w5 w9 s12 w11 = some o := h
  unfold law22_JointNext_l1_s at h
  apply g0 (o := o)
  refine gN 42 TState.D w5.states ?_
  refine iB 43 h (fun h => ?_) fun h => ?_
  obtain ⟨o10, h21, h⟩ := bS h
  refine gL (lv [1,2,5,9,11,12] [5,9,11]) (law22_JointNext_b4_ok rd h21) ?_
  exact lB h (lv [1,2,5,9,11,12] [5,9,11])
  exact lB h (lv [1,2,5,9,11] [5,9,11])) (s := (s12, w11)) (t := t) h
def law22_JointNext_l6_I (s2 : Int) (s13 : List THit) (s14 : List TConfig) (w5 : TQea) (s16 : Int) (s17 : Int) : St := ⟨sp 99 0 [(2, .d ((D.i .u32) s2)), (5, .box 5 0), (13, .d ((D.l THit.D) s13)), (14, .d ((D.l TConfig.D) s14)), (16, .d ((D.i .u32) s16)), (17, dI s17)], [(5, .cells ((cellsA (TQea.D w5))))], []⟩
def law22_JointNext_l6_O (s2 : Int) (s13 : List THit) (s14 : List TConfig) (w5 : TQea) (o : Int) : Ex × St := (.exit 2, ⟨sp 99 0 [(2, .d ((D.i .u32) s2)), (5, .box 5 0), (13, .d ((D.l THit.D) s13)), (16, .d ((D.i .u32) o))], [(5, .cells ((cellsA (TQea.D w5))))], []⟩)
theorem law22_JointNext_l6_ok (rd : Option Nat) {s2 : Int} {s13 : List THit} {s14 : List TConfig} {w5 : TQea} {s16 : Int} {s17 : Int} {t : Int} (h : law22_JointNext_l6 s2 s13 s14 w5 s16 s17 = some t) : LpOfR Tryz.prog rd (fbody Tryz.prog 3) [0, 1, 0, 1, 1, 1, 1, 1, 1, 1, 1, 1] (law22_JointNext_l6_I s2 s13 s14 w5 s16 s17) ((law22_JointNext_l6_O s2 s13 s14 w5) t) :=
  loopE_lpR (fun s : Int × Int => law22_JointNext_l6_I s2 s13 s14 w5 s.1 s.2) (law22_JointNext_l6_O s2 s13 s14 w5) (by kernel_rfl) (fun t => isN_ne (by rfl)) (fun ⟨s16, s17⟩ o h => by
  replace h : law22_JointNext_l6_s s2 s13 s14 w5 s16 s17 = some o := h
  unfold law22_JointNext_l6_s at h
  apply g0 (o := o)
  refine gN 76 TConfig.D s14 ?_
  refine iB 77 h (fun h => ?_) fun h => ?_
  refine xX 83 TConfig.D h fun x17 h => ?_
  obtain ⟨h31, h⟩ := cS h
  refine gQ h31 ?_
  exact lB h (lv [2,5,13,14,16,17] [5])
  exact lB h (lv [2,5,13,16] [5])) (s := (s16, s17)) (t := t) h
theorem law22_JointNext_ok {a0 : TQea} {a1 : List TSlot} {a2 : Int} {a3 : Int} {a4 : TEvent} {r : Bool} (h : law22_JointNext a0 a1 a2 a3 a4 = some r) : ACall Tryz.prog 3 [.d (TQea.D a0), .d ((D.l TSlot.D) a1), .d ((D.i .u32) a2), .d ((D.i .u64) a3), .d (TEvent.D a4)] [] (.d (D.b r)) [] := by
  unfold law22_JointNext at h
  apply g0 (o := r)
  obtain ⟨r1, h1, h⟩ := bS h
  refine gC 20 (law22_small_ok h1) ?_
  refine iB 22 h (fun h => ?_) fun h => ?_
  obtain ⟨r2, h3, h⟩ := bS h
  refine gC 29 (law22_awake_ok h3) ?_
  exact lF h []
  obtain ⟨r3, h4, h⟩ := bS h
  refine gC 26 (ref08_Right_ok h4) ?_
  refine iB 28 h (fun h => ?_) fun h => ?_
  obtain ⟨r4, h6, h⟩ := bS h
  refine gC 29 (law22_awake_ok h6) ?_
  exact lF h []
  obtain ⟨r5, h7, h⟩ := bS h
  refine gC 33 (joint_Next_ok h7) ?_
  obtain ⟨r6, h8, h⟩ := bS h
  refine gC 37 (ref22_Next_ok h8) ?_
  refine iB 38 h (fun h => ?_) fun h => ?_
  exact lF h []
  obtain ⟨o11, h22, h⟩ := bS h
  refine gL [.live [1,2,5,9,11,12], .keep [5,9], .nil 11 11 44 2, .sort] (law22_JointNext_l1_ok none h22) ?_
  obtain ⟨r12, h23, h⟩ := bS h
  refine gC 59 (ref17_All_ok h23) ?_
  obtain ⟨r13, h24, h⟩ := bS h
  refine gC 61 (ref17_Under_ok h24) <| gN 63 THit.D r13 ?_
  refine iB 64 h (fun h => ?_) fun h => ?_
  obtain ⟨r14, h26, h⟩ := bS h
  refine gC 65 (law22_awake_ok h26) ?_
  exact lF h []
  obtain ⟨r15, h27, h⟩ := bS h
  refine gC 69 (ref18_Of_ok h27) ?_
  obtain ⟨r16, h28, h⟩ := bS h
  refine gC 71 (ref19_All_ok h28) ?_
  obtain ⟨o18, h32, h⟩ := bS h
  refine gL (lv [2,5,13,14,16,17] [5]) (law22_JointNext_l6_ok none h32) ?_
  obtain ⟨r19, h33, h⟩ := bS h
  refine gC 92 (ref22_Mask_ok h33) ?_
  obtain ⟨r20, h34, h⟩ := bS h
  refine gC 93 (joint_Next_ok h34) ?_
  refine iB 96 h (fun h => ?_) fun h => ?_
  obtain ⟨r21, h36, h⟩ := bS h
  refine gC 97 (law22_awake_ok h36) ?_
  exact lF h []
  exact lF h []
end Go.Ac
