/-
  Part of a proof: each function of the seat computes what its Lean function says (printed by a program).
-/
import Derived.Test.YtilcdkcfcobhbaaWa17x2
set_option linter.unusedVariables false
set_option linter.unusedSimpArgs false
set_option linter.unusedVariables false
set_option linter.unusedSimpArgs false
namespace Go.Ac
open Go.Proofs
theorem binding_Under_ok (a0 : List TSlot) (a1 : List TSlot) (r : Bool) (h : binding_Under a0 a1 = some r) : ACall Try.prog 42 [.d ((D.l TSlot.D) a0), .d ((D.l TSlot.D) a1)] [] (.d (D.b r)) [] := by
  unfold binding_Under at h
  obtain ⟨r1, h1, h⟩ := bndE_some h
  obtain ⟨o10, h4, h⟩ := bndE_some h
  replace h := sumE_some h
  rcases h with ⟨o11, rfl, h⟩ | ⟨o12, rfl, h⟩
  ·
   obtain rfl := Option.some.inj h
   exact runF_call mixed [(9, .ret (.clo (.func 77) [] [.eptr (D.cells ((D.l TSlot.D) r1.1)), .eptr (D.cells ((D.l TSlot.D) r1.2))]))] [⟨[0, 1, 0, 1], [.live [4, 9], .keep [4]], .normal, (binding_Under_r1_O r1.1 r1.2 (Sum.inl o11)).2⟩] [] (ai (binding_both_ok a0 a1 r1 h1) (ai (binding_Under_r1_ok r1.1 r1.2 false (Sum.inl o11) h4) (ti))) (by kernel_rfl)
  ·
   obtain rfl := Option.some.inj h
   exact runF_call mixed [(9, .ret (.clo (.func 77) [] [.eptr (D.cells ((D.l TSlot.D) r1.1)), .eptr (D.cells ((D.l TSlot.D) r1.2))]))] [⟨[0, 1, 0, 1], [.live [4, 9], .keep [4]], .ret, (binding_Under_r1_O r1.1 r1.2 (Sum.inr o12)).2⟩] [] (ai (binding_both_ok a0 a1 r1 h1) (ai (binding_Under_r1_ok r1.1 r1.2 false (Sum.inr o12) h4) (ti))) (by kernel_rfl)
def match_concerns_b2_I (uz : List Value) (s10_1 : TQea) (s10_2 : TEvent) (s11 : THit) (w4 : List TSlot) (w6 : Bool) (w998_1 : TQea) (w998_2 : TEvent) : St := ⟨sp 16 0 [(4, .box 4 0), (6, .box 6 0), (10, .clo (.func 60) [] [.eptr (D.cells (TQea.D s10_1)), .eptr (D.cells (TEvent.D s10_2))]), (11, .d (THit.D s11))], [(4, .cells ([.d ((D.l TSlot.D) w4)])), (6, .cells ([.d (D.b w6)])), (998, .vals (sp 16 0 [(4, .box 4 0), (6, .box 6 0), (10, .clo (.func 60) [] [.eptr (D.cells (TQea.D w998_1)), .eptr (D.cells (TEvent.D w998_2))])]) uz)], []⟩
def match_concerns_b2_O (uz : List Value) (s10_1 : TQea) (s10_2 : TEvent) (s11 : THit) (w4 : List TSlot) (w6 : Bool) (w998_1 : TQea) (w998_2 : TEvent) (o : Unit) : Ex × St := (.normal, ⟨sp 16 0 [(4, .box 4 0), (6, .box 6 0), (7, .box 7 0), (10, .clo (.func 60) [] [.eptr (D.cells (TQea.D s10_1)), .eptr (D.cells (TEvent.D s10_2))])], [(4, .cells ([.d ((D.l TSlot.D) w4)])), (6, .cells ([.d (D.b w6)])), (7, .cells ((cellsA (THit.D s11)))), (998, .vals (sp 16 0 [(4, .box 4 0), (6, .box 6 0), (10, .clo (.func 60) [] [.eptr (D.cells (TQea.D w998_1)), .eptr (D.cells (TEvent.D w998_2))])]) uz)], []⟩)
theorem match_concerns_b2_ok (rd : Option Nat) (uz : List Value) (s10_1 : TQea) (s10_2 : TEvent) (s11 : THit) (w4 : List TSlot) (w6 : Bool) (w998_1 : TQea) (w998_2 : TEvent) (o : Unit) (h : match_concerns_b2 s10_1 s10_2 s11 w4 w6 w998_1 w998_2 = some o) : LpOf Try.prog rd (fbody Try.prog 36) [0, 0, 1, 0, 1] (match_concerns_b2_I uz s10_1 s10_2 s11 w4 w6 w998_1 w998_2) (match_concerns_b2_O uz s10_1 s10_2 s11 w4 w6 w998_1 w998_2 o).1 (match_concerns_b2_O uz s10_1 s10_2 s11 w4 w6 w998_1 w998_2 o).2 := by
  unfold match_concerns_b2 at h
  obtain rfl := Option.some.inj h
  exact (runB_arr mixed [] [] [.live [4, 6, 7, 10], .keep [4, 6, 7, 998]] (ti) (by kernel_rfl)).lp
def match_concerns_b4_I (uz : List Value) (s10_1 : TQea) (s10_2 : TEvent) (w4 : List TSlot) (w6 : Bool) (w7 : THit) (w998_1 : TQea) (w998_2 : TEvent) : St := ⟨sp 16 0 [(4, .box 4 0), (6, .box 6 0), (7, .box 7 0), (10, .clo (.func 60) [] [.eptr (D.cells (TQea.D s10_1)), .eptr (D.cells (TEvent.D s10_2))])], [(4, .cells ([.d ((D.l TSlot.D) w4)])), (6, .cells ([.d (D.b w6)])), (7, .cells ((cellsA (THit.D w7)))), (998, .vals (sp 16 0 [(4, .box 4 0), (6, .box 6 0), (10, .clo (.func 60) [] [.eptr (D.cells (TQea.D w998_1)), .eptr (D.cells (TEvent.D w998_2))])]) uz)], []⟩
def match_concerns_b4_O (uz : List Value) (s10_1 : TQea) (s10_2 : TEvent) (w4 : List TSlot) (w6 : Bool) (w7 : THit) (w998_1 : TQea) (w998_2 : TEvent) (o : Unit ⊕ Unit) : Ex × St := match o with
  | .inl o => (.normal, ⟨sp 16 0 [], [(4, .cells ([.d ((D.l TSlot.D) w4)])), (6, .cells ([.d (D.b w6)])), (998, .vals (sp 16 0 [(4, .box 4 0), (6, .box 6 0), (10, .clo (.func 60) [] [.eptr (D.cells (TQea.D w998_1)), .eptr (D.cells (TEvent.D w998_2))])]) uz)], []⟩)
  | .inr o => (.ret, ⟨sp 16 0 [], [(4, .cells ([.d ((D.l TSlot.D) w4)])), (6, .cells ([.d (D.b true)])), (998, .vals (sp 16 0 [(4, .box 4 0), (6, .box 6 0), (10, .clo (.func 60) [] [.eptr (D.cells (TQea.D w998_1)), .eptr (D.cells (TEvent.D w998_2))])]) uz)], []⟩)
theorem match_concerns_b4_ok (rd : Option Nat) (uz : List Value) (s10_1 : TQea) (s10_2 : TEvent) (w4 : List TSlot) (w6 : Bool) (w7 : THit) (w998_1 : TQea) (w998_2 : TEvent) (o : Unit ⊕ Unit) (h : match_concerns_b4 s10_1 s10_2 w4 w6 w7 w998_1 w998_2 = some o) : LpOf Try.prog rd (fbody Try.prog 36) [1, 0, 1, 0, 1] (match_concerns_b4_I uz s10_1 s10_2 w4 w6 w7 w998_1 w998_2) (match_concerns_b4_O uz s10_1 s10_2 w4 w6 w7 w998_1 w998_2 o).1 (match_concerns_b4_O uz s10_1 s10_2 w4 w6 w7 w998_1 w998_2 o).2 := by
  unfold match_concerns_b4 at h
  obtain ⟨r6, h4, h⟩ := bndE_some h
  cases r6 with
  | true =>
   replace h := iteT h
   obtain rfl := Option.some.inj h
   exact (runB_arr mixed [(15, .ret (.d (D.b true)))] [] [.live [], .keep [4, 6, 998]] (ai (binding_Under_ok w7.bind w4 true h4) (ti)) (by kernel_rfl)).lp
  | false =>
   replace h := iteF h
   obtain rfl := Option.some.inj h
   exact (runB_arr mixed [(15, .ret (.d (D.b false)))] [] [.live [], .keep [4, 6, 998]] (ai (binding_Under_ok w7.bind w4 false h4) (ti)) (by kernel_rfl)).lp
def match_concerns_r1_E (s10_1 : TQea) (s10_2 : TEvent) : List A := sp 16 0 [(4, .box 4 0), (6, .box 6 0), (10, .clo (.func 60) [] [.eptr (D.cells (TQea.D s10_1)), .eptr (D.cells (TEvent.D s10_2))])]
def match_concerns_r1_BL (s10_1 : TQea) (s10_2 : TEvent) (w4 : List TSlot) (s : Bool) : Bx := [(4, .cells ([.d ((D.l TSlot.D) w4)])), (6, .cells ([.d (D.b s)]))]
def match_concerns_r1_BT (s10_1 : TQea) (s10_2 : TEvent) (w4 : List TSlot) (t : Bool) : Bx := [(4, .cells ([.d ((D.l TSlot.D) w4)])), (6, .cells ([.d (D.b t)]))]
def match_concerns_r1_X (t : Bool) : Ex := .ret
def match_concerns_r1_O (s10_1 : TQea) (s10_2 : TEvent) (w4 : List TSlot) (o : (Bool) ⊕ (Bool)) : Ex × St := (rex match_concerns_r1_X o, ⟨match_concerns_r1_E s10_1 s10_2, rbx (match_concerns_r1_BL s10_1 s10_2 w4) (match_concerns_r1_BT s10_1 s10_2 w4) o, []⟩)
theorem match_concerns_r1_rnd (s10_1 : TQea) (s10_2 : TEvent) (w4 : List TSlot) (s : Bool) (x : THit) (o : (Bool) ⊕ (Bool)) (h : match_concerns_r1_rd s10_1 s10_2 w4 s x = some o) (l : Nat) (uz : List Value) : ∃ M E1, LpOf Try.prog (some l) (fbody Try.prog 36) (0 :: [0, 1, 0, 1]) ⟨setPs (match_concerns_r1_E s10_1 s10_2) ((Array.toList #[11]).zip (match_hits_1_enc x)), match_concerns_r1_BL s10_1 s10_2 w4 s ++ [(vn, .vals (match_concerns_r1_E s10_1 s10_2) uz)], []⟩ .normal M ∧
    LpOf Try.prog (some l) (fbody Try.prog 36) (1 :: [0, 1, 0, 1]) M (rex match_concerns_r1_X o) ⟨E1, rbx (match_concerns_r1_BL s10_1 s10_2 w4) (match_concerns_r1_BT s10_1 s10_2 w4) o ++ [(vn, .vals (match_concerns_r1_E s10_1 s10_2) uz)], []⟩ := by
  unfold match_concerns_r1_rd at h
  obtain ⟨o5, h7, h⟩ := bndE_some h
  obtain ⟨o7, h8, h⟩ := bndE_some h
  replace h := sumE_some h
  rcases h with ⟨o11, rfl, h⟩ | ⟨o12, rfl, h⟩
  ·
   obtain rfl := Option.some.inj h
   exact ⟨(match_concerns_b2_O uz s10_1 s10_2 x w4 s s10_1 s10_2 o5).2, sp 16 0 [], lp_wks (w := [.live [4, 6, 10, 11], .keep [4, 6, 998]]) (s1 := match_concerns_b2_I uz s10_1 s10_2 x w4 s s10_1 s10_2) (by kernel_rfl) (lp_cast (match_concerns_b2_ok (some l) uz s10_1 s10_2 x w4 s s10_1 s10_2 o5 h7) rfl (by kernel_rfl) rfl), lp_wks (w := [.live [4, 6, 7, 10], .keep [4, 6, 7, 998]]) (s1 := match_concerns_b4_I uz s10_1 s10_2 w4 s x s10_1 s10_2) (by kernel_rfl) (lp_cast (match_concerns_b4_ok (some l) uz s10_1 s10_2 w4 s x s10_1 s10_2 (Sum.inl o11) h8) rfl (by kernel_rfl) (by kernel_rfl))⟩
  ·
   obtain rfl := Option.some.inj h
   exact ⟨(match_concerns_b2_O uz s10_1 s10_2 x w4 s s10_1 s10_2 o5).2, sp 16 0 [], lp_wks (w := [.live [4, 6, 10, 11], .keep [4, 6, 998]]) (s1 := match_concerns_b2_I uz s10_1 s10_2 x w4 s s10_1 s10_2) (by kernel_rfl) (lp_cast (match_concerns_b2_ok (some l) uz s10_1 s10_2 x w4 s s10_1 s10_2 o5 h7) rfl (by kernel_rfl) rfl), lp_wks (w := [.live [4, 6, 7, 10], .keep [4, 6, 7, 998]]) (s1 := match_concerns_b4_I uz s10_1 s10_2 w4 s x s10_1 s10_2) (by kernel_rfl) (lp_cast (match_concerns_b4_ok (some l) uz s10_1 s10_2 w4 s x s10_1 s10_2 (Sum.inr o12) h8) rfl (by kernel_rfl) (by kernel_rfl))⟩
theorem match_concerns_r1_ok (s10_1 : TQea) (s10_2 : TEvent) (w4 : List TSlot) (s : Bool) (o : (Bool) ⊕ (Bool)) (h : match_hits_1 (stepOf (match_concerns_r1_rd s10_1 s10_2 w4)) s10_1 s10_2 (.inl s) = some o) : LpOf Try.prog none (fbody Try.prog 36) [0, 1, 0, 1] ⟨match_concerns_r1_E s10_1 s10_2, match_concerns_r1_BL s10_1 s10_2 w4 s, []⟩ (match_concerns_r1_O s10_1 s10_2 w4 o).1 (match_concerns_r1_O s10_1 s10_2 w4 o).2 :=
  range_ok (p := [0, 1, 0, 1]) (g := .tmp 10) (ps := #[11]) (assign := codeAt (fbody Try.prog 36) (0 :: [0, 1, 0, 1])) (body := codeAt (fbody Try.prog 36) (1 :: [0, 1, 0, 1])) (by kernel_rfl) (match_concerns_r1_BL s10_1 s10_2 w4) (match_concerns_r1_BT s10_1 s10_2 w4) match_concerns_r1_X match_hits_1_enc (match_concerns_r1_rd s10_1 s10_2 w4) (gf := 60) (cs := [.eptr (D.cells (TQea.D s10_1)), .eptr (D.cells (TEvent.D s10_2))]) (by kernel_rfl) (by kernel_rfl) (by kernel_rfl) (fun x => ⟨by kernel_rfl, by kernel_rfl⟩) (fun s us => by kernel_rfl) (fun t us => by kernel_rfl) (fun s => rfl) (fun t => rfl) (by kernel_rfl) (fun t => rfl) (fun s x o h l us => match_concerns_r1_rnd s10_1 s10_2 w4 s x o h l us) (match_hits_1_ok (stepOf (match_concerns_r1_rd s10_1 s10_2 w4)) s10_1 s10_2 (.inl s) o h)
theorem match_concerns_ok (a0 : TQea) (a1 : List TSlot) (a2 : TEvent) (r : Bool) (h : match_concerns a0 a1 a2 = some r) : ACall Try.prog 36 [.d (TQea.D a0), .d ((D.l TSlot.D) a1), .d (TEvent.D a2)] [] (.d (D.b r)) [] := by
  unfold match_concerns at h
  obtain ⟨r1, h1, h⟩ := bndE_some h
  obtain ⟨o8, h6, h⟩ := bndE_some h
  replace h := sumE_some h
  rcases h with ⟨o9, rfl, h⟩ | ⟨o10, rfl, h⟩
  ·
   obtain rfl := Option.some.inj h
   exact runF_call mixed [(10, .ret (.clo (.func 60) [] [.eptr (D.cells (TQea.D r1.1)), .eptr (D.cells (TEvent.D r1.2))]))] [⟨[0, 1, 0, 1], [.live [4, 6, 10], .keep [4, 6]], .normal, (match_concerns_r1_O r1.1 r1.2 a1 (Sum.inl o9)).2⟩] [] (ai (match_hits_ok a0 a2 r1 h1) (ai (match_concerns_r1_ok r1.1 r1.2 a1 false (Sum.inl o9) h6) (ti))) (by kernel_rfl)
  ·
   obtain rfl := Option.some.inj h
   exact runF_call mixed [(10, .ret (.clo (.func 60) [] [.eptr (D.cells (TQea.D r1.1)), .eptr (D.cells (TEvent.D r1.2))]))] [⟨[0, 1, 0, 1], [.live [4, 6, 10], .keep [4, 6]], .ret, (match_concerns_r1_O r1.1 r1.2 a1 (Sum.inr o10)).2⟩] [] (ai (match_hits_ok a0 a2 r1 h1) (ai (match_concerns_r1_ok r1.1 r1.2 a1 false (Sum.inr o10) h6) (ti))) (by kernel_rfl)
theorem match_Split_1_ok (a0 : TEvent) (a1 : TQea) (a2 : List TSlot) (r : Bool) (h : match_Split_1 a0 a1 a2 = some r) : ACall Try.prog 35 [.d (TEvent.D a0), .eptr (D.cells (TQea.D a1)), .eptr (D.cells ((D.l TSlot.D) a2))] [] (.d (D.b r)) [] := by
  unfold match_Split_1 at h
  obtain ⟨r1, h1, h⟩ := bndE_some h
  obtain rfl := Option.some.inj h
  exact runF_call mixed [(8, .ret (.d (D.b r1)))] [] [] (ai (match_concerns_ok a1 a2 a0 r1 h1) (ti)) (by kernel_rfl)
def match_part_Event_b5_I (s1_1 : TQea) (s1_2 : List TSlot) (s8 : List TEvent) (s9 : Int) (s10 : Int) (s16 : Bool) (w4 : List TEvent) (w5 : List TEvent) (w7 : TEvent) : St := ⟨sp 28 0 [(1, .clo (.func 35) [] [.eptr (D.cells (TQea.D s1_1)), .eptr (D.cells ((D.l TSlot.D) s1_2))]), (4, .row 4), (5, .row 5), (7, .box 7 0), (8, .d ((D.l TEvent.D) s8)), (9, .d ((D.i .i64) s9)), (10, .d ((D.i .i64) s10)), (16, .d (D.b s16))], [(4, .row 40 2 (w4.map TEvent.D)), (5, .row 40 2 (w5.map TEvent.D)), (7, .cells ((cellsA (TEvent.D w7))))], []⟩
def match_part_Event_b5_O (s1_1 : TQea) (s1_2 : List TSlot) (s8 : List TEvent) (s9 : Int) (s10 : Int) (s16 : Bool) (w4 : List TEvent) (w5 : List TEvent) (w7 : TEvent) (o : (List TEvent × List TEvent)) : Ex × St := (.normal, ⟨sp 28 0 [(1, .clo (.func 35) [] [.eptr (D.cells (TQea.D s1_1)), .eptr (D.cells ((D.l TSlot.D) s1_2))]), (4, .row 4), (5, .row 5), (8, .d ((D.l TEvent.D) s8)), (9, .d ((D.i .i64) s9)), (10, .d ((D.i .i64) s10))], [(4, .row 40 2 (o.1.map TEvent.D)), (5, .row 40 2 (o.2.map TEvent.D))], []⟩)
theorem match_part_Event_b5_ok (rd : Option Nat) (s1_1 : TQea) (s1_2 : List TSlot) (s8 : List TEvent) (s9 : Int) (s10 : Int) (s16 : Bool) (w4 : List TEvent) (w5 : List TEvent) (w7 : TEvent) (o : (List TEvent × List TEvent)) (h : match_part_Event_b5 s1_1 s1_2 s8 s9 s10 s16 w4 w5 w7 = some o) : LpOf Try.prog rd (fbody Try.prog 34) [1, 1, 0, 0, 1, 1, 0, 0, 1, 0, 1] (match_part_Event_b5_I s1_1 s1_2 s8 s9 s10 s16 w4 w5 w7) (match_part_Event_b5_O s1_1 s1_2 s8 s9 s10 s16 w4 w5 w7 o).1 (match_part_Event_b5_O s1_1 s1_2 s8 s9 s10 s16 w4 w5 w7 o).2 := by
  unfold match_part_Event_b5 at h
  cases s16 with
  | true =>
   replace h := iteT h
   obtain ⟨h13, h⟩ := chkE_some h
   obtain rfl := Option.some.inj h
   exact (runB_arr mixed [(20, .sl ((w4 ++ [w7]).map TEvent.D))] [] [.live [1, 4, 5, 8, 9, 10], .keep [5, 20], .ren 20 4, .sort] (ai (nc_ok TEvent.D [w7]) (ai (nc_ok TEvent.D [w7]) (ai (fit_map TEvent.D h13) (ai (app_map TEvent.D w4 [w7]) (ti))))) (by kernel_rfl)).lp
  | false =>
   replace h := iteF h
   obtain ⟨h14, h⟩ := chkE_some h
   obtain rfl := Option.some.inj h
   exact (runB_arr mixed [(24, .sl ((w5 ++ [w7]).map TEvent.D))] [] [.live [1, 4, 5, 8, 9, 10], .keep [4, 24], .ren 24 5, .sort] (ai (nc_ok TEvent.D [w7]) (ai (nc_ok TEvent.D [w7]) (ai (fit_map TEvent.D h14) (ai (app_map TEvent.D w5 [w7]) (ti))))) (by kernel_rfl)).lp
def match_part_Event_b4_I (s1_1 : TQea) (s1_2 : List TSlot) (s8 : List TEvent) (s9 : Int) (s10 : Int) (w4 : List TEvent) (w5 : List TEvent) : St := ⟨sp 28 0 [(1, .clo (.func 35) [] [.eptr (D.cells (TQea.D s1_1)), .eptr (D.cells ((D.l TSlot.D) s1_2))]), (4, .row 4), (5, .row 5), (8, .d ((D.l TEvent.D) s8)), (9, .d ((D.i .i64) s9)), (10, .d ((D.i .i64) s10))], [(4, .row 40 2 (w4.map TEvent.D)), (5, .row 40 2 (w5.map TEvent.D))], []⟩
def match_part_Event_b4_O (s1_1 : TQea) (s1_2 : List TSlot) (s8 : List TEvent) (s9 : Int) (s10 : Int) (w4 : List TEvent) (w5 : List TEvent) (o : (List TEvent × List TEvent)) : Ex × St := (.normal, ⟨sp 28 0 [(1, .clo (.func 35) [] [.eptr (D.cells (TQea.D s1_1)), .eptr (D.cells ((D.l TSlot.D) s1_2))]), (4, .row 4), (5, .row 5), (8, .d ((D.l TEvent.D) s8)), (9, .d ((D.i .i64) s9)), (10, .d ((D.i .i64) s10))], [(4, .row 40 2 (o.1.map TEvent.D)), (5, .row 40 2 (o.2.map TEvent.D))], []⟩)
theorem match_part_Event_b4_ok (rd : Option Nat) (s1_1 : TQea) (s1_2 : List TSlot) (s8 : List TEvent) (s9 : Int) (s10 : Int) (w4 : List TEvent) (w5 : List TEvent) (o : (List TEvent × List TEvent)) (h : match_part_Event_b4 s1_1 s1_2 s8 s9 s10 w4 w5 = some o) : LpOf Try.prog rd (fbody Try.prog 34) [0, 1, 1, 0, 0, 1, 0, 1] (match_part_Event_b4_I s1_1 s1_2 s8 s9 s10 w4 w5) (match_part_Event_b4_O s1_1 s1_2 s8 s9 s10 w4 w5 o).1 (match_part_Event_b4_O s1_1 s1_2 s8 s9 s10 w4 w5 o).2 := by
  unfold match_part_Event_b4 at h
  obtain ⟨x5, h10, h⟩ := idxE_some h
  obtain ⟨r6, h11, h⟩ := bndE_some h
  obtain ⟨o7, h15, h⟩ := bndE_some h
  obtain rfl := Option.some.inj h
  exact (runB_arr mixed [(12, .el (TEvent.D x5)), (16, .ret (.d (D.b r6)))] [⟨[1, 1, 0, 0, 1, 1, 0, 0, 1, 0, 1], [.live [1, 4, 5, 7, 8, 9, 10, 16], .keep [4, 5, 7]], .normal, (match_part_Event_b5_O s1_1 s1_2 s8 s9 s10 r6 w4 w5 x5 o7).2⟩] [.live [1, 4, 5, 8, 9, 10], .keep [4, 5]] (ai (elem_map TEvent.D h10) (ai (match_Split_1_ok x5 s1_1 s1_2 r6 h11) (ai (match_part_Event_b5_ok rd s1_1 s1_2 s8 s9 s10 r6 w4 w5 x5 o7 h15) (ti)))) (by kernel_rfl)).lp
def match_part_Event_l1_I (s1_1 : TQea) (s1_2 : List TSlot) (s8 : List TEvent) (s9 : Int) (s10 : Int) (w4 : List TEvent) (w5 : List TEvent) : St := ⟨sp 28 0 [(1, .clo (.func 35) [] [.eptr (D.cells (TQea.D s1_1)), .eptr (D.cells ((D.l TSlot.D) s1_2))]), (4, .row 4), (5, .row 5), (8, .d ((D.l TEvent.D) s8)), (9, .d ((D.i .i64) s9)), (10, .d ((D.i .i64) s10))], [(4, .row 40 2 (w4.map TEvent.D)), (5, .row 40 2 (w5.map TEvent.D))], []⟩
def match_part_Event_l1_O (s1_1 : TQea) (s1_2 : List TSlot) (s8 : List TEvent) (s9 : Int) (o : (List TEvent × List TEvent)) : Ex × St := (.exit 0, ⟨sp 28 0 [(4, .row 4), (5, .row 5)], [(4, .row 40 2 (o.1.map TEvent.D)), (5, .row 40 2 (o.2.map TEvent.D))], []⟩)
theorem match_part_Event_l1_rnd (rd : Option Nat) (s1_1 : TQea) (s1_2 : List TSlot) (s8 : List TEvent) (s9 : Int) (s10 : Int) (w4 : List TEvent) (w5 : List TEvent) (o : (Int × List TEvent × List TEvent) ⊕ ((List TEvent × List TEvent))) (h : match_part_Event_l1_s s1_1 s1_2 s8 s9 s10 w4 w5 = some o) : Arr Try.prog rd (fbody Try.prog 34) (0 :: [0, 1, 0, 1]) (match_part_Event_l1_I s1_1 s1_2 s8 s9 s10 w4 w5) (rR (fun s : Int × List TEvent × List TEvent => match_part_Event_l1_I s1_1 s1_2 s8 s9 s.1 s.2.1 s.2.2) (match_part_Event_l1_O s1_1 s1_2 s8 s9) o).1 (rR (fun s : Int × List TEvent × List TEvent => match_part_Event_l1_I s1_1 s1_2 s8 s9 s.1 s.2.1 s.2.2) (match_part_Event_l1_O s1_1 s1_2 s8 s9) o).2 := by
  unfold match_part_Event_l1_s at h
  rcases iteE_some h with ⟨h9, h⟩ | ⟨h9, h⟩
  ·
   obtain ⟨o8, h16, h⟩ := bndE_some h
   obtain rfl := Option.some.inj h
   exact runB_arr mixed [(11, .bit true)] [⟨[0, 1, 1, 0, 0, 1, 0, 1], [.live [1, 4, 5, 8, 9, 10], .keep [4, 5]], .normal, (match_part_Event_b4_O s1_1 s1_2 s8 s9 s10 w4 w5 o8).2⟩] [.live [1, 4, 5, 8, 9, 10], .keep [4, 5]] (ai h9 (ai (match_part_Event_b4_ok rd s1_1 s1_2 s8 s9 s10 w4 w5 o8 h16) (ti))) (by kernel_rfl)
  ·
   obtain rfl := Option.some.inj h
   exact runB_arr mixed [(11, .bit false)] [] [.live [4, 5], .keep [4, 5]] (ai h9 (ti)) (by kernel_rfl)
theorem match_part_Event_l1_ok (rd : Option Nat) (s1_1 : TQea) (s1_2 : List TSlot) (s8 : List TEvent) (s9 : Int) (s10 : Int) (w4 : List TEvent) (w5 : List TEvent) (t : (List TEvent × List TEvent)) (h : match_part_Event_l1 s1_1 s1_2 s8 s9 s10 w4 w5 = some t) : LpOf Try.prog rd (fbody Try.prog 34) [0, 1, 0, 1] (match_part_Event_l1_I s1_1 s1_2 s8 s9 s10 w4 w5) ((match_part_Event_l1_O s1_1 s1_2 s8 s9) t).1 ((match_part_Event_l1_O s1_1 s1_2 s8 s9) t).2 :=
  loopE_lpR (fun s : Int × List TEvent × List TEvent => match_part_Event_l1_I s1_1 s1_2 s8 s9 s.1 s.2.1 s.2.2) (match_part_Event_l1_O s1_1 s1_2 s8 s9) (by kernel_rfl) (fun t => isN_ne (by rfl)) (fun s o h => match_part_Event_l1_rnd rd s1_1 s1_2 s8 s9 s.1 s.2.1 s.2.2 o h) (s := (s10, w4, w5)) (t := t) h
theorem match_part_Event_ok (a0 : List TEvent) (a1_1 : TQea) (a1_2 : List TSlot) (r : List TEvent × List TEvent) (h : match_part_Event a0 a1_1 a1_2 = some r) : ACall Try.prog 34 [.d ((D.l TEvent.D) a0), .clo (.func 35) [] [.eptr (D.cells (TQea.D a1_1)), .eptr (D.cells ((D.l TSlot.D) a1_2))]] [] (.tup [.d ((D.l TEvent.D) r.1), .d ((D.l TEvent.D) r.2)]) [] := by
  unfold match_part_Event at h
  obtain ⟨o9, h17, h⟩ := bndE_some h
  obtain rfl := Option.some.inj h
  exact runF_call mixed [(9, .int (a0.length : Int))] [⟨[0, 1, 0, 1], [.live [1, 4, 5, 8, 9, 10], .keep [], .nil 4 4 40 2, .nil 5 5 40 2, .sort], .exit 0, (match_part_Event_l1_O a1_1 a1_2 a0 (a0.length : Int) o9).2⟩] [] (ai (len_map TEvent.D a0) (ai (match_part_Event_l1_ok none a1_1 a1_2 a0 (a0.length : Int) 0 ([] : List TEvent) ([] : List TEvent) o9 h17) (ti))) (by kernel_rfl)
theorem match_Split_ok (a0 : TQea) (a1 : List TSlot) (a2 : List TEvent) (r : List TEvent × List TEvent) (h : match_Split a0 a1 a2 = some r) : ACall Try.prog 14 [.d (TQea.D a0), .d ((D.l TSlot.D) a1), .d ((D.l TEvent.D) a2)] [] (.tup [.d ((D.l TEvent.D) r.1), .d ((D.l TEvent.D) r.2)]) [] := by
  unfold match_Split at h
  obtain ⟨r1, h1, h⟩ := bndE_some h
  obtain rfl := Option.some.inj h
  exact runF_call mixed [(3, .frz), (4, .frz), (10, .ret (.tup [.d ((D.l TEvent.D) r1.1), .d ((D.l TEvent.D) r1.2)]))] [] [] (ai (match_part_Event_ok a2 a0 a1 r1 h1) (ti)) (by kernel_rfl)
theorem match_Slice_ok (a0 : TQea) (a1 : List TSlot) (a2 : List TEvent) (r : List TEvent) (h : match_Slice a0 a1 a2 = some r) : ACall Try.prog 13 [.d (TQea.D a0), .d ((D.l TSlot.D) a1), .d ((D.l TEvent.D) a2)] [] (.d ((D.l TEvent.D) r)) [] := by
  unfold match_Slice at h
  obtain ⟨r1, h1, h⟩ := bndE_some h
  obtain rfl := Option.some.inj h
  exact runF_call mixed [(13, .ret (.tup [.d ((D.l TEvent.D) r1.1), .d ((D.l TEvent.D) r1.2)]))] [] [] (ai (match_Split_ok a0 a1 a2 r1 h1) (ti)) (by kernel_rfl)
def ref08_Same_l1_I (w2 : TEvent) (w3 : TEvent) (s5 : Int) : St := ⟨sp 38 0 [(2, .box 2 0), (3, .box 3 0), (5, .d ((D.i .i64) s5))], [(2, .cells ((cellsA (TEvent.D w2)))), (3, .cells ((cellsA (TEvent.D w3))))], []⟩
def ref08_Same_l1_O (w2 : TEvent) (w3 : TEvent) (o : Unit ⊕ Unit) : Ex × St := match o with
  | .inl o => (.exit 0, ⟨sp 38 0 [], [], []⟩)
  | .inr o => (.ret, ⟨sp 38 0 [(4, .d (D.b false))], [], []⟩)
theorem ref08_Same_l1_rnd (rd : Option Nat) (w2 : TEvent) (w3 : TEvent) (s5 : Int) (o : (Int) ⊕ (Unit ⊕ Unit)) (h : ref08_Same_l1_s w2 w3 s5 = some o) : Arr Try.prog rd (fbody Try.prog 18) (0 :: [0, 1, 0, 1, 1]) (ref08_Same_l1_I w2 w3 s5) (rR (fun s : Int => ref08_Same_l1_I w2 w3 s) (ref08_Same_l1_O w2 w3) o).1 (rR (fun s : Int => ref08_Same_l1_I w2 w3 s) (ref08_Same_l1_O w2 w3) o).2 := by
  unfold ref08_Same_l1_s at h
  rcases iteE_some h with ⟨h3, h⟩ | ⟨h3, h⟩
  ·
   obtain ⟨x1, h4, h⟩ := idxE_some h
   obtain ⟨x2, h5, h⟩ := idxE_some h
   rcases iteE_some h with ⟨h6, h⟩ | ⟨h6, h⟩
   ·
    obtain rfl := Option.some.inj h
    exact runB_arr mixed [(23, .int (w2.args.length : Int)), (24, .bit true), (30, .el (TValue.D x1)), (35, .el (TValue.D x2)), (37, .bit true)] [] [.live [4], .keep []] (ai (len_map TValue.D w2.args) (ai h3 (ai (elem_map TValue.D h4) (ai (elem_map TValue.D h5) (ai h6 (ti)))))) (by kernel_rfl)
   ·
    obtain rfl := Option.some.inj h
    exact runB_arr mixed [(23, .int (w2.args.length : Int)), (24, .bit true), (30, .el (TValue.D x1)), (35, .el (TValue.D x2)), (37, .bit false)] [] [.live [2, 3, 5], .keep [2, 3]] (ai (len_map TValue.D w2.args) (ai h3 (ai (elem_map TValue.D h4) (ai (elem_map TValue.D h5) (ai h6 (ti)))))) (by kernel_rfl)
  ·
   obtain rfl := Option.some.inj h
   exact runB_arr mixed [(23, .int (w2.args.length : Int)), (24, .bit false)] [] [.live [], .keep []] (ai (len_map TValue.D w2.args) (ai h3 (ti))) (by kernel_rfl)
theorem ref08_Same_l1_ok (rd : Option Nat) (w2 : TEvent) (w3 : TEvent) (s5 : Int) (t : Unit ⊕ Unit) (h : ref08_Same_l1 w2 w3 s5 = some t) : LpOf Try.prog rd (fbody Try.prog 18) [0, 1, 0, 1, 1] (ref08_Same_l1_I w2 w3 s5) ((ref08_Same_l1_O w2 w3) t).1 ((ref08_Same_l1_O w2 w3) t).2 :=
  loopE_lpR (fun s : Int => ref08_Same_l1_I w2 w3 s) (ref08_Same_l1_O w2 w3) (by kernel_rfl) (fun t => isN_ne (by rcases t with (_ | _) <;> rfl)) (fun s o h => ref08_Same_l1_rnd rd w2 w3 s o h) (s := s5) (t := t) h
theorem ref08_Same_ok (a0 : TEvent) (a1 : TEvent) (r : Bool) (h : ref08_Same a0 a1 = some r) : ACall Try.prog 18 [.d (TEvent.D a0), .d (TEvent.D a1)] [] (.d (D.b r)) [] := by
  unfold ref08_Same at h
  rcases iteE_some h with ⟨h1, h⟩ | ⟨h1, h⟩
  ·
   obtain rfl := Option.some.inj h
   exact runF_call mixed [(11, .bit true)] [] [] (ai h1 (ti)) (by kernel_rfl)
  ·
   rcases iteE_some h with ⟨h2, h⟩ | ⟨h2, h⟩
   ·
    obtain rfl := Option.some.inj h
    exact runF_call mixed [(11, .bit false), (14, .int (a0.args.length : Int)), (17, .int (a1.args.length : Int)), (19, .bit true)] [] [] (ai h1 (ai (len_map TValue.D a0.args) (ai (len_map TValue.D a1.args) (ai h2 (ti))))) (by kernel_rfl)
   ·
    obtain ⟨o3, h7, h⟩ := bndE_some h
    replace h := sumE_some h
    rcases h with ⟨o4, rfl, h⟩ | ⟨o5, rfl, h⟩
    ·
     obtain rfl := Option.some.inj h
     exact runF_call mixed [(11, .bit false), (14, .int (a0.args.length : Int)), (17, .int (a1.args.length : Int)), (19, .bit false)] [⟨[0, 1, 0, 1, 1], [.live [2, 3, 5], .keep [2, 3]], .exit 0, (ref08_Same_l1_O a0 a1 (Sum.inl o4)).2⟩] [] (ai h1 (ai (len_map TValue.D a0.args) (ai (len_map TValue.D a1.args) (ai h2 (ai (ref08_Same_l1_ok none a0 a1 0 (Sum.inl o4) h7) (ti)))))) (by kernel_rfl)
    ·
     obtain rfl := Option.some.inj h
     exact runF_call mixed [(11, .bit false), (14, .int (a0.args.length : Int)), (17, .int (a1.args.length : Int)), (19, .bit false)] [⟨[0, 1, 0, 1, 1], [.live [2, 3, 5], .keep [2, 3]], .ret, (ref08_Same_l1_O a0 a1 (Sum.inr o5)).2⟩] [] (ai h1 (ai (len_map TValue.D a0.args) (ai (len_map TValue.D a1.args) (ai h2 (ai (ref08_Same_l1_ok none a0 a1 0 (Sum.inr o5) h7) (ti)))))) (by kernel_rfl)
def law17_events_l1_I (s0 : List TEvent) (s1 : List TEvent) (s5 : Int) : St := ⟨sp 27 0 [(0, .d ((D.l TEvent.D) s0)), (1, .d ((D.l TEvent.D) s1)), (5, .d ((D.i .i64) s5))], [], []⟩
def law17_events_l1_O (s0 : List TEvent) (s1 : List TEvent) (o : Unit ⊕ Unit) : Ex × St := match o with
  | .inl o => (.exit 0, ⟨sp 27 0 [], [], []⟩)
  | .inr o => (.ret, ⟨sp 27 0 [(4, .d (D.b false))], [], []⟩)
theorem law17_events_l1_rnd (rd : Option Nat) (s0 : List TEvent) (s1 : List TEvent) (s5 : Int) (o : (Int) ⊕ (Unit ⊕ Unit)) (h : law17_events_l1_s s0 s1 s5 = some o) : Arr Try.prog rd (fbody Try.prog 15) (0 :: [0, 1, 0, 1, 1]) (law17_events_l1_I s0 s1 s5) (rR (fun s : Int => law17_events_l1_I s0 s1 s) (law17_events_l1_O s0 s1) o).1 (rR (fun s : Int => law17_events_l1_I s0 s1 s) (law17_events_l1_O s0 s1) o).2 := by
  unfold law17_events_l1_s at h
  rcases iteE_some h with ⟨h2, h⟩ | ⟨h2, h⟩
  ·
   obtain ⟨x1, h3, h⟩ := idxE_some h
   obtain ⟨x2, h4, h⟩ := idxE_some h
   obtain ⟨r3, h5, h⟩ := bndE_some h
   rcases iteE_some h with ⟨h6, h⟩ | ⟨h6, h⟩
   ·
    obtain rfl := Option.some.inj h
    exact runB_arr mixed [(13, .int (s0.length : Int)), (14, .bit true), (19, .el (TEvent.D x1)), (23, .el (TEvent.D x2)), (25, .ret (.d (D.b r3))), (26, .bit true)] [] [.live [4], .keep []] (ai (len_map TEvent.D s0) (ai h2 (ai (elem_map TEvent.D h3) (ai (elem_map TEvent.D h4) (ai (ref08_Same_ok x1 x2 r3 h5) (ai h6 (ti))))))) (by kernel_rfl)
   ·
    obtain rfl := Option.some.inj h
    exact runB_arr mixed [(13, .int (s0.length : Int)), (14, .bit true), (19, .el (TEvent.D x1)), (23, .el (TEvent.D x2)), (25, .ret (.d (D.b r3))), (26, .bit false)] [] [.live [0, 1, 5], .keep []] (ai (len_map TEvent.D s0) (ai h2 (ai (elem_map TEvent.D h3) (ai (elem_map TEvent.D h4) (ai (ref08_Same_ok x1 x2 r3 h5) (ai h6 (ti))))))) (by kernel_rfl)
  ·
   obtain rfl := Option.some.inj h
   exact runB_arr mixed [(13, .int (s0.length : Int)), (14, .bit false)] [] [.live [], .keep []] (ai (len_map TEvent.D s0) (ai h2 (ti))) (by kernel_rfl)
theorem law17_events_l1_ok (rd : Option Nat) (s0 : List TEvent) (s1 : List TEvent) (s5 : Int) (t : Unit ⊕ Unit) (h : law17_events_l1 s0 s1 s5 = some t) : LpOf Try.prog rd (fbody Try.prog 15) [0, 1, 0, 1, 1] (law17_events_l1_I s0 s1 s5) ((law17_events_l1_O s0 s1) t).1 ((law17_events_l1_O s0 s1) t).2 :=
  loopE_lpR (fun s : Int => law17_events_l1_I s0 s1 s) (law17_events_l1_O s0 s1) (by kernel_rfl) (fun t => isN_ne (by rcases t with (_ | _) <;> rfl)) (fun s o h => law17_events_l1_rnd rd s0 s1 s o h) (s := s5) (t := t) h
theorem law17_events_ok (a0 : List TEvent) (a1 : List TEvent) (r : Bool) (h : law17_events a0 a1 = some r) : ACall Try.prog 15 [.d ((D.l TEvent.D) a0), .d ((D.l TEvent.D) a1)] [] (.d (D.b r)) [] := by
  unfold law17_events at h
  rcases iteE_some h with ⟨h1, h⟩ | ⟨h1, h⟩
  ·
   obtain rfl := Option.some.inj h
   exact runF_call mixed [(7, .int (a0.length : Int)), (9, .int (a1.length : Int)), (10, .bit true)] [] [] (ai (len_map TEvent.D a0) (ai (len_map TEvent.D a1) (ai h1 (ti)))) (by kernel_rfl)
  ·
   obtain ⟨o4, h7, h⟩ := bndE_some h
   replace h := sumE_some h
   rcases h with ⟨o5, rfl, h⟩ | ⟨o6, rfl, h⟩
   ·
    obtain rfl := Option.some.inj h
    exact runF_call mixed [(7, .int (a0.length : Int)), (9, .int (a1.length : Int)), (10, .bit false)] [⟨[0, 1, 0, 1, 1], [.live [0, 1, 5], .keep []], .exit 0, (law17_events_l1_O a0 a1 (Sum.inl o5)).2⟩] [] (ai (len_map TEvent.D a0) (ai (len_map TEvent.D a1) (ai h1 (ai (law17_events_l1_ok none a0 a1 0 (Sum.inl o5) h7) (ti))))) (by kernel_rfl)
   ·
    obtain rfl := Option.some.inj h
    exact runF_call mixed [(7, .int (a0.length : Int)), (9, .int (a1.length : Int)), (10, .bit false)] [⟨[0, 1, 0, 1, 1], [.live [0, 1, 5], .keep []], .ret, (law17_events_l1_O a0 a1 (Sum.inr o6)).2⟩] [] (ai (len_map TEvent.D a0) (ai (len_map TEvent.D a1) (ai h1 (ai (law17_events_l1_ok none a0 a1 0 (Sum.inr o6) h7) (ti))))) (by kernel_rfl)
def law17_MatchSlices_b5_I (s1 : List TSlot) (s2 : List TEvent) (s9 : Int) (s60 : Bool) (w3 : TQea) (w7 : List TEvent) (w8 : List TEvent) : St := ⟨sp 102 0 [(1, .d ((D.l TSlot.D) s1)), (2, .d ((D.l TEvent.D) s2)), (3, .box 3 0), (7, .row 7), (8, .row 8), (9, .d ((D.i .i64) s9)), (60, .d (D.b s60))], [(3, .cells ((cellsA (TQea.D w3)))), (7, .row 40 2 (w7.map TEvent.D)), (8, .row 40 2 (w8.map TEvent.D))], []⟩
def law17_MatchSlices_b5_O (s1 : List TSlot) (s2 : List TEvent) (s9 : Int) (s60 : Bool) (w3 : TQea) (w7 : List TEvent) (w8 : List TEvent) (o : (List TEvent × List TEvent)) : Ex × St := (.normal, ⟨sp 102 0 [(1, .d ((D.l TSlot.D) s1)), (2, .d ((D.l TEvent.D) s2)), (3, .box 3 0), (7, .row 7), (8, .row 8), (9, .d ((D.i .i64) s9))], [(3, .cells ((cellsA (TQea.D w3)))), (7, .row 40 2 (o.1.map TEvent.D)), (8, .row 40 2 (o.2.map TEvent.D))], []⟩)
theorem law17_MatchSlices_b5_ok (rd : Option Nat) (s1 : List TSlot) (s2 : List TEvent) (s9 : Int) (s60 : Bool) (w3 : TQea) (w7 : List TEvent) (w8 : List TEvent) (o : (List TEvent × List TEvent)) (h : law17_MatchSlices_b5 s1 s2 s9 s60 w3 w7 w8 = some o) : LpOf Try.prog rd (fbody Try.prog 3) [1, 1, 0, 0, 1, 0, 0, 1, 0, 1, 1, 1, 1] (law17_MatchSlices_b5_I s1 s2 s9 s60 w3 w7 w8) (law17_MatchSlices_b5_O s1 s2 s9 s60 w3 w7 w8 o).1 (law17_MatchSlices_b5_O s1 s2 s9 s60 w3 w7 w8 o).2 := by
  unfold law17_MatchSlices_b5 at h
  cases s60 with
  | true =>
   replace h := iteT h
   obtain ⟨x27, h38, h⟩ := idxE_some h
   obtain ⟨h39, h⟩ := chkE_some h
   obtain rfl := Option.some.inj h
   exact (runB_arr mixed [(64, .el (TEvent.D x27)), (67, .sl ((w7 ++ [x27]).map TEvent.D))] [] [.live [1, 2, 3, 7, 8, 9], .keep [3, 8, 67], .ren 67 7, .sort] (ai (elem_map TEvent.D h38) (ai (nc_ok TEvent.D [x27]) (ai (nc_ok TEvent.D [x27]) (ai (fit_map TEvent.D h39) (ai (app_map TEvent.D w7 [x27]) (ti)))))) (by kernel_rfl)).lp
  | false =>
   replace h := iteF h
   obtain ⟨x28, h40, h⟩ := idxE_some h
   obtain ⟨h41, h⟩ := chkE_some h
   obtain rfl := Option.some.inj h
   exact (runB_arr mixed [(71, .el (TEvent.D x28)), (74, .sl ((w8 ++ [x28]).map TEvent.D))] [] [.live [1, 2, 3, 7, 8, 9], .keep [3, 7, 74], .ren 74 8, .sort] (ai (elem_map TEvent.D h40) (ai (nc_ok TEvent.D [x28]) (ai (nc_ok TEvent.D [x28]) (ai (fit_map TEvent.D h41) (ai (app_map TEvent.D w8 [x28]) (ti)))))) (by kernel_rfl)).lp
def law17_MatchSlices_b4_I (s1 : List TSlot) (s2 : List TEvent) (s9 : Int) (w3 : TQea) (w7 : List TEvent) (w8 : List TEvent) : St := ⟨sp 102 0 [(1, .d ((D.l TSlot.D) s1)), (2, .d ((D.l TEvent.D) s2)), (3, .box 3 0), (7, .row 7), (8, .row 8), (9, .d ((D.i .i64) s9))], [(3, .cells ((cellsA (TQea.D w3)))), (7, .row 40 2 (w7.map TEvent.D)), (8, .row 40 2 (w8.map TEvent.D))], []⟩
def law17_MatchSlices_b4_O (s1 : List TSlot) (s2 : List TEvent) (s9 : Int) (w3 : TQea) (w7 : List TEvent) (w8 : List TEvent) (o : (List TEvent × List TEvent) ⊕ Bool) : Ex × St := match o with
  | .inl o => (.normal, ⟨sp 102 0 [(1, .d ((D.l TSlot.D) s1)), (2, .d ((D.l TEvent.D) s2)), (3, .box 3 0), (7, .row 7), (8, .row 8), (9, .d ((D.i .i64) s9))], [(3, .cells ((cellsA (TQea.D w3)))), (7, .row 40 2 (o.1.map TEvent.D)), (8, .row 40 2 (o.2.map TEvent.D))], []⟩)
  | .inr o => (.ret, ⟨sp 102 0 [(6, .d (D.b o))], [], []⟩)
theorem law17_MatchSlices_b4_ok (rd : Option Nat) (s1 : List TSlot) (s2 : List TEvent) (s9 : Int) (w3 : TQea) (w7 : List TEvent) (w8 : List TEvent) (o : (List TEvent × List TEvent) ⊕ Bool) (h : law17_MatchSlices_b4 s1 s2 s9 w3 w7 w8 = some o) : LpOf Try.prog rd (fbody Try.prog 3) [0, 1, 0, 0, 1, 0, 1, 1, 1, 1] (law17_MatchSlices_b4_I s1 s2 s9 w3 w7 w8) (law17_MatchSlices_b4_O s1 s2 s9 w3 w7 w8 o).1 (law17_MatchSlices_b4_O s1 s2 s9 w3 w7 w8 o).2 := by
  unfold law17_MatchSlices_b4 at h
  obtain ⟨x21, h30, h⟩ := idxE_some h
  obtain ⟨r22, h31, h⟩ := bndE_some h
  rcases iteE_some h with ⟨h32, h⟩ | ⟨h32, h⟩
  ·
   obtain ⟨r23, h33, h⟩ := bndE_some h
   obtain rfl := Option.some.inj h
   exact (runB_arr mixed [(46, .el (TEvent.D x21)), (48, .ret (.d (D.b r22))), (49, .bit true), (50, .ret (.d (D.b r23)))] [] [.live [6], .keep []] (ai (elem_map TEvent.D h30) (ai (law17_small_ok w3 x21 r22 h31) (ai h32 (ai (law17_awake_ok r23 h33) (ti))))) (by kernel_rfl)).lp
  ·
   obtain ⟨x24, h34, h⟩ := idxE_some h
   obtain ⟨r25, h35, h⟩ := bndE_some h
   obtain ⟨r26, h36, h⟩ := bndE_some h
   obtain ⟨o29, h42, h⟩ := bndE_some h
   obtain rfl := Option.some.inj h
   exact (runB_arr mixed [(46, .el (TEvent.D x21)), (48, .ret (.d (D.b r22))), (49, .bit false), (54, .el (TEvent.D x24)), (56, .ret (.d ((D.l THit.D) r25))), (58, .ret (.d ((D.l THit.D) r26))), (59, .int (r26.length : Int))] [⟨[1, 1, 0, 0, 1, 0, 0, 1, 0, 1, 1, 1, 1], [.live [1, 2, 3, 7, 8, 9, 60], .keep [3, 7, 8]], .normal, (law17_MatchSlices_b5_O s1 s2 s9 (decide (0 < (r26.length : Int))) w3 w7 w8 o29).2⟩] [.live [1, 2, 3, 7, 8, 9], .keep [3, 7, 8]] (ai (elem_map TEvent.D h30) (ai (law17_small_ok w3 x21 r22 h31) (ai h32 (ai (elem_map TEvent.D h34) (ai (law17_hits_ok w3 x24 r25 h35) (ai (ref17_Under_ok r25 s1 r26 h36) (ai (len_map THit.D r26) (ai (law17_MatchSlices_b5_ok rd s1 s2 s9 (decide (0 < (r26.length : Int))) w3 w7 w8 o29 h42) (ti))))))))) (by kernel_rfl)).lp
def law17_MatchSlices_l1_I (s1 : List TSlot) (s2 : List TEvent) (w3 : TQea) (s9 : Int) (w7 : List TEvent) (w8 : List TEvent) : St := ⟨sp 102 0 [(1, .d ((D.l TSlot.D) s1)), (2, .d ((D.l TEvent.D) s2)), (3, .box 3 0), (7, .row 7), (8, .row 8), (9, .d ((D.i .i64) s9))], [(3, .cells ((cellsA (TQea.D w3)))), (7, .row 40 2 (w7.map TEvent.D)), (8, .row 40 2 (w8.map TEvent.D))], []⟩
def law17_MatchSlices_l1_O (s1 : List TSlot) (s2 : List TEvent) (w3 : TQea) (o : (List TEvent × List TEvent) ⊕ Bool) : Ex × St := match o with
  | .inl o => (.exit 0, ⟨sp 102 0 [(1, .d ((D.l TSlot.D) s1)), (2, .d ((D.l TEvent.D) s2)), (3, .box 3 0), (7, .row 7), (8, .row 8)], [(3, .cells ((cellsA (TQea.D w3)))), (7, .row 40 2 (o.1.map TEvent.D)), (8, .row 40 2 (o.2.map TEvent.D))], []⟩)
  | .inr o => (.ret, ⟨sp 102 0 [(6, .d (D.b o))], [], []⟩)
theorem law17_MatchSlices_l1_rnd (rd : Option Nat) (s1 : List TSlot) (s2 : List TEvent) (w3 : TQea) (s9 : Int) (w7 : List TEvent) (w8 : List TEvent) (o : (Int × List TEvent × List TEvent) ⊕ ((List TEvent × List TEvent) ⊕ Bool)) (h : law17_MatchSlices_l1_s s1 s2 w3 s9 w7 w8 = some o) : Arr Try.prog rd (fbody Try.prog 3) (0 :: [0, 1, 0, 1, 1, 1, 1]) (law17_MatchSlices_l1_I s1 s2 w3 s9 w7 w8) (rR (fun s : Int × List TEvent × List TEvent => law17_MatchSlices_l1_I s1 s2 w3 s.1 s.2.1 s.2.2) (law17_MatchSlices_l1_O s1 s2 w3) o).1 (rR (fun s : Int × List TEvent × List TEvent => law17_MatchSlices_l1_I s1 s2 w3 s.1 s.2.1 s.2.2) (law17_MatchSlices_l1_O s1 s2 w3) o).2 := by
  unfold law17_MatchSlices_l1_s at h
  rcases iteE_some h with ⟨h29, h⟩ | ⟨h29, h⟩
  ·
   obtain ⟨o30, h43, h⟩ := bndE_some h
   replace h := sumE_some h
   rcases h with ⟨o31, rfl, h⟩ | ⟨o32, rfl, h⟩
   ·
    obtain rfl := Option.some.inj h
    exact runB_arr mixed [(39, .int (s2.length : Int)), (40, .bit true)] [⟨[0, 1, 0, 0, 1, 0, 1, 1, 1, 1], [.live [1, 2, 3, 7, 8, 9], .keep [3, 7, 8]], .normal, (law17_MatchSlices_b4_O s1 s2 s9 w3 w7 w8 (Sum.inl o31)).2⟩] [.live [1, 2, 3, 7, 8, 9], .keep [3, 7, 8]] (ai (len_map TEvent.D s2) (ai h29 (ai (law17_MatchSlices_b4_ok rd s1 s2 s9 w3 w7 w8 (Sum.inl o31) h43) (ti)))) (by kernel_rfl)
   ·
    obtain rfl := Option.some.inj h
    exact runB_arr mixed [(39, .int (s2.length : Int)), (40, .bit true)] [⟨[0, 1, 0, 0, 1, 0, 1, 1, 1, 1], [.live [1, 2, 3, 7, 8, 9], .keep [3, 7, 8]], .ret, (law17_MatchSlices_b4_O s1 s2 s9 w3 w7 w8 (Sum.inr o32)).2⟩] [.live [6], .keep []] (ai (len_map TEvent.D s2) (ai h29 (ai (law17_MatchSlices_b4_ok rd s1 s2 s9 w3 w7 w8 (Sum.inr o32) h43) (ti)))) (by kernel_rfl)
  ·
   obtain rfl := Option.some.inj h
   exact runB_arr mixed [(39, .int (s2.length : Int)), (40, .bit false)] [] [.live [1, 2, 3, 7, 8], .keep [3, 7, 8]] (ai (len_map TEvent.D s2) (ai h29 (ti))) (by kernel_rfl)
theorem law17_MatchSlices_l1_ok (rd : Option Nat) (s1 : List TSlot) (s2 : List TEvent) (w3 : TQea) (s9 : Int) (w7 : List TEvent) (w8 : List TEvent) (t : (List TEvent × List TEvent) ⊕ Bool) (h : law17_MatchSlices_l1 s1 s2 w3 s9 w7 w8 = some t) : LpOf Try.prog rd (fbody Try.prog 3) [0, 1, 0, 1, 1, 1, 1] (law17_MatchSlices_l1_I s1 s2 w3 s9 w7 w8) ((law17_MatchSlices_l1_O s1 s2 w3) t).1 ((law17_MatchSlices_l1_O s1 s2 w3) t).2 :=
  loopE_lpR (fun s : Int × List TEvent × List TEvent => law17_MatchSlices_l1_I s1 s2 w3 s.1 s.2.1 s.2.2) (law17_MatchSlices_l1_O s1 s2 w3) (by kernel_rfl) (fun t => isN_ne (by rcases t with (_ | _) <;> rfl)) (fun s o h => law17_MatchSlices_l1_rnd rd s1 s2 w3 s.1 s.2.1 s.2.2 o h) (s := (s9, w7, w8)) (t := t) h
theorem law17_MatchSlices_ok (a0 : TQea) (a1 : List TSlot) (a2 : List TEvent) (r : Bool) (h : law17_MatchSlices a0 a1 a2 = some r) : ACall Try.prog 3 [.d (TQea.D a0), .d ((D.l TSlot.D) a1), .d ((D.l TEvent.D) a2)] [] (.d (D.b r)) [] := by
  unfold law17_MatchSlices at h
  rcases iteE_some h with ⟨h1, h⟩ | ⟨h1, h⟩
  ·
   obtain ⟨r1, h2, h⟩ := bndE_some h
   obtain rfl := Option.some.inj h
   exact runF_call mixed [(14, .int (a2.length : Int)), (16, .bit true), (36, .ret (.d (D.b r1)))] [] [] (ai (len_map TEvent.D a2) (ai h1 (ai (law17_awake_ok r1 h2) (ti)))) (by kernel_rfl)
  ·
   rcases iteE_some h with ⟨h3, h⟩ | ⟨h3, h⟩
   ·
    obtain ⟨r2, h4, h⟩ := bndE_some h
    obtain rfl := Option.some.inj h
    exact runF_call mixed [(14, .int (a2.length : Int)), (16, .bit false), (18, .int (a1.length : Int)), (21, .bit true), (36, .ret (.d (D.b r2)))] [] [] (ai (len_map TEvent.D a2) (ai h1 (ai (len_map TSlot.D a1) (ai h3 (ai (law17_awake_ok r2 h4) (ti)))))) (by kernel_rfl)
   ·
    obtain ⟨r3, h5, h⟩ := bndE_some h
    rcases iteE_some h with ⟨h6, h⟩ | ⟨h6, h⟩
    ·
     obtain ⟨r4, h7, h⟩ := bndE_some h
     obtain rfl := Option.some.inj h
     exact runF_call mixed [(14, .int (a2.length : Int)), (16, .bit false), (18, .int (a1.length : Int)), (21, .bit false), (23, .ret (.d (D.b r3))), (26, .bit true), (36, .ret (.d (D.b r4)))] [] [] (ai (len_map TEvent.D a2) (ai h1 (ai (len_map TSlot.D a1) (ai h3 (ai (ref05_Right_ok a1 r3 h5) (ai h6 (ai (law17_awake_ok r4 h7) (ti)))))))) (by kernel_rfl)
    ·
     obtain ⟨r5, h8, h⟩ := bndE_some h
     rcases iteE_some h with ⟨h9, h⟩ | ⟨h9, h⟩
     ·
      obtain ⟨r6, h10, h⟩ := bndE_some h
      obtain rfl := Option.some.inj h
      exact runF_call mixed [(14, .int (a2.length : Int)), (16, .bit false), (18, .int (a1.length : Int)), (21, .bit false), (23, .ret (.d (D.b r3))), (26, .bit false), (28, .ret (.d ((D.i .i64) r5))), (31, .bit true), (36, .ret (.d (D.b r6)))] [] [] (ai (len_map TEvent.D a2) (ai h1 (ai (len_map TSlot.D a1) (ai h3 (ai (ref05_Right_ok a1 r3 h5) (ai h6 (ai (ref13_Few_ok a0 r5 h8) (ai h9 (ai (law17_awake_ok r6 h10) (ti)))))))))) (by kernel_rfl)
     ·
      obtain ⟨r7, h11, h⟩ := bndE_some h
      rcases iteE_some h with ⟨h12, h⟩ | ⟨h12, h⟩
      ·
       obtain ⟨r8, h13, h⟩ := bndE_some h
       obtain rfl := Option.some.inj h
       exact runF_call mixed [(14, .int (a2.length : Int)), (16, .bit false), (18, .int (a1.length : Int)), (21, .bit false), (23, .ret (.d (D.b r3))), (26, .bit false), (28, .ret (.d ((D.i .i64) r5))), (31, .bit false), (33, .ret (.d (D.b r7))), (35, .bit true), (36, .ret (.d (D.b r8)))] [] [] (ai (len_map TEvent.D a2) (ai h1 (ai (len_map TSlot.D a1) (ai h3 (ai (ref05_Right_ok a1 r3 h5) (ai h6 (ai (ref13_Few_ok a0 r5 h8) (ai h9 (ai (ref13_Right_ok a0 r7 h11) (ai h12 (ai (law17_awake_ok r8 h13) (ti)))))))))))) (by kernel_rfl)
      ·
       obtain ⟨o33, h44, h⟩ := bndE_some h
       replace h := sumE_some h
       rcases h with ⟨o34, rfl, h⟩ | ⟨o35, rfl, h⟩
       ·
        obtain ⟨r36, h45, h⟩ := bndE_some h
        obtain ⟨r37, h46, h⟩ := bndE_some h
        obtain ⟨r38, h47, h⟩ := bndE_some h
        cases r38 with
        | true =>
         replace h := iteT h
         obtain ⟨r39, h49, h⟩ := bndE_some h
         cases r39 with
         | true =>
          replace h := iteT h
          obtain ⟨r40, h51, h⟩ := bndE_some h
          cases r40 with
          | true =>
           replace h := iteT h
           obtain ⟨r41, h53, h⟩ := bndE_some h
           obtain rfl := Option.some.inj h
           exact runF_call mixed [(14, .int (a2.length : Int)), (16, .bit false), (18, .int (a1.length : Int)), (21, .bit false), (23, .ret (.d (D.b r3))), (26, .bit false), (28, .ret (.d ((D.i .i64) r5))), (31, .bit false), (33, .ret (.d (D.b r7))), (35, .bit false), (78, .ret (.d ((D.l TEvent.D) r36))), (83, .ret (.tup [.d ((D.l TEvent.D) r37.1), .d ((D.l TEvent.D) r37.2)])), (88, .ret (.d (D.b true))), (92, .ret (.d (D.b true))), (97, .ret (.d (D.b true))), (100, .ret (.d (D.b r41)))] [⟨[0, 1, 0, 1, 1, 1, 1], [.live [1, 2, 3, 7, 8, 9], .keep [3], .nil 7 7 40 2, .nil 8 8 40 2, .sort], .exit 0, (law17_MatchSlices_l1_O a1 a2 a0 (Sum.inl o34)).2⟩] [] (ai (len_map TEvent.D a2) (ai h1 (ai (len_map TSlot.D a1) (ai h3 (ai (ref05_Right_ok a1 r3 h5) (ai h6 (ai (ref13_Few_ok a0 r5 h8) (ai h9 (ai (ref13_Right_ok a0 r7 h11) (ai h12 (ai (law17_MatchSlices_l1_ok none a1 a2 a0 0 ([] : List TEvent) ([] : List TEvent) (Sum.inl o34) h44) (ai (match_Slice_ok a0 a1 a2 r36 h45) (ai (match_Split_ok a0 a1 a2 r37 h46) (ai (law17_events_ok r36 o34.1 true h47) (ai (law17_events_ok r37.1 o34.1 true h49) (ai (law17_events_ok r37.2 o34.2 true h51) (ai (law17_awake_ok r41 h53) (ti)))))))))))))))))) (by kernel_rfl)
          | false =>
           replace h := iteF h
           obtain rfl := Option.some.inj h
           exact runF_call mixed [(14, .int (a2.length : Int)), (16, .bit false), (18, .int (a1.length : Int)), (21, .bit false), (23, .ret (.d (D.b r3))), (26, .bit false), (28, .ret (.d ((D.i .i64) r5))), (31, .bit false), (33, .ret (.d (D.b r7))), (35, .bit false), (78, .ret (.d ((D.l TEvent.D) r36))), (83, .ret (.tup [.d ((D.l TEvent.D) r37.1), .d ((D.l TEvent.D) r37.2)])), (88, .ret (.d (D.b true))), (92, .ret (.d (D.b true))), (97, .ret (.d (D.b false)))] [⟨[0, 1, 0, 1, 1, 1, 1], [.live [1, 2, 3, 7, 8, 9], .keep [3], .nil 7 7 40 2, .nil 8 8 40 2, .sort], .exit 0, (law17_MatchSlices_l1_O a1 a2 a0 (Sum.inl o34)).2⟩] [] (ai (len_map TEvent.D a2) (ai h1 (ai (len_map TSlot.D a1) (ai h3 (ai (ref05_Right_ok a1 r3 h5) (ai h6 (ai (ref13_Few_ok a0 r5 h8) (ai h9 (ai (ref13_Right_ok a0 r7 h11) (ai h12 (ai (law17_MatchSlices_l1_ok none a1 a2 a0 0 ([] : List TEvent) ([] : List TEvent) (Sum.inl o34) h44) (ai (match_Slice_ok a0 a1 a2 r36 h45) (ai (match_Split_ok a0 a1 a2 r37 h46) (ai (law17_events_ok r36 o34.1 true h47) (ai (law17_events_ok r37.1 o34.1 true h49) (ai (law17_events_ok r37.2 o34.2 false h51) (ti))))))))))))))))) (by kernel_rfl)
         | false =>
          replace h := iteF h
          obtain rfl := Option.some.inj h
          exact runF_call mixed [(14, .int (a2.length : Int)), (16, .bit false), (18, .int (a1.length : Int)), (21, .bit false), (23, .ret (.d (D.b r3))), (26, .bit false), (28, .ret (.d ((D.i .i64) r5))), (31, .bit false), (33, .ret (.d (D.b r7))), (35, .bit false), (78, .ret (.d ((D.l TEvent.D) r36))), (83, .ret (.tup [.d ((D.l TEvent.D) r37.1), .d ((D.l TEvent.D) r37.2)])), (88, .ret (.d (D.b true))), (92, .ret (.d (D.b false)))] [⟨[0, 1, 0, 1, 1, 1, 1], [.live [1, 2, 3, 7, 8, 9], .keep [3], .nil 7 7 40 2, .nil 8 8 40 2, .sort], .exit 0, (law17_MatchSlices_l1_O a1 a2 a0 (Sum.inl o34)).2⟩] [] (ai (len_map TEvent.D a2) (ai h1 (ai (len_map TSlot.D a1) (ai h3 (ai (ref05_Right_ok a1 r3 h5) (ai h6 (ai (ref13_Few_ok a0 r5 h8) (ai h9 (ai (ref13_Right_ok a0 r7 h11) (ai h12 (ai (law17_MatchSlices_l1_ok none a1 a2 a0 0 ([] : List TEvent) ([] : List TEvent) (Sum.inl o34) h44) (ai (match_Slice_ok a0 a1 a2 r36 h45) (ai (match_Split_ok a0 a1 a2 r37 h46) (ai (law17_events_ok r36 o34.1 true h47) (ai (law17_events_ok r37.1 o34.1 false h49) (ti)))))))))))))))) (by kernel_rfl)
        | false =>
         replace h := iteF h
         obtain rfl := Option.some.inj h
         exact runF_call mixed [(14, .int (a2.length : Int)), (16, .bit false), (18, .int (a1.length : Int)), (21, .bit false), (23, .ret (.d (D.b r3))), (26, .bit false), (28, .ret (.d ((D.i .i64) r5))), (31, .bit false), (33, .ret (.d (D.b r7))), (35, .bit false), (78, .ret (.d ((D.l TEvent.D) r36))), (83, .ret (.tup [.d ((D.l TEvent.D) r37.1), .d ((D.l TEvent.D) r37.2)])), (88, .ret (.d (D.b false)))] [⟨[0, 1, 0, 1, 1, 1, 1], [.live [1, 2, 3, 7, 8, 9], .keep [3], .nil 7 7 40 2, .nil 8 8 40 2, .sort], .exit 0, (law17_MatchSlices_l1_O a1 a2 a0 (Sum.inl o34)).2⟩] [] (ai (len_map TEvent.D a2) (ai h1 (ai (len_map TSlot.D a1) (ai h3 (ai (ref05_Right_ok a1 r3 h5) (ai h6 (ai (ref13_Few_ok a0 r5 h8) (ai h9 (ai (ref13_Right_ok a0 r7 h11) (ai h12 (ai (law17_MatchSlices_l1_ok none a1 a2 a0 0 ([] : List TEvent) ([] : List TEvent) (Sum.inl o34) h44) (ai (match_Slice_ok a0 a1 a2 r36 h45) (ai (match_Split_ok a0 a1 a2 r37 h46) (ai (law17_events_ok r36 o34.1 false h47) (ti))))))))))))))) (by kernel_rfl)
       ·
        obtain rfl := Option.some.inj h
        exact runF_call mixed [(14, .int (a2.length : Int)), (16, .bit false), (18, .int (a1.length : Int)), (21, .bit false), (23, .ret (.d (D.b r3))), (26, .bit false), (28, .ret (.d ((D.i .i64) r5))), (31, .bit false), (33, .ret (.d (D.b r7))), (35, .bit false)] [⟨[0, 1, 0, 1, 1, 1, 1], [.live [1, 2, 3, 7, 8, 9], .keep [3], .nil 7 7 40 2, .nil 8 8 40 2, .sort], .ret, (law17_MatchSlices_l1_O a1 a2 a0 (Sum.inr o35)).2⟩] [] (ai (len_map TEvent.D a2) (ai h1 (ai (len_map TSlot.D a1) (ai h3 (ai (ref05_Right_ok a1 r3 h5) (ai h6 (ai (ref13_Few_ok a0 r5 h8) (ai h9 (ai (ref13_Right_ok a0 r7 h11) (ai h12 (ai (law17_MatchSlices_l1_ok none a1 a2 a0 0 ([] : List TEvent) ([] : List TEvent) (Sum.inr o35) h44) (ti)))))))))))) (by kernel_rfl)
def law17_MatchGrows_l1_I (s1 : List TSlot) (s2 : List TSlot) (s3 : List TEvent) (w4 : TQea) (s9 : Int) : St := ⟨sp 116 0 [(1, .d ((D.l TSlot.D) s1)), (2, .d ((D.l TSlot.D) s2)), (3, .d ((D.l TEvent.D) s3)), (4, .box 4 0), (9, .d ((D.i .i64) s9))], [(4, .cells ((cellsA (TQea.D w4))))], []⟩
def law17_MatchGrows_l1_O (s1 : List TSlot) (s2 : List TSlot) (s3 : List TEvent) (w4 : TQea) (o : Unit ⊕ Bool) : Ex × St := match o with
  | .inl o => (.exit 0, ⟨sp 116 0 [(1, .d ((D.l TSlot.D) s1)), (2, .d ((D.l TSlot.D) s2)), (3, .d ((D.l TEvent.D) s3)), (4, .box 4 0)], [(4, .cells ((cellsA (TQea.D w4))))], []⟩)
  | .inr o => (.ret, ⟨sp 116 0 [(8, .d (D.b o))], [], []⟩)
theorem law17_MatchGrows_l1_rnd (rd : Option Nat) (s1 : List TSlot) (s2 : List TSlot) (s3 : List TEvent) (w4 : TQea) (s9 : Int) (o : (Int) ⊕ (Unit ⊕ Bool)) (h : law17_MatchGrows_l1_s s1 s2 s3 w4 s9 = some o) : Arr Try.prog rd (fbody Try.prog 4) (0 :: [0, 1, 0, 1, 1]) (law17_MatchGrows_l1_I s1 s2 s3 w4 s9) (rR (fun s : Int => law17_MatchGrows_l1_I s1 s2 s3 w4 s) (law17_MatchGrows_l1_O s1 s2 s3 w4) o).1 (rR (fun s : Int => law17_MatchGrows_l1_I s1 s2 s3 w4 s) (law17_MatchGrows_l1_O s1 s2 s3 w4) o).2 := by
  unfold law17_MatchGrows_l1_s at h
  rcases iteE_some h with ⟨h22, h⟩ | ⟨h22, h⟩
  ·
   obtain ⟨x14, h23, h⟩ := idxE_some h
   obtain ⟨r15, h24, h⟩ := bndE_some h
   rcases iteE_some h with ⟨h25, h⟩ | ⟨h25, h⟩
   ·
    obtain ⟨r16, h26, h⟩ := bndE_some h
    obtain rfl := Option.some.inj h
    exact runB_arr mixed [(56, .int (s3.length : Int)), (57, .bit true), (63, .el (TEvent.D x14)), (65, .ret (.d (D.b r15))), (66, .bit true), (67, .ret (.d (D.b r16)))] [] [.live [8], .keep []] (ai (len_map TEvent.D s3) (ai h22 (ai (elem_map TEvent.D h23) (ai (law17_small_ok w4 x14 r15 h24) (ai h25 (ai (law17_awake_ok r16 h26) (ti))))))) (by kernel_rfl)
   ·
    obtain rfl := Option.some.inj h
    exact runB_arr mixed [(56, .int (s3.length : Int)), (57, .bit true), (63, .el (TEvent.D x14)), (65, .ret (.d (D.b r15))), (66, .bit false)] [] [.live [1, 2, 3, 4, 9], .keep [4]] (ai (len_map TEvent.D s3) (ai h22 (ai (elem_map TEvent.D h23) (ai (law17_small_ok w4 x14 r15 h24) (ai h25 (ti)))))) (by kernel_rfl)
  ·
   obtain rfl := Option.some.inj h
   exact runB_arr mixed [(56, .int (s3.length : Int)), (57, .bit false)] [] [.live [1, 2, 3, 4], .keep [4]] (ai (len_map TEvent.D s3) (ai h22 (ti))) (by kernel_rfl)
theorem law17_MatchGrows_l1_ok (rd : Option Nat) (s1 : List TSlot) (s2 : List TSlot) (s3 : List TEvent) (w4 : TQea) (s9 : Int) (t : Unit ⊕ Bool) (h : law17_MatchGrows_l1 s1 s2 s3 w4 s9 = some t) : LpOf Try.prog rd (fbody Try.prog 4) [0, 1, 0, 1, 1] (law17_MatchGrows_l1_I s1 s2 s3 w4 s9) ((law17_MatchGrows_l1_O s1 s2 s3 w4) t).1 ((law17_MatchGrows_l1_O s1 s2 s3 w4) t).2 :=
  loopE_lpR (fun s : Int => law17_MatchGrows_l1_I s1 s2 s3 w4 s) (law17_MatchGrows_l1_O s1 s2 s3 w4) (by kernel_rfl) (fun t => isN_ne (by rcases t with (_ | _) <;> rfl)) (fun s o h => law17_MatchGrows_l1_rnd rd s1 s2 s3 w4 s o h) (s := s9) (t := t) h
def law17_MatchGrows_b4_I (s1 : List TSlot) (s10 : List TEvent) (s11 : List TEvent) (s12 : Int) (s13 : Int) (s98 : Bool) (w4 : TQea) : St := ⟨sp 116 0 [(1, .d ((D.l TSlot.D) s1)), (4, .box 4 0), (10, .d ((D.l TEvent.D) s10)), (11, .d ((D.l TEvent.D) s11)), (12, .d ((D.i .i64) s12)), (13, .d ((D.i .i64) s13)), (98, .d (D.b s98))], [(4, .cells ((cellsA (TQea.D w4))))], []⟩
def law17_MatchGrows_b4_O (s1 : List TSlot) (s10 : List TEvent) (s11 : List TEvent) (s12 : Int) (s13 : Int) (s98 : Bool) (w4 : TQea) (o : Int) : Ex × St := (.normal, ⟨sp 116 0 [(1, .d ((D.l TSlot.D) s1)), (4, .box 4 0), (10, .d ((D.l TEvent.D) s10)), (11, .d ((D.l TEvent.D) s11)), (12, .d ((D.i .i64) o)), (13, .d ((D.i .i64) s13))], [(4, .cells ((cellsA (TQea.D w4))))], []⟩)
theorem law17_MatchGrows_b4_ok (rd : Option Nat) (s1 : List TSlot) (s10 : List TEvent) (s11 : List TEvent) (s12 : Int) (s13 : Int) (s98 : Bool) (w4 : TQea) (o : Int) (h : law17_MatchGrows_b4 s1 s10 s11 s12 s13 s98 w4 = some o) : LpOf Try.prog rd (fbody Try.prog 4) [1, 0, 0, 1, 0, 0, 1, 0, 1, 1, 1, 1, 1, 1] (law17_MatchGrows_b4_I s1 s10 s11 s12 s13 s98 w4) (law17_MatchGrows_b4_O s1 s10 s11 s12 s13 s98 w4 o).1 (law17_MatchGrows_b4_O s1 s10 s11 s12 s13 s98 w4 o).2 := by
  unfold law17_MatchGrows_b4 at h
  cases s98 with
  | true =>
   replace h := iteT h
   obtain rfl := Option.some.inj h
   exact (runB_arr mixed [] [] [.live [1, 4, 10, 11, 12, 13], .keep [4]] (ti) (by kernel_rfl)).lp
  | false =>
   replace h := iteF h
   obtain rfl := Option.some.inj h
   exact (runB_arr mixed [] [] [.live [1, 4, 10, 11, 12, 13], .keep [4]] (ti) (by kernel_rfl)).lp
def law17_MatchGrows_b3_I (s1 : List TSlot) (s10 : List TEvent) (s11 : List TEvent) (s12 : Int) (s13 : Int) (w4 : TQea) : St := ⟨sp 116 0 [(1, .d ((D.l TSlot.D) s1)), (4, .box 4 0), (10, .d ((D.l TEvent.D) s10)), (11, .d ((D.l TEvent.D) s11)), (12, .d ((D.i .i64) s12)), (13, .d ((D.i .i64) s13))], [(4, .cells ((cellsA (TQea.D w4))))], []⟩
def law17_MatchGrows_b3_O (s1 : List TSlot) (s10 : List TEvent) (s11 : List TEvent) (s12 : Int) (s13 : Int) (w4 : TQea) (o : Int) : Ex × St := (.normal, ⟨sp 116 0 [(1, .d ((D.l TSlot.D) s1)), (4, .box 4 0), (10, .d ((D.l TEvent.D) s10)), (11, .d ((D.l TEvent.D) s11)), (12, .d ((D.i .i64) o)), (13, .d ((D.i .i64) s13))], [(4, .cells ((cellsA (TQea.D w4))))], []⟩)
theorem law17_MatchGrows_b3_ok (rd : Option Nat) (s1 : List TSlot) (s10 : List TEvent) (s11 : List TEvent) (s12 : Int) (s13 : Int) (w4 : TQea) (o : Int) (h : law17_MatchGrows_b3 s1 s10 s11 s12 s13 w4 = some o) : LpOf Try.prog rd (fbody Try.prog 4) [0, 1, 0, 0, 1, 0, 1, 1, 1, 1, 1, 1] (law17_MatchGrows_b3_I s1 s10 s11 s12 s13 w4) (law17_MatchGrows_b3_O s1 s10 s11 s12 s13 w4 o).1 (law17_MatchGrows_b3_O s1 s10 s11 s12 s13 w4 o).2 := by
  unfold law17_MatchGrows_b3 at h
  obtain ⟨x23, h33, h⟩ := idxE_some h
  obtain ⟨x24, h34, h⟩ := idxE_some h
  obtain ⟨r25, h35, h⟩ := bndE_some h
  obtain ⟨o26, h37, h⟩ := bndE_some h
  obtain rfl := Option.some.inj h
  exact (runB_arr mixed [(92, .el (TEvent.D x23)), (96, .el (TEvent.D x24)), (98, .ret (.d (D.b r25)))] [⟨[1, 0, 0, 1, 0, 0, 1, 0, 1, 1, 1, 1, 1, 1], [.live [1, 4, 10, 11, 12, 13, 98], .keep [4]], .normal, (law17_MatchGrows_b4_O s1 s10 s11 s12 s13 r25 w4 o26).2⟩] [.live [1, 4, 10, 11, 12, 13], .keep [4]] (ai (elem_map TEvent.D h33) (ai (elem_map TEvent.D h34) (ai (ref08_Same_ok x23 x24 r25 h35) (ai (law17_MatchGrows_b4_ok rd s1 s10 s11 s12 s13 r25 w4 o26 h37) (ti))))) (by kernel_rfl)).lp
def law17_MatchGrows_l2_I (s1 : List TSlot) (s10 : List TEvent) (s11 : List TEvent) (w4 : TQea) (s12 : Int) (s13 : Int) : St := ⟨sp 116 0 [(1, .d ((D.l TSlot.D) s1)), (4, .box 4 0), (10, .d ((D.l TEvent.D) s10)), (11, .d ((D.l TEvent.D) s11)), (12, .d ((D.i .i64) s12)), (13, .d ((D.i .i64) s13))], [(4, .cells ((cellsA (TQea.D w4))))], []⟩
def law17_MatchGrows_l2_O (s1 : List TSlot) (s10 : List TEvent) (s11 : List TEvent) (w4 : TQea) (o : Int) : Ex × St := (.exit 2, ⟨sp 116 0 [(1, .d ((D.l TSlot.D) s1)), (4, .box 4 0), (10, .d ((D.l TEvent.D) s10)), (11, .d ((D.l TEvent.D) s11)), (12, .d ((D.i .i64) o))], [(4, .cells ((cellsA (TQea.D w4))))], []⟩)
theorem law17_MatchGrows_l2_rnd (rd : Option Nat) (s1 : List TSlot) (s10 : List TEvent) (s11 : List TEvent) (w4 : TQea) (s12 : Int) (s13 : Int) (o : (Int × Int) ⊕ (Int)) (h : law17_MatchGrows_l2_s s1 s10 s11 w4 s12 s13 = some o) : Arr Try.prog rd (fbody Try.prog 4) (0 :: [0, 1, 0, 1, 1, 1, 1, 1, 1]) (law17_MatchGrows_l2_I s1 s10 s11 w4 s12 s13) (rR (fun s : Int × Int => law17_MatchGrows_l2_I s1 s10 s11 w4 s.1 s.2) (law17_MatchGrows_l2_O s1 s10 s11 w4) o).1 (rR (fun s : Int × Int => law17_MatchGrows_l2_I s1 s10 s11 w4 s.1 s.2) (law17_MatchGrows_l2_O s1 s10 s11 w4) o).2 := by
  unfold law17_MatchGrows_l2_s at h
  rcases iteE_some h with ⟨h31, h⟩ | ⟨h31, h⟩
  ·
   rcases iteE_some h with ⟨h32, h⟩ | ⟨h32, h⟩
   ·
    obtain ⟨o27, h38, h⟩ := bndE_some h
    obtain rfl := Option.some.inj h
    exact runB_arr mixed [(80, .int (s11.length : Int)), (82, .bit true), (85, .int (s10.length : Int)), (87, .bit true)] [⟨[0, 1, 0, 0, 1, 0, 1, 1, 1, 1, 1, 1], [.live [1, 4, 10, 11, 12, 13], .keep [4]], .normal, (law17_MatchGrows_b3_O s1 s10 s11 s12 s13 w4 o27).2⟩] [.live [1, 4, 10, 11, 12, 13], .keep [4]] (ai (len_map TEvent.D s11) (ai h31 (ai (len_map TEvent.D s10) (ai h32 (ai (law17_MatchGrows_b3_ok rd s1 s10 s11 s12 s13 w4 o27 h38) (ti)))))) (by kernel_rfl)
   ·
    obtain rfl := Option.some.inj h
    exact runB_arr mixed [(80, .int (s11.length : Int)), (82, .bit true), (85, .int (s10.length : Int)), (87, .bit false)] [] [.live [1, 4, 10, 11, 12], .keep [4]] (ai (len_map TEvent.D s11) (ai h31 (ai (len_map TEvent.D s10) (ai h32 (ti))))) (by kernel_rfl)
  ·
   obtain rfl := Option.some.inj h
   exact runB_arr mixed [(80, .int (s11.length : Int)), (82, .bit false)] [] [.live [1, 4, 10, 11, 12], .keep [4]] (ai (len_map TEvent.D s11) (ai h31 (ti))) (by kernel_rfl)
theorem law17_MatchGrows_l2_ok (rd : Option Nat) (s1 : List TSlot) (s10 : List TEvent) (s11 : List TEvent) (w4 : TQea) (s12 : Int) (s13 : Int) (t : Int) (h : law17_MatchGrows_l2 s1 s10 s11 w4 s12 s13 = some t) : LpOf Try.prog rd (fbody Try.prog 4) [0, 1, 0, 1, 1, 1, 1, 1, 1] (law17_MatchGrows_l2_I s1 s10 s11 w4 s12 s13) ((law17_MatchGrows_l2_O s1 s10 s11 w4) t).1 ((law17_MatchGrows_l2_O s1 s10 s11 w4) t).2 :=
  loopE_lpR (fun s : Int × Int => law17_MatchGrows_l2_I s1 s10 s11 w4 s.1 s.2) (law17_MatchGrows_l2_O s1 s10 s11 w4) (by kernel_rfl) (fun t => isN_ne (by rfl)) (fun s o h => law17_MatchGrows_l2_rnd rd s1 s10 s11 w4 s.1 s.2 o h) (s := (s12, s13)) (t := t) h
theorem law17_MatchGrows_ok (a0 : TQea) (a1 : List TSlot) (a2 : List TSlot) (a3 : List TEvent) (r : Bool) (h : law17_MatchGrows a0 a1 a2 a3 = some r) : ACall Try.prog 4 [.d (TQea.D a0), .d ((D.l TSlot.D) a1), .d ((D.l TSlot.D) a2), .d ((D.l TEvent.D) a3)] [] (.d (D.b r)) [] := by
  unfold law17_MatchGrows at h
  rcases iteE_some h with ⟨h1, h⟩ | ⟨h1, h⟩
  ·
   obtain ⟨r1, h2, h⟩ := bndE_some h
   obtain rfl := Option.some.inj h
   exact runF_call mixed [(15, .int (a3.length : Int)), (17, .bit true), (53, .ret (.d (D.b r1)))] [] [] (ai (len_map TEvent.D a3) (ai h1 (ai (law17_awake_ok r1 h2) (ti)))) (by kernel_rfl)
  ·
   rcases iteE_some h with ⟨h3, h⟩ | ⟨h3, h⟩
   ·
    obtain ⟨r2, h4, h⟩ := bndE_some h
    obtain rfl := Option.some.inj h
    exact runF_call mixed [(15, .int (a3.length : Int)), (17, .bit false), (19, .int (a1.length : Int)), (22, .bit true), (53, .ret (.d (D.b r2)))] [] [] (ai (len_map TEvent.D a3) (ai h1 (ai (len_map TSlot.D a1) (ai h3 (ai (law17_awake_ok r2 h4) (ti)))))) (by kernel_rfl)
   ·
    rcases iteE_some h with ⟨h5, h⟩ | ⟨h5, h⟩
    ·
     obtain ⟨r3, h6, h⟩ := bndE_some h
     obtain rfl := Option.some.inj h
     exact runF_call mixed [(15, .int (a3.length : Int)), (17, .bit false), (19, .int (a1.length : Int)), (22, .bit false), (24, .int (a2.length : Int)), (27, .bit true), (53, .ret (.d (D.b r3)))] [] [] (ai (len_map TEvent.D a3) (ai h1 (ai (len_map TSlot.D a1) (ai h3 (ai (len_map TSlot.D a2) (ai h5 (ai (law17_awake_ok r3 h6) (ti)))))))) (by kernel_rfl)
    ·
     obtain ⟨r4, h7, h⟩ := bndE_some h
     rcases iteE_some h with ⟨h8, h⟩ | ⟨h8, h⟩
     ·
      obtain ⟨r5, h9, h⟩ := bndE_some h
      obtain rfl := Option.some.inj h
      exact runF_call mixed [(15, .int (a3.length : Int)), (17, .bit false), (19, .int (a1.length : Int)), (22, .bit false), (24, .int (a2.length : Int)), (27, .bit false), (29, .ret (.d (D.b r4))), (32, .bit true), (53, .ret (.d (D.b r5)))] [] [] (ai (len_map TEvent.D a3) (ai h1 (ai (len_map TSlot.D a1) (ai h3 (ai (len_map TSlot.D a2) (ai h5 (ai (ref05_Right_ok a1 r4 h7) (ai h8 (ai (law17_awake_ok r5 h9) (ti)))))))))) (by kernel_rfl)
     ·
      obtain ⟨r6, h10, h⟩ := bndE_some h
      rcases iteE_some h with ⟨h11, h⟩ | ⟨h11, h⟩
      ·
       obtain ⟨r7, h12, h⟩ := bndE_some h
       obtain rfl := Option.some.inj h
       exact runF_call mixed [(15, .int (a3.length : Int)), (17, .bit false), (19, .int (a1.length : Int)), (22, .bit false), (24, .int (a2.length : Int)), (27, .bit false), (29, .ret (.d (D.b r4))), (32, .bit false), (34, .ret (.d (D.b r6))), (37, .bit true), (53, .ret (.d (D.b r7)))] [] [] (ai (len_map TEvent.D a3) (ai h1 (ai (len_map TSlot.D a1) (ai h3 (ai (len_map TSlot.D a2) (ai h5 (ai (ref05_Right_ok a1 r4 h7) (ai h8 (ai (ref05_Right_ok a2 r6 h10) (ai h11 (ai (law17_awake_ok r7 h12) (ti)))))))))))) (by kernel_rfl)
      ·
       obtain ⟨r8, h13, h⟩ := bndE_some h
       rcases iteE_some h with ⟨h14, h⟩ | ⟨h14, h⟩
       ·
        obtain ⟨r9, h15, h⟩ := bndE_some h
        obtain rfl := Option.some.inj h
        exact runF_call mixed [(15, .int (a3.length : Int)), (17, .bit false), (19, .int (a1.length : Int)), (22, .bit false), (24, .int (a2.length : Int)), (27, .bit false), (29, .ret (.d (D.b r4))), (32, .bit false), (34, .ret (.d (D.b r6))), (37, .bit false), (40, .ret (.d (D.b r8))), (43, .bit true), (53, .ret (.d (D.b r9)))] [] [] (ai (len_map TEvent.D a3) (ai h1 (ai (len_map TSlot.D a1) (ai h3 (ai (len_map TSlot.D a2) (ai h5 (ai (ref05_Right_ok a1 r4 h7) (ai h8 (ai (ref05_Right_ok a2 r6 h10) (ai h11 (ai (ref05_Fits_ok a1 a2 r8 h13) (ai h14 (ai (law17_awake_ok r9 h15) (ti)))))))))))))) (by kernel_rfl)
       ·
        obtain ⟨r10, h16, h⟩ := bndE_some h
        rcases iteE_some h with ⟨h17, h⟩ | ⟨h17, h⟩
        ·
         obtain ⟨r11, h18, h⟩ := bndE_some h
         obtain rfl := Option.some.inj h
         exact runF_call mixed [(15, .int (a3.length : Int)), (17, .bit false), (19, .int (a1.length : Int)), (22, .bit false), (24, .int (a2.length : Int)), (27, .bit false), (29, .ret (.d (D.b r4))), (32, .bit false), (34, .ret (.d (D.b r6))), (37, .bit false), (40, .ret (.d (D.b r8))), (43, .bit false), (45, .ret (.d ((D.i .i64) r10))), (48, .bit true), (53, .ret (.d (D.b r11)))] [] [] (ai (len_map TEvent.D a3) (ai h1 (ai (len_map TSlot.D a1) (ai h3 (ai (len_map TSlot.D a2) (ai h5 (ai (ref05_Right_ok a1 r4 h7) (ai h8 (ai (ref05_Right_ok a2 r6 h10) (ai h11 (ai (ref05_Fits_ok a1 a2 r8 h13) (ai h14 (ai (ref13_Few_ok a0 r10 h16) (ai h17 (ai (law17_awake_ok r11 h18) (ti)))))))))))))))) (by kernel_rfl)
        ·
         obtain ⟨r12, h19, h⟩ := bndE_some h
         rcases iteE_some h with ⟨h20, h⟩ | ⟨h20, h⟩
         ·
          obtain ⟨r13, h21, h⟩ := bndE_some h
          obtain rfl := Option.some.inj h
          exact runF_call mixed [(15, .int (a3.length : Int)), (17, .bit false), (19, .int (a1.length : Int)), (22, .bit false), (24, .int (a2.length : Int)), (27, .bit false), (29, .ret (.d (D.b r4))), (32, .bit false), (34, .ret (.d (D.b r6))), (37, .bit false), (40, .ret (.d (D.b r8))), (43, .bit false), (45, .ret (.d ((D.i .i64) r10))), (48, .bit false), (50, .ret (.d (D.b r12))), (52, .bit true), (53, .ret (.d (D.b r13)))] [] [] (ai (len_map TEvent.D a3) (ai h1 (ai (len_map TSlot.D a1) (ai h3 (ai (len_map TSlot.D a2) (ai h5 (ai (ref05_Right_ok a1 r4 h7) (ai h8 (ai (ref05_Right_ok a2 r6 h10) (ai h11 (ai (ref05_Fits_ok a1 a2 r8 h13) (ai h14 (ai (ref13_Few_ok a0 r10 h16) (ai h17 (ai (ref13_Right_ok a0 r12 h19) (ai h20 (ai (law17_awake_ok r13 h21) (ti)))))))))))))))))) (by kernel_rfl)
         ·
          obtain ⟨o17, h27, h⟩ := bndE_some h
          replace h := sumE_some h
          rcases h with ⟨o18, rfl, h⟩ | ⟨o19, rfl, h⟩
          ·
           obtain ⟨r20, h28, h⟩ := bndE_some h
           obtain ⟨r21, h29, h⟩ := bndE_some h
           obtain ⟨r22, h30, h⟩ := bndE_some h
           obtain ⟨o28, h39, h⟩ := bndE_some h
           rcases iteE_some h with ⟨h40, h⟩ | ⟨h40, h⟩
           ·
            obtain ⟨r29, h41, h⟩ := bndE_some h
            obtain ⟨r30, h42, h⟩ := bndE_some h
            cases r30 with
            | true =>
             replace h := iteT h
             obtain ⟨r31, h44, h⟩ := bndE_some h
             obtain rfl := Option.some.inj h
             exact runF_call mixed [(15, .int (a3.length : Int)), (17, .bit false), (19, .int (a1.length : Int)), (22, .bit false), (24, .int (a2.length : Int)), (27, .bit false), (29, .ret (.d (D.b r4))), (32, .bit false), (34, .ret (.d (D.b r6))), (37, .bit false), (40, .ret (.d (D.b r8))), (43, .bit false), (45, .ret (.d ((D.i .i64) r10))), (48, .bit false), (50, .ret (.d (D.b r12))), (52, .bit false), (71, .ret (.d ((D.l TEvent.D) r20))), (75, .ret (.d ((D.l TSlot.D) r21))), (77, .ret (.d ((D.l TEvent.D) r22))), (103, .int (r20.length : Int)), (105, .bit true), (109, .ret (.d ((D.l TEvent.D) r29))), (111, .ret (.d (D.b true))), (114, .ret (.d (D.b r31)))] [⟨[0, 1, 0, 1, 1], [.live [1, 2, 3, 4, 9], .keep [4]], .exit 0, (law17_MatchGrows_l1_O a1 a2 a3 a0 (Sum.inl o18)).2⟩, ⟨[0, 1, 0, 1, 1, 1, 1, 1, 1], [.live [1, 4, 10, 11, 12, 13], .keep [4]], .exit 2, (law17_MatchGrows_l2_O a1 r20 r22 a0 o28).2⟩] [] (ai (len_map TEvent.D a3) (ai h1 (ai (len_map TSlot.D a1) (ai h3 (ai (len_map TSlot.D a2) (ai h5 (ai (ref05_Right_ok a1 r4 h7) (ai h8 (ai (ref05_Right_ok a2 r6 h10) (ai h11 (ai (ref05_Fits_ok a1 a2 r8 h13) (ai h14 (ai (ref13_Few_ok a0 r10 h16) (ai h17 (ai (ref13_Right_ok a0 r12 h19) (ai h20 (ai (law17_MatchGrows_l1_ok none a1 a2 a3 a0 0 (Sum.inl o18) h27) (ai (match_Slice_ok a0 a1 a3 r20 h28) (ai (ref05_Union_ok a1 a2 r21 h29) (ai (match_Slice_ok a0 r21 a3 r22 h30) (ai (law17_MatchGrows_l2_ok none a1 r20 r22 a0 0 0 o28 h39) (ai (len_map TEvent.D r20) (ai h40 (ai (match_Slice_ok a0 a1 r22 r29 h41) (ai (law17_events_ok r29 r20 true h42) (ai (law17_awake_ok r31 h44) (ti))))))))))))))))))))))))))) (by kernel_rfl)
            | false =>
             replace h := iteF h
             obtain rfl := Option.some.inj h
             exact runF_call mixed [(15, .int (a3.length : Int)), (17, .bit false), (19, .int (a1.length : Int)), (22, .bit false), (24, .int (a2.length : Int)), (27, .bit false), (29, .ret (.d (D.b r4))), (32, .bit false), (34, .ret (.d (D.b r6))), (37, .bit false), (40, .ret (.d (D.b r8))), (43, .bit false), (45, .ret (.d ((D.i .i64) r10))), (48, .bit false), (50, .ret (.d (D.b r12))), (52, .bit false), (71, .ret (.d ((D.l TEvent.D) r20))), (75, .ret (.d ((D.l TSlot.D) r21))), (77, .ret (.d ((D.l TEvent.D) r22))), (103, .int (r20.length : Int)), (105, .bit true), (109, .ret (.d ((D.l TEvent.D) r29))), (111, .ret (.d (D.b false)))] [⟨[0, 1, 0, 1, 1], [.live [1, 2, 3, 4, 9], .keep [4]], .exit 0, (law17_MatchGrows_l1_O a1 a2 a3 a0 (Sum.inl o18)).2⟩, ⟨[0, 1, 0, 1, 1, 1, 1, 1, 1], [.live [1, 4, 10, 11, 12, 13], .keep [4]], .exit 2, (law17_MatchGrows_l2_O a1 r20 r22 a0 o28).2⟩] [] (ai (len_map TEvent.D a3) (ai h1 (ai (len_map TSlot.D a1) (ai h3 (ai (len_map TSlot.D a2) (ai h5 (ai (ref05_Right_ok a1 r4 h7) (ai h8 (ai (ref05_Right_ok a2 r6 h10) (ai h11 (ai (ref05_Fits_ok a1 a2 r8 h13) (ai h14 (ai (ref13_Few_ok a0 r10 h16) (ai h17 (ai (ref13_Right_ok a0 r12 h19) (ai h20 (ai (law17_MatchGrows_l1_ok none a1 a2 a3 a0 0 (Sum.inl o18) h27) (ai (match_Slice_ok a0 a1 a3 r20 h28) (ai (ref05_Union_ok a1 a2 r21 h29) (ai (match_Slice_ok a0 r21 a3 r22 h30) (ai (law17_MatchGrows_l2_ok none a1 r20 r22 a0 0 0 o28 h39) (ai (len_map TEvent.D r20) (ai h40 (ai (match_Slice_ok a0 a1 r22 r29 h41) (ai (law17_events_ok r29 r20 false h42) (ti)))))))))))))))))))))))))) (by kernel_rfl)
           ·
            obtain rfl := Option.some.inj h
            exact runF_call mixed [(15, .int (a3.length : Int)), (17, .bit false), (19, .int (a1.length : Int)), (22, .bit false), (24, .int (a2.length : Int)), (27, .bit false), (29, .ret (.d (D.b r4))), (32, .bit false), (34, .ret (.d (D.b r6))), (37, .bit false), (40, .ret (.d (D.b r8))), (43, .bit false), (45, .ret (.d ((D.i .i64) r10))), (48, .bit false), (50, .ret (.d (D.b r12))), (52, .bit false), (71, .ret (.d ((D.l TEvent.D) r20))), (75, .ret (.d ((D.l TSlot.D) r21))), (77, .ret (.d ((D.l TEvent.D) r22))), (103, .int (r20.length : Int)), (105, .bit false)] [⟨[0, 1, 0, 1, 1], [.live [1, 2, 3, 4, 9], .keep [4]], .exit 0, (law17_MatchGrows_l1_O a1 a2 a3 a0 (Sum.inl o18)).2⟩, ⟨[0, 1, 0, 1, 1, 1, 1, 1, 1], [.live [1, 4, 10, 11, 12, 13], .keep [4]], .exit 2, (law17_MatchGrows_l2_O a1 r20 r22 a0 o28).2⟩] [] (ai (len_map TEvent.D a3) (ai h1 (ai (len_map TSlot.D a1) (ai h3 (ai (len_map TSlot.D a2) (ai h5 (ai (ref05_Right_ok a1 r4 h7) (ai h8 (ai (ref05_Right_ok a2 r6 h10) (ai h11 (ai (ref05_Fits_ok a1 a2 r8 h13) (ai h14 (ai (ref13_Few_ok a0 r10 h16) (ai h17 (ai (ref13_Right_ok a0 r12 h19) (ai h20 (ai (law17_MatchGrows_l1_ok none a1 a2 a3 a0 0 (Sum.inl o18) h27) (ai (match_Slice_ok a0 a1 a3 r20 h28) (ai (ref05_Union_ok a1 a2 r21 h29) (ai (match_Slice_ok a0 r21 a3 r22 h30) (ai (law17_MatchGrows_l2_ok none a1 r20 r22 a0 0 0 o28 h39) (ai (len_map TEvent.D r20) (ai h40 (ti)))))))))))))))))))))))) (by kernel_rfl)
          ·
           obtain rfl := Option.some.inj h
           exact runF_call mixed [(15, .int (a3.length : Int)), (17, .bit false), (19, .int (a1.length : Int)), (22, .bit false), (24, .int (a2.length : Int)), (27, .bit false), (29, .ret (.d (D.b r4))), (32, .bit false), (34, .ret (.d (D.b r6))), (37, .bit false), (40, .ret (.d (D.b r8))), (43, .bit false), (45, .ret (.d ((D.i .i64) r10))), (48, .bit false), (50, .ret (.d (D.b r12))), (52, .bit false)] [⟨[0, 1, 0, 1, 1], [.live [1, 2, 3, 4, 9], .keep [4]], .ret, (law17_MatchGrows_l1_O a1 a2 a3 a0 (Sum.inr o19)).2⟩] [] (ai (len_map TEvent.D a3) (ai h1 (ai (len_map TSlot.D a1) (ai h3 (ai (len_map TSlot.D a2) (ai h5 (ai (ref05_Right_ok a1 r4 h7) (ai h8 (ai (ref05_Right_ok a2 r6 h10) (ai h11 (ai (ref05_Fits_ok a1 a2 r8 h13) (ai h14 (ai (ref13_Few_ok a0 r10 h16) (ai h17 (ai (ref13_Right_ok a0 r12 h19) (ai h20 (ai (law17_MatchGrows_l1_ok none a1 a2 a3 a0 0 (Sum.inr o19) h27) (ti)))))))))))))))))) (by kernel_rfl)
end Go.Ac
