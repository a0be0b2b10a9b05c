/-
  Part of a proof: the plain law, lists and numbers alone.
-/
import Derived.Test.YtilcdkcfcobhbaaWaA17x1
set_option linter.unusedVariables false
set_option linter.unusedSimpArgs false
set_option linter.unusedVariables false
set_option linter.unusedSimpArgs false
namespace Go.Ac
open Go.Proofs
theorem ref13_symbols_l8_rnd (rd : Option Nat) (s8 : Int) (w1 : TQea) (s9 : Int) (o : (Int) ⊕ (Unit ⊕ Unit)) (h : ref13_symbols_l8_s s8 w1 s9 = some o) : Arr Try.prog rd (fbody Try.prog 30) (0 :: [0, 1, 1, 0, 0, 1, 0, 0, 1, 0, 1, 1, 1, 1, 1]) (ref13_symbols_l8_I s8 w1 s9) (rR (fun s : Int => ref13_symbols_l8_I s8 w1 s) (ref13_symbols_l8_O s8 w1) o).1 (rR (fun s : Int => ref13_symbols_l8_I s8 w1 s) (ref13_symbols_l8_O s8 w1) o).2 := by
  unfold ref13_symbols_l8_s at h
  rcases iteE_some h with ⟨h31, h⟩ | ⟨h31, h⟩
  ·
   obtain ⟨x16, h32, h⟩ := idxE_some h
   obtain ⟨x17, h33, h⟩ := idxE_some h
   obtain ⟨r18, h34, h⟩ := bndE_some h
   cases r18 with
   | true =>
    replace h := iteT h
    obtain rfl := Option.some.inj h
    exact runB_arr mixed [(78, .bit true), (84, .el (TSymbol.D x16)), (89, .el (TSymbol.D x17)), (91, .ret (.d (D.b true)))] [] [.live [2], .keep []] (ai h31 (ai (elem_map TSymbol.D h32) (ai (elem_map TSymbol.D h33) (ai (ref13_SameSymbol_ok x16 x17 true h34) (ti))))) (by kernel_rfl)
   | false =>
    replace h := iteF h
    obtain rfl := Option.some.inj h
    exact runB_arr mixed [(78, .bit true), (84, .el (TSymbol.D x16)), (89, .el (TSymbol.D x17)), (91, .ret (.d (D.b false)))] [] [.live [1, 8, 9], .keep [1]] (ai h31 (ai (elem_map TSymbol.D h32) (ai (elem_map TSymbol.D h33) (ai (ref13_SameSymbol_ok x16 x17 false h34) (ti))))) (by kernel_rfl)
  ·
   obtain rfl := Option.some.inj h
   exact runB_arr mixed [(78, .bit false)] [] [.live [1, 8], .keep [1]] (ai h31 (ti)) (by kernel_rfl)
theorem ref13_symbols_l8_ok (rd : Option Nat) (s8 : Int) (w1 : TQea) (s9 : Int) (t : Unit ⊕ Unit) (h : ref13_symbols_l8 s8 w1 s9 = some t) : LpOf Try.prog rd (fbody Try.prog 30) [0, 1, 1, 0, 0, 1, 0, 0, 1, 0, 1, 1, 1, 1, 1] (ref13_symbols_l8_I s8 w1 s9) ((ref13_symbols_l8_O s8 w1) t).1 ((ref13_symbols_l8_O s8 w1) t).2 :=
  loopE_lpR (fun s : Int => ref13_symbols_l8_I s8 w1 s) (ref13_symbols_l8_O s8 w1) (by kernel_rfl) (fun t => isN_ne (by rcases t with (_ | _) <;> rfl)) (fun s o h => ref13_symbols_l8_rnd rd s8 w1 s o h) (s := s9) (t := t) h
def ref13_symbols_l7_I (w1 : TQea) (s8 : Int) : St := ⟨sp 118 0 [(1, .box 1 0), (8, .d ((D.i .i64) s8))], [(1, .cells ((cellsA (TQea.D w1))))], []⟩
def ref13_symbols_l7_O (w1 : TQea) (o : Unit ⊕ Unit) : Ex × St := match o with
  | .inl o => (.exit 4, ⟨sp 118 0 [(1, .box 1 0)], [(1, .cells ((cellsA (TQea.D w1))))], []⟩)
  | .inr o => (.ret, ⟨sp 118 0 [(2, .d (D.b false))], [], []⟩)
theorem ref13_symbols_l7_rnd (rd : Option Nat) (w1 : TQea) (s8 : Int) (o : (Int) ⊕ (Unit ⊕ Unit)) (h : ref13_symbols_l7_s w1 s8 = some o) : Arr Try.prog rd (fbody Try.prog 30) (0 :: [0, 1, 0, 1, 1, 1, 1, 1]) (ref13_symbols_l7_I w1 s8) (rR (fun s : Int => ref13_symbols_l7_I w1 s) (ref13_symbols_l7_O w1) o).1 (rR (fun s : Int => ref13_symbols_l7_I w1 s) (ref13_symbols_l7_O w1) o).2 := by
  unfold ref13_symbols_l7_s at h
  rcases iteE_some h with ⟨h27, h⟩ | ⟨h27, h⟩
  ·
   obtain ⟨x14, h28, h⟩ := idxE_some h
   obtain ⟨r15, h29, h⟩ := bndE_some h
   rcases iteE_some h with ⟨h30, h⟩ | ⟨h30, h⟩
   ·
    obtain rfl := Option.some.inj h
    exact runB_arr mixed [(64, .int (w1.symbols.length : Int)), (65, .bit true), (72, .el (TSymbol.D x14)), (74, .ret (.d (D.b r15))), (75, .bit true)] [] [.live [2], .keep []] (ai (len_map TSymbol.D w1.symbols) (ai h27 (ai (elem_map TSymbol.D h28) (ai (ref13_symbol_ok w1 x14 r15 h29) (ai h30 (ti)))))) (by kernel_rfl)
   ·
    obtain ⟨o19, h36, h⟩ := bndE_some h
    replace h := sumE_some h
    rcases h with ⟨o20, rfl, h⟩ | ⟨o21, rfl, h⟩
    ·
     obtain rfl := Option.some.inj h
     exact runB_arr mixed [(64, .int (w1.symbols.length : Int)), (65, .bit true), (72, .el (TSymbol.D x14)), (74, .ret (.d (D.b r15))), (75, .bit false)] [⟨[0, 1, 1, 0, 0, 1, 0, 0, 1, 0, 1, 1, 1, 1, 1], [.live [1, 8, 9], .keep [1]], .exit 6, (ref13_symbols_l8_O s8 w1 (Sum.inl o20)).2⟩] [.live [1, 8], .keep [1]] (ai (len_map TSymbol.D w1.symbols) (ai h27 (ai (elem_map TSymbol.D h28) (ai (ref13_symbol_ok w1 x14 r15 h29) (ai h30 (ai (ref13_symbols_l8_ok rd s8 w1 0 (Sum.inl o20) h36) (ti))))))) (by kernel_rfl)
    ·
     obtain rfl := Option.some.inj h
     exact runB_arr mixed [(64, .int (w1.symbols.length : Int)), (65, .bit true), (72, .el (TSymbol.D x14)), (74, .ret (.d (D.b r15))), (75, .bit false)] [⟨[0, 1, 1, 0, 0, 1, 0, 0, 1, 0, 1, 1, 1, 1, 1], [.live [1, 8, 9], .keep [1]], .ret, (ref13_symbols_l8_O s8 w1 (Sum.inr o21)).2⟩] [.live [2], .keep []] (ai (len_map TSymbol.D w1.symbols) (ai h27 (ai (elem_map TSymbol.D h28) (ai (ref13_symbol_ok w1 x14 r15 h29) (ai h30 (ai (ref13_symbols_l8_ok rd s8 w1 0 (Sum.inr o21) h36) (ti))))))) (by kernel_rfl)
  ·
   obtain rfl := Option.some.inj h
   exact runB_arr mixed [(64, .int (w1.symbols.length : Int)), (65, .bit false)] [] [.live [1], .keep [1]] (ai (len_map TSymbol.D w1.symbols) (ai h27 (ti))) (by kernel_rfl)
theorem ref13_symbols_l7_ok (rd : Option Nat) (w1 : TQea) (s8 : Int) (t : Unit ⊕ Unit) (h : ref13_symbols_l7 w1 s8 = some t) : LpOf Try.prog rd (fbody Try.prog 30) [0, 1, 0, 1, 1, 1, 1, 1] (ref13_symbols_l7_I w1 s8) ((ref13_symbols_l7_O w1) t).1 ((ref13_symbols_l7_O w1) t).2 :=
  loopE_lpR (fun s : Int => ref13_symbols_l7_I w1 s) (ref13_symbols_l7_O w1) (by kernel_rfl) (fun t => isN_ne (by rcases t with (_ | _) <;> rfl)) (fun s o h => ref13_symbols_l7_rnd rd w1 s o h) (s := s8) (t := t) h
def ref13_symbols_l10_I (s10 : Int) (w1 : TQea) (s11 : Bool) (s12 : Int) : St := ⟨sp 118 0 [(1, .box 1 0), (10, .d ((D.i .i64) s10)), (11, .d (D.b s11)), (12, .d ((D.i .i64) s12))], [(1, .cells ((cellsA (TQea.D w1))))], []⟩
def ref13_symbols_l10_O (s10 : Int) (w1 : TQea) (o : Bool) : Ex × St := (.exit 10, ⟨sp 118 0 [(1, .box 1 0), (10, .d ((D.i .i64) s10)), (11, .d (D.b o))], [(1, .cells ((cellsA (TQea.D w1))))], []⟩)
theorem ref13_symbols_l10_rnd (rd : Option Nat) (s10 : Int) (w1 : TQea) (s11 : Bool) (s12 : Int) (o : (Bool × Int) ⊕ (Bool)) (h : ref13_symbols_l10_s s10 w1 s11 s12 = some o) : Arr Try.prog rd (fbody Try.prog 30) (0 :: [0, 1, 0, 1, 0, 0, 1, 0, 0, 1, 0, 1, 1, 1, 1, 1, 1]) (ref13_symbols_l10_I s10 w1 s11 s12) (rR (fun s : Bool × Int => ref13_symbols_l10_I s10 w1 s.1 s.2) (ref13_symbols_l10_O s10 w1) o).1 (rR (fun s : Bool × Int => ref13_symbols_l10_I s10 w1 s.1 s.2) (ref13_symbols_l10_O s10 w1) o).2 := by
  unfold ref13_symbols_l10_s at h
  rcases iteE_some h with ⟨h39, h⟩ | ⟨h39, h⟩
  ·
   rcases iteE_some h with ⟨h40, h⟩ | ⟨h40, h⟩
   ·
    obtain rfl := Option.some.inj h
    exact runB_arr mixed [(102, .int (w1.symbols.length : Int)), (103, .bit true), (107, .bit true)] [] [.live [1, 10, 11, 12], .keep [1]] (ai (len_map TSymbol.D w1.symbols) (ai h39 (ai h40 (ti)))) (by kernel_rfl)
   ·
    obtain ⟨x25, h41, h⟩ := idxE_some h
    obtain ⟨r26, h42, h⟩ := bndE_some h
    obtain rfl := Option.some.inj h
    exact runB_arr mixed [(102, .int (w1.symbols.length : Int)), (103, .bit true), (107, .bit false), (111, .el (TSymbol.D x25)), (114, .ret (.d (D.b r26)))] [] [.live [1, 10, 11, 12], .keep [1]] (ai (len_map TSymbol.D w1.symbols) (ai h39 (ai h40 (ai (elem_map TSymbol.D h41) (ai (ref13_Names_v2_ok x25 s10 r26 h42) (ti)))))) (by kernel_rfl)
  ·
   obtain rfl := Option.some.inj h
   exact runB_arr mixed [(102, .int (w1.symbols.length : Int)), (103, .bit false)] [] [.live [1, 10, 11], .keep [1]] (ai (len_map TSymbol.D w1.symbols) (ai h39 (ti))) (by kernel_rfl)
theorem ref13_symbols_l10_ok (rd : Option Nat) (s10 : Int) (w1 : TQea) (s11 : Bool) (s12 : Int) (t : Bool) (h : ref13_symbols_l10 s10 w1 s11 s12 = some t) : LpOf Try.prog rd (fbody Try.prog 30) [0, 1, 0, 1, 0, 0, 1, 0, 0, 1, 0, 1, 1, 1, 1, 1, 1] (ref13_symbols_l10_I s10 w1 s11 s12) ((ref13_symbols_l10_O s10 w1) t).1 ((ref13_symbols_l10_O s10 w1) t).2 :=
  loopE_lpR (fun s : Bool × Int => ref13_symbols_l10_I s10 w1 s.1 s.2) (ref13_symbols_l10_O s10 w1) (by kernel_rfl) (fun t => isN_ne (by rfl)) (fun s o h => ref13_symbols_l10_rnd rd s10 w1 s.1 s.2 o h) (s := (s11, s12)) (t := t) h
def ref13_symbols_l9_I (w1 : TQea) (s10 : Int) : St := ⟨sp 118 0 [(1, .box 1 0), (10, .d ((D.i .i64) s10))], [(1, .cells ((cellsA (TQea.D w1))))], []⟩
def ref13_symbols_l9_O (w1 : TQea) (o : Unit ⊕ Unit) : Ex × St := match o with
  | .inl o => (.exit 8, ⟨sp 118 0 [], [], []⟩)
  | .inr o => (.ret, ⟨sp 118 0 [(2, .d (D.b false))], [], []⟩)
theorem ref13_symbols_l9_rnd (rd : Option Nat) (w1 : TQea) (s10 : Int) (o : (Int) ⊕ (Unit ⊕ Unit)) (h : ref13_symbols_l9_s w1 s10 = some o) : Arr Try.prog rd (fbody Try.prog 30) (0 :: [0, 1, 0, 1, 1, 1, 1, 1, 1]) (ref13_symbols_l9_I w1 s10) (rR (fun s : Int => ref13_symbols_l9_I w1 s) (ref13_symbols_l9_O w1) o).1 (rR (fun s : Int => ref13_symbols_l9_I w1 s) (ref13_symbols_l9_O w1) o).2 := by
  unfold ref13_symbols_l9_s at h
  rcases iteE_some h with ⟨h38, h⟩ | ⟨h38, h⟩
  ·
   obtain ⟨o27, h43, h⟩ := bndE_some h
   rcases iteE_some h with ⟨h44, h⟩ | ⟨h44, h⟩
   ·
    obtain rfl := Option.some.inj h
    exact runB_arr mixed [(95, .int (w1.quants.length : Int)), (96, .bit true), (117, .bit true)] [⟨[0, 1, 0, 1, 0, 0, 1, 0, 0, 1, 0, 1, 1, 1, 1, 1, 1], [.live [1, 10, 11, 12], .keep [1]], .exit 10, (ref13_symbols_l10_O s10 w1 o27).2⟩] [.live [2], .keep []] (ai (len_map TQuant.D w1.quants) (ai h38 (ai (ref13_symbols_l10_ok rd s10 w1 false 0 o27 h43) (ai h44 (ti))))) (by kernel_rfl)
   ·
    obtain rfl := Option.some.inj h
    exact runB_arr mixed [(95, .int (w1.quants.length : Int)), (96, .bit true), (117, .bit false)] [⟨[0, 1, 0, 1, 0, 0, 1, 0, 0, 1, 0, 1, 1, 1, 1, 1, 1], [.live [1, 10, 11, 12], .keep [1]], .exit 10, (ref13_symbols_l10_O s10 w1 o27).2⟩] [.live [1, 10], .keep [1]] (ai (len_map TQuant.D w1.quants) (ai h38 (ai (ref13_symbols_l10_ok rd s10 w1 false 0 o27 h43) (ai h44 (ti))))) (by kernel_rfl)
  ·
   obtain rfl := Option.some.inj h
   exact runB_arr mixed [(95, .int (w1.quants.length : Int)), (96, .bit false)] [] [.live [], .keep []] (ai (len_map TQuant.D w1.quants) (ai h38 (ti))) (by kernel_rfl)
theorem ref13_symbols_l9_ok (rd : Option Nat) (w1 : TQea) (s10 : Int) (t : Unit ⊕ Unit) (h : ref13_symbols_l9 w1 s10 = some t) : LpOf Try.prog rd (fbody Try.prog 30) [0, 1, 0, 1, 1, 1, 1, 1, 1] (ref13_symbols_l9_I w1 s10) ((ref13_symbols_l9_O w1) t).1 ((ref13_symbols_l9_O w1) t).2 :=
  loopE_lpR (fun s : Int => ref13_symbols_l9_I w1 s) (ref13_symbols_l9_O w1) (by kernel_rfl) (fun t => isN_ne (by rcases t with (_ | _) <;> rfl)) (fun s o h => ref13_symbols_l9_rnd rd w1 s o h) (s := s10) (t := t) h
theorem ref13_symbols_ok (a0 : TQea) (r : Bool) (h : ref13_symbols a0 = some r) : ACall Try.prog 30 [.d (TQea.D a0)] [] (.d (D.b r)) [] := by
  unfold ref13_symbols at h
  obtain ⟨h1, h⟩ := chkE_some h
  obtain ⟨o9, h22, h⟩ := bndE_some h
  obtain ⟨o11, h26, h⟩ := bndE_some h
  replace h := sumE_some h
  rcases h with ⟨o12, rfl, h⟩ | ⟨o13, rfl, h⟩
  ·
   obtain ⟨o22, h37, h⟩ := bndE_some h
   replace h := sumE_some h
   rcases h with ⟨o23, rfl, h⟩ | ⟨o24, rfl, h⟩
   ·
    obtain ⟨o28, h45, h⟩ := bndE_some h
    replace h := sumE_some h
    rcases h with ⟨o29, rfl, h⟩ | ⟨o30, rfl, h⟩
    ·
     obtain rfl := Option.some.inj h
     exact runF_call mixed [(15, .int (a0.symbols.length : Int)), (16, .sl ((List.replicate (a0.symbols.length : Int).toNat false).map D.b))] [⟨[0, 1, 0, 1, 1, 1], [.live [1, 3, 4, 5], .keep [1, 16], .ren 16 3, .nil 4 4 3 1, .sort], .exit 0, (ref13_symbols_l1_O a0 o9).2⟩, ⟨[0, 1, 0, 1, 1, 1, 1], [.live [1, 4, 7], .keep [1, 4]], .exit 2, (ref13_symbols_l6_O a0 o9 (Sum.inl o12)).2⟩, ⟨[0, 1, 0, 1, 1, 1, 1, 1], [.live [1, 8], .keep [1]], .exit 4, (ref13_symbols_l7_O a0 (Sum.inl o23)).2⟩, ⟨[0, 1, 0, 1, 1, 1, 1, 1, 1], [.live [1, 10], .keep [1]], .exit 8, (ref13_symbols_l9_O a0 (Sum.inl o29)).2⟩] [] (ai (len_map TSymbol.D a0.symbols) (ai h1.1 (ai (Int.le_refl (a0.symbols.length : Int)) (ai (Int.le_refl (a0.symbols.length : Int)) (ai (mk_fit D.b false h1.2) (ai (mk_app D.b (a0.symbols.length : Int) false) (ai (ref13_symbols_l1_ok none a0 0 (List.replicate (a0.symbols.length : Int).toNat false) ([] : List Int) o9 h22) (ai (ref13_symbols_l6_ok none a0 o9 0 (Sum.inl o12) h26) (ai (ref13_symbols_l7_ok none a0 0 (Sum.inl o23) h37) (ai (ref13_symbols_l9_ok none a0 0 (Sum.inl o29) h45) (ti))))))))))) (by kernel_rfl)
    ·
     obtain rfl := Option.some.inj h
     exact runF_call mixed [(15, .int (a0.symbols.length : Int)), (16, .sl ((List.replicate (a0.symbols.length : Int).toNat false).map D.b))] [⟨[0, 1, 0, 1, 1, 1], [.live [1, 3, 4, 5], .keep [1, 16], .ren 16 3, .nil 4 4 3 1, .sort], .exit 0, (ref13_symbols_l1_O a0 o9).2⟩, ⟨[0, 1, 0, 1, 1, 1, 1], [.live [1, 4, 7], .keep [1, 4]], .exit 2, (ref13_symbols_l6_O a0 o9 (Sum.inl o12)).2⟩, ⟨[0, 1, 0, 1, 1, 1, 1, 1], [.live [1, 8], .keep [1]], .exit 4, (ref13_symbols_l7_O a0 (Sum.inl o23)).2⟩, ⟨[0, 1, 0, 1, 1, 1, 1, 1, 1], [.live [1, 10], .keep [1]], .ret, (ref13_symbols_l9_O a0 (Sum.inr o30)).2⟩] [] (ai (len_map TSymbol.D a0.symbols) (ai h1.1 (ai (Int.le_refl (a0.symbols.length : Int)) (ai (Int.le_refl (a0.symbols.length : Int)) (ai (mk_fit D.b false h1.2) (ai (mk_app D.b (a0.symbols.length : Int) false) (ai (ref13_symbols_l1_ok none a0 0 (List.replicate (a0.symbols.length : Int).toNat false) ([] : List Int) o9 h22) (ai (ref13_symbols_l6_ok none a0 o9 0 (Sum.inl o12) h26) (ai (ref13_symbols_l7_ok none a0 0 (Sum.inl o23) h37) (ai (ref13_symbols_l9_ok none a0 0 (Sum.inr o30) h45) (ti))))))))))) (by kernel_rfl)
   ·
    obtain rfl := Option.some.inj h
    exact runF_call mixed [(15, .int (a0.symbols.length : Int)), (16, .sl ((List.replicate (a0.symbols.length : Int).toNat false).map D.b))] [⟨[0, 1, 0, 1, 1, 1], [.live [1, 3, 4, 5], .keep [1, 16], .ren 16 3, .nil 4 4 3 1, .sort], .exit 0, (ref13_symbols_l1_O a0 o9).2⟩, ⟨[0, 1, 0, 1, 1, 1, 1], [.live [1, 4, 7], .keep [1, 4]], .exit 2, (ref13_symbols_l6_O a0 o9 (Sum.inl o12)).2⟩, ⟨[0, 1, 0, 1, 1, 1, 1, 1], [.live [1, 8], .keep [1]], .ret, (ref13_symbols_l7_O a0 (Sum.inr o24)).2⟩] [] (ai (len_map TSymbol.D a0.symbols) (ai h1.1 (ai (Int.le_refl (a0.symbols.length : Int)) (ai (Int.le_refl (a0.symbols.length : Int)) (ai (mk_fit D.b false h1.2) (ai (mk_app D.b (a0.symbols.length : Int) false) (ai (ref13_symbols_l1_ok none a0 0 (List.replicate (a0.symbols.length : Int).toNat false) ([] : List Int) o9 h22) (ai (ref13_symbols_l6_ok none a0 o9 0 (Sum.inl o12) h26) (ai (ref13_symbols_l7_ok none a0 0 (Sum.inr o24) h37) (ti)))))))))) (by kernel_rfl)
  ·
   obtain rfl := Option.some.inj h
   exact runF_call mixed [(15, .int (a0.symbols.length : Int)), (16, .sl ((List.replicate (a0.symbols.length : Int).toNat false).map D.b))] [⟨[0, 1, 0, 1, 1, 1], [.live [1, 3, 4, 5], .keep [1, 16], .ren 16 3, .nil 4 4 3 1, .sort], .exit 0, (ref13_symbols_l1_O a0 o9).2⟩, ⟨[0, 1, 0, 1, 1, 1, 1], [.live [1, 4, 7], .keep [1, 4]], .ret, (ref13_symbols_l6_O a0 o9 (Sum.inr o13)).2⟩] [] (ai (len_map TSymbol.D a0.symbols) (ai h1.1 (ai (Int.le_refl (a0.symbols.length : Int)) (ai (Int.le_refl (a0.symbols.length : Int)) (ai (mk_fit D.b false h1.2) (ai (mk_app D.b (a0.symbols.length : Int) false) (ai (ref13_symbols_l1_ok none a0 0 (List.replicate (a0.symbols.length : Int).toNat false) ([] : List Int) o9 h22) (ai (ref13_symbols_l6_ok none a0 o9 0 (Sum.inr o13) h26) (ti))))))))) (by kernel_rfl)
def ref13_Right_l1_I (w1 : TQea) (s5 : Int) (s6 : Int) : St := ⟨sp 101 0 [(1, .box 1 0), (5, .d ((D.i .i64) s5)), (6, .d ((D.i .i64) s6))], [(1, .cells ((cellsA (TQea.D w1))))], []⟩
def ref13_Right_l1_O (w1 : TQea) (o : Int ⊕ Unit) : Ex × St := match o with
  | .inl o => (.exit 0, ⟨sp 101 0 [(1, .box 1 0), (5, .d ((D.i .i64) o))], [(1, .cells ((cellsA (TQea.D w1))))], []⟩)
  | .inr o => (.ret, ⟨sp 101 0 [(2, .d (D.b false))], [], []⟩)
theorem ref13_Right_l1_rnd (rd : Option Nat) (w1 : TQea) (s5 : Int) (s6 : Int) (o : (Int × Int) ⊕ (Int ⊕ Unit)) (h : ref13_Right_l1_s w1 s5 s6 = some o) : Arr Try.prog rd (fbody Try.prog 8) (0 :: [0, 1, 0, 1, 1, 1, 1]) (ref13_Right_l1_I w1 s5 s6) (rR (fun s : Int × Int => ref13_Right_l1_I w1 s.1 s.2) (ref13_Right_l1_O w1) o).1 (rR (fun s : Int × Int => ref13_Right_l1_I w1 s.1 s.2) (ref13_Right_l1_O w1) o).2 := by
  unfold ref13_Right_l1_s at h
  rcases iteE_some h with ⟨h13, h⟩ | ⟨h13, h⟩
  ·
   obtain ⟨x3, h14, h⟩ := idxE_some h
   obtain ⟨r4, h15, h⟩ := bndE_some h
   rcases iteE_some h with ⟨h16, h⟩ | ⟨h16, h⟩
   ·
    obtain rfl := Option.some.inj h
    exact runB_arr mixed [(74, .int (w1.trans.length : Int)), (75, .bit true), (83, .el (TTrans.D x3)), (86, .ret (.tup [.d ((D.i .i64) r4.1), .d (D.b r4.2)])), (90, .bit true)] [] [.live [2], .keep []] (ai (len_map TTrans.D w1.trans) (ai h13 (ai (elem_map TTrans.D h14) (ai (ref13_trans_ok w1 x3 s5 r4 h15) (ai h16 (ti)))))) (by kernel_rfl)
   ·
    obtain rfl := Option.some.inj h
    exact runB_arr mixed [(74, .int (w1.trans.length : Int)), (75, .bit true), (83, .el (TTrans.D x3)), (86, .ret (.tup [.d ((D.i .i64) r4.1), .d (D.b r4.2)])), (90, .bit false)] [] [.live [1, 5, 6], .keep [1]] (ai (len_map TTrans.D w1.trans) (ai h13 (ai (elem_map TTrans.D h14) (ai (ref13_trans_ok w1 x3 s5 r4 h15) (ai h16 (ti)))))) (by kernel_rfl)
  ·
   obtain rfl := Option.some.inj h
   exact runB_arr mixed [(74, .int (w1.trans.length : Int)), (75, .bit false)] [] [.live [1, 5], .keep [1]] (ai (len_map TTrans.D w1.trans) (ai h13 (ti))) (by kernel_rfl)
theorem ref13_Right_l1_ok (rd : Option Nat) (w1 : TQea) (s5 : Int) (s6 : Int) (t : Int ⊕ Unit) (h : ref13_Right_l1 w1 s5 s6 = some t) : LpOf Try.prog rd (fbody Try.prog 8) [0, 1, 0, 1, 1, 1, 1] (ref13_Right_l1_I w1 s5 s6) ((ref13_Right_l1_O w1) t).1 ((ref13_Right_l1_O w1) t).2 :=
  loopE_lpR (fun s : Int × Int => ref13_Right_l1_I w1 s.1 s.2) (ref13_Right_l1_O w1) (by kernel_rfl) (fun t => isN_ne (by rcases t with (_ | _) <;> rfl)) (fun s o h => ref13_Right_l1_rnd rd w1 s.1 s.2 o h) (s := (s5, s6)) (t := t) h
theorem ref13_Right_ok (a0 : TQea) (r : Bool) (h : ref13_Right a0 = some r) : ACall Try.prog 8 [.d (TQea.D a0)] [] (.d (D.b r)) [] := by
  unfold ref13_Right at h
  obtain ⟨r1, h1, h⟩ := bndE_some h
  rcases iteE_some h with ⟨h2, h⟩ | ⟨h2, h⟩
  ·
   obtain rfl := Option.some.inj h
   exact runF_call mixed [(12, .ret (.tup [.d ((D.i .i64) r1.1), .d ((D.i .i64) r1.2)])), (17, .bit true)] [] [] (ai (ref07_Check_ok a0.decls r1 h1) (ai h2 (ti))) (by kernel_rfl)
  ·
   rcases iteE_some h with ⟨h3, h⟩ | ⟨h3, h⟩
   ·
    obtain rfl := Option.some.inj h
    exact runF_call mixed [(12, .ret (.tup [.d ((D.i .i64) r1.1), .d ((D.i .i64) r1.2)])), (17, .bit false), (20, .int (a0.quants.length : Int)), (23, .bit true)] [] [] (ai (ref07_Check_ok a0.decls r1 h1) (ai h2 (ai (len_map TQuant.D a0.quants) (ai h3 (ti))))) (by kernel_rfl)
   ·
    rcases iteE_some h with ⟨h4, h⟩ | ⟨h4, h⟩
    ·
     obtain rfl := Option.some.inj h
     exact runF_call mixed [(12, .ret (.tup [.d ((D.i .i64) r1.1), .d ((D.i .i64) r1.2)])), (17, .bit false), (20, .int (a0.quants.length : Int)), (23, .bit false), (26, .int (a0.frees.length : Int)), (29, .bit true)] [] [] (ai (ref07_Check_ok a0.decls r1 h1) (ai h2 (ai (len_map TQuant.D a0.quants) (ai h3 (ai (len_map TFree.D a0.frees) (ai h4 (ti))))))) (by kernel_rfl)
    ·
     rcases iteE_some h with ⟨h5, h⟩ | ⟨h5, h⟩
     ·
      obtain rfl := Option.some.inj h
      exact runF_call mixed [(12, .ret (.tup [.d ((D.i .i64) r1.1), .d ((D.i .i64) r1.2)])), (17, .bit false), (20, .int (a0.quants.length : Int)), (23, .bit false), (26, .int (a0.frees.length : Int)), (29, .bit false), (32, .int (a0.states.length : Int)), (35, .bit true)] [] [] (ai (ref07_Check_ok a0.decls r1 h1) (ai h2 (ai (len_map TQuant.D a0.quants) (ai h3 (ai (len_map TFree.D a0.frees) (ai h4 (ai (len_map TState.D a0.states) (ai h5 (ti))))))))) (by kernel_rfl)
     ·
      rcases iteE_some h with ⟨h6, h⟩ | ⟨h6, h⟩
      ·
       obtain rfl := Option.some.inj h
       exact runF_call mixed [(12, .ret (.tup [.d ((D.i .i64) r1.1), .d ((D.i .i64) r1.2)])), (17, .bit false), (20, .int (a0.quants.length : Int)), (23, .bit false), (26, .int (a0.frees.length : Int)), (29, .bit false), (32, .int (a0.states.length : Int)), (35, .bit false), (38, .int (a0.symbols.length : Int)), (41, .bit true)] [] [] (ai (ref07_Check_ok a0.decls r1 h1) (ai h2 (ai (len_map TQuant.D a0.quants) (ai h3 (ai (len_map TFree.D a0.frees) (ai h4 (ai (len_map TState.D a0.states) (ai h5 (ai (len_map TSymbol.D a0.symbols) (ai h6 (ti))))))))))) (by kernel_rfl)
      ·
       rcases iteE_some h with ⟨h7, h⟩ | ⟨h7, h⟩
       ·
        obtain rfl := Option.some.inj h
        exact runF_call mixed [(12, .ret (.tup [.d ((D.i .i64) r1.1), .d ((D.i .i64) r1.2)])), (17, .bit false), (20, .int (a0.quants.length : Int)), (23, .bit false), (26, .int (a0.frees.length : Int)), (29, .bit false), (32, .int (a0.states.length : Int)), (35, .bit false), (38, .int (a0.symbols.length : Int)), (41, .bit false), (44, .int (a0.nodes.length : Int)), (47, .bit true)] [] [] (ai (ref07_Check_ok a0.decls r1 h1) (ai h2 (ai (len_map TQuant.D a0.quants) (ai h3 (ai (len_map TFree.D a0.frees) (ai h4 (ai (len_map TState.D a0.states) (ai h5 (ai (len_map TSymbol.D a0.symbols) (ai h6 (ai (len_map TNode.D a0.nodes) (ai h7 (ti))))))))))))) (by kernel_rfl)
       ·
        rcases iteE_some h with ⟨h8, h⟩ | ⟨h8, h⟩
        ·
         obtain rfl := Option.some.inj h
         exact runF_call mixed [(12, .ret (.tup [.d ((D.i .i64) r1.1), .d ((D.i .i64) r1.2)])), (17, .bit false), (20, .int (a0.quants.length : Int)), (23, .bit false), (26, .int (a0.frees.length : Int)), (29, .bit false), (32, .int (a0.states.length : Int)), (35, .bit false), (38, .int (a0.symbols.length : Int)), (41, .bit false), (44, .int (a0.nodes.length : Int)), (47, .bit false), (50, .int (a0.trans.length : Int)), (53, .bit true)] [] [] (ai (ref07_Check_ok a0.decls r1 h1) (ai h2 (ai (len_map TQuant.D a0.quants) (ai h3 (ai (len_map TFree.D a0.frees) (ai h4 (ai (len_map TState.D a0.states) (ai h5 (ai (len_map TSymbol.D a0.symbols) (ai h6 (ai (len_map TNode.D a0.nodes) (ai h7 (ai (len_map TTrans.D a0.trans) (ai h8 (ti))))))))))))))) (by kernel_rfl)
        ·
         rcases iteE_some h with ⟨h9, h⟩ | ⟨h9, h⟩
         ·
          obtain rfl := Option.some.inj h
          exact runF_call mixed [(12, .ret (.tup [.d ((D.i .i64) r1.1), .d ((D.i .i64) r1.2)])), (17, .bit false), (20, .int (a0.quants.length : Int)), (23, .bit false), (26, .int (a0.frees.length : Int)), (29, .bit false), (32, .int (a0.states.length : Int)), (35, .bit false), (38, .int (a0.symbols.length : Int)), (41, .bit false), (44, .int (a0.nodes.length : Int)), (47, .bit false), (50, .int (a0.trans.length : Int)), (53, .bit false), (58, .bit true)] [] [] (ai (ref07_Check_ok a0.decls r1 h1) (ai h2 (ai (len_map TQuant.D a0.quants) (ai h3 (ai (len_map TFree.D a0.frees) (ai h4 (ai (len_map TState.D a0.states) (ai h5 (ai (len_map TSymbol.D a0.symbols) (ai h6 (ai (len_map TNode.D a0.nodes) (ai h7 (ai (len_map TTrans.D a0.trans) (ai h8 (ai h9 (ti)))))))))))))))) (by kernel_rfl)
         ·
          rcases iteE_some h with ⟨h10, h⟩ | ⟨h10, h⟩
          ·
           obtain rfl := Option.some.inj h
           exact runF_call mixed [(12, .ret (.tup [.d ((D.i .i64) r1.1), .d ((D.i .i64) r1.2)])), (17, .bit false), (20, .int (a0.quants.length : Int)), (23, .bit false), (26, .int (a0.frees.length : Int)), (29, .bit false), (32, .int (a0.states.length : Int)), (35, .bit false), (38, .int (a0.symbols.length : Int)), (41, .bit false), (44, .int (a0.nodes.length : Int)), (47, .bit false), (50, .int (a0.trans.length : Int)), (53, .bit false), (58, .bit false), (63, .int (a0.states.length : Int)), (66, .bit true)] [] [] (ai (ref07_Check_ok a0.decls r1 h1) (ai h2 (ai (len_map TQuant.D a0.quants) (ai h3 (ai (len_map TFree.D a0.frees) (ai h4 (ai (len_map TState.D a0.states) (ai h5 (ai (len_map TSymbol.D a0.symbols) (ai h6 (ai (len_map TNode.D a0.nodes) (ai h7 (ai (len_map TTrans.D a0.trans) (ai h8 (ai h9 (ai (len_map TState.D a0.states) (ai h10 (ti)))))))))))))))))) (by kernel_rfl)
          ·
           obtain ⟨r2, h11, h⟩ := bndE_some h
           rcases iteE_some h with ⟨h12, h⟩ | ⟨h12, h⟩
           ·
            obtain rfl := Option.some.inj h
            exact runF_call mixed [(12, .ret (.tup [.d ((D.i .i64) r1.1), .d ((D.i .i64) r1.2)])), (17, .bit false), (20, .int (a0.quants.length : Int)), (23, .bit false), (26, .int (a0.frees.length : Int)), (29, .bit false), (32, .int (a0.states.length : Int)), (35, .bit false), (38, .int (a0.symbols.length : Int)), (41, .bit false), (44, .int (a0.nodes.length : Int)), (47, .bit false), (50, .int (a0.trans.length : Int)), (53, .bit false), (58, .bit false), (63, .int (a0.states.length : Int)), (66, .bit false), (68, .ret (.d (D.b r2))), (70, .bit true)] [] [] (ai (ref07_Check_ok a0.decls r1 h1) (ai h2 (ai (len_map TQuant.D a0.quants) (ai h3 (ai (len_map TFree.D a0.frees) (ai h4 (ai (len_map TState.D a0.states) (ai h5 (ai (len_map TSymbol.D a0.symbols) (ai h6 (ai (len_map TNode.D a0.nodes) (ai h7 (ai (len_map TTrans.D a0.trans) (ai h8 (ai h9 (ai (len_map TState.D a0.states) (ai h10 (ai (ref13_names_ok a0 r2 h11) (ai h12 (ti)))))))))))))))))))) (by kernel_rfl)
           ·
            obtain ⟨o5, h17, h⟩ := bndE_some h
            replace h := sumE_some h
            rcases h with ⟨o6, rfl, h⟩ | ⟨o7, rfl, h⟩
            ·
             rcases iteE_some h with ⟨h18, h⟩ | ⟨h18, h⟩
             ·
              obtain ⟨r8, h19, h⟩ := bndE_some h
              obtain rfl := Option.some.inj h
              exact runF_call mixed [(12, .ret (.tup [.d ((D.i .i64) r1.1), .d ((D.i .i64) r1.2)])), (17, .bit false), (20, .int (a0.quants.length : Int)), (23, .bit false), (26, .int (a0.frees.length : Int)), (29, .bit false), (32, .int (a0.states.length : Int)), (35, .bit false), (38, .int (a0.symbols.length : Int)), (41, .bit false), (44, .int (a0.nodes.length : Int)), (47, .bit false), (50, .int (a0.trans.length : Int)), (53, .bit false), (58, .bit false), (63, .int (a0.states.length : Int)), (66, .bit false), (68, .ret (.d (D.b r2))), (70, .bit false), (95, .int (a0.nodes.length : Int)), (97, .bit true), (99, .ret (.d (D.b r8)))] [⟨[0, 1, 0, 1, 1, 1, 1], [.live [1, 5, 6], .keep [1]], .exit 0, (ref13_Right_l1_O a0 (Sum.inl o6)).2⟩] [] (ai (ref07_Check_ok a0.decls r1 h1) (ai h2 (ai (len_map TQuant.D a0.quants) (ai h3 (ai (len_map TFree.D a0.frees) (ai h4 (ai (len_map TState.D a0.states) (ai h5 (ai (len_map TSymbol.D a0.symbols) (ai h6 (ai (len_map TNode.D a0.nodes) (ai h7 (ai (len_map TTrans.D a0.trans) (ai h8 (ai h9 (ai (len_map TState.D a0.states) (ai h10 (ai (ref13_names_ok a0 r2 h11) (ai h12 (ai (ref13_Right_l1_ok none a0 0 0 (Sum.inl o6) h17) (ai (len_map TNode.D a0.nodes) (ai h18 (ai (ref13_symbols_ok a0 r8 h19) (ti)))))))))))))))))))))))) (by kernel_rfl)
             ·
              obtain rfl := Option.some.inj h
              exact runF_call mixed [(12, .ret (.tup [.d ((D.i .i64) r1.1), .d ((D.i .i64) r1.2)])), (17, .bit false), (20, .int (a0.quants.length : Int)), (23, .bit false), (26, .int (a0.frees.length : Int)), (29, .bit false), (32, .int (a0.states.length : Int)), (35, .bit false), (38, .int (a0.symbols.length : Int)), (41, .bit false), (44, .int (a0.nodes.length : Int)), (47, .bit false), (50, .int (a0.trans.length : Int)), (53, .bit false), (58, .bit false), (63, .int (a0.states.length : Int)), (66, .bit false), (68, .ret (.d (D.b r2))), (70, .bit false), (95, .int (a0.nodes.length : Int)), (97, .bit false)] [⟨[0, 1, 0, 1, 1, 1, 1], [.live [1, 5, 6], .keep [1]], .exit 0, (ref13_Right_l1_O a0 (Sum.inl o6)).2⟩] [] (ai (ref07_Check_ok a0.decls r1 h1) (ai h2 (ai (len_map TQuant.D a0.quants) (ai h3 (ai (len_map TFree.D a0.frees) (ai h4 (ai (len_map TState.D a0.states) (ai h5 (ai (len_map TSymbol.D a0.symbols) (ai h6 (ai (len_map TNode.D a0.nodes) (ai h7 (ai (len_map TTrans.D a0.trans) (ai h8 (ai h9 (ai (len_map TState.D a0.states) (ai h10 (ai (ref13_names_ok a0 r2 h11) (ai h12 (ai (ref13_Right_l1_ok none a0 0 0 (Sum.inl o6) h17) (ai (len_map TNode.D a0.nodes) (ai h18 (ti))))))))))))))))))))))) (by kernel_rfl)
            ·
             obtain rfl := Option.some.inj h
             exact runF_call mixed [(12, .ret (.tup [.d ((D.i .i64) r1.1), .d ((D.i .i64) r1.2)])), (17, .bit false), (20, .int (a0.quants.length : Int)), (23, .bit false), (26, .int (a0.frees.length : Int)), (29, .bit false), (32, .int (a0.states.length : Int)), (35, .bit false), (38, .int (a0.symbols.length : Int)), (41, .bit false), (44, .int (a0.nodes.length : Int)), (47, .bit false), (50, .int (a0.trans.length : Int)), (53, .bit false), (58, .bit false), (63, .int (a0.states.length : Int)), (66, .bit false), (68, .ret (.d (D.b r2))), (70, .bit false)] [⟨[0, 1, 0, 1, 1, 1, 1], [.live [1, 5, 6], .keep [1]], .ret, (ref13_Right_l1_O a0 (Sum.inr o7)).2⟩] [] (ai (ref07_Check_ok a0.decls r1 h1) (ai h2 (ai (len_map TQuant.D a0.quants) (ai h3 (ai (len_map TFree.D a0.frees) (ai h4 (ai (len_map TState.D a0.states) (ai h5 (ai (len_map TSymbol.D a0.symbols) (ai h6 (ai (len_map TNode.D a0.nodes) (ai h7 (ai (len_map TTrans.D a0.trans) (ai h8 (ai h9 (ai (len_map TState.D a0.states) (ai h10 (ai (ref13_names_ok a0 r2 h11) (ai h12 (ai (ref13_Right_l1_ok none a0 0 0 (Sum.inr o7) h17) (ti))))))))))))))))))))) (by kernel_rfl)
def law17_small_l1_I (w2 : TQea) (w3 : TEvent) (s5 : Int) : St := ⟨sp 32 0 [(2, .box 2 0), (3, .box 3 0), (5, .d ((D.i .i64) s5))], [(2, .cells ((cellsA (TQea.D w2)))), (3, .cells ((cellsA (TEvent.D w3))))], []⟩
def law17_small_l1_O (w2 : TQea) (w3 : TEvent) (o : Unit ⊕ Unit) : Ex × St := match o with
  | .inl o => (.exit 0, ⟨sp 32 0 [(2, .box 2 0)], [(2, .cells ((cellsA (TQea.D w2))))], []⟩)
  | .inr o => (.ret, ⟨sp 32 0 [(4, .d (D.b false))], [], []⟩)
theorem law17_small_l1_rnd (rd : Option Nat) (w2 : TQea) (w3 : TEvent) (s5 : Int) (o : (Int) ⊕ (Unit ⊕ Unit)) (h : law17_small_l1_s w2 w3 s5 = some o) : Arr Try.prog rd (fbody Try.prog 10) (0 :: [0, 1, 0, 1, 1]) (law17_small_l1_I w2 w3 s5) (rR (fun s : Int => law17_small_l1_I w2 w3 s) (law17_small_l1_O w2 w3) o).1 (rR (fun s : Int => law17_small_l1_I w2 w3 s) (law17_small_l1_O w2 w3) o).2 := by
  unfold law17_small_l1_s at h
  rcases iteE_some h with ⟨h4, h⟩ | ⟨h4, h⟩
  ·
   obtain ⟨x2, h5, h⟩ := idxE_some h
   rcases iteE_some h with ⟨h6, h⟩ | ⟨h6, h⟩
   ·
    obtain rfl := Option.some.inj h
    exact runB_arr mixed [(18, .int (w3.args.length : Int)), (19, .bit true), (25, .el (TValue.D x2)), (28, .int (x2.str.length : Int)), (29, .bit true)] [] [.live [4], .keep []] (ai (len_map TValue.D w3.args) (ai h4 (ai (elem_map TValue.D h5) (ai (len_str x2.str) (ai h6 (ti)))))) (by kernel_rfl)
   ·
    obtain rfl := Option.some.inj h
    exact runB_arr mixed [(18, .int (w3.args.length : Int)), (19, .bit true), (25, .el (TValue.D x2)), (28, .int (x2.str.length : Int)), (29, .bit false)] [] [.live [2, 3, 5], .keep [2, 3]] (ai (len_map TValue.D w3.args) (ai h4 (ai (elem_map TValue.D h5) (ai (len_str x2.str) (ai h6 (ti)))))) (by kernel_rfl)
  ·
   obtain rfl := Option.some.inj h
   exact runB_arr mixed [(18, .int (w3.args.length : Int)), (19, .bit false)] [] [.live [2], .keep [2]] (ai (len_map TValue.D w3.args) (ai h4 (ti))) (by kernel_rfl)
theorem law17_small_l1_ok (rd : Option Nat) (w2 : TQea) (w3 : TEvent) (s5 : Int) (t : Unit ⊕ Unit) (h : law17_small_l1 w2 w3 s5 = some t) : LpOf Try.prog rd (fbody Try.prog 10) [0, 1, 0, 1, 1] (law17_small_l1_I w2 w3 s5) ((law17_small_l1_O w2 w3) t).1 ((law17_small_l1_O w2 w3) t).2 :=
  loopE_lpR (fun s : Int => law17_small_l1_I w2 w3 s) (law17_small_l1_O w2 w3) (by kernel_rfl) (fun t => isN_ne (by rcases t with (_ | _) <;> rfl)) (fun s o h => law17_small_l1_rnd rd w2 w3 s o h) (s := s5) (t := t) h
theorem law17_small_ok (a0 : TQea) (a1 : TEvent) (r : Bool) (h : law17_small a0 a1 = some r) : ACall Try.prog 10 [.d (TQea.D a0), .d (TEvent.D a1)] [] (.d (D.b r)) [] := by
  unfold law17_small at h
  obtain ⟨r1, h1, h⟩ := bndE_some h
  rcases iteE_some h with ⟨h2, h⟩ | ⟨h2, h⟩
  ·
   obtain rfl := Option.some.inj h
   exact runF_call mixed [(7, .ret (.d ((D.i .i64) r1))), (9, .bit true)] [] [] (ai (ref13_Few_ok a0 r1 h1) (ai h2 (ti))) (by kernel_rfl)
  ·
   rcases iteE_some h with ⟨h3, h⟩ | ⟨h3, h⟩
   ·
    obtain rfl := Option.some.inj h
    exact runF_call mixed [(7, .ret (.d ((D.i .i64) r1))), (9, .bit false), (12, .int (a1.args.length : Int)), (14, .bit true)] [] [] (ai (ref13_Few_ok a0 r1 h1) (ai h2 (ai (len_map TValue.D a1.args) (ai h3 (ti))))) (by kernel_rfl)
   ·
    obtain ⟨o3, h7, h⟩ := bndE_some h
    replace h := sumE_some h
    rcases h with ⟨o4, rfl, h⟩ | ⟨o5, rfl, h⟩
    ·
     obtain ⟨r6, h8, h⟩ := bndE_some h
     obtain rfl := Option.some.inj h
     exact runF_call mixed [(7, .ret (.d ((D.i .i64) r1))), (9, .bit false), (12, .int (a1.args.length : Int)), (14, .bit false), (31, .ret (.d (D.b r6)))] [⟨[0, 1, 0, 1, 1], [.live [2, 3, 5], .keep [2, 3]], .exit 0, (law17_small_l1_O a0 a1 (Sum.inl o4)).2⟩] [] (ai (ref13_Few_ok a0 r1 h1) (ai h2 (ai (len_map TValue.D a1.args) (ai h3 (ai (law17_small_l1_ok none a0 a1 0 (Sum.inl o4) h7) (ai (ref13_Right_ok a0 r6 h8) (ti))))))) (by kernel_rfl)
    ·
     obtain rfl := Option.some.inj h
     exact runF_call mixed [(7, .ret (.d ((D.i .i64) r1))), (9, .bit false), (12, .int (a1.args.length : Int)), (14, .bit false)] [⟨[0, 1, 0, 1, 1], [.live [2, 3, 5], .keep [2, 3]], .ret, (law17_small_l1_O a0 a1 (Sum.inr o5)).2⟩] [] (ai (ref13_Few_ok a0 r1 h1) (ai h2 (ai (len_map TValue.D a1.args) (ai h3 (ai (law17_small_l1_ok none a0 a1 0 (Sum.inr o5) h7) (ti)))))) (by kernel_rfl)
theorem schema_Find_1_ok (a0 : TDecl) (a1 : List UInt8) (r : Bool) (h : schema_Find_1 a0 a1 = some r) : ACall Try.prog 82 [.d (TDecl.D a0), .eptr (D.cells (D.s a1))] [] (.d (D.b r)) [] := by
  unfold schema_Find_1 at h
  obtain rfl := Option.some.inj h
  exact runF_call mixed [] [] [] (ti) (by kernel_rfl)
def slices_IndexFunc_Decl_Decl_l1_I (s0 : List TDecl) (s1 : List UInt8) (s7 : Int) (s8 : Int) : St := ⟨sp 19 0 [(0, .d ((D.l TDecl.D) s0)), (1, .clo (.func 82) [] [.eptr (D.cells (D.s s1))]), (7, .d ((D.i .i64) s7)), (8, .d ((D.i .i64) s8))], [], []⟩
def slices_IndexFunc_Decl_Decl_l1_O (s0 : List TDecl) (s1 : List UInt8) (s7 : Int) (o : Unit ⊕ Int) : Ex × St := match o with
  | .inl o => (.exit 0, ⟨sp 19 0 [], [], []⟩)
  | .inr o => (.ret, ⟨sp 19 0 [(4, .d ((D.i .i64) o))], [], []⟩)
theorem slices_IndexFunc_Decl_Decl_l1_rnd (rd : Option Nat) (s0 : List TDecl) (s1 : List UInt8) (s7 : Int) (s8 : Int) (o : (Int) ⊕ (Unit ⊕ Int)) (h : slices_IndexFunc_Decl_Decl_l1_s s0 s1 s7 s8 = some o) : Arr Try.prog rd (fbody Try.prog 81) (0 :: [0, 1, 0, 1]) (slices_IndexFunc_Decl_Decl_l1_I s0 s1 s7 s8) (rR (fun s : Int => slices_IndexFunc_Decl_Decl_l1_I s0 s1 s7 s) (slices_IndexFunc_Decl_Decl_l1_O s0 s1 s7) o).1 (rR (fun s : Int => slices_IndexFunc_Decl_Decl_l1_I s0 s1 s7 s) (slices_IndexFunc_Decl_Decl_l1_O s0 s1 s7) o).2 := by
  unfold slices_IndexFunc_Decl_Decl_l1_s at h
  rcases iteE_some h with ⟨h1, h⟩ | ⟨h1, h⟩
  ·
   obtain ⟨x1, h2, h⟩ := idxE_some h
   obtain ⟨r2, h3, h⟩ := bndE_some h
   cases r2 with
   | true =>
    replace h := iteT h
    obtain rfl := Option.some.inj h
    exact runB_arr mixed [(9, .bit true), (14, .el (TDecl.D x1)), (16, .ret (.d (D.b true)))] [] [.live [4], .keep []] (ai h1 (ai (elem_map TDecl.D h2) (ai (schema_Find_1_ok x1 s1 true h3) (ti)))) (by kernel_rfl)
   | false =>
    replace h := iteF h
    obtain rfl := Option.some.inj h
    exact runB_arr mixed [(9, .bit true), (14, .el (TDecl.D x1)), (16, .ret (.d (D.b false)))] [] [.live [0, 1, 7, 8], .keep []] (ai h1 (ai (elem_map TDecl.D h2) (ai (schema_Find_1_ok x1 s1 false h3) (ti)))) (by kernel_rfl)
  ·
   obtain rfl := Option.some.inj h
   exact runB_arr mixed [(9, .bit false)] [] [.live [], .keep []] (ai h1 (ti)) (by kernel_rfl)
theorem slices_IndexFunc_Decl_Decl_l1_ok (rd : Option Nat) (s0 : List TDecl) (s1 : List UInt8) (s7 : Int) (s8 : Int) (t : Unit ⊕ Int) (h : slices_IndexFunc_Decl_Decl_l1 s0 s1 s7 s8 = some t) : LpOf Try.prog rd (fbody Try.prog 81) [0, 1, 0, 1] (slices_IndexFunc_Decl_Decl_l1_I s0 s1 s7 s8) ((slices_IndexFunc_Decl_Decl_l1_O s0 s1 s7) t).1 ((slices_IndexFunc_Decl_Decl_l1_O s0 s1 s7) t).2 :=
  loopE_lpR (fun s : Int => slices_IndexFunc_Decl_Decl_l1_I s0 s1 s7 s) (slices_IndexFunc_Decl_Decl_l1_O s0 s1 s7) (by kernel_rfl) (fun t => isN_ne (by rcases t with (_ | _) <;> rfl)) (fun s o h => slices_IndexFunc_Decl_Decl_l1_rnd rd s0 s1 s7 s o h) (s := s8) (t := t) h
theorem slices_IndexFunc_Decl_Decl_ok (a0 : List TDecl) (a1 : List UInt8) (r : Int) (h : slices_IndexFunc_Decl_Decl a0 a1 = some r) : ACall Try.prog 81 [.d ((D.l TDecl.D) a0), .clo (.func 82) [] [.eptr (D.cells (D.s a1))]] [] (.d ((D.i .i64) r)) [] := by
  unfold slices_IndexFunc_Decl_Decl at h
  obtain ⟨o3, h5, h⟩ := bndE_some h
  replace h := sumE_some h
  rcases h with ⟨o4, rfl, h⟩ | ⟨o5, rfl, h⟩
  ·
   obtain rfl := Option.some.inj h
   exact runF_call mixed [(7, .int (a0.length : Int))] [⟨[0, 1, 0, 1], [.live [0, 1, 7, 8], .keep []], .exit 0, (slices_IndexFunc_Decl_Decl_l1_O a0 a1 (a0.length : Int) (Sum.inl o4)).2⟩] [] (ai (len_map TDecl.D a0) (ai (slices_IndexFunc_Decl_Decl_l1_ok none a0 a1 (a0.length : Int) 0 (Sum.inl o4) h5) (ti))) (by kernel_rfl)
  ·
   obtain rfl := Option.some.inj h
   exact runF_call mixed [(7, .int (a0.length : Int))] [⟨[0, 1, 0, 1], [.live [0, 1, 7, 8], .keep []], .ret, (slices_IndexFunc_Decl_Decl_l1_O a0 a1 (a0.length : Int) (Sum.inr o5)).2⟩] [] (ai (len_map TDecl.D a0) (ai (slices_IndexFunc_Decl_Decl_l1_ok none a0 a1 (a0.length : Int) 0 (Sum.inr o5) h5) (ti))) (by kernel_rfl)
theorem schema_Find_ok (a0 : List TDecl) (a1 : List UInt8) (r : Int × Bool) (h : schema_Find a0 a1 = some r) : ACall Try.prog 67 [.d ((D.l TDecl.D) a0), .d (D.s a1)] [] (.tup [.d ((D.i .i64) r.1), .d (D.b r.2)]) [] := by
  unfold schema_Find at h
  obtain ⟨r1, h1, h⟩ := bndE_some h
  obtain rfl := Option.some.inj h
  exact runF_call mixed [(3, .frz), (9, .ret (.d ((D.i .i64) r1))), (11, .int (maxE r1 0))] [] [] (ai (slices_IndexFunc_Decl_Decl_ok a0 a1 r1 h1) (ai (rfl : maxE r1 0 = maxE r1 0) (ti))) (by kernel_rfl)
theorem value_Int_ok (a0 : Int) (r : TValue) (h : value_Int a0 = some r) : ACall Try.prog 83 [.d ((D.i .i64) a0)] [] (.d (TValue.D r)) [] := by
  unfold value_Int at h
  obtain rfl := Option.some.inj h
  exact runF_call mixed [] [] [] (ti) (by kernel_rfl)
theorem value_Str_ok (a0 : List UInt8) (r : TValue) (h : value_Str a0 = some r) : ACall Try.prog 84 [.d (D.s a0)] [] (.d (TValue.D r)) [] := by
  unfold value_Str at h
  obtain rfl := Option.some.inj h
  exact runF_call mixed [] [] [] (ti) (by kernel_rfl)
theorem value_Bool_ok (a0 : Bool) (r : TValue) (h : value_Bool a0 = some r) : ACall Try.prog 85 [.d (D.b a0)] [] (.d (TValue.D r)) [] := by
  unfold value_Bool at h
  obtain rfl := Option.some.inj h
  exact runF_call mixed [] [] [] (ti) (by kernel_rfl)
theorem value_Right_ok (a0 : TValue) (r : Bool) (h : value_Right a0 = some r) : ACall Try.prog 70 [.d (TValue.D a0)] [] (.d (D.b r)) [] := by
  unfold value_Right at h
  rcases iteE_some h with ⟨h1, h⟩ | ⟨h1, h⟩
  ·
   obtain ⟨r1, h2, h⟩ := bndE_some h
   obtain rfl := Option.some.inj h
   exact runF_call mixed [(5, .bit true), (10, .ret (.d (TValue.D r1)))] [] [] (ai h1 (ai (value_Int_ok a0.int r1 h2) (ti))) (by kernel_rfl)
  ·
   rcases iteE_some h with ⟨h3, h⟩ | ⟨h3, h⟩
   ·
    obtain ⟨r2, h4, h⟩ := bndE_some h
    rcases iteE_some h with ⟨h5, h⟩ | ⟨h5, h⟩
    ·
     obtain rfl := Option.some.inj h
     exact runF_call mixed [(5, .bit false), (12, .bit true), (17, .ret (.d (TValue.D r2))), (19, .bit true), (22, .int (a0.str.length : Int))] [] [] (ai h1 (ai h3 (ai (value_Str_ok a0.str r2 h4) (ai h5 (ai (len_str a0.str) (ti)))))) (by kernel_rfl)
    ·
     obtain rfl := Option.some.inj h
     exact runF_call mixed [(5, .bit false), (12, .bit true), (17, .ret (.d (TValue.D r2))), (19, .bit false)] [] [] (ai h1 (ai h3 (ai (value_Str_ok a0.str r2 h4) (ai h5 (ti))))) (by kernel_rfl)
   ·
    rcases iteE_some h with ⟨h6, h⟩ | ⟨h6, h⟩
    ·
     obtain ⟨r3, h7, h⟩ := bndE_some h
     obtain rfl := Option.some.inj h
     exact runF_call mixed [(5, .bit false), (12, .bit false), (25, .bit true), (30, .ret (.d (TValue.D r3)))] [] [] (ai h1 (ai h3 (ai h6 (ai (value_Bool_ok a0.bool r3 h7) (ti))))) (by kernel_rfl)
    ·
     obtain rfl := Option.some.inj h
     exact runF_call mixed [(5, .bit false), (12, .bit false), (25, .bit false)] [] [] (ai h1 (ai h3 (ai h6 (ti)))) (by kernel_rfl)
theorem event_Right_1_ok (a0 : TValue) (a1 : Int) (r : Bool) (h : event_Right_1 a0 a1 = some r) : ACall Try.prog 69 [.d (TValue.D a0), .d ((D.i .i64) a1)] [] (.d (D.b r)) [] := by
  unfold event_Right_1 at h
  rcases iteE_some h with ⟨h1, h⟩ | ⟨h1, h⟩
  ·
   obtain ⟨r1, h2, h⟩ := bndE_some h
   obtain rfl := Option.some.inj h
   exact runF_call mixed [(9, .bit true), (11, .ret (.d (D.b r1)))] [] [] (ai h1 (ai (value_Right_ok a0 r1 h2) (ti))) (by kernel_rfl)
  ·
   obtain rfl := Option.some.inj h
   exact runF_call mixed [(9, .bit false)] [] [] (ai h1 (ti)) (by kernel_rfl)
def slices_EqualFunc_Value_int_Value_int_l1_I (s1 : List Int) (s15 : List TValue) (s16 : Int) (s17 : Int) : St := ⟨sp 32 0 [(1, .d ((D.l (D.i .i64)) s1)), (2, .clo (.func 69) [] []), (15, .d ((D.l TValue.D) s15)), (16, .d ((D.i .i64) s16)), (17, .d ((D.i .i64) s17))], [], []⟩
def slices_EqualFunc_Value_int_Value_int_l1_O (s1 : List Int) (s15 : List TValue) (s16 : Int) (o : Unit ⊕ Unit) : Ex × St := match o with
  | .inl o => (.exit 0, ⟨sp 32 0 [], [], []⟩)
  | .inr o => (.ret, ⟨sp 32 0 [(6, .d (D.b false))], [], []⟩)
theorem slices_EqualFunc_Value_int_Value_int_l1_rnd (rd : Option Nat) (s1 : List Int) (s15 : List TValue) (s16 : Int) (s17 : Int) (o : (Int) ⊕ (Unit ⊕ Unit)) (h : slices_EqualFunc_Value_int_Value_int_l1_s s1 s15 s16 s17 = some o) : Arr Try.prog rd (fbody Try.prog 68) (0 :: [0, 1, 0, 1, 1]) (slices_EqualFunc_Value_int_Value_int_l1_I s1 s15 s16 s17) (rR (fun s : Int => slices_EqualFunc_Value_int_Value_int_l1_I s1 s15 s16 s) (slices_EqualFunc_Value_int_Value_int_l1_O s1 s15 s16) o).1 (rR (fun s : Int => slices_EqualFunc_Value_int_Value_int_l1_I s1 s15 s16 s) (slices_EqualFunc_Value_int_Value_int_l1_O s1 s15 s16) o).2 := by
  unfold slices_EqualFunc_Value_int_Value_int_l1_s at h
  rcases iteE_some h with ⟨h2, h⟩ | ⟨h2, h⟩
  ·
   obtain ⟨x1, h3, h⟩ := idxE_some h
   obtain ⟨x2, h4, h⟩ := idxE_some h
   obtain ⟨r3, h5, h⟩ := bndE_some h
   rcases iteE_some h with ⟨h6, h⟩ | ⟨h6, h⟩
   ·
    obtain rfl := Option.some.inj h
    exact runB_arr mixed [(18, .bit true), (20, .el (TValue.D x1)), (24, .el ((D.i .i64) x2)), (29, .ret (.d (D.b r3))), (30, .bit true)] [] [.live [6], .keep []] (ai h2 (ai (elem_map TValue.D h3) (ai (elem_map (D.i .i64) h4) (ai (event_Right_1_ok x1 x2 r3 h5) (ai h6 (ti)))))) (by kernel_rfl)
   ·
    obtain rfl := Option.some.inj h
    exact runB_arr mixed [(18, .bit true), (20, .el (TValue.D x1)), (24, .el ((D.i .i64) x2)), (29, .ret (.d (D.b r3))), (30, .bit false)] [] [.live [1, 2, 15, 16, 17], .keep []] (ai h2 (ai (elem_map TValue.D h3) (ai (elem_map (D.i .i64) h4) (ai (event_Right_1_ok x1 x2 r3 h5) (ai h6 (ti)))))) (by kernel_rfl)
  ·
   obtain rfl := Option.some.inj h
   exact runB_arr mixed [(18, .bit false)] [] [.live [], .keep []] (ai h2 (ti)) (by kernel_rfl)
theorem slices_EqualFunc_Value_int_Value_int_l1_ok (rd : Option Nat) (s1 : List Int) (s15 : List TValue) (s16 : Int) (s17 : Int) (t : Unit ⊕ Unit) (h : slices_EqualFunc_Value_int_Value_int_l1 s1 s15 s16 s17 = some t) : LpOf Try.prog rd (fbody Try.prog 68) [0, 1, 0, 1, 1] (slices_EqualFunc_Value_int_Value_int_l1_I s1 s15 s16 s17) ((slices_EqualFunc_Value_int_Value_int_l1_O s1 s15 s16) t).1 ((slices_EqualFunc_Value_int_Value_int_l1_O s1 s15 s16) t).2 :=
  loopE_lpR (fun s : Int => slices_EqualFunc_Value_int_Value_int_l1_I s1 s15 s16 s) (slices_EqualFunc_Value_int_Value_int_l1_O s1 s15 s16) (by kernel_rfl) (fun t => isN_ne (by rcases t with (_ | _) <;> rfl)) (fun s o h => slices_EqualFunc_Value_int_Value_int_l1_rnd rd s1 s15 s16 s o h) (s := s17) (t := t) h
theorem slices_EqualFunc_Value_int_Value_int_ok (a0 : List TValue) (a1 : List Int) (r : Bool) (h : slices_EqualFunc_Value_int_Value_int a0 a1 = some r) : ACall Try.prog 68 [.d ((D.l TValue.D) a0), .d ((D.l (D.i .i64)) a1), .clo (.func 69) [] []] [] (.d (D.b r)) [] := by
  unfold slices_EqualFunc_Value_int_Value_int at h
  rcases iteE_some h with ⟨h1, h⟩ | ⟨h1, h⟩
  ·
   obtain rfl := Option.some.inj h
   exact runF_call mixed [(11, .int (a0.length : Int)), (13, .int (a1.length : Int)), (14, .bit true)] [] [] (ai (len_map TValue.D a0) (ai (len_map (D.i .i64) a1) (ai h1 (ti)))) (by kernel_rfl)
  ·
   obtain ⟨o4, h7, h⟩ := bndE_some h
   replace h := sumE_some h
   rcases h with ⟨o5, rfl, h⟩ | ⟨o6, rfl, h⟩
   ·
    obtain rfl := Option.some.inj h
    exact runF_call mixed [(11, .int (a0.length : Int)), (13, .int (a1.length : Int)), (14, .bit false), (16, .int (a0.length : Int))] [⟨[0, 1, 0, 1, 1], [.live [1, 2, 15, 16, 17], .keep []], .exit 0, (slices_EqualFunc_Value_int_Value_int_l1_O a1 a0 (a0.length : Int) (Sum.inl o5)).2⟩] [] (ai (len_map TValue.D a0) (ai (len_map (D.i .i64) a1) (ai h1 (ai (len_map TValue.D a0) (ai (slices_EqualFunc_Value_int_Value_int_l1_ok none a1 a0 (a0.length : Int) 0 (Sum.inl o5) h7) (ti)))))) (by kernel_rfl)
   ·
    obtain rfl := Option.some.inj h
    exact runF_call mixed [(11, .int (a0.length : Int)), (13, .int (a1.length : Int)), (14, .bit false), (16, .int (a0.length : Int))] [⟨[0, 1, 0, 1, 1], [.live [1, 2, 15, 16, 17], .keep []], .ret, (slices_EqualFunc_Value_int_Value_int_l1_O a1 a0 (a0.length : Int) (Sum.inr o6)).2⟩] [] (ai (len_map TValue.D a0) (ai (len_map (D.i .i64) a1) (ai h1 (ai (len_map TValue.D a0) (ai (slices_EqualFunc_Value_int_Value_int_l1_ok none a1 a0 (a0.length : Int) 0 (Sum.inr o6) h7) (ti)))))) (by kernel_rfl)
theorem event_Right_ok (a0 : List TDecl) (a1 : TEvent) (r : Bool) (h : event_Right a0 a1 = some r) : ACall Try.prog 48 [.d ((D.l TDecl.D) a0), .d (TEvent.D a1)] [] (.d (D.b r)) [] := by
  unfold event_Right at h
  obtain ⟨r1, h1, h⟩ := bndE_some h
  rcases iteE_some h with ⟨h2, h⟩ | ⟨h2, h⟩
  ·
   obtain rfl := Option.some.inj h
   exact runF_call mixed [(11, .ret (.tup [.d ((D.i .i64) r1.1), .d (D.b r1.2)])), (15, .bit true)] [] [] (ai (schema_Find_ok a0 a1.name r1 h1) (ai h2 (ti))) (by kernel_rfl)
  ·
   obtain ⟨x2, h3, h⟩ := idxE_some h
   obtain ⟨r3, h4, h⟩ := bndE_some h
   obtain rfl := Option.some.inj h
   exact runF_call mixed [(11, .ret (.tup [.d ((D.i .i64) r1.1), .d (D.b r1.2)])), (15, .bit false), (20, .el (TDecl.D x2)), (23, .ret (.d (D.b r3)))] [] [] (ai (schema_Find_ok a0 a1.name r1 h1) (ai h2 (ai (elem_map TDecl.D h3) (ai (slices_EqualFunc_Value_int_Value_int_ok a1.args x2.types r3 h4) (ti))))) (by kernel_rfl)
theorem match_slots_put_1_ok (a0 : TSlot) (a1 : Int) (r : Int) (h : match_slots_put_1 a0 a1 = some r) : ACall Try.prog 91 [.d (TSlot.D a0), .d ((D.i .i64) a1)] [] (.d ((D.i .i64) r)) [] := by
  unfold match_slots_put_1 at h
  obtain rfl := Option.some.inj h
  exact runF_call mixed [] [] [] (ti) (by kernel_rfl)
def slices_BinarySearchFunc_Slot_Slot_int_b3_I (s0 : List TSlot) (s1 : Int) (s8 : Int) (s9 : Int) (s10 : Int) (s11 : Int) (s31 : Bool) : St := ⟨sp 49 0 [(0, .d ((D.l TSlot.D) s0)), (1, .d ((D.i .i64) s1)), (2, .clo (.func 91) [] []), (8, .d ((D.i .i64) s8)), (9, .d ((D.i .i64) s9)), (10, .d ((D.i .i64) s10)), (11, .d ((D.i .i64) s11)), (31, .d (D.b s31))], [], []⟩
def slices_BinarySearchFunc_Slot_Slot_int_b3_O (s0 : List TSlot) (s1 : Int) (s8 : Int) (s9 : Int) (s10 : Int) (s11 : Int) (s31 : Bool) (o : (Int × Int)) : Ex × St := (.normal, ⟨sp 49 0 [(0, .d ((D.l TSlot.D) s0)), (1, .d ((D.i .i64) s1)), (2, .clo (.func 91) [] []), (8, .d ((D.i .i64) s8)), (9, .d ((D.i .i64) o.1)), (10, .d ((D.i .i64) o.2))], [], []⟩)
theorem slices_BinarySearchFunc_Slot_Slot_int_b3_ok (rd : Option Nat) (s0 : List TSlot) (s1 : Int) (s8 : Int) (s9 : Int) (s10 : Int) (s11 : Int) (s31 : Bool) (o : (Int × Int)) (h : slices_BinarySearchFunc_Slot_Slot_int_b3 s0 s1 s8 s9 s10 s11 s31 = some o) : LpOf Try.prog rd (fbody Try.prog 90) [1, 1, 0, 1, 0, 0, 0, 1, 1, 1] (slices_BinarySearchFunc_Slot_Slot_int_b3_I s0 s1 s8 s9 s10 s11 s31) (slices_BinarySearchFunc_Slot_Slot_int_b3_O s0 s1 s8 s9 s10 s11 s31 o).1 (slices_BinarySearchFunc_Slot_Slot_int_b3_O s0 s1 s8 s9 s10 s11 s31 o).2 := by
  unfold slices_BinarySearchFunc_Slot_Slot_int_b3 at h
  cases s31 with
  | true =>
   replace h := iteT h
   obtain rfl := Option.some.inj h
   exact (runB_arr mixed [] [] [.live [0, 1, 2, 8, 9, 10], .keep []] (ti) (by kernel_rfl)).lp
  | false =>
   replace h := iteF h
   obtain rfl := Option.some.inj h
   exact (runB_arr mixed [] [] [.live [0, 1, 2, 8, 9, 10], .keep []] (ti) (by kernel_rfl)).lp
def slices_BinarySearchFunc_Slot_Slot_int_b2_I (s0 : List TSlot) (s1 : Int) (s8 : Int) (s9 : Int) (s10 : Int) : St := ⟨sp 49 0 [(0, .d ((D.l TSlot.D) s0)), (1, .d ((D.i .i64) s1)), (2, .clo (.func 91) [] []), (8, .d ((D.i .i64) s8)), (9, .d ((D.i .i64) s9)), (10, .d ((D.i .i64) s10))], [], []⟩
def slices_BinarySearchFunc_Slot_Slot_int_b2_O (s0 : List TSlot) (s1 : Int) (s8 : Int) (s9 : Int) (s10 : Int) (o : (Int × Int)) : Ex × St := (.normal, ⟨sp 49 0 [(0, .d ((D.l TSlot.D) s0)), (1, .d ((D.i .i64) s1)), (2, .clo (.func 91) [] []), (8, .d ((D.i .i64) s8)), (9, .d ((D.i .i64) o.1)), (10, .d ((D.i .i64) o.2))], [], []⟩)
theorem slices_BinarySearchFunc_Slot_Slot_int_b2_ok (rd : Option Nat) (s0 : List TSlot) (s1 : Int) (s8 : Int) (s9 : Int) (s10 : Int) (o : (Int × Int)) (h : slices_BinarySearchFunc_Slot_Slot_int_b2 s0 s1 s8 s9 s10 = some o) : LpOf Try.prog rd (fbody Try.prog 90) [1, 0, 0, 0, 1, 1, 1] (slices_BinarySearchFunc_Slot_Slot_int_b2_I s0 s1 s8 s9 s10) (slices_BinarySearchFunc_Slot_Slot_int_b2_O s0 s1 s8 s9 s10 o).1 (slices_BinarySearchFunc_Slot_Slot_int_b2_O s0 s1 s8 s9 s10 o).2 := by
  unfold slices_BinarySearchFunc_Slot_Slot_int_b2 at h
  obtain ⟨x1, h2, h⟩ := idxE_some h
  obtain ⟨r2, h3, h⟩ := bndE_some h
  obtain ⟨o3, h5, h⟩ := bndE_some h
  obtain rfl := Option.some.inj h
  exact (runB_arr mixed [(27, .el (TSlot.D x1)), (30, .ret (.d ((D.i .i64) r2)))] [⟨[1, 1, 0, 1, 0, 0, 0, 1, 1, 1], [.live [0, 1, 2, 8, 9, 10, 11, 31], .keep []], .normal, (slices_BinarySearchFunc_Slot_Slot_int_b3_O s0 s1 s8 s9 s10 (IntKind.wrap .i64 (intVal .shr .u64 (IntKind.wrap .u64 (intVal .add .i64 s9 s10)) 1)) (decide (r2 < 0)) o3).2⟩] [.live [0, 1, 2, 8, 9, 10], .keep []] (ai (of_decide_eq_true rfl : (0 : Int) ≤ 1) (ai (elem_map TSlot.D h2) (ai (match_slots_put_1_ok x1 s1 r2 h3) (ai (slices_BinarySearchFunc_Slot_Slot_int_b3_ok rd s0 s1 s8 s9 s10 (IntKind.wrap .i64 (intVal .shr .u64 (IntKind.wrap .u64 (intVal .add .i64 s9 s10)) 1)) (decide (r2 < 0)) o3 h5) (ti))))) (by kernel_rfl)).lp
def slices_BinarySearchFunc_Slot_Slot_int_l1_I (s0 : List TSlot) (s1 : Int) (s8 : Int) (s9 : Int) (s10 : Int) : St := ⟨sp 49 0 [(0, .d ((D.l TSlot.D) s0)), (1, .d ((D.i .i64) s1)), (2, .clo (.func 91) [] []), (8, .d ((D.i .i64) s8)), (9, .d ((D.i .i64) s9)), (10, .d ((D.i .i64) s10))], [], []⟩
def slices_BinarySearchFunc_Slot_Slot_int_l1_O (s0 : List TSlot) (s1 : Int) (s8 : Int) (o : Int) : Ex × St := (.exit 0, ⟨sp 49 0 [(0, .d ((D.l TSlot.D) s0)), (1, .d ((D.i .i64) s1)), (2, .clo (.func 91) [] []), (8, .d ((D.i .i64) s8)), (9, .d ((D.i .i64) o))], [], []⟩)
theorem slices_BinarySearchFunc_Slot_Slot_int_l1_rnd (rd : Option Nat) (s0 : List TSlot) (s1 : Int) (s8 : Int) (s9 : Int) (s10 : Int) (o : (Int × Int) ⊕ (Int)) (h : slices_BinarySearchFunc_Slot_Slot_int_l1_s s0 s1 s8 s9 s10 = some o) : Arr Try.prog rd (fbody Try.prog 90) (0 :: [0, 0, 1, 1, 1]) (slices_BinarySearchFunc_Slot_Slot_int_l1_I s0 s1 s8 s9 s10) (rR (fun s : Int × Int => slices_BinarySearchFunc_Slot_Slot_int_l1_I s0 s1 s8 s.1 s.2) (slices_BinarySearchFunc_Slot_Slot_int_l1_O s0 s1 s8) o).1 (rR (fun s : Int × Int => slices_BinarySearchFunc_Slot_Slot_int_l1_I s0 s1 s8 s.1 s.2) (slices_BinarySearchFunc_Slot_Slot_int_l1_O s0 s1 s8) o).2 := by
  unfold slices_BinarySearchFunc_Slot_Slot_int_l1_s at h
  rcases iteE_some h with ⟨h1, h⟩ | ⟨h1, h⟩
  ·
   obtain ⟨o4, h6, h⟩ := bndE_some h
   obtain rfl := Option.some.inj h
   exact runB_arr mixed [(17, .bit true)] [⟨[1, 0, 0, 0, 1, 1, 1], [.live [0, 1, 2, 8, 9, 10], .keep []], .normal, (slices_BinarySearchFunc_Slot_Slot_int_b2_O s0 s1 s8 s9 s10 o4).2⟩] [.live [0, 1, 2, 8, 9, 10], .keep []] (ai h1 (ai (slices_BinarySearchFunc_Slot_Slot_int_b2_ok rd s0 s1 s8 s9 s10 o4 h6) (ti))) (by kernel_rfl)
  ·
   obtain rfl := Option.some.inj h
   exact runB_arr mixed [(17, .bit false)] [] [.live [0, 1, 2, 8, 9], .keep []] (ai h1 (ti)) (by kernel_rfl)
theorem slices_BinarySearchFunc_Slot_Slot_int_l1_ok (rd : Option Nat) (s0 : List TSlot) (s1 : Int) (s8 : Int) (s9 : Int) (s10 : Int) (t : Int) (h : slices_BinarySearchFunc_Slot_Slot_int_l1 s0 s1 s8 s9 s10 = some t) : LpOf Try.prog rd (fbody Try.prog 90) [0, 0, 1, 1, 1] (slices_BinarySearchFunc_Slot_Slot_int_l1_I s0 s1 s8 s9 s10) ((slices_BinarySearchFunc_Slot_Slot_int_l1_O s0 s1 s8) t).1 ((slices_BinarySearchFunc_Slot_Slot_int_l1_O s0 s1 s8) t).2 :=
  loopE_lpR (fun s : Int × Int => slices_BinarySearchFunc_Slot_Slot_int_l1_I s0 s1 s8 s.1 s.2) (slices_BinarySearchFunc_Slot_Slot_int_l1_O s0 s1 s8) (by kernel_rfl) (fun t => isN_ne (by rfl)) (fun s o h => slices_BinarySearchFunc_Slot_Slot_int_l1_rnd rd s0 s1 s8 s.1 s.2 o h) (s := (s9, s10)) (t := t) h
theorem slices_BinarySearchFunc_Slot_Slot_int_ok (a0 : List TSlot) (a1 : Int) (r : Int × Bool) (h : slices_BinarySearchFunc_Slot_Slot_int a0 a1 = some r) : ACall Try.prog 90 [.d ((D.l TSlot.D) a0), .d ((D.i .i64) a1), .clo (.func 91) [] []] [] (.tup [.d ((D.i .i64) r.1), .d (D.b r.2)]) [] := by
  unfold slices_BinarySearchFunc_Slot_Slot_int at h
  obtain ⟨o5, h7, h⟩ := bndE_some h
  rcases iteE_some h with ⟨h8, h⟩ | ⟨h8, h⟩
  ·
   obtain ⟨x6, h9, h⟩ := idxE_some h
   obtain ⟨r7, h10, h⟩ := bndE_some h
   obtain rfl := Option.some.inj h
   exact runF_call mixed [(13, .int (a0.length : Int)), (39, .bit true), (43, .el (TSlot.D x6)), (46, .ret (.d ((D.i .i64) r7)))] [⟨[0, 0, 1, 1, 1], [.live [0, 1, 2, 8, 9, 10], .keep []], .exit 0, (slices_BinarySearchFunc_Slot_Slot_int_l1_O a0 a1 (a0.length : Int) o5).2⟩] [] (ai (len_map TSlot.D a0) (ai (slices_BinarySearchFunc_Slot_Slot_int_l1_ok none a0 a1 (a0.length : Int) 0 (a0.length : Int) o5 h7) (ai h8 (ai (elem_map TSlot.D h9) (ai (match_slots_put_1_ok x6 a1 r7 h10) (ti)))))) (by kernel_rfl)
  ·
   obtain rfl := Option.some.inj h
   exact runF_call mixed [(13, .int (a0.length : Int)), (39, .bit false)] [⟨[0, 0, 1, 1, 1], [.live [0, 1, 2, 8, 9, 10], .keep []], .exit 0, (slices_BinarySearchFunc_Slot_Slot_int_l1_O a0 a1 (a0.length : Int) o5).2⟩] [] (ai (len_map TSlot.D a0) (ai (slices_BinarySearchFunc_Slot_Slot_int_l1_ok none a0 a1 (a0.length : Int) 0 (a0.length : Int) o5 h7) (ai h8 (ti)))) (by kernel_rfl)
theorem slices_Insert_Slot_Slot_ok (i : Int) (ys r : List TSlot) (h : slices_Insert_Slot_Slot i ys = some r) : ACall Try.prog 92 [.nil, .d (D.i .i64 i), .row 0] [(0, .row 64 5 (ys.map TSlot.D))] (.row 1) [(1, .rw 64 5 (r.map TSlot.D))] :=
  insN_ok (ρ := ⟨fun n => if n = 22 then 92 else if n = 29 then 94 else 95, fun n => if n = 0 then 0 else if n = 3 then 3 else if n = 4 then 4 else if n = 24 then 31 else 64, id⟩) (by_ := 48) TSlot.D mixed rfl ⟨ "slices.Insert[[]proctor/api.Slot,proctor/api.Slot]", by decide, (Try.func92).trans (by kernel_rfl)⟩ Try.underlying3 Try.underlying4 Try.underlying31 (by kernel_rfl) (by decide) i ys r h
theorem match_slots_put_v2_ok (a1 : TSlot) (r : Bool × List TSlot) (h : match_slots_put_v2 a1 = some r) : ACall Try.prog 86 [.box 0 0, .d (TSlot.D a1)] [(0, .cells ([.nil]))] (.d (D.b r.1)) [(0, .cells ([.row 1])), (1, .rw 64 5 (r.2.map TSlot.D))] := by
  unfold match_slots_put_v2 at h
  obtain ⟨r1, h1, h⟩ := bndE_some h
  rcases iteE_some h with ⟨h2, h⟩ | ⟨h2, h⟩
  ·
   obtain ⟨x2, h3, h⟩ := idxE_some h
   obtain rfl := Option.some.inj h
   exact runX_call mixed (fun us => [(14, .ret (.tup [.d ((D.i .i64) r1.1), .d (D.b r1.2)])), (17, .bit true), (23, .el (TSlot.D x2))]) (fun us => []) [.live [4], .keep [0, 997], .nilc 0 0 1 64 5, .sort] [0] (fun us => ai (slices_BinarySearchFunc_Slot_Slot_int_ok ([] : List TSlot) a1.var r1 h1) (ai h2 (ai (elem_map TSlot.D h3) (ti)))) (by kernel_rfl)
  ·
   obtain ⟨r3, h4, h⟩ := bndE_some h
   obtain rfl := Option.some.inj h
   exact runX_call mixed (fun us => [(14, .ret (.tup [.d ((D.i .i64) r1.1), .d (D.b r1.2)])), (17, .bit false), (35, .cx true [(0, 34)] [(1, 35)] (.row 1) [(1, .rw 64 5 (r3.map TSlot.D))])]) (fun us => []) [.live [4], .keep [0, 35, 997], .ren 35 1, .sort] [0] (fun us => ai (slices_BinarySearchFunc_Slot_Slot_int_ok ([] : List TSlot) a1.var r1 h1) (ai h2 (ai (nc_ok TSlot.D [a1]) (ai (slices_Insert_Slot_Slot_ok r1.1 [a1] r3 h4) (ti))))) (by kernel_rfl)
theorem slices_Insert_Slot_Slot_v2_ok (i : Int) (xs ys r : List TSlot) (h : slices_Insert_Slot_Slot_v2 i xs ys = some r) : ACall Try.prog 92 [.row 0, .d (D.i .i64 i), .row 1] [(0, .rw 64 5 (xs.map TSlot.D)), (1, .row 64 5 (ys.map TSlot.D))] (.row 2) [(2, .rw 64 5 (r.map TSlot.D))] :=
  insE_ok (ρ := ⟨fun n => if n = 22 then 92 else if n = 29 then 94 else 95, fun n => if n = 0 then 0 else if n = 3 then 3 else if n = 4 then 4 else if n = 24 then 31 else 64, id⟩) (by_ := 48) TSlot.D mixed rfl ⟨ "slices.Insert[[]proctor/api.Slot,proctor/api.Slot]", by decide, (Try.func92).trans (by kernel_rfl)⟩ Try.underlying3 Try.underlying4 Try.underlying31 (by kernel_rfl) (by decide) (by decide)
    (fun args w => run_callFunc_extern Try.func94 (by kernel_rfl) (by kernel_rfl) (by kernel_rfl) (e := Go.Extern.SlicesOverlaps.overlaps #[31, 31] #[4]) (by kernel_rfl) args w) i xs ys r h
theorem match_slots_put_v3_ok (a1 : TSlot) (w1 : List TSlot) (r : Bool × List TSlot) (h : match_slots_put_v3 a1 w1 = some r) : ACall Try.prog 86 [.box 0 0, .d (TSlot.D a1)] [(0, .cells ([.row 1])), (1, .rw 64 5 (w1.map TSlot.D))] (.d (D.b r.1)) [(0, .cells ([.row 2])), (2, .rw 64 5 (r.2.map TSlot.D))] := by
  unfold match_slots_put_v3 at h
  obtain ⟨r1, h1, h⟩ := bndE_some h
  rcases iteE_some h with ⟨h2, h⟩ | ⟨h2, h⟩
  ·
   obtain ⟨h3, h⟩ := chkE_some h
   obtain ⟨x2, h4, h⟩ := idxE_some h
   obtain rfl := Option.some.inj h
   exact runX_call mixed (fun us => [(14, .lend [1] (.tup [.d ((D.i .i64) r1.1), .d (D.b r1.2)])), (17, .bit true), (24, .el (TSlot.D x2))]) (fun us => []) [.live [4], .keep [0, 1, 997], .ren 1 2, .sort] [0] (fun us => ai (slices_BinarySearchFunc_Slot_Slot_int_ok w1 a1.var r1 h1) (ai h2 (ai h3.1 (ai (le_map TSlot.D h3.2) (ai (elem_ep TSlot.D h4) (ti)))))) (by kernel_rfl)
  ·
   obtain ⟨r3, h5, h⟩ := bndE_some h
   obtain rfl := Option.some.inj h
   exact runX_call mixed (fun us => [(14, .lend [1] (.tup [.d ((D.i .i64) r1.1), .d (D.b r1.2)])), (17, .bit false), (35, .cx true [(0, 1), (1, 34)] [(2, 35)] (.row 2) [(2, .rw 64 5 (r3.map TSlot.D))])]) (fun us => []) [.live [4], .keep [0, 35, 997], .ren 35 2, .sort] [0] (fun us => ai (slices_BinarySearchFunc_Slot_Slot_int_ok w1 a1.var r1 h1) (ai h2 (ai (nc_ok TSlot.D [a1]) (ai (slices_Insert_Slot_Slot_v2_ok r1.1 w1 [a1] r3 h5) (ti))))) (by kernel_rfl)
def match_fit_v2_l1_I (us : List Value) (s13 : List TArg) (s14 : Int) (w5 : TEvent) (s15 : Int) (w600 : List TSlot) (w601 : List TSlot) : St := ⟨sp 60 0 [(2, .box 0 0), (3, .box 1 0), (5, .box 5 0), (13, .d ((D.l TArg.D) s13)), (14, .d ((D.i .i64) s14)), (15, .d ((D.i .i64) s15))], [(0, .cells ([.row 600])), (1, .cells ([.row 601])), (5, .cells ((cellsA (TEvent.D w5)))), (600, .rw 64 5 (w600.map TSlot.D)), (601, .rw 64 5 (w601.map TSlot.D)), (997, .vals [.box 0 0, .box 1 0] us)], []⟩
def match_fit_v2_l1_O (us : List Value) (s13 : List TArg) (s14 : Int) (w5 : TEvent) (o : (List TSlot × List TSlot) ⊕ (List TSlot × List TSlot)) : Ex × St := match o with
  | .inl o => (.exit 0, ⟨sp 60 0 [], [(0, .cells ([.row 600])), (1, .cells ([.row 601])), (600, .rw 64 5 (o.1.map TSlot.D)), (601, .rw 64 5 (o.2.map TSlot.D)), (997, .vals [.box 0 0, .box 1 0] us)], []⟩)
  | .inr o => (.ret, ⟨sp 60 0 [(8, .d (D.b false))], [(0, .cells ([.row 600])), (1, .cells ([.row 601])), (600, .rw 64 5 (o.1.map TSlot.D)), (601, .rw 64 5 (o.2.map TSlot.D)), (997, .vals [.box 0 0, .box 1 0] us)], []⟩)
theorem match_fit_v2_l1_rnd (rd : Option Nat) (us : List Value) (s13 : List TArg) (s14 : Int) (w5 : TEvent) (s15 : Int) (w600 : List TSlot) (w601 : List TSlot) (o : (Int × List TSlot × List TSlot) ⊕ ((List TSlot × List TSlot) ⊕ (List TSlot × List TSlot))) (h : match_fit_v2_l1_s s13 s14 w5 s15 w600 w601 = some o) : Arr Try.prog rd (fbody Try.prog 71) (0 :: [0, 1, 0, 1]) (match_fit_v2_l1_I us s13 s14 w5 s15 w600 w601) (rR (fun s : Int × List TSlot × List TSlot => match_fit_v2_l1_I us s13 s14 w5 s.1 s.2.1 s.2.2) (match_fit_v2_l1_O us s13 s14 w5) o).1 (rR (fun s : Int × List TSlot × List TSlot => match_fit_v2_l1_I us s13 s14 w5 s.1 s.2.1 s.2.2) (match_fit_v2_l1_O us s13 s14 w5) o).2 := by
  unfold match_fit_v2_l1_s at h
  rcases iteE_some h with ⟨h24, h⟩ | ⟨h24, h⟩
  ·
   obtain ⟨x9, h25, h⟩ := idxE_some h
   obtain ⟨x10, h26, h⟩ := idxE_some h
   rcases iteE_some h with ⟨h27, h⟩ | ⟨h27, h⟩
   ·
    rcases iteE_some h with ⟨h28, h⟩ | ⟨h28, h⟩
    ·
     obtain rfl := Option.some.inj h
     exact runB_arr mixed [(16, .bit true), (18, .el (TArg.D x9)), (25, .el (TValue.D x10)), (32, .bit true), (28, .bit true)] [] [.live [8], .keep [0, 1, 600, 601, 997]] (ai h24 (ai (elem_map TArg.D h25) (ai (elem_map TValue.D h26) (ai h27 (ai h28 (ti)))))) (by kernel_rfl)
    ·
     rcases iteE_some h with ⟨h29, h⟩ | ⟨h29, h⟩
     ·
      obtain ⟨r11, h30, h⟩ := bndE_some h
      rcases iteE_some h with ⟨h31, h⟩ | ⟨h31, h⟩
      ·
       obtain rfl := Option.some.inj h
       exact runB_arr mixed [(16, .bit true), (18, .el (TArg.D x9)), (25, .el (TValue.D x10)), (32, .bit true), (28, .bit false), (43, .bit true), (46, .cx false [(0, 0), (1, 600)] [(2, 46)] (.d (D.b r11.1)) [(0, .cells ([.row 2])), (2, .rw 64 5 (r11.2.map TSlot.D))]), (39, .bit true)] [] [.live [8], .keep [0, 1, 46, 601, 997], .ren 46 600, .sort] (ai h24 (ai (elem_map TArg.D h25) (ai (elem_map TValue.D h26) (ai h27 (ai h28 (ai h29 (ai (match_slots_put_v3_ok (TSlot.mk x9.n x10) w600 r11 h30) (ai h31 (ti))))))))) (by kernel_rfl)
      ·
       rcases iteE_some h with ⟨h32, h⟩ | ⟨h32, h⟩
       ·
        obtain ⟨r12, h33, h⟩ := bndE_some h
        rcases iteE_some h with ⟨h34, h⟩ | ⟨h34, h⟩
        ·
         obtain rfl := Option.some.inj h
         exact runB_arr mixed [(16, .bit true), (18, .el (TArg.D x9)), (25, .el (TValue.D x10)), (32, .bit true), (28, .bit false), (43, .bit true), (46, .cx false [(0, 0), (1, 600)] [(2, 46)] (.d (D.b r11.1)) [(0, .cells ([.row 2])), (2, .rw 64 5 (r11.2.map TSlot.D))]), (39, .bit false), (53, .bit true), (56, .cx false [(0, 1), (1, 601)] [(2, 56)] (.d (D.b r12.1)) [(0, .cells ([.row 2])), (2, .rw 64 5 (r12.2.map TSlot.D))]), (49, .bit true)] [] [.live [8], .keep [0, 1, 46, 56, 997], .ren 46 600, .ren 56 601, .sort] (ai h24 (ai (elem_map TArg.D h25) (ai (elem_map TValue.D h26) (ai h27 (ai h28 (ai h29 (ai (match_slots_put_v3_ok (TSlot.mk x9.n x10) w600 r11 h30) (ai h31 (ai h32 (ai (match_slots_put_v3_ok (TSlot.mk x9.n x10) w601 r12 h33) (ai h34 (ti)))))))))))) (by kernel_rfl)
        ·
         obtain rfl := Option.some.inj h
         exact runB_arr mixed [(16, .bit true), (18, .el (TArg.D x9)), (25, .el (TValue.D x10)), (32, .bit true), (28, .bit false), (43, .bit true), (46, .cx false [(0, 0), (1, 600)] [(2, 46)] (.d (D.b r11.1)) [(0, .cells ([.row 2])), (2, .rw 64 5 (r11.2.map TSlot.D))]), (39, .bit false), (53, .bit true), (56, .cx false [(0, 1), (1, 601)] [(2, 56)] (.d (D.b r12.1)) [(0, .cells ([.row 2])), (2, .rw 64 5 (r12.2.map TSlot.D))]), (49, .bit false)] [] [.live [2, 3, 5, 13, 14, 15], .keep [0, 1, 5, 46, 56, 997], .ren 46 600, .ren 56 601, .sort] (ai h24 (ai (elem_map TArg.D h25) (ai (elem_map TValue.D h26) (ai h27 (ai h28 (ai h29 (ai (match_slots_put_v3_ok (TSlot.mk x9.n x10) w600 r11 h30) (ai h31 (ai h32 (ai (match_slots_put_v3_ok (TSlot.mk x9.n x10) w601 r12 h33) (ai h34 (ti)))))))))))) (by kernel_rfl)
       ·
        obtain rfl := Option.some.inj h
        exact runB_arr mixed [(16, .bit true), (18, .el (TArg.D x9)), (25, .el (TValue.D x10)), (32, .bit true), (28, .bit false), (43, .bit true), (46, .cx false [(0, 0), (1, 600)] [(2, 46)] (.d (D.b r11.1)) [(0, .cells ([.row 2])), (2, .rw 64 5 (r11.2.map TSlot.D))]), (39, .bit false), (53, .bit false)] [] [.live [2, 3, 5, 13, 14, 15], .keep [0, 1, 5, 46, 601, 997], .ren 46 600, .sort] (ai h24 (ai (elem_map TArg.D h25) (ai (elem_map TValue.D h26) (ai h27 (ai h28 (ai h29 (ai (match_slots_put_v3_ok (TSlot.mk x9.n x10) w600 r11 h30) (ai h31 (ai h32 (ti)))))))))) (by kernel_rfl)
     ·
      rcases iteE_some h with ⟨h35, h⟩ | ⟨h35, h⟩
      ·
       obtain ⟨r13, h36, h⟩ := bndE_some h
       rcases iteE_some h with ⟨h37, h⟩ | ⟨h37, h⟩
       ·
        obtain rfl := Option.some.inj h
        exact runB_arr mixed [(16, .bit true), (18, .el (TArg.D x9)), (25, .el (TValue.D x10)), (32, .bit true), (28, .bit false), (43, .bit false), (53, .bit true), (56, .cx false [(0, 1), (1, 601)] [(2, 56)] (.d (D.b r13.1)) [(0, .cells ([.row 2])), (2, .rw 64 5 (r13.2.map TSlot.D))]), (49, .bit true)] [] [.live [8], .keep [0, 1, 56, 600, 997], .ren 56 601, .sort] (ai h24 (ai (elem_map TArg.D h25) (ai (elem_map TValue.D h26) (ai h27 (ai h28 (ai h29 (ai h35 (ai (match_slots_put_v3_ok (TSlot.mk x9.n x10) w601 r13 h36) (ai h37 (ti)))))))))) (by kernel_rfl)
       ·
        obtain rfl := Option.some.inj h
        exact runB_arr mixed [(16, .bit true), (18, .el (TArg.D x9)), (25, .el (TValue.D x10)), (32, .bit true), (28, .bit false), (43, .bit false), (53, .bit true), (56, .cx false [(0, 1), (1, 601)] [(2, 56)] (.d (D.b r13.1)) [(0, .cells ([.row 2])), (2, .rw 64 5 (r13.2.map TSlot.D))]), (49, .bit false)] [] [.live [2, 3, 5, 13, 14, 15], .keep [0, 1, 5, 56, 600, 997], .ren 56 601, .sort] (ai h24 (ai (elem_map TArg.D h25) (ai (elem_map TValue.D h26) (ai h27 (ai h28 (ai h29 (ai h35 (ai (match_slots_put_v3_ok (TSlot.mk x9.n x10) w601 r13 h36) (ai h37 (ti)))))))))) (by kernel_rfl)
      ·
       obtain rfl := Option.some.inj h
       exact runB_arr mixed [(16, .bit true), (18, .el (TArg.D x9)), (25, .el (TValue.D x10)), (32, .bit true), (28, .bit false), (43, .bit false), (53, .bit false)] [] [.live [2, 3, 5, 13, 14, 15], .keep [0, 1, 5, 600, 601, 997]] (ai h24 (ai (elem_map TArg.D h25) (ai (elem_map TValue.D h26) (ai h27 (ai h28 (ai h29 (ai h35 (ti)))))))) (by kernel_rfl)
   ·
    rcases iteE_some h with ⟨h38, h⟩ | ⟨h38, h⟩
    ·
     obtain ⟨r14, h39, h⟩ := bndE_some h
     rcases iteE_some h with ⟨h40, h⟩ | ⟨h40, h⟩
     ·
      obtain rfl := Option.some.inj h
      exact runB_arr mixed [(16, .bit true), (18, .el (TArg.D x9)), (25, .el (TValue.D x10)), (32, .bit false), (43, .bit true), (46, .cx false [(0, 0), (1, 600)] [(2, 46)] (.d (D.b r14.1)) [(0, .cells ([.row 2])), (2, .rw 64 5 (r14.2.map TSlot.D))]), (39, .bit true)] [] [.live [8], .keep [0, 1, 46, 601, 997], .ren 46 600, .sort] (ai h24 (ai (elem_map TArg.D h25) (ai (elem_map TValue.D h26) (ai h27 (ai h38 (ai (match_slots_put_v3_ok (TSlot.mk x9.n x10) w600 r14 h39) (ai h40 (ti)))))))) (by kernel_rfl)
     ·
      rcases iteE_some h with ⟨h41, h⟩ | ⟨h41, h⟩
      ·
       obtain ⟨r15, h42, h⟩ := bndE_some h
       rcases iteE_some h with ⟨h43, h⟩ | ⟨h43, h⟩
       ·
        obtain rfl := Option.some.inj h
        exact runB_arr mixed [(16, .bit true), (18, .el (TArg.D x9)), (25, .el (TValue.D x10)), (32, .bit false), (43, .bit true), (46, .cx false [(0, 0), (1, 600)] [(2, 46)] (.d (D.b r14.1)) [(0, .cells ([.row 2])), (2, .rw 64 5 (r14.2.map TSlot.D))]), (39, .bit false), (53, .bit true), (56, .cx false [(0, 1), (1, 601)] [(2, 56)] (.d (D.b r15.1)) [(0, .cells ([.row 2])), (2, .rw 64 5 (r15.2.map TSlot.D))]), (49, .bit true)] [] [.live [8], .keep [0, 1, 46, 56, 997], .ren 46 600, .ren 56 601, .sort] (ai h24 (ai (elem_map TArg.D h25) (ai (elem_map TValue.D h26) (ai h27 (ai h38 (ai (match_slots_put_v3_ok (TSlot.mk x9.n x10) w600 r14 h39) (ai h40 (ai h41 (ai (match_slots_put_v3_ok (TSlot.mk x9.n x10) w601 r15 h42) (ai h43 (ti))))))))))) (by kernel_rfl)
       ·
        obtain rfl := Option.some.inj h
        exact runB_arr mixed [(16, .bit true), (18, .el (TArg.D x9)), (25, .el (TValue.D x10)), (32, .bit false), (43, .bit true), (46, .cx false [(0, 0), (1, 600)] [(2, 46)] (.d (D.b r14.1)) [(0, .cells ([.row 2])), (2, .rw 64 5 (r14.2.map TSlot.D))]), (39, .bit false), (53, .bit true), (56, .cx false [(0, 1), (1, 601)] [(2, 56)] (.d (D.b r15.1)) [(0, .cells ([.row 2])), (2, .rw 64 5 (r15.2.map TSlot.D))]), (49, .bit false)] [] [.live [2, 3, 5, 13, 14, 15], .keep [0, 1, 5, 46, 56, 997], .ren 46 600, .ren 56 601, .sort] (ai h24 (ai (elem_map TArg.D h25) (ai (elem_map TValue.D h26) (ai h27 (ai h38 (ai (match_slots_put_v3_ok (TSlot.mk x9.n x10) w600 r14 h39) (ai h40 (ai h41 (ai (match_slots_put_v3_ok (TSlot.mk x9.n x10) w601 r15 h42) (ai h43 (ti))))))))))) (by kernel_rfl)
      ·
       obtain rfl := Option.some.inj h
       exact runB_arr mixed [(16, .bit true), (18, .el (TArg.D x9)), (25, .el (TValue.D x10)), (32, .bit false), (43, .bit true), (46, .cx false [(0, 0), (1, 600)] [(2, 46)] (.d (D.b r14.1)) [(0, .cells ([.row 2])), (2, .rw 64 5 (r14.2.map TSlot.D))]), (39, .bit false), (53, .bit false)] [] [.live [2, 3, 5, 13, 14, 15], .keep [0, 1, 5, 46, 601, 997], .ren 46 600, .sort] (ai h24 (ai (elem_map TArg.D h25) (ai (elem_map TValue.D h26) (ai h27 (ai h38 (ai (match_slots_put_v3_ok (TSlot.mk x9.n x10) w600 r14 h39) (ai h40 (ai h41 (ti))))))))) (by kernel_rfl)
    ·
     rcases iteE_some h with ⟨h44, h⟩ | ⟨h44, h⟩
     ·
      obtain ⟨r16, h45, h⟩ := bndE_some h
      rcases iteE_some h with ⟨h46, h⟩ | ⟨h46, h⟩
      ·
       obtain rfl := Option.some.inj h
       exact runB_arr mixed [(16, .bit true), (18, .el (TArg.D x9)), (25, .el (TValue.D x10)), (32, .bit false), (43, .bit false), (53, .bit true), (56, .cx false [(0, 1), (1, 601)] [(2, 56)] (.d (D.b r16.1)) [(0, .cells ([.row 2])), (2, .rw 64 5 (r16.2.map TSlot.D))]), (49, .bit true)] [] [.live [8], .keep [0, 1, 56, 600, 997], .ren 56 601, .sort] (ai h24 (ai (elem_map TArg.D h25) (ai (elem_map TValue.D h26) (ai h27 (ai h38 (ai h44 (ai (match_slots_put_v3_ok (TSlot.mk x9.n x10) w601 r16 h45) (ai h46 (ti))))))))) (by kernel_rfl)
      ·
       obtain rfl := Option.some.inj h
       exact runB_arr mixed [(16, .bit true), (18, .el (TArg.D x9)), (25, .el (TValue.D x10)), (32, .bit false), (43, .bit false), (53, .bit true), (56, .cx false [(0, 1), (1, 601)] [(2, 56)] (.d (D.b r16.1)) [(0, .cells ([.row 2])), (2, .rw 64 5 (r16.2.map TSlot.D))]), (49, .bit false)] [] [.live [2, 3, 5, 13, 14, 15], .keep [0, 1, 5, 56, 600, 997], .ren 56 601, .sort] (ai h24 (ai (elem_map TArg.D h25) (ai (elem_map TValue.D h26) (ai h27 (ai h38 (ai h44 (ai (match_slots_put_v3_ok (TSlot.mk x9.n x10) w601 r16 h45) (ai h46 (ti))))))))) (by kernel_rfl)
     ·
      obtain rfl := Option.some.inj h
      exact runB_arr mixed [(16, .bit true), (18, .el (TArg.D x9)), (25, .el (TValue.D x10)), (32, .bit false), (43, .bit false), (53, .bit false)] [] [.live [2, 3, 5, 13, 14, 15], .keep [0, 1, 5, 600, 601, 997]] (ai h24 (ai (elem_map TArg.D h25) (ai (elem_map TValue.D h26) (ai h27 (ai h38 (ai h44 (ti))))))) (by kernel_rfl)
  ·
   obtain rfl := Option.some.inj h
   exact runB_arr mixed [(16, .bit false)] [] [.live [], .keep [0, 1, 600, 601, 997]] (ai h24 (ti)) (by kernel_rfl)
theorem match_fit_v2_l1_ok (rd : Option Nat) (us : List Value) (s13 : List TArg) (s14 : Int) (w5 : TEvent) (s15 : Int) (w600 : List TSlot) (w601 : List TSlot) (t : (List TSlot × List TSlot) ⊕ (List TSlot × List TSlot)) (h : match_fit_v2_l1 s13 s14 w5 s15 w600 w601 = some t) : LpOf Try.prog rd (fbody Try.prog 71) [0, 1, 0, 1] (match_fit_v2_l1_I us s13 s14 w5 s15 w600 w601) ((match_fit_v2_l1_O us s13 s14 w5) t).1 ((match_fit_v2_l1_O us s13 s14 w5) t).2 :=
  loopE_lpR (fun s : Int × List TSlot × List TSlot => match_fit_v2_l1_I us s13 s14 w5 s.1 s.2.1 s.2.2) (match_fit_v2_l1_O us s13 s14 w5) (by kernel_rfl) (fun t => isN_ne (by rcases t with (_ | _) <;> rfl)) (fun s o h => match_fit_v2_l1_rnd rd us s13 s14 w5 s.1 s.2.1 s.2.2 o h) (s := (s15, w600, w601)) (t := t) h
theorem match_fit_v2_ok (a0 : TSymbol) (a1 : TEvent) (r : Bool × List TSlot × List TSlot) (h : match_fit_v2 a0 a1 = some r) : ACall Try.prog 71 [.d (TSymbol.D a0), .d (TEvent.D a1), .box 0 0, .box 1 0] [(0, .cells ([.nil])), (1, .cells ([.nil]))] (.d (D.b r.1)) [(0, .cells ([.row 2])), (1, .cells ([.row 3])), (2, .rw 64 5 (r.2.1.map TSlot.D)), (3, .rw 64 5 (r.2.2.map TSlot.D))] := by
  unfold match_fit_v2 at h
  obtain ⟨o17, h47, h⟩ := bndE_some h
  replace h := sumE_some h
  rcases h with ⟨o18, rfl, h⟩ | ⟨o19, rfl, h⟩
  ·
   obtain rfl := Option.some.inj h
   exact runX_call mixed (fun us => [(14, .int (a0.args.length : Int))]) (fun us => [⟨[0, 1, 0, 1], [.live [2, 3, 5, 13, 14, 15], .keep [0, 1, 5, 997], .nilc 0 0 600 64 5, .nilc 1 0 601 64 5, .sort], .exit 0, (match_fit_v2_l1_O us a0.args (a0.args.length : Int) a1 (Sum.inl o18)).2⟩]) [.live [8], .keep [0, 1, 600, 601, 997], .ren 600 2, .ren 601 3, .sort] [2, 3] (fun us => ai (len_map TArg.D a0.args) (ai (match_fit_v2_l1_ok none us a0.args (a0.args.length : Int) a1 0 ([] : List TSlot) ([] : List TSlot) (Sum.inl o18) h47) (ti))) (by kernel_rfl)
  ·
   obtain rfl := Option.some.inj h
   exact runX_call mixed (fun us => [(14, .int (a0.args.length : Int))]) (fun us => [⟨[0, 1, 0, 1], [.live [2, 3, 5, 13, 14, 15], .keep [0, 1, 5, 997], .nilc 0 0 600 64 5, .nilc 1 0 601 64 5, .sort], .ret, (match_fit_v2_l1_O us a0.args (a0.args.length : Int) a1 (Sum.inr o19)).2⟩]) [.live [8], .keep [0, 1, 600, 601, 997], .ren 600 2, .ren 601 3, .sort] [2, 3] (fun us => ai (len_map TArg.D a0.args) (ai (match_fit_v2_l1_ok none us a0.args (a0.args.length : Int) a1 0 ([] : List TSlot) ([] : List TSlot) (Sum.inr o19) h47) (ti))) (by kernel_rfl)
theorem match_one_ok (a0 : TQea) (a1 : Int) (a2 : TEvent) (r : THit × Bool) (h : match_one a0 a1 a2 = some r) : ACall Try.prog 49 [.d (TQea.D a0), .d ((D.i .i64) a1), .d (TEvent.D a2)] [] (.tup [.d (THit.D r.1), .d (D.b r.2)]) [] := by
  unfold match_one at h
  obtain ⟨x1, h1, h⟩ := idxE_some h
  obtain ⟨x2, h2, h⟩ := idxE_some h
  rcases iteE_some h with ⟨h3, h⟩ | ⟨h3, h⟩
  ·
   obtain rfl := Option.some.inj h
   exact runF_call mixed [(14, .el (TSymbol.D x1)), (20, .el (TDecl.D x2)), (25, .bit true)] [] [] (ai (elem_map TSymbol.D h1) (ai (elem_map TDecl.D h2) (ai h3 (ti)))) (by kernel_rfl)
  ·
   obtain ⟨r3, h4, h⟩ := bndE_some h
   rcases iteE_some h with ⟨h5, h⟩ | ⟨h5, h⟩
   ·
    obtain rfl := Option.some.inj h
    exact runF_call mixed [(14, .el (TSymbol.D x1)), (20, .el (TDecl.D x2)), (25, .bit false), (29, .cx false [(0, 9), (1, 10)] [(2, 29), (3, 436)] (.d (D.b r3.1)) [(0, .cells ([.row 2])), (1, .cells ([.row 3])), (2, .rw 64 5 (r3.2.1.map TSlot.D)), (3, .rw 64 5 (r3.2.2.map TSlot.D))]), (30, .bit true)] [] [] (ai (elem_map TSymbol.D h1) (ai (elem_map TDecl.D h2) (ai h3 (ai (match_fit_v2_ok x1 a2 r3 h4) (ai h5 (ti)))))) (by kernel_rfl)
   ·
    obtain rfl := Option.some.inj h
    exact runF_call mixed [(14, .el (TSymbol.D x1)), (20, .el (TDecl.D x2)), (25, .bit false), (29, .cx false [(0, 9), (1, 10)] [(2, 29), (3, 436)] (.d (D.b r3.1)) [(0, .cells ([.row 2])), (1, .cells ([.row 3])), (2, .rw 64 5 (r3.2.1.map TSlot.D)), (3, .rw 64 5 (r3.2.2.map TSlot.D))]), (30, .bit false), (34, .fzn 29), (36, .fzn 436)] [] [] (ai (elem_map TSymbol.D h1) (ai (elem_map TDecl.D h2) (ai h3 (ai (match_fit_v2_ok x1 a2 r3 h4) (ai h5 (ti)))))) (by kernel_rfl)
theorem match_One_ok (a0 : TQea) (a1 : Int) (a2 : TEvent) (r : THit × Bool) (h : match_One a0 a1 a2 = some r) : ACall Try.prog 25 [.d (TQea.D a0), .d ((D.i .i64) a1), .d (TEvent.D a2)] [] (.tup [.d (THit.D r.1), .d (D.b r.2)]) [] := by
  unfold match_One at h
  rcases iteE_some h with ⟨h1, h⟩ | ⟨h1, h⟩
  ·
   obtain rfl := Option.some.inj h
   exact runF_call mixed [(10, .bit true)] [] [] (ai h1 (ti)) (by kernel_rfl)
  ·
   rcases iteE_some h with ⟨h2, h⟩ | ⟨h2, h⟩
   ·
    obtain rfl := Option.some.inj h
    exact runF_call mixed [(10, .bit false), (14, .int (a0.symbols.length : Int)), (17, .bit true)] [] [] (ai h1 (ai (len_map TSymbol.D a0.symbols) (ai h2 (ti)))) (by kernel_rfl)
   ·
    obtain ⟨r1, h3, h⟩ := bndE_some h
    rcases iteE_some h with ⟨h4, h⟩ | ⟨h4, h⟩
    ·
     obtain rfl := Option.some.inj h
     exact runF_call mixed [(10, .bit false), (14, .int (a0.symbols.length : Int)), (17, .bit false), (21, .ret (.d (D.b r1))), (23, .bit true)] [] [] (ai h1 (ai (len_map TSymbol.D a0.symbols) (ai h2 (ai (event_Right_ok a0.decls a2 r1 h3) (ai h4 (ti)))))) (by kernel_rfl)
    ·
     obtain ⟨r2, h5, h⟩ := bndE_some h
     obtain rfl := Option.some.inj h
     exact runF_call mixed [(10, .bit false), (14, .int (a0.symbols.length : Int)), (17, .bit false), (21, .ret (.d (D.b r1))), (23, .bit false), (28, .ret (.tup [.d (THit.D r2.1), .d (D.b r2.2)]))] [] [] (ai h1 (ai (len_map TSymbol.D a0.symbols) (ai h2 (ai (event_Right_ok a0.decls a2 r1 h3) (ai h4 (ai (match_one_ok a0 a1 a2 r2 h5) (ti))))))) (by kernel_rfl)
theorem law17_awake_ok (r : Bool) (h : law17_awake = some r) : ACall Try.prog 9 [] [] (.d (D.b r)) [] := by
  unfold law17_awake at h
  obtain ⟨r1, h1, h⟩ := bndE_some h
  obtain ⟨r2, h2, h⟩ := bndE_some h
  rcases iteE_some h with ⟨h3, h⟩ | ⟨h3, h⟩
  ·
   rcases iteE_some h with ⟨h4, h⟩ | ⟨h4, h⟩
   ·
    rcases iteE_some h with ⟨h5, h⟩ | ⟨h5, h⟩
    ·
     obtain ⟨x3, h6, h⟩ := idxE_some h
     obtain rfl := Option.some.inj h
     exact runF_call mixed [(29, .ret (.tup [.d (THit.D r1.1), .d (D.b r1.2)])), (38, .ret (.tup [.d (THit.D r2.1), .d (D.b r2.2)])), (42, .bit true), (46, .bit true), (49, .int (r1.1.bind.length : Int)), (52, .bit true), (55, .el (TSlot.D x3))] [] [] (ai (nc_ok (D.i .i64) [1, 1]) (ai (nc_ok TDecl.D ([TDecl.mk ([98] : List UInt8) [1, 1]])) (ai (nc_ok TQuant.D ([TQuant.mk false ([120] : List UInt8) 1])) (ai (nc_ok TState.D ([TState.mk ([115] : List UInt8) false false])) (ai (nc_ok TArg.D ([TArg.mk 2 0 (TValue.mk 0 0 ([] : List UInt8) false), TArg.mk 2 0 (TValue.mk 0 0 ([] : List UInt8) false)])) (ai (nc_ok TSymbol.D ([TSymbol.mk 0 ([TArg.mk 2 0 (TValue.mk 0 0 ([] : List UInt8) false), TArg.mk 2 0 (TValue.mk 0 0 ([] : List UInt8) false)])])) (ai (nc_ok TValue.D ([TValue.mk 1 3 ([] : List UInt8) false, TValue.mk 1 3 ([] : List UInt8) false])) (ai (match_One_ok (TQea.mk ([113] : List UInt8) ([TDecl.mk ([98] : List UInt8) [1, 1]]) ([TQuant.mk false ([120] : List UInt8) 1]) ([] : List TFree) ([TState.mk ([115] : List UInt8) false false]) 0 ([TSymbol.mk 0 ([TArg.mk 2 0 (TValue.mk 0 0 ([] : List UInt8) false), TArg.mk 2 0 (TValue.mk 0 0 ([] : List UInt8) false)])]) ([] : List TNode) ([] : List TTrans)) 0 (TEvent.mk ([98] : List UInt8) ([TValue.mk 1 3 ([] : List UInt8) false, TValue.mk 1 3 ([] : List UInt8) false])) r1 h1) (ai (nc_ok TValue.D ([TValue.mk 1 3 ([] : List UInt8) false, TValue.mk 1 4 ([] : List UInt8) false])) (ai (match_One_ok (TQea.mk ([113] : List UInt8) ([TDecl.mk ([98] : List UInt8) [1, 1]]) ([TQuant.mk false ([120] : List UInt8) 1]) ([] : List TFree) ([TState.mk ([115] : List UInt8) false false]) 0 ([TSymbol.mk 0 ([TArg.mk 2 0 (TValue.mk 0 0 ([] : List UInt8) false), TArg.mk 2 0 (TValue.mk 0 0 ([] : List UInt8) false)])]) ([] : List TNode) ([] : List TTrans)) 0 (TEvent.mk ([98] : List UInt8) ([TValue.mk 1 3 ([] : List UInt8) false, TValue.mk 1 4 ([] : List UInt8) false])) r2 h2) (ai h3 (ai h4 (ai (len_map TSlot.D r1.1.bind) (ai h5 (ai (elem_map TSlot.D h6) (ti)))))))))))))))) (by kernel_rfl)
    ·
     obtain rfl := Option.some.inj h
     exact runF_call mixed [(29, .ret (.tup [.d (THit.D r1.1), .d (D.b r1.2)])), (38, .ret (.tup [.d (THit.D r2.1), .d (D.b r2.2)])), (42, .bit true), (46, .bit true), (49, .int (r1.1.bind.length : Int)), (52, .bit false)] [] [] (ai (nc_ok (D.i .i64) [1, 1]) (ai (nc_ok TDecl.D ([TDecl.mk ([98] : List UInt8) [1, 1]])) (ai (nc_ok TQuant.D ([TQuant.mk false ([120] : List UInt8) 1])) (ai (nc_ok TState.D ([TState.mk ([115] : List UInt8) false false])) (ai (nc_ok TArg.D ([TArg.mk 2 0 (TValue.mk 0 0 ([] : List UInt8) false), TArg.mk 2 0 (TValue.mk 0 0 ([] : List UInt8) false)])) (ai (nc_ok TSymbol.D ([TSymbol.mk 0 ([TArg.mk 2 0 (TValue.mk 0 0 ([] : List UInt8) false), TArg.mk 2 0 (TValue.mk 0 0 ([] : List UInt8) false)])])) (ai (nc_ok TValue.D ([TValue.mk 1 3 ([] : List UInt8) false, TValue.mk 1 3 ([] : List UInt8) false])) (ai (match_One_ok (TQea.mk ([113] : List UInt8) ([TDecl.mk ([98] : List UInt8) [1, 1]]) ([TQuant.mk false ([120] : List UInt8) 1]) ([] : List TFree) ([TState.mk ([115] : List UInt8) false false]) 0 ([TSymbol.mk 0 ([TArg.mk 2 0 (TValue.mk 0 0 ([] : List UInt8) false), TArg.mk 2 0 (TValue.mk 0 0 ([] : List UInt8) false)])]) ([] : List TNode) ([] : List TTrans)) 0 (TEvent.mk ([98] : List UInt8) ([TValue.mk 1 3 ([] : List UInt8) false, TValue.mk 1 3 ([] : List UInt8) false])) r1 h1) (ai (nc_ok TValue.D ([TValue.mk 1 3 ([] : List UInt8) false, TValue.mk 1 4 ([] : List UInt8) false])) (ai (match_One_ok (TQea.mk ([113] : List UInt8) ([TDecl.mk ([98] : List UInt8) [1, 1]]) ([TQuant.mk false ([120] : List UInt8) 1]) ([] : List TFree) ([TState.mk ([115] : List UInt8) false false]) 0 ([TSymbol.mk 0 ([TArg.mk 2 0 (TValue.mk 0 0 ([] : List UInt8) false), TArg.mk 2 0 (TValue.mk 0 0 ([] : List UInt8) false)])]) ([] : List TNode) ([] : List TTrans)) 0 (TEvent.mk ([98] : List UInt8) ([TValue.mk 1 3 ([] : List UInt8) false, TValue.mk 1 4 ([] : List UInt8) false])) r2 h2) (ai h3 (ai h4 (ai (len_map TSlot.D r1.1.bind) (ai h5 (ti))))))))))))))) (by kernel_rfl)
   ·
    obtain rfl := Option.some.inj h
    exact runF_call mixed [(29, .ret (.tup [.d (THit.D r1.1), .d (D.b r1.2)])), (38, .ret (.tup [.d (THit.D r2.1), .d (D.b r2.2)])), (42, .bit true), (46, .bit false)] [] [] (ai (nc_ok (D.i .i64) [1, 1]) (ai (nc_ok TDecl.D ([TDecl.mk ([98] : List UInt8) [1, 1]])) (ai (nc_ok TQuant.D ([TQuant.mk false ([120] : List UInt8) 1])) (ai (nc_ok TState.D ([TState.mk ([115] : List UInt8) false false])) (ai (nc_ok TArg.D ([TArg.mk 2 0 (TValue.mk 0 0 ([] : List UInt8) false), TArg.mk 2 0 (TValue.mk 0 0 ([] : List UInt8) false)])) (ai (nc_ok TSymbol.D ([TSymbol.mk 0 ([TArg.mk 2 0 (TValue.mk 0 0 ([] : List UInt8) false), TArg.mk 2 0 (TValue.mk 0 0 ([] : List UInt8) false)])])) (ai (nc_ok TValue.D ([TValue.mk 1 3 ([] : List UInt8) false, TValue.mk 1 3 ([] : List UInt8) false])) (ai (match_One_ok (TQea.mk ([113] : List UInt8) ([TDecl.mk ([98] : List UInt8) [1, 1]]) ([TQuant.mk false ([120] : List UInt8) 1]) ([] : List TFree) ([TState.mk ([115] : List UInt8) false false]) 0 ([TSymbol.mk 0 ([TArg.mk 2 0 (TValue.mk 0 0 ([] : List UInt8) false), TArg.mk 2 0 (TValue.mk 0 0 ([] : List UInt8) false)])]) ([] : List TNode) ([] : List TTrans)) 0 (TEvent.mk ([98] : List UInt8) ([TValue.mk 1 3 ([] : List UInt8) false, TValue.mk 1 3 ([] : List UInt8) false])) r1 h1) (ai (nc_ok TValue.D ([TValue.mk 1 3 ([] : List UInt8) false, TValue.mk 1 4 ([] : List UInt8) false])) (ai (match_One_ok (TQea.mk ([113] : List UInt8) ([TDecl.mk ([98] : List UInt8) [1, 1]]) ([TQuant.mk false ([120] : List UInt8) 1]) ([] : List TFree) ([TState.mk ([115] : List UInt8) false false]) 0 ([TSymbol.mk 0 ([TArg.mk 2 0 (TValue.mk 0 0 ([] : List UInt8) false), TArg.mk 2 0 (TValue.mk 0 0 ([] : List UInt8) false)])]) ([] : List TNode) ([] : List TTrans)) 0 (TEvent.mk ([98] : List UInt8) ([TValue.mk 1 3 ([] : List UInt8) false, TValue.mk 1 4 ([] : List UInt8) false])) r2 h2) (ai h3 (ai h4 (ti))))))))))))) (by kernel_rfl)
  ·
   obtain rfl := Option.some.inj h
   exact runF_call mixed [(29, .ret (.tup [.d (THit.D r1.1), .d (D.b r1.2)])), (38, .ret (.tup [.d (THit.D r2.1), .d (D.b r2.2)])), (42, .bit false)] [] [] (ai (nc_ok (D.i .i64) [1, 1]) (ai (nc_ok TDecl.D ([TDecl.mk ([98] : List UInt8) [1, 1]])) (ai (nc_ok TQuant.D ([TQuant.mk false ([120] : List UInt8) 1])) (ai (nc_ok TState.D ([TState.mk ([115] : List UInt8) false false])) (ai (nc_ok TArg.D ([TArg.mk 2 0 (TValue.mk 0 0 ([] : List UInt8) false), TArg.mk 2 0 (TValue.mk 0 0 ([] : List UInt8) false)])) (ai (nc_ok TSymbol.D ([TSymbol.mk 0 ([TArg.mk 2 0 (TValue.mk 0 0 ([] : List UInt8) false), TArg.mk 2 0 (TValue.mk 0 0 ([] : List UInt8) false)])])) (ai (nc_ok TValue.D ([TValue.mk 1 3 ([] : List UInt8) false, TValue.mk 1 3 ([] : List UInt8) false])) (ai (match_One_ok (TQea.mk ([113] : List UInt8) ([TDecl.mk ([98] : List UInt8) [1, 1]]) ([TQuant.mk false ([120] : List UInt8) 1]) ([] : List TFree) ([TState.mk ([115] : List UInt8) false false]) 0 ([TSymbol.mk 0 ([TArg.mk 2 0 (TValue.mk 0 0 ([] : List UInt8) false), TArg.mk 2 0 (TValue.mk 0 0 ([] : List UInt8) false)])]) ([] : List TNode) ([] : List TTrans)) 0 (TEvent.mk ([98] : List UInt8) ([TValue.mk 1 3 ([] : List UInt8) false, TValue.mk 1 3 ([] : List UInt8) false])) r1 h1) (ai (nc_ok TValue.D ([TValue.mk 1 3 ([] : List UInt8) false, TValue.mk 1 4 ([] : List UInt8) false])) (ai (match_One_ok (TQea.mk ([113] : List UInt8) ([TDecl.mk ([98] : List UInt8) [1, 1]]) ([TQuant.mk false ([120] : List UInt8) 1]) ([] : List TFree) ([TState.mk ([115] : List UInt8) false false]) 0 ([TSymbol.mk 0 ([TArg.mk 2 0 (TValue.mk 0 0 ([] : List UInt8) false), TArg.mk 2 0 (TValue.mk 0 0 ([] : List UInt8) false)])]) ([] : List TNode) ([] : List TTrans)) 0 (TEvent.mk ([98] : List UInt8) ([TValue.mk 1 3 ([] : List UInt8) false, TValue.mk 1 4 ([] : List UInt8) false])) r2 h2) (ai h3 (ti)))))))))))) (by kernel_rfl)
def ref05_Right_l1_I (s0 : List TSlot) (s3 : Int) : St := ⟨sp 51 0 [(0, .d ((D.l TSlot.D) s0)), (3, .d ((D.i .i64) s3))], [], []⟩
def ref05_Right_l1_O (s0 : List TSlot) (o : Unit ⊕ Unit) : Ex × St := match o with
  | .inl o => (.exit 0, ⟨sp 51 0 [], [], []⟩)
  | .inr o => (.ret, ⟨sp 51 0 [(2, .d (D.b false))], [], []⟩)
theorem ref05_Right_l1_rnd (rd : Option Nat) (s0 : List TSlot) (s3 : Int) (o : (Int) ⊕ (Unit ⊕ Unit)) (h : ref05_Right_l1_s s0 s3 = some o) : Arr Try.prog rd (fbody Try.prog 6) (0 :: [0, 1, 0, 1]) (ref05_Right_l1_I s0 s3) (rR (fun s : Int => ref05_Right_l1_I s0 s) (ref05_Right_l1_O s0) o).1 (rR (fun s : Int => ref05_Right_l1_I s0 s) (ref05_Right_l1_O s0) o).2 := by
  unfold ref05_Right_l1_s at h
  rcases iteE_some h with ⟨h1, h⟩ | ⟨h1, h⟩
  ·
   obtain ⟨x1, h2, h⟩ := idxE_some h
   rcases iteE_some h with ⟨h3, h⟩ | ⟨h3, h⟩
   ·
    obtain rfl := Option.some.inj h
    exact runB_arr mixed [(6, .int (s0.length : Int)), (7, .bit true), (12, .el (TSlot.D x1)), (16, .bit true)] [] [.live [2], .keep []] (ai (len_map TSlot.D s0) (ai h1 (ai (elem_map TSlot.D h2) (ai h3 (ti))))) (by kernel_rfl)
   ·
    obtain ⟨x2, h4, h⟩ := idxE_some h
    rcases iteE_some h with ⟨h5, h⟩ | ⟨h5, h⟩
    ·
     obtain rfl := Option.some.inj h
     exact runB_arr mixed [(6, .int (s0.length : Int)), (7, .bit true), (12, .el (TSlot.D x1)), (16, .bit false), (19, .el (TSlot.D x2)), (24, .bit true)] [] [.live [2], .keep []] (ai (len_map TSlot.D s0) (ai h1 (ai (elem_map TSlot.D h2) (ai h3 (ai (elem_map TSlot.D h4) (ai h5 (ti))))))) (by kernel_rfl)
    ·
     obtain ⟨x3, h6, h⟩ := idxE_some h
     obtain ⟨r4, h7, h⟩ := bndE_some h
     rcases iteE_some h with ⟨h8, h⟩ | ⟨h8, h⟩
     ·
      obtain rfl := Option.some.inj h
      exact runB_arr mixed [(6, .int (s0.length : Int)), (7, .bit true), (12, .el (TSlot.D x1)), (16, .bit false), (19, .el (TSlot.D x2)), (24, .bit false), (27, .el (TSlot.D x3)), (30, .ret (.d (D.b r4))), (33, .bit true)] [] [.live [2], .keep []] (ai (len_map TSlot.D s0) (ai h1 (ai (elem_map TSlot.D h2) (ai h3 (ai (elem_map TSlot.D h4) (ai h5 (ai (elem_map TSlot.D h6) (ai (ref03_Right_ok x3.value r4 h7) (ai h8 (ti)))))))))) (by kernel_rfl)
     ·
      rcases iteE_some h with ⟨h9, h⟩ | ⟨h9, h⟩
      ·
       obtain ⟨x5, h10, h⟩ := idxE_some h
       obtain ⟨x6, h11, h⟩ := idxE_some h
       rcases iteE_some h with ⟨h12, h⟩ | ⟨h12, h⟩
       ·
        obtain rfl := Option.some.inj h
        exact runB_arr mixed [(6, .int (s0.length : Int)), (7, .bit true), (12, .el (TSlot.D x1)), (16, .bit false), (19, .el (TSlot.D x2)), (24, .bit false), (27, .el (TSlot.D x3)), (30, .ret (.d (D.b r4))), (33, .bit false), (36, .bit true), (39, .el (TSlot.D x5)), (45, .el (TSlot.D x6)), (50, .bit true)] [] [.live [2], .keep []] (ai (len_map TSlot.D s0) (ai h1 (ai (elem_map TSlot.D h2) (ai h3 (ai (elem_map TSlot.D h4) (ai h5 (ai (elem_map TSlot.D h6) (ai (ref03_Right_ok x3.value r4 h7) (ai h8 (ai h9 (ai (elem_map TSlot.D h10) (ai (elem_map TSlot.D h11) (ai h12 (ti)))))))))))))) (by kernel_rfl)
       ·
        obtain rfl := Option.some.inj h
        exact runB_arr mixed [(6, .int (s0.length : Int)), (7, .bit true), (12, .el (TSlot.D x1)), (16, .bit false), (19, .el (TSlot.D x2)), (24, .bit false), (27, .el (TSlot.D x3)), (30, .ret (.d (D.b r4))), (33, .bit false), (36, .bit true), (39, .el (TSlot.D x5)), (45, .el (TSlot.D x6)), (50, .bit false)] [] [.live [0, 3], .keep []] (ai (len_map TSlot.D s0) (ai h1 (ai (elem_map TSlot.D h2) (ai h3 (ai (elem_map TSlot.D h4) (ai h5 (ai (elem_map TSlot.D h6) (ai (ref03_Right_ok x3.value r4 h7) (ai h8 (ai h9 (ai (elem_map TSlot.D h10) (ai (elem_map TSlot.D h11) (ai h12 (ti)))))))))))))) (by kernel_rfl)
      ·
       obtain rfl := Option.some.inj h
       exact runB_arr mixed [(6, .int (s0.length : Int)), (7, .bit true), (12, .el (TSlot.D x1)), (16, .bit false), (19, .el (TSlot.D x2)), (24, .bit false), (27, .el (TSlot.D x3)), (30, .ret (.d (D.b r4))), (33, .bit false), (36, .bit false)] [] [.live [0, 3], .keep []] (ai (len_map TSlot.D s0) (ai h1 (ai (elem_map TSlot.D h2) (ai h3 (ai (elem_map TSlot.D h4) (ai h5 (ai (elem_map TSlot.D h6) (ai (ref03_Right_ok x3.value r4 h7) (ai h8 (ai h9 (ti))))))))))) (by kernel_rfl)
  ·
   obtain rfl := Option.some.inj h
   exact runB_arr mixed [(6, .int (s0.length : Int)), (7, .bit false)] [] [.live [], .keep []] (ai (len_map TSlot.D s0) (ai h1 (ti))) (by kernel_rfl)
theorem ref05_Right_l1_ok (rd : Option Nat) (s0 : List TSlot) (s3 : Int) (t : Unit ⊕ Unit) (h : ref05_Right_l1 s0 s3 = some t) : LpOf Try.prog rd (fbody Try.prog 6) [0, 1, 0, 1] (ref05_Right_l1_I s0 s3) ((ref05_Right_l1_O s0) t).1 ((ref05_Right_l1_O s0) t).2 :=
  loopE_lpR (fun s : Int => ref05_Right_l1_I s0 s) (ref05_Right_l1_O s0) (by kernel_rfl) (fun t => isN_ne (by rcases t with (_ | _) <;> rfl)) (fun s o h => ref05_Right_l1_rnd rd s0 s o h) (s := s3) (t := t) h
theorem ref05_Right_ok (a0 : List TSlot) (r : Bool) (h : ref05_Right a0 = some r) : ACall Try.prog 6 [.d ((D.l TSlot.D) a0)] [] (.d (D.b r)) [] := by
  unfold ref05_Right at h
  obtain ⟨o7, h13, h⟩ := bndE_some h
  replace h := sumE_some h
  rcases h with ⟨o8, rfl, h⟩ | ⟨o9, rfl, h⟩
  ·
   obtain rfl := Option.some.inj h
   exact runF_call mixed [] [⟨[0, 1, 0, 1], [.live [0, 3], .keep []], .exit 0, (ref05_Right_l1_O a0 (Sum.inl o8)).2⟩] [] (ai (ref05_Right_l1_ok none a0 0 (Sum.inl o8) h13) (ti)) (by kernel_rfl)
  ·
   obtain rfl := Option.some.inj h
   exact runF_call mixed [] [⟨[0, 1, 0, 1], [.live [0, 3], .keep []], .ret, (ref05_Right_l1_O a0 (Sum.inr o9)).2⟩] [] (ai (ref05_Right_l1_ok none a0 0 (Sum.inr o9) h13) (ti)) (by kernel_rfl)
def ref08_Right_l1_I (s0 : List TDecl) (s5 : Int) (w3 : TEvent) (s6 : Int) : St := ⟨sp 56 0 [(0, .d ((D.l TDecl.D) s0)), (3, .box 3 0), (5, .d ((D.i .i64) s5)), (6, .d ((D.i .i64) s6))], [(3, .cells ((cellsA (TEvent.D w3))))], []⟩
def ref08_Right_l1_O (s0 : List TDecl) (s5 : Int) (w3 : TEvent) (o : Unit ⊕ Unit) : Ex × St := match o with
  | .inl o => (.exit 0, ⟨sp 56 0 [], [], []⟩)
  | .inr o => (.ret, ⟨sp 56 0 [(4, .d (D.b false))], [], []⟩)
theorem ref08_Right_l1_rnd (rd : Option Nat) (s0 : List TDecl) (s5 : Int) (w3 : TEvent) (s6 : Int) (o : (Int) ⊕ (Unit ⊕ Unit)) (h : ref08_Right_l1_s s0 s5 w3 s6 = some o) : Arr Try.prog rd (fbody Try.prog 32) (0 :: [0, 1, 0, 1, 1, 1]) (ref08_Right_l1_I s0 s5 w3 s6) (rR (fun s : Int => ref08_Right_l1_I s0 s5 w3 s) (ref08_Right_l1_O s0 s5 w3) o).1 (rR (fun s : Int => ref08_Right_l1_I s0 s5 w3 s) (ref08_Right_l1_O s0 s5 w3) o).2 := by
  unfold ref08_Right_l1_s at h
  rcases iteE_some h with ⟨h5, h⟩ | ⟨h5, h⟩
  ·
   obtain ⟨x3, h6, h⟩ := idxE_some h
   obtain ⟨x4, h7, h⟩ := idxE_some h
   obtain ⟨x5, h8, h⟩ := idxE_some h
   rcases iteE_some h with ⟨h9, h⟩ | ⟨h9, h⟩
   ·
    obtain rfl := Option.some.inj h
    exact runB_arr mixed [(28, .int (w3.args.length : Int)), (29, .bit true), (35, .el (TValue.D x3)), (40, .el (TDecl.D x4)), (44, .el ((D.i .i64) x5)), (47, .bit true)] [] [.live [4], .keep []] (ai (len_map TValue.D w3.args) (ai h5 (ai (elem_map TValue.D h6) (ai (elem_map TDecl.D h7) (ai (elem_map (D.i .i64) h8) (ai h9 (ti))))))) (by kernel_rfl)
   ·
    obtain ⟨x6, h10, h⟩ := idxE_some h
    obtain ⟨r7, h11, h⟩ := bndE_some h
    rcases iteE_some h with ⟨h12, h⟩ | ⟨h12, h⟩
    ·
     obtain rfl := Option.some.inj h
     exact runB_arr mixed [(28, .int (w3.args.length : Int)), (29, .bit true), (35, .el (TValue.D x3)), (40, .el (TDecl.D x4)), (44, .el ((D.i .i64) x5)), (47, .bit false), (51, .el (TValue.D x6)), (53, .ret (.d (D.b r7))), (55, .bit true)] [] [.live [4], .keep []] (ai (len_map TValue.D w3.args) (ai h5 (ai (elem_map TValue.D h6) (ai (elem_map TDecl.D h7) (ai (elem_map (D.i .i64) h8) (ai h9 (ai (elem_map TValue.D h10) (ai (ref03_Right_ok x6 r7 h11) (ai h12 (ti)))))))))) (by kernel_rfl)
    ·
     obtain rfl := Option.some.inj h
     exact runB_arr mixed [(28, .int (w3.args.length : Int)), (29, .bit true), (35, .el (TValue.D x3)), (40, .el (TDecl.D x4)), (44, .el ((D.i .i64) x5)), (47, .bit false), (51, .el (TValue.D x6)), (53, .ret (.d (D.b r7))), (55, .bit false)] [] [.live [0, 3, 5, 6], .keep [3]] (ai (len_map TValue.D w3.args) (ai h5 (ai (elem_map TValue.D h6) (ai (elem_map TDecl.D h7) (ai (elem_map (D.i .i64) h8) (ai h9 (ai (elem_map TValue.D h10) (ai (ref03_Right_ok x6 r7 h11) (ai h12 (ti)))))))))) (by kernel_rfl)
  ·
   obtain rfl := Option.some.inj h
   exact runB_arr mixed [(28, .int (w3.args.length : Int)), (29, .bit false)] [] [.live [], .keep []] (ai (len_map TValue.D w3.args) (ai h5 (ti))) (by kernel_rfl)
theorem ref08_Right_l1_ok (rd : Option Nat) (s0 : List TDecl) (s5 : Int) (w3 : TEvent) (s6 : Int) (t : Unit ⊕ Unit) (h : ref08_Right_l1 s0 s5 w3 s6 = some t) : LpOf Try.prog rd (fbody Try.prog 32) [0, 1, 0, 1, 1, 1] (ref08_Right_l1_I s0 s5 w3 s6) ((ref08_Right_l1_O s0 s5 w3) t).1 ((ref08_Right_l1_O s0 s5 w3) t).2 :=
  loopE_lpR (fun s : Int => ref08_Right_l1_I s0 s5 w3 s) (ref08_Right_l1_O s0 s5 w3) (by kernel_rfl) (fun t => isN_ne (by rcases t with (_ | _) <;> rfl)) (fun s o h => ref08_Right_l1_rnd rd s0 s5 w3 s o h) (s := s6) (t := t) h
theorem ref08_Right_ok (a0 : List TDecl) (a1 : TEvent) (r : Bool) (h : ref08_Right a0 a1 = some r) : ACall Try.prog 32 [.d ((D.l TDecl.D) a0), .d (TEvent.D a1)] [] (.d (D.b r)) [] := by
  unfold ref08_Right at h
  obtain ⟨r1, h1, h⟩ := bndE_some h
  rcases iteE_some h with ⟨h2, h⟩ | ⟨h2, h⟩
  ·
   obtain rfl := Option.some.inj h
   exact runF_call mixed [(10, .ret (.d ((D.i .i64) r1))), (13, .bit true)] [] [] (ai (ref07_Find_ok a0 a1.name r1 h1) (ai h2 (ti))) (by kernel_rfl)
  ·
   obtain ⟨x2, h3, h⟩ := idxE_some h
   rcases iteE_some h with ⟨h4, h⟩ | ⟨h4, h⟩
   ·
    obtain rfl := Option.some.inj h
    exact runF_call mixed [(10, .ret (.d ((D.i .i64) r1))), (13, .bit false), (16, .el (TDecl.D x2)), (19, .int (x2.types.length : Int)), (22, .int (a1.args.length : Int)), (24, .bit true)] [] [] (ai (ref07_Find_ok a0 a1.name r1 h1) (ai h2 (ai (elem_map TDecl.D h3) (ai (len_map (D.i .i64) x2.types) (ai (len_map TValue.D a1.args) (ai h4 (ti))))))) (by kernel_rfl)
   ·
    obtain ⟨o8, h13, h⟩ := bndE_some h
    replace h := sumE_some h
    rcases h with ⟨o9, rfl, h⟩ | ⟨o10, rfl, h⟩
    ·
     obtain rfl := Option.some.inj h
     exact runF_call mixed [(10, .ret (.d ((D.i .i64) r1))), (13, .bit false), (16, .el (TDecl.D x2)), (19, .int (x2.types.length : Int)), (22, .int (a1.args.length : Int)), (24, .bit false)] [⟨[0, 1, 0, 1, 1, 1], [.live [0, 3, 5, 6], .keep [3]], .exit 0, (ref08_Right_l1_O a0 r1 a1 (Sum.inl o9)).2⟩] [] (ai (ref07_Find_ok a0 a1.name r1 h1) (ai h2 (ai (elem_map TDecl.D h3) (ai (len_map (D.i .i64) x2.types) (ai (len_map TValue.D a1.args) (ai h4 (ai (ref08_Right_l1_ok none a0 r1 a1 0 (Sum.inl o9) h13) (ti)))))))) (by kernel_rfl)
    ·
     obtain rfl := Option.some.inj h
     exact runF_call mixed [(10, .ret (.d ((D.i .i64) r1))), (13, .bit false), (16, .el (TDecl.D x2)), (19, .int (x2.types.length : Int)), (22, .int (a1.args.length : Int)), (24, .bit false)] [⟨[0, 1, 0, 1, 1, 1], [.live [0, 3, 5, 6], .keep [3]], .ret, (ref08_Right_l1_O a0 r1 a1 (Sum.inr o10)).2⟩] [] (ai (ref07_Find_ok a0 a1.name r1 h1) (ai h2 (ai (elem_map TDecl.D h3) (ai (len_map (D.i .i64) x2.types) (ai (len_map TValue.D a1.args) (ai h4 (ai (ref08_Right_l1_ok none a0 r1 a1 0 (Sum.inr o10) h13) (ti)))))))) (by kernel_rfl)
def ref05_Get_l1_I (s0 : List TSlot) (s1 : Int) (w4 : TValue) (s6 : Int) : St := ⟨sp 26 0 [(0, .d ((D.l TSlot.D) s0)), (1, .d ((D.i .i64) s1)), (4, .box 4 0), (6, .d ((D.i .i64) s6))], [(4, .cells ((cellsA (TValue.D w4))))], []⟩
def ref05_Get_l1_O (s0 : List TSlot) (s1 : Int) (w4 : TValue) (o : Unit ⊕ TValue) : Ex × St := match o with
  | .inl o => (.exit 0, ⟨sp 26 0 [(4, .box 4 0)], [(4, .cells ((cellsA (TValue.D w4))))], []⟩)
  | .inr o => (.ret, ⟨sp 26 0 [(4, .box 4 0), (5, .d (D.b true))], [(4, .cells ((cellsA (TValue.D o))))], []⟩)
theorem ref05_Get_l1_rnd (rd : Option Nat) (s0 : List TSlot) (s1 : Int) (w4 : TValue) (s6 : Int) (o : (Int) ⊕ (Unit ⊕ TValue)) (h : ref05_Get_l1_s s0 s1 w4 s6 = some o) : Arr Try.prog rd (fbody Try.prog 37) (0 :: [0, 1, 0, 1]) (ref05_Get_l1_I s0 s1 w4 s6) (rR (fun s : Int => ref05_Get_l1_I s0 s1 w4 s) (ref05_Get_l1_O s0 s1 w4) o).1 (rR (fun s : Int => ref05_Get_l1_I s0 s1 w4 s) (ref05_Get_l1_O s0 s1 w4) o).2 := by
  unfold ref05_Get_l1_s at h
  rcases iteE_some h with ⟨h1, h⟩ | ⟨h1, h⟩
  ·
   obtain ⟨x1, h2, h⟩ := idxE_some h
   rcases iteE_some h with ⟨h3, h⟩ | ⟨h3, h⟩
   ·
    obtain ⟨x2, h4, h⟩ := idxE_some h
    obtain rfl := Option.some.inj h
    exact runB_arr mixed [(9, .int (s0.length : Int)), (10, .bit true), (15, .el (TSlot.D x1)), (19, .bit true), (22, .el (TSlot.D x2))] [] [.live [4, 5], .keep [4]] (ai (len_map TSlot.D s0) (ai h1 (ai (elem_map TSlot.D h2) (ai h3 (ai (elem_map TSlot.D h4) (ti)))))) (by kernel_rfl)
   ·
    obtain rfl := Option.some.inj h
    exact runB_arr mixed [(9, .int (s0.length : Int)), (10, .bit true), (15, .el (TSlot.D x1)), (19, .bit false)] [] [.live [0, 1, 4, 6], .keep [4]] (ai (len_map TSlot.D s0) (ai h1 (ai (elem_map TSlot.D h2) (ai h3 (ti))))) (by kernel_rfl)
  ·
   obtain rfl := Option.some.inj h
   exact runB_arr mixed [(9, .int (s0.length : Int)), (10, .bit false)] [] [.live [4], .keep [4]] (ai (len_map TSlot.D s0) (ai h1 (ti))) (by kernel_rfl)
theorem ref05_Get_l1_ok (rd : Option Nat) (s0 : List TSlot) (s1 : Int) (w4 : TValue) (s6 : Int) (t : Unit ⊕ TValue) (h : ref05_Get_l1 s0 s1 w4 s6 = some t) : LpOf Try.prog rd (fbody Try.prog 37) [0, 1, 0, 1] (ref05_Get_l1_I s0 s1 w4 s6) ((ref05_Get_l1_O s0 s1 w4) t).1 ((ref05_Get_l1_O s0 s1 w4) t).2 :=
  loopE_lpR (fun s : Int => ref05_Get_l1_I s0 s1 w4 s) (ref05_Get_l1_O s0 s1 w4) (by kernel_rfl) (fun t => isN_ne (by rcases t with (_ | _) <;> rfl)) (fun s o h => ref05_Get_l1_rnd rd s0 s1 w4 s o h) (s := s6) (t := t) h
theorem ref05_Get_ok (a0 : List TSlot) (a1 : Int) (r : TValue × Bool) (h : ref05_Get a0 a1 = some r) : ACall Try.prog 37 [.d ((D.l TSlot.D) a0), .d ((D.i .i64) a1)] [] (.tup [.d (TValue.D r.1), .d (D.b r.2)]) [] := by
  unfold ref05_Get at h
  obtain ⟨o3, h5, h⟩ := bndE_some h
  replace h := sumE_some h
  rcases h with ⟨o4, rfl, h⟩ | ⟨o5, rfl, h⟩
  ·
   obtain rfl := Option.some.inj h
   exact runF_call mixed [] [⟨[0, 1, 0, 1], [.live [0, 1, 4, 6], .keep [4]], .exit 0, (ref05_Get_l1_O a0 a1 (TValue.mk 0 0 ([] : List UInt8) false) (Sum.inl o4)).2⟩] [] (ai (ref05_Get_l1_ok none a0 a1 (TValue.mk 0 0 ([] : List UInt8) false) 0 (Sum.inl o4) h5) (ti)) (by kernel_rfl)
  ·
   obtain rfl := Option.some.inj h
   exact runF_call mixed [] [⟨[0, 1, 0, 1], [.live [0, 1, 4, 6], .keep [4]], .ret, (ref05_Get_l1_O a0 a1 (TValue.mk 0 0 ([] : List UInt8) false) (Sum.inr o5)).2⟩] [] (ai (ref05_Get_l1_ok none a0 a1 (TValue.mk 0 0 ([] : List UInt8) false) 0 (Sum.inr o5) h5) (ti)) (by kernel_rfl)
def ref05_Fits_l1_I (s0 : List TSlot) (s1 : List TSlot) (s5 : Int) : St := ⟨sp 34 0 [(0, .d ((D.l TSlot.D) s0)), (1, .d ((D.l TSlot.D) s1)), (5, .d ((D.i .i64) s5))], [], []⟩
def ref05_Fits_l1_O (s0 : List TSlot) (s1 : List TSlot) (o : Unit ⊕ Unit) : Ex × St := match o with
  | .inl o => (.exit 0, ⟨sp 34 0 [], [], []⟩)
  | .inr o => (.ret, ⟨sp 34 0 [(4, .d (D.b false))], [], []⟩)
theorem ref05_Fits_l1_rnd (rd : Option Nat) (s0 : List TSlot) (s1 : List TSlot) (s5 : Int) (o : (Int) ⊕ (Unit ⊕ Unit)) (h : ref05_Fits_l1_s s0 s1 s5 = some o) : Arr Try.prog rd (fbody Try.prog 16) (0 :: [0, 1, 0, 1]) (ref05_Fits_l1_I s0 s1 s5) (rR (fun s : Int => ref05_Fits_l1_I s0 s1 s) (ref05_Fits_l1_O s0 s1) o).1 (rR (fun s : Int => ref05_Fits_l1_I s0 s1 s) (ref05_Fits_l1_O s0 s1) o).2 := by
  unfold ref05_Fits_l1_s at h
  rcases iteE_some h with ⟨h1, h⟩ | ⟨h1, h⟩
  ·
   obtain ⟨x1, h2, h⟩ := idxE_some h
   obtain ⟨r2, h3, h⟩ := bndE_some h
   rcases iteE_some h with ⟨h4, h⟩ | ⟨h4, h⟩
   ·
    obtain ⟨x3, h5, h⟩ := idxE_some h
    rcases iteE_some h with ⟨h6, h⟩ | ⟨h6, h⟩
    ·
     obtain rfl := Option.some.inj h
     exact runB_arr mixed [(10, .int (s0.length : Int)), (11, .bit true), (18, .el (TSlot.D x1)), (21, .ret (.tup [.d (TValue.D r2.1), .d (D.b r2.2)])), (25, .bit true), (29, .el (TSlot.D x3)), (33, .bit true)] [] [.live [4], .keep []] (ai (len_map TSlot.D s0) (ai h1 (ai (elem_map TSlot.D h2) (ai (ref05_Get_ok s1 x1.var r2 h3) (ai h4 (ai (elem_map TSlot.D h5) (ai h6 (ti)))))))) (by kernel_rfl)
    ·
     obtain rfl := Option.some.inj h
     exact runB_arr mixed [(10, .int (s0.length : Int)), (11, .bit true), (18, .el (TSlot.D x1)), (21, .ret (.tup [.d (TValue.D r2.1), .d (D.b r2.2)])), (25, .bit true), (29, .el (TSlot.D x3)), (33, .bit false)] [] [.live [0, 1, 5], .keep []] (ai (len_map TSlot.D s0) (ai h1 (ai (elem_map TSlot.D h2) (ai (ref05_Get_ok s1 x1.var r2 h3) (ai h4 (ai (elem_map TSlot.D h5) (ai h6 (ti)))))))) (by kernel_rfl)
   ·
    obtain rfl := Option.some.inj h
    exact runB_arr mixed [(10, .int (s0.length : Int)), (11, .bit true), (18, .el (TSlot.D x1)), (21, .ret (.tup [.d (TValue.D r2.1), .d (D.b r2.2)])), (25, .bit false)] [] [.live [0, 1, 5], .keep []] (ai (len_map TSlot.D s0) (ai h1 (ai (elem_map TSlot.D h2) (ai (ref05_Get_ok s1 x1.var r2 h3) (ai h4 (ti)))))) (by kernel_rfl)
  ·
   obtain rfl := Option.some.inj h
   exact runB_arr mixed [(10, .int (s0.length : Int)), (11, .bit false)] [] [.live [], .keep []] (ai (len_map TSlot.D s0) (ai h1 (ti))) (by kernel_rfl)
theorem ref05_Fits_l1_ok (rd : Option Nat) (s0 : List TSlot) (s1 : List TSlot) (s5 : Int) (t : Unit ⊕ Unit) (h : ref05_Fits_l1 s0 s1 s5 = some t) : LpOf Try.prog rd (fbody Try.prog 16) [0, 1, 0, 1] (ref05_Fits_l1_I s0 s1 s5) ((ref05_Fits_l1_O s0 s1) t).1 ((ref05_Fits_l1_O s0 s1) t).2 :=
  loopE_lpR (fun s : Int => ref05_Fits_l1_I s0 s1 s) (ref05_Fits_l1_O s0 s1) (by kernel_rfl) (fun t => isN_ne (by rcases t with (_ | _) <;> rfl)) (fun s o h => ref05_Fits_l1_rnd rd s0 s1 s o h) (s := s5) (t := t) h
theorem ref05_Fits_ok (a0 : List TSlot) (a1 : List TSlot) (r : Bool) (h : ref05_Fits a0 a1 = some r) : ACall Try.prog 16 [.d ((D.l TSlot.D) a0), .d ((D.l TSlot.D) a1)] [] (.d (D.b r)) [] := by
  unfold ref05_Fits at h
  obtain ⟨o4, h7, h⟩ := bndE_some h
  replace h := sumE_some h
  rcases h with ⟨o5, rfl, h⟩ | ⟨o6, rfl, h⟩
  ·
   obtain rfl := Option.some.inj h
   exact runF_call mixed [] [⟨[0, 1, 0, 1], [.live [0, 1, 5], .keep []], .exit 0, (ref05_Fits_l1_O a0 a1 (Sum.inl o5)).2⟩] [] (ai (ref05_Fits_l1_ok none a0 a1 0 (Sum.inl o5) h7) (ti)) (by kernel_rfl)
  ·
   obtain rfl := Option.some.inj h
   exact runF_call mixed [] [⟨[0, 1, 0, 1], [.live [0, 1, 5], .keep []], .ret, (ref05_Fits_l1_O a0 a1 (Sum.inr o6)).2⟩] [] (ai (ref05_Fits_l1_ok none a0 a1 0 (Sum.inr o6) h7) (ti)) (by kernel_rfl)
def ref05_Get_v2_l1_I (s0 : List TSlot) (s1 : Int) (w4 : TValue) (s6 : Int) : St := ⟨sp 26 0 [(0, .d ((D.l TSlot.D) s0)), (1, .d ((D.i .i64) s1)), (4, .box 4 0), (6, .d ((D.i .i64) s6))], [(4, .cells ((cellsA (TValue.D w4))))], []⟩
def ref05_Get_v2_l1_O (s0 : List TSlot) (s1 : Int) (w4 : TValue) (o : Unit ⊕ TValue) : Ex × St := match o with
  | .inl o => (.exit 0, ⟨sp 26 0 [(4, .box 4 0)], [(4, .cells ((cellsA (TValue.D w4))))], []⟩)
  | .inr o => (.ret, ⟨sp 26 0 [(4, .box 4 0), (5, .d (D.b true))], [(4, .cells ((cellsA (TValue.D o))))], []⟩)
theorem ref05_Get_v2_l1_rnd (rd : Option Nat) (s0 : List TSlot) (s1 : Int) (w4 : TValue) (s6 : Int) (o : (Int) ⊕ (Unit ⊕ TValue)) (h : ref05_Get_v2_l1_s s0 s1 w4 s6 = some o) : Arr Try.prog rd (fbody Try.prog 37) (0 :: [0, 1, 0, 1]) (ref05_Get_v2_l1_I s0 s1 w4 s6) (rR (fun s : Int => ref05_Get_v2_l1_I s0 s1 w4 s) (ref05_Get_v2_l1_O s0 s1 w4) o).1 (rR (fun s : Int => ref05_Get_v2_l1_I s0 s1 w4 s) (ref05_Get_v2_l1_O s0 s1 w4) o).2 := by
  unfold ref05_Get_v2_l1_s at h
  rcases iteE_some h with ⟨h1, h⟩ | ⟨h1, h⟩
  ·
   obtain ⟨x1, h2, h⟩ := idxE_some h
   rcases iteE_some h with ⟨h3, h⟩ | ⟨h3, h⟩
   ·
    obtain ⟨x2, h4, h⟩ := idxE_some h
    obtain rfl := Option.some.inj h
    exact runB_arr mixed [(9, .int (s0.length : Int)), (10, .bit true), (15, .el (TSlot.D x1)), (19, .bit true), (22, .el (TSlot.D x2))] [] [.live [4, 5], .keep [4]] (ai (len_map TSlot.D s0) (ai h1 (ai (elem_map TSlot.D h2) (ai h3 (ai (elem_map TSlot.D h4) (ti)))))) (by kernel_rfl)
   ·
    obtain rfl := Option.some.inj h
    exact runB_arr mixed [(9, .int (s0.length : Int)), (10, .bit true), (15, .el (TSlot.D x1)), (19, .bit false)] [] [.live [0, 1, 4, 6], .keep [4]] (ai (len_map TSlot.D s0) (ai h1 (ai (elem_map TSlot.D h2) (ai h3 (ti))))) (by kernel_rfl)
  ·
   obtain rfl := Option.some.inj h
   exact runB_arr mixed [(9, .int (s0.length : Int)), (10, .bit false)] [] [.live [4], .keep [4]] (ai (len_map TSlot.D s0) (ai h1 (ti))) (by kernel_rfl)
theorem ref05_Get_v2_l1_ok (rd : Option Nat) (s0 : List TSlot) (s1 : Int) (w4 : TValue) (s6 : Int) (t : Unit ⊕ TValue) (h : ref05_Get_v2_l1 s0 s1 w4 s6 = some t) : LpOf Try.prog rd (fbody Try.prog 37) [0, 1, 0, 1] (ref05_Get_v2_l1_I s0 s1 w4 s6) ((ref05_Get_v2_l1_O s0 s1 w4) t).1 ((ref05_Get_v2_l1_O s0 s1 w4) t).2 :=
  loopE_lpR (fun s : Int => ref05_Get_v2_l1_I s0 s1 w4 s) (ref05_Get_v2_l1_O s0 s1 w4) (by kernel_rfl) (fun t => isN_ne (by rcases t with (_ | _) <;> rfl)) (fun s o h => ref05_Get_v2_l1_rnd rd s0 s1 w4 s o h) (s := s6) (t := t) h
theorem ref05_Get_v2_ok (a0 : List TSlot) (a1 : Int) (r : TValue × Bool) (h : ref05_Get_v2 a0 a1 = some r) : ACall Try.prog 37 [.d ((D.l TSlot.D) a0), .d ((D.i .i64) a1)] [] (.tup [.d (TValue.D r.1), .d (D.b r.2)]) [] := by
  unfold ref05_Get_v2 at h
  obtain ⟨o3, h5, h⟩ := bndE_some h
  replace h := sumE_some h
  rcases h with ⟨o4, rfl, h⟩ | ⟨o5, rfl, h⟩
  ·
   obtain rfl := Option.some.inj h
   exact runF_call mixed [] [⟨[0, 1, 0, 1], [.live [0, 1, 4, 6], .keep [4]], .exit 0, (ref05_Get_v2_l1_O a0 a1 (TValue.mk 0 0 ([] : List UInt8) false) (Sum.inl o4)).2⟩] [] (ai (ref05_Get_v2_l1_ok none a0 a1 (TValue.mk 0 0 ([] : List UInt8) false) 0 (Sum.inl o4) h5) (ti)) (by kernel_rfl)
  ·
   obtain rfl := Option.some.inj h
   exact runF_call mixed [] [⟨[0, 1, 0, 1], [.live [0, 1, 4, 6], .keep [4]], .ret, (ref05_Get_v2_l1_O a0 a1 (TValue.mk 0 0 ([] : List UInt8) false) (Sum.inr o5)).2⟩] [] (ai (ref05_Get_v2_l1_ok none a0 a1 (TValue.mk 0 0 ([] : List UInt8) false) 0 (Sum.inr o5) h5) (ti)) (by kernel_rfl)
def ref05_Union_b7_I (s0 : List TSlot) (s1 : List TSlot) (s6 : Int) (s34 : Bool) (w5 : List TSlot) (w9 : TValue) : St := ⟨sp 42 0 [(0, .d ((D.l TSlot.D) s0)), (1, .d ((D.l TSlot.D) s1)), (5, .row 5), (6, .d ((D.i .i64) s6)), (9, .box 9 0), (34, .d (D.b s34))], [(5, .row 64 5 (w5.map TSlot.D)), (9, .cells ((cellsA (TValue.D w9))))], []⟩
def ref05_Union_b7_O (s0 : List TSlot) (s1 : List TSlot) (s6 : Int) (s34 : Bool) (w5 : List TSlot) (w9 : TValue) (o : (List TSlot)) : Ex × St := (.normal, ⟨sp 42 0 [(0, .d ((D.l TSlot.D) s0)), (1, .d ((D.l TSlot.D) s1)), (5, .row 5), (6, .d ((D.i .i64) s6))], [(5, .row 64 5 (o.map TSlot.D))], []⟩)
theorem ref05_Union_b7_ok (rd : Option Nat) (s0 : List TSlot) (s1 : List TSlot) (s6 : Int) (s34 : Bool) (w5 : List TSlot) (w9 : TValue) (o : (List TSlot)) (h : ref05_Union_b7 s0 s1 s6 s34 w5 w9 = some o) : LpOf Try.prog rd (fbody Try.prog 17) [1, 1, 1, 1, 1, 0, 0, 1, 0, 0, 1, 0, 1, 1] (ref05_Union_b7_I s0 s1 s6 s34 w5 w9) (ref05_Union_b7_O s0 s1 s6 s34 w5 w9 o).1 (ref05_Union_b7_O s0 s1 s6 s34 w5 w9 o).2 := by
  unfold ref05_Union_b7 at h
  cases s34 with
  | true =>
   replace h := iteT h
   obtain ⟨h17, h⟩ := chkE_some h
   obtain rfl := Option.some.inj h
   exact (runB_arr mixed [(40, .sl ((w5 ++ [TSlot.mk s6 w9]).map TSlot.D))] [] [.live [0, 1, 5, 6], .keep [40], .ren 40 5, .sort] (ai (nc_ok TSlot.D [TSlot.mk s6 w9]) (ai (nc_ok TSlot.D [TSlot.mk s6 w9]) (ai (fit_map TSlot.D h17) (ai (app_map TSlot.D w5 [TSlot.mk s6 w9]) (ti))))) (by kernel_rfl)).lp
  | false =>
   replace h := iteF h
   obtain rfl := Option.some.inj h
   exact (runB_arr mixed [] [] [.live [0, 1, 5, 6], .keep [5]] (ti) (by kernel_rfl)).lp
def ref05_Union_b6_I (s0 : List TSlot) (s1 : List TSlot) (s6 : Int) (s10 : Bool) (s27 : Bool) (w5 : List TSlot) (w7 : TValue) (w9 : TValue) : St := ⟨sp 42 0 [(0, .d ((D.l TSlot.D) s0)), (1, .d ((D.l TSlot.D) s1)), (5, .row 5), (6, .d ((D.i .i64) s6)), (7, .box 7 0), (9, .box 9 0), (10, .d (D.b s10)), (27, .d (D.b s27))], [(5, .row 64 5 (w5.map TSlot.D)), (7, .cells ((cellsA (TValue.D w7)))), (9, .cells ((cellsA (TValue.D w9))))], []⟩
def ref05_Union_b6_O (s0 : List TSlot) (s1 : List TSlot) (s6 : Int) (s10 : Bool) (s27 : Bool) (w5 : List TSlot) (w7 : TValue) (w9 : TValue) (o : (List TSlot)) : Ex × St := (.normal, ⟨sp 42 0 [(0, .d ((D.l TSlot.D) s0)), (1, .d ((D.l TSlot.D) s1)), (5, .row 5), (6, .d ((D.i .i64) s6))], [(5, .row 64 5 (o.map TSlot.D))], []⟩)
theorem ref05_Union_b6_ok (rd : Option Nat) (s0 : List TSlot) (s1 : List TSlot) (s6 : Int) (s10 : Bool) (s27 : Bool) (w5 : List TSlot) (w7 : TValue) (w9 : TValue) (o : (List TSlot)) (h : ref05_Union_b6 s0 s1 s6 s10 s27 w5 w7 w9 = some o) : LpOf Try.prog rd (fbody Try.prog 17) [1, 1, 1, 0, 0, 1, 0, 0, 1, 0, 1, 1] (ref05_Union_b6_I s0 s1 s6 s10 s27 w5 w7 w9) (ref05_Union_b6_O s0 s1 s6 s10 s27 w5 w7 w9 o).1 (ref05_Union_b6_O s0 s1 s6 s10 s27 w5 w7 w9 o).2 := by
  unfold ref05_Union_b6 at h
  cases s27 with
  | true =>
   replace h := iteT h
   obtain ⟨h15, h⟩ := chkE_some h
   obtain rfl := Option.some.inj h
   exact (runB_arr mixed [(33, .sl ((w5 ++ [TSlot.mk s6 w7]).map TSlot.D))] [] [.live [0, 1, 5, 6], .keep [33], .ren 33 5, .sort] (ai (nc_ok TSlot.D [TSlot.mk s6 w7]) (ai (nc_ok TSlot.D [TSlot.mk s6 w7]) (ai (fit_map TSlot.D h15) (ai (app_map TSlot.D w5 [TSlot.mk s6 w7]) (ti))))) (by kernel_rfl)).lp
  | false =>
   replace h := iteF h
   obtain ⟨o8, h18, h⟩ := bndE_some h
   obtain rfl := Option.some.inj h
   exact (runB_arr mixed [] [⟨[1, 1, 1, 1, 1, 0, 0, 1, 0, 0, 1, 0, 1, 1], [.live [0, 1, 5, 6, 9, 34], .keep [5, 9]], .normal, (ref05_Union_b7_O s0 s1 s6 s10 w5 w9 o8).2⟩] [.live [0, 1, 5, 6], .keep [5]] (ai (ref05_Union_b7_ok rd s0 s1 s6 s10 w5 w9 o8 h18) (ti)) (by kernel_rfl)).lp
def ref05_Union_b5_I (s0 : List TSlot) (s1 : List TSlot) (s6 : Int) (w5 : List TSlot) : St := ⟨sp 42 0 [(0, .d ((D.l TSlot.D) s0)), (1, .d ((D.l TSlot.D) s1)), (5, .row 5), (6, .d ((D.i .i64) s6))], [(5, .row 64 5 (w5.map TSlot.D))], []⟩
def ref05_Union_b5_O (s0 : List TSlot) (s1 : List TSlot) (s6 : Int) (w5 : List TSlot) (o : (List TSlot)) : Ex × St := (.normal, ⟨sp 42 0 [(0, .d ((D.l TSlot.D) s0)), (1, .d ((D.l TSlot.D) s1)), (5, .row 5), (6, .d ((D.i .i64) s6))], [(5, .row 64 5 (o.map TSlot.D))], []⟩)
theorem ref05_Union_b5_ok (rd : Option Nat) (s0 : List TSlot) (s1 : List TSlot) (s6 : Int) (w5 : List TSlot) (o : (List TSlot)) (h : ref05_Union_b5 s0 s1 s6 w5 = some o) : LpOf Try.prog rd (fbody Try.prog 17) [0, 1, 0, 0, 1, 0, 1, 1] (ref05_Union_b5_I s0 s1 s6 w5) (ref05_Union_b5_O s0 s1 s6 w5 o).1 (ref05_Union_b5_O s0 s1 s6 w5 o).2 := by
  unfold ref05_Union_b5 at h
  obtain ⟨r6, h12, h⟩ := bndE_some h
  obtain ⟨r7, h13, h⟩ := bndE_some h
  obtain ⟨o9, h19, h⟩ := bndE_some h
  obtain rfl := Option.some.inj h
  exact (runB_arr mixed [(18, .ret (.tup [.d (TValue.D r6.1), .d (D.b r6.2)])), (24, .ret (.tup [.d (TValue.D r7.1), .d (D.b r7.2)]))] [⟨[1, 1, 1, 0, 0, 1, 0, 0, 1, 0, 1, 1], [.live [0, 1, 5, 6, 7, 9, 10, 27], .keep [5, 7, 9]], .normal, (ref05_Union_b6_O s0 s1 s6 r7.2 r6.2 w5 r6.1 r7.1 o9).2⟩] [.live [0, 1, 5, 6], .keep [5]] (ai (ref05_Get_v2_ok s0 s6 r6 h12) (ai (ref05_Get_v2_ok s1 s6 r7 h13) (ai (ref05_Union_b6_ok rd s0 s1 s6 r7.2 r6.2 w5 r6.1 r7.1 o9 h19) (ti)))) (by kernel_rfl)).lp
def ref05_Union_l1_I (s0 : List TSlot) (s1 : List TSlot) (s6 : Int) (w5 : List TSlot) : St := ⟨sp 42 0 [(0, .d ((D.l TSlot.D) s0)), (1, .d ((D.l TSlot.D) s1)), (5, .row 5), (6, .d ((D.i .i64) s6))], [(5, .row 64 5 (w5.map TSlot.D))], []⟩
def ref05_Union_l1_O (s0 : List TSlot) (s1 : List TSlot) (o : (List TSlot)) : Ex × St := (.exit 0, ⟨sp 42 0 [(5, .row 5)], [(5, .row 64 5 (o.map TSlot.D))], []⟩)
theorem ref05_Union_l1_rnd (rd : Option Nat) (s0 : List TSlot) (s1 : List TSlot) (s6 : Int) (w5 : List TSlot) (o : (Int × List TSlot) ⊕ ((List TSlot))) (h : ref05_Union_l1_s s0 s1 s6 w5 = some o) : Arr Try.prog rd (fbody Try.prog 17) (0 :: [0, 1, 0, 1, 1]) (ref05_Union_l1_I s0 s1 s6 w5) (rR (fun s : Int × List TSlot => ref05_Union_l1_I s0 s1 s.1 s.2) (ref05_Union_l1_O s0 s1) o).1 (rR (fun s : Int × List TSlot => ref05_Union_l1_I s0 s1 s.1 s.2) (ref05_Union_l1_O s0 s1) o).2 := by
  unfold ref05_Union_l1_s at h
  rcases iteE_some h with ⟨h11, h⟩ | ⟨h11, h⟩
  ·
   obtain ⟨o10, h20, h⟩ := bndE_some h
   obtain rfl := Option.some.inj h
   exact runB_arr mixed [(12, .bit true)] [⟨[0, 1, 0, 0, 1, 0, 1, 1], [.live [0, 1, 5, 6], .keep [5]], .normal, (ref05_Union_b5_O s0 s1 s6 w5 o10).2⟩] [.live [0, 1, 5, 6], .keep [5]] (ai h11 (ai (ref05_Union_b5_ok rd s0 s1 s6 w5 o10 h20) (ti))) (by kernel_rfl)
  ·
   obtain rfl := Option.some.inj h
   exact runB_arr mixed [(12, .bit false)] [] [.live [5], .keep [5]] (ai h11 (ti)) (by kernel_rfl)
theorem ref05_Union_l1_ok (rd : Option Nat) (s0 : List TSlot) (s1 : List TSlot) (s6 : Int) (w5 : List TSlot) (t : (List TSlot)) (h : ref05_Union_l1 s0 s1 s6 w5 = some t) : LpOf Try.prog rd (fbody Try.prog 17) [0, 1, 0, 1, 1] (ref05_Union_l1_I s0 s1 s6 w5) ((ref05_Union_l1_O s0 s1) t).1 ((ref05_Union_l1_O s0 s1) t).2 :=
  loopE_lpR (fun s : Int × List TSlot => ref05_Union_l1_I s0 s1 s.1 s.2) (ref05_Union_l1_O s0 s1) (by kernel_rfl) (fun t => isN_ne (by rfl)) (fun s o h => ref05_Union_l1_rnd rd s0 s1 s.1 s.2 o h) (s := (s6, w5)) (t := t) h
theorem ref05_Union_ok (a0 : List TSlot) (a1 : List TSlot) (r : List TSlot) (h : ref05_Union a0 a1 = some r) : ACall Try.prog 17 [.d ((D.l TSlot.D) a0), .d ((D.l TSlot.D) a1)] [] (.d ((D.l TSlot.D) r)) [] := by
  unfold ref05_Union at h
  obtain ⟨o11, h21, h⟩ := bndE_some h
  obtain rfl := Option.some.inj h
  exact runF_call mixed [] [⟨[0, 1, 0, 1, 1], [.live [0, 1, 5, 6], .keep [], .nil 5 5 64 5, .sort], .exit 0, (ref05_Union_l1_O a0 a1 o11).2⟩] [] (ai (ref05_Union_l1_ok none a0 a1 0 ([] : List TSlot) o11 h21) (ti)) (by kernel_rfl)
def ref17_put_l1_I (s0 : List TSlot) (w3 : TSlot) (s5 : Int) : St := ⟨sp 38 0 [(0, .d ((D.l TSlot.D) s0)), (3, .box 3 0), (5, .d ((D.i .i64) s5))], [(3, .cells ((cellsA (TSlot.D w3))))], []⟩
def ref17_put_l1_O (s0 : List TSlot) (w3 : TSlot) (o : Int) : Ex × St := (.exit 0, ⟨sp 38 0 [(0, .d ((D.l TSlot.D) s0)), (3, .box 3 0), (5, .d ((D.i .i64) o))], [(3, .cells ((cellsA (TSlot.D w3))))], []⟩)
theorem ref17_put_l1_rnd (rd : Option Nat) (s0 : List TSlot) (w3 : TSlot) (s5 : Int) (o : (Int) ⊕ (Int)) (h : ref17_put_l1_s s0 w3 s5 = some o) : Arr Try.prog rd (fbody Try.prog 76) (0 :: [0, 0, 1, 1]) (ref17_put_l1_I s0 w3 s5) (rR (fun s : Int => ref17_put_l1_I s0 w3 s) (ref17_put_l1_O s0 w3) o).1 (rR (fun s : Int => ref17_put_l1_I s0 w3 s) (ref17_put_l1_O s0 w3) o).2 := by
  unfold ref17_put_l1_s at h
  rcases iteE_some h with ⟨h1, h⟩ | ⟨h1, h⟩
  ·
   obtain ⟨x1, h2, h⟩ := idxE_some h
   rcases iteE_some h with ⟨h3, h⟩ | ⟨h3, h⟩
   ·
    obtain rfl := Option.some.inj h
    exact runB_arr mixed [(11, .bit true), (15, .el (TSlot.D x1)), (21, .bit true)] [] [.live [0, 3, 5], .keep [3]] (ai h1 (ai (elem_map TSlot.D h2) (ai h3 (ti)))) (by kernel_rfl)
   ·
    obtain rfl := Option.some.inj h
    exact runB_arr mixed [(11, .bit true), (15, .el (TSlot.D x1)), (21, .bit false)] [] [.live [0, 3, 5], .keep [3]] (ai h1 (ai (elem_map TSlot.D h2) (ai h3 (ti)))) (by kernel_rfl)
  ·
   obtain rfl := Option.some.inj h
   exact runB_arr mixed [(11, .bit false)] [] [.live [0, 3, 5], .keep [3]] (ai h1 (ti)) (by kernel_rfl)
theorem ref17_put_l1_ok (rd : Option Nat) (s0 : List TSlot) (w3 : TSlot) (s5 : Int) (t : Int) (h : ref17_put_l1 s0 w3 s5 = some t) : LpOf Try.prog rd (fbody Try.prog 76) [0, 0, 1, 1] (ref17_put_l1_I s0 w3 s5) ((ref17_put_l1_O s0 w3) t).1 ((ref17_put_l1_O s0 w3) t).2 :=
  loopE_lpR (fun s : Int => ref17_put_l1_I s0 w3 s) (ref17_put_l1_O s0 w3) (by kernel_rfl) (fun t => isN_ne (by rfl)) (fun s o h => ref17_put_l1_rnd rd s0 w3 s o h) (s := s5) (t := t) h
theorem ref17_put_ok (a0 : List TSlot) (a1 : TSlot) (r : List TSlot) (h : ref17_put a0 a1 = some r) : ACall Try.prog 76 [.d ((D.l TSlot.D) a0), .d (TSlot.D a1)] [] (.d ((D.l TSlot.D) r)) [] := by
  unfold ref17_put at h
  obtain ⟨o2, h4, h⟩ := bndE_some h
  obtain ⟨h5, h⟩ := chkE_some h
  obtain ⟨h6, h⟩ := chkE_some h
  obtain ⟨h7, h⟩ := chkE_some h
  obtain ⟨h8, h⟩ := chkE_some h
  obtain ⟨h9, h⟩ := chkE_some h
  obtain rfl := Option.some.inj h
  exact runF_call mixed [(8, .int (a0.length : Int)), (27, .sl ((sub a0 0 o2).map TSlot.D)), (28, .sl ((([] : List TSlot) ++ (sub a0 0 o2)).map TSlot.D)), (32, .sl (((([] : List TSlot) ++ (sub a0 0 o2)) ++ [a1]).map TSlot.D)), (36, .sl ((sub a0 o2 (a0.length : Int)).map TSlot.D)), (37, .sl ((((([] : List TSlot) ++ (sub a0 0 o2)) ++ [a1]) ++ (sub a0 o2 (a0.length : Int))).map TSlot.D))] [⟨[0, 0, 1, 1], [.live [0, 3, 5], .keep [3]], .exit 0, (ref17_put_l1_O a0 a1 o2).2⟩] [] (ai (len_map TSlot.D a0) (ai (ref17_put_l1_ok none a0 a1 (a0.length : Int) o2 h4) (ai (nc_ok TSlot.D ([] : List TSlot)) (ai (cut_some TSlot.D h5) (ai (nc_ok TSlot.D (sub a0 0 o2)) (ai (fit_map TSlot.D h6) (ai (app_map TSlot.D ([] : List TSlot) (sub a0 0 o2)) (ai (nc_ok TSlot.D [a1]) (ai (nc_ok TSlot.D [a1]) (ai (fit_map TSlot.D h7) (ai (app_map TSlot.D (([] : List TSlot) ++ (sub a0 0 o2)) [a1]) (ai (cut_none TSlot.D h8) (ai (nc_ok TSlot.D (sub a0 o2 (a0.length : Int))) (ai (fit_map TSlot.D h9) (ai (app_map TSlot.D ((([] : List TSlot) ++ (sub a0 0 o2)) ++ [a1]) (sub a0 o2 (a0.length : Int))) (ti)))))))))))))))) (by kernel_rfl)
def ref17_Hit_b7_I (s1 : Int) (s10 : List TSlot) (s11 : List TSlot) (s12 : Int) (s80 : Bool) (w5 : TEvent) (w6 : Int) (w8 : TSymbol) (w9 : THit) (w13 : TArg) (w14 : List TSlot) : St := ⟨sp 121 0 [(1, .d ((D.i .i64) s1)), (5, .box 5 0), (6, .box 6 0), (8, .box 8 0), (9, .box 9 0), (10, .d ((D.l TSlot.D) s10)), (11, .d ((D.l TSlot.D) s11)), (12, .d ((D.i .i64) s12)), (13, .box 13 0), (14, .row 14), (80, .d (D.b s80))], [(5, .cells ((cellsA (TEvent.D w5)))), (6, .cells ([.d ((D.i .i64) w6), .nil, .nil])), (8, .cells ((cellsA (TSymbol.D w8)))), (9, .cells ((cellsA (THit.D w9)))), (13, .cells ((cellsA (TArg.D w13)))), (14, .row 64 5 (w14.map TSlot.D))], []⟩
def ref17_Hit_b7_O (s1 : Int) (s10 : List TSlot) (s11 : List TSlot) (s12 : Int) (s80 : Bool) (w5 : TEvent) (w6 : Int) (w8 : TSymbol) (w9 : THit) (w13 : TArg) (w14 : List TSlot) (o : (List TSlot) ⊕ Unit) : Ex × St := match o with
  | .inl o => (.normal, ⟨sp 121 0 [(1, .d ((D.i .i64) s1)), (5, .box 5 0), (6, .box 6 0), (8, .box 8 0), (9, .box 9 0), (10, .d ((D.l TSlot.D) o)), (11, .d ((D.l TSlot.D) s11)), (12, .d ((D.i .i64) s12)), (13, .box 13 0), (14, .row 14)], [(5, .cells ((cellsA (TEvent.D w5)))), (6, .cells ([.d ((D.i .i64) w6), .nil, .nil])), (8, .cells ((cellsA (TSymbol.D w8)))), (9, .cells ((cellsA (THit.D w9)))), (13, .cells ((cellsA (TArg.D w13)))), (14, .row 64 5 (w14.map TSlot.D))], []⟩)
  | .inr o => (.ret, ⟨sp 121 0 [(6, .box 6 0), (7, .d (D.b false))], [(6, .cells ((cellsA (THit.D w9))))], []⟩)
theorem ref17_Hit_b7_ok (rd : Option Nat) (s1 : Int) (s10 : List TSlot) (s11 : List TSlot) (s12 : Int) (s80 : Bool) (w5 : TEvent) (w6 : Int) (w8 : TSymbol) (w9 : THit) (w13 : TArg) (w14 : List TSlot) (o : (List TSlot) ⊕ Unit) (h : ref17_Hit_b7 s1 s10 s11 s12 s80 w5 w6 w8 w9 w13 w14 = some o) : LpOf Try.prog rd (fbody Try.prog 58) [1, 0, 1, 1, 1, 0, 0, 1, 0, 0, 1, 0, 1, 1, 1, 1, 1, 1] (ref17_Hit_b7_I s1 s10 s11 s12 s80 w5 w6 w8 w9 w13 w14) (ref17_Hit_b7_O s1 s10 s11 s12 s80 w5 w6 w8 w9 w13 w14 o).1 (ref17_Hit_b7_O s1 s10 s11 s12 s80 w5 w6 w8 w9 w13 w14 o).2 := by
  unfold ref17_Hit_b7 at h
  cases s80 with
  | true =>
   replace h := iteT h
   obtain ⟨r32, h37, h⟩ := bndE_some h
   rcases iteE_some h with ⟨h38, h⟩ | ⟨h38, h⟩
   ·
    obtain rfl := Option.some.inj h
    exact (runB_arr mixed [(83, .ret (.d (D.b r32))), (84, .bit true)] [] [.live [6, 7], .keep [6]] (ai (ref05_Fits_ok s10 w14 r32 h37) (ai h38 (ti))) (by kernel_rfl)).lp
   ·
    obtain ⟨r33, h39, h⟩ := bndE_some h
    obtain rfl := Option.some.inj h
    exact (runB_arr mixed [(83, .ret (.d (D.b r32))), (84, .bit false), (88, .ret (.d ((D.l TSlot.D) r33)))] [] [.live [1, 5, 6, 8, 9, 10, 11, 12, 13, 14], .keep [5, 6, 8, 9, 13, 14]] (ai (ref05_Fits_ok s10 w14 r32 h37) (ai h38 (ai (ref05_Union_ok s10 w14 r33 h39) (ti)))) (by kernel_rfl)).lp
  | false =>
   replace h := iteF h
   obtain rfl := Option.some.inj h
   exact (runB_arr mixed [] [] [.live [1, 5, 6, 8, 9, 10, 11, 12, 13, 14], .keep [5, 6, 8, 9, 13, 14]] (ti) (by kernel_rfl)).lp
def ref17_Hit_b9_I (s1 : Int) (s10 : List TSlot) (s11 : List TSlot) (s12 : Int) (s111 : Bool) (w5 : TEvent) (w6 : Int) (w8 : TSymbol) (w9 : THit) (w14 : List TSlot) : St := ⟨sp 121 0 [(1, .d ((D.i .i64) s1)), (5, .box 5 0), (6, .box 6 0), (8, .box 8 0), (9, .box 9 0), (10, .d ((D.l TSlot.D) s10)), (11, .d ((D.l TSlot.D) s11)), (12, .d ((D.i .i64) s12)), (14, .row 14), (111, .d (D.b s111))], [(5, .cells ((cellsA (TEvent.D w5)))), (6, .cells ([.d ((D.i .i64) w6), .nil, .nil])), (8, .cells ((cellsA (TSymbol.D w8)))), (9, .cells ((cellsA (THit.D w9)))), (14, .row 64 5 (w14.map TSlot.D))], []⟩
def ref17_Hit_b9_O (s1 : Int) (s10 : List TSlot) (s11 : List TSlot) (s12 : Int) (s111 : Bool) (w5 : TEvent) (w6 : Int) (w8 : TSymbol) (w9 : THit) (w14 : List TSlot) (o : (List TSlot)) : Ex × St := (.normal, ⟨sp 121 0 [(1, .d ((D.i .i64) s1)), (5, .box 5 0), (6, .box 6 0), (8, .box 8 0), (9, .box 9 0), (10, .d ((D.l TSlot.D) s10)), (11, .d ((D.l TSlot.D) o)), (12, .d ((D.i .i64) s12))], [(5, .cells ((cellsA (TEvent.D w5)))), (6, .cells ([.d ((D.i .i64) w6), .nil, .nil])), (8, .cells ((cellsA (TSymbol.D w8)))), (9, .cells ((cellsA (THit.D w9))))], []⟩)
theorem ref17_Hit_b9_ok (rd : Option Nat) (s1 : Int) (s10 : List TSlot) (s11 : List TSlot) (s12 : Int) (s111 : Bool) (w5 : TEvent) (w6 : Int) (w8 : TSymbol) (w9 : THit) (w14 : List TSlot) (o : (List TSlot)) (h : ref17_Hit_b9 s1 s10 s11 s12 s111 w5 w6 w8 w9 w14 = some o) : LpOf Try.prog rd (fbody Try.prog 58) [1, 1, 1, 0, 1, 1, 1, 1, 1, 0, 0, 1, 0, 0, 1, 0, 1, 1, 1, 1, 1, 1] (ref17_Hit_b9_I s1 s10 s11 s12 s111 w5 w6 w8 w9 w14) (ref17_Hit_b9_O s1 s10 s11 s12 s111 w5 w6 w8 w9 w14 o).1 (ref17_Hit_b9_O s1 s10 s11 s12 s111 w5 w6 w8 w9 w14 o).2 := by
  unfold ref17_Hit_b9 at h
  cases s111 with
  | true =>
   replace h := iteT h
   obtain ⟨x39, h47, h⟩ := idxE_some h
   obtain ⟨r40, h48, h⟩ := bndE_some h
   obtain rfl := Option.some.inj h
   exact (runB_arr mixed [(114, .el (TSlot.D x39)), (116, .ret (.d ((D.l TSlot.D) r40)))] [] [.live [1, 5, 6, 8, 9, 10, 11, 12], .keep [5, 6, 8, 9]] (ai (elem_map TSlot.D h47) (ai (ref17_put_ok s11 x39 r40 h48) (ti))) (by kernel_rfl)).lp
  | false =>
   replace h := iteF h
   obtain rfl := Option.some.inj h
   exact (runB_arr mixed [] [] [.live [1, 5, 6, 8, 9, 10, 11, 12], .keep [5, 6, 8, 9]] (ti) (by kernel_rfl)).lp
def ref17_Hit_b8_I (s1 : Int) (s10 : List TSlot) (s11 : List TSlot) (s12 : Int) (s91 : Bool) (w5 : TEvent) (w6 : Int) (w8 : TSymbol) (w9 : THit) (w13 : TArg) (w14 : List TSlot) : St := ⟨sp 121 0 [(1, .d ((D.i .i64) s1)), (5, .box 5 0), (6, .box 6 0), (8, .box 8 0), (9, .box 9 0), (10, .d ((D.l TSlot.D) s10)), (11, .d ((D.l TSlot.D) s11)), (12, .d ((D.i .i64) s12)), (13, .box 13 0), (14, .row 14), (91, .d (D.b s91))], [(5, .cells ((cellsA (TEvent.D w5)))), (6, .cells ([.d ((D.i .i64) w6), .nil, .nil])), (8, .cells ((cellsA (TSymbol.D w8)))), (9, .cells ((cellsA (THit.D w9)))), (13, .cells ((cellsA (TArg.D w13)))), (14, .row 64 5 (w14.map TSlot.D))], []⟩
def ref17_Hit_b8_O (s1 : Int) (s10 : List TSlot) (s11 : List TSlot) (s12 : Int) (s91 : Bool) (w5 : TEvent) (w6 : Int) (w8 : TSymbol) (w9 : THit) (w13 : TArg) (w14 : List TSlot) (o : (List TSlot) ⊕ Unit) : Ex × St := match o with
  | .inl o => (.normal, ⟨sp 121 0 [(1, .d ((D.i .i64) s1)), (5, .box 5 0), (6, .box 6 0), (8, .box 8 0), (9, .box 9 0), (10, .d ((D.l TSlot.D) s10)), (11, .d ((D.l TSlot.D) o)), (12, .d ((D.i .i64) s12))], [(5, .cells ((cellsA (TEvent.D w5)))), (6, .cells ([.d ((D.i .i64) w6), .nil, .nil])), (8, .cells ((cellsA (TSymbol.D w8)))), (9, .cells ((cellsA (THit.D w9))))], []⟩)
  | .inr o => (.ret, ⟨sp 121 0 [(6, .box 6 0), (7, .d (D.b false))], [(6, .cells ((cellsA (THit.D w9))))], []⟩)
theorem ref17_Hit_b8_ok (rd : Option Nat) (s1 : Int) (s10 : List TSlot) (s11 : List TSlot) (s12 : Int) (s91 : Bool) (w5 : TEvent) (w6 : Int) (w8 : TSymbol) (w9 : THit) (w13 : TArg) (w14 : List TSlot) (o : (List TSlot) ⊕ Unit) (h : ref17_Hit_b8 s1 s10 s11 s12 s91 w5 w6 w8 w9 w13 w14 = some o) : LpOf Try.prog rd (fbody Try.prog 58) [1, 1, 1, 1, 1, 0, 0, 1, 0, 0, 1, 0, 1, 1, 1, 1, 1, 1] (ref17_Hit_b8_I s1 s10 s11 s12 s91 w5 w6 w8 w9 w13 w14) (ref17_Hit_b8_O s1 s10 s11 s12 s91 w5 w6 w8 w9 w13 w14 o).1 (ref17_Hit_b8_O s1 s10 s11 s12 s91 w5 w6 w8 w9 w13 w14 o).2 := by
  unfold ref17_Hit_b8 at h
  cases s91 with
  | true =>
   replace h := iteT h
   obtain ⟨r37, h42, h⟩ := bndE_some h
   rcases iteE_some h with ⟨h43, h⟩ | ⟨h43, h⟩
   ·
    obtain ⟨x38, h44, h⟩ := idxE_some h
    rcases iteE_some h with ⟨h45, h⟩ | ⟨h45, h⟩
    ·
     obtain rfl := Option.some.inj h
     exact (runB_arr mixed [(96, .ret (.tup [.d (TValue.D r37.1), .d (D.b r37.2)])), (100, .bit true), (105, .el (TValue.D x38)), (108, .bit true)] [] [.live [6, 7], .keep [6]] (ai (ref05_Get_ok s11 w13.n r37 h42) (ai h43 (ai (elem_map TValue.D h44) (ai h45 (ti))))) (by kernel_rfl)).lp
    ·
     obtain ⟨o41, h49, h⟩ := bndE_some h
     obtain rfl := Option.some.inj h
     exact (runB_arr mixed [(96, .ret (.tup [.d (TValue.D r37.1), .d (D.b r37.2)])), (100, .bit true), (105, .el (TValue.D x38)), (108, .bit false)] [⟨[1, 1, 1, 0, 1, 1, 1, 1, 1, 0, 0, 1, 0, 0, 1, 0, 1, 1, 1, 1, 1, 1], [.live [1, 5, 6, 8, 9, 10, 11, 12, 14, 111], .keep [5, 6, 8, 9, 14]], .normal, (ref17_Hit_b9_O s1 s10 s11 s12 (!r37.2) w5 w6 w8 w9 w14 o41).2⟩] [.live [1, 5, 6, 8, 9, 10, 11, 12], .keep [5, 6, 8, 9]] (ai (ref05_Get_ok s11 w13.n r37 h42) (ai h43 (ai (elem_map TValue.D h44) (ai h45 (ai (ref17_Hit_b9_ok rd s1 s10 s11 s12 (!r37.2) w5 w6 w8 w9 w14 o41 h49) (ti)))))) (by kernel_rfl)).lp
   ·
    obtain ⟨o42, h50, h⟩ := bndE_some h
    obtain rfl := Option.some.inj h
    exact (runB_arr mixed [(96, .ret (.tup [.d (TValue.D r37.1), .d (D.b r37.2)])), (100, .bit false)] [⟨[1, 1, 1, 0, 1, 1, 1, 1, 1, 0, 0, 1, 0, 0, 1, 0, 1, 1, 1, 1, 1, 1], [.live [1, 5, 6, 8, 9, 10, 11, 12, 14, 111], .keep [5, 6, 8, 9, 14]], .normal, (ref17_Hit_b9_O s1 s10 s11 s12 (!r37.2) w5 w6 w8 w9 w14 o42).2⟩] [.live [1, 5, 6, 8, 9, 10, 11, 12], .keep [5, 6, 8, 9]] (ai (ref05_Get_ok s11 w13.n r37 h42) (ai h43 (ai (ref17_Hit_b9_ok rd s1 s10 s11 s12 (!r37.2) w5 w6 w8 w9 w14 o42 h50) (ti)))) (by kernel_rfl)).lp
  | false =>
   replace h := iteF h
   obtain rfl := Option.some.inj h
   exact (runB_arr mixed [] [] [.live [1, 5, 6, 8, 9, 10, 11, 12], .keep [5, 6, 8, 9]] (ti) (by kernel_rfl)).lp
def ref17_Hit_b6_I (s1 : Int) (s10 : List TSlot) (s11 : List TSlot) (s12 : Int) (w5 : TEvent) (w6 : Int) (w8 : TSymbol) (w9 : THit) : St := ⟨sp 121 0 [(1, .d ((D.i .i64) s1)), (5, .box 5 0), (6, .box 6 0), (8, .box 8 0), (9, .box 9 0), (10, .d ((D.l TSlot.D) s10)), (11, .d ((D.l TSlot.D) s11)), (12, .d ((D.i .i64) s12))], [(5, .cells ((cellsA (TEvent.D w5)))), (6, .cells ([.d ((D.i .i64) w6), .nil, .nil])), (8, .cells ((cellsA (TSymbol.D w8)))), (9, .cells ((cellsA (THit.D w9))))], []⟩
def ref17_Hit_b6_O (s1 : Int) (s10 : List TSlot) (s11 : List TSlot) (s12 : Int) (w5 : TEvent) (w6 : Int) (w8 : TSymbol) (w9 : THit) (o : (List TSlot × List TSlot) ⊕ Unit) : Ex × St := match o with
  | .inl o => (.normal, ⟨sp 121 0 [(1, .d ((D.i .i64) s1)), (5, .box 5 0), (6, .box 6 0), (8, .box 8 0), (9, .box 9 0), (10, .d ((D.l TSlot.D) o.1)), (11, .d ((D.l TSlot.D) o.2)), (12, .d ((D.i .i64) s12))], [(5, .cells ((cellsA (TEvent.D w5)))), (6, .cells ([.d ((D.i .i64) w6), .nil, .nil])), (8, .cells ((cellsA (TSymbol.D w8)))), (9, .cells ((cellsA (THit.D w9))))], []⟩)
  | .inr o => (.ret, ⟨sp 121 0 [(6, .box 6 0), (7, .d (D.b false))], [(6, .cells ((cellsA (THit.D w9))))], []⟩)
theorem ref17_Hit_b6_ok (rd : Option Nat) (s1 : Int) (s10 : List TSlot) (s11 : List TSlot) (s12 : Int) (w5 : TEvent) (w6 : Int) (w8 : TSymbol) (w9 : THit) (o : (List TSlot × List TSlot) ⊕ Unit) (h : ref17_Hit_b6 s1 s10 s11 s12 w5 w6 w8 w9 = some o) : LpOf Try.prog rd (fbody Try.prog 58) [0, 1, 0, 0, 1, 0, 1, 1, 1, 1, 1, 1] (ref17_Hit_b6_I s1 s10 s11 s12 w5 w6 w8 w9) (ref17_Hit_b6_O s1 s10 s11 s12 w5 w6 w8 w9 o).1 (ref17_Hit_b6_O s1 s10 s11 s12 w5 w6 w8 w9 o).2 := by
  unfold ref17_Hit_b6 at h
  obtain ⟨x29, h31, h⟩ := idxE_some h
  obtain ⟨x30, h32, h⟩ := idxE_some h
  rcases iteE_some h with ⟨h33, h⟩ | ⟨h33, h⟩
  ·
   obtain ⟨x31, h34, h⟩ := idxE_some h
   rcases iteE_some h with ⟨h35, h⟩ | ⟨h35, h⟩
   ·
    obtain rfl := Option.some.inj h
    exact (runB_arr mixed [(53, .el (TArg.D x29)), (60, .el (TValue.D x30)), (67, .bit true), (73, .el (TValue.D x31)), (76, .bit true)] [] [.live [6, 7], .keep [6]] (ai (elem_map TArg.D h31) (ai (elem_map TValue.D h32) (ai (nc_ok TSlot.D [TSlot.mk x29.n x30]) (ai h33 (ai (elem_map TValue.D h34) (ai h35 (ti))))))) (by kernel_rfl)).lp
   ·
    obtain ⟨o34, h40, h⟩ := bndE_some h
    replace h := sumE_some h
    rcases h with ⟨o35, rfl, h⟩ | ⟨o36, rfl, h⟩
    ·
     obtain ⟨o43, h51, h⟩ := bndE_some h
     replace h := sumE_some h
     rcases h with ⟨o44, rfl, h⟩ | ⟨o45, rfl, h⟩
     ·
      obtain rfl := Option.some.inj h
      exact (runB_arr mixed [(53, .el (TArg.D x29)), (60, .el (TValue.D x30)), (67, .bit true), (73, .el (TValue.D x31)), (76, .bit false)] [⟨[1, 0, 1, 1, 1, 0, 0, 1, 0, 0, 1, 0, 1, 1, 1, 1, 1, 1], [.live [1, 5, 6, 8, 9, 10, 11, 12, 13, 14, 80], .keep [5, 6, 8, 9, 13, 63], .ren 63 14, .sort], .normal, (ref17_Hit_b7_O s1 s10 s11 s12 (decide (x29.kind = 2)) w5 w6 w8 w9 x29 [TSlot.mk x29.n x30] (Sum.inl o35)).2⟩, ⟨[1, 1, 1, 1, 1, 0, 0, 1, 0, 0, 1, 0, 1, 1, 1, 1, 1, 1], [.live [1, 5, 6, 8, 9, 10, 11, 12, 13, 14, 91], .keep [5, 6, 8, 9, 13, 14]], .normal, (ref17_Hit_b8_O s1 o35 s11 s12 (decide (x29.kind = 3)) w5 w6 w8 w9 x29 [TSlot.mk x29.n x30] (Sum.inl o44)).2⟩] [.live [1, 5, 6, 8, 9, 10, 11, 12], .keep [5, 6, 8, 9]] (ai (elem_map TArg.D h31) (ai (elem_map TValue.D h32) (ai (nc_ok TSlot.D [TSlot.mk x29.n x30]) (ai h33 (ai (elem_map TValue.D h34) (ai h35 (ai (ref17_Hit_b7_ok rd s1 s10 s11 s12 (decide (x29.kind = 2)) w5 w6 w8 w9 x29 [TSlot.mk x29.n x30] (Sum.inl o35) h40) (ai (ref17_Hit_b8_ok rd s1 o35 s11 s12 (decide (x29.kind = 3)) w5 w6 w8 w9 x29 [TSlot.mk x29.n x30] (Sum.inl o44) h51) (ti))))))))) (by kernel_rfl)).lp
     ·
      obtain rfl := Option.some.inj h
      exact (runB_arr mixed [(53, .el (TArg.D x29)), (60, .el (TValue.D x30)), (67, .bit true), (73, .el (TValue.D x31)), (76, .bit false)] [⟨[1, 0, 1, 1, 1, 0, 0, 1, 0, 0, 1, 0, 1, 1, 1, 1, 1, 1], [.live [1, 5, 6, 8, 9, 10, 11, 12, 13, 14, 80], .keep [5, 6, 8, 9, 13, 63], .ren 63 14, .sort], .normal, (ref17_Hit_b7_O s1 s10 s11 s12 (decide (x29.kind = 2)) w5 w6 w8 w9 x29 [TSlot.mk x29.n x30] (Sum.inl o35)).2⟩, ⟨[1, 1, 1, 1, 1, 0, 0, 1, 0, 0, 1, 0, 1, 1, 1, 1, 1, 1], [.live [1, 5, 6, 8, 9, 10, 11, 12, 13, 14, 91], .keep [5, 6, 8, 9, 13, 14]], .ret, (ref17_Hit_b8_O s1 o35 s11 s12 (decide (x29.kind = 3)) w5 w6 w8 w9 x29 [TSlot.mk x29.n x30] (Sum.inr o45)).2⟩] [.live [6, 7], .keep [6]] (ai (elem_map TArg.D h31) (ai (elem_map TValue.D h32) (ai (nc_ok TSlot.D [TSlot.mk x29.n x30]) (ai h33 (ai (elem_map TValue.D h34) (ai h35 (ai (ref17_Hit_b7_ok rd s1 s10 s11 s12 (decide (x29.kind = 2)) w5 w6 w8 w9 x29 [TSlot.mk x29.n x30] (Sum.inl o35) h40) (ai (ref17_Hit_b8_ok rd s1 o35 s11 s12 (decide (x29.kind = 3)) w5 w6 w8 w9 x29 [TSlot.mk x29.n x30] (Sum.inr o45) h51) (ti))))))))) (by kernel_rfl)).lp
    ·
     obtain rfl := Option.some.inj h
     exact (runB_arr mixed [(53, .el (TArg.D x29)), (60, .el (TValue.D x30)), (67, .bit true), (73, .el (TValue.D x31)), (76, .bit false)] [⟨[1, 0, 1, 1, 1, 0, 0, 1, 0, 0, 1, 0, 1, 1, 1, 1, 1, 1], [.live [1, 5, 6, 8, 9, 10, 11, 12, 13, 14, 80], .keep [5, 6, 8, 9, 13, 63], .ren 63 14, .sort], .ret, (ref17_Hit_b7_O s1 s10 s11 s12 (decide (x29.kind = 2)) w5 w6 w8 w9 x29 [TSlot.mk x29.n x30] (Sum.inr o36)).2⟩] [.live [6, 7], .keep [6]] (ai (elem_map TArg.D h31) (ai (elem_map TValue.D h32) (ai (nc_ok TSlot.D [TSlot.mk x29.n x30]) (ai h33 (ai (elem_map TValue.D h34) (ai h35 (ai (ref17_Hit_b7_ok rd s1 s10 s11 s12 (decide (x29.kind = 2)) w5 w6 w8 w9 x29 [TSlot.mk x29.n x30] (Sum.inr o36) h40) (ti)))))))) (by kernel_rfl)).lp
  ·
   obtain ⟨o46, h52, h⟩ := bndE_some h
   replace h := sumE_some h
   rcases h with ⟨o47, rfl, h⟩ | ⟨o48, rfl, h⟩
   ·
    obtain ⟨o49, h53, h⟩ := bndE_some h
    replace h := sumE_some h
    rcases h with ⟨o50, rfl, h⟩ | ⟨o51, rfl, h⟩
    ·
     obtain rfl := Option.some.inj h
     exact (runB_arr mixed [(53, .el (TArg.D x29)), (60, .el (TValue.D x30)), (67, .bit false)] [⟨[1, 0, 1, 1, 1, 0, 0, 1, 0, 0, 1, 0, 1, 1, 1, 1, 1, 1], [.live [1, 5, 6, 8, 9, 10, 11, 12, 13, 14, 80], .keep [5, 6, 8, 9, 13, 63], .ren 63 14, .sort], .normal, (ref17_Hit_b7_O s1 s10 s11 s12 (decide (x29.kind = 2)) w5 w6 w8 w9 x29 [TSlot.mk x29.n x30] (Sum.inl o47)).2⟩, ⟨[1, 1, 1, 1, 1, 0, 0, 1, 0, 0, 1, 0, 1, 1, 1, 1, 1, 1], [.live [1, 5, 6, 8, 9, 10, 11, 12, 13, 14, 91], .keep [5, 6, 8, 9, 13, 14]], .normal, (ref17_Hit_b8_O s1 o47 s11 s12 (decide (x29.kind = 3)) w5 w6 w8 w9 x29 [TSlot.mk x29.n x30] (Sum.inl o50)).2⟩] [.live [1, 5, 6, 8, 9, 10, 11, 12], .keep [5, 6, 8, 9]] (ai (elem_map TArg.D h31) (ai (elem_map TValue.D h32) (ai (nc_ok TSlot.D [TSlot.mk x29.n x30]) (ai h33 (ai (ref17_Hit_b7_ok rd s1 s10 s11 s12 (decide (x29.kind = 2)) w5 w6 w8 w9 x29 [TSlot.mk x29.n x30] (Sum.inl o47) h52) (ai (ref17_Hit_b8_ok rd s1 o47 s11 s12 (decide (x29.kind = 3)) w5 w6 w8 w9 x29 [TSlot.mk x29.n x30] (Sum.inl o50) h53) (ti))))))) (by kernel_rfl)).lp
    ·
     obtain rfl := Option.some.inj h
     exact (runB_arr mixed [(53, .el (TArg.D x29)), (60, .el (TValue.D x30)), (67, .bit false)] [⟨[1, 0, 1, 1, 1, 0, 0, 1, 0, 0, 1, 0, 1, 1, 1, 1, 1, 1], [.live [1, 5, 6, 8, 9, 10, 11, 12, 13, 14, 80], .keep [5, 6, 8, 9, 13, 63], .ren 63 14, .sort], .normal, (ref17_Hit_b7_O s1 s10 s11 s12 (decide (x29.kind = 2)) w5 w6 w8 w9 x29 [TSlot.mk x29.n x30] (Sum.inl o47)).2⟩, ⟨[1, 1, 1, 1, 1, 0, 0, 1, 0, 0, 1, 0, 1, 1, 1, 1, 1, 1], [.live [1, 5, 6, 8, 9, 10, 11, 12, 13, 14, 91], .keep [5, 6, 8, 9, 13, 14]], .ret, (ref17_Hit_b8_O s1 o47 s11 s12 (decide (x29.kind = 3)) w5 w6 w8 w9 x29 [TSlot.mk x29.n x30] (Sum.inr o51)).2⟩] [.live [6, 7], .keep [6]] (ai (elem_map TArg.D h31) (ai (elem_map TValue.D h32) (ai (nc_ok TSlot.D [TSlot.mk x29.n x30]) (ai h33 (ai (ref17_Hit_b7_ok rd s1 s10 s11 s12 (decide (x29.kind = 2)) w5 w6 w8 w9 x29 [TSlot.mk x29.n x30] (Sum.inl o47) h52) (ai (ref17_Hit_b8_ok rd s1 o47 s11 s12 (decide (x29.kind = 3)) w5 w6 w8 w9 x29 [TSlot.mk x29.n x30] (Sum.inr o51) h53) (ti))))))) (by kernel_rfl)).lp
   ·
    obtain rfl := Option.some.inj h
    exact (runB_arr mixed [(53, .el (TArg.D x29)), (60, .el (TValue.D x30)), (67, .bit false)] [⟨[1, 0, 1, 1, 1, 0, 0, 1, 0, 0, 1, 0, 1, 1, 1, 1, 1, 1], [.live [1, 5, 6, 8, 9, 10, 11, 12, 13, 14, 80], .keep [5, 6, 8, 9, 13, 63], .ren 63 14, .sort], .ret, (ref17_Hit_b7_O s1 s10 s11 s12 (decide (x29.kind = 2)) w5 w6 w8 w9 x29 [TSlot.mk x29.n x30] (Sum.inr o48)).2⟩] [.live [6, 7], .keep [6]] (ai (elem_map TArg.D h31) (ai (elem_map TValue.D h32) (ai (nc_ok TSlot.D [TSlot.mk x29.n x30]) (ai h33 (ai (ref17_Hit_b7_ok rd s1 s10 s11 s12 (decide (x29.kind = 2)) w5 w6 w8 w9 x29 [TSlot.mk x29.n x30] (Sum.inr o48) h52) (ti)))))) (by kernel_rfl)).lp
def ref17_Hit_l1_I (s1 : Int) (w5 : TEvent) (w6 : Int) (w8 : TSymbol) (w9 : THit) (s10 : List TSlot) (s11 : List TSlot) (s12 : Int) : St := ⟨sp 121 0 [(1, .d ((D.i .i64) s1)), (5, .box 5 0), (6, .box 6 0), (8, .box 8 0), (9, .box 9 0), (10, .d ((D.l TSlot.D) s10)), (11, .d ((D.l TSlot.D) s11)), (12, .d ((D.i .i64) s12))], [(5, .cells ((cellsA (TEvent.D w5)))), (6, .cells ([.d ((D.i .i64) w6), .nil, .nil])), (8, .cells ((cellsA (TSymbol.D w8)))), (9, .cells ((cellsA (THit.D w9))))], []⟩
def ref17_Hit_l1_O (s1 : Int) (w5 : TEvent) (w6 : Int) (w8 : TSymbol) (w9 : THit) (o : (List TSlot × List TSlot) ⊕ Unit) : Ex × St := match o with
  | .inl o => (.exit 0, ⟨sp 121 0 [(1, .d ((D.i .i64) s1)), (6, .box 6 0), (10, .d ((D.l TSlot.D) o.1)), (11, .d ((D.l TSlot.D) o.2))], [(6, .cells ([.d ((D.i .i64) w6), .nil, .nil]))], []⟩)
  | .inr o => (.ret, ⟨sp 121 0 [(6, .box 6 0), (7, .d (D.b false))], [(6, .cells ((cellsA (THit.D w9))))], []⟩)
theorem ref17_Hit_l1_rnd (rd : Option Nat) (s1 : Int) (w5 : TEvent) (w6 : Int) (w8 : TSymbol) (w9 : THit) (s10 : List TSlot) (s11 : List TSlot) (s12 : Int) (o : (List TSlot × List TSlot × Int) ⊕ ((List TSlot × List TSlot) ⊕ Unit)) (h : ref17_Hit_l1_s s1 w5 w6 w8 w9 s10 s11 s12 = some o) : Arr Try.prog rd (fbody Try.prog 58) (0 :: [0, 1, 0, 1, 1, 1, 1, 1, 1]) (ref17_Hit_l1_I s1 w5 w6 w8 w9 s10 s11 s12) (rR (fun s : List TSlot × List TSlot × Int => ref17_Hit_l1_I s1 w5 w6 w8 w9 s.1 s.2.1 s.2.2) (ref17_Hit_l1_O s1 w5 w6 w8 w9) o).1 (rR (fun s : List TSlot × List TSlot × Int => ref17_Hit_l1_I s1 w5 w6 w8 w9 s.1 s.2.1 s.2.2) (ref17_Hit_l1_O s1 w5 w6 w8 w9) o).2 := by
  unfold ref17_Hit_l1_s at h
  rcases iteE_some h with ⟨h30, h⟩ | ⟨h30, h⟩
  ·
   obtain ⟨o52, h54, h⟩ := bndE_some h
   replace h := sumE_some h
   rcases h with ⟨o53, rfl, h⟩ | ⟨o54, rfl, h⟩
   ·
    obtain rfl := Option.some.inj h
    exact runB_arr mixed [(46, .int (w8.args.length : Int)), (47, .bit true)] [⟨[0, 1, 0, 0, 1, 0, 1, 1, 1, 1, 1, 1], [.live [1, 5, 6, 8, 9, 10, 11, 12], .keep [5, 6, 8, 9]], .normal, (ref17_Hit_b6_O s1 s10 s11 s12 w5 w6 w8 w9 (Sum.inl o53)).2⟩] [.live [1, 5, 6, 8, 9, 10, 11, 12], .keep [5, 6, 8, 9]] (ai (len_map TArg.D w8.args) (ai h30 (ai (ref17_Hit_b6_ok rd s1 s10 s11 s12 w5 w6 w8 w9 (Sum.inl o53) h54) (ti)))) (by kernel_rfl)
   ·
    obtain rfl := Option.some.inj h
    exact runB_arr mixed [(46, .int (w8.args.length : Int)), (47, .bit true)] [⟨[0, 1, 0, 0, 1, 0, 1, 1, 1, 1, 1, 1], [.live [1, 5, 6, 8, 9, 10, 11, 12], .keep [5, 6, 8, 9]], .ret, (ref17_Hit_b6_O s1 s10 s11 s12 w5 w6 w8 w9 (Sum.inr o54)).2⟩] [.live [6, 7], .keep [6]] (ai (len_map TArg.D w8.args) (ai h30 (ai (ref17_Hit_b6_ok rd s1 s10 s11 s12 w5 w6 w8 w9 (Sum.inr o54) h54) (ti)))) (by kernel_rfl)
  ·
   obtain rfl := Option.some.inj h
   exact runB_arr mixed [(46, .int (w8.args.length : Int)), (47, .bit false)] [] [.live [1, 6, 10, 11], .keep [6]] (ai (len_map TArg.D w8.args) (ai h30 (ti))) (by kernel_rfl)
theorem ref17_Hit_l1_ok (rd : Option Nat) (s1 : Int) (w5 : TEvent) (w6 : Int) (w8 : TSymbol) (w9 : THit) (s10 : List TSlot) (s11 : List TSlot) (s12 : Int) (t : (List TSlot × List TSlot) ⊕ Unit) (h : ref17_Hit_l1 s1 w5 w6 w8 w9 s10 s11 s12 = some t) : LpOf Try.prog rd (fbody Try.prog 58) [0, 1, 0, 1, 1, 1, 1, 1, 1] (ref17_Hit_l1_I s1 w5 w6 w8 w9 s10 s11 s12) ((ref17_Hit_l1_O s1 w5 w6 w8 w9) t).1 ((ref17_Hit_l1_O s1 w5 w6 w8 w9) t).2 :=
  loopE_lpR (fun s : List TSlot × List TSlot × Int => ref17_Hit_l1_I s1 w5 w6 w8 w9 s.1 s.2.1 s.2.2) (ref17_Hit_l1_O s1 w5 w6 w8 w9) (by kernel_rfl) (fun t => isN_ne (by rcases t with (_ | _) <;> rfl)) (fun s o h => ref17_Hit_l1_rnd rd s1 w5 w6 w8 w9 s.1 s.2.1 s.2.2 o h) (s := (s10, s11, s12)) (t := t) h
theorem ref17_Hit_ok (a0 : TQea) (a1 : Int) (a2 : TEvent) (r : THit × Bool) (h : ref17_Hit a0 a1 a2 = some r) : ACall Try.prog 58 [.d (TQea.D a0), .d ((D.i .i64) a1), .d (TEvent.D a2)] [] (.tup [.d (THit.D r.1), .d (D.b r.2)]) [] := by
  unfold ref17_Hit at h
  obtain ⟨x1, h1, h⟩ := idxE_some h
  obtain ⟨x2, h2, h⟩ := idxE_some h
  rcases iteE_some h with ⟨h3, h⟩ | ⟨h3, h⟩
  ·
   obtain rfl := Option.some.inj h
   exact runF_call mixed [(20, .el (TSymbol.D x1)), (27, .el (TDecl.D x2)), (33, .bit true)] [] [] (ai (elem_map TSymbol.D h1) (ai (elem_map TDecl.D h2) (ai h3 (ti)))) (by kernel_rfl)
  ·
   rcases iteE_some h with ⟨h4, h⟩ | ⟨h4, h⟩
   ·
    obtain rfl := Option.some.inj h
    exact runF_call mixed [(20, .el (TSymbol.D x1)), (27, .el (TDecl.D x2)), (33, .bit false), (36, .int (x1.args.length : Int)), (39, .int (a2.args.length : Int)), (41, .bit true)] [] [] (ai (elem_map TSymbol.D h1) (ai (elem_map TDecl.D h2) (ai h3 (ai (len_map TArg.D x1.args) (ai (len_map TValue.D a2.args) (ai h4 (ti))))))) (by kernel_rfl)
   ·
    obtain ⟨o55, h55, h⟩ := bndE_some h
    replace h := sumE_some h
    rcases h with ⟨o56, rfl, h⟩ | ⟨o57, rfl, h⟩
    ·
     obtain rfl := Option.some.inj h
     exact runF_call mixed [(20, .el (TSymbol.D x1)), (27, .el (TDecl.D x2)), (33, .bit false), (36, .int (x1.args.length : Int)), (39, .int (a2.args.length : Int)), (41, .bit false)] [⟨[0, 1, 0, 1, 1, 1, 1, 1, 1], [.look 10, .look 11, .live [1, 5, 6, 8, 9, 10, 11, 12], .keep [5, 6, 8, 9]], .exit 0, (ref17_Hit_l1_O a1 a2 0 x1 (THit.mk 0 ([] : List TSlot) ([] : List TSlot)) (Sum.inl o56)).2⟩] [] (ai (elem_map TSymbol.D h1) (ai (elem_map TDecl.D h2) (ai h3 (ai (len_map TArg.D x1.args) (ai (len_map TValue.D a2.args) (ai h4 (ai (ref17_Hit_l1_ok none a1 a2 0 x1 (THit.mk 0 ([] : List TSlot) ([] : List TSlot)) ([] : List TSlot) ([] : List TSlot) 0 (Sum.inl o56) h55) (ti)))))))) (by kernel_rfl)
    ·
     obtain rfl := Option.some.inj h
     exact runF_call mixed [(20, .el (TSymbol.D x1)), (27, .el (TDecl.D x2)), (33, .bit false), (36, .int (x1.args.length : Int)), (39, .int (a2.args.length : Int)), (41, .bit false)] [⟨[0, 1, 0, 1, 1, 1, 1, 1, 1], [.look 10, .look 11, .live [1, 5, 6, 8, 9, 10, 11, 12], .keep [5, 6, 8, 9]], .ret, (ref17_Hit_l1_O a1 a2 0 x1 (THit.mk 0 ([] : List TSlot) ([] : List TSlot)) (Sum.inr o57)).2⟩] [] (ai (elem_map TSymbol.D h1) (ai (elem_map TDecl.D h2) (ai h3 (ai (len_map TArg.D x1.args) (ai (len_map TValue.D a2.args) (ai h4 (ai (ref17_Hit_l1_ok none a1 a2 0 x1 (THit.mk 0 ([] : List TSlot) ([] : List TSlot)) ([] : List TSlot) ([] : List TSlot) 0 (Sum.inr o57) h55) (ti)))))))) (by kernel_rfl)
def ref17_All_b5_I (s6 : Int) (s23 : Bool) (w2 : TQea) (w3 : TEvent) (w5 : List THit) (w7 : THit) : St := ⟨sp 29 0 [(2, .box 2 0), (3, .box 3 0), (5, .row 5), (6, .d ((D.i .i64) s6)), (7, .box 7 0), (23, .d (D.b s23))], [(2, .cells ((cellsA (TQea.D w2)))), (3, .cells ((cellsA (TEvent.D w3)))), (5, .row 57 3 (w5.map THit.D)), (7, .cells ((cellsA (THit.D w7))))], []⟩
def ref17_All_b5_O (s6 : Int) (s23 : Bool) (w2 : TQea) (w3 : TEvent) (w5 : List THit) (w7 : THit) (o : (List THit)) : Ex × St := (.normal, ⟨sp 29 0 [(2, .box 2 0), (3, .box 3 0), (5, .row 5), (6, .d ((D.i .i64) s6))], [(2, .cells ((cellsA (TQea.D w2)))), (3, .cells ((cellsA (TEvent.D w3)))), (5, .row 57 3 (o.map THit.D))], []⟩)
theorem ref17_All_b5_ok (rd : Option Nat) (s6 : Int) (s23 : Bool) (w2 : TQea) (w3 : TEvent) (w5 : List THit) (w7 : THit) (o : (List THit)) (h : ref17_All_b5 s6 s23 w2 w3 w5 w7 = some o) : LpOf Try.prog rd (fbody Try.prog 33) [1, 1, 0, 0, 1, 0, 0, 1, 0, 1, 1] (ref17_All_b5_I s6 s23 w2 w3 w5 w7) (ref17_All_b5_O s6 s23 w2 w3 w5 w7 o).1 (ref17_All_b5_O s6 s23 w2 w3 w5 w7 o).2 := by
  unfold ref17_All_b5 at h
  cases s23 with
  | true =>
   replace h := iteT h
   obtain ⟨h10, h⟩ := chkE_some h
   obtain rfl := Option.some.inj h
   exact (runB_arr mixed [(27, .sl ((w5 ++ [w7]).map THit.D))] [] [.live [2, 3, 5, 6], .keep [2, 3, 27], .ren 27 5, .sort] (ai (nc_ok THit.D [w7]) (ai (nc_ok THit.D [w7]) (ai (fit_map THit.D h10) (ai (app_map THit.D w5 [w7]) (ti))))) (by kernel_rfl)).lp
  | false =>
   replace h := iteF h
   obtain rfl := Option.some.inj h
   exact (runB_arr mixed [] [] [.live [2, 3, 5, 6], .keep [2, 3, 5]] (ti) (by kernel_rfl)).lp
def ref17_All_b4_I (s6 : Int) (w2 : TQea) (w3 : TEvent) (w5 : List THit) : St := ⟨sp 29 0 [(2, .box 2 0), (3, .box 3 0), (5, .row 5), (6, .d ((D.i .i64) s6))], [(2, .cells ((cellsA (TQea.D w2)))), (3, .cells ((cellsA (TEvent.D w3)))), (5, .row 57 3 (w5.map THit.D))], []⟩
def ref17_All_b4_O (s6 : Int) (w2 : TQea) (w3 : TEvent) (w5 : List THit) (o : (List THit)) : Ex × St := (.normal, ⟨sp 29 0 [(2, .box 2 0), (3, .box 3 0), (5, .row 5), (6, .d ((D.i .i64) s6))], [(2, .cells ((cellsA (TQea.D w2)))), (3, .cells ((cellsA (TEvent.D w3)))), (5, .row 57 3 (o.map THit.D))], []⟩)
theorem ref17_All_b4_ok (rd : Option Nat) (s6 : Int) (w2 : TQea) (w3 : TEvent) (w5 : List THit) (o : (List THit)) (h : ref17_All_b4 s6 w2 w3 w5 = some o) : LpOf Try.prog rd (fbody Try.prog 33) [0, 1, 0, 0, 1, 0, 1, 1] (ref17_All_b4_I s6 w2 w3 w5) (ref17_All_b4_O s6 w2 w3 w5 o).1 (ref17_All_b4_O s6 w2 w3 w5 o).2 := by
  unfold ref17_All_b4 at h
  obtain ⟨r4, h8, h⟩ := bndE_some h
  obtain ⟨o5, h11, h⟩ := bndE_some h
  obtain rfl := Option.some.inj h
  exact (runB_arr mixed [(20, .ret (.tup [.d (THit.D r4.1), .d (D.b r4.2)]))] [⟨[1, 1, 0, 0, 1, 0, 0, 1, 0, 1, 1], [.live [2, 3, 5, 6, 7, 23], .keep [2, 3, 5, 7]], .normal, (ref17_All_b5_O s6 r4.2 w2 w3 w5 r4.1 o5).2⟩] [.live [2, 3, 5, 6], .keep [2, 3, 5]] (ai (ref17_Hit_ok w2 s6 w3 r4 h8) (ai (ref17_All_b5_ok rd s6 r4.2 w2 w3 w5 r4.1 o5 h11) (ti))) (by kernel_rfl)).lp
def ref17_All_l1_I (w2 : TQea) (w3 : TEvent) (s6 : Int) (w5 : List THit) : St := ⟨sp 29 0 [(2, .box 2 0), (3, .box 3 0), (5, .row 5), (6, .d ((D.i .i64) s6))], [(2, .cells ((cellsA (TQea.D w2)))), (3, .cells ((cellsA (TEvent.D w3)))), (5, .row 57 3 (w5.map THit.D))], []⟩
def ref17_All_l1_O (w2 : TQea) (w3 : TEvent) (o : (List THit)) : Ex × St := (.exit 0, ⟨sp 29 0 [(5, .row 5)], [(5, .row 57 3 (o.map THit.D))], []⟩)
theorem ref17_All_l1_rnd (rd : Option Nat) (w2 : TQea) (w3 : TEvent) (s6 : Int) (w5 : List THit) (o : (Int × List THit) ⊕ ((List THit))) (h : ref17_All_l1_s w2 w3 s6 w5 = some o) : Arr Try.prog rd (fbody Try.prog 33) (0 :: [0, 1, 0, 1, 1]) (ref17_All_l1_I w2 w3 s6 w5) (rR (fun s : Int × List THit => ref17_All_l1_I w2 w3 s.1 s.2) (ref17_All_l1_O w2 w3) o).1 (rR (fun s : Int × List THit => ref17_All_l1_I w2 w3 s.1 s.2) (ref17_All_l1_O w2 w3) o).2 := by
  unfold ref17_All_l1_s at h
  rcases iteE_some h with ⟨h7, h⟩ | ⟨h7, h⟩
  ·
   obtain ⟨o6, h12, h⟩ := bndE_some h
   obtain rfl := Option.some.inj h
   exact runB_arr mixed [(12, .int (w2.symbols.length : Int)), (13, .bit true)] [⟨[0, 1, 0, 0, 1, 0, 1, 1], [.live [2, 3, 5, 6], .keep [2, 3, 5]], .normal, (ref17_All_b4_O s6 w2 w3 w5 o6).2⟩] [.live [2, 3, 5, 6], .keep [2, 3, 5]] (ai (len_map TSymbol.D w2.symbols) (ai h7 (ai (ref17_All_b4_ok rd s6 w2 w3 w5 o6 h12) (ti)))) (by kernel_rfl)
  ·
   obtain rfl := Option.some.inj h
   exact runB_arr mixed [(12, .int (w2.symbols.length : Int)), (13, .bit false)] [] [.live [5], .keep [5]] (ai (len_map TSymbol.D w2.symbols) (ai h7 (ti))) (by kernel_rfl)
theorem ref17_All_l1_ok (rd : Option Nat) (w2 : TQea) (w3 : TEvent) (s6 : Int) (w5 : List THit) (t : (List THit)) (h : ref17_All_l1 w2 w3 s6 w5 = some t) : LpOf Try.prog rd (fbody Try.prog 33) [0, 1, 0, 1, 1] (ref17_All_l1_I w2 w3 s6 w5) ((ref17_All_l1_O w2 w3) t).1 ((ref17_All_l1_O w2 w3) t).2 :=
  loopE_lpR (fun s : Int × List THit => ref17_All_l1_I w2 w3 s.1 s.2) (ref17_All_l1_O w2 w3) (by kernel_rfl) (fun t => isN_ne (by rfl)) (fun s o h => ref17_All_l1_rnd rd w2 w3 s.1 s.2 o h) (s := (s6, w5)) (t := t) h
theorem ref17_All_ok (a0 : TQea) (a1 : TEvent) (r : List THit) (h : ref17_All a0 a1 = some r) : ACall Try.prog 33 [.d (TQea.D a0), .d (TEvent.D a1)] [] (.d ((D.l THit.D) r)) [] := by
  unfold ref17_All at h
  obtain ⟨o7, h13, h⟩ := bndE_some h
  obtain rfl := Option.some.inj h
  exact runF_call mixed [] [⟨[0, 1, 0, 1, 1], [.live [2, 3, 5, 6], .keep [2, 3], .nil 5 5 57 3, .sort], .exit 0, (ref17_All_l1_O a0 a1 o7).2⟩] [] (ai (ref17_All_l1_ok none a0 a1 0 ([] : List THit) o7 h13) (ti)) (by kernel_rfl)
theorem law17_hits_ok (a0 : TQea) (a1 : TEvent) (r : List THit) (h : law17_hits a0 a1 = some r) : ACall Try.prog 12 [.d (TQea.D a0), .d (TEvent.D a1)] [] (.d ((D.l THit.D) r)) [] := by
  unfold law17_hits at h
  obtain ⟨r1, h1, h⟩ := bndE_some h
  rcases iteE_some h with ⟨h2, h⟩ | ⟨h2, h⟩
  ·
   obtain rfl := Option.some.inj h
   exact runF_call mixed [(8, .ret (.d (D.b r1))), (9, .bit true)] [] [] (ai (ref08_Right_ok a0.decls a1 r1 h1) (ai h2 (ti))) (by kernel_rfl)
  ·
   obtain ⟨r2, h3, h⟩ := bndE_some h
   obtain rfl := Option.some.inj h
   exact runF_call mixed [(8, .ret (.d (D.b r1))), (9, .bit false), (12, .ret (.d ((D.l THit.D) r2)))] [] [] (ai (ref08_Right_ok a0.decls a1 r1 h1) (ai h2 (ai (ref17_All_ok a0 a1 r2 h3) (ti)))) (by kernel_rfl)
theorem match_hits_ok (a0 : TQea) (a1 : TEvent) (r : TQea × TEvent) (h : match_hits a0 a1 = some r) : ACall Try.prog 39 [.d (TQea.D a0), .d (TEvent.D a1)] [] (.clo (.func 60) [] [.eptr (D.cells (TQea.D r.1)), .eptr (D.cells (TEvent.D r.2))]) [] := by
  unfold match_hits at h
  obtain rfl := Option.some.inj h
  exact runF_call mixed [(2, .frz), (3, .frz)] [] [] (ti) (by kernel_rfl)
def match_hits_1_enc (x : THit) : List A := [.d (THit.D x)]
def match_hits_1_l1_I {φ : Type} (l : Nat) (F : φ → Bx) (s1 : TQea) (s2 : TEvent) (s14 : Int) (f0 : φ) (s15 : Int) : St := ⟨sp 33 0 [(0, .d (.v (.func (.yield l) #[] #[]))), (1, .eptr (D.cells (TQea.D s1))), (2, .eptr (D.cells (TEvent.D s2))), (14, .d ((D.i .i64) s14)), (15, .d ((D.i .i64) s15))], [], (F f0)⟩
def match_hits_1_l1_O {φ : Type} (l : Nat) (F : φ → Bx) (s1 : TQea) (s2 : TEvent) (s14 : Int) (o : φ ⊕ φ) : Ex × St := match o with
  | .inl o => (.exit 0, ⟨sp 33 0 [], [], (F o)⟩)
  | .inr o => (.ret, ⟨sp 33 0 [], [], (F o)⟩)
theorem match_hits_1_l1_rnd (rd : Option Nat) {φ : Type} (step : φ → THit → Option (φ × Bool)) (l : Nat) (F : φ → Bx) (hF : ∀ f, Far (F f)) (hN : ∀ f f', names (F f) = names (F f')) (hY : ∀ f x r, step f x = some r → AYield Try.prog l (match_hits_1_enc x) (F f) (.d (D.b r.2)) (F r.1)) (s1 : TQea) (s2 : TEvent) (s14 : Int) (f0 : φ) (s15 : Int) (o : (φ × Int) ⊕ (φ ⊕ φ)) (h : match_hits_1_l1_s step s1 s2 s14 f0 s15 = some o) : Arr Try.prog rd (fbody Try.prog 60) (0 :: [0, 1, 1]) (match_hits_1_l1_I l F s1 s2 s14 f0 s15) (rR (fun s : φ × Int => match_hits_1_l1_I l F s1 s2 s14 s.1 s.2) (match_hits_1_l1_O l F s1 s2 s14) o).1 (rR (fun s : φ × Int => match_hits_1_l1_I l F s1 s2 s14 s.1 s.2) (match_hits_1_l1_O l F s1 s2 s14) o).2 := by
  unfold match_hits_1_l1_s at h
  rcases iteE_some h with ⟨h3, h⟩ | ⟨h3, h⟩
  ·
   obtain ⟨r2, h4, h⟩ := bndE_some h
   rcases iteE_some h with ⟨h5, h⟩ | ⟨h5, h⟩
   ·
    rcases yldE_some h with ⟨f3, h6, h⟩ | ⟨f4, h7, h⟩
    ·
     obtain rfl := Option.some.inj h
     exact runB_arr mixed [(16, .bit true), (22, .ret (.tup [.d (THit.D r2.1), .d (D.b r2.2)])), (26, .bit true), (29, .own false (.d (D.b true)) [] (F f3))] [] [.live [0, 1, 2, 14, 15], .keep []] (ai h3 (ai (match_one_ok s1 s15 s2 r2 h4) (ai h5 (ai (hY f0 r2.1 (f3, true) h6) (ai (Or.inr ⟨hN _ _, hF _⟩ : F f3 = F f0 ∨ (names (F f3) = names (F f0) ∧ Far (F f3))) (ti)))))) (by kernel_rfl)
    ·
     obtain rfl := Option.some.inj h
     exact runB_arr mixed [(16, .bit true), (22, .ret (.tup [.d (THit.D r2.1), .d (D.b r2.2)])), (26, .bit true), (29, .own false (.d (D.b false)) [] (F f4))] [] [.live [], .keep []] (ai h3 (ai (match_one_ok s1 s15 s2 r2 h4) (ai h5 (ai (hY f0 r2.1 (f4, false) h7) (ai (Or.inr ⟨hN _ _, hF _⟩ : F f4 = F f0 ∨ (names (F f4) = names (F f0) ∧ Far (F f4))) (ti)))))) (by kernel_rfl)
   ·
    obtain rfl := Option.some.inj h
    exact runB_arr mixed [(16, .bit true), (22, .ret (.tup [.d (THit.D r2.1), .d (D.b r2.2)])), (26, .bit false)] [] [.live [0, 1, 2, 14, 15], .keep []] (ai h3 (ai (match_one_ok s1 s15 s2 r2 h4) (ai h5 (ti)))) (by kernel_rfl)
  ·
   obtain rfl := Option.some.inj h
   exact runB_arr mixed [(16, .bit false)] [] [.live [], .keep []] (ai h3 (ti)) (by kernel_rfl)
theorem match_hits_1_l1_ok (rd : Option Nat) {φ : Type} (step : φ → THit → Option (φ × Bool)) (l : Nat) (F : φ → Bx) (hF : ∀ f, Far (F f)) (hN : ∀ f f', names (F f) = names (F f')) (hY : ∀ f x r, step f x = some r → AYield Try.prog l (match_hits_1_enc x) (F f) (.d (D.b r.2)) (F r.1)) (s1 : TQea) (s2 : TEvent) (s14 : Int) (f0 : φ) (s15 : Int) (t : φ ⊕ φ) (h : match_hits_1_l1 step s1 s2 s14 f0 s15 = some t) : LpOf Try.prog rd (fbody Try.prog 60) [0, 1, 1] (match_hits_1_l1_I l F s1 s2 s14 f0 s15) ((match_hits_1_l1_O l F s1 s2 s14) t).1 ((match_hits_1_l1_O l F s1 s2 s14) t).2 :=
  loopE_lpR (fun s : φ × Int => match_hits_1_l1_I l F s1 s2 s14 s.1 s.2) (match_hits_1_l1_O l F s1 s2 s14) (by kernel_rfl) (fun t => isN_ne (by rcases t with (_ | _) <;> rfl)) (fun s o h => match_hits_1_l1_rnd rd step l F hF hN hY s1 s2 s14 s.1 s.2 o h) (s := (f0, s15)) (t := t) h
theorem match_hits_1_ok {φ : Type} (step : φ → THit → Option (φ × Bool)) (a1 : TQea) (a2 : TEvent) (f0 : φ) (f1 : φ) (h : match_hits_1 step a1 a2 f0 = some f1) : AIt Try.prog 60 [.eptr (D.cells (TQea.D a1)), .eptr (D.cells (TEvent.D a2))] match_hits_1_enc step f0 f1 := by
  intro l F hF hN hcl hY
  refine ⟨.tup [], ?_⟩
  unfold match_hits_1 at h
  obtain ⟨r1, h1, h⟩ := bndE_some h
  rcases iteE_some h with ⟨h2, h⟩ | ⟨h2, h⟩
  ·
   obtain rfl := Option.some.inj h
   exact runI_call mixed [(10, .ret (.d (D.b r1))), (11, .bit true)] [] [] (hF _) (hcl _) (ai (event_Right_ok a1.decls a2 r1 h1) (ai h2 (ti))) (by kernel_rfl)
  ·
   obtain ⟨o5, h8, h⟩ := bndE_some h
   replace h := sumE_some h
   rcases h with ⟨o6, rfl, h⟩ | ⟨o7, rfl, h⟩
   ·
    obtain rfl := Option.some.inj h
    exact runI_call mixed [(10, .ret (.d (D.b r1))), (11, .bit false), (14, .int (a1.symbols.length : Int))] [⟨[0, 1, 1], [.live [0, 1, 2, 14, 15], .keep []], .exit 0, (match_hits_1_l1_O l F a1 a2 (a1.symbols.length : Int) (Sum.inl o6)).2⟩] [] (hF _) (hcl _) (ai (event_Right_ok a1.decls a2 r1 h1) (ai h2 (ai (len_map TSymbol.D a1.symbols) (ai (match_hits_1_l1_ok none step l F hF hN hY a1 a2 (a1.symbols.length : Int) f0 0 (Sum.inl o6) h8) (ti))))) (by kernel_rfl)
   ·
    obtain rfl := Option.some.inj h
    exact runI_call mixed [(10, .ret (.d (D.b r1))), (11, .bit false), (14, .int (a1.symbols.length : Int))] [⟨[0, 1, 1], [.live [0, 1, 2, 14, 15], .keep []], .ret, (match_hits_1_l1_O l F a1 a2 (a1.symbols.length : Int) (Sum.inr o7)).2⟩] [] (hF _) (hcl _) (ai (event_Right_ok a1.decls a2 r1 h1) (ai h2 (ai (len_map TSymbol.D a1.symbols) (ai (match_hits_1_l1_ok none step l F hF hN hY a1 a2 (a1.symbols.length : Int) f0 0 (Sum.inr o7) h8) (ti))))) (by kernel_rfl)
def slices_AppendSeq_Hit_Hit_b4_I (uz : List Value) (s6_1 : TQea) (s6_2 : TEvent) (s7 : THit) (w600 : List THit) (w998_1 : TQea) (w998_2 : TEvent) : St := ⟨sp 13 0 [(2, .box 2 0), (6, .clo (.func 60) [] [.eptr (D.cells (TQea.D s6_1)), .eptr (D.cells (TEvent.D s6_2))]), (7, .d (THit.D s7))], [(2, .cells ([.row 600])), (600, .row 57 3 (w600.map THit.D)), (998, .vals (sp 13 0 [(2, .box 2 0), (6, .clo (.func 60) [] [.eptr (D.cells (TQea.D w998_1)), .eptr (D.cells (TEvent.D w998_2))])]) uz)], []⟩
def slices_AppendSeq_Hit_Hit_b4_O (uz : List Value) (s6_1 : TQea) (s6_2 : TEvent) (s7 : THit) (w600 : List THit) (w998_1 : TQea) (w998_2 : TEvent) (o : Unit) : Ex × St := (.normal, ⟨sp 13 0 [(2, .box 2 0), (5, .box 5 0), (6, .clo (.func 60) [] [.eptr (D.cells (TQea.D s6_1)), .eptr (D.cells (TEvent.D s6_2))])], [(2, .cells ([.row 600])), (5, .cells ((cellsA (THit.D s7)))), (600, .row 57 3 (w600.map THit.D)), (998, .vals (sp 13 0 [(2, .box 2 0), (6, .clo (.func 60) [] [.eptr (D.cells (TQea.D w998_1)), .eptr (D.cells (TEvent.D w998_2))])]) uz)], []⟩)
theorem slices_AppendSeq_Hit_Hit_b4_ok (rd : Option Nat) (uz : List Value) (s6_1 : TQea) (s6_2 : TEvent) (s7 : THit) (w600 : List THit) (w998_1 : TQea) (w998_2 : TEvent) (o : Unit) (h : slices_AppendSeq_Hit_Hit_b4 s6_1 s6_2 s7 w600 w998_1 w998_2 = some o) : LpOf Try.prog rd (fbody Try.prog 59) [0, 0, 1, 0, 1] (slices_AppendSeq_Hit_Hit_b4_I uz s6_1 s6_2 s7 w600 w998_1 w998_2) (slices_AppendSeq_Hit_Hit_b4_O uz s6_1 s6_2 s7 w600 w998_1 w998_2 o).1 (slices_AppendSeq_Hit_Hit_b4_O uz s6_1 s6_2 s7 w600 w998_1 w998_2 o).2 := by
  unfold slices_AppendSeq_Hit_Hit_b4 at h
  obtain rfl := Option.some.inj h
  exact (runB_arr mixed [] [] [.live [2, 5, 6], .keep [2, 5, 600, 998]] (ti) (by kernel_rfl)).lp
def slices_AppendSeq_Hit_Hit_b6_I (uz : List Value) (s6_1 : TQea) (s6_2 : TEvent) (w5 : THit) (w600 : List THit) (w998_1 : TQea) (w998_2 : TEvent) : St := ⟨sp 13 0 [(2, .box 2 0), (5, .box 5 0), (6, .clo (.func 60) [] [.eptr (D.cells (TQea.D s6_1)), .eptr (D.cells (TEvent.D s6_2))])], [(2, .cells ([.row 600])), (5, .cells ((cellsA (THit.D w5)))), (600, .row 57 3 (w600.map THit.D)), (998, .vals (sp 13 0 [(2, .box 2 0), (6, .clo (.func 60) [] [.eptr (D.cells (TQea.D w998_1)), .eptr (D.cells (TEvent.D w998_2))])]) uz)], []⟩
def slices_AppendSeq_Hit_Hit_b6_O (uz : List Value) (s6_1 : TQea) (s6_2 : TEvent) (w5 : THit) (w600 : List THit) (w998_1 : TQea) (w998_2 : TEvent) (o : Unit) : Ex × St := (.normal, ⟨sp 13 0 [], [(2, .cells ([.row 600])), (600, .row 57 3 ((w600 ++ [w5]).map THit.D)), (998, .vals (sp 13 0 [(2, .box 2 0), (6, .clo (.func 60) [] [.eptr (D.cells (TQea.D w998_1)), .eptr (D.cells (TEvent.D w998_2))])]) uz)], []⟩)
theorem slices_AppendSeq_Hit_Hit_b6_ok (rd : Option Nat) (uz : List Value) (s6_1 : TQea) (s6_2 : TEvent) (w5 : THit) (w600 : List THit) (w998_1 : TQea) (w998_2 : TEvent) (o : Unit) (h : slices_AppendSeq_Hit_Hit_b6 s6_1 s6_2 w5 w600 w998_1 w998_2 = some o) : LpOf Try.prog rd (fbody Try.prog 59) [1, 0, 1, 0, 1] (slices_AppendSeq_Hit_Hit_b6_I uz s6_1 s6_2 w5 w600 w998_1 w998_2) (slices_AppendSeq_Hit_Hit_b6_O uz s6_1 s6_2 w5 w600 w998_1 w998_2 o).1 (slices_AppendSeq_Hit_Hit_b6_O uz s6_1 s6_2 w5 w600 w998_1 w998_2 o).2 := by
  unfold slices_AppendSeq_Hit_Hit_b6 at h
  obtain ⟨h3, h⟩ := chkE_some h
  obtain rfl := Option.some.inj h
  exact (runB_arr mixed [(11, .sl ((w600 ++ [w5]).map THit.D))] [] [.live [], .keep [2, 11, 998], .ren 11 600, .sort] (ai (nc_ok THit.D [w5]) (ai (nc_ok THit.D [w5]) (ai (fit_map THit.D h3) (ai (app_map THit.D w600 [w5]) (ti))))) (by kernel_rfl)).lp
def slices_AppendSeq_Hit_Hit_r1_E (s6_1 : TQea) (s6_2 : TEvent) : List A := sp 13 0 [(2, .box 2 0), (6, .clo (.func 60) [] [.eptr (D.cells (TQea.D s6_1)), .eptr (D.cells (TEvent.D s6_2))])]
def slices_AppendSeq_Hit_Hit_r1_BL (s6_1 : TQea) (s6_2 : TEvent) (s : List THit) : Bx := [(2, .cells ([.row 600])), (600, .row 57 3 (s.map THit.D))]
def slices_AppendSeq_Hit_Hit_r1_BT (s6_1 : TQea) (s6_2 : TEvent) (t : Empty) : Bx := t.elim
def slices_AppendSeq_Hit_Hit_r1_X (t : Empty) : Ex := t.elim
def slices_AppendSeq_Hit_Hit_r1_O (s6_1 : TQea) (s6_2 : TEvent) (o : (List THit) ⊕ (Empty)) : Ex × St := (rex slices_AppendSeq_Hit_Hit_r1_X o, ⟨slices_AppendSeq_Hit_Hit_r1_E s6_1 s6_2, rbx (slices_AppendSeq_Hit_Hit_r1_BL s6_1 s6_2) (slices_AppendSeq_Hit_Hit_r1_BT s6_1 s6_2) o, []⟩)
theorem slices_AppendSeq_Hit_Hit_r1_rnd (s6_1 : TQea) (s6_2 : TEvent) (s : List THit) (x : THit) (o : (List THit) ⊕ (Empty)) (h : slices_AppendSeq_Hit_Hit_r1_rd s6_1 s6_2 s x = some o) (l : Nat) (uz : List Value) : ∃ M E1, LpOf Try.prog (some l) (fbody Try.prog 59) (0 :: [0, 1, 0, 1]) ⟨setPs (slices_AppendSeq_Hit_Hit_r1_E s6_1 s6_2) ((Array.toList #[7]).zip (match_hits_1_enc x)), slices_AppendSeq_Hit_Hit_r1_BL s6_1 s6_2 s ++ [(vn, .vals (slices_AppendSeq_Hit_Hit_r1_E s6_1 s6_2) uz)], []⟩ .normal M ∧
    LpOf Try.prog (some l) (fbody Try.prog 59) (1 :: [0, 1, 0, 1]) M (rex slices_AppendSeq_Hit_Hit_r1_X o) ⟨E1, rbx (slices_AppendSeq_Hit_Hit_r1_BL s6_1 s6_2) (slices_AppendSeq_Hit_Hit_r1_BT s6_1 s6_2) o ++ [(vn, .vals (slices_AppendSeq_Hit_Hit_r1_E s6_1 s6_2) uz)], []⟩ := by
  unfold slices_AppendSeq_Hit_Hit_r1_rd at h
  obtain ⟨o5, h5, h⟩ := bndE_some h
  obtain ⟨o6, h6, h⟩ := bndE_some h
  obtain rfl := Option.some.inj h
  exact ⟨(slices_AppendSeq_Hit_Hit_b4_O uz s6_1 s6_2 x s s6_1 s6_2 o5).2, sp 13 0 [], lp_wks (w := [.live [2, 6, 7], .keep [2, 600, 998]]) (s1 := slices_AppendSeq_Hit_Hit_b4_I uz s6_1 s6_2 x s s6_1 s6_2) (by kernel_rfl) (lp_cast (slices_AppendSeq_Hit_Hit_b4_ok (some l) uz s6_1 s6_2 x s s6_1 s6_2 o5 h5) rfl (by kernel_rfl) rfl), lp_wks (w := [.live [2, 5, 6], .keep [2, 5, 600, 998]]) (s1 := slices_AppendSeq_Hit_Hit_b6_I uz s6_1 s6_2 x s s6_1 s6_2) (by kernel_rfl) (lp_cast (slices_AppendSeq_Hit_Hit_b6_ok (some l) uz s6_1 s6_2 x s s6_1 s6_2 o6 h6) rfl (by kernel_rfl) (by kernel_rfl))⟩
theorem slices_AppendSeq_Hit_Hit_r1_ok (s6_1 : TQea) (s6_2 : TEvent) (s : List THit) (o : (List THit) ⊕ (Empty)) (h : match_hits_1 (stepOf (slices_AppendSeq_Hit_Hit_r1_rd s6_1 s6_2)) s6_1 s6_2 (.inl s) = some o) : LpOf Try.prog none (fbody Try.prog 59) [0, 1, 0, 1] ⟨slices_AppendSeq_Hit_Hit_r1_E s6_1 s6_2, slices_AppendSeq_Hit_Hit_r1_BL s6_1 s6_2 s, []⟩ (slices_AppendSeq_Hit_Hit_r1_O s6_1 s6_2 o).1 (slices_AppendSeq_Hit_Hit_r1_O s6_1 s6_2 o).2 :=
  range_ok (p := [0, 1, 0, 1]) (g := .tmp 6) (ps := #[7]) (assign := codeAt (fbody Try.prog 59) (0 :: [0, 1, 0, 1])) (body := codeAt (fbody Try.prog 59) (1 :: [0, 1, 0, 1])) (by kernel_rfl) (slices_AppendSeq_Hit_Hit_r1_BL s6_1 s6_2) (slices_AppendSeq_Hit_Hit_r1_BT s6_1 s6_2) slices_AppendSeq_Hit_Hit_r1_X match_hits_1_enc (slices_AppendSeq_Hit_Hit_r1_rd s6_1 s6_2) (gf := 60) (cs := [.eptr (D.cells (TQea.D s6_1)), .eptr (D.cells (TEvent.D s6_2))]) (by kernel_rfl) (by kernel_rfl) (by kernel_rfl) (fun x => ⟨by kernel_rfl, by kernel_rfl⟩) (fun s us => by kernel_rfl) (fun t us => t.elim) (fun s => rfl) (fun t => t.elim) (by kernel_rfl) (fun t => t.elim) (fun s x o h l us => slices_AppendSeq_Hit_Hit_r1_rnd s6_1 s6_2 s x o h l us) (match_hits_1_ok (stepOf (slices_AppendSeq_Hit_Hit_r1_rd s6_1 s6_2)) s6_1 s6_2 (.inl s) o h)
theorem slices_AppendSeq_Hit_Hit_ok (a1_1 : TQea) (a1_2 : TEvent) (r : List THit) (h : slices_AppendSeq_Hit_Hit a1_1 a1_2 = some r) : ACall Try.prog 59 [.nil, .clo (.func 60) [] [.eptr (D.cells (TQea.D a1_1)), .eptr (D.cells (TEvent.D a1_2))]] [] (.d ((D.l THit.D) r)) [] := by
  unfold slices_AppendSeq_Hit_Hit at h
  obtain ⟨o7, h4, h⟩ := bndE_some h
  replace h := sumE_some h
  rcases h with ⟨o8, rfl, h⟩ | ⟨o9, rfl, h⟩
  ·
   obtain rfl := Option.some.inj h
   exact runF_call mixed [] [⟨[0, 1, 0, 1], [.live [2, 6], .keep [2], .nilc 2 0 600 57 3, .frz 600, .sort], .normal, (slices_AppendSeq_Hit_Hit_r1_O a1_1 a1_2 (Sum.inl o8)).2⟩] [] (ai (slices_AppendSeq_Hit_Hit_r1_ok a1_1 a1_2 ([] : List THit) (Sum.inl o8) h4) (ti)) (by kernel_rfl)
  ·
   cases h
theorem slices_Collect_Hit_ok (a0_1 : TQea) (a0_2 : TEvent) (r : List THit) (h : slices_Collect_Hit a0_1 a0_2 = some r) : ACall Try.prog 38 [.clo (.func 60) [] [.eptr (D.cells (TQea.D a0_1)), .eptr (D.cells (TEvent.D a0_2))]] [] (.d ((D.l THit.D) r)) [] := by
  unfold slices_Collect_Hit at h
  obtain ⟨r1, h1, h⟩ := bndE_some h
  obtain rfl := Option.some.inj h
  exact runF_call mixed [(4, .cx true [] [] (.d ((D.l THit.D) r1)) [])] [] [] (ai (slices_AppendSeq_Hit_Hit_ok a0_1 a0_2 r1 h1) (ti)) (by kernel_rfl)
theorem match_All_ok (a0 : TQea) (a1 : TEvent) (r : List THit) (h : match_All a0 a1 = some r) : ACall Try.prog 19 [.d (TQea.D a0), .d (TEvent.D a1)] [] (.d ((D.l THit.D) r)) [] := by
  unfold match_All at h
  obtain ⟨r1, h1, h⟩ := bndE_some h
  obtain ⟨r2, h2, h⟩ := bndE_some h
  obtain rfl := Option.some.inj h
  exact runF_call mixed [(7, .ret (.clo (.func 60) [] [.eptr (D.cells (TQea.D r1.1)), .eptr (D.cells (TEvent.D r1.2))])), (8, .ret (.d ((D.l THit.D) r2)))] [] [] (ai (match_hits_ok a0 a1 r1 h1) (ai (slices_Collect_Hit_ok r1.1 r1.2 r2 h2) (ti))) (by kernel_rfl)
def ref05_Same_l1_I (s0 : List TSlot) (s1 : List TSlot) (s5 : Int) : St := ⟨sp 26 0 [(0, .d ((D.l TSlot.D) s0)), (1, .d ((D.l TSlot.D) s1)), (5, .d ((D.i .i64) s5))], [], []⟩
def ref05_Same_l1_O (s0 : List TSlot) (s1 : List TSlot) (o : Unit ⊕ Unit) : Ex × St := match o with
  | .inl o => (.exit 0, ⟨sp 26 0 [], [], []⟩)
  | .inr o => (.ret, ⟨sp 26 0 [(4, .d (D.b false))], [], []⟩)
theorem ref05_Same_l1_rnd (rd : Option Nat) (s0 : List TSlot) (s1 : List TSlot) (s5 : Int) (o : (Int) ⊕ (Unit ⊕ Unit)) (h : ref05_Same_l1_s s0 s1 s5 = some o) : Arr Try.prog rd (fbody Try.prog 24) (0 :: [0, 1, 0, 1, 1]) (ref05_Same_l1_I s0 s1 s5) (rR (fun s : Int => ref05_Same_l1_I s0 s1 s) (ref05_Same_l1_O s0 s1) o).1 (rR (fun s : Int => ref05_Same_l1_I s0 s1 s) (ref05_Same_l1_O s0 s1) o).2 := by
  unfold ref05_Same_l1_s at h
  rcases iteE_some h with ⟨h2, h⟩ | ⟨h2, h⟩
  ·
   obtain ⟨x1, h3, h⟩ := idxE_some h
   obtain ⟨x2, h4, h⟩ := idxE_some h
   rcases iteE_some h with ⟨h5, h⟩ | ⟨h5, h⟩
   ·
    obtain rfl := Option.some.inj h
    exact runB_arr mixed [(13, .int (s0.length : Int)), (14, .bit true), (19, .el (TSlot.D x1)), (23, .el (TSlot.D x2)), (25, .bit true)] [] [.live [4], .keep []] (ai (len_map TSlot.D s0) (ai h2 (ai (elem_map TSlot.D h3) (ai (elem_map TSlot.D h4) (ai h5 (ti)))))) (by kernel_rfl)
   ·
    obtain rfl := Option.some.inj h
    exact runB_arr mixed [(13, .int (s0.length : Int)), (14, .bit true), (19, .el (TSlot.D x1)), (23, .el (TSlot.D x2)), (25, .bit false)] [] [.live [0, 1, 5], .keep []] (ai (len_map TSlot.D s0) (ai h2 (ai (elem_map TSlot.D h3) (ai (elem_map TSlot.D h4) (ai h5 (ti)))))) (by kernel_rfl)
  ·
   obtain rfl := Option.some.inj h
   exact runB_arr mixed [(13, .int (s0.length : Int)), (14, .bit false)] [] [.live [], .keep []] (ai (len_map TSlot.D s0) (ai h2 (ti))) (by kernel_rfl)
theorem ref05_Same_l1_ok (rd : Option Nat) (s0 : List TSlot) (s1 : List TSlot) (s5 : Int) (t : Unit ⊕ Unit) (h : ref05_Same_l1 s0 s1 s5 = some t) : LpOf Try.prog rd (fbody Try.prog 24) [0, 1, 0, 1, 1] (ref05_Same_l1_I s0 s1 s5) ((ref05_Same_l1_O s0 s1) t).1 ((ref05_Same_l1_O s0 s1) t).2 :=
  loopE_lpR (fun s : Int => ref05_Same_l1_I s0 s1 s) (ref05_Same_l1_O s0 s1) (by kernel_rfl) (fun t => isN_ne (by rcases t with (_ | _) <;> rfl)) (fun s o h => ref05_Same_l1_rnd rd s0 s1 s o h) (s := s5) (t := t) h
theorem ref05_Same_ok (a0 : List TSlot) (a1 : List TSlot) (r : Bool) (h : ref05_Same a0 a1 = some r) : ACall Try.prog 24 [.d ((D.l TSlot.D) a0), .d ((D.l TSlot.D) a1)] [] (.d (D.b r)) [] := by
  unfold ref05_Same at h
  rcases iteE_some h with ⟨h1, h⟩ | ⟨h1, h⟩
  ·
   obtain rfl := Option.some.inj h
   exact runF_call mixed [(7, .int (a0.length : Int)), (9, .int (a1.length : Int)), (10, .bit true)] [] [] (ai (len_map TSlot.D a0) (ai (len_map TSlot.D a1) (ai h1 (ti)))) (by kernel_rfl)
  ·
   obtain ⟨o3, h6, h⟩ := bndE_some h
   replace h := sumE_some h
   rcases h with ⟨o4, rfl, h⟩ | ⟨o5, rfl, h⟩
   ·
    obtain rfl := Option.some.inj h
    exact runF_call mixed [(7, .int (a0.length : Int)), (9, .int (a1.length : Int)), (10, .bit false)] [⟨[0, 1, 0, 1, 1], [.live [0, 1, 5], .keep []], .exit 0, (ref05_Same_l1_O a0 a1 (Sum.inl o4)).2⟩] [] (ai (len_map TSlot.D a0) (ai (len_map TSlot.D a1) (ai h1 (ai (ref05_Same_l1_ok none a0 a1 0 (Sum.inl o4) h6) (ti))))) (by kernel_rfl)
   ·
    obtain rfl := Option.some.inj h
    exact runF_call mixed [(7, .int (a0.length : Int)), (9, .int (a1.length : Int)), (10, .bit false)] [⟨[0, 1, 0, 1, 1], [.live [0, 1, 5], .keep []], .ret, (ref05_Same_l1_O a0 a1 (Sum.inr o5)).2⟩] [] (ai (len_map TSlot.D a0) (ai (len_map TSlot.D a1) (ai h1 (ai (ref05_Same_l1_ok none a0 a1 0 (Sum.inr o5) h6) (ti))))) (by kernel_rfl)
def ref17_Same_l1_I (s0 : List THit) (s1 : List THit) (s5 : Int) : St := ⟨sp 56 0 [(0, .d ((D.l THit.D) s0)), (1, .d ((D.l THit.D) s1)), (5, .d ((D.i .i64) s5))], [], []⟩
def ref17_Same_l1_O (s0 : List THit) (s1 : List THit) (o : Unit ⊕ Unit) : Ex × St := match o with
  | .inl o => (.exit 0, ⟨sp 56 0 [], [], []⟩)
  | .inr o => (.ret, ⟨sp 56 0 [(4, .d (D.b false))], [], []⟩)
theorem ref17_Same_l1_rnd (rd : Option Nat) (s0 : List THit) (s1 : List THit) (s5 : Int) (o : (Int) ⊕ (Unit ⊕ Unit)) (h : ref17_Same_l1_s s0 s1 s5 = some o) : Arr Try.prog rd (fbody Try.prog 20) (0 :: [0, 1, 0, 1, 1]) (ref17_Same_l1_I s0 s1 s5) (rR (fun s : Int => ref17_Same_l1_I s0 s1 s) (ref17_Same_l1_O s0 s1) o).1 (rR (fun s : Int => ref17_Same_l1_I s0 s1 s) (ref17_Same_l1_O s0 s1) o).2 := by
  unfold ref17_Same_l1_s at h
  rcases iteE_some h with ⟨h2, h⟩ | ⟨h2, h⟩
  ·
   obtain ⟨x1, h3, h⟩ := idxE_some h
   obtain ⟨x2, h4, h⟩ := idxE_some h
   rcases iteE_some h with ⟨h5, h⟩ | ⟨h5, h⟩
   ·
    obtain rfl := Option.some.inj h
    exact runB_arr mixed [(13, .int (s0.length : Int)), (14, .bit true), (19, .el (THit.D x1)), (24, .el (THit.D x2)), (28, .bit true)] [] [.live [4], .keep []] (ai (len_map THit.D s0) (ai h2 (ai (elem_map THit.D h3) (ai (elem_map THit.D h4) (ai h5 (ti)))))) (by kernel_rfl)
   ·
    obtain ⟨x3, h6, h⟩ := idxE_some h
    obtain ⟨x4, h7, h⟩ := idxE_some h
    obtain ⟨r5, h8, h⟩ := bndE_some h
    rcases iteE_some h with ⟨h9, h⟩ | ⟨h9, h⟩
    ·
     obtain rfl := Option.some.inj h
     exact runB_arr mixed [(13, .int (s0.length : Int)), (14, .bit true), (19, .el (THit.D x1)), (24, .el (THit.D x2)), (28, .bit false), (31, .el (THit.D x3)), (36, .el (THit.D x4)), (39, .ret (.d (D.b r5))), (42, .bit true)] [] [.live [4], .keep []] (ai (len_map THit.D s0) (ai h2 (ai (elem_map THit.D h3) (ai (elem_map THit.D h4) (ai h5 (ai (elem_map THit.D h6) (ai (elem_map THit.D h7) (ai (ref05_Same_ok x3.bind x4.bind r5 h8) (ai h9 (ti)))))))))) (by kernel_rfl)
    ·
     obtain ⟨x6, h10, h⟩ := idxE_some h
     obtain ⟨x7, h11, h⟩ := idxE_some h
     obtain ⟨r8, h12, h⟩ := bndE_some h
     rcases iteE_some h with ⟨h13, h⟩ | ⟨h13, h⟩
     ·
      obtain rfl := Option.some.inj h
      exact runB_arr mixed [(13, .int (s0.length : Int)), (14, .bit true), (19, .el (THit.D x1)), (24, .el (THit.D x2)), (28, .bit false), (31, .el (THit.D x3)), (36, .el (THit.D x4)), (39, .ret (.d (D.b r5))), (42, .bit false), (45, .el (THit.D x6)), (50, .el (THit.D x7)), (53, .ret (.d (D.b r8))), (55, .bit true)] [] [.live [4], .keep []] (ai (len_map THit.D s0) (ai h2 (ai (elem_map THit.D h3) (ai (elem_map THit.D h4) (ai h5 (ai (elem_map THit.D h6) (ai (elem_map THit.D h7) (ai (ref05_Same_ok x3.bind x4.bind r5 h8) (ai h9 (ai (elem_map THit.D h10) (ai (elem_map THit.D h11) (ai (ref05_Same_ok x6.frees x7.frees r8 h12) (ai h13 (ti)))))))))))))) (by kernel_rfl)
     ·
      obtain rfl := Option.some.inj h
      exact runB_arr mixed [(13, .int (s0.length : Int)), (14, .bit true), (19, .el (THit.D x1)), (24, .el (THit.D x2)), (28, .bit false), (31, .el (THit.D x3)), (36, .el (THit.D x4)), (39, .ret (.d (D.b r5))), (42, .bit false), (45, .el (THit.D x6)), (50, .el (THit.D x7)), (53, .ret (.d (D.b r8))), (55, .bit false)] [] [.live [0, 1, 5], .keep []] (ai (len_map THit.D s0) (ai h2 (ai (elem_map THit.D h3) (ai (elem_map THit.D h4) (ai h5 (ai (elem_map THit.D h6) (ai (elem_map THit.D h7) (ai (ref05_Same_ok x3.bind x4.bind r5 h8) (ai h9 (ai (elem_map THit.D h10) (ai (elem_map THit.D h11) (ai (ref05_Same_ok x6.frees x7.frees r8 h12) (ai h13 (ti)))))))))))))) (by kernel_rfl)
  ·
   obtain rfl := Option.some.inj h
   exact runB_arr mixed [(13, .int (s0.length : Int)), (14, .bit false)] [] [.live [], .keep []] (ai (len_map THit.D s0) (ai h2 (ti))) (by kernel_rfl)
theorem ref17_Same_l1_ok (rd : Option Nat) (s0 : List THit) (s1 : List THit) (s5 : Int) (t : Unit ⊕ Unit) (h : ref17_Same_l1 s0 s1 s5 = some t) : LpOf Try.prog rd (fbody Try.prog 20) [0, 1, 0, 1, 1] (ref17_Same_l1_I s0 s1 s5) ((ref17_Same_l1_O s0 s1) t).1 ((ref17_Same_l1_O s0 s1) t).2 :=
  loopE_lpR (fun s : Int => ref17_Same_l1_I s0 s1 s) (ref17_Same_l1_O s0 s1) (by kernel_rfl) (fun t => isN_ne (by rcases t with (_ | _) <;> rfl)) (fun s o h => ref17_Same_l1_rnd rd s0 s1 s o h) (s := s5) (t := t) h
theorem ref17_Same_ok (a0 : List THit) (a1 : List THit) (r : Bool) (h : ref17_Same a0 a1 = some r) : ACall Try.prog 20 [.d ((D.l THit.D) a0), .d ((D.l THit.D) a1)] [] (.d (D.b r)) [] := by
  unfold ref17_Same at h
  rcases iteE_some h with ⟨h1, h⟩ | ⟨h1, h⟩
  ·
   obtain rfl := Option.some.inj h
   exact runF_call mixed [(7, .int (a0.length : Int)), (9, .int (a1.length : Int)), (10, .bit true)] [] [] (ai (len_map THit.D a0) (ai (len_map THit.D a1) (ai h1 (ti)))) (by kernel_rfl)
  ·
   obtain ⟨o9, h14, h⟩ := bndE_some h
   replace h := sumE_some h
   rcases h with ⟨o10, rfl, h⟩ | ⟨o11, rfl, h⟩
   ·
    obtain rfl := Option.some.inj h
    exact runF_call mixed [(7, .int (a0.length : Int)), (9, .int (a1.length : Int)), (10, .bit false)] [⟨[0, 1, 0, 1, 1], [.live [0, 1, 5], .keep []], .exit 0, (ref17_Same_l1_O a0 a1 (Sum.inl o10)).2⟩] [] (ai (len_map THit.D a0) (ai (len_map THit.D a1) (ai h1 (ai (ref17_Same_l1_ok none a0 a1 0 (Sum.inl o10) h14) (ti))))) (by kernel_rfl)
   ·
    obtain rfl := Option.some.inj h
    exact runF_call mixed [(7, .int (a0.length : Int)), (9, .int (a1.length : Int)), (10, .bit false)] [⟨[0, 1, 0, 1, 1], [.live [0, 1, 5], .keep []], .ret, (ref17_Same_l1_O a0 a1 (Sum.inr o11)).2⟩] [] (ai (len_map THit.D a0) (ai (len_map THit.D a1) (ai h1 (ai (ref17_Same_l1_ok none a0 a1 0 (Sum.inr o11) h14) (ti))))) (by kernel_rfl)
theorem binding_both_ok (a0 : List TSlot) (a1 : List TSlot) (r : List TSlot × List TSlot) (h : binding_both a0 a1 = some r) : ACall Try.prog 61 [.d ((D.l TSlot.D) a0), .d ((D.l TSlot.D) a1)] [] (.clo (.func 77) [] [.eptr (D.cells ((D.l TSlot.D) r.1)), .eptr (D.cells ((D.l TSlot.D) r.2))]) [] := by
  unfold binding_both at h
  obtain rfl := Option.some.inj h
  exact runF_call mixed [(2, .frz), (3, .frz)] [] [] (ti) (by kernel_rfl)
def binding_Get_l1_I (s1 : Int) (s8 : List TSlot) (s9 : Int) (w4 : TValue) (s10 : Int) : St := ⟨sp 22 0 [(1, .d ((D.i .i64) s1)), (4, .box 4 0), (8, .d ((D.l TSlot.D) s8)), (9, .d ((D.i .i64) s9)), (10, .d ((D.i .i64) s10))], [(4, .cells ((cellsA (TValue.D w4))))], []⟩
def binding_Get_l1_O (s1 : Int) (s8 : List TSlot) (s9 : Int) (w4 : TValue) (o : Unit ⊕ TValue) : Ex × St := match o with
  | .inl o => (.exit 0, ⟨sp 22 0 [(4, .box 4 0)], [(4, .cells ((cellsA (TValue.D w4))))], []⟩)
  | .inr o => (.ret, ⟨sp 22 0 [(4, .box 4 0), (5, .d (D.b true))], [(4, .cells ((cellsA (TValue.D o))))], []⟩)
theorem binding_Get_l1_rnd (rd : Option Nat) (s1 : Int) (s8 : List TSlot) (s9 : Int) (w4 : TValue) (s10 : Int) (o : (Int) ⊕ (Unit ⊕ TValue)) (h : binding_Get_l1_s s1 s8 s9 w4 s10 = some o) : Arr Try.prog rd (fbody Try.prog 78) (0 :: [0, 1, 0, 1]) (binding_Get_l1_I s1 s8 s9 w4 s10) (rR (fun s : Int => binding_Get_l1_I s1 s8 s9 w4 s) (binding_Get_l1_O s1 s8 s9 w4) o).1 (rR (fun s : Int => binding_Get_l1_I s1 s8 s9 w4 s) (binding_Get_l1_O s1 s8 s9 w4) o).2 := by
  unfold binding_Get_l1_s at h
  rcases iteE_some h with ⟨h1, h⟩ | ⟨h1, h⟩
  ·
   obtain ⟨x1, h2, h⟩ := idxE_some h
   rcases iteE_some h with ⟨h3, h⟩ | ⟨h3, h⟩
   ·
    obtain rfl := Option.some.inj h
    exact runB_arr mixed [(11, .bit true), (12, .el (TSlot.D x1)), (17, .bit true)] [] [.live [4, 5], .keep [4]] (ai h1 (ai (elem_map TSlot.D h2) (ai h3 (ti)))) (by kernel_rfl)
   ·
    obtain rfl := Option.some.inj h
    exact runB_arr mixed [(11, .bit true), (12, .el (TSlot.D x1)), (17, .bit false)] [] [.live [1, 4, 8, 9, 10], .keep [4]] (ai h1 (ai (elem_map TSlot.D h2) (ai h3 (ti)))) (by kernel_rfl)
  ·
   obtain rfl := Option.some.inj h
   exact runB_arr mixed [(11, .bit false)] [] [.live [4], .keep [4]] (ai h1 (ti)) (by kernel_rfl)
theorem binding_Get_l1_ok (rd : Option Nat) (s1 : Int) (s8 : List TSlot) (s9 : Int) (w4 : TValue) (s10 : Int) (t : Unit ⊕ TValue) (h : binding_Get_l1 s1 s8 s9 w4 s10 = some t) : LpOf Try.prog rd (fbody Try.prog 78) [0, 1, 0, 1] (binding_Get_l1_I s1 s8 s9 w4 s10) ((binding_Get_l1_O s1 s8 s9 w4) t).1 ((binding_Get_l1_O s1 s8 s9 w4) t).2 :=
  loopE_lpR (fun s : Int => binding_Get_l1_I s1 s8 s9 w4 s) (binding_Get_l1_O s1 s8 s9 w4) (by kernel_rfl) (fun t => isN_ne (by rcases t with (_ | _) <;> rfl)) (fun s o h => binding_Get_l1_rnd rd s1 s8 s9 w4 s o h) (s := s10) (t := t) h
theorem binding_Get_ok (a0 : List TSlot) (a1 : Int) (r : TValue × Bool) (h : binding_Get a0 a1 = some r) : ACall Try.prog 78 [.d ((D.l TSlot.D) a0), .d ((D.i .i64) a1)] [] (.tup [.d (TValue.D r.1), .d (D.b r.2)]) [] := by
  unfold binding_Get at h
  obtain ⟨o2, h4, h⟩ := bndE_some h
  replace h := sumE_some h
  rcases h with ⟨o3, rfl, h⟩ | ⟨o4, rfl, h⟩
  ·
   obtain rfl := Option.some.inj h
   exact runF_call mixed [(9, .int (a0.length : Int))] [⟨[0, 1, 0, 1], [.live [1, 4, 8, 9, 10], .keep [4]], .exit 0, (binding_Get_l1_O a1 a0 (a0.length : Int) (TValue.mk 0 0 ([] : List UInt8) false) (Sum.inl o3)).2⟩] [] (ai (len_map TSlot.D a0) (ai (binding_Get_l1_ok none a1 a0 (a0.length : Int) (TValue.mk 0 0 ([] : List UInt8) false) 0 (Sum.inl o3) h4) (ti))) (by kernel_rfl)
  ·
   obtain rfl := Option.some.inj h
   exact runF_call mixed [(9, .int (a0.length : Int))] [⟨[0, 1, 0, 1], [.live [1, 4, 8, 9, 10], .keep [4]], .ret, (binding_Get_l1_O a1 a0 (a0.length : Int) (TValue.mk 0 0 ([] : List UInt8) false) (Sum.inr o4)).2⟩] [] (ai (len_map TSlot.D a0) (ai (binding_Get_l1_ok none a1 a0 (a0.length : Int) (TValue.mk 0 0 ([] : List UInt8) false) 0 (Sum.inr o4) h4) (ti))) (by kernel_rfl)
def binding_both_1_enc (x : (TSlot × TValue) ⊕ TSlot) : List A := match x with
  | .inl x => [.d (TSlot.D x.1), .eptr (D.cells (TValue.D x.2))]
  | .inr x => [.d (TSlot.D x), .d (.v (.pointer none))]
def binding_both_1_b2_I {φ : Type} (l : Nat) (F : φ → Bx) (f0 : φ) (s2 : List TSlot) (s9 : List TSlot) (s10 : Int) (s11 : Int) : St := ⟨sp 29 0 [(0, .d (.v (.func (.yield l) #[] #[]))), (2, .eptr (D.cells ((D.l TSlot.D) s2))), (9, .d ((D.l TSlot.D) s9)), (10, .d ((D.i .i64) s10)), (11, .d ((D.i .i64) s11))], [], (F f0)⟩
def binding_both_1_b2_O {φ : Type} (l : Nat) (F : φ → Bx) (f0 : φ) (s2 : List TSlot) (s9 : List TSlot) (s10 : Int) (s11 : Int) (o : φ ⊕ φ) : Ex × St := match o with
  | .inl o => (.normal, ⟨sp 29 0 [(0, .d (.v (.func (.yield l) #[] #[]))), (2, .eptr (D.cells ((D.l TSlot.D) s2))), (9, .d ((D.l TSlot.D) s9)), (10, .d ((D.i .i64) s10)), (11, .d ((D.i .i64) s11))], [], (F o)⟩)
  | .inr o => (.ret, ⟨sp 29 0 [], [], (F o)⟩)
theorem binding_both_1_b2_ok (rd : Option Nat) {φ : Type} (step : φ → ((TSlot × TValue) ⊕ TSlot) → Option (φ × Bool)) (l : Nat) (F : φ → Bx) (hF : ∀ f, Far (F f)) (hN : ∀ f f', names (F f) = names (F f')) (hY : ∀ f x r, step f x = some r → AYield Try.prog l (binding_both_1_enc x) (F f) (.d (D.b r.2)) (F r.1)) (f0 : φ) (s2 : List TSlot) (s9 : List TSlot) (s10 : Int) (s11 : Int) (o : φ ⊕ φ) (h : binding_both_1_b2 step f0 s2 s9 s10 s11 = some o) : LpOf Try.prog rd (fbody Try.prog 77) [0, 1, 1, 0, 0, 1] (binding_both_1_b2_I l F f0 s2 s9 s10 s11) (binding_both_1_b2_O l F f0 s2 s9 s10 s11 o).1 (binding_both_1_b2_O l F f0 s2 s9 s10 s11 o).2 := by
  unfold binding_both_1_b2 at h
  obtain ⟨x1, h2, h⟩ := idxE_some h
  obtain ⟨r2, h3, h⟩ := bndE_some h
  rcases iteE_some h with ⟨h5, h⟩ | ⟨h5, h⟩
  ·
   rcases yldE_some h with ⟨f3, h6, h⟩ | ⟨f4, h7, h⟩
   ·
    obtain rfl := Option.some.inj h
    exact (runB_arr mixed [(13, .el (TSlot.D x1)), (19, .ret (.tup [.d (TValue.D r2.1), .d (D.b r2.2)])), (22, .bit true), (10007, .frz), (26, .own false (.d (D.b true)) [] (F f3))] [] [.live [0, 2, 9, 10, 11], .keep []] (ai (elem_map TSlot.D h2) (ai (binding_Get_ok s2 x1.var r2 h3) (ai h5 (ai (hY f0 (.inl (x1, r2.1)) (f3, true) h6) (ai (Or.inr ⟨hN _ _, hF _⟩ : F f3 = F f0 ∨ (names (F f3) = names (F f0) ∧ Far (F f3))) (ti)))))) (by kernel_rfl)).lp
   ·
    obtain rfl := Option.some.inj h
    exact (runB_arr mixed [(13, .el (TSlot.D x1)), (19, .ret (.tup [.d (TValue.D r2.1), .d (D.b r2.2)])), (22, .bit true), (10007, .frz), (26, .own false (.d (D.b false)) [] (F f4))] [] [.live [], .keep []] (ai (elem_map TSlot.D h2) (ai (binding_Get_ok s2 x1.var r2 h3) (ai h5 (ai (hY f0 (.inl (x1, r2.1)) (f4, false) h7) (ai (Or.inr ⟨hN _ _, hF _⟩ : F f4 = F f0 ∨ (names (F f4) = names (F f0) ∧ Far (F f4))) (ti)))))) (by kernel_rfl)).lp
  ·
   rcases yldE_some h with ⟨f5, h8, h⟩ | ⟨f6, h9, h⟩
   ·
    obtain rfl := Option.some.inj h
    exact (runB_arr mixed [(13, .el (TSlot.D x1)), (19, .ret (.tup [.d (TValue.D r2.1), .d (D.b r2.2)])), (22, .bit false), (26, .own false (.d (D.b true)) [] (F f5))] [] [.live [0, 2, 9, 10, 11], .keep []] (ai (elem_map TSlot.D h2) (ai (binding_Get_ok s2 x1.var r2 h3) (ai h5 (ai (hY f0 (.inr x1) (f5, true) h8) (ai (Or.inr ⟨hN _ _, hF _⟩ : F f5 = F f0 ∨ (names (F f5) = names (F f0) ∧ Far (F f5))) (ti)))))) (by kernel_rfl)).lp
   ·
    obtain rfl := Option.some.inj h
    exact (runB_arr mixed [(13, .el (TSlot.D x1)), (19, .ret (.tup [.d (TValue.D r2.1), .d (D.b r2.2)])), (22, .bit false), (26, .own false (.d (D.b false)) [] (F f6))] [] [.live [], .keep []] (ai (elem_map TSlot.D h2) (ai (binding_Get_ok s2 x1.var r2 h3) (ai h5 (ai (hY f0 (.inr x1) (f6, false) h9) (ai (Or.inr ⟨hN _ _, hF _⟩ : F f6 = F f0 ∨ (names (F f6) = names (F f0) ∧ Far (F f6))) (ti)))))) (by kernel_rfl)).lp
def binding_both_1_l1_I {φ : Type} (l : Nat) (F : φ → Bx) (s2 : List TSlot) (s9 : List TSlot) (s10 : Int) (f0 : φ) (s11 : Int) : St := ⟨sp 29 0 [(0, .d (.v (.func (.yield l) #[] #[]))), (2, .eptr (D.cells ((D.l TSlot.D) s2))), (9, .d ((D.l TSlot.D) s9)), (10, .d ((D.i .i64) s10)), (11, .d ((D.i .i64) s11))], [], (F f0)⟩
def binding_both_1_l1_O {φ : Type} (l : Nat) (F : φ → Bx) (s2 : List TSlot) (s9 : List TSlot) (s10 : Int) (o : φ ⊕ φ) : Ex × St := match o with
  | .inl o => (.exit 0, ⟨sp 29 0 [], [], (F o)⟩)
  | .inr o => (.ret, ⟨sp 29 0 [], [], (F o)⟩)
theorem binding_both_1_l1_rnd (rd : Option Nat) {φ : Type} (step : φ → ((TSlot × TValue) ⊕ TSlot) → Option (φ × Bool)) (l : Nat) (F : φ → Bx) (hF : ∀ f, Far (F f)) (hN : ∀ f f', names (F f) = names (F f')) (hY : ∀ f x r, step f x = some r → AYield Try.prog l (binding_both_1_enc x) (F f) (.d (D.b r.2)) (F r.1)) (s2 : List TSlot) (s9 : List TSlot) (s10 : Int) (f0 : φ) (s11 : Int) (o : (φ × Int) ⊕ (φ ⊕ φ)) (h : binding_both_1_l1_s step s2 s9 s10 f0 s11 = some o) : Arr Try.prog rd (fbody Try.prog 77) (0 :: [0, 1]) (binding_both_1_l1_I l F s2 s9 s10 f0 s11) (rR (fun s : φ × Int => binding_both_1_l1_I l F s2 s9 s10 s.1 s.2) (binding_both_1_l1_O l F s2 s9 s10) o).1 (rR (fun s : φ × Int => binding_both_1_l1_I l F s2 s9 s10 s.1 s.2) (binding_both_1_l1_O l F s2 s9 s10) o).2 := by
  unfold binding_both_1_l1_s at h
  rcases iteE_some h with ⟨h1, h⟩ | ⟨h1, h⟩
  ·
   obtain ⟨o7, h10, h⟩ := bndE_some h
   replace h := sumE_some h
   rcases h with ⟨o8, rfl, h⟩ | ⟨o9, rfl, h⟩
   ·
    obtain rfl := Option.some.inj h
    exact runB_arr mixed [(12, .bit true)] [⟨[0, 1, 1, 0, 0, 1], [.live [0, 2, 9, 10, 11], .keep []], .normal, (binding_both_1_b2_O l F f0 s2 s9 s10 s11 (Sum.inl o8)).2⟩] [.live [0, 2, 9, 10, 11], .keep []] (ai h1 (ai (binding_both_1_b2_ok rd step l F hF hN hY f0 s2 s9 s10 s11 (Sum.inl o8) h10) (ti))) (by kernel_rfl)
   ·
    obtain rfl := Option.some.inj h
    exact runB_arr mixed [(12, .bit true)] [⟨[0, 1, 1, 0, 0, 1], [.live [0, 2, 9, 10, 11], .keep []], .ret, (binding_both_1_b2_O l F f0 s2 s9 s10 s11 (Sum.inr o9)).2⟩] [.live [], .keep []] (ai h1 (ai (binding_both_1_b2_ok rd step l F hF hN hY f0 s2 s9 s10 s11 (Sum.inr o9) h10) (ti))) (by kernel_rfl)
  ·
   obtain rfl := Option.some.inj h
   exact runB_arr mixed [(12, .bit false)] [] [.live [], .keep []] (ai h1 (ti)) (by kernel_rfl)
theorem binding_both_1_l1_ok (rd : Option Nat) {φ : Type} (step : φ → ((TSlot × TValue) ⊕ TSlot) → Option (φ × Bool)) (l : Nat) (F : φ → Bx) (hF : ∀ f, Far (F f)) (hN : ∀ f f', names (F f) = names (F f')) (hY : ∀ f x r, step f x = some r → AYield Try.prog l (binding_both_1_enc x) (F f) (.d (D.b r.2)) (F r.1)) (s2 : List TSlot) (s9 : List TSlot) (s10 : Int) (f0 : φ) (s11 : Int) (t : φ ⊕ φ) (h : binding_both_1_l1 step s2 s9 s10 f0 s11 = some t) : LpOf Try.prog rd (fbody Try.prog 77) [0, 1] (binding_both_1_l1_I l F s2 s9 s10 f0 s11) ((binding_both_1_l1_O l F s2 s9 s10) t).1 ((binding_both_1_l1_O l F s2 s9 s10) t).2 :=
  loopE_lpR (fun s : φ × Int => binding_both_1_l1_I l F s2 s9 s10 s.1 s.2) (binding_both_1_l1_O l F s2 s9 s10) (by kernel_rfl) (fun t => isN_ne (by rcases t with (_ | _) <;> rfl)) (fun s o h => binding_both_1_l1_rnd rd step l F hF hN hY s2 s9 s10 s.1 s.2 o h) (s := (f0, s11)) (t := t) h
theorem binding_both_1_ok {φ : Type} (step : φ → ((TSlot × TValue) ⊕ TSlot) → Option (φ × Bool)) (a1 : List TSlot) (a2 : List TSlot) (f0 : φ) (f1 : φ) (h : binding_both_1 step a1 a2 f0 = some f1) : AIt Try.prog 77 [.eptr (D.cells ((D.l TSlot.D) a1)), .eptr (D.cells ((D.l TSlot.D) a2))] binding_both_1_enc step f0 f1 := by
  intro l F hF hN hcl hY
  refine ⟨.tup [], ?_⟩
  unfold binding_both_1 at h
  obtain ⟨o10, h11, h⟩ := bndE_some h
  replace h := sumE_some h
  rcases h with ⟨o11, rfl, h⟩ | ⟨o12, rfl, h⟩
  ·
   obtain rfl := Option.some.inj h
   exact runI_call mixed [(10, .int (a1.length : Int))] [⟨[0, 1], [.live [0, 2, 9, 10, 11], .keep []], .exit 0, (binding_both_1_l1_O l F a2 a1 (a1.length : Int) (Sum.inl o11)).2⟩] [] (hF _) (hcl _) (ai (len_map TSlot.D a1) (ai (binding_both_1_l1_ok none step l F hF hN hY a2 a1 (a1.length : Int) f0 0 (Sum.inl o11) h11) (ti))) (by kernel_rfl)
  ·
   obtain rfl := Option.some.inj h
   exact runI_call mixed [(10, .int (a1.length : Int))] [⟨[0, 1], [.live [0, 2, 9, 10, 11], .keep []], .ret, (binding_both_1_l1_O l F a2 a1 (a1.length : Int) (Sum.inr o12)).2⟩] [] (hF _) (hcl _) (ai (len_map TSlot.D a1) (ai (binding_both_1_l1_ok none step l F hF hN hY a2 a1 (a1.length : Int) f0 0 (Sum.inr o12) h11) (ti))) (by kernel_rfl)
def binding_Under_b2_I (uz : List Value) (s9_1 : List TSlot) (s9_2 : List TSlot) (s10 : TSlot) (s11 : TValue) (w4 : Bool) (w998_1 : List TSlot) (w998_2 : List TSlot) : St := ⟨sp 22 0 [(4, .box 4 0), (9, .clo (.func 77) [] [.eptr (D.cells ((D.l TSlot.D) s9_1)), .eptr (D.cells ((D.l TSlot.D) s9_2))]), (10, .d (TSlot.D s10)), (11, .eptr (D.cells (TValue.D s11)))], [(4, .cells ([.d (D.b w4)])), (998, .vals (sp 22 0 [(4, .box 4 0), (9, .clo (.func 77) [] [.eptr (D.cells ((D.l TSlot.D) w998_1)), .eptr (D.cells ((D.l TSlot.D) w998_2))])]) uz)], []⟩
def binding_Under_b2_O (uz : List Value) (s9_1 : List TSlot) (s9_2 : List TSlot) (s10 : TSlot) (s11 : TValue) (w4 : Bool) (w998_1 : List TSlot) (w998_2 : List TSlot) (o : Unit) : Ex × St := (.normal, ⟨sp 22 0 [(4, .box 4 0), (5, .box 5 0), (6, .eptr (D.cells (TValue.D s11))), (9, .clo (.func 77) [] [.eptr (D.cells ((D.l TSlot.D) s9_1)), .eptr (D.cells ((D.l TSlot.D) s9_2))])], [(4, .cells ([.d (D.b w4)])), (5, .cells ((cellsA (TSlot.D s10)))), (998, .vals (sp 22 0 [(4, .box 4 0), (9, .clo (.func 77) [] [.eptr (D.cells ((D.l TSlot.D) w998_1)), .eptr (D.cells ((D.l TSlot.D) w998_2))])]) uz)], []⟩)
theorem binding_Under_b2_ok (rd : Option Nat) (uz : List Value) (s9_1 : List TSlot) (s9_2 : List TSlot) (s10 : TSlot) (s11 : TValue) (w4 : Bool) (w998_1 : List TSlot) (w998_2 : List TSlot) (o : Unit) (h : binding_Under_b2 s9_1 s9_2 s10 s11 w4 w998_1 w998_2 = some o) : LpOf Try.prog rd (fbody Try.prog 42) [0, 0, 1, 0, 1] (binding_Under_b2_I uz s9_1 s9_2 s10 s11 w4 w998_1 w998_2) (binding_Under_b2_O uz s9_1 s9_2 s10 s11 w4 w998_1 w998_2 o).1 (binding_Under_b2_O uz s9_1 s9_2 s10 s11 w4 w998_1 w998_2 o).2 := by
  unfold binding_Under_b2 at h
  obtain rfl := Option.some.inj h
  exact (runB_arr mixed [] [] [.live [4, 5, 6, 9], .keep [4, 5, 998]] (ti) (by kernel_rfl)).lp
def binding_Under_b4_I (uz : List Value) (s9_1 : List TSlot) (s9_2 : List TSlot) (s10 : TSlot) (w4 : Bool) (w998_1 : List TSlot) (w998_2 : List TSlot) : St := ⟨sp 22 0 [(4, .box 4 0), (9, .clo (.func 77) [] [.eptr (D.cells ((D.l TSlot.D) s9_1)), .eptr (D.cells ((D.l TSlot.D) s9_2))]), (10, .d (TSlot.D s10)), (11, .d (.v (.pointer none)))], [(4, .cells ([.d (D.b w4)])), (998, .vals (sp 22 0 [(4, .box 4 0), (9, .clo (.func 77) [] [.eptr (D.cells ((D.l TSlot.D) w998_1)), .eptr (D.cells ((D.l TSlot.D) w998_2))])]) uz)], []⟩
def binding_Under_b4_O (uz : List Value) (s9_1 : List TSlot) (s9_2 : List TSlot) (s10 : TSlot) (w4 : Bool) (w998_1 : List TSlot) (w998_2 : List TSlot) (o : Unit) : Ex × St := (.normal, ⟨sp 22 0 [(4, .box 4 0), (5, .box 5 0), (6, .d (.v (.pointer none))), (9, .clo (.func 77) [] [.eptr (D.cells ((D.l TSlot.D) s9_1)), .eptr (D.cells ((D.l TSlot.D) s9_2))])], [(4, .cells ([.d (D.b w4)])), (5, .cells ((cellsA (TSlot.D s10)))), (998, .vals (sp 22 0 [(4, .box 4 0), (9, .clo (.func 77) [] [.eptr (D.cells ((D.l TSlot.D) w998_1)), .eptr (D.cells ((D.l TSlot.D) w998_2))])]) uz)], []⟩)
theorem binding_Under_b4_ok (rd : Option Nat) (uz : List Value) (s9_1 : List TSlot) (s9_2 : List TSlot) (s10 : TSlot) (w4 : Bool) (w998_1 : List TSlot) (w998_2 : List TSlot) (o : Unit) (h : binding_Under_b4 s9_1 s9_2 s10 w4 w998_1 w998_2 = some o) : LpOf Try.prog rd (fbody Try.prog 42) [0, 0, 1, 0, 1] (binding_Under_b4_I uz s9_1 s9_2 s10 w4 w998_1 w998_2) (binding_Under_b4_O uz s9_1 s9_2 s10 w4 w998_1 w998_2 o).1 (binding_Under_b4_O uz s9_1 s9_2 s10 w4 w998_1 w998_2 o).2 := by
  unfold binding_Under_b4 at h
  obtain rfl := Option.some.inj h
  exact (runB_arr mixed [] [] [.live [4, 5, 6, 9], .keep [4, 5, 998]] (ti) (by kernel_rfl)).lp
def binding_Under_b6_I (uz : List Value) (s6 : TValue) (s9_1 : List TSlot) (s9_2 : List TSlot) (w4 : Bool) (w5 : TSlot) (w998_1 : List TSlot) (w998_2 : List TSlot) : St := ⟨sp 22 0 [(4, .box 4 0), (5, .box 5 0), (6, .eptr (D.cells (TValue.D s6))), (9, .clo (.func 77) [] [.eptr (D.cells ((D.l TSlot.D) s9_1)), .eptr (D.cells ((D.l TSlot.D) s9_2))])], [(4, .cells ([.d (D.b w4)])), (5, .cells ((cellsA (TSlot.D w5)))), (998, .vals (sp 22 0 [(4, .box 4 0), (9, .clo (.func 77) [] [.eptr (D.cells ((D.l TSlot.D) w998_1)), .eptr (D.cells ((D.l TSlot.D) w998_2))])]) uz)], []⟩
def binding_Under_b6_O (uz : List Value) (s6 : TValue) (s9_1 : List TSlot) (s9_2 : List TSlot) (w4 : Bool) (w5 : TSlot) (w998_1 : List TSlot) (w998_2 : List TSlot) (o : Unit ⊕ Unit) : Ex × St := match o with
  | .inl o => (.normal, ⟨sp 22 0 [], [(4, .cells ([.d (D.b w4)])), (998, .vals (sp 22 0 [(4, .box 4 0), (9, .clo (.func 77) [] [.eptr (D.cells ((D.l TSlot.D) w998_1)), .eptr (D.cells ((D.l TSlot.D) w998_2))])]) uz)], []⟩)
  | .inr o => (.ret, ⟨sp 22 0 [], [(4, .cells ([.d (D.b false)])), (998, .vals (sp 22 0 [(4, .box 4 0), (9, .clo (.func 77) [] [.eptr (D.cells ((D.l TSlot.D) w998_1)), .eptr (D.cells ((D.l TSlot.D) w998_2))])]) uz)], []⟩)
theorem binding_Under_b6_ok (rd : Option Nat) (uz : List Value) (s6 : TValue) (s9_1 : List TSlot) (s9_2 : List TSlot) (w4 : Bool) (w5 : TSlot) (w998_1 : List TSlot) (w998_2 : List TSlot) (o : Unit ⊕ Unit) (h : binding_Under_b6 s6 s9_1 s9_2 w4 w5 w998_1 w998_2 = some o) : LpOf Try.prog rd (fbody Try.prog 42) [1, 0, 1, 0, 1] (binding_Under_b6_I uz s6 s9_1 s9_2 w4 w5 w998_1 w998_2) (binding_Under_b6_O uz s6 s9_1 s9_2 w4 w5 w998_1 w998_2 o).1 (binding_Under_b6_O uz s6 s9_1 s9_2 w4 w5 w998_1 w998_2 o).2 := by
  unfold binding_Under_b6 at h
  rcases iteE_some h with ⟨h3, h⟩ | ⟨h3, h⟩
  ·
   obtain rfl := Option.some.inj h
   exact (runB_arr mixed [(21, .bit true)] [] [.live [], .keep [4, 998]] (ai h3 (ti)) (by kernel_rfl)).lp
  ·
   obtain rfl := Option.some.inj h
   exact (runB_arr mixed [(21, .bit false)] [] [.live [], .keep [4, 998]] (ai h3 (ti)) (by kernel_rfl)).lp
def binding_Under_b7_I (uz : List Value) (s9_1 : List TSlot) (s9_2 : List TSlot) (w4 : Bool) (w5 : TSlot) (w998_1 : List TSlot) (w998_2 : List TSlot) : St := ⟨sp 22 0 [(4, .box 4 0), (5, .box 5 0), (6, .d (.v (.pointer none))), (9, .clo (.func 77) [] [.eptr (D.cells ((D.l TSlot.D) s9_1)), .eptr (D.cells ((D.l TSlot.D) s9_2))])], [(4, .cells ([.d (D.b w4)])), (5, .cells ((cellsA (TSlot.D w5)))), (998, .vals (sp 22 0 [(4, .box 4 0), (9, .clo (.func 77) [] [.eptr (D.cells ((D.l TSlot.D) w998_1)), .eptr (D.cells ((D.l TSlot.D) w998_2))])]) uz)], []⟩
def binding_Under_b7_O (uz : List Value) (s9_1 : List TSlot) (s9_2 : List TSlot) (w4 : Bool) (w5 : TSlot) (w998_1 : List TSlot) (w998_2 : List TSlot) (o : Unit) : Ex × St := (.ret, ⟨sp 22 0 [], [(4, .cells ([.d (D.b false)])), (998, .vals (sp 22 0 [(4, .box 4 0), (9, .clo (.func 77) [] [.eptr (D.cells ((D.l TSlot.D) w998_1)), .eptr (D.cells ((D.l TSlot.D) w998_2))])]) uz)], []⟩)
theorem binding_Under_b7_ok (rd : Option Nat) (uz : List Value) (s9_1 : List TSlot) (s9_2 : List TSlot) (w4 : Bool) (w5 : TSlot) (w998_1 : List TSlot) (w998_2 : List TSlot) (o : Unit) (h : binding_Under_b7 s9_1 s9_2 w4 w5 w998_1 w998_2 = some o) : LpOf Try.prog rd (fbody Try.prog 42) [1, 0, 1, 0, 1] (binding_Under_b7_I uz s9_1 s9_2 w4 w5 w998_1 w998_2) (binding_Under_b7_O uz s9_1 s9_2 w4 w5 w998_1 w998_2 o).1 (binding_Under_b7_O uz s9_1 s9_2 w4 w5 w998_1 w998_2 o).2 := by
  unfold binding_Under_b7 at h
  obtain rfl := Option.some.inj h
  exact (runB_arr mixed [] [] [.live [], .keep [4, 998]] (ti) (by kernel_rfl)).lp
def binding_Under_r1_E (s9_1 : List TSlot) (s9_2 : List TSlot) : List A := sp 22 0 [(4, .box 4 0), (9, .clo (.func 77) [] [.eptr (D.cells ((D.l TSlot.D) s9_1)), .eptr (D.cells ((D.l TSlot.D) s9_2))])]
def binding_Under_r1_BL (s9_1 : List TSlot) (s9_2 : List TSlot) (s : Bool) : Bx := [(4, .cells ([.d (D.b s)]))]
def binding_Under_r1_BT (s9_1 : List TSlot) (s9_2 : List TSlot) (t : Bool) : Bx := [(4, .cells ([.d (D.b t)]))]
def binding_Under_r1_X (t : Bool) : Ex := .ret
def binding_Under_r1_O (s9_1 : List TSlot) (s9_2 : List TSlot) (o : (Bool) ⊕ (Bool)) : Ex × St := (rex binding_Under_r1_X o, ⟨binding_Under_r1_E s9_1 s9_2, rbx (binding_Under_r1_BL s9_1 s9_2) (binding_Under_r1_BT s9_1 s9_2) o, []⟩)
theorem binding_Under_r1_rnd (s9_1 : List TSlot) (s9_2 : List TSlot) (s : Bool) (x : (TSlot × TValue) ⊕ TSlot) (o : (Bool) ⊕ (Bool)) (h : binding_Under_r1_rd s9_1 s9_2 s x = some o) (l : Nat) (uz : List Value) : ∃ M E1, LpOf Try.prog (some l) (fbody Try.prog 42) (0 :: [0, 1, 0, 1]) ⟨setPs (binding_Under_r1_E s9_1 s9_2) ((Array.toList #[10, 11]).zip (binding_both_1_enc x)), binding_Under_r1_BL s9_1 s9_2 s ++ [(vn, .vals (binding_Under_r1_E s9_1 s9_2) uz)], []⟩ .normal M ∧
    LpOf Try.prog (some l) (fbody Try.prog 42) (1 :: [0, 1, 0, 1]) M (rex binding_Under_r1_X o) ⟨E1, rbx (binding_Under_r1_BL s9_1 s9_2) (binding_Under_r1_BT s9_1 s9_2) o ++ [(vn, .vals (binding_Under_r1_E s9_1 s9_2) uz)], []⟩ := by
  unfold binding_Under_r1_rd at h
  replace h := sumE_some h
  rcases h with ⟨z13, rfl, h⟩ | ⟨z14, rfl, h⟩
  ·
   obtain ⟨o6, h5, h⟩ := bndE_some h
   obtain ⟨o7, h6, h⟩ := bndE_some h
   replace h := sumE_some h
   rcases h with ⟨o15, rfl, h⟩ | ⟨o16, rfl, h⟩
   ·
    obtain rfl := Option.some.inj h
    exact ⟨(binding_Under_b2_O uz s9_1 s9_2 z13.1 z13.2 s s9_1 s9_2 o6).2, sp 22 0 [], lp_wks (w := [.live [4, 9, 10, 11], .keep [4, 998]]) (s1 := binding_Under_b2_I uz s9_1 s9_2 z13.1 z13.2 s s9_1 s9_2) (by kernel_rfl) (lp_cast (binding_Under_b2_ok (some l) uz s9_1 s9_2 z13.1 z13.2 s s9_1 s9_2 o6 h5) rfl (by kernel_rfl) rfl), lp_wks (w := [.live [4, 5, 6, 9], .keep [4, 5, 998]]) (s1 := binding_Under_b6_I uz z13.2 s9_1 s9_2 s z13.1 s9_1 s9_2) (by kernel_rfl) (lp_cast (binding_Under_b6_ok (some l) uz z13.2 s9_1 s9_2 s z13.1 s9_1 s9_2 (Sum.inl o15) h6) rfl (by kernel_rfl) (by kernel_rfl))⟩
   ·
    obtain rfl := Option.some.inj h
    exact ⟨(binding_Under_b2_O uz s9_1 s9_2 z13.1 z13.2 s s9_1 s9_2 o6).2, sp 22 0 [], lp_wks (w := [.live [4, 9, 10, 11], .keep [4, 998]]) (s1 := binding_Under_b2_I uz s9_1 s9_2 z13.1 z13.2 s s9_1 s9_2) (by kernel_rfl) (lp_cast (binding_Under_b2_ok (some l) uz s9_1 s9_2 z13.1 z13.2 s s9_1 s9_2 o6 h5) rfl (by kernel_rfl) rfl), lp_wks (w := [.live [4, 5, 6, 9], .keep [4, 5, 998]]) (s1 := binding_Under_b6_I uz z13.2 s9_1 s9_2 s z13.1 s9_1 s9_2) (by kernel_rfl) (lp_cast (binding_Under_b6_ok (some l) uz z13.2 s9_1 s9_2 s z13.1 s9_1 s9_2 (Sum.inr o16) h6) rfl (by kernel_rfl) (by kernel_rfl))⟩
  ·
   obtain ⟨o8, h7, h⟩ := bndE_some h
   obtain ⟨o9, h8, h⟩ := bndE_some h
   obtain rfl := Option.some.inj h
   exact ⟨(binding_Under_b4_O uz s9_1 s9_2 z14 s s9_1 s9_2 o8).2, sp 22 0 [], lp_wks (w := [.live [4, 9, 10, 11], .keep [4, 998]]) (s1 := binding_Under_b4_I uz s9_1 s9_2 z14 s s9_1 s9_2) (by kernel_rfl) (lp_cast (binding_Under_b4_ok (some l) uz s9_1 s9_2 z14 s s9_1 s9_2 o8 h7) rfl (by kernel_rfl) rfl), lp_wks (w := [.live [4, 5, 6, 9], .keep [4, 5, 998]]) (s1 := binding_Under_b7_I uz s9_1 s9_2 s z14 s9_1 s9_2) (by kernel_rfl) (lp_cast (binding_Under_b7_ok (some l) uz s9_1 s9_2 s z14 s9_1 s9_2 o9 h8) rfl (by kernel_rfl) (by kernel_rfl))⟩
theorem binding_Under_r1_ok (s9_1 : List TSlot) (s9_2 : List TSlot) (s : Bool) (o : (Bool) ⊕ (Bool)) (h : binding_both_1 (stepOf (binding_Under_r1_rd s9_1 s9_2)) s9_1 s9_2 (.inl s) = some o) : LpOf Try.prog none (fbody Try.prog 42) [0, 1, 0, 1] ⟨binding_Under_r1_E s9_1 s9_2, binding_Under_r1_BL s9_1 s9_2 s, []⟩ (binding_Under_r1_O s9_1 s9_2 o).1 (binding_Under_r1_O s9_1 s9_2 o).2 :=
  range_ok (p := [0, 1, 0, 1]) (g := .tmp 9) (ps := #[10, 11]) (assign := codeAt (fbody Try.prog 42) (0 :: [0, 1, 0, 1])) (body := codeAt (fbody Try.prog 42) (1 :: [0, 1, 0, 1])) (by kernel_rfl) (binding_Under_r1_BL s9_1 s9_2) (binding_Under_r1_BT s9_1 s9_2) binding_Under_r1_X binding_both_1_enc (binding_Under_r1_rd s9_1 s9_2) (gf := 77) (cs := [.eptr (D.cells ((D.l TSlot.D) s9_1)), .eptr (D.cells ((D.l TSlot.D) s9_2))]) (by kernel_rfl) (by kernel_rfl) (by kernel_rfl) (fun x => by rcases x with (_ | _) <;> exact ⟨by kernel_rfl, by kernel_rfl⟩) (fun s us => by kernel_rfl) (fun t us => by kernel_rfl) (fun s => rfl) (fun t => rfl) (by kernel_rfl) (fun t => rfl) (fun s x o h l us => binding_Under_r1_rnd s9_1 s9_2 s x o h l us) (binding_both_1_ok (stepOf (binding_Under_r1_rd s9_1 s9_2)) s9_1 s9_2 (.inl s) o h)
theorem binding_Under_ok (a0 : List TSlot) (a1 : List TSlot) (r : Bool) (h : binding_Under a0 a1 = some r) : ACall Try.prog 42 [.d ((D.l TSlot.D) a0), .d ((D.l TSlot.D) a1)] [] (.d (D.b r)) [] := by
  unfold binding_Under at h
  obtain ⟨r1, h1, h⟩ := bndE_some h
  obtain ⟨o10, h4, h⟩ := bndE_some h
  replace h := sumE_some h
  rcases h with ⟨o11, rfl, h⟩ | ⟨o12, rfl, h⟩
  ·
   obtain rfl := Option.some.inj h
   exact runF_call mixed [(9, .ret (.clo (.func 77) [] [.eptr (D.cells ((D.l TSlot.D) r1.1)), .eptr (D.cells ((D.l TSlot.D) r1.2))]))] [⟨[0, 1, 0, 1], [.live [4, 9], .keep [4]], .normal, (binding_Under_r1_O r1.1 r1.2 (Sum.inl o11)).2⟩] [] (ai (binding_both_ok a0 a1 r1 h1) (ai (binding_Under_r1_ok r1.1 r1.2 false (Sum.inl o11) h4) (ti))) (by kernel_rfl)
  ·
   obtain rfl := Option.some.inj h
   exact runF_call mixed [(9, .ret (.clo (.func 77) [] [.eptr (D.cells ((D.l TSlot.D) r1.1)), .eptr (D.cells ((D.l TSlot.D) r1.2))]))] [⟨[0, 1, 0, 1], [.live [4, 9], .keep [4]], .ret, (binding_Under_r1_O r1.1 r1.2 (Sum.inr o12)).2⟩] [] (ai (binding_both_ok a0 a1 r1 h1) (ai (binding_Under_r1_ok r1.1 r1.2 false (Sum.inr o12) h4) (ti))) (by kernel_rfl)
theorem match_Under_1_ok (a0 : THit) (a1 : List TSlot) (r : Bool) (h : match_Under_1 a0 a1 = some r) : ACall Try.prog 41 [.d (THit.D a0), .eptr (D.cells ((D.l TSlot.D) a1))] [] (.d (D.b r)) [] := by
  unfold match_Under_1 at h
  obtain ⟨r1, h1, h⟩ := bndE_some h
  obtain rfl := Option.some.inj h
  exact runF_call mixed [(7, .ret (.d (D.b r1)))] [] [] (ai (binding_Under_ok a0.bind a1 r1 h1) (ti)) (by kernel_rfl)
def match_part_Hit_b5_I (s1 : List TSlot) (s8 : List THit) (s9 : Int) (s10 : Int) (s16 : Bool) (w4 : List THit) (w5 : List THit) (w7 : THit) : St := ⟨sp 28 0 [(1, .clo (.func 41) [] [.eptr (D.cells ((D.l TSlot.D) s1))]), (4, .row 4), (5, .row 5), (7, .box 7 0), (8, .d ((D.l THit.D) s8)), (9, .d ((D.i .i64) s9)), (10, .d ((D.i .i64) s10)), (16, .d (D.b s16))], [(4, .row 57 3 (w4.map THit.D)), (5, .row 57 3 (w5.map THit.D)), (7, .cells ((cellsA (THit.D w7))))], []⟩
end Go.Ac
