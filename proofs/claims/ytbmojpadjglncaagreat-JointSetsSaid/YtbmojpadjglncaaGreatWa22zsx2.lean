/- Own work, printed: the functions compute these. -/
import Derived.Test.YtbmojpadjglncaaGreatWa22zsx1
set_option linter.unusedVariables false
set_option linter.unusedSimpArgs false
namespace Go.Ac
open Go.Proofs
variable {cJ cK cM cT cW : Int}
variable {cN cQ : List Int}
variable {cO : (Int × List Int)}
variable {cP : Int × Bool × List Int}
variable {cR dJ dL eT : List X2}
variable {cU eN : AE}
variable {cV cX : List (Int × Bool)}
variable {cY : (List (Int × Bool))}
variable {cZ : (List Int)}
variable {d3 : Xm}
variable {d4 dN : Bool}
variable {d5 : List Xm}
variable {d6 : Unit ⊕ Int}
variable {d7 d9 dC : List X0}
variable {d8 dD dE : X0}
variable {dA : (List X0)}
variable {dB : Av}
variable {dF : List X3}
variable {dG : Unit ⊕ X0}
variable {dH : X0 × Bool}
variable {dK : Unit ⊕ Unit}
variable {dM : (List X2)}
variable {dO : X2}
variable {dP eO : X3}
variable {dQ : X5}
variable {dR : AN}
variable {dS : (List X2) ⊕ Unit}
variable {dV : (List X2 × List X2) ⊕ Unit}
variable {dX : AN × Bool}
variable {dY eA eU : List AN}
variable {e9 : (List AN)}
variable {eB : List X6}
variable {eC : AE × X3}
variable {eE : X6}
variable {eF : List UInt8}
variable {eG : Int × Bool}
variable {eH : (Int × Int)}
variable {eI : Bool × List X2}
variable {eK : List Av}
variable {eL : (List X2 × List X2) ⊕ (List X2 × List X2)}
variable {eM : Bool × List X2 × List X2}
variable {eQ : Unit}
variable {eS : List X2 × List X2}
variable {eV : (List AN × List AN)}
variable {eW : List AN × List AN}
variable {eX : Unit ⊕ Bool}
variable {eY : Bool ⊕ Unit}
def RO (us : List Value) (s1 s10 s11 : Int) (w0 : List Int) : St := ⟨sp 168 0 [rx 0,sI 1 s1,sI 10 s10,sI 11 s11],[rW 0 33 1 dU w0,(997,.vals [.row 0] us)],[]⟩
def RP (us : List Value) (s1 : Int) (o : (Int × List Int)) : Ex × St := (.exit 4,⟨sp 168 0 [rx 0,sI 1 s1,sI 11 o.1],[rW 0 33 1 dU o.2,(997,.vals [.row 0] us)],[]⟩)
theorem YV (rd : Option Nat) (us : List Value) (h : RN cJ cK cM cN = some cO) : Lq 93 rd 4092 (RO us cJ cK cM cN) ((RP us cJ) cO) :=
  lL (fun s : Int × Int × List Int => RO us cJ s.1 s.2.1 s.2.2) (RP us cJ) (cK,cM,cN) (fun ⟨cK,cM,cN⟩ o h => by
  unfold JE at h
  obtain ⟨o18,h49,h⟩ := bS h
  refine gl (YW rd us h49) ?_
  obtain ⟨o22,h57,h⟩ := bS h
  refine gl (YX rd us h57) ?_
  refine iB 134 h (fun h => ?_) fun h => ?_
  exact lb h
  obtain ⟨h59,h⟩ := cS h
  refine gQ h59.1 <| gQ (AP dU h59.2) ?_
  obtain ⟨x23,h60,h⟩ := xS h
  refine gG 142 (.el (dU x23)) (AR dU h60) <| gW 10147 (.sl ((cN.set o18.toNat x23).map dU)) ?_
  obtain ⟨h61,h⟩ := cS h
  refine gQ h61.1 <| gQ (AP dU h61.2) ?_
  obtain ⟨x24,h62,h⟩ := xS h
  refine gG 146 (.el (dU x24)) (AR dU h62) <| gW 10148 (.sl (((cN.set o18.toNat x23).set o22.toNat x24).map dU)) ?_
  obtain ⟨h63,h⟩ := cS h
  refine gQ h63.1 <| gQ (AP dU h63.2) ?_
  obtain ⟨h64,h⟩ := cS h
  refine gQ (Bt dU h64) <| gQ (Ar dU cN o18 x23) ?_
  obtain ⟨h65,h⟩ := cS h
  refine gQ h65.1 <| gQ (AP dU h65.2) ?_
  obtain ⟨h66,h⟩ := cS h
  refine gQ (Bt dU h66) <| gQ (Ar dU (cN.set o18.toNat x23) o22 x24) ?_
  exact lb h) h
theorem Oj (h : Xa cJ cK cM cN = some cP) : AL Tryz.prog 93 [.row 0,dI cJ,dI cK,dI cM] [rW 0 33 1 dU cN] (.tup [dI cP.1,.d (D.b cP.2.1)]) [rW 0 33 1 dU cP.2.2] := by
  unfold Xa at h
  refine XG.call (ks := [0]) mixed fun us => ?_
  apply g0 (o := cP)
  obtain ⟨h1,h⟩ := cS h
  refine gQ h1.1 <| gQ (AP dU h1.2) ?_
  obtain ⟨x1,h2,h⟩ := xS h
  refine gG 19 (.el (dU x1)) (AR dU h2) <| gW 10024 (.sl ((cN.set cJ.toNat x1).map dU)) ?_
  obtain ⟨h3,h⟩ := cS h
  refine gQ h3.1 <| gQ (AP dU h3.2) ?_
  obtain ⟨x2,h4,h⟩ := xS h
  refine gG 23 (.el (dU x2)) (AR dU h4) <| gW 10025 (.sl (((cN.set cJ.toNat x1).set cM.toNat x2).map dU)) ?_
  obtain ⟨h5,h⟩ := cS h
  refine gQ h5.1 <| gQ (AP dU h5.2) ?_
  obtain ⟨h6,h⟩ := cS h
  refine gQ (Bt dU h6) <| gQ (Ar dU cN cJ x1) ?_
  obtain ⟨h7,h⟩ := cS h
  refine gQ h7.1 <| gQ (AP dU h7.2) ?_
  obtain ⟨h8,h⟩ := cS h
  refine gQ (Bt dU h8) <| gQ (Ar dU (cN.set cJ.toNat x1) cM x2) ?_
  obtain ⟨o6,h16,h⟩ := bS h
  refine gl (YS none us h16) ?_
  obtain ⟨o10,h24,h⟩ := bS h
  refine gl (YT none us h24) ?_
  refine iB 65 h (fun h => ?_) fun h => ?_
  obtain ⟨h26,h⟩ := cS h
  refine gQ h26.1 <| gQ (AP dU h26.2) ?_
  obtain ⟨x11,h27,h⟩ := xS h
  refine gG 73 (.el (dU x11)) (AR dU h27) <| gW 10078 (.sl ((((cN.set cJ.toNat x1).set cM.toNat x2).set o10.toNat x11).map dU)) ?_
  obtain ⟨h28,h⟩ := cS h
  refine gQ h28.1 <| gQ (AP dU h28.2) ?_
  obtain ⟨x12,h29,h⟩ := xS h
  refine gG 77 (.el (dU x12)) (AR dU h29) <| gW 10079 (.sl (((((cN.set cJ.toNat x1).set cM.toNat x2).set o10.toNat x11).set cJ.toNat x12).map dU)) ?_
  obtain ⟨h30,h⟩ := cS h
  refine gQ h30.1 <| gQ (AP dU h30.2) ?_
  obtain ⟨h31,h⟩ := cS h
  refine gQ (Bt dU h31) <| gQ (Ar dU ((cN.set cJ.toNat x1).set cM.toNat x2) o10 x11) ?_
  obtain ⟨h32,h⟩ := cS h
  refine gQ h32.1 <| gQ (AP dU h32.2) ?_
  obtain ⟨h33,h⟩ := cS h
  refine gQ (Bt dU h33) <| gQ (Ar dU (((cN.set cJ.toNat x1).set cM.toNat x2).set o10.toNat x11) cJ x12) ?_
  exact lX h (lv [8,9] [0,997])
  obtain ⟨h34,h⟩ := cS h
  refine gQ h34.1 <| gQ (AP dU h34.2) ?_
  obtain ⟨x13,h35,h⟩ := xS h
  refine gG 88 (.el (dU x13)) (AR dU h35) <| gW 10093 (.sl ((((cN.set cJ.toNat x1).set cM.toNat x2).set o6.toNat x13).map dU)) ?_
  obtain ⟨h36,h⟩ := cS h
  refine gQ h36.1 <| gQ (AP dU h36.2) ?_
  obtain ⟨x14,h37,h⟩ := xS h
  refine gG 92 (.el (dU x14)) (AR dU h37) <| gW 10094 (.sl (((((cN.set cJ.toNat x1).set cM.toNat x2).set o6.toNat x13).set o10.toNat x14).map dU)) ?_
  obtain ⟨h38,h⟩ := cS h
  refine gQ h38.1 <| gQ (AP dU h38.2) ?_
  obtain ⟨h39,h⟩ := cS h
  refine gQ (Bt dU h39) <| gQ (Ar dU ((cN.set cJ.toNat x1).set cM.toNat x2) o6 x13) ?_
  obtain ⟨h40,h⟩ := cS h
  refine gQ h40.1 <| gQ (AP dU h40.2) ?_
  obtain ⟨h41,h⟩ := cS h
  refine gQ (Bt dU h41) <| gQ (Ar dU (((cN.set cJ.toNat x1).set cM.toNat x2).set o6.toNat x13) o10 x14) ?_
  obtain ⟨o25,h67,h⟩ := bS h
  refine gl (YV none us h67) ?_
  obtain ⟨h68,h⟩ := cS h
  refine gQ h68.1 <| gQ (AP dU h68.2) ?_
  obtain ⟨x26,h69,h⟩ := xS h
  refine gG 160 (.el (dU x26)) (AR dU h69) <| gW 10165 (.sl ((o25.2.set o25.1.toNat x26).map dU)) ?_
  obtain ⟨h70,h⟩ := cS h
  refine gQ h70.1 <| gQ (AP dU h70.2) ?_
  obtain ⟨x27,h71,h⟩ := xS h
  refine gG 164 (.el (dU x27)) (AR dU h71) <| gW 10166 (.sl (((o25.2.set o25.1.toNat x26).set cJ.toNat x27).map dU)) ?_
  obtain ⟨h72,h⟩ := cS h
  refine gQ h72.1 <| gQ (AP dU h72.2) ?_
  obtain ⟨h73,h⟩ := cS h
  refine gQ (Bt dU h73) <| gQ (Ar dU o25.2 o25.1 x26) ?_
  obtain ⟨h74,h⟩ := cS h
  refine gQ h74.1 <| gQ (AP dU h74.2) ?_
  obtain ⟨h75,h⟩ := cS h
  refine gQ (Bt dU h75) <| gQ (Ar dU (o25.2.set o25.1.toNat x26) cJ x27) ?_
  exact lX h (lv [8,9] [0,997])
theorem ZL (rd : Option Nat) (self : Int → Int → Int → (List Int) → Option (List Int)) (hs : ∀ (a1 a2 a3 : Int) (w0 r : List Int),self a1 a2 a3 w0 = some r → AL Tryz.prog 55 [.row 0,dI a1,dI a2,dI a3] [rW 0 33 1 dU w0] (.tup []) [rW 0 33 1 dU r]) (us : List Value) {s1 s2 s3 : Int} {s8 s9 : Bool} {s10 : Int} {s35 : Bool} {w0 : List Int} {o : (Int × List Int)} (h : Rs self s1 s2 s3 s8 s9 s10 s35 w0 = some o) : Lq 55 rd 1821 ⟨sp 134 0 [rx 0,sI 1 s1,sI 2 s2,sI 3 s3,sD 8 D.b s8,sD 9 D.b s9,sI 10 s10,sD 35 D.b s35],[rW 0 33 1 dU w0,(997,.vals [.row 0] us)],[]⟩ (.normal,⟨sp 134 0 [rx 0,sI 1 s1,sI 2 s2,sI 3 o.1,sD 8 D.b s8,sD 9 D.b s9,sI 10 s10],[rW 0 33 1 dU o.2,(997,.vals [.row 0] us)],[]⟩) := by
  unfold Rs at h
  apply g0 (o := o)
  cases s35
  replace h := B1 h
  exact lp h
  replace h := B2 h
  obtain ⟨r3,h6,h⟩ := bS h
  refine gG 39 (.cx false [(0,0)] [] (.tup []) [rW 0 33 1 dU r3]) (aQr h6) ?_
  exact lp h
theorem ZM (rd : Option Nat) (self : Int → Int → Int → (List Int) → Option (List Int)) (hs : ∀ (a1 a2 a3 : Int) (w0 r : List Int),self a1 a2 a3 w0 = some r → AL Tryz.prog 55 [.row 0,dI a1,dI a2,dI a3] [rW 0 33 1 dU w0] (.tup []) [rW 0 33 1 dU r]) (us : List Value) {s1 s2 s3 : Int} {s8 s9 : Bool} {s10 s11 s12 : Int} {s50 : Bool} {w0 : List Int} {o : (Int × Int × List Int)} (h : Rt self s1 s2 s3 s8 s9 s10 s11 s12 s50 w0 = some o) : Lq 55 rd 7293 ⟨sp 134 0 [rx 0,sI 1 s1,sI 2 s2,sI 3 s3,sD 8 D.b s8,sD 9 D.b s9,sI 10 s10,sI 11 s11,sI 12 s12,sD 50 D.b s50],[rW 0 33 1 dU w0,(997,.vals [.row 0] us)],[]⟩ (.normal,⟨sp 134 0 [rx 0,sI 1 s1,sI 2 s2,sI 3 s3,sD 8 D.b s8,sD 9 D.b s9,sI 10 s10,sI 11 o.1,sI 12 o.2.1],[rW 0 33 1 dU o.2.2,(997,.vals [.row 0] us)],[]⟩) := by
  unfold Rt at h
  apply g0 (o := o)
  cases s50
  replace h := B1 h
  exact lp h
  replace h := B2 h
  obtain ⟨r6,h10,h⟩ := bS h
  refine gG 54 (.cx false [(0,0)] [] (.tup []) [rW 0 33 1 dU r6]) (aRj h10) ?_
  exact lp h
theorem JF (rd : Option Nat) (self : Int → Int → Int → (List Int) → Option (List Int)) (hs : ∀ (a1 a2 a3 : Int) (w0 r : List Int),self a1 a2 a3 w0 = some r → AL Tryz.prog 55 [.row 0,dI a1,dI a2,dI a3] [rW 0 33 1 dU w0] (.tup []) [rW 0 33 1 dU r]) (us : List Value) {s1 s2 s3 : Int} {s8 s9 : Bool} {s10 s11 : Int} {s68 : Bool} {w0 : List Int} {o : (List Int) ⊕ (List Int)} (h : KK self s1 s2 s3 s8 s9 s10 s11 s68 w0 = some o) : Lq 55 rd 14589 ⟨sp 134 0 [rx 0,sI 1 s1,sI 2 s2,sI 3 s3,sD 8 D.b s8,sD 9 D.b s9,sI 10 s10,sI 11 s11,sD 68 D.b s68],[rW 0 33 1 dU w0,(997,.vals [.row 0] us)],[]⟩ (match (generalizing := false) o with
  | .inl o => (.normal,⟨sp 134 0 [rx 0,sI 1 s1,sI 2 s2,sI 3 s3,sD 8 D.b s8,sD 9 D.b s9,sI 10 s10,sI 11 s11],[rW 0 33 1 dU o,(997,.vals [.row 0] us)],[]⟩)
  | .inr o => (.ret,⟨sp 134 0 [],[rW 0 33 1 dU o,(997,.vals [.row 0] us)],[]⟩)) := by
  unfold KK at h
  apply g0 (o := o)
  cases s68
  replace h := B1 h
  exact lp h
  replace h := B2 h
  obtain ⟨r8,h15,h⟩ := bS h
  refine gQ (aPp h15) ?_
  rcases r8 with ⟨r8_1,r8_2⟩
  cases r8_1
  replace h := B1 h
  refine gW 72 (.cx false [(0,0)] [] (.d (D.b false)) [rW 0 33 1 dU r8_2]) ?_
  exact lp h
  replace h := B2 h
  refine gW 72 (.cx false [(0,0)] [] (.d (D.b true)) [rW 0 33 1 dU r8_2]) ?_
  exact lp h
theorem Dq (rd : Option Nat) (self : Int → Int → Int → (List Int) → Option (List Int)) (hs : ∀ (a1 a2 a3 : Int) (w0 r : List Int),self a1 a2 a3 w0 = some r → AL Tryz.prog 55 [.row 0,dI a1,dI a2,dI a3] [rW 0 33 1 dU w0] (.tup []) [rW 0 33 1 dU r]) (us : List Value) {s1 s2 s3 : Int} {s9 : Bool} {s14 s16 : Int} {s17 s18 : Int} {s113 : Bool} {w0 : List Int} {o : (Int × Int × Bool × List Int)} (h : FK self s1 s2 s3 s9 s14 s16 s17 s18 s113 w0 = some o) : Lq 55 rd 466943 ⟨sp 134 0 [rx 0,sI 1 s1,sI 2 s2,sI 3 s3,sD 9 D.b s9,sI 14 s14,sI 16 s16,sI 17 s17,sI 18 s18,sD 113 D.b s113],[rW 0 33 1 dU w0,(997,.vals [.row 0] us)],[]⟩ (.normal,⟨sp 134 0 [rx 0,sI 1 o.1,sI 2 o.2.1,sI 3 s3,sD 8 D.b o.2.2.1,sD 9 D.b s9],[rW 0 33 1 dU o.2.2.2,(997,.vals [.row 0] us)],[]⟩) := by
  unfold FK at h
  apply g0 (o := o)
  cases s113
  replace h := B1 h
  obtain ⟨r18,h29,h⟩ := bS h
  refine gG 132 (.cx false [(0,0)] [] (.tup []) [rW 0 33 1 dU r18]) (hs (AA .add .i64 s14 1) s2 s3 w0 r18 h29) ?_
  exact lp h
  replace h := B2 h
  obtain ⟨r17,h28,h⟩ := bS h
  refine gG 121 (.cx false [(0,0)] [] (.tup []) [rW 0 33 1 dU r17]) (hs s1 s14 s3 w0 r17 h28) ?_
  exact lp h
theorem ZK (rd : Option Nat) (self : Int → Int → Int → (List Int) → Option (List Int)) (hs : ∀ (a1 a2 a3 : Int) (w0 r : List Int),self a1 a2 a3 w0 = some r → AL Tryz.prog 55 [.row 0,dI a1,dI a2,dI a3] [rW 0 33 1 dU w0] (.tup []) [rW 0 33 1 dU r]) (us : List Value) {s1 s2 s3 : Int} {s8 s9 : Bool} {w0 : List Int} {o : (Int × Int × Int × Bool × Bool × List Int) ⊕ (List Int)} (h : Rr self s1 s2 s3 s8 s9 w0 = some o) : Lq 55 rd 28 ⟨sp 134 0 [rx 0,sI 1 s1,sI 2 s2,sI 3 s3,sD 8 D.b s8,sD 9 D.b s9],[rW 0 33 1 dU w0,(997,.vals [.row 0] us)],[]⟩ (match (generalizing := false) o with
  | .inl o => (.normal,⟨sp 134 0 [rx 0,sI 1 o.1,sI 2 o.2.1,sI 3 o.2.2.1,sD 8 D.b o.2.2.2.1,sD 9 D.b o.2.2.2.2.1],[rW 0 33 1 dU o.2.2.2.2.2,(997,.vals [.row 0] us)],[]⟩)
  | .inr o => (.ret,⟨sp 134 0 [],[rW 0 33 1 dU o,(997,.vals [.row 0] us)],[]⟩)) := by
  unfold Rr at h
  apply g0 (o := o)
  refine iB 23 h (fun h => ?_) fun h => ?_
  obtain ⟨r1,h2,h⟩ := bS h
  refine gG 27 (.cx false [(0,0)] [] (.tup []) [rW 0 33 1 dU r1]) (aQk h2) ?_
  exact lp h
  refine iB 29 h (fun h => ?_) fun h => ?_
  obtain ⟨r2,h4,h⟩ := bS h
  refine gG 33 (.cx false [(0,0)] [] (.tup []) [rW 0 33 1 dU r2]) (aQo h4) ?_
  exact lp h
  obtain ⟨o4,h7,h⟩ := bS h
  refine gl (ZL rd self hs us h7) ?_
  obtain ⟨r5,h8,h⟩ := bS h
  refine gG 46 (.lend [0] (.tup [dI r5.1,dI r5.2])) (aR8 h8) ?_
  obtain ⟨o7,h11,h⟩ := bS h
  refine gl (ZM rd self hs us h11) ?_
  refine iB 62 h (fun h => ?_) fun h => ?_
  refine iB 65 h (fun h => ?_) fun h => ?_
  obtain ⟨o9,h17,h⟩ := bS h
  refine gl (JF rd self hs us h17) ?_
  replace h := AK h
  rcases h with ⟨o10,rfl,h⟩ | ⟨o11,rfl,h⟩
  refine iB 75 h (fun h => ?_) fun h => ?_
  obtain ⟨h19,h⟩ := cS h
  refine gQ h19.1 <| gQ (AP dU h19.2) ?_
  obtain ⟨x12,h20,h⟩ := xS h
  refine gG 80 (.el (dU x12)) (AR dU h20) ?_
  obtain ⟨h21,h⟩ := cS h
  refine gQ h21.1 <| gQ (AP dU h21.2) ?_
  obtain ⟨x13,h22,h⟩ := xS h
  refine gG 84 (.el (dU x13)) (AR dU h22) ?_
  obtain ⟨r14,h23,h⟩ := bS h
  refine gC 85 (DY h23) ?_
  refine iB 87 h (fun h => ?_) fun h => ?_
  obtain ⟨r15,h25,h⟩ := bS h
  refine gG 92 (.cx false [(0,0)] [] (dI r15.1) [rW 0 33 1 dU r15.2]) (aIi h25) ?_
  exact lp h
  obtain ⟨r16,h26,h⟩ := bS h
  refine gG 99 (.cx false [(0,0)] [] (.tup [dI r16.1,.d (D.b r16.2.1)]) [rW 0 33 1 dU r16.2.2]) (Oj h26) <| gQ (of_decide_eq_true rfl : (8 : Int) ≠ 0) ?_
  obtain ⟨o19,h30,h⟩ := bS h
  refine gl (Dq rd self hs us h30) ?_
  exact lp h
  obtain ⟨r20,h31,h⟩ := bS h
  refine gG 99 (.cx false [(0,0)] [] (.tup [dI r20.1,.d (D.b r20.2.1)]) [rW 0 33 1 dU r20.2.2]) (Oj h31) <| gQ (of_decide_eq_true rfl : (8 : Int) ≠ 0) ?_
  obtain ⟨o21,h32,h⟩ := bS h
  refine gl (Dq rd self hs us h32) ?_
  exact lp h
  exact lp h
  obtain ⟨o22,h33,h⟩ := bS h
  refine gl (JF rd self hs us h33) ?_
  replace h := AK h
  rcases h with ⟨o23,rfl,h⟩ | ⟨o24,rfl,h⟩
  refine iB 75 h (fun h => ?_) fun h => ?_
  obtain ⟨h35,h⟩ := cS h
  refine gQ h35.1 <| gQ (AP dU h35.2) ?_
  obtain ⟨x25,h36,h⟩ := xS h
  refine gG 80 (.el (dU x25)) (AR dU h36) ?_
  obtain ⟨h37,h⟩ := cS h
  refine gQ h37.1 <| gQ (AP dU h37.2) ?_
  obtain ⟨x26,h38,h⟩ := xS h
  refine gG 84 (.el (dU x26)) (AR dU h38) ?_
  obtain ⟨r27,h39,h⟩ := bS h
  refine gC 85 (DY h39) ?_
  refine iB 87 h (fun h => ?_) fun h => ?_
  obtain ⟨r28,h41,h⟩ := bS h
  refine gG 92 (.cx false [(0,0)] [] (dI r28.1) [rW 0 33 1 dU r28.2]) (aIi h41) ?_
  exact lp h
  obtain ⟨r29,h42,h⟩ := bS h
  refine gG 99 (.cx false [(0,0)] [] (.tup [dI r29.1,.d (D.b r29.2.1)]) [rW 0 33 1 dU r29.2.2]) (Oj h42) <| gQ (of_decide_eq_true rfl : (8 : Int) ≠ 0) ?_
  obtain ⟨o30,h43,h⟩ := bS h
  refine gl (Dq rd self hs us h43) ?_
  exact lp h
  obtain ⟨r31,h44,h⟩ := bS h
  refine gG 99 (.cx false [(0,0)] [] (.tup [dI r31.1,.d (D.b r31.2.1)]) [rW 0 33 1 dU r31.2.2]) (Oj h44) <| gQ (of_decide_eq_true rfl : (8 : Int) ≠ 0) ?_
  obtain ⟨o32,h45,h⟩ := bS h
  refine gl (Dq rd self hs us h45) ?_
  exact lp h
  exact lp h
  obtain ⟨o33,h46,h⟩ := bS h
  refine gl (JF rd self hs us h46) ?_
  replace h := AK h
  rcases h with ⟨o34,rfl,h⟩ | ⟨o35,rfl,h⟩
  refine iB 75 h (fun h => ?_) fun h => ?_
  obtain ⟨h48,h⟩ := cS h
  refine gQ h48.1 <| gQ (AP dU h48.2) ?_
  obtain ⟨x36,h49,h⟩ := xS h
  refine gG 80 (.el (dU x36)) (AR dU h49) ?_
  obtain ⟨h50,h⟩ := cS h
  refine gQ h50.1 <| gQ (AP dU h50.2) ?_
  obtain ⟨x37,h51,h⟩ := xS h
  refine gG 84 (.el (dU x37)) (AR dU h51) ?_
  obtain ⟨r38,h52,h⟩ := bS h
  refine gC 85 (DY h52) ?_
  refine iB 87 h (fun h => ?_) fun h => ?_
  obtain ⟨r39,h54,h⟩ := bS h
  refine gG 92 (.cx false [(0,0)] [] (dI r39.1) [rW 0 33 1 dU r39.2]) (aIi h54) ?_
  exact lp h
  obtain ⟨r40,h55,h⟩ := bS h
  refine gG 99 (.cx false [(0,0)] [] (.tup [dI r40.1,.d (D.b r40.2.1)]) [rW 0 33 1 dU r40.2.2]) (Oj h55) <| gQ (of_decide_eq_true rfl : (8 : Int) ≠ 0) ?_
  obtain ⟨o41,h56,h⟩ := bS h
  refine gl (Dq rd self hs us h56) ?_
  exact lp h
  obtain ⟨r42,h57,h⟩ := bS h
  refine gG 99 (.cx false [(0,0)] [] (.tup [dI r42.1,.d (D.b r42.2.1)]) [rW 0 33 1 dU r42.2.2]) (Oj h57) <| gQ (of_decide_eq_true rfl : (8 : Int) ≠ 0) ?_
  obtain ⟨o43,h58,h⟩ := bS h
  refine gl (Dq rd self hs us h58) ?_
  exact lp h
  exact lp h
def Rv (us : List Value) (s1 s2 s3 : Int) (s8 s9 : Bool) (w0 : List Int) : St := ⟨sp 134 0 [rx 0,sI 1 s1,sI 2 s2,sI 3 s3,sD 8 D.b s8,sD 9 D.b s9],[rW 0 33 1 dU w0,(997,.vals [.row 0] us)],[]⟩
def Rw (us : List Value) (o : (List Int)) : Ex × St := (.ret,⟨sp 134 0 [],[rW 0 33 1 dU o,(997,.vals [.row 0] us)],[]⟩)
theorem ZO (rd : Option Nat) (self : Int → Int → Int → (List Int) → Option (List Int)) (hs : ∀ (a1 a2 a3 : Int) (w0 r : List Int),self a1 a2 a3 w0 = some r → AL Tryz.prog 55 [.row 0,dI a1,dI a2,dI a3] [rW 0 33 1 dU w0] (.tup []) [rW 0 33 1 dU r]) (us : List Value) {s1 s2 s3 : Int} {s8 s9 : Bool} {w0 : List Int} {t : (List Int)} (h : Ru self s1 s2 s3 s8 s9 w0 = some t) : Lq 55 rd 14 (Rv us s1 s2 s3 s8 s9 w0) ((Rw us) t) :=
  lL (fun s : Int × Int × Int × Bool × Bool × List Int => Rv us s.1 s.2.1 s.2.2.1 s.2.2.2.1 s.2.2.2.2.1 s.2.2.2.2.2) (Rw us) (s1,s2,s3,s8,s9,w0) (fun ⟨s1,s2,s3,s8,s9,w0⟩ o h => by
  unfold JG at h
  obtain ⟨o44,h59,h⟩ := bS h
  refine gl (ZK rd self hs us h59) ?_
  replace h := AK h
  rcases h with ⟨o45,rfl,h⟩ | ⟨o46,rfl,h⟩
  exact lb h
  exact lb h) h
theorem aIh (self : Int → Int → Int → (List Int) → Option (List Int)) (hs : ∀ (a1 a2 a3 : Int) (w0 r : List Int),self a1 a2 a3 w0 = some r → AL Tryz.prog 55 [.row 0,dI a1,dI a2,dI a3] [rW 0 33 1 dU w0] (.tup []) [rW 0 33 1 dU r]) (a1 a2 a3 : Int) (w0 r : List Int) (h : aLn self a1 a2 a3 w0 = some r) : AL Tryz.prog 55 [.row 0,dI a1,dI a2,dI a3] [rW 0 33 1 dU w0] (.tup []) [rW 0 33 1 dU r] := by
  unfold aLn at h
  refine XG.call (ks := [0]) mixed fun us => ?_
  apply g0 (o := r)
  obtain ⟨o47,h60,h⟩ := bS h
  refine gl (ZO none self hs us h60) ?_
  exact lX h (lv [] [0,997])
theorem Rx : ∀ (n : Nat) (a1 a2 a3 : Int) (w0 r : List Int),aK1 n a1 a2 a3 w0 = some r → AL Tryz.prog 55 [.row 0,dI a1,dI a2,dI a3] [rW 0 33 1 dU w0] (.tup []) [rW 0 33 1 dU r]
  | 0,a1,a2,a3,w0,r,h => by simp [aK1] at h
  | n + 1,a1,a2,a3,w0,r,h => aIh _ (Rx n) a1 a2 a3 w0 r h
theorem aPv (h : Xd cJ cK cM cN = some cQ) : AL Tryz.prog 55 [.row 0,dI cJ,dI cK,dI cM] [rW 0 33 1 dU cN] (.tup []) [rW 0 33 1 dU cQ] := Rx 100000 cJ cK cM cN cQ h
theorem aOz (h : Qq cN = some cQ) : AL Tryz.prog 36 [.row 0] [rW 0 33 1 dU cN] (.tup []) [rW 0 33 1 dU cQ] := by
  unfold Qq at h
  refine XG.call (ks := [0]) mixed fun us => ?_
  apply g0 (o := cQ)
  refine gN 4 dU cN ?_
  obtain ⟨r1,h1,h⟩ := bS h
  refine gC 9 (aLe h1) ?_
  obtain ⟨r2,h2,h⟩ := bS h
  refine gG 10 (.cx false [(0,0)] [] (.tup []) [rW 0 33 1 dU r2]) (aPv h2) ?_
  exact lX h (lv [] [0,997])
theorem aO0 (h : Qr cN = some cQ) : AL Tryz.prog 36 [.row 0] [(0,.bag 33 1 (cN.map dU))] (.tup []) [rW 0 33 1 dU cQ] :=
  AL.bagE (R := fun _ => .tup []) (X' := fun cQ => [rW 0 33 1 dU cQ]) (fun _ _ h => aOz h) cQ h
def P2 (s1 : List X2) (s6 s15 : Int) (s16 s30 : Int) (w2 : AE) (w5 : List (Int × Bool)) (s31 : Int) (w7 : List (Int × Bool)) : St := ⟨sp 65 0 [sD 1 (D.l X2.D) s1,bx 2,rx 5,sI 6 s6,rx 7,sI 15 s15,sI 16 s16,sI 30 s30,sI 31 s31],[cL 2 AE.D w2,(5,.mapS (ms dU D.b w5)),(7,.mapS (ms dU D.b w7))],[]⟩
def P3 (s1 : List X2) (s6 s15 : Int) (s16 s30 : Int) (w2 : AE) (w5 : List (Int × Bool)) (o : (List (Int × Bool))) : Ex × St := (.exit 2,⟨sp 65 0 [sD 1 (D.l X2.D) s1,bx 2,rx 5,rx 7,sI 15 s15,sI 16 s16],[cL 2 AE.D w2,(5,.mapS (ms dU D.b w5)),(7,.mapS (ms dU D.b o))],[]⟩)
theorem XO (rd : Option Nat) (h : P1 cR cJ cK cM cT cU cV cW cX = some cY) : Lq 16 rd 59802 (P2 cR cJ cK cM cT cU cV cW cX) ((P3 cR cJ cK cM cT cU cV) cY) :=
  lL (fun s : Int × (List (Int × Bool)) => P2 cR cJ cK cM cT cU cV s.1 s.2) (P3 cR cJ cK cM cT cU cV) (cW,cX) (fun ⟨cW,cX⟩ o h => by
  unfold EI at h
  refine iB 32 h (fun h => ?_) fun h => ?_
  obtain ⟨r3,h5,h⟩ := bS h
  refine gG 40 (.cx false [(0,7)] [(1,40)] (.row 1) [(1,.mapS (ms dU D.b r3))]) (aPu h5) ?_
  exact lB h [.live [1,2,5,6,7,15,16,30,31],.keep [2,5,40],.ren 40 7,.sort]
  exact lb h) h
def FC (clk : Nat) (es : List (Nat × Int × Bool)) (s1 : List X2) (s15 s16 : Int) (w2 : AE) (w7 w5 : List (Int × Bool)) (sn : List Nat) : St := ⟨sp 65 0 [sD 1 (D.l X2.D) s1,bx 2,rx 5,sI 15 s15,sI 16 s16,bx 43],[cL 2 AE.D w2,(5,.mapS (ms dU D.b w5)),(7,.map clk (dl dU D.b es)),(43,.mit 7 clk sn)],[]⟩
def FD (clk : Nat) (es : List (Nat × Int × Bool)) (s1 : List X2) (s15 s16 : Int) (w2 : AE) (w7 : List (Int × Bool)) (o : (List (Int × Bool))) : Ex × St := (.exit 4,⟨sp 65 0 [sD 1 (D.l X2.D) s1,bx 2,rx 5,sI 15 s15,sI 16 s16],[cL 2 AE.D w2,(5,.mapS (ms dU D.b o))],[]⟩)
def aH4 (clk : Nat) (es : List (Nat × Int × Bool)) (s1 : List X2) (s15 s16 : Int) (w2 : AE) (w7 w5 : List (Int × Bool)) : St := ⟨sp 65 0 [sD 1 (D.l X2.D) s1,bx 2,rx 5,sI 15 s15,sI 16 s16],[cL 2 AE.D w2,(5,.mapS (ms dU D.b w5))],[]⟩
set_option maxRecDepth 100000 in
theorem P6 (rd : Option Nat) (clk : Nat) (es : List (Nat × Int × Bool)) (s1 : List X2) (s15 s16 : Int) (w2 : AE) (w7 : List (Int × Bool)) (k : Int) (v : Bool) (w5 : List (Int × Bool)) (sn : List Nat) (st : Nat) (hm : (st,k,v) ∈ es) (o : (List (Int × Bool))) (h : FE s1 s15 s16 w2 w7 k v w5 = some o) : LS Tryz.prog rd (Bu Tryz.prog 16) [0,1,1,1,1,0,0,1,1,0,0,1,0,1,1] ((⟨(FC clk es s1 s15 s16 w2 w7 w5 sn).E,BD (FC clk es s1 s15 s16 w2 w7 w5 sn).B 43 (.mit 7 clk (sn ++ [st])),[]⟩ : St).put (some 44) (.tup [bo true,.d (dU k),.d (D.b v)])) fun zx zs => zx = .normal ∧ Wk zs ((fun s : (List (Int × Bool)) => FC clk es s1 s15 s16 w2 w7 s (sn ++ [st])) o) := by
  unfold FE at h
  obtain rfl := si h
  exact D6 mixed [(46,.en (dU k) (D.b v)),(10048,.ms (ms dU D.b (Eg k true w5)))] [] [.live [1,2,5,15,16,43],.keep [2,5,7,43]] (ai (Mq (fk := dU) (fv := D.b) (clk := clk) (sn := sn) hm) (ai (Mx (aN0 Tryz.underlying33) D.b w5 k true) (ti))) (by kernel_rfl)
set_option maxRecDepth 100000 in
theorem P5 (rd : Option Nat) (clk : Nat) (es : List (Nat × Int × Bool)) (s1 : List X2) (s15 s16 : Int) (w2 : AE) (w7 w5 : List (Int × Bool)) (sn : List Nat) : LS Tryz.prog rd (Bu Tryz.prog 16) [0,1,1,1,1,0,0,1,1,0,0,1,0,1,1] ((FC clk es s1 s15 s16 w2 w7 w5 sn).put (some 44) (.tup [bo false])) fun zx zs => zx = (FD clk es s1 s15 s16 w2 w7 (GI s1 s15 s16 w2 w7 w5)).1 ∧ Wk zs (FD clk es s1 s15 s16 w2 w7 (GI s1 s15 s16 w2 w7 w5)).2 := by
  refine LS.wk (e := .exit 4) (s1 := aH4 clk es s1 s15 s16 w2 w7 w5) (D6 mixed [] [] [.live [1,2,5,15,16],.keep [2,5]] (ti) (by kernel_rfl)) ?_
  exact (Wk.canS 5 (by kernel_rfl) rfl)
set_option maxRecDepth 100000 in
theorem XQ (rd : Option Nat) (clk : Nat) (es : List (Nat × Int × Bool)) (s1 : List X2) (s15 s16 : Int) (w2 : AE) (w7 w5 : List (Int × Bool)) (hp : (es.map (·.2)).Perm w7) (o : (List (Int × Bool))) (h : P4 s1 s15 s16 w2 w7 w5 = some o) : Cl Tryz.prog rd (Bu Tryz.prog 16) [0,1,1,1,1,0,0,1,1,0,0,1,0,1,1] (FC clk es s1 s15 s16 w2 w7 w5 []) ((FD clk es s1 s15 s16 w2 w7) o).1 ((FD clk es s1 s15 s16 w2 w7) o).2 :=
  Mn (fk := dU) (fv := D.b) (step := (fun (x : Int × Bool) (s : (List (Int × Bool))) => FE s1 s15 s16 w2 w7 x.1 x.2 s)) (s0 := w5) 43 44 43 7 clk es (fun (sn : List Nat) (s : (List (Int × Bool))) => FC clk es s1 s15 s16 w2 w7 s sn) (FD clk es s1 s15 s16 w2 w7) (by kernel_rfl) (N8 (by rfl)) (fun _ _ => by kernel_rfl) (fun _ _ => by kernel_rfl) (fun _ _ => by kernel_rfl) hp
    (fun sn s k v st a hm h => P6 rd clk es s1 s15 s16 w2 w7 k v s sn st hm a h) (fun sn s hc => hc ▸ P5 rd clk es s1 s15 s16 w2 w7 s sn) h
theorem XI (rd : Option Nat) (h : OX cR cJ cK cU cV cX = some cY) : Lq 16 rd 14951 ⟨sp 65 0 [sD 1 (D.l X2.D) cR,bx 2,rx 5,rx 7,sI 15 cJ,sI 16 cK],[cL 2 AE.D cU,(5,.mapS (ms dU D.b cV)),(7,.mapS (ms dU D.b cX))],[]⟩ (.normal,⟨sp 65 0 [sD 1 (D.l X2.D) cR,bx 2,rx 5,sI 15 cJ,sI 16 cK],[cL 2 AE.D cU,(5,.mapS (ms dU D.b cY))],[]⟩) := by
  unfold OX at h
  obtain ⟨o5,h7,h⟩ := bS h
  obtain rfl := si h
  exact Arr.lp (Arr.exact (fk := dU) (fv := D.b) (S := cX) 7 (by kernel_rfl) fun clk es hp => E3 mixed [] [⟨[0,1,1,1,1,0,0,1,1,0,0,1,0,1,1],[.live [1,2,5,15,16,43],.keep [2,5,7,43]],.exit 4,(FD clk es cR cJ cK cU cX o5).2⟩] [.live [1,2,5,15,16],.keep [2,5]] (ai (XQ rd clk es cR cJ cK cU cX cV hp o5 h7) (ti)) (by kernel_rfl))
def Pz (s1 : List X2) (s15 : Int) (w2 : AE) (s16 : Int) (w5 : List (Int × Bool)) : St := ⟨sp 65 0 [sD 1 (D.l X2.D) s1,bx 2,rx 5,sI 15 s15,sI 16 s16],[cL 2 AE.D w2,(5,.mapS (ms dU D.b w5))],[]⟩
def P0 (s1 : List X2) (s15 : Int) (w2 : AE) (o : (List (Int × Bool))) : Ex × St := (.exit 0,⟨sp 65 0 [rx 5],[(5,.mapS (ms dU D.b o))],[]⟩)
theorem XM (rd : Option Nat) (h : Py cR cJ cU cK cV = some cY) : Lq 16 rd 58 (Pz cR cJ cU cK cV) ((P0 cR cJ cU) cY) :=
  lL (fun s : Int × (List (Int × Bool)) => Pz cR cJ cU s.1 s.2) (P0 cR cJ cU) (cK,cV) (fun ⟨cK,cV⟩ o h => by
  unfold EH at h
  refine iB 17 h (fun h => ?_) fun h => ?_
  refine gW 19 .frz ?_
  obtain ⟨r1,h2,h⟩ := bS h
  refine gC 22 (aQj h2) <| gQ (Mx (aN0 Tryz.underlying33) D.b ([] : List (Int × Bool)) r1 true) <| gW 10019 (.ms (ms dU D.b (Eg r1 true ([] : List (Int × Bool))))) <| xX 27 X6.D h fun x2 h => ?_
  refine gN 30 dZ x2.types ?_
  obtain ⟨o4,h6,h⟩ := bS h
  refine gL [.live [1,2,5,6,7,15,16,30,31],.keep [2,5,19],.ren 19 7,.sort] (XO rd h6) ?_
  obtain ⟨o6,h8,h⟩ := bS h
  refine gl (XI rd h8) ?_
  exact lb h
  exact lb h) h
def FF (clk : Nat) (es : List (Nat × Int × Bool)) (w5 : List (Int × Bool)) (w10 : List Int) (sn : List Nat) : St := ⟨sp 65 0 [rx 10,bx 53],[(5,.map clk (dl dU D.b es)),rW 10 33 1 dU w10,(53,.mit 5 clk sn)],[]⟩
def FH (clk : Nat) (es : List (Nat × Int × Bool)) (w5 : List (Int × Bool)) (o : List Int) : Ex × St := (.exit 6,⟨sp 65 0 [rx 10],[(10,.bag 33 1 (o.map dU))],[]⟩)
def aH5 (clk : Nat) (es : List (Nat × Int × Bool)) (w5 : List (Int × Bool)) (w10 : List Int) : St := ⟨sp 65 0 [rx 10],[rW 10 33 1 dU w10],[]⟩
set_option maxRecDepth 100000 in
theorem P9 (rd : Option Nat) (clk : Nat) (es : List (Nat × Int × Bool)) (w5 : List (Int × Bool)) (k : Int) (v : Bool) (w10 : List Int) (sn : List Nat) (st : Nat) (hm : (st,k,v) ∈ es) (o : List Int) (h : DU w5 k v w10 = some o) : LS Tryz.prog rd (Bu Tryz.prog 16) [0,1,0,1,1,1,1,1] ((⟨(FF clk es w5 w10 sn).E,BD (FF clk es w5 w10 sn).B 53 (.mit 5 clk (sn ++ [st])),[]⟩ : St).put (some 54) (.tup [bo true,.d (dU k),.d (D.b v)])) fun zx zs => zx = .normal ∧ Wk zs ((fun s : List Int => FF clk es w5 s (sn ++ [st])) o) := by
  unfold DU at h
  obtain ⟨h10,h⟩ := cS h
  obtain rfl := si h
  exact D6 mixed [(56,.en (dU k) (D.b v)),(61,.rwl ((w10 ++ [k]).map dU))] [] [.live [10,53],.keep [5,53,61],.ren 61 10,.sort] (ai (Mq (fk := dU) (fv := D.b) (clk := clk) (sn := sn) hm) (ai (Ak dU [k]) (ai (Ak dU [k]) (ai (Ap dU h10) (ai (Ao dU w10 [k]) (ti)))))) (by kernel_rfl)
set_option maxRecDepth 100000 in
theorem P8 (rd : Option Nat) (clk : Nat) (es : List (Nat × Int × Bool)) (w5 : List (Int × Bool)) (w10 : List Int) (sn : List Nat) : LS Tryz.prog rd (Bu Tryz.prog 16) [0,1,0,1,1,1,1,1] ((FF clk es w5 w10 sn).put (some 54) (.tup [bo false])) fun zx zs => zx = (FH clk es w5 (JC w5 w10)).1 ∧ Wk zs (FH clk es w5 (JC w5 w10)).2 := by
  refine LS.wk (e := .exit 6) (s1 := aH5 clk es w5 w10) (D6 mixed [] [] [.live [10],.keep [10]] (ti) (by kernel_rfl)) ?_
  exact (Wk.canB 10 (CY _).symm (by kernel_rfl) rfl)
set_option maxRecDepth 100000 in
theorem XS (rd : Option Nat) (clk : Nat) (es : List (Nat × Int × Bool)) (w5 : List (Int × Bool)) (w10 : List Int) (hp : (es.map (·.2)).Perm w5) (o : List Int) (h : P7 w5 w10 = some o) : Cl Tryz.prog rd (Bu Tryz.prog 16) [0,1,0,1,1,1,1,1] (FF clk es w5 w10 []) ((FH clk es w5) o).1 ((FH clk es w5) o).2 :=
  Mn (fk := dU) (fv := D.b) (step := (fun (x : Int × Bool) (s : List Int) => DU w5 x.1 x.2 s)) (s0 := w10) 53 54 53 5 clk es (fun (sn : List Nat) (s : List Int) => FF clk es w5 s sn) (FH clk es w5) (by kernel_rfl) (N8 (by rfl)) (fun _ _ => by kernel_rfl) (fun _ _ => by kernel_rfl) (fun _ _ => by kernel_rfl) hp
    (fun sn s k v st a hm h => P9 rd clk es w5 k v s sn st hm a h) (fun sn s hc => hc ▸ P8 rd clk es w5 s sn) h
theorem XK (rd : Option Nat) (h : OY cV = some cZ) : Lq 16 rd 126 ⟨sp 65 0 [rx 5,(10,.nil)],[(5,.mapS (ms dU D.b cV))],[]⟩ (.normal,⟨sp 65 0 [rx 10],[(10,.bag 33 1 (cZ.map dU))],[]⟩) := by
  unfold OY at h
  obtain ⟨o8,h11,h⟩ := bS h
  obtain rfl := si h
  exact Arr.lp (Arr.exact (fk := dU) (fv := D.b) (S := cV) 5 (by kernel_rfl) fun clk es hp => E3 mixed [] [⟨[0,1,0,1,1,1,1,1],[.live [10,53],.keep [5,53],.nilw 10 10 33 1,.sort],.exit 6,(FH clk es cV o8).2⟩] [.live [10],.keep [10]] (ai (XS rd clk es cV ([] : List Int) hp o8 h11) (ti)) (by kernel_rfl))
theorem aH6 (h : X4 cU cR = some cN) : AL Tryz.prog 16 [.d (AE.D cU),.d ((D.l X2.D) cR)] [] (.d ((D.l dU) cN)) [] := by
  unfold X4 at h
  apply g0 (o := cN)
  refine gN 15 X6.D cU.decls <| gW 12 .frz ?_
  obtain ⟨o7,h9,h⟩ := bS h
  refine gL [.live [1,2,5,15,16],.keep [2,12],.ren 12 5,.sort] (XM none h9) <| gQ (aKb (aN0 Tryz.underlying33) D.b o7 0) <| gW 10051 (.ms (ms dU D.b (LO 0 o7))) ?_
  obtain ⟨o9,h12,h⟩ := bS h
  refine gl (XK none h12) ?_
  obtain ⟨r10,h13,h⟩ := bS h
  refine gG 63 (.cx true [(0,10)] [] (.tup []) [rW 0 33 1 dU r10]) (aO0 h13) ?_
  exact lF h [.frz 10]
theorem aPe (h : U5 d3 = some d4) : AL Tryz.prog 70 [.d (Xm.D d3)] [] (.d (D.b d4)) [] := by
  unfold U5 at h
  apply g0 (o := d4)
  exact lf h
def UB (s0 : List Xm) (s7 s8 : Int) : St := ⟨sp 19 0 [sD 0 (D.l Xm.D) s0,(1,.clo (.func 70) [] []),sI 7 s7,sI 8 s8],[],[]⟩
def UC (s0 : List Xm) (s7 : Int) (o : Unit ⊕ Int) : Ex × St := match o with
  | .inl o => (.exit 0,⟨sp 19 0 [],[],[]⟩)
  | .inr o => (.ret,⟨sp 19 0 [sI 4 o],[],[]⟩)
theorem aDy (rd : Option Nat) (h : aDw d5 cJ cK = some d6) : Lq 105 rd 26 (UB d5 cJ cK) ((UC d5 cJ) d6) :=
  lL (fun s : Int => UB d5 cJ s) (UC d5 cJ) cK (fun cK o h => by
  unfold MH at h
  refine iB 9 h (fun h => ?_) fun h => ?_
  refine xX 14 Xm.D h fun x1 h => ?_
  obtain ⟨r2,h3,h⟩ := bS h
  refine gQ (aPe h3) ?_
  cases r2
  replace h := B1 h
  refine gW 16 (.ret (.d (D.b false))) ?_
  exact lb h
  replace h := B2 h
  refine gW 16 (.ret (.d (D.b true))) ?_
  exact lb h
  exact lb h) h
theorem aQ8 (h : Yj d5 = some cJ) : AL Tryz.prog 105 [.d ((D.l Xm.D) d5),.clo (.func 70) [] []] [] (dI cJ) [] := by
  unfold Yj at h
  apply g0 (o := cJ)
  refine gN 7 Xm.D d5 ?_
  obtain ⟨o3,h5,h⟩ := bS h
  refine gl (aDy none h5) ?_
  replace h := AK h
  rcases h with ⟨o4,rfl,h⟩ | ⟨o5,rfl,h⟩
  exact lf h
  exact lf h
theorem aSg (h : Zp d5 = some d4) : AL Tryz.prog 69 [.d ((D.l Xm.D) d5),.clo (.func 70) [] []] [] (.d (D.b d4)) [] := by
  unfold Zp at h
  apply g0 (o := d4)
  obtain ⟨r1,h1,h⟩ := bS h
  refine gC 7 (aQ8 h1) ?_
  exact lf h
theorem aSj (h : Zq cU = some d4) : AL Tryz.prog 44 [.d (AE.D cU)] [] (.d (D.b d4)) [] := by
  unfold Zq at h
  apply g0 (o := d4)
  refine gN 5 Ya.D cU.frees ?_
  refine iB 7 h (fun h => ?_) fun h => ?_
  obtain ⟨r1,h2,h⟩ := bS h
  refine gC 10 (aSg h2) ?_
  exact lf h
  exact lf h
theorem aSm (h : Zr cU = some d4) : AL Tryz.prog 26 [.d (AE.D cU)] [] (.d (D.b d4)) [] := by
  unfold Zr at h
  apply g0 (o := d4)
  obtain ⟨r1,h1,h⟩ := bS h
  refine gQ (aSj h1) ?_
  cases r1
  replace h := B1 h
  refine gW 4 (.ret (.d (D.b false))) ?_
  exact lf h
  replace h := B2 h
  refine gN 8 Y4.D cU.quants <| gW 4 (.ret (.d (D.b true))) ?_
  refine iB 11 h (fun h => ?_) fun h => ?_
  refine gN 14 Yh.D cU.states ?_
  refine iB 17 h (fun h => ?_) fun h => ?_
  refine gN 20 X5.D cU.symbols ?_
  exact lf h
  exact lf h
  exact lf h
theorem aE2 (h : Zh = some d4) : AL Tryz.prog 7 [] [] (.d (D.b d4)) [] := by
  unfold Zh at h
  apply g0 (o := d4)
  refine gQ (Ak dZ [1]) <| gQ (Ak X6.D ([X6.mk ([97] : List UInt8) [1]])) <| gQ (Ak Y4.D ([Y4.mk false ([120] : List UInt8) 1])) <| gQ (Ak Yh.D ([Yh.mk ([115] : List UInt8) false false])) <| gQ (Ak Av.D ([Av.mk 2 0 (X0.mk 0 0 ([] : List UInt8) false)])) ?_
  obtain ⟨r1,h1,h⟩ := bS h
  refine gC 14 (aJn h1) <| gQ (Ak Av.D [Av.mk 1 0 r1]) <| gQ (Ak X5.D ([X5.mk 0 ([Av.mk 2 0 (X0.mk 0 0 ([] : List UInt8) false)]),X5.mk 0 [Av.mk 1 0 r1]])) ?_
  obtain ⟨r2,h2,h⟩ := bS h
  refine gC 21 (aJn h2) <| gQ (Ak X2.D [X2.mk 0 r2]) ?_
  obtain ⟨r3,h3,h⟩ := bS h
  refine gC 24 (aH6 h3) ?_
  obtain ⟨r4,h4,h⟩ := bS h
  refine gC 26 (aJn h4) <| gQ (Ak X2.D [X2.mk 0 r4]) ?_
  obtain ⟨r5,h5,h⟩ := bS h
  refine gC 29 (aH6 h5) ?_
  obtain ⟨r6,h6,h⟩ := bS h
  refine gQ (aSm h6) ?_
  cases r6
  replace h := B1 h
  refine gW 31 (.ret (.d (D.b false))) ?_
  exact lf h
  replace h := B2 h
  refine gN 34 dU r3 <| gW 31 (.ret (.d (D.b true))) ?_
  refine iB 37 h (fun h => ?_) fun h => ?_
  refine xX 39 dU h fun x7 h => ?_
  refine iB 43 h (fun h => ?_) fun h => ?_
  refine gN 45 dU r5 ?_
  refine iB 48 h (fun h => ?_) fun h => ?_
  refine xX 50 dU h fun x8 h => ?_
  refine iB 54 h (fun h => ?_) fun h => ?_
  refine xX 56 dU h fun x9 h => ?_
  exact lf h
  exact lf h
  exact lf h
  exact lf h
  exact lf h
def Ty (s0 : List X0) (w3 : X0) (s5 : Int) : St := ⟨sp 48 0 [sD 0 (D.l X0.D) s0,bx 3,sI 5 s5],[cL 3 X0.D w3],[]⟩
def Tz (s0 : List X0) (w3 : X0) (o : Int) : Ex × St := (.exit 0,⟨sp 48 0 [sD 0 (D.l X0.D) s0,bx 3,sI 5 o],[cL 3 X0.D w3],[]⟩)
theorem aDh (rd : Option Nat) (h : aIz d7 d8 cJ = some cK) : Lq 76 rd 28 (Ty d7 d8 cJ) ((Tz d7 d8) cK) :=
  lL (fun s : Int => Ty d7 d8 s) (Tz d7 d8) cJ (fun cJ o h => by
  unfold HA at h
  refine iB 11 h (fun h => ?_) fun h => ?_
  refine xX 16 X0.D h fun x1 h => ?_
  obtain ⟨r2,h3,h⟩ := bS h
  refine gQ (aJl h3) ?_
  cases r2
  replace h := B1 h
  refine gW 18 (.ret (.d (D.b false))) ?_
  exact lb h
  replace h := B2 h
  refine gW 18 (.ret (.d (D.b true))) ?_
  exact lb h
  exact lb h) h
theorem O1 (h : Yd d7 d8 = some d9) : AL Tryz.prog 76 [.d ((D.l X0.D) d7),.d (X0.D d8)] [] (.d ((D.l X0.D) d9)) [] := by
  unfold Yd at h
  apply g0 (o := d9)
  refine gN 8 X0.D d7 ?_
  obtain ⟨o3,h5,h⟩ := bS h
  refine gl (aDh none h5) ?_
  refine iB 24 h (fun h => ?_) fun h => ?_
  refine xX 28 X0.D h fun x4 h => ?_
  refine iB 32 h (fun h => ?_) fun h => ?_
  exact lf h
  refine gQ (Ak X0.D ([] : List X0)) <| gW 37 (.sl ((sub d7 0 o3).map X0.D)) <| gW 38 (.sl ((([] : List X0) ++ (sub d7 0 o3)).map X0.D)) <| gW 42 (.sl (((([] : List X0) ++ (sub d7 0 o3)) ++ [d8]).map X0.D)) <| gW 46 (.sl ((sub d7 o3 (d7.length : Int)).map X0.D)) <| gW 47 (.sl ((((([] : List X0) ++ (sub d7 0 o3)) ++ [d8]) ++ (sub d7 o3 (d7.length : Int))).map X0.D)) ?_
  obtain ⟨h9,h⟩ := cS h
  refine gQ (En X0.D h9) <| gQ (Ak X0.D (sub d7 0 o3)) ?_
  obtain ⟨h10,h⟩ := cS h
  refine gQ (Ap X0.D h10) <| gQ (Ao X0.D ([] : List X0) (sub d7 0 o3)) <| gQ (Ak X0.D [d8]) <| gQ (Ak X0.D [d8]) ?_
  obtain ⟨h11,h⟩ := cS h
  refine gQ (Ap X0.D h11) <| gQ (Ao X0.D (([] : List X0) ++ (sub d7 0 o3)) [d8]) ?_
  obtain ⟨h12,h⟩ := cS h
  refine gQ (Em X0.D h12) <| gQ (Ak X0.D (sub d7 o3 (d7.length : Int))) ?_
  obtain ⟨h13,h⟩ := cS h
  refine gQ (Ap X0.D h13) <| gQ (Ao X0.D ((([] : List X0) ++ (sub d7 0 o3)) ++ [d8]) (sub d7 o3 (d7.length : Int))) ?_
  exact lf h
  refine gQ (Ak X0.D ([] : List X0)) <| gW 37 (.sl ((sub d7 0 o3).map X0.D)) <| gW 38 (.sl ((([] : List X0) ++ (sub d7 0 o3)).map X0.D)) <| gW 42 (.sl (((([] : List X0) ++ (sub d7 0 o3)) ++ [d8]).map X0.D)) <| gW 46 (.sl ((sub d7 o3 (d7.length : Int)).map X0.D)) <| gW 47 (.sl ((((([] : List X0) ++ (sub d7 0 o3)) ++ [d8]) ++ (sub d7 o3 (d7.length : Int))).map X0.D)) ?_
  obtain ⟨h14,h⟩ := cS h
  refine gQ (En X0.D h14) <| gQ (Ak X0.D (sub d7 0 o3)) ?_
  obtain ⟨h15,h⟩ := cS h
  refine gQ (Ap X0.D h15) <| gQ (Ao X0.D ([] : List X0) (sub d7 0 o3)) <| gQ (Ak X0.D [d8]) <| gQ (Ak X0.D [d8]) ?_
  obtain ⟨h16,h⟩ := cS h
  refine gQ (Ap X0.D h16) <| gQ (Ao X0.D (([] : List X0) ++ (sub d7 0 o3)) [d8]) ?_
  obtain ⟨h17,h⟩ := cS h
  refine gQ (Em X0.D h17) <| gQ (Ak X0.D (sub d7 o3 (d7.length : Int))) ?_
  obtain ⟨h18,h⟩ := cS h
  refine gQ (Ap X0.D h18) <| gQ (Ao X0.D ((([] : List X0) ++ (sub d7 0 o3)) ++ [d8]) (sub d7 o3 (d7.length : Int))) ?_
  exact lf h
theorem aAw (rd : Option Nat) (h : SZ cJ d4 cU = some dA) : Lq 75 rd 29 ⟨sp 56 0 [sI 1 cJ,bx 2,(5,.nil),sD 10 D.b d4],[cL 2 AE.D cU],[]⟩ (.normal,⟨sp 56 0 [sI 1 cJ,bx 2,rx 5],[cL 2 AE.D cU,(5,.row 54 4 (dA.map X0.D))],[]⟩) := by
  unfold SZ at h
  apply g0 (o := dA)
  cases d4
  replace h := B1 h
  exact lP h [.live [1,2,5],.keep [2],.nil 5 5 54 4,.sort]
  replace h := B2 h
  refine gQ (Ak X0.D ([X0.mk 3 0 ([] : List UInt8) false,X0.mk 3 0 ([] : List UInt8) true])) ?_
  exact lP h [.live [1,2,5],.keep [2,13],.ren 13 5,.sort]
theorem NT (rd : Option Nat) (h : Sa cJ d7 cK cM d4 cU dB = some dA) : Lq 75 rd 500883 ⟨sp 56 0 [sI 1 cJ,bx 2,sD 5 (D.l X0.D) d7,sI 6 cK,sI 7 cM,bx 8,sD 50 D.b d4],[cL 2 AE.D cU,cL 8 Av.D dB],[]⟩ (.normal,⟨sp 56 0 [sI 1 cJ,bx 2,sD 5 (D.l X0.D) dA,sI 6 cK,sI 7 cM],[cL 2 AE.D cU],[]⟩) := by
  unfold Sa at h
  apply g0 (o := dA)
  cases d4
  replace h := B1 h
  exact lp h
  replace h := B2 h
  obtain ⟨r12,h20,h⟩ := bS h
  refine gC 54 (O1 h20) ?_
  exact lp h
theorem aAy (rd : Option Nat) (h : aAx cJ d7 cK cM cU = some dA) : Lq 75 rd 62610 ⟨sp 56 0 [sI 1 cJ,bx 2,sD 5 (D.l X0.D) d7,sI 6 cK,sI 7 cM],[cL 2 AE.D cU],[]⟩ (.normal,⟨sp 56 0 [sI 1 cJ,bx 2,sD 5 (D.l X0.D) dA,sI 6 cK,sI 7 cM],[cL 2 AE.D cU],[]⟩) := by
  unfold aAx at h
  apply g0 (o := dA)
  refine xX 35 X5.D h fun x10 h => ?_
  refine xX 39 Av.D h fun x11 h => ?_
  refine iB 44 h (fun h => ?_) fun h => ?_
  obtain ⟨o13,h21,h⟩ := bS h
  refine gl (NT rd h21) ?_
  exact lp h
  obtain ⟨o14,h22,h⟩ := bS h
  refine gl (NT rd h22) ?_
  exact lp h
def Sd (s1 s6 : Int) (w2 : AE) (s5 : List X0) (s7 : Int) : St := ⟨sp 56 0 [sI 1 s1,bx 2,sD 5 (D.l X0.D) s5,sI 6 s6,sI 7 s7],[cL 2 AE.D w2],[]⟩
def Se (s1 s6 : Int) (w2 : AE) (o : (List X0)) : Ex × St := (.exit 2,⟨sp 56 0 [sI 1 s1,bx 2,sD 5 (D.l X0.D) o,sI 6 s6],[cL 2 AE.D w2],[]⟩)
theorem aA1 (rd : Option Nat) (h : aA0 cJ cK cU d7 cM = some dA) : Lq 75 rd 7826 (Sd cJ cK cU d7 cM) ((Se cJ cK cU) dA) :=
  lL (fun s : List X0 × Int => Sd cJ cK cU s.1 s.2) (Se cJ cK cU) (d7,cM) (fun ⟨d7,cM⟩ o h => by
  unfold Gr at h
  refine xX 25 X5.D h fun x17 h => ?_
  refine gN 28 Av.D x17.args ?_
  refine iB 29 h (fun h => ?_) fun h => ?_
  obtain ⟨o18,h28,h⟩ := bS h
  refine gl (aAy rd h28) ?_
  exact lb h
  exact lb h) h
def Sb (s1 : Int) (w2 : AE) (s5 : List X0) (s6 : Int) : St := ⟨sp 56 0 [sI 1 s1,bx 2,sD 5 (D.l X0.D) s5,sI 6 s6],[cL 2 AE.D w2],[]⟩
def Sc (s1 : Int) (w2 : AE) (o : (List X0)) : Ex × St := (.exit 0,⟨sp 56 0 [sD 5 (D.l X0.D) o],[],[]⟩)
theorem aAz (rd : Option Nat) (h : aIj cJ cU d7 cK = some dA) : Lq 75 rd 122 (Sb cJ cU d7 cK) ((Sc cJ cU) dA) :=
  lL (fun s : List X0 × Int => Sb cJ cU s.1 s.2) (Sc cJ cU) (d7,cK) (fun ⟨d7,cK⟩ o h => by
  unfold Gq at h
  refine gN 17 X5.D cU.symbols ?_
  refine iB 18 h (fun h => ?_) fun h => ?_
  obtain ⟨o19,h29,h⟩ := bS h
  refine gl (aA1 rd h29) ?_
  exact lb h
  exact lb h) h
theorem aQb (h : Xn cU cJ = some d7) : AL Tryz.prog 75 [.d (AE.D cU),dI cJ] [] (.d ((D.l X0.D) d7)) [] := by
  unfold Xn at h
  apply g0 (o := d7)
  obtain ⟨o1,h2,h⟩ := bS h
  refine gl (aAw none h2) ?_
  obtain ⟨o20,h30,h⟩ := bS h
  refine gL [.look 5,.live [1,2,5,6],.keep [2]] (aAz none h30) ?_
  exact lf h
theorem aDj (rd : Option Nat) (h : aI1 d7 cJ d9 cK d4 = some dA) : Lq 79 rd 1865 ⟨sp 27 0 [sD 0 (D.l X0.D) d7,sI 1 cJ,sD 5 (D.l X0.D) d9,sI 6 cK,sD 19 D.b d4],[],[]⟩ (.normal,⟨sp 27 0 [sD 0 (D.l X0.D) d7,sI 1 cJ,sD 5 (D.l X0.D) dA,sI 6 cK],[],[]⟩) := by
  unfold aI1 at h
  apply g0 (o := dA)
  cases d4
  replace h := B1 h
  exact lp h
  replace h := B2 h
  refine xX 23 X0.D h fun x7 h => ?_
  obtain ⟨r8,h12,h⟩ := bS h
  refine gC 25 (O1 h12) ?_
  exact lp h
theorem aDi (rd : Option Nat) (h : aI0 d7 cJ d9 cK = some dA) : Lq 79 rd 466 ⟨sp 27 0 [sD 0 (D.l X0.D) d7,sI 1 cJ,sD 5 (D.l X0.D) d9,sI 6 cK],[],[]⟩ (.normal,⟨sp 27 0 [sD 0 (D.l X0.D) d7,sI 1 cJ,sD 5 (D.l X0.D) dA,sI 6 cK],[],[]⟩) := by
  unfold aI0 at h
  apply g0 (o := dA)
  refine xX 15 X0.D h fun x6 h => ?_
  obtain ⟨o9,h13,h⟩ := bS h
  refine gl (aDj rd h13) ?_
  exact lp h
def T0 (s0 : List X0) (s1 : Int) (s5 : List X0) (s6 : Int) : St := ⟨sp 27 0 [sD 0 (D.l X0.D) s0,sI 1 s1,sD 5 (D.l X0.D) s5,sI 6 s6],[],[]⟩
def T3 (s0 : List X0) (s1 : Int) (o : (List X0)) : Ex × St := (.exit 0,⟨sp 27 0 [sD 5 (D.l X0.D) o],[],[]⟩)
theorem aDm (rd : Option Nat) (h : aDk d7 cJ d9 cK = some dA) : Lq 79 rd 58 (T0 d7 cJ d9 cK) ((T3 d7 cJ) dA) :=
  lL (fun s : List X0 × Int => T0 d7 cJ s.1 s.2) (T3 d7 cJ) (d9,cK) (fun ⟨d9,cK⟩ o h => by
  unfold JO at h
  refine gN 9 X0.D d7 ?_
  refine iB 10 h (fun h => ?_) fun h => ?_
  obtain ⟨o10,h14,h⟩ := bS h
  refine gl (aDi rd h14) ?_
  exact lb h
  exact lb h) h
theorem aQ4 (h : Ye d7 cJ = some d9) : AL Tryz.prog 79 [.d ((D.l X0.D) d7),dI cJ] [] (.d ((D.l X0.D) d9)) [] := by
  unfold Ye at h
  apply g0 (o := d9)
  obtain ⟨o11,h15,h⟩ := bS h
  refine gL [.look 5,.live [0,1,5,6],.keep []] (aDm none h15) ?_
  exact lf h
def Ul (s1 s5 : List X0) (s6 : Int) : St := ⟨sp 21 0 [sD 1 (D.l X0.D) s1,sD 5 (D.l X0.D) s5,sI 6 s6],[],[]⟩
def Um (s1 : List X0) (o : (List X0)) : Ex × St := (.exit 0,⟨sp 21 0 [sD 5 (D.l X0.D) o],[],[]⟩)
theorem aEk (rd : Option Nat) (h : aEi d7 d9 cJ = some dA) : Lq 78 rd 58 (Ul d7 d9 cJ) ((Um d7) dA) :=
  lL (fun s : List X0 × Int => Ul d7 s.1 s.2) (Um d7) (d9,cJ) (fun ⟨d9,cJ⟩ o h => by
  unfold JS at h
  refine gN 10 X0.D d7 ?_
  refine iB 11 h (fun h => ?_) fun h => ?_
  refine xX 17 X0.D h fun x1 h => ?_
  obtain ⟨r2,h3,h⟩ := bS h
  refine gC 19 (O1 h3) ?_
  exact lb h
  exact lb h) h
theorem aRo (h : Z0 d7 d9 = some dC) : AL Tryz.prog 78 [.d ((D.l X0.D) d7),.d ((D.l X0.D) d9)] [] (.d ((D.l X0.D) dC)) [] := by
  unfold Z0 at h
  apply g0 (o := dC)
  obtain ⟨o3,h4,h⟩ := bS h
  refine gl (aEk none h4) ?_
  exact lf h
theorem aOp (h : Qh d7 d8 = some d4) : AL Tryz.prog 108 [.d ((D.l X0.D) d7),.d (X0.D d8)] [] (.d (D.b d4)) [] := by
  unfold Qh at h
  apply g0 (o := d4)
  refine gW 10 (.int (d7.length : Int)) ?_
  obtain ⟨r1,h1,h⟩ := bS h
  refine gC 7 (O1 h1) <| gN 8 X0.D r1 <| gQ (DC X0.D d7) ?_
  exact lf h
theorem aCn (rd : Option Nat) (h : aCm cJ d7 d4 d8 dD = some dE) : Lq 77 rd 453 ⟨sp 22 0 [sI 0 cJ,sD 1 (D.l X0.D) d7,bx 4,bx 5,sD 12 D.b d4],[cL 4 X0.D d8,cL 5 X0.D dD],[]⟩ (.normal,⟨sp 22 0 [sI 0 cJ,sD 1 (D.l X0.D) d7,bx 4,bx 5],[cL 4 X0.D d8,cL 5 X0.D dE],[]⟩) := by
  unfold aCm at h
  apply g0 (o := dE)
  cases d4
  replace h := B1 h
  refine gW 19 (.str (dD.str ++ ([97] : List UInt8))) ?_
  obtain ⟨h4,h⟩ := cS h
  refine gQ (H9 h4) ?_
  exact lp h
  replace h := B2 h
  exact lp h
theorem aCl (rd : Option Nat) (h : Tf cJ d7 d8 dD = some dE) : Lq 77 rd 113 ⟨sp 22 0 [sI 0 cJ,sD 1 (D.l X0.D) d7,bx 4,bx 5],[cL 4 X0.D d8,cL 5 X0.D dD],[]⟩ (.normal,⟨sp 22 0 [sI 0 cJ,sD 1 (D.l X0.D) d7,bx 4,bx 5],[cL 4 X0.D d8,cL 5 X0.D dE],[]⟩) := by
  unfold Tf at h
  apply g0 (o := dE)
  obtain ⟨o2,h5,h⟩ := bS h
  refine gl (aCn rd h5) ?_
  exact lp h
def Th (s0 : Int) (s1 : List X0) (w4 w5 : X0) : St := ⟨sp 22 0 [sI 0 s0,sD 1 (D.l X0.D) s1,bx 4,bx 5],[cL 4 X0.D w4,cL 5 X0.D w5],[]⟩
def Ti (s0 : Int) (s1 : List X0) (w4 o : X0) : Ex × St := (.exit 0,⟨sp 22 0 [bx 4,bx 5],[cL 4 X0.D w4,cL 5 X0.D o],[]⟩)
theorem aCo (rd : Option Nat) (h : Tg cJ d7 d8 dD = some dE) : Lq 77 rd 28 (Th cJ d7 d8 dD) ((Ti cJ d7 d8) dE) :=
  lL (fun s : X0 => Th cJ d7 d8 s) (Ti cJ d7 d8) dD (fun dD o h => by
  unfold G4 at h
  obtain ⟨r1,h1,h⟩ := bS h
  refine gQ (aOp h1) ?_
  cases r1
  replace h := B1 h
  refine gW 10 (.ret (.d (D.b false))) ?_
  exact lb h
  replace h := B2 h
  refine gW 10 (.ret (.d (D.b true))) ?_
  obtain ⟨o3,h6,h⟩ := bS h
  refine gl (aCl rd h6) ?_
  exact lb h) h
theorem aQx (h : Y2 cJ d7 = some d8) : AL Tryz.prog 77 [dI cJ,.d ((D.l X0.D) d7)] [] (.d (X0.D d8)) [] := by
  unfold Y2 at h
  apply g0 (o := d8)
  obtain ⟨o4,h7,h⟩ := bS h
  refine gl (aCo none h7) ?_
  exact lf h
theorem aC5 (rd : Option Nat) (h : aC4 cJ cR d7 d9 cK d4 = some dA) : Lq 52 rd 1865 ⟨sp 47 0 [sI 1 cJ,sD 2 (D.l X2.D) cR,sD 3 (D.l X0.D) d7,sD 9 (D.l X0.D) d9,sI 10 cK,sD 27 D.b d4],[],[]⟩ (.normal,⟨sp 47 0 [sI 1 cJ,sD 2 (D.l X2.D) cR,sD 3 (D.l X0.D) d7,sD 9 (D.l X0.D) dA,sI 10 cK],[],[]⟩) := by
  unfold aC4 at h
  apply g0 (o := dA)
  cases d4
  replace h := B1 h
  exact lp h
  replace h := B2 h
  refine xX 31 X2.D h fun x3 h => ?_
  obtain ⟨r4,h6,h⟩ := bS h
  refine gC 34 (O1 h6) ?_
  exact lp h
theorem aC3 (rd : Option Nat) (h : aC2 cJ cR d7 d9 cK = some dA) : Lq 52 rd 466 ⟨sp 47 0 [sI 1 cJ,sD 2 (D.l X2.D) cR,sD 3 (D.l X0.D) d7,sD 9 (D.l X0.D) d9,sI 10 cK],[],[]⟩ (.normal,⟨sp 47 0 [sI 1 cJ,sD 2 (D.l X2.D) cR,sD 3 (D.l X0.D) d7,sD 9 (D.l X0.D) dA,sI 10 cK],[],[]⟩) := by
  unfold aC2 at h
  apply g0 (o := dA)
  refine xX 22 X2.D h fun x2 h => ?_
  obtain ⟨o5,h7,h⟩ := bS h
  refine gl (aC5 rd h7) ?_
  exact lp h
def Ts (s1 : Int) (s2 : List X2) (s3 s9 : List X0) (s10 : Int) : St := ⟨sp 47 0 [sI 1 s1,sD 2 (D.l X2.D) s2,sD 3 (D.l X0.D) s3,sD 9 (D.l X0.D) s9,sI 10 s10],[],[]⟩
def Tt (s1 : Int) (s2 : List X2) (s3 : List X0) (o : (List X0)) : Ex × St := (.exit 0,⟨sp 47 0 [sI 1 s1,sD 3 (D.l X0.D) s3,sD 9 (D.l X0.D) o],[],[]⟩)
theorem aC7 (rd : Option Nat) (h : aC6 cJ cR d7 d9 cK = some dA) : Lq 52 rd 58 (Ts cJ cR d7 d9 cK) ((Tt cJ cR d7) dA) :=
  lL (fun s : List X0 × Int => Ts cJ cR d7 s.1 s.2) (Tt cJ cR d7) (d9,cK) (fun ⟨d9,cK⟩ o h => by
  unfold G7 at h
  refine gN 16 X2.D cR ?_
  refine iB 17 h (fun h => ?_) fun h => ?_
  obtain ⟨o6,h8,h⟩ := bS h
  refine gl (aC3 rd h8) ?_
  exact lb h
  exact lb h) h
theorem aQ2 (h : Y8 cU cJ cR d7 = some d9) : AL Tryz.prog 52 [.d (AE.D cU),dI cJ,.d ((D.l X2.D) cR),.d ((D.l X0.D) d7)] [] (.d ((D.l X0.D) d9)) [] := by
  unfold Y8 at h
  apply g0 (o := d9)
  obtain ⟨r1,h1,h⟩ := bS h
  refine gC 13 (aQb h1) ?_
  obtain ⟨o7,h9,h⟩ := bS h
  refine gl (aC7 none h9) ?_
  refine iB 36 h (fun h => ?_) fun h => ?_
  exact lf h
  obtain ⟨r8,h11,h⟩ := bS h
  refine gC 43 (aQ4 h11) ?_
  obtain ⟨r9,h12,h⟩ := bS h
  refine gC 44 (aRo h12) ?_
  obtain ⟨r10,h13,h⟩ := bS h
  refine gC 45 (aQx h13) ?_
  obtain ⟨r11,h14,h⟩ := bS h
  refine gC 46 (O1 h14) ?_
  exact lf h
def Tn (s1 : Int) (s2 : List X2) (s3 s4 s12 : List X0) (w5 : AE) (s13 : Int) (w11 : List X3) : St := ⟨sp 72 0 [sI 1 s1,sD 2 (D.l X2.D) s2,sD 3 (D.l X0.D) s3,sD 4 (D.l X0.D) s4,bx 5,rx 11,sD 12 (D.l X0.D) s12,sI 13 s13],[cL 5 AE.D w5,(11,.row 36 2 (w11.map X3.D))],[]⟩
def To (s1 : Int) (s2 : List X2) (s3 s4 s12 : List X0) (w5 : AE) (o : (List X3)) : Ex × St := (.exit 0,⟨sp 72 0 [rx 11],[(11,.row 36 2 (o.map X3.D))],[]⟩)
theorem aCz (rd : Option Nat) (self : AE → Int → (List X2) → (List X0) → (List X0) → Option (List X3)) (hs : ∀ (a0 : AE) (a1 : Int) (a2 : List X2) (a3 a4 : List X0) (r : List X3),self a0 a1 a2 a3 a4 = some r → AL Tryz.prog 32 [.d (AE.D a0),dI a1,.d ((D.l X2.D) a2),.d ((D.l X0.D) a3),.d ((D.l X0.D) a4)] [] (.d ((D.l X3.D) r)) []) {s1 : Int} {s2 : List X2} {s3 s4 s12 : List X0} {w5 : AE} {s13 : Int} {w11 : List X3} {t : (List X3)} (h : aIu self s1 s2 s3 s4 s12 w5 s13 w11 = some t) : Lq 32 rd 250 (Tn s1 s2 s3 s4 s12 w5 s13 w11) ((To s1 s2 s3 s4 s12 w5) t) :=
  lL (fun s : Int × List X3 => Tn s1 s2 s3 s4 s12 w5 s.1 s.2) (To s1 s2 s3 s4 s12 w5) (s13,w11) (fun ⟨s13,w11⟩ o h => by
  unfold G6 at h
  refine gN 50 X0.D s12 ?_
  refine iB 51 h (fun h => ?_) fun h => ?_
  refine gQ (Ak X0.D ([] : List X0)) <| gG 56 (.sl ((([] : List X0) ++ s4).map X0.D)) (Ak X0.D s4) ?_
  obtain ⟨h14,h⟩ := cS h
  refine gQ (Ap X0.D h14) <| gQ (Ao X0.D ([] : List X0) s4) <| xX 59 X0.D h fun x8 h => ?_
  refine gQ (Ak X0.D [x8]) <| gG 62 (.sl (((([] : List X0) ++ s4) ++ [x8]).map X0.D)) (Ak X0.D [x8]) ?_
  obtain ⟨h16,h⟩ := cS h
  refine gQ (Ap X0.D h16) <| gQ (Ao X0.D (([] : List X0) ++ s4) [x8]) ?_
  obtain ⟨r9,h17,h⟩ := bS h
  refine gG 69 (.ret (.d ((D.l X3.D) r9))) (hs w5 s1 s2 s3 ((([] : List X0) ++ s4) ++ [x8]) r9 h17) <| gG 70 (.sl ((w11 ++ r9).map X3.D)) (Ak X3.D r9) ?_
  obtain ⟨h18,h⟩ := cS h
  refine gQ (Ap X3.D h18) <| gQ (Ao X3.D w11 r9) ?_
  exact lB h [.live [1,2,3,4,5,11,12,13],.keep [5,70],.ren 70 11,.sort]
  exact lb h) h
theorem aIt (self : AE → Int → (List X2) → (List X0) → (List X0) → Option (List X3)) (hs : ∀ (a0 : AE) (a1 : Int) (a2 : List X2) (a3 a4 : List X0) (r : List X3),self a0 a1 a2 a3 a4 = some r → AL Tryz.prog 32 [.d (AE.D a0),dI a1,.d ((D.l X2.D) a2),.d ((D.l X0.D) a3),.d ((D.l X0.D) a4)] [] (.d ((D.l X3.D) r)) []) (a0 : AE) (a1 : Int) (a2 : List X2) (a3 a4 : List X0) (r : List X3) (h : aL3 self a0 a1 a2 a3 a4 = some r) : AL Tryz.prog 32 [.d (AE.D a0),dI a1,.d ((D.l X2.D) a2),.d ((D.l X0.D) a3),.d ((D.l X0.D) a4)] [] (.d ((D.l X3.D) r)) [] := by
  unfold aL3 at h
  apply g0 (o := r)
  refine gN 16 X0.D a4 <| xX 20 X6.D h fun x1 h => ?_
  refine gN 23 dZ x1.types ?_
  refine iB 24 h (fun h => ?_) fun h => ?_
  refine xX 28 X6.D h fun x2 h => ?_
  refine gQ (Ak X3.D [X3.mk x2.name a4]) ?_
  exact lf h
  refine gW 42 (.int (a4.length : Int)) <| xX 38 X6.D h fun x3 h => ?_
  refine gQ (DC X0.D a4) <| xX 43 dZ h fun x4 h => ?_
  obtain ⟨r5,h6,h⟩ := bS h
  refine gC 47 (aQ2 h6) ?_
  obtain ⟨o10,h19,h⟩ := bS h
  refine gL [.live [1,2,3,4,5,11,12,13],.keep [5],.nil 11 11 36 2,.sort] (aCz none self hs h19) ?_
  exact lf h
theorem Tp : ∀ (n : Nat) (a0 : AE) (a1 : Int) (a2 : List X2) (a3 a4 : List X0) (r : List X3),aGy n a0 a1 a2 a3 a4 = some r → AL Tryz.prog 32 [.d (AE.D a0),dI a1,.d ((D.l X2.D) a2),.d ((D.l X0.D) a3),.d ((D.l X0.D) a4)] [] (.d ((D.l X3.D) r)) []
  | 0,a0,a1,a2,a3,a4,r,h => by simp [aGy] at h
  | n + 1,a0,a1,a2,a3,a4,r,h => aIt _ (Tp n) a0 a1 a2 a3 a4 r h
theorem aQy (h : Y6 cU cJ cR d7 d9 = some dF) : AL Tryz.prog 32 [.d (AE.D cU),dI cJ,.d ((D.l X2.D) cR),.d ((D.l X0.D) d7),.d ((D.l X0.D) d9)] [] (.d ((D.l X3.D) dF)) [] := Tp 100000 cU cJ cR d7 d9 dF h
def T4 (s0 : List X2) (s1 : Int) (w4 : X0) (s6 : Int) : St := ⟨sp 26 0 [sD 0 (D.l X2.D) s0,sI 1 s1,bx 4,sI 6 s6],[cL 4 X0.D w4],[]⟩
def T5 (s0 : List X2) (s1 : Int) (w4 : X0) (o : Unit ⊕ X0) : Ex × St := match o with
  | .inl o => (.exit 0,⟨sp 26 0 [bx 4],[cL 4 X0.D w4],[]⟩)
  | .inr o => (.ret,⟨sp 26 0 [bx 4,sD 5 D.b true],[cL 4 X0.D o],[]⟩)
theorem aDo (rd : Option Nat) (h : aI2 cR cJ d8 cK = some dG) : Lq 45 rd 26 (T4 cR cJ d8 cK) ((T5 cR cJ d8) dG) :=
  lL (fun s : Int => T4 cR cJ d8 s) (T5 cR cJ d8) cK (fun cK o h => by
  unfold JP at h
  refine gN 9 X2.D cR ?_
  refine iB 10 h (fun h => ?_) fun h => ?_
  refine xX 15 X2.D h fun x1 h => ?_
  refine iB 19 h (fun h => ?_) fun h => ?_
  refine xX 22 X2.D h fun x2 h => ?_
  exact lb h
  exact lb h
  exact lb h) h
theorem T6 (h : Yf cR cJ = some dH) : AL Tryz.prog 45 [.d ((D.l X2.D) cR),dI cJ] [] (.tup [.d (X0.D dH.1),.d (D.b dH.2)]) [] := by
  unfold Yf at h
  apply g0 (o := dH)
  obtain ⟨o3,h5,h⟩ := bS h
  refine gl (aDo none h5) ?_
  replace h := AK h
  rcases h with ⟨o4,rfl,h⟩ | ⟨o5,rfl,h⟩
  exact lf h
  exact lf h
def Uu (s0 s1 : List X2) (s5 : Int) : St := ⟨sp 34 0 [sD 0 (D.l X2.D) s0,sD 1 (D.l X2.D) s1,sI 5 s5],[],[]⟩
def Uv (s0 s1 : List X2) (o : Unit ⊕ Unit) : Ex × St := match o with
  | .inl o => (.exit 0,⟨sp 34 0 [],[],[]⟩)
  | .inr o => (.ret,⟨sp 34 0 [sD 4 D.b false],[],[]⟩)
theorem aEp (rd : Option Nat) (h : aJd cR dJ cJ = some dK) : Lq 46 rd 26 (Uu cR dJ cJ) ((Uv cR dJ) dK) :=
  lL (fun s : Int => Uu cR dJ s) (Uv cR dJ) cJ (fun cJ o h => by
  unfold JT at h
  refine gN 10 X2.D cR ?_
  refine iB 11 h (fun h => ?_) fun h => ?_
  refine xX 18 X2.D h fun x1 h => ?_
  obtain ⟨r2,h3,h⟩ := bS h
  refine gC 21 (T6 h3) ?_
  refine iB 25 h (fun h => ?_) fun h => ?_
  refine xX 29 X2.D h fun x3 h => ?_
  refine iB 33 h (fun h => ?_) fun h => ?_
  exact lb h
  exact lb h
  exact lb h
  exact lb h) h
theorem aRu (h : Z5 cR dJ = some d4) : AL Tryz.prog 46 [.d ((D.l X2.D) cR),.d ((D.l X2.D) dJ)] [] (.d (D.b d4)) [] := by
  unfold Z5 at h
  apply g0 (o := d4)
  obtain ⟨o4,h7,h⟩ := bS h
  refine gl (aEp none h7) ?_
  replace h := AK h
  rcases h with ⟨o5,rfl,h⟩ | ⟨o6,rfl,h⟩
  exact lf h
  exact lf h
theorem aCj (rd : Option Nat) (h : aCi cR dJ cJ d4 dL d8 = some dM) : Lq 47 rd 29855 ⟨sp 42 0 [sD 0 (D.l X2.D) cR,sD 1 (D.l X2.D) dJ,rx 5,sI 6 cJ,bx 9,sD 34 D.b d4],[(5,.row 65 5 (dL.map X2.D)),cL 9 X0.D d8],[]⟩ (.normal,⟨sp 42 0 [sD 0 (D.l X2.D) cR,sD 1 (D.l X2.D) dJ,rx 5,sI 6 cJ],[(5,.row 65 5 (dM.map X2.D))],[]⟩) := by
  unfold aCi at h
  apply g0 (o := dM)
  cases d4
  replace h := B1 h
  exact lp h
  replace h := B2 h
  refine gQ (Ak X2.D [X2.mk cJ d8]) <| gG 40 (.sl ((dL ++ [X2.mk cJ d8]).map X2.D)) (Ak X2.D [X2.mk cJ d8]) ?_
  obtain ⟨h17,h⟩ := cS h
  refine gQ (Ap X2.D h17) <| gQ (Ao X2.D dL [X2.mk cJ d8]) ?_
  exact lP h [.live [0,1,5,6],.keep [40],.ren 40 5,.sort]
theorem aCh (rd : Option Nat) (h : aCg cR dJ cJ d4 dN dL d8 dD = some dM) : Lq 47 rd 7463 ⟨sp 42 0 [sD 0 (D.l X2.D) cR,sD 1 (D.l X2.D) dJ,rx 5,sI 6 cJ,bx 7,bx 9,sD 10 D.b d4,sD 27 D.b dN],[(5,.row 65 5 (dL.map X2.D)),cL 7 X0.D d8,cL 9 X0.D dD],[]⟩ (.normal,⟨sp 42 0 [sD 0 (D.l X2.D) cR,sD 1 (D.l X2.D) dJ,rx 5,sI 6 cJ],[(5,.row 65 5 (dM.map X2.D))],[]⟩) := by
  unfold aCg at h
  apply g0 (o := dM)
  cases dN
  replace h := B1 h
  obtain ⟨o8,h18,h⟩ := bS h
  refine gl (aCj rd h18) ?_
  exact lp h
  replace h := B2 h
  refine gQ (Ak X2.D [X2.mk cJ d8]) <| gG 33 (.sl ((dL ++ [X2.mk cJ d8]).map X2.D)) (Ak X2.D [X2.mk cJ d8]) ?_
  obtain ⟨h15,h⟩ := cS h
  refine gQ (Ap X2.D h15) <| gQ (Ao X2.D dL [X2.mk cJ d8]) ?_
  exact lP h [.live [0,1,5,6],.keep [33],.ren 33 5,.sort]
theorem aCf (rd : Option Nat) (h : aCe cR dJ cJ dL = some dM) : Lq 47 rd 466 ⟨sp 42 0 [sD 0 (D.l X2.D) cR,sD 1 (D.l X2.D) dJ,rx 5,sI 6 cJ],[(5,.row 65 5 (dL.map X2.D))],[]⟩ (.normal,⟨sp 42 0 [sD 0 (D.l X2.D) cR,sD 1 (D.l X2.D) dJ,rx 5,sI 6 cJ],[(5,.row 65 5 (dM.map X2.D))],[]⟩) := by
  unfold aCe at h
  apply g0 (o := dM)
  obtain ⟨r6,h12,h⟩ := bS h
  refine gC 18 (T6 h12) ?_
  obtain ⟨r7,h13,h⟩ := bS h
  refine gC 24 (T6 h13) ?_
  obtain ⟨o9,h19,h⟩ := bS h
  refine gl (aCh rd h19) ?_
  exact lp h
def Td (s0 s1 : List X2) (s6 : Int) (w5 : List X2) : St := ⟨sp 42 0 [sD 0 (D.l X2.D) s0,sD 1 (D.l X2.D) s1,rx 5,sI 6 s6],[(5,.row 65 5 (w5.map X2.D))],[]⟩
def Te (s0 s1 : List X2) (o : (List X2)) : Ex × St := (.exit 0,⟨sp 42 0 [rx 5],[(5,.row 65 5 (o.map X2.D))],[]⟩)
theorem aCk (rd : Option Nat) (h : aIq cR dJ cJ dL = some dM) : Lq 47 rd 58 (Td cR dJ cJ dL) ((Te cR dJ) dM) :=
  lL (fun s : Int × List X2 => Td cR dJ s.1 s.2) (Te cR dJ) (cJ,dL) (fun ⟨cJ,dL⟩ o h => by
  unfold G3 at h
  refine iB 12 h (fun h => ?_) fun h => ?_
  obtain ⟨o10,h20,h⟩ := bS h
  refine gl (aCf rd h20) ?_
  exact lb h
  exact lb h) h
theorem aQw (h : Y1 cR dJ = some dL) : AL Tryz.prog 47 [.d ((D.l X2.D) cR),.d ((D.l X2.D) dJ)] [] (.d ((D.l X2.D) dL)) [] := by
  unfold Y1 at h
  apply g0 (o := dL)
  obtain ⟨o11,h21,h⟩ := bS h
  refine gL [.live [0,1,5,6],.keep [],.nil 5 5 65 5,.sort] (aCk none h21) ?_
  exact lf h
def Un (s0 : List X2) (w3 : X2) (s5 : Int) : St := ⟨sp 38 0 [sD 0 (D.l X2.D) s0,bx 3,sI 5 s5],[cL 3 X2.D w3],[]⟩
def Uo (s0 : List X2) (w3 : X2) (o : Int) : Ex × St := (.exit 0,⟨sp 38 0 [sD 0 (D.l X2.D) s0,bx 3,sI 5 o],[cL 3 X2.D w3],[]⟩)
theorem aEl (rd : Option Nat) (h : aJc cR dO cJ = some cK) : Lq 48 rd 28 (Un cR dO cJ) ((Uo cR dO) cK) :=
  lL (fun s : Int => Un cR dO s) (Uo cR dO) cJ (fun cJ o h => by
  unfold HN at h
  refine iB 11 h (fun h => ?_) fun h => ?_
  refine xX 15 X2.D h fun x1 h => ?_
  refine iB 21 h (fun h => ?_) fun h => ?_
  exact lb h
  exact lb h
  exact lb h) h
theorem aRq (h : Z1 cR dO = some dJ) : AL Tryz.prog 48 [.d ((D.l X2.D) cR),.d (X2.D dO)] [] (.d ((D.l X2.D) dJ)) [] := by
  unfold Z1 at h
  apply g0 (o := dJ)
  refine gN 8 X2.D cR ?_
  obtain ⟨o2,h4,h⟩ := bS h
  refine gl (aEl none h4) <| gQ (Ak X2.D ([] : List X2)) <| gW 27 (.sl ((sub cR 0 o2).map X2.D)) <| gW 28 (.sl ((([] : List X2) ++ (sub cR 0 o2)).map X2.D)) <| gW 32 (.sl (((([] : List X2) ++ (sub cR 0 o2)) ++ [dO]).map X2.D)) <| gW 36 (.sl ((sub cR o2 (cR.length : Int)).map X2.D)) <| gW 37 (.sl ((((([] : List X2) ++ (sub cR 0 o2)) ++ [dO]) ++ (sub cR o2 (cR.length : Int))).map X2.D)) ?_
  obtain ⟨h5,h⟩ := cS h
  refine gQ (En X2.D h5) <| gQ (Ak X2.D (sub cR 0 o2)) ?_
  obtain ⟨h6,h⟩ := cS h
  refine gQ (Ap X2.D h6) <| gQ (Ao X2.D ([] : List X2) (sub cR 0 o2)) <| gQ (Ak X2.D [dO]) <| gQ (Ak X2.D [dO]) ?_
  obtain ⟨h7,h⟩ := cS h
  refine gQ (Ap X2.D h7) <| gQ (Ao X2.D (([] : List X2) ++ (sub cR 0 o2)) [dO]) ?_
  obtain ⟨h8,h⟩ := cS h
  refine gQ (Em X2.D h8) <| gQ (Ak X2.D (sub cR o2 (cR.length : Int))) ?_
  obtain ⟨h9,h⟩ := cS h
  refine gQ (Ap X2.D h9) <| gQ (Ao X2.D ((([] : List X2) ++ (sub cR 0 o2)) ++ [dO]) (sub cR o2 (cR.length : Int))) ?_
  exact lf h
theorem NU (rd : Option Nat) (h : Sf cJ cR dJ cK d4 dP cM dQ dR dB dL = some dS) : Lq 28 rd 521373 ⟨sp 121 0 [sI 1 cJ,bx 5,bx 6,bx 8,bx 9,sD 10 (D.l X2.D) cR,sD 11 (D.l X2.D) dJ,sI 12 cK,bx 13,rx 14,sD 80 D.b d4],[cL 5 X3.D dP,(6,.cells ([dI cM,.nil,.nil])),cL 8 X5.D dQ,cL 9 AN.D dR,cL 13 Av.D dB,(14,.row 65 5 (dL.map X2.D))],[]⟩ (match (generalizing := false) dS with
  | .inl dS => (.normal,⟨sp 121 0 [sI 1 cJ,bx 5,bx 6,bx 8,bx 9,sD 10 (D.l X2.D) dS,sD 11 (D.l X2.D) dJ,sI 12 cK,bx 13,rx 14],[cL 5 X3.D dP,(6,.cells ([dI cM,.nil,.nil])),cL 8 X5.D dQ,cL 9 AN.D dR,cL 13 Av.D dB,(14,.row 65 5 (dL.map X2.D))],[]⟩)
  | .inr dS => (.ret,⟨sp 121 0 [bx 6,sD 7 D.b false],[cL 6 AN.D dR],[]⟩)) := by
  unfold Sf at h
  apply g0 (o := dS)
  cases d4
  replace h := B1 h
  exact lp h
  replace h := B2 h
  obtain ⟨r32,h37,h⟩ := bS h
  refine gC 83 (aRu h37) ?_
  refine iB 84 h (fun h => ?_) fun h => ?_
  exact lp h
  obtain ⟨r33,h39,h⟩ := bS h
  refine gC 88 (aQw h39) ?_
  exact lp h
theorem NW (rd : Option Nat) (h : Sh cJ cR dJ cK d4 dP cM dQ dR dL = some dM) : Lq 28 rd 8342007 ⟨sp 121 0 [sI 1 cJ,bx 5,bx 6,bx 8,bx 9,sD 10 (D.l X2.D) cR,sD 11 (D.l X2.D) dJ,sI 12 cK,rx 14,sD 111 D.b d4],[cL 5 X3.D dP,(6,.cells ([dI cM,.nil,.nil])),cL 8 X5.D dQ,cL 9 AN.D dR,(14,.row 65 5 (dL.map X2.D))],[]⟩ (.normal,⟨sp 121 0 [sI 1 cJ,bx 5,bx 6,bx 8,bx 9,sD 10 (D.l X2.D) cR,sD 11 (D.l X2.D) dM,sI 12 cK],[cL 5 X3.D dP,(6,.cells ([dI cM,.nil,.nil])),cL 8 X5.D dQ,cL 9 AN.D dR],[]⟩) := by
  unfold Sh at h
  apply g0 (o := dM)
  cases d4
  replace h := B1 h
  exact lp h
  replace h := B2 h
  refine xX 114 X2.D h fun x39 h => ?_
  obtain ⟨r40,h48,h⟩ := bS h
  refine gC 116 (aRq h48) ?_
  exact lp h
theorem NV (rd : Option Nat) (h : Sg cJ cR dJ cK d4 dP cM dQ dR dB dL = some dS) : Lq 28 rd 521375 ⟨sp 121 0 [sI 1 cJ,bx 5,bx 6,bx 8,bx 9,sD 10 (D.l X2.D) cR,sD 11 (D.l X2.D) dJ,sI 12 cK,bx 13,rx 14,sD 91 D.b d4],[cL 5 X3.D dP,(6,.cells ([dI cM,.nil,.nil])),cL 8 X5.D dQ,cL 9 AN.D dR,cL 13 Av.D dB,(14,.row 65 5 (dL.map X2.D))],[]⟩ (match (generalizing := false) dS with
  | .inl dS => (.normal,⟨sp 121 0 [sI 1 cJ,bx 5,bx 6,bx 8,bx 9,sD 10 (D.l X2.D) cR,sD 11 (D.l X2.D) dS,sI 12 cK],[cL 5 X3.D dP,(6,.cells ([dI cM,.nil,.nil])),cL 8 X5.D dQ,cL 9 AN.D dR],[]⟩)
  | .inr dS => (.ret,⟨sp 121 0 [bx 6,sD 7 D.b false],[cL 6 AN.D dR],[]⟩)) := by
  unfold Sg at h
  apply g0 (o := dS)
  cases d4
  replace h := B1 h
  exact lp h
  replace h := B2 h
  obtain ⟨r37,h42,h⟩ := bS h
  refine gC 96 (T6 h42) ?_
  refine iB 100 h (fun h => ?_) fun h => ?_
  refine xX 105 X0.D h fun x38 h => ?_
  refine iB 108 h (fun h => ?_) fun h => ?_
  exact lp h
  obtain ⟨o41,h49,h⟩ := bS h
  refine gl (NW rd h49) ?_
  exact lp h
  obtain ⟨o42,h50,h⟩ := bS h
  refine gl (NW rd h50) ?_
  exact lp h
theorem aA3 (rd : Option Nat) (h : aA2 cJ cR dJ cK dP cM dQ dR = some dV) : Lq 28 rd 8146 ⟨sp 121 0 [sI 1 cJ,bx 5,bx 6,bx 8,bx 9,sD 10 (D.l X2.D) cR,sD 11 (D.l X2.D) dJ,sI 12 cK],[cL 5 X3.D dP,(6,.cells ([dI cM,.nil,.nil])),cL 8 X5.D dQ,cL 9 AN.D dR],[]⟩ (match (generalizing := false) dV with
  | .inl dV => (.normal,⟨sp 121 0 [sI 1 cJ,bx 5,bx 6,bx 8,bx 9,sD 10 (D.l X2.D) dV.1,sD 11 (D.l X2.D) dV.2,sI 12 cK],[cL 5 X3.D dP,(6,.cells ([dI cM,.nil,.nil])),cL 8 X5.D dQ,cL 9 AN.D dR],[]⟩)
  | .inr dV => (.ret,⟨sp 121 0 [bx 6,sD 7 D.b false],[cL 6 AN.D dR],[]⟩)) := by
  unfold aA2 at h
  apply g0 (o := dV)
  refine xX 53 Av.D h fun x29 h => ?_
  refine xX 60 X0.D h fun x30 h => ?_
  refine gQ (Ak X2.D [X2.mk x29.n x30]) ?_
  refine iB 67 h (fun h => ?_) fun h => ?_
  refine xX 73 X0.D h fun x31 h => ?_
  refine iB 76 h (fun h => ?_) fun h => ?_
  exact lp h
  obtain ⟨o34,h40,h⟩ := bS h
  refine gL [.live [1,5,6,8,9,10,11,12,13,14,80],.keep [5,6,8,9,13,63],.ren 63 14,.sort] (NU rd h40) ?_
  replace h := AK h
  rcases h with ⟨o35,rfl,h⟩ | ⟨o36,rfl,h⟩
  obtain ⟨o43,h51,h⟩ := bS h
  refine gl (NV rd h51) ?_
  replace h := AK h
  rcases h with ⟨o44,rfl,h⟩ | ⟨o45,rfl,h⟩
  exact lp h
  exact lp h
  exact lp h
  obtain ⟨o46,h52,h⟩ := bS h
  refine gL [.live [1,5,6,8,9,10,11,12,13,14,80],.keep [5,6,8,9,13,63],.ren 63 14,.sort] (NU rd h52) ?_
  replace h := AK h
  rcases h with ⟨o47,rfl,h⟩ | ⟨o48,rfl,h⟩
  obtain ⟨o49,h53,h⟩ := bS h
  refine gl (NV rd h53) ?_
  replace h := AK h
  rcases h with ⟨o50,rfl,h⟩ | ⟨o51,rfl,h⟩
  exact lp h
  exact lp h
  exact lp h
def Si (s1 : Int) (w5 : X3) (w6 : Int) (w8 : X5) (w9 : AN) (s10 s11 : List X2) (s12 : Int) : St := ⟨sp 121 0 [sI 1 s1,bx 5,bx 6,bx 8,bx 9,sD 10 (D.l X2.D) s10,sD 11 (D.l X2.D) s11,sI 12 s12],[cL 5 X3.D w5,(6,.cells ([dI w6,.nil,.nil])),cL 8 X5.D w8,cL 9 AN.D w9],[]⟩
def Sj (s1 : Int) (w5 : X3) (w6 : Int) (w8 : X5) (w9 : AN) (o : (List X2 × List X2) ⊕ Unit) : Ex × St := match o with
  | .inl o => (.exit 0,⟨sp 121 0 [sI 1 s1,bx 6,sD 10 (D.l X2.D) o.1,sD 11 (D.l X2.D) o.2],[(6,.cells ([dI w6,.nil,.nil]))],[]⟩)
  | .inr o => (.ret,⟨sp 121 0 [bx 6,sD 7 D.b false],[cL 6 AN.D w9],[]⟩)
theorem aA4 (rd : Option Nat) (h : Ow cJ dP cK dQ dR cR dJ cM = some dV) : Lq 28 rd 1018 (Si cJ dP cK dQ dR cR dJ cM) ((Sj cJ dP cK dQ dR) dV) :=
  lL (fun s : List X2 × List X2 × Int => Si cJ dP cK dQ dR s.1 s.2.1 s.2.2) (Sj cJ dP cK dQ dR) (cR,dJ,cM) (fun ⟨cR,dJ,cM⟩ o h => by
  unfold Gs at h
  refine gN 46 Av.D dQ.args ?_
  refine iB 47 h (fun h => ?_) fun h => ?_
  obtain ⟨o52,h54,h⟩ := bS h
  refine gl (aA3 rd h54) ?_
  replace h := AK h
  rcases h with ⟨o53,rfl,h⟩ | ⟨o54,rfl,h⟩
  exact lb h
  exact lb h
  exact lb h) h
theorem aQd (h : Xo cU cJ dP = some dX) : AL Tryz.prog 28 [.d (AE.D cU),dI cJ,.d (X3.D dP)] [] (.tup [.d (AN.D dX.1),.d (D.b dX.2)]) [] := by
  unfold Xo at h
  apply g0 (o := dX)
  refine xX 20 X5.D h fun x1 h => ?_
  refine xX 27 X6.D h fun x2 h => ?_
  refine iB 33 h (fun h => ?_) fun h => ?_
  exact lf h
  refine gN 36 Av.D x1.args <| gN 39 X0.D dP.args ?_
  refine iB 41 h (fun h => ?_) fun h => ?_
  exact lf h
  obtain ⟨o55,h55,h⟩ := bS h
  refine gL [.look 10,.look 11,.live [1,5,6,8,9,10,11,12],.keep [5,6,8,9]] (aA4 none h55) ?_
  replace h := AK h
  rcases h with ⟨o56,rfl,h⟩ | ⟨o57,rfl,h⟩
  exact lf h
  exact lf h
theorem aCs (rd : Option Nat) (h : aCr cJ d4 cU dP dY dR = some e9) : Lq 11 rd 3731 ⟨sp 29 0 [bx 2,bx 3,rx 5,sI 6 cJ,bx 7,sD 23 D.b d4],[cL 2 AE.D cU,cL 3 X3.D dP,(5,.row 83 3 (dY.map AN.D)),cL 7 AN.D dR],[]⟩ (.normal,⟨sp 29 0 [bx 2,bx 3,rx 5,sI 6 cJ],[cL 2 AE.D cU,cL 3 X3.D dP,(5,.row 83 3 (e9.map AN.D))],[]⟩) := by
  unfold aCr at h
  apply g0 (o := e9)
  cases d4
  replace h := B1 h
  exact lp h
  replace h := B2 h
  refine gQ (Ak AN.D [dR]) <| gG 27 (.sl ((dY ++ [dR]).map AN.D)) (Ak AN.D [dR]) ?_
  obtain ⟨h10,h⟩ := cS h
  refine gQ (Ap AN.D h10) <| gQ (Ao AN.D dY [dR]) ?_
  exact lP h [.live [2,3,5,6],.keep [2,3,27],.ren 27 5,.sort]
theorem aCq (rd : Option Nat) (h : aCp cJ cU dP dY = some e9) : Lq 11 rd 466 ⟨sp 29 0 [bx 2,bx 3,rx 5,sI 6 cJ],[cL 2 AE.D cU,cL 3 X3.D dP,(5,.row 83 3 (dY.map AN.D))],[]⟩ (.normal,⟨sp 29 0 [bx 2,bx 3,rx 5,sI 6 cJ],[cL 2 AE.D cU,cL 3 X3.D dP,(5,.row 83 3 (e9.map AN.D))],[]⟩) := by
  unfold aCp at h
  apply g0 (o := e9)
  obtain ⟨r4,h8,h⟩ := bS h
  refine gC 20 (aQd h8) ?_
  obtain ⟨o5,h11,h⟩ := bS h
  refine gl (aCs rd h11) ?_
  exact lp h
def Tj (w2 : AE) (w3 : X3) (s6 : Int) (w5 : List AN) : St := ⟨sp 29 0 [bx 2,bx 3,rx 5,sI 6 s6],[cL 2 AE.D w2,cL 3 X3.D w3,(5,.row 83 3 (w5.map AN.D))],[]⟩
def Tk (w2 : AE) (w3 : X3) (o : (List AN)) : Ex × St := (.exit 0,⟨sp 29 0 [rx 5],[(5,.row 83 3 (o.map AN.D))],[]⟩)
theorem aCt (rd : Option Nat) (h : aIr cU dP cJ dY = some e9) : Lq 11 rd 58 (Tj cU dP cJ dY) ((Tk cU dP) e9) :=
  lL (fun s : Int × List AN => Tj cU dP s.1 s.2) (Tk cU dP) (cJ,dY) (fun ⟨cJ,dY⟩ o h => by
  unfold G5 at h
  refine gN 12 X5.D cU.symbols ?_
  refine iB 13 h (fun h => ?_) fun h => ?_
  obtain ⟨o6,h12,h⟩ := bS h
  refine gl (aCq rd h12) ?_
  exact lb h
  exact lb h) h
theorem aL0 (h : Y3 cU dP = some dY) : AL Tryz.prog 11 [.d (AE.D cU),.d (X3.D dP)] [] (.d ((D.l AN.D) dY)) [] := by
  unfold Y3 at h
  apply g0 (o := dY)
  obtain ⟨o7,h13,h⟩ := bS h
  refine gL [.live [2,3,5,6],.keep [2,3],.nil 5 5 83 3,.sort] (aCt none h13) ?_
  exact lf h
def Uw (s0 s1 : List X2) (s5 : Int) : St := ⟨sp 35 0 [sD 0 (D.l X2.D) s0,sD 1 (D.l X2.D) s1,sI 5 s5],[],[]⟩
def Ux (s0 s1 : List X2) (o : Unit ⊕ Unit) : Ex × St := match o with
  | .inl o => (.exit 0,⟨sp 35 0 [],[],[]⟩)
  | .inr o => (.ret,⟨sp 35 0 [sD 4 D.b false],[],[]⟩)
theorem aEq (rd : Option Nat) (h : aJe cR dJ cJ = some dK) : Lq 27 rd 26 (Uw cR dJ cJ) ((Ux cR dJ) dK) :=
  lL (fun s : Int => Uw cR dJ s) (Ux cR dJ) cJ (fun cJ o h => by
  unfold JU at h
  refine gN 10 X2.D cR ?_
  refine iB 11 h (fun h => ?_) fun h => ?_
  refine xX 18 X2.D h fun x1 h => ?_
  obtain ⟨r2,h3,h⟩ := bS h
  refine gC 21 (T6 h3) ?_
  refine iB 26 h (fun h => ?_) fun h => ?_
  exact lb h
  refine xX 30 X2.D h fun x3 h => ?_
  refine iB 34 h (fun h => ?_) fun h => ?_
  exact lb h
  exact lb h
  exact lb h) h
theorem aRw (h : Z6 cR dJ = some d4) : AL Tryz.prog 27 [.d ((D.l X2.D) cR),.d ((D.l X2.D) dJ)] [] (.d (D.b d4)) [] := by
  unfold Z6 at h
  apply g0 (o := d4)
  obtain ⟨o4,h7,h⟩ := bS h
  refine gl (aEq none h7) ?_
  replace h := AK h
  rcases h with ⟨o5,rfl,h⟩ | ⟨o6,rfl,h⟩
  exact lf h
  exact lf h
theorem aCx (rd : Option Nat) (h : aCw dY cR cJ d4 eA = some e9) : Lq 10 rd 1865 ⟨sp 28 0 [sD 0 (D.l AN.D) dY,sD 1 (D.l X2.D) cR,rx 5,sI 6 cJ,sD 19 D.b d4],[(5,.row 83 3 (eA.map AN.D))],[]⟩ (.normal,⟨sp 28 0 [sD 0 (D.l AN.D) dY,sD 1 (D.l X2.D) cR,rx 5,sI 6 cJ],[(5,.row 83 3 (e9.map AN.D))],[]⟩) := by
  unfold aCw at h
  apply g0 (o := e9)
  cases d4
  replace h := B1 h
  exact lp h
  replace h := B2 h
  refine xX 23 AN.D h fun x8 h => ?_
  refine gQ (Ak AN.D [x8]) <| gG 26 (.sl ((eA ++ [x8]).map AN.D)) (Ak AN.D [x8]) ?_
  obtain ⟨h14,h⟩ := cS h
  refine gQ (Ap AN.D h14) <| gQ (Ao AN.D eA [x8]) ?_
  exact lP h [.live [0,1,5,6],.keep [26],.ren 26 5,.sort]
theorem aCv (rd : Option Nat) (h : aCu dY cR cJ eA = some e9) : Lq 10 rd 466 ⟨sp 28 0 [sD 0 (D.l AN.D) dY,sD 1 (D.l X2.D) cR,rx 5,sI 6 cJ],[(5,.row 83 3 (eA.map AN.D))],[]⟩ (.normal,⟨sp 28 0 [sD 0 (D.l AN.D) dY,sD 1 (D.l X2.D) cR,rx 5,sI 6 cJ],[(5,.row 83 3 (e9.map AN.D))],[]⟩) := by
  unfold aCu at h
  apply g0 (o := e9)
  refine xX 15 AN.D h fun x6 h => ?_
  obtain ⟨r7,h11,h⟩ := bS h
  refine gC 19 (aRw h11) ?_
  obtain ⟨o9,h15,h⟩ := bS h
  refine gl (aCx rd h15) ?_
  exact lp h
def Tl (s0 : List AN) (s1 : List X2) (s6 : Int) (w5 : List AN) : St := ⟨sp 28 0 [sD 0 (D.l AN.D) s0,sD 1 (D.l X2.D) s1,rx 5,sI 6 s6],[(5,.row 83 3 (w5.map AN.D))],[]⟩
def Tm (s0 : List AN) (s1 : List X2) (o : (List AN)) : Ex × St := (.exit 0,⟨sp 28 0 [rx 5],[(5,.row 83 3 (o.map AN.D))],[]⟩)
theorem aCy (rd : Option Nat) (h : aIs dY cR cJ eA = some e9) : Lq 10 rd 58 (Tl dY cR cJ eA) ((Tm dY cR) e9) :=
  lL (fun s : Int × List AN => Tl dY cR s.1 s.2) (Tm dY cR) (cJ,eA) (fun ⟨cJ,eA⟩ o h => by
  unfold JN at h
  refine gN 9 AN.D dY ?_
  refine iB 10 h (fun h => ?_) fun h => ?_
  obtain ⟨o10,h16,h⟩ := bS h
  refine gl (aCv rd h16) ?_
  exact lb h
  exact lb h) h
theorem aL2 (h : Y5 dY cR = some eA) : AL Tryz.prog 10 [.d ((D.l AN.D) dY),.d ((D.l X2.D) cR)] [] (.d ((D.l AN.D) eA)) [] := by
  unfold Y5 at h
  apply g0 (o := eA)
  obtain ⟨o11,h17,h⟩ := bS h
  refine gL [.live [0,1,5,6],.keep [],.nil 5 5 83 3,.sort] (aCy none h17) ?_
  exact lf h
def UE (s0 : List AN) (s3 s4 : Int) : St := ⟨sp 21 0 [sD 0 (D.l AN.D) s0,sD 3 dU s3,sI 4 s4],[],[]⟩
def UF (s0 : List AN) (o : Int) : Ex × St := (.exit 0,⟨sp 21 0 [sD 3 dU o],[],[]⟩)
theorem aD0 (rd : Option Nat) (h : UD dY cJ cK = some cM) : Lq 14 rd 58 (UE dY cJ cK) ((UF dY) cM) :=
  lL (fun s : Int × Int => UE dY s.1 s.2) (UF dY) (cJ,cK) (fun ⟨cJ,cK⟩ o h => by
  unfold FQ at h
  refine gN 7 AN.D dY ?_
  refine iB 8 h (fun h => ?_) fun h => ?_
  refine xX 14 AN.D h fun x1 h => ?_
  obtain ⟨h3,h⟩ := cS h
  refine gQ h3 ?_
  exact lb h
  exact lb h) h
theorem aL5 (h : Yk dY = some cJ) : AL Tryz.prog 14 [.d ((D.l AN.D) dY)] [] (.d (dU cJ)) [] := by
  unfold Yk at h
  apply g0 (o := cJ)
  obtain ⟨o2,h4,h⟩ := bS h
  refine gl (aD0 none h4) ?_
  exact lf h
def UP (s0 : List Int) (s1 s5 : Int) : St := ⟨sp 48 0 [sD 0 (D.l dU) s0,sD 1 dU s1,sI 5 s5],[],[]⟩
def UQ (s0 : List Int) (s1 o : Int) : Ex × St := (.exit 0,⟨sp 48 0 [sD 0 (D.l dU) s0,sD 1 dU s1,sI 5 o],[],[]⟩)
theorem aD7 (rd : Option Nat) (h : UO cN cJ cK = some cM) : Lq 33 rd 28 (UP cN cJ cK) ((UQ cN cJ) cM) :=
  lL (fun s : Int => UP cN cJ s) (UQ cN cJ) cK (fun cK o h => by
  unfold HE at h
  refine iB 11 h (fun h => ?_) fun h => ?_
  refine xX 15 dU h fun x1 h => ?_
  refine iB 19 h (fun h => ?_) fun h => ?_
  exact lb h
  exact lb h
  exact lb h) h
theorem aRd (h : Yp cN cJ = some cQ) : AL Tryz.prog 33 [.d ((D.l dU) cN),.d (dU cJ)] [] (.d ((D.l dU) cQ)) [] := by
  unfold Yp at h
  apply g0 (o := cQ)
  refine gN 8 dU cN ?_
  obtain ⟨o2,h4,h⟩ := bS h
  refine gl (aD7 none h4) ?_
  refine iB 24 h (fun h => ?_) fun h => ?_
  refine xX 28 dU h fun x3 h => ?_
  refine iB 32 h (fun h => ?_) fun h => ?_
  exact lf h
  refine gQ (Ak dU ([] : List Int)) <| gW 37 (.sl ((sub cN 0 o2).map dU)) <| gW 38 (.sl ((([] : List Int) ++ (sub cN 0 o2)).map dU)) <| gW 42 (.sl (((([] : List Int) ++ (sub cN 0 o2)) ++ [cJ]).map dU)) <| gW 46 (.sl ((sub cN o2 (cN.length : Int)).map dU)) <| gW 47 (.sl ((((([] : List Int) ++ (sub cN 0 o2)) ++ [cJ]) ++ (sub cN o2 (cN.length : Int))).map dU)) ?_
  obtain ⟨h8,h⟩ := cS h
  refine gQ (En dU h8) <| gQ (Ak dU (sub cN 0 o2)) ?_
  obtain ⟨h9,h⟩ := cS h
  refine gQ (Ap dU h9) <| gQ (Ao dU ([] : List Int) (sub cN 0 o2)) <| gQ (Ak dU [cJ]) <| gQ (Ak dU [cJ]) ?_
  obtain ⟨h10,h⟩ := cS h
  refine gQ (Ap dU h10) <| gQ (Ao dU (([] : List Int) ++ (sub cN 0 o2)) [cJ]) ?_
  obtain ⟨h11,h⟩ := cS h
  refine gQ (Em dU h11) <| gQ (Ak dU (sub cN o2 (cN.length : Int))) ?_
  obtain ⟨h12,h⟩ := cS h
  refine gQ (Ap dU h12) <| gQ (Ao dU ((([] : List Int) ++ (sub cN 0 o2)) ++ [cJ]) (sub cN o2 (cN.length : Int))) ?_
  exact lf h
  refine gQ (Ak dU ([] : List Int)) <| gW 37 (.sl ((sub cN 0 o2).map dU)) <| gW 38 (.sl ((([] : List Int) ++ (sub cN 0 o2)).map dU)) <| gW 42 (.sl (((([] : List Int) ++ (sub cN 0 o2)) ++ [cJ]).map dU)) <| gW 46 (.sl ((sub cN o2 (cN.length : Int)).map dU)) <| gW 47 (.sl ((((([] : List Int) ++ (sub cN 0 o2)) ++ [cJ]) ++ (sub cN o2 (cN.length : Int))).map dU)) ?_
  obtain ⟨h13,h⟩ := cS h
  refine gQ (En dU h13) <| gQ (Ak dU (sub cN 0 o2)) ?_
  obtain ⟨h14,h⟩ := cS h
  refine gQ (Ap dU h14) <| gQ (Ao dU ([] : List Int) (sub cN 0 o2)) <| gQ (Ak dU [cJ]) <| gQ (Ak dU [cJ]) ?_
  obtain ⟨h15,h⟩ := cS h
  refine gQ (Ap dU h15) <| gQ (Ao dU (([] : List Int) ++ (sub cN 0 o2)) [cJ]) ?_
  obtain ⟨h16,h⟩ := cS h
  refine gQ (Em dU h16) <| gQ (Ak dU (sub cN o2 (cN.length : Int))) ?_
  obtain ⟨h17,h⟩ := cS h
  refine gQ (Ap dU h17) <| gQ (Ao dU ((([] : List Int) ++ (sub cN 0 o2)) ++ [cJ]) (sub cN o2 (cN.length : Int))) ?_
  exact lf h
theorem aBh (rd : Option Nat) (h : Oy cR cN cJ dF cK cM d4 cU = some cZ) : Lq 15 rd 477587 ⟨sp 42 0 [sD 1 (D.l X2.D) cR,bx 2,sD 5 (D.l dU) cN,sI 6 cJ,sD 7 (D.l X3.D) dF,sI 8 cK,sD 9 dU cM,sD 37 D.b d4],[cL 2 AE.D cU],[]⟩ (.normal,⟨sp 42 0 [sD 1 (D.l X2.D) cR,bx 2,sD 5 (D.l dU) cZ,sI 6 cJ,sD 7 (D.l X3.D) dF,sI 8 cK],[cL 2 AE.D cU],[]⟩) := by
  unfold Oy at h
  apply g0 (o := cZ)
  cases d4
  replace h := B1 h
  exact lp h
  replace h := B2 h
  obtain ⟨r13,h18,h⟩ := bS h
  refine gC 40 (aRd h18) ?_
  exact lp h
theorem aBg (rd : Option Nat) (h : aBf cR cN cJ dF cK cU = some cZ) : Lq 15 rd 59698 ⟨sp 42 0 [sD 1 (D.l X2.D) cR,bx 2,sD 5 (D.l dU) cN,sI 6 cJ,sD 7 (D.l X3.D) dF,sI 8 cK],[cL 2 AE.D cU],[]⟩ (.normal,⟨sp 42 0 [sD 1 (D.l X2.D) cR,bx 2,sD 5 (D.l dU) cZ,sI 6 cJ,sD 7 (D.l X3.D) dF,sI 8 cK],[cL 2 AE.D cU],[]⟩) := by
  unfold aBf at h
  apply g0 (o := cZ)
  refine xX 30 X3.D h fun x9 h => ?_
  obtain ⟨r10,h14,h⟩ := bS h
  refine gC 32 (aL0 h14) ?_
  obtain ⟨r11,h15,h⟩ := bS h
  refine gC 34 (aL2 h15) ?_
  obtain ⟨r12,h16,h⟩ := bS h
  refine gC 35 (aL5 h16) ?_
  obtain ⟨o14,h19,h⟩ := bS h
  refine gl (aBh rd h19) ?_
  exact lp h
def Sw (s1 : List X2) (s6 : Int) (s7 : List X3) (w2 : AE) (s5 : List Int) (s8 : Int) : St := ⟨sp 42 0 [sD 1 (D.l X2.D) s1,bx 2,sD 5 (D.l dU) s5,sI 6 s6,sD 7 (D.l X3.D) s7,sI 8 s8],[cL 2 AE.D w2],[]⟩
def Sx (s1 : List X2) (s6 : Int) (s7 : List X3) (w2 : AE) (o : (List Int)) : Ex × St := (.exit 2,⟨sp 42 0 [sD 1 (D.l X2.D) s1,bx 2,sD 5 (D.l dU) o,sI 6 s6],[cL 2 AE.D w2],[]⟩)
theorem aBj (rd : Option Nat) (h : aIl cR cJ dF cU cN cK = some cZ) : Lq 15 rd 7462 (Sw cR cJ dF cU cN cK) ((Sx cR cJ dF cU) cZ) :=
  lL (fun s : List Int × Int => Sw cR cJ dF cU s.1 s.2) (Sx cR cJ dF cU) (cN,cK) (fun ⟨cN,cK⟩ o h => by
  unfold FM at h
  refine gN 23 X3.D dF ?_
  refine iB 24 h (fun h => ?_) fun h => ?_
  obtain ⟨o18,h25,h⟩ := bS h
  refine gl (aBg rd h25) ?_
  exact lb h
  exact lb h) h
def Su (s1 : List X2) (w2 : AE) (s5 : List Int) (s6 : Int) : St := ⟨sp 42 0 [sD 1 (D.l X2.D) s1,bx 2,sD 5 (D.l dU) s5,sI 6 s6],[cL 2 AE.D w2],[]⟩
def Sv (s1 : List X2) (w2 : AE) (o : (List Int)) : Ex × St := (.exit 0,⟨sp 42 0 [sD 5 (D.l dU) o],[],[]⟩)
theorem aBi (rd : Option Nat) (h : aIk cR cU cN cJ = some cZ) : Lq 15 rd 58 (Su cR cU cN cJ) ((Sv cR cU) cZ) :=
  lL (fun s : List Int × Int => Su cR cU s.1 s.2) (Sv cR cU) (cN,cJ) (fun ⟨cN,cJ⟩ o h => by
  unfold Gu at h
  refine gN 13 X6.D cU.decls ?_
  refine iB 14 h (fun h => ?_) fun h => ?_
  obtain ⟨r17,h23,h⟩ := bS h
  refine gC 20 (aQy h23) ?_
  obtain ⟨o19,h26,h⟩ := bS h
  refine gl (aBj rd h26) ?_
  exact lb h
  exact lb h) h
theorem aQg (h : Xr cU cR = some cN) : AL Tryz.prog 15 [.d (AE.D cU),.d ((D.l X2.D) cR)] [] (.d ((D.l dU) cN)) [] := by
  unfold Xr at h
  apply g0 (o := cN)
  obtain ⟨o20,h27,h⟩ := bS h
  refine gL [.look 5,.live [1,2,5,6],.keep [2]] (aBi none h27) ?_
  exact lf h
def Uy (s0 : List X6) (s5 : Int) (w3 : X3) (s6 : Int) : St := ⟨sp 56 0 [sD 0 (D.l X6.D) s0,bx 3,sI 5 s5,sI 6 s6],[cL 3 X3.D w3],[]⟩
def Uz (s0 : List X6) (s5 : Int) (w3 : X3) (o : Unit ⊕ Unit) : Ex × St := match o with
  | .inl o => (.exit 0,⟨sp 56 0 [],[],[]⟩)
  | .inr o => (.ret,⟨sp 56 0 [sD 4 D.b false],[],[]⟩)
theorem aEr (rd : Option Nat) (h : aJf eB cJ dP cK = some dK) : Lq 6 rd 122 (Uy eB cJ dP cK) ((Uz eB cJ dP) dK) :=
  lL (fun s : Int => Uy eB cJ dP s) (Uz eB cJ dP) cK (fun cK o h => by
  unfold JV at h
  refine gN 28 X0.D dP.args ?_
  refine iB 29 h (fun h => ?_) fun h => ?_
  refine xX 35 X0.D h fun x3 h => ?_
  refine xX 40 X6.D h fun x4 h => ?_
  refine xX 44 dZ h fun x5 h => ?_
  refine iB 47 h (fun h => ?_) fun h => ?_
  exact lb h
  refine xX 51 X0.D h fun x6 h => ?_
  obtain ⟨r7,h11,h⟩ := bS h
  refine gC 53 (Up h11) ?_
  refine iB 55 h (fun h => ?_) fun h => ?_
  exact lb h
  exact lb h
  exact lb h) h
theorem aRy (h : Z7 eB dP = some d4) : AL Tryz.prog 6 [.d ((D.l X6.D) eB),.d (X3.D dP)] [] (.d (D.b d4)) [] := by
  unfold Z7 at h
  apply g0 (o := d4)
  obtain ⟨r1,h1,h⟩ := bS h
  refine gC 10 (aL7 h1) ?_
  refine iB 13 h (fun h => ?_) fun h => ?_
  exact lf h
  refine gW 22 (.int (dP.args.length : Int)) <| xX 16 X6.D h fun x2 h => ?_
  refine gN 19 dZ x2.types <| gQ (DC X0.D dP.args) ?_
  refine iB 24 h (fun h => ?_) fun h => ?_
  exact lf h
  obtain ⟨o8,h13,h⟩ := bS h
  refine gl (aEr none h13) ?_
  replace h := AK h
  rcases h with ⟨o9,rfl,h⟩ | ⟨o10,rfl,h⟩
  exact lf h
  exact lf h
theorem aOg (h : Qa cU cR dP = some cJ) : AL Tryz.prog 17 [.d (AE.D cU),.d ((D.l X2.D) cR),.d (X3.D dP)] [] (.d (dU cJ)) [] := by
  unfold Qa at h
  apply g0 (o := cJ)
  obtain ⟨r1,h1,h⟩ := bS h
  refine gC 10 (aRy h1) ?_
  refine iB 11 h (fun h => ?_) fun h => ?_
  exact lf h
  obtain ⟨r2,h3,h⟩ := bS h
  refine gC 14 (aL0 h3) ?_
  obtain ⟨r3,h4,h⟩ := bS h
  refine gC 16 (aL2 h4) ?_
  obtain ⟨r4,h5,h⟩ := bS h
  refine gC 17 (aL5 h5) ?_
  exact lf h
theorem aOr (h : Qi cU dP = some eC) : AL Tryz.prog 61 [.d (AE.D cU),.d (X3.D dP)] [] (.clo (.func 98) [] [.eptr (D.cells (AE.D eC.1)),.eptr (D.cells (X3.D eC.2))]) [] := by
  unfold Qi at h
  apply g0 (o := eC)
  refine gW 2 .frz <| gW 3 .frz ?_
  exact lf h
theorem aO3 (h : Qu eE eF = some d4) : AL Tryz.prog 137 [.d (X6.D eE),.eptr (D.cells (D.s eF))] [] (.d (D.b d4)) [] := by
  unfold Qu at h
  apply g0 (o := d4)
  exact lf h
def VJ (s0 : List X6) (s1 : List UInt8) (s7 s8 : Int) : St := ⟨sp 19 0 [sD 0 (D.l X6.D) s0,(1,.clo (.func 137) [] [.eptr (D.cells (D.s s1))]),sI 7 s7,sI 8 s8],[],[]⟩
def VK (s0 : List X6) (s1 : List UInt8) (s7 : Int) (o : Unit ⊕ Int) : Ex × St := match o with
  | .inl o => (.exit 0,⟨sp 19 0 [],[],[]⟩)
  | .inr o => (.ret,⟨sp 19 0 [sI 4 o],[],[]⟩)
theorem aEy (rd : Option Nat) (h : aJk eB eF cJ cK = some d6) : Lq 136 rd 26 (VJ eB eF cJ cK) ((VK eB eF cJ) d6) :=
  lL (fun s : Int => VJ eB eF cJ s) (VK eB eF cJ) cK (fun cK o h => by
  unfold JX at h
  refine iB 9 h (fun h => ?_) fun h => ?_
  refine xX 14 X6.D h fun x1 h => ?_
  obtain ⟨r2,h3,h⟩ := bS h
  refine gQ (aO3 h3) ?_
  cases r2
  replace h := B1 h
  refine gW 16 (.ret (.d (D.b false))) ?_
  exact lb h
  replace h := B2 h
  refine gW 16 (.ret (.d (D.b true))) ?_
  exact lb h
  exact lb h) h
theorem aR7 (h : Ze eB eF = some cJ) : AL Tryz.prog 136 [.d ((D.l X6.D) eB),.clo (.func 137) [] [.eptr (D.cells (D.s eF))]] [] (dI cJ) [] := by
  unfold Ze at h
  apply g0 (o := cJ)
  refine gN 7 X6.D eB ?_
  obtain ⟨o3,h5,h⟩ := bS h
  refine gl (aEy none h5) ?_
  replace h := AK h
  rcases h with ⟨o4,rfl,h⟩ | ⟨o5,rfl,h⟩
  exact lf h
  exact lf h
theorem aO4 (h : Qv eB eF = some eG) : AL Tryz.prog 124 [.d ((D.l X6.D) eB),.d (D.s eF)] [] (.tup [dI eG.1,.d (D.b eG.2)]) [] := by
  unfold Qv at h
  apply g0 (o := eG)
  refine gW 3 .frz ?_
  obtain ⟨r1,h1,h⟩ := bS h
  refine gC 9 (aR7 h1) <| gG 11 (.int (W5 r1 0)) (rfl : W5 r1 0 = W5 r1 0) ?_
  exact lf h
theorem aO5 (h : Qw cJ = some d8) : AL Tryz.prog 138 [dI cJ] [] (.d (X0.D d8)) [] := by
  unfold Qw at h
  apply g0 (o := d8)
  exact lf h
theorem aO6 (h : Qx eF = some d8) : AL Tryz.prog 139 [.d (D.s eF)] [] (.d (X0.D d8)) [] := by
  unfold Qx at h
  apply g0 (o := d8)
  exact lf h
theorem aOi (h : Qb d8 = some d4) : AL Tryz.prog 127 [.d (X0.D d8)] [] (.d (D.b d4)) [] := by
  unfold Qb at h
  apply g0 (o := d4)
  refine iB 5 h (fun h => ?_) fun h => ?_
  obtain ⟨r1,h2,h⟩ := bS h
  refine gC 10 (aO5 h2) ?_
  exact lf h
  refine iB 12 h (fun h => ?_) fun h => ?_
  obtain ⟨r2,h4,h⟩ := bS h
  refine gC 17 (aO6 h4) ?_
  refine iB 19 h (fun h => ?_) fun h => ?_
  refine gG 22 (.int (d8.str.length : Int)) (BM d8.str) ?_
  exact lf h
  exact lf h
  refine iB 25 h (fun h => ?_) fun h => ?_
  obtain ⟨r3,h7,h⟩ := bS h
  refine gC 30 (aJm h7) ?_
  exact lf h
  exact lf h
theorem aO7 (h : Qy d8 cJ = some d4) : AL Tryz.prog 126 [.d (X0.D d8),dI cJ] [] (.d (D.b d4)) [] := by
  unfold Qy at h
  apply g0 (o := d4)
  refine iB 9 h (fun h => ?_) fun h => ?_
  obtain ⟨r1,h2,h⟩ := bS h
  refine gC 11 (aOi h2) ?_
  exact lf h
  exact lf h
def VG (s1 : List Int) (s15 : List X0) (s16 s17 : Int) : St := ⟨sp 32 0 [sD 1 (D.l dZ) s1,(2,.clo (.func 126) [] []),sD 15 (D.l X0.D) s15,sI 16 s16,sI 17 s17],[],[]⟩
def VH (s1 : List Int) (s15 : List X0) (s16 : Int) (o : Unit ⊕ Unit) : Ex × St := match o with
  | .inl o => (.exit 0,⟨sp 32 0 [],[],[]⟩)
  | .inr o => (.ret,⟨sp 32 0 [sD 6 D.b false],[],[]⟩)
theorem aEw (rd : Option Nat) (h : aJj cN d7 cJ cK = some dK) : Lq 125 rd 58 (VG cN d7 cJ cK) ((VH cN d7 cJ) dK) :=
  lL (fun s : Int => VG cN d7 cJ s) (VH cN d7 cJ) cK (fun cK o h => by
  unfold JW at h
  refine iB 18 h (fun h => ?_) fun h => ?_
  refine xX 20 X0.D h fun x1 h => ?_
  refine xX 24 dZ h fun x2 h => ?_
  obtain ⟨r3,h5,h⟩ := bS h
  refine gC 29 (aO7 h5) ?_
  refine iB 30 h (fun h => ?_) fun h => ?_
  exact lb h
  exact lb h
  exact lb h) h
theorem aR3 (h : Zc d7 cN = some d4) : AL Tryz.prog 125 [.d ((D.l X0.D) d7),.d ((D.l dZ) cN),.clo (.func 126) [] []] [] (.d (D.b d4)) [] := by
  unfold Zc at h
  apply g0 (o := d4)
  refine gN 11 X0.D d7 <| gN 13 dZ cN ?_
  refine iB 14 h (fun h => ?_) fun h => ?_
  exact lf h
  refine gN 16 X0.D d7 ?_
  obtain ⟨o4,h7,h⟩ := bS h
  refine gl (aEw none h7) ?_
  replace h := AK h
  rcases h with ⟨o5,rfl,h⟩ | ⟨o6,rfl,h⟩
  exact lf h
  exact lf h
theorem aOk (h : Qc eB dP = some d4) : AL Tryz.prog 99 [.d ((D.l X6.D) eB),.d (X3.D dP)] [] (.d (D.b d4)) [] := by
  unfold Qc at h
  apply g0 (o := d4)
  obtain ⟨r1,h1,h⟩ := bS h
  refine gC 11 (aO4 h1) ?_
  refine iB 15 h (fun h => ?_) fun h => ?_
  exact lf h
  refine xX 20 X6.D h fun x2 h => ?_
  obtain ⟨r3,h4,h⟩ := bS h
  refine gC 23 (aR3 h4) ?_
  exact lf h
theorem aLg (h : Qd dO cJ = some cK) : AL Tryz.prog 146 [.d (X2.D dO),dI cJ] [] (dI cK) [] := by
  unfold Qd at h
  apply g0 (o := cK)
  exact lf h
theorem aDe (rd : Option Nat) (h : aDd cR cJ cK cM cT cW d4 = some eH) : Lq 145 rd 1931 ⟨sp 49 0 [sD 0 (D.l X2.D) cR,sI 1 cJ,(2,.clo (.func 146) [] []),sI 8 cK,sI 9 cM,sI 10 cT,sI 11 cW,sD 31 D.b d4],[],[]⟩ (.normal,⟨sp 49 0 [sD 0 (D.l X2.D) cR,sI 1 cJ,(2,.clo (.func 146) [] []),sI 8 cK,sI 9 eH.1,sI 10 eH.2],[],[]⟩) := by
  unfold aDd at h
  apply g0 (o := eH)
  cases d4
  replace h := B1 h
  exact lp h
  replace h := B2 h
  exact lp h
theorem aDc (rd : Option Nat) (h : aDb cR cJ cK cM cT = some eH) : Lq 145 rd 241 ⟨sp 49 0 [sD 0 (D.l X2.D) cR,sI 1 cJ,(2,.clo (.func 146) [] []),sI 8 cK,sI 9 cM,sI 10 cT],[],[]⟩ (.normal,⟨sp 49 0 [sD 0 (D.l X2.D) cR,sI 1 cJ,(2,.clo (.func 146) [] []),sI 8 cK,sI 9 eH.1,sI 10 eH.2],[],[]⟩) := by
  unfold aDb at h
  apply g0 (o := eH)
  refine gQ (of_decide_eq_true rfl : (0 : Int) ≤ 1) <| xX 27 X2.D h fun x1 h => ?_
  obtain ⟨r2,h3,h⟩ := bS h
  refine gC 30 (aLg h3) ?_
  obtain ⟨o3,h5,h⟩ := bS h
  refine gl (aDe rd h5) ?_
  exact lp h
def Tw (s0 : List X2) (s1 s8 : Int) (s9 s10 : Int) : St := ⟨sp 49 0 [sD 0 (D.l X2.D) s0,sI 1 s1,(2,.clo (.func 146) [] []),sI 8 s8,sI 9 s9,sI 10 s10],[],[]⟩
def Tx (s0 : List X2) (s1 s8 o : Int) : Ex × St := (.exit 0,⟨sp 49 0 [sD 0 (D.l X2.D) s0,sI 1 s1,(2,.clo (.func 146) [] []),sI 8 s8,sI 9 o],[],[]⟩)
theorem aDf (rd : Option Nat) (h : aIy cR cJ cK cM cT = some cW) : Lq 145 rd 60 (Tw cR cJ cK cM cT) ((Tx cR cJ cK) cW) :=
  lL (fun s : Int × Int => Tw cR cJ cK s.1 s.2) (Tx cR cJ cK) (cM,cT) (fun ⟨cM,cT⟩ o h => by
  unfold G9 at h
  refine iB 17 h (fun h => ?_) fun h => ?_
  obtain ⟨o4,h6,h⟩ := bS h
  refine gl (aDc rd h6) ?_
  exact lb h
  exact lb h) h
theorem aL4 (h : Yb cR cJ = some eG) : AL Tryz.prog 145 [.d ((D.l X2.D) cR),dI cJ,.clo (.func 146) [] []] [] (.tup [dI eG.1,.d (D.b eG.2)]) [] := by
  unfold Yb at h
  apply g0 (o := eG)
  refine gN 13 X2.D cR ?_
  obtain ⟨o5,h7,h⟩ := bS h
  refine gl (aDf none h7) ?_
  refine iB 39 h (fun h => ?_) fun h => ?_
  refine xX 43 X2.D h fun x6 h => ?_
  obtain ⟨r7,h10,h⟩ := bS h
  refine gC 46 (aLg h10) ?_
  exact lf h
  exact lf h
theorem aPf (h : U6 cJ cR = some dJ) : AL Tryz.prog 147 [.nil,.d (D.i .i64 cJ),.row 0] [(0,.row 65 5 (cR.map X2.D))] (.row 1) [rW 1 65 5 X2.D dJ] :=
  V9 (ρ := ⟨fun n => if n = 22 then 147 else if n = 29 then 154 else 155,fun n => if n = 0 then 0 else if n = 3 then 3 else if n = 4 then 4 else if n = 24 then 31 else 65,id⟩) (by_ := 48) X2.D mixed rfl ⟨ "slices.Insert[[]proctor/api.Slot,proctor/api.Slot]", by decide,(Tryz.func147).trans (by kernel_rfl)⟩ Tryz.underlying3 Tryz.underlying4 Tryz.underlying31 (by kernel_rfl) (by decide) cJ cR dJ h
theorem aTx (h : U7 dO = some eI) : AL Tryz.prog 140 [.box 0 0,.d (X2.D dO)] [(0,.cells ([.nil]))] (.d (D.b eI.1)) [(0,.cells ([.row 1])),rW 1 65 5 X2.D eI.2] := by
  unfold U7 at h
  refine XG.call (ks := [0]) mixed fun us => ?_
  apply g0 (o := eI)
  obtain ⟨r1,h1,h⟩ := bS h
  refine gC 14 (aL4 h1) ?_
  refine iB 17 h (fun h => ?_) fun h => ?_
  refine xX 23 X2.D h fun x2 h => ?_
  exact lX h [.live [4],.keep [0,997],.nilc 0 0 1 65 5,.sort]
  refine gQ (Ak X2.D [dO]) ?_
  obtain ⟨r3,h4,h⟩ := bS h
  refine gG 35 (.cx true [(0,34)] [(1,35)] (.row 1) [rW 1 65 5 X2.D r3]) (aPf h4) ?_
  exact lX h [.live [4],.keep [0,35,997],.ren 35 1,.sort]
theorem aO8 (h : Qz cJ cR dJ = some dL) : AL Tryz.prog 147 [.row 0,.d (D.i .i64 cJ),.row 1] [rW 0 65 5 X2.D cR,(1,.row 65 5 (dJ.map X2.D))] (.row 2) [rW 2 65 5 X2.D dL] :=
  V8 (ρ := ⟨fun n => if n = 22 then 147 else if n = 29 then 154 else 155,fun n => if n = 0 then 0 else if n = 3 then 3 else if n = 4 then 4 else if n = 24 then 31 else 65,id⟩) (by_ := 48) X2.D mixed rfl ⟨ "slices.Insert[[]proctor/api.Slot,proctor/api.Slot]", by decide,(Tryz.func147).trans (by kernel_rfl)⟩ Tryz.underlying3 Tryz.underlying4 Tryz.underlying31 (by kernel_rfl) (by decide) (by decide)
    (fun args w => run_callFunc_extern Tryz.func154 (by kernel_rfl) (by kernel_rfl) (by kernel_rfl) (e := Go.Extern.SlicesOverlaps.overlaps #[31,31] #[4]) (by kernel_rfl) args w) cJ cR dJ dL h
theorem O2 (h : Zk dO cR = some eI) : AL Tryz.prog 140 [.box 0 0,.d (X2.D dO)] [(0,.cells ([.row 1])),rW 1 65 5 X2.D cR] (.d (D.b eI.1)) [(0,.cells ([.row 2])),rW 2 65 5 X2.D eI.2] := by
  unfold Zk at h
  refine XG.call (ks := [0]) mixed fun us => ?_
  apply g0 (o := eI)
  obtain ⟨r1,h1,h⟩ := bS h
  refine gG 14 (.lend [1] (.tup [dI r1.1,.d (D.b r1.2)])) (aL4 h1) ?_
  refine iB 17 h (fun h => ?_) fun h => ?_
  obtain ⟨h3,h⟩ := cS h
  refine gQ h3.1 <| gQ (AP X2.D h3.2) ?_
  obtain ⟨x2,h4,h⟩ := xS h
  refine gG 24 (.el (X2.D x2)) (AR X2.D h4) ?_
  exact lX h [.live [4],.keep [0,1,997],.ren 1 2,.sort]
  refine gQ (Ak X2.D [dO]) ?_
  obtain ⟨r3,h5,h⟩ := bS h
  refine gG 35 (.cx true [(0,1),(1,34)] [(2,35)] (.row 2) [rW 2 65 5 X2.D r3]) (aO8 h5) ?_
  exact lX h [.live [4],.keep [0,35,997],.ren 35 2,.sort]
def UY (us : List Value) (s13 : List Av) (s14 : Int) (w5 : X3) (s15 : Int) (w600 w601 : List X2) : St := ⟨sp 60 0 [(2,.box 0 0),(3,.box 1 0),bx 5,sD 13 (D.l Av.D) s13,sI 14 s14,sI 15 s15],[(0,.cells ([.row 600])),(1,.cells ([.row 601])),cL 5 X3.D w5,rW 600 65 5 X2.D w600,rW 601 65 5 X2.D w601,(997,.vals [.box 0 0,.box 1 0] us)],[]⟩
def UZ (us : List Value) (s13 : List Av) (s14 : Int) (w5 : X3) (o : (List X2 × List X2) ⊕ (List X2 × List X2)) : Ex × St := match o with
  | .inl o => (.exit 0,⟨sp 60 0 [],[(0,.cells ([.row 600])),(1,.cells ([.row 601])),rW 600 65 5 X2.D o.1,rW 601 65 5 X2.D o.2,(997,.vals [.box 0 0,.box 1 0] us)],[]⟩)
  | .inr o => (.ret,⟨sp 60 0 [sD 8 D.b false],[(0,.cells ([.row 600])),(1,.cells ([.row 601])),rW 600 65 5 X2.D o.1,rW 601 65 5 X2.D o.2,(997,.vals [.box 0 0,.box 1 0] us)],[]⟩)
theorem aEb (rd : Option Nat) (us : List Value) (h : UX eK cJ dP cK cR dJ = some eL) : Lq 128 rd 26 (UY us eK cJ dP cK cR dJ) ((UZ us eK cJ dP) eL) :=
  lL (fun s : Int × List X2 × List X2 => UY us eK cJ dP s.1 s.2.1 s.2.2) (UZ us eK cJ dP) (cK,cR,dJ) (fun ⟨cK,cR,dJ⟩ o h => by
  unfold HI at h
  refine iB 16 h (fun h => ?_) fun h => ?_
  refine xX 18 Av.D h fun x9 h => ?_
  refine xX 25 X0.D h fun x10 h => ?_
  refine iB 32 h (fun h => ?_) fun h => ?_
  refine iB 28 h (fun h => ?_) fun h => ?_
  exact lb h
  refine iB 43 h (fun h => ?_) fun h => ?_
  obtain ⟨r11,h30,h⟩ := bS h
  refine gG 46 (.cx false [(0,0),(1,600)] [(2,46)] (.d (D.b r11.1)) [(0,.cells ([.row 2])),rW 2 65 5 X2.D r11.2]) (O2 h30) ?_
  refine iB 39 h (fun h => ?_) fun h => ?_
  exact lB h [.live [8],.keep [0,1,46,601,997],.ren 46 600,.sort]
  refine iB 53 h (fun h => ?_) fun h => ?_
  obtain ⟨r12,h33,h⟩ := bS h
  refine gG 56 (.cx false [(0,1),(1,601)] [(2,56)] (.d (D.b r12.1)) [(0,.cells ([.row 2])),rW 2 65 5 X2.D r12.2]) (O2 h33) ?_
  refine iB 49 h (fun h => ?_) fun h => ?_
  exact lB h [.live [8],.keep [0,1,46,56,997],.ren 46 600,.ren 56 601,.sort]
  exact lB h [.live [2,3,5,13,14,15],.keep [0,1,5,46,56,997],.ren 46 600,.ren 56 601,.sort]
  exact lB h [.live [2,3,5,13,14,15],.keep [0,1,5,46,601,997],.ren 46 600,.sort]
  refine iB 53 h (fun h => ?_) fun h => ?_
  obtain ⟨r13,h36,h⟩ := bS h
  refine gG 56 (.cx false [(0,1),(1,601)] [(2,56)] (.d (D.b r13.1)) [(0,.cells ([.row 2])),rW 2 65 5 X2.D r13.2]) (O2 h36) ?_
  refine iB 49 h (fun h => ?_) fun h => ?_
  exact lB h [.live [8],.keep [0,1,56,600,997],.ren 56 601,.sort]
  exact lB h [.live [2,3,5,13,14,15],.keep [0,1,5,56,600,997],.ren 56 601,.sort]
  exact lb h
  refine iB 43 h (fun h => ?_) fun h => ?_
  obtain ⟨r14,h39,h⟩ := bS h
  refine gG 46 (.cx false [(0,0),(1,600)] [(2,46)] (.d (D.b r14.1)) [(0,.cells ([.row 2])),rW 2 65 5 X2.D r14.2]) (O2 h39) ?_
  refine iB 39 h (fun h => ?_) fun h => ?_
  exact lB h [.live [8],.keep [0,1,46,601,997],.ren 46 600,.sort]
  refine iB 53 h (fun h => ?_) fun h => ?_
  obtain ⟨r15,h42,h⟩ := bS h
  refine gG 56 (.cx false [(0,1),(1,601)] [(2,56)] (.d (D.b r15.1)) [(0,.cells ([.row 2])),rW 2 65 5 X2.D r15.2]) (O2 h42) ?_
  refine iB 49 h (fun h => ?_) fun h => ?_
  exact lB h [.live [8],.keep [0,1,46,56,997],.ren 46 600,.ren 56 601,.sort]
  exact lB h [.live [2,3,5,13,14,15],.keep [0,1,5,46,56,997],.ren 46 600,.ren 56 601,.sort]
  exact lB h [.live [2,3,5,13,14,15],.keep [0,1,5,46,601,997],.ren 46 600,.sort]
  refine iB 53 h (fun h => ?_) fun h => ?_
  obtain ⟨r16,h45,h⟩ := bS h
  refine gG 56 (.cx false [(0,1),(1,601)] [(2,56)] (.d (D.b r16.1)) [(0,.cells ([.row 2])),rW 2 65 5 X2.D r16.2]) (O2 h45) ?_
  refine iB 49 h (fun h => ?_) fun h => ?_
  exact lB h [.live [8],.keep [0,1,56,600,997],.ren 56 601,.sort]
  exact lB h [.live [2,3,5,13,14,15],.keep [0,1,5,56,600,997],.ren 56 601,.sort]
  exact lb h
  exact lb h) h
theorem aRi (h : Yt dQ dP = some eM) : AL Tryz.prog 128 [.d (X5.D dQ),.d (X3.D dP),.box 0 0,.box 1 0] [(0,.cells ([.nil])),(1,.cells ([.nil]))] (.d (D.b eM.1)) [(0,.cells ([.row 2])),(1,.cells ([.row 3])),rW 2 65 5 X2.D eM.2.1,rW 3 65 5 X2.D eM.2.2] := by
  unfold Yt at h
  refine XG.call (ks := [2,3]) mixed fun us => ?_
  apply g0 (o := eM)
  refine gN 14 Av.D dQ.args ?_
  obtain ⟨o17,h47,h⟩ := bS h
  refine gL [.live [2,3,5,13,14,15],.keep [0,1,5,997],.nilc 0 0 600 65 5,.nilc 1 0 601 65 5,.sort] (aEb none us h47) ?_
  replace h := AK h
  rcases h with ⟨o18,rfl,h⟩ | ⟨o19,rfl,h⟩
  exact lX h [.live [8],.keep [0,1,600,601,997],.ren 600 2,.ren 601 3,.sort]
  exact lX h [.live [8],.keep [0,1,600,601,997],.ren 600 2,.ren 601 3,.sort]
theorem aOm (h : Qe cU cJ dP = some dX) : AL Tryz.prog 100 [.d (AE.D cU),dI cJ,.d (X3.D dP)] [] (.tup [.d (AN.D dX.1),.d (D.b dX.2)]) [] := by
  unfold Qe at h
  apply g0 (o := dX)
  refine xX 14 X5.D h fun x1 h => ?_
  refine xX 20 X6.D h fun x2 h => ?_
  refine iB 25 h (fun h => ?_) fun h => ?_
  exact lf h
  obtain ⟨r3,h4,h⟩ := bS h
  refine gG 29 (.cx false [(0,9),(1,10)] [(2,29),(3,436)] (.d (D.b r3.1)) [(0,.cells ([.row 2])),(1,.cells ([.row 3])),rW 2 65 5 X2.D r3.2.1,rW 3 65 5 X2.D r3.2.2]) (aRi h4) ?_
  refine iB 30 h (fun h => ?_) fun h => ?_
  exact lf h
  refine gW 34 (.fzn 29) <| gW 36 (.fzn 436) ?_
  exact lf h
def Ni (x : AN) : List A := [.d (AN.D x)]
def UH {φ : Type} (l : Nat) (F : φ → Bx) (s1 : AE) (s2 : X3) (s14 : Int) (f0 : φ) (s15 : Int) : St := ⟨sp 33 0 [sD 0 .v (.func (.yield l) #[] #[]),eP 1 AE.D s1,eP 2 X3.D s2,sI 14 s14,sI 15 s15],[],(F f0)⟩
def UI {φ : Type} (l : Nat) (F : φ → Bx) (s1 : AE) (s2 : X3) (s14 : Int) (o : φ ⊕ φ) : Ex × St := match o with
  | .inl o => (.exit 0,⟨sp 33 0 [],[],(F o)⟩)
  | .inr o => (.ret,⟨sp 33 0 [],[],(F o)⟩)
theorem aD1 (rd : Option Nat) {φ : Type} (step : φ → AN → Option (φ × Bool)) (l : Nat) (F : φ → Bx) (N : List Nat) (hF : ∀ f,FOk (F f) N) (hY : ∀ f x r,step f x = some r → GC Tryz.prog l (Ni x) (F f) (.d (D.b r.2)) (F r.1)) {s1 : AE} {s2 : X3} {s14 : Int} {f0 : φ} {s15 : Int} {t : φ ⊕ φ} (h : UG step s1 s2 s14 f0 s15 = some t) : Lq 98 rd 14 (UH l F s1 s2 s14 f0 s15) ((UI l F s1 s2 s14) t) :=
  lL (fun s : φ × Int => UH l F s1 s2 s14 s.1 s.2) (UI l F s1 s2 s14) (f0,s15) (fun ⟨f0,s15⟩ o h => by
  unfold HD at h
  refine iB 16 h (fun h => ?_) fun h => ?_
  obtain ⟨r2,h4,h⟩ := bS h
  refine gC 22 (aOm h4) ?_
  refine iB 26 h (fun h => ?_) fun h => ?_
  replace h := IG h
  rcases h with ⟨f3,h6,h⟩ | ⟨f4,h7,h⟩
  refine gG 29 (.own false (.d (D.b true)) [] (F f3)) (hY f0 r2.1 (f3,true) h6) <| gQ (Or.inr ⟨(hF _).nms.trans (hF _).nms.symm,(hF _).far⟩ : F f3 = F f0 ∨ (AG (F f3) = AG (F f0) ∧ Far (F f3))) ?_
  exact lb h
  refine gG 29 (.own false (.d (D.b false)) [] (F f4)) (hY f0 r2.1 (f4,false) h7) <| gQ (Or.inr ⟨(hF _).nms.trans (hF _).nms.symm,(hF _).far⟩ : F f4 = F f0 ∨ (AG (F f4) = AG (F f0) ∧ Far (F f4))) ?_
  exact lb h
  exact lb h
  exact lb h) h
theorem aQ9 {φ : Type} (step : φ → AN → Option (φ × Bool)) (a1 : AE) (a2 : X3) (f0 f1 : φ) (h : Yl step a1 a2 f0 = some f1) : AIt Tryz.prog 98 [.eptr (D.cells (AE.D a1)),.eptr (D.cells (X3.D a2))] Ni step f0 f1 := by
  intro l F N hF hY
  refine ⟨.tup [], ?_⟩
  unfold Yl at h
  apply g0 (o := f1)
  obtain ⟨r1,h1,h⟩ := bS h
  refine gC 10 (aOk h1) ?_
  refine iB 11 h (fun h => ?_) fun h => ?_
  exact lI (hF _).far (fun _ => (hF _).cls) h []
  refine gN 14 X5.D a1.symbols ?_
  obtain ⟨o5,h8,h⟩ := bS h
  refine gl (aD1 none step l F N hF hY h8) ?_
  replace h := AK h
  rcases h with ⟨o6,rfl,h⟩ | ⟨o7,rfl,h⟩
  exact lI (hF _).far (fun _ => (hF _).cls) h []
  exact lI (hF _).far (fun _ => (hF _).cls) h []
def Sk (uz : List Value) (s6_1 : AE) (s6_2 : X3) (s7 : AN) (w600 : List AN) (w998_1 : AE) (w998_2 : X3) : St := ⟨sp 13 0 [bx 2,(6,.clo (.func 98) [] [.eptr (D.cells (AE.D s6_1)),.eptr (D.cells (X3.D s6_2))]),sD 7 AN.D s7],[(2,.cells ([.row 600])),(600,.row 83 3 (w600.map AN.D)),(998,.vals (sp 13 0 [bx 2,(6,.clo (.func 98) [] [.eptr (D.cells (AE.D w998_1)),.eptr (D.cells (X3.D w998_2))])]) uz)],[]⟩
def Sl (uz : List Value) (s6_1 : AE) (s6_2 : X3) (s7 : AN) (w600 : List AN) (w998_1 : AE) (w998_2 : X3) (o : Unit) : Ex × St := (.normal,⟨sp 13 0 [bx 2,bx 5,(6,.clo (.func 98) [] [.eptr (D.cells (AE.D s6_1)),.eptr (D.cells (X3.D s6_2))])],[(2,.cells ([.row 600])),cL 5 AN.D s7,(600,.row 83 3 (w600.map AN.D)),(998,.vals (sp 13 0 [bx 2,(6,.clo (.func 98) [] [.eptr (D.cells (AE.D w998_1)),.eptr (D.cells (X3.D w998_2))])]) uz)],[]⟩)
theorem aA6 (rd : Option Nat) (uz : List Value) (h : aA5 cU dP dR dY eN eO = some eQ) : Lq 97 rd 52 (Sk uz cU dP dR dY eN eO) (Sl uz cU dP dR dY eN eO eQ) := by
  unfold aA5 at h
  apply g0 (o := eQ)
  exact lp h
def Sm (uz : List Value) (s6_1 : AE) (s6_2 : X3) (w5 : AN) (w600 : List AN) (w998_1 : AE) (w998_2 : X3) : St := ⟨sp 13 0 [bx 2,bx 5,(6,.clo (.func 98) [] [.eptr (D.cells (AE.D s6_1)),.eptr (D.cells (X3.D s6_2))])],[(2,.cells ([.row 600])),cL 5 AN.D w5,(600,.row 83 3 (w600.map AN.D)),(998,.vals (sp 13 0 [bx 2,(6,.clo (.func 98) [] [.eptr (D.cells (AE.D w998_1)),.eptr (D.cells (X3.D w998_2))])]) uz)],[]⟩
theorem aA8 (rd : Option Nat) (uz : List Value) (h : aA7 cU dP dR dY eN eO = some eQ) : Lq 97 rd 53 (Sm uz cU dP dR dY eN eO) (.normal,⟨sp 13 0 [],[(2,.cells ([.row 600])),(600,.row 83 3 ((dY ++ [dR]).map AN.D)),(998,.vals (sp 13 0 [bx 2,(6,.clo (.func 98) [] [.eptr (D.cells (AE.D eN)),.eptr (D.cells (X3.D eO))])]) uz)],[]⟩) := by
  unfold aA7 at h
  apply g0 (o := eQ)
  refine gQ (Ak AN.D [dR]) <| gG 11 (.sl ((dY ++ [dR]).map AN.D)) (Ak AN.D [dR]) ?_
  obtain ⟨h3,h⟩ := cS h
  refine gQ (Ap AN.D h3) <| gQ (Ao AN.D dY [dR]) ?_
  exact lP h [.live [],.keep [2,11,998],.ren 11 600,.sort]
def Gt (s6_1 : AE) (s6_2 : X3) : List A := sp 13 0 [bx 2,(6,.clo (.func 98) [] [.eptr (D.cells (AE.D s6_1)),.eptr (D.cells (X3.D s6_2))])]
def Ej (s6_1 : AE) (s6_2 : X3) (s : List AN) : Bx := [(2,.cells ([.row 600])),(600,.row 83 3 (s.map AN.D))]
def JM (s6_1 : AE) (s6_2 : X3) (t : Empty) : Bx := t.elim
def L9 (t : Empty) : Ex := t.elim
def Sn (s6_1 : AE) (s6_2 : X3) (o : (List AN) ⊕ (Empty)) : Ex × St := (rex L9 o,⟨Gt s6_1 s6_2,rbx (Ej s6_1 s6_2) (JM s6_1 s6_2) o,rbx (fun _ => []) (fun _ => []) o⟩)
theorem Sp (s6_1 : AE) (s6_2 : X3) (s : List AN) (x : AN) (o : (List AN) ⊕ (Empty)) (h : Cf s6_1 s6_2 s x = some o) (m : Nat) (uz : List Value) : ∃ M E1,Cl Tryz.prog (some m) (Bu Tryz.prog 97) (0 :: [0,1,0,1]) ⟨Fh (Gt s6_1 s6_2) ((Array.toList #[7]).zip (Ni x)),Ej s6_1 s6_2 s ++ [(vn,.vals (Gt s6_1 s6_2) uz)],(fun _ => []) s⟩ .normal M ∧
    Cl Tryz.prog (some m) (Bu Tryz.prog 97) (1 :: [0,1,0,1]) M (rex L9 o) ⟨E1,rbx (Ej s6_1 s6_2) (JM s6_1 s6_2) o ++ [(vn,.vals (Gt s6_1 s6_2) uz)],rbx (fun _ => []) (fun _ => []) o⟩ := by
  unfold Cf at h
  obtain ⟨o5,h5,h⟩ := bS h
  obtain ⟨o6,h6,h⟩ := bS h
  obtain rfl := si h
  exact ⟨(Sl uz s6_1 s6_2 x s s6_1 s6_2 o5).2,sp 13 0 [],Ft (w := [.live [2,6,7],.keep [2,600,998]]) (s1 := Sk uz s6_1 s6_2 x s s6_1 s6_2) (by kernel_rfl) (Dj (aA6 (some m) uz h5) rfl (by kernel_rfl) rfl),Ft (w := [.live [2,5,6],.keep [2,5,600,998]]) (s1 := Sm uz s6_1 s6_2 x s s6_1 s6_2) (by kernel_rfl) (Dj (aA8 (some m) uz h6) rfl (by kernel_rfl) (by kernel_rfl))⟩
theorem aA9 (s6_1 : AE) (s6_2 : X3) (s : List AN) (o : (List AN) ⊕ (Empty)) (h : Yl (Ca (Cf s6_1 s6_2)) s6_1 s6_2 (.inl s) = some o) : Cl Tryz.prog none (Bu Tryz.prog 97) [0,1,0,1] ⟨Gt s6_1 s6_2,Ej s6_1 s6_2 s,(fun _ => []) s⟩ (Sn s6_1 s6_2 o).1 (Sn s6_1 s6_2 o).2 :=
  OM (p := [0,1,0,1]) (g := .tmp 6) (ps := #[7]) (assign := Af (Bu Tryz.prog 97) (0 :: [0,1,0,1])) (body := Af (Bu Tryz.prog 97) (1 :: [0,1,0,1])) (by kernel_rfl) (Ej s6_1 s6_2) (JM s6_1 s6_2) (fun _ => []) (fun _ => []) L9 Ni (Cf s6_1 s6_2) (gf := 98) (cs := [.eptr (D.cells (AE.D s6_1)),.eptr (D.cells (X3.D s6_2))]) (by kernel_rfl) (by kernel_rfl) (by kernel_rfl) (fun x => ⟨by kernel_rfl,by kernel_rfl⟩) (fun s us => by kernel_rfl) (fun t us => t.elim) (fun s => rfl) (fun t => t.elim) (by kernel_rfl) (fun t => t.elim) (fun s => FOk.nil) (fun t => FOk.nil) (fun s x o h m us => Sp s6_1 s6_2 s x o h m us) (aQ9 (Ca (Cf s6_1 s6_2)) s6_1 s6_2 (.inl s) o h)
theorem aQe (h : Xp cU dP = some dY) : AL Tryz.prog 97 [.nil,.clo (.func 98) [] [.eptr (D.cells (AE.D cU)),.eptr (D.cells (X3.D dP))]] [] (.d ((D.l AN.D) dY)) [] := by
  unfold Xp at h
  apply g0 (o := dY)
  obtain ⟨o7,h4,h⟩ := bS h
  replace h := AK h
  rcases h with ⟨o8,rfl,h⟩ | ⟨o9,rfl,h⟩
  refine gL [.live [2,6],.keep [2],.nilc 2 0 600 83 3,.frz 600,.sort] (aA9 cU dP ([] : List AN) (Sum.inl o8) h4) ?_
  exact lf h
  cases h
theorem aO9 (h : U0 cU dP = some dY) : AL Tryz.prog 60 [.clo (.func 98) [] [.eptr (D.cells (AE.D cU)),.eptr (D.cells (X3.D dP))]] [] (.d ((D.l AN.D) dY)) [] := by
  unfold U0 at h
  apply g0 (o := dY)
  obtain ⟨r1,h1,h⟩ := bS h
  refine gG 4 (.cx true [] [] (.d ((D.l AN.D) r1)) []) (aQe h1) ?_
  exact lf h
theorem aOo (h : Qf cU dP = some dY) : AL Tryz.prog 38 [.d (AE.D cU),.d (X3.D dP)] [] (.d ((D.l AN.D) dY)) [] := by
  unfold Qf at h
  apply g0 (o := dY)
  obtain ⟨r1,h1,h⟩ := bS h
  refine gC 7 (aOr h1) ?_
  obtain ⟨r2,h2,h⟩ := bS h
  refine gC 8 (aO9 h2) ?_
  exact lf h
theorem aPa (h : U1 cR dJ = some eS) : AL Tryz.prog 96 [.d ((D.l X2.D) cR),.d ((D.l X2.D) dJ)] [] (.clo (.func 123) [] [.eptr (D.cells ((D.l X2.D) eS.1)),.eptr (D.cells ((D.l X2.D) eS.2))]) [] := by
  unfold U1 at h
  apply g0 (o := eS)
  refine gW 2 .frz <| gW 3 .frz ?_
  exact lf h
def KN (x : (X2 × X0) ⊕ X2) : List A := match x with
  | .inl x => [.d (X2.D x.1),.eptr (D.cells (X0.D x.2))]
  | .inr x => [.d (X2.D x),.d (.v (.pointer none))]
def aIv {φ : Type} (l : Nat) (F : φ → Bx) (f0 : φ) (s2 s9 : List X2) (s10 s11 : Int) : St := ⟨sp 29 0 [sD 0 .v (.func (.yield l) #[] #[]),eP 2 (D.l X2.D) s2,sD 9 (D.l X2.D) s9,sI 10 s10,sI 11 s11],[],(F f0)⟩
def aIw {φ : Type} (l : Nat) (F : φ → Bx) (f0 : φ) (s2 s9 : List X2) (s10 s11 : Int) (o : φ ⊕ φ) : Ex × St := match o with
  | .inl o => (.normal,⟨sp 29 0 [sD 0 .v (.func (.yield l) #[] #[]),eP 2 (D.l X2.D) s2,sD 9 (D.l X2.D) s9,sI 10 s10,sI 11 s11],[],(F o)⟩)
  | .inr o => (.ret,⟨sp 29 0 [],[],(F o)⟩)
theorem aC9 (rd : Option Nat) {φ : Type} (step : φ → ((X2 × X0) ⊕ X2) → Option (φ × Bool)) (l : Nat) (F : φ → Bx) (N : List Nat) (hF : ∀ f,FOk (F f) N) (hY : ∀ f x r,step f x = some r → GC Tryz.prog l (KN x) (F f) (.d (D.b r.2)) (F r.1)) {f0 : φ} {s2 s9 : List X2} {s10 s11 : Int} {o : φ ⊕ φ} (h : aC8 step f0 s2 s9 s10 s11 = some o) : Lq 123 rd 102 (aIv l F f0 s2 s9 s10 s11) (aIw l F f0 s2 s9 s10 s11 o) := by
  unfold aC8 at h
  apply g0 (o := o)
  refine xX 13 X2.D h fun x1 h => ?_
  obtain ⟨r2,h3,h⟩ := bS h
  refine gC 19 (aLy h3) ?_
  refine iB 22 h (fun h => ?_) fun h => ?_
  refine gW 10007 .frz ?_
  replace h := IG h
  rcases h with ⟨f3,h6,h⟩ | ⟨f4,h7,h⟩
  refine gG 26 (.own false (.d (D.b true)) [] (F f3)) (hY f0 (.inl (x1,r2.1)) (f3,true) h6) <| gQ (Or.inr ⟨(hF _).nms.trans (hF _).nms.symm,(hF _).far⟩ : F f3 = F f0 ∨ (AG (F f3) = AG (F f0) ∧ Far (F f3))) ?_
  exact lp h
  refine gG 26 (.own false (.d (D.b false)) [] (F f4)) (hY f0 (.inl (x1,r2.1)) (f4,false) h7) <| gQ (Or.inr ⟨(hF _).nms.trans (hF _).nms.symm,(hF _).far⟩ : F f4 = F f0 ∨ (AG (F f4) = AG (F f0) ∧ Far (F f4))) ?_
  exact lp h
  replace h := IG h
  rcases h with ⟨f5,h8,h⟩ | ⟨f6,h9,h⟩
  refine gG 26 (.own false (.d (D.b true)) [] (F f5)) (hY f0 (.inr x1) (f5,true) h8) <| gQ (Or.inr ⟨(hF _).nms.trans (hF _).nms.symm,(hF _).far⟩ : F f5 = F f0 ∨ (AG (F f5) = AG (F f0) ∧ Far (F f5))) ?_
  exact lp h
  refine gG 26 (.own false (.d (D.b false)) [] (F f6)) (hY f0 (.inr x1) (f6,false) h9) <| gQ (Or.inr ⟨(hF _).nms.trans (hF _).nms.symm,(hF _).far⟩ : F f6 = F f0 ∨ (AG (F f6) = AG (F f0) ∧ Far (F f6))) ?_
  exact lp h
def Tu {φ : Type} (l : Nat) (F : φ → Bx) (s2 s9 : List X2) (s10 : Int) (f0 : φ) (s11 : Int) : St := ⟨sp 29 0 [sD 0 .v (.func (.yield l) #[] #[]),eP 2 (D.l X2.D) s2,sD 9 (D.l X2.D) s9,sI 10 s10,sI 11 s11],[],(F f0)⟩
def Tv {φ : Type} (l : Nat) (F : φ → Bx) (s2 s9 : List X2) (s10 : Int) (o : φ ⊕ φ) : Ex × St := match o with
  | .inl o => (.exit 0,⟨sp 29 0 [],[],(F o)⟩)
  | .inr o => (.ret,⟨sp 29 0 [],[],(F o)⟩)
theorem aDa (rd : Option Nat) {φ : Type} (step : φ → ((X2 × X0) ⊕ X2) → Option (φ × Bool)) (l : Nat) (F : φ → Bx) (N : List Nat) (hF : ∀ f,FOk (F f) N) (hY : ∀ f x r,step f x = some r → GC Tryz.prog l (KN x) (F f) (.d (D.b r.2)) (F r.1)) {s2 s9 : List X2} {s10 : Int} {f0 : φ} {s11 : Int} {t : φ ⊕ φ} (h : aIx step s2 s9 s10 f0 s11 = some t) : Lq 123 rd 6 (Tu l F s2 s9 s10 f0 s11) ((Tv l F s2 s9 s10) t) :=
  lL (fun s : φ × Int => Tu l F s2 s9 s10 s.1 s.2) (Tv l F s2 s9 s10) (f0,s11) (fun ⟨f0,s11⟩ o h => by
  unfold G8 at h
  refine iB 12 h (fun h => ?_) fun h => ?_
  obtain ⟨o7,h10,h⟩ := bS h
  refine gl (aC9 rd step l F N hF hY h10) ?_
  replace h := AK h
  rcases h with ⟨o8,rfl,h⟩ | ⟨o9,rfl,h⟩
  exact lb h
  exact lb h
  exact lb h) h
theorem aQ3 {φ : Type} (step : φ → ((X2 × X0) ⊕ X2) → Option (φ × Bool)) (a1 a2 : List X2) (f0 f1 : φ) (h : Y9 step a1 a2 f0 = some f1) : AIt Tryz.prog 123 [.eptr (D.cells ((D.l X2.D) a1)),.eptr (D.cells ((D.l X2.D) a2))] KN step f0 f1 := by
  intro l F N hF hY
  refine ⟨.tup [], ?_⟩
  unfold Y9 at h
  apply g0 (o := f1)
  refine gN 10 X2.D a1 ?_
  obtain ⟨o10,h11,h⟩ := bS h
  refine gl (aDa none step l F N hF hY h11) ?_
  replace h := AK h
  rcases h with ⟨o11,rfl,h⟩ | ⟨o12,rfl,h⟩
  exact lI (hF _).far (fun _ => (hF _).cls) h []
  exact lI (hF _).far (fun _ => (hF _).cls) h []
def Lv (uz : List Value) (s9_1 s9_2 : List X2) (s10 : X2) (s11 : X0) (w4 : Bool) (w998_1 w998_2 : List X2) : St := ⟨sp 22 0 [bx 4,(9,.clo (.func 123) [] [.eptr (D.cells ((D.l X2.D) s9_1)),.eptr (D.cells ((D.l X2.D) s9_2))]),sD 10 X2.D s10,eP 11 X0.D s11],[(4,.cells ([.d (D.b w4)])),(998,.vals (sp 22 0 [bx 4,(9,.clo (.func 123) [] [.eptr (D.cells ((D.l X2.D) w998_1)),.eptr (D.cells ((D.l X2.D) w998_2))])]) uz)],[]⟩
def Lx (uz : List Value) (s9_1 s9_2 : List X2) (s10 : X2) (s11 : X0) (w4 : Bool) (w998_1 w998_2 : List X2) (o : Unit) : Ex × St := (.normal,⟨sp 22 0 [bx 4,bx 5,eP 6 X0.D s11,(9,.clo (.func 123) [] [.eptr (D.cells ((D.l X2.D) s9_1)),.eptr (D.cells ((D.l X2.D) s9_2))])],[(4,.cells ([.d (D.b w4)])),cL 5 X2.D s10,(998,.vals (sp 22 0 [bx 4,(9,.clo (.func 123) [] [.eptr (D.cells ((D.l X2.D) w998_1)),.eptr (D.cells ((D.l X2.D) w998_2))])]) uz)],[]⟩)
theorem NK (rd : Option Nat) (uz : List Value) (h : ZV cR dJ dO d8 d4 dL eT = some eQ) : Lq 59 rd 52 (Lv uz cR dJ dO d8 d4 dL eT) (Lx uz cR dJ dO d8 d4 dL eT eQ) := by
  unfold ZV at h
  apply g0 (o := eQ)
  exact lp h
def R4 (uz : List Value) (s9_1 s9_2 : List X2) (s10 : X2) (w4 : Bool) (w998_1 w998_2 : List X2) : St := ⟨sp 22 0 [bx 4,(9,.clo (.func 123) [] [.eptr (D.cells ((D.l X2.D) s9_1)),.eptr (D.cells ((D.l X2.D) s9_2))]),sD 10 X2.D s10,sD 11 .v (.pointer none)],[(4,.cells ([.d (D.b w4)])),(998,.vals (sp 22 0 [bx 4,(9,.clo (.func 123) [] [.eptr (D.cells ((D.l X2.D) w998_1)),.eptr (D.cells ((D.l X2.D) w998_2))])]) uz)],[]⟩
def R5 (uz : List Value) (s9_1 s9_2 : List X2) (s10 : X2) (w4 : Bool) (w998_1 w998_2 : List X2) (o : Unit) : Ex × St := (.normal,⟨sp 22 0 [bx 4,bx 5,sD 6 .v (.pointer none),(9,.clo (.func 123) [] [.eptr (D.cells ((D.l X2.D) s9_1)),.eptr (D.cells ((D.l X2.D) s9_2))])],[(4,.cells ([.d (D.b w4)])),cL 5 X2.D s10,(998,.vals (sp 22 0 [bx 4,(9,.clo (.func 123) [] [.eptr (D.cells ((D.l X2.D) w998_1)),.eptr (D.cells ((D.l X2.D) w998_2))])]) uz)],[]⟩)
theorem ZX (rd : Option Nat) (uz : List Value) (h : ZW cR dJ dO d4 dL eT = some eQ) : Lq 59 rd 52 (R4 uz cR dJ dO d4 dL eT) (R5 uz cR dJ dO d4 dL eT eQ) := by
  unfold ZW at h
  apply g0 (o := eQ)
  exact lp h
def Ly (uz : List Value) (s6 : X0) (s9_1 s9_2 : List X2) (w4 : Bool) (w5 : X2) (w998_1 w998_2 : List X2) : St := ⟨sp 22 0 [bx 4,bx 5,eP 6 X0.D s6,(9,.clo (.func 123) [] [.eptr (D.cells ((D.l X2.D) s9_1)),.eptr (D.cells ((D.l X2.D) s9_2))])],[(4,.cells ([.d (D.b w4)])),cL 5 X2.D w5,(998,.vals (sp 22 0 [bx 4,(9,.clo (.func 123) [] [.eptr (D.cells ((D.l X2.D) w998_1)),.eptr (D.cells ((D.l X2.D) w998_2))])]) uz)],[]⟩
theorem NL (rd : Option Nat) (uz : List Value) (h : ZY d8 cR dJ d4 dO dL eT = some dK) : Lq 59 rd 53 (Ly uz d8 cR dJ d4 dO dL eT) (match (generalizing := false) dK with
  | .inl dK => (.normal,⟨sp 22 0 [],[(4,.cells ([.d (D.b d4)])),(998,.vals (sp 22 0 [bx 4,(9,.clo (.func 123) [] [.eptr (D.cells ((D.l X2.D) dL)),.eptr (D.cells ((D.l X2.D) eT))])]) uz)],[]⟩)
  | .inr dK => (.ret,⟨sp 22 0 [],[(4,.cells ([.d (D.b false)])),(998,.vals (sp 22 0 [bx 4,(9,.clo (.func 123) [] [.eptr (D.cells ((D.l X2.D) dL)),.eptr (D.cells ((D.l X2.D) eT))])]) uz)],[]⟩)) := by
  unfold ZY at h
  apply g0 (o := dK)
  refine iB 21 h (fun h => ?_) fun h => ?_
  exact lp h
  exact lp h
def R6 (uz : List Value) (s9_1 s9_2 : List X2) (w4 : Bool) (w5 : X2) (w998_1 w998_2 : List X2) : St := ⟨sp 22 0 [bx 4,bx 5,sD 6 .v (.pointer none),(9,.clo (.func 123) [] [.eptr (D.cells ((D.l X2.D) s9_1)),.eptr (D.cells ((D.l X2.D) s9_2))])],[(4,.cells ([.d (D.b w4)])),cL 5 X2.D w5,(998,.vals (sp 22 0 [bx 4,(9,.clo (.func 123) [] [.eptr (D.cells ((D.l X2.D) w998_1)),.eptr (D.cells ((D.l X2.D) w998_2))])]) uz)],[]⟩
theorem aAa (rd : Option Nat) (uz : List Value) (h : ZZ cR dJ d4 dO dL eT = some eQ) : Lq 59 rd 53 (R6 uz cR dJ d4 dO dL eT) (.ret,⟨sp 22 0 [],[(4,.cells ([.d (D.b false)])),(998,.vals (sp 22 0 [bx 4,(9,.clo (.func 123) [] [.eptr (D.cells ((D.l X2.D) dL)),.eptr (D.cells ((D.l X2.D) eT))])]) uz)],[]⟩) := by
  unfold ZZ at h
  apply g0 (o := eQ)
  exact lp h
def Ge (s9_1 s9_2 : List X2) : List A := sp 22 0 [bx 4,(9,.clo (.func 123) [] [.eptr (D.cells ((D.l X2.D) s9_1)),.eptr (D.cells ((D.l X2.D) s9_2))])]
def Ei (s9_1 s9_2 : List X2) (s : Bool) : Bx := [(4,.cells ([.d (D.b s)]))]
def JJ (s9_1 s9_2 : List X2) (t : Bool) : Bx := [(4,.cells ([.d (D.b t)]))]
def Lz (t : Bool) : Ex := .ret
def R7 (s9_1 s9_2 : List X2) (o : (Bool) ⊕ (Bool)) : Ex × St := (rex Lz o,⟨Ge s9_1 s9_2,rbx (Ei s9_1 s9_2) (JJ s9_1 s9_2) o,rbx (fun _ => []) (fun _ => []) o⟩)
theorem R8 (s9_1 s9_2 : List X2) (s : Bool) (x : (X2 × X0) ⊕ X2) (o : (Bool) ⊕ (Bool)) (h : Ce s9_1 s9_2 s x = some o) (m : Nat) (uz : List Value) : ∃ M E1,Cl Tryz.prog (some m) (Bu Tryz.prog 59) (0 :: [0,1,0,1]) ⟨Fh (Ge s9_1 s9_2) ((Array.toList #[10,11]).zip (KN x)),Ei s9_1 s9_2 s ++ [(vn,.vals (Ge s9_1 s9_2) uz)],(fun _ => []) s⟩ .normal M ∧
    Cl Tryz.prog (some m) (Bu Tryz.prog 59) (1 :: [0,1,0,1]) M (rex Lz o) ⟨E1,rbx (Ei s9_1 s9_2) (JJ s9_1 s9_2) o ++ [(vn,.vals (Ge s9_1 s9_2) uz)],rbx (fun _ => []) (fun _ => []) o⟩ := by
  unfold Ce at h
  replace h := AK h
  rcases h with ⟨z13,rfl,h⟩ | ⟨z14,rfl,h⟩
  ·
   obtain ⟨o6,h5,h⟩ := bS h
   obtain ⟨o7,h6,h⟩ := bS h
   replace h := AK h
   rcases h with ⟨o15,rfl,h⟩ | ⟨o16,rfl,h⟩
   ·
    obtain rfl := si h
    exact ⟨(Lx uz s9_1 s9_2 z13.1 z13.2 s s9_1 s9_2 o6).2,sp 22 0 [],Ft (w := [.live [4,9,10,11],.keep [4,998]]) (s1 := Lv uz s9_1 s9_2 z13.1 z13.2 s s9_1 s9_2) (by kernel_rfl) (Dj (NK (some m) uz h5) rfl (by kernel_rfl) rfl),Ft (w := [.live [4,5,6,9],.keep [4,5,998]]) (s1 := Ly uz z13.2 s9_1 s9_2 s z13.1 s9_1 s9_2) (by kernel_rfl) (Dj (NL (some m) uz h6) rfl (by kernel_rfl) (by kernel_rfl))⟩
   ·
    obtain rfl := si h
    exact ⟨(Lx uz s9_1 s9_2 z13.1 z13.2 s s9_1 s9_2 o6).2,sp 22 0 [],Ft (w := [.live [4,9,10,11],.keep [4,998]]) (s1 := Lv uz s9_1 s9_2 z13.1 z13.2 s s9_1 s9_2) (by kernel_rfl) (Dj (NK (some m) uz h5) rfl (by kernel_rfl) rfl),Ft (w := [.live [4,5,6,9],.keep [4,5,998]]) (s1 := Ly uz z13.2 s9_1 s9_2 s z13.1 s9_1 s9_2) (by kernel_rfl) (Dj (NL (some m) uz h6) rfl (by kernel_rfl) (by kernel_rfl))⟩
  ·
   obtain ⟨o8,h7,h⟩ := bS h
   obtain ⟨o9,h8,h⟩ := bS h
   obtain rfl := si h
   exact ⟨(R5 uz s9_1 s9_2 z14 s s9_1 s9_2 o8).2,sp 22 0 [],Ft (w := [.live [4,9,10,11],.keep [4,998]]) (s1 := R4 uz s9_1 s9_2 z14 s s9_1 s9_2) (by kernel_rfl) (Dj (ZX (some m) uz h7) rfl (by kernel_rfl) rfl),Ft (w := [.live [4,5,6,9],.keep [4,5,998]]) (s1 := R6 uz s9_1 s9_2 s z14 s9_1 s9_2) (by kernel_rfl) (Dj (aAa (some m) uz h8) rfl (by kernel_rfl) (by kernel_rfl))⟩
theorem NM (s9_1 s9_2 : List X2) (s : Bool) (o : (Bool) ⊕ (Bool)) (h : Y9 (Ca (Ce s9_1 s9_2)) s9_1 s9_2 (.inl s) = some o) : Cl Tryz.prog none (Bu Tryz.prog 59) [0,1,0,1] ⟨Ge s9_1 s9_2,Ei s9_1 s9_2 s,(fun _ => []) s⟩ (R7 s9_1 s9_2 o).1 (R7 s9_1 s9_2 o).2 :=
  OM (p := [0,1,0,1]) (g := .tmp 9) (ps := #[10,11]) (assign := Af (Bu Tryz.prog 59) (0 :: [0,1,0,1])) (body := Af (Bu Tryz.prog 59) (1 :: [0,1,0,1])) (by kernel_rfl) (Ei s9_1 s9_2) (JJ s9_1 s9_2) (fun _ => []) (fun _ => []) Lz KN (Ce s9_1 s9_2) (gf := 123) (cs := [.eptr (D.cells ((D.l X2.D) s9_1)),.eptr (D.cells ((D.l X2.D) s9_2))]) (by kernel_rfl) (by kernel_rfl) (by kernel_rfl) (fun x => by rcases x with (_ | _) <;> exact ⟨by kernel_rfl,by kernel_rfl⟩) (fun s us => by kernel_rfl) (fun t us => by kernel_rfl) (fun s => rfl) (fun t => rfl) (by kernel_rfl) (fun t => rfl) (fun s => FOk.nil) (fun t => FOk.nil) (fun s x o h m us => R8 s9_1 s9_2 s x o h m us) (aQ3 (Ca (Ce s9_1 s9_2)) s9_1 s9_2 (.inl s) o h)
theorem aP0 (h : Xf cR dJ = some d4) : AL Tryz.prog 59 [.d ((D.l X2.D) cR),.d ((D.l X2.D) dJ)] [] (.d (D.b d4)) [] := by
  unfold Xf at h
  apply g0 (o := d4)
  obtain ⟨r1,h1,h⟩ := bS h
  refine gC 9 (aPa h1) ?_
  obtain ⟨o10,h4,h⟩ := bS h
  replace h := AK h
  rcases h with ⟨o11,rfl,h⟩ | ⟨o12,rfl,h⟩
  refine gL (lv [4,9] [4]) (NM r1.1 r1.2 false (Sum.inl o11) h4) ?_
  exact lf h
  refine gL (lv [4,9] [4]) (NM r1.1 r1.2 false (Sum.inr o12) h4) ?_
  exact lf h
theorem aPb (h : U2 dR cR = some d4) : AL Tryz.prog 58 [.d (AN.D dR),.eptr (D.cells ((D.l X2.D) cR))] [] (.d (D.b d4)) [] := by
  unfold U2 at h
  apply g0 (o := d4)
  obtain ⟨r1,h1,h⟩ := bS h
  refine gC 7 (aP0 h1) ?_
  exact lf h
theorem aDs (rd : Option Nat) (h : aDr cR dY cJ cK d4 eA eU dR = some eV) : Lq 57 rd 3379 ⟨sp 28 0 [(1,.clo (.func 58) [] [.eptr (D.cells ((D.l X2.D) cR))]),rx 4,rx 5,bx 7,sD 8 (D.l AN.D) dY,sI 9 cJ,sI 10 cK,sD 16 D.b d4],[(4,.row 83 3 (eA.map AN.D)),(5,.row 83 3 (eU.map AN.D)),cL 7 AN.D dR],[]⟩ (.normal,⟨sp 28 0 [(1,.clo (.func 58) [] [.eptr (D.cells ((D.l X2.D) cR))]),rx 4,rx 5,sD 8 (D.l AN.D) dY,sI 9 cJ,sI 10 cK],[(4,.row 83 3 (eV.1.map AN.D)),(5,.row 83 3 (eV.2.map AN.D))],[]⟩) := by
  unfold aDr at h
  apply g0 (o := eV)
  cases d4
  replace h := B1 h
  refine gQ (Ak AN.D [dR]) <| gG 24 (.sl ((eU ++ [dR]).map AN.D)) (Ak AN.D [dR]) ?_
  obtain ⟨h14,h⟩ := cS h
  refine gQ (Ap AN.D h14) <| gQ (Ao AN.D eU [dR]) ?_
  exact lP h [.live [1,4,5,8,9,10],.keep [4,24],.ren 24 5,.sort]
  replace h := B2 h
  refine gQ (Ak AN.D [dR]) <| gG 20 (.sl ((eA ++ [dR]).map AN.D)) (Ak AN.D [dR]) ?_
  obtain ⟨h13,h⟩ := cS h
  refine gQ (Ap AN.D h13) <| gQ (Ao AN.D eA [dR]) ?_
  exact lP h [.live [1,4,5,8,9,10],.keep [5,20],.ren 20 4,.sort]
theorem aDq (rd : Option Nat) (h : aDp cR dY cJ cK eA eU = some eV) : Lq 57 rd 422 ⟨sp 28 0 [(1,.clo (.func 58) [] [.eptr (D.cells ((D.l X2.D) cR))]),rx 4,rx 5,sD 8 (D.l AN.D) dY,sI 9 cJ,sI 10 cK],[(4,.row 83 3 (eA.map AN.D)),(5,.row 83 3 (eU.map AN.D))],[]⟩ (.normal,⟨sp 28 0 [(1,.clo (.func 58) [] [.eptr (D.cells ((D.l X2.D) cR))]),rx 4,rx 5,sD 8 (D.l AN.D) dY,sI 9 cJ,sI 10 cK],[(4,.row 83 3 (eV.1.map AN.D)),(5,.row 83 3 (eV.2.map AN.D))],[]⟩) := by
  unfold aDp at h
  apply g0 (o := eV)
  refine xX 12 AN.D h fun x5 h => ?_
  obtain ⟨r6,h11,h⟩ := bS h
  refine gC 16 (aPb h11) ?_
  obtain ⟨o7,h15,h⟩ := bS h
  refine gl (aDs rd h15) ?_
  exact lp h
def T7 (s1 : List X2) (s8 : List AN) (s9 s10 : Int) (w4 w5 : List AN) : St := ⟨sp 28 0 [(1,.clo (.func 58) [] [.eptr (D.cells ((D.l X2.D) s1))]),rx 4,rx 5,sD 8 (D.l AN.D) s8,sI 9 s9,sI 10 s10],[(4,.row 83 3 (w4.map AN.D)),(5,.row 83 3 (w5.map AN.D))],[]⟩
def T8 (s1 : List X2) (s8 : List AN) (s9 : Int) (o : (List AN × List AN)) : Ex × St := (.exit 0,⟨sp 28 0 [rx 4,rx 5],[(4,.row 83 3 (o.1.map AN.D)),(5,.row 83 3 (o.2.map AN.D))],[]⟩)
theorem aDt (rd : Option Nat) (h : aI3 cR dY cJ cK eA eU = some eV) : Lq 57 rd 26 (T7 cR dY cJ cK eA eU) ((T8 cR dY cJ) eV) :=
  lL (fun s : Int × List AN × List AN => T7 cR dY cJ s.1 s.2.1 s.2.2) (T8 cR dY cJ) (cK,eA,eU) (fun ⟨cK,eA,eU⟩ o h => by
  unfold HB at h
  refine iB 11 h (fun h => ?_) fun h => ?_
  obtain ⟨o8,h16,h⟩ := bS h
  refine gl (aDq rd h16) ?_
  exact lb h
  exact lb h) h
theorem aQ5 (h : Yg dY cR = some eW) : AL Tryz.prog 57 [.d ((D.l AN.D) dY),.clo (.func 58) [] [.eptr (D.cells ((D.l X2.D) cR))]] [] (.tup [.d ((D.l AN.D) eW.1),.d ((D.l AN.D) eW.2)]) [] := by
  unfold Yg at h
  apply g0 (o := eW)
  refine gN 9 AN.D dY ?_
  obtain ⟨o9,h17,h⟩ := bS h
  refine gL [.live [1,4,5,8,9,10],.keep [],.nil 4 4 83 3,.nil 5 5 83 3,.sort] (aDt none h17) ?_
  exact lf h
theorem aSn (h : Zz dY cR = some eA) : AL Tryz.prog 37 [.d ((D.l AN.D) dY),.d ((D.l X2.D) cR)] [] (.d ((D.l AN.D) eA)) [] := by
  unfold Zz at h
  apply g0 (o := eA)
  refine gW 3 .frz ?_
  obtain ⟨r1,h1,h⟩ := bS h
  refine gC 10 (aQ5 h1) ?_
  exact lf h
def U8 (s14 : List AN) (s15 s7 s16 : Int) : St := ⟨sp 28 0 [sD 7 dU s7,sD 14 (D.l AN.D) s14,sI 15 s15,sI 16 s16],[],[]⟩
def U9 (s14 : List AN) (s15 o : Int) : Ex × St := (.exit 0,⟨sp 28 0 [sD 7 dU o],[],[]⟩)
theorem aEs (rd : Option Nat) (h : aJg dY cJ cK cM = some cT) : Lq 18 rd 58 (U8 dY cJ cK cM) ((U9 dY cJ) cT) :=
  lL (fun s : Int × Int => U8 dY cJ s.1 s.2) (U9 dY cJ) (cK,cM) (fun ⟨cK,cM⟩ o h => by
  unfold HQ at h
  refine iB 17 h (fun h => ?_) fun h => ?_
  refine xX 18 AN.D h fun x3 h => ?_
  obtain ⟨h5,h⟩ := cS h
  refine gQ h5 ?_
  exact lb h
  exact lb h) h
theorem aRz (h : Z8 cU cR dP = some cJ) : AL Tryz.prog 18 [.d (AE.D cU),.d ((D.l X2.D) cR),.d (X3.D dP)] [] (.d (dU cJ)) [] := by
  unfold Z8 at h
  apply g0 (o := cJ)
  obtain ⟨r1,h1,h⟩ := bS h
  refine gC 12 (aOo h1) ?_
  obtain ⟨r2,h2,h⟩ := bS h
  refine gC 14 (aSn h2) <| gN 15 AN.D r2 ?_
  obtain ⟨o4,h6,h⟩ := bS h
  refine gl (aEs none h6) ?_
  exact lf h
def TS (s1 : List X2) (w3 : AE) (w5 : X3) (s7 : Int) : St := ⟨sp 93 0 [sD 1 (D.l X2.D) s1,bx 3,bx 5,sI 7 s7],[cL 3 AE.D w3,cL 5 X3.D w5],[]⟩
def TT (s1 : List X2) (w3 : AE) (w5 : X3) (o : Unit ⊕ Bool) : Ex × St := match o with
  | .inl o => (.exit 0,⟨sp 93 0 [sD 1 (D.l X2.D) s1,bx 3,bx 5],[cL 3 AE.D w3,cL 5 X3.D w5],[]⟩)
  | .inr o => (.ret,⟨sp 93 0 [sD 6 D.b o],[],[]⟩)
theorem aB3 (rd : Option Nat) (h : aIo cR cU dP cJ = some eX) : Lq 4 rd 58 (TS cR cU dP cJ) ((TT cR cU dP) eX) :=
  lL (fun s : Int => TS cR cU dP s) (TT cR cU dP) cJ (fun cJ o h => by
  unfold G0 at h
  refine gN 27 X0.D dP.args ?_
  refine iB 28 h (fun h => ?_) fun h => ?_
  refine xX 34 X0.D h fun x4 h => ?_
  refine gG 37 (.int (x4.str.length : Int)) (BM x4.str) ?_
  refine iB 38 h (fun h => ?_) fun h => ?_
  obtain ⟨r5,h9,h⟩ := bS h
  refine gC 39 (aE2 h9) ?_
  exact lb h
  exact lb h
  exact lb h) h
def TU (s1 : List X2) (s8 s9 : List Int) (s10 : Int) (w3 : AE) (w5 : X3) (s11 : Bool) (s12 : Int) : St := ⟨sp 93 0 [sD 1 (D.l X2.D) s1,bx 3,bx 5,sD 8 (D.l dU) s8,sD 9 (D.l dU) s9,sD 10 dU s10,sD 11 D.b s11,sI 12 s12],[cL 3 AE.D w3,cL 5 X3.D w5],[]⟩
def TV (s1 : List X2) (s8 s9 : List Int) (s10 : Int) (w3 : AE) (w5 : X3) (o : Bool ⊕ Unit) : Ex × St := match o with
  | .inl o => (.exit 2,⟨sp 93 0 [sD 1 (D.l X2.D) s1,bx 3,bx 5,sD 10 dU s10,sD 11 D.b o],[cL 3 AE.D w3,cL 5 X3.D w5],[]⟩)
  | .inr o => (.ret,⟨sp 93 0 [sD 6 D.b false],[],[]⟩)
theorem aB4 (rd : Option Nat) (h : aIp cR cN cQ cJ cU dP d4 cK = some eY) : Lq 4 rd 4090 (TU cR cN cQ cJ cU dP d4 cK) ((TV cR cN cQ cJ cU dP) eY) :=
  lL (fun s : Bool × Int => TU cR cN cQ cJ cU dP s.1 s.2) (TV cR cN cQ cJ cU dP) (d4,cK) (fun ⟨d4,cK⟩ o h => by
  unfold G1 at h
  refine gN 59 dU cQ ?_
  refine iB 60 h (fun h => ?_) fun h => ?_
  refine xX 65 dU h fun x12 h => ?_
  refine xX 69 dU h fun x13 h => ?_
  refine iB 71 h (fun h => ?_) fun h => ?_
  exact lb h
  refine iB 73 h (fun h => ?_) fun h => ?_
  exact lb h
  refine xX 76 dU h fun x14 h => ?_
  exact lb h
  exact lb h) h
theorem aQq (h : Xy cU cR dP = some d4) : AL Tryz.prog 4 [.d (AE.D cU),.d ((D.l X2.D) cR),.d (X3.D dP)] [] (.d (D.b d4)) [] := by
  unfold Xy at h
  apply g0 (o := d4)
  obtain ⟨r1,h1,h⟩ := bS h
  refine gC 15 (aRh h1) ?_
  refine iB 17 h (fun h => ?_) fun h => ?_
  obtain ⟨r2,h3,h⟩ := bS h
  refine gC 23 (aE2 h3) ?_
  exact lf h
  refine gN 20 X0.D dP.args ?_
  refine iB 22 h (fun h => ?_) fun h => ?_
  obtain ⟨r3,h5,h⟩ := bS h
  refine gC 23 (aE2 h5) ?_
  exact lf h
  obtain ⟨o6,h10,h⟩ := bS h
  refine gl (aB3 none h10) ?_
  replace h := AK h
  rcases h with ⟨o7,rfl,h⟩ | ⟨o8,rfl,h⟩
  obtain ⟨r9,h11,h⟩ := bS h
  refine gC 42 (aQg h11) <| gW 49 (.int (r9.length : Int)) ?_
  obtain ⟨r10,h12,h⟩ := bS h
  refine gC 45 (aH6 h12) <| gN 47 dU r10 <| gQ (DC dU r9) ?_
  refine iB 50 h (fun h => ?_) fun h => ?_
  exact lf h
  obtain ⟨r11,h14,h⟩ := bS h
  refine gC 54 (aOg h14) ?_
  obtain ⟨o15,h21,h⟩ := bS h
  refine gl (aB4 none h21) ?_
  replace h := AK h
  rcases h with ⟨o16,rfl,h⟩ | ⟨o17,rfl,h⟩
  refine iB 82 h (fun h => ?_) fun h => ?_
  obtain ⟨r18,h23,h⟩ := bS h
  refine gC 86 (aRz h23) ?_
  refine iB 90 h (fun h => ?_) fun h => ?_
  obtain ⟨r19,h25,h⟩ := bS h
  refine gC 91 (aE2 h25) ?_
  exact lf h
  exact lf h
  exact lf h
  exact lf h
  exact lf h
end Go.Ac
