/- Own work, printed: the functions compute these. -/
import Derived.Test.YthabonnegobedaaSh24p
import Derived.Test.YthabonnegobedaaProg
set_option linter.unusedVariables false
set_option linter.unusedSimpArgs false
namespace Go.Ac
open Go.Proofs
variable {a8 bC:X5}
variable {a9 aY:Bool}
variable {aA aL:List X0}
variable {aB aE aZ bG bK bO bP:Int}
variable {aC:Unit⊕Unit}
variable {aD:List Xf}
variable {aF:Int×Int×MP Int AB×MP (List UInt8) Int}
variable {aG aI:List UInt8}
variable {aH:(List UInt8)}
variable {aJ:List X5}
variable {aK:(List UInt8)⊕Unit}
variable {aM aN:List X4}
variable {aO bE:AB}
variable {aP:MP Int AB}
variable {aQ:MP (List UInt8) Int}
variable {aR:Int×Int×Int×Int×MP Int AB×MP (List UInt8) Int}
variable {aS:Int×Int×Int×MP Int AB×MP (List UInt8) Int}
variable {aT aX:Xb}
variable {aU:Unit⊕Int}
variable {aV:Xb×Int}
variable {aW:Int×Bool×Int×Int×MP Int AB×MP (List UInt8) Int}
variable {b6:(MP Int AB)}
variable {b7:Bool×Int×Int×MP Int AB×MP (List UInt8) Int}
variable {b8:(MP (List UInt8) Int)}
variable {b9:Xf}
variable {bA:Xb×Bool×Int×Int×Xb×MP Int AB×MP (List UInt8) Int}
variable {bB:(Int×Int)}
variable {bD:Unit⊕Bool}
variable {bH bJ:List AB}
variable {bI:(List AB)}
variable {bL:(Int×List AB)⊕(Unit⊕Unit)}
variable {bM:(List AB)⊕(List AB)}
variable {bN:Int×Int}
variable {bQ:(List AB×Int)}
variable {bR:Int×Int×Int}
variable {bU:(Int×Int×Int×Int)}
variable {bV:(Int×List AB)⊕Bool}
variable {bW:(List AB)⊕(Bool×List AB)}
variable {bX:Bool×List AB}
variable {bY:(Int×List AB)}
variable {bZ:Int×List AB}
variable {c9:Int×Bool×List AB}
variable {cA:List AB×Int×Int×MP Int AB×MP (List UInt8) Int}
variable {cB cC:X4}
variable {cD cF:List Int}
variable {cE:(List Int)}
variable {cG:(Int×List Int)⊕(Unit⊕Unit)}
variable {cH:(List Int)⊕(List Int)}
variable {cI:(List Int×Int)}
theorem mixed:Try.prog.follows .mixedOrders=true:=by kernel_rfl
theorem lB{β:Type}{ws:List (Nat×W)}{lw:List Lw}{Q:List Prop}{o v:β}{rd:Option Nat}{root:Code}{q:List Nat}{s:St}{E:β->Ex}{S:β->St}(h:some v=some o)(l:List Ws)(he:(cj Q True/\(E v=E v/\S v=S v))=L4 Try.prog rd root ws lw q l s (E v) (S v):=by kernel_rfl):Gl ws lw Q (fun o=>Arr Try.prog rd root q s (E o) (S o)) o:=lB_ mixed h l he
theorem lP{β:Type}{ws:List (Nat×W)}{lw:List Lw}{Q:List Prop}{o v:β}{rd:Option Nat}{root:Code}{q:List Nat}{s:St}{E:β->Ex}{S:β->St}(h:some v=some o)(l:List Ws)(he:(cj Q True/\(E v=E v/\S v=S v))=L4 Try.prog rd root ws lw q l s (E v) (S v):=by kernel_rfl):Gl ws lw Q (fun o=>Dc Try.prog rd root q s (E o) (S o)) o:=lP_ mixed h l he
theorem lb{β:Type}{ws:List (Nat×W)}{lw:List Lw}{Q:List Prop}{o v:β}{rd:Option Nat}{root:Code}{q:List Nat}{s:St}{E:β->Ex}{S:β->St}(h:some v=some o)(he:(cj Q True/\(E v=E v/\S v=S v))=L4 Try.prog rd root ws lw q (lvS (S v)) s (E v) (S v):=by kernel_rfl):Gl ws lw Q (fun o=>Arr Try.prog rd root q s (E o) (S o)) o:=lB_ mixed h _ he
theorem lp{β:Type}{ws:List (Nat×W)}{lw:List Lw}{Q:List Prop}{o v:β}{rd:Option Nat}{root:Code}{q:List Nat}{s:St}{E:β->Ex}{S:β->St}(h:some v=some o)(he:(cj Q True/\(E v=E v/\S v=S v))=L4 Try.prog rd root ws lw q (lvS (S v)) s (E v) (S v):=by kernel_rfl):Gl ws lw Q (fun o=>Dc Try.prog rd root q s (E o) (S o)) o:=lP_ mixed h _ he
theorem lF{β:Type}{ws:List (Nat×W)}{lw:List Lw}{Q:List Prop}{o v:β}{f:FuncId}{args:List A}{R:β->A}(h:some v=some o)(l:List Ws)(he:(cj Q True/\(R v=R v/\true=true))=Qt Try.prog f ws lw l args (R v):=by kernel_rfl):Gl ws lw Q (fun o=>AO Try.prog f args [] (R o) []) o:=lF_ mixed h l he
theorem lf{β:Type}{ws:List (Nat×W)}{lw:List Lw}{Q:List Prop}{o v:β}{f:FuncId}{args:List A}{R:β->A}(h:some v=some o)(he:(cj Q True/\(R v=R v/\true=true))=Qt Try.prog f ws lw [] args (R v):=by kernel_rfl):Gl ws lw Q (fun o=>AO Try.prog f args [] (R o) []) o:=lF_ mixed h [] he
abbrev Lq(n:Nat)(rd:Option Nat)(p:Nat)(s:St)(x:Ex×St):Prop:=Dc Try.prog rd (Cb Try.prog n) (pth p) s x.1 x.2
theorem lI{β:Type}{ws:List (Nat×W)}{lw:List Lw}{Q:List Prop}{o v:β}{f:FuncId}{args:List A}{F0:Bx}(hF:Far F0){r:A}{F:β->Bx}(hc:∀f,∀p∈F f,∀m,p.2.has m=true->m∈AI (F f))(h:some v=some o)(l:List Ws)(he:(cj Q True/\(r=r/\F v=F v/\true=true))=T6 Try.prog f ws lw l args F0 r (F v):=by kernel_rfl):Gl ws lw Q (fun o=>Hm Try.prog f args F0 r (F o)) o:=lI_ mixed hF hc h l he
theorem lX{β:Type}{ws:List (Nat×W)}{lw:List Lw}{Q:List Prop}{o v:β}{f:FuncId}{args:List A}{X:Bx}{ks:List Nat}{us:List Value}{R:β->A}{X1:β->Bx}(h:some v=some o)(l:List Ws)(he:(cj Q True/\(R v=R v/\X1 v++[(vx,.vals (FZ args ks) us)]=X1 v++[(vx,.vals (FZ args ks) us)]/\true=true))=T7 Try.prog f ws lw l args X ks us (R v) (X1 v):=by kernel_rfl):Gl ws lw Q (fun o=>XG Try.prog f args X ks us (R o) (X1 o)) o:=lX_ h l he
theorem Zx(h:Yw a8=some a9):AO Try.prog 39 [.d (X5.D a8)] [] (.d (D.b a9)) []:=by unfold Yw at h;apply g0 (o:=a9);refine iB 5 h (fun h=>?_) fun h=>?_;refine iB 9 h (fun h=>?_) fun h=>?_;exact lf h;exact lf h;refine iB 16 h (fun h=>?_) fun h=>?_;refine iB 20 h (fun h=>?_) fun h=>?_;refine iB 25 h (fun h=>?_) fun h=>?_;refine gG 28 (.int (a8.str.length:Int)) (Co a8.str) ?_;exact lf h;exact lf h;exact lf h;refine iB 34 h (fun h=>?_) fun h=>?_;refine iB 39 h (fun h=>?_) fun h=>?_;exact lf h;exact lf h;exact lf h
def Oz(s0:List X0)(s3:Int):St:=⟨sp 51 0 [sD 0 (D.l X0.D) s0,sI 3 s3],[],[]⟩
def O0(s0:List X0)(o:Unit⊕Unit):Ex×St:=match o with
 | .inl o=>(.exit 0,⟨sp 51 0 [],[],[]⟩)
 | .inr o=>(.ret,⟨sp 51 0 [sD 2 D.b false],[],[]⟩)
theorem S7(rd:Option Nat)(h:VT aA aB=some aC):Lq 25 rd 26 (Oz aA aB) ((O0 aA) aC):=
 lL (fun s:Int=>Oz aA s) (O0 aA) aB (fun aB o h=>by
 unfold FD at h
 refine gN 6 X0.D aA ?_
 refine iB 7 h (fun h=>?_) fun h=>?_
 refine xX 12 X0.D h fun x1 h=>?_
 refine iB 16 h (fun h=>?_) fun h=>?_
 exact lb h
 refine xX 19 X0.D h fun x2 h=>?_
 refine iB 24 h (fun h=>?_) fun h=>?_
 exact lb h
 refine xX 27 X0.D h fun x3 h=>?_
 obtain⟨r4,h7,h⟩:=bS h
 refine gC 30 (Zx h7) ?_
 refine iB 33 h (fun h=>?_) fun h=>?_
 exact lb h
 refine iB 36 h (fun h=>?_) fun h=>?_
 refine xX 39 X0.D h fun x5 h=>?_
 refine xX 45 X0.D h fun x6 h=>?_
 refine iB 50 h (fun h=>?_) fun h=>?_
 exact lb h
 exact lb h
 exact lb h
 exact lb h) h
theorem Zm(h:Yc aA=some a9):AO Try.prog 25 [.d ((D.l X0.D) aA)] [] (.d (D.b a9)) []:=by
 unfold Yc at h;apply g0 (o:=a9);obtain⟨o7,h13,h⟩:=bS h;refine gl (S7 none h13) ?_;replace h:=AV h;rcases h with⟨o8,rfl,h⟩|⟨o9,rfl,h⟩
 exact lf h;exact lf h
def OH(s0:List Xf)(s3 s4:Int):St:=⟨sp 68 0 [sD 0 (D.l Xf.D) s0,sI 3 s3,sI 4 s4],[],[]⟩
def OI(s0:List Xf)(s3:Int)(o:Unit⊕Unit):Ex×St:=match o with
 | .inl o=>(.exit 2,⟨sp 68 0 [sD 0 (D.l Xf.D) s0,sI 3 s3],[],[]⟩)
 | .inr o=>(.ret,⟨sp 68 0 [sD 2 D.b false],[],[]⟩)
theorem SY(rd:Option Nat)(h:SX aD aB aE=some aC):Lq 5 rd 7462 (OH aD aB aE) ((OI aD aB) aC):=
 lL (fun s:Int=>OH aD aB s) (OI aD aB) aE (fun aE o h=>by
 unfold E6 at h
 refine xX 49 Xf.D h fun x6 h=>?_
 refine gN 52 X0.D x6.bind ?_
 refine iB 53 h (fun h=>?_) fun h=>?_
 refine xX 58 Xf.D h fun x7 h=>?_
 refine xX 62 X0.D h fun x8 h=>?_
 refine gG 66 (.int (x8.value.str.length:Int)) (Co x8.value.str) ?_
 refine iB 67 h (fun h=>?_) fun h=>?_
 exact lb h
 exact lb h
 exact lb h) h
def OF(s0:List Xf)(s3:Int):St:=⟨sp 68 0 [sD 0 (D.l Xf.D) s0,sI 3 s3],[],[]⟩
def OG(s0:List Xf)(o:Unit⊕Unit):Ex×St:=match o with
 | .inl o=>(.exit 0,⟨sp 68 0 [],[],[]⟩)
 | .inr o=>(.ret,⟨sp 68 0 [sD 2 D.b false],[],[]⟩)
theorem SW(rd:Option Nat)(h:VG aD aB=some aC):Lq 5 rd 58 (OF aD aB) ((OG aD) aC):=
 lL (fun s:Int=>OF aD s) (OG aD) aB (fun aB o h=>by
 unfold ED at h
 refine gN 10 Xf.D aD ?_
 refine iB 11 h (fun h=>?_) fun h=>?_
 refine xX 16 Xf.D h fun x1 h=>?_
 refine gN 19 X0.D x1.bind ?_
 refine iB 21 h (fun h=>?_) fun h=>?_
 exact lb h
 refine xX 24 Xf.D h fun x2 h=>?_
 obtain⟨r3,h6,h⟩:=bS h
 refine gC 27 (Zm h6) ?_
 refine iB 30 h (fun h=>?_) fun h=>?_
 exact lb h
 refine xX 33 Xf.D h fun x4 h=>?_
 refine iB 38 h (fun h=>?_) fun h=>?_
 exact lb h
 refine xX 41 Xf.D h fun x5 h=>?_
 refine iB 45 h (fun h=>?_) fun h=>?_
 exact lb h
 obtain⟨o9,h17,h⟩:=bS h
 refine gl (SY rd h17) ?_
 replace h:=AV h
 rcases h with⟨o10,rfl,h⟩|⟨o11,rfl,h⟩
 exact lb h
 exact lb h
 exact lb h) h
theorem ZL(h:Xr aD=some a9):AO Try.prog 5 [.d ((D.l Xf.D) aD)] [] (.d (D.b a9)) []:=by
 unfold Xr at h;apply g0 (o:=a9);refine gN 6 Xf.D aD ?_;refine iB 7 h (fun h=>?_) fun h=>?_;exact lf h;obtain⟨o12,h18,h⟩:=bS h;refine gl (SW none h18) ?_;replace h:=AV h;rcases h with⟨o13,rfl,h⟩|⟨o14,rfl,h⟩
 exact lf h;exact lf h
theorem W4(h:Yx aB=some aF):AO Try.prog 7 [dI aB] [] (.box 0 0) [(0,.cells ([.row 1,.row 2,dI aF.1,dI aF.2.1])),(1,.map aF.2.2.1.clk (MP.dl dZ AB.D aF.2.2.1)),(2,.map aF.2.2.2.clk (MP.dl D.s dZ aF.2.2.2))]:=by unfold Yx at h;refine XG.call (ks:=[]) mixed fun us=>?_;apply g0 (o:=aF);refine gG 6 (.int (Fh aB 1)) (rfl:Fh aB 1=Fh aB 1)<|gG 7 (.int (IY (Fh aB 1) 4096)) (rfl:IY (Fh aB 1) 4096=IY (Fh aB 1) 4096) ?_;exact lX h [.live [2],.keep [3,4,9,997],.ren 3 1,.ren 4 2,.ren 9 0,.sort]
theorem aAh(h:Za aB=some a8):AO Try.prog 80 [dI aB] [] (.d (X5.D a8)) []:=by unfold Za at h;apply g0 (o:=a8);exact lf h
theorem aAi(h:Zb aG=some a8):AO Try.prog 81 [.d (D.s aG)] [] (.d (X5.D a8)) []:=by unfold Zb at h;apply g0 (o:=a8);exact lf h
theorem aAj(h:Zc a9=some a8):AO Try.prog 82 [.d (D.b a9)] [] (.d (X5.D a8)) []:=by unfold Zc at h;apply g0 (o:=a8);exact lf h
theorem Zu(h:Yt a8=some a9):AO Try.prog 68 [.d (X5.D a8)] [] (.d (D.b a9)) []:=by unfold Yt at h;apply g0 (o:=a9);refine iB 5 h (fun h=>?_) fun h=>?_;obtain⟨r1,h2,h⟩:=bS h;refine gC 10 (aAh h2) ?_;exact lf h;refine iB 12 h (fun h=>?_) fun h=>?_;obtain⟨r2,h4,h⟩:=bS h;refine gC 17 (aAi h4) ?_;refine iB 19 h (fun h=>?_) fun h=>?_;refine gG 22 (.int (a8.str.length:Int)) (Co a8.str) ?_;exact lf h;exact lf h;refine iB 25 h (fun h=>?_) fun h=>?_;obtain⟨r3,h7,h⟩:=bS h;refine gC 30 (aAj h7) ?_;exact lf h;exact lf h
def OO(s3 s10:Int)(w4:List UInt8):St:=⟨sp 27 0 [sD 3 dU s3,bx 4,sI 10 s10],[(4,.buf false 132 1 (w4.map Af))],[]⟩
def OP(s3:Int)(o:(List UInt8)):Ex×St:=(.exit 0,⟨sp 27 0 [bx 4],[(4,.buf false 132 1 (o.map Af))],[]⟩)
theorem Sg(rd:Option Nat)(h:Ht aB aE aG=some aH):Lq 83 rd 122 (OO aB aE aG) ((OP aB) aH):=
 lL (fun s:Int×List UInt8=>OO aB s.1 s.2) (OP aB) (aE,aG) (fun⟨aE,aG⟩ o h=>by
 unfold E7 at h
 refine iB 11 h (fun h=>?_) fun h=>?_
 refine gW 19 (.int (u8w (AA .shr .u64 aB (AA .mul .i64 8 (AA .sub .i64 7 aE)))).toNat)<|gW 10020 (.sl ((aG.set aE.toNat (u8w (AA .shr .u64 aB (AA .mul .i64 8 (AA .sub .i64 7 aE))))).map Af)) ?_
 obtain⟨h2,h⟩:=cS h
 refine gQ h2<|gQ (In (AA .shr .u64 aB (AA .mul .i64 8 (AA .sub .i64 7 aE)))) ?_
 obtain⟨h3,h⟩:=cS h
 refine gQ h3.1<|gQ h3.2 ?_
 obtain⟨h4,h⟩:=cS h
 refine gQ (Ar Af h4)<|gQ (AP Af aG aE (u8w (AA .shr .u64 aB (AA .mul .i64 8 (AA .sub .i64 7 aE))))) ?_
 exact lb h
 exact lb h) h
theorem ZR(h:Xw aB=some aG):AO Try.prog 83 [dI aB] [] (.d ((D.l Af) aG)) []:=by unfold Xw at h;apply g0 (o:=aG);refine gW 22 (.sl ((List.replicate (8:Int).toNat (0:UInt8)).map Af)) ?_;obtain⟨o1,h5,h⟩:=bS h;refine gl (Sg none h5)<|gW 25 (.sl ((o1.take (List.replicate (8:Int).toNat (0:UInt8)).length++(List.replicate (8:Int).toNat (0:UInt8)).drop o1.length).map Af)) ?_;obtain⟨h6,h⟩:=cS h;refine gQ h6.1<|gQ (Int.le_refl (8:Int))<|gQ (Int.le_refl (8:Int))<|gQ (XO Af (0:UInt8) h6.2)<|gQ (XN Af (8:Int) (0:UInt8)) ?_;obtain⟨h7,h⟩:=cS h;refine gQ (XL Af h7)<|gQ (TO Af (List.replicate (8:Int).toNat (0:UInt8)) o1) ?_;exact lF h [.frz 22]
theorem Sa(rd:Option Nat)(h:SZ aG aB aE a9 aI=some aH):Lq 84 rd 14951 ⟨sp 27 0 [sD 0 D.s aG,rx 3,sI 6 aB,sI 7 aE,sD 19 D.b a9],[(3,.row 5 1 (aI.map Af))],[]⟩ (.normal,⟨sp 27 0 [sD 0 D.s aG,rx 3,sI 6 aB,sI 7 aE],[(3,.row 5 1 (aH.map Af))],[]⟩):=by unfold SZ at h;apply g0 (o:=aH);cases a9;replace h:=CX h;exact lp h;replace h:=CY h;refine gQ (BI Af [(255:UInt8)])<|gG 22 (.sl ((aI++[(255:UInt8)]).map Af)) (BI Af [(255:UInt8)]) ?_;obtain⟨h6,h⟩:=cS h;refine gQ (BF Af h6)<|gQ (BE Af aI [(255:UInt8)]) ?_;exact lP h [.live [0,3,6,7],.keep [22],.ren 22 3,.sort]
theorem Sc(rd:Option Nat)(h:OJ aG aB aE aI=some aH):Lq 84 rd 934 ⟨sp 27 0 [sD 0 D.s aG,rx 3,sI 6 aB,sI 7 aE],[(3,.row 5 1 (aI.map Af))],[]⟩ (.normal,⟨sp 27 0 [sD 0 D.s aG,rx 3,sI 6 aB,sI 7 aE],[(3,.row 5 1 (aH.map Af))],[]⟩):=by unfold OJ at h;apply g0 (o:=aH);obtain⟨x5,h10,h⟩:=xS h;refine gG 13 (.int x5.toNat) (DS h10)<|gQ (BI Af [x5])<|gG 15 (.sl ((aI++[x5]).map Af)) (BI Af [x5]) ?_;obtain⟨h11,h⟩:=cS h;refine gQ (BF Af h11)<|gQ (BE Af aI [x5]) ?_;obtain⟨x6,h12,h⟩:=xS h;refine gG 18 (.int x6.toNat) (DS h12) ?_;obtain⟨o7,h13,h⟩:=bS h;refine gL [.live [0,3,6,7,19],.keep [15],.ren 15 3,.sort] (Sa rd h13) ?_;exact lp h
def OK(s0:List UInt8)(s6 s7:Int)(w3:List UInt8):St:=⟨sp 27 0 [sD 0 D.s s0,rx 3,sI 6 s6,sI 7 s7],[(3,.row 5 1 (w3.map Af))],[]⟩
def OL(s0:List UInt8)(s6:Int)(o:(List UInt8)):Ex×St:=(.exit 0,⟨sp 27 0 [rx 3],[(3,.row 5 1 (o.map Af))],[]⟩)
theorem Se(rd:Option Nat)(h:Sd aG aB aE aI=some aH):Lq 84 rd 58 (OK aG aB aE aI) ((OL aG aB) aH):=
 lL (fun s:Int×List UInt8=>OK aG aB s.1 s.2) (OL aG aB) (aE,aI) (fun⟨aE,aI⟩ o h=>by
 unfold HB at h
 refine iB 8 h (fun h=>?_) fun h=>?_
 obtain⟨o8,h14,h⟩:=bS h
 refine gl (Sc rd h14) ?_
 exact lb h
 exact lb h) h
theorem ZN(h:Xs aG=some aI):AO Try.prog 84 [.d (D.s aG)] [] (.d ((D.l Af) aI)) []:=by unfold Xs at h;apply g0 (o:=aI);refine gG 6 (.int (aG.length:Int)) (Co aG) ?_;obtain⟨o9,h15,h⟩:=bS h;refine gL [.live [0,3,6,7],.keep [],.nil 3 3 5 1,.sort] (Se none h15)<|gQ (BI Af [(0:UInt8),(1:UInt8)])<|gG 26 (.sl ((o9++[(0:UInt8),(1:UInt8)]).map Af)) (BI Af [(0:UInt8),(1:UInt8)]) ?_;obtain⟨h16,h⟩:=cS h;refine gQ (BF Af h16)<|gQ (BE Af o9 [(0:UInt8),(1:UInt8)]) ?_;exact lf h
theorem Zr(h:Yo a8=some aG):AO Try.prog 69 [.d (X5.D a8)] [] (.d ((D.l Af) aG)) []:=by unfold Yo at h;apply g0 (o:=aG);refine gG 6 (.int (u8w a8.kind).toNat) (In a8.kind)<|gQ (BI Af [u8w a8.kind]) ?_;refine iB 10 h (fun h=>?_) fun h=>?_;obtain⟨r1,h2,h⟩:=bS h;refine gC 15 (ZR h2)<|gG 16 (.sl (([u8w a8.kind]++r1).map Af)) (BI Af r1) ?_;obtain⟨h3,h⟩:=cS h;refine gQ (BF Af h3)<|gQ (BE Af [u8w a8.kind] r1) ?_;exact lf h;refine iB 17 h (fun h=>?_) fun h=>?_;obtain⟨r2,h5,h⟩:=bS h;refine gC 22 (ZN h5)<|gG 23 (.sl (([u8w a8.kind]++r2).map Af)) (BI Af r2) ?_;obtain⟨h6,h⟩:=cS h;refine gQ (BF Af h6)<|gQ (BE Af [u8w a8.kind] r2) ?_;exact lf h;refine iB 25 h (fun h=>?_) fun h=>?_;refine gQ (BI Af [(1:UInt8)])<|gG 28 (.sl (([u8w a8.kind]++[(1:UInt8)]).map Af)) (BI Af [(1:UInt8)]) ?_;obtain⟨h8,h⟩:=cS h;refine gQ (BF Af h8)<|gQ (BE Af [u8w a8.kind] [(1:UInt8)]) ?_;exact lf h;refine gQ (BI Af [(0:UInt8)])<|gG 31 (.sl (([u8w a8.kind]++[(0:UInt8)]).map Af)) (BI Af [(0:UInt8)]) ?_;obtain⟨h9,h⟩:=cS h;refine gQ (BF Af h9)<|gQ (BE Af [u8w a8.kind] [(0:UInt8)]) ?_;exact lf h
def OM(s6:List X5)(s7 s8:Int)(w3:List UInt8):St:=⟨sp 21 0 [rx 3,sD 6 (D.l X5.D) s6,sI 7 s7,sI 8 s8],[(3,.row 5 1 (w3.map Af))],[]⟩
def ON(s6:List X5)(s7:Int)(o:(List UInt8)⊕Unit):Ex×St:=match o with
 | .inl o=>(.exit 0,⟨sp 21 0 [rx 3],[(3,.row 5 1 (o.map Af))],[]⟩)
 | .inr o=>(.ret,⟨sp 21 0 [(2,.nil)],[],[]⟩)
theorem Sf(rd:Option Nat)(h:JG aJ aB aE aG=some aK):Lq 47 rd 58 (OM aJ aB aE aG) ((ON aJ aB) aK):=
 lL (fun s:Int×List UInt8=>OM aJ aB s.1 s.2) (ON aJ aB) (aE,aG) (fun⟨aE,aG⟩ o h=>by
 unfold EE at h
 refine iB 9 h (fun h=>?_) fun h=>?_
 refine xX 10 X5.D h fun x4 h=>?_
 obtain⟨r5,h9,h⟩:=bS h
 refine gC 13 (Zu h9) ?_
 refine iB 14 h (fun h=>?_) fun h=>?_
 exact lb h
 obtain⟨r6,h11,h⟩:=bS h
 refine gC 17 (Zr h11)<|gG 18 (.sl ((aG++r6).map Af)) (BI Af r6) ?_
 obtain⟨h12,h⟩:=cS h
 refine gQ (BF Af h12)<|gQ (BE Af aG r6) ?_
 exact lB h [.live [3,6,7,8],.keep [18],.ren 18 3,.sort]
 exact lb h) h
theorem ZP(h:Xv aJ=some aG):AO Try.prog 47 [.d ((D.l X5.D) aJ)] [] (.d ((D.l Af) aG)) []:=by
 unfold Xv at h;apply g0 (o:=aG);refine gN 7 X5.D aJ ?_;obtain⟨o7,h13,h⟩:=bS h;refine gL [.live [3,6,7,8],.keep [],.nil 3 3 5 1,.sort] (Sf none h13) ?_;replace h:=AV h;rcases h with⟨o8,rfl,h⟩|⟨o9,rfl,h⟩
 exact lf h;exact lf h
def OD(s6:List X0)(s7 s8:Int)(w3:List UInt8):St:=⟨sp 27 0 [rx 3,sD 6 (D.l X0.D) s6,sI 7 s7,sI 8 s8],[(3,.row 5 1 (w3.map Af))],[]⟩
def OE(s6:List X0)(s7:Int)(o:(List UInt8)):Ex×St:=(.exit 0,⟨sp 27 0 [rx 3],[(3,.row 5 1 (o.map Af))],[]⟩)
theorem SV(rd:Option Nat)(h:JF aA aB aE aG=some aH):Lq 37 rd 58 (OD aA aB aE aG) ((OE aA aB) aH):=
 lL (fun s:Int×List UInt8=>OD aA aB s.1 s.2) (OE aA aB) (aE,aG) (fun⟨aE,aG⟩ o h=>by
 unfold EC at h
 refine iB 9 h (fun h=>?_) fun h=>?_
 refine xX 10 X0.D h fun x3 h=>?_
 refine gG 16 (.int (u8w (AA .add .i64 x3.var 16)).toNat) (In (AA .add .i64 x3.var 16))<|gQ (BI Af [u8w (AA .add .i64 x3.var 16)])<|gG 18 (.sl ((aG++[u8w (AA .add .i64 x3.var 16)]).map Af)) (BI Af [u8w (AA .add .i64 x3.var 16)]) ?_
 obtain⟨h8,h⟩:=cS h
 refine gQ (BF Af h8)<|gQ (BE Af aG [u8w (AA .add .i64 x3.var 16)])<|gQ (BI X5.D [x3.value]) ?_
 obtain⟨r4,h9,h⟩:=bS h
 refine gC 22 (ZP h9)<|gG 23 (.sl (((aG++[u8w (AA .add .i64 x3.var 16)])++r4).map Af)) (BI Af r4) ?_
 obtain⟨h10,h⟩:=cS h
 refine gQ (BF Af h10)<|gQ (BE Af (aG++[u8w (AA .add .i64 x3.var 16)]) r4) ?_
 exact lB h [.live [3,6,7,8],.keep [23],.ren 23 3,.sort]
 exact lb h) h
theorem VF(h:Xq aA=some aG):AO Try.prog 37 [.d ((D.l X0.D) aA)] [] (.d (D.s aG)) []:=by unfold Xq at h;apply g0 (o:=aG);refine gN 7 X0.D aA ?_;obtain⟨o5,h11,h⟩:=bS h;refine gL [.live [3,6,7,8],.keep [],.nil 3 3 5 1,.sort] (SV none h11)<|gG 26 (.str o5) (rfl:o5.map Af=o5.map Af) ?_;exact lf h
theorem aAk(h:Zd aA=some aL):AO Try.prog 40 [.d (D.l X0.D aA)] [] (.d (D.l X0.D aL)) []:=
 Kg (ρ:=⟨fun _=>40,fun n=>if n=4 then 4 else if n=22 then 33 else 66,id⟩) (by_:=48) X0.D rfl (UF mixed ⟨ "slices.Clone[[]proctor/api.Slot,proctor/api.Slot]",by decide,(Try.func40).trans (by kernel_rfl)⟩ Try.underlying4 Try.underlying33 (by kernel_rfl) (by kernel_rfl) (by kernel_rfl) (by kernel_rfl)) (by kernel_rfl) (by decide) aA aL h
theorem W3(h:Yu aM=some aN):AO Try.prog 38 [.d (D.l X4.D aM)] [] (.d (D.l X4.D aN)) []:=
 Kg (ρ:=⟨fun _=>38,fun n=>if n=4 then 4 else if n=22 then 43 else 73,id⟩) (by_:=32) X4.D rfl (UF mixed ⟨ "slices.Clone[[]proctor/api.Config,proctor/api.Config]",by decide,(Try.func38).trans (by kernel_rfl)⟩ Try.underlying4 Try.underlying43 (by kernel_rfl) (by kernel_rfl) (by kernel_rfl) (by kernel_rfl)) (by kernel_rfl) (by decide) aM aN h
theorem VW(h:Yh aA aM=some aO):AO Try.prog 30 [.d ((D.l X0.D) aA),.d ((D.l X4.D) aM)] [] (.d (AB.D aO)) []:=by unfold Yh at h;apply g0 (o:=aO);obtain⟨r1,h1,h⟩:=bS h;refine gC 6 (aAk h1) ?_;obtain⟨r2,h2,h⟩:=bS h;refine gC 8 (W3 h2) ?_;exact lf h
theorem VV(h:Ye aA aM aB aE aP aQ=some aR):AO Try.prog 20 [.box 0 0,.d ((D.l X0.D) aA),.d ((D.l X4.D) aM)] [(0,.cells ([.row 1,.row 2,dI aB,dI aE])),(1,.map aP.clk (MP.dl dZ AB.D aP)),(2,.map aQ.clk (MP.dl D.s dZ aQ))] (.tup [dI aR.1,dI aR.2.1]) [(0,.cells ([.row 3,.row 4,dI aR.2.2.1,dI aR.2.2.2.1])),(3,.map aR.2.2.2.2.1.clk (MP.dl dZ AB.D aR.2.2.2.2.1)),(4,.map aR.2.2.2.2.2.clk (MP.dl D.s dZ aR.2.2.2.2.2))]:=by unfold Ye at h;refine XG.call (ks:=[0]) mixed fun us=>?_;apply g0 (o:=aR);obtain⟨r1,h1,h⟩:=bS h;refine gC 14 (VF h1)<|gG 21 (.mg (dZ (BT 0 aQ r1).1) (BT 0 aQ r1).2) (Fi (YN Try.underlying9) dZ 0 aQ r1) ?_;refine iB 24 h (fun h=>?_) fun h=>?_;exact lX h [.live [6,7],.keep [0,1,2,997],.ren 1 3,.ren 2 4,.sort];refine gW 29 (.int (aP.es.length:Int)) ?_;obtain⟨h3,h⟩:=cS h;refine gQ (QC dZ AB.D aP h3) ?_;refine iB 34 h (fun h=>?_) fun h=>?_;exact lX h [.live [6,7],.keep [0,1,2,997],.ren 1 3,.ren 2 4,.sort];refine gW 62 (.me (CV (AB.mk ([]:List X0) ([]:List X4)) aP (AA .add .i64 aE 1)).clk (MP.dl dZ AB.D (CV (AB.mk ([]:List X0) ([]:List X4)) aP (AA .add .i64 aE 1))) (AB.D (aA7 (AB.mk ([]:List X0) ([]:List X4)) aP (AA .add .i64 aE 1))) (Fx (AB.mk ([]:List X0) ([]:List X4)) aP (AA .add .i64 aE 1)))<|gW 64 (.me (CV 0 aQ r1).clk (MP.dl D.s dZ (CV 0 aQ r1)) (dZ (aA7 0 aQ r1)) (Fx 0 aQ r1))<|gW 10065 (.mp (Hc (CV 0 aQ r1) ((Fx 0 aQ r1:Nat):Int) (AA .add .i64 aE 1)).clk (MP.dl D.s dZ (Hc (CV 0 aQ r1) ((Fx 0 aQ r1:Nat):Int) (AA .add .i64 aE 1)))) ?_;obtain⟨r2,h5,h⟩:=bS h;refine gC 57 (VW h5)<|gW 10063 (.mp (Hc (CV (AB.mk ([]:List X0) ([]:List X4)) aP (AA .add .i64 aE 1)) ((Fx (AB.mk ([]:List X0) ([]:List X4)) aP (AA .add .i64 aE 1):Nat):Int) r2).clk (MP.dl dZ AB.D (Hc (CV (AB.mk ([]:List X0) ([]:List X4)) aP (AA .add .i64 aE 1)) ((Fx (AB.mk ([]:List X0) ([]:List X4)) aP (AA .add .i64 aE 1):Nat):Int) r2))) ?_;obtain⟨h6,h⟩:=cS h;refine gQ (QA (WZ Try.underlying3) AB.D (AB.mk ([]:List X0) ([]:List X4)) aP (AA .add .i64 aE 1) h6) ?_;obtain⟨h7,h⟩:=cS h;refine gQ (QE dZ AB.D (CV (AB.mk ([]:List X0) ([]:List X4)) aP (AA .add .i64 aE 1)) ((Fx (AB.mk ([]:List X0) ([]:List X4)) aP (AA .add .i64 aE 1):Nat):Int) r2 h7) ?_;obtain⟨h8,h⟩:=cS h;refine gQ (QA (YN Try.underlying9) dZ 0 aQ r1 h8) ?_;obtain⟨h9,h⟩:=cS h;refine gQ (QE D.s dZ (CV 0 aQ r1) ((Fx 0 aQ r1:Nat):Int) (AA .add .i64 aE 1) h9) ?_;exact lX h [.live [6,7],.keep [0,1,2,997],.ren 1 3,.ren 2 4,.sort]
theorem W7(h:Z2 aB aE aP aQ=some aS):AO Try.prog 10 [.box 0 0] [(0,.cells ([.row 1,.row 2,dI aB,dI aE])),(1,.map aP.clk (MP.dl dZ AB.D aP)),(2,.map aQ.clk (MP.dl D.s dZ aQ))] (dI aS.1) [(0,.cells ([.row 3,.row 4,dI aS.2.1,dI aS.2.2.1])),(3,.map aS.2.2.2.1.clk (MP.dl dZ AB.D aS.2.2.2.1)),(4,.map aS.2.2.2.2.clk (MP.dl D.s dZ aS.2.2.2.2))]:=by unfold Z2 at h;refine XG.call (ks:=[0]) mixed fun us=>?_;apply g0 (o:=aS);refine gW 9 (.int (aP.es.length:Int)) ?_;obtain⟨h1,h⟩:=cS h;refine gQ (QC dZ AB.D aP h1) ?_;exact lX h [.live [2],.keep [0,1,2,997],.ren 1 3,.ren 2 4,.sort]
theorem Wz(h:Yp=some a9):AO Try.prog 6 [] [] (.d (D.b a9)) []:=by unfold Yp at h;apply g0 (o:=a9);obtain⟨r1,h1,h⟩:=bS h;refine gG 6 (.cx false [] [(0,413),(1,420),(2,427)] (.box 0 0) [(0,.cells ([.row 1,.row 2,dI r1.1,dI r1.2.1])),(1,.map r1.2.2.1.clk (MP.dl dZ AB.D r1.2.2.1)),(2,.map r1.2.2.2.clk (MP.dl D.s dZ r1.2.2.2))]) (W4 h1) ?_;obtain⟨r2,h2,h⟩:=bS h;refine gG 9 (.cx false [(0,413),(1,420),(2,427)] [(3,9),(4,416)] (.tup [dI r2.1,dI r2.2.1]) [(0,.cells ([.row 3,.row 4,dI r2.2.2.1,dI r2.2.2.2.1])),(3,.map r2.2.2.2.2.1.clk (MP.dl dZ AB.D r2.2.2.2.2.1)),(4,.map r2.2.2.2.2.2.clk (MP.dl D.s dZ r2.2.2.2.2.2))]) (VV h2)<|gQ (BI X0.D ([X0.mk 0 (X5.mk 1 0 ([]:List UInt8) false)])) ?_;obtain⟨r3,h3,h⟩:=bS h;refine gG 17 (.cx false [(0,413),(1,9),(2,416)] [(3,17),(4,424)] (.tup [dI r3.1,dI r3.2.1]) [(0,.cells ([.row 3,.row 4,dI r3.2.2.1,dI r3.2.2.2.1])),(3,.map r3.2.2.2.2.1.clk (MP.dl dZ AB.D r3.2.2.2.2.1)),(4,.map r3.2.2.2.2.2.clk (MP.dl D.s dZ r3.2.2.2.2.2))]) (VV h3) ?_;refine iB 22 h (fun h=>?_) fun h=>?_;refine iB 26 h (fun h=>?_) fun h=>?_;refine iB 30 h (fun h=>?_) fun h=>?_;obtain⟨r4,h7,h⟩:=bS h;refine gG 32 (.cx false [(0,413),(1,17),(2,424)] [(3,32),(4,439)] (dI r4.1) [(0,.cells ([.row 3,.row 4,dI r4.2.1,dI r4.2.2.1])),(3,.map r4.2.2.2.1.clk (MP.dl dZ AB.D r4.2.2.2.1)),(4,.map r4.2.2.2.2.clk (MP.dl D.s dZ r4.2.2.2.2))]) (W7 h7) ?_;exact lf h;exact lf h;exact lf h;exact lf h
theorem aAl(h:Ze aB=some aT):AO Try.prog 8 [dI aB] [] (.d (Xb.D aT)) []:=by unfold Ze at h;apply g0 (o:=aT);refine gG 4 (.int (Fh aB 1)) (rfl:Fh aB 1=Fh aB 1)<|gG 5 (.int (IY (Fh aB 1) 4096)) (rfl:IY (Fh aB 1) 4096=IY (Fh aB 1) 4096) ?_;exact lf h
def OS(s0 s1:List X0)(s5:Int):St:=⟨sp 26 0 [sD 0 (D.l X0.D) s0,sD 1 (D.l X0.D) s1,sI 5 s5],[],[]⟩
def OT(s0 s1:List X0)(o:Unit⊕Unit):Ex×St:=match o with
 | .inl o=>(.exit 0,⟨sp 26 0 [],[],[]⟩)
 | .inr o=>(.ret,⟨sp 26 0 [sD 4 D.b false],[],[]⟩)
theorem Sj(rd:Option Nat)(h:VH aA aL aB=some aC):Lq 17 rd 58 (OS aA aL aB) ((OT aA aL) aC):=
 lL (fun s:Int=>OS aA aL s) (OT aA aL) aB (fun aB o h=>by
 unfold HC at h
 refine gN 13 X0.D aA ?_
 refine iB 14 h (fun h=>?_) fun h=>?_
 refine xX 19 X0.D h fun x1 h=>?_
 refine xX 23 X0.D h fun x2 h=>?_
 refine iB 25 h (fun h=>?_) fun h=>?_
 exact lb h
 exact lb h
 exact lb h) h
theorem VI(h:Xy aA aL=some a9):AO Try.prog 17 [.d ((D.l X0.D) aA),.d ((D.l X0.D) aL)] [] (.d (D.b a9)) []:=by
 unfold Xy at h;apply g0 (o:=a9);refine gN 7 X0.D aA<|gN 9 X0.D aL ?_;refine iB 10 h (fun h=>?_) fun h=>?_;exact lf h;obtain⟨o3,h6,h⟩:=bS h;refine gl (Sj none h6) ?_;replace h:=AV h;rcases h with⟨o4,rfl,h⟩|⟨o5,rfl,h⟩
 exact lf h;exact lf h
def Oi(s1:List X0)(w2:Xb)(s5:Int):St:=⟨sp 23 0 [sD 1 (D.l X0.D) s1,bx 2,sI 5 s5],[cL 2 Xb.D w2],[]⟩
def Oj(s1:List X0)(w2:Xb)(o:Unit⊕Int):Ex×St:=match o with
 | .inl o=>(.exit 0,⟨sp 23 0 [],[],[]⟩)
 | .inr o=>(.ret,⟨sp 23 0 [sI 4 o],[],[]⟩)
theorem Sv(rd:Option Nat)(h:VL aA aT aB=some aU):Lq 27 rd 26 (Oi aA aT aB) ((Oj aA aT) aU):=
 lL (fun s:Int=>Oi aA aT s) (Oj aA aT) aB (fun aB o h=>by
 unfold FA at h
 refine gN 9 Xc.D aT.l ?_
 refine iB 10 h (fun h=>?_) fun h=>?_
 refine xX 16 Xc.D h fun x1 h=>?_
 obtain⟨r2,h3,h⟩:=bS h
 refine gQ (VI h3) ?_
 cases r2
 replace h:=CX h
 refine gW 21 (.ret (.d (D.b false))) ?_
 exact lb h
 replace h:=CY h
 refine gW 21 (.ret (.d (D.b true))) ?_
 exact lb h
 exact lb h) h
theorem Wr(h:Y4 aT aA=some aB):AO Try.prog 27 [.d (Xb.D aT),.d ((D.l X0.D) aA)] [] (dI aB) []:=by
 unfold Y4 at h;apply g0 (o:=aB);obtain⟨o3,h5,h⟩:=bS h;refine gl (Sv none h5) ?_;replace h:=AV h;rcases h with⟨o4,rfl,h⟩|⟨o5,rfl,h⟩
 exact lf h;exact lf h
theorem aAb(h:Z3 aT aO=some aV):AO Try.prog 26 [.d (Xb.D aT),.d (AB.D aO)] [] (.tup [.d (Xb.D aV.1),dI aV.2]) []:=by unfold Z3 at h;apply g0 (o:=aV);obtain⟨r1,h1,h⟩:=bS h;refine gC 9 (Wr h1) ?_;refine iB 10 h (fun h=>?_) fun h=>?_;exact lf h;refine gN 14 Xc.D aT.l ?_;refine iB 17 h (fun h=>?_) fun h=>?_;exact lf h;refine gQ (BI Xc.D ([]:List Xc))<|gG 26 (.sl ((([]:List Xc)++aT.l).map Xc.D)) (BI Xc.D aT.l)<|gW 32 (.sl (((([]:List Xc)++aT.l)++[Xc.mk (AA .add .i64 aT.last 1) aO]).map Xc.D)) ?_;obtain⟨h4,h⟩:=cS h;refine gQ (BF Xc.D h4)<|gQ (BE Xc.D ([]:List Xc) aT.l)<|gQ (BI Xc.D [Xc.mk (AA .add .i64 aT.last 1) aO])<|gQ (BI Xc.D [Xc.mk (AA .add .i64 aT.last 1) aO]) ?_;obtain⟨h5,h⟩:=cS h;refine gQ (BF Xc.D h5)<|gQ (BE Xc.D (([]:List Xc)++aT.l) [Xc.mk (AA .add .i64 aT.last 1) aO]) ?_;exact lf h
theorem aAc(h:Z4 aA aB aE aP aQ=some aW):AO Try.prog 21 [.box 0 0,.d ((D.l X0.D) aA)] [(0,.cells ([.row 1,.row 2,dI aB,dI aE])),(1,.map aP.clk (MP.dl dZ AB.D aP)),(2,.map aQ.clk (MP.dl D.s dZ aQ))] (.tup [dI aW.1,.d (D.b aW.2.1)]) [(0,.cells ([.row 3,.row 4,dI aW.2.2.1,dI aW.2.2.2.1])),(3,.map aW.2.2.2.2.1.clk (MP.dl dZ AB.D aW.2.2.2.2.1)),(4,.map aW.2.2.2.2.2.clk (MP.dl D.s dZ aW.2.2.2.2.2))]:=by unfold Z4 at h;refine XG.call (ks:=[0]) mixed fun us=>?_;apply g0 (o:=aW);obtain⟨r1,h1,h⟩:=bS h;refine gC 16 (VF h1)<|gG 17 (.mg (dZ (BT 0 aQ r1).1) (BT 0 aQ r1).2) (Fi (YN Try.underlying9) dZ 0 aQ r1) ?_;exact lX h [.live [4,5],.keep [0,1,2,997],.ren 1 3,.ren 2 4,.sort]
def OU(s1:Int)(w2:Xb)(s5:Int):St:=⟨sp 22 0 [sI 1 s1,bx 2,sI 5 s5],[cL 2 Xb.D w2],[]⟩
def OV(s1:Int)(w2:Xb)(o:Unit⊕Int):Ex×St:=match o with
 | .inl o=>(.exit 0,⟨sp 22 0 [],[],[]⟩)
 | .inr o=>(.ret,⟨sp 22 0 [sI 4 o],[],[]⟩)
theorem Sk(rd:Option Nat)(h:VJ aB aT aE=some aU):Lq 19 rd 26 (OU aB aT aE) ((OV aB aT) aU):=
 lL (fun s:Int=>OU aB aT s) (OV aB aT) aE (fun aE o h=>by
 unfold E8 at h
 refine gN 9 Xc.D aT.l ?_
 refine iB 10 h (fun h=>?_) fun h=>?_
 refine xX 16 Xc.D h fun x1 h=>?_
 refine iB 20 h (fun h=>?_) fun h=>?_
 exact lb h
 exact lb h
 exact lb h) h
theorem Sl(h:Xz aT aB=some aE):AO Try.prog 19 [.d (Xb.D aT),dI aB] [] (dI aE) []:=by
 unfold Xz at h;apply g0 (o:=aE);obtain⟨o2,h4,h⟩:=bS h;refine gl (Sk none h4) ?_;replace h:=AV h;rcases h with⟨o3,rfl,h⟩|⟨o4,rfl,h⟩
 exact lf h;exact lf h
theorem aAd(h:Z6 aT aB aM=some aX):AO Try.prog 28 [.d (Xb.D aT),dI aB,.d ((D.l X4.D) aM)] [] (.d (Xb.D aX)) []:=by unfold Z6 at h;apply g0 (o:=aX);obtain⟨r1,h1,h⟩:=bS h;refine gC 11 (Sl h1) ?_;refine iB 13 h (fun h=>?_) fun h=>?_;exact lf h;refine gG 15 .frz (BI Xc.D ([]:List Xc))<|gG 18 (.rwl ((aT.l).map Xc.D)) (BI Xc.D aT.l)<|gW 31 (.fzn 18) ?_;obtain⟨h3,h⟩:=cS h;refine gQ (BF Xc.D h3)<|gQ (BE Xc.D ([]:List Xc) aT.l) ?_;obtain⟨h4,h⟩:=cS h;refine gQ h4.1<|gQ (AD Xc.D h4.2) ?_;obtain⟨x2,h5,h⟩:=xS h;refine gG 26 (.el (Xc.D x2)) (AF Xc.D h5) ?_;obtain⟨h6,h⟩:=cS h;refine gQ h6.1<|gQ (AD Xc.D h6.2) ?_;obtain⟨x3,h7,h⟩:=xS h;refine gQ (AF Xc.D h7)<|gQ (AP Xc.D aT.l r1 (Xc.mk x3.iD (AB.mk x2.row.bind aM)))<|gW 10030 (.prt (Xc.D x3) ((aT.l.set r1.toNat (Xc.mk x3.iD (AB.mk x2.row.bind aM))).map Xc.D)) ?_;exact lf h
theorem TA(rd:Option Nat)(us:List Value)(h:S9 aB aM a9 aY aE aZ aO aP aQ=some b6):Lq 23 rd 61 ⟨sp 32 0 [bx 0,sI 1 aB,sD 2 (D.l X4.D) aM,bx 7,sD 8 D.b a9,sD 20 D.b aY],[(0,.cells ([.row 501,.row 502,dI aE,dI aZ])),cL 7 AB.D aO,(501,.map aP.clk (MP.dl dZ AB.D aP)),(502,.map aQ.clk (MP.dl D.s dZ aQ)),(997,.vals [.box 0 0] us)],[]⟩ (.normal,⟨sp 32 0 [sD 8 D.b a9],[(0,.cells ([.row 501,.row 502,dI aE,dI aZ])),(501,.map b6.clk (MP.dl dZ AB.D b6)),(502,.map aQ.clk (MP.dl D.s dZ aQ)),(997,.vals [.box 0 0] us)],[]⟩):=by unfold S9 at h;apply g0 (o:=b6);cases aY;replace h:=CX h;exact lp h;replace h:=CY h;obtain⟨r1,h2,h⟩:=bS h;refine gC 29 (W3 h2)<|gQ (WB (WZ Try.underlying3) AB.D aP aB (AB.mk aO.bind r1))<|gW 10024 (.mp (Dv aP aB (AB.mk aO.bind r1)).clk (MP.dl dZ AB.D (Dv aP aB (AB.mk aO.bind r1)))) ?_;exact lp h
theorem Zo(h:Yf aB aM aE aZ aP aQ=some b7):AO Try.prog 23 [.box 0 0,dI aB,.d ((D.l X4.D) aM)] [(0,.cells ([.row 1,.row 2,dI aE,dI aZ])),(1,.map aP.clk (MP.dl dZ AB.D aP)),(2,.map aQ.clk (MP.dl D.s dZ aQ))] (.d (D.b b7.1)) [(0,.cells ([.row 3,.row 4,dI b7.2.1,dI b7.2.2.1])),(3,.map b7.2.2.2.1.clk (MP.dl dZ AB.D b7.2.2.2.1)),(4,.map b7.2.2.2.2.clk (MP.dl D.s dZ b7.2.2.2.2))]:=by unfold Yf at h;refine XG.call (ks:=[0]) mixed fun us=>?_;apply g0 (o:=b7);refine gG 17 (.mg (AB.D (BT (AB.mk ([]:List X0) ([]:List X4)) aP aB).1) (BT (AB.mk ([]:List X0) ([]:List X4)) aP aB).2) (Fi (WZ Try.underlying3) AB.D (AB.mk ([]:List X0) ([]:List X4)) aP aB) ?_;obtain⟨o2,h3,h⟩:=bS h;refine gL [.live [0,1,2,7,8,20],.keep [0,1,2,7,997],.ren 1 501,.ren 2 502,.sort] (TA none us h3) ?_;exact lX h [.live [6],.keep [0,501,502,997],.ren 501 3,.ren 502 4,.sort]
theorem aAe(h:Z7 aT aB=some aX):AO Try.prog 29 [.d (Xb.D aT),dI aB] [] (.d (Xb.D aX)) []:=by unfold Z7 at h;apply g0 (o:=aX);obtain⟨r1,h1,h⟩:=bS h;refine gC 9 (Sl h1) ?_;refine iB 11 h (fun h=>?_) fun h=>?_;exact lf h;refine gQ (BI Xc.D ([]:List Xc))<|gW 17 (.sl ((sub aT.l 0 r1).map Xc.D))<|gW 18 (.sl ((([]:List Xc)++(sub aT.l 0 r1)).map Xc.D))<|gW 24 (.sl ((sub aT.l (AA .add .i64 r1 1) (aT.l.length:Int)).map Xc.D))<|gW 25 (.sl (((([]:List Xc)++(sub aT.l 0 r1))++(sub aT.l (AA .add .i64 r1 1) (aT.l.length:Int))).map Xc.D)) ?_;obtain⟨h3,h⟩:=cS h;refine gQ (Ki Xc.D h3)<|gQ (BI Xc.D (sub aT.l 0 r1)) ?_;obtain⟨h4,h⟩:=cS h;refine gQ (BF Xc.D h4)<|gQ (BE Xc.D ([]:List Xc) (sub aT.l 0 r1)) ?_;obtain⟨h5,h⟩:=cS h;refine gQ (Kh Xc.D h5)<|gQ (BI Xc.D (sub aT.l (AA .add .i64 r1 1) (aT.l.length:Int))) ?_;obtain⟨h6,h⟩:=cS h;refine gQ (BF Xc.D h6)<|gQ (BE Xc.D (([]:List Xc)++(sub aT.l 0 r1)) (sub aT.l (AA .add .i64 r1 1) (aT.l.length:Int))) ?_;exact lf h
theorem TC(rd:Option Nat)(us:List Value)(h:TB a9 aY aB aE aO aP aQ=some b8):Lq 24 rd 125 ⟨sp 32 0 [bx 0,bx 5,sD 6 D.b a9,sD 23 D.b aY],[(0,.cells ([.row 501,.row 502,dI aB,dI aE])),cL 5 AB.D aO,(501,.map aP.clk (MP.dl dZ AB.D aP)),(502,.map aQ.clk (MP.dl D.s dZ aQ)),(997,.vals [.box 0 0] us)],[]⟩ (.normal,⟨sp 32 0 [sD 6 D.b a9],[(0,.cells ([.row 501,.row 502,dI aB,dI aE])),(501,.map aP.clk (MP.dl dZ AB.D aP)),(502,.map b8.clk (MP.dl D.s dZ b8)),(997,.vals [.box 0 0] us)],[]⟩):=by unfold TB at h;apply g0 (o:=b8);cases aY;replace h:=CX h;exact lp h;replace h:=CY h;obtain⟨r1,h2,h⟩:=bS h;refine gC 30 (VF h2)<|gQ (P8 (YN Try.underlying9) dZ aQ r1)<|gW 10027 (.mp (EU aQ r1).clk (MP.dl D.s dZ (EU aQ r1))) ?_;exact lp h
theorem Zp(h:Yg aB aE aZ aP aQ=some b7):AO Try.prog 24 [.box 0 0,dI aB] [(0,.cells ([.row 1,.row 2,dI aE,dI aZ])),(1,.map aP.clk (MP.dl dZ AB.D aP)),(2,.map aQ.clk (MP.dl D.s dZ aQ))] (.d (D.b b7.1)) [(0,.cells ([.row 3,.row 4,dI b7.2.1,dI b7.2.2.1])),(3,.map b7.2.2.2.1.clk (MP.dl dZ AB.D b7.2.2.2.1)),(4,.map b7.2.2.2.2.clk (MP.dl D.s dZ b7.2.2.2.2))]:=by unfold Yg at h;refine XG.call (ks:=[0]) mixed fun us=>?_;apply g0 (o:=b7);refine gG 15 (.mg (AB.D (BT (AB.mk ([]:List X0) ([]:List X4)) aP aB).1) (BT (AB.mk ([]:List X0) ([]:List X4)) aP aB).2) (Fi (WZ Try.underlying3) AB.D (AB.mk ([]:List X0) ([]:List X4)) aP aB)<|gQ (P8 (WZ Try.underlying3) AB.D aP aB)<|gW 10021 (.mp (EU aP aB).clk (MP.dl dZ AB.D (EU aP aB))) ?_;obtain⟨o2,h3,h⟩:=bS h;refine gL [.live [0,5,6,23],.keep [0,1,2,5,997],.ren 1 501,.ren 2 502,.sort] (TC none us h3) ?_;exact lX h [.live [4],.keep [0,501,502,997],.ren 501 3,.ren 502 4,.sort]
theorem aAo(h:Zh aB aE aP aQ=some aF):AO Try.prog 22 [.box 0 0] [(0,.cells ([.row 1,.row 2,dI aB,dI aE])),(1,.map aP.clk (MP.dl dZ AB.D aP)),(2,.map aQ.clk (MP.dl D.s dZ aQ))] (.tup []) [(0,.cells ([.row 3,.row 4,dI aF.1,dI aF.2.1])),(3,.map aF.2.2.1.clk (MP.dl dZ AB.D aF.2.2.1)),(4,.map aF.2.2.2.clk (MP.dl D.s dZ aF.2.2.2))]:=by unfold Zh at h;refine XG.call (ks:=[0]) mixed fun us=>?_;apply g0 (o:=aF);exact lX h [.live [],.keep [0,1,2,997],.ren 1 3,.ren 2 4,.sort]
theorem aAf(h:Z8 aT b9 aB aE aP aQ=some bA):AO Try.prog 9 [.box 0 0,.d (Xb.D aT),.d (Xf.D b9)] [(0,.cells ([.row 1,.row 2,dI aB,dI aE])),(1,.map aP.clk (MP.dl dZ AB.D aP)),(2,.map aQ.clk (MP.dl D.s dZ aQ))] (.tup [.d (Xb.D bA.1),.d (D.b bA.2.1)]) [(0,.cells ([.row 4,.row 5,dI bA.2.2.1,dI bA.2.2.2.1])),cL 3 Xb.D bA.2.2.2.2.1,(4,.map bA.2.2.2.2.2.1.clk (MP.dl dZ AB.D bA.2.2.2.2.2.1)),(5,.map bA.2.2.2.2.2.2.clk (MP.dl D.s dZ bA.2.2.2.2.2.2))]:=by unfold Z8 at h;refine XG.call (ks:=[0]) mixed fun us=>?_;apply g0 (o:=bA);refine gQ (BI X4.D ([X4.mk b9.state ([]:List X5)])) ?_;refine iB 23 h (fun h=>?_) fun h=>?_;obtain⟨r1,h2,h⟩:=bS h;refine gG 29 (.cx false [(0,0),(1,1),(2,2)] [(3,29),(4,436)] (.tup [dI r1.1,dI r1.2.1]) [(0,.cells ([.row 3,.row 4,dI r1.2.2.1,dI r1.2.2.2.1])),(3,.map r1.2.2.2.2.1.clk (MP.dl dZ AB.D r1.2.2.2.2.1)),(4,.map r1.2.2.2.2.2.clk (MP.dl D.s dZ r1.2.2.2.2.2))]) (VV h2) ?_;obtain⟨r2,h3,h⟩:=bS h;refine gC 38 (aAb h3) ?_;refine iB 42 h (fun h=>?_) fun h=>?_;refine iB 46 h (fun h=>?_) fun h=>?_;exact lX h [.live [6,7],.keep [0,6,29,436,997],.ren 6 3,.ren 29 4,.ren 436 5,.sort];exact lX h [.live [6,7],.keep [0,6,29,436,997],.ren 6 3,.ren 29 4,.ren 436 5,.sort];refine iB 56 h (fun h=>?_) fun h=>?_;exact lX h [.live [6,7],.keep [0,6,29,436,997],.ren 6 3,.ren 29 4,.ren 436 5,.sort];exact lX h [.live [6,7],.keep [0,6,29,436,997],.ren 6 3,.ren 29 4,.ren 436 5,.sort];refine iB 62 h (fun h=>?_) fun h=>?_;obtain⟨r3,h8,h⟩:=bS h;refine gG 67 (.cx false [(0,0),(1,1),(2,2)] [(3,67),(4,474)] (.tup [dI r3.1,.d (D.b r3.2.1)]) [(0,.cells ([.row 3,.row 4,dI r3.2.2.1,dI r3.2.2.2.1])),(3,.map r3.2.2.2.2.1.clk (MP.dl dZ AB.D r3.2.2.2.2.1)),(4,.map r3.2.2.2.2.2.clk (MP.dl D.s dZ r3.2.2.2.2.2))]) (aAc h8) ?_;obtain⟨r4,h9,h⟩:=bS h;refine gC 73 (Wr h9) ?_;refine iB 75 h (fun h=>?_) fun h=>?_;refine iB 79 h (fun h=>?_) fun h=>?_;exact lX h [.live [6,7],.keep [0,6,67,474,997],.ren 6 3,.ren 67 4,.ren 474 5,.sort];exact lX h [.live [6,7],.keep [0,6,67,474,997],.ren 6 3,.ren 67 4,.ren 474 5,.sort];refine iB 85 h (fun h=>?_) fun h=>?_;refine xX 90 Xc.D h fun x5 h=>?_;exact lX h [.live [6,7],.keep [0,6,67,474,997],.ren 6 3,.ren 67 4,.ren 474 5,.sort];exact lX h [.live [6,7],.keep [0,6,67,474,997],.ren 6 3,.ren 67 4,.ren 474 5,.sort];obtain⟨r6,h14,h⟩:=bS h;refine gC 98 (Sl h14) ?_;refine iB 102 h (fun h=>?_) fun h=>?_;obtain⟨r7,h16,h⟩:=bS h;refine gC 107 (aAd h16) ?_;obtain⟨r8,h17,h⟩:=bS h;refine gG 112 (.cx false [(0,0),(1,1),(2,2)] [(3,112),(4,519)] (.d (D.b r8.1)) [(0,.cells ([.row 3,.row 4,dI r8.2.1,dI r8.2.2.1])),(3,.map r8.2.2.2.1.clk (MP.dl dZ AB.D r8.2.2.2.1)),(4,.map r8.2.2.2.2.clk (MP.dl D.s dZ r8.2.2.2.2))]) (Zo h17) ?_;exact lX h [.live [6,7],.keep [0,6,112,519,997],.ren 6 3,.ren 112 4,.ren 519 5,.sort];refine iB 117 h (fun h=>?_) fun h=>?_;obtain⟨r9,h19,h⟩:=bS h;refine gC 121 (aAe h19) ?_;obtain⟨r10,h20,h⟩:=bS h;refine gG 125 (.cx false [(0,0),(1,1),(2,2)] [(3,125),(4,532)] (.d (D.b r10.1)) [(0,.cells ([.row 3,.row 4,dI r10.2.1,dI r10.2.2.1])),(3,.map r10.2.2.2.1.clk (MP.dl dZ AB.D r10.2.2.2.1)),(4,.map r10.2.2.2.2.clk (MP.dl D.s dZ r10.2.2.2.2))]) (Zp h20) ?_;exact lX h [.live [6,7],.keep [0,6,125,532,997],.ren 6 3,.ren 125 4,.ren 532 5,.sort];obtain⟨r11,h21,h⟩:=bS h;refine gG 129 (.cx false [(0,0),(1,1),(2,2)] [(3,129),(4,536)] (.tup []) [(0,.cells ([.row 3,.row 4,dI r11.1,dI r11.2.1])),(3,.map r11.2.2.1.clk (MP.dl dZ AB.D r11.2.2.1)),(4,.map r11.2.2.2.clk (MP.dl D.s dZ r11.2.2.2))]) (aAo h21) ?_;exact lX h [.live [6,7],.keep [0,6,129,536,997],.ren 6 3,.ren 129 4,.ren 536 5,.sort]
theorem aAm(h:Zf aB aE aP aQ=some aS):AO Try.prog 11 [.box 0 0] [(0,.cells ([.row 1,.row 2,dI aB,dI aE])),(1,.map aP.clk (MP.dl dZ AB.D aP)),(2,.map aQ.clk (MP.dl D.s dZ aQ))] (dI aS.1) [(0,.cells ([.row 3,.row 4,dI aS.2.1,dI aS.2.2.1])),(3,.map aS.2.2.2.1.clk (MP.dl dZ AB.D aS.2.2.2.1)),(4,.map aS.2.2.2.2.clk (MP.dl D.s dZ aS.2.2.2.2))]:=by unfold Zf at h;refine XG.call (ks:=[0]) mixed fun us=>?_;apply g0 (o:=aS);exact lX h [.live [2],.keep [0,1,2,997],.ren 1 3,.ren 2 4,.sort]
theorem Sr(rd:Option Nat)(h:Of aB aE a9=some bB):Lq 57 rd 13 ⟨sp 25 0 [sD 0 dU aB,sI 2 aE,sD 4 D.b a9],[],[]⟩ (.normal,⟨sp 25 0 [sD 0 dU bB.1,sI 2 bB.2],[],[]⟩):=by unfold Of at h;apply g0 (o:=bB);cases a9;replace h:=CX h;exact lp h;replace h:=CY h;refine gQ (of_decide_eq_true rfl:(0:Int)<=32) ?_;exact lp h
theorem Ss(rd:Option Nat)(h:Og aB aE a9=some bB):Lq 57 rd 29 ⟨sp 25 0 [sD 0 dU aB,sI 2 aE,sD 8 D.b a9],[],[]⟩ (.normal,⟨sp 25 0 [sD 0 dU bB.1,sI 2 bB.2],[],[]⟩):=by unfold Og at h;apply g0 (o:=bB);cases a9;replace h:=CX h;exact lp h;replace h:=CY h;refine gQ (of_decide_eq_true rfl:(0:Int)<=16) ?_;exact lp h
theorem Su(rd:Option Nat)(h:Oh aB aE a9=some bB):Lq 57 rd 61 ⟨sp 25 0 [sD 0 dU aB,sI 2 aE,sD 14 D.b a9],[],[]⟩ (.normal,⟨sp 25 0 [sD 0 dU bB.1,sI 2 bB.2],[],[]⟩):=by unfold Oh at h;apply g0 (o:=bB);cases a9;replace h:=CX h;exact lp h;replace h:=CY h;refine gQ (of_decide_eq_true rfl:(0:Int)<=8) ?_;exact lp h
theorem ZW(h:Y3 aB=some aE):AO Try.prog 57 [.d (dU aB)] [] (dI aE) []:=by unfold Y3 at h;apply g0 (o:=aE);obtain⟨o1,h2,h⟩:=bS h;refine gl (Sr none h2) ?_;obtain⟨o2,h4,h⟩:=bS h;refine gl (Ss none h4) ?_;obtain⟨o3,h6,h⟩:=bS h;refine gl (Su none h6)<|gG 21 (.int (u8w o3.1).toNat) (In o3.1) ?_;obtain⟨x4,h7,h⟩:=xS h;refine gG 22 (.int x4.toNat) (DS h7)<|gG 23 (.int x4.toNat) (J7 x4) ?_;exact lf h
theorem Vb(h:Yq aB=some aE):AO Try.prog 42 [.d (dU aB)] [] (dI aE) []:=by unfold Yq at h;apply g0 (o:=aE);obtain⟨r1,h1,h⟩:=bS h;refine gC 7 (ZW h1) ?_;exact lf h
theorem Zz(h:Yy a8 bC=some a9):AO Try.prog 43 [.d (X5.D a8),.d (X5.D bC)] [] (.d (D.b a9)) []:=by unfold Yy at h;apply g0 (o:=a9);refine iB 5 h (fun h=>?_) fun h=>?_;exact lf h;refine iB 16 h (fun h=>?_) fun h=>?_;exact lf h;refine iB 25 h (fun h=>?_) fun h=>?_;exact lf h;refine iB 37 h (fun h=>?_) fun h=>?_;exact lf h;exact lf h
def Ok(s1 s17:List X0)(s18 s19:Int):St:=⟨sp 59 0 [sD 1 (D.l X0.D) s1,sD 17 (D.l X0.D) s17,sI 18 s18,sI 19 s19],[],[]⟩
def Ol(s1 s17:List X0)(s18:Int)(o:Unit⊕Bool):Ex×St:=match o with
 | .inl o=>(.exit 0,⟨sp 59 0 [],[],[]⟩)
 | .inr o=>(.ret,⟨sp 59 0 [sD 4 D.b o],[],[]⟩)
theorem Sw(rd:Option Nat)(h:VM aA aL aB aE=some bD):Lq 33 rd 58 (Ok aA aL aB aE) ((Ol aA aL aB) bD):=
 lL (fun s:Int=>Ok aA aL aB s) (Ol aA aL aB) aE (fun aE o h=>by
 unfold HE at h
 refine iB 20 h (fun h=>?_) fun h=>?_
 refine xX 22 X0.D h fun x1 h=>?_
 refine xX 29 X0.D h fun x2 h=>?_
 refine iB 24 h (fun h=>?_) fun h=>?_
 refine xX 37 X0.D h fun x3 h=>?_
 exact lb h
 refine xX 46 X0.D h fun x4 h=>?_
 refine iB 41 h (fun h=>?_) fun h=>?_
 refine xX 54 X0.D h fun x5 h=>?_
 obtain⟨r6,h10,h⟩:=bS h
 refine gC 57 (Zz h10) ?_
 exact lb h
 exact lb h
 exact lb h) h
theorem Wu(h:Y5 aA aL=some a9):AO Try.prog 33 [.d ((D.l X0.D) aA),.d ((D.l X0.D) aL)] [] (.d (D.b a9)) []:=by
 unfold Y5 at h;apply g0 (o:=a9);refine gN 8 X0.D aA<|gN 10 X0.D aL ?_;refine iB 11 h (fun h=>?_) fun h=>?_;refine gN 13 X0.D aA<|gN 15 X0.D aL ?_;exact lf h;refine gN 18 X0.D aA ?_;obtain⟨o7,h11,h⟩:=bS h;refine gl (Sw none h11) ?_;replace h:=AV h;rcases h with⟨o8,rfl,h⟩|⟨o9,rfl,h⟩
 exact lf h;exact lf h
theorem Ci(h:Xt aO bE=some aB):AO Try.prog 32 [.d (AB.D aO),.d (AB.D bE)] [] (dI aB) []:=by unfold Xt at h;apply g0 (o:=aB);obtain⟨r1,h1,h⟩:=bS h;refine gQ (Wu h1) ?_;cases r1;replace h:=CX h;refine gW 10 (.ret (.d (D.b false))) ?_;obtain⟨r2,h3,h⟩:=bS h;refine gQ (Wu h3) ?_;cases r2;replace h:=CX h;refine gW 16 (.ret (.d (D.b false))) ?_;exact lf h;replace h:=CY h;refine gW 16 (.ret (.d (D.b true))) ?_;exact lf h;replace h:=CY h;refine gW 10 (.ret (.d (D.b true))) ?_;exact lf h
def Nz(us:List Value)(s1 s2:Int)(s8 s9:Int)(w0:List AB):St:=⟨sp 53 0 [rx 0,sI 1 s1,sI 2 s2,(3,.clo (.func 32) [] []),sI 8 s8,sI 9 s9],[rW 0 45 2 AB.D w0,(997,.vals [.row 0] us)],[]⟩
def N0(us:List Value)(s1 s2 s8:Int)(o:(List AB)):Ex×St:=(.exit 2,⟨sp 53 0 [rx 0,sI 1 s1,sI 2 s2,(3,.clo (.func 32) [] []),sI 8 s8],[rW 0 45 2 AB.D o,(997,.vals [.row 0] us)],[]⟩)
theorem SI(rd:Option Nat)(us:List Value)(h:SH aB aE aZ bG bH=some bI):Lq 48 rd 402 (Nz us aB aE aZ bG bH) ((N0 us aB aE aZ) bI):=
 lL (fun s:Int×List AB=>Nz us aB aE aZ s.1 s.2) (N0 us aB aE aZ) (bG,bH) (fun⟨bG,bH⟩ o h=>by
 unfold G6 at h
 refine iB 21 h (fun h=>?_) fun h=>?_
 obtain⟨h3,h⟩:=cS h
 refine gQ h3.1<|gQ (AD AB.D h3.2) ?_
 obtain⟨x1,h4,h⟩:=xS h
 refine gG 26 (.el (AB.D x1)) (AF AB.D h4) ?_
 obtain⟨h5,h⟩:=cS h
 refine gQ h5.1<|gQ (AD AB.D h5.2) ?_
 obtain⟨x2,h6,h⟩:=xS h
 refine gG 31 (.el (AB.D x2)) (AF AB.D h6) ?_
 obtain⟨r3,h7,h⟩:=bS h
 refine gC 32 (Ci h7) ?_
 refine iB 34 h (fun h=>?_) fun h=>?_
 obtain⟨h9,h⟩:=cS h
 refine gQ h9.1<|gQ (AD AB.D h9.2) ?_
 obtain⟨x4,h10,h⟩:=xS h
 refine gG 46 (.el (AB.D x4)) (AF AB.D h10)<|gW 10051 (.sl ((bH.set bG.toNat x4).map AB.D)) ?_
 obtain⟨h11,h⟩:=cS h
 refine gQ h11.1<|gQ (AD AB.D h11.2) ?_
 obtain⟨x5,h12,h⟩:=xS h
 refine gG 50 (.el (AB.D x5)) (AF AB.D h12)<|gW 10052 (.sl (((bH.set bG.toNat x4).set (AA .sub .i64 bG 1).toNat x5).map AB.D)) ?_
 obtain⟨h13,h⟩:=cS h
 refine gQ h13.1<|gQ (AD AB.D h13.2) ?_
 obtain⟨h14,h⟩:=cS h
 refine gQ (Ar AB.D h14)<|gQ (AP AB.D bH bG x4) ?_
 obtain⟨h15,h⟩:=cS h
 refine gQ h15.1<|gQ (AD AB.D h15.2) ?_
 obtain⟨h16,h⟩:=cS h
 refine gQ (Ar AB.D h16)<|gQ (AP AB.D (bH.set bG.toNat x4) (AA .sub .i64 bG 1) x5) ?_
 exact lb h
 exact lb h
 exact lb h) h
def Nv(us:List Value)(s1 s2 s8:Int)(w0:List AB):St:=⟨sp 53 0 [rx 0,sI 1 s1,sI 2 s2,(3,.clo (.func 32) [] []),sI 8 s8],[rW 0 45 2 AB.D w0,(997,.vals [.row 0] us)],[]⟩
def Nw(us:List Value)(s1 s2:Int)(o:(List AB)):Ex×St:=(.exit 0,⟨sp 53 0 [],[rW 0 45 2 AB.D o,(997,.vals [.row 0] us)],[]⟩)
theorem SG(rd:Option Nat)(us:List Value)(h:SF aB aE aZ bH=some bI):Lq 48 rd 6 (Nv us aB aE aZ bH) ((Nw us aB aE) bI):=
 lL (fun s:Int×List AB=>Nv us aB aE s.1 s.2) (Nw us aB aE) (aZ,bH) (fun⟨aZ,bH⟩ o h=>by
 unfold G5 at h
 refine iB 14 h (fun h=>?_) fun h=>?_
 obtain⟨o6,h17,h⟩:=bS h
 refine gl (SI rd us h17) ?_
 exact lb h
 exact lb h) h
theorem ZH(h:Xm aB aE bH=some bJ):AO Try.prog 48 [.row 0,dI aB,dI aE,.clo (.func 32) [] []] [rW 0 45 2 AB.D bH] (.tup []) [rW 0 45 2 AB.D bJ]:=by unfold Xm at h;refine XG.call (ks:=[0]) mixed fun us=>?_;apply g0 (o:=bJ);obtain⟨o7,h18,h⟩:=bS h;refine gl (SG none us h18) ?_;exact lX h (lv [] [0,997])
theorem KS(rd:Option Nat)(us:List Value)(h:LK aB aE aZ bG a9 bH=some bK):Lq 70 rd 397 ⟨sp 82 0 [rx 0,sI 2 aB,sI 3 aE,(4,.clo (.func 32) [] []),sI 10 aZ,sI 11 bG,sD 40 D.b a9],[rW 0 45 2 AB.D bH,(997,.vals [.row 0] us)],[]⟩ (.normal,⟨sp 82 0 [rx 0,sI 2 aB,sI 3 aE,(4,.clo (.func 32) [] []),sI 10 aZ,sI 11 bK],[rW 0 45 2 AB.D bH,(997,.vals [.row 0] us)],[]⟩):=by unfold LK at h;apply g0 (o:=bK);cases a9;replace h:=CX h;exact lp h;replace h:=CY h;exact lp h
theorem SC(rd:Option Nat)(us:List Value)(h:Nr aB aE aZ bH=some bL):Lq 70 rd 12 ⟨sp 82 0 [rx 0,sI 2 aB,sI 3 aE,(4,.clo (.func 32) [] []),sI 10 aZ],[rW 0 45 2 AB.D bH,(997,.vals [.row 0] us)],[]⟩ (match (generalizing:=false) bL with
 | .inl bL=>(.normal,⟨sp 82 0 [rx 0,sI 2 aB,sI 3 aE,(4,.clo (.func 32) [] []),sI 10 bL.1],[rW 0 45 2 AB.D bL.2,(997,.vals [.row 0] us)],[]⟩)
 | .inr bL=>match (generalizing:=false) bL with
 | .inl bL=>(.exit 0,⟨sp 82 0 [],[rW 0 45 2 AB.D bH,(997,.vals [.row 0] us)],[]⟩)
 | .inr bL=>(.ret,⟨sp 82 0 [],[rW 0 45 2 AB.D bH,(997,.vals [.row 0] us)],[]⟩)):=by
 unfold Nr at h
 apply g0 (o:=bL)
 refine iB 18 h (fun h=>?_) fun h=>?_
 exact lp h
 refine iB 23 h (fun h=>?_) fun h=>?_
 obtain⟨h3,h⟩:=cS h
 refine gQ h3.1<|gQ (AD AB.D h3.2) ?_
 obtain⟨x1,h4,h⟩:=xS h
 refine gG 30 (.el (AB.D x1)) (AF AB.D h4) ?_
 obtain⟨h5,h⟩:=cS h
 refine gQ h5.1<|gQ (AD AB.D h5.2) ?_
 obtain⟨x2,h6,h⟩:=xS h
 refine gG 37 (.el (AB.D x2)) (AF AB.D h6) ?_
 obtain⟨r3,h7,h⟩:=bS h
 refine gC 38 (Ci h7) ?_
 obtain⟨o4,h9,h⟩:=bS h
 refine gl (KS rd us h9) ?_
 obtain⟨h10,h⟩:=cS h
 refine gQ h10.1<|gQ (AD AB.D h10.2) ?_
 obtain⟨x5,h11,h⟩:=xS h
 refine gG 49 (.el (AB.D x5)) (AF AB.D h11) ?_
 obtain⟨h12,h⟩:=cS h
 refine gQ h12.1<|gQ (AD AB.D h12.2) ?_
 obtain⟨x6,h13,h⟩:=xS h
 refine gG 55 (.el (AB.D x6)) (AF AB.D h13) ?_
 obtain⟨r7,h14,h⟩:=bS h
 refine gC 56 (Ci h14) ?_
 refine iB 58 h (fun h=>?_) fun h=>?_
 exact lp h
 obtain⟨h16,h⟩:=cS h
 refine gQ h16.1<|gQ (AD AB.D h16.2) ?_
 obtain⟨x8,h17,h⟩:=xS h
 refine gG 72 (.el (AB.D x8)) (AF AB.D h17)<|gW 10079 (.sl ((bH.set (AA .add .i64 aE aZ).toNat x8).map AB.D)) ?_
 obtain⟨h18,h⟩:=cS h
 refine gQ h18.1<|gQ (AD AB.D h18.2) ?_
 obtain⟨x9,h19,h⟩:=xS h
 refine gG 78 (.el (AB.D x9)) (AF AB.D h19)<|gW 10080 (.sl (((bH.set (AA .add .i64 aE aZ).toNat x8).set (AA .add .i64 aE o4).toNat x9).map AB.D)) ?_
 obtain⟨h20,h⟩:=cS h
 refine gQ h20.1<|gQ (AD AB.D h20.2) ?_
 obtain⟨h21,h⟩:=cS h
 refine gQ (Ar AB.D h21)<|gQ (AP AB.D bH (AA .add .i64 aE aZ) x8) ?_
 obtain⟨h22,h⟩:=cS h
 refine gQ h22.1<|gQ (AD AB.D h22.2) ?_
 obtain⟨h23,h⟩:=cS h
 refine gQ (Ar AB.D h23)<|gQ (AP AB.D (bH.set (AA .add .i64 aE aZ).toNat x8) (AA .add .i64 aE o4) x9) ?_
 exact lp h
 obtain⟨o10,h24,h⟩:=bS h
 refine gl (KS rd us h24) ?_
 obtain⟨h25,h⟩:=cS h
 refine gQ h25.1<|gQ (AD AB.D h25.2) ?_
 obtain⟨x11,h26,h⟩:=xS h
 refine gG 49 (.el (AB.D x11)) (AF AB.D h26) ?_
 obtain⟨h27,h⟩:=cS h
 refine gQ h27.1<|gQ (AD AB.D h27.2) ?_
 obtain⟨x12,h28,h⟩:=xS h
 refine gG 55 (.el (AB.D x12)) (AF AB.D h28) ?_
 obtain⟨r13,h29,h⟩:=bS h
 refine gC 56 (Ci h29) ?_
 refine iB 58 h (fun h=>?_) fun h=>?_
 exact lp h
 obtain⟨h31,h⟩:=cS h
 refine gQ h31.1<|gQ (AD AB.D h31.2) ?_
 obtain⟨x14,h32,h⟩:=xS h
 refine gG 72 (.el (AB.D x14)) (AF AB.D h32)<|gW 10079 (.sl ((bH.set (AA .add .i64 aE aZ).toNat x14).map AB.D)) ?_
 obtain⟨h33,h⟩:=cS h
 refine gQ h33.1<|gQ (AD AB.D h33.2) ?_
 obtain⟨x15,h34,h⟩:=xS h
 refine gG 78 (.el (AB.D x15)) (AF AB.D h34)<|gW 10080 (.sl (((bH.set (AA .add .i64 aE aZ).toNat x14).set (AA .add .i64 aE o10).toNat x15).map AB.D)) ?_
 obtain⟨h35,h⟩:=cS h
 refine gQ h35.1<|gQ (AD AB.D h35.2) ?_
 obtain⟨h36,h⟩:=cS h
 refine gQ (Ar AB.D h36)<|gQ (AP AB.D bH (AA .add .i64 aE aZ) x14) ?_
 obtain⟨h37,h⟩:=cS h
 refine gQ h37.1<|gQ (AD AB.D h37.2) ?_
 obtain⟨h38,h⟩:=cS h
 refine gQ (Ar AB.D h38)<|gQ (AP AB.D (bH.set (AA .add .i64 aE aZ).toNat x14) (AA .add .i64 aE o10) x15) ?_
 exact lp h
def Ns(us:List Value)(s2 s3 s10:Int)(w0:List AB):St:=⟨sp 82 0 [rx 0,sI 2 s2,sI 3 s3,(4,.clo (.func 32) [] []),sI 10 s10],[rW 0 45 2 AB.D w0,(997,.vals [.row 0] us)],[]⟩
def Nt(us:List Value)(s2 s3:Int)(o:(List AB)⊕(List AB)):Ex×St:=match o with
 | .inl o=>(.exit 0,⟨sp 82 0 [],[rW 0 45 2 AB.D o,(997,.vals [.row 0] us)],[]⟩)
 | .inr o=>(.ret,⟨sp 82 0 [],[rW 0 45 2 AB.D o,(997,.vals [.row 0] us)],[]⟩)
theorem SE(rd:Option Nat)(us:List Value)(h:SD aB aE aZ bH=some bM):Lq 70 rd 6 (Ns us aB aE aZ bH) ((Nt us aB aE) bM):=
 lL (fun s:Int×List AB=>Ns us aB aE s.1 s.2) (Nt us aB aE) (aZ,bH) (fun⟨aZ,bH⟩ o h=>by
 unfold G4 at h
 obtain⟨o16,h39,h⟩:=bS h
 refine gl (SC rd us h39) ?_
 replace h:=AV h
 rcases h with⟨o17,rfl,h⟩|⟨o18,rfl,h⟩
 exact lb h
 replace h:=AV h
 rcases h with⟨o19,rfl,h⟩|⟨o20,rfl,h⟩
 exact lb h
 exact lb h) h
theorem Wp(h:Xl aB aE aZ bH=some bJ):AO Try.prog 70 [.row 0,dI aB,dI aE,dI aZ,.clo (.func 32) [] []] [rW 0 45 2 AB.D bH] (.tup []) [rW 0 45 2 AB.D bJ]:=by
 unfold Xl at h;refine XG.call (ks:=[0]) mixed fun us=>?_;apply g0 (o:=bJ);obtain⟨o21,h40,h⟩:=bS h;refine gl (SE none us h40) ?_;replace h:=AV h;rcases h with⟨o22,rfl,h⟩|⟨o23,rfl,h⟩
 exact lX h (lv [] [0,997]);exact lX h (lv [] [0,997])
def N3(us:List Value)(s8 s9:Int)(s10 s11:Int)(w0:List AB):St:=⟨sp 60 0 [rx 0,(3,.clo (.func 32) [] []),sI 8 s8,sI 9 s9,sI 10 s10,sI 11 s11],[rW 0 45 2 AB.D w0,(997,.vals [.row 0] us)],[]⟩
def N4(us:List Value)(s8 s9 s10:Int)(o:(List AB)):Ex×St:=(.exit 0,⟨sp 60 0 [rx 0,(3,.clo (.func 32) [] []),sI 8 s8,sI 9 s9,sI 10 s10],[rW 0 45 2 AB.D o,(997,.vals [.row 0] us)],[]⟩)
theorem SK(rd:Option Nat)(us:List Value)(h:SJ aB aE aZ bG bH=some bI):Lq 49 rd 122 (N3 us aB aE aZ bG bH) ((N4 us aB aE aZ) bI):=
 lL (fun s:Int×List AB=>N3 us aB aE aZ s.1 s.2) (N4 us aB aE aZ) (bG,bH) (fun⟨bG,bH⟩ o h=>by
 unfold G7 at h
 refine iB 21 h (fun h=>?_) fun h=>?_
 obtain⟨r1,h2,h⟩:=bS h
 refine gG 29 (.cx false [(0,0)] [] (.tup []) [rW 0 45 2 AB.D r1]) (Wp h2) ?_
 exact lb h
 exact lb h) h
def N6(us:List Value)(s8 s9 s12:Int)(w0:List AB):St:=⟨sp 60 0 [rx 0,(3,.clo (.func 32) [] []),sI 8 s8,sI 9 s9,sI 12 s12],[rW 0 45 2 AB.D w0,(997,.vals [.row 0] us)],[]⟩
def N7(us:List Value)(s8 s9:Int)(o:(List AB)):Ex×St:=(.exit 2,⟨sp 60 0 [],[rW 0 45 2 AB.D o,(997,.vals [.row 0] us)],[]⟩)
theorem SM(rd:Option Nat)(us:List Value)(h:SL aB aE aZ bH=some bI):Lq 49 rd 126 (N6 us aB aE aZ bH) ((N7 us aB aE) bI):=
 lL (fun s:Int×List AB=>N6 us aB aE s.1 s.2) (N7 us aB aE) (aZ,bH) (fun⟨aZ,bH⟩ o h=>by
 unfold G8 at h
 refine iB 33 h (fun h=>?_) fun h=>?_
 obtain⟨h5,h⟩:=cS h
 refine gQ h5.1<|gQ (AD AB.D h5.2) ?_
 obtain⟨x3,h6,h⟩:=xS h
 refine gG 47 (.el (AB.D x3)) (AF AB.D h6)<|gW 10052 (.sl ((bH.set aB.toNat x3).map AB.D)) ?_
 obtain⟨h7,h⟩:=cS h
 refine gQ h7.1<|gQ (AD AB.D h7.2) ?_
 obtain⟨x4,h8,h⟩:=xS h
 refine gG 51 (.el (AB.D x4)) (AF AB.D h8)<|gW 10053 (.sl (((bH.set aB.toNat x3).set (AA .add .i64 aB aZ).toNat x4).map AB.D)) ?_
 obtain⟨h9,h⟩:=cS h
 refine gQ h9.1<|gQ (AD AB.D h9.2) ?_
 obtain⟨h10,h⟩:=cS h
 refine gQ (Ar AB.D h10)<|gQ (AP AB.D bH aB x3) ?_
 obtain⟨h11,h⟩:=cS h
 refine gQ h11.1<|gQ (AD AB.D h11.2) ?_
 obtain⟨h12,h⟩:=cS h
 refine gQ (Ar AB.D h12)<|gQ (AP AB.D (bH.set aB.toNat x3) (AA .add .i64 aB aZ) x4) ?_
 obtain⟨r5,h13,h⟩:=bS h
 refine gG 59 (.cx false [(0,0)] [] (.tup []) [rW 0 45 2 AB.D r5]) (Wp h13) ?_
 exact lb h
 exact lb h) h
theorem ZI(h:Xn aB aE bH=some bJ):AO Try.prog 49 [.row 0,dI aB,dI aE,.clo (.func 32) [] []] [rW 0 45 2 AB.D bH] (.tup []) [rW 0 45 2 AB.D bJ]:=by unfold Xn at h;refine XG.call (ks:=[0]) mixed fun us=>?_;apply g0 (o:=bJ);refine gQ (of_decide_eq_true rfl:(2:Int)≠0) ?_;obtain⟨o2,h3,h⟩:=bS h;refine gl (SK none us h3) ?_;obtain⟨o6,h14,h⟩:=bS h;refine gl (SM none us h14) ?_;exact lX h (lv [] [0,997])
theorem W5(h:Yz aB=some aE):AO Try.prog 71 [dI aB] [] (.d (dU aE)) []:=by unfold Yz at h;apply g0 (o:=aE);obtain⟨r1,h1,h⟩:=bS h;refine gC 5 (Vb h1) ?_;obtain⟨h2,h⟩:=cS h;refine gQ h2 ?_;exact lf h
theorem W6(h:Z0 aB=some bN):AO Try.prog 72 [.box 0 0] [(0,.cells ([.d (dU aB)]))] (.d (dU bN.1)) [(0,.cells ([.d (dU bN.2)]))]:=by unfold Z0 at h;refine XG.call (ks:=[0]) mixed fun us=>?_;apply g0 (o:=bN);refine gQ (of_decide_eq_true rfl:(0:Int)<=13)<|gQ (of_decide_eq_true rfl:(0:Int)<=7)<|gQ (of_decide_eq_true rfl:(0:Int)<=17) ?_;exact lX h (lv [2] [0,997])
theorem R9(rd:Option Nat)(us:List Value)(h:Nn aB aE aZ bG bK a9 bH bO=some bP):Lq 50 rd 30501 ⟨sp 67 0 [rx 0,sI 1 aB,sI 8 aE,bx 9,sD 10 dU aZ,sI 11 bG,sI 12 bK,sD 45 D.b a9],[rW 0 45 2 AB.D bH,(9,.cells ([.d (dU bO)])),(997,.vals [.row 0] us)],[]⟩ (.normal,⟨sp 67 0 [rx 0,sI 1 aB,sI 8 aE,bx 9,sD 10 dU aZ,sI 11 bG,sI 12 bP],[rW 0 45 2 AB.D bH,(9,.cells ([.d (dU bO)])),(997,.vals [.row 0] us)],[]⟩):=by unfold Nn at h;apply g0 (o:=bP);cases a9;replace h:=CX h;exact lp h;replace h:=CY h;exact lp h
theorem R8(rd:Option Nat)(us:List Value)(h:Nm aB aE aZ bG bH bK=some bQ):Lq 50 rd 1906 ⟨sp 67 0 [rx 0,sI 1 aB,sI 8 aE,bx 9,sD 10 dU aZ,sI 11 bG],[rW 0 45 2 AB.D bH,(9,.cells ([.d (dU bK)])),(997,.vals [.row 0] us)],[]⟩ (.normal,⟨sp 67 0 [rx 0,sI 1 aB,sI 8 aE,bx 9,sD 10 dU aZ,sI 11 bG],[rW 0 45 2 AB.D bQ.1,(9,.cells ([.d (dU bQ.2)])),(997,.vals [.row 0] us)],[]⟩):=by unfold Nm at h;apply g0 (o:=bQ);obtain⟨r2,h4,h⟩:=bS h;refine gG 38 (.cx false [(0,9)] [] (.d (dU r2.1)) [(0,.cells ([.d (dU r2.2)]))]) (W6 h4) ?_;obtain⟨o3,h6,h⟩:=bS h;refine gl (R9 rd us h6) ?_;obtain⟨h7,h⟩:=cS h;refine gQ h7.1<|gQ (AD AB.D h7.2) ?_;obtain⟨x4,h8,h⟩:=xS h;refine gG 60 (.el (AB.D x4)) (AF AB.D h8)<|gW 10065 (.sl ((bH.set bG.toNat x4).map AB.D)) ?_;obtain⟨h9,h⟩:=cS h;refine gQ h9.1<|gQ (AD AB.D h9.2) ?_;obtain⟨x5,h10,h⟩:=xS h;refine gG 64 (.el (AB.D x5)) (AF AB.D h10)<|gW 10066 (.sl (((bH.set bG.toNat x4).set (AA .add .i64 aB o3).toNat x5).map AB.D)) ?_;obtain⟨h11,h⟩:=cS h;refine gQ h11.1<|gQ (AD AB.D h11.2) ?_;obtain⟨h12,h⟩:=cS h;refine gQ (Ar AB.D h12)<|gQ (AP AB.D bH bG x4) ?_;obtain⟨h13,h⟩:=cS h;refine gQ h13.1<|gQ (AD AB.D h13.2) ?_;obtain⟨h14,h⟩:=cS h;refine gQ (Ar AB.D h14)<|gQ (AP AB.D (bH.set bG.toNat x4) (AA .add .i64 aB o3) x5) ?_;exact lp h
def No(us:List Value)(s1 s8:Int)(s10 s11:Int)(w0:List AB)(w9:Int):St:=⟨sp 67 0 [rx 0,sI 1 s1,sI 8 s8,bx 9,sD 10 dU s10,sI 11 s11],[rW 0 45 2 AB.D w0,(9,.cells ([.d (dU w9)])),(997,.vals [.row 0] us)],[]⟩
def Np(us:List Value)(s1 s8 s10:Int)(o:(List AB)):Ex×St:=(.exit 0,⟨sp 67 0 [],[rW 0 45 2 AB.D o,(997,.vals [.row 0] us)],[]⟩)
theorem SB(rd:Option Nat)(us:List Value)(h:SA aB aE aZ bG bH bK=some bI):Lq 50 rd 238 (No us aB aE aZ bG bH bK) ((Np us aB aE aZ) bI):=
 lL (fun s:Int×List AB×Int=>No us aB aE aZ s.1 s.2.1 s.2.2) (Np us aB aE aZ) (bG,bH,bK) (fun⟨bG,bH,bK⟩ o h=>by
 unfold G3 at h
 refine gQ (of_decide_eq_true rfl:(4:Int)≠0) ?_
 refine iB 35 h (fun h=>?_) fun h=>?_
 obtain⟨o6,h15,h⟩:=bS h
 refine gl (R8 rd us h15) ?_
 exact lb h
 exact lb h) h
theorem R7(rd:Option Nat)(us:List Value)(h:Nl aB aE a9 bH=some bI):Lq 50 rd 7 ⟨sp 67 0 [rx 0,sI 1 aB,sI 8 aE,sD 17 D.b a9],[rW 0 45 2 AB.D bH,(997,.vals [.row 0] us)],[]⟩ (.normal,⟨sp 67 0 [],[rW 0 45 2 AB.D bI,(997,.vals [.row 0] us)],[]⟩):=by unfold Nl at h;apply g0 (o:=bI);cases a9;replace h:=CX h;exact lp h;replace h:=CY h;obtain⟨r1,h2,h⟩:=bS h;refine gC 21 (W5 h2)<|gQ (of_decide_eq_true rfl:(4:Int)≠0) ?_;obtain⟨o7,h16,h⟩:=bS h;refine gl (SB rd us h16) ?_;exact lp h
theorem ZG(h:Xk aB aE bH=some bJ):AO Try.prog 50 [.row 0,dI aB,dI aE,.clo (.func 32) [] []] [rW 0 45 2 AB.D bH] (.tup []) [rW 0 45 2 AB.D bJ]:=by unfold Xk at h;refine XG.call (ks:=[0]) mixed fun us=>?_;apply g0 (o:=bJ);obtain⟨o8,h17,h⟩:=bS h;refine gl (R7 none us h17) ?_;exact lX h (lv [] [0,997])
theorem VX(h:Yi bH aB aE aZ=some bR):AO Try.prog 85 [.d ((D.l AB.D) bH),dI aB,dI aE,.box 0 0,.clo (.func 32) [] []] [(0,.cells ([dI aZ]))] (.tup [dI bR.1,dI bR.2.1]) [(0,.cells ([dI bR.2.2]))]:=by unfold Yi at h;refine XG.call (ks:=[3]) mixed fun us=>?_;apply g0 (o:=bR);refine xX 15 AB.D h fun x1 h=>?_;refine xX 19 AB.D h fun x2 h=>?_;obtain⟨r3,h3,h⟩:=bS h;refine gC 21 (Ci h3) ?_;refine iB 22 h (fun h=>?_) fun h=>?_;exact lX h (lv [10,11] [0,997]);exact lX h (lv [10,11] [0,997])
theorem Wx(h:Ym bH aB aE aZ bG=some bN):AO Try.prog 74 [.d ((D.l AB.D) bH),dI aB,dI aE,dI aZ,.box 0 0,.clo (.func 32) [] []] [(0,.cells ([dI bG]))] (dI bN.1) [(0,.cells ([dI bN.2]))]:=by unfold Ym at h;refine XG.call (ks:=[4]) mixed fun us=>?_;apply g0 (o:=bN);obtain⟨r1,h1,h⟩:=bS h;refine gG 19 (.cx false [(0,0)] [] (.tup [dI r1.1,dI r1.2.1]) [(0,.cells ([dI r1.2.2]))]) (VX h1) ?_;obtain⟨r2,h2,h⟩:=bS h;refine gG 28 (.cx false [(0,0)] [] (.tup [dI r2.1,dI r2.2.1]) [(0,.cells ([dI r2.2.2]))]) (VX h2) ?_;obtain⟨r3,h3,h⟩:=bS h;refine gG 37 (.cx false [(0,0)] [] (.tup [dI r3.1,dI r3.2.1]) [(0,.cells ([dI r3.2.2]))]) (VX h3) ?_;exact lX h (lv [12] [0,997])
theorem VY(h:Yj bH aB aE=some bN):AO Try.prog 73 [.d ((D.l AB.D) bH),dI aB,.box 0 0,.clo (.func 32) [] []] [(0,.cells ([dI aE]))] (dI bN.1) [(0,.cells ([dI bN.2]))]:=by unfold Yj at h;refine XG.call (ks:=[2]) mixed fun us=>?_;apply g0 (o:=bN);obtain⟨r1,h1,h⟩:=bS h;refine gG 17 (.cx false [(0,0)] [] (dI r1.1) [(0,.cells ([dI r1.2]))]) (Wx h1) ?_;exact lX h (lv [8] [0,997])
theorem Sy(rd:Option Nat)(h:On bH aB aE aZ a9 bG=some bU):Lq 51 rd 4073 ⟨sp 63 0 [sD 0 (D.l AB.D) bH,(3,.clo (.func 32) [] []),bx 11,sI 12 aB,sI 13 aE,sI 14 aZ,sD 36 D.b a9],[(11,.cells ([dI bG]))],[]⟩ (.normal,⟨sp 63 0 [sD 0 (D.l AB.D) bH,(3,.clo (.func 32) [] []),bx 11,sI 12 bU.1,sI 13 bU.2.1,sI 14 bU.2.2.1],[(11,.cells ([dI bU.2.2.2]))],[]⟩):=by unfold On at h;apply g0 (o:=bU);cases a9;replace h:=CX h;exact lp h;replace h:=CY h;obtain⟨r1,h3,h⟩:=bS h;refine gG 40 (.cx false [(0,11)] [] (dI r1.1) [(0,.cells ([dI r1.2]))]) (VY h3) ?_;obtain⟨r2,h4,h⟩:=bS h;refine gG 44 (.cx false [(0,11)] [] (dI r2.1) [(0,.cells ([dI r2.2]))]) (VY h4) ?_;obtain⟨r3,h5,h⟩:=bS h;refine gG 48 (.cx false [(0,11)] [] (dI r3.1) [(0,.cells ([dI r3.2]))]) (VY h5) ?_;exact lp h
theorem Sx(rd:Option Nat)(h:Om bH aB aE aZ bG a9 bK=some bB):Lq 51 rd 509 ⟨sp 63 0 [sD 0 (D.l AB.D) bH,(3,.clo (.func 32) [] []),sI 10 aB,bx 11,sI 12 aE,sI 13 aZ,sI 14 bG,sD 34 D.b a9],[(11,.cells ([dI bK]))],[]⟩ (.normal,⟨sp 63 0 [bx 11,sI 13 bB.1],[(11,.cells ([dI bB.2]))],[]⟩):=by unfold Om at h;apply g0 (o:=bB);cases a9;replace h:=CX h;exact lp h;replace h:=CY h;obtain⟨o4,h6,h⟩:=bS h;refine gl (Sy rd h6) ?_;obtain⟨r5,h7,h⟩:=bS h;refine gG 54 (.cx false [(0,11)] [] (dI r5.1) [(0,.cells ([dI r5.2]))]) (Wx h7) ?_;exact lp h
theorem ZX(h:Y6 bH aB aE=some bN):AO Try.prog 51 [.d ((D.l AB.D) bH),dI aB,dI aE,.clo (.func 32) [] []] [] (.tup [dI bN.1,dI bN.2]) []:=by unfold Y6 at h;apply g0 (o:=bN);refine gQ (of_decide_eq_true rfl:(4:Int)≠0)<|gQ (of_decide_eq_true rfl:(4:Int)≠0)<|gQ (of_decide_eq_true rfl:(4:Int)≠0) ?_;obtain⟨o6,h8,h⟩:=bS h;refine gl (Sx none h8) ?_;refine iB 57 h (fun h=>?_) fun h=>?_;exact lf h;refine iB 60 h (fun h=>?_) fun h=>?_;exact lf h;exact lf h
def OW(us:List Value)(s8 s9:Int)(w0:List AB):St:=⟨sp 34 0 [rx 0,sI 8 s8,sI 9 s9],[rW 0 45 2 AB.D w0,(997,.vals [.row 0] us)],[]⟩
def OX(us:List Value)(o:(List AB)):Ex×St:=(.exit 0,⟨sp 34 0 [],[rW 0 45 2 AB.D o,(997,.vals [.row 0] us)],[]⟩)
theorem Sn(rd:Option Nat)(us:List Value)(h:Sm aB aE bH=some bI):Lq 52 rd 14 (OW us aB aE bH) ((OX us) bI):=
 lL (fun s:Int×Int×List AB=>OW us s.1 s.2.1 s.2.2) (OX us) (aB,aE,bH) (fun⟨aB,aE,bH⟩ o h=>by
 unfold HD at h
 refine iB 15 h (fun h=>?_) fun h=>?_
 obtain⟨h2,h⟩:=cS h
 refine gQ h2.1<|gQ (AD AB.D h2.2) ?_
 obtain⟨x1,h3,h⟩:=xS h
 refine gG 23 (.el (AB.D x1)) (AF AB.D h3)<|gW 10028 (.sl ((bH.set aB.toNat x1).map AB.D)) ?_
 obtain⟨h4,h⟩:=cS h
 refine gQ h4.1<|gQ (AD AB.D h4.2) ?_
 obtain⟨x2,h5,h⟩:=xS h
 refine gG 27 (.el (AB.D x2)) (AF AB.D h5)<|gW 10029 (.sl (((bH.set aB.toNat x1).set aE.toNat x2).map AB.D)) ?_
 obtain⟨h6,h⟩:=cS h
 refine gQ h6.1<|gQ (AD AB.D h6.2) ?_
 obtain⟨h7,h⟩:=cS h
 refine gQ (Ar AB.D h7)<|gQ (AP AB.D bH aB x1) ?_
 obtain⟨h8,h⟩:=cS h
 refine gQ h8.1<|gQ (AD AB.D h8.2) ?_
 obtain⟨h9,h⟩:=cS h
 refine gQ (Ar AB.D h9)<|gQ (AP AB.D (bH.set aB.toNat x1) aE x2) ?_
 exact lb h
 exact lb h) h
theorem ZT(h:Y0 aB aE bH=some bJ):AO Try.prog 52 [.row 0,dI aB,dI aE,.clo (.func 32) [] []] [rW 0 45 2 AB.D bH] (.tup []) [rW 0 45 2 AB.D bJ]:=by unfold Y0 at h;refine XG.call (ks:=[0]) mixed fun us=>?_;apply g0 (o:=bJ);obtain⟨o3,h10,h⟩:=bS h;refine gl (Sn none us h10) ?_;exact lX h (lv [] [0,997])
def Mu(us:List Value)(s1 s2 s10:Int)(w0:List AB)(s9:Int):St:=⟨sp 141 0 [rx 0,sI 1 s1,sI 2 s2,(3,.clo (.func 32) [] []),sI 9 s9,sI 10 s10],[rW 0 45 2 AB.D w0,(997,.vals [.row 0] us)],[]⟩
def Mv(us:List Value)(s1 s2 s10:Int)(w0:List AB)(o:Int):Ex×St:=(.exit 2,⟨sp 141 0 [rx 0,sI 1 s1,sI 2 s2,(3,.clo (.func 32) [] []),sI 9 o,sI 10 s10],[rW 0 45 2 AB.D w0,(997,.vals [.row 0] us)],[]⟩)
theorem RT(rd:Option Nat)(us:List Value)(h:RR aB aE aZ bH bG=some bK):Lq 53 rd 3728 (Mu us aB aE aZ bH bG) ((Mv us aB aE aZ bH) bK):=
 lL (fun s:Int=>Mu us aB aE aZ bH s) (Mv us aB aE aZ bH) bG (fun bG o h=>by
 unfold Gt at h
 refine iB 22 h (fun h=>?_) fun h=>?_
 obtain⟨h3,h⟩:=cS h
 refine gQ h3.1<|gQ (AD AB.D h3.2) ?_
 obtain⟨x1,h4,h⟩:=xS h
 refine gG 27 (.el (AB.D x1)) (AF AB.D h4) ?_
 obtain⟨h5,h⟩:=cS h
 refine gQ h5.1<|gQ (AD AB.D h5.2) ?_
 obtain⟨x2,h6,h⟩:=xS h
 refine gG 32 (.el (AB.D x2)) (AF AB.D h6) ?_
 obtain⟨r3,h7,h⟩:=bS h
 refine gC 33 (Ci h7) ?_
 refine iB 36 h (fun h=>?_) fun h=>?_
 exact lb h
 exact lb h
 exact lb h) h
def Mx(us:List Value)(s1 s2:Int)(s9 s10 s11:Int)(w0:List AB):St:=⟨sp 141 0 [rx 0,sI 1 s1,sI 2 s2,(3,.clo (.func 32) [] []),sI 9 s9,sI 10 s10,sI 11 s11],[rW 0 45 2 AB.D w0,(997,.vals [.row 0] us)],[]⟩
def My(us:List Value)(s1 s2:Int)(s9 s10:Int)(o:(List AB)):Ex×St:=(.exit 4,⟨sp 141 0 [rx 0,sI 1 s1,sI 2 s2,(3,.clo (.func 32) [] []),sI 9 s9,sI 10 s10],[rW 0 45 2 AB.D o,(997,.vals [.row 0] us)],[]⟩)
theorem RV(rd:Option Nat)(us:List Value)(h:RU aB aE aZ bG bK bH=some bI):Lq 53 rd 477674 (Mx us aB aE aZ bG bK bH) ((My us aB aE aZ bG) bI):=
 lL (fun s:Int×List AB=>Mx us aB aE aZ bG s.1 s.2) (My us aB aE aZ bG) (bK,bH) (fun⟨bK,bH⟩ o h=>by
 unfold Gu at h
 refine iB 69 h (fun h=>?_) fun h=>?_
 obtain⟨h22,h⟩:=cS h
 refine gQ h22.1<|gQ (AD AB.D h22.2) ?_
 obtain⟨x7,h23,h⟩:=xS h
 refine gG 76 (.el (AB.D x7)) (AF AB.D h23) ?_
 obtain⟨h24,h⟩:=cS h
 refine gQ h24.1<|gQ (AD AB.D h24.2) ?_
 obtain⟨x8,h25,h⟩:=xS h
 refine gG 81 (.el (AB.D x8)) (AF AB.D h25) ?_
 obtain⟨r9,h26,h⟩:=bS h
 refine gC 82 (Ci h26) ?_
 refine iB 84 h (fun h=>?_) fun h=>?_
 exact lb h
 obtain⟨h28,h⟩:=cS h
 refine gQ h28.1<|gQ (AD AB.D h28.2) ?_
 obtain⟨x10,h29,h⟩:=xS h
 refine gG 94 (.el (AB.D x10)) (AF AB.D h29)<|gW 10099 (.sl ((bH.set bK.toNat x10).map AB.D)) ?_
 obtain⟨h30,h⟩:=cS h
 refine gQ h30.1<|gQ (AD AB.D h30.2) ?_
 obtain⟨x11,h31,h⟩:=xS h
 refine gG 98 (.el (AB.D x11)) (AF AB.D h31)<|gW 10100 (.sl (((bH.set bK.toNat x10).set (AA .sub .i64 bK 1).toNat x11).map AB.D)) ?_
 obtain⟨h32,h⟩:=cS h
 refine gQ h32.1<|gQ (AD AB.D h32.2) ?_
 obtain⟨h33,h⟩:=cS h
 refine gQ (Ar AB.D h33)<|gQ (AP AB.D bH bK x10) ?_
 obtain⟨h34,h⟩:=cS h
 refine gQ h34.1<|gQ (AD AB.D h34.2) ?_
 obtain⟨h35,h⟩:=cS h
 refine gQ (Ar AB.D h35)<|gQ (AP AB.D (bH.set bK.toNat x10) (AA .sub .i64 bK 1) x11) ?_
 exact lb h
 exact lb h) h
theorem RN(rd:Option Nat)(us:List Value)(h:Mp aB aE aZ bG a9 bH=some bI):Lq 53 rd 59709 ⟨sp 141 0 [rx 0,sI 1 aB,sI 2 aE,(3,.clo (.func 32) [] []),sI 9 aZ,sI 10 bG,sD 65 D.b a9],[rW 0 45 2 AB.D bH,(997,.vals [.row 0] us)],[]⟩ (.normal,⟨sp 141 0 [rx 0,sI 1 aB,sI 2 aE,(3,.clo (.func 32) [] []),sI 9 aZ,sI 10 bG],[rW 0 45 2 AB.D bI,(997,.vals [.row 0] us)],[]⟩):=by unfold Mp at h;apply g0 (o:=bI);cases a9;replace h:=CX h;exact lp h;replace h:=CY h;obtain⟨o12,h36,h⟩:=bS h;refine gl (RV rd us h36) ?_;exact lp h
def M0(us:List Value)(s1 s2:Int)(s9 s10 s12:Int)(w0:List AB):St:=⟨sp 141 0 [rx 0,sI 1 s1,sI 2 s2,(3,.clo (.func 32) [] []),sI 9 s9,sI 10 s10,sI 12 s12],[rW 0 45 2 AB.D w0,(997,.vals [.row 0] us)],[]⟩
def M1(us:List Value)(s1 s2:Int)(s9 s10:Int)(o:(List AB)):Ex×St:=(.exit 6,⟨sp 141 0 [rx 0,sI 1 s1,sI 2 s2,(3,.clo (.func 32) [] []),sI 9 s9,sI 10 s10],[rW 0 45 2 AB.D o,(997,.vals [.row 0] us)],[]⟩)
theorem RX(rd:Option Nat)(us:List Value)(h:RW aB aE aZ bG bK bH=some bI):Lq 53 rd 477690 (M0 us aB aE aZ bG bK bH) ((M1 us aB aE aZ bG) bI):=
 lL (fun s:Int×List AB=>M0 us aB aE aZ bG s.1 s.2) (M1 us aB aE aZ bG) (bK,bH) (fun⟨bK,bH⟩ o h=>by
 unfold Gv at h
 refine iB 109 h (fun h=>?_) fun h=>?_
 obtain⟨h40,h⟩:=cS h
 refine gQ h40.1<|gQ (AD AB.D h40.2) ?_
 obtain⟨x14,h41,h⟩:=xS h
 refine gG 116 (.el (AB.D x14)) (AF AB.D h41) ?_
 obtain⟨h42,h⟩:=cS h
 refine gQ h42.1<|gQ (AD AB.D h42.2) ?_
 obtain⟨x15,h43,h⟩:=xS h
 refine gG 121 (.el (AB.D x15)) (AF AB.D h43) ?_
 obtain⟨r16,h44,h⟩:=bS h
 refine gC 122 (Ci h44) ?_
 refine iB 124 h (fun h=>?_) fun h=>?_
 exact lb h
 obtain⟨h46,h⟩:=cS h
 refine gQ h46.1<|gQ (AD AB.D h46.2) ?_
 obtain⟨x17,h47,h⟩:=xS h
 refine gG 134 (.el (AB.D x17)) (AF AB.D h47)<|gW 10139 (.sl ((bH.set bK.toNat x17).map AB.D)) ?_
 obtain⟨h48,h⟩:=cS h
 refine gQ h48.1<|gQ (AD AB.D h48.2) ?_
 obtain⟨x18,h49,h⟩:=xS h
 refine gG 138 (.el (AB.D x18)) (AF AB.D h49)<|gW 10140 (.sl (((bH.set bK.toNat x17).set (AA .sub .i64 bK 1).toNat x18).map AB.D)) ?_
 obtain⟨h50,h⟩:=cS h
 refine gQ h50.1<|gQ (AD AB.D h50.2) ?_
 obtain⟨h51,h⟩:=cS h
 refine gQ (Ar AB.D h51)<|gQ (AP AB.D bH bK x17) ?_
 obtain⟨h52,h⟩:=cS h
 refine gQ h52.1<|gQ (AD AB.D h52.2) ?_
 obtain⟨h53,h⟩:=cS h
 refine gQ (Ar AB.D h53)<|gQ (AP AB.D (bH.set bK.toNat x17) (AA .sub .i64 bK 1) x18) ?_
 exact lb h
 exact lb h) h
theorem RO(rd:Option Nat)(us:List Value)(h:Mq aB aE aZ bG a9 bH=some bI):Lq 53 rd 59711 ⟨sp 141 0 [rx 0,sI 1 aB,sI 2 aE,(3,.clo (.func 32) [] []),sI 9 aZ,sI 10 bG,sD 104 D.b a9],[rW 0 45 2 AB.D bH,(997,.vals [.row 0] us)],[]⟩ (.normal,⟨sp 141 0 [rx 0,sI 1 aB,sI 2 aE,(3,.clo (.func 32) [] []),sI 9 aZ,sI 10 bG],[rW 0 45 2 AB.D bI,(997,.vals [.row 0] us)],[]⟩):=by unfold Mq at h;apply g0 (o:=bI);cases a9;replace h:=CX h;exact lp h;replace h:=CY h;obtain⟨o19,h54,h⟩:=bS h;refine gl (RX rd us h54) ?_;exact lp h
theorem RL(rd:Option Nat)(us:List Value)(h:Mo aB aE aZ bG bH=some bV):Lq 53 rd 466 ⟨sp 141 0 [rx 0,sI 1 aB,sI 2 aE,(3,.clo (.func 32) [] []),sI 9 aZ,sI 10 bG],[rW 0 45 2 AB.D bH,(997,.vals [.row 0] us)],[]⟩ (match (generalizing:=false) bV with
 | .inl bV=>(.normal,⟨sp 141 0 [rx 0,sI 1 aB,sI 2 aE,(3,.clo (.func 32) [] []),sI 9 bV.1,sI 10 bG],[rW 0 45 2 AB.D bV.2,(997,.vals [.row 0] us)],[]⟩)
 | .inr bV=>(.ret,⟨sp 141 0 [sD 8 D.b bV],[rW 0 45 2 AB.D bH,(997,.vals [.row 0] us)],[]⟩)):=by
 unfold Mo at h
 apply g0 (o:=bV)
 obtain⟨o4,h9,h⟩:=bS h
 refine gl (RT rd us h9) ?_
 refine iB 41 h (fun h=>?_) fun h=>?_
 exact lp h
 refine iB 45 h (fun h=>?_) fun h=>?_
 exact lp h
 obtain⟨h12,h⟩:=cS h
 refine gQ h12.1<|gQ (AD AB.D h12.2) ?_
 obtain⟨x5,h13,h⟩:=xS h
 refine gG 55 (.el (AB.D x5)) (AF AB.D h13)<|gW 10060 (.sl ((bH.set o4.toNat x5).map AB.D)) ?_
 obtain⟨h14,h⟩:=cS h
 refine gQ h14.1<|gQ (AD AB.D h14.2) ?_
 obtain⟨x6,h15,h⟩:=xS h
 refine gG 59 (.el (AB.D x6)) (AF AB.D h15)<|gW 10061 (.sl (((bH.set o4.toNat x5).set (AA .sub .i64 o4 1).toNat x6).map AB.D)) ?_
 obtain⟨h16,h⟩:=cS h
 refine gQ h16.1<|gQ (AD AB.D h16.2) ?_
 obtain⟨h17,h⟩:=cS h
 refine gQ (Ar AB.D h17)<|gQ (AP AB.D bH o4 x5) ?_
 obtain⟨h18,h⟩:=cS h
 refine gQ h18.1<|gQ (AD AB.D h18.2) ?_
 obtain⟨h19,h⟩:=cS h
 refine gQ (Ar AB.D h19)<|gQ (AP AB.D (bH.set o4.toNat x5) (AA .sub .i64 o4 1) x6) ?_
 obtain⟨o13,h37,h⟩:=bS h
 refine gl (RN rd us h37) ?_
 obtain⟨o20,h55,h⟩:=bS h
 refine gl (RO rd us h55) ?_
 exact lp h
def Mr(us:List Value)(s1 s2:Int)(s9 s10:Int)(w0:List AB):St:=⟨sp 141 0 [rx 0,sI 1 s1,sI 2 s2,(3,.clo (.func 32) [] []),sI 9 s9,sI 10 s10],[rW 0 45 2 AB.D w0,(997,.vals [.row 0] us)],[]⟩
def Ms(us:List Value)(s1 s2:Int)(o:(List AB)⊕(Bool×List AB)):Ex×St:=match o with
 | .inl o=>(.exit 0,⟨sp 141 0 [],[rW 0 45 2 AB.D o,(997,.vals [.row 0] us)],[]⟩)
 | .inr o=>(.ret,⟨sp 141 0 [sD 8 D.b o.1],[rW 0 45 2 AB.D o.2,(997,.vals [.row 0] us)],[]⟩)
theorem RQ(rd:Option Nat)(us:List Value)(h:RP aB aE aZ bG bH=some bW):Lq 53 rd 58 (Mr us aB aE aZ bG bH) ((Ms us aB aE) bW):=
 lL (fun s:Int×Int×List AB=>Mr us aB aE s.1 s.2.1 s.2.2) (Ms us aB aE) (aZ,bG,bH) (fun⟨aZ,bG,bH⟩ o h=>by
 unfold Gs at h
 refine iB 16 h (fun h=>?_) fun h=>?_
 obtain⟨o21,h56,h⟩:=bS h
 refine gl (RL rd us h56) ?_
 replace h:=AV h
 rcases h with⟨o22,rfl,h⟩|⟨o23,rfl,h⟩
 exact lb h
 exact lb h
 exact lb h) h
theorem YY(h:X7 aB aE bH=some bX):AO Try.prog 53 [.row 0,dI aB,dI aE,.clo (.func 32) [] []] [rW 0 45 2 AB.D bH] (.d (D.b bX.1)) [rW 0 45 2 AB.D bX.2]:=by
 unfold X7 at h;refine XG.call (ks:=[0]) mixed fun us=>?_;apply g0 (o:=bX);obtain⟨o24,h57,h⟩:=bS h;refine gl (RQ none us h57) ?_;replace h:=AV h;rcases h with⟨o25,rfl,h⟩|⟨o26,rfl,h⟩
 exact lX h (lv [8] [0,997]);exact lX h (lv [8] [0,997])
def NM(us:List Value)(s1 s12:Int)(w0:List AB)(s11:Int):St:=⟨sp 90 0 [rx 0,sI 1 s1,(4,.clo (.func 32) [] []),sI 11 s11,sI 12 s12],[rW 0 45 2 AB.D w0,(997,.vals [.row 0] us)],[]⟩
def NN(us:List Value)(s1 s12:Int)(w0:List AB)(o:Int):Ex×St:=(.exit 2,⟨sp 90 0 [rx 0,sI 1 s1,(4,.clo (.func 32) [] []),sI 11 o,sI 12 s12],[rW 0 45 2 AB.D w0,(997,.vals [.row 0] us)],[]⟩)
theorem Rr(rd:Option Nat)(us:List Value)(h:Rq aB aE bH aZ=some bG):Lq 54 rd 960 (NM us aB aE bH aZ) ((NN us aB aE bH) bG):=
 lL (fun s:Int=>NM us aB aE bH s) (NN us aB aE bH) aZ (fun aZ o h=>by
 unfold G0 at h
 refine iB 34 h (fun h=>?_) fun h=>?_
 obtain⟨h10,h⟩:=cS h
 refine gQ h10.1<|gQ (AD AB.D h10.2) ?_
 obtain⟨x3,h11,h⟩:=xS h
 refine gG 39 (.el (AB.D x3)) (AF AB.D h11) ?_
 obtain⟨h12,h⟩:=cS h
 refine gQ h12.1<|gQ (AD AB.D h12.2) ?_
 obtain⟨x4,h13,h⟩:=xS h
 refine gG 43 (.el (AB.D x4)) (AF AB.D h13) ?_
 obtain⟨r5,h14,h⟩:=bS h
 refine gC 44 (Ci h14) ?_
 refine iB 47 h (fun h=>?_) fun h=>?_
 exact lb h
 exact lb h
 exact lb h) h
def NP(us:List Value)(s1 s11:Int)(w0:List AB)(s12:Int):St:=⟨sp 90 0 [rx 0,sI 1 s1,(4,.clo (.func 32) [] []),sI 11 s11,sI 12 s12],[rW 0 45 2 AB.D w0,(997,.vals [.row 0] us)],[]⟩
def NQ(us:List Value)(s1 s11:Int)(w0:List AB)(o:Int):Ex×St:=(.exit 4,⟨sp 90 0 [rx 0,sI 1 s1,(4,.clo (.func 32) [] []),sI 11 s11,sI 12 o],[rW 0 45 2 AB.D w0,(997,.vals [.row 0] us)],[]⟩)
theorem Rt(rd:Option Nat)(us:List Value)(h:Rs aB aE bH aZ=some bG):Lq 54 rd 1924 (NP us aB aE bH aZ) ((NQ us aB aE bH) bG):=
 lL (fun s:Int=>NP us aB aE bH s) (NQ us aB aE bH) aZ (fun aZ o h=>by
 unfold G1 at h
 refine iB 53 h (fun h=>?_) fun h=>?_
 obtain⟨h18,h⟩:=cS h
 refine gQ h18.1<|gQ (AD AB.D h18.2) ?_
 obtain⟨x7,h19,h⟩:=xS h
 refine gG 58 (.el (AB.D x7)) (AF AB.D h19) ?_
 obtain⟨h20,h⟩:=cS h
 refine gQ h20.1<|gQ (AD AB.D h20.2) ?_
 obtain⟨x8,h21,h⟩:=xS h
 refine gG 62 (.el (AB.D x8)) (AF AB.D h21) ?_
 obtain⟨r9,h22,h⟩:=bS h
 refine gC 63 (Ci h22) ?_
 refine iB 65 h (fun h=>?_) fun h=>?_
 exact lb h
 exact lb h
 exact lb h) h
def NJ(us:List Value)(s1 s11 s12:Int)(w0:List AB):St:=⟨sp 90 0 [rx 0,sI 1 s1,(4,.clo (.func 32) [] []),sI 11 s11,sI 12 s12],[rW 0 45 2 AB.D w0,(997,.vals [.row 0] us)],[]⟩
def NK(us:List Value)(s1:Int)(o:(Int×List AB)):Ex×St:=(.exit 0,⟨sp 90 0 [sI 11 o.1],[rW 0 45 2 AB.D o.2,(997,.vals [.row 0] us)],[]⟩)
theorem Rp(rd:Option Nat)(us:List Value)(h:Ro aB aE aZ bH=some bY):Lq 54 rd 60 (NJ us aB aE aZ bH) ((NK us aB) bY):=
 lL (fun s:Int×Int×List AB=>NJ us aB s.1 s.2.1 s.2.2) (NK us aB) (aE,aZ,bH) (fun⟨aE,aZ,bH⟩ o h=>by
 unfold Gz at h
 obtain⟨o6,h16,h⟩:=bS h
 refine gl (Rr rd us h16) ?_
 obtain⟨o10,h24,h⟩:=bS h
 refine gl (Rt rd us h24) ?_
 refine iB 70 h (fun h=>?_) fun h=>?_
 exact lb h
 obtain⟨h26,h⟩:=cS h
 refine gQ h26.1<|gQ (AD AB.D h26.2) ?_
 obtain⟨x11,h27,h⟩:=xS h
 refine gG 78 (.el (AB.D x11)) (AF AB.D h27)<|gW 10083 (.sl ((bH.set o6.toNat x11).map AB.D)) ?_
 obtain⟨h28,h⟩:=cS h
 refine gQ h28.1<|gQ (AD AB.D h28.2) ?_
 obtain⟨x12,h29,h⟩:=xS h
 refine gG 82 (.el (AB.D x12)) (AF AB.D h29)<|gW 10084 (.sl (((bH.set o6.toNat x11).set o10.toNat x12).map AB.D)) ?_
 obtain⟨h30,h⟩:=cS h
 refine gQ h30.1<|gQ (AD AB.D h30.2) ?_
 obtain⟨h31,h⟩:=cS h
 refine gQ (Ar AB.D h31)<|gQ (AP AB.D bH o6 x11) ?_
 obtain⟨h32,h⟩:=cS h
 refine gQ h32.1<|gQ (AD AB.D h32.2) ?_
 obtain⟨h33,h⟩:=cS h
 refine gQ (Ar AB.D h33)<|gQ (AP AB.D (bH.set o6.toNat x11) o10 x12) ?_
 exact lb h) h
theorem U0(h:Xd aB aE aZ bH=some bZ):AO Try.prog 54 [.row 0,dI aB,dI aE,dI aZ,.clo (.func 32) [] []] [rW 0 45 2 AB.D bH] (dI bZ.1) [rW 0 45 2 AB.D bZ.2]:=by unfold Xd at h;refine XG.call (ks:=[0]) mixed fun us=>?_;apply g0 (o:=bZ);obtain⟨h1,h⟩:=cS h;refine gQ h1.1<|gQ (AD AB.D h1.2) ?_;obtain⟨x1,h2,h⟩:=xS h;refine gG 20 (.el (AB.D x1)) (AF AB.D h2)<|gW 10025 (.sl ((bH.set aB.toNat x1).map AB.D)) ?_;obtain⟨h3,h⟩:=cS h;refine gQ h3.1<|gQ (AD AB.D h3.2) ?_;obtain⟨x2,h4,h⟩:=xS h;refine gG 24 (.el (AB.D x2)) (AF AB.D h4)<|gW 10026 (.sl (((bH.set aB.toNat x1).set aZ.toNat x2).map AB.D)) ?_;obtain⟨h5,h⟩:=cS h;refine gQ h5.1<|gQ (AD AB.D h5.2) ?_;obtain⟨h6,h⟩:=cS h;refine gQ (Ar AB.D h6)<|gQ (AP AB.D bH aB x1) ?_;obtain⟨h7,h⟩:=cS h;refine gQ h7.1<|gQ (AD AB.D h7.2) ?_;obtain⟨h8,h⟩:=cS h;refine gQ (Ar AB.D h8)<|gQ (AP AB.D (bH.set aB.toNat x1) aZ x2) ?_;obtain⟨o13,h34,h⟩:=bS h;refine gl (Rp none us h34) ?_;exact lX h (lv [10] [0,997])
def MZ(us:List Value)(s1 s13:Int)(w0:List AB)(s12:Int):St:=⟨sp 178 0 [rx 0,sI 1 s1,(4,.clo (.func 32) [] []),sI 12 s12,sI 13 s13],[rW 0 45 2 AB.D w0,(997,.vals [.row 0] us)],[]⟩
def Ma(us:List Value)(s1 s13:Int)(w0:List AB)(o:Int):Ex×St:=(.exit 0,⟨sp 178 0 [rx 0,sI 1 s1,(4,.clo (.func 32) [] []),sI 12 o,sI 13 s13],[rW 0 45 2 AB.D w0,(997,.vals [.row 0] us)],[]⟩)
theorem Q9(rd:Option Nat)(us:List Value)(h:Q8 aB aE bH aZ=some bG):Lq 55 rd 60 (MZ us aB aE bH aZ) ((Ma us aB aE bH) bG):=
 lL (fun s:Int=>MZ us aB aE bH s) (Ma us aB aE bH) aZ (fun aZ o h=>by
 unfold Gm at h
 refine iB 35 h (fun h=>?_) fun h=>?_
 obtain⟨h10,h⟩:=cS h
 refine gQ h10.1<|gQ (AD AB.D h10.2) ?_
 obtain⟨x3,h11,h⟩:=xS h
 refine gG 40 (.el (AB.D x3)) (AF AB.D h11) ?_
 obtain⟨h12,h⟩:=cS h
 refine gQ h12.1<|gQ (AD AB.D h12.2) ?_
 obtain⟨x4,h13,h⟩:=xS h
 refine gG 44 (.el (AB.D x4)) (AF AB.D h13) ?_
 obtain⟨r5,h14,h⟩:=bS h
 refine gC 45 (Ci h14) ?_
 refine iB 47 h (fun h=>?_) fun h=>?_
 exact lb h
 exact lb h
 exact lb h) h
def Mc(us:List Value)(s1 s12:Int)(w0:List AB)(s13:Int):St:=⟨sp 178 0 [rx 0,sI 1 s1,(4,.clo (.func 32) [] []),sI 12 s12,sI 13 s13],[rW 0 45 2 AB.D w0,(997,.vals [.row 0] us)],[]⟩
def Md(us:List Value)(s1 s12:Int)(w0:List AB)(o:Int):Ex×St:=(.exit 2,⟨sp 178 0 [rx 0,sI 1 s1,(4,.clo (.func 32) [] []),sI 12 s12,sI 13 o],[rW 0 45 2 AB.D w0,(997,.vals [.row 0] us)],[]⟩)
theorem RE(rd:Option Nat)(us:List Value)(h:RC aB aE bH aZ=some bG):Lq 55 rd 124 (Mc us aB aE bH aZ) ((Md us aB aE bH) bG):=
 lL (fun s:Int=>Mc us aB aE bH s) (Md us aB aE bH) aZ (fun aZ o h=>by
 unfold Gn at h
 refine iB 53 h (fun h=>?_) fun h=>?_
 obtain⟨h18,h⟩:=cS h
 refine gQ h18.1<|gQ (AD AB.D h18.2) ?_
 obtain⟨x7,h19,h⟩:=xS h
 refine gG 58 (.el (AB.D x7)) (AF AB.D h19) ?_
 obtain⟨h20,h⟩:=cS h
 refine gQ h20.1<|gQ (AD AB.D h20.2) ?_
 obtain⟨x8,h21,h⟩:=xS h
 refine gG 62 (.el (AB.D x8)) (AF AB.D h21) ?_
 obtain⟨r9,h22,h⟩:=bS h
 refine gC 63 (Ci h22) ?_
 refine iB 66 h (fun h=>?_) fun h=>?_
 exact lb h
 exact lb h
 exact lb h) h
def Mi(us:List Value)(s1 s13:Int)(w0:List AB)(s12:Int):St:=⟨sp 178 0 [rx 0,sI 1 s1,(4,.clo (.func 32) [] []),sI 12 s12,sI 13 s13],[rW 0 45 2 AB.D w0,(997,.vals [.row 0] us)],[]⟩
def Mj(us:List Value)(s1 s13:Int)(w0:List AB)(o:Int):Ex×St:=(.exit 6,⟨sp 178 0 [rx 0,sI 1 s1,(4,.clo (.func 32) [] []),sI 12 o,sI 13 s13],[rW 0 45 2 AB.D w0,(997,.vals [.row 0] us)],[]⟩)
theorem RI(rd:Option Nat)(us:List Value)(h:RH aB aE bH aZ=some bG):Lq 55 rd 65472 (Mi us aB aE bH aZ) ((Mj us aB aE bH) bG):=
 lL (fun s:Int=>Mi us aB aE bH s) (Mj us aB aE bH) aZ (fun aZ o h=>by
 unfold Gq at h
 refine iB 108 h (fun h=>?_) fun h=>?_
 obtain⟨h43,h⟩:=cS h
 refine gQ h43.1<|gQ (AD AB.D h43.2) ?_
 obtain⟨x15,h44,h⟩:=xS h
 refine gG 113 (.el (AB.D x15)) (AF AB.D h44) ?_
 obtain⟨h45,h⟩:=cS h
 refine gQ h45.1<|gQ (AD AB.D h45.2) ?_
 obtain⟨x16,h46,h⟩:=xS h
 refine gG 117 (.el (AB.D x16)) (AF AB.D h46) ?_
 obtain⟨r17,h47,h⟩:=bS h
 refine gC 118 (Ci h47) ?_
 refine iB 120 h (fun h=>?_) fun h=>?_
 exact lb h
 exact lb h
 exact lb h) h
def Ml(us:List Value)(s1 s12:Int)(w0:List AB)(s13:Int):St:=⟨sp 178 0 [rx 0,sI 1 s1,(4,.clo (.func 32) [] []),sI 12 s12,sI 13 s13],[rW 0 45 2 AB.D w0,(997,.vals [.row 0] us)],[]⟩
def Mm(us:List Value)(s1 s12:Int)(w0:List AB)(o:Int):Ex×St:=(.exit 8,⟨sp 178 0 [rx 0,sI 1 s1,(4,.clo (.func 32) [] []),sI 12 s12,sI 13 o],[rW 0 45 2 AB.D w0,(997,.vals [.row 0] us)],[]⟩)
theorem RK(rd:Option Nat)(us:List Value)(h:RJ aB aE bH aZ=some bG):Lq 55 rd 130948 (Ml us aB aE bH aZ) ((Mm us aB aE bH) bG):=
 lL (fun s:Int=>Ml us aB aE bH s) (Mm us aB aE bH) aZ (fun aZ o h=>by
 unfold Gr at h
 refine iB 126 h (fun h=>?_) fun h=>?_
 obtain⟨h51,h⟩:=cS h
 refine gQ h51.1<|gQ (AD AB.D h51.2) ?_
 obtain⟨x19,h52,h⟩:=xS h
 refine gG 131 (.el (AB.D x19)) (AF AB.D h52) ?_
 obtain⟨h53,h⟩:=cS h
 refine gQ h53.1<|gQ (AD AB.D h53.2) ?_
 obtain⟨x20,h54,h⟩:=xS h
 refine gG 135 (.el (AB.D x20)) (AF AB.D h54) ?_
 obtain⟨r21,h55,h⟩:=bS h
 refine gC 136 (Ci h55) ?_
 refine iB 139 h (fun h=>?_) fun h=>?_
 exact lb h
 exact lb h
 exact lb h) h
def Mf(us:List Value)(s1 s12 s13:Int)(w0:List AB):St:=⟨sp 178 0 [rx 0,sI 1 s1,(4,.clo (.func 32) [] []),sI 12 s12,sI 13 s13],[rW 0 45 2 AB.D w0,(997,.vals [.row 0] us)],[]⟩
def Mg(us:List Value)(s1:Int)(o:(Int×List AB)):Ex×St:=(.exit 4,⟨sp 178 0 [rx 0,sI 1 s1,sI 13 o.1],[rW 0 45 2 AB.D o.2,(997,.vals [.row 0] us)],[]⟩)
theorem RG(rd:Option Nat)(us:List Value)(h:RF aB aE aZ bH=some bY):Lq 55 rd 4092 (Mf us aB aE aZ bH) ((Mg us aB) bY):=
 lL (fun s:Int×Int×List AB=>Mf us aB s.1 s.2.1 s.2.2) (Mg us aB) (aE,aZ,bH) (fun⟨aE,aZ,bH⟩ o h=>by
 unfold Gp at h
 obtain⟨o18,h49,h⟩:=bS h
 refine gl (RI rd us h49) ?_
 obtain⟨o22,h57,h⟩:=bS h
 refine gl (RK rd us h57) ?_
 refine iB 144 h (fun h=>?_) fun h=>?_
 exact lb h
 obtain⟨h59,h⟩:=cS h
 refine gQ h59.1<|gQ (AD AB.D h59.2) ?_
 obtain⟨x23,h60,h⟩:=xS h
 refine gG 152 (.el (AB.D x23)) (AF AB.D h60)<|gW 10157 (.sl ((bH.set o18.toNat x23).map AB.D)) ?_
 obtain⟨h61,h⟩:=cS h
 refine gQ h61.1<|gQ (AD AB.D h61.2) ?_
 obtain⟨x24,h62,h⟩:=xS h
 refine gG 156 (.el (AB.D x24)) (AF AB.D h62)<|gW 10158 (.sl (((bH.set o18.toNat x23).set o22.toNat x24).map AB.D)) ?_
 obtain⟨h63,h⟩:=cS h
 refine gQ h63.1<|gQ (AD AB.D h63.2) ?_
 obtain⟨h64,h⟩:=cS h
 refine gQ (Ar AB.D h64)<|gQ (AP AB.D bH o18 x23) ?_
 obtain⟨h65,h⟩:=cS h
 refine gQ h65.1<|gQ (AD AB.D h65.2) ?_
 obtain⟨h66,h⟩:=cS h
 refine gQ (Ar AB.D h66)<|gQ (AP AB.D (bH.set o18.toNat x23) o22 x24) ?_
 exact lb h) h
theorem LG(h:X6 aB aE aZ bH=some c9):AO Try.prog 55 [.row 0,dI aB,dI aE,dI aZ,.clo (.func 32) [] []] [rW 0 45 2 AB.D bH] (.tup [dI c9.1,.d (D.b c9.2.1)]) [rW 0 45 2 AB.D c9.2.2]:=by unfold X6 at h;refine XG.call (ks:=[0]) mixed fun us=>?_;apply g0 (o:=c9);obtain⟨h1,h⟩:=cS h;refine gQ h1.1<|gQ (AD AB.D h1.2) ?_;obtain⟨x1,h2,h⟩:=xS h;refine gG 21 (.el (AB.D x1)) (AF AB.D h2)<|gW 10026 (.sl ((bH.set aB.toNat x1).map AB.D)) ?_;obtain⟨h3,h⟩:=cS h;refine gQ h3.1<|gQ (AD AB.D h3.2) ?_;obtain⟨x2,h4,h⟩:=xS h;refine gG 25 (.el (AB.D x2)) (AF AB.D h4)<|gW 10027 (.sl (((bH.set aB.toNat x1).set aZ.toNat x2).map AB.D)) ?_;obtain⟨h5,h⟩:=cS h;refine gQ h5.1<|gQ (AD AB.D h5.2) ?_;obtain⟨h6,h⟩:=cS h;refine gQ (Ar AB.D h6)<|gQ (AP AB.D bH aB x1) ?_;obtain⟨h7,h⟩:=cS h;refine gQ h7.1<|gQ (AD AB.D h7.2) ?_;obtain⟨h8,h⟩:=cS h;refine gQ (Ar AB.D h8)<|gQ (AP AB.D (bH.set aB.toNat x1) aZ x2) ?_;obtain⟨o6,h16,h⟩:=bS h;refine gl (Q9 none us h16) ?_;obtain⟨o10,h24,h⟩:=bS h;refine gl (RE none us h24) ?_;refine iB 71 h (fun h=>?_) fun h=>?_;obtain⟨h26,h⟩:=cS h;refine gQ h26.1<|gQ (AD AB.D h26.2) ?_;obtain⟨x11,h27,h⟩:=xS h;refine gG 79 (.el (AB.D x11)) (AF AB.D h27)<|gW 10084 (.sl ((((bH.set aB.toNat x1).set aZ.toNat x2).set o10.toNat x11).map AB.D)) ?_;obtain⟨h28,h⟩:=cS h;refine gQ h28.1<|gQ (AD AB.D h28.2) ?_;obtain⟨x12,h29,h⟩:=xS h;refine gG 83 (.el (AB.D x12)) (AF AB.D h29)<|gW 10085 (.sl (((((bH.set aB.toNat x1).set aZ.toNat x2).set o10.toNat x11).set aB.toNat x12).map AB.D)) ?_;obtain⟨h30,h⟩:=cS h;refine gQ h30.1<|gQ (AD AB.D h30.2) ?_;obtain⟨h31,h⟩:=cS h;refine gQ (Ar AB.D h31)<|gQ (AP AB.D ((bH.set aB.toNat x1).set aZ.toNat x2) o10 x11) ?_;obtain⟨h32,h⟩:=cS h;refine gQ h32.1<|gQ (AD AB.D h32.2) ?_;obtain⟨h33,h⟩:=cS h;refine gQ (Ar AB.D h33)<|gQ (AP AB.D (((bH.set aB.toNat x1).set aZ.toNat x2).set o10.toNat x11) aB x12) ?_;exact lX h (lv [10,11] [0,997]);obtain⟨h34,h⟩:=cS h;refine gQ h34.1<|gQ (AD AB.D h34.2) ?_;obtain⟨x13,h35,h⟩:=xS h;refine gG 94 (.el (AB.D x13)) (AF AB.D h35)<|gW 10099 (.sl ((((bH.set aB.toNat x1).set aZ.toNat x2).set o6.toNat x13).map AB.D)) ?_;obtain⟨h36,h⟩:=cS h;refine gQ h36.1<|gQ (AD AB.D h36.2) ?_;obtain⟨x14,h37,h⟩:=xS h;refine gG 98 (.el (AB.D x14)) (AF AB.D h37)<|gW 10100 (.sl (((((bH.set aB.toNat x1).set aZ.toNat x2).set o6.toNat x13).set o10.toNat x14).map AB.D)) ?_;obtain⟨h38,h⟩:=cS h;refine gQ h38.1<|gQ (AD AB.D h38.2) ?_;obtain⟨h39,h⟩:=cS h;refine gQ (Ar AB.D h39)<|gQ (AP AB.D ((bH.set aB.toNat x1).set aZ.toNat x2) o6 x13) ?_;obtain⟨h40,h⟩:=cS h;refine gQ h40.1<|gQ (AD AB.D h40.2) ?_;obtain⟨h41,h⟩:=cS h;refine gQ (Ar AB.D h41)<|gQ (AP AB.D (((bH.set aB.toNat x1).set aZ.toNat x2).set o6.toNat x13) o10 x14) ?_;obtain⟨o25,h67,h⟩:=bS h;refine gl (RG none us h67) ?_;obtain⟨h68,h⟩:=cS h;refine gQ h68.1<|gQ (AD AB.D h68.2) ?_;obtain⟨x26,h69,h⟩:=xS h;refine gG 170 (.el (AB.D x26)) (AF AB.D h69)<|gW 10175 (.sl ((o25.2.set o25.1.toNat x26).map AB.D)) ?_;obtain⟨h70,h⟩:=cS h;refine gQ h70.1<|gQ (AD AB.D h70.2) ?_;obtain⟨x27,h71,h⟩:=xS h;refine gG 174 (.el (AB.D x27)) (AF AB.D h71)<|gW 10176 (.sl (((o25.2.set o25.1.toNat x26).set aB.toNat x27).map AB.D)) ?_;obtain⟨h72,h⟩:=cS h;refine gQ h72.1<|gQ (AD AB.D h72.2) ?_;obtain⟨h73,h⟩:=cS h;refine gQ (Ar AB.D h73)<|gQ (AP AB.D o25.2 o25.1 x26) ?_;obtain⟨h74,h⟩:=cS h;refine gQ h74.1<|gQ (AD AB.D h74.2) ?_;obtain⟨h75,h⟩:=cS h;refine gQ (Ar AB.D h75)<|gQ (AP AB.D (o25.2.set o25.1.toNat x26) aB x27) ?_;exact lX h (lv [10,11] [0,997])
theorem Rg(rd:Option Nat)(self:Int->Int->Int->(List AB)->Option (List AB))(hs:∀(a1 a2 a3:Int) (w0 r:List AB),self a1 a2 a3 w0=some r->AO Try.prog 41 [.row 0,dI a1,dI a2,dI a3,.clo (.func 32) [] []] [rW 0 45 2 AB.D w0] (.tup []) [rW 0 45 2 AB.D r])(us:List Value){s1 s2 s3:Int}{s10 s11:Bool}{s12:Int}{s39:Bool}{w0:List AB}{o:(Int×List AB)}(h:M7 self s1 s2 s3 s10 s11 s12 s39 w0=some o):Lq 41 rd 1821 ⟨sp 148 0 [rx 0,sI 1 s1,sI 2 s2,sI 3 s3,(4,.clo (.func 32) [] []),sD 10 D.b s10,sD 11 D.b s11,sI 12 s12,sD 39 D.b s39],[rW 0 45 2 AB.D w0,(997,.vals [.row 0] us)],[]⟩ (.normal,⟨sp 148 0 [rx 0,sI 1 s1,sI 2 s2,sI 3 o.1,(4,.clo (.func 32) [] []),sD 10 D.b s10,sD 11 D.b s11,sI 12 s12],[rW 0 45 2 AB.D o.2,(997,.vals [.row 0] us)],[]⟩):=by unfold M7 at h;apply g0 (o:=o);cases s39;replace h:=CX h;exact lp h;replace h:=CY h;obtain⟨r3,h6,h⟩:=bS h;refine gG 44 (.cx false [(0,0)] [] (.tup []) [rW 0 45 2 AB.D r3]) (ZG h6) ?_;exact lp h
theorem Rh(rd:Option Nat)(self:Int->Int->Int->(List AB)->Option (List AB))(hs:∀(a1 a2 a3:Int) (w0 r:List AB),self a1 a2 a3 w0=some r->AO Try.prog 41 [.row 0,dI a1,dI a2,dI a3,.clo (.func 32) [] []] [rW 0 45 2 AB.D w0] (.tup []) [rW 0 45 2 AB.D r])(us:List Value){s1 s2 s3:Int}{s10 s11:Bool}{s12 s13 s14:Int}{s56:Bool}{w0:List AB}{o:(Int×Int×List AB)}(h:M8 self s1 s2 s3 s10 s11 s12 s13 s14 s56 w0=some o):Lq 41 rd 7293 ⟨sp 148 0 [rx 0,sI 1 s1,sI 2 s2,sI 3 s3,(4,.clo (.func 32) [] []),sD 10 D.b s10,sD 11 D.b s11,sI 12 s12,sI 13 s13,sI 14 s14,sD 56 D.b s56],[rW 0 45 2 AB.D w0,(997,.vals [.row 0] us)],[]⟩ (.normal,⟨sp 148 0 [rx 0,sI 1 s1,sI 2 s2,sI 3 s3,(4,.clo (.func 32) [] []),sD 10 D.b s10,sD 11 D.b s11,sI 12 s12,sI 13 o.1,sI 14 o.2.1],[rW 0 45 2 AB.D o.2.2,(997,.vals [.row 0] us)],[]⟩):=by unfold M8 at h;apply g0 (o:=o);cases s56;replace h:=CX h;exact lp h;replace h:=CY h;obtain⟨r6,h10,h⟩:=bS h;refine gG 61 (.cx false [(0,0)] [] (.tup []) [rW 0 45 2 AB.D r6]) (ZT h10) ?_;exact lp h
theorem Gx(rd:Option Nat)(self:Int->Int->Int->(List AB)->Option (List AB))(hs:∀(a1 a2 a3:Int) (w0 r:List AB),self a1 a2 a3 w0=some r->AO Try.prog 41 [.row 0,dI a1,dI a2,dI a3,.clo (.func 32) [] []] [rW 0 45 2 AB.D w0] (.tup []) [rW 0 45 2 AB.D r])(us:List Value){s1 s2 s3:Int}{s10 s11:Bool}{s12 s13:Int}{s75:Bool}{w0:List AB}{o:(List AB)⊕(List AB)}(h:I3 self s1 s2 s3 s10 s11 s12 s13 s75 w0=some o):Lq 41 rd 14589 ⟨sp 148 0 [rx 0,sI 1 s1,sI 2 s2,sI 3 s3,(4,.clo (.func 32) [] []),sD 10 D.b s10,sD 11 D.b s11,sI 12 s12,sI 13 s13,sD 75 D.b s75],[rW 0 45 2 AB.D w0,(997,.vals [.row 0] us)],[]⟩ (match (generalizing:=false) o with
 | .inl o=>(.normal,⟨sp 148 0 [rx 0,sI 1 s1,sI 2 s2,sI 3 s3,(4,.clo (.func 32) [] []),sD 10 D.b s10,sD 11 D.b s11,sI 12 s12,sI 13 s13],[rW 0 45 2 AB.D o,(997,.vals [.row 0] us)],[]⟩)
 | .inr o=>(.ret,⟨sp 148 0 [],[rW 0 45 2 AB.D o,(997,.vals [.row 0] us)],[]⟩)):=by
 unfold I3 at h
 apply g0 (o:=o)
 cases s75
 replace h:=CX h
 exact lp h
 replace h:=CY h
 obtain⟨r8,h15,h⟩:=bS h
 refine gQ (YY h15) ?_
 rcases r8 with⟨r8_1,r8_2⟩
 cases r8_1
 replace h:=CX h
 refine gW 80 (.cx false [(0,0)] [] (.d (D.b false)) [rW 0 45 2 AB.D r8_2]) ?_
 exact lp h
 replace h:=CY h
 refine gW 80 (.cx false [(0,0)] [] (.d (D.b true)) [rW 0 45 2 AB.D r8_2]) ?_
 exact lp h
theorem Cw(rd:Option Nat)(self:Int->Int->Int->(List AB)->Option (List AB))(hs:∀(a1 a2 a3:Int) (w0 r:List AB),self a1 a2 a3 w0=some r->AO Try.prog 41 [.row 0,dI a1,dI a2,dI a3,.clo (.func 32) [] []] [rW 0 45 2 AB.D w0] (.tup []) [rW 0 45 2 AB.D r])(us:List Value){s1 s2 s3:Int}{s11:Bool}{s16 s18:Int}{s19 s20:Int}{s125:Bool}{w0:List AB}{o:(Int×Int×Bool×List AB)}(h:F1 self s1 s2 s3 s11 s16 s18 s19 s20 s125 w0=some o):Lq 41 rd 466943 ⟨sp 148 0 [rx 0,sI 1 s1,sI 2 s2,sI 3 s3,(4,.clo (.func 32) [] []),sD 11 D.b s11,sI 16 s16,sI 18 s18,sI 19 s19,sI 20 s20,sD 125 D.b s125],[rW 0 45 2 AB.D w0,(997,.vals [.row 0] us)],[]⟩ (.normal,⟨sp 148 0 [rx 0,sI 1 o.1,sI 2 o.2.1,sI 3 s3,(4,.clo (.func 32) [] []),sD 10 D.b o.2.2.1,sD 11 D.b s11],[rW 0 45 2 AB.D o.2.2.2,(997,.vals [.row 0] us)],[]⟩):=by unfold F1 at h;apply g0 (o:=o);cases s125;replace h:=CX h;obtain⟨r18,h29,h⟩:=bS h;refine gG 146 (.cx false [(0,0)] [] (.tup []) [rW 0 45 2 AB.D r18]) (hs (AA .add .i64 s16 1) s2 s3 w0 r18 h29) ?_;exact lp h;replace h:=CY h;obtain⟨r17,h28,h⟩:=bS h;refine gG 134 (.cx false [(0,0)] [] (.tup []) [rW 0 45 2 AB.D r17]) (hs s1 s16 s3 w0 r17 h28) ?_;exact lp h
theorem Rf(rd:Option Nat)(self:Int->Int->Int->(List AB)->Option (List AB))(hs:∀(a1 a2 a3:Int) (w0 r:List AB),self a1 a2 a3 w0=some r->AO Try.prog 41 [.row 0,dI a1,dI a2,dI a3,.clo (.func 32) [] []] [rW 0 45 2 AB.D w0] (.tup []) [rW 0 45 2 AB.D r])(us:List Value){s1 s2 s3:Int}{s10 s11:Bool}{w0:List AB}{o:(Int×Int×Int×Bool×Bool×List AB)⊕(List AB)}(h:M6 self s1 s2 s3 s10 s11 w0=some o):Lq 41 rd 28 ⟨sp 148 0 [rx 0,sI 1 s1,sI 2 s2,sI 3 s3,(4,.clo (.func 32) [] []),sD 10 D.b s10,sD 11 D.b s11],[rW 0 45 2 AB.D w0,(997,.vals [.row 0] us)],[]⟩ (match (generalizing:=false) o with
 | .inl o=>(.normal,⟨sp 148 0 [rx 0,sI 1 o.1,sI 2 o.2.1,sI 3 o.2.2.1,(4,.clo (.func 32) [] []),sD 10 D.b o.2.2.2.1,sD 11 D.b o.2.2.2.2.1],[rW 0 45 2 AB.D o.2.2.2.2.2,(997,.vals [.row 0] us)],[]⟩)
 | .inr o=>(.ret,⟨sp 148 0 [],[rW 0 45 2 AB.D o,(997,.vals [.row 0] us)],[]⟩)):=by
 unfold M6 at h
 apply g0 (o:=o)
 refine iB 25 h (fun h=>?_) fun h=>?_
 obtain⟨r1,h2,h⟩:=bS h
 refine gG 30 (.cx false [(0,0)] [] (.tup []) [rW 0 45 2 AB.D r1]) (ZH h2) ?_
 exact lp h
 refine iB 32 h (fun h=>?_) fun h=>?_
 obtain⟨r2,h4,h⟩:=bS h
 refine gG 37 (.cx false [(0,0)] [] (.tup []) [rW 0 45 2 AB.D r2]) (ZI h4) ?_
 exact lp h
 obtain⟨o4,h7,h⟩:=bS h
 refine gl (Rg rd self hs us h7) ?_
 obtain⟨r5,h8,h⟩:=bS h
 refine gG 52 (.lend [0] (.tup [dI r5.1,dI r5.2])) (ZX h8) ?_
 obtain⟨o7,h11,h⟩:=bS h
 refine gl (Rh rd self hs us h11) ?_
 refine iB 69 h (fun h=>?_) fun h=>?_
 refine iB 72 h (fun h=>?_) fun h=>?_
 obtain⟨o9,h17,h⟩:=bS h
 refine gl (Gx rd self hs us h17) ?_
 replace h:=AV h
 rcases h with⟨o10,rfl,h⟩|⟨o11,rfl,h⟩
 refine iB 83 h (fun h=>?_) fun h=>?_
 obtain⟨h19,h⟩:=cS h
 refine gQ h19.1<|gQ (AD AB.D h19.2) ?_
 obtain⟨x12,h20,h⟩:=xS h
 refine gG 89 (.el (AB.D x12)) (AF AB.D h20) ?_
 obtain⟨h21,h⟩:=cS h
 refine gQ h21.1<|gQ (AD AB.D h21.2) ?_
 obtain⟨x13,h22,h⟩:=xS h
 refine gG 93 (.el (AB.D x13)) (AF AB.D h22) ?_
 obtain⟨r14,h23,h⟩:=bS h
 refine gC 94 (Ci h23) ?_
 refine iB 97 h (fun h=>?_) fun h=>?_
 obtain⟨r15,h25,h⟩:=bS h
 refine gG 103 (.cx false [(0,0)] [] (dI r15.1) [rW 0 45 2 AB.D r15.2]) (U0 h25) ?_
 exact lp h
 obtain⟨r16,h26,h⟩:=bS h
 refine gG 111 (.cx false [(0,0)] [] (.tup [dI r16.1,.d (D.b r16.2.1)]) [rW 0 45 2 AB.D r16.2.2]) (LG h26)<|gQ (of_decide_eq_true rfl:(8:Int)≠0) ?_
 obtain⟨o19,h30,h⟩:=bS h
 refine gl (Cw rd self hs us h30) ?_
 exact lp h
 obtain⟨r20,h31,h⟩:=bS h
 refine gG 111 (.cx false [(0,0)] [] (.tup [dI r20.1,.d (D.b r20.2.1)]) [rW 0 45 2 AB.D r20.2.2]) (LG h31)<|gQ (of_decide_eq_true rfl:(8:Int)≠0) ?_
 obtain⟨o21,h32,h⟩:=bS h
 refine gl (Cw rd self hs us h32) ?_
 exact lp h
 exact lp h
 obtain⟨o22,h33,h⟩:=bS h
 refine gl (Gx rd self hs us h33) ?_
 replace h:=AV h
 rcases h with⟨o23,rfl,h⟩|⟨o24,rfl,h⟩
 refine iB 83 h (fun h=>?_) fun h=>?_
 obtain⟨h35,h⟩:=cS h
 refine gQ h35.1<|gQ (AD AB.D h35.2) ?_
 obtain⟨x25,h36,h⟩:=xS h
 refine gG 89 (.el (AB.D x25)) (AF AB.D h36) ?_
 obtain⟨h37,h⟩:=cS h
 refine gQ h37.1<|gQ (AD AB.D h37.2) ?_
 obtain⟨x26,h38,h⟩:=xS h
 refine gG 93 (.el (AB.D x26)) (AF AB.D h38) ?_
 obtain⟨r27,h39,h⟩:=bS h
 refine gC 94 (Ci h39) ?_
 refine iB 97 h (fun h=>?_) fun h=>?_
 obtain⟨r28,h41,h⟩:=bS h
 refine gG 103 (.cx false [(0,0)] [] (dI r28.1) [rW 0 45 2 AB.D r28.2]) (U0 h41) ?_
 exact lp h
 obtain⟨r29,h42,h⟩:=bS h
 refine gG 111 (.cx false [(0,0)] [] (.tup [dI r29.1,.d (D.b r29.2.1)]) [rW 0 45 2 AB.D r29.2.2]) (LG h42)<|gQ (of_decide_eq_true rfl:(8:Int)≠0) ?_
 obtain⟨o30,h43,h⟩:=bS h
 refine gl (Cw rd self hs us h43) ?_
 exact lp h
 obtain⟨r31,h44,h⟩:=bS h
 refine gG 111 (.cx false [(0,0)] [] (.tup [dI r31.1,.d (D.b r31.2.1)]) [rW 0 45 2 AB.D r31.2.2]) (LG h44)<|gQ (of_decide_eq_true rfl:(8:Int)≠0) ?_
 obtain⟨o32,h45,h⟩:=bS h
 refine gl (Cw rd self hs us h45) ?_
 exact lp h
 exact lp h
 obtain⟨o33,h46,h⟩:=bS h
 refine gl (Gx rd self hs us h46) ?_
 replace h:=AV h
 rcases h with⟨o34,rfl,h⟩|⟨o35,rfl,h⟩
 refine iB 83 h (fun h=>?_) fun h=>?_
 obtain⟨h48,h⟩:=cS h
 refine gQ h48.1<|gQ (AD AB.D h48.2) ?_
 obtain⟨x36,h49,h⟩:=xS h
 refine gG 89 (.el (AB.D x36)) (AF AB.D h49) ?_
 obtain⟨h50,h⟩:=cS h
 refine gQ h50.1<|gQ (AD AB.D h50.2) ?_
 obtain⟨x37,h51,h⟩:=xS h
 refine gG 93 (.el (AB.D x37)) (AF AB.D h51) ?_
 obtain⟨r38,h52,h⟩:=bS h
 refine gC 94 (Ci h52) ?_
 refine iB 97 h (fun h=>?_) fun h=>?_
 obtain⟨r39,h54,h⟩:=bS h
 refine gG 103 (.cx false [(0,0)] [] (dI r39.1) [rW 0 45 2 AB.D r39.2]) (U0 h54) ?_
 exact lp h
 obtain⟨r40,h55,h⟩:=bS h
 refine gG 111 (.cx false [(0,0)] [] (.tup [dI r40.1,.d (D.b r40.2.1)]) [rW 0 45 2 AB.D r40.2.2]) (LG h55)<|gQ (of_decide_eq_true rfl:(8:Int)≠0) ?_
 obtain⟨o41,h56,h⟩:=bS h
 refine gl (Cw rd self hs us h56) ?_
 exact lp h
 obtain⟨r42,h57,h⟩:=bS h
 refine gG 111 (.cx false [(0,0)] [] (.tup [dI r42.1,.d (D.b r42.2.1)]) [rW 0 45 2 AB.D r42.2.2]) (LG h57)<|gQ (of_decide_eq_true rfl:(8:Int)≠0) ?_
 obtain⟨o43,h58,h⟩:=bS h
 refine gl (Cw rd self hs us h58) ?_
 exact lp h
 exact lp h
def M9(us:List Value)(s1 s2 s3:Int)(s10 s11:Bool)(w0:List AB):St:=⟨sp 148 0 [rx 0,sI 1 s1,sI 2 s2,sI 3 s3,(4,.clo (.func 32) [] []),sD 10 D.b s10,sD 11 D.b s11],[rW 0 45 2 AB.D w0,(997,.vals [.row 0] us)],[]⟩
def NA(us:List Value)(o:(List AB)):Ex×St:=(.ret,⟨sp 148 0 [],[rW 0 45 2 AB.D o,(997,.vals [.row 0] us)],[]⟩)
theorem Rj(rd:Option Nat)(self:Int->Int->Int->(List AB)->Option (List AB))(hs:∀(a1 a2 a3:Int) (w0 r:List AB),self a1 a2 a3 w0=some r->AO Try.prog 41 [.row 0,dI a1,dI a2,dI a3,.clo (.func 32) [] []] [rW 0 45 2 AB.D w0] (.tup []) [rW 0 45 2 AB.D r])(us:List Value){s1 s2 s3:Int}{s10 s11:Bool}{w0:List AB}{t:(List AB)}(h:Ri self s1 s2 s3 s10 s11 w0=some t):Lq 41 rd 14 (M9 us s1 s2 s3 s10 s11 w0) ((NA us) t):=
 lL (fun s:Int×Int×Int×Bool×Bool×List AB=>M9 us s.1 s.2.1 s.2.2.1 s.2.2.2.1 s.2.2.2.2.1 s.2.2.2.2.2) (NA us) (s1,s2,s3,s10,s11,w0) (fun⟨s1,s2,s3,s10,s11,w0⟩ o h=>by
 unfold Gy at h
 obtain⟨o44,h59,h⟩:=bS h
 refine gl (Rf rd self hs us h59) ?_
 replace h:=AV h
 rcases h with⟨o45,rfl,h⟩|⟨o46,rfl,h⟩
 exact lb h
 exact lb h) h
theorem Up(self:Int->Int->Int->(List AB)->Option (List AB))(hs:∀(a1 a2 a3:Int) (w0 r:List AB),self a1 a2 a3 w0=some r->AO Try.prog 41 [.row 0,dI a1,dI a2,dI a3,.clo (.func 32) [] []] [rW 0 45 2 AB.D w0] (.tup []) [rW 0 45 2 AB.D r])(a1 a2 a3:Int)(w0 r:List AB)(h:Wj self a1 a2 a3 w0=some r):AO Try.prog 41 [.row 0,dI a1,dI a2,dI a3,.clo (.func 32) [] []] [rW 0 45 2 AB.D w0] (.tup []) [rW 0 45 2 AB.D r]:=by unfold Wj at h;refine XG.call (ks:=[0]) mixed fun us=>?_;apply g0 (o:=r);obtain⟨o47,h60,h⟩:=bS h;refine gl (Rj none self hs us h60) ?_;exact lX h (lv [] [0,997])
theorem NC:∀(n:Nat) (a1 a2 a3:Int) (w0 r:List AB),Wm n a1 a2 a3 w0=some r->AO Try.prog 41 [.row 0,dI a1,dI a2,dI a3,.clo (.func 32) [] []] [rW 0 45 2 AB.D w0] (.tup []) [rW 0 45 2 AB.D r]
 |0,a1,a2,a3,w0,r,h=>by simp[Wm]at h
 |n+1,a1,a2,a3,w0,r,h=>Up _ (NC n) a1 a2 a3 w0 r h
theorem ZA(h:X9 aB aE aZ bH=some bJ):AO Try.prog 41 [.row 0,dI aB,dI aE,dI aZ,.clo (.func 32) [] []] [rW 0 45 2 AB.D bH] (.tup []) [rW 0 45 2 AB.D bJ]:=NC 100000 aB aE aZ bH bJ h
theorem Zv(h:Yv bH=some bJ):AO Try.prog 31 [.row 0,.clo (.func 32) [] []] [rW 0 45 2 AB.D bH] (.tup []) [rW 0 45 2 AB.D bJ]:=by unfold Yv at h;refine XG.call (ks:=[0]) mixed fun us=>?_;apply g0 (o:=bJ);refine gN 6 AB.D bH ?_;obtain⟨r1,h1,h⟩:=bS h;refine gC 11 (Vb h1) ?_;obtain⟨r2,h2,h⟩:=bS h;refine gG 13 (.cx false [(0,0)] [] (.tup []) [rW 0 45 2 AB.D r2]) (ZA h2) ?_;exact lX h (lv [] [0,997])
theorem aAp(h:Zi bH=some bJ):AO Try.prog 31 [.row 0,.clo (.func 32) [] []] [(0,.bag 45 2 (bH.map AB.D))] (.tup []) [rW 0 45 2 AB.D bJ]:=
 AO.bagE (R:=fun _=>.tup []) (X':=fun bJ=> [rW 0 45 2 AB.D bJ]) (fun _ _ h=>Zv h) bJ h
def D8(clk:Nat)(es:List (Nat×Int×AB))(us:List Value)(w0_1 w0_2:Int)(w501:MP Int AB)(w502:MP (List UInt8) Int)(w3:List AB)(sn:List Nat):St:=⟨sp 28 0 [rx 3,bx 12],[(0,.cells ([.row 501,.row 502,dI w0_1,dI w0_2])),rW 3 45 2 AB.D w3,(12,.mit 501 clk sn),(501,.map clk (dl dZ AB.D es)),(502,.map w502.clk (MP.dl D.s dZ w502)),(997,.vals [.box 0 0] us)],[]⟩
def D9(clk:Nat)(es:List (Nat×Int×AB))(us:List Value)(w0_1 w0_2:Int)(w501:MP Int AB)(w502:MP (List UInt8) Int)(o:List AB):Ex×St:=(.exit 0,⟨sp 28 0 [rx 3],[(0,.cells ([.row 501,.row 502,dI w0_1,dI w0_2])),(3,.bag 45 2 (o.map AB.D)),(501,.map clk (dl dZ AB.D es)),(502,.map w502.clk (MP.dl D.s dZ w502)),(997,.vals [.box 0 0] us)],[]⟩)
def VC(clk:Nat)(es:List (Nat×Int×AB))(us:List Value)(w0_1 w0_2:Int)(w501:MP Int AB)(w502:MP (List UInt8) Int)(w3:List AB):St:=⟨sp 28 0 [rx 3],[(0,.cells ([.row 501,.row 502,dI w0_1,dI w0_2])),rW 3 45 2 AB.D w3,(501,.map clk (dl dZ AB.D es)),(502,.map w502.clk (MP.dl D.s dZ w502)),(997,.vals [.box 0 0] us)],[]⟩
set_option maxRecDepth 100000 in
theorem OA(rd:Option Nat)(us:List Value)(clk:Nat)(es:List (Nat×Int×AB))(w0_1 w0_2:Int)(w501:MP Int AB)(w502:MP (List UInt8) Int)(k:Int)(v:AB)(w3:List AB)(sn:List Nat)(st:Nat)(hm:(st,k,v)∈es)(o:List AB)(h:E4 w0_1 w0_2 w501 w502 k v w3=some o):L3 Try.prog rd (Cb Try.prog 13) [0,1,0,1,1,1] ((⟨(D8 clk es us w0_1 w0_2 w501 w502 w3 sn).E,BA (D8 clk es us w0_1 w0_2 w501 w502 w3 sn).B 12 (.mit 501 clk (sn++[st])),[]⟩:St).put (some 13) (.tup [bo true,.d (dZ k),.d (AB.D v)])) fun zx zs=>zx=.normal/\Wk zs ((fun s:List AB=>D8 clk es us w0_1 w0_2 w501 w502 s (sn++[st])) o):=by unfold E4 at h;obtain⟨r1,h1,h⟩:=bS h;obtain⟨h2,h⟩:=cS h;obtain rfl:=si h;exact Eu mixed [(15,.en (dZ k) (AB.D v)),(22,.ret (.d (AB.D r1))),(24,.rwl ((w3++[r1]).map AB.D))] [] [.live [3,12],.keep [0,12,24,501,502,997],.ren 24 3,.sort] (ai (P9 (fk:=dZ) (fv:=AB.D) (clk:=clk) (sn:=sn) hm) (ai (VW h1) (ai (BI AB.D [r1]) (ai (BI AB.D [r1]) (ai (BF AB.D h2) (ai (BE AB.D w3 [r1]) (ti))))))) (by kernel_rfl)
set_option maxRecDepth 100000 in
theorem N9(rd:Option Nat)(us:List Value)(clk:Nat)(es:List (Nat×Int×AB))(w0_1 w0_2:Int)(w501:MP Int AB)(w502:MP (List UInt8) Int)(w3:List AB)(sn:List Nat):L3 Try.prog rd (Cb Try.prog 13) [0,1,0,1,1,1] ((D8 clk es us w0_1 w0_2 w501 w502 w3 sn).put (some 13) (.tup [bo false])) fun zx zs=>zx=(D9 clk es us w0_1 w0_2 w501 w502 (G9 w0_1 w0_2 w501 w502 w3)).1/\Wk zs (D9 clk es us w0_1 w0_2 w501 w502 (G9 w0_1 w0_2 w501 w502 w3)).2:=by refine L3.wk (e:=.exit 0) (s1:=VC clk es us w0_1 w0_2 w501 w502 w3) (Eu mixed [] [] [.live [3],.keep [0,3,501,502,997]] (ti) (by kernel_rfl)) ?_;exact(Wk.canB 3 (Ij _).symm (by kernel_rfl) rfl)
set_option maxRecDepth 100000 in
theorem SQ(rd:Option Nat)(us:List Value)(clk:Nat)(es:List (Nat×Int×AB))(w0_1 w0_2:Int)(w501:MP Int AB)(w502:MP (List UInt8) Int)(w3:List AB)(hp:(es.map (·.2)).Perm (w501.es.map (·.2)))(o:List AB)(h:SP w0_1 w0_2 w501 w502 w3=some o):Dc Try.prog rd (Cb Try.prog 13) [0,1,0,1,1,1] (D8 clk es us w0_1 w0_2 w501 w502 w3 []) ((D9 clk es us w0_1 w0_2 w501 w502) o).1 ((D9 clk es us w0_1 w0_2 w501 w502) o).2:=
 P7 (fk:=dZ) (fv:=AB.D) (step:=(fun(x:Int×AB) (s:List AB)=>E4 w0_1 w0_2 w501 w502 x.1 x.2 s)) (s0:=w3) 12 13 12 501 clk es (fun(sn:List Nat) (s:List AB)=>D8 clk es us w0_1 w0_2 w501 w502 s sn) (D9 clk es us w0_1 w0_2 w501 w502) (by kernel_rfl) (Pq (by rfl)) (fun _ _=>by kernel_rfl) (fun _ _=>by kernel_rfl) (fun _ _=>by kernel_rfl) hp
  (fun sn s k v st a hm h=>OA rd us clk es w0_1 w0_2 w501 w502 k v s sn st hm a h) (fun sn s hc=>hc▸N9 rd us clk es w0_1 w0_2 w501 w502 s sn) h
theorem SO(rd:Option Nat)(us:List Value)(h:SN aB aE aP aQ=some bI):Lq 13 rd 30 ⟨sp 28 0 [bx 0,(3,.nil)],[(0,.cells ([.row 501,.row 502,dI aB,dI aE])),(501,.map aP.clk (MP.dl dZ AB.D aP)),(502,.map aQ.clk (MP.dl D.s dZ aQ)),(997,.vals [.box 0 0] us)],[]⟩ (.normal,⟨sp 28 0 [rx 3],[(0,.cells ([.row 501,.row 502,dI aB,dI aE])),(3,.bag 45 2 (bI.map AB.D)),(501,.map aP.clk (MP.dl dZ AB.D aP)),(502,.map aQ.clk (MP.dl D.s dZ aQ)),(997,.vals [.box 0 0] us)],[]⟩):=by unfold SN at h;obtain⟨o2,h3,h⟩:=bS h;obtain rfl:=si h;exact Arr.lp (Et mixed [] [⟨[0,1,0,1,1,1],[.live [3,12],.keep [0,12,501,502,997],.nilw 3 3 45 2,.sort],.exit 0,(D9 aP.clk aP.es us aB aE aP aQ o2).2⟩] [.live [3],.keep [0,3,501,502,997]] (ai (SQ rd us aP.clk aP.es aB aE aP aQ ([]:List AB) (List.Perm.refl _) o2 h3) (ti)) (by kernel_rfl))
theorem ZJ(h:Xo aB aE aP aQ=some cA):AO Try.prog 13 [.box 0 0] [(0,.cells ([.row 1,.row 2,dI aB,dI aE])),(1,.map aP.clk (MP.dl dZ AB.D aP)),(2,.map aQ.clk (MP.dl D.s dZ aQ))] (.d ((D.l AB.D) cA.1)) [(0,.cells ([.row 3,.row 4,dI cA.2.1,dI cA.2.2.1])),(3,.map cA.2.2.2.1.clk (MP.dl dZ AB.D cA.2.2.2.1)),(4,.map cA.2.2.2.2.clk (MP.dl D.s dZ cA.2.2.2.2))]:=by unfold Xo at h;refine XG.call (ks:=[0]) mixed fun us=>?_;apply g0 (o:=cA);obtain⟨o3,h4,h⟩:=bS h;refine gL [.live [0,3],.keep [0,1,2,997],.ren 1 501,.ren 2 502,.sort] (SO none us h4) ?_;obtain⟨r4,h5,h⟩:=bS h;refine gG 26 (.cx true [(0,3)] [] (.tup []) [rW 0 45 2 AB.D r4]) (aAp h5) ?_;exact lX h [.frz 3,.look 2,.live [2],.keep [0,501,502,997],.ren 501 3,.ren 502 4,.sort]
def Ot(s0 s1:List UInt8)(s5:Int):St:=⟨sp 37 0 [sD 0 D.s s0,sD 1 D.s s1,sI 5 s5],[],[]⟩
def Ou(s0 s1:List UInt8)(o:Unit⊕Bool):Ex×St:=match o with
 | .inl o=>(.exit 0,⟨sp 37 0 [sD 0 D.s s0,sD 1 D.s s1],[],[]⟩)
 | .inr o=>(.ret,⟨sp 37 0 [sD 4 D.b o],[],[]⟩)
theorem S4(rd:Option Nat)(h:VP aG aI aB=some bD):Lq 75 rd 26 (Ot aG aI aB) ((Ou aG aI) bD):=
 lL (fun s:Int=>Ot aG aI s) (Ou aG aI) aB (fun aB o h=>by
 unfold FC at h
 refine gG 8 (.int (aG.length:Int)) (Co aG) ?_
 refine iB 10 h (fun h=>?_) fun h=>?_
 refine gG 13 (.int (aI.length:Int)) (Co aI) ?_
 refine iB 15 h (fun h=>?_) fun h=>?_
 obtain⟨x1,h3,h⟩:=xS h
 refine gG 20 (.int x1.toNat) (DS h3) ?_
 obtain⟨x2,h4,h⟩:=xS h
 refine gG 23 (.int x2.toNat) (DS h4) ?_
 refine iB 24 h (fun h=>?_) fun h=>?_
 obtain⟨x3,h6,h⟩:=xS h
 refine gG 27 (.int x3.toNat) (DS h6) ?_
 obtain⟨x4,h7,h⟩:=xS h
 refine gG 30 (.int x4.toNat) (DS h7) ?_
 exact lb h
 exact lb h
 exact lb h
 exact lb h) h
theorem Zj(h:Y9 aG aI=some a9):AO Try.prog 75 [.d (D.s aG),.d (D.s aI)] [] (.d (D.b a9)) []:=by
 unfold Y9 at h;apply g0 (o:=a9);obtain⟨o5,h8,h⟩:=bS h;refine gl (S4 none h8) ?_;replace h:=AV h;rcases h with⟨o6,rfl,h⟩|⟨o7,rfl,h⟩
 refine gG 33 (.int (aG.length:Int)) (Co aG)<|gG 35 (.int (aI.length:Int)) (Co aI) ?_;exact lf h;exact lf h
theorem W0(h:Yr a8 bC=some a9):AO Try.prog 58 [.d (X5.D a8),.d (X5.D bC)] [] (.d (D.b a9)) []:=by unfold Yr at h;apply g0 (o:=a9);refine iB 9 h (fun h=>?_) fun h=>?_;exact lf h;refine iB 17 h (fun h=>?_) fun h=>?_;exact lf h;refine iB 25 h (fun h=>?_) fun h=>?_;obtain⟨r1,h4,h⟩:=bS h;refine gC 30 (Zj h4) ?_;exact lf h;refine iB 34 h (fun h=>?_) fun h=>?_;exact lf h;exact lf h
def Ov(s0 s1:List X0)(s5:Int):St:=⟨sp 66 0 [sD 0 (D.l X0.D) s0,sD 1 (D.l X0.D) s1,sI 5 s5],[],[]⟩
def Ow(s0 s1:List X0)(o:Unit⊕Bool):Ex×St:=match o with
 | .inl o=>(.exit 0,⟨sp 66 0 [],[],[]⟩)
 | .inr o=>(.ret,⟨sp 66 0 [sD 4 D.b o],[],[]⟩)
theorem S5(rd:Option Nat)(h:VQ aA aL aB=some bD):Lq 44 rd 58 (Ov aA aL aB) ((Ow aA aL) bD):=
 lL (fun s:Int=>Ov aA aL s) (Ow aA aL) aB (fun aB o h=>by
 unfold HG at h
 refine gN 18 X0.D aA ?_
 refine iB 19 h (fun h=>?_) fun h=>?_
 refine xX 24 X0.D h fun x1 h=>?_
 refine xX 29 X0.D h fun x2 h=>?_
 refine iB 32 h (fun h=>?_) fun h=>?_
 refine xX 35 X0.D h fun x3 h=>?_
 refine xX 40 X0.D h fun x4 h=>?_
 exact lb h
 refine xX 46 X0.D h fun x5 h=>?_
 refine xX 51 X0.D h fun x6 h=>?_
 refine iB 54 h (fun h=>?_) fun h=>?_
 refine xX 57 X0.D h fun x7 h=>?_
 refine xX 62 X0.D h fun x8 h=>?_
 obtain⟨r9,h13,h⟩:=bS h
 refine gC 65 (W0 h13) ?_
 exact lb h
 exact lb h
 exact lb h) h
theorem Zl(h:Ya aA aL=some a9):AO Try.prog 44 [.d ((D.l X0.D) aA),.d ((D.l X0.D) aL)] [] (.d (D.b a9)) []:=by
 unfold Ya at h;apply g0 (o:=a9);refine gN 7 X0.D aA<|gN 9 X0.D aL ?_;refine iB 10 h (fun h=>?_) fun h=>?_;refine gN 12 X0.D aA<|gN 14 X0.D aL ?_;exact lf h;obtain⟨o10,h14,h⟩:=bS h;refine gl (S5 none h14) ?_;replace h:=AV h;rcases h with⟨o11,rfl,h⟩|⟨o12,rfl,h⟩
 exact lf h;exact lf h
def Oa(s0:List AB)(w3:AB)(s5:Int):St:=⟨sp 38 0 [sD 0 (D.l AB.D) s0,bx 3,sI 5 s5],[cL 3 AB.D w3],[]⟩
def Oc(s0:List AB)(w3:AB)(o:Int):Ex×St:=(.exit 0,⟨sp 38 0 [sD 0 (D.l AB.D) s0,bx 3,sI 5 o],[cL 3 AB.D w3],[]⟩)
theorem Sp(rd:Option Nat)(h:OZ bH aO aB=some aE):Lq 34 rd 28 (Oa bH aO aB) ((Oc bH aO) aE):=
 lL (fun s:Int=>Oa bH aO s) (Oc bH aO) aB (fun aB o h=>by
 unfold EG at h
 refine iB 11 h (fun h=>?_) fun h=>?_
 refine xX 17 AB.D h fun x1 h=>?_
 obtain⟨r2,h3,h⟩:=bS h
 refine gQ (Zl h3) ?_
 cases r2
 replace h:=CX h
 refine gW 20 (.ret (.d (D.b false))) ?_
 exact lb h
 replace h:=CY h
 refine gW 20 (.ret (.d (D.b true))) ?_
 exact lb h
 exact lb h) h
theorem ZU(h:Y1 bH aO=some bJ):AO Try.prog 34 [.d ((D.l AB.D) bH),.d (AB.D aO)] [] (.d ((D.l AB.D) bJ)) []:=by unfold Y1 at h;apply g0 (o:=bJ);refine gN 8 AB.D bH ?_;obtain⟨o3,h5,h⟩:=bS h;refine gl (Sp none h5)<|gQ (BI AB.D ([]:List AB))<|gW 27 (.sl ((sub bH 0 o3).map AB.D))<|gW 28 (.sl ((([]:List AB)++(sub bH 0 o3)).map AB.D))<|gW 32 (.sl (((([]:List AB)++(sub bH 0 o3))++[aO]).map AB.D))<|gW 36 (.sl ((sub bH o3 (bH.length:Int)).map AB.D))<|gW 37 (.sl ((((([]:List AB)++(sub bH 0 o3))++[aO])++(sub bH o3 (bH.length:Int))).map AB.D)) ?_;obtain⟨h6,h⟩:=cS h;refine gQ (Ki AB.D h6)<|gQ (BI AB.D (sub bH 0 o3)) ?_;obtain⟨h7,h⟩:=cS h;refine gQ (BF AB.D h7)<|gQ (BE AB.D ([]:List AB) (sub bH 0 o3))<|gQ (BI AB.D [aO])<|gQ (BI AB.D [aO]) ?_;obtain⟨h8,h⟩:=cS h;refine gQ (BF AB.D h8)<|gQ (BE AB.D (([]:List AB)++(sub bH 0 o3)) [aO]) ?_;obtain⟨h9,h⟩:=cS h;refine gQ (Kh AB.D h9)<|gQ (BI AB.D (sub bH o3 (bH.length:Int))) ?_;obtain⟨h10,h⟩:=cS h;refine gQ (BF AB.D h10)<|gQ (BE AB.D ((([]:List AB)++(sub bH 0 o3))++[aO]) (sub bH o3 (bH.length:Int))) ?_;exact lf h
def Od(w1:Xb)(s3:List AB)(s4:Int):St:=⟨sp 21 0 [bx 1,sD 3 (D.l AB.D) s3,sI 4 s4],[cL 1 Xb.D w1],[]⟩
def Oe(w1:Xb)(o:(List AB)):Ex×St:=(.exit 0,⟨sp 21 0 [sD 3 (D.l AB.D) o],[],[]⟩)
theorem Sq(rd:Option Nat)(h:LL aT bH aB=some bI):Lq 14 rd 58 (Od aT bH aB) ((Oe aT) bI):=
 lL (fun s:List AB×Int=>Od aT s.1 s.2) (Oe aT) (bH,aB) (fun⟨bH,aB⟩ o h=>by
 unfold E9 at h
 refine gN 8 Xc.D aT.l ?_
 refine iB 9 h (fun h=>?_) fun h=>?_
 refine xX 16 Xc.D h fun x3 h=>?_
 obtain⟨r4,h6,h⟩:=bS h
 refine gC 19 (ZU h6) ?_
 exact lb h
 exact lb h) h
theorem ZV(h:Y2 aT=some bH):AO Try.prog 14 [.d (Xb.D aT)] [] (.d ((D.l AB.D) bH)) []:=by unfold Y2 at h;apply g0 (o:=bH);obtain⟨o5,h7,h⟩:=bS h;refine gL [.look 3,.live [1,3,4],.keep [1]] (Sq none h7) ?_;exact lf h
def Oo(w2 w3:X4)(s5:Int):St:=⟨sp 59 0 [bx 2,bx 3,sI 5 s5],[cL 2 X4.D w2,cL 3 X4.D w3],[]⟩
def Oq(w2 w3:X4)(o:Unit⊕Bool):Ex×St:=match o with
 | .inl o=>(.exit 0,⟨sp 59 0 [bx 2,bx 3],[cL 2 X4.D w2,cL 3 X4.D w3],[]⟩)
 | .inr o=>(.ret,⟨sp 59 0 [sD 4 D.b o],[],[]⟩)
theorem S1(rd:Option Nat)(h:Sz cB cC aB=some bD):Lq 46 rd 58 (Oo cB cC aB) ((Oq cB cC) bD):=
 lL (fun s:Int=>Oo cB cC s) (Oq cB cC) aB (fun aB o h=>by
 unfold HF at h
 refine gN 19 X5.D cB.vals ?_
 refine iB 21 h (fun h=>?_) fun h=>?_
 refine gN 25 X5.D cC.vals ?_
 refine iB 27 h (fun h=>?_) fun h=>?_
 refine xX 33 X5.D h fun x1 h=>?_
 refine xX 38 X5.D h fun x2 h=>?_
 refine iB 40 h (fun h=>?_) fun h=>?_
 refine xX 44 X5.D h fun x3 h=>?_
 refine xX 49 X5.D h fun x4 h=>?_
 obtain⟨r5,h9,h⟩:=bS h
 refine gC 51 (W0 h9) ?_
 exact lb h
 exact lb h
 exact lb h
 exact lb h) h
theorem Wv(h:Y7 cB cC=some a9):AO Try.prog 46 [.d (X4.D cB),.d (X4.D cC)] [] (.d (D.b a9)) []:=by
 unfold Y7 at h;apply g0 (o:=a9);refine iB 10 h (fun h=>?_) fun h=>?_;exact lf h;obtain⟨o6,h10,h⟩:=bS h;refine gl (S1 none h10) ?_;replace h:=AV h;rcases h with⟨o7,rfl,h⟩|⟨o8,rfl,h⟩
 refine gN 54 X5.D cB.vals<|gN 57 X5.D cC.vals ?_;exact lf h;exact lf h
theorem aAg(h:Z9 cB cC=some a9):AO Try.prog 36 [.d (X4.D cB),.d (X4.D cC)] [] (.d (D.b a9)) []:=by unfold Z9 at h;apply g0 (o:=a9);obtain⟨r1,h1,h⟩:=bS h;refine gC 7 (Wv h1) ?_;refine iB 9 h (fun h=>?_) fun h=>?_;obtain⟨r2,h3,h⟩:=bS h;refine gC 12 (Wv h3) ?_;exact lf h;exact lf h
def Ox(s0 s1:List X4)(s5:Int):St:=⟨sp 27 0 [sD 0 (D.l X4.D) s0,sD 1 (D.l X4.D) s1,sI 5 s5],[],[]⟩
def Oy(s0 s1:List X4)(o:Unit⊕Unit):Ex×St:=match o with
 | .inl o=>(.exit 0,⟨sp 27 0 [],[],[]⟩)
 | .inr o=>(.ret,⟨sp 27 0 [sD 4 D.b false],[],[]⟩)
theorem S6(rd:Option Nat)(h:VS aM aN aB=some aC):Lq 18 rd 58 (Ox aM aN aB) ((Oy aM aN) aC):=
 lL (fun s:Int=>Ox aM aN s) (Oy aM aN) aB (fun aB o h=>by
 unfold HH at h
 refine gN 13 X4.D aM ?_
 refine iB 14 h (fun h=>?_) fun h=>?_
 refine xX 19 X4.D h fun x1 h=>?_
 refine xX 23 X4.D h fun x2 h=>?_
 obtain⟨r3,h5,h⟩:=bS h
 refine gC 25 (aAg h5) ?_
 refine iB 26 h (fun h=>?_) fun h=>?_
 exact lb h
 exact lb h
 exact lb h) h
theorem Ww(h:Yb aM aN=some a9):AO Try.prog 18 [.d ((D.l X4.D) aM),.d ((D.l X4.D) aN)] [] (.d (D.b a9)) []:=by
 unfold Yb at h;apply g0 (o:=a9);refine gN 7 X4.D aM<|gN 9 X4.D aN ?_;refine iB 10 h (fun h=>?_) fun h=>?_;exact lf h;obtain⟨o4,h7,h⟩:=bS h;refine gl (S6 none h7) ?_;replace h:=AV h;rcases h with⟨o5,rfl,h⟩|⟨o6,rfl,h⟩
 exact lf h;exact lf h
def O1(s0 s1:List AB)(s5:Int):St:=⟨sp 43 0 [sD 0 (D.l AB.D) s0,sD 1 (D.l AB.D) s1,sI 5 s5],[],[]⟩
def O2(s0 s1:List AB)(o:Unit⊕Unit):Ex×St:=match o with
 | .inl o=>(.exit 0,⟨sp 43 0 [],[],[]⟩)
 | .inr o=>(.ret,⟨sp 43 0 [sD 4 D.b false],[],[]⟩)
theorem S8(rd:Option Nat)(h:VU bH bJ aB=some aC):Lq 12 rd 58 (O1 bH bJ aB) ((O2 bH bJ) aC):=
 lL (fun s:Int=>O1 bH bJ s) (O2 bH bJ) aB (fun aB o h=>by
 unfold HI at h
 refine gN 13 AB.D bH ?_
 refine iB 14 h (fun h=>?_) fun h=>?_
 refine xX 19 AB.D h fun x1 h=>?_
 refine xX 24 AB.D h fun x2 h=>?_
 obtain⟨r3,h5,h⟩:=bS h
 refine gC 27 (VI h5) ?_
 refine iB 29 h (fun h=>?_) fun h=>?_
 exact lb h
 refine xX 32 AB.D h fun x4 h=>?_
 refine xX 37 AB.D h fun x5 h=>?_
 obtain⟨r6,h9,h⟩:=bS h
 refine gC 40 (Ww h9) ?_
 refine iB 42 h (fun h=>?_) fun h=>?_
 exact lb h
 exact lb h
 exact lb h) h
theorem Zn(h:Yd bH bJ=some a9):AO Try.prog 12 [.d ((D.l AB.D) bH),.d ((D.l AB.D) bJ)] [] (.d (D.b a9)) []:=by
 unfold Yd at h;apply g0 (o:=a9);refine gN 7 AB.D bH<|gN 9 AB.D bJ ?_;refine iB 10 h (fun h=>?_) fun h=>?_;exact lf h;obtain⟨o7,h11,h⟩:=bS h;refine gl (S8 none h11) ?_;replace h:=AV h;rcases h with⟨o8,rfl,h⟩|⟨o9,rfl,h⟩
 exact lf h;exact lf h
theorem W8(h:Z5 aB=some a9):AO Try.prog 79 [dI aB] [] (.d (D.b a9)) []:=by unfold Z5 at h;apply g0 (o:=a9);exact lf h
theorem Cj(h:Xu aB aE=some a9):AO Try.prog 65 [dI aB,dI aE] [] (.d (D.b a9)) []:=by unfold Xu at h;apply g0 (o:=a9);obtain⟨r1,h1,h⟩:=bS h;refine gQ (W8 h1) ?_;cases r1;replace h:=CX h;refine gW 6 (.ret (.d (D.b false))) ?_;exact lf h;replace h:=CY h;refine gW 6 (.ret (.d (D.b true))) ?_;obtain⟨r2,h3,h⟩:=bS h;refine gC 9 (W8 h3) ?_;refine iB 12 h (fun h=>?_) fun h=>?_;exact lf h;exact lf h
def NW(us:List Value)(s1 s2:Int)(s6 s7:Int)(w0:List Int):St:=⟨sp 49 0 [rx 0,sI 1 s1,sI 2 s2,sI 6 s6,sI 7 s7],[rW 0 3 1 dZ w0,(997,.vals [.row 0] us)],[]⟩
def NX(us:List Value)(s1 s2 s6:Int)(o:(List Int)):Ex×St:=(.exit 2,⟨sp 49 0 [rx 0,sI 1 s1,sI 2 s2,sI 6 s6],[rW 0 3 1 dZ o,(997,.vals [.row 0] us)],[]⟩)
theorem Rx(rd:Option Nat)(us:List Value)(h:I9 aB aE aZ bG cD=some cE):Lq 59 rd 402 (NW us aB aE aZ bG cD) ((NX us aB aE aZ) cE):=
 lL (fun s:Int×List Int=>NW us aB aE aZ s.1 s.2) (NX us aB aE aZ) (bG,cD) (fun⟨bG,cD⟩ o h=>by
 unfold CZ at h
 refine iB 19 h (fun h=>?_) fun h=>?_
 obtain⟨h3,h⟩:=cS h
 refine gQ h3.1<|gQ (AD dZ h3.2) ?_
 obtain⟨x1,h4,h⟩:=xS h
 refine gG 23 (.el (dZ x1)) (AF dZ h4) ?_
 obtain⟨h5,h⟩:=cS h
 refine gQ h5.1<|gQ (AD dZ h5.2) ?_
 obtain⟨x2,h6,h⟩:=xS h
 refine gG 28 (.el (dZ x2)) (AF dZ h6) ?_
 obtain⟨r3,h7,h⟩:=bS h
 refine gQ (Cj h7) ?_
 cases r3
 replace h:=CX h
 refine gW 29 (.ret (.d (D.b false))) ?_
 exact lb h
 replace h:=CY h
 refine gW 29 (.ret (.d (D.b true))) ?_
 obtain⟨h9,h⟩:=cS h
 refine gQ h9.1<|gQ (AD dZ h9.2) ?_
 obtain⟨x4,h10,h⟩:=xS h
 refine gG 42 (.el (dZ x4)) (AF dZ h10)<|gW 10047 (.sl ((cD.set bG.toNat x4).map dZ)) ?_
 obtain⟨h11,h⟩:=cS h
 refine gQ h11.1<|gQ (AD dZ h11.2) ?_
 obtain⟨x5,h12,h⟩:=xS h
 refine gG 46 (.el (dZ x5)) (AF dZ h12)<|gW 10048 (.sl (((cD.set bG.toNat x4).set (AA .sub .i64 bG 1).toNat x5).map dZ)) ?_
 obtain⟨h13,h⟩:=cS h
 refine gQ h13.1<|gQ (AD dZ h13.2) ?_
 obtain⟨h14,h⟩:=cS h
 refine gQ (Ar dZ h14)<|gQ (AP dZ cD bG x4) ?_
 obtain⟨h15,h⟩:=cS h
 refine gQ h15.1<|gQ (AD dZ h15.2) ?_
 obtain⟨h16,h⟩:=cS h
 refine gQ (Ar dZ h16)<|gQ (AP dZ (cD.set bG.toNat x4) (AA .sub .i64 bG 1) x5) ?_
 exact lb h
 exact lb h) h
def NU(us:List Value)(s1 s2 s6:Int)(w0:List Int):St:=⟨sp 49 0 [rx 0,sI 1 s1,sI 2 s2,sI 6 s6],[rW 0 3 1 dZ w0,(997,.vals [.row 0] us)],[]⟩
def NV(us:List Value)(s1 s2:Int)(o:(List Int)):Ex×St:=(.exit 0,⟨sp 49 0 [],[rW 0 3 1 dZ o,(997,.vals [.row 0] us)],[]⟩)
theorem Rw(rd:Option Nat)(us:List Value)(h:I8 aB aE aZ cD=some cE):Lq 59 rd 6 (NU us aB aE aZ cD) ((NV us aB aE) cE):=
 lL (fun s:Int×List Int=>NU us aB aE s.1 s.2) (NV us aB aE) (aZ,cD) (fun⟨aZ,cD⟩ o h=>by
 unfold DO at h
 refine iB 12 h (fun h=>?_) fun h=>?_
 obtain⟨o6,h17,h⟩:=bS h
 refine gl (Rx rd us h17) ?_
 exact lb h
 exact lb h) h
theorem ZB(h:Xg aB aE cD=some cF):AO Try.prog 59 [.row 0,dI aB,dI aE] [rW 0 3 1 dZ cD] (.tup []) [rW 0 3 1 dZ cF]:=by unfold Xg at h;refine XG.call (ks:=[0]) mixed fun us=>?_;apply g0 (o:=cF);obtain⟨o7,h18,h⟩:=bS h;refine gl (Rw none us h18) ?_;exact lX h (lv [] [0,997])
theorem KJ(rd:Option Nat)(us:List Value)(h:G2 aB aE aZ bG a9 cD=some bK):Lq 76 rd 397 ⟨sp 76 0 [rx 0,sI 2 aB,sI 3 aE,sI 8 aZ,sI 9 bG,sD 36 D.b a9],[rW 0 3 1 dZ cD,(997,.vals [.row 0] us)],[]⟩ (.normal,⟨sp 76 0 [rx 0,sI 2 aB,sI 3 aE,sI 8 aZ,sI 9 bK],[rW 0 3 1 dZ cD,(997,.vals [.row 0] us)],[]⟩):=by unfold G2 at h;apply g0 (o:=bK);cases a9;replace h:=CX h;exact lp h;replace h:=CY h;exact lp h
theorem Ru(rd:Option Nat)(us:List Value)(h:F2 aB aE aZ cD=some cG):Lq 76 rd 12 ⟨sp 76 0 [rx 0,sI 2 aB,sI 3 aE,sI 8 aZ],[rW 0 3 1 dZ cD,(997,.vals [.row 0] us)],[]⟩ (match (generalizing:=false) cG with
 | .inl cG=>(.normal,⟨sp 76 0 [rx 0,sI 2 aB,sI 3 aE,sI 8 cG.1],[rW 0 3 1 dZ cG.2,(997,.vals [.row 0] us)],[]⟩)
 | .inr cG=>match (generalizing:=false) cG with
 | .inl cG=>(.exit 0,⟨sp 76 0 [],[rW 0 3 1 dZ cD,(997,.vals [.row 0] us)],[]⟩)
 | .inr cG=>(.ret,⟨sp 76 0 [],[rW 0 3 1 dZ cD,(997,.vals [.row 0] us)],[]⟩)):=by
 unfold F2 at h
 apply g0 (o:=cG)
 refine iB 16 h (fun h=>?_) fun h=>?_
 exact lp h
 refine iB 21 h (fun h=>?_) fun h=>?_
 obtain⟨h3,h⟩:=cS h
 refine gQ h3.1<|gQ (AD dZ h3.2) ?_
 obtain⟨x1,h4,h⟩:=xS h
 refine gG 27 (.el (dZ x1)) (AF dZ h4) ?_
 obtain⟨h5,h⟩:=cS h
 refine gQ h5.1<|gQ (AD dZ h5.2) ?_
 obtain⟨x2,h6,h⟩:=xS h
 refine gG 34 (.el (dZ x2)) (AF dZ h6) ?_
 obtain⟨r3,h7,h⟩:=bS h
 refine gC 35 (Cj h7) ?_
 obtain⟨o4,h9,h⟩:=bS h
 refine gl (KJ rd us h9) ?_
 obtain⟨h10,h⟩:=cS h
 refine gQ h10.1<|gQ (AD dZ h10.2) ?_
 obtain⟨x5,h11,h⟩:=xS h
 refine gG 44 (.el (dZ x5)) (AF dZ h11) ?_
 obtain⟨h12,h⟩:=cS h
 refine gQ h12.1<|gQ (AD dZ h12.2) ?_
 obtain⟨x6,h13,h⟩:=xS h
 refine gG 50 (.el (dZ x6)) (AF dZ h13) ?_
 obtain⟨r7,h14,h⟩:=bS h
 refine gC 51 (Cj h14) ?_
 refine iB 52 h (fun h=>?_) fun h=>?_
 exact lp h
 obtain⟨h16,h⟩:=cS h
 refine gQ h16.1<|gQ (AD dZ h16.2) ?_
 obtain⟨x8,h17,h⟩:=xS h
 refine gG 66 (.el (dZ x8)) (AF dZ h17)<|gW 10073 (.sl ((cD.set (AA .add .i64 aE aZ).toNat x8).map dZ)) ?_
 obtain⟨h18,h⟩:=cS h
 refine gQ h18.1<|gQ (AD dZ h18.2) ?_
 obtain⟨x9,h19,h⟩:=xS h
 refine gG 72 (.el (dZ x9)) (AF dZ h19)<|gW 10074 (.sl (((cD.set (AA .add .i64 aE aZ).toNat x8).set (AA .add .i64 aE o4).toNat x9).map dZ)) ?_
 obtain⟨h20,h⟩:=cS h
 refine gQ h20.1<|gQ (AD dZ h20.2) ?_
 obtain⟨h21,h⟩:=cS h
 refine gQ (Ar dZ h21)<|gQ (AP dZ cD (AA .add .i64 aE aZ) x8) ?_
 obtain⟨h22,h⟩:=cS h
 refine gQ h22.1<|gQ (AD dZ h22.2) ?_
 obtain⟨h23,h⟩:=cS h
 refine gQ (Ar dZ h23)<|gQ (AP dZ (cD.set (AA .add .i64 aE aZ).toNat x8) (AA .add .i64 aE o4) x9) ?_
 exact lp h
 obtain⟨o10,h24,h⟩:=bS h
 refine gl (KJ rd us h24) ?_
 obtain⟨h25,h⟩:=cS h
 refine gQ h25.1<|gQ (AD dZ h25.2) ?_
 obtain⟨x11,h26,h⟩:=xS h
 refine gG 44 (.el (dZ x11)) (AF dZ h26) ?_
 obtain⟨h27,h⟩:=cS h
 refine gQ h27.1<|gQ (AD dZ h27.2) ?_
 obtain⟨x12,h28,h⟩:=xS h
 refine gG 50 (.el (dZ x12)) (AF dZ h28) ?_
 obtain⟨r13,h29,h⟩:=bS h
 refine gC 51 (Cj h29) ?_
 refine iB 52 h (fun h=>?_) fun h=>?_
 exact lp h
 obtain⟨h31,h⟩:=cS h
 refine gQ h31.1<|gQ (AD dZ h31.2) ?_
 obtain⟨x14,h32,h⟩:=xS h
 refine gG 66 (.el (dZ x14)) (AF dZ h32)<|gW 10073 (.sl ((cD.set (AA .add .i64 aE aZ).toNat x14).map dZ)) ?_
 obtain⟨h33,h⟩:=cS h
 refine gQ h33.1<|gQ (AD dZ h33.2) ?_
 obtain⟨x15,h34,h⟩:=xS h
 refine gG 72 (.el (dZ x15)) (AF dZ h34)<|gW 10074 (.sl (((cD.set (AA .add .i64 aE aZ).toNat x14).set (AA .add .i64 aE o10).toNat x15).map dZ)) ?_
 obtain⟨h35,h⟩:=cS h
 refine gQ h35.1<|gQ (AD dZ h35.2) ?_
 obtain⟨h36,h⟩:=cS h
 refine gQ (Ar dZ h36)<|gQ (AP dZ cD (AA .add .i64 aE aZ) x14) ?_
 obtain⟨h37,h⟩:=cS h
 refine gQ h37.1<|gQ (AD dZ h37.2) ?_
 obtain⟨h38,h⟩:=cS h
 refine gQ (Ar dZ h38)<|gQ (AP dZ (cD.set (AA .add .i64 aE aZ).toNat x14) (AA .add .i64 aE o10) x15) ?_
 exact lp h
def NS(us:List Value)(s2 s3 s8:Int)(w0:List Int):St:=⟨sp 76 0 [rx 0,sI 2 s2,sI 3 s3,sI 8 s8],[rW 0 3 1 dZ w0,(997,.vals [.row 0] us)],[]⟩
def NT(us:List Value)(s2 s3:Int)(o:(List Int)⊕(List Int)):Ex×St:=match o with
 | .inl o=>(.exit 0,⟨sp 76 0 [],[rW 0 3 1 dZ o,(997,.vals [.row 0] us)],[]⟩)
 | .inr o=>(.ret,⟨sp 76 0 [],[rW 0 3 1 dZ o,(997,.vals [.row 0] us)],[]⟩)
theorem Rv(rd:Option Nat)(us:List Value)(h:I7 aB aE aZ cD=some cH):Lq 76 rd 6 (NS us aB aE aZ cD) ((NT us aB aE) cH):=
 lL (fun s:Int×List Int=>NS us aB aE s.1 s.2) (NT us aB aE) (aZ,cD) (fun⟨aZ,cD⟩ o h=>by
 unfold B0 at h
 obtain⟨o16,h39,h⟩:=bS h
 refine gl (Ru rd us h39) ?_
 replace h:=AV h
 rcases h with⟨o17,rfl,h⟩|⟨o18,rfl,h⟩
 exact lb h
 replace h:=AV h
 rcases h with⟨o19,rfl,h⟩|⟨o20,rfl,h⟩
 exact lb h
 exact lb h) h
theorem Wn(h:Xe aB aE aZ cD=some cF):AO Try.prog 76 [.row 0,dI aB,dI aE,dI aZ] [rW 0 3 1 dZ cD] (.tup []) [rW 0 3 1 dZ cF]:=by
 unfold Xe at h;refine XG.call (ks:=[0]) mixed fun us=>?_;apply g0 (o:=cF);obtain⟨o21,h40,h⟩:=bS h;refine gl (Rv none us h40) ?_;replace h:=AV h;rcases h with⟨o22,rfl,h⟩|⟨o23,rfl,h⟩
 exact lX h (lv [] [0,997]);exact lX h (lv [] [0,997])
def Nh(us:List Value)(s6 s7:Int)(s8 s9:Int)(w0:List Int):St:=⟨sp 56 0 [rx 0,sI 6 s6,sI 7 s7,sI 8 s8,sI 9 s9],[rW 0 3 1 dZ w0,(997,.vals [.row 0] us)],[]⟩
def Ni(us:List Value)(s6 s7 s8:Int)(o:(List Int)):Ex×St:=(.exit 0,⟨sp 56 0 [rx 0,sI 6 s6,sI 7 s7,sI 8 s8],[rW 0 3 1 dZ o,(997,.vals [.row 0] us)],[]⟩)
theorem R5(rd:Option Nat)(us:List Value)(h:JD aB aE aZ bG cD=some cE):Lq 60 rd 122 (Nh us aB aE aZ bG cD) ((Ni us aB aE aZ) cE):=
 lL (fun s:Int×List Int=>Nh us aB aE aZ s.1 s.2) (Ni us aB aE aZ) (bG,cD) (fun⟨bG,cD⟩ o h=>by
 unfold DQ at h
 refine iB 19 h (fun h=>?_) fun h=>?_
 obtain⟨r1,h2,h⟩:=bS h
 refine gG 26 (.cx false [(0,0)] [] (.tup []) [rW 0 3 1 dZ r1]) (Wn h2) ?_
 exact lb h
 exact lb h) h
def Nj(us:List Value)(s6 s7 s10:Int)(w0:List Int):St:=⟨sp 56 0 [rx 0,sI 6 s6,sI 7 s7,sI 10 s10],[rW 0 3 1 dZ w0,(997,.vals [.row 0] us)],[]⟩
def Nk(us:List Value)(s6 s7:Int)(o:(List Int)):Ex×St:=(.exit 2,⟨sp 56 0 [],[rW 0 3 1 dZ o,(997,.vals [.row 0] us)],[]⟩)
theorem R6(rd:Option Nat)(us:List Value)(h:JE aB aE aZ cD=some cE):Lq 60 rd 126 (Nj us aB aE aZ cD) ((Nk us aB aE) cE):=
 lL (fun s:Int×List Int=>Nj us aB aE s.1 s.2) (Nk us aB aE) (aZ,cD) (fun⟨aZ,cD⟩ o h=>by
 unfold DR at h
 refine iB 30 h (fun h=>?_) fun h=>?_
 obtain⟨h5,h⟩:=cS h
 refine gQ h5.1<|gQ (AD dZ h5.2) ?_
 obtain⟨x3,h6,h⟩:=xS h
 refine gG 44 (.el (dZ x3)) (AF dZ h6)<|gW 10049 (.sl ((cD.set aB.toNat x3).map dZ)) ?_
 obtain⟨h7,h⟩:=cS h
 refine gQ h7.1<|gQ (AD dZ h7.2) ?_
 obtain⟨x4,h8,h⟩:=xS h
 refine gG 48 (.el (dZ x4)) (AF dZ h8)<|gW 10050 (.sl (((cD.set aB.toNat x3).set (AA .add .i64 aB aZ).toNat x4).map dZ)) ?_
 obtain⟨h9,h⟩:=cS h
 refine gQ h9.1<|gQ (AD dZ h9.2) ?_
 obtain⟨h10,h⟩:=cS h
 refine gQ (Ar dZ h10)<|gQ (AP dZ cD aB x3) ?_
 obtain⟨h11,h⟩:=cS h
 refine gQ h11.1<|gQ (AD dZ h11.2) ?_
 obtain⟨h12,h⟩:=cS h
 refine gQ (Ar dZ h12)<|gQ (AP dZ (cD.set aB.toNat x3) (AA .add .i64 aB aZ) x4) ?_
 obtain⟨r5,h13,h⟩:=bS h
 refine gG 55 (.cx false [(0,0)] [] (.tup []) [rW 0 3 1 dZ r5]) (Wn h13) ?_
 exact lb h
 exact lb h) h
theorem ZF(h:Xj aB aE cD=some cF):AO Try.prog 60 [.row 0,dI aB,dI aE] [rW 0 3 1 dZ cD] (.tup []) [rW 0 3 1 dZ cF]:=by unfold Xj at h;refine XG.call (ks:=[0]) mixed fun us=>?_;apply g0 (o:=cF);refine gQ (of_decide_eq_true rfl:(2:Int)≠0) ?_;obtain⟨o2,h3,h⟩:=bS h;refine gl (R5 none us h3) ?_;obtain⟨o6,h14,h⟩:=bS h;refine gl (R6 none us h14) ?_;exact lX h (lv [] [0,997])
theorem R0(rd:Option Nat)(us:List Value)(h:JA aB aE aZ bG bK a9 cD bO=some bP):Lq 61 rd 30501 ⟨sp 65 0 [rx 0,sI 1 aB,sI 6 aE,bx 7,sD 8 dU aZ,sI 9 bG,sI 10 bK,sD 43 D.b a9],[rW 0 3 1 dZ cD,(7,.cells ([.d (dU bO)])),(997,.vals [.row 0] us)],[]⟩ (.normal,⟨sp 65 0 [rx 0,sI 1 aB,sI 6 aE,bx 7,sD 8 dU aZ,sI 9 bG,sI 10 bP],[rW 0 3 1 dZ cD,(7,.cells ([.d (dU bO)])),(997,.vals [.row 0] us)],[]⟩):=by unfold JA at h;apply g0 (o:=bP);cases a9;replace h:=CX h;exact lp h;replace h:=CY h;exact lp h
theorem Rz(rd:Option Nat)(us:List Value)(h:LI aB aE aZ bG cD bK=some cI):Lq 61 rd 1906 ⟨sp 65 0 [rx 0,sI 1 aB,sI 6 aE,bx 7,sD 8 dU aZ,sI 9 bG],[rW 0 3 1 dZ cD,(7,.cells ([.d (dU bK)])),(997,.vals [.row 0] us)],[]⟩ (.normal,⟨sp 65 0 [rx 0,sI 1 aB,sI 6 aE,bx 7,sD 8 dU aZ,sI 9 bG],[rW 0 3 1 dZ cI.1,(7,.cells ([.d (dU cI.2)])),(997,.vals [.row 0] us)],[]⟩):=by unfold LI at h;apply g0 (o:=cI);obtain⟨r2,h4,h⟩:=bS h;refine gG 36 (.cx false [(0,7)] [] (.d (dU r2.1)) [(0,.cells ([.d (dU r2.2)]))]) (W6 h4) ?_;obtain⟨o3,h6,h⟩:=bS h;refine gl (R0 rd us h6) ?_;obtain⟨h7,h⟩:=cS h;refine gQ h7.1<|gQ (AD dZ h7.2) ?_;obtain⟨x4,h8,h⟩:=xS h;refine gG 58 (.el (dZ x4)) (AF dZ h8)<|gW 10063 (.sl ((cD.set bG.toNat x4).map dZ)) ?_;obtain⟨h9,h⟩:=cS h;refine gQ h9.1<|gQ (AD dZ h9.2) ?_;obtain⟨x5,h10,h⟩:=xS h;refine gG 62 (.el (dZ x5)) (AF dZ h10)<|gW 10064 (.sl (((cD.set bG.toNat x4).set (AA .add .i64 aB o3).toNat x5).map dZ)) ?_;obtain⟨h11,h⟩:=cS h;refine gQ h11.1<|gQ (AD dZ h11.2) ?_;obtain⟨h12,h⟩:=cS h;refine gQ (Ar dZ h12)<|gQ (AP dZ cD bG x4) ?_;obtain⟨h13,h⟩:=cS h;refine gQ h13.1<|gQ (AD dZ h13.2) ?_;obtain⟨h14,h⟩:=cS h;refine gQ (Ar dZ h14)<|gQ (AP dZ (cD.set bG.toNat x4) (AA .add .i64 aB o3) x5) ?_;exact lp h
def NY(us:List Value)(s1 s6:Int)(s8 s9:Int)(w0:List Int)(w7:Int):St:=⟨sp 65 0 [rx 0,sI 1 s1,sI 6 s6,bx 7,sD 8 dU s8,sI 9 s9],[rW 0 3 1 dZ w0,(7,.cells ([.d (dU w7)])),(997,.vals [.row 0] us)],[]⟩
def NZ(us:List Value)(s1 s6 s8:Int)(o:(List Int)):Ex×St:=(.exit 0,⟨sp 65 0 [],[rW 0 3 1 dZ o,(997,.vals [.row 0] us)],[]⟩)
theorem R1(rd:Option Nat)(us:List Value)(h:JB aB aE aZ bG cD bK=some cE):Lq 61 rd 238 (NY us aB aE aZ bG cD bK) ((NZ us aB aE aZ) cE):=
 lL (fun s:Int×List Int×Int=>NY us aB aE aZ s.1 s.2.1 s.2.2) (NZ us aB aE aZ) (bG,cD,bK) (fun⟨bG,cD,bK⟩ o h=>by
 unfold DP at h
 refine gQ (of_decide_eq_true rfl:(4:Int)≠0) ?_
 refine iB 33 h (fun h=>?_) fun h=>?_
 obtain⟨o6,h15,h⟩:=bS h
 refine gl (Rz rd us h15) ?_
 exact lb h
 exact lb h) h
theorem Ry(rd:Option Nat)(us:List Value)(h:LH aB aE a9 cD=some cE):Lq 61 rd 7 ⟨sp 65 0 [rx 0,sI 1 aB,sI 6 aE,sD 15 D.b a9],[rW 0 3 1 dZ cD,(997,.vals [.row 0] us)],[]⟩ (.normal,⟨sp 65 0 [],[rW 0 3 1 dZ cE,(997,.vals [.row 0] us)],[]⟩):=by unfold LH at h;apply g0 (o:=cE);cases a9;replace h:=CX h;exact lp h;replace h:=CY h;obtain⟨r1,h2,h⟩:=bS h;refine gC 19 (W5 h2)<|gQ (of_decide_eq_true rfl:(4:Int)≠0) ?_;obtain⟨o7,h16,h⟩:=bS h;refine gl (R1 rd us h16) ?_;exact lp h
theorem ZC(h:Xh aB aE cD=some cF):AO Try.prog 61 [.row 0,dI aB,dI aE] [rW 0 3 1 dZ cD] (.tup []) [rW 0 3 1 dZ cF]:=by unfold Xh at h;refine XG.call (ks:=[0]) mixed fun us=>?_;apply g0 (o:=cF);obtain⟨o8,h17,h⟩:=bS h;refine gl (Ry none us h17) ?_;exact lX h (lv [] [0,997])
theorem VZ(h:Yk cD aB aE aZ=some bR):AO Try.prog 86 [.d ((D.l dZ) cD),dI aB,dI aE,.box 0 0] [(0,.cells ([dI aZ]))] (.tup [dI bR.1,dI bR.2.1]) [(0,.cells ([dI bR.2.2]))]:=by unfold Yk at h;refine XG.call (ks:=[3]) mixed fun us=>?_;apply g0 (o:=bR);refine xX 12 dZ h fun x1 h=>?_;refine xX 16 dZ h fun x2 h=>?_;obtain⟨r3,h3,h⟩:=bS h;refine gQ (Cj h3) ?_;cases r3;replace h:=CX h;refine gW 18 (.ret (.d (D.b false))) ?_;exact lX h (lv [8,9] [0,997]);replace h:=CY h;refine gW 18 (.ret (.d (D.b true))) ?_;exact lX h (lv [8,9] [0,997])
theorem W1(h:Ys cD aB aE aZ bG=some bN):AO Try.prog 78 [.d ((D.l dZ) cD),dI aB,dI aE,dI aZ,.box 0 0] [(0,.cells ([dI bG]))] (dI bN.1) [(0,.cells ([dI bN.2]))]:=by unfold Ys at h;refine XG.call (ks:=[4]) mixed fun us=>?_;apply g0 (o:=bN);obtain⟨r1,h1,h⟩:=bS h;refine gG 16 (.cx false [(0,0)] [] (.tup [dI r1.1,dI r1.2.1]) [(0,.cells ([dI r1.2.2]))]) (VZ h1) ?_;obtain⟨r2,h2,h⟩:=bS h;refine gG 24 (.cx false [(0,0)] [] (.tup [dI r2.1,dI r2.2.1]) [(0,.cells ([dI r2.2.2]))]) (VZ h2) ?_;obtain⟨r3,h3,h⟩:=bS h;refine gG 32 (.cx false [(0,0)] [] (.tup [dI r3.1,dI r3.2.1]) [(0,.cells ([dI r3.2.2]))]) (VZ h3) ?_;exact lX h (lv [10] [0,997])
theorem Va(h:Yl cD aB aE=some bN):AO Try.prog 77 [.d ((D.l dZ) cD),dI aB,.box 0 0] [(0,.cells ([dI aE]))] (dI bN.1) [(0,.cells ([dI bN.2]))]:=by unfold Yl at h;refine XG.call (ks:=[2]) mixed fun us=>?_;apply g0 (o:=bN);obtain⟨r1,h1,h⟩:=bS h;refine gG 14 (.cx false [(0,0)] [] (dI r1.1) [(0,.cells ([dI r1.2]))]) (W1 h1) ?_;exact lX h (lv [6] [0,997])
theorem S3(rd:Option Nat)(h:JI cD aB aE aZ a9 bG=some bU):Lq 62 rd 4073 ⟨sp 57 0 [sD 0 (D.l dZ) cD,bx 9,sI 10 aB,sI 11 aE,sI 12 aZ,sD 34 D.b a9],[(9,.cells ([dI bG]))],[]⟩ (.normal,⟨sp 57 0 [sD 0 (D.l dZ) cD,bx 9,sI 10 bU.1,sI 11 bU.2.1,sI 12 bU.2.2.1],[(9,.cells ([dI bU.2.2.2]))],[]⟩):=by unfold JI at h;apply g0 (o:=bU);cases a9;replace h:=CX h;exact lp h;replace h:=CY h;obtain⟨r1,h3,h⟩:=bS h;refine gG 37 (.cx false [(0,9)] [] (dI r1.1) [(0,.cells ([dI r1.2]))]) (Va h3) ?_;obtain⟨r2,h4,h⟩:=bS h;refine gG 40 (.cx false [(0,9)] [] (dI r2.1) [(0,.cells ([dI r2.2]))]) (Va h4) ?_;obtain⟨r3,h5,h⟩:=bS h;refine gG 43 (.cx false [(0,9)] [] (dI r3.1) [(0,.cells ([dI r3.2]))]) (Va h5) ?_;exact lp h
theorem S2(rd:Option Nat)(h:LM cD aB aE aZ bG a9 bK=some bB):Lq 62 rd 509 ⟨sp 57 0 [sD 0 (D.l dZ) cD,sI 8 aB,bx 9,sI 10 aE,sI 11 aZ,sI 12 bG,sD 32 D.b a9],[(9,.cells ([dI bK]))],[]⟩ (.normal,⟨sp 57 0 [bx 9,sI 11 bB.1],[(9,.cells ([dI bB.2]))],[]⟩):=by unfold LM at h;apply g0 (o:=bB);cases a9;replace h:=CX h;exact lp h;replace h:=CY h;obtain⟨o4,h6,h⟩:=bS h;refine gl (S3 rd h6) ?_;obtain⟨r5,h7,h⟩:=bS h;refine gG 48 (.cx false [(0,9)] [] (dI r5.1) [(0,.cells ([dI r5.2]))]) (W1 h7) ?_;exact lp h
theorem ZY(h:Y8 cD aB aE=some bN):AO Try.prog 62 [.d ((D.l dZ) cD),dI aB,dI aE] [] (.tup [dI bN.1,dI bN.2]) []:=by unfold Y8 at h;apply g0 (o:=bN);refine gQ (of_decide_eq_true rfl:(4:Int)≠0)<|gQ (of_decide_eq_true rfl:(4:Int)≠0)<|gQ (of_decide_eq_true rfl:(4:Int)≠0) ?_;obtain⟨o6,h8,h⟩:=bS h;refine gl (S2 none h8) ?_;refine iB 51 h (fun h=>?_) fun h=>?_;exact lf h;refine iB 54 h (fun h=>?_) fun h=>?_;exact lf h;exact lf h
def OQ(us:List Value)(s6 s7:Int)(w0:List Int):St:=⟨sp 32 0 [rx 0,sI 6 s6,sI 7 s7],[rW 0 3 1 dZ w0,(997,.vals [.row 0] us)],[]⟩
def OR(us:List Value)(o:(List Int)):Ex×St:=(.exit 0,⟨sp 32 0 [],[rW 0 3 1 dZ o,(997,.vals [.row 0] us)],[]⟩)
theorem Si(rd:Option Nat)(us:List Value)(h:JH aB aE cD=some cE):Lq 63 rd 14 (OQ us aB aE cD) ((OR us) cE):=
 lL (fun s:Int×Int×List Int=>OQ us s.1 s.2.1 s.2.2) (OR us) (aB,aE,cD) (fun⟨aB,aE,cD⟩ o h=>by
 unfold EF at h
 refine iB 13 h (fun h=>?_) fun h=>?_
 obtain⟨h2,h⟩:=cS h
 refine gQ h2.1<|gQ (AD dZ h2.2) ?_
 obtain⟨x1,h3,h⟩:=xS h
 refine gG 21 (.el (dZ x1)) (AF dZ h3)<|gW 10026 (.sl ((cD.set aB.toNat x1).map dZ)) ?_
 obtain⟨h4,h⟩:=cS h
 refine gQ h4.1<|gQ (AD dZ h4.2) ?_
 obtain⟨x2,h5,h⟩:=xS h
 refine gG 25 (.el (dZ x2)) (AF dZ h5)<|gW 10027 (.sl (((cD.set aB.toNat x1).set aE.toNat x2).map dZ)) ?_
 obtain⟨h6,h⟩:=cS h
 refine gQ h6.1<|gQ (AD dZ h6.2) ?_
 obtain⟨h7,h⟩:=cS h
 refine gQ (Ar dZ h7)<|gQ (AP dZ cD aB x1) ?_
 obtain⟨h8,h⟩:=cS h
 refine gQ h8.1<|gQ (AD dZ h8.2) ?_
 obtain⟨h9,h⟩:=cS h
 refine gQ (Ar dZ h9)<|gQ (AP dZ (cD.set aB.toNat x1) aE x2) ?_
 exact lb h
 exact lb h) h
theorem ZS(h:Xx aB aE cD=some cF):AO Try.prog 63 [.row 0,dI aB,dI aE] [rW 0 3 1 dZ cD] (.tup []) [rW 0 3 1 dZ cF]:=by unfold Xx at h;refine XG.call (ks:=[0]) mixed fun us=>?_;apply g0 (o:=cF);obtain⟨o3,h10,h⟩:=bS h;refine gl (Si none us h10) ?_;exact lX h (lv [] [0,997])
def MG(us:List Value)(s1 s2 s8:Int)(w0:List Int)(s7:Int):St:=⟨sp 133 0 [rx 0,sI 1 s1,sI 2 s2,sI 7 s7,sI 8 s8],[rW 0 3 1 dZ w0,(997,.vals [.row 0] us)],[]⟩
def MH(us:List Value)(s1 s2 s8:Int)(w0:List Int)(o:Int):Ex×St:=(.exit 2,⟨sp 133 0 [rx 0,sI 1 s1,sI 2 s2,sI 7 o,sI 8 s8],[rW 0 3 1 dZ w0,(997,.vals [.row 0] us)],[]⟩)
theorem Qz(rd:Option Nat)(us:List Value)(h:Iv aB aE aZ cD bG=some bK):Lq 64 rd 3728 (MG us aB aE aZ cD bG) ((MH us aB aE aZ cD) bK):=
 lL (fun s:Int=>MG us aB aE aZ cD s) (MH us aB aE aZ cD) bG (fun bG o h=>by
 unfold DG at h
 refine iB 20 h (fun h=>?_) fun h=>?_
 obtain⟨h3,h⟩:=cS h
 refine gQ h3.1<|gQ (AD dZ h3.2) ?_
 obtain⟨x1,h4,h⟩:=xS h
 refine gG 24 (.el (dZ x1)) (AF dZ h4) ?_
 obtain⟨h5,h⟩:=cS h
 refine gQ h5.1<|gQ (AD dZ h5.2) ?_
 obtain⟨x2,h6,h⟩:=xS h
 refine gG 29 (.el (dZ x2)) (AF dZ h6) ?_
 obtain⟨r3,h7,h⟩:=bS h
 refine gC 30 (Cj h7) ?_
 refine iB 32 h (fun h=>?_) fun h=>?_
 exact lb h
 exact lb h
 exact lb h) h
def MI(us:List Value)(s1 s2:Int)(s7 s8 s9:Int)(w0:List Int):St:=⟨sp 133 0 [rx 0,sI 1 s1,sI 2 s2,sI 7 s7,sI 8 s8,sI 9 s9],[rW 0 3 1 dZ w0,(997,.vals [.row 0] us)],[]⟩
def MJ(us:List Value)(s1 s2:Int)(s7 s8:Int)(o:(List Int)):Ex×St:=(.exit 4,⟨sp 133 0 [rx 0,sI 1 s1,sI 2 s2,sI 7 s7,sI 8 s8],[rW 0 3 1 dZ o,(997,.vals [.row 0] us)],[]⟩)
theorem Q0(rd:Option Nat)(us:List Value)(h:Iw aB aE aZ bG bK cD=some cE):Lq 64 rd 477674 (MI us aB aE aZ bG bK cD) ((MJ us aB aE aZ bG) cE):=
 lL (fun s:Int×List Int=>MI us aB aE aZ bG s.1 s.2) (MJ us aB aE aZ bG) (bK,cD) (fun⟨bK,cD⟩ o h=>by
 unfold DH at h
 refine iB 65 h (fun h=>?_) fun h=>?_
 obtain⟨h22,h⟩:=cS h
 refine gQ h22.1<|gQ (AD dZ h22.2) ?_
 obtain⟨x7,h23,h⟩:=xS h
 refine gG 71 (.el (dZ x7)) (AF dZ h23) ?_
 obtain⟨h24,h⟩:=cS h
 refine gQ h24.1<|gQ (AD dZ h24.2) ?_
 obtain⟨x8,h25,h⟩:=xS h
 refine gG 76 (.el (dZ x8)) (AF dZ h25) ?_
 obtain⟨r9,h26,h⟩:=bS h
 refine gC 77 (Cj h26) ?_
 refine iB 78 h (fun h=>?_) fun h=>?_
 exact lb h
 obtain⟨h28,h⟩:=cS h
 refine gQ h28.1<|gQ (AD dZ h28.2) ?_
 obtain⟨x10,h29,h⟩:=xS h
 refine gG 88 (.el (dZ x10)) (AF dZ h29)<|gW 10093 (.sl ((cD.set bK.toNat x10).map dZ)) ?_
 obtain⟨h30,h⟩:=cS h
 refine gQ h30.1<|gQ (AD dZ h30.2) ?_
 obtain⟨x11,h31,h⟩:=xS h
 refine gG 92 (.el (dZ x11)) (AF dZ h31)<|gW 10094 (.sl (((cD.set bK.toNat x10).set (AA .sub .i64 bK 1).toNat x11).map dZ)) ?_
 obtain⟨h32,h⟩:=cS h
 refine gQ h32.1<|gQ (AD dZ h32.2) ?_
 obtain⟨h33,h⟩:=cS h
 refine gQ (Ar dZ h33)<|gQ (AP dZ cD bK x10) ?_
 obtain⟨h34,h⟩:=cS h
 refine gQ h34.1<|gQ (AD dZ h34.2) ?_
 obtain⟨h35,h⟩:=cS h
 refine gQ (Ar dZ h35)<|gQ (AP dZ (cD.set bK.toNat x10) (AA .sub .i64 bK 1) x11) ?_
 exact lb h
 exact lb h) h
theorem Qw(rd:Option Nat)(us:List Value)(h:It aB aE aZ bG a9 cD=some cE):Lq 64 rd 59709 ⟨sp 133 0 [rx 0,sI 1 aB,sI 2 aE,sI 7 aZ,sI 8 bG,sD 61 D.b a9],[rW 0 3 1 dZ cD,(997,.vals [.row 0] us)],[]⟩ (.normal,⟨sp 133 0 [rx 0,sI 1 aB,sI 2 aE,sI 7 aZ,sI 8 bG],[rW 0 3 1 dZ cE,(997,.vals [.row 0] us)],[]⟩):=by unfold It at h;apply g0 (o:=cE);cases a9;replace h:=CX h;exact lp h;replace h:=CY h;obtain⟨o12,h36,h⟩:=bS h;refine gl (Q0 rd us h36) ?_;exact lp h
def MK(us:List Value)(s1 s2:Int)(s7 s8 s10:Int)(w0:List Int):St:=⟨sp 133 0 [rx 0,sI 1 s1,sI 2 s2,sI 7 s7,sI 8 s8,sI 10 s10],[rW 0 3 1 dZ w0,(997,.vals [.row 0] us)],[]⟩
end Go.Ac
