/-
  Texts V2, V3, V4, V, R01A, R01B, R01C, R01D of this proof, joined.
-/
import Derived.Test.YthhnadeoioeniaaGreatP9
set_option linter.unusedVariables false
set_option maxRecDepth 100000
namespace Go.Proofs.YthhnadeoioeniaaGreat
open Go.Abs
def Z7:Env:=envA [(4,ua 2 3 (ua 7 3 (ua 13 36 ([.dead 4,.dead 19,.dead 24,.dead 29,.dead 44])))),(10,(.undef 0)::ua 2 3 (ua 6 43 (ua 52 17 ([.dead 6,.dead 66]))))] [(6,27,[],[])] [] [] []
def ZiL (Q:QD):Post:=blockK 0 (seqJ Z7 (fnAt [1,1,1] Tryz.f62) (endK Z7 Tryz.f62 Q))
def ZiX (Q:QD):Post:=blockK 2 (seqJ Z7 (fnAt [1,1,1,1] Tryz.f62) (endK Z7 Tryz.f62 Q))
@[irreducible] def ZaI (Q:QD) (m1:Nat) (x49:LL) (x50 x51:Int):Prop :=
 iter (adj (Z7.adj 10)) (evCode Z7 (fnAt [1,1,1,0,1,0,0] Tryz.f62)) (ZiX Q) m1 ⟨.undef::.skip::un 3 (.skip::un 43 ((.v (.sl Zk) (V.l x49))::(.v (.int .i64) (V.i x50))::(.v (.int .i64) (V.i x51))::un 17 ([]))),dd 69 ([])⟩ []
@[irreducible] def ZaG (Q:QD) (m0:Nat) (x0 x10:LL) (x11 x12:Int):Prop :=
 iter (adj (Z7.adj 4)) (evCode Z7 (fnAt [1,1,0,1,0,0] Tryz.f62)) (ZiL Q) m0 ⟨(.v (.sl Zk) (V.l x0))::.skip::un 3 (sk 2 (un 3 ((.v (.sl Zk) (V.l x10))::(.v (.int .i64) (V.i x11))::(.v (.int .i64) (V.i x12))::un 36 (sk 20 ([]))))),dd 69 ([])⟩ []
def ZiI (Q:QD) (m1:Nat) (x49:LL) (x50 x51:Int):Prop :=
 iff (decide (x51<x50)) (0≤x51∧x51<x49.length∧iff (decide (((((x49.getD x51.toNat []).drop 0).headD V.none).int)<(1:Int))) (True∧Q (.v (.int .i64) (V.i 2)) []) (iff (decide (((((x49.getD x51.toNat []).drop 0).headD V.none).int) > (1048576:Int))) (True∧Q (.v (.int .i64) (V.i 2)) []) (cl Zay [.v (.sl ZT) ((((x49.getD x51.toNat []).drop 0).tail).headD V.none),.fn ZN []] [] fun r1 H2=>r1=(.v .bool (r1.V))∧H2=[]∧iff r1.V.bool (True∧Q (.v (.int .i64) (V.i 2)) []) (ZaI Q m1 x49 x50 (IntKind.i64.wrap (x51+(1:Int))))))) (True∧Q (.v (.int .i64) (V.i 0)) [])
theorem Zhu (Q:QD) (m1:Nat) (x49:LL) (x50 x51:Int):ZaI Q (m1+1) x49 x50 x51=ZiI Q m1 x49 x50 x51:=by kernel_rfl
theorem ZgR (Q:QD) (x49:LL) (n:Nat) (hb:n≤big) (J:Nat→Prop)
  (step:∀ (k:Nat),k<n→J k→∀ K:Prop,(J (k+1)→K)→(0≤(k:Int)∧(k:Int)<x49.length∧iff (decide (((((x49.getD k []).drop 0).headD V.none).int)<(1:Int))) (True∧Q (.v (.int .i64) (V.i 2)) []) (iff (decide (((((x49.getD k []).drop 0).headD V.none).int) > (1048576:Int))) (True∧Q (.v (.int .i64) (V.i 2)) []) (cl Zay [.v (.sl ZT) ((((x49.getD k []).drop 0).tail).headD V.none),.fn ZN []] [] fun r1 H2=>r1=(.v .bool (r1.V))∧H2=[]∧iff r1.V.bool (True∧Q (.v (.int .i64) (V.i 2)) []) (K)))))
  (last:J n→(True∧Q (.v (.int .i64) (V.i 0)) []))
  (k:Nat) (le0:k≤n) (hj:J k):∃ m1,ZaI Q m1 x49 (n:Int) ((k:Int)):=by
 exact rangeG0 n hb J (fun m1 i=>ZaI Q m1 x49 (n:Int) i) (fun m1 i=>Zhu Q m1 x49 (n:Int) i) (fun k hl_ hj_ m_ ih_=>step k hl_ hj_ _ ih_) last k le0 hj
def Zh8 (Q:QD) (m0:Nat) (x0 x10:LL) (x11 x12:Int):Prop :=
 iff (decide (x12<x11)) (0≤x12∧x12<x10.length∧iff (decide ((((((((x10.getD x12.toNat []).drop 0).tail).headD V.none).list).length:Int)) > (8:Int))) (True∧Q (.v (.int .i64) (V.i 4)) []) (0≤(0:Int)∧(0:Int)<x0.length∧iff ((((((((x10.getD x12.toNat []).drop 0).tail).headD V.none).list).length:Int)) != ((((((x0.getD ((0:Int)).toNat []).drop 1).headD V.none).list).length:Int))) (True∧Q (.v (.int .i64) (V.i 4)) []) (iff (decide (x12 > (0:Int))) (0≤(IntKind.i64.wrap (x12 - (1:Int)))∧(IntKind.i64.wrap (x12 - (1:Int)))<x0.length∧cl Zbk [.v (.sl ZT) (((x0.getD ((IntKind.i64.wrap (x12 - (1:Int)))).toNat []).drop 1).headD V.none),.v (.sl ZT) ((((x10.getD x12.toNat []).drop 0).tail).headD V.none)] [] fun r1 H2=>r1=(.v (.int .i64) (r1.V))∧H2=[]∧iff (decide (r1.V.int≥(0:Int))) (True∧Q (.v (.int .i64) (V.i 4)) []) (ZaG Q m0 x0 x10 x11 (IntKind.i64.wrap (x12+(1:Int))))) (ZaG Q m0 x0 x10 x11 (IntKind.i64.wrap (x12+(1:Int))))))) ((x0.length≤big→∃ m1,ZaI Q m1 x0 ((x0.length:Int)) 0))
theorem Zg6 (Q:QD) (m0:Nat) (x0 x10:LL) (x11 x12:Int):ZaG Q (m0+1) x0 x10 x11 x12=Zh8 Q m0 x0 x10 x11 x12:=by kernel_rfl
theorem ZgL (Q:QD) (x0 x10:LL) (n:Nat) (hb:n≤big) (J:Nat→Prop)
  (step:∀ (k:Nat),k<n→J k→∀ K:Prop,(J (k+1)→K)→(0≤(k:Int)∧(k:Int)<x10.length∧iff (decide ((((((((x10.getD k []).drop 0).tail).headD V.none).list).length:Int)) > (8:Int))) (True∧Q (.v (.int .i64) (V.i 4)) []) (0≤(0:Int)∧(0:Int)<x0.length∧iff ((((((((x10.getD k []).drop 0).tail).headD V.none).list).length:Int)) != ((((((x0.getD ((0:Int)).toNat []).drop 1).headD V.none).list).length:Int))) (True∧Q (.v (.int .i64) (V.i 4)) []) (iff (decide ((k:Int) > (0:Int))) (0≤(IntKind.i64.wrap ((k:Int) - (1:Int)))∧(IntKind.i64.wrap ((k:Int) - (1:Int)))<x0.length∧cl Zbk [.v (.sl ZT) (((x0.getD ((IntKind.i64.wrap ((k:Int) - (1:Int)))).toNat []).drop 1).headD V.none),.v (.sl ZT) ((((x10.getD k []).drop 0).tail).headD V.none)] [] fun r1 H2=>r1=(.v (.int .i64) (r1.V))∧H2=[]∧iff (decide (r1.V.int≥(0:Int))) (True∧Q (.v (.int .i64) (V.i 4)) []) (K)) (K)))))
  (last:J n→((x0.length≤big→∃ m1,ZaI Q m1 x0 ((x0.length:Int)) 0)))
  (k:Nat) (le0:k≤n) (hj:J k):∃ m0,ZaG Q m0 x0 x10 (n:Int) ((k:Int)):=by
 exact rangeG0 n hb J (fun m0 i=>ZaG Q m0 x0 x10 (n:Int) i) (fun m0 i=>Zg6 Q m0 x0 x10 (n:Int) i) (fun k hl_ hj_ m_ ih_=>step k hl_ hj_ _ ih_) last k le0 hj
def Zkb (a0:LL) (Q:QD):Prop :=
 (a0.length≤big→iff (decide (((a0.length:Int)) > (64:Int))) (True∧Q (.v (.int .i64) (V.i 3)) []) ((a0.length≤big→∃ m0,ZaG Q m0 a0 a0 ((a0.length:Int)) 0)))
theorem ZkD (a0:LL) (Q:QD) (h:Zkb a0 Q):cl ZdY [.v (.sl Zk) (V.l a0)] [] Q :=
 acalls2 (E:=Z7) (envOk _ _ _ _ _) 0 Tryz.func62 (by kernel_rfl) h
def Zl9:Env:=envA [] [] [] [] []
def ZkF (a0 a1:Int) (Q:QD):Prop :=
 cl ZgS [.v (.int .u64) (V.i a0),.v (.int .u64) (V.i a1)] [] fun r1 H2=>r1=(.tup [.v (.int .u64) ((r1.parts.headD .undef).V),.v (.int .u64) ((r1.parts.tail.headD .undef).V)])∧H2=[]∧iff ((((r1.parts.headD .undef).V).int) == (0:Int)) ((True∧True∧True)∧Q (.tup [.v (.int .u64) ((r1.parts.tail.headD .undef).V),.v .bool (V.b (decide ((((r1.parts.tail.headD .undef).V).int)≤(4611686018427387904:Int))))]) []) ((True∧True∧True)∧Q (.tup [.v (.int .u64) ((r1.parts.tail.headD .undef).V),.v .bool (V.b false)]) [])
theorem ZmO (a0 a1:Int) (Q:QD) (h:ZkF a0 a1 Q):cl Zjr [.v (.int .u64) (V.i a0),.v (.int .u64) (V.i a1)] [] Q :=
 acalls2 (E:=Zl9) (envOk _ _ _ _ _) 0 Tryz.func73 (by kernel_rfl) h
def ZaS:Env:=envA [(8,ua 2 9 (ua 12 8 (ua 21 6 ([.dead 26]))))] [] [] [] []
def Zgs (Q:QD):Post:=blockK 0 (seqJ ZaS (fnAt [1,1,1,1,1] Tryz.f77) (endK ZaS Tryz.f77 Q))
@[irreducible] def Za9 (Q:QD) (m0:Nat) (x0:LL) (y20_x:V) (y20n:Nat) (y20s:List Nat):Prop :=
 iter (adj (ZaS.adj 8)) (evCode ZaS (fnAt [1,1,1,1,0,1,0,0] Tryz.f77)) (Zgs Q) m0 ⟨(.v (.sl Zap) (V.l x0))::.skip::un 9 (.skip::un 8 ((.ptr (.loc 20) 0)::un 6 (sk 2 ([])))),dd 20 ((.iter Zek (.v (.mp Zek) (y20_x)) y20n y20s)::dd 8 ([]))⟩ []
def Zeg (Q:QD) (m0:Nat) (x0:LL) (y20_x:V) (y20n:Nat) (y20s:List Nat):Prop :=
 y20_x.list.length=y20n∧((∀ j:Nat,j<y20n→j∈y20s)→cl Za5 [.v (.sl Zap) (V.l x0),.fn ZaF []] [] fun r2 H3=>r2=(.v .bool (r2.V))∧H3=[]∧iff r2.V.bool (True∧Q (.v (.int .i64) (V.i 7)) []) (True∧Q (.v (.int .i64) (V.i 0)) []))∧(∀ j1:Nat,j1<y20n→j1 ∉ y20s→y20s.length<y20n→y20_x.list.length=y20n∧cl ZeC [.v .str ((y20_x.list.getD j1 []).headD V.none)] [] fun r4 H5=>r4=(.v .bool (r4.V))∧H5=[]∧iff r4.V.bool (True∧Q (.v (.int .i64) (V.i 6)) []) (Za9 Q m0 x0 y20_x y20n (j1::y20s)))
theorem ZfQ (Q:QD) (m0:Nat) (x0:LL) (y20_x:V) (y20n:Nat) (y20s:List Nat):Za9 Q (m0+1) x0 y20_x y20n y20s=Zeg Q m0 x0 y20_x y20n y20s:=by kernel_rfl
theorem ZfM (Q:QD):RuleG4 (Za9 Q) (Zeg Q):=ruleG4 _ _ (ZfQ Q)
def ZeH (a0:LL) (Q:QD):Prop :=
 cl Zee [.v (.sl Zap) (V.l a0)] [] fun r1 H2=>r1=(.v (.int .i64) (r1.V))∧H2=[]∧iff (r1.V.int != (0:Int)) (True∧Q (.v (.int .i64) (r1.V)) []) (cl Zfo [.v (.sl Zap) (V.l a0)] [] fun r3 H4=>r3=(.tup [.v (.mp Zek) ((r3.parts.headD .undef).V),.v .bool ((r3.parts.tail.headD .undef).V)])∧H4=[]∧iff (!(((r3.parts.tail.headD .undef).V).bool)) (True∧Q (.v (.int .i64) (V.i 6)) []) (∃ m0,Za9 Q m0 a0 ((r3.parts.headD .undef).V) ((((r3.parts.headD .undef).V).list).length) (([]:List Nat))))
theorem ZiP (a0:LL) (Q:QD) (h:ZeH a0 Q):cl ZdV [.v (.sl Zap) (V.l a0)] [] Q :=
 acalls2 (E:=ZaS) (envOk _ _ _ _ _) 0 Tryz.func77 (by kernel_rfl) h
def ZgD:Env:=envA [(3000008,ua 1 2 ((.undef 7)::ua 9 12 (ua 23 27 ([]))))] [(8,11,[],[])] [] [] [8]
@[irreducible] def ZiA (Q:QD) (x0:LL) (x8:V) (y4_0:ByteArray) (y4_1:Bool) (y4_2:LL) (y5_0:Int) (y5_1:LL) (y6_0:ByteArray) (y6_1:Bool):Prop :=
 joinM (evCode ZgD (fnAt [1,1,1,1,1,1] Tryz.f83)) ⟨(.v (.sl Zap) (V.l x0))::un 2 (.skip::(.ptr (.loc 4) 0)::(.ptr (.loc 5) 0)::(.ptr (.loc 6) 0)::.undef::(.v (.sl Z2) (x8))::un 12 (sk 2 (un 27 (sk 12 ([]))))),dd 4 ((.cells [.v .str (V.s y4_0),.v .bool (V.b y4_1),.v (.sl Za) (V.l y4_2)])::(.cells [.v (.int .i64) (V.i y5_0),.v (.sl ZT) (V.l y5_1)])::(.cells [.v .str (V.s y6_0),.v .bool (V.b y6_1),.nil])::dd 55 ([]))⟩ [] (endK ZgD Tryz.f83 Q)
def ZiN (Q:QD) (x0:LL) (x8:V) (y4_0:ByteArray) (y4_1:Bool) (y4_2:LL) (y5_0:Int) (y5_1:LL) (y6_0:ByteArray) (y6_1:Bool):Prop :=
 0≤y5_0∧y5_0<x0.length∧(∃ r1:D,cl ZeF [.v (.sl Z2) (x8),.agg [.v .str (((x0.getD y5_0.toNat []).drop 3).headD V.none),.v .bool ((((x0.getD y5_0.toNat []).drop 3).tail).headD V.none),.v (.sl Za) (((((x0.getD y5_0.toNat []).drop 3).tail).tail).headD V.none)]] [] (fun r H'=>r=(.agg [.v .str ((r1.cells.headD .undef).V),.v .bool ((r1.cells.tail.headD .undef).V),.v (.sl Za) ((r1.cells.tail.tail.headD .undef).V)])∧H'=[])∧cl Zij [.agg [.v .str (V.s y4_0),.v .bool (V.b y4_1),.v (.sl Za) (V.l y4_2)],.v (.sl ZT) (V.l y5_1),.agg [.v .str ((r1.cells.headD .undef).V),.v .bool ((r1.cells.tail.headD .undef).V),.v (.sl Za) ((r1.cells.tail.tail.headD .undef).V)]] [] fun r2 H3=>r2=(.agg [.v .str ((r2.cells.headD .undef).V),.v .bool ((r2.cells.tail.headD .undef).V),.v (.sl Za) ((r2.cells.tail.tail.headD .undef).V)])∧H3=[]∧((True∧True∧True∧True)∧True∧True)∧Q (.tup [.agg [.v .str ((r2.cells.headD .undef).V),.v .bool ((r2.cells.tail.headD .undef).V),.v (.sl Za) ((r2.cells.tail.tail.headD .undef).V)],.v (.int .i64) (V.i 0)]) [])
theorem Zkn (Q:QD) (x0:LL) (x8:V) (y4_0:ByteArray) (y4_1:Bool) (y4_2:LL) (y5_0:Int) (y5_1:LL) (y6_0:ByteArray) (y6_1:Bool):ZiA Q x0 x8 y4_0 y4_1 y4_2 y5_0 y5_1 y6_0 y6_1=ZiN Q x0 x8 y4_0 y4_1 y4_2 y5_0 y5_1 y6_0 y6_1:=by kernel_rfl
def ZkJ (a0:LL) (a1_0:ByteArray) (a1_1:Bool) (a1_2:LL) (a2_0:Int) (a2_1:LL) (Q:QD):Prop :=
 cl ZhO [.v (.sl Zap) (V.l a0),.agg [.v .str (V.s a1_0),.v .bool (V.b a1_1),.v (.sl Za) (V.l a1_2)],.agg [.v (.int .i64) (V.i a2_0),.v (.sl ZT) (V.l a2_1)]] [] fun r1 H2=>r1=(.tup [.v (.sl Z2) ((r1.parts.headD .undef).V),.v (.int .i64) ((r1.parts.tail.headD .undef).V)])∧H2=[]∧iff ((((r1.parts.tail.headD .undef).V).int) != (0:Int)) (((True∧True∧True∧True)∧True∧True)∧Q (.tup [.agg [.v .str (V.s (ByteArray.mk #[])),.v .bool (V.b false),.nil],.v (.int .i64) ((r1.parts.tail.headD .undef).V)]) []) (0≤a2_0∧a2_0<a0.length∧cl ZeL [.v (.sl Z2) ((r1.parts.headD .undef).V),.agg [.v .str (((a0.getD a2_0.toNat []).drop 3).headD V.none),.v .bool ((((a0.getD a2_0.toNat []).drop 3).tail).headD V.none),.v (.sl Za) (((((a0.getD a2_0.toNat []).drop 3).tail).tail).headD V.none)]] [] fun r3 H4=>r3=(.tup [.v (.int .i64) ((r3.parts.headD .undef).V),.v (.int .i64) ((r3.parts.tail.headD .undef).V)])∧H4=[]∧cl Zc0 [.agg [.v .str (V.s a1_0),.v .bool (V.b a1_1),.v (.sl Za) (V.l a1_2)],.v (.sl ZT) (V.l a2_1),.v (.int .i64) ((r3.parts.headD .undef).V),.v (.int .i64) ((r3.parts.tail.headD .undef).V)] [] fun r5 H6=>r5=(.tup [.v (.int .i64) ((r5.parts.headD .undef).V),.v (.int .i64) ((r5.parts.tail.headD .undef).V)])∧H6=[]∧iff (decide ((((r5.parts.headD .undef).V).int) > (4000:Int))) (((True∧True∧True∧True)∧True∧True)∧Q (.tup [.agg [.v .str (V.s (ByteArray.mk #[])),.v .bool (V.b false),.nil],.v (.int .i64) (V.i 3)]) []) (iff (decide ((((r5.parts.tail.headD .undef).V).int) > (200:Int))) (((True∧True∧True∧True)∧True∧True)∧Q (.tup [.agg [.v .str (V.s (ByteArray.mk #[])),.v .bool (V.b false),.nil],.v (.int .i64) (V.i 3)]) []) (ZiA Q a0 ((r1.parts.headD .undef).V) a1_0 a1_1 a1_2 a2_0 a2_1 (ByteArray.mk #[]) false)))
theorem ZmR (a0:LL) (a1_0:ByteArray) (a1_1:Bool) (a1_2:LL) (a2_0:Int) (a2_1:LL) (Q:QD) (h:ZkJ a0 a1_0 a1_1 a1_2 a2_0 a2_1 Q):cl ZgV [.v (.sl Zap) (V.l a0),.agg [.v .str (V.s a1_0),.v .bool (V.b a1_1),.v (.sl Za) (V.l a1_2)],.agg [.v (.int .i64) (V.i a2_0),.v (.sl ZT) (V.l a2_1)]] [] Q :=
 acalls2 (E:=ZgD) (envOk _ _ _ _ _) 0 Tryz.func83 (by kernel_rfl) h
def Zkr:Env:=envA [] [] [] [] []
def Zhy (a0_0:ByteArray) (a0_1:Bool) (a0_2:LL) (Q:QD):Prop :=
 iff a0_1 ((a0_2.length≤big→iff (((a0_2.length:Int)) == (0:Int)) (cl Zbx [.v .str (V.s a0_0),.v .bool (V.b false)] [] fun r1 H2=>r1=(.v .bool (r1.V))∧H2=[]∧True∧Q (.v .bool (r1.V)) []) (True∧Q (.v .bool (V.b false)) []))) ((a0_2.length≤big→iff (decide (((a0_2.length:Int))≤(8:Int))) (cl Zbx [.v .str (V.s a0_0),.v .bool (V.b true)] [] fun r3 H4=>r3=(.v .bool (r3.V))∧H4=[]∧iff r3.V.bool (cl Za4 [.v (.sl Za) (V.l a0_2),.fn Z4 []] [] fun r5 H6=>r5=(.v .bool (r5.V))∧H6=[]∧True∧Q (.v .bool (V.b (!r5.V.bool))) []) (True∧Q (.v .bool (V.b false)) [])) (True∧Q (.v .bool (V.b false)) [])))
theorem ZlF (a0_0:ByteArray) (a0_1:Bool) (a0_2:LL) (Q:QD) (h:Zhy a0_0 a0_1 a0_2 Q):cl ZbB [.agg [.v .str (V.s a0_0),.v .bool (V.b a0_1),.v (.sl Za) (V.l a0_2)]] [] Q :=
 acalls2 (E:=Zkr) (envOk _ _ _ _ _) 0 Tryz.func84 (by kernel_rfl) h
def ZlE:Env:=envA [] [] [] [] []
def ZjP (a0_0:ByteArray) (a0_1:Bool) (a0_2:LL) (Q:QD):Prop :=
 cl ZeR [.agg [.v .str (V.s a0_0),.v .bool (V.b a0_1),.v (.sl Za) (V.l a0_2)]] [] fun r1 H2=>r1=(.v (.int .i64) (r1.V))∧H2=[]∧iff (decide (r1.V.int≤(4000:Int))) (cl Zem [.agg [.v .str (V.s a0_0),.v .bool (V.b a0_1),.v (.sl Za) (V.l a0_2)]] [] fun r3 H4=>r3=(.v (.int .i64) (r3.V))∧H4=[]∧True∧Q (.v .bool (V.b (decide (r3.V.int≤(200:Int))))) []) (True∧Q (.v .bool (V.b false)) [])
theorem ZmG (a0_0:ByteArray) (a0_1:Bool) (a0_2:LL) (Q:QD) (h:ZjP a0_0 a0_1 a0_2 Q):cl ZhP [.agg [.v .str (V.s a0_0),.v .bool (V.b a0_1),.v (.sl Za) (V.l a0_2)]] [] Q :=
 acalls2 (E:=ZlE) (envOk _ _ _ _ _) 0 Tryz.func85 (by kernel_rfl) h
def ZlR:Env:=envA [] [] [1] [] []
def Zmp (a0_0:ByteArray) (a0_1:Bool) (a0_2:LL) (Q:QD):Prop :=
 True∧Q (.fn ZG [.elt Za ([V.s a0_0,V.b a0_1,V.l a0_2]) 0]) []
theorem ZmA (a0_0:ByteArray) (a0_1:Bool) (a0_2:LL) (Q:QD) (h:Zmp a0_0 a0_1 a0_2 Q):cl Zd7 [.agg [.v .str (V.s a0_0),.v .bool (V.b a0_1),.v (.sl Za) (V.l a0_2)]] [] Q :=
 acalls2 (E:=ZlR) (envOk _ _ _ _ _) 0 Tryz.func86 (by kernel_rfl) h
def Zi:Env:=envA [(6,(.undef 1)::ua 4 2 (ua 10 3 (ua 22 2 ((.undef 38)::ua 42 17 ((.dead 10)::(.dead 48)::da 56 2 ([.ownT 8 104 Zh])))))),(16,ua 0 2 (ua 3 3 (ua 10 5 (ua 17 7 (ua 38 36 (ua 77 26 ([.dead 3,.dead 17,.dead 83,.dead 87,.dead 98]))))))),(20,ua 0 2 (ua 3 3 (ua 10 5 (ua 17 2 (ua 20 4 (ua 38 36 (ua 77 10 (ua 88 15 ([.dead 17,.dead 98])))))))))] [(2,11,[],[]),(13,15,[],[])] [] [] []
def Zhk (Q:QD):Post:=blockK 0 (seqJ Zi (fnAt [1,1,1,1] Tryz.f88) (endK Zi Tryz.f88 Q))
def ZcW (Q:QD):Post:=blockK 2 (seqJ Zi (fnAt [1,1,1,1,1,1,1] Tryz.f88) (endK Zi Tryz.f88 Q))
def Zhe (Q:QD) (m1:Nat):Post:=blockK 4 (seqJ Zi (fnAt [1,1,1,1,1,1,0,1,0,0,1,1,0,0,1,1,1] Tryz.f88) (blockK 3 (seqJ Zi (fnAt [1,1,1,1,1,1,0,1,0,0,1,1,1] Tryz.f88) (loopK (adj (Zi.adj 16)) (iter (adj (Zi.adj 16)) (evCode Zi (fnAt [1,1,1,1,1,1,0,1,0,0] Tryz.f88)) (ZcW Q) m1) (ZcW Q)))))
@[irreducible] def Zac (Q:QD) (m1 m2:Nat) (x8n:Nat) (x19 x74:V) (x75 x76:Int) (y73:LL) (y87_x:V) (y87n:Nat) (y87s:List Nat) (y104:LL) (h0_0 h0_1:V):Prop :=
 iter (adj (Zi.adj 20)) (evCode Zi (fnAt [1,1,1,1,1,1,0,1,0,0,1,1,0,0,1,1,0,1,0,0] Tryz.f88)) (Zhe Q m1) m2 ⟨un 2 (.skip::un 3 (sk 2 ((.osl (.loc 104) x8n)::.skip::un 5 ((.mp (.loc 73))::.skip::un 2 ((.v .bool (x19))::un 4 (sk 14 (un 36 ((.v (.sl Zk) (x74))::(.v (.int .i64) (V.i x75))::(.v (.int .i64) (V.i x76))::un 10 ((.ptr (.loc 87) 0)::un 15 ([.skip])))))))))),dd 73 ((.map Zc y73)::dd 13 ((.iter Zc (.v (.mp Zc) (y87_x)) y87n y87s)::dd 16 ([.row Zh y104])))⟩ [.cells [.v (.sl Zg) (h0_0),.v (.sl Zb) (h0_1)]]
@[irreducible] def Z1 (Q:QD) (m1:Nat) (x8n:Nat) (x74:V) (x75 x76:Int) (y73 y104:LL) (h0_0 h0_1:V):Prop :=
 iter (adj (Zi.adj 16)) (evCode Zi (fnAt [1,1,1,1,1,1,0,1,0,0] Tryz.f88)) (ZcW Q) m1 ⟨un 2 (.skip::un 3 (sk 2 ((.osl (.loc 104) x8n)::.skip::un 5 ((.mp (.loc 73))::.skip::un 7 (sk 14 (un 36 ((.v (.sl Zk) (x74))::(.v (.int .i64) (V.i x75))::(.v (.int .i64) (V.i x76))::un 26 ([.skip])))))))),dd 73 ((.map Zc y73)::dd 30 ([.row Zh y104]))⟩ [.cells [.v (.sl Zg) (h0_0),.v (.sl Zb) (h0_1)]]
@[irreducible] def ZaO (Q:QD) (m0:Nat) (x8n:Nat) (x39:LL) (x40 x41:Int) (y3_0:ByteArray) (y3_1:Bool) (y3_2 y104:LL) (h0_0 h0_1:V):Prop :=
 iter (adj (Zi.adj 6)) (evCode Zi (fnAt [1,1,1,0,1,0,0] Tryz.f88)) (Zhk Q) m0 ⟨(.ptr (.own 0) 0)::.undef::.skip::(.ptr (.loc 3) 0)::un 2 (sk 2 ((.osl (.loc 104) x8n)::.skip::un 3 (sk 9 (un 2 (sk 14 (.undef::(.v (.sl Za) (V.l x39))::(.v (.int .i64) (V.i x40))::(.v (.int .i64) (V.i x41))::un 17 (sk 45 ([])))))))),dd 3 ((.cells [.v .str (V.s y3_0),.v .bool (V.b y3_1),.v (.sl Za) (V.l y3_2)])::dd 100 ([.row Zh y104]))⟩ [.cells [.v (.sl Zg) (h0_0),.v (.sl Zb) (h0_1)]]
def ZcR (Q:QD) (m1 m2:Nat) (x8n:Nat) (x19 x74:V) (x75 x76:Int) (y73:LL) (y87_x:V) (y87n:Nat) (y87s:List Nat) (y104:LL) (h0_0 h0_1:V):Prop :=
 y87_x.list.length=y87n∧((∀ j:Nat,j<y87n→j∈y87s)→iff (!x19.bool) ((True∧True∧True)∧Q (.tup [.v (.mp Zc) (V.l ([])),.v (.int .i64) (V.i 3)]) [.cells [.v (.sl Zg) (h0_0),.v (.sl Zb) (h0_1)]]) (Z1 Q m1 x8n x74 x75 (IntKind.i64.wrap (x76+(1:Int))) y73 y104 h0_0 h0_1))∧(∀ j1:Nat,j1<y87n→j1 ∉ y87s→y87s.length<y87n→y87_x.list.length=y87n∧iff x19.bool (cl Zbc [.mp (.own 0),.v .str ((y87_x.list.getD j1 []).headD V.none),.v (.int .u64) (((y87_x.list.getD j1 []).drop 1).headD V.none)] [.map Zc y73] fun r2 H3=>r2=(.v .bool (r2.V))∧H3=[.map Zc ((H3.headD .dead).xs)]∧Zac Q m1 m2 x8n r2.V x74 x75 x76 ((H3.headD .dead).xs) y87_x y87n (j1::y87s) y104 h0_0 h0_1) (Zac Q m1 m2 x8n (V.b false) x74 x75 x76 y73 y87_x y87n (j1::y87s) y104 h0_0 h0_1))
theorem Zf4 (Q:QD) (m1 m2:Nat) (x8n:Nat) (x19 x74:V) (x75 x76:Int) (y73:LL) (y87_x:V) (y87n:Nat) (y87s:List Nat) (y104:LL) (h0_0 h0_1:V):Zac Q m1 (m2+1) x8n x19 x74 x75 x76 y73 y87_x y87n y87s y104 h0_0 h0_1=ZcR Q m1 m2 x8n x19 x74 x75 x76 y73 y87_x y87n y87s y104 h0_0 h0_1:=by kernel_rfl
theorem Zgb (Q:QD) (m1:Nat):RuleG12 (Zac Q m1) (ZcR Q m1):=ruleG12 _ _ (Zf4 Q m1)
def Zhh (Q:QD) (m1:Nat) (x8n:Nat) (x74:V) (x75 x76:Int) (y73 y104:LL) (h0_0 h0_1:V):Prop :=
 iff (decide (x76<x75)) (0≤x76∧x76<x74.list.length∧cl ZdD [.agg [.v (.int .u64) (((x74.list.getD x76.toNat []).drop 0).headD V.none),.v (.sl ZT) ((((x74.list.getD x76.toNat []).drop 0).tail).headD V.none)],.osl (.own 0) x8n] [.row Zh y104] fun r1 H2=>r1=(.tup [.v (.mp Zc) ((r1.parts.headD .undef).V),.v .bool ((r1.parts.tail.headD .undef).V)])∧H2=[.row Zh ((H2.headD .dead).xs)]∧∃ m2,Zac Q m1 m2 x8n ((r1.parts.tail.headD .undef).V) x74 x75 x76 y73 ((r1.parts.headD .undef).V) ((((r1.parts.headD .undef).V).list).length) (([]:List Nat)) ((H2.headD .dead).xs) h0_0 h0_1) ((True∧True∧True)∧Q (.tup [.v (.mp Zc) (V.l y73),.v (.int .i64) (V.i 0)]) [.cells [.v (.sl Zg) (h0_0),.v (.sl Zb) (h0_1)]])
theorem Zgh (Q:QD) (m1:Nat) (x8n:Nat) (x74:V) (x75 x76:Int) (y73 y104:LL) (h0_0 h0_1:V):Z1 Q (m1+1) x8n x74 x75 x76 y73 y104 h0_0 h0_1=Zhh Q m1 x8n x74 x75 x76 y73 y104 h0_0 h0_1:=by kernel_rfl
theorem ZfC (Q:QD) (x8n:Nat) (x74 h0_0 h0_1:V) (n:Nat) (hb:n≤big) (J:Nat→LL→LL→Prop)
  (step:∀ (k:Nat) (y73 y104:LL),k<n→J k y73 y104→∀ m1:Nat,(∀ (y73' y104':LL),J (k+1) y73' y104'→Z1 Q m1 x8n x74 (n:Int) (IntKind.i64.wrap ((k:Int)+(1:Int))) y73' y104' h0_0 h0_1)→(0≤(k:Int)∧(k:Int)<x74.list.length∧cl ZdD [.agg [.v (.int .u64) (((x74.list.getD k []).drop 0).headD V.none),.v (.sl ZT) ((((x74.list.getD k []).drop 0).tail).headD V.none)],.osl (.own 0) x8n] [.row Zh y104] fun r1 H2=>r1=(.tup [.v (.mp Zc) ((r1.parts.headD .undef).V),.v .bool ((r1.parts.tail.headD .undef).V)])∧H2=[.row Zh ((H2.headD .dead).xs)]∧∃ m2,Zac Q m1 m2 x8n ((r1.parts.tail.headD .undef).V) x74 (n:Int) (k:Int) y73 ((r1.parts.headD .undef).V) ((((r1.parts.headD .undef).V).list).length) (([]:List Nat)) ((H2.headD .dead).xs) h0_0 h0_1))
  (last:∀ (y73 y104:LL),J n y73 y104→((True∧True∧True)∧Q (.tup [.v (.mp Zc) (V.l y73),.v (.int .i64) (V.i 0)]) [.cells [.v (.sl Zg) (h0_0),.v (.sl Zb) (h0_1)]]))
  (k:Nat) (y73 y104:LL) (le0:k≤n) (hj:J k y73 y104):∃ m1,Z1 Q m1 x8n x74 (n:Int) ((k:Int)) y73 y104 h0_0 h0_1:=by
 exact rangeG2 n hb J (fun m1 i y73 y104=>Z1 Q m1 x8n x74 (n:Int) i y73 y104 h0_0 h0_1) (fun m1 i y73 y104=>Zgh Q m1 x8n x74 (n:Int) i y73 y104 h0_0 h0_1) (fun k y73 y104 hl_ hj_ m_ ih_=>step k y73 y104 hl_ hj_ m_ ih_) last k y73 y104 le0 hj
def Zhr (Q:QD) (m0:Nat) (x8n:Nat) (x39:LL) (x40 x41:Int) (y3_0:ByteArray) (y3_1:Bool) (y3_2 y104:LL) (h0_0 h0_1:V):Prop :=
 iff (decide (x41<x40)) (0≤x41∧x41<x39.length∧cl ZaX [.ptr (.own 0) 0,.agg [.v .str (((x39.getD x41.toNat []).drop 0).headD V.none),.v .bool ((((x39.getD x41.toNat []).drop 0).tail).headD V.none),.v (.sl Za) (((((x39.getD x41.toNat []).drop 0).tail).tail).headD V.none)]] [.cells [.v (.sl Zg) (h0_0),.v (.sl Zb) (h0_1)]] fun r1 H2=>r1=(.tup [.v (.mp Zc) ((r1.parts.headD .undef).V),.v (.int .i64) ((r1.parts.tail.headD .undef).V)])∧H2=[.cells [.v (.sl Zg) ((((H2.headD .dead).cs).headD .undef).V),.v (.sl Zb) (((((H2.headD .dead).cs).tail).headD .undef).V)]]∧iff ((((r1.parts.tail.headD .undef).V).int) != (0:Int)) ((True∧True∧True)∧Q (.tup [.v (.mp Zc) (V.l ([])),.v (.int .i64) ((r1.parts.tail.headD .undef).V)]) [.cells [.v (.sl Zg) ((((H2.headD .dead).cs).headD .undef).V),.v (.sl Zb) (((((H2.headD .dead).cs).tail).headD .undef).V)]]) (y104.length=x8n∧x8n+([[(r1.parts.headD .undef).V]]).length≤lim∧ZaO Q m0 (x8n+([[(r1.parts.headD .undef).V]]).length) x39 x40 (IntKind.i64.wrap (x41+(1:Int))) y3_0 y3_1 y3_2 (y104++([[(r1.parts.headD .undef).V]])) ((((H2.headD .dead).cs).headD .undef).V) (((((H2.headD .dead).cs).tail).headD .undef).V))) ((∃ r3:D,cl Zu [.v (.sl Zg) (h0_0),.agg [.v .str (V.s y3_0),.v (.int .i64) (V.i ((y3_2.length:Int)))]] [] (fun r H'=>r=(.tup [.v (.sl Zk) ((r3.parts.headD .undef).V),.v .bool ((r3.parts.tail.headD .undef).V)])∧H'=[])∧((((r3.parts.headD .undef).V).list).length≤big→∃ m1,Z1 Q m1 x8n ((r3.parts.headD .undef).V) (((((r3.parts.headD .undef).V).list).length:Int)) 0 (([]:List (List V))) y104 h0_0 h0_1)))
theorem Zgi (Q:QD) (m0:Nat) (x8n:Nat) (x39:LL) (x40 x41:Int) (y3_0:ByteArray) (y3_1:Bool) (y3_2 y104:LL) (h0_0 h0_1:V):ZaO Q (m0+1) x8n x39 x40 x41 y3_0 y3_1 y3_2 y104 h0_0 h0_1=Zhr Q m0 x8n x39 x40 x41 y3_0 y3_1 y3_2 y104 h0_0 h0_1:=by kernel_rfl
theorem ZfU (Q:QD) (x39:LL) (y3_0:ByteArray) (y3_1:Bool) (y3_2:LL) (n:Nat) (hb:n≤big) (J:Nat→Nat→LL→V→V→Prop)
  (step:∀ (k:Nat) (x8n:Nat) (y104:LL) (h0_0 h0_1:V),k<n→J k x8n y104 h0_0 h0_1→∀ K:Nat→LL→V→V→Prop,(∀ (x8n':Nat) (y104':LL) (h0_0' h0_1':V),J (k+1) x8n' y104' h0_0' h0_1'→K x8n' y104' h0_0' h0_1')→(0≤(k:Int)∧(k:Int)<x39.length∧cl ZaX [.ptr (.own 0) 0,.agg [.v .str (((x39.getD k []).drop 0).headD V.none),.v .bool ((((x39.getD k []).drop 0).tail).headD V.none),.v (.sl Za) (((((x39.getD k []).drop 0).tail).tail).headD V.none)]] [.cells [.v (.sl Zg) (h0_0),.v (.sl Zb) (h0_1)]] fun r1 H2=>r1=(.tup [.v (.mp Zc) ((r1.parts.headD .undef).V),.v (.int .i64) ((r1.parts.tail.headD .undef).V)])∧H2=[.cells [.v (.sl Zg) ((((H2.headD .dead).cs).headD .undef).V),.v (.sl Zb) (((((H2.headD .dead).cs).tail).headD .undef).V)]]∧iff ((((r1.parts.tail.headD .undef).V).int) != (0:Int)) ((True∧True∧True)∧Q (.tup [.v (.mp Zc) (V.l ([])),.v (.int .i64) ((r1.parts.tail.headD .undef).V)]) [.cells [.v (.sl Zg) ((((H2.headD .dead).cs).headD .undef).V),.v (.sl Zb) (((((H2.headD .dead).cs).tail).headD .undef).V)]]) (y104.length=x8n∧x8n+([[(r1.parts.headD .undef).V]]).length≤lim∧K (x8n+([[(r1.parts.headD .undef).V]]).length) (y104++([[(r1.parts.headD .undef).V]])) ((((H2.headD .dead).cs).headD .undef).V) (((((H2.headD .dead).cs).tail).headD .undef).V))))
  (last:∀ (x8n:Nat) (y104:LL) (h0_0 h0_1:V),J n x8n y104 h0_0 h0_1→((∃ r3:D,cl Zu [.v (.sl Zg) (h0_0),.agg [.v .str (V.s y3_0),.v (.int .i64) (V.i ((y3_2.length:Int)))]] [] (fun r H'=>r=(.tup [.v (.sl Zk) ((r3.parts.headD .undef).V),.v .bool ((r3.parts.tail.headD .undef).V)])∧H'=[])∧((((r3.parts.headD .undef).V).list).length≤big→∃ m1,Z1 Q m1 x8n ((r3.parts.headD .undef).V) (((((r3.parts.headD .undef).V).list).length:Int)) 0 (([]:List (List V))) y104 h0_0 h0_1))))
  (k:Nat) (x8n:Nat) (y104:LL) (h0_0 h0_1:V) (le0:k≤n) (hj:J k x8n y104 h0_0 h0_1):∃ m0,ZaO Q m0 x8n x39 (n:Int) ((k:Int)) y3_0 y3_1 y3_2 y104 h0_0 h0_1:=by
 exact rangeG4 n hb J (fun m0 i x8n y104 h0_0 h0_1=>ZaO Q m0 x8n x39 (n:Int) i y3_0 y3_1 y3_2 y104 h0_0 h0_1) (fun m0 i x8n y104 h0_0 h0_1=>Zgi Q m0 x8n x39 (n:Int) i y3_0 y3_1 y3_2 y104 h0_0 h0_1) (fun k x8n y104 h0_0 h0_1 hl_ hj_ m_ ih_=>step k x8n y104 h0_0 h0_1 hl_ hj_ _ ih_) last k x8n y104 h0_0 h0_1 le0 hj
def Ze8 (a1_0:ByteArray) (a1_1:Bool) (a1_2 h0_0 h0_1:LL) (Q:QD):Prop :=
 iff a1_1 ((∃ r1:D,cl ZaT [.v (.sl Zb) (V.l h0_1),.v .str (V.s a1_0)] [] (fun r H'=>r=(.tup [.v (.int .i64) ((r1.parts.headD .undef).V),.v .bool ((r1.parts.tail.headD .undef).V)])∧H'=[])∧cl Zej [.v (.int .i64) ((r1.parts.headD .undef).V),.v (.int .i64) (V.i 1)] [] fun r2 H3=>r2=(.v .str (r2.V))∧H3=[]∧(True∧True∧True)∧Q (.tup [.v (.mp Zc) (V.l (mset [.str] [r2.V] [V.i 1] (([]:List (List V))))),.v (.int .i64) (V.i 0)]) [.cells [.v (.sl Zg) (V.l h0_0),.v (.sl Zb) (V.l h0_1)]])) ((a1_2.length≤big→∃ m0,ZaO Q m0 0 a1_2 ((a1_2.length:Int)) 0 a1_0 a1_1 a1_2 (([]:List (List V))) (V.l h0_0) (V.l h0_1)))
theorem Zjt (a1_0:ByteArray) (a1_1:Bool) (a1_2 h0_0 h0_1:LL) (Q:QD) (h:Ze8 a1_0 a1_1 a1_2 h0_0 h0_1 Q):cl ZaX [.ptr (.own 0) 0,.agg [.v .str (V.s a1_0),.v .bool (V.b a1_1),.v (.sl Za) (V.l a1_2)]] [.cells [.v (.sl Zg) (V.l h0_0),.v (.sl Zb) (V.l h0_1)]] Q :=
 acalls2 (E:=Zi) (envOk _ _ _ _ _) 1 Tryz.func88 (by kernel_rfl) h
def Zle:Env:=envA [] [] [] [] []
def ZiW (a0:ByteArray) (Q:QD):Prop :=
 iff (!(a0.toList == (ByteArray.mk #[]).toList)) ((a0.size≤big→0≤(IntKind.i64.wrap (((a0.size:Int)) - (1:Int)))∧(IntKind.i64.wrap (((a0.size:Int)) - (1:Int)))<a0.size∧True∧Q (.v .bool (V.b ((((a0.data.toList.getD ((IntKind.i64.wrap (((a0.size:Int)) - (1:Int)))).toNat 0).toNat:Int)) == (35:Int)))) [])) (True∧Q (.v .bool (V.b false)) [])
theorem Zmi (a0:ByteArray) (Q:QD) (h:ZiW a0 Q):cl Zgm [.v .str (V.s a0)] [] Q :=
 acalls2 (E:=Zle) (envOk _ _ _ _ _) 0 Tryz.func92 (by kernel_rfl) h
def Zcq:Env:=envA [(2,ua 2 3 (ua 7 8 ([.dead 12])))] [] [] [] []
def Zkk (Q:QD):Post:=blockK 0 (seqJ Zcq (fnAt [1,1] Tryz.f93) (endK Zcq Tryz.f93 Q))
@[irreducible] def ZbL (Q:QD) (m0:Nat) (x0:ByteArray) (x5 x6:Int):Prop :=
 iter (adj (Zcq.adj 2)) (evCode Zcq (fnAt [1,0,1,0,0] Tryz.f93)) (Zkk Q) m0 ⟨(.v .str (V.s x0))::.skip::un 3 ((.v (.int .i64) (V.i x5))::(.v (.int .i64) (V.i x6))::un 8 ([])),dd 15 ([])⟩ []
def Zkc (Q:QD) (m0:Nat) (x0:ByteArray) (x5 x6:Int):Prop :=
 iff (decide (x6<x5)) (0≤x6∧x6<x0.size∧cl Ze9 [.v (.int .u8) (V.i (((x0.data.toList.getD x6.toNat 0).toNat:Int)))] [] fun r1 H2=>r1=(.v .bool (r1.V))∧H2=[]∧iff (!r1.V.bool) (True∧Q (.v .bool (V.b false)) []) (ZbL Q m0 x0 x5 (IntKind.i64.wrap (x6+(1:Int))))) (True∧Q (.v .bool (V.b true)) [])
theorem Zip (Q:QD) (m0:Nat) (x0:ByteArray) (x5 x6:Int):ZbL Q (m0+1) x0 x5 x6=Zkc Q m0 x0 x5 x6:=by kernel_rfl
theorem ZhI (Q:QD) (x0:ByteArray) (n:Nat) (hb:n≤big) (J:Nat→Prop)
  (step:∀ (k:Nat),k<n→J k→∀ K:Prop,(J (k+1)→K)→(0≤(k:Int)∧(k:Int)<x0.size∧cl Ze9 [.v (.int .u8) (V.i (((x0.data.toList.getD k 0).toNat:Int)))] [] fun r1 H2=>r1=(.v .bool (r1.V))∧H2=[]∧iff (!r1.V.bool) (True∧Q (.v .bool (V.b false)) []) (K)))
  (last:J n→(True∧Q (.v .bool (V.b true)) []))
  (k:Nat) (le0:k≤n) (hj:J k):∃ m0,ZbL Q m0 x0 (n:Int) ((k:Int)):=by
 exact rangeG0 n hb J (fun m0 i=>ZbL Q m0 x0 (n:Int) i) (fun m0 i=>Zip Q m0 x0 (n:Int) i) (fun k hl_ hj_ m_ ih_=>step k hl_ hj_ _ ih_) last k le0 hj
def Zlw (a0:ByteArray) (Q:QD):Prop :=
 (a0.size≤big→∃ m0,ZbL Q m0 a0 ((a0.size:Int)) 0)
theorem ZlM (a0:ByteArray) (Q:QD) (h:Zlw a0 Q):cl ZfN [.v .str (V.s a0)] [] Q :=
 acalls2 (E:=Zcq) (envOk _ _ _ _ _) 0 Tryz.func93 (by kernel_rfl) h
def ZhZ:Env:=envA [] [] [] [] []
def Ze3 (a0 a1:Int) (Q:QD):Prop :=
 iff (decide (a0<a1)) (True∧Q (.v (.int .i64) (V.i (-1))) []) (iff (decide (a0 > a1)) (True∧Q (.v (.int .i64) (V.i 1)) []) (True∧Q (.v (.int .i64) (V.i 0)) []))
theorem Zjy (a0 a1:Int) (Q:QD) (h:Ze3 a0 a1 Q):cl ZQ [.v (.int .i64) (V.i a0),.v (.int .i64) (V.i a1)] [] Q :=
 acalls2 (E:=ZhZ) (envOk _ _ _ _ _) 0 Tryz.func94 (by kernel_rfl) h
def Zbi:Env:=envA [(6,ua 0 3 (ua 4 3 (ua 16 11 (ua 30 7 ([.dead 1,.dead 4,.dead 34]))))),(3000005,(.undef 0)::(.undef 2)::ua 5 2 (ua 16 10 ([.dead 18,.dead 23])))] [] [] [] [5]
def ZkR (Q:QD):Post:=blockK 0 (seqJ Zbi (fnAt [1,1,1,1] Tryz.f95) (endK Zbi Tryz.f95 Q))
@[irreducible] def Zcw (Q:QD) (m0:Nat) (x27:LL) (x28 x29:Int):Prop :=
 iter (adj (Zbi.adj 6)) (evCode Zbi (fnAt [1,1,1,0,1,0,0] Tryz.f95)) (ZkR Q) m0 ⟨un 3 (.skip::un 3 (sk 9 (un 11 ((.v (.sl Za) (V.l x27))::(.v (.int .i64) (V.i x28))::(.v (.int .i64) (V.i x29))::un 7 ([]))))),dd 37 ([])⟩ []
@[irreducible] def ZgF (Q:QD) (y1_0:ByteArray) (y1_1:Bool) (y1_2:LL):Prop :=
 joinM (evCode Zbi (fnAt [1,1,1] Tryz.f95)) ⟨.undef::(.ptr (.loc 1) 0)::.undef::sk 2 (un 2 (sk 9 (un 10 (sk 11 ([]))))),.dead::(.cells [.v .str (V.s y1_0),.v .bool (V.b y1_1),.v (.sl Za) (V.l y1_2)])::dd 35 ([])⟩ [] (endK Zbi Tryz.f95 Q)
def Zks (Q:QD) (m0:Nat) (x27:LL) (x28 x29:Int):Prop :=
 iff (decide (x29<x28)) (0≤x29∧x29<x27.length∧cl Zeq [.agg [.v .str (((x27.getD x29.toNat []).drop 0).headD V.none),.v .bool ((((x27.getD x29.toNat []).drop 0).tail).headD V.none),.v (.sl Za) (((((x27.getD x29.toNat []).drop 0).tail).tail).headD V.none)]] [] fun r1 H2=>r1=(.v .bool (r1.V))∧H2=[]∧iff (!r1.V.bool) (True∧Q (.v .bool (V.b false)) []) (Zcw Q m0 x27 x28 (IntKind.i64.wrap (x29+(1:Int))))) (True∧Q (.v .bool (V.b true)) [])
theorem ZjA (Q:QD) (m0:Nat) (x27:LL) (x28 x29:Int):Zcw Q (m0+1) x27 x28 x29=Zks Q m0 x27 x28 x29:=by kernel_rfl
theorem ZiH (Q:QD) (x27:LL) (n:Nat) (hb:n≤big) (J:Nat→Prop)
  (step:∀ (k:Nat),k<n→J k→∀ K:Prop,(J (k+1)→K)→(0≤(k:Int)∧(k:Int)<x27.length∧cl Zeq [.agg [.v .str (((x27.getD k []).drop 0).headD V.none),.v .bool ((((x27.getD k []).drop 0).tail).headD V.none),.v (.sl Za) (((((x27.getD k []).drop 0).tail).tail).headD V.none)]] [] fun r1 H2=>r1=(.v .bool (r1.V))∧H2=[]∧iff (!r1.V.bool) (True∧Q (.v .bool (V.b false)) []) (K)))
  (last:J n→(True∧Q (.v .bool (V.b true)) []))
  (k:Nat) (le0:k≤n) (hj:J k):∃ m0,Zcw Q m0 x27 (n:Int) ((k:Int)):=by
 exact rangeG0 n hb J (fun m0 i=>Zcw Q m0 x27 (n:Int) i) (fun m0 i=>ZjA Q m0 x27 (n:Int) i) (fun k hl_ hj_ m_ ih_=>step k hl_ hj_ _ ih_) last k le0 hj
def ZkL (Q:QD) (y1_0:ByteArray) (y1_1:Bool) (y1_2:LL):Prop :=
 (y1_2.length≤big→∃ m0,Zcw Q m0 y1_2 ((y1_2.length:Int)) 0)
theorem Zjf (Q:QD) (y1_0:ByteArray) (y1_1:Bool) (y1_2:LL):ZgF Q y1_0 y1_1 y1_2=ZkL Q y1_0 y1_1 y1_2:=by kernel_rfl
def Zit (a0_0:ByteArray) (a0_1:Bool) (a0_2:LL) (Q:QD):Prop :=
 iff a0_1 (cl Ze5 [.v .str (V.s a0_0),.v .bool (V.b false)] [] fun r1 H2=>r1=(.v .bool (r1.V))∧H2=[]∧iff r1.V.bool ((a0_2.length≤big→True∧Q (.v .bool (V.b (((a0_2.length:Int)) == (0:Int)))) [])) (True∧Q (.v .bool (V.b false)) [])) (cl Ze5 [.v .str (V.s a0_0),.v .bool (V.b true)] [] fun r3 H4=>r3=(.v .bool (r3.V))∧H4=[]∧iff (!r3.V.bool) (True∧Q (.v .bool (V.b false)) []) ((a0_2.length≤big→iff (decide (((a0_2.length:Int)) > (8:Int))) (True∧Q (.v .bool (V.b false)) []) (ZgF Q a0_0 a0_1 a0_2))))
theorem Zms (a0_0:ByteArray) (a0_1:Bool) (a0_2:LL) (Q:QD) (h:Zit a0_0 a0_1 a0_2 Q):cl Zeq [.agg [.v .str (V.s a0_0),.v .bool (V.b a0_1),.v (.sl Za) (V.l a0_2)]] [] Q :=
 acalls2 (E:=Zbi) (envOk _ _ _ _ _) 0 Tryz.func95 (by kernel_rfl) h
def Zei:Env:=envA [(3,ua 0 3 (ua 5 2 (ua 10 8 ([.dead 1,.dead 5,.dead 15]))))] [] [] [] []
def ZlU (Q:QD):Post:=blockK 0 (seqJ Zei (fnAt [1,1,1] Tryz.f96) (endK Zei Tryz.f96 Q))
@[irreducible] def ZdW (Q:QD) (m0:Nat) (x3:Int) (x7:LL) (x8 x9:Int):Prop :=
 iter (adj (Zei.adj 3)) (evCode Zei (fnAt [1,1,0,1,0,0] Tryz.f96)) (ZlU Q) m0 ⟨un 3 ((.v (.int .i64) (V.i x3))::.skip::un 2 ((.v (.sl Za) (V.l x7))::(.v (.int .i64) (V.i x8))::(.v (.int .i64) (V.i x9))::un 8 ([.skip]))),dd 19 ([])⟩ []
def ZlX (Q:QD) (m0:Nat) (x3:Int) (x7:LL) (x8 x9:Int):Prop :=
 iff (decide (x9<x8)) (0≤x9∧x9<x7.length∧cl Zdq [.agg [.v .str (((x7.getD x9.toNat []).drop 0).headD V.none),.v .bool ((((x7.getD x9.toNat []).drop 0).tail).headD V.none),.v (.sl Za) (((((x7.getD x9.toNat []).drop 0).tail).tail).headD V.none)]] [] fun r1 H2=>r1=(.v (.int .i64) (r1.V))∧H2=[]∧ZdW Q m0 (IntKind.i64.wrap (x3+r1.V.int)) x7 x8 (IntKind.i64.wrap (x9+(1:Int)))) (True∧Q (.v (.int .i64) (V.i x3)) [])
theorem ZkE (Q:QD) (m0:Nat) (x3:Int) (x7:LL) (x8 x9:Int):ZdW Q (m0+1) x3 x7 x8 x9=ZlX Q m0 x3 x7 x8 x9:=by kernel_rfl
theorem Zkd (Q:QD) (x7:LL) (n:Nat) (hb:n≤big) (J:Nat→Int→Prop)
  (step:∀ (k:Nat) (x3:Int),k<n→J k x3→∀ K:Int→Prop,(∀ (x3':Int),J (k+1) x3'→K x3')→(0≤(k:Int)∧(k:Int)<x7.length∧cl Zdq [.agg [.v .str (((x7.getD k []).drop 0).headD V.none),.v .bool ((((x7.getD k []).drop 0).tail).headD V.none),.v (.sl Za) (((((x7.getD k []).drop 0).tail).tail).headD V.none)]] [] fun r1 H2=>r1=(.v (.int .i64) (r1.V))∧H2=[]∧K (IntKind.i64.wrap (x3+r1.V.int))))
  (last:∀ (x3:Int),J n x3→(True∧Q (.v (.int .i64) (V.i x3)) []))
  (k:Nat) (x3:Int) (le0:k≤n) (hj:J k x3):∃ m0,ZdW Q m0 x3 x7 (n:Int) ((k:Int)):=by
 exact rangeG1 n hb J (fun m0 i x3=>ZdW Q m0 x3 x7 (n:Int) i) (fun m0 i x3=>ZkE Q m0 x3 x7 (n:Int) i) (fun k x3 hl_ hj_ m_ ih_=>step k x3 hl_ hj_ _ ih_) last k x3 le0 hj
def ZmH (a0_0:ByteArray) (a0_1:Bool) (a0_2:LL) (Q:QD):Prop :=
 (a0_2.length≤big→∃ m0,ZdW Q m0 1 a0_2 ((a0_2.length:Int)) 0)
theorem ZmQ (a0_0:ByteArray) (a0_1:Bool) (a0_2:LL) (Q:QD) (h:ZmH a0_0 a0_1 a0_2 Q):cl Zdq [.agg [.v .str (V.s a0_0),.v .bool (V.b a0_1),.v (.sl Za) (V.l a0_2)]] [] Q :=
 acalls2 (E:=Zei) (envOk _ _ _ _ _) 0 Tryz.func96 (by kernel_rfl) h
def ZdU:Env:=envA [(3,ua 0 3 (ua 5 2 (ua 10 8 ((.dead 1)::(.dead 5)::da 15 2 ([])))))] [] [] [] []
def Zlr (Q:QD):Post:=blockK 0 (seqJ ZdU (fnAt [1,1,1] Tryz.f97) (endK ZdU Tryz.f97 Q))
@[irreducible] def Zda (Q:QD) (m0:Nat) (x3:Int) (x7:LL) (x8 x9:Int):Prop :=
 iter (adj (ZdU.adj 3)) (evCode ZdU (fnAt [1,1,0,1,0,0] Tryz.f97)) (Zlr Q) m0 ⟨un 3 ((.v (.int .i64) (V.i x3))::.skip::un 2 ((.v (.sl Za) (V.l x7))::(.v (.int .i64) (V.i x8))::(.v (.int .i64) (V.i x9))::un 8 (sk 2 ([])))),dd 20 ([])⟩ []
def Zlc (Q:QD) (m0:Nat) (x3:Int) (x7:LL) (x8 x9:Int):Prop :=
 iff (decide (x9<x8)) (0≤x9∧x9<x7.length∧cl Zct [.agg [.v .str (((x7.getD x9.toNat []).drop 0).headD V.none),.v .bool ((((x7.getD x9.toNat []).drop 0).tail).headD V.none),.v (.sl Za) (((((x7.getD x9.toNat []).drop 0).tail).tail).headD V.none)]] [] fun r1 H2=>r1=(.v (.int .i64) (r1.V))∧H2=[]∧Zda Q m0 (if r1.V.int > x3 then r1.V.int else x3) x7 x8 (IntKind.i64.wrap (x9+(1:Int)))) (True∧Q (.v (.int .i64) (V.i (IntKind.i64.wrap (x3+(1:Int))))) [])
theorem Zkf (Q:QD) (m0:Nat) (x3:Int) (x7:LL) (x8 x9:Int):Zda Q (m0+1) x3 x7 x8 x9=Zlc Q m0 x3 x7 x8 x9:=by kernel_rfl
theorem Zjo (Q:QD) (x7:LL) (n:Nat) (hb:n≤big) (J:Nat→Int→Prop)
  (step:∀ (k:Nat) (x3:Int),k<n→J k x3→∀ K:Int→Prop,(∀ (x3':Int),J (k+1) x3'→K x3')→(0≤(k:Int)∧(k:Int)<x7.length∧cl Zct [.agg [.v .str (((x7.getD k []).drop 0).headD V.none),.v .bool ((((x7.getD k []).drop 0).tail).headD V.none),.v (.sl Za) (((((x7.getD k []).drop 0).tail).tail).headD V.none)]] [] fun r1 H2=>r1=(.v (.int .i64) (r1.V))∧H2=[]∧K (if r1.V.int > x3 then r1.V.int else x3)))
  (last:∀ (x3:Int),J n x3→(True∧Q (.v (.int .i64) (V.i (IntKind.i64.wrap (x3+(1:Int))))) []))
  (k:Nat) (x3:Int) (le0:k≤n) (hj:J k x3):∃ m0,Zda Q m0 x3 x7 (n:Int) ((k:Int)):=by
 exact rangeG1 n hb J (fun m0 i x3=>Zda Q m0 x3 x7 (n:Int) i) (fun m0 i x3=>Zkf Q m0 x3 x7 (n:Int) i) (fun k x3 hl_ hj_ m_ ih_=>step k x3 hl_ hj_ _ ih_) last k x3 le0 hj
def Zmr (a0_0:ByteArray) (a0_1:Bool) (a0_2:LL) (Q:QD):Prop :=
 (a0_2.length≤big→∃ m0,Zda Q m0 0 a0_2 ((a0_2.length:Int)) 0)
theorem ZmF (a0_0:ByteArray) (a0_1:Bool) (a0_2:LL) (Q:QD) (h:Zmr a0_0 a0_1 a0_2 Q):cl Zct [.agg [.v .str (V.s a0_0),.v .bool (V.b a0_1),.v (.sl Za) (V.l a0_2)]] [] Q :=
 acalls2 (E:=ZdU) (envOk _ _ _ _ _) 0 Tryz.func97 (by kernel_rfl) h
def Zdo:Env:=envA [] [] [1] [] []
def Zdu (a0:LL) (Q:QD):Prop :=
 True∧Q (.fn ZL [.elt Zh ([V.l a0]) 0]) []
theorem ZdC (a0:LL) (Q:QD) (h:Zdu a0 Q):cl Zbg [.v (.mp Zc) (V.l a0)] [] Q :=
 acalls2 (E:=Zdo) (envOk _ _ _ _ _) 0 Tryz.func101 (by kernel_rfl) h
def Zgc:Env:=envA [] [] [] [] []
def Zer (a0 a1:Int) (Q:QD):Prop :=
 cl Zca [.v (.int .u64) (V.i a0)] [] fun r1 H2=>r1=(.v .bool (r1.V))∧H2=[]∧cl Zca [.v (.int .u64) (V.i a1)] [] fun r3 H4=>r3=(.v .bool (r3.V))∧H4=[]∧iff r1.V.bool (iff r3.V.bool (True∧Q (.v (.int .i64) (V.i 0)) []) (True∧Q (.v (.int .i64) (V.i (-1))) [])) (iff r3.V.bool (True∧Q (.v (.int .i64) (V.i 1)) []) (iff (decide (a0<a1)) (True∧Q (.v (.int .i64) (V.i (-1))) []) (iff (decide (a0 > a1)) (True∧Q (.v (.int .i64) (V.i 1)) []) (True∧Q (.v (.int .i64) (V.i 0)) []))))
theorem Zhs (a0 a1:Int) (Q:QD) (h:Zer a0 a1 Q):cl ZaR [.v (.int .u64) (V.i a0),.v (.int .u64) (V.i a1)] [] Q :=
 acalls2 (E:=Zgc) (envOk _ _ _ _ _) 0 Tryz.func102 (by kernel_rfl) h
def ZbD:Env:=envA [] [] [] [] []
def Zaq (a0:LL) (Q:QD):Prop :=
 cl Z0 [.v (.sl ZY) (V.l a0),.fn ZW []] [] fun r1 H2=>r1=(.v (.int .i64) (r1.V))∧H2=[]∧True∧Q (.v .bool (V.b (decide (r1.V.int≥(0:Int))))) []
theorem Zb1 (a0:LL) (Q:QD) (h:Zaq a0 Q):cl ZP [.v (.sl ZY) (V.l a0),.fn ZW []] [] Q :=
 acalls2 (E:=ZbD) (envOk _ _ _ _ _) 0 Tryz.func103 (by kernel_rfl) h
def Zbv:Env:=envA [] [] [] [] []
def Zao (a0:LL) (Q:QD):Prop :=
 cl Z0 [.v (.sl ZY) (V.l a0),.fn ZX []] [] fun r1 H2=>r1=(.v (.int .i64) (r1.V))∧H2=[]∧True∧Q (.v .bool (V.b (decide (r1.V.int≥(0:Int))))) []
theorem ZbW (a0:LL) (Q:QD) (h:Zao a0 Q):cl ZP [.v (.sl ZY) (V.l a0),.fn ZX []] [] Q :=
 acalls2 (E:=Zbv) (envOk _ _ _ _ _) 0 Tryz.func103 (by kernel_rfl) h
def Ze:Env:=envA [(3,ua 6 2 (ua 11 24 ([.dead 30])))] [] [] [] []
def Zar (Q:QD):Post:=blockK 0 (seqJ Ze (fnAt [1,1,1,1] Tryz.f107) (endK Ze Tryz.f107 Q))
@[irreducible] def Zd (Q:QD) (m0:Nat) (x0:LL) (x1:ByteArray) (x8 x9 x10:Int):Prop :=
 iter (adj (Ze.adj 3)) (evCode Ze (fnAt [1,1,1,0,0,0] Tryz.f107)) (Zar Q) m0 ⟨(.v (.sl Zg) (V.l x0))::(.v .str (V.s x1))::(.fn ZO [])::sk 3 (un 2 ((.v (.int .i64) (V.i x8))::(.v (.int .i64) (V.i x9))::(.v (.int .i64) (V.i x10))::un 24 (sk 14 ([])))),dd 49 ([])⟩ []
def Zn (Q:QD) (m0:Nat) (x0:LL) (x1:ByteArray) (x8 x9 x10:Int):Prop :=
 iff (decide (x9<x10)) (0≤(1:Int)∧0≤(IntKind.i64.wrap ((IntKind.u64.wrap (IntKind.i64.wrap (x9+x10))).fdiv (2 ^ (min ((1:Int)).toNat IntKind.u64.bits))))∧(IntKind.i64.wrap ((IntKind.u64.wrap (IntKind.i64.wrap (x9+x10))).fdiv (2 ^ (min ((1:Int)).toNat IntKind.u64.bits))))<x0.length∧cl ZO [.agg [.v .str (((x0.getD ((IntKind.i64.wrap ((IntKind.u64.wrap (IntKind.i64.wrap (x9+x10))).fdiv (2 ^ (min ((1:Int)).toNat IntKind.u64.bits))))).toNat []).drop 0).headD V.none),.v (.sl Zk) ((((x0.getD ((IntKind.i64.wrap ((IntKind.u64.wrap (IntKind.i64.wrap (x9+x10))).fdiv (2 ^ (min ((1:Int)).toNat IntKind.u64.bits))))).toNat []).drop 0).tail).headD V.none)],.v .str (V.s x1)] [] fun r1 H2=>r1=(.v (.int .i64) (r1.V))∧H2=[]∧iff (decide (r1.V.int<(0:Int))) (Zd Q m0 x0 x1 x8 (IntKind.i64.wrap ((IntKind.i64.wrap ((IntKind.u64.wrap (IntKind.i64.wrap (x9+x10))).fdiv (2 ^ (min ((1:Int)).toNat IntKind.u64.bits))))+(1:Int))) x10) (Zd Q m0 x0 x1 x8 x9 (IntKind.i64.wrap ((IntKind.u64.wrap (IntKind.i64.wrap (x9+x10))).fdiv (2 ^ (min ((1:Int)).toNat IntKind.u64.bits)))))) (iff (decide (x9<x8)) (0≤x9∧x9<x0.length∧cl ZO [.agg [.v .str (((x0.getD x9.toNat []).drop 0).headD V.none),.v (.sl Zk) ((((x0.getD x9.toNat []).drop 0).tail).headD V.none)],.v .str (V.s x1)] [] fun r3 H4=>r3=(.v (.int .i64) (r3.V))∧H4=[]∧(True∧True∧True)∧Q (.tup [.v (.int .i64) (V.i x9),.v .bool (V.b (r3.V.int == (0:Int)))]) []) ((True∧True∧True)∧Q (.tup [.v (.int .i64) (V.i x9),.v .bool (V.b false)]) []))
theorem Zam (Q:QD) (m0:Nat) (x0:LL) (x1:ByteArray) (x8 x9 x10:Int):Zd Q (m0+1) x0 x1 x8 x9 x10=Zn Q m0 x0 x1 x8 x9 x10:=by kernel_rfl
theorem Zan (Q:QD):RuleG5 (Zd Q) (Zn Q):=ruleG5 _ _ (Zam Q)
def Zaz (a0:LL) (a1:ByteArray) (Q:QD):Prop :=
 (a0.length≤big→∃ m0,Zd Q m0 a0 a1 ((a0.length:Int)) 0 ((a0.length:Int)))
theorem ZaB (a0:LL) (a1:ByteArray) (Q:QD) (h:Zaz a0 a1 Q):cl Zab [.v (.sl Zg) (V.l a0),.v .str (V.s a1),.fn ZO []] [] Q :=
 acalls2 (E:=Ze) (envOk _ _ _ _ _) 0 Tryz.func107 (by kernel_rfl) h
def Zv:Env:=envA [(2,ua 4 3 (ua 9 10 ([.dead 16])))] [] [] [] []
def Zcf (Q:QD):Post:=blockK 0 (seqJ Zv (fnAt [1,1] Tryz.f110) (endK Zv Tryz.f110 Q))
@[irreducible] def Zr (Q:QD) (m0:Nat) (x0:LL) (x7 x8:Int) (h0_0:V):Prop :=
 iter (adj (Zv.adj 2)) (evCode Zv (fnAt [1,0,1,0,0] Tryz.f110)) (Zcf Q) m0 ⟨(.v (.sl Zk) (V.l x0))::(.fn ZR [.ptr (.own 0) 0])::sk 2 (un 3 ((.v (.int .i64) (V.i x7))::(.v (.int .i64) (V.i x8))::un 10 ([]))),dd 19 ([])⟩ [.cells [.v (.int .i64) (h0_0)]]
def Zch (Q:QD) (m0:Nat) (x0:LL) (x7 x8:Int) (h0_0:V):Prop :=
 iff (decide (x8<x7)) (0≤x8∧x8<x0.length∧cl ZR [.agg [.v (.int .u64) (((x0.getD x8.toNat []).drop 0).headD V.none),.v (.sl ZT) ((((x0.getD x8.toNat []).drop 0).tail).headD V.none)],.ptr (.own 0) 0] [.cells [.v (.int .i64) (h0_0)]] fun r1 H2=>r1=(.v .bool (r1.V))∧H2=[.cells [.v (.int .i64) ((((H2.headD .dead).cs).headD .undef).V)]]∧iff r1.V.bool (True∧Q (.v (.int .i64) (V.i x8)) [.cells [.v (.int .i64) ((((H2.headD .dead).cs).headD .undef).V)]]) (Zr Q m0 x0 x7 (IntKind.i64.wrap (x8+(1:Int))) ((((H2.headD .dead).cs).headD .undef).V))) (True∧Q (.v (.int .i64) (V.i (-1))) [.cells [.v (.int .i64) (h0_0)]])
theorem ZbI (Q:QD) (m0:Nat) (x0:LL) (x7 x8:Int) (h0_0:V):Zr Q (m0+1) x0 x7 x8 h0_0=Zch Q m0 x0 x7 x8 h0_0:=by kernel_rfl
theorem ZbA (Q:QD) (x0:LL) (n:Nat) (hb:n≤big) (J:Nat→V→Prop)
  (step:∀ (k:Nat) (h0_0:V),k<n→J k h0_0→∀ K:V→Prop,(∀ (h0_0':V),J (k+1) h0_0'→K h0_0')→(0≤(k:Int)∧(k:Int)<x0.length∧cl ZR [.agg [.v (.int .u64) (((x0.getD k []).drop 0).headD V.none),.v (.sl ZT) ((((x0.getD k []).drop 0).tail).headD V.none)],.ptr (.own 0) 0] [.cells [.v (.int .i64) (h0_0)]] fun r1 H2=>r1=(.v .bool (r1.V))∧H2=[.cells [.v (.int .i64) ((((H2.headD .dead).cs).headD .undef).V)]]∧iff r1.V.bool (True∧Q (.v (.int .i64) (V.i (k:Int))) [.cells [.v (.int .i64) ((((H2.headD .dead).cs).headD .undef).V)]]) (K ((((H2.headD .dead).cs).headD .undef).V))))
  (last:∀ (h0_0:V),J n h0_0→(True∧Q (.v (.int .i64) (V.i (-1))) [.cells [.v (.int .i64) (h0_0)]]))
  (k:Nat) (h0_0:V) (le0:k≤n) (hj:J k h0_0):∃ m0,Zr Q m0 x0 (n:Int) ((k:Int)) h0_0:=by
 exact rangeG1 n hb J (fun m0 i h0_0=>Zr Q m0 x0 (n:Int) i h0_0) (fun m0 i h0_0=>ZbI Q m0 x0 (n:Int) i h0_0) (fun k h0_0 hl_ hj_ m_ ih_=>step k h0_0 hl_ hj_ _ ih_) last k h0_0 le0 hj
def ZcC (a0:LL) (h0_0:Int) (Q:QD):Prop :=
 (a0.length≤big→∃ m0,Zr Q m0 a0 ((a0.length:Int)) 0 (V.i h0_0))
theorem ZcU (a0:LL) (h0_0:Int) (Q:QD) (h:ZcC a0 h0_0 Q):cl ZbE [.v (.sl Zk) (V.l a0),.fn ZR [.ptr (.own 0) 0]] [.cells [.v (.int .i64) (V.i h0_0)]] Q :=
 acalls2 (E:=Zv) (envOk _ _ _ _ _) 0 Tryz.func110 (by kernel_rfl) h
def ZjX:Env:=envA [] [] [] [] []
def Zgj (a0_0:ByteArray) (a0_1:LL) (Q:QD):Prop :=
 True∧Q (.v .str (V.s a0_0)) []
theorem Zlo (a0_0:ByteArray) (a0_1:LL) (Q:QD) (h:Zgj a0_0 a0_1 Q):cl Z5 [.agg [.v .str (V.s a0_0),.v (.sl Zk) (V.l a0_1)]] [] Q :=
 acalls2 (E:=ZjX) (envOk _ _ _ _ _) 0 Tryz.func61 (by kernel_rfl) h
def ZeU:Env:=envA [(3000005,(.undef 1)::ua 4 7 ([.dead 10]))] [] [] [] [5]
@[irreducible] def Zdl (Q:QD) (x0:V):Prop :=
 joinM (evCode ZeU (fnAt [1,1,1] Tryz.f105)) ⟨(.v .str (x0))::.undef::sk 2 (un 7 (sk 8 ([]))),dd 19 ([])⟩ [] (endK ZeU Tryz.f105 Q)
def Zf1 (Q:QD) (x0:V):Prop :=
 iff (!(x0.str.toList == (ByteArray.mk #[]).toList)) (cl Za7 [.v (.sl Zh5) (V.l (bytesV x0.str)),.fn Z3 []] [] fun r1 H2=>r1=(.v .bool (r1.V))∧H2=[]∧True∧Q (.v .bool (V.b (!r1.V.bool))) []) (True∧Q (.v .bool (V.b false)) [])
theorem Ziz (Q:QD) (x0:V):Zdl Q x0=Zf1 Q x0:=by kernel_rfl
def Zk0 (a0:ByteArray) (a1:Bool) (Q:QD):Prop :=
 (a0.size≤big→iff (decide (((a0.size:Int)) > (24:Int))) (True∧Q (.v .bool (V.b false)) []) (iff a1 (cl ZcS [.v .str (V.s a0),.v .str (V.s (ByteArray.mk #[35]))] [] fun r1 H2=>r1=(.v .str (r1.V))∧H2=[]∧Zdl Q r1.V) (Zdl Q (V.s a0))))
theorem ZlL (a0:ByteArray) (a1:Bool) (Q:QD) (h:Zk0 a0 a1 Q):cl Zbx [.v .str (V.s a0),.v .bool (V.b a1)] [] Q :=
 acalls2 (E:=ZeU) (envOk _ _ _ _ _) 0 Tryz.func105 (by kernel_rfl) h
def Zat:Env:=envA [(2,ua 4 5 (ua 12 19 ([.dead 18,.dead 26])))] [] [] [] []
def ZfD (Q:QD):Post:=blockK 0 (seqJ Zat (fnAt [1,1] Tryz.f40) (endK Zat Tryz.f40 Q))
@[irreducible] def Zah (Q:QD) (m0:Nat) (x0 x1 x9:LL) (x10 x11:Int):Prop :=
 iter (adj (Zat.adj 2)) (evCode Zat (fnAt [1,0,1,0,0] Tryz.f40)) (ZfD Q) m0 ⟨(.v (.sl ZT) (V.l x0))::(.v (.sl ZT) (V.l x1))::sk 2 (un 5 ((.v (.sl ZT) (V.l x9))::(.v (.int .i64) (V.i x10))::(.v (.int .i64) (V.i x11))::un 19 (sk 5 ([])))),dd 36 ([])⟩ []
def ZfO (Q:QD) (m0:Nat) (x0 x1 x9:LL) (x10 x11:Int):Prop :=
 iff (decide (x11<x10)) (0≤x11∧x11<x9.length∧(x1.length≤big→iff (decide (x11≥((x1.length:Int)))) (True∧Q (.v (.int .i64) (V.i 1)) []) (0≤x11∧x11<x1.length∧cl ZcL [.v (.int .i64) (((x9.getD x11.toNat []).drop 0).headD V.none),.v (.int .i64) (((x1.getD x11.toNat []).drop 0).headD V.none)] [] fun r1 H2=>r1=(.v (.int .i64) (r1.V))∧H2=[]∧iff (r1.V.int != (0:Int)) (True∧Q (.v (.int .i64) (r1.V)) []) (Zah Q m0 x0 x1 x9 x10 (IntKind.i64.wrap (x11+(1:Int))))))) ((x0.length≤big→(x1.length≤big→iff (decide (((x0.length:Int))<((x1.length:Int)))) (True∧Q (.v (.int .i64) (V.i (-1))) []) (True∧Q (.v (.int .i64) (V.i 0)) []))))
theorem Zfg (Q:QD) (m0:Nat) (x0 x1 x9:LL) (x10 x11:Int):Zah Q (m0+1) x0 x1 x9 x10 x11=ZfO Q m0 x0 x1 x9 x10 x11:=by kernel_rfl
theorem ZeZ (Q:QD) (x0 x1 x9:LL) (n:Nat) (hb:n≤big) (J:Nat→Prop)
  (step:∀ (k:Nat),k<n→J k→∀ K:Prop,(J (k+1)→K)→(0≤(k:Int)∧(k:Int)<x9.length∧(x1.length≤big→iff (decide ((k:Int)≥((x1.length:Int)))) (True∧Q (.v (.int .i64) (V.i 1)) []) (0≤(k:Int)∧(k:Int)<x1.length∧cl ZcL [.v (.int .i64) (((x9.getD k []).drop 0).headD V.none),.v (.int .i64) (((x1.getD k []).drop 0).headD V.none)] [] fun r1 H2=>r1=(.v (.int .i64) (r1.V))∧H2=[]∧iff (r1.V.int != (0:Int)) (True∧Q (.v (.int .i64) (r1.V)) []) (K)))))
  (last:J n→((x0.length≤big→(x1.length≤big→iff (decide (((x0.length:Int))<((x1.length:Int)))) (True∧Q (.v (.int .i64) (V.i (-1))) []) (True∧Q (.v (.int .i64) (V.i 0)) [])))))
  (k:Nat) (le0:k≤n) (hj:J k):∃ m0,Zah Q m0 x0 x1 x9 (n:Int) ((k:Int)):=by
 exact rangeG0 n hb J (fun m0 i=>Zah Q m0 x0 x1 x9 (n:Int) i) (fun m0 i=>Zfg Q m0 x0 x1 x9 (n:Int) i) (fun k hl_ hj_ m_ ih_=>step k hl_ hj_ _ ih_) last k le0 hj
def ZgH (a0 a1:LL) (Q:QD):Prop :=
 (a0.length≤big→∃ m0,Zah Q m0 a0 a1 a0 ((a0.length:Int)) 0)
theorem Zht (a0 a1:LL) (Q:QD) (h:ZgH a0 a1 Q):cl Zbk [.v (.sl ZT) (V.l a0),.v (.sl ZT) (V.l a1)] [] Q :=
 acalls2 (E:=Zat) (envOk _ _ _ _ _) 0 Tryz.func40 (by kernel_rfl) h
def ZbX:Env:=envA [] [] [] [] []
def Zax (a0:LL) (Q:QD):Prop :=
 cl Zb7 [.v (.sl ZT) (V.l a0),.fn ZN []] [] fun r1 H2=>r1=(.v (.int .i64) (r1.V))∧H2=[]∧True∧Q (.v .bool (V.b (decide (r1.V.int≥(0:Int))))) []
theorem Zcm (a0:LL) (Q:QD) (h:Zax a0 Q):cl Zay [.v (.sl ZT) (V.l a0),.fn ZN []] [] Q :=
 acalls2 (E:=ZbX) (envOk _ _ _ _ _) 0 Tryz.func70 (by kernel_rfl) h
end Go.Proofs.YthhnadeoioeniaaGreat
set_option maxRecDepth 100000
namespace Go.Proofs.YthhnadeoioeniaaGreat
open Go.Abs
def Zlf:Env:=envA [] [] [] [] []
def Ziw (a0 a1:Int) (Q:QD):Prop :=
 0≤(32:Int)∧0≤(32:Int)∧0≤(32:Int)∧0≤(32:Int)∧0≤(32:Int)∧(True∧True∧True)∧Q (.tup [.v (.int .u64) (V.i (IntKind.u64.wrap ((IntKind.u64.wrap ((IntKind.u64.wrap ((a0.fdiv (2 ^ (min ((32:Int)).toNat IntKind.u64.bits)))*(a1.fdiv (2 ^ (min ((32:Int)).toNat IntKind.u64.bits)))))+((IntKind.u64.wrap ((IntKind.u64.wrap ((a0.fdiv (2 ^ (min ((32:Int)).toNat IntKind.u64.bits)))*(bitAnd .u64 a1 ((4294967295:Int)))))+((IntKind.u64.wrap ((bitAnd .u64 a0 ((4294967295:Int)))*(bitAnd .u64 a1 ((4294967295:Int))))).fdiv (2 ^ (min ((32:Int)).toNat IntKind.u64.bits))))).fdiv (2 ^ (min ((32:Int)).toNat IntKind.u64.bits)))))+((IntKind.u64.wrap ((bitAnd .u64 ((IntKind.u64.wrap ((IntKind.u64.wrap ((a0.fdiv (2 ^ (min ((32:Int)).toNat IntKind.u64.bits)))*(bitAnd .u64 a1 ((4294967295:Int)))))+((IntKind.u64.wrap ((bitAnd .u64 a0 ((4294967295:Int)))*(bitAnd .u64 a1 ((4294967295:Int))))).fdiv (2 ^ (min ((32:Int)).toNat IntKind.u64.bits)))))) ((4294967295:Int)))+(IntKind.u64.wrap ((bitAnd .u64 a0 ((4294967295:Int)))*(a1.fdiv (2 ^ (min ((32:Int)).toNat IntKind.u64.bits))))))).fdiv (2 ^ (min ((32:Int)).toNat IntKind.u64.bits)))))),.v (.int .u64) (V.i (IntKind.u64.wrap (a0*a1)))]) []
theorem Zmg (a0 a1:Int) (Q:QD) (h:Ziw a0 a1 Q):cl ZgS [.v (.int .u64) (V.i a0),.v (.int .u64) (V.i a1)] [] Q :=
 acalls2 (E:=Zlf) (envOk _ _ _ _ _) 0 Tryz.func114 (by kernel_rfl) h
def Za2:Env:=envA [(4,(.undef 0)::(.undef 2)::ua 4 5 (ua 12 13 ((.dead 4)::da 19 2 ([]))))] [] [] [] []
def Zhj (Q:QD):Post:=blockK 0 (seqJ Za2 (fnAt [1,1,1] Tryz.f115) (endK Za2 Tryz.f115 Q))
@[irreducible] def ZaN (Q:QD) (m0:Nat) (x9:LL) (x10 x11:Int):Prop :=
 iter (adj (Za2.adj 4)) (evCode Za2 (fnAt [1,1,0,1,0,0] Tryz.f115)) (Zhj Q) m0 ⟨.undef::.skip::.undef::.skip::un 5 ((.v (.sl Zap) (V.l x9))::(.v (.int .i64) (V.i x10))::(.v (.int .i64) (V.i x11))::un 13 ([])),dd 25 ([])⟩ []
def Zg8 (Q:QD) (m0:Nat) (x9:LL) (x10 x11:Int):Prop :=
 iff (decide (x11<x10)) (0≤x11∧x11<x9.length∧cl ZgU [.v (.sl Za) (V.l ([[((x9.getD x11.toNat []).drop 0).headD V.none,(((x9.getD x11.toNat []).drop 0).tail).headD V.none,((((x9.getD x11.toNat []).drop 0).tail).tail).headD V.none],[(((((x9.getD x11.toNat []).drop 0).tail).tail).tail).headD V.none,((((((x9.getD x11.toNat []).drop 0).tail).tail).tail).tail).headD V.none,(((((((x9.getD x11.toNat []).drop 0).tail).tail).tail).tail).tail).headD V.none]]))] [] fun r1 H2=>r1=(.v (.int .i64) (r1.V))∧H2=[]∧iff (r1.V.int != (0:Int)) (True∧Q (.v (.int .i64) (r1.V)) []) (ZaN Q m0 x9 x10 (IntKind.i64.wrap (x11+(1:Int))))) (True∧Q (.v (.int .i64) (V.i 0)) [])
theorem Zgf (Q:QD) (m0:Nat) (x9:LL) (x10 x11:Int):ZaN Q (m0+1) x9 x10 x11=Zg8 Q m0 x9 x10 x11:=by kernel_rfl
theorem ZfE (Q:QD) (x9:LL) (n:Nat) (hb:n≤big) (J:Nat→Prop)
  (step:∀ (k:Nat),k<n→J k→∀ K:Prop,(J (k+1)→K)→(0≤(k:Int)∧(k:Int)<x9.length∧cl ZgU [.v (.sl Za) (V.l ([[((x9.getD k []).drop 0).headD V.none,(((x9.getD k []).drop 0).tail).headD V.none,((((x9.getD k []).drop 0).tail).tail).headD V.none],[(((((x9.getD k []).drop 0).tail).tail).tail).headD V.none,((((((x9.getD k []).drop 0).tail).tail).tail).tail).headD V.none,(((((((x9.getD k []).drop 0).tail).tail).tail).tail).tail).headD V.none]]))] [] fun r1 H2=>r1=(.v (.int .i64) (r1.V))∧H2=[]∧iff (r1.V.int != (0:Int)) (True∧Q (.v (.int .i64) (r1.V)) []) (K)))
  (last:J n→(True∧Q (.v (.int .i64) (V.i 0)) []))
  (k:Nat) (le0:k≤n) (hj:J k):∃ m0,ZaN Q m0 x9 (n:Int) ((k:Int)):=by
 exact rangeG0 n hb J (fun m0 i=>ZaN Q m0 x9 (n:Int) i) (fun m0 i=>Zgf Q m0 x9 (n:Int) i) (fun k hl_ hj_ m_ ih_=>step k hl_ hj_ _ ih_) last k le0 hj
def Zii (a0:LL) (Q:QD):Prop :=
 (a0.length≤big→iff (decide (((a0.length:Int)) > (64:Int))) (True∧Q (.v (.int .i64) (V.i 3)) []) ((a0.length≤big→∃ m0,ZaN Q m0 a0 ((a0.length:Int)) 0)))
theorem Zjl (a0:LL) (Q:QD) (h:Zii a0 Q):cl Zee [.v (.sl Zap) (V.l a0)] [] Q :=
 acalls2 (E:=Za2) (envOk _ _ _ _ _) 0 Tryz.func115 (by kernel_rfl) h
def Zj:Env:=envA [(3,(.undef 0)::(.undef 6)::(.undef 8)::ua 10 4 (ua 17 13 (ua 32 25 ([.dead 6,.dead 8,.dead 10,.dead 29,.dead 46,.dead 54])))),(6,(.undef 0)::(.undef 6)::(.undef 8)::ua 10 4 (ua 17 7 (ua 26 4 (ua 32 25 ([.dead 6,.dead 8,.dead 10,.dead 29,.dead 46,.dead 54]))))),(10,(.undef 0)::(.undef 6)::(.undef 8)::ua 10 4 (ua 17 7 (ua 26 3 (ua 32 25 ([.dead 8])))))] [] [] [] []
def Zd1 (Q:QD):Post:=blockK 0 (seqJ Zj (fnAt [1,1,1] Tryz.f116) (endK Zj Tryz.f116 Q))
def Zd2 (Q:QD) (m0:Nat):Post:=blockK 2 (blockK 1 (seqJ Zj (fnAt [1,1,0,1,0,0,1,1,1] Tryz.f116) (loopK (adj (Zj.adj 3)) (iter (adj (Zj.adj 3)) (evCode Zj (fnAt [1,1,0,1,0,0] Tryz.f116)) (Zd1 Q) m0) (Zd1 Q))))
@[irreducible] def Z8 (Q:QD) (m0 m1:Nat) (zx14:LL) (zx15 zx16:Int) (zx24_0 zx24_1 zx24_2 zx24_3 zx24_4 zx24_5:V) (zx25:Int) (zx29_0:List V) (zy3_0:Bool) (zy13:LL) (q1_0:Bool) (q3:LL) (rows:LL):Prop :=
 rangeR (evCode Zj (fnAt [1,1,0,1,0,0,1,1,0,0,1,1,0,0,1,1,0,0,1,1,0,0] Tryz.f116)) (evCode Zj (fnAt [1,1,0,1,0,0,1,1,0,0,1,1,0,0,1,1,0,0,1,1,0,1] Tryz.f116)) [30,31] (rowA 130) [.cells [.undef],.cells [.v .bool (V.b zy3_0)],.cells [.mp (.own 3)],.map Zek zy13] (.undef::.skip::(.ptr (.own 0) 0)::(.ptr (.own 1) 0)::(.ptr (.own 2) 0)::.skip::.undef::.skip::.undef::.skip::un 4 ((.v (.sl Zap) (V.l zx14))::(.v (.int .i64) (V.i zx15))::(.v (.int .i64) (V.i zx16))::un 7 ((.agg [.v .str (zx24_0),.v .bool (zx24_1),.v (.sl Za) (zx24_2),.v .str (zx24_3),.v .bool (zx24_4),.v (.sl Za) (zx24_5)])::(.v (.int .i64) (V.i zx25))::un 3 ((.fn ZG [.elt Za zx29_0 0])::sk 2 (un 25 ([.skip])))))) (dd 58 []) (outR Zj [.loc 2,.loc 3,.loc 4,.loc 13] ⟨.undef::.skip::(.ptr (.loc 2) 0)::(.ptr (.loc 3) 0)::(.ptr (.loc 4) 0)::.skip::.undef::.skip::.undef::.skip::un 4 ((.v (.sl Zap) (V.l zx14))::(.v (.int .i64) (V.i zx15))::(.v (.int .i64) (V.i zx16))::un 7 ((.agg [.v .str (zx24_0),.v .bool (zx24_1),.v (.sl Za) (zx24_2),.v .str (zx24_3),.v .bool (zx24_4),.v (.sl Za) (zx24_5)])::(.v (.int .i64) (V.i zx25))::un 3 ((.fn ZG [.elt Za zx29_0 0])::sk 2 (un 25 ([.skip]))))),dd 2 ((.cells [.undef])::(.cells [.v .bool (V.b zy3_0)])::(.cells [.mp (.loc 13)])::dd 8 ((.map Zek zy13)::dd 44 ([])))⟩ [] (blockK 4 (blockK 3 (seqJ Zj (fnAt [1,1,0,1,0,0,1,1,0,0,1,1,0,0,1,1,1] Tryz.f116) (loopK (adj (Zj.adj 6)) (iter (adj (Zj.adj 6)) (evCode Zj (fnAt [1,1,0,1,0,0,1,1,0,0,1,1,0,0] Tryz.f116)) (Zd2 Q m0) m1) (Zd2 Q m0)))))) rows [.cells [.undef],.cells [.v .bool (V.b q1_0)],.cells [.mp (.own 3)],.map Zek q3]
@[irreducible] def Zbq (Q:QD) (m0 m1:Nat) (x14:LL) (x15 x16:Int) (x24_0 x24_1 x24_2 x24_3 x24_4 x24_5:V) (x25:Int) (y3_0:Bool) (y13:LL):Prop :=
 iter (adj (Zj.adj 6)) (evCode Zj (fnAt [1,1,0,1,0,0,1,1,0,0,1,1,0,0] Tryz.f116)) (Zd2 Q m0) m1 ⟨.undef::.skip::(.ptr (.loc 2) 0)::(.ptr (.loc 3) 0)::(.ptr (.loc 4) 0)::.skip::.undef::.skip::.undef::.skip::un 4 ((.v (.sl Zap) (V.l x14))::(.v (.int .i64) (V.i x15))::(.v (.int .i64) (V.i x16))::un 7 ((.agg [.v .str (x24_0),.v .bool (x24_1),.v (.sl Za) (x24_2),.v .str (x24_3),.v .bool (x24_4),.v (.sl Za) (x24_5)])::(.v (.int .i64) (V.i x25))::un 4 (sk 2 (un 25 ([.skip]))))),dd 2 ((.cells [.undef])::(.cells [.v .bool (V.b y3_0)])::(.cells [.mp (.loc 13)])::dd 8 ((.map Zek y13)::dd 44 ([])))⟩ []
@[irreducible] def Zbo (Q:QD) (m0:Nat) (x14:LL) (x15 x16:Int) (y3_0:Bool) (y13:LL):Prop :=
 iter (adj (Zj.adj 3)) (evCode Zj (fnAt [1,1,0,1,0,0] Tryz.f116)) (Zd1 Q) m0 ⟨.undef::.skip::(.ptr (.loc 2) 0)::(.ptr (.loc 3) 0)::(.ptr (.loc 4) 0)::.skip::.undef::.skip::.undef::.skip::un 4 ((.v (.sl Zap) (V.l x14))::(.v (.int .i64) (V.i x15))::(.v (.int .i64) (V.i x16))::un 13 (sk 2 (un 25 ([.skip])))),dd 2 ((.cells [.undef])::(.cells [.v .bool (V.b y3_0)])::(.cells [.mp (.loc 13)])::dd 8 ((.map Zek y13)::dd 44 ([])))⟩ []
theorem Zil (Q:QD) (m0 m1:Nat) (zx14:LL) (zx15 zx16:Int) (zx24_0 zx24_1 zx24_2 zx24_3 zx24_4 zx24_5:V) (zx25:Int) (zx29_0:List V) (zy3_0:Bool) (zy13:LL) (q1_0:Bool) (q3:LL):Z8 Q m0 m1 zx14 zx15 zx16 zx24_0 zx24_1 zx24_2 zx24_3 zx24_4 zx24_5 zx25 zx29_0 zy3_0 zy13 q1_0 q3 []=(Zbq Q m0 m1 zx14 zx15 zx16 zx24_0 zx24_1 zx24_2 zx24_3 zx24_4 zx24_5 (IntKind.i64.wrap (zx25+(1:Int))) q1_0 q3):=by kernel_rfl
theorem Zi1 (Q:QD) (m0 m1:Nat) (zx14:LL) (zx15 zx16:Int) (zx24_0 zx24_1 zx24_2 zx24_3 zx24_4 zx24_5:V) (zx25:Int) (zx29_0:List V) (zy3_0:Bool) (zy13:LL) (q1_0:Bool) (q3:LL) (r:List V) (rs:LL):Z8 Q m0 m1 zx14 zx15 zx16 zx24_0 zx24_1 zx24_2 zx24_3 zx24_4 zx24_5 zx25 zx29_0 zy3_0 zy13 q1_0 q3 (r::rs)=(iff ((r.tail.headD V.none).bool) (Z8 Q m0 m1 zx14 zx15 zx16 zx24_0 zx24_1 zx24_2 zx24_3 zx24_4 zx24_5 zx25 zx29_0 zy3_0 zy13 q1_0 q3 rs) (iff (mhas [.str] [r.headD V.none] q3) ((((r.tail.tail.headD V.none).list).length≤big→iff ((((mget [.str] [V.i 0] [r.headD V.none] q3).headD V.none).int) != ((((r.tail.tail.headD V.none).list).length:Int))) ((True∧True∧True)∧Q (.tup [.v (.mp Zek) (V.l ([])),.v .bool (V.b false)]) []) ((((r.tail.tail.headD V.none).list).length≤big→Z8 Q m0 m1 zx14 zx15 zx16 zx24_0 zx24_1 zx24_2 zx24_3 zx24_4 zx24_5 zx25 zx29_0 zy3_0 zy13 q1_0 (mset [.str] [r.headD V.none] [V.i ((((r.tail.tail.headD V.none).list).length:Int))] q3) rs)))) ((((r.tail.tail.headD V.none).list).length≤big→Z8 Q m0 m1 zx14 zx15 zx16 zx24_0 zx24_1 zx24_2 zx24_3 zx24_4 zx24_5 zx25 zx29_0 zy3_0 zy13 q1_0 (mset [.str] [r.headD V.none] [V.i ((((r.tail.tail.headD V.none).list).length:Int))] q3) rs)))):=by kernel_rfl
theorem ZhW (Q:QD) (m0 m1:Nat) (zx14:LL) (zx15 zx16:Int) (zx24_0 zx24_1 zx24_2 zx24_3 zx24_4 zx24_5:V) (zx25:Int) (zx29_0:List V) (zy3_0:Bool) (zy13:LL) (J:LL→Bool→LL→Prop)
  (step:∀ (r:List V) (rs:LL) (q1_0:Bool) (q3:LL),J (r::rs) q1_0 q3→∀ K:Bool→LL→Prop,(∀ (q1_0':Bool) (q3':LL),J rs q1_0' q3'→K q1_0' q3')→(iff ((r.tail.headD V.none).bool) (K q1_0 q3) (iff (mhas [.str] [r.headD V.none] q3) ((((r.tail.tail.headD V.none).list).length≤big→iff ((((mget [.str] [V.i 0] [r.headD V.none] q3).headD V.none).int) != ((((r.tail.tail.headD V.none).list).length:Int))) ((True∧True∧True)∧Q (.tup [.v (.mp Zek) (V.l ([])),.v .bool (V.b false)]) []) ((((r.tail.tail.headD V.none).list).length≤big→K q1_0 (mset [.str] [r.headD V.none] [V.i ((((r.tail.tail.headD V.none).list).length:Int))] q3))))) ((((r.tail.tail.headD V.none).list).length≤big→K q1_0 (mset [.str] [r.headD V.none] [V.i ((((r.tail.tail.headD V.none).list).length:Int))] q3))))))
  (last:∀ (q1_0:Bool) (q3:LL),J [] q1_0 q3→(Zbq Q m0 m1 zx14 zx15 zx16 zx24_0 zx24_1 zx24_2 zx24_3 zx24_4 zx24_5 (IntKind.i64.wrap (zx25+(1:Int))) q1_0 q3))
  : ∀ (rows:LL) (q1_0:Bool) (q3:LL),J rows q1_0 q3→Z8 Q m0 m1 zx14 zx15 zx16 zx24_0 zx24_1 zx24_2 zx24_3 zx24_4 zx24_5 zx25 zx29_0 zy3_0 zy13 q1_0 q3 rows:=by
 intro rows
 induction rows with
 | nil=>intro q1_0 q3 h; rw [Zil]; exact last q1_0 q3 h
 | cons r rs ih=>intro q1_0 q3 h; rw [Zi1]; exact step r rs q1_0 q3 h (fun q1_0 q3=>Z8 Q m0 m1 zx14 zx15 zx16 zx24_0 zx24_1 zx24_2 zx24_3 zx24_4 zx24_5 zx25 zx29_0 zy3_0 zy13 q1_0 q3 rs) ih
def Zeb (Q:QD) (m0 m1:Nat) (x14:LL) (x15 x16:Int) (x24_0 x24_1 x24_2 x24_3 x24_4 x24_5:V) (x25:Int) (y3_0:Bool) (y13:LL):Prop :=
 iff (decide (x25<(2:Int))) (0≤x25∧x25<(2:Int)∧cl Zd7 [.agg [.v .str ((([[x24_0,x24_1,x24_2],[x24_3,x24_4,x24_5]]:List (List V)).getD x25.toNat []).headD V.none),.v .bool (((([[x24_0,x24_1,x24_2],[x24_3,x24_4,x24_5]]:List (List V)).getD x25.toNat []).tail).headD V.none),.v (.sl Za) ((((([[x24_0,x24_1,x24_2],[x24_3,x24_4,x24_5]]:List (List V)).getD x25.toNat []).tail).tail).headD V.none)]] [] fun r1 H2=>r1=(.fn ZG [.elt Za ((r1.capsOf.headD .undef).eltOf) 0])∧H2=[]∧∃ rows:LL,itA 130 [.elt Za ((r1.capsOf.headD .undef).eltOf) 0] rows∧Z8 Q m0 m1 x14 x15 x16 x24_0 x24_1 x24_2 x24_3 x24_4 x24_5 x25 ((r1.capsOf.headD .undef).eltOf) y3_0 y13 y3_0 y13 rows) (Zbo Q m0 x14 x15 (IntKind.i64.wrap (x16+(1:Int))) y3_0 y13)
theorem ZhS (Q:QD) (m0 m1:Nat) (x14:LL) (x15 x16:Int) (x24_0 x24_1 x24_2 x24_3 x24_4 x24_5:V) (x25:Int) (y3_0:Bool) (y13:LL):Zbq Q m0 (m1+1) x14 x15 x16 x24_0 x24_1 x24_2 x24_3 x24_4 x24_5 x25 y3_0 y13=Zeb Q m0 m1 x14 x15 x16 x24_0 x24_1 x24_2 x24_3 x24_4 x24_5 x25 y3_0 y13:=by kernel_rfl
theorem Zh2 (Q:QD) (m0:Nat):RuleG12 (Zbq Q m0) (Zeb Q m0):=ruleG12 _ _ (ZhS Q m0)
def Zd3 (Q:QD) (m0:Nat) (x14:LL) (x15 x16:Int) (y3_0:Bool) (y13:LL):Prop :=
 iff (decide (x16<x15)) (0≤x16∧x16<x14.length∧∃ m1,Zbq Q m0 m1 x14 x15 x16 (((x14.getD x16.toNat []).drop 0).headD V.none) ((((x14.getD x16.toNat []).drop 0).tail).headD V.none) (((((x14.getD x16.toNat []).drop 0).tail).tail).headD V.none) ((((((x14.getD x16.toNat []).drop 0).tail).tail).tail).headD V.none) (((((((x14.getD x16.toNat []).drop 0).tail).tail).tail).tail).headD V.none) ((((((((x14.getD x16.toNat []).drop 0).tail).tail).tail).tail).tail).headD V.none) 0 y3_0 y13) ((True∧True∧True)∧Q (.tup [.v (.mp Zek) (V.l y13),.v .bool (V.b true)]) [])
theorem ZhR (Q:QD) (m0:Nat) (x14:LL) (x15 x16:Int) (y3_0:Bool) (y13:LL):Zbo Q (m0+1) x14 x15 x16 y3_0 y13=Zd3 Q m0 x14 x15 x16 y3_0 y13:=by kernel_rfl
theorem ZhQ (Q:QD):RuleG5 (Zbo Q) (Zd3 Q):=ruleG5 _ _ (ZhR Q)
def Zkx (a0:LL) (Q:QD):Prop :=
 (a0.length≤big→∃ m0,Zbo Q m0 a0 ((a0.length:Int)) 0 false (([]:List (List V))))
theorem ZlA (a0:LL) (Q:QD) (h:Zkx a0 Q):cl Zfo [.v (.sl Zap) (V.l a0)] [] Q :=
 acalls2 (E:=Zj) (envOk _ _ _ _ _) 0 Tryz.func116 (by kernel_rfl) h
def ZcB:Env:=envA [] [] [] [] []
def ZaM (a0:LL) (Q:QD):Prop :=
 cl Zbw [.v (.sl Zap) (V.l a0),.fn ZaF []] [] fun r1 H2=>r1=(.v (.int .i64) (r1.V))∧H2=[]∧True∧Q (.v .bool (V.b (decide (r1.V.int≥(0:Int))))) []
theorem Zc9 (a0:LL) (Q:QD) (h:ZaM a0 Q):cl Za5 [.v (.sl Zap) (V.l a0),.fn ZaF []] [] Q :=
 acalls2 (E:=ZcB) (envOk _ _ _ _ _) 0 Tryz.func118 (by kernel_rfl) h
def Zkl:Env:=envA [] [] [] [] []
def Zhz (a0:ByteArray) (Q:QD):Prop :=
 cl ZeX [.v .str (V.s a0),.v .str (V.s (ByteArray.mk #[35]))] [] fun r1 H2=>r1=(.v .bool (r1.V))∧H2=[]∧True∧Q (.v .bool (r1.V)) []
theorem ZlN (a0:ByteArray) (Q:QD) (h:Zhz a0 Q):cl ZeC [.v .str (V.s a0)] [] Q :=
 acalls2 (E:=Zkl) (envOk _ _ _ _ _) 0 Tryz.func117 (by kernel_rfl) h
def ZfP:Env:=envA [(3000004,ua 1 2 ((.undef 4)::ua 6 2 ((.undef 9)::ua 11 21 ([.dead 4,.dead 25]))))] [(4,12,[],[])] [] [] [4]
@[irreducible] def Zfj (Q:QD) (x0:LL) (y5_0:Int) (y5_1:LL) (y8_0 y8_1 y8_2:V):Prop :=
 joinM (evCode ZfP (fnAt [1,1,1] Tryz.f123)) ⟨(.v (.sl Zap) (V.l x0))::un 2 (.skip::.undef::(.ptr (.loc 5) 0)::un 2 ((.ptr (.loc 8) 0)::.undef::.skip::un 21 (sk 14 ([])))),dd 5 ((.cells [.v (.int .i64) (V.i y5_0),.v (.sl ZT) (V.l y5_1)])::dd 2 ((.cells [.v .str (y8_0),.v .bool (y8_1),.v (.sl Za) (y8_2)])::dd 37 ([])))⟩ [] (endK ZfP Tryz.f123 Q)
def ZhD (Q:QD) (x0:LL) (y5_0:Int) (y5_1:LL) (y8_0 y8_1 y8_2:V):Prop :=
 0≤y5_0∧y5_0<x0.length∧(∃ r1:D,cl ZhN [.agg [.v .str (((x0.getD y5_0.toNat []).drop 0).headD V.none),.v .bool ((((x0.getD y5_0.toNat []).drop 0).tail).headD V.none),.v (.sl Za) (((((x0.getD y5_0.toNat []).drop 0).tail).tail).headD V.none)],.agg [.v .str (y8_0),.v .bool (y8_1),.v (.sl Za) (y8_2)]] [] (fun r H'=>r=(.tup [.v (.sl Z2) ((r1.parts.headD .undef).V),.v .bool ((r1.parts.tail.headD .undef).V)])∧H'=[])∧iff (!(((r1.parts.tail.headD .undef).V).bool)) ((True∧True∧True)∧Q (.tup [.nil,.v (.int .i64) (V.i 9)]) []) ((True∧True∧True)∧Q (.tup [.v (.sl Z2) ((r1.parts.headD .undef).V),.v (.int .i64) (V.i 0)]) []))
theorem Zka (Q:QD) (x0:LL) (y5_0:Int) (y5_1:LL) (y8_0 y8_1 y8_2:V):Zfj Q x0 y5_0 y5_1 y8_0 y8_1 y8_2=ZhD Q x0 y5_0 y5_1 y8_0 y8_1 y8_2:=by kernel_rfl
def ZjL (a0:LL) (a1_0:ByteArray) (a1_1:Bool) (a1_2:LL) (a2_0:Int) (a2_1:LL) (Q:QD):Prop :=
 cl ZlH [.agg [.v .str (V.s a1_0),.v .bool (V.b a1_1),.v (.sl Za) (V.l a1_2)],.v (.sl ZT) (V.l a2_1)] [] fun r1 H2=>r1=(.tup [.agg [.v .str ((((r1.parts.headD .undef).cells).headD .undef).V),.v .bool (((((r1.parts.headD .undef).cells).tail).headD .undef).V),.v (.sl Za) ((((((r1.parts.headD .undef).cells).tail).tail).headD .undef).V)],.v .bool ((r1.parts.tail.headD .undef).V)])∧H2=[]∧iff (decide (a2_0<(0:Int))) ((True∧True∧True)∧Q (.tup [.nil,.v (.int .i64) (V.i 8)]) []) ((a0.length≤big→iff (decide (a2_0≥((a0.length:Int)))) ((True∧True∧True)∧Q (.tup [.nil,.v (.int .i64) (V.i 8)]) []) (iff (!(((r1.parts.tail.headD .undef).V).bool)) ((True∧True∧True)∧Q (.tup [.nil,.v (.int .i64) (V.i 8)]) []) (Zfj Q a0 a2_0 a2_1 ((((r1.parts.headD .undef).cells).headD .undef).V) (((((r1.parts.headD .undef).cells).tail).headD .undef).V) ((((((r1.parts.headD .undef).cells).tail).tail).headD .undef).V)))))
theorem Zmx (a0:LL) (a1_0:ByteArray) (a1_1:Bool) (a1_2:LL) (a2_0:Int) (a2_1:LL) (Q:QD) (h:ZjL a0 a1_0 a1_1 a1_2 a2_0 a2_1 Q):cl ZhO [.v (.sl Zap) (V.l a0),.agg [.v .str (V.s a1_0),.v .bool (V.b a1_1),.v (.sl Za) (V.l a1_2)],.agg [.v (.int .i64) (V.i a2_0),.v (.sl ZT) (V.l a2_1)]] [] Q :=
 acalls2 (E:=ZfP) (envOk _ _ _ _ _) 0 Tryz.func123 (by kernel_rfl) h
def Z6:Env:=envA [(5,(.undef 0)::(.undef 4)::ua 8 2 (ua 12 7 ((.undef 21)::ua 25 29 ([.dead 4,.dead 13,.dead 30,.dead 32,.dead 44,.dead 52])))),(3000010,(.undef 0)::(.undef 4)::ua 8 2 (ua 12 2 (ua 16 3 ((.undef 21)::ua 25 29 ([.dead 13,.dead 44])))))] [(7,3,[],[]),(9,10,[],[])] [] [] [10]
def Zd8 (Q:QD):Post:=blockK 0 (seqJ Z6 (fnAt [1,1,1,1] Tryz.f124) (endK Z6 Tryz.f124 Q))
@[irreducible] def ZaZ (Q:QD) (m0:Nat) (x1:LL) (x2 x3 x10 x11:Int) (x14 x15:V) (x22:LL) (x23 x24:Int):Prop :=
 joinM (evCode Z6 (fnAt [1,1,1,0,1,0,0,1,1,0,0,1,1,1] Tryz.f124)) ⟨.undef::(.v (.sl ZT) (V.l x1))::(.v (.int .i64) (V.i x2))::(.v (.int .i64) (V.i x3))::.undef::sk 3 (un 2 ((.v (.int .i64) (V.i x10))::(.v (.int .i64) (V.i x11))::un 2 ((.v (.int .i64) (x14))::(.v (.int .i64) (x15))::un 3 (sk 2 (.undef::(.v (.sl Za) (V.l x22))::(.v (.int .i64) (V.i x23))::(.v (.int .i64) (V.i x24))::un 29 (sk 3 ([]))))))),dd 57 ([])⟩ [] (blockK 1 (seqJ Z6 (fnAt [1,1,1,0,1,0,0,1,1,1] Tryz.f124) (loopK (adj (Z6.adj 5)) (iter (adj (Z6.adj 5)) (evCode Z6 (fnAt [1,1,1,0,1,0,0] Tryz.f124)) (Zd8 Q) m0) (Zd8 Q))))
@[irreducible] def ZaY (Q:QD) (m0:Nat) (x1:LL) (x2 x3 x10 x11:Int) (x22:LL) (x23 x24:Int):Prop :=
 iter (adj (Z6.adj 5)) (evCode Z6 (fnAt [1,1,1,0,1,0,0] Tryz.f124)) (Zd8 Q) m0 ⟨.undef::(.v (.sl ZT) (V.l x1))::(.v (.int .i64) (V.i x2))::(.v (.int .i64) (V.i x3))::.undef::sk 3 (un 2 ((.v (.int .i64) (V.i x10))::(.v (.int .i64) (V.i x11))::un 7 (sk 2 (.undef::(.v (.sl Za) (V.l x22))::(.v (.int .i64) (V.i x23))::(.v (.int .i64) (V.i x24))::un 29 (sk 3 ([])))))),dd 57 ([])⟩ []
def ZfB (Q:QD) (m0:Nat) (x1:LL) (x2 x3 x10 x11:Int) (x14 x15:V) (x22:LL) (x23 x24:Int):Prop :=
 ZaY Q m0 x1 x2 x3 (IntKind.i64.wrap (x10+x14.int)) (if x15.int > x11 then x15.int else x11) x22 x23 (IntKind.i64.wrap (x24+(1:Int)))
theorem ZhH (Q:QD) (m0:Nat) (x1:LL) (x2 x3 x10 x11:Int) (x14 x15:V) (x22:LL) (x23 x24:Int):ZaZ Q m0 x1 x2 x3 x10 x11 x14 x15 x22 x23 x24=ZfB Q m0 x1 x2 x3 x10 x11 x14 x15 x22 x23 x24:=by kernel_rfl
def Zjp (Q:QD) (m0:Nat) (x1:LL) (x2 x3 x10 x11:Int) (x22:LL) (x23 x24:Int):Prop :=
 iff (decide (x24<x23)) (0≤x24∧x24<x22.length∧(∃ r1:D,cl Zdq [.agg [.v .str (((x22.getD x24.toNat []).drop 0).headD V.none),.v .bool ((((x22.getD x24.toNat []).drop 0).tail).headD V.none),.v (.sl Za) (((((x22.getD x24.toNat []).drop 0).tail).tail).headD V.none)]] [] (fun r H'=>r=(.v (.int .i64) (r1.V))∧H'=[])∧cl Zct [.agg [.v .str (((x22.getD x24.toNat []).drop 0).headD V.none),.v .bool ((((x22.getD x24.toNat []).drop 0).tail).headD V.none),.v (.sl Za) (((((x22.getD x24.toNat []).drop 0).tail).tail).headD V.none)]] [] fun r2 H3=>r2=(.v (.int .i64) (r2.V))∧H3=[]∧0≤(0:Int)∧(0:Int)<x1.length∧iff (x24 == ((((x1.getD ((0:Int)).toNat []).drop 0).headD V.none).int)) (0≤(1:Int)∧(1:Int)≤(x1.length:Int)∧(x1.length:Int)≤x1.length∧(∃ r4:D,cl Zc0 [.agg [.v .str (((x22.getD x24.toNat []).drop 0).headD V.none),.v .bool ((((x22.getD x24.toNat []).drop 0).tail).headD V.none),.v (.sl Za) (((((x22.getD x24.toNat []).drop 0).tail).tail).headD V.none)],.v (.sl ZT) (V.l ((x1.take ((x1.length:Int)).toNat).drop (1:Int).toNat)),.v (.int .i64) (V.i x2),.v (.int .i64) (V.i x3)] [] (fun r H'=>r=(.tup [.v (.int .i64) ((r4.parts.headD .undef).V),.v (.int .i64) ((r4.parts.tail.headD .undef).V)])∧H'=[])∧ZaZ Q m0 x1 x2 x3 x10 x11 ((r4.parts.headD .undef).V) ((r4.parts.tail.headD .undef).V) x22 x23 x24)) (ZaZ Q m0 x1 x2 x3 x10 x11 r1.V r2.V x22 x23 x24))) ((True∧True∧True)∧Q (.tup [.v (.int .i64) (V.i x10),.v (.int .i64) (V.i (IntKind.i64.wrap (x11+(1:Int))))]) [])
theorem ZhT (Q:QD) (m0:Nat) (x1:LL) (x2 x3 x10 x11:Int) (x22:LL) (x23 x24:Int):ZaY Q (m0+1) x1 x2 x3 x10 x11 x22 x23 x24=Zjp Q m0 x1 x2 x3 x10 x11 x22 x23 x24:=by kernel_rfl
theorem Zhv (Q:QD) (x1:LL) (x2 x3:Int) (x22:LL) (n:Nat) (hb:n≤big) (J:Nat→Int→Int→Prop)
  (step:∀ (k:Nat) (x10 x11:Int),k<n→J k x10 x11→∀ m0:Nat,(∀ (x10' x11':Int),J (k+1) x10' x11'→ZaY Q m0 x1 x2 x3 x10' x11' x22 (n:Int) (IntKind.i64.wrap ((k:Int)+(1:Int))))→(0≤(k:Int)∧(k:Int)<x22.length∧(∃ r1:D,cl Zdq [.agg [.v .str (((x22.getD k []).drop 0).headD V.none),.v .bool ((((x22.getD k []).drop 0).tail).headD V.none),.v (.sl Za) (((((x22.getD k []).drop 0).tail).tail).headD V.none)]] [] (fun r H'=>r=(.v (.int .i64) (r1.V))∧H'=[])∧cl Zct [.agg [.v .str (((x22.getD k []).drop 0).headD V.none),.v .bool ((((x22.getD k []).drop 0).tail).headD V.none),.v (.sl Za) (((((x22.getD k []).drop 0).tail).tail).headD V.none)]] [] fun r2 H3=>r2=(.v (.int .i64) (r2.V))∧H3=[]∧0≤(0:Int)∧(0:Int)<x1.length∧iff ((k:Int) == ((((x1.getD ((0:Int)).toNat []).drop 0).headD V.none).int)) (0≤(1:Int)∧(1:Int)≤(x1.length:Int)∧(x1.length:Int)≤x1.length∧(∃ r4:D,cl Zc0 [.agg [.v .str (((x22.getD k []).drop 0).headD V.none),.v .bool ((((x22.getD k []).drop 0).tail).headD V.none),.v (.sl Za) (((((x22.getD k []).drop 0).tail).tail).headD V.none)],.v (.sl ZT) (V.l ((x1.take ((x1.length:Int)).toNat).drop (1:Int).toNat)),.v (.int .i64) (V.i x2),.v (.int .i64) (V.i x3)] [] (fun r H'=>r=(.tup [.v (.int .i64) ((r4.parts.headD .undef).V),.v (.int .i64) ((r4.parts.tail.headD .undef).V)])∧H'=[])∧ZaZ Q m0 x1 x2 x3 x10 x11 ((r4.parts.headD .undef).V) ((r4.parts.tail.headD .undef).V) x22 (n:Int) (k:Int))) (ZaZ Q m0 x1 x2 x3 x10 x11 r1.V r2.V x22 (n:Int) (k:Int)))))
  (last:∀ (x10 x11:Int),J n x10 x11→((True∧True∧True)∧Q (.tup [.v (.int .i64) (V.i x10),.v (.int .i64) (V.i (IntKind.i64.wrap (x11+(1:Int))))]) []))
  (k:Nat) (x10 x11:Int) (le0:k≤n) (hj:J k x10 x11):∃ m0,ZaY Q m0 x1 x2 x3 x10 x11 x22 (n:Int) ((k:Int)):=by
 exact rangeG2 n hb J (fun m0 i x10 x11=>ZaY Q m0 x1 x2 x3 x10 x11 x22 (n:Int) i) (fun m0 i x10 x11=>ZhT Q m0 x1 x2 x3 x10 x11 x22 (n:Int) i) (fun k x10 x11 hl_ hj_ m_ ih_=>step k x10 x11 hl_ hj_ m_ ih_) last k x10 x11 le0 hj
def ZeV (a0_0:ByteArray) (a0_1:Bool) (a0_2 a1:LL) (a2 a3:Int) (Q:QD):Prop :=
 (a1.length≤big→iff (((a1.length:Int)) == (0:Int)) ((True∧True∧True)∧Q (.tup [.v (.int .i64) (V.i a2),.v (.int .i64) (V.i a3)]) []) ((a0_2.length≤big→∃ m0,ZaY Q m0 a1 a2 a3 1 0 a0_2 ((a0_2.length:Int)) 0)))
theorem ZhA (a0_0:ByteArray) (a0_1:Bool) (a0_2 a1:LL) (a2 a3:Int) (Q:QD) (h:ZeV a0_0 a0_1 a0_2 a1 a2 a3 Q):cl Zc0 [.agg [.v .str (V.s a0_0),.v .bool (V.b a0_1),.v (.sl Za) (V.l a0_2)],.v (.sl ZT) (V.l a1),.v (.int .i64) (V.i a2),.v (.int .i64) (V.i a3)] [] Q :=
 acalls2 (E:=Z6) (envOk _ _ _ _ _) 0 Tryz.func124 (by kernel_rfl) h
def ZmE:Env:=envA [] [(4,14,[],[])] [12] [] []
def Zje (a0_0:ByteArray) (a0_1:Bool) (a0_2 a1:LL) (a2_0:ByteArray) (a2_1:Bool) (a2_2:LL) (Q:QD):Prop :=
 (a1.length≤big→iff (((a1.length:Int)) == (0:Int)) ((True∧True∧True∧True)∧Q (.agg [.v .str (V.s a2_0),.v .bool (V.b a2_1),.v (.sl Za) (V.l a2_2)]) []) ((([]:List (List V))).length=0∧0+a0_2.length≤lim∧0≤(0:Int)∧(0:Int)<a1.length∧0≤(0:Int)∧(0:Int)<a1.length∧((([]:List (List V)))++a0_2).length=0+a0_2.length∧0≤((((a1.getD ((0:Int)).toNat []).drop 0).headD V.none).int)∧((((a1.getD ((0:Int)).toNat []).drop 0).headD V.none).int)<(0+a0_2.length)∧((([]:List (List V)))++a0_2).length=0+a0_2.length∧(((((a1.getD ((0:Int)).toNat []).drop 0).headD V.none).int)).toNat<0+a0_2.length∧0≤(1:Int)∧(1:Int)≤(a1.length:Int)∧(a1.length:Int)≤a1.length∧(∃ r1:D,cl Zij [.agg [.v .str (((((([]:List (List V)))++a0_2).getD ((((((a1.getD ((0:Int)).toNat []).drop 0).headD V.none).int)).toNat) []).drop 0).headD V.none),.v .bool ((((((([]:List (List V)))++a0_2).getD ((((((a1.getD ((0:Int)).toNat []).drop 0).headD V.none).int)).toNat) []).drop 0).tail).headD V.none),.v (.sl Za) (((((((([]:List (List V)))++a0_2).getD ((((((a1.getD ((0:Int)).toNat []).drop 0).headD V.none).int)).toNat) []).drop 0).tail).tail).headD V.none)],.v (.sl ZT) (V.l ((a1.take ((a1.length:Int)).toNat).drop (1:Int).toNat)),.agg [.v .str (V.s a2_0),.v .bool (V.b a2_1),.v (.sl Za) (V.l a2_2)]] [] (fun r H'=>r=(.agg [.v .str ((r1.cells.headD .undef).V),.v .bool ((r1.cells.tail.headD .undef).V),.v (.sl Za) ((r1.cells.tail.tail.headD .undef).V)])∧H'=[])∧((([]:List (List V)))++a0_2).length=0+a0_2.length∧0≤((((a1.getD ((0:Int)).toNat []).drop 0).headD V.none).int)∧((((a1.getD ((0:Int)).toNat []).drop 0).headD V.none).int)<(0+a0_2.length)∧((([]:List (List V)))++a0_2).length=0+a0_2.length∧(((((a1.getD ((0:Int)).toNat []).drop 0).headD V.none).int)).toNat<0+a0_2.length∧(True∧True∧(0+a0_2.length=(((([]:List (List V)))++a0_2).set ((((((a1.getD ((0:Int)).toNat []).drop 0).headD V.none).int)).toNat) (setV (((([]:List (List V)))++a0_2).getD ((((((a1.getD ((0:Int)).toNat []).drop 0).headD V.none).int)).toNat) []) 0 [(r1.cells.headD .undef).V,(r1.cells.tail.headD .undef).V,(r1.cells.tail.tail.headD .undef).V])).length)∧True)∧Q (.agg [.v .str (V.s a0_0),.v .bool (V.b false),.v (.sl Za) (V.l (((([]:List (List V)))++a0_2).set ((((((a1.getD ((0:Int)).toNat []).drop 0).headD V.none).int)).toNat) (setV (((([]:List (List V)))++a0_2).getD ((((((a1.getD ((0:Int)).toNat []).drop 0).headD V.none).int)).toNat) []) 0 [(r1.cells.headD .undef).V,(r1.cells.tail.headD .undef).V,(r1.cells.tail.tail.headD .undef).V])))]) [])))
theorem Zl6 (a0_0:ByteArray) (a0_1:Bool) (a0_2 a1:LL) (a2_0:ByteArray) (a2_1:Bool) (a2_2:LL) (Q:QD) (h:Zje a0_0 a0_1 a0_2 a1 a2_0 a2_1 a2_2 Q):cl Zij [.agg [.v .str (V.s a0_0),.v .bool (V.b a0_1),.v (.sl Za) (V.l a0_2)],.v (.sl ZT) (V.l a1),.agg [.v .str (V.s a2_0),.v .bool (V.b a2_1),.v (.sl Za) (V.l a2_2)]] [] Q :=
 acalls2 (E:=ZmE) (envOk _ _ _ _ _) 0 Tryz.func125 (by kernel_rfl) h
def Zci:Env:=envA [] [] [] [] []
def ZaC (a0:LL) (Q:QD):Prop :=
 cl ZbG [.v (.sl Za) (V.l a0),.fn Z4 []] [] fun r1 H2=>r1=(.v (.int .i64) (r1.V))∧H2=[]∧True∧Q (.v .bool (V.b (decide (r1.V.int≥(0:Int))))) []
theorem ZcM (a0:LL) (Q:QD) (h:ZaC a0 Q):cl Za4 [.v (.sl Za) (V.l a0),.fn Z4 []] [] Q :=
 acalls2 (E:=Zci) (envOk _ _ _ _ _) 0 Tryz.func126 (by kernel_rfl) h
def ZdL:Env:=envA [(3,ua 0 3 (ua 5 2 (ua 10 8 ([.dead 1,.dead 5,.dead 15]))))] [] [] [] []
def ZkY (Q:QD):Post:=blockK 0 (seqJ ZdL (fnAt [1,1,1] Tryz.f128) (endK ZdL Tryz.f128 Q))
@[irreducible] def Zdf (Q:QD) (m0:Nat) (x3:Int) (x7:LL) (x8 x9:Int):Prop :=
 iter (adj (ZdL.adj 3)) (evCode ZdL (fnAt [1,1,0,1,0,0] Tryz.f128)) (ZkY Q) m0 ⟨un 3 ((.v (.int .i64) (V.i x3))::.skip::un 2 ((.v (.sl Za) (V.l x7))::(.v (.int .i64) (V.i x8))::(.v (.int .i64) (V.i x9))::un 8 ([.skip]))),dd 19 ([])⟩ []
def Zk3 (Q:QD) (m0:Nat) (x3:Int) (x7:LL) (x8 x9:Int):Prop :=
 iff (decide (x9<x8)) (0≤x9∧x9<x7.length∧cl ZeR [.agg [.v .str (((x7.getD x9.toNat []).drop 0).headD V.none),.v .bool ((((x7.getD x9.toNat []).drop 0).tail).headD V.none),.v (.sl Za) (((((x7.getD x9.toNat []).drop 0).tail).tail).headD V.none)]] [] fun r1 H2=>r1=(.v (.int .i64) (r1.V))∧H2=[]∧Zdf Q m0 (IntKind.i64.wrap (x3+r1.V.int)) x7 x8 (IntKind.i64.wrap (x9+(1:Int)))) (True∧Q (.v (.int .i64) (V.i x3)) [])
theorem Zj4 (Q:QD) (m0:Nat) (x3:Int) (x7:LL) (x8 x9:Int):Zdf Q (m0+1) x3 x7 x8 x9=Zk3 Q m0 x3 x7 x8 x9:=by kernel_rfl
theorem Zjk (Q:QD) (x7:LL) (n:Nat) (hb:n≤big) (J:Nat→Int→Prop)
  (step:∀ (k:Nat) (x3:Int),k<n→J k x3→∀ K:Int→Prop,(∀ (x3':Int),J (k+1) x3'→K x3')→(0≤(k:Int)∧(k:Int)<x7.length∧cl ZeR [.agg [.v .str (((x7.getD k []).drop 0).headD V.none),.v .bool ((((x7.getD k []).drop 0).tail).headD V.none),.v (.sl Za) (((((x7.getD k []).drop 0).tail).tail).headD V.none)]] [] fun r1 H2=>r1=(.v (.int .i64) (r1.V))∧H2=[]∧K (IntKind.i64.wrap (x3+r1.V.int))))
  (last:∀ (x3:Int),J n x3→(True∧Q (.v (.int .i64) (V.i x3)) []))
  (k:Nat) (x3:Int) (le0:k≤n) (hj:J k x3):∃ m0,Zdf Q m0 x3 x7 (n:Int) ((k:Int)):=by
 exact rangeG1 n hb J (fun m0 i x3=>Zdf Q m0 x3 x7 (n:Int) i) (fun m0 i x3=>Zj4 Q m0 x3 x7 (n:Int) i) (fun k x3 hl_ hj_ m_ ih_=>step k x3 hl_ hj_ _ ih_) last k x3 le0 hj
def Zmq (a0_0:ByteArray) (a0_1:Bool) (a0_2:LL) (Q:QD):Prop :=
 (a0_2.length≤big→∃ m0,Zdf Q m0 1 a0_2 ((a0_2.length:Int)) 0)
theorem Zmv (a0_0:ByteArray) (a0_1:Bool) (a0_2:LL) (Q:QD) (h:Zmq a0_0 a0_1 a0_2 Q):cl ZeR [.agg [.v .str (V.s a0_0),.v .bool (V.b a0_1),.v (.sl Za) (V.l a0_2)]] [] Q :=
 acalls2 (E:=ZdL) (envOk _ _ _ _ _) 0 Tryz.func128 (by kernel_rfl) h
def Zdc:Env:=envA [(3,ua 0 3 (ua 5 2 (ua 10 8 ((.dead 1)::(.dead 5)::da 15 2 ([])))))] [] [] [] []
def ZkP (Q:QD):Post:=blockK 0 (seqJ Zdc (fnAt [1,1,1] Tryz.f129) (endK Zdc Tryz.f129 Q))
@[irreducible] def Zcr (Q:QD) (m0:Nat) (x3:Int) (x7:LL) (x8 x9:Int):Prop :=
 iter (adj (Zdc.adj 3)) (evCode Zdc (fnAt [1,1,0,1,0,0] Tryz.f129)) (ZkP Q) m0 ⟨un 3 ((.v (.int .i64) (V.i x3))::.skip::un 2 ((.v (.sl Za) (V.l x7))::(.v (.int .i64) (V.i x8))::(.v (.int .i64) (V.i x9))::un 8 (sk 2 ([])))),dd 20 ([])⟩ []
def ZkG (Q:QD) (m0:Nat) (x3:Int) (x7:LL) (x8 x9:Int):Prop :=
 iff (decide (x9<x8)) (0≤x9∧x9<x7.length∧cl Zem [.agg [.v .str (((x7.getD x9.toNat []).drop 0).headD V.none),.v .bool ((((x7.getD x9.toNat []).drop 0).tail).headD V.none),.v (.sl Za) (((((x7.getD x9.toNat []).drop 0).tail).tail).headD V.none)]] [] fun r1 H2=>r1=(.v (.int .i64) (r1.V))∧H2=[]∧Zcr Q m0 (if r1.V.int > x3 then r1.V.int else x3) x7 x8 (IntKind.i64.wrap (x9+(1:Int)))) (True∧Q (.v (.int .i64) (V.i (IntKind.i64.wrap (x3+(1:Int))))) [])
theorem Zjb (Q:QD) (m0:Nat) (x3:Int) (x7:LL) (x8 x9:Int):Zcr Q (m0+1) x3 x7 x8 x9=ZkG Q m0 x3 x7 x8 x9:=by kernel_rfl
theorem Zid (Q:QD) (x7:LL) (n:Nat) (hb:n≤big) (J:Nat→Int→Prop)
  (step:∀ (k:Nat) (x3:Int),k<n→J k x3→∀ K:Int→Prop,(∀ (x3':Int),J (k+1) x3'→K x3')→(0≤(k:Int)∧(k:Int)<x7.length∧cl Zem [.agg [.v .str (((x7.getD k []).drop 0).headD V.none),.v .bool ((((x7.getD k []).drop 0).tail).headD V.none),.v (.sl Za) (((((x7.getD k []).drop 0).tail).tail).headD V.none)]] [] fun r1 H2=>r1=(.v (.int .i64) (r1.V))∧H2=[]∧K (if r1.V.int > x3 then r1.V.int else x3)))
  (last:∀ (x3:Int),J n x3→(True∧Q (.v (.int .i64) (V.i (IntKind.i64.wrap (x3+(1:Int))))) []))
  (k:Nat) (x3:Int) (le0:k≤n) (hj:J k x3):∃ m0,Zcr Q m0 x3 x7 (n:Int) ((k:Int)):=by
 exact rangeG1 n hb J (fun m0 i x3=>Zcr Q m0 x3 x7 (n:Int) i) (fun m0 i x3=>Zjb Q m0 x3 x7 (n:Int) i) (fun k x3 hl_ hj_ m_ ih_=>step k x3 hl_ hj_ _ ih_) last k x3 le0 hj
def ZlQ (a0_0:ByteArray) (a0_1:Bool) (a0_2:LL) (Q:QD):Prop :=
 (a0_2.length≤big→∃ m0,Zcr Q m0 0 a0_2 ((a0_2.length:Int)) 0)
theorem Zmo (a0_0:ByteArray) (a0_1:Bool) (a0_2:LL) (Q:QD) (h:ZlQ a0_0 a0_1 a0_2 Q):cl Zem [.agg [.v .str (V.s a0_0),.v .bool (V.b a0_1),.v (.sl Za) (V.l a0_2)]] [] Q :=
 acalls2 (E:=Zdc) (envOk _ _ _ _ _) 0 Tryz.func129 (by kernel_rfl) h
def ZU:Env:=envA [(3,ua 4 2 (ua 9 22 ([.dead 27])))] [] [] [] []
def Zd4 (Q:QD):Post:=blockK 0 (seqJ ZU (fnAt [1,1,1,1] Tryz.f133) (endK ZU Tryz.f133 Q))
@[irreducible] def ZS (Q:QD) (m0:Nat) (x0:LL) (x1:ByteArray) (x6 x7 x8:Int):Prop :=
 iter (adj (ZU.adj 3)) (evCode ZU (fnAt [1,1,1,0,0,0] Tryz.f133)) (Zd4 Q) m0 ⟨(.v (.sl Zb) (V.l x0))::(.v .str (V.s x1))::sk 2 (un 2 ((.v (.int .i64) (V.i x6))::(.v (.int .i64) (V.i x7))::(.v (.int .i64) (V.i x8))::un 22 (sk 23 ([])))),dd 54 ([])⟩ []
def Zau (Q:QD) (m0:Nat) (x0:LL) (x1:ByteArray) (x6 x7 x8:Int):Prop :=
 iff (decide (x7<x8)) (0≤(1:Int)∧0≤(IntKind.i64.wrap ((IntKind.u64.wrap (IntKind.i64.wrap (x7+x8))).fdiv (2 ^ (min ((1:Int)).toNat IntKind.u64.bits))))∧(IntKind.i64.wrap ((IntKind.u64.wrap (IntKind.i64.wrap (x7+x8))).fdiv (2 ^ (min ((1:Int)).toNat IntKind.u64.bits))))<x0.length∧cl Zd6 [.v .str (((x0.getD ((IntKind.i64.wrap ((IntKind.u64.wrap (IntKind.i64.wrap (x7+x8))).fdiv (2 ^ (min ((1:Int)).toNat IntKind.u64.bits))))).toNat []).drop 0).headD V.none),.v .str (V.s x1)] [] fun r1 H2=>r1=(.v .bool (r1.V))∧H2=[]∧iff r1.V.bool (ZS Q m0 x0 x1 x6 (IntKind.i64.wrap ((IntKind.i64.wrap ((IntKind.u64.wrap (IntKind.i64.wrap (x7+x8))).fdiv (2 ^ (min ((1:Int)).toNat IntKind.u64.bits))))+(1:Int))) x8) (ZS Q m0 x0 x1 x6 x7 (IntKind.i64.wrap ((IntKind.u64.wrap (IntKind.i64.wrap (x7+x8))).fdiv (2 ^ (min ((1:Int)).toNat IntKind.u64.bits)))))) (iff (decide (x7<x6)) (0≤x7∧x7<x0.length∧iff (((((x0.getD x7.toNat []).drop 0).headD V.none).str).toList == x1.toList) ((True∧True∧True)∧Q (.tup [.v (.int .i64) (V.i x7),.v .bool (V.b true)]) []) (0≤x7∧x7<x0.length∧cl Zel [.v .str (((x0.getD x7.toNat []).drop 0).headD V.none)] [] fun r3 H4=>r3=(.v .bool (r3.V))∧H4=[]∧iff r3.V.bool (cl Zel [.v .str (V.s x1)] [] fun r5 H6=>r5=(.v .bool (r5.V))∧H6=[]∧(True∧True∧True)∧Q (.tup [.v (.int .i64) (V.i x7),.v .bool (r5.V)]) []) ((True∧True∧True)∧Q (.tup [.v (.int .i64) (V.i x7),.v .bool (V.b false)]) []))) ((True∧True∧True)∧Q (.tup [.v (.int .i64) (V.i x7),.v .bool (V.b false)]) []))
theorem ZdO (Q:QD) (m0:Nat) (x0:LL) (x1:ByteArray) (x6 x7 x8:Int):ZS Q (m0+1) x0 x1 x6 x7 x8=Zau Q m0 x0 x1 x6 x7 x8:=by kernel_rfl
theorem ZdJ (Q:QD):RuleG5 (ZS Q) (Zau Q):=ruleG5 _ _ (ZdO Q)
def Zeu (a0:LL) (a1:ByteArray) (Q:QD):Prop :=
 (a0.length≤big→∃ m0,ZS Q m0 a0 a1 ((a0.length:Int)) 0 ((a0.length:Int)))
theorem ZeB (a0:LL) (a1:ByteArray) (Q:QD) (h:Zeu a0 a1 Q):cl ZaT [.v (.sl Zb) (V.l a0),.v .str (V.s a1)] [] Q :=
 acalls2 (E:=ZU) (envOk _ _ _ _ _) 0 Tryz.func133 (by kernel_rfl) h
def Zla:Env:=envA [] [] [] [] []
def ZiT (a0 a1:Int) (Q:QD):Prop :=
 0≤(8:Int)∧0≤(24:Int)∧0≤(16:Int)∧0≤(8:Int)∧True∧Q (.v .str (V.s (strV ([[V.i (IntKind.u8.wrap (a0.fdiv (2 ^ (min ((8:Int)).toNat IntKind.i64.bits))))],[V.i (IntKind.u8.wrap a0)],[V.i (IntKind.u8.wrap (a1.fdiv (2 ^ (min ((24:Int)).toNat IntKind.i64.bits))))],[V.i (IntKind.u8.wrap (a1.fdiv (2 ^ (min ((16:Int)).toNat IntKind.i64.bits))))],[V.i (IntKind.u8.wrap (a1.fdiv (2 ^ (min ((8:Int)).toNat IntKind.i64.bits))))],[V.i (IntKind.u8.wrap a1)]])))) []
theorem Zma (a0 a1:Int) (Q:QD) (h:ZiT a0 a1 Q):cl Zej [.v (.int .i64) (V.i a0),.v (.int .i64) (V.i a1)] [] Q :=
 acalls2 (E:=Zla) (envOk _ _ _ _ _) 0 Tryz.func134 (by kernel_rfl) h
def Zq:Env:=envA [(2,(.undef 0)::ua 4 4 ((.undef 12)::ua 16 15 ([.dead 27]))),(9,(.undef 0)::(.undef 2)::ua 4 4 (ua 9 27 (ua 39 20 ([.dead 2,.dead 52])))),(12,(.undef 0)::(.undef 2)::ua 4 4 ((.undef 9)::ua 11 25 (ua 39 4 (ua 45 14 ([.dead 52])))))] [] [] [(5000008,[⟨0,0,0⟩])] []
def Zie (Q:QD):Post:=blockK 0 (seqJ Zq (fnAt [1,1] Tryz.f135) (endK Zq Tryz.f135 Q))
def ZdX (Q:QD):Post:=blockK 2 (seqJ Zq (fnAt [1,1,1,1] Tryz.f135) (endK Zq Tryz.f135 Q))
def ZiG (Q:QD) (m1:Nat):Post:=blockK 4 (blockK 3 (seqJ Zq (fnAt [1,1,1,0,1,0,0,1,1,1] Tryz.f135) (loopK (adj (Zq.adj 9)) (iter (adj (Zq.adj 9)) (evCode Zq (fnAt [1,1,1,0,1,0,0] Tryz.f135)) (ZdX Q) m1) (ZdX Q))))
@[irreducible] def Zbh (Q:QD) (m1 m2:Nat) (x1n:Nat) (x8:V) (x10:Int) (x36:LL) (x37 x38:Int) (x43:V) (x44:Int) (h0:LL):Prop :=
 iter (adj (Zq.adj 12)) (evCode Zq (fnAt [1,1,1,0,1,0,0,1,1,0,0,1,1,0,0] Tryz.f135)) (ZiG Q m1) m2 ⟨.undef::(.osl (.own 0) x1n)::.undef::.skip::un 4 ((.v (.mp Zc) (x8))::.undef::(.v (.int .i64) (V.i x10))::un 25 ((.v (.sl ZT) (V.l x36))::(.v (.int .i64) (V.i x37))::(.v (.int .i64) (V.i x38))::un 4 ((.v (.int .i64) (x43))::(.v (.int .i64) (V.i x44))::un 14 ([.skip])))),dd 60 ([])⟩ [.row Zh h0]
@[irreducible] def Zai (Q:QD) (m1:Nat) (x1n:Nat) (x8:V) (x36:LL) (x37 x38:Int) (h0:LL):Prop :=
 iter (adj (Zq.adj 9)) (evCode Zq (fnAt [1,1,1,0,1,0,0] Tryz.f135)) (ZdX Q) m1 ⟨.undef::(.osl (.own 0) x1n)::.undef::.skip::un 4 ((.v (.mp Zc) (x8))::un 27 ((.v (.sl ZT) (V.l x36))::(.v (.int .i64) (V.i x37))::(.v (.int .i64) (V.i x38))::un 20 ([.skip]))),dd 60 ([])⟩ [.row Zh h0]
@[irreducible] def ZaH (Q:QD) (m0:Nat) (x1n:Nat) (x13:LL) (x14 x15 y2_0:Int) (y2_1 h0:LL):Prop :=
 iter (adj (Zq.adj 2)) (evCode Zq (fnAt [1,0,1,0,0] Tryz.f135)) (Zie Q) m0 ⟨.undef::(.osl (.own 0) x1n)::(.ptr (.loc 2) 0)::.skip::un 4 (sk 4 (.undef::(.v (.sl ZT) (V.l x13))::(.v (.int .i64) (V.i x14))::(.v (.int .i64) (V.i x15))::un 15 (sk 29 ([])))),dd 2 ((.cells [.v (.int .u64) (V.i y2_0),.v (.sl ZT) (V.l y2_1)])::dd 57 ([]))⟩ [.row Zh h0]
def ZdH (Q:QD) (m1 m2:Nat) (x1n:Nat) (x8:V) (x10:Int) (x36:LL) (x37 x38:Int) (x43:V) (x44:Int) (h0:LL):Prop :=
 iff (decide (x44<x43.int)) (h0.length=x1n∧0≤x10∧x10<x1n∧h0.length=x1n∧x10.toNat<x1n∧cl ZeJ [.v (.mp Zc) (x8),.v (.mp Zc) (((h0.getD x10.toNat []).drop 0).headD V.none)] [] fun r1 H2=>r1=(.tup [.v (.mp Zc) ((r1.parts.headD .undef).V),.v .bool ((r1.parts.tail.headD .undef).V)])∧H2=[]∧iff (!(((r1.parts.tail.headD .undef).V).bool)) ((True∧True∧True)∧Q (.tup [.v (.mp Zc) (V.l ([])),.v .bool (V.b false)]) [.row Zh h0]) (Zbh Q m1 m2 x1n ((r1.parts.headD .undef).V) x10 x36 x37 x38 x43 (IntKind.i64.wrap (x44+(1:Int))) h0)) (Zai Q m1 x1n x8 x36 x37 (IntKind.i64.wrap (x38+(1:Int))) h0)
theorem Zhg (Q:QD) (m1 m2:Nat) (x1n:Nat) (x8:V) (x10:Int) (x36:LL) (x37 x38:Int) (x43:V) (x44:Int) (h0:LL):Zbh Q m1 (m2+1) x1n x8 x10 x36 x37 x38 x43 x44 h0=ZdH Q m1 m2 x1n x8 x10 x36 x37 x38 x43 x44 h0:=by kernel_rfl
theorem Zhb (Q:QD) (m1:Nat):RuleG9 (Zbh Q m1) (ZdH Q m1):=ruleG9 _ _ (Zhg Q m1)
def ZiY (Q:QD) (m1:Nat) (x1n:Nat) (x8:V) (x36:LL) (x37 x38:Int) (h0:LL):Prop :=
 iff (decide (x38<x37)) (0≤x38∧x38<x36.length∧∃ m2,Zbh Q m1 m2 x1n x8 x38 x36 x37 x38 (((x36.getD x38.toNat []).drop 0).headD V.none) 0 h0) ((True∧True∧True)∧Q (.tup [.v (.mp Zc) (x8),.v .bool (V.b true)]) [.row Zh h0])
theorem Zg0 (Q:QD) (m1:Nat) (x1n:Nat) (x8:V) (x36:LL) (x37 x38:Int) (h0:LL):Zai Q (m1+1) x1n x8 x36 x37 x38 h0=ZiY Q m1 x1n x8 x36 x37 x38 h0:=by kernel_rfl
theorem ZgJ (Q:QD) (x1n:Nat) (x36 h0:LL) (n:Nat) (hb:n≤big) (J:Nat→V→Prop)
  (step:∀ (k:Nat) (x8:V),k<n→J k x8→∀ m1:Nat,(∀ (x8':V),J (k+1) x8'→Zai Q m1 x1n x8' x36 (n:Int) (IntKind.i64.wrap ((k:Int)+(1:Int))) h0)→(0≤(k:Int)∧(k:Int)<x36.length∧∃ m2,Zbh Q m1 m2 x1n x8 (k:Int) x36 (n:Int) (k:Int) (((x36.getD k []).drop 0).headD V.none) 0 h0))
  (last:∀ (x8:V),J n x8→((True∧True∧True)∧Q (.tup [.v (.mp Zc) (x8),.v .bool (V.b true)]) [.row Zh h0]))
  (k:Nat) (x8:V) (le0:k≤n) (hj:J k x8):∃ m1,Zai Q m1 x1n x8 x36 (n:Int) ((k:Int)) h0:=by
 exact rangeG1 n hb J (fun m1 i x8=>Zai Q m1 x1n x8 x36 (n:Int) i h0) (fun m1 i x8=>Zg0 Q m1 x1n x8 x36 (n:Int) i h0) (fun k x8 hl_ hj_ m_ ih_=>step k x8 hl_ hj_ m_ ih_) last k x8 le0 hj
def Zi3 (Q:QD) (m0:Nat) (x1n:Nat) (x13:LL) (x14 x15 y2_0:Int) (y2_1 h0:LL):Prop :=
 iff (decide (x15<x14)) (0≤x15∧x15<x13.length∧iff (decide (((((x13.getD x15.toNat []).drop 0).headD V.none).int) > (0:Int))) (h0.length=x1n∧0≤x15∧x15<x1n∧h0.length=x1n∧x15.toNat<x1n∧iff (((((((h0.getD x15.toNat []).drop 0).headD V.none).list).length:Int)) == (0:Int)) ((True∧True∧True)∧Q (.tup [.v (.mp Zc) (V.l ([])),.v .bool (V.b true)]) [.row Zh h0]) (ZaH Q m0 x1n x13 x14 (IntKind.i64.wrap (x15+(1:Int))) y2_0 y2_1 h0)) (ZaH Q m0 x1n x13 x14 (IntKind.i64.wrap (x15+(1:Int))) y2_0 y2_1 h0)) ((y2_1.length≤big→∃ m1,Zai Q m1 x1n (V.l (mset [.str] [V.s (ByteArray.mk #[])] [V.i y2_0] (([]:List (List V))))) y2_1 ((y2_1.length:Int)) 0 h0))
theorem Zhq (Q:QD) (m0:Nat) (x1n:Nat) (x13:LL) (x14 x15 y2_0:Int) (y2_1 h0:LL):ZaH Q (m0+1) x1n x13 x14 x15 y2_0 y2_1 h0=Zi3 Q m0 x1n x13 x14 x15 y2_0 y2_1 h0:=by kernel_rfl
theorem ZgT (Q:QD) (x1n:Nat) (x13:LL) (y2_0:Int) (y2_1 h0:LL) (n:Nat) (hb:n≤big) (J:Nat→Prop)
  (step:∀ (k:Nat),k<n→J k→∀ K:Prop,(J (k+1)→K)→(0≤(k:Int)∧(k:Int)<x13.length∧iff (decide (((((x13.getD k []).drop 0).headD V.none).int) > (0:Int))) (h0.length=x1n∧0≤(k:Int)∧(k:Int)<x1n∧h0.length=x1n∧k<x1n∧iff (((((((h0.getD k []).drop 0).headD V.none).list).length:Int)) == (0:Int)) ((True∧True∧True)∧Q (.tup [.v (.mp Zc) (V.l ([])),.v .bool (V.b true)]) [.row Zh h0]) (K)) (K)))
  (last:J n→((y2_1.length≤big→∃ m1,Zai Q m1 x1n (V.l (mset [.str] [V.s (ByteArray.mk #[])] [V.i y2_0] (([]:List (List V))))) y2_1 ((y2_1.length:Int)) 0 h0)))
  (k:Nat) (le0:k≤n) (hj:J k):∃ m0,ZaH Q m0 x1n x13 (n:Int) ((k:Int)) y2_0 y2_1 h0:=by
 exact rangeG0 n hb J (fun m0 i=>ZaH Q m0 x1n x13 (n:Int) i y2_0 y2_1 h0) (fun m0 i=>Zhq Q m0 x1n x13 (n:Int) i y2_0 y2_1 h0) (fun k hl_ hj_ m_ ih_=>step k hl_ hj_ _ ih_) last k le0 hj
def Zki (a0_0:Int) (a0_1:LL) (a1n:Nat) (h0:LL) (Q:QD):Prop :=
 (a0_1.length≤big→∃ m0,ZaH Q m0 a1n a0_1 ((a0_1.length:Int)) 0 a0_0 a0_1 h0)
theorem Zko (a0_0:Int) (a0_1:LL) (a1n:Nat) (h0:LL) (Q:QD) (h:Zki a0_0 a0_1 a1n h0 Q):cl ZdD [.agg [.v (.int .u64) (V.i a0_0),.v (.sl ZT) (V.l a0_1)],.osl (.own 0) a1n] [.row Zh h0] Q :=
 acalls2 (E:=Zq) (envOk _ _ _ _ _) 0 Tryz.func135 (by kernel_rfl) h
def Zhn:Env:=envA [] [] [] [] []
def ZeQ (a1:ByteArray) (a2:Int) (h0:LL) (Q:QD):Prop :=
 iff (decide ((IntKind.u64.wrap ((((mget [.str] [V.i 0] [V.s a1] h0).headD V.none).int)+a2))≤(4611686018427387904:Int))) (True∧Q (.v .bool (V.b (decide ((((mset [.str] [V.s a1] [V.i (IntKind.u64.wrap ((((mget [.str] [V.i 0] [V.s a1] h0).headD V.none).int)+a2))] h0).length:Int))≤(4096:Int))))) [.map Zc (mset [.str] [V.s a1] [V.i (IntKind.u64.wrap ((((mget [.str] [V.i 0] [V.s a1] h0).headD V.none).int)+a2))] h0)]) (True∧Q (.v .bool (V.b false)) [.map Zc (mset [.str] [V.s a1] [V.i (IntKind.u64.wrap ((((mget [.str] [V.i 0] [V.s a1] h0).headD V.none).int)+a2))] h0)])
theorem ZiV (a1:ByteArray) (a2:Int) (h0:LL) (Q:QD) (h:ZeQ a1 a2 h0 Q):cl Zbc [.mp (.own 0),.v .str (V.s a1),.v (.int .u64) (V.i a2)] [.map Zc h0] Q :=
 acalls2 (E:=Zhn) (envOk _ _ _ _ _) 0 Tryz.func136 (by kernel_rfl) h
def ZkV:Env:=envA [] [] [] [] []
def Zin (a0:Int) (Q:QD):Prop :=
 iff (decide (a0≥(65:Int))) (iff (decide (a0≤(90:Int))) (True∧Q (.v .bool (V.b true)) []) (iff (decide (a0≥(97:Int))) (iff (decide (a0≤(122:Int))) (True∧Q (.v .bool (V.b true)) []) (iff (decide (a0≥(48:Int))) (iff (decide (a0≤(57:Int))) (True∧Q (.v .bool (V.b true)) []) (iff (a0 == (95:Int)) (True∧Q (.v .bool (V.b true)) []) (True∧Q (.v .bool (V.b (a0 == (39:Int)))) []))) (iff (a0 == (95:Int)) (True∧Q (.v .bool (V.b true)) []) (True∧Q (.v .bool (V.b (a0 == (39:Int)))) [])))) (iff (decide (a0≥(48:Int))) (iff (decide (a0≤(57:Int))) (True∧Q (.v .bool (V.b true)) []) (iff (a0 == (95:Int)) (True∧Q (.v .bool (V.b true)) []) (True∧Q (.v .bool (V.b (a0 == (39:Int)))) []))) (iff (a0 == (95:Int)) (True∧Q (.v .bool (V.b true)) []) (True∧Q (.v .bool (V.b (a0 == (39:Int)))) []))))) (iff (decide (a0≥(97:Int))) (iff (decide (a0≤(122:Int))) (True∧Q (.v .bool (V.b true)) []) (iff (decide (a0≥(48:Int))) (iff (decide (a0≤(57:Int))) (True∧Q (.v .bool (V.b true)) []) (iff (a0 == (95:Int)) (True∧Q (.v .bool (V.b true)) []) (True∧Q (.v .bool (V.b (a0 == (39:Int)))) []))) (iff (a0 == (95:Int)) (True∧Q (.v .bool (V.b true)) []) (True∧Q (.v .bool (V.b (a0 == (39:Int)))) [])))) (iff (decide (a0≥(48:Int))) (iff (decide (a0≤(57:Int))) (True∧Q (.v .bool (V.b true)) []) (iff (a0 == (95:Int)) (True∧Q (.v .bool (V.b true)) []) (True∧Q (.v .bool (V.b (a0 == (39:Int)))) []))) (iff (a0 == (95:Int)) (True∧Q (.v .bool (V.b true)) []) (True∧Q (.v .bool (V.b (a0 == (39:Int)))) []))))
theorem Zmc (a0:Int) (Q:QD) (h:Zin a0 Q):cl Ze9 [.v (.int .u8) (V.i a0)] [] Q :=
 acalls2 (E:=ZkV) (envOk _ _ _ _ _) 0 Tryz.func148 (by kernel_rfl) h
def Zhi:Env:=envA [] [] [] [] []
def ZeI (a0:Int) (Q:QD):Prop :=
 True∧Q (.v .bool (V.b (a0 != a0))) []
theorem ZiC (a0:Int) (Q:QD) (h:ZeI a0 Q):cl Zca [.v (.int .u64) (V.i a0)] [] Q :=
 acalls2 (E:=Zhi) (envOk _ _ _ _ _) 0 Tryz.func155 (by kernel_rfl) h
def Zt:Env:=envA [(2,ua 4 3 (ua 9 10 ([.dead 16])))] [] [] [] []
def Zb0 (Q:QD):Post:=blockK 0 (seqJ Zt (fnAt [1,1] Tryz.f156) (endK Zt Tryz.f156 Q))
@[irreducible] def Zm (Q:QD) (m0:Nat) (x0:LL) (x7 x8:Int):Prop :=
 iter (adj (Zt.adj 2)) (evCode Zt (fnAt [1,0,1,0,0] Tryz.f156)) (Zb0 Q) m0 ⟨(.v (.sl ZY) (V.l x0))::(.fn ZW [])::sk 2 (un 3 ((.v (.int .i64) (V.i x7))::(.v (.int .i64) (V.i x8))::un 10 ([]))),dd 19 ([])⟩ []
def ZbU (Q:QD) (m0:Nat) (x0:LL) (x7 x8:Int):Prop :=
 iff (decide (x8<x7)) (0≤x8∧x8<x0.length∧cl ZW [.agg [.v .str (((x0.getD x8.toNat []).drop 0).headD V.none),.v (.int .i64) ((((x0.getD x8.toNat []).drop 0).tail).headD V.none)]] [] fun r1 H2=>r1=(.v .bool (r1.V))∧H2=[]∧iff r1.V.bool (True∧Q (.v (.int .i64) (V.i x8)) []) (Zm Q m0 x0 x7 (IntKind.i64.wrap (x8+(1:Int))))) (True∧Q (.v (.int .i64) (V.i (-1))) [])
theorem ZbC (Q:QD) (m0:Nat) (x0:LL) (x7 x8:Int):Zm Q (m0+1) x0 x7 x8=ZbU Q m0 x0 x7 x8:=by kernel_rfl
theorem Zbu (Q:QD) (x0:LL) (n:Nat) (hb:n≤big) (J:Nat→Prop)
  (step:∀ (k:Nat),k<n→J k→∀ K:Prop,(J (k+1)→K)→(0≤(k:Int)∧(k:Int)<x0.length∧cl ZW [.agg [.v .str (((x0.getD k []).drop 0).headD V.none),.v (.int .i64) ((((x0.getD k []).drop 0).tail).headD V.none)]] [] fun r1 H2=>r1=(.v .bool (r1.V))∧H2=[]∧iff r1.V.bool (True∧Q (.v (.int .i64) (V.i (k:Int))) []) (K)))
  (last:J n→(True∧Q (.v (.int .i64) (V.i (-1))) []))
  (k:Nat) (le0:k≤n) (hj:J k):∃ m0,Zm Q m0 x0 (n:Int) ((k:Int)):=by
 exact rangeG0 n hb J (fun m0 i=>Zm Q m0 x0 (n:Int) i) (fun m0 i=>ZbC Q m0 x0 (n:Int) i) (fun k hl_ hj_ m_ ih_=>step k hl_ hj_ _ ih_) last k le0 hj
def Zcu (a0:LL) (Q:QD):Prop :=
 (a0.length≤big→∃ m0,Zm Q m0 a0 ((a0.length:Int)) 0)
theorem ZcD (a0:LL) (Q:QD) (h:Zcu a0 Q):cl Z0 [.v (.sl ZY) (V.l a0),.fn ZW []] [] Q :=
 acalls2 (E:=Zt) (envOk _ _ _ _ _) 0 Tryz.func156 (by kernel_rfl) h
def Zs:Env:=envA [(2,ua 4 3 (ua 9 10 ([.dead 16])))] [] [] [] []
def Zb5 (Q:QD):Post:=blockK 0 (seqJ Zs (fnAt [1,1] Tryz.f156) (endK Zs Tryz.f156 Q))
@[irreducible] def Zl (Q:QD) (m0:Nat) (x0:LL) (x7 x8:Int):Prop :=
 iter (adj (Zs.adj 2)) (evCode Zs (fnAt [1,0,1,0,0] Tryz.f156)) (Zb5 Q) m0 ⟨(.v (.sl ZY) (V.l x0))::(.fn ZX [])::sk 2 (un 3 ((.v (.int .i64) (V.i x7))::(.v (.int .i64) (V.i x8))::un 10 ([]))),dd 19 ([])⟩ []
def Zb6 (Q:QD) (m0:Nat) (x0:LL) (x7 x8:Int):Prop :=
 iff (decide (x8<x7)) (0≤x8∧x8<x0.length∧cl ZX [.agg [.v .str (((x0.getD x8.toNat []).drop 0).headD V.none),.v (.int .i64) ((((x0.getD x8.toNat []).drop 0).tail).headD V.none)]] [] fun r1 H2=>r1=(.v .bool (r1.V))∧H2=[]∧iff r1.V.bool (True∧Q (.v (.int .i64) (V.i x8)) []) (Zl Q m0 x0 x7 (IntKind.i64.wrap (x8+(1:Int))))) (True∧Q (.v (.int .i64) (V.i (-1))) [])
theorem Zby (Q:QD) (m0:Nat) (x0:LL) (x7 x8:Int):Zl Q (m0+1) x0 x7 x8=Zb6 Q m0 x0 x7 x8:=by kernel_rfl
theorem Zbt (Q:QD) (x0:LL) (n:Nat) (hb:n≤big) (J:Nat→Prop)
  (step:∀ (k:Nat),k<n→J k→∀ K:Prop,(J (k+1)→K)→(0≤(k:Int)∧(k:Int)<x0.length∧cl ZX [.agg [.v .str (((x0.getD k []).drop 0).headD V.none),.v (.int .i64) ((((x0.getD k []).drop 0).tail).headD V.none)]] [] fun r1 H2=>r1=(.v .bool (r1.V))∧H2=[]∧iff r1.V.bool (True∧Q (.v (.int .i64) (V.i (k:Int))) []) (K)))
  (last:J n→(True∧Q (.v (.int .i64) (V.i (-1))) []))
  (k:Nat) (le0:k≤n) (hj:J k):∃ m0,Zl Q m0 x0 (n:Int) ((k:Int)):=by
 exact rangeG0 n hb J (fun m0 i=>Zl Q m0 x0 (n:Int) i) (fun m0 i=>Zby Q m0 x0 (n:Int) i) (fun k hl_ hj_ m_ ih_=>step k hl_ hj_ _ ih_) last k le0 hj
def Zcy (a0:LL) (Q:QD):Prop :=
 (a0.length≤big→∃ m0,Zl Q m0 a0 ((a0.length:Int)) 0)
theorem ZcG (a0:LL) (Q:QD) (h:Zcy a0 Q):cl Z0 [.v (.sl ZY) (V.l a0),.fn ZX []] [] Q :=
 acalls2 (E:=Zs) (envOk _ _ _ _ _) 0 Tryz.func156 (by kernel_rfl) h
def Zfh:Env:=envA [] [] [] [] []
def Zds (a0_0:ByteArray) (a0_1:LL) (a1:ByteArray) (Q:QD):Prop :=
 cl Zed [.v .str (V.s a0_0),.v .str (V.s a1)] [] fun r1 H2=>r1=(.v (.int .i64) (r1.V))∧H2=[]∧True∧Q (.v (.int .i64) (r1.V)) []
theorem ZfG (a0_0:ByteArray) (a0_1:LL) (a1:ByteArray) (Q:QD) (h:Zds a0_0 a0_1 a1 Q):cl ZO [.agg [.v .str (V.s a0_0),.v (.sl Zk) (V.l a0_1)],.v .str (V.s a1)] [] Q :=
 acalls2 (E:=Zfh) (envOk _ _ _ _ _) 0 Tryz.func108 (by kernel_rfl) h
def ZhY:Env:=envA [] [] [] [] []
def Ze4 (a0_0:Int) (a0_1:LL) (h0_0:Int) (Q:QD):Prop :=
 cl Zgq [.v (.sl ZT) (V.l a0_1),.v (.int .i64) (V.i h0_0)] [] fun r1 H2=>r1=(.v .bool (r1.V))∧H2=[]∧True∧Q (.v .bool (r1.V)) [.cells [.v (.int .i64) (V.i h0_0)]]
theorem Zja (a0_0:Int) (a0_1:LL) (h0_0:Int) (Q:QD) (h:Ze4 a0_0 a0_1 h0_0 Q):cl ZR [.agg [.v (.int .u64) (V.i a0_0),.v (.sl ZT) (V.l a0_1)],.ptr (.own 0) 0] [.cells [.v (.int .i64) (V.i h0_0)]] Q :=
 acalls2 (E:=ZhY) (envOk _ _ _ _ _) 0 Tryz.func58 (by kernel_rfl) h
def Zf7:Env:=envA [] [] [] [] []
def Zeo (a0 a1:ByteArray) (Q:QD):Prop :=
 cl Zbs [.v .str (V.s a0),.v .str (V.s a1)] [] fun r1 H2=>r1=(.v .str (r1.V))∧H2=[]∧True∧Q (.v .str (r1.V)) []
theorem Zg3 (a0 a1:ByteArray) (Q:QD) (h:Zeo a0 a1 Q):cl ZcS [.v .str (V.s a0),.v .str (V.s a1)] [] Q :=
 acalls2 (E:=Zf7) (envOk _ _ _ _ _) 0 Tryz.func157 (by kernel_rfl) h
def Zcd:Env:=envA [] [] [] [] []
def ZaD (a0:LL) (Q:QD):Prop :=
 cl ZbF [.v (.sl Zh5) (V.l a0),.fn Z3 []] [] fun r1 H2=>r1=(.v (.int .i64) (r1.V))∧H2=[]∧True∧Q (.v .bool (V.b (decide (r1.V.int≥(0:Int))))) []
theorem ZcJ (a0:LL) (Q:QD) (h:ZaD a0 Q):cl Za7 [.v (.sl Zh5) (V.l a0),.fn Z3 []] [] Q :=
 acalls2 (E:=Zcd) (envOk _ _ _ _ _) 0 Tryz.func158 (by kernel_rfl) h
def ZhV:Env:=envA [] [] [] [] []
def Zfd (a0 a1:Int) (Q:QD):Prop :=
 cl Zdx [.v (.int .i64) (V.i a0)] [] fun r1 H2=>r1=(.v .bool (r1.V))∧H2=[]∧cl Zdx [.v (.int .i64) (V.i a1)] [] fun r3 H4=>r3=(.v .bool (r3.V))∧H4=[]∧iff r1.V.bool (iff r3.V.bool (True∧Q (.v (.int .i64) (V.i 0)) []) (True∧Q (.v (.int .i64) (V.i (-1))) [])) (iff r3.V.bool (True∧Q (.v (.int .i64) (V.i 1)) []) (iff (decide (a0<a1)) (True∧Q (.v (.int .i64) (V.i (-1))) []) (iff (decide (a0 > a1)) (True∧Q (.v (.int .i64) (V.i 1)) []) (True∧Q (.v (.int .i64) (V.i 0)) []))))
theorem Zi9 (a0 a1:Int) (Q:QD) (h:Zfd a0 a1 Q):cl ZcL [.v (.int .i64) (V.i a0),.v (.int .i64) (V.i a1)] [] Q :=
 acalls2 (E:=ZhV) (envOk _ _ _ _ _) 0 Tryz.func91 (by kernel_rfl) h
def ZB:Env:=envA [(2,ua 4 3 (ua 9 10 ([.dead 16])))] [] [] [] []
def Zck (Q:QD):Post:=blockK 0 (seqJ ZB (fnAt [1,1] Tryz.f113) (endK ZB Tryz.f113 Q))
@[irreducible] def Zx (Q:QD) (m0:Nat) (x0:LL) (x7 x8:Int):Prop :=
 iter (adj (ZB.adj 2)) (evCode ZB (fnAt [1,0,1,0,0] Tryz.f113)) (Zck Q) m0 ⟨(.v (.sl ZT) (V.l x0))::(.fn ZN [])::sk 2 (un 3 ((.v (.int .i64) (V.i x7))::(.v (.int .i64) (V.i x8))::un 10 ([]))),dd 19 ([])⟩ []
def ZcA (Q:QD) (m0:Nat) (x0:LL) (x7 x8:Int):Prop :=
 iff (decide (x8<x7)) (0≤x8∧x8<x0.length∧cl ZN [.v (.int .i64) (((x0.getD x8.toNat []).drop 0).headD V.none)] [] fun r1 H2=>r1=(.v .bool (r1.V))∧H2=[]∧iff r1.V.bool (True∧Q (.v (.int .i64) (V.i x8)) []) (Zx Q m0 x0 x7 (IntKind.i64.wrap (x8+(1:Int))))) (True∧Q (.v (.int .i64) (V.i (-1))) [])
theorem ZbY (Q:QD) (m0:Nat) (x0:LL) (x7 x8:Int):Zx Q (m0+1) x0 x7 x8=ZcA Q m0 x0 x7 x8:=by kernel_rfl
theorem ZbJ (Q:QD) (x0:LL) (n:Nat) (hb:n≤big) (J:Nat→Prop)
  (step:∀ (k:Nat),k<n→J k→∀ K:Prop,(J (k+1)→K)→(0≤(k:Int)∧(k:Int)<x0.length∧cl ZN [.v (.int .i64) (((x0.getD k []).drop 0).headD V.none)] [] fun r1 H2=>r1=(.v .bool (r1.V))∧H2=[]∧iff r1.V.bool (True∧Q (.v (.int .i64) (V.i (k:Int))) []) (K)))
  (last:J n→(True∧Q (.v (.int .i64) (V.i (-1))) []))
  (k:Nat) (le0:k≤n) (hj:J k):∃ m0,Zx Q m0 x0 (n:Int) ((k:Int)):=by
 exact rangeG0 n hb J (fun m0 i=>Zx Q m0 x0 (n:Int) i) (fun m0 i=>ZbY Q m0 x0 (n:Int) i) (fun k hl_ hj_ m_ ih_=>step k hl_ hj_ _ ih_) last k le0 hj
def ZcT (a0:LL) (Q:QD):Prop :=
 (a0.length≤big→∃ m0,Zx Q m0 a0 ((a0.length:Int)) 0)
theorem Zc2 (a0:LL) (Q:QD) (h:ZcT a0 Q):cl Zb7 [.v (.sl ZT) (V.l a0),.fn ZN []] [] Q :=
 acalls2 (E:=ZB) (envOk _ _ _ _ _) 0 Tryz.func113 (by kernel_rfl) h
def Zep:Env:=envA [(2,(.undef 0)::(.undef 2)::ua 4 2 (ua 9 9 ([.dead 4,.dead 13])))] [] [] [] []
def Zl0 (Q:QD):Post:=blockK 0 (seqJ Zep (fnAt [1,1] Tryz.f162) (endK Zep Tryz.f162 Q))
@[irreducible] def ZdZ (Q:QD) (m0:Nat) (x6:LL) (x7 x8:Int):Prop :=
 iter (adj (Zep.adj 2)) (evCode Zep (fnAt [1,0,1,0,0] Tryz.f162)) (Zl0 Q) m0 ⟨.undef::.skip::.undef::.skip::un 2 ((.v (.sl Za) (V.l x6))::(.v (.int .i64) (V.i x7))::(.v (.int .i64) (V.i x8))::un 9 ([])),dd 18 ([])⟩ []
def ZlO (Q:QD) (m0:Nat) (x6:LL) (x7 x8:Int):Prop :=
 iff (decide (x8<x7)) (0≤x8∧x8<x6.length∧cl ZI [.agg [.v .str (((x6.getD x8.toNat []).drop 0).headD V.none),.v .bool ((((x6.getD x8.toNat []).drop 0).tail).headD V.none),.v (.sl Za) (((((x6.getD x8.toNat []).drop 0).tail).tail).headD V.none)]] [] fun r1 H2=>r1=(.v (.int .i64) (r1.V))∧H2=[]∧iff (r1.V.int != (0:Int)) (True∧Q (.v (.int .i64) (r1.V)) []) (ZdZ Q m0 x6 x7 (IntKind.i64.wrap (x8+(1:Int))))) (True∧Q (.v (.int .i64) (V.i 0)) [])
theorem ZkC (Q:QD) (m0:Nat) (x6:LL) (x7 x8:Int):ZdZ Q (m0+1) x6 x7 x8=ZlO Q m0 x6 x7 x8:=by kernel_rfl
theorem Zj5 (Q:QD) (x6:LL) (n:Nat) (hb:n≤big) (J:Nat→Prop)
  (step:∀ (k:Nat),k<n→J k→∀ K:Prop,(J (k+1)→K)→(0≤(k:Int)∧(k:Int)<x6.length∧cl ZI [.agg [.v .str (((x6.getD k []).drop 0).headD V.none),.v .bool ((((x6.getD k []).drop 0).tail).headD V.none),.v (.sl Za) (((((x6.getD k []).drop 0).tail).tail).headD V.none)]] [] fun r1 H2=>r1=(.v (.int .i64) (r1.V))∧H2=[]∧iff (r1.V.int != (0:Int)) (True∧Q (.v (.int .i64) (r1.V)) []) (K)))
  (last:J n→(True∧Q (.v (.int .i64) (V.i 0)) []))
  (k:Nat) (le0:k≤n) (hj:J k):∃ m0,ZdZ Q m0 x6 (n:Int) ((k:Int)):=by
 exact rangeG0 n hb J (fun m0 i=>ZdZ Q m0 x6 (n:Int) i) (fun m0 i=>ZkC Q m0 x6 (n:Int) i) (fun k hl_ hj_ m_ ih_=>step k hl_ hj_ _ ih_) last k le0 hj
def ZmB (a0:LL) (Q:QD):Prop :=
 (a0.length≤big→∃ m0,ZdZ Q m0 a0 ((a0.length:Int)) 0)
theorem ZmN (a0:LL) (Q:QD) (h:ZmB a0 Q):cl ZgU [.v (.sl Za) (V.l a0)] [] Q :=
 acalls2 (E:=Zep) (envOk _ _ _ _ _) 0 Tryz.func162 (by kernel_rfl) h
def ZK:Env:=envA [(2,ua 4 3 (ua 9 10 ([.dead 16])))] [] [] [] []
def Zc3 (Q:QD):Post:=blockK 0 (seqJ ZK (fnAt [1,1] Tryz.f164) (endK ZK Tryz.f164 Q))
@[irreducible] def ZH (Q:QD) (m0:Nat) (x0:LL) (x7 x8:Int):Prop :=
 iter (adj (ZK.adj 2)) (evCode ZK (fnAt [1,0,1,0,0] Tryz.f164)) (Zc3 Q) m0 ⟨(.v (.sl Zap) (V.l x0))::(.fn ZaF [])::sk 2 (un 3 ((.v (.int .i64) (V.i x7))::(.v (.int .i64) (V.i x8))::un 10 ([]))),dd 19 ([])⟩ []
def ZcZ (Q:QD) (m0:Nat) (x0:LL) (x7 x8:Int):Prop :=
 iff (decide (x8<x7)) (0≤x8∧x8<x0.length∧cl ZaF [.agg [.v .str (((x0.getD x8.toNat []).drop 0).headD V.none),.v .bool ((((x0.getD x8.toNat []).drop 0).tail).headD V.none),.v (.sl Za) (((((x0.getD x8.toNat []).drop 0).tail).tail).headD V.none),.v .str ((((((x0.getD x8.toNat []).drop 0).tail).tail).tail).headD V.none),.v .bool (((((((x0.getD x8.toNat []).drop 0).tail).tail).tail).tail).headD V.none),.v (.sl Za) ((((((((x0.getD x8.toNat []).drop 0).tail).tail).tail).tail).tail).headD V.none)]] [] fun r1 H2=>r1=(.v .bool (r1.V))∧H2=[]∧iff r1.V.bool (True∧Q (.v (.int .i64) (V.i x8)) []) (ZH Q m0 x0 x7 (IntKind.i64.wrap (x8+(1:Int))))) (True∧Q (.v (.int .i64) (V.i (-1))) [])
theorem ZcI (Q:QD) (m0:Nat) (x0:LL) (x7 x8:Int):ZH Q (m0+1) x0 x7 x8=ZcZ Q m0 x0 x7 x8:=by kernel_rfl
theorem Zcz (Q:QD) (x0:LL) (n:Nat) (hb:n≤big) (J:Nat→Prop)
  (step:∀ (k:Nat),k<n→J k→∀ K:Prop,(J (k+1)→K)→(0≤(k:Int)∧(k:Int)<x0.length∧cl ZaF [.agg [.v .str (((x0.getD k []).drop 0).headD V.none),.v .bool ((((x0.getD k []).drop 0).tail).headD V.none),.v (.sl Za) (((((x0.getD k []).drop 0).tail).tail).headD V.none),.v .str ((((((x0.getD k []).drop 0).tail).tail).tail).headD V.none),.v .bool (((((((x0.getD k []).drop 0).tail).tail).tail).tail).headD V.none),.v (.sl Za) ((((((((x0.getD k []).drop 0).tail).tail).tail).tail).tail).headD V.none)]] [] fun r1 H2=>r1=(.v .bool (r1.V))∧H2=[]∧iff r1.V.bool (True∧Q (.v (.int .i64) (V.i (k:Int))) []) (K)))
  (last:J n→(True∧Q (.v (.int .i64) (V.i (-1))) []))
  (k:Nat) (le0:k≤n) (hj:J k):∃ m0,ZH Q m0 x0 (n:Int) ((k:Int)):=by
 exact rangeG0 n hb J (fun m0 i=>ZH Q m0 x0 (n:Int) i) (fun m0 i=>ZcI Q m0 x0 (n:Int) i) (fun k hl_ hj_ m_ ih_=>step k hl_ hj_ _ ih_) last k le0 hj
def Zdt (a0:LL) (Q:QD):Prop :=
 (a0.length≤big→∃ m0,ZH Q m0 a0 ((a0.length:Int)) 0)
theorem Zdw (a0:LL) (Q:QD) (h:Zdt a0 Q):cl Zbw [.v (.sl Zap) (V.l a0),.fn ZaF []] [] Q :=
 acalls2 (E:=ZK) (envOk _ _ _ _ _) 0 Tryz.func164 (by kernel_rfl) h
def ZgA:Env:=envA [] [] [] [] []
def Zez (a0 a1:ByteArray) (Q:QD):Prop :=
 cl ZaU [.v .str (V.s a0),.v .str (V.s a1)] [] fun r1 H2=>r1=(.v .bool (r1.V))∧H2=[]∧True∧Q (.v .bool (r1.V)) []
theorem Zh0 (a0 a1:ByteArray) (Q:QD) (h:Zez a0 a1 Q):cl ZeX [.v .str (V.s a0),.v .str (V.s a1)] [] Q :=
 acalls2 (E:=ZgA) (envOk _ _ _ _ _) 0 Tryz.func163 (by kernel_rfl) h
def ZbT:Env:=envA [(2,ua 0 2 ((.undef 5)::(.undef 7)::ua 11 19 ([.dead 20]))),(3000006,ua 0 2 ((.undef 5)::ua 11 19 ([.dead 20])))] [] [] [] [6]
def Zh6 (Q:QD):Post:=blockK 0 (seqJ ZbT (fnAt [1,1] Tryz.f168) (endK ZbT Tryz.f168 Q))
@[irreducible] def ZhE (Q:QD) (m0:Nat) (x7:V) (x8:LL) (x9 x10:Int) (y2_0 y2_1 y2_2:V) (y4_0:ByteArray) (y4_1:Bool):Prop :=
 joinM (evCode ZbT (fnAt [1,0,1,0,0,1,1,0,0,1,1] Tryz.f168)) ⟨un 2 ((.ptr (.loc 2) 0)::.skip::(.ptr (.loc 4) 0)::.undef::.skip::(.v (.int .i64) (x7))::(.v (.sl ZT) (V.l x8))::(.v (.int .i64) (V.i x9))::(.v (.int .i64) (V.i x10))::un 19 ([.skip])),dd 2 ((.cells [.v .str (y2_0),.v .bool (y2_1),.v (.sl Za) (y2_2)])::.dead::(.cells [.v .str (V.s y4_0),.v .bool (V.b y4_1),.nil])::dd 26 ([]))⟩ [] (blockK 1 (seqJ ZbT (fnAt [1,0,1,0,0,1,1,1] Tryz.f168) (loopK (adj (ZbT.adj 2)) (iter (adj (ZbT.adj 2)) (evCode ZbT (fnAt [1,0,1,0,0] Tryz.f168)) (Zh6 Q) m0) (Zh6 Q))))
@[irreducible] def Zea (Q:QD) (m0:Nat) (x8:LL) (x9 x10:Int) (y2_0 y2_1 y2_2:V) (y4_0:ByteArray) (y4_1:Bool):Prop :=
 iter (adj (ZbT.adj 2)) (evCode ZbT (fnAt [1,0,1,0,0] Tryz.f168)) (Zh6 Q) m0 ⟨un 2 ((.ptr (.loc 2) 0)::.skip::(.ptr (.loc 4) 0)::.undef::.skip::.undef::(.v (.sl ZT) (V.l x8))::(.v (.int .i64) (V.i x9))::(.v (.int .i64) (V.i x10))::un 19 ([.skip])),dd 2 ((.cells [.v .str (y2_0),.v .bool (y2_1),.v (.sl Za) (y2_2)])::.dead::(.cells [.v .str (V.s y4_0),.v .bool (V.b y4_1),.nil])::dd 26 ([]))⟩ []
def ZkN (Q:QD) (m0:Nat) (x7:V) (x8:LL) (x9 x10:Int) (y2_0 y2_1 y2_2:V) (y4_0:ByteArray) (y4_1:Bool):Prop :=
 0≤x7.int∧x7.int<y2_2.list.length∧Zea Q m0 x8 x9 (IntKind.i64.wrap (x10+(1:Int))) (((y2_2.list.getD x7.int.toNat []).drop 0).headD V.none) ((((y2_2.list.getD x7.int.toNat []).drop 0).tail).headD V.none) (((((y2_2.list.getD x7.int.toNat []).drop 0).tail).tail).headD V.none) y4_0 y4_1
theorem ZlI (Q:QD) (m0:Nat) (x7:V) (x8:LL) (x9 x10:Int) (y2_0 y2_1 y2_2:V) (y4_0:ByteArray) (y4_1:Bool):ZhE Q m0 x7 x8 x9 x10 y2_0 y2_1 y2_2 y4_0 y4_1=ZkN Q m0 x7 x8 x9 x10 y2_0 y2_1 y2_2 y4_0 y4_1:=by kernel_rfl
def Zmt (Q:QD) (m0:Nat) (x8:LL) (x9 x10:Int) (y2_0 y2_1 y2_2:V) (y4_0:ByteArray) (y4_1:Bool):Prop :=
 iff (decide (x10<x9)) (0≤x10∧x10<x8.length∧iff (decide (((((x8.getD x10.toNat []).drop 0).headD V.none).int)<(0:Int))) (((True∧True∧True∧True)∧True∧True)∧Q (.tup [.agg [.v .str (V.s (ByteArray.mk #[])),.v .bool (V.b false),.nil],.v .bool (V.b false)]) []) ((y2_2.list.length≤big→iff (decide (((((x8.getD x10.toNat []).drop 0).headD V.none).int)≥((y2_2.list.length:Int)))) (((True∧True∧True∧True)∧True∧True)∧Q (.tup [.agg [.v .str (V.s (ByteArray.mk #[])),.v .bool (V.b false),.nil],.v .bool (V.b false)]) []) (ZhE Q m0 (((x8.getD x10.toNat []).drop 0).headD V.none) x8 x9 x10 y2_0 y2_1 y2_2 y4_0 y4_1)))) (((True∧True∧True∧True)∧True∧True)∧Q (.tup [.agg [.v .str (y2_0),.v .bool (y2_1),.v (.sl Za) (y2_2)],.v .bool (V.b true)]) [])
theorem ZlV (Q:QD) (m0:Nat) (x8:LL) (x9 x10:Int) (y2_0 y2_1 y2_2:V) (y4_0:ByteArray) (y4_1:Bool):Zea Q (m0+1) x8 x9 x10 y2_0 y2_1 y2_2 y4_0 y4_1=Zmt Q m0 x8 x9 x10 y2_0 y2_1 y2_2 y4_0 y4_1:=by kernel_rfl
theorem Zk9 (Q:QD) (x8:LL) (y4_0:ByteArray) (y4_1:Bool) (n:Nat) (hb:n≤big) (J:Nat→V→V→V→Prop)
  (step:∀ (k:Nat) (y2_0 y2_1 y2_2:V),k<n→J k y2_0 y2_1 y2_2→∀ m0:Nat,(∀ (y2_0' y2_1' y2_2':V),J (k+1) y2_0' y2_1' y2_2'→Zea Q m0 x8 (n:Int) (IntKind.i64.wrap ((k:Int)+(1:Int))) y2_0' y2_1' y2_2' y4_0 y4_1)→(0≤(k:Int)∧(k:Int)<x8.length∧iff (decide (((((x8.getD k []).drop 0).headD V.none).int)<(0:Int))) (((True∧True∧True∧True)∧True∧True)∧Q (.tup [.agg [.v .str (V.s (ByteArray.mk #[])),.v .bool (V.b false),.nil],.v .bool (V.b false)]) []) ((y2_2.list.length≤big→iff (decide (((((x8.getD k []).drop 0).headD V.none).int)≥((y2_2.list.length:Int)))) (((True∧True∧True∧True)∧True∧True)∧Q (.tup [.agg [.v .str (V.s (ByteArray.mk #[])),.v .bool (V.b false),.nil],.v .bool (V.b false)]) []) (ZhE Q m0 (((x8.getD k []).drop 0).headD V.none) x8 (n:Int) (k:Int) y2_0 y2_1 y2_2 y4_0 y4_1)))))
  (last:∀ (y2_0 y2_1 y2_2:V),J n y2_0 y2_1 y2_2→(((True∧True∧True∧True)∧True∧True)∧Q (.tup [.agg [.v .str (y2_0),.v .bool (y2_1),.v (.sl Za) (y2_2)],.v .bool (V.b true)]) []))
  (k:Nat) (y2_0 y2_1 y2_2:V) (le0:k≤n) (hj:J k y2_0 y2_1 y2_2):∃ m0,Zea Q m0 x8 (n:Int) ((k:Int)) y2_0 y2_1 y2_2 y4_0 y4_1:=by
 exact rangeG3 n hb J (fun m0 i y2_0 y2_1 y2_2=>Zea Q m0 x8 (n:Int) i y2_0 y2_1 y2_2 y4_0 y4_1) (fun m0 i y2_0 y2_1 y2_2=>ZlV Q m0 x8 (n:Int) i y2_0 y2_1 y2_2 y4_0 y4_1) (fun k y2_0 y2_1 y2_2 hl_ hj_ m_ ih_=>step k y2_0 y2_1 y2_2 hl_ hj_ m_ ih_) last k y2_0 y2_1 y2_2 le0 hj
def Zmh (a0_0:ByteArray) (a0_1:Bool) (a0_2 a1:LL) (Q:QD):Prop :=
 (a1.length≤big→∃ m0,Zea Q m0 a1 ((a1.length:Int)) 0 (V.s a0_0) (V.b a0_1) (V.l a0_2) (ByteArray.mk #[]) false)
theorem ZmT (a0_0:ByteArray) (a0_1:Bool) (a0_2 a1:LL) (Q:QD) (h:Zmh a0_0 a0_1 a0_2 a1 Q):cl ZlH [.agg [.v .str (V.s a0_0),.v .bool (V.b a0_1),.v (.sl Za) (V.l a0_2)],.v (.sl ZT) (V.l a1)] [] Q :=
 acalls2 (E:=ZbT) (envOk _ _ _ _ _) 0 Tryz.func168 (by kernel_rfl) h
def ZlY:Env:=envA [] [] [] [] []
def ZjN (a0_0:ByteArray) (a0_1:Bool) (a0_2:LL) (a1_0:ByteArray) (a1_1:Bool) (a1_2:LL) (Q:QD):Prop :=
 cl ZeP [.v (.sl Z2) (V.l ([])),.agg [.v .str (V.s a0_0),.v .bool (V.b a0_1),.v (.sl Za) (V.l a0_2)],.agg [.v .str (V.s a1_0),.v .bool (V.b a1_1),.v (.sl Za) (V.l a1_2)]] [] fun r1 H2=>r1=(.tup [.v (.sl Z2) ((r1.parts.headD .undef).V),.v .bool ((r1.parts.tail.headD .undef).V)])∧H2=[]∧(True∧True∧True)∧Q (.tup [.v (.sl Z2) ((r1.parts.headD .undef).V),.v .bool ((r1.parts.tail.headD .undef).V)]) []
theorem ZmK (a0_0:ByteArray) (a0_1:Bool) (a0_2:LL) (a1_0:ByteArray) (a1_1:Bool) (a1_2:LL) (Q:QD) (h:ZjN a0_0 a0_1 a0_2 a1_0 a1_1 a1_2 Q):cl ZhN [.agg [.v .str (V.s a0_0),.v .bool (V.b a0_1),.v (.sl Za) (V.l a0_2)],.agg [.v .str (V.s a1_0),.v .bool (V.b a1_1),.v (.sl Za) (V.l a1_2)]] [] Q :=
 acalls2 (E:=ZlY) (envOk _ _ _ _ _) 0 Tryz.func169 (by kernel_rfl) h
def ZF:Env:=envA [(2,ua 4 3 (ua 9 10 ([.dead 16])))] [] [] [] []
def ZcE (Q:QD):Post:=blockK 0 (seqJ ZF (fnAt [1,1] Tryz.f170) (endK ZF Tryz.f170 Q))
@[irreducible] def ZA (Q:QD) (m0:Nat) (x0:LL) (x7 x8:Int):Prop :=
 iter (adj (ZF.adj 2)) (evCode ZF (fnAt [1,0,1,0,0] Tryz.f170)) (ZcE Q) m0 ⟨(.v (.sl Za) (V.l x0))::(.fn Z4 [])::sk 2 (un 3 ((.v (.int .i64) (V.i x7))::(.v (.int .i64) (V.i x8))::un 10 ([]))),dd 19 ([])⟩ []
def ZcH (Q:QD) (m0:Nat) (x0:LL) (x7 x8:Int):Prop :=
 iff (decide (x8<x7)) (0≤x8∧x8<x0.length∧cl Z4 [.agg [.v .str (((x0.getD x8.toNat []).drop 0).headD V.none),.v .bool ((((x0.getD x8.toNat []).drop 0).tail).headD V.none),.v (.sl Za) (((((x0.getD x8.toNat []).drop 0).tail).tail).headD V.none)]] [] fun r1 H2=>r1=(.v .bool (r1.V))∧H2=[]∧iff r1.V.bool (True∧Q (.v (.int .i64) (V.i x8)) []) (ZA Q m0 x0 x7 (IntKind.i64.wrap (x8+(1:Int))))) (True∧Q (.v (.int .i64) (V.i (-1))) [])
theorem Zce (Q:QD) (m0:Nat) (x0:LL) (x7 x8:Int):ZA Q (m0+1) x0 x7 x8=ZcH Q m0 x0 x7 x8:=by kernel_rfl
theorem ZbV (Q:QD) (x0:LL) (n:Nat) (hb:n≤big) (J:Nat→Prop)
  (step:∀ (k:Nat),k<n→J k→∀ K:Prop,(J (k+1)→K)→(0≤(k:Int)∧(k:Int)<x0.length∧cl Z4 [.agg [.v .str (((x0.getD k []).drop 0).headD V.none),.v .bool ((((x0.getD k []).drop 0).tail).headD V.none),.v (.sl Za) (((((x0.getD k []).drop 0).tail).tail).headD V.none)]] [] fun r1 H2=>r1=(.v .bool (r1.V))∧H2=[]∧iff r1.V.bool (True∧Q (.v (.int .i64) (V.i (k:Int))) []) (K)))
  (last:J n→(True∧Q (.v (.int .i64) (V.i (-1))) []))
  (k:Nat) (le0:k≤n) (hj:J k):∃ m0,ZA Q m0 x0 (n:Int) ((k:Int)):=by
 exact rangeG0 n hb J (fun m0 i=>ZA Q m0 x0 (n:Int) i) (fun m0 i=>Zce Q m0 x0 (n:Int) i) (fun k hl_ hj_ m_ ih_=>step k hl_ hj_ _ ih_) last k le0 hj
def Zdd (a0:LL) (Q:QD):Prop :=
 (a0.length≤big→∃ m0,ZA Q m0 a0 ((a0.length:Int)) 0)
theorem Zdm (a0:LL) (Q:QD) (h:Zdd a0 Q):cl ZbG [.v (.sl Za) (V.l a0),.fn Z4 []] [] Q :=
 acalls2 (E:=ZF) (envOk _ _ _ _ _) 0 Tryz.func170 (by kernel_rfl) h
def ZhK:Env:=envA [] [] [] [] []
def Zfa (a0 a1:ByteArray) (Q:QD):Prop :=
 cl Zb9 [.v .str (V.s a0)] [] fun r1 H2=>r1=(.v .bool (r1.V))∧H2=[]∧iff r1.V.bool (cl Zb9 [.v .str (V.s a1)] [] fun r3 H4=>r3=(.v .bool (r3.V))∧H4=[]∧iff (!r3.V.bool) (True∧Q (.v .bool (V.b true)) []) (True∧Q (.v .bool (V.b (Op.bytesLess a0.toList a1.toList))) [])) (True∧Q (.v .bool (V.b (Op.bytesLess a0.toList a1.toList))) [])
theorem Zjg (a0 a1:ByteArray) (Q:QD) (h:Zfa a0 a1 Q):cl Zd6 [.v .str (V.s a0),.v .str (V.s a1)] [] Q :=
 acalls2 (E:=ZhK) (envOk _ _ _ _ _) 0 Tryz.func178 (by kernel_rfl) h
def ZZ:Env:=envA [(3,(.undef 0)::ua 4 2 (ua 7 10 (ua 18 37 ([.dead 24,.dead 33,.dead 39,.dead 52])))),(6,(.undef 0)::ua 4 2 (ua 9 8 (ua 18 6 (ua 25 30 ([.dead 33,.dead 39,.dead 52])))))] [] [] [] []
def ZdA (Q:QD):Post:=blockK 0 (seqJ ZZ (fnAt [1,1,1] Tryz.f182) (endK ZZ Tryz.f182 Q))
def Zic (Q:QD) (m0:Nat):Post:=blockK 2 (blockK 1 (loopK (adj (ZZ.adj 3)) (iter (adj (ZZ.adj 3)) (evCode ZZ (fnAt [1,1,0,1,0,0] Tryz.f182)) (ZdA Q) m0) (ZdA Q)))
@[irreducible] def Zbe (Q:QD) (m0 m1:Nat) (x1:LL) (x7 x8:V) (y15 y17_x:LL) (y17n:Nat) (y17s:List Nat) (y24_x:LL) (y24n:Nat) (y24s:List Nat):Prop :=
 iter (adj (ZZ.adj 6)) (evCode ZZ (fnAt [1,1,0,1,0,0,1,1,0,1,1,0,0] Tryz.f182)) (Zic Q m0) m1 ⟨.undef::(.v (.mp Zc) (V.l x1))::sk 2 (un 2 ((.mp (.loc 15))::(.v .str (x7))::(.v (.int .u64) (x8))::un 8 ((.ptr (.loc 17) 0)::un 6 ((.ptr (.loc 24) 0)::un 30 ([.skip]))))),dd 15 ((.map Zc y15)::.dead::(.iter Zc (.v (.mp Zc) (V.l y17_x)) y17n y17s)::dd 6 ((.iter Zc (.v (.mp Zc) (V.l y24_x)) y24n y24s)::dd 31 ([])))⟩ []
@[irreducible] def Zb8 (Q:QD) (m0:Nat) (x1 y15 y17_x:LL) (y17n:Nat) (y17s:List Nat):Prop :=
 iter (adj (ZZ.adj 3)) (evCode ZZ (fnAt [1,1,0,1,0,0] Tryz.f182)) (ZdA Q) m0 ⟨.undef::(.v (.mp Zc) (V.l x1))::sk 2 (un 2 ((.mp (.loc 15))::un 10 ((.ptr (.loc 17) 0)::un 37 ([.skip])))),dd 15 ((.map Zc y15)::.dead::(.iter Zc (.v (.mp Zc) (V.l y17_x)) y17n y17s)::dd 38 ([]))⟩ []
def ZdB (Q:QD) (m0 m1:Nat) (x1:LL) (x7 x8:V) (y15 y17_x:LL) (y17n:Nat) (y17s:List Nat) (y24_x:LL) (y24n:Nat) (y24s:List Nat):Prop :=
 y24_x.length=y24n∧((∀ j:Nat,j<y24n→j∈y24s)→Zb8 Q m0 x1 y15 y17_x y17n y17s)∧(∀ j1:Nat,j1<y24n→j1 ∉ y24s→y24s.length<y24n→y24_x.length=y24n∧cl Zgl [.v .str (x7),.v .str ((y24_x.getD j1 []).headD V.none)] [] fun r2 H3=>r2=(.tup [.v .str ((r2.parts.headD .undef).V),.v .bool ((r2.parts.tail.headD .undef).V)])∧H3=[]∧cl Zjr [.v (.int .u64) (x8),.v (.int .u64) (((y24_x.getD j1 []).drop 1).headD V.none)] [] fun r4 H5=>r4=(.tup [.v (.int .u64) ((r4.parts.headD .undef).V),.v .bool ((r4.parts.tail.headD .undef).V)])∧H5=[]∧iff (!(((r2.parts.tail.headD .undef).V).bool)) ((True∧True∧True)∧Q (.tup [.v (.mp Zc) (V.l ([])),.v .bool (V.b false)]) []) (iff (!(((r4.parts.tail.headD .undef).V).bool)) ((True∧True∧True)∧Q (.tup [.v (.mp Zc) (V.l ([])),.v .bool (V.b false)]) []) (cl Zbc [.mp (.own 0),.v .str ((r2.parts.headD .undef).V),.v (.int .u64) ((r4.parts.headD .undef).V)] [.map Zc y15] fun r6 H7=>r6=(.v .bool (r6.V))∧H7=[.map Zc ((H7.headD .dead).xs)]∧iff (!r6.V.bool) ((True∧True∧True)∧Q (.tup [.v (.mp Zc) (V.l ([])),.v .bool (V.b false)]) []) (Zbe Q m0 m1 x1 x7 x8 ((H7.headD .dead).xs) y17_x y17n y17s y24_x y24n (j1::y24s)))))
theorem ZgX (Q:QD) (m0 m1:Nat) (x1:LL) (x7 x8:V) (y15 y17_x:LL) (y17n:Nat) (y17s:List Nat) (y24_x:LL) (y24n:Nat) (y24s:List Nat):Zbe Q m0 (m1+1) x1 x7 x8 y15 y17_x y17n y17s y24_x y24n y24s=ZdB Q m0 m1 x1 x7 x8 y15 y17_x y17n y17s y24_x y24n y24s:=by kernel_rfl
theorem Zg2 (Q:QD) (m0:Nat):RuleG10 (Zbe Q m0) (ZdB Q m0):=ruleG10 _ _ (ZgX Q m0)
def ZdT (Q:QD) (m0:Nat) (x1 y15 y17_x:LL) (y17n:Nat) (y17s:List Nat):Prop :=
 y17_x.length=y17n∧((∀ j:Nat,j<y17n→j∈y17s)→(True∧True∧True)∧Q (.tup [.v (.mp Zc) (V.l y15),.v .bool (V.b true)]) [])∧(∀ j1:Nat,j1<y17n→j1 ∉ y17s→y17s.length<y17n→y17_x.length=y17n∧∃ m1,Zbe Q m0 m1 x1 ((y17_x.getD j1 []).headD V.none) (((y17_x.getD j1 []).drop 1).headD V.none) y15 y17_x y17n (j1::y17s) x1 x1.length (([]:List Nat)))
theorem Zg7 (Q:QD) (m0:Nat) (x1 y15 y17_x:LL) (y17n:Nat) (y17s:List Nat):Zb8 Q (m0+1) x1 y15 y17_x y17n y17s=ZdT Q m0 x1 y15 y17_x y17n y17s:=by kernel_rfl
theorem Zg9 (Q:QD):RuleG5 (Zb8 Q) (ZdT Q):=ruleG5 _ _ (Zg7 Q)
def ZfW (a0 a1:LL) (Q:QD):Prop :=
 ∃ m0,Zb8 Q m0 a1 (([]:List (List V))) a0 a0.length (([]:List Nat))
theorem ZkA (a0 a1:LL) (Q:QD) (h:ZfW a0 a1 Q):cl ZeJ [.v (.mp Zc) (V.l a0),.v (.mp Zc) (V.l a1)] [] Q :=
 acalls2 (E:=ZZ) (envOk _ _ _ _ _) 0 Tryz.func182 (by kernel_rfl) h
def ZiS:Env:=envA [] [] [] [] []
def ZfA (a0_0:ByteArray) (a0_1:Int) (Q:QD):Prop :=
 cl Zbx [.v .str (V.s a0_0),.v .bool (V.b true)] [] fun r1 H2=>r1=(.v .bool (r1.V))∧H2=[]∧True∧Q (.v .bool (V.b (!r1.V.bool))) []
theorem ZjT (a0_0:ByteArray) (a0_1:Int) (Q:QD) (h:ZfA a0_0 a0_1 Q):cl ZW [.agg [.v .str (V.s a0_0),.v (.int .i64) (V.i a0_1)]] [] Q :=
 acalls2 (E:=ZiS) (envOk _ _ _ _ _) 0 Tryz.func104 (by kernel_rfl) h
def ZiM:Env:=envA [] [] [] [] []
def Zfp (a0_0:ByteArray) (a0_1:Int) (Q:QD):Prop :=
 iff (decide (a0_1<(0:Int))) (True∧Q (.v .bool (V.b true)) []) (True∧Q (.v .bool (V.b (decide (a0_1 > (8:Int))))) [])
theorem ZjU (a0_0:ByteArray) (a0_1:Int) (Q:QD) (h:Zfp a0_0 a0_1 Q):cl ZX [.agg [.v .str (V.s a0_0),.v (.int .i64) (V.i a0_1)]] [] Q :=
 acalls2 (E:=ZiM) (envOk _ _ _ _ _) 0 Tryz.func106 (by kernel_rfl) h
def ZhL:Env:=envA [] [] [] [] []
def Ze6 (a0 a1:ByteArray) (Q:QD):Prop :=
 cl ZdQ [.v .str (V.s a0),.v .str (V.s a1)] [] fun r1 H2=>r1=(.v (.int .i64) (r1.V))∧H2=[]∧True∧Q (.v (.int .i64) (r1.V)) []
theorem Zju (a0 a1:ByteArray) (Q:QD) (h:Ze6 a0 a1 Q):cl Zed [.v .str (V.s a0),.v .str (V.s a1)] [] Q :=
 acalls2 (E:=ZhL) (envOk _ _ _ _ _) 0 Tryz.func109 (by kernel_rfl) h
def Zdj:Env:=envA [(2,(.undef 0)::ua 4 3 (ua 10 11 ([])))] [] [] [] []
def Zky (Q:QD):Post:=blockK 0 (seqJ Zdj (fnAt [1,1] Tryz.f59) (endK Zdj Tryz.f59 Q))
@[irreducible] def Zcj (Q:QD) (m0:Nat) (x1:Int) (x7:LL) (x8 x9:Int):Prop :=
 iter (adj (Zdj.adj 2)) (evCode Zdj (fnAt [1,0,1,0,0] Tryz.f59)) (Zky Q) m0 ⟨.undef::(.v (.int .i64) (V.i x1))::sk 2 (un 3 ((.v (.sl ZT) (V.l x7))::(.v (.int .i64) (V.i x8))::(.v (.int .i64) (V.i x9))::un 11 ([]))),dd 21 ([])⟩ []
def Zkm (Q:QD) (m0:Nat) (x1:Int) (x7:LL) (x8 x9:Int):Prop :=
 iff (decide (x9<x8)) (0≤x9∧x9<x7.length∧iff (!((decide (((((x7.getD x9.toNat []).drop 0).headD V.none).int) > (0:Int))) == (x9 == x1))) (True∧Q (.v .bool (V.b false)) []) (Zcj Q m0 x1 x7 x8 (IntKind.i64.wrap (x9+(1:Int))))) (True∧Q (.v .bool (V.b true)) [])
theorem ZjH (Q:QD) (m0:Nat) (x1:Int) (x7:LL) (x8 x9:Int):Zcj Q (m0+1) x1 x7 x8 x9=Zkm Q m0 x1 x7 x8 x9:=by kernel_rfl
theorem Zir (Q:QD) (x1:Int) (x7:LL) (n:Nat) (hb:n≤big) (J:Nat→Prop)
  (step:∀ (k:Nat),k<n→J k→∀ K:Prop,(J (k+1)→K)→(0≤(k:Int)∧(k:Int)<x7.length∧iff (!((decide (((((x7.getD k []).drop 0).headD V.none).int) > (0:Int))) == ((k:Int) == x1))) (True∧Q (.v .bool (V.b false)) []) (K)))
  (last:J n→(True∧Q (.v .bool (V.b true)) []))
  (k:Nat) (le0:k≤n) (hj:J k):∃ m0,Zcj Q m0 x1 x7 (n:Int) ((k:Int)):=by
 exact rangeG0 n hb J (fun m0 i=>Zcj Q m0 x1 x7 (n:Int) i) (fun m0 i=>ZjH Q m0 x1 x7 (n:Int) i) (fun k hl_ hj_ m_ ih_=>step k hl_ hj_ _ ih_) last k le0 hj
def ZlJ (a0:LL) (a1:Int) (Q:QD):Prop :=
 (a0.length≤big→∃ m0,Zcj Q m0 a1 a0 ((a0.length:Int)) 0)
theorem Zmf (a0:LL) (a1:Int) (Q:QD) (h:ZlJ a0 a1 Q):cl Zgq [.v (.sl ZT) (V.l a0),.v (.int .i64) (V.i a1)] [] Q :=
 acalls2 (E:=Zdj) (envOk _ _ _ _ _) 0 Tryz.func59 (by kernel_rfl) h
def Ze1:Env:=envA [] [] [] [] []
def Zc1 (a0 a1:ByteArray) (Q:QD):Prop :=
 cl ZaU [.v .str (V.s a0),.v .str (V.s a1)] [] fun r1 H2=>r1=(.v .bool (r1.V))∧H2=[]∧iff r1.V.bool ((a0.size≤big→(a1.size≤big→0≤(0:Int)∧(0:Int)≤(IntKind.i64.wrap (((a0.size:Int)) - ((a1.size:Int))))∧(IntKind.i64.wrap (((a0.size:Int)) - ((a1.size:Int))))≤a0.size∧True∧Q (.v .str (V.s (a0.extract (0:Int).toNat ((IntKind.i64.wrap (((a0.size:Int)) - ((a1.size:Int))))).toNat))) []))) (True∧Q (.v .str (V.s a0)) [])
theorem Zft (a0 a1:ByteArray) (Q:QD) (h:Zc1 a0 a1 Q):cl Zbs [.v .str (V.s a0),.v .str (V.s a1)] [] Q :=
 acalls2 (E:=Ze1) (envOk _ _ _ _ _) 0 Tryz.func188 (by kernel_rfl) h
end Go.Proofs.YthhnadeoioeniaaGreat
set_option maxRecDepth 100000
namespace Go.Proofs.YthhnadeoioeniaaGreat
open Go.Abs
def ZD:Env:=envA [(2,ua 4 3 (ua 9 10 ([.dead 16])))] [] [] [] []
def ZcO (Q:QD):Post:=blockK 0 (seqJ ZD (fnAt [1,1] Tryz.f189) (endK ZD Tryz.f189 Q))
@[irreducible] def Zz (Q:QD) (m0:Nat) (x0:LL) (x7 x8:Int):Prop :=
 iter (adj (ZD.adj 2)) (evCode ZD (fnAt [1,0,1,0,0] Tryz.f189)) (ZcO Q) m0 ⟨(.v (.sl Zh5) (V.l x0))::(.fn Z3 [])::sk 2 (un 3 ((.v (.int .i64) (V.i x7))::(.v (.int .i64) (V.i x8))::un 10 ([]))),dd 19 ([])⟩ []
def ZcK (Q:QD) (m0:Nat) (x0:LL) (x7 x8:Int):Prop :=
 iff (decide (x8<x7)) (0≤x8∧x8<x0.length∧cl Z3 [.v (.int .u8) (((x0.getD x8.toNat []).drop 0).headD V.none)] [] fun r1 H2=>r1=(.v .bool (r1.V))∧H2=[]∧iff r1.V.bool (True∧Q (.v (.int .i64) (V.i x8)) []) (Zz Q m0 x0 x7 (IntKind.i64.wrap (x8+(1:Int))))) (True∧Q (.v (.int .i64) (V.i (-1))) [])
theorem Zcg (Q:QD) (m0:Nat) (x0:LL) (x7 x8:Int):Zz Q (m0+1) x0 x7 x8=ZcK Q m0 x0 x7 x8:=by kernel_rfl
theorem ZbZ (Q:QD) (x0:LL) (n:Nat) (hb:n≤big) (J:Nat→Prop)
  (step:∀ (k:Nat),k<n→J k→∀ K:Prop,(J (k+1)→K)→(0≤(k:Int)∧(k:Int)<x0.length∧cl Z3 [.v (.int .u8) (((x0.getD k []).drop 0).headD V.none)] [] fun r1 H2=>r1=(.v .bool (r1.V))∧H2=[]∧iff r1.V.bool (True∧Q (.v (.int .i64) (V.i (k:Int))) []) (K)))
  (last:J n→(True∧Q (.v (.int .i64) (V.i (-1))) []))
  (k:Nat) (le0:k≤n) (hj:J k):∃ m0,Zz Q m0 x0 (n:Int) ((k:Int)):=by
 exact rangeG0 n hb J (fun m0 i=>Zz Q m0 x0 (n:Int) i) (fun m0 i=>Zcg Q m0 x0 (n:Int) i) (fun k hl_ hj_ m_ ih_=>step k hl_ hj_ _ ih_) last k le0 hj
def Zde (a0:LL) (Q:QD):Prop :=
 (a0.length≤big→∃ m0,Zz Q m0 a0 ((a0.length:Int)) 0)
theorem Zdn (a0:LL) (Q:QD) (h:Zde a0 Q):cl ZbF [.v (.sl Zh5) (V.l a0),.fn Z3 []] [] Q :=
 acalls2 (E:=ZD) (envOk _ _ _ _ _) 0 Tryz.func189 (by kernel_rfl) h
def Zji:Env:=envA [] [] [] [] []
def ZfX (a0:Int) (Q:QD):Prop :=
 True∧Q (.v .bool (V.b (a0 != a0))) []
theorem ZkB (a0:Int) (Q:QD) (h:ZfX a0 Q):cl Zdx [.v (.int .i64) (V.i a0)] [] Q :=
 acalls2 (E:=Zji) (envOk _ _ _ _ _) 0 Tryz.func147 (by kernel_rfl) h
def ZhM:Env:=envA [] [] [] [] []
def Zfb (a0:Int) (Q:QD):Prop :=
 iff (decide (a0<(0:Int))) (True∧Q (.v .bool (V.b true)) []) (True∧Q (.v .bool (V.b (decide (a0 > (8:Int))))) [])
theorem Zi5 (a0:Int) (Q:QD) (h:Zfb a0 Q):cl ZN [.v (.int .i64) (V.i a0)] [] Q :=
 acalls2 (E:=ZhM) (envOk _ _ _ _ _) 0 Tryz.func111 (by kernel_rfl) h
def Zll:Env:=envA [] [] [] [] []
def Ziu (a0_0:ByteArray) (a0_1:Bool) (a0_2:LL) (a0_3:ByteArray) (a0_4:Bool) (a0_5:LL) (Q:QD):Prop :=
 cl ZM [.v (.sl Za) (V.l ([[V.s a0_0,V.b a0_1,V.l a0_2]]))] [] fun r1 H2=>r1=(.v (.sl Zb) (r1.V))∧H2=[]∧iff a0_1 (True∧Q (.v .bool (V.b true)) []) (cl ZM [.v (.sl Za) (V.l ([[V.s a0_3,V.b a0_4,V.l a0_5]]))] [] fun r3 H4=>r3=(.v (.sl Zb) (r3.V))∧H4=[]∧cl ZaV [.v (.sl Zb) (r3.V),.fn Zad [.ptr (.own 0) 0]] [.cells [.v (.sl Zb) (r1.V)]] fun r5 H6=>r5=(.v .bool (r5.V))∧H6=[.cells [.v (.sl Zb) ((((H6.headD .dead).cs).headD .undef).V)]]∧True∧Q (.v .bool (r5.V)) [])
theorem Zmj (a0_0:ByteArray) (a0_1:Bool) (a0_2:LL) (a0_3:ByteArray) (a0_4:Bool) (a0_5:LL) (Q:QD) (h:Ziu a0_0 a0_1 a0_2 a0_3 a0_4 a0_5 Q):cl ZaF [.agg [.v .str (V.s a0_0),.v .bool (V.b a0_1),.v (.sl Za) (V.l a0_2),.v .str (V.s a0_3),.v .bool (V.b a0_4),.v (.sl Za) (V.l a0_5)]] [] Q :=
 acalls2 (E:=Zll) (envOk _ _ _ _ _) 0 Tryz.func119 (by kernel_rfl) h
def Zfn:Env:=envA [] [] [] [] []
def Zfx (a0 a1:ByteArray) (Q:QD):Prop :=
 (a0.size≤big→(a1.size≤big→iff (decide (((a0.size:Int))≥((a1.size:Int)))) ((a0.size≤big→(a1.size≤big→0≤(IntKind.i64.wrap (((a0.size:Int)) - ((a1.size:Int))))∧(IntKind.i64.wrap (((a0.size:Int)) - ((a1.size:Int))))≤(a0.size:Int)∧(a0.size:Int)≤a0.size∧True∧Q (.v .bool (V.b ((a0.extract (IntKind.i64.wrap (((a0.size:Int)) - ((a1.size:Int)))).toNat ((a0.size:Int)).toNat).toList == a1.toList))) []))) (True∧Q (.v .bool (V.b false)) [])))
theorem ZfR (a0 a1:ByteArray) (Q:QD) (h:Zfx a0 a1 Q):cl ZaU [.v .str (V.s a0),.v .str (V.s a1)] [] Q :=
 acalls2 (E:=Zfn) (envOk _ _ _ _ _) 0 Tryz.func191 (by kernel_rfl) h
def Zbz:Env:=envA [(8,ua 1 2 (ua 6 7 (ua 29 20 (ua 51 21 ([.dead 65]))))),(3000007,ua 1 2 (ua 6 2 (ua 11 2 (ua 29 18 ([.dead 41,.dead 44])))))] [(3,6,[0],[]),(10,16,[],[])] [] [] [7]
def Zlz (Q:QD):Post:=blockK 0 (seqJ Zbz (fnAt [1,1,1,1] Tryz.f194) (endK Zbz Tryz.f194 Q))
@[irreducible] def Zc4 (Q:QD) (m0:Nat) (x0:V) (x49 x50:Int) (y4_0:ByteArray) (y4_1:Bool) (y4_2:LL) (y5_0:ByteArray) (y5_1:Bool) (y5_2:LL):Prop :=
 iter (adj (Zbz.adj 8)) (evCode Zbz (fnAt [1,1,1,0,1,0,0] Tryz.f194)) (Zlz Q) m0 ⟨(.v (.sl Z2) (x0))::un 2 (.skip::(.ptr (.loc 4) 0)::(.ptr (.loc 5) 0)::un 7 (sk 16 (un 20 ((.v (.int .i64) (V.i x49))::(.v (.int .i64) (V.i x50))::un 21 ([.skip]))))),dd 4 ((.cells [.v .str (V.s y4_0),.v .bool (V.b y4_1),.v (.sl Za) (V.l y4_2)])::(.cells [.v .str (V.s y5_0),.v .bool (V.b y5_1),.v (.sl Za) (V.l y5_2)])::dd 67 ([]))⟩ []
@[irreducible] def Zhx (Q:QD) (x0:LL) (y4_0:ByteArray) (y4_1:Bool) (y4_2:LL) (y5_0:ByteArray) (y5_1:Bool) (y5_2:LL):Prop :=
 joinM (evCode Zbz (fnAt [1,1,1] Tryz.f194)) ⟨(.v (.sl Z2) (V.l x0))::un 2 (.skip::(.ptr (.loc 4) 0)::(.ptr (.loc 5) 0)::un 2 (sk 3 (un 2 (sk 16 (un 18 (sk 26 ([]))))))),dd 4 ((.cells [.v .str (V.s y4_0),.v .bool (V.b y4_1),.v (.sl Za) (V.l y4_2)])::(.cells [.v .str (V.s y5_0),.v .bool (V.b y5_1),.v (.sl Za) (V.l y5_2)])::dd 67 ([]))⟩ [] (endK Zbz Tryz.f194 Q)
def Zlm (Q:QD) (m0:Nat) (x0:V) (x49 x50:Int) (y4_0:ByteArray) (y4_1:Bool) (y4_2:LL) (y5_0:ByteArray) (y5_1:Bool) (y5_2:LL):Prop :=
 iff (decide (x50<x49)) (0≤x50∧x50<y4_2.length∧0≤x50∧x50<y5_2.length∧(∃ r1:D,cl ZeP [.v (.sl Z2) (x0),.agg [.v .str (((y4_2.getD x50.toNat []).drop 0).headD V.none),.v .bool ((((y4_2.getD x50.toNat []).drop 0).tail).headD V.none),.v (.sl Za) (((((y4_2.getD x50.toNat []).drop 0).tail).tail).headD V.none)],.agg [.v .str (((y5_2.getD x50.toNat []).drop 0).headD V.none),.v .bool ((((y5_2.getD x50.toNat []).drop 0).tail).headD V.none),.v (.sl Za) (((((y5_2.getD x50.toNat []).drop 0).tail).tail).headD V.none)]] [] (fun r H'=>r=(.tup [.v (.sl Z2) ((r1.parts.headD .undef).V),.v .bool ((r1.parts.tail.headD .undef).V)])∧H'=[])∧iff (!(((r1.parts.tail.headD .undef).V).bool)) ((True∧True∧True)∧Q (.tup [.nil,.v .bool (V.b false)]) []) (Zc4 Q m0 ((r1.parts.headD .undef).V) x49 (IntKind.i64.wrap (x50+(1:Int))) y4_0 y4_1 y4_2 y5_0 y5_1 y5_2))) ((True∧True∧True)∧Q (.tup [.v (.sl Z2) (x0),.v .bool (V.b true)]) [])
theorem Zj8 (Q:QD) (m0:Nat) (x0:V) (x49 x50:Int) (y4_0:ByteArray) (y4_1:Bool) (y4_2:LL) (y5_0:ByteArray) (y5_1:Bool) (y5_2:LL):Zc4 Q (m0+1) x0 x49 x50 y4_0 y4_1 y4_2 y5_0 y5_1 y5_2=Zlm Q m0 x0 x49 x50 y4_0 y4_1 y4_2 y5_0 y5_1 y5_2:=by kernel_rfl
theorem ZjD (Q:QD) (y4_0:ByteArray) (y4_1:Bool) (y4_2:LL) (y5_0:ByteArray) (y5_1:Bool) (y5_2:LL) (n:Nat) (hb:n≤big) (J:Nat→V→Prop)
  (step:∀ (k:Nat) (x0:V),k<n→J k x0→∀ K:V→Prop,(∀ (x0':V),J (k+1) x0'→K x0')→(0≤(k:Int)∧(k:Int)<y4_2.length∧0≤(k:Int)∧(k:Int)<y5_2.length∧(∃ r1:D,cl ZeP [.v (.sl Z2) (x0),.agg [.v .str (((y4_2.getD k []).drop 0).headD V.none),.v .bool ((((y4_2.getD k []).drop 0).tail).headD V.none),.v (.sl Za) (((((y4_2.getD k []).drop 0).tail).tail).headD V.none)],.agg [.v .str (((y5_2.getD k []).drop 0).headD V.none),.v .bool ((((y5_2.getD k []).drop 0).tail).headD V.none),.v (.sl Za) (((((y5_2.getD k []).drop 0).tail).tail).headD V.none)]] [] (fun r H'=>r=(.tup [.v (.sl Z2) ((r1.parts.headD .undef).V),.v .bool ((r1.parts.tail.headD .undef).V)])∧H'=[])∧iff (!(((r1.parts.tail.headD .undef).V).bool)) ((True∧True∧True)∧Q (.tup [.nil,.v .bool (V.b false)]) []) (K ((r1.parts.headD .undef).V)))))
  (last:∀ (x0:V),J n x0→((True∧True∧True)∧Q (.tup [.v (.sl Z2) (x0),.v .bool (V.b true)]) []))
  (k:Nat) (x0:V) (le0:k≤n) (hj:J k x0):∃ m0,Zc4 Q m0 x0 (n:Int) ((k:Int)) y4_0 y4_1 y4_2 y5_0 y5_1 y5_2:=by
 exact rangeG1 n hb J (fun m0 i x0=>Zc4 Q m0 x0 (n:Int) i y4_0 y4_1 y4_2 y5_0 y5_1 y5_2) (fun m0 i x0=>Zj8 Q m0 x0 (n:Int) i y4_0 y4_1 y4_2 y5_0 y5_1 y5_2) (fun k x0 hl_ hj_ m_ ih_=>step k x0 hl_ hj_ _ ih_) last k x0 le0 hj
def Zk2 (Q:QD) (x0:LL) (y4_0:ByteArray) (y4_1:Bool) (y4_2:LL) (y5_0:ByteArray) (y5_1:Bool) (y5_2:LL):Prop :=
 (y5_2.length≤big→∃ m0,Zc4 Q m0 (V.l x0) ((y5_2.length:Int)) 0 y4_0 y4_1 y4_2 y5_0 y5_1 y5_2)
theorem ZjV (Q:QD) (x0:LL) (y4_0:ByteArray) (y4_1:Bool) (y4_2:LL) (y5_0:ByteArray) (y5_1:Bool) (y5_2:LL):Zhx Q x0 y4_0 y4_1 y4_2 y5_0 y5_1 y5_2=Zk2 Q x0 y4_0 y4_1 y4_2 y5_0 y5_1 y5_2:=by kernel_rfl
def ZjQ (a0:LL) (a1_0:ByteArray) (a1_1:Bool) (a1_2:LL) (a2_0:ByteArray) (a2_1:Bool) (a2_2:LL) (Q:QD):Prop :=
 iff a1_1 (cl Zh3 [.v (.sl Z2) (V.l a0),.v .str (V.s a1_0)] [] fun r1 H2=>r1=(.v .bool (r1.V))∧H2=[]∧iff r1.V.bool ((∃ r3:D,cl ZeM [.v (.sl Z2) (V.l a0),.v .str (V.s a1_0)] [] (fun r H'=>r=(.agg [.v .str ((r3.cells.headD .undef).V),.v .bool ((r3.cells.tail.headD .undef).V),.v (.sl Za) ((r3.cells.tail.tail.headD .undef).V)])∧H'=[])∧cl Zh4 [.agg [.v .str ((r3.cells.headD .undef).V),.v .bool ((r3.cells.tail.headD .undef).V),.v (.sl Za) ((r3.cells.tail.tail.headD .undef).V)],.agg [.v .str (V.s a2_0),.v .bool (V.b a2_1),.v (.sl Za) (V.l a2_2)]] [] fun r4 H5=>r4=(.v .bool (r4.V))∧H5=[]∧(True∧True∧True)∧Q (.tup [.v (.sl Z2) (V.l a0),.v .bool (r4.V)]) [])) (cl Zi6 [.v (.sl Z2) (V.l a0),.v .str (V.s a1_0),.agg [.v .str (V.s a2_0),.v .bool (V.b a2_1),.v (.sl Za) (V.l a2_2)]] [] fun r6 H7=>r6=(.v (.sl Z2) (r6.V))∧H7=[]∧(True∧True∧True)∧Q (.tup [.v (.sl Z2) (r6.V),.v .bool (V.b true)]) [])) (iff a2_1 ((True∧True∧True)∧Q (.tup [.nil,.v .bool (V.b false)]) []) (iff (!(a2_0.toList == a1_0.toList)) ((True∧True∧True)∧Q (.tup [.nil,.v .bool (V.b false)]) []) ((a2_2.length≤big→(a1_2.length≤big→iff (((a2_2.length:Int)) != ((a1_2.length:Int))) ((True∧True∧True)∧Q (.tup [.nil,.v .bool (V.b false)]) []) (Zhx Q a0 a1_0 a1_1 a1_2 a2_0 a2_1 a2_2))))))
theorem ZmJ (a0:LL) (a1_0:ByteArray) (a1_1:Bool) (a1_2:LL) (a2_0:ByteArray) (a2_1:Bool) (a2_2:LL) (Q:QD) (h:ZjQ a0 a1_0 a1_1 a1_2 a2_0 a2_1 a2_2 Q):cl ZeP [.v (.sl Z2) (V.l a0),.agg [.v .str (V.s a1_0),.v .bool (V.b a1_1),.v (.sl Za) (V.l a1_2)],.agg [.v .str (V.s a2_0),.v .bool (V.b a2_1),.v (.sl Za) (V.l a2_2)]] [] Q :=
 acalls2 (E:=Zbz) (envOk _ _ _ _ _) 0 Tryz.func194 (by kernel_rfl) h
def Zjm:Env:=envA [] [] [] [] []
def ZfZ (a0_0:ByteArray) (a0_1:Bool) (a0_2:LL) (Q:QD):Prop :=
 cl ZbB [.agg [.v .str (V.s a0_0),.v .bool (V.b a0_1),.v (.sl Za) (V.l a0_2)]] [] fun r1 H2=>r1=(.v .bool (r1.V))∧H2=[]∧True∧Q (.v .bool (V.b (!r1.V.bool))) []
theorem Zkt (a0_0:ByteArray) (a0_1:Bool) (a0_2:LL) (Q:QD) (h:ZfZ a0_0 a0_1 a0_2 Q):cl Z4 [.agg [.v .str (V.s a0_0),.v .bool (V.b a0_1),.v (.sl Za) (V.l a0_2)]] [] Q :=
 acalls2 (E:=Zjm) (envOk _ _ _ _ _) 0 Tryz.func127 (by kernel_rfl) h
def Zha:Env:=envA [] [] [] [] []
def ZeW (a0:ByteArray) (Q:QD):Prop :=
 True∧Q (.v .bool (V.b (!(a0.toList == a0.toList)))) []
theorem ZiJ (a0:ByteArray) (Q:QD) (h:ZeW a0 Q):cl Zb9 [.v .str (V.s a0)] [] Q :=
 acalls2 (E:=Zha) (envOk _ _ _ _ _) 0 Tryz.func198 (by kernel_rfl) h
def ZaA:Env:=envA [(2,ua 4 2 (ua 7 56 ([.dead 19,.dead 24,.dead 32]))),(3000003,ua 4 2 (ua 7 56 ([])))] [(5,13,[],[]),(7,7,[],[]),(9,7,[],[])] [] [] [3]
def ZeN (Q:QD):Post:=blockK 0 (seqJ ZaA (fnAt [1,1,1] Tryz.f199) (endK ZaA Tryz.f199 Q))
@[irreducible] def Zgk (Q:QD) (m0:Nat) (x0 x1 x6:ByteArray):Prop :=
 joinM (evCode ZaA (fnAt [1,1,0,0,0,1] Tryz.f199)) ⟨(.v .str (V.s x0))::(.v .str (V.s x1))::sk 2 (un 2 ((.v .str (V.s x6))::un 56 (sk 5 ([])))),dd 68 ([])⟩ [] (loopK (adj (ZaA.adj 2)) (iter (adj (ZaA.adj 2)) (evCode ZaA (fnAt [1,1,0,0,0] Tryz.f199)) (ZeN Q) m0) (ZeN Q))
@[irreducible] def Za3 (Q:QD) (m0:Nat) (x0 x1 x6:ByteArray):Prop :=
 iter (adj (ZaA.adj 2)) (evCode ZaA (fnAt [1,1,0,0,0] Tryz.f199)) (ZeN Q) m0 ⟨(.v .str (V.s x0))::(.v .str (V.s x1))::sk 2 (un 2 ((.v .str (V.s x6))::un 56 (sk 5 ([])))),dd 68 ([])⟩ []
def ZgG (Q:QD) (m0:Nat) (x0 x1 x6:ByteArray):Prop :=
 cl Zeh [.v .str (V.s x0)] [] fun r1 H2=>r1=(.tup [.v (.int .i64) ((r1.parts.headD .undef).V),.v (.int .i64) ((r1.parts.tail.headD .undef).V)])∧H2=[]∧cl Zeh [.v .str (V.s x1)] [] fun r3 H4=>r3=(.tup [.v (.int .i64) ((r3.parts.headD .undef).V),.v (.int .i64) ((r3.parts.tail.headD .undef).V)])∧H4=[]∧iff (decide ((((r1.parts.headD .undef).V).int)<(((r3.parts.headD .undef).V).int))) (0≤(0:Int)∧(0:Int)≤(6:Int)∧(6:Int)≤x0.size∧x6.size+(x0.extract (0:Int).toNat ((6:Int)).toNat).size≤lim∧0≤(6:Int)∧(6:Int)≤(x0.size:Int)∧(x0.size:Int)≤x0.size∧Za3 Q m0 (x0.extract (6:Int).toNat ((x0.size:Int)).toNat) x1 (x6++(x0.extract (0:Int).toNat ((6:Int)).toNat))) (iff (decide ((((r3.parts.headD .undef).V).int)<(((r1.parts.headD .undef).V).int))) (0≤(0:Int)∧(0:Int)≤(6:Int)∧(6:Int)≤x1.size∧x6.size+(x1.extract (0:Int).toNat ((6:Int)).toNat).size≤lim∧0≤(6:Int)∧(6:Int)≤(x1.size:Int)∧(x1.size:Int)≤x1.size∧Za3 Q m0 x0 (x1.extract (6:Int).toNat ((x1.size:Int)).toNat) (x6++(x1.extract (0:Int).toNat ((6:Int)).toNat))) (iff (decide ((IntKind.i64.wrap ((((r1.parts.tail.headD .undef).V).int)+(((r3.parts.tail.headD .undef).V).int))) > (1048576:Int))) ((True∧True∧True)∧Q (.tup [.v .str (V.s (ByteArray.mk #[])),.v .bool (V.b false)]) []) ((∃ r5:D,cl Zej [.v (.int .i64) ((r1.parts.headD .undef).V),.v (.int .i64) (V.i (IntKind.i64.wrap ((((r1.parts.tail.headD .undef).V).int)+(((r3.parts.tail.headD .undef).V).int))))] [] (fun r H'=>r=(.v .str (r5.V))∧H'=[])∧x6.size+r5.V.str.size≤lim∧0≤(6:Int)∧(6:Int)≤(x0.size:Int)∧(x0.size:Int)≤x0.size∧0≤(6:Int)∧(6:Int)≤(x1.size:Int)∧(x1.size:Int)≤x1.size∧Za3 Q m0 (x0.extract (6:Int).toNat ((x0.size:Int)).toNat) (x1.extract (6:Int).toNat ((x1.size:Int)).toNat) (x6++r5.V.str)))))
theorem Zjc (Q:QD) (m0:Nat) (x0 x1 x6:ByteArray):Zgk Q m0 x0 x1 x6=ZgG Q m0 x0 x1 x6:=by kernel_rfl
def ZeS (Q:QD) (m0:Nat) (x0 x1 x6:ByteArray):Prop :=
 iff (!(x0.toList == (ByteArray.mk #[]).toList)) (iff (!(x1.toList == (ByteArray.mk #[]).toList)) (Zgk Q m0 x0 x1 x6) (x6.size+x0.size≤lim∧(x6++x0).size+x1.size≤lim∧(True∧True∧True)∧Q (.tup [.v .str (V.s ((x6++x0)++x1)),.v .bool (V.b true)]) [])) (x6.size+x0.size≤lim∧(x6++x0).size+x1.size≤lim∧(True∧True∧True)∧Q (.tup [.v .str (V.s ((x6++x0)++x1)),.v .bool (V.b true)]) [])
theorem ZjB (Q:QD) (m0:Nat) (x0 x1 x6:ByteArray):Za3 Q (m0+1) x0 x1 x6=ZeS Q m0 x0 x1 x6:=by kernel_rfl
theorem Zi4 (Q:QD):RuleG3 (Za3 Q) (ZeS Q):=ruleG3 _ _ (ZjB Q)
def Zih (a0 a1:ByteArray) (Q:QD):Prop :=
 ∃ m0,Za3 Q m0 a0 a1 (ByteArray.mk #[])
theorem Zmk (a0 a1:ByteArray) (Q:QD) (h:Zih a0 a1 Q):cl Zgl [.v .str (V.s a0),.v .str (V.s a1)] [] Q :=
 acalls2 (E:=ZaA) (envOk _ _ _ _ _) 0 Tryz.func199 (by kernel_rfl) h
def Zfl:Env:=envA [] [] [] [] []
def Zfw (a0 a1:ByteArray) (Q:QD):Prop :=
 True∧Q (.v (.int .i64) (V.i (Lib.compareBytes a0.data.toList a1.data.toList))) []
theorem ZfJ (a0 a1:ByteArray) (Q:QD) (h:Zfw a0 a1 Q):cl ZdQ [.v .str (V.s a0),.v .str (V.s a1)] [] Q :=
 acalls2 (E:=Zfl) (envOk _ _ _ _ _) 0 Tryz.func161 (by kernel_rfl) h
def Zjx:Env:=envA [] [] [] [] []
def Zf0 (a0:Int) (Q:QD):Prop :=
 cl ZfI [.v (.int .u8) (V.i a0)] [] fun r1 H2=>r1=(.v .bool (r1.V))∧H2=[]∧True∧Q (.v .bool (V.b (!r1.V.bool))) []
theorem Zkv (a0:Int) (Q:QD) (h:Zf0 a0 Q):cl Z3 [.v (.int .u8) (V.i a0)] [] Q :=
 acalls2 (E:=Zjx) (envOk _ _ _ _ _) 0 Tryz.func159 (by kernel_rfl) h
def Zb4:Env:=envA [] [] [] [] []
def Zaw (a0 h0_0:LL) (Q:QD):Prop :=
 cl Zbj [.v (.sl Zb) (V.l a0),.fn Zad [.ptr (.own 0) 0]] [.cells [.v (.sl Zb) (V.l h0_0)]] fun r1 H2=>r1=(.v (.int .i64) (r1.V))∧H2=[.cells [.v (.sl Zb) ((((H2.headD .dead).cs).headD .undef).V)]]∧True∧Q (.v .bool (V.b (decide (r1.V.int≥(0:Int))))) [.cells [.v (.sl Zb) ((((H2.headD .dead).cs).headD .undef).V)]]
theorem Zco (a0 h0_0:LL) (Q:QD) (h:Zaw a0 h0_0 Q):cl ZaV [.v (.sl Zb) (V.l a0),.fn Zad [.ptr (.own 0) 0]] [.cells [.v (.sl Zb) (V.l h0_0)]] Q :=
 acalls2 (E:=Zb4) (envOk _ _ _ _ _) 0 Tryz.func165 (by kernel_rfl) h
def ZdM:Env:=envA [(2,(.undef 0)::(.undef 4)::(.undef 6)::ua 10 8 ([.dead 6]))] [] [] [] []
def Zln (Q:QD):Post:=blockK 0 (seqJ ZdM (fnAt [1,1] Tryz.f201) (endK ZdM Tryz.f201 Q))
@[irreducible] def Zdb (Q:QD) (m0:Nat) (x1:ByteArray) (x7:LL) (x8 x9:Int):Prop :=
 iter (adj (ZdM.adj 2)) (evCode ZdM (fnAt [1,0,1,0,0] Tryz.f201)) (Zln Q) m0 ⟨.undef::(.v .str (V.s x1))::sk 2 (.undef::.skip::.undef::(.v (.sl Z2) (V.l x7))::(.v (.int .i64) (V.i x8))::(.v (.int .i64) (V.i x9))::un 8 ([])),dd 18 ([])⟩ []
def Zlt (Q:QD) (m0:Nat) (x1:ByteArray) (x7:LL) (x8 x9:Int):Prop :=
 iff (decide (x9<x8)) (0≤x9∧x9<x7.length∧iff (((((x7.getD x9.toNat []).drop 0).headD V.none).str).toList == x1.toList) (True∧Q (.v .bool (V.b true)) []) (Zdb Q m0 x1 x7 x8 (IntKind.i64.wrap (x9+(1:Int))))) (True∧Q (.v .bool (V.b false)) [])
theorem Zj1 (Q:QD) (m0:Nat) (x1:ByteArray) (x7:LL) (x8 x9:Int):Zdb Q (m0+1) x1 x7 x8 x9=Zlt Q m0 x1 x7 x8 x9:=by kernel_rfl
theorem Zjq (Q:QD) (x1:ByteArray) (x7:LL) (n:Nat) (hb:n≤big) (J:Nat→Prop)
  (step:∀ (k:Nat),k<n→J k→∀ K:Prop,(J (k+1)→K)→(0≤(k:Int)∧(k:Int)<x7.length∧iff (((((x7.getD k []).drop 0).headD V.none).str).toList == x1.toList) (True∧Q (.v .bool (V.b true)) []) (K)))
  (last:J n→(True∧Q (.v .bool (V.b false)) []))
  (k:Nat) (le0:k≤n) (hj:J k):∃ m0,Zdb Q m0 x1 x7 (n:Int) ((k:Int)):=by
 exact rangeG0 n hb J (fun m0 i=>Zdb Q m0 x1 x7 (n:Int) i) (fun m0 i=>Zj1 Q m0 x1 x7 (n:Int) i) (fun k hl_ hj_ m_ ih_=>step k hl_ hj_ _ ih_) last k le0 hj
def Zmb (a0:LL) (a1:ByteArray) (Q:QD):Prop :=
 (a0.length≤big→∃ m0,Zdb Q m0 a1 a0 ((a0.length:Int)) 0)
theorem ZmC (a0:LL) (a1:ByteArray) (Q:QD) (h:Zmb a0 a1 Q):cl Zh3 [.v (.sl Z2) (V.l a0),.v .str (V.s a1)] [] Q :=
 acalls2 (E:=ZdM) (envOk _ _ _ _ _) 0 Tryz.func201 (by kernel_rfl) h
def ZlP:Env:=envA [] [] [] [] []
def ZjK (a0_0:ByteArray) (a0_1:Bool) (a0_2:LL) (a1_0:ByteArray) (a1_1:Bool) (a1_2:LL) (Q:QD):Prop :=
 cl ZdE [.agg [.v .str (V.s a0_0),.v .bool (V.b a0_1),.v (.sl Za) (V.l a0_2)],.agg [.v .str (V.s a1_0),.v .bool (V.b a1_1),.v (.sl Za) (V.l a1_2)]] [] fun r1 H2=>r1=(.v (.int .i64) (r1.V))∧H2=[]∧True∧Q (.v .bool (V.b (r1.V.int == (0:Int)))) []
theorem ZmI (a0_0:ByteArray) (a0_1:Bool) (a0_2:LL) (a1_0:ByteArray) (a1_1:Bool) (a1_2:LL) (Q:QD) (h:ZjK a0_0 a0_1 a0_2 a1_0 a1_1 a1_2 Q):cl Zh4 [.agg [.v .str (V.s a0_0),.v .bool (V.b a0_1),.v (.sl Za) (V.l a0_2)],.agg [.v .str (V.s a1_0),.v .bool (V.b a1_1),.v (.sl Za) (V.l a1_2)]] [] Q :=
 acalls2 (E:=ZlP) (envOk _ _ _ _ _) 0 Tryz.func202 (by kernel_rfl) h
def Zes:Env:=envA [(2,(.undef 2)::(.undef 6)::ua 8 16 ([.dead 10,.dead 19]))] [(4,13,[],[])] [24] [] []
def ZlD (Q:QD):Post:=blockK 0 (seqJ Zes (fnAt [1,1,1] Tryz.f203) (endK Zes Tryz.f203 Q))
@[irreducible] def ZeE (Q:QD) (m0:Nat) (x0:LL) (x1:ByteArray) (x7:Int) (y5_0:ByteArray) (y5_1:Bool) (y5_2:LL):Prop :=
 iter (adj (Zes.adj 2)) (evCode Zes (fnAt [1,1,0,0,0] Tryz.f203)) (ZlD Q) m0 ⟨(.v (.sl Z2) (V.l x0))::(.v .str (V.s x1))::.undef::sk 2 ((.ptr (.loc 5) 0)::.undef::(.v (.int .i64) (V.i x7))::un 16 (sk 14 ([]))),dd 5 ((.cells [.v .str (V.s y5_0),.v .bool (V.b y5_1),.v (.sl Za) (V.l y5_2)])::dd 32 ([]))⟩ []
def ZfS (Q:QD) (m0:Nat) (x0:LL) (x1:ByteArray) (x7:Int) (y5_0:ByteArray) (y5_1:Bool) (y5_2:LL):Prop :=
 (x0.length≤big→iff (decide (x7<((x0.length:Int)))) (0≤x7∧x7<x0.length∧cl Zcb [.v .str (((x0.getD x7.toNat []).drop 0).headD V.none),.v .str (V.s x1)] [] fun r1 H2=>r1=(.v (.int .i64) (r1.V))∧H2=[]∧iff (decide (r1.V.int<(0:Int))) (ZeE Q m0 x0 x1 (IntKind.i64.wrap (x7+(1:Int))) y5_0 y5_1 y5_2) (0≤(0:Int)∧(0:Int)≤x7∧x7≤x0.length∧(([]:List (List V))).length=0∧0+((x0.take x7.toNat).drop (0:Int).toNat).length≤lim∧((([]:List (List V)))++((x0.take x7.toNat).drop (0:Int).toNat)).length=0+((x0.take x7.toNat).drop (0:Int).toNat).length∧0+((x0.take x7.toNat).drop (0:Int).toNat).length+([[V.s x1,V.s y5_0,V.b y5_1,V.l y5_2]]).length≤lim∧0≤x7∧x7≤(x0.length:Int)∧(x0.length:Int)≤x0.length∧(((([]:List (List V)))++((x0.take x7.toNat).drop (0:Int).toNat))++([[V.s x1,V.s y5_0,V.b y5_1,V.l y5_2]])).length=0+((x0.take x7.toNat).drop (0:Int).toNat).length+([[V.s x1,V.s y5_0,V.b y5_1,V.l y5_2]]).length∧0+((x0.take x7.toNat).drop (0:Int).toNat).length+([[V.s x1,V.s y5_0,V.b y5_1,V.l y5_2]]).length+((x0.take ((x0.length:Int)).toNat).drop x7.toNat).length≤lim∧(0+((x0.take x7.toNat).drop (0:Int).toNat).length+([[V.s x1,V.s y5_0,V.b y5_1,V.l y5_2]]).length+((x0.take ((x0.length:Int)).toNat).drop x7.toNat).length=((((([]:List (List V)))++((x0.take x7.toNat).drop (0:Int).toNat))++([[V.s x1,V.s y5_0,V.b y5_1,V.l y5_2]]))++((x0.take ((x0.length:Int)).toNat).drop x7.toNat)).length)∧Q (.v (.sl Z2) (V.l ((((([]:List (List V)))++((x0.take x7.toNat).drop (0:Int).toNat))++([[V.s x1,V.s y5_0,V.b y5_1,V.l y5_2]]))++((x0.take ((x0.length:Int)).toNat).drop x7.toNat)))) [])) (0≤(0:Int)∧(0:Int)≤x7∧x7≤x0.length∧(([]:List (List V))).length=0∧0+((x0.take x7.toNat).drop (0:Int).toNat).length≤lim∧((([]:List (List V)))++((x0.take x7.toNat).drop (0:Int).toNat)).length=0+((x0.take x7.toNat).drop (0:Int).toNat).length∧0+((x0.take x7.toNat).drop (0:Int).toNat).length+([[V.s x1,V.s y5_0,V.b y5_1,V.l y5_2]]).length≤lim∧0≤x7∧x7≤(x0.length:Int)∧(x0.length:Int)≤x0.length∧(((([]:List (List V)))++((x0.take x7.toNat).drop (0:Int).toNat))++([[V.s x1,V.s y5_0,V.b y5_1,V.l y5_2]])).length=0+((x0.take x7.toNat).drop (0:Int).toNat).length+([[V.s x1,V.s y5_0,V.b y5_1,V.l y5_2]]).length∧0+((x0.take x7.toNat).drop (0:Int).toNat).length+([[V.s x1,V.s y5_0,V.b y5_1,V.l y5_2]]).length+((x0.take ((x0.length:Int)).toNat).drop x7.toNat).length≤lim∧(0+((x0.take x7.toNat).drop (0:Int).toNat).length+([[V.s x1,V.s y5_0,V.b y5_1,V.l y5_2]]).length+((x0.take ((x0.length:Int)).toNat).drop x7.toNat).length=((((([]:List (List V)))++((x0.take x7.toNat).drop (0:Int).toNat))++([[V.s x1,V.s y5_0,V.b y5_1,V.l y5_2]]))++((x0.take ((x0.length:Int)).toNat).drop x7.toNat)).length)∧Q (.v (.sl Z2) (V.l ((((([]:List (List V)))++((x0.take x7.toNat).drop (0:Int).toNat))++([[V.s x1,V.s y5_0,V.b y5_1,V.l y5_2]]))++((x0.take ((x0.length:Int)).toNat).drop x7.toNat)))) []))
theorem ZkK (Q:QD) (m0:Nat) (x0:LL) (x1:ByteArray) (x7:Int) (y5_0:ByteArray) (y5_1:Bool) (y5_2:LL):ZeE Q (m0+1) x0 x1 x7 y5_0 y5_1 y5_2=ZfS Q m0 x0 x1 x7 y5_0 y5_1 y5_2:=by kernel_rfl
theorem ZkH (Q:QD):RuleG6 (ZeE Q) (ZfS Q):=ruleG6 _ _ (ZkK Q)
def ZkM (a0:LL) (a1 a2_0:ByteArray) (a2_1:Bool) (a2_2:LL) (Q:QD):Prop :=
 ∃ m0,ZeE Q m0 a0 a1 0 a2_0 a2_1 a2_2
theorem ZmP (a0:LL) (a1 a2_0:ByteArray) (a2_1:Bool) (a2_2:LL) (Q:QD) (h:ZkM a0 a1 a2_0 a2_1 a2_2 Q):cl Zi6 [.v (.sl Z2) (V.l a0),.v .str (V.s a1),.agg [.v .str (V.s a2_0),.v .bool (V.b a2_1),.v (.sl Za) (V.l a2_2)]] [] Q :=
 acalls2 (E:=Zes) (envOk _ _ _ _ _) 0 Tryz.func203 (by kernel_rfl) h
def Zkz:Env:=envA [] [] [] [] []
def ZhC (a0:Int) (Q:QD):Prop :=
 iff (decide (a0≥(97:Int))) (iff (decide (a0≤(122:Int))) (True∧Q (.v .bool (V.b true)) []) (iff (decide (a0≥(65:Int))) (iff (decide (a0≤(90:Int))) (True∧Q (.v .bool (V.b true)) []) (iff (decide (a0≥(48:Int))) (iff (decide (a0≤(57:Int))) (True∧Q (.v .bool (V.b true)) []) (iff (a0 == (95:Int)) (True∧Q (.v .bool (V.b true)) []) (True∧Q (.v .bool (V.b (a0 == (39:Int)))) []))) (iff (a0 == (95:Int)) (True∧Q (.v .bool (V.b true)) []) (True∧Q (.v .bool (V.b (a0 == (39:Int)))) [])))) (iff (decide (a0≥(48:Int))) (iff (decide (a0≤(57:Int))) (True∧Q (.v .bool (V.b true)) []) (iff (a0 == (95:Int)) (True∧Q (.v .bool (V.b true)) []) (True∧Q (.v .bool (V.b (a0 == (39:Int)))) []))) (iff (a0 == (95:Int)) (True∧Q (.v .bool (V.b true)) []) (True∧Q (.v .bool (V.b (a0 == (39:Int)))) []))))) (iff (decide (a0≥(65:Int))) (iff (decide (a0≤(90:Int))) (True∧Q (.v .bool (V.b true)) []) (iff (decide (a0≥(48:Int))) (iff (decide (a0≤(57:Int))) (True∧Q (.v .bool (V.b true)) []) (iff (a0 == (95:Int)) (True∧Q (.v .bool (V.b true)) []) (True∧Q (.v .bool (V.b (a0 == (39:Int)))) []))) (iff (a0 == (95:Int)) (True∧Q (.v .bool (V.b true)) []) (True∧Q (.v .bool (V.b (a0 == (39:Int)))) [])))) (iff (decide (a0≥(48:Int))) (iff (decide (a0≤(57:Int))) (True∧Q (.v .bool (V.b true)) []) (iff (a0 == (95:Int)) (True∧Q (.v .bool (V.b true)) []) (True∧Q (.v .bool (V.b (a0 == (39:Int)))) []))) (iff (a0 == (95:Int)) (True∧Q (.v .bool (V.b true)) []) (True∧Q (.v .bool (V.b (a0 == (39:Int)))) []))))
theorem ZlG (a0:Int) (Q:QD) (h:ZhC a0 Q):cl ZfI [.v (.int .u8) (V.i a0)] [] Q :=
 acalls2 (E:=Zkz) (envOk _ _ _ _ _) 0 Tryz.func160 (by kernel_rfl) h
def Zy:Env:=envA [(2,ua 4 3 (ua 9 10 ([.dead 16])))] [] [] [] []
def Zcs (Q:QD):Post:=blockK 0 (seqJ Zy (fnAt [1,1] Tryz.f192) (endK Zy Tryz.f192 Q))
@[irreducible] def Zw (Q:QD) (m0:Nat) (x0:LL) (x7 x8:Int) (h0_0:V):Prop :=
 iter (adj (Zy.adj 2)) (evCode Zy (fnAt [1,0,1,0,0] Tryz.f192)) (Zcs Q) m0 ⟨(.v (.sl Zb) (V.l x0))::(.fn Zad [.ptr (.own 0) 0])::sk 2 (un 3 ((.v (.int .i64) (V.i x7))::(.v (.int .i64) (V.i x8))::un 10 ([]))),dd 19 ([])⟩ [.cells [.v (.sl Zb) (h0_0)]]
def Zcv (Q:QD) (m0:Nat) (x0:LL) (x7 x8:Int) (h0_0:V):Prop :=
 iff (decide (x8<x7)) (0≤x8∧x8<x0.length∧cl Zad [.v .str (((x0.getD x8.toNat []).drop 0).headD V.none),.ptr (.own 0) 0] [.cells [.v (.sl Zb) (h0_0)]] fun r1 H2=>r1=(.v .bool (r1.V))∧H2=[.cells [.v (.sl Zb) ((((H2.headD .dead).cs).headD .undef).V)]]∧iff r1.V.bool (True∧Q (.v (.int .i64) (V.i x8)) [.cells [.v (.sl Zb) ((((H2.headD .dead).cs).headD .undef).V)]]) (Zw Q m0 x0 x7 (IntKind.i64.wrap (x8+(1:Int))) ((((H2.headD .dead).cs).headD .undef).V))) (True∧Q (.v (.int .i64) (V.i (-1))) [.cells [.v (.sl Zb) (h0_0)]])
theorem Zb2 (Q:QD) (m0:Nat) (x0:LL) (x7 x8:Int) (h0_0:V):Zw Q (m0+1) x0 x7 x8 h0_0=Zcv Q m0 x0 x7 x8 h0_0:=by kernel_rfl
theorem ZbK (Q:QD) (x0:LL) (n:Nat) (hb:n≤big) (J:Nat→V→Prop)
  (step:∀ (k:Nat) (h0_0:V),k<n→J k h0_0→∀ K:V→Prop,(∀ (h0_0':V),J (k+1) h0_0'→K h0_0')→(0≤(k:Int)∧(k:Int)<x0.length∧cl Zad [.v .str (((x0.getD k []).drop 0).headD V.none),.ptr (.own 0) 0] [.cells [.v (.sl Zb) (h0_0)]] fun r1 H2=>r1=(.v .bool (r1.V))∧H2=[.cells [.v (.sl Zb) ((((H2.headD .dead).cs).headD .undef).V)]]∧iff r1.V.bool (True∧Q (.v (.int .i64) (V.i (k:Int))) [.cells [.v (.sl Zb) ((((H2.headD .dead).cs).headD .undef).V)]]) (K ((((H2.headD .dead).cs).headD .undef).V))))
  (last:∀ (h0_0:V),J n h0_0→(True∧Q (.v (.int .i64) (V.i (-1))) [.cells [.v (.sl Zb) (h0_0)]]))
  (k:Nat) (h0_0:V) (le0:k≤n) (hj:J k h0_0):∃ m0,Zw Q m0 x0 (n:Int) ((k:Int)) h0_0:=by
 exact rangeG1 n hb J (fun m0 i h0_0=>Zw Q m0 x0 (n:Int) i h0_0) (fun m0 i h0_0=>Zb2 Q m0 x0 (n:Int) i h0_0) (fun k h0_0 hl_ hj_ m_ ih_=>step k h0_0 hl_ hj_ _ ih_) last k h0_0 le0 hj
def ZcP (a0 h0_0:LL) (Q:QD):Prop :=
 (a0.length≤big→∃ m0,Zw Q m0 a0 ((a0.length:Int)) 0 (V.l h0_0))
theorem Zdi (a0 h0_0:LL) (Q:QD) (h:ZcP a0 h0_0 Q):cl Zbj [.v (.sl Zb) (V.l a0),.fn Zad [.ptr (.own 0) 0]] [.cells [.v (.sl Zb) (V.l h0_0)]] Q :=
 acalls2 (E:=Zy) (envOk _ _ _ _ _) 0 Tryz.func192 (by kernel_rfl) h
def Zcx:Env:=envA [(12,ua 0 2 (ua 4 10 (ua 16 7 (ua 24 9 (ua 34 2 (ua 38 17 ([.dead 50])))))))] [(14,10,[],[])] [] [] []
def ZjZ (Q:QD):Post:=blockK 0 (seqJ Zcx (fnAt [1,1,1,1,1] Tryz.f205) (endK Zcx Tryz.f205 Q))
@[irreducible] def ZbH (Q:QD) (m0:Nat) (x36 x37:Int) (y2_0:ByteArray) (y2_1:Bool) (y2_2:LL) (y3_0:ByteArray) (y3_1:Bool) (y3_2:LL):Prop :=
 iter (adj (Zcx.adj 12)) (evCode Zcx (fnAt [1,1,1,1,0,1,0,0] Tryz.f205)) (ZjZ Q) m0 ⟨un 2 ((.ptr (.loc 2) 0)::(.ptr (.loc 3) 0)::un 10 (sk 2 (un 7 (.skip::un 9 (.skip::un 2 ((.v (.int .i64) (V.i x36))::(.v (.int .i64) (V.i x37))::un 17 ([]))))))),dd 2 ((.cells [.v .str (V.s y2_0),.v .bool (V.b y2_1),.v (.sl Za) (V.l y2_2)])::(.cells [.v .str (V.s y3_0),.v .bool (V.b y3_1),.v (.sl Za) (V.l y3_2)])::dd 51 ([]))⟩ []
def Zkj (Q:QD) (m0:Nat) (x36 x37:Int) (y2_0:ByteArray) (y2_1:Bool) (y2_2:LL) (y3_0:ByteArray) (y3_1:Bool) (y3_2:LL):Prop :=
 iff (decide (x37<x36)) (0≤x37∧x37<y2_2.length∧0≤x37∧x37<y3_2.length∧cl ZdE [.agg [.v .str (((y2_2.getD x37.toNat []).drop 0).headD V.none),.v .bool ((((y2_2.getD x37.toNat []).drop 0).tail).headD V.none),.v (.sl Za) (((((y2_2.getD x37.toNat []).drop 0).tail).tail).headD V.none)],.agg [.v .str (((y3_2.getD x37.toNat []).drop 0).headD V.none),.v .bool ((((y3_2.getD x37.toNat []).drop 0).tail).headD V.none),.v (.sl Za) (((((y3_2.getD x37.toNat []).drop 0).tail).tail).headD V.none)]] [] fun r1 H2=>r1=(.v (.int .i64) (r1.V))∧H2=[]∧iff (r1.V.int != (0:Int)) (True∧Q (.v (.int .i64) (r1.V)) []) (ZbH Q m0 x36 (IntKind.i64.wrap (x37+(1:Int))) y2_0 y2_1 y2_2 y3_0 y3_1 y3_2)) (True∧Q (.v (.int .i64) (V.i 0)) [])
theorem ZiQ (Q:QD) (m0:Nat) (x36 x37:Int) (y2_0:ByteArray) (y2_1:Bool) (y2_2:LL) (y3_0:ByteArray) (y3_1:Bool) (y3_2:LL):ZbH Q (m0+1) x36 x37 y2_0 y2_1 y2_2 y3_0 y3_1 y3_2=Zkj Q m0 x36 x37 y2_0 y2_1 y2_2 y3_0 y3_1 y3_2:=by kernel_rfl
theorem Zh1 (Q:QD) (y2_0:ByteArray) (y2_1:Bool) (y2_2:LL) (y3_0:ByteArray) (y3_1:Bool) (y3_2:LL) (n:Nat) (hb:n≤big) (J:Nat→Prop)
  (step:∀ (k:Nat),k<n→J k→∀ K:Prop,(J (k+1)→K)→(0≤(k:Int)∧(k:Int)<y2_2.length∧0≤(k:Int)∧(k:Int)<y3_2.length∧cl ZdE [.agg [.v .str (((y2_2.getD k []).drop 0).headD V.none),.v .bool ((((y2_2.getD k []).drop 0).tail).headD V.none),.v (.sl Za) (((((y2_2.getD k []).drop 0).tail).tail).headD V.none)],.agg [.v .str (((y3_2.getD k []).drop 0).headD V.none),.v .bool ((((y3_2.getD k []).drop 0).tail).headD V.none),.v (.sl Za) (((((y3_2.getD k []).drop 0).tail).tail).headD V.none)]] [] fun r1 H2=>r1=(.v (.int .i64) (r1.V))∧H2=[]∧iff (r1.V.int != (0:Int)) (True∧Q (.v (.int .i64) (r1.V)) []) (K)))
  (last:J n→(True∧Q (.v (.int .i64) (V.i 0)) []))
  (k:Nat) (le0:k≤n) (hj:J k):∃ m0,ZbH Q m0 (n:Int) ((k:Int)) y2_0 y2_1 y2_2 y3_0 y3_1 y3_2:=by
 exact rangeG0 n hb J (fun m0 i=>ZbH Q m0 (n:Int) i y2_0 y2_1 y2_2 y3_0 y3_1 y3_2) (fun m0 i=>ZiQ Q m0 (n:Int) i y2_0 y2_1 y2_2 y3_0 y3_1 y3_2) (fun k hl_ hj_ m_ ih_=>step k hl_ hj_ _ ih_) last k le0 hj
def ZhB (a0_0:ByteArray) (a0_1:Bool) (a0_2:LL) (a1_0:ByteArray) (a1_1:Bool) (a1_2:LL) (Q:QD):Prop :=
 iff (!(a0_1 == a1_1)) (iff a0_1 (True∧Q (.v (.int .i64) (V.i (-1))) []) (True∧Q (.v (.int .i64) (V.i 1)) [])) (cl Zcb [.v .str (V.s a0_0),.v .str (V.s a1_0)] [] fun r1 H2=>r1=(.v (.int .i64) (r1.V))∧H2=[]∧iff (r1.V.int != (0:Int)) (True∧Q (.v (.int .i64) (r1.V)) []) ((a0_2.length≤big→(a1_2.length≤big→cl ZQ [.v (.int .i64) (V.i ((a0_2.length:Int))),.v (.int .i64) (V.i ((a1_2.length:Int)))] [] fun r3 H4=>r3=(.v (.int .i64) (r3.V))∧H4=[]∧iff (r3.V.int != (0:Int)) (True∧Q (.v (.int .i64) (r3.V)) []) ((a0_2.length≤big→∃ m0,ZbH Q m0 ((a0_2.length:Int)) 0 a0_0 a0_1 a0_2 a1_0 a1_1 a1_2))))))
theorem Zl1 (a0_0:ByteArray) (a0_1:Bool) (a0_2:LL) (a1_0:ByteArray) (a1_1:Bool) (a1_2:LL) (Q:QD) (h:ZhB a0_0 a0_1 a0_2 a1_0 a1_1 a1_2 Q):cl ZdE [.agg [.v .str (V.s a0_0),.v .bool (V.b a0_1),.v (.sl Za) (V.l a0_2)],.agg [.v .str (V.s a1_0),.v .bool (V.b a1_1),.v (.sl Za) (V.l a1_2)]] [] Q :=
 acalls2 (E:=Zcx) (envOk _ _ _ _ _) 0 Tryz.func205 (by kernel_rfl) h
def Zke:Env:=envA [] [] [] [] []
def Zgv (a0:ByteArray) (h0_0:LL) (Q:QD):Prop :=
 cl Zbr [.v (.sl Zb) (V.l h0_0),.v .str (V.s a0)] [] fun r1 H2=>r1=(.v .bool (r1.V))∧H2=[]∧True∧Q (.v .bool (V.b (!r1.V.bool))) [.cells [.v (.sl Zb) (V.l h0_0)]]
theorem Zls (a0:ByteArray) (h0_0:LL) (Q:QD) (h:Zgv a0 h0_0 Q):cl Zad [.v .str (V.s a0),.ptr (.own 0) 0] [.cells [.v (.sl Zb) (V.l h0_0)]] Q :=
 acalls2 (E:=Zke) (envOk _ _ _ _ _) 0 Tryz.func166 (by kernel_rfl) h
def Ze0:Env:=envA [] [] [] [] []
def Zdg (a0:LL) (a1:ByteArray) (Q:QD):Prop :=
 cl Zcp [.v (.sl Zb) (V.l a0),.v .str (V.s a1)] [] fun r1 H2=>r1=(.v (.int .i64) (r1.V))∧H2=[]∧True∧Q (.v .bool (V.b (decide (r1.V.int≥(0:Int))))) []
theorem Zfv (a0:LL) (a1:ByteArray) (Q:QD) (h:Zdg a0 a1 Q):cl Zbr [.v (.sl Zb) (V.l a0),.v .str (V.s a1)] [] Q :=
 acalls2 (E:=Ze0) (envOk _ _ _ _ _) 0 Tryz.func167 (by kernel_rfl) h
def Zag:Env:=envA [(2,ua 4 3 (ua 9 10 ([])))] [] [] [] []
def Zfq (Q:QD):Post:=blockK 0 (seqJ Zag (fnAt [1,1] Tryz.f193) (endK Zag Tryz.f193 Q))
@[irreducible] def Zae (Q:QD) (m0:Nat) (x0:LL) (x1:ByteArray) (x7 x8:Int):Prop :=
 iter (adj (Zag.adj 2)) (evCode Zag (fnAt [1,0,1,0,0] Tryz.f193)) (Zfq Q) m0 ⟨(.v (.sl Zb) (V.l x0))::(.v .str (V.s x1))::sk 2 (un 3 ((.v (.int .i64) (V.i x7))::(.v (.int .i64) (V.i x8))::un 10 ([]))),dd 19 ([])⟩ []
def Zfr (Q:QD) (m0:Nat) (x0:LL) (x1:ByteArray) (x7 x8:Int):Prop :=
 iff (decide (x8<x7)) (0≤x8∧x8<x0.length∧iff (x1.toList == ((((x0.getD x8.toNat []).drop 0).headD V.none).str).toList) (True∧Q (.v (.int .i64) (V.i x8)) []) (Zae Q m0 x0 x1 x7 (IntKind.i64.wrap (x8+(1:Int))))) (True∧Q (.v (.int .i64) (V.i (-1))) [])
theorem Ze2 (Q:QD) (m0:Nat) (x0:LL) (x1:ByteArray) (x7 x8:Int):Zae Q (m0+1) x0 x1 x7 x8=Zfr Q m0 x0 x1 x7 x8:=by kernel_rfl
theorem ZeT (Q:QD) (x0:LL) (x1:ByteArray) (n:Nat) (hb:n≤big) (J:Nat→Prop)
  (step:∀ (k:Nat),k<n→J k→∀ K:Prop,(J (k+1)→K)→(0≤(k:Int)∧(k:Int)<x0.length∧iff (x1.toList == ((((x0.getD k []).drop 0).headD V.none).str).toList) (True∧Q (.v (.int .i64) (V.i (k:Int))) []) (K)))
  (last:J n→(True∧Q (.v (.int .i64) (V.i (-1))) []))
  (k:Nat) (le0:k≤n) (hj:J k):∃ m0,Zae Q m0 x0 x1 (n:Int) ((k:Int)):=by
 exact rangeG0 n hb J (fun m0 i=>Zae Q m0 x0 x1 (n:Int) i) (fun m0 i=>Ze2 Q m0 x0 x1 (n:Int) i) (fun k hl_ hj_ m_ ih_=>step k hl_ hj_ _ ih_) last k le0 hj
def Zf8 (a0:LL) (a1:ByteArray) (Q:QD):Prop :=
 (a0.length≤big→∃ m0,Zae Q m0 a0 a1 ((a0.length:Int)) 0)
theorem Zgt (a0:LL) (a1:ByteArray) (Q:QD) (h:Zf8 a0 a1 Q):cl Zcp [.v (.sl Zb) (V.l a0),.v .str (V.s a1)] [] Q :=
 acalls2 (E:=Zag) (envOk _ _ _ _ _) 0 Tryz.func193 (by kernel_rfl) h
end Go.Proofs.YthhnadeoioeniaaGreat
set_option linter.unusedSimpArgs false
namespace Go.Proofs.YthhnadeoioeniaaGreat
open Go.Abs
theorem r01_letter_ok (c:Int):Fn Ze9 [uD c] (bD (letterB c)):=by
 intro Q hQ
 refine Zmc _ _ ?_
 have key:∀ b,b=letterB c→True∧Q (bD b) []:=by rintro _ rfl; exact ⟨trivial,hQ⟩
 unfold Zin
 repeat' (first | (refine iff_dec (fun _=>?_) (fun _=>?_)) | (refine iff_beq (fun _=>?_) (fun _=>?_)))
 all_goals
  refine key _ ?_
  unfold letterB
  rw [Bool.eq_iff_iff]
  simp only [decide_eq_true_iff,beq_iff_eq,true_iff]
  omega
theorem r01_CompareInts_ok (a b:Int):Fn ZQ [iD a,iD b] (iD (if a<b then -1 else if b<a then 1 else 0)):=by
 intro Q hQ
 refine Zjy _ _ _ ?_
 unfold Ze3
 refine iff_dec (fun h=>?_) (fun h=>iff_dec (fun h2=>?_) (fun h2=>?_))
 ·rw [if_pos h] at hQ; exact ⟨trivial,hQ⟩
 ·rw [if_neg h,if_pos h2] at hQ; exact ⟨trivial,hQ⟩
 ·rw [if_neg h,if_neg h2] at hQ; exact ⟨trivial,hQ⟩
theorem r01_Letters_ok (s:ByteArray):Fn ZfN [sD s] (bD (lettersL s.data.toList)):=by
 intro Q hQ
 refine ZlM _ _ fun hb=>?_
 have hl:=ba_size s
 refine ZhI Q s s.size hb (fun k=>lettersL (s.data.toList.take k)=true) (fun k hk hJ K hK=>?_) (fun hJ=>?_) 0 (Nat.zero_le _) rfl
 ·refine ⟨by omega,by omega,r01_letter_ok _ _ ⟨rfl,rfl,?_⟩⟩
  have hk':k<s.data.toList.length:=by omega
  have e:s.data.toList.getD k 0=s.data.toList[k]:=by rw [List.getD_eq_getElem?_getD,List.getElem?_eq_getElem hk']; rfl
  rw [e]
  refine iff_not (iff_intro (fun h=>hK ?_) (fun h=>⟨trivial,?_⟩))
  ·rw [List.take_succ_eq_append_getElem hk']
   have h':letterB (s.data.toList[k].toNat:Int)=true:=h
   simp only [lettersL,List.all_append,Bool.and_eq_true] at hJ ⊢
   exact ⟨hJ,by rw [List.all_cons,List.all_nil,h']; rfl⟩
  ·have:lettersL s.data.toList=false:=by
    rw [← Bool.not_eq_true]
    intro ha
    have:=List.all_eq_true.1 ha _ (List.getElem_mem hk')
    have h':letterB (s.data.toList[k].toNat:Int)=false:=h
    rw [h'] at this; cases this
   rw [this] at hQ; exact hQ
 ·rw [List.take_of_length_le (by omega)] at hJ
  rw [hJ] at hQ
  exact ⟨trivial,hQ⟩
theorem r01_Marked_ok (s:ByteArray):Fn Zgm [sD s] (bD (markedL s.data.toList)):=by
 intro Q hQ
 refine Zmi _ _ ?_
 unfold ZiW
 have hl:=ba_size s
 rw [ba_beq]
 refine iff_not (iff_dec (fun h=>?_) (fun h hb=>?_))
 ·subst h
  exact ⟨trivial,hQ⟩
 ·rw [ba_nil] at h
  rw [wrap_in _ (by omega) (by rw [big_eq] at hb; omega)]
  have e1:((s.size:Int) - 1).toNat=s.data.toList.length - 1:=by omega
  refine ⟨by omega,by omega,trivial,?_⟩
  have:(((s.data.toList.getD ((s.size:Int) - 1).toNat 0).toNat:Int) == 35)=markedL s.data.toList:=by
   rw [e1]
   unfold markedL
   rw [List.getLast?_eq_getElem?,Bool.eq_iff_iff,decide_eq_true_iff,beq_iff_eq,List.getD_eq_getElem?_getD]
   have hk:s.data.toList.length - 1<s.data.toList.length:=by omega
   rw [List.getElem?_eq_getElem hk]
   simp only [Option.getD_some,Option.some.injEq]
   constructor
   ·intro h2
    apply UInt8.toNat_inj.1
    show _=35
    omega
   ·rintro h2; rw [h2]; rfl
  rw [this]
  exact hQ
theorem r01_IsName_ok (s:ByteArray) (m:Bool):Fn Ze5 [sD s,bD m] (bD (nameOk s m)):=by
 intro Q hQ
 refine Zl4 _ _ _ fun hb=>?_
 rw [big_eq] at hb
 have hl:=ba_size s
 have last:∀ x:ByteArray,nameOk s m=(decide (0<x.size)&&lettersL x.data.toList)→ZdK Q x:=fun x hx=>by
  rw [Zjj]
  unfold ZgB
  rw [ba_beq]
  refine iff_not (iff_dec (fun h=>⟨trivial,?_⟩) (fun h=>r01_Letters_ok x _ ⟨rfl,rfl,trivial,?_⟩))
  ·rw [ba_nil] at h
   rw [hx] at hQ
   simpa [h] using hQ
  ·rw [ba_nil] at h
   rw [hx] at hQ
   have h0:0<x.size:=by omega
   simp only [h0,decide_true,Bool.true_and] at hQ
   exact hQ
 have mid:∀ b:Bool,b=(m&&markedL s.data.toList)→s.size≤24→ZdF Q s (.b b):=fun b hbm hs=>by
  rw [ZjG]
  unfold Zgw
  refine iff_intro (fun h _=>?_) (fun h=>last s ?_)
  ·have hbt:b=true:=h
   rw [hbt] at hbm
   have hmk:markedL s.data.toList=true:=by
    cases hmm:markedL s.data.toList with
    | true=>rfl
    | false=>rw [hmm] at hbm; simp at hbm
   have hne:s.data.toList≠[]:=by
    intro h0
    rw [h0] at hmk
    simp [markedL] at hmk
   have hpos:0<s.data.toList.length:=List.length_pos_iff.2 hne
   rw [wrap_in _ (by omega) (by omega)]
   refine ⟨by omega,by omega,by omega,last _ ?_⟩
   have hx:=extract_list s (0:Int).toNat ((s.size:Int) - 1).toNat
   have hxs:(s.extract (0:Int).toNat ((s.size:Int) - 1).toNat).size=s.size - 1:=by
    rw [← ba_size,hx]; simp
   have e1:((s.size:Int) - 1).toNat=s.data.toList.length - 1:=by omega
   rw [hx,hxs,e1]
   unfold nameOk
   rw [← hbm]
   have h1:decide (1<s.size)=decide (0<s.size - 1):=by
    rw [Bool.eq_iff_iff]; simp only [decide_eq_true_iff]; omega
   simp [hs,h1,List.dropLast_eq_take]
  ·have hbf:b=false:=h
   unfold nameOk
   rw [← hbm,hbf]
   simp [hs]
 refine iff_dec (fun h=>⟨trivial,?_⟩) (fun h=>iff_intro (fun hm=>r01_Marked_ok s _ ⟨rfl,rfl,mid _ ?_ (by omega)⟩) (fun hm=>mid _ ?_ (by omega)))
 ·have:nameOk s m=false:=by unfold nameOk; simp; intro h2; omega
  rw [this] at hQ; exact hQ
 ·rw [hm]; rfl
 ·rw [hm]; rfl
end Go.Proofs.YthhnadeoioeniaaGreat
namespace Go.Proofs.YthhnadeoioeniaaGreat
open Go.Abs
def small:Nat:=1152921504606846976
theorem small_eq:small=1152921504606846976:=rfl
theorem r01_Formed_ok:∀ t:Tm,Fn Zeq [tD t] (bD t.formed):=Tm.ind fun t ih Q hQ=>by
 refine Zms _ _ _ _ ?_
 unfold Zit
 have hl:=Tm.encL_length t.args
 have hf:=Tm.formed_eq t
 have key:∀ b,b=t.formed→True∧Q (bD b) []:=by rintro _ rfl; exact ⟨trivial,hQ⟩
 refine iff_intro (fun hv=>?_) (fun hv=>?_)
 ·rw [hv,if_pos rfl] at hf
  refine r01_IsName_ok _ _ _ ⟨rfl,rfl,iff_intro (fun h _=>key _ ?_) (fun h=>key _ ?_)⟩
  ·have h':nameOk t.name false=true:=h
   rw [hf,h',hl,Bool.true_and,Bool.eq_iff_iff,beq_iff_eq,List.isEmpty_iff]
   constructor
   ·intro h0; exact List.eq_nil_of_length_eq_zero (by omega)
   ·intro h0; rw [h0]; rfl
  ·have h':nameOk t.name false=false:=h
   rw [hf,h']; rfl
 ·rw [hv,if_neg (by simp)] at hf
  refine r01_IsName_ok _ _ _ ⟨rfl,rfl,iff_not (iff_intro (fun h hb=>?_) (fun h=>key _ ?_))⟩
  ·have h':nameOk t.name true=true:=h
   rw [h',Bool.true_and] at hf
   rw [hl] at hb ⊢
   refine iff_dec (fun h8=>key _ ?_) (fun h8=>?_)
   ·rw [hf,decide_eq_false (by omega)]; rfl
   ·rw [decide_eq_true (by omega),Bool.true_and] at hf
    rw [Zjf]
    intro hb2
    rw [hl]
    refine ZiH Q _ _ hb (fun k=>(t.args.take k).all Tm.formed=true) (fun k hk hJ K hK=>?_) (fun hJ=>?_) 0 (Nat.zero_le _) rfl
    ·simp only [Tm.encL_getD _ k hk,Tm.enc_eq,List.drop_zero,List.headD_cons,List.tail_cons]
     refine ⟨by omega,by omega,ih _ (List.getElem_mem hk) _ ⟨rfl,rfl,iff_not (iff_intro (fun h=>hK ?_) (fun h=>key _ ?_))⟩⟩
     ·have h2:(t.args[k]).formed=true:=h
      rw [List.take_succ_eq_append_getElem hk,List.all_append,hJ,List.all_cons,List.all_nil,h2]; rfl
     ·have h2:(t.args[k]).formed=false:=h
      rw [hf]
      symm
      rw [← Bool.not_eq_true]
      intro ha
      have:=List.all_eq_true.1 ha _ (List.getElem_mem hk)
      rw [h2] at this; cases this
    ·rw [List.take_length] at hJ
     exact key _ (by rw [hf,hJ])
  ·have h':nameOk t.name true=false:=h
   rw [hf,h']; rfl
theorem r01_Size_ok:∀ t:Tm,t.size≤small→Fn Zdq [tD t] (iD t.size):=Tm.ind fun t ih hB Q hQ=>by
 refine ZmQ _ _ _ _ fun hb=>?_
 have hl:=Tm.encL_length t.args
 have hs:=Tm.size_eq t
 rw [small_eq] at hB
 rw [hl] at hb ⊢
 refine Zkd Q _ _ hb (fun k n=>n=((1+Tm.sizeL (t.args.take k):Nat):Int)) (fun k n hk hJ K hK=>?_) (fun n hJ=>?_) 0 1 (Nat.zero_le _) rfl
 ·simp only [Tm.encL_getD _ k hk,Tm.enc_eq,List.drop_zero,List.headD_cons,List.tail_cons]
  have hm:=Tm.size_mem (List.getElem_mem hk)
  refine ⟨by omega,by omega,ih _ (List.getElem_mem hk) (by rw [small_eq]; omega) _ ⟨rfl,rfl,hK _ ?_⟩⟩
  have h1:=Tm.sizeL_take t.args k hk
  have h2:=Tm.sizeL_take_le t.args (k+1)
  subst hJ
  show IntKind.i64.wrap (_+((t.args[k]).size:Int))=_
  rw [wrap_in _ (by omega) (by omega)]
  omega
 ·rw [List.take_length] at hJ
  subst hJ
  rw [hs] at hQ
  exact ⟨trivial,hQ⟩
theorem r01_Depth_ok:∀ t:Tm,t.size≤small→Fn Zct [tD t] (iD t.depth):=Tm.ind fun t ih hB Q hQ=>by
 refine ZmF _ _ _ _ fun hb=>?_
 have hl:=Tm.encL_length t.args
 have hd:=Tm.depth_eq t
 have hds:=Tm.depth_le_size t
 rw [small_eq] at hB
 rw [hl] at hb ⊢
 refine Zjo Q _ _ hb (fun k n=>n=(Tm.depthL (t.args.take k):Int)) (fun k n hk hJ K hK=>?_) (fun n hJ=>?_) 0 0 (Nat.zero_le _) rfl
 ·simp only [Tm.encL_getD _ k hk,Tm.enc_eq,List.drop_zero,List.headD_cons,List.tail_cons]
  have hm:=Tm.size_mem (List.getElem_mem hk)
  refine ⟨by omega,by omega,ih _ (List.getElem_mem hk) (by rw [small_eq]; omega) _ ⟨rfl,rfl,hK _ ?_⟩⟩
  subst hJ
  show (if ((t.args[k]).depth:Int) > _ then ((t.args[k]).depth:Int) else _)=_
  rw [Tm.depthL_take t.args k hk]
  split <;> omega
 ·rw [List.take_length] at hJ
  subst hJ
  rw [wrap_in _ (by omega) (by omega)]
  rw [hd] at hQ
  exact ⟨trivial,hQ⟩
theorem r01_Check_ok (t:Tm) (hB:t.size≤small):Fn ZhF [tD t] (iD t.check):=fun Q hQ=>by
 refine ZmM _ _ _ _ ?_
 unfold ZjM
 unfold Tm.check at hQ
 refine r01_Formed_ok t _ ⟨rfl,rfl,iff_not (iff_intro (fun h=>?_) (fun h=>?_))⟩
 ·have h':t.formed=true:=h
  rw [h',if_pos rfl] at hQ
  refine r01_Size_ok t hB _ ⟨rfl,rfl,iff_dec (fun h2=>⟨trivial,?_⟩) (fun h2=>r01_Depth_ok t hB _ ⟨rfl,rfl,iff_dec (fun h3=>⟨trivial,?_⟩) (fun h3=>⟨trivial,?_⟩)⟩)⟩
  ·have h2:(t.size:Int) > 4000:=h2
   rw [if_neg (by omega)] at hQ; exact hQ
  ·have h3:(t.depth:Int) > 200:=h3
   rw [if_neg (by omega)] at hQ; exact hQ
  ·have h2:¬ (t.size:Int) > 4000:=h2
   have h3:¬ (t.depth:Int) > 200:=h3
   rw [if_pos (by omega)] at hQ; exact hQ
 ·have h':t.formed=false:=h
  rw [h',if_neg (by simp)] at hQ
  exact ⟨trivial,hQ⟩
theorem checkAll_take {l:List Tm} {k:Nat} (h:Tm.checkAll (l.take k)=0) (hk:k<l.length) (hn:(l[k]).check≠0):Tm.checkAll l=(l[k]).check:=by
 induction l generalizing k with
 | nil=>simp at hk
 | cons t r ih =>
  cases k with
  | zero=>simp only [List.getElem_cons_zero] at hn ⊢; simp only [Tm.checkAll]; rw [if_neg hn]
  | succ k =>
   simp only [List.take_succ_cons,Tm.checkAll] at h
   have h0:t.check=0:=by
    by_cases h0:t.check=0
    ·exact h0
    ·rw [if_neg h0] at h; exact h
   rw [if_pos h0] at h
   simp only [List.getElem_cons_succ] at hn ⊢
   simp only [Tm.checkAll]
   rw [if_pos h0]
   exact ih h (by simpa using hk) hn
theorem cmp_take:∀ (l m:List UInt8) (k:Nat),k≤l.length→k≤m.length→l.take k=m.take k→Lib.compareBytes l m=Lib.compareBytes (l.drop k) (m.drop k)
 | l,m,0,_,_,_=>by simp
 | a::l,b::m,k+1,h1,h2,h=>by
  simp only [List.take_succ_cons,List.cons.injEq] at h
  obtain ⟨rfl,h⟩:=h
  have h0:¬ a<a:=by rw [u8_lt]; omega
  simp only [Lib.compareBytes,if_neg h0,List.drop_succ_cons]
  exact cmp_take l m k (by simpa using h1) (by simpa using h2) h
 | [],_,k+1,h,_,_=>by simp at h
 | _::_,[],k+1,_,h,_=>by simp at h
theorem r01_CompareNames_ok (a b:ByteArray):Fn Zcb [sD a,sD b] (iD (cmpN a b)):=fun Q hQ=>by
 refine ZiK _ _ _ fun ha hb=>?_
 rw [big_eq] at ha hb
 have hla:=ba_size a
 have hlb:=ba_size b
 have e0:(if ((b.size:Int))<((a.size:Int)) then ((b.size:Int)) else ((a.size:Int)))=((min a.size b.size:Nat):Int):=by split <;> omega
 rw [e0]
 unfold cmpN at hQ
 generalize hx:a.data.toList=x at *
 generalize hy:b.data.toList=y at *
 refine Zfz Q a b _ (by rw [big_eq]; omega) (fun k=>x.take k=y.take k) (fun k hk hJ K hK=>?_) (fun hJ=>?_) 0 (Nat.zero_le _) rfl
 ·have hkx:k<x.length:=by omega
  have hky:k<y.length:=by omega
  have ex:x.getD k 0=x[k]:=by rw [List.getD_eq_getElem?_getD,List.getElem?_eq_getElem hkx]; rfl
  have ey:y.getD k 0=y[k]:=by rw [List.getD_eq_getElem?_getD,List.getElem?_eq_getElem hky]; rfl
  rw [hx,hy,ex,ey]
  have bx:=(x[k]).toNat_lt
  have by_:=(y[k]).toNat_lt
  refine ⟨by omega,by omega,by omega,by omega,iff_bne (fun h=>⟨by omega,by omega,by omega,by omega,r01_CompareInts_ok _ _ _ ⟨rfl,rfl,trivial,?_⟩⟩) (fun h=>hK ?_)⟩
  ·rw [wrap_in _ (by omega) (by omega),wrap_in _ (by omega) (by omega)]
   have:=cmp_take x y k (by omega) (by omega) hJ
   rw [List.drop_eq_getElem_cons hkx,List.drop_eq_getElem_cons hky] at this
   simp only [Lib.compareBytes,u8_lt] at this
   rw [this] at hQ
   by_cases h1:(x[k]).toNat<(y[k]).toNat
   ·rw [if_pos h1] at hQ; rw [if_pos (by omega)]; exact hQ
   ·rw [if_neg h1,if_pos (by omega)] at hQ; rw [if_neg (by omega),if_pos (by omega)]; exact hQ
  ·rw [List.take_succ_eq_append_getElem hkx,List.take_succ_eq_append_getElem hky,hJ]
   congr 1
   simp only [List.cons.injEq,and_true]
   apply UInt8.toNat_inj.1
   omega
 ·intro _ _
  refine r01_CompareInts_ok _ _ _ ⟨rfl,rfl,trivial,?_⟩
  have:=cmp_take x y (min a.size b.size) (by omega) (by omega) hJ
  rw [this] at hQ
  by_cases h1:a.size<b.size
  ·rw [if_pos (by omega)]
   rw [List.drop_eq_nil_of_le (by omega),show min a.size b.size=a.size by omega,List.drop_eq_getElem_cons (show a.size<y.length by omega)] at hQ
   exact hQ
  ·by_cases h2:b.size<a.size
   ·rw [if_neg (by omega),if_pos (by omega)]
    rw [show min a.size b.size=b.size by omega,List.drop_eq_nil_of_le (show y.length≤b.size by omega),List.drop_eq_getElem_cons (show b.size<x.length by omega)] at hQ
    exact hQ
   ·rw [if_neg (by omega),if_neg (by omega)]
    rw [List.drop_eq_nil_of_le (by omega),List.drop_eq_nil_of_le (by omega)] at hQ
    exact hQ
theorem cmpL_take:∀ (l m:List Tm) (k:Nat) (h1:k<l.length) (h2:k<m.length),(∀ i,(h:i<k)→Tm.cmp (l[i]'(by omega)) (m[i]'(by omega))=0)→Tm.cmpL l m=if Tm.cmp l[k] m[k]≠0 then Tm.cmp l[k] m[k] else Tm.cmpL (l.drop (k+1)) (m.drop (k+1))
 | a::l,b::m,0,_,_,_=>by simp [Tm.cmpL]
 | a::l,b::m,k+1,h1,h2,h=>by
  have h0:=h 0 (by omega)
  simp only [List.getElem_cons_zero] at h0
  simp only [Tm.cmpL]
  rw [if_neg (by simp [h0])]
  simp only [List.getElem_cons_succ,List.drop_succ_cons]
  exact cmpL_take l m k (by simpa using h1) (by simpa using h2) fun i hi=>by
   have:=h (i+1) (by omega)
   simpa using this
 | [],_,_,h,_,_=>by simp at h
 | _::_,[],_,_,h,_=>by simp at h
theorem cmpL_all:∀ (l m:List Tm),l.length=m.length→(∀ i (h:i<l.length) (h':i<m.length),Tm.cmp l[i] m[i]=0)→Tm.cmpL l m=0
 | [],[],_,_=>by simp [Tm.cmpL]
 | a::l,b::m,hl,h=>by
  have h0:=h 0 (by simp) (by simp)
  simp only [List.getElem_cons_zero] at h0
  simp only [Tm.cmpL]
  rw [if_neg (by simp [h0])]
  exact cmpL_all l m (by simpa using hl) fun i h1 h2=>by
   have:=h (i+1) (by simpa using h1) (by simpa using h2)
   simpa using this
 | [],_::_,h,_=>by simp at h
 | _::_,[],h,_=>by simp at h
theorem r01_Compare_ok:∀ (a b:Tm),Fn ZdE [tD a,tD b] (iD (Tm.cmp a b)):=Tm.ind fun a ih b Q hQ=>by
 refine Zl1 _ _ _ _ _ _ _ ?_
 unfold ZhB
 rw [Tm.cmp_eq] at hQ
 have hla:=Tm.encL_length a.args
 have hlb:=Tm.encL_length b.args
 refine iff_not (iff_beq (fun h=>?_) (fun h=>?_))
 ·rw [if_neg (by simp [h])] at hQ
  refine r01_CompareNames_ok _ _ _ ⟨rfl,rfl,iff_bne (fun h2=>⟨trivial,?_⟩) (fun h2 ha hb=>?_)⟩
  ·have h2:cmpN a.name b.name≠0:=h2
   rw [if_pos h2] at hQ; exact hQ
  ·have h2:cmpN a.name b.name=0:=h2
   rw [if_neg (by simp [h2])] at hQ
   rw [hla,hlb]
   refine r01_CompareInts_ok _ _ _ ⟨rfl,rfl,iff_bne (fun h3=>⟨trivial,?_⟩) (fun h3 _=>?_)⟩
   ·have h3:Tm.cmpI a.args.length b.args.length≠0:=h3
    rw [if_pos h3] at hQ; exact hQ
   ·have h3:Tm.cmpI a.args.length b.args.length=0:=h3
    rw [if_neg (by simp [h3])] at hQ
    have h4:=Tm.cmpI_zero.1 h3
    rw [hla] at ha
    refine Zh1 Q _ _ _ _ _ _ _ ha (fun k=>∀ i (hi:i<k) (h1:i<a.args.length) (h2:i<b.args.length),Tm.cmp (a.args[i]) (b.args[i])=0) (fun k hk hJ K hK=>?_) (fun hJ=>?_) 0 (Nat.zero_le _) (fun i hi=>by omega)
    ·have hk2:k<b.args.length:=by omega
     simp only [Tm.encL_getD _ k hk,Tm.encL_getD _ k hk2,Tm.enc_eq,List.drop_zero,List.headD_cons,List.tail_cons]
     refine ⟨by omega,by omega,by omega,by omega,ih _ (List.getElem_mem hk) _ _ ⟨rfl,rfl,iff_bne (fun h5=>⟨trivial,?_⟩) (fun h5=>hK ?_)⟩⟩
     ·have h5:Tm.cmp (a.args[k]) (b.args[k])≠0:=h5
      rw [cmpL_take _ _ k hk hk2 (fun i hi=>hJ i hi _ _),if_pos h5] at hQ
      exact hQ
     ·intro i hi h6 h7
      rcases Nat.lt_succ_iff_lt_or_eq.1 hi with h8 | rfl
      ·exact hJ i h8 h6 h7
      ·exact h5
    ·rw [cmpL_all _ _ (by omega) (fun i h1 h2=>hJ i (by omega) h1 h2)] at hQ
     exact ⟨trivial,hQ⟩
 ·rw [if_pos h] at hQ
  refine iff_intro (fun hv=>⟨trivial,?_⟩) (fun hv=>⟨trivial,?_⟩)
  ·rw [hv,if_pos rfl] at hQ; exact hQ
  ·rw [hv,if_neg (by simp)] at hQ; exact hQ
theorem r01_Equal_ok (a b:Tm):Fn Zh4 [tD a,tD b] (bD (Tm.eqB a b)):=fun Q hQ=>by
 refine ZmI _ _ _ _ _ _ _ ?_
 unfold ZjK
 refine r01_Compare_ok a b _ ⟨rfl,rfl,trivial,?_⟩
 unfold Tm.eqB at hQ
 exact hQ
end Go.Proofs.YthhnadeoioeniaaGreat
namespace Go.Proofs.YthhnadeoioeniaaGreat
open Go.Abs
theorem Fn.as {f:FuncId} {args:List D} {r:D} (h:∀ Q:D→Heap→Prop,(∀ r0,As r0 r→Q r0 [])→cl f args [] Q):Fn f args r:=fun Q hQ =>
 ACalls.as (h _ fun r0 h0=>⟨r,h0,hQ⟩)
abbrev Su:=List (ByteArray×Tm)
def encB (x:ByteArray×Tm):List V:=.s x.1::x.2.enc
def encS (l:Su):List (List V):=l.map encB
abbrev suD (l:Su):D:=.v (.sl Z2) (.l (encS l))
theorem encS_length (l:Su):(encS l).length=l.length:=by simp [encS]
theorem encS_getD (l:Su) (k:Nat) (h:k<l.length):(encS l).getD k []=.s (l[k]).1::(l[k]).2.enc:=by
 rw [encS,List.getD_eq_getElem?_getD,List.getElem?_map,List.getElem?_eq_getElem h]; rfl
namespace Tm
def image (l:Su) (x:ByteArray):Tm:=match l with
 | []=>mk x true []
 | (y,t)::r=>if y=x then t else image r x
mutual
def app (l:Su):Tm→Tm | mk n v xs=>if v then image l n else mk n false (appL l xs)
def appL (l:Su):List Tm→List Tm | []=>[] | t::r=>app l t::appL l r
end
theorem app_eq (l:Su):∀ t:Tm,app l t=if t.var then image l t.name else mk t.name false (t.args.map (app l)):=by
 have:∀ xs,appL l xs=xs.map (app l):=by
  intro xs
  induction xs with
  | nil=>rfl
  | cons t r ih=>simp [appL,ih]
 intro t
 cases t with
 | mk n v xs =>
  show (if v then image l n else mk n false (appL l xs))=_
  rw [this]
  rfl
def fits (l:Su) (t:Tm):Bool:=decide ((app l t).size≤4000)&&decide ((app l t).depth≤200)
theorem image_take {l:Su} {x:ByteArray} {k:Nat} (hk:k<l.length) (h:∀ i (hi:i<k),(l[i]'(by omega)).1≠x) (he:(l[k]).1=x):image l x=(l[k]).2:=by
 induction l generalizing k with
 | nil=>simp at hk
 | cons y r ih =>
  cases k with
  | zero=>simp only [List.getElem_cons_zero] at he ⊢; simp only [image]; rw [if_pos he]
  | succ k =>
   have h0:=h 0 (by omega)
   simp only [List.getElem_cons_zero] at h0
   simp only [image]
   rw [if_neg h0]
   simp only [List.getElem_cons_succ] at he ⊢
   exact ih (by simpa using hk) (fun i hi=>by have:=h (i+1) (by omega); simpa using this) he
theorem image_none {l:Su} {x:ByteArray} (h:∀ i (hi:i<l.length),(l[i]).1≠x):image l x=mk x true []:=by
 induction l with
 | nil=>rfl
 | cons y r ih =>
  have h0:=h 0 (by simp)
  simp only [List.getElem_cons_zero] at h0
  simp only [image]
  rw [if_neg h0]
  exact ih fun i hi=>by have:=h (i+1) (by simpa using hi); simpa using this
end Tm
theorem r01_Image_ok (l:Su) (x:ByteArray):Fn ZeM [suD l,sD x] (tD (Tm.image l x)):=Fn.as fun Q hQ=>by
 refine ZmD _ _ _ fun hb=>?_
 have hl:=encS_length l
 rw [hl] at hb ⊢
 refine ZjF Q _ _ _ _ _ hb (fun k=>∀ i (hi:i<k) (h:i<l.length),(l[i]).1≠x) (fun k hk hJ K hK=>?_) (fun hJ=>?_) 0 (Nat.zero_le _) (fun i hi=>by omega)
 ·simp only [encS_getD _ k hk,Tm.enc_eq,List.drop_zero,List.headD_cons,List.tail_cons,V.str]
  refine ⟨by omega,by omega,?_⟩
  rw [ba_beq]
  refine iff_dec (fun h=>⟨⟨trivial,trivial,trivial,trivial⟩,?_⟩) (fun h=>hK ?_)
  ·rw [Tm.image_take hk (fun i hi=>hJ i hi _) h] at hQ
   exact hQ _ (.refl _)
  ·intro i hi h6
   rcases Nat.lt_succ_iff_lt_or_eq.1 hi with h8 | rfl
   ·exact hJ i h8 h6
   ·exact h
 ·refine ⟨⟨trivial,trivial,trivial,trivial⟩,?_⟩
  rw [Tm.image_none fun i hi=>hJ i hi hi] at hQ
  exact hQ _ (.last3 _ _ _)
theorem r01_Apply_ok (l:Su):∀ t:Tm,t.size≤lim→Fn ZeF [suD l,tD t] (tD (Tm.app l t)):=Tm.ind fun t ih hB Q hQ=>by
 refine Zmu _ _ _ _ _ ?_
 unfold ZjJ
 have ha:=Tm.app_eq l t
 refine iff_intro (fun h=>?_) (fun h hb=>?_)
 ·rw [h,if_pos rfl] at ha
  rw [ha] at hQ
  exact r01_Image_ok l _ _ ⟨rfl,rfl,⟨trivial,trivial,trivial,trivial⟩,hQ⟩
 ·rw [h,if_neg (by simp)] at ha
  have hl:=Tm.encL_length t.args
  rw [hl] at hb ⊢
  have hsz:=Tm.size_eq t
  have hls:=Tm.length_sizeL t.args
  refine Zjz Q _ _ _ _ _ _ _ hb (fun k n y=>n=k∧y=Tm.encL ((t.args.take k).map (Tm.app l))) (fun k n y hk hJ K hK=>?_) (fun n y hJ=>?_) 0 0 _ (Nat.zero_le _) ⟨rfl,rfl⟩
  ·simp only [Tm.encL_getD _ k hk,Tm.enc_eq,List.drop_zero,List.headD_cons,List.tail_cons]
   obtain ⟨rfl,rfl⟩:=hJ
   have hm:=Tm.size_mem (List.getElem_mem hk)
   refine ⟨by omega,by omega,tD (Tm.app l (t.args[n])),(ih _ (List.getElem_mem hk) (by omega)).here rfl,?_,?_,hK _ _ ⟨?_,?_⟩⟩
   ·rw [Tm.encL_length,List.length_map,List.length_take]; omega
   ·show n+1≤lim; omega
   ·rfl
   ·rw [List.take_succ_eq_append_getElem hk,List.map_append,Tm.encL_eq,Tm.encL_eq,List.map_append]
    congr 1
    simp only [List.map_cons,List.map_nil]
    rw [Tm.enc_eq]
    rfl
  ·obtain ⟨rfl,rfl⟩:=hJ
   rw [List.take_length]
   refine ⟨⟨trivial,trivial,?_,trivial⟩,?_⟩
   ·rw [Tm.encL_length,List.length_map]
   ·rw [ha] at hQ; exact hQ
theorem r01_Grown_ok (l:Su):∀ t:Tm,(Tm.app l t).size≤small→Fn ZeL [suD l,tD t] (.tup [iD (Tm.app l t).size,iD (Tm.app l t).depth]):=Tm.ind fun t ih hB Q hQ=>by
 refine Zmy _ _ _ _ _ ?_
 unfold ZjO
 have ha:=Tm.app_eq l t
 refine iff_intro (fun h=>?_) (fun h hb=>?_)
 ·rw [h,if_pos rfl] at ha
  rw [ha] at hQ hB
  exact r01_Image_ok l _ _ ⟨rfl,rfl,iD (Tm.image l t.name).size,(r01_Size_ok _ hB).here rfl,r01_Depth_ok _ hB _ ⟨rfl,rfl,⟨trivial,trivial,trivial⟩,hQ⟩⟩
 ·rw [h,if_neg (by simp)] at ha
  have hl:=Tm.encL_length t.args
  rw [hl] at hb ⊢
  have hs:(Tm.app l t).size=1+Tm.sizeL (t.args.map (Tm.app l)):=by rw [ha,Tm.size_eq]; rfl
  have hd:(Tm.app l t).depth=Tm.depthL (t.args.map (Tm.app l))+1:=by rw [ha,Tm.depth_eq]; rfl
  have hds:=Tm.depth_le_size (Tm.app l t)
  rw [small_eq] at hB
  rw [hs,hd] at hQ
  rw [hs] at hB hds
  rw [hd] at hds
  refine Zi7 Q _ _ _ hb (fun k n d=>n=((1+Tm.sizeL ((t.args.map (Tm.app l)).take k):Nat):Int)∧d=(Tm.depthL ((t.args.map (Tm.app l)).take k):Int)) (fun k n d hk hJ K hK=>?_) (fun n d hJ=>?_) 0 1 0 (Nat.zero_le _) ⟨rfl,rfl⟩
  ·simp only [Tm.encL_getD _ k hk,Tm.enc_eq,List.drop_zero,List.headD_cons,List.tail_cons]
   have hk':k<(t.args.map (Tm.app l)).length:=by simpa using hk
   have hm:=Tm.sizeL_mem (List.getElem_mem hk')
   have h1:=Tm.sizeL_take _ k hk'
   have h2:=Tm.sizeL_take_le (t.args.map (Tm.app l)) (k+1)
   have h3:=Tm.depthL_take _ k hk'
   rw [List.getElem_map] at hm h1 h3
   refine ⟨by omega,by omega,ih _ (List.getElem_mem hk) (by rw [small_eq]; omega) _ ⟨rfl,rfl,hK _ _ ⟨?_,?_⟩⟩⟩
   ·rw [hJ.1]
    show IntKind.i64.wrap (_+((Tm.app l (t.args[k])).size:Int))=_
    rw [wrap_in _ (by omega) (by omega)]
    omega
   ·rw [hJ.2]
    show (if ((Tm.app l (t.args[k])).depth:Int) > _ then ((Tm.app l (t.args[k])).depth:Int) else _)=_
    rw [h3]
    split <;> omega
  ·rw [List.take_of_length_le (by simp)] at hJ
   obtain ⟨rfl,rfl⟩:=hJ
   rw [wrap_in _ (by omega) (by omega)]
   exact ⟨⟨trivial,trivial,trivial⟩,hQ⟩
end Go.Proofs.YthhnadeoioeniaaGreat
namespace Go.Proofs.YthhnadeoioeniaaGreat
open Go.Abs
def bz:ByteArray:=ByteArray.mk #[]
def nameAt (m:Bool) (l:List ByteArray) (k:Nat):Bool:=nameOk (l.getD k bz) m&&(decide (k=0)||decide (cmpN (l.getD (k - 1) bz) (l.getD k bz) = -1))
def namesOk (m:Bool) (l:List ByteArray):Bool:=(List.range l.length).all (nameAt m l)
theorem namesOk_all {m:Bool} {l:List ByteArray} (h:∀ k,k<l.length→nameAt m l k=true):namesOk m l=true:=by
 unfold namesOk; rw [List.all_eq_true]; intro k hk; exact h k (by simpa using hk)
theorem namesOk_not {m:Bool} {l:List ByteArray} {k:Nat} (hk:k<l.length) (h:nameAt m l k=false):namesOk m l=false:=by
 rw [← Bool.not_eq_true]
 intro ha
 unfold namesOk at ha
 have:=(List.all_eq_true.1 ha) k (by simpa using hk)
 rw [h] at this; cases this
theorem namesOk_at {m:Bool} {l:List ByteArray} (h:namesOk m l=true) {k:Nat} (hk:k<l.length):nameAt m l k=true:=by
 unfold namesOk at h
 exact (List.all_eq_true.1 h) k (by simpa using hk)
def suNames (l:Su):List ByteArray:=l.map (·.1)
def suErr (l:Su):Int:=if namesOk false (suNames l) then Tm.checkAll (l.map (·.2)) else 4
end Go.Proofs.YthhnadeoioeniaaGreat
