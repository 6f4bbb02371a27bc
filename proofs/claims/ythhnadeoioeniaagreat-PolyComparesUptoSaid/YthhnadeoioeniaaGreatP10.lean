/-
  Texts V2, V3 of this proof, joined.
-/
import Derived.Test.YthhnadeoioeniaaGreatP9
set_option linter.unusedVariables false
set_option maxRecDepth 100000
namespace Go.Proofs.YthhnadeoioeniaaGreat
open Go.Abs
def Z6:Env:=envA [(4,ua 2 3 (ua 7 3 (ua 13 36 ([.dead 4,.dead 19,.dead 24,.dead 29,.dead 44])))),(10,(.undef 0)::ua 2 3 (ua 6 43 (ua 52 17 ([.dead 6,.dead 66]))))] [(6,27,[],[])] [] [] []
def ZjD (Q:QD):Post:=blockK 0 (seqJ Z6 (fnAt [1,1,1] Tryz.f62) (endK Z6 Tryz.f62 Q))
def Zjr (Q:QD):Post:=blockK 2 (seqJ Z6 (fnAt [1,1,1,1] Tryz.f62) (endK Z6 Tryz.f62 Q))
@[irreducible] def ZaO (Q:QD) (m1:Nat) (x49:LL) (x50 x51:Int):Prop :=
 iter (adj (Z6.adj 10)) (evCode Z6 (fnAt [1,1,1,0,1,0,0] Tryz.f62)) (Zjr Q) m1 ⟨.undef::.skip::un 3 (.skip::un 43 ((.v (.sl Zc) (V.l x49))::(.v (.int .i64) (V.i x50))::(.v (.int .i64) (V.i x51))::un 17 ([]))),dd 69 ([])⟩ []
@[irreducible] def ZaN (Q:QD) (m0:Nat) (x0 x10:LL) (x11 x12:Int):Prop :=
 iter (adj (Z6.adj 4)) (evCode Z6 (fnAt [1,1,0,1,0,0] Tryz.f62)) (ZjD Q) m0 ⟨(.v (.sl Zc) (V.l x0))::.skip::un 3 (sk 2 (un 3 ((.v (.sl Zc) (V.l x10))::(.v (.int .i64) (V.i x11))::(.v (.int .i64) (V.i x12))::un 36 (sk 20 ([]))))),dd 69 ([])⟩ []
def ZjF (Q:QD) (m1:Nat) (x49:LL) (x50 x51:Int):Prop :=
 iff (decide (x51<x50)) (0≤x51∧x51<x49.length∧iff (decide (((((x49.getD x51.toNat []).drop 0).headD V.none).int)<(1:Int))) (True∧Q (.v (.int .i64) (V.i 2)) []) (iff (decide (((((x49.getD x51.toNat []).drop 0).headD V.none).int) > (1048576:Int))) (True∧Q (.v (.int .i64) (V.i 2)) []) (cl ZaE [.v (.sl Zn) ((((x49.getD x51.toNat []).drop 0).tail).headD V.none),.fn ZI []] [] fun r1 H2=>r1=(.v .bool (r1.V))∧H2=[]∧iff r1.V.bool (True∧Q (.v (.int .i64) (V.i 2)) []) (ZaO Q m1 x49 x50 (IntKind.i64.wrap (x51+(1:Int))))))) (True∧Q (.v (.int .i64) (V.i 0)) [])
theorem ZhR (Q:QD) (m1:Nat) (x49:LL) (x50 x51:Int):ZaO Q (m1+1) x49 x50 x51=ZjF Q m1 x49 x50 x51:=by kernel_rfl
theorem Zha (Q:QD) (x49:LL) (n:Nat) (hb:n≤big) (J:Nat→Prop)
  (step:∀ (k:Nat),k<n→J k→∀ K:Prop,(J (k+1)→K)→(0≤(k:Int)∧(k:Int)<x49.length∧iff (decide (((((x49.getD k []).drop 0).headD V.none).int)<(1:Int))) (True∧Q (.v (.int .i64) (V.i 2)) []) (iff (decide (((((x49.getD k []).drop 0).headD V.none).int) > (1048576:Int))) (True∧Q (.v (.int .i64) (V.i 2)) []) (cl ZaE [.v (.sl Zn) ((((x49.getD k []).drop 0).tail).headD V.none),.fn ZI []] [] fun r1 H2=>r1=(.v .bool (r1.V))∧H2=[]∧iff r1.V.bool (True∧Q (.v (.int .i64) (V.i 2)) []) (K)))))
  (last:J n→(True∧Q (.v (.int .i64) (V.i 0)) []))
  (k:Nat) (le0:k≤n) (hj:J k):∃ m1,ZaO Q m1 x49 (n:Int) ((k:Int)):=by
 exact rangeG0 n hb J (fun m1 i=>ZaO Q m1 x49 (n:Int) i) (fun m1 i=>ZhR Q m1 x49 (n:Int) i) (fun k hl_ hj_ m_ ih_=>step k hl_ hj_ _ ih_) last k le0 hj
def Zjf (Q:QD) (m0:Nat) (x0 x10:LL) (x11 x12:Int):Prop :=
 iff (decide (x12<x11)) (0≤x12∧x12<x10.length∧iff (decide ((((((((x10.getD x12.toNat []).drop 0).tail).headD V.none).list).length:Int)) > (8:Int))) (True∧Q (.v (.int .i64) (V.i 4)) []) (0≤(0:Int)∧(0:Int)<x0.length∧iff ((((((((x10.getD x12.toNat []).drop 0).tail).headD V.none).list).length:Int)) != ((((((x0.getD ((0:Int)).toNat []).drop 1).headD V.none).list).length:Int))) (True∧Q (.v (.int .i64) (V.i 4)) []) (iff (decide (x12 > (0:Int))) (0≤(IntKind.i64.wrap (x12 - (1:Int)))∧(IntKind.i64.wrap (x12 - (1:Int)))<x0.length∧cl ZbC [.v (.sl Zn) (((x0.getD ((IntKind.i64.wrap (x12 - (1:Int)))).toNat []).drop 1).headD V.none),.v (.sl Zn) ((((x10.getD x12.toNat []).drop 0).tail).headD V.none)] [] fun r1 H2=>r1=(.v (.int .i64) (r1.V))∧H2=[]∧iff (decide (r1.V.int≥(0:Int))) (True∧Q (.v (.int .i64) (V.i 4)) []) (ZaN Q m0 x0 x10 x11 (IntKind.i64.wrap (x12+(1:Int))))) (ZaN Q m0 x0 x10 x11 (IntKind.i64.wrap (x12+(1:Int))))))) ((x0.length≤big→∃ m1,ZaO Q m1 x0 ((x0.length:Int)) 0))
theorem ZhT (Q:QD) (m0:Nat) (x0 x10:LL) (x11 x12:Int):ZaN Q (m0+1) x0 x10 x11 x12=Zjf Q m0 x0 x10 x11 x12:=by kernel_rfl
theorem ZgK (Q:QD) (x0 x10:LL) (n:Nat) (hb:n≤big) (J:Nat→Prop)
  (step:∀ (k:Nat),k<n→J k→∀ K:Prop,(J (k+1)→K)→(0≤(k:Int)∧(k:Int)<x10.length∧iff (decide ((((((((x10.getD k []).drop 0).tail).headD V.none).list).length:Int)) > (8:Int))) (True∧Q (.v (.int .i64) (V.i 4)) []) (0≤(0:Int)∧(0:Int)<x0.length∧iff ((((((((x10.getD k []).drop 0).tail).headD V.none).list).length:Int)) != ((((((x0.getD ((0:Int)).toNat []).drop 1).headD V.none).list).length:Int))) (True∧Q (.v (.int .i64) (V.i 4)) []) (iff (decide ((k:Int) > (0:Int))) (0≤(IntKind.i64.wrap ((k:Int) - (1:Int)))∧(IntKind.i64.wrap ((k:Int) - (1:Int)))<x0.length∧cl ZbC [.v (.sl Zn) (((x0.getD ((IntKind.i64.wrap ((k:Int) - (1:Int)))).toNat []).drop 1).headD V.none),.v (.sl Zn) ((((x10.getD k []).drop 0).tail).headD V.none)] [] fun r1 H2=>r1=(.v (.int .i64) (r1.V))∧H2=[]∧iff (decide (r1.V.int≥(0:Int))) (True∧Q (.v (.int .i64) (V.i 4)) []) (K)) (K)))))
  (last:J n→((x0.length≤big→∃ m1,ZaO Q m1 x0 ((x0.length:Int)) 0)))
  (k:Nat) (le0:k≤n) (hj:J k):∃ m0,ZaN Q m0 x0 x10 (n:Int) ((k:Int)):=by
 exact rangeG0 n hb J (fun m0 i=>ZaN Q m0 x0 x10 (n:Int) i) (fun m0 i=>ZhT Q m0 x0 x10 (n:Int) i) (fun k hl_ hj_ m_ ih_=>step k hl_ hj_ _ ih_) last k le0 hj
def Zly (a0:LL) (Q:QD):Prop :=
 (a0.length≤big→iff (decide (((a0.length:Int)) > (64:Int))) (True∧Q (.v (.int .i64) (V.i 3)) []) ((a0.length≤big→∃ m0,ZaN Q m0 a0 a0 ((a0.length:Int)) 0)))
theorem Zmd (a0:LL) (Q:QD) (h:Zly a0 Q):cl ZdM [.v (.sl Zc) (V.l a0)] [] Q :=
 acalls2 (E:=Z6) (envOk _ _ _ _ _) 0 Tryz.func62 (by kernel_rfl) h
def Za4:Env:=envA [(2,(.undef 0)::ua 6 2 ((.undef 9)::ua 15 24 ([.dead 9,.dead 26,.dead 34,.dead 53]))),(9,ua 0 2 (ua 6 2 ((.undef 9)::ua 12 40 ((.dead 48)::da 50 2 ([.ownT 10 53 Zc])))))] [(5,17,[],[])] [] [] []
def ZmQ (Q:QD):Post:=blockK 0 (seqJ Za4 (fnAt [1,1] Tryz.f64) (endK Za4 Tryz.f64 Q))
def Zm9 (Q:QD):Post:=blockK 2 (seqJ Za4 (fnAt [1,1,1,1] Tryz.f64) (endK Za4 Tryz.f64 Q))
@[irreducible] def Zdi (Q:QD) (m1:Nat) (x2:Int) (x10n:Nat) (x11:Int) (y53:LL):Prop :=
 iter (adj (Za4.adj 9)) (evCode Za4 (fnAt [1,1,1,0,1,0,0] Tryz.f64)) (Zm9 Q) m1 ⟨un 2 ((.v (.int .i64) (V.i x2))::sk 3 (un 2 (.skip::.undef::(.osl (.loc 53) x10n)::(.v (.int .i64) (V.i x11))::un 40 ([.skip])))),dd 53 ([.row Zc y53])⟩ []
@[irreducible] def Zda (Q:QD) (m0:Nat) (x1:ByteArray) (x2:Int) (x12:LL) (x13 x14:Int):Prop :=
 iter (adj (Za4.adj 2)) (evCode Za4 (fnAt [1,0,1,0,0] Tryz.f64)) (ZmQ Q) m0 ⟨.undef::(.v .str (V.s x1))::(.v (.int .i64) (V.i x2))::sk 3 (un 2 (.skip::.undef::sk 2 ((.v (.sl Zg) (V.l x12))::(.v (.int .i64) (V.i x13))::(.v (.int .i64) (V.i x14))::un 24 (sk 14 ([]))))),dd 54 ([])⟩ []
def ZfB (Q:QD) (m1:Nat) (x2:Int) (x10n:Nat) (x11:Int) (y53:LL):Prop :=
 iff (decide (x11≥(0:Int))) (cl ZfP [.v (.int .i64) (V.i x2),.v (.int .i64) (V.i x11)] [] fun r1 H2=>r1=(.v (.sl Zn) (r1.V))∧H2=[]∧y53.length=x10n∧x10n+([[V.i 1,r1.V]]).length≤lim∧Zdi Q m1 x2 (x10n+([[V.i 1,r1.V]]).length) (IntKind.i64.wrap (x11 - (1:Int))) (y53++([[V.i 1,r1.V]]))) (((x10n=y53.length)∧True∧True)∧Q (.tup [.v (.sl Zc) (V.l y53),.v .bool (V.b true)]) [])
theorem Zlk (Q:QD) (m1:Nat) (x2:Int) (x10n:Nat) (x11:Int) (y53:LL):Zdi Q (m1+1) x2 x10n x11 y53=ZfB Q m1 x2 x10n x11 y53:=by kernel_rfl
theorem Zk9 (Q:QD):RuleG4 (Zdi Q) (ZfB Q):=ruleG4 _ _ (Zlk Q)
def ZmN (Q:QD) (m0:Nat) (x1:ByteArray) (x2:Int) (x12:LL) (x13 x14:Int):Prop :=
 iff (decide (x14<x13)) (0≤x14∧x14<x12.length∧iff (((((x12.getD x14.toNat []).drop 0).headD V.none).str).toList == x1.toList) (iff ((((((((x12.getD x14.toNat []).drop 0).tail).headD V.none).list).length:Int)) == (0:Int)) ((True∧True∧True)∧Q (.tup [.v (.sl Zc) ((((x12.getD x14.toNat []).drop 0).tail).headD V.none),.v .bool (V.b true)]) []) (0≤(0:Int)∧(0:Int)<(((((x12.getD x14.toNat []).drop 0).tail).headD V.none).list).length∧(True∧True∧True)∧Q (.tup [.v (.sl Zc) ((((x12.getD x14.toNat []).drop 0).tail).headD V.none),.v .bool (V.b ((((((((((((x12.getD x14.toNat []).drop 0).tail).headD V.none).list).getD ((0:Int)).toNat []).drop 1).headD V.none).list).length:Int)) == x2))]) [])) (Zda Q m0 x1 x2 x12 x13 (IntKind.i64.wrap (x14+(1:Int))))) (∃ m1,Zdi Q m1 x2 0 (IntKind.i64.wrap (x2 - (1:Int))) (([]:List (List V))))
theorem Zlw (Q:QD) (m0:Nat) (x1:ByteArray) (x2:Int) (x12:LL) (x13 x14:Int):Zda Q (m0+1) x1 x2 x12 x13 x14=ZmN Q m0 x1 x2 x12 x13 x14:=by kernel_rfl
theorem ZkC (Q:QD) (x1:ByteArray) (x2:Int) (x12:LL) (n:Nat) (hb:n≤big) (J:Nat→Prop)
  (step:∀ (k:Nat),k<n→J k→∀ K:Prop,(J (k+1)→K)→(0≤(k:Int)∧(k:Int)<x12.length∧iff (((((x12.getD k []).drop 0).headD V.none).str).toList == x1.toList) (iff ((((((((x12.getD k []).drop 0).tail).headD V.none).list).length:Int)) == (0:Int)) ((True∧True∧True)∧Q (.tup [.v (.sl Zc) ((((x12.getD k []).drop 0).tail).headD V.none),.v .bool (V.b true)]) []) (0≤(0:Int)∧(0:Int)<(((((x12.getD k []).drop 0).tail).headD V.none).list).length∧(True∧True∧True)∧Q (.tup [.v (.sl Zc) ((((x12.getD k []).drop 0).tail).headD V.none),.v .bool (V.b ((((((((((((x12.getD k []).drop 0).tail).headD V.none).list).getD ((0:Int)).toNat []).drop 1).headD V.none).list).length:Int)) == x2))]) [])) (K)))
  (last:J n→(∃ m1,Zdi Q m1 x2 0 (IntKind.i64.wrap (x2 - (1:Int))) (([]:List (List V)))))
  (k:Nat) (le0:k≤n) (hj:J k):∃ m0,Zda Q m0 x1 x2 x12 (n:Int) ((k:Int)):=by
 exact rangeG0 n hb J (fun m0 i=>Zda Q m0 x1 x2 x12 (n:Int) i) (fun m0 i=>Zlw Q m0 x1 x2 x12 (n:Int) i) (fun k hl_ hj_ m_ ih_=>step k hl_ hj_ _ ih_) last k le0 hj
def Zn1 (a0:LL) (a1:ByteArray) (a2:Int) (Q:QD):Prop :=
 (a0.length≤big→∃ m0,Zda Q m0 a1 a2 a0 ((a0.length:Int)) 0)
theorem Zop (a0:LL) (a1:ByteArray) (a2:Int) (Q:QD) (h:Zn1 a0 a1 a2 Q):cl Ze2 [.v (.sl Zg) (V.l a0),.v .str (V.s a1),.v (.int .i64) (V.i a2)] [] Q :=
 acalls2 (E:=Za4) (envOk _ _ _ _ _) 1 Tryz.func64 (by kernel_rfl) h
def ZnN:Env:=envA [] [] [] [] []
def ZlR (a0 a1:Int) (Q:QD):Prop :=
 cl Zg1 [.v (.int .u64) (V.i a0),.v (.int .u64) (V.i a1)] [] fun r1 H2=>r1=(.tup [.v (.int .u64) ((r1.parts.headD .undef).V),.v (.int .u64) ((r1.parts.tail.headD .undef).V)])∧H2=[]∧iff ((((r1.parts.headD .undef).V).int) == (0:Int)) ((True∧True∧True)∧Q (.tup [.v (.int .u64) ((r1.parts.tail.headD .undef).V),.v .bool (V.b (decide ((((r1.parts.tail.headD .undef).V).int)≤(4611686018427387904:Int))))]) []) ((True∧True∧True)∧Q (.tup [.v (.int .u64) ((r1.parts.tail.headD .undef).V),.v .bool (V.b false)]) [])
theorem ZoB (a0 a1:Int) (Q:QD) (h:ZlR a0 a1 Q):cl Zj1 [.v (.int .u64) (V.i a0),.v (.int .u64) (V.i a1)] [] Q :=
 acalls2 (E:=ZnN) (envOk _ _ _ _ _) 0 Tryz.func73 (by kernel_rfl) h
def Zgd:Env:=envA [(3000003,ua 4 7 ([]))] [] [] [] [3]
@[irreducible] def Zia (Q:QD) (x0 x1:Int):Prop :=
 joinM (evCode Zgd (fnAt [1,1] Tryz.f74)) ⟨(.v (.int .u64) (V.i x0))::(.v (.int .u64) (V.i x1))::sk 2 (un 7 (sk 8 ([]))),dd 19 ([])⟩ [] (endK Zgd Tryz.f74 Q)
def Zh8 (Q:QD) (x0 x1:Int):Prop :=
 x1≠0∧iff (decide (x0 > (IntKind.u64.wrap ((4611686018427387905:Int).tdiv x1)))) (True∧Q (.v (.int .u64) (V.i 4611686018427387905)) []) (True∧Q (.v (.int .u64) (V.i (if (4611686018427387905:Int)<(IntKind.u64.wrap (x0*x1)) then (4611686018427387905:Int) else (IntKind.u64.wrap (x0*x1))))) [])
theorem Zle (Q:QD) (x0 x1:Int):Zia Q x0 x1=Zh8 Q x0 x1:=by kernel_rfl
def ZkZ (a0 a1:Int) (Q:QD):Prop :=
 iff (a0 == (0:Int)) (True∧Q (.v (.int .u64) (V.i 0)) []) (iff (a1 == (0:Int)) (True∧Q (.v (.int .u64) (V.i 0)) []) (Zia Q a0 a1))
theorem Zoe (a0 a1:Int) (Q:QD) (h:ZkZ a0 a1 Q):cl Zga [.v (.int .u64) (V.i a0),.v (.int .u64) (V.i a1)] [] Q :=
 acalls2 (E:=Zgd) (envOk _ _ _ _ _) 0 Tryz.func74 (by kernel_rfl) h
def Zoc:Env:=envA [] [] [] [] []
def ZlW (a0 a1:Int) (Q:QD):Prop :=
 True∧Q (.v (.int .u64) (V.i (if (4611686018427387905:Int)<(IntKind.u64.wrap (a0+a1)) then (4611686018427387905:Int) else (IntKind.u64.wrap (a0+a1))))) []
theorem Zoy (a0 a1:Int) (Q:QD) (h:ZlW a0 a1 Q):cl Zkj [.v (.int .u64) (V.i a0),.v (.int .u64) (V.i a1)] [] Q :=
 acalls2 (E:=Zoc) (envOk _ _ _ _ _) 0 Tryz.func76 (by kernel_rfl) h
def ZaS:Env:=envA [(8,ua 2 9 (ua 12 8 (ua 21 6 ([.dead 26]))))] [] [] [] []
def Zg6 (Q:QD):Post:=blockK 0 (seqJ ZaS (fnAt [1,1,1,1,1] Tryz.f77) (endK ZaS Tryz.f77 Q))
@[irreducible] def Zbt (Q:QD) (m0:Nat) (x0:LL) (y20_x:V) (y20n:Nat) (y20s:List Nat):Prop :=
 iter (adj (ZaS.adj 8)) (evCode ZaS (fnAt [1,1,1,1,0,1,0,0] Tryz.f77)) (Zg6 Q) m0 ⟨(.v (.sl Zaw) (V.l x0))::.skip::un 9 (.skip::un 8 ((.ptr (.loc 20) 0)::un 6 (sk 2 ([])))),dd 20 ((.iter Zex (.v (.mp Zex) (y20_x)) y20n y20s)::dd 8 ([]))⟩ []
def Zep (Q:QD) (m0:Nat) (x0:LL) (y20_x:V) (y20n:Nat) (y20s:List Nat):Prop :=
 y20_x.list.length=y20n∧((∀ j:Nat,j<y20n→j∈y20s)→cl Zbl [.v (.sl Zaw) (V.l x0),.fn ZaH []] [] fun r2 H3=>r2=(.v .bool (r2.V))∧H3=[]∧iff r2.V.bool (True∧Q (.v (.int .i64) (V.i 7)) []) (True∧Q (.v (.int .i64) (V.i 0)) []))∧(∀ j1:Nat,j1<y20n→j1 ∉ y20s→y20s.length<y20n→y20_x.list.length=y20n∧cl ZeM [.v .str ((y20_x.list.getD j1 []).headD V.none)] [] fun r4 H5=>r4=(.v .bool (r4.V))∧H5=[]∧iff r4.V.bool (True∧Q (.v (.int .i64) (V.i 6)) []) (Zbt Q m0 x0 y20_x y20n (j1::y20s)))
theorem Zf8 (Q:QD) (m0:Nat) (x0:LL) (y20_x:V) (y20n:Nat) (y20s:List Nat):Zbt Q (m0+1) x0 y20_x y20n y20s=Zep Q m0 x0 y20_x y20n y20s:=by kernel_rfl
theorem Zgb (Q:QD):RuleG4 (Zbt Q) (Zep Q):=ruleG4 _ _ (Zf8 Q)
def ZeV (a0:LL) (Q:QD):Prop :=
 cl Zee [.v (.sl Zaw) (V.l a0)] [] fun r1 H2=>r1=(.v (.int .i64) (r1.V))∧H2=[]∧iff (r1.V.int != (0:Int)) (True∧Q (.v (.int .i64) (r1.V)) []) (cl ZfE [.v (.sl Zaw) (V.l a0)] [] fun r3 H4=>r3=(.tup [.v (.mp Zex) ((r3.parts.headD .undef).V),.v .bool ((r3.parts.tail.headD .undef).V)])∧H4=[]∧iff (!(((r3.parts.tail.headD .undef).V).bool)) (True∧Q (.v (.int .i64) (V.i 6)) []) (∃ m0,Zbt Q m0 a0 ((r3.parts.headD .undef).V) ((((r3.parts.headD .undef).V).list).length) (([]:List Nat))))
theorem ZiX (a0:LL) (Q:QD) (h:ZeV a0 Q):cl ZdR [.v (.sl Zaw) (V.l a0)] [] Q :=
 acalls2 (E:=ZaS) (envOk _ _ _ _ _) 0 Tryz.func77 (by kernel_rfl) h
def Zb3:Env:=envA [(2,ua 0 2 (ua 6 3 (ua 12 13 ([]))))] [] [] [] []
def Zj3 (Q:QD):Post:=blockK 0 (seqJ Zb3 (fnAt [1,1] Tryz.f78) (endK Zb3 Tryz.f78 Q))
@[irreducible] def ZbI (Q:QD) (m0:Nat) (x2:ByteArray) (x9:LL) (x10 x11 y4_0:Int) (y4_1:LL):Prop :=
 iter (adj (Zb3.adj 2)) (evCode Zb3 (fnAt [1,0,1,0,0] Tryz.f78)) (Zj3 Q) m0 ⟨un 2 ((.v .str (V.s x2))::.skip::(.ptr (.loc 4) 0)::.skip::un 3 ((.v (.sl Zb) (V.l x9))::(.v (.int .i64) (V.i x10))::(.v (.int .i64) (V.i x11))::un 13 ([]))),dd 4 ((.cells [.v (.int .u64) (V.i y4_0),.v (.sl Zn) (V.l y4_1)])::dd 20 ([]))⟩ []
def Zj0 (Q:QD) (m0:Nat) (x2:ByteArray) (x9:LL) (x10 x11 y4_0:Int) (y4_1:LL):Prop :=
 iff (decide (x11<x10)) (0≤x11∧x11<x9.length∧iff (((((x9.getD x11.toNat []).drop 0).headD V.none).str).toList == x2.toList) (0≤x11∧x11<y4_1.length∧True∧Q (.v (.int .i64) (((y4_1.getD x11.toNat []).drop 0).headD V.none)) []) (ZbI Q m0 x2 x9 x10 (IntKind.i64.wrap (x11+(1:Int))) y4_0 y4_1)) (True∧Q (.v (.int .i64) (V.i 0)) [])
theorem Zip (Q:QD) (m0:Nat) (x2:ByteArray) (x9:LL) (x10 x11 y4_0:Int) (y4_1:LL):ZbI Q (m0+1) x2 x9 x10 x11 y4_0 y4_1=Zj0 Q m0 x2 x9 x10 x11 y4_0 y4_1:=by kernel_rfl
theorem Zh2 (Q:QD) (x2:ByteArray) (x9:LL) (y4_0:Int) (y4_1:LL) (n:Nat) (hb:n≤big) (J:Nat→Prop)
  (step:∀ (k:Nat),k<n→J k→∀ K:Prop,(J (k+1)→K)→(0≤(k:Int)∧(k:Int)<x9.length∧iff (((((x9.getD k []).drop 0).headD V.none).str).toList == x2.toList) (0≤(k:Int)∧(k:Int)<y4_1.length∧True∧Q (.v (.int .i64) (((y4_1.getD k []).drop 0).headD V.none)) []) (K)))
  (last:J n→(True∧Q (.v (.int .i64) (V.i 0)) []))
  (k:Nat) (le0:k≤n) (hj:J k):∃ m0,ZbI Q m0 x2 x9 (n:Int) ((k:Int)) y4_0 y4_1:=by
 exact rangeG0 n hb J (fun m0 i=>ZbI Q m0 x2 x9 (n:Int) i y4_0 y4_1) (fun m0 i=>Zip Q m0 x2 x9 (n:Int) i y4_0 y4_1) (fun k hl_ hj_ m_ ih_=>step k hl_ hj_ _ ih_) last k le0 hj
def Zl2 (a0:LL) (a1_0:Int) (a1_1:LL) (a2:ByteArray) (Q:QD):Prop :=
 (a0.length≤big→∃ m0,ZbI Q m0 a2 a0 ((a0.length:Int)) 0 a1_0 a1_1)
theorem Znb (a0:LL) (a1_0:Int) (a1_1:LL) (a2:ByteArray) (Q:QD) (h:Zl2 a0 a1_0 a1_1 a2 Q):cl Zb6 [.v (.sl Zb) (V.l a0),.agg [.v (.int .u64) (V.i a1_0),.v (.sl Zn) (V.l a1_1)],.v .str (V.s a2)] [] Q :=
 acalls2 (E:=Zb3) (envOk _ _ _ _ _) 0 Tryz.func78 (by kernel_rfl) h
def Zx:Env:=envA [(2,(.undef 1)::(.undef 8)::ua 10 4 (ua 17 27 ([.dead 10,.dead 21,.dead 32]))),(6,(.undef 1)::(.undef 8)::ua 12 2 (ua 17 3 (ua 23 21 ([.dead 32]))))] [(8,10,[],[])] [] [] []
def Zc0 (Q:QD):Post:=blockK 0 (seqJ Zx (fnAt [1,1] Tryz.f79) (endK Zx Tryz.f79 Q))
def Zhs (Q:QD) (m0:Nat):Post:=blockK 2 (seqJ Zx (fnAt [1,0,1,0,0,1,1,0,0,1,1,1] Tryz.f79) (blockK 1 (seqJ Zx (fnAt [1,0,1,0,0,1,1,1] Tryz.f79) (loopK (adj (Zx.adj 2)) (iter (adj (Zx.adj 2)) (evCode Zx (fnAt [1,0,1,0,0] Tryz.f79)) (Zc0 Q) m0) (Zc0 Q)))))
@[irreducible] def Zaa (Q:QD) (m0 m1:Nat) (x0 x2 x3:LL) (x11:Bool) (x14:LL) (x15 x16:Int) (x20:LL) (x21 x22:Int) (y10_0 y10_1:V):Prop :=
 iter (adj (Zx.adj 6)) (evCode Zx (fnAt [1,0,1,0,0,1,1,0,0,1,1,0,1,0,0] Tryz.f79)) (Zhs Q m0) m1 ⟨(.v (.sl Zb) (V.l x0))::.undef::(.v (.sl Zb) (V.l x2))::(.v (.sl Zn) (V.l x3))::sk 4 (.undef::.skip::(.ptr (.loc 10) 0)::(.v .bool (V.b x11))::un 2 ((.v (.sl Zc) (V.l x14))::(.v (.int .i64) (V.i x15))::(.v (.int .i64) (V.i x16))::un 3 ((.v (.sl Zb) (V.l x20))::(.v (.int .i64) (V.i x21))::(.v (.int .i64) (V.i x22))::un 21 ([])))),dd 10 ((.cells [.v (.int .u64) (y10_0),.v (.sl Zn) (y10_1)])::dd 33 ([]))⟩ []
@[irreducible] def ZX (Q:QD) (m0:Nat) (x0 x2 x3 x14:LL) (x15 x16:Int):Prop :=
 iter (adj (Zx.adj 2)) (evCode Zx (fnAt [1,0,1,0,0] Tryz.f79)) (Zc0 Q) m0 ⟨(.v (.sl Zb) (V.l x0))::.undef::(.v (.sl Zb) (V.l x2))::(.v (.sl Zn) (V.l x3))::sk 4 (.undef::.skip::un 4 ((.v (.sl Zc) (V.l x14))::(.v (.int .i64) (V.i x15))::(.v (.int .i64) (V.i x16))::un 27 ([]))),dd 44 ([])⟩ []
def ZhK (Q:QD) (m0 m1:Nat) (x0 x2 x3:LL) (x11:Bool) (x14:LL) (x15 x16:Int) (x20:LL) (x21 x22:Int) (y10_0 y10_1:V):Prop :=
 iff (decide (x22<x21)) (0≤x22∧x22<x20.length∧iff x11 ((∃ r1:D,cl Zb6 [.v (.sl Zb) (V.l x0),.agg [.v (.int .u64) (y10_0),.v (.sl Zn) (y10_1)],.v .str (((x20.getD x22.toNat []).drop 0).headD V.none)] [] (fun r H'=>r=(.v (.int .i64) (r1.V))∧H'=[])∧0≤x22∧x22<x3.length∧Zaa Q m0 m1 x0 x2 x3 (r1.V.int == ((((x3.getD x22.toNat []).drop 0).headD V.none).int)) x14 x15 x16 x20 x21 (IntKind.i64.wrap (x22+(1:Int))) y10_0 y10_1)) (Zaa Q m0 m1 x0 x2 x3 false x14 x15 x16 x20 x21 (IntKind.i64.wrap (x22+(1:Int))) y10_0 y10_1)) (iff x11 (True∧Q (.v (.int .u64) (y10_0)) []) (ZX Q m0 x0 x2 x3 x14 x15 (IntKind.i64.wrap (x16+(1:Int)))))
theorem Zgs (Q:QD) (m0 m1:Nat) (x0 x2 x3:LL) (x11:Bool) (x14:LL) (x15 x16:Int) (x20:LL) (x21 x22:Int) (y10_0 y10_1:V):Zaa Q m0 (m1+1) x0 x2 x3 x11 x14 x15 x16 x20 x21 x22 y10_0 y10_1=ZhK Q m0 m1 x0 x2 x3 x11 x14 x15 x16 x20 x21 x22 y10_0 y10_1:=by kernel_rfl
theorem Zge (Q:QD) (m0:Nat) (x0 x2 x3 x14:LL) (x15 x16:Int) (x20:LL) (y10_0 y10_1:V) (n:Nat) (hb:n≤big) (J:Nat→Bool→Prop)
  (step:∀ (k:Nat) (x11:Bool),k<n→J k x11→∀ K:Bool→Prop,(∀ (x11':Bool),J (k+1) x11'→K x11')→(0≤(k:Int)∧(k:Int)<x20.length∧iff x11 ((∃ r1:D,cl Zb6 [.v (.sl Zb) (V.l x0),.agg [.v (.int .u64) (y10_0),.v (.sl Zn) (y10_1)],.v .str (((x20.getD k []).drop 0).headD V.none)] [] (fun r H'=>r=(.v (.int .i64) (r1.V))∧H'=[])∧0≤(k:Int)∧(k:Int)<x3.length∧K (r1.V.int == ((((x3.getD k []).drop 0).headD V.none).int)))) (K false)))
  (last:∀ (x11:Bool),J n x11→(iff x11 (True∧Q (.v (.int .u64) (y10_0)) []) (ZX Q m0 x0 x2 x3 x14 x15 (IntKind.i64.wrap (x16+(1:Int))))))
  (k:Nat) (x11:Bool) (le0:k≤n) (hj:J k x11):∃ m1,Zaa Q m0 m1 x0 x2 x3 x11 x14 x15 x16 x20 (n:Int) ((k:Int)) y10_0 y10_1:=by
 exact rangeG1 n hb J (fun m1 i x11=>Zaa Q m0 m1 x0 x2 x3 x11 x14 x15 x16 x20 (n:Int) i y10_0 y10_1) (fun m1 i x11=>Zgs Q m0 m1 x0 x2 x3 x11 x14 x15 x16 x20 (n:Int) i y10_0 y10_1) (fun k x11 hl_ hj_ m_ ih_=>step k x11 hl_ hj_ _ ih_) last k x11 le0 hj
def ZhC (Q:QD) (m0:Nat) (x0 x2 x3 x14:LL) (x15 x16:Int):Prop :=
 iff (decide (x16<x15)) (0≤x16∧x16<x14.length∧(x2.length≤big→∃ m1,Zaa Q m0 m1 x0 x2 x3 true x14 x15 x16 x2 ((x2.length:Int)) 0 (((x14.getD x16.toNat []).drop 0).headD V.none) ((((x14.getD x16.toNat []).drop 0).tail).headD V.none))) (True∧Q (.v (.int .u64) (V.i 0)) [])
theorem Zgw (Q:QD) (m0:Nat) (x0 x2 x3 x14:LL) (x15 x16:Int):ZX Q (m0+1) x0 x2 x3 x14 x15 x16=ZhC Q m0 x0 x2 x3 x14 x15 x16:=by kernel_rfl
theorem Zgc (Q:QD) (x0 x2 x3 x14:LL) (n:Nat) (hb:n≤big) (J:Nat→Prop)
  (step:∀ (k:Nat),k<n→J k→∀ m0:Nat,(J (k+1)→ZX Q m0 x0 x2 x3 x14 (n:Int) (IntKind.i64.wrap ((k:Int)+(1:Int))))→(0≤(k:Int)∧(k:Int)<x14.length∧(x2.length≤big→∃ m1,Zaa Q m0 m1 x0 x2 x3 true x14 (n:Int) (k:Int) x2 ((x2.length:Int)) 0 (((x14.getD k []).drop 0).headD V.none) ((((x14.getD k []).drop 0).tail).headD V.none))))
  (last:J n→(True∧Q (.v (.int .u64) (V.i 0)) []))
  (k:Nat) (le0:k≤n) (hj:J k):∃ m0,ZX Q m0 x0 x2 x3 x14 (n:Int) ((k:Int)):=by
 exact rangeG0 n hb J (fun m0 i=>ZX Q m0 x0 x2 x3 x14 (n:Int) i) (fun m0 i=>Zgw Q m0 x0 x2 x3 x14 (n:Int) i) (fun k hl_ hj_ m_ ih_=>step k hl_ hj_ m_ ih_) last k le0 hj
def Zi8 (a0 a1 a2 a3:LL) (Q:QD):Prop :=
 (a1.length≤big→∃ m0,ZX Q m0 a0 a2 a3 a1 ((a1.length:Int)) 0)
theorem Zks (a0 a1 a2 a3:LL) (Q:QD) (h:Zi8 a0 a1 a2 a3 Q):cl ZcR [.v (.sl Zb) (V.l a0),.v (.sl Zc) (V.l a1),.v (.sl Zb) (V.l a2),.v (.sl Zn) (V.l a3)] [] Q :=
 acalls2 (E:=Zx) (envOk _ _ _ _ _) 0 Tryz.func79 (by kernel_rfl) h
def ZdA:Env:=envA [(4,(.undef 0)::(.undef 2)::ua 4 5 (ua 12 13 ((.dead 4)::da 19 2 ([]))))] [] [] [] []
def ZmX (Q:QD):Post:=blockK 0 (seqJ ZdA (fnAt [1,1,1] Tryz.f80) (endK ZdA Tryz.f80 Q))
@[irreducible] def Zdc (Q:QD) (m0:Nat) (x9:LL) (x10 x11:Int):Prop :=
 iter (adj (ZdA.adj 4)) (evCode ZdA (fnAt [1,1,0,1,0,0] Tryz.f80)) (ZmX Q) m0 ⟨.undef::.skip::.undef::.skip::un 5 ((.v (.sl Zaw) (V.l x9))::(.v (.int .i64) (V.i x10))::(.v (.int .i64) (V.i x11))::un 13 ([])),dd 25 ([])⟩ []
def ZmP (Q:QD) (m0:Nat) (x9:LL) (x10 x11:Int):Prop :=
 iff (decide (x11<x10)) (0≤x11∧x11<x9.length∧cl Zel [.v (.sl Za) (V.l ([[((x9.getD x11.toNat []).drop 0).headD V.none,(((x9.getD x11.toNat []).drop 0).tail).headD V.none,((((x9.getD x11.toNat []).drop 0).tail).tail).headD V.none],[(((((x9.getD x11.toNat []).drop 0).tail).tail).tail).headD V.none,((((((x9.getD x11.toNat []).drop 0).tail).tail).tail).tail).headD V.none,(((((((x9.getD x11.toNat []).drop 0).tail).tail).tail).tail).tail).headD V.none]]))] [] fun r1 H2=>r1=(.v (.int .i64) (r1.V))∧H2=[]∧iff (r1.V.int != (0:Int)) (True∧Q (.v (.int .i64) (r1.V)) []) (Zdc Q m0 x9 x10 (IntKind.i64.wrap (x11+(1:Int))))) (True∧Q (.v (.int .i64) (V.i 0)) [])
theorem ZlA (Q:QD) (m0:Nat) (x9:LL) (x10 x11:Int):Zdc Q (m0+1) x9 x10 x11=ZmP Q m0 x9 x10 x11:=by kernel_rfl
theorem ZkT (Q:QD) (x9:LL) (n:Nat) (hb:n≤big) (J:Nat→Prop)
  (step:∀ (k:Nat),k<n→J k→∀ K:Prop,(J (k+1)→K)→(0≤(k:Int)∧(k:Int)<x9.length∧cl Zel [.v (.sl Za) (V.l ([[((x9.getD k []).drop 0).headD V.none,(((x9.getD k []).drop 0).tail).headD V.none,((((x9.getD k []).drop 0).tail).tail).headD V.none],[(((((x9.getD k []).drop 0).tail).tail).tail).headD V.none,((((((x9.getD k []).drop 0).tail).tail).tail).tail).headD V.none,(((((((x9.getD k []).drop 0).tail).tail).tail).tail).tail).headD V.none]]))] [] fun r1 H2=>r1=(.v (.int .i64) (r1.V))∧H2=[]∧iff (r1.V.int != (0:Int)) (True∧Q (.v (.int .i64) (r1.V)) []) (K)))
  (last:J n→(True∧Q (.v (.int .i64) (V.i 0)) []))
  (k:Nat) (le0:k≤n) (hj:J k):∃ m0,Zdc Q m0 x9 (n:Int) ((k:Int)):=by
 exact rangeG0 n hb J (fun m0 i=>Zdc Q m0 x9 (n:Int) i) (fun m0 i=>ZlA Q m0 x9 (n:Int) i) (fun k hl_ hj_ m_ ih_=>step k hl_ hj_ _ ih_) last k le0 hj
def ZnX (a0:LL) (Q:QD):Prop :=
 (a0.length≤big→iff (decide (((a0.length:Int)) > (64:Int))) (True∧Q (.v (.int .i64) (V.i 3)) []) ((a0.length≤big→∃ m0,Zdc Q m0 a0 ((a0.length:Int)) 0)))
theorem Zoj (a0:LL) (Q:QD) (h:ZnX a0 Q):cl Zim [.v (.sl Zaw) (V.l a0)] [] Q :=
 acalls2 (E:=ZdA) (envOk _ _ _ _ _) 0 Tryz.func80 (by kernel_rfl) h
def ZZ:Env:=envA [(3,(.undef 0)::ua 2 2 ((.undef 6)::ua 8 3 (ua 14 24 ((.dead 6)::(.dead 8)::da 21 2 ([.dead 30,.plainT 4 ZH]))))),(6,(.undef 0)::ua 2 2 ((.undef 6)::ua 8 3 (ua 14 7 (ua 24 14 ([.dead 6,.dead 8,.dead 30,.plainT 4 ZH])))))] [] [] [] []
def ZeJ (Q:QD):Post:=blockK 0 (seqJ ZZ (fnAt [1,1,1] Tryz.f81) (endK ZZ Tryz.f81 Q))
def Zlm (Q:QD) (m0:Nat):Post:=blockK 2 (blockK 1 (seqJ ZZ (fnAt [1,1,0,1,0,0,1,1,1] Tryz.f81) (loopK (adj (ZZ.adj 3)) (iter (adj (ZZ.adj 3)) (evCode ZZ (fnAt [1,1,0,1,0,0] Tryz.f81)) (ZeJ Q) m0) (ZeJ Q))))
@[irreducible] def Zbn (Q:QD) (m0 m1:Nat) (x4:V) (x11:LL) (x12 x13:Int) (x21:LL) (x22 x23:Int):Prop :=
 iter (adj (ZZ.adj 6)) (evCode ZZ (fnAt [1,1,0,1,0,0,1,1,0,0,1,1,0,0] Tryz.f81)) (Zlm Q m0) m1 ⟨.undef::.skip::un 2 ((.v (.sl ZH) (x4))::.skip::.undef::.skip::un 3 ((.v (.sl Zaw) (V.l x11))::(.v (.int .i64) (V.i x12))::(.v (.int .i64) (V.i x13))::un 7 ((.v (.sl Za) (V.l x21))::(.v (.int .i64) (V.i x22))::(.v (.int .i64) (V.i x23))::un 14 ([.skip])))),dd 39 ([])⟩ []
@[irreducible] def ZaQ (Q:QD) (m0:Nat) (x4:V) (x11:LL) (x12 x13:Int):Prop :=
 iter (adj (ZZ.adj 3)) (evCode ZZ (fnAt [1,1,0,1,0,0] Tryz.f81)) (ZeJ Q) m0 ⟨.undef::.skip::un 2 ((.v (.sl ZH) (x4))::.skip::.undef::.skip::un 3 ((.v (.sl Zaw) (V.l x11))::(.v (.int .i64) (V.i x12))::(.v (.int .i64) (V.i x13))::un 24 ([.skip]))),dd 39 ([])⟩ []
def Zlu (Q:QD) (m0 m1:Nat) (x4:V) (x11:LL) (x12 x13:Int) (x21:LL) (x22 x23:Int):Prop :=
 iff (decide (x23<x22)) (0≤x23∧x23<x21.length∧cl ZcH [.agg [.v .str (((x21.getD x23.toNat []).drop 0).headD V.none),.v .bool ((((x21.getD x23.toNat []).drop 0).tail).headD V.none),.v (.sl Za) (((((x21.getD x23.toNat []).drop 0).tail).tail).headD V.none)],.v (.sl ZH) (x4)] [] fun r1 H2=>r1=(.tup [.v (.sl ZH) ((r1.parts.headD .undef).V),.v .bool ((r1.parts.tail.headD .undef).V)])∧H2=[]∧iff (!(((r1.parts.tail.headD .undef).V).bool)) ((True∧True∧True)∧Q (.tup [.nil,.v .bool (V.b false)]) []) (Zbn Q m0 m1 ((r1.parts.headD .undef).V) x11 x12 x13 x21 x22 (IntKind.i64.wrap (x23+(1:Int))))) (ZaQ Q m0 x4 x11 x12 (IntKind.i64.wrap (x13+(1:Int))))
theorem ZjK (Q:QD) (m0 m1:Nat) (x4:V) (x11:LL) (x12 x13:Int) (x21:LL) (x22 x23:Int):Zbn Q m0 (m1+1) x4 x11 x12 x13 x21 x22 x23=Zlu Q m0 m1 x4 x11 x12 x13 x21 x22 x23:=by kernel_rfl
theorem ZiC (Q:QD) (m0:Nat) (x11:LL) (x12 x13:Int) (x21:LL) (n:Nat) (hb:n≤big) (J:Nat→V→Prop)
  (step:∀ (k:Nat) (x4:V),k<n→J k x4→∀ K:V→Prop,(∀ (x4':V),J (k+1) x4'→K x4')→(0≤(k:Int)∧(k:Int)<x21.length∧cl ZcH [.agg [.v .str (((x21.getD k []).drop 0).headD V.none),.v .bool ((((x21.getD k []).drop 0).tail).headD V.none),.v (.sl Za) (((((x21.getD k []).drop 0).tail).tail).headD V.none)],.v (.sl ZH) (x4)] [] fun r1 H2=>r1=(.tup [.v (.sl ZH) ((r1.parts.headD .undef).V),.v .bool ((r1.parts.tail.headD .undef).V)])∧H2=[]∧iff (!(((r1.parts.tail.headD .undef).V).bool)) ((True∧True∧True)∧Q (.tup [.nil,.v .bool (V.b false)]) []) (K ((r1.parts.headD .undef).V))))
  (last:∀ (x4:V),J n x4→(ZaQ Q m0 x4 x11 x12 (IntKind.i64.wrap (x13+(1:Int)))))
  (k:Nat) (x4:V) (le0:k≤n) (hj:J k x4):∃ m1,Zbn Q m0 m1 x4 x11 x12 x13 x21 (n:Int) ((k:Int)):=by
 exact rangeG1 n hb J (fun m1 i x4=>Zbn Q m0 m1 x4 x11 x12 x13 x21 (n:Int) i) (fun m1 i x4=>ZjK Q m0 m1 x4 x11 x12 x13 x21 (n:Int) i) (fun k x4 hl_ hj_ m_ ih_=>step k x4 hl_ hj_ _ ih_) last k x4 le0 hj
def ZlJ (Q:QD) (m0:Nat) (x4:V) (x11:LL) (x12 x13:Int):Prop :=
 iff (decide (x13<x12)) (0≤x13∧x13<x11.length∧(([[((x11.getD x13.toNat []).drop 0).headD V.none,(((x11.getD x13.toNat []).drop 0).tail).headD V.none,((((x11.getD x13.toNat []).drop 0).tail).tail).headD V.none],[(((((x11.getD x13.toNat []).drop 0).tail).tail).tail).headD V.none,((((((x11.getD x13.toNat []).drop 0).tail).tail).tail).tail).headD V.none,(((((((x11.getD x13.toNat []).drop 0).tail).tail).tail).tail).tail).headD V.none]]).length≤big→∃ m1,Zbn Q m0 m1 x4 x11 x12 x13 ([[((x11.getD x13.toNat []).drop 0).headD V.none,(((x11.getD x13.toNat []).drop 0).tail).headD V.none,((((x11.getD x13.toNat []).drop 0).tail).tail).headD V.none],[(((((x11.getD x13.toNat []).drop 0).tail).tail).tail).headD V.none,((((((x11.getD x13.toNat []).drop 0).tail).tail).tail).tail).headD V.none,(((((((x11.getD x13.toNat []).drop 0).tail).tail).tail).tail).tail).headD V.none]]) ((([[((x11.getD x13.toNat []).drop 0).headD V.none,(((x11.getD x13.toNat []).drop 0).tail).headD V.none,((((x11.getD x13.toNat []).drop 0).tail).tail).headD V.none],[(((((x11.getD x13.toNat []).drop 0).tail).tail).tail).headD V.none,((((((x11.getD x13.toNat []).drop 0).tail).tail).tail).tail).headD V.none,(((((((x11.getD x13.toNat []).drop 0).tail).tail).tail).tail).tail).headD V.none]]).length:Int)) 0)) ((True∧True∧True)∧Q (.tup [.v (.sl ZH) (x4),.v .bool (V.b true)]) [])
theorem Zi6 (Q:QD) (m0:Nat) (x4:V) (x11:LL) (x12 x13:Int):ZaQ Q (m0+1) x4 x11 x12 x13=ZlJ Q m0 x4 x11 x12 x13:=by kernel_rfl
theorem ZiJ (Q:QD) (x11:LL) (n:Nat) (hb:n≤big) (J:Nat→V→Prop)
  (step:∀ (k:Nat) (x4:V),k<n→J k x4→∀ m0:Nat,(∀ (x4':V),J (k+1) x4'→ZaQ Q m0 x4' x11 (n:Int) (IntKind.i64.wrap ((k:Int)+(1:Int))))→(0≤(k:Int)∧(k:Int)<x11.length∧(([[((x11.getD k []).drop 0).headD V.none,(((x11.getD k []).drop 0).tail).headD V.none,((((x11.getD k []).drop 0).tail).tail).headD V.none],[(((((x11.getD k []).drop 0).tail).tail).tail).headD V.none,((((((x11.getD k []).drop 0).tail).tail).tail).tail).headD V.none,(((((((x11.getD k []).drop 0).tail).tail).tail).tail).tail).headD V.none]]).length≤big→∃ m1,Zbn Q m0 m1 x4 x11 (n:Int) (k:Int) ([[((x11.getD k []).drop 0).headD V.none,(((x11.getD k []).drop 0).tail).headD V.none,((((x11.getD k []).drop 0).tail).tail).headD V.none],[(((((x11.getD k []).drop 0).tail).tail).tail).headD V.none,((((((x11.getD k []).drop 0).tail).tail).tail).tail).headD V.none,(((((((x11.getD k []).drop 0).tail).tail).tail).tail).tail).headD V.none]]) ((([[((x11.getD k []).drop 0).headD V.none,(((x11.getD k []).drop 0).tail).headD V.none,((((x11.getD k []).drop 0).tail).tail).headD V.none],[(((((x11.getD k []).drop 0).tail).tail).tail).headD V.none,((((((x11.getD k []).drop 0).tail).tail).tail).tail).headD V.none,(((((((x11.getD k []).drop 0).tail).tail).tail).tail).tail).headD V.none]]).length:Int)) 0)))
  (last:∀ (x4:V),J n x4→((True∧True∧True)∧Q (.tup [.v (.sl ZH) (x4),.v .bool (V.b true)]) []))
  (k:Nat) (x4:V) (le0:k≤n) (hj:J k x4):∃ m0,ZaQ Q m0 x4 x11 (n:Int) ((k:Int)):=by
 exact rangeG1 n hb J (fun m0 i x4=>ZaQ Q m0 x4 x11 (n:Int) i) (fun m0 i x4=>Zi6 Q m0 x4 x11 (n:Int) i) (fun k x4 hl_ hj_ m_ ih_=>step k x4 hl_ hj_ m_ ih_) last k x4 le0 hj
def Zmu (a0:LL) (Q:QD):Prop :=
 (a0.length≤big→∃ m0,ZaQ Q m0 (V.l ([])) a0 ((a0.length:Int)) 0)
theorem Znv (a0:LL) (Q:QD) (h:Zmu a0 Q):cl ZfZ [.v (.sl Zaw) (V.l a0)] [] Q :=
 acalls2 (E:=ZZ) (envOk _ _ _ _ _) 0 Tryz.func81 (by kernel_rfl) h
def Zc7:Env:=envA [(2,ua 0 3 ((.undef 4)::ua 6 3 (ua 12 8 ([.dead 2,.dead 17]))))] [] [] [] []
def Zl3 (Q:QD):Post:=blockK 0 (seqJ Zc7 (fnAt [1,1] Tryz.f82) (endK Zc7 Tryz.f82 Q))
@[irreducible] def Zcw (Q:QD) (m0:Nat) (x9:V) (x10 x11:Int) (y3_0:ByteArray) (y3_1:Bool) (y3_2:LL):Prop :=
 iter (adj (Zc7.adj 2)) (evCode Zc7 (fnAt [1,0,1,0,0] Tryz.f82)) (Zl3 Q) m0 ⟨un 3 ((.ptr (.loc 3) 0)::.undef::.skip::un 3 ((.v (.sl Zb) (x9))::(.v (.int .i64) (V.i x10))::(.v (.int .i64) (V.i x11))::un 8 ([]))),dd 3 ((.cells [.v .str (V.s y3_0),.v .bool (V.b y3_1),.v (.sl Za) (V.l y3_2)])::dd 16 ([]))⟩ []
def ZlT (Q:QD) (m0:Nat) (x9:V) (x10 x11:Int) (y3_0:ByteArray) (y3_1:Bool) (y3_2:LL):Prop :=
 iff (decide (x11<x10)) (0≤x11∧x11<x9.list.length∧cl Zei [.agg [.v .str (V.s y3_0),.v .bool (V.b y3_1),.v (.sl Za) (V.l y3_2)],.v .str (((x9.list.getD x11.toNat []).drop 0).headD V.none)] [] fun r1 H2=>r1=(.v (.int .i64) (r1.V))∧H2=[]∧iff (r1.V.int == (0:Int)) (True∧Q (.v .bool (V.b false)) []) (Zcw Q m0 x9 x10 (IntKind.i64.wrap (x11+(1:Int))) y3_0 y3_1 y3_2)) (True∧Q (.v .bool (V.b true)) [])
theorem Zj4 (Q:QD) (m0:Nat) (x9:V) (x10 x11:Int) (y3_0:ByteArray) (y3_1:Bool) (y3_2:LL):Zcw Q (m0+1) x9 x10 x11 y3_0 y3_1 y3_2=ZlT Q m0 x9 x10 x11 y3_0 y3_1 y3_2:=by kernel_rfl
theorem Zjm (Q:QD) (x9:V) (y3_0:ByteArray) (y3_1:Bool) (y3_2:LL) (n:Nat) (hb:n≤big) (J:Nat→Prop)
  (step:∀ (k:Nat),k<n→J k→∀ K:Prop,(J (k+1)→K)→(0≤(k:Int)∧(k:Int)<x9.list.length∧cl Zei [.agg [.v .str (V.s y3_0),.v .bool (V.b y3_1),.v (.sl Za) (V.l y3_2)],.v .str (((x9.list.getD k []).drop 0).headD V.none)] [] fun r1 H2=>r1=(.v (.int .i64) (r1.V))∧H2=[]∧iff (r1.V.int == (0:Int)) (True∧Q (.v .bool (V.b false)) []) (K)))
  (last:J n→(True∧Q (.v .bool (V.b true)) []))
  (k:Nat) (le0:k≤n) (hj:J k):∃ m0,Zcw Q m0 x9 (n:Int) ((k:Int)) y3_0 y3_1 y3_2:=by
 exact rangeG0 n hb J (fun m0 i=>Zcw Q m0 x9 (n:Int) i y3_0 y3_1 y3_2) (fun m0 i=>Zj4 Q m0 x9 (n:Int) i y3_0 y3_1 y3_2) (fun k hl_ hj_ m_ ih_=>step k hl_ hj_ _ ih_) last k le0 hj
def ZjT (a0_0:ByteArray) (a0_1:Bool) (a0_2:LL) (a1_0:ByteArray) (a1_1:Bool) (a1_2:LL) (Q:QD):Prop :=
 cl ZfT [.v (.sl Za) (V.l ([[V.s a0_0,V.b a0_1,V.l a0_2]]))] [] fun r1 H2=>r1=(.v (.sl Zb) (r1.V))∧H2=[]∧(r1.V.list.length≤big→∃ m0,Zcw Q m0 r1.V ((r1.V.list.length:Int)) 0 a1_0 a1_1 a1_2)
theorem ZnW (a0_0:ByteArray) (a0_1:Bool) (a0_2:LL) (a1_0:ByteArray) (a1_1:Bool) (a1_2:LL) (Q:QD) (h:ZjT a0_0 a0_1 a0_2 a1_0 a1_1 a1_2 Q):cl Zfs [.agg [.v .str (V.s a0_0),.v .bool (V.b a0_1),.v (.sl Za) (V.l a0_2)],.agg [.v .str (V.s a1_0),.v .bool (V.b a1_1),.v (.sl Za) (V.l a1_2)]] [] Q :=
 acalls2 (E:=Zc7) (envOk _ _ _ _ _) 0 Tryz.func82 (by kernel_rfl) h
def Zmg:Env:=envA [] [] [] [] []
def Zib (a0_0:ByteArray) (a0_1:Bool) (a0_2:LL) (Q:QD):Prop :=
 iff a0_1 ((a0_2.length≤big→iff (((a0_2.length:Int)) == (0:Int)) (cl ZcQ [.v .str (V.s a0_0),.v .bool (V.b false)] [] fun r1 H2=>r1=(.v .bool (r1.V))∧H2=[]∧True∧Q (.v .bool (r1.V)) []) (True∧Q (.v .bool (V.b false)) []))) ((a0_2.length≤big→iff (decide (((a0_2.length:Int))≤(8:Int))) (cl ZcQ [.v .str (V.s a0_0),.v .bool (V.b true)] [] fun r3 H4=>r3=(.v .bool (r3.V))∧H4=[]∧iff r3.V.bool (cl Zbk [.v (.sl Za) (V.l a0_2),.fn Z2 []] [] fun r5 H6=>r5=(.v .bool (r5.V))∧H6=[]∧True∧Q (.v .bool (V.b (!r5.V.bool))) []) (True∧Q (.v .bool (V.b false)) [])) (True∧Q (.v .bool (V.b false)) [])))
theorem ZnI (a0_0:ByteArray) (a0_1:Bool) (a0_2:LL) (Q:QD) (h:Zib a0_0 a0_1 a0_2 Q):cl ZbP [.agg [.v .str (V.s a0_0),.v .bool (V.b a0_1),.v (.sl Za) (V.l a0_2)]] [] Q :=
 acalls2 (E:=Zmg) (envOk _ _ _ _ _) 0 Tryz.func84 (by kernel_rfl) h
def ZnE:Env:=envA [] [] [] [] []
def Zk3 (a0_0:ByteArray) (a0_1:Bool) (a0_2:LL) (Q:QD):Prop :=
 cl ZeX [.agg [.v .str (V.s a0_0),.v .bool (V.b a0_1),.v (.sl Za) (V.l a0_2)]] [] fun r1 H2=>r1=(.v (.int .i64) (r1.V))∧H2=[]∧iff (decide (r1.V.int≤(4000:Int))) (cl ZeC [.agg [.v .str (V.s a0_0),.v .bool (V.b a0_1),.v (.sl Za) (V.l a0_2)]] [] fun r3 H4=>r3=(.v (.int .i64) (r3.V))∧H4=[]∧True∧Q (.v .bool (V.b (decide (r3.V.int≤(200:Int))))) []) (True∧Q (.v .bool (V.b false)) [])
theorem Zot (a0_0:ByteArray) (a0_1:Bool) (a0_2:LL) (Q:QD) (h:Zk3 a0_0 a0_1 a0_2 Q):cl ZiR [.agg [.v .str (V.s a0_0),.v .bool (V.b a0_1),.v (.sl Za) (V.l a0_2)]] [] Q :=
 acalls2 (E:=ZnE) (envOk _ _ _ _ _) 0 Tryz.func85 (by kernel_rfl) h
def Zns:Env:=envA [] [] [1] [] []
def ZnL (a0_0:ByteArray) (a0_1:Bool) (a0_2:LL) (Q:QD):Prop :=
 True∧Q (.fn ZB [.elt Za ([V.s a0_0,V.b a0_1,V.l a0_2]) 0]) []
theorem Zof (a0_0:ByteArray) (a0_1:Bool) (a0_2:LL) (Q:QD) (h:ZnL a0_0 a0_1 a0_2 Q):cl Zea [.agg [.v .str (V.s a0_0),.v .bool (V.b a0_1),.v (.sl Za) (V.l a0_2)]] [] Q :=
 acalls2 (E:=Zns) (envOk _ _ _ _ _) 0 Tryz.func86 (by kernel_rfl) h
def Zk:Env:=envA [(6,(.undef 1)::ua 4 2 (ua 10 3 (ua 22 2 ((.undef 38)::ua 42 17 ((.dead 10)::(.dead 48)::da 56 2 ([.ownT 8 104 Zi])))))),(16,ua 0 2 (ua 3 3 (ua 10 5 (ua 17 7 (ua 38 36 (ua 77 26 ([.dead 3,.dead 17,.dead 83,.dead 87,.dead 98]))))))),(20,ua 0 2 (ua 3 3 (ua 10 5 (ua 17 2 (ua 20 4 (ua 38 36 (ua 77 10 (ua 88 15 ([.dead 17,.dead 98])))))))))] [(2,11,[],[]),(13,15,[],[])] [] [] []
def ZhO (Q:QD):Post:=blockK 0 (seqJ Zk (fnAt [1,1,1,1] Tryz.f88) (endK Zk Tryz.f88 Q))
def ZcY (Q:QD):Post:=blockK 2 (seqJ Zk (fnAt [1,1,1,1,1,1,1] Tryz.f88) (endK Zk Tryz.f88 Q))
def Zh3 (Q:QD) (m1:Nat):Post:=blockK 4 (seqJ Zk (fnAt [1,1,1,1,1,1,0,1,0,0,1,1,0,0,1,1,1] Tryz.f88) (blockK 3 (seqJ Zk (fnAt [1,1,1,1,1,1,0,1,0,0,1,1,1] Tryz.f88) (loopK (adj (Zk.adj 16)) (iter (adj (Zk.adj 16)) (evCode Zk (fnAt [1,1,1,1,1,1,0,1,0,0] Tryz.f88)) (ZcY Q) m1) (ZcY Q)))))
@[irreducible] def Z9 (Q:QD) (m1 m2:Nat) (x8n:Nat) (x19 x74:V) (x75 x76:Int) (y73:LL) (y87_x:V) (y87n:Nat) (y87s:List Nat) (y104:LL) (h0_0 h0_1:V):Prop :=
 iter (adj (Zk.adj 20)) (evCode Zk (fnAt [1,1,1,1,1,1,0,1,0,0,1,1,0,0,1,1,0,1,0,0] Tryz.f88)) (Zh3 Q m1) m2 ⟨un 2 (.skip::un 3 (sk 2 ((.osl (.loc 104) x8n)::.skip::un 5 ((.mp (.loc 73))::.skip::un 2 ((.v .bool (x19))::un 4 (sk 14 (un 36 ((.v (.sl Zc) (x74))::(.v (.int .i64) (V.i x75))::(.v (.int .i64) (V.i x76))::un 10 ((.ptr (.loc 87) 0)::un 15 ([.skip])))))))))),dd 73 ((.map Zd y73)::dd 13 ((.iter Zd (.v (.mp Zd) (y87_x)) y87n y87s)::dd 16 ([.row Zi y104])))⟩ [.cells [.v (.sl Zg) (h0_0),.v (.sl Zb) (h0_1)]]
@[irreducible] def ZY (Q:QD) (m1:Nat) (x8n:Nat) (x74:V) (x75 x76:Int) (y73 y104:LL) (h0_0 h0_1:V):Prop :=
 iter (adj (Zk.adj 16)) (evCode Zk (fnAt [1,1,1,1,1,1,0,1,0,0] Tryz.f88)) (ZcY Q) m1 ⟨un 2 (.skip::un 3 (sk 2 ((.osl (.loc 104) x8n)::.skip::un 5 ((.mp (.loc 73))::.skip::un 7 (sk 14 (un 36 ((.v (.sl Zc) (x74))::(.v (.int .i64) (V.i x75))::(.v (.int .i64) (V.i x76))::un 26 ([.skip])))))))),dd 73 ((.map Zd y73)::dd 30 ([.row Zi y104]))⟩ [.cells [.v (.sl Zg) (h0_0),.v (.sl Zb) (h0_1)]]
@[irreducible] def ZaV (Q:QD) (m0:Nat) (x8n:Nat) (x39:LL) (x40 x41:Int) (y3_0:ByteArray) (y3_1:Bool) (y3_2 y104:LL) (h0_0 h0_1:V):Prop :=
 iter (adj (Zk.adj 6)) (evCode Zk (fnAt [1,1,1,0,1,0,0] Tryz.f88)) (ZhO Q) m0 ⟨(.ptr (.own 0) 0)::.undef::.skip::(.ptr (.loc 3) 0)::un 2 (sk 2 ((.osl (.loc 104) x8n)::.skip::un 3 (sk 9 (un 2 (sk 14 (.undef::(.v (.sl Za) (V.l x39))::(.v (.int .i64) (V.i x40))::(.v (.int .i64) (V.i x41))::un 17 (sk 45 ([])))))))),dd 3 ((.cells [.v .str (V.s y3_0),.v .bool (V.b y3_1),.v (.sl Za) (V.l y3_2)])::dd 100 ([.row Zi y104]))⟩ [.cells [.v (.sl Zg) (h0_0),.v (.sl Zb) (h0_1)]]
def ZcW (Q:QD) (m1 m2:Nat) (x8n:Nat) (x19 x74:V) (x75 x76:Int) (y73:LL) (y87_x:V) (y87n:Nat) (y87s:List Nat) (y104:LL) (h0_0 h0_1:V):Prop :=
 y87_x.list.length=y87n∧((∀ j:Nat,j<y87n→j∈y87s)→iff (!x19.bool) ((True∧True∧True)∧Q (.tup [.v (.mp Zd) (V.l ([])),.v (.int .i64) (V.i 3)]) [.cells [.v (.sl Zg) (h0_0),.v (.sl Zb) (h0_1)]]) (ZY Q m1 x8n x74 x75 (IntKind.i64.wrap (x76+(1:Int))) y73 y104 h0_0 h0_1))∧(∀ j1:Nat,j1<y87n→j1 ∉ y87s→y87s.length<y87n→y87_x.list.length=y87n∧iff x19.bool (cl Zbs [.mp (.own 0),.v .str ((y87_x.list.getD j1 []).headD V.none),.v (.int .u64) (((y87_x.list.getD j1 []).drop 1).headD V.none)] [.map Zd y73] fun r2 H3=>r2=(.v .bool (r2.V))∧H3=[.map Zd ((H3.headD .dead).xs)]∧Z9 Q m1 m2 x8n r2.V x74 x75 x76 ((H3.headD .dead).xs) y87_x y87n (j1::y87s) y104 h0_0 h0_1) (Z9 Q m1 m2 x8n (V.b false) x74 x75 x76 y73 y87_x y87n (j1::y87s) y104 h0_0 h0_1))
theorem ZgF (Q:QD) (m1 m2:Nat) (x8n:Nat) (x19 x74:V) (x75 x76:Int) (y73:LL) (y87_x:V) (y87n:Nat) (y87s:List Nat) (y104:LL) (h0_0 h0_1:V):Z9 Q m1 (m2+1) x8n x19 x74 x75 x76 y73 y87_x y87n y87s y104 h0_0 h0_1=ZcW Q m1 m2 x8n x19 x74 x75 x76 y73 y87_x y87n y87s y104 h0_0 h0_1:=by kernel_rfl
theorem ZgH (Q:QD) (m1:Nat):RuleG12 (Z9 Q m1) (ZcW Q m1):=ruleG12 _ _ (ZgF Q m1)
def ZhM (Q:QD) (m1:Nat) (x8n:Nat) (x74:V) (x75 x76:Int) (y73 y104:LL) (h0_0 h0_1:V):Prop :=
 iff (decide (x76<x75)) (0≤x76∧x76<x74.list.length∧cl ZdH [.agg [.v (.int .u64) (((x74.list.getD x76.toNat []).drop 0).headD V.none),.v (.sl Zn) ((((x74.list.getD x76.toNat []).drop 0).tail).headD V.none)],.osl (.own 0) x8n] [.row Zi y104] fun r1 H2=>r1=(.tup [.v (.mp Zd) ((r1.parts.headD .undef).V),.v .bool ((r1.parts.tail.headD .undef).V)])∧H2=[.row Zi ((H2.headD .dead).xs)]∧∃ m2,Z9 Q m1 m2 x8n ((r1.parts.tail.headD .undef).V) x74 x75 x76 y73 ((r1.parts.headD .undef).V) ((((r1.parts.headD .undef).V).list).length) (([]:List Nat)) ((H2.headD .dead).xs) h0_0 h0_1) ((True∧True∧True)∧Q (.tup [.v (.mp Zd) (V.l y73),.v (.int .i64) (V.i 0)]) [.cells [.v (.sl Zg) (h0_0),.v (.sl Zb) (h0_1)]])
theorem ZgA (Q:QD) (m1:Nat) (x8n:Nat) (x74:V) (x75 x76:Int) (y73 y104:LL) (h0_0 h0_1:V):ZY Q (m1+1) x8n x74 x75 x76 y73 y104 h0_0 h0_1=ZhM Q m1 x8n x74 x75 x76 y73 y104 h0_0 h0_1:=by kernel_rfl
theorem Zf2 (Q:QD) (x8n:Nat) (x74 h0_0 h0_1:V) (n:Nat) (hb:n≤big) (J:Nat→LL→LL→Prop)
  (step:∀ (k:Nat) (y73 y104:LL),k<n→J k y73 y104→∀ m1:Nat,(∀ (y73' y104':LL),J (k+1) y73' y104'→ZY Q m1 x8n x74 (n:Int) (IntKind.i64.wrap ((k:Int)+(1:Int))) y73' y104' h0_0 h0_1)→(0≤(k:Int)∧(k:Int)<x74.list.length∧cl ZdH [.agg [.v (.int .u64) (((x74.list.getD k []).drop 0).headD V.none),.v (.sl Zn) ((((x74.list.getD k []).drop 0).tail).headD V.none)],.osl (.own 0) x8n] [.row Zi y104] fun r1 H2=>r1=(.tup [.v (.mp Zd) ((r1.parts.headD .undef).V),.v .bool ((r1.parts.tail.headD .undef).V)])∧H2=[.row Zi ((H2.headD .dead).xs)]∧∃ m2,Z9 Q m1 m2 x8n ((r1.parts.tail.headD .undef).V) x74 (n:Int) (k:Int) y73 ((r1.parts.headD .undef).V) ((((r1.parts.headD .undef).V).list).length) (([]:List Nat)) ((H2.headD .dead).xs) h0_0 h0_1))
  (last:∀ (y73 y104:LL),J n y73 y104→((True∧True∧True)∧Q (.tup [.v (.mp Zd) (V.l y73),.v (.int .i64) (V.i 0)]) [.cells [.v (.sl Zg) (h0_0),.v (.sl Zb) (h0_1)]]))
  (k:Nat) (y73 y104:LL) (le0:k≤n) (hj:J k y73 y104):∃ m1,ZY Q m1 x8n x74 (n:Int) ((k:Int)) y73 y104 h0_0 h0_1:=by
 exact rangeG2 n hb J (fun m1 i y73 y104=>ZY Q m1 x8n x74 (n:Int) i y73 y104 h0_0 h0_1) (fun m1 i y73 y104=>ZgA Q m1 x8n x74 (n:Int) i y73 y104 h0_0 h0_1) (fun k y73 y104 hl_ hj_ m_ ih_=>step k y73 y104 hl_ hj_ m_ ih_) last k y73 y104 le0 hj
def ZhN (Q:QD) (m0:Nat) (x8n:Nat) (x39:LL) (x40 x41:Int) (y3_0:ByteArray) (y3_1:Bool) (y3_2 y104:LL) (h0_0 h0_1:V):Prop :=
 iff (decide (x41<x40)) (0≤x41∧x41<x39.length∧cl Za8 [.ptr (.own 0) 0,.agg [.v .str (((x39.getD x41.toNat []).drop 0).headD V.none),.v .bool ((((x39.getD x41.toNat []).drop 0).tail).headD V.none),.v (.sl Za) (((((x39.getD x41.toNat []).drop 0).tail).tail).headD V.none)]] [.cells [.v (.sl Zg) (h0_0),.v (.sl Zb) (h0_1)]] fun r1 H2=>r1=(.tup [.v (.mp Zd) ((r1.parts.headD .undef).V),.v (.int .i64) ((r1.parts.tail.headD .undef).V)])∧H2=[.cells [.v (.sl Zg) ((((H2.headD .dead).cs).headD .undef).V),.v (.sl Zb) (((((H2.headD .dead).cs).tail).headD .undef).V)]]∧iff ((((r1.parts.tail.headD .undef).V).int) != (0:Int)) ((True∧True∧True)∧Q (.tup [.v (.mp Zd) (V.l ([])),.v (.int .i64) ((r1.parts.tail.headD .undef).V)]) [.cells [.v (.sl Zg) ((((H2.headD .dead).cs).headD .undef).V),.v (.sl Zb) (((((H2.headD .dead).cs).tail).headD .undef).V)]]) (y104.length=x8n∧x8n+([[(r1.parts.headD .undef).V]]).length≤lim∧ZaV Q m0 (x8n+([[(r1.parts.headD .undef).V]]).length) x39 x40 (IntKind.i64.wrap (x41+(1:Int))) y3_0 y3_1 y3_2 (y104++([[(r1.parts.headD .undef).V]])) ((((H2.headD .dead).cs).headD .undef).V) (((((H2.headD .dead).cs).tail).headD .undef).V))) ((∃ r3:D,cl Z0 [.v (.sl Zg) (h0_0),.agg [.v .str (V.s y3_0),.v (.int .i64) (V.i ((y3_2.length:Int)))]] [] (fun r H'=>r=(.tup [.v (.sl Zc) ((r3.parts.headD .undef).V),.v .bool ((r3.parts.tail.headD .undef).V)])∧H'=[])∧((((r3.parts.headD .undef).V).list).length≤big→∃ m1,ZY Q m1 x8n ((r3.parts.headD .undef).V) (((((r3.parts.headD .undef).V).list).length:Int)) 0 (([]:List (List V))) y104 h0_0 h0_1)))
theorem ZgC (Q:QD) (m0:Nat) (x8n:Nat) (x39:LL) (x40 x41:Int) (y3_0:ByteArray) (y3_1:Bool) (y3_2 y104:LL) (h0_0 h0_1:V):ZaV Q (m0+1) x8n x39 x40 x41 y3_0 y3_1 y3_2 y104 h0_0 h0_1=ZhN Q m0 x8n x39 x40 x41 y3_0 y3_1 y3_2 y104 h0_0 h0_1:=by kernel_rfl
theorem Zgi (Q:QD) (x39:LL) (y3_0:ByteArray) (y3_1:Bool) (y3_2:LL) (n:Nat) (hb:n≤big) (J:Nat→Nat→LL→V→V→Prop)
  (step:∀ (k:Nat) (x8n:Nat) (y104:LL) (h0_0 h0_1:V),k<n→J k x8n y104 h0_0 h0_1→∀ K:Nat→LL→V→V→Prop,(∀ (x8n':Nat) (y104':LL) (h0_0' h0_1':V),J (k+1) x8n' y104' h0_0' h0_1'→K x8n' y104' h0_0' h0_1')→(0≤(k:Int)∧(k:Int)<x39.length∧cl Za8 [.ptr (.own 0) 0,.agg [.v .str (((x39.getD k []).drop 0).headD V.none),.v .bool ((((x39.getD k []).drop 0).tail).headD V.none),.v (.sl Za) (((((x39.getD k []).drop 0).tail).tail).headD V.none)]] [.cells [.v (.sl Zg) (h0_0),.v (.sl Zb) (h0_1)]] fun r1 H2=>r1=(.tup [.v (.mp Zd) ((r1.parts.headD .undef).V),.v (.int .i64) ((r1.parts.tail.headD .undef).V)])∧H2=[.cells [.v (.sl Zg) ((((H2.headD .dead).cs).headD .undef).V),.v (.sl Zb) (((((H2.headD .dead).cs).tail).headD .undef).V)]]∧iff ((((r1.parts.tail.headD .undef).V).int) != (0:Int)) ((True∧True∧True)∧Q (.tup [.v (.mp Zd) (V.l ([])),.v (.int .i64) ((r1.parts.tail.headD .undef).V)]) [.cells [.v (.sl Zg) ((((H2.headD .dead).cs).headD .undef).V),.v (.sl Zb) (((((H2.headD .dead).cs).tail).headD .undef).V)]]) (y104.length=x8n∧x8n+([[(r1.parts.headD .undef).V]]).length≤lim∧K (x8n+([[(r1.parts.headD .undef).V]]).length) (y104++([[(r1.parts.headD .undef).V]])) ((((H2.headD .dead).cs).headD .undef).V) (((((H2.headD .dead).cs).tail).headD .undef).V))))
  (last:∀ (x8n:Nat) (y104:LL) (h0_0 h0_1:V),J n x8n y104 h0_0 h0_1→((∃ r3:D,cl Z0 [.v (.sl Zg) (h0_0),.agg [.v .str (V.s y3_0),.v (.int .i64) (V.i ((y3_2.length:Int)))]] [] (fun r H'=>r=(.tup [.v (.sl Zc) ((r3.parts.headD .undef).V),.v .bool ((r3.parts.tail.headD .undef).V)])∧H'=[])∧((((r3.parts.headD .undef).V).list).length≤big→∃ m1,ZY Q m1 x8n ((r3.parts.headD .undef).V) (((((r3.parts.headD .undef).V).list).length:Int)) 0 (([]:List (List V))) y104 h0_0 h0_1))))
  (k:Nat) (x8n:Nat) (y104:LL) (h0_0 h0_1:V) (le0:k≤n) (hj:J k x8n y104 h0_0 h0_1):∃ m0,ZaV Q m0 x8n x39 (n:Int) ((k:Int)) y3_0 y3_1 y3_2 y104 h0_0 h0_1:=by
 exact rangeG4 n hb J (fun m0 i x8n y104 h0_0 h0_1=>ZaV Q m0 x8n x39 (n:Int) i y3_0 y3_1 y3_2 y104 h0_0 h0_1) (fun m0 i x8n y104 h0_0 h0_1=>ZgC Q m0 x8n x39 (n:Int) i y3_0 y3_1 y3_2 y104 h0_0 h0_1) (fun k x8n y104 h0_0 h0_1 hl_ hj_ m_ ih_=>step k x8n y104 h0_0 h0_1 hl_ hj_ _ ih_) last k x8n y104 h0_0 h0_1 le0 hj
def Zfj (a1_0:ByteArray) (a1_1:Bool) (a1_2 h0_0 h0_1:LL) (Q:QD):Prop :=
 iff a1_1 ((∃ r1:D,cl Za0 [.v (.sl Zb) (V.l h0_1),.v .str (V.s a1_0)] [] (fun r H'=>r=(.tup [.v (.int .i64) ((r1.parts.headD .undef).V),.v .bool ((r1.parts.tail.headD .undef).V)])∧H'=[])∧cl Zez [.v (.int .i64) ((r1.parts.headD .undef).V),.v (.int .i64) (V.i 1)] [] fun r2 H3=>r2=(.v .str (r2.V))∧H3=[]∧(True∧True∧True)∧Q (.tup [.v (.mp Zd) (V.l (mset [.str] [r2.V] [V.i 1] (([]:List (List V))))),.v (.int .i64) (V.i 0)]) [.cells [.v (.sl Zg) (V.l h0_0),.v (.sl Zb) (V.l h0_1)]])) ((a1_2.length≤big→∃ m0,ZaV Q m0 0 a1_2 ((a1_2.length:Int)) 0 a1_0 a1_1 a1_2 (([]:List (List V))) (V.l h0_0) (V.l h0_1)))
theorem ZkP (a1_0:ByteArray) (a1_1:Bool) (a1_2 h0_0 h0_1:LL) (Q:QD) (h:Zfj a1_0 a1_1 a1_2 h0_0 h0_1 Q):cl Za8 [.ptr (.own 0) 0,.agg [.v .str (V.s a1_0),.v .bool (V.b a1_1),.v (.sl Za) (V.l a1_2)]] [.cells [.v (.sl Zg) (V.l h0_0),.v (.sl Zb) (V.l h0_1)]] Q :=
 acalls2 (E:=Zk) (envOk _ _ _ _ _) 1 Tryz.func88 (by kernel_rfl) h
def ZmT:Env:=envA [] [] [] [] []
def ZjZ (a0:ByteArray) (Q:QD):Prop :=
 iff (!(a0.toList == (ByteArray.mk #[]).toList)) ((a0.size≤big→0≤(IntKind.i64.wrap (((a0.size:Int)) - (1:Int)))∧(IntKind.i64.wrap (((a0.size:Int)) - (1:Int)))<a0.size∧True∧Q (.v .bool (V.b ((((a0.data.toList.getD ((IntKind.i64.wrap (((a0.size:Int)) - (1:Int)))).toNat 0).toNat:Int)) == (35:Int)))) [])) (True∧Q (.v .bool (V.b false)) [])
theorem ZnQ (a0:ByteArray) (Q:QD) (h:ZjZ a0 Q):cl Zfv [.v .str (V.s a0)] [] Q :=
 acalls2 (E:=ZmT) (envOk _ _ _ _ _) 0 Tryz.func92 (by kernel_rfl) h
def Zcq:Env:=envA [(2,ua 2 3 (ua 7 8 ([.dead 12])))] [] [] [] []
def ZlI (Q:QD):Post:=blockK 0 (seqJ Zcq (fnAt [1,1] Tryz.f93) (endK Zcq Tryz.f93 Q))
@[irreducible] def ZbX (Q:QD) (m0:Nat) (x0:ByteArray) (x5 x6:Int):Prop :=
 iter (adj (Zcq.adj 2)) (evCode Zcq (fnAt [1,0,1,0,0] Tryz.f93)) (ZlI Q) m0 ⟨(.v .str (V.s x0))::.skip::un 3 ((.v (.int .i64) (V.i x5))::(.v (.int .i64) (V.i x6))::un 8 ([])),dd 15 ([])⟩ []
def Zlg (Q:QD) (m0:Nat) (x0:ByteArray) (x5 x6:Int):Prop :=
 iff (decide (x6<x5)) (0≤x6∧x6<x0.size∧cl Zfq [.v (.int .u8) (V.i (((x0.data.toList.getD x6.toNat 0).toNat:Int)))] [] fun r1 H2=>r1=(.v .bool (r1.V))∧H2=[]∧iff (!r1.V.bool) (True∧Q (.v .bool (V.b false)) []) (ZbX Q m0 x0 x5 (IntKind.i64.wrap (x6+(1:Int))))) (True∧Q (.v .bool (V.b true)) [])
theorem Zi3 (Q:QD) (m0:Nat) (x0:ByteArray) (x5 x6:Int):ZbX Q (m0+1) x0 x5 x6=Zlg Q m0 x0 x5 x6:=by kernel_rfl
theorem Zix (Q:QD) (x0:ByteArray) (n:Nat) (hb:n≤big) (J:Nat→Prop)
  (step:∀ (k:Nat),k<n→J k→∀ K:Prop,(J (k+1)→K)→(0≤(k:Int)∧(k:Int)<x0.size∧cl Zfq [.v (.int .u8) (V.i (((x0.data.toList.getD k 0).toNat:Int)))] [] fun r1 H2=>r1=(.v .bool (r1.V))∧H2=[]∧iff (!r1.V.bool) (True∧Q (.v .bool (V.b false)) []) (K)))
  (last:J n→(True∧Q (.v .bool (V.b true)) []))
  (k:Nat) (le0:k≤n) (hj:J k):∃ m0,ZbX Q m0 x0 (n:Int) ((k:Int)):=by
 exact rangeG0 n hb J (fun m0 i=>ZbX Q m0 x0 (n:Int) i) (fun m0 i=>Zi3 Q m0 x0 (n:Int) i) (fun k hl_ hj_ m_ ih_=>step k hl_ hj_ _ ih_) last k le0 hj
def ZmD (a0:ByteArray) (Q:QD):Prop :=
 (a0.size≤big→∃ m0,ZbX Q m0 a0 ((a0.size:Int)) 0)
theorem Znj (a0:ByteArray) (Q:QD) (h:ZmD a0 Q):cl ZfW [.v .str (V.s a0)] [] Q :=
 acalls2 (E:=Zcq) (envOk _ _ _ _ _) 0 Tryz.func93 (by kernel_rfl) h
def ZiF:Env:=envA [] [] [] [] []
def Zfr (a0 a1:Int) (Q:QD):Prop :=
 iff (decide (a0<a1)) (True∧Q (.v (.int .i64) (V.i (-1))) []) (iff (decide (a0 > a1)) (True∧Q (.v (.int .i64) (V.i 1)) []) (True∧Q (.v (.int .i64) (V.i 0)) []))
theorem ZkU (a0 a1:Int) (Q:QD) (h:Zfr a0 a1 Q):cl ZU [.v (.int .i64) (V.i a0),.v (.int .i64) (V.i a1)] [] Q :=
 acalls2 (E:=ZiF) (envOk _ _ _ _ _) 0 Tryz.func94 (by kernel_rfl) h
def Zbz:Env:=envA [(6,ua 0 3 (ua 4 3 (ua 16 11 (ua 30 7 ([.dead 1,.dead 4,.dead 34]))))),(3000005,(.undef 0)::(.undef 2)::ua 5 2 (ua 16 10 ([.dead 18,.dead 23])))] [] [] [] [5]
def Zma (Q:QD):Post:=blockK 0 (seqJ Zbz (fnAt [1,1,1,1] Tryz.f95) (endK Zbz Tryz.f95 Q))
@[irreducible] def Zcv (Q:QD) (m0:Nat) (x27:LL) (x28 x29:Int):Prop :=
 iter (adj (Zbz.adj 6)) (evCode Zbz (fnAt [1,1,1,0,1,0,0] Tryz.f95)) (Zma Q) m0 ⟨un 3 (.skip::un 3 (sk 9 (un 11 ((.v (.sl Za) (V.l x27))::(.v (.int .i64) (V.i x28))::(.v (.int .i64) (V.i x29))::un 7 ([]))))),dd 37 ([])⟩ []
@[irreducible] def Zhg (Q:QD) (y1_0:ByteArray) (y1_1:Bool) (y1_2:LL):Prop :=
 joinM (evCode Zbz (fnAt [1,1,1] Tryz.f95)) ⟨.undef::(.ptr (.loc 1) 0)::.undef::sk 2 (un 2 (sk 9 (un 10 (sk 11 ([]))))),.dead::(.cells [.v .str (V.s y1_0),.v .bool (V.b y1_1),.v (.sl Za) (V.l y1_2)])::dd 35 ([])⟩ [] (endK Zbz Tryz.f95 Q)
def Zmr (Q:QD) (m0:Nat) (x27:LL) (x28 x29:Int):Prop :=
 iff (decide (x29<x28)) (0≤x29∧x29<x27.length∧cl ZeA [.agg [.v .str (((x27.getD x29.toNat []).drop 0).headD V.none),.v .bool ((((x27.getD x29.toNat []).drop 0).tail).headD V.none),.v (.sl Za) (((((x27.getD x29.toNat []).drop 0).tail).tail).headD V.none)]] [] fun r1 H2=>r1=(.v .bool (r1.V))∧H2=[]∧iff (!r1.V.bool) (True∧Q (.v .bool (V.b false)) []) (Zcv Q m0 x27 x28 (IntKind.i64.wrap (x29+(1:Int))))) (True∧Q (.v .bool (V.b true)) [])
theorem Zj9 (Q:QD) (m0:Nat) (x27:LL) (x28 x29:Int):Zcv Q (m0+1) x27 x28 x29=Zmr Q m0 x27 x28 x29:=by kernel_rfl
theorem Zjl (Q:QD) (x27:LL) (n:Nat) (hb:n≤big) (J:Nat→Prop)
  (step:∀ (k:Nat),k<n→J k→∀ K:Prop,(J (k+1)→K)→(0≤(k:Int)∧(k:Int)<x27.length∧cl ZeA [.agg [.v .str (((x27.getD k []).drop 0).headD V.none),.v .bool ((((x27.getD k []).drop 0).tail).headD V.none),.v (.sl Za) (((((x27.getD k []).drop 0).tail).tail).headD V.none)]] [] fun r1 H2=>r1=(.v .bool (r1.V))∧H2=[]∧iff (!r1.V.bool) (True∧Q (.v .bool (V.b false)) []) (K)))
  (last:J n→(True∧Q (.v .bool (V.b true)) []))
  (k:Nat) (le0:k≤n) (hj:J k):∃ m0,Zcv Q m0 x27 (n:Int) ((k:Int)):=by
 exact rangeG0 n hb J (fun m0 i=>Zcv Q m0 x27 (n:Int) i) (fun m0 i=>Zj9 Q m0 x27 (n:Int) i) (fun k hl_ hj_ m_ ih_=>step k hl_ hj_ _ ih_) last k le0 hj
def Zl1 (Q:QD) (y1_0:ByteArray) (y1_1:Bool) (y1_2:LL):Prop :=
 (y1_2.length≤big→∃ m0,Zcv Q m0 y1_2 ((y1_2.length:Int)) 0)
theorem Zj2 (Q:QD) (y1_0:ByteArray) (y1_1:Bool) (y1_2:LL):Zhg Q y1_0 y1_1 y1_2=Zl1 Q y1_0 y1_1 y1_2:=by kernel_rfl
def ZiZ (a0_0:ByteArray) (a0_1:Bool) (a0_2:LL) (Q:QD):Prop :=
 iff a0_1 (cl Zdv [.v .str (V.s a0_0),.v .bool (V.b false)] [] fun r1 H2=>r1=(.v .bool (r1.V))∧H2=[]∧iff r1.V.bool ((a0_2.length≤big→True∧Q (.v .bool (V.b (((a0_2.length:Int)) == (0:Int)))) [])) (True∧Q (.v .bool (V.b false)) [])) (cl Zdv [.v .str (V.s a0_0),.v .bool (V.b true)] [] fun r3 H4=>r3=(.v .bool (r3.V))∧H4=[]∧iff (!r3.V.bool) (True∧Q (.v .bool (V.b false)) []) ((a0_2.length≤big→iff (decide (((a0_2.length:Int)) > (8:Int))) (True∧Q (.v .bool (V.b false)) []) (Zhg Q a0_0 a0_1 a0_2))))
theorem ZnY (a0_0:ByteArray) (a0_1:Bool) (a0_2:LL) (Q:QD) (h:ZiZ a0_0 a0_1 a0_2 Q):cl ZeA [.agg [.v .str (V.s a0_0),.v .bool (V.b a0_1),.v (.sl Za) (V.l a0_2)]] [] Q :=
 acalls2 (E:=Zbz) (envOk _ _ _ _ _) 0 Tryz.func95 (by kernel_rfl) h
def Zes:Env:=envA [(3,ua 0 3 (ua 5 2 (ua 10 8 ([.dead 1,.dead 5,.dead 15]))))] [] [] [] []
def ZnD (Q:QD):Post:=blockK 0 (seqJ Zes (fnAt [1,1,1] Tryz.f96) (endK Zes Tryz.f96 Q))
@[irreducible] def ZdP (Q:QD) (m0:Nat) (x3:Int) (x7:LL) (x8 x9:Int):Prop :=
 iter (adj (Zes.adj 3)) (evCode Zes (fnAt [1,1,0,1,0,0] Tryz.f96)) (ZnD Q) m0 ⟨un 3 ((.v (.int .i64) (V.i x3))::.skip::un 2 ((.v (.sl Za) (V.l x7))::(.v (.int .i64) (V.i x8))::(.v (.int .i64) (V.i x9))::un 8 ([.skip]))),dd 19 ([])⟩ []
def ZnB (Q:QD) (m0:Nat) (x3:Int) (x7:LL) (x8 x9:Int):Prop :=
 iff (decide (x9<x8)) (0≤x9∧x9<x7.length∧cl ZfK [.agg [.v .str (((x7.getD x9.toNat []).drop 0).headD V.none),.v .bool ((((x7.getD x9.toNat []).drop 0).tail).headD V.none),.v (.sl Za) (((((x7.getD x9.toNat []).drop 0).tail).tail).headD V.none)]] [] fun r1 H2=>r1=(.v (.int .i64) (r1.V))∧H2=[]∧ZdP Q m0 (IntKind.i64.wrap (x3+r1.V.int)) x7 x8 (IntKind.i64.wrap (x9+(1:Int)))) (True∧Q (.v (.int .i64) (V.i x3)) [])
theorem ZlN (Q:QD) (m0:Nat) (x3:Int) (x7:LL) (x8 x9:Int):ZdP Q (m0+1) x3 x7 x8 x9=ZnB Q m0 x3 x7 x8 x9:=by kernel_rfl
theorem Zk8 (Q:QD) (x7:LL) (n:Nat) (hb:n≤big) (J:Nat→Int→Prop)
  (step:∀ (k:Nat) (x3:Int),k<n→J k x3→∀ K:Int→Prop,(∀ (x3':Int),J (k+1) x3'→K x3')→(0≤(k:Int)∧(k:Int)<x7.length∧cl ZfK [.agg [.v .str (((x7.getD k []).drop 0).headD V.none),.v .bool ((((x7.getD k []).drop 0).tail).headD V.none),.v (.sl Za) (((((x7.getD k []).drop 0).tail).tail).headD V.none)]] [] fun r1 H2=>r1=(.v (.int .i64) (r1.V))∧H2=[]∧K (IntKind.i64.wrap (x3+r1.V.int))))
  (last:∀ (x3:Int),J n x3→(True∧Q (.v (.int .i64) (V.i x3)) []))
  (k:Nat) (x3:Int) (le0:k≤n) (hj:J k x3):∃ m0,ZdP Q m0 x3 x7 (n:Int) ((k:Int)):=by
 exact rangeG1 n hb J (fun m0 i x3=>ZdP Q m0 x3 x7 (n:Int) i) (fun m0 i x3=>ZlN Q m0 x3 x7 (n:Int) i) (fun k x3 hl_ hj_ m_ ih_=>step k x3 hl_ hj_ _ ih_) last k x3 le0 hj
def Zoh (a0_0:ByteArray) (a0_1:Bool) (a0_2:LL) (Q:QD):Prop :=
 (a0_2.length≤big→∃ m0,ZdP Q m0 1 a0_2 ((a0_2.length:Int)) 0)
theorem Zox (a0_0:ByteArray) (a0_1:Bool) (a0_2:LL) (Q:QD) (h:Zoh a0_0 a0_1 a0_2 Q):cl ZfK [.agg [.v .str (V.s a0_0),.v .bool (V.b a0_1),.v (.sl Za) (V.l a0_2)]] [] Q :=
 acalls2 (E:=Zes) (envOk _ _ _ _ _) 0 Tryz.func96 (by kernel_rfl) h
def ZdQ:Env:=envA [(3,ua 0 3 (ua 5 2 (ua 10 8 ((.dead 1)::(.dead 5)::da 15 2 ([])))))] [] [] [] []
def Znc (Q:QD):Post:=blockK 0 (seqJ ZdQ (fnAt [1,1,1] Tryz.f97) (endK ZdQ Tryz.f97 Q))
@[irreducible] def Zde (Q:QD) (m0:Nat) (x3:Int) (x7:LL) (x8 x9:Int):Prop :=
 iter (adj (ZdQ.adj 3)) (evCode ZdQ (fnAt [1,1,0,1,0,0] Tryz.f97)) (Znc Q) m0 ⟨un 3 ((.v (.int .i64) (V.i x3))::.skip::un 2 ((.v (.sl Za) (V.l x7))::(.v (.int .i64) (V.i x8))::(.v (.int .i64) (V.i x9))::un 8 (sk 2 ([])))),dd 20 ([])⟩ []
def Zmy (Q:QD) (m0:Nat) (x3:Int) (x7:LL) (x8 x9:Int):Prop :=
 iff (decide (x9<x8)) (0≤x9∧x9<x7.length∧cl Ze8 [.agg [.v .str (((x7.getD x9.toNat []).drop 0).headD V.none),.v .bool ((((x7.getD x9.toNat []).drop 0).tail).headD V.none),.v (.sl Za) (((((x7.getD x9.toNat []).drop 0).tail).tail).headD V.none)]] [] fun r1 H2=>r1=(.v (.int .i64) (r1.V))∧H2=[]∧Zde Q m0 (if r1.V.int > x3 then r1.V.int else x3) x7 x8 (IntKind.i64.wrap (x9+(1:Int)))) (True∧Q (.v (.int .i64) (V.i (IntKind.i64.wrap (x3+(1:Int))))) [])
theorem ZlC (Q:QD) (m0:Nat) (x3:Int) (x7:LL) (x8 x9:Int):Zde Q (m0+1) x3 x7 x8 x9=Zmy Q m0 x3 x7 x8 x9:=by kernel_rfl
theorem ZkH (Q:QD) (x7:LL) (n:Nat) (hb:n≤big) (J:Nat→Int→Prop)
  (step:∀ (k:Nat) (x3:Int),k<n→J k x3→∀ K:Int→Prop,(∀ (x3':Int),J (k+1) x3'→K x3')→(0≤(k:Int)∧(k:Int)<x7.length∧cl Ze8 [.agg [.v .str (((x7.getD k []).drop 0).headD V.none),.v .bool ((((x7.getD k []).drop 0).tail).headD V.none),.v (.sl Za) (((((x7.getD k []).drop 0).tail).tail).headD V.none)]] [] fun r1 H2=>r1=(.v (.int .i64) (r1.V))∧H2=[]∧K (if r1.V.int > x3 then r1.V.int else x3)))
  (last:∀ (x3:Int),J n x3→(True∧Q (.v (.int .i64) (V.i (IntKind.i64.wrap (x3+(1:Int))))) []))
  (k:Nat) (x3:Int) (le0:k≤n) (hj:J k x3):∃ m0,Zde Q m0 x3 x7 (n:Int) ((k:Int)):=by
 exact rangeG1 n hb J (fun m0 i x3=>Zde Q m0 x3 x7 (n:Int) i) (fun m0 i x3=>ZlC Q m0 x3 x7 (n:Int) i) (fun k x3 hl_ hj_ m_ ih_=>step k x3 hl_ hj_ _ ih_) last k x3 le0 hj
def Zod (a0_0:ByteArray) (a0_1:Bool) (a0_2:LL) (Q:QD):Prop :=
 (a0_2.length≤big→∃ m0,Zde Q m0 0 a0_2 ((a0_2.length:Int)) 0)
theorem Zom (a0_0:ByteArray) (a0_1:Bool) (a0_2:LL) (Q:QD) (h:Zod a0_0 a0_1 a0_2 Q):cl Ze8 [.agg [.v .str (V.s a0_0),.v .bool (V.b a0_1),.v (.sl Za) (V.l a0_2)]] [] Q :=
 acalls2 (E:=ZdQ) (envOk _ _ _ _ _) 0 Tryz.func97 (by kernel_rfl) h
def Zbh:Env:=envA [(4,(.undef 0)::(.undef 2)::(.undef 4)::ua 6 8 (ua 17 7 ([.dead 2,.dead 6,.dead 22]))),(3000003,(.undef 0)::(.undef 4)::ua 7 6 ([.dead 12]))] [] [] [] [3]
def ZlG (Q:QD):Post:=blockK 0 (seqJ Zbh (fnAt [1,1,1] Tryz.f98) (endK Zbh Tryz.f98 Q))
@[irreducible] def ZbY (Q:QD) (m0:Nat) (x1:V) (x14:LL) (x15 x16:Int):Prop :=
 iter (adj (Zbh.adj 4)) (evCode Zbh (fnAt [1,1,0,1,0,0] Tryz.f98)) (ZlG Q) m0 ⟨.undef::(.v (.sl Zb) (x1))::.undef::.skip::.undef::.skip::un 8 ((.v (.sl Za) (V.l x14))::(.v (.int .i64) (V.i x15))::(.v (.int .i64) (V.i x16))::un 7 ([.skip])),dd 25 ([])⟩ []
@[irreducible] def Zdk (Q:QD) (x1:V) (y2_0:ByteArray) (y2_1:Bool) (y2_2:LL):Prop :=
 joinM (evCode Zbh (fnAt [1,1] Tryz.f98)) ⟨.undef::(.v (.sl Zb) (x1))::(.ptr (.loc 2) 0)::.skip::.undef::sk 2 (un 6 (sk 12 ([]))),dd 2 ((.cells [.v .str (V.s y2_0),.v .bool (V.b y2_1),.v (.sl Za) (V.l y2_2)])::dd 22 ([]))⟩ [] (endK Zbh Tryz.f98 Q)
def Zlf (Q:QD) (m0:Nat) (x1:V) (x14:LL) (x15 x16:Int):Prop :=
 iff (decide (x16<x15)) (0≤x16∧x16<x14.length∧cl ZcN [.agg [.v .str (((x14.getD x16.toNat []).drop 0).headD V.none),.v .bool ((((x14.getD x16.toNat []).drop 0).tail).headD V.none),.v (.sl Za) (((((x14.getD x16.toNat []).drop 0).tail).tail).headD V.none)],.v (.sl Zb) (x1)] [] fun r1 H2=>r1=(.v (.sl Zb) (r1.V))∧H2=[]∧ZbY Q m0 r1.V x14 x15 (IntKind.i64.wrap (x16+(1:Int)))) (True∧Q (.v (.sl Zb) (x1)) [])
theorem ZjC (Q:QD) (m0:Nat) (x1:V) (x14:LL) (x15 x16:Int):ZbY Q (m0+1) x1 x14 x15 x16=Zlf Q m0 x1 x14 x15 x16:=by kernel_rfl
theorem ZiN (Q:QD) (x14:LL) (n:Nat) (hb:n≤big) (J:Nat→V→Prop)
  (step:∀ (k:Nat) (x1:V),k<n→J k x1→∀ K:V→Prop,(∀ (x1':V),J (k+1) x1'→K x1')→(0≤(k:Int)∧(k:Int)<x14.length∧cl ZcN [.agg [.v .str (((x14.getD k []).drop 0).headD V.none),.v .bool ((((x14.getD k []).drop 0).tail).headD V.none),.v (.sl Za) (((((x14.getD k []).drop 0).tail).tail).headD V.none)],.v (.sl Zb) (x1)] [] fun r1 H2=>r1=(.v (.sl Zb) (r1.V))∧H2=[]∧K r1.V))
  (last:∀ (x1:V),J n x1→(True∧Q (.v (.sl Zb) (x1)) []))
  (k:Nat) (x1:V) (le0:k≤n) (hj:J k x1):∃ m0,ZbY Q m0 x1 x14 (n:Int) ((k:Int)):=by
 exact rangeG1 n hb J (fun m0 i x1=>ZbY Q m0 x1 x14 (n:Int) i) (fun m0 i x1=>ZjC Q m0 x1 x14 (n:Int) i) (fun k x1 hl_ hj_ m_ ih_=>step k x1 hl_ hj_ _ ih_) last k x1 le0 hj
def ZlE (Q:QD) (x1:V) (y2_0:ByteArray) (y2_1:Bool) (y2_2:LL):Prop :=
 (y2_2.length≤big→∃ m0,ZbY Q m0 x1 y2_2 ((y2_2.length:Int)) 0)
theorem Zi1 (Q:QD) (x1:V) (y2_0:ByteArray) (y2_1:Bool) (y2_2:LL):Zdk Q x1 y2_0 y2_1 y2_2=ZlE Q x1 y2_0 y2_1 y2_2:=by kernel_rfl
def Zid (a0_0:ByteArray) (a0_1:Bool) (a0_2 a1:LL) (Q:QD):Prop :=
 iff a0_1 (cl ZgP [.v (.sl Zb) (V.l a1),.v .str (V.s a0_0)] [] fun r1 H2=>r1=(.v (.sl Zb) (r1.V))∧H2=[]∧Zdk Q r1.V a0_0 a0_1 a0_2) (Zdk Q (V.l a1) a0_0 a0_1 a0_2)
theorem ZnA (a0_0:ByteArray) (a0_1:Bool) (a0_2 a1:LL) (Q:QD) (h:Zid a0_0 a0_1 a0_2 a1 Q):cl ZcN [.agg [.v .str (V.s a0_0),.v .bool (V.b a0_1),.v (.sl Za) (V.l a0_2)],.v (.sl Zb) (V.l a1)] [] Q :=
 acalls2 (E:=Zbh) (envOk _ _ _ _ _) 0 Tryz.func98 (by kernel_rfl) h
def Zn0:Env:=envA [] [] [] [] []
def Zmc (a0 a1:Int) (Q:QD):Prop :=
 0≤a0∧a0=a0∧a0≤lim∧(zeroRow [.int .i64] a0.toNat).length=a0.toNat∧0≤a1∧a1<a0.toNat∧(zeroRow [.int .i64] a0.toNat).length=a0.toNat∧a1.toNat<a0.toNat∧(a0.toNat=((zeroRow [.int .i64] a0.toNat).set a1.toNat (setV ((zeroRow [.int .i64] a0.toNat).getD a1.toNat []) 0 [V.i 1])).length)∧Q (.v (.sl Zn) (V.l ((zeroRow [.int .i64] a0.toNat).set a1.toNat (setV ((zeroRow [.int .i64] a0.toNat).getD a1.toNat []) 0 [V.i 1])))) []
theorem Zoz (a0 a1:Int) (Q:QD) (h:Zmc a0 a1 Q):cl ZfP [.v (.int .i64) (V.i a0),.v (.int .i64) (V.i a1)] [] Q :=
 acalls2 (E:=Zn0) (envOk _ _ _ _ _) 0 Tryz.func99 (by kernel_rfl) h
def Zj:Env:=envA [(3,(.undef 0)::ua 6 2 (ua 10 6 ((.undef 17)::ua 21 50 ([.dead 10,.dead 17,.dead 26,.dead 30,.dead 32,.dead 35,.dead 50,.dead 59,.dead 66,.dead 69,.plainT 8 Zc])))),(8,(.undef 0)::ua 6 2 ((.undef 10)::ua 12 4 ((.undef 17)::ua 21 13 (ua 37 34 ([.dead 10,.dead 50]))))),(11,(.undef 0)::ua 6 2 ((.undef 10)::ua 13 3 ((.undef 17)::ua 21 13 (ua 37 4 (ua 43 28 ([.dead 50])))))),(19,(.undef 0)::ua 6 2 (ua 10 6 ((.undef 17)::ua 21 37 (ua 61 10 ([.dead 17,.dead 66,.plainT 8 Zc])))))] [] [6000006] [(5000030,[⟨0,0,0⟩])] []
def Zct (Q:QD):Post:=blockK 0 (seqJ Zj (fnAt [1,1,1] Tryz.f100) (endK Zj Tryz.f100 Q))
def ZeW (Q:QD) (m0:Nat):Post:=blockK 2 (seqJ Zj (fnAt [1,1,0,1,0,0,1,1,0,0,1,1,1,1] Tryz.f100) (blockK 1 (seqJ Zj (fnAt [1,1,0,1,0,0,1,1,1] Tryz.f100) (loopK (adj (Zj.adj 3)) (iter (adj (Zj.adj 3)) (evCode Zj (fnAt [1,1,0,1,0,0] Tryz.f100)) (Zct Q) m0) (Zct Q)))))
def Zmk (Q:QD) (m0:Nat):Post:=blockK 6 (seqJ Zj (fnAt [1,1,0,1,0,0,1,1,0,0,1,1,1,1,1] Tryz.f100) (blockK 1 (seqJ Zj (fnAt [1,1,0,1,0,0,1,1,1] Tryz.f100) (loopK (adj (Zj.adj 3)) (iter (adj (Zj.adj 3)) (evCode Zj (fnAt [1,1,0,1,0,0] Tryz.f100)) (Zct Q) m0) (Zct Q)))))
def Zl0 (Q:QD) (m0 m1:Nat):Post:=blockK 4 (blockK 3 (seqJ Zj (fnAt [1,1,0,1,0,0,1,1,0,0,1,1,1,0,1,0,0,1,1,1] Tryz.f100) (loopK (adj (Zj.adj 8)) (iter (adj (Zj.adj 8)) (evCode Zj (fnAt [1,1,0,1,0,0,1,1,0,0,1,1,1,0,1,0,0] Tryz.f100)) (ZeW Q m0) m1) (ZeW Q m0))))
@[irreducible] def Zcr (Q:QD) (m0 m1 m2:Nat) (x1n:Nat) (x2:Int) (x8 x11:V) (x12:Int) (x18:LL) (x19 x20:Int) (x34:V) (x35 x36:Int) (x41:V) (x42:Int) (h0:LL):Prop :=
 iter (adj (Zj.adj 11)) (evCode Zj (fnAt [1,1,0,1,0,0,1,1,0,0,1,1,1,0,1,0,0,1,1,0,0,1,1,0,0] Tryz.f100)) (Zl0 Q m0 m1) m2 ⟨.undef::(.osl (.own 0) x1n)::(.v (.int .i64) (V.i x2))::sk 3 (un 2 ((.v (.sl Zc) (x8))::.skip::.undef::(.v (.sl Zc) (x11))::(.v (.int .i64) (V.i x12))::un 3 (.skip::.undef::(.v (.sl Zc) (V.l x18))::(.v (.int .i64) (V.i x19))::(.v (.int .i64) (V.i x20))::un 13 ((.v (.sl Zn) (x34))::(.v (.int .i64) (V.i x35))::(.v (.int .i64) (V.i x36))::un 4 ((.v (.int .i64) (x41))::(.v (.int .i64) (V.i x42))::un 28 ([.skip])))))),dd 72 ([])⟩ [.row ZR h0]
@[irreducible] def ZbN (Q:QD) (m0 m3:Nat) (x1n:Nat) (x2:Int) (x8:V) (x18:LL) (x19 x20:Int) (x58:V) (x59 x60:Int) (h0:LL):Prop :=
 iter (adj (Zj.adj 19)) (evCode Zj (fnAt [1,1,0,1,0,0,1,1,0,0,1,1,1,1,0,1,0,0] Tryz.f100)) (Zmk Q m0) m3 ⟨.undef::(.osl (.own 0) x1n)::(.v (.int .i64) (V.i x2))::sk 3 (un 2 ((.v (.sl Zc) (x8))::.skip::un 6 (.skip::.undef::(.v (.sl Zc) (V.l x18))::(.v (.int .i64) (V.i x19))::(.v (.int .i64) (V.i x20))::un 37 ((.v (.sl Zc) (x58))::(.v (.int .i64) (V.i x59))::(.v (.int .i64) (V.i x60))::un 10 ([.skip]))))),dd 72 ([])⟩ [.row ZR h0]
@[irreducible] def Zad (Q:QD) (m0 m1:Nat) (x1n:Nat) (x2:Int) (x8 x11:V) (x18:LL) (x19 x20:Int) (x34:V) (x35 x36:Int) (h0:LL):Prop :=
 iter (adj (Zj.adj 8)) (evCode Zj (fnAt [1,1,0,1,0,0,1,1,0,0,1,1,1,0,1,0,0] Tryz.f100)) (ZeW Q m0) m1 ⟨.undef::(.osl (.own 0) x1n)::(.v (.int .i64) (V.i x2))::sk 3 (un 2 ((.v (.sl Zc) (x8))::.skip::.undef::(.v (.sl Zc) (x11))::un 4 (.skip::.undef::(.v (.sl Zc) (V.l x18))::(.v (.int .i64) (V.i x19))::(.v (.int .i64) (V.i x20))::un 13 ((.v (.sl Zn) (x34))::(.v (.int .i64) (V.i x35))::(.v (.int .i64) (V.i x36))::un 34 ([.skip]))))),dd 72 ([])⟩ [.row ZR h0]
@[irreducible] def Zan (Q:QD) (m0:Nat) (x1n:Nat) (x2:Int) (x8:V) (x18:LL) (x19 x20:Int) (h0:LL):Prop :=
 iter (adj (Zj.adj 3)) (evCode Zj (fnAt [1,1,0,1,0,0] Tryz.f100)) (Zct Q) m0 ⟨.undef::(.osl (.own 0) x1n)::(.v (.int .i64) (V.i x2))::sk 3 (un 2 ((.v (.sl Zc) (x8))::.skip::un 6 (.skip::.undef::(.v (.sl Zc) (V.l x18))::(.v (.int .i64) (V.i x19))::(.v (.int .i64) (V.i x20))::un 50 ([.skip])))),dd 72 ([])⟩ [.row ZR h0]
def Ze6 (Q:QD) (m0 m1 m2:Nat) (x1n:Nat) (x2:Int) (x8 x11:V) (x12:Int) (x18:LL) (x19 x20:Int) (x34:V) (x35 x36:Int) (x41:V) (x42:Int) (h0:LL):Prop :=
 iff (decide (x42<x41.int)) (h0.length=x1n∧0≤x12∧x12<x1n∧h0.length=x1n∧x12.toNat<x1n∧cl Zfz [.v (.sl Zc) (x11),.v (.sl Zc) (((h0.getD x12.toNat []).drop 0).headD V.none)] [] fun r1 H2=>r1=(.tup [.v (.sl Zc) ((r1.parts.headD .undef).V),.v .bool ((r1.parts.tail.headD .undef).V)])∧H2=[]∧iff (!(((r1.parts.tail.headD .undef).V).bool)) ((True∧True∧True)∧Q (.tup [.nil,.v .bool (V.b false)]) [.row ZR h0]) (Zcr Q m0 m1 m2 x1n x2 x8 ((r1.parts.headD .undef).V) x12 x18 x19 x20 x34 x35 x36 x41 (IntKind.i64.wrap (x42+(1:Int))) h0)) (Zad Q m0 m1 x1n x2 x8 x11 x18 x19 x20 x34 x35 (IntKind.i64.wrap (x36+(1:Int))) h0)
theorem Zkl (Q:QD) (m0 m1 m2:Nat) (x1n:Nat) (x2:Int) (x8 x11:V) (x12:Int) (x18:LL) (x19 x20:Int) (x34:V) (x35 x36:Int) (x41:V) (x42:Int) (h0:LL):Zcr Q m0 m1 (m2+1) x1n x2 x8 x11 x12 x18 x19 x20 x34 x35 x36 x41 x42 h0=Ze6 Q m0 m1 m2 x1n x2 x8 x11 x12 x18 x19 x20 x34 x35 x36 x41 x42 h0:=by kernel_rfl
theorem ZkL (Q:QD) (m0 m1:Nat):RuleG14 (Zcr Q m0 m1) (Ze6 Q m0 m1):=ruleG14 _ _ (Zkl Q m0 m1)
def ZlZ (Q:QD) (m0 m3:Nat) (x1n:Nat) (x2:Int) (x8:V) (x18:LL) (x19 x20:Int) (x58:V) (x59 x60:Int) (h0:LL):Prop :=
 iff (decide (x60<x59)) (0≤x60∧x60<x58.list.length∧cl ZfV [.v (.sl Zc) (x8),.agg [.v (.int .u64) (((x58.list.getD x60.toNat []).drop 0).headD V.none),.v (.sl Zn) ((((x58.list.getD x60.toNat []).drop 0).tail).headD V.none)]] [] fun r1 H2=>r1=(.v (.sl Zc) (r1.V))∧H2=[]∧ZbN Q m0 m3 x1n x2 r1.V x18 x19 x20 x58 x59 (IntKind.i64.wrap (x60+(1:Int))) h0) (cl Zeh [.v (.sl Zc) (x8)] [] fun r3 H4=>r3=(.v .bool (r3.V))∧H4=[]∧iff r3.V.bool ((True∧True∧True)∧Q (.tup [.nil,.v .bool (V.b false)]) [.row ZR h0]) (Zan Q m0 x1n x2 x8 x18 x19 (IntKind.i64.wrap (x20+(1:Int))) h0))
theorem Zkk (Q:QD) (m0 m3:Nat) (x1n:Nat) (x2:Int) (x8:V) (x18:LL) (x19 x20:Int) (x58:V) (x59 x60:Int) (h0:LL):ZbN Q m0 (m3+1) x1n x2 x8 x18 x19 x20 x58 x59 x60 h0=ZlZ Q m0 m3 x1n x2 x8 x18 x19 x20 x58 x59 x60 h0:=by kernel_rfl
theorem ZjW (Q:QD) (m0:Nat) (x1n:Nat) (x2:Int) (x18:LL) (x19 x20:Int) (x58:V) (h0:LL) (n:Nat) (hb:n≤big) (J:Nat→V→Prop)
  (step:∀ (k:Nat) (x8:V),k<n→J k x8→∀ K:V→Prop,(∀ (x8':V),J (k+1) x8'→K x8')→(0≤(k:Int)∧(k:Int)<x58.list.length∧cl ZfV [.v (.sl Zc) (x8),.agg [.v (.int .u64) (((x58.list.getD k []).drop 0).headD V.none),.v (.sl Zn) ((((x58.list.getD k []).drop 0).tail).headD V.none)]] [] fun r1 H2=>r1=(.v (.sl Zc) (r1.V))∧H2=[]∧K r1.V))
  (last:∀ (x8:V),J n x8→(cl Zeh [.v (.sl Zc) (x8)] [] fun r3 H4=>r3=(.v .bool (r3.V))∧H4=[]∧iff r3.V.bool ((True∧True∧True)∧Q (.tup [.nil,.v .bool (V.b false)]) [.row ZR h0]) (Zan Q m0 x1n x2 x8 x18 x19 (IntKind.i64.wrap (x20+(1:Int))) h0)))
  (k:Nat) (x8:V) (le0:k≤n) (hj:J k x8):∃ m3,ZbN Q m0 m3 x1n x2 x8 x18 x19 x20 x58 (n:Int) ((k:Int)) h0:=by
 exact rangeG1 n hb J (fun m3 i x8=>ZbN Q m0 m3 x1n x2 x8 x18 x19 x20 x58 (n:Int) i h0) (fun m3 i x8=>Zkk Q m0 m3 x1n x2 x8 x18 x19 x20 x58 (n:Int) i h0) (fun k x8 hl_ hj_ m_ ih_=>step k x8 hl_ hj_ _ ih_) last k x8 le0 hj
def Zmf (Q:QD) (m0 m1:Nat) (x1n:Nat) (x2:Int) (x8 x11:V) (x18:LL) (x19 x20:Int) (x34:V) (x35 x36:Int) (h0:LL):Prop :=
 iff (decide (x36<x35)) (0≤x36∧x36<x34.list.length∧∃ m2,Zcr Q m0 m1 m2 x1n x2 x8 x11 x36 x18 x19 x20 x34 x35 x36 (((x34.list.getD x36.toNat []).drop 0).headD V.none) 0 h0) ((x11.list.length≤big→∃ m3,ZbN Q m0 m3 x1n x2 x8 x18 x19 x20 x11 ((x11.list.length:Int)) 0 h0))
theorem ZkE (Q:QD) (m0 m1:Nat) (x1n:Nat) (x2:Int) (x8 x11:V) (x18:LL) (x19 x20:Int) (x34:V) (x35 x36:Int) (h0:LL):Zad Q m0 (m1+1) x1n x2 x8 x11 x18 x19 x20 x34 x35 x36 h0=Zmf Q m0 m1 x1n x2 x8 x11 x18 x19 x20 x34 x35 x36 h0:=by kernel_rfl
theorem Zjc (Q:QD) (m0:Nat) (x1n:Nat) (x2:Int) (x8:V) (x18:LL) (x19 x20:Int) (x34:V) (h0:LL) (n:Nat) (hb:n≤big) (J:Nat→V→Prop)
  (step:∀ (k:Nat) (x11:V),k<n→J k x11→∀ m1:Nat,(∀ (x11':V),J (k+1) x11'→Zad Q m0 m1 x1n x2 x8 x11' x18 x19 x20 x34 (n:Int) (IntKind.i64.wrap ((k:Int)+(1:Int))) h0)→(0≤(k:Int)∧(k:Int)<x34.list.length∧∃ m2,Zcr Q m0 m1 m2 x1n x2 x8 x11 (k:Int) x18 x19 x20 x34 (n:Int) (k:Int) (((x34.list.getD k []).drop 0).headD V.none) 0 h0))
  (last:∀ (x11:V),J n x11→((x11.list.length≤big→∃ m3,ZbN Q m0 m3 x1n x2 x8 x18 x19 x20 x11 ((x11.list.length:Int)) 0 h0)))
  (k:Nat) (x11:V) (le0:k≤n) (hj:J k x11):∃ m1,Zad Q m0 m1 x1n x2 x8 x11 x18 x19 x20 x34 (n:Int) ((k:Int)) h0:=by
 exact rangeG1 n hb J (fun m1 i x11=>Zad Q m0 m1 x1n x2 x8 x11 x18 x19 x20 x34 (n:Int) i h0) (fun m1 i x11=>ZkE Q m0 m1 x1n x2 x8 x11 x18 x19 x20 x34 (n:Int) i h0) (fun k x11 hl_ hj_ m_ ih_=>step k x11 hl_ hj_ m_ ih_) last k x11 le0 hj
def ZlQ (Q:QD) (m0:Nat) (x1n:Nat) (x2:Int) (x8:V) (x18:LL) (x19 x20:Int) (h0:LL):Prop :=
 iff (decide (x20<x19)) (0≤x20∧x20<x18.length∧cl Zej [.agg [.v (.int .u64) (((x18.getD x20.toNat []).drop 0).headD V.none),.v (.sl Zn) ((((x18.getD x20.toNat []).drop 0).tail).headD V.none)],.osl (.own 0) x1n] [.row ZR h0] fun r1 H2=>r1=(.v .bool (r1.V))∧H2=[.row ZR ((H2.headD .dead).xs)]∧iff r1.V.bool (Zan Q m0 x1n x2 x8 x18 x19 (IntKind.i64.wrap (x20+(1:Int))) ((H2.headD .dead).xs)) ((0≤x2∧x2=x2∧x2≤lim∧x2.toNat=(zeroRow [.int .i64] x2.toNat).length∧((((((x18.getD x20.toNat []).drop 0).tail).headD V.none).list).length≤big→∃ m1,Zad Q m0 m1 x1n x2 x8 (V.l ([[((x18.getD x20.toNat []).drop 0).headD V.none,V.l (zeroRow [.int .i64] x2.toNat)]])) x18 x19 x20 ((((x18.getD x20.toNat []).drop 0).tail).headD V.none) (((((((x18.getD x20.toNat []).drop 0).tail).headD V.none).list).length:Int)) 0 ((H2.headD .dead).xs)))∧(0≤x2∧x2=x2∧x2≤lim∧x2.toNat=(zeroRow [.int .i64] x2.toNat).length∧((((((x18.getD x20.toNat []).drop 0).tail).headD V.none).list).length≤big→∃ m1,Zad Q m0 m1 x1n x2 x8 (V.l ([[((x18.getD x20.toNat []).drop 0).headD V.none,V.l (zeroRow [.int .i64] x2.toNat)]])) x18 x19 x20 ((((x18.getD x20.toNat []).drop 0).tail).headD V.none) (((((((x18.getD x20.toNat []).drop 0).tail).headD V.none).list).length:Int)) 0 ((H2.headD .dead).xs)))∧True)) ((True∧True∧True)∧Q (.tup [.v (.sl Zc) (x8),.v .bool (V.b true)]) [.row ZR h0])
theorem Zkn (Q:QD) (m0:Nat) (x1n:Nat) (x2:Int) (x8:V) (x18:LL) (x19 x20:Int) (h0:LL):Zan Q (m0+1) x1n x2 x8 x18 x19 x20 h0=ZlQ Q m0 x1n x2 x8 x18 x19 x20 h0:=by kernel_rfl
theorem Zjk (Q:QD) (x1n:Nat) (x2:Int) (x18:LL) (n:Nat) (hb:n≤big) (J:Nat→V→LL→Prop)
  (step:∀ (k:Nat) (x8:V) (h0:LL),k<n→J k x8 h0→∀ m0:Nat,(∀ (x8':V) (h0':LL),J (k+1) x8' h0'→Zan Q m0 x1n x2 x8' x18 (n:Int) (IntKind.i64.wrap ((k:Int)+(1:Int))) h0')→(0≤(k:Int)∧(k:Int)<x18.length∧cl Zej [.agg [.v (.int .u64) (((x18.getD k []).drop 0).headD V.none),.v (.sl Zn) ((((x18.getD k []).drop 0).tail).headD V.none)],.osl (.own 0) x1n] [.row ZR h0] fun r1 H2=>r1=(.v .bool (r1.V))∧H2=[.row ZR ((H2.headD .dead).xs)]∧iff r1.V.bool (Zan Q m0 x1n x2 x8 x18 (n:Int) (IntKind.i64.wrap ((k:Int)+(1:Int))) ((H2.headD .dead).xs)) ((0≤x2∧x2=x2∧x2≤lim∧x2.toNat=(zeroRow [.int .i64] x2.toNat).length∧((((((x18.getD k []).drop 0).tail).headD V.none).list).length≤big→∃ m1,Zad Q m0 m1 x1n x2 x8 (V.l ([[((x18.getD k []).drop 0).headD V.none,V.l (zeroRow [.int .i64] x2.toNat)]])) x18 (n:Int) (k:Int) ((((x18.getD k []).drop 0).tail).headD V.none) (((((((x18.getD k []).drop 0).tail).headD V.none).list).length:Int)) 0 ((H2.headD .dead).xs)))∧(0≤x2∧x2=x2∧x2≤lim∧x2.toNat=(zeroRow [.int .i64] x2.toNat).length∧((((((x18.getD k []).drop 0).tail).headD V.none).list).length≤big→∃ m1,Zad Q m0 m1 x1n x2 x8 (V.l ([[((x18.getD k []).drop 0).headD V.none,V.l (zeroRow [.int .i64] x2.toNat)]])) x18 (n:Int) (k:Int) ((((x18.getD k []).drop 0).tail).headD V.none) (((((((x18.getD k []).drop 0).tail).headD V.none).list).length:Int)) 0 ((H2.headD .dead).xs)))∧True)))
  (last:∀ (x8:V) (h0:LL),J n x8 h0→((True∧True∧True)∧Q (.tup [.v (.sl Zc) (x8),.v .bool (V.b true)]) [.row ZR h0]))
  (k:Nat) (x8:V) (h0:LL) (le0:k≤n) (hj:J k x8 h0):∃ m0,Zan Q m0 x1n x2 x8 x18 (n:Int) ((k:Int)) h0:=by
 exact rangeG2 n hb J (fun m0 i x8 h0=>Zan Q m0 x1n x2 x8 x18 (n:Int) i h0) (fun m0 i x8 h0=>Zkn Q m0 x1n x2 x8 x18 (n:Int) i h0) (fun k x8 h0 hl_ hj_ m_ ih_=>step k x8 h0 hl_ hj_ m_ ih_) last k x8 h0 le0 hj
def Znn (a0:LL) (a1n:Nat) (a2:Int) (h0:LL) (Q:QD):Prop :=
 (a0.length≤big→∃ m0,Zan Q m0 a1n a2 (V.l ([])) a0 ((a0.length:Int)) 0 h0)
theorem ZnV (a0:LL) (a1n:Nat) (a2:Int) (h0:LL) (Q:QD) (h:Znn a0 a1n a2 h0 Q):cl Zfw [.v (.sl Zc) (V.l a0),.osl (.own 0) a1n,.v (.int .i64) (V.i a2)] [.row ZR h0] Q :=
 acalls2 (E:=Zj) (envOk _ _ _ _ _) 0 Tryz.func100 (by kernel_rfl) h
def Zds:Env:=envA [] [] [1] [] []
def Zdz (a0:LL) (Q:QD):Prop :=
 True∧Q (.fn ZF [.elt Zi ([V.l a0]) 0]) []
theorem ZdC (a0:LL) (Q:QD) (h:Zdz a0 Q):cl Zbr [.v (.mp Zd) (V.l a0)] [] Q :=
 acalls2 (E:=Zds) (envOk _ _ _ _ _) 0 Tryz.func101 (by kernel_rfl) h
def Zgv:Env:=envA [] [] [] [] []
def ZeD (a0 a1:Int) (Q:QD):Prop :=
 cl Zcl [.v (.int .u64) (V.i a0)] [] fun r1 H2=>r1=(.v .bool (r1.V))∧H2=[]∧cl Zcl [.v (.int .u64) (V.i a1)] [] fun r3 H4=>r3=(.v .bool (r3.V))∧H4=[]∧iff r1.V.bool (iff r3.V.bool (True∧Q (.v (.int .i64) (V.i 0)) []) (True∧Q (.v (.int .i64) (V.i (-1))) [])) (iff r3.V.bool (True∧Q (.v (.int .i64) (V.i 1)) []) (iff (decide (a0<a1)) (True∧Q (.v (.int .i64) (V.i (-1))) []) (iff (decide (a0 > a1)) (True∧Q (.v (.int .i64) (V.i 1)) []) (True∧Q (.v (.int .i64) (V.i 0)) []))))
theorem ZhW (a0 a1:Int) (Q:QD) (h:ZeD a0 a1 Q):cl ZaW [.v (.int .u64) (V.i a0),.v (.int .u64) (V.i a1)] [] Q :=
 acalls2 (E:=Zgv) (envOk _ _ _ _ _) 0 Tryz.func102 (by kernel_rfl) h
def Zf:Env:=envA [(3,ua 6 2 (ua 11 24 ([.dead 30])))] [] [] [] []
def Zau (Q:QD):Post:=blockK 0 (seqJ Zf (fnAt [1,1,1,1] Tryz.f107) (endK Zf Tryz.f107 Q))
@[irreducible] def Ze (Q:QD) (m0:Nat) (x0:LL) (x1:ByteArray) (x8 x9 x10:Int):Prop :=
 iter (adj (Zf.adj 3)) (evCode Zf (fnAt [1,1,1,0,0,0] Tryz.f107)) (Zau Q) m0 ⟨(.v (.sl Zg) (V.l x0))::(.v .str (V.s x1))::(.fn ZJ [])::sk 3 (un 2 ((.v (.int .i64) (V.i x8))::(.v (.int .i64) (V.i x9))::(.v (.int .i64) (V.i x10))::un 24 (sk 14 ([])))),dd 49 ([])⟩ []
def Zo (Q:QD) (m0:Nat) (x0:LL) (x1:ByteArray) (x8 x9 x10:Int):Prop :=
 iff (decide (x9<x10)) (0≤(1:Int)∧0≤(IntKind.i64.wrap ((IntKind.u64.wrap (IntKind.i64.wrap (x9+x10))).fdiv (2 ^ (min ((1:Int)).toNat IntKind.u64.bits))))∧(IntKind.i64.wrap ((IntKind.u64.wrap (IntKind.i64.wrap (x9+x10))).fdiv (2 ^ (min ((1:Int)).toNat IntKind.u64.bits))))<x0.length∧cl ZJ [.agg [.v .str (((x0.getD ((IntKind.i64.wrap ((IntKind.u64.wrap (IntKind.i64.wrap (x9+x10))).fdiv (2 ^ (min ((1:Int)).toNat IntKind.u64.bits))))).toNat []).drop 0).headD V.none),.v (.sl Zc) ((((x0.getD ((IntKind.i64.wrap ((IntKind.u64.wrap (IntKind.i64.wrap (x9+x10))).fdiv (2 ^ (min ((1:Int)).toNat IntKind.u64.bits))))).toNat []).drop 0).tail).headD V.none)],.v .str (V.s x1)] [] fun r1 H2=>r1=(.v (.int .i64) (r1.V))∧H2=[]∧iff (decide (r1.V.int<(0:Int))) (Ze Q m0 x0 x1 x8 (IntKind.i64.wrap ((IntKind.i64.wrap ((IntKind.u64.wrap (IntKind.i64.wrap (x9+x10))).fdiv (2 ^ (min ((1:Int)).toNat IntKind.u64.bits))))+(1:Int))) x10) (Ze Q m0 x0 x1 x8 x9 (IntKind.i64.wrap ((IntKind.u64.wrap (IntKind.i64.wrap (x9+x10))).fdiv (2 ^ (min ((1:Int)).toNat IntKind.u64.bits)))))) (iff (decide (x9<x8)) (0≤x9∧x9<x0.length∧cl ZJ [.agg [.v .str (((x0.getD x9.toNat []).drop 0).headD V.none),.v (.sl Zc) ((((x0.getD x9.toNat []).drop 0).tail).headD V.none)],.v .str (V.s x1)] [] fun r3 H4=>r3=(.v (.int .i64) (r3.V))∧H4=[]∧(True∧True∧True)∧Q (.tup [.v (.int .i64) (V.i x9),.v .bool (V.b (r3.V.int == (0:Int)))]) []) ((True∧True∧True)∧Q (.tup [.v (.int .i64) (V.i x9),.v .bool (V.b false)]) []))
theorem Zaq (Q:QD) (m0:Nat) (x0:LL) (x1:ByteArray) (x8 x9 x10:Int):Ze Q (m0+1) x0 x1 x8 x9 x10=Zo Q m0 x0 x1 x8 x9 x10:=by kernel_rfl
theorem Zar (Q:QD):RuleG5 (Ze Q) (Zo Q):=ruleG5 _ _ (Zaq Q)
def ZaF (a0:LL) (a1:ByteArray) (Q:QD):Prop :=
 (a0.length≤big→∃ m0,Ze Q m0 a0 a1 ((a0.length:Int)) 0 ((a0.length:Int)))
theorem ZaL (a0:LL) (a1:ByteArray) (Q:QD) (h:ZaF a0 a1 Q):cl Z7 [.v (.sl Zg) (V.l a0),.v .str (V.s a1),.fn ZJ []] [] Q :=
 acalls2 (E:=Zf) (envOk _ _ _ _ _) 0 Tryz.func107 (by kernel_rfl) h
def Zll:Env:=envA [] [] [] [] []
def Zhi (a0_0:ByteArray) (a0_1:LL) (Q:QD):Prop :=
 True∧Q (.v .str (V.s a0_0)) []
theorem Zmx (a0_0:ByteArray) (a0_1:LL) (Q:QD) (h:Zhi a0_0 a0_1 Q):cl Z3 [.agg [.v .str (V.s a0_0),.v (.sl Zc) (V.l a0_1)]] [] Q :=
 acalls2 (E:=Zll) (envOk _ _ _ _ _) 0 Tryz.func61 (by kernel_rfl) h
def Ze4:Env:=envA [(3000005,(.undef 1)::ua 4 7 ([.dead 10]))] [] [] [] [5]
@[irreducible] def Zdm (Q:QD) (x0:V):Prop :=
 joinM (evCode Ze4 (fnAt [1,1,1] Tryz.f105)) ⟨(.v .str (x0))::.undef::sk 2 (un 7 (sk 8 ([]))),dd 19 ([])⟩ [] (endK Ze4 Tryz.f105 Q)
def Zgk (Q:QD) (x0:V):Prop :=
 iff (!(x0.str.toList == (ByteArray.mk #[]).toList)) (cl Zbm [.v (.sl ZiG) (V.l (bytesV x0.str)),.fn Z1 []] [] fun r1 H2=>r1=(.v .bool (r1.V))∧H2=[]∧True∧Q (.v .bool (V.b (!r1.V.bool))) []) (True∧Q (.v .bool (V.b false)) [])
theorem ZjY (Q:QD) (x0:V):Zdm Q x0=Zgk Q x0:=by kernel_rfl
def ZmG (a0:ByteArray) (a1:Bool) (Q:QD):Prop :=
 (a0.size≤big→iff (decide (((a0.size:Int)) > (24:Int))) (True∧Q (.v .bool (V.b false)) []) (iff a1 (cl ZcV [.v .str (V.s a0),.v .str (V.s (ByteArray.mk #[35]))] [] fun r1 H2=>r1=(.v .str (r1.V))∧H2=[]∧Zdm Q r1.V) (Zdm Q (V.s a0))))
theorem Znu (a0:ByteArray) (a1:Bool) (Q:QD) (h:ZmG a0 a1 Q):cl ZcQ [.v .str (V.s a0),.v .bool (V.b a1)] [] Q :=
 acalls2 (E:=Ze4) (envOk _ _ _ _ _) 0 Tryz.func105 (by kernel_rfl) h
def Zav:Env:=envA [(2,ua 4 5 (ua 12 19 ([.dead 18,.dead 26])))] [] [] [] []
def Zgh (Q:QD):Post:=blockK 0 (seqJ Zav (fnAt [1,1] Tryz.f40) (endK Zav Tryz.f40 Q))
@[irreducible] def Zap (Q:QD) (m0:Nat) (x0 x1 x9:LL) (x10 x11:Int):Prop :=
 iter (adj (Zav.adj 2)) (evCode Zav (fnAt [1,0,1,0,0] Tryz.f40)) (Zgh Q) m0 ⟨(.v (.sl Zn) (V.l x0))::(.v (.sl Zn) (V.l x1))::sk 2 (un 5 ((.v (.sl Zn) (V.l x9))::(.v (.int .i64) (V.i x10))::(.v (.int .i64) (V.i x11))::un 19 (sk 5 ([])))),dd 36 ([])⟩ []
def ZfY (Q:QD) (m0:Nat) (x0 x1 x9:LL) (x10 x11:Int):Prop :=
 iff (decide (x11<x10)) (0≤x11∧x11<x9.length∧(x1.length≤big→iff (decide (x11≥((x1.length:Int)))) (True∧Q (.v (.int .i64) (V.i 1)) []) (0≤x11∧x11<x1.length∧cl ZcT [.v (.int .i64) (((x9.getD x11.toNat []).drop 0).headD V.none),.v (.int .i64) (((x1.getD x11.toNat []).drop 0).headD V.none)] [] fun r1 H2=>r1=(.v (.int .i64) (r1.V))∧H2=[]∧iff (r1.V.int != (0:Int)) (True∧Q (.v (.int .i64) (r1.V)) []) (Zap Q m0 x0 x1 x9 x10 (IntKind.i64.wrap (x11+(1:Int))))))) ((x0.length≤big→(x1.length≤big→iff (decide (((x0.length:Int))<((x1.length:Int)))) (True∧Q (.v (.int .i64) (V.i (-1))) []) (True∧Q (.v (.int .i64) (V.i 0)) []))))
theorem ZfF (Q:QD) (m0:Nat) (x0 x1 x9:LL) (x10 x11:Int):Zap Q (m0+1) x0 x1 x9 x10 x11=ZfY Q m0 x0 x1 x9 x10 x11:=by kernel_rfl
theorem Zfc (Q:QD) (x0 x1 x9:LL) (n:Nat) (hb:n≤big) (J:Nat→Prop)
  (step:∀ (k:Nat),k<n→J k→∀ K:Prop,(J (k+1)→K)→(0≤(k:Int)∧(k:Int)<x9.length∧(x1.length≤big→iff (decide ((k:Int)≥((x1.length:Int)))) (True∧Q (.v (.int .i64) (V.i 1)) []) (0≤(k:Int)∧(k:Int)<x1.length∧cl ZcT [.v (.int .i64) (((x9.getD k []).drop 0).headD V.none),.v (.int .i64) (((x1.getD k []).drop 0).headD V.none)] [] fun r1 H2=>r1=(.v (.int .i64) (r1.V))∧H2=[]∧iff (r1.V.int != (0:Int)) (True∧Q (.v (.int .i64) (r1.V)) []) (K)))))
  (last:J n→((x0.length≤big→(x1.length≤big→iff (decide (((x0.length:Int))<((x1.length:Int)))) (True∧Q (.v (.int .i64) (V.i (-1))) []) (True∧Q (.v (.int .i64) (V.i 0)) [])))))
  (k:Nat) (le0:k≤n) (hj:J k):∃ m0,Zap Q m0 x0 x1 x9 (n:Int) ((k:Int)):=by
 exact rangeG0 n hb J (fun m0 i=>Zap Q m0 x0 x1 x9 (n:Int) i) (fun m0 i=>ZfF Q m0 x0 x1 x9 (n:Int) i) (fun k hl_ hj_ m_ ih_=>step k hl_ hj_ _ ih_) last k le0 hj
def Zg2 (a0 a1:LL) (Q:QD):Prop :=
 (a0.length≤big→∃ m0,Zap Q m0 a0 a1 a0 ((a0.length:Int)) 0)
theorem ZhF (a0 a1:LL) (Q:QD) (h:Zg2 a0 a1 Q):cl ZbC [.v (.sl Zn) (V.l a0),.v (.sl Zn) (V.l a1)] [] Q :=
 acalls2 (E:=Zav) (envOk _ _ _ _ _) 0 Tryz.func40 (by kernel_rfl) h
def Zcf:Env:=envA [] [] [] [] []
def ZaC (a0:LL) (Q:QD):Prop :=
 cl Zcb [.v (.sl Zn) (V.l a0),.fn ZI []] [] fun r1 H2=>r1=(.v (.int .i64) (r1.V))∧H2=[]∧True∧Q (.v .bool (V.b (decide (r1.V.int≥(0:Int))))) []
theorem Zcy (a0:LL) (Q:QD) (h:ZaC a0 Q):cl ZaE [.v (.sl Zn) (V.l a0),.fn ZI []] [] Q :=
 acalls2 (E:=Zcf) (envOk _ _ _ _ _) 0 Tryz.func70 (by kernel_rfl) h
end Go.Proofs.YthhnadeoioeniaaGreat
set_option maxRecDepth 100000
namespace Go.Proofs.YthhnadeoioeniaaGreat
open Go.Abs
def ZmU:Env:=envA [] [] [] [] []
def Zjy (a0 a1:Int) (Q:QD):Prop :=
 0≤(32:Int)∧0≤(32:Int)∧0≤(32:Int)∧0≤(32:Int)∧0≤(32:Int)∧(True∧True∧True)∧Q (.tup [.v (.int .u64) (V.i (IntKind.u64.wrap ((IntKind.u64.wrap ((IntKind.u64.wrap ((a0.fdiv (2 ^ (min ((32:Int)).toNat IntKind.u64.bits)))*(a1.fdiv (2 ^ (min ((32:Int)).toNat IntKind.u64.bits)))))+((IntKind.u64.wrap ((IntKind.u64.wrap ((a0.fdiv (2 ^ (min ((32:Int)).toNat IntKind.u64.bits)))*(bitAnd .u64 a1 ((4294967295:Int)))))+((IntKind.u64.wrap ((bitAnd .u64 a0 ((4294967295:Int)))*(bitAnd .u64 a1 ((4294967295:Int))))).fdiv (2 ^ (min ((32:Int)).toNat IntKind.u64.bits))))).fdiv (2 ^ (min ((32:Int)).toNat IntKind.u64.bits)))))+((IntKind.u64.wrap ((bitAnd .u64 ((IntKind.u64.wrap ((IntKind.u64.wrap ((a0.fdiv (2 ^ (min ((32:Int)).toNat IntKind.u64.bits)))*(bitAnd .u64 a1 ((4294967295:Int)))))+((IntKind.u64.wrap ((bitAnd .u64 a0 ((4294967295:Int)))*(bitAnd .u64 a1 ((4294967295:Int))))).fdiv (2 ^ (min ((32:Int)).toNat IntKind.u64.bits)))))) ((4294967295:Int)))+(IntKind.u64.wrap ((bitAnd .u64 a0 ((4294967295:Int)))*(a1.fdiv (2 ^ (min ((32:Int)).toNat IntKind.u64.bits))))))).fdiv (2 ^ (min ((32:Int)).toNat IntKind.u64.bits)))))),.v (.int .u64) (V.i (IntKind.u64.wrap (a0*a1)))]) []
theorem Zob (a0 a1:Int) (Q:QD) (h:Zjy a0 a1 Q):cl Zg1 [.v (.int .u64) (V.i a0),.v (.int .u64) (V.i a1)] [] Q :=
 acalls2 (E:=ZmU) (envOk _ _ _ _ _) 0 Tryz.func114 (by kernel_rfl) h
def Zbb:Env:=envA [(4,(.undef 0)::(.undef 2)::ua 4 5 (ua 12 13 ((.dead 4)::da 19 2 ([]))))] [] [] [] []
def ZhU (Q:QD):Post:=blockK 0 (seqJ Zbb (fnAt [1,1,1] Tryz.f115) (endK Zbb Tryz.f115 Q))
@[irreducible] def ZaX (Q:QD) (m0:Nat) (x9:LL) (x10 x11:Int):Prop :=
 iter (adj (Zbb.adj 4)) (evCode Zbb (fnAt [1,1,0,1,0,0] Tryz.f115)) (ZhU Q) m0 ⟨.undef::.skip::.undef::.skip::un 5 ((.v (.sl Zaw) (V.l x9))::(.v (.int .i64) (V.i x10))::(.v (.int .i64) (V.i x11))::un 13 ([])),dd 25 ([])⟩ []
def ZhL (Q:QD) (m0:Nat) (x9:LL) (x10 x11:Int):Prop :=
 iff (decide (x11<x10)) (0≤x11∧x11<x9.length∧cl Zhr [.v (.sl Za) (V.l ([[((x9.getD x11.toNat []).drop 0).headD V.none,(((x9.getD x11.toNat []).drop 0).tail).headD V.none,((((x9.getD x11.toNat []).drop 0).tail).tail).headD V.none],[(((((x9.getD x11.toNat []).drop 0).tail).tail).tail).headD V.none,((((((x9.getD x11.toNat []).drop 0).tail).tail).tail).tail).headD V.none,(((((((x9.getD x11.toNat []).drop 0).tail).tail).tail).tail).tail).headD V.none]]))] [] fun r1 H2=>r1=(.v (.int .i64) (r1.V))∧H2=[]∧iff (r1.V.int != (0:Int)) (True∧Q (.v (.int .i64) (r1.V)) []) (ZaX Q m0 x9 x10 (IntKind.i64.wrap (x11+(1:Int))))) (True∧Q (.v (.int .i64) (V.i 0)) [])
theorem Zgq (Q:QD) (m0:Nat) (x9:LL) (x10 x11:Int):ZaX Q (m0+1) x9 x10 x11=ZhL Q m0 x9 x10 x11:=by kernel_rfl
theorem Zf4 (Q:QD) (x9:LL) (n:Nat) (hb:n≤big) (J:Nat→Prop)
  (step:∀ (k:Nat),k<n→J k→∀ K:Prop,(J (k+1)→K)→(0≤(k:Int)∧(k:Int)<x9.length∧cl Zhr [.v (.sl Za) (V.l ([[((x9.getD k []).drop 0).headD V.none,(((x9.getD k []).drop 0).tail).headD V.none,((((x9.getD k []).drop 0).tail).tail).headD V.none],[(((((x9.getD k []).drop 0).tail).tail).tail).headD V.none,((((((x9.getD k []).drop 0).tail).tail).tail).tail).headD V.none,(((((((x9.getD k []).drop 0).tail).tail).tail).tail).tail).headD V.none]]))] [] fun r1 H2=>r1=(.v (.int .i64) (r1.V))∧H2=[]∧iff (r1.V.int != (0:Int)) (True∧Q (.v (.int .i64) (r1.V)) []) (K)))
  (last:J n→(True∧Q (.v (.int .i64) (V.i 0)) []))
  (k:Nat) (le0:k≤n) (hj:J k):∃ m0,ZaX Q m0 x9 (n:Int) ((k:Int)):=by
 exact rangeG0 n hb J (fun m0 i=>ZaX Q m0 x9 (n:Int) i) (fun m0 i=>Zgq Q m0 x9 (n:Int) i) (fun k hl_ hj_ m_ ih_=>step k hl_ hj_ _ ih_) last k le0 hj
def Zjt (a0:LL) (Q:QD):Prop :=
 (a0.length≤big→iff (decide (((a0.length:Int)) > (64:Int))) (True∧Q (.v (.int .i64) (V.i 3)) []) ((a0.length≤big→∃ m0,ZaX Q m0 a0 ((a0.length:Int)) 0)))
theorem ZkJ (a0:LL) (Q:QD) (h:Zjt a0 Q):cl Zee [.v (.sl Zaw) (V.l a0)] [] Q :=
 acalls2 (E:=Zbb) (envOk _ _ _ _ _) 0 Tryz.func115 (by kernel_rfl) h
def Zl:Env:=envA [(3,(.undef 0)::(.undef 6)::(.undef 8)::ua 10 4 (ua 17 13 (ua 32 25 ([.dead 6,.dead 8,.dead 10,.dead 29,.dead 46,.dead 54])))),(6,(.undef 0)::(.undef 6)::(.undef 8)::ua 10 4 (ua 17 7 (ua 26 4 (ua 32 25 ([.dead 6,.dead 8,.dead 10,.dead 29,.dead 46,.dead 54]))))),(10,(.undef 0)::(.undef 6)::(.undef 8)::ua 10 4 (ua 17 7 (ua 26 3 (ua 32 25 ([.dead 8])))))] [] [] [] []
def Zd2 (Q:QD):Post:=blockK 0 (seqJ Zl (fnAt [1,1,1] Tryz.f116) (endK Zl Tryz.f116 Q))
def Zd1 (Q:QD) (m0:Nat):Post:=blockK 2 (blockK 1 (seqJ Zl (fnAt [1,1,0,1,0,0,1,1,1] Tryz.f116) (loopK (adj (Zl.adj 3)) (iter (adj (Zl.adj 3)) (evCode Zl (fnAt [1,1,0,1,0,0] Tryz.f116)) (Zd2 Q) m0) (Zd2 Q))))
@[irreducible] def Z5 (Q:QD) (m0 m1:Nat) (zx14:LL) (zx15 zx16:Int) (zx24_0 zx24_1 zx24_2 zx24_3 zx24_4 zx24_5:V) (zx25:Int) (zx29_0:List V) (zy3_0:Bool) (zy13:LL) (q1_0:Bool) (q3:LL) (rows:LL):Prop :=
 rangeR (evCode Zl (fnAt [1,1,0,1,0,0,1,1,0,0,1,1,0,0,1,1,0,0,1,1,0,0] Tryz.f116)) (evCode Zl (fnAt [1,1,0,1,0,0,1,1,0,0,1,1,0,0,1,1,0,0,1,1,0,1] Tryz.f116)) [30,31] (rowA 130) [.cells [.undef],.cells [.v .bool (V.b zy3_0)],.cells [.mp (.own 3)],.map Zex zy13] (.undef::.skip::(.ptr (.own 0) 0)::(.ptr (.own 1) 0)::(.ptr (.own 2) 0)::.skip::.undef::.skip::.undef::.skip::un 4 ((.v (.sl Zaw) (V.l zx14))::(.v (.int .i64) (V.i zx15))::(.v (.int .i64) (V.i zx16))::un 7 ((.agg [.v .str (zx24_0),.v .bool (zx24_1),.v (.sl Za) (zx24_2),.v .str (zx24_3),.v .bool (zx24_4),.v (.sl Za) (zx24_5)])::(.v (.int .i64) (V.i zx25))::un 3 ((.fn ZB [.elt Za zx29_0 0])::sk 2 (un 25 ([.skip])))))) (dd 58 []) (outR Zl [.loc 2,.loc 3,.loc 4,.loc 13] ⟨.undef::.skip::(.ptr (.loc 2) 0)::(.ptr (.loc 3) 0)::(.ptr (.loc 4) 0)::.skip::.undef::.skip::.undef::.skip::un 4 ((.v (.sl Zaw) (V.l zx14))::(.v (.int .i64) (V.i zx15))::(.v (.int .i64) (V.i zx16))::un 7 ((.agg [.v .str (zx24_0),.v .bool (zx24_1),.v (.sl Za) (zx24_2),.v .str (zx24_3),.v .bool (zx24_4),.v (.sl Za) (zx24_5)])::(.v (.int .i64) (V.i zx25))::un 3 ((.fn ZB [.elt Za zx29_0 0])::sk 2 (un 25 ([.skip]))))),dd 2 ((.cells [.undef])::(.cells [.v .bool (V.b zy3_0)])::(.cells [.mp (.loc 13)])::dd 8 ((.map Zex zy13)::dd 44 ([])))⟩ [] (blockK 4 (blockK 3 (seqJ Zl (fnAt [1,1,0,1,0,0,1,1,0,0,1,1,0,0,1,1,1] Tryz.f116) (loopK (adj (Zl.adj 6)) (iter (adj (Zl.adj 6)) (evCode Zl (fnAt [1,1,0,1,0,0,1,1,0,0,1,1,0,0] Tryz.f116)) (Zd1 Q m0) m1) (Zd1 Q m0)))))) rows [.cells [.undef],.cells [.v .bool (V.b q1_0)],.cells [.mp (.own 3)],.map Zex q3]
@[irreducible] def ZbE (Q:QD) (m0 m1:Nat) (x14:LL) (x15 x16:Int) (x24_0 x24_1 x24_2 x24_3 x24_4 x24_5:V) (x25:Int) (y3_0:Bool) (y13:LL):Prop :=
 iter (adj (Zl.adj 6)) (evCode Zl (fnAt [1,1,0,1,0,0,1,1,0,0,1,1,0,0] Tryz.f116)) (Zd1 Q m0) m1 ⟨.undef::.skip::(.ptr (.loc 2) 0)::(.ptr (.loc 3) 0)::(.ptr (.loc 4) 0)::.skip::.undef::.skip::.undef::.skip::un 4 ((.v (.sl Zaw) (V.l x14))::(.v (.int .i64) (V.i x15))::(.v (.int .i64) (V.i x16))::un 7 ((.agg [.v .str (x24_0),.v .bool (x24_1),.v (.sl Za) (x24_2),.v .str (x24_3),.v .bool (x24_4),.v (.sl Za) (x24_5)])::(.v (.int .i64) (V.i x25))::un 4 (sk 2 (un 25 ([.skip]))))),dd 2 ((.cells [.undef])::(.cells [.v .bool (V.b y3_0)])::(.cells [.mp (.loc 13)])::dd 8 ((.map Zex y13)::dd 44 ([])))⟩ []
@[irreducible] def ZbD (Q:QD) (m0:Nat) (x14:LL) (x15 x16:Int) (y3_0:Bool) (y13:LL):Prop :=
 iter (adj (Zl.adj 3)) (evCode Zl (fnAt [1,1,0,1,0,0] Tryz.f116)) (Zd2 Q) m0 ⟨.undef::.skip::(.ptr (.loc 2) 0)::(.ptr (.loc 3) 0)::(.ptr (.loc 4) 0)::.skip::.undef::.skip::.undef::.skip::un 4 ((.v (.sl Zaw) (V.l x14))::(.v (.int .i64) (V.i x15))::(.v (.int .i64) (V.i x16))::un 13 (sk 2 (un 25 ([.skip])))),dd 2 ((.cells [.undef])::(.cells [.v .bool (V.b y3_0)])::(.cells [.mp (.loc 13)])::dd 8 ((.map Zex y13)::dd 44 ([])))⟩ []
theorem ZjS (Q:QD) (m0 m1:Nat) (zx14:LL) (zx15 zx16:Int) (zx24_0 zx24_1 zx24_2 zx24_3 zx24_4 zx24_5:V) (zx25:Int) (zx29_0:List V) (zy3_0:Bool) (zy13:LL) (q1_0:Bool) (q3:LL):Z5 Q m0 m1 zx14 zx15 zx16 zx24_0 zx24_1 zx24_2 zx24_3 zx24_4 zx24_5 zx25 zx29_0 zy3_0 zy13 q1_0 q3 []=(ZbE Q m0 m1 zx14 zx15 zx16 zx24_0 zx24_1 zx24_2 zx24_3 zx24_4 zx24_5 (IntKind.i64.wrap (zx25+(1:Int))) q1_0 q3):=by kernel_rfl
theorem ZjO (Q:QD) (m0 m1:Nat) (zx14:LL) (zx15 zx16:Int) (zx24_0 zx24_1 zx24_2 zx24_3 zx24_4 zx24_5:V) (zx25:Int) (zx29_0:List V) (zy3_0:Bool) (zy13:LL) (q1_0:Bool) (q3:LL) (r:List V) (rs:LL):Z5 Q m0 m1 zx14 zx15 zx16 zx24_0 zx24_1 zx24_2 zx24_3 zx24_4 zx24_5 zx25 zx29_0 zy3_0 zy13 q1_0 q3 (r::rs)=(iff ((r.tail.headD V.none).bool) (Z5 Q m0 m1 zx14 zx15 zx16 zx24_0 zx24_1 zx24_2 zx24_3 zx24_4 zx24_5 zx25 zx29_0 zy3_0 zy13 q1_0 q3 rs) (iff (mhas [.str] [r.headD V.none] q3) ((((r.tail.tail.headD V.none).list).length≤big→iff ((((mget [.str] [V.i 0] [r.headD V.none] q3).headD V.none).int) != ((((r.tail.tail.headD V.none).list).length:Int))) ((True∧True∧True)∧Q (.tup [.v (.mp Zex) (V.l ([])),.v .bool (V.b false)]) []) ((((r.tail.tail.headD V.none).list).length≤big→Z5 Q m0 m1 zx14 zx15 zx16 zx24_0 zx24_1 zx24_2 zx24_3 zx24_4 zx24_5 zx25 zx29_0 zy3_0 zy13 q1_0 (mset [.str] [r.headD V.none] [V.i ((((r.tail.tail.headD V.none).list).length:Int))] q3) rs)))) ((((r.tail.tail.headD V.none).list).length≤big→Z5 Q m0 m1 zx14 zx15 zx16 zx24_0 zx24_1 zx24_2 zx24_3 zx24_4 zx24_5 zx25 zx29_0 zy3_0 zy13 q1_0 (mset [.str] [r.headD V.none] [V.i ((((r.tail.tail.headD V.none).list).length:Int))] q3) rs)))):=by kernel_rfl
theorem Ziq (Q:QD) (m0 m1:Nat) (zx14:LL) (zx15 zx16:Int) (zx24_0 zx24_1 zx24_2 zx24_3 zx24_4 zx24_5:V) (zx25:Int) (zx29_0:List V) (zy3_0:Bool) (zy13:LL) (J:LL→Bool→LL→Prop)
  (step:∀ (r:List V) (rs:LL) (q1_0:Bool) (q3:LL),J (r::rs) q1_0 q3→∀ K:Bool→LL→Prop,(∀ (q1_0':Bool) (q3':LL),J rs q1_0' q3'→K q1_0' q3')→(iff ((r.tail.headD V.none).bool) (K q1_0 q3) (iff (mhas [.str] [r.headD V.none] q3) ((((r.tail.tail.headD V.none).list).length≤big→iff ((((mget [.str] [V.i 0] [r.headD V.none] q3).headD V.none).int) != ((((r.tail.tail.headD V.none).list).length:Int))) ((True∧True∧True)∧Q (.tup [.v (.mp Zex) (V.l ([])),.v .bool (V.b false)]) []) ((((r.tail.tail.headD V.none).list).length≤big→K q1_0 (mset [.str] [r.headD V.none] [V.i ((((r.tail.tail.headD V.none).list).length:Int))] q3))))) ((((r.tail.tail.headD V.none).list).length≤big→K q1_0 (mset [.str] [r.headD V.none] [V.i ((((r.tail.tail.headD V.none).list).length:Int))] q3))))))
  (last:∀ (q1_0:Bool) (q3:LL),J [] q1_0 q3→(ZbE Q m0 m1 zx14 zx15 zx16 zx24_0 zx24_1 zx24_2 zx24_3 zx24_4 zx24_5 (IntKind.i64.wrap (zx25+(1:Int))) q1_0 q3))
  : ∀ (rows:LL) (q1_0:Bool) (q3:LL),J rows q1_0 q3→Z5 Q m0 m1 zx14 zx15 zx16 zx24_0 zx24_1 zx24_2 zx24_3 zx24_4 zx24_5 zx25 zx29_0 zy3_0 zy13 q1_0 q3 rows:=by
 intro rows
 induction rows with
 | nil=>intro q1_0 q3 h; rw [ZjS]; exact last q1_0 q3 h
 | cons r rs ih=>intro q1_0 q3 h; rw [ZjO]; exact step r rs q1_0 q3 h (fun q1_0 q3=>Z5 Q m0 m1 zx14 zx15 zx16 zx24_0 zx24_1 zx24_2 zx24_3 zx24_4 zx24_5 zx25 zx29_0 zy3_0 zy13 q1_0 q3 rs) ih
def Zd9 (Q:QD) (m0 m1:Nat) (x14:LL) (x15 x16:Int) (x24_0 x24_1 x24_2 x24_3 x24_4 x24_5:V) (x25:Int) (y3_0:Bool) (y13:LL):Prop :=
 iff (decide (x25<(2:Int))) (0≤x25∧x25<(2:Int)∧cl Zea [.agg [.v .str ((([[x24_0,x24_1,x24_2],[x24_3,x24_4,x24_5]]:List (List V)).getD x25.toNat []).headD V.none),.v .bool (((([[x24_0,x24_1,x24_2],[x24_3,x24_4,x24_5]]:List (List V)).getD x25.toNat []).tail).headD V.none),.v (.sl Za) ((((([[x24_0,x24_1,x24_2],[x24_3,x24_4,x24_5]]:List (List V)).getD x25.toNat []).tail).tail).headD V.none)]] [] fun r1 H2=>r1=(.fn ZB [.elt Za ((r1.capsOf.headD .undef).eltOf) 0])∧H2=[]∧∃ rows:LL,itA 130 [.elt Za ((r1.capsOf.headD .undef).eltOf) 0] rows∧Z5 Q m0 m1 x14 x15 x16 x24_0 x24_1 x24_2 x24_3 x24_4 x24_5 x25 ((r1.capsOf.headD .undef).eltOf) y3_0 y13 y3_0 y13 rows) (ZbD Q m0 x14 x15 (IntKind.i64.wrap (x16+(1:Int))) y3_0 y13)
theorem ZiL (Q:QD) (m0 m1:Nat) (x14:LL) (x15 x16:Int) (x24_0 x24_1 x24_2 x24_3 x24_4 x24_5:V) (x25:Int) (y3_0:Bool) (y13:LL):ZbE Q m0 (m1+1) x14 x15 x16 x24_0 x24_1 x24_2 x24_3 x24_4 x24_5 x25 y3_0 y13=Zd9 Q m0 m1 x14 x15 x16 x24_0 x24_1 x24_2 x24_3 x24_4 x24_5 x25 y3_0 y13:=by kernel_rfl
theorem ZiI (Q:QD) (m0:Nat):RuleG12 (ZbE Q m0) (Zd9 Q m0):=ruleG12 _ _ (ZiL Q m0)
def Zd6 (Q:QD) (m0:Nat) (x14:LL) (x15 x16:Int) (y3_0:Bool) (y13:LL):Prop :=
 iff (decide (x16<x15)) (0≤x16∧x16<x14.length∧∃ m1,ZbE Q m0 m1 x14 x15 x16 (((x14.getD x16.toNat []).drop 0).headD V.none) ((((x14.getD x16.toNat []).drop 0).tail).headD V.none) (((((x14.getD x16.toNat []).drop 0).tail).tail).headD V.none) ((((((x14.getD x16.toNat []).drop 0).tail).tail).tail).headD V.none) (((((((x14.getD x16.toNat []).drop 0).tail).tail).tail).tail).headD V.none) ((((((((x14.getD x16.toNat []).drop 0).tail).tail).tail).tail).tail).headD V.none) 0 y3_0 y13) ((True∧True∧True)∧Q (.tup [.v (.mp Zex) (V.l y13),.v .bool (V.b true)]) [])
theorem ZiT (Q:QD) (m0:Nat) (x14:LL) (x15 x16:Int) (y3_0:Bool) (y13:LL):ZbD Q (m0+1) x14 x15 x16 y3_0 y13=Zd6 Q m0 x14 x15 x16 y3_0 y13:=by kernel_rfl
theorem Ziu (Q:QD):RuleG5 (ZbD Q) (Zd6 Q):=ruleG5 _ _ (ZiT Q)
def ZlP (a0:LL) (Q:QD):Prop :=
 (a0.length≤big→∃ m0,ZbD Q m0 a0 ((a0.length:Int)) 0 false (([]:List (List V))))
theorem Zmw (a0:LL) (Q:QD) (h:ZlP a0 Q):cl ZfE [.v (.sl Zaw) (V.l a0)] [] Q :=
 acalls2 (E:=Zl) (envOk _ _ _ _ _) 0 Tryz.func116 (by kernel_rfl) h
def ZcJ:Env:=envA [] [] [] [] []
def ZaY (a0:LL) (Q:QD):Prop :=
 cl ZbO [.v (.sl Zaw) (V.l a0),.fn ZaH []] [] fun r1 H2=>r1=(.v (.int .i64) (r1.V))∧H2=[]∧True∧Q (.v .bool (V.b (decide (r1.V.int≥(0:Int))))) []
theorem Zdj (a0:LL) (Q:QD) (h:ZaY a0 Q):cl Zbl [.v (.sl Zaw) (V.l a0),.fn ZaH []] [] Q :=
 acalls2 (E:=ZcJ) (envOk _ _ _ _ _) 0 Tryz.func118 (by kernel_rfl) h
def Zl4:Env:=envA [] [] [] [] []
def Zif (a0:ByteArray) (Q:QD):Prop :=
 cl ZeY [.v .str (V.s a0),.v .str (V.s (ByteArray.mk #[35]))] [] fun r1 H2=>r1=(.v .bool (r1.V))∧H2=[]∧True∧Q (.v .bool (r1.V)) []
theorem Zno (a0:ByteArray) (Q:QD) (h:Zif a0 Q):cl ZeM [.v .str (V.s a0)] [] Q :=
 acalls2 (E:=Zl4) (envOk _ _ _ _ _) 0 Tryz.func117 (by kernel_rfl) h
def ZbZ:Env:=envA [(2,(.undef 0)::(.undef 2)::ua 4 2 (ua 9 9 ([.dead 4,.dead 13])))] [] [] [] []
def Zj7 (Q:QD):Post:=blockK 0 (seqJ ZbZ (fnAt [1,1] Tryz.f120) (endK ZbZ Tryz.f120 Q))
@[irreducible] def ZbG (Q:QD) (m0:Nat) (x6:LL) (x7 x8:Int):Prop :=
 iter (adj (ZbZ.adj 2)) (evCode ZbZ (fnAt [1,0,1,0,0] Tryz.f120)) (Zj7 Q) m0 ⟨.undef::.skip::.undef::.skip::un 2 ((.v (.sl Za) (V.l x6))::(.v (.int .i64) (V.i x7))::(.v (.int .i64) (V.i x8))::un 9 ([])),dd 18 ([])⟩ []
def ZkI (Q:QD) (m0:Nat) (x6:LL) (x7 x8:Int):Prop :=
 iff (decide (x8<x7)) (0≤x8∧x8<x6.length∧cl Ze9 [.agg [.v .str (((x6.getD x8.toNat []).drop 0).headD V.none),.v .bool ((((x6.getD x8.toNat []).drop 0).tail).headD V.none),.v (.sl Za) (((((x6.getD x8.toNat []).drop 0).tail).tail).headD V.none)]] [] fun r1 H2=>r1=(.v (.int .i64) (r1.V))∧H2=[]∧iff (r1.V.int != (0:Int)) (True∧Q (.v (.int .i64) (r1.V)) []) (ZbG Q m0 x6 x7 (IntKind.i64.wrap (x8+(1:Int))))) (True∧Q (.v (.int .i64) (V.i 0)) [])
theorem ZiO (Q:QD) (m0:Nat) (x6:LL) (x7 x8:Int):ZbG Q (m0+1) x6 x7 x8=ZkI Q m0 x6 x7 x8:=by kernel_rfl
theorem Zhw (Q:QD) (x6:LL) (n:Nat) (hb:n≤big) (J:Nat→Prop)
  (step:∀ (k:Nat),k<n→J k→∀ K:Prop,(J (k+1)→K)→(0≤(k:Int)∧(k:Int)<x6.length∧cl Ze9 [.agg [.v .str (((x6.getD k []).drop 0).headD V.none),.v .bool ((((x6.getD k []).drop 0).tail).headD V.none),.v (.sl Za) (((((x6.getD k []).drop 0).tail).tail).headD V.none)]] [] fun r1 H2=>r1=(.v (.int .i64) (r1.V))∧H2=[]∧iff (r1.V.int != (0:Int)) (True∧Q (.v (.int .i64) (r1.V)) []) (K)))
  (last:J n→(True∧Q (.v (.int .i64) (V.i 0)) []))
  (k:Nat) (le0:k≤n) (hj:J k):∃ m0,ZbG Q m0 x6 (n:Int) ((k:Int)):=by
 exact rangeG0 n hb J (fun m0 i=>ZbG Q m0 x6 (n:Int) i) (fun m0 i=>ZiO Q m0 x6 (n:Int) i) (fun k hl_ hj_ m_ ih_=>step k hl_ hj_ _ ih_) last k le0 hj
def Zmm (a0:LL) (Q:QD):Prop :=
 (a0.length≤big→∃ m0,ZbG Q m0 a0 ((a0.length:Int)) 0)
theorem Zm8 (a0:LL) (Q:QD) (h:Zmm a0 Q):cl Zel [.v (.sl Za) (V.l a0)] [] Q :=
 acalls2 (E:=ZbZ) (envOk _ _ _ _ _) 0 Tryz.func120 (by kernel_rfl) h
def ZL:Env:=envA [(6,(.undef 0)::ua 4 2 (ua 11 2 (ua 14 3 (ua 18 17 ([.dead 20,.dead 30]))))),(13,(.undef 0)::(.undef 2)::ua 4 3 (ua 8 5 (ua 14 3 (ua 18 57 ((.undef 76)::ua 80 14 ([.dead 2,.dead 8,.dead 86])))))),(3000009,(.undef 0)::ua 4 2 (ua 11 2 (ua 14 3 (ua 18 30 ([.dead 37]))))),(3000010,(.undef 0)::ua 4 2 (ua 11 2 (ua 14 3 (ua 18 48 ((.dead 37)::(.dead 49)::(.dead 53)::(.dead 58)::da 60 2 ([.dead 65]))))))] [(6,12,[],[]),(8,12,[],[]),(9,16,[],[]),(10,8,[],[])] [49] [(5000001,[⟨0,0,0⟩])] [9,10]
def Zk6 (Q:QD):Post:=blockK 0 (seqJ ZL (fnAt [1,1,1,1,1] Tryz.f121) (endK ZL Tryz.f121 Q))
def Zlb (Q:QD):Post:=blockK 2 (seqJ ZL (fnAt [1,1,1,1,1,1,1,1] Tryz.f121) (endK ZL Tryz.f121 Q))
@[irreducible] def Zbo (Q:QD) (m1:Nat) (x1:V) (x77:LL) (x78 x79:Int):Prop :=
 iter (adj (ZL.adj 13)) (evCode ZL (fnAt [1,1,1,1,1,1,1,0,1,0,0] Tryz.f121)) (Zlb Q) m1 ⟨.undef::(.v (.sl ZH) (x1))::.undef::.skip::un 3 (.skip::un 5 (.skip::un 3 (.skip::un 57 (.skip::.undef::(.v (.sl Za) (V.l x77))::(.v (.int .i64) (V.i x78))::(.v (.int .i64) (V.i x79))::un 14 ([.skip]))))),dd 95 ([])⟩ []
@[irreducible] def Zdn (Q:QD) (x1:LL) (x6:Int) (y2_0:ByteArray) (y2_1:Bool) (y2_2:LL):Prop :=
 joinM (evCode ZL (fnAt [1,1,1,1,1,1] Tryz.f121)) ⟨.undef::(.v (.sl ZH) (V.l x1))::(.ptr (.loc 2) 0)::.skip::un 2 ((.v (.int .i64) (V.i x6))::sk 4 (un 2 (.skip::un 3 (.skip::un 48 (sk 29 ([])))))),dd 2 ((.cells [.v .str (V.s y2_0),.v .bool (V.b y2_1),.v (.sl Za) (V.l y2_2)])::dd 92 ([]))⟩ [] (endK ZL Tryz.f121 Q)
@[irreducible] def Zas (Q:QD) (x1:LL) (x6:Int) (x48:Bool) (y2_0:ByteArray) (y2_1:Bool) (y2_2:LL):Prop :=
 joinM (evCode ZL (fnAt [1,1,1,1,1,0,1] Tryz.f121)) ⟨.undef::(.v (.sl ZH) (V.l x1))::(.ptr (.loc 2) 0)::.skip::un 2 ((.v (.int .i64) (V.i x6))::sk 4 (un 2 (.skip::un 3 (.skip::un 30 ((.v .bool (V.b x48))::sk 46 ([])))))),dd 2 ((.cells [.v .str (V.s y2_0),.v .bool (V.b y2_1),.v (.sl Za) (V.l y2_2)])::dd 92 ([]))⟩ [] (seqJ ZL (fnAt [1,1,1,1,1,1] Tryz.f121) (endK ZL Tryz.f121 Q))
@[irreducible] def Zdl (Q:QD) (m0:Nat) (x1:LL) (x6:Int) (y2_0:ByteArray) (y2_1:Bool) (y2_2:LL):Prop :=
 iter (adj (ZL.adj 6)) (evCode ZL (fnAt [1,1,1,1,0,0,0] Tryz.f121)) (Zk6 Q) m0 ⟨.undef::(.v (.sl ZH) (V.l x1))::(.ptr (.loc 2) 0)::.skip::un 2 ((.v (.int .i64) (V.i x6))::sk 4 (un 2 (.skip::un 3 (.skip::un 17 (sk 60 ([])))))),dd 2 ((.cells [.v .str (V.s y2_0),.v .bool (V.b y2_1),.v (.sl Za) (V.l y2_2)])::dd 92 ([]))⟩ []
def ZlD (Q:QD) (m1:Nat) (x1:V) (x77:LL) (x78 x79:Int):Prop :=
 iff (decide (x79<x78)) (0≤x79∧x79<x77.length∧cl ZcH [.agg [.v .str (((x77.getD x79.toNat []).drop 0).headD V.none),.v .bool ((((x77.getD x79.toNat []).drop 0).tail).headD V.none),.v (.sl Za) (((((x77.getD x79.toNat []).drop 0).tail).tail).headD V.none)],.v (.sl ZH) (x1)] [] fun r1 H2=>r1=(.tup [.v (.sl ZH) ((r1.parts.headD .undef).V),.v .bool ((r1.parts.tail.headD .undef).V)])∧H2=[]∧iff (!(((r1.parts.tail.headD .undef).V).bool)) ((True∧True∧True)∧Q (.tup [.v (.sl ZH) (x1),.v .bool (V.b false)]) []) (Zbo Q m1 ((r1.parts.headD .undef).V) x77 x78 (IntKind.i64.wrap (x79+(1:Int))))) ((True∧True∧True)∧Q (.tup [.v (.sl ZH) (x1),.v .bool (V.b true)]) [])
theorem Zi2 (Q:QD) (m1:Nat) (x1:V) (x77:LL) (x78 x79:Int):Zbo Q (m1+1) x1 x77 x78 x79=ZlD Q m1 x1 x77 x78 x79:=by kernel_rfl
theorem ZiS (Q:QD) (x77:LL) (n:Nat) (hb:n≤big) (J:Nat→V→Prop)
  (step:∀ (k:Nat) (x1:V),k<n→J k x1→∀ K:V→Prop,(∀ (x1':V),J (k+1) x1'→K x1')→(0≤(k:Int)∧(k:Int)<x77.length∧cl ZcH [.agg [.v .str (((x77.getD k []).drop 0).headD V.none),.v .bool ((((x77.getD k []).drop 0).tail).headD V.none),.v (.sl Za) (((((x77.getD k []).drop 0).tail).tail).headD V.none)],.v (.sl ZH) (x1)] [] fun r1 H2=>r1=(.tup [.v (.sl ZH) ((r1.parts.headD .undef).V),.v .bool ((r1.parts.tail.headD .undef).V)])∧H2=[]∧iff (!(((r1.parts.tail.headD .undef).V).bool)) ((True∧True∧True)∧Q (.tup [.v (.sl ZH) (x1),.v .bool (V.b false)]) []) (K ((r1.parts.headD .undef).V))))
  (last:∀ (x1:V),J n x1→((True∧True∧True)∧Q (.tup [.v (.sl ZH) (x1),.v .bool (V.b true)]) []))
  (k:Nat) (x1:V) (le0:k≤n) (hj:J k x1):∃ m1,Zbo Q m1 x1 x77 (n:Int) ((k:Int)):=by
 exact rangeG1 n hb J (fun m1 i x1=>Zbo Q m1 x1 x77 (n:Int) i) (fun m1 i x1=>Zi2 Q m1 x1 x77 (n:Int) i) (fun k x1 hl_ hj_ m_ ih_=>step k x1 hl_ hj_ _ ih_) last k x1 le0 hj
def ZeF (Q:QD) (x1:LL) (x6:Int) (y2_0:ByteArray) (y2_1:Bool) (y2_2:LL):Prop :=
 0≤x6∧x6<x1.length∧iff (((((x1.getD x6.toNat []).drop 1).headD V.none).int) != ((y2_2.length:Int))) ((True∧True∧True)∧Q (.tup [.v (.sl ZH) (V.l x1),.v .bool (V.b false)]) []) ((y2_2.length≤big→∃ m1,Zbo Q m1 (V.l x1) y2_2 ((y2_2.length:Int)) 0))
theorem Zfh (Q:QD) (x1:LL) (x6:Int) (y2_0:ByteArray) (y2_1:Bool) (y2_2:LL):Zdn Q x1 x6 y2_0 y2_1 y2_2=ZeF Q x1 x6 y2_0 y2_1 y2_2:=by kernel_rfl
def Zgm (Q:QD) (x1:LL) (x6:Int) (x48:Bool) (y2_0:ByteArray) (y2_1:Bool) (y2_2:LL):Prop :=
 iff x48 (0≤(0:Int)∧(0:Int)≤x6∧x6≤x1.length∧(([]:List (List V))).length=0∧0+((x1.take x6.toNat).drop (0:Int).toNat).length≤lim∧((([]:List (List V)))++((x1.take x6.toNat).drop (0:Int).toNat)).length=0+((x1.take x6.toNat).drop (0:Int).toNat).length∧0+((x1.take x6.toNat).drop (0:Int).toNat).length+([[V.s y2_0,V.i ((y2_2.length:Int))]]).length≤lim∧0≤x6∧x6≤(x1.length:Int)∧(x1.length:Int)≤x1.length∧(((([]:List (List V)))++((x1.take x6.toNat).drop (0:Int).toNat))++([[V.s y2_0,V.i ((y2_2.length:Int))]])).length=0+((x1.take x6.toNat).drop (0:Int).toNat).length+([[V.s y2_0,V.i ((y2_2.length:Int))]]).length∧0+((x1.take x6.toNat).drop (0:Int).toNat).length+([[V.s y2_0,V.i ((y2_2.length:Int))]]).length+((x1.take ((x1.length:Int)).toNat).drop x6.toNat).length≤lim∧0+((x1.take x6.toNat).drop (0:Int).toNat).length+([[V.s y2_0,V.i ((y2_2.length:Int))]]).length+((x1.take ((x1.length:Int)).toNat).drop x6.toNat).length=((((([]:List (List V)))++((x1.take x6.toNat).drop (0:Int).toNat))++([[V.s y2_0,V.i ((y2_2.length:Int))]]))++((x1.take ((x1.length:Int)).toNat).drop x6.toNat)).length∧Zdn Q ((((([]:List (List V)))++((x1.take x6.toNat).drop (0:Int).toNat))++([[V.s y2_0,V.i ((y2_2.length:Int))]]))++((x1.take ((x1.length:Int)).toNat).drop x6.toNat)) x6 y2_0 y2_1 y2_2) (Zdn Q x1 x6 y2_0 y2_1 y2_2)
theorem Zjx (Q:QD) (x1:LL) (x6:Int) (x48:Bool) (y2_0:ByteArray) (y2_1:Bool) (y2_2:LL):Zas Q x1 x6 x48 y2_0 y2_1 y2_2=Zgm Q x1 x6 x48 y2_0 y2_1 y2_2:=by kernel_rfl
def ZeI (Q:QD) (m0:Nat) (x1:LL) (x6:Int) (y2_0:ByteArray) (y2_1:Bool) (y2_2:LL):Prop :=
 iff (decide (x6<((x1.length:Int)))) (0≤x6∧x6<x1.length∧cl ZaM [.v .str (((x1.getD x6.toNat []).drop 0).headD V.none),.v .str (V.s y2_0)] [] fun r1 H2=>r1=(.v (.int .i64) (r1.V))∧H2=[]∧iff (decide (r1.V.int<(0:Int))) (Zdl Q m0 x1 (IntKind.i64.wrap (x6+(1:Int))) y2_0 y2_1 y2_2) (iff (x6 == ((x1.length:Int))) (Zas Q x1 x6 true y2_0 y2_1 y2_2) (0≤x6∧x6<x1.length∧Zas Q x1 x6 (!(((((x1.getD x6.toNat []).drop 0).headD V.none).str).toList == y2_0.toList)) y2_0 y2_1 y2_2))) (iff (x6 == ((x1.length:Int))) (Zas Q x1 x6 true y2_0 y2_1 y2_2) (0≤x6∧x6<x1.length∧Zas Q x1 x6 (!(((((x1.getD x6.toNat []).drop 0).headD V.none).str).toList == y2_0.toList)) y2_0 y2_1 y2_2))
theorem Zi4 (Q:QD) (m0:Nat) (x1:LL) (x6:Int) (y2_0:ByteArray) (y2_1:Bool) (y2_2:LL):Zdl Q (m0+1) x1 x6 y2_0 y2_1 y2_2=ZeI Q m0 x1 x6 y2_0 y2_1 y2_2:=by kernel_rfl
theorem ZjB (Q:QD):RuleG5 (Zdl Q) (ZeI Q):=ruleG5 _ _ (Zi4 Q)
def Zh9 (a0_0:ByteArray) (a0_1:Bool) (a0_2 a1:LL) (Q:QD):Prop :=
 iff a0_1 ((True∧True∧True)∧Q (.tup [.v (.sl ZH) (V.l a1),.v .bool (V.b true)]) []) (cl Zfv [.v .str (V.s a0_0)] [] fun r1 H2=>r1=(.v .bool (r1.V))∧H2=[]∧iff r1.V.bool ((True∧True∧True)∧Q (.tup [.v (.sl ZH) (V.l a1),.v .bool (V.b false)]) []) (∃ m0,Zdl Q m0 a1 0 a0_0 a0_1 a0_2))
theorem Znr (a0_0:ByteArray) (a0_1:Bool) (a0_2 a1:LL) (Q:QD) (h:Zh9 a0_0 a0_1 a0_2 a1 Q):cl ZcH [.agg [.v .str (V.s a0_0),.v .bool (V.b a0_1),.v (.sl Za) (V.l a0_2)],.v (.sl ZH) (V.l a1)] [] Q :=
 acalls2 (E:=ZL) (envOk _ _ _ _ _) 0 Tryz.func121 (by kernel_rfl) h
def ZbR:Env:=envA [(5,(.undef 0)::(.undef 2)::(.undef 4)::ua 7 10 (ua 20 9 ([.dead 2,.dead 7,.dead 26]))),(3000004,(.undef 0)::(.undef 4)::ua 8 8 ([]))] [] [] [] [4]
def Zm5 (Q:QD):Post:=blockK 0 (seqJ ZbR (fnAt [1,1,1,1] Tryz.f122) (endK ZbR Tryz.f122 Q))
@[irreducible] def Zdf (Q:QD) (m0:Nat) (x1:ByteArray) (x5:Int) (x17:LL) (x18 x19:Int):Prop :=
 iter (adj (ZbR.adj 5)) (evCode ZbR (fnAt [1,1,1,0,1,0,0] Tryz.f122)) (Zm5 Q) m0 ⟨.undef::(.v .str (V.s x1))::.undef::.skip::.undef::(.v (.int .i64) (V.i x5))::.skip::un 10 ((.v (.sl Za) (V.l x17))::(.v (.int .i64) (V.i x18))::(.v (.int .i64) (V.i x19))::un 9 ([.skip])),dd 30 ([])⟩ []
@[irreducible] def Zc4 (Q:QD) (x1:ByteArray) (x5:Int) (y2_0:ByteArray) (y2_1:Bool) (y2_2:LL):Prop :=
 joinM (evCode ZbR (fnAt [1,1,1] Tryz.f122)) ⟨.undef::(.v .str (V.s x1))::(.ptr (.loc 2) 0)::.skip::.undef::(.v (.int .i64) (V.i x5))::sk 2 (un 8 (sk 14 ([]))),dd 2 ((.cells [.v .str (V.s y2_0),.v .bool (V.b y2_1),.v (.sl Za) (V.l y2_2)])::dd 27 ([]))⟩ [] (endK ZbR Tryz.f122 Q)
def Zm1 (Q:QD) (m0:Nat) (x1:ByteArray) (x5:Int) (x17:LL) (x18 x19:Int):Prop :=
 iff (decide (x19<x18)) (0≤x19∧x19<x17.length∧cl Zei [.agg [.v .str (((x17.getD x19.toNat []).drop 0).headD V.none),.v .bool ((((x17.getD x19.toNat []).drop 0).tail).headD V.none),.v (.sl Za) (((((x17.getD x19.toNat []).drop 0).tail).tail).headD V.none)],.v .str (V.s x1)] [] fun r1 H2=>r1=(.v (.int .i64) (r1.V))∧H2=[]∧Zdf Q m0 x1 (IntKind.i64.wrap (x5+r1.V.int)) x17 x18 (IntKind.i64.wrap (x19+(1:Int)))) (True∧Q (.v (.int .i64) (V.i x5)) [])
theorem Zlc (Q:QD) (m0:Nat) (x1:ByteArray) (x5:Int) (x17:LL) (x18 x19:Int):Zdf Q (m0+1) x1 x5 x17 x18 x19=Zm1 Q m0 x1 x5 x17 x18 x19:=by kernel_rfl
theorem Zkp (Q:QD) (x1:ByteArray) (x17:LL) (n:Nat) (hb:n≤big) (J:Nat→Int→Prop)
  (step:∀ (k:Nat) (x5:Int),k<n→J k x5→∀ K:Int→Prop,(∀ (x5':Int),J (k+1) x5'→K x5')→(0≤(k:Int)∧(k:Int)<x17.length∧cl Zei [.agg [.v .str (((x17.getD k []).drop 0).headD V.none),.v .bool ((((x17.getD k []).drop 0).tail).headD V.none),.v (.sl Za) (((((x17.getD k []).drop 0).tail).tail).headD V.none)],.v .str (V.s x1)] [] fun r1 H2=>r1=(.v (.int .i64) (r1.V))∧H2=[]∧K (IntKind.i64.wrap (x5+r1.V.int))))
  (last:∀ (x5:Int),J n x5→(True∧Q (.v (.int .i64) (V.i x5)) []))
  (k:Nat) (x5:Int) (le0:k≤n) (hj:J k x5):∃ m0,Zdf Q m0 x1 x5 x17 (n:Int) ((k:Int)):=by
 exact rangeG1 n hb J (fun m0 i x5=>Zdf Q m0 x1 x5 x17 (n:Int) i) (fun m0 i x5=>Zlc Q m0 x1 x5 x17 (n:Int) i) (fun k x5 hl_ hj_ m_ ih_=>step k x5 hl_ hj_ _ ih_) last k x5 le0 hj
def Zie (Q:QD) (x1:ByteArray) (x5:Int) (y2_0:ByteArray) (y2_1:Bool) (y2_2:LL):Prop :=
 (y2_2.length≤big→∃ m0,Zdf Q m0 x1 x5 y2_2 ((y2_2.length:Int)) 0)
theorem Zlp (Q:QD) (x1:ByteArray) (x5:Int) (y2_0:ByteArray) (y2_1:Bool) (y2_2:LL):Zc4 Q x1 x5 y2_0 y2_1 y2_2=Zie Q x1 x5 y2_0 y2_1 y2_2:=by kernel_rfl
def Zk0 (a0_0:ByteArray) (a0_1:Bool) (a0_2:LL) (a1:ByteArray) (Q:QD):Prop :=
 iff a0_1 (iff (a0_0.toList == a1.toList) (Zc4 Q a1 1 a0_0 a0_1 a0_2) (Zc4 Q a1 0 a0_0 a0_1 a0_2)) (Zc4 Q a1 0 a0_0 a0_1 a0_2)
theorem Zol (a0_0:ByteArray) (a0_1:Bool) (a0_2:LL) (a1:ByteArray) (Q:QD) (h:Zk0 a0_0 a0_1 a0_2 a1 Q):cl Zei [.agg [.v .str (V.s a0_0),.v .bool (V.b a0_1),.v (.sl Za) (V.l a0_2)],.v .str (V.s a1)] [] Q :=
 acalls2 (E:=ZbR) (envOk _ _ _ _ _) 0 Tryz.func122 (by kernel_rfl) h
def Zcm:Env:=envA [] [] [] [] []
def ZaI (a0:LL) (Q:QD):Prop :=
 cl ZbT [.v (.sl Za) (V.l a0),.fn Z2 []] [] fun r1 H2=>r1=(.v (.int .i64) (r1.V))∧H2=[]∧True∧Q (.v .bool (V.b (decide (r1.V.int≥(0:Int))))) []
theorem ZcI (a0:LL) (Q:QD) (h:ZaI a0 Q):cl Zbk [.v (.sl Za) (V.l a0),.fn Z2 []] [] Q :=
 acalls2 (E:=Zcm) (envOk _ _ _ _ _) 0 Tryz.func126 (by kernel_rfl) h
def ZdV:Env:=envA [(3,ua 0 3 (ua 5 2 (ua 10 8 ([.dead 1,.dead 5,.dead 15]))))] [] [] [] []
def Znf (Q:QD):Post:=blockK 0 (seqJ ZdV (fnAt [1,1,1] Tryz.f128) (endK ZdV Tryz.f128 Q))
@[irreducible] def Zc3 (Q:QD) (m0:Nat) (x3:Int) (x7:LL) (x8 x9:Int):Prop :=
 iter (adj (ZdV.adj 3)) (evCode ZdV (fnAt [1,1,0,1,0,0] Tryz.f128)) (Znf Q) m0 ⟨un 3 ((.v (.int .i64) (V.i x3))::.skip::un 2 ((.v (.sl Za) (V.l x7))::(.v (.int .i64) (V.i x8))::(.v (.int .i64) (V.i x9))::un 8 ([.skip]))),dd 19 ([])⟩ []
def Zm2 (Q:QD) (m0:Nat) (x3:Int) (x7:LL) (x8 x9:Int):Prop :=
 iff (decide (x9<x8)) (0≤x9∧x9<x7.length∧cl ZeX [.agg [.v .str (((x7.getD x9.toNat []).drop 0).headD V.none),.v .bool ((((x7.getD x9.toNat []).drop 0).tail).headD V.none),.v (.sl Za) (((((x7.getD x9.toNat []).drop 0).tail).tail).headD V.none)]] [] fun r1 H2=>r1=(.v (.int .i64) (r1.V))∧H2=[]∧Zc3 Q m0 (IntKind.i64.wrap (x3+r1.V.int)) x7 x8 (IntKind.i64.wrap (x9+(1:Int)))) (True∧Q (.v (.int .i64) (V.i x3)) [])
theorem Zlh (Q:QD) (m0:Nat) (x3:Int) (x7:LL) (x8 x9:Int):Zc3 Q (m0+1) x3 x7 x8 x9=Zm2 Q m0 x3 x7 x8 x9:=by kernel_rfl
theorem ZkY (Q:QD) (x7:LL) (n:Nat) (hb:n≤big) (J:Nat→Int→Prop)
  (step:∀ (k:Nat) (x3:Int),k<n→J k x3→∀ K:Int→Prop,(∀ (x3':Int),J (k+1) x3'→K x3')→(0≤(k:Int)∧(k:Int)<x7.length∧cl ZeX [.agg [.v .str (((x7.getD k []).drop 0).headD V.none),.v .bool ((((x7.getD k []).drop 0).tail).headD V.none),.v (.sl Za) (((((x7.getD k []).drop 0).tail).tail).headD V.none)]] [] fun r1 H2=>r1=(.v (.int .i64) (r1.V))∧H2=[]∧K (IntKind.i64.wrap (x3+r1.V.int))))
  (last:∀ (x3:Int),J n x3→(True∧Q (.v (.int .i64) (V.i x3)) []))
  (k:Nat) (x3:Int) (le0:k≤n) (hj:J k x3):∃ m0,Zc3 Q m0 x3 x7 (n:Int) ((k:Int)):=by
 exact rangeG1 n hb J (fun m0 i x3=>Zc3 Q m0 x3 x7 (n:Int) i) (fun m0 i x3=>Zlh Q m0 x3 x7 (n:Int) i) (fun k x3 hl_ hj_ m_ ih_=>step k x3 hl_ hj_ _ ih_) last k x3 le0 hj
def ZnT (a0_0:ByteArray) (a0_1:Bool) (a0_2:LL) (Q:QD):Prop :=
 (a0_2.length≤big→∃ m0,Zc3 Q m0 1 a0_2 ((a0_2.length:Int)) 0)
theorem Zor (a0_0:ByteArray) (a0_1:Bool) (a0_2:LL) (Q:QD) (h:ZnT a0_0 a0_1 a0_2 Q):cl ZeX [.agg [.v .str (V.s a0_0),.v .bool (V.b a0_1),.v (.sl Za) (V.l a0_2)]] [] Q :=
 acalls2 (E:=ZdV) (envOk _ _ _ _ _) 0 Tryz.func128 (by kernel_rfl) h
def Zdb:Env:=envA [(3,ua 0 3 (ua 5 2 (ua 10 8 ((.dead 1)::(.dead 5)::da 15 2 ([])))))] [] [] [] []
def Zmn (Q:QD):Post:=blockK 0 (seqJ Zdb (fnAt [1,1,1] Tryz.f129) (endK Zdb Tryz.f129 Q))
@[irreducible] def Zcz (Q:QD) (m0:Nat) (x3:Int) (x7:LL) (x8 x9:Int):Prop :=
 iter (adj (Zdb.adj 3)) (evCode Zdb (fnAt [1,1,0,1,0,0] Tryz.f129)) (Zmn Q) m0 ⟨un 3 ((.v (.int .i64) (V.i x3))::.skip::un 2 ((.v (.sl Za) (V.l x7))::(.v (.int .i64) (V.i x8))::(.v (.int .i64) (V.i x9))::un 8 (sk 2 ([])))),dd 20 ([])⟩ []
def Zml (Q:QD) (m0:Nat) (x3:Int) (x7:LL) (x8 x9:Int):Prop :=
 iff (decide (x9<x8)) (0≤x9∧x9<x7.length∧cl ZeC [.agg [.v .str (((x7.getD x9.toNat []).drop 0).headD V.none),.v .bool ((((x7.getD x9.toNat []).drop 0).tail).headD V.none),.v (.sl Za) (((((x7.getD x9.toNat []).drop 0).tail).tail).headD V.none)]] [] fun r1 H2=>r1=(.v (.int .i64) (r1.V))∧H2=[]∧Zcz Q m0 (if r1.V.int > x3 then r1.V.int else x3) x7 x8 (IntKind.i64.wrap (x9+(1:Int)))) (True∧Q (.v (.int .i64) (V.i (IntKind.i64.wrap (x3+(1:Int))))) [])
theorem Zky (Q:QD) (m0:Nat) (x3:Int) (x7:LL) (x8 x9:Int):Zcz Q (m0+1) x3 x7 x8 x9=Zml Q m0 x3 x7 x8 x9:=by kernel_rfl
theorem ZiY (Q:QD) (x7:LL) (n:Nat) (hb:n≤big) (J:Nat→Int→Prop)
  (step:∀ (k:Nat) (x3:Int),k<n→J k x3→∀ K:Int→Prop,(∀ (x3':Int),J (k+1) x3'→K x3')→(0≤(k:Int)∧(k:Int)<x7.length∧cl ZeC [.agg [.v .str (((x7.getD k []).drop 0).headD V.none),.v .bool ((((x7.getD k []).drop 0).tail).headD V.none),.v (.sl Za) (((((x7.getD k []).drop 0).tail).tail).headD V.none)]] [] fun r1 H2=>r1=(.v (.int .i64) (r1.V))∧H2=[]∧K (if r1.V.int > x3 then r1.V.int else x3)))
  (last:∀ (x3:Int),J n x3→(True∧Q (.v (.int .i64) (V.i (IntKind.i64.wrap (x3+(1:Int))))) []))
  (k:Nat) (x3:Int) (le0:k≤n) (hj:J k x3):∃ m0,Zcz Q m0 x3 x7 (n:Int) ((k:Int)):=by
 exact rangeG1 n hb J (fun m0 i x3=>Zcz Q m0 x3 x7 (n:Int) i) (fun m0 i x3=>Zky Q m0 x3 x7 (n:Int) i) (fun k x3 hl_ hj_ m_ ih_=>step k x3 hl_ hj_ _ ih_) last k x3 le0 hj
def Zny (a0_0:ByteArray) (a0_1:Bool) (a0_2:LL) (Q:QD):Prop :=
 (a0_2.length≤big→∃ m0,Zcz Q m0 0 a0_2 ((a0_2.length:Int)) 0)
theorem ZnM (a0_0:ByteArray) (a0_1:Bool) (a0_2:LL) (Q:QD) (h:Zny a0_0 a0_1 a0_2 Q):cl ZeC [.agg [.v .str (V.s a0_0),.v .bool (V.b a0_1),.v (.sl Za) (V.l a0_2)]] [] Q :=
 acalls2 (E:=Zdb) (envOk _ _ _ _ _) 0 Tryz.func129 (by kernel_rfl) h
def ZP:Env:=envA [(3,ua 4 2 (ua 9 22 ([.dead 27])))] [] [] [] []
def Zd7 (Q:QD):Post:=blockK 0 (seqJ ZP (fnAt [1,1,1,1] Tryz.f133) (endK ZP Tryz.f133 Q))
@[irreducible] def ZO (Q:QD) (m0:Nat) (x0:LL) (x1:ByteArray) (x6 x7 x8:Int):Prop :=
 iter (adj (ZP.adj 3)) (evCode ZP (fnAt [1,1,1,0,0,0] Tryz.f133)) (Zd7 Q) m0 ⟨(.v (.sl Zb) (V.l x0))::(.v .str (V.s x1))::sk 2 (un 2 ((.v (.int .i64) (V.i x6))::(.v (.int .i64) (V.i x7))::(.v (.int .i64) (V.i x8))::un 22 (sk 23 ([])))),dd 54 ([])⟩ []
def Zax (Q:QD) (m0:Nat) (x0:LL) (x1:ByteArray) (x6 x7 x8:Int):Prop :=
 iff (decide (x7<x8)) (0≤(1:Int)∧0≤(IntKind.i64.wrap ((IntKind.u64.wrap (IntKind.i64.wrap (x7+x8))).fdiv (2 ^ (min ((1:Int)).toNat IntKind.u64.bits))))∧(IntKind.i64.wrap ((IntKind.u64.wrap (IntKind.i64.wrap (x7+x8))).fdiv (2 ^ (min ((1:Int)).toNat IntKind.u64.bits))))<x0.length∧cl Zd4 [.v .str (((x0.getD ((IntKind.i64.wrap ((IntKind.u64.wrap (IntKind.i64.wrap (x7+x8))).fdiv (2 ^ (min ((1:Int)).toNat IntKind.u64.bits))))).toNat []).drop 0).headD V.none),.v .str (V.s x1)] [] fun r1 H2=>r1=(.v .bool (r1.V))∧H2=[]∧iff r1.V.bool (ZO Q m0 x0 x1 x6 (IntKind.i64.wrap ((IntKind.i64.wrap ((IntKind.u64.wrap (IntKind.i64.wrap (x7+x8))).fdiv (2 ^ (min ((1:Int)).toNat IntKind.u64.bits))))+(1:Int))) x8) (ZO Q m0 x0 x1 x6 x7 (IntKind.i64.wrap ((IntKind.u64.wrap (IntKind.i64.wrap (x7+x8))).fdiv (2 ^ (min ((1:Int)).toNat IntKind.u64.bits)))))) (iff (decide (x7<x6)) (0≤x7∧x7<x0.length∧iff (((((x0.getD x7.toNat []).drop 0).headD V.none).str).toList == x1.toList) ((True∧True∧True)∧Q (.tup [.v (.int .i64) (V.i x7),.v .bool (V.b true)]) []) (0≤x7∧x7<x0.length∧cl Zev [.v .str (((x0.getD x7.toNat []).drop 0).headD V.none)] [] fun r3 H4=>r3=(.v .bool (r3.V))∧H4=[]∧iff r3.V.bool (cl Zev [.v .str (V.s x1)] [] fun r5 H6=>r5=(.v .bool (r5.V))∧H6=[]∧(True∧True∧True)∧Q (.tup [.v (.int .i64) (V.i x7),.v .bool (r5.V)]) []) ((True∧True∧True)∧Q (.tup [.v (.int .i64) (V.i x7),.v .bool (V.b false)]) []))) ((True∧True∧True)∧Q (.tup [.v (.int .i64) (V.i x7),.v .bool (V.b false)]) []))
theorem ZdN (Q:QD) (m0:Nat) (x0:LL) (x1:ByteArray) (x6 x7 x8:Int):ZO Q (m0+1) x0 x1 x6 x7 x8=Zax Q m0 x0 x1 x6 x7 x8:=by kernel_rfl
theorem ZdD (Q:QD):RuleG5 (ZO Q) (Zax Q):=ruleG5 _ _ (ZdN Q)
def ZeG (a0:LL) (a1:ByteArray) (Q:QD):Prop :=
 (a0.length≤big→∃ m0,ZO Q m0 a0 a1 ((a0.length:Int)) 0 ((a0.length:Int)))
theorem ZeN (a0:LL) (a1:ByteArray) (Q:QD) (h:ZeG a0 a1 Q):cl Za0 [.v (.sl Zb) (V.l a0),.v .str (V.s a1)] [] Q :=
 acalls2 (E:=ZP) (envOk _ _ _ _ _) 0 Tryz.func133 (by kernel_rfl) h
def Zmv:Env:=envA [] [] [] [] []
def Zjj (a0 a1:Int) (Q:QD):Prop :=
 0≤(8:Int)∧0≤(24:Int)∧0≤(16:Int)∧0≤(8:Int)∧True∧Q (.v .str (V.s (strV ([[V.i (IntKind.u8.wrap (a0.fdiv (2 ^ (min ((8:Int)).toNat IntKind.i64.bits))))],[V.i (IntKind.u8.wrap a0)],[V.i (IntKind.u8.wrap (a1.fdiv (2 ^ (min ((24:Int)).toNat IntKind.i64.bits))))],[V.i (IntKind.u8.wrap (a1.fdiv (2 ^ (min ((16:Int)).toNat IntKind.i64.bits))))],[V.i (IntKind.u8.wrap (a1.fdiv (2 ^ (min ((8:Int)).toNat IntKind.i64.bits))))],[V.i (IntKind.u8.wrap a1)]])))) []
theorem ZnK (a0 a1:Int) (Q:QD) (h:Zjj a0 a1 Q):cl Zez [.v (.int .i64) (V.i a0),.v (.int .i64) (V.i a1)] [] Q :=
 acalls2 (E:=Zmv) (envOk _ _ _ _ _) 0 Tryz.func134 (by kernel_rfl) h
def Zp:Env:=envA [(2,(.undef 0)::ua 4 4 ((.undef 12)::ua 16 15 ([.dead 27]))),(9,(.undef 0)::(.undef 2)::ua 4 4 (ua 9 27 (ua 39 20 ([.dead 2,.dead 52])))),(12,(.undef 0)::(.undef 2)::ua 4 4 ((.undef 9)::ua 11 25 (ua 39 4 (ua 45 14 ([.dead 52])))))] [] [] [(5000008,[⟨0,0,0⟩])] []
def ZjM (Q:QD):Post:=blockK 0 (seqJ Zp (fnAt [1,1] Tryz.f135) (endK Zp Tryz.f135 Q))
def ZdG (Q:QD):Post:=blockK 2 (seqJ Zp (fnAt [1,1,1,1] Tryz.f135) (endK Zp Tryz.f135 Q))
def ZjI (Q:QD) (m1:Nat):Post:=blockK 4 (blockK 3 (seqJ Zp (fnAt [1,1,1,0,1,0,0,1,1,1] Tryz.f135) (loopK (adj (Zp.adj 9)) (iter (adj (Zp.adj 9)) (evCode Zp (fnAt [1,1,1,0,1,0,0] Tryz.f135)) (ZdG Q) m1) (ZdG Q))))
@[irreducible] def Zbu (Q:QD) (m1 m2:Nat) (x1n:Nat) (x8:V) (x10:Int) (x36:LL) (x37 x38:Int) (x43:V) (x44:Int) (h0:LL):Prop :=
 iter (adj (Zp.adj 12)) (evCode Zp (fnAt [1,1,1,0,1,0,0,1,1,0,0,1,1,0,0] Tryz.f135)) (ZjI Q m1) m2 ⟨.undef::(.osl (.own 0) x1n)::.undef::.skip::un 4 ((.v (.mp Zd) (x8))::.undef::(.v (.int .i64) (V.i x10))::un 25 ((.v (.sl Zn) (V.l x36))::(.v (.int .i64) (V.i x37))::(.v (.int .i64) (V.i x38))::un 4 ((.v (.int .i64) (x43))::(.v (.int .i64) (V.i x44))::un 14 ([.skip])))),dd 60 ([])⟩ [.row Zi h0]
@[irreducible] def Zam (Q:QD) (m1:Nat) (x1n:Nat) (x8:V) (x36:LL) (x37 x38:Int) (h0:LL):Prop :=
 iter (adj (Zp.adj 9)) (evCode Zp (fnAt [1,1,1,0,1,0,0] Tryz.f135)) (ZdG Q) m1 ⟨.undef::(.osl (.own 0) x1n)::.undef::.skip::un 4 ((.v (.mp Zd) (x8))::un 27 ((.v (.sl Zn) (V.l x36))::(.v (.int .i64) (V.i x37))::(.v (.int .i64) (V.i x38))::un 20 ([.skip]))),dd 60 ([])⟩ [.row Zi h0]
@[irreducible] def ZaP (Q:QD) (m0:Nat) (x1n:Nat) (x13:LL) (x14 x15 y2_0:Int) (y2_1 h0:LL):Prop :=
 iter (adj (Zp.adj 2)) (evCode Zp (fnAt [1,0,1,0,0] Tryz.f135)) (ZjM Q) m0 ⟨.undef::(.osl (.own 0) x1n)::(.ptr (.loc 2) 0)::.skip::un 4 (sk 4 (.undef::(.v (.sl Zn) (V.l x13))::(.v (.int .i64) (V.i x14))::(.v (.int .i64) (V.i x15))::un 15 (sk 29 ([])))),dd 2 ((.cells [.v (.int .u64) (V.i y2_0),.v (.sl Zn) (V.l y2_1)])::dd 57 ([]))⟩ [.row Zi h0]
def ZdX (Q:QD) (m1 m2:Nat) (x1n:Nat) (x8:V) (x10:Int) (x36:LL) (x37 x38:Int) (x43:V) (x44:Int) (h0:LL):Prop :=
 iff (decide (x44<x43.int)) (h0.length=x1n∧0≤x10∧x10<x1n∧h0.length=x1n∧x10.toNat<x1n∧cl Ze0 [.v (.mp Zd) (x8),.v (.mp Zd) (((h0.getD x10.toNat []).drop 0).headD V.none)] [] fun r1 H2=>r1=(.tup [.v (.mp Zd) ((r1.parts.headD .undef).V),.v .bool ((r1.parts.tail.headD .undef).V)])∧H2=[]∧iff (!(((r1.parts.tail.headD .undef).V).bool)) ((True∧True∧True)∧Q (.tup [.v (.mp Zd) (V.l ([])),.v .bool (V.b false)]) [.row Zi h0]) (Zbu Q m1 m2 x1n ((r1.parts.headD .undef).V) x10 x36 x37 x38 x43 (IntKind.i64.wrap (x44+(1:Int))) h0)) (Zam Q m1 x1n x8 x36 x37 (IntKind.i64.wrap (x38+(1:Int))) h0)
theorem Zhy (Q:QD) (m1 m2:Nat) (x1n:Nat) (x8:V) (x10:Int) (x36:LL) (x37 x38:Int) (x43:V) (x44:Int) (h0:LL):Zbu Q m1 (m2+1) x1n x8 x10 x36 x37 x38 x43 x44 h0=ZdX Q m1 m2 x1n x8 x10 x36 x37 x38 x43 x44 h0:=by kernel_rfl
theorem Zh5 (Q:QD) (m1:Nat):RuleG9 (Zbu Q m1) (ZdX Q m1):=ruleG9 _ _ (Zhy Q m1)
def Zji (Q:QD) (m1:Nat) (x1n:Nat) (x8:V) (x36:LL) (x37 x38:Int) (h0:LL):Prop :=
 iff (decide (x38<x37)) (0≤x38∧x38<x36.length∧∃ m2,Zbu Q m1 m2 x1n x8 x38 x36 x37 x38 (((x36.getD x38.toNat []).drop 0).headD V.none) 0 h0) ((True∧True∧True)∧Q (.tup [.v (.mp Zd) (x8),.v .bool (V.b true)]) [.row Zi h0])
theorem ZhJ (Q:QD) (m1:Nat) (x1n:Nat) (x8:V) (x36:LL) (x37 x38:Int) (h0:LL):Zam Q (m1+1) x1n x8 x36 x37 x38 h0=Zji Q m1 x1n x8 x36 x37 x38 h0:=by kernel_rfl
theorem ZgQ (Q:QD) (x1n:Nat) (x36 h0:LL) (n:Nat) (hb:n≤big) (J:Nat→V→Prop)
  (step:∀ (k:Nat) (x8:V),k<n→J k x8→∀ m1:Nat,(∀ (x8':V),J (k+1) x8'→Zam Q m1 x1n x8' x36 (n:Int) (IntKind.i64.wrap ((k:Int)+(1:Int))) h0)→(0≤(k:Int)∧(k:Int)<x36.length∧∃ m2,Zbu Q m1 m2 x1n x8 (k:Int) x36 (n:Int) (k:Int) (((x36.getD k []).drop 0).headD V.none) 0 h0))
  (last:∀ (x8:V),J n x8→((True∧True∧True)∧Q (.tup [.v (.mp Zd) (x8),.v .bool (V.b true)]) [.row Zi h0]))
  (k:Nat) (x8:V) (le0:k≤n) (hj:J k x8):∃ m1,Zam Q m1 x1n x8 x36 (n:Int) ((k:Int)) h0:=by
 exact rangeG1 n hb J (fun m1 i x8=>Zam Q m1 x1n x8 x36 (n:Int) i h0) (fun m1 i x8=>ZhJ Q m1 x1n x8 x36 (n:Int) i h0) (fun k x8 hl_ hj_ m_ ih_=>step k x8 hl_ hj_ m_ ih_) last k x8 le0 hj
def Zju (Q:QD) (m0:Nat) (x1n:Nat) (x13:LL) (x14 x15 y2_0:Int) (y2_1 h0:LL):Prop :=
 iff (decide (x15<x14)) (0≤x15∧x15<x13.length∧iff (decide (((((x13.getD x15.toNat []).drop 0).headD V.none).int) > (0:Int))) (h0.length=x1n∧0≤x15∧x15<x1n∧h0.length=x1n∧x15.toNat<x1n∧iff (((((((h0.getD x15.toNat []).drop 0).headD V.none).list).length:Int)) == (0:Int)) ((True∧True∧True)∧Q (.tup [.v (.mp Zd) (V.l ([])),.v .bool (V.b true)]) [.row Zi h0]) (ZaP Q m0 x1n x13 x14 (IntKind.i64.wrap (x15+(1:Int))) y2_0 y2_1 h0)) (ZaP Q m0 x1n x13 x14 (IntKind.i64.wrap (x15+(1:Int))) y2_0 y2_1 h0)) ((y2_1.length≤big→∃ m1,Zam Q m1 x1n (V.l (mset [.str] [V.s (ByteArray.mk #[])] [V.i y2_0] (([]:List (List V))))) y2_1 ((y2_1.length:Int)) 0 h0))
theorem Zhv (Q:QD) (m0:Nat) (x1n:Nat) (x13:LL) (x14 x15 y2_0:Int) (y2_1 h0:LL):ZaP Q (m0+1) x1n x13 x14 x15 y2_0 y2_1 h0=Zju Q m0 x1n x13 x14 x15 y2_0 y2_1 h0:=by kernel_rfl
theorem Zhe (Q:QD) (x1n:Nat) (x13:LL) (y2_0:Int) (y2_1 h0:LL) (n:Nat) (hb:n≤big) (J:Nat→Prop)
  (step:∀ (k:Nat),k<n→J k→∀ K:Prop,(J (k+1)→K)→(0≤(k:Int)∧(k:Int)<x13.length∧iff (decide (((((x13.getD k []).drop 0).headD V.none).int) > (0:Int))) (h0.length=x1n∧0≤(k:Int)∧(k:Int)<x1n∧h0.length=x1n∧k<x1n∧iff (((((((h0.getD k []).drop 0).headD V.none).list).length:Int)) == (0:Int)) ((True∧True∧True)∧Q (.tup [.v (.mp Zd) (V.l ([])),.v .bool (V.b true)]) [.row Zi h0]) (K)) (K)))
  (last:J n→((y2_1.length≤big→∃ m1,Zam Q m1 x1n (V.l (mset [.str] [V.s (ByteArray.mk #[])] [V.i y2_0] (([]:List (List V))))) y2_1 ((y2_1.length:Int)) 0 h0)))
  (k:Nat) (le0:k≤n) (hj:J k):∃ m0,ZaP Q m0 x1n x13 (n:Int) ((k:Int)) y2_0 y2_1 h0:=by
 exact rangeG0 n hb J (fun m0 i=>ZaP Q m0 x1n x13 (n:Int) i y2_0 y2_1 h0) (fun m0 i=>Zhv Q m0 x1n x13 (n:Int) i y2_0 y2_1 h0) (fun k hl_ hj_ m_ ih_=>step k hl_ hj_ _ ih_) last k le0 hj
def Zlz (a0_0:Int) (a0_1:LL) (a1n:Nat) (h0:LL) (Q:QD):Prop :=
 (a0_1.length≤big→∃ m0,ZaP Q m0 a1n a0_1 ((a0_1.length:Int)) 0 a0_0 a0_1 h0)
theorem ZlX (a0_0:Int) (a0_1:LL) (a1n:Nat) (h0:LL) (Q:QD) (h:Zlz a0_0 a0_1 a1n h0 Q):cl ZdH [.agg [.v (.int .u64) (V.i a0_0),.v (.sl Zn) (V.l a0_1)],.osl (.own 0) a1n] [.row Zi h0] Q :=
 acalls2 (E:=Zp) (envOk _ _ _ _ _) 0 Tryz.func135 (by kernel_rfl) h
def ZhI:Env:=envA [] [] [] [] []
def ZeT (a1:ByteArray) (a2:Int) (h0:LL) (Q:QD):Prop :=
 iff (decide ((IntKind.u64.wrap ((((mget [.str] [V.i 0] [V.s a1] h0).headD V.none).int)+a2))≤(4611686018427387904:Int))) (True∧Q (.v .bool (V.b (decide ((((mset [.str] [V.s a1] [V.i (IntKind.u64.wrap ((((mget [.str] [V.i 0] [V.s a1] h0).headD V.none).int)+a2))] h0).length:Int))≤(4096:Int))))) [.map Zd (mset [.str] [V.s a1] [V.i (IntKind.u64.wrap ((((mget [.str] [V.i 0] [V.s a1] h0).headD V.none).int)+a2))] h0)]) (True∧Q (.v .bool (V.b false)) [.map Zd (mset [.str] [V.s a1] [V.i (IntKind.u64.wrap ((((mget [.str] [V.i 0] [V.s a1] h0).headD V.none).int)+a2))] h0)])
theorem Zjv (a1:ByteArray) (a2:Int) (h0:LL) (Q:QD) (h:ZeT a1 a2 h0 Q):cl Zbs [.mp (.own 0),.v .str (V.s a1),.v (.int .u64) (V.i a2)] [.map Zd h0] Q :=
 acalls2 (E:=ZhI) (envOk _ _ _ _ _) 0 Tryz.func136 (by kernel_rfl) h
def ZmK:Env:=envA [] [] [] [] []
def Zi7 (a0:Int) (Q:QD):Prop :=
 iff (decide (a0≥(65:Int))) (iff (decide (a0≤(90:Int))) (True∧Q (.v .bool (V.b true)) []) (iff (decide (a0≥(97:Int))) (iff (decide (a0≤(122:Int))) (True∧Q (.v .bool (V.b true)) []) (iff (decide (a0≥(48:Int))) (iff (decide (a0≤(57:Int))) (True∧Q (.v .bool (V.b true)) []) (iff (a0 == (95:Int)) (True∧Q (.v .bool (V.b true)) []) (True∧Q (.v .bool (V.b (a0 == (39:Int)))) []))) (iff (a0 == (95:Int)) (True∧Q (.v .bool (V.b true)) []) (True∧Q (.v .bool (V.b (a0 == (39:Int)))) [])))) (iff (decide (a0≥(48:Int))) (iff (decide (a0≤(57:Int))) (True∧Q (.v .bool (V.b true)) []) (iff (a0 == (95:Int)) (True∧Q (.v .bool (V.b true)) []) (True∧Q (.v .bool (V.b (a0 == (39:Int)))) []))) (iff (a0 == (95:Int)) (True∧Q (.v .bool (V.b true)) []) (True∧Q (.v .bool (V.b (a0 == (39:Int)))) []))))) (iff (decide (a0≥(97:Int))) (iff (decide (a0≤(122:Int))) (True∧Q (.v .bool (V.b true)) []) (iff (decide (a0≥(48:Int))) (iff (decide (a0≤(57:Int))) (True∧Q (.v .bool (V.b true)) []) (iff (a0 == (95:Int)) (True∧Q (.v .bool (V.b true)) []) (True∧Q (.v .bool (V.b (a0 == (39:Int)))) []))) (iff (a0 == (95:Int)) (True∧Q (.v .bool (V.b true)) []) (True∧Q (.v .bool (V.b (a0 == (39:Int)))) [])))) (iff (decide (a0≥(48:Int))) (iff (decide (a0≤(57:Int))) (True∧Q (.v .bool (V.b true)) []) (iff (a0 == (95:Int)) (True∧Q (.v .bool (V.b true)) []) (True∧Q (.v .bool (V.b (a0 == (39:Int)))) []))) (iff (a0 == (95:Int)) (True∧Q (.v .bool (V.b true)) []) (True∧Q (.v .bool (V.b (a0 == (39:Int)))) []))))
theorem Zn6 (a0:Int) (Q:QD) (h:Zi7 a0 Q):cl Zfq [.v (.int .u8) (V.i a0)] [] Q :=
 acalls2 (E:=ZmK) (envOk _ _ _ _ _) 0 Tryz.func148 (by kernel_rfl) h
def ZbB:Env:=envA [(2,(.undef 4)::ua 6 15 ([.dead 8,.dead 16])),(3000006,(.undef 4)::ua 6 28 ([.dead 23]))] [(6,11,[],[])] [34] [] [6]
def Zmq (Q:QD):Post:=blockK 0 (seqJ ZbB (fnAt [1,1,1] Tryz.f149) (endK ZbB Tryz.f149 Q))
@[irreducible] def ZbM (Q:QD) (x0:LL) (x1:ByteArray) (x5:Int):Prop :=
 joinM (evCode ZbB (fnAt [1,1,1,1] Tryz.f149)) ⟨(.v (.sl Zb) (V.l x0))::(.v .str (V.s x1))::sk 2 (.undef::(.v (.int .i64) (V.i x5))::un 28 (sk 12 ([]))),dd 46 ([])⟩ [] (endK ZbB Tryz.f149 Q)
@[irreducible] def ZdS (Q:QD) (m0:Nat) (x0:LL) (x1:ByteArray) (x5:Int):Prop :=
 iter (adj (ZbB.adj 2)) (evCode ZbB (fnAt [1,1,0,0,0] Tryz.f149)) (Zmq Q) m0 ⟨(.v (.sl Zb) (V.l x0))::(.v .str (V.s x1))::sk 2 (.undef::(.v (.int .i64) (V.i x5))::un 15 (sk 25 ([]))),dd 46 ([])⟩ []
def ZgW (Q:QD) (x0:LL) (x1:ByteArray) (x5:Int):Prop :=
 0≤(0:Int)∧(0:Int)≤x5∧x5≤x0.length∧(([]:List (List V))).length=0∧0+((x0.take x5.toNat).drop (0:Int).toNat).length≤lim∧((([]:List (List V)))++((x0.take x5.toNat).drop (0:Int).toNat)).length=0+((x0.take x5.toNat).drop (0:Int).toNat).length∧0+((x0.take x5.toNat).drop (0:Int).toNat).length+([[V.s x1]]).length≤lim∧0≤x5∧x5≤(x0.length:Int)∧(x0.length:Int)≤x0.length∧(((([]:List (List V)))++((x0.take x5.toNat).drop (0:Int).toNat))++([[V.s x1]])).length=0+((x0.take x5.toNat).drop (0:Int).toNat).length+([[V.s x1]]).length∧0+((x0.take x5.toNat).drop (0:Int).toNat).length+([[V.s x1]]).length+((x0.take ((x0.length:Int)).toNat).drop x5.toNat).length≤lim∧(0+((x0.take x5.toNat).drop (0:Int).toNat).length+([[V.s x1]]).length+((x0.take ((x0.length:Int)).toNat).drop x5.toNat).length=((((([]:List (List V)))++((x0.take x5.toNat).drop (0:Int).toNat))++([[V.s x1]]))++((x0.take ((x0.length:Int)).toNat).drop x5.toNat)).length)∧Q (.v (.sl Zb) (V.l ((((([]:List (List V)))++((x0.take x5.toNat).drop (0:Int).toNat))++([[V.s x1]]))++((x0.take ((x0.length:Int)).toNat).drop x5.toNat)))) []
theorem Zke (Q:QD) (x0:LL) (x1:ByteArray) (x5:Int):ZbM Q x0 x1 x5=ZgW Q x0 x1 x5:=by kernel_rfl
def Ze3 (Q:QD) (m0:Nat) (x0:LL) (x1:ByteArray) (x5:Int):Prop :=
 (x0.length≤big→iff (decide (x5<((x0.length:Int)))) (0≤x5∧x5<x0.length∧cl ZaM [.v .str (((x0.getD x5.toNat []).drop 0).headD V.none),.v .str (V.s x1)] [] fun r1 H2=>r1=(.v (.int .i64) (r1.V))∧H2=[]∧iff (decide (r1.V.int<(0:Int))) (ZdS Q m0 x0 x1 (IntKind.i64.wrap (x5+(1:Int)))) ((x0.length≤big→iff (decide (x5<((x0.length:Int)))) (0≤x5∧x5<x0.length∧iff (((((x0.getD x5.toNat []).drop 0).headD V.none).str).toList == x1.toList) (True∧Q (.v (.sl Zb) (V.l x0)) []) (ZbM Q x0 x1 x5)) (ZbM Q x0 x1 x5)))) ((x0.length≤big→iff (decide (x5<((x0.length:Int)))) (0≤x5∧x5<x0.length∧iff (((((x0.getD x5.toNat []).drop 0).headD V.none).str).toList == x1.toList) (True∧Q (.v (.sl Zb) (V.l x0)) []) (ZbM Q x0 x1 x5)) (ZbM Q x0 x1 x5))))
theorem ZkK (Q:QD) (m0:Nat) (x0:LL) (x1:ByteArray) (x5:Int):ZdS Q (m0+1) x0 x1 x5=Ze3 Q m0 x0 x1 x5:=by kernel_rfl
theorem Zkr (Q:QD):RuleG3 (ZdS Q) (Ze3 Q):=ruleG3 _ _ (ZkK Q)
def ZjX (a0:LL) (a1:ByteArray) (Q:QD):Prop :=
 ∃ m0,ZdS Q m0 a0 a1 0
theorem ZnS (a0:LL) (a1:ByteArray) (Q:QD) (h:ZjX a0 a1 Q):cl ZgP [.v (.sl Zb) (V.l a0),.v .str (V.s a1)] [] Q :=
 acalls2 (E:=ZbB) (envOk _ _ _ _ _) 0 Tryz.func149 (by kernel_rfl) h
def Zb0:Env:=envA [(2,(.undef 0)::(.undef 2)::ua 4 4 (ua 11 15 ([.dead 2,.dead 22])))] [] [] [] []
def Zj6 (Q:QD):Post:=blockK 0 (seqJ Zb0 (fnAt [1,1] Tryz.f150) (endK Zb0 Tryz.f150 Q))
@[irreducible] def Za7 (Q:QD) (m0:Nat) (x1n:Nat) (x8:LL) (x9 x10:Int) (h0:LL):Prop :=
 iter (adj (Zb0.adj 2)) (evCode Zb0 (fnAt [1,0,1,0,0] Tryz.f150)) (Zj6 Q) m0 ⟨.undef::(.osl (.own 0) x1n)::.undef::.skip::un 4 ((.v (.sl Zn) (V.l x8))::(.v (.int .i64) (V.i x9))::(.v (.int .i64) (V.i x10))::un 15 ([])),dd 26 ([])⟩ [.row ZR h0]
def Zkx (Q:QD) (m0:Nat) (x1n:Nat) (x8:LL) (x9 x10:Int) (h0:LL):Prop :=
 iff (decide (x10<x9)) (0≤x10∧x10<x8.length∧iff (decide (((((x8.getD x10.toNat []).drop 0).headD V.none).int) > (0:Int))) (h0.length=x1n∧0≤x10∧x10<x1n∧h0.length=x1n∧x10.toNat<x1n∧(((((h0.getD x10.toNat []).drop 0).headD V.none).list).length≤big→iff (((((((h0.getD x10.toNat []).drop 0).headD V.none).list).length:Int)) == (0:Int)) (True∧Q (.v .bool (V.b true)) [.row ZR h0]) (Za7 Q m0 x1n x8 x9 (IntKind.i64.wrap (x10+(1:Int))) h0))) (Za7 Q m0 x1n x8 x9 (IntKind.i64.wrap (x10+(1:Int))) h0)) (True∧Q (.v .bool (V.b false)) [.row ZR h0])
theorem Zit (Q:QD) (m0:Nat) (x1n:Nat) (x8:LL) (x9 x10:Int) (h0:LL):Za7 Q (m0+1) x1n x8 x9 x10 h0=Zkx Q m0 x1n x8 x9 x10 h0:=by kernel_rfl
theorem ZhX (Q:QD) (x1n:Nat) (x8 h0:LL) (n:Nat) (hb:n≤big) (J:Nat→Prop)
  (step:∀ (k:Nat),k<n→J k→∀ K:Prop,(J (k+1)→K)→(0≤(k:Int)∧(k:Int)<x8.length∧iff (decide (((((x8.getD k []).drop 0).headD V.none).int) > (0:Int))) (h0.length=x1n∧0≤(k:Int)∧(k:Int)<x1n∧h0.length=x1n∧k<x1n∧(((((h0.getD k []).drop 0).headD V.none).list).length≤big→iff (((((((h0.getD k []).drop 0).headD V.none).list).length:Int)) == (0:Int)) (True∧Q (.v .bool (V.b true)) [.row ZR h0]) (K))) (K)))
  (last:J n→(True∧Q (.v .bool (V.b false)) [.row ZR h0]))
  (k:Nat) (le0:k≤n) (hj:J k):∃ m0,Za7 Q m0 x1n x8 (n:Int) ((k:Int)) h0:=by
 exact rangeG0 n hb J (fun m0 i=>Za7 Q m0 x1n x8 (n:Int) i h0) (fun m0 i=>Zit Q m0 x1n x8 (n:Int) i h0) (fun k hl_ hj_ m_ ih_=>step k hl_ hj_ _ ih_) last k le0 hj
def ZlV (a0_0:Int) (a0_1:LL) (a1n:Nat) (h0:LL) (Q:QD):Prop :=
 (a0_1.length≤big→∃ m0,Za7 Q m0 a1n a0_1 ((a0_1.length:Int)) 0 h0)
theorem ZmL (a0_0:Int) (a0_1:LL) (a1n:Nat) (h0:LL) (Q:QD) (h:ZlV a0_0 a0_1 a1n h0 Q):cl Zej [.agg [.v (.int .u64) (V.i a0_0),.v (.sl Zn) (V.l a0_1)],.osl (.own 0) a1n] [.row ZR h0] Q :=
 acalls2 (E:=Zb0) (envOk _ _ _ _ _) 0 Tryz.func150 (by kernel_rfl) h
def Zm:Env:=envA [(3,(.undef 0)::ua 4 2 ((.undef 8)::ua 10 3 (ua 16 46 ((.dead 8)::(.dead 10)::(.dead 20)::da 27 2 ([.dead 30,.dead 54,.dead 57,.dead 59,.plainT 6 Zc]))))),(6,(.undef 0)::ua 4 2 (ua 10 3 (ua 16 3 (ua 22 40 ((.dead 10)::da 27 2 ([.dead 30,.dead 54,.dead 57,.dead 59,.plainT 6 Zc])))))),(10,(.undef 0)::ua 4 2 ((.undef 12)::ua 16 3 (ua 22 8 (ua 32 30 ([])))))] [(12,12,[0,1],[])] [] [(14,[⟨11,999999,0⟩])] []
def Zd8 (Q:QD):Post:=blockK 0 (seqJ Zm (fnAt [1,1,1] Tryz.f151) (endK Zm Tryz.f151 Q))
def Zec (Q:QD) (m0:Nat):Post:=blockK 2 (blockK 1 (seqJ Zm (fnAt [1,1,0,1,0,0,1,1,1] Tryz.f151) (loopK (adj (Zm.adj 3)) (iter (adj (Zm.adj 3)) (evCode Zm (fnAt [1,1,0,1,0,0] Tryz.f151)) (Zd8 Q) m0) (Zd8 Q))))
def Zkg (Q:QD) (m0 m1:Nat):Post:=blockK 4 (seqJ Zm (fnAt [1,1,0,1,0,0,1,1,0,0,1,1,0,0,1,1,0,0,1,1,1] Tryz.f151) (blockK 3 (seqJ Zm (fnAt [1,1,0,1,0,0,1,1,0,0,1,1,0,0,1,1,1] Tryz.f151) (loopK (adj (Zm.adj 6)) (iter (adj (Zm.adj 6)) (evCode Zm (fnAt [1,1,0,1,0,0,1,1,0,0,1,1,0,0] Tryz.f151)) (Zec Q m0) m1) (Zec Q m0)))))
@[irreducible] def Za9 (Q:QD) (m0 m1 m2:Nat) (x1:LL) (x6:V) (x11n:Nat) (x13:LL) (x14 x15:Int) (x19:LL) (x20 x21 x30 x31:Int) (y8_0 y8_1 y10_0 y10_1:V) (y28:LL):Prop :=
 iter (adj (Zm.adj 10)) (evCode Zm (fnAt [1,1,0,1,0,0,1,1,0,0,1,1,0,0,1,1,0,0,1,1,0,1,0,0] Tryz.f151)) (Zkg Q m0 m1) m2 ⟨.undef::(.v (.sl Zc) (V.l x1))::sk 2 (un 2 ((.v (.sl Zc) (x6))::.skip::(.ptr (.loc 8) 0)::.skip::(.ptr (.loc 10) 0)::(.osl (.loc 28) x11n)::.undef::(.v (.sl Zc) (V.l x13))::(.v (.int .i64) (V.i x14))::(.v (.int .i64) (V.i x15))::un 3 ((.v (.sl Zc) (V.l x19))::(.v (.int .i64) (V.i x20))::(.v (.int .i64) (V.i x21))::un 8 ((.v (.int .i64) (V.i x30))::(.v (.int .i64) (V.i x31))::un 30 ([.skip]))))),dd 8 ((.cells [.v (.int .u64) (y8_0),.v (.sl Zn) (y8_1)])::.dead::(.cells [.v (.int .u64) (y10_0),.v (.sl Zn) (y10_1)])::dd 17 ((.row Zn y28)::dd 34 ([])))⟩ []
@[irreducible] def Zaf (Q:QD) (m0 m1:Nat) (x1:LL) (x6:V) (x13:LL) (x14 x15:Int) (x19:LL) (x20 x21:Int) (y8_0 y8_1:V):Prop :=
 iter (adj (Zm.adj 6)) (evCode Zm (fnAt [1,1,0,1,0,0,1,1,0,0,1,1,0,0] Tryz.f151)) (Zec Q m0) m1 ⟨.undef::(.v (.sl Zc) (V.l x1))::sk 2 (un 2 ((.v (.sl Zc) (x6))::.skip::(.ptr (.loc 8) 0)::.skip::un 3 ((.v (.sl Zc) (V.l x13))::(.v (.int .i64) (V.i x14))::(.v (.int .i64) (V.i x15))::un 3 ((.v (.sl Zc) (V.l x19))::(.v (.int .i64) (V.i x20))::(.v (.int .i64) (V.i x21))::un 40 ([.skip]))))),dd 8 ((.cells [.v (.int .u64) (y8_0),.v (.sl Zn) (y8_1)])::dd 54 ([]))⟩ []
@[irreducible] def ZaB (Q:QD) (m0:Nat) (x1:LL) (x6:V) (x13:LL) (x14 x15:Int):Prop :=
 iter (adj (Zm.adj 3)) (evCode Zm (fnAt [1,1,0,1,0,0] Tryz.f151)) (Zd8 Q) m0 ⟨.undef::(.v (.sl Zc) (V.l x1))::sk 2 (un 2 ((.v (.sl Zc) (x6))::.skip::.undef::.skip::un 3 ((.v (.sl Zc) (V.l x13))::(.v (.int .i64) (V.i x14))::(.v (.int .i64) (V.i x15))::un 46 ([.skip])))),dd 63 ([])⟩ []
def Zkc (Q:QD) (m0 m1 m2:Nat) (x1:LL) (x6:V) (x11n:Nat) (x13:LL) (x14 x15:Int) (x19:LL) (x20 x21 x30 x31:Int) (y8_0 y8_1 y10_0 y10_1:V) (y28:LL):Prop :=
 iff (decide (x31<x30)) (0≤x31∧x31<y8_1.list.length∧0≤x31∧x31<y10_1.list.length∧y28.length=x11n∧0≤x31∧x31<x11n∧y28.length=x11n∧x31.toNat<x11n∧Za9 Q m0 m1 m2 x1 x6 x11n x13 x14 x15 x19 x20 x21 x30 (IntKind.i64.wrap (x31+(1:Int))) y8_0 y8_1 y10_0 y10_1 (y28.set x31.toNat (setV (y28.getD x31.toNat []) 0 [V.i (IntKind.i64.wrap (((((y8_1.list.getD x31.toNat []).drop 0).headD V.none).int)+((((y10_1.list.getD x31.toNat []).drop 0).headD V.none).int)))]))) (x11n=y28.length∧cl Zga [.v (.int .u64) (y8_0),.v (.int .u64) (y10_0)] [] fun r1 H2=>r1=(.v (.int .u64) (r1.V))∧H2=[]∧cl ZfV [.v (.sl Zc) (x6),.agg [.v (.int .u64) (r1.V),.v (.sl Zn) (V.l y28)]] [] fun r3 H4=>r3=(.v (.sl Zc) (r3.V))∧H4=[]∧cl Zeh [.v (.sl Zc) (r3.V)] [] fun r5 H6=>r5=(.v .bool (r5.V))∧H6=[]∧iff r5.V.bool ((True∧True∧True)∧Q (.tup [.nil,.v .bool (V.b false)]) []) (Zaf Q m0 m1 x1 r3.V x13 x14 x15 x19 x20 (IntKind.i64.wrap (x21+(1:Int))) y8_0 y8_1))
theorem ZiB (Q:QD) (m0 m1 m2:Nat) (x1:LL) (x6:V) (x11n:Nat) (x13:LL) (x14 x15:Int) (x19:LL) (x20 x21 x30 x31:Int) (y8_0 y8_1 y10_0 y10_1:V) (y28:LL):Za9 Q m0 m1 (m2+1) x1 x6 x11n x13 x14 x15 x19 x20 x21 x30 x31 y8_0 y8_1 y10_0 y10_1 y28=Zkc Q m0 m1 m2 x1 x6 x11n x13 x14 x15 x19 x20 x21 x30 x31 y8_0 y8_1 y10_0 y10_1 y28:=by kernel_rfl
theorem Zh0 (Q:QD) (m0 m1:Nat) (x1:LL) (x6:V) (x11n:Nat) (x13:LL) (x14 x15:Int) (x19:LL) (x20 x21:Int) (y8_0 y8_1 y10_0 y10_1:V) (n:Nat) (hb:n≤big) (J:Nat→LL→Prop)
  (step:∀ (k:Nat) (y28:LL),k<n→J k y28→∀ K:LL→Prop,(∀ (y28':LL),J (k+1) y28'→K y28')→(0≤(k:Int)∧(k:Int)<y8_1.list.length∧0≤(k:Int)∧(k:Int)<y10_1.list.length∧y28.length=x11n∧0≤(k:Int)∧(k:Int)<x11n∧y28.length=x11n∧k<x11n∧K (y28.set k (setV (y28.getD k []) 0 [V.i (IntKind.i64.wrap (((((y8_1.list.getD k []).drop 0).headD V.none).int)+((((y10_1.list.getD k []).drop 0).headD V.none).int)))]))))
  (last:∀ (y28:LL),J n y28→(x11n=y28.length∧cl Zga [.v (.int .u64) (y8_0),.v (.int .u64) (y10_0)] [] fun r1 H2=>r1=(.v (.int .u64) (r1.V))∧H2=[]∧cl ZfV [.v (.sl Zc) (x6),.agg [.v (.int .u64) (r1.V),.v (.sl Zn) (V.l y28)]] [] fun r3 H4=>r3=(.v (.sl Zc) (r3.V))∧H4=[]∧cl Zeh [.v (.sl Zc) (r3.V)] [] fun r5 H6=>r5=(.v .bool (r5.V))∧H6=[]∧iff r5.V.bool ((True∧True∧True)∧Q (.tup [.nil,.v .bool (V.b false)]) []) (Zaf Q m0 m1 x1 r3.V x13 x14 x15 x19 x20 (IntKind.i64.wrap (x21+(1:Int))) y8_0 y8_1)))
  (k:Nat) (y28:LL) (le0:k≤n) (hj:J k y28):∃ m2,Za9 Q m0 m1 m2 x1 x6 x11n x13 x14 x15 x19 x20 x21 (n:Int) ((k:Int)) y8_0 y8_1 y10_0 y10_1 y28:=by
 exact rangeG1 n hb J (fun m2 i y28=>Za9 Q m0 m1 m2 x1 x6 x11n x13 x14 x15 x19 x20 x21 (n:Int) i y8_0 y8_1 y10_0 y10_1 y28) (fun m2 i y28=>ZiB Q m0 m1 m2 x1 x6 x11n x13 x14 x15 x19 x20 x21 (n:Int) i y8_0 y8_1 y10_0 y10_1 y28) (fun k y28 hl_ hj_ m_ ih_=>step k y28 hl_ hj_ _ ih_) last k y28 le0 hj
def Zkh (Q:QD) (m0 m1:Nat) (x1:LL) (x6:V) (x13:LL) (x14 x15:Int) (x19:LL) (x20 x21:Int) (y8_0 y8_1:V):Prop :=
 iff (decide (x21<x20)) (0≤x21∧x21<x19.length∧(y8_1.list.length≤big→0≤((y8_1.list.length:Int))∧((y8_1.list.length:Int))=((y8_1.list.length:Int))∧((y8_1.list.length:Int))≤lim∧(zeroRow [.int .i64] (((y8_1.list.length:Int))).toNat).length=(((y8_1.list.length:Int))).toNat∧((((y8_1.list.length:Int))).toNat≤big→∃ m2,Za9 Q m0 m1 m2 x1 x6 ((((y8_1.list.length:Int))).toNat) x13 x14 x15 x19 x20 x21 ((((((y8_1.list.length:Int))).toNat:Nat):Int)) 0 y8_0 y8_1 (((x19.getD x21.toNat []).drop 0).headD V.none) ((((x19.getD x21.toNat []).drop 0).tail).headD V.none) (zeroRow [.int .i64] (((y8_1.list.length:Int))).toNat)))) (ZaB Q m0 x1 x6 x13 x14 (IntKind.i64.wrap (x15+(1:Int))))
theorem Zis (Q:QD) (m0 m1:Nat) (x1:LL) (x6:V) (x13:LL) (x14 x15:Int) (x19:LL) (x20 x21:Int) (y8_0 y8_1:V):Zaf Q m0 (m1+1) x1 x6 x13 x14 x15 x19 x20 x21 y8_0 y8_1=Zkh Q m0 m1 x1 x6 x13 x14 x15 x19 x20 x21 y8_0 y8_1:=by kernel_rfl
theorem Zht (Q:QD) (m0:Nat) (x1 x13:LL) (x14 x15:Int) (x19:LL) (y8_0 y8_1:V) (n:Nat) (hb:n≤big) (J:Nat→V→Prop)
  (step:∀ (k:Nat) (x6:V),k<n→J k x6→∀ m1:Nat,(∀ (x6':V),J (k+1) x6'→Zaf Q m0 m1 x1 x6' x13 x14 x15 x19 (n:Int) (IntKind.i64.wrap ((k:Int)+(1:Int))) y8_0 y8_1)→(0≤(k:Int)∧(k:Int)<x19.length∧(y8_1.list.length≤big→0≤((y8_1.list.length:Int))∧((y8_1.list.length:Int))=((y8_1.list.length:Int))∧((y8_1.list.length:Int))≤lim∧(zeroRow [.int .i64] (((y8_1.list.length:Int))).toNat).length=(((y8_1.list.length:Int))).toNat∧((((y8_1.list.length:Int))).toNat≤big→∃ m2,Za9 Q m0 m1 m2 x1 x6 ((((y8_1.list.length:Int))).toNat) x13 x14 x15 x19 (n:Int) (k:Int) ((((((y8_1.list.length:Int))).toNat:Nat):Int)) 0 y8_0 y8_1 (((x19.getD k []).drop 0).headD V.none) ((((x19.getD k []).drop 0).tail).headD V.none) (zeroRow [.int .i64] (((y8_1.list.length:Int))).toNat)))))
  (last:∀ (x6:V),J n x6→(ZaB Q m0 x1 x6 x13 x14 (IntKind.i64.wrap (x15+(1:Int)))))
  (k:Nat) (x6:V) (le0:k≤n) (hj:J k x6):∃ m1,Zaf Q m0 m1 x1 x6 x13 x14 x15 x19 (n:Int) ((k:Int)) y8_0 y8_1:=by
 exact rangeG1 n hb J (fun m1 i x6=>Zaf Q m0 m1 x1 x6 x13 x14 x15 x19 (n:Int) i y8_0 y8_1) (fun m1 i x6=>Zis Q m0 m1 x1 x6 x13 x14 x15 x19 (n:Int) i y8_0 y8_1) (fun k x6 hl_ hj_ m_ ih_=>step k x6 hl_ hj_ m_ ih_) last k x6 le0 hj
def Zkb (Q:QD) (m0:Nat) (x1:LL) (x6:V) (x13:LL) (x14 x15:Int):Prop :=
 iff (decide (x15<x14)) (0≤x15∧x15<x13.length∧(x1.length≤big→∃ m1,Zaf Q m0 m1 x1 x6 x13 x14 x15 x1 ((x1.length:Int)) 0 (((x13.getD x15.toNat []).drop 0).headD V.none) ((((x13.getD x15.toNat []).drop 0).tail).headD V.none))) ((True∧True∧True)∧Q (.tup [.v (.sl Zc) (x6),.v .bool (V.b true)]) [])
theorem ZiW (Q:QD) (m0:Nat) (x1:LL) (x6:V) (x13:LL) (x14 x15:Int):ZaB Q (m0+1) x1 x6 x13 x14 x15=Zkb Q m0 x1 x6 x13 x14 x15:=by kernel_rfl
theorem ZhA (Q:QD) (x1 x13:LL) (n:Nat) (hb:n≤big) (J:Nat→V→Prop)
  (step:∀ (k:Nat) (x6:V),k<n→J k x6→∀ m0:Nat,(∀ (x6':V),J (k+1) x6'→ZaB Q m0 x1 x6' x13 (n:Int) (IntKind.i64.wrap ((k:Int)+(1:Int))))→(0≤(k:Int)∧(k:Int)<x13.length∧(x1.length≤big→∃ m1,Zaf Q m0 m1 x1 x6 x13 (n:Int) (k:Int) x1 ((x1.length:Int)) 0 (((x13.getD k []).drop 0).headD V.none) ((((x13.getD k []).drop 0).tail).headD V.none))))
  (last:∀ (x6:V),J n x6→((True∧True∧True)∧Q (.tup [.v (.sl Zc) (x6),.v .bool (V.b true)]) []))
  (k:Nat) (x6:V) (le0:k≤n) (hj:J k x6):∃ m0,ZaB Q m0 x1 x6 x13 (n:Int) ((k:Int)):=by
 exact rangeG1 n hb J (fun m0 i x6=>ZaB Q m0 x1 x6 x13 (n:Int) i) (fun m0 i x6=>ZiW Q m0 x1 x6 x13 (n:Int) i) (fun k x6 hl_ hj_ m_ ih_=>step k x6 hl_ hj_ m_ ih_) last k x6 le0 hj
def Zl6 (a0 a1:LL) (Q:QD):Prop :=
 (a0.length≤big→∃ m0,ZaB Q m0 a1 (V.l ([])) a0 ((a0.length:Int)) 0)
theorem Zne (a0 a1:LL) (Q:QD) (h:Zl6 a0 a1 Q):cl Zfz [.v (.sl Zc) (V.l a0),.v (.sl Zc) (V.l a1)] [] Q :=
 acalls2 (E:=Zm) (envOk _ _ _ _ _) 0 Tryz.func151 (by kernel_rfl) h
def Zcx:Env:=envA [(2,(.undef 1)::(.undef 4)::ua 7 17 ([.dead 9,.dead 19])),(3000005,(.undef 1)::(.undef 4)::ua 7 31 ([.dead 26,.dead 36]))] [(2,12,[],[]),(4,12,[],[]),(6,9,[0,1],[]),(8,11,[],[])] [39,55] [] [5]
def Zn9 (Q:QD):Post:=blockK 0 (seqJ Zcx (fnAt [1,1,1] Tryz.f152) (endK Zcx Tryz.f152 Q))
@[irreducible] def Za6 (Q:QD) (x0:LL) (x5:Int) (x38:Bool) (y3_0:Int) (y3_1:LL):Prop :=
 joinM (evCode Zcx (fnAt [1,1,1,0,1] Tryz.f152)) ⟨(.v (.sl Zc) (V.l x0))::.undef::.skip::(.ptr (.loc 3) 0)::.undef::(.v (.int .i64) (V.i x5))::.skip::un 31 ((.v .bool (V.b x38))::sk 28 ([])),dd 3 ((.cells [.v (.int .u64) (V.i y3_0),.v (.sl Zn) (V.l y3_1)])::dd 63 ([]))⟩ [] (seqJ Zcx (fnAt [1,1,1,1] Tryz.f152) (endK Zcx Tryz.f152 Q))
@[irreducible] def Zfl (Q:QD) (m0:Nat) (x0:LL) (x5 y3_0:Int) (y3_1:LL):Prop :=
 iter (adj (Zcx.adj 2)) (evCode Zcx (fnAt [1,1,0,0,0] Tryz.f152)) (Zn9 Q) m0 ⟨(.v (.sl Zc) (V.l x0))::.undef::.skip::(.ptr (.loc 3) 0)::.undef::(.v (.int .i64) (V.i x5))::.skip::un 17 (sk 43 ([])),dd 3 ((.cells [.v (.int .u64) (V.i y3_0),.v (.sl Zn) (V.l y3_1)])::dd 63 ([]))⟩ []
def ZgZ (Q:QD) (x0:LL) (x5:Int) (x38:Bool) (y3_0:Int) (y3_1:LL):Prop :=
 iff x38 ((([]:List (List V))).length=0∧0+x0.length≤lim∧0≤x5∧x5<x0.length∧cl Zkj [.v (.int .u64) (((x0.getD x5.toNat []).drop 0).headD V.none),.v (.int .u64) (V.i y3_0)] [] fun r1 H2=>r1=(.v (.int .u64) (r1.V))∧H2=[]∧((([]:List (List V)))++x0).length=0+x0.length∧0≤x5∧x5<(0+x0.length)∧((([]:List (List V)))++x0).length=0+x0.length∧x5.toNat<0+x0.length∧((([]:List (List V)))++x0).length=0+x0.length∧x5.toNat<0+x0.length∧(0+x0.length=(((([]:List (List V)))++x0).set x5.toNat (setV (((([]:List (List V)))++x0).getD x5.toNat []) 0 [r1.V])).length)∧Q (.v (.sl Zc) (V.l (((([]:List (List V)))++x0).set x5.toNat (setV (((([]:List (List V)))++x0).getD x5.toNat []) 0 [r1.V])))) []) (0≤(0:Int)∧(0:Int)≤x5∧x5≤x0.length∧(([]:List (List V))).length=0∧0+((x0.take x5.toNat).drop (0:Int).toNat).length≤lim∧((([]:List (List V)))++((x0.take x5.toNat).drop (0:Int).toNat)).length=0+((x0.take x5.toNat).drop (0:Int).toNat).length∧0+((x0.take x5.toNat).drop (0:Int).toNat).length+([[V.i y3_0,V.l y3_1]]).length≤lim∧0≤x5∧x5≤(x0.length:Int)∧(x0.length:Int)≤x0.length∧(((([]:List (List V)))++((x0.take x5.toNat).drop (0:Int).toNat))++([[V.i y3_0,V.l y3_1]])).length=0+((x0.take x5.toNat).drop (0:Int).toNat).length+([[V.i y3_0,V.l y3_1]]).length∧0+((x0.take x5.toNat).drop (0:Int).toNat).length+([[V.i y3_0,V.l y3_1]]).length+((x0.take ((x0.length:Int)).toNat).drop x5.toNat).length≤lim∧(0+((x0.take x5.toNat).drop (0:Int).toNat).length+([[V.i y3_0,V.l y3_1]]).length+((x0.take ((x0.length:Int)).toNat).drop x5.toNat).length=((((([]:List (List V)))++((x0.take x5.toNat).drop (0:Int).toNat))++([[V.i y3_0,V.l y3_1]]))++((x0.take ((x0.length:Int)).toNat).drop x5.toNat)).length)∧Q (.v (.sl Zc) (V.l ((((([]:List (List V)))++((x0.take x5.toNat).drop (0:Int).toNat))++([[V.i y3_0,V.l y3_1]]))++((x0.take ((x0.length:Int)).toNat).drop x5.toNat)))) [])
theorem Zic (Q:QD) (x0:LL) (x5:Int) (x38:Bool) (y3_0:Int) (y3_1:LL):Za6 Q x0 x5 x38 y3_0 y3_1=ZgZ Q x0 x5 x38 y3_0 y3_1:=by kernel_rfl
def Zhb (Q:QD) (m0:Nat) (x0:LL) (x5 y3_0:Int) (y3_1:LL):Prop :=
 iff (decide (x5<((x0.length:Int)))) (0≤x5∧x5<x0.length∧cl ZN [.v (.sl Zn) (((x0.getD x5.toNat []).drop 1).headD V.none),.v (.sl Zn) (V.l y3_1)] [] fun r1 H2=>r1=(.v (.int .i64) (r1.V))∧H2=[]∧iff (decide (r1.V.int<(0:Int))) (Zfl Q m0 x0 (IntKind.i64.wrap (x5+(1:Int))) y3_0 y3_1) (iff (decide (x5<((x0.length:Int)))) (0≤x5∧x5<x0.length∧cl ZN [.v (.sl Zn) (((x0.getD x5.toNat []).drop 1).headD V.none),.v (.sl Zn) (V.l y3_1)] [] fun r3 H4=>r3=(.v (.int .i64) (r3.V))∧H4=[]∧Za6 Q x0 x5 (r3.V.int == (0:Int)) y3_0 y3_1) (Za6 Q x0 x5 false y3_0 y3_1))) (iff (decide (x5<((x0.length:Int)))) (0≤x5∧x5<x0.length∧cl ZN [.v (.sl Zn) (((x0.getD x5.toNat []).drop 1).headD V.none),.v (.sl Zn) (V.l y3_1)] [] fun r5 H6=>r5=(.v (.int .i64) (r5.V))∧H6=[]∧Za6 Q x0 x5 (r5.V.int == (0:Int)) y3_0 y3_1) (Za6 Q x0 x5 false y3_0 y3_1))
theorem ZmO (Q:QD) (m0:Nat) (x0:LL) (x5 y3_0:Int) (y3_1:LL):Zfl Q (m0+1) x0 x5 y3_0 y3_1=Zhb Q m0 x0 x5 y3_0 y3_1:=by kernel_rfl
theorem Znd (Q:QD):RuleG4 (Zfl Q) (Zhb Q):=ruleG4 _ _ (ZmO Q)
def Zng (a0:LL) (a1_0:Int) (a1_1:LL) (Q:QD):Prop :=
 ∃ m0,Zfl Q m0 a0 0 a1_0 a1_1
theorem ZoD (a0:LL) (a1_0:Int) (a1_1:LL) (Q:QD) (h:Zng a0 a1_0 a1_1 Q):cl ZfV [.v (.sl Zc) (V.l a0),.agg [.v (.int .u64) (V.i a1_0),.v (.sl Zn) (V.l a1_1)]] [] Q :=
 acalls2 (E:=Zcx) (envOk _ _ _ _ _) 0 Tryz.func152 (by kernel_rfl) h
def Zal:Env:=envA [(4,(.undef 0)::(.undef 2)::(.undef 4)::ua 6 4 (ua 13 17 ([.dead 4,.dead 21]))),(9,(.undef 0)::(.undef 2)::(.undef 4)::ua 6 4 (ua 13 7 (ua 23 7 ([.dead 4]))))] [] [] [] []
def ZfC (Q:QD):Post:=blockK 0 (seqJ Zal (fnAt [1,1,1] Tryz.f153) (endK Zal Tryz.f153 Q))
def Zm6 (Q:QD) (m0:Nat):Post:=blockK 2 (blockK 1 (seqJ Zal (fnAt [1,1,0,1,0,0,1,1,1] Tryz.f153) (loopK (adj (Zal.adj 4)) (iter (adj (Zal.adj 4)) (evCode Zal (fnAt [1,1,0,1,0,0] Tryz.f153)) (ZfC Q) m0) (ZfC Q))))
@[irreducible] def Zby (Q:QD) (m0 m1:Nat) (x10:LL) (x11 x12:Int) (x20:V) (x21 x22:Int):Prop :=
 iter (adj (Zal.adj 9)) (evCode Zal (fnAt [1,1,0,1,0,0,1,1,0,0,1,1,1,0,0] Tryz.f153)) (Zm6 Q m0) m1 ⟨.undef::.skip::.undef::.skip::.undef::.skip::un 4 ((.v (.sl Zc) (V.l x10))::(.v (.int .i64) (V.i x11))::(.v (.int .i64) (V.i x12))::un 7 ((.v (.sl Zn) (x20))::(.v (.int .i64) (V.i x21))::(.v (.int .i64) (V.i x22))::un 7 ([]))),dd 30 ([])⟩ []
@[irreducible] def Za5 (Q:QD) (m0:Nat) (x10:LL) (x11 x12:Int):Prop :=
 iter (adj (Zal.adj 4)) (evCode Zal (fnAt [1,1,0,1,0,0] Tryz.f153)) (ZfC Q) m0 ⟨.undef::.skip::.undef::.skip::.undef::.skip::un 4 ((.v (.sl Zc) (V.l x10))::(.v (.int .i64) (V.i x11))::(.v (.int .i64) (V.i x12))::un 17 ([])),dd 30 ([])⟩ []
def ZmI (Q:QD) (m0 m1:Nat) (x10:LL) (x11 x12:Int) (x20:V) (x21 x22:Int):Prop :=
 iff (decide (x22<x21)) (0≤x22∧x22<x20.list.length∧iff (decide (((((x20.list.getD x22.toNat []).drop 0).headD V.none).int) > (1048576:Int))) (True∧Q (.v .bool (V.b true)) []) (Zby Q m0 m1 x10 x11 x12 x20 x21 (IntKind.i64.wrap (x22+(1:Int))))) (Za5 Q m0 x10 x11 (IntKind.i64.wrap (x12+(1:Int))))
theorem Zlj (Q:QD) (m0 m1:Nat) (x10:LL) (x11 x12:Int) (x20:V) (x21 x22:Int):Zby Q m0 (m1+1) x10 x11 x12 x20 x21 x22=ZmI Q m0 m1 x10 x11 x12 x20 x21 x22:=by kernel_rfl
theorem Zku (Q:QD) (m0:Nat) (x10:LL) (x11 x12:Int) (x20:V) (n:Nat) (hb:n≤big) (J:Nat→Prop)
  (step:∀ (k:Nat),k<n→J k→∀ K:Prop,(J (k+1)→K)→(0≤(k:Int)∧(k:Int)<x20.list.length∧iff (decide (((((x20.list.getD k []).drop 0).headD V.none).int) > (1048576:Int))) (True∧Q (.v .bool (V.b true)) []) (K)))
  (last:J n→(Za5 Q m0 x10 x11 (IntKind.i64.wrap (x12+(1:Int)))))
  (k:Nat) (le0:k≤n) (hj:J k):∃ m1,Zby Q m0 m1 x10 x11 x12 x20 (n:Int) ((k:Int)):=by
 exact rangeG0 n hb J (fun m1 i=>Zby Q m0 m1 x10 x11 x12 x20 (n:Int) i) (fun m1 i=>Zlj Q m0 m1 x10 x11 x12 x20 (n:Int) i) (fun k hl_ hj_ m_ ih_=>step k hl_ hj_ _ ih_) last k le0 hj
def ZmW (Q:QD) (m0:Nat) (x10:LL) (x11 x12:Int):Prop :=
 iff (decide (x12<x11)) (0≤x12∧x12<x10.length∧iff (decide (((((x10.getD x12.toNat []).drop 0).headD V.none).int) > (4611686018427387904:Int))) (True∧Q (.v .bool (V.b true)) []) (((((((x10.getD x12.toNat []).drop 0).tail).headD V.none).list).length≤big→∃ m1,Zby Q m0 m1 x10 x11 x12 ((((x10.getD x12.toNat []).drop 0).tail).headD V.none) (((((((x10.getD x12.toNat []).drop 0).tail).headD V.none).list).length:Int)) 0))) (True∧Q (.v .bool (V.b false)) [])
theorem ZlB (Q:QD) (m0:Nat) (x10:LL) (x11 x12:Int):Za5 Q (m0+1) x10 x11 x12=ZmW Q m0 x10 x11 x12:=by kernel_rfl
theorem ZkA (Q:QD) (x10:LL) (n:Nat) (hb:n≤big) (J:Nat→Prop)
  (step:∀ (k:Nat),k<n→J k→∀ m0:Nat,(J (k+1)→Za5 Q m0 x10 (n:Int) (IntKind.i64.wrap ((k:Int)+(1:Int))))→(0≤(k:Int)∧(k:Int)<x10.length∧iff (decide (((((x10.getD k []).drop 0).headD V.none).int) > (4611686018427387904:Int))) (True∧Q (.v .bool (V.b true)) []) (((((((x10.getD k []).drop 0).tail).headD V.none).list).length≤big→∃ m1,Zby Q m0 m1 x10 (n:Int) (k:Int) ((((x10.getD k []).drop 0).tail).headD V.none) (((((((x10.getD k []).drop 0).tail).headD V.none).list).length:Int)) 0))))
  (last:J n→(True∧Q (.v .bool (V.b false)) []))
  (k:Nat) (le0:k≤n) (hj:J k):∃ m0,Za5 Q m0 x10 (n:Int) ((k:Int)):=by
 exact rangeG0 n hb J (fun m0 i=>Za5 Q m0 x10 (n:Int) i) (fun m0 i=>ZlB Q m0 x10 (n:Int) i) (fun k hl_ hj_ m_ ih_=>step k hl_ hj_ m_ ih_) last k le0 hj
def Zn2 (a0:LL) (Q:QD):Prop :=
 (a0.length≤big→iff (decide (((a0.length:Int)) > (4096:Int))) (True∧Q (.v .bool (V.b true)) []) ((a0.length≤big→∃ m0,Za5 Q m0 a0 ((a0.length:Int)) 0)))
theorem Zoo (a0:LL) (Q:QD) (h:Zn2 a0 Q):cl Zeh [.v (.sl Zc) (V.l a0)] [] Q :=
 acalls2 (E:=Zal) (envOk _ _ _ _ _) 0 Tryz.func153 (by kernel_rfl) h
def ZhD:Env:=envA [] [] [] [] []
def ZeZ (a0:Int) (Q:QD):Prop :=
 True∧Q (.v .bool (V.b (a0 != a0))) []
theorem Zjq (a0:Int) (Q:QD) (h:ZeZ a0 Q):cl Zcl [.v (.int .u64) (V.i a0)] [] Q :=
 acalls2 (E:=ZhD) (envOk _ _ _ _ _) 0 Tryz.func155 (by kernel_rfl) h
def ZfD:Env:=envA [] [] [] [] []
def Zdw (a0_0:ByteArray) (a0_1:LL) (a1:ByteArray) (Q:QD):Prop :=
 cl Zeb [.v .str (V.s a0_0),.v .str (V.s a1)] [] fun r1 H2=>r1=(.v (.int .i64) (r1.V))∧H2=[]∧True∧Q (.v (.int .i64) (r1.V)) []
theorem Zf5 (a0_0:ByteArray) (a0_1:LL) (a1:ByteArray) (Q:QD) (h:Zdw a0_0 a0_1 a1 Q):cl ZJ [.agg [.v .str (V.s a0_0),.v (.sl Zc) (V.l a0_1)],.v .str (V.s a1)] [] Q :=
 acalls2 (E:=ZfD) (envOk _ _ _ _ _) 0 Tryz.func108 (by kernel_rfl) h
def Zgx:Env:=envA [] [] [] [] []
def Zey (a0 a1:ByteArray) (Q:QD):Prop :=
 cl ZbL [.v .str (V.s a0),.v .str (V.s a1)] [] fun r1 H2=>r1=(.v .str (r1.V))∧H2=[]∧True∧Q (.v .str (r1.V)) []
theorem Zh1 (a0 a1:ByteArray) (Q:QD) (h:Zey a0 a1 Q):cl ZcV [.v .str (V.s a0),.v .str (V.s a1)] [] Q :=
 acalls2 (E:=Zgx) (envOk _ _ _ _ _) 0 Tryz.func157 (by kernel_rfl) h
def Zcn:Env:=envA [] [] [] [] []
def ZaK (a0:LL) (Q:QD):Prop :=
 cl ZbQ [.v (.sl ZiG) (V.l a0),.fn Z1 []] [] fun r1 H2=>r1=(.v (.int .i64) (r1.V))∧H2=[]∧True∧Q (.v .bool (V.b (decide (r1.V.int≥(0:Int))))) []
theorem ZcO (a0:LL) (Q:QD) (h:ZaK a0 Q):cl Zbm [.v (.sl ZiG) (V.l a0),.fn Z1 []] [] Q :=
 acalls2 (E:=Zcn) (envOk _ _ _ _ _) 0 Tryz.func158 (by kernel_rfl) h
def Zir:Env:=envA [] [] [] [] []
def Zfn (a0 a1:Int) (Q:QD):Prop :=
 cl ZdU [.v (.int .i64) (V.i a0)] [] fun r1 H2=>r1=(.v .bool (r1.V))∧H2=[]∧cl ZdU [.v (.int .i64) (V.i a1)] [] fun r3 H4=>r3=(.v .bool (r3.V))∧H4=[]∧iff r1.V.bool (iff r3.V.bool (True∧Q (.v (.int .i64) (V.i 0)) []) (True∧Q (.v (.int .i64) (V.i (-1))) [])) (iff r3.V.bool (True∧Q (.v (.int .i64) (V.i 1)) []) (iff (decide (a0<a1)) (True∧Q (.v (.int .i64) (V.i (-1))) []) (iff (decide (a0 > a1)) (True∧Q (.v (.int .i64) (V.i 1)) []) (True∧Q (.v (.int .i64) (V.i 0)) []))))
theorem ZkG (a0 a1:Int) (Q:QD) (h:Zfn a0 a1 Q):cl ZcT [.v (.int .i64) (V.i a0),.v (.int .i64) (V.i a1)] [] Q :=
 acalls2 (E:=Zir) (envOk _ _ _ _ _) 0 Tryz.func91 (by kernel_rfl) h
def Zv:Env:=envA [(2,ua 4 3 (ua 9 10 ([.dead 16])))] [] [] [] []
def ZcF (Q:QD):Post:=blockK 0 (seqJ Zv (fnAt [1,1] Tryz.f113) (endK Zv Tryz.f113 Q))
@[irreducible] def Zr (Q:QD) (m0:Nat) (x0:LL) (x7 x8:Int):Prop :=
 iter (adj (Zv.adj 2)) (evCode Zv (fnAt [1,0,1,0,0] Tryz.f113)) (ZcF Q) m0 ⟨(.v (.sl Zn) (V.l x0))::(.fn ZI [])::sk 2 (un 3 ((.v (.int .i64) (V.i x7))::(.v (.int .i64) (V.i x8))::un 10 ([]))),dd 19 ([])⟩ []
def ZcB (Q:QD) (m0:Nat) (x0:LL) (x7 x8:Int):Prop :=
 iff (decide (x8<x7)) (0≤x8∧x8<x0.length∧cl ZI [.v (.int .i64) (((x0.getD x8.toNat []).drop 0).headD V.none)] [] fun r1 H2=>r1=(.v .bool (r1.V))∧H2=[]∧iff r1.V.bool (True∧Q (.v (.int .i64) (V.i x8)) []) (Zr Q m0 x0 x7 (IntKind.i64.wrap (x8+(1:Int))))) (True∧Q (.v (.int .i64) (V.i (-1))) [])
theorem Zcd (Q:QD) (m0:Nat) (x0:LL) (x7 x8:Int):Zr Q (m0+1) x0 x7 x8=ZcB Q m0 x0 x7 x8:=by kernel_rfl
theorem Zb5 (Q:QD) (x0:LL) (n:Nat) (hb:n≤big) (J:Nat→Prop)
  (step:∀ (k:Nat),k<n→J k→∀ K:Prop,(J (k+1)→K)→(0≤(k:Int)∧(k:Int)<x0.length∧cl ZI [.v (.int .i64) (((x0.getD k []).drop 0).headD V.none)] [] fun r1 H2=>r1=(.v .bool (r1.V))∧H2=[]∧iff r1.V.bool (True∧Q (.v (.int .i64) (V.i (k:Int))) []) (K)))
  (last:J n→(True∧Q (.v (.int .i64) (V.i (-1))) []))
  (k:Nat) (le0:k≤n) (hj:J k):∃ m0,Zr Q m0 x0 (n:Int) ((k:Int)):=by
 exact rangeG0 n hb J (fun m0 i=>Zr Q m0 x0 (n:Int) i) (fun m0 i=>Zcd Q m0 x0 (n:Int) i) (fun k hl_ hj_ m_ ih_=>step k hl_ hj_ _ ih_) last k le0 hj
def ZcU (a0:LL) (Q:QD):Prop :=
 (a0.length≤big→∃ m0,Zr Q m0 a0 ((a0.length:Int)) 0)
theorem Zc2 (a0:LL) (Q:QD) (h:ZcU a0 Q):cl Zcb [.v (.sl Zn) (V.l a0),.fn ZI []] [] Q :=
 acalls2 (E:=Zv) (envOk _ _ _ _ _) 0 Tryz.func113 (by kernel_rfl) h
def Zeq:Env:=envA [(2,(.undef 0)::(.undef 2)::ua 4 2 (ua 9 9 ([.dead 4,.dead 13])))] [] [] [] []
def ZnJ (Q:QD):Post:=blockK 0 (seqJ Zeq (fnAt [1,1] Tryz.f162) (endK Zeq Tryz.f162 Q))
@[irreducible] def ZdZ (Q:QD) (m0:Nat) (x6:LL) (x7 x8:Int):Prop :=
 iter (adj (Zeq.adj 2)) (evCode Zeq (fnAt [1,0,1,0,0] Tryz.f162)) (ZnJ Q) m0 ⟨.undef::.skip::.undef::.skip::un 2 ((.v (.sl Za) (V.l x6))::(.v (.int .i64) (V.i x7))::(.v (.int .i64) (V.i x8))::un 9 ([])),dd 18 ([])⟩ []
def ZnG (Q:QD) (m0:Nat) (x6:LL) (x7 x8:Int):Prop :=
 iff (decide (x8<x7)) (0≤x8∧x8<x6.length∧cl ZG [.agg [.v .str (((x6.getD x8.toNat []).drop 0).headD V.none),.v .bool ((((x6.getD x8.toNat []).drop 0).tail).headD V.none),.v (.sl Za) (((((x6.getD x8.toNat []).drop 0).tail).tail).headD V.none)]] [] fun r1 H2=>r1=(.v (.int .i64) (r1.V))∧H2=[]∧iff (r1.V.int != (0:Int)) (True∧Q (.v (.int .i64) (r1.V)) []) (ZdZ Q m0 x6 x7 (IntKind.i64.wrap (x8+(1:Int))))) (True∧Q (.v (.int .i64) (V.i 0)) [])
theorem ZlY (Q:QD) (m0:Nat) (x6:LL) (x7 x8:Int):ZdZ Q (m0+1) x6 x7 x8=ZnG Q m0 x6 x7 x8:=by kernel_rfl
theorem Zlx (Q:QD) (x6:LL) (n:Nat) (hb:n≤big) (J:Nat→Prop)
  (step:∀ (k:Nat),k<n→J k→∀ K:Prop,(J (k+1)→K)→(0≤(k:Int)∧(k:Int)<x6.length∧cl ZG [.agg [.v .str (((x6.getD k []).drop 0).headD V.none),.v .bool ((((x6.getD k []).drop 0).tail).headD V.none),.v (.sl Za) (((((x6.getD k []).drop 0).tail).tail).headD V.none)]] [] fun r1 H2=>r1=(.v (.int .i64) (r1.V))∧H2=[]∧iff (r1.V.int != (0:Int)) (True∧Q (.v (.int .i64) (r1.V)) []) (K)))
  (last:J n→(True∧Q (.v (.int .i64) (V.i 0)) []))
  (k:Nat) (le0:k≤n) (hj:J k):∃ m0,ZdZ Q m0 x6 (n:Int) ((k:Int)):=by
 exact rangeG0 n hb J (fun m0 i=>ZdZ Q m0 x6 (n:Int) i) (fun m0 i=>ZlY Q m0 x6 (n:Int) i) (fun k hl_ hj_ m_ ih_=>step k hl_ hj_ _ ih_) last k le0 hj
def Zok (a0:LL) (Q:QD):Prop :=
 (a0.length≤big→∃ m0,ZdZ Q m0 a0 ((a0.length:Int)) 0)
theorem Zow (a0:LL) (Q:QD) (h:Zok a0 Q):cl Zhr [.v (.sl Za) (V.l a0)] [] Q :=
 acalls2 (E:=Zeq) (envOk _ _ _ _ _) 0 Tryz.func162 (by kernel_rfl) h
def ZE:Env:=envA [(2,ua 4 3 (ua 9 10 ([.dead 16])))] [] [] [] []
def Zc9 (Q:QD):Post:=blockK 0 (seqJ ZE (fnAt [1,1] Tryz.f164) (endK ZE Tryz.f164 Q))
@[irreducible] def ZC (Q:QD) (m0:Nat) (x0:LL) (x7 x8:Int):Prop :=
 iter (adj (ZE.adj 2)) (evCode ZE (fnAt [1,0,1,0,0] Tryz.f164)) (Zc9 Q) m0 ⟨(.v (.sl Zaw) (V.l x0))::(.fn ZaH [])::sk 2 (un 3 ((.v (.int .i64) (V.i x7))::(.v (.int .i64) (V.i x8))::un 10 ([]))),dd 19 ([])⟩ []
def Zc6 (Q:QD) (m0:Nat) (x0:LL) (x7 x8:Int):Prop :=
 iff (decide (x8<x7)) (0≤x8∧x8<x0.length∧cl ZaH [.agg [.v .str (((x0.getD x8.toNat []).drop 0).headD V.none),.v .bool ((((x0.getD x8.toNat []).drop 0).tail).headD V.none),.v (.sl Za) (((((x0.getD x8.toNat []).drop 0).tail).tail).headD V.none),.v .str ((((((x0.getD x8.toNat []).drop 0).tail).tail).tail).headD V.none),.v .bool (((((((x0.getD x8.toNat []).drop 0).tail).tail).tail).tail).headD V.none),.v (.sl Za) ((((((((x0.getD x8.toNat []).drop 0).tail).tail).tail).tail).tail).headD V.none)]] [] fun r1 H2=>r1=(.v .bool (r1.V))∧H2=[]∧iff r1.V.bool (True∧Q (.v (.int .i64) (V.i x8)) []) (ZC Q m0 x0 x7 (IntKind.i64.wrap (x8+(1:Int))))) (True∧Q (.v (.int .i64) (V.i (-1))) [])
theorem ZcP (Q:QD) (m0:Nat) (x0:LL) (x7 x8:Int):ZC Q (m0+1) x0 x7 x8=Zc6 Q m0 x0 x7 x8:=by kernel_rfl
theorem ZcC (Q:QD) (x0:LL) (n:Nat) (hb:n≤big) (J:Nat→Prop)
  (step:∀ (k:Nat),k<n→J k→∀ K:Prop,(J (k+1)→K)→(0≤(k:Int)∧(k:Int)<x0.length∧cl ZaH [.agg [.v .str (((x0.getD k []).drop 0).headD V.none),.v .bool ((((x0.getD k []).drop 0).tail).headD V.none),.v (.sl Za) (((((x0.getD k []).drop 0).tail).tail).headD V.none),.v .str ((((((x0.getD k []).drop 0).tail).tail).tail).headD V.none),.v .bool (((((((x0.getD k []).drop 0).tail).tail).tail).tail).headD V.none),.v (.sl Za) ((((((((x0.getD k []).drop 0).tail).tail).tail).tail).tail).headD V.none)]] [] fun r1 H2=>r1=(.v .bool (r1.V))∧H2=[]∧iff r1.V.bool (True∧Q (.v (.int .i64) (V.i (k:Int))) []) (K)))
  (last:J n→(True∧Q (.v (.int .i64) (V.i (-1))) []))
  (k:Nat) (le0:k≤n) (hj:J k):∃ m0,ZC Q m0 x0 (n:Int) ((k:Int)):=by
 exact rangeG0 n hb J (fun m0 i=>ZC Q m0 x0 (n:Int) i) (fun m0 i=>ZcP Q m0 x0 (n:Int) i) (fun k hl_ hj_ m_ ih_=>step k hl_ hj_ _ ih_) last k le0 hj
def Zdy (a0:LL) (Q:QD):Prop :=
 (a0.length≤big→∃ m0,ZC Q m0 a0 ((a0.length:Int)) 0)
theorem ZdO (a0:LL) (Q:QD) (h:Zdy a0 Q):cl ZbO [.v (.sl Zaw) (V.l a0),.fn ZaH []] [] Q :=
 acalls2 (E:=ZE) (envOk _ _ _ _ _) 0 Tryz.func164 (by kernel_rfl) h
def ZgX:Env:=envA [] [] [] [] []
def ZeL (a0 a1:ByteArray) (Q:QD):Prop :=
 cl Za1 [.v .str (V.s a0),.v .str (V.s a1)] [] fun r1 H2=>r1=(.v .bool (r1.V))∧H2=[]∧True∧Q (.v .bool (r1.V)) []
theorem Zio (a0 a1:ByteArray) (Q:QD) (h:ZeL a0 a1 Q):cl ZeY [.v .str (V.s a0),.v .str (V.s a1)] [] Q :=
 acalls2 (E:=ZgX) (envOk _ _ _ _ _) 0 Tryz.func163 (by kernel_rfl) h
def Zz:Env:=envA [(2,ua 4 3 (ua 9 10 ([.dead 16])))] [] [] [] []
def ZcL (Q:QD):Post:=blockK 0 (seqJ Zz (fnAt [1,1] Tryz.f170) (endK Zz Tryz.f170 Q))
@[irreducible] def Zs (Q:QD) (m0:Nat) (x0:LL) (x7 x8:Int):Prop :=
 iter (adj (Zz.adj 2)) (evCode Zz (fnAt [1,0,1,0,0] Tryz.f170)) (ZcL Q) m0 ⟨(.v (.sl Za) (V.l x0))::(.fn Z2 [])::sk 2 (un 3 ((.v (.int .i64) (V.i x7))::(.v (.int .i64) (V.i x8))::un 10 ([]))),dd 19 ([])⟩ []
def ZcM (Q:QD) (m0:Nat) (x0:LL) (x7 x8:Int):Prop :=
 iff (decide (x8<x7)) (0≤x8∧x8<x0.length∧cl Z2 [.agg [.v .str (((x0.getD x8.toNat []).drop 0).headD V.none),.v .bool ((((x0.getD x8.toNat []).drop 0).tail).headD V.none),.v (.sl Za) (((((x0.getD x8.toNat []).drop 0).tail).tail).headD V.none)]] [] fun r1 H2=>r1=(.v .bool (r1.V))∧H2=[]∧iff r1.V.bool (True∧Q (.v (.int .i64) (V.i x8)) []) (Zs Q m0 x0 x7 (IntKind.i64.wrap (x8+(1:Int))))) (True∧Q (.v (.int .i64) (V.i (-1))) [])
theorem Zco (Q:QD) (m0:Nat) (x0:LL) (x7 x8:Int):Zs Q (m0+1) x0 x7 x8=ZcM Q m0 x0 x7 x8:=by kernel_rfl
theorem Zci (Q:QD) (x0:LL) (n:Nat) (hb:n≤big) (J:Nat→Prop)
  (step:∀ (k:Nat),k<n→J k→∀ K:Prop,(J (k+1)→K)→(0≤(k:Int)∧(k:Int)<x0.length∧cl Z2 [.agg [.v .str (((x0.getD k []).drop 0).headD V.none),.v .bool ((((x0.getD k []).drop 0).tail).headD V.none),.v (.sl Za) (((((x0.getD k []).drop 0).tail).tail).headD V.none)]] [] fun r1 H2=>r1=(.v .bool (r1.V))∧H2=[]∧iff r1.V.bool (True∧Q (.v (.int .i64) (V.i (k:Int))) []) (K)))
  (last:J n→(True∧Q (.v (.int .i64) (V.i (-1))) []))
  (k:Nat) (le0:k≤n) (hj:J k):∃ m0,Zs Q m0 x0 (n:Int) ((k:Int)):=by
 exact rangeG0 n hb J (fun m0 i=>Zs Q m0 x0 (n:Int) i) (fun m0 i=>Zco Q m0 x0 (n:Int) i) (fun k hl_ hj_ m_ ih_=>step k hl_ hj_ _ ih_) last k le0 hj
def Zdg (a0:LL) (Q:QD):Prop :=
 (a0.length≤big→∃ m0,Zs Q m0 a0 ((a0.length:Int)) 0)
theorem Zdr (a0:LL) (Q:QD) (h:Zdg a0 Q):cl ZbT [.v (.sl Za) (V.l a0),.fn Z2 []] [] Q :=
 acalls2 (E:=Zz) (envOk _ _ _ _ _) 0 Tryz.func170 (by kernel_rfl) h
def Ziy:Env:=envA [] [] [] [] []
def Zft (a0 a1:ByteArray) (Q:QD):Prop :=
 cl Zcj [.v .str (V.s a0)] [] fun r1 H2=>r1=(.v .bool (r1.V))∧H2=[]∧iff r1.V.bool (cl Zcj [.v .str (V.s a1)] [] fun r3 H4=>r3=(.v .bool (r3.V))∧H4=[]∧iff (!r3.V.bool) (True∧Q (.v .bool (V.b true)) []) (True∧Q (.v .bool (V.b (Op.bytesLess a0.toList a1.toList))) [])) (True∧Q (.v .bool (V.b (Op.bytesLess a0.toList a1.toList))) [])
theorem ZkD (a0 a1:ByteArray) (Q:QD) (h:Zft a0 a1 Q):cl Zd4 [.v .str (V.s a0),.v .str (V.s a1)] [] Q :=
 acalls2 (E:=Ziy) (envOk _ _ _ _ _) 0 Tryz.func178 (by kernel_rfl) h
def ZW:Env:=envA [(3,(.undef 0)::ua 4 2 (ua 7 10 (ua 18 37 ([.dead 24,.dead 33,.dead 39,.dead 52])))),(6,(.undef 0)::ua 4 2 (ua 9 8 (ua 18 6 (ua 25 30 ([.dead 33,.dead 39,.dead 52])))))] [] [] [] []
def ZdB (Q:QD):Post:=blockK 0 (seqJ ZW (fnAt [1,1,1] Tryz.f182) (endK ZW Tryz.f182 Q))
def ZjJ (Q:QD) (m0:Nat):Post:=blockK 2 (blockK 1 (loopK (adj (ZW.adj 3)) (iter (adj (ZW.adj 3)) (evCode ZW (fnAt [1,1,0,1,0,0] Tryz.f182)) (ZdB Q) m0) (ZdB Q)))
@[irreducible] def Zbw (Q:QD) (m0 m1:Nat) (x1:LL) (x7 x8:V) (y15 y17_x:LL) (y17n:Nat) (y17s:List Nat) (y24_x:LL) (y24n:Nat) (y24s:List Nat):Prop :=
 iter (adj (ZW.adj 6)) (evCode ZW (fnAt [1,1,0,1,0,0,1,1,0,1,1,0,0] Tryz.f182)) (ZjJ Q m0) m1 ⟨.undef::(.v (.mp Zd) (V.l x1))::sk 2 (un 2 ((.mp (.loc 15))::(.v .str (x7))::(.v (.int .u64) (x8))::un 8 ((.ptr (.loc 17) 0)::un 6 ((.ptr (.loc 24) 0)::un 30 ([.skip]))))),dd 15 ((.map Zd y15)::.dead::(.iter Zd (.v (.mp Zd) (V.l y17_x)) y17n y17s)::dd 6 ((.iter Zd (.v (.mp Zd) (V.l y24_x)) y24n y24s)::dd 31 ([])))⟩ []
@[irreducible] def Zck (Q:QD) (m0:Nat) (x1 y15 y17_x:LL) (y17n:Nat) (y17s:List Nat):Prop :=
 iter (adj (ZW.adj 3)) (evCode ZW (fnAt [1,1,0,1,0,0] Tryz.f182)) (ZdB Q) m0 ⟨.undef::(.v (.mp Zd) (V.l x1))::sk 2 (un 2 ((.mp (.loc 15))::un 10 ((.ptr (.loc 17) 0)::un 37 ([.skip])))),dd 15 ((.map Zd y15)::.dead::(.iter Zd (.v (.mp Zd) (V.l y17_x)) y17n y17s)::dd 38 ([]))⟩ []
def ZdT (Q:QD) (m0 m1:Nat) (x1:LL) (x7 x8:V) (y15 y17_x:LL) (y17n:Nat) (y17s:List Nat) (y24_x:LL) (y24n:Nat) (y24s:List Nat):Prop :=
 y24_x.length=y24n∧((∀ j:Nat,j<y24n→j∈y24s)→Zck Q m0 x1 y15 y17_x y17n y17s)∧(∀ j1:Nat,j1<y24n→j1 ∉ y24s→y24s.length<y24n→y24_x.length=y24n∧cl ZgV [.v .str (x7),.v .str ((y24_x.getD j1 []).headD V.none)] [] fun r2 H3=>r2=(.tup [.v .str ((r2.parts.headD .undef).V),.v .bool ((r2.parts.tail.headD .undef).V)])∧H3=[]∧cl Zj1 [.v (.int .u64) (x8),.v (.int .u64) (((y24_x.getD j1 []).drop 1).headD V.none)] [] fun r4 H5=>r4=(.tup [.v (.int .u64) ((r4.parts.headD .undef).V),.v .bool ((r4.parts.tail.headD .undef).V)])∧H5=[]∧iff (!(((r2.parts.tail.headD .undef).V).bool)) ((True∧True∧True)∧Q (.tup [.v (.mp Zd) (V.l ([])),.v .bool (V.b false)]) []) (iff (!(((r4.parts.tail.headD .undef).V).bool)) ((True∧True∧True)∧Q (.tup [.v (.mp Zd) (V.l ([])),.v .bool (V.b false)]) []) (cl Zbs [.mp (.own 0),.v .str ((r2.parts.headD .undef).V),.v (.int .u64) ((r4.parts.headD .undef).V)] [.map Zd y15] fun r6 H7=>r6=(.v .bool (r6.V))∧H7=[.map Zd ((H7.headD .dead).xs)]∧iff (!r6.V.bool) ((True∧True∧True)∧Q (.tup [.v (.mp Zd) (V.l ([])),.v .bool (V.b false)]) []) (Zbw Q m0 m1 x1 x7 x8 ((H7.headD .dead).xs) y17_x y17n y17s y24_x y24n (j1::y24s)))))
theorem ZhS (Q:QD) (m0 m1:Nat) (x1:LL) (x7 x8:V) (y15 y17_x:LL) (y17n:Nat) (y17s:List Nat) (y24_x:LL) (y24n:Nat) (y24s:List Nat):Zbw Q m0 (m1+1) x1 x7 x8 y15 y17_x y17n y17s y24_x y24n y24s=ZdT Q m0 m1 x1 x7 x8 y15 y17_x y17n y17s y24_x y24n y24s:=by kernel_rfl
theorem Zhz (Q:QD) (m0:Nat):RuleG10 (Zbw Q m0) (ZdT Q m0):=ruleG10 _ _ (ZhS Q m0)
def ZdW (Q:QD) (m0:Nat) (x1 y15 y17_x:LL) (y17n:Nat) (y17s:List Nat):Prop :=
 y17_x.length=y17n∧((∀ j:Nat,j<y17n→j∈y17s)→(True∧True∧True)∧Q (.tup [.v (.mp Zd) (V.l y15),.v .bool (V.b true)]) [])∧(∀ j1:Nat,j1<y17n→j1 ∉ y17s→y17s.length<y17n→y17_x.length=y17n∧∃ m1,Zbw Q m0 m1 x1 ((y17_x.getD j1 []).headD V.none) (((y17_x.getD j1 []).drop 1).headD V.none) y15 y17_x y17n (j1::y17s) x1 x1.length (([]:List Nat)))
theorem ZhB (Q:QD) (m0:Nat) (x1 y15 y17_x:LL) (y17n:Nat) (y17s:List Nat):Zck Q (m0+1) x1 y15 y17_x y17n y17s=ZdW Q m0 x1 y15 y17_x y17n y17s:=by kernel_rfl
theorem ZhQ (Q:QD):RuleG5 (Zck Q) (ZdW Q):=ruleG5 _ _ (ZhB Q)
def Zgp (a0 a1:LL) (Q:QD):Prop :=
 ∃ m0,Zck Q m0 a1 (([]:List (List V))) a0 a0.length (([]:List Nat))
theorem Zl7 (a0 a1:LL) (Q:QD) (h:Zgp a0 a1 Q):cl Ze0 [.v (.mp Zd) (V.l a0),.v (.mp Zd) (V.l a1)] [] Q :=
 acalls2 (E:=ZW) (envOk _ _ _ _ _) 0 Tryz.func182 (by kernel_rfl) h
def Ziw:Env:=envA [] [] [] [] []
def Zfm (a0 a1:ByteArray) (Q:QD):Prop :=
 cl ZdJ [.v .str (V.s a0),.v .str (V.s a1)] [] fun r1 H2=>r1=(.v (.int .i64) (r1.V))∧H2=[]∧True∧Q (.v (.int .i64) (r1.V)) []
theorem ZkR (a0 a1:ByteArray) (Q:QD) (h:Zfm a0 a1 Q):cl Zeb [.v .str (V.s a0),.v .str (V.s a1)] [] Q :=
 acalls2 (E:=Ziw) (envOk _ _ _ _ _) 0 Tryz.func109 (by kernel_rfl) h
def Zfg:Env:=envA [] [] [] [] []
def Zc5 (a0 a1:ByteArray) (Q:QD):Prop :=
 cl Za1 [.v .str (V.s a0),.v .str (V.s a1)] [] fun r1 H2=>r1=(.v .bool (r1.V))∧H2=[]∧iff r1.V.bool ((a0.size≤big→(a1.size≤big→0≤(0:Int)∧(0:Int)≤(IntKind.i64.wrap (((a0.size:Int)) - ((a1.size:Int))))∧(IntKind.i64.wrap (((a0.size:Int)) - ((a1.size:Int))))≤a0.size∧True∧Q (.v .str (V.s (a0.extract (0:Int).toNat ((IntKind.i64.wrap (((a0.size:Int)) - ((a1.size:Int))))).toNat))) []))) (True∧Q (.v .str (V.s a0)) [])
theorem ZfU (a0 a1:ByteArray) (Q:QD) (h:Zc5 a0 a1 Q):cl ZbL [.v .str (V.s a0),.v .str (V.s a1)] [] Q :=
 acalls2 (E:=Zfg) (envOk _ _ _ _ _) 0 Tryz.func188 (by kernel_rfl) h
end Go.Proofs.YthhnadeoioeniaaGreat
