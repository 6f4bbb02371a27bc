/-
  Texts V1, V2 of this proof, joined.
-/
import Derived.Test.YthhnadeoioeniaaGreatP9
set_option linter.unusedVariables false
set_option maxRecDepth 100000
namespace Go.Proofs.YthhnadeoioeniaaGreat
open Go.Abs
def Zg:Env:=envA [(4,ua 4 2 ((.undef 7)::ua 22 3 (ua 28 10 ([.dead 7,.dead 33,.dead 35])))),(10,ua 4 2 ((.undef 7)::(.undef 9)::(.undef 11)::ua 22 16 (ua 41 17 ([.dead 9,.dead 49])))),(15,ua 4 2 ((.undef 7)::(.undef 9)::(.undef 11)::ua 22 16 (ua 41 7 (ua 51 7 ([.dead 9]))))),(22,ua 4 2 ((.undef 7)::(.undef 9)::(.undef 11)::(.undef 13)::ua 22 36 (ua 61 6 ([])))),(29,(.undef 0)::ua 4 2 ((.undef 7)::(.undef 9)::(.undef 11)::(.undef 13)::ua 16 51 (ua 70 46 ((.dead 16)::(.dead 77)::(.dead 95)::da 109 2 ([.dead 114]))))),(33,(.undef 0)::ua 4 2 ((.undef 7)::(.undef 9)::(.undef 11)::(.undef 13)::ua 18 49 (ua 70 6 (ua 79 37 ([]))))),(39,(.undef 0)::ua 4 2 ((.undef 7)::(.undef 9)::(.undef 11)::(.undef 13)::(.undef 16)::ua 18 49 (ua 70 24 (ua 97 19 ((.dead 16)::da 109 2 ([]))))))] [] [] [] []
def ZnY (Q:QD):Post:=blockK 0 (seqJ Zg (fnAt [1,1,1] Tryz.f26) (endK Zg Tryz.f26 Q))
def ZgG (Q:QD):Post:=blockK 2 (seqJ Zg (fnAt [1,1,1,1] Tryz.f26) (endK Zg Tryz.f26 Q))
def ZnX (Q:QD):Post:=blockK 6 (seqJ Zg (fnAt [1,1,1,1,1] Tryz.f26) (endK Zg Tryz.f26 Q))
def ZeA (Q:QD):Post:=blockK 8 (seqJ Zg (fnAt [1,1,1,1,1,1,1] Tryz.f26) (endK Zg Tryz.f26 Q))
def Zn8 (Q:QD) (m1:Nat):Post:=blockK 4 (blockK 3 (seqJ Zg (fnAt [1,1,1,0,1,0,0,1,1,1] Tryz.f26) (loopK (adj (Zg.adj 10)) (iter (adj (Zg.adj 10)) (evCode Zg (fnAt [1,1,1,0,1,0,0] Tryz.f26)) (ZgG Q) m1) (ZgG Q))))
def Zoa (Q:QD) (m4:Nat):Post:=blockK 10 (seqJ Zg (fnAt [1,1,1,1,1,1,0,1,0,0,1,1,0,0,1,1,1] Tryz.f26) (blockK 9 (seqJ Zg (fnAt [1,1,1,1,1,1,0,1,0,0,1,1,1] Tryz.f26) (loopK (adj (Zg.adj 29)) (iter (adj (Zg.adj 29)) (evCode Zg (fnAt [1,1,1,1,1,1,0,1,0,0] Tryz.f26)) (ZeA Q) m4) (ZeA Q)))))
def Zok (Q:QD) (m4:Nat):Post:=blockK 12 (seqJ Zg (fnAt [1,1,1,1,1,1,0,1,0,0,1,1,0,0,1,1,1,1] Tryz.f26) (blockK 9 (seqJ Zg (fnAt [1,1,1,1,1,1,0,1,0,0,1,1,1] Tryz.f26) (loopK (adj (Zg.adj 29)) (iter (adj (Zg.adj 29)) (evCode Zg (fnAt [1,1,1,1,1,1,0,1,0,0] Tryz.f26)) (ZeA Q) m4) (ZeA Q)))))
@[irreducible] def Zcd (Q:QD) (m1 m2:Nat) (x0 x1 x38:LL) (x39 x40:Int) (x48:V) (x49 x50:Int):Prop :=
 iter (adj (Zg.adj 15)) (evCode Zg (fnAt [1,1,1,0,1,0,0,1,1,0,0,1,1,1,0,0] Tryz.f26)) (Zn8 Q m1) m2 ⟨(.v (.sl Za) (V.l x0))::(.v (.sl Zp) (V.l x1))::sk 2 (un 2 (.skip::.undef::.skip::.undef::.skip::.undef::sk 10 (un 16 ((.v (.sl Za) (V.l x38))::(.v (.int .i64) (V.i x39))::(.v (.int .i64) (V.i x40))::un 7 ((.v (.sl ZA) (x48))::(.v (.int .i64) (V.i x49))::(.v (.int .i64) (V.i x50))::un 7 (sk 61 ([]))))))),dd 119 ([])⟩ []
@[irreducible] def ZbT (Q:QD) (m4 m6:Nat) (x1:LL) (x14 x17:V) (x67:LL) (x68 x69:Int) (x94:V) (x95 x96:Int):Prop :=
 iter (adj (Zg.adj 39)) (evCode Zg (fnAt [1,1,1,1,1,1,0,1,0,0,1,1,0,0,1,1,1,0,1,0,0] Tryz.f26)) (Zok Q m4) m6 ⟨.undef::(.v (.sl Zp) (V.l x1))::sk 2 (un 2 (.skip::.undef::.skip::.undef::.skip::.undef::.skip::.undef::(.v (.int .u64) (x14))::.skip::.undef::(.v (.int .u64) (x17))::un 49 ((.v (.sl Za) (V.l x67))::(.v (.int .i64) (V.i x68))::(.v (.int .i64) (V.i x69))::un 24 ((.v (.sl ZA) (x94))::(.v (.int .i64) (V.i x95))::(.v (.int .i64) (V.i x96))::un 19 (sk 3 ([])))))),dd 119 ([])⟩ []
@[irreducible] def Zbk (Q:QD) (m4 m5:Nat) (x1:LL) (x14 x17:V) (x67:LL) (x68 x69:Int) (x76:V) (x77 x78:Int) (y16_0 y16_1:V):Prop :=
 iter (adj (Zg.adj 33)) (evCode Zg (fnAt [1,1,1,1,1,1,0,1,0,0,1,1,0,0,1,1,0,1,0,0] Tryz.f26)) (Zoa Q m4) m5 ⟨.undef::(.v (.sl Zp) (V.l x1))::sk 2 (un 2 (.skip::.undef::.skip::.undef::.skip::.undef::.skip::.undef::(.v (.int .u64) (x14))::.skip::(.ptr (.loc 16) 0)::(.v (.int .u64) (x17))::un 49 ((.v (.sl Za) (V.l x67))::(.v (.int .i64) (V.i x68))::(.v (.int .i64) (V.i x69))::un 6 ((.v (.sl ZA) (x76))::(.v (.int .i64) (V.i x77))::(.v (.int .i64) (V.i x78))::un 37 (sk 3 ([])))))),dd 16 ((.cells [.v (.int .u64) (y16_0),.v (.sl ZA) (y16_1)])::dd 102 ([]))⟩ []
@[irreducible] def ZbS (Q:QD) (m4:Nat) (x1:LL) (x14:V) (x67:LL) (x68 x69:Int):Prop :=
 iter (adj (Zg.adj 29)) (evCode Zg (fnAt [1,1,1,1,1,1,0,1,0,0] Tryz.f26)) (ZeA Q) m4 ⟨.undef::(.v (.sl Zp) (V.l x1))::sk 2 (un 2 (.skip::.undef::.skip::.undef::.skip::.undef::.skip::.undef::(.v (.int .u64) (x14))::.skip::un 51 ((.v (.sl Za) (V.l x67))::(.v (.int .i64) (V.i x68))::(.v (.int .i64) (V.i x69))::un 46 (sk 3 ([]))))),dd 119 ([])⟩ []
@[irreducible] def Zdt (Q:QD) (m3:Nat) (x0 x1 x58:LL) (x59 x60:Int):Prop :=
 iter (adj (Zg.adj 22)) (evCode Zg (fnAt [1,1,1,1,0,1,0,0] Tryz.f26)) (ZnX Q) m3 ⟨(.v (.sl Za) (V.l x0))::(.v (.sl Zp) (V.l x1))::sk 2 (un 2 (.skip::.undef::.skip::.undef::.skip::.undef::.skip::.undef::sk 8 (un 36 ((.v (.sl Zp) (V.l x58))::(.v (.int .i64) (V.i x59))::(.v (.int .i64) (V.i x60))::un 6 (sk 52 ([])))))),dd 119 ([])⟩ []
@[irreducible] def Zbh (Q:QD) (m1:Nat) (x0 x1 x38:LL) (x39 x40:Int):Prop :=
 iter (adj (Zg.adj 10)) (evCode Zg (fnAt [1,1,1,0,1,0,0] Tryz.f26)) (ZgG Q) m1 ⟨(.v (.sl Za) (V.l x0))::(.v (.sl Zp) (V.l x1))::sk 2 (un 2 (.skip::.undef::.skip::.undef::.skip::.undef::sk 10 (un 16 ((.v (.sl Za) (V.l x38))::(.v (.int .i64) (V.i x39))::(.v (.int .i64) (V.i x40))::un 17 (sk 61 ([])))))),dd 119 ([])⟩ []
@[irreducible] def ZeS (Q:QD) (m0:Nat) (x0 x1 x25:LL) (x26 x27:Int):Prop :=
 iter (adj (Zg.adj 4)) (evCode Zg (fnAt [1,1,0,1,0,0] Tryz.f26)) (ZnY Q) m0 ⟨(.v (.sl Za) (V.l x0))::(.v (.sl Zp) (V.l x1))::sk 2 (un 2 (.skip::.undef::sk 14 (un 3 ((.v (.sl Za) (V.l x25))::(.v (.int .i64) (V.i x26))::(.v (.int .i64) (V.i x27))::un 10 (sk 81 ([])))))),dd 119 ([])⟩ []
def Zob (Q:QD) (m1 m2:Nat) (x0 x1 x38:LL) (x39 x40:Int) (x48:V) (x49 x50:Int):Prop :=
 iff (decide (x50<x49)) (0≤x50∧x50<x48.list.length∧iff (decide (((((x48.list.getD x50.toNat []).drop 0).headD V.none).int)<(0:Int))) ((True∧True∧True)∧Q (.tup [.v (.int .u64) (V.i 0),.v (.int .i64) (V.i 2)]) []) (Zcd Q m1 m2 x0 x1 x38 x39 x40 x48 x49 (IntKind.i64.wrap (x50+(1:Int))))) (Zbh Q m1 x0 x1 x38 x39 (IntKind.i64.wrap (x40+(1:Int))))
theorem Zmu (Q:QD) (m1 m2:Nat) (x0 x1 x38:LL) (x39 x40:Int) (x48:V) (x49 x50:Int):Zcd Q m1 (m2+1) x0 x1 x38 x39 x40 x48 x49 x50=Zob Q m1 m2 x0 x1 x38 x39 x40 x48 x49 x50:=by kernel_rfl
theorem ZlD (Q:QD) (m1:Nat) (x0 x1 x38:LL) (x39 x40:Int) (x48:V) (n:Nat) (hb:n≤big) (J:Nat→Prop)
  (step:∀ (k:Nat),k<n→J k→∀ K:Prop,(J (k+1)→K)→(0≤(k:Int)∧(k:Int)<x48.list.length∧iff (decide (((((x48.list.getD k []).drop 0).headD V.none).int)<(0:Int))) ((True∧True∧True)∧Q (.tup [.v (.int .u64) (V.i 0),.v (.int .i64) (V.i 2)]) []) (K)))
  (last:J n→(Zbh Q m1 x0 x1 x38 x39 (IntKind.i64.wrap (x40+(1:Int)))))
  (k:Nat) (le0:k≤n) (hj:J k):∃ m2,Zcd Q m1 m2 x0 x1 x38 x39 x40 x48 (n:Int) ((k:Int)):=by
 exact rangeG0 n hb J (fun m2 i=>Zcd Q m1 m2 x0 x1 x38 x39 x40 x48 (n:Int) i) (fun m2 i=>Zmu Q m1 m2 x0 x1 x38 x39 x40 x48 (n:Int) i) (fun k hl_ hj_ m_ ih_=>step k hl_ hj_ _ ih_) last k le0 hj
def Zoc (Q:QD) (m4 m6:Nat) (x1:LL) (x14 x17:V) (x67:LL) (x68 x69:Int) (x94:V) (x95 x96:Int):Prop :=
 iff (decide (x96<x95)) (0≤x96∧x96<x94.list.length∧iff (decide (x17.int > (0:Int))) (0≤x96∧x96<x1.length∧cl Zgy [.v (.int .u64) (((x1.getD x96.toNat []).drop 0).headD V.none),.v (.int .i64) (((x94.list.getD x96.toNat []).drop 0).headD V.none)] [] fun r1 H2=>r1=(.v (.int .u64) (r1.V))∧H2=[]∧cl Zd9 [.v (.int .u64) (x17),.v (.int .u64) (r1.V)] [] fun r3 H4=>r3=(.v (.int .u64) (r3.V))∧H4=[]∧ZbT Q m4 m6 x1 x14 r3.V x67 x68 x69 x94 x95 (IntKind.i64.wrap (x96+(1:Int)))) (ZbT Q m4 m6 x1 x14 x17 x67 x68 x69 x94 x95 (IntKind.i64.wrap (x96+(1:Int))))) (cl Zgp [.v (.int .u64) (x14),.v (.int .u64) (x17)] [] fun r5 H6=>r5=(.v (.int .u64) (r5.V))∧H6=[]∧ZbS Q m4 x1 r5.V x67 x68 (IntKind.i64.wrap (x69+(1:Int))))
theorem ZmL (Q:QD) (m4 m6:Nat) (x1:LL) (x14 x17:V) (x67:LL) (x68 x69:Int) (x94:V) (x95 x96:Int):ZbT Q m4 (m6+1) x1 x14 x17 x67 x68 x69 x94 x95 x96=Zoc Q m4 m6 x1 x14 x17 x67 x68 x69 x94 x95 x96:=by kernel_rfl
theorem Zl3 (Q:QD) (m4:Nat) (x1:LL) (x14:V) (x67:LL) (x68 x69:Int) (x94:V) (n:Nat) (hb:n≤big) (J:Nat→V→Prop)
  (step:∀ (k:Nat) (x17:V),k<n→J k x17→∀ K:V→Prop,(∀ (x17':V),J (k+1) x17'→K x17')→(0≤(k:Int)∧(k:Int)<x94.list.length∧iff (decide (x17.int > (0:Int))) (0≤(k:Int)∧(k:Int)<x1.length∧cl Zgy [.v (.int .u64) (((x1.getD k []).drop 0).headD V.none),.v (.int .i64) (((x94.list.getD k []).drop 0).headD V.none)] [] fun r1 H2=>r1=(.v (.int .u64) (r1.V))∧H2=[]∧cl Zd9 [.v (.int .u64) (x17),.v (.int .u64) (r1.V)] [] fun r3 H4=>r3=(.v (.int .u64) (r3.V))∧H4=[]∧K r3.V) (K x17)))
  (last:∀ (x17:V),J n x17→(cl Zgp [.v (.int .u64) (x14),.v (.int .u64) (x17)] [] fun r5 H6=>r5=(.v (.int .u64) (r5.V))∧H6=[]∧ZbS Q m4 x1 r5.V x67 x68 (IntKind.i64.wrap (x69+(1:Int)))))
  (k:Nat) (x17:V) (le0:k≤n) (hj:J k x17):∃ m6,ZbT Q m4 m6 x1 x14 x17 x67 x68 x69 x94 (n:Int) ((k:Int)):=by
 exact rangeG1 n hb J (fun m6 i x17=>ZbT Q m4 m6 x1 x14 x17 x67 x68 x69 x94 (n:Int) i) (fun m6 i x17=>ZmL Q m4 m6 x1 x14 x17 x67 x68 x69 x94 (n:Int) i) (fun k x17 hl_ hj_ m_ ih_=>step k x17 hl_ hj_ _ ih_) last k x17 le0 hj
def Zn3 (Q:QD) (m4 m5:Nat) (x1:LL) (x14 x17:V) (x67:LL) (x68 x69:Int) (x76:V) (x77 x78:Int) (y16_0 y16_1:V):Prop :=
 iff (decide (x78<x77)) (0≤x78∧x78<x76.list.length∧0≤x78∧x78<x1.length∧iff (((((x1.getD x78.toNat []).drop 0).headD V.none).int) == (0:Int)) (iff (decide (((((x76.list.getD x78.toNat []).drop 0).headD V.none).int) > (0:Int))) (Zbk Q m4 m5 x1 x14 (V.i 0) x67 x68 x69 x76 x77 (IntKind.i64.wrap (x78+(1:Int))) y16_0 y16_1) (Zbk Q m4 m5 x1 x14 x17 x67 x68 x69 x76 x77 (IntKind.i64.wrap (x78+(1:Int))) y16_0 y16_1)) (Zbk Q m4 m5 x1 x14 x17 x67 x68 x69 x76 x77 (IntKind.i64.wrap (x78+(1:Int))) y16_0 y16_1)) ((y16_1.list.length≤big→∃ m6,ZbT Q m4 m6 x1 x14 x17 x67 x68 x69 y16_1 ((y16_1.list.length:Int)) 0))
theorem Zmy (Q:QD) (m4 m5:Nat) (x1:LL) (x14 x17:V) (x67:LL) (x68 x69:Int) (x76:V) (x77 x78:Int) (y16_0 y16_1:V):Zbk Q m4 (m5+1) x1 x14 x17 x67 x68 x69 x76 x77 x78 y16_0 y16_1=Zn3 Q m4 m5 x1 x14 x17 x67 x68 x69 x76 x77 x78 y16_0 y16_1:=by kernel_rfl
theorem ZlC (Q:QD) (m4:Nat) (x1:LL) (x14:V) (x67:LL) (x68 x69:Int) (x76 y16_0 y16_1:V) (n:Nat) (hb:n≤big) (J:Nat→V→Prop)
  (step:∀ (k:Nat) (x17:V),k<n→J k x17→∀ K:V→Prop,(∀ (x17':V),J (k+1) x17'→K x17')→(0≤(k:Int)∧(k:Int)<x76.list.length∧0≤(k:Int)∧(k:Int)<x1.length∧iff (((((x1.getD k []).drop 0).headD V.none).int) == (0:Int)) (iff (decide (((((x76.list.getD k []).drop 0).headD V.none).int) > (0:Int))) (K (V.i 0)) (K x17)) (K x17)))
  (last:∀ (x17:V),J n x17→((y16_1.list.length≤big→∃ m6,ZbT Q m4 m6 x1 x14 x17 x67 x68 x69 y16_1 ((y16_1.list.length:Int)) 0)))
  (k:Nat) (x17:V) (le0:k≤n) (hj:J k x17):∃ m5,Zbk Q m4 m5 x1 x14 x17 x67 x68 x69 x76 (n:Int) ((k:Int)) y16_0 y16_1:=by
 exact rangeG1 n hb J (fun m5 i x17=>Zbk Q m4 m5 x1 x14 x17 x67 x68 x69 x76 (n:Int) i y16_0 y16_1) (fun m5 i x17=>Zmy Q m4 m5 x1 x14 x17 x67 x68 x69 x76 (n:Int) i y16_0 y16_1) (fun k x17 hl_ hj_ m_ ih_=>step k x17 hl_ hj_ _ ih_) last k x17 le0 hj
def Zod (Q:QD) (m4:Nat) (x1:LL) (x14:V) (x67:LL) (x68 x69:Int):Prop :=
 iff (decide (x69<x68)) (0≤x69∧x69<x67.length∧((((((x67.getD x69.toNat []).drop 0).tail).headD V.none).list).length≤big→∃ m5,Zbk Q m4 m5 x1 x14 (((x67.getD x69.toNat []).drop 0).headD V.none) x67 x68 x69 ((((x67.getD x69.toNat []).drop 0).tail).headD V.none) (((((((x67.getD x69.toNat []).drop 0).tail).headD V.none).list).length:Int)) 0 (((x67.getD x69.toNat []).drop 0).headD V.none) ((((x67.getD x69.toNat []).drop 0).tail).headD V.none))) (iff (decide (x14.int > (4611686018427387904:Int))) ((True∧True∧True)∧Q (.tup [.v (.int .u64) (V.i 0),.v (.int .i64) (V.i 3)]) []) ((True∧True∧True)∧Q (.tup [.v (.int .u64) (x14),.v (.int .i64) (V.i 0)]) []))
theorem Zm0 (Q:QD) (m4:Nat) (x1:LL) (x14:V) (x67:LL) (x68 x69:Int):ZbS Q (m4+1) x1 x14 x67 x68 x69=Zod Q m4 x1 x14 x67 x68 x69:=by kernel_rfl
theorem Zlw (Q:QD) (x1 x67:LL) (n:Nat) (hb:n≤big) (J:Nat→V→Prop)
  (step:∀ (k:Nat) (x14:V),k<n→J k x14→∀ m4:Nat,(∀ (x14':V),J (k+1) x14'→ZbS Q m4 x1 x14' x67 (n:Int) (IntKind.i64.wrap ((k:Int)+(1:Int))))→(0≤(k:Int)∧(k:Int)<x67.length∧((((((x67.getD k []).drop 0).tail).headD V.none).list).length≤big→∃ m5,Zbk Q m4 m5 x1 x14 (((x67.getD k []).drop 0).headD V.none) x67 (n:Int) (k:Int) ((((x67.getD k []).drop 0).tail).headD V.none) (((((((x67.getD k []).drop 0).tail).headD V.none).list).length:Int)) 0 (((x67.getD k []).drop 0).headD V.none) ((((x67.getD k []).drop 0).tail).headD V.none))))
  (last:∀ (x14:V),J n x14→(iff (decide (x14.int > (4611686018427387904:Int))) ((True∧True∧True)∧Q (.tup [.v (.int .u64) (V.i 0),.v (.int .i64) (V.i 3)]) []) ((True∧True∧True)∧Q (.tup [.v (.int .u64) (x14),.v (.int .i64) (V.i 0)]) [])))
  (k:Nat) (x14:V) (le0:k≤n) (hj:J k x14):∃ m4,ZbS Q m4 x1 x14 x67 (n:Int) ((k:Int)):=by
 exact rangeG1 n hb J (fun m4 i x14=>ZbS Q m4 x1 x14 x67 (n:Int) i) (fun m4 i x14=>Zm0 Q m4 x1 x14 x67 (n:Int) i) (fun k x14 hl_ hj_ m_ ih_=>step k x14 hl_ hj_ m_ ih_) last k x14 le0 hj
def Zop (Q:QD) (m3:Nat) (x0 x1 x58:LL) (x59 x60:Int):Prop :=
 iff (decide (x60<x59)) (0≤x60∧x60<x58.length∧iff (decide (((((x58.getD x60.toNat []).drop 0).headD V.none).int) > (4611686018427387904:Int))) ((True∧True∧True)∧Q (.tup [.v (.int .u64) (V.i 0),.v (.int .i64) (V.i 2)]) []) (Zdt Q m3 x0 x1 x58 x59 (IntKind.i64.wrap (x60+(1:Int))))) ((x0.length≤big→∃ m4,ZbS Q m4 x1 (V.i 0) x0 ((x0.length:Int)) 0))
theorem ZmA (Q:QD) (m3:Nat) (x0 x1 x58:LL) (x59 x60:Int):Zdt Q (m3+1) x0 x1 x58 x59 x60=Zop Q m3 x0 x1 x58 x59 x60:=by kernel_rfl
theorem ZlM (Q:QD) (x0 x1 x58:LL) (n:Nat) (hb:n≤big) (J:Nat→Prop)
  (step:∀ (k:Nat),k<n→J k→∀ K:Prop,(J (k+1)→K)→(0≤(k:Int)∧(k:Int)<x58.length∧iff (decide (((((x58.getD k []).drop 0).headD V.none).int) > (4611686018427387904:Int))) ((True∧True∧True)∧Q (.tup [.v (.int .u64) (V.i 0),.v (.int .i64) (V.i 2)]) []) (K)))
  (last:J n→((x0.length≤big→∃ m4,ZbS Q m4 x1 (V.i 0) x0 ((x0.length:Int)) 0)))
  (k:Nat) (le0:k≤n) (hj:J k):∃ m3,Zdt Q m3 x0 x1 x58 (n:Int) ((k:Int)):=by
 exact rangeG0 n hb J (fun m3 i=>Zdt Q m3 x0 x1 x58 (n:Int) i) (fun m3 i=>ZmA Q m3 x0 x1 x58 (n:Int) i) (fun k hl_ hj_ m_ ih_=>step k hl_ hj_ _ ih_) last k le0 hj
def Zoq (Q:QD) (m1:Nat) (x0 x1 x38:LL) (x39 x40:Int):Prop :=
 iff (decide (x40<x39)) (0≤x40∧x40<x38.length∧iff (decide (((((x38.getD x40.toNat []).drop 0).headD V.none).int) > (4611686018427387904:Int))) ((True∧True∧True)∧Q (.tup [.v (.int .u64) (V.i 0),.v (.int .i64) (V.i 2)]) []) (((((((x38.getD x40.toNat []).drop 0).tail).headD V.none).list).length≤big→∃ m2,Zcd Q m1 m2 x0 x1 x38 x39 x40 ((((x38.getD x40.toNat []).drop 0).tail).headD V.none) (((((((x38.getD x40.toNat []).drop 0).tail).headD V.none).list).length:Int)) 0))) ((x1.length≤big→∃ m3,Zdt Q m3 x0 x1 x1 ((x1.length:Int)) 0))
theorem ZmR (Q:QD) (m1:Nat) (x0 x1 x38:LL) (x39 x40:Int):Zbh Q (m1+1) x0 x1 x38 x39 x40=Zoq Q m1 x0 x1 x38 x39 x40:=by kernel_rfl
theorem ZlN (Q:QD) (x0 x1 x38:LL) (n:Nat) (hb:n≤big) (J:Nat→Prop)
  (step:∀ (k:Nat),k<n→J k→∀ m1:Nat,(J (k+1)→Zbh Q m1 x0 x1 x38 (n:Int) (IntKind.i64.wrap ((k:Int)+(1:Int))))→(0≤(k:Int)∧(k:Int)<x38.length∧iff (decide (((((x38.getD k []).drop 0).headD V.none).int) > (4611686018427387904:Int))) ((True∧True∧True)∧Q (.tup [.v (.int .u64) (V.i 0),.v (.int .i64) (V.i 2)]) []) (((((((x38.getD k []).drop 0).tail).headD V.none).list).length≤big→∃ m2,Zcd Q m1 m2 x0 x1 x38 (n:Int) (k:Int) ((((x38.getD k []).drop 0).tail).headD V.none) (((((((x38.getD k []).drop 0).tail).headD V.none).list).length:Int)) 0))))
  (last:J n→((x1.length≤big→∃ m3,Zdt Q m3 x0 x1 x1 ((x1.length:Int)) 0)))
  (k:Nat) (le0:k≤n) (hj:J k):∃ m1,Zbh Q m1 x0 x1 x38 (n:Int) ((k:Int)):=by
 exact rangeG0 n hb J (fun m1 i=>Zbh Q m1 x0 x1 x38 (n:Int) i) (fun m1 i=>ZmR Q m1 x0 x1 x38 (n:Int) i) (fun k hl_ hj_ m_ ih_=>step k hl_ hj_ m_ ih_) last k le0 hj
def Zn4 (Q:QD) (m0:Nat) (x0 x1 x25:LL) (x26 x27:Int):Prop :=
 iff (decide (x27<x26)) (0≤x27∧x27<x25.length∧((((((x25.getD x27.toNat []).drop 0).tail).headD V.none).list).length≤big→(x1.length≤big→iff ((((((((x25.getD x27.toNat []).drop 0).tail).headD V.none).list).length:Int)) != ((x1.length:Int))) ((True∧True∧True)∧Q (.tup [.v (.int .u64) (V.i 0),.v (.int .i64) (V.i 4)]) []) (ZeS Q m0 x0 x1 x25 x26 (IntKind.i64.wrap (x27+(1:Int))))))) ((x0.length≤big→∃ m1,Zbh Q m1 x0 x1 x0 ((x0.length:Int)) 0))
theorem ZmM (Q:QD) (m0:Nat) (x0 x1 x25:LL) (x26 x27:Int):ZeS Q (m0+1) x0 x1 x25 x26 x27=Zn4 Q m0 x0 x1 x25 x26 x27:=by kernel_rfl
theorem Zma (Q:QD) (x0 x1 x25:LL) (n:Nat) (hb:n≤big) (J:Nat→Prop)
  (step:∀ (k:Nat),k<n→J k→∀ K:Prop,(J (k+1)→K)→(0≤(k:Int)∧(k:Int)<x25.length∧((((((x25.getD k []).drop 0).tail).headD V.none).list).length≤big→(x1.length≤big→iff ((((((((x25.getD k []).drop 0).tail).headD V.none).list).length:Int)) != ((x1.length:Int))) ((True∧True∧True)∧Q (.tup [.v (.int .u64) (V.i 0),.v (.int .i64) (V.i 4)]) []) (K)))))
  (last:J n→((x0.length≤big→∃ m1,Zbh Q m1 x0 x1 x0 ((x0.length:Int)) 0)))
  (k:Nat) (le0:k≤n) (hj:J k):∃ m0,ZeS Q m0 x0 x1 x25 (n:Int) ((k:Int)):=by
 exact rangeG0 n hb J (fun m0 i=>ZeS Q m0 x0 x1 x25 (n:Int) i) (fun m0 i=>ZmM Q m0 x0 x1 x25 (n:Int) i) (fun k hl_ hj_ m_ ih_=>step k hl_ hj_ _ ih_) last k le0 hj
def Zo8 (a0 a1:LL) (Q:QD):Prop :=
 (a0.length≤big→iff (decide (((a0.length:Int)) > (4096:Int))) ((True∧True∧True)∧Q (.tup [.v (.int .u64) (V.i 0),.v (.int .i64) (V.i 3)]) []) ((a0.length≤big→∃ m0,ZeS Q m0 a0 a1 a0 ((a0.length:Int)) 0)))
theorem Zpk (a0 a1:LL) (Q:QD) (h:Zo8 a0 a1 Q):cl Zk1 [.v (.sl Za) (V.l a0),.v (.sl Zp) (V.l a1)] [] Q :=
 acalls2 (E:=Zg) (envOk _ _ _ _ _) 0 Tryz.func26 (by kernel_rfl) h
def Zm7:Env:=envA [] [] [] [] []
def ZjB (a0_0:ByteArray) (a0_1:Bool) (a0_2:LL) (Q:QD):Prop :=
 cl Zcc [.agg [.v .str (V.s a0_0),.v .bool (V.b a0_1),.v (.sl Zb) (V.l a0_2)]] [] fun r1 H2=>r1=(.v .bool (r1.V))∧H2=[]∧iff (!r1.V.bool) (True∧Q (.v (.int .i64) (V.i 4)) []) (cl Zi3 [.agg [.v .str (V.s a0_0),.v .bool (V.b a0_1),.v (.sl Zb) (V.l a0_2)]] [] fun r3 H4=>r3=(.v .bool (r3.V))∧H4=[]∧iff (!r3.V.bool) (True∧Q (.v (.int .i64) (V.i 3)) []) (True∧Q (.v (.int .i64) (V.i 0)) []))
theorem ZoW (a0_0:ByteArray) (a0_1:Bool) (a0_2:LL) (Q:QD) (h:ZjB a0_0 a0_1 a0_2 Q):cl ZZ [.agg [.v .str (V.s a0_0),.v .bool (V.b a0_1),.v (.sl Zb) (V.l a0_2)]] [] Q :=
 acalls2 (E:=Zm7) (envOk _ _ _ _ _) 0 Tryz.func34 (by kernel_rfl) h
def ZL:Env:=envA [(3,(.undef 0)::(.undef 5)::(.undef 7)::(.undef 10)::ua 14 5 (ua 21 6 ([.dead 5,.dead 7,.dead 18,.dead 40]))),(7,(.undef 0)::(.undef 5)::(.undef 7)::(.undef 10)::ua 14 4 (ua 21 6 ([.dead 5,.dead 40]))),(12,(.undef 0)::ua 2 2 ((.undef 5)::(.undef 7)::ua 9 10 (ua 21 7 (ua 29 8 ((.dead 3)::da 35 2 ([.ownT 8 40 Zc]))))))] [] [] [] []
def Zfl (Q:QD):Post:=blockK 0 (seqJ ZL (fnAt [1,1,1] Tryz.f35) (endK ZL Tryz.f35 Q))
def ZlF (Q:QD):Post:=blockK 4 (seqJ ZL (fnAt [1,1,1,1,1] Tryz.f35) (endK ZL Tryz.f35 Q))
@[irreducible] def Za9 (Q:QD) (m0:Nat) (zx11:LL) (zx12 zx13:Int) (zx18_0:List V) (zy10:LL) (q1:LL) (rows:LL):Prop :=
 rangeR (evCode ZL (fnAt [1,1,0,1,0,0,1,1,0,0,1,1,0,0] Tryz.f35)) (evCode ZL (fnAt [1,1,0,1,0,0,1,1,0,0,1,1,0,1] Tryz.f35)) [19,20] (rowA 130) [.cells [.mp (.own 1)],.map Zju zy10] (.undef::.skip::.nil::(.ptr (.own 0) 0)::.skip::.undef::.skip::.undef::sk 2 (.undef::(.v (.sl Zb) (V.l zx11))::(.v (.int .i64) (V.i zx12))::(.v (.int .i64) (V.i zx13))::un 4 ((.fn Zak [.elt Zb zx18_0 0])::sk 2 (un 6 (sk 13 ([])))))) (dd 41 []) (outR ZL [.loc 3,.loc 10] ⟨.undef::.skip::.nil::(.ptr (.loc 3) 0)::.skip::.undef::.skip::.undef::sk 2 (.undef::(.v (.sl Zb) (V.l zx11))::(.v (.int .i64) (V.i zx12))::(.v (.int .i64) (V.i zx13))::un 4 ((.fn Zak [.elt Zb zx18_0 0])::sk 2 (un 6 (sk 13 ([]))))),dd 3 ((.cells [.mp (.loc 10)])::dd 6 ((.map Zju zy10)::dd 30 ([])))⟩ [] (blockK 2 (blockK 1 (seqJ ZL (fnAt [1,1,0,1,0,0,1,1,1] Tryz.f35) (loopK (adj (ZL.adj 3)) (iter (adj (ZL.adj 3)) (evCode ZL (fnAt [1,1,0,1,0,0] Tryz.f35)) (Zfl Q) m0) (Zfl Q)))))) rows [.cells [.mp (.own 1)],.map Zju q1]
@[irreducible] def Zcp (Q:QD) (m2:Nat) (x8n:Nat) (y10:LL) (y28n:Nat) (y28s:List Nat) (y40:LL):Prop :=
 iter (adj (ZL.adj 12)) (evCode ZL (fnAt [1,1,1,1,0,1,0,0] Tryz.f35)) (ZlF Q) m2 ⟨.undef::.skip::un 2 (.skip::.undef::.skip::.undef::(.osl (.loc 40) x8n)::un 10 (sk 2 (un 7 ((.ptr (.loc 28) 0)::un 8 (sk 3 ([])))))),dd 10 ((.map Zju y10)::dd 17 ((.iter Zju (.mp (.loc 10)) y28n y28s)::dd 11 ([.row Zc y40])))⟩ []
@[irreducible] def Zct (Q:QD) (m0:Nat) (x11:LL) (x12 x13:Int) (y10:LL):Prop :=
 iter (adj (ZL.adj 3)) (evCode ZL (fnAt [1,1,0,1,0,0] Tryz.f35)) (Zfl Q) m0 ⟨.undef::.skip::.nil::(.ptr (.loc 3) 0)::.skip::.undef::.skip::.undef::sk 2 (.undef::(.v (.sl Zb) (V.l x11))::(.v (.int .i64) (V.i x12))::(.v (.int .i64) (V.i x13))::un 5 (sk 2 (un 6 (sk 13 ([]))))),dd 3 ((.cells [.mp (.loc 10)])::dd 6 ((.map Zju y10)::dd 30 ([])))⟩ []
theorem Zkt (Q:QD) (m0:Nat) (zx11:LL) (zx12 zx13:Int) (zx18_0:List V) (zy10:LL) (q1:LL):Za9 Q m0 zx11 zx12 zx13 zx18_0 zy10 q1 []=(Zct Q m0 zx11 zx12 (IntKind.i64.wrap (zx13+(1:Int))) q1):=by kernel_rfl
theorem Zkp (Q:QD) (m0:Nat) (zx11:LL) (zx12 zx13:Int) (zx18_0:List V) (zy10:LL) (q1:LL) (r:List V) (rs:LL):Za9 Q m0 zx11 zx12 zx13 zx18_0 zy10 q1 (r::rs)=(iff ((r.tail.headD V.none).bool) (Za9 Q m0 zx11 zx12 zx13 zx18_0 zy10 (mset [.str] [r.headD V.none] [V.b true] q1) rs) (Za9 Q m0 zx11 zx12 zx13 zx18_0 zy10 q1 rs)):=by kernel_rfl
theorem ZjL (Q:QD) (m0:Nat) (zx11:LL) (zx12 zx13:Int) (zx18_0:List V) (zy10:LL) (J:LL→LL→Prop)
  (step:∀ (r:List V) (rs:LL) (q1:LL),J (r::rs) q1→∀ K:LL→Prop,(∀ (q1':LL),J rs q1'→K q1')→(iff ((r.tail.headD V.none).bool) (K (mset [.str] [r.headD V.none] [V.b true] q1)) (K q1)))
  (last:∀ (q1:LL),J [] q1→(Zct Q m0 zx11 zx12 (IntKind.i64.wrap (zx13+(1:Int))) q1))
  : ∀ (rows:LL) (q1:LL),J rows q1→Za9 Q m0 zx11 zx12 zx13 zx18_0 zy10 q1 rows:=by
 intro rows
 induction rows with
 | nil=>intro q1 h; rw [Zkt]; exact last q1 h
 | cons r rs ih=>intro q1 h; rw [Zkp]; exact step r rs q1 h (fun q1=>Za9 Q m0 zx11 zx12 zx13 zx18_0 zy10 q1 rs) ih
def ZgM (Q:QD) (m2:Nat) (x8n:Nat) (y10:LL) (y28n:Nat) (y28s:List Nat) (y40:LL):Prop :=
 y10.length=y28n∧((∀ j:Nat,j<y28n→j∈y28s)→cl ZdG [.osl (.own 0) x8n] [.row Zc y40] fun r2 H3=>r2=(.tup [])∧H3=[.row Zc ((H3.headD .dead).xs)]∧(x8n=((H3.headD .dead).xs).length)∧Q (.v (.sl Zc) (V.l ((H3.headD .dead).xs))) [])∧(∀ j1:Nat,j1<y28n→j1 ∉ y28s→y28s.length<y28n→y10.length=y28n∧y40.length=x8n∧x8n+([[(y10.getD j1 []).headD V.none]]).length≤lim∧Zcp Q m2 (x8n+([[(y10.getD j1 []).headD V.none]]).length) y10 y28n (j1::y28s) (y40++([[(y10.getD j1 []).headD V.none]])))
theorem ZjM (Q:QD) (m2:Nat) (x8n:Nat) (y10:LL) (y28n:Nat) (y28s:List Nat) (y40:LL):Zcp Q (m2+1) x8n y10 y28n y28s y40=ZgM Q m2 x8n y10 y28n y28s y40:=by kernel_rfl
theorem Zkf (Q:QD):RuleG5 (Zcp Q) (ZgM Q):=ruleG5 _ _ (ZjM Q)
def Zfj (Q:QD) (m0:Nat) (x11:LL) (x12 x13:Int) (y10:LL):Prop :=
 iff (decide (x13<x12)) (0≤x13∧x13<x11.length∧cl ZgC [.agg [.v .str (((x11.getD x13.toNat []).drop 0).headD V.none),.v .bool ((((x11.getD x13.toNat []).drop 0).tail).headD V.none),.v (.sl Zb) (((((x11.getD x13.toNat []).drop 0).tail).tail).headD V.none)]] [] fun r1 H2=>r1=(.fn Zak [.elt Zb ((r1.capsOf.headD .undef).eltOf) 0])∧H2=[]∧∃ rows:LL,itA 130 [.elt Zb ((r1.capsOf.headD .undef).eltOf) 0] rows∧Za9 Q m0 x11 x12 x13 ((r1.capsOf.headD .undef).eltOf) y10 y10 rows) (∃ m2,Zcp Q m2 0 y10 y10.length (([]:List Nat)) (([]:List (List V))))
theorem Zjw (Q:QD) (m0:Nat) (x11:LL) (x12 x13:Int) (y10:LL):Zct Q (m0+1) x11 x12 x13 y10=Zfj Q m0 x11 x12 x13 y10:=by kernel_rfl
theorem Zjq (Q:QD):RuleG4 (Zct Q) (Zfj Q):=ruleG4 _ _ (Zjw Q)
def ZnI (a0:LL) (Q:QD):Prop :=
 (a0.length≤big→∃ m0,Zct Q m0 a0 ((a0.length:Int)) 0 (([]:List (List V))))
theorem Zom (a0:LL) (Q:QD) (h:ZnI a0 Q):cl Z3 [.v (.sl Zb) (V.l a0)] [] Q :=
 acalls2 (E:=ZL) (envOk _ _ _ _ _) 1 Tryz.func35 (by kernel_rfl) h
def ZaS:Env:=envA [(5,ua 0 2 (ua 12 6 ([])))] [] [] [] []
@[irreducible] def Zas (Q:QD) (zx2:LL) (zx18_0:List V) (zy3_0:LL) (zy4_0:ByteArray) (zy4_1:Bool) (zy4_2:LL) (zy7_0:Int) (q0_0:LL) (q1_0:ByteArray) (q1_1:Bool) (q1_2:LL) (q3_0:Int) (rows:LL):Prop :=
 rangeR (evCode ZaS (fnAt [1,1,0,1,0,0] Tryz.f36)) (evCode ZaS (fnAt [1,1,0,1,0,1] Tryz.f36)) [19,20] (rowA 130) [.cells [.v (.sl Zf) (V.l zy3_0)],.cells [.v .str (V.s zy4_0),.v .bool (V.b zy4_1),.v (.sl Zb) (V.l zy4_2)],.cells [.undef],.cells [.v (.int .i64) (V.i zy7_0)]] (un 2 ((.v (.sl Zc) (V.l zx2))::(.ptr (.own 0) 0)::(.ptr (.own 1) 0)::.skip::(.ptr (.own 2) 0)::(.ptr (.own 3) 0)::sk 4 (un 6 ((.fn Zak [.elt Zb zx18_0 0])::sk 28 ([]))))) (dd 47 []) (outR ZaS [.loc 3,.loc 4,.loc 6,.loc 7] ⟨un 2 ((.v (.sl Zc) (V.l zx2))::(.ptr (.loc 3) 0)::(.ptr (.loc 4) 0)::.skip::(.ptr (.loc 6) 0)::(.ptr (.loc 7) 0)::sk 4 (un 6 ((.fn Zak [.elt Zb zx18_0 0])::sk 28 ([])))),dd 3 ((.cells [.v (.sl Zf) (V.l zy3_0)])::(.cells [.v .str (V.s zy4_0),.v .bool (V.b zy4_1),.v (.sl Zb) (V.l zy4_2)])::.dead::(.cells [.undef])::(.cells [.v (.int .i64) (V.i zy7_0)])::dd 39 ([]))⟩ [] (blockK 0 (seqJ ZaS (fnAt [1,1,1] Tryz.f36) (endK ZaS Tryz.f36 Q)))) rows [.cells [.v (.sl Zf) (V.l q0_0)],.cells [.v .str (V.s q1_0),.v .bool (V.b q1_1),.v (.sl Zb) (V.l q1_2)],.cells [.undef],.cells [.v (.int .i64) (V.i q3_0)]]
theorem ZhW (Q:QD) (zx2:LL) (zx18_0:List V) (zy3_0:LL) (zy4_0:ByteArray) (zy4_1:Bool) (zy4_2:LL) (zy7_0:Int) (q0_0:LL) (q1_0:ByteArray) (q1_1:Bool) (q1_2:LL) (q3_0:Int):Zas Q zx2 zx18_0 zy3_0 zy4_0 zy4_1 zy4_2 zy7_0 q0_0 q1_0 q1_1 q1_2 q3_0 []=(cl Zbx [.ptr (.own 0) 0,.agg [.v .str (V.s q1_0),.v .bool (V.b q1_1),.v (.sl Zb) (V.l q1_2)]] [.cells [.v (.sl Zf) (V.l q0_0),.v (.sl Zc) (V.l zx2)]] fun r1 H2=>r1=(.tup [.v (.mp Ze) ((r1.parts.headD .undef).V),.v (.int .i64) ((r1.parts.tail.headD .undef).V)])∧H2=[.cells [.v (.sl Zf) ((((H2.headD .dead).cs).headD .undef).V),.v (.sl Zc) (((((H2.headD .dead).cs).tail).headD .undef).V)]]∧(True∧True∧True)∧Q (.tup [.v (.mp Ze) ((r1.parts.headD .undef).V),.v (.int .i64) ((r1.parts.tail.headD .undef).V)]) []):=by kernel_rfl
theorem ZhX (Q:QD) (zx2:LL) (zx18_0:List V) (zy3_0:LL) (zy4_0:ByteArray) (zy4_1:Bool) (zy4_2:LL) (zy7_0:Int) (q0_0:LL) (q1_0:ByteArray) (q1_1:Bool) (q1_2:LL) (q3_0:Int) (r:List V) (rs:LL):Zas Q zx2 zx18_0 zy3_0 zy4_0 zy4_1 zy4_2 zy7_0 q0_0 q1_0 q1_1 q1_2 q3_0 (r::rs)=((((r.tail.tail.headD V.none).list).length≤big→cl ZB [.v (.sl Zf) (V.l q0_0),.agg [.v .str (r.headD V.none),.v (.int .i64) (V.i ((((r.tail.tail.headD V.none).list).length:Int)))]] [] fun r1 H2=>r1=(.tup [.v (.sl Za) ((r1.parts.headD .undef).V),.v .bool ((r1.parts.tail.headD .undef).V)])∧H2=[]∧iff (!((r.tail.headD V.none).bool)) (iff (!(((r1.parts.tail.headD .undef).V).bool)) ((True∧True∧True)∧Q (.tup [.v (.mp Ze) (V.l ([])),.v (.int .i64) (V.i 10)]) []) (Zas Q zx2 zx18_0 zy3_0 zy4_0 zy4_1 zy4_2 zy7_0 q0_0 q1_0 q1_1 q1_2 q3_0 rs)) (Zas Q zx2 zx18_0 zy3_0 zy4_0 zy4_1 zy4_2 zy7_0 q0_0 q1_0 q1_1 q1_2 q3_0 rs))):=by kernel_rfl
theorem ZgX (Q:QD) (zx2:LL) (zx18_0:List V) (zy3_0:LL) (zy4_0:ByteArray) (zy4_1:Bool) (zy4_2:LL) (zy7_0:Int) (J:LL→LL→ByteArray→Bool→LL→Int→Prop)
  (step:∀ (r:List V) (rs:LL) (q0_0:LL) (q1_0:ByteArray) (q1_1:Bool) (q1_2:LL) (q3_0:Int),J (r::rs) q0_0 q1_0 q1_1 q1_2 q3_0→∀ K:LL→ByteArray→Bool→LL→Int→Prop,(∀ (q0_0':LL) (q1_0':ByteArray) (q1_1':Bool) (q1_2':LL) (q3_0':Int),J rs q0_0' q1_0' q1_1' q1_2' q3_0'→K q0_0' q1_0' q1_1' q1_2' q3_0')→((((r.tail.tail.headD V.none).list).length≤big→cl ZB [.v (.sl Zf) (V.l q0_0),.agg [.v .str (r.headD V.none),.v (.int .i64) (V.i ((((r.tail.tail.headD V.none).list).length:Int)))]] [] fun r1 H2=>r1=(.tup [.v (.sl Za) ((r1.parts.headD .undef).V),.v .bool ((r1.parts.tail.headD .undef).V)])∧H2=[]∧iff (!((r.tail.headD V.none).bool)) (iff (!(((r1.parts.tail.headD .undef).V).bool)) ((True∧True∧True)∧Q (.tup [.v (.mp Ze) (V.l ([])),.v (.int .i64) (V.i 10)]) []) (K q0_0 q1_0 q1_1 q1_2 q3_0)) (K q0_0 q1_0 q1_1 q1_2 q3_0))))
  (last:∀ (q0_0:LL) (q1_0:ByteArray) (q1_1:Bool) (q1_2:LL) (q3_0:Int),J [] q0_0 q1_0 q1_1 q1_2 q3_0→(cl Zbx [.ptr (.own 0) 0,.agg [.v .str (V.s q1_0),.v .bool (V.b q1_1),.v (.sl Zb) (V.l q1_2)]] [.cells [.v (.sl Zf) (V.l q0_0),.v (.sl Zc) (V.l zx2)]] fun r1 H2=>r1=(.tup [.v (.mp Ze) ((r1.parts.headD .undef).V),.v (.int .i64) ((r1.parts.tail.headD .undef).V)])∧H2=[.cells [.v (.sl Zf) ((((H2.headD .dead).cs).headD .undef).V),.v (.sl Zc) (((((H2.headD .dead).cs).tail).headD .undef).V)]]∧(True∧True∧True)∧Q (.tup [.v (.mp Ze) ((r1.parts.headD .undef).V),.v (.int .i64) ((r1.parts.tail.headD .undef).V)]) []))
  : ∀ (rows:LL) (q0_0:LL) (q1_0:ByteArray) (q1_1:Bool) (q1_2:LL) (q3_0:Int),J rows q0_0 q1_0 q1_1 q1_2 q3_0→Zas Q zx2 zx18_0 zy3_0 zy4_0 zy4_1 zy4_2 zy7_0 q0_0 q1_0 q1_1 q1_2 q3_0 rows:=by
 intro rows
 induction rows with
 | nil=>intro q0_0 q1_0 q1_1 q1_2 q3_0 h; rw [ZhW]; exact last q0_0 q1_0 q1_1 q1_2 q3_0 h
 | cons r rs ih=>intro q0_0 q1_0 q1_1 q1_2 q3_0 h; rw [ZhX]; exact step r rs q0_0 q1_0 q1_1 q1_2 q3_0 h (fun q0_0 q1_0 q1_1 q1_2 q3_0=>Zas Q zx2 zx18_0 zy3_0 zy4_0 zy4_1 zy4_2 zy7_0 q0_0 q1_0 q1_1 q1_2 q3_0 rs) ih
def ZfM (a0:LL) (a1_0:ByteArray) (a1_1:Bool) (a1_2 a2:LL) (Q:QD):Prop :=
 cl Z3 [.v (.sl Zb) (V.l ([[V.s a1_0,V.b a1_1,V.l a1_2]]))] [] fun r1 H2=>r1=(.v (.sl Zc) (r1.V))∧H2=[]∧(r1.V.list.length≤big→iff (decide (((r1.V.list.length:Int)) > (64:Int))) ((True∧True∧True)∧Q (.tup [.v (.mp Ze) (V.l ([])),.v (.int .i64) (V.i 3)]) []) (cl ZgC [.agg [.v .str (V.s a1_0),.v .bool (V.b a1_1),.v (.sl Zb) (V.l a1_2)]] [] fun r3 H4=>r3=(.fn Zak [.elt Zb ((r3.capsOf.headD .undef).eltOf) 0])∧H4=[]∧∃ rows:LL,itA 130 [.elt Zb ((r3.capsOf.headD .undef).eltOf) 0] rows∧Zas Q a2 ((r3.capsOf.headD .undef).eltOf) a0 a1_0 a1_1 a1_2 0 a0 a1_0 a1_1 a1_2 0 rows))
theorem ZkS (a0:LL) (a1_0:ByteArray) (a1_1:Bool) (a1_2 a2:LL) (Q:QD) (h:ZfM a0 a1_0 a1_1 a1_2 a2 Q):cl Zw [.v (.sl Zf) (V.l a0),.agg [.v .str (V.s a1_0),.v .bool (V.b a1_1),.v (.sl Zb) (V.l a1_2)],.v (.sl Zc) (V.l a2)] [] Q :=
 acalls2 (E:=ZaS) (envOk _ _ _ _ _) 0 Tryz.func36 (by kernel_rfl) h
def Zm6:Env:=envA [] [(1,27,[],[])] [] [] []
def Zjk (a0:ByteArray) (Q:QD):Prop :=
 0≤(0:Int)∧(0:Int)<a0.size∧0≤(8:Int)∧0≤(1:Int)∧(1:Int)<a0.size∧0≤(2:Int)∧(2:Int)<a0.size∧0≤(24:Int)∧0≤(3:Int)∧(3:Int)<a0.size∧0≤(16:Int)∧0≤(4:Int)∧(4:Int)<a0.size∧0≤(8:Int)∧0≤(5:Int)∧(5:Int)<a0.size∧(True∧True∧True)∧Q (.tup [.v (.int .i64) (V.i (bitOr .i64 ((IntKind.i64.wrap ((IntKind.i64.wrap (((a0.data.toList.getD ((0:Int)).toNat 0).toNat:Int)))*2 ^ (min ((8:Int)).toNat IntKind.i64.bits)))) ((IntKind.i64.wrap (((a0.data.toList.getD ((1:Int)).toNat 0).toNat:Int)))))),.v (.int .i64) (V.i (bitOr .i64 ((bitOr .i64 ((bitOr .i64 ((IntKind.i64.wrap ((IntKind.i64.wrap (((a0.data.toList.getD ((2:Int)).toNat 0).toNat:Int)))*2 ^ (min ((24:Int)).toNat IntKind.i64.bits)))) ((IntKind.i64.wrap ((IntKind.i64.wrap (((a0.data.toList.getD ((3:Int)).toNat 0).toNat:Int)))*2 ^ (min ((16:Int)).toNat IntKind.i64.bits)))))) ((IntKind.i64.wrap ((IntKind.i64.wrap (((a0.data.toList.getD ((4:Int)).toNat 0).toNat:Int)))*2 ^ (min ((8:Int)).toNat IntKind.i64.bits)))))) ((IntKind.i64.wrap (((a0.data.toList.getD ((5:Int)).toNat 0).toNat:Int))))))]) []
theorem ZoP (a0:ByteArray) (Q:QD) (h:Zjk a0 Q):cl Zfi [.v .str (V.s a0)] [] Q :=
 acalls2 (E:=Zm6) (envOk _ _ _ _ _) 0 Tryz.func37 (by kernel_rfl) h
def Zcx:Env:=envA [(3000004,(.undef 1)::ua 4 8 ([.dead 11])),(3000005,(.undef 1)::ua 4 14 ([.dead 11,.dead 15]))] [] [] [] [4,5]
@[irreducible] def ZeQ (Q:QD) (x0:ByteArray):Prop :=
 joinM (evCode Zcx (fnAt [1,1,1] Tryz.f41)) ⟨(.v .str (V.s x0))::.undef::sk 2 (un 14 (sk 6 ([]))),dd 24 ([])⟩ [] (endK Zcx Tryz.f41 Q)
@[irreducible] def Zev (Q:QD) (x0:ByteArray) (x12:V):Prop :=
 joinM (evCode Zcx (fnAt [1,1,0,1] Tryz.f41)) ⟨(.v .str (V.s x0))::.undef::sk 2 (un 8 ((.v .bool (x12))::sk 11 ([]))),dd 24 ([])⟩ [] (seqJ Zcx (fnAt [1,1,1] Tryz.f41) (endK Zcx Tryz.f41 Q))
def ZhC (Q:QD) (x0:ByteArray):Prop :=
 iff (!(x0.toList == (ByteArray.mk #[]).toList)) (cl Zgt [.v .str (V.s x0)] [] fun r1 H2=>r1=(.v .bool (r1.V))∧H2=[]∧True∧Q (.v .bool (r1.V)) []) (True∧Q (.v .bool (V.b false)) [])
theorem ZkV (Q:QD) (x0:ByteArray):ZeQ Q x0=ZhC Q x0:=by kernel_rfl
def ZhO (Q:QD) (x0:ByteArray) (x12:V):Prop :=
 iff x12.bool ((x0.size≤big→0≤(0:Int)∧(0:Int)≤(IntKind.i64.wrap (((x0.size:Int)) - (1:Int)))∧(IntKind.i64.wrap (((x0.size:Int)) - (1:Int)))≤x0.size∧ZeQ Q (x0.extract (0:Int).toNat ((IntKind.i64.wrap (((x0.size:Int)) - (1:Int)))).toNat))) (ZeQ Q x0)
theorem Zkv (Q:QD) (x0:ByteArray) (x12:V):Zev Q x0 x12=ZhO Q x0 x12:=by kernel_rfl
def Zoi (a0:ByteArray) (a1:Bool) (Q:QD):Prop :=
 (a0.size≤big→iff (decide (((a0.size:Int)) > (24:Int))) (True∧Q (.v .bool (V.b false)) []) (iff a1 (cl Zhq [.v .str (V.s a0)] [] fun r1 H2=>r1=(.v .bool (r1.V))∧H2=[]∧Zev Q a0 r1.V) (Zev Q a0 (V.b false))))
theorem Zov (a0:ByteArray) (a1:Bool) (Q:QD) (h:Zoi a0 a1 Q):cl Zb9 [.v .str (V.s a0),.v .bool (V.b a1)] [] Q :=
 acalls2 (E:=Zcx) (envOk _ _ _ _ _) 0 Tryz.func41 (by kernel_rfl) h
def Zbd:Env:=envA [(2,ua 4 6 (ua 12 19 ([.dead 29])))] [(4,6,[],[]),(5,8,[],[])] [] [] []
def ZhD (Q:QD):Post:=blockK 0 (seqJ Zbd (fnAt [1,1] Tryz.f42) (endK Zbd Tryz.f42 Q))
@[irreducible] def Za4 (Q:QD) (m0:Nat) (x0 x1:ByteArray) (x10 x11:Int):Prop :=
 iter (adj (Zbd.adj 2)) (evCode Zbd (fnAt [1,0,1,0,0] Tryz.f42)) (ZhD Q) m0 ⟨(.v .str (V.s x0))::(.v .str (V.s x1))::sk 2 (un 6 ((.v (.int .i64) (V.i x10))::(.v (.int .i64) (V.i x11))::un 19 (sk 5 ([])))),dd 36 ([])⟩ []
def Zhg (Q:QD) (m0:Nat) (x0 x1:ByteArray) (x10 x11:Int):Prop :=
 iff (decide (x11<x10)) (0≤x11∧x11<x0.size∧0≤x11∧x11<x1.size∧iff ((((x0.data.toList.getD x11.toNat 0).toNat:Int)) != (((x1.data.toList.getD x11.toNat 0).toNat:Int))) (0≤x11∧x11<x0.size∧0≤x11∧x11<x1.size∧cl Zah [.v (.int .i64) (V.i (IntKind.i64.wrap (((x0.data.toList.getD x11.toNat 0).toNat:Int)))),.v (.int .i64) (V.i (IntKind.i64.wrap (((x1.data.toList.getD x11.toNat 0).toNat:Int))))] [] fun r1 H2=>r1=(.v (.int .i64) (r1.V))∧H2=[]∧True∧Q (.v (.int .i64) (r1.V)) []) (Za4 Q m0 x0 x1 x10 (IntKind.i64.wrap (x11+(1:Int))))) ((x0.size≤big→(x1.size≤big→cl Zah [.v (.int .i64) (V.i ((x0.size:Int))),.v (.int .i64) (V.i ((x1.size:Int)))] [] fun r3 H4=>r3=(.v (.int .i64) (r3.V))∧H4=[]∧True∧Q (.v (.int .i64) (r3.V)) [])))
theorem Zgv (Q:QD) (m0:Nat) (x0 x1:ByteArray) (x10 x11:Int):Za4 Q (m0+1) x0 x1 x10 x11=Zhg Q m0 x0 x1 x10 x11:=by kernel_rfl
theorem Zgj (Q:QD) (x0 x1:ByteArray) (n:Nat) (hb:n≤big) (J:Nat→Prop)
  (step:∀ (k:Nat),k<n→J k→∀ K:Prop,(J (k+1)→K)→(0≤(k:Int)∧(k:Int)<x0.size∧0≤(k:Int)∧(k:Int)<x1.size∧iff ((((x0.data.toList.getD k 0).toNat:Int)) != (((x1.data.toList.getD k 0).toNat:Int))) (0≤(k:Int)∧(k:Int)<x0.size∧0≤(k:Int)∧(k:Int)<x1.size∧cl Zah [.v (.int .i64) (V.i (IntKind.i64.wrap (((x0.data.toList.getD k 0).toNat:Int)))),.v (.int .i64) (V.i (IntKind.i64.wrap (((x1.data.toList.getD k 0).toNat:Int))))] [] fun r1 H2=>r1=(.v (.int .i64) (r1.V))∧H2=[]∧True∧Q (.v (.int .i64) (r1.V)) []) (K)))
  (last:J n→((x0.size≤big→(x1.size≤big→cl Zah [.v (.int .i64) (V.i ((x0.size:Int))),.v (.int .i64) (V.i ((x1.size:Int)))] [] fun r3 H4=>r3=(.v (.int .i64) (r3.V))∧H4=[]∧True∧Q (.v (.int .i64) (r3.V)) []))))
  (k:Nat) (le0:k≤n) (hj:J k):∃ m0,Za4 Q m0 x0 x1 (n:Int) ((k:Int)):=by
 exact rangeG0 n hb J (fun m0 i=>Za4 Q m0 x0 x1 (n:Int) i) (fun m0 i=>Zgv Q m0 x0 x1 (n:Int) i) (fun k hl_ hj_ m_ ih_=>step k hl_ hj_ _ ih_) last k le0 hj
def ZiS (a0 a1:ByteArray) (Q:QD):Prop :=
 (a0.size≤big→(a1.size≤big→∃ m0,Za4 Q m0 a0 a1 (if ((a1.size:Int))<((a0.size:Int)) then ((a1.size:Int)) else ((a0.size:Int))) 0))
theorem Zj7 (a0 a1:ByteArray) (Q:QD) (h:ZiS a0 a1 Q):cl ZbN [.v .str (V.s a0),.v .str (V.s a1)] [] Q :=
 acalls2 (E:=Zbd) (envOk _ _ _ _ _) 0 Tryz.func42 (by kernel_rfl) h
def Zk:Env:=envA [(4,ua 2 3 (ua 9 3 (ua 15 36 ([.dead 4,.dead 21,.dead 26,.dead 31,.dead 46])))),(10,(.undef 0)::ua 2 3 ((.undef 6)::ua 8 43 (ua 54 26 ([.dead 6,.dead 67])))),(15,(.undef 0)::ua 2 3 ((.undef 6)::ua 8 43 (ua 54 12 (ua 69 11 ([.dead 6]))))),(3000014,(.undef 0)::ua 2 3 (ua 8 43 (ua 54 26 ([]))))] [(6,27,[],[])] [] [] [14]
def ZiL (Q:QD):Post:=blockK 0 (seqJ Zk (fnAt [1,1,1] Tryz.f43) (endK Zk Tryz.f43 Q))
def ZbA (Q:QD):Post:=blockK 2 (seqJ Zk (fnAt [1,1,1,1] Tryz.f43) (endK Zk Tryz.f43 Q))
def ZiM (Q:QD) (m1:Nat):Post:=blockK 4 (blockK 3 (seqJ Zk (fnAt [1,1,1,0,1,0,0,1,1,1] Tryz.f43) (loopK (adj (Zk.adj 10)) (iter (adj (Zk.adj 10)) (evCode Zk (fnAt [1,1,1,0,1,0,0] Tryz.f43)) (ZbA Q) m1) (ZbA Q))))
@[irreducible] def ZaT (Q:QD) (m1 m2:Nat) (x51:LL) (x52 x53:Int) (x66:V) (x67 x68:Int):Prop :=
 iter (adj (Zk.adj 15)) (evCode Zk (fnAt [1,1,1,0,1,0,0,1,1,0,0,1,1,1,0,0] Tryz.f43)) (ZiM Q m1) m2 ⟨.undef::.skip::un 3 (.skip::.undef::.skip::un 43 ((.v (.sl Za) (V.l x51))::(.v (.int .i64) (V.i x52))::(.v (.int .i64) (V.i x53))::un 12 ((.v (.sl ZA) (x66))::(.v (.int .i64) (V.i x67))::(.v (.int .i64) (V.i x68))::un 11 ([])))),dd 80 ([])⟩ []
@[irreducible] def Zd7 (Q:QD) (m1:Nat) (x51:LL) (x52 x53:Int) (y6_0 y6_1:V):Prop :=
 joinM (evCode Zk (fnAt [1,1,1,0,1,0,0,1,1,0,0,1,1] Tryz.f43)) ⟨.undef::.skip::un 3 (.skip::(.ptr (.loc 6) 0)::.skip::un 43 ((.v (.sl Za) (V.l x51))::(.v (.int .i64) (V.i x52))::(.v (.int .i64) (V.i x53))::un 26 ([]))),dd 6 ((.cells [.v (.int .u64) (y6_0),.v (.sl ZA) (y6_1)])::dd 73 ([]))⟩ [] (blockK 3 (seqJ Zk (fnAt [1,1,1,0,1,0,0,1,1,1] Tryz.f43) (loopK (adj (Zk.adj 10)) (iter (adj (Zk.adj 10)) (evCode Zk (fnAt [1,1,1,0,1,0,0] Tryz.f43)) (ZbA Q) m1) (ZbA Q))))
@[irreducible] def Zaa (Q:QD) (m1:Nat) (x51:LL) (x52 x53:Int):Prop :=
 iter (adj (Zk.adj 10)) (evCode Zk (fnAt [1,1,1,0,1,0,0] Tryz.f43)) (ZbA Q) m1 ⟨.undef::.skip::un 3 (.skip::.undef::.skip::un 43 ((.v (.sl Za) (V.l x51))::(.v (.int .i64) (V.i x52))::(.v (.int .i64) (V.i x53))::un 26 ([]))),dd 80 ([])⟩ []
@[irreducible] def ZaQ (Q:QD) (m0:Nat) (x0 x12:LL) (x13 x14:Int):Prop :=
 iter (adj (Zk.adj 4)) (evCode Zk (fnAt [1,1,0,1,0,0] Tryz.f43)) (ZiL Q) m0 ⟨(.v (.sl Za) (V.l x0))::.skip::un 3 (sk 4 (un 3 ((.v (.sl Za) (V.l x12))::(.v (.int .i64) (V.i x13))::(.v (.int .i64) (V.i x14))::un 36 (sk 29 ([]))))),dd 80 ([])⟩ []
def Zi7 (Q:QD) (m1 m2:Nat) (x51:LL) (x52 x53:Int) (x66:V) (x67 x68:Int):Prop :=
 iff (decide (x68<x67)) (0≤x68∧x68<x66.list.length∧iff (decide (((((x66.list.getD x68.toNat []).drop 0).headD V.none).int)<(0:Int))) (True∧Q (.v (.int .i64) (V.i 2)) []) (iff (decide (((((x66.list.getD x68.toNat []).drop 0).headD V.none).int) > (8:Int))) (True∧Q (.v (.int .i64) (V.i 2)) []) (ZaT Q m1 m2 x51 x52 x53 x66 x67 (IntKind.i64.wrap (x68+(1:Int)))))) (Zaa Q m1 x51 x52 (IntKind.i64.wrap (x53+(1:Int))))
theorem Zhx (Q:QD) (m1 m2:Nat) (x51:LL) (x52 x53:Int) (x66:V) (x67 x68:Int):ZaT Q m1 (m2+1) x51 x52 x53 x66 x67 x68=Zi7 Q m1 m2 x51 x52 x53 x66 x67 x68:=by kernel_rfl
theorem Zg0 (Q:QD) (m1:Nat) (x51:LL) (x52 x53:Int) (x66:V) (n:Nat) (hb:n≤big) (J:Nat→Prop)
  (step:∀ (k:Nat),k<n→J k→∀ K:Prop,(J (k+1)→K)→(0≤(k:Int)∧(k:Int)<x66.list.length∧iff (decide (((((x66.list.getD k []).drop 0).headD V.none).int)<(0:Int))) (True∧Q (.v (.int .i64) (V.i 2)) []) (iff (decide (((((x66.list.getD k []).drop 0).headD V.none).int) > (8:Int))) (True∧Q (.v (.int .i64) (V.i 2)) []) (K))))
  (last:J n→(Zaa Q m1 x51 x52 (IntKind.i64.wrap (x53+(1:Int)))))
  (k:Nat) (le0:k≤n) (hj:J k):∃ m2,ZaT Q m1 m2 x51 x52 x53 x66 (n:Int) ((k:Int)):=by
 exact rangeG0 n hb J (fun m2 i=>ZaT Q m1 m2 x51 x52 x53 x66 (n:Int) i) (fun m2 i=>Zhx Q m1 m2 x51 x52 x53 x66 (n:Int) i) (fun k hl_ hj_ m_ ih_=>step k hl_ hj_ _ ih_) last k le0 hj
def ZiX (Q:QD) (m1:Nat) (x51:LL) (x52 x53:Int) (y6_0 y6_1:V):Prop :=
 (y6_1.list.length≤big→∃ m2,ZaT Q m1 m2 x51 x52 x53 y6_1 ((y6_1.list.length:Int)) 0)
theorem Zho (Q:QD) (m1:Nat) (x51:LL) (x52 x53:Int) (y6_0 y6_1:V):Zd7 Q m1 x51 x52 x53 y6_0 y6_1=ZiX Q m1 x51 x52 x53 y6_0 y6_1:=by kernel_rfl
def Zjb (Q:QD) (m1:Nat) (x51:LL) (x52 x53:Int):Prop :=
 iff (decide (x53<x52)) (0≤x53∧x53<x51.length∧iff (decide (((((x51.getD x53.toNat []).drop 0).headD V.none).int)<(1:Int))) (True∧Q (.v (.int .i64) (V.i 2)) []) (iff (decide (((((x51.getD x53.toNat []).drop 0).headD V.none).int) > (1048576:Int))) (True∧Q (.v (.int .i64) (V.i 2)) []) (Zd7 Q m1 x51 x52 x53 (((x51.getD x53.toNat []).drop 0).headD V.none) ((((x51.getD x53.toNat []).drop 0).tail).headD V.none)))) (True∧Q (.v (.int .i64) (V.i 0)) [])
theorem Zhh (Q:QD) (m1:Nat) (x51:LL) (x52 x53:Int):Zaa Q (m1+1) x51 x52 x53=Zjb Q m1 x51 x52 x53:=by kernel_rfl
theorem Zg4 (Q:QD) (x51:LL) (n:Nat) (hb:n≤big) (J:Nat→Prop)
  (step:∀ (k:Nat),k<n→J k→∀ m1:Nat,(J (k+1)→Zaa Q m1 x51 (n:Int) (IntKind.i64.wrap ((k:Int)+(1:Int))))→(0≤(k:Int)∧(k:Int)<x51.length∧iff (decide (((((x51.getD k []).drop 0).headD V.none).int)<(1:Int))) (True∧Q (.v (.int .i64) (V.i 2)) []) (iff (decide (((((x51.getD k []).drop 0).headD V.none).int) > (1048576:Int))) (True∧Q (.v (.int .i64) (V.i 2)) []) (Zd7 Q m1 x51 (n:Int) (k:Int) (((x51.getD k []).drop 0).headD V.none) ((((x51.getD k []).drop 0).tail).headD V.none)))))
  (last:J n→(True∧Q (.v (.int .i64) (V.i 0)) []))
  (k:Nat) (le0:k≤n) (hj:J k):∃ m1,Zaa Q m1 x51 (n:Int) ((k:Int)):=by
 exact rangeG0 n hb J (fun m1 i=>Zaa Q m1 x51 (n:Int) i) (fun m1 i=>Zhh Q m1 x51 (n:Int) i) (fun k hl_ hj_ m_ ih_=>step k hl_ hj_ m_ ih_) last k le0 hj
def ZiY (Q:QD) (m0:Nat) (x0 x12:LL) (x13 x14:Int):Prop :=
 iff (decide (x14<x13)) (0≤x14∧x14<x12.length∧0≤(0:Int)∧(0:Int)<x0.length∧iff ((((((((x12.getD x14.toNat []).drop 0).tail).headD V.none).list).length:Int)) != ((((((x0.getD ((0:Int)).toNat []).drop 1).headD V.none).list).length:Int))) (True∧Q (.v (.int .i64) (V.i 4)) []) (iff (decide ((((((((x12.getD x14.toNat []).drop 0).tail).headD V.none).list).length:Int)) > (8:Int))) (True∧Q (.v (.int .i64) (V.i 4)) []) (iff (decide (x14 > (0:Int))) (0≤(IntKind.i64.wrap (x14 - (1:Int)))∧(IntKind.i64.wrap (x14 - (1:Int)))<x0.length∧cl Zaf [.v (.sl ZA) (((x0.getD ((IntKind.i64.wrap (x14 - (1:Int)))).toNat []).drop 1).headD V.none),.v (.sl ZA) ((((x12.getD x14.toNat []).drop 0).tail).headD V.none)] [] fun r1 H2=>r1=(.v (.int .i64) (r1.V))∧H2=[]∧iff (decide (r1.V.int≥(0:Int))) (True∧Q (.v (.int .i64) (V.i 4)) []) (ZaQ Q m0 x0 x12 x13 (IntKind.i64.wrap (x14+(1:Int))))) (ZaQ Q m0 x0 x12 x13 (IntKind.i64.wrap (x14+(1:Int))))))) ((x0.length≤big→∃ m1,Zaa Q m1 x0 ((x0.length:Int)) 0))
theorem ZhG (Q:QD) (m0:Nat) (x0 x12:LL) (x13 x14:Int):ZaQ Q (m0+1) x0 x12 x13 x14=ZiY Q m0 x0 x12 x13 x14:=by kernel_rfl
theorem Zg7 (Q:QD) (x0 x12:LL) (n:Nat) (hb:n≤big) (J:Nat→Prop)
  (step:∀ (k:Nat),k<n→J k→∀ K:Prop,(J (k+1)→K)→(0≤(k:Int)∧(k:Int)<x12.length∧0≤(0:Int)∧(0:Int)<x0.length∧iff ((((((((x12.getD k []).drop 0).tail).headD V.none).list).length:Int)) != ((((((x0.getD ((0:Int)).toNat []).drop 1).headD V.none).list).length:Int))) (True∧Q (.v (.int .i64) (V.i 4)) []) (iff (decide ((((((((x12.getD k []).drop 0).tail).headD V.none).list).length:Int)) > (8:Int))) (True∧Q (.v (.int .i64) (V.i 4)) []) (iff (decide ((k:Int) > (0:Int))) (0≤(IntKind.i64.wrap ((k:Int) - (1:Int)))∧(IntKind.i64.wrap ((k:Int) - (1:Int)))<x0.length∧cl Zaf [.v (.sl ZA) (((x0.getD ((IntKind.i64.wrap ((k:Int) - (1:Int)))).toNat []).drop 1).headD V.none),.v (.sl ZA) ((((x12.getD k []).drop 0).tail).headD V.none)] [] fun r1 H2=>r1=(.v (.int .i64) (r1.V))∧H2=[]∧iff (decide (r1.V.int≥(0:Int))) (True∧Q (.v (.int .i64) (V.i 4)) []) (K)) (K)))))
  (last:J n→((x0.length≤big→∃ m1,Zaa Q m1 x0 ((x0.length:Int)) 0)))
  (k:Nat) (le0:k≤n) (hj:J k):∃ m0,ZaQ Q m0 x0 x12 (n:Int) ((k:Int)):=by
 exact rangeG0 n hb J (fun m0 i=>ZaQ Q m0 x0 x12 (n:Int) i) (fun m0 i=>ZhG Q m0 x0 x12 (n:Int) i) (fun k hl_ hj_ m_ ih_=>step k hl_ hj_ _ ih_) last k le0 hj
def ZkB (a0:LL) (Q:QD):Prop :=
 (a0.length≤big→iff (decide (((a0.length:Int)) > (64:Int))) (True∧Q (.v (.int .i64) (V.i 3)) []) ((a0.length≤big→∃ m0,ZaQ Q m0 a0 a0 ((a0.length:Int)) 0)))
theorem Zl2 (a0:LL) (Q:QD) (h:ZkB a0 Q):cl Zd5 [.v (.sl Za) (V.l a0)] [] Q :=
 acalls2 (E:=Zk) (envOk _ _ _ _ _) 0 Tryz.func43 (by kernel_rfl) h
def Zoe:Env:=envA [] [] [] [] []
def Zlm (a0_0:ByteArray) (a0_1:Bool) (a0_2:LL) (Q:QD):Prop :=
 cl Zfc [.agg [.v .str (V.s a0_0),.v .bool (V.b a0_1),.v (.sl Zb) (V.l a0_2)]] [] fun r1 H2=>r1=(.v .bool (r1.V))∧H2=[]∧iff (!r1.V.bool) (True∧Q (.v (.int .i64) (V.i 4)) []) (cl Zgg [.agg [.v .str (V.s a0_0),.v .bool (V.b a0_1),.v (.sl Zb) (V.l a0_2)]] [] fun r3 H4=>r3=(.v (.int .i64) (r3.V))∧H4=[]∧iff (decide (r3.V.int > (4000:Int))) (True∧Q (.v (.int .i64) (V.i 3)) []) (cl Zfu [.agg [.v .str (V.s a0_0),.v .bool (V.b a0_1),.v (.sl Zb) (V.l a0_2)]] [] fun r5 H6=>r5=(.v (.int .i64) (r5.V))∧H6=[]∧iff (decide (r5.V.int > (200:Int))) (True∧Q (.v (.int .i64) (V.i 3)) []) (True∧Q (.v (.int .i64) (V.i 0)) [])))
theorem Zo5 (a0_0:ByteArray) (a0_1:Bool) (a0_2:LL) (Q:QD) (h:Zlm a0_0 a0_1 a0_2 Q):cl ZiK [.agg [.v .str (V.s a0_0),.v .bool (V.b a0_1),.v (.sl Zb) (V.l a0_2)]] [] Q :=
 acalls2 (E:=Zoe) (envOk _ _ _ _ _) 0 Tryz.func44 (by kernel_rfl) h
def Zfb:Env:=envA [(3,(.undef 0)::(.undef 2)::(.undef 5)::ua 9 7 ([.dead 5,.dead 14,.plainT 3 Zc]))] [] [] [] []
def Zog (Q:QD):Post:=blockK 0 (seqJ Zfb (fnAt [1,1,1] Tryz.f45) (endK Zfb Tryz.f45 Q))
@[irreducible] def ZeO (Q:QD) (m0:Nat) (x3:V) (x6:LL) (x7 x8:Int):Prop :=
 iter (adj (Zfb.adj 3)) (evCode Zfb (fnAt [1,1,0,1,0,0] Tryz.f45)) (Zog Q) m0 ⟨.undef::.skip::.undef::(.v (.sl Zc) (x3))::.skip::.undef::(.v (.sl Zb) (V.l x6))::(.v (.int .i64) (V.i x7))::(.v (.int .i64) (V.i x8))::un 7 ([.skip]),dd 17 ([])⟩ []
def Zn7 (Q:QD) (m0:Nat) (x3:V) (x6:LL) (x7 x8:Int):Prop :=
 iff (decide (x8<x7)) (0≤x8∧x8<x6.length∧cl Zdx [.agg [.v .str (((x6.getD x8.toNat []).drop 0).headD V.none),.v .bool ((((x6.getD x8.toNat []).drop 0).tail).headD V.none),.v (.sl Zb) (((((x6.getD x8.toNat []).drop 0).tail).tail).headD V.none)],.v (.sl Zc) (x3)] [] fun r1 H2=>r1=(.v (.sl Zc) (r1.V))∧H2=[]∧ZeO Q m0 r1.V x6 x7 (IntKind.i64.wrap (x8+(1:Int)))) (True∧Q (.v (.sl Zc) (x3)) [])
theorem Zmd (Q:QD) (m0:Nat) (x3:V) (x6:LL) (x7 x8:Int):ZeO Q (m0+1) x3 x6 x7 x8=Zn7 Q m0 x3 x6 x7 x8:=by kernel_rfl
theorem Zl6 (Q:QD) (x6:LL) (n:Nat) (hb:n≤big) (J:Nat→V→Prop)
  (step:∀ (k:Nat) (x3:V),k<n→J k x3→∀ K:V→Prop,(∀ (x3':V),J (k+1) x3'→K x3')→(0≤(k:Int)∧(k:Int)<x6.length∧cl Zdx [.agg [.v .str (((x6.getD k []).drop 0).headD V.none),.v .bool ((((x6.getD k []).drop 0).tail).headD V.none),.v (.sl Zb) (((((x6.getD k []).drop 0).tail).tail).headD V.none)],.v (.sl Zc) (x3)] [] fun r1 H2=>r1=(.v (.sl Zc) (r1.V))∧H2=[]∧K r1.V))
  (last:∀ (x3:V),J n x3→(True∧Q (.v (.sl Zc) (x3)) []))
  (k:Nat) (x3:V) (le0:k≤n) (hj:J k x3):∃ m0,ZeO Q m0 x3 x6 (n:Int) ((k:Int)):=by
 exact rangeG1 n hb J (fun m0 i x3=>ZeO Q m0 x3 x6 (n:Int) i) (fun m0 i x3=>Zmd Q m0 x3 x6 (n:Int) i) (fun k x3 hl_ hj_ m_ ih_=>step k x3 hl_ hj_ _ ih_) last k x3 le0 hj
def Zpg (a0:LL) (Q:QD):Prop :=
 (a0.length≤big→∃ m0,ZeO Q m0 (V.l ([])) a0 ((a0.length:Int)) 0)
theorem Zpj (a0:LL) (Q:QD) (h:Zpg a0 Q):cl ZkR [.v (.sl Zb) (V.l a0)] [] Q :=
 acalls2 (E:=Zfb) (envOk _ _ _ _ _) 0 Tryz.func45 (by kernel_rfl) h
def Zfa:Env:=envA [(7,(.undef 1)::ua 3 4 (ua 8 16 (ua 27 8 ([.dead 3,.dead 8,.dead 32]))))] [] [] [] []
def Zn9 (Q:QD):Post:=blockK 0 (seqJ Zfa (fnAt [1,1,1,1] Tryz.f46) (endK Zfa Tryz.f46 Q))
@[irreducible] def Zer (Q:QD) (m0:Nat) (x0 x24:LL) (x25 x26:Int):Prop :=
 iter (adj (Zfa.adj 7)) (evCode Zfa (fnAt [1,1,1,0,1,0,0] Tryz.f46)) (Zn9 Q) m0 ⟨(.v (.sl Zf) (V.l x0))::.undef::.skip::un 4 (.skip::un 16 ((.v (.sl Zb) (V.l x24))::(.v (.int .i64) (V.i x25))::(.v (.int .i64) (V.i x26))::un 8 ([]))),dd 35 ([])⟩ []
def Zn5 (Q:QD) (m0:Nat) (x0 x24:LL) (x25 x26:Int):Prop :=
 iff (decide (x26<x25)) (0≤x26∧x26<x24.length∧cl Zgf [.v (.sl Zf) (V.l x0),.agg [.v .str (((x24.getD x26.toNat []).drop 0).headD V.none),.v .bool ((((x24.getD x26.toNat []).drop 0).tail).headD V.none),.v (.sl Zb) (((((x24.getD x26.toNat []).drop 0).tail).tail).headD V.none)]] [] fun r1 H2=>r1=(.v .bool (r1.V))∧H2=[]∧iff (!r1.V.bool) (True∧Q (.v .bool (V.b false)) []) (Zer Q m0 x0 x24 x25 (IntKind.i64.wrap (x26+(1:Int))))) (True∧Q (.v .bool (V.b true)) [])
theorem Zmi (Q:QD) (m0:Nat) (x0 x24:LL) (x25 x26:Int):Zer Q (m0+1) x0 x24 x25 x26=Zn5 Q m0 x0 x24 x25 x26:=by kernel_rfl
theorem ZlR (Q:QD) (x0 x24:LL) (n:Nat) (hb:n≤big) (J:Nat→Prop)
  (step:∀ (k:Nat),k<n→J k→∀ K:Prop,(J (k+1)→K)→(0≤(k:Int)∧(k:Int)<x24.length∧cl Zgf [.v (.sl Zf) (V.l x0),.agg [.v .str (((x24.getD k []).drop 0).headD V.none),.v .bool ((((x24.getD k []).drop 0).tail).headD V.none),.v (.sl Zb) (((((x24.getD k []).drop 0).tail).tail).headD V.none)]] [] fun r1 H2=>r1=(.v .bool (r1.V))∧H2=[]∧iff (!r1.V.bool) (True∧Q (.v .bool (V.b false)) []) (K)))
  (last:J n→(True∧Q (.v .bool (V.b true)) []))
  (k:Nat) (le0:k≤n) (hj:J k):∃ m0,Zer Q m0 x0 x24 (n:Int) ((k:Int)):=by
 exact rangeG0 n hb J (fun m0 i=>Zer Q m0 x0 x24 (n:Int) i) (fun m0 i=>Zmi Q m0 x0 x24 (n:Int) i) (fun k hl_ hj_ m_ ih_=>step k hl_ hj_ _ ih_) last k le0 hj
def ZmF (a0:LL) (a1_0:ByteArray) (a1_1:Bool) (a1_2:LL) (Q:QD):Prop :=
 iff a1_1 (True∧Q (.v .bool (V.b true)) []) ((a1_2.length≤big→cl Zd8 [.v (.sl Zf) (V.l a0),.v .str (V.s a1_0),.v (.int .i64) (V.i ((a1_2.length:Int)))] [] fun r1 H2=>r1=(.tup [.v (.sl Za) ((r1.parts.headD .undef).V),.v .bool ((r1.parts.tail.headD .undef).V)])∧H2=[]∧iff (!(((r1.parts.tail.headD .undef).V).bool)) (True∧Q (.v .bool (V.b false)) []) ((a1_2.length≤big→∃ m0,Zer Q m0 a0 a1_2 ((a1_2.length:Int)) 0))))
theorem Zpm (a0:LL) (a1_0:ByteArray) (a1_1:Bool) (a1_2:LL) (Q:QD) (h:ZmF a0 a1_0 a1_1 a1_2 Q):cl Zgf [.v (.sl Zf) (V.l a0),.agg [.v .str (V.s a1_0),.v .bool (V.b a1_1),.v (.sl Zb) (V.l a1_2)]] [] Q :=
 acalls2 (E:=Zfa) (envOk _ _ _ _ _) 0 Tryz.func46 (by kernel_rfl) h
def Z0:Env:=envA [(3,(.undef 1)::ua 6 4 (ua 17 2 (ua 22 15 ([.dead 31,.dead 33,.dead 35,.dead 75])))),(10,(.undef 1)::ua 6 4 (ua 12 3 (ua 17 21 (ua 41 17 ((.dead 12)::(.dead 48)::da 55 2 ([.ownT 10 75 Zab])))))),(3000008,(.undef 1)::ua 6 4 (ua 17 20 ([.dead 20,.dead 31,.dead 33,.dead 35,.dead 75])))] [] [] [] [8]
def ZiN (Q:QD):Post:=blockK 0 (seqJ Z0 (fnAt [1,1] Tryz.f47) (endK Z0 Tryz.f47 Q))
def Zi0 (Q:QD):Post:=blockK 2 (seqJ Z0 (fnAt [1,1,1,1] Tryz.f47) (endK Z0 Tryz.f47 Q))
@[irreducible] def ZbD (Q:QD) (m1:Nat) (x0 x2:LL) (x10n:Nat) (x38:LL) (x39 x40:Int) (y4_0:ByteArray) (y4_1:Bool) (y4_2 y75:LL):Prop :=
 iter (adj (Z0.adj 10)) (evCode Z0 (fnAt [1,1,1,0,1,0,0] Tryz.f47)) (Zi0 Q) m1 ⟨(.v (.sl Zf) (V.l x0))::.undef::(.v (.sl Zc) (V.l x2))::.skip::(.ptr (.loc 4) 0)::.skip::un 4 ((.osl (.loc 75) x10n)::.skip::un 3 (sk 2 (un 21 ((.v (.sl Zb) (V.l x38))::(.v (.int .i64) (V.i x39))::(.v (.int .i64) (V.i x40))::un 17 (sk 17 ([])))))),dd 4 ((.cells [.v .str (V.s y4_0),.v .bool (V.b y4_1),.v (.sl Zb) (V.l y4_2)])::dd 70 ([.row Zab y75]))⟩ []
@[irreducible] def Zcl (Q:QD) (x0 x2:LL) (y4_0:ByteArray) (y4_1:Bool) (y4_2:LL):Prop :=
 joinM (evCode Z0 (fnAt [1,1] Tryz.f47)) ⟨(.v (.sl Zf) (V.l x0))::.undef::(.v (.sl Zc) (V.l x2))::.skip::(.ptr (.loc 4) 0)::.skip::un 4 (sk 7 (un 20 (sk 38 ([])))),dd 4 ((.cells [.v .str (V.s y4_0),.v .bool (V.b y4_1),.v (.sl Zb) (V.l y4_2)])::dd 71 ([]))⟩ [] (endK Z0 Tryz.f47 Q)
@[irreducible] def ZbB (Q:QD) (m0:Nat) (x0 x2 x19:LL) (x20 x21:Int) (y4_0:ByteArray) (y4_1:Bool) (y4_2:LL):Prop :=
 iter (adj (Z0.adj 3)) (evCode Z0 (fnAt [1,0,1,0,1,0,0] Tryz.f47)) (ZiN Q) m0 ⟨(.v (.sl Zf) (V.l x0))::.undef::(.v (.sl Zc) (V.l x2))::.skip::(.ptr (.loc 4) 0)::.skip::un 4 (sk 7 (un 2 ((.v (.sl Zc) (V.l x19))::(.v (.int .i64) (V.i x20))::(.v (.int .i64) (V.i x21))::un 15 (sk 38 ([]))))),dd 4 ((.cells [.v .str (V.s y4_0),.v .bool (V.b y4_1),.v (.sl Zb) (V.l y4_2)])::dd 71 ([]))⟩ []
def Zi4 (Q:QD) (m1:Nat) (x0 x2:LL) (x10n:Nat) (x38:LL) (x39 x40:Int) (y4_0:ByteArray) (y4_1:Bool) (y4_2 y75:LL):Prop :=
 iff (decide (x40<x39)) (0≤x40∧x40<x38.length∧cl Zcs [.v (.sl Zf) (V.l x0),.agg [.v .str (((x38.getD x40.toNat []).drop 0).headD V.none),.v .bool ((((x38.getD x40.toNat []).drop 0).tail).headD V.none),.v (.sl Zb) (((((x38.getD x40.toNat []).drop 0).tail).tail).headD V.none)],.v (.sl Zc) (V.l x2)] [] fun r1 H2=>r1=(.tup [.v (.sl Za) ((r1.parts.headD .undef).V),.v .bool ((r1.parts.tail.headD .undef).V)])∧H2=[]∧iff (!(((r1.parts.tail.headD .undef).V).bool)) ((True∧True∧True)∧Q (.tup [.nil,.v .bool (V.b false)]) []) (y75.length=x10n∧x10n+([[(r1.parts.headD .undef).V]]).length≤lim∧ZbD Q m1 x0 x2 (x10n+([[(r1.parts.headD .undef).V]]).length) x38 x39 (IntKind.i64.wrap (x40+(1:Int))) y4_0 y4_1 y4_2 (y75++([[(r1.parts.headD .undef).V]])))) ((y4_2.length≤big→cl Zd8 [.v (.sl Zf) (V.l x0),.v .str (V.s y4_0),.v (.int .i64) (V.i ((y4_2.length:Int)))] [] fun r3 H4=>r3=(.tup [.v (.sl Za) ((r3.parts.headD .undef).V),.v .bool ((r3.parts.tail.headD .undef).V)])∧H4=[]∧(x2.length≤big→cl ZfU [.v (.sl Za) ((r3.parts.headD .undef).V),.osl (.own 0) x10n,.v (.int .i64) (V.i ((x2.length:Int)))] [.row Zab y75] fun r5 H6=>r5=(.tup [.v (.sl Za) ((r5.parts.headD .undef).V),.v .bool ((r5.parts.tail.headD .undef).V)])∧H6=[.row Zab ((H6.headD .dead).xs)]∧(True∧True∧True)∧Q (.tup [.v (.sl Za) ((r5.parts.headD .undef).V),.v .bool ((r5.parts.tail.headD .undef).V)]) [])))
theorem ZhI (Q:QD) (m1:Nat) (x0 x2:LL) (x10n:Nat) (x38:LL) (x39 x40:Int) (y4_0:ByteArray) (y4_1:Bool) (y4_2 y75:LL):ZbD Q (m1+1) x0 x2 x10n x38 x39 x40 y4_0 y4_1 y4_2 y75=Zi4 Q m1 x0 x2 x10n x38 x39 x40 y4_0 y4_1 y4_2 y75:=by kernel_rfl
theorem Zg6 (Q:QD) (x0 x2 x38:LL) (y4_0:ByteArray) (y4_1:Bool) (y4_2:LL) (n:Nat) (hb:n≤big) (J:Nat→Nat→LL→Prop)
  (step:∀ (k:Nat) (x10n:Nat) (y75:LL),k<n→J k x10n y75→∀ K:Nat→LL→Prop,(∀ (x10n':Nat) (y75':LL),J (k+1) x10n' y75'→K x10n' y75')→(0≤(k:Int)∧(k:Int)<x38.length∧cl Zcs [.v (.sl Zf) (V.l x0),.agg [.v .str (((x38.getD k []).drop 0).headD V.none),.v .bool ((((x38.getD k []).drop 0).tail).headD V.none),.v (.sl Zb) (((((x38.getD k []).drop 0).tail).tail).headD V.none)],.v (.sl Zc) (V.l x2)] [] fun r1 H2=>r1=(.tup [.v (.sl Za) ((r1.parts.headD .undef).V),.v .bool ((r1.parts.tail.headD .undef).V)])∧H2=[]∧iff (!(((r1.parts.tail.headD .undef).V).bool)) ((True∧True∧True)∧Q (.tup [.nil,.v .bool (V.b false)]) []) (y75.length=x10n∧x10n+([[(r1.parts.headD .undef).V]]).length≤lim∧K (x10n+([[(r1.parts.headD .undef).V]]).length) (y75++([[(r1.parts.headD .undef).V]])))))
  (last:∀ (x10n:Nat) (y75:LL),J n x10n y75→((y4_2.length≤big→cl Zd8 [.v (.sl Zf) (V.l x0),.v .str (V.s y4_0),.v (.int .i64) (V.i ((y4_2.length:Int)))] [] fun r3 H4=>r3=(.tup [.v (.sl Za) ((r3.parts.headD .undef).V),.v .bool ((r3.parts.tail.headD .undef).V)])∧H4=[]∧(x2.length≤big→cl ZfU [.v (.sl Za) ((r3.parts.headD .undef).V),.osl (.own 0) x10n,.v (.int .i64) (V.i ((x2.length:Int)))] [.row Zab y75] fun r5 H6=>r5=(.tup [.v (.sl Za) ((r5.parts.headD .undef).V),.v .bool ((r5.parts.tail.headD .undef).V)])∧H6=[.row Zab ((H6.headD .dead).xs)]∧(True∧True∧True)∧Q (.tup [.v (.sl Za) ((r5.parts.headD .undef).V),.v .bool ((r5.parts.tail.headD .undef).V)]) []))))
  (k:Nat) (x10n:Nat) (y75:LL) (le0:k≤n) (hj:J k x10n y75):∃ m1,ZbD Q m1 x0 x2 x10n x38 (n:Int) ((k:Int)) y4_0 y4_1 y4_2 y75:=by
 exact rangeG2 n hb J (fun m1 i x10n y75=>ZbD Q m1 x0 x2 x10n x38 (n:Int) i y4_0 y4_1 y4_2 y75) (fun m1 i x10n y75=>ZhI Q m1 x0 x2 x10n x38 (n:Int) i y4_0 y4_1 y4_2 y75) (fun k x10n y75 hl_ hj_ m_ ih_=>step k x10n y75 hl_ hj_ _ ih_) last k x10n y75 le0 hj
def Zfv (Q:QD) (x0 x2:LL) (y4_0:ByteArray) (y4_1:Bool) (y4_2:LL):Prop :=
 (y4_2.length≤big→∃ m1,ZbD Q m1 x0 x2 0 y4_2 ((y4_2.length:Int)) 0 y4_0 y4_1 y4_2 (([]:List (List V))))
theorem Zhl (Q:QD) (x0 x2:LL) (y4_0:ByteArray) (y4_1:Bool) (y4_2:LL):Zcl Q x0 x2 y4_0 y4_1 y4_2=Zfv Q x0 x2 y4_0 y4_1 y4_2:=by kernel_rfl
def ZiV (Q:QD) (m0:Nat) (x0 x2 x19:LL) (x20 x21:Int) (y4_0:ByteArray) (y4_1:Bool) (y4_2:LL):Prop :=
 iff (decide (x21<x20)) (0≤x21∧x21<x19.length∧iff (((((x19.getD x21.toNat []).drop 0).headD V.none).str).toList == y4_0.toList) ((x2.length≤big→cl Zgm [.v (.int .i64) (V.i ((x2.length:Int))),.v (.int .i64) (V.i x21)] [] fun r1 H2=>r1=(.v (.sl ZA) (r1.V))∧H2=[]∧(True∧True∧True)∧Q (.tup [.v (.sl Za) (V.l ([[V.i 1,r1.V]])),.v .bool (V.b true)]) [])) (ZbB Q m0 x0 x2 x19 x20 (IntKind.i64.wrap (x21+(1:Int))) y4_0 y4_1 y4_2)) (Zcl Q x0 x2 y4_0 y4_1 y4_2)
theorem ZhF (Q:QD) (m0:Nat) (x0 x2 x19:LL) (x20 x21:Int) (y4_0:ByteArray) (y4_1:Bool) (y4_2:LL):ZbB Q (m0+1) x0 x2 x19 x20 x21 y4_0 y4_1 y4_2=ZiV Q m0 x0 x2 x19 x20 x21 y4_0 y4_1 y4_2:=by kernel_rfl
theorem ZgY (Q:QD) (x0 x2 x19:LL) (y4_0:ByteArray) (y4_1:Bool) (y4_2:LL) (n:Nat) (hb:n≤big) (J:Nat→Prop)
  (step:∀ (k:Nat),k<n→J k→∀ K:Prop,(J (k+1)→K)→(0≤(k:Int)∧(k:Int)<x19.length∧iff (((((x19.getD k []).drop 0).headD V.none).str).toList == y4_0.toList) ((x2.length≤big→cl Zgm [.v (.int .i64) (V.i ((x2.length:Int))),.v (.int .i64) (V.i (k:Int))] [] fun r1 H2=>r1=(.v (.sl ZA) (r1.V))∧H2=[]∧(True∧True∧True)∧Q (.tup [.v (.sl Za) (V.l ([[V.i 1,r1.V]])),.v .bool (V.b true)]) [])) (K)))
  (last:J n→(Zcl Q x0 x2 y4_0 y4_1 y4_2))
  (k:Nat) (le0:k≤n) (hj:J k):∃ m0,ZbB Q m0 x0 x2 x19 (n:Int) ((k:Int)) y4_0 y4_1 y4_2:=by
 exact rangeG0 n hb J (fun m0 i=>ZbB Q m0 x0 x2 x19 (n:Int) i y4_0 y4_1 y4_2) (fun m0 i=>ZhF Q m0 x0 x2 x19 (n:Int) i y4_0 y4_1 y4_2) (fun k hl_ hj_ m_ ih_=>step k hl_ hj_ _ ih_) last k le0 hj
def Zgq (a0:LL) (a1_0:ByteArray) (a1_1:Bool) (a1_2 a2:LL) (Q:QD):Prop :=
 iff a1_1 ((a2.length≤big→∃ m0,ZbB Q m0 a0 a2 a2 ((a2.length:Int)) 0 a1_0 a1_1 a1_2)) (Zcl Q a0 a2 a1_0 a1_1 a1_2)
theorem Zl9 (a0:LL) (a1_0:ByteArray) (a1_1:Bool) (a1_2 a2:LL) (Q:QD) (h:Zgq a0 a1_0 a1_1 a1_2 a2 Q):cl Zcs [.v (.sl Zf) (V.l a0),.agg [.v .str (V.s a1_0),.v .bool (V.b a1_1),.v (.sl Zb) (V.l a1_2)],.v (.sl Zc) (V.l a2)] [] Q :=
 acalls2 (E:=Z0) (envOk _ _ _ _ _) 1 Tryz.func47 (by kernel_rfl) h
def Zlv:Env:=envA [] [] [] [] []
def Zhv (a0:ByteArray) (Q:QD):Prop :=
 (True∧True∧True∧True)∧Q (.agg [.v .str (V.s a0),.v .bool (V.b true),.nil]) []
theorem Zm5 (a0:ByteArray) (Q:QD) (h:Zhv a0 Q):cl Ze7 [.v .str (V.s a0)] [] Q :=
 acalls2 (E:=Zlv) (envOk _ _ _ _ _) 0 Tryz.func48 (by kernel_rfl) h
def Znz:Env:=envA [] [] [] [] []
def Zjr (a0:ByteArray) (a1:LL) (Q:QD):Prop :=
 (True∧True∧True∧True)∧Q (.agg [.v .str (V.s a0),.v .bool (V.b false),.v (.sl Zb) (V.l a1)]) []
theorem Zou (a0:ByteArray) (a1:LL) (Q:QD) (h:Zjr a0 a1 Q):cl Zef [.v .str (V.s a0),.v (.sl Zb) (V.l a1)] [] Q :=
 acalls2 (E:=Znz) (envOk _ _ _ _ _) 0 Tryz.func49 (by kernel_rfl) h
def ZmH:Env:=envA [] [] [] [] []
def ZnE (Q:QD):Prop :=
 True∧Q (.v (.sl Zf) (V.l ([[V.s (ByteArray.mk #[97,100,100]),V.l ([[V.i 1,V.l ([[V.i 0],[V.i 0]])],[V.i 1,V.l ([[V.i 0],[V.i 1]])],[V.i 2,V.l ([[V.i 1],[V.i 0]])]])],[V.s (ByteArray.mk #[115]),V.l ([[V.i 1,V.l ([[V.i 0]])],[V.i 1,V.l ([[V.i 1]])]])]]))) []
theorem Zoo (Q:QD) (h:ZnE Q):cl Zfo [] [] Q :=
 acalls2 (E:=ZmH) (envOk _ _ _ _ _) 0 Tryz.func50 (by kernel_rfl) h
def Zbz:Env:=envA [(2,ua 4 6 (ua 12 21 ([.dead 31])))] [(4,8,[],[]),(5,8,[],[])] [] [] []
def Zij (Q:QD):Post:=blockK 0 (seqJ Zbz (fnAt [1,1] Tryz.f51) (endK Zbz Tryz.f51 Q))
@[irreducible] def Zbb (Q:QD) (m0:Nat) (x0 x1:LL) (x10 x11:Int):Prop :=
 iter (adj (Zbz.adj 2)) (evCode Zbz (fnAt [1,0,1,0,0] Tryz.f51)) (Zij Q) m0 ⟨(.v (.sl ZA) (V.l x0))::(.v (.sl ZA) (V.l x1))::sk 2 (un 6 ((.v (.int .i64) (V.i x10))::(.v (.int .i64) (V.i x11))::un 21 (sk 5 ([])))),dd 38 ([])⟩ []
def Ziw (Q:QD) (m0:Nat) (x0 x1:LL) (x10 x11:Int):Prop :=
 iff (decide (x11<x10)) (0≤x11∧x11<x0.length∧0≤x11∧x11<x1.length∧iff (((((x0.getD x11.toNat []).drop 0).headD V.none).int) != ((((x1.getD x11.toNat []).drop 0).headD V.none).int)) (0≤x11∧x11<x0.length∧0≤x11∧x11<x1.length∧cl Zah [.v (.int .i64) (((x0.getD x11.toNat []).drop 0).headD V.none),.v (.int .i64) (((x1.getD x11.toNat []).drop 0).headD V.none)] [] fun r1 H2=>r1=(.v (.int .i64) (r1.V))∧H2=[]∧True∧Q (.v (.int .i64) (r1.V)) []) (Zbb Q m0 x0 x1 x10 (IntKind.i64.wrap (x11+(1:Int))))) ((x0.length≤big→(x1.length≤big→cl Zah [.v (.int .i64) (V.i ((x0.length:Int))),.v (.int .i64) (V.i ((x1.length:Int)))] [] fun r3 H4=>r3=(.v (.int .i64) (r3.V))∧H4=[]∧True∧Q (.v (.int .i64) (r3.V)) [])))
theorem Zg3 (Q:QD) (m0:Nat) (x0 x1:LL) (x10 x11:Int):Zbb Q (m0+1) x0 x1 x10 x11=Ziw Q m0 x0 x1 x10 x11:=by kernel_rfl
theorem Zgu (Q:QD) (x0 x1:LL) (n:Nat) (hb:n≤big) (J:Nat→Prop)
  (step:∀ (k:Nat),k<n→J k→∀ K:Prop,(J (k+1)→K)→(0≤(k:Int)∧(k:Int)<x0.length∧0≤(k:Int)∧(k:Int)<x1.length∧iff (((((x0.getD k []).drop 0).headD V.none).int) != ((((x1.getD k []).drop 0).headD V.none).int)) (0≤(k:Int)∧(k:Int)<x0.length∧0≤(k:Int)∧(k:Int)<x1.length∧cl Zah [.v (.int .i64) (((x0.getD k []).drop 0).headD V.none),.v (.int .i64) (((x1.getD k []).drop 0).headD V.none)] [] fun r1 H2=>r1=(.v (.int .i64) (r1.V))∧H2=[]∧True∧Q (.v (.int .i64) (r1.V)) []) (K)))
  (last:J n→((x0.length≤big→(x1.length≤big→cl Zah [.v (.int .i64) (V.i ((x0.length:Int))),.v (.int .i64) (V.i ((x1.length:Int)))] [] fun r3 H4=>r3=(.v (.int .i64) (r3.V))∧H4=[]∧True∧Q (.v (.int .i64) (r3.V)) []))))
  (k:Nat) (le0:k≤n) (hj:J k):∃ m0,Zbb Q m0 x0 x1 (n:Int) ((k:Int)):=by
 exact rangeG0 n hb J (fun m0 i=>Zbb Q m0 x0 x1 (n:Int) i) (fun m0 i=>Zg3 Q m0 x0 x1 (n:Int) i) (fun k hl_ hj_ m_ ih_=>step k hl_ hj_ _ ih_) last k le0 hj
def ZjZ (a0 a1:LL) (Q:QD):Prop :=
 (a0.length≤big→(a1.length≤big→∃ m0,Zbb Q m0 a0 a1 (if ((a1.length:Int))<((a0.length:Int)) then ((a1.length:Int)) else ((a0.length:Int))) 0))
theorem ZkM (a0 a1:LL) (Q:QD) (h:ZjZ a0 a1 Q):cl Zaf [.v (.sl ZA) (V.l a0),.v (.sl ZA) (V.l a1)] [] Q :=
 acalls2 (E:=Zbz) (envOk _ _ _ _ _) 0 Tryz.func51 (by kernel_rfl) h
def ZbI:Env:=envA [(10,ua 0 3 (ua 4 2 ((.undef 8)::(.undef 10)::ua 13 13 (ua 27 9 ((.undef 37)::da 4 2 ([]))))))] [] [] [] []
@[irreducible] def Zby (Q:QD) (zx38_0:List V) (zy6_0 zy7_0:Int) (zy9_0 zy11_0:V) (q0_0 q1_0:Int) (q2_0 q3_0:V) (mm:Nat) (rows:LL):Prop :=
 rangeS (evCode ZbI (fnAt [1,1,1,1,1,1,0,1,0,0] Tryz.f52)) (evCode ZbI (fnAt [1,1,1,1,1,1,0,1,0,1] Tryz.f52)) [39] (rowA 154) [.cells [.v (.int .i64) (V.i zy6_0)],.cells [.v (.int .i64) (V.i zy7_0)],.cells [.v (.mp Ze) (zy9_0)],.cells [.v (.mp Ze) (zy11_0)]] (un 3 (.skip::un 2 ((.ptr (.own 0) 0)::(.ptr (.own 1) 0)::.undef::(.ptr (.own 2) 0)::.undef::(.ptr (.own 3) 0)::.skip::un 13 (.skip::un 9 (.skip::.undef::(.fn ZR [.elt Zl zx38_0 0])::sk 14 ([])))))) (dd 53 []) (outR ZbI [.loc 6,.loc 7,.loc 9,.loc 11] ⟨un 3 (.skip::un 2 ((.ptr (.loc 6) 0)::(.ptr (.loc 7) 0)::.undef::(.ptr (.loc 9) 0)::.undef::(.ptr (.loc 11) 0)::.skip::un 13 (.skip::un 9 (.skip::.undef::(.fn ZR [.elt Zl zx38_0 0])::sk 14 ([]))))),dd 6 ((.cells [.v (.int .i64) (V.i zy6_0)])::(.cells [.v (.int .i64) (V.i zy7_0)])::.dead::(.cells [.v (.mp Ze) (zy9_0)])::.dead::(.cells [.v (.mp Ze) (zy11_0)])::dd 41 ([]))⟩ [] (blockK 0 (seqJ ZbI (fnAt [1,1,1,1,1,1,1] Tryz.f52) (endK ZbI Tryz.f52 Q)))) mm rows [.cells [.v (.int .i64) (V.i q0_0)],.cells [.v (.int .i64) (V.i q1_0)],.cells [.v (.mp Ze) (q2_0)],.cells [.v (.mp Ze) (q3_0)]]
theorem ZjS (Q:QD) (zx38_0:List V) (zy6_0 zy7_0:Int) (zy9_0 zy11_0:V) (q0_0 q1_0:Int) (q2_0 q3_0:V) (rows:LL):Zby Q zx38_0 zy6_0 zy7_0 zy9_0 zy11_0 q0_0 q1_0 q2_0 q3_0 0 rows=(cl Zbf [.v (.int .u64) ((mget [.str] [V.i 0] [V.s (ByteArray.mk #[])] q2_0.list).headD V.none),.v (.int .u64) ((mget [.str] [V.i 0] [V.s (ByteArray.mk #[])] q3_0.list).headD V.none)] [] fun r1 H2=>r1=(.v (.int .i64) (r1.V))∧H2=[]∧(True∧True∧True)∧Q (.tup [.v (.int .i64) (V.i (IntKind.i64.wrap ((1:Int)+r1.V.int))),.v (.int .i64) (V.i 0)]) []):=by kernel_rfl
theorem Zjz (Q:QD) (zx38_0:List V) (zy6_0 zy7_0:Int) (zy9_0 zy11_0:V) (q0_0 q1_0:Int) (q2_0 q3_0:V) (mm:Nat) (rows:LL):Zby Q zx38_0 zy6_0 zy7_0 zy9_0 zy11_0 q0_0 q1_0 q2_0 q3_0 (mm+1) rows=(∀ i:Nat,i<rows.length→(iff (decide ((((mget [.str] [V.i 0] [((rows.getD i [])).headD V.none] q2_0.list).headD V.none).int)<(((mget [.str] [V.i 0] [((rows.getD i [])).headD V.none] q3_0.list).headD V.none).int))) ((True∧True∧True)∧Q (.tup [.v (.int .i64) (V.i 0),.v (.int .i64) (V.i 0)]) []) (Zby Q zx38_0 zy6_0 zy7_0 zy9_0 zy11_0 q0_0 q1_0 q2_0 q3_0 mm (rows.eraseIdx i)))):=by kernel_rfl
theorem ZiW (Q:QD) (zx38_0:List V) (zy6_0 zy7_0:Int) (zy9_0 zy11_0:V) (J:LL→Int→Int→V→V→Prop)
  (step:∀ (rows:LL) (q0_0 q1_0:Int) (q2_0 q3_0:V),J rows q0_0 q1_0 q2_0 q3_0→∀ i:Nat,i<rows.length→∀ K:Int→Int→V→V→Prop,(∀ (q0_0' q1_0':Int) (q2_0' q3_0':V),J (rows.eraseIdx i) q0_0' q1_0' q2_0' q3_0'→K q0_0' q1_0' q2_0' q3_0')→(iff (decide ((((mget [.str] [V.i 0] [((rows.getD i [])).headD V.none] q2_0.list).headD V.none).int)<(((mget [.str] [V.i 0] [((rows.getD i [])).headD V.none] q3_0.list).headD V.none).int))) ((True∧True∧True)∧Q (.tup [.v (.int .i64) (V.i 0),.v (.int .i64) (V.i 0)]) []) (K q0_0 q1_0 q2_0 q3_0)))
  (last:∀ (q0_0 q1_0:Int) (q2_0 q3_0:V),J [] q0_0 q1_0 q2_0 q3_0→(cl Zbf [.v (.int .u64) ((mget [.str] [V.i 0] [V.s (ByteArray.mk #[])] q2_0.list).headD V.none),.v (.int .u64) ((mget [.str] [V.i 0] [V.s (ByteArray.mk #[])] q3_0.list).headD V.none)] [] fun r1 H2=>r1=(.v (.int .i64) (r1.V))∧H2=[]∧(True∧True∧True)∧Q (.tup [.v (.int .i64) (V.i (IntKind.i64.wrap ((1:Int)+r1.V.int))),.v (.int .i64) (V.i 0)]) []))
  : ∀ (mm:Nat) (rows:LL) (q0_0 q1_0:Int) (q2_0 q3_0:V),mm=rows.length→J rows q0_0 q1_0 q2_0 q3_0→Zby Q zx38_0 zy6_0 zy7_0 zy9_0 zy11_0 q0_0 q1_0 q2_0 q3_0 mm rows:=by
 intro mm
 induction mm with
 | zero=>intro rows q0_0 q1_0 q2_0 q3_0 hl h; rw [ZjS]; exact last q0_0 q1_0 q2_0 q3_0 (List.eq_nil_of_length_eq_zero hl.symm▸h)
 | succ mm ih=>intro rows q0_0 q1_0 q2_0 q3_0 hl h; rw [Zjz]; intro i hi; exact step rows q0_0 q1_0 q2_0 q3_0 h i hi (fun q0_0 q1_0 q2_0 q3_0=>Zby Q zx38_0 zy6_0 zy7_0 zy9_0 zy11_0 q0_0 q1_0 q2_0 q3_0 mm (rows.eraseIdx i)) (fun q0_0 q1_0 q2_0 q3_0=>ih (rows.eraseIdx i) q0_0 q1_0 q2_0 q3_0 (by rw [List.length_eraseIdx_of_lt hi]; omega))
def ZhT (a0:LL) (a1_0:ByteArray) (a1_1:Bool) (a1_2:LL) (a2_0:ByteArray) (a2_1:Bool) (a2_2:LL) (Q:QD):Prop :=
 cl Z3 [.v (.sl Zb) (V.l ([[V.s a1_0,V.b a1_1,V.l a1_2],[V.s a2_0,V.b a2_1,V.l a2_2]]))] [] fun r1 H2=>r1=(.v (.sl Zc) (r1.V))∧H2=[]∧cl Zw [.v (.sl Zf) (V.l a0),.agg [.v .str (V.s a1_0),.v .bool (V.b a1_1),.v (.sl Zb) (V.l a1_2)],.v (.sl Zc) (r1.V)] [] fun r3 H4=>r3=(.tup [.v (.mp Ze) ((r3.parts.headD .undef).V),.v (.int .i64) ((r3.parts.tail.headD .undef).V)])∧H4=[]∧iff ((((r3.parts.tail.headD .undef).V).int) != (0:Int)) ((True∧True∧True)∧Q (.tup [.v (.int .i64) (V.i 0),.v (.int .i64) ((r3.parts.tail.headD .undef).V)]) []) (cl Zw [.v (.sl Zf) (V.l a0),.agg [.v .str (V.s a2_0),.v .bool (V.b a2_1),.v (.sl Zb) (V.l a2_2)],.v (.sl Zc) (r1.V)] [] fun r5 H6=>r5=(.tup [.v (.mp Ze) ((r5.parts.headD .undef).V),.v (.int .i64) ((r5.parts.tail.headD .undef).V)])∧H6=[]∧iff ((((r5.parts.tail.headD .undef).V).int) != (0:Int)) ((True∧True∧True)∧Q (.tup [.v (.int .i64) (V.i 0),.v (.int .i64) ((r5.parts.tail.headD .undef).V)]) []) (cl ZbP [.v (.mp Ze) ((r5.parts.headD .undef).V)] [] fun r7 H8=>r7=(.fn ZR [.elt Zl ((r7.capsOf.headD .undef).eltOf) 0])∧H8=[]∧∃ rows:LL,itA 154 [.elt Zl ((r7.capsOf.headD .undef).eltOf) 0] rows∧Zby Q ((r7.capsOf.headD .undef).eltOf) 0 0 ((r3.parts.headD .undef).V) ((r5.parts.headD .undef).V) 0 0 ((r3.parts.headD .undef).V) ((r5.parts.headD .undef).V) rows.length rows))
theorem ZnC (a0:LL) (a1_0:ByteArray) (a1_1:Bool) (a1_2:LL) (a2_0:ByteArray) (a2_1:Bool) (a2_2:LL) (Q:QD) (h:ZhT a0 a1_0 a1_1 a1_2 a2_0 a2_1 a2_2 Q):cl ZV [.v (.sl Zf) (V.l a0),.agg [.v .str (V.s a1_0),.v .bool (V.b a1_1),.v (.sl Zb) (V.l a1_2)],.agg [.v .str (V.s a2_0),.v .bool (V.b a2_1),.v (.sl Zb) (V.l a2_2)]] [] Q :=
 acalls2 (E:=ZbI) (envOk _ _ _ _ _) 0 Tryz.func52 (by kernel_rfl) h
def ZlQ:Env:=envA [] [] [] [] []
def Zhe (a0:LL) (Q:QD):Prop :=
 cl Z2 [.v (.sl ZY) (V.l a0),.fn Zad []] [] fun r1 H2=>r1=(.v .bool (r1.V))∧H2=[]∧iff r1.V.bool (True∧Q (.v (.int .i64) (V.i 4)) []) (cl Z2 [.v (.sl ZY) (V.l a0),.fn Zae []] [] fun r3 H4=>r3=(.v .bool (r3.V))∧H4=[]∧iff r3.V.bool (True∧Q (.v (.int .i64) (V.i 2)) []) (True∧Q (.v (.int .i64) (V.i 0)) []))
theorem Zm9 (a0:LL) (Q:QD) (h:Zhe a0 Q):cl Zf4 [.v (.sl ZY) (V.l a0)] [] Q :=
 acalls2 (E:=ZlQ) (envOk _ _ _ _ _) 0 Tryz.func55 (by kernel_rfl) h
def ZaG:Env:=envA [(7,ua 0 2 (ua 4 4 (ua 10 10 ((.undef 39)::ua 42 15 ((.dead 11)::(.dead 46)::da 54 2 ([.ownT 9 58 Za]))))))] [(4,15,[],[])] [] [(11,[⟨11,1,46⟩])] []
def Zgh (Q:QD):Post:=blockK 0 (seqJ ZaG (fnAt [1,1,1,1,1] Tryz.f56) (endK ZaG Tryz.f56 Q))
@[irreducible] def Zax (Q:QD) (m0:Nat) (x9n:Nat) (x40 x41:Int) (y3_0:ByteArray) (y3_1:Int) (y58:LL):Prop :=
 iter (adj (ZaG.adj 7)) (evCode ZaG (fnAt [1,1,1,1,0,1,0,0] Tryz.f56)) (Zgh Q) m0 ⟨un 2 (.skip::(.ptr (.loc 3) 0)::un 4 (.skip::(.osl (.loc 58) x9n)::un 10 (sk 19 (.undef::(.v (.int .i64) (V.i x40))::(.v (.int .i64) (V.i x41))::un 15 ([.skip]))))),dd 3 ((.cells [.v .str (V.s y3_0),.v (.int .i64) (V.i y3_1)])::dd 54 ([.row Za y58]))⟩ []
def Zgb (Q:QD) (m0:Nat) (x9n:Nat) (x40 x41:Int) (y3_0:ByteArray) (y3_1:Int) (y58:LL):Prop :=
 iff (decide (x41<x40)) (0≤y3_1∧y3_1=y3_1∧y3_1≤lim∧(zeroRow [.int .i64] y3_1.toNat).length=y3_1.toNat∧0≤x41∧x41<y3_1.toNat∧(zeroRow [.int .i64] y3_1.toNat).length=y3_1.toNat∧x41.toNat<y3_1.toNat∧y3_1.toNat=((zeroRow [.int .i64] y3_1.toNat).set x41.toNat (setV ((zeroRow [.int .i64] y3_1.toNat).getD x41.toNat []) 0 [V.i 1])).length∧y58.length=x9n∧x9n+([[V.i 1,V.l ((zeroRow [.int .i64] y3_1.toNat).set x41.toNat (setV ((zeroRow [.int .i64] y3_1.toNat).getD x41.toNat []) 0 [V.i 1]))]]).length≤lim∧Zax Q m0 (x9n+([[V.i 1,V.l ((zeroRow [.int .i64] y3_1.toNat).set x41.toNat (setV ((zeroRow [.int .i64] y3_1.toNat).getD x41.toNat []) 0 [V.i 1]))]]).length) x40 (IntKind.i64.wrap (x41+(1:Int))) y3_0 y3_1 (y58++([[V.i 1,V.l ((zeroRow [.int .i64] y3_1.toNat).set x41.toNat (setV ((zeroRow [.int .i64] y3_1.toNat).getD x41.toNat []) 0 [V.i 1]))]]))) (((x9n=y58.length)∧True∧True)∧Q (.tup [.v (.sl Za) (V.l y58),.v .bool (V.b true)]) [])
theorem ZfI (Q:QD) (m0:Nat) (x9n:Nat) (x40 x41:Int) (y3_0:ByteArray) (y3_1:Int) (y58:LL):Zax Q (m0+1) x9n x40 x41 y3_0 y3_1 y58=Zgb Q m0 x9n x40 x41 y3_0 y3_1 y58:=by kernel_rfl
theorem ZfD (Q:QD) (y3_0:ByteArray) (y3_1:Int) (n:Nat) (hb:n≤big) (J:Nat→Nat→LL→Prop)
  (step:∀ (k:Nat) (x9n:Nat) (y58:LL),k<n→J k x9n y58→∀ K:Nat→LL→Prop,(∀ (x9n':Nat) (y58':LL),J (k+1) x9n' y58'→K x9n' y58')→(0≤y3_1∧y3_1=y3_1∧y3_1≤lim∧(zeroRow [.int .i64] y3_1.toNat).length=y3_1.toNat∧0≤(k:Int)∧(k:Int)<y3_1.toNat∧(zeroRow [.int .i64] y3_1.toNat).length=y3_1.toNat∧k<y3_1.toNat∧y3_1.toNat=((zeroRow [.int .i64] y3_1.toNat).set k (setV ((zeroRow [.int .i64] y3_1.toNat).getD k []) 0 [V.i 1])).length∧y58.length=x9n∧x9n+([[V.i 1,V.l ((zeroRow [.int .i64] y3_1.toNat).set k (setV ((zeroRow [.int .i64] y3_1.toNat).getD k []) 0 [V.i 1]))]]).length≤lim∧K (x9n+([[V.i 1,V.l ((zeroRow [.int .i64] y3_1.toNat).set k (setV ((zeroRow [.int .i64] y3_1.toNat).getD k []) 0 [V.i 1]))]]).length) (y58++([[V.i 1,V.l ((zeroRow [.int .i64] y3_1.toNat).set k (setV ((zeroRow [.int .i64] y3_1.toNat).getD k []) 0 [V.i 1]))]]))))
  (last:∀ (x9n:Nat) (y58:LL),J n x9n y58→(((x9n=y58.length)∧True∧True)∧Q (.tup [.v (.sl Za) (V.l y58),.v .bool (V.b true)]) []))
  (k:Nat) (x9n:Nat) (y58:LL) (le0:k≤n) (hj:J k x9n y58):∃ m0,Zax Q m0 x9n (n:Int) ((k:Int)) y3_0 y3_1 y58:=by
 exact rangeG2 n hb J (fun m0 i x9n y58=>Zax Q m0 x9n (n:Int) i y3_0 y3_1 y58) (fun m0 i x9n y58=>ZfI Q m0 x9n (n:Int) i y3_0 y3_1 y58) (fun k x9n y58 hl_ hj_ m_ ih_=>step k x9n y58 hl_ hj_ _ ih_) last k x9n y58 le0 hj
def ZeT (a0:LL) (a1_0:ByteArray) (a1_1:Int) (Q:QD):Prop :=
 cl Zaq [.v (.sl Zf) (V.l a0),.v .str (V.s a1_0),.fn ZX []] [] fun r1 H2=>r1=(.tup [.v (.int .i64) ((r1.parts.headD .undef).V),.v .bool ((r1.parts.tail.headD .undef).V)])∧H2=[]∧iff (((r1.parts.tail.headD .undef).V).bool) (0≤(((r1.parts.headD .undef).V).int)∧(((r1.parts.headD .undef).V).int)<a0.length∧iff (((((((a0.getD ((((r1.parts.headD .undef).V).int)).toNat []).drop 1).headD V.none).list).length:Int)) == (0:Int)) ((True∧True∧True)∧Q (.tup [.v (.sl Za) (((a0.getD ((((r1.parts.headD .undef).V).int)).toNat []).drop 1).headD V.none),.v .bool (V.b true)]) []) (0≤(0:Int)∧(0:Int)<((((a0.getD ((((r1.parts.headD .undef).V).int)).toNat []).drop 1).headD V.none).list).length∧(True∧True∧True)∧Q (.tup [.v (.sl Za) (((a0.getD ((((r1.parts.headD .undef).V).int)).toNat []).drop 1).headD V.none),.v .bool (V.b (((((((((((a0.getD ((((r1.parts.headD .undef).V).int)).toNat []).drop 1).headD V.none).list).getD ((0:Int)).toNat []).drop 1).headD V.none).list).length:Int)) == a1_1))]) [])) (∃ m0,Zax Q m0 0 a1_1 0 a1_0 a1_1 (([]:List (List V))))
theorem ZhM (a0:LL) (a1_0:ByteArray) (a1_1:Int) (Q:QD) (h:ZeT a0 a1_0 a1_1 Q):cl ZB [.v (.sl Zf) (V.l a0),.agg [.v .str (V.s a1_0),.v (.int .i64) (V.i a1_1)]] [] Q :=
 acalls2 (E:=ZaG) (envOk _ _ _ _ _) 1 Tryz.func56 (by kernel_rfl) h
def Zcr:Env:=envA [] [] [] [] []
def ZaO (a0:LL) (h0_0:Int) (Q:QD):Prop :=
 cl ZM [.v (.sl Za) (V.l a0),.fn Z7 [.ptr (.own 0) 0]] [.cells [.v (.int .i64) (V.i h0_0)]] fun r1 H2=>r1=(.v (.int .i64) (r1.V))∧H2=[.cells [.v (.int .i64) ((((H2.headD .dead).cs).headD .undef).V)]]∧True∧Q (.v .bool (V.b (decide (r1.V.int≥(0:Int))))) [.cells [.v (.int .i64) ((((H2.headD .dead).cs).headD .undef).V)]]
theorem ZcS (a0:LL) (h0_0:Int) (Q:QD) (h:ZaO a0 h0_0 Q):cl Zq [.v (.sl Za) (V.l a0),.fn Z7 [.ptr (.own 0) 0]] [.cells [.v (.int .i64) (V.i h0_0)]] Q :=
 acalls2 (E:=Zcr) (envOk _ _ _ _ _) 0 Tryz.func57 (by kernel_rfl) h
def Z8:Env:=envA [(4,ua 4 6 (ua 13 27 ((.dead 6)::da 19 2 ([.dead 28,.dead 35]))))] [(6,18,[],[])] [] [] []
def ZeV (Q:QD):Post:=blockK 0 (seqJ Z8 (fnAt [1,1,1] Tryz.f60) (endK Z8 Tryz.f60 Q))
@[irreducible] def ZQ (Q:QD) (m0:Nat) (x0 x10:LL) (x11 x12:Int):Prop :=
 iter (adj (Z8.adj 4)) (evCode Z8 (fnAt [1,1,0,1,0,0] Tryz.f60)) (ZeV Q) m0 ⟨(.v (.sl Zf) (V.l x0))::(.fn Zao [])::sk 2 (un 6 ((.v (.sl Zf) (V.l x10))::(.v (.int .i64) (V.i x11))::(.v (.int .i64) (V.i x12))::un 27 ([]))),dd 40 ([])⟩ []
def ZeY (Q:QD) (m0:Nat) (x0 x10:LL) (x11 x12:Int):Prop :=
 iff (decide (x12<x11)) (0≤x12∧x12<x10.length∧(∃ r1:D,cl Zao [.agg [.v .str (((x10.getD x12.toNat []).drop 0).headD V.none),.v (.sl Za) ((((x10.getD x12.toNat []).drop 0).tail).headD V.none)]] [] (fun r H'=>r=(.v .str (r1.V))∧H'=[])∧(∃ r2:D,cl Zcf [.v .str (r1.V),.v .bool (V.b true)] [] (fun r H'=>r=(.v .bool (r2.V))∧H'=[])∧iff (!r2.V.bool) (True∧Q (.v (.int .i64) (V.i 4)) []) (iff (decide (x12 > (0:Int))) ((∃ r3:D,cl Zao [.agg [.v .str (((x10.getD x12.toNat []).drop 0).headD V.none),.v (.sl Za) ((((x10.getD x12.toNat []).drop 0).tail).headD V.none)]] [] (fun r H'=>r=(.v .str (r3.V))∧H'=[])∧0≤(IntKind.i64.wrap (x12 - (1:Int)))∧(IntKind.i64.wrap (x12 - (1:Int)))<x0.length∧cl Zao [.agg [.v .str (((x0.getD ((IntKind.i64.wrap (x12 - (1:Int)))).toNat []).drop 0).headD V.none),.v (.sl Za) ((((x0.getD ((IntKind.i64.wrap (x12 - (1:Int)))).toNat []).drop 0).tail).headD V.none)]] [] fun r4 H5=>r4=(.v .str (r4.V))∧H5=[]∧iff (Op.bytesLess r3.V.str.toList r4.V.str.toList||r3.V.str.toList == r4.V.str.toList) (True∧Q (.v (.int .i64) (V.i 4)) []) (ZQ Q m0 x0 x10 x11 (IntKind.i64.wrap (x12+(1:Int)))))) (ZQ Q m0 x0 x10 x11 (IntKind.i64.wrap (x12+(1:Int)))))))) (True∧Q (.v (.int .i64) (V.i 0)) [])
theorem ZeK (Q:QD) (m0:Nat) (x0 x10:LL) (x11 x12:Int):ZQ Q (m0+1) x0 x10 x11 x12=ZeY Q m0 x0 x10 x11 x12:=by kernel_rfl
theorem Zej (Q:QD) (x0 x10:LL) (n:Nat) (hb:n≤big) (J:Nat→Prop)
  (step:∀ (k:Nat),k<n→J k→∀ K:Prop,(J (k+1)→K)→(0≤(k:Int)∧(k:Int)<x10.length∧(∃ r1:D,cl Zao [.agg [.v .str (((x10.getD k []).drop 0).headD V.none),.v (.sl Za) ((((x10.getD k []).drop 0).tail).headD V.none)]] [] (fun r H'=>r=(.v .str (r1.V))∧H'=[])∧(∃ r2:D,cl Zcf [.v .str (r1.V),.v .bool (V.b true)] [] (fun r H'=>r=(.v .bool (r2.V))∧H'=[])∧iff (!r2.V.bool) (True∧Q (.v (.int .i64) (V.i 4)) []) (iff (decide ((k:Int) > (0:Int))) ((∃ r3:D,cl Zao [.agg [.v .str (((x10.getD k []).drop 0).headD V.none),.v (.sl Za) ((((x10.getD k []).drop 0).tail).headD V.none)]] [] (fun r H'=>r=(.v .str (r3.V))∧H'=[])∧0≤(IntKind.i64.wrap ((k:Int) - (1:Int)))∧(IntKind.i64.wrap ((k:Int) - (1:Int)))<x0.length∧cl Zao [.agg [.v .str (((x0.getD ((IntKind.i64.wrap ((k:Int) - (1:Int)))).toNat []).drop 0).headD V.none),.v (.sl Za) ((((x0.getD ((IntKind.i64.wrap ((k:Int) - (1:Int)))).toNat []).drop 0).tail).headD V.none)]] [] fun r4 H5=>r4=(.v .str (r4.V))∧H5=[]∧iff (Op.bytesLess r3.V.str.toList r4.V.str.toList||r3.V.str.toList == r4.V.str.toList) (True∧Q (.v (.int .i64) (V.i 4)) []) (K))) (K))))))
  (last:J n→(True∧Q (.v (.int .i64) (V.i 0)) []))
  (k:Nat) (le0:k≤n) (hj:J k):∃ m0,ZQ Q m0 x0 x10 (n:Int) ((k:Int)):=by
 exact rangeG0 n hb J (fun m0 i=>ZQ Q m0 x0 x10 (n:Int) i) (fun m0 i=>ZeK Q m0 x0 x10 (n:Int) i) (fun k hl_ hj_ m_ ih_=>step k hl_ hj_ _ ih_) last k le0 hj
def Zcu (a0:LL) (Q:QD):Prop :=
 (a0.length≤big→iff (decide (((a0.length:Int)) > (256:Int))) (True∧Q (.v (.int .i64) (V.i 3)) []) ((a0.length≤big→∃ m0,ZQ Q m0 a0 a0 ((a0.length:Int)) 0)))
theorem Zfp (a0:LL) (Q:QD) (h:Zcu a0 Q):cl Ze5 [.v (.sl Zf) (V.l a0),.fn Zao []] [] Q :=
 acalls2 (E:=Z8) (envOk _ _ _ _ _) 0 Tryz.func60 (by kernel_rfl) h
end Go.Proofs.YthhnadeoioeniaaGreat
set_option maxRecDepth 100000
namespace Go.Proofs.YthhnadeoioeniaaGreat
open Go.Abs
def Zap:Env:=envA [(4,ua 2 3 (ua 7 3 (ua 13 36 ([.dead 4,.dead 19,.dead 24,.dead 29,.dead 44])))),(10,(.undef 0)::ua 2 3 (ua 6 43 (ua 52 17 ([.dead 6,.dead 66]))))] [(6,27,[],[])] [] [] []
def Zkb (Q:QD):Post:=blockK 0 (seqJ Zap (fnAt [1,1,1] Tryz.f62) (endK Zap Tryz.f62 Q))
def ZjT (Q:QD):Post:=blockK 2 (seqJ Zap (fnAt [1,1,1,1] Tryz.f62) (endK Zap Tryz.f62 Q))
@[irreducible] def Za8 (Q:QD) (m1:Nat) (x49:LL) (x50 x51:Int):Prop :=
 iter (adj (Zap.adj 10)) (evCode Zap (fnAt [1,1,1,0,1,0,0] Tryz.f62)) (ZjT Q) m1 ⟨.undef::.skip::un 3 (.skip::un 43 ((.v (.sl Za) (V.l x49))::(.v (.int .i64) (V.i x50))::(.v (.int .i64) (V.i x51))::un 17 ([]))),dd 69 ([])⟩ []
@[irreducible] def Za7 (Q:QD) (m0:Nat) (x0 x10:LL) (x11 x12:Int):Prop :=
 iter (adj (Zap.adj 4)) (evCode Zap (fnAt [1,1,0,1,0,0] Tryz.f62)) (Zkb Q) m0 ⟨(.v (.sl Za) (V.l x0))::.skip::un 3 (sk 2 (un 3 ((.v (.sl Za) (V.l x10))::(.v (.int .i64) (V.i x11))::(.v (.int .i64) (V.i x12))::un 36 (sk 20 ([]))))),dd 69 ([])⟩ []
def Zkd (Q:QD) (m1:Nat) (x49:LL) (x50 x51:Int):Prop :=
 iff (decide (x51<x50)) (0≤x51∧x51<x49.length∧iff (decide (((((x49.getD x51.toNat []).drop 0).headD V.none).int)<(1:Int))) (True∧Q (.v (.int .i64) (V.i 2)) []) (iff (decide (((((x49.getD x51.toNat []).drop 0).headD V.none).int) > (1048576:Int))) (True∧Q (.v (.int .i64) (V.i 2)) []) (cl Z1 [.v (.sl ZA) ((((x49.getD x51.toNat []).drop 0).tail).headD V.none),.fn ZW []] [] fun r1 H2=>r1=(.v .bool (r1.V))∧H2=[]∧iff r1.V.bool (True∧Q (.v (.int .i64) (V.i 2)) []) (Za8 Q m1 x49 x50 (IntKind.i64.wrap (x51+(1:Int))))))) (True∧Q (.v (.int .i64) (V.i 0)) [])
theorem Zit (Q:QD) (m1:Nat) (x49:LL) (x50 x51:Int):Za8 Q (m1+1) x49 x50 x51=Zkd Q m1 x49 x50 x51:=by kernel_rfl
theorem ZhL (Q:QD) (x49:LL) (n:Nat) (hb:n≤big) (J:Nat→Prop)
  (step:∀ (k:Nat),k<n→J k→∀ K:Prop,(J (k+1)→K)→(0≤(k:Int)∧(k:Int)<x49.length∧iff (decide (((((x49.getD k []).drop 0).headD V.none).int)<(1:Int))) (True∧Q (.v (.int .i64) (V.i 2)) []) (iff (decide (((((x49.getD k []).drop 0).headD V.none).int) > (1048576:Int))) (True∧Q (.v (.int .i64) (V.i 2)) []) (cl Z1 [.v (.sl ZA) ((((x49.getD k []).drop 0).tail).headD V.none),.fn ZW []] [] fun r1 H2=>r1=(.v .bool (r1.V))∧H2=[]∧iff r1.V.bool (True∧Q (.v (.int .i64) (V.i 2)) []) (K)))))
  (last:J n→(True∧Q (.v (.int .i64) (V.i 0)) []))
  (k:Nat) (le0:k≤n) (hj:J k):∃ m1,Za8 Q m1 x49 (n:Int) ((k:Int)):=by
 exact rangeG0 n hb J (fun m1 i=>Za8 Q m1 x49 (n:Int) i) (fun m1 i=>Zit Q m1 x49 (n:Int) i) (fun k hl_ hj_ m_ ih_=>step k hl_ hj_ _ ih_) last k le0 hj
def Zj6 (Q:QD) (m0:Nat) (x0 x10:LL) (x11 x12:Int):Prop :=
 iff (decide (x12<x11)) (0≤x12∧x12<x10.length∧iff (decide ((((((((x10.getD x12.toNat []).drop 0).tail).headD V.none).list).length:Int)) > (8:Int))) (True∧Q (.v (.int .i64) (V.i 4)) []) (0≤(0:Int)∧(0:Int)<x0.length∧iff ((((((((x10.getD x12.toNat []).drop 0).tail).headD V.none).list).length:Int)) != ((((((x0.getD ((0:Int)).toNat []).drop 1).headD V.none).list).length:Int))) (True∧Q (.v (.int .i64) (V.i 4)) []) (iff (decide (x12 > (0:Int))) (0≤(IntKind.i64.wrap (x12 - (1:Int)))∧(IntKind.i64.wrap (x12 - (1:Int)))<x0.length∧cl Zb1 [.v (.sl ZA) (((x0.getD ((IntKind.i64.wrap (x12 - (1:Int)))).toNat []).drop 1).headD V.none),.v (.sl ZA) ((((x10.getD x12.toNat []).drop 0).tail).headD V.none)] [] fun r1 H2=>r1=(.v (.int .i64) (r1.V))∧H2=[]∧iff (decide (r1.V.int≥(0:Int))) (True∧Q (.v (.int .i64) (V.i 4)) []) (Za7 Q m0 x0 x10 x11 (IntKind.i64.wrap (x12+(1:Int))))) (Za7 Q m0 x0 x10 x11 (IntKind.i64.wrap (x12+(1:Int))))))) ((x0.length≤big→∃ m1,Za8 Q m1 x0 ((x0.length:Int)) 0))
theorem Zh7 (Q:QD) (m0:Nat) (x0 x10:LL) (x11 x12:Int):Za7 Q (m0+1) x0 x10 x11 x12=Zj6 Q m0 x0 x10 x11 x12:=by kernel_rfl
theorem ZhP (Q:QD) (x0 x10:LL) (n:Nat) (hb:n≤big) (J:Nat→Prop)
  (step:∀ (k:Nat),k<n→J k→∀ K:Prop,(J (k+1)→K)→(0≤(k:Int)∧(k:Int)<x10.length∧iff (decide ((((((((x10.getD k []).drop 0).tail).headD V.none).list).length:Int)) > (8:Int))) (True∧Q (.v (.int .i64) (V.i 4)) []) (0≤(0:Int)∧(0:Int)<x0.length∧iff ((((((((x10.getD k []).drop 0).tail).headD V.none).list).length:Int)) != ((((((x0.getD ((0:Int)).toNat []).drop 1).headD V.none).list).length:Int))) (True∧Q (.v (.int .i64) (V.i 4)) []) (iff (decide ((k:Int) > (0:Int))) (0≤(IntKind.i64.wrap ((k:Int) - (1:Int)))∧(IntKind.i64.wrap ((k:Int) - (1:Int)))<x0.length∧cl Zb1 [.v (.sl ZA) (((x0.getD ((IntKind.i64.wrap ((k:Int) - (1:Int)))).toNat []).drop 1).headD V.none),.v (.sl ZA) ((((x10.getD k []).drop 0).tail).headD V.none)] [] fun r1 H2=>r1=(.v (.int .i64) (r1.V))∧H2=[]∧iff (decide (r1.V.int≥(0:Int))) (True∧Q (.v (.int .i64) (V.i 4)) []) (K)) (K)))))
  (last:J n→((x0.length≤big→∃ m1,Za8 Q m1 x0 ((x0.length:Int)) 0)))
  (k:Nat) (le0:k≤n) (hj:J k):∃ m0,Za7 Q m0 x0 x10 (n:Int) ((k:Int)):=by
 exact rangeG0 n hb J (fun m0 i=>Za7 Q m0 x0 x10 (n:Int) i) (fun m0 i=>Zh7 Q m0 x0 x10 (n:Int) i) (fun k hl_ hj_ m_ ih_=>step k hl_ hj_ _ ih_) last k le0 hj
def ZlH (a0:LL) (Q:QD):Prop :=
 (a0.length≤big→iff (decide (((a0.length:Int)) > (64:Int))) (True∧Q (.v (.int .i64) (V.i 3)) []) ((a0.length≤big→∃ m0,Za7 Q m0 a0 a0 ((a0.length:Int)) 0)))
theorem ZmX (a0:LL) (Q:QD) (h:ZlH a0 Q):cl Zes [.v (.sl Za) (V.l a0)] [] Q :=
 acalls2 (E:=Zap) (envOk _ _ _ _ _) 0 Tryz.func62 (by kernel_rfl) h
def Z4:Env:=envA [(2,(.undef 2)::(.undef 4)::ua 10 8 ([.dead 4,.dead 15])),(8,(.undef 0)::(.undef 2)::(.undef 4)::ua 6 12 (ua 21 12 ([.dead 6])))] [] [] [] []
def Zha (Q:QD):Post:=blockK 0 (seqJ Z4 (fnAt [1,1] Tryz.f63) (endK Z4 Tryz.f63 Q))
def ZhJ (Q:QD):Post:=blockK 2 (seqJ Z4 (fnAt [1,1,1] Tryz.f63) (endK Z4 Tryz.f63 Q))
@[irreducible] def Zay (Q:QD) (m1:Nat) (x18:LL) (x19 x20:Int):Prop :=
 iter (adj (Z4.adj 8)) (evCode Z4 (fnAt [1,1,0,1,0,0] Tryz.f63)) (ZhJ Q) m1 ⟨.undef::.skip::.undef::.skip::.undef::.skip::un 12 ((.v (.sl ZY) (V.l x18))::(.v (.int .i64) (V.i x19))::(.v (.int .i64) (V.i x20))::un 12 ([])),dd 33 ([])⟩ []
@[irreducible] def Za0 (Q:QD) (m0:Nat) (x0 x7:LL) (x8 x9:Int):Prop :=
 iter (adj (Z4.adj 2)) (evCode Z4 (fnAt [1,0,1,0,0] Tryz.f63)) (Zha Q) m0 ⟨(.v (.sl ZY) (V.l x0))::.skip::.undef::.skip::.undef::sk 2 ((.v (.sl ZY) (V.l x7))::(.v (.int .i64) (V.i x8))::(.v (.int .i64) (V.i x9))::un 8 (sk 15 ([]))),dd 33 ([])⟩ []
def Zhk (Q:QD) (m1:Nat) (x18:LL) (x19 x20:Int):Prop :=
 iff (decide (x20<x19)) (0≤x20∧x20<x18.length∧iff (decide ((((((x18.getD x20.toNat []).drop 0).tail).headD V.none).int)<(0:Int))) (True∧Q (.v (.int .i64) (V.i 2)) []) (iff (decide ((((((x18.getD x20.toNat []).drop 0).tail).headD V.none).int) > (8:Int))) (True∧Q (.v (.int .i64) (V.i 2)) []) (Zay Q m1 x18 x19 (IntKind.i64.wrap (x20+(1:Int)))))) (True∧Q (.v (.int .i64) (V.i 0)) [])
theorem ZgF (Q:QD) (m1:Nat) (x18:LL) (x19 x20:Int):Zay Q (m1+1) x18 x19 x20=Zhk Q m1 x18 x19 x20:=by kernel_rfl
theorem Zgk (Q:QD) (x18:LL) (n:Nat) (hb:n≤big) (J:Nat→Prop)
  (step:∀ (k:Nat),k<n→J k→∀ K:Prop,(J (k+1)→K)→(0≤(k:Int)∧(k:Int)<x18.length∧iff (decide ((((((x18.getD k []).drop 0).tail).headD V.none).int)<(0:Int))) (True∧Q (.v (.int .i64) (V.i 2)) []) (iff (decide ((((((x18.getD k []).drop 0).tail).headD V.none).int) > (8:Int))) (True∧Q (.v (.int .i64) (V.i 2)) []) (K))))
  (last:J n→(True∧Q (.v (.int .i64) (V.i 0)) []))
  (k:Nat) (le0:k≤n) (hj:J k):∃ m1,Zay Q m1 x18 (n:Int) ((k:Int)):=by
 exact rangeG0 n hb J (fun m1 i=>Zay Q m1 x18 (n:Int) i) (fun m1 i=>ZgF Q m1 x18 (n:Int) i) (fun k hl_ hj_ m_ ih_=>step k hl_ hj_ _ ih_) last k le0 hj
def Zhn (Q:QD) (m0:Nat) (x0 x7:LL) (x8 x9:Int):Prop :=
 iff (decide (x9<x8)) (0≤x9∧x9<x7.length∧cl Zb9 [.v .str (((x7.getD x9.toNat []).drop 0).headD V.none),.v .bool (V.b true)] [] fun r1 H2=>r1=(.v .bool (r1.V))∧H2=[]∧iff (!r1.V.bool) (True∧Q (.v (.int .i64) (V.i 4)) []) (Za0 Q m0 x0 x7 x8 (IntKind.i64.wrap (x9+(1:Int))))) ((x0.length≤big→∃ m1,Zay Q m1 x0 ((x0.length:Int)) 0))
theorem Zgs (Q:QD) (m0:Nat) (x0 x7:LL) (x8 x9:Int):Za0 Q (m0+1) x0 x7 x8 x9=Zhn Q m0 x0 x7 x8 x9:=by kernel_rfl
theorem Zgo (Q:QD) (x0 x7:LL) (n:Nat) (hb:n≤big) (J:Nat→Prop)
  (step:∀ (k:Nat),k<n→J k→∀ K:Prop,(J (k+1)→K)→(0≤(k:Int)∧(k:Int)<x7.length∧cl Zb9 [.v .str (((x7.getD k []).drop 0).headD V.none),.v .bool (V.b true)] [] fun r1 H2=>r1=(.v .bool (r1.V))∧H2=[]∧iff (!r1.V.bool) (True∧Q (.v (.int .i64) (V.i 4)) []) (K)))
  (last:J n→((x0.length≤big→∃ m1,Zay Q m1 x0 ((x0.length:Int)) 0)))
  (k:Nat) (le0:k≤n) (hj:J k):∃ m0,Za0 Q m0 x0 x7 (n:Int) ((k:Int)):=by
 exact rangeG0 n hb J (fun m0 i=>Za0 Q m0 x0 x7 (n:Int) i) (fun m0 i=>Zgs Q m0 x0 x7 (n:Int) i) (fun k hl_ hj_ m_ ih_=>step k hl_ hj_ _ ih_) last k le0 hj
def ZiT (a0:LL) (Q:QD):Prop :=
 (a0.length≤big→∃ m0,Za0 Q m0 a0 a0 ((a0.length:Int)) 0)
theorem ZjW (a0:LL) (Q:QD) (h:ZiT a0 Q):cl ZeI [.v (.sl ZY) (V.l a0)] [] Q :=
 acalls2 (E:=Z4) (envOk _ _ _ _ _) 0 Tryz.func63 (by kernel_rfl) h
def Zbi:Env:=envA [(2,(.undef 0)::ua 6 2 ((.undef 9)::ua 15 24 ([.dead 9,.dead 26,.dead 34,.dead 53]))),(9,ua 0 2 (ua 6 2 ((.undef 9)::ua 12 40 ((.dead 48)::da 50 2 ([.ownT 10 53 Za])))))] [(5,17,[],[])] [] [] []
def Zno (Q:QD):Post:=blockK 0 (seqJ Zbi (fnAt [1,1] Tryz.f64) (endK Zbi Tryz.f64 Q))
def ZnB (Q:QD):Post:=blockK 2 (seqJ Zbi (fnAt [1,1,1,1] Tryz.f64) (endK Zbi Tryz.f64 Q))
@[irreducible] def Zd1 (Q:QD) (m1:Nat) (x2:Int) (x10n:Nat) (x11:Int) (y53:LL):Prop :=
 iter (adj (Zbi.adj 9)) (evCode Zbi (fnAt [1,1,1,0,1,0,0] Tryz.f64)) (ZnB Q) m1 ⟨un 2 ((.v (.int .i64) (V.i x2))::sk 3 (un 2 (.skip::.undef::(.osl (.loc 53) x10n)::(.v (.int .i64) (V.i x11))::un 40 ([.skip])))),dd 53 ([.row Za y53])⟩ []
@[irreducible] def ZdQ (Q:QD) (m0:Nat) (x1:ByteArray) (x2:Int) (x12:LL) (x13 x14:Int):Prop :=
 iter (adj (Zbi.adj 2)) (evCode Zbi (fnAt [1,0,1,0,0] Tryz.f64)) (Zno Q) m0 ⟨.undef::(.v .str (V.s x1))::(.v (.int .i64) (V.i x2))::sk 3 (un 2 (.skip::.undef::sk 2 ((.v (.sl Zf) (V.l x12))::(.v (.int .i64) (V.i x13))::(.v (.int .i64) (V.i x14))::un 24 (sk 14 ([]))))),dd 54 ([])⟩ []
def Zf1 (Q:QD) (m1:Nat) (x2:Int) (x10n:Nat) (x11:Int) (y53:LL):Prop :=
 iff (decide (x11≥(0:Int))) (cl Zgm [.v (.int .i64) (V.i x2),.v (.int .i64) (V.i x11)] [] fun r1 H2=>r1=(.v (.sl ZA) (r1.V))∧H2=[]∧y53.length=x10n∧x10n+([[V.i 1,r1.V]]).length≤lim∧Zd1 Q m1 x2 (x10n+([[V.i 1,r1.V]]).length) (IntKind.i64.wrap (x11 - (1:Int))) (y53++([[V.i 1,r1.V]]))) (((x10n=y53.length)∧True∧True)∧Q (.tup [.v (.sl Za) (V.l y53),.v .bool (V.b true)]) [])
theorem ZlJ (Q:QD) (m1:Nat) (x2:Int) (x10n:Nat) (x11:Int) (y53:LL):Zd1 Q (m1+1) x2 x10n x11 y53=Zf1 Q m1 x2 x10n x11 y53:=by kernel_rfl
theorem ZlB (Q:QD):RuleG4 (Zd1 Q) (Zf1 Q):=ruleG4 _ _ (ZlJ Q)
def Znp (Q:QD) (m0:Nat) (x1:ByteArray) (x2:Int) (x12:LL) (x13 x14:Int):Prop :=
 iff (decide (x14<x13)) (0≤x14∧x14<x12.length∧iff (((((x12.getD x14.toNat []).drop 0).headD V.none).str).toList == x1.toList) (iff ((((((((x12.getD x14.toNat []).drop 0).tail).headD V.none).list).length:Int)) == (0:Int)) ((True∧True∧True)∧Q (.tup [.v (.sl Za) ((((x12.getD x14.toNat []).drop 0).tail).headD V.none),.v .bool (V.b true)]) []) (0≤(0:Int)∧(0:Int)<(((((x12.getD x14.toNat []).drop 0).tail).headD V.none).list).length∧(True∧True∧True)∧Q (.tup [.v (.sl Za) ((((x12.getD x14.toNat []).drop 0).tail).headD V.none),.v .bool (V.b ((((((((((((x12.getD x14.toNat []).drop 0).tail).headD V.none).list).getD ((0:Int)).toNat []).drop 1).headD V.none).list).length:Int)) == x2))]) [])) (ZdQ Q m0 x1 x2 x12 x13 (IntKind.i64.wrap (x14+(1:Int))))) (∃ m1,Zd1 Q m1 x2 0 (IntKind.i64.wrap (x2 - (1:Int))) (([]:List (List V))))
theorem ZlP (Q:QD) (m0:Nat) (x1:ByteArray) (x2:Int) (x12:LL) (x13 x14:Int):ZdQ Q (m0+1) x1 x2 x12 x13 x14=Znp Q m0 x1 x2 x12 x13 x14:=by kernel_rfl
theorem Zk6 (Q:QD) (x1:ByteArray) (x2:Int) (x12:LL) (n:Nat) (hb:n≤big) (J:Nat→Prop)
  (step:∀ (k:Nat),k<n→J k→∀ K:Prop,(J (k+1)→K)→(0≤(k:Int)∧(k:Int)<x12.length∧iff (((((x12.getD k []).drop 0).headD V.none).str).toList == x1.toList) (iff ((((((((x12.getD k []).drop 0).tail).headD V.none).list).length:Int)) == (0:Int)) ((True∧True∧True)∧Q (.tup [.v (.sl Za) ((((x12.getD k []).drop 0).tail).headD V.none),.v .bool (V.b true)]) []) (0≤(0:Int)∧(0:Int)<(((((x12.getD k []).drop 0).tail).headD V.none).list).length∧(True∧True∧True)∧Q (.tup [.v (.sl Za) ((((x12.getD k []).drop 0).tail).headD V.none),.v .bool (V.b ((((((((((((x12.getD k []).drop 0).tail).headD V.none).list).getD ((0:Int)).toNat []).drop 1).headD V.none).list).length:Int)) == x2))]) [])) (K)))
  (last:J n→(∃ m1,Zd1 Q m1 x2 0 (IntKind.i64.wrap (x2 - (1:Int))) (([]:List (List V)))))
  (k:Nat) (le0:k≤n) (hj:J k):∃ m0,ZdQ Q m0 x1 x2 x12 (n:Int) ((k:Int)):=by
 exact rangeG0 n hb J (fun m0 i=>ZdQ Q m0 x1 x2 x12 (n:Int) i) (fun m0 i=>ZlP Q m0 x1 x2 x12 (n:Int) i) (fun k hl_ hj_ m_ ih_=>step k hl_ hj_ _ ih_) last k le0 hj
def ZoA (a0:LL) (a1:ByteArray) (a2:Int) (Q:QD):Prop :=
 (a0.length≤big→∃ m0,ZdQ Q m0 a1 a2 a0 ((a0.length:Int)) 0)
theorem Zpb (a0:LL) (a1:ByteArray) (a2:Int) (Q:QD) (h:ZoA a0 a1 a2 Q):cl Zd8 [.v (.sl Zf) (V.l a0),.v .str (V.s a1),.v (.int .i64) (V.i a2)] [] Q :=
 acalls2 (E:=Zbi) (envOk _ _ _ _ _) 1 Tryz.func64 (by kernel_rfl) h
def Zav:Env:=envA [(2,(.undef 0)::(.undef 4)::ua 6 4 (ua 13 30 ([.dead 6,.dead 24]))),(6,(.undef 0)::(.undef 4)::(.undef 6)::ua 8 2 (ua 13 10 (ua 26 17 ([.dead 6]))))] [] [] [] []
def Zga (Q:QD):Post:=blockK 0 (seqJ Zav (fnAt [1,1] Tryz.f65) (endK Zav Tryz.f65 Q))
def Znc (Q:QD) (m0:Nat):Post:=blockK 2 (seqJ Zav (fnAt [1,0,1,0,0,1,1,0,0,1,1,1] Tryz.f65) (blockK 1 (seqJ Zav (fnAt [1,0,1,0,0,1,1,1] Tryz.f65) (loopK (adj (Zav.adj 2)) (iter (adj (Zav.adj 2)) (evCode Zav (fnAt [1,0,1,0,0] Tryz.f65)) (Zga Q) m0) (Zga Q)))))
@[irreducible] def ZaZ (Q:QD) (m0 m1:Nat) (x1:Int) (x7:Bool) (x10:LL) (x11 x12:Int) (x23:V) (x24 x25:Int):Prop :=
 iter (adj (Zav.adj 6)) (evCode Zav (fnAt [1,0,1,0,0,1,1,0,0,1,1,0,1,0,0] Tryz.f65)) (Znc Q m0) m1 ⟨.undef::(.v (.int .i64) (V.i x1))::sk 2 (.undef::.skip::.undef::(.v .bool (V.b x7))::un 2 ((.v (.sl Za) (V.l x10))::(.v (.int .i64) (V.i x11))::(.v (.int .i64) (V.i x12))::un 10 ((.v (.sl ZA) (x23))::(.v (.int .i64) (V.i x24))::(.v (.int .i64) (V.i x25))::un 17 ([])))),dd 43 ([])⟩ []
@[irreducible] def Zbq (Q:QD) (m0:Nat) (x1:Int) (x10:LL) (x11 x12:Int):Prop :=
 iter (adj (Zav.adj 2)) (evCode Zav (fnAt [1,0,1,0,0] Tryz.f65)) (Zga Q) m0 ⟨.undef::(.v (.int .i64) (V.i x1))::sk 2 (.undef::.skip::un 4 ((.v (.sl Za) (V.l x10))::(.v (.int .i64) (V.i x11))::(.v (.int .i64) (V.i x12))::un 30 ([]))),dd 43 ([])⟩ []
def Zm1 (Q:QD) (m0 m1:Nat) (x1:Int) (x7:Bool) (x10:LL) (x11 x12:Int) (x23:V) (x24 x25:Int):Prop :=
 iff (decide (x25<x24)) (0≤x25∧x25<x23.list.length∧iff x7 (iff (x25 == x1) (ZaZ Q m0 m1 x1 true x10 x11 x12 x23 x24 (IntKind.i64.wrap (x25+(1:Int)))) (ZaZ Q m0 m1 x1 (((((x23.list.getD x25.toNat []).drop 0).headD V.none).int) == (0:Int)) x10 x11 x12 x23 x24 (IntKind.i64.wrap (x25+(1:Int))))) (ZaZ Q m0 m1 x1 false x10 x11 x12 x23 x24 (IntKind.i64.wrap (x25+(1:Int))))) (iff x7 (True∧Q (.v .bool (V.b true)) []) (Zbq Q m0 x1 x10 x11 (IntKind.i64.wrap (x12+(1:Int)))))
theorem Zlo (Q:QD) (m0 m1:Nat) (x1:Int) (x7:Bool) (x10:LL) (x11 x12:Int) (x23:V) (x24 x25:Int):ZaZ Q m0 (m1+1) x1 x7 x10 x11 x12 x23 x24 x25=Zm1 Q m0 m1 x1 x7 x10 x11 x12 x23 x24 x25:=by kernel_rfl
theorem Zkj (Q:QD) (m0:Nat) (x1:Int) (x10:LL) (x11 x12:Int) (x23:V) (n:Nat) (hb:n≤big) (J:Nat→Bool→Prop)
  (step:∀ (k:Nat) (x7:Bool),k<n→J k x7→∀ K:Bool→Prop,(∀ (x7':Bool),J (k+1) x7'→K x7')→(0≤(k:Int)∧(k:Int)<x23.list.length∧iff x7 (iff ((k:Int) == x1) (K true) (K (((((x23.list.getD k []).drop 0).headD V.none).int) == (0:Int)))) (K false)))
  (last:∀ (x7:Bool),J n x7→(iff x7 (True∧Q (.v .bool (V.b true)) []) (Zbq Q m0 x1 x10 x11 (IntKind.i64.wrap (x12+(1:Int))))))
  (k:Nat) (x7:Bool) (le0:k≤n) (hj:J k x7):∃ m1,ZaZ Q m0 m1 x1 x7 x10 x11 x12 x23 (n:Int) ((k:Int)):=by
 exact rangeG1 n hb J (fun m1 i x7=>ZaZ Q m0 m1 x1 x7 x10 x11 x12 x23 (n:Int) i) (fun m1 i x7=>Zlo Q m0 m1 x1 x7 x10 x11 x12 x23 (n:Int) i) (fun k x7 hl_ hj_ m_ ih_=>step k x7 hl_ hj_ _ ih_) last k x7 le0 hj
def ZnK (Q:QD) (m0:Nat) (x1:Int) (x10:LL) (x11 x12:Int):Prop :=
 iff (decide (x12<x11)) (0≤x12∧x12<x10.length∧0≤x1∧x1<(((((x10.getD x12.toNat []).drop 0).tail).headD V.none).list).length∧((((((x10.getD x12.toNat []).drop 0).tail).headD V.none).list).length≤big→∃ m1,ZaZ Q m0 m1 x1 (decide ((((((((((x10.getD x12.toNat []).drop 0).tail).headD V.none).list).getD x1.toNat []).drop 0).headD V.none).int) > (0:Int))) x10 x11 x12 ((((x10.getD x12.toNat []).drop 0).tail).headD V.none) (((((((x10.getD x12.toNat []).drop 0).tail).headD V.none).list).length:Int)) 0)) (True∧Q (.v .bool (V.b false)) [])
theorem Zlz (Q:QD) (m0:Nat) (x1:Int) (x10:LL) (x11 x12:Int):Zbq Q (m0+1) x1 x10 x11 x12=ZnK Q m0 x1 x10 x11 x12:=by kernel_rfl
theorem ZkC (Q:QD) (x1:Int) (x10:LL) (n:Nat) (hb:n≤big) (J:Nat→Prop)
  (step:∀ (k:Nat),k<n→J k→∀ m0:Nat,(J (k+1)→Zbq Q m0 x1 x10 (n:Int) (IntKind.i64.wrap ((k:Int)+(1:Int))))→(0≤(k:Int)∧(k:Int)<x10.length∧0≤x1∧x1<(((((x10.getD k []).drop 0).tail).headD V.none).list).length∧((((((x10.getD k []).drop 0).tail).headD V.none).list).length≤big→∃ m1,ZaZ Q m0 m1 x1 (decide ((((((((((x10.getD k []).drop 0).tail).headD V.none).list).getD x1.toNat []).drop 0).headD V.none).int) > (0:Int))) x10 (n:Int) (k:Int) ((((x10.getD k []).drop 0).tail).headD V.none) (((((((x10.getD k []).drop 0).tail).headD V.none).list).length:Int)) 0)))
  (last:J n→(True∧Q (.v .bool (V.b false)) []))
  (k:Nat) (le0:k≤n) (hj:J k):∃ m0,Zbq Q m0 x1 x10 (n:Int) ((k:Int)):=by
 exact rangeG0 n hb J (fun m0 i=>Zbq Q m0 x1 x10 (n:Int) i) (fun m0 i=>Zlz Q m0 x1 x10 (n:Int) i) (fun k hl_ hj_ m_ ih_=>step k hl_ hj_ m_ ih_) last k le0 hj
def ZoC (a0:LL) (a1:Int) (Q:QD):Prop :=
 (a0.length≤big→∃ m0,Zbq Q m0 a1 a0 ((a0.length:Int)) 0)
theorem Zo1 (a0:LL) (a1:Int) (Q:QD) (h:ZoC a0 a1 Q):cl Zjf [.v (.sl Za) (V.l a0),.v (.int .i64) (V.i a1)] [] Q :=
 acalls2 (E:=Zav) (envOk _ _ _ _ _) 0 Tryz.func65 (by kernel_rfl) h
def Zdw:Env:=envA [] [] [] [] []
def Zbc (a0 h0_0:LL) (Q:QD):Prop :=
 cl ZM [.v (.sl Za) (V.l a0),.fn ZaE [.ptr (.own 0) 0]] [.cells [.v (.sl Zp) (V.l h0_0)]] fun r1 H2=>r1=(.v (.int .i64) (r1.V))∧H2=[.cells [.v (.sl Zp) ((((H2.headD .dead).cs).headD .undef).V)]]∧True∧Q (.v .bool (V.b (decide (r1.V.int≥(0:Int))))) [.cells [.v (.sl Zp) ((((H2.headD .dead).cs).headD .undef).V)]]
theorem ZdU (a0 h0_0:LL) (Q:QD) (h:Zbc a0 h0_0 Q):cl Zq [.v (.sl Za) (V.l a0),.fn ZaE [.ptr (.own 0) 0]] [.cells [.v (.sl Zp) (V.l h0_0)]] Q :=
 acalls2 (E:=Zdw) (envOk _ _ _ _ _) 0 Tryz.func57 (by kernel_rfl) h
def ZcZ:Env:=envA [] [] [] [] []
def Za2 (a0:LL) (Q:QD):Prop :=
 cl ZbX [.v (.sl Zp) (V.l a0),.fn Zd []] [] fun r1 H2=>r1=(.v (.int .i64) (r1.V))∧H2=[]∧True∧Q (.v .bool (V.b (decide (r1.V.int≥(0:Int))))) []
theorem Zdl (a0:LL) (Q:QD) (h:Za2 a0 Q):cl Zbl [.v (.sl Zp) (V.l a0),.fn Zd []] [] Q :=
 acalls2 (E:=ZcZ) (envOk _ _ _ _ _) 0 Tryz.func68 (by kernel_rfl) h
def Zdk:Env:=envA [] [] [] [] []
def Zbe (a0:LL) (Q:QD):Prop :=
 cl ZM [.v (.sl Za) (V.l a0),.fn ZaF [.ptr (.own 0) 0]] [.cells [.fn Zd []]] fun r1 H2=>r1=(.v (.int .i64) (r1.V))∧H2=[.cells [.fn Zd []]]∧True∧Q (.v .bool (V.b (decide (r1.V.int≥(0:Int))))) [.cells [.fn Zd []]]
theorem ZdV (a0:LL) (Q:QD) (h:Zbe a0 Q):cl Zq [.v (.sl Za) (V.l a0),.fn ZaF [.ptr (.own 0) 0]] [.cells [.fn Zd []]] Q :=
 acalls2 (E:=Zdk) (envOk _ _ _ _ _) 0 Tryz.func57 (by kernel_rfl) h
def Zmq:Env:=envA [] [] [] [] []
def Ziy (a0:Int) (Q:QD):Prop :=
 True∧Q (.v .bool (V.b (decide (a0 > (4611686018427387904:Int))))) []
theorem ZnZ (a0:Int) (Q:QD) (h:Ziy a0 Q):cl Zd [.v (.int .u64) (V.i a0)] [] Q :=
 acalls2 (E:=Zmq) (envOk _ _ _ _ _) 0 Tryz.func67 (by kernel_rfl) h
def ZbV:Env:=envA [(5,(.undef 1)::ua 4 2 (ua 7 3 (ua 12 10 ([.dead 16])))),(3000004,ua 4 2 (ua 8 2 ([])))] [] [] [] [4]
def Zmm (Q:QD):Post:=blockK 0 (seqJ ZbV (fnAt [1,1,1,1] Tryz.f72) (endK ZbV Tryz.f72 Q))
@[irreducible] def Zc5 (Q:QD) (m0:Nat) (x0:Int) (x6:V) (x10 x11:Int):Prop :=
 iter (adj (ZbV.adj 5)) (evCode ZbV (fnAt [1,1,1,0,1,0,0] Tryz.f72)) (Zmm Q) m0 ⟨(.v (.int .u64) (V.i x0))::.undef::sk 2 (un 2 ((.v (.int .u64) (x6))::un 3 ((.v (.int .i64) (V.i x10))::(.v (.int .i64) (V.i x11))::un 10 ([.skip])))),dd 23 ([])⟩ []
@[irreducible] def Zet (Q:QD) (x0 x1 x6:Int):Prop :=
 joinM (evCode ZbV (fnAt [1,1,1] Tryz.f72)) ⟨(.v (.int .u64) (V.i x0))::(.v (.int .i64) (V.i x1))::sk 2 (un 2 ((.v (.int .u64) (V.i x6))::.skip::un 2 (sk 13 ([])))),dd 23 ([])⟩ [] (endK ZbV Tryz.f72 Q)
def ZmB (Q:QD) (m0:Nat) (x0:Int) (x6:V) (x10 x11:Int):Prop :=
 iff (decide (x11<x10)) (cl Zfq [.v (.int .u64) (x6),.v (.int .u64) (V.i x0)] [] fun r1 H2=>r1=(.tup [.v (.int .u64) ((r1.parts.headD .undef).V),.v .bool ((r1.parts.tail.headD .undef).V)])∧H2=[]∧iff (!(((r1.parts.tail.headD .undef).V).bool)) ((True∧True∧True)∧Q (.tup [.v (.int .u64) (V.i 0),.v .bool (V.b false)]) []) (Zc5 Q m0 x0 ((r1.parts.headD .undef).V) x10 (IntKind.i64.wrap (x11+(1:Int))))) ((True∧True∧True)∧Q (.tup [.v (.int .u64) (x6),.v .bool (V.b true)]) [])
theorem Zk9 (Q:QD) (m0:Nat) (x0:Int) (x6:V) (x10 x11:Int):Zc5 Q (m0+1) x0 x6 x10 x11=ZmB Q m0 x0 x6 x10 x11:=by kernel_rfl
theorem Zj8 (Q:QD) (x0:Int) (n:Nat) (hb:n≤big) (J:Nat→V→Prop)
  (step:∀ (k:Nat) (x6:V),k<n→J k x6→∀ K:V→Prop,(∀ (x6':V),J (k+1) x6'→K x6')→(cl Zfq [.v (.int .u64) (x6),.v (.int .u64) (V.i x0)] [] fun r1 H2=>r1=(.tup [.v (.int .u64) ((r1.parts.headD .undef).V),.v .bool ((r1.parts.tail.headD .undef).V)])∧H2=[]∧iff (!(((r1.parts.tail.headD .undef).V).bool)) ((True∧True∧True)∧Q (.tup [.v (.int .u64) (V.i 0),.v .bool (V.b false)]) []) (K ((r1.parts.headD .undef).V))))
  (last:∀ (x6:V),J n x6→((True∧True∧True)∧Q (.tup [.v (.int .u64) (x6),.v .bool (V.b true)]) []))
  (k:Nat) (x6:V) (le0:k≤n) (hj:J k x6):∃ m0,Zc5 Q m0 x0 x6 (n:Int) ((k:Int)):=by
 exact rangeG1 n hb J (fun m0 i x6=>Zc5 Q m0 x0 x6 (n:Int) i) (fun m0 i x6=>Zk9 Q m0 x0 x6 (n:Int) i) (fun k x6 hl_ hj_ m_ ih_=>step k x6 hl_ hj_ _ ih_) last k x6 le0 hj
def Zht (Q:QD) (x0 x1 x6:Int):Prop :=
 ∃ m0,Zc5 Q m0 x0 (V.i x6) x1 0
theorem Zkw (Q:QD) (x0 x1 x6:Int):Zet Q x0 x1 x6=Zht Q x0 x1 x6:=by kernel_rfl
def Zj0 (a0 a1:Int) (Q:QD):Prop :=
 iff (a0 == (1:Int)) (Zet Q a0 0 1) (Zet Q a0 a1 1)
theorem ZoI (a0 a1:Int) (Q:QD) (h:Zj0 a0 a1 Q):cl Zhz [.v (.int .u64) (V.i a0),.v (.int .i64) (V.i a1)] [] Q :=
 acalls2 (E:=ZbV) (envOk _ _ _ _ _) 0 Tryz.func72 (by kernel_rfl) h
def ZoT:Env:=envA [] [] [] [] []
def Zmh (a0 a1:Int) (Q:QD):Prop :=
 cl ZhB [.v (.int .u64) (V.i a0),.v (.int .u64) (V.i a1)] [] fun r1 H2=>r1=(.tup [.v (.int .u64) ((r1.parts.headD .undef).V),.v (.int .u64) ((r1.parts.tail.headD .undef).V)])∧H2=[]∧iff ((((r1.parts.headD .undef).V).int) == (0:Int)) ((True∧True∧True)∧Q (.tup [.v (.int .u64) ((r1.parts.tail.headD .undef).V),.v .bool (V.b (decide ((((r1.parts.tail.headD .undef).V).int)≤(4611686018427387904:Int))))]) []) ((True∧True∧True)∧Q (.tup [.v (.int .u64) ((r1.parts.tail.headD .undef).V),.v .bool (V.b false)]) [])
theorem Zpl (a0 a1:Int) (Q:QD) (h:Zmh a0 a1 Q):cl Zfq [.v (.int .u64) (V.i a0),.v (.int .u64) (V.i a1)] [] Q :=
 acalls2 (E:=ZoT) (envOk _ _ _ _ _) 0 Tryz.func73 (by kernel_rfl) h
def Zbn:Env:=envA [(7,(.undef 4)::ua 7 4 (ua 12 12 ([.dead 23]))),(3000009,(.undef 4)::ua 7 4 (ua 12 12 ([])))] [] [] [] [9]
def Zf2 (Q:QD):Post:=blockK 0 (seqJ Zbn (fnAt [1,1,1,1,1] Tryz.f75) (endK Zbn Tryz.f75 Q))
@[irreducible] def Zf8 (Q:QD) (m0:Nat) (x0 x1:Int) (x5:V) (x6:Int):Prop :=
 joinM (evCode Zbn (fnAt [1,1,1,1,0,1,0,0,1] Tryz.f75)) ⟨(.v (.int .u64) (V.i x0))::(.v (.int .i64) (V.i x1))::sk 2 (.undef::(.v (.int .u64) (x5))::(.v (.int .i64) (V.i x6))::un 4 (.skip::un 12 ([.skip]))),dd 25 ([])⟩ [] (loopK (adj (Zbn.adj 7)) (iter (adj (Zbn.adj 7)) (evCode Zbn (fnAt [1,1,1,1,0,1,0,0] Tryz.f75)) (Zf2 Q) m0) (Zf2 Q))
@[irreducible] def ZcA (Q:QD) (m0:Nat) (x0 x1:Int) (x5:V) (x6:Int):Prop :=
 iter (adj (Zbn.adj 7)) (evCode Zbn (fnAt [1,1,1,1,0,1,0,0] Tryz.f75)) (Zf2 Q) m0 ⟨(.v (.int .u64) (V.i x0))::(.v (.int .i64) (V.i x1))::sk 2 (.undef::(.v (.int .u64) (x5))::(.v (.int .i64) (V.i x6))::un 4 (.skip::un 12 ([.skip]))),dd 25 ([])⟩ []
def ZiB (Q:QD) (m0:Nat) (x0 x1:Int) (x5:V) (x6:Int):Prop :=
 cl Zd9 [.v (.int .u64) (x5),.v (.int .u64) (V.i x0)] [] fun r1 H2=>r1=(.v (.int .u64) (r1.V))∧H2=[]∧ZcA Q m0 x0 x1 r1.V (IntKind.i64.wrap (x6+(1:Int)))
theorem Zl7 (Q:QD) (m0:Nat) (x0 x1:Int) (x5:V) (x6:Int):Zf8 Q m0 x0 x1 x5 x6=ZiB Q m0 x0 x1 x5 x6:=by kernel_rfl
def ZnM (Q:QD) (m0:Nat) (x0 x1:Int) (x5:V) (x6:Int):Prop :=
 iff (decide (x6<x1)) (iff (decide (x5.int<(4611686018427387905:Int))) (Zf8 Q m0 x0 x1 x5 x6) (True∧Q (.v (.int .u64) (x5)) [])) (True∧Q (.v (.int .u64) (x5)) [])
theorem Zl1 (Q:QD) (m0:Nat) (x0 x1:Int) (x5:V) (x6:Int):ZcA Q (m0+1) x0 x1 x5 x6=ZnM Q m0 x0 x1 x5 x6:=by kernel_rfl
theorem ZkI (Q:QD) (x0:Int) (n:Nat) (hb:n≤big) (J:Nat→V→Prop)
  (step:∀ (k:Nat) (x5:V),k<n→J k x5→∀ m0:Nat,(∀ (x5':V),J (k+1) x5'→ZcA Q m0 x0 (n:Int) x5' (IntKind.i64.wrap ((k:Int)+(1:Int))))→(iff (decide (x5.int<(4611686018427387905:Int))) (Zf8 Q m0 x0 (n:Int) x5 (k:Int)) (True∧Q (.v (.int .u64) (x5)) [])))
  (last:∀ (x5:V),J n x5→(True∧Q (.v (.int .u64) (x5)) []))
  (k:Nat) (x5:V) (le0:k≤n) (hj:J k x5):∃ m0,ZcA Q m0 x0 (n:Int) x5 ((k:Int)):=by
 exact rangeG1 n hb J (fun m0 i x5=>ZcA Q m0 x0 (n:Int) x5 i) (fun m0 i x5=>Zl1 Q m0 x0 (n:Int) x5 i) (fun k x5 hl_ hj_ m_ ih_=>step k x5 hl_ hj_ m_ ih_) last k x5 le0 hj
def Zli (a0 a1:Int) (Q:QD):Prop :=
 iff (a1 == (0:Int)) (True∧Q (.v (.int .u64) (V.i 1)) []) (iff (decide (a0<(2:Int))) (True∧Q (.v (.int .u64) (V.i a0)) []) (∃ m0,ZcA Q m0 a0 a1 (V.i 1) 0))
theorem Zo4 (a0 a1:Int) (Q:QD) (h:Zli a0 a1 Q):cl Zgy [.v (.int .u64) (V.i a0),.v (.int .i64) (V.i a1)] [] Q :=
 acalls2 (E:=Zbn) (envOk _ _ _ _ _) 0 Tryz.func75 (by kernel_rfl) h
def ZgH:Env:=envA [(3000003,ua 4 7 ([]))] [] [] [] [3]
@[irreducible] def ZiG (Q:QD) (x0 x1:Int):Prop :=
 joinM (evCode ZgH (fnAt [1,1] Tryz.f74)) ⟨(.v (.int .u64) (V.i x0))::(.v (.int .u64) (V.i x1))::sk 2 (un 7 (sk 8 ([]))),dd 19 ([])⟩ [] (endK ZgH Tryz.f74 Q)
def ZiH (Q:QD) (x0 x1:Int):Prop :=
 x1≠0∧iff (decide (x0 > (IntKind.u64.wrap ((4611686018427387905:Int).tdiv x1)))) (True∧Q (.v (.int .u64) (V.i 4611686018427387905)) []) (True∧Q (.v (.int .u64) (V.i (if (4611686018427387905:Int)<(IntKind.u64.wrap (x0*x1)) then (4611686018427387905:Int) else (IntKind.u64.wrap (x0*x1))))) [])
theorem Zlu (Q:QD) (x0 x1:Int):ZiG Q x0 x1=ZiH Q x0 x1:=by kernel_rfl
def Zlj (a0 a1:Int) (Q:QD):Prop :=
 iff (a0 == (0:Int)) (True∧Q (.v (.int .u64) (V.i 0)) []) (iff (a1 == (0:Int)) (True∧Q (.v (.int .u64) (V.i 0)) []) (ZiG Q a0 a1))
theorem Zpe (a0 a1:Int) (Q:QD) (h:Zlj a0 a1 Q):cl Zd9 [.v (.int .u64) (V.i a0),.v (.int .u64) (V.i a1)] [] Q :=
 acalls2 (E:=ZgH) (envOk _ _ _ _ _) 0 Tryz.func74 (by kernel_rfl) h
def ZoL:Env:=envA [] [] [] [] []
def Zms (a0 a1:Int) (Q:QD):Prop :=
 True∧Q (.v (.int .u64) (V.i (if (4611686018427387905:Int)<(IntKind.u64.wrap (a0+a1)) then (4611686018427387905:Int) else (IntKind.u64.wrap (a0+a1))))) []
theorem Zpo (a0 a1:Int) (Q:QD) (h:Zms a0 a1 Q):cl Zgp [.v (.int .u64) (V.i a0),.v (.int .u64) (V.i a1)] [] Q :=
 acalls2 (E:=ZoL) (envOk _ _ _ _ _) 0 Tryz.func76 (by kernel_rfl) h
def Zmv:Env:=envA [] [] [] [] []
def Ziz (a0_0:ByteArray) (a0_1:Bool) (a0_2:LL) (Q:QD):Prop :=
 iff a0_1 ((a0_2.length≤big→iff (((a0_2.length:Int)) == (0:Int)) (cl Zcf [.v .str (V.s a0_0),.v .bool (V.b false)] [] fun r1 H2=>r1=(.v .bool (r1.V))∧H2=[]∧True∧Q (.v .bool (r1.V)) []) (True∧Q (.v .bool (V.b false)) []))) ((a0_2.length≤big→iff (decide (((a0_2.length:Int))≤(8:Int))) (cl Zcf [.v .str (V.s a0_0),.v .bool (V.b true)] [] fun r3 H4=>r3=(.v .bool (r3.V))∧H4=[]∧iff r3.V.bool (cl ZbG [.v (.sl Zb) (V.l a0_2),.fn Zal []] [] fun r5 H6=>r5=(.v .bool (r5.V))∧H6=[]∧True∧Q (.v .bool (V.b (!r5.V.bool))) []) (True∧Q (.v .bool (V.b false)) [])) (True∧Q (.v .bool (V.b false)) [])))
theorem Zof (a0_0:ByteArray) (a0_1:Bool) (a0_2:LL) (Q:QD) (h:Ziz a0_0 a0_1 a0_2 Q):cl Zcc [.agg [.v .str (V.s a0_0),.v .bool (V.b a0_1),.v (.sl Zb) (V.l a0_2)]] [] Q :=
 acalls2 (E:=Zmv) (envOk _ _ _ _ _) 0 Tryz.func84 (by kernel_rfl) h
def Zn6:Env:=envA [] [] [] [] []
def Zll (a0_0:ByteArray) (a0_1:Bool) (a0_2:LL) (Q:QD):Prop :=
 cl Zfs [.agg [.v .str (V.s a0_0),.v .bool (V.b a0_1),.v (.sl Zb) (V.l a0_2)]] [] fun r1 H2=>r1=(.v (.int .i64) (r1.V))∧H2=[]∧iff (decide (r1.V.int≤(4000:Int))) (cl Zfh [.agg [.v .str (V.s a0_0),.v .bool (V.b a0_1),.v (.sl Zb) (V.l a0_2)]] [] fun r3 H4=>r3=(.v (.int .i64) (r3.V))∧H4=[]∧True∧Q (.v .bool (V.b (decide (r3.V.int≤(200:Int))))) []) (True∧Q (.v .bool (V.b false)) [])
theorem Zo3 (a0_0:ByteArray) (a0_1:Bool) (a0_2:LL) (Q:QD) (h:Zll a0_0 a0_1 a0_2 Q):cl Zi3 [.agg [.v .str (V.s a0_0),.v .bool (V.b a0_1),.v (.sl Zb) (V.l a0_2)]] [] Q :=
 acalls2 (E:=Zn6) (envOk _ _ _ _ _) 0 Tryz.func85 (by kernel_rfl) h
def Zot:Env:=envA [] [] [1] [] []
def ZoQ (a0_0:ByteArray) (a0_1:Bool) (a0_2:LL) (Q:QD):Prop :=
 True∧Q (.fn Zak [.elt Zb ([V.s a0_0,V.b a0_1,V.l a0_2]) 0]) []
theorem Zpf (a0_0:ByteArray) (a0_1:Bool) (a0_2:LL) (Q:QD) (h:ZoQ a0_0 a0_1 a0_2 Q):cl ZgC [.agg [.v .str (V.s a0_0),.v .bool (V.b a0_1),.v (.sl Zb) (V.l a0_2)]] [] Q :=
 acalls2 (E:=Zot) (envOk _ _ _ _ _) 0 Tryz.func86 (by kernel_rfl) h
def Zn:Env:=envA [(6,(.undef 1)::ua 4 2 (ua 10 3 (ua 22 2 ((.undef 38)::ua 42 17 ((.dead 10)::(.dead 48)::da 56 2 ([.ownT 8 104 Zl])))))),(16,ua 0 2 (ua 3 3 (ua 10 5 (ua 17 7 (ua 38 36 (ua 77 26 ([.dead 3,.dead 17,.dead 83,.dead 87,.dead 98]))))))),(20,ua 0 2 (ua 3 3 (ua 10 5 (ua 17 2 (ua 20 4 (ua 38 36 (ua 77 10 (ua 88 15 ([.dead 17,.dead 98])))))))))] [(2,11,[],[]),(13,15,[],[])] [] [] []
def Ziu (Q:QD):Post:=blockK 0 (seqJ Zn (fnAt [1,1,1,1] Tryz.f88) (endK Zn Tryz.f88 Q))
def ZdI (Q:QD):Post:=blockK 2 (seqJ Zn (fnAt [1,1,1,1,1,1,1] Tryz.f88) (endK Zn Tryz.f88 Q))
def Zim (Q:QD) (m1:Nat):Post:=blockK 4 (seqJ Zn (fnAt [1,1,1,1,1,1,0,1,0,0,1,1,0,0,1,1,1] Tryz.f88) (blockK 3 (seqJ Zn (fnAt [1,1,1,1,1,1,0,1,0,0,1,1,1] Tryz.f88) (loopK (adj (Zn.adj 16)) (iter (adj (Zn.adj 16)) (evCode Zn (fnAt [1,1,1,1,1,1,0,1,0,0] Tryz.f88)) (ZdI Q) m1) (ZdI Q)))))
@[irreducible] def Zar (Q:QD) (m1 m2:Nat) (x8n:Nat) (x19 x74:V) (x75 x76:Int) (y73:LL) (y87_x:V) (y87n:Nat) (y87s:List Nat) (y104:LL) (h0_0 h0_1:V):Prop :=
 iter (adj (Zn.adj 20)) (evCode Zn (fnAt [1,1,1,1,1,1,0,1,0,0,1,1,0,0,1,1,0,1,0,0] Tryz.f88)) (Zim Q m1) m2 ⟨un 2 (.skip::un 3 (sk 2 ((.osl (.loc 104) x8n)::.skip::un 5 ((.mp (.loc 73))::.skip::un 2 ((.v .bool (x19))::un 4 (sk 14 (un 36 ((.v (.sl Za) (x74))::(.v (.int .i64) (V.i x75))::(.v (.int .i64) (V.i x76))::un 10 ((.ptr (.loc 87) 0)::un 15 ([.skip])))))))))),dd 73 ((.map Ze y73)::dd 13 ((.iter Ze (.v (.mp Ze) (y87_x)) y87n y87s)::dd 16 ([.row Zl y104])))⟩ [.cells [.v (.sl Zf) (h0_0),.v (.sl Zc) (h0_1)]]
@[irreducible] def Zaj (Q:QD) (m1:Nat) (x8n:Nat) (x74:V) (x75 x76:Int) (y73 y104:LL) (h0_0 h0_1:V):Prop :=
 iter (adj (Zn.adj 16)) (evCode Zn (fnAt [1,1,1,1,1,1,0,1,0,0] Tryz.f88)) (ZdI Q) m1 ⟨un 2 (.skip::un 3 (sk 2 ((.osl (.loc 104) x8n)::.skip::un 5 ((.mp (.loc 73))::.skip::un 7 (sk 14 (un 36 ((.v (.sl Za) (x74))::(.v (.int .i64) (V.i x75))::(.v (.int .i64) (V.i x76))::un 26 ([.skip])))))))),dd 73 ((.map Ze y73)::dd 30 ([.row Zl y104]))⟩ [.cells [.v (.sl Zf) (h0_0),.v (.sl Zc) (h0_1)]]
@[irreducible] def Zba (Q:QD) (m0:Nat) (x8n:Nat) (x39:LL) (x40 x41:Int) (y3_0:ByteArray) (y3_1:Bool) (y3_2 y104:LL) (h0_0 h0_1:V):Prop :=
 iter (adj (Zn.adj 6)) (evCode Zn (fnAt [1,1,1,0,1,0,0] Tryz.f88)) (Ziu Q) m0 ⟨(.ptr (.own 0) 0)::.undef::.skip::(.ptr (.loc 3) 0)::un 2 (sk 2 ((.osl (.loc 104) x8n)::.skip::un 3 (sk 9 (un 2 (sk 14 (.undef::(.v (.sl Zb) (V.l x39))::(.v (.int .i64) (V.i x40))::(.v (.int .i64) (V.i x41))::un 17 (sk 45 ([])))))))),dd 3 ((.cells [.v .str (V.s y3_0),.v .bool (V.b y3_1),.v (.sl Zb) (V.l y3_2)])::dd 100 ([.row Zl y104]))⟩ [.cells [.v (.sl Zf) (h0_0),.v (.sl Zc) (h0_1)]]
def ZdH (Q:QD) (m1 m2:Nat) (x8n:Nat) (x19 x74:V) (x75 x76:Int) (y73:LL) (y87_x:V) (y87n:Nat) (y87s:List Nat) (y104:LL) (h0_0 h0_1:V):Prop :=
 y87_x.list.length=y87n∧((∀ j:Nat,j<y87n→j∈y87s)→iff (!x19.bool) ((True∧True∧True)∧Q (.tup [.v (.mp Ze) (V.l ([])),.v (.int .i64) (V.i 3)]) [.cells [.v (.sl Zf) (h0_0),.v (.sl Zc) (h0_1)]]) (Zaj Q m1 x8n x74 x75 (IntKind.i64.wrap (x76+(1:Int))) y73 y104 h0_0 h0_1))∧(∀ j1:Nat,j1<y87n→j1 ∉ y87s→y87s.length<y87n→y87_x.list.length=y87n∧iff x19.bool (cl ZbU [.mp (.own 0),.v .str ((y87_x.list.getD j1 []).headD V.none),.v (.int .u64) (((y87_x.list.getD j1 []).drop 1).headD V.none)] [.map Ze y73] fun r2 H3=>r2=(.v .bool (r2.V))∧H3=[.map Ze ((H3.headD .dead).xs)]∧Zar Q m1 m2 x8n r2.V x74 x75 x76 ((H3.headD .dead).xs) y87_x y87n (j1::y87s) y104 h0_0 h0_1) (Zar Q m1 m2 x8n (V.b false) x74 x75 x76 y73 y87_x y87n (j1::y87s) y104 h0_0 h0_1))
theorem Zg2 (Q:QD) (m1 m2:Nat) (x8n:Nat) (x19 x74:V) (x75 x76:Int) (y73:LL) (y87_x:V) (y87n:Nat) (y87s:List Nat) (y104:LL) (h0_0 h0_1:V):Zar Q m1 (m2+1) x8n x19 x74 x75 x76 y73 y87_x y87n y87s y104 h0_0 h0_1=ZdH Q m1 m2 x8n x19 x74 x75 x76 y73 y87_x y87n y87s y104 h0_0 h0_1:=by kernel_rfl
theorem Zg1 (Q:QD) (m1:Nat):RuleG12 (Zar Q m1) (ZdH Q m1):=ruleG12 _ _ (Zg2 Q m1)
def Zid (Q:QD) (m1:Nat) (x8n:Nat) (x74:V) (x75 x76:Int) (y73 y104:LL) (h0_0 h0_1:V):Prop :=
 iff (decide (x76<x75)) (0≤x76∧x76<x74.list.length∧cl ZeP [.agg [.v (.int .u64) (((x74.list.getD x76.toNat []).drop 0).headD V.none),.v (.sl ZA) ((((x74.list.getD x76.toNat []).drop 0).tail).headD V.none)],.osl (.own 0) x8n] [.row Zl y104] fun r1 H2=>r1=(.tup [.v (.mp Ze) ((r1.parts.headD .undef).V),.v .bool ((r1.parts.tail.headD .undef).V)])∧H2=[.row Zl ((H2.headD .dead).xs)]∧∃ m2,Zar Q m1 m2 x8n ((r1.parts.tail.headD .undef).V) x74 x75 x76 y73 ((r1.parts.headD .undef).V) ((((r1.parts.headD .undef).V).list).length) (([]:List Nat)) ((H2.headD .dead).xs) h0_0 h0_1) ((True∧True∧True)∧Q (.tup [.v (.mp Ze) (V.l y73),.v (.int .i64) (V.i 0)]) [.cells [.v (.sl Zf) (h0_0),.v (.sl Zc) (h0_1)]])
theorem ZgV (Q:QD) (m1:Nat) (x8n:Nat) (x74:V) (x75 x76:Int) (y73 y104:LL) (h0_0 h0_1:V):Zaj Q (m1+1) x8n x74 x75 x76 y73 y104 h0_0 h0_1=Zid Q m1 x8n x74 x75 x76 y73 y104 h0_0 h0_1:=by kernel_rfl
theorem ZgK (Q:QD) (x8n:Nat) (x74 h0_0 h0_1:V) (n:Nat) (hb:n≤big) (J:Nat→LL→LL→Prop)
  (step:∀ (k:Nat) (y73 y104:LL),k<n→J k y73 y104→∀ m1:Nat,(∀ (y73' y104':LL),J (k+1) y73' y104'→Zaj Q m1 x8n x74 (n:Int) (IntKind.i64.wrap ((k:Int)+(1:Int))) y73' y104' h0_0 h0_1)→(0≤(k:Int)∧(k:Int)<x74.list.length∧cl ZeP [.agg [.v (.int .u64) (((x74.list.getD k []).drop 0).headD V.none),.v (.sl ZA) ((((x74.list.getD k []).drop 0).tail).headD V.none)],.osl (.own 0) x8n] [.row Zl y104] fun r1 H2=>r1=(.tup [.v (.mp Ze) ((r1.parts.headD .undef).V),.v .bool ((r1.parts.tail.headD .undef).V)])∧H2=[.row Zl ((H2.headD .dead).xs)]∧∃ m2,Zar Q m1 m2 x8n ((r1.parts.tail.headD .undef).V) x74 (n:Int) (k:Int) y73 ((r1.parts.headD .undef).V) ((((r1.parts.headD .undef).V).list).length) (([]:List Nat)) ((H2.headD .dead).xs) h0_0 h0_1))
  (last:∀ (y73 y104:LL),J n y73 y104→((True∧True∧True)∧Q (.tup [.v (.mp Ze) (V.l y73),.v (.int .i64) (V.i 0)]) [.cells [.v (.sl Zf) (h0_0),.v (.sl Zc) (h0_1)]]))
  (k:Nat) (y73 y104:LL) (le0:k≤n) (hj:J k y73 y104):∃ m1,Zaj Q m1 x8n x74 (n:Int) ((k:Int)) y73 y104 h0_0 h0_1:=by
 exact rangeG2 n hb J (fun m1 i y73 y104=>Zaj Q m1 x8n x74 (n:Int) i y73 y104 h0_0 h0_1) (fun m1 i y73 y104=>ZgV Q m1 x8n x74 (n:Int) i y73 y104 h0_0 h0_1) (fun k y73 y104 hl_ hj_ m_ ih_=>step k y73 y104 hl_ hj_ m_ ih_) last k y73 y104 le0 hj
def Zil (Q:QD) (m0:Nat) (x8n:Nat) (x39:LL) (x40 x41:Int) (y3_0:ByteArray) (y3_1:Bool) (y3_2 y104:LL) (h0_0 h0_1:V):Prop :=
 iff (decide (x41<x40)) (0≤x41∧x41<x39.length∧cl Zbx [.ptr (.own 0) 0,.agg [.v .str (((x39.getD x41.toNat []).drop 0).headD V.none),.v .bool ((((x39.getD x41.toNat []).drop 0).tail).headD V.none),.v (.sl Zb) (((((x39.getD x41.toNat []).drop 0).tail).tail).headD V.none)]] [.cells [.v (.sl Zf) (h0_0),.v (.sl Zc) (h0_1)]] fun r1 H2=>r1=(.tup [.v (.mp Ze) ((r1.parts.headD .undef).V),.v (.int .i64) ((r1.parts.tail.headD .undef).V)])∧H2=[.cells [.v (.sl Zf) ((((H2.headD .dead).cs).headD .undef).V),.v (.sl Zc) (((((H2.headD .dead).cs).tail).headD .undef).V)]]∧iff ((((r1.parts.tail.headD .undef).V).int) != (0:Int)) ((True∧True∧True)∧Q (.tup [.v (.mp Ze) (V.l ([])),.v (.int .i64) ((r1.parts.tail.headD .undef).V)]) [.cells [.v (.sl Zf) ((((H2.headD .dead).cs).headD .undef).V),.v (.sl Zc) (((((H2.headD .dead).cs).tail).headD .undef).V)]]) (y104.length=x8n∧x8n+([[(r1.parts.headD .undef).V]]).length≤lim∧Zba Q m0 (x8n+([[(r1.parts.headD .undef).V]]).length) x39 x40 (IntKind.i64.wrap (x41+(1:Int))) y3_0 y3_1 y3_2 (y104++([[(r1.parts.headD .undef).V]])) ((((H2.headD .dead).cs).headD .undef).V) (((((H2.headD .dead).cs).tail).headD .undef).V))) ((∃ r3:D,cl ZB [.v (.sl Zf) (h0_0),.agg [.v .str (V.s y3_0),.v (.int .i64) (V.i ((y3_2.length:Int)))]] [] (fun r H'=>r=(.tup [.v (.sl Za) ((r3.parts.headD .undef).V),.v .bool ((r3.parts.tail.headD .undef).V)])∧H'=[])∧((((r3.parts.headD .undef).V).list).length≤big→∃ m1,Zaj Q m1 x8n ((r3.parts.headD .undef).V) (((((r3.parts.headD .undef).V).list).length:Int)) 0 (([]:List (List V))) y104 h0_0 h0_1)))
theorem ZgW (Q:QD) (m0:Nat) (x8n:Nat) (x39:LL) (x40 x41:Int) (y3_0:ByteArray) (y3_1:Bool) (y3_2 y104:LL) (h0_0 h0_1:V):Zba Q (m0+1) x8n x39 x40 x41 y3_0 y3_1 y3_2 y104 h0_0 h0_1=Zil Q m0 x8n x39 x40 x41 y3_0 y3_1 y3_2 y104 h0_0 h0_1:=by kernel_rfl
theorem Zgz (Q:QD) (x39:LL) (y3_0:ByteArray) (y3_1:Bool) (y3_2:LL) (n:Nat) (hb:n≤big) (J:Nat→Nat→LL→V→V→Prop)
  (step:∀ (k:Nat) (x8n:Nat) (y104:LL) (h0_0 h0_1:V),k<n→J k x8n y104 h0_0 h0_1→∀ K:Nat→LL→V→V→Prop,(∀ (x8n':Nat) (y104':LL) (h0_0' h0_1':V),J (k+1) x8n' y104' h0_0' h0_1'→K x8n' y104' h0_0' h0_1')→(0≤(k:Int)∧(k:Int)<x39.length∧cl Zbx [.ptr (.own 0) 0,.agg [.v .str (((x39.getD k []).drop 0).headD V.none),.v .bool ((((x39.getD k []).drop 0).tail).headD V.none),.v (.sl Zb) (((((x39.getD k []).drop 0).tail).tail).headD V.none)]] [.cells [.v (.sl Zf) (h0_0),.v (.sl Zc) (h0_1)]] fun r1 H2=>r1=(.tup [.v (.mp Ze) ((r1.parts.headD .undef).V),.v (.int .i64) ((r1.parts.tail.headD .undef).V)])∧H2=[.cells [.v (.sl Zf) ((((H2.headD .dead).cs).headD .undef).V),.v (.sl Zc) (((((H2.headD .dead).cs).tail).headD .undef).V)]]∧iff ((((r1.parts.tail.headD .undef).V).int) != (0:Int)) ((True∧True∧True)∧Q (.tup [.v (.mp Ze) (V.l ([])),.v (.int .i64) ((r1.parts.tail.headD .undef).V)]) [.cells [.v (.sl Zf) ((((H2.headD .dead).cs).headD .undef).V),.v (.sl Zc) (((((H2.headD .dead).cs).tail).headD .undef).V)]]) (y104.length=x8n∧x8n+([[(r1.parts.headD .undef).V]]).length≤lim∧K (x8n+([[(r1.parts.headD .undef).V]]).length) (y104++([[(r1.parts.headD .undef).V]])) ((((H2.headD .dead).cs).headD .undef).V) (((((H2.headD .dead).cs).tail).headD .undef).V))))
  (last:∀ (x8n:Nat) (y104:LL) (h0_0 h0_1:V),J n x8n y104 h0_0 h0_1→((∃ r3:D,cl ZB [.v (.sl Zf) (h0_0),.agg [.v .str (V.s y3_0),.v (.int .i64) (V.i ((y3_2.length:Int)))]] [] (fun r H'=>r=(.tup [.v (.sl Za) ((r3.parts.headD .undef).V),.v .bool ((r3.parts.tail.headD .undef).V)])∧H'=[])∧((((r3.parts.headD .undef).V).list).length≤big→∃ m1,Zaj Q m1 x8n ((r3.parts.headD .undef).V) (((((r3.parts.headD .undef).V).list).length:Int)) 0 (([]:List (List V))) y104 h0_0 h0_1))))
  (k:Nat) (x8n:Nat) (y104:LL) (h0_0 h0_1:V) (le0:k≤n) (hj:J k x8n y104 h0_0 h0_1):∃ m0,Zba Q m0 x8n x39 (n:Int) ((k:Int)) y3_0 y3_1 y3_2 y104 h0_0 h0_1:=by
 exact rangeG4 n hb J (fun m0 i x8n y104 h0_0 h0_1=>Zba Q m0 x8n x39 (n:Int) i y3_0 y3_1 y3_2 y104 h0_0 h0_1) (fun m0 i x8n y104 h0_0 h0_1=>ZgW Q m0 x8n x39 (n:Int) i y3_0 y3_1 y3_2 y104 h0_0 h0_1) (fun k x8n y104 h0_0 h0_1 hl_ hj_ m_ ih_=>step k x8n y104 h0_0 h0_1 hl_ hj_ _ ih_) last k x8n y104 h0_0 h0_1 le0 hj
def ZfR (a1_0:ByteArray) (a1_1:Bool) (a1_2 h0_0 h0_1:LL) (Q:QD):Prop :=
 iff a1_1 ((∃ r1:D,cl Zbm [.v (.sl Zc) (V.l h0_1),.v .str (V.s a1_0)] [] (fun r H'=>r=(.tup [.v (.int .i64) ((r1.parts.headD .undef).V),.v .bool ((r1.parts.tail.headD .undef).V)])∧H'=[])∧cl Zfe [.v (.int .i64) ((r1.parts.headD .undef).V),.v (.int .i64) (V.i 1)] [] fun r2 H3=>r2=(.v .str (r2.V))∧H3=[]∧(True∧True∧True)∧Q (.tup [.v (.mp Ze) (V.l (mset [.str] [r2.V] [V.i 1] (([]:List (List V))))),.v (.int .i64) (V.i 0)]) [.cells [.v (.sl Zf) (V.l h0_0),.v (.sl Zc) (V.l h0_1)]])) ((a1_2.length≤big→∃ m0,Zba Q m0 0 a1_2 ((a1_2.length:Int)) 0 a1_0 a1_1 a1_2 (([]:List (List V))) (V.l h0_0) (V.l h0_1)))
theorem Zk8 (a1_0:ByteArray) (a1_1:Bool) (a1_2 h0_0 h0_1:LL) (Q:QD) (h:ZfR a1_0 a1_1 a1_2 h0_0 h0_1 Q):cl Zbx [.ptr (.own 0) 0,.agg [.v .str (V.s a1_0),.v .bool (V.b a1_1),.v (.sl Zb) (V.l a1_2)]] [.cells [.v (.sl Zf) (V.l h0_0),.v (.sl Zc) (V.l h0_1)]] Q :=
 acalls2 (E:=Zn) (envOk _ _ _ _ _) 1 Tryz.func88 (by kernel_rfl) h
def Znx:Env:=envA [] [] [] [] []
def Zj1 (a0:ByteArray) (Q:QD):Prop :=
 iff (!(a0.toList == (ByteArray.mk #[]).toList)) ((a0.size≤big→0≤(IntKind.i64.wrap (((a0.size:Int)) - (1:Int)))∧(IntKind.i64.wrap (((a0.size:Int)) - (1:Int)))<a0.size∧True∧Q (.v .bool (V.b ((((a0.data.toList.getD ((IntKind.i64.wrap (((a0.size:Int)) - (1:Int)))).toNat 0).toNat:Int)) == (35:Int)))) [])) (True∧Q (.v .bool (V.b false)) [])
theorem ZoK (a0:ByteArray) (Q:QD) (h:Zj1 a0 Q):cl Zhq [.v .str (V.s a0)] [] Q :=
 acalls2 (E:=Znx) (envOk _ _ _ _ _) 0 Tryz.func92 (by kernel_rfl) h
def Zc9:Env:=envA [(2,ua 2 3 (ua 7 8 ([.dead 12])))] [] [] [] []
def ZlY (Q:QD):Post:=blockK 0 (seqJ Zc9 (fnAt [1,1] Tryz.f93) (endK Zc9 Tryz.f93 Q))
@[irreducible] def Zcq (Q:QD) (m0:Nat) (x0:ByteArray) (x5 x6:Int):Prop :=
 iter (adj (Zc9.adj 2)) (evCode Zc9 (fnAt [1,0,1,0,0] Tryz.f93)) (ZlY Q) m0 ⟨(.v .str (V.s x0))::.skip::un 3 ((.v (.int .i64) (V.i x5))::(.v (.int .i64) (V.i x6))::un 8 ([])),dd 15 ([])⟩ []
def ZlS (Q:QD) (m0:Nat) (x0:ByteArray) (x5 x6:Int):Prop :=
 iff (decide (x6<x5)) (0≤x6∧x6<x0.size∧cl ZfP [.v (.int .u8) (V.i (((x0.data.toList.getD x6.toNat 0).toNat:Int)))] [] fun r1 H2=>r1=(.v .bool (r1.V))∧H2=[]∧iff (!r1.V.bool) (True∧Q (.v .bool (V.b false)) []) (Zcq Q m0 x0 x5 (IntKind.i64.wrap (x6+(1:Int))))) (True∧Q (.v .bool (V.b true)) [])
theorem Zj5 (Q:QD) (m0:Nat) (x0:ByteArray) (x5 x6:Int):Zcq Q (m0+1) x0 x5 x6=ZlS Q m0 x0 x5 x6:=by kernel_rfl
theorem Zi1 (Q:QD) (x0:ByteArray) (n:Nat) (hb:n≤big) (J:Nat→Prop)
  (step:∀ (k:Nat),k<n→J k→∀ K:Prop,(J (k+1)→K)→(0≤(k:Int)∧(k:Int)<x0.size∧cl ZfP [.v (.int .u8) (V.i (((x0.data.toList.getD k 0).toNat:Int)))] [] fun r1 H2=>r1=(.v .bool (r1.V))∧H2=[]∧iff (!r1.V.bool) (True∧Q (.v .bool (V.b false)) []) (K)))
  (last:J n→(True∧Q (.v .bool (V.b true)) []))
  (k:Nat) (le0:k≤n) (hj:J k):∃ m0,Zcq Q m0 x0 (n:Int) ((k:Int)):=by
 exact rangeG0 n hb J (fun m0 i=>Zcq Q m0 x0 (n:Int) i) (fun m0 i=>Zj5 Q m0 x0 (n:Int) i) (fun k hl_ hj_ m_ ih_=>step k hl_ hj_ _ ih_) last k le0 hj
def Zm2 (a0:ByteArray) (Q:QD):Prop :=
 (a0.size≤big→∃ m0,Zcq Q m0 a0 ((a0.size:Int)) 0)
theorem ZnW (a0:ByteArray) (Q:QD) (h:Zm2 a0 Q):cl Zgt [.v .str (V.s a0)] [] Q :=
 acalls2 (E:=Zc9) (envOk _ _ _ _ _) 0 Tryz.func93 (by kernel_rfl) h
def Zjh:Env:=envA [] [] [] [] []
def ZfN (a0 a1:Int) (Q:QD):Prop :=
 iff (decide (a0<a1)) (True∧Q (.v (.int .i64) (V.i (-1))) []) (iff (decide (a0 > a1)) (True∧Q (.v (.int .i64) (V.i 1)) []) (True∧Q (.v (.int .i64) (V.i 0)) []))
theorem Zkl (a0 a1:Int) (Q:QD) (h:ZfN a0 a1 Q):cl Zah [.v (.int .i64) (V.i a0),.v (.int .i64) (V.i a1)] [] Q :=
 acalls2 (E:=Zjh) (envOk _ _ _ _ _) 0 Tryz.func94 (by kernel_rfl) h
def ZbY:Env:=envA [(6,ua 0 3 (ua 4 3 (ua 16 11 (ua 30 7 ([.dead 1,.dead 4,.dead 34]))))),(3000005,(.undef 0)::(.undef 2)::ua 5 2 (ua 16 10 ([.dead 18,.dead 23])))] [] [] [] [5]
def Zmp (Q:QD):Post:=blockK 0 (seqJ ZbY (fnAt [1,1,1,1] Tryz.f95) (endK ZbY Tryz.f95 Q))
@[irreducible] def Zc2 (Q:QD) (m0:Nat) (x27:LL) (x28 x29:Int):Prop :=
 iter (adj (ZbY.adj 6)) (evCode ZbY (fnAt [1,1,1,0,1,0,0] Tryz.f95)) (Zmp Q) m0 ⟨un 3 (.skip::un 3 (sk 9 (un 11 ((.v (.sl Zb) (V.l x27))::(.v (.int .i64) (V.i x28))::(.v (.int .i64) (V.i x29))::un 7 ([]))))),dd 37 ([])⟩ []
@[irreducible] def Zhc (Q:QD) (y1_0:ByteArray) (y1_1:Bool) (y1_2:LL):Prop :=
 joinM (evCode ZbY (fnAt [1,1,1] Tryz.f95)) ⟨.undef::(.ptr (.loc 1) 0)::.undef::sk 2 (un 2 (sk 9 (un 10 (sk 11 ([]))))),.dead::(.cells [.v .str (V.s y1_0),.v .bool (V.b y1_1),.v (.sl Zb) (V.l y1_2)])::dd 35 ([])⟩ [] (endK ZbY Tryz.f95 Q)
def ZmP (Q:QD) (m0:Nat) (x27:LL) (x28 x29:Int):Prop :=
 iff (decide (x29<x28)) (0≤x29∧x29<x27.length∧cl Zfc [.agg [.v .str (((x27.getD x29.toNat []).drop 0).headD V.none),.v .bool ((((x27.getD x29.toNat []).drop 0).tail).headD V.none),.v (.sl Zb) (((((x27.getD x29.toNat []).drop 0).tail).tail).headD V.none)]] [] fun r1 H2=>r1=(.v .bool (r1.V))∧H2=[]∧iff (!r1.V.bool) (True∧Q (.v .bool (V.b false)) []) (Zc2 Q m0 x27 x28 (IntKind.i64.wrap (x29+(1:Int))))) (True∧Q (.v .bool (V.b true)) [])
theorem Zlh (Q:QD) (m0:Nat) (x27:LL) (x28 x29:Int):Zc2 Q (m0+1) x27 x28 x29=ZmP Q m0 x27 x28 x29:=by kernel_rfl
theorem Zjl (Q:QD) (x27:LL) (n:Nat) (hb:n≤big) (J:Nat→Prop)
  (step:∀ (k:Nat),k<n→J k→∀ K:Prop,(J (k+1)→K)→(0≤(k:Int)∧(k:Int)<x27.length∧cl Zfc [.agg [.v .str (((x27.getD k []).drop 0).headD V.none),.v .bool ((((x27.getD k []).drop 0).tail).headD V.none),.v (.sl Zb) (((((x27.getD k []).drop 0).tail).tail).headD V.none)]] [] fun r1 H2=>r1=(.v .bool (r1.V))∧H2=[]∧iff (!r1.V.bool) (True∧Q (.v .bool (V.b false)) []) (K)))
  (last:J n→(True∧Q (.v .bool (V.b true)) []))
  (k:Nat) (le0:k≤n) (hj:J k):∃ m0,Zc2 Q m0 x27 (n:Int) ((k:Int)):=by
 exact rangeG0 n hb J (fun m0 i=>Zc2 Q m0 x27 (n:Int) i) (fun m0 i=>Zlh Q m0 x27 (n:Int) i) (fun k hl_ hj_ m_ ih_=>step k hl_ hj_ _ ih_) last k le0 hj
def Zml (Q:QD) (y1_0:ByteArray) (y1_1:Bool) (y1_2:LL):Prop :=
 (y1_2.length≤big→∃ m0,Zc2 Q m0 y1_2 ((y1_2.length:Int)) 0)
theorem ZkW (Q:QD) (y1_0:ByteArray) (y1_1:Bool) (y1_2:LL):Zhc Q y1_0 y1_1 y1_2=Zml Q y1_0 y1_1 y1_2:=by kernel_rfl
def Zke (a0_0:ByteArray) (a0_1:Bool) (a0_2:LL) (Q:QD):Prop :=
 iff a0_1 (cl Zb9 [.v .str (V.s a0_0),.v .bool (V.b false)] [] fun r1 H2=>r1=(.v .bool (r1.V))∧H2=[]∧iff r1.V.bool ((a0_2.length≤big→True∧Q (.v .bool (V.b (((a0_2.length:Int)) == (0:Int)))) [])) (True∧Q (.v .bool (V.b false)) [])) (cl Zb9 [.v .str (V.s a0_0),.v .bool (V.b true)] [] fun r3 H4=>r3=(.v .bool (r3.V))∧H4=[]∧iff (!r3.V.bool) (True∧Q (.v .bool (V.b false)) []) ((a0_2.length≤big→iff (decide (((a0_2.length:Int)) > (8:Int))) (True∧Q (.v .bool (V.b false)) []) (Zhc Q a0_0 a0_1 a0_2))))
theorem ZoM (a0_0:ByteArray) (a0_1:Bool) (a0_2:LL) (Q:QD) (h:Zke a0_0 a0_1 a0_2 Q):cl Zfc [.agg [.v .str (V.s a0_0),.v .bool (V.b a0_1),.v (.sl Zb) (V.l a0_2)]] [] Q :=
 acalls2 (E:=ZbY) (envOk _ _ _ _ _) 0 Tryz.func95 (by kernel_rfl) h
def Ze9:Env:=envA [(3,ua 0 3 (ua 5 2 (ua 10 8 ([.dead 1,.dead 5,.dead 15]))))] [] [] [] []
def Zol (Q:QD):Post:=blockK 0 (seqJ Ze9 (fnAt [1,1,1] Tryz.f96) (endK Ze9 Tryz.f96 Q))
@[irreducible] def Zen (Q:QD) (m0:Nat) (x3:Int) (x7:LL) (x8 x9:Int):Prop :=
 iter (adj (Ze9.adj 3)) (evCode Ze9 (fnAt [1,1,0,1,0,0] Tryz.f96)) (Zol Q) m0 ⟨un 3 ((.v (.int .i64) (V.i x3))::.skip::un 2 ((.v (.sl Zb) (V.l x7))::(.v (.int .i64) (V.i x8))::(.v (.int .i64) (V.i x9))::un 8 ([.skip]))),dd 19 ([])⟩ []
def Zoh (Q:QD) (m0:Nat) (x3:Int) (x7:LL) (x8 x9:Int):Prop :=
 iff (decide (x9<x8)) (0≤x9∧x9<x7.length∧cl Zgg [.agg [.v .str (((x7.getD x9.toNat []).drop 0).headD V.none),.v .bool ((((x7.getD x9.toNat []).drop 0).tail).headD V.none),.v (.sl Zb) (((((x7.getD x9.toNat []).drop 0).tail).tail).headD V.none)]] [] fun r1 H2=>r1=(.v (.int .i64) (r1.V))∧H2=[]∧Zen Q m0 (IntKind.i64.wrap (x3+r1.V.int)) x7 x8 (IntKind.i64.wrap (x9+(1:Int)))) (True∧Q (.v (.int .i64) (V.i x3)) [])
theorem Zmo (Q:QD) (m0:Nat) (x3:Int) (x7:LL) (x8 x9:Int):Zen Q (m0+1) x3 x7 x8 x9=Zoh Q m0 x3 x7 x8 x9:=by kernel_rfl
theorem Zln (Q:QD) (x7:LL) (n:Nat) (hb:n≤big) (J:Nat→Int→Prop)
  (step:∀ (k:Nat) (x3:Int),k<n→J k x3→∀ K:Int→Prop,(∀ (x3':Int),J (k+1) x3'→K x3')→(0≤(k:Int)∧(k:Int)<x7.length∧cl Zgg [.agg [.v .str (((x7.getD k []).drop 0).headD V.none),.v .bool ((((x7.getD k []).drop 0).tail).headD V.none),.v (.sl Zb) (((((x7.getD k []).drop 0).tail).tail).headD V.none)]] [] fun r1 H2=>r1=(.v (.int .i64) (r1.V))∧H2=[]∧K (IntKind.i64.wrap (x3+r1.V.int))))
  (last:∀ (x3:Int),J n x3→(True∧Q (.v (.int .i64) (V.i x3)) []))
  (k:Nat) (x3:Int) (le0:k≤n) (hj:J k x3):∃ m0,Zen Q m0 x3 x7 (n:Int) ((k:Int)):=by
 exact rangeG1 n hb J (fun m0 i x3=>Zen Q m0 x3 x7 (n:Int) i) (fun m0 i x3=>Zmo Q m0 x3 x7 (n:Int) i) (fun k x3 hl_ hj_ m_ ih_=>step k x3 hl_ hj_ _ ih_) last k x3 le0 hj
def Zo6 (a0_0:ByteArray) (a0_1:Bool) (a0_2:LL) (Q:QD):Prop :=
 (a0_2.length≤big→∃ m0,Zen Q m0 1 a0_2 ((a0_2.length:Int)) 0)
theorem Zpi (a0_0:ByteArray) (a0_1:Bool) (a0_2:LL) (Q:QD) (h:Zo6 a0_0 a0_1 a0_2 Q):cl Zgg [.agg [.v .str (V.s a0_0),.v .bool (V.b a0_1),.v (.sl Zb) (V.l a0_2)]] [] Q :=
 acalls2 (E:=Ze9) (envOk _ _ _ _ _) 0 Tryz.func96 (by kernel_rfl) h
def ZeJ:Env:=envA [(3,ua 0 3 (ua 5 2 (ua 10 8 ((.dead 1)::(.dead 5)::da 15 2 ([])))))] [] [] [] []
def ZnN (Q:QD):Post:=blockK 0 (seqJ ZeJ (fnAt [1,1,1] Tryz.f97) (endK ZeJ Tryz.f97 Q))
@[irreducible] def ZdY (Q:QD) (m0:Nat) (x3:Int) (x7:LL) (x8 x9:Int):Prop :=
 iter (adj (ZeJ.adj 3)) (evCode ZeJ (fnAt [1,1,0,1,0,0] Tryz.f97)) (ZnN Q) m0 ⟨un 3 ((.v (.int .i64) (V.i x3))::.skip::un 2 ((.v (.sl Zb) (V.l x7))::(.v (.int .i64) (V.i x8))::(.v (.int .i64) (V.i x9))::un 8 (sk 2 ([])))),dd 20 ([])⟩ []
def Zns (Q:QD) (m0:Nat) (x3:Int) (x7:LL) (x8 x9:Int):Prop :=
 iff (decide (x9<x8)) (0≤x9∧x9<x7.length∧cl Zfu [.agg [.v .str (((x7.getD x9.toNat []).drop 0).headD V.none),.v .bool ((((x7.getD x9.toNat []).drop 0).tail).headD V.none),.v (.sl Zb) (((((x7.getD x9.toNat []).drop 0).tail).tail).headD V.none)]] [] fun r1 H2=>r1=(.v (.int .i64) (r1.V))∧H2=[]∧ZdY Q m0 (if r1.V.int > x3 then r1.V.int else x3) x7 x8 (IntKind.i64.wrap (x9+(1:Int)))) (True∧Q (.v (.int .i64) (V.i (IntKind.i64.wrap (x3+(1:Int))))) [])
theorem Zlq (Q:QD) (m0:Nat) (x3:Int) (x7:LL) (x8 x9:Int):ZdY Q (m0+1) x3 x7 x8 x9=Zns Q m0 x3 x7 x8 x9:=by kernel_rfl
theorem ZkF (Q:QD) (x7:LL) (n:Nat) (hb:n≤big) (J:Nat→Int→Prop)
  (step:∀ (k:Nat) (x3:Int),k<n→J k x3→∀ K:Int→Prop,(∀ (x3':Int),J (k+1) x3'→K x3')→(0≤(k:Int)∧(k:Int)<x7.length∧cl Zfu [.agg [.v .str (((x7.getD k []).drop 0).headD V.none),.v .bool ((((x7.getD k []).drop 0).tail).headD V.none),.v (.sl Zb) (((((x7.getD k []).drop 0).tail).tail).headD V.none)]] [] fun r1 H2=>r1=(.v (.int .i64) (r1.V))∧H2=[]∧K (if r1.V.int > x3 then r1.V.int else x3)))
  (last:∀ (x3:Int),J n x3→(True∧Q (.v (.int .i64) (V.i (IntKind.i64.wrap (x3+(1:Int))))) []))
  (k:Nat) (x3:Int) (le0:k≤n) (hj:J k x3):∃ m0,ZdY Q m0 x3 x7 (n:Int) ((k:Int)):=by
 exact rangeG1 n hb J (fun m0 i x3=>ZdY Q m0 x3 x7 (n:Int) i) (fun m0 i x3=>Zlq Q m0 x3 x7 (n:Int) i) (fun k x3 hl_ hj_ m_ ih_=>step k x3 hl_ hj_ _ ih_) last k x3 le0 hj
def ZoR (a0_0:ByteArray) (a0_1:Bool) (a0_2:LL) (Q:QD):Prop :=
 (a0_2.length≤big→∃ m0,ZdY Q m0 0 a0_2 ((a0_2.length:Int)) 0)
theorem Zo7 (a0_0:ByteArray) (a0_1:Bool) (a0_2:LL) (Q:QD) (h:ZoR a0_0 a0_1 a0_2 Q):cl Zfu [.agg [.v .str (V.s a0_0),.v .bool (V.b a0_1),.v (.sl Zb) (V.l a0_2)]] [] Q :=
 acalls2 (E:=ZeJ) (envOk _ _ _ _ _) 0 Tryz.func97 (by kernel_rfl) h
def ZbE:Env:=envA [(4,(.undef 0)::(.undef 2)::(.undef 4)::ua 6 8 (ua 17 7 ([.dead 2,.dead 6,.dead 22]))),(3000003,(.undef 0)::(.undef 4)::ua 7 6 ([.dead 12]))] [] [] [] [3]
def Zlx (Q:QD):Post:=blockK 0 (seqJ ZbE (fnAt [1,1,1] Tryz.f98) (endK ZbE Tryz.f98 Q))
@[irreducible] def Zcw (Q:QD) (m0:Nat) (x1:V) (x14:LL) (x15 x16:Int):Prop :=
 iter (adj (ZbE.adj 4)) (evCode ZbE (fnAt [1,1,0,1,0,0] Tryz.f98)) (Zlx Q) m0 ⟨.undef::(.v (.sl Zc) (x1))::.undef::.skip::.undef::.skip::un 8 ((.v (.sl Zb) (V.l x14))::(.v (.int .i64) (V.i x15))::(.v (.int .i64) (V.i x16))::un 7 ([.skip])),dd 25 ([])⟩ []
@[irreducible] def Zd4 (Q:QD) (x1:V) (y2_0:ByteArray) (y2_1:Bool) (y2_2:LL):Prop :=
 joinM (evCode ZbE (fnAt [1,1] Tryz.f98)) ⟨.undef::(.v (.sl Zc) (x1))::(.ptr (.loc 2) 0)::.skip::.undef::sk 2 (un 6 (sk 12 ([]))),dd 2 ((.cells [.v .str (V.s y2_0),.v .bool (V.b y2_1),.v (.sl Zb) (V.l y2_2)])::dd 22 ([]))⟩ [] (endK ZbE Tryz.f98 Q)
def Zl8 (Q:QD) (m0:Nat) (x1:V) (x14:LL) (x15 x16:Int):Prop :=
 iff (decide (x16<x15)) (0≤x16∧x16<x14.length∧cl Zdx [.agg [.v .str (((x14.getD x16.toNat []).drop 0).headD V.none),.v .bool ((((x14.getD x16.toNat []).drop 0).tail).headD V.none),.v (.sl Zb) (((((x14.getD x16.toNat []).drop 0).tail).tail).headD V.none)],.v (.sl Zc) (x1)] [] fun r1 H2=>r1=(.v (.sl Zc) (r1.V))∧H2=[]∧Zcw Q m0 r1.V x14 x15 (IntKind.i64.wrap (x16+(1:Int)))) (True∧Q (.v (.sl Zc) (x1)) [])
theorem Zjn (Q:QD) (m0:Nat) (x1:V) (x14:LL) (x15 x16:Int):Zcw Q (m0+1) x1 x14 x15 x16=Zl8 Q m0 x1 x14 x15 x16:=by kernel_rfl
theorem Zjc (Q:QD) (x14:LL) (n:Nat) (hb:n≤big) (J:Nat→V→Prop)
  (step:∀ (k:Nat) (x1:V),k<n→J k x1→∀ K:V→Prop,(∀ (x1':V),J (k+1) x1'→K x1')→(0≤(k:Int)∧(k:Int)<x14.length∧cl Zdx [.agg [.v .str (((x14.getD k []).drop 0).headD V.none),.v .bool ((((x14.getD k []).drop 0).tail).headD V.none),.v (.sl Zb) (((((x14.getD k []).drop 0).tail).tail).headD V.none)],.v (.sl Zc) (x1)] [] fun r1 H2=>r1=(.v (.sl Zc) (r1.V))∧H2=[]∧K r1.V))
  (last:∀ (x1:V),J n x1→(True∧Q (.v (.sl Zc) (x1)) []))
  (k:Nat) (x1:V) (le0:k≤n) (hj:J k x1):∃ m0,Zcw Q m0 x1 x14 (n:Int) ((k:Int)):=by
 exact rangeG1 n hb J (fun m0 i x1=>Zcw Q m0 x1 x14 (n:Int) i) (fun m0 i x1=>Zjn Q m0 x1 x14 (n:Int) i) (fun k x1 hl_ hj_ m_ ih_=>step k x1 hl_ hj_ _ ih_) last k x1 le0 hj
def ZlO (Q:QD) (x1:V) (y2_0:ByteArray) (y2_1:Bool) (y2_2:LL):Prop :=
 (y2_2.length≤big→∃ m0,Zcw Q m0 x1 y2_2 ((y2_2.length:Int)) 0)
theorem ZjV (Q:QD) (x1:V) (y2_0:ByteArray) (y2_1:Bool) (y2_2:LL):Zd4 Q x1 y2_0 y2_1 y2_2=ZlO Q x1 y2_0 y2_1 y2_2:=by kernel_rfl
def ZiD (a0_0:ByteArray) (a0_1:Bool) (a0_2 a1:LL) (Q:QD):Prop :=
 iff a0_1 (cl Zhw [.v (.sl Zc) (V.l a1),.v .str (V.s a0_0)] [] fun r1 H2=>r1=(.v (.sl Zc) (r1.V))∧H2=[]∧Zd4 Q r1.V a0_0 a0_1 a0_2) (Zd4 Q (V.l a1) a0_0 a0_1 a0_2)
theorem Zos (a0_0:ByteArray) (a0_1:Bool) (a0_2 a1:LL) (Q:QD) (h:ZiD a0_0 a0_1 a0_2 a1 Q):cl Zdx [.agg [.v .str (V.s a0_0),.v .bool (V.b a0_1),.v (.sl Zb) (V.l a0_2)],.v (.sl Zc) (V.l a1)] [] Q :=
 acalls2 (E:=ZbE) (envOk _ _ _ _ _) 0 Tryz.func98 (by kernel_rfl) h
def Zoz:Env:=envA [] [] [] [] []
def ZmN (a0 a1:Int) (Q:QD):Prop :=
 0≤a0∧a0=a0∧a0≤lim∧(zeroRow [.int .i64] a0.toNat).length=a0.toNat∧0≤a1∧a1<a0.toNat∧(zeroRow [.int .i64] a0.toNat).length=a0.toNat∧a1.toNat<a0.toNat∧(a0.toNat=((zeroRow [.int .i64] a0.toNat).set a1.toNat (setV ((zeroRow [.int .i64] a0.toNat).getD a1.toNat []) 0 [V.i 1])).length)∧Q (.v (.sl ZA) (V.l ((zeroRow [.int .i64] a0.toNat).set a1.toNat (setV ((zeroRow [.int .i64] a0.toNat).getD a1.toNat []) 0 [V.i 1])))) []
theorem Zpn (a0 a1:Int) (Q:QD) (h:ZmN a0 a1 Q):cl Zgm [.v (.int .i64) (V.i a0),.v (.int .i64) (V.i a1)] [] Q :=
 acalls2 (E:=Zoz) (envOk _ _ _ _ _) 0 Tryz.func99 (by kernel_rfl) h
def Zm:Env:=envA [(3,(.undef 0)::ua 6 2 (ua 10 6 ((.undef 17)::ua 21 50 ([.dead 10,.dead 17,.dead 26,.dead 30,.dead 32,.dead 35,.dead 50,.dead 59,.dead 66,.dead 69,.plainT 8 Za])))),(8,(.undef 0)::ua 6 2 ((.undef 10)::ua 12 4 ((.undef 17)::ua 21 13 (ua 37 34 ([.dead 10,.dead 50]))))),(11,(.undef 0)::ua 6 2 ((.undef 10)::ua 13 3 ((.undef 17)::ua 21 13 (ua 37 4 (ua 43 28 ([.dead 50])))))),(19,(.undef 0)::ua 6 2 (ua 10 6 ((.undef 17)::ua 21 37 (ua 61 10 ([.dead 17,.dead 66,.plainT 8 Za])))))] [] [6000006] [(5000030,[⟨0,0,0⟩])] []
def Zdh (Q:QD):Post:=blockK 0 (seqJ Zm (fnAt [1,1,1] Tryz.f100) (endK Zm Tryz.f100 Q))
def Zfy (Q:QD) (m0:Nat):Post:=blockK 2 (seqJ Zm (fnAt [1,1,0,1,0,0,1,1,0,0,1,1,1,1] Tryz.f100) (blockK 1 (seqJ Zm (fnAt [1,1,0,1,0,0,1,1,1] Tryz.f100) (loopK (adj (Zm.adj 3)) (iter (adj (Zm.adj 3)) (evCode Zm (fnAt [1,1,0,1,0,0] Tryz.f100)) (Zdh Q) m0) (Zdh Q)))))
def ZmU (Q:QD) (m0:Nat):Post:=blockK 6 (seqJ Zm (fnAt [1,1,0,1,0,0,1,1,0,0,1,1,1,1,1] Tryz.f100) (blockK 1 (seqJ Zm (fnAt [1,1,0,1,0,0,1,1,1] Tryz.f100) (loopK (adj (Zm.adj 3)) (iter (adj (Zm.adj 3)) (evCode Zm (fnAt [1,1,0,1,0,0] Tryz.f100)) (Zdh Q) m0) (Zdh Q)))))
def Zmw (Q:QD) (m0 m1:Nat):Post:=blockK 4 (blockK 3 (seqJ Zm (fnAt [1,1,0,1,0,0,1,1,0,0,1,1,1,0,1,0,0,1,1,1] Tryz.f100) (loopK (adj (Zm.adj 8)) (iter (adj (Zm.adj 8)) (evCode Zm (fnAt [1,1,0,1,0,0,1,1,0,0,1,1,1,0,1,0,0] Tryz.f100)) (Zfy Q m0) m1) (Zfy Q m0))))
@[irreducible] def Zdc (Q:QD) (m0 m1 m2:Nat) (x1n:Nat) (x2:Int) (x8 x11:V) (x12:Int) (x18:LL) (x19 x20:Int) (x34:V) (x35 x36:Int) (x41:V) (x42:Int) (h0:LL):Prop :=
 iter (adj (Zm.adj 11)) (evCode Zm (fnAt [1,1,0,1,0,0,1,1,0,0,1,1,1,0,1,0,0,1,1,0,0,1,1,0,0] Tryz.f100)) (Zmw Q m0 m1) m2 ⟨.undef::(.osl (.own 0) x1n)::(.v (.int .i64) (V.i x2))::sk 3 (un 2 ((.v (.sl Za) (x8))::.skip::.undef::(.v (.sl Za) (x11))::(.v (.int .i64) (V.i x12))::un 3 (.skip::.undef::(.v (.sl Za) (V.l x18))::(.v (.int .i64) (V.i x19))::(.v (.int .i64) (V.i x20))::un 13 ((.v (.sl ZA) (x34))::(.v (.int .i64) (V.i x35))::(.v (.int .i64) (V.i x36))::un 4 ((.v (.int .i64) (x41))::(.v (.int .i64) (V.i x42))::un 28 ([.skip])))))),dd 72 ([])⟩ [.row Zab h0]
@[irreducible] def Zb6 (Q:QD) (m0 m3:Nat) (x1n:Nat) (x2:Int) (x8:V) (x18:LL) (x19 x20:Int) (x58:V) (x59 x60:Int) (h0:LL):Prop :=
 iter (adj (Zm.adj 19)) (evCode Zm (fnAt [1,1,0,1,0,0,1,1,0,0,1,1,1,1,0,1,0,0] Tryz.f100)) (ZmU Q m0) m3 ⟨.undef::(.osl (.own 0) x1n)::(.v (.int .i64) (V.i x2))::sk 3 (un 2 ((.v (.sl Za) (x8))::.skip::un 6 (.skip::.undef::(.v (.sl Za) (V.l x18))::(.v (.int .i64) (V.i x19))::(.v (.int .i64) (V.i x20))::un 37 ((.v (.sl Za) (x58))::(.v (.int .i64) (V.i x59))::(.v (.int .i64) (V.i x60))::un 10 ([.skip]))))),dd 72 ([])⟩ [.row Zab h0]
@[irreducible] def Zau (Q:QD) (m0 m1:Nat) (x1n:Nat) (x2:Int) (x8 x11:V) (x18:LL) (x19 x20:Int) (x34:V) (x35 x36:Int) (h0:LL):Prop :=
 iter (adj (Zm.adj 8)) (evCode Zm (fnAt [1,1,0,1,0,0,1,1,0,0,1,1,1,0,1,0,0] Tryz.f100)) (Zfy Q m0) m1 ⟨.undef::(.osl (.own 0) x1n)::(.v (.int .i64) (V.i x2))::sk 3 (un 2 ((.v (.sl Za) (x8))::.skip::.undef::(.v (.sl Za) (x11))::un 4 (.skip::.undef::(.v (.sl Za) (V.l x18))::(.v (.int .i64) (V.i x19))::(.v (.int .i64) (V.i x20))::un 13 ((.v (.sl ZA) (x34))::(.v (.int .i64) (V.i x35))::(.v (.int .i64) (V.i x36))::un 34 ([.skip]))))),dd 72 ([])⟩ [.row Zab h0]
@[irreducible] def ZaH (Q:QD) (m0:Nat) (x1n:Nat) (x2:Int) (x8:V) (x18:LL) (x19 x20:Int) (h0:LL):Prop :=
 iter (adj (Zm.adj 3)) (evCode Zm (fnAt [1,1,0,1,0,0] Tryz.f100)) (Zdh Q) m0 ⟨.undef::(.osl (.own 0) x1n)::(.v (.int .i64) (V.i x2))::sk 3 (un 2 ((.v (.sl Za) (x8))::.skip::un 6 (.skip::.undef::(.v (.sl Za) (V.l x18))::(.v (.int .i64) (V.i x19))::(.v (.int .i64) (V.i x20))::un 50 ([.skip])))),dd 72 ([])⟩ [.row Zab h0]
def ZfC (Q:QD) (m0 m1 m2:Nat) (x1n:Nat) (x2:Int) (x8 x11:V) (x12:Int) (x18:LL) (x19 x20:Int) (x34:V) (x35 x36:Int) (x41:V) (x42:Int) (h0:LL):Prop :=
 iff (decide (x42<x41.int)) (h0.length=x1n∧0≤x12∧x12<x1n∧h0.length=x1n∧x12.toNat<x1n∧cl ZfV [.v (.sl Za) (x11),.v (.sl Za) (((h0.getD x12.toNat []).drop 0).headD V.none)] [] fun r1 H2=>r1=(.tup [.v (.sl Za) ((r1.parts.headD .undef).V),.v .bool ((r1.parts.tail.headD .undef).V)])∧H2=[]∧iff (!(((r1.parts.tail.headD .undef).V).bool)) ((True∧True∧True)∧Q (.tup [.nil,.v .bool (V.b false)]) [.row Zab h0]) (Zdc Q m0 m1 m2 x1n x2 x8 ((r1.parts.headD .undef).V) x12 x18 x19 x20 x34 x35 x36 x41 (IntKind.i64.wrap (x42+(1:Int))) h0)) (Zau Q m0 m1 x1n x2 x8 x11 x18 x19 x20 x34 x35 (IntKind.i64.wrap (x36+(1:Int))) h0)
theorem Zlc (Q:QD) (m0 m1 m2:Nat) (x1n:Nat) (x2:Int) (x8 x11:V) (x12:Int) (x18:LL) (x19 x20:Int) (x34:V) (x35 x36:Int) (x41:V) (x42:Int) (h0:LL):Zdc Q m0 m1 (m2+1) x1n x2 x8 x11 x12 x18 x19 x20 x34 x35 x36 x41 x42 h0=ZfC Q m0 m1 m2 x1n x2 x8 x11 x12 x18 x19 x20 x34 x35 x36 x41 x42 h0:=by kernel_rfl
theorem Zkx (Q:QD) (m0 m1:Nat):RuleG14 (Zdc Q m0 m1) (ZfC Q m0 m1):=ruleG14 _ _ (Zlc Q m0 m1)
def Zmk (Q:QD) (m0 m3:Nat) (x1n:Nat) (x2:Int) (x8:V) (x18:LL) (x19 x20:Int) (x58:V) (x59 x60:Int) (h0:LL):Prop :=
 iff (decide (x60<x59)) (0≤x60∧x60<x58.list.length∧cl Zgi [.v (.sl Za) (x8),.agg [.v (.int .u64) (((x58.list.getD x60.toNat []).drop 0).headD V.none),.v (.sl ZA) ((((x58.list.getD x60.toNat []).drop 0).tail).headD V.none)]] [] fun r1 H2=>r1=(.v (.sl Za) (r1.V))∧H2=[]∧Zb6 Q m0 m3 x1n x2 r1.V x18 x19 x20 x58 x59 (IntKind.i64.wrap (x60+(1:Int))) h0) (cl Ze2 [.v (.sl Za) (x8)] [] fun r3 H4=>r3=(.v .bool (r3.V))∧H4=[]∧iff r3.V.bool ((True∧True∧True)∧Q (.tup [.nil,.v .bool (V.b false)]) [.row Zab h0]) (ZaH Q m0 x1n x2 x8 x18 x19 (IntKind.i64.wrap (x20+(1:Int))) h0))
theorem Zko (Q:QD) (m0 m3:Nat) (x1n:Nat) (x2:Int) (x8:V) (x18:LL) (x19 x20:Int) (x58:V) (x59 x60:Int) (h0:LL):Zb6 Q m0 (m3+1) x1n x2 x8 x18 x19 x20 x58 x59 x60 h0=Zmk Q m0 m3 x1n x2 x8 x18 x19 x20 x58 x59 x60 h0:=by kernel_rfl
theorem Zjj (Q:QD) (m0:Nat) (x1n:Nat) (x2:Int) (x18:LL) (x19 x20:Int) (x58:V) (h0:LL) (n:Nat) (hb:n≤big) (J:Nat→V→Prop)
  (step:∀ (k:Nat) (x8:V),k<n→J k x8→∀ K:V→Prop,(∀ (x8':V),J (k+1) x8'→K x8')→(0≤(k:Int)∧(k:Int)<x58.list.length∧cl Zgi [.v (.sl Za) (x8),.agg [.v (.int .u64) (((x58.list.getD k []).drop 0).headD V.none),.v (.sl ZA) ((((x58.list.getD k []).drop 0).tail).headD V.none)]] [] fun r1 H2=>r1=(.v (.sl Za) (r1.V))∧H2=[]∧K r1.V))
  (last:∀ (x8:V),J n x8→(cl Ze2 [.v (.sl Za) (x8)] [] fun r3 H4=>r3=(.v .bool (r3.V))∧H4=[]∧iff r3.V.bool ((True∧True∧True)∧Q (.tup [.nil,.v .bool (V.b false)]) [.row Zab h0]) (ZaH Q m0 x1n x2 x8 x18 x19 (IntKind.i64.wrap (x20+(1:Int))) h0)))
  (k:Nat) (x8:V) (le0:k≤n) (hj:J k x8):∃ m3,Zb6 Q m0 m3 x1n x2 x8 x18 x19 x20 x58 (n:Int) ((k:Int)) h0:=by
 exact rangeG1 n hb J (fun m3 i x8=>Zb6 Q m0 m3 x1n x2 x8 x18 x19 x20 x58 (n:Int) i h0) (fun m3 i x8=>Zko Q m0 m3 x1n x2 x8 x18 x19 x20 x58 (n:Int) i h0) (fun k x8 hl_ hj_ m_ ih_=>step k x8 hl_ hj_ _ ih_) last k x8 le0 hj
def ZmD (Q:QD) (m0 m1:Nat) (x1n:Nat) (x2:Int) (x8 x11:V) (x18:LL) (x19 x20:Int) (x34:V) (x35 x36:Int) (h0:LL):Prop :=
 iff (decide (x36<x35)) (0≤x36∧x36<x34.list.length∧∃ m2,Zdc Q m0 m1 m2 x1n x2 x8 x11 x36 x18 x19 x20 x34 x35 x36 (((x34.list.getD x36.toNat []).drop 0).headD V.none) 0 h0) ((x11.list.length≤big→∃ m3,Zb6 Q m0 m3 x1n x2 x8 x18 x19 x20 x11 ((x11.list.length:Int)) 0 h0))
theorem Zk4 (Q:QD) (m0 m1:Nat) (x1n:Nat) (x2:Int) (x8 x11:V) (x18:LL) (x19 x20:Int) (x34:V) (x35 x36:Int) (h0:LL):Zau Q m0 (m1+1) x1n x2 x8 x11 x18 x19 x20 x34 x35 x36 h0=ZmD Q m0 m1 x1n x2 x8 x11 x18 x19 x20 x34 x35 x36 h0:=by kernel_rfl
theorem Zjv (Q:QD) (m0:Nat) (x1n:Nat) (x2:Int) (x8:V) (x18:LL) (x19 x20:Int) (x34:V) (h0:LL) (n:Nat) (hb:n≤big) (J:Nat→V→Prop)
  (step:∀ (k:Nat) (x11:V),k<n→J k x11→∀ m1:Nat,(∀ (x11':V),J (k+1) x11'→Zau Q m0 m1 x1n x2 x8 x11' x18 x19 x20 x34 (n:Int) (IntKind.i64.wrap ((k:Int)+(1:Int))) h0)→(0≤(k:Int)∧(k:Int)<x34.list.length∧∃ m2,Zdc Q m0 m1 m2 x1n x2 x8 x11 (k:Int) x18 x19 x20 x34 (n:Int) (k:Int) (((x34.list.getD k []).drop 0).headD V.none) 0 h0))
  (last:∀ (x11:V),J n x11→((x11.list.length≤big→∃ m3,Zb6 Q m0 m3 x1n x2 x8 x18 x19 x20 x11 ((x11.list.length:Int)) 0 h0)))
  (k:Nat) (x11:V) (le0:k≤n) (hj:J k x11):∃ m1,Zau Q m0 m1 x1n x2 x8 x11 x18 x19 x20 x34 (n:Int) ((k:Int)) h0:=by
 exact rangeG1 n hb J (fun m1 i x11=>Zau Q m0 m1 x1n x2 x8 x11 x18 x19 x20 x34 (n:Int) i h0) (fun m1 i x11=>Zk4 Q m0 m1 x1n x2 x8 x11 x18 x19 x20 x34 (n:Int) i h0) (fun k x11 hl_ hj_ m_ ih_=>step k x11 hl_ hj_ m_ ih_) last k x11 le0 hj
def ZmQ (Q:QD) (m0:Nat) (x1n:Nat) (x2:Int) (x8:V) (x18:LL) (x19 x20:Int) (h0:LL):Prop :=
 iff (decide (x20<x19)) (0≤x20∧x20<x18.length∧cl Ze8 [.agg [.v (.int .u64) (((x18.getD x20.toNat []).drop 0).headD V.none),.v (.sl ZA) ((((x18.getD x20.toNat []).drop 0).tail).headD V.none)],.osl (.own 0) x1n] [.row Zab h0] fun r1 H2=>r1=(.v .bool (r1.V))∧H2=[.row Zab ((H2.headD .dead).xs)]∧iff r1.V.bool (ZaH Q m0 x1n x2 x8 x18 x19 (IntKind.i64.wrap (x20+(1:Int))) ((H2.headD .dead).xs)) ((0≤x2∧x2=x2∧x2≤lim∧x2.toNat=(zeroRow [.int .i64] x2.toNat).length∧((((((x18.getD x20.toNat []).drop 0).tail).headD V.none).list).length≤big→∃ m1,Zau Q m0 m1 x1n x2 x8 (V.l ([[((x18.getD x20.toNat []).drop 0).headD V.none,V.l (zeroRow [.int .i64] x2.toNat)]])) x18 x19 x20 ((((x18.getD x20.toNat []).drop 0).tail).headD V.none) (((((((x18.getD x20.toNat []).drop 0).tail).headD V.none).list).length:Int)) 0 ((H2.headD .dead).xs)))∧(0≤x2∧x2=x2∧x2≤lim∧x2.toNat=(zeroRow [.int .i64] x2.toNat).length∧((((((x18.getD x20.toNat []).drop 0).tail).headD V.none).list).length≤big→∃ m1,Zau Q m0 m1 x1n x2 x8 (V.l ([[((x18.getD x20.toNat []).drop 0).headD V.none,V.l (zeroRow [.int .i64] x2.toNat)]])) x18 x19 x20 ((((x18.getD x20.toNat []).drop 0).tail).headD V.none) (((((((x18.getD x20.toNat []).drop 0).tail).headD V.none).list).length:Int)) 0 ((H2.headD .dead).xs)))∧True)) ((True∧True∧True)∧Q (.tup [.v (.sl Za) (x8),.v .bool (V.b true)]) [.row Zab h0])
theorem Zk3 (Q:QD) (m0:Nat) (x1n:Nat) (x2:Int) (x8:V) (x18:LL) (x19 x20:Int) (h0:LL):ZaH Q (m0+1) x1n x2 x8 x18 x19 x20 h0=ZmQ Q m0 x1n x2 x8 x18 x19 x20 h0:=by kernel_rfl
theorem ZjD (Q:QD) (x1n:Nat) (x2:Int) (x18:LL) (n:Nat) (hb:n≤big) (J:Nat→V→LL→Prop)
  (step:∀ (k:Nat) (x8:V) (h0:LL),k<n→J k x8 h0→∀ m0:Nat,(∀ (x8':V) (h0':LL),J (k+1) x8' h0'→ZaH Q m0 x1n x2 x8' x18 (n:Int) (IntKind.i64.wrap ((k:Int)+(1:Int))) h0')→(0≤(k:Int)∧(k:Int)<x18.length∧cl Ze8 [.agg [.v (.int .u64) (((x18.getD k []).drop 0).headD V.none),.v (.sl ZA) ((((x18.getD k []).drop 0).tail).headD V.none)],.osl (.own 0) x1n] [.row Zab h0] fun r1 H2=>r1=(.v .bool (r1.V))∧H2=[.row Zab ((H2.headD .dead).xs)]∧iff r1.V.bool (ZaH Q m0 x1n x2 x8 x18 (n:Int) (IntKind.i64.wrap ((k:Int)+(1:Int))) ((H2.headD .dead).xs)) ((0≤x2∧x2=x2∧x2≤lim∧x2.toNat=(zeroRow [.int .i64] x2.toNat).length∧((((((x18.getD k []).drop 0).tail).headD V.none).list).length≤big→∃ m1,Zau Q m0 m1 x1n x2 x8 (V.l ([[((x18.getD k []).drop 0).headD V.none,V.l (zeroRow [.int .i64] x2.toNat)]])) x18 (n:Int) (k:Int) ((((x18.getD k []).drop 0).tail).headD V.none) (((((((x18.getD k []).drop 0).tail).headD V.none).list).length:Int)) 0 ((H2.headD .dead).xs)))∧(0≤x2∧x2=x2∧x2≤lim∧x2.toNat=(zeroRow [.int .i64] x2.toNat).length∧((((((x18.getD k []).drop 0).tail).headD V.none).list).length≤big→∃ m1,Zau Q m0 m1 x1n x2 x8 (V.l ([[((x18.getD k []).drop 0).headD V.none,V.l (zeroRow [.int .i64] x2.toNat)]])) x18 (n:Int) (k:Int) ((((x18.getD k []).drop 0).tail).headD V.none) (((((((x18.getD k []).drop 0).tail).headD V.none).list).length:Int)) 0 ((H2.headD .dead).xs)))∧True)))
  (last:∀ (x8:V) (h0:LL),J n x8 h0→((True∧True∧True)∧Q (.tup [.v (.sl Za) (x8),.v .bool (V.b true)]) [.row Zab h0]))
  (k:Nat) (x8:V) (h0:LL) (le0:k≤n) (hj:J k x8 h0):∃ m0,ZaH Q m0 x1n x2 x8 x18 (n:Int) ((k:Int)) h0:=by
 exact rangeG2 n hb J (fun m0 i x8 h0=>ZaH Q m0 x1n x2 x8 x18 (n:Int) i h0) (fun m0 i x8 h0=>Zk3 Q m0 x1n x2 x8 x18 (n:Int) i h0) (fun k x8 h0 hl_ hj_ m_ ih_=>step k x8 h0 hl_ hj_ m_ ih_) last k x8 h0 le0 hj
def Zn0 (a0:LL) (a1n:Nat) (a2:Int) (h0:LL) (Q:QD):Prop :=
 (a0.length≤big→∃ m0,ZaH Q m0 a1n a2 (V.l ([])) a0 ((a0.length:Int)) 0 h0)
theorem ZoG (a0:LL) (a1n:Nat) (a2:Int) (h0:LL) (Q:QD) (h:Zn0 a0 a1n a2 h0 Q):cl ZfU [.v (.sl Za) (V.l a0),.osl (.own 0) a1n,.v (.int .i64) (V.i a2)] [.row Zab h0] Q :=
 acalls2 (E:=Zm) (envOk _ _ _ _ _) 0 Tryz.func100 (by kernel_rfl) h
def Zeb:Env:=envA [] [] [1] [] []
def Zek (a0:LL) (Q:QD):Prop :=
 True∧Q (.fn ZR [.elt Zl ([V.l a0]) 0]) []
theorem Zem (a0:LL) (Q:QD) (h:Zek a0 Q):cl ZbP [.v (.mp Ze) (V.l a0)] [] Q :=
 acalls2 (E:=Zeb) (envOk _ _ _ _ _) 0 Tryz.func101 (by kernel_rfl) h
def Zg5:Env:=envA [] [] [] [] []
def Zff (a0 a1:Int) (Q:QD):Prop :=
 cl ZcQ [.v (.int .u64) (V.i a0)] [] fun r1 H2=>r1=(.v .bool (r1.V))∧H2=[]∧cl ZcQ [.v (.int .u64) (V.i a1)] [] fun r3 H4=>r3=(.v .bool (r3.V))∧H4=[]∧iff r1.V.bool (iff r3.V.bool (True∧Q (.v (.int .i64) (V.i 0)) []) (True∧Q (.v (.int .i64) (V.i (-1))) [])) (iff r3.V.bool (True∧Q (.v (.int .i64) (V.i 1)) []) (iff (decide (a0<a1)) (True∧Q (.v (.int .i64) (V.i (-1))) []) (iff (decide (a0 > a1)) (True∧Q (.v (.int .i64) (V.i 1)) []) (True∧Q (.v (.int .i64) (V.i 0)) []))))
theorem Zh5 (a0 a1:Int) (Q:QD) (h:Zff a0 a1 Q):cl Zbf [.v (.int .u64) (V.i a0),.v (.int .u64) (V.i a1)] [] Q :=
 acalls2 (E:=Zg5) (envOk _ _ _ _ _) 0 Tryz.func102 (by kernel_rfl) h
def Zcm:Env:=envA [] [] [] [] []
def ZaL (a0:LL) (Q:QD):Prop :=
 cl Zai [.v (.sl ZY) (V.l a0),.fn Zad []] [] fun r1 H2=>r1=(.v (.int .i64) (r1.V))∧H2=[]∧True∧Q (.v .bool (V.b (decide (r1.V.int≥(0:Int))))) []
theorem ZcJ (a0:LL) (Q:QD) (h:ZaL a0 Q):cl Z2 [.v (.sl ZY) (V.l a0),.fn Zad []] [] Q :=
 acalls2 (E:=Zcm) (envOk _ _ _ _ _) 0 Tryz.func103 (by kernel_rfl) h
def Zci:Env:=envA [] [] [] [] []
def ZaM (a0:LL) (Q:QD):Prop :=
 cl Zai [.v (.sl ZY) (V.l a0),.fn Zae []] [] fun r1 H2=>r1=(.v (.int .i64) (r1.V))∧H2=[]∧True∧Q (.v .bool (V.b (decide (r1.V.int≥(0:Int))))) []
theorem ZcE (a0:LL) (Q:QD) (h:ZaM a0 Q):cl Z2 [.v (.sl ZY) (V.l a0),.fn Zae []] [] Q :=
 acalls2 (E:=Zci) (envOk _ _ _ _ _) 0 Tryz.func103 (by kernel_rfl) h
def Zi:Env:=envA [(3,ua 6 2 (ua 11 24 ([.dead 30])))] [] [] [] []
def ZaN (Q:QD):Post:=blockK 0 (seqJ Zi (fnAt [1,1,1,1] Tryz.f107) (endK Zi Tryz.f107 Q))
@[irreducible] def Zh (Q:QD) (m0:Nat) (x0:LL) (x1:ByteArray) (x8 x9 x10:Int):Prop :=
 iter (adj (Zi.adj 3)) (evCode Zi (fnAt [1,1,1,0,0,0] Tryz.f107)) (ZaN Q) m0 ⟨(.v (.sl Zf) (V.l x0))::(.v .str (V.s x1))::(.fn ZX [])::sk 3 (un 2 ((.v (.int .i64) (V.i x8))::(.v (.int .i64) (V.i x9))::(.v (.int .i64) (V.i x10))::un 24 (sk 14 ([])))),dd 49 ([])⟩ []
def Zs (Q:QD) (m0:Nat) (x0:LL) (x1:ByteArray) (x8 x9 x10:Int):Prop :=
 iff (decide (x9<x10)) (0≤(1:Int)∧0≤(IntKind.i64.wrap ((IntKind.u64.wrap (IntKind.i64.wrap (x9+x10))).fdiv (2 ^ (min ((1:Int)).toNat IntKind.u64.bits))))∧(IntKind.i64.wrap ((IntKind.u64.wrap (IntKind.i64.wrap (x9+x10))).fdiv (2 ^ (min ((1:Int)).toNat IntKind.u64.bits))))<x0.length∧cl ZX [.agg [.v .str (((x0.getD ((IntKind.i64.wrap ((IntKind.u64.wrap (IntKind.i64.wrap (x9+x10))).fdiv (2 ^ (min ((1:Int)).toNat IntKind.u64.bits))))).toNat []).drop 0).headD V.none),.v (.sl Za) ((((x0.getD ((IntKind.i64.wrap ((IntKind.u64.wrap (IntKind.i64.wrap (x9+x10))).fdiv (2 ^ (min ((1:Int)).toNat IntKind.u64.bits))))).toNat []).drop 0).tail).headD V.none)],.v .str (V.s x1)] [] fun r1 H2=>r1=(.v (.int .i64) (r1.V))∧H2=[]∧iff (decide (r1.V.int<(0:Int))) (Zh Q m0 x0 x1 x8 (IntKind.i64.wrap ((IntKind.i64.wrap ((IntKind.u64.wrap (IntKind.i64.wrap (x9+x10))).fdiv (2 ^ (min ((1:Int)).toNat IntKind.u64.bits))))+(1:Int))) x10) (Zh Q m0 x0 x1 x8 x9 (IntKind.i64.wrap ((IntKind.u64.wrap (IntKind.i64.wrap (x9+x10))).fdiv (2 ^ (min ((1:Int)).toNat IntKind.u64.bits)))))) (iff (decide (x9<x8)) (0≤x9∧x9<x0.length∧cl ZX [.agg [.v .str (((x0.getD x9.toNat []).drop 0).headD V.none),.v (.sl Za) ((((x0.getD x9.toNat []).drop 0).tail).headD V.none)],.v .str (V.s x1)] [] fun r3 H4=>r3=(.v (.int .i64) (r3.V))∧H4=[]∧(True∧True∧True)∧Q (.tup [.v (.int .i64) (V.i x9),.v .bool (V.b (r3.V.int == (0:Int)))]) []) ((True∧True∧True)∧Q (.tup [.v (.int .i64) (V.i x9),.v .bool (V.b false)]) []))
theorem ZaJ (Q:QD) (m0:Nat) (x0:LL) (x1:ByteArray) (x8 x9 x10:Int):Zh Q (m0+1) x0 x1 x8 x9 x10=Zs Q m0 x0 x1 x8 x9 x10:=by kernel_rfl
theorem ZaK (Q:QD):RuleG5 (Zh Q) (Zs Q):=ruleG5 _ _ (ZaJ Q)
def ZaY (a0:LL) (a1:ByteArray) (Q:QD):Prop :=
 (a0.length≤big→∃ m0,Zh Q m0 a0 a1 ((a0.length:Int)) 0 ((a0.length:Int)))
theorem Za1 (a0:LL) (a1:ByteArray) (Q:QD) (h:ZaY a0 a1 Q):cl Zaq [.v (.sl Zf) (V.l a0),.v .str (V.s a1),.fn ZX []] [] Q :=
 acalls2 (E:=Zi) (envOk _ _ _ _ _) 0 Tryz.func107 (by kernel_rfl) h
def ZD:Env:=envA [(2,ua 4 3 (ua 9 10 ([.dead 16])))] [] [] [] []
def ZcR (Q:QD):Post:=blockK 0 (seqJ ZD (fnAt [1,1] Tryz.f110) (endK ZD Tryz.f110 Q))
@[irreducible] def Zy (Q:QD) (m0:Nat) (x0:LL) (x7 x8:Int) (h0_0:V):Prop :=
 iter (adj (ZD.adj 2)) (evCode ZD (fnAt [1,0,1,0,0] Tryz.f110)) (ZcR Q) m0 ⟨(.v (.sl Za) (V.l x0))::(.fn Z7 [.ptr (.own 0) 0])::sk 2 (un 3 ((.v (.int .i64) (V.i x7))::(.v (.int .i64) (V.i x8))::un 10 ([]))),dd 19 ([])⟩ [.cells [.v (.int .i64) (h0_0)]]
def ZcY (Q:QD) (m0:Nat) (x0:LL) (x7 x8:Int) (h0_0:V):Prop :=
 iff (decide (x8<x7)) (0≤x8∧x8<x0.length∧cl Z7 [.agg [.v (.int .u64) (((x0.getD x8.toNat []).drop 0).headD V.none),.v (.sl ZA) ((((x0.getD x8.toNat []).drop 0).tail).headD V.none)],.ptr (.own 0) 0] [.cells [.v (.int .i64) (h0_0)]] fun r1 H2=>r1=(.v .bool (r1.V))∧H2=[.cells [.v (.int .i64) ((((H2.headD .dead).cs).headD .undef).V)]]∧iff r1.V.bool (True∧Q (.v (.int .i64) (V.i x8)) [.cells [.v (.int .i64) ((((H2.headD .dead).cs).headD .undef).V)]]) (Zy Q m0 x0 x7 (IntKind.i64.wrap (x8+(1:Int))) ((((H2.headD .dead).cs).headD .undef).V))) (True∧Q (.v (.int .i64) (V.i (-1))) [.cells [.v (.int .i64) (h0_0)]])
theorem Zcv (Q:QD) (m0:Nat) (x0:LL) (x7 x8:Int) (h0_0:V):Zy Q (m0+1) x0 x7 x8 h0_0=ZcY Q m0 x0 x7 x8 h0_0:=by kernel_rfl
theorem Zcj (Q:QD) (x0:LL) (n:Nat) (hb:n≤big) (J:Nat→V→Prop)
  (step:∀ (k:Nat) (h0_0:V),k<n→J k h0_0→∀ K:V→Prop,(∀ (h0_0':V),J (k+1) h0_0'→K h0_0')→(0≤(k:Int)∧(k:Int)<x0.length∧cl Z7 [.agg [.v (.int .u64) (((x0.getD k []).drop 0).headD V.none),.v (.sl ZA) ((((x0.getD k []).drop 0).tail).headD V.none)],.ptr (.own 0) 0] [.cells [.v (.int .i64) (h0_0)]] fun r1 H2=>r1=(.v .bool (r1.V))∧H2=[.cells [.v (.int .i64) ((((H2.headD .dead).cs).headD .undef).V)]]∧iff r1.V.bool (True∧Q (.v (.int .i64) (V.i (k:Int))) [.cells [.v (.int .i64) ((((H2.headD .dead).cs).headD .undef).V)]]) (K ((((H2.headD .dead).cs).headD .undef).V))))
  (last:∀ (h0_0:V),J n h0_0→(True∧Q (.v (.int .i64) (V.i (-1))) [.cells [.v (.int .i64) (h0_0)]]))
  (k:Nat) (h0_0:V) (le0:k≤n) (hj:J k h0_0):∃ m0,Zy Q m0 x0 (n:Int) ((k:Int)) h0_0:=by
 exact rangeG1 n hb J (fun m0 i h0_0=>Zy Q m0 x0 (n:Int) i h0_0) (fun m0 i h0_0=>Zcv Q m0 x0 (n:Int) i h0_0) (fun k h0_0 hl_ hj_ m_ ih_=>step k h0_0 hl_ hj_ _ ih_) last k h0_0 le0 hj
def Zdn (a0:LL) (h0_0:Int) (Q:QD):Prop :=
 (a0.length≤big→∃ m0,Zy Q m0 a0 ((a0.length:Int)) 0 (V.i h0_0))
theorem ZdD (a0:LL) (h0_0:Int) (Q:QD) (h:Zdn a0 h0_0 Q):cl ZM [.v (.sl Za) (V.l a0),.fn Z7 [.ptr (.own 0) 0]] [.cells [.v (.int .i64) (V.i h0_0)]] Q :=
 acalls2 (E:=ZD) (envOk _ _ _ _ _) 0 Tryz.func110 (by kernel_rfl) h
def Zls:Env:=envA [] [] [] [] []
def ZhA (a0_0:ByteArray) (a0_1:LL) (Q:QD):Prop :=
 True∧Q (.v .str (V.s a0_0)) []
theorem Zng (a0_0:ByteArray) (a0_1:LL) (Q:QD) (h:ZhA a0_0 a0_1 Q):cl Zao [.agg [.v .str (V.s a0_0),.v (.sl Za) (V.l a0_1)]] [] Q :=
 acalls2 (E:=Zls) (envOk _ _ _ _ _) 0 Tryz.func61 (by kernel_rfl) h
def Zft:Env:=envA [(3000005,(.undef 1)::ua 4 7 ([.dead 10]))] [] [] [] [5]
@[irreducible] def Zd6 (Q:QD) (x0:V):Prop :=
 joinM (evCode Zft (fnAt [1,1,1] Tryz.f105)) ⟨(.v .str (x0))::.undef::sk 2 (un 7 (sk 8 ([]))),dd 19 ([])⟩ [] (endK Zft Tryz.f105 Q)
def ZgN (Q:QD) (x0:V):Prop :=
 iff (!(x0.str.toList == (ByteArray.mk #[]).toList)) (cl ZbH [.v (.sl ZiJ) (V.l (bytesV x0.str)),.fn Zam []] [] fun r1 H2=>r1=(.v .bool (r1.V))∧H2=[]∧True∧Q (.v .bool (V.b (!r1.V.bool))) []) (True∧Q (.v .bool (V.b false)) [])
theorem ZjK (Q:QD) (x0:V):Zd6 Q x0=ZgN Q x0:=by kernel_rfl
def Zm3 (a0:ByteArray) (a1:Bool) (Q:QD):Prop :=
 (a0.size≤big→iff (decide (((a0.size:Int)) > (24:Int))) (True∧Q (.v .bool (V.b false)) []) (iff a1 (cl ZdE [.v .str (V.s a0),.v .str (V.s (ByteArray.mk #[35]))] [] fun r1 H2=>r1=(.v .str (r1.V))∧H2=[]∧Zd6 Q r1.V) (Zd6 Q (V.s a0))))
theorem Zoj (a0:ByteArray) (a1:Bool) (Q:QD) (h:Zm3 a0 a1 Q):cl Zcf [.v .str (V.s a0),.v .bool (V.b a1)] [] Q :=
 acalls2 (E:=Zft) (envOk _ _ _ _ _) 0 Tryz.func105 (by kernel_rfl) h
def ZaP:Env:=envA [(2,ua 4 5 (ua 12 19 ([.dead 18,.dead 26])))] [] [] [] []
def ZgJ (Q:QD):Post:=blockK 0 (seqJ ZaP (fnAt [1,1] Tryz.f40) (endK ZaP Tryz.f40 Q))
@[irreducible] def ZaD (Q:QD) (m0:Nat) (x0 x1 x9:LL) (x10 x11:Int):Prop :=
 iter (adj (ZaP.adj 2)) (evCode ZaP (fnAt [1,0,1,0,0] Tryz.f40)) (ZgJ Q) m0 ⟨(.v (.sl ZA) (V.l x0))::(.v (.sl ZA) (V.l x1))::sk 2 (un 5 ((.v (.sl ZA) (V.l x9))::(.v (.int .i64) (V.i x10))::(.v (.int .i64) (V.i x11))::un 19 (sk 5 ([])))),dd 36 ([])⟩ []
def Zgw (Q:QD) (m0:Nat) (x0 x1 x9:LL) (x10 x11:Int):Prop :=
 iff (decide (x11<x10)) (0≤x11∧x11<x9.length∧(x1.length≤big→iff (decide (x11≥((x1.length:Int)))) (True∧Q (.v (.int .i64) (V.i 1)) []) (0≤x11∧x11<x1.length∧cl Zdj [.v (.int .i64) (((x9.getD x11.toNat []).drop 0).headD V.none),.v (.int .i64) (((x1.getD x11.toNat []).drop 0).headD V.none)] [] fun r1 H2=>r1=(.v (.int .i64) (r1.V))∧H2=[]∧iff (r1.V.int != (0:Int)) (True∧Q (.v (.int .i64) (r1.V)) []) (ZaD Q m0 x0 x1 x9 x10 (IntKind.i64.wrap (x11+(1:Int))))))) ((x0.length≤big→(x1.length≤big→iff (decide (((x0.length:Int))<((x1.length:Int)))) (True∧Q (.v (.int .i64) (V.i (-1))) []) (True∧Q (.v (.int .i64) (V.i 0)) []))))
theorem ZfX (Q:QD) (m0:Nat) (x0 x1 x9:LL) (x10 x11:Int):ZaD Q (m0+1) x0 x1 x9 x10 x11=Zgw Q m0 x0 x1 x9 x10 x11:=by kernel_rfl
theorem ZfH (Q:QD) (x0 x1 x9:LL) (n:Nat) (hb:n≤big) (J:Nat→Prop)
  (step:∀ (k:Nat),k<n→J k→∀ K:Prop,(J (k+1)→K)→(0≤(k:Int)∧(k:Int)<x9.length∧(x1.length≤big→iff (decide ((k:Int)≥((x1.length:Int)))) (True∧Q (.v (.int .i64) (V.i 1)) []) (0≤(k:Int)∧(k:Int)<x1.length∧cl Zdj [.v (.int .i64) (((x9.getD k []).drop 0).headD V.none),.v (.int .i64) (((x1.getD k []).drop 0).headD V.none)] [] fun r1 H2=>r1=(.v (.int .i64) (r1.V))∧H2=[]∧iff (r1.V.int != (0:Int)) (True∧Q (.v (.int .i64) (r1.V)) []) (K)))))
  (last:J n→((x0.length≤big→(x1.length≤big→iff (decide (((x0.length:Int))<((x1.length:Int)))) (True∧Q (.v (.int .i64) (V.i (-1))) []) (True∧Q (.v (.int .i64) (V.i 0)) [])))))
  (k:Nat) (le0:k≤n) (hj:J k):∃ m0,ZaD Q m0 x0 x1 x9 (n:Int) ((k:Int)):=by
 exact rangeG0 n hb J (fun m0 i=>ZaD Q m0 x0 x1 x9 (n:Int) i) (fun m0 i=>ZfX Q m0 x0 x1 x9 (n:Int) i) (fun k hl_ hj_ m_ ih_=>step k hl_ hj_ _ ih_) last k le0 hj
def Zhu (a0 a1:LL) (Q:QD):Prop :=
 (a0.length≤big→∃ m0,ZaD Q m0 a0 a1 a0 ((a0.length:Int)) 0)
theorem Ziv (a0 a1:LL) (Q:QD) (h:Zhu a0 a1 Q):cl Zb1 [.v (.sl ZA) (V.l a0),.v (.sl ZA) (V.l a1)] [] Q :=
 acalls2 (E:=ZaP) (envOk _ _ _ _ _) 0 Tryz.func40 (by kernel_rfl) h
def ZcC:Env:=envA [] [] [] [] []
def ZaV (a0:LL) (Q:QD):Prop :=
 cl Zat [.v (.sl ZA) (V.l a0),.fn ZW []] [] fun r1 H2=>r1=(.v (.int .i64) (r1.V))∧H2=[]∧True∧Q (.v .bool (V.b (decide (r1.V.int≥(0:Int))))) []
theorem Zc6 (a0:LL) (Q:QD) (h:ZaV a0 Q):cl Z1 [.v (.sl ZA) (V.l a0),.fn ZW []] [] Q :=
 acalls2 (E:=ZcC) (envOk _ _ _ _ _) 0 Tryz.func70 (by kernel_rfl) h
def ZU:Env:=envA [(2,ua 4 3 (ua 9 10 ([.dead 16])))] [] [] [] []
def ZdO (Q:QD):Post:=blockK 0 (seqJ ZU (fnAt [1,1] Tryz.f110) (endK ZU Tryz.f110 Q))
@[irreducible] def ZN (Q:QD) (m0:Nat) (x0:LL) (x7 x8:Int) (h0_0:V):Prop :=
 iter (adj (ZU.adj 2)) (evCode ZU (fnAt [1,0,1,0,0] Tryz.f110)) (ZdO Q) m0 ⟨(.v (.sl Za) (V.l x0))::(.fn ZaE [.ptr (.own 0) 0])::sk 2 (un 3 ((.v (.int .i64) (V.i x7))::(.v (.int .i64) (V.i x8))::un 10 ([]))),dd 19 ([])⟩ [.cells [.v (.sl Zp) (h0_0)]]
def ZdZ (Q:QD) (m0:Nat) (x0:LL) (x7 x8:Int) (h0_0:V):Prop :=
 iff (decide (x8<x7)) (0≤x8∧x8<x0.length∧cl ZaE [.agg [.v (.int .u64) (((x0.getD x8.toNat []).drop 0).headD V.none),.v (.sl ZA) ((((x0.getD x8.toNat []).drop 0).tail).headD V.none)],.ptr (.own 0) 0] [.cells [.v (.sl Zp) (h0_0)]] fun r1 H2=>r1=(.v .bool (r1.V))∧H2=[.cells [.v (.sl Zp) ((((H2.headD .dead).cs).headD .undef).V)]]∧iff r1.V.bool (True∧Q (.v (.int .i64) (V.i x8)) [.cells [.v (.sl Zp) ((((H2.headD .dead).cs).headD .undef).V)]]) (ZN Q m0 x0 x7 (IntKind.i64.wrap (x8+(1:Int))) ((((H2.headD .dead).cs).headD .undef).V))) (True∧Q (.v (.int .i64) (V.i (-1))) [.cells [.v (.sl Zp) (h0_0)]])
theorem Zdo (Q:QD) (m0:Nat) (x0:LL) (x7 x8:Int) (h0_0:V):ZN Q (m0+1) x0 x7 x8 h0_0=ZdZ Q m0 x0 x7 x8 h0_0:=by kernel_rfl
theorem Zdg (Q:QD) (x0:LL) (n:Nat) (hb:n≤big) (J:Nat→V→Prop)
  (step:∀ (k:Nat) (h0_0:V),k<n→J k h0_0→∀ K:V→Prop,(∀ (h0_0':V),J (k+1) h0_0'→K h0_0')→(0≤(k:Int)∧(k:Int)<x0.length∧cl ZaE [.agg [.v (.int .u64) (((x0.getD k []).drop 0).headD V.none),.v (.sl ZA) ((((x0.getD k []).drop 0).tail).headD V.none)],.ptr (.own 0) 0] [.cells [.v (.sl Zp) (h0_0)]] fun r1 H2=>r1=(.v .bool (r1.V))∧H2=[.cells [.v (.sl Zp) ((((H2.headD .dead).cs).headD .undef).V)]]∧iff r1.V.bool (True∧Q (.v (.int .i64) (V.i (k:Int))) [.cells [.v (.sl Zp) ((((H2.headD .dead).cs).headD .undef).V)]]) (K ((((H2.headD .dead).cs).headD .undef).V))))
  (last:∀ (h0_0:V),J n h0_0→(True∧Q (.v (.int .i64) (V.i (-1))) [.cells [.v (.sl Zp) (h0_0)]]))
  (k:Nat) (h0_0:V) (le0:k≤n) (hj:J k h0_0):∃ m0,ZN Q m0 x0 (n:Int) ((k:Int)) h0_0:=by
 exact rangeG1 n hb J (fun m0 i h0_0=>ZN Q m0 x0 (n:Int) i h0_0) (fun m0 i h0_0=>Zdo Q m0 x0 (n:Int) i h0_0) (fun k h0_0 hl_ hj_ m_ ih_=>step k h0_0 hl_ hj_ _ ih_) last k h0_0 le0 hj
def Zei (a0 h0_0:LL) (Q:QD):Prop :=
 (a0.length≤big→∃ m0,ZN Q m0 a0 ((a0.length:Int)) 0 (V.l h0_0))
theorem ZeN (a0 h0_0:LL) (Q:QD) (h:Zei a0 h0_0 Q):cl ZM [.v (.sl Za) (V.l a0),.fn ZaE [.ptr (.own 0) 0]] [.cells [.v (.sl Zp) (V.l h0_0)]] Q :=
 acalls2 (E:=ZU) (envOk _ _ _ _ _) 0 Tryz.func110 (by kernel_rfl) h
def ZK:Env:=envA [(2,ua 4 3 (ua 9 10 ([.dead 16])))] [] [] [] []
def ZdB (Q:QD):Post:=blockK 0 (seqJ ZK (fnAt [1,1] Tryz.f112) (endK ZK Tryz.f112 Q))
@[irreducible] def ZF (Q:QD) (m0:Nat) (x0:LL) (x7 x8:Int):Prop :=
 iter (adj (ZK.adj 2)) (evCode ZK (fnAt [1,0,1,0,0] Tryz.f112)) (ZdB Q) m0 ⟨(.v (.sl Zp) (V.l x0))::(.fn Zd [])::sk 2 (un 3 ((.v (.int .i64) (V.i x7))::(.v (.int .i64) (V.i x8))::un 10 ([]))),dd 19 ([])⟩ []
def Zdp (Q:QD) (m0:Nat) (x0:LL) (x7 x8:Int):Prop :=
 iff (decide (x8<x7)) (0≤x8∧x8<x0.length∧cl Zd [.v (.int .u64) (((x0.getD x8.toNat []).drop 0).headD V.none)] [] fun r1 H2=>r1=(.v .bool (r1.V))∧H2=[]∧iff r1.V.bool (True∧Q (.v (.int .i64) (V.i x8)) []) (ZF Q m0 x0 x7 (IntKind.i64.wrap (x8+(1:Int))))) (True∧Q (.v (.int .i64) (V.i (-1))) [])
theorem ZcT (Q:QD) (m0:Nat) (x0:LL) (x7 x8:Int):ZF Q (m0+1) x0 x7 x8=Zdp Q m0 x0 x7 x8:=by kernel_rfl
theorem ZcD (Q:QD) (x0:LL) (n:Nat) (hb:n≤big) (J:Nat→Prop)
  (step:∀ (k:Nat),k<n→J k→∀ K:Prop,(J (k+1)→K)→(0≤(k:Int)∧(k:Int)<x0.length∧cl Zd [.v (.int .u64) (((x0.getD k []).drop 0).headD V.none)] [] fun r1 H2=>r1=(.v .bool (r1.V))∧H2=[]∧iff r1.V.bool (True∧Q (.v (.int .i64) (V.i (k:Int))) []) (K)))
  (last:J n→(True∧Q (.v (.int .i64) (V.i (-1))) []))
  (k:Nat) (le0:k≤n) (hj:J k):∃ m0,ZF Q m0 x0 (n:Int) ((k:Int)):=by
 exact rangeG0 n hb J (fun m0 i=>ZF Q m0 x0 (n:Int) i) (fun m0 i=>ZcT Q m0 x0 (n:Int) i) (fun k hl_ hj_ m_ ih_=>step k hl_ hj_ _ ih_) last k le0 hj
def ZdP (a0:LL) (Q:QD):Prop :=
 (a0.length≤big→∃ m0,ZF Q m0 a0 ((a0.length:Int)) 0)
theorem Zea (a0:LL) (Q:QD) (h:ZdP a0 Q):cl ZbX [.v (.sl Zp) (V.l a0),.fn Zd []] [] Q :=
 acalls2 (E:=ZK) (envOk _ _ _ _ _) 0 Tryz.func112 (by kernel_rfl) h
def ZT:Env:=envA [(2,ua 4 3 (ua 9 10 ([.dead 16])))] [] [] [] []
def ZdM (Q:QD):Post:=blockK 0 (seqJ ZT (fnAt [1,1] Tryz.f110) (endK ZT Tryz.f110 Q))
@[irreducible] def ZP (Q:QD) (m0:Nat) (x0:LL) (x7 x8:Int):Prop :=
 iter (adj (ZT.adj 2)) (evCode ZT (fnAt [1,0,1,0,0] Tryz.f110)) (ZdM Q) m0 ⟨(.v (.sl Za) (V.l x0))::(.fn ZaF [.ptr (.own 0) 0])::sk 2 (un 3 ((.v (.int .i64) (V.i x7))::(.v (.int .i64) (V.i x8))::un 10 ([]))),dd 19 ([])⟩ [.cells [.fn Zd []]]
def ZdT (Q:QD) (m0:Nat) (x0:LL) (x7 x8:Int):Prop :=
 iff (decide (x8<x7)) (0≤x8∧x8<x0.length∧cl ZaF [.agg [.v (.int .u64) (((x0.getD x8.toNat []).drop 0).headD V.none),.v (.sl ZA) ((((x0.getD x8.toNat []).drop 0).tail).headD V.none)],.ptr (.own 0) 0] [.cells [.fn Zd []]] fun r1 H2=>r1=(.v .bool (r1.V))∧H2=[.cells [.fn Zd []]]∧iff r1.V.bool (True∧Q (.v (.int .i64) (V.i x8)) [.cells [.fn Zd []]]) (ZP Q m0 x0 x7 (IntKind.i64.wrap (x8+(1:Int))))) (True∧Q (.v (.int .i64) (V.i (-1))) [.cells [.fn Zd []]])
theorem Zdy (Q:QD) (m0:Nat) (x0:LL) (x7 x8:Int):ZP Q (m0+1) x0 x7 x8=ZdT Q m0 x0 x7 x8:=by kernel_rfl
theorem Zde (Q:QD) (x0:LL) (n:Nat) (hb:n≤big) (J:Nat→Prop)
  (step:∀ (k:Nat),k<n→J k→∀ K:Prop,(J (k+1)→K)→(0≤(k:Int)∧(k:Int)<x0.length∧cl ZaF [.agg [.v (.int .u64) (((x0.getD k []).drop 0).headD V.none),.v (.sl ZA) ((((x0.getD k []).drop 0).tail).headD V.none)],.ptr (.own 0) 0] [.cells [.fn Zd []]] fun r1 H2=>r1=(.v .bool (r1.V))∧H2=[.cells [.fn Zd []]]∧iff r1.V.bool (True∧Q (.v (.int .i64) (V.i (k:Int))) [.cells [.fn Zd []]]) (K)))
  (last:J n→(True∧Q (.v (.int .i64) (V.i (-1))) [.cells [.fn Zd []]]))
  (k:Nat) (le0:k≤n) (hj:J k):∃ m0,ZP Q m0 x0 (n:Int) ((k:Int)):=by
 exact rangeG0 n hb J (fun m0 i=>ZP Q m0 x0 (n:Int) i) (fun m0 i=>Zdy Q m0 x0 (n:Int) i) (fun k hl_ hj_ m_ ih_=>step k hl_ hj_ _ ih_) last k le0 hj
def Zeh (a0:LL) (Q:QD):Prop :=
 (a0.length≤big→∃ m0,ZP Q m0 a0 ((a0.length:Int)) 0)
theorem ZeE (a0:LL) (Q:QD) (h:Zeh a0 Q):cl ZM [.v (.sl Za) (V.l a0),.fn ZaF [.ptr (.own 0) 0]] [.cells [.fn Zd []]] Q :=
 acalls2 (E:=ZT) (envOk _ _ _ _ _) 0 Tryz.func110 (by kernel_rfl) h
end Go.Proofs.YthhnadeoioeniaaGreat
