/-
  Texts V2, V3, V of this proof, joined.
-/
import Derived.Test.YthjlodlkpgjlkaaGreatP11
set_option linter.unusedVariables false
set_option maxRecDepth 100000
namespace Go.Proofs.YthjlodlkpgjlkaaGreat
open Go.Abs
def Zh7:Env:=envA [] [(1,13,[],[])] [] [] []
def ZfJ (a1 h0_0:ByteArray) (h0_1:Int) (h0_2n:Nat) (h0_3:Int) (h1:LL) (Q:QD):Prop :=
 cl ZM [.ptr (.own 0) 0,.v .str (V.s a1)] [.cells [.v .str (V.s h0_0),.v (.int .i64) (V.i h0_1),.osl (.own 1) h0_2n,.v (.int .i64) (V.i h0_3)],.row Za h1] fun r1 H2=>r1=(.v .bool (r1.V))∧H2=[.cells [.v .str ((((H2.headD .dead).cs).headD .undef).V),.v (.int .i64) (((((H2.headD .dead).cs).tail).headD .undef).V),.osl (.own 1) ((((((H2.headD .dead).cs).tail).tail).headD .undef).len),.v (.int .i64) (((((((H2.headD .dead).cs).tail).tail).tail).headD .undef).V)],.row Za ((H2.tail.headD .dead).xs)]∧iff (!r1.V.bool) ((∃ r3:D,cl ZbT [.v .str ((((H2.headD .dead).cs).headD .undef).V),.v (.int .i64) (((((H2.headD .dead).cs).tail).headD .undef).V)] [] (fun r H'=>r=(.tup [.v .str ((r3.parts.headD .undef).V),.v (.int .i64) ((r3.parts.tail.headD .undef).V)])∧H'=[])∧cl ZK [.ptr (.own 0) 0,.v (.int .i64) ((r3.parts.tail.headD .undef).V)] [.cells [.v .str ((((H2.headD .dead).cs).headD .undef).V),.v (.int .i64) (((((H2.headD .dead).cs).tail).headD .undef).V),.osl (.own 1) ((((((H2.headD .dead).cs).tail).tail).headD .undef).len),.v (.int .i64) (((((((H2.headD .dead).cs).tail).tail).tail).headD .undef).V)],.row Za ((H2.tail.headD .dead).xs)] fun r4 H5=>r4=(.tup [])∧H5=[.cells [.v .str ((((H5.headD .dead).cs).headD .undef).V),.v (.int .i64) (((((H5.headD .dead).cs).tail).headD .undef).V),.osl (.own 1) ((((((H5.headD .dead).cs).tail).tail).headD .undef).len),.v (.int .i64) (((((((H5.headD .dead).cs).tail).tail).tail).headD .undef).V)],.row Za ((H5.tail.headD .dead).xs)]∧True∧Q (.tup []) [.cells [.v .str ((((H5.headD .dead).cs).headD .undef).V),.v (.int .i64) (((((H5.headD .dead).cs).tail).headD .undef).V),.osl (.own 1) ((((((H5.headD .dead).cs).tail).tail).headD .undef).len),.v (.int .i64) (((((((H5.headD .dead).cs).tail).tail).tail).headD .undef).V)],.row Za ((H5.tail.headD .dead).xs)])) (True∧Q (.tup []) [.cells [.v .str ((((H2.headD .dead).cs).headD .undef).V),.v (.int .i64) (((((H2.headD .dead).cs).tail).headD .undef).V),.osl (.own 1) ((((((H2.headD .dead).cs).tail).tail).headD .undef).len),.v (.int .i64) (((((((H2.headD .dead).cs).tail).tail).tail).headD .undef).V)],.row Za ((H2.tail.headD .dead).xs)])
theorem Zja (a1 h0_0:ByteArray) (h0_1:Int) (h0_2n:Nat) (h0_3:Int) (h1:LL) (Q:QD) (h:ZfJ a1 h0_0 h0_1 h0_2n h0_3 h1 Q):cl ZS [.ptr (.own 0) 0,.v .str (V.s a1)] [.cells [.v .str (V.s h0_0),.v (.int .i64) (V.i h0_1),.osl (.own 1) h0_2n,.v (.int .i64) (V.i h0_3)],.row Za h1] Q :=
 acalls2 (E:=Zh7) (envOk _ _ _ _ _) 0 Tryz.func96 (by kernel_rfl) h
def ZdF:Env:=envA [(3000004,(.undef 1)::(.undef 4)::ua 7 22 ([]))] [(1,13,[],[])] [] [] [4]
@[irreducible] def Zfu (Q:QD) (x5 x6:V) (h0_0:ByteArray) (h0_1:Int) (h0_2n:Nat) (h0_3:Int) (h1:LL):Prop :=
 joinM (evCode ZdF (fnAt [1,1,1] Tryz.f97)) ⟨(.ptr (.own 0) 0)::.undef::sk 2 (.undef::(.v .str (x5))::(.v (.int .i64) (x6))::un 22 (sk 7 ([]))),dd 36 ([])⟩ [.cells [.v .str (V.s h0_0),.v (.int .i64) (V.i h0_1),.osl (.own 1) h0_2n,.v (.int .i64) (V.i h0_3)],.row Za h1] (endK ZdF Tryz.f97 Q)
def Zia (Q:QD) (x5 x6:V) (h0_0:ByteArray) (h0_1:Int) (h0_2n:Nat) (h0_3:Int) (h1:LL):Prop :=
 (x5.str.size≤big→True∧Q (.v .bool (V.b true)) [.cells [.v .str (V.s h0_0),.v (.int .i64) (V.i (IntKind.i64.wrap (x6.int+((x5.str.size:Int))))),.osl (.own 1) h0_2n,.v (.int .i64) (V.i h0_3)],.row Za h1])
theorem Zha (Q:QD) (x5 x6:V) (h0_0:ByteArray) (h0_1:Int) (h0_2n:Nat) (h0_3:Int) (h1:LL):Zfu Q x5 x6 h0_0 h0_1 h0_2n h0_3 h1=Zia Q x5 x6 h0_0 h0_1 h0_2n h0_3 h1:=by kernel_rfl
def Zi5 (a1 h0_0:ByteArray) (h0_1:Int) (h0_2n:Nat) (h0_3:Int) (h1:LL) (Q:QD):Prop :=
 (∃ r1:D,cl ZbT [.v .str (V.s h0_0),.v (.int .i64) (V.i h0_1)] [] (fun r H'=>r=(.tup [.v .str ((r1.parts.headD .undef).V),.v (.int .i64) ((r1.parts.tail.headD .undef).V)])∧H'=[])∧iff (decide (h0_3≥(0:Int))) (True∧Q (.v .bool (V.b false)) [.cells [.v .str (V.s h0_0),.v (.int .i64) (V.i h0_1),.osl (.own 1) h0_2n,.v (.int .i64) (V.i h0_3)],.row Za h1]) (iff (!((((r1.parts.headD .undef).V).str).toList == a1.toList)) (True∧Q (.v .bool (V.b false)) [.cells [.v .str (V.s h0_0),.v (.int .i64) (V.i h0_1),.osl (.own 1) h0_2n,.v (.int .i64) (V.i h0_3)],.row Za h1]) (Zfu Q ((r1.parts.headD .undef).V) ((r1.parts.tail.headD .undef).V) h0_0 h0_1 h0_2n h0_3 h1)))
theorem ZjZ (a1 h0_0:ByteArray) (h0_1:Int) (h0_2n:Nat) (h0_3:Int) (h1:LL) (Q:QD) (h:Zi5 a1 h0_0 h0_1 h0_2n h0_3 h1 Q):cl ZM [.ptr (.own 0) 0,.v .str (V.s a1)] [.cells [.v .str (V.s h0_0),.v (.int .i64) (V.i h0_1),.osl (.own 1) h0_2n,.v (.int .i64) (V.i h0_3)],.row Za h1] Q :=
 acalls2 (E:=ZdF) (envOk _ _ _ _ _) 0 Tryz.func97 (by kernel_rfl) h
def Zi:Env:=envA [(0,ua 2 52 ((.dead 11)::(.dead 23)::(.dead 27)::(.dead 31)::(.dead 36)::da 43 2 ([.dead 50]))),(3000001,ua 2 52 ([.dead 11])),(3000004,ua 4 50 ([.dead 27,.dead 31,.dead 36]))] [(1,13,[],[])] [] [] [1,4]
def Zag (Q:QD):Post:=blockK 0 (endK Zi Tryz.f98 Q)
@[irreducible] def ZdZ (Q:QD) (m0:Nat) (x2 x3 h0_0 h0_1:V) (h0_2n:Nat) (h0_3:V) (h1:LL):Prop :=
 joinM (evCode Zi (fnAt [0,0,1,0,1,1] Tryz.f98)) ⟨(.ptr (.own 0) 0)::.skip::(.v .str (x2))::(.v (.int .i64) (x3))::un 50 ([]),dd 54 ([])⟩ [.cells [.v .str (h0_0),.v (.int .i64) (h0_1),.osl (.own 1) h0_2n,.v (.int .i64) (h0_3)],.row Za h1] (blockK 1 (loopK (adj (Zi.adj 0)) (iter (adj (Zi.adj 0)) (evCode Zi (fnAt [0,0] Tryz.f98)) (Zag Q) m0) (Zag Q)))
@[irreducible] def ZdP (Q:QD) (m0:Nat) (h0_0 h0_1:V) (h0_2n:Nat) (h0_3:V) (h1:LL):Prop :=
 joinM (evCode Zi (fnAt [0,0,1] Tryz.f98)) ⟨(.ptr (.own 0) 0)::.skip::un 52 ([]),dd 54 ([])⟩ [.cells [.v .str (h0_0),.v (.int .i64) (h0_1),.osl (.own 1) h0_2n,.v (.int .i64) (h0_3)],.row Za h1] (loopK (adj (Zi.adj 0)) (iter (adj (Zi.adj 0)) (evCode Zi (fnAt [0,0] Tryz.f98)) (Zag Q) m0) (Zag Q))
@[irreducible] def Zaf (Q:QD) (m0:Nat) (h0_0:V) (h0_1:Int) (h0_2n:Nat) (h0_3:V) (h1:LL):Prop :=
 iter (adj (Zi.adj 0)) (evCode Zi (fnAt [0,0] Tryz.f98)) (Zag Q) m0 ⟨(.ptr (.own 0) 0)::.skip::un 52 ([]),dd 54 ([])⟩ [.cells [.v .str (h0_0),.v (.int .i64) (V.i h0_1),.osl (.own 1) h0_2n,.v (.int .i64) (h0_3)],.row Za h1]
def ZgG (Q:QD) (m0:Nat) (x2 x3 h0_0 h0_1:V) (h0_2n:Nat) (h0_3:V) (h1:LL):Prop :=
 h1.length=h0_2n∧h0_2n+([[x2]]).length≤lim∧(x2.str.size≤big→Zaf Q m0 h0_0 (IntKind.i64.wrap (x3.int+((x2.str.size:Int)))) (h0_2n+([[x2]]).length) h0_3 (h1++([[x2]])))
theorem Zf0 (Q:QD) (m0:Nat) (x2 x3 h0_0 h0_1:V) (h0_2n:Nat) (h0_3:V) (h1:LL):ZdZ Q m0 x2 x3 h0_0 h0_1 h0_2n h0_3 h1=ZgG Q m0 x2 x3 h0_0 h0_1 h0_2n h0_3 h1:=by kernel_rfl
def ZgI (Q:QD) (m0:Nat) (h0_0 h0_1:V) (h0_2n:Nat) (h0_3:V) (h1:LL):Prop :=
 (∃ r1:D,cl ZbT [.v .str (h0_0),.v (.int .i64) (h0_1)] [] (fun r H'=>r=(.tup [.v .str ((r1.parts.headD .undef).V),.v (.int .i64) ((r1.parts.tail.headD .undef).V)])∧H'=[])∧cl Zgu [.v .str ((r1.parts.headD .undef).V)] [] fun r2 H3=>r2=(.v .bool (r2.V))∧H3=[]∧iff (!r2.V.bool) (cl ZK [.ptr (.own 0) 0,.v (.int .i64) ((r1.parts.tail.headD .undef).V)] [.cells [.v .str (h0_0),.v (.int .i64) (h0_1),.osl (.own 1) h0_2n,.v (.int .i64) (h0_3)],.row Za h1] fun r4 H5=>r4=(.tup [])∧H5=[.cells [.v .str ((((H5.headD .dead).cs).headD .undef).V),.v (.int .i64) (((((H5.headD .dead).cs).tail).headD .undef).V),.osl (.own 1) ((((((H5.headD .dead).cs).tail).tail).headD .undef).len),.v (.int .i64) (((((((H5.headD .dead).cs).tail).tail).tail).headD .undef).V)],.row Za ((H5.tail.headD .dead).xs)]∧True∧Q (.tup []) [.cells [.v .str ((((H5.headD .dead).cs).headD .undef).V),.v (.int .i64) (((((H5.headD .dead).cs).tail).headD .undef).V),.osl (.own 1) ((((((H5.headD .dead).cs).tail).tail).headD .undef).len),.v (.int .i64) (((((((H5.headD .dead).cs).tail).tail).tail).headD .undef).V)],.row Za ((H5.tail.headD .dead).xs)]) (cl Zax [.v .str ((r1.parts.headD .undef).V),.v .bool (V.b false)] [] fun r6 H7=>r6=(.v .bool (r6.V))∧H7=[]∧iff (!r6.V.bool) (cl ZK [.ptr (.own 0) 0,.v (.int .i64) ((r1.parts.tail.headD .undef).V)] [.cells [.v .str (h0_0),.v (.int .i64) (h0_1),.osl (.own 1) h0_2n,.v (.int .i64) (h0_3)],.row Za h1] fun r8 H9=>r8=(.tup [])∧H9=[.cells [.v .str ((((H9.headD .dead).cs).headD .undef).V),.v (.int .i64) (((((H9.headD .dead).cs).tail).headD .undef).V),.osl (.own 1) ((((((H9.headD .dead).cs).tail).tail).headD .undef).len),.v (.int .i64) (((((((H9.headD .dead).cs).tail).tail).tail).headD .undef).V)],.row Za ((H9.tail.headD .dead).xs)]∧True∧Q (.tup []) [.cells [.v .str ((((H9.headD .dead).cs).headD .undef).V),.v (.int .i64) (((((H9.headD .dead).cs).tail).headD .undef).V),.osl (.own 1) ((((((H9.headD .dead).cs).tail).tail).headD .undef).len),.v (.int .i64) (((((((H9.headD .dead).cs).tail).tail).tail).headD .undef).V)],.row Za ((H9.tail.headD .dead).xs)]) (ZdZ Q m0 ((r1.parts.headD .undef).V) ((r1.parts.tail.headD .undef).V) h0_0 h0_1 h0_2n h0_3 h1)))
theorem Zga (Q:QD) (m0:Nat) (h0_0 h0_1:V) (h0_2n:Nat) (h0_3:V) (h1:LL):ZdP Q m0 h0_0 h0_1 h0_2n h0_3 h1=ZgI Q m0 h0_0 h0_1 h0_2n h0_3 h1:=by kernel_rfl
def ZbM (Q:QD) (m0:Nat) (h0_0:V) (h0_1:Int) (h0_2n:Nat) (h0_3:V) (h1:LL):Prop :=
 iff (decide (h0_3.int<(0:Int))) (cl ZM [.ptr (.own 0) 0,.v .str (V.s (ByteArray.mk #[41]))] [.cells [.v .str (h0_0),.v (.int .i64) (V.i h0_1),.osl (.own 1) h0_2n,.v (.int .i64) (h0_3)],.row Za h1] fun r1 H2=>r1=(.v .bool (r1.V))∧H2=[.cells [.v .str ((((H2.headD .dead).cs).headD .undef).V),.v (.int .i64) (((((H2.headD .dead).cs).tail).headD .undef).V),.osl (.own 1) ((((((H2.headD .dead).cs).tail).tail).headD .undef).len),.v (.int .i64) (((((((H2.headD .dead).cs).tail).tail).tail).headD .undef).V)],.row Za ((H2.tail.headD .dead).xs)]∧iff (!r1.V.bool) (ZdP Q m0 ((((H2.headD .dead).cs).headD .undef).V) (((((H2.headD .dead).cs).tail).headD .undef).V) ((((((H2.headD .dead).cs).tail).tail).headD .undef).len) (((((((H2.headD .dead).cs).tail).tail).tail).headD .undef).V) ((H2.tail.headD .dead).xs)) (True∧Q (.tup []) [.cells [.v .str ((((H2.headD .dead).cs).headD .undef).V),.v (.int .i64) (((((H2.headD .dead).cs).tail).headD .undef).V),.osl (.own 1) ((((((H2.headD .dead).cs).tail).tail).headD .undef).len),.v (.int .i64) (((((((H2.headD .dead).cs).tail).tail).tail).headD .undef).V)],.row Za ((H2.tail.headD .dead).xs)])) (True∧Q (.tup []) [.cells [.v .str (h0_0),.v (.int .i64) (V.i h0_1),.osl (.own 1) h0_2n,.v (.int .i64) (h0_3)],.row Za h1])
theorem Zf9 (Q:QD) (m0:Nat) (h0_0:V) (h0_1:Int) (h0_2n:Nat) (h0_3:V) (h1:LL):Zaf Q (m0+1) h0_0 h0_1 h0_2n h0_3 h1=ZbM Q m0 h0_0 h0_1 h0_2n h0_3 h1:=by kernel_rfl
theorem Zgf (Q:QD):RuleG5 (Zaf Q) (ZbM Q):=ruleG5 _ _ (Zf9 Q)
def ZeU (h0_0:ByteArray) (h0_1:Int) (h0_2n:Nat) (h0_3:Int) (h1:LL) (Q:QD):Prop :=
 ∃ m0,Zaf Q m0 (V.s h0_0) h0_1 h0_2n (V.i h0_3) h1
theorem ZhF (h0_0:ByteArray) (h0_1:Int) (h0_2n:Nat) (h0_3:Int) (h1:LL) (Q:QD) (h:ZeU h0_0 h0_1 h0_2n h0_3 h1 Q):cl ZdC [.ptr (.own 0) 0] [.cells [.v .str (V.s h0_0),.v (.int .i64) (V.i h0_1),.osl (.own 1) h0_2n,.v (.int .i64) (V.i h0_3)],.row Za h1] Q :=
 acalls2 (E:=Zi) (envOk _ _ _ _ _) 0 Tryz.func98 (by kernel_rfl) h
def Zjc:Env:=envA [] [(1,13,[],[])] [] [] []
def ZgD (a1 h0_0:ByteArray) (h0_1:Int) (h0_2:LL) (h0_3:Int) (Q:QD):Prop :=
 cl ZM [.ptr (.own 0) 0,.v .str (V.s a1)] [.cells [.v .str (V.s h0_0),.v (.int .i64) (V.i h0_1),.v (.sl Za) (V.l h0_2),.v (.int .i64) (V.i h0_3)]] fun r1 H2=>r1=(.v .bool (r1.V))∧H2=[.cells [.v .str ((((H2.headD .dead).cs).headD .undef).V),.v (.int .i64) (((((H2.headD .dead).cs).tail).headD .undef).V),.v (.sl Za) ((((((H2.headD .dead).cs).tail).tail).headD .undef).V),.v (.int .i64) (((((((H2.headD .dead).cs).tail).tail).tail).headD .undef).V)]]∧iff (!r1.V.bool) ((∃ r3:D,cl ZbT [.v .str ((((H2.headD .dead).cs).headD .undef).V),.v (.int .i64) (((((H2.headD .dead).cs).tail).headD .undef).V)] [] (fun r H'=>r=(.tup [.v .str ((r3.parts.headD .undef).V),.v (.int .i64) ((r3.parts.tail.headD .undef).V)])∧H'=[])∧cl ZK [.ptr (.own 0) 0,.v (.int .i64) ((r3.parts.tail.headD .undef).V)] [.cells [.v .str ((((H2.headD .dead).cs).headD .undef).V),.v (.int .i64) (((((H2.headD .dead).cs).tail).headD .undef).V),.v (.sl Za) ((((((H2.headD .dead).cs).tail).tail).headD .undef).V),.v (.int .i64) (((((((H2.headD .dead).cs).tail).tail).tail).headD .undef).V)]] fun r4 H5=>r4=(.tup [])∧H5=[.cells [.v .str ((((H5.headD .dead).cs).headD .undef).V),.v (.int .i64) (((((H5.headD .dead).cs).tail).headD .undef).V),.v (.sl Za) ((((((H5.headD .dead).cs).tail).tail).headD .undef).V),.v (.int .i64) (((((((H5.headD .dead).cs).tail).tail).tail).headD .undef).V)]]∧True∧Q (.tup []) [.cells [.v .str ((((H5.headD .dead).cs).headD .undef).V),.v (.int .i64) (((((H5.headD .dead).cs).tail).headD .undef).V),.v (.sl Za) ((((((H5.headD .dead).cs).tail).tail).headD .undef).V),.v (.int .i64) (((((((H5.headD .dead).cs).tail).tail).tail).headD .undef).V)]])) (True∧Q (.tup []) [.cells [.v .str ((((H2.headD .dead).cs).headD .undef).V),.v (.int .i64) (((((H2.headD .dead).cs).tail).headD .undef).V),.v (.sl Za) ((((((H2.headD .dead).cs).tail).tail).headD .undef).V),.v (.int .i64) (((((((H2.headD .dead).cs).tail).tail).tail).headD .undef).V)]])
theorem ZlO (a1 h0_0:ByteArray) (h0_1:Int) (h0_2:LL) (h0_3:Int) (Q:QD) (h:ZgD a1 h0_0 h0_1 h0_2 h0_3 Q):cl ZS [.ptr (.own 0) 0,.v .str (V.s a1)] [.cells [.v .str (V.s h0_0),.v (.int .i64) (V.i h0_1),.v (.sl Za) (V.l h0_2),.v (.int .i64) (V.i h0_3)]] Q :=
 acalls2 (E:=Zjc) (envOk _ _ _ _ _) 0 Tryz.func96 (by kernel_rfl) h
def ZeM:Env:=envA [(3000004,(.undef 1)::(.undef 4)::ua 7 22 ([]))] [(1,13,[],[])] [] [] [4]
@[irreducible] def ZfY (Q:QD) (x5 x6:V) (h0_0:ByteArray) (h0_1:Int) (h0_2:LL) (h0_3:Int):Prop :=
 joinM (evCode ZeM (fnAt [1,1,1] Tryz.f97)) ⟨(.ptr (.own 0) 0)::.undef::sk 2 (.undef::(.v .str (x5))::(.v (.int .i64) (x6))::un 22 (sk 7 ([]))),dd 36 ([])⟩ [.cells [.v .str (V.s h0_0),.v (.int .i64) (V.i h0_1),.v (.sl Za) (V.l h0_2),.v (.int .i64) (V.i h0_3)]] (endK ZeM Tryz.f97 Q)
def ZjJ (Q:QD) (x5 x6:V) (h0_0:ByteArray) (h0_1:Int) (h0_2:LL) (h0_3:Int):Prop :=
 (x5.str.size≤big→True∧Q (.v .bool (V.b true)) [.cells [.v .str (V.s h0_0),.v (.int .i64) (V.i (IntKind.i64.wrap (x6.int+((x5.str.size:Int))))),.v (.sl Za) (V.l h0_2),.v (.int .i64) (V.i h0_3)]])
theorem ZhN (Q:QD) (x5 x6:V) (h0_0:ByteArray) (h0_1:Int) (h0_2:LL) (h0_3:Int):ZfY Q x5 x6 h0_0 h0_1 h0_2 h0_3=ZjJ Q x5 x6 h0_0 h0_1 h0_2 h0_3:=by kernel_rfl
def Zk6 (a1 h0_0:ByteArray) (h0_1:Int) (h0_2:LL) (h0_3:Int) (Q:QD):Prop :=
 (∃ r1:D,cl ZbT [.v .str (V.s h0_0),.v (.int .i64) (V.i h0_1)] [] (fun r H'=>r=(.tup [.v .str ((r1.parts.headD .undef).V),.v (.int .i64) ((r1.parts.tail.headD .undef).V)])∧H'=[])∧iff (decide (h0_3≥(0:Int))) (True∧Q (.v .bool (V.b false)) [.cells [.v .str (V.s h0_0),.v (.int .i64) (V.i h0_1),.v (.sl Za) (V.l h0_2),.v (.int .i64) (V.i h0_3)]]) (iff (!((((r1.parts.headD .undef).V).str).toList == a1.toList)) (True∧Q (.v .bool (V.b false)) [.cells [.v .str (V.s h0_0),.v (.int .i64) (V.i h0_1),.v (.sl Za) (V.l h0_2),.v (.int .i64) (V.i h0_3)]]) (ZfY Q ((r1.parts.headD .undef).V) ((r1.parts.tail.headD .undef).V) h0_0 h0_1 h0_2 h0_3)))
theorem Zm1 (a1 h0_0:ByteArray) (h0_1:Int) (h0_2:LL) (h0_3:Int) (Q:QD) (h:Zk6 a1 h0_0 h0_1 h0_2 h0_3 Q):cl ZM [.ptr (.own 0) 0,.v .str (V.s a1)] [.cells [.v .str (V.s h0_0),.v (.int .i64) (V.i h0_1),.v (.sl Za) (V.l h0_2),.v (.int .i64) (V.i h0_3)]] Q :=
 acalls2 (E:=ZeM) (envOk _ _ _ _ _) 0 Tryz.func97 (by kernel_rfl) h
def Zbh:Env:=envA [(8,(.undef 0)::ua 2 4 (ua 7 5 (ua 13 7 (ua 23 15 ([.dead 7,.dead 34])))))] [] [] [] []
def Ziu (Q:QD):Post:=blockK 0 (seqJ Zbh (fnAt [1,1,1,1] Tryz.f99) (endK Zbh Tryz.f99 Q))
@[irreducible] def Za4 (Q:QD) (m0:Nat) (x20:LL) (x21 x22:Int):Prop :=
 iter (adj (Zbh.adj 8)) (evCode Zbh (fnAt [1,1,1,0,1,0,0] Tryz.f99)) (Ziu Q) m0 ⟨.undef::.skip::un 4 (.skip::un 5 (.skip::un 7 ((.v (.sl Zd) (V.l x20))::(.v (.int .i64) (V.i x21))::(.v (.int .i64) (V.i x22))::un 15 ([])))),dd 38 ([])⟩ []
def Zix (Q:QD) (m0:Nat) (x20:LL) (x21 x22:Int):Prop :=
 iff (decide (x22<x21)) (0≤x22∧x22<x20.length∧iff (((((x20.getD x22.toNat []).drop 0).tail).headD V.none).bool) (True∧Q (.v (.int .i64) (V.i 7)) []) (cl Zer [.agg [.v .str ((((((x20.getD x22.toNat []).drop 0).tail).tail).tail).headD V.none),.v .bool (((((((x20.getD x22.toNat []).drop 0).tail).tail).tail).tail).headD V.none),.v (.sl Zb) ((((((((x20.getD x22.toNat []).drop 0).tail).tail).tail).tail).tail).headD V.none)],.agg [.v .str (((x20.getD x22.toNat []).drop 0).headD V.none),.v .bool ((((x20.getD x22.toNat []).drop 0).tail).headD V.none),.v (.sl Zb) (((((x20.getD x22.toNat []).drop 0).tail).tail).headD V.none)]] [] fun r1 H2=>r1=(.v .bool (r1.V))∧H2=[]∧iff (!r1.V.bool) (True∧Q (.v (.int .i64) (V.i 7)) []) (Za4 Q m0 x20 x21 (IntKind.i64.wrap (x22+(1:Int)))))) (True∧Q (.v (.int .i64) (V.i 0)) [])
theorem ZhG (Q:QD) (m0:Nat) (x20:LL) (x21 x22:Int):Za4 Q (m0+1) x20 x21 x22=Zix Q m0 x20 x21 x22:=by kernel_rfl
theorem Zhn (Q:QD) (x20:LL) (n:Nat) (hb:n≤big) (J:Nat→Prop)
  (step:∀ (k:Nat),k<n→J k→∀ K:Prop,(J (k+1)→K)→(0≤(k:Int)∧(k:Int)<x20.length∧iff (((((x20.getD k []).drop 0).tail).headD V.none).bool) (True∧Q (.v (.int .i64) (V.i 7)) []) (cl Zer [.agg [.v .str ((((((x20.getD k []).drop 0).tail).tail).tail).headD V.none),.v .bool (((((((x20.getD k []).drop 0).tail).tail).tail).tail).headD V.none),.v (.sl Zb) ((((((((x20.getD k []).drop 0).tail).tail).tail).tail).tail).headD V.none)],.agg [.v .str (((x20.getD k []).drop 0).headD V.none),.v .bool ((((x20.getD k []).drop 0).tail).headD V.none),.v (.sl Zb) (((((x20.getD k []).drop 0).tail).tail).headD V.none)]] [] fun r1 H2=>r1=(.v .bool (r1.V))∧H2=[]∧iff (!r1.V.bool) (True∧Q (.v (.int .i64) (V.i 7)) []) (K))))
  (last:J n→(True∧Q (.v (.int .i64) (V.i 0)) []))
  (k:Nat) (le0:k≤n) (hj:J k):∃ m0,Za4 Q m0 x20 (n:Int) ((k:Int)):=by
 exact rangeG0 n hb J (fun m0 i=>Za4 Q m0 x20 (n:Int) i) (fun m0 i=>ZhG Q m0 x20 (n:Int) i) (fun k hl_ hj_ m_ ih_=>step k hl_ hj_ _ ih_) last k le0 hj
def Zgp (a0:LL) (Q:QD):Prop :=
 cl Zhc [.v (.sl Zd) (V.l a0)] [] fun r1 H2=>r1=(.v (.int .i64) (r1.V))∧H2=[]∧iff (r1.V.int != (0:Int)) (True∧Q (.v (.int .i64) (r1.V)) []) (cl Zhj [.v (.sl Zd) (V.l a0)] [] fun r3 H4=>r3=(.tup [.v (.sl Ze) ((r3.parts.headD .undef).V),.v .bool ((r3.parts.tail.headD .undef).V)])∧H4=[]∧iff (!(((r3.parts.tail.headD .undef).V).bool)) (True∧Q (.v (.int .i64) (V.i 6)) []) ((a0.length≤big→∃ m0,Za4 Q m0 a0 ((a0.length:Int)) 0)))
theorem Zlr (a0:LL) (Q:QD) (h:Zgp a0 Q):cl Zbd [.v (.sl Zd) (V.l a0)] [] Q :=
 acalls2 (E:=Zbh) (envOk _ _ _ _ _) 0 Tryz.func99 (by kernel_rfl) h
def ZcT:Env:=envA [(3,(.undef 0)::(.undef 2)::(.undef 5)::ua 9 9 ([.dead 5,.dead 16,.plainT 3 Za]))] [] [] [] []
def Zm6 (Q:QD):Post:=blockK 0 (seqJ ZcT (fnAt [1,1,1] Tryz.f100) (endK ZcT Tryz.f100 Q))
@[irreducible] def Zb9 (Q:QD) (m0:Nat) (x3:V) (x6:LL) (x7 x8:Int):Prop :=
 iter (adj (ZcT.adj 3)) (evCode ZcT (fnAt [1,1,0,1,0,0] Tryz.f100)) (Zm6 Q) m0 ⟨.undef::.skip::.undef::(.v (.sl Za) (x3))::.skip::.undef::(.v (.sl Zd) (V.l x6))::(.v (.int .i64) (V.i x7))::(.v (.int .i64) (V.i x8))::un 9 ([.skip]),dd 19 ([])⟩ []
def ZmV (Q:QD) (m0:Nat) (x3:V) (x6:LL) (x7 x8:Int):Prop :=
 iff (decide (x8<x7)) (0≤x8∧x8<x6.length∧cl Zeq [.v (.sl Za) (x3),.v .str (((x6.getD x8.toNat []).drop 0).headD V.none)] [] fun r1 H2=>r1=(.v (.sl Za) (r1.V))∧H2=[]∧Zb9 Q m0 r1.V x6 x7 (IntKind.i64.wrap (x8+(1:Int)))) (True∧Q (.v (.sl Za) (x3)) [])
theorem Zky (Q:QD) (m0:Nat) (x3:V) (x6:LL) (x7 x8:Int):Zb9 Q (m0+1) x3 x6 x7 x8=ZmV Q m0 x3 x6 x7 x8:=by kernel_rfl
theorem ZjO (Q:QD) (x6:LL) (n:Nat) (hb:n≤big) (J:Nat→V→Prop)
  (step:∀ (k:Nat) (x3:V),k<n→J k x3→∀ K:V→Prop,(∀ (x3':V),J (k+1) x3'→K x3')→(0≤(k:Int)∧(k:Int)<x6.length∧cl Zeq [.v (.sl Za) (x3),.v .str (((x6.getD k []).drop 0).headD V.none)] [] fun r1 H2=>r1=(.v (.sl Za) (r1.V))∧H2=[]∧K r1.V))
  (last:∀ (x3:V),J n x3→(True∧Q (.v (.sl Za) (x3)) []))
  (k:Nat) (x3:V) (le0:k≤n) (hj:J k x3):∃ m0,Zb9 Q m0 x3 x6 (n:Int) ((k:Int)):=by
 exact rangeG1 n hb J (fun m0 i x3=>Zb9 Q m0 x3 x6 (n:Int) i) (fun m0 i x3=>Zky Q m0 x3 x6 (n:Int) i) (fun k x3 hl_ hj_ m_ ih_=>step k x3 hl_ hj_ _ ih_) last k x3 le0 hj
def Zpb (a0:LL) (Q:QD):Prop :=
 (a0.length≤big→∃ m0,Zb9 Q m0 (V.l ([])) a0 ((a0.length:Int)) 0)
theorem ZpN (a0:LL) (Q:QD) (h:Zpb a0 Q):cl Zhm [.v (.sl Zd) (V.l a0)] [] Q :=
 acalls2 (E:=ZcT) (envOk _ _ _ _ _) 0 Tryz.func100 (by kernel_rfl) h
def ZT:Env:=envA [(3,ua 0 3 (ua 4 2 (ua 7 4 (ua 14 20 ((.dead 1)::(.dead 5)::da 19 2 ((.dead 27)::da 29 3 ([]))))))),(6,ua 0 3 ((.undef 5)::ua 7 4 (ua 14 5 (ua 22 12 ((.dead 5)::(.dead 27)::da 29 3 ([]))))))] [] [8,9,27] [(5000008,[⟨0,0,0⟩]),(5000029,[⟨0,0,0⟩])] []
def ZeV (Q:QD):Post:=blockK 0 (seqJ ZT (fnAt [1,1,1] Tryz.f101) (endK ZT Tryz.f101 Q))
def Zkz (Q:QD) (m0:Nat):Post:=blockK 2 (blockK 1 (seqJ ZT (fnAt [1,1,0,1,0,0,1,1,1] Tryz.f101) (loopK (adj (ZT.adj 3)) (iter (adj (ZT.adj 3)) (evCode ZT (fnAt [1,1,0,1,0,0] Tryz.f101)) (ZeV Q) m0) (ZeV Q))))
@[irreducible] def Zao (Q:QD) (m0 m1:Nat) (x3n:Nat) (x4:Int) (x11:LL) (x12 x13:Int) (x19:V) (x20 x21:Int) (y9:LL):Prop :=
 iter (adj (ZT.adj 6)) (evCode ZT (fnAt [1,1,0,1,0,0,1,1,0,0,1,1,0,0] Tryz.f101)) (Zkz Q m0) m1 ⟨un 3 ((.osl (.loc 9) x3n)::(.v (.int .i64) (V.i x4))::.undef::.skip::un 4 ((.v (.sl Zb) (V.l x11))::(.v (.int .i64) (V.i x12))::(.v (.int .i64) (V.i x13))::un 5 ((.v (.sl Ze5) (x19))::(.v (.int .i64) (V.i x20))::(.v (.int .i64) (V.i x21))::un 12 ([.skip])))),dd 9 ((.row Ze5 y9)::dd 25 ([]))⟩ []
@[irreducible] def Zam (Q:QD) (m0:Nat) (x3n:Nat) (x11:LL) (x12 x13:Int) (y9:LL):Prop :=
 iter (adj (ZT.adj 3)) (evCode ZT (fnAt [1,1,0,1,0,0] Tryz.f101)) (ZeV Q) m0 ⟨un 3 ((.osl (.loc 9) x3n)::un 2 (.skip::un 4 ((.v (.sl Zb) (V.l x11))::(.v (.int .i64) (V.i x12))::(.v (.int .i64) (V.i x13))::un 20 ([.skip])))),dd 9 ((.row Ze5 y9)::dd 25 ([]))⟩ []
def ZkJ (Q:QD) (m0 m1:Nat) (x3n:Nat) (x4:Int) (x11:LL) (x12 x13:Int) (x19:V) (x20 x21:Int) (y9:LL):Prop :=
 iff (decide (x21<x20)) (0≤x21∧x21<x19.list.length∧([[V.i x4]]).length=1∧1+((((x19.list.getD x21.toNat []).drop 0).headD V.none).list).length≤lim∧1+((((x19.list.getD x21.toNat []).drop 0).headD V.none).list).length=(([[V.i x4]])++((((x19.list.getD x21.toNat []).drop 0).headD V.none).list)).length∧y9.length=x3n∧x3n+([[V.l (([[V.i x4]])++((((x19.list.getD x21.toNat []).drop 0).headD V.none).list))]]).length≤lim∧Zao Q m0 m1 (x3n+([[V.l (([[V.i x4]])++((((x19.list.getD x21.toNat []).drop 0).headD V.none).list))]]).length) x4 x11 x12 x13 x19 x20 (IntKind.i64.wrap (x21+(1:Int))) (y9++([[V.l (([[V.i x4]])++((((x19.list.getD x21.toNat []).drop 0).headD V.none).list))]]))) (Zam Q m0 x3n x11 x12 (IntKind.i64.wrap (x13+(1:Int))) y9)
theorem ZiJ (Q:QD) (m0 m1:Nat) (x3n:Nat) (x4:Int) (x11:LL) (x12 x13:Int) (x19:V) (x20 x21:Int) (y9:LL):Zao Q m0 (m1+1) x3n x4 x11 x12 x13 x19 x20 x21 y9=ZkJ Q m0 m1 x3n x4 x11 x12 x13 x19 x20 x21 y9:=by kernel_rfl
theorem Zig (Q:QD) (m0:Nat) (x4:Int) (x11:LL) (x12 x13:Int) (x19:V) (n:Nat) (hb:n≤big) (J:Nat→Nat→LL→Prop)
  (step:∀ (k:Nat) (x3n:Nat) (y9:LL),k<n→J k x3n y9→∀ K:Nat→LL→Prop,(∀ (x3n':Nat) (y9':LL),J (k+1) x3n' y9'→K x3n' y9')→(0≤(k:Int)∧(k:Int)<x19.list.length∧([[V.i x4]]).length=1∧1+((((x19.list.getD k []).drop 0).headD V.none).list).length≤lim∧1+((((x19.list.getD k []).drop 0).headD V.none).list).length=(([[V.i x4]])++((((x19.list.getD k []).drop 0).headD V.none).list)).length∧y9.length=x3n∧x3n+([[V.l (([[V.i x4]])++((((x19.list.getD k []).drop 0).headD V.none).list))]]).length≤lim∧K (x3n+([[V.l (([[V.i x4]])++((((x19.list.getD k []).drop 0).headD V.none).list))]]).length) (y9++([[V.l (([[V.i x4]])++((((x19.list.getD k []).drop 0).headD V.none).list))]]))))
  (last:∀ (x3n:Nat) (y9:LL),J n x3n y9→(Zam Q m0 x3n x11 x12 (IntKind.i64.wrap (x13+(1:Int))) y9))
  (k:Nat) (x3n:Nat) (y9:LL) (le0:k≤n) (hj:J k x3n y9):∃ m1,Zao Q m0 m1 x3n x4 x11 x12 x13 x19 (n:Int) ((k:Int)) y9:=by
 exact rangeG2 n hb J (fun m1 i x3n y9=>Zao Q m0 m1 x3n x4 x11 x12 x13 x19 (n:Int) i y9) (fun m1 i x3n y9=>ZiJ Q m0 m1 x3n x4 x11 x12 x13 x19 (n:Int) i y9) (fun k x3n y9 hl_ hj_ m_ ih_=>step k x3n y9 hl_ hj_ _ ih_) last k x3n y9 le0 hj
def Zkn (Q:QD) (m0:Nat) (x3n:Nat) (x11:LL) (x12 x13:Int) (y9:LL):Prop :=
 iff (decide (x13<x12)) (0≤x13∧x13<x11.length∧cl ZbQ [.agg [.v .str (((x11.getD x13.toNat []).drop 0).headD V.none),.v .bool ((((x11.getD x13.toNat []).drop 0).tail).headD V.none),.v (.sl Zb) (((((x11.getD x13.toNat []).drop 0).tail).tail).headD V.none)]] [] fun r1 H2=>r1=(.v (.sl Ze5) (r1.V))∧H2=[]∧(r1.V.list.length≤big→∃ m1,Zao Q m0 m1 x3n x13 x11 x12 x13 r1.V ((r1.V.list.length:Int)) 0 y9)) ((x3n=y9.length)∧Q (.v (.sl Ze5) (V.l y9)) [])
theorem ZiA (Q:QD) (m0:Nat) (x3n:Nat) (x11:LL) (x12 x13:Int) (y9:LL):Zam Q (m0+1) x3n x11 x12 x13 y9=Zkn Q m0 x3n x11 x12 x13 y9:=by kernel_rfl
theorem Zh0 (Q:QD) (x11:LL) (n:Nat) (hb:n≤big) (J:Nat→Nat→LL→Prop)
  (step:∀ (k:Nat) (x3n:Nat) (y9:LL),k<n→J k x3n y9→∀ m0:Nat,(∀ (x3n':Nat) (y9':LL),J (k+1) x3n' y9'→Zam Q m0 x3n' x11 (n:Int) (IntKind.i64.wrap ((k:Int)+(1:Int))) y9')→(0≤(k:Int)∧(k:Int)<x11.length∧cl ZbQ [.agg [.v .str (((x11.getD k []).drop 0).headD V.none),.v .bool ((((x11.getD k []).drop 0).tail).headD V.none),.v (.sl Zb) (((((x11.getD k []).drop 0).tail).tail).headD V.none)]] [] fun r1 H2=>r1=(.v (.sl Ze5) (r1.V))∧H2=[]∧(r1.V.list.length≤big→∃ m1,Zao Q m0 m1 x3n (k:Int) x11 (n:Int) (k:Int) r1.V ((r1.V.list.length:Int)) 0 y9)))
  (last:∀ (x3n:Nat) (y9:LL),J n x3n y9→((x3n=y9.length)∧Q (.v (.sl Ze5) (V.l y9)) []))
  (k:Nat) (x3n:Nat) (y9:LL) (le0:k≤n) (hj:J k x3n y9):∃ m0,Zam Q m0 x3n x11 (n:Int) ((k:Int)) y9:=by
 exact rangeG2 n hb J (fun m0 i x3n y9=>Zam Q m0 x3n x11 (n:Int) i y9) (fun m0 i x3n y9=>ZiA Q m0 x3n x11 (n:Int) i y9) (fun k x3n y9 hl_ hj_ m_ ih_=>step k x3n y9 hl_ hj_ m_ ih_) last k x3n y9 le0 hj
def ZmE (a0_0:ByteArray) (a0_1:Bool) (a0_2:LL) (Q:QD):Prop :=
 0=(([]:List (List V))).length∧(a0_2.length≤big→∃ m0,Zam Q m0 1 a0_2 ((a0_2.length:Int)) 0 ([[V.l (([]:List (List V)))]]))
theorem ZnP (a0_0:ByteArray) (a0_1:Bool) (a0_2:LL) (Q:QD) (h:ZmE a0_0 a0_1 a0_2 Q):cl ZbQ [.agg [.v .str (V.s a0_0),.v .bool (V.b a0_1),.v (.sl Zb) (V.l a0_2)]] [] Q :=
 acalls2 (E:=ZT) (envOk _ _ _ _ _) 0 Tryz.func101 (by kernel_rfl) h
def Zcp:Env:=envA [(2,ua 0 2 ((.undef 5)::(.undef 7)::ua 11 19 ([.dead 20]))),(3000006,ua 0 2 ((.undef 5)::ua 11 19 ([.dead 20])))] [] [] [] [6]
def ZjH (Q:QD):Post:=blockK 0 (seqJ Zcp (fnAt [1,1] Tryz.f102) (endK Zcp Tryz.f102 Q))
@[irreducible] def ZjV (Q:QD) (m0:Nat) (x7:V) (x8:LL) (x9 x10:Int) (y2_0 y2_1 y2_2:V) (y4_0:ByteArray) (y4_1:Bool):Prop :=
 joinM (evCode Zcp (fnAt [1,0,1,0,0,1,1,0,0,1,1] Tryz.f102)) ⟨un 2 ((.ptr (.loc 2) 0)::.skip::(.ptr (.loc 4) 0)::.undef::.skip::(.v (.int .i64) (x7))::(.v (.sl ZU) (V.l x8))::(.v (.int .i64) (V.i x9))::(.v (.int .i64) (V.i x10))::un 19 ([.skip])),dd 2 ((.cells [.v .str (y2_0),.v .bool (y2_1),.v (.sl Zb) (y2_2)])::.dead::(.cells [.v .str (V.s y4_0),.v .bool (V.b y4_1),.nil])::dd 26 ([]))⟩ [] (blockK 1 (seqJ Zcp (fnAt [1,0,1,0,0,1,1,1] Tryz.f102) (loopK (adj (Zcp.adj 2)) (iter (adj (Zcp.adj 2)) (evCode Zcp (fnAt [1,0,1,0,0] Tryz.f102)) (ZjH Q) m0) (ZjH Q))))
@[irreducible] def Zfb (Q:QD) (m0:Nat) (x8:LL) (x9 x10:Int) (y2_0 y2_1 y2_2:V) (y4_0:ByteArray) (y4_1:Bool):Prop :=
 iter (adj (Zcp.adj 2)) (evCode Zcp (fnAt [1,0,1,0,0] Tryz.f102)) (ZjH Q) m0 ⟨un 2 ((.ptr (.loc 2) 0)::.skip::(.ptr (.loc 4) 0)::.undef::.skip::.undef::(.v (.sl ZU) (V.l x8))::(.v (.int .i64) (V.i x9))::(.v (.int .i64) (V.i x10))::un 19 ([.skip])),dd 2 ((.cells [.v .str (y2_0),.v .bool (y2_1),.v (.sl Zb) (y2_2)])::.dead::(.cells [.v .str (V.s y4_0),.v .bool (V.b y4_1),.nil])::dd 26 ([]))⟩ []
def Zoh (Q:QD) (m0:Nat) (x7:V) (x8:LL) (x9 x10:Int) (y2_0 y2_1 y2_2:V) (y4_0:ByteArray) (y4_1:Bool):Prop :=
 0≤x7.int∧x7.int<y2_2.list.length∧Zfb Q m0 x8 x9 (IntKind.i64.wrap (x10+(1:Int))) (((y2_2.list.getD x7.int.toNat []).drop 0).headD V.none) ((((y2_2.list.getD x7.int.toNat []).drop 0).tail).headD V.none) (((((y2_2.list.getD x7.int.toNat []).drop 0).tail).tail).headD V.none) y4_0 y4_1
theorem ZpU (Q:QD) (m0:Nat) (x7:V) (x8:LL) (x9 x10:Int) (y2_0 y2_1 y2_2:V) (y4_0:ByteArray) (y4_1:Bool):ZjV Q m0 x7 x8 x9 x10 y2_0 y2_1 y2_2 y4_0 y4_1=Zoh Q m0 x7 x8 x9 x10 y2_0 y2_1 y2_2 y4_0 y4_1:=by kernel_rfl
def ZqM (Q:QD) (m0:Nat) (x8:LL) (x9 x10:Int) (y2_0 y2_1 y2_2:V) (y4_0:ByteArray) (y4_1:Bool):Prop :=
 iff (decide (x10<x9)) (0≤x10∧x10<x8.length∧iff (decide (((((x8.getD x10.toNat []).drop 0).headD V.none).int)<(0:Int))) (((True∧True∧True∧True)∧True∧True)∧Q (.tup [.agg [.v .str (V.s (ByteArray.mk #[])),.v .bool (V.b false),.nil],.v .bool (V.b false)]) []) ((y2_2.list.length≤big→iff (decide (((((x8.getD x10.toNat []).drop 0).headD V.none).int)≥((y2_2.list.length:Int)))) (((True∧True∧True∧True)∧True∧True)∧Q (.tup [.agg [.v .str (V.s (ByteArray.mk #[])),.v .bool (V.b false),.nil],.v .bool (V.b false)]) []) (ZjV Q m0 (((x8.getD x10.toNat []).drop 0).headD V.none) x8 x9 x10 y2_0 y2_1 y2_2 y4_0 y4_1)))) (((True∧True∧True∧True)∧True∧True)∧Q (.tup [.agg [.v .str (y2_0),.v .bool (y2_1),.v (.sl Zb) (y2_2)],.v .bool (V.b true)]) [])
theorem ZpR (Q:QD) (m0:Nat) (x8:LL) (x9 x10:Int) (y2_0 y2_1 y2_2:V) (y4_0:ByteArray) (y4_1:Bool):Zfb Q (m0+1) x8 x9 x10 y2_0 y2_1 y2_2 y4_0 y4_1=ZqM Q m0 x8 x9 x10 y2_0 y2_1 y2_2 y4_0 y4_1:=by kernel_rfl
theorem Zo8 (Q:QD) (x8:LL) (y4_0:ByteArray) (y4_1:Bool) (n:Nat) (hb:n≤big) (J:Nat→V→V→V→Prop)
  (step:∀ (k:Nat) (y2_0 y2_1 y2_2:V),k<n→J k y2_0 y2_1 y2_2→∀ m0:Nat,(∀ (y2_0' y2_1' y2_2':V),J (k+1) y2_0' y2_1' y2_2'→Zfb Q m0 x8 (n:Int) (IntKind.i64.wrap ((k:Int)+(1:Int))) y2_0' y2_1' y2_2' y4_0 y4_1)→(0≤(k:Int)∧(k:Int)<x8.length∧iff (decide (((((x8.getD k []).drop 0).headD V.none).int)<(0:Int))) (((True∧True∧True∧True)∧True∧True)∧Q (.tup [.agg [.v .str (V.s (ByteArray.mk #[])),.v .bool (V.b false),.nil],.v .bool (V.b false)]) []) ((y2_2.list.length≤big→iff (decide (((((x8.getD k []).drop 0).headD V.none).int)≥((y2_2.list.length:Int)))) (((True∧True∧True∧True)∧True∧True)∧Q (.tup [.agg [.v .str (V.s (ByteArray.mk #[])),.v .bool (V.b false),.nil],.v .bool (V.b false)]) []) (ZjV Q m0 (((x8.getD k []).drop 0).headD V.none) x8 (n:Int) (k:Int) y2_0 y2_1 y2_2 y4_0 y4_1)))))
  (last:∀ (y2_0 y2_1 y2_2:V),J n y2_0 y2_1 y2_2→(((True∧True∧True∧True)∧True∧True)∧Q (.tup [.agg [.v .str (y2_0),.v .bool (y2_1),.v (.sl Zb) (y2_2)],.v .bool (V.b true)]) []))
  (k:Nat) (y2_0 y2_1 y2_2:V) (le0:k≤n) (hj:J k y2_0 y2_1 y2_2):∃ m0,Zfb Q m0 x8 (n:Int) ((k:Int)) y2_0 y2_1 y2_2 y4_0 y4_1:=by
 exact rangeG3 n hb J (fun m0 i y2_0 y2_1 y2_2=>Zfb Q m0 x8 (n:Int) i y2_0 y2_1 y2_2 y4_0 y4_1) (fun m0 i y2_0 y2_1 y2_2=>ZpR Q m0 x8 (n:Int) i y2_0 y2_1 y2_2 y4_0 y4_1) (fun k y2_0 y2_1 y2_2 hl_ hj_ m_ ih_=>step k y2_0 y2_1 y2_2 hl_ hj_ m_ ih_) last k y2_0 y2_1 y2_2 le0 hj
def Zqk (a0_0:ByteArray) (a0_1:Bool) (a0_2 a1:LL) (Q:QD):Prop :=
 (a1.length≤big→∃ m0,Zfb Q m0 a1 ((a1.length:Int)) 0 (V.s a0_0) (V.b a0_1) (V.l a0_2) (ByteArray.mk #[]) false)
theorem Zru (a0_0:ByteArray) (a0_1:Bool) (a0_2 a1:LL) (Q:QD) (h:Zqk a0_0 a0_1 a0_2 a1 Q):cl Zns [.agg [.v .str (V.s a0_0),.v .bool (V.b a0_1),.v (.sl Zb) (V.l a0_2)],.v (.sl ZU) (V.l a1)] [] Q :=
 acalls2 (E:=Zcp) (envOk _ _ _ _ _) 0 Tryz.func102 (by kernel_rfl) h
def ZdO:Env:=envA [(2,ua 0 2 (ua 3 2 (ua 6 2 (ua 11 7 ([.dead 3,.dead 6,.dead 16])))))] [] [] [] []
def Znz (Q:QD):Post:=blockK 0 (seqJ ZdO (fnAt [1,1] Tryz.f103) (endK ZdO Tryz.f103 Q))
@[irreducible] def ZcR (Q:QD) (m0:Nat) (x8:LL) (x9 x10:Int) (y2_0:ByteArray) (y2_1:Bool) (y2_2:LL):Prop :=
 iter (adj (ZdO.adj 2)) (evCode ZdO (fnAt [1,0,1,0,0] Tryz.f103)) (Znz Q) m0 ⟨un 2 ((.ptr (.loc 2) 0)::un 2 (.skip::un 2 ((.v (.sl Zb) (V.l x8))::(.v (.int .i64) (V.i x9))::(.v (.int .i64) (V.i x10))::un 7 ([])))),dd 2 ((.cells [.v .str (V.s y2_0),.v .bool (V.b y2_1),.v (.sl Zb) (V.l y2_2)])::dd 15 ([]))⟩ []
def Zn0 (Q:QD) (m0:Nat) (x8:LL) (x9 x10:Int) (y2_0:ByteArray) (y2_1:Bool) (y2_2:LL):Prop :=
 iff (decide (x10<x9)) (0≤x10∧x10<x8.length∧cl ZgB [.agg [.v .str (V.s y2_0),.v .bool (V.b y2_1),.v (.sl Zb) (V.l y2_2)],.agg [.v .str (((x8.getD x10.toNat []).drop 0).headD V.none),.v .bool ((((x8.getD x10.toNat []).drop 0).tail).headD V.none),.v (.sl Zb) (((((x8.getD x10.toNat []).drop 0).tail).tail).headD V.none)]] [] fun r1 H2=>r1=(.v .bool (r1.V))∧H2=[]∧iff r1.V.bool (True∧Q (.v .bool (V.b true)) []) (ZcR Q m0 x8 x9 (IntKind.i64.wrap (x10+(1:Int))) y2_0 y2_1 y2_2)) (True∧Q (.v .bool (V.b false)) [])
theorem Zlw (Q:QD) (m0:Nat) (x8:LL) (x9 x10:Int) (y2_0:ByteArray) (y2_1:Bool) (y2_2:LL):ZcR Q (m0+1) x8 x9 x10 y2_0 y2_1 y2_2=Zn0 Q m0 x8 x9 x10 y2_0 y2_1 y2_2:=by kernel_rfl
theorem Zj7 (Q:QD) (x8:LL) (y2_0:ByteArray) (y2_1:Bool) (y2_2:LL) (n:Nat) (hb:n≤big) (J:Nat→Prop)
  (step:∀ (k:Nat),k<n→J k→∀ K:Prop,(J (k+1)→K)→(0≤(k:Int)∧(k:Int)<x8.length∧cl ZgB [.agg [.v .str (V.s y2_0),.v .bool (V.b y2_1),.v (.sl Zb) (V.l y2_2)],.agg [.v .str (((x8.getD k []).drop 0).headD V.none),.v .bool ((((x8.getD k []).drop 0).tail).headD V.none),.v (.sl Zb) (((((x8.getD k []).drop 0).tail).tail).headD V.none)]] [] fun r1 H2=>r1=(.v .bool (r1.V))∧H2=[]∧iff r1.V.bool (True∧Q (.v .bool (V.b true)) []) (K)))
  (last:J n→(True∧Q (.v .bool (V.b false)) []))
  (k:Nat) (le0:k≤n) (hj:J k):∃ m0,ZcR Q m0 x8 (n:Int) ((k:Int)) y2_0 y2_1 y2_2:=by
 exact rangeG0 n hb J (fun m0 i=>ZcR Q m0 x8 (n:Int) i y2_0 y2_1 y2_2) (fun m0 i=>Zlw Q m0 x8 (n:Int) i y2_0 y2_1 y2_2) (fun k hl_ hj_ m_ ih_=>step k hl_ hj_ _ ih_) last k le0 hj
def ZpJ (a0_0:ByteArray) (a0_1:Bool) (a0_2:LL) (a1_0:ByteArray) (a1_1:Bool) (a1_2:LL) (Q:QD):Prop :=
 (a1_2.length≤big→∃ m0,ZcR Q m0 a1_2 ((a1_2.length:Int)) 0 a0_0 a0_1 a0_2)
theorem Zqz (a0_0:ByteArray) (a0_1:Bool) (a0_2:LL) (a1_0:ByteArray) (a1_1:Bool) (a1_2:LL) (Q:QD) (h:ZpJ a0_0 a0_1 a0_2 a1_0 a1_1 a1_2 Q):cl Zes [.agg [.v .str (V.s a0_0),.v .bool (V.b a0_1),.v (.sl Zb) (V.l a0_2)],.agg [.v .str (V.s a1_0),.v .bool (V.b a1_1),.v (.sl Zb) (V.l a1_2)]] [] Q :=
 acalls2 (E:=ZdO) (envOk _ _ _ _ _) 0 Tryz.func103 (by kernel_rfl) h
def Zgx:Env:=envA [(3000002,(.undef 0)::(.undef 3)::ua 5 7 ([.dead 10]))] [] [] [] [2]
@[irreducible] def ZfP (Q:QD) (x4:V) (y1_0:ByteArray) (y1_1:Bool) (y1_2:LL) (y2_0:ByteArray) (y2_1:Bool):Prop :=
 joinM (evCode Zgx (fnAt [1,0,0,1] Tryz.f104)) ⟨.undef::(.ptr (.loc 1) 0)::(.ptr (.loc 2) 0)::.undef::(.v .bool (x4))::un 7 (sk 13 ([])),.dead::(.cells [.v .str (V.s y1_0),.v .bool (V.b y1_1),.v (.sl Zb) (V.l y1_2)])::(.cells [.v .str (V.s y2_0),.v .bool (V.b y2_1),.nil])::dd 22 ([])⟩ [] (blockK 0 (seqJ Zgx (fnAt [1,1] Tryz.f104) (endK Zgx Tryz.f104 Q)))
def Zkv (Q:QD) (x4:V) (y1_0:ByteArray) (y1_1:Bool) (y1_2:LL) (y2_0:ByteArray) (y2_1:Bool):Prop :=
 iff x4.bool (((True∧True∧True∧True)∧True∧True)∧Q (.tup [.agg [.v .str (V.s (ByteArray.mk #[])),.v .bool (V.b false),.nil],.v (.int .i64) (V.i 4)]) []) ((y1_0.size≤big→iff (decide (((y1_0.size:Int))≥(24:Int))) (((True∧True∧True∧True)∧True∧True)∧Q (.tup [.agg [.v .str (V.s (ByteArray.mk #[])),.v .bool (V.b false),.nil],.v (.int .i64) (V.i 3)]) []) (y1_0.size+(ByteArray.mk #[35]).size≤lim∧((True∧True∧True∧True)∧True∧True)∧Q (.tup [.agg [.v .str (V.s (y1_0++(ByteArray.mk #[35]))),.v .bool (V.b false),.v (.sl Zb) (V.l y1_2)],.v (.int .i64) (V.i 0)]) [])))
theorem ZnK (Q:QD) (x4:V) (y1_0:ByteArray) (y1_1:Bool) (y1_2:LL) (y2_0:ByteArray) (y2_1:Bool):ZfP Q x4 y1_0 y1_1 y1_2 y2_0 y2_1=Zkv Q x4 y1_0 y1_1 y1_2 y2_0 y2_1:=by kernel_rfl
def Zoc (a0_0:ByteArray) (a0_1:Bool) (a0_2:LL) (Q:QD):Prop :=
 iff a0_1 (ZfP Q (V.b true) a0_0 a0_1 a0_2 (ByteArray.mk #[]) false) (cl ZcO [.v .str (V.s a0_0)] [] fun r1 H2=>r1=(.v .bool (r1.V))∧H2=[]∧ZfP Q r1.V a0_0 a0_1 a0_2 (ByteArray.mk #[]) false)
theorem Zrq (a0_0:ByteArray) (a0_1:Bool) (a0_2:LL) (Q:QD) (h:Zoc a0_0 a0_1 a0_2 Q):cl Zim [.agg [.v .str (V.s a0_0),.v .bool (V.b a0_1),.v (.sl Zb) (V.l a0_2)]] [] Q :=
 acalls2 (E:=Zgx) (envOk _ _ _ _ _) 0 Tryz.func104 (by kernel_rfl) h
def Zcn:Env:=envA [(2,ua 0 2 ((.undef 4)::(.undef 6)::ua 10 9 ((.dead 6)::(.dead 14)::da 16 2 ([]))))] [] [] [] []
def ZlC (Q:QD):Post:=blockK 0 (seqJ Zcn (fnAt [1,1] Tryz.f105) (endK Zcn Tryz.f105 Q))
@[irreducible] def ZbV (Q:QD) (m0:Nat) (x7n:Nat) (x8 x9:Int) (y3_0:ByteArray) (y3_1:Bool) (y3_2:LL) (y3_3:ByteArray) (y3_4:Bool) (y3_5 h0:LL):Prop :=
 iter (adj (Zcn.adj 2)) (evCode Zcn (fnAt [1,0,1,0,0] Tryz.f105)) (ZlC Q) m0 ⟨un 2 (.skip::(.ptr (.loc 3) 0)::.undef::.skip::.undef::(.osl (.own 0) x7n)::(.v (.int .i64) (V.i x8))::(.v (.int .i64) (V.i x9))::un 9 ([])),dd 3 ((.cells [.v .str (V.s y3_0),.v .bool (V.b y3_1),.v (.sl Zb) (V.l y3_2),.v .str (V.s y3_3),.v .bool (V.b y3_4),.v (.sl Zb) (V.l y3_5)])::dd 15 ([]))⟩ [.row Zd h0]
def Zly (Q:QD) (m0:Nat) (x7n:Nat) (x8 x9:Int) (y3_0:ByteArray) (y3_1:Bool) (y3_2:LL) (y3_3:ByteArray) (y3_4:Bool) (y3_5 h0:LL):Prop :=
 iff (decide (x9<x8)) (h0.length=x7n∧0≤x9∧x9<x7n∧h0.length=x7n∧x9.toNat<x7n∧cl ZeQ [.v (.sl Zd) (V.l ([[V.s y3_0,V.b y3_1,V.l y3_2,V.s y3_3,V.b y3_4,V.l y3_5]])),.v (.sl Zd) (V.l ([[((h0.getD x9.toNat []).drop 0).headD V.none,(((h0.getD x9.toNat []).drop 0).tail).headD V.none,((((h0.getD x9.toNat []).drop 0).tail).tail).headD V.none,(((((h0.getD x9.toNat []).drop 0).tail).tail).tail).headD V.none,((((((h0.getD x9.toNat []).drop 0).tail).tail).tail).tail).headD V.none,(((((((h0.getD x9.toNat []).drop 0).tail).tail).tail).tail).tail).headD V.none]]))] [] fun r1 H2=>r1=(.v .bool (r1.V))∧H2=[]∧iff r1.V.bool (True∧Q (.v .bool (V.b true)) [.row Zd h0]) (ZbV Q m0 x7n x8 (IntKind.i64.wrap (x9+(1:Int))) y3_0 y3_1 y3_2 y3_3 y3_4 y3_5 h0)) (True∧Q (.v .bool (V.b false)) [.row Zd h0])
theorem ZjI (Q:QD) (m0:Nat) (x7n:Nat) (x8 x9:Int) (y3_0:ByteArray) (y3_1:Bool) (y3_2:LL) (y3_3:ByteArray) (y3_4:Bool) (y3_5 h0:LL):ZbV Q (m0+1) x7n x8 x9 y3_0 y3_1 y3_2 y3_3 y3_4 y3_5 h0=Zly Q m0 x7n x8 x9 y3_0 y3_1 y3_2 y3_3 y3_4 y3_5 h0:=by kernel_rfl
theorem ZiD (Q:QD) (x7n:Nat) (y3_0:ByteArray) (y3_1:Bool) (y3_2:LL) (y3_3:ByteArray) (y3_4:Bool) (y3_5 h0:LL) (n:Nat) (hb:n≤big) (J:Nat→Prop)
  (step:∀ (k:Nat),k<n→J k→∀ K:Prop,(J (k+1)→K)→(h0.length=x7n∧0≤(k:Int)∧(k:Int)<x7n∧h0.length=x7n∧k<x7n∧cl ZeQ [.v (.sl Zd) (V.l ([[V.s y3_0,V.b y3_1,V.l y3_2,V.s y3_3,V.b y3_4,V.l y3_5]])),.v (.sl Zd) (V.l ([[((h0.getD k []).drop 0).headD V.none,(((h0.getD k []).drop 0).tail).headD V.none,((((h0.getD k []).drop 0).tail).tail).headD V.none,(((((h0.getD k []).drop 0).tail).tail).tail).headD V.none,((((((h0.getD k []).drop 0).tail).tail).tail).tail).headD V.none,(((((((h0.getD k []).drop 0).tail).tail).tail).tail).tail).headD V.none]]))] [] fun r1 H2=>r1=(.v .bool (r1.V))∧H2=[]∧iff r1.V.bool (True∧Q (.v .bool (V.b true)) [.row Zd h0]) (K)))
  (last:J n→(True∧Q (.v .bool (V.b false)) [.row Zd h0]))
  (k:Nat) (le0:k≤n) (hj:J k):∃ m0,ZbV Q m0 x7n (n:Int) ((k:Int)) y3_0 y3_1 y3_2 y3_3 y3_4 y3_5 h0:=by
 exact rangeG0 n hb J (fun m0 i=>ZbV Q m0 x7n (n:Int) i y3_0 y3_1 y3_2 y3_3 y3_4 y3_5 h0) (fun m0 i=>ZjI Q m0 x7n (n:Int) i y3_0 y3_1 y3_2 y3_3 y3_4 y3_5 h0) (fun k hl_ hj_ m_ ih_=>step k hl_ hj_ _ ih_) last k le0 hj
def ZnD (a0n:Nat) (a1_0:ByteArray) (a1_1:Bool) (a1_2:LL) (a1_3:ByteArray) (a1_4:Bool) (a1_5 h0:LL) (Q:QD):Prop :=
 h0.length=a0n∧(a0n≤big→∃ m0,ZbV Q m0 a0n (((a0n:Nat):Int)) 0 a1_0 a1_1 a1_2 a1_3 a1_4 a1_5 h0)
theorem Zow (a0n:Nat) (a1_0:ByteArray) (a1_1:Bool) (a1_2:LL) (a1_3:ByteArray) (a1_4:Bool) (a1_5 h0:LL) (Q:QD) (h:ZnD a0n a1_0 a1_1 a1_2 a1_3 a1_4 a1_5 h0 Q):cl Zh6 [.osl (.own 0) a0n,.agg [.v .str (V.s a1_0),.v .bool (V.b a1_1),.v (.sl Zb) (V.l a1_2),.v .str (V.s a1_3),.v .bool (V.b a1_4),.v (.sl Zb) (V.l a1_5)]] [.row Zd h0] Q :=
 acalls2 (E:=Zcn) (envOk _ _ _ _ _) 0 Tryz.func105 (by kernel_rfl) h
def Za6:Env:=envA [(8,ua 2 9 (ua 12 8 (ua 21 6 ([.dead 26]))))] [] [] [] []
def Zik (Q:QD):Post:=blockK 0 (seqJ Za6 (fnAt [1,1,1,1,1] Tryz.f106) (endK Za6 Tryz.f106 Q))
@[irreducible] def ZbE (Q:QD) (m0:Nat) (x0:LL) (y20_x:V) (y20n:Nat) (y20s:List Nat):Prop :=
 iter (adj (Za6.adj 8)) (evCode Za6 (fnAt [1,1,1,1,0,1,0,0] Tryz.f106)) (Zik Q) m0 ⟨(.v (.sl Zd) (V.l x0))::.skip::un 9 (.skip::un 8 ((.ptr (.loc 20) 0)::un 6 (sk 2 ([])))),dd 20 ((.iter ZeR (.v (.mp ZeR) (y20_x)) y20n y20s)::dd 8 ([]))⟩ []
def Zfs (Q:QD) (m0:Nat) (x0:LL) (y20_x:V) (y20n:Nat) (y20s:List Nat):Prop :=
 y20_x.list.length=y20n∧((∀ j:Nat,j<y20n→j∈y20s)→cl Zj [.v (.sl Zd) (V.l x0),.fn ZaN []] [] fun r2 H3=>r2=(.v .bool (r2.V))∧H3=[]∧iff r2.V.bool (True∧Q (.v (.int .i64) (V.i 7)) []) (True∧Q (.v (.int .i64) (V.i 0)) []))∧(∀ j1:Nat,j1<y20n→j1 ∉ y20s→y20s.length<y20n→y20_x.list.length=y20n∧cl Zap [.v .str ((y20_x.list.getD j1 []).headD V.none)] [] fun r4 H5=>r4=(.v .bool (r4.V))∧H5=[]∧iff r4.V.bool (True∧Q (.v (.int .i64) (V.i 6)) []) (ZbE Q m0 x0 y20_x y20n (j1::y20s)))
theorem Zg6 (Q:QD) (m0:Nat) (x0:LL) (y20_x:V) (y20n:Nat) (y20s:List Nat):ZbE Q (m0+1) x0 y20_x y20n y20s=Zfs Q m0 x0 y20_x y20n y20s:=by kernel_rfl
theorem Zg0 (Q:QD):RuleG4 (ZbE Q) (Zfs Q):=ruleG4 _ _ (Zg6 Q)
def Zf8 (a0:LL) (Q:QD):Prop :=
 cl Zdn [.v (.sl Zd) (V.l a0)] [] fun r1 H2=>r1=(.v (.int .i64) (r1.V))∧H2=[]∧iff (r1.V.int != (0:Int)) (True∧Q (.v (.int .i64) (r1.V)) []) (cl Zfg [.v (.sl Zd) (V.l a0)] [] fun r3 H4=>r3=(.tup [.v (.mp ZeR) ((r3.parts.headD .undef).V),.v .bool ((r3.parts.tail.headD .undef).V)])∧H4=[]∧iff (!(((r3.parts.tail.headD .undef).V).bool)) (True∧Q (.v (.int .i64) (V.i 6)) []) (∃ m0,ZbE Q m0 a0 ((r3.parts.headD .undef).V) ((((r3.parts.headD .undef).V).list).length) (([]:List Nat))))
theorem Zkh (a0:LL) (Q:QD) (h:Zf8 a0 Q):cl ZeP [.v (.sl Zd) (V.l a0)] [] Q :=
 acalls2 (E:=Za6) (envOk _ _ _ _ _) 0 Tryz.func106 (by kernel_rfl) h
def Zbi:Env:=envA [(4,(.undef 0)::(.undef 2)::ua 4 5 (ua 12 13 ((.dead 4)::da 19 2 ([]))))] [] [] [] []
def ZiH (Q:QD):Post:=blockK 0 (seqJ Zbi (fnAt [1,1,1] Tryz.f107) (endK Zbi Tryz.f107 Q))
@[irreducible] def ZaY (Q:QD) (m0:Nat) (x9:LL) (x10 x11:Int):Prop :=
 iter (adj (Zbi.adj 4)) (evCode Zbi (fnAt [1,1,0,1,0,0] Tryz.f107)) (ZiH Q) m0 ⟨.undef::.skip::.undef::.skip::un 5 ((.v (.sl Zd) (V.l x9))::(.v (.int .i64) (V.i x10))::(.v (.int .i64) (V.i x11))::un 13 ([])),dd 25 ([])⟩ []
def ZiN (Q:QD) (m0:Nat) (x9:LL) (x10 x11:Int):Prop :=
 iff (decide (x11<x10)) (0≤x11∧x11<x9.length∧cl Zil [.v (.sl Zb) (V.l ([[((x9.getD x11.toNat []).drop 0).headD V.none,(((x9.getD x11.toNat []).drop 0).tail).headD V.none,((((x9.getD x11.toNat []).drop 0).tail).tail).headD V.none],[(((((x9.getD x11.toNat []).drop 0).tail).tail).tail).headD V.none,((((((x9.getD x11.toNat []).drop 0).tail).tail).tail).tail).headD V.none,(((((((x9.getD x11.toNat []).drop 0).tail).tail).tail).tail).tail).headD V.none]]))] [] fun r1 H2=>r1=(.v (.int .i64) (r1.V))∧H2=[]∧iff (r1.V.int != (0:Int)) (True∧Q (.v (.int .i64) (r1.V)) []) (ZaY Q m0 x9 x10 (IntKind.i64.wrap (x11+(1:Int))))) (True∧Q (.v (.int .i64) (V.i 0)) [])
theorem Zhz (Q:QD) (m0:Nat) (x9:LL) (x10 x11:Int):ZaY Q (m0+1) x9 x10 x11=ZiN Q m0 x9 x10 x11:=by kernel_rfl
theorem Zhf (Q:QD) (x9:LL) (n:Nat) (hb:n≤big) (J:Nat→Prop)
  (step:∀ (k:Nat),k<n→J k→∀ K:Prop,(J (k+1)→K)→(0≤(k:Int)∧(k:Int)<x9.length∧cl Zil [.v (.sl Zb) (V.l ([[((x9.getD k []).drop 0).headD V.none,(((x9.getD k []).drop 0).tail).headD V.none,((((x9.getD k []).drop 0).tail).tail).headD V.none],[(((((x9.getD k []).drop 0).tail).tail).tail).headD V.none,((((((x9.getD k []).drop 0).tail).tail).tail).tail).headD V.none,(((((((x9.getD k []).drop 0).tail).tail).tail).tail).tail).headD V.none]]))] [] fun r1 H2=>r1=(.v (.int .i64) (r1.V))∧H2=[]∧iff (r1.V.int != (0:Int)) (True∧Q (.v (.int .i64) (r1.V)) []) (K)))
  (last:J n→(True∧Q (.v (.int .i64) (V.i 0)) []))
  (k:Nat) (le0:k≤n) (hj:J k):∃ m0,ZaY Q m0 x9 (n:Int) ((k:Int)):=by
 exact rangeG0 n hb J (fun m0 i=>ZaY Q m0 x9 (n:Int) i) (fun m0 i=>Zhz Q m0 x9 (n:Int) i) (fun k hl_ hj_ m_ ih_=>step k hl_ hj_ _ ih_) last k le0 hj
def ZkI (a0:LL) (Q:QD):Prop :=
 (a0.length≤big→iff (decide (((a0.length:Int)) > (64:Int))) (True∧Q (.v (.int .i64) (V.i 3)) []) ((a0.length≤big→∃ m0,ZaY Q m0 a0 ((a0.length:Int)) 0)))
theorem Zk4 (a0:LL) (Q:QD) (h:ZkI a0 Q):cl Zdn [.v (.sl Zd) (V.l a0)] [] Q :=
 acalls2 (E:=Zbi) (envOk _ _ _ _ _) 0 Tryz.func107 (by kernel_rfl) h
def ZcM:Env:=envA [] [] [] [] []
def ZaJ (a0:LL) (Q:QD):Prop :=
 cl ZG [.v (.sl Zd) (V.l a0),.fn Z4 []] [] fun r1 H2=>r1=(.v (.int .i64) (r1.V))∧H2=[]∧True∧Q (.v .bool (V.b (decide (r1.V.int≥(0:Int))))) []
theorem Zds (a0:LL) (Q:QD) (h:ZaJ a0 Q):cl Zj [.v (.sl Zd) (V.l a0),.fn Z4 []] [] Q :=
 acalls2 (E:=ZcM) (envOk _ _ _ _ _) 0 Tryz.func108 (by kernel_rfl) h
def ZO:Env:=envA [(3,(.undef 2)::(.undef 5)::ua 12 11 ([.dead 17])),(11,(.undef 0)::ua 2 2 ((.undef 5)::ua 8 17 (ua 28 7 ([.dead 33]))))] [] [] [] []
def Zg4 (Q:QD):Post:=blockK 0 (seqJ ZO (fnAt [1,1,1] Tryz.f112) (endK ZO Tryz.f112 Q))
def Zg1 (Q:QD):Post:=blockK 2 (seqJ ZO (fnAt [1,1,1,1,1] Tryz.f112) (endK ZO Tryz.f112 Q))
@[irreducible] def Z8 (Q:QD) (m1:Nat) (x6n:Nat) (x25:LL) (x26 x27:Int) (y24:LL):Prop :=
 iter (adj (ZO.adj 11)) (evCode ZO (fnAt [1,1,1,1,0,1,0,0] Tryz.f112)) (Zg1 Q) m1 ⟨.undef::.skip::un 2 (.skip::.undef::(.osl (.loc 24) x6n)::.skip::un 17 ((.v (.sl Zfh) (V.l x25))::(.v (.int .i64) (V.i x26))::(.v (.int .i64) (V.i x27))::un 7 ([.skip]))),dd 24 ((.row Zd y24)::dd 11 ([]))⟩ []
@[irreducible] def Zar (Q:QD) (m0:Nat) (x0:LL) (x3:Int) (x9:LL) (x10 x11:Int):Prop :=
 iter (adj (ZO.adj 3)) (evCode ZO (fnAt [1,1,0,1,0,0] Tryz.f112)) (Zg4 Q) m0 ⟨(.v (.sl Zfh) (V.l x0))::.skip::.undef::(.v (.int .i64) (V.i x3))::.skip::.undef::sk 3 ((.v (.sl Zfh) (V.l x9))::(.v (.int .i64) (V.i x10))::(.v (.int .i64) (V.i x11))::un 11 (sk 13 ([]))),dd 36 ([])⟩ []
def Zhk (Q:QD) (m1:Nat) (x6n:Nat) (x25:LL) (x26 x27:Int) (y24:LL):Prop :=
 iff (decide (x27<x26)) (0≤x27∧x27<x25.length∧y24.length=x6n∧x6n+((((x25.getD x27.toNat []).drop 0).headD V.none).list).length≤lim∧Z8 Q m1 (x6n+((((x25.getD x27.toNat []).drop 0).headD V.none).list).length) x25 x26 (IntKind.i64.wrap (x27+(1:Int))) (y24++((((x25.getD x27.toNat []).drop 0).headD V.none).list))) ((x6n=y24.length)∧Q (.v (.sl Zd) (V.l y24)) [])
theorem ZgJ (Q:QD) (m1:Nat) (x6n:Nat) (x25:LL) (x26 x27:Int) (y24:LL):Z8 Q (m1+1) x6n x25 x26 x27 y24=Zhk Q m1 x6n x25 x26 x27 y24:=by kernel_rfl
theorem Zgj (Q:QD) (x25:LL) (n:Nat) (hb:n≤big) (J:Nat→Nat→LL→Prop)
  (step:∀ (k:Nat) (x6n:Nat) (y24:LL),k<n→J k x6n y24→∀ K:Nat→LL→Prop,(∀ (x6n':Nat) (y24':LL),J (k+1) x6n' y24'→K x6n' y24')→(0≤(k:Int)∧(k:Int)<x25.length∧y24.length=x6n∧x6n+((((x25.getD k []).drop 0).headD V.none).list).length≤lim∧K (x6n+((((x25.getD k []).drop 0).headD V.none).list).length) (y24++((((x25.getD k []).drop 0).headD V.none).list))))
  (last:∀ (x6n:Nat) (y24:LL),J n x6n y24→((x6n=y24.length)∧Q (.v (.sl Zd) (V.l y24)) []))
  (k:Nat) (x6n:Nat) (y24:LL) (le0:k≤n) (hj:J k x6n y24):∃ m1,Z8 Q m1 x6n x25 (n:Int) ((k:Int)) y24:=by
 exact rangeG2 n hb J (fun m1 i x6n y24=>Z8 Q m1 x6n x25 (n:Int) i y24) (fun m1 i x6n y24=>ZgJ Q m1 x6n x25 (n:Int) i y24) (fun k x6n y24 hl_ hj_ m_ ih_=>step k x6n y24 hl_ hj_ _ ih_) last k x6n y24 le0 hj
def Zhb (Q:QD) (m0:Nat) (x0:LL) (x3:Int) (x9:LL) (x10 x11:Int):Prop :=
 iff (decide (x11<x10)) (0≤x11∧x11<x9.length∧(((((x9.getD x11.toNat []).drop 0).headD V.none).list).length≤big→iff (decide ((IntKind.i64.wrap (x3+((((((x9.getD x11.toNat []).drop 0).headD V.none).list).length:Int))))<(0:Int))) (False) (Zar Q m0 x0 (IntKind.i64.wrap (x3+((((((x9.getD x11.toNat []).drop 0).headD V.none).list).length:Int)))) x9 x10 (IntKind.i64.wrap (x11+(1:Int)))))) (∃ x1:LL,frA ZeL [.nil,.v (.int .i64) (V.i x3)] x1∧(x0.length≤big→∃ m1,Z8 Q m1 x1.length x0 ((x0.length:Int)) 0 x1))
theorem ZgL (Q:QD) (m0:Nat) (x0:LL) (x3:Int) (x9:LL) (x10 x11:Int):Zar Q (m0+1) x0 x3 x9 x10 x11=Zhb Q m0 x0 x3 x9 x10 x11:=by kernel_rfl
theorem Zgm (Q:QD) (x0 x9:LL) (n:Nat) (hb:n≤big) (J:Nat→Int→Prop)
  (step:∀ (k:Nat) (x3:Int),k<n→J k x3→∀ K:Int→Prop,(∀ (x3':Int),J (k+1) x3'→K x3')→(0≤(k:Int)∧(k:Int)<x9.length∧(((((x9.getD k []).drop 0).headD V.none).list).length≤big→iff (decide ((IntKind.i64.wrap (x3+((((((x9.getD k []).drop 0).headD V.none).list).length:Int))))<(0:Int))) (False) (K (IntKind.i64.wrap (x3+((((((x9.getD k []).drop 0).headD V.none).list).length:Int))))))))
  (last:∀ (x3:Int),J n x3→(∃ x1:LL,frA ZeL [.nil,.v (.int .i64) (V.i x3)] x1∧(x0.length≤big→∃ m1,Z8 Q m1 x1.length x0 ((x0.length:Int)) 0 x1)))
  (k:Nat) (x3:Int) (le0:k≤n) (hj:J k x3):∃ m0,Zar Q m0 x0 x3 x9 (n:Int) ((k:Int)):=by
 exact rangeG1 n hb J (fun m0 i x3=>Zar Q m0 x0 x3 x9 (n:Int) i) (fun m0 i x3=>ZgL Q m0 x0 x3 x9 (n:Int) i) (fun k x3 hl_ hj_ m_ ih_=>step k x3 hl_ hj_ _ ih_) last k x3 le0 hj
def ZhS (a0:LL) (Q:QD):Prop :=
 (a0.length≤big→∃ m0,Zar Q m0 a0 0 a0 ((a0.length:Int)) 0)
theorem ZiO (a0:LL) (Q:QD) (h:ZhS a0 Q):cl Zdy [.v (.sl Zfh) (V.l a0)] [] Q :=
 acalls2 (E:=ZO) (envOk _ _ _ _ _) 0 Tryz.func112 (by kernel_rfl) h
def Zk:Env:=envA [(3,(.undef 0)::(.undef 6)::(.undef 8)::ua 10 4 (ua 17 13 (ua 32 25 ([.dead 6,.dead 8,.dead 10,.dead 29,.dead 46,.dead 54])))),(6,(.undef 0)::(.undef 6)::(.undef 8)::ua 10 4 (ua 17 7 (ua 26 4 (ua 32 25 ([.dead 6,.dead 8,.dead 10,.dead 29,.dead 46,.dead 54]))))),(10,(.undef 0)::(.undef 6)::(.undef 8)::ua 10 4 (ua 17 7 (ua 26 3 (ua 32 25 ([.dead 8])))))] [] [] [] []
def Zfe (Q:QD):Post:=blockK 0 (seqJ Zk (fnAt [1,1,1] Tryz.f111) (endK Zk Tryz.f111 Q))
def Ze9 (Q:QD) (m0:Nat):Post:=blockK 2 (blockK 1 (seqJ Zk (fnAt [1,1,0,1,0,0,1,1,1] Tryz.f111) (loopK (adj (Zk.adj 3)) (iter (adj (Zk.adj 3)) (evCode Zk (fnAt [1,1,0,1,0,0] Tryz.f111)) (Zfe Q) m0) (Zfe Q))))
@[irreducible] def Z6 (Q:QD) (m0 m1:Nat) (zx14:LL) (zx15 zx16:Int) (zx24_0 zx24_1 zx24_2 zx24_3 zx24_4 zx24_5:V) (zx25:Int) (zx29_0:List V) (zy3_0:Bool) (zy13:LL) (q1_0:Bool) (q3:LL) (rows:LL):Prop :=
 rangeR (evCode Zk (fnAt [1,1,0,1,0,0,1,1,0,0,1,1,0,0,1,1,0,0,1,1,0,0] Tryz.f111)) (evCode Zk (fnAt [1,1,0,1,0,0,1,1,0,0,1,1,0,0,1,1,0,0,1,1,0,1] Tryz.f111)) [30,31] (rowA 171) [.cells [.undef],.cells [.v .bool (V.b zy3_0)],.cells [.mp (.own 3)],.map ZeR zy13] (.undef::.skip::(.ptr (.own 0) 0)::(.ptr (.own 1) 0)::(.ptr (.own 2) 0)::.skip::.undef::.skip::.undef::.skip::un 4 ((.v (.sl Zd) (V.l zx14))::(.v (.int .i64) (V.i zx15))::(.v (.int .i64) (V.i zx16))::un 7 ((.agg [.v .str (zx24_0),.v .bool (zx24_1),.v (.sl Zb) (zx24_2),.v .str (zx24_3),.v .bool (zx24_4),.v (.sl Zb) (zx24_5)])::(.v (.int .i64) (V.i zx25))::un 3 ((.fn Zt [.elt Zb zx29_0 0])::sk 2 (un 25 ([.skip])))))) (dd 58 []) (outR Zk [.loc 2,.loc 3,.loc 4,.loc 13] ⟨.undef::.skip::(.ptr (.loc 2) 0)::(.ptr (.loc 3) 0)::(.ptr (.loc 4) 0)::.skip::.undef::.skip::.undef::.skip::un 4 ((.v (.sl Zd) (V.l zx14))::(.v (.int .i64) (V.i zx15))::(.v (.int .i64) (V.i zx16))::un 7 ((.agg [.v .str (zx24_0),.v .bool (zx24_1),.v (.sl Zb) (zx24_2),.v .str (zx24_3),.v .bool (zx24_4),.v (.sl Zb) (zx24_5)])::(.v (.int .i64) (V.i zx25))::un 3 ((.fn Zt [.elt Zb zx29_0 0])::sk 2 (un 25 ([.skip]))))),dd 2 ((.cells [.undef])::(.cells [.v .bool (V.b zy3_0)])::(.cells [.mp (.loc 13)])::dd 8 ((.map ZeR zy13)::dd 44 ([])))⟩ [] (blockK 4 (blockK 3 (seqJ Zk (fnAt [1,1,0,1,0,0,1,1,0,0,1,1,0,0,1,1,1] Tryz.f111) (loopK (adj (Zk.adj 6)) (iter (adj (Zk.adj 6)) (evCode Zk (fnAt [1,1,0,1,0,0,1,1,0,0,1,1,0,0] Tryz.f111)) (Ze9 Q m0) m1) (Ze9 Q m0)))))) rows [.cells [.undef],.cells [.v .bool (V.b q1_0)],.cells [.mp (.own 3)],.map ZeR q3]
@[irreducible] def ZbW (Q:QD) (m0 m1:Nat) (x14:LL) (x15 x16:Int) (x24_0 x24_1 x24_2 x24_3 x24_4 x24_5:V) (x25:Int) (y3_0:Bool) (y13:LL):Prop :=
 iter (adj (Zk.adj 6)) (evCode Zk (fnAt [1,1,0,1,0,0,1,1,0,0,1,1,0,0] Tryz.f111)) (Ze9 Q m0) m1 ⟨.undef::.skip::(.ptr (.loc 2) 0)::(.ptr (.loc 3) 0)::(.ptr (.loc 4) 0)::.skip::.undef::.skip::.undef::.skip::un 4 ((.v (.sl Zd) (V.l x14))::(.v (.int .i64) (V.i x15))::(.v (.int .i64) (V.i x16))::un 7 ((.agg [.v .str (x24_0),.v .bool (x24_1),.v (.sl Zb) (x24_2),.v .str (x24_3),.v .bool (x24_4),.v (.sl Zb) (x24_5)])::(.v (.int .i64) (V.i x25))::un 4 (sk 2 (un 25 ([.skip]))))),dd 2 ((.cells [.undef])::(.cells [.v .bool (V.b y3_0)])::(.cells [.mp (.loc 13)])::dd 8 ((.map ZeR y13)::dd 44 ([])))⟩ []
@[irreducible] def ZbS (Q:QD) (m0:Nat) (x14:LL) (x15 x16:Int) (y3_0:Bool) (y13:LL):Prop :=
 iter (adj (Zk.adj 3)) (evCode Zk (fnAt [1,1,0,1,0,0] Tryz.f111)) (Zfe Q) m0 ⟨.undef::.skip::(.ptr (.loc 2) 0)::(.ptr (.loc 3) 0)::(.ptr (.loc 4) 0)::.skip::.undef::.skip::.undef::.skip::un 4 ((.v (.sl Zd) (V.l x14))::(.v (.int .i64) (V.i x15))::(.v (.int .i64) (V.i x16))::un 13 (sk 2 (un 25 ([.skip])))),dd 2 ((.cells [.undef])::(.cells [.v .bool (V.b y3_0)])::(.cells [.mp (.loc 13)])::dd 8 ((.map ZeR y13)::dd 44 ([])))⟩ []
theorem ZkT (Q:QD) (m0 m1:Nat) (zx14:LL) (zx15 zx16:Int) (zx24_0 zx24_1 zx24_2 zx24_3 zx24_4 zx24_5:V) (zx25:Int) (zx29_0:List V) (zy3_0:Bool) (zy13:LL) (q1_0:Bool) (q3:LL):Z6 Q m0 m1 zx14 zx15 zx16 zx24_0 zx24_1 zx24_2 zx24_3 zx24_4 zx24_5 zx25 zx29_0 zy3_0 zy13 q1_0 q3 []=(ZbW Q m0 m1 zx14 zx15 zx16 zx24_0 zx24_1 zx24_2 zx24_3 zx24_4 zx24_5 (IntKind.i64.wrap (zx25+(1:Int))) q1_0 q3):=by kernel_rfl
theorem Zkb (Q:QD) (m0 m1:Nat) (zx14:LL) (zx15 zx16:Int) (zx24_0 zx24_1 zx24_2 zx24_3 zx24_4 zx24_5:V) (zx25:Int) (zx29_0:List V) (zy3_0:Bool) (zy13:LL) (q1_0:Bool) (q3:LL) (r:List V) (rs:LL):Z6 Q m0 m1 zx14 zx15 zx16 zx24_0 zx24_1 zx24_2 zx24_3 zx24_4 zx24_5 zx25 zx29_0 zy3_0 zy13 q1_0 q3 (r::rs)=(iff ((r.tail.headD V.none).bool) (Z6 Q m0 m1 zx14 zx15 zx16 zx24_0 zx24_1 zx24_2 zx24_3 zx24_4 zx24_5 zx25 zx29_0 zy3_0 zy13 q1_0 q3 rs) (iff (mhas [.str] [r.headD V.none] q3) ((((r.tail.tail.headD V.none).list).length≤big→iff ((((mget [.str] [V.i 0] [r.headD V.none] q3).headD V.none).int) != ((((r.tail.tail.headD V.none).list).length:Int))) ((True∧True∧True)∧Q (.tup [.v (.mp ZeR) (V.l ([])),.v .bool (V.b false)]) []) ((((r.tail.tail.headD V.none).list).length≤big→Z6 Q m0 m1 zx14 zx15 zx16 zx24_0 zx24_1 zx24_2 zx24_3 zx24_4 zx24_5 zx25 zx29_0 zy3_0 zy13 q1_0 (mset [.str] [r.headD V.none] [V.i ((((r.tail.tail.headD V.none).list).length:Int))] q3) rs)))) ((((r.tail.tail.headD V.none).list).length≤big→Z6 Q m0 m1 zx14 zx15 zx16 zx24_0 zx24_1 zx24_2 zx24_3 zx24_4 zx24_5 zx25 zx29_0 zy3_0 zy13 q1_0 (mset [.str] [r.headD V.none] [V.i ((((r.tail.tail.headD V.none).list).length:Int))] q3) rs)))):=by kernel_rfl
theorem Zjt (Q:QD) (m0 m1:Nat) (zx14:LL) (zx15 zx16:Int) (zx24_0 zx24_1 zx24_2 zx24_3 zx24_4 zx24_5:V) (zx25:Int) (zx29_0:List V) (zy3_0:Bool) (zy13:LL) (J:LL→Bool→LL→Prop)
  (step:∀ (r:List V) (rs:LL) (q1_0:Bool) (q3:LL),J (r::rs) q1_0 q3→∀ K:Bool→LL→Prop,(∀ (q1_0':Bool) (q3':LL),J rs q1_0' q3'→K q1_0' q3')→(iff ((r.tail.headD V.none).bool) (K q1_0 q3) (iff (mhas [.str] [r.headD V.none] q3) ((((r.tail.tail.headD V.none).list).length≤big→iff ((((mget [.str] [V.i 0] [r.headD V.none] q3).headD V.none).int) != ((((r.tail.tail.headD V.none).list).length:Int))) ((True∧True∧True)∧Q (.tup [.v (.mp ZeR) (V.l ([])),.v .bool (V.b false)]) []) ((((r.tail.tail.headD V.none).list).length≤big→K q1_0 (mset [.str] [r.headD V.none] [V.i ((((r.tail.tail.headD V.none).list).length:Int))] q3))))) ((((r.tail.tail.headD V.none).list).length≤big→K q1_0 (mset [.str] [r.headD V.none] [V.i ((((r.tail.tail.headD V.none).list).length:Int))] q3))))))
  (last:∀ (q1_0:Bool) (q3:LL),J [] q1_0 q3→(ZbW Q m0 m1 zx14 zx15 zx16 zx24_0 zx24_1 zx24_2 zx24_3 zx24_4 zx24_5 (IntKind.i64.wrap (zx25+(1:Int))) q1_0 q3))
  : ∀ (rows:LL) (q1_0:Bool) (q3:LL),J rows q1_0 q3→Z6 Q m0 m1 zx14 zx15 zx16 zx24_0 zx24_1 zx24_2 zx24_3 zx24_4 zx24_5 zx25 zx29_0 zy3_0 zy13 q1_0 q3 rows:=by
 intro rows
 induction rows with
 | nil=>intro q1_0 q3 h; rw [ZkT]; exact last q1_0 q3 h
 | cons r rs ih=>intro q1_0 q3 h; rw [Zkb]; exact step r rs q1_0 q3 h (fun q1_0 q3=>Z6 Q m0 m1 zx14 zx15 zx16 zx24_0 zx24_1 zx24_2 zx24_3 zx24_4 zx24_5 zx25 zx29_0 zy3_0 zy13 q1_0 q3 rs) ih
def Ze8 (Q:QD) (m0 m1:Nat) (x14:LL) (x15 x16:Int) (x24_0 x24_1 x24_2 x24_3 x24_4 x24_5:V) (x25:Int) (y3_0:Bool) (y13:LL):Prop :=
 iff (decide (x25<(2:Int))) (0≤x25∧x25<(2:Int)∧cl Zej [.agg [.v .str ((([[x24_0,x24_1,x24_2],[x24_3,x24_4,x24_5]]:List (List V)).getD x25.toNat []).headD V.none),.v .bool (((([[x24_0,x24_1,x24_2],[x24_3,x24_4,x24_5]]:List (List V)).getD x25.toNat []).tail).headD V.none),.v (.sl Zb) ((((([[x24_0,x24_1,x24_2],[x24_3,x24_4,x24_5]]:List (List V)).getD x25.toNat []).tail).tail).headD V.none)]] [] fun r1 H2=>r1=(.fn Zt [.elt Zb ((r1.capsOf.headD .undef).eltOf) 0])∧H2=[]∧∃ rows:LL,itA 171 [.elt Zb ((r1.capsOf.headD .undef).eltOf) 0] rows∧Z6 Q m0 m1 x14 x15 x16 x24_0 x24_1 x24_2 x24_3 x24_4 x24_5 x25 ((r1.capsOf.headD .undef).eltOf) y3_0 y13 y3_0 y13 rows) (ZbS Q m0 x14 x15 (IntKind.i64.wrap (x16+(1:Int))) y3_0 y13)
theorem Zjm (Q:QD) (m0 m1:Nat) (x14:LL) (x15 x16:Int) (x24_0 x24_1 x24_2 x24_3 x24_4 x24_5:V) (x25:Int) (y3_0:Bool) (y13:LL):ZbW Q m0 (m1+1) x14 x15 x16 x24_0 x24_1 x24_2 x24_3 x24_4 x24_5 x25 y3_0 y13=Ze8 Q m0 m1 x14 x15 x16 x24_0 x24_1 x24_2 x24_3 x24_4 x24_5 x25 y3_0 y13:=by kernel_rfl
theorem Zjs (Q:QD) (m0:Nat):RuleG12 (ZbW Q m0) (Ze8 Q m0):=ruleG12 _ _ (Zjm Q m0)
def Zfd (Q:QD) (m0:Nat) (x14:LL) (x15 x16:Int) (y3_0:Bool) (y13:LL):Prop :=
 iff (decide (x16<x15)) (0≤x16∧x16<x14.length∧∃ m1,ZbW Q m0 m1 x14 x15 x16 (((x14.getD x16.toNat []).drop 0).headD V.none) ((((x14.getD x16.toNat []).drop 0).tail).headD V.none) (((((x14.getD x16.toNat []).drop 0).tail).tail).headD V.none) ((((((x14.getD x16.toNat []).drop 0).tail).tail).tail).headD V.none) (((((((x14.getD x16.toNat []).drop 0).tail).tail).tail).tail).headD V.none) ((((((((x14.getD x16.toNat []).drop 0).tail).tail).tail).tail).tail).headD V.none) 0 y3_0 y13) ((True∧True∧True)∧Q (.tup [.v (.mp ZeR) (V.l y13),.v .bool (V.b true)]) [])
theorem Zjl (Q:QD) (m0:Nat) (x14:LL) (x15 x16:Int) (y3_0:Bool) (y13:LL):ZbS Q (m0+1) x14 x15 x16 y3_0 y13=Zfd Q m0 x14 x15 x16 y3_0 y13:=by kernel_rfl
theorem Zji (Q:QD):RuleG5 (ZbS Q) (Zfd Q):=ruleG5 _ _ (Zjl Q)
def Zoe (a0:LL) (Q:QD):Prop :=
 (a0.length≤big→∃ m0,ZbS Q m0 a0 ((a0.length:Int)) 0 false (([]:List (List V))))
theorem ZoD (a0:LL) (Q:QD) (h:Zoe a0 Q):cl Zfg [.v (.sl Zd) (V.l a0)] [] Q :=
 acalls2 (E:=Zk) (envOk _ _ _ _ _) 0 Tryz.func111 (by kernel_rfl) h
def ZB:Env:=envA [(3,(.undef 0)::(.undef 5)::(.undef 7)::(.undef 10)::ua 14 5 (ua 21 6 ([.dead 5,.dead 7,.dead 18]))),(7,(.undef 0)::(.undef 5)::(.undef 7)::(.undef 10)::ua 14 4 (ua 21 6 ([.dead 5]))),(12,(.undef 0)::ua 2 2 ((.undef 5)::(.undef 7)::ua 9 10 (ua 21 7 (ua 29 8 ((.dead 3)::da 35 2 ([.ownT 8 40 Za]))))))] [] [] [] []
def ZfD (Q:QD):Post:=blockK 0 (seqJ ZB (fnAt [1,1,1] Tryz.f113) (endK ZB Tryz.f113 Q))
def ZmQ (Q:QD):Post:=blockK 4 (seqJ ZB (fnAt [1,1,1,1,1] Tryz.f113) (endK ZB Tryz.f113 Q))
@[irreducible] def ZaX (Q:QD) (m0:Nat) (zx11:LL) (zx12 zx13:Int) (zx18_0:List V) (zy10:LL) (q1:LL) (rows:LL):Prop :=
 rangeR (evCode ZB (fnAt [1,1,0,1,0,0,1,1,0,0,1,1,0,0] Tryz.f113)) (evCode ZB (fnAt [1,1,0,1,0,0,1,1,0,0,1,1,0,1] Tryz.f113)) [19,20] (rowA 171) [.cells [.mp (.own 1)],.map Zbl zy10] (.undef::.skip::.nil::(.ptr (.own 0) 0)::.skip::.undef::.skip::.undef::sk 2 (.undef::(.v (.sl Zb) (V.l zx11))::(.v (.int .i64) (V.i zx12))::(.v (.int .i64) (V.i zx13))::un 4 ((.fn Zt [.elt Zb zx18_0 0])::sk 2 (un 6 (sk 13 ([])))))) (dd 41 []) (outR ZB [.loc 3,.loc 10] ⟨.undef::.skip::.nil::(.ptr (.loc 3) 0)::.skip::.undef::.skip::.undef::sk 2 (.undef::(.v (.sl Zb) (V.l zx11))::(.v (.int .i64) (V.i zx12))::(.v (.int .i64) (V.i zx13))::un 4 ((.fn Zt [.elt Zb zx18_0 0])::sk 2 (un 6 (sk 13 ([]))))),dd 3 ((.cells [.mp (.loc 10)])::dd 6 ((.map Zbl zy10)::dd 30 ([])))⟩ [] (blockK 2 (blockK 1 (seqJ ZB (fnAt [1,1,0,1,0,0,1,1,1] Tryz.f113) (loopK (adj (ZB.adj 3)) (iter (adj (ZB.adj 3)) (evCode ZB (fnAt [1,1,0,1,0,0] Tryz.f113)) (ZfD Q) m0) (ZfD Q)))))) rows [.cells [.mp (.own 1)],.map Zbl q1]
@[irreducible] def Zck (Q:QD) (m2:Nat) (x8n:Nat) (y10:LL) (y28n:Nat) (y28s:List Nat) (y40:LL):Prop :=
 iter (adj (ZB.adj 12)) (evCode ZB (fnAt [1,1,1,1,0,1,0,0] Tryz.f113)) (ZmQ Q) m2 ⟨.undef::.skip::un 2 (.skip::.undef::.skip::.undef::(.osl (.loc 40) x8n)::un 10 (sk 2 (un 7 ((.ptr (.loc 28) 0)::un 8 (sk 3 ([])))))),dd 10 ((.map Zbl y10)::dd 17 ((.iter Zbl (.mp (.loc 10)) y28n y28s)::dd 11 ([.row Za y40])))⟩ []
@[irreducible] def Zca (Q:QD) (m0:Nat) (x11:LL) (x12 x13:Int) (y10:LL):Prop :=
 iter (adj (ZB.adj 3)) (evCode ZB (fnAt [1,1,0,1,0,0] Tryz.f113)) (ZfD Q) m0 ⟨.undef::.skip::.nil::(.ptr (.loc 3) 0)::.skip::.undef::.skip::.undef::sk 2 (.undef::(.v (.sl Zb) (V.l x11))::(.v (.int .i64) (V.i x12))::(.v (.int .i64) (V.i x13))::un 5 (sk 2 (un 6 (sk 13 ([]))))),dd 3 ((.cells [.mp (.loc 10)])::dd 6 ((.map Zbl y10)::dd 30 ([])))⟩ []
theorem ZlP (Q:QD) (m0:Nat) (zx11:LL) (zx12 zx13:Int) (zx18_0:List V) (zy10:LL) (q1:LL):ZaX Q m0 zx11 zx12 zx13 zx18_0 zy10 q1 []=(Zca Q m0 zx11 zx12 (IntKind.i64.wrap (zx13+(1:Int))) q1):=by kernel_rfl
theorem ZlZ (Q:QD) (m0:Nat) (zx11:LL) (zx12 zx13:Int) (zx18_0:List V) (zy10:LL) (q1:LL) (r:List V) (rs:LL):ZaX Q m0 zx11 zx12 zx13 zx18_0 zy10 q1 (r::rs)=(iff ((r.tail.headD V.none).bool) (ZaX Q m0 zx11 zx12 zx13 zx18_0 zy10 (mset [.str] [r.headD V.none] [V.b true] q1) rs) (ZaX Q m0 zx11 zx12 zx13 zx18_0 zy10 q1 rs)):=by kernel_rfl
theorem Zj4 (Q:QD) (m0:Nat) (zx11:LL) (zx12 zx13:Int) (zx18_0:List V) (zy10:LL) (J:LL→LL→Prop)
  (step:∀ (r:List V) (rs:LL) (q1:LL),J (r::rs) q1→∀ K:LL→Prop,(∀ (q1':LL),J rs q1'→K q1')→(iff ((r.tail.headD V.none).bool) (K (mset [.str] [r.headD V.none] [V.b true] q1)) (K q1)))
  (last:∀ (q1:LL),J [] q1→(Zca Q m0 zx11 zx12 (IntKind.i64.wrap (zx13+(1:Int))) q1))
  : ∀ (rows:LL) (q1:LL),J rows q1→ZaX Q m0 zx11 zx12 zx13 zx18_0 zy10 q1 rows:=by
 intro rows
 induction rows with
 | nil=>intro q1 h; rw [ZlP]; exact last q1 h
 | cons r rs ih=>intro q1 h; rw [ZlZ]; exact step r rs q1 h (fun q1=>ZaX Q m0 zx11 zx12 zx13 zx18_0 zy10 q1 rs) ih
def Zhv (Q:QD) (m2:Nat) (x8n:Nat) (y10:LL) (y28n:Nat) (y28s:List Nat) (y40:LL):Prop :=
 y10.length=y28n∧((∀ j:Nat,j<y28n→j∈y28s)→cl ZdD [.osl (.own 0) x8n] [.row Za y40] fun r2 H3=>r2=(.tup [])∧H3=[.row Za ((H3.headD .dead).xs)]∧(x8n=((H3.headD .dead).xs).length)∧Q (.v (.sl Za) (V.l ((H3.headD .dead).xs))) [])∧(∀ j1:Nat,j1<y28n→j1 ∉ y28s→y28s.length<y28n→y10.length=y28n∧y40.length=x8n∧x8n+([[(y10.getD j1 []).headD V.none]]).length≤lim∧Zck Q m2 (x8n+([[(y10.getD j1 []).headD V.none]]).length) y10 y28n (j1::y28s) (y40++([[(y10.getD j1 []).headD V.none]])))
theorem Zkk (Q:QD) (m2:Nat) (x8n:Nat) (y10:LL) (y28n:Nat) (y28s:List Nat) (y40:LL):Zck Q (m2+1) x8n y10 y28n y28s y40=Zhv Q m2 x8n y10 y28n y28s y40:=by kernel_rfl
theorem Zkr (Q:QD):RuleG5 (Zck Q) (Zhv Q):=ruleG5 _ _ (Zkk Q)
def Zfz (Q:QD) (m0:Nat) (x11:LL) (x12 x13:Int) (y10:LL):Prop :=
 iff (decide (x13<x12)) (0≤x13∧x13<x11.length∧cl Zej [.agg [.v .str (((x11.getD x13.toNat []).drop 0).headD V.none),.v .bool ((((x11.getD x13.toNat []).drop 0).tail).headD V.none),.v (.sl Zb) (((((x11.getD x13.toNat []).drop 0).tail).tail).headD V.none)]] [] fun r1 H2=>r1=(.fn Zt [.elt Zb ((r1.capsOf.headD .undef).eltOf) 0])∧H2=[]∧∃ rows:LL,itA 171 [.elt Zb ((r1.capsOf.headD .undef).eltOf) 0] rows∧ZaX Q m0 x11 x12 x13 ((r1.capsOf.headD .undef).eltOf) y10 y10 rows) (∃ m2,Zck Q m2 0 y10 y10.length (([]:List Nat)) (([]:List (List V))))
theorem ZkQ (Q:QD) (m0:Nat) (x11:LL) (x12 x13:Int) (y10:LL):Zca Q (m0+1) x11 x12 x13 y10=Zfz Q m0 x11 x12 x13 y10:=by kernel_rfl
theorem Zks (Q:QD):RuleG4 (Zca Q) (Zfz Q):=ruleG4 _ _ (ZkQ Q)
def Zph (a0:LL) (Q:QD):Prop :=
 (a0.length≤big→∃ m0,Zca Q m0 a0 ((a0.length:Int)) 0 (([]:List (List V))))
theorem Zqc (a0:LL) (Q:QD) (h:Zph a0 Q):cl Zbx [.v (.sl Zb) (V.l a0)] [] Q :=
 acalls2 (E:=ZB) (envOk _ _ _ _ _) 1 Tryz.func113 (by kernel_rfl) h
def Zce:Env:=envA [] [] [] [] []
def Zay (a0 h0_0:LL) (Q:QD):Prop :=
 cl ZW [.v (.sl Za) (V.l a0),.fn ZV [.ptr (.own 0) 0]] [.cells [.v (.sl Za) (V.l h0_0)]] fun r1 H2=>r1=(.v (.int .i64) (r1.V))∧H2=[.cells [.v (.sl Za) ((((H2.headD .dead).cs).headD .undef).V)]]∧True∧Q (.v .bool (V.b (decide (r1.V.int≥(0:Int))))) [.cells [.v (.sl Za) ((((H2.headD .dead).cs).headD .undef).V)]]
theorem ZcK (a0 h0_0:LL) (Q:QD) (h:Zay a0 h0_0 Q):cl ZH [.v (.sl Za) (V.l a0),.fn ZV [.ptr (.own 0) 0]] [.cells [.v (.sl Za) (V.l h0_0)]] Q :=
 acalls2 (E:=Zce) (envOk _ _ _ _ _) 0 Tryz.func114 (by kernel_rfl) h
def Zb2:Env:=envA [] [] [] [] []
def Zaw (a0 h0_0:LL) (Q:QD):Prop :=
 cl ZG [.v (.sl Zd) (V.l a0),.fn ZL [.ptr (.own 0) 0]] [.cells [.v (.sl Zc) (V.l h0_0)]] fun r1 H2=>r1=(.v (.int .i64) (r1.V))∧H2=[.cells [.v (.sl Zc) ((((H2.headD .dead).cs).headD .undef).V)]]∧True∧Q (.v .bool (V.b (decide (r1.V.int≥(0:Int))))) [.cells [.v (.sl Zc) ((((H2.headD .dead).cs).headD .undef).V)]]
theorem ZcC (a0 h0_0:LL) (Q:QD) (h:Zaw a0 h0_0 Q):cl Zj [.v (.sl Zd) (V.l a0),.fn ZL [.ptr (.own 0) 0]] [.cells [.v (.sl Zc) (V.l h0_0)]] Q :=
 acalls2 (E:=Zb2) (envOk _ _ _ _ _) 0 Tryz.func108 (by kernel_rfl) h
def Zdt:Env:=envA [(4,(.undef 1)::(.undef 4)::ua 7 8 (ua 18 8 ([.dead 4,.dead 7,.dead 24])))] [] [] [] []
def ZkS (Q:QD):Post:=blockK 0 (endK Zdt Tryz.f118 Q)
@[irreducible] def ZaR (Q:QD) (m0:Nat) (x0:LL) (x15:V) (x16 x17:Int) (h0:LL):Prop :=
 iter (adj (Zdt.adj 4)) (evCode Zdt (fnAt [1,1,1,1,0,0] Tryz.f118)) (ZkS Q) m0 ⟨(.v (.sl Zc) (V.l x0))::.undef::(.mp (.own 0))::.skip::.undef::sk 2 (un 8 ((.v (.sl Zb) (x15))::(.v (.int .i64) (V.i x16))::(.v (.int .i64) (V.i x17))::un 8 ([]))),dd 26 ([])⟩ [.map Zbl h0]
def ZkF (Q:QD) (m0:Nat) (x0:LL) (x15:V) (x16 x17:Int) (h0:LL):Prop :=
 iff (decide (x17<x16)) (0≤x17∧x17<x15.list.length∧cl Zbj [.v (.sl Zc) (V.l x0),.agg [.v .str (((x15.list.getD x17.toNat []).drop 0).headD V.none),.v .bool ((((x15.list.getD x17.toNat []).drop 0).tail).headD V.none),.v (.sl Zb) (((((x15.list.getD x17.toNat []).drop 0).tail).tail).headD V.none)],.mp (.own 0)] [.map Zbl h0] fun r1 H2=>r1=(.tup [])∧H2=[.map Zbl ((H2.headD .dead).xs)]∧ZaR Q m0 x0 x15 x16 (IntKind.i64.wrap (x17+(1:Int))) ((H2.headD .dead).xs)) (True∧Q (.tup []) [.map Zbl h0])
theorem ZiF (Q:QD) (m0:Nat) (x0:LL) (x15:V) (x16 x17:Int) (h0:LL):ZaR Q (m0+1) x0 x15 x16 x17 h0=ZkF Q m0 x0 x15 x16 x17 h0:=by kernel_rfl
theorem Zie (Q:QD) (x0:LL) (x15:V) (n:Nat) (hb:n≤big) (J:Nat→LL→Prop)
  (step:∀ (k:Nat) (h0:LL),k<n→J k h0→∀ K:LL→Prop,(∀ (h0':LL),J (k+1) h0'→K h0')→(0≤(k:Int)∧(k:Int)<x15.list.length∧cl Zbj [.v (.sl Zc) (V.l x0),.agg [.v .str (((x15.list.getD k []).drop 0).headD V.none),.v .bool ((((x15.list.getD k []).drop 0).tail).headD V.none),.v (.sl Zb) (((((x15.list.getD k []).drop 0).tail).tail).headD V.none)],.mp (.own 0)] [.map Zbl h0] fun r1 H2=>r1=(.tup [])∧H2=[.map Zbl ((H2.headD .dead).xs)]∧K ((H2.headD .dead).xs)))
  (last:∀ (h0:LL),J n h0→(True∧Q (.tup []) [.map Zbl h0]))
  (k:Nat) (h0:LL) (le0:k≤n) (hj:J k h0):∃ m0,ZaR Q m0 x0 x15 (n:Int) ((k:Int)) h0:=by
 exact rangeG1 n hb J (fun m0 i h0=>ZaR Q m0 x0 x15 (n:Int) i h0) (fun m0 i h0=>ZiF Q m0 x0 x15 (n:Int) i h0) (fun k h0 hl_ hj_ m_ ih_=>step k h0 hl_ hj_ _ ih_) last k h0 le0 hj
def Zhq (a0:LL) (a1_0:ByteArray) (a1_1:Bool) (a1_2 h0:LL) (Q:QD):Prop :=
 iff a1_1 (True∧Q (.tup []) [.map Zbl h0]) (cl ZeW [.v (.sl Zc) (V.l a0),.agg [.v .str (V.s a1_0),.v .bool (V.b a1_1),.v (.sl Zb) (V.l a1_2)]] [] fun r1 H2=>r1=(.v (.sl Zb) (r1.V))∧H2=[]∧(r1.V.list.length≤big→∃ m0,ZaR Q m0 a0 r1.V ((r1.V.list.length:Int)) 0 (mset [.str] [V.s a1_0] [V.b true] h0)))
theorem Zol (a0:LL) (a1_0:ByteArray) (a1_1:Bool) (a1_2 h0:LL) (Q:QD) (h:Zhq a0 a1_0 a1_1 a1_2 h0 Q):cl Zbj [.v (.sl Zc) (V.l a0),.agg [.v .str (V.s a1_0),.v .bool (V.b a1_1),.v (.sl Zb) (V.l a1_2)],.mp (.own 0)] [.map Zbl h0] Q :=
 acalls2 (E:=Zdt) (envOk _ _ _ _ _) 0 Tryz.func118 (by kernel_rfl) h
def ZeO:Env:=envA [(4,(.undef 0)::(.undef 2)::ua 4 5 (ua 12 13 ((.dead 4)::da 19 2 ([]))))] [] [] [] []
def ZoQ (Q:QD):Post:=blockK 0 (seqJ ZeO (fnAt [1,1,1] Tryz.f119) (endK ZeO Tryz.f119 Q))
@[irreducible] def ZdT (Q:QD) (m0:Nat) (x9:LL) (x10 x11:Int):Prop :=
 iter (adj (ZeO.adj 4)) (evCode ZeO (fnAt [1,1,0,1,0,0] Tryz.f119)) (ZoQ Q) m0 ⟨.undef::.skip::.undef::.skip::un 5 ((.v (.sl Zd) (V.l x9))::(.v (.int .i64) (V.i x10))::(.v (.int .i64) (V.i x11))::un 13 ([])),dd 25 ([])⟩ []
def Zo4 (Q:QD) (m0:Nat) (x9:LL) (x10 x11:Int):Prop :=
 iff (decide (x11<x10)) (0≤x11∧x11<x9.length∧cl Zfj [.v (.sl Zb) (V.l ([[((x9.getD x11.toNat []).drop 0).headD V.none,(((x9.getD x11.toNat []).drop 0).tail).headD V.none,((((x9.getD x11.toNat []).drop 0).tail).tail).headD V.none],[(((((x9.getD x11.toNat []).drop 0).tail).tail).tail).headD V.none,((((((x9.getD x11.toNat []).drop 0).tail).tail).tail).tail).headD V.none,(((((((x9.getD x11.toNat []).drop 0).tail).tail).tail).tail).tail).headD V.none]]))] [] fun r1 H2=>r1=(.v (.int .i64) (r1.V))∧H2=[]∧iff (r1.V.int != (0:Int)) (True∧Q (.v (.int .i64) (r1.V)) []) (ZdT Q m0 x9 x10 (IntKind.i64.wrap (x11+(1:Int))))) (True∧Q (.v (.int .i64) (V.i 0)) [])
theorem ZmU (Q:QD) (m0:Nat) (x9:LL) (x10 x11:Int):ZdT Q (m0+1) x9 x10 x11=Zo4 Q m0 x9 x10 x11:=by kernel_rfl
theorem Zln (Q:QD) (x9:LL) (n:Nat) (hb:n≤big) (J:Nat→Prop)
  (step:∀ (k:Nat),k<n→J k→∀ K:Prop,(J (k+1)→K)→(0≤(k:Int)∧(k:Int)<x9.length∧cl Zfj [.v (.sl Zb) (V.l ([[((x9.getD k []).drop 0).headD V.none,(((x9.getD k []).drop 0).tail).headD V.none,((((x9.getD k []).drop 0).tail).tail).headD V.none],[(((((x9.getD k []).drop 0).tail).tail).tail).headD V.none,((((((x9.getD k []).drop 0).tail).tail).tail).tail).headD V.none,(((((((x9.getD k []).drop 0).tail).tail).tail).tail).tail).headD V.none]]))] [] fun r1 H2=>r1=(.v (.int .i64) (r1.V))∧H2=[]∧iff (r1.V.int != (0:Int)) (True∧Q (.v (.int .i64) (r1.V)) []) (K)))
  (last:J n→(True∧Q (.v (.int .i64) (V.i 0)) []))
  (k:Nat) (le0:k≤n) (hj:J k):∃ m0,ZdT Q m0 x9 (n:Int) ((k:Int)):=by
 exact rangeG0 n hb J (fun m0 i=>ZdT Q m0 x9 (n:Int) i) (fun m0 i=>ZmU Q m0 x9 (n:Int) i) (fun k hl_ hj_ m_ ih_=>step k hl_ hj_ _ ih_) last k le0 hj
def Zqm (a0:LL) (Q:QD):Prop :=
 (a0.length≤big→iff (decide (((a0.length:Int)) > (64:Int))) (True∧Q (.v (.int .i64) (V.i 3)) []) ((a0.length≤big→∃ m0,ZdT Q m0 a0 ((a0.length:Int)) 0)))
theorem Zre (a0:LL) (Q:QD) (h:Zqm a0 Q):cl Zhc [.v (.sl Zd) (V.l a0)] [] Q :=
 acalls2 (E:=ZeO) (envOk _ _ _ _ _) 0 Tryz.func119 (by kernel_rfl) h
def ZcW:Env:=envA [(4,ua 0 3 (ua 4 10 (ua 17 7 ([.dead 1,.dead 4,.dead 21])))),(3000003,(.undef 0)::(.undef 2)::ua 5 8 ([.dead 10]))] [] [] [] [3]
def ZpQ (Q:QD):Post:=blockK 0 (seqJ ZcW (fnAt [1,1,1] Tryz.f120) (endK ZcW Tryz.f120 Q))
@[irreducible] def ZeN (Q:QD) (m0:Nat) (x14:LL) (x15 x16:Int):Prop :=
 iter (adj (ZcW.adj 4)) (evCode ZcW (fnAt [1,1,0,1,0,0] Tryz.f120)) (ZpQ Q) m0 ⟨un 3 (.skip::un 10 ((.v (.sl Zb) (V.l x14))::(.v (.int .i64) (V.i x15))::(.v (.int .i64) (V.i x16))::un 7 ([]))),dd 24 ([])⟩ []
@[irreducible] def ZkU (Q:QD) (y1_0:ByteArray) (y1_1:Bool) (y1_2:LL):Prop :=
 joinM (evCode ZcW (fnAt [1,1] Tryz.f120)) ⟨.undef::(.ptr (.loc 1) 0)::.undef::sk 2 (un 8 (sk 11 ([]))),.dead::(.cells [.v .str (V.s y1_0),.v .bool (V.b y1_1),.v (.sl Zb) (V.l y1_2)])::dd 22 ([])⟩ [] (endK ZcW Tryz.f120 Q)
def ZpO (Q:QD) (m0:Nat) (x14:LL) (x15 x16:Int):Prop :=
 iff (decide (x16<x15)) (0≤x16∧x16<x14.length∧cl Zcu [.agg [.v .str (((x14.getD x16.toNat []).drop 0).headD V.none),.v .bool ((((x14.getD x16.toNat []).drop 0).tail).headD V.none),.v (.sl Zb) (((((x14.getD x16.toNat []).drop 0).tail).tail).headD V.none)]] [] fun r1 H2=>r1=(.v .bool (r1.V))∧H2=[]∧iff (!r1.V.bool) (True∧Q (.v .bool (V.b false)) []) (ZeN Q m0 x14 x15 (IntKind.i64.wrap (x16+(1:Int))))) (True∧Q (.v .bool (V.b true)) [])
theorem ZnB (Q:QD) (m0:Nat) (x14:LL) (x15 x16:Int):ZeN Q (m0+1) x14 x15 x16=ZpO Q m0 x14 x15 x16:=by kernel_rfl
theorem ZmJ (Q:QD) (x14:LL) (n:Nat) (hb:n≤big) (J:Nat→Prop)
  (step:∀ (k:Nat),k<n→J k→∀ K:Prop,(J (k+1)→K)→(0≤(k:Int)∧(k:Int)<x14.length∧cl Zcu [.agg [.v .str (((x14.getD k []).drop 0).headD V.none),.v .bool ((((x14.getD k []).drop 0).tail).headD V.none),.v (.sl Zb) (((((x14.getD k []).drop 0).tail).tail).headD V.none)]] [] fun r1 H2=>r1=(.v .bool (r1.V))∧H2=[]∧iff (!r1.V.bool) (True∧Q (.v .bool (V.b false)) []) (K)))
  (last:J n→(True∧Q (.v .bool (V.b true)) []))
  (k:Nat) (le0:k≤n) (hj:J k):∃ m0,ZeN Q m0 x14 (n:Int) ((k:Int)):=by
 exact rangeG0 n hb J (fun m0 i=>ZeN Q m0 x14 (n:Int) i) (fun m0 i=>ZnB Q m0 x14 (n:Int) i) (fun k hl_ hj_ m_ ih_=>step k hl_ hj_ _ ih_) last k le0 hj
def ZpP (Q:QD) (y1_0:ByteArray) (y1_1:Bool) (y1_2:LL):Prop :=
 (y1_2.length≤big→∃ m0,ZeN Q m0 y1_2 ((y1_2.length:Int)) 0)
theorem ZnX (Q:QD) (y1_0:ByteArray) (y1_1:Bool) (y1_2:LL):ZkU Q y1_0 y1_1 y1_2=ZpP Q y1_0 y1_1 y1_2:=by kernel_rfl
def Znu (a0_0:ByteArray) (a0_1:Bool) (a0_2:LL) (Q:QD):Prop :=
 iff a0_1 (True∧Q (.v .bool (V.b false)) []) (cl ZcO [.v .str (V.s a0_0)] [] fun r1 H2=>r1=(.v .bool (r1.V))∧H2=[]∧iff (!r1.V.bool) (True∧Q (.v .bool (V.b false)) []) (ZkU Q a0_0 a0_1 a0_2))
theorem Zrj (a0_0:ByteArray) (a0_1:Bool) (a0_2:LL) (Q:QD) (h:Znu a0_0 a0_1 a0_2 Q):cl ZfW [.agg [.v .str (V.s a0_0),.v .bool (V.b a0_1),.v (.sl Zb) (V.l a0_2)]] [] Q :=
 acalls2 (E:=ZcW) (envOk _ _ _ _ _) 0 Tryz.func120 (by kernel_rfl) h
def ZA:Env:=envA [(5,(.undef 0)::ua 4 2 ((.undef 8)::ua 13 2 (ua 19 26 ([.dead 8,.dead 32])))),(14,(.undef 0)::(.undef 2)::ua 4 3 ((.undef 8)::ua 10 5 (ua 16 41 (ua 60 14 ([.dead 2,.dead 10,.dead 66]))))),(3000009,(.undef 0)::ua 4 2 (ua 13 2 (ua 19 26 ([.dead 32])))),(3000013,(.undef 0)::ua 4 3 ((.undef 8)::ua 13 2 (ua 16 40 ((.dead 52)::da 54 2 ([])))))] [] [] [] [9,13]
def ZfC (Q:QD):Post:=blockK 0 (seqJ ZA (fnAt [1,1,1,1] Tryz.f121) (endK ZA Tryz.f121 Q))
def Zm3 (Q:QD):Post:=blockK 2 (seqJ ZA (fnAt [1,1,1,1,1,1] Tryz.f121) (endK ZA Tryz.f121 Q))
@[irreducible] def Zbr (Q:QD) (m0:Nat) (x1n:Nat) (x6:Bool) (x16n:Nat) (x17 x18:Int) (y2_0:ByteArray) (y2_1:Bool) (y2_2:LL) (y8_0 y8_1:V) (h0:LL):Prop :=
 joinM (evCode ZA (fnAt [1,1,1,0,1,0,0,1,1,0,0,1,1] Tryz.f121)) ⟨.undef::(.osl (.own 0) x1n)::(.ptr (.loc 2) 0)::.skip::un 2 ((.v .bool (V.b x6))::.skip::(.ptr (.loc 8) 0)::sk 4 (un 2 (.skip::(.osl (.own 0) x16n)::(.v (.int .i64) (V.i x17))::(.v (.int .i64) (V.i x18))::un 26 (sk 30 ([]))))),dd 2 ((.cells [.v .str (V.s y2_0),.v .bool (V.b y2_1),.v (.sl Zb) (V.l y2_2)])::dd 5 ((.cells [.v .str (y8_0),.v (.int .i64) (y8_1)])::dd 66 ([])))⟩ [.row Ze h0] (blockK 1 (seqJ ZA (fnAt [1,1,1,0,1,0,0,1,1,1] Tryz.f121) (loopK (adj (ZA.adj 5)) (iter (adj (ZA.adj 5)) (evCode ZA (fnAt [1,1,1,0,1,0,0] Tryz.f121)) (ZfC Q) m0) (ZfC Q))))
@[irreducible] def Zcb (Q:QD) (m1:Nat) (x1n:Nat) (x57:LL) (x58 x59:Int) (h0:LL):Prop :=
 iter (adj (ZA.adj 14)) (evCode ZA (fnAt [1,1,1,1,1,0,1,0,0] Tryz.f121)) (Zm3 Q) m1 ⟨.undef::(.osl (.own 0) x1n)::.undef::.skip::un 3 (.skip::.undef::.skip::un 5 (.skip::un 41 ((.v (.sl Zb) (V.l x57))::(.v (.int .i64) (V.i x58))::(.v (.int .i64) (V.i x59))::un 14 ([.skip])))),dd 75 ([])⟩ [.row Ze h0]
@[irreducible] def Zbq (Q:QD) (x1n:Nat) (y2_0:ByteArray) (y2_1:Bool) (y2_2 h0:LL):Prop :=
 joinM (evCode ZA (fnAt [1,1,1,1,1] Tryz.f121)) ⟨.undef::(.osl (.own 0) x1n)::(.ptr (.loc 2) 0)::.skip::un 3 (.skip::.undef::sk 4 (un 2 (.skip::un 40 (sk 19 ([]))))),dd 2 ((.cells [.v .str (V.s y2_0),.v .bool (V.b y2_1),.v (.sl Zb) (V.l y2_2)])::dd 72 ([]))⟩ [.row Ze h0] (endK ZA Tryz.f121 Q)
@[irreducible] def ZaS (Q:QD) (m0:Nat) (x1n:Nat) (x6:Bool) (x16n:Nat) (x17 x18:Int) (y2_0:ByteArray) (y2_1:Bool) (y2_2 h0:LL):Prop :=
 iter (adj (ZA.adj 5)) (evCode ZA (fnAt [1,1,1,0,1,0,0] Tryz.f121)) (ZfC Q) m0 ⟨.undef::(.osl (.own 0) x1n)::(.ptr (.loc 2) 0)::.skip::un 2 ((.v .bool (V.b x6))::.skip::.undef::sk 4 (un 2 (.skip::(.osl (.own 0) x16n)::(.v (.int .i64) (V.i x17))::(.v (.int .i64) (V.i x18))::un 26 (sk 30 ([]))))),dd 2 ((.cells [.v .str (V.s y2_0),.v .bool (V.b y2_1),.v (.sl Zb) (V.l y2_2)])::dd 72 ([]))⟩ [.row Ze h0]
def Zhu (Q:QD) (m0:Nat) (x1n:Nat) (x6:Bool) (x16n:Nat) (x17 x18:Int) (y2_0:ByteArray) (y2_1:Bool) (y2_2:LL) (y8_0 y8_1:V) (h0:LL):Prop :=
 iff x6 (ZaS Q m0 x1n true x16n x17 (IntKind.i64.wrap (x18+(1:Int))) y2_0 y2_1 y2_2 h0) (ZaS Q m0 x1n (y8_0.str.toList == y2_0.toList) x16n x17 (IntKind.i64.wrap (x18+(1:Int))) y2_0 y2_1 y2_2 h0)
theorem Zj9 (Q:QD) (m0:Nat) (x1n:Nat) (x6:Bool) (x16n:Nat) (x17 x18:Int) (y2_0:ByteArray) (y2_1:Bool) (y2_2:LL) (y8_0 y8_1:V) (h0:LL):Zbr Q m0 x1n x6 x16n x17 x18 y2_0 y2_1 y2_2 y8_0 y8_1 h0=Zhu Q m0 x1n x6 x16n x17 x18 y2_0 y2_1 y2_2 y8_0 y8_1 h0:=by kernel_rfl
def ZmX (Q:QD) (m1:Nat) (x1n:Nat) (x57:LL) (x58 x59:Int) (h0:LL):Prop :=
 iff (decide (x59<x58)) (0≤x59∧x59<x57.length∧cl Zdl [.agg [.v .str (((x57.getD x59.toNat []).drop 0).headD V.none),.v .bool ((((x57.getD x59.toNat []).drop 0).tail).headD V.none),.v (.sl Zb) (((((x57.getD x59.toNat []).drop 0).tail).tail).headD V.none)],.osl (.own 0) x1n] [.row Ze h0] fun r1 H2=>r1=(.tup [.osl (.own 0) ((r1.parts.headD .undef).len),.v .bool ((r1.parts.tail.headD .undef).V)])∧H2=[.row Ze ((H2.headD .dead).xs)]∧iff (!(((r1.parts.tail.headD .undef).V).bool)) ((True∧True∧True)∧Q (.tup [.osl (.own 0) x1n,.v .bool (V.b false)]) [.row Ze ((H2.headD .dead).xs)]) (Zcb Q m1 ((r1.parts.headD .undef).len) x57 x58 (IntKind.i64.wrap (x59+(1:Int))) ((H2.headD .dead).xs))) ((True∧True∧True)∧Q (.tup [.osl (.own 0) x1n,.v .bool (V.b true)]) [.row Ze h0])
theorem ZkR (Q:QD) (m1:Nat) (x1n:Nat) (x57:LL) (x58 x59:Int) (h0:LL):Zcb Q (m1+1) x1n x57 x58 x59 h0=ZmX Q m1 x1n x57 x58 x59 h0:=by kernel_rfl
theorem Zjk (Q:QD) (x57:LL) (n:Nat) (hb:n≤big) (J:Nat→Nat→LL→Prop)
  (step:∀ (k:Nat) (x1n:Nat) (h0:LL),k<n→J k x1n h0→∀ K:Nat→LL→Prop,(∀ (x1n':Nat) (h0':LL),J (k+1) x1n' h0'→K x1n' h0')→(0≤(k:Int)∧(k:Int)<x57.length∧cl Zdl [.agg [.v .str (((x57.getD k []).drop 0).headD V.none),.v .bool ((((x57.getD k []).drop 0).tail).headD V.none),.v (.sl Zb) (((((x57.getD k []).drop 0).tail).tail).headD V.none)],.osl (.own 0) x1n] [.row Ze h0] fun r1 H2=>r1=(.tup [.osl (.own 0) ((r1.parts.headD .undef).len),.v .bool ((r1.parts.tail.headD .undef).V)])∧H2=[.row Ze ((H2.headD .dead).xs)]∧iff (!(((r1.parts.tail.headD .undef).V).bool)) ((True∧True∧True)∧Q (.tup [.osl (.own 0) x1n,.v .bool (V.b false)]) [.row Ze ((H2.headD .dead).xs)]) (K ((r1.parts.headD .undef).len) ((H2.headD .dead).xs))))
  (last:∀ (x1n:Nat) (h0:LL),J n x1n h0→((True∧True∧True)∧Q (.tup [.osl (.own 0) x1n,.v .bool (V.b true)]) [.row Ze h0]))
  (k:Nat) (x1n:Nat) (h0:LL) (le0:k≤n) (hj:J k x1n h0):∃ m1,Zcb Q m1 x1n x57 (n:Int) ((k:Int)) h0:=by
 exact rangeG2 n hb J (fun m1 i x1n h0=>Zcb Q m1 x1n x57 (n:Int) i h0) (fun m1 i x1n h0=>ZkR Q m1 x1n x57 (n:Int) i h0) (fun k x1n h0 hl_ hj_ m_ ih_=>step k x1n h0 hl_ hj_ _ ih_) last k x1n h0 le0 hj
def Znf (Q:QD) (x1n:Nat) (y2_0:ByteArray) (y2_1:Bool) (y2_2 h0:LL):Prop :=
 (y2_2.length≤big→∃ m1,Zcb Q m1 x1n y2_2 ((y2_2.length:Int)) 0 h0)
theorem ZkW (Q:QD) (x1n:Nat) (y2_0:ByteArray) (y2_1:Bool) (y2_2 h0:LL):Zbq Q x1n y2_0 y2_1 y2_2 h0=Znf Q x1n y2_0 y2_1 y2_2 h0:=by kernel_rfl
def Znl (Q:QD) (m0:Nat) (x1n:Nat) (x6:Bool) (x16n:Nat) (x17 x18:Int) (y2_0:ByteArray) (y2_1:Bool) (y2_2 h0:LL):Prop :=
 iff (decide (x18<x17)) (h0.length=x16n∧0≤x18∧x18<x16n∧h0.length=x16n∧x18.toNat<x16n∧iff (((((h0.getD x18.toNat []).drop 0).headD V.none).str).toList == y2_0.toList) ((y2_2.length≤big→iff ((((((h0.getD x18.toNat []).drop 0).tail).headD V.none).int) != ((y2_2.length:Int))) ((True∧True∧True)∧Q (.tup [.osl (.own 0) x1n,.v .bool (V.b false)]) [.row Ze h0]) (Zbr Q m0 x1n x6 x16n x17 x18 y2_0 y2_1 y2_2 (((h0.getD x18.toNat []).drop 0).headD V.none) ((((h0.getD x18.toNat []).drop 0).tail).headD V.none) h0))) (Zbr Q m0 x1n x6 x16n x17 x18 y2_0 y2_1 y2_2 (((h0.getD x18.toNat []).drop 0).headD V.none) ((((h0.getD x18.toNat []).drop 0).tail).headD V.none) h0)) (iff (!x6) ((y2_2.length≤big→h0.length=x1n∧x1n+([[V.s y2_0,V.i ((y2_2.length:Int))]]).length≤lim∧Zbq Q (x1n+([[V.s y2_0,V.i ((y2_2.length:Int))]]).length) y2_0 y2_1 y2_2 (h0++([[V.s y2_0,V.i ((y2_2.length:Int))]])))) (Zbq Q x1n y2_0 y2_1 y2_2 h0))
theorem ZjY (Q:QD) (m0:Nat) (x1n:Nat) (x6:Bool) (x16n:Nat) (x17 x18:Int) (y2_0:ByteArray) (y2_1:Bool) (y2_2 h0:LL):ZaS Q (m0+1) x1n x6 x16n x17 x18 y2_0 y2_1 y2_2 h0=Znl Q m0 x1n x6 x16n x17 x18 y2_0 y2_1 y2_2 h0:=by kernel_rfl
theorem ZjU (Q:QD) (x1n x16n:Nat) (y2_0:ByteArray) (y2_1:Bool) (y2_2 h0:LL) (n:Nat) (hb:n≤big) (J:Nat→Bool→Prop)
  (step:∀ (k:Nat) (x6:Bool),k<n→J k x6→∀ m0:Nat,(∀ (x6':Bool),J (k+1) x6'→ZaS Q m0 x1n x6' x16n (n:Int) (IntKind.i64.wrap ((k:Int)+(1:Int))) y2_0 y2_1 y2_2 h0)→(h0.length=x16n∧0≤(k:Int)∧(k:Int)<x16n∧h0.length=x16n∧k<x16n∧iff (((((h0.getD k []).drop 0).headD V.none).str).toList == y2_0.toList) ((y2_2.length≤big→iff ((((((h0.getD k []).drop 0).tail).headD V.none).int) != ((y2_2.length:Int))) ((True∧True∧True)∧Q (.tup [.osl (.own 0) x1n,.v .bool (V.b false)]) [.row Ze h0]) (Zbr Q m0 x1n x6 x16n (n:Int) (k:Int) y2_0 y2_1 y2_2 (((h0.getD k []).drop 0).headD V.none) ((((h0.getD k []).drop 0).tail).headD V.none) h0))) (Zbr Q m0 x1n x6 x16n (n:Int) (k:Int) y2_0 y2_1 y2_2 (((h0.getD k []).drop 0).headD V.none) ((((h0.getD k []).drop 0).tail).headD V.none) h0)))
  (last:∀ (x6:Bool),J n x6→(iff (!x6) ((y2_2.length≤big→h0.length=x1n∧x1n+([[V.s y2_0,V.i ((y2_2.length:Int))]]).length≤lim∧Zbq Q (x1n+([[V.s y2_0,V.i ((y2_2.length:Int))]]).length) y2_0 y2_1 y2_2 (h0++([[V.s y2_0,V.i ((y2_2.length:Int))]])))) (Zbq Q x1n y2_0 y2_1 y2_2 h0)))
  (k:Nat) (x6:Bool) (le0:k≤n) (hj:J k x6):∃ m0,ZaS Q m0 x1n x6 x16n (n:Int) ((k:Int)) y2_0 y2_1 y2_2 h0:=by
 exact rangeG1 n hb J (fun m0 i x6=>ZaS Q m0 x1n x6 x16n (n:Int) i y2_0 y2_1 y2_2 h0) (fun m0 i x6=>ZjY Q m0 x1n x6 x16n (n:Int) i y2_0 y2_1 y2_2 h0) (fun k x6 hl_ hj_ m_ ih_=>step k x6 hl_ hj_ m_ ih_) last k x6 le0 hj
def ZiQ (a0_0:ByteArray) (a0_1:Bool) (a0_2:LL) (a1n:Nat) (h0:LL) (Q:QD):Prop :=
 iff a0_1 ((True∧True∧True)∧Q (.tup [.osl (.own 0) a1n,.v .bool (V.b true)]) [.row Ze h0]) (h0.length=a1n∧(a1n≤big→∃ m0,ZaS Q m0 a1n false a1n (((a1n:Nat):Int)) 0 a0_0 a0_1 a0_2 h0))
theorem ZpI (a0_0:ByteArray) (a0_1:Bool) (a0_2:LL) (a1n:Nat) (h0:LL) (Q:QD) (h:ZiQ a0_0 a0_1 a0_2 a1n h0 Q):cl Zdl [.agg [.v .str (V.s a0_0),.v .bool (V.b a0_1),.v (.sl Zb) (V.l a0_2)],.osl (.own 0) a1n] [.row Ze h0] Q :=
 acalls2 (E:=ZA) (envOk _ _ _ _ _) 0 Tryz.func121 (by kernel_rfl) h
def Zd4:Env:=envA [(2,ua 0 3 ((.undef 4)::ua 6 3 (ua 12 8 ([.dead 2,.dead 17]))))] [] [] [] []
def ZnV (Q:QD):Post:=blockK 0 (seqJ Zd4 (fnAt [1,1] Tryz.f122) (endK Zd4 Tryz.f122 Q))
@[irreducible] def ZcP (Q:QD) (m0:Nat) (x9:V) (x10 x11:Int) (y3_0:ByteArray) (y3_1:Bool) (y3_2:LL):Prop :=
 iter (adj (Zd4.adj 2)) (evCode Zd4 (fnAt [1,0,1,0,0] Tryz.f122)) (ZnV Q) m0 ⟨un 3 ((.ptr (.loc 3) 0)::.undef::.skip::un 3 ((.v (.sl Za) (x9))::(.v (.int .i64) (V.i x10))::(.v (.int .i64) (V.i x11))::un 8 ([]))),dd 3 ((.cells [.v .str (V.s y3_0),.v .bool (V.b y3_1),.v (.sl Zb) (V.l y3_2)])::dd 16 ([]))⟩ []
def ZnT (Q:QD) (m0:Nat) (x9:V) (x10 x11:Int) (y3_0:ByteArray) (y3_1:Bool) (y3_2:LL):Prop :=
 iff (decide (x11<x10)) (0≤x11∧x11<x9.list.length∧cl Zff [.agg [.v .str (V.s y3_0),.v .bool (V.b y3_1),.v (.sl Zb) (V.l y3_2)],.v .str (((x9.list.getD x11.toNat []).drop 0).headD V.none)] [] fun r1 H2=>r1=(.v (.int .i64) (r1.V))∧H2=[]∧iff (r1.V.int == (0:Int)) (True∧Q (.v .bool (V.b false)) []) (ZcP Q m0 x9 x10 (IntKind.i64.wrap (x11+(1:Int))) y3_0 y3_1 y3_2)) (True∧Q (.v .bool (V.b true)) [])
theorem ZlQ (Q:QD) (m0:Nat) (x9:V) (x10 x11:Int) (y3_0:ByteArray) (y3_1:Bool) (y3_2:LL):ZcP Q (m0+1) x9 x10 x11 y3_0 y3_1 y3_2=ZnT Q m0 x9 x10 x11 y3_0 y3_1 y3_2:=by kernel_rfl
theorem ZkV (Q:QD) (x9:V) (y3_0:ByteArray) (y3_1:Bool) (y3_2:LL) (n:Nat) (hb:n≤big) (J:Nat→Prop)
  (step:∀ (k:Nat),k<n→J k→∀ K:Prop,(J (k+1)→K)→(0≤(k:Int)∧(k:Int)<x9.list.length∧cl Zff [.agg [.v .str (V.s y3_0),.v .bool (V.b y3_1),.v (.sl Zb) (V.l y3_2)],.v .str (((x9.list.getD k []).drop 0).headD V.none)] [] fun r1 H2=>r1=(.v (.int .i64) (r1.V))∧H2=[]∧iff (r1.V.int == (0:Int)) (True∧Q (.v .bool (V.b false)) []) (K)))
  (last:J n→(True∧Q (.v .bool (V.b true)) []))
  (k:Nat) (le0:k≤n) (hj:J k):∃ m0,ZcP Q m0 x9 (n:Int) ((k:Int)) y3_0 y3_1 y3_2:=by
 exact rangeG0 n hb J (fun m0 i=>ZcP Q m0 x9 (n:Int) i y3_0 y3_1 y3_2) (fun m0 i=>ZlQ Q m0 x9 (n:Int) i y3_0 y3_1 y3_2) (fun k hl_ hj_ m_ ih_=>step k hl_ hj_ _ ih_) last k le0 hj
def ZkB (a0_0:ByteArray) (a0_1:Bool) (a0_2:LL) (a1_0:ByteArray) (a1_1:Bool) (a1_2:LL) (Q:QD):Prop :=
 cl Zlq [.v (.sl Zb) (V.l ([[V.s a0_0,V.b a0_1,V.l a0_2]]))] [] fun r1 H2=>r1=(.v (.sl Za) (r1.V))∧H2=[]∧(r1.V.list.length≤big→∃ m0,ZcP Q m0 r1.V ((r1.V.list.length:Int)) 0 a1_0 a1_1 a1_2)
theorem Zqw (a0_0:ByteArray) (a0_1:Bool) (a0_2:LL) (a1_0:ByteArray) (a1_1:Bool) (a1_2:LL) (Q:QD) (h:ZkB a0_0 a0_1 a0_2 a1_0 a1_1 a1_2 Q):cl Zer [.agg [.v .str (V.s a0_0),.v .bool (V.b a0_1),.v (.sl Zb) (V.l a0_2)],.agg [.v .str (V.s a1_0),.v .bool (V.b a1_1),.v (.sl Zb) (V.l a1_2)]] [] Q :=
 acalls2 (E:=Zd4) (envOk _ _ _ _ _) 0 Tryz.func122 (by kernel_rfl) h
def ZbK:Env:=envA [(2,(.undef 4)::ua 6 15 ([.dead 8,.dead 16])),(3000006,(.undef 4)::ua 6 28 ([.dead 23]))] [(6,11,[],[])] [34] [] [6]
def ZnC (Q:QD):Post:=blockK 0 (seqJ ZbK (fnAt [1,1,1] Tryz.f123) (endK ZbK Tryz.f123 Q))
@[irreducible] def ZbY (Q:QD) (x0:LL) (x1:ByteArray) (x5:Int):Prop :=
 joinM (evCode ZbK (fnAt [1,1,1,1] Tryz.f123)) ⟨(.v (.sl Za) (V.l x0))::(.v .str (V.s x1))::sk 2 (.undef::(.v (.int .i64) (V.i x5))::un 28 (sk 12 ([]))),dd 46 ([])⟩ [] (endK ZbK Tryz.f123 Q)
@[irreducible] def ZeX (Q:QD) (m0:Nat) (x0:LL) (x1:ByteArray) (x5:Int):Prop :=
 iter (adj (ZbK.adj 2)) (evCode ZbK (fnAt [1,1,0,0,0] Tryz.f123)) (ZnC Q) m0 ⟨(.v (.sl Za) (V.l x0))::(.v .str (V.s x1))::sk 2 (.undef::(.v (.int .i64) (V.i x5))::un 15 (sk 25 ([]))),dd 46 ([])⟩ []
def Zh8 (Q:QD) (x0:LL) (x1:ByteArray) (x5:Int):Prop :=
 0≤(0:Int)∧(0:Int)≤x5∧x5≤x0.length∧(([]:List (List V))).length=0∧0+((x0.take x5.toNat).drop (0:Int).toNat).length≤lim∧((([]:List (List V)))++((x0.take x5.toNat).drop (0:Int).toNat)).length=0+((x0.take x5.toNat).drop (0:Int).toNat).length∧0+((x0.take x5.toNat).drop (0:Int).toNat).length+([[V.s x1]]).length≤lim∧0≤x5∧x5≤(x0.length:Int)∧(x0.length:Int)≤x0.length∧(((([]:List (List V)))++((x0.take x5.toNat).drop (0:Int).toNat))++([[V.s x1]])).length=0+((x0.take x5.toNat).drop (0:Int).toNat).length+([[V.s x1]]).length∧0+((x0.take x5.toNat).drop (0:Int).toNat).length+([[V.s x1]]).length+((x0.take ((x0.length:Int)).toNat).drop x5.toNat).length≤lim∧(0+((x0.take x5.toNat).drop (0:Int).toNat).length+([[V.s x1]]).length+((x0.take ((x0.length:Int)).toNat).drop x5.toNat).length=((((([]:List (List V)))++((x0.take x5.toNat).drop (0:Int).toNat))++([[V.s x1]]))++((x0.take ((x0.length:Int)).toNat).drop x5.toNat)).length)∧Q (.v (.sl Za) (V.l ((((([]:List (List V)))++((x0.take x5.toNat).drop (0:Int).toNat))++([[V.s x1]]))++((x0.take ((x0.length:Int)).toNat).drop x5.toNat)))) []
theorem ZlK (Q:QD) (x0:LL) (x1:ByteArray) (x5:Int):ZbY Q x0 x1 x5=Zh8 Q x0 x1 x5:=by kernel_rfl
def Zf3 (Q:QD) (m0:Nat) (x0:LL) (x1:ByteArray) (x5:Int):Prop :=
 (x0.length≤big→iff (decide (x5<((x0.length:Int)))) (0≤x5∧x5<x0.length∧cl ZY [.v .str (((x0.getD x5.toNat []).drop 0).headD V.none),.v .str (V.s x1)] [] fun r1 H2=>r1=(.v (.int .i64) (r1.V))∧H2=[]∧iff (decide (r1.V.int<(0:Int))) (ZeX Q m0 x0 x1 (IntKind.i64.wrap (x5+(1:Int)))) ((x0.length≤big→iff (decide (x5<((x0.length:Int)))) (0≤x5∧x5<x0.length∧iff (((((x0.getD x5.toNat []).drop 0).headD V.none).str).toList == x1.toList) (True∧Q (.v (.sl Za) (V.l x0)) []) (ZbY Q x0 x1 x5)) (ZbY Q x0 x1 x5)))) ((x0.length≤big→iff (decide (x5<((x0.length:Int)))) (0≤x5∧x5<x0.length∧iff (((((x0.getD x5.toNat []).drop 0).headD V.none).str).toList == x1.toList) (True∧Q (.v (.sl Za) (V.l x0)) []) (ZbY Q x0 x1 x5)) (ZbY Q x0 x1 x5))))
theorem ZlL (Q:QD) (m0:Nat) (x0:LL) (x1:ByteArray) (x5:Int):ZeX Q (m0+1) x0 x1 x5=Zf3 Q m0 x0 x1 x5:=by kernel_rfl
theorem Zlp (Q:QD):RuleG3 (ZeX Q) (Zf3 Q):=ruleG3 _ _ (ZlL Q)
def ZkE (a0:LL) (a1:ByteArray) (Q:QD):Prop :=
 ∃ m0,ZeX Q m0 a0 a1 0
theorem Zqo (a0:LL) (a1:ByteArray) (Q:QD) (h:ZkE a0 a1 Q):cl Zeq [.v (.sl Za) (V.l a0),.v .str (V.s a1)] [] Q :=
 acalls2 (E:=ZbK) (envOk _ _ _ _ _) 0 Tryz.func123 (by kernel_rfl) h
def ZoJ:Env:=envA [] [] [] [] []
def Zko (a0:Int) (Q:QD):Prop :=
 iff (decide (a0≥(65:Int))) (iff (decide (a0≤(90:Int))) (True∧Q (.v .bool (V.b true)) []) (iff (decide (a0≥(97:Int))) (iff (decide (a0≤(122:Int))) (True∧Q (.v .bool (V.b true)) []) (iff (decide (a0≥(48:Int))) (iff (decide (a0≤(57:Int))) (True∧Q (.v .bool (V.b true)) []) (iff (a0 == (95:Int)) (True∧Q (.v .bool (V.b true)) []) (True∧Q (.v .bool (V.b (a0 == (39:Int)))) []))) (iff (a0 == (95:Int)) (True∧Q (.v .bool (V.b true)) []) (True∧Q (.v .bool (V.b (a0 == (39:Int)))) [])))) (iff (decide (a0≥(48:Int))) (iff (decide (a0≤(57:Int))) (True∧Q (.v .bool (V.b true)) []) (iff (a0 == (95:Int)) (True∧Q (.v .bool (V.b true)) []) (True∧Q (.v .bool (V.b (a0 == (39:Int)))) []))) (iff (a0 == (95:Int)) (True∧Q (.v .bool (V.b true)) []) (True∧Q (.v .bool (V.b (a0 == (39:Int)))) []))))) (iff (decide (a0≥(97:Int))) (iff (decide (a0≤(122:Int))) (True∧Q (.v .bool (V.b true)) []) (iff (decide (a0≥(48:Int))) (iff (decide (a0≤(57:Int))) (True∧Q (.v .bool (V.b true)) []) (iff (a0 == (95:Int)) (True∧Q (.v .bool (V.b true)) []) (True∧Q (.v .bool (V.b (a0 == (39:Int)))) []))) (iff (a0 == (95:Int)) (True∧Q (.v .bool (V.b true)) []) (True∧Q (.v .bool (V.b (a0 == (39:Int)))) [])))) (iff (decide (a0≥(48:Int))) (iff (decide (a0≤(57:Int))) (True∧Q (.v .bool (V.b true)) []) (iff (a0 == (95:Int)) (True∧Q (.v .bool (V.b true)) []) (True∧Q (.v .bool (V.b (a0 == (39:Int)))) []))) (iff (a0 == (95:Int)) (True∧Q (.v .bool (V.b true)) []) (True∧Q (.v .bool (V.b (a0 == (39:Int)))) []))))
theorem Zqt (a0:Int) (Q:QD) (h:Zko a0 Q):cl Zgy [.v (.int .u8) (V.i a0)] [] Q :=
 acalls2 (E:=ZoJ) (envOk _ _ _ _ _) 0 Tryz.func162 (by kernel_rfl) h
def ZhB:Env:=envA [] [] [] [] []
def Zfl (a0 a1:ByteArray) (Q:QD):Prop :=
 cl ZbZ [.v .str (V.s a0),.v .str (V.s a1)] [] fun r1 H2=>r1=(.v .str (r1.V))∧H2=[]∧True∧Q (.v .str (r1.V)) []
theorem ZiE (a0 a1:ByteArray) (Q:QD) (h:Zfl a0 a1 Q):cl ZdA [.v .str (V.s a0),.v .str (V.s a1)] [] Q :=
 acalls2 (E:=ZhB) (envOk _ _ _ _ _) 0 Tryz.func163 (by kernel_rfl) h
def ZcI:Env:=envA [] [] [] [] []
def ZaH (a0:LL) (Q:QD):Prop :=
 cl Zb3 [.v (.sl Zi7) (V.l a0),.fn Z5 []] [] fun r1 H2=>r1=(.v (.int .i64) (r1.V))∧H2=[]∧True∧Q (.v .bool (V.b (decide (r1.V.int≥(0:Int))))) []
theorem Zc9 (a0:LL) (Q:QD) (h:ZaH a0 Q):cl Zbo [.v (.sl Zi7) (V.l a0),.fn Z5 []] [] Q :=
 acalls2 (E:=ZcI) (envOk _ _ _ _ _) 0 Tryz.func164 (by kernel_rfl) h
def ZcN:Env:=envA [] [] [] [] []
def ZaG (a0:LL) (Q:QD):Prop :=
 cl Zb1 [.v (.sl Zb) (V.l a0),.fn ZZ []] [] fun r1 H2=>r1=(.v (.int .i64) (r1.V))∧H2=[]∧True∧Q (.v .bool (V.b (decide (r1.V.int≥(0:Int))))) []
theorem Zdk (a0:LL) (Q:QD) (h:ZaG a0 Q):cl Zbm [.v (.sl Zb) (V.l a0),.fn ZZ []] [] Q :=
 acalls2 (E:=ZcN) (envOk _ _ _ _ _) 0 Tryz.func167 (by kernel_rfl) h
def Zez:Env:=envA [(3,ua 0 3 (ua 5 2 (ua 10 8 ([.dead 1,.dead 5,.dead 15]))))] [] [] [] []
def Zpa (Q:QD):Post:=blockK 0 (seqJ Zez (fnAt [1,1,1] Tryz.f169) (endK Zez Tryz.f169 Q))
@[irreducible] def ZdS (Q:QD) (m0:Nat) (x3:Int) (x7:LL) (x8 x9:Int):Prop :=
 iter (adj (Zez.adj 3)) (evCode Zez (fnAt [1,1,0,1,0,0] Tryz.f169)) (Zpa Q) m0 ⟨un 3 ((.v (.int .i64) (V.i x3))::.skip::un 2 ((.v (.sl Zb) (V.l x7))::(.v (.int .i64) (V.i x8))::(.v (.int .i64) (V.i x9))::un 8 ([.skip]))),dd 19 ([])⟩ []
def Zon (Q:QD) (m0:Nat) (x3:Int) (x7:LL) (x8 x9:Int):Prop :=
 iff (decide (x9<x8)) (0≤x9∧x9<x7.length∧cl Zf2 [.agg [.v .str (((x7.getD x9.toNat []).drop 0).headD V.none),.v .bool ((((x7.getD x9.toNat []).drop 0).tail).headD V.none),.v (.sl Zb) (((((x7.getD x9.toNat []).drop 0).tail).tail).headD V.none)]] [] fun r1 H2=>r1=(.v (.int .i64) (r1.V))∧H2=[]∧ZdS Q m0 (IntKind.i64.wrap (x3+r1.V.int)) x7 x8 (IntKind.i64.wrap (x9+(1:Int)))) (True∧Q (.v (.int .i64) (V.i x3)) [])
theorem Znc (Q:QD) (m0:Nat) (x3:Int) (x7:LL) (x8 x9:Int):ZdS Q (m0+1) x3 x7 x8 x9=Zon Q m0 x3 x7 x8 x9:=by kernel_rfl
theorem ZlF (Q:QD) (x7:LL) (n:Nat) (hb:n≤big) (J:Nat→Int→Prop)
  (step:∀ (k:Nat) (x3:Int),k<n→J k x3→∀ K:Int→Prop,(∀ (x3':Int),J (k+1) x3'→K x3')→(0≤(k:Int)∧(k:Int)<x7.length∧cl Zf2 [.agg [.v .str (((x7.getD k []).drop 0).headD V.none),.v .bool ((((x7.getD k []).drop 0).tail).headD V.none),.v (.sl Zb) (((((x7.getD k []).drop 0).tail).tail).headD V.none)]] [] fun r1 H2=>r1=(.v (.int .i64) (r1.V))∧H2=[]∧K (IntKind.i64.wrap (x3+r1.V.int))))
  (last:∀ (x3:Int),J n x3→(True∧Q (.v (.int .i64) (V.i x3)) []))
  (k:Nat) (x3:Int) (le0:k≤n) (hj:J k x3):∃ m0,ZdS Q m0 x3 x7 (n:Int) ((k:Int)):=by
 exact rangeG1 n hb J (fun m0 i x3=>ZdS Q m0 x3 x7 (n:Int) i) (fun m0 i x3=>Znc Q m0 x3 x7 (n:Int) i) (fun k x3 hl_ hj_ m_ ih_=>step k x3 hl_ hj_ _ ih_) last k x3 le0 hj
def ZqJ (a0_0:ByteArray) (a0_1:Bool) (a0_2:LL) (Q:QD):Prop :=
 (a0_2.length≤big→∃ m0,ZdS Q m0 1 a0_2 ((a0_2.length:Int)) 0)
theorem ZqT (a0_0:ByteArray) (a0_1:Bool) (a0_2:LL) (Q:QD) (h:ZqJ a0_0 a0_1 a0_2 Q):cl Zf2 [.agg [.v .str (V.s a0_0),.v .bool (V.b a0_1),.v (.sl Zb) (V.l a0_2)]] [] Q :=
 acalls2 (E:=Zez) (envOk _ _ _ _ _) 0 Tryz.func169 (by kernel_rfl) h
def Zd0:Env:=envA [(3,ua 0 3 (ua 5 2 (ua 10 8 ((.dead 1)::(.dead 5)::da 15 2 ([])))))] [] [] [] []
def ZnU (Q:QD):Post:=blockK 0 (seqJ Zd0 (fnAt [1,1,1] Tryz.f170) (endK Zd0 Tryz.f170 Q))
@[irreducible] def ZcU (Q:QD) (m0:Nat) (x3:Int) (x7:LL) (x8 x9:Int):Prop :=
 iter (adj (Zd0.adj 3)) (evCode Zd0 (fnAt [1,1,0,1,0,0] Tryz.f170)) (ZnU Q) m0 ⟨un 3 ((.v (.int .i64) (V.i x3))::.skip::un 2 ((.v (.sl Zb) (V.l x7))::(.v (.int .i64) (V.i x8))::(.v (.int .i64) (V.i x9))::un 8 (sk 2 ([])))),dd 20 ([])⟩ []
def ZnM (Q:QD) (m0:Nat) (x3:Int) (x7:LL) (x8 x9:Int):Prop :=
 iff (decide (x9<x8)) (0≤x9∧x9<x7.length∧cl Zfw [.agg [.v .str (((x7.getD x9.toNat []).drop 0).headD V.none),.v .bool ((((x7.getD x9.toNat []).drop 0).tail).headD V.none),.v (.sl Zb) (((((x7.getD x9.toNat []).drop 0).tail).tail).headD V.none)]] [] fun r1 H2=>r1=(.v (.int .i64) (r1.V))∧H2=[]∧ZcU Q m0 (if r1.V.int > x3 then r1.V.int else x3) x7 x8 (IntKind.i64.wrap (x9+(1:Int)))) (True∧Q (.v (.int .i64) (V.i (IntKind.i64.wrap (x3+(1:Int))))) [])
theorem Zlc (Q:QD) (m0:Nat) (x3:Int) (x7:LL) (x8 x9:Int):ZcU Q (m0+1) x3 x7 x8 x9=ZnM Q m0 x3 x7 x8 x9:=by kernel_rfl
theorem Zkq (Q:QD) (x7:LL) (n:Nat) (hb:n≤big) (J:Nat→Int→Prop)
  (step:∀ (k:Nat) (x3:Int),k<n→J k x3→∀ K:Int→Prop,(∀ (x3':Int),J (k+1) x3'→K x3')→(0≤(k:Int)∧(k:Int)<x7.length∧cl Zfw [.agg [.v .str (((x7.getD k []).drop 0).headD V.none),.v .bool ((((x7.getD k []).drop 0).tail).headD V.none),.v (.sl Zb) (((((x7.getD k []).drop 0).tail).tail).headD V.none)]] [] fun r1 H2=>r1=(.v (.int .i64) (r1.V))∧H2=[]∧K (if r1.V.int > x3 then r1.V.int else x3)))
  (last:∀ (x3:Int),J n x3→(True∧Q (.v (.int .i64) (V.i (IntKind.i64.wrap (x3+(1:Int))))) []))
  (k:Nat) (x3:Int) (le0:k≤n) (hj:J k x3):∃ m0,ZcU Q m0 x3 x7 (n:Int) ((k:Int)):=by
 exact rangeG1 n hb J (fun m0 i x3=>ZcU Q m0 x3 x7 (n:Int) i) (fun m0 i x3=>Zlc Q m0 x3 x7 (n:Int) i) (fun k x3 hl_ hj_ m_ ih_=>step k x3 hl_ hj_ _ ih_) last k x3 le0 hj
def Zqb (a0_0:ByteArray) (a0_1:Bool) (a0_2:LL) (Q:QD):Prop :=
 (a0_2.length≤big→∃ m0,ZcU Q m0 0 a0_2 ((a0_2.length:Int)) 0)
theorem Zql (a0_0:ByteArray) (a0_1:Bool) (a0_2:LL) (Q:QD) (h:Zqb a0_0 a0_1 a0_2 Q):cl Zfw [.agg [.v .str (V.s a0_0),.v .bool (V.b a0_1),.v (.sl Zb) (V.l a0_2)]] [] Q :=
 acalls2 (E:=Zd0) (envOk _ _ _ _ _) 0 Tryz.func170 (by kernel_rfl) h
def Zh:Env:=envA [(3,ua 6 2 (ua 11 24 ([.dead 30])))] [] [] [] []
def Zbe (Q:QD):Post:=blockK 0 (seqJ Zh (fnAt [1,1,1,1] Tryz.f173) (endK Zh Tryz.f173 Q))
@[irreducible] def Zg (Q:QD) (m0:Nat) (x0:LL) (x1:ByteArray) (x8 x9 x10:Int):Prop :=
 iter (adj (Zh.adj 3)) (evCode Zh (fnAt [1,1,1,0,0,0] Tryz.f173)) (Zbe Q) m0 ⟨(.v (.sl Zc) (V.l x0))::(.v .str (V.s x1))::(.fn ZbF [])::sk 3 (un 2 ((.v (.int .i64) (V.i x8))::(.v (.int .i64) (V.i x9))::(.v (.int .i64) (V.i x10))::un 24 (sk 14 ([])))),dd 49 ([])⟩ []
def ZJ (Q:QD) (m0:Nat) (x0:LL) (x1:ByteArray) (x8 x9 x10:Int):Prop :=
 iff (decide (x9<x10)) (0≤(1:Int)∧0≤(IntKind.i64.wrap ((IntKind.u64.wrap (IntKind.i64.wrap (x9+x10))).fdiv (2 ^ (min ((1:Int)).toNat IntKind.u64.bits))))∧(IntKind.i64.wrap ((IntKind.u64.wrap (IntKind.i64.wrap (x9+x10))).fdiv (2 ^ (min ((1:Int)).toNat IntKind.u64.bits))))<x0.length∧cl ZbF [.agg [.v .str (((x0.getD ((IntKind.i64.wrap ((IntKind.u64.wrap (IntKind.i64.wrap (x9+x10))).fdiv (2 ^ (min ((1:Int)).toNat IntKind.u64.bits))))).toNat []).drop 0).headD V.none),.v (.int .i64) ((((x0.getD ((IntKind.i64.wrap ((IntKind.u64.wrap (IntKind.i64.wrap (x9+x10))).fdiv (2 ^ (min ((1:Int)).toNat IntKind.u64.bits))))).toNat []).drop 0).tail).headD V.none),.v (.sl ZU) (((((x0.getD ((IntKind.i64.wrap ((IntKind.u64.wrap (IntKind.i64.wrap (x9+x10))).fdiv (2 ^ (min ((1:Int)).toNat IntKind.u64.bits))))).toNat []).drop 0).tail).tail).headD V.none)],.v .str (V.s x1)] [] fun r1 H2=>r1=(.v (.int .i64) (r1.V))∧H2=[]∧iff (decide (r1.V.int<(0:Int))) (Zg Q m0 x0 x1 x8 (IntKind.i64.wrap ((IntKind.i64.wrap ((IntKind.u64.wrap (IntKind.i64.wrap (x9+x10))).fdiv (2 ^ (min ((1:Int)).toNat IntKind.u64.bits))))+(1:Int))) x10) (Zg Q m0 x0 x1 x8 x9 (IntKind.i64.wrap ((IntKind.u64.wrap (IntKind.i64.wrap (x9+x10))).fdiv (2 ^ (min ((1:Int)).toNat IntKind.u64.bits)))))) (iff (decide (x9<x8)) (0≤x9∧x9<x0.length∧cl ZbF [.agg [.v .str (((x0.getD x9.toNat []).drop 0).headD V.none),.v (.int .i64) ((((x0.getD x9.toNat []).drop 0).tail).headD V.none),.v (.sl ZU) (((((x0.getD x9.toNat []).drop 0).tail).tail).headD V.none)],.v .str (V.s x1)] [] fun r3 H4=>r3=(.v (.int .i64) (r3.V))∧H4=[]∧(True∧True∧True)∧Q (.tup [.v (.int .i64) (V.i x9),.v .bool (V.b (r3.V.int == (0:Int)))]) []) ((True∧True∧True)∧Q (.tup [.v (.int .i64) (V.i x9),.v .bool (V.b false)]) []))
theorem Za2 (Q:QD) (m0:Nat) (x0:LL) (x1:ByteArray) (x8 x9 x10:Int):Zg Q (m0+1) x0 x1 x8 x9 x10=ZJ Q m0 x0 x1 x8 x9 x10:=by kernel_rfl
theorem Za1 (Q:QD):RuleG5 (Zg Q) (ZJ Q):=ruleG5 _ _ (Za2 Q)
def Zbk (a0:LL) (a1:ByteArray) (Q:QD):Prop :=
 (a0.length≤big→∃ m0,Zg Q m0 a0 a1 ((a0.length:Int)) 0 ((a0.length:Int)))
theorem Zbn (a0:LL) (a1:ByteArray) (Q:QD) (h:Zbk a0 a1 Q):cl Z1 [.v (.sl Zc) (V.l a0),.v .str (V.s a1),.fn ZbF []] [] Q :=
 acalls2 (E:=Zh) (envOk _ _ _ _ _) 0 Tryz.func173 (by kernel_rfl) h
def Zeg:Env:=envA [(3000004,(.undef 2)::ua 5 23 ([.dead 18,.dead 22,.dead 27]))] [(1,13,[],[])] [] [] [4]
@[irreducible] def Za5 (Q:QD) (x3 x4 h0_0 h0_1 h0_2 h0_3:V):Prop :=
 joinM (evCode Zeg (fnAt [1,1,1] Tryz.f175)) ⟨(.ptr (.own 0) 0)::.skip::.undef::(.v .str (x3))::(.v (.int .i64) (x4))::un 23 (sk 13 ([])),dd 41 ([])⟩ [.cells [.v .str (h0_0),.v (.int .i64) (h0_1),.v (.sl Za) (h0_2),.v (.int .i64) (h0_3)]] (endK Zeg Tryz.f175 Q)
def ZfL (Q:QD) (x3 x4 h0_0 h0_1 h0_2 h0_3:V):Prop :=
 iff (decide (h0_3.int≥(0:Int))) (True∧Q (.v .str (V.s (ByteArray.mk #[]))) [.cells [.v .str (h0_0),.v (.int .i64) (h0_1),.v (.sl Za) (h0_2),.v (.int .i64) (h0_3)]]) ((x3.str.size≤big→True∧Q (.v .str (x3)) [.cells [.v .str (h0_0),.v (.int .i64) (V.i (IntKind.i64.wrap (x4.int+((x3.str.size:Int))))),.v (.sl Za) (h0_2),.v (.int .i64) (h0_3)]]))
theorem ZhI (Q:QD) (x3 x4 h0_0 h0_1 h0_2 h0_3:V):Za5 Q x3 x4 h0_0 h0_1 h0_2 h0_3=ZfL Q x3 x4 h0_0 h0_1 h0_2 h0_3:=by kernel_rfl
def Zkp (h0_0:ByteArray) (h0_1:Int) (h0_2:LL) (h0_3:Int) (Q:QD):Prop :=
 (∃ r1:D,cl ZbT [.v .str (V.s h0_0),.v (.int .i64) (V.i h0_1)] [] (fun r H'=>r=(.tup [.v .str ((r1.parts.headD .undef).V),.v (.int .i64) ((r1.parts.tail.headD .undef).V)])∧H'=[])∧cl Zgu [.v .str ((r1.parts.headD .undef).V)] [] fun r2 H3=>r2=(.v .bool (r2.V))∧H3=[]∧iff (!r2.V.bool) (cl ZK [.ptr (.own 0) 0,.v (.int .i64) ((r1.parts.tail.headD .undef).V)] [.cells [.v .str (V.s h0_0),.v (.int .i64) (V.i h0_1),.v (.sl Za) (V.l h0_2),.v (.int .i64) (V.i h0_3)]] fun r4 H5=>r4=(.tup [])∧H5=[.cells [.v .str ((((H5.headD .dead).cs).headD .undef).V),.v (.int .i64) (((((H5.headD .dead).cs).tail).headD .undef).V),.v (.sl Za) ((((((H5.headD .dead).cs).tail).tail).headD .undef).V),.v (.int .i64) (((((((H5.headD .dead).cs).tail).tail).tail).headD .undef).V)]]∧Za5 Q ((r1.parts.headD .undef).V) ((r1.parts.tail.headD .undef).V) ((((H5.headD .dead).cs).headD .undef).V) (((((H5.headD .dead).cs).tail).headD .undef).V) ((((((H5.headD .dead).cs).tail).tail).headD .undef).V) (((((((H5.headD .dead).cs).tail).tail).tail).headD .undef).V)) (cl Zax [.v .str ((r1.parts.headD .undef).V),.v .bool (V.b true)] [] fun r6 H7=>r6=(.v .bool (r6.V))∧H7=[]∧iff (!r6.V.bool) (cl ZK [.ptr (.own 0) 0,.v (.int .i64) ((r1.parts.tail.headD .undef).V)] [.cells [.v .str (V.s h0_0),.v (.int .i64) (V.i h0_1),.v (.sl Za) (V.l h0_2),.v (.int .i64) (V.i h0_3)]] fun r8 H9=>r8=(.tup [])∧H9=[.cells [.v .str ((((H9.headD .dead).cs).headD .undef).V),.v (.int .i64) (((((H9.headD .dead).cs).tail).headD .undef).V),.v (.sl Za) ((((((H9.headD .dead).cs).tail).tail).headD .undef).V),.v (.int .i64) (((((((H9.headD .dead).cs).tail).tail).tail).headD .undef).V)]]∧Za5 Q ((r1.parts.headD .undef).V) ((r1.parts.tail.headD .undef).V) ((((H9.headD .dead).cs).headD .undef).V) (((((H9.headD .dead).cs).tail).headD .undef).V) ((((((H9.headD .dead).cs).tail).tail).headD .undef).V) (((((((H9.headD .dead).cs).tail).tail).tail).headD .undef).V)) (Za5 Q ((r1.parts.headD .undef).V) ((r1.parts.tail.headD .undef).V) (V.s h0_0) (V.i h0_1) (V.l h0_2) (V.i h0_3))))
theorem Zk5 (h0_0:ByteArray) (h0_1:Int) (h0_2:LL) (h0_3:Int) (Q:QD) (h:Zkp h0_0 h0_1 h0_2 h0_3 Q):cl Ze6 [.ptr (.own 0) 0] [.cells [.v .str (V.s h0_0),.v (.int .i64) (V.i h0_1),.v (.sl Za) (V.l h0_2),.v (.int .i64) (V.i h0_3)]] Q :=
 acalls2 (E:=Zeg) (envOk _ _ _ _ _) 0 Tryz.func175 (by kernel_rfl) h
def ZaL:Env:=envA [(1,ua 4 2 (ua 7 12 ([.dead 9,.dead 15]))),(4,ua 4 2 (ua 7 25 ([.dead 22,.dead 28]))),(3000010,ua 4 31 (ua 40 14 ([.dead 43])))] [] [] [] [10]
def Zpw (Q:QD):Post:=blockK 0 (seqJ ZaL (fnAt [1,1] Tryz.f176) (endK ZaL Tryz.f176 Q))
def Zqg (Q:QD):Post:=blockK 2 (seqJ ZaL (fnAt [1,1,1,1] Tryz.f176) (endK ZaL Tryz.f176 Q))
@[irreducible] def ZbC (Q:QD) (x0:ByteArray) (x1:Int):Prop :=
 joinM (evCode ZaL (fnAt [1,1,1,1,1,1] Tryz.f176)) ⟨(.v .str (V.s x0))::(.v (.int .i64) (V.i x1))::sk 2 (un 31 (sk 5 (un 14 (sk 9 ([]))))),dd 63 ([])⟩ [] (endK ZaL Tryz.f176 Q)
@[irreducible] def Zdm (Q:QD) (m1:Nat) (x0:ByteArray) (x1 x6:Int):Prop :=
 iter (adj (ZaL.adj 4)) (evCode ZaL (fnAt [1,1,1,0,0,0] Tryz.f176)) (Zqg Q) m1 ⟨(.v .str (V.s x0))::(.v (.int .i64) (V.i x1))::sk 2 (un 2 ((.v (.int .i64) (V.i x6))::un 25 (sk 31 ([])))),dd 63 ([])⟩ []
@[irreducible] def ZfQ (Q:QD) (m0:Nat) (x0:ByteArray) (x1:Int):Prop :=
 iter (adj (ZaL.adj 1)) (evCode ZaL (fnAt [1,0,0,0] Tryz.f176)) (Zpw Q) m0 ⟨(.v .str (V.s x0))::(.v (.int .i64) (V.i x1))::sk 2 (un 2 (.skip::un 12 (sk 44 ([])))),dd 63 ([])⟩ []
def Zj2 (Q:QD) (x0:ByteArray) (x1:Int):Prop :=
 (x0.size≤big→0≤x1∧x1≤(if ((x0.size:Int))<(IntKind.i64.wrap (x1+(1:Int))) then ((x0.size:Int)) else (IntKind.i64.wrap (x1+(1:Int))))∧(if ((x0.size:Int))<(IntKind.i64.wrap (x1+(1:Int))) then ((x0.size:Int)) else (IntKind.i64.wrap (x1+(1:Int))))≤x0.size∧(True∧True∧True)∧Q (.tup [.v .str (V.s (x0.extract x1.toNat ((if ((x0.size:Int))<(IntKind.i64.wrap (x1+(1:Int))) then ((x0.size:Int)) else (IntKind.i64.wrap (x1+(1:Int))))).toNat)),.v (.int .i64) (V.i x1)]) [])
theorem Zn3 (Q:QD) (x0:ByteArray) (x1:Int):ZbC Q x0 x1=Zj2 Q x0 x1:=by kernel_rfl
def Zg9 (Q:QD) (m1:Nat) (x0:ByteArray) (x1 x6:Int):Prop :=
 (x0.size≤big→iff (decide (x6<((x0.size:Int)))) (0≤x6∧x6<x0.size∧cl Zio [.v (.int .u8) (V.i (((x0.data.toList.getD x6.toNat 0).toNat:Int)))] [] fun r1 H2=>r1=(.v .bool (r1.V))∧H2=[]∧iff r1.V.bool (Zdm Q m1 x0 x1 (IntKind.i64.wrap (x6+(1:Int)))) (iff (decide (x6 > x1)) (0≤x1∧x1≤x6∧x6≤x0.size∧(True∧True∧True)∧Q (.tup [.v .str (V.s (x0.extract x1.toNat x6.toNat)),.v (.int .i64) (V.i x1)]) []) ((x0.size≤big→iff (decide ((IntKind.i64.wrap (x1+(1:Int)))<((x0.size:Int)))) (0≤x1∧x1≤(IntKind.i64.wrap (x1+(2:Int)))∧(IntKind.i64.wrap (x1+(2:Int)))≤x0.size∧iff ((x0.extract x1.toNat ((IntKind.i64.wrap (x1+(2:Int)))).toNat).toList == (ByteArray.mk #[45,62]).toList) ((True∧True∧True)∧Q (.tup [.v .str (V.s (ByteArray.mk #[45,62])),.v (.int .i64) (V.i x1)]) []) (ZbC Q x0 x1)) (ZbC Q x0 x1))))) (iff (decide (x6 > x1)) (0≤x1∧x1≤x6∧x6≤x0.size∧(True∧True∧True)∧Q (.tup [.v .str (V.s (x0.extract x1.toNat x6.toNat)),.v (.int .i64) (V.i x1)]) []) ((x0.size≤big→iff (decide ((IntKind.i64.wrap (x1+(1:Int)))<((x0.size:Int)))) (0≤x1∧x1≤(IntKind.i64.wrap (x1+(2:Int)))∧(IntKind.i64.wrap (x1+(2:Int)))≤x0.size∧iff ((x0.extract x1.toNat ((IntKind.i64.wrap (x1+(2:Int)))).toNat).toList == (ByteArray.mk #[45,62]).toList) ((True∧True∧True)∧Q (.tup [.v .str (V.s (ByteArray.mk #[45,62])),.v (.int .i64) (V.i x1)]) []) (ZbC Q x0 x1)) (ZbC Q x0 x1)))))
theorem ZnF (Q:QD) (m1:Nat) (x0:ByteArray) (x1 x6:Int):Zdm Q (m1+1) x0 x1 x6=Zg9 Q m1 x0 x1 x6:=by kernel_rfl
theorem Znv (Q:QD):RuleG3 (Zdm Q) (Zg9 Q):=ruleG3 _ _ (ZnF Q)
def Zg5 (Q:QD) (m0:Nat) (x0:ByteArray) (x1:Int):Prop :=
 (x0.size≤big→iff (decide (x1<((x0.size:Int)))) (0≤x1∧x1<x0.size∧cl Zi9 [.v (.int .u8) (V.i (((x0.data.toList.getD x1.toNat 0).toNat:Int)))] [] fun r1 H2=>r1=(.v .bool (r1.V))∧H2=[]∧iff r1.V.bool (ZfQ Q m0 x0 (IntKind.i64.wrap (x1+(1:Int)))) (∃ m1,Zdm Q m1 x0 x1 x1)) (∃ m1,Zdm Q m1 x0 x1 x1))
theorem Zn2 (Q:QD) (m0:Nat) (x0:ByteArray) (x1:Int):ZfQ Q (m0+1) x0 x1=Zg5 Q m0 x0 x1:=by kernel_rfl
theorem Znt (Q:QD):RuleG2 (ZfQ Q) (Zg5 Q):=ruleG2 _ _ (Zn2 Q)
def ZqZ (a0:ByteArray) (a1:Int) (Q:QD):Prop :=
 ∃ m0,ZfQ Q m0 a0 a1
theorem Zrn (a0:ByteArray) (a1:Int) (Q:QD) (h:ZqZ a0 a1 Q):cl ZbT [.v .str (V.s a0),.v (.int .i64) (V.i a1)] [] Q :=
 acalls2 (E:=ZaL) (envOk _ _ _ _ _) 0 Tryz.func176 (by kernel_rfl) h
def Zjz:Env:=envA [] [] [] [] []
def Zgo (a1:Int) (h0_0:ByteArray) (h0_1:Int) (h0_2:LL) (h0_3:Int) (Q:QD):Prop :=
 iff (decide (h0_3<(0:Int))) (True∧Q (.tup []) [.cells [.v .str (V.s h0_0),.v (.int .i64) (V.i h0_1),.v (.sl Za) (V.l h0_2),.v (.int .i64) (V.i a1)]]) (True∧Q (.tup []) [.cells [.v .str (V.s h0_0),.v (.int .i64) (V.i h0_1),.v (.sl Za) (V.l h0_2),.v (.int .i64) (V.i h0_3)]])
theorem ZlI (a1:Int) (h0_0:ByteArray) (h0_1:Int) (h0_2:LL) (h0_3:Int) (Q:QD) (h:Zgo a1 h0_0 h0_1 h0_2 h0_3 Q):cl ZK [.ptr (.own 0) 0,.v (.int .i64) (V.i a1)] [.cells [.v .str (V.s h0_0),.v (.int .i64) (V.i h0_1),.v (.sl Za) (V.l h0_2),.v (.int .i64) (V.i h0_3)]] Q :=
 acalls2 (E:=Zjz) (envOk _ _ _ _ _) 0 Tryz.func177 (by kernel_rfl) h
def Zih:Env:=envA [] [] [] [] []
def ZfG (a1:Int) (h0_0:ByteArray) (h0_1:Int) (h0_2n:Nat) (h0_3:Int) (h1:LL) (Q:QD):Prop :=
 iff (decide (h0_3<(0:Int))) (True∧Q (.tup []) [.cells [.v .str (V.s h0_0),.v (.int .i64) (V.i h0_1),.osl (.own 1) h0_2n,.v (.int .i64) (V.i a1)],.row Za h1]) (True∧Q (.tup []) [.cells [.v .str (V.s h0_0),.v (.int .i64) (V.i h0_1),.osl (.own 1) h0_2n,.v (.int .i64) (V.i h0_3)],.row Za h1])
theorem Zi4 (a1:Int) (h0_0:ByteArray) (h0_1:Int) (h0_2n:Nat) (h0_3:Int) (h1:LL) (Q:QD) (h:ZfG a1 h0_0 h0_1 h0_2n h0_3 h1 Q):cl ZK [.ptr (.own 0) 0,.v (.int .i64) (V.i a1)] [.cells [.v .str (V.s h0_0),.v (.int .i64) (V.i h0_1),.osl (.own 1) h0_2n,.v (.int .i64) (V.i h0_3)],.row Za h1] Q :=
 acalls2 (E:=Zih) (envOk _ _ _ _ _) 0 Tryz.func177 (by kernel_rfl) h
def Zo6:Env:=envA [] [] [] [] []
def Zj1 (a0:ByteArray) (Q:QD):Prop :=
 iff (!(a0.toList == (ByteArray.mk #[]).toList)) (0≤(0:Int)∧(0:Int)<a0.size∧cl Zio [.v (.int .u8) (V.i (((a0.data.toList.getD ((0:Int)).toNat 0).toNat:Int)))] [] fun r1 H2=>r1=(.v .bool (r1.V))∧H2=[]∧True∧Q (.v .bool (r1.V)) []) (True∧Q (.v .bool (V.b false)) [])
theorem Zqu (a0:ByteArray) (Q:QD) (h:Zj1 a0 Q):cl Zgu [.v .str (V.s a0)] [] Q :=
 acalls2 (E:=Zo6) (envOk _ _ _ _ _) 0 Tryz.func178 (by kernel_rfl) h
end Go.Proofs.YthjlodlkpgjlkaaGreat
set_option maxRecDepth 100000
namespace Go.Proofs.YthjlodlkpgjlkaaGreat
open Go.Abs
def Z3:Env:=envA [(3,(.undef 0)::ua 2 2 ((.undef 6)::ua 8 3 (ua 14 24 ((.dead 6)::(.dead 8)::da 21 2 ([.dead 30,.plainT 4 Ze]))))),(6,(.undef 0)::ua 2 2 ((.undef 6)::ua 8 3 (ua 14 7 (ua 24 14 ([.dead 6,.dead 8,.dead 30,.plainT 4 Ze])))))] [] [] [] []
def ZfA (Q:QD):Post:=blockK 0 (seqJ Z3 (fnAt [1,1,1] Tryz.f179) (endK Z3 Tryz.f179 Q))
def ZmT (Q:QD) (m0:Nat):Post:=blockK 2 (blockK 1 (seqJ Z3 (fnAt [1,1,0,1,0,0,1,1,1] Tryz.f179) (loopK (adj (Z3.adj 3)) (iter (adj (Z3.adj 3)) (evCode Z3 (fnAt [1,1,0,1,0,0] Tryz.f179)) (ZfA Q) m0) (ZfA Q))))
@[irreducible] def Zbt (Q:QD) (m0 m1:Nat) (x4:V) (x11:LL) (x12 x13:Int) (x21:LL) (x22 x23:Int):Prop :=
 iter (adj (Z3.adj 6)) (evCode Z3 (fnAt [1,1,0,1,0,0,1,1,0,0,1,1,0,0] Tryz.f179)) (ZmT Q m0) m1 ⟨.undef::.skip::un 2 ((.v (.sl Ze) (x4))::.skip::.undef::.skip::un 3 ((.v (.sl Zd) (V.l x11))::(.v (.int .i64) (V.i x12))::(.v (.int .i64) (V.i x13))::un 7 ((.v (.sl Zb) (V.l x21))::(.v (.int .i64) (V.i x22))::(.v (.int .i64) (V.i x23))::un 14 ([.skip])))),dd 39 ([])⟩ []
@[irreducible] def ZaW (Q:QD) (m0:Nat) (x4:V) (x11:LL) (x12 x13:Int):Prop :=
 iter (adj (Z3.adj 3)) (evCode Z3 (fnAt [1,1,0,1,0,0] Tryz.f179)) (ZfA Q) m0 ⟨.undef::.skip::un 2 ((.v (.sl Ze) (x4))::.skip::.undef::.skip::un 3 ((.v (.sl Zd) (V.l x11))::(.v (.int .i64) (V.i x12))::(.v (.int .i64) (V.i x13))::un 24 ([.skip]))),dd 39 ([])⟩ []
def ZmO (Q:QD) (m0 m1:Nat) (x4:V) (x11:LL) (x12 x13:Int) (x21:LL) (x22 x23:Int):Prop :=
 iff (decide (x23<x22)) (0≤x23∧x23<x21.length∧cl Zdq [.agg [.v .str (((x21.getD x23.toNat []).drop 0).headD V.none),.v .bool ((((x21.getD x23.toNat []).drop 0).tail).headD V.none),.v (.sl Zb) (((((x21.getD x23.toNat []).drop 0).tail).tail).headD V.none)],.v (.sl Ze) (x4)] [] fun r1 H2=>r1=(.tup [.v (.sl Ze) ((r1.parts.headD .undef).V),.v .bool ((r1.parts.tail.headD .undef).V)])∧H2=[]∧iff (!(((r1.parts.tail.headD .undef).V).bool)) ((True∧True∧True)∧Q (.tup [.nil,.v .bool (V.b false)]) []) (Zbt Q m0 m1 ((r1.parts.headD .undef).V) x11 x12 x13 x21 x22 (IntKind.i64.wrap (x23+(1:Int))))) (ZaW Q m0 x4 x11 x12 (IntKind.i64.wrap (x13+(1:Int))))
theorem Zkt (Q:QD) (m0 m1:Nat) (x4:V) (x11:LL) (x12 x13:Int) (x21:LL) (x22 x23:Int):Zbt Q m0 (m1+1) x4 x11 x12 x13 x21 x22 x23=ZmO Q m0 m1 x4 x11 x12 x13 x21 x22 x23:=by kernel_rfl
theorem Zjj (Q:QD) (m0:Nat) (x11:LL) (x12 x13:Int) (x21:LL) (n:Nat) (hb:n≤big) (J:Nat→V→Prop)
  (step:∀ (k:Nat) (x4:V),k<n→J k x4→∀ K:V→Prop,(∀ (x4':V),J (k+1) x4'→K x4')→(0≤(k:Int)∧(k:Int)<x21.length∧cl Zdq [.agg [.v .str (((x21.getD k []).drop 0).headD V.none),.v .bool ((((x21.getD k []).drop 0).tail).headD V.none),.v (.sl Zb) (((((x21.getD k []).drop 0).tail).tail).headD V.none)],.v (.sl Ze) (x4)] [] fun r1 H2=>r1=(.tup [.v (.sl Ze) ((r1.parts.headD .undef).V),.v .bool ((r1.parts.tail.headD .undef).V)])∧H2=[]∧iff (!(((r1.parts.tail.headD .undef).V).bool)) ((True∧True∧True)∧Q (.tup [.nil,.v .bool (V.b false)]) []) (K ((r1.parts.headD .undef).V))))
  (last:∀ (x4:V),J n x4→(ZaW Q m0 x4 x11 x12 (IntKind.i64.wrap (x13+(1:Int)))))
  (k:Nat) (x4:V) (le0:k≤n) (hj:J k x4):∃ m1,Zbt Q m0 m1 x4 x11 x12 x13 x21 (n:Int) ((k:Int)):=by
 exact rangeG1 n hb J (fun m1 i x4=>Zbt Q m0 m1 x4 x11 x12 x13 x21 (n:Int) i) (fun m1 i x4=>Zkt Q m0 m1 x4 x11 x12 x13 x21 (n:Int) i) (fun k x4 hl_ hj_ m_ ih_=>step k x4 hl_ hj_ _ ih_) last k x4 le0 hj
def ZmD (Q:QD) (m0:Nat) (x4:V) (x11:LL) (x12 x13:Int):Prop :=
 iff (decide (x13<x12)) (0≤x13∧x13<x11.length∧(([[((x11.getD x13.toNat []).drop 0).headD V.none,(((x11.getD x13.toNat []).drop 0).tail).headD V.none,((((x11.getD x13.toNat []).drop 0).tail).tail).headD V.none],[(((((x11.getD x13.toNat []).drop 0).tail).tail).tail).headD V.none,((((((x11.getD x13.toNat []).drop 0).tail).tail).tail).tail).headD V.none,(((((((x11.getD x13.toNat []).drop 0).tail).tail).tail).tail).tail).headD V.none]]).length≤big→∃ m1,Zbt Q m0 m1 x4 x11 x12 x13 ([[((x11.getD x13.toNat []).drop 0).headD V.none,(((x11.getD x13.toNat []).drop 0).tail).headD V.none,((((x11.getD x13.toNat []).drop 0).tail).tail).headD V.none],[(((((x11.getD x13.toNat []).drop 0).tail).tail).tail).headD V.none,((((((x11.getD x13.toNat []).drop 0).tail).tail).tail).tail).headD V.none,(((((((x11.getD x13.toNat []).drop 0).tail).tail).tail).tail).tail).headD V.none]]) ((([[((x11.getD x13.toNat []).drop 0).headD V.none,(((x11.getD x13.toNat []).drop 0).tail).headD V.none,((((x11.getD x13.toNat []).drop 0).tail).tail).headD V.none],[(((((x11.getD x13.toNat []).drop 0).tail).tail).tail).headD V.none,((((((x11.getD x13.toNat []).drop 0).tail).tail).tail).tail).headD V.none,(((((((x11.getD x13.toNat []).drop 0).tail).tail).tail).tail).tail).headD V.none]]).length:Int)) 0)) ((True∧True∧True)∧Q (.tup [.v (.sl Ze) (x4),.v .bool (V.b true)]) [])
theorem Zkx (Q:QD) (m0:Nat) (x4:V) (x11:LL) (x12 x13:Int):ZaW Q (m0+1) x4 x11 x12 x13=ZmD Q m0 x4 x11 x12 x13:=by kernel_rfl
theorem ZjS (Q:QD) (x11:LL) (n:Nat) (hb:n≤big) (J:Nat→V→Prop)
  (step:∀ (k:Nat) (x4:V),k<n→J k x4→∀ m0:Nat,(∀ (x4':V),J (k+1) x4'→ZaW Q m0 x4' x11 (n:Int) (IntKind.i64.wrap ((k:Int)+(1:Int))))→(0≤(k:Int)∧(k:Int)<x11.length∧(([[((x11.getD k []).drop 0).headD V.none,(((x11.getD k []).drop 0).tail).headD V.none,((((x11.getD k []).drop 0).tail).tail).headD V.none],[(((((x11.getD k []).drop 0).tail).tail).tail).headD V.none,((((((x11.getD k []).drop 0).tail).tail).tail).tail).headD V.none,(((((((x11.getD k []).drop 0).tail).tail).tail).tail).tail).headD V.none]]).length≤big→∃ m1,Zbt Q m0 m1 x4 x11 (n:Int) (k:Int) ([[((x11.getD k []).drop 0).headD V.none,(((x11.getD k []).drop 0).tail).headD V.none,((((x11.getD k []).drop 0).tail).tail).headD V.none],[(((((x11.getD k []).drop 0).tail).tail).tail).headD V.none,((((((x11.getD k []).drop 0).tail).tail).tail).tail).headD V.none,(((((((x11.getD k []).drop 0).tail).tail).tail).tail).tail).headD V.none]]) ((([[((x11.getD k []).drop 0).headD V.none,(((x11.getD k []).drop 0).tail).headD V.none,((((x11.getD k []).drop 0).tail).tail).headD V.none],[(((((x11.getD k []).drop 0).tail).tail).tail).headD V.none,((((((x11.getD k []).drop 0).tail).tail).tail).tail).headD V.none,(((((((x11.getD k []).drop 0).tail).tail).tail).tail).tail).headD V.none]]).length:Int)) 0)))
  (last:∀ (x4:V),J n x4→((True∧True∧True)∧Q (.tup [.v (.sl Ze) (x4),.v .bool (V.b true)]) []))
  (k:Nat) (x4:V) (le0:k≤n) (hj:J k x4):∃ m0,ZaW Q m0 x4 x11 (n:Int) ((k:Int)):=by
 exact rangeG1 n hb J (fun m0 i x4=>ZaW Q m0 x4 x11 (n:Int) i) (fun m0 i x4=>Zkx Q m0 x4 x11 (n:Int) i) (fun k x4 hl_ hj_ m_ ih_=>step k x4 hl_ hj_ m_ ih_) last k x4 le0 hj
def Zo5 (a0:LL) (Q:QD):Prop :=
 (a0.length≤big→∃ m0,ZaW Q m0 (V.l ([])) a0 ((a0.length:Int)) 0)
theorem Zpq (a0:LL) (Q:QD) (h:Zo5 a0 Q):cl Zhj [.v (.sl Zd) (V.l a0)] [] Q :=
 acalls2 (E:=Z3) (envOk _ _ _ _ _) 0 Tryz.func179 (by kernel_rfl) h
def ZoZ:Env:=envA [] [] [] [] []
def ZkG (a0_0:ByteArray) (a0_1:Bool) (a0_2:LL) (a1_0:ByteArray) (a1_1:Bool) (a1_2:LL) (Q:QD):Prop :=
 cl ZaT [.agg [.v .str (V.s a0_0),.v .bool (V.b a0_1),.v (.sl Zb) (V.l a0_2)],.agg [.v .str (V.s a1_0),.v .bool (V.b a1_1),.v (.sl Zb) (V.l a1_2)]] [] fun r1 H2=>r1=(.v .bool (r1.V))∧H2=[]∧iff r1.V.bool (True∧Q (.v .bool (V.b true)) []) (cl Zes [.agg [.v .str (V.s a0_0),.v .bool (V.b a0_1),.v (.sl Zb) (V.l a0_2)],.agg [.v .str (V.s a1_0),.v .bool (V.b a1_1),.v (.sl Zb) (V.l a1_2)]] [] fun r3 H4=>r3=(.v .bool (r3.V))∧H4=[]∧True∧Q (.v .bool (r3.V)) [])
theorem Zqj (a0_0:ByteArray) (a0_1:Bool) (a0_2:LL) (a1_0:ByteArray) (a1_1:Bool) (a1_2:LL) (Q:QD) (h:ZkG a0_0 a0_1 a0_2 a1_0 a1_1 a1_2 Q):cl ZgB [.agg [.v .str (V.s a0_0),.v .bool (V.b a0_1),.v (.sl Zb) (V.l a0_2)],.agg [.v .str (V.s a1_0),.v .bool (V.b a1_1),.v (.sl Zb) (V.l a1_2)]] [] Q :=
 acalls2 (E:=ZoZ) (envOk _ _ _ _ _) 0 Tryz.func180 (by kernel_rfl) h
def ZbX:Env:=envA [(4,ua 4 8 (ua 14 29 ([.dead 26,.dead 39])))] [(6,23,[],[])] [] [] []
def Zkj (Q:QD):Post:=blockK 0 (seqJ ZbX (fnAt [1,1,1] Tryz.f181) (endK ZbX Tryz.f181 Q))
@[irreducible] def ZbD (Q:QD) (m0:Nat) (x0 x1:LL) (x12 x13:Int):Prop :=
 iter (adj (ZbX.adj 4)) (evCode ZbX (fnAt [1,1,0,1,0,0] Tryz.f181)) (Zkj Q) m0 ⟨(.v (.sl Zd) (V.l x0))::(.v (.sl Zd) (V.l x1))::sk 2 (un 8 ((.v (.int .i64) (V.i x12))::(.v (.int .i64) (V.i x13))::un 29 ([]))),dd 43 ([])⟩ []
def ZkY (Q:QD) (m0:Nat) (x0 x1:LL) (x12 x13:Int):Prop :=
 iff (decide (x13<x12)) (0≤x13∧x13<x0.length∧0≤x13∧x13<x1.length∧(∃ r1:D,cl ZaT [.agg [.v .str (((x0.getD x13.toNat []).drop 0).headD V.none),.v .bool ((((x0.getD x13.toNat []).drop 0).tail).headD V.none),.v (.sl Zb) (((((x0.getD x13.toNat []).drop 0).tail).tail).headD V.none)],.agg [.v .str (((x1.getD x13.toNat []).drop 0).headD V.none),.v .bool ((((x1.getD x13.toNat []).drop 0).tail).headD V.none),.v (.sl Zb) (((((x1.getD x13.toNat []).drop 0).tail).tail).headD V.none)]] [] (fun r H'=>r=(.v .bool (r1.V))∧H'=[])∧iff (!r1.V.bool) (True∧Q (.v .bool (V.b false)) []) (0≤x13∧x13<x0.length∧0≤x13∧x13<x1.length∧cl ZaT [.agg [.v .str (((x0.getD x13.toNat []).drop 3).headD V.none),.v .bool ((((x0.getD x13.toNat []).drop 3).tail).headD V.none),.v (.sl Zb) (((((x0.getD x13.toNat []).drop 3).tail).tail).headD V.none)],.agg [.v .str (((x1.getD x13.toNat []).drop 3).headD V.none),.v .bool ((((x1.getD x13.toNat []).drop 3).tail).headD V.none),.v (.sl Zb) (((((x1.getD x13.toNat []).drop 3).tail).tail).headD V.none)]] [] fun r2 H3=>r2=(.v .bool (r2.V))∧H3=[]∧iff (!r2.V.bool) (True∧Q (.v .bool (V.b false)) []) (ZbD Q m0 x0 x1 x12 (IntKind.i64.wrap (x13+(1:Int))))))) (True∧Q (.v .bool (V.b true)) [])
theorem Ziy (Q:QD) (m0:Nat) (x0 x1:LL) (x12 x13:Int):ZbD Q (m0+1) x0 x1 x12 x13=ZkY Q m0 x0 x1 x12 x13:=by kernel_rfl
theorem Zib (Q:QD) (x0 x1:LL) (n:Nat) (hb:n≤big) (J:Nat→Prop)
  (step:∀ (k:Nat),k<n→J k→∀ K:Prop,(J (k+1)→K)→(0≤(k:Int)∧(k:Int)<x0.length∧0≤(k:Int)∧(k:Int)<x1.length∧(∃ r1:D,cl ZaT [.agg [.v .str (((x0.getD k []).drop 0).headD V.none),.v .bool ((((x0.getD k []).drop 0).tail).headD V.none),.v (.sl Zb) (((((x0.getD k []).drop 0).tail).tail).headD V.none)],.agg [.v .str (((x1.getD k []).drop 0).headD V.none),.v .bool ((((x1.getD k []).drop 0).tail).headD V.none),.v (.sl Zb) (((((x1.getD k []).drop 0).tail).tail).headD V.none)]] [] (fun r H'=>r=(.v .bool (r1.V))∧H'=[])∧iff (!r1.V.bool) (True∧Q (.v .bool (V.b false)) []) (0≤(k:Int)∧(k:Int)<x0.length∧0≤(k:Int)∧(k:Int)<x1.length∧cl ZaT [.agg [.v .str (((x0.getD k []).drop 3).headD V.none),.v .bool ((((x0.getD k []).drop 3).tail).headD V.none),.v (.sl Zb) (((((x0.getD k []).drop 3).tail).tail).headD V.none)],.agg [.v .str (((x1.getD k []).drop 3).headD V.none),.v .bool ((((x1.getD k []).drop 3).tail).headD V.none),.v (.sl Zb) (((((x1.getD k []).drop 3).tail).tail).headD V.none)]] [] fun r2 H3=>r2=(.v .bool (r2.V))∧H3=[]∧iff (!r2.V.bool) (True∧Q (.v .bool (V.b false)) []) (K)))))
  (last:J n→(True∧Q (.v .bool (V.b true)) []))
  (k:Nat) (le0:k≤n) (hj:J k):∃ m0,ZbD Q m0 x0 x1 (n:Int) ((k:Int)):=by
 exact rangeG0 n hb J (fun m0 i=>ZbD Q m0 x0 x1 (n:Int) i) (fun m0 i=>Ziy Q m0 x0 x1 (n:Int) i) (fun k hl_ hj_ m_ ih_=>step k hl_ hj_ _ ih_) last k le0 hj
def Zni (a0 a1:LL) (Q:QD):Prop :=
 (a0.length≤big→(a1.length≤big→iff (((a0.length:Int)) != ((a1.length:Int))) (True∧Q (.v .bool (V.b false)) []) ((a0.length≤big→∃ m0,ZbD Q m0 a0 a1 ((a0.length:Int)) 0))))
theorem ZnA (a0 a1:LL) (Q:QD) (h:Zni a0 a1 Q):cl ZeQ [.v (.sl Zd) (V.l a0),.v (.sl Zd) (V.l a1)] [] Q :=
 acalls2 (E:=ZbX) (envOk _ _ _ _ _) 0 Tryz.func181 (by kernel_rfl) h
def Zdo:Env:=envA [] [] [] [] []
def ZaZ (a0:LL) (Q:QD):Prop :=
 cl ZG [.v (.sl Zd) (V.l a0),.fn ZaN []] [] fun r1 H2=>r1=(.v (.int .i64) (r1.V))∧H2=[]∧True∧Q (.v .bool (V.b (decide (r1.V.int≥(0:Int))))) []
theorem ZdQ (a0:LL) (Q:QD) (h:ZaZ a0 Q):cl Zj [.v (.sl Zd) (V.l a0),.fn ZaN []] [] Q :=
 acalls2 (E:=Zdo) (envOk _ _ _ _ _) 0 Tryz.func108 (by kernel_rfl) h
def ZnN:Env:=envA [] [] [] [] []
def ZiR (a0:ByteArray) (Q:QD):Prop :=
 cl Zf6 [.v .str (V.s a0),.v .str (V.s (ByteArray.mk #[35]))] [] fun r1 H2=>r1=(.v .bool (r1.V))∧H2=[]∧True∧Q (.v .bool (r1.V)) []
theorem ZpE (a0:ByteArray) (Q:QD) (h:ZiR a0 Q):cl Zap [.v .str (V.s a0)] [] Q :=
 acalls2 (E:=ZnN) (envOk _ _ _ _ _) 0 Tryz.func182 (by kernel_rfl) h
def Zfr:Env:=envA [(2,(.undef 0)::(.undef 2)::ua 4 2 (ua 9 9 ([.dead 4,.dead 13])))] [] [] [] []
def ZpF (Q:QD):Post:=blockK 0 (seqJ Zfr (fnAt [1,1] Tryz.f70) (endK Zfr Tryz.f70 Q))
@[irreducible] def ZeF (Q:QD) (m0:Nat) (x6:LL) (x7 x8:Int):Prop :=
 iter (adj (Zfr.adj 2)) (evCode Zfr (fnAt [1,0,1,0,0] Tryz.f70)) (ZpF Q) m0 ⟨.undef::.skip::.undef::.skip::un 2 ((.v (.sl Zb) (V.l x6))::(.v (.int .i64) (V.i x7))::(.v (.int .i64) (V.i x8))::un 9 ([])),dd 18 ([])⟩ []
def ZpL (Q:QD) (m0:Nat) (x6:LL) (x7 x8:Int):Prop :=
 iff (decide (x8<x7)) (0≤x8∧x8<x6.length∧cl Zfx [.agg [.v .str (((x6.getD x8.toNat []).drop 0).headD V.none),.v .bool ((((x6.getD x8.toNat []).drop 0).tail).headD V.none),.v (.sl Zb) (((((x6.getD x8.toNat []).drop 0).tail).tail).headD V.none)]] [] fun r1 H2=>r1=(.v (.int .i64) (r1.V))∧H2=[]∧iff (r1.V.int != (0:Int)) (True∧Q (.v (.int .i64) (r1.V)) []) (ZeF Q m0 x6 x7 (IntKind.i64.wrap (x8+(1:Int))))) (True∧Q (.v (.int .i64) (V.i 0)) [])
theorem Zoa (Q:QD) (m0:Nat) (x6:LL) (x7 x8:Int):ZeF Q (m0+1) x6 x7 x8=ZpL Q m0 x6 x7 x8:=by kernel_rfl
theorem Zm0 (Q:QD) (x6:LL) (n:Nat) (hb:n≤big) (J:Nat→Prop)
  (step:∀ (k:Nat),k<n→J k→∀ K:Prop,(J (k+1)→K)→(0≤(k:Int)∧(k:Int)<x6.length∧cl Zfx [.agg [.v .str (((x6.getD k []).drop 0).headD V.none),.v .bool ((((x6.getD k []).drop 0).tail).headD V.none),.v (.sl Zb) (((((x6.getD k []).drop 0).tail).tail).headD V.none)]] [] fun r1 H2=>r1=(.v (.int .i64) (r1.V))∧H2=[]∧iff (r1.V.int != (0:Int)) (True∧Q (.v (.int .i64) (r1.V)) []) (K)))
  (last:J n→(True∧Q (.v (.int .i64) (V.i 0)) []))
  (k:Nat) (le0:k≤n) (hj:J k):∃ m0,ZeF Q m0 x6 (n:Int) ((k:Int)):=by
 exact rangeG0 n hb J (fun m0 i=>ZeF Q m0 x6 (n:Int) i) (fun m0 i=>Zoa Q m0 x6 (n:Int) i) (fun k hl_ hj_ m_ ih_=>step k hl_ hj_ _ ih_) last k le0 hj
def Zq0 (a0:LL) (Q:QD):Prop :=
 (a0.length≤big→∃ m0,ZeF Q m0 a0 ((a0.length:Int)) 0)
theorem Zrr (a0:LL) (Q:QD) (h:Zq0 a0 Q):cl Zil [.v (.sl Zb) (V.l a0)] [] Q :=
 acalls2 (E:=Zfr) (envOk _ _ _ _ _) 0 Tryz.func70 (by kernel_rfl) h
def ZD:Env:=envA [(2,ua 4 3 (ua 9 10 ([.dead 16])))] [] [] [] []
def Zc7 (Q:QD):Post:=blockK 0 (seqJ ZD (fnAt [1,1] Tryz.f184) (endK ZD Tryz.f184 Q))
@[irreducible] def Zv (Q:QD) (m0:Nat) (x0:LL) (x7 x8:Int):Prop :=
 iter (adj (ZD.adj 2)) (evCode ZD (fnAt [1,0,1,0,0] Tryz.f184)) (Zc7 Q) m0 ⟨(.v (.sl Zd) (V.l x0))::(.fn Z4 [])::sk 2 (un 3 ((.v (.int .i64) (V.i x7))::(.v (.int .i64) (V.i x8))::un 10 ([]))),dd 19 ([])⟩ []
def Zc8 (Q:QD) (m0:Nat) (x0:LL) (x7 x8:Int):Prop :=
 iff (decide (x8<x7)) (0≤x8∧x8<x0.length∧cl Z4 [.agg [.v .str (((x0.getD x8.toNat []).drop 0).headD V.none),.v .bool ((((x0.getD x8.toNat []).drop 0).tail).headD V.none),.v (.sl Zb) (((((x0.getD x8.toNat []).drop 0).tail).tail).headD V.none),.v .str ((((((x0.getD x8.toNat []).drop 0).tail).tail).tail).headD V.none),.v .bool (((((((x0.getD x8.toNat []).drop 0).tail).tail).tail).tail).headD V.none),.v (.sl Zb) ((((((((x0.getD x8.toNat []).drop 0).tail).tail).tail).tail).tail).headD V.none)]] [] fun r1 H2=>r1=(.v .bool (r1.V))∧H2=[]∧iff r1.V.bool (True∧Q (.v (.int .i64) (V.i x8)) []) (Zv Q m0 x0 x7 (IntKind.i64.wrap (x8+(1:Int))))) (True∧Q (.v (.int .i64) (V.i (-1))) [])
theorem ZcH (Q:QD) (m0:Nat) (x0:LL) (x7 x8:Int):Zv Q (m0+1) x0 x7 x8=Zc8 Q m0 x0 x7 x8:=by kernel_rfl
theorem ZcE (Q:QD) (x0:LL) (n:Nat) (hb:n≤big) (J:Nat→Prop)
  (step:∀ (k:Nat),k<n→J k→∀ K:Prop,(J (k+1)→K)→(0≤(k:Int)∧(k:Int)<x0.length∧cl Z4 [.agg [.v .str (((x0.getD k []).drop 0).headD V.none),.v .bool ((((x0.getD k []).drop 0).tail).headD V.none),.v (.sl Zb) (((((x0.getD k []).drop 0).tail).tail).headD V.none),.v .str ((((((x0.getD k []).drop 0).tail).tail).tail).headD V.none),.v .bool (((((((x0.getD k []).drop 0).tail).tail).tail).tail).headD V.none),.v (.sl Zb) ((((((((x0.getD k []).drop 0).tail).tail).tail).tail).tail).headD V.none)]] [] fun r1 H2=>r1=(.v .bool (r1.V))∧H2=[]∧iff r1.V.bool (True∧Q (.v (.int .i64) (V.i (k:Int))) []) (K)))
  (last:J n→(True∧Q (.v (.int .i64) (V.i (-1))) []))
  (k:Nat) (le0:k≤n) (hj:J k):∃ m0,Zv Q m0 x0 (n:Int) ((k:Int)):=by
 exact rangeG0 n hb J (fun m0 i=>Zv Q m0 x0 (n:Int) i) (fun m0 i=>ZcH Q m0 x0 (n:Int) i) (fun k hl_ hj_ m_ ih_=>step k hl_ hj_ _ ih_) last k le0 hj
def Zd8 (a0:LL) (Q:QD):Prop :=
 (a0.length≤big→∃ m0,Zv Q m0 a0 ((a0.length:Int)) 0)
theorem Zef (a0:LL) (Q:QD) (h:Zd8 a0 Q):cl ZG [.v (.sl Zd) (V.l a0),.fn Z4 []] [] Q :=
 acalls2 (E:=ZD) (envOk _ _ _ _ _) 0 Tryz.func184 (by kernel_rfl) h
def Zs:Env:=envA [(2,ua 4 3 (ua 9 10 ([.dead 16])))] [] [] [] []
def ZcG (Q:QD):Post:=blockK 0 (seqJ Zs (fnAt [1,1] Tryz.f187) (endK Zs Tryz.f187 Q))
@[irreducible] def Zn (Q:QD) (m0:Nat) (x0:LL) (x7 x8:Int) (h0_0:V):Prop :=
 iter (adj (Zs.adj 2)) (evCode Zs (fnAt [1,0,1,0,0] Tryz.f187)) (ZcG Q) m0 ⟨(.v (.sl Za) (V.l x0))::(.fn ZV [.ptr (.own 0) 0])::sk 2 (un 3 ((.v (.int .i64) (V.i x7))::(.v (.int .i64) (V.i x8))::un 10 ([]))),dd 19 ([])⟩ [.cells [.v (.sl Za) (h0_0)]]
def ZcL (Q:QD) (m0:Nat) (x0:LL) (x7 x8:Int) (h0_0:V):Prop :=
 iff (decide (x8<x7)) (0≤x8∧x8<x0.length∧cl ZV [.v .str (((x0.getD x8.toNat []).drop 0).headD V.none),.ptr (.own 0) 0] [.cells [.v (.sl Za) (h0_0)]] fun r1 H2=>r1=(.v .bool (r1.V))∧H2=[.cells [.v (.sl Za) ((((H2.headD .dead).cs).headD .undef).V)]]∧iff r1.V.bool (True∧Q (.v (.int .i64) (V.i x8)) [.cells [.v (.sl Za) ((((H2.headD .dead).cs).headD .undef).V)]]) (Zn Q m0 x0 x7 (IntKind.i64.wrap (x8+(1:Int))) ((((H2.headD .dead).cs).headD .undef).V))) (True∧Q (.v (.int .i64) (V.i (-1))) [.cells [.v (.sl Za) (h0_0)]])
theorem Zch (Q:QD) (m0:Nat) (x0:LL) (x7 x8:Int) (h0_0:V):Zn Q (m0+1) x0 x7 x8 h0_0=ZcL Q m0 x0 x7 x8 h0_0:=by kernel_rfl
theorem Zb4 (Q:QD) (x0:LL) (n:Nat) (hb:n≤big) (J:Nat→V→Prop)
  (step:∀ (k:Nat) (h0_0:V),k<n→J k h0_0→∀ K:V→Prop,(∀ (h0_0':V),J (k+1) h0_0'→K h0_0')→(0≤(k:Int)∧(k:Int)<x0.length∧cl ZV [.v .str (((x0.getD k []).drop 0).headD V.none),.ptr (.own 0) 0] [.cells [.v (.sl Za) (h0_0)]] fun r1 H2=>r1=(.v .bool (r1.V))∧H2=[.cells [.v (.sl Za) ((((H2.headD .dead).cs).headD .undef).V)]]∧iff r1.V.bool (True∧Q (.v (.int .i64) (V.i (k:Int))) [.cells [.v (.sl Za) ((((H2.headD .dead).cs).headD .undef).V)]]) (K ((((H2.headD .dead).cs).headD .undef).V))))
  (last:∀ (h0_0:V),J n h0_0→(True∧Q (.v (.int .i64) (V.i (-1))) [.cells [.v (.sl Za) (h0_0)]]))
  (k:Nat) (h0_0:V) (le0:k≤n) (hj:J k h0_0):∃ m0,Zn Q m0 x0 (n:Int) ((k:Int)) h0_0:=by
 exact rangeG1 n hb J (fun m0 i h0_0=>Zn Q m0 x0 (n:Int) i h0_0) (fun m0 i h0_0=>Zch Q m0 x0 (n:Int) i h0_0) (fun k h0_0 hl_ hj_ m_ ih_=>step k h0_0 hl_ hj_ _ ih_) last k h0_0 le0 hj
def Zdr (a0 h0_0:LL) (Q:QD):Prop :=
 (a0.length≤big→∃ m0,Zn Q m0 a0 ((a0.length:Int)) 0 (V.l h0_0))
theorem ZdB (a0 h0_0:LL) (Q:QD) (h:Zdr a0 h0_0 Q):cl ZW [.v (.sl Za) (V.l a0),.fn ZV [.ptr (.own 0) 0]] [.cells [.v (.sl Za) (V.l h0_0)]] Q :=
 acalls2 (E:=Zs) (envOk _ _ _ _ _) 0 Tryz.func187 (by kernel_rfl) h
def Zo:Env:=envA [(2,ua 4 3 (ua 9 10 ([.dead 16])))] [] [] [] []
def Zcz (Q:QD):Post:=blockK 0 (seqJ Zo (fnAt [1,1] Tryz.f184) (endK Zo Tryz.f184 Q))
@[irreducible] def Zl (Q:QD) (m0:Nat) (x0:LL) (x7 x8:Int) (h0_0:V):Prop :=
 iter (adj (Zo.adj 2)) (evCode Zo (fnAt [1,0,1,0,0] Tryz.f184)) (Zcz Q) m0 ⟨(.v (.sl Zd) (V.l x0))::(.fn ZL [.ptr (.own 0) 0])::sk 2 (un 3 ((.v (.int .i64) (V.i x7))::(.v (.int .i64) (V.i x8))::un 10 ([]))),dd 19 ([])⟩ [.cells [.v (.sl Zc) (h0_0)]]
def Zcy (Q:QD) (m0:Nat) (x0:LL) (x7 x8:Int) (h0_0:V):Prop :=
 iff (decide (x8<x7)) (0≤x8∧x8<x0.length∧cl ZL [.agg [.v .str (((x0.getD x8.toNat []).drop 0).headD V.none),.v .bool ((((x0.getD x8.toNat []).drop 0).tail).headD V.none),.v (.sl Zb) (((((x0.getD x8.toNat []).drop 0).tail).tail).headD V.none),.v .str ((((((x0.getD x8.toNat []).drop 0).tail).tail).tail).headD V.none),.v .bool (((((((x0.getD x8.toNat []).drop 0).tail).tail).tail).tail).headD V.none),.v (.sl Zb) ((((((((x0.getD x8.toNat []).drop 0).tail).tail).tail).tail).tail).headD V.none)],.ptr (.own 0) 0] [.cells [.v (.sl Zc) (h0_0)]] fun r1 H2=>r1=(.v .bool (r1.V))∧H2=[.cells [.v (.sl Zc) ((((H2.headD .dead).cs).headD .undef).V)]]∧iff r1.V.bool (True∧Q (.v (.int .i64) (V.i x8)) [.cells [.v (.sl Zc) ((((H2.headD .dead).cs).headD .undef).V)]]) (Zl Q m0 x0 x7 (IntKind.i64.wrap (x8+(1:Int))) ((((H2.headD .dead).cs).headD .undef).V))) (True∧Q (.v (.int .i64) (V.i (-1))) [.cells [.v (.sl Zc) (h0_0)]])
theorem Zb8 (Q:QD) (m0:Nat) (x0:LL) (x7 x8:Int) (h0_0:V):Zl Q (m0+1) x0 x7 x8 h0_0=Zcy Q m0 x0 x7 x8 h0_0:=by kernel_rfl
theorem Zb0 (Q:QD) (x0:LL) (n:Nat) (hb:n≤big) (J:Nat→V→Prop)
  (step:∀ (k:Nat) (h0_0:V),k<n→J k h0_0→∀ K:V→Prop,(∀ (h0_0':V),J (k+1) h0_0'→K h0_0')→(0≤(k:Int)∧(k:Int)<x0.length∧cl ZL [.agg [.v .str (((x0.getD k []).drop 0).headD V.none),.v .bool ((((x0.getD k []).drop 0).tail).headD V.none),.v (.sl Zb) (((((x0.getD k []).drop 0).tail).tail).headD V.none),.v .str ((((((x0.getD k []).drop 0).tail).tail).tail).headD V.none),.v .bool (((((((x0.getD k []).drop 0).tail).tail).tail).tail).headD V.none),.v (.sl Zb) ((((((((x0.getD k []).drop 0).tail).tail).tail).tail).tail).headD V.none)],.ptr (.own 0) 0] [.cells [.v (.sl Zc) (h0_0)]] fun r1 H2=>r1=(.v .bool (r1.V))∧H2=[.cells [.v (.sl Zc) ((((H2.headD .dead).cs).headD .undef).V)]]∧iff r1.V.bool (True∧Q (.v (.int .i64) (V.i (k:Int))) [.cells [.v (.sl Zc) ((((H2.headD .dead).cs).headD .undef).V)]]) (K ((((H2.headD .dead).cs).headD .undef).V))))
  (last:∀ (h0_0:V),J n h0_0→(True∧Q (.v (.int .i64) (V.i (-1))) [.cells [.v (.sl Zc) (h0_0)]]))
  (k:Nat) (h0_0:V) (le0:k≤n) (hj:J k h0_0):∃ m0,Zl Q m0 x0 (n:Int) ((k:Int)) h0_0:=by
 exact rangeG1 n hb J (fun m0 i h0_0=>Zl Q m0 x0 (n:Int) i h0_0) (fun m0 i h0_0=>Zb8 Q m0 x0 (n:Int) i h0_0) (fun k h0_0 hl_ hj_ m_ ih_=>step k h0_0 hl_ hj_ _ ih_) last k h0_0 le0 hj
def Zc1 (a0 h0_0:LL) (Q:QD):Prop :=
 (a0.length≤big→∃ m0,Zl Q m0 a0 ((a0.length:Int)) 0 (V.l h0_0))
theorem Zdf (a0 h0_0:LL) (Q:QD) (h:Zc1 a0 h0_0 Q):cl ZG [.v (.sl Zd) (V.l a0),.fn ZL [.ptr (.own 0) 0]] [.cells [.v (.sl Zc) (V.l h0_0)]] Q :=
 acalls2 (E:=Zo) (envOk _ _ _ _ _) 0 Tryz.func184 (by kernel_rfl) h
def Zcd:Env:=envA [(2,(.undef 0)::(.undef 2)::ua 4 2 (ua 9 9 ([.dead 4,.dead 13])))] [] [] [] []
def Zlu (Q:QD):Post:=blockK 0 (seqJ Zcd (fnAt [1,1] Tryz.f33) (endK Zcd Tryz.f33 Q))
@[irreducible] def ZbP (Q:QD) (m0:Nat) (x6:LL) (x7 x8:Int):Prop :=
 iter (adj (Zcd.adj 2)) (evCode Zcd (fnAt [1,0,1,0,0] Tryz.f33)) (Zlu Q) m0 ⟨.undef::.skip::.undef::.skip::un 2 ((.v (.sl Zb) (V.l x6))::(.v (.int .i64) (V.i x7))::(.v (.int .i64) (V.i x8))::un 9 ([])),dd 18 ([])⟩ []
def Zld (Q:QD) (m0:Nat) (x6:LL) (x7 x8:Int):Prop :=
 iff (decide (x8<x7)) (0≤x8∧x8<x6.length∧cl ZbH [.agg [.v .str (((x6.getD x8.toNat []).drop 0).headD V.none),.v .bool ((((x6.getD x8.toNat []).drop 0).tail).headD V.none),.v (.sl Zb) (((((x6.getD x8.toNat []).drop 0).tail).tail).headD V.none)]] [] fun r1 H2=>r1=(.v (.int .i64) (r1.V))∧H2=[]∧iff (r1.V.int != (0:Int)) (True∧Q (.v (.int .i64) (r1.V)) []) (ZbP Q m0 x6 x7 (IntKind.i64.wrap (x8+(1:Int))))) (True∧Q (.v (.int .i64) (V.i 0)) [])
theorem ZjF (Q:QD) (m0:Nat) (x6:LL) (x7 x8:Int):ZbP Q (m0+1) x6 x7 x8=Zld Q m0 x6 x7 x8:=by kernel_rfl
theorem ZiG (Q:QD) (x6:LL) (n:Nat) (hb:n≤big) (J:Nat→Prop)
  (step:∀ (k:Nat),k<n→J k→∀ K:Prop,(J (k+1)→K)→(0≤(k:Int)∧(k:Int)<x6.length∧cl ZbH [.agg [.v .str (((x6.getD k []).drop 0).headD V.none),.v .bool ((((x6.getD k []).drop 0).tail).headD V.none),.v (.sl Zb) (((((x6.getD k []).drop 0).tail).tail).headD V.none)]] [] fun r1 H2=>r1=(.v (.int .i64) (r1.V))∧H2=[]∧iff (r1.V.int != (0:Int)) (True∧Q (.v (.int .i64) (r1.V)) []) (K)))
  (last:J n→(True∧Q (.v (.int .i64) (V.i 0)) []))
  (k:Nat) (le0:k≤n) (hj:J k):∃ m0,ZbP Q m0 x6 (n:Int) ((k:Int)):=by
 exact rangeG0 n hb J (fun m0 i=>ZbP Q m0 x6 (n:Int) i) (fun m0 i=>ZjF Q m0 x6 (n:Int) i) (fun k hl_ hj_ m_ ih_=>step k hl_ hj_ _ ih_) last k le0 hj
def Zn1 (a0:LL) (Q:QD):Prop :=
 (a0.length≤big→∃ m0,ZbP Q m0 a0 ((a0.length:Int)) 0)
theorem ZoI (a0:LL) (Q:QD) (h:Zn1 a0 Q):cl Zfj [.v (.sl Zb) (V.l a0)] [] Q :=
 acalls2 (E:=Zcd) (envOk _ _ _ _ _) 0 Tryz.func33 (by kernel_rfl) h
def ZaV:Env:=envA [(4,ua 0 3 (ua 4 10 (ua 17 7 ([.dead 1,.dead 4,.dead 21])))),(3000003,(.undef 0)::(.undef 2)::ua 5 8 ([.dead 11]))] [] [] [] [3]
def Zlk (Q:QD):Post:=blockK 0 (seqJ ZaV (fnAt [1,1,1] Tryz.f189) (endK ZaV Tryz.f189 Q))
@[irreducible] def ZbO (Q:QD) (m0:Nat) (x14:LL) (x15 x16:Int):Prop :=
 iter (adj (ZaV.adj 4)) (evCode ZaV (fnAt [1,1,0,1,0,0] Tryz.f189)) (Zlk Q) m0 ⟨un 3 (.skip::un 10 ((.v (.sl Zb) (V.l x14))::(.v (.int .i64) (V.i x15))::(.v (.int .i64) (V.i x16))::un 7 ([]))),dd 24 ([])⟩ []
@[irreducible] def Zdw (Q:QD) (y1_0:ByteArray) (y1_1:Bool) (y1_2:LL):Prop :=
 joinM (evCode ZaV (fnAt [1,1] Tryz.f189)) ⟨.undef::(.ptr (.loc 1) 0)::.undef::sk 2 (un 8 (sk 11 ([]))),.dead::(.cells [.v .str (V.s y1_0),.v .bool (V.b y1_1),.v (.sl Zb) (V.l y1_2)])::dd 22 ([])⟩ [] (endK ZaV Tryz.f189 Q)
def Zk8 (Q:QD) (m0:Nat) (x14:LL) (x15 x16:Int):Prop :=
 iff (decide (x16<x15)) (0≤x16∧x16<x14.length∧cl Zcu [.agg [.v .str (((x14.getD x16.toNat []).drop 0).headD V.none),.v .bool ((((x14.getD x16.toNat []).drop 0).tail).headD V.none),.v (.sl Zb) (((((x14.getD x16.toNat []).drop 0).tail).tail).headD V.none)]] [] fun r1 H2=>r1=(.v .bool (r1.V))∧H2=[]∧iff (!r1.V.bool) (True∧Q (.v .bool (V.b false)) []) (ZbO Q m0 x14 x15 (IntKind.i64.wrap (x16+(1:Int))))) (True∧Q (.v .bool (V.b true)) [])
theorem ZjK (Q:QD) (m0:Nat) (x14:LL) (x15 x16:Int):ZbO Q (m0+1) x14 x15 x16=Zk8 Q m0 x14 x15 x16:=by kernel_rfl
theorem ZiI (Q:QD) (x14:LL) (n:Nat) (hb:n≤big) (J:Nat→Prop)
  (step:∀ (k:Nat),k<n→J k→∀ K:Prop,(J (k+1)→K)→(0≤(k:Int)∧(k:Int)<x14.length∧cl Zcu [.agg [.v .str (((x14.getD k []).drop 0).headD V.none),.v .bool ((((x14.getD k []).drop 0).tail).headD V.none),.v (.sl Zb) (((((x14.getD k []).drop 0).tail).tail).headD V.none)]] [] fun r1 H2=>r1=(.v .bool (r1.V))∧H2=[]∧iff (!r1.V.bool) (True∧Q (.v .bool (V.b false)) []) (K)))
  (last:J n→(True∧Q (.v .bool (V.b true)) []))
  (k:Nat) (le0:k≤n) (hj:J k):∃ m0,ZbO Q m0 x14 (n:Int) ((k:Int)):=by
 exact rangeG0 n hb J (fun m0 i=>ZbO Q m0 x14 (n:Int) i) (fun m0 i=>ZjK Q m0 x14 (n:Int) i) (fun k hl_ hj_ m_ ih_=>step k hl_ hj_ _ ih_) last k le0 hj
def Zl5 (Q:QD) (y1_0:ByteArray) (y1_1:Bool) (y1_2:LL):Prop :=
 (y1_2.length≤big→∃ m0,ZbO Q m0 y1_2 ((y1_2.length:Int)) 0)
theorem Zjv (Q:QD) (y1_0:ByteArray) (y1_1:Bool) (y1_2:LL):Zdw Q y1_0 y1_1 y1_2=Zl5 Q y1_0 y1_1 y1_2:=by kernel_rfl
def ZhM (a0_0:ByteArray) (a0_1:Bool) (a0_2:LL) (Q:QD):Prop :=
 iff (!a0_1) (cl ZcO [.v .str (V.s a0_0)] [] fun r1 H2=>r1=(.v .bool (r1.V))∧H2=[]∧iff r1.V.bool (True∧Q (.v .bool (V.b false)) []) (Zdw Q a0_0 a0_1 a0_2)) (Zdw Q a0_0 a0_1 a0_2)
theorem Zop (a0_0:ByteArray) (a0_1:Bool) (a0_2:LL) (Q:QD) (h:ZhM a0_0 a0_1 a0_2 Q):cl Zcu [.agg [.v .str (V.s a0_0),.v .bool (V.b a0_1),.v (.sl Zb) (V.l a0_2)]] [] Q :=
 acalls2 (E:=ZaV) (envOk _ _ _ _ _) 0 Tryz.func189 (by kernel_rfl) h
def Zfv:Env:=envA [(3,(.undef 0)::(.undef 2)::(.undef 5)::ua 9 7 ([.dead 5,.dead 14,.plainT 3 Za]))] [] [] [] []
def Zps (Q:QD):Post:=blockK 0 (seqJ Zfv (fnAt [1,1,1] Tryz.f154) (endK Zfv Tryz.f154 Q))
@[irreducible] def ZeB (Q:QD) (m0:Nat) (x3:V) (x6:LL) (x7 x8:Int):Prop :=
 iter (adj (Zfv.adj 3)) (evCode Zfv (fnAt [1,1,0,1,0,0] Tryz.f154)) (Zps Q) m0 ⟨.undef::.skip::.undef::(.v (.sl Za) (x3))::.skip::.undef::(.v (.sl Zb) (V.l x6))::(.v (.int .i64) (V.i x7))::(.v (.int .i64) (V.i x8))::un 7 ([.skip]),dd 17 ([])⟩ []
def ZpC (Q:QD) (m0:Nat) (x3:V) (x6:LL) (x7 x8:Int):Prop :=
 iff (decide (x8<x7)) (0≤x8∧x8<x6.length∧cl Zdi [.agg [.v .str (((x6.getD x8.toNat []).drop 0).headD V.none),.v .bool ((((x6.getD x8.toNat []).drop 0).tail).headD V.none),.v (.sl Zb) (((((x6.getD x8.toNat []).drop 0).tail).tail).headD V.none)],.v (.sl Za) (x3)] [] fun r1 H2=>r1=(.v (.sl Za) (r1.V))∧H2=[]∧ZeB Q m0 r1.V x6 x7 (IntKind.i64.wrap (x8+(1:Int)))) (True∧Q (.v (.sl Za) (x3)) [])
theorem ZnW (Q:QD) (m0:Nat) (x3:V) (x6:LL) (x7 x8:Int):ZeB Q (m0+1) x3 x6 x7 x8=ZpC Q m0 x3 x6 x7 x8:=by kernel_rfl
theorem Zms (Q:QD) (x6:LL) (n:Nat) (hb:n≤big) (J:Nat→V→Prop)
  (step:∀ (k:Nat) (x3:V),k<n→J k x3→∀ K:V→Prop,(∀ (x3':V),J (k+1) x3'→K x3')→(0≤(k:Int)∧(k:Int)<x6.length∧cl Zdi [.agg [.v .str (((x6.getD k []).drop 0).headD V.none),.v .bool ((((x6.getD k []).drop 0).tail).headD V.none),.v (.sl Zb) (((((x6.getD k []).drop 0).tail).tail).headD V.none)],.v (.sl Za) (x3)] [] fun r1 H2=>r1=(.v (.sl Za) (r1.V))∧H2=[]∧K r1.V))
  (last:∀ (x3:V),J n x3→(True∧Q (.v (.sl Za) (x3)) []))
  (k:Nat) (x3:V) (le0:k≤n) (hj:J k x3):∃ m0,ZeB Q m0 x3 x6 (n:Int) ((k:Int)):=by
 exact rangeG1 n hb J (fun m0 i x3=>ZeB Q m0 x3 x6 (n:Int) i) (fun m0 i x3=>ZnW Q m0 x3 x6 (n:Int) i) (fun k x3 hl_ hj_ m_ ih_=>step k x3 hl_ hj_ _ ih_) last k x3 le0 hj
def Zq3 (a0:LL) (Q:QD):Prop :=
 (a0.length≤big→∃ m0,ZeB Q m0 (V.l ([])) a0 ((a0.length:Int)) 0)
theorem Zrh (a0:LL) (Q:QD) (h:Zq3 a0 Q):cl Zlq [.v (.sl Zb) (V.l a0)] [] Q :=
 acalls2 (E:=Zfv) (envOk _ _ _ _ _) 0 Tryz.func154 (by kernel_rfl) h
def Zb5:Env:=envA [(5,(.undef 0)::(.undef 2)::(.undef 4)::ua 7 10 (ua 20 9 ([.dead 2,.dead 7,.dead 26]))),(3000004,(.undef 0)::(.undef 4)::ua 8 8 ([]))] [] [] [] [4]
def Zo9 (Q:QD):Post:=blockK 0 (seqJ Zb5 (fnAt [1,1,1,1] Tryz.f190) (endK Zb5 Tryz.f190 Q))
@[irreducible] def Zd6 (Q:QD) (m0:Nat) (x1:ByteArray) (x5:Int) (x17:LL) (x18 x19:Int):Prop :=
 iter (adj (Zb5.adj 5)) (evCode Zb5 (fnAt [1,1,1,0,1,0,0] Tryz.f190)) (Zo9 Q) m0 ⟨.undef::(.v .str (V.s x1))::.undef::.skip::.undef::(.v (.int .i64) (V.i x5))::.skip::un 10 ((.v (.sl Zb) (V.l x17))::(.v (.int .i64) (V.i x18))::(.v (.int .i64) (V.i x19))::un 9 ([.skip])),dd 30 ([])⟩ []
@[irreducible] def ZdW (Q:QD) (x1:ByteArray) (x5:Int) (y2_0:ByteArray) (y2_1:Bool) (y2_2:LL):Prop :=
 joinM (evCode Zb5 (fnAt [1,1,1] Tryz.f190)) ⟨.undef::(.v .str (V.s x1))::(.ptr (.loc 2) 0)::.skip::.undef::(.v (.int .i64) (V.i x5))::sk 2 (un 8 (sk 14 ([]))),dd 2 ((.cells [.v .str (V.s y2_0),.v .bool (V.b y2_1),.v (.sl Zb) (V.l y2_2)])::dd 27 ([]))⟩ [] (endK Zb5 Tryz.f190 Q)
def ZoO (Q:QD) (m0:Nat) (x1:ByteArray) (x5:Int) (x17:LL) (x18 x19:Int):Prop :=
 iff (decide (x19<x18)) (0≤x19∧x19<x17.length∧cl Zff [.agg [.v .str (((x17.getD x19.toNat []).drop 0).headD V.none),.v .bool ((((x17.getD x19.toNat []).drop 0).tail).headD V.none),.v (.sl Zb) (((((x17.getD x19.toNat []).drop 0).tail).tail).headD V.none)],.v .str (V.s x1)] [] fun r1 H2=>r1=(.v (.int .i64) (r1.V))∧H2=[]∧Zd6 Q m0 x1 (IntKind.i64.wrap (x5+r1.V.int)) x17 x18 (IntKind.i64.wrap (x19+(1:Int)))) (True∧Q (.v (.int .i64) (V.i x5)) [])
theorem ZmB (Q:QD) (m0:Nat) (x1:ByteArray) (x5:Int) (x17:LL) (x18 x19:Int):Zd6 Q (m0+1) x1 x5 x17 x18 x19=ZoO Q m0 x1 x5 x17 x18 x19:=by kernel_rfl
theorem Zl7 (Q:QD) (x1:ByteArray) (x17:LL) (n:Nat) (hb:n≤big) (J:Nat→Int→Prop)
  (step:∀ (k:Nat) (x5:Int),k<n→J k x5→∀ K:Int→Prop,(∀ (x5':Int),J (k+1) x5'→K x5')→(0≤(k:Int)∧(k:Int)<x17.length∧cl Zff [.agg [.v .str (((x17.getD k []).drop 0).headD V.none),.v .bool ((((x17.getD k []).drop 0).tail).headD V.none),.v (.sl Zb) (((((x17.getD k []).drop 0).tail).tail).headD V.none)],.v .str (V.s x1)] [] fun r1 H2=>r1=(.v (.int .i64) (r1.V))∧H2=[]∧K (IntKind.i64.wrap (x5+r1.V.int))))
  (last:∀ (x5:Int),J n x5→(True∧Q (.v (.int .i64) (V.i x5)) []))
  (k:Nat) (x5:Int) (le0:k≤n) (hj:J k x5):∃ m0,Zd6 Q m0 x1 x5 x17 (n:Int) ((k:Int)):=by
 exact rangeG1 n hb J (fun m0 i x5=>Zd6 Q m0 x1 x5 x17 (n:Int) i) (fun m0 i x5=>ZmB Q m0 x1 x5 x17 (n:Int) i) (fun k x5 hl_ hj_ m_ ih_=>step k x5 hl_ hj_ _ ih_) last k x5 le0 hj
def Zi0 (Q:QD) (x1:ByteArray) (x5:Int) (y2_0:ByteArray) (y2_1:Bool) (y2_2:LL):Prop :=
 (y2_2.length≤big→∃ m0,Zd6 Q m0 x1 x5 y2_2 ((y2_2.length:Int)) 0)
theorem Zmq (Q:QD) (x1:ByteArray) (x5:Int) (y2_0:ByteArray) (y2_1:Bool) (y2_2:LL):ZdW Q x1 x5 y2_0 y2_1 y2_2=Zi0 Q x1 x5 y2_0 y2_1 y2_2:=by kernel_rfl
def Zmb (a0_0:ByteArray) (a0_1:Bool) (a0_2:LL) (a1:ByteArray) (Q:QD):Prop :=
 iff a0_1 (iff (a0_0.toList == a1.toList) (ZdW Q a1 1 a0_0 a0_1 a0_2) (ZdW Q a1 0 a0_0 a0_1 a0_2)) (ZdW Q a1 0 a0_0 a0_1 a0_2)
theorem ZqO (a0_0:ByteArray) (a0_1:Bool) (a0_2:LL) (a1:ByteArray) (Q:QD) (h:Zmb a0_0 a0_1 a0_2 a1 Q):cl Zff [.agg [.v .str (V.s a0_0),.v .bool (V.b a0_1),.v (.sl Zb) (V.l a0_2)],.v .str (V.s a1)] [] Q :=
 acalls2 (E:=Zb5) (envOk _ _ _ _ _) 0 Tryz.func190 (by kernel_rfl) h
def Zgn:Env:=envA [] [] [] [] []
def Zd3 (a0 a1:ByteArray) (Q:QD):Prop :=
 cl Za8 [.v .str (V.s a0),.v .str (V.s a1)] [] fun r1 H2=>r1=(.v .bool (r1.V))∧H2=[]∧iff r1.V.bool ((a0.size≤big→(a1.size≤big→0≤(0:Int)∧(0:Int)≤(IntKind.i64.wrap (((a0.size:Int)) - ((a1.size:Int))))∧(IntKind.i64.wrap (((a0.size:Int)) - ((a1.size:Int))))≤a0.size∧True∧Q (.v .str (V.s (a0.extract (0:Int).toNat ((IntKind.i64.wrap (((a0.size:Int)) - ((a1.size:Int))))).toNat))) []))) (True∧Q (.v .str (V.s a0)) [])
theorem ZgW (a0 a1:ByteArray) (Q:QD) (h:Zd3 a0 a1 Q):cl ZbZ [.v .str (V.s a0),.v .str (V.s a1)] [] Q :=
 acalls2 (E:=Zgn) (envOk _ _ _ _ _) 0 Tryz.func219 (by kernel_rfl) h
def ZC:Env:=envA [(2,ua 4 3 (ua 9 10 ([.dead 16])))] [] [] [] []
def Zdb (Q:QD):Post:=blockK 0 (seqJ ZC (fnAt [1,1] Tryz.f220) (endK ZC Tryz.f220 Q))
@[irreducible] def Zu (Q:QD) (m0:Nat) (x0:LL) (x7 x8:Int):Prop :=
 iter (adj (ZC.adj 2)) (evCode ZC (fnAt [1,0,1,0,0] Tryz.f220)) (Zdb Q) m0 ⟨(.v (.sl Zi7) (V.l x0))::(.fn Z5 [])::sk 2 (un 3 ((.v (.int .i64) (V.i x7))::(.v (.int .i64) (V.i x8))::un 10 ([]))),dd 19 ([])⟩ []
def Zdu (Q:QD) (m0:Nat) (x0:LL) (x7 x8:Int):Prop :=
 iff (decide (x8<x7)) (0≤x8∧x8<x0.length∧cl Z5 [.v (.int .u8) (((x0.getD x8.toNat []).drop 0).headD V.none)] [] fun r1 H2=>r1=(.v .bool (r1.V))∧H2=[]∧iff r1.V.bool (True∧Q (.v (.int .i64) (V.i x8)) []) (Zu Q m0 x0 x7 (IntKind.i64.wrap (x8+(1:Int))))) (True∧Q (.v (.int .i64) (V.i (-1))) [])
theorem ZcF (Q:QD) (m0:Nat) (x0:LL) (x7 x8:Int):Zu Q (m0+1) x0 x7 x8=Zdu Q m0 x0 x7 x8:=by kernel_rfl
theorem Zcx (Q:QD) (x0:LL) (n:Nat) (hb:n≤big) (J:Nat→Prop)
  (step:∀ (k:Nat),k<n→J k→∀ K:Prop,(J (k+1)→K)→(0≤(k:Int)∧(k:Int)<x0.length∧cl Z5 [.v (.int .u8) (((x0.getD k []).drop 0).headD V.none)] [] fun r1 H2=>r1=(.v .bool (r1.V))∧H2=[]∧iff r1.V.bool (True∧Q (.v (.int .i64) (V.i (k:Int))) []) (K)))
  (last:J n→(True∧Q (.v (.int .i64) (V.i (-1))) []))
  (k:Nat) (le0:k≤n) (hj:J k):∃ m0,Zu Q m0 x0 (n:Int) ((k:Int)):=by
 exact rangeG0 n hb J (fun m0 i=>Zu Q m0 x0 (n:Int) i) (fun m0 i=>ZcF Q m0 x0 (n:Int) i) (fun k hl_ hj_ m_ ih_=>step k hl_ hj_ _ ih_) last k le0 hj
def ZdI (a0:LL) (Q:QD):Prop :=
 (a0.length≤big→∃ m0,Zu Q m0 a0 ((a0.length:Int)) 0)
theorem Zem (a0:LL) (Q:QD) (h:ZdI a0 Q):cl Zb3 [.v (.sl Zi7) (V.l a0),.fn Z5 []] [] Q :=
 acalls2 (E:=ZC) (envOk _ _ _ _ _) 0 Tryz.func220 (by kernel_rfl) h
def Zz:Env:=envA [(2,ua 4 3 (ua 9 10 ([.dead 16])))] [] [] [] []
def Zdv (Q:QD):Post:=blockK 0 (seqJ Zz (fnAt [1,1] Tryz.f221) (endK Zz Tryz.f221 Q))
@[irreducible] def Zx (Q:QD) (m0:Nat) (x0:LL) (x7 x8:Int):Prop :=
 iter (adj (Zz.adj 2)) (evCode Zz (fnAt [1,0,1,0,0] Tryz.f221)) (Zdv Q) m0 ⟨(.v (.sl Zb) (V.l x0))::(.fn ZZ [])::sk 2 (un 3 ((.v (.int .i64) (V.i x7))::(.v (.int .i64) (V.i x8))::un 10 ([]))),dd 19 ([])⟩ []
def Zdd (Q:QD) (m0:Nat) (x0:LL) (x7 x8:Int):Prop :=
 iff (decide (x8<x7)) (0≤x8∧x8<x0.length∧cl ZZ [.agg [.v .str (((x0.getD x8.toNat []).drop 0).headD V.none),.v .bool ((((x0.getD x8.toNat []).drop 0).tail).headD V.none),.v (.sl Zb) (((((x0.getD x8.toNat []).drop 0).tail).tail).headD V.none)]] [] fun r1 H2=>r1=(.v .bool (r1.V))∧H2=[]∧iff r1.V.bool (True∧Q (.v (.int .i64) (V.i x8)) []) (Zx Q m0 x0 x7 (IntKind.i64.wrap (x8+(1:Int))))) (True∧Q (.v (.int .i64) (V.i (-1))) [])
theorem ZcJ (Q:QD) (m0:Nat) (x0:LL) (x7 x8:Int):Zx Q (m0+1) x0 x7 x8=Zdd Q m0 x0 x7 x8:=by kernel_rfl
theorem ZcA (Q:QD) (x0:LL) (n:Nat) (hb:n≤big) (J:Nat→Prop)
  (step:∀ (k:Nat),k<n→J k→∀ K:Prop,(J (k+1)→K)→(0≤(k:Int)∧(k:Int)<x0.length∧cl ZZ [.agg [.v .str (((x0.getD k []).drop 0).headD V.none),.v .bool ((((x0.getD k []).drop 0).tail).headD V.none),.v (.sl Zb) (((((x0.getD k []).drop 0).tail).tail).headD V.none)]] [] fun r1 H2=>r1=(.v .bool (r1.V))∧H2=[]∧iff r1.V.bool (True∧Q (.v (.int .i64) (V.i (k:Int))) []) (K)))
  (last:J n→(True∧Q (.v (.int .i64) (V.i (-1))) []))
  (k:Nat) (le0:k≤n) (hj:J k):∃ m0,Zx Q m0 x0 (n:Int) ((k:Int)):=by
 exact rangeG0 n hb J (fun m0 i=>Zx Q m0 x0 (n:Int) i) (fun m0 i=>ZcJ Q m0 x0 (n:Int) i) (fun k hl_ hj_ m_ ih_=>step k hl_ hj_ _ ih_) last k le0 hj
def ZdV (a0:LL) (Q:QD):Prop :=
 (a0.length≤big→∃ m0,Zx Q m0 a0 ((a0.length:Int)) 0)
theorem Zee (a0:LL) (Q:QD) (h:ZdV a0 Q):cl Zb1 [.v (.sl Zb) (V.l a0),.fn ZZ []] [] Q :=
 acalls2 (E:=Zz) (envOk _ _ _ _ _) 0 Tryz.func221 (by kernel_rfl) h
def ZnY:Env:=envA [] [] [] [] []
def Zi2 (a0_0:ByteArray) (a0_1:Int) (a0_2:LL) (a1:ByteArray) (Q:QD):Prop :=
 cl Zfc [.v .str (V.s a0_0),.v .str (V.s a1)] [] fun r1 H2=>r1=(.v (.int .i64) (r1.V))∧H2=[]∧True∧Q (.v (.int .i64) (r1.V)) []
theorem Zqd (a0_0:ByteArray) (a0_1:Int) (a0_2:LL) (a1:ByteArray) (Q:QD) (h:Zi2 a0_0 a0_1 a0_2 a1 Q):cl ZbF [.agg [.v .str (V.s a0_0),.v (.int .i64) (V.i a0_1),.v (.sl ZU) (V.l a0_2)],.v .str (V.s a1)] [] Q :=
 acalls2 (E:=ZnY) (envOk _ _ _ _ _) 0 Tryz.func174 (by kernel_rfl) h
def Zp4:Env:=envA [] [] [] [] []
def Zme (a0:Int) (Q:QD):Prop :=
 iff (a0 == (32:Int)) (True∧Q (.v .bool (V.b true)) []) (iff (a0 == (9:Int)) (True∧Q (.v .bool (V.b true)) []) (iff (a0 == (13:Int)) (True∧Q (.v .bool (V.b true)) []) (True∧Q (.v .bool (V.b (a0 == (10:Int)))) [])))
theorem Zq6 (a0:Int) (Q:QD) (h:Zme a0 Q):cl Zi9 [.v (.int .u8) (V.i a0)] [] Q :=
 acalls2 (E:=Zp4) (envOk _ _ _ _ _) 0 Tryz.func223 (by kernel_rfl) h
def ZqH:Env:=envA [] [] [] [] []
def Zoi (a0:Int) (Q:QD):Prop :=
 cl ZfO [.v .str (V.s (strV ([[V.i a0]])))] [] fun r1 H2=>r1=(.v .bool (r1.V))∧H2=[]∧iff r1.V.bool (True∧Q (.v .bool (V.b true)) []) (True∧Q (.v .bool (V.b (a0 == (35:Int)))) [])
theorem Zri (a0:Int) (Q:QD) (h:Zoi a0 Q):cl Zio [.v (.int .u8) (V.i a0)] [] Q :=
 acalls2 (E:=ZqH) (envOk _ _ _ _ _) 0 Tryz.func224 (by kernel_rfl) h
def ZQ:Env:=envA [(6,(.undef 0)::ua 4 2 (ua 11 2 (ua 14 3 (ua 18 17 ([.dead 20,.dead 30]))))),(13,(.undef 0)::(.undef 2)::ua 4 3 (ua 8 5 (ua 14 3 (ua 18 57 ((.undef 76)::ua 80 14 ([.dead 2,.dead 8,.dead 86])))))),(3000009,(.undef 0)::ua 4 2 (ua 11 2 (ua 14 3 (ua 18 30 ([.dead 37]))))),(3000010,(.undef 0)::ua 4 2 (ua 11 2 (ua 14 3 (ua 18 48 ((.dead 37)::(.dead 49)::(.dead 53)::(.dead 58)::da 60 2 ([.dead 65]))))))] [(6,12,[],[]),(8,12,[],[]),(9,16,[],[]),(10,8,[],[])] [49] [(5000001,[⟨0,0,0⟩])] [9,10]
def ZmS (Q:QD):Post:=blockK 0 (seqJ ZQ (fnAt [1,1,1,1,1] Tryz.f225) (endK ZQ Tryz.f225 Q))
def ZmF (Q:QD):Post:=blockK 2 (seqJ ZQ (fnAt [1,1,1,1,1,1,1,1] Tryz.f225) (endK ZQ Tryz.f225 Q))
@[irreducible] def Zbs (Q:QD) (m1:Nat) (x1:V) (x77:LL) (x78 x79:Int):Prop :=
 iter (adj (ZQ.adj 13)) (evCode ZQ (fnAt [1,1,1,1,1,1,1,0,1,0,0] Tryz.f225)) (ZmF Q) m1 ⟨.undef::(.v (.sl Ze) (x1))::.undef::.skip::un 3 (.skip::un 5 (.skip::un 3 (.skip::un 57 (.skip::.undef::(.v (.sl Zb) (V.l x77))::(.v (.int .i64) (V.i x78))::(.v (.int .i64) (V.i x79))::un 14 ([.skip]))))),dd 95 ([])⟩ []
@[irreducible] def Zec (Q:QD) (x1:LL) (x6:Int) (y2_0:ByteArray) (y2_1:Bool) (y2_2:LL):Prop :=
 joinM (evCode ZQ (fnAt [1,1,1,1,1,1] Tryz.f225)) ⟨.undef::(.v (.sl Ze) (V.l x1))::(.ptr (.loc 2) 0)::.skip::un 2 ((.v (.int .i64) (V.i x6))::sk 4 (un 2 (.skip::un 3 (.skip::un 48 (sk 29 ([])))))),dd 2 ((.cells [.v .str (V.s y2_0),.v .bool (V.b y2_1),.v (.sl Zb) (V.l y2_2)])::dd 92 ([]))⟩ [] (endK ZQ Tryz.f225 Q)
@[irreducible] def Zav (Q:QD) (x1:LL) (x6:Int) (x48:Bool) (y2_0:ByteArray) (y2_1:Bool) (y2_2:LL):Prop :=
 joinM (evCode ZQ (fnAt [1,1,1,1,1,0,1] Tryz.f225)) ⟨.undef::(.v (.sl Ze) (V.l x1))::(.ptr (.loc 2) 0)::.skip::un 2 ((.v (.int .i64) (V.i x6))::sk 4 (un 2 (.skip::un 3 (.skip::un 30 ((.v .bool (V.b x48))::sk 46 ([])))))),dd 2 ((.cells [.v .str (V.s y2_0),.v .bool (V.b y2_1),.v (.sl Zb) (V.l y2_2)])::dd 92 ([]))⟩ [] (seqJ ZQ (fnAt [1,1,1,1,1,1] Tryz.f225) (endK ZQ Tryz.f225 Q))
@[irreducible] def Zea (Q:QD) (m0:Nat) (x1:LL) (x6:Int) (y2_0:ByteArray) (y2_1:Bool) (y2_2:LL):Prop :=
 iter (adj (ZQ.adj 6)) (evCode ZQ (fnAt [1,1,1,1,0,0,0] Tryz.f225)) (ZmS Q) m0 ⟨.undef::(.v (.sl Ze) (V.l x1))::(.ptr (.loc 2) 0)::.skip::un 2 ((.v (.int .i64) (V.i x6))::sk 4 (un 2 (.skip::un 3 (.skip::un 17 (sk 60 ([])))))),dd 2 ((.cells [.v .str (V.s y2_0),.v .bool (V.b y2_1),.v (.sl Zb) (V.l y2_2)])::dd 92 ([]))⟩ []
def Zng (Q:QD) (m1:Nat) (x1:V) (x77:LL) (x78 x79:Int):Prop :=
 iff (decide (x79<x78)) (0≤x79∧x79<x77.length∧cl Zdq [.agg [.v .str (((x77.getD x79.toNat []).drop 0).headD V.none),.v .bool ((((x77.getD x79.toNat []).drop 0).tail).headD V.none),.v (.sl Zb) (((((x77.getD x79.toNat []).drop 0).tail).tail).headD V.none)],.v (.sl Ze) (x1)] [] fun r1 H2=>r1=(.tup [.v (.sl Ze) ((r1.parts.headD .undef).V),.v .bool ((r1.parts.tail.headD .undef).V)])∧H2=[]∧iff (!(((r1.parts.tail.headD .undef).V).bool)) ((True∧True∧True)∧Q (.tup [.v (.sl Ze) (x1),.v .bool (V.b false)]) []) (Zbs Q m1 ((r1.parts.headD .undef).V) x77 x78 (IntKind.i64.wrap (x79+(1:Int))))) ((True∧True∧True)∧Q (.tup [.v (.sl Ze) (x1),.v .bool (V.b true)]) [])
theorem Zj5 (Q:QD) (m1:Nat) (x1:V) (x77:LL) (x78 x79:Int):Zbs Q (m1+1) x1 x77 x78 x79=Zng Q m1 x1 x77 x78 x79:=by kernel_rfl
theorem Zjw (Q:QD) (x77:LL) (n:Nat) (hb:n≤big) (J:Nat→V→Prop)
  (step:∀ (k:Nat) (x1:V),k<n→J k x1→∀ K:V→Prop,(∀ (x1':V),J (k+1) x1'→K x1')→(0≤(k:Int)∧(k:Int)<x77.length∧cl Zdq [.agg [.v .str (((x77.getD k []).drop 0).headD V.none),.v .bool ((((x77.getD k []).drop 0).tail).headD V.none),.v (.sl Zb) (((((x77.getD k []).drop 0).tail).tail).headD V.none)],.v (.sl Ze) (x1)] [] fun r1 H2=>r1=(.tup [.v (.sl Ze) ((r1.parts.headD .undef).V),.v .bool ((r1.parts.tail.headD .undef).V)])∧H2=[]∧iff (!(((r1.parts.tail.headD .undef).V).bool)) ((True∧True∧True)∧Q (.tup [.v (.sl Ze) (x1),.v .bool (V.b false)]) []) (K ((r1.parts.headD .undef).V))))
  (last:∀ (x1:V),J n x1→((True∧True∧True)∧Q (.tup [.v (.sl Ze) (x1),.v .bool (V.b true)]) []))
  (k:Nat) (x1:V) (le0:k≤n) (hj:J k x1):∃ m1,Zbs Q m1 x1 x77 (n:Int) ((k:Int)):=by
 exact rangeG1 n hb J (fun m1 i x1=>Zbs Q m1 x1 x77 (n:Int) i) (fun m1 i x1=>Zj5 Q m1 x1 x77 (n:Int) i) (fun k x1 hl_ hj_ m_ ih_=>step k x1 hl_ hj_ _ ih_) last k x1 le0 hj
def Zfy (Q:QD) (x1:LL) (x6:Int) (y2_0:ByteArray) (y2_1:Bool) (y2_2:LL):Prop :=
 0≤x6∧x6<x1.length∧iff (((((x1.getD x6.toNat []).drop 1).headD V.none).int) != ((y2_2.length:Int))) ((True∧True∧True)∧Q (.tup [.v (.sl Ze) (V.l x1),.v .bool (V.b false)]) []) ((y2_2.length≤big→∃ m1,Zbs Q m1 (V.l x1) y2_2 ((y2_2.length:Int)) 0))
theorem Zgt (Q:QD) (x1:LL) (x6:Int) (y2_0:ByteArray) (y2_1:Bool) (y2_2:LL):Zec Q x1 x6 y2_0 y2_1 y2_2=Zfy Q x1 x6 y2_0 y2_1 y2_2:=by kernel_rfl
def Zhr (Q:QD) (x1:LL) (x6:Int) (x48:Bool) (y2_0:ByteArray) (y2_1:Bool) (y2_2:LL):Prop :=
 iff x48 (0≤(0:Int)∧(0:Int)≤x6∧x6≤x1.length∧(([]:List (List V))).length=0∧0+((x1.take x6.toNat).drop (0:Int).toNat).length≤lim∧((([]:List (List V)))++((x1.take x6.toNat).drop (0:Int).toNat)).length=0+((x1.take x6.toNat).drop (0:Int).toNat).length∧0+((x1.take x6.toNat).drop (0:Int).toNat).length+([[V.s y2_0,V.i ((y2_2.length:Int))]]).length≤lim∧0≤x6∧x6≤(x1.length:Int)∧(x1.length:Int)≤x1.length∧(((([]:List (List V)))++((x1.take x6.toNat).drop (0:Int).toNat))++([[V.s y2_0,V.i ((y2_2.length:Int))]])).length=0+((x1.take x6.toNat).drop (0:Int).toNat).length+([[V.s y2_0,V.i ((y2_2.length:Int))]]).length∧0+((x1.take x6.toNat).drop (0:Int).toNat).length+([[V.s y2_0,V.i ((y2_2.length:Int))]]).length+((x1.take ((x1.length:Int)).toNat).drop x6.toNat).length≤lim∧0+((x1.take x6.toNat).drop (0:Int).toNat).length+([[V.s y2_0,V.i ((y2_2.length:Int))]]).length+((x1.take ((x1.length:Int)).toNat).drop x6.toNat).length=((((([]:List (List V)))++((x1.take x6.toNat).drop (0:Int).toNat))++([[V.s y2_0,V.i ((y2_2.length:Int))]]))++((x1.take ((x1.length:Int)).toNat).drop x6.toNat)).length∧Zec Q ((((([]:List (List V)))++((x1.take x6.toNat).drop (0:Int).toNat))++([[V.s y2_0,V.i ((y2_2.length:Int))]]))++((x1.take ((x1.length:Int)).toNat).drop x6.toNat)) x6 y2_0 y2_1 y2_2) (Zec Q x1 x6 y2_0 y2_1 y2_2)
theorem ZkA (Q:QD) (x1:LL) (x6:Int) (x48:Bool) (y2_0:ByteArray) (y2_1:Bool) (y2_2:LL):Zav Q x1 x6 x48 y2_0 y2_1 y2_2=Zhr Q x1 x6 x48 y2_0 y2_1 y2_2:=by kernel_rfl
def ZfF (Q:QD) (m0:Nat) (x1:LL) (x6:Int) (y2_0:ByteArray) (y2_1:Bool) (y2_2:LL):Prop :=
 iff (decide (x6<((x1.length:Int)))) (0≤x6∧x6<x1.length∧cl ZY [.v .str (((x1.getD x6.toNat []).drop 0).headD V.none),.v .str (V.s y2_0)] [] fun r1 H2=>r1=(.v (.int .i64) (r1.V))∧H2=[]∧iff (decide (r1.V.int<(0:Int))) (Zea Q m0 x1 (IntKind.i64.wrap (x6+(1:Int))) y2_0 y2_1 y2_2) (iff (x6 == ((x1.length:Int))) (Zav Q x1 x6 true y2_0 y2_1 y2_2) (0≤x6∧x6<x1.length∧Zav Q x1 x6 (!(((((x1.getD x6.toNat []).drop 0).headD V.none).str).toList == y2_0.toList)) y2_0 y2_1 y2_2))) (iff (x6 == ((x1.length:Int))) (Zav Q x1 x6 true y2_0 y2_1 y2_2) (0≤x6∧x6<x1.length∧Zav Q x1 x6 (!(((((x1.getD x6.toNat []).drop 0).headD V.none).str).toList == y2_0.toList)) y2_0 y2_1 y2_2))
theorem ZkD (Q:QD) (m0:Nat) (x1:LL) (x6:Int) (y2_0:ByteArray) (y2_1:Bool) (y2_2:LL):Zea Q (m0+1) x1 x6 y2_0 y2_1 y2_2=ZfF Q m0 x1 x6 y2_0 y2_1 y2_2:=by kernel_rfl
theorem Zkf (Q:QD):RuleG5 (Zea Q) (ZfF Q):=ruleG5 _ _ (ZkD Q)
def ZiU (a0_0:ByteArray) (a0_1:Bool) (a0_2 a1:LL) (Q:QD):Prop :=
 iff a0_1 ((True∧True∧True)∧Q (.tup [.v (.sl Ze) (V.l a1),.v .bool (V.b true)]) []) (cl ZcO [.v .str (V.s a0_0)] [] fun r1 H2=>r1=(.v .bool (r1.V))∧H2=[]∧iff r1.V.bool ((True∧True∧True)∧Q (.tup [.v (.sl Ze) (V.l a1),.v .bool (V.b false)]) []) (∃ m0,Zea Q m0 a1 0 a0_0 a0_1 a0_2))
theorem Zp1 (a0_0:ByteArray) (a0_1:Bool) (a0_2 a1:LL) (Q:QD) (h:ZiU a0_0 a0_1 a0_2 a1 Q):cl Zdq [.agg [.v .str (V.s a0_0),.v .bool (V.b a0_1),.v (.sl Zb) (V.l a0_2)],.v (.sl Ze) (V.l a1)] [] Q :=
 acalls2 (E:=ZQ) (envOk _ _ _ _ _) 0 Tryz.func225 (by kernel_rfl) h
def ZN:Env:=envA [(2,ua 4 3 (ua 9 10 ([.dead 16])))] [] [] [] []
def Zd5 (Q:QD):Post:=blockK 0 (seqJ ZN (fnAt [1,1] Tryz.f184) (endK ZN Tryz.f184 Q))
@[irreducible] def ZI (Q:QD) (m0:Nat) (x0:LL) (x7 x8:Int):Prop :=
 iter (adj (ZN.adj 2)) (evCode ZN (fnAt [1,0,1,0,0] Tryz.f184)) (Zd5 Q) m0 ⟨(.v (.sl Zd) (V.l x0))::(.fn ZaN [])::sk 2 (un 3 ((.v (.int .i64) (V.i x7))::(.v (.int .i64) (V.i x8))::un 10 ([]))),dd 19 ([])⟩ []
def ZdY (Q:QD) (m0:Nat) (x0:LL) (x7 x8:Int):Prop :=
 iff (decide (x8<x7)) (0≤x8∧x8<x0.length∧cl ZaN [.agg [.v .str (((x0.getD x8.toNat []).drop 0).headD V.none),.v .bool ((((x0.getD x8.toNat []).drop 0).tail).headD V.none),.v (.sl Zb) (((((x0.getD x8.toNat []).drop 0).tail).tail).headD V.none),.v .str ((((((x0.getD x8.toNat []).drop 0).tail).tail).tail).headD V.none),.v .bool (((((((x0.getD x8.toNat []).drop 0).tail).tail).tail).tail).headD V.none),.v (.sl Zb) ((((((((x0.getD x8.toNat []).drop 0).tail).tail).tail).tail).tail).headD V.none)]] [] fun r1 H2=>r1=(.v .bool (r1.V))∧H2=[]∧iff r1.V.bool (True∧Q (.v (.int .i64) (V.i x8)) []) (ZI Q m0 x0 x7 (IntKind.i64.wrap (x8+(1:Int))))) (True∧Q (.v (.int .i64) (V.i (-1))) [])
theorem Zdh (Q:QD) (m0:Nat) (x0:LL) (x7 x8:Int):ZI Q (m0+1) x0 x7 x8=ZdY Q m0 x0 x7 x8:=by kernel_rfl
theorem ZcS (Q:QD) (x0:LL) (n:Nat) (hb:n≤big) (J:Nat→Prop)
  (step:∀ (k:Nat),k<n→J k→∀ K:Prop,(J (k+1)→K)→(0≤(k:Int)∧(k:Int)<x0.length∧cl ZaN [.agg [.v .str (((x0.getD k []).drop 0).headD V.none),.v .bool ((((x0.getD k []).drop 0).tail).headD V.none),.v (.sl Zb) (((((x0.getD k []).drop 0).tail).tail).headD V.none),.v .str ((((((x0.getD k []).drop 0).tail).tail).tail).headD V.none),.v .bool (((((((x0.getD k []).drop 0).tail).tail).tail).tail).headD V.none),.v (.sl Zb) ((((((((x0.getD k []).drop 0).tail).tail).tail).tail).tail).headD V.none)]] [] fun r1 H2=>r1=(.v .bool (r1.V))∧H2=[]∧iff r1.V.bool (True∧Q (.v (.int .i64) (V.i (k:Int))) []) (K)))
  (last:J n→(True∧Q (.v (.int .i64) (V.i (-1))) []))
  (k:Nat) (le0:k≤n) (hj:J k):∃ m0,ZI Q m0 x0 (n:Int) ((k:Int)):=by
 exact rangeG0 n hb J (fun m0 i=>ZI Q m0 x0 (n:Int) i) (fun m0 i=>Zdh Q m0 x0 (n:Int) i) (fun k hl_ hj_ m_ ih_=>step k hl_ hj_ _ ih_) last k le0 hj
def Zeu (a0:LL) (Q:QD):Prop :=
 (a0.length≤big→∃ m0,ZI Q m0 a0 ((a0.length:Int)) 0)
theorem ZeC (a0:LL) (Q:QD) (h:Zeu a0 Q):cl ZG [.v (.sl Zd) (V.l a0),.fn ZaN []] [] Q :=
 acalls2 (E:=ZN) (envOk _ _ _ _ _) 0 Tryz.func184 (by kernel_rfl) h
def Zh2:Env:=envA [] [] [] [] []
def ZfI (a0 a1:ByteArray) (Q:QD):Prop :=
 cl Za8 [.v .str (V.s a0),.v .str (V.s a1)] [] fun r1 H2=>r1=(.v .bool (r1.V))∧H2=[]∧True∧Q (.v .bool (r1.V)) []
theorem Zjq (a0 a1:ByteArray) (Q:QD) (h:ZfI a0 a1 Q):cl Zf6 [.v .str (V.s a0),.v .str (V.s a1)] [] Q :=
 acalls2 (E:=Zh2) (envOk _ _ _ _ _) 0 Tryz.func226 (by kernel_rfl) h
def Zli:Env:=envA [] [] [] [] []
def Zhw (a0_0:ByteArray) (a0_1:Bool) (a0_2:LL) (a0_3:ByteArray) (a0_4:Bool) (a0_5:LL) (Q:QD):Prop :=
 cl Zgs [.agg [.v .str (V.s a0_0),.v .bool (V.b a0_1),.v (.sl Zb) (V.l a0_2)]] [] fun r1 H2=>r1=(.v .bool (r1.V))∧H2=[]∧iff (!r1.V.bool) (True∧Q (.v .bool (V.b true)) []) (cl Zgs [.agg [.v .str (V.s a0_3),.v .bool (V.b a0_4),.v (.sl Zb) (V.l a0_5)]] [] fun r3 H4=>r3=(.v .bool (r3.V))∧H4=[]∧True∧Q (.v .bool (V.b (!r3.V.bool))) [])
theorem Zog (a0_0:ByteArray) (a0_1:Bool) (a0_2:LL) (a0_3:ByteArray) (a0_4:Bool) (a0_5:LL) (Q:QD) (h:Zhw a0_0 a0_1 a0_2 a0_3 a0_4 a0_5 Q):cl Z4 [.agg [.v .str (V.s a0_0),.v .bool (V.b a0_1),.v (.sl Zb) (V.l a0_2),.v .str (V.s a0_3),.v .bool (V.b a0_4),.v (.sl Zb) (V.l a0_5)]] [] Q :=
 acalls2 (E:=Zli) (envOk _ _ _ _ _) 0 Tryz.func109 (by kernel_rfl) h
def Zls:Env:=envA [] [] [] [] []
def Zhy (a0:ByteArray) (h0_0:LL) (Q:QD):Prop :=
 cl ZaO [.v (.sl Za) (V.l h0_0),.v .str (V.s a0)] [] fun r1 H2=>r1=(.v .bool (r1.V))∧H2=[]∧True∧Q (.v .bool (V.b (!r1.V.bool))) [.cells [.v (.sl Za) (V.l h0_0)]]
theorem ZnO (a0:ByteArray) (h0_0:LL) (Q:QD) (h:Zhy a0 h0_0 Q):cl ZV [.v .str (V.s a0),.ptr (.own 0) 0] [.cells [.v (.sl Za) (V.l h0_0)]] Q :=
 acalls2 (E:=Zls) (envOk _ _ _ _ _) 0 Tryz.func115 (by kernel_rfl) h
def Zip:Env:=envA [] [] [] [] []
def Zge (a0_0:ByteArray) (a0_1:Bool) (a0_2:LL) (a0_3:ByteArray) (a0_4:Bool) (a0_5 h0_0:LL) (Q:QD):Prop :=
 cl ZdU [.v (.sl Zc) (V.l h0_0),.agg [.v .str (V.s a0_0),.v .bool (V.b a0_1),.v (.sl Zb) (V.l a0_2)]] [] fun r1 H2=>r1=(.v .bool (r1.V))∧H2=[]∧iff (!r1.V.bool) (True∧Q (.v .bool (V.b true)) [.cells [.v (.sl Zc) (V.l h0_0)]]) (cl ZdU [.v (.sl Zc) (V.l h0_0),.agg [.v .str (V.s a0_3),.v .bool (V.b a0_4),.v (.sl Zb) (V.l a0_5)]] [] fun r3 H4=>r3=(.v .bool (r3.V))∧H4=[]∧True∧Q (.v .bool (V.b (!r3.V.bool))) [.cells [.v (.sl Zc) (V.l h0_0)]])
theorem ZkO (a0_0:ByteArray) (a0_1:Bool) (a0_2:LL) (a0_3:ByteArray) (a0_4:Bool) (a0_5 h0_0:LL) (Q:QD) (h:Zge a0_0 a0_1 a0_2 a0_3 a0_4 a0_5 h0_0 Q):cl ZL [.agg [.v .str (V.s a0_0),.v .bool (V.b a0_1),.v (.sl Zb) (V.l a0_2),.v .str (V.s a0_3),.v .bool (V.b a0_4),.v (.sl Zb) (V.l a0_5)],.ptr (.own 0) 0] [.cells [.v (.sl Zc) (V.l h0_0)]] Q :=
 acalls2 (E:=Zip) (envOk _ _ _ _ _) 0 Tryz.func117 (by kernel_rfl) h
def Zbf:Env:=envA [(4,(.undef 0)::(.undef 2)::(.undef 4)::ua 6 8 (ua 17 7 ([.dead 2,.dead 6,.dead 22]))),(3000003,(.undef 0)::(.undef 4)::ua 7 6 ([.dead 12]))] [] [] [] [3]
def ZmP (Q:QD):Post:=blockK 0 (seqJ Zbf (fnAt [1,1,1] Tryz.f215) (endK Zbf Tryz.f215 Q))
@[irreducible] def Zci (Q:QD) (m0:Nat) (x1:V) (x14:LL) (x15 x16:Int):Prop :=
 iter (adj (Zbf.adj 4)) (evCode Zbf (fnAt [1,1,0,1,0,0] Tryz.f215)) (ZmP Q) m0 ⟨.undef::(.v (.sl Za) (x1))::.undef::.skip::.undef::.skip::un 8 ((.v (.sl Zb) (V.l x14))::(.v (.int .i64) (V.i x15))::(.v (.int .i64) (V.i x16))::un 7 ([.skip])),dd 25 ([])⟩ []
@[irreducible] def Zd9 (Q:QD) (x1:V) (y2_0:ByteArray) (y2_1:Bool) (y2_2:LL):Prop :=
 joinM (evCode Zbf (fnAt [1,1] Tryz.f215)) ⟨.undef::(.v (.sl Za) (x1))::(.ptr (.loc 2) 0)::.skip::.undef::sk 2 (un 6 (sk 12 ([]))),dd 2 ((.cells [.v .str (V.s y2_0),.v .bool (V.b y2_1),.v (.sl Zb) (V.l y2_2)])::dd 22 ([]))⟩ [] (endK Zbf Tryz.f215 Q)
def ZmW (Q:QD) (m0:Nat) (x1:V) (x14:LL) (x15 x16:Int):Prop :=
 iff (decide (x16<x15)) (0≤x16∧x16<x14.length∧cl Zdi [.agg [.v .str (((x14.getD x16.toNat []).drop 0).headD V.none),.v .bool ((((x14.getD x16.toNat []).drop 0).tail).headD V.none),.v (.sl Zb) (((((x14.getD x16.toNat []).drop 0).tail).tail).headD V.none)],.v (.sl Za) (x1)] [] fun r1 H2=>r1=(.v (.sl Za) (r1.V))∧H2=[]∧Zci Q m0 r1.V x14 x15 (IntKind.i64.wrap (x16+(1:Int)))) (True∧Q (.v (.sl Za) (x1)) [])
theorem Zkm (Q:QD) (m0:Nat) (x1:V) (x14:LL) (x15 x16:Int):Zci Q (m0+1) x1 x14 x15 x16=ZmW Q m0 x1 x14 x15 x16:=by kernel_rfl
theorem ZjD (Q:QD) (x14:LL) (n:Nat) (hb:n≤big) (J:Nat→V→Prop)
  (step:∀ (k:Nat) (x1:V),k<n→J k x1→∀ K:V→Prop,(∀ (x1':V),J (k+1) x1'→K x1')→(0≤(k:Int)∧(k:Int)<x14.length∧cl Zdi [.agg [.v .str (((x14.getD k []).drop 0).headD V.none),.v .bool ((((x14.getD k []).drop 0).tail).headD V.none),.v (.sl Zb) (((((x14.getD k []).drop 0).tail).tail).headD V.none)],.v (.sl Za) (x1)] [] fun r1 H2=>r1=(.v (.sl Za) (r1.V))∧H2=[]∧K r1.V))
  (last:∀ (x1:V),J n x1→(True∧Q (.v (.sl Za) (x1)) []))
  (k:Nat) (x1:V) (le0:k≤n) (hj:J k x1):∃ m0,Zci Q m0 x1 x14 (n:Int) ((k:Int)):=by
 exact rangeG1 n hb J (fun m0 i x1=>Zci Q m0 x1 x14 (n:Int) i) (fun m0 i x1=>Zkm Q m0 x1 x14 (n:Int) i) (fun k x1 hl_ hj_ m_ ih_=>step k x1 hl_ hj_ _ ih_) last k x1 le0 hj
def ZmR (Q:QD) (x1:V) (y2_0:ByteArray) (y2_1:Bool) (y2_2:LL):Prop :=
 (y2_2.length≤big→∃ m0,Zci Q m0 x1 y2_2 ((y2_2.length:Int)) 0)
theorem Zku (Q:QD) (x1:V) (y2_0:ByteArray) (y2_1:Bool) (y2_2:LL):Zd9 Q x1 y2_0 y2_1 y2_2=ZmR Q x1 y2_0 y2_1 y2_2:=by kernel_rfl
def ZiT (a0_0:ByteArray) (a0_1:Bool) (a0_2 a1:LL) (Q:QD):Prop :=
 iff a0_1 (cl Zeq [.v (.sl Za) (V.l a1),.v .str (V.s a0_0)] [] fun r1 H2=>r1=(.v (.sl Za) (r1.V))∧H2=[]∧Zd9 Q r1.V a0_0 a0_1 a0_2) (Zd9 Q (V.l a1) a0_0 a0_1 a0_2)
theorem Zqi (a0_0:ByteArray) (a0_1:Bool) (a0_2 a1:LL) (Q:QD) (h:ZiT a0_0 a0_1 a0_2 a1 Q):cl Zdi [.agg [.v .str (V.s a0_0),.v .bool (V.b a0_1),.v (.sl Zb) (V.l a0_2)],.v (.sl Za) (V.l a1)] [] Q :=
 acalls2 (E:=Zbf) (envOk _ _ _ _ _) 0 Tryz.func215 (by kernel_rfl) h
def ZgK:Env:=envA [] [] [] [] []
def ZgV (a0 a1:ByteArray) (Q:QD):Prop :=
 (a0.size≤big→(a1.size≤big→iff (decide (((a0.size:Int))≥((a1.size:Int)))) ((a0.size≤big→(a1.size≤big→0≤(IntKind.i64.wrap (((a0.size:Int)) - ((a1.size:Int))))∧(IntKind.i64.wrap (((a0.size:Int)) - ((a1.size:Int))))≤(a0.size:Int)∧(a0.size:Int)≤a0.size∧True∧Q (.v .bool (V.b ((a0.extract (IntKind.i64.wrap (((a0.size:Int)) - ((a1.size:Int)))).toNat ((a0.size:Int)).toNat).toList == a1.toList))) []))) (True∧Q (.v .bool (V.b false)) [])))
theorem Zho (a0 a1:ByteArray) (Q:QD) (h:ZgV a0 a1 Q):cl Za8 [.v .str (V.s a0),.v .str (V.s a1)] [] Q :=
 acalls2 (E:=ZgK) (envOk _ _ _ _ _) 0 Tryz.func249 (by kernel_rfl) h
def ZlX:Env:=envA [] [] [] [] []
def Zhx (a0:Int) (Q:QD):Prop :=
 cl Zg3 [.v (.int .u8) (V.i a0)] [] fun r1 H2=>r1=(.v .bool (r1.V))∧H2=[]∧True∧Q (.v .bool (V.b (!r1.V.bool))) []
theorem ZnQ (a0:Int) (Q:QD) (h:Zhx a0 Q):cl Z5 [.v (.int .u8) (V.i a0)] [] Q :=
 acalls2 (E:=ZlX) (envOk _ _ _ _ _) 0 Tryz.func165 (by kernel_rfl) h
def Zlz:Env:=envA [] [] [] [] []
def Zhs (a0_0:ByteArray) (a0_1:Bool) (a0_2:LL) (Q:QD):Prop :=
 cl Zb7 [.agg [.v .str (V.s a0_0),.v .bool (V.b a0_1),.v (.sl Zb) (V.l a0_2)]] [] fun r1 H2=>r1=(.v .bool (r1.V))∧H2=[]∧True∧Q (.v .bool (V.b (!r1.V.bool))) []
theorem ZnR (a0_0:ByteArray) (a0_1:Bool) (a0_2:LL) (Q:QD) (h:Zhs a0_0 a0_1 a0_2 Q):cl ZZ [.agg [.v .str (V.s a0_0),.v .bool (V.b a0_1),.v (.sl Zb) (V.l a0_2)]] [] Q :=
 acalls2 (E:=Zlz) (envOk _ _ _ _ _) 0 Tryz.func168 (by kernel_rfl) h
def Zjn:Env:=envA [] [] [] [] []
def Zgr (a0 a1:ByteArray) (Q:QD):Prop :=
 cl Zb6 [.v .str (V.s a0),.v .str (V.s a1)] [] fun r1 H2=>r1=(.v (.int .i64) (r1.V))∧H2=[]∧True∧Q (.v (.int .i64) (r1.V)) []
theorem Zk2 (a0 a1:ByteArray) (Q:QD) (h:Zgr a0 a1 Q):cl Zfc [.v .str (V.s a0),.v .str (V.s a1)] [] Q :=
 acalls2 (E:=Zjn) (envOk _ _ _ _ _) 0 Tryz.func138 (by kernel_rfl) h
def Zoq:Env:=envA [] [] [] [] []
def ZkH (a0_0:ByteArray) (a0_1:Bool) (a0_2:LL) (a0_3:ByteArray) (a0_4:Bool) (a0_5:LL) (Q:QD):Prop :=
 cl Zbx [.v (.sl Zb) (V.l ([[V.s a0_0,V.b a0_1,V.l a0_2]]))] [] fun r1 H2=>r1=(.v (.sl Za) (r1.V))∧H2=[]∧iff a0_1 (True∧Q (.v .bool (V.b true)) []) (cl Zbx [.v (.sl Zb) (V.l ([[V.s a0_3,V.b a0_4,V.l a0_5]]))] [] fun r3 H4=>r3=(.v (.sl Za) (r3.V))∧H4=[]∧cl ZH [.v (.sl Za) (r3.V),.fn Zae [.ptr (.own 0) 0]] [.cells [.v (.sl Za) (r1.V)]] fun r5 H6=>r5=(.v .bool (r5.V))∧H6=[.cells [.v (.sl Za) ((((H6.headD .dead).cs).headD .undef).V)]]∧True∧Q (.v .bool (r5.V)) [])
theorem Zqr (a0_0:ByteArray) (a0_1:Bool) (a0_2:LL) (a0_3:ByteArray) (a0_4:Bool) (a0_5:LL) (Q:QD) (h:ZkH a0_0 a0_1 a0_2 a0_3 a0_4 a0_5 Q):cl ZaN [.agg [.v .str (V.s a0_0),.v .bool (V.b a0_1),.v (.sl Zb) (V.l a0_2),.v .str (V.s a0_3),.v .bool (V.b a0_4),.v (.sl Zb) (V.l a0_5)]] [] Q :=
 acalls2 (E:=Zoq) (envOk _ _ _ _ _) 0 Tryz.func183 (by kernel_rfl) h
def Zco:Env:=envA [(4,ua 0 2 ([.undef 5,.dead 1]))] [] [] [] []
@[irreducible] def Zas (Q:QD) (zx6_0:List V) (zy2_0:Bool) (q0_0:Bool) (rows:LL):Prop :=
 rangeR (evCode Zco (fnAt [1,0,1,0,0] Tryz.f110)) (evCode Zco (fnAt [1,0,1,0,1] Tryz.f110)) [7,8] (rowA 171) [.cells [.v .bool (V.b zy2_0)]] (un 2 ((.ptr (.own 0) 0)::sk 2 (.undef::(.fn Zt [.elt Zb zx6_0 0])::sk 23 ([])))) (dd 30 []) (outR Zco [.loc 2] ⟨un 2 ((.ptr (.loc 2) 0)::sk 2 (.undef::(.fn Zt [.elt Zb zx6_0 0])::sk 23 ([]))),dd 2 ((.cells [.v .bool (V.b zy2_0)])::dd 27 ([]))⟩ [] (blockK 0 (seqJ Zco (fnAt [1,1] Tryz.f110) (endK Zco Tryz.f110 Q)))) rows [.cells [.v .bool (V.b q0_0)]]
theorem Znd (Q:QD) (zx6_0:List V) (zy2_0:Bool) (q0_0:Bool):Zas Q zx6_0 zy2_0 q0_0 []=(True∧Q (.v .bool (V.b true)) []):=by kernel_rfl
theorem Znn (Q:QD) (zx6_0:List V) (zy2_0:Bool) (q0_0:Bool) (r:List V) (rs:LL):Zas Q zx6_0 zy2_0 q0_0 (r::rs)=(iff ((r.tail.headD V.none).bool) (((r.tail.tail.tail.headD V.none).int.toNat≤big→iff (((((r.tail.tail.tail.headD V.none).int.toNat:Nat):Int)) == (0:Int)) (True∧Q (.v .bool (V.b false)) []) (iff (!((r.tail.headD V.none).bool)) (cl Zap [.v .str (r.headD V.none)] [] fun r1 H2=>r1=(.v .bool (r1.V))∧H2=[]∧((r.tail.tail.tail.headD V.none).int.toNat≤big→iff (!(r1.V.bool == (((((r.tail.tail.tail.headD V.none).int.toNat:Nat):Int)) == (0:Int)))) (True∧Q (.v .bool (V.b false)) []) (Zas Q zx6_0 zy2_0 q0_0 rs))) (Zas Q zx6_0 zy2_0 q0_0 rs)))) (iff (!((r.tail.headD V.none).bool)) (cl Zap [.v .str (r.headD V.none)] [] fun r3 H4=>r3=(.v .bool (r3.V))∧H4=[]∧((r.tail.tail.tail.headD V.none).int.toNat≤big→iff (!(r3.V.bool == (((((r.tail.tail.tail.headD V.none).int.toNat:Nat):Int)) == (0:Int)))) (True∧Q (.v .bool (V.b false)) []) (Zas Q zx6_0 zy2_0 q0_0 rs))) (Zas Q zx6_0 zy2_0 q0_0 rs))):=by kernel_rfl
theorem Zll (Q:QD) (zx6_0:List V) (zy2_0:Bool) (J:LL→Bool→Prop)
  (step:∀ (r:List V) (rs:LL) (q0_0:Bool),J (r::rs) q0_0→∀ K:Bool→Prop,(∀ (q0_0':Bool),J rs q0_0'→K q0_0')→(iff ((r.tail.headD V.none).bool) (((r.tail.tail.tail.headD V.none).int.toNat≤big→iff (((((r.tail.tail.tail.headD V.none).int.toNat:Nat):Int)) == (0:Int)) (True∧Q (.v .bool (V.b false)) []) (iff (!((r.tail.headD V.none).bool)) (cl Zap [.v .str (r.headD V.none)] [] fun r1 H2=>r1=(.v .bool (r1.V))∧H2=[]∧((r.tail.tail.tail.headD V.none).int.toNat≤big→iff (!(r1.V.bool == (((((r.tail.tail.tail.headD V.none).int.toNat:Nat):Int)) == (0:Int)))) (True∧Q (.v .bool (V.b false)) []) (K q0_0))) (K q0_0)))) (iff (!((r.tail.headD V.none).bool)) (cl Zap [.v .str (r.headD V.none)] [] fun r3 H4=>r3=(.v .bool (r3.V))∧H4=[]∧((r.tail.tail.tail.headD V.none).int.toNat≤big→iff (!(r3.V.bool == (((((r.tail.tail.tail.headD V.none).int.toNat:Nat):Int)) == (0:Int)))) (True∧Q (.v .bool (V.b false)) []) (K q0_0))) (K q0_0))))
  (last:∀ (q0_0:Bool),J [] q0_0→(True∧Q (.v .bool (V.b true)) []))
  : ∀ (rows:LL) (q0_0:Bool),J rows q0_0→Zas Q zx6_0 zy2_0 q0_0 rows:=by
 intro rows
 induction rows with
 | nil=>intro q0_0 h; rw [Znd]; exact last q0_0 h
 | cons r rs ih=>intro q0_0 h; rw [Znn]; exact step r rs q0_0 h (fun q0_0=>Zas Q zx6_0 zy2_0 q0_0 rs) ih
def ZkK (a0_0:ByteArray) (a0_1:Bool) (a0_2:LL) (Q:QD):Prop :=
 cl Zej [.agg [.v .str (V.s a0_0),.v .bool (V.b a0_1),.v (.sl Zb) (V.l a0_2)]] [] fun r1 H2=>r1=(.fn Zt [.elt Zb ((r1.capsOf.headD .undef).eltOf) 0])∧H2=[]∧∃ rows:LL,itA 171 [.elt Zb ((r1.capsOf.headD .undef).eltOf) 0] rows∧Zas Q ((r1.capsOf.headD .undef).eltOf) false false rows
theorem Zqv (a0_0:ByteArray) (a0_1:Bool) (a0_2:LL) (Q:QD) (h:ZkK a0_0 a0_1 a0_2 Q):cl Zgs [.agg [.v .str (V.s a0_0),.v .bool (V.b a0_1),.v (.sl Zb) (V.l a0_2)]] [] Q :=
 acalls2 (E:=Zco) (envOk _ _ _ _ _) 0 Tryz.func110 (by kernel_rfl) h
def Zgi:Env:=envA [] [] [] [] []
def ZdX (a0:LL) (a1:ByteArray) (Q:QD):Prop :=
 cl Zc4 [.v (.sl Za) (V.l a0),.v .str (V.s a1)] [] fun r1 H2=>r1=(.v (.int .i64) (r1.V))∧H2=[]∧True∧Q (.v .bool (V.b (decide (r1.V.int≥(0:Int))))) []
theorem ZgO (a0:LL) (a1:ByteArray) (Q:QD) (h:ZdX a0 a1 Q):cl ZaO [.v (.sl Za) (V.l a0),.v .str (V.s a1)] [] Q :=
 acalls2 (E:=Zgi) (envOk _ _ _ _ _) 0 Tryz.func116 (by kernel_rfl) h
def Zn4:Env:=envA [] [] [] [] []
def ZiV (a0:Int) (Q:QD):Prop :=
 iff (decide (a0≥(97:Int))) (iff (decide (a0≤(122:Int))) (True∧Q (.v .bool (V.b true)) []) (iff (decide (a0≥(65:Int))) (iff (decide (a0≤(90:Int))) (True∧Q (.v .bool (V.b true)) []) (iff (decide (a0≥(48:Int))) (iff (decide (a0≤(57:Int))) (True∧Q (.v .bool (V.b true)) []) (iff (a0 == (95:Int)) (True∧Q (.v .bool (V.b true)) []) (True∧Q (.v .bool (V.b (a0 == (39:Int)))) []))) (iff (a0 == (95:Int)) (True∧Q (.v .bool (V.b true)) []) (True∧Q (.v .bool (V.b (a0 == (39:Int)))) [])))) (iff (decide (a0≥(48:Int))) (iff (decide (a0≤(57:Int))) (True∧Q (.v .bool (V.b true)) []) (iff (a0 == (95:Int)) (True∧Q (.v .bool (V.b true)) []) (True∧Q (.v .bool (V.b (a0 == (39:Int)))) []))) (iff (a0 == (95:Int)) (True∧Q (.v .bool (V.b true)) []) (True∧Q (.v .bool (V.b (a0 == (39:Int)))) []))))) (iff (decide (a0≥(65:Int))) (iff (decide (a0≤(90:Int))) (True∧Q (.v .bool (V.b true)) []) (iff (decide (a0≥(48:Int))) (iff (decide (a0≤(57:Int))) (True∧Q (.v .bool (V.b true)) []) (iff (a0 == (95:Int)) (True∧Q (.v .bool (V.b true)) []) (True∧Q (.v .bool (V.b (a0 == (39:Int)))) []))) (iff (a0 == (95:Int)) (True∧Q (.v .bool (V.b true)) []) (True∧Q (.v .bool (V.b (a0 == (39:Int)))) [])))) (iff (decide (a0≥(48:Int))) (iff (decide (a0≤(57:Int))) (True∧Q (.v .bool (V.b true)) []) (iff (a0 == (95:Int)) (True∧Q (.v .bool (V.b true)) []) (True∧Q (.v .bool (V.b (a0 == (39:Int)))) []))) (iff (a0 == (95:Int)) (True∧Q (.v .bool (V.b true)) []) (True∧Q (.v .bool (V.b (a0 == (39:Int)))) []))))
theorem ZpA (a0:Int) (Q:QD) (h:ZiV a0 Q):cl Zg3 [.v (.int .u8) (V.i a0)] [] Q :=
 acalls2 (E:=Zn4) (envOk _ _ _ _ _) 0 Tryz.func166 (by kernel_rfl) h
def ZgE:Env:=envA [] [] [] [] []
def ZgS (a0 a1:ByteArray) (Q:QD):Prop :=
 True∧Q (.v (.int .i64) (V.i (Lib.compareBytes a0.data.toList a1.data.toList))) []
theorem Zhi (a0 a1:ByteArray) (Q:QD) (h:ZgS a0 a1 Q):cl Zb6 [.v .str (V.s a0),.v .str (V.s a1)] [] Q :=
 acalls2 (E:=ZgE) (envOk _ _ _ _ _) 0 Tryz.func199 (by kernel_rfl) h
def ZcD:Env:=envA [] [] [] [] []
def ZaE (a0 h0_0:LL) (Q:QD):Prop :=
 cl ZW [.v (.sl Za) (V.l a0),.fn Zae [.ptr (.own 0) 0]] [.cells [.v (.sl Za) (V.l h0_0)]] fun r1 H2=>r1=(.v (.int .i64) (r1.V))∧H2=[.cells [.v (.sl Za) ((((H2.headD .dead).cs).headD .undef).V)]]∧True∧Q (.v .bool (V.b (decide (r1.V.int≥(0:Int))))) [.cells [.v (.sl Za) ((((H2.headD .dead).cs).headD .undef).V)]]
theorem ZcX (a0 h0_0:LL) (Q:QD) (h:ZaE a0 h0_0 Q):cl ZH [.v (.sl Za) (V.l a0),.fn Zae [.ptr (.own 0) 0]] [.cells [.v (.sl Za) (V.l h0_0)]] Q :=
 acalls2 (E:=ZcD) (envOk _ _ _ _ _) 0 Tryz.func114 (by kernel_rfl) h
def Zan:Env:=envA [(2,ua 4 3 (ua 9 10 ([])))] [] [] [] []
def ZgQ (Q:QD):Post:=blockK 0 (seqJ Zan (fnAt [1,1] Tryz.f188) (endK Zan Tryz.f188 Q))
@[irreducible] def Zak (Q:QD) (m0:Nat) (x0:LL) (x1:ByteArray) (x7 x8:Int):Prop :=
 iter (adj (Zan.adj 2)) (evCode Zan (fnAt [1,0,1,0,0] Tryz.f188)) (ZgQ Q) m0 ⟨(.v (.sl Za) (V.l x0))::(.v .str (V.s x1))::sk 2 (un 3 ((.v (.int .i64) (V.i x7))::(.v (.int .i64) (V.i x8))::un 10 ([]))),dd 19 ([])⟩ []
def ZgP (Q:QD) (m0:Nat) (x0:LL) (x1:ByteArray) (x7 x8:Int):Prop :=
 iff (decide (x8<x7)) (0≤x8∧x8<x0.length∧iff (x1.toList == ((((x0.getD x8.toNat []).drop 0).headD V.none).str).toList) (True∧Q (.v (.int .i64) (V.i x8)) []) (Zak Q m0 x0 x1 x7 (IntKind.i64.wrap (x8+(1:Int))))) (True∧Q (.v (.int .i64) (V.i (-1))) [])
theorem Zgk (Q:QD) (m0:Nat) (x0:LL) (x1:ByteArray) (x7 x8:Int):Zak Q (m0+1) x0 x1 x7 x8=ZgP Q m0 x0 x1 x7 x8:=by kernel_rfl
theorem ZfX (Q:QD) (x0:LL) (x1:ByteArray) (n:Nat) (hb:n≤big) (J:Nat→Prop)
  (step:∀ (k:Nat),k<n→J k→∀ K:Prop,(J (k+1)→K)→(0≤(k:Int)∧(k:Int)<x0.length∧iff (x1.toList == ((((x0.getD k []).drop 0).headD V.none).str).toList) (True∧Q (.v (.int .i64) (V.i (k:Int))) []) (K)))
  (last:J n→(True∧Q (.v (.int .i64) (V.i (-1))) []))
  (k:Nat) (le0:k≤n) (hj:J k):∃ m0,Zak Q m0 x0 x1 (n:Int) ((k:Int)):=by
 exact rangeG0 n hb J (fun m0 i=>Zak Q m0 x0 x1 (n:Int) i) (fun m0 i=>Zgk Q m0 x0 x1 (n:Int) i) (fun k hl_ hj_ m_ ih_=>step k hl_ hj_ _ ih_) last k le0 hj
def ZhL (a0:LL) (a1:ByteArray) (Q:QD):Prop :=
 (a0.length≤big→∃ m0,Zak Q m0 a0 a1 ((a0.length:Int)) 0)
theorem Zh4 (a0:LL) (a1:ByteArray) (Q:QD) (h:ZhL a0 a1 Q):cl Zc4 [.v (.sl Za) (V.l a0),.v .str (V.s a1)] [] Q :=
 acalls2 (E:=Zan) (envOk _ _ _ _ _) 0 Tryz.func188 (by kernel_rfl) h
def Zy:Env:=envA [(2,ua 4 3 (ua 9 10 ([.dead 16])))] [] [] [] []
def ZcY (Q:QD):Post:=blockK 0 (seqJ Zy (fnAt [1,1] Tryz.f187) (endK Zy Tryz.f187 Q))
@[irreducible] def Zr (Q:QD) (m0:Nat) (x0:LL) (x7 x8:Int) (h0_0:V):Prop :=
 iter (adj (Zy.adj 2)) (evCode Zy (fnAt [1,0,1,0,0] Tryz.f187)) (ZcY Q) m0 ⟨(.v (.sl Za) (V.l x0))::(.fn Zae [.ptr (.own 0) 0])::sk 2 (un 3 ((.v (.int .i64) (V.i x7))::(.v (.int .i64) (V.i x8))::un 10 ([]))),dd 19 ([])⟩ [.cells [.v (.sl Za) (h0_0)]]
def Zc2 (Q:QD) (m0:Nat) (x0:LL) (x7 x8:Int) (h0_0:V):Prop :=
 iff (decide (x8<x7)) (0≤x8∧x8<x0.length∧cl Zae [.v .str (((x0.getD x8.toNat []).drop 0).headD V.none),.ptr (.own 0) 0] [.cells [.v (.sl Za) (h0_0)]] fun r1 H2=>r1=(.v .bool (r1.V))∧H2=[.cells [.v (.sl Za) ((((H2.headD .dead).cs).headD .undef).V)]]∧iff r1.V.bool (True∧Q (.v (.int .i64) (V.i x8)) [.cells [.v (.sl Za) ((((H2.headD .dead).cs).headD .undef).V)]]) (Zr Q m0 x0 x7 (IntKind.i64.wrap (x8+(1:Int))) ((((H2.headD .dead).cs).headD .undef).V))) (True∧Q (.v (.int .i64) (V.i (-1))) [.cells [.v (.sl Za) (h0_0)]])
theorem ZcB (Q:QD) (m0:Nat) (x0:LL) (x7 x8:Int) (h0_0:V):Zr Q (m0+1) x0 x7 x8 h0_0=Zc2 Q m0 x0 x7 x8 h0_0:=by kernel_rfl
theorem Zcf (Q:QD) (x0:LL) (n:Nat) (hb:n≤big) (J:Nat→V→Prop)
  (step:∀ (k:Nat) (h0_0:V),k<n→J k h0_0→∀ K:V→Prop,(∀ (h0_0':V),J (k+1) h0_0'→K h0_0')→(0≤(k:Int)∧(k:Int)<x0.length∧cl Zae [.v .str (((x0.getD k []).drop 0).headD V.none),.ptr (.own 0) 0] [.cells [.v (.sl Za) (h0_0)]] fun r1 H2=>r1=(.v .bool (r1.V))∧H2=[.cells [.v (.sl Za) ((((H2.headD .dead).cs).headD .undef).V)]]∧iff r1.V.bool (True∧Q (.v (.int .i64) (V.i (k:Int))) [.cells [.v (.sl Za) ((((H2.headD .dead).cs).headD .undef).V)]]) (K ((((H2.headD .dead).cs).headD .undef).V))))
  (last:∀ (h0_0:V),J n h0_0→(True∧Q (.v (.int .i64) (V.i (-1))) [.cells [.v (.sl Za) (h0_0)]]))
  (k:Nat) (h0_0:V) (le0:k≤n) (hj:J k h0_0):∃ m0,Zr Q m0 x0 (n:Int) ((k:Int)) h0_0:=by
 exact rangeG1 n hb J (fun m0 i h0_0=>Zr Q m0 x0 (n:Int) i h0_0) (fun m0 i h0_0=>ZcB Q m0 x0 (n:Int) i h0_0) (fun k h0_0 hl_ hj_ m_ ih_=>step k h0_0 hl_ hj_ _ ih_) last k h0_0 le0 hj
def ZdG (a0 h0_0:LL) (Q:QD):Prop :=
 (a0.length≤big→∃ m0,Zr Q m0 a0 ((a0.length:Int)) 0 (V.l h0_0))
theorem ZdL (a0 h0_0:LL) (Q:QD) (h:ZdG a0 h0_0 Q):cl ZW [.v (.sl Za) (V.l a0),.fn Zae [.ptr (.own 0) 0]] [.cells [.v (.sl Za) (V.l h0_0)]] Q :=
 acalls2 (E:=Zy) (envOk _ _ _ _ _) 0 Tryz.func187 (by kernel_rfl) h
def Znj:Env:=envA [] [] [] [] []
def ZhV (a0:ByteArray) (h0_0:LL) (Q:QD):Prop :=
 cl ZaO [.v (.sl Za) (V.l h0_0),.v .str (V.s a0)] [] fun r1 H2=>r1=(.v .bool (r1.V))∧H2=[]∧True∧Q (.v .bool (V.b (!r1.V.bool))) [.cells [.v (.sl Za) (V.l h0_0)]]
theorem Zos (a0:ByteArray) (h0_0:LL) (Q:QD) (h:ZhV a0 h0_0 Q):cl Zae [.v .str (V.s a0),.ptr (.own 0) 0] [.cells [.v (.sl Za) (V.l h0_0)]] Q :=
 acalls2 (E:=Znj) (envOk _ _ _ _ _) 0 Tryz.func227 (by kernel_rfl) h
end Go.Proofs.YthjlodlkpgjlkaaGreat
