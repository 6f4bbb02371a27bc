/-
  Texts AbsQ, AbsF, AbsH of this proof, joined.
-/
import Derived.RangeFuncSeq
import Derived.RangeFuncCalls
import Derived.Test.YthhnadeoioeniaaGreatP4
set_option linter.unusedVariables false
namespace Go.Abs
def FR (ro:Option Nat):Fence:={ Fence.wide with round:=ro }
def AIter (P:Program) (lf:TypeId→List K) (row:List V→List D) (f:FuncId) (caps:List D) (rows:List (List V)):Prop :=
 ∀ (S:Sig) (us:List Value),Wf lf S→caps.length=us.length→(∀ j,RepD lf S (caps.getD j .undef) (us.getD j undef))→D.anyL (fun _=>true) caps=false →
 ∀ (l:Nat) (J:List (List V)→(Nat→Prop)→World→Prop) (Jx:World→Prop),
  (∀ xs R W,J xs R W→(∀ b,S.F b→W.heap[b]?=S.w.heap[b]?)∧∀ b,R b→b<W.heap.size) →
  (∀ xs R W W',J xs R W→W.grownBy W' none→J xs (fun b=>R b∨(W.heap.size≤b∧b<W'.heap.size)) W') →
  (∀ xs x R W (args:List Value),J (x::xs) R W→args.length=(row x).length→(∀ j,RepD lf { S with w:=W } ((row x).getD j .undef) (args.getD j undef)) →
   YieldAt (FR none) 0 P l args.toArray W fun e W'=>(e=.returned (.bool true)∧J xs R W'∧∀ b,R b→W'.heap[b]?=W.heap[b]?)∨(e=.returned (.bool false)∧Jx W')) →
  J rows (fun _=>False) S.w →
  Calls P f ((#[.func (.yield l) #[] #[]]:Array Value)++us.toArray) S.w fun e W'=>(∃ v,e=.returned v)∧((∃ R,J [] R W')∨Jx W')
def nextRow:Bool→List (List V)→List V→List (List V)→Prop
 | false,xs,x,xs'=>xs=x::xs'
 | true,xs,x,xs'=>∃ i,i<xs.length∧x=xs.getD i []∧xs'=xs.eraseIdx i
def AIterB (b:Bool) (P:Program) (lf:TypeId→List K) (row:List V→List D) (f:FuncId) (caps:List D) (rows:List (List V)):Prop :=
 ∀ (S:Sig) (us:List Value),Wf lf S→caps.length=us.length→(∀ j,RepD lf S (caps.getD j .undef) (us.getD j undef))→D.anyL (fun _=>true) caps=false →
 ∀ (l:Nat) (J:List (List V)→(Nat→Prop)→World→Prop) (Jx:World→Prop),
  (∀ xs R W,J xs R W→(∀ b,S.F b→W.heap[b]?=S.w.heap[b]?)∧∀ b,R b→b<W.heap.size) →
  (∀ xs R W W',J xs R W→W.grownBy W' none→J xs (fun b=>R b∨(W.heap.size≤b∧b<W'.heap.size)) W') →
  (∀ xs R W W',J xs R W→(∀ b,¬ R b→W'.heap[b]?=W.heap[b]?)→W'.heap.size=W.heap.size→W'.os=W.os∧W'.tape=W.tape∧W'.output=W.output→J xs R W') →
  (∀ xs x xs' R W (args:List Value),nextRow b xs x xs'→J xs R W→args.length=(row x).length→(∀ j,RepD lf { S with w:=W } ((row x).getD j .undef) (args.getD j undef)) →
   YieldAt (FR none) 0 P l args.toArray W fun e W'=>(e=.returned (.bool true)∧J xs' R W'∧∀ b,R b→W'.heap[b]?=W.heap[b]?)∨(e=.returned (.bool false)∧Jx W')) →
  J rows (fun _=>False) S.w →
  Calls P f ((#[.func (.yield l) #[] #[]]:Array Value)++us.toArray) S.w fun e W'=>(∃ v,e=.returned v)∧((∃ R,J [] R W')∨Jx W')
theorem AIter.b {P:Program} {lf:TypeId→List K} {row:List V→List D} {f:FuncId} {caps:List D} {rows:List (List V)} (h:AIter P lf row f caps rows):AIterB false P lf row f caps rows :=
 fun S us a1 a2 a3 a4 l J Jx b1 b2 _ b3 b4=>h S us a1 a2 a3 a4 l J Jx b1 b2 (fun xs x R W args hJ=>b3 _ x xs R W args rfl hJ) b4
end Go.Abs
set_option linter.unusedSimpArgs false
namespace Go.Abs
variable {P:Program} {T:Tab} {S0:Sig} {o:Oper} {a:Act} {S:Sig} {st:St} {H:Heap}
theorem list_l (xs:List (List V)):(V.l xs).list=xs:=rfl
theorem bound_spec (hrel:Rel (lfs T) st H a S) {x:Option Operand} {dflt b:Int} (h:bound (x.map st.eval) dflt=some b) :
  (x=none∧b=dflt)∨∃ y k,x=some y∧a.eval y=.int k b:=by
 cases x with
 | none=>simp [bound] at h; exact .inl ⟨rfl,h.symm⟩
 | some y =>
  have hy:=hrel.eval y
  simp only [Option.map_some,bound] at h
  split at h
  ·rename_i h1; cases h1
  ·rename_i k j h1
   simp only [Option.some.injEq] at h1 h
   rw [h1] at hy
   exact .inr ⟨y,k,rfl,by rw [hy.int_inv,h]⟩
  ·cases h
theorem run_sliceBounds {isS:Bool} {len cap:Nat} {lo hi:Option Operand} {l h:Int} {w:World} (hl:(lo=none∧l=0)∨∃ y k,lo=some y∧a.eval y=.int k l) (hh:(hi=none∧h=(len:Int))∨∃ y k,hi=some y∧a.eval y=.int k h)
  (h0:0≤l) (h1:l≤h) (h2:h≤cap):(Instr.sliceBounds isS len cap (lo.map a.eval) (hi.map a.eval) none).run P w=.ok (l.toNat,h.toNat,cap) w:=by
 have hb:∀ (k:IntKind) (i:Int) (m:Nat) (c:BoundsCode),0≤i→i≤m→(Instr.sliceBound (.int k i) m c).run P w=.ok i.toNat w:=by
  intro k i m c h3 h4
  simp only [Instr.sliceBound,asIntOf,Sem.run_bind,Result.andThen_ok,show ∀ (α:Type) (x:α),(pure x:Sem α).run P w=.ok x w from fun _ _=>rfl]
  rw [if_pos ⟨h3,h4⟩]; rfl
 rcases hl with ⟨rfl,rfl⟩ | ⟨y,k,rfl,hy⟩ <;> rcases hh with ⟨rfl,rfl⟩ | ⟨y',k',rfl,hy'⟩
 ·simp [Instr.sliceBounds,Sem.run,pure]
 ·simp only [Instr.sliceBounds,Option.map_some,Option.map_none,hy']
  simp [Sem.run,pure,hb k' h cap _ (by omega) h2]
 ·simp only [Instr.sliceBounds,Option.map_some,Option.map_none,hy]
  simp [Sem.run,pure,hb k l len _ h0 h1]
 ·have h5:=hb k l h.toNat .sliceB h0 (by omega)
  simp only [Instr.sliceBounds,Option.map_some,hy,hy']
  simp [Sem.run,pure,hb k' h cap _ (by omega) h2,h5]
theorem ok_slice (hT:TabOk P T) (t:TypeId) (x:Operand) (lo hi:Option Operand) (q:D→St→Heap→Prop) (ho:o.op=.slice t x lo hi none) (hrel:Rel (lfs T) st H a S) (hinv:Inv S0 S)
  (h:evSlice T t (st.eval x) (lo.map st.eval) (hi.map st.eval) fun d=>q d st H):OpOk P T S0 o a S q:=by
 have hx:=hrel.eval x
 unfold evSlice at h
 split at h
 ·rename_i s h1
  rw [h1] at hx
  have ex:=hx.str_inv
  split at h
  ·rename_i l hh hk hl hhi
   have hu:=hT.get_str (t:=t) (by simpa using hk)
   obtain ⟨h3,h4,h5,h6⟩:=h
   have hb:=run_sliceBounds (P:=P) (a:=a) (isS:=false) (len:=s.str.size) (cap:=s.str.size) (w:=S.w) (bound_spec hrel hl) (bound_spec hrel hhi) h3 h4 h5
   refine OpOk.value hrel hinv (v:=.string (s.str.extract l.toNat hh.toNat)) (d:=_) ?_ (RepD.mkStr _ (by
    have:=hx.str_len
    have h7:(s.str.extract l.toNat hh.toNat).size=min hh.toNat s.str.size - l.toNat:=ByteArray.size_extract
    omega)) h6
   simp only [execOp,ho,Instr.sliceAt,Instr.slice,ex,Sem.run_bind,run_underlying hu,Result.andThen_ok]
   simp [Sem.run,pure,hb]
  ·exact h.elim
 ·rename_i e y h1
  rw [h1] at hx
  split at h
  ·rename_i e' l hh he hl hhi
   have hu:=hT.get_el he
   split at h
   ·rename_i hee0
    obtain ⟨hee,hn⟩:e=e'∧0<(T.get e).lf.length:=by simpa using hee0
    subst hee
    obtain ⟨hok,ht⟩:=hT.get hn
    have hs:=hok.size S.w
    rw [ht] at hs
    obtain ⟨h3,h4,h5,h6⟩:=h
    have hlen:((y.list.take hh.toNat).drop l.toNat).length=hh.toNat - l.toNat:=by simp; omega
    generalize hv:a.eval x=u at hx
    cases hx with
    | v _ _ _ hk =>
     cases hk with
     | sl0 _ _ A c h0 =>
      have hh0:hh=0:=by rw [h0] at h5; simp at h5; omega
      have hl0:l=0:=by omega
      have hb:=run_sliceBounds (P:=P) (a:=a) (isS:=true) (len:=0) (cap:=c) (w:=S.w) (bound_spec hrel hl) (by rw [h0] at hhi; exact bound_spec hrel hhi) h3 h4 (by omega)
      subst hh0 hl0
      refine OpOk.value hrel hinv (v:=.slice (if c=0 then A else A.map (·.add (0*(T.get e).lf.length))) 0 c) ?_ (.v _ _ _ (.sl0 e _ _ c (by simp [list_l]))) h6
      simp only [execOp,ho,Instr.sliceAt,Instr.slice,hv,Sem.run_bind,run_underlying hu,Result.andThen_ok]
      simp [Sem.run,pure,hb,hs]
     | sl _ _ b off c us hb' hc hlen' hcell hrep =>
      have hb:=run_sliceBounds (P:=P) (a:=a) (isS:=true) (len:=y.list.length) (cap:=c) (w:=S.w) (bound_spec hrel hl) (bound_spec hrel hhi) h3 h4 (by omega)
      have hrun:(execOp a.eval o).run P S.w=.ok (.value (.slice (if c=l.toNat then some ⟨b,off,none⟩ else some ⟨b,off+l.toNat*(T.get e).lf.length,none⟩) (hh.toNat - l.toNat) (c - l.toNat))) S.w:=by
       simp only [execOp,ho,Instr.sliceAt,Instr.slice,hv,Sem.run_bind,run_underlying hu,Result.andThen_ok]
       simp [Sem.run,pure,hb,hs,add_plain]
      by_cases hz:hh.toNat - l.toNat=0
      ·refine OpOk.value hrel hinv hrun (.v _ _ _ ?_) h6
       rw [hz]
       exact .sl0 e _ _ _ (by simp only [list_l]; exact List.eq_nil_of_length_eq_zero (by omega))
      ·have hcl:¬ c=l.toNat:=by omega
       rw [if_neg hcl] at hrun
       refine OpOk.value hrel hinv hrun (.v _ _ _ ?_) h6
       have:=RepK.sl (lf:=lfs T) (w:=S.w) (F:=S.F) e (.l ((y.list.take hh.toNat).drop l.toNat)) b (off+l.toNat*(T.get e).lf.length) (c - l.toNat) (fun i j=>us (l.toNat+i) j) hb' (by simp only [list_l]; omega)
        (fun i hi=>by
         simp only [list_l] at hi ⊢
         rw [getD_drop,getD_take _ _ _ _ (by omega)]
         exact hlen' _ (by omega))
        (fun i j hi hj=>by
         simp only [list_l] at hi
         rw [← hcell (l.toNat+i) j (by omega) hj]
         congr 2
         simp only [lfs]
         rw [Nat.add_mul]
         omega)
        (fun i j hi hj=>by
         simp only [list_l] at hi ⊢
         rw [getD_drop,getD_take _ _ _ _ (by omega)]
         exact hrep _ j (by omega) hj)
       simp only [list_l,hlen] at this
       exact this
   ·exact h.elim
  ·exact h.elim
 ·exact h.elim
structure EnvOk (P:Program) (E:Env):Prop where
 tab:TabOk P E.T
 ent:∀ f,E.ent f=true→∀ args w,(callFunc f args).run P w=.ok (.enter f args) w
 call:∀ f args H Q,E.call f args H Q→ACalls P (lfs E.T) f args H Q
 mono:∀ f args H Q Q',(∀ r H',Q r H'→Q' r H')→E.call f args H Q→E.call f args H Q'
 mixed:P.follows .mixedOrders=true
 iter:∀ f caps rows,E.iter f caps rows→AIterB (E.anyI f) P (lfs E.T) (E.row f) f caps rows
 fresh:∀ f args e xs,E.fresh f=some e→E.freshP f args xs→AFresh P (lfs E.T) f args e xs
 ext:∀ f,E.ext f=true→∀ a b w,(callFunc f #[.string a,.string b]).run P w=.ok (.value (.int .i64 (Lib.compareBytes a.data.toList b.data.toList))) w
theorem call_reps {S:Sig} {st:St} {H:Heap} {a:Act} (hrel:Rel (lfs T) st H a S) (l:List Operand) {caps:List D} {us:List Value} (hl:caps.length=us.length) (hr:∀ j,RepD (lfs T) S (caps.getD j .undef) (us.getD j undef)) :
  ∀ j,RepD (lfs T) S ((l.map st.eval++caps).getD j .undef) ((l.map a.eval++us).getD j undef):=by
 refine repD_of_list (by simp [hl]) fun j hj=>?_
 by_cases h1:j<l.length
 ·have e1:(l.map st.eval++caps).getD j .undef=st.eval l[j]:=by
   rw [List.getD_eq_getElem?_getD,List.getElem?_append_left (by simpa using h1),List.getElem?_map,List.getElem?_eq_getElem h1]; rfl
  have e2:(l.map a.eval++us).getD j undef=a.eval l[j]:=by
   rw [List.getD_eq_getElem?_getD,List.getElem?_append_left (by simpa using h1),List.getElem?_map,List.getElem?_eq_getElem h1]; rfl
  rw [e1,e2]
  exact hrel.eval _
 ·have e1:(l.map st.eval++caps).getD j .undef=caps.getD (j - l.length) .undef:=by
   rw [List.getD_eq_getElem?_getD,List.getElem?_append_right (by simpa using h1),List.length_map,← List.getD_eq_getElem?_getD]
  have e2:(l.map a.eval++us).getD j undef=us.getD (j - l.length) undef:=by
   rw [List.getD_eq_getElem?_getD,List.getElem?_append_right (by simpa using h1),List.length_map,← List.getD_eq_getElem?_getD]
  rw [e1,e2]
  exact hr _
theorem plainA_length:∀ (l:List (Option TypeId)) (ds:List D),(plainA l ds).length=ds.length
 | [],_=>rfl
 | some _::_,[]=>rfl
 | none::_,[]=>rfl
 | some _::l,_::r=>by simp [plainA,plainA_length l r]
 | none::l,_::r=>by simp [plainA,plainA_length l r]
theorem plainA_rep:∀ (l:List (Option TypeId)) (ds:List D) (vs:List Value),(∀ j,RepD (lfs T) S (ds.getD j .undef) (vs.getD j undef))→∀ j,RepD (lfs T) S ((plainA l ds).getD j .undef) (vs.getD j undef)
 | [],_,_,h=>h
 | some _::_,[],_,h=>h
 | none::_,[],_,h=>h
 | some e::l,d::r,vs,h=>fun j=>by
  cases j with
  | zero=>exact plain_rep (k:=.sl e) (h 0)
  | succ j =>
   have:=plainA_rep l r vs.tail (fun j=>by
    have:=h (j+1)
    cases vs <;> exact this) j
   cases vs <;> exact this
 | none::l,d::r,vs,h=>fun j=>by
  cases j with
  | zero=>exact h 0
  | succ j =>
   have:=plainA_rep l r vs.tail (fun j=>by
    have:=h (j+1)
    cases vs <;> exact this) j
   cases vs <;> exact this
theorem run_enter {E:Env} (hE:EnvOk P E) {c:Call} {fo:Operand} {g:FuncId} {us:List Value} (ho:o.op=.call c) (hc:c.callee=.value fo) (hfv:a.eval fo=.func (.func g) #[] us.toArray) (hent:E.ent g=true) :
  (execOp a.eval o).run P S.w=.ok (.enter g (c.args.toList.map a.eval++us).toArray) S.w:=by
 have e1:c.args.map a.eval=(c.args.toList.map a.eval).toArray:=by apply Array.ext'; simp
 simp only [execOp,ho,resolve,hc,hfv,Deferred.ofValue,Sem.run_bind,show ∀ (α:Type) (x:α),(pure x:Sem α).run P S.w=.ok x S.w from fun _ _=>rfl,Result.andThen_ok,invoke]
 rw [hE.ent g hent]
 simp [e1]
theorem ok_callA {E:Env} (hE:EnvOk P E) (c:Call) (fo:Operand) (g:FuncId) (args:List D) (us:List Value) (q:D→St→Heap→Prop) (ho:o.op=.call c) (hc:c.callee=.value fo) (hrel:Rel (lfs E.T) st H a S) (hinv:Inv S0 S)
  (hfv:a.eval fo=.func (.func g) #[] us.toArray) (hlen:args.length=(c.args.toList.map a.eval++us).length) (hreps:∀ j,RepD (lfs E.T) S (args.getD j .undef) ((c.args.toList.map a.eval++us).getD j undef))
  (h:evCall E g args st H q):OpOk P E.T S0 o a S q:=by
 unfold evCall at h
 split at h
 ·split at h
  ·rename_i x y hext
   intro next Q hnext
   ·match hus:c.args.toList.map a.eval++us,hlen with
    | [u1,u2],_ =>
     rw [hus] at hreps
     have e1:u1=.string x.str:=(show RepD (lfs E.T) S (.v .str x) u1 from hreps 0).str_inv
     have e2:u2=.string y.str:=(show RepD (lfs E.T) S (.v .str y) u2 from hreps 1).str_inv
     subst e1 e2
     unfold Oper.wp
     have hrun:(execOp a.eval o).run P S.w=.ok (.value (.int .i64 (Lib.compareBytes x.str.data.toList y.str.data.toList))) S.w:=by
      have e1:(#[]++c.args.map a.eval++us.toArray)=#[.string x.str,.string y.str]:=by
       apply Array.ext'; simp; simpa using hus
      simp only [execOp,ho,resolve,hc,hfv,Deferred.ofValue,Sem.run_bind,show ∀ (α:Type) (x:α),(pure x:Sem α).run P S.w=.ok x S.w from fun _ _=>rfl,Result.andThen_ok,invoke]
      rw [e1,hE.ext _ hext]
     rw [hrun]
     exact hnext _ _ st H S h hrel hinv (RepD.mkInt _)
  ·exact h.elim
 ·rename_i hent
  simp only at h
  split at h
  ·exact h.elim
  ·rename_i hok
   ·intro next Q hnext
    unfold Oper.wp
    rw [run_enter hE ho hc hfv hent]
    generalize args=args0 at *
    generalize c.args.toList.map a.eval++us=vs at *
    have hlen:(plainA (E.nils g) args0).length=vs.length:=by rw [plainA_length]; exact hlen
    have hreps:=plainA_rep (E.nils g) args0 vs hreps
    generalize plainA (E.nils g) args0=args at *
    generalize rsOf st H args=rs at *
    obtain ⟨k1,k2,k3,k4,k5⟩:=okRefs_spec hrel hok
    rw [k5] at h
    have hwf1:=hrel.wf.sub k1 k3 k4
    have hcall:=hE.call _ _ _ _ h (S.sub rs) vs rfl rfl rfl rfl hwf1 (by rw [mapRL_length]; exact hlen)
     (fun j=>by rw [mapRL_getD]; exact RepD.ren (S:=S) (S':=S.sub rs) (fun _ h=>h) (fun _ _=>rfl) (renR rs) (hreps j) fun r hr=>sub_keep S (k2 r (refs_getD hr))) (renL_noloc rs args)
    refine hcall.mono fun e w' ⟨v,r,S1,he,hw,hL,hla,_,hwf',hrv,hlr,hext,hr',hH',hq⟩=>?_
    subst he
    split at hq
    ·exact hq.elim
    ·rename_i hbd
     have hlen1:S1.H.length=rs.length:=by rw [hH',reshapes_length]; simp [Sig.sub]
     obtain ⟨b1,b2,b3⟩:=hrel.join hinv k1 k3 k4 hL hla hwf' hext hlen1 (fun i r' hr'=>by
      have:r'∈(S1.H.getD i .dead).refs:=hr'
      rw [hH'] at this
      exact reshapes_refs _ _ i r' this)
     rw [← hH'] at hq
     rw [← hw]
     refine hnext _ v _ _ (S.join rs S1) hq b1 b2 ?_
     refine b3 hbd ?_
     rw [← hr']; exact hrv
theorem Rel.newRowF (hrel:Rel (lfs T) st H a S) (hinv:Inv S0 S) (i:Nat) (e:TypeId) (xs:List (List V)) (w':World) (v:Value) (hg:S.w.grownBy w' none)
  (hrow:(xs=[]∧v=.slice none 0 0)∨∃ b c arr,S.w.heap.size≤b∧v=.slice (some ⟨b,0,none⟩) xs.length c∧w'.heap[b]?=some (.cells arr e (0,0)) ∧
   arr.size=c*(lfs T e).length∧xs.length≤c∧c≤maxLen∧(∀ i,i<xs.length→(xs.getD i []).length=(lfs T e).length) ∧
   ∀ i j,i<xs.length→j<(lfs T e).length→RepK (lfs T) S.w S.F ((lfs T e).getD j .oth) ((xs.getD i []).getD j V.none) (arr.getD (i*(lfs T e).length+j) undef)) :
  ∃ S',S'.w=w'∧Rel (lfs T) (Abs.newLoc i (.row e xs) st) H a S'∧Inv S0 S'∧RepD (lfs T) S' (.osl (.loc i) xs.length) v:=by
 have hw:∀ b,b<S.w.heap.size→w'.heap[b]?=S.w.heap[b]?:=fun b hb=>hg.block b hb (by simp)
 have key:∀ (bc:Option (Nat×Nat)),(∀ x,bc=some x→S.w.heap.size≤x.1∧x.1<w'.heap.size)→((bc=none∧xs=[])∨∃ b c arr,bc=some (b,c)∧w'.heap[b]?=some (.cells arr e (0,0))∧arr.size=c*(lfs T e).length∧xs.length≤c∧c≤maxLen∧(∀ i,i<xs.length→(xs.getD i []).length=(lfs T e).length) ∧
   ∀ i j,i<xs.length→j<(lfs T e).length→RepK (lfs T) w' S.F ((lfs T e).getD j .oth) ((xs.getD i []).getD j V.none) (arr.getD (i*(lfs T e).length+j) undef))→v=rowVal xs.length bc →
   ∃ S',S'.w=w'∧Rel (lfs T) (Abs.newLoc i (.row e xs) st) H a S'∧Inv S0 S'∧RepD (lfs T) S' (.osl (.loc i) xs.length) v:=by
  intro bc hbc hob hv
  obtain ⟨h1,h2⟩:=Rel.newLoc hrel hinv i (.row e xs) bc w' hg.size hw hg.os hg.tape hg.output hbc hob
  refine ⟨_,rfl,h1,h2,.osl _ _ _ ⟨trivial,by rw [hv]; unfold rowVal; split <;> rfl⟩ fun e' xs' h3=>?_⟩
  rcases newSig_obj hrel.wf i (.row e xs) bc w' (.loc i) with ⟨_,_,h5,h6⟩ | ⟨h5,h4,h6⟩ | ⟨⟨k,hk⟩,_⟩
  ·rw [h5] at h3; cases h3
   exact ⟨Nat.le_refl _,fun _=>by rw [h6]; exact hv⟩
  ·have:=h5 rfl
   rw [h4] at h3
   have h7:S.L.getD i .dead=.dead:=by
    rw [List.getD_eq_getElem?_getD,List.getElem?_eq_none (by omega)]; rfl
   rw [show S.obj (.loc i)=.dead from h7] at h3
   cases h3
  ·cases hk
 rcases hrow with ⟨h1,h2⟩ | ⟨b,c,arr,h1,h2,h3,h4,h5,h6,h7,h8⟩
 ·exact key none (fun x hx=>by cases hx) (.inl ⟨rfl,h1⟩) (by rw [h2,h1]; rfl)
 ·have hlt:b<w'.heap.size:=by
   rcases Nat.lt_or_ge b w'.heap.size with h9 | h9
   ·exact h9
   ·rw [Array.getElem?_eq_none h9] at h3; cases h3
  exact key (some (b,c)) (fun x hx=>by cases hx; exact ⟨h1,hlt⟩) (.inr ⟨b,c,arr,rfl,h3,h4,h5,h6,h7,fun i j hi hj=>RepK.mono (w:=S.w) (F:=S.F) (fun _ h=>h) (fun b hb=>hw b (hrel.wf.frozen b hb).1) (h8 i j hi hj)⟩) h2
theorem ok_call {E:Env} (hE:EnvOk P E) (c:Call) (fo:Operand) (g:FuncId) (caps:List D) (q:D→St→Heap→Prop) (ho:o.op=.call c) (hc:c.callee=.value fo) (hrel:Rel (lfs E.T) st H a S) (hinv:Inv S0 S)
  (hf:st.eval fo=.fn g caps) (h:evCallO E g o.dst (c.args.toList.map st.eval++caps) st H q):OpOk P E.T S0 o a S q:=by
 have hfo:=hrel.eval fo
 rw [hf] at hfo
 generalize hfv:a.eval fo=u at hfo
 cases hfo with
 | fn _ _ us hl hr =>
  have hlen:(c.args.toList.map st.eval++caps).length=(c.args.toList.map a.eval++us).length:=by simp [hl]
  have hreps:=call_reps hrel c.args.toList hl hr
  unfold evCallO at h
  split at h
  ·rename_i e hfr
   split at h
   ·rename_i d hd hent hany
    obtain ⟨xs,hp,hq⟩:=h
    have hA:=hE.fresh _ _ _ _ hfr hp S (c.args.toList.map a.eval++us) hrel.wf hlen hreps
    intro next Q hnext
    unfold Oper.wp
    rw [run_enter hE ho hc hfv hent]
    refine hA.mono fun r w' ⟨v,he,hg,hrow⟩=>?_
    subst he
    obtain ⟨S',g1,g2,g3,g4⟩:=Rel.newRowF hrel hinv d e xs w' v hg hrow
    rw [← g1]
    exact hnext _ v _ _ S' hq g2 g3 g4
   ·exact h.elim
  split at h
  ·rename_i k e d hd1 hd2
   split at h
   ·rename_i hnil
    obtain ⟨h1,h2,h3⟩:=Rel.newRow hrel hinv d e
    generalize c.args.toList.map st.eval++caps=args at *
    have hsc:∀ j,RepD (lfs E.T) (newSig S d (.row e []) none S.w) ((args.map (scrubD d)).getD j .undef) ((c.args.toList.map a.eval++us).getD j undef):=fun j=>by
     rw [getD_map_scrub]
     exact newSig_repD (w':=S.w) hrel.wf (fun _ _=>rfl) (hreps j)
    have:=ok_callA (S:=newSig S d (.row e []) none S.w) hE c fo g _ us q ho hc h1 h2 hfv (by simpa using hlen) (fun j=>?_) h
    ·exact this
    rw [set_getD]
    split
    ·rename_i hj
     have hk:=hreps k
     rw [hnil] at hk
     rw [hj.1]
     generalize (c.args.toList.map a.eval++us).getD k undef=v at hk
     cases hk
     exact h3
    ·exact hsc j
   ·exact ok_callA hE c fo g _ us q ho hc hrel hinv hfv hlen hreps h
  ·exact ok_callA hE c fo g _ us q ho hc hrel hinv hfv hlen hreps h
theorem map_one {f:Operand→D} {l:Array Operand} {x:D} (h:l.toList.map f=[x]):∃ y,l=#[y]∧f y=x:=by
 obtain ⟨l⟩:=l
 match l,h with
 | [y],h=>exact ⟨y,rfl,by simpa using h⟩
theorem map_two {f:Operand→D} {l:Array Operand} {x y:D} (h:l.toList.map f=[x,y]):∃ x' y',l=#[x',y']∧f x'=x∧f y'=y:=by
 obtain ⟨l⟩:=l
 match l,h with
 | [x',y'],h=>exact ⟨x',y',rfl,by simpa using h⟩
theorem ok_builtin {E:Env} (hE:EnvOk P E) (b:Builtin) (cargs:Array Operand) (cts:Array TypeId) (q:D→St→Heap→Prop) (ho:o.op=.call { callee:=.builtin b,args:=cargs,argTypes:=cts }) (hrel:Rel (lfs E.T) st H a S) (hinv:Inv S0 S)
  (h:evBuiltin E b cts.toList o.dst (cargs.toList.map st.eval) st H q):OpOk P E.T S0 o a S q:=by
 have hT:=hE.tab
 unfold evBuiltin at h
 split at h
 ·rename_i x hl
  split at h
  ·rename_i t ht
   obtain ⟨y,rfl,rfl⟩:=map_one hl
   obtain rfl:cts=#[t]:=by apply Array.ext'; simpa using ht
   exact ok_len hT y t q ho hrel hinv h
  ·exact h.elim
 ·rename_i s x hl
  split at h
  ·rename_i t t' ht
   obtain ⟨s',x',rfl,rfl,rfl⟩:=map_two hl
   obtain rfl:cts=#[t,t']:=by apply Array.ext'; simpa using ht
   split at h
   ·rename_i e d htt he hd
    have htt':t=t':=by simpa using htt
    subst htt'
    split at h
    ·rename_i hn
     exact ok_append hT t e s' x' d q ho he (by simpa using hn) hrel hinv h
    ·exact h.elim
   ·exact h.elim
  ·exact h.elim
 ·rename_i hl
  have h':=h
  unfold evMinMax at h'
  split at h'
  ·rename_i k m k' n hl2
   obtain ⟨s',x',rfl,h1,h2⟩:=map_two hl2
   refine ok_minmax true s' x' cts q ho hrel hinv ?_
   simpa using h
  ·exact h'.elim
 ·rename_i hl
  have h':=h
  unfold evMinMax at h'
  split at h'
  ·rename_i k m k' n hl2
   obtain ⟨s',x',rfl,h1,h2⟩:=map_two hl2
   refine ok_minmax false s' x' cts q ho hrel hinv ?_
   simpa using h
  ·exact h'.elim
 ·exact h.elim
theorem ok_op {E:Env} (hE:EnvOk P E) (o:Oper) (q:D→St→Heap→Prop) (hrel:Rel (lfs E.T) st H a S) (hinv:Inv S0 S) (h:evOp E o st H q):OpOk P E.T S0 o a S q:=by
 have hT:=hE.tab
 unfold evOp at h
 split at h
 ·rename_i x ho; exact ok_move x q (.inl ho) hrel hinv h
 ·rename_i x ho; exact ok_move x q (.inr ho) hrel hinv h
 ·rename_i c x y ho; exact ok_pick c x y q ho hrel hinv h
 ·rename_i e ho
  split at h
  ·rename_i d hd hn
   exact ok_alloc hT e d q ho hd (by simpa using hn) hrel hinv h
  ·exact h.elim
 ·rename_i e x ho
  split at h
  ·split at h
   ·rename_i ys hc
    exact ok_boxF hT e x ys q ho hrel hinv hc h
   ·exact h.elim
  ·split at h
   ·rename_i d hd hn
    obtain ⟨_,hn2⟩:_∧(st.eval x).cells.all D.isCell=true:=by simpa using hn
    exact ok_box hT e x d q ho hrel hinv (by simpa using hn2) h
   ·exact h.elim
 ·rename_i t parts ho; exact ok_build hT t parts q ho hrel hinv h
 ·rename_i t n parts ho; exact ok_buildSlice hT (litOf E o.dst) t n parts q ho hrel hinv h
 ·rename_i t x ho; exact ok_load hT t x q ho hrel hinv h
 ·rename_i t x y ho; exact ok_store hT t x y q ho hrel hinv h
 ·rename_i x ho; exact ok_nilCheck x q ho hrel hinv h
 ·rename_i op xt x y yt ho; exact ok_bin hT op xt yt x y q ho hrel hinv h
 ·rename_i op xt x ho; exact ok_un op xt x q ho hrel hinv h
 ·rename_i s x f ho; exact ok_fieldAddr hT s x f q ho hrel hinv h
 ·rename_i s x f ho; exact ok_field hT s x f q ho hrel hinv h
 ·rename_i t x i ho; exact ok_indexAddr hT t x i q ho hrel hinv h
 ·rename_i t x i ho; exact ok_index hT t x i q ho hrel hinv h
 ·rename_i t x lo hi ho; exact ok_slice hT t x lo hi q ho hrel hinv h
 ·rename_i f first caps ho; exact ok_makeFunc f first caps q ho hrel hinv h
 ·rename_i s t x ho; exact ok_convert hT s t x q ho hrel hinv h
 ·rename_i t x y ho
  split at h
  ·rename_i d hd
   exact ok_makeSlice hT t x y d q ho hrel hinv h
  ·exact h.elim
 ·rename_i t ho
  split at h
  ·rename_i d hd
   exact ok_makeMap hT t d q ho hd hrel hinv h
  ·exact h.elim
 ·rename_i t x i ok ho; exact ok_lookup hT t x i ok q ho hrel hinv h
 ·rename_i t m k x ho; exact ok_mapUpdate hT t m k x q (.inl ho) hrel hinv h
 ·rename_i t m k x ho; exact ok_mapUpdate hT t m k x q (.inr ho) hrel hinv h
 ·rename_i t x ho
  split at h
  ·rename_i d hd
   exact ok_range hT t x d q ho hd hrel hinv h
  ·exact h.elim
 ·rename_i it ho; exact ok_next hT it q ho hrel hinv h
 ·rename_i it ho; exact ok_entry hT it q ho hrel hinv h
 ·rename_i x i ho; exact ok_extract x i q ho hrel hinv h
 ·rename_i c ho
  split at h
  ·rename_i b hb
   obtain ⟨callee,cargs,cts⟩:=c
   simp only at hb
   subst hb
   exact ok_builtin hE b cargs cts q ho hrel hinv h
  ·rename_i f hf
   split at h
   ·rename_i g caps hg
    exact ok_call hE c f g caps q ho hf hrel hinv hg h
   ·exact h.elim
  ·exact h.elim
 ·exact h.elim
theorem Rel.repl' (hrel:Rel (lfs T) st H a S) (g:Nat) {d:D} (hd:RepD (lfs T) S d (a.tmps.getD g undef)):Rel (lfs T) ⟨st.tmps.set g d,st.loc⟩ H a S:=by
 refine ⟨hrel.H,hrel.L,by simpa using hrel.size,hrel.defers,fun j=>?_,hrel.wf⟩
 show RepD _ _ ((st.tmps.set g d).getD j .undef) _
 rw [set_getD]
 split
 ·rename_i h; rw [h.1]; exact hd
 ·exact hrel.rep j
theorem Rel.adj1 (hinv:Inv S0 S) (x:Adj) (hrel:Rel (lfs T) st H a S):∃ S',S'.w=S.w∧Rel (lfs T) (Abs.adj1 x st) H a S'∧Inv S0 S':=by
 cases x with
 | undef t =>
  refine ⟨S,rfl,⟨hrel.H,hrel.L,by simpa [Abs.adj1] using hrel.size,hrel.defers,fun j=>?_,hrel.wf⟩,hinv⟩
  show RepD _ _ ((st.tmps.set t .undef).getD j .undef) _
  rw [set_getD]
  split
  ·exact .undef _
  ·exact hrel.rep j
 | dead i=>exact ⟨newSig S i .dead none S.w,rfl,Rel.drop hrel hinv i⟩
 | ownT t i e =>
  simp only [Abs.adj1]
  split
  ·rename_i hnil
   obtain ⟨h1,h2,h3⟩:=Rel.newRow hrel hinv i e
   have hx:=hrel.rep t
   rw [hnil] at hx
   have hv:a.tmps.getD t Go.undef=.slice none 0 0:=by
    generalize a.tmps.getD t Go.undef=u at hx
    cases hx; rfl
   refine ⟨newSig S i (.row e []) none S.w,rfl,⟨h1.H,h1.L,by simpa using h1.size,h1.defers,fun j=>?_,h1.wf⟩,h2⟩
   show RepD _ _ (((Abs.newLoc i (.row e []) st).tmps.set t (.osl (.loc i) 0)).getD j .undef) _
   rw [set_getD]
   split
   ·rename_i h
    rw [h.1,hv]
    exact h3
   ·exact h1.rep j
  ·exact ⟨S,rfl,hrel,hinv⟩
 | ownC l j i e =>
  simp only [Abs.adj1]
  split
  ·rename_i cs hl hli
   have hne:l≠i:=fun h=>by rw [h,Nat.beq_refl i] at hli; cases hli
   split
   ·rename_i hnil
    obtain ⟨h1,h2,h3⟩:=Rel.newRow hrel hinv i e
    have hob:S.obj (.loc l)=.cells cs:=by rw [hrel.getO_obj]; exact hl
    obtain ⟨b,c,e',arr,hb,hh,hsz,hr⟩:=hrel.wf.cells hob
    have hol:(newSig S i (.row e []) none S.w).obj (.loc l)=.cells (cs.map (scrubD i))∧(newSig S i (.row e []) none S.w).blk (.loc l)=some (b,c):=by
     rcases newSig_obj hrel.wf i (.row e []) none S.w (.loc l) with ⟨h4,_⟩ | ⟨_,h4,h5⟩ | ⟨⟨k,hk⟩,_⟩
     ·exact absurd h4 (fun h=>hne (by cases h; rfl))
     ·rw [h4,hob,h5]; exact ⟨rfl,hb⟩
     ·cases hk
    have hhas:(newSig S i (.row e []) none S.w).has (.loc l):=Sig.has_of (by rw [hol.1]; intro h; cases h)
    have hjl:∀ (h:j<cs.length),arr.getD j undef=.slice none 0 0:=fun h=>by
     have h4:=(hr j h).1
     rw [hnil] at h4
     generalize arr.getD j undef=u at h4
     cases h4; rfl
    obtain ⟨g1,g2,_⟩:=Rel.upd h1 h2 (.loc l) (.cells ((cs.map (scrubD i)).set j (.osl (.loc i) 0))) (some (b,c)) S.w hhas (Nat.le_refl _) (fun _ _ _=>rfl) rfl rfl rfl
     (fun x hx=>by cases hx; exact ⟨.inl ⟨_,hol.2,rfl⟩,hrel.wf.lt _ _ hb⟩)
     (by
      obtain ⟨j1,j2⟩:=Sig.upd_at h1.wf hhas (.cells ((cs.map (scrubD i)).set j (.osl (.loc i) 0))) (some (b,c)) S.w
      refine ⟨fun bc j3 j4=>⟨by rw [hol.1]; rfl,?_⟩,fun e' xs' j3=>?_,fun e' xs' j3=>(by rw [j1] at j3; cases j3)⟩
      ·rw [j2] at j4; rw [hol.2]; exact j4
      ·rw [j1] at j3; cases j3)
     (fun _ h=>by cases h)
     (fun mD mK=>⟨b,c,e',arr,rfl,by rw [Sig.upd_w]; exact hh,by simpa using hsz,fun k hk=>by
      have hk':k<cs.length:=by simpa using hk
      rw [set_getD]
      split
      ·rename_i h
       rw [h.1,hjl (h.1▸hk')]
       exact ⟨mD h3,rfl⟩
      ·rw [getD_map_scrub]
       exact ⟨mD (newSig_repD (w':=S.w) hrel.wf (fun _ _=>rfl) (hr k hk').1),(hr k hk').2⟩⟩)
    exact ⟨_,by rw [Sig.upd_w],g1,g2⟩
   ·exact ⟨S,rfl,hrel,hinv⟩
  ·exact ⟨S,rfl,hrel,hinv⟩
 | plainT t e=>exact ⟨S,rfl,hrel.repl' t (plain_rep (hrel.rep t)),hinv⟩
 | plainC l j e =>
  simp only [Abs.adj1]
  split
  ·rename_i cs hl
   have hob:S.obj (.loc l)=.cells cs:=by rw [hrel.getO_obj]; exact hl
   obtain ⟨b,c,e',arr,hb,hh,hsz,hr⟩:=hrel.wf.cells hob
   have hhas:S.has (.loc l):=Sig.has_of (by rw [hob]; intro h; cases h)
   obtain ⟨g1,g2,_⟩:=Rel.upd hrel hinv (.loc l) (.cells (cs.set j ((cs.getD j .undef).plain (.sl e)))) (some (b,c)) S.w hhas (Nat.le_refl _) (fun _ _ _=>rfl) rfl rfl rfl
    (fun x hx=>by cases hx; exact ⟨.inl ⟨_,hb,rfl⟩,hrel.wf.lt _ _ hb⟩)
    (by
     obtain ⟨j1,j2⟩:=Sig.upd_at hrel.wf hhas (.cells (cs.set j ((cs.getD j .undef).plain (.sl e)))) (some (b,c)) S.w
     refine ⟨fun bc j3 j4=>⟨by rw [hob]; rfl,?_⟩,fun e' xs' j3=>?_,fun e' xs' j3=>(by rw [j1] at j3; cases j3)⟩
     ·rw [j2] at j4; rw [hb]; exact j4
     ·rw [j1] at j3; cases j3)
    (fun _ h=>by cases h)
    (fun mD mK=>⟨b,c,e',arr,rfl,by rw [Sig.upd_w]; exact hh,by simpa using hsz,fun k hk=>by
     have hk':k<cs.length:=by simpa using hk
     rw [set_getD]
     split
     ·rename_i h
      rw [h.1]
      exact ⟨mD (plain_rep (hr j (h.1▸hk')).1),(hr j (h.1▸hk')).2⟩
     ·exact ⟨mD (hr k hk').1,(hr k hk').2⟩⟩)
   exact ⟨_,Sig.upd_w _ _ _ _ _,g1,g2⟩
  ·exact ⟨S,rfl,hrel,hinv⟩
theorem Rel.adj:∀ (l:List Adj) {st:St} {S:Sig},Inv S0 S→Rel (lfs T) st H a S→∃ S',S'.w=S.w∧Rel (lfs T) (Abs.adj l st) H a S'∧Inv S0 S'
 | [],st,S,hinv,hrel=>⟨S,rfl,hrel,hinv⟩
 | x::r,st,S,hinv,hrel=>by
  obtain ⟨S1,h1,h2,h3⟩:=Rel.adj1 hinv x hrel
  obtain ⟨S2,k1,k2,k3⟩:=Rel.adj r h3 h2
  exact ⟨S2,k1.trans h1,k2,k3⟩
theorem Rel.frz1 (hrel:Rel (lfs T) st H a S) (hinv:Inv S0 S) {l j i:Nat} {cs:List D} {e:TypeId} {xs:List (List V)} {n:Nat} (hl:st.loc.getD l .dead=.cells cs) (hi:st.loc.getD i .dead=.row e xs) (hli:l≠i) (hj:cs.getD j .undef=.osl (.loc i) n) (hn:n=xs.length) :
  ∃ S',S'.w=S.w∧Rel (lfs T) ⟨(Abs.newLoc i .dead st).tmps,(Abs.newLoc i .dead st).loc.set l (.cells ((cs.map (scrubD i)).set j (.v (.sl e) (.l xs))))⟩ H a S'∧Inv S0 S':=by
 have hwf:=hrel.wf
 have hobi:S.obj (.loc i)=.row e xs:=by rw [hrel.getO_obj]; exact hi
 have hobl:S.obj (.loc l)=.cells cs:=by rw [hrel.getO_obj]; exact hl
 -- the row's blocks are data from now on
 let F':Nat→Prop:=fun b=>S.F b∨∃ x,S.blk (.loc i)=some x∧x.1=b
 obtain ⟨h1,h2⟩:=Rel.drop hrel hinv i
 let S1:Sig:=newSig S i .dead none S.w
 have hb1:∀ r x,S1.blk r=some x→S.blk r=some x∧r≠.loc i:=fun r x hx=>by
  have hx0:=hx
  rcases newSig_obj hwf i .dead none S.w r with ⟨_,_,_,g⟩ | ⟨g0,_,g⟩ | ⟨⟨k,hk⟩,_,g⟩
  ·rw [show S1.blk r=none from g] at hx; cases hx
  ·refine ⟨by rw [← g]; exact hx,fun hr=>?_⟩
   subst hr
   have:=g0 rfl
   have h7:S.la.getD i none=none:=by
    rw [List.getD_eq_getElem?_getD,List.getElem?_eq_none (by rw [hwf.lalen]; omega)]; rfl
   rw [show S1.blk (.loc i)=S.blk (.loc i) from g,show S.blk (.loc i)=none from h7] at hx0
   cases hx0
  ·exact ⟨by rw [← g]; exact hx,fun hr=>by rw [hk] at hr; cases hr⟩
 let S2:Sig:={ S1 with F:=F' }
 have mK1:∀ {k:K} {x:V} {u:Value},RepK (lfs T) S1.w S1.F k x u→RepK (lfs T) S2.w S2.F k x u:=fun h=>RepK.mono (w:=S1.w) (w':=S2.w) (F:=S1.F) (F':=S2.F) (fun b hb=>.inl hb) (fun _ _=>rfl) h
 have mD:∀ {d:D} {u:Value},RepD (lfs T) S1 d u→RepD (lfs T) S2 d u:=fun {d u} h =>
  RepD.mono (S:=S1) (S':=S2) (Nat.le_refl _) (fun b hb=>.inl hb) (fun _ _=>rfl) (p:=fun _=>false) (fun r _ _=>.refl rfl rfl) (anyR_false d) h
 have hwf1:=h1.wf
 have hwf2:Wf (lfs T) S2:=by
  refine ⟨fun b hb=>?_,hwf1.inj,hwf1.lt,fun r=>?_,hwf1.own,hwf1.mulen,hwf1.lalen,hwf1.mark.1,fun d hd=>⟨(hwf1.mark.2 d hd).1,(hwf1.mark.2 d hd).2.1,fun hF=>hF.elim (hwf.mark.2 d hd).2.2 fun ⟨x,hx,he⟩=>(hwf.mark.2 d hd).2.1 _ x hx he⟩⟩
  ·rcases hb with hb | ⟨x,hx,rfl⟩
   ·exact hwf1.frozen b hb
   ·refine ⟨hwf.lt _ x hx,fun r y hy he=>?_⟩
    obtain ⟨g1,g2⟩:=hb1 r y hy
    exact g2 (hwf.inj r (.loc i) y x g1 hx he)
  ·have:=hwf1.obj r
   show ObjRep (lfs T) S2 (S1.obj r) (S1.blk r)
   cases hr:S1.obj r with
   | cells cs =>
    rw [hr] at this
    obtain ⟨b,c,e,arr,h3,h4,h5,h6⟩:=this
    exact ⟨b,c,e,arr,h3,h4,h5,fun j hj=>⟨mD (h6 j hj).1,(h6 j hj).2⟩⟩
   | row e xs =>
    rw [hr] at this
    rcases this with h3 | ⟨b,c,arr,h3,h4,h5,h6,h7,h9,h8⟩
    ·exact .inl h3
    ·exact .inr ⟨b,c,arr,h3,h4,h5,h6,h7,h9,fun x y hx hy=>mK1 (h8 x y hx hy)⟩
   | map m xs =>
    rw [hr] at this
    obtain ⟨b,c,clock,ents,us,h3,h4,h5,h6,h7,h8⟩:=this
    exact ⟨b,c,clock,ents,us,h3,h4,h5,h6,h7,fun x y hx hy=>mK1 (h8 x y hx hy)⟩
   | iter m x n s =>
    rw [hr] at this
    obtain ⟨b,c,mb,h3,h4,h5,h6⟩:=this
    exact ⟨b,c,mb,h3,h4,mD h5,h6⟩
   | dead=>rw [hr] at this; exact this
 have hrel2:Rel (lfs T) (Abs.newLoc i .dead st) H a S2:=⟨h1.H,h1.L,h1.size,h1.defers,fun j=>mD (h1.rep j),hwf2⟩
 have hinv2:Inv S0 S2:=by
  have he:=h2.ext
  refine ⟨⟨he.size,he.os,he.tape,he.output,he.block,fun b hb=>.inl (he.F b hb),fun b hb hF=>?_,he.len,fun k hk=>(he.keep k hk).trans (.refl rfl rfl),he.fresh⟩,h2.loc,h2.mkd⟩
  rcases hF with hF | ⟨x,hx,rfl⟩
  ·exact he.Fnew b hb hF
  ·have:=hinv.loc i x hx; omega
 -- the cell
 obtain ⟨b,c,e',arr,hb,hh,hsz,hr⟩:=hwf.cells hobl
 have hol:S2.obj (.loc l)=.cells (cs.map (scrubD i))∧S2.blk (.loc l)=some (b,c):=by
  rcases newSig_obj hwf i .dead none S.w (.loc l) with ⟨h4,_⟩ | ⟨_,h4,h5⟩ | ⟨⟨k,hk⟩,_⟩
  ·exact absurd h4 (fun h=>hli (by cases h; rfl))
  ·exact ⟨by rw [show S2.obj (.loc l)=scrubO i (S.obj (.loc l)) from h4,hobl]; rfl,by rw [show S2.blk (.loc l)=S.blk (.loc l) from h5]; exact hb⟩
  ·cases hk
 have hhas:S2.has (.loc l):=Sig.has_of (by rw [hol.1]; intro h; cases h)
 have hdata:∀ (h:j<cs.length),RepD (lfs T) S2 (.v (.sl e) (.l xs)) (arr.getD j undef):=fun h=>by
  have h4:=(hr j h).1
  rw [hj] at h4
  cases h4 with
  | osl _ _ _ _ hu =>
   have hu':=(hu e xs hobi).2 hn
   rw [hu']
   rcases hwf.row hobi with ⟨h3,h5⟩ | ⟨b',c',arr',h3,h4,h5,h6,h7,h9,h8⟩
   ·rw [h3,hn,h5]
    exact .v _ _ _ (.sl0 e (.l []) none 0 rfl)
   ·rw [h3]
    refine .v _ _ _ ?_
    have:=RepK.sl (lf:=lfs T) (w:=S2.w) (F:=S2.F) e (.l xs) b' 0 c' (fun i j=>arr'.getD (i*(lfs T e).length+j) undef) (.inr ⟨_,h3,rfl⟩) ⟨h6,h7⟩ h9
     (fun i j hi hj=>by
      have hi':i<xs.length:=hi
      have h10:=Nat.mul_le_mul_right (lfs T e).length (show i+1≤c' by omega)
      rw [Nat.add_mul,Nat.one_mul] at h10
      rw [Nat.zero_add]
      exact cell_of h4 (by omega))
     (fun i j hi hj=>RepK.mono (w:=S.w) (w':=S2.w) (F:=S.F) (F':=S2.F) (fun b hb=>.inl hb) (fun _ _=>rfl) (h8 i j hi hj))
    rw [list_l,← hn] at this
    exact this
 obtain ⟨g1,g2,_⟩:=Rel.upd hrel2 hinv2 (.loc l) (.cells ((cs.map (scrubD i)).set j (.v (.sl e) (.l xs)))) (some (b,c)) S.w hhas (Nat.le_refl _) (fun _ _ _=>rfl) rfl rfl rfl
  (fun x hx=>by cases hx; exact ⟨.inl ⟨_,hol.2,rfl⟩,hwf.lt _ _ hb⟩)
  (by
   obtain ⟨j1,j2⟩:=Sig.upd_at hwf2 hhas (.cells ((cs.map (scrubD i)).set j (.v (.sl e) (.l xs)))) (some (b,c)) S.w
   refine ⟨fun bc j3 j4=>⟨by rw [hol.1]; rfl,?_⟩,fun e' xs' j3=>?_,fun e' xs' j3=>(by rw [j1] at j3; cases j3)⟩
   ·rw [j2] at j4; rw [hol.2]; exact j4
   ·rw [j1] at j3; cases j3)
  (fun _ h=>by cases h)
  (fun mD' mK'=>⟨b,c,e',arr,rfl,by rw [Sig.upd_w]; exact hh,by simpa using hsz,fun k hk=>by
   have hk':k<cs.length:=by simpa using hk
   rw [set_getD]
   split
   ·rename_i h
    rw [h.1]
    exact ⟨mD' (hdata (h.1▸hk')),(hr j (h.1▸hk')).2⟩
   ·rw [getD_map_scrub]
    exact ⟨mD' (mD (newSig_repD (w':=S.w) hwf (fun _ _=>rfl) (hr k hk').1)),(hr k hk').2⟩⟩)
 exact ⟨_,by rw [Sig.upd_w],g1,g2⟩
theorem Rel.repl (hrel:Rel (lfs T) st H a S) (g:Nat) {d:D} (hd:RepD (lfs T) S d (a.tmps.getD g undef)):Rel (lfs T) (st.put (some g) d) H a S:=by
 refine ⟨hrel.H,hrel.L,by simpa [St.put] using hrel.size,hrel.defers,fun j=>?_,hrel.wf⟩
 show RepD _ _ ((st.tmps.set g d).getD j .undef) _
 rw [set_getD]
 split
 ·rename_i h; rw [h.1]; exact hd
 ·exact hrel.rep j
theorem Rel.frzT1 (hrel:Rel (lfs T) st H a S) (hinv:Inv S0 S) {t i:Nat} {e:TypeId} {xs:List (List V)} {n:Nat} (hi:st.loc.getD i .dead=.row e xs) (hj:st.tmps.getD t .undef=.osl (.loc i) n) (hn:n=xs.length) :
  ∃ S',S'.w=S.w∧Rel (lfs T) ((Abs.newLoc i .dead st).put (some t) (.v (.sl e) (.l xs))) H a S'∧Inv S0 S':=by
 have hwf:=hrel.wf
 have hobi:S.obj (.loc i)=.row e xs:=by rw [hrel.getO_obj]; exact hi
 -- the row's blocks are data from now on
 let F':Nat→Prop:=fun b=>S.F b∨∃ x,S.blk (.loc i)=some x∧x.1=b
 obtain ⟨h1,h2⟩:=Rel.drop hrel hinv i
 let S1:Sig:=newSig S i .dead none S.w
 have hb1:∀ r x,S1.blk r=some x→S.blk r=some x∧r≠.loc i:=fun r x hx=>by
  have hx0:=hx
  rcases newSig_obj hwf i .dead none S.w r with ⟨_,_,_,g⟩ | ⟨g0,_,g⟩ | ⟨⟨k,hk⟩,_,g⟩
  ·rw [show S1.blk r=none from g] at hx; cases hx
  ·refine ⟨by rw [← g]; exact hx,fun hr=>?_⟩
   subst hr
   have:=g0 rfl
   have h7:S.la.getD i none=none:=by
    rw [List.getD_eq_getElem?_getD,List.getElem?_eq_none (by rw [hwf.lalen]; omega)]; rfl
   rw [show S1.blk (.loc i)=S.blk (.loc i) from g,show S.blk (.loc i)=none from h7] at hx0
   cases hx0
  ·exact ⟨by rw [← g]; exact hx,fun hr=>by rw [hk] at hr; cases hr⟩
 let S2:Sig:={ S1 with F:=F' }
 have mK1:∀ {k:K} {x:V} {u:Value},RepK (lfs T) S1.w S1.F k x u→RepK (lfs T) S2.w S2.F k x u:=fun h=>RepK.mono (w:=S1.w) (w':=S2.w) (F:=S1.F) (F':=S2.F) (fun b hb=>.inl hb) (fun _ _=>rfl) h
 have mD:∀ {d:D} {u:Value},RepD (lfs T) S1 d u→RepD (lfs T) S2 d u:=fun {d u} h =>
  RepD.mono (S:=S1) (S':=S2) (Nat.le_refl _) (fun b hb=>.inl hb) (fun _ _=>rfl) (p:=fun _=>false) (fun r _ _=>.refl rfl rfl) (anyR_false d) h
 have hwf1:=h1.wf
 have hwf2:Wf (lfs T) S2:=by
  refine ⟨fun b hb=>?_,hwf1.inj,hwf1.lt,fun r=>?_,hwf1.own,hwf1.mulen,hwf1.lalen,hwf1.mark.1,fun d hd=>⟨(hwf1.mark.2 d hd).1,(hwf1.mark.2 d hd).2.1,fun hF=>hF.elim (hwf.mark.2 d hd).2.2 fun ⟨x,hx,he⟩=>(hwf.mark.2 d hd).2.1 _ x hx he⟩⟩
  ·rcases hb with hb | ⟨x,hx,rfl⟩
   ·exact hwf1.frozen b hb
   ·refine ⟨hwf.lt _ x hx,fun r y hy he=>?_⟩
    obtain ⟨g1,g2⟩:=hb1 r y hy
    exact g2 (hwf.inj r (.loc i) y x g1 hx he)
  ·have:=hwf1.obj r
   show ObjRep (lfs T) S2 (S1.obj r) (S1.blk r)
   cases hr:S1.obj r with
   | cells cs =>
    rw [hr] at this
    obtain ⟨b,c,e,arr,h3,h4,h5,h6⟩:=this
    exact ⟨b,c,e,arr,h3,h4,h5,fun j hj=>⟨mD (h6 j hj).1,(h6 j hj).2⟩⟩
   | row e xs =>
    rw [hr] at this
    rcases this with h3 | ⟨b,c,arr,h3,h4,h5,h6,h7,h9,h8⟩
    ·exact .inl h3
    ·exact .inr ⟨b,c,arr,h3,h4,h5,h6,h7,h9,fun x y hx hy=>mK1 (h8 x y hx hy)⟩
   | map m xs =>
    rw [hr] at this
    obtain ⟨b,c,clock,ents,us,h3,h4,h5,h6,h7,h8⟩:=this
    exact ⟨b,c,clock,ents,us,h3,h4,h5,h6,h7,fun x y hx hy=>mK1 (h8 x y hx hy)⟩
   | iter m x n s =>
    rw [hr] at this
    obtain ⟨b,c,mb,h3,h4,h5,h6⟩:=this
    exact ⟨b,c,mb,h3,h4,mD h5,h6⟩
   | dead=>rw [hr] at this; exact this
 have hrel2:Rel (lfs T) (Abs.newLoc i .dead st) H a S2:=⟨h1.H,h1.L,h1.size,h1.defers,fun j=>mD (h1.rep j),hwf2⟩
 have hinv2:Inv S0 S2:=by
  have he:=h2.ext
  refine ⟨⟨he.size,he.os,he.tape,he.output,he.block,fun b hb=>.inl (he.F b hb),fun b hb hF=>?_,he.len,fun k hk=>(he.keep k hk).trans (.refl rfl rfl),he.fresh⟩,h2.loc,h2.mkd⟩
  rcases hF with hF | ⟨x,hx,rfl⟩
  ·exact he.Fnew b hb hF
  ·have:=hinv.loc i x hx; omega
 have hdata:RepD (lfs T) S2 (.v (.sl e) (.l xs)) (a.tmps.getD t undef):=by
  have h4:=hrel.rep t
  rw [hj] at h4
  generalize a.tmps.getD t undef=u at h4
  cases h4 with
  | osl _ _ _ _ hu =>
   have hu':=(hu e xs hobi).2 hn
   rw [hu']
   rcases hwf.row hobi with ⟨h3,h5⟩ | ⟨b',c',arr',h3,h4,h5,h6,h7,h9,h8⟩
   ·rw [h3,hn,h5]
    exact .v _ _ _ (.sl0 e (.l []) none 0 rfl)
   ·rw [h3]
    refine .v _ _ _ ?_
    have:=RepK.sl (lf:=lfs T) (w:=S2.w) (F:=S2.F) e (.l xs) b' 0 c' (fun i j=>arr'.getD (i*(lfs T e).length+j) undef) (.inr ⟨_,h3,rfl⟩) ⟨h6,h7⟩ h9
     (fun i j hi hj=>by
      have hi':i<xs.length:=hi
      have h10:=Nat.mul_le_mul_right (lfs T e).length (show i+1≤c' by omega)
      rw [Nat.add_mul,Nat.one_mul] at h10
      rw [Nat.zero_add]
      exact cell_of h4 (by omega))
     (fun i j hi hj=>RepK.mono (w:=S.w) (w':=S2.w) (F:=S.F) (F':=S2.F) (fun b hb=>.inl hb) (fun _ _=>rfl) (h8 i j hi hj))
    rw [list_l,← hn] at this
    exact this
 exact ⟨S2,rfl,hrel2.repl t hdata,hinv2⟩
theorem Rel.frzT2 (hrel:Rel (lfs T) st H a S) (hinv:Inv S0 S) {t i:Nat} {m:MT} {xs:List (List V)} (hi:st.loc.getD i .dead=.map m xs) (hj:st.tmps.getD t .undef=.mp (.loc i)) :
  ∃ S',S'.w=S.w∧Rel (lfs T) ((Abs.newLoc i .dead st).put (some t) (.v (.mp m) (.l xs))) H a S'∧Inv S0 S':=by
 have hwf:=hrel.wf
 have hobi:S.obj (.loc i)=.map m xs:=by rw [hrel.getO_obj]; exact hi
 -- the row's blocks are data from now on
 let F':Nat→Prop:=fun b=>S.F b∨∃ x,S.blk (.loc i)=some x∧x.1=b
 obtain ⟨h1,h2⟩:=Rel.drop hrel hinv i
 let S1:Sig:=newSig S i .dead none S.w
 have hb1:∀ r x,S1.blk r=some x→S.blk r=some x∧r≠.loc i:=fun r x hx=>by
  have hx0:=hx
  rcases newSig_obj hwf i .dead none S.w r with ⟨_,_,_,g⟩ | ⟨g0,_,g⟩ | ⟨⟨k,hk⟩,_,g⟩
  ·rw [show S1.blk r=none from g] at hx; cases hx
  ·refine ⟨by rw [← g]; exact hx,fun hr=>?_⟩
   subst hr
   have:=g0 rfl
   have h7:S.la.getD i none=none:=by
    rw [List.getD_eq_getElem?_getD,List.getElem?_eq_none (by rw [hwf.lalen]; omega)]; rfl
   rw [show S1.blk (.loc i)=S.blk (.loc i) from g,show S.blk (.loc i)=none from h7] at hx0
   cases hx0
  ·exact ⟨by rw [← g]; exact hx,fun hr=>by rw [hk] at hr; cases hr⟩
 let S2:Sig:={ S1 with F:=F' }
 have mK1:∀ {k:K} {x:V} {u:Value},RepK (lfs T) S1.w S1.F k x u→RepK (lfs T) S2.w S2.F k x u:=fun h=>RepK.mono (w:=S1.w) (w':=S2.w) (F:=S1.F) (F':=S2.F) (fun b hb=>.inl hb) (fun _ _=>rfl) h
 have mD:∀ {d:D} {u:Value},RepD (lfs T) S1 d u→RepD (lfs T) S2 d u:=fun {d u} h =>
  RepD.mono (S:=S1) (S':=S2) (Nat.le_refl _) (fun b hb=>.inl hb) (fun _ _=>rfl) (p:=fun _=>false) (fun r _ _=>.refl rfl rfl) (anyR_false d) h
 have hwf1:=h1.wf
 have hwf2:Wf (lfs T) S2:=by
  refine ⟨fun b hb=>?_,hwf1.inj,hwf1.lt,fun r=>?_,hwf1.own,hwf1.mulen,hwf1.lalen,hwf1.mark.1,fun d hd=>⟨(hwf1.mark.2 d hd).1,(hwf1.mark.2 d hd).2.1,fun hF=>hF.elim (hwf.mark.2 d hd).2.2 fun ⟨x,hx,he⟩=>(hwf.mark.2 d hd).2.1 _ x hx he⟩⟩
  ·rcases hb with hb | ⟨x,hx,rfl⟩
   ·exact hwf1.frozen b hb
   ·refine ⟨hwf.lt _ x hx,fun r y hy he=>?_⟩
    obtain ⟨g1,g2⟩:=hb1 r y hy
    exact g2 (hwf.inj r (.loc i) y x g1 hx he)
  ·have:=hwf1.obj r
   show ObjRep (lfs T) S2 (S1.obj r) (S1.blk r)
   cases hr:S1.obj r with
   | cells cs =>
    rw [hr] at this
    obtain ⟨b,c,e,arr,h3,h4,h5,h6⟩:=this
    exact ⟨b,c,e,arr,h3,h4,h5,fun j hj=>⟨mD (h6 j hj).1,(h6 j hj).2⟩⟩
   | row e xs =>
    rw [hr] at this
    rcases this with h3 | ⟨b,c,arr,h3,h4,h5,h6,h7,h9,h8⟩
    ·exact .inl h3
    ·exact .inr ⟨b,c,arr,h3,h4,h5,h6,h7,h9,fun x y hx hy=>mK1 (h8 x y hx hy)⟩
   | map m xs =>
    rw [hr] at this
    obtain ⟨b,c,clock,ents,us,h3,h4,h5,h6,h7,h8⟩:=this
    exact ⟨b,c,clock,ents,us,h3,h4,h5,h6,h7,fun x y hx hy=>mK1 (h8 x y hx hy)⟩
   | iter m x n s =>
    rw [hr] at this
    obtain ⟨b,c,mb,h3,h4,h5,h6⟩:=this
    exact ⟨b,c,mb,h3,h4,mD h5,h6⟩
   | dead=>rw [hr] at this; exact this
 have hrel2:Rel (lfs T) (Abs.newLoc i .dead st) H a S2:=⟨h1.H,h1.L,h1.size,h1.defers,fun j=>mD (h1.rep j),hwf2⟩
 have hinv2:Inv S0 S2:=by
  have he:=h2.ext
  refine ⟨⟨he.size,he.os,he.tape,he.output,he.block,fun b hb=>.inl (he.F b hb),fun b hb hF=>?_,he.len,fun k hk=>(he.keep k hk).trans (.refl rfl rfl),he.fresh⟩,h2.loc,h2.mkd⟩
  rcases hF with hF | ⟨x,hx,rfl⟩
  ·exact he.Fnew b hb hF
  ·have:=hinv.loc i x hx; omega
 have hdata:RepD (lfs T) S2 (.v (.mp m) (.l xs)) (a.tmps.getD t undef):=by
  have h4:=hrel.rep t
  rw [hj] at h4
  generalize a.tmps.getD t undef=u at h4
  cases h4 with
  | mp _ _ _ hu =>
   have:=hwf.obj (.loc i)
   rw [hobi] at this
   obtain ⟨b,c,clock,ents,us,h3,h4,h5,h6,h7,h8⟩:=this
   have hu':=hu m xs hobi _ h3
   subst hu'
   exact .v _ _ _ (.mp m (.l xs) b clock ents us (.inr ⟨_,h3,rfl⟩) h4 h5 h6 h7 fun x y hx hy=>mK1 (h8 x y hx hy))
 exact ⟨S2,rfl,hrel2.repl t hdata,hinv2⟩
theorem Rel.frzT (l:List Frz) (t:Nat) {st:St} {S:Sig} (q:St→Prop) (h:Abs.frzT l t st q) (hrel:Rel (lfs T) st H a S) (hinv:Inv S0 S):∃ st' S',q st'∧S'.w=S.w∧Rel (lfs T) st' H a S'∧Inv S0 S':=by
 unfold Abs.frzT at h
 split at h
 ·exact ⟨st,S,h,rfl,hrel,hinv⟩
 ·split at h
  ·rename_i i n ht
   split at h
   ·rename_i e xs hi
    obtain ⟨S1,w1,g1,g2⟩:=Rel.frzT1 hrel hinv hi ht h.1
    exact ⟨_,S1,h.2,w1,g1,g2⟩
   ·exact ⟨st,S,h,rfl,hrel,hinv⟩
  ·rename_i i ht
   split at h
   ·rename_i m xs hi
    obtain ⟨S1,w1,g1,g2⟩:=Rel.frzT2 hrel hinv hi ht
    exact ⟨_,S1,h,w1,g1,g2⟩
   ·exact ⟨st,S,h,rfl,hrel,hinv⟩
  ·exact ⟨st,S,h,rfl,hrel,hinv⟩
theorem Rel.postF {E:Env} (d:Option Nat) {st:St} {S:Sig} (q:St→Prop) (h:Abs.postF E d st q) (hrel:Rel (lfs T) st H a S) (hinv:Inv S0 S):∃ st' S',q st'∧S'.w=S.w∧Rel (lfs T) st' H a S'∧Inv S0 S':=by
 unfold Abs.postF at h
 split at h
 ·exact Rel.frzT _ _ q h hrel hinv
 ·exact ⟨st,S,h,rfl,hrel,hinv⟩
theorem Rel.frz:∀ (l:List Frz) {st:St} {S:Sig} (q:St→Prop),evFrz l st q→Rel (lfs T) st H a S→Inv S0 S→∃ st' S',q st'∧S'.w=S.w∧Rel (lfs T) st' H a S'∧Inv S0 S'
 | [],st,S,q,h,hrel,hinv=>⟨st,S,h,rfl,hrel,hinv⟩
 | f::r,st,S,q,h,hrel,hinv=>by
  unfold evFrz at h
  split at h
  ·obtain ⟨st1,S1,h1,w1,g1,g2⟩:=Rel.frzT [f] f.l _ h hrel hinv
   obtain ⟨st',S',k1,k2,k3,k4⟩:=Rel.frz r q h1 g1 g2
   exact ⟨st',S',k1,k2.trans w1,k3,k4⟩
  split at h
  ·rename_i cs e xs hl hi hli
   have hne:f.l≠f.i:=fun h=>by rw [h,Nat.beq_refl] at hli; cases hli
   split at h
   ·rename_i i' n hj
    split at h
    ·rename_i hb
     have hii:=Nat.eq_of_beq_eq_true hb
     subst hii
     obtain ⟨S1,w1,g1,g2⟩:=Rel.frz1 hrel hinv hl hi hne hj h.1
     obtain ⟨st',S',k1,k2,k3,k4⟩:=Rel.frz r q h.2 g1 g2
     exact ⟨st',S',k1,k2.trans w1,k3,k4⟩
    ·exact h.elim
   ·exact h.elim
  ·exact h.elim
theorem yielded_of {ops:Array Oper} {j g:Nat} {tmps:Array Value} (hg:(ops[j]?).bind (·.dst)=some g):yielded ops tmps j=match tmps.getD g undef with | .bool b=>some b | _=>none:=by
 unfold yielded
 rw [hg]
 simp only [Option.bind_some,Array.getD_eq_getD_getElem?]
 cases tmps[g]? with
 | none=>rfl
 | some v=>cases v <;> rfl
def PostC (T:Tab) (S0:Sig) (Q:Ex→St→Heap→Prop) (e:Exit) (a':Act) (w':World):Prop :=
 ∃ st' H' S',S'.w=w'∧Rel (lfs T) st' H' a' S'∧Inv S0 S'∧match e with
  | .normal=>Q .n st' H'
  | .exit id=>Q (.x id) st' H'
  | .ret=>Q .r st' H'
  | _=>False
theorem ok_opN {E:Env} (hE:EnvOk P E) (o:Oper) (q:D→St→Heap→Prop) (hrel:Rel (lfs E.T) st H a S) (hinv:Inv S0 S) (h:evOpN E o st H q):OpOk P E.T S0 o a S q:=by
 unfold evOpN at h
 split at h
 ·rename_i m hm
  unfold nilM at hm
  split at hm
  ·rename_i ho
   refine OpOk.value hrel hinv (v:=.map none) (d:=.v (.mp m) (.l [])) ?_ (.v _ _ _ (.mp0 _ _ rfl)) h
   simp only [execOp,ho] <;> rfl
  ·cases hm
 ·exact ok_op hE o q hrel hinv h
theorem sound_ops {E:Env} (hE:EnvOk P E) (ops:Array Oper) (Q:Ex→St→Heap→Prop):∀ (l:List Oper) (st:St) (H:Heap) (a:Act) (S:Sig),evOps E ops l st H (fun st H=>Q .n st H)→Rel (lfs E.T) st H a S→Inv S0 S →
  wpList P ops (PostC E.T S0 Q) l a S.w
 | [],st,H,a,S,h,hrel,hinv=>⟨st,H,S,rfl,hrel,hinv,h⟩
 | o::r,st,H,a,S,h,hrel,hinv=>by
  have run:∀ (st:St),Rel (lfs E.T) st H a S→evOp E o st H (fun d st H=>evOps E ops r (st.put o.dst d) H fun st H=>Q .n st H)→o.wp P a S.w (wpList P ops (PostC E.T S0 Q) r) (PostC E.T S0 Q):=fun st hrel h =>
   ok_op hE o _ hrel hinv h _ _ fun d v st' H' S' hq h1 h2 h3=>sound_ops hE ops Q r _ _ _ _ hq (h1.put o.dst h3) h2
  have runP:∀ (st:St),Rel (lfs E.T) st H a S→evOpN E o st H (fun d st H=>postF E o.dst (post E o.dst (st.put o.dst d)) fun st=>evOps E ops r st H fun st H=>Q .n st H)→o.wp P a S.w (wpList P ops (PostC E.T S0 Q) r) (PostC E.T S0 Q):=fun st hrel h =>
   ok_opN hE o _ hrel hinv h _ _ fun d v st' H' S' hq h1 h2 h3=>by
    have hp:=h1.put o.dst h3
    have hp2:∃ S'':Sig,S''.w=S'.w∧Rel (lfs E.T) (post E o.dst (st'.put o.dst d)) H' (a.put o.dst v) S''∧Inv S0 S'':=by
     unfold post
     split
     ·exact Rel.adj (E.adj _) h2 hp
     ·exact ⟨S',rfl,hp,h2⟩
    obtain ⟨S'',w1,g1,g2⟩:=hp2
    obtain ⟨st2,S2,hq2,w2,k1,k2⟩:=Rel.postF o.dst _ hq g1 g2
    rw [← w1,← w2]
    exact sound_ops hE ops Q r _ _ _ _ hq2 k1 k2
  have skip:∀ (st:St),Rel (lfs E.T) st H a S→evOps E ops r (st.put o.dst .skip) H (fun st H=>Q .n st H)→wpList P ops (PostC E.T S0 Q) r (a.put o.dst undef) S.w:=fun st hrel h =>
   sound_ops hE ops Q r _ _ _ _ h (hrel.put o.dst .skip) hinv
  simp only [evOps] at h
  simp only [wpList]
  split at h
  ·rename_i hg
   rw [if_pos (by simp [Region.wanted,hg])]
   exact .inl (runP st hrel h)
  ·rename_i j want hg
   split at h
   ·exact h.elim
   ·rename_i g hj
    have hy:=yielded_of (tmps:=a.tmps) hj
    split at h
    ·rename_i x hx
     have hb:=hrel.rep g
     rw [hx] at hb
     have hb':=hb.bool_inv
     rw [hb'] at hy
     have hset:Rel (lfs E.T) (st.put (some g) (.v .bool (.b x.bool))) H a S:=hrel.repl g (by rw [hb']; exact RepD.mkBool _)
     unfold iff iffC at h
     cases hxb:x.bool with
     | true =>
      rw [hxb] at h hy hset
      cases want with
      | true =>
       rw [if_pos (by simp [Region.wanted,hg,hy])]
       exact .inl (run _ hset h)
      | false =>
       rw [if_neg (by simp [Region.wanted,hg,hy])]
       exact skip _ hset h
     | false =>
      rw [hxb] at h hy hset
      cases want with
      | true =>
       rw [if_neg (by simp [Region.wanted,hg,hy])]
       exact skip _ hset h
      | false =>
       rw [if_pos (by simp [Region.wanted,hg,hy])]
       exact .inl (run _ hset h)
    ·rename_i hx
     have hb:=hrel.rep g
     rw [hx] at hb
     have hb':a.tmps.getD g undef=undef:=by
      generalize a.tmps.getD g undef=u at hb
      cases hb; rfl
     rw [hb'] at hy
     rw [if_neg (by simp [Region.wanted,hg,hy,undef])]
     exact skip _ hrel h
    ·exact h.elim
end Go.Abs
namespace Go.Abs
variable {P:Program} {T:Tab} {S0:Sig} {o:Oper} {a:Act} {S:Sig} {st:St} {H:Heap}
theorem eltCaps_idem:∀ (es:List TypeId) (cs:List D),eltCaps es (eltCaps es cs)=eltCaps es cs
 | [],_=>rfl
 | e::r,cs=>by
  show D.elt e ((D.elt e (cs.headD .undef).eltOf 0)).eltOf 0::eltCaps r (eltCaps r cs.tail)=_
  rw [eltCaps_idem r]; rfl
theorem Sh.as_as (as:List D) (s:Sh) (d:D):s.as as (s.as as d)=s.as as d:=by
 cases s with
 | v k=>rfl
 | nil=>rfl
 | fn f es=>show D.fn f (eltCaps es (eltCaps es d.capsOf))=_; rw [eltCaps_idem]; rfl
 | same k kd =>
  simp only [Sh.as]
  cases as.getD k .undef <;> rfl
theorem Shs.as_as (as:List D):∀ (l:List Sh) (cs:List D),Shs.as as l (Shs.as as l cs)=Shs.as as l cs
 | [],_=>rfl
 | s::r,cs=>by
  show s.as as (s.as as _)::Shs.as as r (Shs.as as r cs.tail)=_
  rw [Sh.as_as,Shs.as_as as r]; rfl
mutual
theorem RS.as_as (as:List D):∀ (s:RS) (d:D),s.as as (s.as as d)=s.as as d
 | .one s,d=>by simp only [RS.as,Sh.as_as]
 | .agg l,d=>by simp only [RS.as,D.cells,Shs.as_as]
 | .tup l,d=>by simp only [RS.as,D.parts,RS.asL_asL as l]
theorem RS.asL_asL (as:List D):∀ (l:List RS) (ds:List D),RS.asL as l (RS.asL as l ds)=RS.asL as l ds
 | [],_=>rfl
 | s::r,ds=>by
  show RS.as as s (RS.as as s _)::RS.asL as r (RS.asL as r ds.tail)=_
  rw [RS.as_as as s,RS.asL_asL as r]; rfl
end
def LocLe (b l:List Obj):Prop:=∀ i,b.getD i .dead=.dead∨l.getD i .dead=b.getD i .dead
theorem eval_tmps {tm:List D} {b b':List Obj} (x:Operand):St.eval ⟨tm,b⟩ x=St.eval ⟨tm,b'⟩ x:=by cases x <;> rfl
theorem LocLe.getO {b:List Obj} (h:LocLe b st.loc) {r:Ref} {tm:List D} (hc:Abs.getO ⟨tm,b⟩ H r≠.dead):Abs.getO st H r=Abs.getO ⟨tm,b⟩ H r:=by
 cases r with
 | own i=>rfl
 | loc i =>
  rcases h i with h | h
  ·exact absurd h hc
  ·exact h
theorem LocLe.withRow {b:List Obj} (h:LocLe b st.loc) {r:Ref} {tm:List D} {e:TypeId} {n:Nat} {k:List (List V)→Prop} (hr:Abs.withRow (Abs.getO ⟨tm,b⟩ H r) e n k):Abs.withRow (Abs.getO st H r) e n k:=by
 obtain ⟨xs,h1,_⟩:=withRow_spec hr
 rw [h.getO (tm:=tm) (by rw [h1]; intro h; cases h)]
 exact hr
theorem withRow_mk {e:TypeId} {xs:List (List V)} {n:Nat} {k:List (List V)→Prop} (h1:xs.length=n) (h2:k xs):withRow (.row e xs) e n k:=by
 unfold withRow
 simp only [Nat.beq_refl]
 exact ⟨h1,h2⟩
theorem withRow_mono {o:Obj} {e:TypeId} {n:Nat} {k k':List (List V)→Prop} (h:withRow o e n k) (hk:∀ xs,k xs→k' xs):withRow o e n k':=by
 obtain ⟨xs,h1,h2,h3⟩:=withRow_spec h
 rw [h1]
 exact withRow_mk h2 (hk _ h3)
theorem LocLe.withMap {b:List Obj} (h:LocLe b st.loc) {r:Ref} {tm:List D} {m:MT} {k:List (List V)→Prop} (hr:Abs.withMap (Abs.getO ⟨tm,b⟩ H r) m k):Abs.withMap (Abs.getO st H r) m k:=by
 obtain ⟨xs,h1,_⟩:=withMap_spec hr
 rw [h.getO (tm:=tm) (by rw [h1]; intro h; cases h)]
 exact hr
theorem LocLe.srcMap {b:List Obj} (h:LocLe b st.loc) {m:MT} {x:D} {tm:List D} {k:List (List V)→Prop} (hr:Abs.srcMap m ⟨tm,b⟩ H x k):Abs.srcMap m st H x k:=by
 unfold Abs.srcMap at *
 split at hr
 ·exact hr
 ·exact h.withMap hr
 ·exact hr.elim
theorem srcMap_one {m:MT} {x:D} {k:List (List V)→Prop} (h:srcMap m st H x k):∃ xs,k xs∧∀ k':List (List V)→Prop,k' xs→srcMap m st H x k':=by
 unfold srcMap at *
 split at h
 ·split at h
  ·exact ⟨_,h,fun k' h'=>h'⟩
  ·exact h.elim
 ·obtain ⟨xs,h1,h2⟩:=withMap_spec h
  exact ⟨xs,h2,fun k' h'=>by rw [h1]; exact withMap_mk h'⟩
 ·exact h.elim
theorem lookup_le {tm:List D} {b:List Obj} (hle:LocLe b st.loc) (t:TypeId) (ok:Bool) (x i:D) (q:D→Prop) (h:evLookup T t ok x i ⟨tm,b⟩ H q):evLookup T t ok x i st H q:=by
 unfold evLookup at *
 split
 ·rename_i h0; rw [h0] at h; exact h
 ·rename_i m h0
  rw [h0] at h
  simp only at h
  split at h
  ·exact hle.srcMap h
  ·exact h.elim
theorem evLookup_det (t:TypeId) (ok:Bool) (x i:D) (q:D→Prop) (h:evLookup T t ok x i st H q):∃ d,evLookup T t ok x i st H (·=d)∧q d:=by
 unfold evLookup at *
 split at h
 ·exact h.elim
 ·split at h
  ·obtain ⟨xs,h1,h2⟩:=srcMap_one h
   cases ok with
   | true=>exact ⟨_,h2 _ rfl,h1⟩
   | false=>exact ⟨_,h2 _ rfl,h1⟩
  ·exact h.elim
theorem load_le {tm:List D} {b:List Obj} (hle:LocLe b st.loc) (t:TypeId) (x:D) (q:D→Prop) (h:evLoad T t ⟨tm,b⟩ H x q):evLoad T t st H x q:=by
 unfold evLoad at *
 simp only at *
 split
 ·rename_i h0; rw [h0] at h; exact h
 ·rename_i h0
  rw [h0] at h
  simp only at h
  split at h
  ·rename_i r off
   split at h
   ·rename_i cs hcs
    rw [hle.getO (tm:=tm) (by rw [hcs]; intro h; cases h),hcs]
    exact h
   ·exact h.elim
  ·exact h
  ·rename_i r e n i off
   split at h
   ·rename_i k1 k2
    try rw [k1,k2]
    exact hle.withRow h
   ·exact h.elim
  ·exact h.elim
theorem fieldAddr_le {tm:List D} {b:List Obj} (hle:LocLe b st.loc) (s:TypeId) (f:Nat) (x:D) (q:D→Prop) (h:evFieldAddr T s f ⟨tm,b⟩ H x q):evFieldAddr T s f st H x q:=by
 unfold evFieldAddr at *
 split
 ·rename_i h0; rw [h0] at h; exact h
 ·rename_i o t h0
  rw [h0] at h
  simp only at h
  split
  ·rename_i h1; try rw [h1] at h; exact h
  ·rename_i h1
   try rw [h1] at h
   simp only at h
   split at h
   ·rename_i r off
    split at h
    ·rename_i cs hcs
     rw [hle.getO (tm:=tm) (by rw [hcs]; intro h; cases h),hcs]
     exact h
    ·exact h.elim
   ·exact h
   ·exact hle.withRow h
   ·exact h.elim
theorem indexAddr_le {tm:List D} {b:List Obj} (hle:LocLe b st.loc) (t:TypeId) (x i:D) (q:D→Prop) (h:evIndexAddr T t x i ⟨tm,b⟩ H q):evIndexAddr T t x i st H q:=by
 unfold evIndexAddr at *
 split at h
 ·rename_i e k j he
  try rw [he]
  split at h
  ·exact h.elim
  ·rename_i h1
   try rw [h1]
   split at h
   ·exact h
   ·exact hle.withRow h
   ·exact h
   ·exact h.elim
 ·rename_i he
  try rw [he]
  split at h
  ·rename_i n e m r off h1 h2
   try rw [h1,h2]
   split at h
   ·rename_i cs hcs
    rw [hle.getO (tm:=tm) (by rw [hcs]; intro h; cases h),hcs]
    exact h
   ·exact h.elim
  ·exact h.elim
 ·exact h.elim
theorem len_le {tm:List D} {b:List Obj} (hle:LocLe b st.loc) (t:TypeId) (x:D) (q:D→Prop) (h:evLen0 T t ⟨tm,b⟩ H x q):evLen T t st H x q:=by
 unfold evLen0 at h
 unfold evLen
 split at h
 ·split at h
  ·rename_i h1; exact fun _=>h
  ·exact h.elim
 ·split at h
  ·rename_i h1; exact fun _=>h
  ·exact h.elim
 ·split at h
  ·exact withRow_mono (hle.withRow h) fun _ h _=>h
  ·exact h.elim
 ·split at h
  ·rename_i h1; exact h
  ·exact h.elim
 ·split at h
  ·rename_i h1; exact fun _=>h
  ·exact h.elim
 ·split at h
  ·split at h
   ·exact h
   ·exact h.elim
  ·exact h.elim
 ·split at h
  ·exact hle.withMap h
  ·exact h.elim
 ·exact h.elim
theorem reach_done (H:Heap):∀ (n:Nat) (todo done:List Ref),∀ r∈done,r∈reachL st H n todo done
 | 0,_,_,r,h=>h
 | n+1,[],_,r,h=>h
 | n+1,x::todo,done,r,h=>by
  simp only [reachL]
  cases hm:memR x done with
  | true=>exact reach_done H n todo done r h
  | false=>exact reach_done H n _ _ r (List.mem_append_left _ h)
theorem reach_le {tm:List D} {b:List Obj} (hle:LocLe b st.loc):∀ (n:Nat) (todo done:List Ref),(∀ r∈reachL ⟨tm,b⟩ H n todo done,getO ⟨tm,b⟩ H r≠.dead)→reachL st H n todo done=reachL ⟨tm,b⟩ H n todo done
 | 0,_,_,_=>rfl
 | n+1,[],_,_=>rfl
 | n+1,x::todo,done,h=>by
  simp only [reachL] at h ⊢
  cases hm:memR x done with
  | true=>rw [hm] at h; exact reach_le hle n todo done h
  | false =>
   rw [hm] at h
   have hx:=h x (reach_done (st:=⟨tm,b⟩) H n _ _ x (by simp))
   rw [hle.getO hx]
   exact reach_le hle n _ _ h
theorem okRefs_live {rs:List Ref} {args:List D} (h:okRefs st H rs args=true):∀ r∈rs,getO st H r≠.dead:=fun r hr hd=>by
 unfold okRefs at h
 rw [Bool.and_eq_true] at h
 have:=List.all_eq_true.1 h.2 r hr
 rw [hd] at this
 simp [Obj.isDead] at this
theorem okRefs_le {tm:List D} {b:List Obj} (hle:LocLe b st.loc) {args:List D} (h:okRefs ⟨tm,b⟩ H (rsOf ⟨tm,b⟩ H args) args=true) :
  rsOf st H args=rsOf ⟨tm,b⟩ H args∧okRefs st H (rsOf ⟨tm,b⟩ H args) args=true∧objsOf st H (rsOf ⟨tm,b⟩ H args)=objsOf ⟨tm,b⟩ H (rsOf ⟨tm,b⟩ H args):=by
 have hl:=okRefs_live h
 refine ⟨reach_le hle _ _ _ hl,?_,List.map_congr_left fun r hr=>by rw [hle.getO (hl r hr)]⟩
 unfold okRefs at h ⊢
 rw [Bool.and_eq_true] at h ⊢
 refine ⟨h.1,List.all_eq_true.2 fun r hr=>?_⟩
 rw [hle.getO (hl r hr)]
 exact List.all_eq_true.1 h.2 r hr
mutual
theorem reshapeD_self:∀ (c:D),reshapeD c c=c
 | .v k x=>rfl
 | .osl x n=>rfl
 | .agg cs=>by simp only [reshapeD,D.cells]; rw [reshapeL_self cs]
 | .nil=>rfl | .tup _=>rfl | .ptr _ _=>rfl | .elt _ _ _=>rfl | .relt _ _ _ _ _=>rfl | .mp _=>rfl | .fn _ _=>rfl | .ln _=>rfl | .skip=>rfl | .undef=>rfl
theorem reshapeL_self:∀ (l:List D),reshapeL l l=l
 | []=>rfl
 | c::l=>by simp only [reshapeL,List.headD_cons,List.tail_cons]; rw [reshapeD_self c,reshapeL_self l]
end
theorem reshapes_self:∀ (l:List Obj),reshapes l l=l
 | []=>rfl
 | o::l=>by
  simp only [reshapes,List.headD_cons,List.tail_cons]
  rw [reshapes_self l]
  cases o with
  | cells cs=>simp only [reshapeO,Obj.cs]; rw [reshapeL_self]
  | row e xs=>rfl
  | map m xs=>rfl
  | iter m x n s=>rfl
  | dead=>rfl
theorem upd_same {rs:List Ref} {args:List D} (h:okRefs st H rs args=true):updLoc rs (objsOf st H rs) st=st∧updOwn rs (objsOf st H rs) H=H:=by
 have hcl:∀ r∈rs,∀ r'∈(getO st H r).refs,r'∈rs:=fun r hr r' hr'=>by
  unfold okRefs at h
  rw [Bool.and_eq_true] at h
  have:=List.all_eq_true.1 h.2 r hr
  rw [Bool.and_eq_true] at this
  exact memR_iff.1 (List.all_eq_true.1 this.2 r' hr')
 have hnew:∀ r o,getO st H r=o→newObj rs (objsOf st H rs) r o=o:=fun r o ho=>by
  unfold newObj
  cases hm:memR r rs with
  | false=>rfl
  | true =>
   have hr:=memR_iff.1 hm
   obtain ⟨h1,h2⟩:=idxR_spec hr
   have e1:(objsOf st H rs).getD (idxR r rs) .dead=(getO st H r).mapR (renR rs):=by
    unfold objsOf
    have h3:=h2 (.own 0)
    rw [List.getD_eq_getElem?_getD,List.getElem?_eq_getElem h1] at h3
    rw [List.getD_eq_getElem?_getD,List.getElem?_map,List.getElem?_eq_getElem h1]
    simp only [Option.map_some,Option.getD_some] at h3 ⊢
    rw [h3]
   simp only
   rw [e1]
   cases hg:getO st H r with
   | cells cs =>
    rw [← ho,hg]
    show Obj.cells _=_
    rw [mapRL_back _ _ cs fun x hx=>?_]
    have:=hcl r hr x (by rw [hg]; exact hx)
    exact (idxR_spec this).2 (.own 0)
   | row e xs=>rw [← ho,hg]; rfl
   | map m xs=>rw [← ho,hg]; rfl
   | iter m x n s=>rw [← ho,hg]; rfl
   | dead=>rw [← ho,hg]; rfl
 have go:∀ (f:Nat→Obj→Obj) (l:List Obj) (i:Nat),(∀ j o,l[j]?=some o→f (i+j) o=o)→updI f i l=l:=fun f l=>by
  induction l with
  | nil=>intro i _; rfl
  | cons x l ih =>
   intro i hf
   simp only [updI]
   rw [show f i x=x from hf 0 x rfl,ih (i+1) fun j o ho=>by
    have:=hf (j+1) o ho
    rwa [show i+(j+1)=i+1+j from by omega] at this]
 constructor
 ·unfold updLoc
  rw [go _ st.loc 0 fun j o ho=>by
   rw [Nat.zero_add]
   exact hnew (.loc j) o (by show st.loc.getD j .dead=o; rw [List.getD_eq_getElem?_getD,ho]; rfl)]
 ·unfold updOwn
  rw [go _ H 0 fun j o ho=>by
   rw [Nat.zero_add]
   exact hnew (.own j) o (by show H.getD j .dead=o; rw [List.getD_eq_getElem?_getD,ho]; rfl)]
def Env.noOwns (E:Env):Env:={ E with owns:=fun _=>none,fresh:=fun _=>none }
theorem EnvOk.noOwns {E:Env} (hE:EnvOk P E):EnvOk P E.noOwns:=⟨hE.tab,hE.ent,hE.call,hE.mono,hE.mixed,hE.iter,fun _ _ _ _ h=>(by cases h),hE.ext⟩
theorem evOpP_noOwns {E:Env} {o:Oper} {q:D→Prop} (h:evOpP E o st H q):evOpP E.noOwns o st H q:=by
 unfold evOpP at *
 exact h
theorem evOpP_evOp {E:Env} (hE:EnvOk P E) (hn:∀ f,E.owns f=none) (hn2:∀ f,E.fresh f=none) {b:List Obj} (hle:LocLe b st.loc) (o:Oper) (q:D→Prop) (h:evOpP E o ⟨st.tmps,b⟩ H q):evOp E o st H fun d st' H'=>(st'=st∧H'=H)∧q d:=by
 have he:∀ x,St.eval ⟨st.tmps,b⟩ x=st.eval x:=fun x=>eval_tmps (tm:=st.tmps) (b:=b) (b':=st.loc) x
 have hf:St.eval ⟨st.tmps,b⟩=st.eval:=funext he
 have hq:∀ {q':D→Prop},(fun d=>(st=st∧H=H)∧q d)=q:=by intro _; funext d; simp
 unfold evOpP at h
 rw [hf] at h
 have hev:∀ {q':D→St→Heap→Prop},evOp E o st H q'=evOp E o st H q':=rfl
 have hqq:(fun d=>(fun d st' H'=>(st'=st∧H'=H)∧q d) d st H)=q:=by funext d; simp
 split at h <;> rename_i ho
 ·unfold evOp; rw [ho]; exact ⟨⟨rfl,rfl⟩,h⟩
 ·unfold evOp; rw [ho]; exact ⟨⟨rfl,rfl⟩,h⟩
 ·split at h
  ·rename_i bb hb
   unfold evOp; rw [ho]; dsimp only; rw [hb]
   unfold iff iffC at *
   simp only at h ⊢
   cases hbb:bb.bool <;> rw [hbb] at h <;> simpa using h
  ·exact h.elim
 ·split at h
  ·rename_i h1 h2
   unfold evOp; rw [ho]; dsimp only; rw [h1,h2]
   exact ⟨⟨rfl,rfl⟩,h⟩
  ·exact h.elim
 ·split at h
  ·rename_i e he' hl
   split at h
   ·rename_i h1 h2
    unfold evOp; rw [ho]; dsimp only; rw [he']; dsimp only; rw [h1,h2]; dsimp only; rw [hl]
    cases o.dst <;> exact ⟨⟨rfl,rfl⟩,h⟩
   ·exact h.elim
  ·exact h.elim
 ·unfold evOp; rw [ho]; dsimp only; rw [hqq]; exact load_le hle _ _ _ h
 ·split at h
  ·rename_i r off hx
   split at h
   ·rename_i cs hcs
    unfold evOp; rw [ho]; dsimp only; rw [hx]; dsimp only; rw [hle.getO (tm:=st.tmps) (by rw [hcs]; intro h; cases h),hcs]
    exact ⟨⟨rfl,rfl⟩,h⟩
   ·exact h.elim
  ·exact h.elim
 ·unfold evOp; rw [ho]; dsimp only; rw [hqq]; exact h
 ·unfold evOp; rw [ho]; dsimp only; rw [hqq]; exact h
 ·unfold evOp; rw [ho]; dsimp only; rw [hqq]; exact fieldAddr_le hle _ _ _ _ h
 ·unfold evOp; rw [ho]; dsimp only; rw [hqq]; exact h
 ·unfold evOp; rw [ho]; dsimp only; rw [hqq]; exact indexAddr_le hle _ _ _ _ h
 ·unfold evOp; rw [ho]; dsimp only; rw [hqq]; exact h
 ·unfold evOp; rw [ho]; dsimp only; rw [hqq]; exact h
 ·split at h
  ·rename_i h1
   unfold evOp; rw [ho]; dsimp only; rw [h1]
   exact ⟨⟨rfl,rfl⟩,h⟩
  ·exact h.elim
 ·unfold evOp; rw [ho]; dsimp only; rw [hqq]; exact h
 ·unfold evOp; rw [ho]; dsimp only; rw [hqq]; exact lookup_le hle _ _ _ _ _ h
 ·split at h
  ·rename_i ds hx
   split at h
   ·rename_i h1
    unfold evOp; rw [ho]; dsimp only; rw [hx]; dsimp only; rw [h1]
    exact ⟨⟨rfl,rfl⟩,h⟩
   ·exact h.elim
  ·exact h.elim
 ·rename_i _ c
  split at h
  ·rename_i hc
   split at h
   ·rename_i x t h1 h2
    unfold evOp; rw [ho]; dsimp only; rw [hc]; dsimp only; unfold evBuiltin; rw [h1,h2]; dsimp only; rw [hqq]
    exact len_le hle _ _ _ h
   ·exact h.elim
  ·rename_i hc
   unfold evOp; rw [ho]; dsimp only; rw [hc]; dsimp only; unfold evBuiltin; dsimp only; rw [hqq]; exact h
  ·rename_i hc
   unfold evOp; rw [ho]; dsimp only; rw [hc]; dsimp only; unfold evBuiltin; dsimp only; rw [hqq]; exact h
  ·rename_i f hc
   split at h
   ·rename_i g caps hg
    simp only at h
    split at h
    ·rename_i h1
     rw [Bool.and_eq_true] at h1
     obtain ⟨h1,h2⟩:=h1
     obtain ⟨d,h3,h4⟩:=h
     unfold evOp; rw [ho]; dsimp only; rw [hc]; dsimp only; rw [hg]; simp only
     unfold evCallO
     rw [hn2]
     dsimp only
     rw [hn]
     dsimp only
     unfold evCall
     generalize c.args.toList.map st.eval++caps=args0 at *
     generalize plainA (E.nils _) args0=args at *
     obtain ⟨e1,e2,e3⟩:=okRefs_le hle h2
     rw [h1]
     dsimp only
     rw [e1,e2,e3]
     simp only
     refine hE.mono _ _ _ _ _ (fun r H' hr=>?_) h3
     obtain ⟨rfl,rfl⟩:=hr
     rw [RS.as_as,reshapes_self]
     refine ⟨rfl,rfl,?_⟩
     split at h4
     ·exact h4.elim
     ·rename_i hb
      try rw [hb]
      rw [← e3,(upd_same e2).1,(upd_same e2).2]
      exact ⟨⟨rfl,rfl⟩,h4⟩
    ·exact h.elim
   ·exact h.elim
  ·exact h.elim
 ·exact h.elim
theorem evOpP_congr {E:Env} {st st':St} (hl:st'.loc=st.loc) (o:Oper) (he:∀ x∈o.op.operands,st'.eval x=st.eval x) (q:D→Prop) (h:evOpP E o st H q):evOpP E o st' H q:=by
 have hgo:∀ r,getO st' H r=getO st H r:=fun r=>by cases r <;> simp only [getO,hl]
 have hload:∀ t x,evLoad E.T t st H x q→evLoad E.T t st' H x q:=fun t x h=>by unfold evLoad at *; simp only [hgo,hl]; exact h
 have hfa:∀ s f x,evFieldAddr E.T s f st H x q→evFieldAddr E.T s f st' H x q:=fun s f x h=>by unfold evFieldAddr at *; simp only [hgo,hl]; exact h
 have hia:∀ t x i,evIndexAddr E.T t x i st H q→evIndexAddr E.T t x i st' H q:=fun t x i h=>by unfold evIndexAddr at *; simp only [hgo]; exact h
 have hlen:∀ t x,evLen0 E.T t st H x q→evLen0 E.T t st' H x q:=fun t x h=>by unfold evLen0 at *; simp only [hgo]; exact h
 have hlook:∀ t ok x i,evLookup E.T t ok x i st H q→evLookup E.T t ok x i st' H q:=fun t ok x i h=>by unfold evLookup srcMap at *; simp only [hgo]; exact h
 have hreach:∀ n todo done,reachL st' H n todo done=reachL st H n todo done:=fun n=>by
  induction n with
  | zero=>intro _ _; rfl
  | succ n ih =>
   intro todo done
   cases todo with
   | nil=>rfl
   | cons x t=>simp only [reachL,hgo,ih]
 have hrs:∀ args,rsOf st' H args=rsOf st H args:=fun args=>hreach _ _ _
 have hoks:∀ rs args,okRefs st' H rs args=okRefs st H rs args:=fun rs args=>by unfold okRefs; simp only [hgo]
 have hobs:∀ rs,objsOf st' H rs=objsOf st H rs:=fun rs=>by unfold objsOf; simp only [hgo]
 have pairs:∀ ps:Array (Nat×Operand),(∀ x∈ps.toList.map (·.2),st'.eval x=st.eval x)→(ps.toList.map fun p=>(p.1,st'.eval p.2))=(ps.toList.map fun p=>(p.1,st.eval p.2)):=fun ps hp =>
  List.map_congr_left fun p hm=>by rw [hp p.2 (List.mem_map.2 ⟨p,hm,rfl⟩)]
 obtain ⟨dst,op,ty,pos,after,guard⟩:=o
 unfold evOpP at *
 cases op <;> simp only [Op.operands] at he <;> dsimp only at h ⊢
 case move x=>rw [he x (by simp)]; exact h
 case assign x=>rw [he x (by simp)]; exact h
 case pick c x y=>rw [he c (by simp),he x (by simp),he y (by simp)]; exact h
 case build t ps=>rw [pairs ps fun x hx=>he x (by simpa using hx)]; exact h
 case buildSlice t n ps=>rw [pairs ps fun x hx=>he x (by simpa using hx)]; exact h
 case load t x=>rw [he x (by simp)]; exact hload _ _ h
 case nilCheck x=>rw [he x (by simp)]; simp only [hgo]; exact h
 case binOp op xt x y yt=>rw [he x (by simp),he y (by simp)]; exact h
 case unOp op xt x=>rw [he x (by simp)]; exact h
 case fieldAddr s x f=>rw [he x (by simp)]; exact hfa _ _ _ h
 case field s x f=>rw [he x (by simp)]; exact h
 case indexAddr t x i=>rw [he x (by simp),he i (by simp)]; exact hia _ _ _ h
 case index t x i=>rw [he x (by simp),he i (by simp)]; exact h
 case slice t x lo hi mx =>
  cases mx with
  | some m=>exact h
  | none =>
   dsimp only at h ⊢
   have h1:lo.map st'.eval=lo.map st.eval:=by cases lo with | none=>rfl | some y=>simp [he y (by simp)]
   have h2:hi.map st'.eval=hi.map st.eval:=by cases hi with | none=>rfl | some y=>simp [he y (by simp)]
   rw [he x (by simp),h1,h2]; exact h
 case makeFunc fn first caps =>
  have h1:caps.toList.map st'.eval=caps.toList.map st.eval:=List.map_congr_left fun x hx=>he x (by simp at hx; simp [hx])
  cases fn <;> dsimp only at h ⊢
  case func f=>rw [h1]; exact h
  all_goals exact h
 case convert s t x=>rw [he x (by simp)]; exact h
 case lookup t x i ok=>rw [he x (by simp),he i (by simp)]; exact hlook _ _ _ _ h
 case extract x i=>rw [he x (by simp)]; exact h
 case call c =>
  obtain ⟨callee,cargs,cts⟩:=c
  have h1:cargs.toList.map st'.eval=cargs.toList.map st.eval:=List.map_congr_left fun x hx=>he x (by simp at hx; simp [Call.operands,hx])
  cases callee with
  | builtin b =>
   cases b <;> dsimp only at h ⊢
   case len =>
    rw [h1]
    split at h
    ·exact hlen _ _ h
    ·exact h.elim
   case max=>rw [h1]; exact h
   case min=>rw [h1]; exact h
   all_goals exact h
  | value f =>
   dsimp only at h ⊢
   rw [he f (by simp [Call.operands]),h1]; simp only [hrs,hoks,hobs]; exact h
  | invoke r m=>exact h
 all_goals exact h
theorem evInt_det (op:BinOp) (k:IntKind) (x y:Int) (q:D→Prop) (h:evInt op k x y q):∃ d,evInt op k x y (·=d)∧q d:=by
 unfold evInt at *
 cases op <;> dsimp only at h ⊢ <;> first
  | exact h.elim
  | exact ⟨_,rfl,h⟩
  | exact ⟨_,⟨h.1,rfl⟩,h.2⟩
  | exact ⟨_,⟨h.1,h.2.1,rfl⟩,h.2.2⟩
  | exact ⟨_,⟨h.1,h.2.1,h.2.2.1,rfl⟩,h.2.2.2⟩
  | exact ⟨_,⟨h.1,h.2.1,h.2.2.1,h.2.2.2.1,rfl⟩,h.2.2.2.2⟩
  | (obtain ⟨xs,w1,w2,w3⟩:=withRow_spec h; rw [w1]; first | exact ⟨_,withRow_mk w2 ⟨w3.1,rfl⟩,w3.2⟩ | exact ⟨_,withRow_mk w2 ⟨w3.1,w3.2.1,rfl⟩,w3.2.2⟩ | exact ⟨_,withRow_mk w2 rfl,w3⟩)
theorem evStr_det (op:BinOp) (x y:ByteArray) (q:D→Prop) (h:evStr op x y q):∃ d,evStr op x y (·=d)∧q d:=by
 unfold evStr at *
 cases op <;> dsimp only at h ⊢ <;> first
  | exact h.elim
  | exact ⟨_,rfl,h⟩
  | exact ⟨_,⟨h.1,rfl⟩,h.2⟩
  | exact ⟨_,⟨h.1,h.2.1,rfl⟩,h.2.2⟩
  | exact ⟨_,⟨h.1,h.2.1,h.2.2.1,rfl⟩,h.2.2.2⟩
  | exact ⟨_,⟨h.1,h.2.1,h.2.2.1,h.2.2.2.1,rfl⟩,h.2.2.2.2⟩
  | (obtain ⟨xs,w1,w2,w3⟩:=withRow_spec h; rw [w1]; first | exact ⟨_,withRow_mk w2 ⟨w3.1,rfl⟩,w3.2⟩ | exact ⟨_,withRow_mk w2 ⟨w3.1,w3.2.1,rfl⟩,w3.2.2⟩ | exact ⟨_,withRow_mk w2 rfl,w3⟩)
theorem evBool_det (op:BinOp) (x y:Bool) (q:D→Prop) (h:evBool op x y q):∃ d,evBool op x y (·=d)∧q d:=by
 unfold evBool at *
 cases op <;> dsimp only at h ⊢ <;> first
  | exact h.elim
  | exact ⟨_,rfl,h⟩
  | exact ⟨_,⟨h.1,rfl⟩,h.2⟩
  | exact ⟨_,⟨h.1,h.2.1,rfl⟩,h.2.2⟩
  | exact ⟨_,⟨h.1,h.2.1,h.2.2.1,rfl⟩,h.2.2.2⟩
  | exact ⟨_,⟨h.1,h.2.1,h.2.2.1,h.2.2.2.1,rfl⟩,h.2.2.2.2⟩
  | (obtain ⟨xs,w1,w2,w3⟩:=withRow_spec h; rw [w1]; first | exact ⟨_,withRow_mk w2 ⟨w3.1,rfl⟩,w3.2⟩ | exact ⟨_,withRow_mk w2 ⟨w3.1,w3.2.1,rfl⟩,w3.2.2⟩ | exact ⟨_,withRow_mk w2 rfl,w3⟩)
theorem evBin_det (xt:TypeId) (op:BinOp) (x y:D) (q:D→Prop) (h:evBin T xt op x y q):∃ d,evBin T xt op x y (·=d)∧q d:=by
 unfold evBin at *
 split at h
 ·split at h
  ·unfold evShift at *
   split at h <;> first
    | exact h.elim
    | exact ⟨_,⟨h.1,rfl⟩,h.2⟩
  ·exact evInt_det _ _ _ _ _ h
  ·exact h.elim
 ·exact evStr_det _ _ _ _ h
 ·split at h
  ·exact evBool_det _ _ _ _ h
  ·exact h.elim
 ·split at h
  ·cases op <;> dsimp only at h ⊢ <;> first
    | exact h.elim
    | exact ⟨_,rfl,h⟩
  ·exact h.elim
 ·exact h.elim
theorem evUn_det (op:UnOp) (x:D) (q:D→Prop) (h:evUn op x q):∃ d,evUn op x (·=d)∧q d:=by
 unfold evUn at *
 split at h <;> first
  | exact h.elim
  | exact ⟨_,rfl,h⟩
  | exact ⟨_,⟨h.1,rfl⟩,h.2⟩
  | exact ⟨_,⟨h.1,h.2.1,rfl⟩,h.2.2⟩
  | exact ⟨_,⟨h.1,h.2.1,h.2.2.1,rfl⟩,h.2.2.2⟩
  | exact ⟨_,⟨h.1,h.2.1,h.2.2.1,h.2.2.2.1,rfl⟩,h.2.2.2.2⟩
  | (obtain ⟨xs,w1,w2,w3⟩:=withRow_spec h; rw [w1]; first | exact ⟨_,withRow_mk w2 ⟨w3.1,rfl⟩,w3.2⟩ | exact ⟨_,withRow_mk w2 ⟨w3.1,w3.2.1,rfl⟩,w3.2.2⟩ | exact ⟨_,withRow_mk w2 rfl,w3⟩)
theorem evLoad_det (t:TypeId) (x:D) (q:D→Prop) (h:evLoad T t st H x q):∃ d,evLoad T t st H x (·=d)∧q d:=by
 unfold evLoad at *
 dsimp only at h ⊢
 (repeat' split at h) <;> first
  | exact h.elim
  | exact ⟨_,rfl,h⟩
  | exact ⟨_,⟨h.1,rfl⟩,h.2⟩
  | exact ⟨_,⟨h.1,h.2.1,rfl⟩,h.2.2⟩
  | exact ⟨_,⟨h.1,h.2.1,h.2.2.1,rfl⟩,h.2.2.2⟩
  | exact ⟨_,⟨h.1,h.2.1,h.2.2.1,h.2.2.2.1,rfl⟩,h.2.2.2.2⟩
  | (obtain ⟨xs,w1,w2,w3⟩:=withRow_spec h; rw [w1]; first | exact ⟨_,withRow_mk w2 ⟨w3.1,rfl⟩,w3.2⟩ | exact ⟨_,withRow_mk w2 ⟨w3.1,w3.2.1,rfl⟩,w3.2.2⟩ | exact ⟨_,withRow_mk w2 rfl,w3⟩)
theorem evFieldAddr_det (s:TypeId) (f:Nat) (x:D) (q:D→Prop) (h:evFieldAddr T s f st H x q):∃ d,evFieldAddr T s f st H x (·=d)∧q d:=by
 unfold evFieldAddr at *
 (repeat' split at h) <;> first
  | exact h.elim
  | exact ⟨_,rfl,h⟩
  | exact ⟨_,⟨h.1,rfl⟩,h.2⟩
  | exact ⟨_,⟨h.1,h.2.1,rfl⟩,h.2.2⟩
  | exact ⟨_,⟨h.1,h.2.1,h.2.2.1,rfl⟩,h.2.2.2⟩
  | exact ⟨_,⟨h.1,h.2.1,h.2.2.1,h.2.2.2.1,rfl⟩,h.2.2.2.2⟩
  | (obtain ⟨xs,w1,w2,w3⟩:=withRow_spec h; rw [w1]; first | exact ⟨_,withRow_mk w2 ⟨w3.1,rfl⟩,w3.2⟩ | exact ⟨_,withRow_mk w2 ⟨w3.1,w3.2.1,rfl⟩,w3.2.2⟩ | exact ⟨_,withRow_mk w2 rfl,w3⟩)
theorem evField_det (s:TypeId) (f:Nat) (x:D) (q:D→Prop) (h:evField T s f x q):∃ d,evField T s f x (·=d)∧q d:=by
 unfold evField at *
 (repeat' split at h) <;> first
  | exact h.elim
  | exact ⟨_,rfl,h⟩
  | exact ⟨_,⟨h.1,rfl⟩,h.2⟩
  | exact ⟨_,⟨h.1,h.2.1,rfl⟩,h.2.2⟩
  | exact ⟨_,⟨h.1,h.2.1,h.2.2.1,rfl⟩,h.2.2.2⟩
  | exact ⟨_,⟨h.1,h.2.1,h.2.2.1,h.2.2.2.1,rfl⟩,h.2.2.2.2⟩
  | (obtain ⟨xs,w1,w2,w3⟩:=withRow_spec h; rw [w1]; first | exact ⟨_,withRow_mk w2 ⟨w3.1,rfl⟩,w3.2⟩ | exact ⟨_,withRow_mk w2 ⟨w3.1,w3.2.1,rfl⟩,w3.2.2⟩ | exact ⟨_,withRow_mk w2 rfl,w3⟩)
theorem evIndexAddr_det (t:TypeId) (x i:D) (q:D→Prop) (h:evIndexAddr T t x i st H q):∃ d,evIndexAddr T t x i st H (·=d)∧q d:=by
 unfold evIndexAddr at *
 (repeat' split at h) <;> first
  | exact h.elim
  | exact ⟨_,rfl,h⟩
  | exact ⟨_,⟨h.1,rfl⟩,h.2⟩
  | exact ⟨_,⟨h.1,h.2.1,rfl⟩,h.2.2⟩
  | exact ⟨_,⟨h.1,h.2.1,h.2.2.1,rfl⟩,h.2.2.2⟩
  | exact ⟨_,⟨h.1,h.2.1,h.2.2.1,h.2.2.2.1,rfl⟩,h.2.2.2.2⟩
  | (obtain ⟨xs,w1,w2,w3⟩:=withRow_spec h; rw [w1]; first | exact ⟨_,withRow_mk w2 ⟨w3.1,rfl⟩,w3.2⟩ | exact ⟨_,withRow_mk w2 ⟨w3.1,w3.2.1,rfl⟩,w3.2.2⟩ | exact ⟨_,withRow_mk w2 rfl,w3⟩)
theorem evIndex_det (t:TypeId) (x i:D) (q:D→Prop) (h:evIndex T t x i q):∃ d,evIndex T t x i (·=d)∧q d:=by
 unfold evIndex at *
 (repeat' split at h) <;> first
  | exact h.elim
  | exact ⟨_,rfl,h⟩
  | exact ⟨_,⟨h.1,rfl⟩,h.2⟩
  | exact ⟨_,⟨h.1,h.2.1,rfl⟩,h.2.2⟩
  | exact ⟨_,⟨h.1,h.2.1,h.2.2.1,rfl⟩,h.2.2.2⟩
  | exact ⟨_,⟨h.1,h.2.1,h.2.2.1,h.2.2.2.1,rfl⟩,h.2.2.2.2⟩
  | (obtain ⟨xs,w1,w2,w3⟩:=withRow_spec h; rw [w1]; first | exact ⟨_,withRow_mk w2 ⟨w3.1,rfl⟩,w3.2⟩ | exact ⟨_,withRow_mk w2 ⟨w3.1,w3.2.1,rfl⟩,w3.2.2⟩ | exact ⟨_,withRow_mk w2 rfl,w3⟩)
theorem evSlice_det (t:TypeId) (x:D) (lo hi:Option D) (q:D→Prop) (h:evSlice T t x lo hi q):∃ d,evSlice T t x lo hi (·=d)∧q d:=by
 unfold evSlice at *
 (repeat' split at h) <;> first
  | exact h.elim
  | exact ⟨_,rfl,h⟩
  | exact ⟨_,⟨h.1,rfl⟩,h.2⟩
  | exact ⟨_,⟨h.1,h.2.1,rfl⟩,h.2.2⟩
  | exact ⟨_,⟨h.1,h.2.1,h.2.2.1,rfl⟩,h.2.2.2⟩
  | exact ⟨_,⟨h.1,h.2.1,h.2.2.1,h.2.2.2.1,rfl⟩,h.2.2.2.2⟩
  | (obtain ⟨xs,w1,w2,w3⟩:=withRow_spec h; rw [w1]; first | exact ⟨_,withRow_mk w2 ⟨w3.1,rfl⟩,w3.2⟩ | exact ⟨_,withRow_mk w2 ⟨w3.1,w3.2.1,rfl⟩,w3.2.2⟩ | exact ⟨_,withRow_mk w2 rfl,w3⟩)
theorem evConvert_det (s t:TypeId) (x:D) (q:D→Prop) (h:evConvert T s t x q):∃ d,evConvert T s t x (·=d)∧q d:=by
 unfold evConvert at *
 (repeat' split at h) <;> first
  | exact h.elim
  | exact ⟨_,rfl,h⟩
theorem evLen0_det (t:TypeId) (x:D) (q:D→Prop) (h:evLen0 T t st H x q):∃ d,evLen0 T t st H x (·=d)∧q d:=by
 unfold evLen0 at *
 (repeat' split at h) <;> first
  | exact h.elim
  | exact ⟨_,rfl,h⟩
  | exact ⟨_,⟨h.1,rfl⟩,h.2⟩
  | exact ⟨_,⟨h.1,h.2.1,rfl⟩,h.2.2⟩
  | exact ⟨_,⟨h.1,h.2.1,h.2.2.1,rfl⟩,h.2.2.2⟩
  | exact ⟨_,⟨h.1,h.2.1,h.2.2.1,h.2.2.2.1,rfl⟩,h.2.2.2.2⟩
  | (obtain ⟨xs,w1,w2,w3⟩:=withRow_spec h; rw [w1]; first | exact ⟨_,withRow_mk w2 ⟨w3.1,rfl⟩,w3.2⟩ | exact ⟨_,withRow_mk w2 ⟨w3.1,w3.2.1,rfl⟩,w3.2.2⟩ | exact ⟨_,withRow_mk w2 rfl,w3⟩)
  | (obtain ⟨xs,w1,w2⟩:=withMap_spec h; rw [w1]; exact ⟨_,withMap_mk rfl,w2⟩)
theorem evMinMax_det (mx:Bool) (l:List D) (q:D→Prop) (h:evMinMax mx l q):∃ d,evMinMax mx l (·=d)∧q d:=by
 unfold evMinMax at *
 split at h
 ·dsimp only at h ⊢
  split at h
  ·exact ⟨_,rfl,h⟩
  ·exact ⟨_,rfl,h⟩
  ·exact h.elim
 ·exact h.elim
theorem srcOf_one {e:TypeId} {x:D} {k:List (List V)→Prop} (h:srcOf e st H x k):∃ ys,srcOf e st H x (fun zs=>zs=ys)∧k ys:=by
 unfold srcOf at *
 split at h
 ·split at h
  ·exact ⟨_,rfl,h⟩
  ·exact h.elim
 ·obtain ⟨xs,w1,w2,w3⟩:=withRow_spec h
  rw [w1]
  exact ⟨_,withRow_mk w2 rfl,w3⟩
 ·exact ⟨_,rfl,h⟩
 ·exact h.elim
theorem srcOf_le {tm:List D} {b:List Obj} (hle:LocLe b st.loc) {e:TypeId} {x:D} {k:List (List V)→Prop} (h:srcOf e ⟨tm,b⟩ H x k):srcOf e st H x k:=by
 unfold srcOf at *
 split at h
 ·exact h
 ·exact hle.withRow h
 ·exact h
 ·exact h.elim
theorem srcOf_eq {tm tm':List D} {b:List Obj} {e:TypeId} {x:D} {k:List (List V)→Prop} (h:srcOf e ⟨tm,b⟩ H x k):srcOf e ⟨tm',b⟩ H x k:=by
 have hg:∀ r,getO ⟨tm',b⟩ H r=getO ⟨tm,b⟩ H r:=fun r=>by cases r <;> rfl
 unfold srcOf at *
 simp only [hg]
 exact h
theorem srcOf_mono {e:TypeId} {x:D} {k k':List (List V)→Prop} (h:srcOf e st H x k) (hk:∀ ys,k ys→k' ys):srcOf e st H x k':=by
 unfold srcOf at *
 split at h
 ·split at h
  ·exact hk _ h
  ·exact h.elim
 ·exact withRow_mono h hk
 ·exact hk _ h
 ·exact h.elim
theorem evOpP_det {E:Env} (o:Oper) (q:D→Prop) (h:evOpP E o st H q):∃ d,evOpP E o st H (·=d)∧q d:=by
 unfold evOpP at *
 split at h
 ·exact ⟨_,rfl,h⟩
 ·exact ⟨_,rfl,h⟩
 ·split at h
  ·rename_i b _
   unfold iff iffC at *
   cases hb:b.bool <;> rw [hb] at h <;> exact ⟨_,rfl,h⟩
  ·exact h.elim
 ·split at h
  ·exact ⟨_,rfl,h⟩
  ·exact h.elim
 ·split at h
  ·split at h
   ·exact ⟨_,rfl,h⟩
   ·exact h.elim
  ·exact h.elim
 ·exact evLoad_det _ _ _ h
 ·split at h
  ·split at h
   ·exact ⟨_,rfl,h⟩
   ·exact h.elim
  ·exact h.elim
 ·exact evBin_det _ _ _ _ _ h
 ·exact evUn_det _ _ _ h
 ·exact evFieldAddr_det _ _ _ _ h
 ·exact evField_det _ _ _ _ h
 ·exact evIndexAddr_det _ _ _ _ h
 ·exact evIndex_det _ _ _ _ h
 ·exact evSlice_det _ _ _ _ _ h
 ·split at h
  ·exact ⟨_,rfl,h⟩
  ·exact h.elim
 ·exact evConvert_det _ _ _ _ h
 ·exact evLookup_det _ _ _ _ _ h
 ·split at h
  ·split at h
   ·exact ⟨_,rfl,h⟩
   ·exact h.elim
  ·exact h.elim
 ·split at h
  ·split at h
   ·exact evLen0_det _ _ _ h
   ·exact h.elim
  ·exact evMinMax_det _ _ _ h
  ·exact evMinMax_det _ _ _ h
  ·split at h
   ·dsimp only at h ⊢
    split at h
    ·obtain ⟨d,h1,h2⟩:=h
     split at h2
     ·exact h2.elim
     ·rename_i hb
      exact ⟨_,⟨d,h1,by rw [hb]⟩,h2⟩
    ·exact h.elim
   ·exact h.elim
  ·exact h.elim
 ·exact h.elim
structure Out where
 d:D
 eff:Option (Nat×Obj)
instance:Inhabited Out:=⟨⟨.undef,none⟩⟩
def Nrm (d d':D):Prop:=d'=d∨∃ y:V,d=.v .bool y∧d'=.v .bool (.b y.bool)
def Runs (ops:Array Oper) (o:Oper) (st:St):Prop:=o.guard=none∨∃ j want g,o.guard=some (j,want)∧(ops[j]?).bind (·.dst)=some g∧st.tmps.getD g .undef=.v .bool (.b want)
inductive OutFact (E:Env) (ops:Array Oper) (base:List Obj) (ks ws:List Nat) (H:Heap) (o:Oper) (st:St):Out→Prop
 | skip (j:Nat) (want:Bool) (g:Nat):o.guard=some (j,want)→(ops[j]?).bind (·.dst)=some g→(st.tmps.getD g .undef=.skip∨∃ x,st.tmps.getD g .undef=.v .bool (.b x)∧x≠want)→OutFact E ops base ks ws H o st ⟨.skip,none⟩
 | pure (d d':D):Runs ops o st→evOpP E o ⟨st.tmps,base⟩ H (·=d)→Nrm d d'→D.anyR (Ref.isIn ks) d=false→OutFact E ops base ks ws H o st ⟨d',none⟩
 | alloc (e d:Nat):o.op=.alloc e→o.dst=some d→o.guard=none→inL ks d=true→0<(E.T.get e).lf.length→OutFact E ops base ks ws H o st ⟨.ptr (.loc d) 0,some (d,.cells ((E.T.get e).lf.map zeroD))⟩
 | make (t:TypeId) (x y:Operand) (e:TypeId) (k k':IntKind) (m m':V) (d:Nat):o.op=.makeSlice t x y→o.dst=some d→o.guard=none→inL ks d=true→(E.T.get t).el=some e→0<(E.T.get e).lf.length→(E.T.get e).lf.all K.isData=true →
   st.eval x=.v (.int k) m→st.eval y=.v (.int k') m'→0≤m.int→m'.int=m.int→m.int≤lim→OutFact E ops base ks ws H o st ⟨.osl (.loc d) m.int.toNat,some (d,.row e (zeroRow (E.T.get e).lf m.int.toNat))⟩
 | lit (t:TypeId) (parts:Array (Nat×Operand)) (e d:Nat):o.op=.buildSlice t 0 parts→parts.toList=[]→o.dst=some d→o.guard=none→inL ks d=true→E.lit d=true→(E.T.get t).el=some e→0<(E.T.get e).lf.length →
   OutFact E ops base ks ws H o st ⟨.osl (.loc d) 0,some (d,.row e [])⟩
 | app (c:Call) (t e p:Nat) (y:Operand) (l n d:Nat) (xs ys:List (List V)):o.op=.call c→c.callee=.builtin .append→c.args.toList=[.tmp p,y]→c.argTypes.toList=[t,t]→o.dst=some d→o.guard=none→inL ks l=true→(E.T.get t).el=some e →
   0<(E.T.get e).lf.length→st.tmps.getD p .undef=.osl (.loc l) n→st.loc.getD l .dead=.row e xs→xs.length=n→srcOf e ⟨st.tmps,base⟩ H (st.eval y) (fun zs=>zs=ys)→n+ys.length≤lim →
   OutFact E ops base ks ws H o st ⟨.osl (.loc l) (n+ys.length),some (l,.row e (xs++ys))⟩
 | copy (p:Nat) (d':D):(o.op=.move (.tmp p)∨o.op=.assign (.tmp p))→o.guard=none→Nrm (st.tmps.getD p .undef) d'→OutFact E ops base ks ws H o st ⟨d',none⟩
 | store (t l:Nat) (x:Operand) (cs:List D):o.op=.store t (.tmp l) x→o.dst=none→o.guard=none→inL ks l=true→st.tmps.getD l .undef=.ptr (.loc l) 0→st.loc.getD l .dead=.cells cs→cs.length=(E.T.get t).lf.length →
   (st.eval x).cells.length=(E.T.get t).lf.length→0<(E.T.get t).lf.length→(st.eval x).cells.all D.isCell=true→D.anyL (Ref.isIn ks) (st.eval x).cells=false→OutFact E ops base ks ws H o st ⟨.skip,some (l,.cells (st.eval x).cells)⟩
 | late (t p l f:Nat) (x:Operand) (cs:List D):o.op=.store t (.tmp p) x→o.dst=none→o.guard=none→inL ws l=true→inL ks l=false→st.tmps.getD p .undef=.ptr (.loc l) f→st.loc.getD l .dead=.cells cs→f+(E.T.get t).lf.length≤cs.length →
   (st.eval x).cells.length=(E.T.get t).lf.length→0<(E.T.get t).lf.length→(st.eval x).cells.all D.isCell=true→D.anyL (Ref.isIn ks) (st.eval x).cells=false→OutFact E ops base ks ws H o st ⟨.skip,some (l,.cells (setCells cs f (st.eval x).cells))⟩
def stepOut (o:Oper) (x:Out) (st:St):St:=⟨(st.put o.dst x.d).tmps,match x.eff with | some (l,ob)=>st.loc.set l ob | none=>st.loc⟩
def isStore (o:Oper):Bool:=match o.op with | .store _ _ _=>true | _=>false
def isFirst (o:Oper):Bool:=match o.op with | .alloc _=>true | .makeSlice _ _ _=>true | .buildSlice _ _ _=>true | _=>false
def prevOf (o:Oper):Option Nat:=match o.op with
 | .store _ (.tmp l) _=>some l
 | .call c=>match c.args.toList with
  | .tmp p::_=>some p
  | _=>none
 | _=>none
def laOf (o:Oper) (x:Out) (la:List (Nat×Option Nat)):List (Nat×Option Nat):=match x.eff with | some (l,_)=>(l,match isStore o with | true=>none | false=>o.dst)::la | none=>la
def Lex (E:Env) (ops:Array Oper) (base:Nat→List Obj) (ks:List Nat) (ws:Nat→List Nat) (H:Heap):List Oper→Nat→List (Nat×Option Nat)→St→List Out→St→Prop
 | [],_,_,st,[],fin=>fin=st
 | o::r,i,la,st,x::xs,fin=>OutFact E ops (base i) ks (ws i) H o st x∧(∀ l ob,x.eff=some (l,ob)→isFirst o=true∨(inL ks l=false∧laHas la l=false)∨(inL ks l=true∧∃ p,prevOf o=some p∧laLook la l=some p))∧Lex E ops base ks ws H r (i+1) (laOf o x la) (stepOut o x st) xs fin
 | _,_,_,_,_,_=>False
theorem laIs_spec {la:List (Nat×Option Nat)} {l p:Nat} (h:laIs la l p=true):laLook la l=some p:=by
 unfold laIs at h
 split at h
 ·rename_i p' hp
  rw [hp,Nat.eq_of_beq_eq_true h]
 ·cases h
theorem headOp_out {E:Env} {ops:Array Oper} {base:List Obj} {ks ws:List Nat} {la:List (Nat×Option Nat)} (hr:Runs ops o st) {k:D→List Obj→List (Nat×Option Nat)→Prop} (h:evHeadOp E base ks ws la o st H k) :
  ∃ x:Out,(∀ d',Nrm x.d d'→OutFact E ops base ks ws H o st ⟨d',x.eff⟩)∧(∀ l ob,x.eff=some (l,ob)→isFirst o=true∨(inL ks l=false∧laHas la l=false)∨(inL ks l=true∧∃ p,prevOf o=some p∧laLook la l=some p)) ∧
   k x.d (match x.eff with | some (l,ob)=>st.loc.set l ob | none=>st.loc) (laOf o x la):=by
 have hn:∀ d d',Nrm d d'→(∃ y:V,d=.v .bool y)∨d'=d:=fun d d' h=>by
  rcases h with h | ⟨y,h,_⟩
  ·exact .inr h
  ·exact .inl ⟨y,h⟩
 have hp:evPureK E base ks la o st H k→∃ x:Out,(∀ d',Nrm x.d d'→OutFact E ops base ks ws H o st ⟨d',x.eff⟩)∧(∀ l ob,x.eff=some (l,ob)→isFirst o=true∨(inL ks l=false∧laHas la l=false)∨(inL ks l=true∧∃ p,prevOf o=some p∧laLook la l=some p)) ∧
   k x.d (match x.eff with | some (l,ob)=>st.loc.set l ob | none=>st.loc) (laOf o x la):=fun h=>by
  obtain ⟨d,h1,h2⟩:=evOpP_det o _ h
  split at h2
  ·rename_i h3
   exact ⟨⟨d,none⟩,fun d' hd'=>.pure d d' hr h1 hd' h3,fun l ob he=>(by cases he),h2⟩
  ·exact h2.elim
 unfold evHeadOp at h
 split at h
 ·rename_i e ho hg
  split at h
  ·rename_i d hd
   split at h
   ·rename_i h1 h2
    refine ⟨⟨.ptr (.loc d) 0,some (d,.cells ((E.T.get e).lf.map zeroD))⟩,fun d' hd'=>?_,fun l ob _=>.inl (by simp [isFirst,ho]),?_⟩
    ·rcases hn _ _ hd' with ⟨y,hy⟩ | rfl
     ·cases hy
     ·exact .alloc e d ho hd hg h1 (by simpa using h2)
    ·simpa [laOf,isStore,ho,hd] using h
   ·exact h.elim
  ·exact h.elim
 ·rename_i t x y ho hg
  split at h
  ·rename_i d hd
   split at h
   ·rename_i e k m k' m' he hx hy
    split at h
    ·rename_i hb
     obtain ⟨⟨b1,b2⟩,b3⟩:(inL ks d=true∧0<(E.T.get e).lf.length)∧(E.T.get e).lf.all K.isData=true:=by
      rw [Bool.and_eq_true,Bool.and_eq_true,Nat.blt_eq] at hb; exact hb
     obtain ⟨h1,h2,h3,h4⟩:=h
     refine ⟨⟨.osl (.loc d) m.int.toNat,some (d,.row e (zeroRow (E.T.get e).lf m.int.toNat))⟩,fun d' hd'=>?_,fun l ob _=>.inl (by simp [isFirst,ho]),?_⟩
     ·rcases hn _ _ hd' with ⟨y,hy⟩ | rfl
      ·cases hy
      ·exact .make t x y e k k' m m' d ho hd hg b1 he b2 b3 hx hy h1 h2 h3
     ·simpa [laOf,isStore,ho,hd] using h4
    ·exact h.elim
   ·exact h.elim
  ·exact h.elim
 ·rename_i t parts ho hg
  split at h
  ·rename_i d hd
   split at h
   ·rename_i e he hpl hb
    obtain ⟨b1,b2⟩:inL ks d=true∧E.lit d=true:=by rw [Bool.and_eq_true] at hb; exact hb
    split at h
    ·rename_i b3
     refine ⟨⟨.osl (.loc d) 0,some (d,.row e [])⟩,fun d' hd'=>?_,fun l ob _=>.inl (by simp [isFirst,ho]),?_⟩
     ·rcases hn _ _ hd' with ⟨y,hy⟩ | rfl
      ·cases hy
      ·exact .lit t parts e d ho hpl hd hg b1 b2 he (by simpa using b3)
     ·simpa [laOf,isStore,ho,hd] using h
    ·exact h.elim
   ·exact h.elim
  ·exact h.elim
 ·rename_i t l x ho hg
  split at h
  ·-- into an older object
   unfold evLate at h
   split at h
   ·rename_i l2 f hd hp2
    split at h
    ·rename_i cs hc
     split at h
     ·rename_i hb
      simp only [Bool.and_eq_true,Bool.not_eq_true',Nat.blt_eq,Nat.ble_eq] at hb
      obtain ⟨⟨⟨⟨⟨⟨⟨h1,h2⟩,h3⟩,h4⟩,h5⟩,h6⟩,h7⟩,h8⟩:=hb
      have h5:=Nat.eq_of_beq_eq_true h5
      refine ⟨⟨.skip,some (l2,.cells (setCells cs f (st.eval x).cells))⟩,fun d' hd'=>?_,fun l3 ob he=>?_,?_⟩
      ·rcases hn _ _ hd' with ⟨y,hy⟩ | rfl
       ·cases hy
       ·exact .late t l l2 f x cs ho hd hg h1 h2 hp2 hc h4 h5 h6 h7 h8
      ·cases he
       exact .inr (.inl ⟨h2,h3⟩)
      ·simpa [laOf,isStore,ho] using h
     ·exact h.elim
    ·exact h.elim
   ·exact h.elim
  split at h
  ·rename_i l' cs hd hl hc
   split at h
   ·rename_i hb
    simp only [Bool.and_eq_true,Bool.not_eq_true',Nat.blt_eq] at hb
    obtain ⟨⟨⟨⟨⟨⟨⟨h1,h2⟩,h3⟩,h4⟩,h5⟩,h6⟩,h7⟩,h8⟩:=hb
    have h1:=Nat.eq_of_beq_eq_true h1
    have h4:=Nat.eq_of_beq_eq_true h4
    have h5:=Nat.eq_of_beq_eq_true h5
    subst h1
    refine ⟨⟨.skip,some (l,.cells (st.eval x).cells)⟩,fun d' hd'=>?_,fun l2 ob he=>?_,?_⟩
    ·rcases hn _ _ hd' with ⟨y,hy⟩ | rfl
     ·cases hy
     ·exact .store t l x cs ho hd hg h2 hl hc h5 h4 h6 h7 h8
    ·cases he
     exact .inr (.inr ⟨h2,l,by simp [prevOf,ho],laIs_spec h3⟩)
    ·simpa [laOf,isStore,ho] using h
   ·exact h.elim
  ·exact h.elim
 ·rename_i c ho hg
  split at h
  ·rename_i p y t t' hc hargs htys
   split at h
   ·rename_i d e l n hd he hp'
    split at h
    ·rename_i hb
     simp only [Bool.and_eq_true,Nat.blt_eq] at hb
     obtain ⟨⟨⟨b1,b2⟩,b3⟩,b4⟩:=hb
     have b3:=Nat.eq_of_beq_eq_true b3
     subst b3
     obtain ⟨xs,w1,w2,w3⟩:=withRow_spec h
     obtain ⟨ys,s1,s2,s3⟩:=srcOf_one w3
     refine ⟨⟨.osl (.loc l) (n+ys.length),some (l,.row e (xs++ys))⟩,fun d' hd'=>?_,fun l2 ob hef=>?_,?_⟩
     ·rcases hn _ _ hd' with ⟨y,hy⟩ | rfl
      ·cases hy
      ·exact .app c t e p y l n d xs ys ho hc hargs htys hd hg b1 he b4 hp' w1 w2 s1 s2
     ·cases hef
      exact .inr (.inr ⟨b1,p,by simp [prevOf,ho,hargs],laIs_spec b2⟩)
     ·simpa [laOf,isStore,ho,hd] using s3
    ·exact h.elim
   ·exact h.elim
  ·exact hp h
 ·rename_i p ho hg
  exact ⟨⟨st.tmps.getD p .undef,none⟩,fun d' hd'=>.copy p d' (.inl ho) hg hd',fun l ob he=>(by cases he),h⟩
 ·rename_i p ho hg
  exact ⟨⟨st.tmps.getD p .undef,none⟩,fun d' hd'=>.copy p d' (.inr ho) hg hd',fun l ob he=>(by cases he),h⟩
 ·exact hp h
theorem head_lex {E:Env} {ops:Array Oper} {base:Nat→List Obj} {ks:List Nat} {ws:Nat→List Nat} (q:St→Prop):∀ (l:List Oper) (i:Nat) (sl:List (Nat×Option Nat)) (st:St),evHead E ops base ks ws H l i sl st q →
  ∃ xs fin,Lex E ops base ks ws H l i sl st xs fin∧q fin
 | [],_,_,st,h=>⟨[],st,rfl,h⟩
 | o::r,i,sl,st,h=>by
  have run:∀ (hr:Runs ops o st),evHeadOp E (base i) ks (ws i) sl o st H (fun d loc sl=>match isGuard i ops.toList,d with
   | true,.v .bool x=>iff x.bool (evHead E ops base ks ws H r (i+1) sl ⟨(st.put o.dst (.v .bool (.b true))).tmps,loc⟩ q) (evHead E ops base ks ws H r (i+1) sl ⟨(st.put o.dst (.v .bool (.b false))).tmps,loc⟩ q)
   | true,_=>False
   | false,d=>evHead E ops base ks ws H r (i+1) sl ⟨(st.put o.dst d).tmps,loc⟩ q)→∃ xs fin,Lex E ops base ks ws H (o::r) i sl st xs fin∧q fin:=fun hr h=>by
   obtain ⟨x,h2,h3,h4⟩:=headOp_out hr h
   have fin:∀ d',Nrm x.d d'→evHead E ops base ks ws H r (i+1) (laOf o x sl) ⟨(st.put o.dst d').tmps,match x.eff with | some (l,ob)=>st.loc.set l ob | none=>st.loc⟩ q→∃ xs fin,Lex E ops base ks ws H (o::r) i sl st xs fin∧q fin:=fun d' hd' h5=>by
    obtain ⟨xs,f,h6,h7⟩:=head_lex q r (i+1) _ _ h5
    exact ⟨⟨d',x.eff⟩::xs,f,⟨h2 d' hd',h3,h6⟩,h7⟩
   split at h4
   ·rename_i y _ hy
    unfold iff iffC at h4
    cases hyb:y.bool with
    | true=>rw [hyb] at h4; exact fin _ (.inr ⟨y,hy,by rw [hyb]⟩) h4
    | false=>rw [hyb] at h4; exact fin _ (.inr ⟨y,hy,by rw [hyb]⟩) h4
   ·exact h4.elim
   ·exact fin _ (.inl rfl) h4
  have skip:∀ j want g,o.guard=some (j,want)→(ops[j]?).bind (·.dst)=some g→(st.tmps.getD g .undef=.skip∨∃ x,st.tmps.getD g .undef=.v .bool (.b x)∧x≠want) →
    evHead E ops base ks ws H r (i+1) sl (st.put o.dst .skip) q→∃ xs fin,Lex E ops base ks ws H (o::r) i sl st xs fin∧q fin:=fun j want g h1 h2 h3 h5=>by
   have e1:stepOut o ⟨.skip,none⟩ st=st.put o.dst .skip:=by unfold stepOut; cases o.dst <;> rfl
   obtain ⟨xs,f,h6,h7⟩:=head_lex q r (i+1) _ _ h5
   exact ⟨⟨.skip,none⟩::xs,f,⟨.skip j want g h1 h2 h3,fun l ob he=>(by cases he),by rw [e1]; exact h6⟩,h7⟩
  unfold evHead at h
  dsimp only at h
  split at h
  ·rename_i hg; exact run (.inl hg) h
  ·rename_i j want hg
   split at h
   ·exact h.elim
   ·rename_i g hj
    split at h
    ·rename_i x hx
     split at h
     ·exact run (.inr ⟨j,true,g,hg,hj,hx⟩) h
     ·exact run (.inr ⟨j,false,g,hg,hj,hx⟩) h
     ·rename_i hne1 hne2
      refine skip j want g hg hj (.inr ⟨x,hx,fun he=>?_⟩) h
      cases x <;> subst he <;> simp_all
    ·rename_i hx
     exact skip j want g hg hj (.inl hx) h
    ·exact h.elim
def dstOf (l:List Oper) (k:Nat):Option Nat:=(l[k]?).bind (·.dst)
def outOf (xs:List Out) (k:Nat):Out:=xs.getD k ⟨.undef,none⟩
structure At (l:List Oper) (xs:List Out) (st1:St) (L:Nat→Bool) (st:St):Prop where
 tl:st.tmps.length=st1.tmps.length
 t1:∀ k d,L k=true→dstOf l k=some d→d<st1.tmps.length→st.tmps.getD d .undef=(outOf xs k).d
 t0:∀ t,(∀ k,L k=true→dstOf l k≠some t)→st.tmps.getD t .undef=st1.tmps.getD t .undef
 ll:st.loc.length=st1.loc.length
 l1:∀ k j ob,L k=true→(outOf xs k).eff=some (j,ob)→(∀ k' ob',L k'=true→(outOf xs k').eff=some (j,ob')→k'≤k)→j<st1.loc.length→st.loc.getD j .dead=ob
 l0:∀ j,(∀ k ob,L k=true→(outOf xs k).eff≠some (j,ob))→st.loc.getD j .dead=st1.loc.getD j .dead
theorem At.step {l:List Oper} {xs:List Out} {st1:St} {L:Nat→Bool} (h:At l xs st1 L st) {i:Nat} {o:Oper} (hi:l[i]?=some o) (hL:L i=false)
  (hD:∀ k d,L k=true→dstOf l k=some d→o.dst≠some d) (hE:∀ k j ob ob',L k=true→(outOf xs k).eff=some (j,ob)→(outOf xs i).eff=some (j,ob')→k<i) :
  At l xs st1 (fun k=>L k||Nat.beq k i) (stepOut o (outOf xs i) st):=by
 have hdi:dstOf l i=o.dst:=by simp [dstOf,hi]
 have hput:∀ t,(stepOut o (outOf xs i) st).tmps.getD t .undef=if o.dst=some t∧t<st.tmps.length then (outOf xs i).d else st.tmps.getD t .undef:=fun t=>by
  unfold stepOut
  cases hd:o.dst with
  | none=>simp [St.put]
  | some d =>
   show (st.tmps.set d _).getD t .undef=_
   rw [set_getD]
   by_cases h1:t=d
   ·subst h1; simp
   ·have:¬ d=t:=fun h=>h1 h.symm
    simp [h1,this]
 have hloc:(stepOut o (outOf xs i) st).loc=match (outOf xs i).eff with | some (l,ob)=>st.loc.set l ob | none=>st.loc:=rfl
 have or:∀ {k:Nat},(L k||Nat.beq k i)=true→L k=true∨k=i:=fun {k} h=>by
  rcases Bool.or_eq_true _ _▸h with h | h
  ·exact .inl h
  ·exact .inr (Nat.eq_of_beq_eq_true h)
 have orL:∀ {k:Nat},L k=true→(L k||Nat.beq k i)=true:=fun h=>by simp [h]
 have orI:(L i||Nat.beq i i)=true:=by simp [Nat.beq_refl]
 refine ⟨?_,fun k d hk hd hlt=>?_,fun t ht=>?_,?_,fun k j ob hk he hmax hlt=>?_,fun j hj=>?_⟩
 ·unfold stepOut; cases o.dst <;> simp [St.put,h.tl]
 ·rw [hput]
  rcases or hk with hk | rfl
  ·rw [if_neg (fun hh=>hD k d hk hd hh.1)]
   exact h.t1 k d hk hd hlt
  ·rw [if_pos ⟨hdi▸hd,by rw [h.tl]; exact hlt⟩]
 ·rw [hput,if_neg (fun hh=>ht i orI (hdi.trans hh.1))]
  exact h.t0 t fun k hk=>ht k (orL hk)
 ·rw [hloc]; split <;> simp [h.ll]
 ·rw [hloc]
  rcases or hk with hk' | rfl
  ·have h5:=h.l1 k j ob hk' he (fun k' ob' hk2 he2=>hmax k' ob' (orL hk2) he2) hlt
   split
   ·rename_i j' ob' he'
    by_cases hjj:j'=j
    ·subst hjj
     have h3:=hE k j' ob ob' hk' he he'
     have h4:=hmax i ob' orI he'
     omega
    ·rw [set_getD_gen,if_neg (fun hh=>hjj hh.1.symm)]; exact h5
   ·exact h5
  ·rw [he]
   show (st.loc.set j ob).getD j .dead=ob
   rw [set_getD_gen,if_pos ⟨rfl,by rw [h.ll]; exact hlt⟩]
 ·rw [hloc]
  have h5:=h.l0 j fun k ob hk=>hj k ob (orL hk)
  split
  ·rename_i j' ob' he'
   rw [set_getD_gen,if_neg (fun hh=>hj i ob' orI (by rw [he',hh.1]))]; exact h5
  ·exact h5
theorem At.unique {l:List Oper} {xs:List Out} {st1:St} {L:Nat→Bool} {st st':St} (h:At l xs st1 L st) (h':At l xs st1 L st') (hfin:∀ k,L k=true→k<l.length):st=st':=by
 have ht:st.tmps=st'.tmps:=by
  refine List.ext_getElem (h.tl.trans h'.tl.symm) fun t h1 h2=>?_
  have key:st.tmps.getD t .undef=st'.tmps.getD t .undef:=by
   by_cases hx:∃ k,L k=true∧dstOf l k=some t
   ·obtain ⟨k,hk,hd⟩:=hx
    rw [h.t1 k t hk hd (h.tl▸h1),h'.t1 k t hk hd (h.tl▸h1)]
   ·rw [h.t0 t fun k hk hd=>hx ⟨k,hk,hd⟩,h'.t0 t fun k hk hd=>hx ⟨k,hk,hd⟩]
  simpa [List.getD_eq_getElem?_getD,h1,h2] using key
 have hl:st.loc=st'.loc:=by
  refine List.ext_getElem (h.ll.trans h'.ll.symm) fun j h1 h2=>?_
  have key:st.loc.getD j .dead=st'.loc.getD j .dead:=by
   have hmax:∀ m,(∃ k,k<m∧L k=true∧∃ ob,(outOf xs k).eff=some (j,ob))→∃ k ob,L k=true∧(outOf xs k).eff=some (j,ob)∧∀ k' ob',k' < m→L k'=true→(outOf xs k').eff=some (j,ob')→k'≤k:=by
    intro m
    induction m with
    | zero=>intro ⟨k,hk,_⟩; omega
    | succ m ih =>
     intro hx
     by_cases hm:L m=true∧∃ ob,(outOf xs m).eff=some (j,ob)
     ·obtain ⟨hm1,ob,hm2⟩:=hm
      exact ⟨m,ob,hm1,hm2,fun k' _ hk' _ _=>by omega⟩
     ·obtain ⟨k,hk,hk1,hk2⟩:=hx
      have hkm:k≠m:=fun he=>hm (he▸⟨hk1,hk2⟩)
      obtain ⟨k0,ob,g1,g2,g3⟩:=ih ⟨k,by omega,hk1,hk2⟩
      refine ⟨k0,ob,g1,g2,fun k' ob' h3 h4 h5=>?_⟩
      by_cases hkm':k'=m
      ·subst hkm'; exact absurd ⟨h4,ob',h5⟩ hm
      ·exact g3 k' ob' (by omega) h4 h5
   by_cases hx:∃ k,k<l.length∧L k=true∧∃ ob,(outOf xs k).eff=some (j,ob)
   ·obtain ⟨k,ob,g1,g2,g3⟩:=hmax _ hx
    have g4:∀ k' ob',L k'=true→(outOf xs k').eff=some (j,ob')→k'≤k:=fun k' ob' a b=>g3 k' ob' (hfin k' a) a b
    rw [h.l1 k j ob g1 g2 g4 (h.ll▸h1),h'.l1 k j ob g1 g2 g4 (h.ll▸h1)]
   ·have g:∀ k ob,L k=true→(outOf xs k).eff≠some (j,ob):=fun k ob a b=>hx ⟨k,hfin k a,a,ob,b⟩
    rw [h.l0 j g,h'.l0 j g]
  simpa [List.getD_eq_getElem?_getD,h1,h2] using key
 cases st; cases st'; simp_all
def ObjFree (i:Nat) (o:Obj):Prop:=(∀ cs,o=.cells cs→∀ d∈cs,D.names i d=false)∧∀ m x n s,o=.iter m x n s→D.names i x=false
theorem OutFact.eff {E:Env} {ops:Array Oper} {base:List Obj} {ks ws:List Nat} {x:Out} (h:OutFact E ops base ks ws H o st x) {j:Nat} {ob:Obj} (he:x.eff=some (j,ob)) :
  (inL ks j=true∧((o.dst=some j∧isFirst o=true∧∀ i,ObjFree i ob)∨(isFirst o=false∧((∃ e xs,ob=.row e xs)∨∃ cs,ob=.cells cs∧D.anyL (Ref.isIn ks) cs=false)))) ∨
  (inL ks j=false∧inL ws j=true∧isFirst o=false∧∃ cs f ds,ob=.cells (setCells cs f ds)∧st.loc.getD j .dead=.cells cs∧D.anyL (Ref.isIn ks) ds=false):=by
 cases h with
 | skip=>cases he
 | pure=>cases he
 | alloc e d h1 h2 h3 h4 =>
  cases he
  refine .inl ⟨h4,.inl ⟨h2,by simp [isFirst,h1],fun i=>⟨fun cs hcs dd hdd=>?_,fun m x n s h=>by cases h⟩⟩⟩
  cases hcs
  obtain ⟨kk,_,rfl⟩:=List.mem_map.1 hdd
  cases kk <;> rfl
 | make t x y e k k' m m' d h1 h2 h3 h4 =>
  cases he
  exact .inl ⟨h4,.inl ⟨h2,by simp [isFirst,h1],fun i=>⟨fun cs hcs=>(by cases hcs),fun m x n s h=>(by cases h)⟩⟩⟩
 | lit t parts e d h1 h2 h3 h4 h5 =>
  cases he
  exact .inl ⟨h5,.inl ⟨h3,by simp [isFirst,h1],fun i=>⟨fun cs hcs=>(by cases hcs),fun m x n s h=>(by cases h)⟩⟩⟩
 | copy=>cases he
 | app c t e p y l n d xs ys h1 h2 h3 h4 h5 h6 h7 =>
  cases he
  exact .inl ⟨h7,.inr ⟨by simp [isFirst,h1],.inl ⟨_,_,rfl⟩⟩⟩
 | store t l x cs h1 h2 h3 h4 h5 h6 h7 h8 h9 h10 h11=>cases he; exact .inl ⟨h4,.inr ⟨by simp [isFirst,h1],.inr ⟨_,rfl,h11⟩⟩⟩
 | late t p l f x cs h1 h2 h3 h4 h5 h6 h7 h8 h9 h10 h11 h12=>cases he; exact .inr ⟨h5,h4,by simp [isFirst,h1],cs,f,_,rfl,h7,h12⟩
theorem lex_at {E:Env} {ops:Array Oper} {base:Nat→List Obj} {ks:List Nat} {ws:Nat→List Nat} {l:List Oper} {ys:List Out} {st1:St} (hdist:∀ k k' d,k≠k'→dstOf l k=some d→dstOf l k'≠some d) :
  ∀ (r:List Oper) (xs:List Out) (pre:Nat) (sl:List (Nat×Option Nat)) (st fin:St),Lex E ops base ks ws H r pre sl st xs fin→(∀ j,r[j]?=l[pre+j]?)→(∀ j,j<r.length→xs.getD j ⟨.undef,none⟩=outOf ys (pre+j))→pre+r.length=l.length →
  (∀ j p,laLook sl j=some p→∃ k ok ob,k<pre∧l[k]?=some ok∧(outOf ys k).eff=some (j,ob)∧ok.dst=some p∧∀ k' ob',k<k'→k' < pre→(outOf ys k').eff≠some (j,ob')) →
  (∀ j,laHas sl j=false→∀ k ob,k<pre→(outOf ys k).eff≠some (j,ob)) →
  At l ys st1 (fun k=>Nat.blt k pre) st →
  At l ys st1 (fun k=>Nat.blt k l.length) fin∧∀ i o,pre≤i→l[i]?=some o→∃ s,At l ys st1 (fun k=>Nat.blt k i) s∧OutFact E ops (base i) ks (ws i) H o s (outOf ys i) ∧
   ∀ j ob',(outOf ys i).eff=some (j,ob')→isFirst o=true∨(inL ks j=false∧∀ k ob'',k<i→(outOf ys k).eff≠some (j,ob''))∨(inL ks j=true∧∃ p k ok ob,prevOf o=some p∧k<i∧l[k]?=some ok∧(outOf ys k).eff=some (j,ob)∧ok.dst=some p∧∀ k' ob'',k<k'→k' < i→(outOf ys k').eff≠some (j,ob''))
 | [],xs,pre,sl,st,fin,h,hr,hx,hlen,hsl,hhs,hat=>by
  cases xs with
  | cons=>exact h.elim
  | nil =>
   have h':fin=st:=h
   subst h'
   have:pre=l.length:=by simpa using hlen
   subst this
   refine ⟨hat,fun i o hi ho=>?_⟩
   rw [List.getElem?_eq_none (by omega)] at ho; cases ho
 | o::r,xs,pre,sl,st,fin,h,hr,hx,hlen,hsl,hhs,hat=>by
  cases xs with
  | nil=>exact h.elim
  | cons x xs =>
   obtain ⟨h1,h2,h3⟩:=h
   have ho:l[pre]?=some o:=by simpa using (hr 0).symm
   have hx0:x=outOf ys pre:=by simpa using hx 0 (by simp)
   have hstep:At l ys st1 (fun k=>Nat.blt k (pre+1)) (stepOut o x st):=by
    have:=hat.step (i:=pre) ho (by rw [← Bool.not_eq_true,Nat.blt_eq]; omega) (fun k d hk hd hd'=>hdist k pre d (by simp [Nat.blt_eq] at hk; omega) hd (by simp [dstOf,ho,hd'])) (fun k j ob ob' hk _ _=>by simpa [Nat.blt_eq] using hk)
    rw [hx0]
    have he:(fun k=>Nat.blt k pre||Nat.beq k pre)=(fun k=>Nat.blt k (pre+1)):=by
     funext k
     by_cases hk:k<pre
     ·have e1:Nat.blt k pre=true:=by simpa [Nat.blt_eq] using hk
      have e2:Nat.blt k (pre+1)=true:=by rw [Nat.blt_eq]; omega
      rw [e1,e2]; rfl
     ·by_cases hk2:k=pre
      ·subst hk2
       have e2:Nat.blt k (k+1)=true:=by rw [Nat.blt_eq]; omega
       rw [Nat.beq_refl,e2,Bool.or_true]
      ·have e1:Nat.blt k pre=false:=by rw [← Bool.not_eq_true,Nat.blt_eq]; omega
       have e2:Nat.blt k (pre+1)=false:=by rw [← Bool.not_eq_true,Nat.blt_eq]; omega
       have e3:Nat.beq k pre=false:=by
        cases hb:Nat.beq k pre with
        | false=>rfl
        | true=>exact absurd (Nat.eq_of_beq_eq_true hb) hk2
       rw [e1,e2,e3]; rfl
    rw [he] at this
    exact this
   obtain ⟨g1,g2⟩:=lex_at hdist r xs (pre+1) (laOf o x sl) (stepOut o x st) fin h3 (fun j=>by have:=hr (j+1); simpa [Nat.add_assoc,Nat.add_comm 1 j] using this)
    (fun j hj=>by have:=hx (j+1) (by simpa using hj); simpa [Nat.add_assoc,Nat.add_comm 1 j] using this) (by simp at hlen; omega)
    (fun j p hlk=>by
     unfold laOf at hlk
     have old:laLook sl j=some p→(∀ ob',(outOf ys pre).eff≠some (j,ob'))→∃ k ok ob,k<pre+1∧l[k]?=some ok∧(outOf ys k).eff=some (j,ob)∧ok.dst=some p∧∀ k' ob',k<k'→k' < pre+1→(outOf ys k').eff≠some (j,ob'):=fun h6 h7=>by
      obtain ⟨k,ok,ob,g1,g2,g3,g4,g5⟩:=hsl j p h6
      refine ⟨k,ok,ob,by omega,g2,g3,g4,fun k' ob' h8 h9=>?_⟩
      by_cases hkp:k'=pre
      ·rw [hkp]; exact h7 ob'
      ·exact g5 k' ob' h8 (by omega)
     split at hlk
     ·rename_i l' ob hef
      simp only [laLook] at hlk
      split at hlk
      ·rename_i hb
       have hj:j=l':=Nat.eq_of_beq_eq_true hb
       subst hj
       split at hlk
       ·cases hlk
       ·exact ⟨pre,o,ob,by omega,ho,by rw [← hx0]; exact hef,hlk,fun k' _ h8 h9=>by omega⟩
      ·rename_i hb
       refine old hlk fun ob' he'=>?_
       rw [← hx0,hef] at he'
       cases he'
       rw [Nat.beq_refl] at hb; cases hb
     ·rename_i hef
      exact old hlk fun ob' he'=>by rw [← hx0,hef] at he'; cases he')
    (fun j hlk k ob hk he=>by
     unfold laOf at hlk
     by_cases hkp:k=pre
     ·subst hkp
      rw [← hx0] at he
      rw [he] at hlk
      simp [laHas,Nat.beq_refl] at hlk
     ·have hold:laHas sl j=false:=by
       split at hlk
       ·simp only [laHas] at hlk
        split at hlk
        ·cases hlk
        ·exact hlk
       ·exact hlk
      exact hhs j hold k ob (by omega) he) hstep
   refine ⟨g1,fun i oi hi hoi=>?_⟩
   by_cases hip:i=pre
   ·subst hip
    rw [ho] at hoi; cases hoi
    refine ⟨st,hat,hx0▸h1,fun j ob' he'=>?_⟩
    rcases h2 j ob' (by rw [hx0]; exact he') with h6 | ⟨h6,h7⟩ | ⟨h8,p,h6,h7⟩
    ·exact .inl h6
    ·exact .inr (.inl ⟨h6,fun k ob'' hk=>hhs j h7 k ob'' hk⟩)
    ·obtain ⟨k,ok,ob,g1,g2,g3,g4,g5⟩:=hsl j p h7
     exact .inr (.inr ⟨h8,p,k,ok,ob,h6,g1,g2,g3,g4,g5⟩)
   ·exact g2 i oi (by omega) hoi
inductive Reach (ops:Array Oper):Nat→Nat→Prop
 | one (j:Nat) (o:Oper) (e:Edge):ops[j]?=some o→e∈o.after→Region.binds .any e=true→Reach ops j e.on
 | step (j:Nat) (o:Oper) (e:Edge) (k:Nat):ops[j]?=some o→e∈o.after→Region.binds .any e=true→Reach ops e.on k→Reach ops j k
theorem testBit_lor (a b k:Nat):(Nat.lor a b).testBit k=(a.testBit k||b.testBit k):=Nat.testBit_or a b k
theorem maskAfter_spec (tab:List Nat):∀ (es:List Edge) (k:Nat),(maskAfter tab es).testBit k=true→∃ e∈es,Region.binds .any e=true∧(k=e.on∨(tab.getD e.on 0).testBit k=true)
 | [],k,h=>by simp [maskAfter] at h
 | e::r,k,h=>by
  unfold maskAfter at h
  split at h
  ·rename_i hb
   rw [testBit_lor,testBit_lor,Nat.testBit_two_pow] at h
   simp only [Bool.or_eq_true,decide_eq_true_eq] at h
   rcases h with (h | h) | h
   ·exact ⟨e,by simp,hb,.inl h.symm⟩
   ·exact ⟨e,by simp,hb,.inr h⟩
   ·obtain ⟨e',h1,h2⟩:=maskAfter_spec tab r k h
    exact ⟨e',by simp [h1],h2⟩
  ·obtain ⟨e',h1,h2⟩:=maskAfter_spec tab r k h
   exact ⟨e',by simp [h1],h2⟩
theorem reachTab_length:∀ (l:List Oper) (tab:List Nat),(reachTab l tab).length=tab.length+l.length
 | [],tab=>by simp [reachTab]
 | o::r,tab=>by simp [reachTab,reachTab_length r]; omega
theorem reachTab_spec (ops:Array Oper):∀ (l:List Oper) (tab:List Nat),(∀ j,l[j]?=ops[tab.length+j]?)→(∀ i k,(tab.getD i 0).testBit k=true→Reach ops i k)→∀ i k,((reachTab l tab).getD i 0).testBit k=true→Reach ops i k
 | [],tab,_,h=>h
 | o::r,tab,hl,h=>by
  have ho:ops[tab.length]?=some o:=by simpa using (hl 0).symm
  refine reachTab_spec ops r (tab++[maskAfter tab o.after.toList]) (fun j=>by have:=hl (j+1); simpa [Nat.add_assoc,Nat.add_comm 1 j] using this) fun i k hk=>?_
  by_cases h1:i<tab.length
  ·rw [List.getD_eq_getElem?_getD,List.getElem?_append_left h1,← List.getD_eq_getElem?_getD] at hk
   exact h i k hk
  ·by_cases h2:i=tab.length
   ·subst h2
    rw [List.getD_eq_getElem?_getD,List.getElem?_append_right (by omega)] at hk
    simp at hk
    obtain ⟨e,h3,h4,h5⟩:=maskAfter_spec tab _ k hk
    have h3':e∈o.after:=by simpa using h3
    rcases h5 with rfl | h5
    ·exact .one _ o e ho h3' h4
    ·exact .step _ o e k ho h3' h4 (h _ _ h5)
   ·rw [List.getD_eq_getElem?_getD,List.getElem?_eq_none (by simp; omega)] at hk
    simp at hk
def Closed (ops:Array Oper) (L:Nat→Bool):Prop:=∀ j o,ops[j]?=some o→L j=true→∀ e∈o.after,Region.binds .any e=true→L e.on=true
theorem Reach.listed {ops:Array Oper} {L:Nat→Bool} (hc:Closed ops L) {j k:Nat} (h:Reach ops j k) (hj:∀ o,ops[j]?=some o→∀ e∈o.after,Region.binds .any e=true→L e.on=true):L k=true:=by
 induction h with
 | one j o e h1 h2 h3=>exact hj o h1 e h2 h3
 | step j o e k h1 h2 h3 h4 ih =>
  have he:=hj o h1 e h2 h3
  exact ih fun o' ho' e' he' hb'=>hc _ o' ho' he e' he' hb'
theorem Reach.of_listed {ops:Array Oper} {L:Nat→Bool} (hc:Closed ops L) {j k:Nat} (h:Reach ops j k) (hj:L j=true):L k=true :=
 h.listed hc fun o ho e he hb=>hc j o ho hj e he hb
theorem maskOf_mem:∀ (l:List Nat) (t:Nat),t∈l→(maskOf l).testBit t=true
 | [],t,h=>by cases h
 | x::r,t,h=>by
  show (Nat.lor (2 ^ x) (maskOf r)).testBit t=true
  rw [testBit_lor,Nat.testBit_two_pow]
  rcases List.mem_cons.1 h with rfl | h
  ·simp
  ·rw [maskOf_mem r t h]; simp
theorem againstAll_spec (b:DRow):∀ (l:List DRow) (i:Nat),againstAll b i l=true→∀ m a,l[m]?=some a→pairOk (i+m) a b=true
 | [],i,_,m,a,h=>by simp at h
 | x::r,i,h,m,a,hm=>by
  obtain ⟨h1,h2⟩:pairOk i x b=true∧againstAll b (i+1) r=true:=by simpa [againstAll] using h
  cases m with
  | zero=>simp at hm; subst hm; exact h1
  | succ m =>
   have:=againstAll_spec b r (i+1) h2 m a (by simpa using hm)
   rw [show i+(m+1)=i+1+m by omega]; exact this
theorem pairsOk_spec:∀ (l pre:List DRow),pairsOk pre l=true→∀ i j a b,i<pre.length+j→(pre++l)[i]?=some a→l[j]?=some b→pairOk i a b=true
 | [],pre,_,i,j,a,b,_,_,h=>by simp at h
 | x::r,pre,h,i,j,a,b,hij,ha,hb=>by
  obtain ⟨h1,h2⟩:againstAll x 0 pre=true∧pairsOk (pre++[x]) r=true:=by simpa [pairsOk] using h
  cases j with
  | zero =>
   simp at hb; subst hb
   rw [List.getElem?_append_left (by simpa using hij)] at ha
   have:=againstAll_spec x pre 0 h1 i a ha
   simpa using this
  | succ j=>exact pairsOk_spec r (pre++[x]) h2 i j a b (by simp; omega) (by simpa using ha) (by simpa using hb)
theorem backOk_spec:∀ (l:List Oper) (i:Nat),backOk i l=true→∀ j o,l[j]?=some o→∀ e∈o.after,Region.binds .any e=true→e.on<i+j
 | [],i,_,j,o,h=>by simp at h
 | x::r,i,h,j,o,hj=>by
  intro e he hb
  obtain ⟨h1,h2⟩:(x.after.toList.all fun e=>!(Region.binds .any e)||Nat.blt e.on i)=true∧backOk (i+1) r=true:=by
   unfold backOk at h; rwa [Bool.and_eq_true] at h
  cases j with
  | zero =>
   simp at hj; subst hj
   have:=List.all_eq_true.1 h1 e (by simpa using he)
   rw [hb] at this
   simpa using this
  | succ j =>
   have:=backOk_spec r (i+1) h2 j o (by simpa using hj) e he hb
   omega
structure DrawOk (ops:Array Oper) (n:Nat) (fs:List Nat):Prop where
 le:n≤ops.size
 back:∀ j o,ops[j]?=some o→∀ e∈o.after,Region.binds .any e=true→e.on<j
 dst:∀ i j oi oj d,i<j→j<n→ops[i]?=some oi→ops[j]?=some oj→oi.dst=some d→oj.dst≠some d
 apart:∀ i j oi oj,i<j→j<n→ops[i]?=some oi→ops[j]?=some oj→((∀ d,oi.dst=some d→d ∉ oj.looksAt ops)∧(∀ d,oj.dst=some d→d ∉ oi.looksAt ops))∨Reach ops j i
 tail:∀ j i,n≤j→j<ops.size→i<n→Reach ops j i∨inL fs i=true
 sel:∀ (j:Nat) (o:Oper) cs b,ops[j]?=some o→o.op≠.select cs b
 flts:fltsOk ops n fs []=true
 seq:Region.seqB .any ops (ops.size - n) n (headDone n ops.size)=true
theorem drawB_spec {ops:Array Oper} {n:Nat} {fs:List Nat} (h:drawB ops n fs=true):DrawOk ops n fs:=by
 unfold drawB at h
 simp only [Bool.and_eq_true,Nat.ble_eq,Array.length_toList] at h
 obtain ⟨⟨⟨⟨⟨h1,h2⟩,h3⟩,h4⟩,h6,h7⟩,h5⟩:=h
 have hreach:∀ i k,((reachTab ops.toList []).getD i 0).testBit k=true→Reach ops i k:=reachTab_spec ops ops.toList [] (fun j=>by simp) (fun i k hk=>by simp at hk)
 have hlen:(reachTab ops.toList []).length=ops.size:=by rw [reachTab_length]; simp
 have hrow:∀ i o,i<n→ops[i]?=some o→((List.zipWith (dRow ops) ops.toList (reachTab ops.toList [])).take n)[i]?=some (dRow ops o ((reachTab ops.toList []).getD i 0)):=fun i o hi ho=>by
  have hlt:i<ops.size:=by omega
  rw [List.getElem?_take_of_lt hi,List.getElem?_zipWith]
  have e1:ops.toList[i]?=some o:=by simpa using ho
  have e2:(reachTab ops.toList [])[i]?=some ((reachTab ops.toList []).getD i 0):=by
   rw [List.getElem?_eq_getElem (by omega),List.getD_eq_getElem?_getD,List.getElem?_eq_getElem (by omega)]; rfl
  rw [e1,e2]
 have hpair:∀ i j oi oj,i<j→j<n→ops[i]?=some oi→ops[j]?=some oj→pairOk i (dRow ops oi ((reachTab ops.toList []).getD i 0)) (dRow ops oj ((reachTab ops.toList []).getD j 0))=true:=fun i j oi oj hij hj hi hj' =>
  pairsOk_spec _ [] h3 i j _ _ (by simpa using hij) (by simpa using hrow i oi (by omega) hi) (hrow j oj hj hj')
 refine ⟨h1,fun j o ho e he hb=>?_,fun i j oi oj d hij hj hi hj' hd hd'=>?_,fun i j oi oj hij hj hi hj'=>?_,fun j i hj hjs hi=>?_,fun j o cs b ho he=>?_,h7,h5⟩
 ·have:=backOk_spec _ 0 h2 j o (by simpa using ho) e he hb
  omega
 ·have:=hpair i j oi oj hij hj hi hj'
  simp [pairOk,dRow,hd,hd',sameDst,Nat.beq_refl] at this
 ·have:=hpair i j oi oj hij hj hi hj'
  simp only [pairOk,dRow,Bool.and_eq_true,Bool.or_eq_true,Bool.not_eq_true'] at this
  rcases this.2 with ⟨g1,g2⟩ | g
  ·refine .inl ⟨fun d hd hm=>?_,fun d hd hm=>?_⟩
   ·rw [hd] at g1
    have:=maskOf_mem _ _ hm
    simp [confl,this] at g1
   ·rw [hd] at g2
    have:=maskOf_mem _ _ hm
    simp [confl,this] at g2
  ·exact .inr (hreach _ _ g)
 ·have hm:(reachTab ops.toList []).getD j 0∈(reachTab ops.toList []).drop n:=by
   rw [List.mem_iff_getElem?]
   refine ⟨j - n,?_⟩
   rw [List.getElem?_drop,show n+(j - n)=j by omega,List.getElem?_eq_getElem (by omega),List.getD_eq_getElem?_getD,List.getElem?_eq_getElem (by omega)]; rfl
  have:=List.all_eq_true.1 h4 _ hm
  have:=List.all_eq_true.1 this i (List.mem_range.2 hi)
  rcases Bool.or_eq_true _ _▸this with this | this
  ·exact .inl (hreach _ _ this)
  ·exact .inr this
 ·have hm:o∈ops.toList:=Array.mem_toList_iff.2 (Array.mem_of_getElem? ho)
  have:=List.all_eq_true.1 h6 o hm
  rw [he] at this
  cases this
theorem scrubD_free (i:Nat) (d:D):D.names i (scrubD i d)=false:=by
 unfold scrubD
 split
 ·rfl
 ·assumption
theorem scrubD_keeps (i k:Nat) (d:D) (h:D.names i d=false):D.names i (scrubD k d)=false:=by
 unfold scrubD
 split
 ·rfl
 ·exact h
theorem scrubO_free (i:Nat) (o:Obj):ObjFree i (scrubO i o):=by
 refine ⟨fun cs h d hd=>?_,fun m x n s h=>?_⟩
 ·obtain ⟨cs0,_,rfl⟩:=scrubO_cells h
  obtain ⟨d0,_,rfl⟩:=List.mem_map.1 hd
  exact scrubD_free i d0
 ·cases o <;> simp only [scrubO] at h <;> cases h
  exact scrubD_free i _
theorem scrubO_keeps (i k:Nat) (o:Obj) (h:ObjFree i o):ObjFree i (scrubO k o):=by
 refine ⟨fun cs he d hd=>?_,fun m x n s he=>?_⟩
 ·obtain ⟨cs0,h1,rfl⟩:=scrubO_cells he
  obtain ⟨d0,h2,rfl⟩:=List.mem_map.1 hd
  exact scrubD_keeps i k d0 (h.1 cs0 h1 d0 h2)
 ·cases o <;> simp only [scrubO] at he <;> cases he
  exact scrubD_keeps i k _ (h.2 _ _ _ _ rfl)
theorem scrubO_same {i:Nat} {o:Obj} (h:ObjFree i o):scrubO i o=o:=by
 cases o with
 | cells cs =>
  show Obj.cells (cs.map (scrubD i))=_
  congr 1
  conv=>rhs; rw [← List.map_id cs]
  exact List.map_congr_left fun d hd=>by simp [scrubD,h.1 cs rfl d hd]
 | row=>rfl
 | map=>rfl
 | iter m x n s=>simp [scrubO,scrubD,h.2 m x n s rfl]
 | dead=>rfl
structure Killed (ks:List Nat) (st:St):Prop where
 dead:∀ i,inL ks i=true→st.loc.getD i .dead=.dead
 tmps:∀ i,inL ks i=true→∀ t,D.names i (st.tmps.getD t .undef)=false
 locs:∀ i,inL ks i=true→∀ j,ObjFree i (st.loc.getD j .dead)
theorem inL_cons {k i:Nat} {l:List Nat} (h:inL (k::l) i=true):i=k∨inL l i=true:=by
 unfold inL at h
 split at h
 ·rename_i hb; exact .inl (Nat.eq_of_beq_eq_true hb)
 ·exact .inr h
theorem kill_one (i:Nat) (st:St):(newLoc i .dead st).loc.getD i .dead=.dead∧(∀ t,D.names i ((newLoc i .dead st).tmps.getD t .undef)=false)∧∀ j,ObjFree i ((newLoc i .dead st).loc.getD j .dead):=by
 refine ⟨?_,fun t=>?_,fun j=>?_⟩
 ·show ((st.loc.map (scrubO i)).set i .dead).getD i .dead=.dead
  rw [set_getD_gen]
  split
  ·rfl
  ·rename_i h
   rw [List.getD_eq_getElem?_getD,List.getElem?_eq_none (by simp at h; simp; omega)]; rfl
 ·show D.names i ((st.tmps.map (scrubD i)).getD t .undef)=false
  rw [getD_map_scrub]; exact scrubD_free i _
 ·show ObjFree i (((st.loc.map (scrubO i)).set i .dead).getD j .dead)
  rw [set_getD_gen]
  split
  ·exact ⟨fun cs h=>(by cases h),fun m x n s h=>(by cases h)⟩
  ·rw [getD_map_scrubO]; exact scrubO_free i _
theorem kill_keeps (i k:Nat) (st:St) (h1:st.loc.getD i .dead=.dead) (h2:∀ t,D.names i (st.tmps.getD t .undef)=false) (h3:∀ j,ObjFree i (st.loc.getD j .dead)) :
  (newLoc k .dead st).loc.getD i .dead=.dead∧(∀ t,D.names i ((newLoc k .dead st).tmps.getD t .undef)=false)∧∀ j,ObjFree i ((newLoc k .dead st).loc.getD j .dead):=by
 refine ⟨?_,fun t=>?_,fun j=>?_⟩
 ·show ((st.loc.map (scrubO k)).set k .dead).getD i .dead=.dead
  rw [set_getD_gen]
  split
  ·rfl
  ·rw [getD_map_scrubO,h1]; rfl
 ·show D.names i ((st.tmps.map (scrubD k)).getD t .undef)=false
  rw [getD_map_scrub]; exact scrubD_keeps i k _ (h2 t)
 ·show ObjFree i (((st.loc.map (scrubO k)).set k .dead).getD j .dead)
  rw [set_getD_gen]
  split
  ·exact ⟨fun cs h=>(by cases h),fun m x n s h=>(by cases h)⟩
  ·rw [getD_map_scrubO]; exact scrubO_keeps i k _ (h3 j)
theorem killed_adj : ∀ (ks done : List Nat) (st : St), Killed done st → Killed (done ++ ks) (adj (ks.map .dead) st)
  | [], done, st, h => by simpa [adj] using h
  | k :: r, done, st, h => by
    have h' : Killed (done ++ [k]) (newLoc k .dead st) := by
      have hin : ∀ i, inL (done ++ [k]) i = true → inL done i = true ∨ i = k := fun i => by
        have : ∀ l : List Nat, inL (l ++ [k]) i = true → inL l i = true ∨ i = k := fun l => by
          induction l with
          | nil => intro h; rcases inL_cons h with h | h
                   · exact .inr h
                   · cases h
          | cons x l ih =>
            intro h
            rcases inL_cons h with h | h
            · left; subst h; unfold inL; rw [Nat.beq_refl]
            · rcases ih h with h | h
              · left; unfold inL; split <;> first | rfl | exact h
              · exact .inr h
        exact this done
      have key : ∀ i, inL (done ++ [k]) i = true → (newLoc k .dead st).loc.getD i .dead = .dead ∧ (∀ t, D.names i ((newLoc k .dead st).tmps.getD t .undef) = false) ∧ ∀ j, ObjFree i ((newLoc k .dead st).loc.getD j .dead) := fun i hi => by
        rcases hin i hi with hi | rfl
        · exact kill_keeps i k st (h.dead i hi) (h.tmps i hi) (h.locs i hi)
        · exact kill_one i st
      exact ⟨fun i hi => (key i hi).1, fun i hi => (key i hi).2.1, fun i hi => (key i hi).2.2⟩
    have := killed_adj r (done ++ [k]) _ h'
    simpa [adj, adj1] using this
theorem isAt_isIn {ks:List Nat} {i:Nat} (hi:inL ks i=true):(∀ d,D.anyR (Ref.isIn ks) d=false→D.anyR (Ref.isAt i) d=false)∧(∀ l,D.anyL (Ref.isIn ks) l=false→D.anyL (Ref.isAt i) l=false):=by
 have hr:∀ r,Ref.isIn ks r=false→Ref.isAt i r=false:=fun r h=>by
  cases r with
  | own j=>rfl
  | loc j =>
   show Nat.beq i j=false
   cases hb:Nat.beq i j with
   | false=>rfl
   | true=>have:=Nat.eq_of_beq_eq_true hb; subst this; rw [show Ref.isIn ks (.loc i)=inL ks i from rfl,hi] at h; cases h
 have key:∀ d,(D.anyR (Ref.isIn ks) d=false→D.anyR (Ref.isAt i) d=false):=by
  intro d
  refine D.rec (motive_1:=fun d=>D.anyR (Ref.isIn ks) d=false→D.anyR (Ref.isAt i) d=false) (motive_2:=fun l=>D.anyL (Ref.isIn ks) l=false→D.anyL (Ref.isAt i) l=false) ?_ ?_ ?_ ?_ ?_ ?_ ?_ ?_ ?_ ?_ ?_ ?_ ?_ ?_ ?_ d
  all_goals intros
  all_goals first
   | rfl
   | (simp only [D.anyR] at *; exact hr _ (by assumption))
   | (rename_i ih h; simp only [D.anyR] at *; exact ih h)
   | skip
  rename_i x l ih1 ih2 h
  simp only [D.anyL] at *
  cases hx:D.anyR (Ref.isIn ks) x with
  | true=>rw [hx] at h; cases h
  | false=>rw [hx] at h; rw [ih1 hx]; exact ih2 h
 refine ⟨key,fun l=>?_⟩
 induction l with
 | nil=>intro _; rfl
 | cons x l ih =>
  intro h
  simp only [D.anyL] at *
  cases hx:D.anyR (Ref.isIn ks) x with
  | true=>rw [hx] at h; cases h
  | false=>rw [hx] at h; rw [key x hx]; exact ih h
theorem setCells_all {cs xs:List D} (h:cs.length=xs.length):setCells cs 0 xs=xs:=by
 refine List.ext_getElem (by rw [setCells_length,h]) fun j h1 h2=>?_
 have:=setCells_getD xs cs 0 j (by omega)
 rw [if_pos ⟨Nat.zero_le _,by omega⟩] at this
 simpa [List.getD_eq_getElem?_getD,h1,h2] using this
theorem RepD.nrm {S:Sig} {lf:TypeId→List K} {d d':D} {u:Value} (h:RepD lf S d u) (hn:Nrm d d'):RepD lf S d' u:=by
 rcases hn with rfl | ⟨y,rfl,rfl⟩
 ·exact h
 ·rw [h.bool_inv]; exact RepD.mkBool _
theorem put_stepOut (o:Oper) (d:D) (st:St):stepOut o ⟨d,none⟩ st=st.put o.dst d:=by unfold stepOut; cases o.dst <;> rfl
theorem runs_wanted {ops:Array Oper} {o:Oper} (hrel:Rel (lfs T) st H a S) (h:Runs ops o st):Region.wanted o (yielded ops a.tmps)=true:=by
 rcases h with hg | ⟨j,want,g,hg,hj,hx⟩
 ·simp [Region.wanted,hg]
 ·have hb:=hrel.rep g
  rw [hx] at hb
  have hy:=yielded_of (tmps:=a.tmps) hj
  rw [hb.bool_inv] at hy
  have e:V.bool (.b want)=want:=rfl
  simp [Region.wanted,hg,hy,e]
theorem head_step {E : Env} (hE : EnvOk P E) {ops : Array Oper} {base : List Obj} {ks ws : List Nat} {i : Nat} {o : Oper} (ho : ops[i]? = some o) {x : Out} (hf : OutFact E ops base ks ws H o st x) (hrel : Rel (lfs E.T) st H a S) (hinv : Inv S0 S) (hle : LocLe base st.loc)
    (hfree : ∀ d, o.dst = some d → isFirst o = true → x.eff ≠ none → (∀ t, D.names d (st.tmps.getD t .undef) = false) ∧ ∀ j, ObjFree d (st.loc.getD j .dead))
    {K : Act → World → Prop} {Q' : Exit → Act → World → Prop} (hK : ∀ a' S', Rel (lfs E.T) (stepOut o x st) H a' S' → Inv S0 S' → K a' S'.w) : wpOp P ops Q' i K a S.w := by
  unfold wpOp
  simp only [ho]
  cases hf with
  | skip j want g hg hj hx =>
    have hb := hrel.rep g
    have hy := yielded_of (tmps := a.tmps) hj
    have hw : Region.wanted o (yielded ops a.tmps) = false := by
      rcases hx with hx | ⟨x, hx, hne⟩
      · rw [hx] at hb
        have hb' : a.tmps.getD g Go.undef = Go.undef := by
          generalize a.tmps.getD g Go.undef = u at hb
          cases hb; rfl
        rw [hb'] at hy
        simp [Region.wanted, hg, hy, Go.undef]
      · rw [hx] at hb
        rw [hb.bool_inv] at hy
        have e : V.bool (.b x) = x := rfl
        simp [Region.wanted, hg, hy, e, hne]
    rw [hw]
    simp only [Bool.false_eq_true, if_false]
    exact hK _ S (by rw [put_stepOut]; exact hrel.put o.dst .skip) hinv
  | pure d d' hr he hn hks =>
    rw [runs_wanted hrel hr]
    simp only [if_true]
    left
    refine ok_op hE.noOwns o _ hrel hinv (evOpP_evOp hE.noOwns (fun _ => rfl) (fun _ => rfl) hle o _ (evOpP_noOwns he)) _ _ fun d2 v st' H' S' hq h1 h2 h3 => ?_
    obtain ⟨⟨rfl, rfl⟩, rfl⟩ := hq
    refine hK _ S' ?_ h2
    rw [put_stepOut]
    exact h1.put o.dst (h3.nrm hn)
  | alloc e d h1 h2 h3 h4 h5 =>
    rw [runs_wanted hrel (.inl h3)]
    simp only [if_true]
    left
    obtain ⟨f1, f2⟩ := hfree d h2 (by simp [isFirst, h1]) (by simp)
    have hev : evOp E o st H fun d' st' H' => d' = .ptr (.loc d) 0 ∧ st' = newLoc d (.cells ((E.T.get e).lf.map zeroD)) st ∧ H' = H := by
      unfold evOp
      rw [h1]
      dsimp only
      rw [h2, show Nat.blt 0 (E.T.get e).lf.length = true by rw [Nat.blt_eq]; exact h5]
      exact ⟨rfl, rfl, rfl⟩
    refine ok_op hE o _ hrel hinv hev _ _ fun d2 v st' H' S' hq g1 g2 g3 => ?_
    obtain ⟨rfl, rfl, rfl⟩ := hq
    refine hK _ S' ?_ g2
    have e1 : newLoc d (.cells ((E.T.get e).lf.map zeroD)) st = ⟨st.tmps, st.loc.set d (.cells ((E.T.get e).lf.map zeroD))⟩ := by
      have t1 : st.tmps.map (scrubD d) = st.tmps := by
        conv => rhs; rw [← List.map_id st.tmps]
        refine List.map_congr_left fun y hy => ?_
        obtain ⟨t, ht⟩ := List.mem_iff_getElem?.1 hy
        have := f1 t
        rw [List.getD_eq_getElem?_getD, ht] at this
        exact scrub_plain this
      have t2 : st.loc.map (scrubO d) = st.loc := by
        conv => rhs; rw [← List.map_id st.loc]
        refine List.map_congr_left fun y hy => ?_
        obtain ⟨t, ht⟩ := List.mem_iff_getElem?.1 hy
        have := f2 t
        rw [List.getD_eq_getElem?_getD, ht] at this
        exact scrubO_same this
      show (⟨st.tmps.map (scrubD d), (st.loc.map (scrubO d)).set d _⟩ : St) = _
      rw [t1, t2]
    have e2 : stepOut o ⟨.ptr (.loc d) 0, some (d, .cells ((E.T.get e).lf.map zeroD))⟩ st = (newLoc d (.cells ((E.T.get e).lf.map zeroD)) st).put o.dst (.ptr (.loc d) 0) := by
      rw [e1, h2]; unfold stepOut; rw [h2]; rfl
    rw [e2]
    exact g1.put o.dst g3
  | make t x y e k k' m m' d h1 h2 h3 h4 h5 h6 h7 h8 h9 h10 h11 h12 =>
    rw [runs_wanted hrel (.inl h3)]
    simp only [if_true]
    left
    obtain ⟨f1, f2⟩ := hfree d h2 (by simp [isFirst, h1]) (by simp)
    have hev : evOp E o st H fun d' st' H' => d' = .osl (.loc d) m.int.toNat ∧ st' = newLoc d (.row e (zeroRow (E.T.get e).lf m.int.toNat)) st ∧ H' = H := by
      unfold evOp
      rw [h1]
      dsimp only
      rw [h2]
      dsimp only
      unfold evMakeSlice
      rw [h5, h8, h9]
      dsimp only
      rw [show (Nat.blt 0 (E.T.get e).lf.length && (E.T.get e).lf.all Abs.K.isData) = true by rw [Bool.and_eq_true, Nat.blt_eq]; exact ⟨h6, h7⟩]
      exact ⟨h10, h11, h12, rfl, rfl, rfl⟩
    refine ok_op hE o _ hrel hinv hev _ _ fun d2 v st' H' S' hq g1 g2 g3 => ?_
    obtain ⟨rfl, rfl, rfl⟩ := hq
    refine hK _ S' ?_ g2
    have e1 : newLoc d (.row e (zeroRow (E.T.get e).lf m.int.toNat)) st = ⟨st.tmps, st.loc.set d (.row e (zeroRow (E.T.get e).lf m.int.toNat))⟩ := by
      have t1 : st.tmps.map (scrubD d) = st.tmps := by
        conv => rhs; rw [← List.map_id st.tmps]
        refine List.map_congr_left fun y hy => ?_
        obtain ⟨t, ht⟩ := List.mem_iff_getElem?.1 hy
        have := f1 t
        rw [List.getD_eq_getElem?_getD, ht] at this
        exact scrub_plain this
      have t2 : st.loc.map (scrubO d) = st.loc := by
        conv => rhs; rw [← List.map_id st.loc]
        refine List.map_congr_left fun y hy => ?_
        obtain ⟨t, ht⟩ := List.mem_iff_getElem?.1 hy
        have := f2 t
        rw [List.getD_eq_getElem?_getD, ht] at this
        exact scrubO_same this
      show (⟨st.tmps.map (scrubD d), (st.loc.map (scrubO d)).set d _⟩ : St) = _
      rw [t1, t2]
    have e2 : stepOut o ⟨.osl (.loc d) m.int.toNat, some (d, .row e (zeroRow (E.T.get e).lf m.int.toNat))⟩ st = (newLoc d (.row e (zeroRow (E.T.get e).lf m.int.toNat)) st).put o.dst (.osl (.loc d) m.int.toNat) := by
      rw [e1, h2]; unfold stepOut; rw [h2]; rfl
    rw [e2]
    exact g1.put o.dst g3
  | lit t parts e d h1 h2 h3 h4 h5 h6 h7 h8 =>
    rw [runs_wanted hrel (.inl h4)]
    simp only [if_true]
    left
    obtain ⟨f1, f2⟩ := hfree d h3 (by simp [isFirst, h1]) (by simp)
    have hev : evOp E o st H fun d' st' H' => d' = .osl (.loc d) 0 ∧ st' = newLoc d (.row e []) st ∧ H' = H := by
      unfold evOp
      rw [h1]
      dsimp only
      rw [h7]
      dsimp only
      rw [h2]
      rw [show (Nat.blt 0 (E.T.get e).lf.length && Nat.ble (0 * (E.T.get e).lf.length) 16777216 && Nat.ble ([] : List (Nat × Operand)).length 0) = true by rw [Bool.and_eq_true, Bool.and_eq_true, Nat.blt_eq]; exact ⟨⟨h8, by simp⟩, rfl⟩]
      rw [h3, show litOf E (some d) = true from h6]
      exact ⟨rfl, rfl, rfl⟩
    refine ok_op hE o _ hrel hinv hev _ _ fun d2 v st' H' S' hq g1 g2 g3 => ?_
    obtain ⟨rfl, rfl, rfl⟩ := hq
    refine hK _ S' ?_ g2
    have e1 : newLoc d (.row e []) st = ⟨st.tmps, st.loc.set d (.row e [])⟩ := by
      have t1 : st.tmps.map (scrubD d) = st.tmps := by
        conv => rhs; rw [← List.map_id st.tmps]
        refine List.map_congr_left fun y hy => ?_
        obtain ⟨t, ht⟩ := List.mem_iff_getElem?.1 hy
        have := f1 t
        rw [List.getD_eq_getElem?_getD, ht] at this
        exact scrub_plain this
      have t2 : st.loc.map (scrubO d) = st.loc := by
        conv => rhs; rw [← List.map_id st.loc]
        refine List.map_congr_left fun y hy => ?_
        obtain ⟨t, ht⟩ := List.mem_iff_getElem?.1 hy
        have := f2 t
        rw [List.getD_eq_getElem?_getD, ht] at this
        exact scrubO_same this
      show (⟨st.tmps.map (scrubD d), (st.loc.map (scrubO d)).set d _⟩ : St) = _
      rw [t1, t2]
    have e2 : stepOut o ⟨.osl (.loc d) 0, some (d, .row e [])⟩ st = (newLoc d (.row e []) st).put o.dst (.osl (.loc d) 0) := by
      rw [e1, h3]; unfold stepOut; rw [h3]; rfl
    rw [e2]
    exact g1.put o.dst g3
  | app c t e p y l n d xs ys h1 h2 h3 h4 h5 h6 h7 h8 h9 h10 h11 h12 h13 h14 =>
    rw [runs_wanted hrel (.inl h6)]
    simp only [if_true]
    left
    have hev : evOp E o st H fun d' st' H' => d' = .osl (.loc l) (n + ys.length) ∧ st' = ⟨st.tmps, st.loc.set l (.row e (xs ++ ys))⟩ ∧ H' = H := by
      unfold evOp
      rw [h1]
      dsimp only
      rw [h2]
      dsimp only
      rw [h3, h4, h5]
      unfold evBuiltin
      dsimp only [List.map]
      rw [Nat.beq_refl, h8]
      dsimp only
      rw [show Nat.blt 0 (E.T.get e).lf.length = true by rw [Nat.blt_eq]; exact h9]
      dsimp only
      rw [show st.eval (.tmp p) = .osl (.loc l) n from h10]
      unfold evAppend
      dsimp only
      unfold evAppend0
      dsimp only
      rw [show getO st H (.loc l) = .row e xs from h11]
      exact withRow_mk h12 (srcOf_mono (srcOf_le hle h13) fun zs hz => by subst hz; exact ⟨h14, rfl, rfl, rfl⟩)
    refine ok_op hE o _ hrel hinv hev _ _ fun d2 v st' H' S' hq g1 g2 g3 => ?_
    obtain ⟨rfl, rfl, rfl⟩ := hq
    refine hK _ S' ?_ g2
    have e2 : stepOut o ⟨.osl (.loc l) (n + ys.length), some (l, .row e (xs ++ ys))⟩ st = (⟨st.tmps, st.loc.set l (.row e (xs ++ ys))⟩ : St).put o.dst (.osl (.loc l) (n + ys.length)) := by
      unfold stepOut; rw [h5]; rfl
    rw [e2]
    exact g1.put o.dst g3
  | copy p d' h1 h2 h3 =>
    rw [runs_wanted hrel (.inl h2)]
    simp only [if_true]
    left
    have hev : evOp E o st H fun d2 st' H' => d2 = st.tmps.getD p .undef ∧ st' = st ∧ H' = H := by
      unfold evOp
      rcases h1 with h1 | h1 <;> rw [h1] <;> exact ⟨rfl, rfl, rfl⟩
    refine ok_op hE o _ hrel hinv hev _ _ fun d2 v st' H' S' hq g1 g2 g3 => ?_
    obtain ⟨rfl, rfl, rfl⟩ := hq
    refine hK _ S' ?_ g2
    rw [put_stepOut]
    exact g1.put o.dst (g3.nrm h3)
  | store t l y cs h1 h2 h3 h4 h5 h6 h7 h8 h9 h10 h11 =>
    rw [runs_wanted hrel (.inl h3)]
    simp only [if_true]
    left
    have hev : evOp E o st H fun d' st' H' => d' = .skip ∧ st' = ⟨st.tmps, st.loc.set l (.cells (st.eval y).cells)⟩ ∧ H' = H := by
      unfold evOp
      rw [h1]
      dsimp only
      rw [St.evalT_eq h10]
      unfold evStore
      dsimp only
      have b1 : (Nat.beq (st.eval y).cells.length (E.T.get t).lf.length && Nat.blt 0 (E.T.get t).lf.length && (st.eval y).cells.all D.isCell) = true := by
        rw [h8, Nat.beq_refl, h10]
        simp [Nat.blt_eq, h9]
      rw [b1]
      have e1 : st.eval (.tmp l) = .ptr (.loc l) 0 := h5
      rw [e1]
      dsimp only
      rw [show getO st H (.loc l) = .cells cs from h6]
      dsimp only
      rw [show (Nat.ble (0 + (E.T.get t).lf.length) cs.length && (Ref.loc l).takes (st.eval y).cells) = true by rw [Bool.and_eq_true, Nat.ble_eq]; exact ⟨by omega, rfl⟩]
      dsimp only
      rw [setCells_all (h7.trans h8.symm)]
      exact ⟨rfl, rfl, rfl⟩
    refine ok_op hE o _ hrel hinv hev _ _ fun d2 v st' H' S' hq g1 g2 g3 => ?_
    obtain ⟨rfl, rfl, rfl⟩ := hq
    refine hK _ S' ?_ g2
    have e2 : stepOut o ⟨.skip, some (l, .cells (st.eval y).cells)⟩ st = (⟨st.tmps, st.loc.set l (.cells (st.eval y).cells)⟩ : St).put o.dst .skip := by
      unfold stepOut; rw [h2]; rfl
    rw [e2]
    exact g1.put o.dst g3
  | late t p l f y cs h1 h2 h3 h4 h5 h6 h7 h8 h9 h10 h11 h12 =>
    rw [runs_wanted hrel (.inl h3)]
    simp only [if_true]
    left
    have hev : evOp E o st H fun d' st' H' => d' = .skip ∧ st' = ⟨st.tmps, st.loc.set l (.cells (setCells cs f (st.eval y).cells))⟩ ∧ H' = H := by
      unfold evOp
      rw [h1]
      dsimp only
      rw [St.evalT_eq h11]
      unfold evStore
      dsimp only
      have b1 : (Nat.beq (st.eval y).cells.length (E.T.get t).lf.length && Nat.blt 0 (E.T.get t).lf.length && (st.eval y).cells.all D.isCell) = true := by
        rw [h9, Nat.beq_refl, h11]
        simp [Nat.blt_eq, h10]
      rw [b1]
      have e1 : st.eval (.tmp p) = .ptr (.loc l) f := h6
      rw [e1]
      dsimp only
      rw [show getO st H (.loc l) = .cells cs from h7]
      dsimp only
      rw [show (Nat.ble (f + (E.T.get t).lf.length) cs.length && (Ref.loc l).takes (st.eval y).cells) = true by rw [Bool.and_eq_true, Nat.ble_eq]; exact ⟨h8, rfl⟩]
      exact ⟨rfl, rfl, rfl⟩
    refine ok_op hE o _ hrel hinv hev _ _ fun d2 v st' H' S' hq g1 g2 g3 => ?_
    obtain ⟨rfl, rfl, rfl⟩ := hq
    refine hK _ S' ?_ g2
    have e2 : stepOut o ⟨.skip, some (l, .cells (setCells cs f (st.eval y).cells))⟩ st = (⟨st.tmps, st.loc.set l (.cells (setCells cs f (st.eval y).cells))⟩ : St).put o.dst .skip := by
      unfold stepOut; rw [h2]; rfl
    rw [e2]
    exact g1.put o.dst g3
structure HeadOk (E:Env) (ops:Array Oper) (n:Nat) (fs:List Nat) (lt:List (Nat×Nat)) (ks:List Nat) (st1 fin:St) (ys:List Out) (H:Heap):Prop where
 draw:DrawOk ops n fs
 killed:Killed ks st1
 fin:At (ops.toList.take n) ys st1 (fun k=>Nat.blt k n) fin
 fact:∀ i o,(ops.toList.take n)[i]?=some o→∃ s,At (ops.toList.take n) ys st1 (fun k=>Nat.blt k i) s∧OutFact E ops (lateBase (reachTab ops.toList []) lt st1.loc i) ks (lateWs lt i) H o s (outOf ys i) ∧
   ∀ j ob',(outOf ys i).eff=some (j,ob')→isFirst o=true∨(inL ks j=false∧∀ k ob'',k<i→(outOf ys k).eff≠some (j,ob''))∨(inL ks j=true∧∃ p k ok ob,prevOf o=some p∧k<i∧(ops.toList.take n)[k]?=some ok∧(outOf ys k).eff=some (j,ob)∧ok.dst=some p∧∀ k' ob'',k<k'→k' < i→(outOf ys k').eff≠some (j,ob''))
 ylen:∀ k,n≤k→outOf ys k=⟨.undef,none⟩
theorem take_get {ops:Array Oper} {n i:Nat} {o:Oper}:(ops.toList.take n)[i]?=some o↔i<n∧ops[i]?=some o:=by
 constructor
 ·intro h
  have hi:i<n:=by
   rcases Nat.lt_or_ge i n with h' | h'
   ·exact h'
   ·rw [List.getElem?_eq_none (by simp; omega)] at h; cases h
  rw [List.getElem?_take_of_lt hi] at h
  exact ⟨hi,by simpa using h⟩
 ·intro ⟨hi,h⟩
  rw [List.getElem?_take_of_lt hi]; simpa using h
theorem dstOf_take {ops:Array Oper} {n k d:Nat} (h:dstOf (ops.toList.take n) k=some d):k<n∧∃ o,ops[k]?=some o∧o.dst=some d:=by
 unfold dstOf at h
 cases ho:(ops.toList.take n)[k]? with
 | none=>rw [ho] at h; cases h
 | some o =>
  rw [ho] at h
  obtain ⟨h1,h2⟩:=take_get.1 ho
  exact ⟨h1,o,h2,h⟩
theorem HeadOk.dst {E:Env} {ops:Array Oper} {n:Nat} {fs:List Nat} {lt:List (Nat×Nat)} {ks:List Nat} {st1 fin:St} {ys:List Out} (h:HeadOk E ops n fs lt ks st1 fin ys H) {k k' d:Nat} (hne:k≠k') (h1:dstOf (ops.toList.take n) k=some d):dstOf (ops.toList.take n) k'≠some d:=by
 intro h2
 obtain ⟨a1,o,a2,a3⟩:=dstOf_take h1
 obtain ⟨b1,o',b2,b3⟩:=dstOf_take h2
 rcases Nat.lt_or_gt_of_ne hne with hlt | hlt
 ·exact h.draw.dst k k' o o' d hlt b1 a2 b2 a3 b3
 ·exact h.draw.dst k' k o' o d hlt a1 b2 a2 b3 a3
theorem HeadOk.looks {E:Env} {ops:Array Oper} {n:Nat} {fs:List Nat} {lt:List (Nat×Nat)} {ks:List Nat} {st1 fin:St} {ys:List Out} (h:HeadOk E ops n fs lt ks st1 fin ys H) {L:Nat→Bool} (hc:Closed ops L) {i:Nat} {o:Oper} (hi:i<n) (ho:ops[i]?=some o) (hL:L i=false)
  (hd:∀ o,ops[i]?=some o→∀ e∈o.after,Region.binds .any e=true→L e.on=true) {k d:Nat} (hk:dstOf (ops.toList.take n) k=some d) (hm:d∈o.looksAt ops):(k<i→L k=true)∧(i<k→L k=false):=by
 obtain ⟨a1,ok,a2,a3⟩:=dstOf_take hk
 refine ⟨fun hlt=>?_,fun hlt=>?_⟩
 ·rcases h.draw.apart k i ok o hlt hi a2 ho with ⟨g1,_⟩ | g
  ·exact absurd hm (g1 d a3)
  ·exact g.listed hc hd
 ·rcases h.draw.apart i k o ok hlt a1 ho a2 with ⟨_,g2⟩ | g
  ·exact absurd hm (g2 d a3)
  ·cases hLk:L k with
   | false=>rfl
   | true=>rw [g.of_listed hc hLk] at hL; cases hL
theorem HeadOk.agree {E:Env} {ops:Array Oper} {n:Nat} {fs:List Nat} {lt:List (Nat×Nat)} {ks:List Nat} {st1 fin:St} {ys:List Out} (h:HeadOk E ops n fs lt ks st1 fin ys H) {L:Nat→Bool} (hc:Closed ops L) {i:Nat} {o:Oper} (hi:i<n) (ho:ops[i]?=some o) (hL:L i=false)
  (hd:∀ o,ops[i]?=some o→∀ e∈o.after,Region.binds .any e=true→L e.on=true) {s:St} (hs:At (ops.toList.take n) ys st1 (fun k=>Nat.blt k i) s) (hat:At (ops.toList.take n) ys st1 L st) (t:Nat) (hm:t∈o.looksAt ops):st.tmps.getD t .undef=s.tmps.getD t .undef:=by
 by_cases hlt:t<st1.tmps.length
 ·by_cases hx:∃ k,k<i∧dstOf (ops.toList.take n) k=some t
  ·obtain ⟨k,hk,hdk⟩:=hx
   have:=(h.looks hc hi ho hL hd hdk hm).1 hk
   rw [hat.t1 k t this hdk hlt,hs.t1 k t (by rw [Nat.blt_eq]; exact hk) hdk hlt]
  ·rw [hat.t0 t fun k hk hdk=>?_,hs.t0 t fun k hk hdk=>hx ⟨k,by rwa [Nat.blt_eq] at hk,hdk⟩]
   have h1:=(h.looks hc hi ho hL hd hdk hm).2
   rcases Nat.lt_trichotomy k i with h2 | h2 | h2
   ·exact hx ⟨k,h2,hdk⟩
   ·subst h2; rw [hL] at hk; cases hk
   ·rw [h1 h2] at hk; cases hk
 ·rw [List.getD_eq_getElem?_getD,List.getElem?_eq_none (by rw [hat.tl]; omega),List.getD_eq_getElem?_getD,List.getElem?_eq_none (by rw [hs.tl]; omega)]
theorem prevOf_looks {o:Oper} {p:Nat} (h:prevOf o=some p) (ops:Array Oper):p∈o.looksAt ops:=by
 refine List.mem_append_left _ (List.mem_filterMap.2 ⟨.tmp p,?_,rfl⟩)
 unfold prevOf at h
 split at h
 ·rename_i t l x ho
  cases h
  rw [ho]; simp [Op.operands]
 ·rename_i c ho
  split at h
  ·rename_i p' r hc
   cases h
   rw [ho]
   have:Operand.tmp p∈c.args.toList:=by rw [hc]; simp
   simp [Op.operands,Call.operands]
   right
   simpa using this
  ·cases h
 ·cases h
section
variable {E:Env} {ops:Array Oper} {n:Nat} {fs:List Nat} {lt:List (Nat×Nat)} {ks:List Nat} {st1 fin:St} {ys:List Out}
theorem HeadOk.op_at (h:HeadOk E ops n fs lt ks st1 fin ys H) {k:Nat} (hk:k<n):∃ o,ops[k]?=some o:=by
 have hks:k<ops.size:=Nat.lt_of_lt_of_le hk h.draw.le
 exact ⟨ops[k],by simp [hks]⟩
theorem HeadOk.eff_lt (h:HeadOk E ops n fs lt ks st1 fin ys H) {k j:Nat} {ob:Obj} (he:(outOf ys k).eff=some (j,ob)):k<n:=by
 rcases Nat.lt_or_ge k n with h' | h'
 ·exact h'
 ·rw [h.ylen k h'] at he; cases he
theorem HeadOk.first (h:HeadOk E ops n fs lt ks st1 fin ys H) {j:Nat} (hj:inL ks j=true):∀ (i:Nat) (ob:Obj),(outOf ys i).eff=some (j,ob)→∃ k ok ob',k≤i∧ops[k]?=some ok∧ok.dst=some j∧isFirst ok=true∧(outOf ys k).eff=some (j,ob'):=by
 intro i
 induction i using Nat.strongRecOn with
 | _ i ih =>
  intro ob he
  have hin:=h.eff_lt he
  obtain ⟨o,ho⟩:=h.op_at hin
  obtain ⟨s,_,hf,hp⟩:=h.fact i o (take_get.2 ⟨hin,ho⟩)
  rcases hf.eff he with ⟨_,⟨g1,g2,_⟩ | ⟨g2,_⟩⟩ | ⟨g,_⟩
  ·exact ⟨i,o,ob,Nat.le_refl _,ho,g1,g2,he⟩
  ·rcases hp j ob he with h1 | ⟨h1,_⟩ | ⟨_,p,k,ok,ob',_,hk,_,hek,_⟩
   ·rw [g2] at h1; cases h1
   ·rw [hj] at h1; cases h1
   ·obtain ⟨k0,ok0,ob0,c1,c2,c3,c4,c5⟩:=ih k hk ob' hek
    exact ⟨k0,ok0,ob0,by omega,c2,c3,c4,c5⟩
  ·rw [hj] at g; cases g
theorem HeadOk.first_min (h:HeadOk E ops n fs lt ks st1 fin ys H) {i j:Nat} {o:Oper} {ob:Obj} (ho:ops[i]?=some o) (hf:isFirst o=true) (he:(outOf ys i).eff=some (j,ob)):∀ k ob',k<i→(outOf ys k).eff≠some (j,ob'):=fun k ob' hk hek=>by
 have hin:=h.eff_lt he
 obtain ⟨s,_,hfa,hp⟩:=h.fact i o (take_get.2 ⟨hin,ho⟩)
 rcases hfa.eff he with ⟨hj,⟨g1,_⟩ | ⟨g2,_⟩⟩ | ⟨_,_,g2,_⟩
 ·obtain ⟨k0,ok0,ob0,c1,c2,c3,c4,c5⟩:=h.first hj k ob' hek
  exact h.dst (show k0≠i by omega) (by simp [dstOf,take_get.2 ⟨h.eff_lt c5,c2⟩,c3]:dstOf (ops.toList.take n) k0=some j) (by simp [dstOf,take_get.2 ⟨hin,ho⟩,g1])
 ·rw [hf] at g2; cases g2
 ·rw [hf] at g2; cases g2
theorem HeadOk.effs (h:HeadOk E ops n fs lt ks st1 fin ys H) {L:Nat→Bool} (hc:Closed ops L) {j:Nat}:∀ (i:Nat) (ob:Obj),L i=true→(outOf ys i).eff=some (j,ob)→∀ k ob',k<i→(outOf ys k).eff=some (j,ob')→L k=true:=by
 intro i
 induction i using Nat.strongRecOn with
 | _ i ih =>
  intro ob hL he k ob' hk hek
  have hin:=h.eff_lt he
  obtain ⟨o,ho⟩:=h.op_at hin
  obtain ⟨s,_,hf,hp⟩:=h.fact i o (take_get.2 ⟨hin,ho⟩)
  rcases hp j ob he with h1 | ⟨_,h1⟩ | ⟨_,p,k1,ok,ob1,hpo,hk1,hok,hek1,hd1,hbt⟩
  ·exact absurd hek (h.first_min ho h1 he k ob' hk)
  ·exact absurd hek (h1 k ob' hk)
  ·obtain ⟨hk1n,hok'⟩:=take_get.1 hok
   have hL1:L k1=true:=by
    rcases h.draw.apart k1 i ok o hk1 hin hok' ho with ⟨g1,_⟩ | g
    ·exact absurd (prevOf_looks hpo ops) (g1 p hd1)
    ·exact g.of_listed hc hL
   rcases Nat.lt_trichotomy k k1 with h2 | h2 | h2
   ·exact ih k1 hk1 ob1 hL1 hek1 k ob' h2 hek
   ·rw [h2]; exact hL1
   ·exact absurd hek (hbt k ob' h2 hk)
theorem HeadOk.prior (h:HeadOk E ops n fs lt ks st1 fin ys H) {L:Nat→Bool} (hc:Closed ops L) {i:Nat} {o:Oper} (hi:i<n) (ho:ops[i]?=some o) (hL:L i=false) (hd:∀ o,ops[i]?=some o→∀ e∈o.after,Region.binds .any e=true→L e.on=true) {j:Nat} {ob:Obj}
  (he:(outOf ys i).eff=some (j,ob)):∀ k ob',k<i→(outOf ys k).eff=some (j,ob')→L k=true:=fun k ob' hk hek=>by
 obtain ⟨s,_,hf,hp⟩:=h.fact i o (take_get.2 ⟨hi,ho⟩)
 rcases hp j ob he with h1 | ⟨_,h1⟩ | ⟨_,p,k1,ok,ob1,hpo,hk1,hok,hek1,hd1,hbt⟩
 ·exact absurd hek (h.first_min ho h1 he k ob' hk)
 ·exact absurd hek (h1 k ob' hk)
 ·obtain ⟨hk1n,hok'⟩:=take_get.1 hok
  have hL1:L k1=true:=(h.looks hc hi ho hL hd (by simp [dstOf,hok,hd1]) (prevOf_looks hpo ops)).1 hk1
  rcases Nat.lt_trichotomy k k1 with h2 | h2 | h2
  ·exact h.effs hc k1 ob1 hL1 hek1 k ob' h2 hek
  ·rw [h2]; exact hL1
  ·exact absurd hek (hbt k ob' h2 hk)
theorem HeadOk.later (h:HeadOk E ops n fs lt ks st1 fin ys H) {L:Nat→Bool} (hc:Closed ops L) {i j:Nat} {ob:Obj} (hL:L i=false) (he:(outOf ys i).eff=some (j,ob)):∀ k ob',L k=true→(outOf ys k).eff=some (j,ob')→k<i:=fun k ob' hk hek=>by
 rcases Nat.lt_trichotomy k i with h2 | h2 | h2
 ·exact h2
 ·rw [h2,hL] at hk; cases hk
 ·have:=h.effs hc k ob' hk hek i ob h2 he
  rw [hL] at this; cases this
theorem HeadOk.locAt (h:HeadOk E ops n fs lt ks st1 fin ys H) {L:Nat→Bool} (hc:Closed ops L) {i:Nat} {o:Oper} (hi:i<n) (ho:ops[i]?=some o) (hL:L i=false) (hd:∀ o,ops[i]?=some o→∀ e∈o.after,Region.binds .any e=true→L e.on=true) {j:Nat} {ob:Obj}
  (he:(outOf ys i).eff=some (j,ob)) {s:St} (hs:At (ops.toList.take n) ys st1 (fun k=>Nat.blt k i) s) (hat:At (ops.toList.take n) ys st1 L st):st.loc.getD j .dead=s.loc.getD j .dead:=by
 have hpr:=h.prior hc hi ho hL hd he
 have hla:=h.later hc hL he
 by_cases hlt:j<st1.loc.length
 ·by_cases hx:∃ k ob,k<i∧(outOf ys k).eff=some (j,ob)
  ·have hmax:∀ m,(∃ k ob,k<m∧k<i∧(outOf ys k).eff=some (j,ob))→∃ k ob,k<i∧(outOf ys k).eff=some (j,ob)∧∀ k' ob',k' < m→k' < i→(outOf ys k').eff=some (j,ob')→k'≤k:=by
    intro m
    induction m with
    | zero=>intro ⟨k,ob,hk,_⟩; omega
    | succ m ihm =>
     intro ⟨k,ob,hk,hk1,hk2⟩
     by_cases hm:m<i∧∃ ob,(outOf ys m).eff=some (j,ob)
     ·obtain ⟨hm1,ob,hm2⟩:=hm
      exact ⟨m,ob,hm1,hm2,fun k' _ hk' _ _=>by omega⟩
     ·have hkm:k≠m:=fun he=>hm (he▸⟨hk1,ob,hk2⟩)
      obtain ⟨k0,ob0,z1,z2,z3⟩:=ihm ⟨k,ob,by omega,hk1,hk2⟩
      refine ⟨k0,ob0,z1,z2,fun k' ob' h3 h4 h5=>?_⟩
      by_cases hkm':k'=m
      ·subst hkm'; exact absurd ⟨h4,ob',h5⟩ hm
      ·exact z3 k' ob' (by omega) h4 h5
   obtain ⟨k1,ob1,hk1,hek1⟩:=hx
   obtain ⟨k,ob',z1,z2,z3⟩:=hmax i ⟨k1,ob1,hk1,hk1,hek1⟩
   rw [hat.l1 k j ob' (hpr k ob' z1 z2) z2 (fun k' ob'' hk' he'=>z3 k' ob'' (hla k' ob'' hk' he') (hla k' ob'' hk' he') he') hlt,
    hs.l1 k j ob' (by rw [Nat.blt_eq]; exact z1) z2 (fun k' ob'' hk' he'=>by rw [Nat.blt_eq] at hk'; exact z3 k' ob'' hk' hk' he') hlt]
  ·rw [hat.l0 j fun k ob' hk hek=>hx ⟨k,ob',hla k ob' hk hek,hek⟩,hs.l0 j fun k ob' hk hek=>hx ⟨k,ob',by rwa [Nat.blt_eq] at hk,hek⟩]
 ·rw [List.getD_eq_getElem?_getD,List.getElem?_eq_none (by rw [hat.ll]; omega),List.getD_eq_getElem?_getD,List.getElem?_eq_none (by rw [hs.ll]; omega)]
theorem HeadOk.now (h:HeadOk E ops n fs lt ks st1 fin ys H) {L:Nat→Bool} (hc:Closed ops L) {i:Nat} {o:Oper} (hi:i<n) (ho:ops[i]?=some o) (hL:L i=false) (hLn:∀ k,L k=true→k<n)
  (hd:∀ o,ops[i]?=some o→∀ e∈o.after,Region.binds .any e=true→L e.on=true) (hat:At (ops.toList.take n) ys st1 L st):OutFact E ops (lateBase (reachTab ops.toList []) lt st1.loc i) ks (lateWs lt i) H o st (outOf ys i):=by
 generalize hB:lateBase (reachTab ops.toList []) lt st1.loc i=B
 obtain ⟨s,hs,hf,huniq⟩:=h.fact i o (take_get.2 ⟨hi,ho⟩)
 rw [hB] at hf
 have hag:=fun t hm=>h.agree hc hi ho hL hd hs hat t hm
 have hev:∀ x∈o.op.operands,st.eval x=s.eval x:=fun x hx=>by
  cases x with
  | tmp t=>exact hag t (List.mem_append_left _ (List.mem_filterMap.2 ⟨.tmp t,by simpa using hx,rfl⟩))
  | const v=>rfl
  | func f=>rfl
  | global g=>rfl
 have hguard:∀ {j want g},o.guard=some (j,want)→(ops[j]?).bind (·.dst)=some g→st.tmps.getD g .undef=s.tmps.getD g .undef:=fun {j want g} h1 h2=>hag g (by
  refine List.mem_append_right _ ?_
  rw [h1]
  simp only
  rw [h2]; simp)
 have hla:∀ j ob,(outOf ys i).eff=some (j,ob)→st.loc.getD j .dead=s.loc.getD j .dead:=fun j ob he=>h.locAt hc hi ho hL hd he hs hat
 generalize hx:outOf ys i=x at hf huniq hla
 cases hf with
 | skip j want g h1 h2 h3=>exact .skip j want g h1 h2 (by rw [hguard h1 h2]; exact h3)
 | pure d d' hr h1 h2 h3 =>
  refine .pure d d' ?_ (evOpP_congr (st:=⟨s.tmps,B⟩) (st':=⟨st.tmps,B⟩) rfl o (fun x hx=>?_) _ h1) h2 h3
  ·rcases hr with hr | ⟨j,want,g,g1,g2,g3⟩
   ·exact .inl hr
   ·exact .inr ⟨j,want,g,g1,g2,by rw [hguard g1 g2]; exact g3⟩
  ·have:=hev x hx
   cases x <;> exact this
 | alloc e d h1 h2 h3 h4 h5=>exact .alloc e d h1 h2 h3 h4 h5
 | make t x y e k k' m m' d h1 h2 h3 h4 h5 h6 h7 h8 h9 h10 h11 h12 =>
  exact .make t x y e k k' m m' d h1 h2 h3 h4 h5 h6 h7 (by rw [hev x (by rw [h1]; simp [Op.operands])]; exact h8) (by rw [hev y (by rw [h1]; simp [Op.operands])]; exact h9) h10 h11 h12
 | lit t parts e d h1 h2 h3 h4 h5 h6 h7 h8=>exact .lit t parts e d h1 h2 h3 h4 h5 h6 h7 h8
 | copy p d' h1 h2 h3 =>
  refine .copy p d' h1 h2 ?_
  have:=hev (.tmp p) (by rcases h1 with h1 | h1 <;> rw [h1] <;> simp [Op.operands])
  rw [show st.tmps.getD p .undef=s.tmps.getD p .undef from this]; exact h3
 | app c t e p y l nn d xs ys' h1 h2 h3 h4 h5 h6 h7 h8 h9 h10 h11 h12 h13 h14 =>
  have hp:st.tmps.getD p .undef=s.tmps.getD p .undef:=hag p (prevOf_looks (by simp [prevOf,h1,h3]) ops)
  have hy:st.eval y=s.eval y:=hev y (by
   rw [h1]
   have:y∈c.args.toList:=by rw [h3]; simp
   simp [Op.operands,Call.operands]
   right
   simpa using this)
  exact .app c t e p y l nn d xs ys' h1 h2 h3 h4 h5 h6 h7 h8 h9 (by rw [hp]; exact h10) (by rw [hla l _ rfl]; exact h11) h12 (by rw [hy]; exact srcOf_eq h13) h14
 | store t l y cs h1 h2 h3 h4 h5 h6 h7 h8 h9 h10 h11 =>
  have he:st.eval y=s.eval y:=hev y (by rw [h1]; simp [Op.operands])
  have hl:l∈o.looksAt ops:=List.mem_append_left _ (List.mem_filterMap.2 ⟨.tmp l,by rw [h1]; simp [Op.operands],rfl⟩)
  rw [← he]
  exact .store t l y cs h1 h2 h3 h4 (by rw [hag l hl]; exact h5) (by rw [hla l _ rfl]; exact h6) h7 (by rw [he]; exact h8) h9 (by rw [he]; exact h10) (by rw [he]; exact h11)
 | late t p l f y cs h1 h2 h3 h4 h5 h6 h7 h8 h9 h10 h11 h12 =>
  have he:st.eval y=s.eval y:=hev y (by rw [h1]; simp [Op.operands])
  have hl:p∈o.looksAt ops:=List.mem_append_left _ (List.mem_filterMap.2 ⟨.tmp p,by rw [h1]; simp [Op.operands],rfl⟩)
  rw [← he]
  exact .late t p l f y cs h1 h2 h3 h4 h5 (by rw [hag p hl]; exact h6) (by rw [hla l _ rfl]; exact h7) h8 (by rw [he]; exact h9) h10 (by rw [he]; exact h11) (by rw [he]; exact h12)
theorem HeadOk.unnamed (h:HeadOk E ops n fs lt ks st1 fin ys H) {L:Nat→Bool} (hc:Closed ops L) {i d:Nat} {o:Oper} {ob:Obj} (hi:i<n) (ho:ops[i]?=some o) (hL:L i=false) (hd:o.dst=some d) (hfi:isFirst o=true) (he:(outOf ys i).eff=some (d,ob)) (hinks:inL ks d=true) :
  ∀ k,k<n→L k=true→D.names d (outOf ys k).d=false:=by
 obtain ⟨iR,iL⟩:=isAt_isIn hinks
 intro k
 induction k using Nat.strongRecOn with
 | _ k ih =>
  intro hkn hk
  obtain ⟨ok,b2⟩:=h.op_at hkn
  obtain ⟨s,hs,hf,_⟩:=h.fact k ok (take_get.2 ⟨hkn,b2⟩)
  have hne:k≠i:=fun e=>by rw [e,hL] at hk; cases hk
  have hnot:∀ d',ok.dst=some d'→d≠d':=fun d' hd' e=>h.dst hne (by simp [dstOf,take_get.2 ⟨hkn,b2⟩,hd']:dstOf (ops.toList.take n) k=some d') (by simp [dstOf,take_get.2 ⟨hi,ho⟩,hd,e])
  have hbeq:∀ d',d≠d'→Nat.beq d d'=false:=fun d' hd'=>by
   cases hb:Nat.beq d d' with
   | false=>rfl
   | true=>exact absurd (Nat.eq_of_beq_eq_true hb) hd'
  generalize hx:outOf ys k=x at hf
  cases hf with
  | skip=>rfl
  | pure d1 d2 q1 q2 q3 q4 =>
   rcases q3 with rfl | ⟨y,rfl,rfl⟩
   ·exact iR _ q4
   ·rfl
  | alloc e d' q1 q2=>exact hbeq d' (hnot d' q2)
  | make t' x' y' e' kk1 kk2 m m' d' q1 q2=>exact hbeq d' (hnot d' q2)
  | lit t' parts e' d' q1 q2 q3=>exact hbeq d' (hnot d' q3)
  | app c t e p y l nn d' xs ys' q1 q2 q3 q4 q5 =>
   refine hbeq l fun el=>?_
   subst el
   have hek:(outOf ys k).eff=some (d,.row e (xs++ys')):=by rw [hx]
   exact h.first_min ho hfi he k _ (h.later hc hL he k _ hk hek) hek
  | store=>rfl
  | late=>rfl
  | copy p d' q1 q2 q3 =>
   have hdn:D.names d (s.tmps.getD p .undef)=false:=by
    by_cases hlt:p<st1.tmps.length
    ·by_cases hw:∃ k',k' < k∧dstOf (ops.toList.take n) k'=some p
     ·obtain ⟨k',hk',hdk⟩:=hw
      obtain ⟨b1,ok',b2',b3⟩:=dstOf_take hdk
      have hLk':L k'=true:=by
       rcases h.draw.apart k' k ok' ok hk' hkn b2' b2 with ⟨g1,_⟩ | g
       ·refine absurd ?_ (g1 p b3)
        exact List.mem_append_left _ (List.mem_filterMap.2 ⟨.tmp p,by rcases q1 with q1 | q1 <;> rw [q1] <;> simp [Op.operands],rfl⟩)
       ·exact g.of_listed hc hk
      rw [hs.t1 k' p (by rw [Nat.blt_eq]; exact hk') hdk hlt]
      exact ih k' hk' b1 hLk'
     ·rw [hs.t0 p fun k' hk' hdk=>hw ⟨k',by rwa [Nat.blt_eq] at hk',hdk⟩]
      exact h.killed.tmps d hinks p
    ·rw [List.getD_eq_getElem?_getD,List.getElem?_eq_none (by rw [hs.tl]; omega)]; rfl
   rcases q3 with rfl | ⟨y,_,rfl⟩
   ·exact hdn
   ·rfl
end
theorem countP_drop {p q:Nat→Bool} {i:Nat} (hne:∀ k,k≠i→q k=p k) (hp:p i=true) (hq:q i=false):∀ n,i<n→(List.range n).countP p=(List.range n).countP q+1
 | 0,h=>by omega
 | n+1,h=>by
  rw [List.range_succ,List.countP_append,List.countP_append]
  by_cases hin:i=n
  ·subst hin
   have:(List.range i).countP p=(List.range i).countP q:=List.countP_congr fun k hk=>by rw [hne k (by have:=List.mem_range.1 hk; omega)]
   simp [this,hp,hq]
  ·have:=countP_drop hne hp hq n (by omega)
   have e:q n=p n:=hne n (by omega)
   simp only [this,List.countP_singleton,e]
   omega
theorem lateBase_le (tab:List Nat):∀ (lt:List (Nat×Nat)) (b:List Obj) (i j:Nat),(lateBase tab lt b i).getD j .dead=.dead∨(lateBase tab lt b i).getD j .dead=b.getD j .dead
 | [],_,_,_=>.inr rfl
 | (k,l)::r,b,i,j=>by
  unfold lateBase
  split
  ·exact lateBase_le tab r b i j
  ·rcases lateBase_le tab r (b.set l .dead) i j with h | h
   ·exact .inl h
   ·rw [h]
    by_cases hj:l=j
    ·subst hj
     by_cases hl:l<b.length
     ·left; simp [List.getD_eq_getElem?_getD,hl]
     ·right; simp [List.getD_eq_getElem?_getD,hl]
    ·right; simp [List.getD_eq_getElem?_getD,hj]
theorem lateBase_dead (tab:List Nat):∀ (lt:List (Nat×Nat)) (b:List Obj) (i k j:Nat),inL (lateWs lt k) j=true→(tab.getD k 0).testBit i=false→(lateBase tab lt b i).getD j .dead=.dead
 | [],_,_,_,_,h,_=>by simp [lateWs,inL] at h
 | (k',l)::r,b,i,k,j,h,ht=>by
  have hrec:∀ b,inL (lateWs r k) j=true→(lateBase tab r b i).getD j .dead=.dead:=fun b h=>lateBase_dead tab r b i k j h ht
  unfold lateWs at h
  split at h
  ·rename_i hk
   have hk:=Nat.eq_of_beq_eq_true hk
   subst hk
   unfold lateBase
   rw [ht]
   rcases inL_cons h with rfl | h
   ·rcases lateBase_le tab r (b.set j .dead) i j with h | h
    ·exact h
    ·rw [h]
     by_cases hl:j<b.length
     ·simp [List.getD_eq_getElem?_getD,hl]
     ·simp [List.getD_eq_getElem?_getD,hl]
   ·exact hrec _ h
  ·unfold lateBase
   split
   ·exact hrec _ h
   ·exact hrec _ h
theorem setCells_mem:∀ (cs:List D) (f:Nat) (ds:List D) (d:D),d∈setCells cs f ds→d∈cs∨d∈ds
 | cs,_,[],d,h=>.inl h
 | cs,f,x::r,d,h=>by
  rcases setCells_mem (cs.set f x) (f+1) r d h with h | h
  ·rcases List.mem_or_eq_of_mem_set h with h | h
   ·exact .inl h
   ·exact .inr (h▸List.mem_cons_self)
  ·exact .inr (List.mem_cons_of_mem _ h)
theorem any_order {E:Env} (hE:EnvOk P E) {ops:Array Oper} {n:Nat} {fs:List Nat} {lt:List (Nat×Nat)} {ks:List Nat} {st1 fin:St} {ys:List Out} (h:HeadOk E ops n fs lt ks st1 fin ys H) {Q':Exit→Act→World→Prop}
  (htail:∀ a S,Rel (lfs E.T) fin H a S→Inv S0 S→wpList P ops Q' (ops.toList.drop n) a S.w) :
  ∀ (f:Nat) (listed:Array Bool) (st:St) (a:Act) (S:Sig),listed.size=ops.size→(∀ j,n≤j→listed.getD j false=false)→(∀ k,inL fs k=true→listed.getD k false=true)→Closed ops (fun k=>listed.getD k false)→(List.range n).countP (fun k=>!(listed.getD k false))=f →
   At (ops.toList.take n) ys st1 (fun k=>listed.getD k false) st→Rel (lfs E.T) st H a S→Inv S0 S→wpAny P .any ops Q' (f+(ops.size - n)) listed a S.w:=by
 intro f
 induction f with
 | zero =>
  intro listed st a S hsz htl hfl hc hcnt hat hrel hinv
  have hall:∀ k,k<n→listed.getD k false=true:=fun k hk=>by
   have:=List.countP_eq_zero.1 hcnt k (List.mem_range.2 hk)
   simpa using this
  have hfun:(fun k=>listed.getD k false)=fun k=>Nat.blt k n:=by
   funext k
   by_cases hk:k<n
   ·rw [hall k hk]; symm; rw [Nat.blt_eq]; exact hk
   ·rw [htl k (by omega)]; symm; rw [← Bool.not_eq_true,Nat.blt_eq]; omega
  rw [hfun] at hat
  have hst:st=fin:=hat.unique h.fin fun k hk=>by
   have hk':k<n:=by rwa [Nat.blt_eq] at hk
   have:=h.draw.le
   simp; omega
  subst hst
  have harr:listed=headDone n ops.size:=by
   refine Array.ext (by simp [headDone,hsz]) fun k h1 h2=>?_
   have e1:listed.getD k false=Nat.blt k n:=congrFun hfun k
   simp only [Array.getD_eq_getD_getElem?,Array.getElem?_eq_getElem h1,Option.getD_some] at e1
   rw [e1]
   simp [headDone]
  rw [Nat.zero_add]
  have hlen:(ops.toList.drop n).length=ops.size - n:=by simp
  have:=wpAny_of_seq (P:=P) (md:=.any) (Q':=Q') (ops.toList.drop n) n listed a S.w (fun j=>by simp [List.getElem?_drop]) (by rw [hlen,harr]; exact h.draw.seq) (htail a S hrel hinv)
  rwa [hlen] at this
 | succ f ih =>
  intro listed st a S hsz htl hfl hc hcnt hat hrel hinv
  rw [show f+1+(ops.size - n)=(f+(ops.size - n))+1 by omega]
  have hun:∃ k,k<n∧listed.getD k false=false:=by
   rcases Classical.em (∃ k,k<n∧listed.getD k false=false) with hx | hx
   ·exact hx
   ·have:(List.range n).countP (fun k=>!(listed.getD k false))=0:=List.countP_eq_zero.2 fun k hk=>by
     have hk':=List.mem_range.1 hk
     cases hl:listed.getD k false with
     | true=>simp
     | false=>exact absurd ⟨k,hk',hl⟩ hx
    omega
  have hdef:∀ k,k<ops.size→listed.getD k true=listed.getD k false:=fun k hk=>by
   simp [Array.getD_eq_getD_getElem?,Array.getElem?_eq_getElem (show k<listed.size by omega)]
  -- the least one that is not done may come up
  have hready:Region.ready .any ops listed≠[]:=by
   obtain ⟨k,hk,hkl⟩:=hun
   have hmin:∀ m,(∃ k,k<m∧listed.getD k false=false)→∃ k,listed.getD k false=false∧k<m∧∀ j,j<k→listed.getD j false=true:=by
    intro m
    induction m with
    | zero=>intro ⟨k,hk,_⟩; omega
    | succ m ihm =>
     intro ⟨k,hk,hkl⟩
     by_cases hx:∃ k,k<m∧listed.getD k false=false
     ·obtain ⟨k0,g1,g2,g3⟩:=ihm hx
      exact ⟨k0,g1,by omega,g3⟩
     ·have hkm:k=m:=by
       rcases Nat.lt_or_ge k m with h' | h'
       ·exact absurd ⟨k,h',hkl⟩ hx
       ·omega
      subst hkm
      refine ⟨k,hkl,by omega,fun j hj=>?_⟩
      cases hl:listed.getD j false with
      | true=>rfl
      | false=>exact absurd ⟨j,hj,hl⟩ hx
   obtain ⟨k0,g1,g2,g3⟩:=hmin n ⟨k,hk,hkl⟩
   have hks:k0<ops.size:=Nat.lt_of_lt_of_le g2 h.draw.le
   have hok:ops[k0]?=some ops[k0]:=by simp [hks]
   have:k0∈Region.ready .any ops listed:=mem_ready.2 ⟨by rw [hdef k0 hks]; exact g1,ops[k0],hok,fun e he hb=>g3 _ (h.draw.back k0 _ hok e he hb)⟩
   intro he; rw [he] at this; cases this
  refine ⟨fun h0=>absurd h0 hready,fun i hi=>?_⟩
  obtain ⟨hi1,o,hio,hi2⟩:=mem_ready.1 hi
  have his:i<ops.size:=by
   rcases Nat.lt_or_ge i ops.size with h' | h'
   ·exact h'
   ·rw [Array.getElem?_eq_none h'] at hio; cases hio
  have hLi:listed.getD i false=false:=by rw [← hdef i his]; exact hi1
  have hdeps:∀ o,ops[i]?=some o→∀ e∈o.after,Region.binds .any e=true→(fun k=>listed.getD k false) e.on=true:=fun o' ho' e he hb=>by
   rw [hio] at ho'; cases ho'; exact hi2 e he hb
  have hin:i<n:=by
   rcases Nat.lt_or_ge i n with h' | h'
   ·exact h'
   ·obtain ⟨k,hk,hkl⟩:=hun
    have:listed.getD k false=true:=by
     rcases h.draw.tail i k h' his hk with hr | hr
     ·exact hr.listed hc hdeps
     ·exact hfl k hr
    rw [hkl] at this; cases this
  have hLn:∀ k,(fun k=>listed.getD k false) k=true→k<n:=fun k hk=>by
   rcases Nat.lt_or_ge k n with h' | h'
   ·exact h'
   ·have hk':listed.getD k false=true:=hk
    rw [htl k h'] at hk'; cases hk'
  have hout:=h.now hc hin hio hLi hLn hdeps hat
  have hio':(ops.toList.take n)[i]?=some o:=take_get.2 ⟨hin,hio⟩
  -- effects on one object
  have heff:∀ k j ob,k<n→(outOf ys k).eff=some (j,ob)→∃ ok s B,ops[k]?=some ok∧OutFact E ops B ks (lateWs lt k) H ok s (outOf ys k)∧(inL ks j=false→s.loc.getD j .dead=st1.loc.getD j .dead):=fun k j ob hk hek=>by
   have hks:k<ops.size:=Nat.lt_of_lt_of_le hk h.draw.le
   obtain ⟨s,hs,hf,hp⟩:=h.fact k ops[k] (take_get.2 ⟨hk,by simp [hks]⟩)
   refine ⟨ops[k],s,_,by simp [hks],hf,fun hj=>?_⟩
   rcases hp j ob hek with h1 | ⟨_,h1⟩ | ⟨h1,_⟩
   ·rcases hf.eff hek with ⟨h2,_⟩ | ⟨_,_,h2,_⟩
    ·rw [hj] at h2; cases h2
    ·rw [h1] at h2; cases h2
   ·exact hs.l0 j fun k' ob' hk'=>h1 k' ob' (by rwa [Nat.blt_eq] at hk')
   ·rw [hj] at h1; cases h1
  have hD:∀ k d,(fun k=>listed.getD k false) k=true→dstOf (ops.toList.take n) k=some d→o.dst≠some d:=fun k d hk hd hd'=>by
   have hne:k≠i:=fun e=>by
    have hk':listed.getD k false=true:=hk
    rw [e,hLi] at hk'; cases hk'
   exact h.dst hne hd (by simp [dstOf,hio',hd'])
  have hEf:∀ k j ob ob',(fun k=>listed.getD k false) k=true→(outOf ys k).eff=some (j,ob)→(outOf ys i).eff=some (j,ob')→k<i:=fun k j ob ob' hk hek hei=>h.later hc hLi hei k ob hk hek
  refine head_step hE hio hout hrel hinv (fun j=>?_) (fun d hd hfi hne=>?_) fun a' S' g1 g2=>?_
  ·-- what does not change meanwhile
   rcases lateBase_le (reachTab ops.toList []) lt st1.loc i j with hb | hb
   ·exact .inl hb
   rw [hb]
   by_cases hx:∃ k ob,listed.getD k false=true∧(outOf ys k).eff=some (j,ob)
   ·obtain ⟨k,ob,hk,hek⟩:=hx
    obtain ⟨ok,sk,B,hok,hfk,_⟩:=heff k j ob (hLn k hk) hek
    rcases hfk.eff hek with ⟨g1,_⟩ | ⟨_,g1,_⟩
    ·exact .inl (h.killed.dead j g1)
    ·refine .inl ?_
     rw [← hb]
     refine lateBase_dead _ lt st1.loc i k j g1 ?_
     cases ht:((reachTab ops.toList []).getD k 0).testBit i with
     | false=>rfl
     | true =>
      have hr:Reach ops k i:=reachTab_spec ops ops.toList [] (fun j=>by simp) (fun i k hk=>by simp at hk) k i ht
      have:listed.getD i false=true:=hr.of_listed hc hk
      rw [hLi] at this; cases this
   ·exact .inr (hat.l0 j fun k ob hk hek=>hx ⟨k,ob,hk,hek⟩)
  ·-- nothing names the new object
   obtain ⟨ob,hef⟩:∃ ob,(outOf ys i).eff=some (d,ob):=by
    cases hef:(outOf ys i).eff with
    | none=>exact absurd hef hne
    | some je =>
     obtain ⟨j,ob⟩:=je
     rcases hout.eff hef with ⟨_,⟨c3,_⟩ | ⟨c3,_⟩⟩ | ⟨_,_,c3,_⟩
     ·rw [hd] at c3; cases c3; exact ⟨ob,rfl⟩
     ·rw [hfi] at c3; cases c3
     ·rw [hfi] at c3; cases c3
   have hinks:inL ks d=true:=by
    rcases hout.eff hef with ⟨c3,_⟩ | ⟨_,_,c3,_⟩
    ·exact c3
    ·rw [hfi] at c3; cases c3
   obtain ⟨iR,iL⟩:=isAt_isIn hinks
   have hun:=h.unnamed hc hin hio hLi hd hfi hef hinks
   refine ⟨fun t=>?_,fun j=>?_⟩
   ·by_cases hlt:t<st1.tmps.length
    ·by_cases hx:∃ k,listed.getD k false=true∧dstOf (ops.toList.take n) k=some t
     ·obtain ⟨k,hk,hdk⟩:=hx
      rw [hat.t1 k t hk hdk hlt]
      exact hun k (dstOf_take hdk).1 hk
     ·rw [hat.t0 t fun k hk hdk=>hx ⟨k,hk,hdk⟩]
      exact h.killed.tmps d hinks t
    ·rw [List.getD_eq_getElem?_getD,List.getElem?_eq_none (by rw [hat.tl]; omega)]; rfl
   ·by_cases hlt:j<st1.loc.length
    ·by_cases hx:∃ k ob,listed.getD k false=true∧(outOf ys k).eff=some (j,ob)
     ·have hmax:∀ m,(∃ k ob,k<m∧listed.getD k false=true∧(outOf ys k).eff=some (j,ob))→∃ k ob,listed.getD k false=true∧(outOf ys k).eff=some (j,ob)∧∀ k' ob',k' < m→listed.getD k' false=true→(outOf ys k').eff=some (j,ob')→k'≤k:=by
       intro m
       induction m with
       | zero=>intro ⟨k,ob,hk,_⟩; omega
       | succ m ihm =>
        intro ⟨k,ob,hk,hk1,hk2⟩
        by_cases hm:listed.getD m false=true∧∃ ob,(outOf ys m).eff=some (j,ob)
        ·obtain ⟨hm1,ob,hm2⟩:=hm
         exact ⟨m,ob,hm1,hm2,fun k' _ hk' _ _=>by omega⟩
        ·have hkm:k≠m:=fun he=>hm (he▸⟨hk1,ob,hk2⟩)
         obtain ⟨k0,ob0,z1,z2,z3⟩:=ihm ⟨k,ob,by omega,hk1,hk2⟩
         refine ⟨k0,ob0,z1,z2,fun k' ob' h3 h4 h5=>?_⟩
         by_cases hkm':k'=m
         ·subst hkm'; exact absurd ⟨h4,ob',h5⟩ hm
         ·exact z3 k' ob' (by omega) h4 h5
      obtain ⟨k1,ob1,hk1,hek1⟩:=hx
      obtain ⟨k,ob,z1,z2,z3⟩:=hmax n ⟨k1,ob1,hLn k1 hk1,hk1,hek1⟩
      rw [hat.l1 k j ob z1 z2 (fun k' ob' hk' he'=>z3 k' ob' (hLn k' hk') hk' he') hlt]
      obtain ⟨ok,sk,B,hok,hfk,hold⟩:=heff k j ob (hLn k z1) z2
      have free:∀ cs:List D,D.anyL (Ref.isIn ks) cs=false→∀ dd∈cs,D.names d dd=false:=fun cs hcs dd hdd=>by
       have h9:=iL _ hcs
       clear hcs z2 z3 z1 hfk
       induction cs with
       | nil=>cases hdd
       | cons y r ihr =>
        simp only [D.anyL] at h9
        cases hy:D.anyR (Ref.isAt d) y with
        | true=>rw [hy] at h9; cases h9
        | false =>
         rw [hy] at h9
         rcases List.mem_cons.1 hdd with rfl | hdd
         ·exact hy
         ·exact ihr hdd h9
      rcases hfk.eff z2 with ⟨_,⟨_,_,hfr⟩ | ⟨_,⟨_,_,rfl⟩ | ⟨cs,rfl,hcs⟩⟩⟩ | ⟨hjn,_,_,cs,f2,ds,rfl,hcs,hds⟩
      ·exact hfr d
      ·exact ⟨fun cs h=>(by cases h),fun m x n s h=>(by cases h)⟩
      ·refine ⟨fun cs' hcs'=>?_,fun m x n s h=>(by cases h)⟩
       cases hcs'
       exact free cs hcs
      ·refine ⟨fun cs' hcs' dd hdd=>?_,fun m x n s h=>(by cases h)⟩
       cases hcs'
       rcases setCells_mem cs f2 ds dd hdd with h9 | h9
       ·rw [hold hjn] at hcs
        exact (h.killed.locs d hinks j).1 cs hcs dd h9
       ·exact free ds hds dd h9
     ·rw [hat.l0 j fun k ob hk hek=>hx ⟨k,ob,hk,hek⟩]
      exact h.killed.locs d hinks j
    ·rw [List.getD_eq_getElem?_getD,List.getElem?_eq_none (by rw [hat.ll]; omega)]
     exact ⟨fun cs hcs=>(by cases hcs),fun m x n s h=>(by cases h)⟩
  ·-- the rest
   have hset:∀ k,(listed.setIfInBounds i true).getD k false=(listed.getD k false||Nat.beq k i):=fun k=>by
    simp only [Array.getD_eq_getD_getElem?,Array.getElem?_setIfInBounds]
    by_cases hki:i=k
    ·subst hki
     simp [show i<listed.size by omega,Nat.beq_refl]
    ·have:Nat.beq k i=false:=by
      cases hb:Nat.beq k i with
      | false=>rfl
      | true=>exact absurd (Nat.eq_of_beq_eq_true hb).symm hki
     simp [hki,this]
   have hsetf:(fun k=>(listed.setIfInBounds i true).getD k false)=fun k=>listed.getD k false||Nat.beq k i:=funext hset
   refine ih (listed.setIfInBounds i true) _ a' S' (by simp [hsz]) (fun j hj=>?_) (fun k hk=>by rw [hset,hfl k hk]; rfl) ?_ ?_ ?_ g1 g2
   ·rw [hset,htl j hj]
    cases hb:Nat.beq j i with
    | false=>rfl
    | true=>have:=Nat.eq_of_beq_eq_true hb; omega
   ·rw [hsetf]
    intro j oj hoj hlj e he hb
    have h7:listed.getD e.on false=true:=by
     by_cases hji:j=i
     ·subst hji; exact hdeps oj hoj e he hb
     ·have:listed.getD j false=true:=by
       rcases Bool.or_eq_true _ _▸hlj with h' | h'
       ·exact h'
       ·exact absurd (Nat.eq_of_beq_eq_true h') hji
      exact hc j oj hoj this e he hb
    show (listed.getD e.on false||_)=true
    rw [h7]; rfl
   ·have h8:=countP_drop (p:=fun k=>!(listed.getD k false)) (q:=fun k=>!((listed.setIfInBounds i true).getD k false)) (i:=i) (fun k hk=>by
     simp only [hset]
     have:Nat.beq k i=false:=by
      cases hb:Nat.beq k i with
      | false=>rfl
      | true=>exact absurd (Nat.eq_of_beq_eq_true hb) hk
     rw [this,Bool.or_false]) (by simp [hLi]) (by simp [hset,Nat.beq_refl]) n hin
    omega
   ·rw [hsetf]
    exact hat.step hio' hLi hD hEf
theorem freeAll_spec {ops:Array Oper} {o:Oper} {i:Nat}:∀ (l:List Oper) (j:Nat),freeAll ops o i j l=true→∀ (k:Nat) (x:Oper),l[k]?=some x→j+k≠i→(∀ e∈x.after,Region.binds .any e=true→e.on≠i)→o.apart ops x=true
 | [],j,_,k,x,h,_,_=>by simp at h
 | y::r,j,h,k,x,hx,hne,hno=>by
  simp only [freeAll,Bool.and_eq_true] at h
  cases k with
  | zero =>
   simp only [List.getElem?_cons_zero,Option.some.injEq] at hx
   subst hx
   rcases Bool.or_eq_true _ _▸h.1 with h1 | h1
   ·rcases Bool.or_eq_true _ _▸h1 with h2 | h2
    ·have:=Nat.eq_of_beq_eq_true h2; omega
    ·obtain ⟨e,he,hb⟩:=List.any_eq_true.1 h2
     simp only [Bool.and_eq_true] at hb
     exact absurd (Nat.eq_of_beq_eq_true hb.2) (hno e (by simpa using he) hb.1)
   ·exact h1
  | succ k=>exact freeAll_spec r (j+1) h.2 k x (by simpa using hx) (by omega) hno
theorem floats {E:Env} (hE:EnvOk P E) {ops:Array Oper} {n:Nat} {fs:List Nat} {lt:List (Nat×Nat)} {ks:List Nat} {st1 fin:St} {ys:List Out} (h:HeadOk E ops n fs lt ks st1 fin ys H) {Q':Exit→Act→World→Prop}
  (htail:∀ a S,Rel (lfs E.T) fin H a S→Inv S0 S→wpList P ops Q' (ops.toList.drop n) a S.w) (hQ:∀ c a w,¬ Q' (.panic c) a w) :
  ∀ (r done:List Nat) (f:Nat) (listed:Array Bool) (st:St) (a:Act) (S:Sig),fltsOk ops n r done=true→(∀ k,listed.getD k false=inL done k)→(∀ k,inL fs k=true→inL r k=true∨listed.getD k false=true)→listed.size=ops.size→(∀ j,n≤j→listed.getD j false=false)→Closed ops (fun k=>listed.getD k false)→(List.range n).countP (fun k=>!(listed.getD k false))=f →
   At (ops.toList.take n) ys st1 (fun k=>listed.getD k false) st→Rel (lfs E.T) st H a S→Inv S0 S→wpAny P .any ops Q' (f+(ops.size - n)) listed a S.w:=by
 intro r
 induction r with
 | nil =>
  intro done f listed st a S _ hdn hfs hsz htl hc hcnt hat hrel hinv
  exact any_order hE h htail f listed st a S hsz htl (fun k hk=>(hfs k hk).resolve_left (by simp [inL])) hc hcnt hat hrel hinv
 | cons i r ih =>
  intro done f listed st a S hok hdn hfs hsz htl hc hcnt hat hrel hinv
  simp only [fltsOk,Bool.and_eq_true,Bool.not_eq_true',Nat.blt_eq] at hok
  obtain ⟨⟨⟨hin,hnd⟩,hf1⟩,hrest⟩:=hok
  have hLi:listed.getD i false=false:=by rw [hdn]; exact hnd
  unfold fltOk1 at hf1
  split at hf1
  ·rename_i o hio
   simp only [Bool.and_eq_true] at hf1
   obtain ⟨⟨⟨hcp,hgn⟩,haf⟩,hfr⟩:=hf1
   have hg:o.guard=none:=by simpa using hgn
   have his:i<ops.size:=Nat.lt_of_lt_of_le hin h.draw.le
   have hdef:∀ k,k<ops.size→listed.getD k true=listed.getD k false:=fun k hk=>by
    simp [Array.getD_eq_getD_getElem?,Array.getElem?_eq_getElem (show k<listed.size by omega)]
   have hdeps0:∀ e∈o.after,Region.binds .any e=true→listed.getD e.on false=true:=fun e he hb=>by
    have:=List.all_eq_true.1 haf e (by simpa using he)
    rw [hb] at this
    rw [hdn]
    simpa using this
   have hready:i∈Region.ready .any ops listed:=mem_ready.2 ⟨by rw [hdef i his]; exact hLi,o,hio,hdeps0⟩
   have hdeps:∀ o,ops[i]?=some o→∀ e∈o.after,Region.binds .any e=true→(fun k=>listed.getD k false) e.on=true:=fun o' ho' e he hb=>by
    rw [hio] at ho'; cases ho'; exact hdeps0 e he hb
   have hLn:∀ k,(fun k=>listed.getD k false) k=true→k<n:=fun k hk=>by
    rcases Nat.lt_or_ge k n with h' | h'
    ·exact h'
    ·have hk':listed.getD k false=true:=hk
     rw [htl k h'] at hk'; cases hk'
   have hout:=h.now hc hin hio hLi hLn hdeps hat
   have hio':(ops.toList.take n)[i]?=some o:=take_get.2 ⟨hin,hio⟩
   -- what it copies
   obtain ⟨x,hx⟩:∃ x,o.op=.move x∨o.op=.assign x:=by
    unfold isCopy at hcp
    split at hcp
    ·rename_i x hx; exact ⟨x,.inl hx⟩
    ·rename_i x hx; exact ⟨x,.inr hx⟩
    ·cases hcp
   have hval:(outOf ys i).eff=none∧Nrm (st.eval x) (outOf ys i).d:=by
    generalize outOf ys i=y at hout
    cases hout with
    | skip j want g h1=>rw [hg] at h1; cases h1
    | pure d d' hr h1 h2 h3 =>
     refine ⟨rfl,?_⟩
     have:St.eval ⟨st.tmps,st1.loc⟩ x=d:=by
      unfold evOpP at h1
      rcases hx with hx | hx <;> rw [hx] at h1 <;> exact h1
     rw [eval_tmps (b':=st.loc) x] at this
     rw [show st.eval x=d from this]
     exact h2
    | alloc e d h1=>rcases hx with hx | hx <;> rw [hx] at h1 <;> cases h1
    | make t x' y e k k' m m' d h1=>rcases hx with hx | hx <;> rw [hx] at h1 <;> cases h1
    | lit t parts e d h1=>rcases hx with hx | hx <;> rw [hx] at h1 <;> cases h1
    | app c t e p y l nn d xs ys' h1=>rcases hx with hx | hx <;> rw [hx] at h1 <;> cases h1
    | store t l y cs h1=>rcases hx with hx | hx <;> rw [hx] at h1 <;> cases h1
    | late t p l f y cs h1=>rcases hx with hx | hx <;> rw [hx] at h1 <;> cases h1
    | copy p d' h1 h2 h3 =>
     refine ⟨rfl,?_⟩
     have:x=.tmp p:=by rcases hx with hx | hx <;> rcases h1 with h1 | h1 <;> rw [hx] at h1 <;> cases h1 <;> rfl
     rw [this]
     exact h3
   have hy:Yields P ops o (a.eval x) a:=.inl ⟨by simp [Region.wanted,hg],fun w=>by rcases hx with hx | hx <;> simp [execOp,hx,Sem.run_pure]⟩
   have hfree:∀ j oj,ops[j]?=some oj→j≠i→listed.getD j true=false→(∀ e∈oj.after,Region.binds .any e=true→e.on≠i)→o.apart ops oj=true:=fun j oj hj hji _ hno =>
    freeAll_spec ops.toList 0 hfr j oj (by simpa using hj) (by omega) hno
   have hset:∀ k,(listed.setIfInBounds i true).getD k false=(listed.getD k false||Nat.beq k i):=fun k=>by
    simp only [Array.getD_eq_getD_getElem?,Array.getElem?_setIfInBounds]
    by_cases hki:i=k
    ·subst hki
     simp [show i<listed.size by omega,Nat.beq_refl]
    ·have:Nat.beq k i=false:=by
      cases hb:Nat.beq k i with
      | false=>rfl
      | true=>exact absurd (Nat.eq_of_beq_eq_true hb).symm hki
     simp [hki,this]
   have hsetf:(fun k=>(listed.setIfInBounds i true).getD k false)=fun k=>listed.getD k false||Nat.beq k i:=funext hset
   have h8:=countP_drop (p:=fun k=>!(listed.getD k false)) (q:=fun k=>!((listed.setIfInBounds i true).getD k false)) (i:=i) (fun k hk=>by
     simp only [hset]
     have:Nat.beq k i=false:=by
      cases hb:Nat.beq k i with
      | false=>rfl
      | true=>exact absurd (Nat.eq_of_beq_eq_true hb) hk
     rw [this,Bool.or_false]) (by simp [hLi]) (by simp [hset,Nat.beq_refl]) n hin
   obtain ⟨f',rfl⟩:∃ f',f=f' + 1:=⟨_,by rw [← hcnt]; exact h8⟩
   rw [show f' + 1+(ops.size - n)=(f' + (ops.size - n))+1 by omega]
   refine wpAny_first hio h.draw.sel (fun c a w hp=>absurd hp (hQ c _ w)) _ listed a S.w hfree hready hy ?_
   have hput:stepOut o (outOf ys i) st=st.put o.dst (outOf ys i).d:=by
    have h1:=hval.1
    generalize outOf ys i=y at h1
    obtain ⟨d,eff⟩:=y
    have:eff=none:=h1
    subst this
    exact put_stepOut o d st
   refine ih (i::done) f' (listed.setIfInBounds i true) (stepOut o (outOf ys i) st) (a.put o.dst (a.eval x)) S hrest (fun k=>?_) (fun k hk=>?_) (by simp [hsz]) (fun j hj=>?_) ?_ (by omega) ?_ ?_ hinv
   ·rw [hset,hdn]
    show _=inL (i::done) k
    simp only [inL]
    cases hb:Nat.beq k i <;> simp
   ·rcases hfs k hk with h9 | h9
    ·simp only [inL] at h9
     split at h9
     ·rename_i hb
      right; rw [hset,hb]; simp
     ·exact .inl h9
    ·right; rw [hset,h9]; rfl
   ·rw [hset,htl j hj]
    cases hb:Nat.beq j i with
    | false=>rfl
    | true=>have:=Nat.eq_of_beq_eq_true hb; omega
   ·rw [hsetf]
    intro j oj hoj hlj e he hb
    have h7:listed.getD e.on false=true:=by
     by_cases hji:j=i
     ·subst hji; exact hdeps oj hoj e he hb
     ·have:listed.getD j false=true:=by
       rcases Bool.or_eq_true _ _▸hlj with h' | h'
       ·exact h'
       ·exact absurd (Nat.eq_of_beq_eq_true h') hji
      exact hc j oj hoj this e he hb
    show (listed.getD e.on false||_)=true
    rw [h7]; rfl
   ·rw [hsetf]
    refine hat.step hio' hLi (fun k d hk hd hd'=>?_) (fun k j ob ob' hk hek hei=>?_)
    ·have hne:k≠i:=fun e=>by
      have hk':listed.getD k false=true:=hk
      rw [e,hLi] at hk'; cases hk'
     exact h.dst hne hd (by simp [dstOf,hio',hd'])
    ·rw [hval.1] at hei; cases hei
   ·rw [hput]
    exact hrel.put o.dst ((hrel.eval x).nrm hval.2)
  ·cases hf1
theorem Lex.lengths {E:Env} {ops:Array Oper} {base:Nat→List Obj} {ks:List Nat} {ws:Nat→List Nat}:∀ (l:List Oper) (i:Nat) (sl:List (Nat×Option Nat)) (st:St) (xs:List Out) (fin:St),Lex E ops base ks ws H l i sl st xs fin→xs.length=l.length
 | [],_,_,_,[],_,_=>rfl
 | [],_,_,_,_::_,_,h=>h.elim
 | _::_,_,_,_,[],_,h=>h.elim
 | o::r,i,sl,st,x::xs,fin,h=>by simp [Lex.lengths r _ _ _ xs fin h.2.2]
theorem Rel.drawn (hrel:Rel (lfs T) st H a S) (hinv:Inv S0 S) (m:Nat):Rel (lfs T) st H a { S with w:={ S.w with drawn:=m } }∧Inv S0 { S with w:={ S.w with drawn:=m } }:=by
 have hwf:=hrel.wf
 let S':Sig:={ S with w:={ S.w with drawn:=m } }
 have mD:∀ {d:D} {u:Value},RepD (lfs T) S d u→RepD (lfs T) S' d u:=fun {d u} h =>
  RepD.mono (S:=S) (S':=S') (Nat.le_refl _) (fun _ h=>h) (fun _ _=>rfl) (p:=fun _=>false) (fun r _ _=>.refl rfl rfl) (anyR_false d) h
 have mK:∀ {k:K} {x:V} {u:Value},RepK (lfs T) S.w S.F k x u→RepK (lfs T) S'.w S'.F k x u:=fun h=>RepK.mono (w:=S.w) (w':=S'.w) (F:=S.F) (F':=S'.F) (fun _ h=>h) (fun _ _=>rfl) h
 refine ⟨⟨hrel.H,hrel.L,hrel.size,hrel.defers,fun j=>mD (hrel.rep j),⟨hwf.frozen,hwf.inj,hwf.lt,fun r=>?_,hwf.own,hwf.mulen,hwf.lalen,hwf.mark⟩⟩,⟨⟨hinv.ext.size,hinv.ext.os,hinv.ext.tape,hinv.ext.output,hinv.ext.block,hinv.ext.F,hinv.ext.Fnew,hinv.ext.len,fun k hk=>(hinv.ext.keep k hk).trans (.refl rfl rfl),fun k x hx=>hinv.ext.fresh k x hx⟩,hinv.loc,hinv.mkd⟩⟩
 have:=hwf.obj r
 show ObjRep (lfs T) S' (S.obj r) (S.blk r)
 cases hr:S.obj r with
 | cells cs =>
  rw [hr] at this
  obtain ⟨b,c,e,arr,h3,h4,h5,h6⟩:=this
  exact ⟨b,c,e,arr,h3,h4,h5,fun j hj=>⟨mD (h6 j hj).1,(h6 j hj).2⟩⟩
 | iter m x n s =>
  rw [hr] at this
  obtain ⟨b,c,mb,h3,h4,h5,h6⟩:=this
  exact ⟨b,c,mb,h3,h4,mD h5,h6⟩
 | row e xs =>
  rw [hr] at this
  rcases this with h3 | ⟨b,c,arr,h3,h4,h5,h6,h7,h9,h8⟩
  ·exact .inl h3
  ·exact .inr ⟨b,c,arr,h3,h4,h5,h6,h7,h9,fun x y hx hy=>mK (h8 x y hx hy)⟩
 | map m xs =>
  rw [hr] at this
  obtain ⟨b,c,clock,ents,us,h3,h4,h5,h6,h7,h8⟩:=this
  exact ⟨b,c,clock,ents,us,h3,h4,h5,h6,h7,fun x y hx hy=>mK (h8 x y hx hy)⟩
 | dead=>rw [hr] at this; exact this
theorem At.none (l:List Oper) (ys:List Out) (st1:St):At l ys st1 (fun k=>Nat.blt k 0) st1 :=
 ⟨rfl,fun k d hk=>by simp [Nat.blt_eq] at hk,fun _ _=>rfl,rfl,fun k j ob hk=>by simp [Nat.blt_eq] at hk,fun _ _=>rfl⟩
theorem draw_sound {E:Env} (hE:EnvOk P E) (id:Nat) (ops:Array Oper) (n:Nat) (fs:List Nat) (lt:List (Nat×Nat)) (Q:Ex→St→Heap→Prop) (hB:drawB ops n fs=true) (hrel:Rel (lfs E.T) st H a S) (hinv:Inv S0 S)
  (h:evHead E ops (lateBase (reachTab ops.toList []) lt (adj ((killsOf (ops.toList.take n)).map .dead) st).loc) (killsOf (ops.toList.take n)) (lateWs lt) H (ops.toList.take n) 0 [] (adj ((killsOf (ops.toList.take n)).map .dead) st) fun st2=>evOps E ops (ops.toList.drop n) st2 H fun st H=>Q .n st H) :
  wpAny P .any ops (PostC E.T S0 Q) ops.size (Array.replicate ops.size false) a { S.w with drawn:=S.w.drawn+1 }:=by
 have hD:=drawB_spec hB
 obtain ⟨S1,hw1,hrel1,hinv1⟩:=Rel.adj ((killsOf (ops.toList.take n)).map .dead) hinv hrel
 have hk:Killed (killsOf (ops.toList.take n)) (adj ((killsOf (ops.toList.take n)).map .dead) st):=by
  have:=killed_adj (killsOf (ops.toList.take n)) [] st ⟨fun i hi=>by simp [inL] at hi,fun i hi=>by simp [inL] at hi,fun i hi=>by simp [inL] at hi⟩
  simpa using this
 generalize adj ((killsOf (ops.toList.take n)).map .dead) st=st1 at *
 generalize killsOf (ops.toList.take n)=ks at *
 obtain ⟨xs,fin,hlex,hfin⟩:=head_lex _ _ _ _ _ h
 have hln:(ops.toList.take n).length=n:=by have:=hD.le; simp; omega
 have hxl:=Lex.lengths _ _ _ _ _ _ hlex
 have hdist:∀ k k' d,k≠k'→dstOf (ops.toList.take n) k=some d→dstOf (ops.toList.take n) k'≠some d:=fun k k' d hne h1 h2=>by
  obtain ⟨a1,o,a2,a3⟩:=dstOf_take h1
  obtain ⟨b1,o',b2,b3⟩:=dstOf_take h2
  rcases Nat.lt_or_gt_of_ne hne with hlt | hlt
  ·exact hD.dst k k' o o' d hlt b1 a2 b2 a3 b3
  ·exact hD.dst k' k o' o d hlt a1 b2 a2 b3 a3
 obtain ⟨g1,g2⟩:=lex_at (E:=E) (ops:=ops) (base:=lateBase (reachTab ops.toList []) lt st1.loc) (ks:=ks) (ws:=lateWs lt) (l:=ops.toList.take n) (ys:=xs) (st1:=st1) hdist (ops.toList.take n) xs 0 [] st1 fin hlex (fun j=>by simp) (fun j _=>by simp [outOf]) (by simp) (fun j p hlk=>by simp [laLook] at hlk) (fun j _ k ob hk=>by omega) (At.none _ _ _)
 rw [hln] at g1
 have hok:HeadOk E ops n fs lt ks st1 fin xs H:=⟨hD,hk,g1,fun i o ho=>g2 i o (Nat.zero_le _) ho,fun k hk=>by
  unfold outOf
  rw [List.getD_eq_getElem?_getD,List.getElem?_eq_none (by omega)]; rfl⟩
 obtain ⟨r1,r2⟩:=Rel.drawn hrel1 hinv1 (S.w.drawn+1)
 have hcnt:(List.range n).countP (fun k=>!((Array.replicate ops.size false).getD k false))=n:=by
  have hz:∀ k,(Array.replicate ops.size false).getD k false=false:=fun k=>by
   rw [Array.getD_eq_getD_getElem?,Array.getElem?_replicate]; split <;> rfl
  have:(List.range n).countP (fun k=>!((Array.replicate ops.size false).getD k false))=(List.range n).length:=List.countP_eq_length.2 fun k _=>by simp [hz]
  simpa using this
 have hz:∀ k,(Array.replicate ops.size false).getD k false=false:=fun k=>by
  rw [Array.getD_eq_getD_getElem?,Array.getElem?_replicate]; split <;> rfl
 have:=floats (P:=P) (S0:=S0) hE hok (Q':=PostC E.T S0 Q) (fun a S hr hi=>sound_ops hE ops Q _ _ _ _ _ hfin hr hi) (fun c a w hp=>by obtain ⟨_,_,_,_,_,_,hp⟩:=hp; exact hp) fs [] n (Array.replicate ops.size false) st1 a { S1 with w:={ S1.w with drawn:=S.w.drawn+1 } } hD.flts (fun k=>by rw [hz]; rfl) (fun k hk=>.inl hk) (by simp) (fun j _=>hz j)
  (fun j o _ hj=>by simp only [hz] at hj; cases hj) hcnt (by
   have:(fun k=>(Array.replicate ops.size false).getD k false)=fun k=>Nat.blt k 0:=by
    funext k; rw [hz]; rfl
   rw [this]; exact At.none _ _ _) r1 r2
 rw [show n+(ops.size - n)=ops.size by have:=hD.le; omega] at this
 rw [← hw1]
 have e1:S1.w.drawn=S.w.drawn:=by rw [hw1]
 simpa [hw1] using this
theorem pickFree_spec {ops:Array Oper}:∀ {l:List Nat} {i:Nat},pickFree ops st l=some i→i∈l∧freeNow ops st i=true
 | [],i,h=>by simp [pickFree] at h
 | x::r,i,h=>by
  unfold pickFree at h
  split at h
  ·rename_i hx; cases h; exact ⟨by simp,hx⟩
  ·obtain ⟨h1,h2⟩:=pickFree_spec h
   exact ⟨by simp [h1],h2⟩
theorem allOf_mem {f:Nat→Prop}:∀ {l:List Nat},allOf f l→∀ i∈l,f i
 | [],_,i,hi=>by simp at hi
 | x::r,h,i,hi=>by
  rcases List.mem_cons.1 hi with rfl | hi
  ·exact h.1
  ·exact allOf_mem h.2 i hi
theorem noSel_spec {ops:Array Oper} (h:noSel ops=true):∀ (j:Nat) (o:Oper) cs b,ops[j]?=some o→o.op≠.select cs b:=fun j o cs b hj hs=>by
 have hm:o∈ops.toList:=by rw [Array.mem_toList_iff]; exact Array.mem_of_getElem? hj
 have:=List.all_eq_true.1 h o hm
 rw [hs] at this; cases this
theorem free_yields {E:Env} (hE:EnvOk P E) {ops:Array Oper} {i:Nat} {o:Oper} (ho:ops[i]?=some o) (hf:freeNow ops st i=true) (hrel:Rel (lfs E.T) st H a S) {q:St→Heap→Prop} (h:evStep E ops i st H q) :
  ∃ d v,Yields P ops o v a∧RepD (lfs E.T) S d v∧q (st.put o.dst d) H:=by
 have hT:=hE.tab
 unfold freeNow at hf
 unfold evStep at h
 rw [ho] at hf h
 simp only [Bool.and_eq_true,Bool.or_eq_true] at hf
 obtain ⟨⟨hk,hgn⟩,_⟩:=hf
 have hg:o.guard=none:=by simpa using hgn
 have hw:Region.wanted o (yielded ops a.tmps)=true:=by simp [Region.wanted,hg]
 simp only [hg] at h
 rcases hk with hk | hk
 ·obtain ⟨x,hx⟩:∃ x,o.op=.move x∨o.op=.assign x:=by
   unfold isCopy at hk
   split at hk
   ·rename_i x hx; exact ⟨x,.inl hx⟩
   ·rename_i x hx; exact ⟨x,.inr hx⟩
   ·cases hk
  refine ⟨st.eval x,a.eval x,.inl ⟨hw,fun w=>by rcases hx with hx | hx <;> simp [execOp,hx,Sem.run_pure]⟩,hrel.eval x,?_⟩
  unfold evOp at h
  rcases hx with hx | hx <;> rw [hx] at h <;> exact h
 ·unfold isFld at hk
  split at hk
  ·rename_i s t f hop
   split at hk
   ·rename_i r off ht
    unfold evOp at h
    rw [hop] at h
    simp only [St.eval,ht] at h
    have hx:=hrel.rep t
    rw [ht] at hx
    unfold evFieldAddr at h
    split at h
    ·exact h.elim
    ·rename_i o' tt hfl
     split at h
     ·exact h.elim
     ·rename_i hn0
      have hn:0<(E.T.get tt).lf.length:=by simpa using hn0
      simp only at h
      split at h
      ·rename_i cs h2
       have hob:S.obj r=.cells cs:=by rw [hrel.getO_obj]; exact h2
       obtain ⟨b,c,e,arr,hb,_⟩:=hrel.wf.cells hob
       have hxv:=hx.ptr_inv hob hb
       refine ⟨.ptr r (off+o'),.pointer (some ⟨b,off+o',none⟩),.inl ⟨hw,fun w=>?_⟩,.ptr _ _ _ ⟨hx.ptr_inb,rfl⟩ fun bc' h1 h2=>by rw [hb] at h2; cases h2; rfl,h⟩
       have hr:=run_fieldAt (P:=P) (S:={ S with w:=w }) hT (b:=b) (off:=off) hfl hn
       have he:a.eval (.tmp t)=.pointer (some ⟨b,off,none⟩):=hxv
       simp only [execOp,hop,he,Sem.run_bind,hr,Result.andThen_ok]
       rfl
      ·exact h.elim
   ·cases hk
  ·cases hk
theorem every_sound {E:Env} (hE:EnvOk P E) {ops:Array Oper} (Q:Ex→St→Heap→Prop) (hs:noSel ops=true):∀ (f:Nat) (listed:Array Bool) (st:St) (H:Heap) (a:Act) (S:Sig),
  evEvery E ops f listed st H (fun st H=>Q .n st H)→Rel (lfs E.T) st H a S→Inv S0 S→wpAny P .any ops (PostC E.T S0 Q) f listed a S.w:=by
 intro f
 induction f with
 | zero =>
  intro listed st H a S h hrel hinv
  unfold evEvery at h
  split at h
  ·rename_i hr; exact ⟨hr,st,H,S,rfl,hrel,hinv,h⟩
  ·exact h.elim
 | succ f ih =>
  intro listed st H a S h hrel hinv
  have one:∀ i∈Region.ready .any ops listed,evStepP E ops i st H (fun st H=>evEvery E ops f (listed.setIfInBounds i true) st H fun st H=>Q .n st H)→wpOp P ops (PostC E.T S0 Q) i (wpAny P .any ops (PostC E.T S0 Q) f (listed.setIfInBounds i true)) a S.w:=by
   intro i hi h
   unfold evStepP at h
   unfold wpOp
   cases ho:ops[i]? with
   | none=>rw [ho] at h; exact h.elim
   | some o =>
    rw [ho] at h
    simp only at h ⊢
    split at h
    ·rename_i hg
     rw [if_pos (by simp [Region.wanted,hg])]
     exact .inl (ok_op hE o _ hrel hinv h _ _ fun d v st' H' S' hq h1 h2 h3=>by
      obtain ⟨st2,S2,hq2,w2,k1,k2⟩:=Rel.postF o.dst _ hq (h1.put o.dst h3) h2
      rw [← w2]
      exact ih _ _ _ _ _ hq2 k1 k2)
    ·exact h.elim
  unfold evEvery at h
  split at h
  ·rename_i hr
   exact ⟨fun _=>⟨st,H,S,rfl,hrel,hinv,h⟩,fun i hi=>by rw [hr] at hi; cases hi⟩
  ·rename_i hne
   split at h
   ·rename_i i hp
    obtain ⟨hi,hfr⟩:=pickFree_spec hp
    obtain ⟨_,o,ho,_⟩:=mem_ready.1 hi
    obtain ⟨d,v,hy,hd,hq⟩:=free_yields hE ho hfr hrel h
    have hfa:freeAll ops o i 0 ops.toList=true:=by
     unfold freeNow at hfr
     rw [ho] at hfr
     simp only [Bool.and_eq_true] at hfr
     exact hfr.2
    refine wpAny_first ho (noSel_spec hs) (fun c a w hp=>by obtain ⟨_,_,_,_,_,_,hp⟩:=hp; exact hp.elim) _ listed a S.w (fun j oj hj hji _ hno=>freeAll_spec ops.toList 0 hfa j oj (by simpa using hj) (by omega) hno) hi hy ?_
    exact ih _ _ _ _ _ hq (hrel.put o.dst hd) hinv
   ·split at h
    ·rename_i i hr
     refine ⟨fun h0=>absurd h0 (by rw [hr]; simp),fun j hj=>?_⟩
     have hji:j=i:=by rw [hr] at hj; simpa using hj
     subst hji
     exact one j hj h
    ·exact ⟨fun h0=>absurd h0 hne,fun j hj=>one j hj (allOf_mem h j hj)⟩
theorem every_region {E:Env} (hE:EnvOk P E) {ops:Array Oper} (Q:Ex→St→Heap→Prop) (hs:noSel ops=true) (hrel:Rel (lfs E.T) st H a S) (hinv:Inv S0 S)
  (h:evEvery E ops ops.size (Array.replicate ops.size false) st H fun st H=>Q .n st H) :
  wpAny P .any ops (PostC E.T S0 Q) ops.size (Array.replicate ops.size false) a { S.w with drawn:=S.w.drawn+1 }:=by
 obtain ⟨r1,r2⟩:=Rel.drawn hrel hinv (S.w.drawn+1)
 exact every_sound hE Q hs ops.size (Array.replicate ops.size false) st H a { S with w:={ S.w with drawn:=S.w.drawn+1 } } h r1 r2
end Go.Abs
