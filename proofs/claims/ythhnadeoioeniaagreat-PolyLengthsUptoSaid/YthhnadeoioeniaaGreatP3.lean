/-
  Texts AbsN of this proof, joined.
-/
import Derived.ChangeKeysEq
import Derived.Laws.StructEq
import Derived.Test.YthhnadeoioeniaaGreatP2
set_option linter.unusedVariables false
set_option linter.unusedSimpArgs false
namespace Go.Abs
variable {P:Program} {T:Tab}
section
variable {S0:Sig} {o:Oper} {a:Act} {S:Sig} {st:St} {H:Heap}
theorem withMap_spec {o:Obj} {m:MT} {k:List (List V)→Prop} (h:withMap o m k):∃ xs,o=.map m xs∧k xs:=by
 unfold withMap at h
 split at h
 ·rename_i m' xs
  split at h
  ·rename_i he
   have he':m=m':=by simpa using he
   subst he'
   exact ⟨xs,rfl,h⟩
  ·exact h.elim
 ·exact h.elim
theorem withMap_mk {m:MT} {xs:List (List V)} {k:List (List V)→Prop} (h:k xs):withMap (.map m xs) m k:=by
 unfold withMap
 simp only [decide_true]
 exact h
theorem Wf.map {lf:TypeId→List K} (h:Wf lf S) {r:Ref} {m:MT} {xs:List (List V)} (ho:S.obj r=.map m xs) :
  ∃ b c clock ents us,S.blk r=some (b,c)∧S.w.heap[b]?=some (.map ents clock)∧MapOk m lf ents clock us∧ents.size=xs.length∧(∀ i,i<xs.length→(xs.getD i []).length=(lf m.k++lf m.e).length) ∧
   ∀ i j,i<xs.length→j<(lf m.k++lf m.e).length→RepK lf S.w S.F ((lf m.k++lf m.e).getD j .oth) ((xs.getD i []).getD j V.none) (us i j):=by
 have:=h.obj r
 rw [ho] at this
 exact this
theorem TabOk.cells' (hT:TabOk P T) {t:TypeId} (hn:0<(T.get t).lf.length):P.cellsOf t=(T.get t).lf.length:=by
 obtain ⟨hok,ht⟩:=hT.get hn
 obtain ⟨i,z,hi,_,hs,_⟩:=hok.info
 rw [ht] at hi
 simp [Program.cellsOf,hi,hs]
theorem closedT_spec {t:TypeId} {d:D} {u:Value} {ys:List V} (hn:(T.get t).agg=false→(T.get t).lf.length=1) (h:closedT T t d=some ys) (hd:RepD (lfs T) S d u) :
  ys.length=(T.get t).lf.length∧u.cells.size=(T.get t).lf.length∧shaped (T.get t).agg u ∧
   (∀ j,j<(T.get t).lf.length→RepK (lfs T) S.w S.F ((T.get t).lf.getD j .oth) (ys.getD j V.none) (u.cells.getD j undef)∧(u.cells.getD j undef).oneCell'=true):=by
 unfold closedT at h
 split at h
 ·rename_i cs hag
  rw [hag]
  obtain ⟨h1,h2,h3⟩:=closed_spec _ _ _ h
  rw [plainL_length] at h2
  cases hd with
  | agg _ us hl hr =>
   have hcell:∀ j,us.toArray.getD j Go.undef=us.getD j Go.undef:=fun j=>by rw [Array.getD_eq_getD_getElem?,List.getD_eq_getElem?_getD,List.getElem?_toArray]
   refine ⟨h1,by simp [Value.cells]; omega,⟨_,rfl⟩,fun j hj=>?_⟩
   have q:=plain_rep (k:=(T.get t).lf.getD j .oth) (hr j)
   rw [← plainL_getD _ _ _ hj (by omega),h3 j hj] at q
   show RepK _ _ _ _ _ (us.toArray.getD j Go.undef)∧(us.toArray.getD j Go.undef).oneCell'=true
   rw [hcell]
   cases q with
   | v _ _ _ q=>exact ⟨q,q.one⟩
 ·cases h
 ·cases h
 ·rename_i hag hna
  rw [hag]
  obtain ⟨h1,h2,h3⟩:=closed_spec _ _ _ h
  have hl:=hn hag
  have q:=plain_rep (k:=(T.get t).lf.getD 0 .oth) hd
  have h30:=h3 0 (by omega)
  rw [plainL_getD _ _ _ (by omega) (by simp)] at h30
  simp only [List.getD_cons_zero] at h30
  rw [h30] at q
  cases q with
  | v _ _ _ q =>
   have h1c:=q.one
   have hc:=cells_of_one h1c
   refine ⟨h1,by rw [hc,hl]; rfl,h1c,fun j hj=>?_⟩
   have hj0:j=0:=by omega
   subst hj0
   rw [hc]
   exact ⟨q,h1c⟩
theorem kind_plain (hT:TabOk P T) {e:TypeId} {k:K} (hk:(T.get e).kd=k) (hkk:k.isKey=true):P.plainKey e=true:=by
 unfold Program.plainKey
 cases k with
 | int k=>rw [hT.get_int hk]
 | bool=>rw [hT.get_bool hk]
 | str=>rw [hT.get_str hk]
 | sl _=>cases hkk
 | mp _=>cases hkk
 | oth=>cases hkk
theorem run_cellEq (hT:TabOk P T) {e:TypeId} {k:K} (hk:(T.get e).kd=k) (hkk:k.isKey=true) {a b:V} {x y:Value} (hx:RepK (lfs T) S.w S.F k a x) (hy:RepK (lfs T) S.w S.F k b y) (d:Nat) (w:World) :
  (Op.equalIn (d+1) e x y).run P w=.ok (cellEq k a b) w:=by
 cases k with
 | int k=>cases hx; cases hy; exact run_equalIn_int w d e k k _ _ (hT.get_int hk)
 | bool=>cases hx; cases hy; exact run_equalIn_bool' w d e _ _ (hT.get_bool hk)
 | str=>cases hx; cases hy; exact run_equalIn_string w d e _ _ (hT.get_str hk)
 | sl _=>cases hkk
 | mp _=>cases hkk
 | oth=>cases hkk
theorem headD_getD {α:Type} (l:List α) (d:α):l.headD d=l.getD 0 d:=by cases l <;> rfl
theorem getD_tail {α:Type} (l:List α) (d:α) (j:Nat):l.tail.getD j d=l.getD (j+1) d:=by cases l <;> rfl
theorem run_items (hT:TabOk P T) {e:TypeId} {k:K} (hk:(T.get e).kd=k) (hkk:k.isKey=true) (xs ys:Array Value) (d:Nat) (w:World):∀ (m i:Nat) (u v:List V),
  (∀ j,j<m→(∃ x,xs[i+j]?=some x∧RepK (lfs T) S.w S.F k (u.getD j V.none) x)∧∃ y,ys[i+j]?=some y∧RepK (lfs T) S.w S.F k (v.getD j V.none) y) →
  (Op.eqItems (d+1) e 1 xs ys (List.range' i m)).run P w=.ok (keyEq (List.replicate m k) u v) w
 | 0,i,u,v,_=>by simp [Op.eqItems,keyEq,Sem.run_pure]
 | m+1,i,u,v,h=>by
  have hp:=kind_plain hT hk hkk
  obtain ⟨⟨x,h1,h2⟩,y,h3,h4⟩:=h 0 (Nat.succ_pos m)
  rw [Nat.add_zero] at h1 h3
  rw [List.range'_succ]
  have hr:=run_cellEq hT hk hkk h2 h4 d w
  rw [← headD_getD,← headD_getD] at hr
  simp only [Op.eqItems,Sem.run_bind,Nat.mul_one,run_part_plain w hp h1,run_part_plain w hp h3,Result.andThen_ok,hr]
  rw [List.replicate_succ]
  simp only [keyEq]
  cases cellEq k (u.headD V.none) (v.headD V.none) with
  | false=>simp [Sem.run_pure]
  | true =>
   have:=run_items hT hk hkk xs ys d w m (i+1) u.tail v.tail (fun j hj=>by
    have:=h (j+1) (by omega)
    rw [show i+(j+1)=i+1+j from by omega] at this
    rw [getD_tail,getD_tail]
    exact this)
   simpa using this
theorem flatKey_spec {t:TypeId} (h:flatKey T t=true):0<(T.get t).lf.length∧(T.get t).lf.all K.isKey=true ∧
  (((T.get t).agg=false∧(T.get t).lf=[(T.get t).kd])∨∃ n e,(T.get t).agg=true∧(T.get t).ar=some (n,e)∧(T.get e).agg=false∧(T.get e).lf=[(T.get e).kd]∧(T.get t).lf=List.replicate n (T.get e).kd):=by
 unfold flatKey at h
 simp only [Bool.and_eq_true,Nat.blt_eq] at h
 obtain ⟨⟨h1,h2⟩,h3⟩:=h
 refine ⟨h1,h2,?_⟩
 split at h3
 ·rename_i hag
  exact .inl ⟨hag,by simpa using h3⟩
 ·rename_i n e hag har
  obtain ⟨⟨h4,h5⟩,h6⟩:((T.get e).agg=false∧(T.get e).lf=[(T.get e).kd])∧(T.get t).lf=List.replicate n (T.get e).kd:=by simpa using h3
  exact .inr ⟨n,e,hag,har,h4,h5,h6⟩
 ·cases h3
theorem run_keyEqV (hT:TabOk P T) {t:TypeId} (hf:flatKey T t=true) {u v:List V} {x y:Value}
  (hx:x.cells.size=(T.get t).lf.length∧shaped (T.get t).agg x∧∀ j,j<(T.get t).lf.length→RepK (lfs T) S.w S.F ((T.get t).lf.getD j .oth) (u.getD j V.none) (x.cells.getD j undef))
  (hy:y.cells.size=(T.get t).lf.length∧shaped (T.get t).agg y∧∀ j,j<(T.get t).lf.length→RepK (lfs T) S.w S.F ((T.get t).lf.getD j .oth) (v.getD j V.none) (y.cells.getD j undef)) (d:Nat) (w:World) :
  (Op.equalIn (d+2) t x y).run P w=.ok (keyEq (T.get t).lf u v) w:=by
 obtain ⟨hn,hkk,hcase⟩:=flatKey_spec hf
 obtain ⟨hx1,hx2,hx3⟩:=hx
 obtain ⟨hy1,hy2,hy3⟩:=hy
 rcases hcase with ⟨hag,hlf⟩ | ⟨n,e,hag,har,hea,hel,hlf⟩
 ·rw [hag] at hx2 hy2
  have hx3:=hx3 0 hn; have hy3:=hy3 0 hn
  rw [cells_of_one hx2] at hx3; rw [cells_of_one hy2] at hy3
  rw [hlf] at hx3 hy3 hkk ⊢
  have hkk':(T.get t).kd.isKey=true:=by simpa using hkk
  have hx3:RepK (lfs T) S.w S.F (T.get t).kd (u.getD 0 V.none) x:=hx3
  have hy3:RepK (lfs T) S.w S.F (T.get t).kd (v.getD 0 V.none) y:=hy3
  rw [run_cellEq hT rfl hkk' (a:=u.getD 0 V.none) (b:=v.getD 0 V.none) hx3 hy3]
  simp only [keyEq,headD_getD]
  cases cellEq (T.get t).kd (u.getD 0 V.none) (v.getD 0 V.none) <;> rfl
 ·rw [hag] at hx2 hy2
  obtain ⟨xs,rfl⟩:=hx2
  obtain ⟨ys,rfl⟩:=hy2
  have hen:0<(T.get e).lf.length:=by rw [hel]; simp
  obtain ⟨hok,ht⟩:=hT.get hen
  obtain ⟨i,z,hi,_⟩:=hok.info
  rw [ht] at hi
  have hnn:(T.get t).lf.length=n:=by rw [hlf]; simp
  have hkd:(T.get e).kd.isKey=true:=by
   have:=List.all_eq_true.1 hkk ((T.get e).kd) (by rw [hlf]; exact List.mem_replicate.2 ⟨by omega,rfl⟩)
   exact this
  rw [run_equalIn_array w (d+1) xs ys (hT.get_ar har) hi,show P.cellsOf e=1 from by rw [hT.cells' hen,hel]; rfl,List.range_eq_range',hlf]
  have hxs:xs.size=n:=by rw [← hnn]; exact hx1
  have hys:ys.size=n:=by rw [← hnn]; exact hy1
  refine run_items (S:=S) hT rfl hkd xs ys d w n 0 u v fun j hj=>⟨⟨xs.getD j undef,?_,?_⟩,ys.getD j undef,?_,?_⟩
  ·rw [Nat.zero_add,Array.getD_eq_getD_getElem?,Array.getElem?_eq_getElem (by omega)]; rfl
  ·have:=hx3 j (by omega)
   rw [show (T.get t).lf.getD j .oth=(T.get e).kd from by rw [hlf,List.getD_eq_getElem?_getD,List.getElem?_replicate,if_pos hj]; rfl] at this
   exact this
  ·rw [Nat.zero_add,Array.getD_eq_getD_getElem?,Array.getElem?_eq_getElem (by omega)]; rfl
  ·have:=hy3 j (by omega)
   rw [show (T.get t).lf.getD j .oth=(T.get e).kd from by rw [hlf,List.getD_eq_getElem?_getD,List.getElem?_replicate,if_pos hj]; rfl] at this
   exact this
theorem flat_one (hT:TabOk P T) {t:TypeId} (hf:flatKey T t=true):(T.get t).agg=false→(T.get t).lf.length=1:=fun h=>by
 obtain ⟨hn,_,_⟩:=flatKey_spec hf
 exact (hT.get hn).1.one h
theorem run_keyEq (hT:TabOk P T) {t:TypeId} (hf:flatKey T t=true) {d1 d2:D} {u v:List V} {x y:Value} (h1:closedT T t d1=some u) (h2:closedT T t d2=some v)
  (hx:RepD (lfs T) S d1 x) (hy:RepD (lfs T) S d2 y) (d:Nat):(Op.equalIn (d+2) t x y).run P S.w=.ok (keyEq (T.get t).lf u v) S.w:=by
 obtain ⟨_,q1,q2,q3⟩:=closedT_spec (flat_one hT hf) h1 hx
 obtain ⟨_,p1,p2,p3⟩:=closedT_spec (flat_one hT hf) h2 hy
 exact run_keyEqV hT hf ⟨q1,q2,fun j hj=>(q3 j hj).1⟩ ⟨p1,p2,fun j hj=>(p3 j hj).1⟩ d S.w
theorem flat_noGuard (hT:TabOk P T) {t:TypeId} (hf:flatKey T t=true) (d:Nat):P.eqGuardType (d+2) t=false:=by
 have one:∀ (e:TypeId) (d:Nat),(T.get e).kd.isKey=true→P.eqGuardType (d+1) e=false:=fun e d hk=>by
  have hp:=kind_plain hT (e:=e) rfl hk
  unfold Program.plainKey at hp
  unfold Program.eqGuardType
  split at hp <;> simp_all
 obtain ⟨hn,hkk,hcase⟩:=flatKey_spec hf
 rcases hcase with ⟨hag,hlf⟩ | ⟨n,e,hag,har,hea,hel,hlf⟩
 ·exact one t (d+1) (by rw [hlf] at hkk; simpa using hkk)
 ·have hkd:(T.get e).kd.isKey=true:=List.all_eq_true.1 hkk ((T.get e).kd) (by rw [hlf]; exact List.mem_replicate.2 ⟨by rw [hlf,List.length_replicate] at hn; omega,rfl⟩)
  unfold Program.eqGuardType
  rw [hT.get_ar har]
  exact one e d hkd
theorem ok_bin (hT : TabOk P T) (op : BinOp) (xt yt : TypeId) (x y : Operand) (q : D → St → Heap → Prop) (ho : o.op = .binOp op xt x y yt) (hrel : Rel (lfs T) st H a S) (hinv : Inv S0 S)
    (h : evBin T xt op (st.eval x) (st.eval y) fun d => q d st H) : OpOk P T S0 o a S q := by
  have hx := hrel.eval x
  have hy := hrel.eval y
  unfold evBin at h
  split at h
  · rename_i k m k' n h1 h2
    rw [h1] at hx; rw [h2] at hy
    have ex := hx.int_inv; have ey := hy.int_inv
    split at h
    · unfold evShift at h
      cases op <;> simp only at h <;> first
        | exact h.elim
        | (have hy0 : ¬ n.int < 0 := by have := h.1; omega
           refine OpOk.value hrel hinv (v := ?_) (d := _) ?_ ?_ h.2
           rotate_left
           · simp only [execOp, ho, ex, ey]; simp [eqGuard, binOp, Op.shift, hy0]; rfl
           · exact RepD.mkInt _)
    · rename_i hk
      have hk' : k = k' := by simpa using hk
      subst hk'
      unfold evInt at h
      cases op <;> simp only at h <;> first
        | exact h.elim
        | (refine OpOk.value hrel hinv (v := ?_) (d := _) ?_ ?_ h
           rotate_left
           · simp only [execOp, ho, ex, ey]; simp [eqGuard, binOp, Op.intArith, Op.intCmp, Op.intBits, bitAnd, bitOr]; rfl
           · first | exact RepD.mkInt _ | exact RepD.mkBool _)
        | (refine OpOk.value hrel hinv (v := ?_) (d := _) ?_ ?_ h.2
           rotate_left
           · simp only [execOp, ho, ex, ey]; simp [eqGuard, binOp, Op.intDiv, h.1]; rfl
           · first | exact RepD.mkInt _ | exact RepD.mkBool _)
    · exact h.elim
  · rename_i m n h1 h2
    rw [h1] at hx; rw [h2] at hy
    have ex := hx.str_inv; have ey := hy.str_inv
    unfold evStr at h
    cases op <;> simp only at h
    case add =>
      refine OpOk.value hrel hinv (v := .string (m.str ++ n.str)) (d := _) ?_ (RepD.mkStr _ (by
        have h1 := h.1
        have h2 : (m.str ++ n.str).size = m.str.size + n.str.size := ByteArray.size_append
        unfold lim at h1; unfold big; omega)) h.2
      have hb : ¬ (((m.str.size + n.str.size : Nat) : Int) > IntKind.i64.max) := by
        have h1 := h.1
        have h2 : IntKind.i64.max = 9223372036854775807 := rfl
        rw [h2]
        unfold lim at h1
        omega
      simp only [execOp, ho, ex, ey, eqGuard, binOp, Op.stringOp, if_neg hb]
      rfl
    all_goals first
      | exact h.elim
      | (refine OpOk.value hrel hinv (v := ?_) (d := _) ?_ ?_ h
         rotate_left
         · simp only [execOp, ho, ex, ey, eqGuard, binOp, Op.stringOp]; rfl
         · exact RepD.mkBool _)
  · rename_i m n h1 h2
    rw [h1] at hx; rw [h2] at hy
    have ex := hx.bool_inv; have ey := hy.bool_inv
    split at h
    · rename_i hk
      have hu := hT.get_bool (t := xt) (by simpa using hk)
      unfold evBool at h
      cases op <;> simp only at h <;> first
        | exact h.elim
        | (refine OpOk.value hrel hinv (v := ?_) (d := _) ?_ ?_ h
           rotate_left
           · simp only [execOp, ho, ex, ey, eqGuard, binOp, Sem.run_bind, Result.andThen_ok, run_equal_bool hu]; rfl
           · exact RepD.mkBool _)
    · exact h.elim
  · rename_i cs ds h1 h2
    rw [h1] at hx; rw [h2] at hy
    split at h
    · rename_i u v hf hu hv
      obtain ⟨hf1, hf2⟩ : flatKey T xt = true ∧ (T.get xt).agg = true := by simpa using hf
      have hrun := run_keyEq (S := S) hT hf1 hu hv hx hy 9998
      obtain ⟨us, e1⟩ : ∃ us, a.eval x = .agg us := by generalize a.eval x = w at hx; cases hx; exact ⟨_, rfl⟩
      obtain ⟨vs, e2⟩ : ∃ us, a.eval y = .agg us := by generalize a.eval y = w at hy; cases hy; exact ⟨_, rfl⟩
      rw [e1, e2] at hrun
      have hg : (eqGuard op xt x y (.agg us) (.agg vs)).run P S.w = .ok () S.w := run_eqGuard_agg (w := S.w) op xt x y us vs (flat_noGuard hT hf1 (2 * (P.types.size + Made.depth)))
      cases op <;> simp only at h <;> first
        | exact h.elim
        | (refine OpOk.value hrel hinv (v := ?_) (d := _) ?_ ?_ h
           rotate_left
           · simp only [execOp, ho, e1, e2, Sem.run_bind, hg, Result.andThen_ok, run_eql_struct, run_neq_struct, hrun]; rfl
           · exact RepD.mkBool _)
    · exact h.elim
  · exact h.elim
theorem ok_len (hT:TabOk P T) (x:Operand) (t:TypeId) (q:D→St→Heap→Prop) (ho:o.op=.call { callee:=.builtin .len,args:=#[x],argTypes:=#[t] }) (hrel:Rel (lfs T) st H a S) (hinv:Inv S0 S)
  (h:evLen T t st H (st.eval x) fun d=>q d st H):OpOk P T S0 o a S q:=by
 have hx:=hrel.eval x
 have go:∀ n:Nat,(Builtin.len_ #[t] o.type #[a.eval x]).run P S.w=.ok (.int .i64 n) S.w→q (.v (.int .i64) (.i n)) st H→OpOk P T S0 o a S q:=by
  intro n hr hq
  refine OpOk.value hrel hinv (v:=.int .i64 n) ?_ (RepD.mkInt _) hq
  simp only [execOp,ho,resolve,invoke,Sem.run_bind,builtin]
  simp [Sem.run,pure,hr]
 have sl:∀ (e:TypeId) (A:Option Addr) (n c:Nat),(T.get t).el=some e→a.eval x=.slice A n c→q (.v (.int .i64) (.i n)) st H→OpOk P T S0 o a S q:=by
  intro e A n c he hv hq
  have hu:=hT.get_el he
  refine go n ?_ hq
  simp only [Builtin.len_,hv]
  simp [Sem.run,pure,run_underlying hu,goInt]
 unfold evLen at h
 split at h
 ·rename_i s h1
  rw [h1] at hx
  have ex:=hx.str_inv
  split at h
  ·rename_i hk
   have hu:=hT.get_str (t:=t) (by simpa using hk)
   refine go _ ?_ (h hx.str_len)
   simp only [Builtin.len_,ex]
   simp [Sem.run,pure,run_underlying hu,goInt]
  ·exact h.elim
 ·rename_i e y h1
  rw [h1] at hx
  split at h
  ·rename_i e' he
   have hv:∃ A c,a.eval x=.slice A y.list.length c∧y.list.length≤big:=by
    generalize a.eval x=u at hx
    cases hx with
    | v _ _ _ hk =>
     cases hk with
     | sl0 _ _ A c h0=>exact ⟨A,c,by rw [h0]; exact ⟨rfl,Nat.zero_le _⟩⟩
     | sl _ _ b off c us _ hc=>exact ⟨_,c,rfl,by omega⟩
   obtain ⟨A,c,hv,hb⟩:=hv
   exact sl e' A _ c he hv (h hb)
  ·exact h.elim
 ·rename_i r n h1
  rw [h1] at hx
  split at h
  ·rename_i e he
   obtain ⟨xs,h2,h3,h4⟩:=withRow_spec h
   have ho':S.obj r=.row e xs:=by rw [hrel.getO_obj]; exact h2
   have hv:∃ A c,a.eval x=.slice A n c∧n≤big:=by
    generalize a.eval x=u at hx
    cases hx with
    | osl _ _ _ _ hu =>
     have hu':=(hu e _ ho').2 h3.symm
     rcases hrel.wf.row ho' with ⟨hb,h0⟩ | ⟨b,c,arr,hb,_,_,hxc,hcm,_⟩
     ·rw [h0] at h3
      rw [hb] at hu'
      exact ⟨none,0,by rw [hu',← h3]; rfl,by rw [← h3]; exact Nat.zero_le _⟩
     ·rw [hb] at hu'
      exact ⟨_,c,hu',by rw [show maxLen=big from rfl] at hcm; omega⟩
   obtain ⟨A,c,hv,hb⟩:=hv
   exact sl e A n c he hv (h4 hb)
  ·exact h.elim
 ·rename_i h1
  rw [h1] at hx
  split at h
  ·rename_i e he
   have hv:a.eval x=.slice none 0 0:=by
    generalize a.eval x=u at hx
    cases hx; rfl
   exact sl e none 0 0 he hv h
  ·exact h.elim
 ·rename_i n h1
  rw [h1] at hx
  split at h
  ·rename_i e he
   have hv:∃ A c,a.eval x=.slice A n c∧n≤big:=by
    generalize a.eval x=u at hx
    cases hx with
    | ln _ A c hb=>exact ⟨A,c,rfl,hb⟩
   obtain ⟨A,c,hv,hb⟩:=hv
   exact sl e A n c he hv (h hb)
  ·exact h.elim
 ·rename_i m y h1
  rw [h1] at hx
  split at h
  ·rename_i m' hm
   split at h
   ·rename_i hmm
    have hmm':m=m':=by simpa using hmm
    subst hmm'
    have hu:=(hT.get_mp hm).1
    refine go _ ?_ h
    generalize a.eval x=u at hx
    cases hx with
    | v _ _ _ hk =>
     cases hk with
     | mp0 _ _ h0 =>
      simp only [Builtin.len_]
      simp [Sem.run,pure,run_underlying hu,goInt,h0]
     | mp _ _ b clock ents us hF hh hok hsz =>
      simp only [Builtin.len_]
      simp [Sem.run,pure,run_underlying hu,goInt,getObj,hh,hsz]
   ·exact h.elim
  ·exact h.elim
 ·rename_i r h1
  rw [h1] at hx
  split at h
  ·rename_i m hm
   obtain ⟨xs,h2,h3⟩:=withMap_spec h
   have hu:=(hT.get_mp hm).1
   have ho':S.obj r=.map m xs:=by rw [hrel.getO_obj]; exact h2
   obtain ⟨b,c,clock,ents,us,hb,hh,hok,hsz,_⟩:=hrel.wf.map ho'
   refine go _ ?_ h3
   generalize a.eval x=u at hx
   cases hx with
   | mp _ _ _ hv =>
    rw [hv m xs ho' _ hb]
    simp only [Builtin.len_]
    simp [Sem.run,pure,run_underlying hu,goInt,getObj,hh,hsz]
  ·exact h.elim
 ·exact h.elim
end
end Go.Abs
