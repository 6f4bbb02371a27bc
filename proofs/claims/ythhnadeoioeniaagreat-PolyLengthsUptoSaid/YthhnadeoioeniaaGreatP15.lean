/-
  Texts AbsJ, ArgA, ArgB, ArgP of this proof, joined.
-/
import Derived.WalkKit
import Derived.ProofKit
import Derived.OpenShut
import Derived.JoinedCond
import Derived.Test.YthhnadeoioeniaaGreatP14
set_option linter.unusedVariables false
set_option linter.unusedSimpArgs false
namespace Go.Abs
variable {P:Program} {T:Tab}
inductive WT (lf:TypeId→List K):K→V→Prop
 | int (k:IntKind) (n:Int):(Lit.int k n).wf=true→WT lf (.int k) (.i n)
 | bool (b:Bool):WT lf .bool (.b b)
 | str (s:ByteArray):WT lf .str (.s s)
 | sl (e:TypeId) (xs:List (List V)):(∀ i,i<xs.length→(xs.getD i []).length=(lf e).length) →
   (∀ i j,i<xs.length→j<(lf e).length→WT lf ((lf e).getD j .oth) ((xs.getD i []).getD j V.none))→WT lf (.sl e) (.l xs)
mutual
def V.bulk:V→Nat
 | .i _=>1 | .b _=>1 | .s x=>x.size+1
 | .l xs=>V.bulkR xs+1
def V.bulkR:List (List V)→Nat
 | []=>0
 | c::r=>V.bulkL c+V.bulkR r
def V.bulkL:List V→Nat
 | []=>0
 | x::r=>x.bulk+V.bulkL r
end
theorem bulkL_append:∀ (l r:List V),V.bulkL (l++r)=V.bulkL l+V.bulkL r
 | [],r=>by simp [V.bulkL]
 | x::l,r=>by simp [V.bulkL,bulkL_append l r]; omega
mutual
def dbulk {H:Type}:DataW H→Nat
 | .lit (.string bytes)=>bytes.length+1
 | .lit _=>1
 | .nil=>1
 | .ptr d=>dbulk d+1
 | .slice elems spare=>dbulkAll elems+dbulkAll spare+1
 | .agg parts=>dbulkAll parts+1
 | .iface _ d=>dbulk d+1
 | .map entries=>dbulkEntries entries+1
 | .held _=>1
def dbulkAll {H:Type}:List (DataW H)→Nat
 | []=>0
 | d::r=>dbulk d+dbulkAll r
def dbulkEntries {H:Type}:List (Lit×DataW H)→Nat
 | []=>0
 | x::r=>dbulkEntry x+dbulkEntries r
def dbulkEntry {H:Type}:Lit×DataW H→Nat
 | (.string bytes,d)=>bytes.length+dbulk d+1
 | (_,d)=>dbulk d+1
end
def fieldsTile (T:Tab) (good:List Nat):List (Nat×TypeId)→Nat→List K→Bool
 | [],_,lf=>lf.isEmpty
 | (o,t)::r,off,lf=>Nat.beq o off&&inL good t&&decide (lf.take (T.get t).lf.length=(T.get t).lf)&&Nat.ble (T.get t).lf.length lf.length&&fieldsTile T good r (off+(T.get t).lf.length) (lf.drop (T.get t).lf.length)
def rdOk (T:Tab) (good:List Nat) (t:TypeId):Bool :=
 Nat.blt 0 (T.get t).lf.length &&
 match (T.get t).flds,(T.get t).ar,(T.get t).kd with
 | [],none,.int k=>decide ((T.get t).lf=[.int k])
 | [],none,.bool=>decide ((T.get t).lf=[.bool])
 | [],none,.str=>decide ((T.get t).lf=[.str])
 | [],none,.sl e=>decide ((T.get t).el=some e)&&decide ((T.get t).lf=[.sl e])&&inL good e&&Nat.blt 0 (T.get e).lf.length
 | [],some (n,e),_=>inL good e&&decide ((T.get t).lf=(List.replicate n (T.get e).lf).flatten)
 | f::r,none,_=>fieldsTile T good (f::r) 0 (T.get t).lf
 | _,_,_=>false
theorem inL_mem:∀ {l:List Nat} {x:Nat},inL l x=true→x∈l
 | [],x,h=>by simp [inL] at h
 | y::r,x,h=>by
  simp only [inL] at h
  cases hb:Nat.beq x y with
  | true=>rw [Nat.eq_of_beq_eq_true hb]; exact List.mem_cons_self
  | false=>rw [hb] at h; exact List.mem_cons_of_mem _ (inL_mem h)
theorem TabOk.cells (hT:TabOk P T) {t:TypeId} (hn:0<(T.get t).lf.length):P.cellsOf t=(T.get t).lf.length:=by
 obtain ⟨hok,ht⟩:=hT.get hn
 obtain ⟨i,z,hi,_,hs,_⟩:=hok.info
 rw [ht] at hi
 simp [Program.cellsOf,hi,hs]
theorem mapM_some {α β:Type} {f:α→Option β}:∀ {l:List α} {r:List β},l.mapM f=some r→r.length=l.length∧∀ (i:Nat) (x:α),l[i]?=some x→∃ y,r[i]?=some y∧f x=some y
 | [],r,h=>by
  simp at h; subst h; exact ⟨rfl,fun i x hx=>by simp at hx⟩
 | a::l,r,h=>by
  rw [List.mapM_cons] at h
  cases ha:f a with
  | none=>simp [ha] at h
  | some y =>
   cases hl:l.mapM f with
   | none=>simp [ha,hl] at h
   | some ys =>
    simp [ha,hl] at h
    subst h
    obtain ⟨h1,h2⟩:=mapM_some hl
    refine ⟨by simp [h1],fun i x hx=>?_⟩
    cases i with
    | zero=>simp at hx; subst hx; exact ⟨y,by simp,ha⟩
    | succ i=>simpa using h2 i x (by simpa using hx)
def Reads (T:Tab) (w:World) (lf:List K) (xs:List V) (cs:List Value):Prop :=
 xs.length=lf.length∧cs.length=lf.length∧∀ j,j<lf.length→WT (lfs T) (lf.getD j .oth) (xs.getD j V.none)∧RepK (lfs T) w (fun b=>b<w.heap.size) (lf.getD j .oth) (xs.getD j V.none) (cs.getD j undef)
theorem Reads.append {w:World} {lf lf':List K} {xs xs':List V} {cs cs':List Value} (h:Reads T w lf xs cs) (h':Reads T w lf' xs' cs'):Reads T w (lf++lf') (xs++xs') (cs++cs'):=by
 obtain ⟨h1,h2,h3⟩:=h
 obtain ⟨h1',h2',h3'⟩:=h'
 refine ⟨by simp [h1,h1'],by simp [h2,h2'],fun j hj=>?_⟩
 by_cases hl:j<lf.length
 ·have e1:(lf++lf').getD j .oth=lf.getD j .oth:=by simp [List.getD_eq_getElem?_getD,List.getElem?_append_left hl]
  have e2:(xs++xs').getD j V.none=xs.getD j V.none:=by simp [List.getD_eq_getElem?_getD,List.getElem?_append_left (h1▸hl:j<xs.length)]
  have e3:(cs++cs').getD j undef=cs.getD j undef:=by simp [List.getD_eq_getElem?_getD,List.getElem?_append_left (h2▸hl:j<cs.length)]
  rw [e1,e2,e3]; exact h3 j hl
 ·have e1:(lf++lf').getD j .oth=lf'.getD (j - lf.length) .oth:=by simp [List.getD_eq_getElem?_getD,List.getElem?_append_right (Nat.le_of_not_lt hl)]
  have e2:(xs++xs').getD j V.none=xs'.getD (j - lf.length) V.none:=by rw [← h1]; simp [List.getD_eq_getElem?_getD,List.getElem?_append_right (by rw [h1]; exact Nat.le_of_not_lt hl:xs.length≤j)]
  have e3:(cs++cs').getD j undef=cs'.getD (j - lf.length) undef:=by rw [← h2]; simp [List.getD_eq_getElem?_getD,List.getElem?_append_right (by rw [h2]; exact Nat.le_of_not_lt hl:cs.length≤j)]
  rw [e1,e2,e3]
  exact h3' _ (by simp at hj; omega)
theorem exists_list {α:Type} {p:Nat→α→Prop} (d:α):∀ (n:Nat),(∀ i,i<n→∃ x,p i x)→∃ l:List α,l.length=n∧∀ i,i<n→p i (l.getD i d)
 | 0,_=>⟨[],rfl,fun i hi=>by omega⟩
 | n+1,h=>by
  obtain ⟨l,h1,h2⟩:=exists_list d n fun i hi=>h i (by omega)
  obtain ⟨x,hx⟩:=h n (by omega)
  refine ⟨l++[x],by simp [h1],fun i hi=>?_⟩
  by_cases hin:i<n
  ·rw [List.getD_eq_getElem?_getD,List.getElem?_append_left (by omega),← List.getD_eq_getElem?_getD]; exact h2 i hin
  ·have:i=n:=by omega
   subst this
   rw [List.getD_eq_getElem?_getD,List.getElem?_append_right (by omega),h1]; simpa using hx
theorem bulkR_le {H:Type}:∀ (xs:List (List V)) (ds:List (DataW H)),xs.length=ds.length→(∀ i d,ds[i]?=some d→V.bulkL (xs.getD i [])≤dbulk d)→V.bulkR xs≤dbulkAll ds
 | [],_,_,_=>by simp [V.bulkR]
 | _::_,[],h,_=>by simp at h
 | c::xs,d::ds,h,hb=>by
  have h1:=hb 0 d rfl
  have h2:=bulkR_le xs ds (by simpa using h) fun i d' hd=>by simpa using hb (i+1) d' (by simpa using hd)
  simp only [V.bulkR,dbulkAll]
  simp at h1
  omega
section
variable {H:Type} {enc:TypeId×Value→H} {w:World}
theorem add_add (a:Addr) (n m:Nat) (h:a.spot=none):(a.add n).add m=⟨a.block,a.off+n+m,none⟩:=by
 obtain ⟨b,o,s⟩:=a
 simp only at h
 subst h
 rw [add_plain,add_plain]
theorem read_fields (hT:TabOk P T) {good:List Nat} {rd:TypeId→List Value→Option (DataW H×List MemPlace)} (ih:∀ t cs d ps,t∈good→rd t cs=some (d,ps)→∃ xs,Reads T w (T.get t).lf xs cs∧V.bulkL xs≤dbulk d) :
  ∀ (l:List (Nat×TypeId)) (off:Nat) (lf:List K) (cs:List Value) (rs:List (DataW H×List MemPlace)),fieldsTile T good l off lf=true→(∀ o t,(o,t)∈l→0<(T.get t).lf.length)→cs.length=off+lf.length →
   l.mapM (fun f=>rd f.2 ((cs.drop f.1).take (P.cellsOf f.2)))=some rs→∃ xs,Reads T w lf xs (cs.drop off)∧V.bulkL xs≤dbulkAll (rs.map (·.1))
 | [],off,lf,cs,rs,h,_,hl,hm=>by
  have:lf=[]:=by simpa [fieldsTile] using h
  subst this
  exact ⟨[],⟨rfl,by simp at hl ⊢; omega,fun j hj=>by simp at hj⟩,by simp [V.bulkL]⟩
 | (o,t)::r,off,lf,cs,rs,h,hp,hl,hm=>by
  obtain ⟨⟨⟨⟨h1,h2⟩,h3⟩,h4⟩,h5⟩:(((o=off∧inL good t=true)∧lf.take (T.get t).lf.length=(T.get t).lf)∧(T.get t).lf.length≤lf.length)∧fieldsTile T good r (off+(T.get t).lf.length) (lf.drop (T.get t).lf.length)=true:=by simpa [fieldsTile] using h
  subst h1
  rw [List.mapM_cons] at hm
  rw [hT.cells (hp o t (by simp))] at hm
  cases ha:rd t ((cs.drop o).take (T.get t).lf.length) with
  | none=>simp [ha] at hm
  | some y =>
   cases hb:r.mapM (fun f=>rd f.2 ((cs.drop f.1).take (P.cellsOf f.2))) with
   | none=>simp [ha,hb] at hm
   | some ys =>
    simp [ha,hb] at hm
    subst hm
    obtain ⟨d,ps⟩:=y
    obtain ⟨xs,q1,q2⟩:=ih t _ d ps (inL_mem h2) ha
    obtain ⟨xs',q3,q4⟩:=read_fields hT ih r (o+(T.get t).lf.length) (lf.drop (T.get t).lf.length) cs ys h5 (fun o' t' hm=>hp o' t' (by simp [hm])) (by simp; omega) hb
    refine ⟨xs++xs',?_,by simp only [List.map_cons,dbulkAll,bulkL_append]; omega⟩
    have e1:lf=(T.get t).lf++lf.drop (T.get t).lf.length:=by
     conv=>lhs; rw [← List.take_append_drop (T.get t).lf.length lf,h3]
    have e2:cs.drop o=(cs.drop o).take (T.get t).lf.length++cs.drop (o+(T.get t).lf.length):=by
     conv=>lhs; rw [← List.take_append_drop (T.get t).lf.length (cs.drop o),List.drop_drop]
    rw [e1,e2]
    exact q1.append q3
theorem read_array {good:List Nat} {rd:TypeId→List Value→Option (DataW H×List MemPlace)} (ih:∀ t cs d ps,t∈good→rd t cs=some (d,ps)→∃ xs,Reads T w (T.get t).lf xs cs∧V.bulkL xs≤dbulk d) (e:TypeId) (he:e∈good) (m:Nat) (hm:(T.get e).lf.length=m) (cs:List Value) :
  ∀ (n k:Nat) (rs:List (DataW H×List MemPlace)),((List.range' k n).mapM fun i=>rd e ((cs.drop (i*m)).take m))=some rs→cs.length=(k+n)*m→∃ xs,Reads T w (List.replicate n (T.get e).lf).flatten xs (cs.drop (k*m))∧V.bulkL xs≤dbulkAll (rs.map (·.1))
 | 0,k,rs,h,hl=>by
  simp at h; subst h
  exact ⟨[],⟨rfl,by simp [hl],fun j hj=>by simp at hj⟩,by simp [V.bulkL]⟩
 | n+1,k,rs,h,hl=>by
  rw [List.range'_succ,List.mapM_cons] at h
  cases ha:rd e ((cs.drop (k*m)).take m) with
  | none=>simp [ha] at h
  | some y =>
   cases hb:(List.range' (k+1) n).mapM fun i=>rd e ((cs.drop (i*m)).take m) with
   | none=>simp [ha,hb] at h
   | some ys =>
    simp [ha,hb] at h
    subst h
    obtain ⟨d,ps⟩:=y
    obtain ⟨xs,q1,q2⟩:=ih e _ d ps he ha
    obtain ⟨xs',q3,q4⟩:=read_array ih e he m hm cs n (k+1) ys hb (by rw [hl]; congr 1; omega)
    refine ⟨xs++xs',?_,by simp only [List.map_cons,dbulkAll,bulkL_append]; omega⟩
    have e2:cs.drop (k*m)=(cs.drop (k*m)).take m++cs.drop ((k+1)*m):=by
     conv=>lhs; rw [← List.take_append_drop m (cs.drop (k*m)),List.drop_drop]
     rw [Nat.add_mul,Nat.one_mul]
    rw [List.replicate_succ,List.flatten_cons,e2]
    exact q1.append q3
theorem read_data (hT:TabOk P T) {good:List Nat} (hg:good.all (rdOk T good)=true) :
  ∀ (fuel:Nat) (t:TypeId) (cs:List Value) (d:DataW H) (ps:List MemPlace),t∈good→DataW.trod enc P w 0 (fun _=>true) true fuel t cs=some (d,ps)→∃ xs,Reads T w (T.get t).lf xs cs∧V.bulkL xs≤dbulk d
 | 0,t,cs,d,ps,ht,h=>by simp [DataW.trod] at h
 | fuel+1,t,cs,d,ps,ht,h=>by
  have ih:=read_data hT hg fuel
  have hr:=List.all_eq_true.1 hg t ht
  unfold rdOk at hr
  rw [Bool.and_eq_true] at hr
  obtain ⟨hpos0,hr⟩:=hr
  have hpos:0<(T.get t).lf.length:=by simpa using hpos0
  have hpg:∀ e,e∈good→0<(T.get e).lf.length:=fun e he=>by
   have:=List.all_eq_true.1 hg e he
   unfold rdOk at this
   rw [Bool.and_eq_true] at this
   simpa using this.1
  obtain ⟨hok,htt⟩:=hT.get hpos
  unfold DataW.trod at h
  split at hr
  ·rename_i k hf har hk
   have hu:=hT.get_int hk
   have hlf:(T.get t).lf=[.int k]:=by simpa using hr
   rw [hu] at h
   split at h <;> first | (simp at *; done) | skip
   rename_i k0 k' n hu'
   simp only [Option.some.injEq,TypeDesc.int.injEq] at hu'
   subst hu'
   split at h
   ·rename_i hc
    obtain ⟨rfl,hwf⟩:=hc
    simp only [Option.some.injEq,Prod.mk.injEq] at h
    obtain ⟨rfl,_⟩:=h
    refine ⟨[.i n],⟨by simp [hlf],by simp [hlf],fun j hj=>?_⟩,by simp [V.bulkL,V.bulk,dbulk]⟩
    have hj0:j=0:=by rw [hlf] at hj; simpa using hj
    subst hj0
    rw [hlf]
    exact ⟨.int _ n hwf,.int _ (.i n)⟩
   ·cases h
  ·rename_i hf har hk
   have hu:=hT.get_bool hk
   have hlf:(T.get t).lf=[.bool]:=by simpa using hr
   rw [hu] at h
   split at h <;> first | (simp at *; done) | skip
   rename_i b _
   simp only [Option.some.injEq,Prod.mk.injEq] at h
   obtain ⟨rfl,_⟩:=h
   refine ⟨[.b b],⟨by simp [hlf],by simp [hlf],fun j hj=>?_⟩,by simp [V.bulkL,V.bulk,dbulk]⟩
   have hj0:j=0:=by rw [hlf] at hj; simpa using hj
   subst hj0
   rw [hlf]
   exact ⟨.bool b,.bool (.b b)⟩
  ·rename_i hf har hk
   have hu:=hT.get_str hk
   have hlf:(T.get t).lf=[.str]:=by simpa using hr
   rw [hu] at h
   split at h <;> first | (simp at *; done) | skip
   rename_i s _
   split at h
   ·rename_i hsz
    simp only [Option.some.injEq,Prod.mk.injEq] at h
    obtain ⟨rfl,_⟩:=h
    refine ⟨[.s s],⟨by simp [hlf],by simp [hlf],fun j hj=>?_⟩,by simp [V.bulkL,V.bulk,dbulk]⟩
    have hj0:j=0:=by rw [hlf] at hj; simpa using hj
    subst hj0
    rw [hlf]
    exact ⟨.str s,.str (.s s) hsz⟩
   ·cases h
  ·rename_i e hf har hk
   obtain ⟨⟨⟨hel,hlf⟩,hge⟩,hpe⟩:(((T.get t).el=some e∧(T.get t).lf=[.sl e])∧inL good e=true)∧0<(T.get e).lf.length:=by simpa using hr
   have hu:=hT.get_el hel
   have hce:=hT.cells hpe
   rw [hu] at h
   split at h <;> first | (simp at *; done) | skip
   ·simp only [Option.some.injEq,Prod.mk.injEq] at h
    obtain ⟨rfl,_⟩:=h
    refine ⟨[.l []],⟨by simp [hlf],by simp [hlf],fun j hj=>?_⟩,by simp [V.bulkL,V.bulk,V.bulkR,dbulk]⟩
    have hj0:j=0:=by rw [hlf] at hj; simpa using hj
    subst hj0
    rw [hlf]
    exact ⟨.sl e [] (fun i hi=>by simp at hi) (fun i j hi=>by simp at hi),.sl0 e (.l []) none 0 rfl⟩
   ·rename_i e0 a len cap hu'
    simp only [Option.some.injEq,TypeDesc.slice.injEq] at hu'
    subst hu'
    simp only at h
    split at h
    ·rename_i hc
     obtain ⟨_,hlc,hcm⟩:=hc
     simp only [Option.bind_eq_some_iff,Option.map_eq_some_iff] at h
     obtain ⟨elems,hel1,rest,hrest,hd⟩:=h
     simp only [Prod.mk.injEq] at hd
     obtain ⟨rfl,_⟩:=hd
     obtain ⟨m1,m2⟩:=mapM_some hel1
     simp only [List.length_range] at m1
     rw [hce] at m2
     have hcell:∀ i,i<len→∃ ds cs',elems[i]?=some ds∧w.cells? 0 (a.add (i*(T.get e).lf.length)) (T.get e).lf.length=some cs'∧DataW.trod enc P w 0 (fun _=>true) true fuel e cs'=some ds:=fun i hi=>by
      obtain ⟨y,h1,h2⟩:=m2 i i (by simp [hi])
      simp only [Option.bind_eq_some_iff] at h2
      obtain ⟨cs',h3,h4⟩:=h2
      exact ⟨y,cs',h1,h3,h4⟩
     have hcells:∀ i cs',w.cells? 0 (a.add (i*(T.get e).lf.length)) (T.get e).lf.length=some cs'→cs'.length=(T.get e).lf.length∧∀ j,j<(T.get e).lf.length→w.cell? ((a.add (i*(T.get e).lf.length)).add j)=some (cs'.getD j undef):=fun i cs' h3=>by
      unfold World.cells? at h3
      rw [if_pos (Nat.zero_le _)] at h3
      obtain ⟨n1,n2⟩:=mapM_some h3
      simp only [List.length_range] at n1
      refine ⟨n1,fun j hj=>?_⟩
      obtain ⟨y,h5,h6⟩:=n2 j j (by simp [hj])
      rw [h6,List.getD_eq_getElem?_getD,h5]; rfl
     by_cases h0:len=0
     ·subst h0
      refine ⟨[.l []],⟨by simp [hlf],by simp [hlf],fun j hj=>?_⟩,by simp [V.bulkL,V.bulk,V.bulkR,dbulk]⟩
      have hj0:j=0:=by rw [hlf] at hj; simpa using hj
      subst hj0
      rw [hlf]
      exact ⟨.sl e [] (fun i hi=>by simp at hi) (fun i j hi=>by simp at hi),.sl0 e (.l []) _ _ rfl⟩
     ·have hspot:a.spot=none:=by
       obtain ⟨ds,cs',_,h3,_⟩:=hcell 0 (by omega)
       have h6:=(hcells 0 cs' h3).2 0 hpe
       simp only [Nat.zero_mul,Addr.add,if_pos] at h6
       cases hsp:a.spot with
       | none=>rfl
       | some s =>
        simp only [World.cell?] at h6
        split at h6
        ·simp [hsp] at h6
        ·cases h6
      obtain ⟨xs,x1,x2⟩:=exists_list (p:=fun i (x:List V)=>∃ ds cs',elems[i]?=some ds∧w.cells? 0 (a.add (i*(T.get e).lf.length)) (T.get e).lf.length=some cs'∧Reads T w (T.get e).lf x cs'∧V.bulkL x≤dbulk ds.1) [] len fun i hi=>by
       obtain ⟨ds,cs',h1,h2,h3⟩:=hcell i hi
       obtain ⟨x,h4,h5⟩:=ih e cs' ds.1 ds.2 (inL_mem hge) h3
       exact ⟨x,ds,cs',h1,h2,h4,h5⟩
      have hlen:∀ i,i<xs.length→(xs.getD i []).length=(lfs T e).length:=fun i hi=>by
       obtain ⟨ds,cs',h1,h2,h3,h4⟩:=x2 i (x1▸hi)
       exact h3.1
      refine ⟨[.l xs],⟨by simp [hlf],by simp [hlf],fun j hj=>?_⟩,?_⟩
      ·have hj0:j=0:=by rw [hlf] at hj; simpa using hj
       subst hj0
       rw [hlf]
       refine ⟨.sl e xs hlen fun i j hi hj=>?_,?_⟩
       ·obtain ⟨ds,cs',h1,h2,h3,h4⟩:=x2 i (x1▸hi)
        exact (h3.2.2 j hj).1
       ·have key:=RepK.sl (lf:=lfs T) (w:=w) (F:=fun b=>b<w.heap.size) e (.l xs) a.block a.off cap (fun i j=>(w.cell? ⟨a.block,a.off+i*(lfs T e).length+j,none⟩).getD undef)
         (by
          obtain ⟨ds,cs',_,h3,_⟩:=hcell 0 (by omega)
          have h6:=(hcells 0 cs' h3).2 0 hpe
          rw [add_add _ _ _ hspot] at h6
          simp only [World.cell?] at h6
          rcases Nat.lt_or_ge a.block w.heap.size with hb | hb
          ·exact hb
          ·rw [Array.getElem?_eq_none hb] at h6; cases h6)
         ⟨by show xs.length≤cap; omega,hcm⟩ hlen
         (fun i j hi hj=>by
          obtain ⟨ds,cs',h1,h2,h3,h4⟩:=x2 i (x1▸hi)
          have h6:=(hcells i cs' h2).2 j hj
          rw [add_add _ _ _ hspot] at h6
          rw [h6]; rfl)
         (fun i j hi hj=>by
          obtain ⟨ds,cs',h1,h2,h3,h4⟩:=x2 i (x1▸hi)
          have h6:=(hcells i cs' h2).2 j hj
          rw [add_add _ _ _ hspot] at h6
          rw [h6]
          exact (h3.2.2 j hj).2)
        have e1:(V.l xs).list.length=len:=x1
        have e2:a=⟨a.block,a.off,none⟩:=by cases a; simp at hspot; rw [hspot]
        rw [e1] at key
        rw [show [Value.slice (some a) len cap].getD 0 undef=.slice (some a) len cap from rfl,e2]
        exact key
      ·simp only [V.bulkL,V.bulk,dbulk,Nat.add_zero]
       have:=bulkR_le xs (elems.map (·.1)) (by rw [x1]; simp [m1]) fun i d hd=>by
        rw [List.getElem?_map] at hd
        cases hei:elems[i]? with
        | none=>rw [hei] at hd; cases hd
        | some y =>
         rw [hei] at hd
         simp only [Option.map_some,Option.some.injEq] at hd
         subst hd
         have hi:i<len:=by
          rcases Nat.lt_or_ge i elems.length with h7 | h7
          ·omega
          ·rw [List.getElem?_eq_none h7] at hei; cases hei
         obtain ⟨ds,cs',h1,h2,h3,h4⟩:=x2 i hi
         rw [hei] at h1
         cases h1
         exact h4
       omega
    ·cases h
  ·rename_i n e hf har
   obtain ⟨hge,hlf⟩:inL good e=true∧(T.get t).lf=(List.replicate n (T.get e).lf).flatten:=by simpa using hr
   have hu:=hT.get_ar har
   have hpe:=hpg e (inL_mem hge)
   have hce:=hT.cells hpe
   have hct:=hT.cells hpos
   rw [hu] at h
   split at h <;> first | (simp at *; done) | skip
   rename_i cs _ _ n0 e0 hu'
   simp only [Option.some.injEq,TypeDesc.array.injEq] at hu'
   obtain ⟨rfl,rfl⟩:=hu'
   split at h
   ·rename_i hl
    rw [hct] at hl
    rw [hce] at h
    simp only [Option.map_eq_some_iff] at h
    obtain ⟨rs,hm,hd⟩:=h
    simp only [Prod.mk.injEq] at hd
    obtain ⟨rfl,_⟩:=hd
    rw [List.range_eq_range'] at hm
    have hlen:(T.get t).lf.length=n*(T.get e).lf.length:=by rw [hlf]; simp
    obtain ⟨xs,q1,q2⟩:=read_array (T:=T) (w:=w) (good:=good) ih e (inL_mem hge) _ rfl cs n 0 rs hm (by rw [hl,hlen]; simp)
    rw [hlf]
    simp only [Nat.zero_mul,List.drop_zero] at q1
    exact ⟨xs,q1,by simp only [dbulk]; omega⟩
   ·cases h
  ·rename_i f r hf har
   obtain ⟨fs,hu,hfs⟩:=hok.fexact (by rw [hf]; simp)
   rw [htt] at hu
   have hct:=hT.cells hpos
   rw [hu] at h
   split at h <;> first | (simp at *; done) | skip
   rename_i cs _ _ fs0 hu'
   simp only [Option.some.injEq,TypeDesc.struct.injEq] at hu'
   subst hu'
   split at h
   ·rename_i hl
    rw [hct] at hl
    simp only [Option.map_eq_some_iff] at h
    obtain ⟨rs,hm,hd⟩:=h
    simp only [Prod.mk.injEq] at hd
    obtain ⟨rfl,_⟩:=hd
    have hm':(T.get t).flds.mapM (fun f=>DataW.trod enc P w 0 (fun _=>true) true fuel f.2 ((cs.drop f.1).take (P.cellsOf f.2)))=some rs:=by
     rw [← hfs,List.mapM_map]; exact hm
    rw [hf] at hm'
    have htile:∀ (l:List (Nat×TypeId)) (off:Nat) (lf:List K),fieldsTile T good l off lf=true→∀ o t,(o,t)∈l→0<(T.get t).lf.length:=fun l=>by
     induction l with
     | nil=>intro _ _ _ o t hm; simp at hm
     | cons x l ihl =>
      intro off lf h o t hm
      obtain ⟨o',t'⟩:=x
      obtain ⟨⟨⟨⟨h1,h2⟩,h3⟩,h4⟩,h5⟩:(((o'=off∧inL good t'=true)∧lf.take (T.get t').lf.length=(T.get t').lf)∧(T.get t').lf.length≤lf.length)∧fieldsTile T good l (off+(T.get t').lf.length) (lf.drop (T.get t').lf.length)=true:=by simpa [fieldsTile] using h
      rcases List.mem_cons.1 hm with h6 | h6
      ·cases h6; exact hpg _ (inL_mem h2)
      ·exact ihl _ _ h5 o t h6
    obtain ⟨xs,q1,q2⟩:=read_fields (T:=T) (w:=w) hT ih (f::r) 0 (T.get t).lf cs rs hr (htile _ _ _ hr) (by rw [hl]; simp) hm'
    rw [List.drop_zero] at q1
    exact ⟨xs,q1,by simp only [dbulk]; omega⟩
   ·cases h
  ·cases hr
end
def argD (T:Tab) (t:TypeId) (xs:List V):D:=mkVal T t (vcells (T.get t).lf xs)
def argsD (T:Tab):List TypeId→List (List V)→List D
 | [],_=>[]
 | t::ts,xss=>argD T t (xss.headD [])::argsD T ts xss.tail
theorem argsD_length (T:Tab):∀ (ts:List TypeId) (xss:List (List V)),(argsD T ts xss).length=ts.length
 | [],_=>rfl
 | t::ts,xss=>by simp [argsD,argsD_length T ts]
def memOf (w:World):Sig:={ w:=w,F:=fun b=>b<w.heap.size,H:=[],mu:=[],L:=[],la:=[] }
theorem memOf_wf (w:World):Wf (lfs T) (memOf w):=by
 have hb:∀ r,(memOf w).blk r=none:=fun r=>by cases r <;> simp [memOf,Sig.blk]
 have ho:∀ r,(memOf w).obj r=.dead:=fun r=>by cases r <;> simp [memOf,Sig.obj]
 refine ⟨fun b hF=>⟨hF,fun r x h=>by rw [hb] at h; cases h⟩,fun r _ x _ h=>(by rw [hb] at h; cases h),fun r x h=>(by rw [hb] at h; cases h),fun r=>?_,fun i=>?_,rfl,rfl,List.nodup_nil,fun d hd=>(by cases hd)⟩
 ·rw [ho,hb]; rfl
 ·show ((memOf w).obj (.own i)).free
  rw [ho]; trivial
section
variable {H:Type} {enc:TypeId×Value→H} {w:World}
theorem argD_rep (hT:TabOk P T) {good:List Nat} (hg:good.all (rdOk T good)=true) {r:Go.Reach} {b0:Nat} {t:TypeId} {v:Value} {xs:List V} (ht:t∈good) (hval:Value.okWide P w r b0 t v) (h:Reads T w (T.get t).lf xs v.cells.toList) :
  RepD (lfs T) (memOf w) (argD T t xs) v:=by
 have hr:=List.all_eq_true.1 hg t ht
 unfold rdOk at hr
 rw [Bool.and_eq_true] at hr
 obtain ⟨hpos0,hr⟩:=hr
 have hpos:0<(T.get t).lf.length:=by simpa using hpos0
 obtain ⟨hok,htt⟩:=hT.get hpos
 have hagg:=hok.agg w
 rw [htt] at hagg
 obtain ⟨h1,h2,h3⟩:=h
 have cell:∀ j,j<(T.get t).lf.length→RepD (lfs T) (memOf w) ((vcells (T.get t).lf xs).getD j .undef) (v.cells.toList.getD j undef):=fun j hj=>by
  rw [vcells_getD hj]
  exact .v _ _ _ (h3 j hj).2
 unfold argD
 cases ha:(T.get t).agg with
 | true =>
  rw [ha] at hagg
  rw [mkVal_agg ha]
  have:∃ cs,v=.agg cs:=by
   unfold Value.okWide at hval
   split at hval
   ·obtain ⟨cs,h,_⟩:=hval; exact ⟨cs,h⟩
   ·obtain ⟨cs,h,_⟩:=hval; exact ⟨cs,h⟩
   ·rename_i hn1 hn2
    exfalso
    cases hu:P.underlying t with
    | none=>unfold Cell.okWide at hval; rw [hu] at hval; simp [Cell.ok,hu] at hval
    | some d =>
     simp only [isAgg,Sem.run_bind,run_underlying hu,Result.andThen_ok] at hagg
     cases d <;> first | exact hn1 _ hu | exact hn2 _ _ hu | (simp [Sem.run,pure] at hagg)
  obtain ⟨cs,rfl⟩:=this
  have e:cs=cs.toList.toArray:=by simp
  rw [e]
  refine .agg _ cs.toList (by rw [vcells_length]; exact h2.symm) (repD_of_list (by rw [vcells_length]; exact h2.symm) fun j hj=>?_)
  exact cell j (by have:cs.toList.length=(T.get t).lf.length:=h2; omega)
 | false =>
  rw [ha] at hagg
  rw [mkVal_one ha]
  have hl1:=hok.one ha
  have hnot:∀ cs,v≠.agg cs:=fun cs hv=>by
   subst hv
   unfold Value.okWide at hval
   cases hu:P.underlying t with
   | none=>rw [hu] at hval; simp [Cell.okWide,Cell.ok,hu] at hval
   | some d =>
    simp only [isAgg,Sem.run_bind,run_underlying hu,Result.andThen_ok] at hagg
    rw [hu] at hval
    cases d <;> first | (simp [Sem.run,pure] at hagg; done) | (simp [Cell.okWide,Cell.ok,hu] at hval)
  have hc:v.cells.toList=[v]:=by
   cases v <;> first | rfl | exact absurd rfl (hnot _)
  have:=cell 0 hpos
  rw [hc] at this
  have e:(vcells (T.get t).lf xs).headD .undef=(vcells (T.get t).lf xs).getD 0 .undef:=by
   cases (vcells (T.get t).lf xs) <;> rfl
  rw [e]; exact this
theorem args_read (hT:TabOk P T) {good:List Nat} (hg:good.all (rdOk T good)=true) {r:Go.Reach} {b0:Nat}:∀ (ts:List TypeId) (vs:List Value) (ds:List (DataW H)) (ps:List MemPlace),(∀ t∈ts,t∈good) →
  (∀ (j:Nat) t v,ts[j]?=some t→vs[j]?=some v→Value.okWide P w r b0 t v)→DataW.TrodAll enc P w 0 (fun _=>true) true ts vs ds ps →
  ∃ xss:List (List V),xss.length=ts.length∧(∀ i t,ts[i]?=some t→(xss.getD i []).length=(T.get t).lf.length∧∀ j,j<(T.get t).lf.length→WT (lfs T) ((T.get t).lf.getD j .oth) ((xss.getD i []).getD j V.none)) ∧
   V.bulkR xss≤dbulkAll ds∧vs.length=ts.length∧∀ j,RepD (lfs T) (memOf w) ((argsD T ts xss).getD j .undef) (vs.getD j undef)
 | [],[],[],ps,_,_,_=>⟨[],rfl,fun i t h=>by simp at h,by simp [V.bulkR],rfl,fun j=>by simp [argsD]; exact .undef _⟩
 | t::ts,v::vs,d::ds,ps,hin,hval,h=>by
  obtain ⟨p,q,h1,h2,_⟩:=h
  obtain ⟨fuel,hf⟩:=h1
  obtain ⟨xs,r1,r2⟩:=read_data (enc:=enc) hT hg fuel t _ d p (hin t (by simp)) hf
  obtain ⟨xss,s1,s2,s3,s4,s5⟩:=args_read hT hg ts vs ds q (fun t ht=>hin t (by simp [ht])) (fun j t v h h'=>hval (j+1) t v (by simpa using h) (by simpa using h')) h2
  refine ⟨xs::xss,by simp [s1],fun i t' hi=>?_,by simp only [V.bulkR,dbulkAll]; omega,by simp [s4],fun j=>?_⟩
  ·cases i with
   | zero =>
    simp at hi; subst hi
    exact ⟨r1.1,fun j hj=>(r1.2.2 j hj).1⟩
   | succ i=>simpa using s2 i t' (by simpa using hi)
  ·cases j with
   | zero=>exact argD_rep hT hg (hin t (by simp)) (hval 0 t v rfl rfl) r1
   | succ j=>exact s5 j
 | [],[],_::_,_,_,_,h=>h.elim
 | [],_::_,_,_,_,_,h=>by cases h
 | _::_,[],_,_,_,_,h=>by cases h
 | _::_,_::_,[],_,_,_,h=>by cases h
theorem trodAll_again (hl:laidOutB P=true) {w':World} {sp':Nat→Bool}:∀ (ts:List TypeId) (vs:List Value) (ds:List (DataW H)) (ps:List MemPlace),(∀ t∈ts,t<P.types.size∧P.readableRec t=true) →
  DataW.TrodAll enc P w 0 (fun _=>true) true ts vs ds ps→(∀ p∈ps,w.sameAt w' p)→(∀ p∈ps,sp' p.block=true)→DataW.TrodAll enc P w' 0 sp' true ts vs ds ps
 | [],[],[],ps,_,h,_,_=>h
 | t::ts,v::vs,d::ds,ps,hin,h,hs,hsp=>by
  obtain ⟨p,q,h1,h2,e⟩:=h
  subst e
  obtain ⟨k1,k2⟩:=hin t (by simp)
  exact ⟨p,q,WideElems.Trod_stays hl k2 k1 h1 (fun x hx=>hs x (by simp [hx])) (fun x hx=>hsp x (by simp [hx])),trodAll_again hl ts vs ds q (fun t ht=>hin t (by simp [ht])) h2 (fun x hx=>hs x (by simp [hx])) (fun x hx=>hsp x (by simp [hx])),rfl⟩
 | [],[],_::_,_,_,h,_,_=>h.elim
 | [],_::_,_,_,_,h,_,_=>by cases h
 | _::_,[],_,_,_,h,_,_=>by cases h
 | _::_,_::_,[],_,_,h,_,_=>by cases h
open Go.ChangeShapes Go.WideShapes in
theorem law_calls (hT:TabOk P T) {good:List Nat} (hg:good.all (rdOk T good)=true) (hl:laidOutB P=true) {f:FuncId} {fn:Func} {spec:ChangeSpec} {tb:TypeId} {B:Nat}
  (hpar:∀ t∈fn.params.toList,t∈good∧t<P.types.size∧P.readableRec t=true) (hvars:spec.vars=[]) (hres:fn.resultTypes=#[tb]) (htb:P.underlying tb=some .bool)
  (hspec:∀ ds:List (DataW H),ds.length=fn.params.size→spec.fn H ds={ results:=[.lit (.bool true)],args:=ds })
  (hlaw:∀ xss:List (List V),xss.length=fn.params.toList.length→(∀ i t,fn.params.toList[i]?=some t→(xss.getD i []).length=(T.get t).lf.length∧∀ j,j<(T.get t).lf.length→WT (lfs T) ((T.get t).lf.getD j .oth) ((xss.getD i []).getD j V.none))→V.bulkR xss≤B →
   ACalls P (lfs T) f (argsD T fn.params.toList xss) [] fun r _=>r=.v .bool (.b true))
  (W:World) (base:Nat) (args:Array Value) (ds gs:List (DataW H)) (before:List MemPlace)
  (hval:∀ (j:Nat) t v,fn.params[j]?=some t→args[j]?=some v→Value.okWide P W .any base t v)
  (hW:DataW.Whole enc P fn.params.toList spec.vars false W args.toList ds gs before) (hB:dbulkAll (ds++gs)≤B) :
  Calls P f args W fun e W'=>∃ v,e=.returned v∧spec.post enc P fn false true false false W args v W':=by
 have hW':=hW
 obtain ⟨p,q,hA,hV,rfl,hfz,_⟩:=hW
 rw [hvars] at hV
 cases gs with
 | cons _ _=>exact hV.elim
 | nil =>
 obtain rfl:q=[]:=hV
 simp only [List.append_nil] at hB hW' hfz
 obtain ⟨xss,s1,s2,s3,s4,s5⟩:=args_read (enc:=enc) hT hg fn.params.toList args.toList ds p (fun t ht=>(hpar t ht).1) (fun j t v h h'=>hval j t v (by simpa using h) (by simpa using h')) hA
 have hloc:∀ (ts:List TypeId) (xss:List (List V)),D.localL (argsD T ts xss)=false:=fun ts=>by
  induction ts with
  | nil=>intro _; rfl
  | cons t ts ih =>
   intro xss
   show D.anyL _ _=false
   simp only [argsD,D.anyL]
   have hv:∀ (lf:List K) (xs:List V),D.anyL Ref.isLoc (vcells lf xs)=false:=fun lf=>by
    induction lf with
    | nil=>intro _; rfl
    | cons k r ih=>intro xs; simp only [vcells,D.anyL,D.anyR]; exact ih _
   have:D.anyR Ref.isLoc (argD T t (xss.headD []))=false:=by
    unfold argD
    cases ha:(T.get t).agg with
    | true=>rw [mkVal_agg ha]; exact hv _ _
    | false =>
     rw [mkVal_one ha]
     cases (T.get t).lf with
     | nil=>rfl
     | cons k r=>rfl
   rw [this]
   exact ih _
 have hcall:=hlaw xss s1 s2 (by omega) (memOf W) args.toList rfl rfl rfl rfl (memOf_wf W) (by rw [argsD_length,s4]) s5 (hloc _ _)
 rw [show args.toList.toArray=args from by simp] at hcall
 refine hcall.mono fun e W' ⟨v,r,S',he,hw,_,_,_,_,hrv,_,hext,hr⟩=>⟨v,he,?_⟩
 subst hr
 have hv:=hrv.bool_inv
 have hb0:∀ i bc,(memOf W).blk (.own i)=some bc→False:=fun i bc h=>by simp [memOf,Sig.blk] at h
 have hheap:∀ b,b<W.heap.size→W'.heap[b]?=W.heap[b]?:=fun b hb=>by
  rw [← hw]
  exact (hext.block b hb fun i bc h=>(hb0 i bc h).elim).1
 have hlt:∀ x∈p,x.block<W.heap.size:=fun x hx=>hW'.lt x hx
 have hsame:∀ x∈p,W.sameAt W' x:=fun x hx=>by
  have:=hheap _ (hlt x hx)
  cases x with
  | cell b off=>exact World.cell?_of_block this
  | map b=>exact this
 have hlen:ds.length=fn.params.size:=by
  have:∀ (ts:List TypeId) (vs:List Value) (ds:List (DataW H)) (ps:List MemPlace),DataW.TrodAll enc P W 0 (fun _=>true) true ts vs ds ps→ds.length=ts.length:=fun ts=>by
   induction ts with
   | nil=>intro vs ds ps h; cases vs <;> cases ds <;> first | rfl | cases h
   | cons t ts ih =>
    intro vs ds ps h
    cases vs with
    | nil=>cases h
    | cons v vs =>
     cases ds with
     | nil=>cases h
     | cons d ds=>obtain ⟨_,_,_,h2,_⟩:=h; simp [ih vs ds _ h2]
  simpa using this _ _ _ _ hA
 have hsp:=hspec ds hlen
 have hargs:∀ sp:Nat→Bool,(∀ x∈p,sp x.block=true)→DataW.TrodAll enc P W' 0 sp true fn.params.toList args.toList ds p:=fun sp h=>trodAll_again hl _ _ _ _ (fun t ht=>(hpar t ht).2) hA hsame h
 have hold:∀ x∈p,(fun b=>decide (b<W.heap.size)) x.block=true:=fun x hx=>by simpa using hlt x hx
 have hout:∀ (b:Nat) (sp:Nat→Bool) (hd:Bool),DataW.TrodAll enc P W' b sp hd fn.resultTypes.toList (v.resultList fn.resultTypes.size) [.lit (.bool true)] []:=fun b sp hd=>by
  rw [hres,hv]
  exact trodAll_cons_mk (RowKit.shut_bool htb _) trodAll_mk0
 have hfrz:∀ b off,b<W.heap.size→W'.frozen? ⟨b,off,none⟩=W.frozen? ⟨b,off,none⟩:=fun b off hb=>by
  simp only [World.frozen?,hheap b hb]
 refine ⟨ds,[],p,[],p,[],hW',by rw [List.append_nil,hsp]; exact hout _ _ _,by rw [List.append_nil,hsp]; exact hargs _ hold,by rw [hvars,List.append_nil,hsp]; rfl,?_,fun h=>by cases h⟩
 refine ⟨by rw [← hw]; exact hext.os,by rw [← hw]; exact hext.output,fun i hi=>?_⟩
 rw [hheap i hi]
 rw [Array.getElem?_eq_getElem hi]
 cases W.heap[i] <;> simp
end
end Go.Abs
namespace Go.Proofs.YthhnadeoioeniaaGreat
open Go.Abs
abbrev WTt:=WT (lfs tab)
def AllWT:List K→List V→Prop
 | [],[]=>True
 | k::ks,v::vs=>WTt k v∧AllWT ks vs
 | _,_=>False
theorem allWT_of:∀ (ks:List K) (vs:List V),vs.length=ks.length→(∀ j,j<ks.length→WTt (ks.getD j .oth) (vs.getD j V.none))→AllWT ks vs
 | [],[],_,_=>trivial
 | [],_::_,h,_=>by simp at h
 | _::_,[],h,_=>by simp at h
 | k::ks,v::vs,h,h2=>⟨h2 0 (by simp),allWT_of ks vs (by simpa using h) fun j hj=>h2 (j+1) (by simpa using hj)⟩
theorem wt_str {v:V} (h:WTt .str v):∃ s,v=.s s:=by cases h with | str s=>exact ⟨s,rfl⟩
theorem wt_bool {v:V} (h:WTt .bool v):∃ b,v=.b b:=by cases h with | bool b=>exact ⟨b,rfl⟩
theorem wt_int {k:IntKind} {v:V} (h:WTt (.int k) v):∃ n,v=.i n:=by cases h with | int _ n _=>exact ⟨n,rfl⟩
theorem wt_sl {e:TypeId} {v:V} (h:WTt (.sl e) v):∃ xs,v=.l xs∧∀ i,i<xs.length→AllWT (lfs tab e) (xs.getD i []):=by
 cases h with
 | sl _ xs h1 h2=>exact ⟨xs,rfl,fun i hi=>allWT_of _ _ (h1 i hi) fun j hj=>h2 i j hi hj⟩
theorem rows_of {α:Type} {enc:α→List V}:∀ (xs:List (List V)),(∀ i,i<xs.length→∃ y,xs.getD i []=enc y)→∃ l:List α,xs=l.map enc
 | [],_=>⟨[],rfl⟩
 | x::xs,h=>by
  obtain ⟨y,hy⟩:=h 0 (by simp)
  obtain ⟨l,hl⟩:=rows_of xs fun i hi=>h (i+1) (by simpa using hi)
  exact ⟨y::l,by rw [List.map_cons,← hl]; exact congrArg (·::xs) hy⟩
theorem lf_Term:lfs tab Za=[.str,.bool,.sl Za]:=by kernel_rfl
theorem terms_of_rows:∀ (xs:List (List V)),(∀ i,i<xs.length→∃ t:Tm,xs.getD i []=t.enc∧t.size≤V.bulkL t.enc)→∃ l:List Tm,xs=Tm.encL l∧Tm.sizeL l≤V.bulkR (Tm.encL l)
 | [],_=>⟨[],rfl,by simp [Tm.sizeL]⟩
 | x::xs,h=>by
  obtain ⟨t,ht,hs⟩:=h 0 (by simp)
  obtain ⟨l,hl,hs2⟩:=terms_of_rows xs fun i hi=>h (i+1) (by simpa using hi)
  refine ⟨t::l,?_,?_⟩
  ·have:x=t.enc:=ht
   rw [this,hl]; rfl
  ·simp only [Tm.sizeL,Tm.encL,V.bulkR]; omega
theorem wt_terms_aux {k:K} {v:V} (h:WTt k v):k=.sl Za→∃ l:List Tm,v=.l (Tm.encL l)∧Tm.sizeL l+1≤V.bulk (.l (Tm.encL l)):=by
 induction h with
 | int _ _ _=>intro h; cases h
 | bool _=>intro h; cases h
 | str _=>intro h; cases h
 | sl e xs h1 h2 ih =>
  intro he
  obtain rfl:e=Za:=by injection he
  rw [lf_Term] at h1 h2 ih
  obtain ⟨l,hl,hs⟩:=terms_of_rows xs fun i hi=>by
   have g0:=h1 i hi
   have g1:=h2 i 0 hi (by decide)
   have g2:=h2 i 1 hi (by decide)
   have g3:=ih i 2 hi (by decide) rfl
   generalize xs.getD i []=c at g0 g1 g2 g3
   match c,g0 with
   | [a,b,d],_ =>
    obtain ⟨n,hn⟩:=wt_str g1
    obtain ⟨w,hw⟩:=wt_bool g2
    obtain ⟨l,hl,hs⟩:=g3
    have hn:a=.s n:=hn
    have hw:b=.b w:=hw
    have hl:d=.l (Tm.encL l):=hl
    subst hn hw hl
    refine ⟨.mk n w l,rfl,?_⟩
    simp only [Tm.size,Tm.enc,V.bulkL,V.bulk] at hs ⊢
    omega
  exact ⟨l,by rw [hl],by simp only [V.bulk]; omega⟩
theorem wt_terms {v:V} (h:WTt (.sl Za) v):∃ l:List Tm,v=.l (Tm.encL l)∧Tm.sizeL l+1≤v.bulk:=by
 obtain ⟨l,h1,h2⟩:=wt_terms_aux h rfl
 exact ⟨l,h1,by rw [h1]; exact h2⟩
theorem wt_term {a b c:V} (h:AllWT [.str,.bool,.sl Za] [a,b,c]):∃ t:Tm,a=.s t.name∧b=.b t.var∧c=.l (Tm.encL t.args)∧t.size≤a.bulk+b.bulk+c.bulk:=by
 obtain ⟨h1,h2,h3,_⟩:=h
 obtain ⟨n,rfl⟩:=wt_str h1
 obtain ⟨w,rfl⟩:=wt_bool h2
 obtain ⟨l,rfl,hs⟩:=wt_terms h3
 refine ⟨.mk n w l,rfl,rfl,rfl,?_⟩
 simp only [Tm.size] at hs ⊢
 simp only [V.bulk] at hs ⊢
 omega
def ArgWT (ts:List TypeId) (xss:List (List V)):Prop:=xss.length=ts.length∧∀ i t,ts[i]?=some t→AllWT (tab.get t).lf (xss.getD i [])
theorem argWT_of {ts:List TypeId} {xss:List (List V)} (h1:xss.length=ts.length) (h2:∀ i t,ts[i]?=some t→(xss.getD i []).length=(tab.get t).lf.length∧∀ j,j<(tab.get t).lf.length→WT (lfs tab) ((tab.get t).lf.getD j .oth) ((xss.getD i []).getD j V.none)):ArgWT ts xss :=
 ⟨h1,fun i t ht=>allWT_of _ _ (h2 i t ht).1 (h2 i t ht).2⟩
end Go.Proofs.YthhnadeoioeniaaGreat
namespace Go.Proofs.YthhnadeoioeniaaGreat
open Go.Abs
theorem lf_Rule:lfs tab Zap=[.str,.bool,.sl Za,.str,.bool,.sl Za]:=by kernel_rfl
theorem rules_of_rows:∀ (xs:List (List V)),(∀ i,i<xs.length→∃ y:Tm×Tm,xs.getD i []=encR y∧y.1.size+y.2.size≤V.bulkL (encR y))→∃ l:Ru,xs=encRs l∧∀ y∈l,y.1.size+y.2.size≤V.bulkR (encRs l)
 | [],_=>⟨[],rfl,fun y hy=>by cases hy⟩
 | x::xs,h=>by
  obtain ⟨y,hy,hs⟩:=h 0 (by simp)
  obtain ⟨l,hl,hs2⟩:=rules_of_rows xs fun i hi=>h (i+1) (by simpa using hi)
  have e:encRs (y::l)=encR y::encRs l:=rfl
  refine ⟨y::l,?_,fun z hz=>?_⟩
  ·have:x=encR y:=hy
   rw [this,hl]; rfl
  ·rw [e]
   simp only [V.bulkR]
   rcases List.mem_cons.1 hz with rfl | hz
   ·omega
   ·have:=hs2 z hz; omega
theorem wt_rules {v:V} (h:WTt (.sl Zap) v):∃ l:Ru,v=.l (encRs l)∧∀ y∈l,y.1.size+y.2.size≤v.bulk:=by
 obtain ⟨xs,rfl,hx⟩:=wt_sl h
 rw [lf_Rule] at hx
 obtain ⟨l,hl,hs⟩:=rules_of_rows xs fun i hi=>by
  have g:=hx i hi
  generalize xs.getD i []=c at g
  match c,g with
  | [a,b,d,a',b',d'],⟨g1,g2,g3,g4⟩ =>
   obtain ⟨s,rfl,rfl,rfl,hs⟩:=wt_term ⟨g1,g2,g3,trivial⟩
   obtain ⟨t,rfl,rfl,rfl,ht⟩:=wt_term g4
   refine ⟨(s,t),by rw [encR,Tm.enc_eq,Tm.enc_eq]; rfl,?_⟩
   rw [encR,Tm.enc_eq,Tm.enc_eq]
   simp only [V.bulkL,List.cons_append,List.nil_append]
   omega
 refine ⟨l,by rw [hl],fun y hy=>?_⟩
 have:=hs y hy
 rw [hl]
 simp only [V.bulk]; omega
end Go.Proofs.YthhnadeoioeniaaGreat
namespace Go.Proofs.YthhnadeoioeniaaGreat
open Go.Abs Go
theorem lfp_int:lfs tab ZT=[.int .i64]:=by kernel_rfl
theorem lfp_Mono:lfs tab Zk=[.int .u64,.sl ZT]:=by kernel_rfl
theorem lfp_Poly:lfs tab Zg=[.str,.sl Zk]:=by kernel_rfl
theorem wt_i64 {v:V} (h:WTt (.int .i64) v):∃ n:Int,v=.i n∧-9223372036854775808≤n∧n≤9223372036854775807:=by
 cases h with
 | int _ n h =>
  refine ⟨n,rfl,?_⟩
  have e1:IntKind.i64.min = -9223372036854775808:=by kernel_rfl
  have e2:IntKind.i64.max=9223372036854775807:=by kernel_rfl
  rw [Lit.wf,e1,e2,Bool.and_eq_true,decide_eq_true_iff,decide_eq_true_iff] at h
  exact h
theorem wt_u64 {v:V} (h:WTt (.int .u64) v):∃ n:Nat,v=.i n∧n<18446744073709551616:=by
 cases h with
 | int _ n h =>
  have h2:0≤n∧n<18446744073709551616:=by
   have e1:IntKind.u64.min=0:=by kernel_rfl
   have e2:IntKind.u64.max=18446744073709551615:=by kernel_rfl
   rw [Lit.wf,e1,e2,Bool.and_eq_true,decide_eq_true_iff,decide_eq_true_iff] at h
   omega
  exact ⟨n.toNat,by rw [Int.toNat_of_nonneg h2.1],by omega⟩
theorem rows_with {α:Type} {enc:α→List V} {p:α→Prop} (xs:List (List V)) (h:∀ i,i<xs.length→∃ y,xs.getD i []=enc y∧p y):∃ l:List α,xs=l.map enc∧∀ y∈l,p y:=by
 obtain ⟨l,hl⟩:=rows_of (enc:=fun y:{ y:α // p y }=>enc y.1) xs fun i hi=>by
  obtain ⟨y,h1,h2⟩:=h i hi
  exact ⟨⟨y,h2⟩,h1⟩
 refine ⟨l.map (·.1),by rw [hl,List.map_map]; rfl,fun y hy=>?_⟩
 obtain ⟨z,_,rfl⟩:=List.mem_map.1 hy
 exact z.2
theorem wt_ints64 {v:V} (h:WTt (.sl ZT) v):∃ l:List Int,v=.l (encP l)∧∀ e∈l,e≤9223372036854775807:=by
 obtain ⟨xs,rfl,hx⟩:=wt_sl h
 rw [lfp_int] at hx
 obtain ⟨l,hl,hp⟩:=rows_with (enc:=fun i:Int=>[V.i i]) (p:=fun e=>e≤9223372036854775807) xs fun i hi=>by
  have g:=hx i hi
  generalize xs.getD i []=c at g
  match c,g with
  | [a],⟨g1,_⟩ =>
   obtain ⟨n,rfl,_,h2⟩:=wt_i64 g1
   exact ⟨n,rfl,h2⟩
 exact ⟨l,by rw [hl]; rfl,hp⟩
def GoodArg (x:Mo):Prop:=x.coef<18446744073709551616∧∀ e∈x.exps,e≤9223372036854775807
theorem wt_monos {v:V} (h:WTt (.sl Zk) v):∃ l:Mos,v=.l (encMos l)∧∀ x∈l,GoodArg x:=by
 obtain ⟨xs,rfl,hx⟩:=wt_sl h
 rw [lfp_Mono] at hx
 obtain ⟨l,hl,hp⟩:=rows_with (enc:=encMo) (p:=GoodArg) xs fun i hi=>by
  have g:=hx i hi
  generalize xs.getD i []=c at g
  match c,g with
  | [a,b],⟨g1,g2,_⟩ =>
   obtain ⟨n,rfl,h1⟩:=wt_u64 g1
   obtain ⟨e,rfl,h2⟩:=wt_ints64 g2
   exact ⟨⟨n,e⟩,rfl,h1,h2⟩
 exact ⟨l,by rw [hl]; rfl,hp⟩
theorem wt_polys {v:V} (h:WTt (.sl Zg) v):∃ l:Pls,v=.l (encPls l):=by
 obtain ⟨xs,rfl,hx⟩:=wt_sl h
 rw [lfp_Poly] at hx
 obtain ⟨l,hl⟩:=rows_of (enc:=encPl) xs fun i hi=>by
  have g:=hx i hi
  generalize xs.getD i []=c at g
  match c,g with
  | [a,b],⟨g1,g2,_⟩ =>
   obtain ⟨n,rfl⟩:=wt_str g1
   obtain ⟨m,rfl,_⟩:=wt_monos g2
   exact ⟨⟨n,m⟩,rfl⟩
 exact ⟨l,by rw [hl]; rfl⟩
end Go.Proofs.YthhnadeoioeniaaGreat
