/-
  Texts R08B, PolT, R08C of this proof, joined.
-/
import Derived.Test.YthhnadeoioeniaaGreatP10
set_option linter.unusedVariables false
set_option linter.unusedSimpArgs false
namespace Go.Proofs.YthhnadeoioeniaaGreat
open Go Go.Abs
theorem zeroRow_int (n:Nat):zeroRow [.int .i64] n=encP (zerosE n):=by
 unfold zeroRow encP zerosE
 rw [List.map_replicate]
 rfl
theorem encP_set (m:List Int) (j:Nat) (v:Int) (h:j<m.length):(encP m).set j (setV ((encP m).getD j []) 0 [V.i v])=encP (m.set j v):=by
 rw [encP_getD _ _ h,encP,encP,List.map_set]; rfl
theorem unitE_set (n i:Nat) (h:i<n):(zerosE n).set i 1=unitE n i:=by
 refine List.ext_getElem (by simp [zerosE,unitE]) fun j h1 h2=>?_
 have e1:(unitE n i)[j]=if j=i then 1 else 0:=by simp [unitE]
 have e2:((zerosE n).set i 1)[j]=if i=j then 1 else 0:=by simp [zerosE,List.getElem_set]
 rw [e1,e2]
 by_cases e:i=j
 ·rw [if_pos e,if_pos e.symm]
 ·rw [if_neg e,if_neg (fun h=>e h.symm)]
theorem zerosE_length (n:Nat):(zerosE n).length=n:=List.length_replicate
theorem unitE_length (n i:Nat):(unitE n i).length=n:=by simp [unitE]
theorem r08_unit_ok (n i:Nat) (hi:i<n) (hn:n≤1048576):Fn ZgF [iD n,iD i] (psD (unitE n i)):=fun Q hQ=>by
 refine Zjk _ _ _ ?_
 unfold ZhN
 simp only [zeroRow_int,encP_length,zerosE_length,Int.toNat_natCast]
 rw [encP_set _ _ _ (by rw [zerosE_length]; exact hi),unitE_set n i hi,encP_length,unitE_length]
 exact ⟨by omega,trivial,by unfold lim; omega,trivial,by omega,by omega,trivial,hi,rfl,hQ⟩
def defP (n:Nat):Mos:=(List.range n).reverse.map fun i=>⟨1,unitE n i⟩
theorem defP_length (n:Nat):(defP n).length=n:=by simp [defP]
theorem defP_take (n k:Nat) (h:k<n):(defP n).take (k+1)=(defP n).take k++[⟨1,unitE n (n - 1 - k)⟩]:=by
 rw [List.take_succ_eq_append_getElem (by rw [defP_length]; exact h)]
 congr 1
 simp [defP]
def entK (y:Pl) (n:Nat):Mos×Bool:=(y.monos,y.monos.isEmpty||decide ((y.monos.headD ⟨0,[]⟩).exps.length=n))
theorem entPl_some {l:Pls} {x:ByteArray} {n:Nat} {y:Pl} (h:l.find? (fun y=>decide (y.name=x))=some y):entPl l x n=entK y n:=by unfold entPl; rw [h]; rfl
theorem entPl_none {l:Pls} {x:ByteArray} {n:Nat} (h:l.find? (fun y=>decide (y.name=x))=none):entPl l x n=(defP n,true):=by unfold entPl; rw [h]; rfl
theorem find_first {l:Pls} {x:ByteArray} {k:Nat} (hk:k<l.length) (h:(l[k]).name=x) (hn:∀ i (hi:i<l.length),i<k→(l[i]).name≠x):l.find? (fun y=>decide (y.name=x))=some l[k]:=by
 rw [List.find?_eq_some_iff_append]
 refine ⟨decide_eq_true h,l.take k,l.drop (k+1),?_,fun y hy=>?_⟩
 ·rw [← List.drop_eq_getElem_cons hk,List.take_append_drop]
 ·obtain ⟨i,hi,rfl⟩:=List.mem_take_iff_getElem.1 hy
  have:=hn i (by omega) (by omega)
  simp only [Bool.not_eq_true',decide_eq_false_iff_not]
  exact this
theorem r08_Entry_ok (l:Pls) (x:ByteArray) (n:Nat) (hn:n≤1048576):Fn Zeb [plsD l,sD x,iD n] (.tup [msD (entPl l x n).1,bD (entPl l x n).2]):=fun Q hQ=>by
 refine Zjh _ _ _ _ fun hb=>?_
 rw [encPls_length] at hb ⊢
 refine Zgq Q _ _ _ _ hb (fun k=>∀ i (hi:i<l.length),i<k→(l[i]).name≠x) (fun k hk hJ K hK=>?_) (fun hJ=>?_) 0 (Nat.zero_le _) (fun i _ hi=>by omega)
 ·simp only [encPls_getD _ k hk,List.drop_zero,List.drop_succ_cons,List.headD_cons,List.tail_cons,encPls_length,V.str]
  refine ⟨by omega,by omega,?_⟩
  rw [ba_beq]
  refine iff_dec (fun h=>?_) (fun h=>hK fun i hi hik=>?_)
  ·rw [entPl_some (find_first hk h hJ)] at hQ
   unfold entK at hQ
   generalize l[k]=y at hQ
   have e1:((V.list (V.l (encMos y.monos))).length:Int)=y.monos.length:=by show ((encMos _).length:Int)=_; rw [encMos_length]
   rw [e1]
   cases hm:y.monos with
   | nil =>
    rw [hm] at hQ
    exact iff_yes rfl ⟨⟨trivial,trivial,trivial⟩,hQ⟩
   | cons z r =>
    rw [hm] at hQ
    refine iff_no (by show (((z::r).length:Int) == 0)=false; simp; omega) ⟨by omega,by show (0:Int)<((z::r).length:Int); simp,⟨trivial,trivial,trivial⟩,?_⟩
    have e2:(V.list (V.l (encMos (z::r)))).getD ((0:Int)).toNat []=[.i z.coef,.l (encP z.exps)]:=rfl
    rw [e2]
    have e3:((V.list (V.l (encP z.exps))).length:Int)=z.exps.length:=by show ((encP _).length:Int)=_; rw [encP_length]
    simp only [List.drop_succ_cons,List.drop_zero,List.headD_cons,e3]
    have e4:(((z.exps.length:Nat):Int) == (n:Int))=((z::r).isEmpty||decide (((z::r).headD ⟨0,[]⟩).exps.length=n)):=by
     show _=decide (z.exps.length=n)
     rw [Bool.eq_iff_iff,beq_iff_eq,decide_eq_true_iff]; omega
    rw [e4]
    exact hQ
  ·rcases Nat.lt_succ_iff_lt_or_eq.1 hik with h8 | h8
   ·exact hJ i hi h8
   ·subst h8; exact h
 ·have hno:l.find? (fun y=>decide (y.name=x))=none:=by
   rw [List.find?_eq_none]
   intro y hy
   obtain ⟨i,hi,rfl⟩:=List.mem_iff_getElem.1 hy
   have:=hJ i hi hi
   simpa using this
  rw [entPl_none hno] at hQ
  rw [wrap_in _ (by omega) (by omega)]
  refine Zg2 Q (fun x2 x10 x11 y53=>x2=n∧∃ k:Nat,k≤n∧x11=(n:Int) - 1 - k∧y53=encMos ((defP n).take k)∧x10=y53.length) (fun x2 x10 x11 y53=>(x11+1).toNat) (fun x2 x10 x11 y53 hI m hK=>?_) _ _ _ _ ⟨rfl,0,Nat.zero_le _,by omega,rfl,rfl⟩
  obtain ⟨rfl,k,hk,rfl,rfl,rfl⟩:=hI
  unfold ZdM
  have hlen:(encMos ((defP n).take k)).length=k:=by rw [encMos_length,List.length_take,defP_length]; omega
  refine iff_dec (fun h=>?_) (fun h=>⟨⟨rfl,trivial,trivial⟩,?_⟩)
  ·have e:(n:Int) - 1 - k=((n - 1 - k:Nat):Int):=by omega
   rw [e]
   refine r08_unit_ok n (n - 1 - k) (by omega) hn _ ⟨rfl,rfl,rfl,by rw [hlen]; show k+1≤lim; unfold lim; omega,?_⟩
   rw [wrap_in _ (by omega) (by omega)]
   refine hK _ _ _ _ ⟨rfl,k+1,by omega,by omega,?_,?_⟩ (by omega)
   ·rw [defP_take n k (by omega),encMos_append]; rfl
   ·rw [List.length_append]
  ·rw [List.take_of_length_le (by rw [defP_length]; omega)]
   exact hQ
def constP:Mos→Nat
 | []=>0
 | x::l=>if (x.exps.all fun e=>decide (e=0))=true then x.coef else constP l
end Go.Proofs.YthhnadeoioeniaaGreat
namespace Go.Proofs.YthhnadeoioeniaaGreat
open Go.Abs
def polyA (l:Pls) (vars:List ByteArray) (xs:List Tm):List Mos:=xs.map fun t=>(polyT l vars t).getD []
theorem polyL_all (l:Pls) (vars:List ByteArray):∀ xs:List Tm,(∀ t∈xs,polyT l vars t≠none)→polyL l vars xs=some (polyA l vars xs)
 | [],_=>rfl
 | t::r,h=>by
  rw [polyL]
  cases hp:polyT l vars t with
  | none=>exact absurd hp (h t (by simp))
  | some p =>
   rw [polyL_all l vars r fun a ha=>h a (by simp [ha])]
   show some (p::polyA l vars r)=some (polyA l vars (t::r))
   unfold polyA
   rw [List.map_cons,hp]; rfl
theorem polyL_bad (l:Pls) (vars:List ByteArray):∀ xs:List Tm,(∃ t∈xs,polyT l vars t=none)→polyL l vars xs=none
 | [],h=>by obtain ⟨t,ht,_⟩:=h; simp at ht
 | t::r,h=>by
  rw [polyL]
  cases hp:polyT l vars t with
  | none=>rfl
  | some p =>
   obtain ⟨a,ha,hn⟩:=h
   rcases List.mem_cons.1 ha with rfl | ha
   ·rw [hp] at hn; cases hn
   ·rw [polyL_bad l vars r ⟨a,ha,hn⟩]
theorem polyT_arg {l:Pls} {vars:List ByteArray} {t:Tm} (hv:t.var=false) (h:∃ a∈t.args,polyT l vars a=none):polyT l vars t=none:=by
 rw [polyT_eq,if_neg (by rw [hv]; simp),polyL_bad l vars _ h]
theorem polyT_args {l:Pls} {vars:List ByteArray} {t:Tm} (hv:t.var=false) (h:∀ a∈t.args,polyT l vars a≠none):polyT l vars t=insertP vars.length (polyA l vars t.args) (entPl l t.name t.args.length).1 []:=by
 rw [polyT_eq,if_neg (by rw [hv]; simp),polyL_all l vars _ h]
def GoodMo (n:Nat) (ms:Mos):Prop:=∀ m∈ms,m.exps.length=n∧0<m.coef∧m.coef≤1048576∧∀ e∈m.exps,0≤e∧e≤8
theorem unitE_vals (n i:Nat):∀ e∈unitE n i,0≤e∧e≤1:=fun e he=>by
 obtain ⟨j,_,rfl⟩:=List.mem_map.1 he
 split <;> omega
theorem mono_len {l:Mos} (h:monosE l=0):∀ m∈l,m.exps.length=(l.headD ⟨0,[]⟩).exps.length:=fun m hm=>by
 obtain ⟨_,hf,_⟩:=monosE_zero h
 obtain ⟨k,hk,rfl⟩:=List.mem_iff_getElem.1 hm
 have:=(form_len hf hk).2
 cases l with
 | nil=>simp at hk
 | cons x r=>exact this
theorem entPl_good {l:Pls} (hl:∀ y∈l,monosE y.monos=0) {x:ByteArray} {n:Nat} (hf:(entPl l x n).2=true):GoodMo n (entPl l x n).1:=fun m hm=>by
 obtain ⟨hc1,hc2⟩:=entPl_coef hl x n m hm
 refine ⟨?_,hc1,hc2,?_⟩
 ·unfold entPl at hf hm
  cases hy:l.find? fun y=>decide (y.name=x) with
  | none =>
   rw [hy] at hm
   obtain ⟨i,_,rfl⟩:=List.mem_map.1 hm
   simp [unitE]
  | some y =>
   rw [hy] at hf hm
   have hin:=List.mem_of_find?_eq_some hy
   have hf:(y.monos.isEmpty||decide ((y.monos.headD ⟨0,[]⟩).exps.length=n))=true:=hf
   have hm:m∈y.monos:=hm
   rw [mono_len (hl y hin) m hm]
   rw [Bool.or_eq_true,decide_eq_true_iff] at hf
   rcases hf with hf | hf
   ·rw [List.isEmpty_iff] at hf; rw [hf] at hm; simp at hm
   ·exact hf
 ·unfold entPl at hm
  cases hy:l.find? fun y=>decide (y.name=x) with
  | none =>
   rw [hy] at hm
   obtain ⟨i,_,rfl⟩:=List.mem_map.1 hm
   intro e he
   have:=unitE_vals n i e he
   omega
  | some y =>
   rw [hy] at hm
   have hin:=List.mem_of_find?_eq_some hy
   have hm:m∈y.monos:=hm
   obtain ⟨_,_,ha⟩:=monosE_zero (hl y hin)
   exact (arg_of (List.all_eq_true.1 ha m hm)).2.2
mutual
def fitsT (l:Pls):Tm→Bool | .mk x v xs=>v||((entPl l x xs.length).2&&fitsTL l xs)
def fitsTL (l:Pls):List Tm→Bool | []=>true | t::r=>fitsT l t&&fitsTL l r
end
theorem fitsTL_all (l:Pls):∀ xs:List Tm,fitsTL l xs=xs.all (fitsT l)
 | []=>rfl
 | t::r=>by rw [fitsTL,List.all_cons,fitsTL_all l r]
theorem fitsT_eq (l:Pls):∀ t:Tm,fitsT l t=(t.var||((entPl l t.name t.args.length).2&&t.args.all (fitsT l)))
 | .mk x v xs=>by rw [fitsT,fitsTL_all]; rfl
theorem polyT_small {l:Pls} (hl:∀ y∈l,monosE y.monos=0) {vars:List ByteArray} (hd:vars.Nodup) {t:Tm} (hv:∀ s∈t.pre,s.var=true→s.name∈vars) {c:Mos} (h:polyT l vars t=some c):SmallP vars.length c :=
 (term_val l (entPl_max hl) vars (List.replicate vars.length 0) (by rw [List.length_replicate]) hd t hv c h).1
theorem pre_arg {t a:Tm} (ha:a∈t.args) {s:Tm} (hs:s∈a.pre):s∈t.pre:=by
 rw [Tm.pre_eq,Tm.preL_eq]
 exact List.mem_cons_of_mem _ (List.mem_flatMap.2 ⟨a,ha,hs⟩)
theorem polyA_small {l:Pls} (hl:∀ y∈l,monosE y.monos=0) {vars:List ByteArray} (hd:vars.Nodup) {t:Tm} (hv:∀ s∈t.pre,s.var=true→s.name∈vars):∀ p∈polyA l vars t.args,SmallP vars.length p:=fun p hp=>by
 obtain ⟨a,ha,rfl⟩:=List.mem_map.1 hp
 cases h:polyT l vars a with
 | none=>intro x hx; simp at hx
 | some c=>exact polyT_small hl hd (fun s hs=>hv s (pre_arg ha hs)) h
theorem large_len {l:Mos} (h:largeP l=false):l.length≤4096:=by
 unfold largeP at h
 rw [Bool.or_eq_false_iff] at h
 have:=of_decide_eq_false h.1
 omega
def midE (e:List Int) (k:Nat):List Int:=e.take k++zerosE (e.length - k)
def preP (a b:Mos) (k j:Nat):Mos:=pairsP (a.take k) b++(match a[k]? with | some x=>(b.take j).map (mulMo x) | none=>[])
theorem smallP_coef {n:Nat} {l:Mos} (h:SmallP n l):∀ x∈l,x.coef≤ovr:=fun x hx=>by
 have:x.coef≤4611686018427387904:=(h x hx).2.1
 show x.coef≤4611686018427387905
 omega
theorem uV_unit:∀ {vars:List ByteArray} {i:Nat} (h:i<vars.length),vars.Nodup→uV vars vars[i]=unitE vars.length i:=fun {vars i} h hd=>by
 refine List.ext_getElem (by simp [uV,unitE]) fun j h1 h2=>?_
 have hj:j<vars.length:=by simpa [uV] using h1
 have e1:(unitE vars.length i)[j]=if j=i then 1 else 0:=by simp [unitE]
 have e2:(uV vars vars[i])[j]=if vars[j]=vars[i] then 1 else 0:=by simp [uV]
 rw [e1,e2]
 have hp:=List.pairwise_iff_getElem.1 hd
 have:vars[j]=vars[i]↔j=i:=⟨fun e=>by
  rcases Nat.lt_trichotomy j i with g | g | g
  ·exact absurd e (hp j i hj h g)
  ·exact g
  ·exact absurd e.symm (hp i j h hj g),fun e=>by subst e; rfl⟩
 by_cases e:j=i
 ·rw [if_pos (this.2 e),if_pos e]
 ·rw [if_neg (fun h=>e (this.1 h)),if_neg e]
end Go.Proofs.YthhnadeoioeniaaGreat
namespace Go.Proofs.YthhnadeoioeniaaGreat
open Go Go.Abs
def encAs (ps:List Mos):LL:=ps.map fun p=>[V.l (encMos p)]
theorem vanP_take:∀ {es:List Int} {ps:List Mos} {k:Nat} (h1:k<es.length) (h2:k<ps.length),vanP (es.drop k) (ps.drop k)=((decide (0<es[k])&&(ps[k]).isEmpty)||vanP (es.drop (k+1)) (ps.drop (k+1))):=fun {es ps k} h1 h2=>by
 rw [List.drop_eq_getElem_cons h1,List.drop_eq_getElem_cons h2]; rfl
theorem chainP_nil (ps:List Mos) (x:Mos):chainP [] ps x=some x:=by cases ps <;> rfl
theorem insertP_cons (n:Nat) (args:List Mos) (m:Mo) (ms out:Mos):insertP n args (m::ms) out=match monoP n m args with
  | none=>none
  | some x=>if largeP (addsP out x) then none else insertP n args ms (addsP out x):=rfl
end Go.Proofs.YthhnadeoioeniaaGreat
