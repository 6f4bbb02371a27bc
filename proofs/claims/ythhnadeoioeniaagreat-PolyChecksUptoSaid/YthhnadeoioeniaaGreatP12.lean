/-
  Texts PolR, PolS, R08B, PolT, R08C of this proof, joined.
-/
import Derived.Test.YthhnadeoioeniaaGreatP11
set_option linter.unusedVariables false
set_option linter.unusedSimpArgs false
namespace Go.Proofs.YthhnadeoioeniaaGreat
def monosP (n:Nat) (args:List Mos):Mos→Option Mos
 | []=>some []
 | m::ms=>match monoP n m args with
  | none=>none
  | some x=>match monosP n args ms with
   | none=>none
   | some xs=>some (x++xs)
def endP (out:Mos):Option Mos→Option Mos
 | none=>none
 | some xs=>if largeP (addsP out xs) then none else some (addsP out xs)
theorem insertP_end (n:Nat) (args:List Mos):∀ (ms out:Mos),largeP out=false→insertP n args ms out=endP out (monosP n args ms)
 | [],out,h=>by
  show some out=if largeP out then none else some out
  rw [h]; rfl
 | m::ms,out,h=>by
  rw [insertP,monosP]
  cases hm:monoP n m args with
  | none=>rfl
  | some x =>
   show (if largeP (addsP out x) then none else insertP n args ms (addsP out x))=endP out (match monosP n args ms with | none=>none | some xs=>some (x++xs))
   cases hl:largeP (addsP out x) with
   | true =>
    rw [if_pos rfl]
    cases monosP n args ms with
    | none=>rfl
    | some xs =>
     show none=if largeP (addsP out (x++xs)) then none else some (addsP out (x++xs))
     rw [addsP_append,addsP_large hl]; rfl
   | false =>
    rw [if_neg (by simp),insertP_end n args ms _ hl]
    cases monosP n args ms with
    | none=>rfl
    | some xs =>
     show (if largeP (addsP (addsP out x) xs) then none else some (addsP (addsP out x) xs))=if largeP (addsP out (x++xs)) then none else some (addsP out (x++xs))
     rw [addsP_append]
def SameP (a b:Option Mos):Prop:=match a,b with
 | none,none=>True
 | some x,some y=>x.Perm y
 | _,_=>False
theorem SameP.refl:∀ a:Option Mos,SameP a a
 | none=>trivial
 | some x=>List.Perm.refl x
theorem SameP.trans:∀ {a b c:Option Mos},SameP a b→SameP b c→SameP a c
 | none,none,none,_,_=>trivial
 | some _,some _,some _,h,h2=>List.Perm.trans h h2
 | none,some _,_,h,_=>h.elim
 | some _,none,_,h,_=>h.elim
 | none,none,some _,_,h=>h.elim
 | some _,some _,none,_,h=>h.elim
theorem monosP_perm (n:Nat) (args:List Mos) {ms ms':Mos} (h:ms.Perm ms'):SameP (monosP n args ms) (monosP n args ms'):=by
 induction h with
 | nil=>exact .refl _
 | cons m _ ih =>
  rw [monosP,monosP]
  cases monoP n m args with
  | none=>exact trivial
  | some x =>
   revert ih
   rename_i a b _
   cases monosP n args a <;> cases monosP n args b <;> intro ih
   ·exact trivial
   ·exact ih.elim
   ·exact ih.elim
   ·exact List.Perm.append_left x ih
 | swap a b r =>
  simp only [monosP]
  cases monoP n a args with
  | none=>cases monoP n b args <;> exact trivial
  | some x =>
   cases monoP n b args with
   | none=>cases monosP n args r <;> exact trivial
   | some y =>
    cases monosP n args r with
    | none=>exact trivial
    | some xs =>
     show (y++(x++xs)).Perm (x++(y++xs))
     rw [← List.append_assoc,← List.append_assoc]
     exact List.Perm.append_right xs List.perm_append_comm
 | trans _ _ ih1 ih2=>exact ih1.trans ih2
theorem mul_coef {a b c:Mos} (h:mulP a b=some c):∀ x∈c,x.coef≤ovr:=by
 unfold mulP at h
 split at h
 ·cases h
 ·cases h
  exact addsP_coef (pairsP_coef a b) fun x hx=>by simp at hx
theorem pow_coef {p:Mos}:∀ (k:Nat) (x y:Mos),(∀ z∈x,z.coef≤ovr)→powP p k x=some y→∀ z∈y,z.coef≤ovr
 | 0,x,y,hx,h=>by cases h; exact hx
 | k+1,x,y,hx,h=>by
  rw [powP] at h
  cases hm:mulP x p with
  | none=>rw [hm] at h; cases h
  | some w=>rw [hm] at h; exact pow_coef k w y (mul_coef hm) h
theorem chain_coef:∀ (es:List Int) (ps:List Mos) (x y:Mos),(∀ z∈x,z.coef≤ovr)→chainP es ps x=some y→∀ z∈y,z.coef≤ovr
 | [],ps,x,y,hx,h=>by
  have e:chainP [] ps x=some x:=by cases ps <;> rfl
  rw [e] at h; cases h; exact hx
 | e::es,[],x,y,hx,h=>by cases h; exact hx
 | e::es,p::ps,x,y,hx,h=>by
  rw [chainP] at h
  cases hm:powP p e.toNat x with
  | none=>rw [hm] at h; cases h
  | some w=>rw [hm] at h; exact chain_coef es ps w y (pow_coef _ x w hx hm) h
theorem monos_coef (n:Nat) (args:List Mos):∀ (ms xs:Mos),(∀ m∈ms,m.coef≤ovr)→monosP n args ms=some xs→∀ z∈xs,z.coef≤ovr
 | [],xs,_,h=>by cases h; intro z hz; simp at hz
 | m::ms,xs,hc,h=>by
  rw [monosP] at h
  cases hm:monoP n m args with
  | none=>rw [hm] at h; cases h
  | some x =>
   rw [hm] at h
   have h:(match monosP n args ms with | none=>none | some ys=>some (x++ys))=some xs:=h
   cases hq:monosP n args ms with
   | none=>rw [hq] at h; cases h
   | some ys =>
    rw [hq] at h
    cases h
    intro z hz
    rcases List.mem_append.1 hz with hz | hz
    ·unfold monoP at hm
     split at hm
     ·cases hm; simp at hz
     ·exact chain_coef m.exps args _ x (fun w hw=>by have:w=⟨m.coef,zerosE n⟩:=(by simpa using hw); rw [this]; exact hc m (by simp)) hm z hz
    ·exact monos_coef n args ms ys (fun w hw=>hc w (by simp [hw])) hq z hz
theorem insertP_perm (n:Nat) (args:List Mos) {ms ms':Mos} (h:ms.Perm ms') (hc:∀ m∈ms,m.coef≤ovr):insertP n args ms []=insertP n args ms' []:=by
 rw [insertP_end n args ms [] rfl,insertP_end n args ms' [] rfl]
 have hs:=monosP_perm n args h
 cases h1:monosP n args ms with
 | none =>
  cases h2:monosP n args ms' with
  | none=>rfl
  | some y=>rw [h1,h2] at hs; exact hs.elim
 | some x =>
  cases h2:monosP n args ms' with
  | none=>rw [h1,h2] at hs; exact hs.elim
  | some y =>
   rw [h1,h2] at hs
   have hp:x.Perm y:=hs
   show (if largeP (addsP [] x) then none else some (addsP [] x))=if largeP (addsP [] y) then none else some (addsP [] y)
   rw [addsP_perm hp [] (monos_coef n args ms x hc h1) fun z hz=>by simp at hz]
end Go.Proofs.YthhnadeoioeniaaGreat
namespace Go.Proofs.YthhnadeoioeniaaGreat
structure MI (n:Nat) (out:Pm) (pre:Mos):Prop where
 rep:RepM out (addsP [] pre)
 small:SmallP n (addsP [] pre)
 fine:largeP (addsP [] pre)=false
theorem MI.start (n:Nat):MI n [] []:=⟨.refl _,fun x hx=>by simp [addsP] at hx,rfl⟩
theorem MI.sort {n:Nat} {out:Pm} {pre:Mos} (h:MI n out pre):SortP (addsP [] pre):=addsP_sort (by simp [SortP])
theorem split_perm {α:Type} {pre rest l:List α} {x:α} (hp:(pre++x::rest).Perm l):((pre++[x])++rest).Perm l:=by
 rw [List.append_assoc]; exact hp
theorem MI.add {n:Nat} (hn:n≤65536) {a b:Mos} {out:Pm} {pre rest:Mos} {x:Mo} (h:MI n out pre) (hx:SmallP n [x]) (hp:(pre++x::rest).Perm (pairsP a b)) :
  (lookP out (keyB x.exps)+x.coef≤maxV∧(setP out (keyB x.exps) (lookP out (keyB x.exps)+x.coef)).length≤4096→MI n (setP out (keyB x.exps) (lookP out (keyB x.exps)+x.coef)) (pre++[x])) ∧
  (¬ (lookP out (keyB x.exps)+x.coef≤maxV∧(setP out (keyB x.exps) (lookP out (keyB x.exps)+x.coef)).length≤4096)→mulP a b=none):=by
 obtain ⟨r1,r2⟩:=rep_add hn h.sort h.rep h.small hx
 constructor
 ·rintro ⟨h1,h2⟩
  obtain ⟨r3,r4⟩:=r2 h1
  rw [decide_eq_true h1,decide_eq_true h2] at r1
  refine ⟨?_,?_,?_⟩
  ·rw [addsP_snoc]; exact r3
  ·rw [addsP_snoc]; exact r4
  ·rw [addsP_snoc,r1]; rfl
 ·intro h3
  have hl:largeP (addP (addsP [] pre) x)=true:=by
   rw [r1,Bool.not_eq_true',Bool.and_eq_false_iff,decide_eq_false_iff_not,decide_eq_false_iff_not]
   by_cases h1:lookP out (keyB x.exps)+x.coef≤maxV
   ·exact .inr fun h2=>h3 ⟨h1,h2⟩
   ·exact .inl h1
  exact mul_fail (split_perm hp) (by rw [addsP_snoc]; exact hl)
theorem MI.big {a b:Mos} {pre rest:Mos} {x y:Mo} (hp:(pre++mulMo x y::rest).Perm (pairsP a b)) (h:expsOk (addE x.exps y.exps)=false∨¬ x.coef*y.coef≤maxV):mulP a b=none:=by
 have hb:bigMo (mulMo x y)=true:=by
  rw [mulMo_big,Bool.not_eq_true',Bool.and_eq_false_iff]
  exact h.imp id fun h=>decide_eq_false h
 exact mul_fail (split_perm hp) (by rw [addsP_snoc]; exact addP_largem hb _)
theorem MI.done {n:Nat} {a b:Mos} {out:Pm} {pre:Mos} (h:MI n out pre) (hp:pre.Perm (pairsP a b)):mulP a b=some (addsP [] pre)∧RepM out (addsP [] pre)∧SmallP n (addsP [] pre) :=
 ⟨mul_done hp h.fine,h.rep,h.small⟩
end Go.Proofs.YthhnadeoioeniaaGreat
namespace Go.Proofs.YthhnadeoioeniaaGreat
open Go Go.Abs
theorem zeroRow_int (n:Nat):zeroRow [.int .i64] n=encP (zerosE n):=by
 unfold zeroRow encP zerosE
 rw [List.map_replicate]
 rfl
theorem encP_set (m:List Int) (j:Nat) (v:Int) (h:j<m.length):(encP m).set j (setV ((encP m).getD j []) 0 [V.i v])=encP (m.set j v):=by
 rw [encP_getD _ _ h,encP,encP,List.map_set]; rfl
theorem unitE_set (n i:Nat) (h:i<n):(zerosE n).set i 1=unitE n i:=by
 refine List.ext_getElem (by simp [zerosE,unitE]) fun j h1 h2=>?_
 have e1:(unitE n i)[j]=if j=i then 1 else 0:=by simp [unitE]
 have e2:((zerosE n).set i 1)[j]=if i=j then 1 else 0:=by simp [zerosE,List.getElem_set]
 rw [e1,e2]
 by_cases e:i=j
 ·rw [if_pos e,if_pos e.symm]
 ·rw [if_neg e,if_neg (fun h=>e h.symm)]
theorem zerosE_length (n:Nat):(zerosE n).length=n:=List.length_replicate
theorem unitE_length (n i:Nat):(unitE n i).length=n:=by simp [unitE]
theorem r08_unit_ok (n i:Nat) (hi:i<n) (hn:n≤1048576):Fn Zgm [iD n,iD i] (psD (unitE n i)):=fun Q hQ=>by
 refine Zpn _ _ _ ?_
 unfold ZmN
 simp only [zeroRow_int,encP_length,zerosE_length,Int.toNat_natCast]
 rw [encP_set _ _ _ (by rw [zerosE_length]; exact hi),unitE_set n i hi,encP_length,unitE_length]
 exact ⟨by omega,trivial,by unfold lim; omega,trivial,by omega,by omega,trivial,hi,rfl,hQ⟩
def defP (n:Nat):Mos:=(List.range n).reverse.map fun i=>⟨1,unitE n i⟩
theorem defP_length (n:Nat):(defP n).length=n:=by simp [defP]
theorem defP_take (n k:Nat) (h:k<n):(defP n).take (k+1)=(defP n).take k++[⟨1,unitE n (n - 1 - k)⟩]:=by
 rw [List.take_succ_eq_append_getElem (by rw [defP_length]; exact h)]
 congr 1
 simp [defP]
def entK (y:Pl) (n:Nat):Mos×Bool:=(y.monos,y.monos.isEmpty||decide ((y.monos.headD ⟨0,[]⟩).exps.length=n))
theorem entPl_some {l:Pls} {x:ByteArray} {n:Nat} {y:Pl} (h:l.find? (fun y=>decide (y.name=x))=some y):entPl l x n=entK y n:=by unfold entPl; rw [h]; rfl
theorem entPl_none {l:Pls} {x:ByteArray} {n:Nat} (h:l.find? (fun y=>decide (y.name=x))=none):entPl l x n=(defP n,true):=by unfold entPl; rw [h]; rfl
theorem find_first {l:Pls} {x:ByteArray} {k:Nat} (hk:k<l.length) (h:(l[k]).name=x) (hn:∀ i (hi:i<l.length),i<k→(l[i]).name≠x):l.find? (fun y=>decide (y.name=x))=some l[k]:=by
 rw [List.find?_eq_some_iff_append]
 refine ⟨decide_eq_true h,l.take k,l.drop (k+1),?_,fun y hy=>?_⟩
 ·rw [← List.drop_eq_getElem_cons hk,List.take_append_drop]
 ·obtain ⟨i,hi,rfl⟩:=List.mem_take_iff_getElem.1 hy
  have:=hn i (by omega) (by omega)
  simp only [Bool.not_eq_true',decide_eq_false_iff_not]
  exact this
theorem r08_Entry_ok (l:Pls) (x:ByteArray) (n:Nat) (hn:n≤1048576):Fn Zd8 [plsD l,sD x,iD n] (.tup [msD (entPl l x n).1,bD (entPl l x n).2]):=fun Q hQ=>by
 refine Zpb _ _ _ _ fun hb=>?_
 rw [encPls_length] at hb ⊢
 refine Zk6 Q _ _ _ _ hb (fun k=>∀ i (hi:i<l.length),i<k→(l[i]).name≠x) (fun k hk hJ K hK=>?_) (fun hJ=>?_) 0 (Nat.zero_le _) (fun i _ hi=>by omega)
 ·simp only [encPls_getD _ k hk,List.drop_zero,List.drop_succ_cons,List.headD_cons,List.tail_cons,encPls_length,V.str]
  refine ⟨by omega,by omega,?_⟩
  rw [ba_beq]
  refine iff_dec (fun h=>?_) (fun h=>hK fun i hi hik=>?_)
  ·rw [entPl_some (find_first hk h hJ)] at hQ
   unfold entK at hQ
   generalize l[k]=y at hQ
   have e1:((V.list (V.l (encMos y.monos))).length:Int)=y.monos.length:=by show ((encMos _).length:Int)=_; rw [encMos_length]
   rw [e1]
   cases hm:y.monos with
   | nil =>
    rw [hm] at hQ
    exact iff_yes rfl ⟨⟨trivial,trivial,trivial⟩,hQ⟩
   | cons z r =>
    rw [hm] at hQ
    refine iff_no (by show (((z::r).length:Int) == 0)=false; simp; omega) ⟨by omega,by show (0:Int)<((z::r).length:Int); simp,⟨trivial,trivial,trivial⟩,?_⟩
    have e2:(V.list (V.l (encMos (z::r)))).getD ((0:Int)).toNat []=[.i z.coef,.l (encP z.exps)]:=rfl
    rw [e2]
    have e3:((V.list (V.l (encP z.exps))).length:Int)=z.exps.length:=by show ((encP _).length:Int)=_; rw [encP_length]
    simp only [List.drop_succ_cons,List.drop_zero,List.headD_cons,e3]
    have e4:(((z.exps.length:Nat):Int) == (n:Int))=((z::r).isEmpty||decide (((z::r).headD ⟨0,[]⟩).exps.length=n)):=by
     show _=decide (z.exps.length=n)
     rw [Bool.eq_iff_iff,beq_iff_eq,decide_eq_true_iff]; omega
    rw [e4]
    exact hQ
  ·rcases Nat.lt_succ_iff_lt_or_eq.1 hik with h8 | h8
   ·exact hJ i hi h8
   ·subst h8; exact h
 ·have hno:l.find? (fun y=>decide (y.name=x))=none:=by
   rw [List.find?_eq_none]
   intro y hy
   obtain ⟨i,hi,rfl⟩:=List.mem_iff_getElem.1 hy
   have:=hJ i hi hi
   simpa using this
  rw [entPl_none hno] at hQ
  rw [wrap_in _ (by omega) (by omega)]
  refine ZlB Q (fun x2 x10 x11 y53=>x2=n∧∃ k:Nat,k≤n∧x11=(n:Int) - 1 - k∧y53=encMos ((defP n).take k)∧x10=y53.length) (fun x2 x10 x11 y53=>(x11+1).toNat) (fun x2 x10 x11 y53 hI m hK=>?_) _ _ _ _ ⟨rfl,0,Nat.zero_le _,by omega,rfl,rfl⟩
  obtain ⟨rfl,k,hk,rfl,rfl,rfl⟩:=hI
  unfold Zf1
  have hlen:(encMos ((defP n).take k)).length=k:=by rw [encMos_length,List.length_take,defP_length]; omega
  refine iff_dec (fun h=>?_) (fun h=>⟨⟨rfl,trivial,trivial⟩,?_⟩)
  ·have e:(n:Int) - 1 - k=((n - 1 - k:Nat):Int):=by omega
   rw [e]
   refine r08_unit_ok n (n - 1 - k) (by omega) hn _ ⟨rfl,rfl,rfl,by rw [hlen]; show k+1≤lim; unfold lim; omega,?_⟩
   rw [wrap_in _ (by omega) (by omega)]
   refine hK _ _ _ _ ⟨rfl,k+1,by omega,by omega,?_,?_⟩ (by omega)
   ·rw [defP_take n k (by omega),encMos_append]; rfl
   ·rw [List.length_append]
  ·rw [List.take_of_length_le (by rw [defP_length]; omega)]
   exact hQ
theorem addP_at:∀ {l:Mos} {m:Mo} {k:Nat},(∀ i (h:i<l.length),i<k→cmpE (l[i]).exps m.exps = -1)→k≤l.length→addP l m=l.take k++addP (l.drop k) m
 | _,_,0,_,_=>by simp
 | [],_,k+1,_,h=>by simp at h
 | x::l,m,k+1,h,hk=>by
  have h0:cmpE x.exps m.exps = -1:=h 0 (by simp) (by omega)
  rw [addP_lt h0,List.take_succ_cons,List.drop_succ_cons,List.cons_append]
  rw [addP_at (l:=l) (k:=k) (fun i hi hik=>h (i+1) (by simpa using hi) (by omega)) (by simpa using hk)]
theorem addP_end {l:Mos} {m:Mo} {k:Nat} (h:∀ i (h:i<l.length),i<k→cmpE (l[i]).exps m.exps = -1) (hk:k≤l.length) (hn:∀ h:k<l.length,cmpE (l[k]).exps m.exps=1):addP l m=l.take k++[m]++l.drop k:=by
 rw [addP_at h hk]
 by_cases hl:k<l.length
 ·rw [List.drop_eq_getElem_cons hl,addP_gt (hn hl)]; simp
 ·rw [List.drop_of_length_le (by omega)]; simp [addP]
theorem addP_same {l:Mos} {m:Mo} {k:Nat} (h:∀ i (h:i<l.length),i<k→cmpE (l[i]).exps m.exps = -1) (hk:k<l.length) (hn:cmpE (l[k]).exps m.exps=0):addP l m=l.set k ⟨plusP (l[k]).coef m.coef,(l[k]).exps⟩:=by
 rw [addP_at h (by omega),List.drop_eq_getElem_cons hk,addP_eq hn,List.set_eq_take_append_cons_drop,if_pos hk]
theorem r08_add_ok (l:Mos) (m:Mo) (hl:l.length≤1048576) (hc:∀ x∈l,x.coef≤ovr) (hm:m.coef≤ovr):Fn Zgi [msD l,moD m] (msD (addP l m)):=fun Q hQ=>by
 refine Zpq _ _ _ _ ?_
 unfold ZnS
 refine ZnD Q (fun x0 x5 y0 y1=>x0=encMos l∧y0=m.coef∧y1=encP m.exps∧∃ k:Nat,x5=k∧k≤l.length∧∀ i (h:i<l.length),i<k→cmpE (l[i]).exps m.exps = -1) (fun x0 x5 y0 y1=>(l.length - x5).toNat) (fun x0 x5 y0 y1 hI m0 hK=>?_) _ _ _ _ ⟨rfl,rfl,rfl,0,rfl,Nat.zero_le _,fun i _ hi=>by omega⟩
 obtain ⟨rfl,rfl,rfl,k,rfl,hk,hJ⟩:=hI
 unfold ZhH
 rw [encMos_length,Int.toNat_natCast]
 have el:(0+(encMos l).length)=l.length:=by rw [encMos_length]; omega
 have ins:(∀ h:k<l.length,cmpE (l[k]).exps m.exps=1)→Zbs Q (encMos l) k false m.coef (encP m.exps):=fun h=>by
  rw [ZiA]
  unfold Zhs
  rw [addP_end hJ hk h] at hQ
  have t0:((encMos l).take ((k:Int)).toNat).drop ((0:Int)).toNat=encMos (l.take k):=by rw [Int.toNat_natCast,← encMos_take]; rfl
  have t1:((encMos l).take (((encMos l).length:Nat):Int).toNat).drop ((k:Int)).toNat=encMos (l.drop k):=by rw [Int.toNat_natCast,Int.toNat_natCast,List.take_length,← encMos_drop]
  have t2:(([]:LL)++encMos (l.take k))++[[V.i (m.coef:Int),V.l (encP m.exps)]]++encMos (l.drop k)=encMos (l.take k++[m]++l.drop k):=by rw [encMos_append,encMos_append]; rfl
  have h1:(encMos (l.take k)).length=k:=by rw [encMos_length,List.length_take]; omega
  have h2:(encMos (l.drop k)).length=l.length - k:=by rw [encMos_length,List.length_drop]
  rw [iff_f,t0,t1,t2,h1,h2]
  simp only [encMos_length,List.length_append,List.length_take,List.length_drop,List.length_nil,List.length_cons]
  refine ⟨by omega,by omega,by omega,trivial,by unfold lim; omega,by omega,by unfold lim; omega,by omega,by omega,by omega,by omega,by unfold lim; omega,by omega,hQ⟩
 have upd:∀ h:k<l.length,cmpE (l[k]).exps m.exps=0→Zbs Q (encMos l) k true m.coef (encP m.exps):=fun h h0=>by
  rw [ZiA]
  unfold Zhs
  rw [addP_same hJ h h0] at hQ
  have hck:=hc _ (List.getElem_mem h)
  rw [iff_t]
  simp only [List.nil_append,Int.toNat_natCast,encMos_getD l k h,List.drop_zero,List.headD_cons,el]
  have hck2:(l[k]).coef≤4611686018427387905:=hck
  have hm2:m.coef≤4611686018427387905:=hm
  refine ⟨rfl,by unfold lim; omega,by omega,by rw [encMos_length]; omega,r08_Plus_ok _ _ (by omega) _ ⟨rfl,rfl,encMos_length l,by omega,by omega,encMos_length l,h,encMos_length l,h,?_,?_⟩⟩
  ·rw [List.length_set,encMos_length]
  ·have e:(encMos l).set k (setV [V.i ((l[k]).coef:Int),V.l (encP (l[k]).exps)] 0 [(wD (plusP (l[k]).coef m.coef)).V])=encMos (l.set k ⟨plusP (l[k]).coef m.coef,(l[k]).exps⟩):=by
    rw [encMos,encMos,List.map_set]; rfl
   rw [e]; exact hQ
 have fin:(∀ h:k<l.length,cmpE (l[k]).exps m.exps≠-1)→iff (decide ((k:Int)<(l.length:Int))) (0≤(k:Int)∧(k:Int)<((l.length:Nat):Int)∧cl Zaf [.v (.sl ZA) (((encMos l).getD k []).drop 1 |>.headD V.none),.v (.sl ZA) (V.l (encP m.exps))] [] fun r H=>r=(.v (.int .i64) (r.V))∧H=[]∧Zbs Q (encMos l) k (r.V.int == (0:Int)) m.coef (encP m.exps)) (Zbs Q (encMos l) k false m.coef (encP m.exps)):=fun hne=>by
  refine iff_dec (fun h=>?_) (fun h=>ins fun h'=>by omega)
  have h:k<l.length:=by omega
  simp only [encMos_getD l k h,List.drop_succ_cons,List.drop_zero,List.headD_cons]
  refine ⟨by omega,by omega,r08_compareExps_ok _ _ _ ⟨rfl,rfl,?_⟩⟩
  show Zbs Q (encMos l) k (cmpE (l[k]).exps m.exps == 0) m.coef (encP m.exps)
  rcases cmpE_cases (l[k]).exps m.exps with g | g | g
  ·exact absurd g (hne h)
  ·rw [g]; exact upd h g
  ·rw [g]; exact ins fun _=>g
 refine iff_dec (fun h=>?_) (fun h=>fin fun h'=>by omega)
 have h:k<l.length:=by omega
 have fin2:=fin
 simp only [encMos_getD l k h,List.drop_succ_cons,List.drop_zero,List.headD_cons] at fin2 ⊢
 refine ⟨by omega,by omega,r08_compareExps_ok _ _ _ ⟨rfl,rfl,iff_dec (fun h2=>?_) (fun h2=>fin2 fun _=>?_)⟩⟩
 ·have h2:cmpE (l[k]).exps m.exps<0:=h2
  rw [wrap_in _ (by omega) (by omega)]
  refine hK _ _ _ _ ⟨rfl,rfl,rfl,k+1,by omega,by omega,fun i hi hik=>?_⟩ (by omega)
  rcases Nat.lt_succ_iff_lt_or_eq.1 hik with h8 | h8
  ·exact hJ i hi h8
  ·subst h8
   rcases cmpE_cases (l[i]).exps m.exps with g | g | g
   ·exact g
   ·omega
   ·omega
 ·have h2:¬ cmpE (l[k]).exps m.exps<0:=h2
  omega
theorem r08_large_ok (l:Mos):Fn Ze2 [msD l] (bD (largeP l)):=fun Q hQ=>by
 refine Zpc _ _ fun hb=>?_
 rw [encMos_length] at hb ⊢
 unfold largeP at hQ
 refine iff_dec (fun h=>⟨trivial,?_⟩) (fun h _=>?_)
 ·rw [decide_eq_true (by omega:4096<l.length)] at hQ; exact hQ
 rw [decide_eq_false (by omega:¬ 4096<l.length),Bool.false_or] at hQ
 refine Zks Q _ _ hb (fun k=>(l.take k).any bigMo=false) (fun k hk hJ m hK=>?_) (fun hJ=>⟨trivial,?_⟩) 0 (Nat.zero_le _) rfl
 ·have yes:bigMo l[k]=true→True∧Q (bD true) []:=fun h=>by
   rw [List.any_eq_true.2 ⟨_,List.getElem_mem hk,h⟩] at hQ; exact ⟨trivial,hQ⟩
  have next:bigMo l[k]=false→Zbp Q m (encMos l) (l.length:Int) (IntKind.i64.wrap ((k:Int)+(1:Int))):=fun h=>hK (any_take hk hJ h)
  simp only [encMos_getD l k hk,List.drop_zero,List.drop_succ_cons,List.headD_cons,List.tail_cons,encMos_length]
  generalize l[k]=x at yes next
  refine ⟨by omega,by omega,?_⟩
  refine iff_intro ?_ ?_
  ·intro h1
   have h1:((x.coef:Nat):Int) > 4611686018427387904:=of_decide_eq_true h1
   refine yes ?_
   unfold bigMo
   rw [decide_eq_true (show maxV<x.coef by show 4611686018427387904<x.coef; omega)]; rfl
  intro h1
  have h1:¬ ((x.coef:Nat):Int) > 4611686018427387904:=of_decide_eq_false h1
  have hx:bigMo x=x.exps.any fun n=>decide (1048576<n):=by
   unfold bigMo
   rw [decide_eq_false (show ¬ maxV<x.coef by show ¬ 4611686018427387904<x.coef; omega),Bool.false_or]
  show (encP x.exps).length≤big→∃ m1,ZbW Q m m1 _ _ _ _ ((encP x.exps).length:Int) 0
  rw [encP_length]
  intro hb3
  refine Zk7 Q m _ _ _ _ _ hb3 (fun j=>((x.exps.take j).any fun n=>decide (1048576<n))=false) (fun j hj hJ3 K hK3=>?_) (fun hJ3=>next ?_) 0 (Nat.zero_le _) rfl
  ·have hg:(V.list (V.l (encP x.exps))).getD j []=[V.i x.exps[j]]:=encP_getD _ j hj
   simp only [hg,List.drop_zero,List.headD_cons]
   refine ⟨by omega,by show (j:Int)<((encP x.exps).length:Int); rw [encP_length]; omega,iff_dec (fun h3=>yes ?_) (fun h3=>hK3 (any_take hj hJ3 ?_))⟩
   ·have h3:x.exps[j] > 1048576:=h3
    rw [hx]
    exact List.any_eq_true.2 ⟨_,List.getElem_mem hj,decide_eq_true h3⟩
   ·have h3:¬ x.exps[j] > 1048576:=h3
    exact decide_eq_false h3
  ·rw [hx,← hJ3,List.take_length]
 ·rw [List.take_length] at hJ
  rw [hJ] at hQ; exact hQ
def constP:Mos→Nat
 | []=>0
 | x::l=>if (x.exps.all fun e=>decide (e=0))=true then x.coef else constP l
theorem constP_take:∀ {l:Mos} {k:Nat} (hk:k<l.length),(∀ i (h:i<l.length),i<k→((l[i]).exps.all fun e=>decide (e=0))=false)→((l[k]).exps.all fun e=>decide (e=0))=true→constP l=(l[k]).coef
 | [],_,hk,_,_=>by simp at hk
 | y::r,0,_,_,h=>by
  have h:(y.exps.all fun e=>decide (e=0))=true:=h
  rw [constP,if_pos h]; rfl
 | y::r,k+1,hk,hJ,h=>by
  have h0:(y.exps.all fun e=>decide (e=0))=false:=hJ 0 (by simp) (by omega)
  rw [constP,if_neg (by rw [h0]; simp)]
  exact constP_take (l:=r) (k:=k) (by simpa using hk) (fun i hi hik=>hJ (i+1) (by simpa using hi) (by omega)) h
theorem constP_none:∀ {l:Mos},(∀ y∈l,(y.exps.all fun e=>decide (e=0))=false)→constP l=0
 | [],_=>rfl
 | y::r,h=>by rw [constP,if_neg (by rw [h y (by simp)]; simp),constP_none fun z hz=>h z (by simp [hz])]
theorem zeros_iff {n:Nat}:∀ {e:List Int},e.length=n→((e.all fun e=>decide (e=0))=true↔e=zerosE n):=fun {e} h=>by
 rw [List.all_eq_true]
 unfold zerosE
 rw [List.eq_replicate_iff]
 exact ⟨fun h2=>⟨h,fun b hb=>of_decide_eq_true (h2 b hb)⟩,fun h2 x hx=>decide_eq_true (h2.2 x hx)⟩
theorem constP_eq {n:Nat}:∀ {l:Mos},LenP n l→constP l=coefP l (zerosE n)
 | [],_=>rfl
 | x::l,h=>by
  rw [constP,coefP,constP_eq fun y hy=>h y (by simp [hy])]
  have:=zeros_iff (h x (by simp))
  by_cases h2:x.exps=zerosE n
  ·rw [if_pos (this.2 h2),if_pos h2]
  ·rw [if_neg (fun h3=>h2 (this.1 h3)),if_neg h2]
theorem r08_Constant_ok (l:Mos):Fn Zf5 [msD l] (wD (constP l)):=fun Q hQ=>by
 refine Zne _ _ fun hb=>?_
 rw [encMos_length] at hb ⊢
 refine Zh1 Q _ _ hb (fun k=>∀ i (h:i<l.length),i<k→((l[i]).exps.all fun e=>decide (e=0))=false) (fun k hk hJ m hK=>?_) (fun hJ=>⟨trivial,?_⟩) 0 (Nat.zero_le _) (fun i _ hi=>by omega)
 ·simp only [encMos_getD l k hk,List.drop_zero,List.drop_succ_cons,List.headD_cons,List.tail_cons,encMos_length]
  have yes:((l[k]).exps.all fun e=>decide (e=0))=true→True∧Q (wD (l[k]).coef) []:=fun h=>by rw [constP_take hk hJ h] at hQ; exact ⟨trivial,hQ⟩
  have next:((l[k]).exps.all fun e=>decide (e=0))=false→Zaz Q m (encMos l) (l.length:Int) (IntKind.i64.wrap ((k:Int)+(1:Int))):=fun h=>hK fun i hi hik=>by
   rcases Nat.lt_succ_iff_lt_or_eq.1 hik with h8 | h8
   ·exact hJ i hi h8
   ·subst h8; exact h
  generalize l[k]=x at yes next
  refine ⟨by omega,by omega,?_⟩
  show (encP x.exps).length≤big→∃ m1,ZaA Q m m1 true _ _ _ _ ((encP x.exps).length:Int) 0 _ _
  rw [encP_length]
  intro hb3
  refine Zh6 Q m _ _ _ _ _ _ _ hb3 (fun j b=>b=(x.exps.take j).all fun e=>decide (e=0)) (fun j b hj hJ3 K hK3=>?_) (fun b hJ3=>?_) 0 _ (Nat.zero_le _) rfl
  ·have hg:(V.list (V.l (encP x.exps))).getD j []=[V.i x.exps[j]]:=encP_getD _ j hj
   have e:((x.exps.take (j+1)).all fun e=>decide (e=0))=(((x.exps.take j).all fun e=>decide (e=0))&&decide (x.exps[j]=0)):=by
    rw [List.take_succ_eq_append_getElem hj,List.all_append]; simp
   simp only [hg,List.drop_zero,List.headD_cons]
   subst hJ3
   refine ⟨by omega,by show (j:Int)<((encP x.exps).length:Int); rw [encP_length]; omega,iff_intro (fun h3=>hK3 _ ?_) (fun h3=>hK3 _ ?_)⟩
   ·rw [e,h3,Bool.true_and,Bool.eq_iff_iff,beq_iff_eq,decide_eq_true_iff]; rfl
   ·rw [e,h3,Bool.false_and]
  ·rw [List.take_length] at hJ3
   subst hJ3
   exact iff_intro yes next
 ·rw [constP_none fun y hy=>by
   obtain ⟨i,hi,rfl⟩:=List.mem_iff_getElem.1 hy
   exact hJ i hi hi] at hQ
  exact hQ
end Go.Proofs.YthhnadeoioeniaaGreat
namespace Go.Proofs.YthhnadeoioeniaaGreat
open Go.Abs
def polyA (l:Pls) (vars:List ByteArray) (xs:List Tm):List Mos:=xs.map fun t=>(polyT l vars t).getD []
theorem polyL_all (l:Pls) (vars:List ByteArray):∀ xs:List Tm,(∀ t∈xs,polyT l vars t≠none)→polyL l vars xs=some (polyA l vars xs)
 | [],_=>rfl
 | t::r,h=>by
  rw [polyL]
  cases hp:polyT l vars t with
  | none=>exact absurd hp (h t (by simp))
  | some p =>
   rw [polyL_all l vars r fun a ha=>h a (by simp [ha])]
   show some (p::polyA l vars r)=some (polyA l vars (t::r))
   unfold polyA
   rw [List.map_cons,hp]; rfl
theorem polyL_bad (l:Pls) (vars:List ByteArray):∀ xs:List Tm,(∃ t∈xs,polyT l vars t=none)→polyL l vars xs=none
 | [],h=>by obtain ⟨t,ht,_⟩:=h; simp at ht
 | t::r,h=>by
  rw [polyL]
  cases hp:polyT l vars t with
  | none=>rfl
  | some p =>
   obtain ⟨a,ha,hn⟩:=h
   rcases List.mem_cons.1 ha with rfl | ha
   ·rw [hp] at hn; cases hn
   ·rw [polyL_bad l vars r ⟨a,ha,hn⟩]
theorem polyT_arg {l:Pls} {vars:List ByteArray} {t:Tm} (hv:t.var=false) (h:∃ a∈t.args,polyT l vars a=none):polyT l vars t=none:=by
 rw [polyT_eq,if_neg (by rw [hv]; simp),polyL_bad l vars _ h]
theorem polyT_args {l:Pls} {vars:List ByteArray} {t:Tm} (hv:t.var=false) (h:∀ a∈t.args,polyT l vars a≠none):polyT l vars t=insertP vars.length (polyA l vars t.args) (entPl l t.name t.args.length).1 []:=by
 rw [polyT_eq,if_neg (by rw [hv]; simp),polyL_all l vars _ h]
def GoodMo (n:Nat) (ms:Mos):Prop:=∀ m∈ms,m.exps.length=n∧0<m.coef∧m.coef≤1048576∧∀ e∈m.exps,0≤e∧e≤8
theorem unitE_vals (n i:Nat):∀ e∈unitE n i,0≤e∧e≤1:=fun e he=>by
 obtain ⟨j,_,rfl⟩:=List.mem_map.1 he
 split <;> omega
theorem mono_len {l:Mos} (h:monosE l=0):∀ m∈l,m.exps.length=(l.headD ⟨0,[]⟩).exps.length:=fun m hm=>by
 obtain ⟨_,hf,_⟩:=monosE_zero h
 obtain ⟨k,hk,rfl⟩:=List.mem_iff_getElem.1 hm
 have:=(form_len hf hk).2
 cases l with
 | nil=>simp at hk
 | cons x r=>exact this
theorem entPl_good {l:Pls} (hl:∀ y∈l,monosE y.monos=0) {x:ByteArray} {n:Nat} (hf:(entPl l x n).2=true):GoodMo n (entPl l x n).1:=fun m hm=>by
 obtain ⟨hc1,hc2⟩:=entPl_coef hl x n m hm
 refine ⟨?_,hc1,hc2,?_⟩
 ·unfold entPl at hf hm
  cases hy:l.find? fun y=>decide (y.name=x) with
  | none =>
   rw [hy] at hm
   obtain ⟨i,_,rfl⟩:=List.mem_map.1 hm
   simp [unitE]
  | some y =>
   rw [hy] at hf hm
   have hin:=List.mem_of_find?_eq_some hy
   have hf:(y.monos.isEmpty||decide ((y.monos.headD ⟨0,[]⟩).exps.length=n))=true:=hf
   have hm:m∈y.monos:=hm
   rw [mono_len (hl y hin) m hm]
   rw [Bool.or_eq_true,decide_eq_true_iff] at hf
   rcases hf with hf | hf
   ·rw [List.isEmpty_iff] at hf; rw [hf] at hm; simp at hm
   ·exact hf
 ·unfold entPl at hm
  cases hy:l.find? fun y=>decide (y.name=x) with
  | none =>
   rw [hy] at hm
   obtain ⟨i,_,rfl⟩:=List.mem_map.1 hm
   intro e he
   have:=unitE_vals n i e he
   omega
  | some y =>
   rw [hy] at hm
   have hin:=List.mem_of_find?_eq_some hy
   have hm:m∈y.monos:=hm
   obtain ⟨_,_,ha⟩:=monosE_zero (hl y hin)
   exact (arg_of (List.all_eq_true.1 ha m hm)).2.2
mutual
def fitsT (l:Pls):Tm→Bool | .mk x v xs=>v||((entPl l x xs.length).2&&fitsTL l xs)
def fitsTL (l:Pls):List Tm→Bool | []=>true | t::r=>fitsT l t&&fitsTL l r
end
theorem fitsTL_all (l:Pls):∀ xs:List Tm,fitsTL l xs=xs.all (fitsT l)
 | []=>rfl
 | t::r=>by rw [fitsTL,List.all_cons,fitsTL_all l r]
theorem fitsT_eq (l:Pls):∀ t:Tm,fitsT l t=(t.var||((entPl l t.name t.args.length).2&&t.args.all (fitsT l)))
 | .mk x v xs=>by rw [fitsT,fitsTL_all]; rfl
theorem polyT_small {l:Pls} (hl:∀ y∈l,monosE y.monos=0) {vars:List ByteArray} (hd:vars.Nodup) {t:Tm} (hv:∀ s∈t.pre,s.var=true→s.name∈vars) {c:Mos} (h:polyT l vars t=some c):SmallP vars.length c :=
 (term_val l (entPl_max hl) vars (List.replicate vars.length 0) (by rw [List.length_replicate]) hd t hv c h).1
theorem pre_arg {t a:Tm} (ha:a∈t.args) {s:Tm} (hs:s∈a.pre):s∈t.pre:=by
 rw [Tm.pre_eq,Tm.preL_eq]
 exact List.mem_cons_of_mem _ (List.mem_flatMap.2 ⟨a,ha,hs⟩)
theorem polyA_small {l:Pls} (hl:∀ y∈l,monosE y.monos=0) {vars:List ByteArray} (hd:vars.Nodup) {t:Tm} (hv:∀ s∈t.pre,s.var=true→s.name∈vars):∀ p∈polyA l vars t.args,SmallP vars.length p:=fun p hp=>by
 obtain ⟨a,ha,rfl⟩:=List.mem_map.1 hp
 cases h:polyT l vars a with
 | none=>intro x hx; simp at hx
 | some c=>exact polyT_small hl hd (fun s hs=>hv s (pre_arg ha hs)) h
theorem large_len {l:Mos} (h:largeP l=false):l.length≤4096:=by
 unfold largeP at h
 rw [Bool.or_eq_false_iff] at h
 have:=of_decide_eq_false h.1
 omega
theorem addE_getElem:∀ {l m:List Int} {k:Nat} (h:k<(addE l m).length) (h1:k<l.length) (h2:k<m.length),(addE l m)[k]=l[k]+m[k]
 | [],_,_,_,h1,_=>by simp at h1
 | _::_,[],_,_,_,h2=>by simp at h2
 | a::l,b::m,0,_,_,_=>rfl
 | a::l,b::m,k+1,h,h1,h2=>addE_getElem (l:=l) (m:=m) (k:=k) (by simpa [addE] using h) (by simpa using h1) (by simpa using h2)
def midE (e:List Int) (k:Nat):List Int:=e.take k++zerosE (e.length - k)
theorem midE_length (e:List Int) (k:Nat) (h:k≤e.length):(midE e k).length=e.length:=by
 unfold midE zerosE
 rw [List.length_append,List.length_take,List.length_replicate]; omega
theorem midE_set (e:List Int) (k:Nat) (h:k<e.length):(midE e k).set k e[k]=midE e (k+1):=by
 unfold midE zerosE
 have h1:(e.take k).length=k:=by rw [List.length_take]; omega
 rw [List.set_append_right _ _ (by rw [h1]; exact Nat.le_refl _),h1,Nat.sub_self,show e.length - k=(e.length - (k+1))+1 by omega,List.replicate_succ,List.set_cons_zero,List.take_succ_eq_append_getElem h,List.append_assoc]; rfl
theorem midE_end (e:List Int):midE e e.length=e:=by
 unfold midE zerosE
 rw [List.take_length,Nat.sub_self,List.replicate_zero,List.append_nil]
def preP (a b:Mos) (k j:Nat):Mos:=pairsP (a.take k) b++(match a[k]? with | some x=>(b.take j).map (mulMo x) | none=>[])
theorem preP_zero (a b:Mos):preP a b 0 0=[]:=by
 unfold preP pairsP
 cases a[0]? <;> simp
theorem preP_next {a b:Mos} {k j:Nat} (hk:k<a.length) (hj:j<b.length):preP a b k (j+1)=preP a b k j++[mulMo a[k] b[j]]:=by
 unfold preP
 rw [List.getElem?_eq_getElem hk]
 show _++(b.take (j+1)).map _=(_++(b.take j).map _)++_
 rw [List.take_succ_eq_append_getElem hj,List.map_append,List.append_assoc]; rfl
theorem preP_row {a b:Mos} {k:Nat} (hk:k<a.length):preP a b k b.length=preP a b (k+1) 0:=by
 unfold preP
 rw [List.getElem?_eq_getElem hk]
 have e:pairsP (a.take (k+1)) b=pairsP (a.take k) b++b.map (mulMo a[k]):=by
  unfold pairsP
  rw [List.take_succ_eq_append_getElem hk,List.flatMap_append]; simp
 rw [e]
 cases a[k+1]? <;> simp
theorem preP_end (a b:Mos):preP a b a.length 0=pairsP a b:=by
 unfold preP
 rw [List.take_length,List.getElem?_eq_none (Nat.le_refl _),List.append_nil]
theorem preP_rest {a b:Mos} {k j:Nat} (hk:k<a.length):∃ rest,preP a b k j++rest=pairsP a b:=by
 refine ⟨(b.drop j).map (mulMo a[k])++pairsP (a.drop (k+1)) b,?_⟩
 unfold preP
 rw [List.getElem?_eq_getElem hk]
 show (pairsP (a.take k) b++(b.take j).map (mulMo a[k]))++_=_
 rw [List.append_assoc,← List.append_assoc ((b.take j).map _),← List.map_append,List.take_append_drop]
 unfold pairsP
 have e:a=a.take k++a[k]::a.drop (k+1):=by rw [← List.drop_eq_getElem_cons hk,List.take_append_drop]
 have e2:=congrArg (List.flatMap fun x=>b.map (mulMo x)) e
 rw [List.flatMap_append,List.flatMap_cons] at e2
 exact e2.symm
theorem preP_fail {a b:Mos} {k j:Nat} (hk:k<a.length) (h:largeP (addsP [] (preP a b k j))=true):mulP a b=none:=by
 obtain ⟨rest,e⟩:=preP_rest (b:=b) (j:=j) hk
 exact mul_fail (rest:=rest) (e▸List.Perm.refl _) h
theorem addsP_length:∀ (ms l:Mos),(addsP l ms).length≤l.length+ms.length
 | [],l=>by simp [addsP]
 | m::ms,l=>by
  have h1:∀ l:Mos,(addP l m).length≤l.length+1:=fun l=>by
   induction l with
   | nil=>simp [addP]
   | cons x l ih =>
    rcases cmpE_cases x.exps m.exps with g | g | g
    ·rw [addP_lt g]; simp only [List.length_cons]; omega
    ·rw [addP_eq g]; simp
    ·rw [addP_gt g]; simp
  have h2:=addsP_length ms (addP l m)
  have h3:=h1 l
  show (addsP (addP l m) ms).length≤_
  rw [List.length_cons]; omega
theorem addsP_take {l:Mos} {xs:Mos} {j:Nat} (h:j<xs.length):addsP l (xs.take (j+1))=addP (addsP l (xs.take j)) xs[j]:=by
 rw [List.take_succ_eq_append_getElem h,addsP_snoc]
theorem smallP_coef {n:Nat} {l:Mos} (h:SmallP n l):∀ x∈l,x.coef≤ovr:=fun x hx=>by
 have:x.coef≤4611686018427387904:=(h x hx).2.1
 show x.coef≤4611686018427387905
 omega
theorem uV_unit:∀ {vars:List ByteArray} {i:Nat} (h:i<vars.length),vars.Nodup→uV vars vars[i]=unitE vars.length i:=fun {vars i} h hd=>by
 refine List.ext_getElem (by simp [uV,unitE]) fun j h1 h2=>?_
 have hj:j<vars.length:=by simpa [uV] using h1
 have e1:(unitE vars.length i)[j]=if j=i then 1 else 0:=by simp [unitE]
 have e2:(uV vars vars[i])[j]=if vars[j]=vars[i] then 1 else 0:=by simp [uV]
 rw [e1,e2]
 have hp:=List.pairwise_iff_getElem.1 hd
 have:vars[j]=vars[i]↔j=i:=⟨fun e=>by
  rcases Nat.lt_trichotomy j i with g | g | g
  ·exact absurd e (hp j i hj h g)
  ·exact g
  ·exact absurd e.symm (hp i j h hj g),fun e=>by subst e; rfl⟩
 by_cases e:j=i
 ·rw [if_pos (this.2 e),if_pos e]
 ·rw [if_neg (fun h=>e (this.1 h)),if_neg e]
end Go.Proofs.YthhnadeoioeniaaGreat
namespace Go.Proofs.YthhnadeoioeniaaGreat
open Go Go.Abs
theorem preP_coef (a b:Mos) (k j:Nat):∀ x∈preP a b k j,x.coef≤ovr:=fun x hx=>by
 unfold preP at hx
 rcases List.mem_append.1 hx with h | h
 ·exact pairsP_coef _ _ x h
 ·cases ha:a[k]? with
  | none=>rw [ha] at h; simp at h
  | some y =>
   rw [ha] at h
   obtain ⟨z,_,rfl⟩:=List.mem_map.1 h
   exact mulMo_coef y z
theorem r08_multiply_ok {n:Nat} (hn:n≤1048576) (a b:Mos) (ha:SmallP n a) (hb:SmallP n b):Fn ZfV [msD a,msD b] (.tup [msD ((mulP a b).getD []),bD (mulP a b).isSome]):=Fn.as fun Q hQ=>by
 refine Znd _ _ _ fun hba=>?_
 rw [encMos_length] at hba ⊢
 refine Zia Q _ _ _ hba (fun k x=>∃ o,o=addsP [] (preP a b k 0)∧x=V.l (encMos o)∧largeP o=false) (fun k x hk hJ m0 hK=>?_) (fun x hJ=>?_) 0 _ (Nat.zero_le _) ⟨[],by rw [preP_zero]; rfl,rfl,rfl⟩
 ·obtain ⟨o,ho,rfl,hlo⟩:=hJ
  simp only [encMos_getD a k hk,List.drop_zero,List.headD_cons,List.tail_cons,encMos_length]
  obtain ⟨⟨va1,va2⟩,va3,va4⟩:=ha _ (List.getElem_mem hk)
  refine ⟨by omega,by omega,fun hbb=>?_⟩
  refine Zig Q m0 _ _ _ _ _ _ _ _ hbb (fun j x=>∃ o,o=addsP [] (preP a b k j)∧x=V.l (encMos o)∧largeP o=false) (fun j x hj hJ m1 hK1=>?_) (fun x hJ=>?_) 0 _ (Nat.zero_le _) ⟨o,ho,rfl,hlo⟩
  ·obtain ⟨o,ho,rfl,hlo⟩:=hJ
   obtain ⟨⟨vb1,vb2⟩,vb3,vb4⟩:=hb _ (List.getElem_mem hj)
   simp only [encMos_getD b j hj,List.drop_zero,List.headD_cons,List.tail_cons,encMos_length]
   have e1:(V.l (encP (a[k]).exps)).list.length=(a[k]).exps.length:=encP_length _
   rw [e1,Int.toNat_natCast,va1]
   refine ⟨by omega,by omega,fun _=>⟨by omega,trivial,by unfold lim; omega,by rw [zeroRow_int,encP_length,zerosE_length],fun _=>?_⟩⟩
   have hl1:(addE (a[k]).exps (b[j]).exps).length=n:=by rw [addE_length _ _ (by rw [va1,vb1]),va1]
   rw [zeroRow_int,show zerosE n=midE (addE (a[k]).exps (b[j]).exps) 0 by unfold midE; rw [hl1]; rfl]
   have hmid:∀ i,i≤n→(midE (addE (a[k]).exps (b[j]).exps) i).length=n:=fun i hi=>by rw [midE_length _ _ (by rw [hl1]; exact hi),hl1]
   refine Zh3 Q m0 m1 _ _ _ _ _ _ _ _ _ _ _ _ _ n (by rw [big_eq]; omega) (fun i y=>y=encP (midE (addE (a[k]).exps (b[j]).exps) i)) (fun i y hi hJ K hK2=>?_) (fun y hJ=>?_) 0 _ (Nat.zero_le _) rfl
   ·subst hJ
    have hia:i<(a[k]).exps.length:=by omega
    have hib:i<(b[j]).exps.length:=by omega
    have g1:(V.list (V.l (encP (a[k]).exps))).getD i []=[V.i (a[k]).exps[i]]:=encP_getD _ i hia
    have g2:(V.list (V.l (encP (b[j]).exps))).getD i []=[V.i (b[j]).exps[i]]:=encP_getD _ i hib
    simp only [g1,g2,List.drop_zero,List.headD_cons,encP_length,hmid i (by omega)]
    have c1:=va2 _ (List.getElem_mem hia)
    have c2:=vb2 _ (List.getElem_mem hib)
    have c3:=va4 _ (List.getElem_mem hia)
    have c4:=vb4 _ (List.getElem_mem hib)
    refine ⟨by omega,by show (i:Int)<((encP _).length:Int); rw [encP_length]; omega,by omega,by show (i:Int)<((encP _).length:Int); rw [encP_length]; omega,trivial,by omega,by omega,trivial,hi,hK2 _ ?_⟩
    rw [wrap_in _ (by show -9223372036854775808≤(a[k]).exps[i]+(b[j]).exps[i]; omega) (by show (a[k]).exps[i]+(b[j]).exps[i]≤9223372036854775807; omega),encP_set _ _ _ (by rw [hmid i (by omega)]; exact hi)]
    show encP (List.set _ i ((a[k]).exps[i]+(b[j]).exps[i]))=_
    rw [← addE_getElem (l:=(a[k]).exps) (m:=(b[j]).exps) (k:=i) (by rw [hl1]; exact hi) hia hib,midE_set _ _ (by rw [hl1]; exact hi)]
   ·subst hJ
    have e2:midE (addE (a[k]).exps (b[j]).exps) n=addE (a[k]).exps (b[j]).exps:=by
     have:=midE_end (addE (a[k]).exps (b[j]).exps)
     rw [hl1] at this; exact this
    rw [e2,encP_length,hl1]
    have va3':(a[k]).coef≤4611686018427387904:=va3
    have vb3':(b[j]).coef≤4611686018427387904:=vb3
    refine ⟨rfl,r08_Times_ok _ _ (by omega) (by omega) _ ⟨rfl,rfl,?_⟩⟩
    have hol:=large_len hlo
    have hoc:∀ x∈o,x.coef≤ovr:=by rw [ho]; exact addsP_coef (preP_coef a b k j) (fun x hx=>by simp at hx)
    refine r08_add_ok o (mulMo a[k] b[j]) (by omega) hoc (mulMo_coef _ _) _ ⟨rfl,rfl,r08_large_ok _ _ ⟨rfl,rfl,?_⟩⟩
    have e3:addP o (mulMo a[k] b[j])=addsP [] (preP a b k (j+1)):=by rw [preP_next hk hj,addsP_snoc,← ho]
    refine iff_intro (fun h=>⟨⟨trivial,trivial,trivial⟩,?_⟩) (fun h=>?_)
    ·have h:largeP (addP o (mulMo a[k] b[j]))=true:=h
     rw [e3] at h
     rw [preP_fail hk h] at hQ
     exact hQ _ (.pair (.nil _ _ rfl) (.refl _))
    ·have h:largeP (addP o (mulMo a[k] b[j]))=false:=h
     exact hK1 _ ⟨_,e3,rfl,h⟩
  ·obtain ⟨o,ho,rfl,hlo⟩:=hJ
   exact hK _ ⟨o,by rw [ho,preP_row hk],rfl,hlo⟩
 ·obtain ⟨o,ho,rfl,hlo⟩:=hJ
  rw [preP_end] at ho
  rw [mul_done (List.Perm.refl _) (by rw [← ho]; exact hlo),← ho] at hQ
  exact ⟨⟨trivial,trivial,trivial⟩,hQ _ (.refl _)⟩
def encAs (ps:List Mos):LL:=ps.map fun p=>[V.l (encMos p)]
theorem encAs_length (ps:List Mos):(encAs ps).length=ps.length:=by simp [encAs]
theorem encAs_getD (ps:List Mos) (k:Nat) (h:k<ps.length):(encAs ps).getD k []=[V.l (encMos ps[k])]:=by
 rw [encAs,List.getD_eq_getElem?_getD,List.getElem?_map,List.getElem?_eq_getElem h]; rfl
theorem vanP_take:∀ {es:List Int} {ps:List Mos} {k:Nat} (h1:k<es.length) (h2:k<ps.length),vanP (es.drop k) (ps.drop k)=((decide (0<es[k])&&(ps[k]).isEmpty)||vanP (es.drop (k+1)) (ps.drop (k+1))):=fun {es ps k} h1 h2=>by
 rw [List.drop_eq_getElem_cons h1,List.drop_eq_getElem_cons h2]; rfl
theorem r08_vanishes_ok (m:Mo) (ps:List Mos) (hl:m.exps.length=ps.length) {Q:D→Heap→Prop} (hQ:Q (bD (vanP m.exps ps)) [.row Zab (encAs ps)]):cl Ze8 [moD m,.osl (.own 0) ps.length] [.row Zab (encAs ps)] Q:=by
 refine Znj _ _ _ _ _ fun hb=>?_
 rw [encP_length] at hb ⊢
 refine Zh8 Q _ _ _ _ hb (fun k=>vanP m.exps ps=vanP (m.exps.drop k) (ps.drop k)) (fun k hk hJ K hK=>?_) (fun hJ=>⟨trivial,?_⟩) 0 (Nat.zero_le _) rfl
 ·have hk2:k<ps.length:=by omega
  rw [vanP_take hk hk2] at hJ
  simp only [encP_getD _ k hk,encAs_getD ps k hk2,List.drop_zero,List.headD_cons,encP_length,encAs_length]
  refine ⟨by omega,by omega,iff_dec (fun h=>⟨trivial,by omega,by omega,trivial,hk2,fun _=>?_⟩) (fun h=>hK ?_)⟩
  ·have h:m.exps[k] > 0:=h
   have e:(V.l (encMos ps[k])).list.length=(ps[k]).length:=encMos_length _
   rw [e]
   refine iff_beq (fun h2=>⟨trivial,?_⟩) (fun h2=>hK ?_)
   ·have h3:(ps[k]).isEmpty=true:=by rw [List.isEmpty_iff]; exact List.eq_nil_of_length_eq_zero (by omega)
    rw [hJ,h3,decide_eq_true (show 0<m.exps[k] by omega)] at hQ
    exact hQ
   ·have h3:(ps[k]).isEmpty=false:=by
     rw [← Bool.not_eq_true,List.isEmpty_iff]
     intro h4; rw [h4] at h2; exact h2 rfl
    rw [hJ,h3,Bool.and_false,Bool.false_or]
  ·have h:¬ m.exps[k] > 0:=h
   rw [hJ,decide_eq_false (show ¬ 0<m.exps[k] by omega),Bool.false_and,Bool.false_or]
 ·rw [hJ,List.drop_length] at hQ
  exact hQ
theorem chainP_nil (ps:List Mos) (x:Mos):chainP [] ps x=some x:=by cases ps <;> rfl
theorem insertP_cons (n:Nat) (args:List Mos) (m:Mo) (ms out:Mos):insertP n args (m::ms) out=match monoP n m args with
  | none=>none
  | some x=>if largeP (addsP out x) then none else insertP n args ms (addsP out x):=rfl
theorem r08_insert_ok {N:Nat} (hN:N≤1048576) (p:Mos) (ps:List Mos) (hp:GoodMo ps.length p) (hs:∀ q∈ps,SmallP N q) {Q:D→Heap→Prop}
  (hQ:Q (.tup [msD ((insertP N ps p []).getD []),bD (insertP N ps p []).isSome]) [.row Zab (encAs ps)]):cl ZfU [msD p,.osl (.own 0) ps.length,iD N] [.row Zab (encAs ps)] Q:=by
 obtain ⟨R,hR⟩:∃ R,insertP N ps p []=R:=⟨_,rfl⟩
 rw [hR] at hQ
 refine ACalls.as ?_
 refine ZoG _ _ _ _ _ fun hb=>?_
 rw [encMos_length] at hb ⊢
 have no:R=none→(True∧True∧True)∧∃ r',As (.tup [.nil,.v .bool (V.b false)]) r'∧Q r' [.row Zab (encAs ps)]:=fun h=>by
  rw [h] at hQ
  exact ⟨⟨trivial,trivial,trivial⟩,_,.pair (.nil _ _ rfl) (.refl _),hQ⟩
 refine ZjD _ _ _ _ _ hb (fun k x h=>h=encAs ps∧∃ out,x=V.l (encMos out)∧SmallP N out∧largeP out=false∧R=insertP N ps (p.drop k) out) (fun k x h hk hJ m0 hK=>?_) (fun x h hJ=>?_) 0 _ _ (Nat.zero_le _) ⟨rfl,[],rfl,fun x hx=>by simp at hx,rfl,hR.symm⟩
 ·obtain ⟨rfl,out,rfl,so,lo,hRo⟩:=hJ
  rw [List.drop_eq_getElem_cons hk,insertP_cons] at hRo
  simp only [encMos_getD p k hk,List.drop_zero,List.headD_cons,List.tail_cons,encMos_length]
  obtain ⟨g1,g2,g3,g4⟩:=hp _ (List.getElem_mem hk)
  generalize p[k]=m at hRo g1 g2 g3 g4
  refine ⟨by omega,by omega,r08_vanishes_ok m ps g1 ⟨rfl,rfl,iff_intro (fun h=>hK _ _ ⟨rfl,out,rfl,so,lo,?_⟩) (fun h=>?_)⟩⟩
  ·have h:vanP m.exps ps=true:=h
   have hm:monoP N m ps=some []:=by unfold monoP; rw [if_pos h]
   rw [hm] at hRo
   have e:addsP out []=out:=rfl
   rw [hRo]
   show (if largeP (addsP out []) then none else insertP N ps _ (addsP out []))=_
   rw [e,lo]; rfl
  have h:vanP m.exps ps=false:=h
  have hm:monoP N m ps=chainP m.exps ps [⟨m.coef,zerosE N⟩]:=by unfold monoP; rw [if_neg (by rw [h]; simp)]
  rw [hm] at hRo
  have key:∀ B:Prop,B→(0≤((N:Nat):Int)∧True∧((N:Nat):Int)≤lim∧((N:Nat):Int).toNat=(zeroRow [.int .i64] ((N:Nat):Int).toNat).length∧B):=fun B hB =>
   ⟨by omega,trivial,by unfold lim; omega,by rw [zeroRow_int,encP_length,zerosE_length],hB⟩
  have main:(V.l (encP m.exps)).list.length≤big→∃ m1,Zau (fun r H'=>∃ r',As r r'∧Q r' H') m0 m1 ps.length N (V.l (encMos out)) (V.l [[V.i (m.coef:Nat),V.l (zeroRow [.int .i64] ((N:Nat):Int).toNat)]]) (encMos p) (p.length:Int) (k:Int) (V.l (encP m.exps)) (((V.l (encP m.exps)).list.length:Nat):Int) 0 (encAs ps):=by
   have e0:(V.l (encP m.exps)).list.length=m.exps.length:=encP_length _
   rw [e0]
   intro hb1
   refine Zjv _ m0 _ _ _ _ _ _ _ _ _ hb1 (fun i x=>∃ y,x=V.l (encMos y)∧SmallP N y∧y.length≤4096∧chainP m.exps ps [⟨m.coef,zerosE N⟩]=chainP (m.exps.drop i) (ps.drop i) y) (fun i x hi hJ m1 hK1=>?_) (fun x hJ=>?_) 0 _ (Nat.zero_le _)
    ⟨[⟨m.coef,zerosE N⟩],by rw [Int.toNat_natCast,zeroRow_int]; rfl,fun z hz=>?_,by simp,rfl⟩
   ·obtain ⟨y,rfl,sy,ly,hc⟩:=hJ
    have hi2:i<ps.length:=by omega
    have hg:(V.list (V.l (encP m.exps))).getD i []=[V.i m.exps[i]]:=encP_getD _ i hi
    simp only [hg,List.drop_zero,List.headD_cons]
    refine ⟨by omega,by show (i:Int)<((encP _).length:Int); rw [encP_length]; omega,?_⟩
    have he:=g4 _ (List.getElem_mem hi)
    rw [List.drop_eq_getElem_cons hi,List.drop_eq_getElem_cons hi2] at hc
    generalize hev:m.exps[i]=e at hc he
    have hc:chainP m.exps ps [⟨m.coef,zerosE N⟩]=(powP ps[i] e.toNat y).bind (chainP (m.exps.drop (i+1)) (ps.drop (i+1))):=hc
    refine Zkx _ m0 m1 (fun a1 a2 a3 a4 a5 a6 a7 a8 a9 a10 a11 a12 a13 a14=>a1=ps.length∧a2=N∧a3=V.l (encMos out)∧a5=(i:Int)∧a6=encMos p∧a7=(p.length:Int)∧a8=(k:Int)∧a9=V.l (encP m.exps)∧a10=(m.exps.length:Int)∧a11=(i:Int)∧a12=V.i e∧a14=encAs ps ∧
     ∃ (j:Nat) (z:Mos),a13=j∧j≤e.toNat∧a4=V.l (encMos z)∧SmallP N z∧z.length≤4096∧chainP m.exps ps [⟨m.coef,zerosE N⟩]=(powP ps[i] (e.toNat - j) z).bind (chainP (m.exps.drop (i+1)) (ps.drop (i+1))))
     (fun a1 a2 a3 a4 a5 a6 a7 a8 a9 a10 a11 a12 a13 a14=>(e - a13).toNat) (fun a1 a2 a3 a4 a5 a6 a7 a8 a9 a10 a11 a12 a13 a14 hI m2 hK2=>?_) _ _ _ _ _ _ _ _ _ _ _ _ _ _ ⟨rfl,rfl,rfl,rfl,rfl,rfl,rfl,rfl,rfl,rfl,rfl,rfl,0,y,rfl,Nat.zero_le _,rfl,sy,ly,hc⟩
    obtain ⟨rfl,rfl,rfl,rfl,rfl,rfl,rfl,rfl,rfl,rfl,rfl,rfl,j,z,rfl,hj,rfl,sz,lz,hcz⟩:=hI
    unfold ZfC
    simp only [Int.toNat_natCast,encAs_getD ps i hi2,List.drop_zero,List.headD_cons,encAs_length]
    refine iff_dec (fun h2=>⟨trivial,by omega,by omega,trivial,hi2,r08_multiply_ok hN z ps[i] sz (hs _ (List.getElem_mem hi2)) _ ⟨rfl,rfl,?_⟩⟩) (fun h2=>?_)
    ·have h2:(j:Int)<e:=h2
     have hej:e.toNat - j=(e.toNat - (j+1))+1:=by omega
     rw [hej] at hcz
     have hcz:_=((mulP z ps[i]).bind (powP ps[i] (e.toNat - (j+1)))).bind (chainP (m.exps.drop (i+1)) (ps.drop (i+1))):=hcz
     cases hmul:mulP z ps[i] with
     | none =>
      refine iff_not (iff_no rfl (no ?_))
      rw [hmul] at hcz
      rw [hcz] at hRo
      exact hRo
     | some c =>
      refine iff_not (iff_yes rfl ?_)
      rw [wrap_in _ (by omega) (by omega)]
      rw [hmul] at hcz
      exact hK2 _ _ _ _ _ _ _ _ _ _ _ _ _ _ ⟨rfl,rfl,rfl,rfl,rfl,rfl,rfl,rfl,rfl,rfl,rfl,rfl,j+1,c,by omega,by omega,rfl,small_mul sz (hs _ (List.getElem_mem hi2)) hmul,large_len (mulP_sort hmul).2,hcz⟩ (by omega)
    ·have h2:¬ (j:Int)<e:=h2
     have hej:e.toNat - j=0:=by omega
     rw [hej] at hcz
     exact hK1 _ ⟨z,rfl,sz,lz,hcz⟩
   ·obtain ⟨y,rfl,sy,ly,hc⟩:=hJ
    rw [List.drop_length,chainP_nil] at hc
    rw [hc] at hRo
    have hRo:R=if largeP (addsP out y) then none else insertP N ps (p.drop (k+1)) (addsP out y):=hRo
    have e1:(V.l (encMos y)).list.length=y.length:=encMos_length _
    rw [e1]
    intro hb3
    have hol:=large_len lo
    refine Zjj _ m0 _ _ _ _ _ _ _ _ hb3 (fun j x=>x=V.l (encMos (addsP out (y.take j)))) (fun j x hj hJ K hK3=>?_) (fun x hJ=>?_) 0 _ (Nat.zero_le _) rfl
    ·subst hJ
     have hg:(V.list (V.l (encMos y))).getD j []=[.i (y[j]).coef,.l (encP (y[j]).exps)]:=encMos_getD y j hj
     have e2:((V.l (encMos y)).list.length:Int)=y.length:=by rw [e1]
     simp only [hg,List.drop_zero,List.headD_cons,List.tail_cons]
     have hlen:=addsP_length (y.take j) out
     rw [List.length_take] at hlen
     refine ⟨by omega,by omega,r08_add_ok _ y[j] (by omega) (addsP_coef (fun z hz=>smallP_coef sy z (List.mem_of_mem_take hz)) (smallP_coef so)) (smallP_coef sy _ (List.getElem_mem hj)) _ ⟨rfl,rfl,hK3 _ ?_⟩⟩
     rw [addsP_take hj]; rfl
    ·subst hJ
     rw [List.take_length]
     refine r08_large_ok _ _ ⟨rfl,rfl,iff_intro (fun h2=>no ?_) (fun h2=>?_)⟩
     ·have h2:largeP (addsP out y)=true:=h2
      rw [hRo,if_pos h2]
     ·have h2:largeP (addsP out y)=false:=h2
      rw [if_neg (by rw [h2]; simp)] at hRo
      exact hK _ _ ⟨rfl,_,rfl,small_of (valid_adds y out (fun z hz=>(sy z hz).1) (fun z hz=>(so z hz).1)) h2,h2,hRo⟩
   ·have:z=⟨m.coef,zerosE N⟩:=by simpa using hz
    subst this
    refine ⟨valid_zeros N,?_,fun e he=>?_⟩
    ·show m.coef≤4611686018427387904
     omega
    ·have:=List.eq_of_mem_replicate he
     omega
  exact ⟨key _ main,key _ main,trivial⟩
 ·obtain ⟨rfl,out,rfl,so,lo,hRo⟩:=hJ
  rw [List.drop_length] at hRo
  have hRo:R=some out:=hRo
  rw [hRo] at hQ
  exact ⟨⟨trivial,trivial,trivial⟩,_,.refl _,hQ⟩
end Go.Proofs.YthhnadeoioeniaaGreat
