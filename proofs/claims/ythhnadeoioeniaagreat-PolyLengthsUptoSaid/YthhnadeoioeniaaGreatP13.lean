/-
  Texts KeysA, PlyG of this proof, joined.
-/
import Derived.Maps.RangeRun
import Derived.Laws.IdiomRangeMap
import Derived.Test.YthhnadeoioeniaaGreatP12
set_option linter.unusedVariables false
namespace Go.Proofs.YthhnadeoioeniaaGreat
open Go Go.Abs Go.Proofs Go.RowKit Go.Shelf
open Go.ChangeMaps (setBlock)
attribute [local go_sem] Oper.semAt_some
theorem und78:Tryz.prog.underlying 78=some (.map 9 31):=by kernel_rfl
theorem fit78:mapFit tab ⟨9,31,false,false⟩=true:=by kernel_rfl
theorem key78 (r:List V):keyD tab ⟨9,31,false,false⟩ r=.v .str (r.headD V.none):=by cases r <;> rfl
theorem lf78:lfs tab 78=[.mp ⟨9,31,false,false⟩]:=by kernel_rfl
def keysR (xs:List (List V)):List (List V):=xs.map fun r=>[r.headD V.none]
theorem rowA_key (x:V):rowA 154 [x]=[.v .str x]:=rfl
def restR (xs:List (List V)) (idx:List Nat):List (List V):=idx.map fun j=>[(xs.getD j []).headD V.none]
theorem rest_all (xs:List (List V)):restR xs (List.range xs.length)=keysR xs:=by
 unfold restR keysR
 apply List.ext_getElem
 ·simp
 ·intro i h1 h2
  simp only [List.getElem_map,List.getElem_range]
  have:i<xs.length:=by simpa using h1
  rw [List.getD_eq_getElem?_getD,List.getElem?_eq_getElem this]; rfl
theorem erase_map {α β:Type} (f:α→β):∀ (l:List α) (i:Nat),(l.map f).eraseIdx i=(l.eraseIdx i).map f
 | [],_=>rfl
 | _::_,0=>rfl
 | a::l,i+1=>by rw [List.map_cons,List.eraseIdx_cons_succ,List.eraseIdx_cons_succ,List.map_cons,erase_map f l i]
theorem rest_step (xs:List (List V)) {idx:List Nat} (hn:idx.Nodup) {j:Nat} (hj:j∈idx):nextRow true (restR xs idx) [(xs.getD j []).headD V.none] (restR xs (idx.erase j)):=by
 have hlt:=List.idxOf_lt_length_of_mem hj
 refine ⟨idx.idxOf j,by simpa [restR] using hlt,?_,?_⟩
 ·unfold restR
  have h2:idx.idxOf j<(idx.map fun j=>[(xs.getD j []).headD V.none]).length:=by simpa using hlt
  rw [List.getD_eq_getElem?_getD (l:=idx.map _),List.getElem?_eq_getElem h2,Option.getD_some,List.getElem_map,List.getElem_idxOf]
 ·unfold restR
  rw [List.erase_eq_eraseIdx_of_idxOf (l:=idx) (a:=j) rfl,erase_map]
structure KEnv (S:Sig) (l:Nat) (J:List (List V)→(Nat→Prop)→World→Prop) (Jx:World→Prop):Prop where
 at_:∀ xs R W,J xs R W→(∀ b,S.F b→W.heap[b]?=S.w.heap[b]?)∧∀ b,R b→b<W.heap.size
 grow:∀ xs R W W',J xs R W→W.grownBy W' none→J xs (fun b=>R b∨(W.heap.size≤b∧b<W'.heap.size)) W'
 own:∀ xs R W W',J xs R W→(∀ b,¬ R b→W'.heap[b]?=W.heap[b]?)→W'.heap.size=W.heap.size→W'.os=W.os∧W'.tape=W.tape∧W'.output=W.output→J xs R W'
 yield:∀ xs x xs' R W (args:List Value),nextRow true xs x xs'→J xs R W→args.length=(rowA 154 x).length→(∀ j,RepD (lfs tab) { S with w:=W } ((rowA 154 x).getD j .undef) (args.getD j undef)) →
  YieldAt Fence.wide 0 Tryz.prog l args.toArray W fun e W'=>(e=.returned (.bool true)∧J xs' R W'∧∀ b,R b→W'.heap[b]?=W.heap[b]?)∨(e=.returned (.bool false)∧Jx W')
theorem seen_size (W:World) (it n c:Nat) (a:Option Nat) (s:Array Nat) (h:W.heap[it]?=some (.mapIter a n s c)):(W.iterSeen it)=s:=by unfold World.iterSeen; rw [h]
set_option maxRecDepth 1000000 in
theorem keys_map {S:Sig} {l:Nat} {J:List (List V)→(Nat→Prop)→World→Prop} {Jx:World→Prop} (E:KEnv S l J Jx) (xs:List (List V)) (b o bm clock:Nat) (ents:Array MapEntry)
  (hF:S.F bm) (hlt:∀ b,S.F b→b<S.w.heap.size) (hc:S.w.cell? ⟨b,o,none⟩=some (.map (some bm))) (hb:S.w.heap[bm]?=some (.map ents clock)) (hmv:MV tab S.w S.F ⟨9,31,false,false⟩ ents clock xs) (h0:J (keysR xs) (fun _=>False) S.w) :
  CallsIn Fence.wide 0 Tryz.prog 154 #[.func (.yield l) #[] #[],.pointer (some ⟨b,o,none⟩)] S.w fun e W'=>(∃ v,e=.returned v)∧((∃ R,J [] R W')∨Jx W'):=by
 have hrg:=run_range_map (P:=Tryz.prog) S.w 78 9 31 bm ents clock und78 hb
 have hbn:∀ x∈ents.toList,x.born<clock:=fun x hx=>by
  have hclk:clock=ents.size:=hmv.clk
  obtain ⟨k,hk⟩:=List.getElem?_of_mem hx
  have hk':ents[k]?=some x:=by simpa using hk
  rw [hmv.born k x hk']
  have:=(Array.getElem?_eq_some_iff.1 hk').1
  omega
 have hnb:(ents.toList.map (·.born)).Nodup:=by
  rw [List.nodup_iff_pairwise_ne,List.pairwise_iff_getElem]
  intro i j hi hj hij
  simp only [List.getElem_map,Array.getElem_toList]
  rw [hmv.born i _ (Array.getElem?_eq_getElem (by simpa using hi)),hmv.born j _ (Array.getElem?_eq_getElem (by simpa using hj))]
  omega
 have hbl:=hlt bm hF
 refine callsIn_of_wp Tryz.func154 rfl trivial ?_ rfl
 simp only [Tryz.ntmps154,List.size_toArray,List.length_cons,List.length_nil,Nat.reduceAdd,Nat.reduceSub,Array.replicate_succ,Array.replicate_zero,List.push_toArray,List.append_toArray,List.nil_append,List.cons_append]
 have hJ1:=E.grow _ _ _ _ h0 (World.grownBy_alloc S.w (.mapIter (some bm) clock #[] clock) none)
 have hit0:(S.w.alloc (.mapIter (some bm) clock #[] clock)).heap[S.w.heap.size]?=some (.mapIter (some bm) clock #[] clock):=Array.getElem?_push_size
 gi_wp2
 gi_loopw [] (fun wr=>∃ (seen:List Nat) (idx:List Nat) (R:Nat→Prop),seen.Nodup∧idx.Nodup∧(∀ j,j∈idx↔j<clock∧j ∉ seen)∧(∀ j∈seen,j<clock)∧J (restR xs idx) R wr∧R S.w.heap.size∧wr.heap[S.w.heap.size]?=some (.mapIter (some bm) clock seen.reverse.toArray clock))
  (fun wr=>clock - (wr.iterSeen S.w.heap.size).size)
 case atStart =>
  refine ⟨[],List.range xs.length,fun b=>False∨(S.w.heap.size≤b∧b<(S.w.alloc (.mapIter (some bm) clock #[] clock)).heap.size),List.nodup_nil,List.nodup_range,fun j=>?_,fun j hj=>by simp at hj,by rw [rest_all]; exact hJ1,Or.inr ⟨Nat.le_refl _,by simp⟩,hit0⟩
  rw [List.mem_range]
  have hclk:=hmv.clk
  have hsz:=hmv.size
  constructor
  ·intro h; exact ⟨by omega,by simp⟩
  ·intro h; omega
 case round =>
  obtain ⟨seen,idx,R,hsn,hin,hidx,hsl,hJ,hRit,hit⟩:=hrel
  have hbw:wr.heap[bm]?=some (.map ents clock):=((E.at_ _ _ _ hJ).1 bm hF).trans hb
  rcases run_next_at (P:=Tryz.prog) wr 0 S.w.heap.size bm clock clock seen.reverse.toArray ents clock hit hbw hbn (Nat.le_refl _) with ⟨hl0,hr⟩ | ⟨e,he,w1,hw1,hr⟩
  ·have hnx:∀ ty,(Instr.next (.pointer (some ⟨S.w.heap.size,0,none⟩)) false ty).run Tryz.prog wr=_:=fun _=>hr
   gi_wp2
   go_end0
   have hnil:idx=[]:=by
    cases hidxe:idx with
    | nil=>rfl
    | cons j r =>
     have hj:=(hidx j).1 (by rw [hidxe]; simp)
     have hj':j<ents.size:=by have:=hmv.clk; omega
     have:=all_seen ents seen.reverse.toArray hl0 ents[j] (by simp)
     rw [hmv.born j _ (Array.getElem?_eq_getElem hj')] at this
     exact absurd (by simpa using this) hj.2
   subst hnil
   exact ⟨⟨_,rfl⟩,.inl ⟨R,hJ⟩⟩
  ·obtain ⟨hem,hes⟩:=mem_left he
   obtain ⟨k,hk⟩:=List.getElem?_of_mem hem
   have hk':ents[k]?=some e:=by simpa using hk
   have hbk:=hmv.born k e hk'
   have hkn:k<clock:=by have:=(Array.getElem?_eq_some_iff.1 hk').1; have:=hmv.clk; omega
   have hks:k ∉ seen:=by rw [hbk] at hes; simpa using hes
   have hkey:=(key_rep tab_ok fit78 hmv hk').1
   rw [key78] at hkey
   have hheap:w1.heap=wr.heap∧w1.os=wr.os∧w1.tape=wr.tape∧w1.output=wr.output:=by rcases hw1 with rfl | rfl <;> exact ⟨rfl,rfl,rfl,rfl⟩
   have hpush:seen.reverse.toArray.push e.born=(k::seen).reverse.toArray:=by rw [hbk]; simp
   rw [hpush] at hr
   obtain ⟨W2,hW2⟩:∃ W2,setBlock w1 S.w.heap.size (.mapIter (some bm) clock (k::seen).reverse.toArray clock)=W2:=⟨_,rfl⟩
   rw [hW2] at hr
   have hnx:∀ ty,(Instr.next (.pointer (some ⟨S.w.heap.size,0,none⟩)) false ty).run Tryz.prog wr=_:=fun _=>hr
   have hit2:W2.heap[S.w.heap.size]?=some (.mapIter (some bm) clock (k::seen).reverse.toArray clock):=by rw [← hW2]; exact setBlock_new (by rw [hheap.1]; exact hit)
   have hot2:∀ b',b'≠S.w.heap.size→W2.heap[b']?=wr.heap[b']?:=fun b' hb'=>by rw [← hW2,setBlock_old _ _ _ _ hb',hheap.1]
   have hsz2:W2.heap.size=wr.heap.size:=by rw [← hW2,setBlock_size,hheap.1]
   have hos2:W2.os=wr.os∧W2.tape=wr.tape∧W2.output=wr.output:=by rw [← hW2]; exact hheap.2
   have hJ2:=E.own _ _ _ W2 hJ (fun b' hb'=>hot2 b' fun e=>hb' (e▸hRit)) hsz2 hos2
   have hbw2:W2.heap[bm]?=some (.map ents clock):=(hot2 bm (by omega)).trans hbw
   have hen:=run_entry_at (P:=Tryz.prog) W2 S.w.heap.size bm clock seen.reverse.toArray ents clock e (by rw [hpush]; exact hit2) hbw2 hem hnb
   have hstep:=rest_step xs hin ((hidx k).2 ⟨hkn,hks⟩)
   obtain ⟨fn,tmps,assign,body,hy,hR⟩:=E.yield _ _ _ R W2 [e.key] hstep hJ2 (by rw [rowA_key]; rfl) fun j=>(by
    rw [rowA_key]
    match j with
    | 0=>exact RepD.at (E.at_ _ _ _ hJ2).1 hkey
    | j+1=>exact .undef _)
   clear hW2
   gi_wp2
   refine ⟨rfl,hR.mono ?_⟩
   rintro e2 W3 (⟨rfl,hJ3,hk3⟩ | ⟨rfl,hx3⟩)
   rotate_left
   ·gi_wp2
    (try simp only [Exit.inBlock,Exit.then]); refine bodyPost_ret (results_none rfl _ _ _) rfl ?_
    exact ⟨⟨_,rfl⟩,.inr hx3⟩
   gi_wp2
   have hit3:W3.heap[S.w.heap.size]?=some (.mapIter (some bm) clock (k::seen).reverse.toArray clock):=(hk3 _ hRit).trans hit2
   have hnd:(k::seen).Nodup:=List.nodup_cons.2 ⟨hks,hsn⟩
   have hlt':∀ j∈k::seen,j<clock:=fun j hj=>by
    rcases List.mem_cons.1 hj with h | h
    ·rw [h]; exact hkn
    ·exact hsl j h
   refine ⟨⟨k::seen,idx.erase k,R,hnd,hin.erase k,fun j=>?_,hlt',hJ3,hRit,hit3⟩,?_⟩
   ·rw [hin.mem_erase_iff,hidx j,List.mem_cons,not_or]
    constructor
    ·rintro ⟨h1,h2,h3⟩; exact ⟨h2,h1,h3⟩
    ·rintro ⟨h1,h2,h3⟩; exact ⟨h2,h1,h3⟩
   ·rw [seen_size _ _ _ _ _ _ hit3,seen_size _ _ _ _ _ _ hit]
    have:=nodup_le clock _ hnd hlt'
    simp at this ⊢
    omega
set_option maxRecDepth 1000000 in
theorem keys_nil {S:Sig} {l:Nat} {J:List (List V)→(Nat→Prop)→World→Prop} {Jx:World→Prop} (E:KEnv S l J Jx) (b o:Nat) (hc:S.w.cell? ⟨b,o,none⟩=some (.map none)) (h0:J [] (fun _=>False) S.w) :
  CallsIn Fence.wide 0 Tryz.prog 154 #[.func (.yield l) #[] #[],.pointer (some ⟨b,o,none⟩)] S.w fun e W'=>(∃ v,e=.returned v)∧((∃ R,J [] R W')∨Jx W'):=by
 have hrg:=run_range_nilMap (P:=Tryz.prog) S.w 78 9 31 und78
 have hnx:∀ ty,(Instr.next (.pointer (some ⟨S.w.heap.size,0,none⟩)) false ty).run Tryz.prog (S.w.alloc (.mapIter none 0 #[] 0))=_:=fun ty=>run_next_nilMap S.w ty 0 0 #[]
 refine callsIn_of_wp Tryz.func154 rfl trivial ?_ rfl
 simp only [Tryz.ntmps154,List.size_toArray,List.length_cons,List.length_nil,Nat.reduceAdd,Nat.reduceSub,Array.replicate_succ,Array.replicate_zero,List.push_toArray,List.append_toArray,List.nil_append,List.cons_append]
 have hJ1:=E.grow _ _ _ _ h0 (World.grownBy_alloc S.w (.mapIter none 0 #[] 0) none)
 gi_wp2
 gi_loopw [] (fun wr=>wr=S.w.alloc (.mapIter none 0 #[] 0)) (fun wr=>0)
 case atStart=>rfl
 case round =>
  subst hrel
  gi_wp2
  go_end0
  exact ⟨⟨_,rfl⟩,.inl ⟨_,hJ1⟩⟩
theorem Keys_iter (xs:List (List V)):itA ZL [.elt Zh [V.l xs] 0] (keysR xs):=by
 intro S us hwf hlen hrep hany l J Jx hat hgrow hown hyield h0
 obtain ⟨u,rfl⟩:∃ u,us=[u]:=by
  match us,hlen with
  | [u],_=>exact ⟨u,rfl⟩
 have hu:RepD (lfs tab) S (.elt Zh [V.l xs] 0) u:=hrep 0
 have E:KEnv S l J Jx:=⟨hat,hgrow,hown,fun xs x xs' R W args h1 h2 h3 h4=>hyield xs x xs' R W args h1 h2 h3 h4⟩
 obtain ⟨b,o,ws,rfl,hF,hc,hk⟩:∃ b o,∃ ws:Nat→Value,u=.pointer (some ⟨b,o,none⟩)∧S.F b∧(∀ j,j<1→S.w.cell? ⟨b,o+j,none⟩=some (ws j))∧∀ j,j<1→RepK (lfs tab) S.w S.F ([K.mp ⟨9,31,false,false⟩].getD j .oth) ([V.l xs].getD j V.none) (ws j):=by
  cases hu with
  | elt e cs off b o us h1 h2 h3 =>
   rw [lf78] at h2 h3
   exact ⟨b,o,us,rfl,h1,h2,h3⟩
 have c0:=hc 0 (by omega)
 rw [Nat.add_zero] at c0
 have k0:=hk 0 (by omega)
 show Calls Tryz.prog 154 #[.func (.yield l) #[] #[],.pointer (some ⟨b,o,none⟩)] S.w _
 generalize ws 0=u0 at c0 k0
 suffices key:CallsIn Fence.wide 0 Tryz.prog 154 #[.func (.yield l) #[] #[],.pointer (some ⟨b,o,none⟩)] S.w (fun e W'=>(∃ v,e=.returned v)∧((∃ R,J [] R W')∨Jx W')) from callsIn_wide.1 key
 have k0:RepK (lfs tab) S.w S.F (.mp ⟨9,31,false,false⟩) (V.l xs) u0:=k0
 cases k0 with
 | mp0 _ _ h =>
  have h:xs=[]:=h
  subst h
  exact keys_nil E b o c0 h0
 | mp _ _ bm clock ents us' hF' hh hok hs hl hr =>
  exact keys_map E xs b o bm clock ents hF' (fun b hb=>(hwf.frozen b hb).1) c0 hh (MV.of fit78 hok hs hl hr) h0
end Go.Proofs.YthhnadeoioeniaaGreat
set_option linter.unusedSimpArgs false
namespace Go.Proofs.YthhnadeoioeniaaGreat
open Go Go.Abs
theorem cmp_isNaN_uint64_ok (x:Nat):Fn Zca [wD x] (bD false):=fun Q hQ=>by
 refine ZiC _ _ ?_
 unfold ZeI
 rw [show (((x:Nat):Int) != ((x:Nat):Int))=false by simp]
 exact ⟨trivial,hQ⟩
theorem cmp_Compare_uint64_ok (x y:Nat):Fn ZaR [wD x,wD y] (iD (if x<y then -1 else if y<x then 1 else 0)):=fun Q hQ=>by
 refine Zhs _ _ _ ?_
 unfold Zer
 refine cmp_isNaN_uint64_ok x _ ⟨rfl,rfl,cmp_isNaN_uint64_ok y _ ⟨rfl,rfl,iff_no rfl (iff_no rfl ?_)⟩⟩
 refine iff_dec (fun h=>⟨trivial,?_⟩) (fun h=>iff_dec (fun h2=>⟨trivial,?_⟩) (fun h2=>⟨trivial,?_⟩))
 ·rw [if_pos (by omega)] at hQ; exact hQ
 ·rw [if_neg (by omega),if_pos (by omega)] at hQ; exact hQ
 ·rw [if_neg (by omega),if_neg (by omega)] at hQ; exact hQ
theorem polE_more {l:Pls} {s:Tm} {ts:List Tm} (h:s∈ts):polE l (Tm.vars ts) s=polE l (Tm.vars [s]) s:=by
 unfold polE
 rw [(poly_more (l:=l) h).1,Option.isSome_map]
theorem vars_len2 {s t:Tm} (h:s.size≤4000) (h2:t.size≤4000):(Tm.vars [s,t]).length≤8000:=by
 have:=Tm.collectL_len [s,t] []
 have h3:Tm.sizeL [s,t]≤8000:=by simp [Tm.sizeL]; omega
 show (Tm.collectL [s,t] []).length≤_
 simp at this
 omega
theorem cmpP_no {n:Nat} {p q:Mos} {x:Mo} (hx:x∈q) (h:coefP p x.exps<x.coef):cmpP n p q=0:=by
 unfold cmpP
 rw [if_neg]
 intro ha
 have:=of_decide_eq_true (List.all_eq_true.1 ha x hx)
 omega
theorem cmpP_yes {n:Nat} {p q:Mos} (h:∀ x∈q,x.coef≤coefP p x.exps):cmpP n p q=if coefP q (zerosE n)<coefP p (zerosE n) then 2 else 1:=by
 unfold cmpP
 rw [if_pos (List.all_eq_true.2 fun x hx=>decide_eq_true (h x hx))]
theorem keysR_encKs (D:Mos):keysR (encKs D)=D.map fun x=>[V.s (keyB x.exps)]:=by
 unfold keysR encKs
 rw [List.map_map]; rfl
theorem poly_Against_ok {l:Pls} (hl:PlOk l) (s t:Tm) (hs:s.check=0) (ht:t.check=0):Fn ZC [plsD l,tD s,tD t] (.tup [iD (cmpT l s t).1,iD (cmpT l s t).2]):=fun Q hQ=>by
 refine Zk5 _ _ _ _ _ _ _ _ ?_
 unfold ZgN
 rw [show [[V.s s.name,V.b s.var,V.l (Tm.encL s.args)],[V.s t.name,V.b t.var,V.l (Tm.encL t.args)]]=Tm.encL [s,t] by simp [Tm.encL,Tm.enc_eq]]
 obtain ⟨fs,zs,_⟩:=Tm.check_zero.1 hs
 obtain ⟨ft,zt,_⟩:=Tm.check_zero.1 ht
 have hvl:(Tm.vars [s,t]).length≤65536:=Nat.le_trans (vars_len2 zs zt) (by omega)
 have hin1:s∈[s,t]:=by simp
 have hin2:t∈[s,t]:=by simp
 unfold cmpT at hQ
 rw [ofE_pol hs,ofE_pol ht,← polE_more (l:=l) hin1,← polE_more (l:=l) hin2] at hQ
 have hso:=vars_sort [s,t]
 have x1:=pre_vars2 hin1
 have x2:=pre_vars2 hin2
 refine VarsOf_vars [s,t] (by simp [Tm.sizeL]; omega) _ ⟨rfl,rfl,?_⟩
 generalize Tm.vars [s,t]=all at hvl hQ hso x1 x2
 refine poly_polynomial_ok hl hso hvl s (by omega) fs x1 (fun c C h2 h3 h4 h5=>⟨rfl,rfl,iff_bne (fun h=>absurd rfl h) (fun _=>?_)⟩) (fun h2=>⟨rfl,rfl,iff_bne (fun _=>⟨⟨trivial,trivial,trivial⟩,?_⟩) (fun h=>absurd h h2)⟩)
 rotate_left
 ·rw [if_pos h2] at hQ; exact hQ
 rw [if_neg (by simp [h2])] at hQ
 refine poly_polynomial_ok hl hso hvl t (by omega) ft x2 (fun d D k2 k3 k4 k5=>⟨rfl,rfl,iff_bne (fun h=>absurd rfl h) (fun _=>?_)⟩) (fun k2=>⟨rfl,rfl,iff_bne (fun _=>⟨⟨trivial,trivial,trivial⟩,?_⟩) (fun h=>absurd h k2)⟩)
 rotate_left
 ·rw [if_pos k2] at hQ; exact hQ
 rw [if_neg (by simp [k2]),h3,k3] at hQ
 have hQ:Q (.tup [iD (cmpP all.length c d),iD 0]) []:=hQ
 have dc:=(polyT_sort hl h3).dist
 have dd:=(polyT_sort hl k3).dist
 have eC:∀ e,coefP C e=coefP c e:=fun e=>coefP_perm h4 (dist_perm h4.symm dc) e
 have eD:∀ e,coefP D e=coefP d e:=fun e=>coefP_perm k4 (dist_perm k4.symm dd) e
 have mC:∀ x∈D,mget [.str] [V.i 0] [V.s (keyB x.exps)] (encKs C)=[V.i (coefP c x.exps:Nat)]:=fun x hx=>by
  rw [mget_coef hvl (k5 x hx).1 h5,eC]
 have mD:∀ x∈D,mget [.str] [V.i 0] [V.s (keyB x.exps)] (encKs D)=[V.i (x.coef:Nat)]:=fun x hx=>by
  rw [mget_coef hvl (k5 x hx).1 k5,coefP_mem (dist_perm k4.symm dd) hx]
 refine ZdC _ _ ?_
 refine ⟨trivial,rfl,rfl,keysR (encKs D),Keys_iter (encKs D),?_⟩
 refine ZhX Q _ _ _ _ _ (fun rows q0 q1 q2 q3=>q2=V.l (encKs C)∧q3=V.l (encKs D)∧∃ R:Mos,rows=R.map (fun x=>[V.s (keyB x.exps)])∧(∀ x∈R,x∈D)∧∀ x∈D,x∈R∨x.coef≤coefP c x.exps) ?_ ?_ _ (keysR (encKs D)) _ _ _ _ rfl
  ⟨rfl,rfl,D,keysR_encKs D,fun x hx=>hx,fun x hx=>.inl hx⟩
 ·rintro rows q0 q1 q2 q3 ⟨rfl,rfl,R,rfl,hR1,hR2⟩ i hi K hK
  have hi2:i<R.length:=by simpa using hi
  have hmem:=hR1 _ (List.getElem_mem hi2)
  have hg:((R.map fun x=>[V.s (keyB x.exps)]).getD i [])=[V.s (keyB (R[i]).exps)]:=by
   rw [List.getD_eq_getElem?_getD,List.getElem?_map,List.getElem?_eq_getElem hi2]; rfl
  rw [hg]
  show iff (decide ((((mget [.str] [V.i 0] [V.s (keyB (R[i]).exps)] (encKs C)).headD V.none).int)<(((mget [.str] [V.i 0] [V.s (keyB (R[i]).exps)] (encKs D)).headD V.none).int))) _ _
  rw [mC _ hmem,mD _ hmem]
  refine iff_dec (fun h=>⟨⟨trivial,trivial,trivial⟩,?_⟩) (fun h=>hK _ _ _ _ ⟨rfl,rfl,R.eraseIdx i,?_,fun x hx=>hR1 x ((List.eraseIdx_sublist R i).subset hx),fun x hx=>?_⟩)
  ·have h:((coefP c (R[i]).exps:Nat):Int)<(R[i]).coef:=h
   rw [cmpP_no (k4.mem_iff.1 hmem) (by omega)] at hQ
   exact hQ
  ·exact erase_map _ R i
  ·have h:¬ ((coefP c (R[i]).exps:Nat):Int)<(R[i]).coef:=h
   rcases hR2 x hx with h7 | h7
   ·obtain ⟨j,hj,rfl⟩:=List.mem_iff_getElem.1 h7
    by_cases hji:j=i
    ·subst hji; exact .inr (by omega)
    ·refine .inl (List.mem_eraseIdx_iff_getElem?.2 ⟨j,hji,List.getElem?_eq_getElem hj⟩)
   ·exact .inr h7
 ·rintro q0 q1 q2 q3 ⟨rfl,rfl,R,hR,hR1,hR2⟩
  have hRn:R=[]:=by
   cases R with
   | nil=>rfl
   | cons a b=>cases hR
  subst hRn
  have hall:∀ x∈d,x.coef≤coefP c x.exps:=fun x hx=>by
   rcases hR2 x (k4.mem_iff.2 hx) with h | h
   ·simp at h
   ·exact h
  have hz:=coefP_zero_le (n:=all.length) hall
  rw [cmpP_yes hall] at hQ
  show cl ZaR [.v (.int .u64) ((mget [.str] [V.i 0] [V.s (ByteArray.mk #[])] (encKs C)).headD V.none),.v (.int .u64) ((mget [.str] [V.i 0] [V.s (ByteArray.mk #[])] (encKs D)).headD V.none)] [] _
  rw [← keyB_zeros all.length,mget_coef hvl (valid_zeros _) h5,mget_coef hvl (valid_zeros _) k5,eC,eD]
  generalize coefP c (zerosE all.length)=a at hz hQ
  generalize coefP d (zerosE all.length)=b at hz hQ
  refine cmp_Compare_uint64_ok a b _ ⟨rfl,rfl,⟨trivial,trivial,trivial⟩,?_⟩
  rw [if_neg (by omega)]
  by_cases h:b<a
  ·rw [if_pos h] at hQ ⊢
   exact hQ
  ·rw [if_neg h] at hQ ⊢
   exact hQ
def cmpQ (l:Pls) (s t:Tm):Int×Int:=if plsE l≠0 then (0,plsE l) else cmpT l s t
theorem poly_Compare_ok (l:Pls) (s t:Tm) (hs:s.size≤1048576) (ht:t.size≤1048576):Fn Zfm [plsD l,tD s,tD t] (.tup [iD (cmpQ l s t).1,iD (cmpQ l s t).2]):=fun Q hQ=>by
 refine Zk6 _ _ _ _ _ _ _ _ ?_
 unfold ZgQ
 unfold cmpQ at hQ
 rw [show [[V.s s.name,V.b s.var,V.l (Tm.encL s.args)]]=Tm.encL [s] by simp [Tm.encL,Tm.enc_eq]]
 refine poly_Check_ok l _ ⟨rfl,rfl,iff_bne (fun h=>⟨⟨trivial,trivial,trivial⟩,?_⟩) (fun h=>?_)⟩
 ·have h:plsE l≠0:=h
  rw [if_pos h] at hQ; exact hQ
 have h:plsE l=0:=h
 have hl:=plsE_zero h
 rw [if_neg (by simp [h])] at hQ
 refine term_Check_ok s (by unfold small; omega) _ ⟨rfl,rfl,iff_bne (fun h=>⟨⟨trivial,trivial,trivial⟩,?_⟩) (fun h=>?_)⟩
 ·have h:s.check≠0:=h
  have e:ofE l s=s.check:=by unfold ofE; rw [if_pos h]
  unfold cmpT at hQ
  rw [e,if_pos h] at hQ; exact hQ
 have h:s.check=0:=h
 obtain ⟨hfm,hsz,_⟩:=Tm.check_zero.1 h
 have hvl:(Tm.vars [s]).length≤65536:=Nat.le_trans (vars_len4 hsz) (by omega)
 have body:∀ {R:D→Heap→Prop},(∀ x y,(y≠0→Q (.tup [iD 0,iD y]) [])→(y=0→ofE l s=0)→R (.tup [.v (.mp Zc) (.l x),iD y]) []) →
   cl ZM [tsD [s]] [] fun r5 H6=>r5=.v (.sl Zb) r5.V∧H6=[]∧cl Zp [plsD l,tD s,.v (.sl Zb) r5.V] [] R:=fun {R} hR=>by
  refine VarsOf_vars [s] (by simp [Tm.sizeL]; omega) _ ⟨rfl,rfl,?_⟩
  refine poly_polynomial_ok hl (vars_sort _) hvl s (by omega) hfm (pre_vars s) (fun c C h2 h3 h4 h5=>hR _ _ (fun h9=>absurd rfl h9) (fun _=>?_)) (fun h2=>hR _ _ (fun _=>?_) (fun h9=>absurd h9 h2))
  ·rw [ofE_pol h]; exact h2
  ·unfold cmpT at hQ
   rw [ofE_pol h,if_pos h2] at hQ
   exact hQ
 have rest:ofE l s=0→cl ZI [tD t] [] fun r9 H10=>r9=.v (.int .i64) r9.V∧H10=[]∧iff (r9.V.int != (0:Int)) ((True∧True∧True)∧Q (.tup [iD 0,.v (.int .i64) r9.V]) []) (cl ZC [plsD l,tD s,tD t] [] fun r11 H12=>r11=.tup [.v (.int .i64) (r11.parts.headD .undef).V,.v (.int .i64) (r11.parts.tail.headD .undef).V]∧H12=[]∧(True∧True∧True)∧Q (.tup [.v (.int .i64) (r11.parts.headD .undef).V,.v (.int .i64) (r11.parts.tail.headD .undef).V]) []):=fun h0=>by
  refine term_Check_ok t (by unfold small; omega) _ ⟨rfl,rfl,iff_bne (fun h=>⟨⟨trivial,trivial,trivial⟩,?_⟩) (fun h2=>?_)⟩
  ·have h:t.check≠0:=h
   have e:ofE l t=t.check:=by unfold ofE; rw [if_pos h]
   unfold cmpT at hQ
   rw [if_neg (by simp [h0]),e,if_pos h] at hQ; exact hQ
  ·have h2:t.check=0:=h2
   exact poly_Against_ok hl s t h h2 _ ⟨rfl,rfl,⟨trivial,trivial,trivial⟩,hQ⟩
 have go:∀ y:Int,(y≠0→Q (.tup [iD 0,iD y]) [])→(y=0→ofE l s=0)→iff (y != 0) ((True∧True∧True)∧Q (.tup [iD 0,iD y]) []) (cl ZI [tD t] [] fun r9 H10=>r9=.v (.int .i64) r9.V∧H10=[]∧iff (r9.V.int != (0:Int)) ((True∧True∧True)∧Q (.tup [iD 0,.v (.int .i64) r9.V]) []) (cl ZC [plsD l,tD s,tD t] [] fun r11 H12=>r11=.tup [.v (.int .i64) (r11.parts.headD .undef).V,.v (.int .i64) (r11.parts.tail.headD .undef).V]∧H12=[]∧(True∧True∧True)∧Q (.tup [.v (.int .i64) (r11.parts.headD .undef).V,.v (.int .i64) (r11.parts.tail.headD .undef).V]) [])) :=
  fun y h1 h2=>iff_bne (fun h=>⟨⟨trivial,trivial,trivial⟩,h1 h⟩) (fun h=>rest (h2 h))
 repeat' first | exact True.intro | exact body fun x y h1 h2=>⟨rfl,rfl,⟨go y h1 h2,go y h1 h2,trivial⟩,go y h1 h2,trivial⟩ | refine And.intro ?_ ?_
end Go.Proofs.YthhnadeoioeniaaGreat
