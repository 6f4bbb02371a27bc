/-
  Texts R01A, R01B, R01C, R01D, TermA, R01F, VarZ, SysA, SysB, SymA, SymB, SymC, R01E, R01H, R02A, R10A, R10B, R10C of this proof, joined.
-/
import Derived.Test.YthjlodlkpgjlkaaGreatP12
set_option linter.unusedVariables false
set_option linter.unusedSimpArgs false
namespace Go.Proofs.YthjlodlkpgjlkaaGreat
open Go.Abs
theorem r01_letter_ok (c:Int):Fn Zgy [uD c] (bD (letterB c)):=by
 intro Q hQ
 refine Zqt _ _ ?_
 have key:∀ b,b=letterB c→True∧Q (bD b) []:=by rintro _ rfl; exact ⟨trivial,hQ⟩
 unfold Zko
 repeat' (first | (refine iff_dec (fun _=>?_) (fun _=>?_)) | (refine iff_beq (fun _=>?_) (fun _=>?_)))
 all_goals
  refine key _ ?_
  unfold letterB
  rw [Bool.eq_iff_iff]
  simp only [decide_eq_true_iff,beq_iff_eq,true_iff]
  omega
theorem r01_CompareInts_ok (a b:Int):Fn ZaC [iD a,iD b] (iD (if a<b then -1 else if b<a then 1 else 0)):=by
 intro Q hQ
 refine Zla _ _ _ ?_
 unfold ZgC
 refine iff_dec (fun h=>?_) (fun h=>iff_dec (fun h2=>?_) (fun h2=>?_))
 ·rw [if_pos h] at hQ; exact ⟨trivial,hQ⟩
 ·rw [if_neg h,if_pos h2] at hQ; exact ⟨trivial,hQ⟩
 ·rw [if_neg h,if_neg h2] at hQ; exact ⟨trivial,hQ⟩
theorem r01_Letters_ok (s:ByteArray):Fn ZfO [sD s] (bD (lettersL s.data.toList)):=by
 intro Q hQ
 refine ZpG _ _ fun hb=>?_
 have hl:=ba_size s
 refine ZjM Q s s.size hb (fun k=>lettersL (s.data.toList.take k)=true) (fun k hk hJ K hK=>?_) (fun hJ=>?_) 0 (Nat.zero_le _) rfl
 ·refine ⟨by omega,by omega,r01_letter_ok _ _ ⟨rfl,rfl,?_⟩⟩
  have hk':k<s.data.toList.length:=by omega
  have e:s.data.toList.getD k 0=s.data.toList[k]:=by rw [List.getD_eq_getElem?_getD,List.getElem?_eq_getElem hk']; rfl
  rw [e]
  refine iff_not (iff_intro (fun h=>hK ?_) (fun h=>⟨trivial,?_⟩))
  ·rw [List.take_succ_eq_append_getElem hk']
   have h':letterB (s.data.toList[k].toNat:Int)=true:=h
   simp only [lettersL,List.all_append,Bool.and_eq_true] at hJ ⊢
   exact ⟨hJ,by rw [List.all_cons,List.all_nil,h']; rfl⟩
  ·have:lettersL s.data.toList=false:=by
    rw [← Bool.not_eq_true]
    intro ha
    have:=List.all_eq_true.1 ha _ (List.getElem_mem hk')
    have h':letterB (s.data.toList[k].toNat:Int)=false:=h
    rw [h'] at this; cases this
   rw [this] at hQ; exact hQ
 ·rw [List.take_of_length_le (by omega)] at hJ
  rw [hJ] at hQ
  exact ⟨trivial,hQ⟩
theorem r01_Marked_ok (s:ByteArray):Fn ZcO [sD s] (bD (markedL s.data.toList)):=by
 intro Q hQ
 refine Zqx _ _ ?_
 unfold Zke
 have hl:=ba_size s
 rw [ba_beq]
 refine iff_not (iff_dec (fun h=>?_) (fun h hb=>?_))
 ·subst h
  exact ⟨trivial,hQ⟩
 ·rw [ba_nil] at h
  rw [wrap_in _ (by omega) (by rw [big_eq] at hb; omega)]
  have e1:((s.size:Int) - 1).toNat=s.data.toList.length - 1:=by omega
  refine ⟨by omega,by omega,trivial,?_⟩
  have:(((s.data.toList.getD ((s.size:Int) - 1).toNat 0).toNat:Int) == 35)=markedL s.data.toList:=by
   rw [e1]
   unfold markedL
   rw [List.getLast?_eq_getElem?,Bool.eq_iff_iff,decide_eq_true_iff,beq_iff_eq,List.getD_eq_getElem?_getD]
   have hk:s.data.toList.length - 1<s.data.toList.length:=by omega
   rw [List.getElem?_eq_getElem hk]
   simp only [Option.getD_some,Option.some.injEq]
   constructor
   ·intro h2
    apply UInt8.toNat_inj.1
    show _=35
    omega
   ·rintro h2; rw [h2]; rfl
  rw [this]
  exact hQ
theorem r01_IsName_ok (s:ByteArray) (m:Bool):Fn Zax [sD s,bD m] (bD (nameOk s m)):=by
 intro Q hQ
 refine ZqD _ _ _ fun hb=>?_
 rw [big_eq] at hb
 have hl:=ba_size s
 have last:∀ x:ByteArray,nameOk s m=(decide (0<x.size)&&lettersL x.data.toList)→ZeI Q x:=fun x hx=>by
  rw [Zl1]
  unfold ZhR
  rw [ba_beq]
  refine iff_not (iff_dec (fun h=>⟨trivial,?_⟩) (fun h=>r01_Letters_ok x _ ⟨rfl,rfl,trivial,?_⟩))
  ·rw [ba_nil] at h
   rw [hx] at hQ
   simpa [h] using hQ
  ·rw [ba_nil] at h
   rw [hx] at hQ
   have h0:0<x.size:=by omega
   simp only [h0,decide_true,Bool.true_and] at hQ
   exact hQ
 have mid:∀ b:Bool,b=(m&&markedL s.data.toList)→s.size≤24→ZeA Q s (.b b):=fun b hbm hs=>by
  rw [ZlW]
  unfold Zh1
  refine iff_intro (fun h _=>?_) (fun h=>last s ?_)
  ·have hbt:b=true:=h
   rw [hbt] at hbm
   have hmk:markedL s.data.toList=true:=by
    cases hmm:markedL s.data.toList with
    | true=>rfl
    | false=>rw [hmm] at hbm; simp at hbm
   have hne:s.data.toList≠[]:=by
    intro h0
    rw [h0] at hmk
    simp [markedL] at hmk
   have hpos:0<s.data.toList.length:=List.length_pos_iff.2 hne
   rw [wrap_in _ (by omega) (by omega)]
   refine ⟨by omega,by omega,by omega,last _ ?_⟩
   have hx:=extract_list s (0:Int).toNat ((s.size:Int) - 1).toNat
   have hxs:(s.extract (0:Int).toNat ((s.size:Int) - 1).toNat).size=s.size - 1:=by
    rw [← ba_size,hx]; simp
   have e1:((s.size:Int) - 1).toNat=s.data.toList.length - 1:=by omega
   rw [hx,hxs,e1]
   unfold nameOk
   rw [← hbm]
   have h1:decide (1<s.size)=decide (0<s.size - 1):=by
    rw [Bool.eq_iff_iff]; simp only [decide_eq_true_iff]; omega
   simp [hs,h1,List.dropLast_eq_take]
  ·have hbf:b=false:=h
   unfold nameOk
   rw [← hbm,hbf]
   simp [hs]
 refine iff_dec (fun h=>⟨trivial,?_⟩) (fun h=>iff_intro (fun hm=>r01_Marked_ok s _ ⟨rfl,rfl,mid _ ?_ (by omega)⟩) (fun hm=>mid _ ?_ (by omega)))
 ·have:nameOk s m=false:=by unfold nameOk; simp; intro h2; omega
  rw [this] at hQ; exact hQ
 ·rw [hm]; rfl
 ·rw [hm]; rfl
end Go.Proofs.YthjlodlkpgjlkaaGreat
namespace Go.Proofs.YthjlodlkpgjlkaaGreat
open Go.Abs
def small:Nat:=1152921504606846976
theorem small_eq:small=1152921504606846976:=rfl
theorem r01_Formed_ok:∀ t:Tm,Fn Zfq [tD t] (bD t.formed):=Tm.ind fun t ih Q hQ=>by
 refine ZqL _ _ _ _ ?_
 unfold Zj0
 have hl:=Tm.encL_length t.args
 have hf:=Tm.formed_eq t
 have key:∀ b,b=t.formed→True∧Q (bD b) []:=by rintro _ rfl; exact ⟨trivial,hQ⟩
 refine iff_intro (fun hv=>?_) (fun hv=>?_)
 ·rw [hv,if_pos rfl] at hf
  refine r01_IsName_ok _ _ _ ⟨rfl,rfl,iff_intro (fun h _=>key _ ?_) (fun h=>key _ ?_)⟩
  ·have h':nameOk t.name false=true:=h
   rw [hf,h',hl,Bool.true_and,Bool.eq_iff_iff,beq_iff_eq,List.isEmpty_iff]
   constructor
   ·intro h0; exact List.eq_nil_of_length_eq_zero (by omega)
   ·intro h0; rw [h0]; rfl
  ·have h':nameOk t.name false=false:=h
   rw [hf,h']; rfl
 ·rw [hv,if_neg (by simp)] at hf
  refine r01_IsName_ok _ _ _ ⟨rfl,rfl,iff_not (iff_intro (fun h hb=>?_) (fun h=>key _ ?_))⟩
  ·have h':nameOk t.name true=true:=h
   rw [h',Bool.true_and] at hf
   rw [hl] at hb ⊢
   refine iff_dec (fun h8=>key _ ?_) (fun h8=>?_)
   ·rw [hf,decide_eq_false (by omega)]; rfl
   ·rw [decide_eq_true (by omega),Bool.true_and] at hf
    rw [ZlU]
    intro hb2
    rw [hl]
    refine ZkZ Q _ _ hb (fun k=>(t.args.take k).all Tm.formed=true) (fun k hk hJ K hK=>?_) (fun hJ=>?_) 0 (Nat.zero_le _) rfl
    ·simp only [Tm.encL_getD _ k hk,Tm.enc_eq,List.drop_zero,List.headD_cons,List.tail_cons]
     refine ⟨by omega,by omega,ih _ (List.getElem_mem hk) _ ⟨rfl,rfl,iff_not (iff_intro (fun h=>hK ?_) (fun h=>key _ ?_))⟩⟩
     ·have h2:(t.args[k]).formed=true:=h
      rw [List.take_succ_eq_append_getElem hk,List.all_append,hJ,List.all_cons,List.all_nil,h2]; rfl
     ·have h2:(t.args[k]).formed=false:=h
      rw [hf]
      symm
      rw [← Bool.not_eq_true]
      intro ha
      have:=List.all_eq_true.1 ha _ (List.getElem_mem hk)
      rw [h2] at this; cases this
    ·rw [List.take_length] at hJ
     exact key _ (by rw [hf,hJ])
  ·have h':nameOk t.name true=false:=h
   rw [hf,h']; rfl
theorem r01_Size_ok:∀ t:Tm,t.size≤small→Fn ZfT [tD t] (iD t.size):=Tm.ind fun t ih hB Q hQ=>by
 refine Zrs _ _ _ _ fun hb=>?_
 have hl:=Tm.encL_length t.args
 have hs:=Tm.size_eq t
 rw [small_eq] at hB
 rw [hl] at hb ⊢
 refine Znk Q _ _ hb (fun k n=>n=((1+Tm.sizeL (t.args.take k):Nat):Int)) (fun k n hk hJ K hK=>?_) (fun n hJ=>?_) 0 1 (Nat.zero_le _) rfl
 ·simp only [Tm.encL_getD _ k hk,Tm.enc_eq,List.drop_zero,List.headD_cons,List.tail_cons]
  have hm:=Tm.size_mem (List.getElem_mem hk)
  refine ⟨by omega,by omega,ih _ (List.getElem_mem hk) (by rw [small_eq]; omega) _ ⟨rfl,rfl,hK _ ?_⟩⟩
  have h1:=Tm.sizeL_take t.args k hk
  have h2:=Tm.sizeL_take_le t.args (k+1)
  subst hJ
  show IntKind.i64.wrap (_+((t.args[k]).size:Int))=_
  rw [wrap_in _ (by omega) (by omega)]
  omega
 ·rw [List.take_length] at hJ
  subst hJ
  rw [hs] at hQ
  exact ⟨trivial,hQ⟩
theorem r01_Depth_ok:∀ t:Tm,t.size≤small→Fn Ze4 [tD t] (iD t.depth):=Tm.ind fun t ih hB Q hQ=>by
 refine Zq1 _ _ _ _ fun hb=>?_
 have hl:=Tm.encL_length t.args
 have hd:=Tm.depth_eq t
 have hds:=Tm.depth_le_size t
 rw [small_eq] at hB
 rw [hl] at hb ⊢
 refine ZlD Q _ _ hb (fun k n=>n=(Tm.depthL (t.args.take k):Int)) (fun k n hk hJ K hK=>?_) (fun n hJ=>?_) 0 0 (Nat.zero_le _) rfl
 ·simp only [Tm.encL_getD _ k hk,Tm.enc_eq,List.drop_zero,List.headD_cons,List.tail_cons]
  have hm:=Tm.size_mem (List.getElem_mem hk)
  refine ⟨by omega,by omega,ih _ (List.getElem_mem hk) (by rw [small_eq]; omega) _ ⟨rfl,rfl,hK _ ?_⟩⟩
  subst hJ
  show (if ((t.args[k]).depth:Int) > _ then ((t.args[k]).depth:Int) else _)=_
  rw [Tm.depthL_take t.args k hk]
  split <;> omega
 ·rw [List.take_length] at hJ
  subst hJ
  rw [wrap_in _ (by omega) (by omega)]
  rw [hd] at hQ
  exact ⟨trivial,hQ⟩
theorem r01_Check_ok (t:Tm) (hB:t.size≤small):Fn ZbH [tD t] (iD t.check):=fun Q hQ=>by
 refine Zrd _ _ _ _ ?_
 unfold Zmf
 unfold Tm.check at hQ
 refine r01_Formed_ok t _ ⟨rfl,rfl,iff_not (iff_intro (fun h=>?_) (fun h=>?_))⟩
 ·have h':t.formed=true:=h
  rw [h',if_pos rfl] at hQ
  refine r01_Size_ok t hB _ ⟨rfl,rfl,iff_dec (fun h2=>⟨trivial,?_⟩) (fun h2=>r01_Depth_ok t hB _ ⟨rfl,rfl,iff_dec (fun h3=>⟨trivial,?_⟩) (fun h3=>⟨trivial,?_⟩)⟩)⟩
  ·have h2:(t.size:Int) > 4000:=h2
   rw [if_neg (by omega)] at hQ; exact hQ
  ·have h3:(t.depth:Int) > 200:=h3
   rw [if_neg (by omega)] at hQ; exact hQ
  ·have h2:¬ (t.size:Int) > 4000:=h2
   have h3:¬ (t.depth:Int) > 200:=h3
   rw [if_pos (by omega)] at hQ; exact hQ
 ·have h':t.formed=false:=h
  rw [h',if_neg (by simp)] at hQ
  exact ⟨trivial,hQ⟩
theorem checkAll_take {l:List Tm} {k:Nat} (h:Tm.checkAll (l.take k)=0) (hk:k<l.length) (hn:(l[k]).check≠0):Tm.checkAll l=(l[k]).check:=by
 induction l generalizing k with
 | nil=>simp at hk
 | cons t r ih =>
  cases k with
  | zero=>simp only [List.getElem_cons_zero] at hn ⊢; simp only [Tm.checkAll]; rw [if_neg hn]
  | succ k =>
   simp only [List.take_succ_cons,Tm.checkAll] at h
   have h0:t.check=0:=by
    by_cases h0:t.check=0
    ·exact h0
    ·rw [if_neg h0] at h; exact h
   rw [if_pos h0] at h
   simp only [List.getElem_cons_succ] at hn ⊢
   simp only [Tm.checkAll]
   rw [if_pos h0]
   exact ih h (by simpa using hk) hn
theorem r01_CheckAll_ok (l:List Tm) (hB:∀ t∈l,t.size≤small):Fn Zfj [tsD l] (iD (Tm.checkAll l)):=fun Q hQ=>by
 refine ZoI _ _ fun hb=>?_
 have hl:=Tm.encL_length l
 rw [hl] at hb ⊢
 refine ZiG Q _ _ hb (fun k=>Tm.checkAll (l.take k)=0) (fun k hk hJ K hK=>?_) (fun hJ=>?_) 0 (Nat.zero_le _) rfl
 ·simp only [Tm.encL_getD _ k hk,Tm.enc_eq,List.drop_zero,List.headD_cons,List.tail_cons]
  refine ⟨by omega,by omega,r01_Check_ok _ (hB _ (List.getElem_mem hk)) _ ⟨rfl,rfl,iff_bne (fun h=>⟨trivial,?_⟩) (fun h=>hK ?_)⟩⟩
  ·have h':(l[k]).check≠0:=h
   rw [checkAll_take hJ hk h'] at hQ
   exact hQ
  ·have h':(l[k]).check=0:=h
   rw [Tm.checkAll_zero] at hJ ⊢
   rw [List.take_succ_eq_append_getElem hk]
   intro t ht
   rcases List.mem_append.1 ht with ht | ht
   ·exact hJ t ht
   ·rw [List.mem_singleton.1 ht]; exact h'
 ·rw [List.take_length] at hJ
  rw [hJ] at hQ
  exact ⟨trivial,hQ⟩
theorem cmp_take:∀ (l m:List UInt8) (k:Nat),k≤l.length→k≤m.length→l.take k=m.take k→Lib.compareBytes l m=Lib.compareBytes (l.drop k) (m.drop k)
 | l,m,0,_,_,_=>by simp
 | a::l,b::m,k+1,h1,h2,h=>by
  simp only [List.take_succ_cons,List.cons.injEq] at h
  obtain ⟨rfl,h⟩:=h
  have h0:¬ a<a:=by rw [u8_lt]; omega
  simp only [Lib.compareBytes,if_neg h0,List.drop_succ_cons]
  exact cmp_take l m k (by simpa using h1) (by simpa using h2) h
 | [],_,k+1,h,_,_=>by simp at h
 | _::_,[],k+1,_,h,_=>by simp at h
theorem r01_CompareNames_ok (a b:ByteArray):Fn ZY [sD a,sD b] (iD (cmpN a b)):=fun Q hQ=>by
 refine Zk1 _ _ _ fun ha hb=>?_
 rw [big_eq] at ha hb
 have hla:=ba_size a
 have hlb:=ba_size b
 have e0:(if ((b.size:Int))<((a.size:Int)) then ((b.size:Int)) else ((a.size:Int)))=((min a.size b.size:Nat):Int):=by split <;> omega
 rw [e0]
 unfold cmpN at hQ
 generalize hx:a.data.toList=x at *
 generalize hy:b.data.toList=y at *
 refine ZgX Q a b _ (by rw [big_eq]; omega) (fun k=>x.take k=y.take k) (fun k hk hJ K hK=>?_) (fun hJ=>?_) 0 (Nat.zero_le _) rfl
 ·have hkx:k<x.length:=by omega
  have hky:k<y.length:=by omega
  have ex:x.getD k 0=x[k]:=by rw [List.getD_eq_getElem?_getD,List.getElem?_eq_getElem hkx]; rfl
  have ey:y.getD k 0=y[k]:=by rw [List.getD_eq_getElem?_getD,List.getElem?_eq_getElem hky]; rfl
  rw [hx,hy,ex,ey]
  have bx:=(x[k]).toNat_lt
  have by_:=(y[k]).toNat_lt
  refine ⟨by omega,by omega,by omega,by omega,iff_bne (fun h=>⟨by omega,by omega,by omega,by omega,r01_CompareInts_ok _ _ _ ⟨rfl,rfl,trivial,?_⟩⟩) (fun h=>hK ?_)⟩
  ·rw [wrap_in _ (by omega) (by omega),wrap_in _ (by omega) (by omega)]
   have:=cmp_take x y k (by omega) (by omega) hJ
   rw [List.drop_eq_getElem_cons hkx,List.drop_eq_getElem_cons hky] at this
   simp only [Lib.compareBytes,u8_lt] at this
   rw [this] at hQ
   by_cases h1:(x[k]).toNat<(y[k]).toNat
   ·rw [if_pos h1] at hQ; rw [if_pos (by omega)]; exact hQ
   ·rw [if_neg h1,if_pos (by omega)] at hQ; rw [if_neg (by omega),if_pos (by omega)]; exact hQ
  ·rw [List.take_succ_eq_append_getElem hkx,List.take_succ_eq_append_getElem hky,hJ]
   congr 1
   simp only [List.cons.injEq,and_true]
   apply UInt8.toNat_inj.1
   omega
 ·intro _ _
  refine r01_CompareInts_ok _ _ _ ⟨rfl,rfl,trivial,?_⟩
  have:=cmp_take x y (min a.size b.size) (by omega) (by omega) hJ
  rw [this] at hQ
  by_cases h1:a.size<b.size
  ·rw [if_pos (by omega)]
   rw [List.drop_eq_nil_of_le (by omega),show min a.size b.size=a.size by omega,List.drop_eq_getElem_cons (show a.size<y.length by omega)] at hQ
   exact hQ
  ·by_cases h2:b.size<a.size
   ·rw [if_neg (by omega),if_pos (by omega)]
    rw [show min a.size b.size=b.size by omega,List.drop_eq_nil_of_le (show y.length≤b.size by omega),List.drop_eq_getElem_cons (show b.size<x.length by omega)] at hQ
    exact hQ
   ·rw [if_neg (by omega),if_neg (by omega)]
    rw [List.drop_eq_nil_of_le (by omega),List.drop_eq_nil_of_le (by omega)] at hQ
    exact hQ
theorem cmpL_take:∀ (l m:List Tm) (k:Nat) (h1:k<l.length) (h2:k<m.length),(∀ i,(h:i<k)→Tm.cmp (l[i]'(by omega)) (m[i]'(by omega))=0)→Tm.cmpL l m=if Tm.cmp l[k] m[k]≠0 then Tm.cmp l[k] m[k] else Tm.cmpL (l.drop (k+1)) (m.drop (k+1))
 | a::l,b::m,0,_,_,_=>by simp [Tm.cmpL]
 | a::l,b::m,k+1,h1,h2,h=>by
  have h0:=h 0 (by omega)
  simp only [List.getElem_cons_zero] at h0
  simp only [Tm.cmpL]
  rw [if_neg (by simp [h0])]
  simp only [List.getElem_cons_succ,List.drop_succ_cons]
  exact cmpL_take l m k (by simpa using h1) (by simpa using h2) fun i hi=>by
   have:=h (i+1) (by omega)
   simpa using this
 | [],_,_,h,_,_=>by simp at h
 | _::_,[],_,_,h,_=>by simp at h
theorem cmpL_all:∀ (l m:List Tm),l.length=m.length→(∀ i (h:i<l.length) (h':i<m.length),Tm.cmp l[i] m[i]=0)→Tm.cmpL l m=0
 | [],[],_,_=>by simp [Tm.cmpL]
 | a::l,b::m,hl,h=>by
  have h0:=h 0 (by simp) (by simp)
  simp only [List.getElem_cons_zero] at h0
  simp only [Tm.cmpL]
  rw [if_neg (by simp [h0])]
  exact cmpL_all l m (by simpa using hl) fun i h1 h2=>by
   have:=h (i+1) (by simpa using h1) (by simpa using h2)
   simpa using this
 | [],_::_,h,_=>by simp at h
 | _::_,[],h,_=>by simp at h
theorem r01_Compare_ok:∀ (a b:Tm),Fn ZeE [tD a,tD b] (iD (Tm.cmp a b)):=Tm.ind fun a ih b Q hQ=>by
 refine ZpM _ _ _ _ _ _ _ ?_
 unfold ZiS
 rw [Tm.cmp_eq] at hQ
 have hla:=Tm.encL_length a.args
 have hlb:=Tm.encL_length b.args
 refine iff_not (iff_beq (fun h=>?_) (fun h=>?_))
 ·rw [if_neg (by simp [h])] at hQ
  refine r01_CompareNames_ok _ _ _ ⟨rfl,rfl,iff_bne (fun h2=>⟨trivial,?_⟩) (fun h2 ha hb=>?_)⟩
  ·have h2:cmpN a.name b.name≠0:=h2
   rw [if_pos h2] at hQ; exact hQ
  ·have h2:cmpN a.name b.name=0:=h2
   rw [if_neg (by simp [h2])] at hQ
   rw [hla,hlb]
   refine r01_CompareInts_ok _ _ _ ⟨rfl,rfl,iff_bne (fun h3=>⟨trivial,?_⟩) (fun h3 _=>?_)⟩
   ·have h3:Tm.cmpI a.args.length b.args.length≠0:=h3
    rw [if_pos h3] at hQ; exact hQ
   ·have h3:Tm.cmpI a.args.length b.args.length=0:=h3
    rw [if_neg (by simp [h3])] at hQ
    have h4:=Tm.cmpI_zero.1 h3
    rw [hla] at ha
    refine ZjG Q _ _ _ _ _ _ _ ha (fun k=>∀ i (hi:i<k) (h1:i<a.args.length) (h2:i<b.args.length),Tm.cmp (a.args[i]) (b.args[i])=0) (fun k hk hJ K hK=>?_) (fun hJ=>?_) 0 (Nat.zero_le _) (fun i hi=>by omega)
    ·have hk2:k<b.args.length:=by omega
     simp only [Tm.encL_getD _ k hk,Tm.encL_getD _ k hk2,Tm.enc_eq,List.drop_zero,List.headD_cons,List.tail_cons]
     refine ⟨by omega,by omega,by omega,by omega,ih _ (List.getElem_mem hk) _ _ ⟨rfl,rfl,iff_bne (fun h5=>⟨trivial,?_⟩) (fun h5=>hK ?_)⟩⟩
     ·have h5:Tm.cmp (a.args[k]) (b.args[k])≠0:=h5
      rw [cmpL_take _ _ k hk hk2 (fun i hi=>hJ i hi _ _),if_pos h5] at hQ
      exact hQ
     ·intro i hi h6 h7
      rcases Nat.lt_succ_iff_lt_or_eq.1 hi with h8 | rfl
      ·exact hJ i h8 h6 h7
      ·exact h5
    ·rw [cmpL_all _ _ (by omega) (fun i h1 h2=>hJ i (by omega) h1 h2)] at hQ
     exact ⟨trivial,hQ⟩
 ·rw [if_pos h] at hQ
  refine iff_intro (fun hv=>⟨trivial,?_⟩) (fun hv=>⟨trivial,?_⟩)
  ·rw [hv,if_pos rfl] at hQ; exact hQ
  ·rw [hv,if_neg (by simp)] at hQ; exact hQ
theorem r01_Equal_ok (a b:Tm):Fn ZaT [tD a,tD b] (bD (Tm.eqB a b)):=fun Q hQ=>by
 refine ZqR _ _ _ _ _ _ _ ?_
 unfold Zma
 refine r01_Compare_ok a b _ ⟨rfl,rfl,trivial,?_⟩
 unfold Tm.eqB at hQ
 exact hQ
end Go.Proofs.YthjlodlkpgjlkaaGreat
namespace Go.Proofs.YthjlodlkpgjlkaaGreat
open Go.Abs
theorem Fn.as {f:FuncId} {args:List D} {r:D} (h:∀ Q:D→Heap→Prop,(∀ r0,As r0 r→Q r0 [])→cl f args [] Q):Fn f args r:=fun Q hQ =>
 ACalls.as (h _ fun r0 h0=>⟨r,h0,hQ⟩)
abbrev Su:=List (ByteArray×Tm)
def encB (x:ByteArray×Tm):List V:=.s x.1::x.2.enc
def encS (l:Su):List (List V):=l.map encB
abbrev suD (l:Su):D:=.v (.sl Za0) (.l (encS l))
theorem encS_length (l:Su):(encS l).length=l.length:=by simp [encS]
theorem encS_getD (l:Su) (k:Nat) (h:k<l.length):(encS l).getD k []=.s (l[k]).1::(l[k]).2.enc:=by
 rw [encS,List.getD_eq_getElem?_getD,List.getElem?_map,List.getElem?_eq_getElem h]; rfl
namespace Tm
def image (l:Su) (x:ByteArray):Tm:=match l with
 | []=>mk x true []
 | (y,t)::r=>if y=x then t else image r x
mutual
def app (l:Su):Tm→Tm | mk n v xs=>if v then image l n else mk n false (appL l xs)
def appL (l:Su):List Tm→List Tm | []=>[] | t::r=>app l t::appL l r
end
theorem app_eq (l:Su):∀ t:Tm,app l t=if t.var then image l t.name else mk t.name false (t.args.map (app l)):=by
 have:∀ xs,appL l xs=xs.map (app l):=by
  intro xs
  induction xs with
  | nil=>rfl
  | cons t r ih=>simp [appL,ih]
 intro t
 cases t with
 | mk n v xs =>
  show (if v then image l n else mk n false (appL l xs))=_
  rw [this]
  rfl
def fits (l:Su) (t:Tm):Bool:=decide ((app l t).size≤4000)&&decide ((app l t).depth≤200)
theorem image_take {l:Su} {x:ByteArray} {k:Nat} (hk:k<l.length) (h:∀ i (hi:i<k),(l[i]'(by omega)).1≠x) (he:(l[k]).1=x):image l x=(l[k]).2:=by
 induction l generalizing k with
 | nil=>simp at hk
 | cons y r ih =>
  cases k with
  | zero=>simp only [List.getElem_cons_zero] at he ⊢; simp only [image]; rw [if_pos he]
  | succ k =>
   have h0:=h 0 (by omega)
   simp only [List.getElem_cons_zero] at h0
   simp only [image]
   rw [if_neg h0]
   simp only [List.getElem_cons_succ] at he ⊢
   exact ih (by simpa using hk) (fun i hi=>by have:=h (i+1) (by omega); simpa using this) he
theorem image_none {l:Su} {x:ByteArray} (h:∀ i (hi:i<l.length),(l[i]).1≠x):image l x=mk x true []:=by
 induction l with
 | nil=>rfl
 | cons y r ih =>
  have h0:=h 0 (by simp)
  simp only [List.getElem_cons_zero] at h0
  simp only [image]
  rw [if_neg h0]
  exact ih fun i hi=>by have:=h (i+1) (by simpa using hi); simpa using this
end Tm
theorem r01_Image_ok (l:Su) (x:ByteArray):Fn Zhl [suD l,sD x] (tD (Tm.image l x)):=Fn.as fun Q hQ=>by
 refine ZqY _ _ _ fun hb=>?_
 have hl:=encS_length l
 rw [hl] at hb ⊢
 refine ZlS Q _ _ _ _ _ hb (fun k=>∀ i (hi:i<k) (h:i<l.length),(l[i]).1≠x) (fun k hk hJ K hK=>?_) (fun hJ=>?_) 0 (Nat.zero_le _) (fun i hi=>by omega)
 ·simp only [encS_getD _ k hk,Tm.enc_eq,List.drop_zero,List.headD_cons,List.tail_cons,V.str]
  refine ⟨by omega,by omega,?_⟩
  rw [ba_beq]
  refine iff_dec (fun h=>⟨⟨trivial,trivial,trivial,trivial⟩,?_⟩) (fun h=>hK ?_)
  ·rw [Tm.image_take hk (fun i hi=>hJ i hi _) h] at hQ
   exact hQ _ (.refl _)
  ·intro i hi h6
   rcases Nat.lt_succ_iff_lt_or_eq.1 hi with h8 | rfl
   ·exact hJ i h8 h6
   ·exact h
 ·refine ⟨⟨trivial,trivial,trivial,trivial⟩,?_⟩
  rw [Tm.image_none fun i hi=>hJ i hi hi] at hQ
  exact hQ _ (.last3 _ _ _)
theorem r01_Apply_ok (l:Su):∀ t:Tm,t.size≤lim→Fn Zei [suD l,tD t] (tD (Tm.app l t)):=Tm.ind fun t ih hB Q hQ=>by
 refine Zq2 _ _ _ _ _ ?_
 unfold Zmg
 have ha:=Tm.app_eq l t
 refine iff_intro (fun h=>?_) (fun h hb=>?_)
 ·rw [h,if_pos rfl] at ha
  rw [ha] at hQ
  exact r01_Image_ok l _ _ ⟨rfl,rfl,⟨trivial,trivial,trivial,trivial⟩,hQ⟩
 ·rw [h,if_neg (by simp)] at ha
  have hl:=Tm.encL_length t.args
  rw [hl] at hb ⊢
  have hsz:=Tm.size_eq t
  have hls:=Tm.length_sizeL t.args
  refine ZlM Q _ _ _ _ _ _ _ hb (fun k n y=>n=k∧y=Tm.encL ((t.args.take k).map (Tm.app l))) (fun k n y hk hJ K hK=>?_) (fun n y hJ=>?_) 0 0 _ (Nat.zero_le _) ⟨rfl,rfl⟩
  ·simp only [Tm.encL_getD _ k hk,Tm.enc_eq,List.drop_zero,List.headD_cons,List.tail_cons]
   obtain ⟨rfl,rfl⟩:=hJ
   have hm:=Tm.size_mem (List.getElem_mem hk)
   refine ⟨by omega,by omega,tD (Tm.app l (t.args[n])),(ih _ (List.getElem_mem hk) (by omega)).here rfl,?_,?_,hK _ _ ⟨?_,?_⟩⟩
   ·rw [Tm.encL_length,List.length_map,List.length_take]; omega
   ·show n+1≤lim; omega
   ·rfl
   ·rw [List.take_succ_eq_append_getElem hk,List.map_append,Tm.encL_eq,Tm.encL_eq,List.map_append]
    congr 1
    simp only [List.map_cons,List.map_nil]
    rw [Tm.enc_eq]
    rfl
  ·obtain ⟨rfl,rfl⟩:=hJ
   rw [List.take_length]
   refine ⟨⟨trivial,trivial,?_,trivial⟩,?_⟩
   ·rw [Tm.encL_length,List.length_map]
   ·rw [ha] at hQ; exact hQ
theorem r01_Grown_ok (l:Su):∀ t:Tm,(Tm.app l t).size≤small→Fn ZfZ [suD l,tD t] (.tup [iD (Tm.app l t).size,iD (Tm.app l t).depth]):=Tm.ind fun t ih hB Q hQ=>by
 refine Zq4 _ _ _ _ _ ?_
 unfold Zmh
 have ha:=Tm.app_eq l t
 refine iff_intro (fun h=>?_) (fun h hb=>?_)
 ·rw [h,if_pos rfl] at ha
  rw [ha] at hQ hB
  exact r01_Image_ok l _ _ ⟨rfl,rfl,iD (Tm.image l t.name).size,(r01_Size_ok _ hB).here rfl,r01_Depth_ok _ hB _ ⟨rfl,rfl,⟨trivial,trivial,trivial⟩,hQ⟩⟩
 ·rw [h,if_neg (by simp)] at ha
  have hl:=Tm.encL_length t.args
  rw [hl] at hb ⊢
  have hs:(Tm.app l t).size=1+Tm.sizeL (t.args.map (Tm.app l)):=by rw [ha,Tm.size_eq]; rfl
  have hd:(Tm.app l t).depth=Tm.depthL (t.args.map (Tm.app l))+1:=by rw [ha,Tm.depth_eq]; rfl
  have hds:=Tm.depth_le_size (Tm.app l t)
  rw [small_eq] at hB
  rw [hs,hd] at hQ
  rw [hs] at hB hds
  rw [hd] at hds
  refine ZlR Q _ _ _ hb (fun k n d=>n=((1+Tm.sizeL ((t.args.map (Tm.app l)).take k):Nat):Int)∧d=(Tm.depthL ((t.args.map (Tm.app l)).take k):Int)) (fun k n d hk hJ K hK=>?_) (fun n d hJ=>?_) 0 1 0 (Nat.zero_le _) ⟨rfl,rfl⟩
  ·simp only [Tm.encL_getD _ k hk,Tm.enc_eq,List.drop_zero,List.headD_cons,List.tail_cons]
   have hk':k<(t.args.map (Tm.app l)).length:=by simpa using hk
   have hm:=Tm.sizeL_mem (List.getElem_mem hk')
   have h1:=Tm.sizeL_take _ k hk'
   have h2:=Tm.sizeL_take_le (t.args.map (Tm.app l)) (k+1)
   have h3:=Tm.depthL_take _ k hk'
   rw [List.getElem_map] at hm h1 h3
   refine ⟨by omega,by omega,ih _ (List.getElem_mem hk) (by rw [small_eq]; omega) _ ⟨rfl,rfl,hK _ _ ⟨?_,?_⟩⟩⟩
   ·rw [hJ.1]
    show IntKind.i64.wrap (_+((Tm.app l (t.args[k])).size:Int))=_
    rw [wrap_in _ (by omega) (by omega)]
    omega
   ·rw [hJ.2]
    show (if ((Tm.app l (t.args[k])).depth:Int) > _ then ((Tm.app l (t.args[k])).depth:Int) else _)=_
    rw [h3]
    split <;> omega
  ·rw [List.take_of_length_le (by simp)] at hJ
   obtain ⟨rfl,rfl⟩:=hJ
   rw [wrap_in _ (by omega) (by omega)]
   exact ⟨⟨trivial,trivial,trivial⟩,hQ⟩
theorem r01_Fits_ok (l:Su) (t:Tm) (hB:(Tm.app l t).size≤small):Fn Zl2 [suD l,tD t] (bD (Tm.fits l t)):=fun Q hQ=>by
 refine Zrp _ _ _ _ _ ?_
 unfold Zn5
 refine r01_Grown_ok l t hB _ ⟨rfl,rfl,iff_dec (fun h=>⟨trivial,?_⟩) (fun h=>⟨trivial,?_⟩)⟩
 ·have h:((Tm.app l t).size:Int)≤4000:=h
  unfold Tm.fits at hQ
  rw [decide_eq_true (show (Tm.app l t).size≤4000 by omega),Bool.true_and] at hQ
  show Q (bD (decide (((Tm.app l t).depth:Int)≤200))) []
  have e:decide (((Tm.app l t).depth:Int)≤200)=decide ((Tm.app l t).depth≤200):=by
   rw [Bool.eq_iff_iff]; simp only [decide_eq_true_iff]; omega
  rw [e]; exact hQ
 ·have h:¬ ((Tm.app l t).size:Int)≤4000:=h
  unfold Tm.fits at hQ
  rw [decide_eq_false (show ¬ (Tm.app l t).size≤4000 by omega),Bool.false_and] at hQ
  exact hQ
end Go.Proofs.YthjlodlkpgjlkaaGreat
namespace Go.Proofs.YthjlodlkpgjlkaaGreat
open Go.Abs
def bz:ByteArray:=ByteArray.mk #[]
def nameAt (m:Bool) (l:List ByteArray) (k:Nat):Bool:=nameOk (l.getD k bz) m&&(decide (k=0)||decide (cmpN (l.getD (k - 1) bz) (l.getD k bz) = -1))
def namesOk (m:Bool) (l:List ByteArray):Bool:=(List.range l.length).all (nameAt m l)
theorem namesOk_all {m:Bool} {l:List ByteArray} (h:∀ k,k<l.length→nameAt m l k=true):namesOk m l=true:=by
 unfold namesOk; rw [List.all_eq_true]; intro k hk; exact h k (by simpa using hk)
theorem namesOk_not {m:Bool} {l:List ByteArray} {k:Nat} (hk:k<l.length) (h:nameAt m l k=false):namesOk m l=false:=by
 rw [← Bool.not_eq_true]
 intro ha
 unfold namesOk at ha
 have:=(List.all_eq_true.1 ha) k (by simpa using hk)
 rw [h] at this; cases this
theorem namesOk_at {m:Bool} {l:List ByteArray} (h:namesOk m l=true) {k:Nat} (hk:k<l.length):nameAt m l k=true:=by
 unfold namesOk at h
 exact (List.all_eq_true.1 h) k (by simpa using hk)
theorem cmpN_lt (a b:ByteArray):cmpN a b≥0↔¬ cmpN a b = -1:=by rcases cmpN_cases a b with h | h | h <;> omega
def suNames (l:Su):List ByteArray:=l.map (·.1)
theorem suNames_getD (l:Su) (k:Nat) (h:k<l.length):(suNames l).getD k bz=(l[k]).1:=by
 rw [suNames,List.getD_eq_getElem?_getD,List.getElem?_map,List.getElem?_eq_getElem h]; rfl
def suErr (l:Su):Int:=if namesOk false (suNames l) then Tm.checkAll (l.map (·.2)) else 4
theorem r01_CheckSubst_ok (l:Su) (hB:∀ x∈l,x.2.size≤small):Fn ZfB [suD l] (iD (suErr l)):=fun Q hQ=>by
 refine Zmw _ _ fun hb=>?_
 have hl:=encS_length l
 have hl2:(suNames l).length=l.length:=by simp [suNames]
 rw [hl] at hb ⊢
 rw [big_eq] at hb
 unfold suErr at hQ
 have bad:namesOk false (suNames l)=false→Q (iD 4) []:=fun h=>by rw [h] at hQ; exact hQ
 refine ZhH Q _ _ _ (by rw [big_eq]; exact hb) (fun k=>∀ i,i<k→nameAt false (suNames l) i=true) (fun k hk hJ K hK=>?_) (fun hJ hb=>?_) 0 (Nat.zero_le _) (fun i hi=>by omega)
 ·simp only [encS_getD _ k hk,Tm.enc_eq,List.drop_zero,List.headD_cons,List.tail_cons]
  have hn:=suNames_getD l k hk
  refine ⟨by omega,by omega,bD (nameOk (l[k]).1 false),(r01_IsName_ok _ _).here rfl,?_⟩
  have next:nameAt false (suNames l) k=true→∀ i,i<k+1→nameAt false (suNames l) i=true:=fun h i hi=>by
   rcases Nat.lt_succ_iff_lt_or_eq.1 hi with h8 | rfl
   ·exact hJ i h8
   ·exact h
  refine iff_not (iff_intro (fun h=>iff_dec (fun h0=>?_) (fun h0=>hK (next ?_))) (fun h=>⟨trivial,bad (namesOk_not (k:=k) (by omega) ?_)⟩))
  ·have h:nameOk (l[k]).1 false=true:=h
   have hk1:k - 1<l.length:=by omega
   have hp:=suNames_getD l (k - 1) hk1
   rw [wrap_in _ (by omega) (by omega)]
   have e1:((k:Int) - 1).toNat=k - 1:=by omega
   rw [e1]
   simp only [encS_getD _ (k - 1) hk1,Tm.enc_eq,List.drop_zero,List.headD_cons,List.tail_cons]
   have hk0:¬ k=0:=by omega
   refine ⟨by omega,by omega,r01_CompareNames_ok _ _ _ ⟨rfl,rfl,iff_dec (fun h2=>⟨trivial,bad (namesOk_not (k:=k) (by omega) ?_)⟩) (fun h2=>hK (next ?_))⟩⟩
   ·have h2:cmpN (l[k-1]).1 (l[k]).1≥0:=h2
    unfold nameAt
    rw [hn,hp,h,Bool.true_and,decide_eq_false hk0,decide_eq_false ((cmpN_lt _ _).1 h2)]; rfl
   ·have h2:¬ cmpN (l[k-1]).1 (l[k]).1≥0:=h2
    unfold nameAt
    rw [hn,hp,h,Bool.true_and,decide_eq_false hk0,decide_eq_true (Classical.byContradiction fun h3=>h2 ((cmpN_lt _ _).2 h3))]; rfl
  ·have h:nameOk (l[k]).1 false=true:=h
   unfold nameAt
   rw [hn,h,decide_eq_true (show k=0 by omega)]; rfl
  ·have h:nameOk (l[k]).1 false=false:=h
   unfold nameAt
   rw [hn,h]; rfl
 ·rw [namesOk_all (fun k hk=>hJ k (by omega)),if_pos rfl] at hQ
  have hl3:(l.map (·.2)).length=l.length:=by simp
  rw [hl] at hb ⊢
  refine ZhK Q _ _ hb (fun k=>Tm.checkAll ((l.map (·.2)).take k)=0) (fun k hk hJ K hK=>?_) (fun hJ=>?_) 0 (Nat.zero_le _) rfl
  ·simp only [encS_getD _ k hk,Tm.enc_eq,List.drop_zero,List.headD_cons,List.tail_cons]
   have hk':k<(l.map (·.2)).length:=by omega
   have he:(l.map (·.2))[k]=(l[k]).2:=by simp
   refine ⟨by omega,by omega,r01_Check_ok _ (hB _ (List.getElem_mem hk)) _ ⟨rfl,rfl,iff_bne (fun h=>⟨trivial,?_⟩) (fun h=>hK ?_)⟩⟩
   ·have h':((l[k]).2).check≠0:=h
    rw [checkAll_take hJ hk' (by rw [he]; exact h'),he] at hQ
    exact hQ
   ·have h':((l[k]).2).check=0:=h
    rw [Tm.checkAll_zero] at hJ ⊢
    rw [List.take_succ_eq_append_getElem hk']
    intro t ht
    rcases List.mem_append.1 ht with ht | ht
    ·exact hJ t ht
    ·rw [List.mem_singleton.1 ht,he]; exact h'
  ·rw [← hl3,List.take_length] at hJ
   rw [hJ] at hQ
   exact ⟨trivial,hQ⟩
end Go.Proofs.YthjlodlkpgjlkaaGreat
namespace Go.Proofs.YthjlodlkpgjlkaaGreat
open Go.Abs
def idx {α:Type} (p:α→Bool) (l:List α):Int:=match l.findIdx? p with | some i=>i | none=>-1
theorem idx_at {α:Type} {p:α→Bool} {l:List α} {k:Nat} (hk:k<l.length) (h:(l.take k).any p=false) (hp:p l[k]=true):idx p l=k:=by
 have e:l.findIdx? p=some k:=by
  rw [List.findIdx?_eq_some_iff_getElem]
  refine ⟨hk,hp,fun j hj=>?_⟩
  have:=List.any_eq_false.1 h (l[j]'(by omega)) (List.mem_take_iff_getElem.2 ⟨j,by omega,rfl⟩)
  exact this
 unfold idx; rw [e]
theorem idx_none {α:Type} {p:α→Bool} {l:List α} (h:l.any p=false):idx p l = -1:=by
 have e:l.findIdx? p=none:=by
  rw [List.findIdx?_eq_none_iff]
  intro x hx
  have:=List.any_eq_false.1 h x hx
  simpa using this
 unfold idx; rw [e]
theorem idx_any {α:Type} (p:α→Bool) (l:List α):decide (idx p l≥0)=l.any p:=by
 cases h:l.any p with
 | false=>rw [idx_none h]; rfl
 | true =>
  unfold idx
  cases e:l.findIdx? p with
  | some i=>exact decide_eq_true (by show (i:Int)≥0; omega)
  | none =>
   rw [List.findIdx?_eq_none_iff] at e
   obtain ⟨x,hx,hp⟩:=List.any_eq_true.1 h
   rw [e x hx] at hp; cases hp
theorem any_take {α:Type} {p:α→Bool} {l:List α} {k:Nat} (hk:k<l.length) (h:(l.take k).any p=false) (hp:p l[k]=false):(l.take (k+1)).any p=false:=by
 rw [List.take_succ_eq_append_getElem hk,List.any_append,h,List.any_cons,List.any_nil,hp]; rfl
theorem term_inName_ok (c:Int):Fn Zg3 [uD c] (bD (letterB c)):=by
 intro Q hQ
 refine ZpA _ _ ?_
 have key:∀ b,b=letterB c→True∧Q (bD b) []:=by rintro _ rfl; exact ⟨trivial,hQ⟩
 unfold ZiV
 repeat' (first | (refine iff_dec (fun _=>?_) (fun _=>?_)) | (refine iff_beq (fun _=>?_) (fun _=>?_)) | fail)
 all_goals
  refine key _ ?_
  unfold letterB
  rw [Bool.eq_iff_iff]
  simp only [decide_eq_true_iff,beq_iff_eq,true_iff]
  omega
theorem term_IsName_1_ok (c:Int):Fn Z5 [uD c] (bD (!letterB c)):=fun Q hQ=>by
 refine ZnQ _ _ ?_
 unfold Zhx
 exact term_inName_ok c _ ⟨rfl,rfl,trivial,hQ⟩
theorem stringslite_HasSuffix_ok (a b:ByteArray):Fn Za8 [sD a,sD b] (bD (decide (b.data.toList <:+ a.data.toList))):=fun Q hQ=>by
 refine Zho _ _ _ fun ha hb=>?_
 rw [big_eq] at ha hb
 have hla:=ba_size a
 have hlb:=ba_size b
 refine iff_dec (fun h _ _=>?_) (fun h=>⟨trivial,?_⟩)
 ·rw [wrap_in _ (by omega) (by omega)]
  refine ⟨by omega,by omega,by omega,trivial,?_⟩
  rw [ba_beq]
  have e:(a.extract ((a.size:Int) - (b.size:Int)).toNat ((a.size:Int)).toNat=b)↔b.data.toList <:+ a.data.toList:=by
   rw [List.suffix_iff_eq_drop,← ba_eq_iff,extract_list,List.take_of_length_le (by omega)]
   have:((a.size:Int) - (b.size:Int)).toNat=a.data.toList.length - b.data.toList.length:=by omega
   rw [this]
   exact eq_comm
  rw [decide_eq_decide.2 e]
  exact hQ
 ·have:¬ b.data.toList <:+ a.data.toList:=fun h2=>by have:=h2.length_le; omega
  rw [decide_eq_false this] at hQ
  exact hQ
def trim (a b:ByteArray):ByteArray:=if b.data.toList <:+ a.data.toList then a.extract 0 (a.size - b.size) else a
theorem stringslite_TrimSuffix_ok (a b:ByteArray):Fn ZbZ [sD a,sD b] (sD (trim a b)):=fun Q hQ=>by
 refine ZgW _ _ _ ?_
 unfold Zd3
 unfold trim at hQ
 refine stringslite_HasSuffix_ok a b _ ⟨rfl,rfl,iff_dec (fun h ha hb=>?_) (fun h=>⟨trivial,?_⟩)⟩
 ·rw [if_pos h] at hQ
  rw [big_eq] at ha hb
  have hla:=ba_size a
  have hlb:=ba_size b
  have:=h.length_le
  rw [wrap_in _ (by omega) (by omega)]
  refine ⟨by omega,by omega,by omega,trivial,?_⟩
  have e:((a.size:Int) - (b.size:Int)).toNat=a.size - b.size:=by omega
  rw [e]; exact hQ
 ·rw [if_neg h] at hQ; exact hQ
theorem strings_TrimSuffix_ok (a b:ByteArray):Fn ZdA [sD a,sD b] (sD (trim a b)):=fun Q hQ=>by
 refine ZiE _ _ _ ?_
 unfold Zfl
 exact stringslite_TrimSuffix_ok a b _ ⟨rfl,rfl,trivial,hQ⟩
theorem bytesV_getD (s:ByteArray) (k:Nat) (h:k<s.data.toList.length):(bytesV s).getD k []=[.i ((s.data.toList[k]).toNat:Int)]:=by
 rw [bytesV,List.getD_eq_getElem?_getD,List.getElem?_map,List.getElem?_eq_getElem h]; rfl
theorem slices_IndexFunc_byte_ok (s:ByteArray):Fn Zb3 [.v (.sl Zi7) (.l (bytesV s)),.fn Z5 []] (iD (idx (fun c:UInt8=>!letterB (c.toNat:Int)) s.data.toList)):=fun Q hQ=>by
 refine Zem _ _ fun hb=>?_
 have hl:(bytesV s).length=s.data.toList.length:=by simp [bytesV]
 rw [hl] at hb ⊢
 refine Zcx Q _ _ hb (fun k=>(s.data.toList.take k).any (fun c:UInt8=>!letterB (c.toNat:Int))=false) (fun k hk hJ K hK=>?_) (fun hJ=>⟨trivial,?_⟩) 0 (Nat.zero_le _) rfl
 ·simp only [bytesV_getD _ k hk,List.drop_zero,List.headD_cons]
  refine ⟨by omega,by omega,term_IsName_1_ok _ _ ⟨rfl,rfl,iff_intro (fun h=>⟨trivial,?_⟩) (fun h=>hK (any_take hk hJ h))⟩⟩
  rw [idx_at hk hJ h] at hQ
  exact hQ
 ·rw [List.take_length] at hJ
  rw [idx_none hJ] at hQ
  exact hQ
theorem slices_ContainsFunc_byte_ok (s:ByteArray):Fn Zbo [.v (.sl Zi7) (.l (bytesV s)),.fn Z5 []] (bD (s.data.toList.any fun c:UInt8=>!letterB (c.toNat:Int))):=fun Q hQ=>by
 refine Zc9 _ _ ?_
 unfold ZaH
 refine slices_IndexFunc_byte_ok s _ ⟨rfl,rfl,trivial,?_⟩
 rw [← idx_any] at hQ
 exact hQ
theorem hash_suffix (l:List UInt8):([35] <:+ l)↔markedL l=true:=by
 unfold markedL
 rw [decide_eq_true_iff]
 constructor
 ·rintro ⟨m,rfl⟩; simp
 ·intro h
  have hne:l≠[]:=by rintro rfl; simp at h
  refine ⟨l.dropLast,?_⟩
  rw [List.getLast?_eq_some_getLast hne] at h
  have:=List.dropLast_concat_getLast hne
  rw [Option.some.inj h] at this
  exact this
theorem term_IsName_ok (s:ByteArray) (m:Bool):Fn Zdg [sD s,bD m] (bD (nameOk s m)):=fun Q hQ=>by
 refine Zp8 _ _ _ fun hb=>?_
 have hl:=ba_size s
 have fin:∀ x:ByteArray,s.size≤24→nameOk s m=(decide (0<x.size)&&lettersL x.data.toList)→Zeb Q (.s x):=fun x _ hx=>by
  rw [Zj6]
  unfold Zhp
  rw [hx] at hQ
  show iff (!(x.toList == (ByteArray.mk #[]).toList)) _ _
  rw [ba_beq]
  refine iff_not (iff_dec (fun h=>⟨trivial,?_⟩) (fun h=>?_))
  ·rw [ba_nil] at h
   rw [decide_eq_false (by omega)] at hQ
   exact hQ
  ·rw [ba_nil] at h
   rw [decide_eq_true (by omega)] at hQ
   refine slices_ContainsFunc_byte_ok x _ ⟨rfl,rfl,trivial,?_⟩
   have e:(!(x.data.toList.any fun c:UInt8=>!letterB (c.toNat:Int)))=(true&&lettersL x.data.toList):=by
    unfold lettersL
    rw [List.all_eq_not_any_not]; rfl
   rw [← e] at hQ
   exact hQ
 refine iff_dec (fun h=>⟨trivial,?_⟩) (fun h=>iff_intro (fun hm=>?_) (fun hm=>fin s (by omega) ?_))
 ·have:nameOk s m=false:=by unfold nameOk; rw [decide_eq_false (by omega)]; rfl
  rw [this] at hQ; exact hQ
 ·refine strings_TrimSuffix_ok s _ _ ⟨rfl,rfl,fin _ (by omega) ?_⟩
  unfold nameOk trim
  have e35:(ByteArray.mk #[35]).data.toList=[35]:=rfl
  have es:(ByteArray.mk #[35]).size=1:=rfl
  rw [decide_eq_true (show s.size≤24 by omega),hm,Bool.true_and,Bool.true_and,e35,es]
  by_cases hk:markedL s.data.toList=true
  ·rw [if_pos hk,if_pos ((hash_suffix _).2 hk)]
   have hx:=extract_list s 0 (s.size - 1)
   have hxs:(s.extract 0 (s.size - 1)).size=s.size - 1:=by rw [← ba_size,hx]; simp
   rw [hx,hxs,List.drop_zero,List.dropLast_eq_take]
   have h1:decide (1<s.size)=decide (0<s.size - 1):=by
    rw [Bool.eq_iff_iff]; simp only [decide_eq_true_iff]; omega
   rw [h1,hl]
  ·rw [if_neg hk,if_neg (fun h=>hk ((hash_suffix _).1 h))]
 ·unfold nameOk
  rw [decide_eq_true (show s.size≤24 by omega),hm]; rfl
theorem formed_any (l:List Tm):(!(l.any fun a=>!a.formed))=l.all Tm.formed:=by rw [List.all_eq_not_any_not]
theorem term_formed_1_ok (t:Tm) (ih:Fn Zb7 [tD t] (bD t.formed)):Fn ZZ [tD t] (bD (!t.formed)):=fun Q hQ=>by
 refine ZnR _ _ _ _ ?_
 unfold Zhs
 exact ih _ ⟨rfl,rfl,trivial,hQ⟩
theorem slices_IndexFunc_Term_ok (l:List Tm) (ih:∀ a∈l,Fn Zb7 [tD a] (bD a.formed)):Fn Zb1 [tsD l,.fn ZZ []] (iD (idx (fun a:Tm=>!a.formed) l)):=fun Q hQ=>by
 refine Zee _ _ fun hb=>?_
 have hl:=Tm.encL_length l
 rw [hl] at hb ⊢
 refine ZcA Q _ _ hb (fun k=>(l.take k).any (fun a:Tm=>!a.formed)=false) (fun k hk hJ K hK=>?_) (fun hJ=>⟨trivial,?_⟩) 0 (Nat.zero_le _) rfl
 ·simp only [Tm.encL_getD _ k hk,Tm.enc_eq,List.drop_zero,List.headD_cons,List.tail_cons]
  refine ⟨by omega,by omega,term_formed_1_ok _ (ih _ (List.getElem_mem hk)) _ ⟨rfl,rfl,iff_intro (fun h=>⟨trivial,?_⟩) (fun h=>hK (any_take hk hJ h))⟩⟩
  rw [idx_at hk hJ h] at hQ
  exact hQ
 ·rw [List.take_length] at hJ
  rw [idx_none hJ] at hQ
  exact hQ
theorem slices_ContainsFunc_Term_ok (l:List Tm) (ih:∀ a∈l,Fn Zb7 [tD a] (bD a.formed)):Fn Zbm [tsD l,.fn ZZ []] (bD (l.any fun a:Tm=>!a.formed)):=fun Q hQ=>by
 refine Zdk _ _ ?_
 unfold ZaG
 refine slices_IndexFunc_Term_ok l ih _ ⟨rfl,rfl,trivial,?_⟩
 rw [← idx_any] at hQ
 exact hQ
theorem term_formed_ok:∀ t:Tm,Fn Zb7 [tD t] (bD t.formed):=Tm.ind fun t ih Q hQ=>by
 refine Zpy _ _ _ _ ?_
 unfold ZiY
 have hl:=Tm.encL_length t.args
 have hf:=Tm.formed_eq t
 refine iff_intro (fun hv hb=>?_) (fun hv hb=>?_)
 ·rw [hv,if_pos rfl] at hf
  rw [hl]
  refine iff_beq (fun h=>term_IsName_ok _ _ _ ⟨rfl,rfl,trivial,?_⟩) (fun h=>⟨trivial,?_⟩)
  ·have:t.args.isEmpty=true:=by rw [List.isEmpty_iff]; exact List.eq_nil_of_length_eq_zero (by omega)
   rw [this,Bool.and_true] at hf
   rw [hf] at hQ; exact hQ
  ·have:t.args.isEmpty=false:=by
    cases he:t.args.isEmpty with
    | false=>rfl
    | true=>rw [List.isEmpty_iff] at he; rw [he] at h; simp at h
   rw [this,Bool.and_false] at hf
   rw [hf] at hQ; exact hQ
 ·rw [hv,if_neg (by simp)] at hf
  rw [hl]
  refine iff_dec (fun h=>term_IsName_ok _ _ _ ⟨rfl,rfl,iff_intro (fun h2=>?_) (fun h2=>⟨trivial,?_⟩)⟩) (fun h=>⟨trivial,?_⟩)
  ·have h2:nameOk t.name true=true:=h2
   rw [h2,decide_eq_true (by omega),Bool.true_and,Bool.true_and,← formed_any] at hf
   refine slices_ContainsFunc_Term_ok t.args ih _ ⟨rfl,rfl,trivial,?_⟩
   rw [hf] at hQ
   exact hQ
  ·have h2:nameOk t.name true=false:=h2
   rw [h2] at hf
   rw [hf] at hQ; exact hQ
  ·rw [decide_eq_false (by omega),Bool.and_false] at hf
   rw [hf] at hQ; exact hQ
theorem term_Size_ok:∀ t:Tm,t.size≤small→Fn Zf2 [tD t] (iD t.size):=Tm.ind fun t ih hB Q hQ=>by
 refine ZqT _ _ _ _ fun hb=>?_
 have hl:=Tm.encL_length t.args
 have hs:=Tm.size_eq t
 rw [small_eq] at hB
 rw [hl] at hb ⊢
 refine ZlF Q _ _ hb (fun k n=>n=((1+Tm.sizeL (t.args.take k):Nat):Int)) (fun k n hk hJ K hK=>?_) (fun n hJ=>?_) 0 1 (Nat.zero_le _) rfl
 ·simp only [Tm.encL_getD _ k hk,Tm.enc_eq,List.drop_zero,List.headD_cons,List.tail_cons]
  have hm:=Tm.size_mem (List.getElem_mem hk)
  refine ⟨by omega,by omega,ih _ (List.getElem_mem hk) (by rw [small_eq]; omega) _ ⟨rfl,rfl,hK _ ?_⟩⟩
  have h1:=Tm.sizeL_take t.args k hk
  have h2:=Tm.sizeL_take_le t.args (k+1)
  subst hJ
  show IntKind.i64.wrap (_+((t.args[k]).size:Int))=_
  rw [wrap_in _ (by omega) (by omega)]
  omega
 ·rw [List.take_length] at hJ
  subst hJ
  rw [hs] at hQ
  exact ⟨trivial,hQ⟩
theorem term_Depth_ok:∀ t:Tm,t.size≤small→Fn Zfw [tD t] (iD t.depth):=Tm.ind fun t ih hB Q hQ=>by
 refine Zql _ _ _ _ fun hb=>?_
 have hl:=Tm.encL_length t.args
 have hd:=Tm.depth_eq t
 have hds:=Tm.depth_le_size t
 rw [small_eq] at hB
 rw [hl] at hb ⊢
 refine Zkq Q _ _ hb (fun k n=>n=(Tm.depthL (t.args.take k):Int)) (fun k n hk hJ K hK=>?_) (fun n hJ=>?_) 0 0 (Nat.zero_le _) rfl
 ·simp only [Tm.encL_getD _ k hk,Tm.enc_eq,List.drop_zero,List.headD_cons,List.tail_cons]
  have hm:=Tm.size_mem (List.getElem_mem hk)
  refine ⟨by omega,by omega,ih _ (List.getElem_mem hk) (by rw [small_eq]; omega) _ ⟨rfl,rfl,hK _ ?_⟩⟩
  subst hJ
  show (if ((t.args[k]).depth:Int) > _ then ((t.args[k]).depth:Int) else _)=_
  rw [Tm.depthL_take t.args k hk]
  split <;> omega
 ·rw [List.take_length] at hJ
  subst hJ
  rw [wrap_in _ (by omega) (by omega)]
  rw [hd] at hQ
  exact ⟨trivial,hQ⟩
theorem term_fits_ok (t:Tm) (hB:t.size≤small):Fn Zi8 [tD t] (bD (decide (t.size≤4000∧t.depth≤200))):=fun Q hQ=>by
 refine ZqQ _ _ _ _ ?_
 unfold Zmk
 refine term_Size_ok t hB _ ⟨rfl,rfl,iff_dec (fun h=>term_Depth_ok t hB _ ⟨rfl,rfl,trivial,?_⟩) (fun h=>⟨trivial,?_⟩)⟩
 ·have h:(t.size:Int)≤4000:=h
  show Q (bD (decide ((t.depth:Int)≤200))) []
  have e:decide ((t.depth:Int)≤200)=decide (t.size≤4000∧t.depth≤200):=by
   rw [Bool.eq_iff_iff]; simp only [decide_eq_true_iff]; omega
  rw [e]; exact hQ
 ·have h:¬ (t.size:Int)≤4000:=h
  rw [decide_eq_false (by omega)] at hQ
  exact hQ
theorem term_Check_ok (t:Tm) (hB:t.size≤small):Fn Zfx [tD t] (iD t.check):=fun Q hQ=>by
 refine ZqG _ _ _ _ ?_
 unfold Zj8
 unfold Tm.check at hQ
 refine term_formed_ok t _ ⟨rfl,rfl,iff_not (iff_intro (fun h=>?_) (fun h=>⟨trivial,?_⟩))⟩
 ·have h':t.formed=true:=h
  rw [h',if_pos rfl] at hQ
  refine term_fits_ok t hB _ ⟨rfl,rfl,iff_not (iff_dec (fun h2=>⟨trivial,?_⟩) (fun h2=>⟨trivial,?_⟩))⟩
  ·rw [if_pos h2] at hQ; exact hQ
  ·rw [if_neg h2] at hQ; exact hQ
 ·have h':t.formed=false:=h
  rw [h',if_neg (by simp)] at hQ
  exact hQ
theorem term_All_ok (l:List Tm) (hB:∀ t∈l,t.size≤small):Fn Zil [tsD l] (iD (Tm.checkAll l)):=fun Q hQ=>by
 refine Zrr _ _ fun hb=>?_
 have hl:=Tm.encL_length l
 rw [hl] at hb ⊢
 refine Zm0 Q _ _ hb (fun k=>Tm.checkAll (l.take k)=0) (fun k hk hJ K hK=>?_) (fun hJ=>?_) 0 (Nat.zero_le _) rfl
 ·simp only [Tm.encL_getD _ k hk,Tm.enc_eq,List.drop_zero,List.headD_cons,List.tail_cons]
  refine ⟨by omega,by omega,term_Check_ok _ (hB _ (List.getElem_mem hk)) _ ⟨rfl,rfl,iff_bne (fun h=>⟨trivial,?_⟩) (fun h=>hK ?_)⟩⟩
  ·have h':(l[k]).check≠0:=h
   rw [checkAll_take hJ hk h'] at hQ
   exact hQ
  ·have h':(l[k]).check=0:=h
   rw [Tm.checkAll_zero] at hJ ⊢
   rw [List.take_succ_eq_append_getElem hk]
   intro t ht
   rcases List.mem_append.1 ht with ht | ht
   ·exact hJ t ht
   ·rw [List.mem_singleton.1 ht]; exact h'
 ·rw [List.take_length] at hJ
  rw [hJ] at hQ
  exact ⟨trivial,hQ⟩
end Go.Proofs.YthjlodlkpgjlkaaGreat
namespace Go.Proofs.YthjlodlkpgjlkaaGreat
open Go.Abs
def encN (l:List ByteArray):List (List V):=l.map fun s=>[.s s]
abbrev nsD (l:List ByteArray):D:=.v (.sl Za) (.l (encN l))
theorem encN_length (l:List ByteArray):(encN l).length=l.length:=by simp [encN]
theorem encN_getD (l:List ByteArray) (k:Nat) (h:k<l.length):(encN l).getD k []=[.s l[k]]:=by
 rw [encN,List.getD_eq_getElem?_getD,List.getElem?_map,List.getElem?_eq_getElem h]; rfl
theorem encN_append (l r:List ByteArray):encN (l++r)=encN l++encN r:=by simp [encN]
theorem encN_take (l:List ByteArray) (k:Nat):encN (l.take k)=(encN l).take k:=by simp [encN,List.map_take]
theorem encN_drop (l:List ByteArray) (k:Nat):encN (l.drop k)=(encN l).drop k:=by simp [encN,List.map_drop]
def hasN (l:List ByteArray) (x:ByteArray):Bool:=l.any fun y=>decide (y=x)
theorem hasN_iff {l:List ByteArray} {x:ByteArray}:hasN l x=true↔x∈l:=by
 unfold hasN; rw [List.any_eq_true]
 constructor
 ·rintro ⟨y,hy,h⟩
  rw [decide_eq_true_iff] at h; exact h▸hy
 ·exact fun h=>⟨x,h,by simp⟩
theorem hasN_false {l:List ByteArray} {x:ByteArray}:hasN l x=false↔x ∉ l:=by rw [← hasN_iff,Bool.not_eq_true]
theorem r01_Has_ok (l:List ByteArray) (x:ByteArray):Fn ZeH [nsD l,sD x] (bD (hasN l x)):=fun Q hQ=>by
 refine Zrt _ _ _ fun hb=>?_
 have hl:=encN_length l
 rw [hl] at hb ⊢
 refine ZnJ Q _ _ _ hb (fun k=>x ∉ l.take k) (fun k hk hJ K hK=>?_) (fun hJ=>?_) 0 (Nat.zero_le _) (by simp)
 ·simp only [encN_getD _ k hk,List.drop_zero,List.headD_cons,V.str]
  refine ⟨by omega,by omega,?_⟩
  rw [ba_beq]
  refine iff_dec (fun h=>⟨trivial,?_⟩) (fun h=>hK ?_)
  ·rw [hasN_iff.2 (h▸List.getElem_mem hk)] at hQ; exact hQ
  ·rw [List.take_succ_eq_append_getElem hk]
   intro hm
   rcases List.mem_append.1 hm with hm | hm
   ·exact hJ hm
   ·exact h (List.mem_singleton.1 hm).symm
 ·rw [List.take_length] at hJ
  rw [hasN_false.2 hJ] at hQ
  exact ⟨trivial,hQ⟩
def insN (l:List ByteArray) (s:ByteArray):List ByteArray:=match l with
 | []=>[s]
 | x::r=>if cmpN x s = -1 then x::insN r s else if x=s then x::r else s::x::r
theorem insN_at (s:ByteArray):∀ (k:Nat) (l:List ByteArray),k≤l.length→(∀ i (h:i<l.length),i<k→cmpN l[i] s = -1)→insN l s=l.take k++insN (l.drop k) s
 | 0,l,_,_=>by simp
 | k+1,[],h,_=>by simp at h
 | k+1,x::r,h,hc=>by
  have h0:=hc 0 (by simp) (by omega)
  simp only [List.getElem_cons_zero] at h0
  rw [insN,if_pos h0,List.take_succ_cons,List.drop_succ_cons,List.cons_append,insN_at s k r (by simpa using h) fun i hi hk=>by
   have:=hc (i+1) (by simpa using hi) (by omega); simpa using this]
theorem insN_length (l:List ByteArray) (s:ByteArray):(insN l s).length≤l.length+1:=by
 induction l with
 | nil=>simp [insN]
 | cons x r ih=>unfold insN; split <;> (try split) <;> simp <;> omega
theorem r01_Insert_ok (l:List ByteArray) (s:ByteArray) (hB:l.length+1≤lim):Fn Zeq [nsD l,sD s] (nsD (insN l s)):=fun Q hQ=>by
 refine Zqo _ _ _ ?_
 unfold ZkE
 have hl:=encN_length l
 have hlim:lim=549755813888:=rfl
 have here:∀ k:Nat,k≤l.length→(∀ i (h:i<l.length),i<k→cmpN l[i] s = -1)→(∀ h:k<l.length,cmpN l[k] s≠-1∧l[k]≠s)→ZbY Q (encN l) s k:=fun k hk hJ hne=>by
  rw [ZlK]
  unfold Zh8
  have e:insN l s=l.take k++s::l.drop k:=by
   rw [insN_at s k l hk hJ]
   congr 1
   cases hd:l.drop k with
   | nil=>rfl
   | cons x r =>
    have hk':k<l.length:=by
     rcases Nat.lt_or_ge k l.length with h | h
     ·exact h
     ·rw [List.drop_eq_nil_of_le h] at hd; cases hd
    have hx:x=l[k]:=by
     rw [List.drop_eq_getElem_cons hk'] at hd; cases hd; rfl
    obtain ⟨g1,g2⟩:=hne hk'
    rw [insN,if_neg (hx▸g1),if_neg (hx▸g2)]
  have t1:((encN l).take ((k:Nat):Int).toNat).drop (0:Int).toNat=encN (l.take k):=by simp [encN_take]
  have t2:((encN l).take (((encN l).length:Int)).toNat).drop ((k:Nat):Int).toNat=encN (l.drop k):=by simp [encN_drop]
  have l1:(encN (l.take k)).length=k:=by rw [encN_length,List.length_take]; omega
  have l2:(encN (l.drop k)).length=l.length - k:=by rw [encN_length,List.length_drop]
  rw [t1,t2,l1,l2]
  simp only [List.nil_append,List.length_nil,List.length_append,List.length_cons,l1,l2]
  refine ⟨by omega,by omega,by omega,trivial,by omega,by omega,by omega,by omega,by omega,by omega,by omega,by omega,by omega,?_⟩
  have e2:encN (l.take k)++[[V.s s]]++encN (l.drop k)=encN (insN l s):=by rw [e]; simp [encN]
  rw [e2]; exact hQ
 refine Zlp Q (fun x0 x1 x5=>x0=encN l∧x1=s∧∃ k:Nat,x5=k∧k≤l.length∧∀ i (h:i<l.length),i<k→cmpN l[i] s = -1) (fun x0 x1 x5=>l.length - x5.toNat) ?_ _ _ _ ⟨rfl,rfl,0,rfl,Nat.zero_le _,fun i _ h=>by omega⟩
 intro x0 x1 x5 hI m0 ih
 obtain ⟨e0,e1,k,e5,hk,hJ⟩:=hI
 rw [e5] at ih
 rw [e0,e1,e5]
 unfold Zf3
 intro hb
 rw [hl]
 refine iff_dec (fun h=>?_) (fun h _=>?_)
 ·have hk':k<l.length:=by omega
  have hx:=encN_getD l k hk'
  simp only [Int.toNat_natCast,hx,List.drop_zero,List.headD_cons]
  refine ⟨by omega,by omega,r01_CompareNames_ok _ _ _ ⟨rfl,rfl,iff_dec (fun h2=>?_) (fun h2 hb2=>iff_dec (fun _=>⟨by omega,by omega,?_⟩) (fun h3=>by omega))⟩⟩
  ·have h2:cmpN l[k] s<0:=h2
   have hm:cmpN l[k] s = -1:=by rcases cmpN_cases l[k] s with h | h | h <;> omega
   rw [wrap_in _ (by omega) (by omega)]
   refine ih _ _ _ ⟨rfl,rfl,k+1,by omega,by omega,fun i hi hik=>?_⟩ (by omega)
   rcases Nat.lt_succ_iff_lt_or_eq.1 hik with h | h
   ·exact hJ i hi h
   ·subst h; exact hm
  ·have h2:¬ cmpN l[k] s<0:=h2
   show iff (l[k].toList == s.toList) _ _
   rw [ba_beq]
   refine iff_dec (fun h4=>⟨trivial,?_⟩) (fun h4=>here k hk hJ fun _=>⟨by omega,h4⟩)
   have e:insN l s=l:=by
    rw [insN_at s k l hk hJ,List.drop_eq_getElem_cons hk',insN,if_neg (by omega),if_pos h4]
    rw [← List.drop_eq_getElem_cons hk',List.take_append_drop]
   rw [e] at hQ
   exact hQ
 ·refine iff_dec (fun h3=>by omega) (fun h3=>here k hk hJ fun h4=>by omega)
namespace Tm
mutual
def collect:Tm→List ByteArray→List ByteArray | mk n v xs,l=>collectL xs (if v then insN l n else l)
def collectL:List Tm→List ByteArray→List ByteArray | [],l=>l | t::r,l=>collectL r (collect t l)
end
theorem collect_eq:∀ (t:Tm) (l:List ByteArray),collect t l=collectL t.args (if t.var then insN l t.name else l) | mk _ _ _,_=>rfl
theorem collectL_append:∀ (a b:List Tm) (l:List ByteArray),collectL (a++b) l=collectL b (collectL a l)
 | [],_,_=>rfl
 | t::r,b,l=>by rw [List.cons_append,collectL,collectL,collectL_append r b]
theorem collectL_take (a:List Tm) (k:Nat) (h:k<a.length) (l:List ByteArray):collectL (a.take (k+1)) l=collect a[k] (collectL (a.take k) l):=by
 rw [List.take_succ_eq_append_getElem h,collectL_append]; rfl
theorem collectL_length:∀ (a:List Tm),(∀ t∈a,∀ l,(collect t l).length≤l.length+t.size)→∀ l,(collectL a l).length≤l.length+sizeL a
 | [],_,l=>by simp [collectL,sizeL]
 | t::r,h,l=>by
  have h1:=h t (by simp) l
  have h2:=collectL_length r (fun t ht=>h t (List.mem_cons_of_mem _ ht)) (collect t l)
  simp only [collectL,sizeL]; omega
theorem collect_length:∀ (t:Tm) (l:List ByteArray),(collect t l).length≤l.length+t.size:=ind fun t ih l=>by
 rw [collect_eq,size_eq]
 have h:=collectL_length t.args ih (if t.var then insN l t.name else l)
 have h2:=insN_length l t.name
 by_cases hv:t.var=true
 ·rw [if_pos hv] at h ⊢; omega
 ·rw [if_neg hv] at h ⊢; omega
theorem collectL_len (a:List Tm) (l:List ByteArray):(collectL a l).length≤l.length+sizeL a:=collectL_length a (fun t _=>collect_length t) l
def vars (l:List Tm):List ByteArray:=collectL l []
end Tm
theorem r01_collect_ok:∀ (t:Tm) (l:List ByteArray),l.length+t.size≤lim→Fn Zdi [tD t,nsD l] (nsD (Tm.collect t l)):=Tm.ind fun t ih l hB Q hQ=>by
 refine Zqi _ _ _ _ _ ?_
 unfold ZiT
 have hlim:lim=549755813888:=rfl
 have hsz:=Tm.size_eq t
 rw [Tm.collect_eq] at hQ
 have rest:∀ m:List ByteArray,m.length≤l.length+1→Q (nsD (Tm.collectL t.args m)) []→Zd9 Q (.l (encN m)) t.name t.var (Tm.encL t.args):=fun m hm hQ=>by
  rw [Zku]
  intro hb
  have hl:=Tm.encL_length t.args
  rw [hl] at hb ⊢
  have hls:=Tm.length_sizeL t.args
  refine ZjD Q _ _ hb (fun k y=>y=.l (encN (Tm.collectL (t.args.take k) m))) (fun k y hk hJ K hK=>?_) (fun y hJ=>?_) 0 _ (Nat.zero_le _) rfl
  ·simp only [Tm.encL_getD _ k hk,Tm.enc_eq,List.drop_zero,List.headD_cons,List.tail_cons]
   subst hJ
   have h1:=Tm.collectL_len (t.args.take k) m
   have h2:=Tm.sizeL_take _ k hk
   have h3:=Tm.sizeL_take_le t.args (k+1)
   exact ⟨by omega,by omega,ih _ (List.getElem_mem hk) _ (by omega) _ ⟨rfl,rfl,hK _ (by rw [Tm.collectL_take _ k hk]; rfl)⟩⟩
  ·subst hJ
   rw [List.take_length]
   exact ⟨trivial,hQ⟩
 refine iff_intro (fun h=>?_) (fun h=>?_)
 ·rw [if_pos h] at hQ
  exact r01_Insert_ok l _ (by have:=Tm.size_pos t; omega) _ ⟨rfl,rfl,rest _ (insN_length _ _) hQ⟩
 ·rw [if_neg (by rw [h]; simp)] at hQ
  exact rest l (by omega) hQ
theorem r01_Vars_ok (l:List Tm) (hB:Tm.sizeL l≤lim):Fn Zlq [tsD l] (nsD (Tm.vars l)):=fun Q hQ=>by
 refine Zrh _ _ fun hb=>?_
 have hl:=Tm.encL_length l
 rw [hl] at hb ⊢
 have hlim:lim=549755813888:=rfl
 have hls:=Tm.length_sizeL l
 refine Zms Q _ _ hb (fun k y=>y=.l (encN (Tm.collectL (l.take k) []))) (fun k y hk hJ K hK=>?_) (fun y hJ=>?_) 0 _ (Nat.zero_le _) rfl
 ·simp only [Tm.encL_getD _ k hk,Tm.enc_eq,List.drop_zero,List.headD_cons,List.tail_cons]
  subst hJ
  have h1:=Tm.collectL_len (l.take k) []
  have h2:=Tm.sizeL_take _ k hk
  have h3:=Tm.sizeL_take_le l (k+1)
  simp only [List.length_nil] at h1
  exact ⟨by omega,by omega,r01_collect_ok _ _ (by omega) _ ⟨rfl,rfl,hK _ (by rw [Tm.collectL_take _ k hk]; rfl)⟩⟩
 ·subst hJ
  rw [List.take_length]
  exact ⟨trivial,hQ⟩
open Classical in
noncomputable def sameS (l m:Su):Bool:=decide (l=m)
abbrev Ru:=List (Tm×Tm)
def encR (x:Tm×Tm):List V:=x.1.enc++x.2.enc
def encRs (l:Ru):List (List V):=l.map encR
abbrev ruD (l:Ru):D:=.v (.sl Zd) (.l (encRs l))
theorem encRs_length (l:Ru):(encRs l).length=l.length:=by simp [encRs]
theorem encRs_getD (l:Ru) (k:Nat) (h:k<l.length):(encRs l).getD k []=[.s (l[k]).1.name,.b (l[k]).1.var,.l (Tm.encL (l[k]).1.args),.s (l[k]).2.name,.b (l[k]).2.var,.l (Tm.encL (l[k]).2.args)]:=by
 rw [encRs,List.getD_eq_getElem?_getD,List.getElem?_map,List.getElem?_eq_getElem h]
 simp [encR,Tm.enc_eq]
def rulesL:Ru→Int
 | []=>0
 | x::r=>if Tm.checkAll [x.1,x.2]≠0 then Tm.checkAll [x.1,x.2] else rulesL r
def rules (l:Ru):Int:=if l.length > 64 then 3 else rulesL l
theorem rulesL_take {l:Ru}:∀ {k:Nat} (hk:k<l.length),(∀ i (h:i<k),Tm.checkAll [(l[i]'(by omega)).1,(l[i]'(by omega)).2]=0)→Tm.checkAll [(l[k]).1,(l[k]).2]≠0→rulesL l=Tm.checkAll [(l[k]).1,(l[k]).2]:=by
 induction l with
 | nil=>intro k hk; simp at hk
 | cons x r ih =>
  intro k hk h hn
  cases k with
  | zero=>simp only [List.getElem_cons_zero] at hn ⊢; rw [rulesL,if_pos hn]
  | succ k =>
   have h0:=h 0 (by omega)
   simp only [List.getElem_cons_zero] at h0
   simp only [List.getElem_cons_succ] at hn ⊢
   rw [rulesL,if_neg (by simp [h0])]
   exact ih (by simpa using hk) (fun i hi=>by have:=h (i+1) (by omega); simpa using this) hn
theorem rulesL_all {l:Ru} (h:∀ i (h:i<l.length),Tm.checkAll [(l[i]).1,(l[i]).2]=0):rulesL l=0:=by
 induction l with
 | nil=>rfl
 | cons x r ih =>
  have h0:=h 0 (by simp)
  simp only [List.getElem_cons_zero] at h0
  rw [rulesL,if_neg (by simp [h0])]
  exact ih fun i hi=>by have:=h (i+1) (by simpa using hi); simpa using this
theorem r01_Rules_ok (l:Ru) (hB:∀ x∈l,x.1.size≤small∧x.2.size≤small):Fn Zhc [ruD l] (iD (rules l)):=fun Q hQ=>by
 refine Zre _ _ fun hb=>?_
 have hl:=encRs_length l
 rw [hl] at hb ⊢
 unfold rules at hQ
 refine iff_dec (fun h=>⟨trivial,?_⟩) (fun h hb=>?_)
 ·rw [if_pos (by omega)] at hQ; exact hQ
 ·rw [if_neg (by omega)] at hQ
  refine Zln Q _ _ hb (fun k=>∀ i (h:i<l.length),i<k→Tm.checkAll [(l[i]).1,(l[i]).2]=0) (fun k hk hJ K hK=>?_) (fun hJ=>?_) 0 (Nat.zero_le _) (fun i _ h=>by omega)
  ·simp only [encRs_getD _ k hk,List.drop_zero,List.headD_cons,List.tail_cons]
   have hm:=hB _ (List.getElem_mem hk)
   rw [show [[V.s (l[k]).1.name,V.b (l[k]).1.var,V.l (Tm.encL (l[k]).1.args)],[V.s (l[k]).2.name,V.b (l[k]).2.var,V.l (Tm.encL (l[k]).2.args)]]=Tm.encL [(l[k]).1,(l[k]).2] by simp [Tm.encL,Tm.enc_eq]]
   refine ⟨by omega,by omega,r01_CheckAll_ok [(l[k]).1,(l[k]).2] (fun t ht=>?_) _ ⟨rfl,rfl,iff_bne (fun h2=>⟨trivial,?_⟩) (fun h2=>hK fun i hi hik=>?_)⟩⟩
   ·simp only [List.mem_cons,List.not_mem_nil,or_false] at ht
    rcases ht with rfl | rfl
    ·exact hm.1
    ·exact hm.2
   ·have h2:Tm.checkAll [(l[k]).1,(l[k]).2]≠0:=h2
    rw [rulesL_take hk (fun i hi=>hJ i (by omega) hi) h2] at hQ
    exact hQ
   ·rcases Nat.lt_succ_iff_lt_or_eq.1 hik with h8 | h8
    ·exact hJ i hi h8
    ·subst h8; exact h2
  ·rw [rulesL_all fun i hi=>hJ i hi hi] at hQ
   exact ⟨trivial,hQ⟩
end Go.Proofs.YthjlodlkpgjlkaaGreat
namespace Go.Proofs.YthjlodlkpgjlkaaGreat
open Go Go.Abs
theorem keyEqS (a c:ByteArray) (r:List V):keyEq [.str] [V.s a] (V.s c::r)=decide (a=c):=by
 have e:keyEq [.str] [V.s a] (V.s c::r)=(match a.toList == c.toList with | true=>true | false=>false):=rfl
 rw [e,ba_beq]; cases decide (a=c) <;> rfl
def keysB (l:List ByteArray):LL:=l.map fun x=>[V.s x,V.b true]
def addN (l:List ByteArray) (x:ByteArray):List ByteArray:=if hasN l x then l else l++[x]
theorem addN_in {l:List ByteArray} {x:ByteArray} (h:x∈l):addN l x=l:=by unfold addN; rw [if_pos (hasN_iff.2 h)]
theorem addN_out {l:List ByteArray} {x:ByteArray} (h:x ∉ l):addN l x=l++[x]:=by unfold addN; rw [hasN_false.2 h]; rfl
theorem mem_addN {l:List ByteArray} {x y:ByteArray}:y∈addN l x↔y∈l∨y=x:=by
 by_cases h:x∈l
 ·rw [addN_in h]
  exact ⟨.inl,fun h'=>h'.elim id fun e=>e▸h⟩
 ·rw [addN_out h]; simp
theorem nodup_addN {l:List ByteArray} {x:ByteArray} (h:l.Nodup):(addN l x).Nodup:=by
 by_cases hx:x∈l
 ·rw [addN_in hx]; exact h
 ·rw [addN_out hx]
  exact List.nodup_append.2 ⟨h,by simp,fun a ha b hb=>by simp at hb; rintro rfl; exact hx (hb▸ha)⟩
theorem mset_keysB (x:ByteArray):∀ l:List ByteArray,mset [.str] [V.s x] [V.b true] (keysB l)=keysB (addN l x)
 | []=>rfl
 | y::l=>by
  have e:keysB (y::l)=[V.s y,V.b true]::keysB l:=rfl
  rw [e,mset,keyEqS]
  by_cases h:x=y
  ·subst h
   rw [decide_eq_true rfl,addN_in (by simp)]; rfl
  ·rw [decide_eq_false h]
   show _::mset _ _ _ (keysB l)=_
   rw [mset_keysB x l]
   by_cases hx:x∈l
   ·rw [addN_in hx,addN_in (by simp [hx])]; rfl
   ·rw [addN_out hx,addN_out (by simp [h,hx])]; rfl
def varsIn (l:List Tm):List ByteArray:=(l.filter Tm.var).map Tm.name
theorem varsIn_append (l r:List Tm):varsIn (l++r)=varsIn l++varsIn r:=by simp [varsIn]
def sortW (ks:List ByteArray):List ByteArray:=(sortL (ks.map fun x=>x.data.toList)).map byL
theorem mem_sortW {ks:List ByteArray} {x:ByteArray}:x∈sortW ks↔x∈ks:=by
 unfold sortW sortL
 simp only [List.mem_map,List.mem_mergeSort]
 constructor
 ·rintro ⟨_,⟨y,hy,rfl⟩,rfl⟩
  rw [byL_data]; exact hy
 ·intro h
  exact ⟨_,⟨x,h,rfl⟩,byL_data x⟩
theorem term_Walk_ok (t:Tm) {Q:D→Heap→Prop} (hQ:Q (.fn Zt [.elt Zb t.enc 0]) []):cl Zej [tD t] [] Q:=by
 refine ZqN _ _ _ _ ⟨trivial,?_⟩
 rw [Tm.enc_eq] at hQ
 exact hQ
theorem nodup_inj {ks:List ByteArray} (h:ks.Nodup):∀ {a b:Nat} (ha:a<ks.length) (hb:b<ks.length),ks[a]=ks[b]→a=b:=by
 intro a b ha hb he
 rcases Nat.lt_trichotomy a b with hab | hab | hab
 ·exact absurd he (List.pairwise_iff_getElem.1 h a b ha hb hab)
 ·exact hab
 ·exact absurd he.symm (List.pairwise_iff_getElem.1 h b a hb ha hab)
theorem preL_length:∀ l:List Tm,(Tm.preL l).length=Tm.sizeL l:=by
 have h:∀ t:Tm,t.pre.length=t.size:=Tm.ind fun t ih=>by
  rw [Tm.pre_eq,Tm.size_eq,List.length_cons]
  have:∀ l:List Tm,(∀ a∈l,a.pre.length=a.size)→(Tm.preL l).length=Tm.sizeL l:=by
   intro l hl
   induction l with
   | nil=>rfl
   | cons a r ihr=>simp only [Tm.preL,Tm.sizeL,List.length_append]; rw [hl a (by simp),ihr fun b hb=>hl b (by simp [hb])]
  rw [this _ ih]; omega
 intro l
 induction l with
 | nil=>rfl
 | cons a r ihr=>simp only [Tm.preL,Tm.sizeL,List.length_append]; rw [h a,ihr]
theorem pre_length (t:Tm):t.pre.length=t.size:=by rw [Tm.pre_eq,Tm.size_eq,List.length_cons,preL_length]; omega
theorem preL_append (l r:List Tm):Tm.preL (l++r)=Tm.preL l++Tm.preL r:=by simp [Tm.preL_eq]
theorem keysB_getD (ks:List ByteArray) (j:Nat) (hj:j<ks.length):(keysB ks).getD j []=[V.s (ks.getD j ByteArray.empty),V.b true]:=by
 unfold keysB
 rw [List.getD_eq_getElem?_getD,List.getElem?_map,List.getD_eq_getElem?_getD,List.getElem?_eq_getElem hj]; rfl
theorem VarsOf_ok (l:List Tm) (hs:Tm.sizeL l≤274877906944) {Q:D→Heap→Prop}
  (hQ:∀ ks:List ByteArray,ks.Nodup→(∀ x,x∈ks↔x∈varsIn (Tm.preL l))→Q (.v (.sl Za) (.l ((sortW ks).map fun x=>[.s x]))) []):cl Zbx [.v (.sl Zb) (.l (Tm.encL l))] [] Q:=by
 refine Zqc _ _ fun _=>?_
 have hll:l.length≤274877906944:=Nat.le_trans (Tm.length_sizeL l) hs
 have last:∀ (ks:List ByteArray),ks.Nodup→ks.length≤Tm.sizeL l→(∀ x,x∈ks↔x∈varsIn (Tm.preL l))→∃ m2,Zck Q m2 0 (keysB ks) (keysB ks).length [] []:=by
  intro ks hnd hkl hmem
  refine Zkr Q (fun n y m s row=>y=keysB ks∧m=ks.length∧n=s.length∧s.Nodup∧(∀ j∈s,j<ks.length)∧s.length≤ks.length∧row=(s.reverse.map fun j=>[V.s (ks.getD j ByteArray.empty)]))
   (fun n y m s row=>ks.length - s.length) ?_ 0 (keysB ks) (keysB ks).length [] [] ⟨rfl,by simp [keysB],rfl,List.nodup_nil,by simp,by simp,rfl⟩
  rintro n y m s row ⟨rfl,rfl,rfl,hsn,hsl,hle,rfl⟩ M ih
  refine ⟨by simp [keysB],fun hall=>?_,fun j hj hjs hlt=>⟨by simp [keysB],by simp,?_,?_⟩⟩
  ·have e:(s.reverse.map fun j=>[V.s (ks.getD j ByteArray.empty)])=(s.reverse.map fun j=>ks.getD j ByteArray.empty).map fun x=>[V.s x]:=by rw [List.map_map]; rfl
   rw [e]
   refine slices_Sort_ok (s.reverse.map fun j=>ks.getD j ByteArray.empty) s.length (by simp) (by unfold lim; omega) ⟨rfl,rfl,?_,?_⟩
   ·show s.length=(List.map _ _).length
    rw [List.length_map,sort_len]; simp
   ·have:=hQ (s.reverse.map fun j=>ks.getD j ByteArray.empty) ?_ ?_
    ·have e2:((sortW (s.reverse.map fun j=>ks.getD j ByteArray.empty)).map fun x=>[V.s x])=(sortL ((s.reverse.map fun j=>ks.getD j ByteArray.empty).map fun x=>x.data.toList)).map fun x=>[V.s (byL x)]:=by
      unfold sortW; rw [List.map_map]; rfl
     rw [e2] at this
     exact this
    ·refine List.pairwise_map.2 ((List.pairwise_reverse.2 (hsn.imp fun h=>Ne.symm h):s.reverse.Nodup).imp_of_mem fun {a b} ha hb hab he=>hab ?_)
     have ha':=hsl a (List.mem_reverse.1 ha)
     have hb':=hsl b (List.mem_reverse.1 hb)
     rw [List.getD_eq_getElem?_getD,List.getD_eq_getElem?_getD,List.getElem?_eq_getElem ha',List.getElem?_eq_getElem hb'] at he
     exact nodup_inj hnd ha' hb' he
    ·intro x
     rw [← hmem x,List.mem_map]
     constructor
     ·rintro ⟨j,hj,rfl⟩
      have hj':=hsl j (List.mem_reverse.1 hj)
      rw [List.getD_eq_getElem?_getD,List.getElem?_eq_getElem hj']
      exact List.getElem_mem hj'
     ·intro hx
      obtain ⟨j,hj,rfl⟩:=List.mem_iff_getElem.1 hx
      exact ⟨j,List.mem_reverse.2 (hall j hj),by rw [List.getD_eq_getElem?_getD,List.getElem?_eq_getElem hj]; rfl⟩
  ·show s.length+1≤lim
   unfold lim; omega
  ·refine ih _ _ _ _ _ ⟨rfl,rfl,rfl,List.nodup_cons.2 ⟨hjs,hsn⟩,?_,?_,?_⟩ ?_
   ·intro a ha
    rcases List.mem_cons.1 ha with rfl | ha
    ·exact hj
    ·exact hsl a ha
   ·show s.length+1≤_; omega
   ·rw [keysB_getD ks j hj,List.reverse_cons,List.map_append]; rfl
   ·show ks.length - (s.length+1)<ks.length - s.length
    omega
 refine Zks Q (fun x n i y=>x=Tm.encL l∧n=(l.length:Int)∧∃ (k:Nat) (ks:List ByteArray),i=k∧k≤l.length∧y=keysB ks∧ks.Nodup∧ks.length≤Tm.sizeL (l.take k)∧∀ z,z∈ks↔z∈varsIn (Tm.preL (l.take k)))
  (fun x n i y=>(n - i).toNat) ?_ _ _ _ _ ⟨rfl,by rw [Tm.encL_length],0,[],rfl,Nat.zero_le _,rfl,List.nodup_nil,Nat.zero_le _,fun z=>by simp [Tm.preL,varsIn]⟩
 rintro x n i y ⟨rfl,rfl,k,ks,rfl,hk,rfl,hnd,hkl,hmem⟩ M ih
 unfold Zfz
 refine iff_dec (fun hlt=>?_) (fun hge=>?_)
 ·have hlt':k<l.length:=by omega
  have hmem':l[k]∈l:=List.getElem_mem hlt'
  refine ⟨by omega,by rw [Tm.encL_length]; exact hlt,?_⟩
  rw [Int.toNat_natCast,Tm.encL_getD l k hlt',Tm.enc_eq]
  refine term_Walk_ok l[k] ⟨rfl,rfl,rowsW l[k],Walk_iter l[k] (by have:=Tm.sizeL_mem hmem'; omega),?_⟩
  refine Zj4 Q M _ _ _ _ _ (fun rows q=>∃ ss ks',rows=ss.map encW∧q=keysB ks'∧ks'.Nodup∧ks'.length+ss.length≤Tm.sizeL (l.take k)+(l[k]).size∧∀ z,(z∈ks'∨z∈varsIn (ss.map Prod.fst))↔(z∈ks∨z∈varsIn (l[k]).pre)) ?_ ?_ _ _ ⟨(l[k]).preD 0,ks,rfl,rfl,hnd,by rw [← pre_length,← Tm.preD_fst _ 0,List.length_map]; omega,fun z=>by rw [Tm.preD_fst]⟩
  ·rintro r rs q ⟨ss,ks',hr,rfl,hnd',hl',hm'⟩ K hK
   cases ss with
   | nil=>simp at hr
   | cons a ss =>
    simp only [List.map_cons,List.cons.injEq] at hr
    obtain ⟨rfl,rfl⟩:=hr
    obtain ⟨a,d⟩:=a
    refine iff_intro (fun hv=>?_) (fun hv=>?_)
    ·refine hK _ ⟨ss,addN ks' a.name,rfl,mset_keysB a.name ks',nodup_addN hnd',?_,fun z=>?_⟩
     ·have:(addN ks' a.name).length≤ks'.length+1:=by
       by_cases h:a.name∈ks'
       ·rw [addN_in h]; omega
       ·rw [addN_out h]; simp
      simp only [List.length_cons] at hl'
      omega
     ·rw [← hm' z,mem_addN]
      have hv':a.var=true:=hv
      have:varsIn (((a,d)::ss).map Prod.fst)=a.name::varsIn (ss.map Prod.fst):=by simp [varsIn,hv']
      rw [this,List.mem_cons]
      constructor
      ·rintro ((h | h) | h)
       ·exact .inl h
       ·exact .inr (.inl h)
       ·exact .inr (.inr h)
      ·rintro (h | h | h)
       ·exact .inl (.inl h)
       ·exact .inl (.inr h)
       ·exact .inr h
    ·refine hK _ ⟨ss,ks',rfl,rfl,hnd',by simp only [List.length_cons] at hl'; omega,fun z=>?_⟩
     rw [← hm' z]
     have hv':a.var=false:=hv
     have:varsIn (((a,d)::ss).map Prod.fst)=varsIn (ss.map Prod.fst):=by simp [varsIn,hv']
     rw [this]
  ·rintro q ⟨ss,ks',hr,rfl,hnd',hl',hm'⟩
   have hss:ss=[]:=by simpa using hr.symm
   subst hss
   rw [wrap_next k (by unfold big; omega)]
   refine ih _ _ _ _ ⟨rfl,rfl,k+1,ks',rfl,hlt',rfl,hnd',?_,fun z=>?_⟩ ?_
   ·rw [Tm.sizeL_take l k hlt']; simpa using hl'
   ·have:=hm' z
    rw [List.take_succ_eq_append_getElem hlt',preL_append,varsIn_append,List.mem_append,← hmem z]
    have e:Tm.preL [l[k]]=(l[k]).pre:=by simp [Tm.preL]
    rw [e,← this]
    simp [varsIn]
   ·show ((l.length:Int) - ((k+1:Nat):Int)).toNat<((l.length:Int) - (k:Int)).toNat
    omega
 ·have hkl':k=l.length:=by omega
  subst hkl'
  rw [List.take_length] at hkl hmem
  exact last ks hnd hkl hmem
end Go.Proofs.YthjlodlkpgjlkaaGreat
namespace Go.Proofs.YthjlodlkpgjlkaaGreat
open Go Go.Abs
theorem term_CheckRules_ok (l:Ru) (hB:∀ x∈l,x.1.size≤small∧x.2.size≤small):Fn Zdn [ruD l] (iD (rules l)):=fun Q hQ=>by
 refine Zk4 _ _ fun hb=>?_
 have hl:=encRs_length l
 rw [hl] at hb ⊢
 unfold rules at hQ
 refine iff_dec (fun h=>⟨trivial,?_⟩) (fun h hb=>?_)
 ·rw [if_pos (by omega)] at hQ; exact hQ
 ·rw [if_neg (by omega)] at hQ
  refine Zhf Q _ _ hb (fun k=>∀ i (h:i<l.length),i<k→Tm.checkAll [(l[i]).1,(l[i]).2]=0) (fun k hk hJ K hK=>?_) (fun hJ=>?_) 0 (Nat.zero_le _) (fun i _ h=>by omega)
  ·simp only [encRs_getD _ k hk,List.drop_zero,List.headD_cons,List.tail_cons]
   have hm:=hB _ (List.getElem_mem hk)
   rw [show [[V.s (l[k]).1.name,V.b (l[k]).1.var,V.l (Tm.encL (l[k]).1.args)],[V.s (l[k]).2.name,V.b (l[k]).2.var,V.l (Tm.encL (l[k]).2.args)]]=Tm.encL [(l[k]).1,(l[k]).2] by simp [Tm.encL,Tm.enc_eq]]
   refine ⟨by omega,by omega,term_All_ok [(l[k]).1,(l[k]).2] (fun t ht=>?_) _ ⟨rfl,rfl,iff_bne (fun h2=>⟨trivial,?_⟩) (fun h2=>hK fun i hi hik=>?_)⟩⟩
   ·simp only [List.mem_cons,List.not_mem_nil,or_false] at ht
    rcases ht with rfl | rfl
    ·exact hm.1
    ·exact hm.2
   ·have h2:Tm.checkAll [(l[k]).1,(l[k]).2]≠0:=h2
    rw [rulesL_take hk (fun i hi=>hJ i (by omega) hi) h2] at hQ
    exact hQ
   ·rcases Nat.lt_succ_iff_lt_or_eq.1 hik with h8 | h8
    ·exact hJ i hi h8
    ·subst h8; exact h2
  ·rw [rulesL_all fun i hi=>hJ i hi hi] at hQ
   exact ⟨trivial,hQ⟩
theorem slices_Index_string_ok (l:List ByteArray) (x:ByteArray):Fn Zc4 [nsD l,sD x] (iD (idx (fun y=>decide (x=y)) l)):=fun Q hQ=>by
 refine Zh4 _ _ _ fun hb=>?_
 have hl:=encN_length l
 rw [hl] at hb ⊢
 refine ZfX Q _ _ _ hb (fun k=>(l.take k).any (fun y=>decide (x=y))=false) (fun k hk hJ K hK=>?_) (fun hJ=>⟨trivial,?_⟩) 0 (Nat.zero_le _) rfl
 ·simp only [encN_getD _ k hk,List.drop_zero,List.headD_cons,V.str]
  refine ⟨by omega,by omega,?_⟩
  rw [ba_beq]
  refine iff_intro (fun h=>⟨trivial,?_⟩) (fun h=>hK (any_take hk hJ h))
  rw [idx_at hk hJ h] at hQ
  exact hQ
 ·rw [List.take_length] at hJ
  rw [idx_none hJ] at hQ
  exact hQ
theorem slices_Contains_string_ok (l:List ByteArray) (x:ByteArray):Fn ZaO [nsD l,sD x] (bD (l.any fun y=>decide (x=y))):=fun Q hQ=>by
 refine ZgO _ _ _ ?_
 unfold ZdX
 refine slices_Index_string_ok l x _ ⟨rfl,rfl,trivial,?_⟩
 rw [← idx_any] at hQ
 exact hQ
theorem extra_1_ok (l:List ByteArray) (x:ByteArray) {Q:D→Heap→Prop} (hQ:Q (bD (!(l.any fun y=>decide (x=y)))) [.cells [nsD l]]):cl Zae [sD x,.ptr (.own 0) 0] [.cells [nsD l]] Q:=by
 refine Zos _ _ _ ?_
 unfold ZhV
 exact slices_Contains_string_ok l x _ ⟨rfl,rfl,trivial,hQ⟩
theorem IndexFunc_extra_ok (l m:List ByteArray) {Q:D→Heap→Prop} (hQ:Q (iD (idx (fun x=>!(l.any fun y=>decide (x=y))) m)) [.cells [nsD l]]) :
  cl ZW [nsD m,.fn Zae [.ptr (.own 0) 0]] [.cells [nsD l]] Q:=by
 refine ZdL _ _ _ fun hb=>?_
 have hl:=encN_length m
 rw [hl] at hb ⊢
 refine Zcf Q _ _ hb (fun k h=>h=V.l (encN l)∧(m.take k).any (fun x=>!(l.any fun y=>decide (x=y)))=false) (fun k h hk hJ K hK=>?_) (fun h hJ=>⟨trivial,?_⟩) 0 _ (Nat.zero_le _) ⟨rfl,rfl⟩
 ·obtain ⟨rfl,hJ⟩:=hJ
  simp only [encN_getD _ k hk,List.drop_zero,List.headD_cons]
  refine ⟨by omega,by omega,extra_1_ok l m[k] ⟨rfl,rfl,iff_intro (fun h=>⟨trivial,?_⟩) (fun h=>hK _ ⟨rfl,any_take hk hJ h⟩)⟩⟩
  rw [idx_at hk hJ h] at hQ
  exact hQ
 ·obtain ⟨rfl,hJ⟩:=hJ
  rw [List.take_length] at hJ
  rw [idx_none hJ] at hQ
  exact hQ
theorem ContainsFunc_extra_ok (l m:List ByteArray) {Q:D→Heap→Prop} (hQ:Q (bD (m.any fun x=>!(l.any fun y=>decide (x=y)))) [.cells [nsD l]]) :
  cl ZH [nsD m,.fn Zae [.ptr (.own 0) 0]] [.cells [nsD l]] Q:=by
 refine ZcX _ _ _ ?_
 unfold ZaE
 refine IndexFunc_extra_ok l m ⟨rfl,rfl,trivial,?_⟩
 rw [← idx_any] at hQ
 exact hQ
def extraB (x:Tm×Tm):Bool:=x.1.var||(varsIn x.2.pre).any fun v=>!hasN (varsIn x.1.pre) v
theorem term_extra_ok (x:Tm×Tm) (hB:x.1.size≤4000∧x.2.size≤4000):Fn ZaN [.agg [.v .str (.s x.1.name),.v .bool (.b x.1.var),.v (.sl Zb) (.l (Tm.encL x.1.args)),.v .str (.s x.2.name),.v .bool (.b x.2.var),.v (.sl Zb) (.l (Tm.encL x.2.args))]] (bD (extraB x)):=fun Q hQ=>by
 refine Zqr _ _ _ _ _ _ _ ?_
 unfold ZkH
 have e1:∀ t:Tm,[[V.s t.name,V.b t.var,V.l (Tm.encL t.args)]]=Tm.encL [t]:=fun t=>by simp [Tm.encL,Tm.enc_eq]
 have ep:∀ t:Tm,Tm.preL [t]=t.pre:=fun t=>by simp [Tm.preL]
 rw [e1,e1]
 refine VarsOf_ok [x.1] (by simp [Tm.sizeL]; omega) fun ks _ hks=>⟨rfl,rfl,iff_intro (fun hv=>⟨trivial,?_⟩) (fun hv=>?_)⟩
 ·unfold extraB at hQ
  rw [hv] at hQ
  exact hQ
 ·refine VarsOf_ok [x.2] (by simp [Tm.sizeL]; omega) fun ks2 _ hks2=>⟨rfl,rfl,?_⟩
  refine ContainsFunc_extra_ok (sortW ks) (sortW ks2) ⟨rfl,rfl,trivial,?_⟩
  have e:((sortW ks2).any fun z=>!((sortW ks).any fun y=>decide (z=y)))=extraB x:=by
   unfold extraB
   rw [hv,Bool.false_or,Bool.eq_iff_iff]
   simp only [List.any_eq_true,Bool.not_eq_true',mem_sortW,hks2,ep,hasN_false]
   constructor
   ·rintro ⟨z,hz,h⟩
    refine ⟨z,hz,fun hm=>?_⟩
    rw [← ep,← hks] at hm
    have:((sortW ks).any fun y=>decide (z=y))=true:=List.any_eq_true.2 ⟨z,mem_sortW.2 hm,by simp⟩
    rw [this] at h; cases h
   ·rintro ⟨z,hz,h⟩
    refine ⟨z,hz,?_⟩
    rw [Bool.eq_false_iff]
    intro h2
    obtain ⟨y,hy,he⟩:=List.any_eq_true.1 h2
    have:z=y:=by simpa using he
    subst this
    exact h (by rw [← ep,← hks]; exact mem_sortW.1 hy)
  show Q (bD ((sortW ks2).any fun z=>!((sortW ks).any fun y=>decide (z=y)))) []
  rw [e]; exact hQ
theorem IndexFunc_Rule_ok (l:Ru) (hB:∀ x∈l,x.1.size≤4000∧x.2.size≤4000):Fn ZG [ruD l,.fn ZaN []] (iD (idx extraB l)):=fun Q hQ=>by
 refine ZeC _ _ fun hb=>?_
 have hl:=encRs_length l
 rw [hl] at hb ⊢
 refine ZcS Q _ _ hb (fun k=>(l.take k).any extraB=false) (fun k hk hJ K hK=>?_) (fun hJ=>⟨trivial,?_⟩) 0 (Nat.zero_le _) rfl
 ·simp only [encRs_getD _ k hk,List.drop_zero,List.headD_cons,List.tail_cons]
  refine ⟨by omega,by omega,term_extra_ok l[k] (hB _ (List.getElem_mem hk)) _ ⟨rfl,rfl,iff_intro (fun h=>⟨trivial,?_⟩) (fun h=>hK (any_take hk hJ h))⟩⟩
  rw [idx_at hk hJ h] at hQ
  exact hQ
 ·rw [List.take_length] at hJ
  rw [idx_none hJ] at hQ
  exact hQ
theorem ContainsFunc_Rule_ok (l:Ru) (hB:∀ x∈l,x.1.size≤4000∧x.2.size≤4000):Fn Zj [ruD l,.fn ZaN []] (bD (l.any extraB)):=fun Q hQ=>by
 refine ZdQ _ _ ?_
 unfold ZaZ
 refine IndexFunc_Rule_ok l hB _ ⟨rfl,rfl,trivial,?_⟩
 rw [← idx_any] at hQ
 exact hQ
theorem term_Marked_ok (s:ByteArray):Fn Zap [sD s] (bD (markedL s.data.toList)):=fun Q hQ=>by
 refine ZpE _ _ ?_
 unfold ZiR
 refine Zjq _ _ _ ?_
 unfold ZfI
 refine stringslite_HasSuffix_ok s (ByteArray.mk #[35]) _ ⟨rfl,rfl,trivial,rfl,rfl,trivial,?_⟩
 have e:decide ((ByteArray.mk #[35]).data.toList <:+ s.data.toList)=markedL s.data.toList:=by
  rw [Bool.eq_iff_iff,decide_eq_true_iff]; exact hash_suffix _
 show Q (bD (decide ((ByteArray.mk #[35]).data.toList <:+ s.data.toList))) []
 rw [e]; exact hQ
abbrev Ar:=List (ByteArray×Nat)
def encM (m:Ar):LL:=m.map fun p=>[V.s p.1,V.i p.2]
def lookM (m:Ar) (x:ByteArray):Option Nat:=(m.find? fun p=>decide (x=p.1)).map (·.2)
def addM (m:Ar) (x:ByteArray) (n:Nat):Ar:=if (lookM m x).isSome then m else m++[(x,n)]
theorem mlook_encM (x:ByteArray):∀ m:Ar,mlook [.str] [V.s x] (encM m)=(lookM m x).map fun n=>[V.i n]
 | []=>rfl
 | p::m=>by
  have e:encM (p::m)=[V.s p.1,V.i p.2]::encM m:=rfl
  rw [e,mlook,keyEqS]
  unfold lookM
  rw [List.find?_cons]
  by_cases h:x=p.1
  ·rw [decide_eq_true h]; rfl
  ·rw [decide_eq_false h]
   exact mlook_encM x m
theorem mhas_encM (x:ByteArray) (m:Ar):mhas [.str] [V.s x] (encM m)=(lookM m x).isSome:=by
 unfold mhas; rw [mlook_encM]; cases lookM m x <;> rfl
theorem mget_encM {x:ByteArray} {m:Ar} {n:Nat} (h:lookM m x=some n):mget [.str] [V.i 0] [V.s x] (encM m)=[V.i n]:=by
 unfold mget; rw [mlook_encM,h]; rfl
theorem mset_encM (x:ByteArray) (n:Nat):∀ m:Ar,(lookM m x=none∨lookM m x=some n)→mset [.str] [V.s x] [V.i n] (encM m)=encM (addM m x n)
 | [],_=>rfl
 | p::m,h=>by
  have e:encM (p::m)=[V.s p.1,V.i p.2]::encM m:=rfl
  rw [e,mset,keyEqS]
  have e2:lookM (p::m) x=if x=p.1 then some p.2 else lookM m x:=by
   unfold lookM
   rw [List.find?_cons]
   by_cases hx:x=p.1
   ·rw [decide_eq_true hx,if_pos hx]; rfl
   ·rw [decide_eq_false hx,if_neg hx]
  by_cases hx:x=p.1
  ·rw [e2,if_pos hx] at h
   have hn:p.2=n:=by
    rcases h with h | h
    ·cases h
    ·exact Option.some.inj h
   have:addM (p::m) x n=p::m:=by
    unfold addM; rw [e2,if_pos hx]; rfl
   rw [decide_eq_true hx,this]
   subst hx hn
   rfl
  ·rw [e2,if_neg hx] at h
   rw [decide_eq_false hx]
   show _::mset _ _ _ (encM m)=_
   rw [mset_encM x n m h]
   have:addM (p::m) x n=p::addM m x n:=by
    unfold addM; rw [e2,if_neg hx]
    split <;> rfl
   rw [this]; rfl
def nv (l:List Tm):List Tm:=l.filter fun s=>!s.var
def arOk (l:List Tm):Prop:=∀ s∈l,∀ t∈l,s.name=t.name→s.args.length=t.args.length
def InvM (ps:List Tm) (m:Ar):Prop:=(∀ p∈m,∃ s∈ps,s.name=p.1∧s.args.length=p.2)∧∀ s∈ps,∃ p∈m,p.1=s.name∧p.2=s.args.length
def GoodM (N rem:List Tm) (m:Ar):Prop:=∃ ps,N=ps++nv rem∧arOk ps∧InvM ps m∧m.length≤ps.length
theorem lookM_some {m:Ar} {x:ByteArray} {n:Nat} (h:lookM m x=some n):(x,n)∈m:=by
 unfold lookM at h
 cases hf:m.find? fun p=>decide (x=p.1) with
 | none=>rw [hf] at h; cases h
 | some p =>
  rw [hf] at h
  have h1:=List.mem_of_find?_eq_some hf
  have h2:x=p.1:=by simpa using List.find?_some hf
  have h3:p.2=n:=Option.some.inj h
  subst h2 h3
  exact h1
theorem lookM_none {m:Ar} {x:ByteArray} (h:lookM m x=none):∀ p∈m,p.1≠x:=by
 intro p hp he
 unfold lookM at h
 rw [Option.map_eq_none_iff,List.find?_eq_none] at h
 have:=h p hp
 simp [he] at this
theorem good_var {N rem:List Tm} {m:Ar} {s:Tm} (h:GoodM N (s::rem) m) (hv:s.var=true):GoodM N rem m:=by
 obtain ⟨ps,h1,h2⟩:=h
 exact ⟨ps,by rw [h1]; simp [nv,hv],h2⟩
theorem good_bad {N rem:List Tm} {m:Ar} {s:Tm} {n:Nat} (h:GoodM N (s::rem) m) (hv:s.var=false) (hl:lookM m s.name=some n) (hn:n≠s.args.length):¬ arOk N:=by
 obtain ⟨ps,h1,h2,h3,_⟩:=h
 intro ha
 obtain ⟨t,ht,e1,e2⟩:=h3.1 _ (lookM_some hl)
 have hs:s∈N:=by rw [h1]; simp [nv,hv]
 have htN:t∈N:=by rw [h1]; simp [ht]
 have:=ha t htN s hs e1
 exact hn (e2.symm.trans this)
theorem good_next {N rem:List Tm} {m:Ar} {s:Tm} (h:GoodM N (s::rem) m) (hv:s.var=false) (hl:lookM m s.name=none∨lookM m s.name=some s.args.length):GoodM N rem (addM m s.name s.args.length):=by
 obtain ⟨ps,h1,h2,h3,h4⟩:=h
 have hcons:∀ t∈ps,t.name=s.name→t.args.length=s.args.length:=fun t ht he=>by
  obtain ⟨p,hp,e1,e2⟩:=h3.2 t ht
  rcases hl with hl | hl
  ·exact absurd (e1.trans he) (lookM_none hl p hp)
  ·obtain ⟨t2,ht2,f1,f2⟩:=h3.1 _ (lookM_some hl)
   have:=h2 t ht t2 ht2 (by rw [he,f1])
   rw [this,f2]
 refine ⟨ps++[s],by rw [h1]; simp [nv,hv],fun a ha b hb he=>?_,⟨fun p hp=>?_,fun t ht=>?_⟩,?_⟩
 ·rcases List.mem_append.1 ha with ha1 | ha1 <;> rcases List.mem_append.1 hb with hb1 | hb1
  ·exact h2 a ha1 b hb1 he
  ·have e2:b=s:=by simpa using hb1
   rw [e2] at he ⊢
   exact hcons a ha1 he
  ·have e1:a=s:=by simpa using ha1
   rw [e1] at he ⊢
   exact (hcons b hb1 he.symm).symm
  ·have e1:a=s:=by simpa using ha1
   have e2:b=s:=by simpa using hb1
   rw [e1,e2]
 ·unfold addM at hp
  split at hp
  ·obtain ⟨t,ht,e⟩:=h3.1 p hp
   exact ⟨t,by simp [ht],e⟩
  ·rcases List.mem_append.1 hp with hp | hp
   ·obtain ⟨t,ht,e⟩:=h3.1 p hp
    exact ⟨t,by simp [ht],e⟩
   ·have:p=(s.name,s.args.length):=by simpa using hp
    subst this
    exact ⟨s,by simp,rfl,rfl⟩
 ·have key:∀ q∈m,q∈addM m s.name s.args.length:=fun q hq=>by
   unfold addM; split
   ·exact hq
   ·simp [hq]
  rcases List.mem_append.1 ht with ht | ht
  ·obtain ⟨p,hp,e⟩:=h3.2 t ht
   exact ⟨p,key p hp,e⟩
  ·have:t=s:=by simpa using ht
   subst this
   rcases hl with hl | hl
   ·refine ⟨(t.name,t.args.length),?_,rfl,rfl⟩
    unfold addM; rw [hl]; simp
   ·exact ⟨_,key _ (lookM_some hl),rfl,rfl⟩
 ·unfold addM
  split
  ·simp; omega
  ·simp; omega
end Go.Proofs.YthjlodlkpgjlkaaGreat
namespace Go.Proofs.YthjlodlkpgjlkaaGreat
open Go Go.Abs
def sides (l:Ru):List Tm:=l.flatMap fun x=>[x.1,x.2]
def nodesR (l:Ru):List Tm:=nv (Tm.preL (sides l))
theorem sides_cons (x:Tm×Tm) (l:Ru):sides (x::l)=x.1::x.2::sides l:=rfl
theorem Arities_ok (l:Ru) (hB:∀ x∈l,x.1.size≤4000∧x.2.size≤4000) {Q:D→Heap→Prop} (hQ1:arOk (nodesR l)→∀ m:Ar,InvM (nodesR l) m→m.length≤(nodesR l).length→Q (.tup [.v (.mp ZeR) (.l (encM m)),.v .bool (.b true)]) [])
  (hQ2:¬ arOk (nodesR l)→Q (.tup [.v (.mp ZeR) (.l []),.v .bool (.b false)]) []):cl Zfg [ruD l] [] Q:=by
 refine ZoD _ _ fun hb=>?_
 have hl:=encRs_length l
 rw [hl] at hb ⊢
 generalize hN:nodesR l=N at hQ1 hQ2
 refine Zji Q (fun x n i y q=>x=encRs l∧n=(l.length:Int)∧y=false∧∃ (k:Nat) (m:Ar),i=k∧k≤l.length∧q=encM m∧GoodM N (Tm.preL (sides (l.drop k))) m)
  (fun x n i y q=>(n - i).toNat) ?_ _ _ _ _ _ ⟨rfl,rfl,rfl,0,[],rfl,Nat.zero_le _,rfl,[],by simpa [nodesR] using hN.symm,fun s hs=>by simp at hs,⟨by simp,by simp⟩,by simp⟩
 rintro x n i y q ⟨rfl,rfl,rfl,k,m,rfl,hk,rfl,hg⟩ M ih
 unfold Zfd
 refine iff_dec (fun hlt=>?_) (fun hge=>⟨⟨trivial,trivial,trivial⟩,?_⟩)
 ·have hlt':k<l.length:=by omega
  have hmem:=hB _ (List.getElem_mem hlt')
  refine ⟨by omega,by rw [hl]; exact hlt,?_⟩
  rw [Int.toNat_natCast]
  simp only [encRs_getD _ k hlt',List.drop_zero,List.headD_cons,List.tail_cons]
  rw [List.drop_eq_getElem_cons hlt',sides_cons] at hg
  generalize hx:l[k]=x at hg hmem
  -- what follows the two sides
  have next:∀ m',GoodM N (Tm.preL (sides (l.drop (k+1)))) m'→ZbS Q M (encRs l) (l.length:Int) (IntKind.i64.wrap ((k:Int)+(1:Int))) false (encM m'):=fun m' hm'=>by
   rw [wrap_next k (by omega)]
   refine ih _ _ _ _ _ ⟨rfl,rfl,rfl,k+1,m',rfl,hlt',rfl,hm'⟩ ?_
   show ((l.length:Int) - ((k+1:Nat):Int)).toNat<((l.length:Int) - (k:Int)).toNat
   omega
  refine Zjs Q M (fun a b c d0 d1 d2 d3 d4 d5 i y q=>a=encRs l∧b=(l.length:Int)∧c=(k:Int)∧d0=V.s x.1.name∧d1=V.b x.1.var∧d2=V.l (Tm.encL x.1.args)∧d3=V.s x.2.name∧d4=V.b x.2.var∧d5=V.l (Tm.encL x.2.args)∧y=false ∧
    ∃ (j:Nat) (m:Ar),i=j∧j≤2∧q=encM m∧GoodM N (Tm.preL ([x.1,x.2].drop j)++Tm.preL (sides (l.drop (k+1)))) m)
   (fun a b c d0 d1 d2 d3 d4 d5 i y q=>(2 - i).toNat) ?_ _ _ _ _ _ _ _ _ _ _ _ _ ⟨rfl,rfl,rfl,rfl,rfl,rfl,rfl,rfl,rfl,rfl,0,m,rfl,by omega,rfl,by simpa [Tm.preL,List.append_assoc] using hg⟩
  rintro a b c d0 d1 d2 d3 d4 d5 i y q ⟨rfl,rfl,rfl,rfl,rfl,rfl,rfl,rfl,rfl,rfl,j,m',rfl,hj,rfl,hg'⟩ M1 ih1
  unfold Ze8
  -- one side
  have side:∀ (t:Tm) (rem:List Tm) (hj2:j<2) (hts:t.size≤4000) (hg2:GoodM N (t.pre++rem) m') (hrem:rem=Tm.preL ([x.1,x.2].drop (j+1))++Tm.preL (sides (l.drop (k+1)))),
    cl Zej [tD t] [] fun r1 H2=>r1=(.fn Zt [.elt Zb ((r1.capsOf.headD .undef).eltOf) 0])∧H2=[]∧∃ rows:LL,itA Zt [.elt Zb ((r1.capsOf.headD .undef).eltOf) 0] rows∧Z6 Q M M1 (encRs l) (l.length:Int) (k:Int) (V.s x.1.name) (V.b x.1.var) (V.l (Tm.encL x.1.args)) (V.s x.2.name) (V.b x.2.var) (V.l (Tm.encL x.2.args)) (j:Int) ((r1.capsOf.headD .undef).eltOf) false (encM m') false (encM m') rows:=by
   intro t rem hj2 hts hg2 hrem
   refine term_Walk_ok t ⟨rfl,rfl,rowsW t,Walk_iter t (by omega),?_⟩
   refine Zjt Q M M1 _ _ _ _ _ _ _ _ _ _ _ _ _ (fun rows y q=>∃ ss m,rows=ss.map encW∧y=false∧q=encM m∧GoodM N (ss.map Prod.fst++rem) m) ?_ ?_ _ _ _ ⟨t.preD 0,m',rfl,rfl,rfl,by rw [Tm.preD_fst]; exact hg2⟩
   ·rintro r rs y q ⟨ss,m2,hr,rfl,rfl,hm2⟩ K hK
    cases ss with
    | nil=>simp at hr
    | cons s ss =>
     simp only [List.map_cons,List.cons.injEq] at hr
     obtain ⟨rfl,rfl⟩:=hr
     obtain ⟨s,d⟩:=s
     refine iff_intro (fun hv=>hK _ _ ⟨ss,m2,rfl,rfl,rfl,good_var hm2 hv⟩) (fun hv=>?_)
     have hv':s.var=false:=hv
     have hlen:(Tm.encL s.args).length=s.args.length:=Tm.encL_length _
     show iff (mhas [.str] [V.s s.name] (encM m2)) ((Tm.encL s.args).length≤big→iff ((((mget [.str] [V.i 0] [V.s s.name] (encM m2)).headD V.none).int) != ((Tm.encL s.args).length:Int)) _ ((Tm.encL s.args).length≤big→K false (mset [.str] [V.s s.name] [V.i ((Tm.encL s.args).length:Int)] (encM m2)))) ((Tm.encL s.args).length≤big→K false (mset [.str] [V.s s.name] [V.i ((Tm.encL s.args).length:Int)] (encM m2)))
     rw [mhas_encM,hlen]
     cases hlk:lookM m2 s.name with
     | none =>
      refine fun _=>?_
      rw [mset_encM _ _ _ (.inl hlk)]
      exact hK _ _ ⟨ss,_,rfl,rfl,rfl,good_next hm2 hv' (.inl hlk)⟩
     | some w =>
      refine fun _=>?_
      rw [mget_encM hlk]
      refine iff_bne (fun hne=>⟨⟨trivial,trivial,trivial⟩,hQ2 (good_bad hm2 hv' hlk ?_)⟩) (fun heq _=>?_)
      ·intro h
       apply hne
       show ((w:Nat):Int)=_
       rw [h]
      ·have hw:w=s.args.length:=by
        have:((w:Nat):Int)=((s.args.length:Nat):Int):=heq
        omega
       rw [hw] at hlk
       rw [mset_encM _ _ _ (.inr hlk)]
       exact hK _ _ ⟨ss,_,rfl,rfl,rfl,good_next hm2 hv' (.inr hlk)⟩
   ·rintro y q ⟨ss,m2,hr,rfl,rfl,hm2⟩
    have hss:ss=[]:=by simpa using hr.symm
    subst hss
    rw [wrap_next j (by unfold big; omega)]
    refine ih1 _ _ _ _ _ _ _ _ _ _ _ _ ⟨rfl,rfl,rfl,rfl,rfl,rfl,rfl,rfl,rfl,rfl,j+1,m2,rfl,hj2,rfl,by rw [← hrem]; simpa using hm2⟩ ?_
    show ((2:Int) - ((j+1:Nat):Int)).toNat<((2:Int) - (j:Int)).toNat
    omega
  refine iff_dec (fun hlt2=>?_) (fun hge2=>?_)
  ·refine ⟨by omega,hlt2,?_⟩
   match j,hg',ih1,side,hlt2 with
   | 0,hg',ih1,side,_=>exact side x.1 (Tm.preL [x.2]++Tm.preL (sides (l.drop (k+1)))) (by omega) hmem.1 (by simpa [Tm.preL,List.append_assoc] using hg') rfl
   | 1,hg',ih1,side,_=>exact side x.2 (Tm.preL []++Tm.preL (sides (l.drop (k+1)))) (by omega) hmem.2 (by simpa [Tm.preL,List.append_assoc] using hg') rfl
   | j+2,hg',ih1,side,h=>exact absurd h (by omega)
  ·have hj2:j=2:=by omega
   subst hj2
   exact next m' (by simpa [Tm.preL] using hg')
 ·have hkl:k=l.length:=by omega
  subst hkl
  rw [List.drop_length] at hg
  obtain ⟨ps,h1,h2,h3,h4⟩:=hg
  have hps:N=ps:=by rw [h1]; simp [sides,Tm.preL,nv]
  subst hps
  exact hQ1 h2 m h3 h4
theorem rulesL_zero {l:Ru} (h:rulesL l=0):∀ x∈l,x.1.check=0∧x.2.check=0:=by
 induction l with
 | nil=>intro x hx; simp at hx
 | cons y r ih =>
  intro x hx
  unfold rulesL at h
  by_cases hc:Tm.checkAll [y.1,y.2]=0
  ·rw [if_neg (by simp [hc])] at h
   rcases List.mem_cons.1 hx with rfl | hx
   ·have:=Tm.checkAll_zero.1 hc
    exact ⟨this _ (by simp),this _ (by simp)⟩
   ·exact ih h x hx
  ·rw [if_pos hc] at h; exact absurd h hc
theorem rules_zero {l:Ru} (h:rules l=0):l.length≤64∧∀ x∈l,x.1.check=0∧x.2.check=0:=by
 unfold rules at h
 split at h
 ·cases h
 ·exact ⟨by omega,rulesL_zero h⟩
open Classical in
noncomputable def sysE (l:Ru):Int:=if rules l≠0 then rules l else if arOk (nodesR l)∧(∀ s∈nodesR l,markedL s.name.data.toList=false) then (if l.any extraB then 7 else 0) else 6
theorem term_CheckSystem_ok (l:Ru) (hB:∀ x∈l,x.1.size≤small∧x.2.size≤small):Fn ZeP [ruD l] (iD (sysE l)):=fun Q hQ=>by
 refine Zkh _ _ ?_
 unfold Zf8
 unfold sysE at hQ
 refine term_CheckRules_ok l hB _ ⟨rfl,rfl,iff_bne (fun h=>⟨trivial,?_⟩) (fun h=>?_)⟩
 ·have h':rules l≠0:=h
  rw [if_pos h'] at hQ; exact hQ
 have hr:rules l=0:=h
 rw [if_neg (by simp [hr])] at hQ
 obtain ⟨hlen,hck⟩:=rules_zero hr
 have hS:∀ x∈l,x.1.size≤4000∧x.2.size≤4000:=fun x hx=>⟨(Tm.check_zero.1 (hck x hx).1).2.1,(Tm.check_zero.1 (hck x hx).2).2.1⟩
 refine Arities_ok l hS (fun ha m hm hml=>⟨rfl,rfl,?_⟩) (fun ha=>⟨rfl,rfl,?_⟩)
 ·show iff (!true) _ _
  refine Zg0 Q (fun a y n s=>a=encRs l∧y=V.l (encM m)∧n=m.length∧(∀ j∈s,j<m.length)∧∀ j∈s,markedL ((m.getD j (ByteArray.empty,0)).1).data.toList=false)
   (fun a y n s=>n - s.length) ?_ _ _ _ _ ⟨rfl,rfl,by simp [encM,D.parts,D.V,V.list],by simp,by simp⟩
  rintro a y n s ⟨rfl,rfl,rfl,hsl,hsm⟩ M ih
  have hml':(encM m).length=m.length:=by simp [encM]
  refine ⟨hml',fun hall=>?_,fun j hj hjs hlt=>⟨hml',?_⟩⟩
  ·have hnm:∀ t∈nodesR l,markedL t.name.data.toList=false:=fun t ht=>by
    obtain ⟨p,hp,e1,_⟩:=hm.2 t ht
    obtain ⟨j,hj,rfl⟩:=List.mem_iff_getElem.1 hp
    have:=hsm j (hall j hj)
    rw [List.getD_eq_getElem?_getD,List.getElem?_eq_getElem hj] at this
    rw [← e1]; exact this
   rw [if_pos ⟨ha,hnm⟩] at hQ
   refine ContainsFunc_Rule_ok l hS _ ⟨rfl,rfl,iff_intro (fun hb=>⟨trivial,?_⟩) (fun hb=>⟨trivial,?_⟩)⟩
   ·have hb':l.any extraB=true:=hb
    rw [if_pos hb'] at hQ; exact hQ
   ·have hb':l.any extraB=false:=hb
    rw [if_neg (by simp [hb'])] at hQ; exact hQ
  ·have e:(encM m).getD j []=[V.s (m.getD j (ByteArray.empty,0)).1,V.i (m.getD j (ByteArray.empty,0)).2]:=by
    unfold encM
    rw [List.getD_eq_getElem?_getD,List.getElem?_map,List.getD_eq_getElem?_getD,List.getElem?_eq_getElem hj]; rfl
   show cl Zap [.v .str (((encM m).getD j []).headD V.none)] [] _
   rw [e]
   refine term_Marked_ok _ _ ⟨rfl,rfl,iff_intro (fun hb=>⟨trivial,?_⟩) (fun hb=>?_)⟩
   ·have hb':markedL ((m.getD j (ByteArray.empty,0)).1).data.toList=true:=hb
    have hp:m.getD j (ByteArray.empty,0)∈m:=by
     rw [List.getD_eq_getElem?_getD,List.getElem?_eq_getElem hj]; exact List.getElem_mem hj
    obtain ⟨t,ht,e1,_⟩:=hm.1 _ hp
    rw [if_neg (fun h=>by have:=h.2 t ht; rw [e1,hb'] at this; cases this)] at hQ
    exact hQ
   ·refine ih _ _ _ _ ⟨rfl,rfl,rfl,fun i hi=>?_,fun i hi=>?_⟩ ?_
    ·rcases List.mem_cons.1 hi with rfl | hi
     ·exact hj
     ·exact hsl i hi
    ·rcases List.mem_cons.1 hi with rfl | hi
     ·exact hb
     ·exact hsm i hi
    ·show m.length - (s.length+1)<m.length - s.length
     omega
 ·show iff (!false) _ _
  rw [if_neg (fun h=>ha h.1)] at hQ
  exact ⟨trivial,hQ⟩
end Go.Proofs.YthjlodlkpgjlkaaGreat
namespace Go.Proofs.YthjlodlkpgjlkaaGreat
open Go Go.Abs
def okS (ps:List Tm):Prop:=arOk ps∧∀ s∈ps,markedL s.name.data.toList=false
def sortA (l:Ar):Prop:=l.Pairwise fun p q=>cmpN p.1 q.1 = -1
def InvS (ps:List Tm) (l:Ar):Prop:=okS ps∧sortA l∧InvM ps l∧l.length≤ps.length
theorem okS_sub {ps qs:List Tm} (h:okS qs) (hs:∀ s∈ps,s∈qs):okS ps:=⟨fun a ha b hb=>h.1 a (hs a ha) b (hs b hb),fun a ha=>h.2 a (hs a ha)⟩
theorem encM_length (l:Ar):(encM l).length=l.length:=by simp [encM]
theorem encM_getD (l:Ar) (k:Nat) (h:k<l.length):(encM l).getD k []=[V.s (l[k]).1,V.i (l[k]).2]:=by
 unfold encM
 rw [List.getD_eq_getElem?_getD,List.getElem?_map,List.getElem?_eq_getElem h]; rfl
theorem invS_in {ps:List Tm} {l:Ar} {s:Tm} (h:InvS ps l) (hm:markedL s.name.data.toList=false) {p:ByteArray×Nat} (hp:p∈l) (h1:p.1=s.name) (h2:p.2=s.args.length):InvS (ps++[s]) l:=by
 obtain ⟨⟨ha,hk⟩,hs,hi,hl⟩:=h
 obtain ⟨t0,ht0,e1,e2⟩:=hi.1 p hp
 have hcons:∀ t∈ps,t.name=s.name→t.args.length=s.args.length:=fun t ht he=>by
  rw [ha t ht t0 ht0 (by rw [he,e1,h1]),e2,h2]
 refine ⟨⟨fun a ha1 b hb1 he=>?_,fun a ha1=>?_⟩,hs,⟨fun q hq=>?_,fun t ht=>?_⟩,by simp; omega⟩
 ·rcases List.mem_append.1 ha1 with ha2 | ha2 <;> rcases List.mem_append.1 hb1 with hb2 | hb2
  ·exact ha a ha2 b hb2 he
  ·have e2:b=s:=by simpa using hb2
   rw [e2] at he ⊢
   exact hcons a ha2 he
  ·have e1:a=s:=by simpa using ha2
   rw [e1] at he ⊢
   exact (hcons b hb2 he.symm).symm
  ·have e1:a=s:=by simpa using ha2
   have e2:b=s:=by simpa using hb2
   rw [e1,e2]
 ·rcases List.mem_append.1 ha1 with ha2 | ha2
  ·exact hk a ha2
  ·have e1:a=s:=by simpa using ha2
   rw [e1]; exact hm
 ·obtain ⟨t,ht,e⟩:=hi.1 q hq
  exact ⟨t,by simp [ht],e⟩
 ·rcases List.mem_append.1 ht with ht | ht
  ·exact hi.2 t ht
  ·have e1:t=s:=by simpa using ht
   rw [e1]; exact ⟨p,hp,h1,h2⟩
theorem invS_new {ps:List Tm} {l:Ar} {s:Tm} {k:Nat} (h:InvS ps l) (hm:markedL s.name.data.toList=false) (hk:k≤l.length) (h1:∀ i (hi:i<l.length),i<k→cmpN (l[i]).1 s.name = -1) (h2:∀ h:k<l.length,cmpN (l[k]).1 s.name≠-1∧(l[k]).1≠s.name) :
  InvS (ps++[s]) (l.take k++(s.name,s.args.length)::l.drop k):=by
 obtain ⟨⟨ha,hkk⟩,hs,hi,hl⟩:=h
 have hbef:∀ p∈l.take k,cmpN p.1 s.name = -1:=fun p hp=>by
  obtain ⟨i,hi,rfl⟩:=List.mem_iff_getElem.1 hp
  have hlt:i<k∧i<l.length:=by simp at hi; omega
  rw [List.getElem_take]
  exact h1 i hlt.2 hlt.1
 have haft:∀ p∈l.drop k,cmpN s.name p.1 = -1:=fun p hp=>by
  rcases Nat.lt_or_ge k l.length with hlt | hge
  ·obtain ⟨g1,g2⟩:=h2 hlt
   have g3:cmpN s.name (l[k]).1 = -1:=by
    rcases cmpN_cases (l[k]).1 s.name with h | h | h
    ·exact absurd h.1 g1
    ·exact absurd h.2 g2
    ·exact h.2
   rw [List.drop_eq_getElem_cons hlt] at hp
   rcases List.mem_cons.1 hp with rfl | hp
   ·exact g3
   ·have hd:(l[k]::l.drop (k+1)).Pairwise fun p q=>cmpN p.1 q.1 = -1:=by
     rw [← List.drop_eq_getElem_cons hlt]; exact hs.drop
    exact cmpN_trans g3 ((List.pairwise_cons.1 hd).1 p hp)
  ·rw [List.drop_eq_nil_of_le hge] at hp; cases hp
 have hno:∀ p∈l,p.1≠s.name:=fun p hp he=>by
  rw [← List.take_append_drop k l] at hp
  rcases List.mem_append.1 hp with hp | hp
  ·have:=hbef p hp; rw [he,cmpN_self] at this; cases this
  ·have:=haft p hp; rw [he,cmpN_self] at this; cases this
 have hcons:∀ t∈ps,t.name≠s.name:=fun t ht he=>by
  obtain ⟨p,hp,e1,_⟩:=hi.2 t ht
  exact hno p hp (e1.trans he)
 have hmem:∀ q,q∈l.take k++(s.name,s.args.length)::l.drop k↔q∈l∨q=(s.name,s.args.length):=fun q=>by
  have e:q∈l↔q∈l.take k∨q∈l.drop k:=by rw [← List.mem_append,List.take_append_drop]
  rw [List.mem_append,List.mem_cons,e]
  constructor
  ·rintro (h | h | h)
   ·exact .inl (.inl h)
   ·exact .inr h
   ·exact .inl (.inr h)
  ·rintro ((h | h) | h)
   ·exact .inl h
   ·exact .inr (.inr h)
   ·exact .inr (.inl h)
 refine ⟨⟨fun a ha1 b hb1 he=>?_,fun a ha1=>?_⟩,?_,⟨fun q hq=>?_,fun t ht=>?_⟩,?_⟩
 ·rcases List.mem_append.1 ha1 with ha2 | ha2 <;> rcases List.mem_append.1 hb1 with hb2 | hb2
  ·exact ha a ha2 b hb2 he
  ·have e2:b=s:=by simpa using hb2
   rw [e2] at he
   exact absurd he (hcons a ha2)
  ·have e1:a=s:=by simpa using ha2
   rw [e1] at he
   exact absurd he.symm (hcons b hb2)
  ·have e1:a=s:=by simpa using ha2
   have e2:b=s:=by simpa using hb2
   rw [e1,e2]
 ·rcases List.mem_append.1 ha1 with ha2 | ha2
  ·exact hkk a ha2
  ·have e1:a=s:=by simpa using ha2
   rw [e1]; exact hm
 ·refine List.pairwise_append.2 ⟨hs.take,List.pairwise_cons.2 ⟨haft,hs.drop⟩,fun a ha b hb=>?_⟩
  rcases List.mem_cons.1 hb with rfl | hb
  ·exact hbef a ha
  ·exact cmpN_trans (hbef a ha) (haft b hb)
 ·rcases (hmem q).1 hq with hq | hq
  ·obtain ⟨t,ht,e⟩:=hi.1 q hq
   exact ⟨t,by simp [ht],e⟩
  ·rw [hq]; exact ⟨s,by simp,rfl,rfl⟩
 ·rcases List.mem_append.1 ht with ht | ht
  ·obtain ⟨p,hp,e⟩:=hi.2 t ht
   exact ⟨p,(hmem p).2 (.inl hp),e⟩
  ·have e1:t=s:=by simpa using ht
   rw [e1]; exact ⟨_,(hmem _).2 (.inr rfl),rfl,rfl⟩
 ·simp; omega
theorem invS_bad {ps:List Tm} {l:Ar} {s:Tm} (h:InvS ps l) {p:ByteArray×Nat} (hp:p∈l) (h1:p.1=s.name) (h2:p.2≠s.args.length):¬ okS (ps++[s]):=fun hk=>by
 obtain ⟨t,ht,e1,e2⟩:=h.2.2.1.1 p hp
 exact h2 (by rw [← e2]; exact hk.1 t (by simp [ht]) s (by simp) (by rw [e1,h1]))
theorem nv_append (l r:List Tm):nv (l++r)=nv l++nv r:=by simp [nv]
theorem nv_pre {t:Tm} (h:t.var=false):nv t.pre=t::nv (Tm.preL t.args):=by rw [Tm.pre_eq]; simp [nv,h]
theorem symbols_ok:∀ (t:Tm) (ps:List Tm) (l:Ar),t.formed=true→t.size+ps.length≤274877906944→InvS ps l→∀ {Q:D→Heap→Prop},
  (∀ l':Ar,InvS (ps++nv t.pre) l'→Q (.tup [.v (.sl Ze) (.l (encM l')),bD true]) [])→(¬ okS (ps++nv t.pre)→∀ l':Ar,Q (.tup [.v (.sl Ze) (.l (encM l')),bD false]) []) →
  cl Zdq [tD t,.v (.sl Ze) (.l (encM l))] [] Q:=by
 refine Tm.ind fun t ih=>?_
 intro ps l hf hsz hI Q hQ1 hQ2
 refine Zp1 _ _ _ _ _ ?_
 unfold ZiU
 rw [Tm.formed_eq] at hf
 refine iff_intro (fun hv=>⟨⟨trivial,trivial,trivial⟩,?_⟩) (fun hv=>?_)
 ·rw [hv] at hf
  have ha:t.args=[]:=by
   have:=(Bool.and_eq_true _ _).mp hf
   simpa using this.2
  have e:nv t.pre=[]:=by rw [Tm.pre_eq,ha]; simp [nv,hv,Tm.preL]
  exact hQ1 l (by rw [e,List.append_nil]; exact hI)
 have hnv:=nv_pre hv
 rw [hnv] at hQ1 hQ2
 have hfa:∀ a∈t.args,a.formed=true:=by
  rw [hv] at hf
  have h1:t.args.all Tm.formed=true:=by
   have:=(Bool.and_eq_true _ _).mp hf
   exact this.2
  exact fun a ha=>List.all_eq_true.1 h1 a ha
 have hts:=Tm.size_eq t
 have hlim:lim=549755813888:=rfl
 have hbig:big=9223372036854775807:=rfl
 have hll:l.length≤ps.length:=hI.2.2.2
 refine r01_Marked_ok t.name _ ⟨rfl,rfl,iff_intro (fun hm=>⟨⟨trivial,trivial,trivial⟩,hQ2 (fun hk=>?_) l⟩) (fun hm=>?_)⟩
 ·have h1:=hk.2 t (by simp)
  have h2:markedL t.name.data.toList=true:=hm
  rw [h2] at h1; cases h1
 have hm':markedL t.name.data.toList=false:=hm
 -- the arguments
 have rest:∀ l':Ar,InvS (ps++[t]) l'→(t.args.length≤big→∃ m1,Zbs Q m1 (V.l (encM l')) (Tm.encL t.args) (t.args.length:Int) 0):=fun l' hl' hb=>by
  refine Zjw Q _ _ hb (fun k x1=>∃ lk:Ar,x1=V.l (encM lk)∧InvS (ps++[t]++nv (Tm.preL (t.args.take k))) lk) (fun k x1 hk hJ K hK=>?_) (fun x1 hJ=>⟨⟨trivial,trivial,trivial⟩,?_⟩) 0 _ (Nat.zero_le _) ⟨l',rfl,by simpa [Tm.preL,nv] using hl'⟩
  ·obtain ⟨lk,rfl,hlk⟩:=hJ
   have hin:=List.getElem_mem hk
   have hst:=Tm.sizeL_take t.args k hk
   have hsl:=Tm.sizeL_take_le t.args (k+1)
   have hnl:(nv (Tm.preL (t.args.take k))).length≤Tm.sizeL (t.args.take k):=by rw [← preL_length]; exact List.length_filter_le _ _
   rw [Tm.encL_length,Tm.encL_getD t.args k hk,Tm.enc_eq]
   have e:ps++[t]++nv (Tm.preL (t.args.take (k+1)))=(ps++[t]++nv (Tm.preL (t.args.take k)))++nv (t.args[k]).pre:=by
    rw [List.take_succ_eq_append_getElem hk,preL_append,nv_append]; simp [Tm.preL]
   refine ⟨by omega,by omega,ih _ hin _ lk (hfa _ hin) (by simp only [List.length_append,List.length_singleton]; omega) hlk (fun l2 h2=>⟨rfl,rfl,?_⟩) (fun hn l2=>⟨rfl,rfl,?_⟩)⟩
   ·show iff (!true) _ _
    exact hK _ ⟨l2,rfl,by rw [e]; exact h2⟩
   ·show iff (!false) _ _
    refine ⟨⟨trivial,trivial,trivial⟩,hQ2 (fun hk2=>hn (okS_sub hk2 fun s hs=>?_)) lk⟩
    have hd:Tm.preL t.args=Tm.preL (t.args.take (k+1))++Tm.preL (t.args.drop (k+1)):=by rw [← preL_append,List.take_append_drop]
    rw [← e] at hs
    rw [hd,nv_append]
    simp only [List.mem_append,List.mem_cons,List.not_mem_nil,or_false] at hs ⊢
    rcases hs with (h | h) | h
    ·exact .inl h
    ·exact .inr (.inl h)
    ·exact .inr (.inr (.inl h))
  ·obtain ⟨lk,rfl,hlk⟩:=hJ
   rw [List.take_length] at hlk
   exact hQ1 lk (by simpa [List.append_assoc] using hlk)
 have jp1:∀ (l':Ar) (k:Nat) (hk:k<l'.length),(l'[k]).2=t.args.length→InvS (ps++[t]) l'→Zec Q (encM l') (k:Int) t.name t.var (Tm.encL t.args):=fun l' k hk he hl'=>by
  rw [Zgt]
  unfold Zfy
  rw [encM_length,Int.toNat_natCast,encM_getD l' k hk,Tm.encL_length]
  refine ⟨by omega,by omega,iff_bne (fun hne=>?_) (fun _=>rest l' hl')⟩
  exact absurd (by show (((l'[k]).2:Nat):Int)=_; rw [he]) hne
 have here:∀ (k:Nat),k≤l.length→(∀ i (hi:i<l.length),i<k→cmpN (l[i]).1 t.name = -1)→(∀ h:k<l.length,cmpN (l[k]).1 t.name≠-1)→∀ flag:Bool,(flag=true↔∀ h:k<l.length,(l[k]).1≠t.name)→Zav Q (encM l) (k:Int) flag t.name t.var (Tm.encL t.args):=fun k hk hJ hne flag hflag=>by
  rw [ZkA]
  unfold Zhr
  refine iff_intro (fun hb=>?_) (fun hb=>?_)
  ·have h3:=hflag.1 hb
   have t1:((encM l).take ((k:Nat):Int).toNat).drop (0:Int).toNat=encM (l.take k):=by simp [encM,List.map_take]
   have t2:((encM l).take (((encM l).length:Int)).toNat).drop ((k:Nat):Int).toNat=encM (l.drop k):=by
    rw [Int.toNat_natCast,Int.toNat_natCast,List.take_length]; simp [encM,List.map_drop]
   have l1:(encM (l.take k)).length=k:=by rw [encM_length,List.length_take]; omega
   have l2:(encM (l.drop k)).length=l.length - k:=by rw [encM_length,List.length_drop]
   have l0:=encM_length l
   rw [t1,t2,l1,l2,Tm.encL_length]
   simp only [List.nil_append,List.length_nil,List.length_append,List.length_cons,l1,l2]
   refine ⟨by omega,by omega,by omega,trivial,by omega,by omega,by omega,by omega,by omega,by omega,by omega,by omega,by omega,?_⟩
   have e2:encM (l.take k)++[[V.s t.name,V.i (t.args.length:Int)]]++encM (l.drop k)=encM (l.take k++(t.name,t.args.length)::l.drop k):=by simp [encM]
   rw [e2]
   have hkl:k<(l.take k++(t.name,t.args.length)::l.drop k).length:=by simp; omega
   have hgk:(l.take k++(t.name,t.args.length)::l.drop k)[k]=(t.name,t.args.length):=by
    rw [List.getElem_append_right (by simp; omega)]
    simp [Nat.min_eq_left hk]
   exact jp1 _ k hkl (by rw [hgk]) (invS_new hI hm' hk hJ fun h=>⟨hne h,h3 h⟩)
  ·have h4:∃ h:k<l.length,(l[k]).1=t.name:=by
    rcases Nat.lt_or_ge k l.length with h | h
    ·refine ⟨h,?_⟩
     cases Decidable.em ((l[k]).1=t.name) with
     | inl h5=>exact h5
     | inr h5 =>
      have:=hflag.2 fun _=>h5
      rw [hb] at this; cases this
    ·have:=hflag.2 fun h'=>absurd h' (by omega)
     rw [hb] at this; cases this
   obtain ⟨hkl,hx⟩:=h4
   have hin:l[k]∈l:=List.getElem_mem hkl
   cases Decidable.em ((l[k]).2=t.args.length) with
   | inl h5=>exact jp1 l k hkl h5 (invS_in hI hm' hin hx h5)
   | inr h5 =>
    rw [Zgt]
    unfold Zfy
    rw [encM_length,Int.toNat_natCast,encM_getD l k hkl,Tm.encL_length]
    refine ⟨by omega,by omega,iff_bne (fun hne=>⟨⟨trivial,trivial,trivial⟩,hQ2 (fun hk2=>invS_bad hI hin hx h5 (okS_sub hk2 fun s hs=>?_)) l⟩) (fun he=>?_)⟩
    ·simp only [List.mem_append,List.mem_cons,List.not_mem_nil,or_false] at hs ⊢
     rcases hs with h | h
     ·exact .inl h
     ·exact .inr (.inl h)
    ·have:(((l[k]).2:Nat):Int)=((t.args.length:Nat):Int):=he
     omega
 refine Zkf Q (fun x1 x6 y0 y1 y2=>x1=encM l∧y0=t.name∧y1=t.var∧y2=Tm.encL t.args∧∃ k:Nat,x6=k∧k≤l.length∧∀ i (hi:i<l.length),i<k→cmpN (l[i]).1 t.name = -1) (fun x1 x6 y0 y1 y2=>l.length - x6.toNat) ?_ _ _ _ _ _ ⟨rfl,rfl,rfl,rfl,0,rfl,Nat.zero_le _,fun i _ h=>by omega⟩
 rintro x1 x6 y0 y1 y2 ⟨rfl,rfl,rfl,rfl,k,rfl,hk,hJ⟩ M ih0
 unfold ZfF
 rw [encM_length,Int.toNat_natCast]
 have stop:(∀ h:k<l.length,cmpN (l[k]).1 t.name≠-1)→iff (((k:Nat):Int) == (l.length:Int)) (Zav Q (encM l) (k:Int) true t.name t.var (Tm.encL t.args)) (0≤(k:Int)∧(k:Int)<(l.length:Int)∧Zav Q (encM l) (k:Int) (!(((((encM l).getD k []).drop 0).headD V.none).str).toList == t.name.toList) t.name t.var (Tm.encL t.args)):=fun hne=>by
  refine iff_beq (fun he=>here k hk hJ hne true ⟨fun _ h=>by omega,fun _=>rfl⟩) (fun he=>?_)
  have hkl:k<l.length:=by
   rcases Nat.lt_or_ge k l.length with h | h
   ·exact h
   ·exact absurd (by omega:((k:Nat):Int)=(l.length:Int)) he
  refine ⟨by omega,by omega,here k hk hJ hne _ ?_⟩
  rw [encM_getD l k hkl]
  show (!((l[k]).1.toList == t.name.toList))=true↔_
  rw [ba_beq]
  simp only [Bool.not_eq_true',decide_eq_false_iff_not]
  exact ⟨fun h _=>h,fun h=>h hkl⟩
 refine iff_dec (fun hlt=>?_) (fun hge=>stop fun h=>by omega)
 have hkl:k<l.length:=by omega
 rw [encM_getD l k hkl]
 refine ⟨by omega,by omega,r01_CompareNames_ok _ _ _ ⟨rfl,rfl,iff_dec (fun h2=>?_) (fun h2=>?_)⟩⟩
 ·have h2':cmpN (l[k]).1 t.name<0:=h2
  have hm2:cmpN (l[k]).1 t.name = -1:=by rcases cmpN_cases (l[k]).1 t.name with h | h | h <;> omega
  rw [wrap_next k (by omega)]
  refine ih0 _ _ _ _ _ ⟨rfl,rfl,rfl,rfl,k+1,rfl,hkl,fun i hi hik=>?_⟩ ?_
  ·rcases Nat.lt_succ_iff_lt_or_eq.1 hik with h | h
   ·exact hJ i hi h
   ·subst h; exact hm2
  ·show l.length - ((k+1:Nat):Int).toNat<l.length - ((k:Nat):Int).toNat
   rw [Int.toNat_natCast,Int.toNat_natCast]; omega
 ·have h2':¬ cmpN (l[k]).1 t.name<0:=h2
  have:=stop fun _ he=>h2' (by omega)
  rw [encM_getD l k hkl] at this
  exact this
end Go.Proofs.YthjlodlkpgjlkaaGreat
namespace Go.Proofs.YthjlodlkpgjlkaaGreat
open Go Go.Abs
def cnt (l:List Tm) (v:ByteArray):Nat:=(l.filter fun s=>s.var&&decide (s.name=v)).length
theorem cnt_append (l r:List Tm) (v:ByteArray):cnt (l++r) v=cnt l v+cnt r v:=by simp [cnt]
theorem cnt_le (l:List Tm) (v:ByteArray):cnt l v≤l.length:=List.length_filter_le _ _
theorem cnt_zero {l:List Tm} {v:ByteArray}:cnt l v=0↔v ∉ varsIn l:=by
 unfold cnt varsIn
 rw [List.length_eq_zero_iff,List.filter_eq_nil_iff]
 constructor
 ·intro h hm
  obtain ⟨s,hs,rfl⟩:=List.mem_map.1 hm
  obtain ⟨h1,h2⟩:=List.mem_filter.1 hs
  exact h s h1 (by simp [h2])
 ·intro h s hs hv
  obtain ⟨h1,h2⟩:s.var=true∧s.name=v:=by simpa using hv
  exact h (List.mem_map.2 ⟨s,List.mem_filter.2 ⟨hs,h1⟩,h2⟩)
theorem r01_Count_ok (v:ByteArray):∀ t:Tm,t.size≤small→Fn Zff [tD t,sD v] (iD (cnt t.pre v)):=by
 refine Tm.ind fun t ih hB Q hQ=>?_
 refine ZqO _ _ _ _ _ ?_
 unfold Zmb
 have hts:=Tm.size_eq t
 have hsm:small=1152921504606846976:=rfl
 have go:∀ c0:Nat,cnt t.pre v=c0+cnt (Tm.preL t.args) v→ZdW Q v (c0:Int) t.name t.var (Tm.encL t.args):=fun c0 hc0=>by
  rw [Zmq]
  unfold Zi0
  intro hb
  have hl:=Tm.encL_length t.args
  rw [hl] at hb ⊢
  refine Zl7 Q _ _ _ hb (fun k x5=>x5=((c0+cnt (Tm.preL (t.args.take k)) v:Nat):Int)) (fun k x5 hk hJ K hK=>?_) (fun x5 hJ=>?_) 0 _ (Nat.zero_le _) (by simp [Tm.preL,cnt])
  ·have hin:=List.getElem_mem hk
   have hst:=Tm.size_mem hin
   rw [hJ,hl,Tm.encL_getD _ k hk,Tm.enc_eq]
   refine ⟨by omega,by omega,ih _ hin (by omega) _ ⟨rfl,rfl,hK _ ?_⟩⟩
   have e:cnt (Tm.preL (t.args.take (k+1))) v=cnt (Tm.preL (t.args.take k)) v+cnt (t.args[k]).pre v:=by
    rw [List.take_succ_eq_append_getElem hk,preL_append,cnt_append]; simp [Tm.preL]
   have h1:=cnt_le (Tm.preL (t.args.take (k+1))) v
   rw [preL_length] at h1
   have h2:=Tm.sizeL_take_le t.args (k+1)
   have h3:c0+cnt (Tm.preL t.args) v≤t.size:=by rw [← hc0,← pre_length]; exact cnt_le _ _
   have h4:cnt (Tm.preL t.args) v=cnt (Tm.preL (t.args.take (k+1))) v+cnt (Tm.preL (t.args.drop (k+1))) v:=by
    rw [← cnt_append,← preL_append,List.take_append_drop]
   show IntKind.i64.wrap (((c0+cnt (Tm.preL (t.args.take k)) v:Nat):Int)+((cnt (t.args[k]).pre v:Nat):Int))=_
   rw [wrap_in _ (by omega) (by omega),e]
   omega
  ·rw [List.take_length] at hJ
   rw [hJ,← hc0]
   exact ⟨trivial,hQ⟩
 have hp:cnt t.pre v=cnt [t] v+cnt (Tm.preL t.args) v:=by rw [Tm.pre_eq,← cnt_append]; rfl
 refine iff_intro (fun hv=>?_) (fun hv=>go 0 (by rw [hp]; simp [cnt,hv]))
 rw [ba_beq]
 refine iff_dec (fun he=>go 1 (by rw [hp]; simp [cnt,hv,he])) (fun he=>go 0 (by rw [hp]; simp [cnt,hv,he]))
theorem insN_mem2 {l:List ByteArray} {s x:ByteArray}:x∈insN l s↔x=s∨x∈l:=by
 induction l with
 | nil=>simp [insN]
 | cons y r ih =>
  unfold insN
  split
  ·rw [List.mem_cons,ih,List.mem_cons]
   constructor
   ·rintro (h | h | h)
    ·exact .inr (.inl h)
    ·exact .inl h
    ·exact .inr (.inr h)
   ·rintro (h | h | h)
    ·exact .inr (.inl h)
    ·exact .inl h
    ·exact .inr (.inr h)
  ·split
   ·rename_i h
    constructor
    ·exact .inr
    ·rintro (rfl | h)
     ·rw [h]; simp
     ·exact h
   ·simp
theorem mem_collect {x:ByteArray}:∀ (t:Tm) (l:List ByteArray),x∈Tm.collect t l↔x∈l∨x∈varsIn t.pre:=by
 refine Tm.ind fun t ih l=>?_
 have hL:∀ (a:List Tm),(∀ t∈a,∀ l,x∈Tm.collect t l↔x∈l∨x∈varsIn t.pre)→∀ l,x∈Tm.collectL a l↔x∈l∨x∈varsIn (Tm.preL a):=by
  intro a
  induction a with
  | nil=>intro _ l; simp [Tm.collectL,Tm.preL,varsIn]
  | cons t r ihr =>
   intro h l
   rw [Tm.collectL,ihr (fun t ht=>h t (List.mem_cons_of_mem _ ht)),h t (by simp)]
   simp only [Tm.preL,varsIn_append,List.mem_append]
   rw [or_assoc]
 rw [Tm.collect_eq,hL t.args ih,Tm.pre_eq]
 have e:varsIn (t::Tm.preL t.args)=varsIn [t]++varsIn (Tm.preL t.args):=varsIn_append [t] _
 rw [e,List.mem_append]
 cases hv:t.var with
 | true =>
  have:varsIn [t]=[t.name]:=by simp [varsIn,hv]
  rw [this,if_pos rfl,insN_mem2]
  simp only [List.mem_singleton]
  constructor
  ·rintro ((h | h) | h)
   ·exact .inr (.inl h)
   ·exact .inl h
   ·exact .inr (.inr h)
  ·rintro (h | h | h)
   ·exact .inl (.inr h)
   ·exact .inl (.inl h)
   ·exact .inr h
 | false =>
  have:varsIn [t]=[]:=by simp [varsIn,hv]
  rw [this]; simp
theorem mem_vars1 {x:ByteArray} (t:Tm):x∈Tm.vars [t]↔x∈varsIn t.pre:=by
 show x∈Tm.collectL [t] []↔_
 rw [show Tm.collectL [t] []=Tm.collect t [] from rfl,mem_collect]; simp
theorem r01_Within_ok (a b:Tm) (hB:a.size≤4000∧b.size≤4000):Fn Zer [tD a,tD b] (bD ((varsIn a.pre).all fun v=>hasN (varsIn b.pre) v)):=fun Q hQ=>by
 refine Zqw _ _ _ _ _ _ _ ?_
 unfold ZkB
 rw [show [[V.s a.name,V.b a.var,V.l (Tm.encL a.args)]]=Tm.encL [a] by simp [Tm.encL,Tm.enc_eq]]
 refine r01_Vars_ok [a] (by simp [Tm.sizeL,lim]; omega) _ ⟨rfl,rfl,fun hb=>?_⟩
 have hl:((nsD (Tm.vars [a])).V.list).length=(Tm.vars [a]).length:=encN_length _
 have hres:∀ bb:Bool,(bb=true↔∀ v∈Tm.vars [a],v∈varsIn b.pre)→Q (bD bb) []:=fun bb hbb=>by
  have:bb=(varsIn a.pre).all fun v=>hasN (varsIn b.pre) v:=by
   rw [Bool.eq_iff_iff,hbb,List.all_eq_true]
   simp only [mem_vars1,hasN_iff]
  rw [this]; exact hQ
 rw [hl] at hb ⊢
 refine ZkV Q _ _ _ _ _ hb (fun k=>∀ v∈(Tm.vars [a]).take k,v∈varsIn b.pre) (fun k hk hJ K hK=>?_) (fun hJ=>⟨trivial,hres true ⟨fun _=>by rw [List.take_length] at hJ; exact hJ,fun _=>rfl⟩⟩) 0 (Nat.zero_le _) (by simp)
 have hg:((nsD (Tm.vars [a])).V.list).getD k []=[.s (Tm.vars [a])[k]]:=encN_getD _ k hk
 rw [hl,hg]
 refine ⟨by omega,by omega,r01_Count_ok (Tm.vars [a])[k] b (by unfold small; omega) _ ⟨rfl,rfl,iff_beq (fun h=>⟨trivial,hres false ⟨fun h=>Bool.noConfusion h,fun h2=>?_⟩⟩) (fun h=>hK fun v hv=>?_)⟩⟩
 ·have h0:cnt b.pre (Tm.vars [a])[k]=0:=by
   have:((cnt b.pre (Tm.vars [a])[k]:Nat):Int)=0:=h
   omega
  exact absurd (h2 _ (List.getElem_mem hk)) (cnt_zero.1 h0)
 ·rw [List.take_succ_eq_append_getElem hk] at hv
  rcases List.mem_append.1 hv with hv | hv
  ·exact hJ v hv
  ·have e:v=(Tm.vars [a])[k]:=by simpa using hv
   rw [e]
   cases Decidable.em (cnt b.pre (Tm.vars [a])[k]=0) with
   | inl h0=>exact absurd (by show ((cnt b.pre (Tm.vars [a])[k]:Nat):Int)=0; rw [h0]; rfl) h
   | inr h0 =>
    cases hh:hasN (varsIn b.pre) (Tm.vars [a])[k] with
    | true=>exact hasN_iff.1 hh
    | false=>exact absurd (cnt_zero.2 (hasN_false.1 hh)) h0
end Go.Proofs.YthjlodlkpgjlkaaGreat
namespace Go.Proofs.YthjlodlkpgjlkaaGreat
open Go Go.Abs
theorem sides_append (l r:Ru):sides (l++r)=sides l++sides r:=by unfold sides; exact List.flatMap_append
theorem sides_split (l:Ru) (k:Nat):sides l=sides (l.take k)++sides (l.drop k):=by rw [← sides_append,List.take_append_drop]
theorem Symbols_ok (l:Ru) (hf:∀ x∈l,x.1.formed=true∧x.2.formed=true) (hB:Tm.sizeL (sides l)≤137438953472) {Q:D→Heap→Prop} (hQ1:∀ l':Ar,InvS (nodesR l) l'→Q (.tup [.v (.sl Ze) (.l (encM l')),bD true]) [])
  (hQ2:¬ okS (nodesR l)→Q (.tup [.v (.sl Ze) (.l []),bD false]) []):cl Zhj [ruD l] [] Q:=by
 refine ACalls.as ?_
 refine Zpq _ _ fun hb=>?_
 have hl:=encRs_length l
 rw [hl] at hb ⊢
 have hsub:∀ k,Tm.sizeL (sides (l.take k))≤Tm.sizeL (sides l):=fun k=>by
  rw [sides_split l k,Tm.sizeL_append]; omega
 have hnv:∀ r:List Tm,(nv (Tm.preL r)).length≤Tm.sizeL r:=fun r=>by rw [← preL_length]; exact List.length_filter_le _ _
 refine ZjS _ _ _ hb (fun k x4=>∃ lk:Ar,x4=V.l (encM lk)∧InvS (nodesR (l.take k)) lk) (fun k x4 hk hJ M hM=>?_) (fun x4 hJ=>⟨⟨trivial,trivial,trivial⟩,?_⟩) 0 _ (Nat.zero_le _)
  ⟨[],rfl,⟨⟨fun s hs=>by simp [nodesR,sides,Tm.preL,nv] at hs,fun s hs=>by simp [nodesR,sides,Tm.preL,nv] at hs⟩,List.Pairwise.nil,⟨by simp,fun s hs=>by simp [nodesR,sides,Tm.preL,nv] at hs⟩,by simp⟩⟩
 ·obtain ⟨lk,rfl,hlk⟩:=hJ
  have hin:=List.getElem_mem hk
  simp only [encRs_getD _ k hk,List.drop_zero,List.headD_cons,List.tail_cons]
  refine ⟨by omega,by rw [hl]; omega,fun _=>?_⟩
  rw [show [[V.s (l[k]).1.name,V.b (l[k]).1.var,V.l (Tm.encL (l[k]).1.args)],[V.s (l[k]).2.name,V.b (l[k]).2.var,V.l (Tm.encL (l[k]).2.args)]]=Tm.encL [(l[k]).1,(l[k]).2] by simp [Tm.encL,Tm.enc_eq]]
  rw [show ((Tm.encL [(l[k]).1,(l[k]).2]).length:Int)=((2:Nat):Int) by rw [Tm.encL_length]; rfl]
  have hS:sides (l.take (k+1))=sides (l.take k)++[(l[k]).1,(l[k]).2]:=by
   rw [List.take_succ_eq_append_getElem hk,sides_append]; rfl
  have hSl:=hsub (k+1)
  rw [hS,Tm.sizeL_append] at hSl
  have hN:nodesR (l.take (k+1))=nodesR (l.take k)++nv (Tm.preL [(l[k]).1,(l[k]).2]):=by
   unfold nodesR; rw [hS,preL_append,nv_append]
  have hAll:∀ s∈nodesR (l.take (k+1)),s∈nodesR l:=fun s hs=>by
   have:=sides_split l (k+1)
   unfold nodesR at hs ⊢
   rw [this,preL_append,nv_append]
   exact List.mem_append_left _ hs
  have hff:=hf _ hin
  generalize hx:l[k]=x at *
  refine Zjj _ M _ _ _ _ _ (by unfold big; omega) (fun j x4=>∃ lj:Ar,x4=V.l (encM lj)∧InvS (nodesR (l.take k)++nv (Tm.preL ([x.1,x.2].take j))) lj) (fun j x4 hj hJ2 K hK=>?_) (fun x4 hJ2=>?_) 0 _ (Nat.zero_le _) ⟨lk,rfl,by simpa [Tm.preL,nv] using hlk⟩
  ·obtain ⟨lj,rfl,hlj⟩:=hJ2
   have hj':j < [x.1,x.2].length:=hj
   rw [Tm.encL_length,Tm.encL_getD _ j hj',Tm.enc_eq]
   have hm2:[x.1,x.2][j]∈[x.1,x.2]:=List.getElem_mem hj'
   have hfj:([x.1,x.2][j]).formed=true:=by
    rcases List.mem_cons.1 hm2 with h | h
    ·rw [h]; exact hff.1
    ·have:[x.1,x.2][j]=x.2:=by simpa using h
     rw [this]; exact hff.2
   have h1:=hnv (sides (l.take k))
   have h2:=hnv ([x.1,x.2].take j)
   have h3:=Tm.sizeL_take [x.1,x.2] j hj'
   have h4:=Tm.sizeL_take_le [x.1,x.2] (j+1)
   have e:nodesR (l.take k)++nv (Tm.preL ([x.1,x.2].take (j+1)))=(nodesR (l.take k)++nv (Tm.preL ([x.1,x.2].take j)))++nv ([x.1,x.2][j]).pre:=by
    rw [List.take_succ_eq_append_getElem hj',preL_append,nv_append]; simp [Tm.preL]
   refine ⟨by omega,by omega,symbols_ok _ _ lj hfj (by simp only [List.length_append]; unfold nodesR; omega) hlj (fun l2 h2=>⟨rfl,rfl,?_⟩) (fun hn l2=>⟨rfl,rfl,?_⟩)⟩
   ·show iff (!true) _ _
    exact hK _ ⟨l2,rfl,by rw [e]; exact h2⟩
   ·show iff (!false) _ _
    refine ⟨⟨trivial,trivial,trivial⟩,_,As.pair (.nil _ _ rfl) (.refl _),hQ2 fun hk2=>hn (okS_sub hk2 fun s hs=>hAll s ?_)⟩
    rw [hN]
    rw [← e] at hs
    rcases List.mem_append.1 hs with h | h
    ·exact List.mem_append_left _ h
    ·refine List.mem_append_right _ ?_
     have hd:Tm.preL [x.1,x.2]=Tm.preL ([x.1,x.2].take (j+1))++Tm.preL ([x.1,x.2].drop (j+1)):=by rw [← preL_append,List.take_append_drop]
     rw [hd,nv_append]
     exact List.mem_append_left _ h
  ·obtain ⟨lj,rfl,hlj⟩:=hJ2
   exact hM _ ⟨lj,rfl,by rw [hN]; exact hlj⟩
 ·obtain ⟨lk,rfl,hlk⟩:=hJ
  rw [List.take_length] at hlk
  exact ⟨_,.refl _,hQ1 lk hlk⟩
theorem sizeL_sides {l:Ru} (h:∀ x∈l,x.1.size≤4000∧x.2.size≤4000):Tm.sizeL (sides l)≤8000*l.length:=by
 induction l with
 | nil=>simp [sides,Tm.sizeL]
 | cons x r ih =>
  have h1:=h x (by simp)
  have h2:=ih fun y hy=>h y (List.mem_cons_of_mem _ hy)
  rw [sides_cons]
  simp only [Tm.sizeL,List.length_cons]
  omega
theorem r01_CheckSystem_ok (l:Ru) (hB:∀ x∈l,x.1.size≤small∧x.2.size≤small):Fn Zbd [ruD l] (iD (sysE l)):=fun Q hQ=>by
 refine Zlr _ _ ?_
 unfold Zgp
 unfold sysE at hQ
 refine r01_Rules_ok l hB _ ⟨rfl,rfl,iff_bne (fun h=>⟨trivial,?_⟩) (fun h=>?_)⟩
 ·have h':rules l≠0:=h
  rw [if_pos h'] at hQ; exact hQ
 have hr:rules l=0:=h
 rw [if_neg (by simp [hr])] at hQ
 obtain ⟨hlen,hck⟩:=rules_zero hr
 have hS:∀ x∈l,x.1.size≤4000∧x.2.size≤4000:=fun x hx=>⟨(Tm.check_zero.1 (hck x hx).1).2.1,(Tm.check_zero.1 (hck x hx).2).2.1⟩
 have hF:∀ x∈l,x.1.formed=true∧x.2.formed=true:=fun x hx=>⟨(Tm.check_zero.1 (hck x hx).1).1,(Tm.check_zero.1 (hck x hx).2).1⟩
 have hsz:=sizeL_sides hS
 refine Symbols_ok l hF (by omega) (fun l' hl'=>⟨rfl,rfl,?_⟩) (fun hn=>⟨rfl,rfl,?_⟩)
 ·show iff (!true) _ _
  intro hb
  have hok:arOk (nodesR l)∧∀ s∈nodesR l,markedL s.name.data.toList=false:=hl'.1
  rw [if_pos hok] at hQ
  have hl:=encRs_length l
  rw [hl] at hb ⊢
  refine Zhn Q _ _ hb (fun k=>(l.take k).any extraB=false) (fun k hk hJ K hK=>?_) (fun hJ=>⟨trivial,?_⟩) 0 (Nat.zero_le _) rfl
  ·have hin:=List.getElem_mem hk
   have hs:=hS _ hin
   simp only [encRs_getD _ k hk,List.drop_zero,List.headD_cons,List.tail_cons]
   have bad:extraB l[k]=true→Q (iD 7) []:=fun he=>by
    have:l.any extraB=true:=List.any_eq_true.2 ⟨_,hin,he⟩
    rw [if_pos this] at hQ; exact hQ
   refine ⟨by omega,by rw [hl]; omega,iff_intro (fun hv=>⟨trivial,bad ?_⟩) (fun hv=>r01_Within_ok (l[k]).2 (l[k]).1 ⟨hs.2,hs.1⟩ _ ⟨rfl,rfl,?_⟩)⟩
   ·have hv':(l[k]).1.var=true:=hv
    unfold extraB; rw [hv']; rfl
   ·have hv':(l[k]).1.var=false:=hv
    have e:extraB l[k]=!((varsIn (l[k]).2.pre).all fun v=>hasN (varsIn (l[k]).1.pre) v):=by
     unfold extraB; rw [hv',Bool.false_or,List.all_eq_not_any_not,Bool.not_not]
    refine iff_intro (fun h=>⟨trivial,bad ?_⟩) (fun h=>hK (any_take hk hJ ?_))
    ·rw [e]; exact h
    ·rw [e]; exact h
  ·rw [List.take_length] at hJ
   rw [if_neg (by simp [hJ])] at hQ
   exact hQ
 ·show iff (!false) _ _
  have hn':¬ (arOk (nodesR l)∧∀ s∈nodesR l,markedL s.name.data.toList=false):=hn
  rw [if_neg hn'] at hQ
  exact ⟨trivial,hQ⟩
end Go.Proofs.YthjlodlkpgjlkaaGreat
namespace Go.Proofs.YthjlodlkpgjlkaaGreat
open Go.Abs
def encP (p:List Int):List (List V):=p.map fun i=>[.i i]
abbrev psD (p:List Int):D:=.v (.sl ZU) (.l (encP p))
theorem encP_length (p:List Int):(encP p).length=p.length:=by simp [encP]
theorem encP_getD (p:List Int) (k:Nat) (h:k<p.length):(encP p).getD k []=[.i p[k]]:=by
 rw [encP,List.getD_eq_getElem?_getD,List.getElem?_map,List.getElem?_eq_getElem h]; rfl
namespace Tm
def dflt:Tm:=mk bz false []
def at_:Tm→List Int→Option Tm
 | t,[]=>some t
 | t,i::p=>if i<0 then none else if i≥(t.args.length:Int) then none else at_ (t.args.getD i.toNat dflt) p
def put:Tm→List Int→Tm→Tm
 | _,[],u=>u
 | t,i::p,u=>mk t.name false (t.args.set i.toNat (put (t.args.getD i.toNat dflt) p u))
end Tm
def opD:Option Tm→D
 | none=>.tup [tD Tm.dflt,bD false]
 | some t=>.tup [tD t,bD true]
theorem r01_At_ok (t:Tm) (p:List Int):Fn Zns [tD t,psD p] (opD (Tm.at_ t p)):=Fn.as fun Q hQ=>by
 refine Zru _ _ _ _ _ ?_
 unfold Zqk
 intro hb
 have hl:=encP_length p
 rw [hl] at hb ⊢
 have none_:Tm.at_ t p=none→Q (.tup [.agg [.v .str (V.s (ByteArray.mk #[])),.v .bool (V.b false),.nil],.v .bool (V.b false)]) []:=fun h=>by
  rw [h] at hQ; exact hQ _ (.pair (.last3 _ _ _) (.refl _))
 refine Zo8 Q _ _ _ _ hb (fun k y0 y1 y2=>∃ s:Tm,y0=.s s.name∧y1=.b s.var∧y2=.l (Tm.encL s.args)∧Tm.at_ s (p.drop k)=Tm.at_ t p) (fun k y0 y1 y2 hk hJ m0 hK=>?_) (fun y0 y1 y2 hJ=>?_) 0 _ _ _ (Nat.zero_le _) ⟨t,rfl,rfl,rfl,rfl⟩
 ·obtain ⟨s,rfl,rfl,rfl,hs⟩:=hJ
  simp only [encP_getD _ k hk,List.drop_zero,List.headD_cons,List.tail_cons,V.int,V.list]
  rw [List.drop_eq_getElem_cons hk] at hs
  simp only [Tm.at_] at hs
  have hsl:=Tm.encL_length s.args
  refine ⟨by omega,by omega,iff_dec (fun h=>⟨⟨⟨trivial,trivial,trivial,trivial⟩,trivial,trivial⟩,?_⟩) (fun h _=>?_)⟩
  ·rw [if_pos h] at hs
   exact none_ hs.symm
  ·rw [if_neg h] at hs
   rw [hsl]
   refine iff_dec (fun h2=>⟨⟨⟨trivial,trivial,trivial,trivial⟩,trivial,trivial⟩,?_⟩) (fun h2=>?_)
   ·rw [if_pos h2] at hs
    exact none_ hs.symm
   ·rw [if_neg h2] at hs
    rw [ZpU]
    unfold Zoh
    simp only [V.int,V.list]
    have hj:(p[k]).toNat<s.args.length:=by omega
    refine ⟨by omega,by omega,?_⟩
    rw [Tm.encL_getD _ _ hj]
    simp only [Tm.enc_eq,List.drop_zero,List.headD_cons,List.tail_cons]
    refine hK _ _ _ ⟨s.args[(p[k]).toNat],rfl,rfl,rfl,?_⟩
    rw [← hs,List.getD_eq_getElem?_getD,List.getElem?_eq_getElem hj]; rfl
 ·obtain ⟨s,rfl,rfl,rfl,hs⟩:=hJ
  rw [List.drop_length] at hs
  refine ⟨⟨⟨trivial,trivial,trivial,trivial⟩,trivial,trivial⟩,?_⟩
  rw [← hs] at hQ
  exact hQ _ (.refl _)
end Go.Proofs.YthjlodlkpgjlkaaGreat
namespace Go.Proofs.YthjlodlkpgjlkaaGreat
open Go.Abs Tm
def sortN (l:List ByteArray):List ByteArray:=l.foldl insN []
theorem sortN_take (l:List ByteArray) (k:Nat) (h:k<l.length):sortN (l.take (k+1))=insN (sortN (l.take k)) l[k]:=by
 unfold sortN; rw [List.take_succ_eq_append_getElem h,List.foldl_append]; rfl
theorem foldl_insN_length:∀ (l m:List ByteArray),(l.foldl insN m).length≤m.length+l.length
 | [],m=>by simp
 | x::r,m=>by
  have h1:=insN_length m x
  have h2:=foldl_insN_length r (insN m x)
  simp only [List.foldl_cons,List.length_cons]; omega
theorem sortN_length (l:List ByteArray):(sortN l).length≤l.length:=by
 have:=foldl_insN_length l []
 simpa [sortN] using this
theorem insN_mem {l:List ByteArray} {s x:ByteArray}:x∈insN l s↔x=s∨x∈l:=by
 induction l with
 | nil=>simp [insN]
 | cons y r ih =>
  unfold insN
  split
  ·rw [List.mem_cons,ih,List.mem_cons]
   constructor
   ·rintro (h | h | h)
    ·exact .inr (.inl h)
    ·exact .inl h
    ·exact .inr (.inr h)
   ·rintro (h | h | h)
    ·exact .inr (.inl h)
    ·exact .inl h
    ·exact .inr (.inr h)
  ·split
   ·rename_i h
    constructor
    ·exact .inr
    ·rintro (rfl | h)
     ·rw [h]; simp
     ·exact h
   ·simp
end Go.Proofs.YthjlodlkpgjlkaaGreat
namespace Go.Proofs.YthjlodlkpgjlkaaGreat
open Go.Abs
theorem encRs_snoc (l:Ru) (a b:Tm):encRs l++[[V.s a.name,V.b a.var,V.l (Tm.encL a.args),V.s b.name,V.b b.var,V.l (Tm.encL b.args)]]=encRs (l++[(a,b)]):=by
 rw [encRs,encRs,List.map_append]
 show _=_++[encR (a,b)]
 rw [encR,Tm.enc_eq,Tm.enc_eq]; rfl
def blankB (c:Int):Bool:=decide (c=32∨c=9∨c=13∨c=10)
def partB (c:Int):Bool:=letterB c||decide (c=35)
def runN (f:Int→Bool) (s:ByteArray) (a:Nat):Nat:=a+((s.data.toList.drop a).takeWhile fun c=>f (c.toNat:Int)).length
theorem runN_ge (f:Int→Bool) (s:ByteArray) (a:Nat):a≤runN f s a:=by unfold runN; omega
theorem takeWhile_le {α:Type} (p:α→Bool):∀ l:List α,(l.takeWhile p).length≤l.length
 | []=>by simp
 | x::l=>by
  rw [List.takeWhile_cons]
  split
  ·simp only [List.length_cons]; have:=takeWhile_le p l; omega
  ·simp
theorem runN_le (f:Int→Bool) (s:ByteArray) {a:Nat} (h:a≤s.size):runN f s a≤s.size:=by
 unfold runN
 have h1:=takeWhile_le (fun c:UInt8=>f (c.toNat:Int)) (s.data.toList.drop a)
 rw [List.length_drop,ba_size] at h1
 omega
theorem runN_step {f:Int→Bool} {s:ByteArray} {a:Nat} (h:a<s.data.toList.length) (hf:f ((s.data.toList[a]).toNat:Int)=true):runN f s a=runN f s (a+1):=by
 unfold runN
 rw [List.drop_eq_getElem_cons h,List.takeWhile_cons,if_pos hf,List.length_cons]
 omega
theorem runN_stop {f:Int→Bool} {s:ByteArray} {a:Nat} (h:a<s.data.toList.length) (hf:f ((s.data.toList[a]).toNat:Int)=false):runN f s a=a:=by
 unfold runN
 rw [List.drop_eq_getElem_cons h,List.takeWhile_cons,if_neg (by rw [hf]; exact Bool.false_ne_true),List.length_nil]
 omega
theorem runN_end (f:Int→Bool) {s:ByteArray} {a:Nat} (h:s.data.toList.length≤a):runN f s a=a:=by
 unfold runN
 rw [List.drop_eq_nil_of_le h]; rfl
def arrowB:ByteArray:=ByteArray.mk #[45,62]
def nextT (s:ByteArray) (at_:Nat):ByteArray×Nat :=
 let a:=runN blankB s at_
 if a<runN partB s a then (s.extract a (runN partB s a),a)
 else if a+1<s.size∧s.extract a (a+2)=arrowB then (arrowB,a)
 else (s.extract a (min (a+1) s.size),a)
theorem extract_size (s:ByteArray) (i j:Nat) (h:j≤s.size):(s.extract i j).size=j - i:=by
 rw [← ba_size,extract_list,List.length_drop,List.length_take,ba_size]; omega
theorem nextT_off (s:ByteArray) (a:Nat):(nextT s a).2=runN blankB s a:=by unfold nextT; dsimp only; split <;> (try split) <;> rfl
theorem nextT_size (s:ByteArray) {a:Nat} (h:a≤s.size):(nextT s a).2+(nextT s a).1.size≤s.size∧a≤(nextT s a).2:=by
 rw [nextT_off]
 have h1:=runN_le blankB s h
 have h2:=runN_le partB s h1
 refine ⟨?_,runN_ge _ _ _⟩
 unfold nextT
 dsimp only
 split
 ·rw [extract_size _ _ _ h2]; omega
 ·split
  ·rename_i h3
   have:arrowB.size=2:=rfl
   rw [this]; have:=h3.1; omega
  ·rw [extract_size _ _ _ (by omega)]; omega
structure Ps where
 pos:Nat
 bad:Option Nat
def badI (b:Option Nat):Int:=match b with | none=>-1 | some n=>n
theorem badI_neg (b:Option Nat):badI b<0↔b=none:=by
 cases b with
 | none=>simp [badI]
 | some n=>simp [badI]
namespace Ps
def fail (p:Ps) (a:Nat):Ps:=⟨p.pos,match p.bad with | none=>some a | some b=>some b⟩
def may (s:ByteArray) (p:Ps) (t:ByteArray):Bool×Ps :=
 if p.bad=none∧(nextT s p.pos).1=t then (true,⟨(nextT s p.pos).2+(nextT s p.pos).1.size,p.bad⟩) else (false,p)
def take (s:ByteArray) (p:Ps) (t:ByteArray):Ps:=if (may s p t).1 then (may s p t).2 else fail p (nextT s p.pos).2
end Ps
def nameTok (x:ByteArray):Bool:=decide (x.size≠0)&&partB (((x.data.toList.getD 0 0).toNat:Nat):Int)
namespace Ps
def name (s:ByteArray) (p:Ps):ByteArray×Ps :=
 let x:=nextT s p.pos
 let p1:=if nameTok x.1&&nameOk x.1 true then p else fail p x.2
 if p1.bad=none then (x.1,⟨x.2+x.1.size,none⟩) else (bz,p1)
def close (s:ByteArray) (p:Ps):Ps:=if (nextT s p.pos).1=bz then p else fail p (nextT s p.pos).2
end Ps
abbrev lparB:ByteArray:=ByteArray.mk #[40]
abbrev rparB:ByteArray:=ByteArray.mk #[41]
abbrev commaB:ByteArray:=ByteArray.mk #[44]
mutual
def pTerm (s:ByteArray) (vs:List ByteArray):Nat→Ps→Tm×Ps
 | 0,p=>(Tm.mk bz false [],p)
 | f+1,p =>
  let n:=p.name s
  if n.2.bad≠none then (Tm.mk n.1 false [],n.2)
  else if hasN vs n.1 then (Tm.mk n.1 true [],if (nextT s n.2.pos).1=lparB then n.2.fail (nextT s n.2.pos).2 else n.2)
  else
   let m:=n.2.may s lparB
   if m.1=false then (Tm.mk n.1 false [],n.2)
   else
    let m2:=m.2.may s rparB
    if m2.1 then (Tm.mk n.1 false [],m2.2)
    else
     let r:=pArgs s vs f [] m.2
     (Tm.mk n.1 false r.1,r.2)
def pArgs (s:ByteArray) (vs:List ByteArray):Nat→List Tm→Ps→List Tm×Ps
 | 0,l,p=>(l,p)
 | f+1,l,p =>
  if p.bad≠none then (l,p)
  else if l.length=8 then (l,p.fail (nextT s p.pos).2)
  else
   let t:=pTerm s vs f p
   let m:=t.2.may s commaB
   if m.1 then pArgs s vs f (l++[t.1]) m.2
   else (l++[t.1],t.2.take s rparB)
end
def rdOut (s:ByteArray) (r:Tm×Ps):Tm×Nat×Int:=match (r.2.close s).bad with
 | some b=>(Tm.mk bz false [],b,4)
 | none=>if r.1.check≠0 then (Tm.mk bz false [],0,r.1.check) else (r.1,0,0)
def rdTerm (s:ByteArray) (vs:List ByteArray):Tm×Nat×Int :=
 if 20000<s.size then (Tm.mk bz false [],0,3)
 else if vs.all (fun v=>nameOk v false)=false then (Tm.mk bz false [],0,4)
 else rdOut s (pTerm s vs (2*s.size+2) ⟨0,none⟩)
def pDecl (s:ByteArray):Nat→List ByteArray→Ps→List ByteArray×Ps
 | 0,vs,p=>(vs,p)
 | f+1,vs,p =>
  if p.bad≠none then (vs,p)
  else
   let m:=p.may s rparB
   if m.1 then (vs,m.2)
   else
    let x:=nextT s p.pos
    if nameTok x.1&&nameOk x.1 false then pDecl s f (vs++[x.1]) ⟨x.2+x.1.size,p.bad⟩
    else (vs,p.fail x.2)
def pRules (s:ByteArray) (vs:List ByteArray):Nat→Ru→Ps→Ru×Ps
 | 0,r,p=>(r,p)
 | f+1,r,p =>
  if p.bad≠none then (r,p)
  else
   let m:=p.may s rparB
   if m.1 then (r,m.2)
   else
    let a:=pTerm s vs (2*s.size+2) p
    let b:=pTerm s vs (2*s.size+2) (a.2.take s arrowB)
    pRules s vs f (r++[(a.1,b.1)]) b.2
abbrev varB:ByteArray:=ByteArray.mk #[86,65,82]
abbrev rulesB:ByteArray:=ByteArray.mk #[82,85,76,69,83]
def pHead (s:ByteArray):List ByteArray×Ps :=
 let p1:=Ps.take s ⟨0,none⟩ lparB
 let m:=p1.may s varB
 let d:=if m.1 then pDecl s (s.size+1) [] m.2 else ([],p1)
 let p2:=if m.1 then d.2.take s lparB else p1
 (d.1,p2.take s rulesB)
def pSys (s:ByteArray):Ru×Ps :=
 let h:=pHead s
 let r:=pRules s h.1 (s.size+1) [] h.2
 (r.1,r.2.close s)
end Go.Proofs.YthjlodlkpgjlkaaGreat
namespace Go.Proofs.YthjlodlkpgjlkaaGreat
open Go.Abs
namespace Tm
mutual
def insideB (x:Tm):Tm→Bool | mk n v xs=>eqB x (mk n v xs)||properL x xs
def properL (x:Tm):List Tm→Bool | []=>false | a::r=>insideB x a||properL x r
end
def properB (x t:Tm):Bool:=properL x t.args
theorem insideB_eq (x:Tm):∀ t:Tm,insideB x t=(eqB x t||properB x t) | mk _ _ _=>rfl
theorem properL_any (x:Tm):∀ l:List Tm,properL x l=l.any (insideB x)
 | []=>rfl
 | a::r=>by rw [properL,List.any_cons,properL_any x r]
def markT (t:Tm):Tm×Int:=if t.var||markedL t.name.data.toList then (mk bz false [],4) else if 24≤t.name.size then (mk bz false [],3) else (mk (t.name++ByteArray.mk #[35]) false t.args,0)
mutual
def unmarkedB:Tm→Bool | mk n v xs=>(v||!(markedL n.data.toList))&&unmarkedL xs
def unmarkedL:List Tm→Bool | []=>true | a::r=>unmarkedB a&&unmarkedL r
end
theorem unmarkedB_eq:∀ t:Tm,unmarkedB t=((t.var||!(markedL t.name.data.toList))&&unmarkedL t.args) | mk _ _ _=>rfl
theorem unmarkedL_all:∀ l:List Tm,unmarkedL l=l.all unmarkedB
 | []=>rfl
 | a::r=>by rw [unmarkedL,List.all_cons,unmarkedL_all r]
def sideB (t:Tm):Bool:=!t.var&&markedL t.name.data.toList&&unmarkedL t.args
mutual
def posL:Tm→List (List Int) | mk _ _ xs=>[]::posLs 0 xs
def posLs:Nat→List Tm→List (List Int) | _,[]=>[] | i,a::r=>(posL a).map ((i:Int)::·)++posLs (i+1) r
end
theorem posL_eq:∀ t:Tm,posL t=[]::posLs 0 t.args | mk _ _ _=>rfl
theorem posLs_append:∀ (l m:List Tm) (i:Nat),posLs i (l++m)=posLs i l++posLs (i+l.length) m
 | [],m,i=>by simp [posLs]
 | a::l,m,i=>by
  rw [List.cons_append,posLs,posLs,posLs_append l m (i+1),List.append_assoc,List.length_cons,show i+1+l.length=i+(l.length+1) by omega]
theorem posLs_take (l:List Tm) (k:Nat) (h:k<l.length):posLs 0 (l.take (k+1))=posLs 0 (l.take k)++(posL l[k]).map ((k:Int)::·):=by
 rw [List.take_succ_eq_append_getElem h,posLs_append,List.length_take,Nat.min_eq_left (by omega),Nat.zero_add]
 simp [posLs]
theorem posLs_length:∀ (l:List Tm) (i:Nat),(∀ a∈l,(posL a).length=a.size)→(posLs i l).length=sizeL l
 | [],_,_=>rfl
 | a::r,i,h=>by rw [posLs,List.length_append,List.length_map,h a (by simp),posLs_length r (i+1) fun b hb=>h b (by simp [hb])]; rfl
theorem posL_length:∀ t:Tm,(posL t).length=t.size:=ind fun t ih=>by
 rw [posL_eq,List.length_cons,posLs_length _ _ ih,size_eq]; omega
end Tm
theorem r10_Inside_aux (x t:Tm) (hp:Fn Zes [tD x,tD t] (bD (Tm.properB x t))):Fn ZgB [tD x,tD t] (bD (Tm.insideB x t)):=fun Q hQ=>by
 refine Zqj _ _ _ _ _ _ _ ?_
 unfold ZkG
 rw [Tm.insideB_eq] at hQ
 refine r01_Equal_ok x t _ ⟨rfl,rfl,iff_intro (fun h=>⟨trivial,?_⟩) (fun h=>hp _ ⟨rfl,rfl,trivial,?_⟩)⟩
 ·have h:Tm.eqB x t=true:=h
  rw [h] at hQ; exact hQ
 ·have h:Tm.eqB x t=false:=h
  rw [h] at hQ; exact hQ
theorem r10_Proper_ok (x:Tm):∀ t:Tm,Fn Zes [tD x,tD t] (bD (Tm.properB x t)):=Tm.ind fun t ih Q hQ=>by
 refine Zqz _ _ _ _ _ _ _ fun hb=>?_
 have hl:=Tm.encL_length t.args
 rw [hl] at hb ⊢
 unfold Tm.properB at hQ
 rw [Tm.properL_any] at hQ
 refine Zj7 Q _ _ _ _ _ hb (fun k=>(t.args.take k).any (Tm.insideB x)=false) (fun k hk hJ K hK=>?_) (fun hJ=>⟨trivial,?_⟩) 0 (Nat.zero_le _) rfl
 ·simp only [Tm.encL_getD _ k hk,Tm.enc_eq,List.drop_zero,List.headD_cons,List.tail_cons]
  refine ⟨by omega,by omega,r10_Inside_aux x _ (ih _ (List.getElem_mem hk)) _ ⟨rfl,rfl,iff_intro (fun h=>⟨trivial,?_⟩) (fun h=>hK (any_take hk hJ h))⟩⟩
  have:t.args.any (Tm.insideB x)=true:=List.any_eq_true.2 ⟨_,List.getElem_mem hk,h⟩
  rw [this] at hQ; exact hQ
 ·rw [List.take_length] at hJ
  rw [hJ] at hQ; exact hQ
theorem r10_Mark_ok (t:Tm) (hs:t.name.size≤1048576):Fn Zim [tD t] (.tup [tD (Tm.markT t).1,iD (Tm.markT t).2]):=Fn.as fun Q hQ=>by
 refine Zrq _ _ _ _ ?_
 unfold Zoc
 have fin:∀ b:Bool,b=(t.var||markedL t.name.data.toList)→ZfP Q (.b b) t.name t.var (Tm.encL t.args) (ByteArray.mk #[]) false:=fun b hb=>by
  rw [ZnK]
  unfold Zkv
  unfold Tm.markT at hQ
  rw [← hb] at hQ
  refine iff_intro (fun h=>⟨⟨⟨trivial,trivial,trivial,trivial⟩,trivial,trivial⟩,hQ _ ?_⟩) (fun h _=>iff_dec (fun h2=>⟨⟨⟨trivial,trivial,trivial,trivial⟩,trivial,trivial⟩,hQ _ ?_⟩) (fun h2=>⟨?_,⟨⟨trivial,trivial,trivial,trivial⟩,trivial,trivial⟩,hQ _ ?_⟩))
  ·have h:b=true:=h
   rw [h]
   exact .pair (As.last3 _ _ _) (.refl _)
  ·have h:b=false:=h
   rw [h,if_neg Bool.false_ne_true,if_pos (by omega)]
   exact .pair (As.last3 _ _ _) (.refl _)
  ·show t.name.size+1≤lim
   unfold lim; omega
  ·have h:b=false:=h
   rw [h,if_neg Bool.false_ne_true,if_neg (by omega)]
   exact .refl _
 refine iff_intro (fun h=>fin true (by rw [h]; rfl)) (fun h=>r01_Marked_ok _ _ ⟨rfl,rfl,fin _ (by rw [h]; rfl)⟩)
def roots (r:Ru):List ByteArray:=r.map fun x=>x.1.name
theorem r10_Defined_ok (r:Ru) (hB:r.length+1≤lim):Fn Zhm [ruD r] (nsD (sortN (roots r))):=fun Q hQ=>by
 refine ZpN _ _ fun hb=>?_
 have hl:=encRs_length r
 have hr:(roots r).length=r.length:=by simp [roots]
 rw [hl] at hb ⊢
 refine ZjO Q _ _ hb (fun k x=>x=V.l (encN (sortN ((roots r).take k)))) (fun k x hk hJ K hK=>?_) (fun x hJ=>⟨trivial,?_⟩) 0 _ (Nat.zero_le _) rfl
 ·subst hJ
  simp only [encRs_getD _ k hk,List.drop_zero,List.headD_cons]
  have h1:=sortN_length ((roots r).take k)
  rw [List.length_take] at h1
  refine ⟨by omega,by omega,r01_Insert_ok _ _ (by omega) _ ⟨rfl,rfl,hK _ ?_⟩⟩
  rw [sortN_take _ k (by omega)]
  have:(roots r)[k]'(by omega)=(r[k]).1.name:=by simp [roots]
  rw [this]; rfl
 ·subst hJ
  rw [List.take_of_length_le (by omega)]
  exact hQ
def encPs (l:List (List Int)):LL:=l.map fun p=>[V.l (encP p)]
theorem encPs_length (l:List (List Int)):(encPs l).length=l.length:=by simp [encPs]
theorem encPs_getD (l:List (List Int)) (k:Nat) (h:k<l.length):(encPs l).getD k []=[V.l (encP l[k])]:=by
 rw [encPs,List.getD_eq_getElem?_getD,List.getElem?_map,List.getElem?_eq_getElem h]; rfl
abbrev posD (l:List (List Int)):D:=.v (.sl Ze5) (.l (encPs l))
theorem posL_len (t:Tm):∀ p∈Tm.posL t,p.length≤t.size:=by
 revert t
 refine Tm.ind fun t ih p hp=>?_
 have key:∀ (l:List Tm) (i:Nat),(∀ a∈l,∀ p∈Tm.posL a,p.length≤a.size)→∀ p∈Tm.posLs i l,p.length≤Tm.sizeL l+1:=by
  intro l
  induction l with
  | nil=>intro i _ p hp; simp [Tm.posLs] at hp
  | cons a r ih =>
   intro i h p hp
   rw [Tm.posLs] at hp
   rcases List.mem_append.1 hp with hp | hp
   ·obtain ⟨q,hq,rfl⟩:=List.mem_map.1 hp
    have:=h a (by simp) q hq
    simp only [List.length_cons,Tm.sizeL]; omega
   ·have:=ih (i+1) (fun b hb=>h b (by simp [hb])) p hp
    simp only [Tm.sizeL]; omega
 rw [Tm.posL_eq] at hp
 rcases List.mem_cons.1 hp with rfl | hp
 ·exact Nat.zero_le _
 ·have:=key _ _ ih p hp
  rw [Tm.size_eq]; omega
theorem r01_Positions_ok:∀ t:Tm,t.size+1≤lim→Fn ZbQ [tD t] (posD (Tm.posL t)):=Tm.ind fun t ih hB Q hQ=>by
 refine ZnP _ _ _ _ ⟨rfl,fun hb=>?_⟩
 have hl:=Tm.encL_length t.args
 have hs:=Tm.size_eq t
 have hls:=Tm.length_sizeL t.args
 rw [hl] at hb ⊢
 rw [Tm.posL_eq] at hQ
 have hlen:∀ k,(Tm.posLs 0 (t.args.take k)).length≤Tm.sizeL t.args:=fun k=>by
  rw [Tm.posLs_length _ _ fun a _=>Tm.posL_length a]; exact Tm.sizeL_take_le _ _
 refine Zh0 Q _ _ hb (fun k n y=>y=encPs ([]::Tm.posLs 0 (t.args.take k))∧n=y.length) (fun k n y hk hJ m0 hK=>?_) (fun n y hJ=>?_) 0 1 _ (Nat.zero_le _) ⟨rfl,rfl⟩
 ·obtain ⟨rfl,rfl⟩:=hJ
  have hin:=List.getElem_mem hk
  have hsz:=Tm.size_mem hin
  simp only [Tm.encL_getD _ k hk,Tm.enc_eq,List.drop_zero,List.headD_cons,List.tail_cons]
  refine ⟨by omega,by omega,ih _ hin (by omega) _ ⟨rfl,rfl,?_⟩⟩
  have hpl:=Tm.posL_length t.args[k]
  have htk:=Tm.posLs_take t.args k hk
  have hlk:=hlen (k+1)
  rw [htk,List.length_append,List.length_map] at hlk
  generalize hps:Tm.posL t.args[k]=ps at hpl htk hlk ⊢
  have hpo:∀ p∈ps,p.length≤t.size:=fun p hp=>by rw [← hps] at hp; have:=posL_len _ p hp; omega
  show (encPs ps).length≤big→∃ m1,Zao Q m0 m1 _ _ _ _ _ _ ((encPs ps).length:Int) 0 _
  rw [encPs_length]
  intro hb2
  refine Zig Q m0 _ _ _ _ _ _ hb2 (fun j n y=>y=encPs ([]::(Tm.posLs 0 (t.args.take k)++(ps.take j).map ((k:Int)::·)))∧n=y.length) (fun j n y hj hJ K hK2=>?_) (fun n y hJ=>?_) 0 _ _ (Nat.zero_le _) ⟨by simp,rfl⟩
  ·obtain ⟨rfl,rfl⟩:=hJ
   have hg:(posD ps).V.list.getD j []=[V.l (encP ps[j])]:=encPs_getD ps j hj
   simp only [hg,List.drop_zero,List.headD_cons]
   have hp:=hpo _ (List.getElem_mem hj)
   have hq:(encP ps[j]).length=(ps[j]).length:=encP_length _
   refine ⟨by omega,by show _<((encPs ps).length:Int); rw [encPs_length]; omega,rfl,?_,?_,trivial,?_,hK2 _ _ ?_⟩
   ·show 1+(encP ps[j]).length≤lim
    rw [hq]; omega
   ·show 1+(encP ps[j]).length=_
    rw [List.length_append]; rfl
   ·show (encPs _).length+1≤lim
    rw [encPs_length,List.length_cons,List.length_append,List.length_map,List.length_take]
    unfold lim at hB ⊢; omega
   ·refine ⟨?_,?_⟩
    ·rw [List.take_succ_eq_append_getElem hj,List.map_append,← List.append_assoc]
     simp [encPs,encP]
     rfl
    ·first | (rw [List.length_append]; done) | (rw [List.length_append]; rfl)
  ·obtain ⟨rfl,rfl⟩:=hJ
   rw [List.take_length,← htk,wrap_next k (by omega)]
   have:=hK _ _ ⟨rfl,rfl⟩
   rw [wrap_next k (by omega)] at this
   exact this
 ·obtain ⟨rfl,rfl⟩:=hJ
  rw [List.take_length]
  exact ⟨rfl,hQ⟩
theorem all_take {α:Type} {p:α→Bool} {l:List α} {k:Nat} (hk:k<l.length) (h:(l.take k).all p=true) (hp:p l[k]=true):(l.take (k+1)).all p=true:=by
 rw [List.take_succ_eq_append_getElem hk,List.all_append,h,List.all_cons,List.all_nil,hp]; rfl
theorem all_not {α:Type} {p:α→Bool} {l:List α} {k:Nat} (hk:k<l.length) (hp:p l[k]=false):l.all p=false:=by
 rw [← Bool.not_eq_true,List.all_eq_true]
 intro h
 have:=h _ (List.getElem_mem hk)
 rw [hp] at this; cases this
theorem r10_unmarked_ok:∀ t:Tm,Fn Zcu [tD t] (bD (Tm.unmarkedB t)):=Tm.ind fun t ih Q hQ=>by
 refine Zop _ _ _ _ ?_
 unfold ZhM
 rw [Tm.unmarkedB_eq] at hQ
 have fin:(t.var||!(markedL t.name.data.toList))=true→Zdw Q t.name t.var (Tm.encL t.args):=fun h=>by
  rw [Zjv]
  rw [h,Bool.true_and,Tm.unmarkedL_all] at hQ
  intro hb
  have hl:=Tm.encL_length t.args
  rw [hl] at hb ⊢
  refine ZiI Q _ _ hb (fun k=>(t.args.take k).all Tm.unmarkedB=true) (fun k hk hJ K hK=>?_) (fun hJ=>⟨trivial,?_⟩) 0 (Nat.zero_le _) rfl
  ·simp only [Tm.encL_getD _ k hk,Tm.enc_eq,List.drop_zero,List.headD_cons,List.tail_cons]
   refine ⟨by omega,by omega,ih _ (List.getElem_mem hk) _ ⟨rfl,rfl,iff_not (iff_intro (fun h=>hK (all_take hk hJ h)) (fun h=>⟨trivial,?_⟩))⟩⟩
   rw [all_not hk h] at hQ; exact hQ
  ·rw [List.take_length] at hJ
   rw [hJ] at hQ; exact hQ
 refine iff_not (iff_intro (fun hv=>fin (by rw [hv]; rfl)) (fun hv=>r01_Marked_ok _ _ ⟨rfl,rfl,iff_intro (fun h=>⟨trivial,?_⟩) (fun h=>fin ?_)⟩))
 ·have h:markedL t.name.data.toList=true:=h
  rw [hv,h] at hQ; exact hQ
 ·have h:markedL t.name.data.toList=false:=h
  rw [hv,h]; rfl
theorem r10_side_ok (t:Tm):Fn ZfW [tD t] (bD (Tm.sideB t)):=fun Q hQ=>by
 refine Zrj _ _ _ _ ?_
 unfold Znu
 unfold Tm.sideB at hQ
 refine iff_intro (fun hv=>⟨trivial,?_⟩) (fun hv=>r01_Marked_ok _ _ ⟨rfl,rfl,iff_not (iff_intro (fun h=>?_) (fun h=>⟨trivial,?_⟩))⟩)
 ·rw [hv] at hQ; exact hQ
 ·have h:markedL t.name.data.toList=true:=h
  rw [hv,h,Tm.unmarkedL_all] at hQ
  rw [ZnX]
  intro hb
  have hl:=Tm.encL_length t.args
  rw [hl] at hb ⊢
  refine ZmJ Q _ _ hb (fun k=>(t.args.take k).all Tm.unmarkedB=true) (fun k hk hJ K hK=>?_) (fun hJ=>⟨trivial,?_⟩) 0 (Nat.zero_le _) rfl
  ·simp only [Tm.encL_getD _ k hk,Tm.enc_eq,List.drop_zero,List.headD_cons,List.tail_cons]
   refine ⟨by omega,by omega,r10_unmarked_ok _ _ ⟨rfl,rfl,iff_not (iff_intro (fun h=>hK (all_take hk hJ h)) (fun h=>⟨trivial,?_⟩))⟩⟩
   rw [all_not hk h] at hQ; exact hQ
  ·rw [List.take_length] at hJ
   rw [hJ] at hQ; exact hQ
 ·have h:markedL t.name.data.toList=false:=h
  rw [hv,h] at hQ; exact hQ
end Go.Proofs.YthjlodlkpgjlkaaGreat
namespace Go.Proofs.YthjlodlkpgjlkaaGreat
open Go.Abs
def eqR (x y:Tm×Tm):Bool:=Tm.eqB x.1 y.1&&Tm.eqB x.2 y.2
theorem eqR_iff {x y:Tm×Tm}:eqR x y=true↔x=y:=by
 unfold eqR
 rw [Bool.and_eq_true,Tm.eqB_iff,Tm.eqB_iff]
 exact ⟨fun h=>Prod.ext h.1 h.2,fun h=>by rw [h]; exact ⟨rfl,rfl⟩⟩
def sameRs:Ru→Ru→Bool
 | [],[]=>true
 | x::l,y::m=>eqR x y&&sameRs l m
 | _,_=>false
theorem sameRs_iff:∀ {l m:Ru},sameRs l m=true↔l=m
 | [],[]=>by simp [sameRs]
 | [],_::_=>by simp [sameRs]
 | _::_,[]=>by simp [sameRs]
 | x::l,y::m=>by rw [sameRs,Bool.and_eq_true,eqR_iff,sameRs_iff,List.cons.injEq]
theorem sameRs_false {l m:Ru}:sameRs l m=false↔l≠m:=by rw [← Bool.not_eq_true,sameRs_iff]
theorem r01_SameRules_ok (l m:Ru):Fn ZeQ [ruD l,ruD m] (bD (sameRs l m)):=fun Q hQ=>by
 refine ZnA _ _ _ fun hb hb2=>?_
 have hl:=encRs_length l
 have hm:=encRs_length m
 rw [hl,hm]
 have no:l≠m→True∧Q (bD false) []:=fun h=>by rw [sameRs_false.2 h] at hQ; exact ⟨trivial,hQ⟩
 refine iff_bne (fun h=>no fun e=>h (by rw [e])) (fun h hb=>?_)
 have h:l.length=m.length:=by omega
 refine Zib Q _ _ _ hb (fun k=>l.take k=m.take k) (fun k hk hJ K hK=>?_) (fun hJ=>⟨trivial,?_⟩) 0 (Nat.zero_le _) rfl
 ·have hk2:k<m.length:=by omega
  simp only [encRs_getD _ k hk,encRs_getD _ k hk2,List.drop_zero,List.headD_cons,List.tail_cons]
  refine ⟨by omega,by rw [hl]; omega,by omega,by rw [hm]; omega,bD (Tm.eqB (l[k]).1 (m[k]).1),(r01_Equal_ok _ _).here rfl,iff_not (iff_intro (fun h1=>⟨by omega,by rw [hl]; omega,by omega,by rw [hm]; omega,r01_Equal_ok (l[k]).2 (m[k]).2 _ ⟨rfl,rfl,iff_not (iff_intro (fun h2=>hK ?_) (fun h2=>no fun e=>?_))⟩⟩) (fun h1=>no fun e=>?_))⟩
  ·have h1:=Tm.eqB_iff.1 (show Tm.eqB (l[k]).1 (m[k]).1=true from h1)
   have h2:=Tm.eqB_iff.1 (show Tm.eqB (l[k]).2 (m[k]).2=true from h2)
   rw [List.take_succ_eq_append_getElem hk,List.take_succ_eq_append_getElem hk2,hJ,Prod.ext h1 h2]
  ·have h2:Tm.eqB (l[k]).2 (m[k]).2=false:=h2
   subst e
   rw [Tm.eqB_self] at h2; cases h2
  ·have h1:Tm.eqB (l[k]).1 (m[k]).1=false:=h1
   subst e
   rw [Tm.eqB_self] at h1; cases h1
 ·rw [List.take_length,h,List.take_length] at hJ
  rw [sameRs_iff.2 hJ] at hQ; exact hQ
def listedB (acc:Ru) (y:Tm×Tm):Bool:=acc.any fun z=>eqR y z
theorem r10_listed_ok (acc:Ru) (y:Tm×Tm) {Q:D→Heap→Prop} (hQ:Q (bD (listedB acc y)) [.row Zd (encRs acc)]) :
  cl Zh6 [.osl (.own 0) acc.length,.agg [.v .str (.s y.1.name),.v .bool (.b y.1.var),.v (.sl Zb) (.l (Tm.encL y.1.args)),.v .str (.s y.2.name),.v .bool (.b y.2.var),.v (.sl Zb) (.l (Tm.encL y.2.args))]] [.row Zd (encRs acc)] Q:=by
 refine Zow _ _ _ _ _ _ _ _ _ ⟨encRs_length acc,fun hb=>?_⟩
 refine ZiD Q _ _ _ _ _ _ _ _ _ hb (fun k=>(acc.take k).any (fun z=>eqR y z)=false) (fun k hk hJ K hK=>?_) (fun hJ=>⟨trivial,?_⟩) 0 (Nat.zero_le _) rfl
 ·simp only [encRs_getD _ k hk,List.drop_zero,List.headD_cons,List.tail_cons]
  have e:∀ z:Tm×Tm,[[V.s z.1.name,V.b z.1.var,V.l (Tm.encL z.1.args),V.s z.2.name,V.b z.2.var,V.l (Tm.encL z.2.args)]]=encRs [z]:=fun z=>by
   simp [encRs,encR,Tm.enc_eq]
  rw [e,e]
  have e2:sameRs [y] [acc[k]]=eqR y acc[k]:=by simp [sameRs]
  refine ⟨encRs_length acc,by omega,by omega,encRs_length acc,hk,r01_SameRules_ok _ _ _ ⟨rfl,rfl,?_⟩⟩
  show iff (sameRs [y] [acc[k]]) _ _
  rw [e2]
  refine iff_intro (fun h=>⟨trivial,?_⟩) (fun h=>hK (any_take hk hJ h))
  have:listedB acc y=true:=List.any_eq_true.2 ⟨_,List.getElem_mem hk,h⟩
  rw [this] at hQ; exact hQ
 ·rw [List.take_length] at hJ
  have:listedB acc y=false:=hJ
  rw [this] at hQ; exact hQ
def dpStep (df:List ByteArray) (x:Tm×Tm) (u:Tm) (acc:Ru):Ru×Int :=
 if u.var then (acc,0) else if hasN df u.name=false then (acc,0) else if Tm.properB u x.1 then (acc,0)
 else if (Tm.markT x.1).2≠0 then ([],(Tm.markT x.1).2) else if (Tm.markT u).2≠0 then ([],(Tm.markT u).2)
 else if listedB acc ((Tm.markT x.1).1,(Tm.markT u).1) then (acc,0) else (acc++[((Tm.markT x.1).1,(Tm.markT u).1)],0)
def dpInner (df:List ByteArray) (x:Tm×Tm):List Tm→Ru→Ru×Int
 | [],acc=>(acc,0)
 | u::us,acc=>if (dpStep df x u acc).2≠0 then dpStep df x u acc else dpInner df x us (dpStep df x u acc).1
def dpOuter (df:List ByteArray):Ru→Ru→Ru×Int
 | [],acc=>if 64<acc.length then ([],3) else (acc,0)
 | x::xs,acc=>if (dpInner df x x.2.pre acc).2≠0 then dpInner df x x.2.pre acc else dpOuter df xs (dpInner df x x.2.pre acc).1
def dpOf (r:Ru):Ru×Int:=dpOuter (sortN (roots r)) r []
theorem at_posLs (t0:Tm):∀ (l:List Tm) (i:Nat),(∀ a∈l,(Tm.posL a).map (Tm.at_ a)=a.pre.map some)→t0.args.drop i=l→(Tm.posLs i l).map (Tm.at_ t0)=(Tm.preL l).map some
 | [],i,_,_=>rfl
 | a::r,i,h,hd=>by
  have hi:i<t0.args.length:=by
   rcases Nat.lt_or_ge i t0.args.length with h1 | h1
   ·exact h1
   ·rw [List.drop_eq_nil_of_le h1] at hd; cases hd
  rw [List.drop_eq_getElem_cons hi,List.cons.injEq] at hd
  rw [Tm.posLs,Tm.preL,List.map_append,List.map_append,at_posLs t0 r (i+1) (fun b hb=>h b (by simp [hb])) hd.2,← h a (by simp),List.map_map]
  congr 1
  refine List.map_congr_left fun p _=>?_
  show Tm.at_ t0 ((i:Int)::p)=_
  rw [Tm.at_,if_neg (by omega),if_neg (by omega),Int.toNat_natCast,List.getD_eq_getElem?_getD,List.getElem?_eq_getElem hi,← hd.1]
  rfl
theorem at_posL:∀ t:Tm,(Tm.posL t).map (Tm.at_ t)=t.pre.map some:=Tm.ind fun t ih=>by
 rw [Tm.posL_eq,Tm.pre_eq,List.map_cons,List.map_cons,at_posLs t t.args 0 ih rfl]
 rfl
theorem at_pos (t:Tm) (k:Nat) (hk:k<(Tm.posL t).length) (hk2:k<t.pre.length):Tm.at_ t (Tm.posL t)[k]=some t.pre[k]:=by
 have:=congrArg (fun l=>l[k]?) (at_posL t)
 simp only [List.getElem?_map,List.getElem?_eq_getElem hk,List.getElem?_eq_getElem hk2,Option.map_some,Option.some.injEq] at this
 exact this
theorem r10_Of_ok (r:Ru) (hB:Tm.sizeL (r.map (·.2))+1≤lim) (hN:∀ x∈r,x.1.name.size≤1048576∧∀ u∈x.2.pre,u.name.size≤1048576):Fn Zp3 [ruD r] (.tup [ruD (dpOf r).1,iD (dpOf r).2]):=Fn.as fun Q hQ=>by
 refine Zrv _ _ ?_
 unfold Zqn
 have hlr:r.length≤Tm.sizeL (r.map (·.2)):=by have:=Tm.length_sizeL (r.map (·.2)); rw [List.length_map] at this; exact this
 refine r10_Defined_ok r (by omega) _ ⟨rfl,rfl,fun hb=>?_⟩
 have hl:=encRs_length r
 rw [hl] at hb ⊢
 unfold dpOf at hQ
 generalize sortN (roots r)=df at hQ ⊢
 have nil3:∀ e:Int,As (.tup [.nil,iD e]) (.tup [ruD [],iD e]):=fun e=>.pair (.nil _ _ rfl) (.refl _)
 generalize hF:dpOuter df r []=F at hQ
 generalize hBB:Tm.sizeL (r.map (·.2))=B at hB
 refine ZoH Q _ _ _ hb (fun k n y=>∃ acc:Ru,y=encRs acc∧n=acc.length∧dpOuter df (r.drop k) acc=F∧acc.length+Tm.sizeL ((r.drop k).map (·.2))≤B) (fun k n y hk hJ m0 hK=>?_) (fun n y hJ=>?_) 0 0 _ (Nat.zero_le _) ⟨[],rfl,rfl,hF,by rw [List.drop_zero,hBB]; simp⟩
 ·obtain ⟨acc,rfl,rfl,hout,hacc⟩:=hJ
  have hin:=List.getElem_mem hk
  obtain ⟨hn1,hn2⟩:=hN _ hin
  rw [List.drop_eq_getElem_cons hk] at hout hacc
  simp only [encRs_getD _ k hk,List.drop_zero,List.headD_cons,List.tail_cons]
  generalize r[k]=x at hout hacc hn1 hn2 hin ⊢
  obtain ⟨x1,x2⟩:=x
  dsimp only at hn1 hn2
  rw [dpOuter] at hout
  dsimp only at hout
  simp only [List.map_cons,Tm.sizeL] at hacc
  have hpl:=Tm.posL_length x2
  have hprl:=pre_length x2
  refine ⟨by omega,by omega,r01_Positions_ok x2 (by omega) _ ⟨rfl,rfl,?_⟩⟩
  show (encPs (Tm.posL x2)).length≤big→∃ m1,Zaa Q m0 m1 _ _ _ _ _ _ ((encPs (Tm.posL x2)).length:Int) 0 _ _ _ _ _ _ _
  rw [encPs_length]
  intro hb2
  generalize hG:dpInner df (x1,x2) x2.pre acc=G at hout
  refine Zpf Q m0 _ _ _ _ _ _ _ _ _ _ _ _ hb2 (fun j n y=>∃ acc2:Ru,y=encRs acc2∧n=acc2.length∧dpInner df (x1,x2) (x2.pre.drop j) acc2=G∧acc2.length+(x2.pre.length - j)+Tm.sizeL ((r.drop (k+1)).map (·.2))≤B) (fun j n y hj hJ m1 hK2=>?_) (fun n y hJ=>?_) 0 _ _ (Nat.zero_le _) ⟨acc,rfl,rfl,hG,by omega⟩
  ·obtain ⟨acc2,rfl,rfl,hin2,hacc2⟩:=hJ
   have hj2:j<x2.pre.length:=by omega
   have hat:=at_pos x2 j hj hj2
   rw [List.drop_eq_getElem_cons hj2,dpInner] at hin2
   have hg:(posD (Tm.posL x2)).V.list.getD j []=[V.l (encP (Tm.posL x2)[j])]:=encPs_getD _ j hj
   simp only [hg,List.drop_zero,List.headD_cons]
   have hun:=hn2 _ (List.getElem_mem hj2)
   generalize x2.pre[j]=u at hat hin2 hun
   -- nothing more
   have skip:dpStep df (x1,x2) u acc2=(acc2,0)→Zaa Q m0 m1 (.l (encN df)) acc2.length (encRs r) (r.length:Int) (k:Int) (.l (encPs (Tm.posL x2))) ((Tm.posL x2).length:Int) (IntKind.i64.wrap ((j:Int)+(1:Int))) (.s x1.name) (.b x1.var) (.l (Tm.encL x1.args)) (.s x2.name) (.b x2.var) (.l (Tm.encL x2.args)) (encRs acc2):=fun h=>by
    rw [h,if_neg (by simp)] at hin2
    exact hK2 _ _ ⟨acc2,rfl,rfl,hin2,by omega⟩
   refine ⟨by omega,by show _<((encPs (Tm.posL x2)).length:Int); rw [encPs_length]; omega,r01_At_ok x2 _ _ ?_⟩
   rw [hat]
   refine ⟨rfl,rfl,iff_intro (fun hv=>skip ?_) (fun hv=>r01_Has_ok df u.name _ ⟨rfl,rfl,iff_not (iff_intro (fun hh=>?_) (fun hh=>skip ?_))⟩)⟩
   ·have hv:u.var=true:=hv
    unfold dpStep; rw [if_pos hv]
   ·have hv:u.var=false:=hv
    have hh:hasN df u.name=true:=hh
    refine r10_Proper_ok u x1 _ ⟨rfl,rfl,iff_intro (fun hp=>skip ?_) (fun hp=>?_)⟩
    ·have hp:Tm.properB u x1=true:=hp
     unfold dpStep
     rw [if_neg (by simp [hv]),if_neg (by simp [hh]),if_pos hp]
    have hp:Tm.properB u x1=false:=hp
    have hstep:dpStep df (x1,x2) u acc2=if (Tm.markT x1).2≠0 then ([],(Tm.markT x1).2) else if (Tm.markT u).2≠0 then ([],(Tm.markT u).2) else if listedB acc2 ((Tm.markT x1).1,(Tm.markT u).1) then (acc2,0) else (acc2++[((Tm.markT x1).1,(Tm.markT u).1)],0):=by
     unfold dpStep
     rw [if_neg (by simp [hv]),if_neg (by simp [hh]),if_neg (by simp [hp])]
    have err:∀ e:Int,e≠0→dpStep df (x1,x2) u acc2=([],e)→(True∧True∧True)∧Q (.tup [.nil,iD e]) []:=fun e he h=>by
     rw [h,if_pos he] at hin2
     rw [← hin2,if_pos he] at hout
     refine ⟨⟨trivial,trivial,trivial⟩,hQ _ ?_⟩
     rw [← hout]
     exact nil3 e
    rw [ZpX]
    unfold Zof
    refine r10_Mark_ok x1 hn1 _ ⟨rfl,rfl,iff_bne (fun h1=>err (Tm.markT x1).2 h1 (by have h1:(Tm.markT x1).2≠0:=h1; rw [hstep,if_pos h1])) (fun h1=>?_)⟩
    have h1:(Tm.markT x1).2=0:=h1
    rw [if_neg (by simp [h1])] at hstep
    refine r10_Mark_ok u hun _ ⟨rfl,rfl,iff_bne (fun h2=>err (Tm.markT u).2 h2 (by have h2:(Tm.markT u).2≠0:=h2; rw [hstep,if_pos h2])) (fun h2=>?_)⟩
    have h2:(Tm.markT u).2=0:=h2
    rw [if_neg (by simp [h2])] at hstep
    refine r10_listed_ok acc2 ((Tm.markT x1).1,(Tm.markT u).1) ⟨rfl,rfl,iff_not (iff_intro (fun h3=>skip ?_) (fun h3=>⟨encRs_length acc2,by show acc2.length+1≤lim; omega,?_⟩))⟩
    ·have h3:listedB acc2 ((Tm.markT x1).1,(Tm.markT u).1)=true:=h3
     rw [hstep,if_pos h3]
    ·have h3:listedB acc2 ((Tm.markT x1).1,(Tm.markT u).1)=false:=h3
     rw [if_neg (by simp [h3])] at hstep
     rw [hstep,if_neg (by simp)] at hin2
     refine hK2 _ _ ⟨acc2++[((Tm.markT x1).1,(Tm.markT u).1)],encRs_snoc acc2 _ _,by rw [List.length_append]; rfl,hin2,by rw [List.length_append]; simp only [List.length_cons,List.length_nil]; omega⟩
   ·have hv:u.var=false:=hv
    have hh:hasN df u.name=false:=hh
    unfold dpStep
    rw [if_neg (by simp [hv]),if_pos hh]
  ·obtain ⟨acc2,rfl,rfl,hin2,hacc2⟩:=hJ
   rw [List.drop_of_length_le (by omega)] at hin2
   have hG2:G=(acc2,0):=by rw [← hin2]; rfl
   rw [hG2,if_neg (by simp)] at hout
   exact hK _ _ ⟨acc2,rfl,rfl,hout,by omega⟩
 ·obtain ⟨acc,rfl,rfl,hout,hacc⟩:=hJ
  rw [List.drop_length,dpOuter] at hout
  refine ⟨encRs_length acc,fun _=>iff_dec (fun h=>⟨⟨trivial,trivial,trivial⟩,hQ _ ?_⟩) (fun h=>⟨⟨(encRs_length acc).symm,trivial,trivial⟩,hQ _ ?_⟩)⟩
  ·rw [if_pos (by omega)] at hout
   rw [← hout]
   exact nil3 3
  ·rw [if_neg (by omega)] at hout
   rw [← hout]
   exact .refl _
end Go.Proofs.YthjlodlkpgjlkaaGreat
namespace Go.Proofs.YthjlodlkpgjlkaaGreat
open Go.Abs
theorem good_bad_mem {N rem:List Tm} {m:Ar} {s:Tm} {p:ByteArray×Nat} (h:GoodM N (s::rem) m) (hv:s.var=false) (hp:p∈m) (h1:p.1=s.name) (h2:p.2≠s.args.length):¬ arOk N:=by
 obtain ⟨ps,e1,_,h3,_⟩:=h
 intro ha
 obtain ⟨t,ht,f1,f2⟩:=h3.1 _ hp
 have hs:s∈N:=by rw [e1]; simp [nv,hv]
 have htN:t∈N:=by rw [e1]; simp [ht]
 have:=ha t htN s hs (f1.trans h1)
 exact h2 (f2.symm.trans this)
theorem good_len {N rem:List Tm} {m:Ar} (h:GoodM N rem m):m.length≤N.length:=by
 obtain ⟨ps,e1,_,_,h4⟩:=h
 rw [e1,List.length_append]; omega
theorem any_look {m:Ar} {x:ByteArray}:(m.any fun p=>decide (x=p.1))=(lookM m x).isSome:=by
 unfold lookM
 rw [Option.isSome_map,List.isSome_find?]
theorem addM_new {m:Ar} {x:ByteArray} {n:Nat} (h:lookM m x=none):addM m x n=m++[(x,n)]:=by unfold addM; rw [h]; rfl
theorem addM_old {m:Ar} {x:ByteArray} {n:Nat} (h:(lookM m x).isSome=true):addM m x n=m:=by unfold addM; rw [if_pos h]
theorem r10_arities_ok {N:List Tm} (hN:N.length≤274877906944):∀ (t:Tm) (rem:List Tm) (m:Ar),t.formed=true→GoodM N (t.pre++rem) m→∀ Q:D→Heap→Prop,(∀ m':Ar,GoodM N rem m'→Q (.tup [.osl (.own 0) m'.length,bD true]) [.row Ze (encM m')]) →
  (¬ arOk N→∀ (n:Nat) (m':Ar),Q (.tup [.osl (.own 0) n,bD false]) [.row Ze (encM m')])→cl Zdl [tD t,.osl (.own 0) m.length] [.row Ze (encM m)] Q:=by
 refine Tm.ind fun t ih rem m hf hg Q hQ1 hQ2=>?_
 refine ZpI _ _ _ _ _ _ ?_
 unfold ZiQ
 rw [Tm.pre_eq,List.cons_append] at hg
 have hfe:=Tm.formed_eq t
 rw [hf] at hfe
 refine iff_intro (fun hv=>⟨⟨trivial,trivial,trivial⟩,?_⟩) (fun hv=>?_)
 ·have hv:t.var=true:=hv
  rw [if_pos hv] at hfe
  have h0:t.args=[]:=by
   have:=hfe.symm
   rw [Bool.and_eq_true,List.isEmpty_iff] at this
   exact this.2
  rw [h0] at hg
  exact hQ1 m (by simpa [Tm.preL] using good_var hg hv)
 have hv:t.var=false:=hv
 rw [if_neg (by simp [hv])] at hfe
 have hfa:∀ a∈t.args,a.formed=true:=by
  have:=hfe.symm
  rw [Bool.and_eq_true] at this
  exact List.all_eq_true.1 this.2
 have hml:=good_len hg
 have hl:=Tm.encL_length t.args
 -- the arguments
 have next:∀ m1:Ar,GoodM N (Tm.preL t.args++rem) m1→Zbq Q m1.length t.name t.var (Tm.encL t.args) (encM m1):=fun m1 hg1=>by
  rw [ZkW]
  intro hb
  rw [hl] at hb ⊢
  refine Zjk Q _ _ hb (fun k n h=>∃ m2:Ar,n=m2.length∧h=encM m2∧GoodM N (Tm.preL (t.args.drop k)++rem) m2) (fun k n h hk hJ K hK=>?_) (fun n h hJ=>?_) 0 _ _ (Nat.zero_le _) ⟨m1,rfl,rfl,hg1⟩
  ·obtain ⟨m2,rfl,rfl,hg2⟩:=hJ
   rw [List.drop_eq_getElem_cons hk,Tm.preL,List.append_assoc] at hg2
   simp only [Tm.encL_getD _ k hk,Tm.enc_eq,List.drop_zero,List.headD_cons,List.tail_cons]
   refine ⟨by omega,by omega,ih _ (List.getElem_mem hk) _ m2 (hfa _ (List.getElem_mem hk)) hg2 _ (fun m3 hg3=>⟨rfl,rfl,hK _ _ ⟨m3,rfl,rfl,hg3⟩⟩) (fun hn n m3=>⟨rfl,rfl,⟨trivial,trivial,trivial⟩,hQ2 hn _ _⟩)⟩
  ·obtain ⟨m2,rfl,rfl,hg2⟩:=hJ
   rw [List.drop_length] at hg2
   exact ⟨⟨trivial,trivial,trivial⟩,hQ1 m2 (by simpa [Tm.preL] using hg2)⟩
 refine ⟨encM_length m,fun hb=>?_⟩
 refine ZjU Q _ _ _ _ _ _ _ hb (fun k x=>x=(m.take k).any (fun p=>decide (t.name=p.1))∧∀ i (hi:i<m.length),i<k→(m[i]).1=t.name→(m[i]).2=t.args.length) (fun k x hk hJ M hK=>?_) (fun x hJ=>?_) 0 _ (Nat.zero_le _) ⟨rfl,fun i _ h=>by omega⟩
 ·obtain ⟨rfl,hall⟩:=hJ
  have hgd:(encM m).getD k []=[V.s (m[k]).1,V.i (m[k]).2]:=encM_getD m k hk
  simp only [hgd,List.drop_zero,List.headD_cons,List.tail_cons]
  have hsu:(m.take (k+1)).any (fun p=>decide (t.name=p.1))=((m.take k).any (fun p=>decide (t.name=p.1))||decide (t.name=(m[k]).1)):=by
   rw [List.take_succ_eq_append_getElem hk,List.any_append,List.any_cons,List.any_nil,Bool.or_false]
  refine ⟨encM_length m,by omega,by omega,encM_length m,hk,?_⟩
  have fin:((m[k]).1=t.name→(m[k]).2=t.args.length)→Zbr Q M m.length ((m.take k).any (fun p=>decide (t.name=p.1))) m.length (m.length:Int) (k:Int) t.name t.var (Tm.encL t.args) (.s (m[k]).1) (.i (m[k]).2) (encM m):=fun h=>by
   rw [Zj9]
   unfold Zhu
   have hall2:∀ i (hi:i<m.length),i<k+1→(m[i]).1=t.name→(m[i]).2=t.args.length:=fun i hi hik he=>by
    rcases Nat.lt_succ_iff_lt_or_eq.1 hik with h8 | h8
    ·exact hall i hi h8 he
    ·subst h8; exact h he
   refine iff_intro (fun hx=>hK _ ⟨by rw [hsu,hx]; rfl,hall2⟩) (fun hx=>hK _ ⟨?_,hall2⟩)
   rw [hsu,hx]
   show ((m[k]).1.toList == t.name.toList)=_
   rw [ba_beq,Bool.false_or]
   exact decide_eq_decide.2 eq_comm
  show iff ((m[k]).1.toList == t.name.toList) _ _
  rw [ba_beq]
  refine iff_dec (fun h1=>fun _=>?_) (fun h1=>fin fun h=>absurd h h1)
  rw [hl]
  refine iff_bne (fun h2=>⟨⟨trivial,trivial,trivial⟩,hQ2 (good_bad_mem hg hv (List.getElem_mem hk) h1 ?_) _ m⟩) (fun h2=>fin fun _=>?_)
  ·intro h3; exact h2 (by show (((m[k]).2:Nat):Int)=_; rw [h3])
  ·have:(((m[k]).2:Nat):Int)=(t.args.length:Int):=h2
   omega
 ·obtain ⟨rfl,hall⟩:=hJ
  rw [List.take_length,any_look]
  refine iff_not (iff_intro (fun hx=>?_) (fun hx=>?_))
  ·have hx:(lookM m t.name).isSome=true:=hx
   obtain ⟨w,hw⟩:=Option.isSome_iff_exists.1 hx
   obtain ⟨i,hi,he⟩:=List.mem_iff_getElem.1 (lookM_some hw)
   have h2:=hall i hi hi (by rw [he])
   rw [he] at h2
   have h2:w=t.args.length:=h2
   rw [h2] at hw
   have:=good_next hg hv (.inr hw)
   rw [addM_old hx] at this
   exact next m this
  ·have hx:(lookM m t.name).isSome=false:=hx
   have hn:lookM m t.name=none:=by simpa using hx
   have:=good_next hg hv (.inl hn)
   rw [addM_new hn] at this
   have hln:=good_len this
   rw [List.length_append] at hln
   simp only [List.length_cons,List.length_nil] at hln
   refine fun _=>⟨encM_length m,by show m.length+1≤lim; unfold lim; omega,?_⟩
   have h3:=next _ this
   rw [List.length_append] at h3
   have e:encM (m++[(t.name,t.args.length)])=encM m++[[V.s t.name,V.i ((Tm.encL t.args).length:Int)]]:=by rw [hl]; simp [encM]
   rw [e] at h3
   exact h3
open Classical in
noncomputable def pairE (p r:Ru):Int :=
 if sysE r≠0 then sysE r else if rules p≠0 then rules p
 else if (p.all fun x=>Tm.sideB x.1&&Tm.sideB x.2)=false then 4
 else if ¬ arOk (nodesR (p++r)) then 6
 else if p.any extraB then 7 else 0
theorem rules_small {l:Ru} (h:rules l=0):∀ x∈l,(x.1.size≤4000∧x.2.size≤4000)∧x.1.formed=true∧x.2.formed=true:=fun x hx=>by
 obtain ⟨h1,h2⟩:=(rules_zero h).2 x hx
 have h3:=Tm.check_zero.1 h1
 have h4:=Tm.check_zero.1 h2
 exact ⟨⟨h3.2.1,h4.2.1⟩,h3.1,h4.1⟩
theorem sysE_rules {l:Ru} (h:sysE l=0):rules l=0:=by
 unfold sysE at h
 split at h
 ·rename_i h1; exact absurd h h1
 ·rename_i h1; exact Decidable.not_not.1 h1
theorem nodes_length {l:Ru} (h:∀ x∈l,x.1.size≤4000∧x.2.size≤4000):(nodesR l).length≤8000*l.length:=by
 unfold nodesR
 have h1:=List.length_filter_le (fun s:Tm=>!s.var) (Tm.preL (sides l))
 rw [preL_length] at h1
 have:=sizeL_sides h
 unfold nv; omega
theorem r10_Check_ok (p r:Ru) (hp:∀ x∈p,x.1.size≤small∧x.2.size≤small) (hr:∀ x∈r,x.1.size≤small∧x.2.size≤small):Fn ZjP [ruD p,ruD r] (iD (pairE p r)):=fun Q hQ=>by
 refine Zq9 _ _ _ ?_
 unfold Zmc
 unfold pairE at hQ
 refine r01_CheckSystem_ok r hr _ ⟨rfl,rfl,iff_bne (fun h=>⟨trivial,?_⟩) (fun h=>?_)⟩
 ·have h:sysE r≠0:=h
  rw [if_pos h] at hQ; exact hQ
 have hsr:sysE r=0:=h
 rw [if_neg (by simp [hsr])] at hQ
 refine r01_Rules_ok p hp _ ⟨rfl,rfl,iff_bne (fun h=>⟨trivial,?_⟩) (fun h=>?_)⟩
 ·have h:rules p≠0:=h
  rw [if_pos h] at hQ; exact hQ
 have hrp:rules p=0:=h
 rw [if_neg (by simp [hrp])] at hQ
 intro hb
 have hl:=encRs_length p
 rw [hl] at hb ⊢
 have sp:=rules_small hrp
 have sr:=rules_small (sysE_rules hsr)
 have lp:=(rules_zero hrp).1
 have lr:=(rules_zero (sysE_rules hsr)).1
 have spr:∀ x∈p++r,(x.1.size≤4000∧x.2.size≤4000)∧x.1.formed=true∧x.2.formed=true:=fun x hx=>(List.mem_append.1 hx).elim (sp x) (sr x)
 have hlr:=encRs_length r
 have hN:=nodes_length (l:=p++r) fun x hx=>(spr x hx).1
 rw [List.length_append] at hN
 refine Zl4 Q _ _ _ _ hb (fun k=>(p.take k).all (fun x=>Tm.sideB x.1&&Tm.sideB x.2)=true) (fun k hk hJ K hK=>?_) (fun hJ=>?_) 0 (Nat.zero_le _) rfl
 ·simp only [encRs_getD _ k hk,List.drop_zero,List.headD_cons,List.tail_cons]
  have no:(Tm.sideB (p[k]).1&&Tm.sideB (p[k]).2)=false→True∧Q (iD 4) []:=fun h=>by
   rw [if_pos (all_not (p:=fun x:Tm×Tm=>Tm.sideB x.1&&Tm.sideB x.2) hk h)] at hQ
   exact ⟨trivial,hQ⟩
  refine ⟨by omega,by rw [hl]; omega,r10_side_ok (p[k]).1 _ ⟨rfl,rfl,iff_not (iff_intro (fun h1=>r10_side_ok (p[k]).2 _ ⟨rfl,rfl,iff_not (iff_intro (fun h2=>hK (all_take hk hJ ?_)) (fun h2=>no ?_))⟩) (fun h1=>no ?_))⟩⟩
  ·have h1:Tm.sideB (p[k]).1=true:=h1
   have h2:Tm.sideB (p[k]).2=true:=h2
   show (Tm.sideB (p[k]).1&&Tm.sideB (p[k]).2)=true
   rw [h1,h2]; rfl
  ·have h2:Tm.sideB (p[k]).2=false:=h2
   rw [h2,Bool.and_false]
  ·have h1:Tm.sideB (p[k]).1=false:=h1
   rw [h1,Bool.false_and]
 rw [List.take_length] at hJ
 rw [if_neg (by rw [hJ]; exact fun h=>by cases h)] at hQ
 have hpr:encRs (p++r)=encRs p++encRs r:=by simp [encRs]
 have hsv:∀ x∈p,x.1.var=false:=fun x hx=>by
  have:=List.all_eq_true.1 hJ x hx
  rw [Bool.and_eq_true] at this
  have:=this.1
  unfold Tm.sideB at this
  rw [Bool.and_eq_true,Bool.and_eq_true] at this
  simpa using this.1.1
 refine ⟨rfl,by rw [hl]; unfold lim; omega,by rw [List.nil_append]; omega,by rw [hl,hlr]; unfold lim; omega,by rw [List.nil_append,List.length_append]; omega,fun hb2=>?_⟩
 rw [List.nil_append,Nat.zero_add,← hpr] at *
 have hle:(encRs p).length+(encRs r).length=(p++r).length:=by rw [hl,hlr,List.length_append]
 rw [hle] at hb2 ⊢
 refine ZlV Q _ _ _ _ hb2 (fun k n y=>∃ m:Ar,n=m.length∧y=encM m∧GoodM (nodesR (p++r)) (Tm.preL (sides ((p++r).drop k))) m) (fun k n y hk hJ2 m1 hK=>?_) (fun n y hJ2=>?_) 0 0 _ (Nat.zero_le _) ⟨[],rfl,rfl,[],by simp [nodesR],fun s hs=>by simp at hs,⟨by simp,by simp⟩,by simp⟩
 ·obtain ⟨m,rfl,rfl,hg⟩:=hJ2
  have hin:=List.getElem_mem hk
  obtain ⟨_,hf1,hf2⟩:=spr _ hin
  rw [List.drop_eq_getElem_cons hk,sides_cons] at hg
  simp only [encRs_getD _ k hk,List.drop_zero,List.headD_cons,List.tail_cons]
  generalize (p++r)[k]=x at hg hf1 hf2
  refine ⟨encRs_length _,by omega,by omega,encRs_length _,hk,fun hb3=>?_⟩
  rw [show [[V.s x.1.name,V.b x.1.var,V.l (Tm.encL x.1.args)],[V.s x.2.name,V.b x.2.var,V.l (Tm.encL x.2.args)]]=Tm.encL [x.1,x.2] by simp [Tm.encL,Tm.enc_eq]] at hb3 ⊢
  rw [show ((Tm.encL [x.1,x.2]).length:Int)=((2:Nat):Int) by rw [Tm.encL_length]; rfl]
  refine Zk9 Q m1 _ _ _ _ _ _ 2 (by unfold big; omega) (fun j n y=>∃ m:Ar,n=m.length∧y=encM m∧GoodM (nodesR (p++r)) (Tm.preL ([x.1,x.2].drop j)++Tm.preL (sides ((p++r).drop (k+1)))) m) (fun j n y hj hJ3 K hK2=>?_) (fun n y hJ3=>?_) 0 _ _ (Nat.zero_le _) ⟨m,rfl,rfl,by simpa [Tm.preL,List.append_assoc] using hg⟩
  ·obtain ⟨m2,rfl,rfl,hg2⟩:=hJ3
   have hj2:j < [x.1,x.2].length:=hj
   rw [List.drop_eq_getElem_cons hj2,Tm.preL,List.append_assoc] at hg2
   simp only [Tm.encL_getD _ j hj2,Tm.enc_eq,List.drop_zero,List.headD_cons,List.tail_cons]
   have hfj:([x.1,x.2][j]).formed=true:=by
    match j,hj2 with
    | 0,_=>exact hf1
    | 1,_=>exact hf2
   refine ⟨by omega,by rw [Tm.encL_length]; show (j:Int)<((2:Nat):Int); omega,r10_arities_ok (by omega) _ _ m2 hfj hg2 _ (fun m3 hg3=>⟨rfl,rfl,hK2 _ _ ⟨m3,rfl,rfl,hg3⟩⟩) (fun hn n m3=>⟨rfl,rfl,trivial,?_⟩)⟩
   rw [if_pos hn] at hQ; exact hQ
  ·obtain ⟨m2,rfl,rfl,hg2⟩:=hJ3
   exact hK _ _ ⟨m2,rfl,rfl,by simpa [Tm.preL] using hg2⟩
 ·obtain ⟨m,rfl,rfl,hg⟩:=hJ2
  rw [List.drop_length] at hg
  have ha:arOk (nodesR (p++r)):=by
   obtain ⟨ps,e1,h2,_⟩:=hg
   have:nodesR (p++r)=ps:=by rw [e1]; simp [sides,Tm.preL,nv]
   rw [this]; exact h2
  rw [if_neg (by simp [ha])] at hQ
  intro hb4
  rw [hl] at hb4 ⊢
  refine Zle Q _ _ hb4 (fun k=>(p.take k).any extraB=false) (fun k hk hJ4 K hK=>?_) (fun hJ4=>⟨trivial,?_⟩) 0 (Nat.zero_le _) rfl
  ·have hin:=List.getElem_mem hk
   have hs:=(sp _ hin).1
   have hv:=hsv _ hin
   simp only [encRs_getD _ k hk,List.drop_zero,List.headD_cons,List.tail_cons]
   have e:extraB p[k]=!((varsIn (p[k]).2.pre).all fun v=>hasN (varsIn (p[k]).1.pre) v):=by
    unfold extraB; rw [hv,Bool.false_or,List.all_eq_not_any_not,Bool.not_not]
   refine ⟨by omega,by rw [hl]; omega,r01_Within_ok (p[k]).2 (p[k]).1 ⟨hs.2,hs.1⟩ _ ⟨rfl,rfl,iff_intro (fun h=>⟨trivial,?_⟩) (fun h=>hK (any_take hk hJ4 ?_))⟩⟩
   ·have:p.any extraB=true:=List.any_eq_true.2 ⟨_,hin,by rw [e]; exact h⟩
    rw [if_pos this] at hQ; exact hQ
   ·rw [e]; exact h
  ·rw [List.take_length] at hJ4
   rw [if_neg (by simp [hJ4])] at hQ
   exact hQ
end Go.Proofs.YthjlodlkpgjlkaaGreat
