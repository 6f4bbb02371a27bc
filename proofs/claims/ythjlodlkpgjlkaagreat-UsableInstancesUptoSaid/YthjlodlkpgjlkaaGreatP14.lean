/-
  Texts ConcA, PairA, FilA, R02B, R02C, R02D, FilB, FilC, FilD, FilE, FilF, FilG, R01S, FilH of this proof, joined.
-/
import Derived.Shelf.RegionOpenPlain
import Derived.WalkKit
import Derived.Lib.Walk
import Derived.Lib.SliceRun
import Derived.Lib.AppendZerosOnto
import Derived.Test.YthjlodlkpgjlkaaGreatP13
set_option linter.unusedVariables false
set_option linter.unusedSimpArgs false
namespace Go.Proofs.YthjlodlkpgjlkaaGreat
open Go Go.Abs Go.Proofs Go.RowKit Go.Shelf Go.Lib
theorem gr_t37:Tryz.prog.underlying 37=some (.slice 95):=by kernel_rfl
theorem gr_t3:Tryz.prog.underlying 3=some (.int .i64):=by kernel_rfl
theorem gr_info:∃ i0 z,Tryz.prog.info? 95=some i0∧i0.zero=some z∧z.cells.size=6∧i0.size=6∧i0.bytes≤96:=by
 have h:(Tryz.prog.info? 95).bind (fun i=>i.zero.map fun z=>(z.cells.size,i.size,decide (i.bytes≤96)))=some (6,6,true):=by kernel_rfl
 cases hi:Tryz.prog.info? 95 with
 | none=>rw [hi] at h; cases h
 | some i =>
  rw [hi] at h
  cases hz:i.zero with
  | none=>simp [hz] at h
  | some z =>
   simp [hz] at h
   exact ⟨i,z,rfl,hz,h.1,h.2.1,h.2.2⟩
theorem gr_mixed:Tryz.prog.follows .mixedOrders=true:=by kernel_rfl
theorem gr_lf:(lfs tab Zd).length=6:=by kernel_rfl
set_option maxHeartbeats 4000000 in
set_option maxRecDepth 100000 in
theorem grow_nil (w:World):Calls Tryz.prog 185 #[.slice none 0 0,.int .i64 0] w fun e w'=>e=.returned (.slice none 0 0)∧w'=w:=by
 have mixed:=gr_mixed
 go_enter Tryz.func185,Tryz.ntmps185
 go_wp2
 go_ret
 exact ⟨rfl,rfl⟩
set_option maxHeartbeats 4000000 in
set_option maxRecDepth 100000 in
theorem grow_new (n:Nat) (h0:0<n) (hn:n≤549755813888) (w:World):∃ (G:Nat) (ROW:Array Value),n≤G∧G≤maxLen∧ROW.size=G*6 ∧
  Calls Tryz.prog 185 #[.slice none 0 0,.int .i64 n] w fun e w'=>e=.returned (.slice (some ⟨w.heap.size,0,none⟩) 0 G)∧w'=w.drew.alloc (.cells ROW 95):=by
 obtain ⟨i0,z,hi0,hz0,hz1,hz2,hz3⟩:=gr_info
 have mixed:=gr_mixed
 have h1:¬ ((n:Int)<0):=by omega
 have h2:wrap64 ((0:Int) - 0)=0:=by unfold wrap64; omega
 have h3:wrap64 ((n:Int) - 0)=(n:Int):=by unfold wrap64; omega
 have h4:(n:Int) > 0:=by omega
 have hold:(Builtin.firstCells i0.size 0 (.slice none 0 0)).run Tryz.prog w.drew=.ok ([]:List Value).toArray w.drew:=run_firstCells_none w.drew i0.size 0 0 0
 refine ⟨grownCap w n 0 95,([]:List Value).toArray++Builtin.zeroCells z.cells n++Builtin.zeroCells z.cells (grownCap w n 0 95 - n),grownCap_ge w _ _ _,grownCap_le_maxLen w n 0 95 (by unfold maxLen; omega),?_,?_⟩
 ·have:=grownCap_ge w n 0 95
  have e:∀ k,(Builtin.zeroCells z.cells k).size=k*6:=fun k=>by simp [Builtin.zeroCells,hz1]
  rw [Array.size_append,Array.size_append,e,e]
  show 0+n*6+_=_
  omega
 have hrz:∀ ty,(Builtin.append_ #[37,3] ty #[.slice none 0 0,.int .i64 (n:Int)]).run Tryz.prog w =
   .ok (.slice (some ⟨w.heap.size,0,none⟩) n (grownCap w n 0 95)) (w.drew.alloc (.cells (([]:List Value).toArray++Builtin.zeroCells z.cells n++Builtin.zeroCells z.cells (grownCap w n 0 95 - n)) 95)):=fun ty=>by
  have hb:n*i0.bytes≤549755813888*96:=Nat.mul_le_mul hn hz3
  have h:=Lib.run_append_grow_zeros (P:=Tryz.prog) w 37 3 ty 95 i0 z .i64 .i64 gr_t37 gr_t3 hi0 hz0 none 0 0 [] hold n (by omega) (by omega) (by omega) (by omega)
   (by omega) (by rw [Nat.zero_add]; exact growslice_fits (by omega) (by omega))
  rw [Nat.zero_add] at h
  exact h
 have hGn:n≤grownCap w n 0 95:=grownCap_ge w _ _ _
 have hG63:grownCap w n 0 95≤9223372036854775807:=by
  have:=grownCap_le_maxLen w n 0 95 (by unfold maxLen; omega)
  unfold maxLen at this
  omega
 generalize grownCap w n 0 95=G at hrz hGn hG63 ⊢
 clear hold
 go_enter Tryz.func185,Tryz.ntmps185
 go_wp2_with (at_builtin; refine Lib.wpList_append_run _ rfl _ _ _ _ rfl _ _ rfl rfl _ _ (hrz _) ?_)
 all_goals (go_ret; exact ⟨rfl,rfl⟩)
theorem Grow_fr (n:Nat) (hn:n≤549755813888):frA ZeL [.nil,iD n] []:=by
 show AFresh _ _ _ _ _ _
 intro S vs hwf hlen hrep
 obtain ⟨u0,u1,rfl⟩:∃ u0 u1,vs=[u0,u1]:=by
  match vs,hlen with
  | [u0,u1],_=>exact ⟨u0,u1,rfl⟩
 have h0:RepD (lfs tab) S .nil u0:=hrep 0
 have h1:RepD (lfs tab) S (iD n) u1:=hrep 1
 have e1:u1=.int .i64 n:=h1.int_inv
 subst e1
 cases h0
 rcases Nat.eq_zero_or_pos n with h | h
 ·subst h
  refine (grow_nil S.w).mono ?_
  rintro e w' ⟨rfl,rfl⟩
  exact ⟨_,rfl,⟨rfl,rfl,rfl,Nat.le_refl _,fun _ _ _=>rfl⟩,.inl ⟨rfl,rfl⟩⟩
 ·obtain ⟨G,ROW,g1,g2,g3,g4⟩:=grow_new n h hn S.w
  refine g4.mono ?_
  rintro e w' ⟨rfl,rfl⟩
  have hg0:=World.grownBy_alloc S.w.drew (.cells ROW 95) none
  have hg:S.w.grownBy (S.w.drew.alloc (.cells ROW 95)) none:=⟨hg0.os,hg0.tape,hg0.output,hg0.size,hg0.block⟩
  exact ⟨_,rfl,hg,.inr ⟨S.w.heap.size,G,ROW,Nat.le_refl _,rfl,Array.getElem?_push_size,by rw [gr_lf]; exact g3,Nat.zero_le _,g2,fun i hi=>by simp at hi,fun i j hi=>by simp at hi⟩⟩
theorem Concat_ok (p r:Ru) (h:p.length+r.length≤549755813888):Fn Zdy [.v (.sl Zfh) (.l [[.l (encRs p)],[.l (encRs r)]])] (ruD (p++r)):=fun Q hQ=>by
 refine ZiO _ _ fun _=>?_
 have hp:=encRs_length p
 have hr:=encRs_length r
 have e:∀ k,k<2→(([[V.l (encRs p)],[V.l (encRs r)]]:LL).getD k [])=[V.l (encRs ([p,r].getD k []))]:=fun k hk=>by
  match k,hk with
  | 0,_=>rfl
  | 1,_=>rfl
 have hsum:∀ k,k≤2→(([p,r].take k).map List.length).sum≤549755813888:=fun k hk=>by
  match k,hk with
  | 0,_=>simp
  | 1,_=>simp; omega
  | 2,_=>simp; omega
 have hstep:∀ k,k<2→(([p,r].take (k+1)).map List.length).sum=(([p,r].take k).map List.length).sum+([p,r].getD k []).length:=fun k hk=>by
  match k,hk with
  | 0,_=>simp
  | 1,_=>simp
 have hap:∀ k,k<2→([p,r].take (k+1)).flatten=([p,r].take k).flatten++[p,r].getD k []:=fun k hk=>by
  match k,hk with
  | 0,_=>simp
  | 1,_=>simp
 refine Zgm Q _ _ 2 (by unfold big; omega) (fun k x=>x=((([p,r].take k).map List.length).sum:Nat)) (fun k x hk hJ K hK=>?_) (fun x hJ=>?_) 0 0 (Nat.zero_le _) rfl
 ·subst hJ
  have h1:=hsum (k+1) (by omega)
  have h2:=hstep k hk
  simp only [e k hk,List.drop_zero,List.headD_cons]
  refine ⟨by omega,by show (k:Int)<((2:Nat):Int); omega,fun _=>?_⟩
  have e3:((V.list (V.l (encRs ([p,r].getD k [])))).length:Int)=([p,r].getD k []).length:=by
   show ((encRs _).length:Int)=_
   rw [encRs_length]
  rw [e3,wrap_in _ (by omega) (by omega)]
  exact iff_dec (fun h=>by omega) (fun h=>hK _ (by omega))
 ·subst hJ
  refine ⟨[],Grow_fr _ (hsum 2 (by omega)),fun _=>?_⟩
  refine Zgj Q _ 2 (by unfold big; omega) (fun k n y=>y=encRs ([p,r].take k).flatten∧n=y.length) (fun k n y hk hJ K hK=>?_) (fun n y hJ=>?_) 0 _ _ (Nat.zero_le _) ⟨rfl,rfl⟩
  ·obtain ⟨rfl,rfl⟩:=hJ
   have h1:=hsum (k+1) (by omega)
   have hfl:(([p,r].take k).flatten++[p,r].getD k []).length≤549755813888:=by
    rw [← hap k hk,List.length_flatten]; exact h1
   rw [List.length_append] at hfl
   simp only [e k hk,List.drop_zero,List.headD_cons]
   refine ⟨by omega,by show (k:Int)<((2:Nat):Int); omega,trivial,?_,hK _ _ ⟨?_,?_⟩⟩
   ·show (encRs _).length+(encRs _).length≤lim
    rw [encRs_length,encRs_length]; unfold lim; omega
   ·show encRs _++encRs _=_
    rw [hap k hk]; simp [encRs]
   ·show (encRs _).length+(encRs _).length=_
    rw [List.length_append]; rfl
  ·obtain ⟨rfl,rfl⟩:=hJ
   refine ⟨rfl,?_⟩
   have:([p,r].take 2).flatten=p++r:=by simp
   rw [this]; exact hQ
end Go.Proofs.YthjlodlkpgjlkaaGreat
namespace Go.Proofs.YthjlodlkpgjlkaaGreat
open Go Go.Abs
theorem unmarked_pre:∀ t:Tm,Tm.unmarkedB t=t.pre.all fun s=>s.var||!(markedL s.name.data.toList):=Tm.ind fun t ih=>by
 rw [Tm.unmarkedB_eq,Tm.pre_eq,List.all_cons,Tm.unmarkedL_all]
 congr 1
 have:∀ l:List Tm,(∀ a∈l,Tm.unmarkedB a=a.pre.all fun s=>s.var||!(markedL s.name.data.toList))→l.all Tm.unmarkedB=(Tm.preL l).all fun s=>s.var||!(markedL s.name.data.toList):=by
  intro l
  induction l with
  | nil=>intro _; rfl
  | cons a r ih=>intro h; rw [List.all_cons,Tm.preL,List.all_append,h a (by simp),ih fun b hb=>h b (by simp [hb])]
 exact this _ ih
def okAt (x:Tm×Nat):Bool:=if x.2=0 then !x.1.var&&markedL x.1.name.data.toList else x.1.var||!(markedL x.1.name.data.toList)
theorem side_preD (t:Tm):Tm.sideB t=(t.preD 0).all okAt:=by
 rw [Tm.preD_eq,List.all_cons]
 unfold Tm.sideB
 rw [Tm.unmarkedL_all]
 have h1:okAt (t,0)=(!t.var&&markedL t.name.data.toList):=rfl
 rw [h1]
 congr 1
 have h2:(Tm.preDL 1 t.args).all okAt=((Tm.preDL 1 t.args).map Prod.fst).all fun s=>s.var||!(markedL s.name.data.toList):=by
  rw [List.all_map]
  have:∀ x∈Tm.preDL 1 t.args,okAt x=((fun s:Tm=>s.var||!(markedL s.name.data.toList)) ∘ Prod.fst) x:=fun x hx=>by
   have h:=Tm.preDL_pos t.args 1 (fun a _ d x hx=>Tm.preD_pos a d x hx) x hx
   unfold okAt
   rw [if_neg (by omega)]; rfl
  rw [Bool.eq_iff_iff,List.all_eq_true,List.all_eq_true]
  exact ⟨fun h x hx=>by rw [← this x hx]; exact h x hx,fun h x hx=>by rw [this x hx]; exact h x hx⟩
 rw [h2,Tm.preDL_fst _ _ fun a _ d=>Tm.preD_fst a d]
 have:∀ l:List Tm,l.all Tm.unmarkedB=(Tm.preL l).all fun s=>s.var||!(markedL s.name.data.toList):=by
  intro l
  induction l with
  | nil=>rfl
  | cons a r ih=>rw [List.all_cons,Tm.preL,List.all_append,unmarked_pre a,ih]
 exact this _
theorem form_ok (t:Tm) (hs:t.size≤1099511627776):Fn Zgs [tD t] (bD (Tm.sideB t)):=fun Q hQ=>by
 refine Zqv _ _ _ _ ?_
 unfold ZkK
 rw [side_preD] at hQ
 refine term_Walk_ok t ⟨rfl,rfl,rowsW t,Walk_iter t hs,?_⟩
 refine Zll Q _ _ (fun rows q=>∃ pre ss:List (Tm×Nat),t.preD 0=pre++ss∧pre.all okAt=true∧rows=ss.map encW∧∀ x∈ss,x.2≤big) ?_ ?_ _ _ ⟨[],t.preD 0,rfl,rfl,rfl,fun x hx=>?_⟩
 ·rintro r rs q ⟨pre,ss,hsp,hall,hr,hbg⟩ K hK
  cases ss with
  | nil=>simp at hr
  | cons a ss =>
   simp only [List.map_cons,List.cons.injEq] at hr
   obtain ⟨rfl,rfl⟩:=hr
   obtain ⟨a,d⟩:=a
   have next:okAt (a,d)=true→K q:=fun h=>hK _ ⟨pre++[(a,d)],ss,by rw [hsp]; simp,by rw [List.all_append,hall,List.all_cons,List.all_nil,h]; rfl,rfl,fun x hx=>hbg x (by simp [hx])⟩
   have stop:okAt (a,d)=false→True∧Q (bD false) []:=fun h=>by
    have:(t.preD 0).all okAt=false:=by rw [hsp,List.all_append,List.all_cons,h,Bool.false_and,Bool.and_false]
    rw [this] at hQ; exact ⟨trivial,hQ⟩
   show iff a.var (d≤big→iff ((d:Int) == 0) _ (iff (!a.var) (cl Zap [sD a.name] [] _) (K q))) (iff (!a.var) (cl Zap [sD a.name] [] _) (K q))
   have unv:a.var=false→∀ P:(Bool→Prop)→Prop,(∀ R:Bool→Prop,R (markedL a.name.data.toList == ((d:Int) == 0))→P R)→True:=fun _ _ _=>trivial
   have mk:a.var=false→cl Zap [sD a.name] [] fun r1 H2=>r1=(.v .bool (r1.V))∧H2=[]∧(d≤big→iff (!(r1.V.bool == ((d:Int) == (0:Int)))) (True∧Q (bD false) []) (K q)):=fun hv=>by
    refine term_Marked_ok _ _ ⟨rfl,rfl,fun _=>?_⟩
    show iff (!(markedL a.name.data.toList == ((d:Int) == 0))) _ _
    have e:(markedL a.name.data.toList == ((d:Int) == 0))=okAt (a,d):=by
     unfold okAt
     rw [hv]
     by_cases hd:d=0
     ·subst hd
      rw [if_pos rfl]
      show (markedL a.name.data.toList == true)=_
      cases markedL a.name.data.toList <;> rfl
     ·rw [if_neg hd]
      have:((d:Int) == 0)=false:=by simp; omega
      rw [this]
      cases markedL a.name.data.toList <;> rfl
    rw [e]
    exact iff_not (iff_intro next stop)
   refine iff_intro (fun hv hb=>iff_beq (fun h0=>stop ?_) (fun h0=>iff_not (iff_intro (fun hv2=>next ?_) (fun hv2=>?_)))) (fun hv=>iff_not (iff_intro (fun hv2=>?_) (fun _=>mk hv)))
   ·have:d=0:=by omega
    subst this
    unfold okAt
    rw [if_pos rfl,hv]; rfl
   ·unfold okAt
    rw [if_neg (by omega),hv]; rfl
   ·rw [hv] at hv2; cases hv2
   ·rw [hv] at hv2; cases hv2
 ·rintro q ⟨pre,ss,hsp,hall,hr,_⟩
  have hss:ss=[]:=by simpa using hr.symm
  subst hss
  rw [List.append_nil] at hsp
  rw [hsp,hall] at hQ
  exact ⟨trivial,hQ⟩
 ·have h1:x.1∈t.pre:=by rw [← Tm.preD_fst t 0]; exact List.mem_map.2 ⟨x,hx,rfl⟩
  have key:∀ (t:Tm) (d:Nat),∀ x∈t.preD d,x.2≤d+t.size:=by
   refine Tm.ind fun t ih d x hx=>?_
   have kl:∀ (l:List Tm) (d:Nat),(∀ a∈l,∀ d,∀ x∈a.preD d,x.2≤d+a.size)→∀ x∈Tm.preDL d l,x.2≤d+Tm.sizeL l:=by
    intro l
    induction l with
    | nil=>intro d _ x hx; simp [Tm.preDL] at hx
    | cons a r ih =>
     intro d h x hx
     simp only [Tm.preDL,List.mem_append] at hx
     simp only [Tm.sizeL]
     rcases hx with hx | hx
     ·have:=h a (by simp) d x hx; omega
     ·have:=ih d (fun b hb=>h b (by simp [hb])) x hx; omega
   rw [Tm.preD_eq] at hx
   rcases List.mem_cons.1 hx with rfl | hx
   ·exact Nat.le_add_right _ _
   ·have:=kl _ _ ih x hx
    rw [Tm.size_eq]; omega
  have:=key t 0 x hx
  unfold big; omega
theorem pairs_Check_1_ok (x:Tm×Tm) (hs:x.1.size≤4000∧x.2.size≤4000):Fn Z4 [.agg [.v .str (.s x.1.name),.v .bool (.b x.1.var),.v (.sl Zb) (.l (Tm.encL x.1.args)),.v .str (.s x.2.name),.v .bool (.b x.2.var),.v (.sl Zb) (.l (Tm.encL x.2.args))]] (bD (!(Tm.sideB x.1&&Tm.sideB x.2))):=fun Q hQ=>by
 refine Zog _ _ _ _ _ _ _ ?_
 unfold Zhw
 refine form_ok x.1 (by omega) _ ⟨rfl,rfl,iff_not (iff_intro (fun h=>form_ok x.2 (by omega) _ ⟨rfl,rfl,trivial,?_⟩) (fun h=>⟨trivial,?_⟩))⟩
 ·have h:Tm.sideB x.1=true:=h
  rw [h,Bool.true_and] at hQ; exact hQ
 ·have h:Tm.sideB x.1=false:=h
  rw [h,Bool.false_and] at hQ; exact hQ
theorem IndexFunc_form_ok (l:Ru) (hB:∀ x∈l,x.1.size≤4000∧x.2.size≤4000):Fn ZG [ruD l,.fn Z4 []] (iD (idx (fun x:Tm×Tm=>!(Tm.sideB x.1&&Tm.sideB x.2)) l)):=fun Q hQ=>by
 refine Zef _ _ fun hb=>?_
 have hl:=encRs_length l
 rw [hl] at hb ⊢
 refine ZcE Q _ _ hb (fun k=>(l.take k).any (fun x:Tm×Tm=>!(Tm.sideB x.1&&Tm.sideB x.2))=false) (fun k hk hJ K hK=>?_) (fun hJ=>⟨trivial,?_⟩) 0 (Nat.zero_le _) rfl
 ·simp only [encRs_getD _ k hk,List.drop_zero,List.headD_cons,List.tail_cons]
  refine ⟨by omega,by omega,pairs_Check_1_ok l[k] (hB _ (List.getElem_mem hk)) _ ⟨rfl,rfl,iff_intro (fun h=>⟨trivial,?_⟩) (fun h=>hK (any_take hk hJ h))⟩⟩
  rw [idx_at hk hJ h] at hQ
  exact hQ
 ·rw [List.take_length] at hJ
  rw [idx_none hJ] at hQ
  exact hQ
theorem ContainsFunc_form_ok (l:Ru) (hB:∀ x∈l,x.1.size≤4000∧x.2.size≤4000):Fn Zj [ruD l,.fn Z4 []] (bD (l.any fun x:Tm×Tm=>!(Tm.sideB x.1&&Tm.sideB x.2))):=fun Q hQ=>by
 refine Zds _ _ ?_
 unfold ZaJ
 refine IndexFunc_form_ok l hB _ ⟨rfl,rfl,trivial,?_⟩
 rw [← idx_any] at hQ
 exact hQ
theorem pairs_Check_2_ok (l:List ByteArray) (x:ByteArray) {Q:D→Heap→Prop} (hQ:Q (bD (!(l.any fun y=>decide (x=y)))) [.cells [nsD l]]):cl ZV [sD x,.ptr (.own 0) 0] [.cells [nsD l]] Q:=by
 refine ZnO _ _ _ ?_
 unfold Zhy
 exact slices_Contains_string_ok l x _ ⟨rfl,rfl,trivial,hQ⟩
theorem IndexFunc_pc_ok (l m:List ByteArray) {Q:D→Heap→Prop} (hQ:Q (iD (idx (fun x=>!(l.any fun y=>decide (x=y))) m)) [.cells [nsD l]]) :
  cl ZW [nsD m,.fn ZV [.ptr (.own 0) 0]] [.cells [nsD l]] Q:=by
 refine ZdB _ _ _ fun hb=>?_
 have hl:=encN_length m
 rw [hl] at hb ⊢
 refine Zb4 Q _ _ hb (fun k h=>h=V.l (encN l)∧(m.take k).any (fun x=>!(l.any fun y=>decide (x=y)))=false) (fun k h hk hJ K hK=>?_) (fun h hJ=>⟨trivial,?_⟩) 0 _ (Nat.zero_le _) ⟨rfl,rfl⟩
 ·obtain ⟨rfl,hJ⟩:=hJ
  simp only [encN_getD _ k hk,List.drop_zero,List.headD_cons]
  refine ⟨by omega,by omega,pairs_Check_2_ok l m[k] ⟨rfl,rfl,iff_intro (fun h=>⟨trivial,?_⟩) (fun h=>hK _ ⟨rfl,any_take hk hJ h⟩)⟩⟩
  rw [idx_at hk hJ h] at hQ
  exact hQ
 ·obtain ⟨rfl,hJ⟩:=hJ
  rw [List.take_length] at hJ
  rw [idx_none hJ] at hQ
  exact hQ
theorem ContainsFunc_pc_ok (l m:List ByteArray) {Q:D→Heap→Prop} (hQ:Q (bD (m.any fun x=>!(l.any fun y=>decide (x=y)))) [.cells [nsD l]]) :
  cl ZH [nsD m,.fn ZV [.ptr (.own 0) 0]] [.cells [nsD l]] Q:=by
 refine ZcK _ _ _ ?_
 unfold Zay
 refine IndexFunc_pc_ok l m ⟨rfl,rfl,trivial,?_⟩
 rw [← idx_any] at hQ
 exact hQ
theorem extra_sorted {x:Tm×Tm} (hv:x.1.var=false) {ks ks2:List ByteArray} (h1:∀ z,z∈ks↔z∈varsIn (Tm.preL [x.1])) (h2:∀ z,z∈ks2↔z∈varsIn (Tm.preL [x.2])):((sortW ks2).any fun z=>!((sortW ks).any fun y=>decide (z=y)))=extraB x:=by
 have ep:∀ t:Tm,Tm.preL [t]=t.pre:=fun t=>by simp [Tm.preL]
 unfold extraB
 rw [hv,Bool.false_or,Bool.eq_iff_iff]
 simp only [List.any_eq_true,Bool.not_eq_true',mem_sortW,h2,ep,hasN_false]
 constructor
 ·rintro ⟨z,hz,h⟩
  refine ⟨z,hz,fun hm=>?_⟩
  rw [← ep,← h1] at hm
  have:((sortW ks).any fun y=>decide (z=y))=true:=List.any_eq_true.2 ⟨z,mem_sortW.2 hm,by simp⟩
  rw [this] at h; cases h
 ·rintro ⟨z,hz,h⟩
  refine ⟨z,hz,?_⟩
  rw [Bool.eq_false_iff]
  intro h3
  obtain ⟨y,hy,he⟩:=List.any_eq_true.1 h3
  have:z=y:=by simpa using he
  subst this
  exact h (by rw [← ep,← h1]; exact mem_sortW.1 hy)
theorem pairs_Check_ok (p r:Ru) (hp:∀ x∈p,x.1.size≤small∧x.2.size≤small) (hr:∀ x∈r,x.1.size≤small∧x.2.size≤small):Fn Zg7 [ruD p,ruD r] (iD (pairE p r)):=fun Q hQ=>by
 refine Zpr _ _ _ ?_
 unfold Zi3
 unfold pairE at hQ
 refine term_CheckSystem_ok r hr _ ⟨rfl,rfl,iff_bne (fun h=>⟨trivial,?_⟩) (fun h=>?_)⟩
 ·have h:sysE r≠0:=h
  rw [if_pos h] at hQ; exact hQ
 have hsr:sysE r=0:=h
 rw [if_neg (by simp [hsr])] at hQ
 refine term_CheckRules_ok p hp _ ⟨rfl,rfl,iff_bne (fun h=>⟨trivial,?_⟩) (fun h=>?_)⟩
 ·have h:rules p≠0:=h
  rw [if_pos h] at hQ; exact hQ
 have hrp:rules p=0:=h
 rw [if_neg (by simp [hrp])] at hQ
 have sp:=rules_small hrp
 have sr:=rules_small (sysE_rules hsr)
 have lp:=(rules_zero hrp).1
 have lr:=(rules_zero (sysE_rules hsr)).1
 have eall:(p.any fun x:Tm×Tm=>!(Tm.sideB x.1&&Tm.sideB x.2))=!(p.all fun x=>Tm.sideB x.1&&Tm.sideB x.2):=by
  rw [List.all_eq_not_any_not,Bool.not_not]
 refine ContainsFunc_form_ok p (fun x hx=>(sp x hx).1) _ ⟨rfl,rfl,?_⟩
 show iff (p.any fun x:Tm×Tm=>!(Tm.sideB x.1&&Tm.sideB x.2)) _ _
 rw [eall]
 refine iff_not (iff_intro (fun hJ=>?_) (fun hJ=>⟨trivial,?_⟩))
 rotate_left
 ·rw [if_pos hJ] at hQ; exact hQ
 rw [if_neg (by rw [hJ]; exact fun h=>by cases h)] at hQ
 have hsv:∀ x∈p,x.1.var=false:=fun x hx=>by
  have:=List.all_eq_true.1 hJ x hx
  rw [Bool.and_eq_true] at this
  have:=this.1
  unfold Tm.sideB at this
  rw [Bool.and_eq_true,Bool.and_eq_true] at this
  simpa using this.1.1
 refine Concat_ok p r (by omega) _ ⟨rfl,rfl,?_⟩
 have spr:∀ x∈p++r,x.1.size≤4000∧x.2.size≤4000:=fun x hx=>(List.mem_append.1 hx).elim (fun h=>(sp x h).1) (fun h=>(sr x h).1)
 refine Arities_ok (p++r) spr (fun ha m _ _=>⟨rfl,rfl,?_⟩) (fun ha=>⟨rfl,rfl,?_⟩)
 ·show iff (!true) _ _
  rw [if_neg (by simp [ha])] at hQ
  intro hb
  have hl:=encRs_length p
  rw [hl] at hb ⊢
  refine Zjb Q _ _ hb (fun k=>(p.take k).any extraB=false) (fun k hk hJ4 K hK=>?_) (fun hJ4=>⟨trivial,?_⟩) 0 (Nat.zero_le _) rfl
  ·have hin:=List.getElem_mem hk
   have hs:=(sp _ hin).1
   have hv:=hsv _ hin
   simp only [encRs_getD _ k hk,List.drop_zero,List.headD_cons,List.tail_cons]
   have e1:∀ t:Tm,[[V.s t.name,V.b t.var,V.l (Tm.encL t.args)]]=Tm.encL [t]:=fun t=>by simp [Tm.encL,Tm.enc_eq]
   rw [e1,e1]
   refine ⟨by omega,by rw [hl]; omega,VarsOf_ok [(p[k]).1] (by simp [Tm.sizeL]; omega) fun ks _ hks=>⟨rfl,rfl,VarsOf_ok [(p[k]).2] (by simp [Tm.sizeL]; omega) fun ks2 _ hks2=>⟨rfl,rfl,?_⟩⟩⟩
   refine ContainsFunc_pc_ok (sortW ks) (sortW ks2) ⟨rfl,rfl,?_⟩
   show iff ((sortW ks2).any fun z=>!((sortW ks).any fun y=>decide (z=y))) _ _
   rw [extra_sorted hv hks hks2]
   refine iff_intro (fun h=>⟨trivial,?_⟩) (fun h=>hK (any_take hk hJ4 h))
   have:p.any extraB=true:=List.any_eq_true.2 ⟨_,hin,h⟩
   rw [if_pos this] at hQ; exact hQ
  ·rw [List.take_length] at hJ4
   rw [if_neg (by simp [hJ4])] at hQ
   exact hQ
 ·show iff (!false) _ _
  rw [if_pos ha] at hQ
  exact ⟨trivial,hQ⟩
end Go.Proofs.YthjlodlkpgjlkaaGreat
namespace Go.Proofs.YthjlodlkpgjlkaaGreat
open Go Go.Abs
structure Fl where
 name:ByteArray
 only:Int
 keep:List Int
abbrev Fls:=List Fl
def encF (x:Fl):List V:=[.s x.name,.i x.only,.l (encP x.keep)]
def encFs (l:Fls):LL:=l.map encF
abbrev flD (x:Fl):D:=.agg [sD x.name,iD x.only,psD x.keep]
abbrev flsD (l:Fls):D:=.v (.sl Zc) (.l (encFs l))
theorem encFs_length (l:Fls):(encFs l).length=l.length:=by simp [encFs]
theorem encFs_getD (l:Fls) (k:Nat) (h:k<l.length):(encFs l).getD k []=[.s (l[k]).name,.i (l[k]).only,.l (encP (l[k]).keep)]:=by
 rw [encFs,List.getD_eq_getElem?_getD,List.getElem?_map,List.getElem?_eq_getElem h]; rfl
def flNames (l:Fls):List ByteArray:=l.map Fl.name
theorem flNames_getD (l:Fls) (k:Nat) (h:k<l.length):(flNames l).getD k bz=(l[k]).name:=by
 rw [flNames,List.getD_eq_getElem?_getD,List.getElem?_map,List.getElem?_eq_getElem h]; rfl
def keepAt (p:List Int) (k:Nat):Bool:=decide (1≤p.getD k 0)&&decide (p.getD k 0≤8)&&(decide (k=0)||decide (p.getD (k - 1) 0<p.getD k 0))
def keepOk (p:List Int):Bool:=(List.range p.length).all (keepAt p)
theorem keepOk_all {l:List Int} (h:∀ k,k<l.length→keepAt l k=true):keepOk l=true:=by
 unfold keepOk; rw [List.all_eq_true]; intro k hk; exact h k (by simpa using hk)
theorem keepOk_not {l:List Int} {k:Nat} (hk:k<l.length) (h:keepAt l k=false):keepOk l=false:=by
 rw [← Bool.not_eq_true]
 intro ha
 unfold keepOk at ha
 have:=(List.all_eq_true.1 ha) k (by simpa using hk)
 rw [h] at this; cases this
theorem keepOk_at {l:List Int} (h:keepOk l=true) {k:Nat} (hk:k<l.length):keepAt l k=true:=by
 unfold keepOk at h
 exact (List.all_eq_true.1 h) k (by simpa using hk)
def flBad (x:Fl):Bool:=decide (x.only<0)||decide (x.only > 8)||(decide (x.only > 0)&&decide (x.keep.length > 0))||!(keepOk x.keep)
def namesErr (l:List ByteArray):Int:=if 256<l.length then 3 else if namesOk true l then 0 else 4
def flErr (l:Fls):Int:=if namesErr (flNames l)≠0 then namesErr (flNames l) else if l.any flBad then 2 else 0
theorem namesErr_3 {l:List ByteArray} (h:256<l.length):namesErr l=3:=by unfold namesErr; rw [if_pos h]
theorem namesErr_4 {l:List ByteArray} (h:¬ 256<l.length) (h2:namesOk true l=false):namesErr l=4:=by unfold namesErr; rw [if_neg h,h2]; rfl
theorem namesErr_0 {l:List ByteArray} (h:¬ 256<l.length) (h2:namesOk true l=true):namesErr l=0:=by unfold namesErr; rw [if_neg h,if_pos h2]
theorem namesErr_zero {l:List ByteArray} (h:namesErr l=0):l.length≤256∧namesOk true l=true:=by
 unfold namesErr at h
 split at h
 ·cases h
 ·split at h
  ·exact ⟨by omega,by assumption⟩
  ·cases h
theorem flErr_n {l:Fls} {e:Int} (h:namesErr (flNames l)=e) (he:e≠0):flErr l=e:=by unfold flErr; rw [h,if_pos he]
theorem flErr_k {l:Fls} (h:namesErr (flNames l)=0):flErr l=if l.any flBad then 2 else 0:=by unfold flErr; rw [h,if_neg (by simp)]
theorem r11_Check_ok (l:Fls):Fn Zg2 [flsD l] (iD (flErr l)):=fun Q hQ=>by
 refine ZqX _ _ fun hb=>?_
 have hl:=encFs_length l
 have hl2:(flNames l).length=l.length:=by simp [flNames]
 rw [hl] at hb ⊢
 rw [big_eq] at hb
 refine iff_dec (fun h=>⟨trivial,?_⟩) (fun h _=>?_)
 ·rw [flErr_n (namesErr_3 (by omega)) (by omega)] at hQ; exact hQ
 have hlen:¬ 256<(flNames l).length:=by omega
 have bad:namesOk true (flNames l)=false→Q (iD 4) []:=fun h=>by rw [flErr_n (namesErr_4 hlen h) (by omega)] at hQ; exact hQ
 refine Zlh Q _ _ _ (by rw [big_eq]; exact hb) (fun k=>∀ i,i<k→nameAt true (flNames l) i=true) (fun k hk hJ K hK=>?_) (fun hJ hb1=>?_) 0 (Nat.zero_le _) (fun i hi=>by omega)
 ·simp only [encFs_getD _ k hk,List.drop_zero,List.headD_cons,List.tail_cons]
  have hn:=flNames_getD l k hk
  refine ⟨by omega,by rw [hl]; omega,bD (nameOk (l[k]).name true),(r01_IsName_ok _ _).here rfl,?_⟩
  have next:nameAt true (flNames l) k=true→∀ i,i<k+1→nameAt true (flNames l) i=true:=fun h i hi=>by
   rcases Nat.lt_succ_iff_lt_or_eq.1 hi with h8 | rfl
   ·exact hJ i h8
   ·exact h
  refine iff_not (iff_intro (fun h=>iff_dec (fun h0=>?_) (fun h0=>hK (next ?_))) (fun h=>⟨trivial,bad (namesOk_not (k:=k) (by omega) ?_)⟩))
  ·have h:nameOk (l[k]).name true=true:=h
   have hk1:k - 1<l.length:=by omega
   have hp:=flNames_getD l (k - 1) hk1
   rw [wrap_in _ (by omega) (by omega)]
   have e1:((k:Int) - 1).toNat=k - 1:=by omega
   rw [e1]
   simp only [encFs_getD _ (k - 1) hk1,List.drop_zero,List.headD_cons,List.tail_cons]
   have hk0:¬ k=0:=by omega
   refine ⟨by omega,by rw [hl]; omega,r01_CompareNames_ok _ _ _ ⟨rfl,rfl,iff_dec (fun h2=>⟨trivial,bad (namesOk_not (k:=k) (by omega) ?_)⟩) (fun h2=>hK (next ?_))⟩⟩
   ·have h2:cmpN (l[k-1]).name (l[k]).name≥0:=h2
    rw [cmpN_lt] at h2
    unfold nameAt
    rw [hn,hp,h,Bool.true_and,decide_eq_false hk0,decide_eq_false h2]; rfl
   ·have h2:¬ cmpN (l[k-1]).name (l[k]).name≥0:=h2
    rw [cmpN_lt,Decidable.not_not] at h2
    unfold nameAt
    rw [hn,hp,h,Bool.true_and,decide_eq_false hk0,decide_eq_true h2]; rfl
  ·have h:nameOk (l[k]).name true=true:=h
   unfold nameAt
   rw [hn,h,decide_eq_true (show k=0 by omega)]; rfl
  ·have h:nameOk (l[k]).name true=false:=h
   unfold nameAt
   rw [hn,h]; rfl
 rw [flErr_k (namesErr_0 hlen (namesOk_all fun k hk=>hJ k (by omega)))] at hQ
 rw [hl] at hb1 ⊢
 refine Zlf Q _ _ hb1 (fun k=>(l.take k).any flBad=false) (fun k hk hJ2 m1 hK=>?_) (fun hJ2=>⟨trivial,?_⟩) 0 (Nat.zero_le _) rfl
 ·simp only [encFs_getD _ k hk,List.drop_zero,List.headD_cons,List.tail_cons]
  have hin:=List.getElem_mem hk
  have no:flBad l[k]=true→True∧Q (iD 2) []:=fun h=>by
   rw [if_pos (List.any_eq_true.2 ⟨_,hin,h⟩)] at hQ; exact ⟨trivial,hQ⟩
  have step:flBad l[k]=false→ZaF Q m1 (encFs l) (l.length:Int) (IntKind.i64.wrap ((k:Int)+(1:Int))):=fun h=>hK (any_take hk hJ2 h)
  generalize l[k]=x at no step
  -- what is kept
  have kp:(decide (x.only<0)||decide (x.only > 8)||(decide (x.only > 0)&&decide (x.keep.length > 0)))=false→Zcs Q m1 (encFs l) (l.length:Int) (k:Int) (.s x.name) (.i x.only) (.l (encP x.keep)):=fun h0=>by
   have hfb:flBad x=!(keepOk x.keep):=by unfold flBad; rw [h0,Bool.false_or]
   rw [Zna]
   show (encP x.keep).length≤big→∃ m2,ZbI Q m1 m2 _ _ _ _ ((encP x.keep).length:Int) 0 _ _ _
   rw [encP_length]
   intro hb2
   rw [big_eq] at hb2
   refine Zlo Q m1 _ _ _ _ _ _ _ _ (by rw [big_eq]; exact hb2) (fun j=>∀ i,i<j→keepAt x.keep i=true) (fun j hj hJ3 K hK3=>?_) (fun hJ3=>step ?_) 0 (Nat.zero_le _) (fun i hi=>by omega)
   ·have hg:(V.list (V.l (encP x.keep))).getD j []=[V.i x.keep[j]]:=encP_getD _ j hj
    have hge:x.keep.getD j 0=x.keep[j]:=by rw [List.getD_eq_getElem?_getD,List.getElem?_eq_getElem hj]; rfl
    simp only [hg,List.drop_zero,List.headD_cons]
    have kno:keepAt x.keep j=false→True∧Q (iD 2) []:=fun h=>no (by rw [hfb,keepOk_not hj h]; rfl)
    have next:keepAt x.keep j=true→∀ i,i<j+1→keepAt x.keep i=true:=fun h i hi=>by
     rcases Nat.lt_succ_iff_lt_or_eq.1 hi with h8 | rfl
     ·exact hJ3 i h8
     ·exact h
    refine ⟨by omega,by show (j:Int)<((encP x.keep).length:Int); rw [encP_length]; omega,iff_dec (fun h1=>kno ?_) (fun h1=>iff_dec (fun h2=>kno ?_) (fun h2=>iff_dec (fun h3=>?_) (fun h3=>hK3 (next ?_))))⟩
    ·have h1:x.keep[j]<1:=h1
     unfold keepAt; rw [hge,decide_eq_false (by omega)]; rfl
    ·have h2:x.keep[j] > 8:=h2
     unfold keepAt; rw [hge,decide_eq_false (show ¬ x.keep[j]≤8 by omega),Bool.and_false]; rfl
    ·have h1:¬ x.keep[j]<1:=h1
     have h2:¬ x.keep[j] > 8:=h2
     have hj1:j - 1<x.keep.length:=by omega
     have hg1:x.keep.getD (j - 1) 0=x.keep[j-1]:=by rw [List.getD_eq_getElem?_getD,List.getElem?_eq_getElem hj1]; rfl
     rw [wrap_in _ (by omega) (by omega)]
     have e1:((j:Int) - 1).toNat=j - 1:=by omega
     rw [e1]
     have hg2:(V.list (V.l (encP x.keep))).getD (j - 1) []=[V.i x.keep[j-1]]:=encP_getD _ (j - 1) hj1
     simp only [hg2,List.drop_zero,List.headD_cons]
     refine ⟨by omega,by show (j:Int) - 1<((encP x.keep).length:Int); rw [encP_length]; omega,iff_dec (fun h4=>kno ?_) (fun h4=>hK3 (next ?_))⟩
     ·have h4:x.keep[j-1]≥x.keep[j]:=h4
      unfold keepAt; rw [hge,hg1,decide_eq_false (show ¬ j=0 by omega),decide_eq_false (show ¬ x.keep[j-1]<x.keep[j] by omega),Bool.false_or,Bool.and_false]
     ·have h4:¬ x.keep[j-1]≥x.keep[j]:=h4
      unfold keepAt; rw [hge,hg1,decide_eq_true (show 1≤x.keep[j] by omega),decide_eq_true (show x.keep[j]≤8 by omega),decide_eq_true (show x.keep[j-1]<x.keep[j] by omega),Bool.or_true]; rfl
    ·have h1:¬ x.keep[j]<1:=h1
     have h2:¬ x.keep[j] > 8:=h2
     unfold keepAt; rw [hge,decide_eq_true (show 1≤x.keep[j] by omega),decide_eq_true (show x.keep[j]≤8 by omega),decide_eq_true (show j=0 by omega)]; rfl
   ·rw [hfb,keepOk_all (fun k hk=>hJ3 k hk)]; rfl
  refine ⟨by omega,by rw [hl]; omega,iff_dec (fun h1=>no ?_) (fun h1=>iff_dec (fun h2=>no ?_) (fun h2=>iff_dec (fun h3=>fun _=>iff_dec (fun h4=>no ?_) (fun h4=>kp ?_)) (fun h3=>kp ?_)))⟩
  ·have h1:x.only<0:=h1
   unfold flBad; rw [decide_eq_true h1]; rfl
  ·have h2:x.only > 8:=h2
   unfold flBad; rw [decide_eq_true h2,Bool.or_true]; rfl
  ·have h3:x.only > 0:=h3
   have h4:((encP x.keep).length:Int) > 0:=h4
   rw [encP_length] at h4
   unfold flBad; rw [decide_eq_true h3,decide_eq_true (show x.keep.length > 0 by omega),Bool.and_true,Bool.or_true,Bool.true_or]
  ·have h1:¬ x.only<0:=h1
   have h2:¬ x.only > 8:=h2
   have h4:¬ ((encP x.keep).length:Int) > 0:=h4
   rw [encP_length] at h4
   rw [decide_eq_false h1,decide_eq_false h2,decide_eq_false (show ¬ x.keep.length > 0 by omega),Bool.and_false]; rfl
  ·have h1:¬ x.only<0:=h1
   have h2:¬ x.only > 8:=h2
   have h3:¬ x.only > 0:=h3
   rw [decide_eq_false h1,decide_eq_false h2,decide_eq_false h3]; rfl
 ·rw [List.take_length] at hJ2
  rw [if_neg (by simp [hJ2])] at hQ
  exact hQ
def allTo (n:Nat):List Int:=(List.range n).map fun i:Nat=>((i:Int)+1)
def entF (l:Fls) (x:ByteArray) (n:Nat):Fl:=(l.find? fun y=>decide (y.name=x)).getD ⟨x,0,allTo n⟩
def keptF (l:Fls) (x:ByteArray) (n:Nat):List Int:=if (entF l x n).only > 0 then [(entF l x n).only] else (entF l x n).keep
theorem find_first {α:Type} {p:α→Bool} {l:List α} {k:Nat} (hk:k<l.length) (h:(l.take k).any p=false) (hp:p l[k]=true):l.find? p=some l[k]:=by
 rw [List.find?_eq_some_iff_append]
 refine ⟨hp,l.take k,l.drop (k+1),?_,fun y hy=>?_⟩
 ·rw [← List.drop_eq_getElem_cons hk,List.take_append_drop]
 ·have:=List.any_eq_false.1 h y hy
  simpa using this
theorem r11_Entry_ok (l:Fls) (x:ByteArray) (n:Nat) (hn:n≤1048576):Fn Zg8 [flsD l,sD x,iD n] (flD (entF l x n)):=fun Q hQ=>by
 refine Zrb _ _ _ _ fun hb=>?_
 have hl:=encFs_length l
 rw [hl] at hb ⊢
 unfold entF at hQ
 refine ZlG Q _ _ _ _ _ _ hb (fun k=>(l.take k).any (fun y=>decide (y.name=x))=false) (fun k hk hJ K hK=>?_) (fun hJ=>?_) 0 (Nat.zero_le _) rfl
 ·simp only [encFs_getD _ k hk,List.drop_zero,List.headD_cons,List.tail_cons]
  refine ⟨by omega,by rw [hl]; omega,?_⟩
  show iff ((l[k]).name.toList == x.toList) _ _
  rw [ba_beq]
  refine iff_dec (fun h=>⟨⟨trivial,trivial,trivial,trivial⟩,?_⟩) (fun h=>hK (any_take hk hJ (decide_eq_false h)))
  rw [find_first hk hJ (decide_eq_true h)] at hQ
  exact hQ
 ·rw [List.take_length] at hJ
  have:l.find? (fun y=>decide (y.name=x))=none:=by
   rw [List.find?_eq_none]
   intro y hy
   have:=List.any_eq_false.1 hJ y hy
   simpa using this
  rw [this] at hQ
  refine ZlA Q _ _ _ _ n (by unfold big; omega) (fun k m y=>y=encP (allTo k)∧m=y.length) (fun k m y hk hJ K hK=>?_) (fun m y hJ=>?_) 0 0 _ (Nat.zero_le _) ⟨rfl,rfl⟩
  ·obtain ⟨rfl,rfl⟩:=hJ
   rw [wrap_in _ (by omega) (by omega)]
   have hlen:(encP (allTo k)).length=k:=by rw [encP_length]; simp [allTo]
   refine ⟨rfl,by rw [hlen]; show k+1≤lim; unfold lim; omega,hK _ _ ⟨?_,?_⟩⟩
   ·unfold allTo; rw [List.range_succ]; simp [encP]
   ·first | (rw [List.length_append]; done) | (rw [List.length_append]; rfl)
  ·obtain ⟨rfl,rfl⟩:=hJ
   exact ⟨⟨trivial,trivial,rfl,trivial⟩,hQ⟩
theorem r11_kept_ok (l:Fls) (t:Tm) (hn:t.args.length≤1048576):Fn ZgN [flsD l,tD t] (psD (keptF l t.name t.args.length)):=fun Q hQ=>by
 refine Zrg _ _ _ _ _ fun _=>?_
 have hl:=Tm.encL_length t.args
 rw [hl]
 unfold keptF at hQ
 refine r11_Entry_ok l t.name _ hn _ ⟨rfl,rfl,iff_dec (fun h=>⟨trivial,?_⟩) (fun h=>⟨trivial,?_⟩)⟩
 ·have h:(entF l t.name t.args.length).only > 0:=h
  rw [if_pos h] at hQ; exact hQ
 ·have h:¬ (entF l t.name t.args.length).only > 0:=h
  rw [if_neg h] at hQ; exact hQ
end Go.Proofs.YthjlodlkpgjlkaaGreat
set_option linter.unusedSectionVars false
namespace Go.Proofs.YthjlodlkpgjlkaaGreat
open Go.Abs
theorem r02_blank_ok (c:Int):Fn Zi9 [uD c] (bD (blankB c)):=fun Q hQ=>by
 refine Zq6 _ _ ?_
 have key:∀ b,b=blankB c→True∧Q (bD b) []:=by rintro _ rfl; exact ⟨trivial,hQ⟩
 unfold Zme
 repeat' (first | (refine iff_beq (fun _=>?_) (fun _=>?_)) | fail)
 all_goals
  refine key _ ?_
  unfold blankB
  rw [Bool.eq_iff_iff]
  simp only [decide_eq_true_iff,beq_iff_eq,true_iff]
  omega
theorem r02_part_ok (c:UInt8):Fn Zio [uD (c.toNat:Int)] (bD (partB (c.toNat:Int))):=fun Q hQ=>by
 refine Zri _ _ ?_
 unfold Zoi
 have e:lettersL (strV [[V.i (c.toNat:Int)]]).data.toList=letterB (c.toNat:Int):=by
  have:(strV [[V.i (c.toNat:Int)]]).data.toList=[c]:=by
   show [UInt8.ofNat ((c.toNat:Int)).toNat]=[c]
   simp
  rw [this]; simp [lettersL]
 refine r01_Letters_ok _ _ ⟨rfl,rfl,?_⟩
 rw [e]
 unfold partB at hQ
 refine iff_intro (fun h=>⟨trivial,?_⟩) (fun h=>⟨trivial,?_⟩)
 ·have h:letterB (c.toNat:Int)=true:=h
  rw [h] at hQ; exact hQ
 ·have h:letterB (c.toNat:Int)=false:=h
  rw [h,Bool.false_or] at hQ
  have:((c.toNat:Int) == 35)=decide ((c.toNat:Int)=35):=by rw [Bool.eq_iff_iff]; simp
  rw [this]; exact hQ
theorem r02_Next_ok (s:ByteArray) (a:Nat) (hs:s.size≤1048576) (ha:a≤s.size):Fn ZbT [sD s,iD a] (.tup [sD (nextT s a).1,iD (nextT s a).2]):=fun Q hQ=>by
 refine Zrn _ _ _ ?_
 have hl:=ba_size s
 have hb:s.size≤big:=by unfold big; omega
 refine Znt Q (fun x k=>x=s∧∃ j:Nat,k=j∧j≤s.size∧runN blankB s j=runN blankB s a) (fun x k=>s.size - k.toNat) ?_ _ _ ⟨rfl,a,rfl,ha,rfl⟩
 rintro x k ⟨rfl,j,rfl,hj,hrun⟩ M ih
 -- behind the white space
 have word:runN blankB x a=j→∃ m1,Zdm Q m1 x j j:=fun hr=>by
  have last:∀ to:Nat,to=runN partB x j→to≤x.size→iff (decide (((to:Nat):Int) > (j:Int))) (0≤(j:Int)∧(j:Int)≤to∧(to:Int)≤x.size∧(True∧True∧True)∧Q (.tup [.v .str (V.s (x.extract (j:Int).toNat (to:Int).toNat)),.v (.int .i64) (V.i j)]) [])
    ((x.size≤big→iff (decide ((IntKind.i64.wrap ((j:Int)+(1:Int)))<((x.size:Int)))) (0≤(j:Int)∧(j:Int)≤(IntKind.i64.wrap ((j:Int)+(2:Int)))∧(IntKind.i64.wrap ((j:Int)+(2:Int)))≤x.size∧iff ((x.extract (j:Int).toNat ((IntKind.i64.wrap ((j:Int)+(2:Int)))).toNat).toList == (ByteArray.mk #[45,62]).toList) ((True∧True∧True)∧Q (.tup [.v .str (V.s (ByteArray.mk #[45,62])),.v (.int .i64) (V.i j)]) []) (ZbC Q x j)) (ZbC Q x j))):=fun to hto hle=>by
   have e2:nextT x a=if j<to then (x.extract j to,j) else if j+1<x.size∧x.extract j (j+2)=arrowB then (arrowB,j) else (x.extract j (min (j+1) x.size),j):=by
    unfold nextT; dsimp only; rw [hr,hto]
   have one:¬ j<to→¬ (j+1<x.size∧x.extract j (j+2)=arrowB)→ZbC Q x j:=fun h1 h2=>by
    rw [Zn3]
    unfold Zj2
    rw [if_neg h1,if_neg h2] at e2
    rw [e2] at hQ
    rw [wrap_in _ (by omega) (by omega)]
    intro _
    have e3:(if (x.size:Int)<(j:Int)+1 then (x.size:Int) else (j:Int)+1)=((min (j+1) x.size:Nat):Int):=by
     split <;> omega
    rw [e3]
    refine ⟨by omega,by omega,by omega,⟨trivial,trivial,trivial⟩,?_⟩
    rw [Int.toNat_natCast,Int.toNat_natCast]
    exact hQ
   refine iff_dec (fun h=>?_) (fun h=>fun _=>?_)
   ·rw [if_pos (by omega)] at e2
    rw [e2] at hQ
    refine ⟨by omega,by omega,by omega,⟨trivial,trivial,trivial⟩,?_⟩
    rw [Int.toNat_natCast,Int.toNat_natCast]
    exact hQ
   ·have h':¬ j<to:=by omega
    rw [wrap_in ((j:Int)+1) (by omega) (by omega)]
    refine iff_dec (fun h2=>?_) (fun h2=>one h' (fun h3=>h2 (by omega)))
    rw [wrap_in ((j:Int)+2) (by omega) (by omega)]
    have e4:((j:Int)+2).toNat=j+2:=by omega
    rw [e4,Int.toNat_natCast,ba_beq]
    refine ⟨by omega,by omega,by omega,iff_dec (fun h3=>⟨⟨trivial,trivial,trivial⟩,?_⟩) (fun h3=>one h' (fun h4=>h3 h4.2))⟩
    rw [if_neg h',if_pos ⟨by omega,h3⟩] at e2
    rw [e2] at hQ
    exact hQ
  refine Znv Q (fun y b k=>y=x∧b=(j:Int)∧∃ to:Nat,k=to∧j≤to∧to≤x.size∧runN partB x to=runN partB x j) (fun y b k=>x.size - k.toNat) ?_ _ _ _ ⟨rfl,rfl,j,rfl,Nat.le_refl _,hj,rfl⟩
  rintro y b k ⟨rfl,rfl,to,rfl,h1,h2,h3⟩ M1 ih1
  unfold Zg9
  intro _
  refine iff_dec (fun hlt=>?_) (fun hge=>?_)
  ·have hlt':to<y.data.toList.length:=by omega
   refine ⟨by omega,hlt,?_⟩
   rw [Int.toNat_natCast]
   have e:y.data.toList.getD to 0=y.data.toList[to]:=by rw [List.getD_eq_getElem?_getD,List.getElem?_eq_getElem hlt']; rfl
   rw [e]
   refine r02_part_ok _ _ ⟨rfl,rfl,iff_intro (fun hp=>?_) (fun hp=>?_)⟩
   ·rw [wrap_in _ (by omega) (by omega)]
    refine ih1 _ _ _ ⟨rfl,rfl,to+1,rfl,by omega,by omega,?_⟩ ?_
    ·rw [← h3,runN_step hlt' hp]
    ·show y.size - ((to:Int)+1).toNat<y.size - (to:Int).toNat
     omega
   ·exact last to (by rw [← h3,runN_stop hlt' hp]) h2
  ·exact last to (by rw [← h3,runN_end]; omega) h2
 unfold Zg5
 intro _
 refine iff_dec (fun hlt=>?_) (fun hge=>word ?_)
 ·have hlt':j<x.data.toList.length:=by omega
  refine ⟨by omega,hlt,?_⟩
  rw [Int.toNat_natCast]
  have e:x.data.toList.getD j 0=x.data.toList[j]:=by rw [List.getD_eq_getElem?_getD,List.getElem?_eq_getElem hlt']; rfl
  rw [e]
  refine r02_blank_ok _ _ ⟨rfl,rfl,iff_intro (fun hp=>?_) (fun hp=>word ?_)⟩
  ·rw [wrap_in _ (by omega) (by omega)]
   refine ih _ _ ⟨rfl,j+1,rfl,by omega,?_⟩ ?_
   ·rw [← hrun,runN_step hlt' hp]
   ·show x.size - ((j:Int)+1).toNat<x.size - (j:Int).toNat
    omega
  ·rw [← hrun,runN_stop hlt' hp]
 ·rw [← hrun,runN_end]; omega
theorem r02_isName_ok (x:ByteArray):Fn Zgu [sD x] (bD (nameTok x)):=fun Q hQ=>by
 refine Zqu _ _ ?_
 unfold Zj1
 unfold nameTok at hQ
 rw [ba_beq]
 refine iff_not (iff_dec (fun h=>⟨trivial,?_⟩) (fun h=>?_))
 ·rw [ba_nil] at h
  rw [h] at hQ; exact hQ
 ·rw [ba_nil] at h
  have hl:=ba_size x
  refine ⟨by omega,by omega,r02_part_ok _ _ ⟨rfl,rfl,trivial,?_⟩⟩
  rw [show decide (x.size≠0)=true from decide_eq_true h,Bool.true_and] at hQ
  exact hQ
abbrev psH (s:ByteArray) (vs:List ByteArray) (p:Ps):Heap:=[.cells [sD s,iD p.pos,nsD vs,iD (badI p.bad)]]
abbrev psO (s:ByteArray) (vs:List ByteArray) (p:Ps):Heap:=[.cells [sD s,iD p.pos,.osl (.own 1) vs.length,iD (badI p.bad)],.row Za (encN vs)]
abbrev pD:D:=.ptr (.own 0) 0
theorem fail_ok (s:ByteArray) (vs:List ByteArray) (p:Ps) (a:Nat) {Q:D→Heap→Prop} (hQ:Q (.tup []) (psH s vs (p.fail a))):cl ZK [pD,iD a] (psH s vs p) Q:=by
 refine ZlI _ _ _ _ _ _ ?_
 unfold Zgo
 unfold Ps.fail at hQ
 refine iff_dec (fun h=>⟨trivial,?_⟩) (fun h=>⟨trivial,?_⟩) <;> rw [badI_neg] at h
 ·rw [h] at hQ; exact hQ
 ·cases hb:p.bad with
  | none=>exact absurd hb h
  | some b=>rw [hb] at hQ; exact hQ
theorem fail_o_ok (s:ByteArray) (vs:List ByteArray) (p:Ps) (a:Nat) {Q:D→Heap→Prop} (hQ:Q (.tup []) (psO s vs (p.fail a))):cl ZK [pD,iD a] (psO s vs p) Q:=by
 refine Zi4 _ _ _ _ _ _ _ ?_
 unfold ZfG
 unfold Ps.fail at hQ
 refine iff_dec (fun h=>⟨trivial,?_⟩) (fun h=>⟨trivial,?_⟩) <;> rw [badI_neg] at h
 ·rw [h] at hQ; exact hQ
 ·cases hb:p.bad with
  | none=>exact absurd hb h
  | some b=>rw [hb] at hQ; exact hQ
theorem badI_ge (b:Option Nat):badI b≥0↔b≠none:=by have:=badI_neg b; constructor <;> intro h <;> (first | (intro h2; have:=this.2 h2; omega) | (have h3:¬ badI b<0:=fun h4=>h (this.1 h4); omega))
section
variable {s:ByteArray} (hs:s.size≤1048576)
include hs
theorem may_ok (vs:List ByteArray) (p:Ps) (hp:p.pos≤s.size) (t:ByteArray) {Q:D→Heap→Prop} (hQ:Q (bD (p.may s t).1) (psH s vs (p.may s t).2)):cl ZM [pD,sD t] (psH s vs p) Q:=by
 refine Zm1 _ _ _ _ _ _ ⟨.tup [sD (nextT s p.pos).1,iD (nextT s p.pos).2],(r02_Next_ok s p.pos hs hp).here rfl,?_⟩
 have hsz:=nextT_size s hp
 unfold Ps.may at hQ
 refine iff_dec (fun h=>⟨trivial,?_⟩) (fun h=>?_) <;> rw [badI_ge] at h
 ·rw [if_neg (fun h2=>h h2.1)] at hQ; exact hQ
 ·have h:p.bad=none:=Decidable.not_not.1 h
  show iff (!((nextT s p.pos).1.toList == t.toList)) _ _
  rw [ba_beq]
  refine iff_not (iff_dec (fun h2=>?_) (fun h2=>⟨trivial,?_⟩))
  ·rw [if_pos ⟨h,h2⟩] at hQ
   rw [ZhN]
   intro _
   refine ⟨trivial,?_⟩
   show Q _ [.cells [_,.v (.int .i64) (V.i (IntKind.i64.wrap (((nextT s p.pos).2:Int)+((nextT s p.pos).1.size:Int)))),_,_]]
   rw [wrap_in _ (by omega) (by omega)]
   exact hQ
  ·rw [if_neg (fun h3=>h2 h3.2)] at hQ; exact hQ
theorem may_o_ok (vs:List ByteArray) (p:Ps) (hp:p.pos≤s.size) (t:ByteArray) {Q:D→Heap→Prop} (hQ:Q (bD (p.may s t).1) (psO s vs (p.may s t).2)):cl ZM [pD,sD t] (psO s vs p) Q:=by
 refine ZjZ _ _ _ _ _ _ _ ⟨.tup [sD (nextT s p.pos).1,iD (nextT s p.pos).2],(r02_Next_ok s p.pos hs hp).here rfl,?_⟩
 have hsz:=nextT_size s hp
 unfold Ps.may at hQ
 refine iff_dec (fun h=>⟨trivial,?_⟩) (fun h=>?_) <;> rw [badI_ge] at h
 ·rw [if_neg (fun h2=>h h2.1)] at hQ; exact hQ
 ·have h:p.bad=none:=Decidable.not_not.1 h
  show iff (!((nextT s p.pos).1.toList == t.toList)) _ _
  rw [ba_beq]
  refine iff_not (iff_dec (fun h2=>?_) (fun h2=>⟨trivial,?_⟩))
  ·rw [if_pos ⟨h,h2⟩] at hQ
   rw [Zha]
   intro _
   refine ⟨trivial,?_⟩
   show Q _ [.cells [_,.v (.int .i64) (V.i (IntKind.i64.wrap (((nextT s p.pos).2:Int)+((nextT s p.pos).1.size:Int)))),_,_],_]
   rw [wrap_in _ (by omega) (by omega)]
   exact hQ
  ·rw [if_neg (fun h3=>h2 h3.2)] at hQ; exact hQ
theorem may_pos (p:Ps) (hp:p.pos≤s.size) (t:ByteArray):(p.may s t).2.pos≤s.size∧p.pos≤(p.may s t).2.pos:=by
 have hsz:=nextT_size s hp
 unfold Ps.may
 split
 ·exact ⟨hsz.1,by show _≤(nextT s p.pos).2+_; omega⟩
 ·exact ⟨hp,Nat.le_refl _⟩
theorem take_ok (vs:List ByteArray) (p:Ps) (hp:p.pos≤s.size) (t:ByteArray) {Q:D→Heap→Prop} (hQ:Q (.tup []) (psH s vs (p.take s t))):cl ZS [pD,sD t] (psH s vs p) Q:=by
 refine ZlO _ _ _ _ _ _ ?_
 unfold ZgD
 unfold Ps.take at hQ
 refine may_ok hs vs p hp t ⟨rfl,rfl,iff_not (iff_intro (fun h=>⟨trivial,?_⟩) (fun h=>?_))⟩
 ·have h:(p.may s t).1=true:=h
  rw [if_pos h] at hQ; exact hQ
 ·have h:(p.may s t).1=false:=h
  have e:(p.may s t).2=p:=by
   unfold Ps.may at h ⊢
   split
   ·rename_i h2; rw [if_pos h2] at h; cases h
   ·rfl
  rw [if_neg (by rw [h]; exact Bool.false_ne_true)] at hQ
  rw [e]
  exact ⟨.tup [sD (nextT s p.pos).1,iD (nextT s p.pos).2],(r02_Next_ok s p.pos hs hp).here rfl,fail_ok s vs p _ ⟨rfl,rfl,trivial,hQ⟩⟩
theorem take_o_ok (vs:List ByteArray) (p:Ps) (hp:p.pos≤s.size) (t:ByteArray) {Q:D→Heap→Prop} (hQ:Q (.tup []) (psO s vs (p.take s t))):cl ZS [pD,sD t] (psO s vs p) Q:=by
 refine Zja _ _ _ _ _ _ _ ?_
 unfold ZfJ
 unfold Ps.take at hQ
 refine may_o_ok hs vs p hp t ⟨rfl,rfl,iff_not (iff_intro (fun h=>⟨trivial,?_⟩) (fun h=>?_))⟩
 ·have h:(p.may s t).1=true:=h
  rw [if_pos h] at hQ; exact hQ
 ·have h:(p.may s t).1=false:=h
  have e:(p.may s t).2=p:=by
   unfold Ps.may at h ⊢
   split
   ·rename_i h2; rw [if_pos h2] at h; cases h
   ·rfl
  rw [if_neg (by rw [h]; exact Bool.false_ne_true)] at hQ
  rw [e]
  exact ⟨.tup [sD (nextT s p.pos).1,iD (nextT s p.pos).2],(r02_Next_ok s p.pos hs hp).here rfl,fail_o_ok s vs p _ ⟨rfl,rfl,trivial,hQ⟩⟩
theorem take_pos (p:Ps) (hp:p.pos≤s.size) (t:ByteArray):(p.take s t).pos≤s.size∧p.pos≤(p.take s t).pos:=by
 have:=may_pos hs p hp t
 unfold Ps.take
 split
 ·exact this
 ·exact ⟨hp,Nat.le_refl _⟩
theorem close_ok (vs:List ByteArray) (p:Ps) (hp:p.pos≤s.size) {Q:D→Heap→Prop} (hQ:Q (.tup []) (psH s vs (p.close s))):cl ZaU [pD] (psH s vs p) Q:=by
 refine Zm8 _ _ _ _ _ ⟨.tup [sD (nextT s p.pos).1,iD (nextT s p.pos).2],(r02_Next_ok s p.pos hs hp).here rfl,?_⟩
 unfold Ps.close at hQ
 show iff (!((nextT s p.pos).1.toList == (ByteArray.mk #[]).toList)) _ _
 rw [ba_beq]
 refine iff_not (iff_dec (fun h=>⟨trivial,?_⟩) (fun h=>?_))
 ·have h:(nextT s p.pos).1=bz:=h
  rw [if_pos h] at hQ; exact hQ
 ·have h:¬ (nextT s p.pos).1=bz:=h
  rw [if_neg h] at hQ
  exact fail_ok s vs p _ ⟨rfl,rfl,trivial,hQ⟩
theorem name_ok (vs:List ByteArray) (p:Ps) (hp:p.pos≤s.size) {Q:D→Heap→Prop} (hQ:Q (sD (p.name s).1) (psH s vs (p.name s).2)):cl Ze6 [pD] (psH s vs p) Q:=by
 refine Zk5 _ _ _ _ _ ⟨.tup [sD (nextT s p.pos).1,iD (nextT s p.pos).2],(r02_Next_ok s p.pos hs hp).here rfl,?_⟩
 have hsz:=nextT_size s hp
 have fin:∀ q:Ps,q.pos=p.pos→(q=if nameTok (nextT s p.pos).1&&nameOk (nextT s p.pos).1 true then p else p.fail (nextT s p.pos).2)→Za5 Q (.s (nextT s p.pos).1) (.i (nextT s p.pos).2) (.s s) (.i q.pos) (.l (encN vs)) (.i (badI q.bad)):=fun q hqp hq=>by
  rw [ZhI]
  unfold ZfL
  have e:p.name s=if q.bad=none then ((nextT s p.pos).1,⟨(nextT s p.pos).2+(nextT s p.pos).1.size,none⟩) else (bz,q):=by rw [hq]; rfl
  refine iff_dec (fun h=>⟨trivial,?_⟩) (fun h _=>⟨trivial,?_⟩) <;> (have h':=h; simp only [V.int] at h'; rw [badI_ge] at h')
  ·rw [e,if_neg h'] at hQ; exact hQ
  ·have h':q.bad=none:=Decidable.not_not.1 h'
   rw [e,if_pos h'] at hQ
   show Q _ [.cells [_,.v (.int .i64) (V.i (IntKind.i64.wrap (((nextT s p.pos).2:Int)+((nextT s p.pos).1.size:Int)))),_,_]]
   rw [wrap_in _ (by omega) (by omega),h']
   exact hQ
 have hf:(p.fail (nextT s p.pos).2).pos=p.pos:=rfl
 refine r02_isName_ok _ _ ⟨rfl,rfl,iff_not (iff_intro (fun h=>?_) (fun h=>?_))⟩
 ·have h:nameTok (nextT s p.pos).1=true:=h
  refine r01_IsName_ok _ _ _ ⟨rfl,rfl,iff_not (iff_intro (fun h2=>?_) (fun h2=>?_))⟩
  ·have h2:nameOk (nextT s p.pos).1 true=true:=h2
   exact fin p rfl (by rw [h,h2]; rfl)
  ·have h2:nameOk (nextT s p.pos).1 true=false:=h2
   exact fail_ok s vs p _ ⟨rfl,rfl,fin _ hf (by rw [h,h2]; rfl)⟩
 ·have h:nameTok (nextT s p.pos).1=false:=h
  exact fail_ok s vs p _ ⟨rfl,rfl,fin _ hf (by rw [h]; rfl)⟩
theorem name_pos (p:Ps) (hp:p.pos≤s.size):(p.name s).2.pos≤s.size∧p.pos≤(p.name s).2.pos∧((p.name s).2.bad=none→p.pos<(p.name s).2.pos):=by
 have hsz:=nextT_size s hp
 unfold Ps.name
 dsimp only
 by_cases hn:(nameTok (nextT s p.pos).1&&nameOk (nextT s p.pos).1 true)=true
 ·rw [if_pos hn]
  have h1:(nextT s p.pos).1.size≠0:=by
   rw [Bool.and_eq_true] at hn
   have:=hn.1
   unfold nameTok at this
   rw [Bool.and_eq_true,decide_eq_true_iff] at this
   exact this.1
  by_cases hb:p.bad=none
  ·rw [if_pos hb]
   exact ⟨hsz.1,by show _≤(nextT s p.pos).2+_; omega,fun _=>by show _<(nextT s p.pos).2+(nextT s p.pos).1.size; omega⟩
  ·rw [if_neg hb]
   exact ⟨hp,Nat.le_refl _,fun h2=>absurd h2 hb⟩
 ·rw [if_neg hn]
  have hb:(p.fail (nextT s p.pos).2).bad≠none:=by
   unfold Ps.fail
   cases p.bad <;> simp
  rw [if_neg hb]
  exact ⟨hp,Nat.le_refl _,fun h2=>absurd h2 hb⟩
end
end Go.Proofs.YthjlodlkpgjlkaaGreat
namespace Go.Proofs.YthjlodlkpgjlkaaGreat
open Go.Abs
theorem encL_snoc (l:List Tm) (t:Tm):Tm.encL l++[[V.s t.name,V.b t.var,V.l (Tm.encL t.args)]]=Tm.encL (l++[t]):=by
 rw [Tm.encL_eq l,Tm.encL_eq (l++[t]),List.map_append,List.map_singleton,Tm.enc_eq]
section
variable {s:ByteArray} (hs:s.size≤1048576)
include hs
theorem may_true {p:Ps} (hp:p.pos≤s.size) {t:ByteArray} (h:(p.may s t).1=true):p.bad=none∧(p.may s t).2.bad=none∧p.pos+t.size≤(p.may s t).2.pos:=by
 have hsz:=nextT_size s hp
 unfold Ps.may at h ⊢
 split
 ·rename_i h2
  refine ⟨h2.1,h2.1,?_⟩
  show _≤(nextT s p.pos).2+(nextT s p.pos).1.size
  rw [h2.2]; omega
 ·rename_i h2; rw [if_neg h2] at h; cases h
omit hs in
theorem may_false {p:Ps} {t:ByteArray} (h:(p.may s t).1=false):(p.may s t).2=p:=by
 unfold Ps.may at h ⊢
 split
 ·rename_i h2; rw [if_pos h2] at h; cases h
 ·rfl
omit hs in
theorem pArgs_bad (vs:List ByteArray) {p:Ps} (h:p.bad≠none) (g:Nat) (l:List Tm):pArgs s vs g l p=(l,p):=by
 cases g with
 | zero=>rfl
 | succ g=>rw [pArgs,if_pos h]
theorem parse_size (vs:List ByteArray):∀ f:Nat,(∀ p:Ps,p.pos≤s.size→(pTerm s vs f p).2.pos≤s.size∧p.pos≤(pTerm s vs f p).2.pos∧(pTerm s vs f p).1.size+p.pos≤(pTerm s vs f p).2.pos+1) ∧
  (∀ (l:List Tm) (p:Ps),p.pos≤s.size→(pArgs s vs f l p).2.pos≤s.size∧p.pos≤(pArgs s vs f l p).2.pos∧Tm.sizeL (pArgs s vs f l p).1+p.pos≤Tm.sizeL l+(pArgs s vs f l p).2.pos+1):=by
 intro f
 induction f with
 | zero=>exact ⟨fun p hp=>⟨hp,Nat.le_refl _,by simp [pTerm,Tm.size,Tm.sizeL]; omega⟩,fun l p hp=>⟨hp,Nat.le_refl _,by simp only [pArgs]; omega⟩⟩
 | succ f ih =>
  obtain ⟨ih1,ih2⟩:=ih
  refine ⟨fun p hp=>?_,fun l p hp=>?_⟩
  ·rw [pTerm]
   obtain ⟨n1,n2,n3⟩:=name_pos hs p hp
   generalize p.name s=n at n1 n2 n3 ⊢
   obtain ⟨nm,p1⟩:=n
   dsimp only at n1 n2 n3 ⊢
   have one:∀ v,(Tm.mk nm v []).size=1:=fun v=>rfl
   split
   ·exact ⟨n1,n2,by dsimp only; rw [one]; omega⟩
   ·split
    ·split
     ·exact ⟨n1,n2,by dsimp only [Ps.fail]; rw [one]; omega⟩
     ·exact ⟨n1,n2,by dsimp only; rw [one]; omega⟩
    ·split
     ·exact ⟨n1,n2,by dsimp only; rw [one]; omega⟩
     ·obtain ⟨m1,m2⟩:=may_pos hs p1 n1 lparB
      rename_i hm
      have hm':(p1.may s lparB).1=true:=by simpa using hm
      obtain ⟨m3,m4,m5⟩:=may_true hs n1 hm'
      have hl:lparB.size=1:=rfl
      rw [hl] at m5
      generalize (p1.may s lparB).2=p2 at m1 m2 m4 m5 ⊢
      split
      ·obtain ⟨k1,k2⟩:=may_pos hs p2 m1 rparB
       exact ⟨k1,by dsimp only; omega,by dsimp only; rw [one]; omega⟩
      ·obtain ⟨a1,a2,a3⟩:=ih2 [] p2 m1
       refine ⟨a1,by dsimp only; omega,?_⟩
       simp only [Tm.sizeL] at a3
       show 1+Tm.sizeL (pArgs s vs f [] p2).1+p.pos≤(pArgs s vs f [] p2).2.pos+1
       omega
  ·rw [pArgs]
   dsimp only
   split
   ·exact ⟨hp,Nat.le_refl _,by dsimp only; omega⟩
   ·split
    ·exact ⟨hp,Nat.le_refl _,by dsimp only [Ps.fail]; omega⟩
    ·obtain ⟨t1,t2,t3⟩:=ih1 p hp
     have hsn:Tm.sizeL (l++[(pTerm s vs f p).1])=Tm.sizeL l+(pTerm s vs f p).1.size:=by rw [Tm.sizeL_append]; simp [Tm.sizeL]
     split
     ·rename_i hm
      obtain ⟨m3,m4,m5⟩:=may_true hs t1 hm
      obtain ⟨m1,m2⟩:=may_pos hs (pTerm s vs f p).2 t1 commaB
      have hl:commaB.size=1:=rfl
      obtain ⟨a1,a2,a3⟩:=ih2 (l++[(pTerm s vs f p).1]) ((pTerm s vs f p).2.may s commaB).2 m1
      exact ⟨a1,by omega,by omega⟩
     ·obtain ⟨k1,k2⟩:=take_pos hs (pTerm s vs f p).2 t1 rparB
      exact ⟨k1,by dsimp only; omega,by dsimp only; omega⟩
theorem parse_adv (vs:List ByteArray) (f:Nat) (p:Ps) (hp:p.pos≤s.size) (h:(pTerm s vs (f+1) p).2.bad=none):p.pos<(pTerm s vs (f+1) p).2.pos:=by
 rw [pTerm] at h ⊢
 obtain ⟨n1,n2,n3⟩:=name_pos hs p hp
 generalize p.name s=n at n1 n2 n3 h ⊢
 obtain ⟨nm,p1⟩:=n
 dsimp only at n1 n2 n3 h ⊢
 by_cases hb:p1.bad=none
 ·have n3:=n3 hb
  rw [if_neg (by simp [hb])]
  split
  ·dsimp only; split <;> exact n3
  ·split
   ·exact n3
   ·obtain ⟨m1,m2⟩:=may_pos hs p1 n1 lparB
    generalize (p1.may s lparB).2=p2 at m1 m2 ⊢
    split
    ·have:=may_pos hs p2 m1 rparB
     dsimp only; omega
    ·have:=(parse_size hs vs f).2 [] p2 m1
     dsimp only; omega
 ·rw [if_pos hb] at h; exact absurd h hb
theorem term_ok (vs:List ByteArray):∀ (f:Nat) (p:Ps),p.pos≤s.size→2*(s.size - p.pos)+1≤f→∀ Q:D→Heap→Prop,Q (tD (pTerm s vs f p).1) (psH s vs (pTerm s vs f p).2)→cl Zai [pD] (psH s vs p) Q:=by
 intro f
 induction f using Nat.strongRecOn with
 | _ f ih =>
 intro p hp hf Q0 hQ0
 refine ACalls.as ?_
 -- a result, read as a term
 have hQ:∃ Q:D→Heap→Prop,(fun r H'=>∃ r',As r r'∧Q0 r' H')=Q:=⟨_,rfl⟩
 obtain ⟨Q,hQe⟩:=hQ
 have nl:∀ (n:ByteArray) (v:Bool) (H':Heap),Q0 (tD (Tm.mk n v [])) H'→Q (.agg [.v .str (V.s n),.v .bool (V.b v),.nil]) H':=fun n v H' h=>by rw [← hQe]; exact ⟨_,As.last3 _ _ _,h⟩
 have wl:∀ (t:Tm) (H':Heap),Q0 (tD t) H'→Q (tD t) H':=fun t H' h=>by rw [← hQe]; exact ⟨_,.refl _,h⟩
 rw [hQe]
 clear hQe
 obtain ⟨f,rfl⟩:∃ g,f=g+1:=⟨f - 1,by omega⟩
 rw [pTerm] at hQ0
 dsimp only at hQ0
 obtain ⟨n1,n2,n3⟩:=name_pos hs p hp
 refine Zk7 _ _ _ _ _ ?_
 unfold Zgz
 refine name_ok hs vs p hp ⟨rfl,rfl,?_⟩
 generalize hn:p.name s=n at hQ0 n1 n2 n3
 obtain ⟨nm,p1⟩:=n
 show iff (decide (badI p1.bad≥0)) _ _
 refine iff_dec (fun h=>⟨⟨trivial,trivial,trivial,trivial⟩,nl _ _ _ ?_⟩) (fun h=>?_) <;> rw [badI_ge] at h
 ·rw [if_pos h] at hQ0; exact hQ0
 rw [if_neg h] at hQ0
 have hb1:p1.bad=none:=Decidable.not_not.1 h
 have n3:=n3 hb1
 refine r01_Has_ok vs nm _ ⟨rfl,rfl,iff_intro (fun hh=>?_) (fun hh=>?_)⟩
 ·have hh:hasN vs nm=true:=hh
  rw [if_pos hh] at hQ0
  refine ⟨.tup [sD (nextT s p1.pos).1,iD (nextT s p1.pos).2],(r02_Next_ok s p1.pos hs n1).here rfl,?_⟩
  show iff ((nextT s p1.pos).1.toList == lparB.toList) _ _
  rw [ba_beq]
  refine iff_dec (fun h2=>?_) (fun h2=>⟨⟨trivial,trivial,trivial,trivial⟩,nl _ _ _ ?_⟩)
  ·rw [if_pos h2] at hQ0
   exact fail_ok s vs p1 _ ⟨rfl,rfl,⟨trivial,trivial,trivial,trivial⟩,nl _ _ _ hQ0⟩
  ·rw [if_neg h2] at hQ0; exact hQ0
 have hh:hasN vs nm=false:=hh
 rw [if_neg (by rw [hh]; exact Bool.false_ne_true)] at hQ0
 refine may_ok hs vs p1 n1 lparB ⟨rfl,rfl,iff_not (iff_intro (fun hm=>?_) (fun hm=>⟨⟨trivial,trivial,trivial,trivial⟩,nl _ _ _ ?_⟩))⟩
 rotate_left
 ·have hm:(p1.may s lparB).1=false:=hm
  rw [if_pos hm] at hQ0
  rw [may_false hm]; exact hQ0
 have hm:(p1.may s lparB).1=true:=hm
 rw [if_neg (by rw [hm]; exact fun h=>by cases h)] at hQ0
 obtain ⟨m1,m2⟩:=may_pos hs p1 n1 lparB
 obtain ⟨m3,m4,m5⟩:=may_true hs n1 hm
 have hl1:lparB.size=1:=rfl
 refine may_ok hs vs (p1.may s lparB).2 m1 rparB ⟨rfl,rfl,iff_intro (fun hr=>⟨⟨trivial,trivial,trivial,trivial⟩,nl _ _ _ ?_⟩) (fun hr=>?_)⟩
 ·have hr:((p1.may s lparB).2.may s rparB).1=true:=hr
  rw [if_pos hr] at hQ0; exact hQ0
 have hr:((p1.may s lparB).2.may s rparB).1=false:=hr
 rw [if_neg (by rw [hr]; exact Bool.false_ne_true)] at hQ0
 rw [may_false hr,ZhE]
 unfold ZfM
 generalize (p1.may s lparB).2=p2 at hQ0 m1 m2 m4 m5
 refine ZhC Q (fun y2a y2b y3a y3b y3n y90 h0 h1 h2 h3=>y2a=ByteArray.mk #[]∧y2b=false∧y3a=V.s nm∧y3b=false∧h0=V.s s∧h2=V.l (encN vs)∧∃ (l:List Tm) (q:Ps) (g:Nat),y3n=l.length∧y90=Tm.encL l∧h1=V.i q.pos∧h3=V.i (badI q.bad)∧l.length≤8∧q.pos≤s.size∧(q.bad=none→2*(s.size - q.pos)+2≤g)∧g≤f∧Q0 (tD (Tm.mk nm false (pArgs s vs g l q).1)) (psH s vs (pArgs s vs g l q).2))
  (fun y2a y2b y3a y3b y3n y90 h0 h1 h2 h3=>s.size - h1.int.toNat) ?_ _ _ _ _ _ _ _ _ _ _ ⟨rfl,rfl,rfl,rfl,rfl,rfl,[],p2,f,rfl,rfl,rfl,rfl,Nat.zero_le _,m1,fun _=>by omega,Nat.le_refl _,hQ0⟩
 rintro y2a y2b y3a y3b y3n y90 h0 h1 h2 h3 ⟨rfl,rfl,rfl,rfl,rfl,rfl,l,q,g,rfl,rfl,rfl,rfl,hl8,hq,hg,hgf,hQ1⟩ M ih1
 unfold ZdE
 show iff (decide (badI q.bad<0)) _ _
 refine iff_dec (fun hb=>?_) (fun hb=>?_) <;> rw [badI_neg] at hb
 rotate_left
 ·rw [pArgs_bad vs hb] at hQ1
  exact ⟨⟨trivial,trivial,(Tm.encL_length l).symm,trivial⟩,wl _ _ hQ1⟩
 have hg:=hg hb
 obtain ⟨g,rfl⟩:∃ g',g=g' + 1:=⟨g - 1,by omega⟩
 rw [pArgs,if_neg (by simp [hb])] at hQ1
 refine ⟨Tm.encL_length l,fun _=>iff_beq (fun h8=>?_) (fun h8=>?_)⟩
 ·rw [if_pos (by omega)] at hQ1
  exact ⟨.tup [sD (nextT s q.pos).1,iD (nextT s q.pos).2],(r02_Next_ok s q.pos hs hq).here rfl,fail_ok s vs q _ ⟨rfl,rfl,⟨trivial,trivial,(Tm.encL_length l).symm,trivial⟩,wl _ _ hQ1⟩⟩
 rw [if_neg (by omega)] at hQ1
 dsimp only at hQ1
 obtain ⟨t1,t2,t3⟩:=(parse_size hs vs g).1 q hq
 have call:=ih g (by omega) q hq (by omega)
 generalize pTerm s vs g q=tq at hQ1 t1 t2 t3 call
 obtain ⟨t,q1⟩:=tq
 have t1:q1.pos≤s.size:=t1
 have t2:q.pos≤q1.pos:=t2
 refine (fun key=>⟨call _ ⟨rfl,rfl,key⟩,call _ ⟨rfl,rfl,key,key,trivial⟩,trivial⟩) ?_
 refine ⟨Tm.encL_length l,by show l.length+1≤lim; unfold lim; omega,may_ok hs vs q1 t1 commaB ⟨rfl,rfl,iff_not (iff_intro (fun hc=>?_) (fun hc=>?_))⟩⟩
 ·have hc:(q1.may s commaB).1=true:=hc
  rw [if_pos hc] at hQ1
  obtain ⟨c1,c2⟩:=may_pos hs q1 t1 commaB
  obtain ⟨c3,c4,c5⟩:=may_true hs t1 hc
  have hl2:commaB.size=1:=rfl
  rw [hl2] at c5
  have hfu:2*(s.size - (q1.may s commaB).2.pos)+2≤g:=by omega
  refine ih1 _ _ _ _ _ _ _ _ _ _ ⟨rfl,rfl,rfl,rfl,rfl,rfl,l++[t],(q1.may s commaB).2,g,by simp,encL_snoc l t,rfl,rfl,by rw [List.length_append]; show l.length+1≤8; omega,c1,fun _=>hfu,by omega,hQ1⟩ ?_
  show s.size - ((q1.may s commaB).2.pos:Int).toNat<s.size - (q.pos:Int).toNat
  rw [Int.toNat_natCast,Int.toNat_natCast]
  omega
 ·have hc:(q1.may s commaB).1=false:=hc
  rw [if_neg (by rw [hc]; exact Bool.false_ne_true)] at hQ1
  rw [may_false hc]
  refine take_ok hs vs q1 t1 rparB ⟨rfl,rfl,⟨trivial,trivial,by rw [List.length_append,Tm.encL_length],trivial⟩,?_⟩
  have e:(V.l (Tm.encL l++[[V.s t.name,V.b t.var,V.l (Tm.encL t.args)]]))=V.l (Tm.encL (l++[t])):=by rw [encL_snoc]
  show Q (.agg [_,_,.v (.sl Zb) (V.l (Tm.encL l++[[V.s t.name,V.b t.var,V.l (Tm.encL t.args)]]))]) _
  rw [e]
  exact wl _ _ hQ1
end
end Go.Proofs.YthjlodlkpgjlkaaGreat
namespace Go.Proofs.YthjlodlkpgjlkaaGreat
open Go.Abs
theorem as3 {a a' b b' c c':D} (h:As a a') (h':As b b') (h'':As c c'):As (.tup [a,b,c]) (.tup [a',b',c']) :=
 .tup _ _ rfl fun j=>match j with | 0=>h | 1=>h' | 2=>h'' | _+3=>.refl _
abbrev dfltD:D:=.agg [sD (ByteArray.mk #[]),bD false,.nil]
theorem as_dflt:As dfltD (tD (Tm.mk bz false [])):=As.last3 _ _ _
theorem r02_Term_ok (s:ByteArray) (vs:List ByteArray):Fn Zin [sD s,nsD vs] (.tup [tD (rdTerm s vs).1,iD (rdTerm s vs).2.1,iD (rdTerm s vs).2.2]):=Fn.as fun Q hQ=>by
 refine Zro _ _ _ fun _=>?_
 have ret:∀ (a b:Int),(rdTerm s vs)=(Tm.mk bz false [],a.toNat,b)→0≤a→((True∧True∧True∧True)∧True∧True∧True)∧Q (.tup [dfltD,iD a,iD b]) []:=fun a b h h0=>by
  refine ⟨⟨⟨trivial,trivial,trivial,trivial⟩,trivial,trivial,trivial⟩,hQ _ ?_⟩
  rw [h]
  show As _ (.tup [_,iD ((a.toNat:Nat):Int),_])
  rw [show ((a.toNat:Nat):Int)=a by omega]
  exact as3 as_dflt (.refl _) (.refl _)
 refine iff_dec (fun h=>?_) (fun h=>fun _=>?_)
 ·exact ret 0 3 (by unfold rdTerm; rw [if_pos (by omega)]; rfl) (Int.le_refl 0)
 have hs:s.size≤1048576:=by omega
 have e0:rdTerm s vs=if vs.all (fun v=>nameOk v false)=false then (Tm.mk bz false [],0,4) else rdOut s (pTerm s vs (2*s.size+2) ⟨0,none⟩):=by
  unfold rdTerm; rw [if_neg (by omega)]
 have hl:=encN_length vs
 rw [hl]
 refine Znq Q s (encN vs) (encN vs) _ _ vs.length (by rw [← hl]; assumption) (fun k=>(vs.take k).all (fun v=>nameOk v false)=true) (fun k hk hJ K hK=>?_) (fun hJ=>?_) 0 (Nat.zero_le _) rfl
 ·simp only [encN_getD _ k hk,List.drop_zero,List.headD_cons]
  refine ⟨by omega,by rw [hl]; omega,r01_IsName_ok _ _ _ ⟨rfl,rfl,iff_not (iff_intro (fun h2=>hK ?_) (fun h2=>?_))⟩⟩
  ·rw [List.take_succ_eq_append_getElem hk,List.all_append,hJ,List.all_cons,List.all_nil]
   have h2:nameOk vs[k] false=true:=h2
   rw [h2]; rfl
  ·have h2:nameOk vs[k] false=false:=h2
   refine ret 0 4 ?_ (Int.le_refl 0)
   rw [e0,if_pos]
   ·rfl
   ·rw [← Bool.not_eq_true,List.all_eq_true]
    intro hall
    have:=hall _ (List.getElem_mem hk)
    rw [h2] at this; cases this
 ·rw [List.take_length] at hJ
  rw [if_neg (by rw [hJ]; exact fun h=>by cases h)] at e0
  refine term_ok hs vs (2*s.size+2) ⟨0,none⟩ (Nat.zero_le _) (by show 2*(s.size - 0)+1≤_; omega) _ ⟨rfl,rfl,?_⟩
  obtain ⟨t1,t2,t3⟩:=(parse_size hs vs (2*s.size+2)).1 ⟨0,none⟩ (Nat.zero_le _)
  generalize pTerm s vs (2*s.size+2) ⟨0,none⟩=tq at e0 t1 t2 t3 ⊢
  obtain ⟨t,q⟩:=tq
  unfold rdOut at e0
  dsimp only at e0 t1 t2 t3
  refine close_ok hs vs q t1 ⟨rfl,rfl,?_⟩
  show iff (decide (badI (q.close s).bad≥0)) _ _
  refine iff_dec (fun h2=>?_) (fun h2=>?_) <;> rw [badI_ge] at h2
  ·cases hb:(q.close s).bad with
   | none=>exact absurd hb h2
   | some b =>
    rw [hb] at e0
    have hr:=ret (b:Int) 4 (by rw [e0]; simp) (by omega)
    rw [show (b:Int)=badI (q.close s).bad by rw [hb]; rfl] at hr
    exact hr
  ·have hb:(q.close s).bad=none:=Decidable.not_not.1 h2
   rw [hb] at e0
   dsimp only at e0
   refine r01_Check_ok t (by rw [small_eq]; omega) _ ⟨rfl,rfl,iff_bne (fun h3=>?_) (fun h3=>?_)⟩
   ·have h3:t.check≠0:=h3
    rw [if_pos h3] at e0
    exact ret 0 t.check e0 (Int.le_refl 0)
   ·have h3:t.check=0:=h3
    rw [if_neg (by simp [h3])] at e0
    refine ⟨⟨⟨trivial,trivial,trivial,trivial⟩,trivial,trivial,trivial⟩,hQ _ ?_⟩
    rw [e0]
    exact .refl _
section
variable {s:ByteArray} (hs:s.size≤1048576)
include hs
theorem pDecl_pos:∀ (f:Nat) (vs:List ByteArray) (p:Ps),p.pos≤s.size→(pDecl s f vs p).2.pos≤s.size:=by
 intro f
 induction f with
 | zero=>intro vs p hp; exact hp
 | succ f ih =>
  intro vs p hp
  rw [pDecl]
  dsimp only
  split
  ·exact hp
  ·split
   ·exact (may_pos hs p hp rparB).1
   ·split
    ·exact ih _ _ (nextT_size s hp).1
    ·exact hp
theorem declare_ok:∀ (f:Nat) (vs:List ByteArray) (p:Ps),p.pos≤s.size→s.size - p.pos+1≤f→vs.length+(s.size - p.pos)≤1048576→∀ Q:D→Heap→Prop,
  Q (.tup []) (psO s (pDecl s f vs p).1 (pDecl s f vs p).2)→cl ZdC [pD] (psO s vs p) Q:=by
 intro f vs p hp hf hv Q hQ
 refine ZhF _ _ _ _ _ _ ?_
 unfold ZeU
 refine Zgf Q (fun h0 h1 n h3 row=>h0=V.s s∧∃ (vs:List ByteArray) (p:Ps) (f:Nat),h1=p.pos∧n=vs.length∧h3=V.i (badI p.bad)∧row=encN vs∧p.pos≤s.size∧(p.bad=none→s.size - p.pos+1≤f)∧vs.length+(s.size - p.pos)≤1048576∧Q (.tup []) (psO s (pDecl s f vs p).1 (pDecl s f vs p).2))
  (fun h0 h1 n h3 row=>s.size - h1.toNat) ?_ _ _ _ _ _ ⟨rfl,vs,p,f,rfl,rfl,rfl,rfl,hp,fun _=>hf,hv,hQ⟩
 rintro h0 h1 n h3 row ⟨rfl,vs,p,f,rfl,rfl,rfl,rfl,hp,hf,hv,hQ⟩ M ih
 unfold ZbM
 show iff (decide (badI p.bad<0)) _ _
 refine iff_dec (fun hb=>?_) (fun hb=>⟨trivial,?_⟩) <;> rw [badI_neg] at hb
 rotate_left
 ·cases f with
  | zero=>exact hQ
  | succ f=>rw [pDecl,if_pos hb] at hQ; exact hQ
 have hf:=hf hb
 obtain ⟨f,rfl⟩:∃ g,f=g+1:=⟨f - 1,by omega⟩
 rw [pDecl,if_neg (by simp [hb])] at hQ
 dsimp only at hQ
 refine may_o_ok hs vs p hp rparB ⟨rfl,rfl,iff_not (iff_intro (fun hm=>⟨trivial,?_⟩) (fun hm=>?_))⟩
 ·have hm:(p.may s rparB).1=true:=hm
  rw [if_pos hm] at hQ; exact hQ
 have hm:(p.may s rparB).1=false:=hm
 rw [if_neg (by rw [hm]; exact Bool.false_ne_true)] at hQ
 rw [may_false hm,Zga]
 refine ⟨.tup [sD (nextT s p.pos).1,iD (nextT s p.pos).2],(r02_Next_ok s p.pos hs hp).here rfl,?_⟩
 have hsz:=nextT_size s hp
 refine r02_isName_ok _ _ ⟨rfl,rfl,iff_not (iff_intro (fun h=>?_) (fun h=>?_))⟩
 rotate_left
 ·have h:nameTok (nextT s p.pos).1=false:=h
  rw [if_neg (by rw [h]; exact Bool.false_ne_true)] at hQ
  exact fail_o_ok s vs p _ ⟨rfl,rfl,trivial,hQ⟩
 have h:nameTok (nextT s p.pos).1=true:=h
 refine r01_IsName_ok _ _ _ ⟨rfl,rfl,iff_not (iff_intro (fun h2=>?_) (fun h2=>?_))⟩
 rotate_left
 ·have h2:nameOk (nextT s p.pos).1 false=false:=h2
  rw [if_neg (by rw [h,h2]; exact Bool.false_ne_true)] at hQ
  exact fail_o_ok s vs p _ ⟨rfl,rfl,trivial,hQ⟩
 have h2:nameOk (nextT s p.pos).1 false=true:=h2
 rw [if_pos (by rw [h,h2]; rfl)] at hQ
 have h1:(nextT s p.pos).1.size≠0:=by
  unfold nameTok at h
  rw [Bool.and_eq_true,decide_eq_true_iff] at h
  exact h.1
 rw [Zf0]
 refine ⟨encN_length vs,by show vs.length+1≤lim; unfold lim; omega,fun _=>?_⟩
 show Zaf Q M _ (IntKind.i64.wrap (((nextT s p.pos).2:Int)+((nextT s p.pos).1.size:Int))) _ _ _
 rw [wrap_in _ (by omega) (by omega)]
 refine ih _ _ _ _ _ ⟨rfl,vs++[(nextT s p.pos).1],⟨(nextT s p.pos).2+(nextT s p.pos).1.size,p.bad⟩,f,rfl,by rw [List.length_append]; rfl,rfl,by rw [encN_append]; rfl,hsz.1,fun _=>by dsimp only; omega,by rw [List.length_append]; show vs.length+1+_≤_; dsimp only; omega,hQ⟩ ?_
 show s.size - ((((nextT s p.pos).2:Int)+((nextT s p.pos).1.size:Int))).toNat<s.size - (p.pos:Int).toNat
 omega
omit hs in
theorem pRules_bad (vs:List ByteArray) {p:Ps} (h:p.bad≠none) (g:Nat) (l:Ru):pRules s vs g l p=(l,p):=by
 cases g with
 | zero=>rfl
 | succ g=>rw [pRules,if_pos h]
end
noncomputable def sysOut (s:ByteArray) (r:Ru×Ps):Ru×Nat×Int:=match (r.2.close s).bad with
 | some b=>([],b,4)
 | none=>if sysE r.1≠0 then ([],0,sysE r.1) else (r.1,0,0)
noncomputable def rdSys (s:ByteArray):Ru×Nat×Int :=
 if 20000<s.size then ([],0,3) else sysOut s (pRules s (pHead s).1 (s.size+1) [] (pHead s).2)
theorem as_nilRs:As .nil (ruD []):=.nil _ _ rfl
theorem rulesLoop_ok {s:ByteArray} (hs:s.size≤20000) (vs:List ByteArray) (p:Ps) (hp:p.pos≤s.size) {Q:D→Heap→Prop}
  (hQ:∀ r0,As r0 (.tup [ruD (sysOut s (pRules s vs (s.size+1) [] p)).1,iD (sysOut s (pRules s vs (s.size+1) [] p)).2.1,iD (sysOut s (pRules s vs (s.size+1) [] p)).2.2])→Q r0 []) :
  ∃ m0,ZcQ Q m0 0 (.s s) (.i p.pos) (.l (encN vs)) (.i (badI p.bad)) []:=by
 have hs1:s.size≤1048576:=by omega
 refine Zlg Q (fun n h0 h1 h2 h3 row=>h0=V.s s∧h2=V.l (encN vs)∧∃ (l:Ru) (p:Ps) (g:Nat),n=l.length∧h1=V.i p.pos∧h3=V.i (badI p.bad)∧row=encRs l∧p.pos≤s.size∧l.length≤p.pos+1∧(p.bad=none→l.length≤p.pos)∧(p.bad=none→s.size - p.pos+1≤g)∧(∀ x∈l,x.1.size≤20001∧x.2.size≤20001) ∧
   (∀ r0,As r0 (.tup [ruD (sysOut s (pRules s vs g l p)).1,iD (sysOut s (pRules s vs g l p)).2.1,iD (sysOut s (pRules s vs g l p)).2.2])→Q r0 []))
  (fun n h0 h1 h2 h3 row=>(s.size - h1.int.toNat)+(if h3.int<0 then 1 else 0)) ?_ _ _ _ _ _ _ ⟨rfl,rfl,[],p,s.size+1,rfl,rfl,rfl,rfl,hp,Nat.zero_le _,fun _=>Nat.zero_le _,fun _=>by omega,fun x hx=>(by cases hx),hQ⟩
 clear hQ hp p
 rintro n h0 h1 h2 h3 row ⟨rfl,rfl,l,p,g,rfl,rfl,rfl,rfl,hp,hll,hll2,hg,hsz,hQ⟩ M ih
 -- the end
 have fin:∀ (l:Ru) (q:Ps),q.pos≤s.size→(∀ x∈l,x.1.size≤20001∧x.2.size≤20001)→(∀ r0,As r0 (.tup [ruD (sysOut s (l,q)).1,iD (sysOut s (l,q)).2.1,iD (sysOut s (l,q)).2.2])→Q r0 []) →
   cl ZaU [pD] (psH s vs q) fun r3 H4=>r3=(.tup [])∧H4=[.cells [.v .str (((((H4.headD .dead).cs).headD .undef).V)),.v (.int .i64) ((((((H4.headD .dead).cs).tail).headD .undef).V)),.v (.sl Za) (((((((H4.headD .dead).cs).tail).tail).headD .undef).V)),.v (.int .i64) ((((((((H4.headD .dead).cs).tail).tail).tail).headD .undef).V))]]∧iff (decide ((((((((((H4.headD .dead).cs).tail).tail).tail).headD .undef).V).int)≥(0:Int))))
    ((True∧True∧True∧True)∧Q (.tup [.nil,.v (.int .i64) ((((((((H4.headD .dead).cs).tail).tail).tail).headD .undef).V)),.v (.int .i64) (V.i 4)]) []) (l.length=(encRs l).length∧cl Zbd [.v (.sl Zd) (V.l (encRs l))] [] fun r5 H6=>r5=(.v (.int .i64) (r5.V))∧H6=[]∧iff (r5.V.int != (0:Int)) ((True∧True∧True∧True)∧Q (.tup [.nil,.v (.int .i64) (V.i 0),.v (.int .i64) (r5.V)]) []) ((True∧True∧True∧True)∧Q (.tup [.v (.sl Zd) (V.l (encRs l)),.v (.int .i64) (V.i 0),.v (.int .i64) (V.i 0)]) [])):=fun l q hq hsz hQ=>by
  unfold sysOut at hQ
  refine close_ok hs1 vs q hq ⟨rfl,rfl,?_⟩
  show iff (decide (badI (q.close s).bad≥0)) _ _
  refine iff_dec (fun h2=>⟨⟨trivial,trivial,trivial,trivial⟩,?_⟩) (fun h2=>?_) <;> rw [badI_ge] at h2
  ·cases hb:(q.close s).bad with
   | none=>exact absurd hb h2
   | some b =>
    rw [hb] at hQ
    have h3:Q (.tup [.nil,iD (badI (q.close s).bad),iD 4]) []:=hQ _ (by rw [hb]; exact as3 as_nilRs (.refl _) (.refl _))
    exact h3
  ·have hb:(q.close s).bad=none:=Decidable.not_not.1 h2
   rw [hb] at hQ
   dsimp only at hQ
   refine ⟨(encRs_length l).symm,r01_CheckSystem_ok l (fun x hx=>by have:=hsz x hx; rw [small_eq]; omega) _ ⟨rfl,rfl,iff_bne (fun h3=>⟨⟨trivial,trivial,trivial,trivial⟩,?_⟩) (fun h3=>⟨⟨trivial,trivial,trivial,trivial⟩,?_⟩)⟩⟩
   ·have h3:sysE l≠0:=h3
    rw [if_pos h3] at hQ
    exact hQ _ (as3 as_nilRs (.refl _) (.refl _))
   ·have h3:sysE l=0:=h3
    rw [if_neg (by simp [h3])] at hQ
    exact hQ _ (.refl _)
 unfold Zf4
 show iff (decide (badI p.bad<0)) _ _
 refine iff_dec (fun hb=>?_) (fun hb=>?_) <;> rw [badI_neg] at hb
 rotate_left
 ·rw [pRules_bad vs hb] at hQ
  exact fin l p hp hsz hQ
 have hg:=hg hb
 have hll2:=hll2 hb
 obtain ⟨g,rfl⟩:∃ g',g=g' + 1:=⟨g - 1,by omega⟩
 rw [pRules,if_neg (by simp [hb])] at hQ
 dsimp only at hQ
 refine may_ok hs1 vs p hp rparB ⟨rfl,rfl,iff_not (iff_intro (fun hm=>?_) (fun hm=>?_))⟩
 ·have hm:(p.may s rparB).1=true:=hm
  rw [if_pos hm] at hQ
  exact fin l _ (may_pos hs1 p hp rparB).1 hsz hQ
 have hm:(p.may s rparB).1=false:=hm
 rw [if_neg (by rw [hm]; exact Bool.false_ne_true)] at hQ
 rw [may_false hm,Zlx]
 unfold ZhT
 obtain ⟨a1,a2,a3⟩:=(parse_size hs1 vs (2*s.size+2)).1 p hp
 refine term_ok hs1 vs (2*s.size+2) p hp (by omega) _ ⟨rfl,rfl,?_⟩
 generalize pTerm s vs (2*s.size+2) p=a at a1 a2 a3 hQ ⊢
 obtain ⟨a,q1⟩:=a
 dsimp only at a1 a2 a3 hQ
 obtain ⟨k1,k2⟩:=take_pos hs1 q1 a1 arrowB
 refine take_ok hs1 vs q1 a1 arrowB ⟨rfl,rfl,?_⟩
 generalize Ps.take s q1 arrowB=q2 at k1 k2 hQ ⊢
 obtain ⟨b1,b2,b3⟩:=(parse_size hs1 vs (2*s.size+2)).1 q2 k1
 have b4:=parse_adv hs1 vs (2*s.size+1) q2 k1
 refine term_ok hs1 vs (2*s.size+2) q2 k1 (by omega) _ ⟨rfl,rfl,?_⟩
 rw [show 2*s.size+1+1=2*s.size+2 by omega] at b4
 generalize pTerm s vs (2*s.size+2) q2=b at b1 b2 b3 b4 hQ ⊢
 obtain ⟨b,q3⟩:=b
 dsimp only at b1 b2 b3 b4 hQ
 refine ⟨encRs_length l,by show l.length+1≤lim; unfold lim; omega,?_⟩
 refine ih _ _ _ _ _ _ ⟨rfl,rfl,l++[(a,b)],q3,g,by rw [List.length_append]; rfl,rfl,rfl,encRs_snoc l a b,b1,?_,fun h=>?_,fun h=>?_,fun x hx=>?_,hQ⟩ ?_
 ·rw [List.length_append]; show l.length+1≤_; omega
 ·have:=b4 h
  rw [List.length_append]; show l.length+1≤_; omega
 ·have:=b4 h
  omega
 ·rcases List.mem_append.1 hx with hx | hx
  ·exact hsz x hx
  ·have:x=(a,b):=by simpa using hx
   subst this
   exact ⟨by dsimp only; omega,by dsimp only; omega⟩
 ·show (s.size - (q3.pos:Int).toNat)+(if badI q3.bad<0 then 1 else 0)<(s.size - (p.pos:Int).toNat)+(if badI p.bad<0 then 1 else 0)
  rw [Int.toNat_natCast,Int.toNat_natCast,if_pos ((badI_neg _).2 hb)]
  split
  ·rename_i h
   have:=b4 ((badI_neg _).1 h)
   omega
  ·omega
theorem r02_System_ok (s:ByteArray):Fn Zh5 [sD s] (.tup [ruD (rdSys s).1,iD (rdSys s).2.1,iD (rdSys s).2.2]):=Fn.as fun Q hQ=>by
 refine ZqC _ _ fun _=>?_
 refine iff_dec (fun h=>⟨⟨trivial,trivial,trivial,trivial⟩,hQ _ ?_⟩) (fun h=>?_)
 ·have:rdSys s=([],0,3):=by unfold rdSys; rw [if_pos (by omega)]
  rw [this]
  exact as3 as_nilRs (.refl _) (.refl _)
 have hs2:s.size≤20000:=by omega
 have hs:s.size≤1048576:=by omega
 have e0:rdSys s=sysOut s (pRules s (pHead s).1 (s.size+1) [] (pHead s).2):=by unfold rdSys; rw [if_neg (by omega)]
 rw [e0] at hQ
 clear e0
 unfold pHead at hQ
 dsimp only at hQ
 have h0:(⟨0,none⟩:Ps).pos≤s.size:=Nat.zero_le _
 refine take_o_ok hs [] ⟨0,none⟩ h0 lparB ⟨rfl,rfl,?_⟩
 obtain ⟨k1,k2⟩:=take_pos hs ⟨0,none⟩ h0 lparB
 generalize Ps.take s ⟨0,none⟩ lparB=p1 at hQ k1 k2 ⊢
 -- behind the variables
 have next:∀ (vs:List ByteArray) (p2:Ps),p2.pos≤s.size→(∀ r0,As r0 (.tup [ruD (sysOut s (pRules s vs (s.size+1) [] (p2.take s rulesB))).1,iD (sysOut s (pRules s vs (s.size+1) [] (p2.take s rulesB))).2.1,iD (sysOut s (pRules s vs (s.size+1) [] (p2.take s rulesB))).2.2])→Q r0 []) →
   Zew Q (.s s) (.i p2.pos) vs.length (.i (badI p2.bad)) (encN vs):=fun vs p2 hp2 hQ=>by
  rw [ZlE]
  obtain ⟨t1,t2⟩:=take_pos hs p2 hp2 rulesB
  exact ⟨(encN_length vs).symm,take_ok hs vs p2 hp2 rulesB ⟨rfl,rfl,rulesLoop_ok hs2 vs _ t1 hQ⟩⟩
 refine may_o_ok hs [] p1 k1 varB ⟨rfl,rfl,iff_intro (fun hm=>?_) (fun hm=>?_)⟩
 ·have hm:(p1.may s varB).1=true:=hm
  rw [if_pos hm,if_pos hm] at hQ
  obtain ⟨m1,m2⟩:=may_pos hs p1 k1 varB
  have hd:=pDecl_pos hs (s.size+1) [] (p1.may s varB).2 m1
  refine declare_ok hs (s.size+1) [] (p1.may s varB).2 m1 (by omega) (by simp; omega) _ ⟨rfl,rfl,?_⟩
  generalize pDecl s (s.size+1) [] (p1.may s varB).2=d at hQ hd ⊢
  obtain ⟨vs,q⟩:=d
  dsimp only at hQ hd
  exact take_o_ok hs vs q hd lparB ⟨rfl,rfl,next vs _ (take_pos hs q hd lparB).1 hQ⟩
 ·have hm:(p1.may s varB).1=false:=hm
  rw [if_neg (by rw [hm]; exact Bool.false_ne_true),if_neg (by rw [hm]; exact Bool.false_ne_true)] at hQ
  rw [may_false hm]
  exact next [] p1 k1 hQ
end Go.Proofs.YthjlodlkpgjlkaaGreat
namespace Go.Proofs.YthjlodlkpgjlkaaGreat
open Go Go.Abs
namespace Tm
mutual
def fitF (l:Fls):Tm→Bool | mk n v xs=>v||((keptF l n xs.length).all (fun k=>decide (k≤(xs.length:Int)))&&fitFL l xs)
def fitFL (l:Fls):List Tm→Bool | []=>true | a::r=>fitF l a&&fitFL l r
end
theorem fitF_eq (l:Fls):∀ t:Tm,fitF l t=(t.var||((keptF l t.name t.args.length).all (fun k=>decide (k≤(t.args.length:Int)))&&fitFL l t.args)) | mk _ _ _=>rfl
theorem fitFL_all (l:Fls):∀ r:List Tm,fitFL l r=r.all (fitF l)
 | []=>rfl
 | a::r=>by rw [fitFL,List.all_cons,fitFL_all l r]
def selF (l:Fls) (n:ByteArray) (ys:List Tm):Tm :=
 if (entF l n ys.length).only > 0 then ys.getD ((entF l n ys.length).only.toNat - 1) dflt
 else mk n false ((entF l n ys.length).keep.map fun k=>ys.getD (k.toNat - 1) dflt)
mutual
def ftm (l:Fls):Tm→Tm | mk n v xs=>if v then mk n true [] else selF l n (ftmL l xs)
def ftmL (l:Fls):List Tm→List Tm | []=>[] | a::r=>ftm l a::ftmL l r
end
theorem ftm_eq (l:Fls):∀ t:Tm,ftm l t=if t.var then mk t.name true [] else selF l t.name (ftmL l t.args) | mk _ _ _=>rfl
theorem ftmL_map (l:Fls):∀ r:List Tm,ftmL l r=r.map (ftm l)
 | []=>rfl
 | a::r=>by rw [ftmL,List.map_cons,ftmL_map l r]
theorem ftmL_length (l:Fls) (r:List Tm):(ftmL l r).length=r.length:=by rw [ftmL_map,List.length_map]
theorem ftmL_getD (l:Fls) (r:List Tm) (k:Nat) (h:k<r.length):(ftmL l r).getD k dflt=ftm l r[k]:=by
 rw [ftmL_map,List.getD_eq_getElem?_getD,List.getElem?_map,List.getElem?_eq_getElem h]; rfl
mutual
def remN (l:Fls):Tm→List ByteArray | mk n v xs=>if v then [] else n::(keptF l n xs.length).flatMap fun k=>(remNL l xs).getD (k.toNat - 1) []
def remNL (l:Fls):List Tm→List (List ByteArray) | []=>[] | a::r=>remN l a::remNL l r
end
theorem remN_eq (l:Fls):∀ t:Tm,remN l t=if t.var then [] else t.name::(keptF l t.name t.args.length).flatMap fun k=>(remNL l t.args).getD (k.toNat - 1) [] | mk _ _ _=>rfl
theorem remNL_map (l:Fls):∀ r:List Tm,remNL l r=r.map (remN l)
 | []=>rfl
 | a::r=>by rw [remNL,List.map_cons,remNL_map l r]
theorem remNL_getD (l:Fls) (r:List Tm) (k:Nat) (h:k<r.length):(remNL l r).getD k []=remN l r[k]:=by
 rw [remNL_map,List.getD_eq_getElem?_getD,List.getElem?_map,List.getElem?_eq_getElem h]; rfl
end Tm
theorem flBad_false {x:Fl} (h:flBad x=false):¬ x.only<0∧¬ x.only > 8∧(x.only > 0→x.keep=[])∧keepOk x.keep=true:=by
 unfold flBad at h
 simp only [Bool.or_eq_false_iff,Bool.and_eq_false_iff,decide_eq_false_iff_not,Bool.not_eq_false'] at h
 obtain ⟨⟨⟨h1,h2⟩,h3⟩,h4⟩:=h
 refine ⟨h1,h2,fun h5=>?_,h4⟩
 rcases h3 with h3 | h3
 ·exact absurd h5 h3
 ·exact List.eq_nil_of_length_eq_zero (by omega)
theorem flErr_zero {l:Fls} (h:flErr l=0):l.length≤256∧namesOk true (flNames l)=true∧∀ x∈l,flBad x=false:=by
 unfold flErr at h
 split at h
 ·rename_i h1; exact absurd h h1
 ·rename_i h1
  have h1:=namesErr_zero (Decidable.not_not.1 h1)
  split at h
  ·cases h
  ·rename_i h2
   refine ⟨by have:(flNames l).length=l.length:=(by simp [flNames]); omega,h1.2,fun x hx=>?_⟩
   have h2:l.any flBad=false:=by simpa using h2
   have:=List.any_eq_false.1 h2 x hx
   simpa using this
theorem keep_range {p:List Int} (h:keepOk p=true):∀ k∈p,1≤k∧k≤8:=fun k hk=>by
 obtain ⟨i,hi,rfl⟩:=List.mem_iff_getElem.1 hk
 have:=keepOk_at h hi
 unfold keepAt at this
 rw [List.getD_eq_getElem?_getD,List.getElem?_eq_getElem hi] at this
 simp only [Option.getD_some,Bool.and_eq_true,decide_eq_true_iff] at this
 exact ⟨this.1.1,this.1.2⟩
theorem keep_len {p:List Int} (h:keepOk p=true):p.length≤8:=by
 have key:∀ i (hi:i<p.length),(i:Int)+1≤p[i]:=by
  intro i
  induction i with
  | zero=>intro hi; have:=(keep_range h _ (List.getElem_mem hi)).1; omega
  | succ i ih =>
   intro hi
   have h1:=ih (by omega)
   have:=keepOk_at h hi
   unfold keepAt at this
   rw [List.getD_eq_getElem?_getD,List.getElem?_eq_getElem hi,List.getD_eq_getElem?_getD,show i+1 - 1=i by omega,List.getElem?_eq_getElem (show i<p.length by omega)] at this
   simp only [Option.getD_some,Bool.and_eq_true,Bool.or_eq_true,decide_eq_true_iff] at this
   rcases this.2 with h2 | h2 <;> omega
 rcases Nat.lt_or_ge 8 p.length with h1 | h1
 ·have h2:=key 8 h1
  have:=(keep_range h _ (List.getElem_mem h1)).2
  omega
 ·exact h1
theorem mem_allTo {n:Nat} {k:Int}:k∈allTo n↔1≤k∧k≤n:=by
 unfold allTo
 rw [List.mem_map]
 constructor
 ·rintro ⟨i,hi,rfl⟩
  have:=List.mem_range.1 hi
  omega
 ·rintro ⟨h1,h2⟩
  exact ⟨(k - 1).toNat,List.mem_range.2 (by omega),by omega⟩
theorem entF_cases {l:Fls} (hv:∀ x∈l,flBad x=false) (x:ByteArray) (n:Nat):entF l x n=⟨x,0,allTo n⟩∨flBad (entF l x n)=false:=by
 unfold entF
 cases h:l.find? fun y=>decide (y.name=x) with
 | none=>exact .inl rfl
 | some y=>exact .inr (hv y (List.mem_of_find?_eq_some h))
theorem keptF_pos {l:Fls} (hv:∀ x∈l,flBad x=false) (x:ByteArray) (n:Nat):(∀ k∈keptF l x n,1≤k)∧(keptF l x n).length≤n+8:=by
 unfold keptF
 rcases entF_cases hv x n with h | h
 ·rw [h,if_neg (by simp)]
  exact ⟨fun k hk=>(mem_allTo.1 hk).1,by simp [allTo]⟩
 ·obtain ⟨h1,h2,h3,h4⟩:=flBad_false h
  split
  ·rename_i h5
   exact ⟨fun k hk=>by have:k=(entF l x n).only:=(by simpa using hk); omega,by simp⟩
  ·exact ⟨fun k hk=>(keep_range h4 k hk).1,by have:=keep_len h4; omega⟩
section
variable {l:Fls} (hv:∀ x∈l,flBad x=false)
include hv
theorem r11_Fits_ok:∀ t:Tm,t.size≤1048576→Fn Zde [flsD l,tD t] (bD (Tm.fitF l t)):=Tm.ind fun t ih hB Q hQ=>by
 refine Zrm _ _ _ _ _ ?_
 unfold ZnH
 rw [Tm.fitF_eq] at hQ
 refine iff_intro (fun h=>⟨trivial,?_⟩) (fun h=>?_)
 ·rw [h] at hQ; exact hQ
 rw [h,Bool.false_or] at hQ
 have hs:=Tm.size_eq t
 have hls:=Tm.length_sizeL t.args
 have hl:=Tm.encL_length t.args
 have hkl:=(keptF_pos hv t.name t.args.length).2
 refine r11_kept_ok l t (by omega) _ ⟨rfl,rfl,?_⟩
 show (encP (keptF l t.name t.args.length)).length≤big→∃ m0,Zdc Q m0 _ _ ((encP (keptF l t.name t.args.length)).length:Int) 0 _ _ _
 rw [encP_length]
 intro hb
 generalize keptF l t.name t.args.length=ks at hQ hb
 refine Zmn Q _ _ _ _ _ _ hb (fun k=>(ks.take k).all (fun k=>decide (k≤(t.args.length:Int)))=true) (fun k hk hJ K hK=>?_) (fun hJ=>?_) 0 (Nat.zero_le _) rfl
 ·have hg:(psD ks).V.list.getD k []=[V.i ks[k]]:=encP_getD _ k hk
  simp only [hg,List.drop_zero,List.headD_cons]
  refine ⟨by omega,by show (k:Int)<((encP ks).length:Int); rw [encP_length]; omega,fun _=>?_⟩
  rw [hl]
  refine iff_dec (fun h1=>⟨trivial,?_⟩) (fun h1=>hK (all_take hk hJ (decide_eq_true ?_)))
  ·have h1:ks[k] > (t.args.length:Int):=h1
   rw [all_not hk (decide_eq_false (show ¬ ks[k]≤(t.args.length:Int) by omega))] at hQ
   exact hQ
  ·have h1:¬ ks[k] > (t.args.length:Int):=h1
   omega
 ·rw [List.take_length] at hJ
  rw [hJ,Bool.true_and,Tm.fitFL_all] at hQ
  intro hb2
  rw [hl] at hb2 ⊢
  refine ZmI Q _ _ _ hb2 (fun k=>(t.args.take k).all (Tm.fitF l)=true) (fun k hk hJ K hK=>?_) (fun hJ=>⟨trivial,?_⟩) 0 (Nat.zero_le _) rfl
  ·simp only [Tm.encL_getD _ k hk,Tm.enc_eq,List.drop_zero,List.headD_cons,List.tail_cons]
   have:=Tm.size_mem (List.getElem_mem hk)
   refine ⟨by omega,by omega,ih _ (List.getElem_mem hk) (by omega) _ ⟨rfl,rfl,iff_not (iff_intro (fun h=>hK (all_take hk hJ h)) (fun h=>⟨trivial,?_⟩))⟩⟩
   rw [all_not hk h] at hQ; exact hQ
  ·rw [List.take_length] at hJ
   rw [hJ] at hQ; exact hQ
theorem r11_Term_ok:∀ t:Tm,t.formed=true→t.size≤1048576→Tm.fitF l t=true→Fn ZfU [flsD l,tD t] (tD (Tm.ftm l t)):=Tm.ind fun t ih hf hB hfit Q hQ=>by
 refine Zrk _ _ _ _ _ ?_
 unfold Zoj
 have hfe:=Tm.formed_eq t
 rw [hf] at hfe
 rw [Tm.fitF_eq] at hfit
 rw [Tm.ftm_eq] at hQ
 refine iff_intro (fun h=>⟨⟨trivial,trivial,trivial,trivial⟩,?_⟩) (fun h=>fun _=>?_)
 ·have h:t.var=true:=h
  rw [if_pos h] at hfe hQ
  have h0:t.args=[]:=by
   have:=hfe.symm
   rw [Bool.and_eq_true,List.isEmpty_iff] at this
   exact this.2
  rw [h0,h]; exact hQ
 have h:t.var=false:=h
 rw [if_neg (by simp [h])] at hfe hQ
 rw [h,Bool.false_or,Bool.and_eq_true] at hfit
 obtain ⟨hfk,hfa⟩:=hfit
 rw [Tm.fitFL_all] at hfa
 have hfo:∀ a∈t.args,a.formed=true:=by
  have:=hfe.symm
  rw [Bool.and_eq_true] at this
  exact List.all_eq_true.1 this.2
 have hs:=Tm.size_eq t
 have hls:=Tm.length_sizeL t.args
 have hl:=Tm.encL_length t.args
 rw [hl]
 obtain ⟨hk1,hk2⟩:=keptF_pos hv t.name t.args.length
 have hkall:=List.all_eq_true.1 hfk
 unfold Tm.selF at hQ
 rw [Tm.ftmL_length] at hQ
 refine r11_Entry_ok l t.name _ (by omega) _ ⟨rfl,rfl,iff_dec (fun h1=>?_) (fun h1=>?_)⟩
 ·have h1:(entF l t.name t.args.length).only > 0:=h1
  rw [if_pos h1] at hQ
  have hkf:keptF l t.name t.args.length=[(entF l t.name t.args.length).only]:=by unfold keptF; rw [if_pos h1]
  have h2:(entF l t.name t.args.length).only≤(t.args.length:Int):=by
   have:=hkall (entF l t.name t.args.length).only (by rw [hkf]; simp)
   simpa using this
  obtain ⟨o,ho⟩:∃ o,(entF l t.name t.args.length).only=o:=⟨_,rfl⟩
  rw [ho] at h1 h2 hQ
  have hi:o.toNat - 1<t.args.length:=by omega
  have e2:IntKind.i64.wrap ((((flD (entF l t.name t.args.length)).cells.tail.headD D.undef).V).int - 1)=((o.toNat - 1:Nat):Int):=by
   show IntKind.i64.wrap ((entF l t.name t.args.length).only - 1)=_
   rw [ho,wrap_in _ (by omega) (by omega)]
   omega
  simp only [e2,Int.toNat_natCast]
  rw [Tm.ftmL_getD _ _ _ hi] at hQ
  have hin:=List.getElem_mem hi
  have:=Tm.size_mem hin
  simp only [Tm.encL_getD _ _ hi,Tm.enc_eq,List.drop_zero,List.headD_cons,List.tail_cons]
  exact ⟨by omega,by omega,ih _ hin (hfo _ hin) (by omega) (List.all_eq_true.1 hfa _ hin) _ ⟨rfl,rfl,⟨trivial,trivial,trivial,trivial⟩,hQ⟩⟩
 ·have h1:¬ (entF l t.name t.args.length).only > 0:=h1
  rw [if_neg h1] at hQ
  have hkf:keptF l t.name t.args.length=(entF l t.name t.args.length).keep:=by unfold keptF; rw [if_neg h1]
  rw [← hkf] at hQ
  refine r11_kept_ok l t (by omega) _ ⟨rfl,rfl,?_⟩
  show (encP (keptF l t.name t.args.length)).length≤big→∃ m0,Zdj Q m0 _ _ ((encP (keptF l t.name t.args.length)).length:Int) 0 _ _ _ _ _ _ _ _ _
  rw [encP_length]
  generalize keptF l t.name t.args.length=ks at hQ hk1 hk2 hkall
  intro hb
  refine Zml Q _ _ _ _ _ _ _ _ _ _ hb (fun k n y=>y=Tm.encL ((ks.take k).map fun k=>(Tm.ftmL l t.args).getD (k.toNat - 1) Tm.dflt)∧n=y.length) (fun k n y hk hJ K hK=>?_) (fun n y hJ=>?_) 0 _ _ (Nat.zero_le _) ⟨rfl,rfl⟩
  ·obtain ⟨rfl,rfl⟩:=hJ
   have hg:(psD ks).V.list.getD k []=[V.i ks[k]]:=encP_getD _ k hk
   have hin0:=List.getElem_mem hk
   have g1:=hk1 _ hin0
   have g2:ks[k]≤(t.args.length:Int):=by simpa using hkall _ hin0
   simp only [hg,List.drop_zero,List.headD_cons]
   have e2:IntKind.i64.wrap ((V.i ks[k]).int - 1)=((ks[k].toNat - 1:Nat):Int):=by
    show IntKind.i64.wrap (ks[k] - 1)=_
    rw [wrap_in (ks[k] - 1) (by omega) (by omega)]
    omega
   simp only [e2,Int.toNat_natCast]
   have hi:ks[k].toNat - 1<t.args.length:=by omega
   have hin:=List.getElem_mem hi
   have:=Tm.size_mem hin
   simp only [Tm.encL_getD _ _ hi,Tm.enc_eq,List.drop_zero,List.headD_cons,List.tail_cons]
   refine ⟨by omega,by show (k:Int)<((encP ks).length:Int); rw [encP_length]; omega,by omega,by omega,tD (Tm.ftm l t.args[ks[k].toNat - 1]),(ih _ hin (hfo _ hin) (by omega) (List.all_eq_true.1 hfa _ hin)).here rfl,trivial,?_,hK _ _ ⟨?_,?_⟩⟩
   ·show (Tm.encL _).length+1≤lim
    rw [Tm.encL_length,List.length_map,List.length_take]; unfold lim; omega
   ·rw [List.take_succ_eq_append_getElem hk,List.map_append,List.map_singleton,Tm.ftmL_getD _ _ _ hi]
    exact encL_snoc _ _
   ·first | (rw [List.length_append]; done) | (rw [List.length_append]; rfl)
  ·obtain ⟨rfl,rfl⟩:=hJ
   rw [List.take_length]
   exact ⟨⟨trivial,trivial,rfl,trivial⟩,hQ⟩
theorem r11_remaining_ok:∀ t:Tm,t.size≤1048576→Tm.fitF l t=true→∀ met:List ByteArray,met.length+(Tm.remN l t).length≤274877906944→∀ Q:D→Heap→Prop,
  (∀ met':List ByteArray,(∀ x,x∈met'↔x∈met∨x∈Tm.remN l t)→met'.length≤met.length+(Tm.remN l t).length→Q (nsD met') [])→cl ZaM [flsD l,tD t,nsD met] [] Q:=Tm.ind fun t ih hB hfit met hm Q hQ=>by
 refine Zod _ _ _ _ _ _ ?_
 unfold Zht
 rw [Tm.fitF_eq] at hfit
 rw [Tm.remN_eq] at hQ hm
 refine iff_intro (fun h=>⟨trivial,?_⟩) (fun h=>?_)
 ·have h:t.var=true:=h
  rw [if_pos h] at hQ
  exact hQ met (fun x=>by simp) (by simp)
 have h:t.var=false:=h
 rw [if_neg (by simp [h])] at hQ hm
 rw [h,Bool.false_or,Bool.and_eq_true] at hfit
 obtain ⟨hfk,hfa⟩:=hfit
 rw [Tm.fitFL_all] at hfa
 have hs:=Tm.size_eq t
 have hls:=Tm.length_sizeL t.args
 have hl:=Tm.encL_length t.args
 obtain ⟨hk1,hk2⟩:=keptF_pos hv t.name t.args.length
 have hkall:=List.all_eq_true.1 hfk
 rw [List.length_cons] at hm
 refine r01_Insert_ok met t.name (by unfold lim; omega) _ ⟨rfl,rfl,r11_kept_ok l t (by omega) _ ⟨rfl,rfl,?_⟩⟩
 show (encP (keptF l t.name t.args.length)).length≤big→∃ m0,ZaQ Q m0 _ _ _ ((encP (keptF l t.name t.args.length)).length:Int) 0 _ _ _
 rw [encP_length]
 generalize keptF l t.name t.args.length=ks at hQ hk1 hk2 hkall hm
 intro hb
 refine ZhY Q _ _ _ _ _ _ hb (fun k x=>∃ m:List ByteArray,x=V.l (encN m)∧(∀ y,y∈m↔y∈met∨y=t.name∨y∈(ks.take k).flatMap fun k=>(Tm.remNL l t.args).getD (k.toNat - 1) [])∧m.length≤met.length+1+((ks.take k).flatMap fun k=>(Tm.remNL l t.args).getD (k.toNat - 1) []).length) (fun k x hk hJ K hK=>?_) (fun x hJ=>?_) 0 _ (Nat.zero_le _) ⟨insN met t.name,rfl,fun y=>?_,?_⟩
 ·obtain ⟨m,rfl,hmem,hlen⟩:=hJ
  have hg:(psD ks).V.list.getD k []=[V.i ks[k]]:=encP_getD _ k hk
  have hin0:=List.getElem_mem hk
  have g1:=hk1 _ hin0
  have g2:ks[k]≤(t.args.length:Int):=by simpa using hkall _ hin0
  simp only [hg,List.drop_zero,List.headD_cons]
  have e2:IntKind.i64.wrap ((V.i ks[k]).int - 1)=((ks[k].toNat - 1:Nat):Int):=by
   show IntKind.i64.wrap (ks[k] - 1)=_
   rw [wrap_in (ks[k] - 1) (by omega) (by omega)]
   omega
  simp only [e2,Int.toNat_natCast]
  have hi:ks[k].toNat - 1<t.args.length:=by omega
  have hin:=List.getElem_mem hi
  have:=Tm.size_mem hin
  have hsu:((ks.take (k+1)).flatMap fun k=>(Tm.remNL l t.args).getD (k.toNat - 1) [])=((ks.take k).flatMap fun k=>(Tm.remNL l t.args).getD (k.toNat - 1) [])++Tm.remN l t.args[ks[k].toNat - 1]:=by
   rw [List.take_succ_eq_append_getElem hk,List.flatMap_append,List.flatMap_cons,List.flatMap_nil,List.append_nil,Tm.remNL_getD _ _ _ hi]
  have htot:((ks.take (k+1)).flatMap fun k=>(Tm.remNL l t.args).getD (k.toNat - 1) []).length≤(ks.flatMap fun k=>(Tm.remNL l t.args).getD (k.toNat - 1) []).length:=by
   have:ks.flatMap (fun k=>(Tm.remNL l t.args).getD (k.toNat - 1) [])=((ks.take (k+1)).flatMap fun k=>(Tm.remNL l t.args).getD (k.toNat - 1) [])++(ks.drop (k+1)).flatMap fun k=>(Tm.remNL l t.args).getD (k.toNat - 1) []:=by
    rw [← List.flatMap_append,List.take_append_drop]
   rw [this,List.length_append]; omega
  rw [hsu,List.length_append] at htot
  simp only [Tm.encL_getD _ _ hi,Tm.enc_eq,List.drop_zero,List.headD_cons,List.tail_cons]
  refine ⟨by omega,by show (k:Int)<((encP ks).length:Int); rw [encP_length]; omega,by omega,by omega,ih _ hin (by omega) (List.all_eq_true.1 hfa _ hin) m (by omega) _ fun m' hm1 hm2=>⟨rfl,rfl,hK _ ⟨m',rfl,fun y=>?_,?_⟩⟩⟩
  ·rw [hm1,hmem,hsu,List.mem_append]
   constructor
   ·rintro ((h | h | h) | h)
    ·exact .inl h
    ·exact .inr (.inl h)
    ·exact .inr (.inr (.inl h))
    ·exact .inr (.inr (.inr h))
   ·rintro (h | h | h | h)
    ·exact .inl (.inl h)
    ·exact .inl (.inr (.inl h))
    ·exact .inl (.inr (.inr h))
    ·exact .inr h
  ·rw [hsu,List.length_append]; omega
 ·obtain ⟨m,rfl,hmem,hlen⟩:=hJ
  rw [List.take_length] at hmem hlen
  refine ⟨trivial,hQ m (fun x=>?_) (by rw [List.length_cons]; omega)⟩
  rw [hmem,List.mem_cons]
 ·rw [insN_mem]
  simp only [List.take_zero,List.flatMap_nil,List.not_mem_nil,or_false]
  exact or_comm
 ·have:=insN_length met t.name
  simp only [List.take_zero,List.flatMap_nil,List.length_nil]; omega
end
end Go.Proofs.YthjlodlkpgjlkaaGreat
namespace Go.Proofs.YthjlodlkpgjlkaaGreat
open Go Go.Abs
theorem keepOk_inc {p:List Int} (h:keepOk p=true):p.Pairwise (· < ·):=by
 have step:∀ i (hi:i+1<p.length),p[i]<p[i+1]:=fun i hi=>by
  have:=keepOk_at h hi
  unfold keepAt at this
  rw [List.getD_eq_getElem?_getD,List.getElem?_eq_getElem hi,List.getD_eq_getElem?_getD,show i+1 - 1=i by omega,List.getElem?_eq_getElem (show i<p.length by omega)] at this
  simp only [Option.getD_some,Bool.and_eq_true,Bool.or_eq_true,decide_eq_true_iff] at this
  rcases this.2 with h2 | h2
  ·omega
  ·exact h2
 rw [List.pairwise_iff_getElem]
 intro i j hi hj hij
 induction j with
 | zero=>omega
 | succ j ih =>
  rcases Nat.lt_succ_iff_lt_or_eq.1 hij with h8 | rfl
  ·exact Int.lt_trans (ih (by omega) h8) (step j hj)
  ·exact step i hj
theorem allTo_inc (n:Nat):(allTo n).Pairwise (· < ·):=by
 unfold allTo
 rw [List.pairwise_map]
 exact List.pairwise_lt_range.imp fun h=>by omega
theorem keptF_inc {l:Fls} (hv:∀ x∈l,flBad x=false) (x:ByteArray) (n:Nat):(keptF l x n).Pairwise (· < ·):=by
 unfold keptF
 rcases entF_cases hv x n with h | h
 ·rw [h,if_neg (by simp)]; exact allTo_inc n
 ·obtain ⟨h1,h2,h3,h4⟩:=flBad_false h
  split
  ·simp
  ·exact keepOk_inc h4
theorem sum_kept (w:List Nat):∀ (o:Int) (ks:List Int),ks.Pairwise (· < ·)→(∀ k∈ks,o<k∧k≤o+(w.length:Int))→(ks.map fun k=>w.getD (k - o - 1).toNat 0).sum≤w.sum:=by
 induction w with
 | nil =>
  intro o ks _ h
  cases ks with
  | nil=>simp
  | cons k ks=>have:=h k (by simp); simp at this; omega
 | cons a w ih =>
  intro o ks hp h
  have rest:∀ ks:List Int,ks.Pairwise (· < ·)→(∀ k∈ks,o+1<k∧k≤o+1+(w.length:Int))→(ks.map fun k=>(a::w).getD (k - o - 1).toNat 0).sum≤w.sum:=fun ks hp h=>by
   have:=ih (o+1) ks hp h
   have e:(ks.map fun k=>(a::w).getD (k - o - 1).toNat 0)=ks.map fun k=>w.getD (k - (o+1) - 1).toNat 0:=List.map_congr_left fun k hk=>by
    have:=(h k hk).1
    rw [show (k - o - 1).toNat=(k - (o+1) - 1).toNat+1 by omega]; rfl
   rw [e]; exact this
  cases ks with
  | nil=>simp
  | cons k ks =>
   have hk:=h k (by simp)
   rw [List.pairwise_cons] at hp
   simp only [List.length_cons] at h
   rw [List.sum_cons]
   by_cases hk1:k=o+1
   ·have:=rest ks hp.2 fun k' hk'=>by
     have h1:=hp.1 k' hk'
     have h2:=h k' (by simp [hk'])
     omega
    rw [List.map_cons,List.sum_cons,show (k - o - 1).toNat=0 by omega]
    show a+_≤_
    omega
   ·have:=rest (k::ks) (List.pairwise_cons.2 hp) fun k' hk'=>by
     have h2:=h k' hk'
     rcases List.mem_cons.1 hk' with rfl | h3
     ·omega
     ·have h1:=hp.1 k' h3
      omega
    omega
theorem remN_size {l:Fls} (hv:∀ x∈l,flBad x=false):∀ t:Tm,Tm.fitF l t=true→(Tm.remN l t).length≤t.size:=Tm.ind fun t ih hfit=>by
 rw [Tm.fitF_eq] at hfit
 rw [Tm.remN_eq,Tm.size_eq]
 by_cases hvr:t.var=true
 ·rw [if_pos hvr]; simp
 have hvr:t.var=false:=by simpa using hvr
 rw [if_neg (by simp [hvr]),List.length_cons]
 rw [hvr,Bool.false_or,Bool.and_eq_true,Tm.fitFL_all] at hfit
 obtain ⟨hfk,hfa⟩:=hfit
 have hk1:=(keptF_pos hv t.name t.args.length).1
 have hkall:=List.all_eq_true.1 hfk
 have hinc:=keptF_inc hv t.name t.args.length
 generalize keptF l t.name t.args.length=ks at *
 have h1:=sum_kept ((Tm.remNL l t.args).map List.length) 0 ks hinc fun k hk=>by
  have h2:k≤(t.args.length:Int):=by simpa using hkall k hk
  have h3:=hk1 k hk
  rw [Tm.remNL_map,List.length_map,List.length_map]
  omega
 have e1:(ks.flatMap fun k=>(Tm.remNL l t.args).getD (k.toNat - 1) []).length=(ks.map fun k=>((Tm.remNL l t.args).map List.length).getD (k - 0 - 1).toNat 0).sum:=by
  rw [List.length_flatMap]
  congr 1
  refine List.map_congr_left fun k hk=>?_
  rw [show (k - 0 - 1).toNat=k.toNat - 1 by omega,List.getD_eq_getElem?_getD,List.getD_eq_getElem?_getD,List.getElem?_map]
  cases (Tm.remNL l t.args)[k.toNat - 1]? <;> rfl
 have e2:∀ xs:List Tm,(∀ a∈xs,(Tm.remN l a).length≤a.size)→((Tm.remNL l xs).map List.length).sum≤Tm.sizeL xs:=by
  intro xs
  induction xs with
  | nil=>intro _; simp [Tm.remNL]
  | cons a r ih =>
   intro h
   have h1:=h a (by simp)
   have h2:=ih fun b hb=>h b (by simp [hb])
   simp only [Tm.remNL,Tm.sizeL,List.map_cons,List.sum_cons]
   omega
 have h2:=e2 t.args fun a ha=>ih a ha (List.all_eq_true.1 hfa a ha)
 omega
inductive Use (l:Fls) (p r:Ru):ByteArray→Prop
 | base (y:Tm×Tm) (x:ByteArray):y∈p→x∈Tm.remN l y.2→Use l p r x
 | step (y:Tm×Tm) (x:ByteArray):y∈r→Use l p r y.1.name→x∈Tm.remN l y.2→Use l p r x
open Classical in
noncomputable def usIdx (l:Fls) (p r:Ru) (k:Nat):List Int:=((List.range k).filter fun i=>decide (Use l p r (r.getD i (Tm.dflt,Tm.dflt)).1.name)).map fun i:Nat=>(i:Int)
open Classical in
theorem usIdx_yes {l:Fls} {p r:Ru} {k:Nat} (hk:k<r.length) (h:Use l p r (r[k]).1.name):usIdx l p r (k+1)=usIdx l p r k++[(k:Int)]:=by
 unfold usIdx
 rw [List.range_succ,List.filter_append,List.map_append]
 congr 1
 have e:(r.getD k (Tm.dflt,Tm.dflt))=r[k]:=by rw [List.getD_eq_getElem?_getD,List.getElem?_eq_getElem hk]; rfl
 rw [List.filter_cons_of_pos (by rw [e]; exact decide_eq_true h),List.filter_nil]; rfl
open Classical in
theorem usIdx_no {l:Fls} {p r:Ru} {k:Nat} (hk:k<r.length) (h:¬ Use l p r (r[k]).1.name):usIdx l p r (k+1)=usIdx l p r k:=by
 unfold usIdx
 rw [List.range_succ,List.filter_append,List.map_append]
 have e:(r.getD k (Tm.dflt,Tm.dflt))=r[k]:=by rw [List.getD_eq_getElem?_getD,List.getElem?_eq_getElem hk]; rfl
 rw [List.filter_cons_of_neg (by rw [e]; simpa using h),List.filter_nil,List.map_nil,List.append_nil]
theorem usIdx_length (l:Fls) (p r:Ru) (k:Nat):(usIdx l p r k).length≤k:=by
 unfold usIdx
 rw [List.length_map]
 exact Nat.le_trans (List.length_filter_le _ _) (Nat.le_of_eq List.length_range)
def ClosedU (l:Fls) (r:Ru) (m:ByteArray→Prop):Prop:=∀ y∈r,m y.1.name→∀ x∈Tm.remN l y.2,m x
theorem use_of {l:Fls} {p r:Ru} {m:ByteArray→Prop} (h1:∀ x,m x→Use l p r x) (h2:∀ y∈p,∀ x∈Tm.remN l y.2,m x) (h3:ClosedU l r m) (x:ByteArray):m x↔Use l p r x:=by
 refine ⟨h1 x,fun h=>?_⟩
 induction h with
 | base y x hy hx=>exact h2 y hy x hx
 | step y x hy _ hx ih=>exact h3 y hy ih x hx
section
variable {l:Fls} (hv:∀ x∈l,flBad x=false)
include hv
theorem r11_fitRules_ok (r:Ru) (hB:∀ x∈r,x.1.size≤4000∧x.2.size≤4000):Fn Zfk [flsD l,ruD r] (bD (r.all fun x=>Tm.fitF l x.1&&Tm.fitF l x.2)):=fun Q hQ=>by
 refine ZoY _ _ _ fun hb=>?_
 have hl:=encRs_length r
 rw [hl] at hb ⊢
 refine ZiB Q _ _ _ hb (fun k=>(r.take k).all (fun x=>Tm.fitF l x.1&&Tm.fitF l x.2)=true) (fun k hk hJ K hK=>?_) (fun hJ=>⟨trivial,?_⟩) 0 (Nat.zero_le _) rfl
 ·simp only [encRs_getD _ k hk,List.drop_zero,List.headD_cons,List.tail_cons]
  have hs:=hB _ (List.getElem_mem hk)
  have no:(Tm.fitF l (r[k]).1&&Tm.fitF l (r[k]).2)=false→True∧Q (bD false) []:=fun h=>by
   rw [all_not (p:=fun x:Tm×Tm=>Tm.fitF l x.1&&Tm.fitF l x.2) hk h] at hQ
   exact ⟨trivial,hQ⟩
  refine ⟨by omega,by rw [hl]; omega,r11_Fits_ok hv (r[k]).1 (by omega) _ ⟨rfl,rfl,iff_not (iff_intro (fun h1=>r11_Fits_ok hv (r[k]).2 (by omega) _ ⟨rfl,rfl,iff_not (iff_intro (fun h2=>hK (all_take hk hJ ?_)) (fun h2=>no ?_))⟩) (fun h1=>no ?_))⟩⟩
  ·have h1:Tm.fitF l (r[k]).1=true:=h1
   have h2:Tm.fitF l (r[k]).2=true:=h2
   show (Tm.fitF l (r[k]).1&&Tm.fitF l (r[k]).2)=true
   rw [h1,h2]; rfl
  ·have h2:Tm.fitF l (r[k]).2=false:=h2
   rw [h2,Bool.and_false]
  ·have h1:Tm.fitF l (r[k]).1=false:=h1
   rw [h1,Bool.false_and]
 ·rw [List.take_length] at hJ
  rw [hJ] at hQ; exact hQ
end
def cntU (r:Ru) (m:List ByteArray):Nat:=(r.filter fun y=>hasN m y.1.name).length
theorem cntU_le (r:Ru) (m:List ByteArray):cntU r m≤r.length:=List.length_filter_le _ _
theorem cntU_grow {r:Ru} {m m':List ByteArray} (h:∀ x∈m,x∈m'):cntU r m≤cntU r m'∧(cntU r m'=cntU r m→∀ y∈r,y.1.name∈m'→y.1.name∈m):=by
 unfold cntU
 induction r with
 | nil=>simp
 | cons y r ih =>
  obtain ⟨ih1,ih2⟩:=ih
  by_cases h1:y.1.name∈m
  ·have h2:=h _ h1
   rw [List.filter_cons_of_pos (p:=fun y:Tm×Tm=>hasN m y.1.name) (hasN_iff.2 h1),List.filter_cons_of_pos (p:=fun y:Tm×Tm=>hasN m' y.1.name) (hasN_iff.2 h2),List.length_cons,List.length_cons]
   refine ⟨by omega,fun he z hz hm=>?_⟩
   rcases List.mem_cons.1 hz with rfl | hz
   ·exact h1
   ·exact ih2 (by omega) z hz hm
  ·rw [List.filter_cons_of_neg (p:=fun y:Tm×Tm=>hasN m y.1.name) (by rw [hasN_false.2 h1]; simp)]
   by_cases h2:y.1.name∈m'
   ·rw [List.filter_cons_of_pos (p:=fun y:Tm×Tm=>hasN m' y.1.name) (hasN_iff.2 h2),List.length_cons]
    exact ⟨by omega,fun he=>by omega⟩
   ·rw [List.filter_cons_of_neg (p:=fun y:Tm×Tm=>hasN m' y.1.name) (by rw [hasN_false.2 h2]; simp)]
    refine ⟨ih1,fun he z hz hm=>?_⟩
    rcases List.mem_cons.1 hz with rfl | hz
    ·exact absurd hm h2
    ·exact ih2 he z hz hm
noncomputable def useE (l:Fls) (p r:Ru):Int :=
 if flErr l≠0 then flErr l else if pairE p r≠0 then pairE p r
 else if (p.all fun x=>Tm.fitF l x.1&&Tm.fitF l x.2)=false then 10 else if (r.all fun x=>Tm.fitF l x.1&&Tm.fitF l x.2)=false then 10 else 0
noncomputable def useR (l:Fls) (p r:Ru):List Int:=if useE l p r=0 then usIdx l p r r.length else []
theorem pairE_zero {p r:Ru} (h:pairE p r=0):sysE r=0∧rules p=0:=by
 unfold pairE at h
 split at h
 ·rename_i h1; exact absurd h h1
 ·rename_i h1
  split at h
  ·rename_i h2; exact absurd h h2
  ·rename_i h2
   exact ⟨Decidable.not_not.1 h1,Decidable.not_not.1 h2⟩
theorem use_n1 {a p:Nat} (h:a≤p*4000) (h2:p≤64):a≤256000+0*256000:=by omega
theorem use_n2 {a k j:Nat} (h:a≤256000+k*256000+j*4000):a≤256000+k*256000+(j+1)*4000:=by rw [Nat.succ_mul]; exact Nat.le_trans h (by rw [← Nat.add_assoc]; exact Nat.le_add_right _ _)
theorem use_n3 {a k r:Nat} (h:a≤256000+k*256000+r*4000) (h2:r≤64):a≤256000+(k+1)*256000:=by omega
attribute [local irreducible] useE pairE flErr sysE rules
theorem r11_Rules_ok (l:Fls) (p r:Ru) (hp:∀ x∈p,x.1.size≤small∧x.2.size≤small) (hr:∀ x∈r,x.1.size≤small∧x.2.size≤small):Fn Zjf [flsD l,ruD p,ruD r] (.tup [psD (useR l p r),iD (useE l p r)]):=Fn.as fun Q hQ=>by
 refine ZqP _ _ _ _ ?_
 unfold Zmi
 have err:∀ e:Int,e≠0→useE l p r=e→(True∧True∧True)∧Q (.tup [.nil,iD e]) []:=fun e he h=>by
  refine ⟨⟨trivial,trivial,trivial⟩,hQ _ ?_⟩
  unfold useR
  rw [h,if_neg he]
  exact .pair (.nil _ _ rfl) (.refl _)
 refine r11_Check_ok l _ ⟨rfl,rfl,iff_bne (fun h=>err (flErr l) h ?_) (fun h=>?_)⟩
 ·have h:flErr l≠0:=h
  unfold useE; rw [if_pos h]
 have hf:flErr l=0:=h
 have hv:=(flErr_zero hf).2.2
 refine r10_Check_ok p r hp hr _ ⟨rfl,rfl,iff_bne (fun h=>err (pairE p r) h ?_) (fun h=>?_)⟩
 ·have h:pairE p r≠0:=h
  unfold useE; rw [if_neg (by simp [hf]),if_pos h]
 have hpe:pairE p r=0:=h
 obtain ⟨hsr,hrp⟩:=pairE_zero hpe
 have sp:=rules_small hrp
 have sr:=rules_small (sysE_rules hsr)
 have lp:=(rules_zero hrp).1
 have lr:=(rules_zero (sysE_rules hsr)).1
 have hle:encRs p=encRs p:=rfl
 refine r11_fitRules_ok hv p (fun x hx=>(sp x hx).1) _ ⟨rfl,rfl,iff_not (iff_intro (fun h1=>?_) (fun h1=>err 10 (by omega) ?_))⟩
 rotate_left
 ·have h1:(p.all fun x=>Tm.fitF l x.1&&Tm.fitF l x.2)=false:=h1
  unfold useE; rw [if_neg (by simp [hf]),if_neg (by simp [hpe]),if_pos h1]
 have h1:(p.all fun x=>Tm.fitF l x.1&&Tm.fitF l x.2)=true:=h1
 refine r11_fitRules_ok hv r (fun x hx=>(sr x hx).1) _ ⟨rfl,rfl,iff_not (iff_intro (fun h2=>?_) (fun h2=>err 10 (by omega) ?_))⟩
 rotate_left
 ·have h2:(r.all fun x=>Tm.fitF l x.1&&Tm.fitF l x.2)=false:=h2
  unfold useE; rw [if_neg (by simp [hf]),if_neg (by simp [hpe]),if_neg (by simp only [h1]; exact fun h=>by cases h),if_pos h2]
 have h2:(r.all fun x=>Tm.fitF l x.1&&Tm.fitF l x.2)=true:=h2
 have hz:useE l p r=0:=by
  unfold useE; rw [if_neg (by simp [hf]),if_neg (by simp [hpe]),if_neg (by simp only [h1]; exact fun h=>by cases h),if_neg (by simp only [h2]; exact fun h=>by cases h)]
 have hres:useR l p r=usIdx l p r r.length:=by unfold useR; rw [if_pos hz]
 rw [hz,hres] at hQ
 have fp:∀ x∈p,Tm.fitF l x.2=true:=fun x hx=>by
  have:=List.all_eq_true.1 h1 x hx
  rw [Bool.and_eq_true] at this; exact this.2
 have fr:∀ x∈r,Tm.fitF l x.2=true:=fun x hx=>by
  have:=List.all_eq_true.1 h2 x hx
  rw [Bool.and_eq_true] at this; exact this.2
 rw [Zmo]
 intro hb
 have hlp:=encRs_length p
 have hlr:=encRs_length r
 rw [hlp] at hb ⊢
 -- the last loop
 have last:∀ m:List ByteArray,(∀ x,x∈m↔Use l p r x)→((encRs r).length≤big→∃ m3,Zbb Q m3 (.l (encN m)) 0 (encRs r) ((encRs r).length:Int) 0 []):=fun m hm hb=>by
  rw [hlr] at hb ⊢
  refine ZlJ Q _ _ _ hb (fun k n y=>y=encP (usIdx l p r k)∧n=y.length) (fun k n y hk hJ K hK=>?_) (fun n y hJ=>?_) 0 0 _ (Nat.zero_le _) ⟨rfl,rfl⟩
  ·obtain ⟨rfl,rfl⟩:=hJ
   simp only [encRs_getD _ k hk,List.drop_zero,List.headD_cons,List.tail_cons]
   have hul:=usIdx_length l p r k
   refine ⟨by omega,by rw [hlr]; omega,r01_Has_ok m _ _ ⟨rfl,rfl,iff_intro (fun h=>?_) (fun h=>?_)⟩⟩
   ·have hu:=(hm _).1 (hasN_iff.1 (show hasN m (r[k]).1.name=true from h))
    refine ⟨by trivial,?_,hK _ _ ⟨?_,?_⟩⟩
    ·show (encP _).length+1≤lim
     rw [encP_length]; unfold lim; omega
    ·rw [usIdx_yes hk hu]; simp [encP]
    ·first | (rw [List.length_append]; done) | (rw [List.length_append]; rfl)
   ·have hu:¬ Use l p r (r[k]).1.name:=fun h3=>hasN_false.1 (show hasN m (r[k]).1.name=false from h) ((hm _).2 h3)
    exact hK _ _ ⟨by rw [usIdx_no hk hu],rfl⟩
  ·obtain ⟨rfl,rfl⟩:=hJ
   exact ⟨⟨rfl,trivial,trivial⟩,hQ _ (.refl _)⟩
 have tot:∀ k,k≤4096→k*4000≤16384000:=fun k hk=>by omega
 refine Zlm Q _ _ _ _ hb (fun k x=>∃ m:List ByteArray,x=V.l (encN m)∧(∀ y,y∈m↔∃ i,∃ hi:i<p.length,i<k∧y∈Tm.remN l (p[i]).2)∧m.length≤k*4000) (fun k x hk hJ K hK=>?_) (fun x hJ=>?_) 0 _ (Nat.zero_le _) ⟨[],rfl,fun y=>by simp,by simp⟩
 ·obtain ⟨m,rfl,hmem,hlen⟩:=hJ
  have hin:=List.getElem_mem hk
  simp only [encRs_getD _ k hk,List.drop_zero,List.headD_cons,List.tail_cons]
  have hsz:=(sp _ hin).1
  have hrs:=remN_size hv (p[k]).2 (fp _ hin)
  refine ⟨by omega,by rw [hlp]; omega,r11_remaining_ok hv (p[k]).2 (by omega) (fp _ hin) m (by omega) _ fun m' hm1 hm2=>⟨rfl,rfl,hK _ ⟨m',rfl,fun y=>?_,by omega⟩⟩⟩
  rw [hm1,hmem]
  constructor
  ·rintro (⟨i,hi,hik,h⟩ | h)
   ·exact ⟨i,hi,by omega,h⟩
   ·exact ⟨k,hk,by omega,h⟩
  ·rintro ⟨i,hi,hik,h⟩
   rcases Nat.lt_succ_iff_lt_or_eq.1 hik with h8 | h8
   ·exact .inl ⟨i,hi,h8,h⟩
   ·subst h8; exact .inr h
 ·obtain ⟨m0,rfl,hmem0,hlen0⟩:=hJ
  have hbase:∀ y∈p,∀ x∈Tm.remN l y.2,x∈m0:=fun y hy x hx=>by
   obtain ⟨i,hi,rfl⟩:=List.mem_iff_getElem.1 hy
   exact (hmem0 x).2 ⟨i,hi,hi,hx⟩
  have huse0:∀ x∈m0,Use l p r x:=fun x hx=>by
   obtain ⟨i,hi,_,h⟩:=(hmem0 x).1 hx
   exact .base _ _ (List.getElem_mem hi) h
  intro hb1
  rw [hlr] at hb1 ⊢
  rw [wrap_next r.length (by unfold big; omega)]
  refine ZlH Q _ _ (r.length+1) (by unfold big; omega) (fun k x=>∃ m:List ByteArray,x=V.l (encN m)∧(∀ x∈m,Use l p r x)∧(∀ x∈m0,x∈m)∧(ClosedU l r (·∈m)∨k≤cntU r m)∧m.length≤256000+k*256000) (fun k x hk hJ m1 hK=>?_) (fun x hJ=>?_) 0 _ (Nat.zero_le _) ⟨m0,rfl,huse0,fun x h=>h,.inr (Nat.zero_le _),use_n1 hlen0 lp⟩
  ·obtain ⟨m,rfl,huse,hsub,hcl,hlen⟩:=hJ
   intro hb2
   rw [hlr] at hb2 ⊢
   refine ZlY Q m1 _ _ _ _ _ _ hb2 (fun j x=>∃ m2:List ByteArray,x=V.l (encN m2)∧(∀ x∈m2,Use l p r x)∧(∀ x∈m,x∈m2)∧(∀ i (hi:i<r.length),i<j→(r[i]).1.name∈m→∀ x∈Tm.remN l (r[i]).2,x∈m2)∧(ClosedU l r (·∈m)→∀ x∈m2,x∈m)∧m2.length≤256000+k*256000+j*4000) (fun j x hj hJ K hK2=>?_) (fun x hJ=>?_) 0 _ (Nat.zero_le _) ⟨m,rfl,huse,fun x h=>h,fun i hi h=>by omega,fun _ x h=>h,by omega⟩
   ·obtain ⟨m2,rfl,g1,g2,g3,g4,g5⟩:=hJ
    have hin:=List.getElem_mem hj
    have hsz:=(sr _ hin).1
    have hrs:=remN_size hv (r[j]).2 (fr _ hin)
    simp only [encRs_getD _ j hj,List.drop_zero,List.headD_cons,List.tail_cons]
    refine ⟨by omega,by rw [hlr]; omega,r01_Has_ok m2 _ _ ⟨rfl,rfl,iff_intro (fun h=>?_) (fun h=>?_)⟩⟩
    ·have hm2:=hasN_iff.1 (show hasN m2 (r[j]).1.name=true from h)
     have hbd:256000+k*256000+j*4000≤100000000:=by
      omega
     refine r11_remaining_ok hv (r[j]).2 (by omega) (fr _ hin) m2 (by omega) _ fun m3 q1 q2=>⟨rfl,rfl,hK2 _ ⟨m3,rfl,fun x hx=>?_,fun x hx=>(q1 x).2 (.inl (g2 x hx)),fun i hi hij hm x hx=>?_,fun hc x hx=>?_,by omega⟩⟩
     ·rcases (q1 x).1 hx with h | h
      ·exact g1 x h
      ·exact .step _ _ hin (g1 _ hm2) h
     ·rcases Nat.lt_succ_iff_lt_or_eq.1 hij with h8 | h8
      ·exact (q1 x).2 (.inl (g3 i hi h8 hm x hx))
      ·subst h8; exact (q1 x).2 (.inr hx)
     ·rcases (q1 x).1 hx with h | h
      ·exact g4 hc x h
      ·exact hc _ hin (g4 hc _ hm2) x h
    ·have hm2:=hasN_false.1 (show hasN m2 (r[j]).1.name=false from h)
     refine hK2 _ ⟨m2,rfl,g1,g2,fun i hi hij hm x hx=>?_,g4,use_n2 g5⟩
     rcases Nat.lt_succ_iff_lt_or_eq.1 hij with h8 | h8
     ·exact g3 i hi h8 hm x hx
     ·subst h8; exact absurd (g2 _ hm) hm2
   ·obtain ⟨m2,rfl,g1,g2,g3,g4,g5⟩:=hJ
    refine hK _ ⟨m2,rfl,g1,fun x hx=>g2 x (hsub x hx),?_,use_n3 g5 lr⟩
    obtain ⟨c1,c2⟩:=cntU_grow (r:=r) g2
    rcases hcl with hcl | hcl
    ·left
     intro y hy hm x hx
     exact g2 x (hcl y hy (g4 hcl _ hm) x hx)
    ·by_cases hc:cntU r m2=cntU r m
     ·left
      intro y hy hm x hx
      have h3:=c2 hc y hy hm
      obtain ⟨i,hi,rfl⟩:=List.mem_iff_getElem.1 hy
      exact g3 i hi hi h3 x hx
     ·right; omega
  ·obtain ⟨m,rfl,huse,hsub,hcl,hlen⟩:=hJ
   have hc:ClosedU l r (·∈m):=by
    rcases hcl with h | h
    ·exact h
    ·have:=cntU_le r m; omega
   exact last m fun x=>use_of (m:=(·∈m)) huse (fun y hy x hx=>hsub x (hbase y hy x hx)) hc x
end Go.Proofs.YthjlodlkpgjlkaaGreat
namespace Go.Proofs.YthjlodlkpgjlkaaGreat
open Go Go.Abs
theorem usable_Check_1_ok (x:Fl):Fn ZR [flD x] (sD x.name):=fun Q hQ=>by
 refine Zno _ _ _ _ ?_
 unfold ZgT
 exact ⟨trivial,hQ⟩
theorem path_Names_F_ok (l:Fls):Fn Zek [flsD l,.fn ZR []] (iD (namesErr (flNames l))):=fun Q hQ=>by
 refine ZeY _ _ ?_
 unfold Zby
 intro hb
 have hl:=encFs_length l
 have hl2:(flNames l).length=l.length:=by simp [flNames]
 rw [hl] at hb ⊢
 rw [big_eq] at hb
 unfold namesErr at hQ
 refine iff_dec (fun h=>⟨trivial,?_⟩) (fun h _=>?_)
 ·rw [if_pos (by omega)] at hQ; exact hQ
 rw [if_neg (by omega)] at hQ
 have bad:namesOk true (flNames l)=false→Q (iD 4) []:=fun h=>by rw [h] at hQ; exact hQ
 refine Zdp Q _ _ _ (by rw [big_eq]; exact hb) (fun k=>∀ i,i<k→nameAt true (flNames l) i=true) (fun k hk hJ K hK=>?_) (fun hJ=>⟨trivial,?_⟩) 0 (Nat.zero_le _) (fun i hi=>by omega)
 ·simp only [encFs_getD _ k hk,List.drop_zero,List.headD_cons,List.tail_cons]
  have hn:=flNames_getD l k hk
  refine ⟨by omega,by omega,sD (l[k]).name,(usable_Check_1_ok _).here rfl,bD (nameOk (l[k]).name true),(term_IsName_ok _ _).here rfl,?_⟩
  have next:nameAt true (flNames l) k=true→∀ i,i<k+1→nameAt true (flNames l) i=true:=fun h i hi=>by
   rcases Nat.lt_succ_iff_lt_or_eq.1 hi with h8 | rfl
   ·exact hJ i h8
   ·exact h
  refine iff_not (iff_intro (fun h=>iff_dec (fun h0=>?_) (fun h0=>hK (next ?_))) (fun h=>⟨trivial,bad (namesOk_not (k:=k) (by omega) ?_)⟩))
  ·have h:nameOk (l[k]).name true=true:=h
   have hk1:k - 1<l.length:=by omega
   have hp:=flNames_getD l (k - 1) hk1
   rw [wrap_in _ (by omega) (by omega)]
   have e1:((k:Int) - 1).toNat=k - 1:=by omega
   rw [e1]
   simp only [encFs_getD _ (k - 1) hk1,List.drop_zero,List.headD_cons,List.tail_cons]
   have hk0:¬ k=0:=by omega
   refine ⟨sD (l[k]).name,(usable_Check_1_ok _).here rfl,by omega,by omega,usable_Check_1_ok _ _ ⟨rfl,rfl,?_⟩⟩
   show iff (Op.bytesLess (l[k]).name.toList (l[k-1]).name.toList||(l[k]).name.toList == (l[k-1]).name.toList) _ _
   rw [less_cmp,ba_beq]
   have e:(decide (cmpN (l[k]).name (l[k-1]).name = -1)||decide ((l[k]).name=(l[k-1]).name))=!decide (cmpN (l[k-1]).name (l[k]).name = -1):=by
    rw [Bool.eq_iff_iff]
    simp only [Bool.or_eq_true,decide_eq_true_iff,Bool.not_eq_true',decide_eq_false_iff_not,← cmpN_zero]
    have:=cmpN_flip (l[k-1]).name (l[k]).name
    rcases cmpN_cases (l[k-1]).name (l[k]).name with h | h | h <;> omega
   rw [e]
   refine iff_not (iff_dec (fun h2=>hK (next ?_)) (fun h2=>⟨trivial,bad (namesOk_not (k:=k) (by omega) ?_)⟩))
   ·unfold nameAt
    rw [hn,hp,h,Bool.true_and,decide_eq_false hk0,decide_eq_true h2]; rfl
   ·unfold nameAt
    rw [hn,hp,h,Bool.true_and,decide_eq_false hk0,decide_eq_false h2]; rfl
  ·have h:nameOk (l[k]).name true=true:=h
   unfold nameAt
   rw [hn,h,decide_eq_true (show k=0 by omega)]; rfl
  ·have h:nameOk (l[k]).name true=false:=h
   unfold nameAt
   rw [hn,h]; rfl
 ·rw [namesOk_all (fun k hk=>hJ k (by omega)),if_pos rfl] at hQ
  exact hQ
theorem usable_Check_ok (l:Fls):Fn ZdM [flsD l] (iD (flErr l)):=fun Q hQ=>by
 refine Zoz _ _ ?_
 unfold ZhW
 have hl:=encFs_length l
 refine path_Names_F_ok l _ ⟨rfl,rfl,iff_bne (fun h=>⟨trivial,?_⟩) (fun h hb=>?_)⟩
 ·have h:namesErr (flNames l)≠0:=h
  rw [flErr_n rfl h] at hQ; exact hQ
 have h:namesErr (flNames l)=0:=h
 rw [flErr_k h] at hQ
 rw [hl] at hb ⊢
 refine ZiP Q _ _ hb (fun k=>(l.take k).any flBad=false) (fun k hk hJ2 m1 hK=>?_) (fun hJ2=>⟨trivial,?_⟩) 0 (Nat.zero_le _) rfl
 ·simp only [encFs_getD _ k hk,List.drop_zero,List.headD_cons,List.tail_cons]
  have hin:=List.getElem_mem hk
  have no:flBad l[k]=true→True∧Q (iD 2) []:=fun h=>by
   rw [if_pos (List.any_eq_true.2 ⟨_,hin,h⟩)] at hQ; exact ⟨trivial,hQ⟩
  have step:flBad l[k]=false→Zaj Q m1 (encFs l) (l.length:Int) (IntKind.i64.wrap ((k:Int)+(1:Int))):=fun h=>hK (any_take hk hJ2 h)
  generalize l[k]=x at no step
  have kp:(decide (x.only<0)||decide (x.only > 8)||(decide (x.only > 0)&&decide (x.keep.length > 0)))=false→Zbc Q m1 (encFs l) (l.length:Int) (k:Int) (.s x.name) (.i x.only) (.l (encP x.keep)):=fun h0=>by
   have hfb:flBad x=!(keepOk x.keep):=by unfold flBad; rw [h0,Bool.false_or]
   rw [Zjo]
   show (encP x.keep).length≤big→∃ m2,ZaA Q m1 m2 _ _ _ _ ((encP x.keep).length:Int) 0 _ _ _
   rw [encP_length]
   intro hb2
   rw [big_eq] at hb2
   refine ZiC Q m1 _ _ _ _ _ _ _ _ (by rw [big_eq]; exact hb2) (fun j=>∀ i,i<j→keepAt x.keep i=true) (fun j hj hJ3 K hK3=>?_) (fun hJ3=>step ?_) 0 (Nat.zero_le _) (fun i hi=>by omega)
   ·have hg:(V.list (V.l (encP x.keep))).getD j []=[V.i x.keep[j]]:=encP_getD _ j hj
    have hge:x.keep.getD j 0=x.keep[j]:=by rw [List.getD_eq_getElem?_getD,List.getElem?_eq_getElem hj]; rfl
    simp only [hg,List.drop_zero,List.headD_cons]
    have kno:keepAt x.keep j=false→True∧Q (iD 2) []:=fun h=>no (by rw [hfb,keepOk_not hj h]; rfl)
    have next:keepAt x.keep j=true→∀ i,i<j+1→keepAt x.keep i=true:=fun h i hi=>by
     rcases Nat.lt_succ_iff_lt_or_eq.1 hi with h8 | rfl
     ·exact hJ3 i h8
     ·exact h
    refine ⟨by omega,by show (j:Int)<((encP x.keep).length:Int); rw [encP_length]; omega,iff_dec (fun h1=>kno ?_) (fun h1=>iff_dec (fun h2=>kno ?_) (fun h2=>iff_dec (fun h3=>?_) (fun h3=>hK3 (next ?_))))⟩
    ·have h1:x.keep[j]<1:=h1
     unfold keepAt; rw [hge,decide_eq_false (by omega)]; rfl
    ·have h2:x.keep[j] > 8:=h2
     unfold keepAt; rw [hge,decide_eq_false (show ¬ x.keep[j]≤8 by omega),Bool.and_false]; rfl
    ·have h1:¬ x.keep[j]<1:=h1
     have h2:¬ x.keep[j] > 8:=h2
     have hj1:j - 1<x.keep.length:=by omega
     have hg1:x.keep.getD (j - 1) 0=x.keep[j-1]:=by rw [List.getD_eq_getElem?_getD,List.getElem?_eq_getElem hj1]; rfl
     rw [wrap_in _ (by omega) (by omega)]
     have e1:((j:Int) - 1).toNat=j - 1:=by omega
     rw [e1]
     have hg2:(V.list (V.l (encP x.keep))).getD (j - 1) []=[V.i x.keep[j-1]]:=encP_getD _ (j - 1) hj1
     simp only [hg2,List.drop_zero,List.headD_cons]
     refine ⟨by omega,by show (j:Int) - 1<((encP x.keep).length:Int); rw [encP_length]; omega,iff_dec (fun h4=>kno ?_) (fun h4=>hK3 (next ?_))⟩
     ·have h4:x.keep[j]≤x.keep[j-1]:=h4
      unfold keepAt; rw [hge,hg1,decide_eq_false (show ¬ j=0 by omega),decide_eq_false (show ¬ x.keep[j-1]<x.keep[j] by omega),Bool.false_or,Bool.and_false]
     ·have h4:¬ x.keep[j]≤x.keep[j-1]:=h4
      unfold keepAt; rw [hge,hg1,decide_eq_true (show 1≤x.keep[j] by omega),decide_eq_true (show x.keep[j]≤8 by omega),decide_eq_true (show x.keep[j-1]<x.keep[j] by omega),Bool.or_true]; rfl
    ·have h1:¬ x.keep[j]<1:=h1
     have h2:¬ x.keep[j] > 8:=h2
     unfold keepAt; rw [hge,decide_eq_true (show 1≤x.keep[j] by omega),decide_eq_true (show x.keep[j]≤8 by omega),decide_eq_true (show j=0 by omega)]; rfl
   ·rw [hfb,keepOk_all (fun k hk=>hJ3 k hk)]; rfl
  refine ⟨by omega,by rw [hl]; omega,iff_dec (fun h1=>no ?_) (fun h1=>iff_dec (fun h2=>no ?_) (fun h2=>iff_dec (fun h3=>fun _=>iff_dec (fun h4=>no ?_) (fun h4=>kp ?_)) (fun h3=>kp ?_)))⟩
  ·have h1:x.only<0:=h1
   unfold flBad; rw [decide_eq_true h1]; rfl
  ·have h2:x.only > 8:=h2
   unfold flBad; rw [decide_eq_true h2,Bool.or_true]; rfl
  ·have h3:x.only > 0:=h3
   have h4:((encP x.keep).length:Int) > 0:=h4
   rw [encP_length] at h4
   unfold flBad; rw [decide_eq_true h3,decide_eq_true (show x.keep.length > 0 by omega),Bool.and_true,Bool.or_true,Bool.true_or]
  ·have h1:¬ x.only<0:=h1
   have h2:¬ x.only > 8:=h2
   have h4:¬ ((encP x.keep).length:Int) > 0:=h4
   rw [encP_length] at h4
   rw [decide_eq_false h1,decide_eq_false h2,decide_eq_false (show ¬ x.keep.length > 0 by omega),Bool.and_false]; rfl
  ·have h1:¬ x.only<0:=h1
   have h2:¬ x.only > 8:=h2
   have h3:¬ x.only > 0:=h3
   rw [decide_eq_false h1,decide_eq_false h2,decide_eq_false h3]; rfl
 ·rw [List.take_length] at hJ2
  rw [if_neg (by simp [hJ2])] at hQ
  exact hQ
theorem bytealg_CompareString_ok (a b:ByteArray):Fn Zb6 [sD a,sD b] (iD (cmpN a b)):=fun Q hQ=>by
 refine Zhi _ _ _ ?_
 exact ⟨trivial,hQ⟩
theorem strings_Compare_ok (a b:ByteArray):Fn Zfc [sD a,sD b] (iD (cmpN a b)):=fun Q hQ=>by
 refine Zk2 _ _ _ ?_
 unfold Zgr
 exact bytealg_CompareString_ok a b _ ⟨rfl,rfl,trivial,hQ⟩
theorem usable_Of_1_ok (x:Fl) (b:ByteArray):Fn ZbF [flD x,sD b] (iD (cmpN x.name b)):=fun Q hQ=>by
 refine Zqd _ _ _ _ _ ?_
 unfold Zi2
 exact strings_Compare_ok _ b _ ⟨rfl,rfl,trivial,hQ⟩
def SortF (l:Fls):Prop:=∀ i j (hi:i<l.length) (hj:j<l.length),i<j→cmpN (l[i]).name (l[j]).name = -1
theorem sortF_of {l:Fls} (h:namesOk true (flNames l)=true):SortF l:=by
 have hl2:(flNames l).length=l.length:=by simp [flNames]
 have step:∀ j (hj:j+1<l.length),cmpN (l[j]'(by omega)).name (l[j+1]).name = -1:=fun j hj=>by
  have:=namesOk_at h (k:=j+1) (by omega)
  unfold nameAt at this
  simp only [Bool.and_eq_true,Bool.or_eq_true,decide_eq_true_iff] at this
  rcases this.2 with h | h
  ·omega
  ·rw [show j+1 - 1=j by omega,flNames_getD l j (by omega),flNames_getD l (j+1) hj] at h
   exact h
 intro i j hi hj hij
 induction j with
 | zero=>omega
 | succ j ih =>
  rcases Nat.lt_succ_iff_lt_or_eq.1 hij with h8 | rfl
  ·exact cmpN_trans (ih (by omega) h8) (step j hj)
  ·exact step i hj
theorem mid_eq (lo hi:Nat) (h:lo+hi≤1000):IntKind.i64.wrap ((IntKind.u64.wrap (IntKind.i64.wrap ((lo:Int)+(hi:Int)))).fdiv (2 ^ (min ((1:Int)).toNat IntKind.u64.bits)))=(((lo+hi) / 2:Nat):Int):=by
 rw [wrap_in ((lo:Int)+(hi:Int)) (by omega) (by omega),wrap_u64 _ (by omega) (by omega)]
 have e:(2:Int) ^ (min ((1:Int)).toNat IntKind.u64.bits)=2:=rfl
 rw [e,Int.fdiv_eq_ediv_of_nonneg _ (by omega),wrap_in _ (by omega) (by omega)]
 omega
theorem findF_at {l:Fls} {x:ByteArray} {k:Nat} (hs:SortF l) (hk:k<l.length) (h:(l[k]).name=x):l.find? (fun y=>decide (y.name=x))=some l[k]:=by
 rw [List.find?_eq_some_iff_append]
 refine ⟨decide_eq_true h,l.take k,l.drop (k+1),?_,fun y hy=>?_⟩
 ·rw [← List.drop_eq_getElem_cons hk,List.take_append_drop]
 ·obtain ⟨i,hi,rfl⟩:=List.mem_take_iff_getElem.1 hy
  have:=hs i k (by omega) hk (by omega)
  simp only [Bool.not_eq_true',decide_eq_false_iff_not]
  intro he
  rw [he,← h,cmpN_self] at this
  cases this
theorem slices_BinarySearchFunc_F_ok (l:Fls) (x:ByteArray) (hs:SortF l) (hn:l.length≤256) (Q:D→Heap→Prop)
  (hQ:∀ (i:Nat) (b:Bool),(b=true→∃ h:i<l.length,(l[i]).name=x)→(b=false→∀ y∈l,y.name≠x)→Q (.tup [iD i,bD b]) []) :
  cl Z1 [flsD l,sD x,.fn ZbF []] [] Q:=by
 refine Zbn _ _ _ fun hb=>?_
 have hl:=encFs_length l
 rw [hl] at hb ⊢
 refine Za1 Q (fun x0 x1 x8 x9 x10=>x0=encFs l∧x1=x∧x8=(l.length:Int)∧∃ lo hi:Nat,x9=lo∧x10=hi∧lo≤hi∧hi≤l.length∧(∀ k (h:k<l.length),k<lo→cmpN (l[k]).name x = -1)∧(∀ k (h:k<l.length),hi≤k→cmpN (l[k]).name x≠-1)) (fun x0 x1 x8 x9 x10=>(x10 - x9).toNat) (fun x0 x1 x8 x9 x10 hI m0 hK=>?_) _ _ _ _ _ ⟨rfl,rfl,rfl,0,l.length,rfl,rfl,Nat.zero_le _,Nat.le_refl _,fun k _ h=>by omega,fun k h h'=>by omega⟩
 obtain ⟨rfl,rfl,rfl,lo,hi,rfl,rfl,h1,h2,h3,h4⟩:=hI
 unfold ZJ
 rw [mid_eq lo hi (by omega)]
 refine iff_dec (fun h=>?_) (fun h=>?_)
 ·have hm:(lo+hi) / 2<l.length:=by omega
  rw [Int.toNat_natCast]
  simp only [encFs_getD _ _ hm,List.drop_zero,List.headD_cons,List.tail_cons]
  refine ⟨by omega,by omega,by omega,usable_Of_1_ok (l[(lo+hi) / 2]) x1 _ ⟨rfl,rfl,iff_dec (fun h5=>?_) (fun h5=>?_)⟩⟩
  ·have h5:cmpN (l[(lo+hi) / 2]).name x1<0:=h5
   rw [wrap_in _ (by omega) (by omega)]
   refine hK _ _ _ _ _ ⟨rfl,rfl,rfl,(lo+hi) / 2+1,hi,by omega,rfl,by omega,h2,fun k hk hlt=>?_,h4⟩ (by omega)
   have h6:cmpN (l[(lo+hi) / 2]).name x1 = -1:=by rcases cmpN_cases (l[(lo+hi) / 2]).name x1 with h | h | h <;> omega
   rcases Nat.lt_succ_iff_lt_or_eq.1 hlt with h8 | rfl
   ·exact cmpN_trans (hs k _ hk hm h8) h6
   ·exact h6
  ·have h5:¬ cmpN (l[(lo+hi) / 2]).name x1<0:=h5
   refine hK _ _ _ _ _ ⟨rfl,rfl,rfl,lo,(lo+hi) / 2,rfl,rfl,by omega,by omega,h3,fun k hk hle he=>?_⟩ (by omega)
   rcases Nat.lt_or_eq_of_le hle with h8 | rfl
   ·have:=cmpN_trans (hs _ k hm hk h8) he
    omega
   ·omega
 ·have e:lo=hi:=by omega
  subst e
  refine iff_dec (fun h5=>?_) (fun h5=>⟨⟨trivial,trivial,trivial⟩,hQ _ _ (fun h=>by cases h) fun _ y hy he=>?_⟩)
  ·have hlo:lo<l.length:=by omega
   rw [Int.toNat_natCast]
   simp only [encFs_getD _ _ hlo,List.drop_zero,List.headD_cons,List.tail_cons]
   refine ⟨by omega,by omega,usable_Of_1_ok (l[lo]) x1 _ ⟨rfl,rfl,⟨trivial,trivial,trivial⟩,hQ lo (cmpN (l[lo]).name x1 == 0) (fun h6=>⟨hlo,?_⟩) (fun h6 y hy he=>?_)⟩⟩
   ·rw [beq_iff_eq] at h6; exact cmpN_zero.1 h6
   ·obtain ⟨k,hk,rfl⟩:=List.mem_iff_getElem.1 hy
    have hz:=cmpN_zero.2 he
    rcases Nat.lt_trichotomy k lo with h7 | rfl | h7
    ·have:=h3 k hk h7; omega
    ·rw [hz] at h6; cases h6
    ·have h8:=h4 lo hlo (Nat.le_refl _)
     have h9:=hs lo k hlo hk h7
     rw [he] at h9
     exact h8 h9
  ·obtain ⟨k,hk,rfl⟩:=List.mem_iff_getElem.1 hy
   have hz:=cmpN_zero.2 he
   have:=h3 k hk (by omega)
   omega
theorem usable_Of_ok (l:Fls) (x:ByteArray) (hs:SortF l) (hn:l.length≤256) {Q:D→Heap→Prop} (h1:∀ y∈l,l.find? (fun y=>decide (y.name=x))=some y→Q (.tup [flD y,bD true]) [])
  (h2:l.find? (fun y=>decide (y.name=x))=none→Q (.tup [flD ⟨bz,0,[]⟩,bD false]) []):cl Zfa [flsD l,sD x] [] Q:=by
 refine ACalls.as ?_
 refine Zq5 _ _ _ ?_
 unfold Zmj
 have hl:=encFs_length l
 refine slices_BinarySearchFunc_F_ok l x hs hn _ fun i b ht hf=>⟨rfl,rfl,?_⟩
 refine iff_not (iff_intro (fun h=>?_) (fun h=>⟨⟨⟨trivial,trivial,trivial,trivial⟩,trivial,trivial⟩,?_⟩))
 ·have h:b=true:=h
  obtain ⟨hi,hx⟩:=ht h
  show 0≤(i:Int)∧(i:Int)<_∧_
  refine ⟨by omega,by omega,⟨⟨trivial,trivial,trivial,trivial⟩,trivial,trivial⟩,?_⟩
  have this:(encFs l).getD ((i:Int)).toNat []=[.s (l[i]).name,.i (l[i]).only,.l (encP (l[i]).keep)]:=by
   rw [Int.toNat_natCast]; exact encFs_getD l i hi
  refine ⟨_,.refl _,?_⟩
  show Q (.tup [.agg [.v .str (((((encFs l).getD ((i:Int)).toNat []).drop 0).headD V.none)),.v (.int .i64) (((((encFs l).getD ((i:Int)).toNat []).drop 0).tail).headD V.none),.v (.sl ZU) ((((((encFs l).getD ((i:Int)).toNat []).drop 0).tail).tail).headD V.none)],bD true]) []
  rw [this]
  exact h1 _ (List.getElem_mem hi) (findF_at hs hi hx)
 ·have h:b=false:=h
  have hno:=hf h
  refine ⟨_,As.pair (As.last3 _ _ _) (.refl _),h2 ?_⟩
  rw [List.find?_eq_none]
  intro y hy
  simpa using hno y hy
def fitAt (l:Fls) (s:Tm):Bool:=s.var||(keptF l s.name s.args.length).all fun k=>decide (k≤(s.args.length:Int))
theorem Tm.fitF_pre (l:Fls):∀ t:Tm,t.formed=true→Tm.fitF l t=t.pre.all (fitAt l):=Tm.ind fun t ih hf=>by
 rw [Tm.fitF_eq,Tm.pre_eq,List.all_cons]
 have hfe:=Tm.formed_eq t
 rw [hf] at hfe
 by_cases hv:t.var=true
 ·rw [if_pos hv] at hfe
  have h0:t.args=[]:=by
   have:=hfe.symm
   rw [Bool.and_eq_true,List.isEmpty_iff] at this
   exact this.2
  unfold fitAt
  rw [hv,h0]; rfl
 ·rw [if_neg hv] at hfe
  have hv:t.var=false:=by simpa using hv
  unfold fitAt
  rw [hv,Bool.false_or,Bool.false_or]
  congr 1
  have hfo:∀ a∈t.args,a.formed=true:=by
   have:=hfe.symm
   rw [Bool.and_eq_true] at this
   exact List.all_eq_true.1 this.2
  have:∀ xs:List Tm,(∀ a∈xs,Tm.fitF l a=a.pre.all (fitAt l))→Tm.fitFL l xs=(Tm.preL xs).all (fitAt l):=by
   intro xs
   induction xs with
   | nil=>intro _; rfl
   | cons a r ih=>intro h; rw [Tm.fitFL,Tm.preL,List.all_append,h a (by simp),ih fun b hb=>h b (by simp [hb])]
  exact this _ fun a ha=>ih a ha (hfo a ha)
theorem entF_some {l:Fls} {x:ByteArray} {y:Fl} (n:Nat) (h:l.find? (fun y=>decide (y.name=x))=some y):entF l x n=y:=by unfold entF; rw [h]; rfl
theorem entF_none {l:Fls} {x:ByteArray} (n:Nat) (h:l.find? (fun y=>decide (y.name=x))=none):entF l x n=⟨x,0,allTo n⟩:=by unfold entF; rw [h]; rfl
theorem keptF_some {l:Fls} {x:ByteArray} {y:Fl} (n:Nat) (h:l.find? (fun y=>decide (y.name=x))=some y):keptF l x n=if y.only > 0 then [y.only] else y.keep:=by unfold keptF; rw [entF_some n h]
theorem keptF_none {l:Fls} {x:ByteArray} (n:Nat) (h:l.find? (fun y=>decide (y.name=x))=none):keptF l x n=allTo n:=by unfold keptF; rw [entF_none n h]; rfl
theorem keep_last {p:List Int} (h:keepOk p=true) (hp:0<p.length) (n:Int):p.all (fun k=>decide (k≤n))=decide (p.getD (p.length - 1) 0≤n):=by
 have hg:p.getD (p.length - 1) 0=p[p.length - 1]:=by rw [List.getD_eq_getElem?_getD,List.getElem?_eq_getElem (by omega)]; rfl
 rw [hg,Bool.eq_iff_iff,List.all_eq_true,decide_eq_true_iff]
 constructor
 ·intro h2; simpa using h2 _ (List.getElem_mem (show p.length - 1<p.length by omega))
 ·intro h2 k hk
  obtain ⟨i,hi,rfl⟩:=List.mem_iff_getElem.1 hk
  have h3:=List.pairwise_iff_getElem.1 (keepOk_inc h)
  rcases Nat.lt_or_ge i (p.length - 1) with h4 | h4
  ·have:=h3 i (p.length - 1) hi (by omega) h4
   exact decide_eq_true (by omega)
  ·have:i=p.length - 1:=by omega
   subst this
   exact decide_eq_true h2
section
variable {l:Fls} (he:flErr l=0)
include he
theorem usable_Suits_ok (t:Tm) (hf:t.formed=true) (hs:t.size≤1099511627776):Fn ZdU [flsD l,tD t] (bD (Tm.fitF l t)):=fun Q hQ=>by
 obtain ⟨hlen,hnm,hv⟩:=flErr_zero he
 have hsort:=sortF_of hnm
 refine ZoT _ _ _ _ _ ?_
 unfold Zh3
 rw [Tm.fitF_pre l t hf] at hQ
 have hpre:t.pre.all (fitAt l)=(t.preD 0).all fun x=>fitAt l x.1:=by
  rw [← Tm.preD_fst t 0,List.all_map]; rfl
 rw [hpre] at hQ
 refine term_Walk_ok t ⟨rfl,rfl,rowsW t,Walk_iter t hs,?_⟩
 refine ZjB Q _ _ _ (fun rows q b=>q=encFs l∧∃ pre ss:List (Tm×Nat),t.preD 0=pre++ss∧(pre.all fun x=>fitAt l x.1)=true∧rows=ss.map encW) ?_ ?_ _ _ _ ⟨rfl,[],t.preD 0,rfl,rfl,rfl⟩
 ·rintro r rs q b ⟨rfl,pre,ss,hsp,hall,hr⟩ K hK
  cases ss with
  | nil=>simp at hr
  | cons a ss =>
   simp only [List.map_cons,List.cons.injEq] at hr
   obtain ⟨rfl,rfl⟩:=hr
   obtain ⟨a,d⟩:=a
   have next:fitAt l a=true→K (encFs l) b:=fun h=>hK _ _ ⟨rfl,pre++[(a,d)],ss,by rw [hsp]; simp,by rw [List.all_append,hall,List.all_cons,List.all_nil,h]; rfl,rfl⟩
   have stop:fitAt l a=false→True∧Q (bD false) []:=fun h=>by
    have:((t.preD 0).all fun x=>fitAt l x.1)=false:=by rw [hsp,List.all_append,List.all_cons,h,Bool.false_and,Bool.and_false]
    rw [this] at hQ; exact ⟨trivial,hQ⟩
   have hal:=Tm.encL_length a.args
   refine usable_Of_ok l a.name hsort hlen (fun y hy hfd=>⟨rfl,rfl,iff_not (iff_intro (fun hvr=>next ?_) (fun hvr=>?_))⟩) (fun hfd=>⟨rfl,rfl,iff_not (iff_intro (fun hvr=>next ?_) (fun hvr=>next ?_))⟩)
   ·have hvr:a.var=true:=hvr
    unfold fitAt; rw [hvr]; rfl
   ·have hvr:a.var=false:=hvr
    obtain ⟨f1,f2,f3,f4⟩:=flBad_false (hv y hy)
    have hfa:fitAt l a=(if y.only > 0 then [y.only] else y.keep).all fun k=>decide (k≤(a.args.length:Int)):=by
     unfold fitAt; rw [hvr,Bool.false_or,keptF_some _ hfd]
    refine iff_dec (fun h1=>stop ?_) (fun h1=>iff_dec (fun h2=>?_) (fun h2=>next ?_))
    ·have h1:y.only > ((Tm.encL a.args).length:Int):=h1
     rw [hal] at h1
     rw [hfa,if_pos (by omega)]
     simp only [List.all_cons,List.all_nil,Bool.and_true]
     exact decide_eq_false (by omega)
    ·have h1:¬ y.only > ((Tm.encL a.args).length:Int):=h1
     have h2:((encP y.keep).length:Int) > 0:=h2
     rw [encP_length] at h2
     have hb9:=keep_len f4
     have h0:¬ y.only > 0:=fun h=>by rw [f3 h] at h2; simp at h2
     rw [if_neg h0,keep_last f4 (by omega)] at hfa
     have ew:IntKind.i64.wrap (((encP y.keep).length:Int) - 1)=((y.keep.length - 1:Nat):Int):=by rw [encP_length,wrap_in _ (by omega) (by omega)]; omega
     have hlt:y.keep.length - 1<y.keep.length:=by omega
     have hgk:y.keep.getD (y.keep.length - 1) 0=y.keep[y.keep.length - 1]:=by rw [List.getD_eq_getElem?_getD,List.getElem?_eq_getElem (by omega)]; rfl
     have e5:(((encP y.keep).getD (IntKind.i64.wrap (((encP y.keep).length:Int) - 1)).toNat []).drop 0).headD V.none=V.i y.keep[y.keep.length - 1]:=by
      rw [ew,Int.toNat_natCast,encP_getD _ _ hlt]; rfl
     have key:iff (decide ((((((encP y.keep).getD (IntKind.i64.wrap (((encP y.keep).length:Int) - 1)).toNat []).drop 0).headD V.none).int) > ((Tm.encL a.args).length:Int))) (True∧Q (bD false) []) (K (encFs l) b):=by
      rw [e5,hal]
      refine iff_dec (fun h3=>stop ?_) (fun h3=>next ?_)
      ·have h3:y.keep[y.keep.length - 1] > (a.args.length:Int):=h3
       rw [hfa,hgk]; exact decide_eq_false (by omega)
      ·have h3:¬ y.keep[y.keep.length - 1] > (a.args.length:Int):=h3
       rw [hfa,hgk]; exact decide_eq_true (by omega)
     exact ⟨by show 0≤IntKind.i64.wrap (((encP y.keep).length:Int) - 1); omega,by show IntKind.i64.wrap (((encP y.keep).length:Int) - 1)<((encP y.keep).length:Int); rw [ew,encP_length]; omega,key⟩
    ·have h1:¬ y.only > ((Tm.encL a.args).length:Int):=h1
     have h2:¬ ((encP y.keep).length:Int) > 0:=h2
     rw [encP_length] at h2
     rw [hal] at h1
     rw [hfa]
     by_cases h0:y.only > 0
     ·rw [if_pos h0]
      simp only [List.all_cons,List.all_nil,Bool.and_true]
      exact decide_eq_true (by omega)
     ·rw [if_neg h0,List.eq_nil_of_length_eq_zero (show y.keep.length=0 by omega)]; rfl
   ·have hvr:a.var=true:=hvr
    unfold fitAt; rw [hvr]; rfl
   ·unfold fitAt
    rw [keptF_none _ hfd,Bool.or_eq_true]
    exact .inr (List.all_eq_true.2 fun k hk=>decide_eq_true (mem_allTo.1 hk).2)
 ·rintro q b ⟨_,pre,ss,hsp,hall,hr⟩
  have hss:ss=[]:=by simpa using hr.symm
  subst hss
  rw [List.append_nil] at hsp
  rw [hsp,hall] at hQ
  exact ⟨trivial,hQ⟩
end
end Go.Proofs.YthjlodlkpgjlkaaGreat
namespace Go.Proofs.YthjlodlkpgjlkaaGreat
open Go Go.Abs
def fitE (l:Fls) (t:Tm):Int:=if flErr l≠0 then flErr l else t.check
theorem fitE_zero {l:Fls} {t:Tm} (h:fitE l t=0):flErr l=0∧t.check=0:=by
 unfold fitE at h
 split at h
 ·rename_i h1; exact absurd h h1
 ·rename_i h1; exact ⟨Decidable.not_not.1 h1,h⟩
def fitB (l:Fls) (t:Tm):Bool:=decide (fitE l t=0)&&Tm.fitF l t
theorem usable_Fits_ok (l:Fls) (t:Tm) (hB:t.size≤small):Fn ZfR [flsD l,tD t] (.tup [bD (fitB l t),iD (fitE l t)]):=fun Q hQ=>by
 refine Zpx _ _ _ _ _ ?_
 unfold ZiW
 unfold fitB at hQ
 refine usable_Check_ok l _ ⟨rfl,rfl,iff_bne (fun h=>⟨⟨trivial,trivial,trivial⟩,?_⟩) (fun h=>?_)⟩
 ·have h:flErr l≠0:=h
  have e:fitE l t=flErr l:=by unfold fitE; rw [if_pos h]
  rw [e,decide_eq_false h,Bool.false_and] at hQ; exact hQ
 have h:flErr l=0:=h
 have e:fitE l t=t.check:=by unfold fitE; rw [if_neg (by simp [h])]
 rw [e] at hQ
 refine term_Check_ok t hB _ ⟨rfl,rfl,iff_bne (fun h2=>⟨⟨trivial,trivial,trivial⟩,?_⟩) (fun h2=>?_)⟩
 ·have h2:t.check≠0:=h2
  rw [decide_eq_false h2,Bool.false_and] at hQ; exact hQ
 have h2:t.check=0:=h2
 have h3:=Tm.check_zero.1 h2
 have hsm:=small_eq
 refine usable_Suits_ok h t h3.1 (by omega) _ ⟨rfl,rfl,⟨trivial,trivial,trivial⟩,?_⟩
 rw [h2,decide_eq_true rfl,Bool.true_and] at hQ; exact hQ
theorem map_allTo (xs:List Tm):(allTo xs.length).map (fun k=>xs.getD (k.toNat - 1) Tm.dflt)=xs:=by
 unfold allTo
 apply List.ext_getElem
 ·simp
 ·intro i h1 h2
  rw [List.getElem_map,List.getElem_map,List.getElem_range,show ((i:Int)+1).toNat - 1=i by omega,List.getD_eq_getElem?_getD,List.getElem?_eq_getElem h2]; rfl
section
variable {l:Fls} (he:flErr l=0)
include he
theorem usable_kept_ok (t:Tm) (hv:t.var=false) (hf:Tm.fitF l t=true) (hs:t.args.length≤1048576):Fn ZeW [flsD l,tD t] (tsD ((keptF l t.name t.args.length).map fun k=>t.args.getD (k.toNat - 1) Tm.dflt)):=fun Q hQ=>by
 obtain ⟨hlen,hnm,hbad⟩:=flErr_zero he
 have hsort:=sortF_of hnm
 refine Zpz _ _ _ _ _ ?_
 unfold ZiZ
 rw [Tm.fitF_eq,hv,Bool.false_or,Bool.and_eq_true] at hf
 have hkall:=List.all_eq_true.1 hf.1
 have hk1:=(keptF_pos hbad t.name t.args.length).1
 have hl:=Tm.encL_length t.args
 refine usable_Of_ok l t.name hsort hlen (fun y hy hfd=>⟨rfl,rfl,iff_not (iff_intro (fun _=>?_) (fun h=>by cases h))⟩) (fun hfd=>⟨rfl,rfl,iff_not (iff_intro (fun h=>by cases h) (fun _=>⟨trivial,?_⟩))⟩)
 ·rw [keptF_some _ hfd] at hQ hkall hk1
  obtain ⟨f1,f2,f3,f4⟩:=flBad_false (hbad y hy)
  refine iff_dec (fun h1=>?_) (fun h1=>?_)
  ·have h1:y.only > 0:=h1
   rw [if_pos h1] at hQ hkall
   have h2:y.only≤(t.args.length:Int):=by simpa using hkall y.only (by simp)
   have ew:IntKind.i64.wrap (y.only - 1)=((y.only.toNat - 1:Nat):Int):=by rw [wrap_in _ (by omega) (by omega)]; omega
   have hi:y.only.toNat - 1<t.args.length:=by omega
   have e:((Tm.encL t.args).take (y.only).toNat).drop (IntKind.i64.wrap (y.only - 1)).toNat=Tm.encL [t.args.getD (y.only.toNat - 1) Tm.dflt]:=by
    rw [ew,Int.toNat_natCast]
    obtain ⟨o,ho⟩:∃ o,y.only.toNat=o+1:=⟨y.only.toNat - 1,by omega⟩
    rw [ho,Nat.add_sub_cancel]
    rw [ho,Nat.add_sub_cancel] at hi
    rw [List.take_succ_eq_append_getElem (by omega),List.drop_append_of_le_length (by rw [List.length_take]; omega),List.drop_eq_nil_of_le (by rw [List.length_take]; omega),List.nil_append]
    have:=Tm.encL_getD t.args o hi
    rw [List.getD_eq_getElem?_getD,List.getElem?_eq_getElem (by omega)] at this
    have g:t.args.getD o Tm.dflt=t.args[o]:=by rw [List.getD_eq_getElem?_getD,List.getElem?_eq_getElem hi]; rfl
    rw [g]
    show [(Tm.encL t.args)[o]]=_
    simp only [Option.getD_some] at this
    rw [this,Tm.encL_eq]; rfl
   rw [List.map_singleton] at hQ
   have key:Q (.v (.sl Zb) (V.l (((Tm.encL t.args).take (y.only).toNat).drop (IntKind.i64.wrap (y.only - 1)).toNat))) []:=by rw [e]; exact hQ
   exact ⟨by show 0≤IntKind.i64.wrap (y.only - 1); omega,by show IntKind.i64.wrap (y.only - 1)≤y.only; omega,by show y.only≤((Tm.encL t.args).length:Int); omega,trivial,key⟩
  ·have h1:¬ y.only > 0:=h1
   rw [if_neg h1] at hQ hkall hk1
   show (encP y.keep).length≤big→∃ m0,Zbu Q m0 0 (V.l (encP y.keep)) ((encP y.keep).length:Int) 0 _ _ _ _
   rw [encP_length]
   intro hb
   have hb9:=keep_len f4
   generalize y.keep=ks at hQ hkall hk1 hb hb9
   refine ZjL Q _ _ _ _ _ hb (fun k n y=>y=Tm.encL ((ks.take k).map fun k=>t.args.getD (k.toNat - 1) Tm.dflt)∧n=y.length) (fun k n y hk hJ K hK=>?_) (fun n y hJ=>?_) 0 0 _ (Nat.zero_le _) ⟨rfl,rfl⟩
   ·obtain ⟨rfl,rfl⟩:=hJ
    have hin0:=List.getElem_mem hk
    have g1:=hk1 _ hin0
    have g2:ks[k]≤(t.args.length:Int):=by simpa using hkall _ hin0
    have hg:(V.list (V.l (encP ks))).getD k []=[V.i ks[k]]:=encP_getD _ k hk
    simp only [hg,List.drop_zero,List.headD_cons]
    have e2:IntKind.i64.wrap ((V.i ks[k]).int - 1)=((ks[k].toNat - 1:Nat):Int):=by
     show IntKind.i64.wrap (ks[k] - 1)=_
     rw [wrap_in (ks[k] - 1) (by omega) (by omega)]
     omega
    simp only [e2,Int.toNat_natCast]
    have hi:ks[k].toNat - 1<t.args.length:=by omega
    have g:t.args.getD (ks[k].toNat - 1) Tm.dflt=t.args[ks[k].toNat - 1]:=by rw [List.getD_eq_getElem?_getD,List.getElem?_eq_getElem hi]; rfl
    simp only [Tm.encL_getD _ _ hi,Tm.enc_eq,List.drop_zero,List.headD_cons,List.tail_cons]
    refine ⟨by omega,by show (k:Int)<((encP ks).length:Int); rw [encP_length]; omega,by omega,by omega,by trivial,?_,hK _ _ ⟨?_,?_⟩⟩
    ·show (Tm.encL _).length+1≤lim
     rw [Tm.encL_length,List.length_map,List.length_take]; unfold lim; omega
    ·rw [List.take_succ_eq_append_getElem hk,List.map_append,List.map_singleton,g]
     exact encL_snoc _ _
    ·first | (rw [List.length_append]; done) | (rw [List.length_append]; rfl)
   ·obtain ⟨rfl,rfl⟩:=hJ
    rw [List.take_length]
    exact ⟨rfl,hQ⟩
 ·rw [keptF_none _ hfd,map_allTo] at hQ
  exact hQ
theorem usable_Filtered_ok:∀ t:Tm,t.formed=true→t.size≤1048576→Tm.fitF l t=true→Fn ZaB [flsD l,tD t] (tD (Tm.ftm l t)):=Tm.ind fun t ih hf hB hfit=>Fn.as fun Q hQ=>by
 obtain ⟨hlen,hnm,hbad⟩:=flErr_zero he
 have hsort:=sortF_of hnm
 refine Zlv _ _ _ _ _ ?_
 unfold ZgA
 have hfe:=Tm.formed_eq t
 rw [hf] at hfe
 have hfit0:=hfit
 rw [Tm.fitF_eq] at hfit
 rw [Tm.ftm_eq] at hQ
 refine iff_intro (fun h=>⟨⟨trivial,trivial,trivial,trivial⟩,?_⟩) (fun h=>?_)
 ·have h:t.var=true:=h
  rw [if_pos h] at hQ
  exact hQ _ (As.last3 _ _ _)
 have h:t.var=false:=h
 rw [if_neg (by simp [h])] at hfe hQ
 rw [h,Bool.false_or,Bool.and_eq_true] at hfit
 obtain ⟨hfk,hfa⟩:=hfit
 rw [Tm.fitFL_all] at hfa
 have hfo:∀ a∈t.args,a.formed=true:=by
  have:=hfe.symm
  rw [Bool.and_eq_true] at this
  exact List.all_eq_true.1 this.2
 have hs:=Tm.size_eq t
 have hls:=Tm.length_sizeL t.args
 have hl:=Tm.encL_length t.args
 obtain ⟨hk1,hk2⟩:=keptF_pos hbad t.name t.args.length
 have hkall:=List.all_eq_true.1 hfk
 unfold Tm.selF at hQ
 rw [Tm.ftmL_length] at hQ
 have walk:(entF l t.name t.args.length).only > 0∨¬ (entF l t.name t.args.length).only > 0:=Decidable.em _
 -- the loop
 have loop:¬ (entF l t.name t.args.length).only > 0→cl ZeW [flsD l,tD t] [] fun r3 H4=>r3=(.v (.sl Zb) (r3.V))∧H4=[]∧((r3.V).list.length≤big→∃ m0,Z9 Q m0 (encFs l) (r3.V) (((r3.V).list.length:Int)) 0 bz false t.name false 0 (([]:List (List V)))):=fun h1=>by
  rw [if_neg h1] at hQ
  have hkf:keptF l t.name t.args.length=(entF l t.name t.args.length).keep:=by unfold keptF; rw [if_neg h1]
  rw [← hkf] at hQ
  refine usable_kept_ok he t h hfit0 (by omega) _ ⟨rfl,rfl,?_⟩
  generalize keptF l t.name t.args.length=ks at hQ hk1 hk2 hkall
  obtain ⟨ys,hys⟩:∃ ys,ks.map (fun k=>t.args.getD (k.toNat - 1) Tm.dflt)=ys:=⟨_,rfl⟩
  have hyl:ys.length=ks.length:=by rw [← hys,List.length_map]
  have hyg:∀ i (hi:i<ys.length),ys[i]∈t.args:=fun i hi=>by
   have hk:i<ks.length:=by omega
   have hin0:=List.getElem_mem hk
   have g1:=hk1 _ hin0
   have g2:ks[i]≤(t.args.length:Int):=by simpa using hkall _ hin0
   have hi2:ks[i].toNat - 1<t.args.length:=by omega
   have:ys[i]=t.args[ks[i].toNat - 1]:=by
    subst hys
    rw [List.getElem_map,List.getD_eq_getElem?_getD,List.getElem?_eq_getElem hi2]; rfl
   rw [this]; exact List.getElem_mem hi2
  have hym:ks.map (fun k=>(Tm.ftmL l t.args).getD (k.toNat - 1) Tm.dflt)=ys.map (Tm.ftm l):=by
   rw [← hys,List.map_map]
   refine List.map_congr_left fun k hk=>?_
   have g1:=hk1 _ hk
   have g2:k≤(t.args.length:Int):=by simpa using hkall _ hk
   have hi2:k.toNat - 1<t.args.length:=by omega
   show _=Tm.ftm l (t.args.getD (k.toNat - 1) Tm.dflt)
   rw [Tm.ftmL_getD _ _ _ hi2,List.getD_eq_getElem?_getD,List.getElem?_eq_getElem hi2]; rfl
  rw [hys]
  rw [hym] at hQ
  have hel:=Tm.encL_length ys
  show (Tm.encL ys).length≤big→∃ m0,Z9 Q m0 _ (V.l (Tm.encL ys)) ((Tm.encL ys).length:Int) 0 _ _ _ _ _ _
  rw [hel]
  intro hb
  refine Zhh Q _ _ _ _ _ _ _ hb (fun k n y=>y=Tm.encL ((ys.take k).map (Tm.ftm l))∧n=y.length) (fun k n y hk hJ K hK=>?_) (fun n y hJ=>?_) 0 0 _ (Nat.zero_le _) ⟨rfl,rfl⟩
  ·obtain ⟨rfl,rfl⟩:=hJ
   have hg:(V.list (V.l (Tm.encL ys))).getD k []=(ys[k]).enc:=Tm.encL_getD _ k hk
   simp only [hg,Tm.enc_eq,List.drop_zero,List.headD_cons,List.tail_cons]
   have hin:=hyg k hk
   have:=Tm.size_mem hin
   refine ⟨by omega,by show (k:Int)<((Tm.encL ys).length:Int); rw [hel]; omega,tD (Tm.ftm l ys[k]),(ih _ hin (hfo _ hin) (by omega) (List.all_eq_true.1 hfa _ hin)).here rfl,by trivial,?_,hK _ _ ⟨?_,?_⟩⟩
   ·show (Tm.encL _).length+1≤lim
    rw [Tm.encL_length,List.length_map,List.length_take]; unfold lim; omega
   ·rw [List.take_succ_eq_append_getElem hk,List.map_append,List.map_singleton]
    exact encL_snoc _ _
   ·first | (rw [List.length_append]; done) | (rw [List.length_append]; rfl)
  ·obtain ⟨rfl,rfl⟩:=hJ
   rw [List.take_length]
   exact ⟨⟨trivial,trivial,rfl,trivial⟩,hQ _ (.refl _)⟩
 refine usable_Of_ok l t.name hsort hlen (fun y hy hfd=>⟨rfl,rfl,iff_intro (fun _=>?_) (fun h=>by cases h)⟩) (fun hfd=>⟨rfl,rfl,iff_intro (fun h=>by cases h) (fun _=>?_)⟩)
 ·rw [Ze1]
  have hent:=entF_some t.args.length hfd
  refine iff_dec (fun h1=>?_) (fun h1=>loop (by rw [hent]; exact h1))
  have h1:y.only > 0:=h1
  have hkf:keptF l t.name t.args.length=[y.only]:=by rw [keptF_some _ hfd,if_pos h1]
  rw [hent,if_pos h1] at hQ
  have h2:y.only≤(t.args.length:Int):=by
   have:=hkall y.only (by rw [hkf]; simp)
   simpa using this
  have hi:y.only.toNat - 1<t.args.length:=by omega
  have e2:IntKind.i64.wrap ((V.i y.only).int - 1)=((y.only.toNat - 1:Nat):Int):=by
   show IntKind.i64.wrap (y.only - 1)=_
   rw [wrap_in _ (by omega) (by omega)]
   omega
  have e3:(((flD y).cells.tail).headD D.undef).V=V.i y.only:=rfl
  rw [Tm.ftmL_getD _ _ _ hi] at hQ
  have hin:=List.getElem_mem hi
  have:=Tm.size_mem hin
  show 0≤IntKind.i64.wrap ((V.i y.only).int - 1)∧IntKind.i64.wrap ((V.i y.only).int - 1)<((Tm.encL t.args).length:Int)∧cl ZaB [flsD l,.agg [.v .str ((((Tm.encL t.args).getD (IntKind.i64.wrap ((V.i y.only).int - 1)).toNat []).drop 0).headD V.none),.v .bool (((((Tm.encL t.args).getD (IntKind.i64.wrap ((V.i y.only).int - 1)).toNat []).drop 0).tail).headD V.none),.v (.sl Zb) ((((((Tm.encL t.args).getD (IntKind.i64.wrap ((V.i y.only).int - 1)).toNat []).drop 0).tail).tail).headD V.none)]] [] _
  simp only [e2,Int.toNat_natCast,Tm.encL_getD _ _ hi,Tm.enc_eq,List.drop_zero,List.headD_cons,List.tail_cons]
  exact ⟨by omega,by omega,ih _ hin (hfo _ hin) (by omega) (List.all_eq_true.1 hfa _ hin) _ ⟨rfl,rfl,⟨trivial,trivial,trivial,trivial⟩,hQ _ (.refl _)⟩⟩
 ·rw [Ze1]
  have hent:=entF_none t.args.length hfd
  exact loop (by rw [hent]; exact Int.lt_irrefl 0)
end
def ftE (l:Fls) (t:Tm):Int:=if fitE l t≠0 then fitE l t else if Tm.fitF l t then 0 else 10
def ftR (l:Fls) (t:Tm):Tm:=if ftE l t=0 then Tm.ftm l t else Tm.dflt
theorem usable_Term_ok (l:Fls) (t:Tm) (hB:t.size≤small):Fn ZbB [flsD l,tD t] (.tup [tD (ftR l t),iD (ftE l t)]):=Fn.as fun Q hQ=>by
 refine ZpB _ _ _ _ _ ?_
 unfold Zi1
 have hsm:=small_eq
 have err:∀ e:Int,e≠0→ftE l t=e→((True∧True∧True∧True)∧True∧True)∧Q (.tup [.agg [sD bz,bD false,.nil],iD e]) []:=fun e h0 h=>by
  refine ⟨⟨⟨trivial,trivial,trivial,trivial⟩,trivial,trivial⟩,hQ _ ?_⟩
  unfold ftR
  rw [h,if_neg h0]
  exact As.pair (As.last3 _ _ _) (.refl _)
 refine usable_Fits_ok l t hB _ ⟨rfl,rfl,iff_bne (fun h=>err _ h ?_) (fun h=>?_)⟩
 ·have h:fitE l t≠0:=h
  unfold ftE; rw [if_pos h]
 have h:fitE l t=0:=h
 obtain ⟨h1,h2⟩:=fitE_zero h
 have h3:=Tm.check_zero.1 h2
 refine iff_not (iff_intro (fun h4=>?_) (fun h4=>err 10 (by omega) ?_))
 ·have h4:fitB l t=true:=h4
  unfold fitB at h4
  rw [h,decide_eq_true rfl,Bool.true_and] at h4
  have hz:ftE l t=0:=by unfold ftE; rw [if_neg (by simp [h]),if_pos h4]
  unfold ftR at hQ
  rw [hz,if_pos rfl] at hQ
  exact usable_Filtered_ok h1 t h3.1 (by omega) h4 _ ⟨rfl,rfl,⟨⟨trivial,trivial,trivial,trivial⟩,trivial,trivial⟩,hQ _ (.refl _)⟩
 ·have h4:fitB l t=false:=h4
  unfold fitB at h4
  rw [h,decide_eq_true rfl,Bool.true_and] at h4
  unfold ftE; rw [if_neg (by simp [h]),h4]; rfl
end Go.Proofs.YthjlodlkpgjlkaaGreat
namespace Go.Proofs.YthjlodlkpgjlkaaGreat
open Go Go.Abs
theorem mget_keysB (x:ByteArray):∀ l:List ByteArray,((mget [.str] [V.b false] [V.s x] (keysB l)).headD V.none).bool=hasN l x
 | []=>rfl
 | y::l=>by
  have ih:=mget_keysB x l
  have e:keysB (y::l)=[V.s y,V.b true]::keysB l:=rfl
  unfold mget at ih ⊢
  rw [e,mlook,keyEqS]
  have e2:hasN (y::l) x=(decide (y=x)||hasN l x):=rfl
  rw [e2]
  by_cases h:x=y
  ·rw [decide_eq_true h,decide_eq_true h.symm]; rfl
  ·rw [decide_eq_false h,decide_eq_false fun e=>h e.symm,Bool.false_or]; exact ih
theorem kept_mem {xs:List Tm} {ks:List Int} (h1:∀ k∈ks,1≤k) (h2:∀ k∈ks,k≤(xs.length:Int)):∀ a∈ks.map (fun k=>xs.getD (k.toNat - 1) Tm.dflt),a∈xs:=fun a ha=>by
 obtain ⟨k,hk,rfl⟩:=List.mem_map.1 ha
 have g1:=h1 k hk
 have g2:=h2 k hk
 have hi2:k.toNat - 1<xs.length:=by omega
 rw [List.getD_eq_getElem?_getD,List.getElem?_eq_getElem hi2]
 exact List.getElem_mem hi2
theorem kept_rem {l:Fls} {xs:List Tm} {ks:List Int} (h1:∀ k∈ks,1≤k) (h2:∀ k∈ks,k≤(xs.length:Int)):(ks.flatMap fun k=>(Tm.remNL l xs).getD (k.toNat - 1) [])=(ks.map (fun k=>xs.getD (k.toNat - 1) Tm.dflt)).flatMap (Tm.remN l):=by
 rw [List.flatMap_map]
 induction ks with
 | nil=>rfl
 | cons k ks ih =>
  have g1:=h1 k (by simp)
  have g2:=h2 k (by simp)
  have hi2:k.toNat - 1<xs.length:=by omega
  rw [List.flatMap_cons,List.flatMap_cons,ih (fun k hk=>h1 k (by simp [hk])) (fun k hk=>h2 k (by simp [hk])),Tm.remNL_getD _ _ _ hi2]
  have g:xs.getD (k.toNat - 1) Tm.dflt=xs[k.toNat - 1]:=by rw [List.getD_eq_getElem?_getD,List.getElem?_eq_getElem hi2]; rfl
  rw [g]
section
variable {l:Fls} (he:flErr l=0)
include he
theorem usable_remain_ok:∀ t:Tm,t.size≤1048576→Tm.fitF l t=true→∀ (ks:List ByteArray) (Q:D→Heap→Prop),
  (∀ ks':List ByteArray,(∀ x,x∈ks'↔x∈ks∨x∈Tm.remN l t)→Q (.tup []) [.map Zbl (keysB ks')])→cl Zbj [flsD l,tD t,.mp (.own 0)] [.map Zbl (keysB ks)] Q:=Tm.ind fun t ih hB hfit ks Q hQ=>by
 obtain ⟨hlen,hnm,hbad⟩:=flErr_zero he
 refine Zol _ _ _ _ _ _ ?_
 unfold Zhq
 have hfit0:=hfit
 rw [Tm.fitF_eq] at hfit
 rw [Tm.remN_eq] at hQ
 refine iff_intro (fun h=>⟨trivial,?_⟩) (fun h=>?_)
 ·have h:t.var=true:=h
  rw [if_pos h] at hQ
  exact hQ ks fun x=>by simp
 have h:t.var=false:=h
 rw [if_neg (by simp [h])] at hQ
 rw [h,Bool.false_or,Bool.and_eq_true] at hfit
 obtain ⟨hfk,hfa⟩:=hfit
 rw [Tm.fitFL_all] at hfa
 have hs:=Tm.size_eq t
 have hls:=Tm.length_sizeL t.args
 obtain ⟨hk1,hk2⟩:=keptF_pos hbad t.name t.args.length
 have hk3:∀ k∈keptF l t.name t.args.length,k≤(t.args.length:Int):=fun k hk=>by simpa using List.all_eq_true.1 hfk k hk
 rw [kept_rem hk1 hk3] at hQ
 refine usable_kept_ok he t h hfit0 (by omega) _ ⟨rfl,rfl,?_⟩
 have hym:=kept_mem hk1 hk3
 generalize (keptF l t.name t.args.length).map (fun k=>t.args.getD (k.toNat - 1) Tm.dflt)=ys at hQ hym
 have hel:=Tm.encL_length ys
 show (Tm.encL ys).length≤big→∃ m0,ZaR Q m0 _ (V.l (Tm.encL ys)) ((Tm.encL ys).length:Int) 0 (mset [.str] [V.s t.name] [V.b true] (keysB ks))
 rw [hel,mset_keysB]
 intro hb
 refine Zie Q _ _ _ hb (fun k h=>∃ m:List ByteArray,h=keysB m∧∀ y,y∈m↔y∈ks∨y=t.name∨y∈(ys.take k).flatMap (Tm.remN l)) (fun k h hk hJ K hK=>?_) (fun h hJ=>?_) 0 _ (Nat.zero_le _) ⟨addN ks t.name,rfl,fun y=>?_⟩
 ·obtain ⟨m,rfl,hmem⟩:=hJ
  have hg:(V.list (V.l (Tm.encL ys))).getD k []=(ys[k]).enc:=Tm.encL_getD _ k hk
  simp only [hg,Tm.enc_eq,List.drop_zero,List.headD_cons,List.tail_cons]
  have hin:=hym _ (List.getElem_mem hk)
  have:=Tm.size_mem hin
  refine ⟨by omega,by show (k:Int)<((Tm.encL ys).length:Int); rw [hel]; omega,ih _ hin (by omega) (List.all_eq_true.1 hfa _ hin) m _ fun m' hm1=>⟨rfl,rfl,hK _ ⟨m',rfl,fun y=>?_⟩⟩⟩
  rw [hm1,hmem,List.take_succ_eq_append_getElem hk,List.flatMap_append,List.flatMap_cons,List.flatMap_nil,List.append_nil,List.mem_append]
  constructor
  ·rintro ((h | h | h) | h)
   ·exact .inl h
   ·exact .inr (.inl h)
   ·exact .inr (.inr (.inl h))
   ·exact .inr (.inr (.inr h))
  ·rintro (h | h | h | h)
   ·exact .inl (.inl h)
   ·exact .inl (.inr (.inl h))
   ·exact .inl (.inr (.inr h))
   ·exact .inr h
 ·obtain ⟨m,rfl,hmem⟩:=hJ
  rw [List.take_length] at hmem
  refine ⟨trivial,hQ m fun x=>?_⟩
  rw [hmem,List.mem_cons]
 ·rw [mem_addN]
  simp only [List.take_zero,List.flatMap_nil,List.not_mem_nil,or_false]
theorem usable_SuitAll_1_ok (x:Tm×Tm) (hs:(x.1.size≤4000∧x.2.size≤4000)∧x.1.formed=true∧x.2.formed=true) {Q:D→Heap→Prop} (hQ:Q (bD (!(Tm.fitF l x.1&&Tm.fitF l x.2))) [.cells [flsD l]]):cl ZL [.agg [.v .str (.s x.1.name),.v .bool (.b x.1.var),.v (.sl Zb) (.l (Tm.encL x.1.args)),.v .str (.s x.2.name),.v .bool (.b x.2.var),.v (.sl Zb) (.l (Tm.encL x.2.args))],.ptr (.own 0) 0] [.cells [flsD l]] Q:=by
 refine ZkO _ _ _ _ _ _ _ _ ?_
 unfold Zge
 refine usable_Suits_ok he x.1 hs.2.1 (by omega) _ ⟨rfl,rfl,iff_not (iff_intro (fun h=>usable_Suits_ok he x.2 hs.2.2 (by omega) _ ⟨rfl,rfl,trivial,?_⟩) (fun h=>⟨trivial,?_⟩))⟩
 ·have h:Tm.fitF l x.1=true:=h
  rw [h,Bool.true_and] at hQ; exact hQ
 ·have h:Tm.fitF l x.1=false:=h
  rw [h,Bool.false_and] at hQ; exact hQ
theorem IndexFunc_suit_ok (r:Ru) (hB:∀ x∈r,(x.1.size≤4000∧x.2.size≤4000)∧x.1.formed=true∧x.2.formed=true) {Q:D→Heap→Prop} (hQ:Q (iD (idx (fun x:Tm×Tm=>!(Tm.fitF l x.1&&Tm.fitF l x.2)) r)) [.cells [flsD l]]) :
  cl ZG [ruD r,.fn ZL [.ptr (.own 0) 0]] [.cells [flsD l]] Q:=by
 refine Zdf _ _ _ fun hb=>?_
 have hl:=encRs_length r
 rw [hl] at hb ⊢
 refine Zb0 Q _ _ hb (fun k h=>h=V.l (encFs l)∧(r.take k).any (fun x:Tm×Tm=>!(Tm.fitF l x.1&&Tm.fitF l x.2))=false) (fun k h hk hJ K hK=>?_) (fun h hJ=>?_) 0 _ (Nat.zero_le _) ⟨rfl,rfl⟩
 ·obtain ⟨rfl,hJ⟩:=hJ
  simp only [encRs_getD _ k hk,List.drop_zero,List.headD_cons,List.tail_cons]
  refine ⟨by omega,by omega,usable_SuitAll_1_ok he r[k] (hB _ (List.getElem_mem hk)) ⟨rfl,rfl,iff_intro (fun h=>⟨trivial,?_⟩) (fun h=>hK _ ⟨rfl,any_take hk hJ h⟩)⟩⟩
  rw [idx_at hk hJ h] at hQ
  exact hQ
 ·obtain ⟨rfl,hJ⟩:=hJ
  rw [List.take_length] at hJ
  rw [idx_none hJ] at hQ
  exact ⟨trivial,hQ⟩
theorem ContainsFunc_suit_ok (r:Ru) (hB:∀ x∈r,(x.1.size≤4000∧x.2.size≤4000)∧x.1.formed=true∧x.2.formed=true) {Q:D→Heap→Prop} (hQ:Q (bD (!(r.all fun x:Tm×Tm=>Tm.fitF l x.1&&Tm.fitF l x.2))) [.cells [flsD l]]) :
  cl Zj [ruD r,.fn ZL [.ptr (.own 0) 0]] [.cells [flsD l]] Q:=by
 refine ZcC _ _ _ ?_
 unfold Zaw
 refine IndexFunc_suit_ok he r hB ⟨rfl,rfl,trivial,?_⟩
 have e:(!(r.all fun x:Tm×Tm=>Tm.fitF l x.1&&Tm.fitF l x.2))=r.any fun x:Tm×Tm=>!(Tm.fitF l x.1&&Tm.fitF l x.2):=by
  rw [List.all_eq_not_any_not,Bool.not_not]
 rw [e,← idx_any] at hQ
 exact hQ
theorem usable_SuitAll_ok (p r:Ru) (hp:∀ x∈p,(x.1.size≤4000∧x.2.size≤4000)∧x.1.formed=true∧x.2.formed=true) (hr:∀ x∈r,(x.1.size≤4000∧x.2.size≤4000)∧x.1.formed=true∧x.2.formed=true) :
  Fn ZfE [flsD l,.v (.sl Zfh) (V.l [[V.l (encRs p)],[V.l (encRs r)]])] (bD ((p.all fun x=>Tm.fitF l x.1&&Tm.fitF l x.2)&&(r.all fun x=>Tm.fitF l x.1&&Tm.fitF l x.2))):=fun Q hQ=>by
 refine Zmm _ _ _ fun hb=>?_
 refine ZhA Q _ 2 (by unfold big; omega) (fun k y=>y=V.l (encFs l)∧(1≤k→(p.all fun x=>Tm.fitF l x.1&&Tm.fitF l x.2)=true)∧(2≤k→(r.all fun x=>Tm.fitF l x.1&&Tm.fitF l x.2)=true)) (fun k y hk hJ K hK=>?_) (fun y hJ=>?_) 0 _ (Nat.zero_le _) ⟨rfl,fun h=>by omega,fun h=>by omega⟩
 ·obtain ⟨rfl,hJ1,hJ2⟩:=hJ
  match k,hk with
  | 0,_ =>
   refine ⟨by omega,by show (0:Int)<((2:Nat):Int); decide,ContainsFunc_suit_ok he p hp ⟨rfl,rfl,iff_not (iff_intro (fun h=>hK _ ⟨rfl,fun _=>h,fun h=>by omega⟩) (fun h=>⟨trivial,?_⟩))⟩⟩
   have h:(p.all fun x=>Tm.fitF l x.1&&Tm.fitF l x.2)=false:=h
   rw [h,Bool.false_and] at hQ; exact hQ
  | 1,_ =>
   refine ⟨by omega,by show (1:Int)<((2:Nat):Int); decide,ContainsFunc_suit_ok he r hr ⟨rfl,rfl,iff_not (iff_intro (fun h=>hK _ ⟨rfl,fun _=>hJ1 (by omega),fun _=>h⟩) (fun h=>⟨trivial,?_⟩))⟩⟩
   have h:(r.all fun x=>Tm.fitF l x.1&&Tm.fitF l x.2)=false:=h
   rw [h,Bool.and_false] at hQ; exact hQ
  | n+2,h=>omega
 ·obtain ⟨rfl,hJ1,hJ2⟩:=hJ
  rw [hJ1 (by omega),hJ2 (by omega)] at hQ
  exact ⟨trivial,hQ⟩
end
def selB (bs:List Bool) (k:Nat):List Int:=((List.range k).filter fun i=>bs.getD i false).map fun i:Nat=>(i:Int)
theorem selB_yes {bs:List Bool} {k:Nat} (h:bs.getD k false=true):selB bs (k+1)=selB bs k++[(k:Int)]:=by
 unfold selB
 rw [List.range_succ,List.filter_append,List.map_append,List.filter_cons_of_pos (p:=fun i=>bs.getD i false) h,List.filter_nil]; rfl
theorem selB_no {bs:List Bool} {k:Nat} (h:bs.getD k false=false):selB bs (k+1)=selB bs k:=by
 unfold selB
 rw [List.range_succ,List.filter_append,List.map_append,List.filter_cons_of_neg (by rw [h]; simp),List.filter_nil,List.map_nil,List.append_nil]
theorem selB_length (bs:List Bool) (k:Nat):(selB bs k).length≤k:=by
 unfold selB
 rw [List.length_map]
 exact Nat.le_trans (List.length_filter_le _ _) (Nat.le_of_eq List.length_range)
open Classical in
theorem selB_us {l:Fls} {p r:Ru} {bs:List Bool} (h:∀ i (hi:i<r.length),bs.getD i false=true↔Use l p r (r[i]).1.name):selB bs r.length=usIdx l p r r.length:=by
 unfold selB usIdx
 congr 1
 refine List.filter_congr fun i hi=>?_
 have hi:i<r.length:=by simpa using hi
 have e:(r.getD i (Tm.dflt,Tm.dflt))=r[i]:=by rw [List.getD_eq_getElem?_getD,List.getElem?_eq_getElem hi]; rfl
 rw [e,Bool.eq_iff_iff,decide_eq_true_iff]
 exact h i hi
def encB1 (l:List Bool):LL:=l.map fun b=>[V.b b]
theorem encB1_length (l:List Bool):(encB1 l).length=l.length:=by simp [encB1]
theorem encB1_getD (l:List Bool) (k:Nat) (h:k<l.length):(encB1 l).getD k []=[V.b (l.getD k false)]:=by
 unfold encB1
 rw [List.getD_eq_getElem?_getD,List.getElem?_map,List.getElem?_eq_getElem h,List.getD_eq_getElem?_getD,List.getElem?_eq_getElem h]; rfl
theorem encB1_set (l:List Bool) (k:Nat):(encB1 l).set k [V.b true]=encB1 (l.set k true):=by
 unfold encB1; rw [List.map_set]
def countF (l:List Bool):Nat:=(l.filter fun b=>!b).length
theorem countF_set {l:List Bool} {k:Nat} (hk:k<l.length) (h:l.getD k false=false):countF (l.set k true)<countF l:=by
 unfold countF
 induction l generalizing k with
 | nil=>simp at hk
 | cons b l ih =>
  cases k with
  | zero =>
   have h:b=false:=h
   subst h
   show ((true::l).filter _).length<_
   rw [List.filter_cons_of_neg (by simp),List.filter_cons_of_pos (by simp),List.length_cons]; omega
  | succ k =>
   have:=ih (k:=k) (by simpa using hk) h
   show ((b::l.set k true).filter _).length<_
   cases b
   ·rw [List.filter_cons_of_pos (by simp),List.filter_cons_of_pos (by simp),List.length_cons,List.length_cons]; omega
   ·rw [List.filter_cons_of_neg (by simp),List.filter_cons_of_neg (by simp)]; exact this
def countV (y:LL):Nat:=(y.filter fun c=>!((c.headD V.none).bool)).length
theorem countV_enc (l:List Bool):countV (encB1 l)=countF l:=by
 unfold countV countF encB1
 rw [List.filter_map,List.length_map]; rfl
def UI (l:Fls) (p r:Ru) (ks:List ByteArray) (bs:List Bool):Prop :=
 bs.length=r.length∧(∀ x∈ks,Use l p r x)∧(∀ y∈p,∀ x∈Tm.remN l y.2,x∈ks)∧∀ i (hi:i<r.length),bs.getD i false=true→(r[i]).1.name∈ks∧∀ x∈Tm.remN l (r[i]).2,x∈ks
theorem UI.done {l:Fls} {p r:Ru} {ks:List ByteArray} {bs:List Bool} (h:UI l p r ks bs) (hn:∀ i (hi:i<r.length),bs.getD i false=false→(r[i]).1.name ∉ ks):selB bs r.length=usIdx l p r r.length:=by
 obtain ⟨h1,h2,h3,h4⟩:=h
 have hc:ClosedU l r (·∈ks):=fun y hy hm x hx=>by
  obtain ⟨i,hi,rfl⟩:=List.mem_iff_getElem.1 hy
  cases hb:bs.getD i false with
  | true=>exact (h4 i hi hb).2 x hx
  | false=>exact absurd hm (hn i hi hb)
 have hu:=use_of (m:=(·∈ks)) h2 h3 hc
 refine selB_us fun i hi=>⟨fun hb=>h2 _ (h4 i hi hb).1,fun hx=>?_⟩
 cases hb:bs.getD i false with
 | true=>rfl
 | false=>exact absurd ((hu _).2 hx) (hn i hi hb)
theorem UI.take {l:Fls} {p r:Ru} {ks ks':List ByteArray} {bs:List Bool} (h:UI l p r ks bs) {k:Nat} (hk:k<r.length) (hm:(r[k]).1.name∈ks) (he:∀ x,x∈ks'↔x∈ks∨x∈Tm.remN l (r[k]).2):UI l p r ks' (bs.set k true):=by
 obtain ⟨h1,h2,h3,h4⟩:=h
 refine ⟨by rw [List.length_set]; exact h1,fun x hx=>?_,fun y hy x hx=>(he x).2 (.inl (h3 y hy x hx)),fun i hi hb=>?_⟩
 ·rcases (he x).1 hx with h | h
  ·exact h2 x h
  ·exact .step _ _ (List.getElem_mem hk) (h2 _ hm) h
 ·by_cases hik:i=k
  ·subst hik
   exact ⟨(he _).2 (.inl hm),fun x hx=>(he x).2 (.inr hx)⟩
  ·have hb':bs.getD i false=true:=by
    rw [List.getD_eq_getElem?_getD,List.getElem?_set_ne (fun h=>hik h.symm)] at hb
    rw [List.getD_eq_getElem?_getD]; exact hb
   obtain ⟨g1,g2⟩:=h4 i hi hb'
   exact ⟨(he _).2 (.inl g1),fun x hx=>(he x).2 (.inl (g2 x hx))⟩
section
variable {l:Fls} (he:flErr l=0)
include he
theorem usable_Usable_ok (p r:Ru) (hp:∀ x∈p,(x.1.size≤4000∧x.2.size≤4000)) (hr:∀ x∈r,(x.1.size≤4000∧x.2.size≤4000)) (lp:p.length≤64) (lr:r.length≤64)
  (fp:∀ x∈p,Tm.fitF l x.2=true) (fr:∀ x∈r,Tm.fitF l x.2=true):Fn Zgd [flsD l,ruD p,ruD r] (psD (usIdx l p r r.length)):=fun Q hQ=>by
 refine Zn7 _ _ _ _ fun hb=>?_
 have hlp:=encRs_length p
 have hlr:=encRs_length r
 rw [hlp] at hb ⊢
 -- the result
 have last:∀ bs:List Bool,bs.length=r.length→selB bs r.length=usIdx l p r r.length→(r.length≤big→∃ m3,Zaq Q m3 0 r.length (r.length:Int) 0 (encB1 bs) []):=fun bs hbl hsel hb3=>by
  refine ZhU Q _ _ _ hb3 (fun k n y=>y=encP (selB bs k)∧n=y.length) (fun k n y hk hJ K hK=>?_) (fun n y hJ=>?_) 0 0 _ (Nat.zero_le _) ⟨rfl,rfl⟩
  ·obtain ⟨rfl,rfl⟩:=hJ
   have hsl:=selB_length bs k
   have hk2:k<bs.length:=by omega
   have hbl2:(encB1 bs).length=r.length:=by rw [encB1_length,hbl]
   simp only [encB1_getD bs k hk2,List.drop_zero,List.headD_cons]
   refine ⟨hbl2,by omega,by omega,hbl2,hk,iff_intro (fun h=>?_) (fun h=>?_)⟩
   ·have h:bs.getD k false=true:=h
    refine ⟨by trivial,?_,hK _ _ ⟨?_,?_⟩⟩
    ·show (encP _).length+1≤lim
     rw [encP_length]; unfold lim; omega
    ·rw [selB_yes h]; simp [encP]
    ·first | (rw [List.length_append]; done) | (rw [List.length_append]; rfl)
   ·have h:bs.getD k false=false:=h
    exact hK _ _ ⟨by rw [selB_no h],rfl⟩
  ·obtain ⟨rfl,rfl⟩:=hJ
   rw [hsel]
   exact ⟨rfl,hQ⟩
 refine ZhZ Q _ _ _ _ hb (fun k y=>∃ ks:List ByteArray,y=keysB ks∧∀ x,x∈ks↔∃ i,∃ hi:i<p.length,i<k∧x∈Tm.remN l (p[i]).2) (fun k y hk hJ K hK=>?_) (fun y hJ=>?_) 0 _ (Nat.zero_le _) ⟨[],rfl,fun x=>by simp⟩
 ·obtain ⟨ks,rfl,hmem⟩:=hJ
  have hin:=List.getElem_mem hk
  have hsz:=hp _ hin
  simp only [encRs_getD _ k hk,List.drop_zero,List.headD_cons,List.tail_cons]
  refine ⟨by omega,by rw [hlp]; omega,usable_remain_ok he (p[k]).2 (by omega) (fp _ hin) ks _ fun ks' hk'=>⟨rfl,rfl,hK _ ⟨ks',rfl,fun x=>?_⟩⟩⟩
  rw [hk',hmem]
  constructor
  ·rintro (⟨i,hi,hik,h⟩ | h)
   ·exact ⟨i,hi,by omega,h⟩
   ·exact ⟨k,hk,by omega,h⟩
  ·rintro ⟨i,hi,hik,h⟩
   rcases Nat.lt_succ_iff_lt_or_eq.1 hik with h8 | h8
   ·exact .inl ⟨i,hi,h8,h⟩
   ·subst h8; exact .inr h
 ·obtain ⟨ks0,rfl,hmem0⟩:=hJ
  intro hb1
  rw [hlr] at hb1 ⊢
  have hz:zeroRow [.bool] ((r.length:Int)).toNat=encB1 (List.replicate r.length false):=by
   rw [Int.toNat_natCast]; simp [zeroRow,encB1,zeroV]
  rw [hz]
  refine ⟨by omega,rfl,by show ((r.length:Nat):Int)≤((lim:Nat):Int); unfold lim; omega,?_⟩
  refine Zit Q (fun x0 x2 n g y b=>x0=encFs l∧x2=encRs r∧n=r.length∧∃ ks bs,y=keysB ks∧b=encB1 bs∧UI l p r ks bs∧(g=false→∀ i (hi:i<r.length),bs.getD i false=false→(r[i]).1.name ∉ ks))
   (fun x0 x2 n g y b=>2*countV b+(if g=true then 1 else 0)) (fun x0 x2 n g y b hI m1 hK=>?_) _ _ _ _ _ _ ⟨rfl,rfl,by rw [Int.toNat_natCast],ks0,_,rfl,rfl,⟨by simp,fun x hx=>?_,fun y hy x hx=>?_,fun i hi hb=>?_⟩,fun h=>by cases h⟩
  ·obtain ⟨rfl,rfl,rfl,ks,bs,rfl,rfl,hU,hg⟩:=hI
   have hbl:=hU.1
   have hbl2:(encB1 bs).length=r.length:=by rw [encB1_length,hbl]
   unfold ZeJ
   rw [hlr]
   refine iff_intro (fun hgt=>?_) (fun hgf=>⟨hbl2,last bs hbl (hU.done (hg hgf))⟩)
   subst hgt
   intro hb2
   refine Zid Q m1 _ _ _ _ _ hb2 (fun k g y b=>∃ ks' bs',y=keysB ks'∧b=encB1 bs'∧UI l p r ks' bs'∧countF bs'≤countF bs∧(g=true→countF bs' < countF bs)∧(g=false→∀ i (hi:i<r.length),i<k→bs'.getD i false=false→(r[i]).1.name ∉ ks')) (fun k g y b hk hJ m2 hK2=>?_) (fun g y b hJ=>?_) 0 _ _ _ (Nat.zero_le _) ⟨ks,bs,rfl,rfl,hU,Nat.le_refl _,fun h=>(by cases h),fun _ i hi h=>(by omega)⟩
   ·obtain ⟨ks',bs',rfl,rfl,hU',hc1,hc2,hc3⟩:=hJ
    have hbl':=hU'.1
    have hk2:k<bs'.length:=by omega
    have hbl3:(encB1 bs').length=r.length:=by rw [encB1_length,hbl']
    have hin:=List.getElem_mem hk
    have hsz:=hr _ hin
    have stay:(bs'.getD k false=false→(r[k]).1.name ∉ ks')→Zab Q m1 m2 (encFs l) (encRs r) r.length g (encRs r) (r.length:Int) (IntKind.i64.wrap ((k:Int)+1)) (keysB ks') (encB1 bs'):=fun h=>hK2 _ _ _ ⟨ks',bs',rfl,rfl,hU',hc1,hc2,fun hg i hi hik hb=>by
     rcases Nat.lt_succ_iff_lt_or_eq.1 hik with h8 | h8
     ·exact hc3 hg i hi h8 hb
     ·subst h8; exact h hb⟩
    simp only [encRs_getD _ k hk,encB1_getD bs' k hk2,List.drop_zero,List.headD_cons,List.tail_cons]
    refine ⟨by omega,by rw [hlr]; omega,hbl3,by omega,by omega,hbl3,hk,iff_not (iff_intro (fun h=>?_) (fun h=>?_))⟩
    ·have h:bs'.getD k false=true:=h
     rw [ZfK]
     exact stay fun h2=>by rw [h] at h2; cases h2
    ·have h:bs'.getD k false=false:=h
     rw [ZfK]
     unfold Zgq
     rw [mget_keysB]
     refine iff_intro (fun hm=>?_) (fun hm=>stay fun _=>hasN_false.1 hm)
     have hm:=hasN_iff.1 hm
     refine ⟨hbl3,by omega,by omega,hbl3,by rw [Int.toNat_natCast]; exact hk,usable_remain_ok he (r[k]).2 (by omega) (fr _ hin) ks' _ fun ks2 hk3=>⟨rfl,rfl,?_⟩⟩
     have es:(encB1 bs').set ((k:Int)).toNat (setV ((encB1 bs').getD ((k:Int)).toNat []) 0 [V.b true])=encB1 (bs'.set k true):=by
      rw [Int.toNat_natCast,encB1_getD bs' k hk2,← encB1_set]; rfl
     rw [es]
     have hlt:=countF_set hk2 h
     exact hK2 _ _ _ ⟨ks2,bs'.set k true,rfl,rfl,hU'.take hk hm hk3,by omega,fun _=>by omega,fun h=>by cases h⟩
   ·obtain ⟨ks',bs',rfl,rfl,hU',hc1,hc2,hc3⟩:=hJ
    refine hK _ _ _ _ _ _ ⟨rfl,rfl,rfl,ks',bs',rfl,rfl,hU',fun hg i hi hb=>hc3 hg i hi hi hb⟩ ?_
    rw [countV_enc,countV_enc]
    cases g with
    | true=>have:=hc2 rfl; simp; omega
    | false=>simp; omega
  ·obtain ⟨i,hi,_,h⟩:=(hmem0 x).1 hx
   exact .base _ _ (List.getElem_mem hi) h
  ·obtain ⟨i,hi,rfl⟩:=List.mem_iff_getElem.1 hy
   exact (hmem0 x).2 ⟨i,hi,hi,hx⟩
  ·rw [List.getD_eq_getElem?_getD,List.getElem?_replicate,if_pos hi] at hb
   cases hb
end
theorem usable_Rules_ok (l:Fls) (p r:Ru) (hp:∀ x∈p,x.1.size≤small∧x.2.size≤small) (hr:∀ x∈r,x.1.size≤small∧x.2.size≤small):Fn ZbJ [flsD l,ruD p,ruD r] (.tup [psD (useR l p r),iD (useE l p r)]):=Fn.as fun Q hQ=>by
 refine ZoW _ _ _ _ ?_
 unfold Zic
 have err:∀ e:Int,e≠0→useE l p r=e→(True∧True∧True)∧Q (.tup [.nil,iD e]) []:=fun e he h=>by
  refine ⟨⟨trivial,trivial,trivial⟩,hQ _ ?_⟩
  unfold useR
  rw [h,if_neg he]
  exact .pair (.nil _ _ rfl) (.refl _)
 refine usable_Check_ok l _ ⟨rfl,rfl,iff_bne (fun h=>err (flErr l) h ?_) (fun h=>?_)⟩
 ·have h:flErr l≠0:=h
  unfold useE; rw [if_pos h]
 have hf:flErr l=0:=h
 refine pairs_Check_ok p r hp hr _ ⟨rfl,rfl,iff_bne (fun h=>err (pairE p r) h ?_) (fun h=>?_)⟩
 ·have h:pairE p r≠0:=h
  unfold useE; rw [if_neg (by simp [hf]),if_pos h]
 have hpe:pairE p r=0:=h
 obtain ⟨hsr,hrp⟩:=pairE_zero hpe
 have sp:=rules_small hrp
 have sr:=rules_small (sysE_rules hsr)
 have lp:=(rules_zero hrp).1
 have lr:=(rules_zero (sysE_rules hsr)).1
 refine usable_SuitAll_ok hf p r sp sr _ ⟨rfl,rfl,iff_not (iff_intro (fun h=>?_) (fun h=>err 10 (by omega) ?_))⟩
 ·have h:((p.all fun x=>Tm.fitF l x.1&&Tm.fitF l x.2)&&(r.all fun x=>Tm.fitF l x.1&&Tm.fitF l x.2))=true:=h
  rw [Bool.and_eq_true] at h
  obtain ⟨h1,h2⟩:=h
  have hz:useE l p r=0:=by
   unfold useE; rw [if_neg (by simp [hf]),if_neg (by simp [hpe]),if_neg (by simp only [h1]; exact fun h=>by cases h),if_neg (by simp only [h2]; exact fun h=>by cases h)]
  have hres:useR l p r=usIdx l p r r.length:=by unfold useR; rw [if_pos hz]
  rw [hz,hres] at hQ
  refine usable_Usable_ok hf p r (fun x hx=>(sp x hx).1) (fun x hx=>(sr x hx).1) lp lr (fun x hx=>?_) (fun x hx=>?_) _ ⟨rfl,rfl,⟨trivial,trivial,trivial⟩,hQ _ (.refl _)⟩
  ·have:=List.all_eq_true.1 h1 x hx
   rw [Bool.and_eq_true] at this; exact this.2
  ·have:=List.all_eq_true.1 h2 x hx
   rw [Bool.and_eq_true] at this; exact this.2
 ·have h:((p.all fun x=>Tm.fitF l x.1&&Tm.fitF l x.2)&&(r.all fun x=>Tm.fitF l x.1&&Tm.fitF l x.2))=false:=h
  unfold useE
  rw [if_neg (by simp [hf]),if_neg (by simp [hpe])]
  cases h1:(p.all fun x=>Tm.fitF l x.1&&Tm.fitF l x.2) with
  | false=>rw [if_pos rfl]
  | true =>
   rw [h1,Bool.true_and] at h
   rw [if_neg (fun h=>by cases h),if_pos h]
end Go.Proofs.YthjlodlkpgjlkaaGreat
namespace Go.Proofs.YthjlodlkpgjlkaaGreat
open Go Go.Abs
def xB:ByteArray:=ByteArray.mk #[120]
def yB:ByteArray:=ByteArray.mk #[121]
def sB:ByteArray:=ByteArray.mk #[115]
def zB:ByteArray:=ByteArray.mk #[48]
def minusB:ByteArray:=ByteArray.mk #[109,105,110,117,115]
def quotB:ByteArray:=ByteArray.mk #[113,117,111,116]
def quotM:ByteArray:=ByteArray.mk #[113,117,111,116,35]
def minusM:ByteArray:=ByteArray.mk #[109,105,110,117,115,35]
def xT:Tm:=.mk xB true []
def yT:Tm:=.mk yB true []
def zT:Tm:=.mk zB false []
def sT (t:Tm):Tm:=.mk sB false [t]
def miT (a b:Tm):Tm:=.mk minusB false [a,b]
def quT (a b:Tm):Tm:=.mk quotB false [a,b]
def src1:ByteArray:=ByteArray.mk #[109,105,110,117,115,40,115,40,120,41,44,32,121,41]
def src2:ByteArray:=ByteArray.mk #[115,40,120,41]
def src3:ByteArray:=ByteArray.mk #[40,86,65,82,32,120,32,121,41,32,40,82,85,76,69,83,32,109,105,110,117,115,40,120,44,32,48,41,32,45,62,32,120,32,109,105,110,117,115,40,115,40,120,41,44,32,115,40,121,41,41,32,45,62,32,109,105,110,117,115,40,120,44,32,121,41,32,113,117,111,116,40,48,44,32,115,40,121,41,41,32,45,62,32,48,32,113,117,111,116,40,115,40,120,41,44,32,115,40,121,41,41,32,45,62,32,115,40,113,117,111,116,40,109,105,110,117,115,40,120,44,32,121,41,44,32,115,40,121,41,41,41,41]
def rul3:Ru:=[(miT xT zT,xT),(miT (sT xT) (sT yT),miT xT yT),(quT zT (sT yT),zT),(quT (sT xT) (sT yT),sT (quT (miT xT yT) (sT yT)))]
def dps3:Ru:=[(.mk minusM false [sT xT,sT yT],.mk minusM false [xT,yT]),(.mk quotM false [sT xT,sT yT],.mk quotM false [miT xT yT,sT yT]),(.mk quotM false [sT xT,sT yT],.mk minusM false [xT,yT])]
theorem ev1:rdTerm src1 [xB,yB]=(miT (sT xT) yT,0,0):=by kernel_rfl
theorem ev2:rdTerm src2 [xB]=(sT xT,0,0):=by kernel_rfl
theorem ev3:(pRules src3 (pHead src3).1 (src3.size+1) [] (pHead src3).2).1=rul3:=by kernel_rfl
theorem ev3b:((pRules src3 (pHead src3).1 (src3.size+1) [] (pHead src3).2).2.close src3).bad=none:=by kernel_rfl
theorem ev4:dpOf rul3=(dps3,0):=by kernel_rfl
def arB (l:List Tm):Bool:=l.all fun s=>l.all fun t=>!(decide (s.name=t.name))||decide (s.args.length=t.args.length)
theorem arB_ok {l:List Tm} (h:arB l=true):arOk l:=fun s hs t ht e=>by
 have h1:=List.all_eq_true.1 (List.all_eq_true.1 h s hs) t ht
 rw [decide_eq_true e] at h1
 simpa using h1
theorem sysE_calc {l:Ru} (h1:rules l=0) (h2:arB (nodesR l)=true) (h3:((nodesR l).all fun s=>!(markedL s.name.data.toList))=true) (h4:l.any extraB=false):sysE l=0:=by
 unfold sysE
 rw [if_neg (by simp [h1]),if_pos ⟨arB_ok h2,fun s hs=>by simpa using List.all_eq_true.1 h3 s hs⟩,if_neg (by simp [h4])]
theorem pairE_calc {p r:Ru} (h0:sysE r=0) (h1:rules p=0) (h2:(p.all fun x=>Tm.sideB x.1&&Tm.sideB x.2)=true) (h3:arB (nodesR (p++r))=true) (h4:p.any extraB=false):pairE p r=0:=by
 unfold pairE
 rw [if_neg (by simp [h0]),if_neg (by simp [h1]),if_neg (by rw [h2]; exact fun h=>by cases h),if_neg (fun h=>h (arB_ok h3)),if_neg (by simp [h4])]
theorem sys3:sysE rul3=0:=sysE_calc (by kernel_rfl) (by kernel_rfl) (by kernel_rfl) (by kernel_rfl)
def pai3:Ru:=[(.mk quotM false [sT xT,sT yT],.mk quotM false [miT xT yT,sT yT])]
theorem pair3:pairE pai3 rul3=0:=pairE_calc sys3 (by kernel_rfl) (by kernel_rfl) (by kernel_rfl) (by kernel_rfl)
theorem ev5:rdSys src3=(rul3,0,0):=by
 unfold rdSys
 rw [if_neg (of_decide_eq_false (p:=20000<src3.size) (by kernel_rfl))]
 unfold sysOut
 rw [ev3b]
 show (if sysE (pRules src3 (pHead src3).1 (src3.size+1) [] (pHead src3).2).1≠0 then _ else _)=_
 rw [ev3,if_neg (by simp [sys3])]
theorem us_calc {l:Fls} {p r:Ru} (M:List ByteArray) (bs:List Bool) (h1:(M.all fun x=>p.any fun y=>hasN (Tm.remN l y.2) x)=true) (h2:(p.all fun y=>(Tm.remN l y.2).all (hasN M))=true)
  (h3:(r.all fun y=>!(hasN M y.1.name)||(Tm.remN l y.2).all (hasN M))=true) (h4:((List.range r.length).all fun i=>bs.getD i false == hasN M (r.getD i (Tm.dflt,Tm.dflt)).1.name)=true):usIdx l p r r.length=selB bs r.length:=by
 have hu:=use_of (l:=l) (p:=p) (r:=r) (m:=(·∈M)) (fun x hx=>by
  obtain ⟨y,hy,h⟩:=List.any_eq_true.1 (List.all_eq_true.1 h1 x hx)
  exact .base y x hy (hasN_iff.1 h)) (fun y hy x hx=>hasN_iff.1 (List.all_eq_true.1 (List.all_eq_true.1 h2 y hy) x hx)) (fun y hy hm x hx=>by
  have h:=List.all_eq_true.1 h3 y hy
  rw [hasN_iff.2 hm,Bool.not_true,Bool.false_or] at h
  exact hasN_iff.1 (List.all_eq_true.1 h x hx))
 refine (selB_us fun i hi=>?_).symm
 have h:=List.all_eq_true.1 h4 i (List.mem_range.2 hi)
 have e:(r.getD i (Tm.dflt,Tm.dflt))=r[i]:=by rw [List.getD_eq_getElem?_getD,List.getElem?_eq_getElem hi]; rfl
 rw [e,beq_iff_eq] at h
 rw [h,hasN_iff]
 exact hu _
theorem use_calc {l:Fls} {p r:Ru} (h1:flErr l=0) (h2:pairE p r=0) (h3:(p.all fun x=>Tm.fitF l x.1&&Tm.fitF l x.2)=true) (h4:(r.all fun x=>Tm.fitF l x.1&&Tm.fitF l x.2)=true):useE l p r=0:=by
 unfold useE; rw [if_neg (by simp [h1]),if_neg (by simp [h2]),if_neg (by simp only [h3]; exact fun h=>by cases h),if_neg (by simp only [h4]; exact fun h=>by cases h)]
def fil1:Fls:=[⟨minusB,1,[]⟩]
def fil2:Fls:=[⟨quotM,0,[2]⟩]
theorem ev6:ftE fil1 (miT (sT xT) yT)=0:=by kernel_rfl
theorem ev7:ftR fil1 (miT (sT xT) yT)=sT xT:=by kernel_rfl
theorem ev8:useE [] pai3 rul3=0:=use_calc (by kernel_rfl) pair3 (by kernel_rfl) (by kernel_rfl)
theorem ev9:useR [] pai3 rul3=[0,1]:=by
 unfold useR
 rw [if_pos ev8,us_calc [quotM,minusB,sB] [true,true,false,false] (by kernel_rfl) (by kernel_rfl) (by kernel_rfl) (by kernel_rfl)]
 kernel_rfl
theorem ev10:useE fil2 pai3 rul3=0:=use_calc (by kernel_rfl) pair3 (by kernel_rfl) (by kernel_rfl)
theorem ev11:useR fil2 pai3 rul3=[]:=by
 unfold useR
 rw [if_pos ev10,us_calc [quotM,sB] [false,false,false,false] (by kernel_rfl) (by kernel_rfl) (by kernel_rfl) (by kernel_rfl)]
 kernel_rfl
theorem SamePos_self (l:List Int):Fn ZfS [psD l,psD l] (bD true):=fun Q hQ=>by
 refine Zqa _ _ _ fun hb hb2=>?_
 have hl:=encP_length l
 refine iff_bne (fun h=>absurd rfl h) (fun _ hb3=>?_)
 rw [hl] at hb3 ⊢
 refine ZjT Q _ _ _ hb3 (fun _=>True) (fun k hk hJ K hK=>?_) (fun hJ=>⟨trivial,hQ⟩) 0 (Nat.zero_le _) trivial
 refine ⟨by omega,by omega,by omega,by omega,iff_bne (fun h=>absurd rfl h) (fun _=>hK trivial)⟩
end Go.Proofs.YthjlodlkpgjlkaaGreat
namespace Go.Proofs.YthjlodlkpgjlkaaGreat
open Go.Abs
namespace Tm
theorem image_mem (l:Su) (x:ByteArray):image l x=mk x true []∨∃ y∈l,image l x=y.2:=by
 induction l with
 | nil=>exact .inl rfl
 | cons y r ih =>
  simp only [image]
  by_cases h:y.1=x
  ·rw [if_pos h]; exact .inr ⟨y,by simp,rfl⟩
  ·rw [if_neg h]
   rcases ih with h2 | ⟨z,h3,h4⟩
   ·exact .inl h2
   ·exact .inr ⟨z,by simp [h3],h4⟩
theorem sizeL_map_le {f:Tm→Tm} {M:Nat}:∀ {l:List Tm},(∀ a∈l,(f a).size≤a.size*M)→sizeL (l.map f)≤sizeL l*M
 | [],_=>by simp [sizeL]
 | t::r,h=>by
  have h1:=h t (by simp)
  have h2:=sizeL_map_le (l:=r) fun a ha=>h a (by simp [ha])
  simp only [List.map_cons,sizeL,Nat.add_mul]; omega
theorem app_size {l:Su} {M:Nat} (hM:1≤M) (h:∀ x∈l,x.2.size≤M):∀ t:Tm,(app l t).size≤t.size*M:=ind fun t ih=>by
 rw [app_eq]
 have hp:M≤t.size*M:=Nat.le_mul_of_pos_left M (size_pos t)
 split
 ·rcases image_mem l t.name with h2 | ⟨y,hy,h2⟩
  ·rw [h2]; simp [size,sizeL]; omega
  ·rw [h2]; exact Nat.le_trans (h y hy) hp
 ·have:=sizeL_map_le ih
  rw [size_eq t,Nat.add_mul]
  show 1+sizeL (t.args.map (app l))≤_
  omega
end Tm
end Go.Proofs.YthjlodlkpgjlkaaGreat
namespace Go.Proofs.YthjlodlkpgjlkaaGreat
open Go Go.Abs
theorem all_size {l:Ru} {n:Nat} (h:(l.all fun x=>decide (x.1.size≤n)&&decide (x.2.size≤n))=true):∀ x∈l,x.1.size≤n∧x.2.size≤n:=fun x hx=>by
 have:=List.all_eq_true.1 h x hx
 rw [Bool.and_eq_true,decide_eq_true_iff,decide_eq_true_iff] at this
 exact this
theorem rul3_size:∀ x∈rul3,x.1.size≤100∧x.2.size≤100:=all_size (by kernel_rfl)
theorem pai3_size:∀ x∈pai3,x.1.size≤100∧x.2.size≤100:=all_size (by kernel_rfl)
theorem rul3_small:∀ x∈rul3,x.1.size≤small∧x.2.size≤small:=fun x hx=>by have:=rul3_size x hx; rw [small_eq]; omega
theorem pai3_small:∀ x∈pai3,x.1.size≤small∧x.2.size≤small:=fun x hx=>by have:=pai3_size x hx; rw [small_eq]; omega
def nm3 (l:Ru):Bool:=l.all fun x=>decide (x.1.name.size≤100)&&x.2.pre.all fun u=>decide (u.name.size≤100)
theorem rul3_names:∀ x∈rul3,x.1.name.size≤1048576∧∀ u∈x.2.pre,u.name.size≤1048576:=fun x hx=>by
 have h:nm3 rul3=true:=by kernel_rfl
 have:=List.all_eq_true.1 h x hx
 rw [Bool.and_eq_true,decide_eq_true_iff] at this
 refine ⟨by omega,fun u hu=>?_⟩
 have:=of_decide_eq_true (List.all_eq_true.1 this.2 u hu)
 omega
theorem l11_alive_ok:Fn Z2 [] (bD true):=fun Q hQ=>by
 refine ZqW _ ?_
 unfold Zmd
 have a1:=r02_Term_ok src1 [xB,yB]
 rw [ev1] at a1
 refine a1 _ ⟨rfl,rfl,?_⟩
 have a2:=r02_Term_ok src2 [xB]
 rw [ev2] at a2
 refine a2 _ ⟨rfl,rfl,?_⟩
 have a3:=r02_System_ok src3
 rw [ev5] at a3
 refine a3 _ ⟨rfl,rfl,?_⟩
 have a4:=r10_Of_ok rul3 (by have:Tm.sizeL (rul3.map (·.2))=12:=(by kernel_rfl); rw [this]; unfold lim; omega) rul3_names
 rw [ev4] at a4
 refine a4 _ ⟨rfl,rfl,fun _=>iff_bne (fun h=>absurd (by kernel_rfl) h) (fun _=>?_)⟩
 have a5:=usable_Term_ok fil1 (miT (sT xT) yT) (by rw [small_eq,show (miT (sT xT) yT).size=4 from by kernel_rfl]; omega)
 rw [ev6,ev7] at a5
 refine a5 _ ⟨rfl,rfl,by omega,by omega,by show (2:Int)≤((encRs dps3).length:Int); rw [show (encRs dps3).length=3 from by kernel_rfl]; omega,?_⟩
 have hcut:((encRs dps3).take ((2:Int)).toNat).drop ((1:Int)).toNat=encRs pai3:=by kernel_rfl
 have a6:=usable_Rules_ok [] pai3 rul3 pai3_small rul3_small
 rw [ev8,ev9] at a6
 have a7:=usable_Rules_ok fil2 pai3 rul3 pai3_small rul3_small
 rw [ev10,ev11] at a7
 show cl ZbJ [flsD [],.v (.sl Zd) (V.l (((encRs dps3).take ((2:Int)).toNat).drop ((1:Int)).toNat)),ruD rul3] [] _
 rw [hcut]
 refine a6 _ ⟨rfl,rfl,by omega,by omega,by show (2:Int)≤((encRs dps3).length:Int); rw [show (encRs dps3).length=3 from by kernel_rfl]; omega,?_⟩
 show cl ZbJ [flsD fil2,.v (.sl Zd) (V.l (((encRs dps3).take ((2:Int)).toNat).drop ((1:Int)).toNat)),ruD rul3] [] _
 rw [hcut]
 refine a7 _ ⟨rfl,rfl,iff_beq (fun _=>?_) (fun h=>absurd rfl h)⟩
 refine r01_Equal_ok (sT xT) (sT xT) _ ⟨rfl,rfl,?_⟩
 rw [Tm.eqB_self]
 refine iff_intro (fun _=>?_) (fun h=>by cases h)
 refine iff_beq (fun _=>?_) (fun h=>absurd rfl h)
 refine SamePos_self [0,1] _ ⟨rfl,rfl,?_⟩
 refine iff_intro (fun _=>?_) (fun h=>by cases h)
 exact iff_beq (fun _ _=>⟨trivial,hQ⟩) (fun h=>absurd rfl h)
theorem ACalls.asArgs {P:Program} {lf:TypeId→List K} {f:FuncId} {args args':List D} {H:Heap} {Q:D→Heap→Prop} (h:ACalls P lf f args' H Q) (hl:args.length=args'.length) (hA:∀ j,As (args.getD j .undef) (args'.getD j .undef)):ACalls P lf f args H Q :=
 fun S vs h1 h2 h3 h4 h5 h6 h7 h8=>h S vs h1 h2 h3 h4 h5 (hl▸h6) (fun j=>((hA j).rep _ (h7 j) ((anyL_iff _ args).1 h8 j)).1) ((anyL_iff _ args').2 fun j=>((hA j).rep _ (h7 j) ((anyL_iff _ args).1 h8 j)).2)
theorem l11_term_err (b:Tm) (f:Int) (h:f≠0) {Q:D→Heap→Prop} (hQ:Q (bD true) []):cl ZfV [tD Tm.dflt,iD f,tD b,iD f] [] Q:=by
 refine Zpo _ _ _ _ _ _ _ _ _ ?_
 unfold Zjg
 refine iff_bne (fun _=>iff_beq (fun _=>?_) (fun h2=>absurd rfl h2)) (fun h2=>absurd h2 h)
 refine ACalls.asArgs (args':=[tD Tm.dflt,tD Tm.dflt]) (r01_Equal_ok Tm.dflt Tm.dflt _ ⟨rfl,rfl,trivial,?_⟩) rfl fun j=>?_
 ·rw [Tm.eqB_self]; exact hQ
 ·match j with
  | 0=>exact .refl _
  | 1=>exact As.last3 _ _ _
  | _+2=>exact .refl _
theorem l11_term_same (a b:Tm) (hab:a=b) {Q:D→Heap→Prop} (hQ:Q (bD true) []):cl ZfV [tD a,iD 0,tD b,iD 0] [] Q:=by
 refine Zpo _ _ _ _ _ _ _ _ _ ?_
 unfold Zjg
 subst hab
 refine iff_bne (fun h2=>absurd rfl h2) (fun _=>iff_beq (fun _=>?_) (fun h2=>absurd rfl h2))
 refine r01_Equal_ok a a _ ⟨rfl,rfl,trivial,?_⟩
 rw [Tm.eqB_self]; exact hQ
theorem l11_UsableFilters_ok (l:Fls) (t:Tm) (hB:t.size≤1048576):Fn Zf5 [flsD l,tD t] (bD true):=fun Q hQ=>by
 refine ZjW _ _ _ _ _ ?_
 unfold ZfH
 have hsm:=small_eq
 refine r11_Check_ok l _ ⟨rfl,rfl,usable_Check_ok l _ ⟨rfl,rfl,iff_bne (fun h=>absurd rfl h) (fun _=>?_)⟩⟩
 refine usable_Fits_ok l t (by omega) _ ⟨rfl,rfl,usable_Term_ok l t (by omega) _ ⟨rfl,rfl,?_⟩⟩
 have alive:cl Z2 [] [] fun r3 H4=>r3=(.v .bool (r3.V))∧H4=[]∧True∧Q (.v .bool (r3.V)) []:=l11_alive_ok _ ⟨rfl,rfl,trivial,hQ⟩
 have main:Zac Q (encFs l) (.i (fitE l t)) (.b (fitB l t)) (.i (fitE l t)) (.i (ftE l t)) t.name t.var (Tm.encL t.args) (.s (ftR l t).name) (.b (ftR l t).var) (.l (Tm.encL (ftR l t).args)):=by
  rw [ZgU]
  unfold ZeZ
  refine iff_bne (fun h=>?_) (fun h=>?_)
  ·have h:fitE l t≠0:=h
   have e1:fitB l t=false:=by unfold fitB; rw [decide_eq_false h]; rfl
   have e2:ftE l t=fitE l t:=by unfold ftE; rw [if_pos h]
   have e3:ftR l t=Tm.dflt:=by unfold ftR; rw [e2,if_neg h]
   rw [e1,e2,e3]
   refine iff_not (iff_intro (fun h=>by cases h) (fun _=>iff_beq (fun _=>?_) (fun h2=>absurd rfl h2)))
   exact l11_term_err Tm.dflt (fitE l t) h ⟨rfl,rfl,iff_intro (fun _=>alive) (fun h=>by cases h)⟩
  ·have h:fitE l t=0:=h
   obtain ⟨g1,g2⟩:=fitE_zero h
   have hv:=(flErr_zero g1).2.2
   have e1:fitB l t=Tm.fitF l t:=by unfold fitB; rw [decide_eq_true h,Bool.true_and]
   refine iff_bne (fun h2=>absurd h h2) (fun _=>?_)
   refine r11_Fits_ok hv t hB _ ⟨rfl,rfl,?_⟩
   rw [e1]
   refine iff_not (iff_intro (fun _=>?_) (fun h2=>?_))
   ·rw [ZgY]
    unfold Ze0
    refine iff_not (iff_intro (fun h3=>?_) (fun h3=>?_))
    ·have h3:Tm.fitF l t=true:=h3
     have e2:ftE l t=0:=by unfold ftE; rw [if_neg (by simp [h]),if_pos h3]
     have e3:ftR l t=Tm.ftm l t:=by unfold ftR; rw [if_pos e2]
     rw [e2,e3]
     have h4:=Tm.check_zero.1 g2
     refine ⟨tD (Tm.ftm l t),(r11_Term_ok hv t h4.1 hB h3).here rfl,?_⟩
     exact l11_term_same (Tm.ftm l t) _ rfl ⟨rfl,rfl,iff_intro (fun _=>alive) (fun h=>by cases h)⟩
    ·have h3:Tm.fitF l t=false:=h3
     have e2:ftE l t=10:=by unfold ftE; rw [if_neg (by simp [h]),if_neg (by simp [h3])]
     have e3:ftR l t=Tm.dflt:=by unfold ftR; rw [e2,if_neg (by omega)]
     rw [e2,e3]
     exact l11_term_err Tm.dflt 10 (by omega) ⟨rfl,rfl,iff_intro (fun _=>alive) (fun h=>by cases h)⟩
   ·have h2:(Tm.fitF l t == Tm.fitF l t)=false:=h2
    rw [beq_self_eq_true] at h2; cases h2
 refine iff_beq (fun h=>?_) (fun h=>?_)
 ·have h:flErr l=0:=h
  refine r01_Check_ok t (by omega) _ ⟨rfl,rfl,?_⟩
  have e:fitE l t=t.check:=by unfold fitE; rw [if_neg (by simp [h])]
  rw [e] at main
  show Zac Q (encFs l) (.i t.check) (.b (fitB l t)) (.i (fitE l t)) (.i (ftE l t)) t.name t.var (Tm.encL t.args) (.s (ftR l t).name) (.b (ftR l t).var) (.l (Tm.encL (ftR l t).args))
  rw [e]; exact main
 ·have h:flErr l≠0:=h
  have e:fitE l t=flErr l:=by unfold fitE; rw [if_pos h]
  rw [e] at main
  show Zac Q (encFs l) (.i (flErr l)) (.b (fitB l t)) (.i (fitE l t)) (.i (ftE l t)) t.name t.var (Tm.encL t.args) (.s (ftR l t).name) (.b (ftR l t).var) (.l (Tm.encL (ftR l t).args))
  rw [e]; exact main
theorem l11_UsableRules_ok (l:Fls) (p r:Ru) (hp:∀ x∈p,x.1.size≤small∧x.2.size≤small) (hr:∀ x∈r,x.1.size≤small∧x.2.size≤small):Fn ZgR [flsD l,ruD p,ruD r] (bD true):=fun Q hQ=>by
 refine Zl8 _ _ _ _ ?_
 unfold Zgw
 refine usable_Rules_ok l p r hp hr _ ⟨rfl,rfl,r11_Rules_ok l p r hp hr _ ⟨rfl,rfl,iff_beq (fun _=>?_) (fun h=>absurd rfl h)⟩⟩
 refine SamePos_self (useR l p r) _ ⟨rfl,rfl,iff_intro (fun _=>?_) (fun h=>by cases h)⟩
 exact l11_alive_ok _ ⟨rfl,rfl,trivial,hQ⟩
namespace Tm
def mapS (l:Fls) (s:Su):Su:=s.map fun x=>(x.1,ftm l x.2)
theorem image_map (l:Fls) (s:Su) (x:ByteArray):ftm l (image s x)=image (mapS l s) x:=by
 induction s with
 | nil=>rfl
 | cons y r ih =>
  have e:mapS l (y::r)=(y.1,ftm l y.2)::mapS l r:=rfl
  rw [e,image,image]
  by_cases h:y.1=x
  ·rw [if_pos h,if_pos h]
  ·rw [if_neg h,if_neg h]; exact ih
theorem app_dflt (s:Su):app s dflt=dflt:=by rw [app_eq]; rfl
theorem app_getD (s:Su) (ys:List Tm) (k:Nat):(ys.map (app s)).getD k dflt=app s (ys.getD k dflt):=by
 rw [List.getD_eq_getElem?_getD,List.getD_eq_getElem?_getD,List.getElem?_map]
 cases ys[k]? with
 | none=>exact (app_dflt s).symm
 | some y=>rfl
theorem app_selF (l:Fls) (s:Su) (n:ByteArray) (ys:List Tm):app s (selF l n ys)=selF l n (ys.map (app s)):=by
 unfold selF
 rw [List.length_map]
 split
 ·rw [app_getD]
 ·rw [app_eq]
  show mk n false (List.map (app s) (List.map _ _))=_
  rw [List.map_map]
  congr 1
  refine List.map_congr_left fun k _=>?_
  rw [app_getD]; rfl
theorem ftm_app (l:Fls) (s:Su):∀ t:Tm,ftm l (app s t)=app (mapS l s) (ftm l t):=ind fun t ih=>by
 rw [app_eq,ftm_eq l t]
 by_cases hv:t.var=true
 ·rw [if_pos hv,if_pos hv,app_eq]
  exact image_map l s t.name
 ·rw [if_neg hv,if_neg hv,app_selF,ftm_eq]
  show selF l t.name (ftmL l (t.args.map (app s)))=_
  congr 1
  rw [ftmL_map,ftmL_map,List.map_map,List.map_map]
  exact List.map_congr_left fun a ha=>ih a ha
theorem ftm_size {l:Fls} (hv:∀ x∈l,flBad x=false):∀ t:Tm,fitF l t=true→(ftm l t).size≤t.size:=ind fun t ih hfit=>by
 rw [fitF_eq] at hfit
 rw [ftm_eq,size_eq t]
 by_cases hvr:t.var=true
 ·rw [if_pos hvr]; simp [size,sizeL]
 have hvr:t.var=false:=by simpa using hvr
 rw [if_neg (by simp [hvr])]
 rw [hvr,Bool.false_or,Bool.and_eq_true,fitFL_all] at hfit
 obtain ⟨hfk,hfa⟩:=hfit
 have hk1:=(keptF_pos hv t.name t.args.length).1
 have hk2:∀ k∈keptF l t.name t.args.length,k≤(t.args.length:Int):=fun k hk=>by simpa using List.all_eq_true.1 hfk k hk
 have hinc:=keptF_inc hv t.name t.args.length
 have le1:∀ a∈t.args,(ftm l a).size≤a.size:=fun a ha=>ih a ha (List.all_eq_true.1 hfa a ha)
 unfold selF
 rw [ftmL_length]
 by_cases h1:(entF l t.name t.args.length).only > 0
 ·rw [if_pos h1]
  have hkf:keptF l t.name t.args.length=[(entF l t.name t.args.length).only]:=by unfold keptF; rw [if_pos h1]
  have h2:=hk2 (entF l t.name t.args.length).only (by rw [hkf]; simp)
  have hi:(entF l t.name t.args.length).only.toNat - 1<t.args.length:=by omega
  rw [ftmL_getD _ _ _ hi]
  have hin:=List.getElem_mem hi
  have g1:=le1 _ hin
  have g2:=size_mem hin
  rw [size_eq t] at g2
  omega
 ·rw [if_neg h1]
  have hkf:keptF l t.name t.args.length=(entF l t.name t.args.length).keep:=by unfold keptF; rw [if_neg h1]
  rw [← hkf]
  generalize keptF l t.name t.args.length=ks at hk1 hk2 hinc
  have h3:=sum_kept (t.args.map size) 0 ks hinc fun k hk=>by
   have h4:=hk1 k hk
   have h5:=hk2 k hk
   rw [List.length_map]
   omega
  have sizeL_sum:∀ xs:List Tm,sizeL xs=(xs.map size).sum:=by
   intro xs
   induction xs with
   | nil=>rfl
   | cons a r ih=>rw [List.map_cons,List.sum_cons,← ih]; rfl
  have h4:sizeL (ks.map fun k=>(ftmL l t.args).getD (k.toNat - 1) dflt)≤(ks.map fun k=>(t.args.map size).getD (k - 0 - 1).toNat 0).sum:=by
   clear h3 hinc
   induction ks with
   | nil=>exact Nat.le_refl 0
   | cons k ks ihk =>
    have g:=ihk (fun k hk=>hk1 k (by simp [hk])) (fun k hk=>hk2 k (by simp [hk]))
    have a1:=hk1 k (by simp)
    have a2:=hk2 k (by simp)
    have hi:k.toNat - 1<t.args.length:=by omega
    rw [List.map_cons,List.map_cons,List.sum_cons,show (k - 0 - 1).toNat=k.toNat - 1 by omega]
    show (_:Tm).size+sizeL _≤_
    rw [ftmL_getD _ _ _ hi,List.getD_eq_getElem?_getD,List.getElem?_map,List.getElem?_eq_getElem hi]
    have:=le1 _ (List.getElem_mem hi)
    show _≤(t.args[k.toNat - 1]).size+_
    omega
  rw [← sizeL_sum] at h3
  have e9:∀ xs:List Tm,(mk t.name false xs).size=1+sizeL xs:=fun xs=>rfl
  rw [e9]
  omega
end Tm
theorem encS_snoc (m:Su) (x:ByteArray) (t:Tm):encS m++[[V.s x,V.s t.name,V.b t.var,V.l (Tm.encL t.args)]]=encS (m++[(x,t)]):=by
 rw [encS,encS,List.map_append]
 show _=_++[encB (x,t)]
 rw [encB,Tm.enc_eq]
theorem mapS_snoc (l:Fls) (s:Su) (x:ByteArray×Tm):Tm.mapS l (s++[x])=Tm.mapS l s++[(x.1,Tm.ftm l x.2)]:=by simp [Tm.mapS]
theorem l11_UsableInstances_ok (l:Fls) (t:Tm) (s:Su) (hB:t.size≤1048576) (hs:∀ x∈s,x.2.size≤1048576) (hsl:s.length≤1048576):Fn Zfm [flsD l,tD t,suD s] (bD true):=fun Q hQ=>by
 refine Zif _ _ _ _ _ _ ?_
 unfold Ze2
 have hsm:=small_eq
 have alive:cl Z2 [] [] fun r3 H4=>r3=(.v .bool (r3.V))∧H4=[]∧True∧Q (.v .bool (r3.V)) []:=l11_alive_ok _ ⟨rfl,rfl,trivial,hQ⟩
 have hz:=Tm.app_size (l:=s) (M:=1048576) (by omega) hs t
 have hz2:t.size*1048576≤1048576*1048576:=Nat.mul_le_mul_right _ hB
 refine r01_Check_ok t (by omega) _ ⟨rfl,rfl,iff_bne (fun _=>alive) (fun h1=>?_)⟩
 have h1:t.check=0:=h1
 refine r01_CheckSubst_ok s (fun x hx=>by have:=hs x hx; omega) _ ⟨rfl,rfl,iff_bne (fun _=>alive) (fun h2=>?_)⟩
 have h2:suErr s=0:=h2
 refine r01_Fits_ok s t (by omega) _ ⟨rfl,rfl,iff_not (iff_intro (fun h3=>?_) (fun _=>alive))⟩
 rw [Zgg]
 unfold Zep
 refine r01_Apply_ok s t (by unfold lim; omega) _ ⟨rfl,rfl,?_⟩
 refine usable_Term_ok l (Tm.app s t) (by omega) _ ⟨rfl,rfl,usable_Term_ok l t (by omega) _ ⟨rfl,rfl,iff_bne (fun _=>alive) (fun h4=>iff_bne (fun _=>alive) (fun h5=>?_))⟩⟩
 have h4:ftE l (Tm.app s t)=0:=h4
 have h5:ftE l t=0:=h5
 have r4:ftR l (Tm.app s t)=Tm.ftm l (Tm.app s t):=by unfold ftR; rw [if_pos h4]
 have r5:ftR l t=Tm.ftm l t:=by unfold ftR; rw [if_pos h5]
 have hfit:fitE l t=0∧Tm.fitF l t=true:=by
  unfold ftE at h5
  split at h5
  ·rename_i h; exact absurd h5 h
  ·rename_i h
   split at h5
   ·rename_i h6; exact ⟨Decidable.not_not.1 h,h6⟩
   ·cases h5
 have hv:=(flErr_zero (fitE_zero hfit.1).1).2.2
 have hz3:=Tm.ftm_size hv t hfit.2
 rw [r4,r5]
 rw [Zgl]
 unfold Zeo
 have hl:=encS_length s
 rw [hl]
 intro hb
 refine Zf7 Q _ _ _ _ _ _ _ _ _ hb (fun k n y=>y=encS (Tm.mapS l (s.take k))∧n=y.length) (fun k n y hk hJ K hK=>?_) (fun n y hJ=>?_) 0 0 _ (Nat.zero_le _) ⟨rfl,rfl⟩
 ·obtain ⟨rfl,rfl⟩:=hJ
  simp only [encS_getD _ k hk,Tm.enc_eq,List.drop_zero,List.headD_cons,List.tail_cons]
  have hin:=hs _ (List.getElem_mem hk)
  refine ⟨by omega,by omega,usable_Term_ok l (s[k]).2 (by omega) _ ⟨rfl,rfl,iff_bne (fun _=>alive) (fun h6=>?_)⟩⟩
  have h6:ftE l (s[k]).2=0:=h6
  have r6:ftR l (s[k]).2=Tm.ftm l (s[k]).2:=by unfold ftR; rw [if_pos h6]
  rw [r6]
  refine ⟨by trivial,?_,hK _ _ ⟨?_,?_⟩⟩
  ·show (encS _).length+1≤lim
   rw [encS_length,Tm.mapS,List.length_map,List.length_take,Nat.min_eq_left (by omega)]; unfold lim; omega
  ·rw [List.take_succ_eq_append_getElem hk,mapS_snoc]
   exact encS_snoc _ _ _
  ·first | (rw [List.length_append]; done) | (rw [List.length_append]; rfl)
 ·obtain ⟨rfl,rfl⟩:=hJ
  rw [List.take_length]
  refine ⟨rfl,tD (Tm.app (Tm.mapS l s) (Tm.ftm l t)),(r01_Apply_ok (Tm.mapS l s) (Tm.ftm l t) (Nat.le_trans hz3 (Nat.le_trans hB (by unfold lim; omega)))).here rfl,?_⟩
  refine r01_Equal_ok (Tm.ftm l (Tm.app s t)) (Tm.app (Tm.mapS l s) (Tm.ftm l t)) _ ⟨rfl,rfl,?_⟩
  rw [Tm.ftm_app,Tm.eqB_self]
  exact iff_intro (fun _=>alive) (fun h=>by cases h)
end Go.Proofs.YthjlodlkpgjlkaaGreat
