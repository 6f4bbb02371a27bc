/-
  Texts R01F, WalkA, PolF, PolG, PolH, PolI, PolJ, R01E, PolK, PolL, PolM, PolN, PolO, TermA, R08A, PolP, PolQ, PolR, PolS, R08B, PolT, R08C of this proof, joined.
-/
import Derived.Test.YthhnadeoioeniaaGreatP10
set_option linter.unusedVariables false
set_option linter.unusedSimpArgs false
namespace Go.Proofs.YthhnadeoioeniaaGreat
open Go.Abs
def encN (l:List ByteArray):List (List V):=l.map fun s=>[.s s]
abbrev nsD (l:List ByteArray):D:=.v (.sl Zb) (.l (encN l))
theorem encN_length (l:List ByteArray):(encN l).length=l.length:=by simp [encN]
theorem encN_getD (l:List ByteArray) (k:Nat) (h:k<l.length):(encN l).getD k []=[.s l[k]]:=by
 rw [encN,List.getD_eq_getElem?_getD,List.getElem?_map,List.getElem?_eq_getElem h]; rfl
def hasN (l:List ByteArray) (x:ByteArray):Bool:=l.any fun y=>decide (y=x)
theorem hasN_iff {l:List ByteArray} {x:ByteArray}:hasN l x=true↔x∈l:=by
 unfold hasN; rw [List.any_eq_true]
 constructor
 ·rintro ⟨y,hy,h⟩
  rw [decide_eq_true_iff] at h; exact h▸hy
 ·exact fun h=>⟨x,h,by simp⟩
theorem hasN_false {l:List ByteArray} {x:ByteArray}:hasN l x=false↔x ∉ l:=by rw [← hasN_iff,Bool.not_eq_true]
def insN (l:List ByteArray) (s:ByteArray):List ByteArray:=match l with
 | []=>[s]
 | x::r=>if cmpN x s = -1 then x::insN r s else if x=s then x::r else s::x::r
theorem insN_length (l:List ByteArray) (s:ByteArray):(insN l s).length≤l.length+1:=by
 induction l with
 | nil=>simp [insN]
 | cons x r ih=>unfold insN; split <;> (try split) <;> simp <;> omega
namespace Tm
mutual
def collect:Tm→List ByteArray→List ByteArray | mk n v xs,l=>collectL xs (if v then insN l n else l)
def collectL:List Tm→List ByteArray→List ByteArray | [],l=>l | t::r,l=>collectL r (collect t l)
end
theorem collect_eq:∀ (t:Tm) (l:List ByteArray),collect t l=collectL t.args (if t.var then insN l t.name else l) | mk _ _ _,_=>rfl
theorem collectL_length:∀ (a:List Tm),(∀ t∈a,∀ l,(collect t l).length≤l.length+t.size)→∀ l,(collectL a l).length≤l.length+sizeL a
 | [],_,l=>by simp [collectL,sizeL]
 | t::r,h,l=>by
  have h1:=h t (by simp) l
  have h2:=collectL_length r (fun t ht=>h t (List.mem_cons_of_mem _ ht)) (collect t l)
  simp only [collectL,sizeL]; omega
theorem collect_length:∀ (t:Tm) (l:List ByteArray),(collect t l).length≤l.length+t.size:=ind fun t ih l=>by
 rw [collect_eq,size_eq]
 have h:=collectL_length t.args ih (if t.var then insN l t.name else l)
 have h2:=insN_length l t.name
 by_cases hv:t.var=true
 ·rw [if_pos hv] at h ⊢; omega
 ·rw [if_neg hv] at h ⊢; omega
theorem collectL_len (a:List Tm) (l:List ByteArray):(collectL a l).length≤l.length+sizeL a:=collectL_length a (fun t _=>collect_length t) l
def vars (l:List Tm):List ByteArray:=collectL l []
end Tm
open Classical in
noncomputable def sameS (l m:Su):Bool:=decide (l=m)
abbrev Ru:=List (Tm×Tm)
def encR (x:Tm×Tm):List V:=x.1.enc++x.2.enc
def encRs (l:Ru):List (List V):=l.map encR
abbrev ruD (l:Ru):D:=.v (.sl Zap) (.l (encRs l))
theorem encRs_length (l:Ru):(encRs l).length=l.length:=by simp [encRs]
theorem encRs_getD (l:Ru) (k:Nat) (h:k<l.length):(encRs l).getD k []=[.s (l[k]).1.name,.b (l[k]).1.var,.l (Tm.encL (l[k]).1.args),.s (l[k]).2.name,.b (l[k]).2.var,.l (Tm.encL (l[k]).2.args)]:=by
 rw [encRs,List.getD_eq_getElem?_getD,List.getElem?_map,List.getElem?_eq_getElem h]
 simp [encR,Tm.enc_eq]
def rulesL:Ru→Int
 | []=>0
 | x::r=>if Tm.checkAll [x.1,x.2]≠0 then Tm.checkAll [x.1,x.2] else rulesL r
def rules (l:Ru):Int:=if l.length > 64 then 3 else rulesL l
theorem rulesL_take {l:Ru}:∀ {k:Nat} (hk:k<l.length),(∀ i (h:i<k),Tm.checkAll [(l[i]'(by omega)).1,(l[i]'(by omega)).2]=0)→Tm.checkAll [(l[k]).1,(l[k]).2]≠0→rulesL l=Tm.checkAll [(l[k]).1,(l[k]).2]:=by
 induction l with
 | nil=>intro k hk; simp at hk
 | cons x r ih =>
  intro k hk h hn
  cases k with
  | zero=>simp only [List.getElem_cons_zero] at hn ⊢; rw [rulesL,if_pos hn]
  | succ k =>
   have h0:=h 0 (by omega)
   simp only [List.getElem_cons_zero] at h0
   simp only [List.getElem_cons_succ] at hn ⊢
   rw [rulesL,if_neg (by simp [h0])]
   exact ih (by simpa using hk) (fun i hi=>by have:=h (i+1) (by omega); simpa using this) hn
theorem rulesL_all {l:Ru} (h:∀ i (h:i<l.length),Tm.checkAll [(l[i]).1,(l[i]).2]=0):rulesL l=0:=by
 induction l with
 | nil=>rfl
 | cons x r ih =>
  have h0:=h 0 (by simp)
  simp only [List.getElem_cons_zero] at h0
  rw [rulesL,if_neg (by simp [h0])]
  exact ih fun i hi=>by have:=h (i+1) (by simpa using hi); simpa using this
end Go.Proofs.YthhnadeoioeniaaGreat
namespace Go.Proofs.YthhnadeoioeniaaGreat
open Go Go.Abs
theorem term_lf:lfs tab Za=[.str,.bool,.sl Za]:=by kernel_rfl
mutual
def Tm.pre:Tm→List Tm | .mk n v xs=>.mk n v xs::Tm.preL xs
def Tm.preL:List Tm→List Tm | []=>[] | t::r=>t.pre++Tm.preL r
end
theorem Tm.pre_eq (t:Tm):t.pre=t::Tm.preL t.args:=by cases t; rfl
theorem Tm.preL_eq:∀ l:List Tm,Tm.preL l=l.flatMap Tm.pre
 | []=>rfl
 | t::r=>by simp [Tm.preL,Tm.preL_eq r]
mutual
def Tm.preD:Nat→Tm→List (Tm×Nat) | d,.mk n v xs=>(.mk n v xs,d)::Tm.preDL (d+1) xs
def Tm.preDL:Nat→List Tm→List (Tm×Nat) | _,[]=>[] | d,t::r=>t.preD d++Tm.preDL d r
end
theorem Tm.preD_eq (d:Nat) (t:Tm):t.preD d=(t,d)::Tm.preDL (d+1) t.args:=by cases t; rfl
theorem Tm.preDL_fst:∀ (l:List Tm) (d:Nat),(∀ t∈l,∀ d,(t.preD d).map Prod.fst=t.pre)→(Tm.preDL d l).map Prod.fst=Tm.preL l
 | [],_,_=>rfl
 | t::r,d,h=>by simp only [Tm.preDL,Tm.preL,List.map_append,h t (by simp) d,Tm.preDL_fst r d fun a ha=>h a (by simp [ha])]
theorem Tm.preD_fst:∀ (t:Tm) (d:Nat),(t.preD d).map Prod.fst=t.pre:=Tm.ind fun t ih d=>by
 rw [Tm.preD_eq,Tm.pre_eq,List.map_cons,Tm.preDL_fst _ _ ih]
def encW (x:Tm×Nat):List V:=[.s x.1.name,.b x.1.var,.l (Tm.encL x.1.args),.i x.2]
def rowsW (t:Tm):List (List V):=(t.preD 0).map encW
theorem tm_inv {S:Sig} {t:Tm} {v:Value} (h:RepD (lfs tab) S (tD t) v):∃ u,v=.agg #[.string t.name,.bool t.var,u]∧RepK (lfs tab) S.w S.F (.sl Za) (.l (Tm.encL t.args)) u∧t.name.size≤big:=by
 cases h with
 | agg cs us hl hr =>
  match us,hl with
  | [u0,u1,u2],_ =>
   have h0:RepD (lfs tab) S (.v .str (.s t.name)) u0:=hr 0
   have h1:RepD (lfs tab) S (.v .bool (.b t.var)) u1:=hr 1
   have h2:RepD (lfs tab) S (.v (.sl Za) (.l (Tm.encL t.args))) u2:=hr 2
   have e1:=h1.bool_inv
   have e0:u0=.string t.name∧t.name.size≤big:=by
    cases h0 with
    | v _ _ _ h =>
     generalize hy:V.s t.name=y at h
     cases h with
     | str x hx=>subst hy; exact ⟨rfl,hx⟩
   obtain ⟨rfl,hs⟩:=e0
   subst e1
   refine ⟨u2,rfl,?_,hs⟩
   cases h2 with
   | v _ _ _ h=>exact h
theorem args_inv {S:Sig} {l:List Tm} {u:Value} (h:RepK (lfs tab) S.w S.F (.sl Za) (.l (Tm.encL l)) u) :
  ∃ a c,u=.slice a l.length c∧(l=[]∨∃ b off,∃ us:Nat→Nat→Value,a=some ⟨b,off,none⟩∧S.F b∧∀ i (hi:i<l.length),
   (∀ j,j<3→S.w.cell? ⟨b,off+(i*3+j),none⟩=some (us i j))∧RepD (lfs tab) S (tD (l[i])) (.agg #[us i 0,us i 1,us i 2])):=by
 generalize hy:V.l (Tm.encL l)=y at h
 cases h with
 | sl0 e x A c hl =>
  subst hy
  have:l=[]:=by
   have h1:(Tm.encL l)=[]:=hl
   rw [Tm.encL_eq] at h1
   simpa using h1
  subst this
  exact ⟨A,c,rfl,.inl rfl⟩
 | sl e x b off c us hb hc hlen hcell hr =>
  subst hy
  refine ⟨some ⟨b,off,none⟩,c,by show Value.slice _ _ _=_; rw [show (V.l (Tm.encL l)).list.length=l.length from Tm.encL_length l],.inr ⟨b,off,us,rfl,hb,fun i hi=>⟨fun j hj=>?_,?_⟩⟩⟩
  ·have:=hcell i j (by show i<(Tm.encL l).length; rw [Tm.encL_length]; exact hi) (by rw [term_lf]; exact hj)
   rw [term_lf] at this
   rw [← Nat.add_assoc]
   exact this
  ·have h3:∀ j,j<3→RepK (lfs tab) S.w S.F ([K.str,.bool,.sl Za].getD j .oth) ((l[i]).enc.getD j V.none) (us i j):=fun j hj=>by
    have:=hr i j (by show i<(Tm.encL l).length; rw [Tm.encL_length]; exact hi) (by rw [term_lf]; exact hj)
    rw [term_lf,show (V.l (Tm.encL l)).list.getD i []=(l[i]).enc from Tm.encL_getD l i hi] at this
    exact this
   refine .agg _ [us i 0,us i 1,us i 2] rfl fun j=>?_
   match j with
   | 0=>exact .v _ _ _ (by have:=h3 0 (by omega); rw [Tm.enc_eq] at this; exact this)
   | 1=>exact .v _ _ _ (by have:=h3 1 (by omega); rw [Tm.enc_eq] at this; exact this)
   | 2=>exact .v _ _ _ (by have:=h3 2 (by omega); rw [Tm.enc_eq] at this; exact this)
   | j+3=>exact .undef _
end Go.Proofs.YthhnadeoioeniaaGreat
set_option linter.unusedSectionVars false
namespace Go.Proofs.YthhnadeoioeniaaGreat
def emb:List ByteArray→List ByteArray→List Int→List Int
 | [],_,_=>[]
 | w::all,v::vs,e::es=>if w=v then e::emb all vs es else 0::emb all (v::vs) (e::es)
 | _::all,_,_=>0::emb all [] []
theorem emb_nil:∀ all:List ByteArray,emb all [] []=List.replicate all.length 0
 | []=>rfl
 | w::all=>by
  show 0::emb all [] []=_
  rw [emb_nil all]; rfl
theorem emb_hom:∀ {all vs:List ByteArray},vs.Sublist all→HomE vs.length (emb all vs):=by
 intro all
 induction all with
 | nil =>
  intro vs h
  have:vs=[]:=by simpa using h
  subst this
  refine ⟨fun a b ha hb=>?_,fun a b ha hb=>?_,fun a ha=>?_⟩
  ·rw [List.eq_nil_of_length_eq_zero ha,List.eq_nil_of_length_eq_zero hb]; rfl
  ·rw [List.eq_nil_of_length_eq_zero ha,List.eq_nil_of_length_eq_zero hb]; rfl
  ·rw [List.eq_nil_of_length_eq_zero ha]; rfl
 | cons w all ih =>
  intro vs h
  have zero:∀ l m:List Int,cmpE (0::l) (0::m)=cmpE l m:=fun l m=>by rw [cmpE,if_neg (by omega),if_neg (by omega)]
  cases vs with
  | nil =>
   obtain ⟨i1,i2,i3⟩:=ih (List.nil_sublist all)
   refine ⟨fun a b ha hb=>?_,fun a b ha hb=>?_,fun a ha=>?_⟩
   ·have:=i1 a b ha hb
    rw [List.eq_nil_of_length_eq_zero ha,List.eq_nil_of_length_eq_zero hb] at this ⊢
    show cmpE (0::emb all [] []) (0::emb all [] [])=_
    rw [zero]; exact this
   ·have:=i2 a b ha hb
    rw [List.eq_nil_of_length_eq_zero ha,List.eq_nil_of_length_eq_zero hb] at this ⊢
    show 0::emb all [] []=addE (0::emb all [] []) (0::emb all [] [])
    rw [addE,← this]; rfl
   ·have:=i3 a ha
    rw [List.eq_nil_of_length_eq_zero ha] at this ⊢
    show (0::emb all [] []).any _=_
    rw [List.any_cons,this]; rfl
  | cons v vs =>
   by_cases hw:w=v
   ·subst hw
    obtain ⟨i1,i2,i3⟩:=ih (List.cons_sublist_cons.1 h)
    have e:∀ (x:Int) (xs:List Int),emb (w::all) (w::vs) (x::xs)=x::emb all vs xs:=fun x xs=>by rw [emb,if_pos rfl]
    refine ⟨fun a b ha hb=>?_,fun a b ha hb=>?_,fun a ha=>?_⟩
    ·match a,b,ha,hb with
     | x::a,y::b,ha,hb =>
      rw [e,e,cmpE,cmpE,i1 a b (by simpa using ha) (by simpa using hb)]
    ·match a,b,ha,hb with
     | x::a,y::b,ha,hb =>
      rw [addE,e,e,e,addE,i2 a b (by simpa using ha) (by simpa using hb)]
    ·match a,ha with
     | x::a,ha =>
      rw [e,List.any_cons,List.any_cons,i3 a (by simpa using ha)]
   ·have hs:(v::vs).Sublist all:=by
     cases h with
     | cons _ h=>exact h
     | cons_cons _ h=>exact absurd rfl hw
    obtain ⟨i1,i2,i3⟩:=ih hs
    have e:∀ (x:Int) (xs:List Int),emb (w::all) (v::vs) (x::xs)=0::emb all (v::vs) (x::xs):=fun x xs=>by rw [emb,if_neg hw]
    refine ⟨fun a b ha hb=>?_,fun a b ha hb=>?_,fun a ha=>?_⟩
    ·match a,b,ha,hb with
     | x::a,y::b,ha,hb =>
      rw [e,e,zero,i1 (x::a) (y::b) ha hb]
    ·match a,b,ha,hb with
     | x::a,y::b,ha,hb =>
      have:=i2 (x::a) (y::b) ha hb
      show emb (w::all) (v::vs) ((x+y)::addE a b)=_
      rw [e,e,e]
      show 0::emb all (v::vs) (addE (x::a) (y::b))=0::addE (emb all (v::vs) (x::a)) (emb all (v::vs) (y::b))
      rw [this]
    ·match a,ha with
     | x::a,ha =>
      rw [e,List.any_cons,i3 (x::a) ha]; rfl
theorem emb_zeros:∀ (all vs:List ByteArray),emb all vs (zerosE vs.length)=zerosE all.length
 | [],_=>rfl
 | w::all,[]=>by
  show 0::emb all [] []=_
  rw [emb_nil]; rfl
 | w::all,v::vs=>by
  show emb (w::all) (v::vs) (0::zerosE vs.length)=_
  rw [emb]
  split
  ·rw [emb_zeros all vs]; rfl
  ·rw [show (0:Int)::zerosE vs.length=zerosE (v::vs).length from rfl,emb_zeros all (v::vs)]; rfl
theorem emb_uV:∀ {all vs:List ByteArray} {x:ByteArray},vs.Sublist all→all.Nodup→x∈vs→emb all vs (uV vs x)=uV all x
 | [],vs,x,h,_,hx=>by
  have:vs=[]:=by simpa using h
  subst this; simp at hx
 | w::all,[],x,_,_,hx=>by simp at hx
 | w::all,v::vs,x,h,hn,hx=>by
  have hn:=List.nodup_cons.1 hn
  show emb (w::all) (v::vs) ((if v=x then 1 else 0)::uV vs x)=(if w=x then 1 else 0)::uV all x
  rw [emb]
  by_cases hw:w=v
  ·subst hw
   rw [if_pos rfl]
   have hs:=List.cons_sublist_cons.1 h
   by_cases hx2:x∈vs
   ·rw [emb_uV hs hn.2 hx2]
   ·-- the variable is the head: zeros behind it
    have hxw:x=w:=by
     rcases List.mem_cons.1 hx with h | h
     ·exact h
     ·exact absurd h hx2
    have z:∀ l:List ByteArray,x ∉ l→uV l x=zerosE l.length:=by
     intro l
     induction l with
     | nil=>intro _; rfl
     | cons y l ih =>
      intro hy
      show (if y=x then 1 else 0)::uV l x=_
      rw [if_neg fun e=>hy (by simp [e]),ih fun h=>hy (by simp [h])]; rfl
    rw [z vs hx2,emb_zeros,z all (by rw [hxw]; exact hn.1)]
  ·rw [if_neg hw]
   have hs:(v::vs).Sublist all:=by
    cases h with
    | cons _ h=>exact h
    | cons_cons _ h=>exact absurd rfl hw
   have hwx:w≠x:=fun e=>hn.1 (hs.subset (by rw [e]; exact hx))
   rw [if_neg hwx]
   have:=emb_uV hs hn.2 hx
   rw [← this]; rfl
section
variable {n N:Nat} {φ:List Int→List Int} (H:HomE n φ) (hz:φ (zerosE n)=zerosE N)
include H
theorem len_adds {ms:Mos}:∀ {l:Mos},LenP n ms→LenP n l→LenP n (addsP l ms):=by
 induction ms with
 | nil=>intro l _ h; exact h
 | cons m ms ih=>intro l hm h; exact ih (fun x hx=>hm x (by simp [hx])) (len_add H (hm m (by simp)) h)
theorem len_mul {a b c:Mos} (ha:LenP n a) (hb:LenP n b) (h:mulP a b=some c):LenP n c:=by
 unfold mulP at h
 split at h
 ·cases h
 ·cases h
  exact len_adds H (hom_pairs H ha hb).2 fun x hx=>by simp at hx
theorem hom_pow {p:Mos} (hp:LenP n p):∀ (k:Nat) (x:Mos),LenP n x→powP (p.map (mapMo φ)) k (x.map (mapMo φ))=(powP p k x).map (List.map (mapMo φ))∧∀ c,powP p k x=some c→LenP n c
 | 0,x,hx=>⟨rfl,fun c h=>by cases h; exact hx⟩
 | k+1,x,hx=>by
  rw [powP,powP,hom_mul H hx hp]
  cases hm:mulP x p with
  | none=>exact ⟨rfl,fun c h=>by cases h⟩
  | some y=>exact hom_pow hp k y (len_mul H hx hp hm)
theorem hom_chain:∀ (es:List Int) (ps:List Mos) (x:Mos),(∀ p∈ps,LenP n p)→LenP n x→chainP es (ps.map (List.map (mapMo φ))) (x.map (mapMo φ))=(chainP es ps x).map (List.map (mapMo φ))∧∀ c,chainP es ps x=some c→LenP n c
 | [],ps,x,_,hx=>by
  have e:∀ qs y,chainP [] qs y=some y:=fun qs y=>by cases qs <;> rfl
  rw [e,e]
  exact ⟨rfl,fun c h=>by cases h; exact hx⟩
 | e::es,[],x,_,hx=>⟨rfl,fun c h=>by cases h; exact hx⟩
 | e::es,p::ps,x,hp,hx=>by
  obtain ⟨h1,h2⟩:=hom_pow H (hp p (by simp)) e.toNat x hx
  rw [List.map_cons,chainP,chainP,h1]
  cases hm:powP p e.toNat x with
  | none=>exact ⟨rfl,fun c h=>by cases h⟩
  | some y=>exact hom_chain es ps y (fun q hq=>hp q (by simp [hq])) (h2 y hm)
omit H in
theorem van_map (φ:List Int→List Int):∀ (es:List Int) (ps:List Mos),vanP es (ps.map (List.map (mapMo φ)))=vanP es ps
 | [],ps=>by cases ps <;> rfl
 | _::_,[]=>rfl
 | e::es,p::ps=>by
  rw [List.map_cons,vanP,vanP,van_map φ es ps]
  cases p <;> rfl
include hz
theorem hom_mono (m:Mo) (ps:List Mos) (hp:∀ p∈ps,LenP n p):monoP N m (ps.map (List.map (mapMo φ)))=(monoP n m ps).map (List.map (mapMo φ))∧∀ c,monoP n m ps=some c→LenP n c:=by
 unfold monoP
 rw [van_map]
 split
 ·exact ⟨rfl,fun c h=>by cases h; exact fun x hx=>by simp at hx⟩
 ·have hx:LenP n [⟨m.coef,zerosE n⟩]:=fun x hx=>by
   have:x=⟨m.coef,zerosE n⟩:=by simpa using hx
   rw [this]; exact List.length_replicate
  have:=hom_chain H m.exps ps [⟨m.coef,zerosE n⟩] hp hx
  rw [List.map_singleton] at this
  have e:mapMo φ ⟨m.coef,zerosE n⟩=⟨m.coef,zerosE N⟩:=by unfold mapMo; rw [hz]
  rw [e] at this
  exact this
theorem hom_insert (ps:List Mos) (hp:∀ p∈ps,LenP n p):∀ (ms out:Mos),LenP n out→insertP N (ps.map (List.map (mapMo φ))) ms (out.map (mapMo φ))=(insertP n ps ms out).map (List.map (mapMo φ))∧∀ c,insertP n ps ms out=some c→LenP n c
 | [],out,ho=>⟨rfl,fun c h=>by cases h; exact ho⟩
 | m::ms,out,ho=>by
  obtain ⟨h1,h2⟩:=hom_mono H hz m ps hp
  rw [insertP,insertP,h1]
  cases hm:monoP n m ps with
  | none=>exact ⟨rfl,fun c h=>by cases h⟩
  | some x =>
   have hx:=h2 x hm
   have h3:=hom_adds H x out hx ho
   have hl:=len_adds H hx ho
   show (if largeP (addsP (out.map (mapMo φ)) (x.map (mapMo φ))) then none else insertP N _ ms (addsP (out.map (mapMo φ)) (x.map (mapMo φ))))=_∧_
   rw [← h3,hom_large H hl]
   show _=Option.map _ (if largeP (addsP out x) then none else insertP n ps ms (addsP out x))∧∀ c,(if largeP (addsP out x) then none else insertP n ps ms (addsP out x))=some c→LenP n c
   cases hb:largeP (addsP out x) with
   | true=>exact ⟨rfl,fun c h=>by rw [if_pos rfl] at h; cases h⟩
   | false =>
    obtain ⟨h4,h5⟩:=hom_insert ps hp ms (addsP out x) hl
    exact ⟨h4,fun c h=>h5 c (by rw [if_neg (by simp)] at h; exact h)⟩
end
theorem len_uV (vs:List ByteArray) (x:ByteArray):(uV vs x).length=vs.length:=by simp [uV]
theorem polyT_eq (l:Pls) (vars:List ByteArray):∀ t:Tm,polyT l vars t=if t.var then some [⟨1,uV vars t.name⟩] else match polyL l vars t.args with
  | none=>none
  | some ps=>insertP vars.length ps (entPl l t.name t.args.length).1 []
 | .mk _ _ _=>rfl
theorem hom_term (l:Pls) {all vs:List ByteArray} (hs:vs.Sublist all) (hn:all.Nodup):∀ t:Tm,(∀ s∈t.pre,s.var=true→s.name∈vs) →
  polyT l all t=(polyT l vs t).map (List.map (mapMo (emb all vs)))∧∀ c,polyT l vs t=some c→LenP vs.length c:=Tm.ind fun t ih hv=>by
 have H:=emb_hom hs
 have hz:=emb_zeros all vs
 rw [polyT_eq,polyT_eq]
 rw [Tm.pre_eq] at hv
 by_cases hvar:t.var=true
 ·rw [if_pos hvar,if_pos hvar]
  have hx:=hv t (by simp) hvar
  refine ⟨?_,fun c h=>?_⟩
  ·show some [_]=some [mapMo (emb all vs) _]
   unfold mapMo
   rw [emb_uV hs hn hx]
  ·cases h
   intro x hx
   have:x=⟨1,uV vs t.name⟩:=by simpa using hx
   rw [this]; exact len_uV vs _
 ·rw [if_neg hvar,if_neg hvar]
  have args:∀ xs:List Tm,(∀ a∈xs,polyT l all a=(polyT l vs a).map (List.map (mapMo (emb all vs)))∧∀ c,polyT l vs a=some c→LenP vs.length c) →
    polyL l all xs=(polyL l vs xs).map (List.map (List.map (mapMo (emb all vs))))∧∀ ps,polyL l vs xs=some ps→∀ p∈ps,LenP vs.length p:=by
   intro xs
   induction xs with
   | nil=>intro _; exact ⟨rfl,fun ps h=>by cases h; exact fun p hp=>by simp at hp⟩
   | cons a r ihr =>
    intro h
    obtain ⟨h1,h2⟩:=h a (by simp)
    obtain ⟨h3,h4⟩:=ihr fun b hb=>h b (by simp [hb])
    rw [polyL,polyL,h1]
    cases hp:polyT l vs a with
    | none=>exact ⟨rfl,fun ps h=>by cases h⟩
    | some p =>
     show (match polyL l all r with | none=>none | some ps=>some (List.map (mapMo (emb all vs)) p::ps))=Option.map _ (match polyL l vs r with | none=>none | some ps=>some (p::ps))∧∀ ps,(match polyL l vs r with | none=>none | some ps=>some (p::ps))=some ps→_
     rw [h3]
     cases hq:polyL l vs r with
     | none=>exact ⟨rfl,fun ps h=>by cases h⟩
     | some ps =>
      refine ⟨rfl,fun qs h=>?_⟩
      cases h
      intro q hq2
      rcases List.mem_cons.1 hq2 with rfl | hq2
      ·exact h2 _ hp
      ·exact h4 _ hq q hq2
  obtain ⟨h1,h2⟩:=args t.args fun a ha=>ih a ha fun s hsp hsv=>hv s (by
   rw [Tm.preL_eq]
   exact List.mem_cons_of_mem _ (List.mem_flatMap.2 ⟨a,ha,hsp⟩)) hsv
  rw [h1]
  cases hp:polyL l vs t.args with
  | none=>exact ⟨rfl,fun c h=>by cases h⟩
  | some ps =>
   exact hom_insert H hz ps (h2 ps hp) _ [] fun x hx=>by simp at hx
end Go.Proofs.YthhnadeoioeniaaGreat
namespace Go.Proofs.YthhnadeoioeniaaGreat
theorem small_of {n:Nat} {c:Mos} (hv:∀ x∈c,ValidE n x.exps) (h:largeP c=false):SmallP n c:=fun x hx=>by
 have:=List.any_eq_false.1 (not_large_any h) x hx
 have hb:bigMo x=false:=by simpa using this
 unfold bigMo at hb
 rw [Bool.or_eq_false_iff,expsOk_any] at hb
 refine ⟨hv x hx,Nat.le_of_not_lt (of_decide_eq_false hb.1),fun e he=>?_⟩
 have h2:expsOk x.exps=true:=by simpa using hb.2
 have:=List.all_eq_true.1 h2 e he
 simpa using this
theorem valid_adds {n:Nat}:∀ (ms l:Mos),(∀ x∈ms,ValidE n x.exps)→(∀ x∈l,ValidE n x.exps)→∀ x∈addsP l ms,ValidE n x.exps
 | [],l,_,h,x,hx=>h x hx
 | m::ms,l,hm,h,x,hx=>valid_adds ms (addP l m) (fun y hy=>hm y (by simp [hy])) (fun y hy=>by
   rcases addP_mem y hy with e | ⟨z,hz,e⟩
   ·rw [e]; exact hm m (by simp)
   ·rw [← e]; exact h z hz) x hx
theorem small_mul {n:Nat} {a b c:Mos} (ha:SmallP n a) (hb:SmallP n b) (h:mulP a b=some c):SmallP n c:=by
 unfold mulP at h
 split at h
 ·cases h
 ·rename_i hl
  cases h
  have hl:largeP (addsP [] (pairsP a b))=false:=by simpa using hl
  have hbig:=adds_small _ _ hl
  refine small_of (valid_adds _ _ (fun x hx=>?_) fun x hx=>by simp at hx) hl
  have hxb:=hbig x hx
  obtain ⟨y,hy,hx⟩:=List.mem_flatMap.1 hx
  obtain ⟨z,hz,rfl⟩:=List.mem_map.1 hx
  exact ((mulMo_small (n:=n) (x:=y) (y:=z) (fun w hw=>by have:w=y:=(by simpa using hw); rw [this]; exact ha y hy) (fun w hw=>by have:w=z:=(by simpa using hw); rw [this]; exact hb z hz) hxb).1 _ (by simp)).1
theorem pow_val {n:Nat} (vals:List Nat) {p:Mos} (hp:SmallP n p):∀ (k:Nat) (x y:Mos),SmallP n x→powP p k x=some y→SmallP n y∧evalP vals y=evalP vals x*evalP vals p ^ k
 | 0,x,y,hx,h=>by cases h; exact ⟨hx,by rw [Nat.pow_zero,Nat.mul_one]⟩
 | k+1,x,y,hx,h=>by
  rw [powP] at h
  cases hm:mulP x p with
  | none=>rw [hm] at h; cases h
  | some z =>
   rw [hm] at h
   obtain ⟨h1,h2⟩:=pow_val vals hp k z y (small_mul hx hp hm) h
   refine ⟨h1,?_⟩
   rw [h2,evalP_mul vals hx hp hm,Nat.pow_succ]
   ac_rfl
theorem chain_val {n:Nat} (vals:List Nat):∀ (es:List Int) (ps:List Mos) (x y:Mos),(∀ p∈ps,SmallP n p)→SmallP n x→chainP es ps x=some y→SmallP n y∧evalP vals y=evalP vals x*monV (ps.map (evalP vals)) es
 | [],ps,x,y,_,hx,h=>by
  have e:chainP [] ps x=some x:=by cases ps <;> rfl
  rw [e] at h; cases h
  have e2:monV (ps.map (evalP vals)) []=1:=by cases ps <;> rfl
  exact ⟨hx,by rw [e2,Nat.mul_one]⟩
 | e::es,[],x,y,_,hx,h=>by cases h; exact ⟨hx,(Nat.mul_one _).symm⟩
 | e::es,p::ps,x,y,hp,hx,h=>by
  rw [chainP] at h
  cases hm:powP p e.toNat x with
  | none=>rw [hm] at h; cases h
  | some z =>
   rw [hm] at h
   obtain ⟨h1,h2⟩:=pow_val vals (hp p (by simp)) e.toNat x z hx hm
   obtain ⟨h3,h4⟩:=chain_val vals es ps z y (fun q hq=>hp q (by simp [hq])) h1 h
   refine ⟨h3,?_⟩
   rw [h4,h2,List.map_cons,monV]
   ac_rfl
theorem van_val (vals:List Nat):∀ (es:List Int) (ps:List Mos),vanP es ps=true→monV (ps.map (evalP vals)) es=0
 | [],ps,h=>by cases ps <;> cases h
 | _::_,[],h=>by cases h
 | e::es,p::ps,h=>by
  rw [vanP,Bool.or_eq_true] at h
  rw [List.map_cons,monV]
  rcases h with h | h
  ·rw [Bool.and_eq_true,decide_eq_true_iff,List.isEmpty_iff] at h
   rw [h.2]
   have:e.toNat≠0:=by omega
   show 0 ^ e.toNat*_=0
   rw [Nat.zero_pow (by omega),Nat.zero_mul]
  ·rw [van_val vals es ps h,Nat.mul_zero]
theorem monV_zeros:∀ (vals:List Nat) (n:Nat),monV vals (zerosE n)=1
 | [],n=>by cases n <;> rfl
 | v::vals,0=>rfl
 | v::vals,n+1=>by
  show v ^ (0:Int).toNat*monV vals (zerosE n)=1
  rw [monV_zeros vals n]; rfl
theorem valid_zeros (n:Nat):ValidE n (zerosE n):=⟨List.length_replicate,fun e he=>by
 have:=List.eq_of_mem_replicate he
 omega⟩
theorem mono_val {n:Nat} (vals:List Nat) (m:Mo) (ps:List Mos) (y:Mos) (hc:m.coef≤maxV) (hp:∀ p∈ps,SmallP n p) (h:monoP n m ps=some y):SmallP n y∧evalP vals y=moV (ps.map (evalP vals)) m:=by
 unfold monoP at h
 split at h
 ·rename_i hv
  cases h
  exact ⟨fun x hx=>by simp at hx,by unfold moV; rw [van_val vals _ _ hv,Nat.mul_zero]; rfl⟩
 ·have hx:SmallP n [⟨m.coef,zerosE n⟩]:=fun x hx=>by
   have:x=⟨m.coef,zerosE n⟩:=by simpa using hx
   rw [this]
   exact ⟨valid_zeros n,hc,fun e he=>by have:=List.eq_of_mem_replicate he; omega⟩
  obtain ⟨h1,h2⟩:=chain_val vals m.exps ps _ y hp hx h
  refine ⟨h1,?_⟩
  rw [h2,evalP_cons]
  show (m.coef*monV vals (zerosE n)+evalP vals [])*_=m.coef*_
  rw [monV_zeros,Nat.mul_one]; rfl
theorem insert_val {n:Nat} (vals:List Nat) (ps:List Mos) (hp:∀ p∈ps,SmallP n p):∀ (ms out y:Mos),(∀ m∈ms,m.coef≤maxV)→SmallP n out→insertP n ps ms out=some y→SmallP n y∧evalP vals y=evalP vals out+evalP (ps.map (evalP vals)) ms
 | [],out,y,_,ho,h=>by cases h; exact ⟨ho,rfl⟩
 | m::ms,out,y,hc,ho,h=>by
  rw [insertP] at h
  cases hm:monoP n m ps with
  | none=>rw [hm] at h; cases h
  | some x =>
   rw [hm] at h
   have h:(if largeP (addsP out x) then none else insertP n ps ms (addsP out x))=some y:=h
   cases hl:largeP (addsP out x) with
   | true=>rw [hl,if_pos rfl] at h; cases h
   | false =>
    rw [hl,if_neg (by simp)] at h
    obtain ⟨h1,h2⟩:=mono_val vals m ps x (hc m (by simp)) hp hm
    have hs:=small_of (valid_adds x out (fun z hz=>(h1 z hz).1) fun z hz=>(ho z hz).1) hl
    obtain ⟨h3,h4⟩:=insert_val vals ps hp ms (addsP out x) y (fun z hz=>hc z (by simp [hz])) hs h
    refine ⟨h3,?_⟩
    rw [h4,evalP_adds vals x out hl,h2,evalP_cons]; omega
def valV:List ByteArray→List Nat→ByteArray→Nat
 | v::vs,k::ks,x=>if v=x then k else valV vs ks x
 | _,_,_=>0
theorem uV_out {x:ByteArray}:∀ l:List ByteArray,x ∉ l→uV l x=zerosE l.length
 | [],_=>rfl
 | y::l,hy=>by
  show (if y=x then 1 else 0)::uV l x=_
  rw [if_neg fun e=>hy (by simp [e]),uV_out l fun h=>hy (by simp [h])]; rfl
theorem monV_uV {x:ByteArray}:∀ (vs:List ByteArray) (ks:List Nat),vs.length=ks.length→vs.Nodup→x∈vs→monV ks (uV vs x)=valV vs ks x
 | [],_,_,_,h=>by simp at h
 | _::_,[],h,_,_=>by simp at h
 | v::vs,k::ks,hl,hn,hx=>by
  have hn:=List.nodup_cons.1 hn
  show k ^ (if v=x then (1:Int) else 0).toNat*monV ks (uV vs x)=if v=x then k else valV vs ks x
  by_cases h:v=x
  ·rw [if_pos h,if_pos h,uV_out vs (by rw [← h]; exact hn.1),monV_zeros]
   show k ^ 1*1=k
   rw [Nat.pow_one,Nat.mul_one]
  ·rw [if_neg h,if_neg h,monV_uV vs ks (by simpa using hl) hn.2 (by
    rcases List.mem_cons.1 hx with e | e
    ·exact absurd e.symm h
    ·exact e)]
   show k ^ 0*_=_
   rw [Nat.pow_zero,Nat.one_mul]
mutual
def valT (l:Pls) (vs:List ByteArray) (ks:List Nat):Tm→Nat
 | .mk x v xs=>if v then valV vs ks x else evalP (valL l vs ks xs) (entPl l x xs.length).1
def valL (l:Pls) (vs:List ByteArray) (ks:List Nat):List Tm→List Nat
 | []=>[]
 | t::r=>valT l vs ks t::valL l vs ks r
end
theorem valT_eq (l:Pls) (vs:List ByteArray) (ks:List Nat):∀ t:Tm,valT l vs ks t=if t.var then valV vs ks t.name else evalP (valL l vs ks t.args) (entPl l t.name t.args.length).1
 | .mk _ _ _=>rfl
theorem term_val (l:Pls) (hc:∀ x n,∀ m∈(entPl l x n).1,m.coef≤maxV) (vs:List ByteArray) (ks:List Nat) (hl:vs.length=ks.length) (hn:vs.Nodup):∀ t:Tm,(∀ s∈t.pre,s.var=true→s.name∈vs) →
  ∀ c,polyT l vs t=some c→SmallP vs.length c∧evalP ks c=valT l vs ks t:=Tm.ind fun t ih hv c h=>by
 rw [polyT_eq] at h
 rw [valT_eq]
 rw [Tm.pre_eq] at hv
 by_cases hvar:t.var=true
 ·rw [if_pos hvar] at h ⊢
  cases h
  have hx:=hv t (by simp) hvar
  refine ⟨fun x hx2=>?_,?_⟩
  ·have:x=⟨1,uV vs t.name⟩:=by simpa using hx2
   rw [this]
   have hb:∀ e∈uV vs t.name,0≤e∧e≤1:=fun e he=>by
    obtain ⟨y,_,rfl⟩:=List.mem_map.1 he
    split <;> omega
   exact ⟨⟨len_uV vs _,fun e he=>by have:=hb e he; omega⟩,by show 1≤4611686018427387904; omega,fun e he=>by have:=hb e he; omega⟩
  ·rw [evalP_cons]
   show 1*monV ks (uV vs t.name)+0=_
   rw [monV_uV vs ks hl hn hx]; omega
 ·rw [if_neg hvar] at h ⊢
  have args:∀ xs:List Tm,(∀ a∈xs,∀ c,polyT l vs a=some c→SmallP vs.length c∧evalP ks c=valT l vs ks a) →
    ∀ ps,polyL l vs xs=some ps→(∀ p∈ps,SmallP vs.length p)∧ps.map (evalP ks)=valL l vs ks xs:=by
   intro xs
   induction xs with
   | nil=>intro _ ps h; cases h; exact ⟨fun p hp=>by simp at hp,rfl⟩
   | cons a r ihr =>
    intro h ps hps
    rw [polyL] at hps
    cases hp:polyT l vs a with
    | none=>rw [hp] at hps; cases hps
    | some p =>
     rw [hp] at hps
     have hps:(match polyL l vs r with | none=>none | some ps=>some (p::ps))=some ps:=hps
     cases hq:polyL l vs r with
     | none=>rw [hq] at hps; cases hps
     | some qs =>
      rw [hq] at hps
      cases hps
      obtain ⟨h1,h2⟩:=h a (by simp) p hp
      obtain ⟨h3,h4⟩:=ihr (fun b hb=>h b (by simp [hb])) qs hq
      refine ⟨fun q hq2=>?_,?_⟩
      ·rcases List.mem_cons.1 hq2 with rfl | hq2
       ·exact h1
       ·exact h3 q hq2
      ·rw [List.map_cons,h2,h4]; rfl
  have ha:=args t.args fun a ha c hc2=>ih a ha (fun s hsp hsv=>hv s (by
   rw [Tm.preL_eq]
   exact List.mem_cons_of_mem _ (List.mem_flatMap.2 ⟨a,ha,hsp⟩)) hsv) c hc2
  cases hp:polyL l vs t.args with
  | none=>rw [hp] at h; cases h
  | some ps =>
   rw [hp] at h
   have h:insertP vs.length ps (entPl l t.name t.args.length).1 []=some c:=h
   obtain ⟨h1,h2⟩:=ha ps hp
   obtain ⟨h3,h4⟩:=insert_val ks ps h1 _ [] c (hc _ _) (fun x hx=>by simp at hx) h
   refine ⟨h3,?_⟩
   rw [h4,h2]
   show 0+_=_
   rw [Nat.zero_add]
end Go.Proofs.YthhnadeoioeniaaGreat
namespace Go.Proofs.YthhnadeoioeniaaGreat
def coefP:Mos→List Int→Nat
 | [],_=>0
 | x::l,e=>if x.exps=e then x.coef else coefP l e
def DistP (l:Mos):Prop:=l.Pairwise fun x y=>x.exps≠y.exps
theorem SortP.dist {l:Mos} (h:SortP l):DistP l:=h.imp fun {a b} h he=>by rw [he,cmpE_self] at h; cases h
theorem coefP_none {e:List Int}:∀ {l:Mos},(∀ x∈l,x.exps≠e)→coefP l e=0
 | [],_=>rfl
 | x::l,h=>by rw [coefP,if_neg (h x (by simp)),coefP_none fun y hy=>h y (by simp [hy])]
theorem coefP_mem {x:Mo}:∀ {l:Mos},DistP l→x∈l→coefP l x.exps=x.coef
 | [],_,h=>by simp at h
 | y::l,hd,h=>by
  have hd:=List.pairwise_cons.1 hd
  rw [coefP]
  rcases List.mem_cons.1 h with rfl | h
  ·rw [if_pos rfl]
  ·rw [if_neg (hd.1 x h),coefP_mem hd.2 h]
theorem dist_perm {l m:Mos} (h:l.Perm m) (hd:DistP l):DistP m:=(h.pairwise_iff (fun {a b} h=>h.symm)).1 hd
theorem coefP_perm {l m:Mos} (h:l.Perm m) (hd:DistP l) (e:List Int):coefP l e=coefP m e:=by
 by_cases hx:∃ x∈l,x.exps=e
 ·obtain ⟨x,hx,rfl⟩:=hx
  rw [coefP_mem hd hx,coefP_mem (dist_perm h hd) (h.mem_iff.1 hx)]
 ·rw [coefP_none fun x hm he=>hx ⟨x,hm,he⟩,coefP_none fun x hm he=>hx ⟨x,h.mem_iff.2 hm,he⟩]
theorem coefP_le_eval {n:Nat} (ks:List Nat):∀ p:Mos,coefP p (zerosE n)≤evalP ks p
 | []=>Nat.zero_le _
 | x::p=>by
  rw [coefP,evalP_cons]
  split
  ·rename_i h
   unfold moV
   rw [h,monV_zeros,Nat.mul_one]; omega
  ·have:=coefP_le_eval (n:=n) ks p
   omega
theorem eval_dom {n:Nat} (ks:List Nat):∀ (q p:Mos),DistP q→DistP p→(∀ x∈q,x.coef≤coefP p x.exps∧0<x.coef)→evalP ks q+coefP p (zerosE n)≤evalP ks p+coefP q (zerosE n)
 | [],p,_,_,_=>by
  have:=coefP_le_eval (n:=n) ks p
  show 0+_≤_+0
  omega
 | x::q,p,hq,hp,h=>by
  have hq:=List.pairwise_cons.1 hq
  obtain ⟨h1,h2⟩:=h x (by simp)
  have hin:∃ y∈p,y.exps=x.exps:=by
   refine Classical.byContradiction fun hn=>?_
   rw [coefP_none fun y hy he=>hn ⟨y,hy,he⟩] at h1
   omega
  obtain ⟨y,hy,he⟩:=hin
  obtain ⟨a,b,hab⟩:=List.append_of_mem hy
  have hperm:p.Perm (y::(a++b)):=by rw [hab]; exact List.perm_middle
  have hd:=dist_perm hperm hp
  have hd2:=List.pairwise_cons.1 hd
  have hy1:coefP p x.exps=y.coef:=by rw [← he]; exact coefP_mem hp hy
  have ih:=eval_dom (n:=n) ks q (a++b) hq.2 hd2.2 fun z hz=>by
   obtain ⟨g1,g2⟩:=h z (by simp [hz])
   refine ⟨?_,g2⟩
   rw [coefP_perm hperm hp,coefP,if_neg (by rw [he]; exact hq.1 z hz)] at g1
   exact g1
  rw [evalP_cons,evalP_perm ks hperm,evalP_cons,coefP_perm hperm hp,coefP,coefP,he]
  have hm:moV ks x≤moV ks y:=by
   unfold moV
   rw [he]
   exact Nat.mul_le_mul_right _ (by omega)
  by_cases hz:x.exps=zerosE n
  ·rw [if_pos hz,if_pos hz]
   have c1:coefP q (zerosE n)=0:=coefP_none fun z hz2 hze=>hq.1 z hz2 (by rw [hz,hze])
   have m1:moV ks x=x.coef:=by unfold moV; rw [hz,monV_zeros,Nat.mul_one]
   have m2:moV ks y=y.coef:=by unfold moV; rw [he,hz,monV_zeros,Nat.mul_one]
   omega
  ·rw [if_neg hz,if_neg hz]
   omega
theorem monV_zero_at:∀ (n:Nat) (e:List Int),e.length=n→(∀ k∈e,0≤k)→monV (List.replicate n 0) e=if e=zerosE n then 1 else 0
 | 0,e,h,_=>by
  have:e=[]:=List.eq_nil_of_length_eq_zero h
  subst this; rfl
 | n+1,[],h,_=>by simp at h
 | n+1,k::e,h,hk=>by
  have h0:=hk k (by simp)
  show 0 ^ k.toNat*monV (List.replicate n 0) e=if k::e=0::zerosE n then 1 else 0
  rw [monV_zero_at n e (by simpa using h) fun j hj=>hk j (by simp [hj])]
  by_cases hk0:k=0
  ·subst hk0
   rw [show (0:Int).toNat=0 from rfl,Nat.pow_zero,Nat.one_mul]
   by_cases he:e=zerosE n
   ·rw [if_pos he,if_pos (by rw [he])]
   ·rw [if_neg he,if_neg fun h=>he (by injection h)]
  ·rw [Nat.zero_pow (by omega),Nat.zero_mul,if_neg fun h=>hk0 (by injection h)]
theorem eval_zero {n:Nat}:∀ p:Mos,SmallP n p→DistP p→evalP (List.replicate n 0) p=coefP p (zerosE n)
 | [],_,_=>rfl
 | x::p,hs,hd=>by
  have hd:=List.pairwise_cons.1 hd
  obtain ⟨h1,_,_⟩:=hs x (by simp)
  rw [evalP_cons,eval_zero p (fun y hy=>hs y (by simp [hy])) hd.2,coefP]
  unfold moV
  rw [monV_zero_at n x.exps h1.1 fun k hk=>(h1.2 k hk).1]
  by_cases hz:x.exps=zerosE n
  ·rw [if_pos hz,if_pos hz,coefP_none fun y hy he=>hd.1 y hy (by rw [hz,he])]; omega
  ·rw [if_neg hz,if_neg hz]; omega
mutual
def valF (l:Pls) (ρ:ByteArray→Nat):Tm→Nat
 | .mk x v xs=>if v then ρ x else evalP (valFL l ρ xs) (entPl l x xs.length).1
def valFL (l:Pls) (ρ:ByteArray→Nat):List Tm→List Nat
 | []=>[]
 | t::r=>valF l ρ t::valFL l ρ r
end
theorem valF_eq (l:Pls) (ρ:ByteArray→Nat):∀ t:Tm,valF l ρ t=if t.var then ρ t.name else evalP (valFL l ρ t.args) (entPl l t.name t.args.length).1
 | .mk _ _ _=>rfl
theorem valFL_map (l:Pls) (ρ:ByteArray→Nat):∀ xs:List Tm,valFL l ρ xs=xs.map (valF l ρ)
 | []=>rfl
 | t::r=>by rw [valFL,valFL_map l ρ r]; rfl
theorem valL_map (l:Pls) (vs:List ByteArray) (ks:List Nat):∀ xs:List Tm,valL l vs ks xs=xs.map (valT l vs ks)
 | []=>rfl
 | t::r=>by rw [valL,valL_map l vs ks r]; rfl
theorem valT_F (l:Pls) (vs:List ByteArray) (ks:List Nat):∀ t:Tm,valT l vs ks t=valF l (valV vs ks) t:=Tm.ind fun t ih=>by
 rw [valT_eq,valF_eq,valL_map,valFL_map,List.map_congr_left ih]
theorem valF_app (l:Pls) (ρ:ByteArray→Nat) (s:Su):∀ t:Tm,valF l ρ (Tm.app s t)=valF l (fun x=>valF l ρ (Tm.image s x)) t:=Tm.ind fun t ih=>by
 rw [Tm.app_eq,valF_eq l _ t]
 by_cases hv:t.var=true
 ·rw [if_pos hv,if_pos hv]
 ·rw [if_neg hv,if_neg hv,valF_eq]
  show evalP (valFL l ρ (t.args.map (Tm.app s))) (entPl l t.name (t.args.map (Tm.app s)).length).1=_
  rw [valFL_map,valFL_map,List.length_map,List.map_map,← List.map_congr_left ih]; rfl
theorem valF_congr (l:Pls) {ρ ρ':ByteArray→Nat}:∀ t:Tm,(∀ s∈t.pre,s.var=true→ρ s.name=ρ' s.name)→valF l ρ t=valF l ρ' t:=Tm.ind fun t ih h=>by
 rw [valF_eq,valF_eq]
 rw [Tm.pre_eq] at h
 by_cases hv:t.var=true
 ·rw [if_pos hv,if_pos hv,h t (by simp) hv]
 ·rw [if_neg hv,if_neg hv,valFL_map,valFL_map]
  congr 1
  refine List.map_congr_left fun a ha=>ih a ha fun s hs hsv=>h s ?_ hsv
  rw [Tm.preL_eq]
  exact List.mem_cons_of_mem _ (List.mem_flatMap.2 ⟨a,ha,hs⟩)
theorem valV_zero (x:ByteArray):∀ (vs:List ByteArray) (n:Nat),valV vs (List.replicate n 0) x=0
 | [],_=>rfl
 | _::_,0=>rfl
 | v::vs,n+1=>by
  show (if v=x then 0 else valV vs (List.replicate n 0) x)=0
  rw [valV_zero x vs n]; split <;> rfl
end Go.Proofs.YthhnadeoioeniaaGreat
namespace Go.Proofs.YthhnadeoioeniaaGreat
def leV:List Nat→List Nat→Prop
 | [],[]=>True
 | a::l,b::m=>a≤b∧leV l m
 | _,_=>False
theorem leV_refl:∀ l:List Nat,leV l l
 | []=>trivial
 | a::l=>⟨Nat.le_refl _,leV_refl l⟩
theorem monV_le:∀ (ks ks':List Nat) (e:List Int),leV ks ks'→monV ks e≤monV ks' e
 | [],[],e,_=>Nat.le_refl _
 | [],_::_,_,h=>h.elim
 | _::_,[],_,h=>h.elim
 | a::ks,b::ks',[],_=>Nat.le_refl _
 | a::ks,b::ks',k::e,h=>Nat.mul_le_mul (Nat.pow_le_pow_left h.1 _) (monV_le ks ks' e h.2)
theorem evalP_le {ks ks':List Nat} (h:leV ks ks'):∀ p:Mos,evalP ks p≤evalP ks' p
 | []=>Nat.le_refl _
 | x::p=>by
  rw [evalP_cons,evalP_cons]
  exact Nat.add_le_add (Nat.mul_le_mul_left _ (monV_le ks ks' x.exps h)) (evalP_le h p)
def aloneE:List Int→Nat→Bool
 | [],_=>false
 | e::es,0=>decide (0<e)&&es.all fun k=>decide (k=0)
 | e::es,i+1=>decide (e=0)&&aloneE es i
theorem monV_nil:∀ (ks:List Nat) (e:List Int),(e.all fun k=>decide (k=0))=true→monV ks e=1
 | [],e,_=>by cases e <;> rfl
 | _::_,[],_=>rfl
 | k::ks,a::e,h=>by
  rw [List.all_cons,Bool.and_eq_true,decide_eq_true_iff] at h
  rw [monV,h.1,monV_nil ks e h.2]; rfl
theorem monV_lt:∀ (ks ks':List Nat) (e:List Int) (i:Nat),leV ks ks'→aloneE e i=true→i<ks.length→ks.getD i 0<ks'.getD i 0→monV ks e<monV ks' e
 | [],_,_,_,_,_,h,_=>by simp at h
 | _::_,[],_,_,h,_,_,_=>h.elim
 | _::_,_::_,[],i,_,h,_,_=>by cases h
 | a::ks,b::ks',k::e,0,h,ha,_,hlt=>by
  rw [aloneE,Bool.and_eq_true,decide_eq_true_iff] at ha
  rw [monV,monV,monV_nil ks e ha.2,monV_nil ks' e ha.2,Nat.mul_one,Nat.mul_one]
  exact Nat.pow_lt_pow_left hlt (by omega)
 | a::ks,b::ks',k::e,i+1,h,ha,hi,hlt=>by
  rw [aloneE,Bool.and_eq_true,decide_eq_true_iff] at ha
  rw [monV,monV,ha.1]
  show a ^ 0*_<b ^ 0*_
  rw [Nat.pow_zero,Nat.pow_zero,Nat.one_mul,Nat.one_mul]
  exact monV_lt ks ks' e i h.2 ha.2 (by simpa using hi) hlt
theorem evalP_lt {ks ks':List Nat} {i:Nat} (h:leV ks ks') (hi:i<ks.length) (hlt:ks.getD i 0<ks'.getD i 0):∀ p:Mos,(∃ x∈p,aloneE x.exps i=true∧0<x.coef)→evalP ks p<evalP ks' p
 | [],h=>by obtain ⟨x,hx,_⟩:=h; simp at hx
 | y::p,hx=>by
  rw [evalP_cons,evalP_cons]
  obtain ⟨x,hx,ha,hc⟩:=hx
  rcases List.mem_cons.1 hx with rfl | hx
  ·have h1:moV ks x<moV ks' x:=Nat.mul_lt_mul_of_pos_left (monV_lt ks ks' x.exps i h ha hi hlt) hc
   have h2:=evalP_le h p
   omega
  ·have h1:moV ks y≤moV ks' y:=Nat.mul_le_mul_left _ (monV_le ks ks' y.exps h)
   have h2:=evalP_lt h hi hlt p ⟨x,hx,ha,hc⟩
   omega
def MonoS (l:Pls) (x:ByteArray) (n:Nat):Prop:=∀ i,i<n→∃ m∈(entPl l x n).1,aloneE m.exps i=true∧0<m.coef
theorem leV_set {k k':Nat} (hk:k≤k'):∀ (l:List Nat) (i:Nat),leV (l.set i k) (l.set i k')
 | [],i=>by simp [leV]
 | a::l,0=>⟨hk,leV_refl l⟩
 | a::l,i+1=>⟨Nat.le_refl _,leV_set hk l i⟩
theorem valF_arg (l:Pls) (ρ:ByteArray→Nat) (x:ByteArray) (xs:List Tm) (i:Nat) (hi:i<xs.length) (a b:Tm) (hm:MonoS l x xs.length) (h:valF l ρ b<valF l ρ a):valF l ρ (.mk x false (xs.set i b))<valF l ρ (.mk x false (xs.set i a)):=by
 have e:∀ c,valF l ρ (.mk x false (xs.set i c))=evalP ((xs.map (valF l ρ)).set i (valF l ρ c)) (entPl l x xs.length).1:=fun c=>by
  rw [valF_eq]
  show (if false=true then _ else evalP (valFL l ρ (xs.set i c)) (entPl l x (xs.set i c).length).1)=_
  rw [if_neg (by simp),valFL_map,List.map_set,List.length_set]
 rw [e,e]
 have hl:i<((xs.map (valF l ρ)).set i (valF l ρ b)).length:=by rw [List.length_set,List.length_map]; exact hi
 refine evalP_lt (leV_set (Nat.le_of_lt h) _ i) hl ?_ _ (hm i hi)
 have g:∀ c,((xs.map (valF l ρ)).set i (valF l ρ c)).getD i 0=valF l ρ c:=fun c=>by
  rw [List.getD_eq_getElem?_getD,List.getElem?_set_self (by rw [List.length_map]; exact hi)]; rfl
 rw [g,g]; exact h
end Go.Proofs.YthhnadeoioeniaaGreat
namespace Go.Proofs.YthhnadeoioeniaaGreat
theorem mul_expand (a b c d B:Nat):(a*B+b)*(c*B+d)=a*c*B*B+(a*d+b*c)*B+b*d:=by
 simp only [Nat.add_mul,Nat.mul_add]
 have h1:a*B*(c*B)=a*c*B*B:=by ac_rfl
 have h2:b*(c*B)=b*c*B:=by ac_rfl
 have h3:a*B*d=a*d*B:=by ac_rfl
 rw [h1,h2,h3]; omega
theorem mul64_plain (x y:Nat) (hx:x<18446744073709551616) (hy:y<18446744073709551616) :
  let x0:=x % 4294967296; let x1:=x / 4294967296; let y0:=y % 4294967296; let y1:=y / 4294967296
  let t:=x1*y0+x0*y0 / 4294967296; let w1:=t % 4294967296+x0*y1; let hi:=x1*y1+t / 4294967296+w1 / 4294967296
  x0*y0<18446744073709551616∧x1*y0<18446744073709551616∧t<18446744073709551616∧x0*y1<18446744073709551616∧w1<18446744073709551616∧x1*y1<18446744073709551616∧x1*y1+t / 4294967296<18446744073709551616∧hi<18446744073709551616∧hi=x*y / 18446744073709551616:=by
 intro x0 x1 y0 y1 t w1 hi
 have hx0:x0≤4294967295:=by show x % 4294967296≤_; omega
 have hx1:x1≤4294967295:=by show x / 4294967296≤_; omega
 have hy0:y0≤4294967295:=by show y % 4294967296≤_; omega
 have hy1:y1≤4294967295:=by show y / 4294967296≤_; omega
 have ex:x=x1*4294967296+x0:=by show x=x / 4294967296*4294967296+x % 4294967296; omega
 have ey:y=y1*4294967296+y0:=by show y=y / 4294967296*4294967296+y % 4294967296; omega
 have b00:=Nat.mul_le_mul hx0 hy0
 have b10:=Nat.mul_le_mul hx1 hy0
 have b01:=Nat.mul_le_mul hx0 hy1
 have b11:=Nat.mul_le_mul hx1 hy1
 have exy:x*y=x1*y1*4294967296*4294967296+(x1*y0+x0*y1)*4294967296+x0*y0:=by
  rw [ex,ey]; exact mul_expand x1 x0 y1 y0 4294967296
 rw [exy]
 show x0*y0<_∧x1*y0<_∧x1*y0+x0*y0 / 4294967296<_∧x0*y1<_∧(x1*y0+x0*y0 / 4294967296) % 4294967296+x0*y1<_∧x1*y1<_∧x1*y1+(x1*y0+x0*y0 / 4294967296) / 4294967296<_ ∧
  x1*y1+(x1*y0+x0*y0 / 4294967296) / 4294967296+((x1*y0+x0*y0 / 4294967296) % 4294967296+x0*y1) / 4294967296<_ ∧
  x1*y1+(x1*y0+x0*y0 / 4294967296) / 4294967296+((x1*y0+x0*y0 / 4294967296) % 4294967296+x0*y1) / 4294967296=_
 clear_value x0 x1 y0 y1
 clear exy ex ey hi w1 t
 generalize x0*y0=a at *
 generalize x1*y0=b at *
 generalize x0*y1=c at *
 generalize x1*y1=d at *
 omega
theorem sort_unique:∀ {l m:Mos},SortP l→SortP m→l.Perm m→l=m
 | [],m,_,_,h=>by have:=h.length_eq; exact (List.eq_nil_of_length_eq_zero (by simpa using this.symm)).symm
 | x::l,[],_,_,h=>by have:=h.length_eq; simp at this
 | x::l,y::m,h1,h2,h=>by
  have p1:=List.pairwise_cons.1 h1
  have p2:=List.pairwise_cons.1 h2
  have hxy:x=y:=by
   rcases List.mem_cons.1 (h.mem_iff.1 (show x∈x::l by simp)) with e | e
   ·exact e
   ·rcases List.mem_cons.1 (h.mem_iff.2 (show y∈y::m by simp)) with f | f
    ·exact f.symm
    ·have g1:=p1.1 y f
     have g2:=p2.1 x e
     rw [cmpE_flip,g1] at g2; cases g2
  subst hxy
  rw [sort_unique p1.2 p2.2 h.cons_inv]
end Go.Proofs.YthhnadeoioeniaaGreat
namespace Go.Proofs.YthhnadeoioeniaaGreat
open Go.Abs
def encP (p:List Int):List (List V):=p.map fun i=>[.i i]
abbrev psD (p:List Int):D:=.v (.sl ZT) (.l (encP p))
theorem encP_length (p:List Int):(encP p).length=p.length:=by simp [encP]
theorem encP_getD (p:List Int) (k:Nat) (h:k<p.length):(encP p).getD k []=[.i p[k]]:=by
 rw [encP,List.getD_eq_getElem?_getD,List.getElem?_map,List.getElem?_eq_getElem h]; rfl
namespace Tm
def dflt:Tm:=mk bz false []
def at_:Tm→List Int→Option Tm
 | t,[]=>some t
 | t,i::p=>if i<0 then none else if i≥(t.args.length:Int) then none else at_ (t.args.getD i.toNat dflt) p
def put:Tm→List Int→Tm→Tm
 | _,[],u=>u
 | t,i::p,u=>mk t.name false (t.args.set i.toNat (put (t.args.getD i.toNat dflt) p u))
end Tm
def opD:Option Tm→D
 | none=>.tup [tD Tm.dflt,bD false]
 | some t=>.tup [tD t,bD true]
theorem r01_At_ok (t:Tm) (p:List Int):Fn ZlH [tD t,psD p] (opD (Tm.at_ t p)):=Fn.as fun Q hQ=>by
 refine ZmT _ _ _ _ _ ?_
 unfold Zmh
 intro hb
 have hl:=encP_length p
 rw [hl] at hb ⊢
 have none_:Tm.at_ t p=none→Q (.tup [.agg [.v .str (V.s (ByteArray.mk #[])),.v .bool (V.b false),.nil],.v .bool (V.b false)]) []:=fun h=>by
  rw [h] at hQ; exact hQ _ (.pair (.last3 _ _ _) (.refl _))
 refine Zk9 Q _ _ _ _ hb (fun k y0 y1 y2=>∃ s:Tm,y0=.s s.name∧y1=.b s.var∧y2=.l (Tm.encL s.args)∧Tm.at_ s (p.drop k)=Tm.at_ t p) (fun k y0 y1 y2 hk hJ m0 hK=>?_) (fun y0 y1 y2 hJ=>?_) 0 _ _ _ (Nat.zero_le _) ⟨t,rfl,rfl,rfl,rfl⟩
 ·obtain ⟨s,rfl,rfl,rfl,hs⟩:=hJ
  simp only [encP_getD _ k hk,List.drop_zero,List.headD_cons,List.tail_cons,V.int,V.list]
  rw [List.drop_eq_getElem_cons hk] at hs
  simp only [Tm.at_] at hs
  have hsl:=Tm.encL_length s.args
  refine ⟨by omega,by omega,iff_dec (fun h=>⟨⟨⟨trivial,trivial,trivial,trivial⟩,trivial,trivial⟩,?_⟩) (fun h _=>?_)⟩
  ·rw [if_pos h] at hs
   exact none_ hs.symm
  ·rw [if_neg h] at hs
   rw [hsl]
   refine iff_dec (fun h2=>⟨⟨⟨trivial,trivial,trivial,trivial⟩,trivial,trivial⟩,?_⟩) (fun h2=>?_)
   ·rw [if_pos h2] at hs
    exact none_ hs.symm
   ·rw [if_neg h2] at hs
    rw [ZlI]
    unfold ZkN
    simp only [V.int,V.list]
    have hj:(p[k]).toNat<s.args.length:=by omega
    refine ⟨by omega,by omega,?_⟩
    rw [Tm.encL_getD _ _ hj]
    simp only [Tm.enc_eq,List.drop_zero,List.headD_cons,List.tail_cons]
    refine hK _ _ _ ⟨s.args[(p[k]).toNat],rfl,rfl,rfl,?_⟩
    rw [← hs,List.getD_eq_getElem?_getD,List.getElem?_eq_getElem hj]; rfl
 ·obtain ⟨s,rfl,rfl,rfl,hs⟩:=hJ
  rw [List.drop_length] at hs
  refine ⟨⟨⟨trivial,trivial,trivial,trivial⟩,trivial,trivial⟩,?_⟩
  rw [← hs] at hQ
  exact hQ _ (.refl _)
theorem r01_Put_ok:∀ (p:List Int) (t u:Tm),Tm.at_ t p≠none→t.args.length≤lim→t.size≤lim→Fn Zij [tD t,psD p,tD u] (tD (Tm.put t p u))
 | [],t,u,_,_,_=>fun Q hQ=>by
  refine Zl6 _ _ _ _ _ _ _ _ ?_
  unfold Zje
  exact fun _=>iff_beq (fun _=>⟨⟨trivial,trivial,trivial,trivial⟩,hQ⟩) (fun h=>absurd rfl h)
 | i::p,t,u,ha,hB,hS=>fun Q hQ=>by
  refine Zl6 _ _ _ _ _ _ _ _ ?_
  unfold Zje
  intro hb
  have hl:=encP_length (i::p)
  have hl':(encP (i::p)).length=p.length+1:=hl
  rw [big_eq] at hb
  simp only [Tm.at_] at ha
  have h1:¬ i<0:=fun h=>by rw [if_pos h] at ha; exact ha rfl
  rw [if_neg h1] at ha
  have h2:¬ i≥(t.args.length:Int):=fun h=>by rw [if_pos h] at ha; exact ha rfl
  rw [if_neg h2] at ha
  have hi:i.toNat<t.args.length:=by omega
  have htl:=Tm.encL_length t.args
  have e0:(encP (i::p)).getD ((0:Int)).toNat []=[.i i]:=rfl
  have e1:((encP (i::p)).take (((encP (i::p)).length:Int)).toNat).drop (1:Int).toNat=encP p:=by
   rw [Int.toNat_natCast,List.take_length]; rfl
  have eg:t.args.getD i.toNat Tm.dflt=t.args[i.toNat]:=by rw [List.getD_eq_getElem?_getD,List.getElem?_eq_getElem hi]; rfl
  rw [eg] at ha
  simp only [e0,e1,List.nil_append,Nat.zero_add,List.drop_zero,List.headD_cons,V.int,Tm.encL_getD _ _ hi,Tm.enc_eq,List.tail_cons]
  have hm:=Tm.size_mem (List.getElem_mem hi)
  have hal:=Tm.length_sizeL (t.args[i.toNat]).args
  have has:=Tm.size_eq (t.args[i.toNat])
  refine iff_beq (fun h=>by omega) (fun _=>?_)
  repeat' (first | (refine ⟨(by first | omega | rfl | simp),?_⟩) | (refine ⟨tD (Tm.put (t.args[i.toNat]) p u),(r01_Put_ok p _ u ha (by omega) (by omega)).here rfl,?_⟩) | (refine ⟨⟨trivial,trivial,by simp,trivial⟩,?_⟩) | fail)
  simp only [Tm.put] at hQ
  rw [eg] at hQ
  have:(Tm.encL t.args).set i.toNat (setV [.s (t.args[i.toNat]).name,.b (t.args[i.toNat]).var,.l (Tm.encL (t.args[i.toNat]).args)] 0 [.s (Tm.put (t.args[i.toNat]) p u).name,.b (Tm.put (t.args[i.toNat]) p u).var,.l (Tm.encL (Tm.put (t.args[i.toNat]) p u).args)])=Tm.encL (t.args.set i.toNat (Tm.put (t.args[i.toNat]) p u)):=by
   rw [Tm.encL_eq (List.set _ _ _),List.map_set,← Tm.encL_eq,Tm.enc_eq (Tm.put _ _ _)]
   rfl
  exact this▸hQ
end Go.Proofs.YthhnadeoioeniaaGreat
namespace Go.Proofs.YthhnadeoioeniaaGreat
theorem valF_put (l:Pls) (ρ:ByteArray→Nat) (a b:Tm) (h:valF l ρ b<valF l ρ a):∀ (p:List Int) (t:Tm),Tm.at_ t p≠none→(∀ s∈t.pre,MonoS l s.name s.args.length)→valF l ρ (Tm.put t p b)<valF l ρ (Tm.put t p a)
 | [],_,_,_=>h
 | i::p,t,hat,hm=>by
  simp only [Tm.at_] at hat
  by_cases h0:i<0
  ·rw [if_pos h0] at hat; exact absurd rfl hat
  ·rw [if_neg h0] at hat
   by_cases h1:i≥(t.args.length:Int)
   ·rw [if_pos h1] at hat; exact absurd rfl hat
   ·rw [if_neg h1] at hat
    have hi:i.toNat<t.args.length:=by omega
    have hg:t.args.getD i.toNat Tm.dflt=t.args[i.toNat]:=by rw [List.getD_eq_getElem?_getD,List.getElem?_eq_getElem hi]; rfl
    simp only [Tm.put]
    rw [hg] at hat ⊢
    rw [Tm.pre_eq] at hm
    have ih:=valF_put l ρ a b h p t.args[i.toNat] hat fun s hs=>hm s (by
     rw [Tm.preL_eq]
     exact List.mem_cons_of_mem _ (List.mem_flatMap.2 ⟨_,List.getElem_mem hi,hs⟩))
    exact valF_arg l ρ t.name t.args i.toNat hi _ _ (hm t (by simp)) ih
theorem valF_inst (l:Pls) (hc:∀ x n,∀ m∈(entPl l x n).1,m.coef≤maxV) {vs:List ByteArray} (hn:vs.Nodup) {s t:Tm} (hs:∀ u∈s.pre,u.var=true→u.name∈vs) (ht:∀ u∈t.pre,u.var=true→u.name∈vs) {p q:Mos}
  (hp:polyT l vs s=some p) (hq:polyT l vs t=some q) (hdp:DistP p) (hdq:DistP q) (hd:∀ x∈q,x.coef≤coefP p x.exps∧0<x.coef) (ρ:ByteArray→Nat) :
  valF l ρ t+coefP p (zerosE vs.length)≤valF l ρ s+coefP q (zerosE vs.length):=by
 have hl:vs.length=(vs.map ρ).length:=by rw [List.length_map]
 have e:∀ u:Tm,(∀ w∈u.pre,w.var=true→w.name∈vs)→valT l vs (vs.map ρ) u=valF l ρ u:=fun u hu=>by
  rw [valT_F]
  refine valF_congr l u fun w hw hwv=>?_
  have:∀ (vs:List ByteArray) (x:ByteArray),x∈vs→valV vs (vs.map ρ) x=ρ x:=by
   intro vs
   induction vs with
   | nil=>intro x h; simp at h
   | cons v r ih =>
    intro x h
    show (if v=x then ρ v else valV r (r.map ρ) x)=ρ x
    by_cases hv:v=x
    ·rw [if_pos hv,hv]
    ·rw [if_neg hv]
     rcases List.mem_cons.1 h with h | h
     ·exact absurd h.symm hv
     ·exact ih x h
  exact this vs _ (hu w hw hwv)
 have h1:=(term_val l hc vs (vs.map ρ) hl hn s hs p hp).2
 have h2:=(term_val l hc vs (vs.map ρ) hl hn t ht q hq).2
 rw [e s hs] at h1
 rw [e t ht] at h2
 rw [← h1,← h2]
 exact eval_dom (vs.map ρ) q p hdq hdp hd
end Go.Proofs.YthhnadeoioeniaaGreat
namespace Go.Proofs.YthhnadeoioeniaaGreat
def PosP (l:Mos):Prop:=∀ x∈l,0<x.coef
theorem plusP_pos {a b:Nat} (h:0<a):0<plusP a b:=by show 0<min (a+b) 4611686018427387905; omega
theorem timesP_pos {a b:Nat} (h:0<a) (h2:0<b):0<timesP a b:=by
 have:=Nat.mul_pos h h2
 show 0<min (a*b) 4611686018427387905
 omega
theorem pos_add {m:Mo} (hm:0<m.coef):∀ {l:Mos},PosP l→PosP (addP l m)
 | [],_,x,hx=>by have:x=m:=(by simpa [addP] using hx); rw [this]; exact hm
 | y::l,h,x,hx=>by
  have hy:=h y (by simp)
  rcases cmpE_cases y.exps m.exps with g | g | g
  ·rw [addP_lt g] at hx
   rcases List.mem_cons.1 hx with rfl | hx
   ·exact hy
   ·exact pos_add hm (fun z hz=>h z (by simp [hz])) x hx
  ·rw [addP_eq g] at hx
   rcases List.mem_cons.1 hx with rfl | hx
   ·exact plusP_pos hy
   ·exact h x (by simp [hx])
  ·rw [addP_gt g] at hx
   rcases List.mem_cons.1 hx with rfl | hx
   ·exact hm
   ·exact h x hx
theorem pos_adds:∀ {ms l:Mos},PosP ms→PosP l→PosP (addsP l ms)
 | [],_,_,h=>h
 | m::ms,l,hm,h=>pos_adds (ms:=ms) (fun x hx=>hm x (by simp [hx])) (pos_add (hm m (by simp)) h)
theorem pos_mul {a b c:Mos} (ha:PosP a) (hb:PosP b) (h:mulP a b=some c):PosP c:=by
 unfold mulP at h
 split at h
 ·cases h
 ·cases h
  refine pos_adds (fun x hx=>?_) fun x hx=>by simp at hx
  obtain ⟨y,hy,hx⟩:=List.mem_flatMap.1 hx
  obtain ⟨z,hz,rfl⟩:=List.mem_map.1 hx
  exact timesP_pos (ha y hy) (hb z hz)
theorem pos_pow {p:Mos} (hp:PosP p):∀ (k:Nat) (x y:Mos),PosP x→powP p k x=some y→PosP y
 | 0,x,y,hx,h=>by cases h; exact hx
 | k+1,x,y,hx,h=>by
  rw [powP] at h
  cases hm:mulP x p with
  | none=>rw [hm] at h; cases h
  | some z=>rw [hm] at h; exact pos_pow hp k z y (pos_mul hx hp hm) h
theorem pos_chain:∀ (es:List Int) (ps:List Mos) (x y:Mos),(∀ p∈ps,PosP p)→PosP x→chainP es ps x=some y→PosP y
 | [],ps,x,y,_,hx,h=>by
  have e:chainP [] ps x=some x:=by cases ps <;> rfl
  rw [e] at h; cases h; exact hx
 | e::es,[],x,y,_,hx,h=>by cases h; exact hx
 | e::es,p::ps,x,y,hp,hx,h=>by
  rw [chainP] at h
  cases hm:powP p e.toNat x with
  | none=>rw [hm] at h; cases h
  | some z=>rw [hm] at h; exact pos_chain es ps z y (fun q hq=>hp q (by simp [hq])) (pos_pow (hp p (by simp)) _ x z hx hm) h
theorem pos_mono {n:Nat} (m:Mo) (ps:List Mos) (y:Mos) (hc:0<m.coef) (hp:∀ p∈ps,PosP p) (h:monoP n m ps=some y):PosP y:=by
 unfold monoP at h
 split at h
 ·cases h; intro x hx; simp at hx
 ·exact pos_chain m.exps ps _ y hp (fun x hx=>by have:x=⟨m.coef,zerosE n⟩:=(by simpa using hx); rw [this]; exact hc) h
theorem pos_insert {n:Nat} (ps:List Mos) (hp:∀ p∈ps,PosP p):∀ (ms out y:Mos),PosP ms→PosP out→SortP out→insertP n ps ms out=some y→PosP y∧SortP y
 | [],out,y,_,ho,hs,h=>by cases h; exact ⟨ho,hs⟩
 | m::ms,out,y,hc,ho,hs,h=>by
  rw [insertP] at h
  cases hm:monoP n m ps with
  | none=>rw [hm] at h; cases h
  | some x =>
   rw [hm] at h
   have h:(if largeP (addsP out x) then none else insertP n ps ms (addsP out x))=some y:=h
   split at h
   ·cases h
   ·exact pos_insert ps hp ms _ y (fun z hz=>hc z (by simp [hz])) (pos_adds (pos_mono m ps x (hc m (by simp)) hp hm) ho) (addsP_sort hs) h
theorem term_pos (l:Pls) (hc:∀ x n,PosP (entPl l x n).1) (vs:List ByteArray):∀ (t:Tm) (c:Mos),polyT l vs t=some c→PosP c∧SortP c:=Tm.ind fun t ih c h=>by
 rw [polyT_eq] at h
 split at h
 ·cases h
  exact ⟨fun x hx=>by have:x=⟨1,uV vs t.name⟩:=(by simpa using hx); rw [this]; exact Nat.one_pos,by simp [SortP]⟩
 ·have args:∀ xs:List Tm,(∀ a∈xs,∀ c,polyT l vs a=some c→PosP c∧SortP c)→∀ ps,polyL l vs xs=some ps→∀ p∈ps,PosP p:=by
   intro xs
   induction xs with
   | nil=>intro _ ps h; cases h; intro p hp; simp at hp
   | cons a r ihr =>
    intro h ps hps
    rw [polyL] at hps
    cases hp:polyT l vs a with
    | none=>rw [hp] at hps; cases hps
    | some p =>
     rw [hp] at hps
     have hps:(match polyL l vs r with | none=>none | some ps=>some (p::ps))=some ps:=hps
     cases hq:polyL l vs r with
     | none=>rw [hq] at hps; cases hps
     | some qs =>
      rw [hq] at hps
      cases hps
      intro q hq2
      rcases List.mem_cons.1 hq2 with rfl | hq2
      ·exact (h a (by simp) _ hp).1
      ·exact ihr (fun b hb=>h b (by simp [hb])) qs hq q hq2
  cases hp:polyL l vs t.args with
  | none=>rw [hp] at h; cases h
  | some ps =>
   rw [hp] at h
   have h:insertP vs.length ps (entPl l t.name t.args.length).1 []=some c:=h
   exact pos_insert ps (args t.args ih ps hp) _ [] c (hc _ _) (fun x hx=>by simp at hx) (by simp [SortP]) h
end Go.Proofs.YthhnadeoioeniaaGreat
namespace Go.Proofs.YthhnadeoioeniaaGreat
def TI (T:List UInt8) (ok:Bool) (o a b:List UInt8):Prop :=
 ∃ (i:Nat) (l m:List Int),a=keyL i l∧b=keyL i m∧l.length=m.length∧(∀ e∈l,0≤e∧e≤1048576)∧(∀ e∈m,0≤e∧e≤1048576)∧i+l.length≤65536∧T=o++keyL i (addE l m)∧ok=expsOk (addE l m)
theorem keyL_pos {i:Nat} {e:Int} (h:0<e) (r:List Int):keyL i (e::r)=powL i e++keyL (i+1) r:=by rw [keyL,if_pos h]
theorem keyL_zero (i:Nat) (r:List Int):keyL i (0::r)=keyL (i+1) r:=by rw [keyL,if_neg (by omega),List.nil_append]
theorem expsOk_cons (e:Int) (r:List Int):expsOk (e::r)=(decide (e≤1048576)&&expsOk r):=rfl
theorem TI.step {T:List UInt8} {ok:Bool} {o a b:List UInt8} (h:TI T ok o a b) (ha:a≠[]) (hb:b≠[]) :
  ∃ (x y:Nat) (n m:Int) (a' b':List UInt8),a=powL x n++a'∧b=powL y m++b'∧x<65536∧y<65536∧0<n∧n≤1048576∧0<m∧m≤1048576 ∧
   (x<y→TI T ok (o++powL x n) a' b)∧(y<x→TI T ok (o++powL y m) a b')∧(x=y→1048576<n+m→ok=false)∧(x=y→n+m≤1048576→TI T ok (o++powL x (n+m)) a' b'):=by
 obtain ⟨i,l,m,rfl,rfl,hl,h1,h2,hi,hT,hok⟩:=h
 obtain ⟨j,α,l',β,m',g1,g2,g3,g4,g5,g6,g7,g8,g9,g10,e1,e2,e3,e4⟩:=skip0 l m i hl (fun e he=>(h1 e he).1) (fun e he=>(h2 e he).1) ha
 have v1:∀ e∈l',0≤e∧e≤1048576:=fun e he=>h1 e (g7 e he)
 have v2:∀ e∈m',0≤e∧e≤1048576:=fun e he=>h2 e (g8 e he)
 have w1:∀ e∈l',0≤e∧e<4294967296:=fun e he=>by have:=v1 e he; omega
 have w2:∀ e∈m',0≤e∧e<4294967296:=fun e he=>by have:=v2 e he; omega
 have hα:=(h1 α g9).2
 have hβ:=(h2 β g10).2
 rw [e1] at ha ⊢
 rw [e2] at hb ⊢
 rw [e3] at hT
 rw [e4] at hok
 rw [addE] at hT hok
 by_cases a0:0<α
 ·by_cases b0:0<β
  ·refine ⟨j,j,α,β,keyL (j+1) l',keyL (j+1) m',keyL_pos a0 _,keyL_pos b0 _,by omega,by omega,a0,hα,b0,hβ,fun h=>by omega,fun h=>by omega,fun _ hbig=>?_,fun _ hs=>?_⟩
   ·rw [hok,expsOk_cons,decide_eq_false (by omega)]; rfl
   ·refine ⟨j+1,l',m',rfl,rfl,g6,v1,v2,by omega,?_,?_⟩
    ·rw [hT,keyL_pos (by omega),List.append_assoc]
    ·rw [hok,expsOk_cons,decide_eq_true hs]; rfl
  ·have b0:β=0:=by omega
   subst b0
   rw [keyL_zero] at hb ⊢
   rcases keyL_first (i:=i) m' (j+1) w2 (by omega) with f | ⟨k,e,r,f,f1,f2,f3,f4⟩
   ·exact absurd f hb
   ·have he:e≤1048576:=by
     -- an exponent of the key is one of the vector's
     have key:∀ (q:List Int) (s:Nat),(∀ z∈q,0≤z∧z≤1048576)→s+q.length≤65536→keyL s q=powL k e++r→e≤1048576:=by
      intro q
      induction q with
      | nil=>intro s _ _ h; simp [keyL,powL] at h
      | cons z q ih =>
       intro s hz hs h
       simp only [List.length_cons] at hs
       by_cases z0:0<z
       ·rw [keyL_pos z0] at h
        have hzz:=hz z (by simp)
        have:=powL_inj (by omega) f2 (by omega) (by omega) (by omega) f4 (powL_append h).1
        omega
       ·have:z=0:=by have:=hz z (by simp); omega
        subst this
        rw [keyL_zero] at h
        exact ih (s+1) (fun y hy=>hz y (by simp [hy])) (by omega) h
     exact key m' (j+1) v2 (by omega) f
    refine ⟨j,k,α,e,keyL (j+1) l',r,keyL_pos a0 _,f,by omega,f2,a0,hα,f3,he,fun _=>?_,fun h=>by omega,fun h=>by omega,fun h=>by omega⟩
    refine ⟨j+1,l',m',rfl,rfl,g6,v1,v2,by omega,?_,?_⟩
    ·rw [hT,Int.add_zero,keyL_pos a0,List.append_assoc]
    ·rw [hok,Int.add_zero,expsOk_cons,decide_eq_true hα]; rfl
 ·have a0:α=0:=by omega
  subst a0
  have b0:0<β:=by omega
  rw [keyL_zero] at ha ⊢
  rcases keyL_first (i:=i) l' (j+1) w1 (by omega) with f | ⟨k,e,r,f,f1,f2,f3,f4⟩
  ·exact absurd f ha
  ·have he:e≤1048576:=by
    have key:∀ (q:List Int) (s:Nat),(∀ z∈q,0≤z∧z≤1048576)→s+q.length≤65536→keyL s q=powL k e++r→e≤1048576:=by
     intro q
     induction q with
     | nil=>intro s _ _ h; simp [keyL,powL] at h
     | cons z q ih =>
      intro s hz hs h
      simp only [List.length_cons] at hs
      by_cases z0:0<z
      ·rw [keyL_pos z0] at h
       have hzz:=hz z (by simp)
       have:=powL_inj (by omega) f2 (by omega) (by omega) (by omega) f4 (powL_append h).1
       omega
      ·have:z=0:=by have:=hz z (by simp); omega
       subst this
       rw [keyL_zero] at h
       exact ih (s+1) (fun y hy=>hz y (by simp [hy])) (by omega) h
    exact key l' (j+1) v1 (by omega) f
   refine ⟨k,j,e,β,r,keyL (j+1) m',f,keyL_pos b0 _,f2,by omega,f3,he,b0,hβ,fun h=>by omega,fun _=>?_,fun h=>by omega,fun h=>by omega⟩
   refine ⟨j+1,l',m',rfl,rfl,g6,v1,v2,by omega,?_,?_⟩
   ·rw [hT,Int.zero_add,keyL_pos b0,List.append_assoc]
   ·rw [hok,Int.zero_add,expsOk_cons,decide_eq_true hβ]; rfl
theorem expsOk_of {l:List Int} (h:∀ e∈l,0≤e∧e≤1048576):expsOk l=true:=List.all_eq_true.2 fun e he=>decide_eq_true (h e he).2
theorem TI.done {T:List UInt8} {ok:Bool} {o a b:List UInt8} (h:TI T ok o a b) (hab:a=[]∨b=[]):T=o++a++b∧ok=true:=by
 obtain ⟨i,l,m,rfl,rfl,hl,h1,h2,hi,hT,hok⟩:=h
 rcases hab with e | e
 ·have hz:=addE_zero_left l m hl (keyL_nil l i (fun e he=>(h1 e he).1) e)
  rw [hz] at hT hok
  rw [e,List.append_nil]
  exact ⟨hT,by rw [hok,expsOk_of h2]⟩
 ·have hz:=addE_zero_left m l hl.symm (keyL_nil m i (fun e he=>(h2 e he).1) e)
  rw [addE_comm,hz] at hT hok
  rw [e,List.append_nil]
  exact ⟨hT,by rw [hok,expsOk_of h1]⟩
theorem TI.start (l m:List Int) (hl:l.length=m.length) (h1:∀ e∈l,0≤e∧e≤1048576) (h2:∀ e∈m,0≤e∧e≤1048576) (hn:l.length≤65536):TI (keyL 0 (addE l m)) (expsOk (addE l m)) [] (keyL 0 l) (keyL 0 m) :=
 ⟨0,l,m,rfl,rfl,hl,h1,h2,by omega,rfl,rfl⟩
theorem powL_var {i:Nat} (h:i<65536):(UInt8.ofNat (i / 256)).toNat*256+(UInt8.ofNat i).toNat=i:=by
 simp only [UInt8.toNat_ofNat']
 omega
theorem powL_exp {e:Int} (h0:0≤e) (h:e<4294967296):(UInt8.ofNat (e.toNat / 16777216)).toNat*16777216+(UInt8.ofNat (e.toNat / 65536)).toNat*65536+(UInt8.ofNat (e.toNat / 256)).toNat*256+(UInt8.ofNat e.toNat).toNat=e.toNat:=by
 simp only [UInt8.toNat_ofNat']
 omega
end Go.Proofs.YthhnadeoioeniaaGreat
namespace Go.Proofs.YthhnadeoioeniaaGreat
def capP (a:Nat):Nat:=min a ovr
def aliveV:List Nat→List Int→Bool
 | k::ks,e::es=>(decide (e≤0)||decide (0<k))&&aliveV ks es
 | _,_=>true
end Go.Proofs.YthhnadeoioeniaaGreat
namespace Go.Proofs.YthhnadeoioeniaaGreat
def dMo:Mo:=⟨0,[]⟩
def formAt (l:Mos) (k:Nat):Bool:=decide ((l.getD k dMo).exps.length≤8)&&decide ((l.getD k dMo).exps.length=(l.getD 0 dMo).exps.length)&&(decide (k=0)||decide (cmpE (l.getD (k - 1) dMo).exps (l.getD k dMo).exps = -1))
def formOk (l:Mos):Bool:=(List.range l.length).all (formAt l)
def argOk (x:Mo):Bool:=decide (1≤x.coef)&&decide (x.coef≤1048576)&&x.exps.all fun e=>decide (0≤e)&&decide (e≤8)
def monosE (l:Mos):Int:=if 64<l.length then 3 else if formOk l=false then 4 else if l.all argOk=false then 2 else 0
def firstE:Pls→Int
 | []=>0
 | y::r=>if monosE y.monos≠0 then monosE y.monos else firstE r
theorem firstE_zero:∀ {l:Pls},firstE l=0→∀ y∈l,monosE y.monos=0
 | [],_,y,hy=>by simp at hy
 | x::l,h,y,hy=>by
  rw [firstE] at h
  by_cases hx:monosE x.monos=0
  ·rw [if_neg (by simp [hx])] at h
   rcases List.mem_cons.1 hy with rfl | hy
   ·exact hx
   ·exact firstE_zero h y hy
  ·rw [if_pos hx] at h; exact absurd h hx
theorem monosE_zero {l:Mos} (h:monosE l=0):l.length≤64∧formOk l=true∧l.all argOk=true:=by
 unfold monosE at h
 split at h
 ·cases h
 ·split at h
  ·cases h
  ·split at h
   ·cases h
   ·rename_i h1 h2 h3
    exact ⟨by omega,by simpa using h2,by simpa using h3⟩
theorem getD_at {l:Mos} {k:Nat} (h:k<l.length):l.getD k dMo=l[k]:=by rw [List.getD_eq_getElem?_getD,List.getElem?_eq_getElem h]; rfl
theorem form_len {l:Mos} (h:formOk l=true) {k:Nat} (hk:k<l.length):(l[k]).exps.length≤8∧(l[k]).exps.length=(l.getD 0 dMo).exps.length:=by
 have:=List.all_eq_true.1 h k (List.mem_range.2 hk)
 unfold formAt at this
 rw [getD_at hk] at this
 simp only [Bool.and_eq_true,decide_eq_true_iff] at this
 exact this.1
theorem arg_of {x:Mo} (h:argOk x=true):1≤x.coef∧x.coef≤1048576∧∀ e∈x.exps,0≤e∧e≤8:=by
 unfold argOk at h
 simp only [Bool.and_eq_true,decide_eq_true_iff] at h
 exact ⟨h.1.1,h.1.2,fun e he=>by
  have:=List.all_eq_true.1 h.2 e he
  simpa using this⟩
theorem entPl_coef {l:Pls} (h:∀ y∈l,monosE y.monos=0) (x:ByteArray) (n:Nat):∀ m∈(entPl l x n).1,0<m.coef∧m.coef≤1048576:=fun m hm=>by
 unfold entPl at hm
 cases hf:l.find? fun y=>decide (y.name=x) with
 | none =>
  rw [hf] at hm
  obtain ⟨i,_,rfl⟩:=List.mem_map.1 hm
  exact ⟨Nat.one_pos,by show 1≤1048576; omega⟩
 | some y =>
  rw [hf] at hm
  have:=(monosE_zero (h y (List.mem_of_find?_eq_some hf))).2.2
  have:=arg_of (List.all_eq_true.1 this m hm)
  exact ⟨this.1,this.2.1⟩
theorem entPl_pos {l:Pls} (h:∀ y∈l,monosE y.monos=0) (x:ByteArray) (n:Nat):PosP (entPl l x n).1:=fun m hm=>(entPl_coef h x n m hm).1
theorem entPl_max {l:Pls} (h:∀ y∈l,monosE y.monos=0) (x:ByteArray) (n:Nat):∀ m∈(entPl l x n).1,m.coef≤maxV:=fun m hm=>by
 have:=(entPl_coef h x n m hm).2
 show m.coef≤4611686018427387904
 omega
end Go.Proofs.YthhnadeoioeniaaGreat
namespace Go.Proofs.YthhnadeoioeniaaGreat
open Go.Abs
def idx {α:Type} (p:α→Bool) (l:List α):Int:=match l.findIdx? p with | some i=>i | none=>-1
theorem idx_at {α:Type} {p:α→Bool} {l:List α} {k:Nat} (hk:k<l.length) (h:(l.take k).any p=false) (hp:p l[k]=true):idx p l=k:=by
 have e:l.findIdx? p=some k:=by
  rw [List.findIdx?_eq_some_iff_getElem]
  refine ⟨hk,hp,fun j hj=>?_⟩
  have:=List.any_eq_false.1 h (l[j]'(by omega)) (List.mem_take_iff_getElem.2 ⟨j,by omega,rfl⟩)
  exact this
 unfold idx; rw [e]
theorem idx_none {α:Type} {p:α→Bool} {l:List α} (h:l.any p=false):idx p l = -1:=by
 have e:l.findIdx? p=none:=by
  rw [List.findIdx?_eq_none_iff]
  intro x hx
  have:=List.any_eq_false.1 h x hx
  simpa using this
 unfold idx; rw [e]
theorem idx_any {α:Type} (p:α→Bool) (l:List α):decide (idx p l≥0)=l.any p:=by
 cases h:l.any p with
 | false=>rw [idx_none h]; rfl
 | true =>
  unfold idx
  cases e:l.findIdx? p with
  | some i=>exact decide_eq_true (by show (i:Int)≥0; omega)
  | none =>
   rw [List.findIdx?_eq_none_iff] at e
   obtain ⟨x,hx,hp⟩:=List.any_eq_true.1 h
   rw [e x hx] at hp; cases hp
theorem any_take {α:Type} {p:α→Bool} {l:List α} {k:Nat} (hk:k<l.length) (h:(l.take k).any p=false) (hp:p l[k]=false):(l.take (k+1)).any p=false:=by
 rw [List.take_succ_eq_append_getElem hk,List.any_append,h,List.any_cons,List.any_nil,hp]; rfl
theorem term_inName_ok (c:Int):Fn ZfI [uD c] (bD (letterB c)):=by
 intro Q hQ
 refine ZlG _ _ ?_
 have key:∀ b,b=letterB c→True∧Q (bD b) []:=by rintro _ rfl; exact ⟨trivial,hQ⟩
 unfold ZhC
 repeat' (first | (refine iff_dec (fun _=>?_) (fun _=>?_)) | (refine iff_beq (fun _=>?_) (fun _=>?_)) | fail)
 all_goals
  refine key _ ?_
  unfold letterB
  rw [Bool.eq_iff_iff]
  simp only [decide_eq_true_iff,beq_iff_eq,true_iff]
  omega
theorem term_IsName_1_ok (c:Int):Fn Z3 [uD c] (bD (!letterB c)):=fun Q hQ=>by
 refine Zkv _ _ ?_
 unfold Zf0
 exact term_inName_ok c _ ⟨rfl,rfl,trivial,hQ⟩
theorem stringslite_HasSuffix_ok (a b:ByteArray):Fn ZaU [sD a,sD b] (bD (decide (b.data.toList <:+ a.data.toList))):=fun Q hQ=>by
 refine ZfR _ _ _ fun ha hb=>?_
 rw [big_eq] at ha hb
 have hla:=ba_size a
 have hlb:=ba_size b
 refine iff_dec (fun h _ _=>?_) (fun h=>⟨trivial,?_⟩)
 ·rw [wrap_in _ (by omega) (by omega)]
  refine ⟨by omega,by omega,by omega,trivial,?_⟩
  rw [ba_beq]
  have e:(a.extract ((a.size:Int) - (b.size:Int)).toNat ((a.size:Int)).toNat=b)↔b.data.toList <:+ a.data.toList:=by
   rw [List.suffix_iff_eq_drop,← ba_eq_iff,extract_list,List.take_of_length_le (by omega)]
   have:((a.size:Int) - (b.size:Int)).toNat=a.data.toList.length - b.data.toList.length:=by omega
   rw [this]
   exact eq_comm
  rw [decide_eq_decide.2 e]
  exact hQ
 ·have:¬ b.data.toList <:+ a.data.toList:=fun h2=>by have:=h2.length_le; omega
  rw [decide_eq_false this] at hQ
  exact hQ
def trim (a b:ByteArray):ByteArray:=if b.data.toList <:+ a.data.toList then a.extract 0 (a.size - b.size) else a
theorem stringslite_TrimSuffix_ok (a b:ByteArray):Fn Zbs [sD a,sD b] (sD (trim a b)):=fun Q hQ=>by
 refine Zft _ _ _ ?_
 unfold Zc1
 unfold trim at hQ
 refine stringslite_HasSuffix_ok a b _ ⟨rfl,rfl,iff_dec (fun h ha hb=>?_) (fun h=>⟨trivial,?_⟩)⟩
 ·rw [if_pos h] at hQ
  rw [big_eq] at ha hb
  have hla:=ba_size a
  have hlb:=ba_size b
  have:=h.length_le
  rw [wrap_in _ (by omega) (by omega)]
  refine ⟨by omega,by omega,by omega,trivial,?_⟩
  have e:((a.size:Int) - (b.size:Int)).toNat=a.size - b.size:=by omega
  rw [e]; exact hQ
 ·rw [if_neg h] at hQ; exact hQ
theorem strings_TrimSuffix_ok (a b:ByteArray):Fn ZcS [sD a,sD b] (sD (trim a b)):=fun Q hQ=>by
 refine Zg3 _ _ _ ?_
 unfold Zeo
 exact stringslite_TrimSuffix_ok a b _ ⟨rfl,rfl,trivial,hQ⟩
theorem bytesV_getD (s:ByteArray) (k:Nat) (h:k<s.data.toList.length):(bytesV s).getD k []=[.i ((s.data.toList[k]).toNat:Int)]:=by
 rw [bytesV,List.getD_eq_getElem?_getD,List.getElem?_map,List.getElem?_eq_getElem h]; rfl
theorem slices_IndexFunc_byte_ok (s:ByteArray):Fn ZbF [.v (.sl Zh5) (.l (bytesV s)),.fn Z3 []] (iD (idx (fun c:UInt8=>!letterB (c.toNat:Int)) s.data.toList)):=fun Q hQ=>by
 refine Zdn _ _ fun hb=>?_
 have hl:(bytesV s).length=s.data.toList.length:=by simp [bytesV]
 rw [hl] at hb ⊢
 refine ZbZ Q _ _ hb (fun k=>(s.data.toList.take k).any (fun c:UInt8=>!letterB (c.toNat:Int))=false) (fun k hk hJ K hK=>?_) (fun hJ=>⟨trivial,?_⟩) 0 (Nat.zero_le _) rfl
 ·simp only [bytesV_getD _ k hk,List.drop_zero,List.headD_cons]
  refine ⟨by omega,by omega,term_IsName_1_ok _ _ ⟨rfl,rfl,iff_intro (fun h=>⟨trivial,?_⟩) (fun h=>hK (any_take hk hJ h))⟩⟩
  rw [idx_at hk hJ h] at hQ
  exact hQ
 ·rw [List.take_length] at hJ
  rw [idx_none hJ] at hQ
  exact hQ
theorem slices_ContainsFunc_byte_ok (s:ByteArray):Fn Za7 [.v (.sl Zh5) (.l (bytesV s)),.fn Z3 []] (bD (s.data.toList.any fun c:UInt8=>!letterB (c.toNat:Int))):=fun Q hQ=>by
 refine ZcJ _ _ ?_
 unfold ZaD
 refine slices_IndexFunc_byte_ok s _ ⟨rfl,rfl,trivial,?_⟩
 rw [← idx_any] at hQ
 exact hQ
theorem hash_suffix (l:List UInt8):([35] <:+ l)↔markedL l=true:=by
 unfold markedL
 rw [decide_eq_true_iff]
 constructor
 ·rintro ⟨m,rfl⟩; simp
 ·intro h
  have hne:l≠[]:=by rintro rfl; simp at h
  refine ⟨l.dropLast,?_⟩
  rw [List.getLast?_eq_some_getLast hne] at h
  have:=List.dropLast_concat_getLast hne
  rw [Option.some.inj h] at this
  exact this
theorem term_IsName_ok (s:ByteArray) (m:Bool):Fn Zbx [sD s,bD m] (bD (nameOk s m)):=fun Q hQ=>by
 refine ZlL _ _ _ fun hb=>?_
 have hl:=ba_size s
 have fin:∀ x:ByteArray,s.size≤24→nameOk s m=(decide (0<x.size)&&lettersL x.data.toList)→Zdl Q (.s x):=fun x _ hx=>by
  rw [Ziz]
  unfold Zf1
  rw [hx] at hQ
  show iff (!(x.toList == (ByteArray.mk #[]).toList)) _ _
  rw [ba_beq]
  refine iff_not (iff_dec (fun h=>⟨trivial,?_⟩) (fun h=>?_))
  ·rw [ba_nil] at h
   rw [decide_eq_false (by omega)] at hQ
   exact hQ
  ·rw [ba_nil] at h
   rw [decide_eq_true (by omega)] at hQ
   refine slices_ContainsFunc_byte_ok x _ ⟨rfl,rfl,trivial,?_⟩
   have e:(!(x.data.toList.any fun c:UInt8=>!letterB (c.toNat:Int)))=(true&&lettersL x.data.toList):=by
    unfold lettersL
    rw [List.all_eq_not_any_not]; rfl
   rw [← e] at hQ
   exact hQ
 refine iff_dec (fun h=>⟨trivial,?_⟩) (fun h=>iff_intro (fun hm=>?_) (fun hm=>fin s (by omega) ?_))
 ·have:nameOk s m=false:=by unfold nameOk; rw [decide_eq_false (by omega)]; rfl
  rw [this] at hQ; exact hQ
 ·refine strings_TrimSuffix_ok s _ _ ⟨rfl,rfl,fin _ (by omega) ?_⟩
  unfold nameOk trim
  have e35:(ByteArray.mk #[35]).data.toList=[35]:=rfl
  have es:(ByteArray.mk #[35]).size=1:=rfl
  rw [decide_eq_true (show s.size≤24 by omega),hm,Bool.true_and,Bool.true_and,e35,es]
  by_cases hk:markedL s.data.toList=true
  ·rw [if_pos hk,if_pos ((hash_suffix _).2 hk)]
   have hx:=extract_list s 0 (s.size - 1)
   have hxs:(s.extract 0 (s.size - 1)).size=s.size - 1:=by rw [← ba_size,hx]; simp
   rw [hx,hxs,List.drop_zero,List.dropLast_eq_take]
   have h1:decide (1<s.size)=decide (0<s.size - 1):=by
    rw [Bool.eq_iff_iff]; simp only [decide_eq_true_iff]; omega
   rw [h1,hl]
  ·rw [if_neg hk,if_neg (fun h=>hk ((hash_suffix _).1 h))]
 ·unfold nameOk
  rw [decide_eq_true (show s.size≤24 by omega),hm]; rfl
theorem formed_any (l:List Tm):(!(l.any fun a=>!a.formed))=l.all Tm.formed:=by rw [List.all_eq_not_any_not]
theorem term_formed_1_ok (t:Tm) (ih:Fn ZbB [tD t] (bD t.formed)):Fn Z4 [tD t] (bD (!t.formed)):=fun Q hQ=>by
 refine Zkt _ _ _ _ ?_
 unfold ZfZ
 exact ih _ ⟨rfl,rfl,trivial,hQ⟩
theorem slices_IndexFunc_Term_ok (l:List Tm) (ih:∀ a∈l,Fn ZbB [tD a] (bD a.formed)):Fn ZbG [tsD l,.fn Z4 []] (iD (idx (fun a:Tm=>!a.formed) l)):=fun Q hQ=>by
 refine Zdm _ _ fun hb=>?_
 have hl:=Tm.encL_length l
 rw [hl] at hb ⊢
 refine ZbV Q _ _ hb (fun k=>(l.take k).any (fun a:Tm=>!a.formed)=false) (fun k hk hJ K hK=>?_) (fun hJ=>⟨trivial,?_⟩) 0 (Nat.zero_le _) rfl
 ·simp only [Tm.encL_getD _ k hk,Tm.enc_eq,List.drop_zero,List.headD_cons,List.tail_cons]
  refine ⟨by omega,by omega,term_formed_1_ok _ (ih _ (List.getElem_mem hk)) _ ⟨rfl,rfl,iff_intro (fun h=>⟨trivial,?_⟩) (fun h=>hK (any_take hk hJ h))⟩⟩
  rw [idx_at hk hJ h] at hQ
  exact hQ
 ·rw [List.take_length] at hJ
  rw [idx_none hJ] at hQ
  exact hQ
theorem slices_ContainsFunc_Term_ok (l:List Tm) (ih:∀ a∈l,Fn ZbB [tD a] (bD a.formed)):Fn Za4 [tsD l,.fn Z4 []] (bD (l.any fun a:Tm=>!a.formed)):=fun Q hQ=>by
 refine ZcM _ _ ?_
 unfold ZaC
 refine slices_IndexFunc_Term_ok l ih _ ⟨rfl,rfl,trivial,?_⟩
 rw [← idx_any] at hQ
 exact hQ
theorem term_formed_ok:∀ t:Tm,Fn ZbB [tD t] (bD t.formed):=Tm.ind fun t ih Q hQ=>by
 refine ZlF _ _ _ _ ?_
 unfold Zhy
 have hl:=Tm.encL_length t.args
 have hf:=Tm.formed_eq t
 refine iff_intro (fun hv hb=>?_) (fun hv hb=>?_)
 ·rw [hv,if_pos rfl] at hf
  rw [hl]
  refine iff_beq (fun h=>term_IsName_ok _ _ _ ⟨rfl,rfl,trivial,?_⟩) (fun h=>⟨trivial,?_⟩)
  ·have:t.args.isEmpty=true:=by rw [List.isEmpty_iff]; exact List.eq_nil_of_length_eq_zero (by omega)
   rw [this,Bool.and_true] at hf
   rw [hf] at hQ; exact hQ
  ·have:t.args.isEmpty=false:=by
    cases he:t.args.isEmpty with
    | false=>rfl
    | true=>rw [List.isEmpty_iff] at he; rw [he] at h; simp at h
   rw [this,Bool.and_false] at hf
   rw [hf] at hQ; exact hQ
 ·rw [hv,if_neg (by simp)] at hf
  rw [hl]
  refine iff_dec (fun h=>term_IsName_ok _ _ _ ⟨rfl,rfl,iff_intro (fun h2=>?_) (fun h2=>⟨trivial,?_⟩)⟩) (fun h=>⟨trivial,?_⟩)
  ·have h2:nameOk t.name true=true:=h2
   rw [h2,decide_eq_true (by omega),Bool.true_and,Bool.true_and,← formed_any] at hf
   refine slices_ContainsFunc_Term_ok t.args ih _ ⟨rfl,rfl,trivial,?_⟩
   rw [hf] at hQ
   exact hQ
  ·have h2:nameOk t.name true=false:=h2
   rw [h2] at hf
   rw [hf] at hQ; exact hQ
  ·rw [decide_eq_false (by omega),Bool.and_false] at hf
   rw [hf] at hQ; exact hQ
theorem term_Size_ok:∀ t:Tm,t.size≤small→Fn ZeR [tD t] (iD t.size):=Tm.ind fun t ih hB Q hQ=>by
 refine Zmv _ _ _ _ fun hb=>?_
 have hl:=Tm.encL_length t.args
 have hs:=Tm.size_eq t
 rw [small_eq] at hB
 rw [hl] at hb ⊢
 refine Zjk Q _ _ hb (fun k n=>n=((1+Tm.sizeL (t.args.take k):Nat):Int)) (fun k n hk hJ K hK=>?_) (fun n hJ=>?_) 0 1 (Nat.zero_le _) rfl
 ·simp only [Tm.encL_getD _ k hk,Tm.enc_eq,List.drop_zero,List.headD_cons,List.tail_cons]
  have hm:=Tm.size_mem (List.getElem_mem hk)
  refine ⟨by omega,by omega,ih _ (List.getElem_mem hk) (by rw [small_eq]; omega) _ ⟨rfl,rfl,hK _ ?_⟩⟩
  have h1:=Tm.sizeL_take t.args k hk
  have h2:=Tm.sizeL_take_le t.args (k+1)
  subst hJ
  show IntKind.i64.wrap (_+((t.args[k]).size:Int))=_
  rw [wrap_in _ (by omega) (by omega)]
  omega
 ·rw [List.take_length] at hJ
  subst hJ
  rw [hs] at hQ
  exact ⟨trivial,hQ⟩
theorem term_Depth_ok:∀ t:Tm,t.size≤small→Fn Zem [tD t] (iD t.depth):=Tm.ind fun t ih hB Q hQ=>by
 refine Zmo _ _ _ _ fun hb=>?_
 have hl:=Tm.encL_length t.args
 have hd:=Tm.depth_eq t
 have hds:=Tm.depth_le_size t
 rw [small_eq] at hB
 rw [hl] at hb ⊢
 refine Zid Q _ _ hb (fun k n=>n=(Tm.depthL (t.args.take k):Int)) (fun k n hk hJ K hK=>?_) (fun n hJ=>?_) 0 0 (Nat.zero_le _) rfl
 ·simp only [Tm.encL_getD _ k hk,Tm.enc_eq,List.drop_zero,List.headD_cons,List.tail_cons]
  have hm:=Tm.size_mem (List.getElem_mem hk)
  refine ⟨by omega,by omega,ih _ (List.getElem_mem hk) (by rw [small_eq]; omega) _ ⟨rfl,rfl,hK _ ?_⟩⟩
  subst hJ
  show (if ((t.args[k]).depth:Int) > _ then ((t.args[k]).depth:Int) else _)=_
  rw [Tm.depthL_take t.args k hk]
  split <;> omega
 ·rw [List.take_length] at hJ
  subst hJ
  rw [wrap_in _ (by omega) (by omega)]
  rw [hd] at hQ
  exact ⟨trivial,hQ⟩
theorem term_fits_ok (t:Tm) (hB:t.size≤small):Fn ZhP [tD t] (bD (decide (t.size≤4000∧t.depth≤200))):=fun Q hQ=>by
 refine ZmG _ _ _ _ ?_
 unfold ZjP
 refine term_Size_ok t hB _ ⟨rfl,rfl,iff_dec (fun h=>term_Depth_ok t hB _ ⟨rfl,rfl,trivial,?_⟩) (fun h=>⟨trivial,?_⟩)⟩
 ·have h:(t.size:Int)≤4000:=h
  show Q (bD (decide ((t.depth:Int)≤200))) []
  have e:decide ((t.depth:Int)≤200)=decide (t.size≤4000∧t.depth≤200):=by
   rw [Bool.eq_iff_iff]; simp only [decide_eq_true_iff]; omega
  rw [e]; exact hQ
 ·have h:¬ (t.size:Int)≤4000:=h
  rw [decide_eq_false (by omega)] at hQ
  exact hQ
theorem term_Check_ok (t:Tm) (hB:t.size≤small):Fn ZI [tD t] (iD t.check):=fun Q hQ=>by
 refine Zl8 _ _ _ _ ?_
 unfold Zix
 unfold Tm.check at hQ
 refine term_formed_ok t _ ⟨rfl,rfl,iff_not (iff_intro (fun h=>?_) (fun h=>⟨trivial,?_⟩))⟩
 ·have h':t.formed=true:=h
  rw [h',if_pos rfl] at hQ
  refine term_fits_ok t hB _ ⟨rfl,rfl,iff_not (iff_dec (fun h2=>⟨trivial,?_⟩) (fun h2=>⟨trivial,?_⟩))⟩
  ·rw [if_pos h2] at hQ; exact hQ
  ·rw [if_neg h2] at hQ; exact hQ
 ·have h':t.formed=false:=h
  rw [h',if_neg (by simp)] at hQ
  exact hQ
theorem term_All_ok (l:List Tm) (hB:∀ t∈l,t.size≤small):Fn ZgU [tsD l] (iD (Tm.checkAll l)):=fun Q hQ=>by
 refine ZmN _ _ fun hb=>?_
 have hl:=Tm.encL_length l
 rw [hl] at hb ⊢
 refine Zj5 Q _ _ hb (fun k=>Tm.checkAll (l.take k)=0) (fun k hk hJ K hK=>?_) (fun hJ=>?_) 0 (Nat.zero_le _) rfl
 ·simp only [Tm.encL_getD _ k hk,Tm.enc_eq,List.drop_zero,List.headD_cons,List.tail_cons]
  refine ⟨by omega,by omega,term_Check_ok _ (hB _ (List.getElem_mem hk)) _ ⟨rfl,rfl,iff_bne (fun h=>⟨trivial,?_⟩) (fun h=>hK ?_)⟩⟩
  ·have h':(l[k]).check≠0:=h
   rw [checkAll_take hJ hk h'] at hQ
   exact hQ
  ·have h':(l[k]).check=0:=h
   rw [Tm.checkAll_zero] at hJ ⊢
   rw [List.take_succ_eq_append_getElem hk]
   intro t ht
   rcases List.mem_append.1 ht with ht | ht
   ·exact hJ t ht
   ·rw [List.mem_singleton.1 ht]; exact h'
 ·rw [List.take_length] at hJ
  rw [hJ] at hQ
  exact ⟨trivial,hQ⟩
end Go.Proofs.YthhnadeoioeniaaGreat
namespace Go.Proofs.YthhnadeoioeniaaGreat
open Go Go.Abs
abbrev wD (n:Nat):D:=.v (.int .u64) (.i n)
def encMo (x:Mo):List V:=[.i x.coef,.l (encP x.exps)]
def encMos (l:Mos):LL:=l.map encMo
abbrev moD (x:Mo):D:=.agg [wD x.coef,psD x.exps]
abbrev msD (l:Mos):D:=.v (.sl Zk) (.l (encMos l))
theorem encMos_length (l:Mos):(encMos l).length=l.length:=by simp [encMos]
theorem encMos_getD (l:Mos) (k:Nat) (h:k<l.length):(encMos l).getD k []=[.i (l[k]).coef,.l (encP (l[k]).exps)]:=by
 rw [encMos,List.getD_eq_getElem?_getD,List.getElem?_map,List.getElem?_eq_getElem h]; rfl
theorem encMos_append (l m:Mos):encMos (l++m)=encMos l++encMos m:=by simp [encMos]
def encPl (y:Pl):List V:=[.s y.name,.l (encMos y.monos)]
def encPls (l:Pls):LL:=l.map encPl
abbrev plD (y:Pl):D:=.agg [sD y.name,msD y.monos]
abbrev plsD (l:Pls):D:=.v (.sl Zg) (.l (encPls l))
theorem encPls_length (l:Pls):(encPls l).length=l.length:=by simp [encPls]
theorem encPls_getD (l:Pls) (k:Nat) (h:k<l.length):(encPls l).getD k []=[.s (l[k]).name,.l (encMos (l[k]).monos)]:=by
 rw [encPls,List.getD_eq_getElem?_getD,List.getElem?_map,List.getElem?_eq_getElem h]; rfl
def plNames (l:Pls):List ByteArray:=l.map Pl.name
theorem plNames_getD (l:Pls) (k:Nat) (h:k<l.length):(plNames l).getD k bz=(l[k]).name:=by
 rw [plNames,List.getD_eq_getElem?_getD,List.getElem?_map,List.getElem?_eq_getElem h]; rfl
theorem cmpE_take:∀ (l m:List Int) (k:Nat),k≤l.length→k≤m.length→l.take k=m.take k→cmpE l m=cmpE (l.drop k) (m.drop k)
 | _,_,0,_,_,_=>by simp
 | [],_,k+1,h,_,_=>by simp at h
 | _::_,[],k+1,_,h,_=>by simp at h
 | a::l,b::m,k+1,h1,h2,h=>by
  simp only [List.take_succ_cons,List.cons.injEq] at h
  obtain ⟨rfl,h⟩:=h
  rw [cmpE,if_neg (by omega),if_neg (by omega),cmpE_take l m k (by simpa using h1) (by simpa using h2) h]; rfl
theorem cmpE_at {l m:List Int} {k:Nat} (h1:k<l.length) (h2:k<m.length) (h:l.take k=m.take k) (hn:l[k]≠m[k]):cmpE l m=if l[k]<m[k] then -1 else if m[k]<l[k] then 1 else 0:=by
 rw [cmpE_take l m k (by omega) (by omega) h,List.drop_eq_getElem_cons h1,List.drop_eq_getElem_cons h2,cmpE]
 split
 ·rfl
 ·split
  ·rfl
  ·omega
theorem cmpE_end {l m:List Int} (h:l.take (min l.length m.length)=m.take (min l.length m.length)):cmpE l m=if (l.length:Int)<m.length then -1 else if (m.length:Int)<l.length then 1 else 0:=by
 rw [cmpE_take l m _ (Nat.min_le_left _ _) (Nat.min_le_right _ _) h]
 rcases Nat.lt_trichotomy l.length m.length with g | g | g
 ·rw [Nat.min_eq_left (by omega),List.drop_length,if_pos (by omega)]
  cases hd:m.drop l.length with
  | nil=>have:=congrArg List.length hd; simp at this; omega
  | cons a r=>rfl
 ·rw [Nat.min_eq_left (by omega),List.drop_length,g,List.drop_length,if_neg (by omega),if_neg (by omega)]; rfl
 ·rw [Nat.min_eq_right (by omega),List.drop_length,if_neg (by omega),if_pos (by omega)]
  cases hd:l.drop m.length with
  | nil=>have:=congrArg List.length hd; simp at this; omega
  | cons a r=>rfl
theorem r08_compareExps_ok (l m:List Int):Fn ZcN [psD l,psD m] (iD (cmpE l m)):=fun Q hQ=>by
 refine ZjI _ _ _ fun hb hb2=>?_
 rw [encP_length] at hb ⊢
 rw [encP_length] at hb2 ⊢
 have e:(if ((m.length:Nat):Int)<((l.length:Nat):Int) then ((m.length:Nat):Int) else ((l.length:Nat):Int))=((min l.length m.length:Nat):Int):=by split <;> omega
 rw [e]
 refine ZfF Q _ _ _ (by omega) (fun k=>l.take k=m.take k) (fun k hk hJ K hK=>?_) (fun hJ h1 h2=>?_) 0 (Nat.zero_le _) rfl
 ·have hk1:k<l.length:=by omega
  have hk2:k<m.length:=by omega
  simp only [encP_getD l k hk1,encP_getD m k hk2,List.drop_zero,List.headD_cons,encP_length]
  refine ⟨by omega,by omega,by omega,by omega,iff_bne (fun h=>⟨by omega,by omega,by omega,by omega,r01_CompareInts_ok _ _ _ ⟨rfl,rfl,trivial,?_⟩⟩) (fun h=>hK ?_)⟩
  ·have h:l[k]≠m[k]:=h
   rw [cmpE_at hk1 hk2 hJ h] at hQ; exact hQ
  ·have h:l[k]=m[k]:=h
   rw [List.take_succ_eq_append_getElem hk1,List.take_succ_eq_append_getElem hk2,hJ,h]
 ·rw [encP_length,encP_length]
  refine r01_CompareInts_ok _ _ _ ⟨rfl,rfl,trivial,?_⟩
  rw [cmpE_end hJ] at hQ; exact hQ
theorem formOk_not {l:Mos} {k:Nat} (hk:k<l.length) (h:formAt l k=false):formOk l=false:=by
 rw [← Bool.not_eq_true]
 intro ha
 have:=(List.all_eq_true.1 ha) k (List.mem_range.2 hk)
 rw [h] at this; cases this
theorem formOk_all {l:Mos} (h:∀ k,k<l.length→formAt l k=true):formOk l=true:=by
 unfold formOk; rw [List.all_eq_true]; intro k hk; exact h k (List.mem_range.1 hk)
theorem cmpE_nn {l m:List Int} (h:¬ 0≤cmpE l m):cmpE l m = -1:=by rcases cmpE_cases l m with g | g | g <;> omega
def namesErr (l:List ByteArray):Int:=if 256<l.length then 3 else if namesOk true l then 0 else 4
theorem namesErr_zero {l:List ByteArray} (h:namesErr l=0):l.length≤256∧namesOk true l=true:=by
 unfold namesErr at h
 split at h
 ·cases h
 ·split at h
  ·exact ⟨by omega,by assumption⟩
  ·cases h
def plsE (l:Pls):Int:=if namesErr (plNames l)≠0 then namesErr (plNames l) else firstE l
theorem plsE_n {l:Pls} {e:Int} (h:namesErr (plNames l)=e) (he:e≠0):plsE l=e:=by unfold plsE; rw [h,if_pos he]
theorem plsE_k {l:Pls} (h:namesErr (plNames l)=0):plsE l=firstE l:=by unfold plsE; rw [h,if_neg (by simp)]
theorem firstE_take:∀ {l:Pls} {k:Nat} (hk:k<l.length),(∀ i (h:i<l.length),i<k→monosE (l[i]).monos=0)→monosE (l[k]).monos≠0→firstE l=monosE (l[k]).monos
 | [],_,hk,_,_=>by simp at hk
 | y::r,0,_,_,h=>by
  have h:monosE y.monos≠0:=h
  rw [firstE,if_pos h]; rfl
 | y::r,k+1,hk,hJ,h=>by
  rw [firstE,if_neg (by have:=hJ 0 (by simp) (by omega); simpa using this)]
  exact firstE_take (l:=r) (k:=k) (by simpa using hk) (fun i hi hik=>hJ (i+1) (by simpa using hi) (by omega)) h
theorem firstE_none:∀ {l:Pls},(∀ y∈l,monosE y.monos=0)→firstE l=0
 | [],_=>rfl
 | y::r,h=>by rw [firstE,if_neg (by simp [h y (by simp)]),firstE_none fun z hz=>h z (by simp [hz])]
end Go.Proofs.YthhnadeoioeniaaGreat
namespace Go.Proofs.YthhnadeoioeniaaGreat
def expV:List ByteArray→List Int→ByteArray→Int
 | v::vs,e::es,x=>if v=x then e else expV vs es x
 | _,_,_=>0
def cmpP (n:Nat) (p q:Mos):Int:=if q.all (fun m=>decide (m.coef≤coefP p m.exps)) then (if coefP q (zerosE n)<coefP p (zerosE n) then 2 else 1) else 0
theorem HomE.inj {n:Nat} {φ:List Int→List Int} (H:HomE n φ) {a b:List Int} (ha:a.length=n) (hb:b.length=n) (h:φ a=φ b):a=b:=by
 have:=H.cmp a b ha hb
 rw [h,cmpE_self] at this
 exact cmpE_zero.1 this.symm
theorem cmpP_two {n:Nat} {p q:Mos} (h:cmpP n p q=2):(∀ m∈q,m.coef≤coefP p m.exps)∧coefP q (zerosE n)<coefP p (zerosE n):=by
 unfold cmpP at h
 split at h
 ·rename_i h1
  split at h
  ·rename_i h2
   exact ⟨fun m hm=>by simpa using List.all_eq_true.1 h1 m hm,h2⟩
  ·cases h
 ·cases h
theorem coefP_zero_le {n:Nat} {p q:Mos} (h:∀ m∈q,m.coef≤coefP p m.exps):coefP q (zerosE n)≤coefP p (zerosE n):=by
 have:∀ l:Mos,(∀ m∈l,m.coef≤coefP p m.exps)→coefP l (zerosE n)≤coefP p (zerosE n):=by
  intro l
  induction l with
  | nil=>intro _; exact Nat.zero_le _
  | cons x l ih =>
   intro hl
   rw [coefP]
   split
   ·rename_i hx
    have:=hl x (by simp)
    rw [hx] at this; exact this
   ·exact ih fun m hm=>hl m (by simp [hm])
 exact this q h
theorem cmpP_one {n:Nat} {p q:Mos} (h:cmpP n p q=1):(∀ m∈q,m.coef≤coefP p m.exps)∧coefP q (zerosE n)=coefP p (zerosE n):=by
 unfold cmpP at h
 split at h
 ·rename_i h1
  have hd:∀ m∈q,m.coef≤coefP p m.exps:=fun m hm=>by simpa using List.all_eq_true.1 h1 m hm
  split at h
  ·cases h
  ·rename_i h2
   have:=coefP_zero_le (n:=n) hd
   exact ⟨hd,by omega⟩
 ·cases h
end Go.Proofs.YthhnadeoioeniaaGreat
namespace Go.Proofs.YthhnadeoioeniaaGreat
section
variable (l:Pls) (hl:∀ y∈l,monosE y.monos=0) {vs:List ByteArray} (hn:vs.Nodup) {s t:Tm} (hs:∀ u∈s.pre,u.var=true→u.name∈vs) (ht:∀ u∈t.pre,u.var=true→u.name∈vs) {p q:Mos} (hp:polyT l vs s=some p) (hq:polyT l vs t=some q)
include hl hn hs ht hp hq
theorem inst_down (hc:cmpP vs.length p q=2) (su:Su) (ρ:ByteArray→Nat):valF l ρ (Tm.app su t)<valF l ρ (Tm.app su s):=by
 obtain ⟨p1,p2⟩:=term_pos l (entPl_pos hl) vs s p hp
 obtain ⟨q1,q2⟩:=term_pos l (entPl_pos hl) vs t q hq
 obtain ⟨c1,c2⟩:=cmpP_two hc
 have:=valF_inst l (entPl_max hl) hn hs ht hp hq p2.dist q2.dist (fun x hx=>⟨c1 x hx,q1 x hx⟩) (fun x=>valF l ρ (Tm.image su x))
 rw [valF_app,valF_app]
 omega
theorem inst_down_le (hc:cmpP vs.length p q=1) (su:Su) (ρ:ByteArray→Nat):valF l ρ (Tm.app su t)≤valF l ρ (Tm.app su s):=by
 obtain ⟨p1,p2⟩:=term_pos l (entPl_pos hl) vs s p hp
 obtain ⟨q1,q2⟩:=term_pos l (entPl_pos hl) vs t q hq
 obtain ⟨c1,c2⟩:=cmpP_one hc
 have:=valF_inst l (entPl_max hl) hn hs ht hp hq p2.dist q2.dist (fun x hx=>⟨c1 x hx,q1 x hx⟩) (fun x=>valF l ρ (Tm.image su x))
 rw [valF_app,valF_app]
 omega
end
theorem value_const (l:Pls) (hl:∀ y∈l,monosE y.monos=0) {vs:List ByteArray} (hn:vs.Nodup) {s:Tm} (hs:∀ u∈s.pre,u.var=true→u.name∈vs) {p:Mos} (hp:polyT l vs s=some p):coefP p (zerosE vs.length)=valF l (fun _=>0) s:=by
 obtain ⟨p1,p2⟩:=term_pos l (entPl_pos hl) vs s p hp
 obtain ⟨h1,h2⟩:=term_val l (entPl_max hl) vs (List.replicate vs.length 0) (by rw [List.length_replicate]) hn s hs p hp
 rw [← eval_zero p h1 p2.dist,h2,valT_F]
 exact valF_congr l s fun u _ _=>valV_zero u.name vs vs.length
theorem descent:∀ (f:Nat→Nat) (k:Nat),(∀ i,i<k→f (i+1)<f i)→k≤f 0
 | f,0,_=>Nat.zero_le _
 | f,k+1,h=>by
  have h1:=descent (fun i=>f (i+1)) k fun i hi=>h (i+1) (by omega)
  have h2:=h 0 (by omega)
  have h1:k≤f (0+1):=h1
  omega
def aloneI (e:List Int) (i:Nat):Bool:=decide (0<e.getD i 0)&&(List.range e.length).all fun k=>decide (k=i)||decide (e.getD k 0=0)
theorem aloneI_E:∀ (e:List Int) (i:Nat),i<e.length→aloneI e i=aloneE e i
 | [],_,h=>by simp at h
 | a::e,0,_=>by
  unfold aloneI
  rw [aloneE]
  show (decide (0<a)&&_)=_
  congr 1
  rw [Bool.eq_iff_iff,List.all_eq_true,List.all_eq_true]
  constructor
  ·intro h k hk
   obtain ⟨j,hj,rfl⟩:=List.mem_iff_getElem.1 hk
   have:=h (j+1) (List.mem_range.2 (by simp; omega))
   rw [Bool.or_eq_true,decide_eq_true_iff,decide_eq_true_iff] at this
   rcases this with h0 | h0
   ·omega
   ·have e1:(a::e).getD (j+1) 0=e[j]:=by
     rw [List.getD_eq_getElem?_getD,List.getElem?_cons_succ,List.getElem?_eq_getElem hj]; rfl
    rw [e1] at h0
    exact decide_eq_true h0
  ·intro h k hk
   cases k with
   | zero=>rfl
   | succ k =>
    have hk:k<e.length:=by have:=List.mem_range.1 hk; simp at this; omega
    have e1:(a::e).getD (k+1) 0=e[k]:=by
     rw [List.getD_eq_getElem?_getD,List.getElem?_cons_succ,List.getElem?_eq_getElem hk]; rfl
    rw [e1,Bool.or_eq_true]
    exact .inr (h _ (List.getElem_mem hk))
 | a::e,i+1,h=>by
  rw [aloneE,← aloneI_E e i (by simpa using h)]
  unfold aloneI
  have g:∀ k,(a::e).getD (k+1) 0=e.getD k 0:=fun k=>rfl
  rw [g,List.length_cons,List.range_succ_eq_map,List.all_cons,List.all_map]
  have e2:(List.range e.length).all ((fun k=>decide (k=i+1)||decide ((a::e).getD k 0=0)) ∘ Nat.succ)=(List.range e.length).all fun k=>decide (k=i)||decide (e.getD k 0=0):=by
   congr 1
   funext k
   show (decide (k+1=i+1)||decide ((a::e).getD (k+1) 0=0))=_
   rw [g]
   congr 1
   exact decide_eq_decide.2 (by omega)
  rw [e2]
  have e3:(decide (0=i+1)||decide ((a::e).getD 0 0=0))=decide (a=0):=by
   rw [decide_eq_false (by omega),Bool.false_or]; rfl
  rw [e3]
  cases decide (0<e.getD i 0) <;> cases decide (a=0) <;> rfl
end Go.Proofs.YthhnadeoioeniaaGreat
namespace Go.Proofs.YthhnadeoioeniaaGreat
def monosP (n:Nat) (args:List Mos):Mos→Option Mos
 | []=>some []
 | m::ms=>match monoP n m args with
  | none=>none
  | some x=>match monosP n args ms with
   | none=>none
   | some xs=>some (x++xs)
def endP (out:Mos):Option Mos→Option Mos
 | none=>none
 | some xs=>if largeP (addsP out xs) then none else some (addsP out xs)
theorem insertP_end (n:Nat) (args:List Mos):∀ (ms out:Mos),largeP out=false→insertP n args ms out=endP out (monosP n args ms)
 | [],out,h=>by
  show some out=if largeP out then none else some out
  rw [h]; rfl
 | m::ms,out,h=>by
  rw [insertP,monosP]
  cases hm:monoP n m args with
  | none=>rfl
  | some x =>
   show (if largeP (addsP out x) then none else insertP n args ms (addsP out x))=endP out (match monosP n args ms with | none=>none | some xs=>some (x++xs))
   cases hl:largeP (addsP out x) with
   | true =>
    rw [if_pos rfl]
    cases monosP n args ms with
    | none=>rfl
    | some xs =>
     show none=if largeP (addsP out (x++xs)) then none else some (addsP out (x++xs))
     rw [addsP_append,addsP_large hl]; rfl
   | false =>
    rw [if_neg (by simp),insertP_end n args ms _ hl]
    cases monosP n args ms with
    | none=>rfl
    | some xs =>
     show (if largeP (addsP (addsP out x) xs) then none else some (addsP (addsP out x) xs))=if largeP (addsP out (x++xs)) then none else some (addsP out (x++xs))
     rw [addsP_append]
def SameP (a b:Option Mos):Prop:=match a,b with
 | none,none=>True
 | some x,some y=>x.Perm y
 | _,_=>False
theorem SameP.refl:∀ a:Option Mos,SameP a a
 | none=>trivial
 | some x=>List.Perm.refl x
theorem SameP.trans:∀ {a b c:Option Mos},SameP a b→SameP b c→SameP a c
 | none,none,none,_,_=>trivial
 | some _,some _,some _,h,h2=>List.Perm.trans h h2
 | none,some _,_,h,_=>h.elim
 | some _,none,_,h,_=>h.elim
 | none,none,some _,_,h=>h.elim
 | some _,some _,none,_,h=>h.elim
theorem monosP_perm (n:Nat) (args:List Mos) {ms ms':Mos} (h:ms.Perm ms'):SameP (monosP n args ms) (monosP n args ms'):=by
 induction h with
 | nil=>exact .refl _
 | cons m _ ih =>
  rw [monosP,monosP]
  cases monoP n m args with
  | none=>exact trivial
  | some x =>
   revert ih
   rename_i a b _
   cases monosP n args a <;> cases monosP n args b <;> intro ih
   ·exact trivial
   ·exact ih.elim
   ·exact ih.elim
   ·exact List.Perm.append_left x ih
 | swap a b r =>
  simp only [monosP]
  cases monoP n a args with
  | none=>cases monoP n b args <;> exact trivial
  | some x =>
   cases monoP n b args with
   | none=>cases monosP n args r <;> exact trivial
   | some y =>
    cases monosP n args r with
    | none=>exact trivial
    | some xs =>
     show (y++(x++xs)).Perm (x++(y++xs))
     rw [← List.append_assoc,← List.append_assoc]
     exact List.Perm.append_right xs List.perm_append_comm
 | trans _ _ ih1 ih2=>exact ih1.trans ih2
theorem mul_coef {a b c:Mos} (h:mulP a b=some c):∀ x∈c,x.coef≤ovr:=by
 unfold mulP at h
 split at h
 ·cases h
 ·cases h
  exact addsP_coef (pairsP_coef a b) fun x hx=>by simp at hx
theorem pow_coef {p:Mos}:∀ (k:Nat) (x y:Mos),(∀ z∈x,z.coef≤ovr)→powP p k x=some y→∀ z∈y,z.coef≤ovr
 | 0,x,y,hx,h=>by cases h; exact hx
 | k+1,x,y,hx,h=>by
  rw [powP] at h
  cases hm:mulP x p with
  | none=>rw [hm] at h; cases h
  | some w=>rw [hm] at h; exact pow_coef k w y (mul_coef hm) h
theorem chain_coef:∀ (es:List Int) (ps:List Mos) (x y:Mos),(∀ z∈x,z.coef≤ovr)→chainP es ps x=some y→∀ z∈y,z.coef≤ovr
 | [],ps,x,y,hx,h=>by
  have e:chainP [] ps x=some x:=by cases ps <;> rfl
  rw [e] at h; cases h; exact hx
 | e::es,[],x,y,hx,h=>by cases h; exact hx
 | e::es,p::ps,x,y,hx,h=>by
  rw [chainP] at h
  cases hm:powP p e.toNat x with
  | none=>rw [hm] at h; cases h
  | some w=>rw [hm] at h; exact chain_coef es ps w y (pow_coef _ x w hx hm) h
theorem monos_coef (n:Nat) (args:List Mos):∀ (ms xs:Mos),(∀ m∈ms,m.coef≤ovr)→monosP n args ms=some xs→∀ z∈xs,z.coef≤ovr
 | [],xs,_,h=>by cases h; intro z hz; simp at hz
 | m::ms,xs,hc,h=>by
  rw [monosP] at h
  cases hm:monoP n m args with
  | none=>rw [hm] at h; cases h
  | some x =>
   rw [hm] at h
   have h:(match monosP n args ms with | none=>none | some ys=>some (x++ys))=some xs:=h
   cases hq:monosP n args ms with
   | none=>rw [hq] at h; cases h
   | some ys =>
    rw [hq] at h
    cases h
    intro z hz
    rcases List.mem_append.1 hz with hz | hz
    ·unfold monoP at hm
     split at hm
     ·cases hm; simp at hz
     ·exact chain_coef m.exps args _ x (fun w hw=>by have:w=⟨m.coef,zerosE n⟩:=(by simpa using hw); rw [this]; exact hc m (by simp)) hm z hz
    ·exact monos_coef n args ms ys (fun w hw=>hc w (by simp [hw])) hq z hz
theorem insertP_perm (n:Nat) (args:List Mos) {ms ms':Mos} (h:ms.Perm ms') (hc:∀ m∈ms,m.coef≤ovr):insertP n args ms []=insertP n args ms' []:=by
 rw [insertP_end n args ms [] rfl,insertP_end n args ms' [] rfl]
 have hs:=monosP_perm n args h
 cases h1:monosP n args ms with
 | none =>
  cases h2:monosP n args ms' with
  | none=>rfl
  | some y=>rw [h1,h2] at hs; exact hs.elim
 | some x =>
  cases h2:monosP n args ms' with
  | none=>rw [h1,h2] at hs; exact hs.elim
  | some y =>
   rw [h1,h2] at hs
   have hp:x.Perm y:=hs
   show (if largeP (addsP [] x) then none else some (addsP [] x))=if largeP (addsP [] y) then none else some (addsP [] y)
   rw [addsP_perm hp [] (monos_coef n args ms x hc h1) fun z hz=>by simp at hz]
end Go.Proofs.YthhnadeoioeniaaGreat
namespace Go.Proofs.YthhnadeoioeniaaGreat
structure MI (n:Nat) (out:Pm) (pre:Mos):Prop where
 rep:RepM out (addsP [] pre)
 small:SmallP n (addsP [] pre)
 fine:largeP (addsP [] pre)=false
theorem MI.start (n:Nat):MI n [] []:=⟨.refl _,fun x hx=>by simp [addsP] at hx,rfl⟩
theorem MI.sort {n:Nat} {out:Pm} {pre:Mos} (h:MI n out pre):SortP (addsP [] pre):=addsP_sort (by simp [SortP])
theorem split_perm {α:Type} {pre rest l:List α} {x:α} (hp:(pre++x::rest).Perm l):((pre++[x])++rest).Perm l:=by
 rw [List.append_assoc]; exact hp
theorem MI.add {n:Nat} (hn:n≤65536) {a b:Mos} {out:Pm} {pre rest:Mos} {x:Mo} (h:MI n out pre) (hx:SmallP n [x]) (hp:(pre++x::rest).Perm (pairsP a b)) :
  (lookP out (keyB x.exps)+x.coef≤maxV∧(setP out (keyB x.exps) (lookP out (keyB x.exps)+x.coef)).length≤4096→MI n (setP out (keyB x.exps) (lookP out (keyB x.exps)+x.coef)) (pre++[x])) ∧
  (¬ (lookP out (keyB x.exps)+x.coef≤maxV∧(setP out (keyB x.exps) (lookP out (keyB x.exps)+x.coef)).length≤4096)→mulP a b=none):=by
 obtain ⟨r1,r2⟩:=rep_add hn h.sort h.rep h.small hx
 constructor
 ·rintro ⟨h1,h2⟩
  obtain ⟨r3,r4⟩:=r2 h1
  rw [decide_eq_true h1,decide_eq_true h2] at r1
  refine ⟨?_,?_,?_⟩
  ·rw [addsP_snoc]; exact r3
  ·rw [addsP_snoc]; exact r4
  ·rw [addsP_snoc,r1]; rfl
 ·intro h3
  have hl:largeP (addP (addsP [] pre) x)=true:=by
   rw [r1,Bool.not_eq_true',Bool.and_eq_false_iff,decide_eq_false_iff_not,decide_eq_false_iff_not]
   by_cases h1:lookP out (keyB x.exps)+x.coef≤maxV
   ·exact .inr fun h2=>h3 ⟨h1,h2⟩
   ·exact .inl h1
  exact mul_fail (split_perm hp) (by rw [addsP_snoc]; exact hl)
theorem MI.big {a b:Mos} {pre rest:Mos} {x y:Mo} (hp:(pre++mulMo x y::rest).Perm (pairsP a b)) (h:expsOk (addE x.exps y.exps)=false∨¬ x.coef*y.coef≤maxV):mulP a b=none:=by
 have hb:bigMo (mulMo x y)=true:=by
  rw [mulMo_big,Bool.not_eq_true',Bool.and_eq_false_iff]
  exact h.imp id fun h=>decide_eq_false h
 exact mul_fail (split_perm hp) (by rw [addsP_snoc]; exact addP_largem hb _)
theorem MI.done {n:Nat} {a b:Mos} {out:Pm} {pre:Mos} (h:MI n out pre) (hp:pre.Perm (pairsP a b)):mulP a b=some (addsP [] pre)∧RepM out (addsP [] pre)∧SmallP n (addsP [] pre) :=
 ⟨mul_done hp h.fine,h.rep,h.small⟩
end Go.Proofs.YthhnadeoioeniaaGreat
namespace Go.Proofs.YthhnadeoioeniaaGreat
open Go Go.Abs
theorem zeroRow_int (n:Nat):zeroRow [.int .i64] n=encP (zerosE n):=by
 unfold zeroRow encP zerosE
 rw [List.map_replicate]
 rfl
theorem encP_set (m:List Int) (j:Nat) (v:Int) (h:j<m.length):(encP m).set j (setV ((encP m).getD j []) 0 [V.i v])=encP (m.set j v):=by
 rw [encP_getD _ _ h,encP,encP,List.map_set]; rfl
theorem unitE_set (n i:Nat) (h:i<n):(zerosE n).set i 1=unitE n i:=by
 refine List.ext_getElem (by simp [zerosE,unitE]) fun j h1 h2=>?_
 have e1:(unitE n i)[j]=if j=i then 1 else 0:=by simp [unitE]
 have e2:((zerosE n).set i 1)[j]=if i=j then 1 else 0:=by simp [zerosE,List.getElem_set]
 rw [e1,e2]
 by_cases e:i=j
 ·rw [if_pos e,if_pos e.symm]
 ·rw [if_neg e,if_neg (fun h=>e h.symm)]
theorem zerosE_length (n:Nat):(zerosE n).length=n:=List.length_replicate
theorem unitE_length (n i:Nat):(unitE n i).length=n:=by simp [unitE]
def defP (n:Nat):Mos:=(List.range n).reverse.map fun i=>⟨1,unitE n i⟩
def entK (y:Pl) (n:Nat):Mos×Bool:=(y.monos,y.monos.isEmpty||decide ((y.monos.headD ⟨0,[]⟩).exps.length=n))
theorem entPl_some {l:Pls} {x:ByteArray} {n:Nat} {y:Pl} (h:l.find? (fun y=>decide (y.name=x))=some y):entPl l x n=entK y n:=by unfold entPl; rw [h]; rfl
theorem entPl_none {l:Pls} {x:ByteArray} {n:Nat} (h:l.find? (fun y=>decide (y.name=x))=none):entPl l x n=(defP n,true):=by unfold entPl; rw [h]; rfl
theorem find_first {l:Pls} {x:ByteArray} {k:Nat} (hk:k<l.length) (h:(l[k]).name=x) (hn:∀ i (hi:i<l.length),i<k→(l[i]).name≠x):l.find? (fun y=>decide (y.name=x))=some l[k]:=by
 rw [List.find?_eq_some_iff_append]
 refine ⟨decide_eq_true h,l.take k,l.drop (k+1),?_,fun y hy=>?_⟩
 ·rw [← List.drop_eq_getElem_cons hk,List.take_append_drop]
 ·obtain ⟨i,hi,rfl⟩:=List.mem_take_iff_getElem.1 hy
  have:=hn i (by omega) (by omega)
  simp only [Bool.not_eq_true',decide_eq_false_iff_not]
  exact this
def constP:Mos→Nat
 | []=>0
 | x::l=>if (x.exps.all fun e=>decide (e=0))=true then x.coef else constP l
theorem zeros_iff {n:Nat}:∀ {e:List Int},e.length=n→((e.all fun e=>decide (e=0))=true↔e=zerosE n):=fun {e} h=>by
 rw [List.all_eq_true]
 unfold zerosE
 rw [List.eq_replicate_iff]
 exact ⟨fun h2=>⟨h,fun b hb=>of_decide_eq_true (h2 b hb)⟩,fun h2 x hx=>decide_eq_true (h2.2 x hx)⟩
theorem constP_eq {n:Nat}:∀ {l:Mos},LenP n l→constP l=coefP l (zerosE n)
 | [],_=>rfl
 | x::l,h=>by
  rw [constP,coefP,constP_eq fun y hy=>h y (by simp [hy])]
  have:=zeros_iff (h x (by simp))
  by_cases h2:x.exps=zerosE n
  ·rw [if_pos (this.2 h2),if_pos h2]
  ·rw [if_neg (fun h3=>h2 (this.1 h3)),if_neg h2]
end Go.Proofs.YthhnadeoioeniaaGreat
namespace Go.Proofs.YthhnadeoioeniaaGreat
open Go.Abs
def polyA (l:Pls) (vars:List ByteArray) (xs:List Tm):List Mos:=xs.map fun t=>(polyT l vars t).getD []
theorem polyL_all (l:Pls) (vars:List ByteArray):∀ xs:List Tm,(∀ t∈xs,polyT l vars t≠none)→polyL l vars xs=some (polyA l vars xs)
 | [],_=>rfl
 | t::r,h=>by
  rw [polyL]
  cases hp:polyT l vars t with
  | none=>exact absurd hp (h t (by simp))
  | some p =>
   rw [polyL_all l vars r fun a ha=>h a (by simp [ha])]
   show some (p::polyA l vars r)=some (polyA l vars (t::r))
   unfold polyA
   rw [List.map_cons,hp]; rfl
theorem polyL_bad (l:Pls) (vars:List ByteArray):∀ xs:List Tm,(∃ t∈xs,polyT l vars t=none)→polyL l vars xs=none
 | [],h=>by obtain ⟨t,ht,_⟩:=h; simp at ht
 | t::r,h=>by
  rw [polyL]
  cases hp:polyT l vars t with
  | none=>rfl
  | some p =>
   obtain ⟨a,ha,hn⟩:=h
   rcases List.mem_cons.1 ha with rfl | ha
   ·rw [hp] at hn; cases hn
   ·rw [polyL_bad l vars r ⟨a,ha,hn⟩]
theorem polyT_arg {l:Pls} {vars:List ByteArray} {t:Tm} (hv:t.var=false) (h:∃ a∈t.args,polyT l vars a=none):polyT l vars t=none:=by
 rw [polyT_eq,if_neg (by rw [hv]; simp),polyL_bad l vars _ h]
theorem polyT_args {l:Pls} {vars:List ByteArray} {t:Tm} (hv:t.var=false) (h:∀ a∈t.args,polyT l vars a≠none):polyT l vars t=insertP vars.length (polyA l vars t.args) (entPl l t.name t.args.length).1 []:=by
 rw [polyT_eq,if_neg (by rw [hv]; simp),polyL_all l vars _ h]
def GoodMo (n:Nat) (ms:Mos):Prop:=∀ m∈ms,m.exps.length=n∧0<m.coef∧m.coef≤1048576∧∀ e∈m.exps,0≤e∧e≤8
theorem unitE_vals (n i:Nat):∀ e∈unitE n i,0≤e∧e≤1:=fun e he=>by
 obtain ⟨j,_,rfl⟩:=List.mem_map.1 he
 split <;> omega
theorem mono_len {l:Mos} (h:monosE l=0):∀ m∈l,m.exps.length=(l.headD ⟨0,[]⟩).exps.length:=fun m hm=>by
 obtain ⟨_,hf,_⟩:=monosE_zero h
 obtain ⟨k,hk,rfl⟩:=List.mem_iff_getElem.1 hm
 have:=(form_len hf hk).2
 cases l with
 | nil=>simp at hk
 | cons x r=>exact this
theorem entPl_good {l:Pls} (hl:∀ y∈l,monosE y.monos=0) {x:ByteArray} {n:Nat} (hf:(entPl l x n).2=true):GoodMo n (entPl l x n).1:=fun m hm=>by
 obtain ⟨hc1,hc2⟩:=entPl_coef hl x n m hm
 refine ⟨?_,hc1,hc2,?_⟩
 ·unfold entPl at hf hm
  cases hy:l.find? fun y=>decide (y.name=x) with
  | none =>
   rw [hy] at hm
   obtain ⟨i,_,rfl⟩:=List.mem_map.1 hm
   simp [unitE]
  | some y =>
   rw [hy] at hf hm
   have hin:=List.mem_of_find?_eq_some hy
   have hf:(y.monos.isEmpty||decide ((y.monos.headD ⟨0,[]⟩).exps.length=n))=true:=hf
   have hm:m∈y.monos:=hm
   rw [mono_len (hl y hin) m hm]
   rw [Bool.or_eq_true,decide_eq_true_iff] at hf
   rcases hf with hf | hf
   ·rw [List.isEmpty_iff] at hf; rw [hf] at hm; simp at hm
   ·exact hf
 ·unfold entPl at hm
  cases hy:l.find? fun y=>decide (y.name=x) with
  | none =>
   rw [hy] at hm
   obtain ⟨i,_,rfl⟩:=List.mem_map.1 hm
   intro e he
   have:=unitE_vals n i e he
   omega
  | some y =>
   rw [hy] at hm
   have hin:=List.mem_of_find?_eq_some hy
   have hm:m∈y.monos:=hm
   obtain ⟨_,_,ha⟩:=monosE_zero (hl y hin)
   exact (arg_of (List.all_eq_true.1 ha m hm)).2.2
mutual
def fitsT (l:Pls):Tm→Bool | .mk x v xs=>v||((entPl l x xs.length).2&&fitsTL l xs)
def fitsTL (l:Pls):List Tm→Bool | []=>true | t::r=>fitsT l t&&fitsTL l r
end
theorem fitsTL_all (l:Pls):∀ xs:List Tm,fitsTL l xs=xs.all (fitsT l)
 | []=>rfl
 | t::r=>by rw [fitsTL,List.all_cons,fitsTL_all l r]
theorem fitsT_eq (l:Pls):∀ t:Tm,fitsT l t=(t.var||((entPl l t.name t.args.length).2&&t.args.all (fitsT l)))
 | .mk x v xs=>by rw [fitsT,fitsTL_all]; rfl
theorem polyT_small {l:Pls} (hl:∀ y∈l,monosE y.monos=0) {vars:List ByteArray} (hd:vars.Nodup) {t:Tm} (hv:∀ s∈t.pre,s.var=true→s.name∈vars) {c:Mos} (h:polyT l vars t=some c):SmallP vars.length c :=
 (term_val l (entPl_max hl) vars (List.replicate vars.length 0) (by rw [List.length_replicate]) hd t hv c h).1
theorem pre_arg {t a:Tm} (ha:a∈t.args) {s:Tm} (hs:s∈a.pre):s∈t.pre:=by
 rw [Tm.pre_eq,Tm.preL_eq]
 exact List.mem_cons_of_mem _ (List.mem_flatMap.2 ⟨a,ha,hs⟩)
theorem polyA_small {l:Pls} (hl:∀ y∈l,monosE y.monos=0) {vars:List ByteArray} (hd:vars.Nodup) {t:Tm} (hv:∀ s∈t.pre,s.var=true→s.name∈vars):∀ p∈polyA l vars t.args,SmallP vars.length p:=fun p hp=>by
 obtain ⟨a,ha,rfl⟩:=List.mem_map.1 hp
 cases h:polyT l vars a with
 | none=>intro x hx; simp at hx
 | some c=>exact polyT_small hl hd (fun s hs=>hv s (pre_arg ha hs)) h
theorem large_len {l:Mos} (h:largeP l=false):l.length≤4096:=by
 unfold largeP at h
 rw [Bool.or_eq_false_iff] at h
 have:=of_decide_eq_false h.1
 omega
def midE (e:List Int) (k:Nat):List Int:=e.take k++zerosE (e.length - k)
def preP (a b:Mos) (k j:Nat):Mos:=pairsP (a.take k) b++(match a[k]? with | some x=>(b.take j).map (mulMo x) | none=>[])
theorem smallP_coef {n:Nat} {l:Mos} (h:SmallP n l):∀ x∈l,x.coef≤ovr:=fun x hx=>by
 have:x.coef≤4611686018427387904:=(h x hx).2.1
 show x.coef≤4611686018427387905
 omega
theorem uV_unit:∀ {vars:List ByteArray} {i:Nat} (h:i<vars.length),vars.Nodup→uV vars vars[i]=unitE vars.length i:=fun {vars i} h hd=>by
 refine List.ext_getElem (by simp [uV,unitE]) fun j h1 h2=>?_
 have hj:j<vars.length:=by simpa [uV] using h1
 have e1:(unitE vars.length i)[j]=if j=i then 1 else 0:=by simp [unitE]
 have e2:(uV vars vars[i])[j]=if vars[j]=vars[i] then 1 else 0:=by simp [uV]
 rw [e1,e2]
 have hp:=List.pairwise_iff_getElem.1 hd
 have:vars[j]=vars[i]↔j=i:=⟨fun e=>by
  rcases Nat.lt_trichotomy j i with g | g | g
  ·exact absurd e (hp j i hj h g)
  ·exact g
  ·exact absurd e.symm (hp i j h hj g),fun e=>by subst e; rfl⟩
 by_cases e:j=i
 ·rw [if_pos (this.2 e),if_pos e]
 ·rw [if_neg (fun h=>e (this.1 h)),if_neg e]
end Go.Proofs.YthhnadeoioeniaaGreat
namespace Go.Proofs.YthhnadeoioeniaaGreat
open Go Go.Abs
def encAs (ps:List Mos):LL:=ps.map fun p=>[V.l (encMos p)]
theorem vanP_take:∀ {es:List Int} {ps:List Mos} {k:Nat} (h1:k<es.length) (h2:k<ps.length),vanP (es.drop k) (ps.drop k)=((decide (0<es[k])&&(ps[k]).isEmpty)||vanP (es.drop (k+1)) (ps.drop (k+1))):=fun {es ps k} h1 h2=>by
 rw [List.drop_eq_getElem_cons h1,List.drop_eq_getElem_cons h2]; rfl
theorem chainP_nil (ps:List Mos) (x:Mos):chainP [] ps x=some x:=by cases ps <;> rfl
theorem insertP_cons (n:Nat) (args:List Mos) (m:Mo) (ms out:Mos):insertP n args (m::ms) out=match monoP n m args with
  | none=>none
  | some x=>if largeP (addsP out x) then none else insertP n args ms (addsP out x):=rfl
end Go.Proofs.YthhnadeoioeniaaGreat
