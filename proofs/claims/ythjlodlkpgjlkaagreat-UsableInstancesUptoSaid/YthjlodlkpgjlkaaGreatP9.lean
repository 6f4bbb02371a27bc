/-
  Texts SortL, WalkA of this proof, joined.
-/
import Derived.Shelf.Sort.Plain
import Derived.Shelf.Slices.Clone
import Derived.Shelf.Slices.In.SortNone
import Derived.Test.YthjlodlkpgjlkaaGreatProg
import Derived.Test.YthjlodlkpgjlkaaGreatP8
namespace Go.Proofs.YthjlodlkpgjlkaaGreat
open Go.Shelf
def lays190_ren:Go.Shelf.Ren:=⟨fun | 190=>186 | 125=>198 | 258=>228 | 128=>237 | 129=>238 | 302=>250 | 303=>251 | 304=>252 | 305=>253 | 306=>254 | 307=>255 | 308=>256 | 309=>257 | 310=>258 | 333=>270 | 329=>260 | 330=>261 | 334=>271 | 335=>272 | 336=>273 | 344=>275 | n=>n,fun | 31=>83 | 9=>9 | 3=>3 | 46=>246 | 0=>0 | 51=>273 | 53=>186 | 4=>4 | 183=>267 | 182=>266 | 131=>221 | 5=>5 | 218=>288 | 222=>292 | 228=>301 | 229=>98 | n=>n,fun | n=>n⟩
theorem lays190:Go.Proofs.Lays.n190 Tryz.prog lays190_ren:={
 mixed:=by kernel_rfl
 f125:=Tryz.func198.trans (congrArg some (by kernel_rfl))
 f128:=Tryz.func237.trans (congrArg some (by kernel_rfl))
 f129:=Tryz.func238.trans (congrArg some (by kernel_rfl))
 f190:=Tryz.func186.trans (congrArg some (by kernel_rfl))
 f258:=Tryz.func228.trans (congrArg some (by kernel_rfl))
 f302:=Tryz.func250.trans (congrArg some (by kernel_rfl))
 f303:=Tryz.func251.trans (congrArg some (by kernel_rfl))
 f304:=Tryz.func252.trans (congrArg some (by kernel_rfl))
 f305:=Tryz.func253.trans (congrArg some (by kernel_rfl))
 f306:=Tryz.func254.trans (congrArg some (by kernel_rfl))
 f307:=Tryz.func255.trans (congrArg some (by kernel_rfl))
 f308:=Tryz.func256.trans (congrArg some (by kernel_rfl))
 f309:=Tryz.func257.trans (congrArg some (by kernel_rfl))
 f310:=Tryz.func258.trans (congrArg some (by kernel_rfl))
 f329:=Tryz.func260.trans (congrArg some (by kernel_rfl))
 f330:=Tryz.func261.trans (congrArg some (by kernel_rfl))
 f333:=Tryz.func270.trans (congrArg some (by kernel_rfl))
 f334:=Tryz.func271.trans (congrArg some (by kernel_rfl))
 f335:=Tryz.func272.trans (congrArg some (by kernel_rfl))
 f336:=Tryz.func273.trans (congrArg some (by kernel_rfl))
 f344:=Tryz.func275.trans (congrArg some (by kernel_rfl))
 t0:=Tryz.underlying0
 a0:=Tryz.isAgg0
 z0:=Tryz.sizeOf0
 v0:=Tryz.zeroValue0
 t3:=Tryz.underlying3
 a3:=Tryz.isAgg3
 z3:=Tryz.sizeOf3
 v3:=Tryz.zeroValue3
 t4:=Tryz.underlying4
 a4:=Tryz.isAgg4
 z4:=Tryz.sizeOf4
 v4:=Tryz.zeroValue4
 t5:=Tryz.underlying5
 a5:=Tryz.isAgg5
 z5:=Tryz.sizeOf5
 v5:=Tryz.zeroValue5
 t9:=Tryz.underlying9
 a9:=Tryz.isAgg9
 z9:=Tryz.sizeOf9
 v9:=Tryz.zeroValue9
 t31:=Tryz.underlying83
 a31:=Tryz.isAgg83
 z31:=Tryz.sizeOf83
 v31:=Tryz.zeroValue83
 t46:=Tryz.underlying246
 a46:=Tryz.isAgg246
 z46:=Tryz.sizeOf246
 v46:=Tryz.zeroValue246
 t51:=Tryz.underlying273
 a51:=Tryz.isAgg273
 z51:=Tryz.sizeOf273
 v51:=Tryz.zeroValue273
 t53:=Tryz.underlying186
 a53:=Tryz.isAgg186
 z53:=Tryz.sizeOf186
 v53:=Tryz.zeroValue186
 t131:=Tryz.underlying221
 a131:=Tryz.isAgg221
 z131:=Tryz.sizeOf221
 v131:=Tryz.zeroValue221
 t182:=Tryz.underlying266
 a182:=Tryz.isAgg266
 z182:=Tryz.sizeOf266
 v182:=Tryz.zeroValue266
 t183:=Tryz.underlying267
 a183:=Tryz.isAgg267
 z183:=Tryz.sizeOf267
 v183:=Tryz.zeroValue267
 t218:=Tryz.underlying288
 a218:=Tryz.isAgg288
 z218:=Tryz.sizeOf288
 v218:=Tryz.zeroValue288
 t222:=Tryz.underlying292
 a222:=Tryz.isAgg292
 z222:=Tryz.sizeOf292
 v222:=Tryz.zeroValue292
 t228:=Tryz.underlying301
 a228:=Tryz.isAgg301
 z228:=Tryz.sizeOf301
 v228:=Tryz.zeroValue301
 t229:=Tryz.underlying98
 a229:=Tryz.isAgg98
 z229:=Tryz.sizeOf98
 v229:=Tryz.zeroValue98 }
def laysNm215_ren:Go.Shelf.Ren:=⟨fun | 15=>222 | n=>n,fun | 22=>38 | 3=>3 | 4=>4 | n=>n,fun | n=>n⟩
theorem laysNm215:Go.Proofs.Lays2.n15 Tryz.prog laysNm215_ren:={
 mixed:=by kernel_rfl
 f15:=Tryz.func222.trans (congrArg some (by kernel_rfl))
 t3:=Tryz.underlying3
 a3:=Tryz.isAgg3
 z3:=Tryz.sizeOf3
 v3:=Tryz.zeroValue3
 t4:=Tryz.underlying4
 a4:=Tryz.isAgg4
 z4:=Tryz.sizeOf4
 v4:=Tryz.zeroValue4
 t22:=Tryz.underlying38
 a22:=Tryz.isAgg38
 z22:=Tryz.sizeOf38
 v22:=Tryz.zeroValue38
 i3:=by kernel_rfl }
end Go.Proofs.YthjlodlkpgjlkaaGreat
set_option linter.unusedVariables false
namespace Go.Proofs.YthjlodlkpgjlkaaGreat
open Go Go.Abs
theorem term_lf:lfs tab Zb=[.str,.bool,.sl Zb]:=by kernel_rfl
mutual
def Tm.pre:Tm→List Tm | .mk n v xs=>.mk n v xs::Tm.preL xs
def Tm.preL:List Tm→List Tm | []=>[] | t::r=>t.pre++Tm.preL r
end
theorem Tm.pre_eq (t:Tm):t.pre=t::Tm.preL t.args:=by cases t; rfl
theorem Tm.preL_eq:∀ l:List Tm,Tm.preL l=l.flatMap Tm.pre
 | []=>rfl
 | t::r=>by simp [Tm.preL,Tm.preL_eq r]
mutual
def Tm.preD:Nat→Tm→List (Tm×Nat) | d,.mk n v xs=>(.mk n v xs,d)::Tm.preDL (d+1) xs
def Tm.preDL:Nat→List Tm→List (Tm×Nat) | _,[]=>[] | d,t::r=>t.preD d++Tm.preDL d r
end
theorem Tm.preD_eq (d:Nat) (t:Tm):t.preD d=(t,d)::Tm.preDL (d+1) t.args:=by cases t; rfl
theorem Tm.preDL_fst:∀ (l:List Tm) (d:Nat),(∀ t∈l,∀ d,(t.preD d).map Prod.fst=t.pre)→(Tm.preDL d l).map Prod.fst=Tm.preL l
 | [],_,_=>rfl
 | t::r,d,h=>by simp only [Tm.preDL,Tm.preL,List.map_append,h t (by simp) d,Tm.preDL_fst r d fun a ha=>h a (by simp [ha])]
theorem Tm.preD_fst:∀ (t:Tm) (d:Nat),(t.preD d).map Prod.fst=t.pre:=Tm.ind fun t ih d=>by
 rw [Tm.preD_eq,Tm.pre_eq,List.map_cons,Tm.preDL_fst _ _ ih]
theorem Tm.preDL_pos:∀ (l:List Tm) (d:Nat),(∀ t∈l,∀ d,∀ x∈t.preD d,d≤x.2)→∀ x∈Tm.preDL d l,d≤x.2
 | [],_,_,x,hx=>by simp [Tm.preDL] at hx
 | t::r,d,h,x,hx=>by
  simp only [Tm.preDL,List.mem_append] at hx
  exact hx.elim (h t (by simp) d x) (Tm.preDL_pos r d (fun a ha=>h a (by simp [ha])) x)
theorem Tm.preD_pos:∀ (t:Tm) (d:Nat),∀ x∈t.preD d,d≤x.2:=Tm.ind fun t ih d x hx=>by
 rw [Tm.preD_eq] at hx
 rcases List.mem_cons.1 hx with rfl | hx
 ·exact Nat.le_refl _
 ·have:=Tm.preDL_pos _ _ ih x hx; omega
def encW (x:Tm×Nat):List V:=[.s x.1.name,.b x.1.var,.l (Tm.encL x.1.args),.i x.2]
def rowsW (t:Tm):List (List V):=(t.preD 0).map encW
theorem tm_inv {S:Sig} {t:Tm} {v:Value} (h:RepD (lfs tab) S (tD t) v):∃ u,v=.agg #[.string t.name,.bool t.var,u]∧RepK (lfs tab) S.w S.F (.sl Zb) (.l (Tm.encL t.args)) u∧t.name.size≤big:=by
 cases h with
 | agg cs us hl hr =>
  match us,hl with
  | [u0,u1,u2],_ =>
   have h0:RepD (lfs tab) S (.v .str (.s t.name)) u0:=hr 0
   have h1:RepD (lfs tab) S (.v .bool (.b t.var)) u1:=hr 1
   have h2:RepD (lfs tab) S (.v (.sl Zb) (.l (Tm.encL t.args))) u2:=hr 2
   have e1:=h1.bool_inv
   have e0:u0=.string t.name∧t.name.size≤big:=by
    cases h0 with
    | v _ _ _ h =>
     generalize hy:V.s t.name=y at h
     cases h with
     | str x hx=>subst hy; exact ⟨rfl,hx⟩
   obtain ⟨rfl,hs⟩:=e0
   subst e1
   refine ⟨u2,rfl,?_,hs⟩
   cases h2 with
   | v _ _ _ h=>exact h
theorem args_inv {S:Sig} {l:List Tm} {u:Value} (h:RepK (lfs tab) S.w S.F (.sl Zb) (.l (Tm.encL l)) u) :
  ∃ a c,u=.slice a l.length c∧(l=[]∨∃ b off,∃ us:Nat→Nat→Value,a=some ⟨b,off,none⟩∧S.F b∧∀ i (hi:i<l.length),
   (∀ j,j<3→S.w.cell? ⟨b,off+(i*3+j),none⟩=some (us i j))∧RepD (lfs tab) S (tD (l[i])) (.agg #[us i 0,us i 1,us i 2])):=by
 generalize hy:V.l (Tm.encL l)=y at h
 cases h with
 | sl0 e x A c hl =>
  subst hy
  have:l=[]:=by
   have h1:(Tm.encL l)=[]:=hl
   rw [Tm.encL_eq] at h1
   simpa using h1
  subst this
  exact ⟨A,c,rfl,.inl rfl⟩
 | sl e x b off c us hb hc hlen hcell hr =>
  subst hy
  refine ⟨some ⟨b,off,none⟩,c,by show Value.slice _ _ _=_; rw [show (V.l (Tm.encL l)).list.length=l.length from Tm.encL_length l],.inr ⟨b,off,us,rfl,hb,fun i hi=>⟨fun j hj=>?_,?_⟩⟩⟩
  ·have:=hcell i j (by show i<(Tm.encL l).length; rw [Tm.encL_length]; exact hi) (by rw [term_lf]; exact hj)
   rw [term_lf] at this
   rw [← Nat.add_assoc]
   exact this
  ·have h3:∀ j,j<3→RepK (lfs tab) S.w S.F ([K.str,.bool,.sl Zb].getD j .oth) ((l[i]).enc.getD j V.none) (us i j):=fun j hj=>by
    have:=hr i j (by show i<(Tm.encL l).length; rw [Tm.encL_length]; exact hi) (by rw [term_lf]; exact hj)
    rw [term_lf,show (V.l (Tm.encL l)).list.getD i []=(l[i]).enc from Tm.encL_getD l i hi] at this
    exact this
   refine .agg _ [us i 0,us i 1,us i 2] rfl fun j=>?_
   match j with
   | 0=>exact .v _ _ _ (by have:=h3 0 (by omega); rw [Tm.enc_eq] at this; exact this)
   | 1=>exact .v _ _ _ (by have:=h3 1 (by omega); rw [Tm.enc_eq] at this; exact this)
   | 2=>exact .v _ _ _ (by have:=h3 2 (by omega); rw [Tm.enc_eq] at this; exact this)
   | j+3=>exact .undef _
end Go.Proofs.YthjlodlkpgjlkaaGreat
