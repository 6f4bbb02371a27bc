/-
  THE LAW PolyValues over canonical data.
-/
import Derived.Test.YthhnadeoioeniaaGreatP15
set_option linter.unusedVariables false
set_option linter.unusedSimpArgs false
namespace Go.Proofs.YthhnadeoioeniaaGreat
open Go.Abs
theorem law_PolyValues (xss:List (List V)) (h1:xss.length=Tryz.f7.params.toList.length) (h2:∀ i t,Tryz.f7.params.toList[i]?=some t→(xss.getD i []).length=(tab.get t).lf.length∧∀ j,j<(tab.get t).lf.length→WT (lfs tab) ((tab.get t).lf.getD j .oth) ((xss.getD i []).getD j V.none)) (h3:V.bulkR xss≤1048576) :
  ACalls Tryz.prog (lfs tab) 7 (argsD tab Tryz.f7.params.toList xss) [] fun r _=>r=.v .bool (.b true):=by
 obtain ⟨hl,hw⟩:=argWT_of h1 h2
 have e:Tryz.f7.params.toList=[22,25,53]:=by kernel_rfl
 rw [e] at hl hw ⊢
 have e0:(tab.get 22).lf=[.sl Zm]:=by kernel_rfl
 have e1:(tab.get 25).lf=[.str,.bool,.sl Za]:=by kernel_rfl
 have e2:(tab.get 53).lf=[.sl Zk]:=by kernel_rfl
 have w0:=hw 0 22 rfl
 have w1:=hw 1 25 rfl
 have w2:=hw 2 53 rfl
 rw [e0] at w0
 rw [e1] at w1
 rw [e2] at w2
 match xss,hl,w0,w1,w2 with
 | [[v],[a,b,c],[q]],_,⟨g0,_⟩,g1,⟨g2,_⟩ =>
  obtain ⟨l,rfl⟩:=wt_polys g0
  obtain ⟨t,rfl,rfl,rfl,ht⟩:=wt_term g1
  obtain ⟨vals,rfl,hv⟩:=wt_values g2
  have ea:argsD tab [22,25,53] [[.l (encPls l)],[.s t.name,.b t.var,.l (Tm.encL t.args)],[.l (encU vals)]]=[plsD l,tD t,usD vals]:=by kernel_rfl
  rw [ea]
  simp only [V.bulkR,V.bulkL] at h3
  simp only [V.bulk] at h3 ht
  exact (l08_PolyValues_ok l t vals (by omega) hv).use rfl
end Go.Proofs.YthhnadeoioeniaaGreat
