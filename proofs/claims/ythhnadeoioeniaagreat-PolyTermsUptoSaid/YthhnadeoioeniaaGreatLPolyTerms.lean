/-
  THE LAW PolyTerms over canonical data.
-/
import Derived.Test.YthhnadeoioeniaaGreatP16
set_option linter.unusedVariables false
set_option linter.unusedSimpArgs false
namespace Go.Proofs.YthhnadeoioeniaaGreat
open Go.Abs
theorem law_PolyTerms (xss:List (List V)) (h1:xss.length=Tryz.f3.params.toList.length) (h2:∀ i t,Tryz.f3.params.toList[i]?=some t→(xss.getD i []).length=(tab.get t).lf.length∧∀ j,j<(tab.get t).lf.length→WT (lfs tab) ((tab.get t).lf.getD j .oth) ((xss.getD i []).getD j V.none)) (h3:V.bulkR xss≤1048576) :
  ACalls Tryz.prog (lfs tab) 3 (argsD tab Tryz.f3.params.toList xss) [] fun r _=>r=.v .bool (.b true):=by
 obtain ⟨hl,hw⟩:=argWT_of h1 h2
 have e:Tryz.f3.params.toList=[22,25]:=by kernel_rfl
 rw [e] at hl hw ⊢
 have e0:(tab.get 22).lf=[.sl Zf]:=by kernel_rfl
 have e1:(tab.get 25).lf=[.str,.bool,.sl Zb]:=by kernel_rfl
 have w0:=hw 0 22 rfl
 have w1:=hw 1 25 rfl
 rw [e0] at w0
 rw [e1] at w1
 match xss,hl,w0,w1 with
 | [[v],[a,b,c]],_,⟨g0,_⟩,g1 =>
  obtain ⟨l,rfl⟩:=wt_polys g0
  obtain ⟨t,rfl,rfl,rfl,ht⟩:=wt_term g1
  have ea:argsD tab [22,25] [[.l (encPls l)],[.s t.name,.b t.var,.l (Tm.encL t.args)]]=[plsD l,tD t]:=by kernel_rfl
  rw [ea]
  simp only [V.bulkR,V.bulkL,V.bulk] at h3
  exact (l08_PolyTerms_ok l t (by simp only [V.bulk] at ht; omega)).use rfl
end Go.Proofs.YthhnadeoioeniaaGreat
