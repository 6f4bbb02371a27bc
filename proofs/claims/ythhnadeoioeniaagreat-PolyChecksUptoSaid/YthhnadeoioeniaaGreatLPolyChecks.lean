/-
  THE LAW PolyChecks over canonical data.
-/
import Derived.Test.YthhnadeoioeniaaGreatP16
set_option linter.unusedVariables false
set_option linter.unusedSimpArgs false
namespace Go.Proofs.YthhnadeoioeniaaGreat
open Go.Abs
theorem law_PolyChecks (xss:List (List V)) (h1:xss.length=Tryz.f5.params.toList.length) (h2:∀ i t,Tryz.f5.params.toList[i]?=some t→(xss.getD i []).length=(tab.get t).lf.length∧∀ j,j<(tab.get t).lf.length→WT (lfs tab) ((tab.get t).lf.getD j .oth) ((xss.getD i []).getD j V.none)) (h3:V.bulkR xss≤1048576) :
  ACalls Tryz.prog (lfs tab) 5 (argsD tab Tryz.f5.params.toList xss) [] fun r _=>r=.v .bool (.b true):=by
 obtain ⟨hl,hw⟩:=argWT_of h1 h2
 have e:Tryz.f5.params.toList=[22,49]:=by kernel_rfl
 rw [e] at hl hw ⊢
 have e0:(tab.get 22).lf=[.sl Zf]:=by kernel_rfl
 have e1:(tab.get 49).lf=[.sl ZY]:=by kernel_rfl
 have w0:=hw 0 22 rfl
 have w1:=hw 1 49 rfl
 rw [e0] at w0
 rw [e1] at w1
 match xss,hl,w0,w1 with
 | [[v],[q]],_,⟨g0,_⟩,⟨g1,_⟩ =>
  obtain ⟨l,rfl⟩:=wt_polys g0
  obtain ⟨s,rfl⟩:=wt_symbols g1
  have ea:argsD tab [22,49] [[.l (encPls l)],[.l (encYs s)]]=[plsD l,ysD s]:=by kernel_rfl
  rw [ea]
  exact (l08_PolyChecks_ok l s).use rfl
end Go.Proofs.YthhnadeoioeniaaGreat
