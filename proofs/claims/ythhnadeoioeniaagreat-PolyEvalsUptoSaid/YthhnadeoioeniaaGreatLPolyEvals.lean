/-
  THE LAW PolyEvals over canonical data.
-/
import Derived.Test.YthhnadeoioeniaaGreatP16
set_option linter.unusedVariables false
set_option linter.unusedSimpArgs false
namespace Go.Proofs.YthhnadeoioeniaaGreat
open Go.Abs
theorem law_PolyEvals (xss:List (List V)) (h1:xss.length=Tryz.f6.params.toList.length) (h2:∀ i t,Tryz.f6.params.toList[i]?=some t→(xss.getD i []).length=(tab.get t).lf.length∧∀ j,j<(tab.get t).lf.length→WT (lfs tab) ((tab.get t).lf.getD j .oth) ((xss.getD i []).getD j V.none)) (h3:V.bulkR xss≤1048576) :
  ACalls Tryz.prog (lfs tab) 6 (argsD tab Tryz.f6.params.toList xss) [] fun r _=>r=.v .bool (.b true):=by
 obtain ⟨hl,hw⟩:=argWT_of h1 h2
 have e:Tryz.f6.params.toList=[27,53]:=by kernel_rfl
 rw [e] at hl hw ⊢
 have e0:(tab.get 27).lf=[.sl Za]:=by kernel_rfl
 have e1:(tab.get 53).lf=[.sl Zp]:=by kernel_rfl
 have w0:=hw 0 27 rfl
 have w1:=hw 1 53 rfl
 rw [e0] at w0
 rw [e1] at w1
 match xss,hl,w0,w1 with
 | [[v],[q]],_,⟨g0,_⟩,⟨g1,_⟩ =>
  obtain ⟨p,rfl,hp⟩:=wt_monos g0
  obtain ⟨vals,rfl,hv⟩:=wt_values g1
  have ea:argsD tab [27,53] [[.l (encMos p)],[.l (encU vals)]]=[msD p,usD vals]:=by kernel_rfl
  rw [ea]
  exact (l08_PolyEvals_ok p vals (fun x hx=>(hp x hx).1) hv (fun x hx=>(hp x hx).2)).use rfl
end Go.Proofs.YthhnadeoioeniaaGreat
