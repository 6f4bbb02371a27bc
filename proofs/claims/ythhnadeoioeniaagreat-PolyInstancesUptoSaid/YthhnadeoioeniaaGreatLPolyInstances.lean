/-
  THE LAW PolyInstances over canonical data.
-/
import Derived.Test.YthhnadeoioeniaaGreatP14
set_option linter.unusedVariables false
set_option linter.unusedSimpArgs false
namespace Go.Proofs.YthhnadeoioeniaaGreat
open Go.Abs
theorem law_PolyInstances (xss:List (List V)) (h1:xss.length=Tryz.f4.params.toList.length) (h2:∀ i t,Tryz.f4.params.toList[i]?=some t→(xss.getD i []).length=(tab.get t).lf.length∧∀ j,j<(tab.get t).lf.length→WT (lfs tab) ((tab.get t).lf.getD j .oth) ((xss.getD i []).getD j V.none)) (h3:V.bulkR xss≤1048576) :
  ACalls Tryz.prog (lfs tab) 4 (argsD tab Tryz.f4.params.toList xss) [] fun r _=>r=.v .bool (.b true):=by
 obtain ⟨hl,hw⟩:=argWT_of h1 h2
 have e:Tryz.f4.params.toList=[22,41,42]:=by kernel_rfl
 rw [e] at hl hw ⊢
 have e0:(tab.get 22).lf=[.sl Zh]:=by kernel_rfl
 have e1:(tab.get 41).lf=[.str,.bool,.sl Za,.str,.bool,.sl Za]:=by kernel_rfl
 have e2:(tab.get 42).lf=[.sl Zai]:=by kernel_rfl
 have w0:=hw 0 22 rfl
 have w1:=hw 1 41 rfl
 have w2:=hw 2 42 rfl
 rw [e0] at w0
 rw [e1] at w1
 rw [e2] at w2
 match xss,hl,w0,w1,w2 with
 | [[v],[a,b,c,a',b',c'],[q]],_,⟨g0,_⟩,⟨k1,k2,k3,k4⟩,⟨g2,_⟩ =>
  obtain ⟨l,rfl⟩:=wt_polys g0
  obtain ⟨s,rfl,rfl,rfl,hs⟩:=wt_term ⟨k1,k2,k3,trivial⟩
  obtain ⟨t,rfl,rfl,rfl,ht⟩:=wt_term k4
  obtain ⟨su,rfl,hsu⟩:=wt_binds g2
  have ea:argsD tab [22,41,42] [[.l (encPls l)],[.s s.name,.b s.var,.l (Tm.encL s.args),.s t.name,.b t.var,.l (Tm.encL t.args)],[.l (encS su)]]=[plsD l,.agg [sD s.name,bD s.var,tsD s.args,sD t.name,bD t.var,tsD t.args],suD su]:=by kernel_rfl
  rw [ea]
  simp only [V.bulkR,V.bulkL] at h3
  simp only [V.bulk] at h3 hs ht hsu
  exact (l08_PolyInstances_ok l s t su (by omega) (by omega) (fun x hx=>by have:=hsu x hx; omega)).use rfl
end Go.Proofs.YthhnadeoioeniaaGreat
