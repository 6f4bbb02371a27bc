/-
  THE LAW UsableInstances over canonical data.
-/
import Derived.Test.YthjlodlkpgjlkaaGreatP15
set_option linter.unusedVariables false
set_option linter.unusedSimpArgs false
namespace Go.Proofs.YthjlodlkpgjlkaaGreat
open Go.Abs
theorem law_UsableInstances (xss:List (List V)) (h1:xss.length=Tryz.f5.params.toList.length) (h2:∀ i t,Tryz.f5.params.toList[i]?=some t→(xss.getD i []).length=(tab.get t).lf.length∧∀ j,j<(tab.get t).lf.length→WT (lfs tab) ((tab.get t).lf.getD j .oth) ((xss.getD i []).getD j V.none)) (h3:V.bulkR xss≤1048576) :
  ACalls Tryz.prog (lfs tab) 5 (argsD tab Tryz.f5.params.toList xss) [] fun r _=>r=.v .bool (.b true):=by
 obtain ⟨hl,hw⟩:=argWT_of h1 h2
 have e:Tryz.f5.params.toList=[22,25,43]:=by kernel_rfl
 rw [e] at hl hw ⊢
 have e0:(tab.get 22).lf=[.sl Zc]:=by kernel_rfl
 have e1:(tab.get 25).lf=[.str,.bool,.sl Zb]:=by kernel_rfl
 have e2:(tab.get 43).lf=[.sl Za0]:=by kernel_rfl
 have w0:=hw 0 22 rfl
 have w1:=hw 1 25 rfl
 have w2:=hw 2 43 rfl
 rw [e0] at w0
 rw [e1] at w1
 rw [e2] at w2
 match xss,hl,w0,w1,w2 with
 | [[v],[a,b,c],[q]],_,⟨g0,_⟩,g1,⟨g2,_⟩ =>
  obtain ⟨l,rfl⟩:=wt_filters g0
  obtain ⟨t,rfl,rfl,rfl,ht⟩:=wt_term g1
  obtain ⟨s,rfl,hs⟩:=wt_binds g2
  have ea:argsD tab [22,25,43] [[.l (encFs l)],[.s t.name,.b t.var,.l (Tm.encL t.args)],[.l (encS s)]]=[flsD l,tD t,suD s]:=by kernel_rfl
  rw [ea]
  have hb:=encS_bulk s
  simp only [V.bulkR,V.bulkL,V.bulk] at h3 hs
  exact (l11_UsableInstances_ok l t s (by simp only [V.bulk] at ht; omega) (fun x hx=>by have:=hs x hx; omega) (by omega)).use rfl
end Go.Proofs.YthjlodlkpgjlkaaGreat
