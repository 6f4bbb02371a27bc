/-
  THE LAW UsableRules over canonical data.
-/
import Derived.Test.YthjlodlkpgjlkaaGreatP15
set_option linter.unusedVariables false
set_option linter.unusedSimpArgs false
namespace Go.Proofs.YthjlodlkpgjlkaaGreat
open Go.Abs
theorem law_UsableRules (xss:List (List V)) (h1:xss.length=Tryz.f4.params.toList.length) (h2:∀ i t,Tryz.f4.params.toList[i]?=some t→(xss.getD i []).length=(tab.get t).lf.length∧∀ j,j<(tab.get t).lf.length→WT (lfs tab) ((tab.get t).lf.getD j .oth) ((xss.getD i []).getD j V.none)) (h3:V.bulkR xss≤1048576) :
  ACalls Tryz.prog (lfs tab) 4 (argsD tab Tryz.f4.params.toList xss) [] fun r _=>r=.v .bool (.b true):=by
 obtain ⟨hl,hw⟩:=argWT_of h1 h2
 have e:Tryz.f4.params.toList=[22,37,37]:=by kernel_rfl
 rw [e] at hl hw ⊢
 have e0:(tab.get 22).lf=[.sl Zc]:=by kernel_rfl
 have e1:(tab.get 37).lf=[.sl Zd]:=by kernel_rfl
 have e2:(tab.get 37).lf=[.sl Zd]:=by kernel_rfl
 have w0:=hw 0 22 rfl
 have w1:=hw 1 37 rfl
 have w2:=hw 2 37 rfl
 rw [e0] at w0
 rw [e1] at w1
 rw [e2] at w2
 match xss,hl,w0,w1,w2 with
 | [[v],[q],[q']],_,⟨g0,_⟩,⟨g1,_⟩,⟨g2,_⟩ =>
  obtain ⟨l,rfl⟩:=wt_filters g0
  obtain ⟨p,rfl,hp⟩:=wt_rules g1
  obtain ⟨r,rfl,hr⟩:=wt_rules g2
  have ea:argsD tab [22,37,37] [[.l (encFs l)],[.l (encRs p)],[.l (encRs r)]]=[flsD l,ruD p,ruD r]:=by kernel_rfl
  rw [ea]
  simp only [V.bulkR,V.bulkL] at h3
  have hsm:=small_eq
  exact (l11_UsableRules_ok l p r (fun x hx=>by have:=hp x hx; omega) (fun x hx=>by have:=hr x hx; omega)).use rfl
end Go.Proofs.YthjlodlkpgjlkaaGreat
