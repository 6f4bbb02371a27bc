/-
  THE LAW PolyCompares over canonical data.
-/
import Derived.Test.YthhnadeoioeniaaGreatP15
set_option linter.unusedVariables false
set_option linter.unusedSimpArgs false
namespace Go.Proofs.YthhnadeoioeniaaGreat
open Go.Abs
theorem encRs_bulk:∀ r:Ru,r.length≤V.bulkR (encRs r)
 | []=>Nat.zero_le _
 | y::r=>by
  have ih:=encRs_bulk r
  have e:encRs (y::r)=encR y::encRs r:=rfl
  rw [e,encR,Tm.enc_eq,Tm.enc_eq,List.length_cons]
  simp only [List.cons_append,List.nil_append,V.bulkR,V.bulkL,V.bulk]; omega
theorem law_PolyCompares (xss:List (List V)) (h1:xss.length=Tryz.f8.params.toList.length) (h2:∀ i t,Tryz.f8.params.toList[i]?=some t→(xss.getD i []).length=(tab.get t).lf.length∧∀ j,j<(tab.get t).lf.length→WT (lfs tab) ((tab.get t).lf.getD j .oth) ((xss.getD i []).getD j V.none)) (h3:V.bulkR xss≤1048576) :
  ACalls Tryz.prog (lfs tab) 8 (argsD tab Tryz.f8.params.toList xss) [] fun r _=>r=.v .bool (.b true):=by
 obtain ⟨hl,hw⟩:=argWT_of h1 h2
 have e:Tryz.f8.params.toList=[22,41,59]:=by kernel_rfl
 rw [e] at hl hw ⊢
 have e0:(tab.get 22).lf=[.sl Zg]:=by kernel_rfl
 have e1:(tab.get 41).lf=[.str,.bool,.sl Za,.str,.bool,.sl Za]:=by kernel_rfl
 have e2:(tab.get 59).lf=[.sl Zaw]:=by kernel_rfl
 have w0:=hw 0 22 rfl
 have w1:=hw 1 41 rfl
 have w2:=hw 2 59 rfl
 rw [e0] at w0
 rw [e1] at w1
 rw [e2] at w2
 match xss,hl,w0,w1,w2 with
 | [[v],[a,b,c,a',b',c'],[q]],_,⟨g0,_⟩,⟨k1,k2,k3,k4⟩,⟨g2,_⟩ =>
  obtain ⟨l,rfl⟩:=wt_polys g0
  obtain ⟨s,rfl,rfl,rfl,hs⟩:=wt_term ⟨k1,k2,k3,trivial⟩
  obtain ⟨t,rfl,rfl,rfl,ht⟩:=wt_term k4
  obtain ⟨r,rfl,hr⟩:=wt_rules g2
  have hb:=encRs_bulk r
  have ea:argsD tab [22,41,59] [[.l (encPls l)],[.s s.name,.b s.var,.l (Tm.encL s.args),.s t.name,.b t.var,.l (Tm.encL t.args)],[.l (encRs r)]]=[plsD l,.agg [sD s.name,bD s.var,tsD s.args,sD t.name,bD t.var,tsD t.args],ruD r]:=by kernel_rfl
  rw [ea]
  simp only [V.bulkR,V.bulkL] at h3
  simp only [V.bulk] at h3 hs ht hr
  exact (l08_PolyCompares_ok l s t r (by omega) (by omega) (fun x hx=>by have:=hr x hx; omega) (by omega)).use rfl
end Go.Proofs.YthhnadeoioeniaaGreat
