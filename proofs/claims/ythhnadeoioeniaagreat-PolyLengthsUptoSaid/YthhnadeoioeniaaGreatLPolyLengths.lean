/-
  THE LAW PolyLengths over canonical data.
-/
import Derived.Test.YthhnadeoioeniaaGreatP15
set_option linter.unusedVariables false
set_option linter.unusedSimpArgs false
namespace Go.Proofs.YthhnadeoioeniaaGreat
open Go.Abs
theorem lf_Step:lfs tab Zfc=[.int .i64,.sl ZT]:=by kernel_rfl
theorem steps_of_rows:∀ (xs:List (List V)),(∀ i,i<xs.length→∃ y:Stp,xs.getD i []=[V.i y.1,V.l (encP y.2)])→∃ l:List Stp,xs=encSt l
 | [],_=>⟨[],rfl⟩
 | x::xs,h=>by
  obtain ⟨y,hy⟩:=h 0 (by simp)
  obtain ⟨l,hl⟩:=steps_of_rows xs fun i hi=>h (i+1) (by simpa using hi)
  refine ⟨y::l,?_⟩
  have:x=[V.i y.1,V.l (encP y.2)]:=hy
  rw [this,hl]; rfl
theorem wt_steps {v:V} (h:WTt (.sl Zfc) v):∃ l:List Stp,v=.l (encSt l):=by
 obtain ⟨xs,rfl,hx⟩:=wt_sl h
 rw [lf_Step] at hx
 obtain ⟨l,hl⟩:=steps_of_rows xs fun i hi=>by
  have g:=hx i hi
  generalize xs.getD i []=c at g
  match c,g with
  | [a,b],⟨g1,g2,_⟩ =>
   obtain ⟨n,rfl⟩:=wt_int g1
   obtain ⟨p,rfl,_⟩:=wt_ints64 g2
   exact ⟨(n,p),rfl⟩
 exact ⟨l,by rw [hl]⟩
theorem law_PolyLengths (xss:List (List V)) (h1:xss.length=Tryz.f9.params.toList.length) (h2:∀ i t,Tryz.f9.params.toList[i]?=some t→(xss.getD i []).length=(tab.get t).lf.length∧∀ j,j<(tab.get t).lf.length→WT (lfs tab) ((tab.get t).lf.getD j .oth) ((xss.getD i []).getD j V.none)) (h3:V.bulkR xss≤1048576) :
  ACalls Tryz.prog (lfs tab) 9 (argsD tab Tryz.f9.params.toList xss) [] fun r _=>r=.v .bool (.b true):=by
 obtain ⟨hl,hw⟩:=argWT_of h1 h2
 have e:Tryz.f9.params.toList=[22,59,70]:=by kernel_rfl
 rw [e] at hl hw ⊢
 have e0:(tab.get 22).lf=[.sl Zg]:=by kernel_rfl
 have e1:(tab.get 59).lf=[.sl Zap]:=by kernel_rfl
 have e2:(tab.get 70).lf=[.str,.bool,.sl Za,.sl Zfc]:=by kernel_rfl
 have w0:=hw 0 22 rfl
 have w1:=hw 1 59 rfl
 have w2:=hw 2 70 rfl
 rw [e0] at w0
 rw [e1] at w1
 rw [e2] at w2
 match xss,hl,w0,w1,w2 with
 | [[v],[q],[a,b,c,d]],_,⟨g0,_⟩,⟨g1,_⟩,⟨k1,k2,k3,k4,_⟩ =>
  obtain ⟨l,rfl⟩:=wt_polys g0
  obtain ⟨r,rfl,hr⟩:=wt_rules g1
  obtain ⟨t,rfl,rfl,rfl,ht⟩:=wt_term ⟨k1,k2,k3,trivial⟩
  obtain ⟨st,rfl⟩:=wt_steps k4
  have ea:argsD tab [22,59,70] [[.l (encPls l)],[.l (encRs r)],[.s t.name,.b t.var,.l (Tm.encL t.args),.l (encSt st)]]=[plsD l,ruD r,.agg [.v .str (.s t.name),.v .bool (.b t.var),.v (.sl Za) (.l (Tm.encL t.args)),.v (.sl Zfc) (.l (encSt st))]]:=by kernel_rfl
  rw [ea]
  simp only [V.bulkR,V.bulkL] at h3
  simp only [V.bulk] at h3 ht hr
  exact (l08_PolyLengths_ok l r t st (fun x hx=>by have:=hr x hx; omega) (by omega)).use rfl
end Go.Proofs.YthhnadeoioeniaaGreat
