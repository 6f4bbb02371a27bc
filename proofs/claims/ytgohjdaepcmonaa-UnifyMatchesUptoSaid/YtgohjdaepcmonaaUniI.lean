import Derived.Test.YtgohjdaepcmonaaUniH
set_option linter.unusedVariables false
set_option linter.unusedSimpArgs false
namespace Go.Proofs.Ytgohjdaepcmonaa
open Go.Abs
theorem rulesL_zero : ∀ {l : Ru}, rulesL l = 0 → ∀ x ∈ l, Tm.checkAll [x.1, x.2] = 0
  | [], _, x, hx => by simp at hx
  | y :: l, h, x, hx => by
    unfold rulesL at h
    split at h
    · rename_i h1; exact absurd h h1
    · rename_i h1
      rcases List.mem_cons.1 hx with rfl | hx
      · exact Classical.byContradiction h1
      · exact rulesL_zero h x hx
theorem rules_ok {l : Ru} (h : rules l = 0) : RuOk l := by
  unfold rules at h
  split at h
  · cases h
  · rename_i hlen
    have hz := rulesL_zero h
    have hc : ∀ x ∈ l, x.1.check = 0 ∧ x.2.check = 0 := fun x hx => by
      have := Tm.checkAll_zero.1 (hz x hx)
      exact ⟨this _ (by simp), this _ (by simp)⟩
    exact ⟨by omega, fun x hx => ⟨(Tm.check_zero.1 (hc x hx).1).2.1, (Tm.check_zero.1 (hc x hx).2).2.1⟩, fun x hx => ⟨(Tm.check_zero.1 (hc x hx).1).2.2, (Tm.check_zero.1 (hc x hx).2).2.2⟩⟩
theorem rules_one (a b : Tm) : rules [(a, b)] = Tm.checkAll [a, b] := by
  show (if [(a, b)].length > 64 then 3 else rulesL [(a, b)]) = _
  rw [if_neg (by simp), rulesL, rulesL]
  split
  · rfl
  · rename_i h; exact (Classical.byContradiction h).symm
theorem term_CheckRules_ok (l : Ru) (hB : ∀ x ∈ l, x.1.size ≤ small ∧ x.2.size ≤ small) : Fn f_term_CheckRules [ruD l] (iD (rules l)) := fun Q hQ => by
  refine C_term_CheckRules _ _ fun hb => ?_
  have hl := encRs_length l
  rw [hl] at hb ⊢
  unfold rules at hQ
  refine iff_dec (fun h => ⟨trivial, ?_⟩) (fun h hb => ?_)
  · rw [if_pos (by omega)] at hQ; exact hQ
  · rw [if_neg (by omega)] at hQ
    refine range_term_CheckRules_0 Q _ _ hb (fun k => ∀ i (h : i < l.length), i < k → Tm.checkAll [(l[i]).1, (l[i]).2] = 0) (fun k hk hJ K hK => ?_) (fun hJ => ?_) 0 (Nat.zero_le _) (fun i _ h => by omega)
    · simp only [encRs_getD _ k hk, List.drop_zero, List.headD_cons, List.tail_cons]
      have hm := hB _ (List.getElem_mem hk)
      rw [show [[V.s (l[k]).1.name, V.b (l[k]).1.var, V.l (Tm.encL (l[k]).1.args)], [V.s (l[k]).2.name, V.b (l[k]).2.var, V.l (Tm.encL (l[k]).2.args)]] = Tm.encL [(l[k]).1, (l[k]).2] by simp [Tm.encL, Tm.enc_eq]]
      refine ⟨by omega, by omega, term_All_ok [(l[k]).1, (l[k]).2] (fun t ht => ?_) _ ⟨rfl, rfl, iff_bne (fun h2 => ⟨trivial, ?_⟩) (fun h2 => hK fun i hi hik => ?_)⟩⟩
      · simp only [List.mem_cons, List.not_mem_nil, or_false] at ht
        rcases ht with rfl | rfl
        · exact hm.1
        · exact hm.2
      · have h2 : Tm.checkAll [(l[k]).1, (l[k]).2] ≠ 0 := h2
        rw [rulesL_take hk (fun i hi => hJ i (by omega) hi) h2] at hQ
        exact hQ
      · rcases Nat.lt_succ_iff_lt_or_eq.1 hik with h8 | h8
        · exact hJ i hi h8
        · subst h8; exact h2
    · rw [rulesL_all fun i hi => hJ i hi hi] at hQ
      exact ⟨trivial, hQ⟩
def UnAll (l : Ru) (res : Su × Bool × Int) : Prop := (rules l ≠ 0 ∧ res = ([], false, rules l)) ∨ (rules l = 0 ∧ UnRes l res)
theorem unify_UnifyAll_ok (l : Ru) (hB : ∀ x ∈ l, x.1.size ≤ small ∧ x.2.size ≤ small) {res : Su × Bool × Int} (h : UnAll l res) : Fn f_unify_UnifyAll [ruD l] (.tup [suD res.1, bD res.2.1, iD res.2.2]) := Fn.as fun Q hQ => by
  refine C_unify_UnifyAll _ _ ?_
  unfold vc_unify_UnifyAll
  refine term_CheckRules_ok l hB _ ⟨rfl, rfl, iff_bne (fun h1 => ⟨⟨trivial, trivial, trivial, trivial⟩, ?_⟩) (fun h1 => ?_)⟩
  · rcases h with ⟨h2, rfl⟩ | ⟨h2, _⟩
    · exact nil3 hQ rfl
    · exact absurd h2 h1
  · rcases h with ⟨h2, _⟩ | ⟨h2, hr⟩
    · exact absurd h1 h2
    · exact unify_Solve_ok l (rules_ok h2) hr _ ⟨rfl, rfl, ⟨trivial, trivial, trivial, trivial⟩, hQ _ (.refl _)⟩
theorem unify_Unify_ok (a b : Tm) (ha : a.size ≤ small) (hb : b.size ≤ small) {res : Su × Bool × Int} (h : UnAll [(a, b)] res) : Fn f_unify_Unify [tD a, tD b] (.tup [suD res.1, bD res.2.1, iD res.2.2]) := fun Q hQ => by
  refine C_unify_Unify _ _ _ _ _ _ _ ?_
  unfold vc_unify_Unify
  have e : [[V.s a.name, V.b a.var, V.l (Tm.encL a.args), V.s b.name, V.b b.var, V.l (Tm.encL b.args)]] = encRs [(a, b)] := by simp [encRs, encR, Tm.enc_eq]
  rw [e]
  exact unify_UnifyAll_ok [(a, b)] (fun x hx => by rw [List.mem_singleton.1 hx]; exact ⟨ha, hb⟩) h _ ⟨rfl, rfl, ⟨trivial, trivial, trivial, trivial⟩, hQ⟩
end Go.Proofs.Ytgohjdaepcmonaa
