import Derived.Test.YtgohjdaepcmonaaUniB
import Derived.Test.YtgohjdaepcmonaaR03C
set_option linter.unusedVariables false
set_option linter.unusedSimpArgs false
namespace Go.Proofs.Ytgohjdaepcmonaa
open Go.Abs
theorem keyEq1 (a c : ByteArray) (r : List V) : keyEq [.str] [V.s a] (V.s c :: r) = decide (a = c) := by
  have e : keyEq [.str] [V.s a] (V.s c :: r) = (match a.toList == c.toList with | true => true | false => false) := rfl
  rw [e, ba_beq]; cases decide (a = c) <;> rfl
theorem keyEq2' (a b c d : ByteArray) (r : List V) : keyEq [.str, .str] [V.s a, V.s b] (V.s c :: V.s d :: r) = (decide (a = c) && decide (b = d)) := by
  have e : keyEq [.str, .str] [V.s a, V.s b] (V.s c :: V.s d :: r) = (match a.toList == c.toList with | true => (match b.toList == d.toList with | true => true | false => false) | false => false) := rfl
  rw [e, ba_beq, ba_beq]
  cases decide (a = c) <;> cases decide (b = d) <;> rfl
theorem bound_cons {y : ByteArray × Tm} {m : Su} {x : ByteArray} (h : ¬ x = y.1) : boundS (y :: m) x = boundS m x := by
  rw [Bool.eq_iff_iff, boundS_iff, boundS_iff]
  constructor
  · rintro ⟨z, hz, e⟩
    rcases List.mem_cons.1 hz with h1 | hz
    · rw [h1] at e; exact absurd e.symm h
    · exact ⟨z, hz, e⟩
  · rintro ⟨z, hz, e⟩; exact ⟨z, List.mem_cons_of_mem _ hz, e⟩
theorem mlook_su (x : ByteArray) : ∀ m : Su, mlook [.str] [V.s x] (encS m) = if boundS m x then some (Tm.image m x).enc else none
  | [] => rfl
  | y :: m => by
    have henc : encS (y :: m) = (V.s y.1 :: y.2.enc) :: encS m := rfl
    rw [henc, mlook, keyEq1]
    by_cases h : x = y.1
    · have hb : boundS (y :: m) x = true := boundS_iff.2 ⟨y, by simp, h.symm⟩
      rw [decide_eq_true h, if_pos hb, Tm.image, if_pos h.symm]; rfl
    · have hi : Tm.image (y :: m) x = Tm.image m x := by rw [Tm.image, if_neg fun e => h e.symm]
      rw [decide_eq_false h, bound_cons h, hi]
      exact mlook_su x m
theorem mhas_su (x : ByteArray) (m : Su) : mhas [.str] [V.s x] (encS m) = boundS m x := by
  unfold mhas; rw [mlook_su]; cases boundS m x <;> rfl
theorem mget_su {x : ByteArray} {m : Su} (zs : List V) (h : boundS m x = true) : mget [.str] zs [V.s x] (encS m) = (Tm.image m x).enc := by
  unfold mget; rw [mlook_su, if_pos h]; rfl
theorem mset_su (x : ByteArray) (t : Tm) : ∀ m : Su, boundS m x = false → mset [.str] [V.s x] t.enc (encS m) = encS (m ++ [(x, t)])
  | [], _ => rfl
  | y :: m, h => by
    rw [boundS_false] at h
    have e : encS (y :: m) = (V.s y.1 :: y.2.enc) :: encS m := rfl
    rw [e, mset, keyEq1, decide_eq_false fun e => h y (by simp) e.symm]
    show _ :: mset _ _ _ (encS m) = _
    rw [mset_su x t m (boundS_false.2 fun z hz => h z (List.mem_cons_of_mem _ hz))]
    rfl
theorem fnS_push {m : Su} {v : ByteArray} (t : Tm) (h : fnS m v = none) : fnS (m ++ [(v, t)]) = updB (fnS m) v t := by
  rw [fnS_none, boundS_false] at h
  have him : ∀ (m : Su) (y : ByteArray), (∀ z ∈ m, z.1 ≠ v) → Tm.image (m ++ [(v, t)]) y = if y = v then t else Tm.image m y := fun m => by
    induction m with
    | nil =>
      intro y _
      simp only [List.nil_append, Tm.image]
      by_cases h : v = y
      · rw [if_pos h, if_pos h.symm]
      · rw [if_neg h, if_neg fun e => h e.symm]
    | cons x r ih =>
      intro y h
      rw [List.cons_append, Tm.image, Tm.image]
      by_cases hx : x.1 = y
      · rw [if_pos hx, if_pos hx, if_neg fun e => h x (by simp) (hx.trans e)]
      · rw [if_neg hx, if_neg hx]; exact ih y fun z hz => h z (List.mem_cons_of_mem _ hz)
  funext y
  by_cases hy : y = v
  · subst hy
    rw [updB_self, fnS_of (boundS_iff.2 ⟨(y, t), by simp, rfl⟩), him _ _ h, if_pos rfl]
  · rw [updB_ne _ _ hy]
    have hb : boundS (m ++ [(v, t)]) y = boundS m y := by
      rw [Bool.eq_iff_iff, boundS_iff, boundS_iff]
      constructor
      · rintro ⟨z, hz, e⟩
        rcases List.mem_append.1 hz with hz | hz
        · exact ⟨z, hz, e⟩
        · rw [List.mem_singleton.1 hz] at e; exact absurd e.symm hy
      · rintro ⟨z, hz, e⟩; exact ⟨z, List.mem_append_left _ hz, e⟩
    unfold fnS
    rw [hb, him _ _ h, if_neg hy]
def encD (l : Prs) : List (List V) := l.map fun p => [.s p.1, .s p.2, .b true]
theorem mget_prs (a b : ByteArray) : ∀ l : Prs, ((mget [.str, .str] [V.b false] [V.s a, V.s b] (encD l)).headD V.none).bool = knP l a b
  | [] => rfl
  | p :: l => by
    have ih := mget_prs a b l
    have e : encD (p :: l) = [V.s p.1, V.s p.2, V.b true] :: encD l := rfl
    unfold mget at ih ⊢
    rw [e, mlook, keyEq2']
    have e2 : knP (p :: l) a b = ((decide (p.1 = a) && decide (p.2 = b)) || knP l a b) := rfl
    rw [e2]
    have e3 : (decide (a = p.1) && decide (b = p.2)) = (decide (p.1 = a) && decide (p.2 = b)) := by
      rw [Bool.eq_iff_iff]; simp only [Bool.and_eq_true, decide_eq_true_iff]
      exact ⟨fun h => ⟨h.1.symm, h.2.symm⟩, fun h => ⟨h.1.symm, h.2.symm⟩⟩
    rw [e3]
    cases h : (decide (p.1 = a) && decide (p.2 = b)) with
    | true => rfl
    | false => rw [Bool.false_or]; exact ih
theorem mset_prs (a b : ByteArray) : ∀ l : Prs, (a, b) ∉ l → mset [.str, .str] [V.s a, V.s b] [V.b true] (encD l) = encD (l ++ [(a, b)])
  | [], _ => rfl
  | p :: l, h => by
    have e : encD (p :: l) = [V.s p.1, V.s p.2, V.b true] :: encD l := rfl
    rw [e, mset, keyEq2']
    have hne : (decide (a = p.1) && decide (b = p.2)) = false := by
      rw [← Bool.not_eq_true, Bool.and_eq_true, decide_eq_true_iff, decide_eq_true_iff]
      rintro ⟨rfl, rfl⟩; exact h (by simp)
    rw [hne]
    show _ :: mset _ _ _ (encD l) = _
    rw [mset_prs a b l fun h' => h (List.mem_cons_of_mem _ h')]
    rfl
def encW (l : List ByteArray) : List (List V) := l.map fun x => [.s x, .b true]
theorem mget_seen (x : ByteArray) : ∀ l : List ByteArray, ((mget [.str] [V.b false] [V.s x] (encW l)).headD V.none).bool = hasN l x
  | [] => rfl
  | y :: l => by
    have ih := mget_seen x l
    have e : encW (y :: l) = [V.s y, V.b true] :: encW l := rfl
    unfold mget at ih ⊢
    rw [e, mlook, keyEq1]
    have e2 : hasN (y :: l) x = (decide (y = x) || hasN l x) := rfl
    rw [e2]
    by_cases h : x = y
    · rw [decide_eq_true h, decide_eq_true h.symm]; rfl
    · rw [decide_eq_false h, decide_eq_false fun e => h e.symm, Bool.false_or]; exact ih
theorem mset_seen (x : ByteArray) : ∀ l : List ByteArray, x ∉ l → mset [.str] [V.s x] [V.b true] (encW l) = encW (l ++ [x])
  | [], _ => rfl
  | y :: l, h => by
    have e : encW (y :: l) = [V.s y, V.b true] :: encW l := rfl
    rw [e, mset, keyEq1, decide_eq_false fun e => h (by simp [e])]
    show _ :: mset _ _ _ (encW l) = _
    rw [mset_seen x l fun h' => h (List.mem_cons_of_mem _ h')]
    rfl
abbrev uniH (m : Su) (l : Prs) : Heap := [.cells [.mp (.own 1), .mp (.own 2)], .map mt_9_24 (encS m), .map mt_82_4 (encD l)]
theorem unify_head_ok (m : Su) (l : Prs) {t h : Tm} (hd : Head (fnS m) t h) (Q : D → Heap → Prop) (hQ : Q (tD h) (uniH m l)) : cl f_unify_unifier_head [.ptr (.own 0) 0, tD t] (uniH m l) Q := by
  refine C_unify_unifier_head _ _ _ _ _ _ ?_
  unfold vc_unify_unifier_head
  induction hd with
  | fn t hv =>
    refine ⟨1, ?_⟩
    rw [lp_unify_unifier_head_0_s]
    exact iff_intro (fun h => by rw [show (V.b t.var).bool = t.var from rfl, hv] at h; cases h) fun _ => ⟨⟨trivial, trivial, trivial, trivial⟩, hQ⟩
  | free t hv hs =>
    refine ⟨1, ?_⟩
    rw [lp_unify_unifier_head_0_s]
    refine iff_intro (fun _ => ?_) (fun h => by rw [show (V.b t.var).bool = t.var from rfl, hv] at h; cases h)
    rw [mhas_su, fnS_none.1 hs]
    exact ⟨⟨trivial, trivial, trivial, trivial⟩, hQ⟩
  | step t u h hv hs _ ih =>
    obtain ⟨k, hk⟩ := ih hQ
    obtain ⟨hb, hi⟩ := fnS_some hs
    refine ⟨k + 1, ?_⟩
    rw [lp_unify_unifier_head_0_s]
    refine iff_intro (fun _ => ?_) (fun h => by rw [show (V.b t.var).bool = t.var from rfl, hv] at h; cases h)
    rw [mhas_su, hb, mget_su _ hb, hi, Tm.enc_eq]
    exact hk
def SeenOk (σ : Bd) (v : ByteArray) (P seen : List ByteArray) : Prop := ∀ w ∈ seen, w ∈ P ∨ ¬ Occ σ v (Tm.vr w)
abbrev occH (m : Su) (l : Prs) (seen : List ByteArray) : Heap := [.cells [.mp (.own 1), .mp (.own 2)], .map mt_9_24 (encS m), .map mt_82_4 (encD l), .map mt_9_4 (encW seen)]
abbrev occH7 (m : Su) (l : Prs) (v : ByteArray) (seen : List ByteArray) : Heap := [.cells [.ptr (.own 1) 0], .cells [.mp (.own 2), .mp (.own 3)], .map mt_9_24 (encS m), .map mt_82_4 (encD l), .cells [sD v], .cells [.mp (.own 6)], .map mt_9_4 (encW seen)]
def OccC (m : Su) (l : Prs) (v : ByteArray) (P : List ByteArray) (t : Tm) (seen : List ByteArray) : Prop :=
  ∀ Q : D → Heap → Prop, (Occ (fnS m) v t → ∀ seen', Q (bD true) (occH m l seen')) → (¬ Occ (fnS m) v t → ∀ seen', SeenOk (fnS m) v P seen' → Q (bD false) (occH m l seen')) →
    cl f_unify_unifier_occurs [.ptr (.own 0) 0, sD v, tD t, .mp (.own 3)] (occH m l seen) Q
theorem occ_args {m : Su} {l : Prs} {v : ByteArray} {P : List ByteArray} {t : Tm} (hv : t.var = false) {seen : List ByteArray} (hs : SeenOk (fnS m) v P seen) (h : ∀ a ∈ t.args, ∀ seen', SeenOk (fnS m) v P seen' → OccC m l v P a seen') : OccC m l v P t seen := by
  intro Q hQ1 hQ2
  refine C_unify_unifier_occurs _ _ _ _ _ _ _ _ ?_
  unfold vc_unify_unifier_occurs
  refine iff_intro (fun hv' => by rw [hv] at hv'; cases hv') fun _ => ?_
  refine C_slices_ContainsFunc_Term_unifyunifieroccurs1 _ _ _ _ _ _ ?_
  unfold vc_slices_ContainsFunc_Term_unifyunifieroccurs1
  refine C_slices_IndexFunc_Term_unifyunifieroccurs1 _ _ _ _ _ _ fun hb => ?_
  have hl := Tm.encL_length t.args
  rw [hl] at hb ⊢
  refine range_slices_IndexFunc_Term_unifyunifieroccurs1_0 _ _ _ hb (fun k h2 h3 h4 h6 => h2 = encS m ∧ h3 = encD l ∧ h4 = V.s v ∧ ∃ seen', h6 = encW seen' ∧ SeenOk (fnS m) v P seen' ∧ ∀ i (hi : i < t.args.length), i < k → ¬ Occ (fnS m) v t.args[i]) (fun k h2 h3 h4 h6 hk hJ K hK => ?_) (fun h2 h3 h4 h6 hJ => ?_) 0 _ _ _ _ (Nat.zero_le _) ⟨rfl, rfl, rfl, seen, rfl, hs, fun i _ h => by omega⟩
  · obtain ⟨rfl, rfl, rfl, seen', rfl, hs', hno⟩ := hJ
    simp only [Tm.encL_getD _ k hk, Tm.enc_eq, List.drop_zero, List.headD_cons, List.tail_cons]
    have hmem := List.getElem_mem hk
    refine ⟨by omega, by omega, C_unify_unifier_occurs_1 _ _ _ _ _ _ _ _ ?_⟩
    unfold vc_unify_unifier_occurs_1
    refine h _ hmem seen' hs' _ (fun ho seen2 => ⟨rfl, rfl, trivial, rfl, rfl, iff_intro (fun _ => ⟨trivial, rfl, rfl, trivial, rfl, rfl, trivial, ?_⟩) fun h => by cases h⟩) (fun ho seen2 hs2 => ⟨rfl, rfl, trivial, rfl, rfl, iff_intro (fun h => by cases h) fun _ => hK _ _ _ _ ⟨rfl, rfl, rfl, seen2, rfl, hs2, fun i hi hik => ?_⟩⟩)
    · show Q (.v .bool (V.b (decide ((k : Int) ≥ 0)))) (occH m l seen2)
      rw [decide_eq_true (show (k : Int) ≥ 0 by omega)]
      exact hQ1 ((Occ.fn hv).2 ⟨_, hmem, ho⟩) seen2
    · rcases Nat.lt_succ_iff_lt_or_eq.1 hik with h8 | h8
      · exact hno i hi h8
      · subst h8; exact ho
  · obtain ⟨rfl, rfl, rfl, seen', rfl, hs', hno⟩ := hJ
    refine ⟨trivial, rfl, rfl, trivial, rfl, rfl, trivial, ?_⟩
    exact hQ2 (fun ho => by
      obtain ⟨a, ha, ho⟩ := (Occ.fn hv).1 ho
      obtain ⟨i, hi, rfl⟩ := List.mem_iff_getElem.1 ha
      exact hno i hi hi ho) seen' hs'
theorem unify_occurs_ok (m : Su) (l : Prs) (v : ByteArray) {θ : ByteArray → Tm} {r : ByteArray → Nat} (ht : Tri (fnS m) θ r) (hv : fnS m v = none) : ∀ (n : Nat) (t : Tm), (∀ y ∈ Tm.vs t, r y < n) → ∀ (P seen : List ByteArray), SeenOk (fnS m) v P seen → (∀ w ∈ P, ¬ Occ (fnS m) w t) → OccC m l v P t seen := by
  intro n
  induction n with
  | zero =>
    refine Tm.ind fun t ih hr P seen hs hP => ?_
    cases hvt : t.var with
    | true => exact absurd (hr _ ((Tm.vs_var hvt).2 rfl)) (by omega)
    | false =>
      exact occ_args hvt hs fun a ha s' hs' => ih a ha (fun y hy => hr y ((Tm.vs_fn hvt).2 ⟨_, ha, hy⟩)) P s' hs' fun w hw ho => hP w hw ((Occ.fn hvt).2 ⟨_, ha, ho⟩)
  | succ n ihn =>
    refine Tm.ind fun t ih hr P seen hs hP => ?_
    cases hvt : t.var with
    | false =>
      exact occ_args hvt hs fun a ha s' hs' => ih a ha (fun y hy => hr y ((Tm.vs_fn hvt).2 ⟨_, ha, hy⟩)) P s' hs' fun w hw ho => hP w hw ((Occ.fn hvt).2 ⟨_, ha, ho⟩)
    | true =>
      intro Q hQ1 hQ2
      have hxr := hr _ ((Tm.vs_var hvt).2 rfl)
      refine C_unify_unifier_occurs _ _ _ _ _ _ _ _ ?_
      unfold vc_unify_unifier_occurs
      refine iff_intro (fun _ => ?_) (fun h => by rw [hvt] at h; cases h)
      rw [ba_beq]
      refine iff_dec (fun h => ⟨trivial, hQ1 ((Occ.vr hvt).2 (.inl h.symm)) seen⟩) (fun h => ?_)
      rw [mhas_su]
      refine iff_not (iff_intro (fun hb => ?_) (fun hb => ⟨trivial, hQ2 (fun ho => ?_) seen hs⟩))
      · have hsm := fnS_of hb
        rw [mget_seen]
        refine iff_intro (fun h3 => ⟨trivial, hQ2 (fun ho => ?_) seen hs⟩) (fun h3 => ?_)
        · rcases hs _ (hasN_iff.1 h3) with h4 | h4
          · exact hP _ h4 ((Occ.vr hvt).2 (.inl rfl))
          · exact h4 (ho.congr fun z hz => by rw [(Tm.vs_var hvt).1 hz]; simp [Tm.vs])
        · rw [jp_unify_unifier_occurs_0_s]
          unfold je_unify_unifier_occurs_0
          rw [mget_su _ hb, Tm.enc_eq, mset_seen _ _ (hasN_false.1 h3)]
          have hocc : Occ (fnS m) v t ↔ Occ (fnS m) v (Tm.image m t.name) := by
            rw [Occ.vr hvt]
            constructor
            · rintro (e | ⟨u, hu, ho⟩)
              · exact absurd e.symm h
              · rw [hsm] at hu; cases hu; exact ho
            · exact fun ho => .inr ⟨_, hsm, ho⟩
          refine ihn (Tm.image m t.name) (fun y hy => by have := ht.rk _ _ hsm y hy; omega) (t.name :: P) (seen ++ [t.name]) (fun w hw => ?_) (fun w hw ho => ?_) _ (fun ho s' => ⟨rfl, rfl, trivial, hQ1 (hocc.2 ho) s'⟩) (fun ho s' hs' => ⟨rfl, rfl, trivial, hQ2 (fun h' => ho (hocc.1 h')) s' fun w hw => ?_⟩)
          · rcases List.mem_append.1 hw with h4 | h4
            · exact (hs w h4).imp (List.mem_cons_of_mem _) id
            · rw [List.mem_singleton.1 h4]; exact .inl (by simp)
          · rcases List.mem_cons.1 hw with rfl | hw
            · exact Occ.acyc ht hsm ho
            · exact hP w hw ((Occ.vr hvt).2 (.inr ⟨_, hsm, ho⟩))
          · rcases hs' w hw with h4 | h4
            · rcases List.mem_cons.1 h4 with rfl | h4
              · exact .inr fun h5 => ho (hocc.1 (h5.congr fun z hz => by rw [(Tm.vs_var rfl).1 hz]; exact (Tm.vs_var hvt).2 rfl))
              · exact .inl h4
            · exact .inr h4
      · rcases (Occ.vr hvt).1 ho with e | ⟨u, hu, _⟩
        · exact h e.symm
        · rw [fnS_none.2 hb] at hu; cases hu
theorem unify_set_ok (m : Su) (l : Prs) {θ : ByteArray → Tm} {r : ByteArray → Nat} (ht : Tri (fnS m) θ r) (v : ByteArray) (t : Tm) (hv : fnS m v = none) (Q : D → Heap → Prop)
    (h1 : Occ (fnS m) v t → Q (bD false) (uniH m l)) (h2 : ¬ Occ (fnS m) v t → Q (bD true) (uniH (m ++ [(v, t)]) l)) : cl f_unify_unifier_set [.ptr (.own 0) 0, sD v, tD t] (uniH m l) Q := by
  refine C_unify_unifier_set _ _ _ _ _ _ _ ?_
  unfold vc_unify_unifier_set
  refine unify_occurs_ok m l v ht hv (maxR r (Tm.vs t) + 1) t (fun y hy => by have := maxR_mem (r := r) hy; omega) [] [] (fun w hw => by simp at hw) (fun w hw => by simp at hw) _ (fun ho s' => ⟨rfl, rfl, iff_intro (fun _ => ⟨trivial, h1 ho⟩) fun h => by cases h⟩) (fun ho s' _ => ⟨rfl, rfl, iff_intro (fun h => by cases h) fun _ => ⟨trivial, ?_⟩⟩)
  have e : mset [.str] [V.s v] [V.s t.name, V.b t.var, V.l (Tm.encL t.args)] (encS m) = encS (m ++ [(v, t)]) := by
    rw [← Tm.enc_eq]; exact mset_su v t m (fnS_none.1 hv)
  show Q (bD true) [.cells [.mp (.own 1), .mp (.own 2)], .map mt_9_24 (mset [.str] [V.s v] [V.s t.name, V.b t.var, V.l (Tm.encL t.args)] (encS m)), .map mt_82_4 (encD l)]
  rw [e]; exact h2 ho
end Go.Proofs.Ytgohjdaepcmonaa
