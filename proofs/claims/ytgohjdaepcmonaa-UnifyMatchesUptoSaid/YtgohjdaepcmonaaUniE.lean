import Derived.Test.YtgohjdaepcmonaaUniD
import Derived.Test.YtgohjdaepcmonaaUniV
set_option linter.unusedVariables false
set_option linter.unusedSimpArgs false
namespace Go.Proofs.Ytgohjdaepcmonaa
open Go.Abs
abbrev Kn := List (ByteArray × Int × Int)
def encK (l : Kn) : List (List V) := l.map fun p => [.s p.1, .i p.2.1, .i p.2.2]
def hasK (l : Kn) (x : ByteArray) : Bool := l.any fun p => decide (p.1 = x)
theorem hasK_iff {l : Kn} {x : ByteArray} : hasK l x = true ↔ ∃ p ∈ l, p.1 = x := by
  unfold hasK; rw [List.any_eq_true]; simp
theorem mlook_kn (x : ByteArray) : ∀ l : Kn, (hasK l x = false ∧ mlook [.str] [V.s x] (encK l) = none) ∨ ∃ p ∈ l, p.1 = x ∧ hasK l x = true ∧ mlook [.str] [V.s x] (encK l) = some [.i p.2.1, .i p.2.2]
  | [] => .inl ⟨rfl, rfl⟩
  | p :: l => by
    have henc : encK (p :: l) = [V.s p.1, V.i p.2.1, V.i p.2.2] :: encK l := rfl
    rw [henc, mlook, keyEq1]
    by_cases h : x = p.1
    · exact .inr ⟨p, by simp, h.symm, hasK_iff.2 ⟨p, by simp, h.symm⟩, by rw [decide_eq_true h]; rfl⟩
    · have hh : hasK (p :: l) x = hasK l x := by
        show (decide (p.1 = x) || _) = _
        rw [decide_eq_false fun e => h e.symm, Bool.false_or]; rfl
      rw [decide_eq_false h, hh]
      rcases mlook_kn x l with h1 | ⟨q, hq, h2, h3, h4⟩
      · exact .inl h1
      · exact .inr ⟨q, List.mem_cons_of_mem _ hq, h2, h3, h4⟩
theorem mset_kn (x : ByteArray) (a b : Int) : ∀ l : Kn, ∃ l' : Kn, mset [.str] [V.s x] [V.i a, V.i b] (encK l) = encK l' ∧ ∀ p ∈ l', p ∈ l ∨ p = (x, a, b)
  | [] => ⟨[(x, a, b)], rfl, fun p hp => .inr (List.mem_singleton.1 hp)⟩
  | p :: l => by
    have henc : encK (p :: l) = [V.s p.1, V.i p.2.1, V.i p.2.2] :: encK l := rfl
    rw [henc, mset, keyEq1]
    by_cases h : x = p.1
    · rw [decide_eq_true h]
      refine ⟨(x, a, b) :: l, rfl, fun q hq => ?_⟩
      rcases List.mem_cons.1 hq with rfl | hq
      · exact .inr rfl
      · exact .inl (List.mem_cons_of_mem _ hq)
    · rw [decide_eq_false h]
      obtain ⟨l', h1, h2⟩ := mset_kn x a b l
      refine ⟨p :: l', ?_, fun q hq => ?_⟩
      · show _ :: mset _ _ _ (encK l) = _
        rw [h1]; rfl
      · rcases List.mem_cons.1 hq with rfl | hq
        · exact .inl (by simp)
        · exact (h2 q hq).imp (List.mem_cons_of_mem _) id
def capS (n : Nat) : Int := if n ≤ 4001 then n else 4001
theorem capS_add (a b : Nat) : (if (4001 : Int) < capS a + capS b then (4001 : Int) else capS a + capS b) = capS (a + b) := by
  unfold capS; split <;> split <;> split <;> split <;> omega
theorem capS_le (n : Nat) : 0 ≤ capS n ∧ capS n ≤ 4001 := by unfold capS; split <;> omega
def KnOk (θ : ByteArray → Tm) (l : Kn) : Prop := ∀ p ∈ l, p.2.1 = capS (θ p.1).size ∧ p.2.2 = (θ p.1).depth
abbrev meaH (m : Su) (l : Prs) (kn : Kn) : Heap := [.cells [.mp (.own 1), .mp (.own 2)], .map mt_9_24 (encS m), .map mt_82_4 (encD l), .map mt_9_80 (encK kn)]
def dlim : Nat := 1152921504606846976
theorem dlim_eq : dlim = 1152921504606846976 := rfl
def MeaC (m : Su) (l : Prs) (θ : ByteArray → Tm) (t : Tm) (kn : Kn) : Prop :=
  ∀ Q : D → Heap → Prop, (∀ kn', KnOk θ kn' → Q (.agg [iD (capS (Tm.sub θ t).size), iD (Tm.sub θ t).depth]) (meaH m l kn')) → cl f_unify_unifier_measure [.ptr (.own 0) 0, tD t, .mp (.own 3)] (meaH m l kn) Q
theorem mea_args {m : Su} {l : Prs} {θ : ByteArray → Tm} {t : Tm} (hv : t.var = false) (hd : (Tm.sub θ t).depth ≤ dlim) {kn : Kn} (hk : KnOk θ kn) (h : ∀ a ∈ t.args, ∀ kn', KnOk θ kn' → MeaC m l θ a kn') : MeaC m l θ t kn := by
  intro Q hQ
  refine C_unify_unifier_measure_w _ _ _ _ _ _ _ ?_
  unfold vc_unify_unifier_measure_w
  refine iff_intro (fun hv' => by rw [hv] at hv'; cases hv') fun _ hb => ?_
  have hl := Tm.encL_length t.args
  rw [hl] at hb ⊢
  have hs : (Tm.sub θ t).size = 1 + Tm.sizeL (t.args.map (Tm.sub θ)) := by rw [Tm.sub_fn _ hv, Tm.size_eq]; rfl
  have hdd : (Tm.sub θ t).depth = Tm.depthL (t.args.map (Tm.sub θ)) + 1 := by rw [Tm.sub_fn _ hv, Tm.depth_eq]; rfl
  rw [dlim_eq] at hd
  refine range_unify_unifier_measure_w_0 Q _ _ _ _ hb (fun k y0 y1 h1 h2 h3 => y0 = capS (1 + Tm.sizeL ((t.args.map (Tm.sub θ)).take k)) ∧ y1 = (Tm.depthL ((t.args.map (Tm.sub θ)).take k) : Int) ∧ h1 = encS m ∧ h2 = encD l ∧ ∃ kn', h3 = encK kn' ∧ KnOk θ kn') (fun k y0 y1 h1 h2 h3 hk2 hJ K hK => ?_) (fun y0 y1 h1 h2 h3 hJ => ?_) 0 _ _ _ _ _ (Nat.zero_le _) ⟨rfl, rfl, rfl, rfl, kn, rfl, hk⟩
  · obtain ⟨rfl, rfl, rfl, rfl, kn', rfl, hkn'⟩ := hJ
    simp only [Tm.encL_getD _ k hk2, Tm.enc_eq, List.drop_zero, List.headD_cons, List.tail_cons]
    have hk' : k < (t.args.map (Tm.sub θ)).length := by simpa using hk2
    have h1 := Tm.sizeL_take _ k hk'
    have h3 := Tm.depthL_take _ k hk'
    rw [List.getElem_map] at h1 h3
    refine ⟨by omega, by omega, h _ (List.getElem_mem hk2) kn' hkn' _ fun kn2 hkn2 => ⟨rfl, rfl, hK _ _ _ _ _ ⟨?_, ?_, rfl, rfl, kn2, rfl, hkn2⟩⟩⟩
    · show (if (4001 : Int) < IntKind.i64.wrap (capS _ + capS (Tm.sub θ t.args[k]).size) then (4001 : Int) else IntKind.i64.wrap (capS _ + capS (Tm.sub θ t.args[k]).size)) = _
      have c1 := capS_le (1 + Tm.sizeL ((t.args.map (Tm.sub θ)).take k))
      have c2 := capS_le (Tm.sub θ t.args[k]).size
      rw [wrap_in _ (by omega) (by omega), capS_add, h1, Nat.add_assoc]
    · show (if ((Tm.sub θ t.args[k]).depth : Int) > _ then ((Tm.sub θ t.args[k]).depth : Int) else _) = _
      rw [h3]; split <;> omega
  · obtain ⟨rfl, rfl, rfl, rfl, kn', rfl, hkn'⟩ := hJ
    rw [List.take_of_length_le (by simp)]
    have hQ := hQ kn' hkn'
    rw [hs, hdd] at hQ
    rw [wrap_in _ (by omega) (by omega)]
    exact ⟨⟨trivial, trivial, trivial⟩, hQ⟩
theorem unify_measure_ok (m : Su) (l : Prs) {θ : ByteArray → Tm} {r : ByteArray → Nat} (ht : Tri (fnS m) θ r) (hθ : ∀ x, (θ x).depth ≤ dlim) : ∀ (n : Nat) (t : Tm), (∀ y ∈ Tm.vs t, r y < n) → (Tm.sub θ t).depth ≤ dlim → ∀ kn, KnOk θ kn → MeaC m l θ t kn := by
  intro n
  induction n with
  | zero =>
    refine Tm.ind fun t ih hr hd kn hk => ?_
    cases hv : t.var with
    | true => exact absurd (hr _ ((Tm.vs_var hv).2 rfl)) (by omega)
    | false =>
      refine mea_args hv hd hk fun a ha kn' hk' => ih a ha (fun y hy => hr y ((Tm.vs_fn hv).2 ⟨_, ha, hy⟩)) ?_ kn' hk'
      have := Tm.depthL_mem (List.mem_map.2 ⟨a, ha, rfl⟩ : Tm.sub θ a ∈ t.args.map (Tm.sub θ))
      have e : (Tm.sub θ t).depth = Tm.depthL (t.args.map (Tm.sub θ)) + 1 := by rw [Tm.sub_fn _ hv, Tm.depth_eq]; rfl
      omega
  | succ n ihn =>
    refine Tm.ind fun t ih hr hd kn hk => ?_
    cases hv : t.var with
    | false =>
      refine mea_args hv hd hk fun a ha kn' hk' => ih a ha (fun y hy => hr y ((Tm.vs_fn hv).2 ⟨_, ha, hy⟩)) ?_ kn' hk'
      have := Tm.depthL_mem (List.mem_map.2 ⟨a, ha, rfl⟩ : Tm.sub θ a ∈ t.args.map (Tm.sub θ))
      have e : (Tm.sub θ t).depth = Tm.depthL (t.args.map (Tm.sub θ)) + 1 := by rw [Tm.sub_fn _ hv, Tm.depth_eq]; rfl
      omega
    | true =>
      intro Q hQ
      have hxr := hr _ ((Tm.vs_var hv).2 rfl)
      rw [Tm.sub_var _ hv] at hQ
      refine C_unify_unifier_measure_w _ _ _ _ _ _ _ ?_
      unfold vc_unify_unifier_measure_w
      refine iff_intro (fun _ => ?_) (fun h => by rw [hv] at h; cases h)
      rw [mhas_su]
      refine iff_not (iff_intro (fun hb => ?_) (fun hb => ⟨⟨trivial, trivial, trivial⟩, ?_⟩))
      · have hs := fnS_of hb
        rcases mlook_kn t.name kn with ⟨h1, h2⟩ | ⟨p, hp, h1, h2, h3⟩
        · have e1 : mhas [.str] [V.s t.name] (encK kn) = false := by unfold mhas; rw [h2]; rfl
          rw [e1, mget_su _ hb, Tm.enc_eq]
          have e2 : θ t.name = Tm.sub θ (Tm.image m t.name) := ht.bnd _ _ hs
          refine iff_intro (fun h => by cases h) fun _ => ?_
          refine ihn (Tm.image m t.name) (fun y hy => by have := ht.rk _ _ hs y hy; omega) (by rw [← e2]; exact hθ _) kn hk _ fun kn' hk' => ⟨rfl, rfl, ⟨trivial, trivial, trivial⟩, ?_⟩
          obtain ⟨kn2, h4, h5⟩ := mset_kn t.name (capS (Tm.sub θ (Tm.image m t.name)).size) ((Tm.sub θ (Tm.image m t.name)).depth : Int) kn'
          show Q _ [_, _, _, .map mt_9_80 (mset [.str] [V.s t.name] [V.i (capS (Tm.sub θ (Tm.image m t.name)).size), V.i ((Tm.sub θ (Tm.image m t.name)).depth : Int)] (encK kn'))]
          rw [h4]
          have hQ := hQ kn2 fun p hp => by
            rcases h5 p hp with h | rfl
            · exact hk' p h
            · rw [e2]; exact ⟨rfl, rfl⟩
          rw [e2] at hQ
          exact hQ
        · have e1 : mhas [.str] [V.s t.name] (encK kn) = true := by unfold mhas; rw [h3]; rfl
          have e2 : mget [.str] [V.i 0, V.i 0] [V.s t.name] (encK kn) = [V.i p.2.1, V.i p.2.2] := by unfold mget; rw [h3]; rfl
          rw [e1, e2]
          obtain ⟨k1, k2⟩ := hk p hp
          rw [h1] at k1 k2
          have hQ := hQ kn hk
          rw [← k1, ← k2] at hQ
          exact ⟨⟨trivial, trivial, trivial⟩, hQ⟩
      · have hQ := hQ kn hk
        rw [ht.fre _ (fnS_none.2 hb)] at hQ
        exact hQ
end Go.Proofs.Ytgohjdaepcmonaa
