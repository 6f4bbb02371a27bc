import Derived.Test.YtgohjdaepcmonaaT
import Derived.Test.YtgohjdaepcmonaaInsB
set_option linter.unusedVariables false
set_option maxRecDepth 20000
namespace Go.Proofs.Ytgohjdaepcmonaa
open Go Go.Abs Go.Ins
theorem ins_lf : (lfs tab 48).length = 4 := by kernel_rfl
theorem ins_close {S : Sig} {xs ys : List (List V)} {n : Nat} (hwf : Wf (lfs tab) S) (hH : S.H = [.row 48 xs]) (hL : S.L = []) (hla : S.la = []) (hn : xs.length = n) (hyn : ys.length = n + 1) (hyl : ∀ p, p < n + 1 → (ys.getD p []).length = 4)
    (g cap : Nat) (cur : Array Value) (w' : World) (hg : w'.heap[g]? = some (.cells cur 48 (0, 0))) (hcs : cur.size = cap * 4) (hcap : n + 1 ≤ cap) (hmax : cap ≤ maxLen)
    (hgb : (∃ y, S.blk (.own 0) = some y ∧ g = y.1) ∨ S.w.heap.size ≤ g) (hold : ∀ k, k < S.w.heap.size → (∀ y, S.blk (.own 0) = some y → y.1 ≠ k) → w'.heap[k]? = S.w.heap[k]?) (hsz : S.w.heap.size ≤ w'.heap.size)
    (hos : w'.os = S.w.os) (htape : w'.tape = S.w.tape) (hout : w'.output = S.w.output)
    (hrep : ∀ p j, p < n + 1 → j < 4 → RepK (lfs tab) S.w S.F ((lfs tab 48).getD j .oth) ((ys.getD p []).getD j V.none) (cur.getD (p * 4 + j) undef))
    {Q : D → Heap → Prop} (hQ : Q (.osl (.own 0) (n + 1)) [.row 48 ys]) {e : Ending} (he : e = .returned (.slice (some ⟨g, 0, none⟩) (n + 1) cap)) :
    ∃ v r S', e = .returned v ∧ S'.w = w' ∧ S'.L = [] ∧ S'.la = [] ∧ Wf (lfs tab) S' ∧ RepD (lfs tab) S' r v ∧ D.local r = false ∧ Ext S S' ∧ Q r S'.H := by
  have hblkl : ∀ i, S.blk (.loc i) = none := fun i => by show S.la.getD i none = none; rw [hla]; rfl
  have hrel : Rel (lfs tab) ⟨[], []⟩ S.H { tmps := #[], defers := [] } S := ⟨rfl, hL, rfl, rfl, fun j => by
    show RepD _ S (([] : List D).getD j .undef) _
    rw [List.getD_nil]; exact .undef _, hwf⟩
  have hinv : Inv S S := ⟨Ext.refl S, fun i bc h => by rw [hblkl] at h; cases h⟩
  have hhas : S.has (.own 0) := by show 0 < S.H.length; rw [hH]; simp
  have hobj : S.obj (.own 0) = .row 48 xs := by show S.H.getD 0 .dead = _; rw [hH]; rfl
  have hglt : g < w'.heap.size := by
    rcases Nat.lt_or_ge g w'.heap.size with h5 | h5
    · exact h5
    · rw [Array.getElem?_eq_none h5] at hg; cases hg
  obtain ⟨j1, j2⟩ := S.upd_at hwf hhas (.row 48 ys) (some (g, cap)) w'
  obtain ⟨g1, g2, g3⟩ := Rel.upd hrel hinv (.own 0) (.row 48 ys) (some (g, cap)) w' hhas hsz (fun b hb hne => hold b hb hne) hos htape hout
    (fun x hx => by
      cases hx
      refine ⟨?_, hglt⟩
      rcases hgb with ⟨y, h5, h6⟩ | h5
      · exact .inl ⟨y, h5, h6⟩
      · exact .inr h5)
    (by
      refine ⟨fun bc j3 _ => ?_, fun e' xs' j3 => ?_, fun e' xs' j3 => (by rw [j1] at j3; cases j3)⟩
      · rw [j1] at j3; cases j3
      · rw [j1] at j3; cases j3
        exact ⟨xs, hobj, by omega, fun h5 => by omega⟩)
    (fun _ _ => trivial)
    (fun mD mK => .inr ⟨g, cap, cur, rfl, by rw [Sig.upd_w]; exact hg, by rw [ins_lf]; exact hcs, by omega, hmax, fun i hi => by rw [ins_lf]; exact hyl i (by omega),
      fun i j hi hj => by
        rw [Sig.upd_w, Sig.upd_F]
        rw [ins_lf] at hj ⊢
        exact mK (hrep i j (by omega) hj)⟩)
  refine ⟨_, .osl (.own 0) (n + 1), S.upd (.own 0) (.row 48 ys) (some (g, cap)) w', he, Sig.upd_w _ _ _ _ _, hL, hla, g1.wf, ?_, rfl, g2.ext, ?_⟩
  · refine .osl _ _ _ ⟨?_, rfl⟩ fun e' xs' j3 => ?_
    · show 0 < (S.upd (.own 0) (.row 48 ys) (some (g, cap)) w').H.length
      rw [Sig.upd_len, hH]; simp
    · rw [j1] at j3
      cases j3
      exact ⟨by omega, fun _ => by rw [j2]; rfl⟩
  · have : (S.upd (.own 0) (.row 48 ys) (some (g, cap)) w').H = [.row 48 ys] := by show S.H.set 0 _ = _; rw [hH]; rfl
    rw [this]; exact hQ
theorem ins_cells {L us C : List Value} {n i : Nat} (hi : i ≤ n) (hL : n * 4 ≤ L.length) (hu : us.length = 4) (hC : C.take ((n + 1) * 4) = L.take (i * 4) ++ (us ++ (L.take (n * 4)).drop (i * 4))) (p j : Nat) (hp : p < n + 1) (hj : j < 4) :
    C.getD (p * 4 + j) undef = if p < i then L.getD (p * 4 + j) undef else if p = i then us.getD j undef else L.getD ((p - 1) * 4 + j) undef := by
  rw [← getD_take C ((n + 1) * 4) (p * 4 + j) undef (by omega), hC]
  have hl : (L.take (i * 4)).length = i * 4 := by rw [List.length_take]; omega
  split
  · rename_i h
    rw [List.getD_eq_getElem?_getD, List.getElem?_append_left (by omega), ← List.getD_eq_getElem?_getD, getD_take _ _ _ _ (by omega)]
  · split
    · rename_i h1 h2
      subst h2
      rw [List.getD_eq_getElem?_getD, List.getElem?_append_right (by omega), List.getElem?_append_left (by omega), ← List.getD_eq_getElem?_getD, hl]
      congr 1; omega
    · rename_i h1 h2
      rw [List.getD_eq_getElem?_getD, List.getElem?_append_right (by omega), List.getElem?_append_right (by omega), hl, hu, ← List.getD_eq_getElem?_getD, getD_drop, getD_take _ _ _ _ (by omega)]
      congr 1; omega
theorem insL_getD (xs : List (List V)) (v : List V) (n i p : Nat) (hn : xs.length = n) (hi : i ≤ n) :
    (xs.take i ++ v :: xs.drop i).getD p [] = if p < i then xs.getD p [] else if p = i then v else xs.getD (p - 1) [] := by
  have hl : (xs.take i).length = i := by rw [List.length_take]; omega
  split
  · rw [List.getD_eq_getElem?_getD, List.getElem?_append_left (by omega), ← List.getD_eq_getElem?_getD, getD_take _ _ _ _ (by omega)]
  · split
    · rename_i h1 h2
      subst h2
      rw [List.getD_eq_getElem?_getD, List.getElem?_append_right (by omega), hl, Nat.sub_self]; rfl
    · rename_i h1 h2
      rw [List.getD_eq_getElem?_getD, List.getElem?_append_right (by omega), hl, show p - i = (p - i - 1) + 1 by omega, List.getElem?_cons_succ, ← List.getD_eq_getElem?_getD, getD_drop]
      congr 1; omega
theorem insert_ok (xs : List (List V)) (v : List V) (x : V) (n i : Nat) (hn : xs.length = n) (hi : i ≤ n) (hx : x.int = i) (hb : n ≤ 1099511627776) (hv : v.length = 4)
    {Q : D → Heap → Prop} (hQ : Q (.osl (.own 0) (n + 1)) [.row 48 (xs.take i ++ v :: xs.drop i)]) :
    cl f_slices_Insert_Bind [.osl (.own 0) n, .v (.int .i64) x, .v (.sl 48) (V.l [v])] [.row 48 xs] Q := by
  intro S vs hH hL hla hwf hlen hrep hloc
  obtain ⟨u0, u1, u2, rfl⟩ : ∃ u0 u1 u2, vs = [u0, u1, u2] := by
    match vs, hlen with
    | [u0, u1, u2], _ => exact ⟨u0, u1, u2, rfl⟩
  have h0 : RepD (lfs tab) S (.osl (.own 0) n) u0 := hrep 0
  have h1 : RepD (lfs tab) S (.v (.int .i64) x) u1 := hrep 1
  have h2 : RepD (lfs tab) S (.v (.sl 48) (V.l [v])) u2 := hrep 2
  clear hrep hlen
  have hobj : S.obj (.own 0) = .row 48 xs := by show S.H.getD 0 .dead = _; rw [hH]; rfl
  have e1 := h1.int_inv
  rw [hx] at e1
  subst e1
  have e0 : u0 = rowVal n (S.blk (.own 0)) := by
    cases h0 with
    | osl _ _ _ _ h => exact (h 48 xs hobj).2 hn.symm
  subst e0
  obtain ⟨bv, ov, cv, us, rfl, hF, hcell, hru⟩ : ∃ bv ov cv, ∃ us : Nat → Value, u2 = .slice (some ⟨bv, ov, none⟩) 1 cv ∧ S.F bv ∧ (∀ j, j < 4 → S.w.cell? ⟨bv, ov + j, none⟩ = some (us j)) ∧
      (∀ j, j < 4 → RepK (lfs tab) S.w S.F ((lfs tab 48).getD j .oth) (v.getD j V.none) (us j)) := by
    cases h2 with
    | v _ _ _ h =>
      generalize hy : V.l [v] = y at h
      cases h with
      | sl0 e x A c hl => subst hy; cases hl
      | sl e x b off c us hb hc hlen hcell hr =>
        subst hy
        refine ⟨b, off, c, us 0, rfl, hb, fun j hj => ?_, fun j hj => ?_⟩
        · have := hcell 0 j (by show 0 < 1; omega) (by rw [ins_lf]; exact hj)
          simpa using this
        · exact hr 0 j (by show 0 < 1; omega) (by rw [ins_lf]; exact hj)
  have hbvlt : bv < S.w.heap.size := (hwf.frozen bv hF).1
  have hone : ∀ u ∈ (List.range 4).map us, u.oneCell' = true := fun u hu => by
    obtain ⟨j, hj, rfl⟩ := List.mem_map.1 hu
    exact (hru j (List.mem_range.1 hj)).one
  have hul : ((List.range 4).map us).length = 4 := by simp
  have hus : ∀ j u, ((List.range 4).map us)[j]? = some u → S.w.cell? ⟨bv, ov + j, none⟩ = some u := fun j u hj => by
    have hlt : j < 4 := by have := (List.getElem?_eq_some_iff.1 hj).1; simpa using this
    rw [List.getElem?_map, List.getElem?_range hlt] at hj
    cases hj
    exact hcell j hlt
  have hus2 : ∀ j u, ((List.range 4).map us)[j]? = some u → S.w.cell? ((⟨bv, ov, none⟩ : Addr).add j) = some u := fun j u hj => by rw [add_plain]; exact hus j u hj
  have hug : ∀ j, j < 4 → ((List.range 4).map us).getD j undef = us j := fun j hj => by
    rw [List.getD_eq_getElem?_getD, List.getElem?_map, List.getElem?_range hj]; rfl
  -- what a row comes to
  have fin : ∀ (L : List Value) (g cap : Nat) (cur : Array Value) (w' : World) (e : Ending), (∀ p j, p < n → j < 4 → RepK (lfs tab) S.w S.F ((lfs tab 48).getD j .oth) ((xs.getD p []).getD j V.none) (L.getD (p * 4 + j) undef)) → (∀ p, p < n → (xs.getD p []).length = 4) → n * 4 ≤ L.length →
      w'.heap[g]? = some (.cells cur 48 (0, 0)) → cur.size = cap * 4 → n + 1 ≤ cap → cap ≤ maxLen → ((∃ y, S.blk (.own 0) = some y ∧ g = y.1) ∨ S.w.heap.size ≤ g) → (∀ k, k < S.w.heap.size → (∀ y, S.blk (.own 0) = some y → y.1 ≠ k) → w'.heap[k]? = S.w.heap[k]?) → S.w.heap.size ≤ w'.heap.size →
      w'.os = S.w.os → w'.tape = S.w.tape → w'.output = S.w.output → cur.toList.take ((n + 1) * 4) = L.take (i * 4) ++ ((List.range 4).map us ++ (L.take (n * 4)).drop (i * 4)) → e = .returned (.slice (some ⟨g, 0, none⟩) (n + 1) cap) →
      ∃ v r S', e = .returned v ∧ S'.w = w' ∧ S'.L = [] ∧ S'.la = [] ∧ Wf (lfs tab) S' ∧ RepD (lfs tab) S' r v ∧ D.local r = false ∧ Ext S S' ∧ Q r S'.H := by
    intro L g cap cur w' e hrL hxl hLl hg hcs hcap hmax hgb hold hsz hos htape hout hcur he
    refine ins_close hwf hH hL hla hn (by simp; omega) (fun p hp => ?_) g cap cur w' hg hcs hcap hmax hgb hold hsz hos htape hout (fun p j hp hj => ?_) hQ he
    · rw [insL_getD xs v n i p hn hi]
      split
      · exact hxl p (by omega)
      · split
        · exact hv
        · exact hxl _ (by omega)
    · rw [insL_getD xs v n i p hn hi]
      have hc := ins_cells hi hLl hul hcur p j hp hj
      have e2 : cur.toList.getD (p * 4 + j) undef = cur.getD (p * 4 + j) undef := by simp [List.getD_eq_getElem?_getD, Array.getD_eq_getD_getElem?]
      rw [← e2, hc]
      split
      · exact hrL p j (by omega) hj
      · split
        · rw [hug j hj]; exact hru j hj
        · exact hrL _ j (by omega) hj
  obtain ⟨i0, z, hi0, hz0, hz1, hz2, hz3⟩ := ins_info
  -- at the end: an append
  have atEnd : ∀ (L : List Value), i = n → (∀ p j, p < n → j < 4 → RepK (lfs tab) S.w S.F ((lfs tab 48).getD j .oth) ((xs.getD p []).getD j V.none) (L.getD (p * 4 + j) undef)) → (∀ p, p < n → (xs.getD p []).length = 4) → n * 4 ≤ L.length →
      S.w.ownsRow 0 48 4 (rowVal n (S.blk (.own 0))) n (L.take (n * 4)) → (rowVal n (S.blk (.own 0))).ownBlock = (S.blk (.own 0)).map (·.1) →
      ∃ v' w', (∀ ty, (Builtin.append_ #[25, 25] ty #[rowVal n (S.blk (.own 0)), .slice (some ⟨bv, ov, none⟩) 1 cv]).run Try.prog S.w = .ok v' w') ∧
        ∃ v r S', Ending.returned v' = .returned v ∧ S'.w = w' ∧ S'.L = [] ∧ S'.la = [] ∧ Wf (lfs tab) S' ∧ RepD (lfs tab) S' r v ∧ D.local r = false ∧ Ext S S' ∧ Q r S'.H := by
    intro L hin hrL hxl hLl hown hblk
    have hrun : ∀ ty, _ := fun ty => run_append_own_at (P := Try.prog) S.w 0 25 ty 48 i0 z 4 i0.bytes ins_t25 hi0 hz0 hz2 rfl hz1 (by omega) (rowVal n (S.blk (.own 0))) n (L.take (n * 4)) hown ⟨bv, ov, none⟩ 1 cv ((List.range 4).map us) (by simp) hus2 hone
      (by unfold maxLen; omega) (by have := Nat.mul_le_mul (show n + 1 ≤ 1099511627777 by omega) hz3; omega) (Nat.zero_le _)
    obtain ⟨v', w', hr, hown', hgr, hnil, hat⟩ := hrun 25
    refine ⟨v', w', fun ty => ?_, ?_⟩
    · obtain ⟨v2, w2, hr2, _⟩ := hrun ty
      exact hr
    obtain ⟨_, hown2⟩ := hown'
    rcases hown2 with ⟨_, h0⟩ | ⟨g, cap, cur, hv', _, hh', hncap, hcap, hcur, htake⟩
    · omega
    · have hblk' : (∃ y, S.blk (.own 0) = some y ∧ g = y.1) ∨ S.w.heap.size ≤ g := by
        rw [hv', hblk] at hat
        rcases hat with h5 | h5
        · left
          cases hb : S.blk (.own 0) with
          | none => rw [hb] at h5; simp [Value.ownBlock] at h5
          | some y => rw [hb] at h5; simp [Value.ownBlock] at h5; exact ⟨y, rfl, h5⟩
        · right
          have : g = S.w.heap.size := by simpa [Value.ownBlock] using h5
          omega
      refine fin L g cap cur w' _ hrL hxl hLl hh' hcur hncap hcap hblk' (fun k hk hne => hgr.block k hk (fun h5 => by
          rw [hblk] at h5
          cases hb2 : S.blk (.own 0) with
          | none => rw [hb2] at h5; cases h5
          | some y => rw [hb2] at h5; simp at h5; exact hne y hb2 h5.symm)) hgr.size hgr.os hgr.tape hgr.output ?_ (by rw [hv'])
      rw [htake, hin]
      simp
  rcases hwf.row hobj with ⟨hb0, hxs0⟩ | ⟨b, c, arr, hb0, hheap, hsz, hnc, hcm, hxl, hrep⟩
  · -- the nil row
    have hn0 : n = 0 := by rw [← hn, hxs0]; rfl
    subst hn0
    have hi0' : i = 0 := by omega
    subst hi0'
    obtain ⟨v', w', hr, hfin⟩ := atEnd [] rfl (fun p j hp => absurd hp (by omega)) (fun p hp => absurd hp (by omega)) (by simp) (by rw [hb0]; exact ⟨by simp, .inl ⟨rfl, rfl⟩⟩) (by rw [hb0]; rfl)
    rw [hb0] at hr ⊢
    refine (ins_end0 bv ov cv S.w w' v' hr).mono ?_
    rintro e w2 ⟨rfl, rfl⟩
    exact hfin
  · rw [ins_lf] at hsz hxl hrep
    rw [hn] at hnc hxl hrep
    have hLl : n * 4 ≤ arr.toList.length := by simp; omega
    have e2 : ∀ k, arr.toList.getD k undef = arr.getD k undef := fun k => by simp [List.getD_eq_getElem?_getD, Array.getD_eq_getD_getElem?]
    have hrL : ∀ p j, p < n → j < 4 → RepK (lfs tab) S.w S.F ((lfs tab 48).getD j .oth) ((xs.getD p []).getD j V.none) (arr.toList.getD (p * 4 + j) undef) := fun p j hp hj => by rw [e2]; exact hrep p j hp hj
    have hbne : bv ≠ b := fun h => (hwf.frozen bv hF).2 (.own 0) (b, c) hb0 h.symm
    have hblt : b < S.w.heap.size := hwf.lt (.own 0) (b, c) hb0
    have hrv : rowVal n (S.blk (.own 0)) = .slice (some ⟨b, 0, none⟩) n c := by rw [hb0]; rfl
    by_cases hin : i = n
    · obtain ⟨v', w', hr, hfin⟩ := atEnd arr.toList hin hrL hxl hLl (by rw [hrv]; exact ⟨by simp; omega, .inr ⟨b, c, arr, rfl, Nat.zero_le _, hheap, hnc, hcm, hsz, rfl⟩⟩) (by rw [hb0]; rfl)
      rw [hrv] at hr ⊢
      subst hin
      refine (ins_end b i c bv ov cv S.w w' v' hnc hr).mono ?_
      rintro e w2 ⟨rfl, rfl⟩
      exact hfin
    · have hlt : i < n := by omega
      rw [hrv]
      have hcsone : ∀ u ∈ (arr.toList.drop (i * 4)).take ((n - i) * 4), u.oneCell' = true := fun u hu => by
        obtain ⟨k, hk⟩ := List.mem_iff_getElem?.1 hu
        have hk2 : k < (n - i) * 4 := by
          rcases Nat.lt_or_ge k ((n - i) * 4) with h | h
          · exact h
          · rw [List.getElem?_eq_none (by rw [List.length_take]; omega)] at hk; cases hk
        rw [List.getElem?_take_of_lt hk2, List.getElem?_drop] at hk
        have h3 := hrL ((i * 4 + k) / 4) ((i * 4 + k) % 4) (by omega) (by omega)
        have h4 : arr.toList.getD (i * 4 + k) undef = u := by rw [List.getD_eq_getElem?_getD, hk]; rfl
        rw [show (i * 4 + k) / 4 * 4 + (i * 4 + k) % 4 = i * 4 + k by omega, h4] at h3
        exact h3.one
      have hC : ∀ (Z : List Value), i * 4 + 4 ≤ Z.length → Z.take (i * 4) = arr.toList.take (i * 4) → ((Z.take (i * 4) ++ ((List.range 4).map us ++ Z.drop (i * 4 + 4))).take ((i + 1) * 4) ++ ((arr.toList.drop (i * 4)).take ((n - i) * 4) ++ (Z.take (i * 4) ++ ((List.range 4).map us ++ Z.drop (i * 4 + 4))).drop ((i + 1) * 4 + ((arr.toList.drop (i * 4)).take ((n - i) * 4)).length))).take ((n + 1) * 4) =
          arr.toList.take (i * 4) ++ ((List.range 4).map us ++ (arr.toList.take (n * 4)).drop (i * 4)) := fun Z hZ hZt => by
        have e3 : (Z.take (i * 4) ++ ((List.range 4).map us ++ Z.drop (i * 4 + 4))).take ((i + 1) * 4) = arr.toList.take (i * 4) ++ (List.range 4).map us := by
          rw [hZt, ← List.append_assoc]
          exact List.take_left' (by rw [List.length_append, List.length_take, hul]; omega)
        rw [e3]
        have e4 : (arr.toList.take (n * 4)).drop (i * 4) = (arr.toList.drop (i * 4)).take ((n - i) * 4) := by
          rw [List.drop_take]; congr 1; omega
        rw [e4, show ∀ R : List Value, (arr.toList.take (i * 4) ++ (List.range 4).map us) ++ ((arr.toList.drop (i * 4)).take ((n - i) * 4) ++ R) = (arr.toList.take (i * 4) ++ ((List.range 4).map us ++ (arr.toList.drop (i * 4)).take ((n - i) * 4))) ++ R from fun R => by simp only [List.append_assoc]]
        exact List.take_left' (by simp only [List.length_append, List.length_take, List.length_drop, hul]; omega)
      obtain ⟨tA, kA, hsa, hkA⟩ : ∃ tA kA, S.w.shape? bv = some (tA, kA) ∧ kA ≠ 0 := by
        have h3 := hcell 0 (by omega)
        simp only [World.cell?] at h3
        split at h3
        · rename_i c' e' fz hh
          refine ⟨e', c'.size, by unfold Go.World.shape?; rw [hh], fun h4 => ?_⟩
          rw [Array.getElem?_eq_none (by omega)] at h3; cases h3
        · cases h3
      by_cases hroom : n + 1 ≤ c
      · refine (ins_shift b n c i bv ov cv arr 48 _ ((List.range 4).map us) S.w hlt hroom (by unfold maxLen at hcm; omega) hbne hheap hsz rfl hul hus hcsone hone tA kA hsa hkA).mono ?_
        rintro e w2 ⟨he, rfl⟩
        have hl1 : (arr.toList.take ((i + 1) * 4)).length = i * 4 + 4 := by rw [List.length_take]; omega
        have d1 : (arr.toList.take ((i + 1) * 4) ++ ((arr.toList.drop (i * 4)).take ((n - i) * 4) ++ arr.toList.drop ((i + 1) * 4 + ((arr.toList.drop (i * 4)).take ((n - i) * 4)).length))).take (i * 4) = arr.toList.take (i * 4) := by
          rw [List.take_append_of_le_length (by omega), List.take_take, Nat.min_eq_left (by omega)]
        have d2 : (arr.toList.take ((i + 1) * 4) ++ ((arr.toList.drop (i * 4)).take ((n - i) * 4) ++ arr.toList.drop ((i + 1) * 4 + ((arr.toList.drop (i * 4)).take ((n - i) * 4)).length))).drop (i * 4 + 4) = (arr.toList.drop (i * 4)).take ((n - i) * 4) ++ arr.toList.drop ((i + 1) * 4 + ((arr.toList.drop (i * 4)).take ((n - i) * 4)).length) :=
          List.drop_left' hl1
        rw [d1, d2]
        have e4 : (arr.toList.take (n * 4)).drop (i * 4) = (arr.toList.drop (i * 4)).take ((n - i) * 4) := by
          rw [List.drop_take]; congr 1; omega
        refine fin arr.toList b c _ _ _ hrL hxl hLl (setRow_heap _ b _ _ 48 (0, 0) (setRow_heap S.w.drew b arr _ 48 (0, 0) hheap)) ?_ hroom hcm (.inl ⟨_, hb0, rfl⟩) (fun k hk hne => ?_) ?_ rfl rfl rfl ?_ he
        · simp only [List.size_toArray, List.length_append, List.length_take, List.length_drop, hul]
          have : arr.toList.length = c * 4 := by simp [hsz]
          omega
        · have hkb : k ≠ b := fun h => hne _ hb0 h.symm
          rw [setRow_other _ _ _ _ hkb, setRow_other _ _ _ _ hkb]; rfl
        · rw [setRow_size, setRow_size]; exact Nat.le_refl _
        · rw [e4]
          show List.take _ (arr.toList.take (i * 4) ++ (_ ++ (_ ++ _))) = _
          rw [← List.append_assoc, ← List.append_assoc, List.append_assoc (arr.toList.take (i * 4))]
          exact List.take_left' (by simp only [List.length_append, List.length_take, List.length_drop, hul]; omega)
      · obtain ⟨G, ROW, hG1, hG2, hR1, hR2, hcalls⟩ := ins_grow b n c i bv ov cv arr 48 _ ((List.range 4).map us) S.w hlt hnc (by omega) hb hbne hheap hsz rfl hul hus hcsone hone
        refine hcalls.mono ?_
        rintro e w2 ⟨he, rfl⟩
        have hnew : ((S.w.alloc (.cells ROW 48)).drew).heap[S.w.heap.size]? = some (.cells ROW 48 (0, 0)) := alloc_new S.w _
        have hRl : ROW.toList.length = G * 4 := by simp [hR1]
        have hnew2 := setRow_heap (S.w.alloc (.cells ROW 48)).drew S.w.heap.size ROW (ROW.toList.take (i * 4) ++ ((List.range 4).map us ++ ROW.toList.drop (i * 4 + 4))).toArray 48 (0, 0) hnew
        refine fin arr.toList S.w.heap.size G _ _ _ hrL hxl hLl (setRow_heap _ _ _ _ 48 (0, 0) hnew2) ?_ hG1 hG2 (.inr (Nat.le_refl _)) (fun k hk hne => ?_) ?_ rfl rfl rfl ?_ he
        · simp only [List.size_toArray, List.length_append, List.length_take, List.length_drop, hul, hRl]
          omega
        · have hkb : k ≠ S.w.heap.size := by omega
          rw [setRow_other _ _ _ _ hkb]
          show ((S.w.alloc (.cells ROW 48)).drew.setRow _ _).heap[k]? = _
          rw [setRow_other _ _ _ _ hkb]
          exact alloc_old S.w _ k hk
        · rw [setRow_size]
          show _ ≤ ((S.w.alloc (.cells ROW 48)).drew.setRow _ _).heap.size
          rw [setRow_size]
          show _ ≤ (S.w.alloc (.cells ROW 48)).heap.size
          rw [alloc_size]; omega
        · exact hC ROW.toList (by omega) hR2
end Go.Proofs.Ytgohjdaepcmonaa
