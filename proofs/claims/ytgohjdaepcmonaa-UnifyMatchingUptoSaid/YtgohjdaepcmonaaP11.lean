/-
  Texts InsB, InsC, UniA, UniB, UniT, UniU, R03B, R03C, UniC, UniD, UniV, UniE, UniF, UniG, UniH, UniI of this proof, joined.
-/
import Derived.Test.YtgohjdaepcmonaaRows
import Derived.Shelf.Spec.SlicesInsertGrow
import Derived.Test.YtgohjdaepcmonaaP10
set_option linter.unusedVariables false
namespace Go.Proofs.Ytgohjdaepcmonaa
open Go.RowKit Go.Lib Go.Ins
theorem ins_t25 : Try.prog.underlying 25 = some (.slice 48) := by kernel_rfl
theorem ins_t3 : Try.prog.underlying 3 = some (.int .i64) := by kernel_rfl
theorem ins_sz : (Try.prog.info? 48).map (·.size) = some 4 := by kernel_rfl
theorem ins_so (w : World) : (sizeOf 48).run Try.prog w = .ok 4 w := by
  unfold sizeOf
  cases hi : Try.prog.info? 48 with
  | none => have := ins_sz; rw [hi] at this; cases this
  | some i => have := ins_sz; rw [hi] at this; simp at this; simp [typeInfo, hi, this]
theorem ins_mixed : Try.prog.follows .mixedOrders = true := by kernel_rfl
set_option maxHeartbeats 4000000 in
set_option maxRecDepth 100000 in
theorem ins_shift (b n c i vb voff vc : Nat) (arr : Array Value) (e0 : TypeId) (cs vs : List Value) (w : World) (hi : i < n) (hroom : n + 1 ≤ c) (hc63 : c ≤ 9223372036854775807) (hvb : vb ≠ b)
    (hb : w.heap[b]? = some (.cells arr e0 (0, 0))) (hsz : arr.size = c * 4) (hcs : cs = (arr.toList.drop (i * 4)).take ((n - i) * 4)) (hvl : vs.length = 4)
    (hvs : ∀ j v, vs[j]? = some v → w.cell? ⟨vb, voff + j, none⟩ = some v) (h1c : ∀ v ∈ cs, v.oneCell' = true) (h1v : ∀ v ∈ vs, v.oneCell' = true)
    (tA : TypeId) (kA : Nat) (hsa : w.shape? vb = some (tA, kA)) (hkA : kA ≠ 0) :
    Calls Try.prog 73 #[.slice (some ⟨b, 0, none⟩) n c, .int .i64 i, .slice (some ⟨vb, voff, none⟩) 1 vc] w fun e w' =>
      e = .returned (.slice (some ⟨b, 0, none⟩) (n + 1) c) ∧ w' = (w.drew.setRow b (arr.toList.take ((i + 1) * 4) ++ (cs ++ arr.toList.drop ((i + 1) * 4 + cs.length))).toArray).setRow b
        ((arr.toList.take ((i + 1) * 4) ++ (cs ++ arr.toList.drop ((i + 1) * 4 + cs.length))).take (i * 4) ++ (vs ++ (arr.toList.take ((i + 1) * 4) ++ (cs ++ arr.toList.drop ((i + 1) * 4 + cs.length))).drop (i * 4 + 4))).toArray := by
  have hz2 : ¬ ((i : Int) = (n : Int)) := by omega
  have mixed := ins_mixed
  have hov : ∀ lb cb, (callFunc 88 #[.slice (some ⟨vb, voff, none⟩) 1 vc, .slice (some ⟨b, (i + 1) * 4, none⟩) lb cb]).run Try.prog w = .ok (.value (.bool false)) w := fun lb cb => by
    rw [run_callFunc_extern Try.func88 (by kernel_rfl) (by kernel_rfl) (by kernel_rfl) (e := Extern.SlicesOverlaps.overlaps #[25, 25] #[4]) (by kernel_rfl),
      Ins.run_overlaps_plain w 25 4 48 ins_t25 4 ins_so ⟨vb, voff, none⟩ ⟨b, (i + 1) * 4, none⟩ 1 vc lb cb hvb tA e0 kA arr.size hsa (by simp [World.shape?, hb]) hkA (by simp [World.frozen?, hb]) (by simp [World.frozen?, hb])]
    rfl
  have hcl : cs.length = (n - i) * 4 := by rw [hcs]; simp; omega
  have hw1 : IntKind.i64.wrap ((i : Int) + 1) = (i : Int) + 1 := by rw [IntKind.wrap_i64]; omega
  have hb1 : (0 : Int) ≤ (i : Int) + 1 := by omega
  have hin : i ≤ n := by omega
  have htn : ((i : Int) + 1).toNat = i + 1 := by omega
  have hb2 : ¬ (c = i + 1) := by omega
  have hb3 : (i : Int) ≤ (n : Int) + 1 := by omega
  have hb4 : ¬ (c = i) := by omega
  obtain ⟨A1, hA1⟩ : ∃ A1, A1 = (arr.toList.take ((i + 1) * 4) ++ (cs ++ arr.toList.drop ((i + 1) * 4 + cs.length))).toArray := ⟨_, rfl⟩
  have hA1s : A1.size = c * 4 := by rw [hA1]; simp; omega
  have hcell : ∀ j v, cs[j]? = some v → w.cell? ⟨b, i * 4 + j, none⟩ = some v := fun j v hj => by
    rw [hcs, List.getElem?_take] at hj
    split at hj
    · rw [List.getElem?_drop] at hj
      simp only [World.cell?, hb]
      simpa using hj
    · cases hj
  have hcp1 : ∀ ty dc sc, (Builtin.copy_ #[25, 25] ty #[.slice (some ⟨b, (i + 1) * 4, none⟩) (n + 1 - (i + 1)) dc, .slice (some ⟨b, i * 4, none⟩) (n + 1 - i) sc]).run Try.prog w.drew = .ok (goInt (n - i : Nat)) (w.drew.setRow b A1) := fun ty dc sc => by
    have hmin : Nat.min (n + 1 - i) (n + 1 - (i + 1)) = n - i := by simp only [Nat.min_def]; split <;> omega
    have := run_copy_gen (P := Try.prog) w.drew 25 25 ty 48 4 b ((i + 1) * 4) (n + 1 - (i + 1)) dc ⟨b, i * 4, none⟩ (n + 1 - i) sc arr e0 cs ins_t25 ins_sz hb (by rw [hmin, hcl])
      (fun j v hj => by rw [Addr.add_lit]; exact hcell j v hj) (by rw [hcl]; omega) h1c
    rw [hmin] at this
    rw [this, hA1]
    simp
  have hcp2 : ∀ ty dc, (Builtin.copy_ #[25, 25] ty #[.slice (some ⟨b, i * 4, none⟩) (n + 1 - i) dc, .slice (some ⟨vb, voff, none⟩) 1 vc]).run Try.prog (w.drew.setRow b A1) = .ok (goInt 1) ((w.drew.setRow b A1).setRow b (A1.toList.take (i * 4) ++ (vs ++ A1.toList.drop (i * 4 + 4))).toArray) := fun ty dc => by
    have hmin : Nat.min 1 (n + 1 - i) = 1 := by simp only [Nat.min_def]; split <;> omega
    have := run_copy_gen (P := Try.prog) (w.drew.setRow b A1) 25 25 ty 48 4 b (i * 4) (n + 1 - i) dc ⟨vb, voff, none⟩ 1 vc A1 e0 vs ins_t25 ins_sz (setRow_heap w.drew b arr A1 e0 (0, 0) hb) (by rw [hmin, hvl])
      (fun j v hj => by
        rw [Addr.add_lit, World.cell?_of_block (w := w) (by rw [Abs.setRow_other _ _ _ _ hvb]; rfl)]
        exact hvs j v hj) (by rw [hvl]; omega) h1v
    rw [hmin] at this
    rw [this]
    simp [hvl]
  rw [show (arr.toList.take ((i + 1) * 4) ++ (cs ++ arr.toList.drop ((i + 1) * 4 + cs.length))) = A1.toList by rw [hA1]]
  clear hA1 hA1s hcell hcl
  clear hcs
  go_enter Try.func73, Try.ntmps73
  go_wp2_with (simp only [hov])
  go_region_law_o (refine step_copy_runI rfl _ _ 25 25 rfl (.slice (some ⟨b, (i + 1) * 4, none⟩) (n + 1 - (i + 1)) (c - (i + 1))) (.slice (some ⟨b, i * 4, none⟩) (n + 1 - i) (c - i)) (by simp [Act.eval, Act.put]) (by simp [Act.eval, Act.put]) (hcp1 _ _ _) ?_)
  go_wp2_with (at_builtin; refine wpList_copy_runI _ rfl _ _ 25 25 rfl _ _ rfl rfl (hcp2 _ _) ?_)
  go_ret
  exact ⟨rfl, rfl⟩
theorem ins_info : ∃ i0 z, Try.prog.info? 48 = some i0 ∧ i0.zero = some z ∧ z.cells.size = 4 ∧ i0.size = 4 ∧ i0.bytes ≤ 64 := by
  have h : (Try.prog.info? 48).bind (fun i => i.zero.map fun z => (z.cells.size, i.size, i.bytes)) = some (4, 4, 64) := by kernel_rfl
  cases hi : Try.prog.info? 48 with
  | none => rw [hi] at h; cases h
  | some i =>
    rw [hi] at h
    cases hz : i.zero with
    | none => simp [hz] at h
    | some z =>
      simp [hz] at h
      exact ⟨i, z, rfl, hz, h.1, h.2.1, by omega⟩
theorem zeroCells_size (z : Array Value) (k : Nat) : (Builtin.zeroCells z k).size = k * z.size := by simp [Builtin.zeroCells]
set_option maxHeartbeats 4000000 in
set_option maxRecDepth 100000 in
theorem ins_grow (b n c i vb voff vc : Nat) (arr : Array Value) (e0 : TypeId) (cs vs : List Value) (w : World) (hi : i < n) (hnc : n ≤ c) (hroom : c < n + 1) (hbig : n ≤ 1099511627776) (hvb : vb ≠ b)
    (hb : w.heap[b]? = some (.cells arr e0 (0, 0))) (hsz : arr.size = c * 4) (hcs : cs = (arr.toList.drop (i * 4)).take ((n - i) * 4)) (hvl : vs.length = 4)
    (hvs : ∀ j v, vs[j]? = some v → w.cell? ⟨vb, voff + j, none⟩ = some v) (h1c : ∀ v ∈ cs, v.oneCell' = true) (h1v : ∀ v ∈ vs, v.oneCell' = true) :
    ∃ (G : Nat) (ROW : Array Value), n + 1 ≤ G ∧ G ≤ maxLen ∧ ROW.size = G * 4 ∧ ROW.toList.take (i * 4) = arr.toList.take (i * 4) ∧
    Calls Try.prog 73 #[.slice (some ⟨b, 0, none⟩) n c, .int .i64 i, .slice (some ⟨vb, voff, none⟩) 1 vc] w fun e w' =>
      e = .returned (.slice (some ⟨w.heap.size, 0, none⟩) (n + 1) G) ∧
      w' = (((w.alloc (.cells ROW 48)).drew.setRow w.heap.size (ROW.toList.take (i * 4) ++ (vs ++ ROW.toList.drop (i * 4 + 4))).toArray).drew).setRow w.heap.size
        ((ROW.toList.take (i * 4) ++ (vs ++ ROW.toList.drop (i * 4 + 4))).take ((i + 1) * 4) ++ (cs ++ (ROW.toList.take (i * 4) ++ (vs ++ ROW.toList.drop (i * 4 + 4))).drop ((i + 1) * 4 + cs.length))).toArray := by
  obtain ⟨i0, z, hi0, hz0, hz1, hz2, hz3⟩ := ins_info
  have mixed := ins_mixed
  have hne : ¬ ((i : Int) = (n : Int)) := by omega
  have hlt : (c : Int) < (n : Int) + 1 := by omega
  have hcl : cs.length = (n - i) * 4 := by rw [hcs]; simp; omega
  have hbw : b < w.heap.size := by
    rcases Nat.lt_or_ge b w.heap.size with h | h
    · exact h
    · rw [Array.getElem?_eq_none h] at hb; cases hb
  have hvw : vb < w.heap.size := block_lt_of_cell (hvs 0 _ (List.getElem?_eq_getElem (by omega)))
  have hkk : (n : Int) + 1 - (i : Int) = ((n + 1 - i : Nat) : Int) := by omega
  have hik : i + (n + 1 - i) = n + 1 := by omega
  have hcellA : ∀ j v, arr.toList[j]? = some v → w.cell? ⟨b, j, none⟩ = some v := fun j v hj => by
    simp only [World.cell?, hb]
    simpa using hj
  have hold : (Builtin.firstCells i0.size i (.slice (some ⟨b, 0, none⟩) i c)).run Try.prog w.drew = .ok (arr.toList.take (i * 4)).toArray w.drew := by
    rw [hz2]
    exact run_firstCells_some w.drew 4 i ⟨b, 0, none⟩ i c (arr.toList.take (i * 4)) (by simp; omega) (fun j v hj => by
      rw [Addr.add_lit]
      rw [List.getElem?_take] at hj
      split at hj
      · rw [Nat.zero_add]; exact hcellA j v hj
      · cases hj)
  refine ⟨grownCap w (n + 1) c 48, (arr.toList.take (i * 4)).toArray ++ Builtin.zeroCells z.cells (n + 1 - i) ++ Builtin.zeroCells z.cells (grownCap w (n + 1) c 48 - (n + 1)), grownCap_ge w _ _ _, grownCap_le_maxLen w (n + 1) c 48 (by unfold maxLen; omega), ?_, ?_, ?_⟩
  · have := grownCap_ge w (n + 1) c 48
    simp only [Array.size_append, zeroCells_size, hz1]
    simp
    omega
  · have e : ∀ B C : Array Value, ((arr.toList.take (i * 4)).toArray ++ B ++ C).toList = arr.toList.take (i * 4) ++ (B.toList ++ C.toList) := fun B C => by simp
    rw [e, List.take_append_of_le_length (by simp; omega), List.take_take, Nat.min_self]
  have hrz : ∀ ty, (Builtin.append_ #[25, 3] ty #[.slice (some ⟨b, 0, none⟩) i c, .int .i64 ((n : Int) + 1 - (i : Int))]).run Try.prog w =
      .ok (.slice (some ⟨w.heap.size, 0, none⟩) (n + 1) (grownCap w (n + 1) c 48)) (w.drew.alloc (.cells ((arr.toList.take (i * 4)).toArray ++ Builtin.zeroCells z.cells (n + 1 - i) ++ Builtin.zeroCells z.cells (grownCap w (n + 1) c 48 - (n + 1))) 48)) := fun ty => by
    have h := Lib.run_append_grow_zeros (P := Try.prog) w 25 3 ty 48 i0 z .i64 .i64 ins_t25 ins_t3 hi0 hz0 (some ⟨b, 0, none⟩) i c (arr.toList.take (i * 4)) hold (n + 1 - i) (by omega) (by omega) (by omega) (by omega)
      (by have := Nat.mul_le_mul (show n + 1 - i ≤ 1099511627777 by omega) hz3; omega) (by rw [hik]; exact growslice_fits hroom (by have := Nat.mul_le_mul (show n + 1 ≤ 1099511627777 by omega) hz3; omega))
    rw [hik] at h
    rw [hkk]
    exact h
  obtain ⟨G, hG⟩ : ∃ G, G = grownCap w (n + 1) c 48 := ⟨_, rfl⟩
  have hGn : n + 1 ≤ G := by rw [hG]; exact grownCap_ge w _ _ _
  have hG63 : G ≤ 9223372036854775807 := by
    have := grownCap_le_maxLen w (n + 1) c 48 (by unfold maxLen; omega)
    rw [← hG] at this
    unfold maxLen at this
    omega
  have hRs : ((arr.toList.take (i * 4)).toArray ++ Builtin.zeroCells z.cells (n + 1 - i) ++ Builtin.zeroCells z.cells (grownCap w (n + 1) c 48 - (n + 1))).size = G * 4 := by
    simp only [Array.size_append, zeroCells_size, hz1]
    rw [← hG]
    simp
    omega
  rw [← hG] at hrz hRs ⊢
  obtain ⟨ROW, hROW⟩ : ∃ ROW : Array Value, ROW = (arr.toList.take (i * 4)).toArray ++ Builtin.zeroCells z.cells (n + 1 - i) ++ Builtin.zeroCells z.cells (G - (n + 1)) := ⟨_, rfl⟩
  rw [← hROW] at hrz hRs ⊢
  have hGi : ¬ (G = i) := by omega
  have hGim : ¬ (G = i + 1) := by omega
  have hci : ¬ (c = i) := by omega
  have hNb : w.heap.size ≠ b := by omega
  obtain ⟨A1, hA1⟩ : ∃ A1, A1 = (ROW.toList.take (i * 4) ++ (vs ++ ROW.toList.drop (i * 4 + 4))).toArray := ⟨_, rfl⟩
  have hA1s : A1.size = G * 4 := by rw [hA1]; simp; omega
  have hcpA : ∀ (W : World), W.heap[w.heap.size]? = some (.cells ROW 48 (0, 0)) → W.heap[vb]? = w.heap[vb]? → ∀ ty dc, (Builtin.copy_ #[25, 25] ty #[.slice (some ⟨w.heap.size, i * 4, none⟩) (n + 1 - i) dc, .slice (some ⟨vb, voff, none⟩) 1 vc]).run Try.prog W = .ok (goInt 1) (W.setRow w.heap.size A1) := fun W hW hWv ty dc => by
    have hmin : Nat.min 1 (n + 1 - i) = 1 := by simp only [Nat.min_def]; split <;> omega
    have := run_copy_gen (P := Try.prog) W 25 25 ty 48 4 w.heap.size (i * 4) (n + 1 - i) dc ⟨vb, voff, none⟩ 1 vc ROW 48 vs ins_t25 ins_sz hW (by rw [hmin, hvl])
      (fun j v hj => by
        rw [Addr.add_lit, World.cell?_of_block (w := w) hWv]
        exact hvs j v hj) (by rw [hvl]; omega) h1v
    rw [hmin] at this
    rw [this, hA1]
    simp [hvl]
  have hcpB : ∀ (W : World), W.heap[w.heap.size]? = some (.cells A1 48 (0, 0)) → W.heap[b]? = w.heap[b]? → ∀ ty dc sc, (Builtin.copy_ #[25, 25] ty #[.slice (some ⟨w.heap.size, (i + 1) * 4, none⟩) (n + 1 - (i + 1)) dc, .slice (some ⟨b, i * 4, none⟩) (n - i) sc]).run Try.prog W = .ok (goInt (n - i : Nat)) (W.setRow w.heap.size (A1.toList.take ((i + 1) * 4) ++ (cs ++ A1.toList.drop ((i + 1) * 4 + cs.length))).toArray) := fun W hW hWb ty dc sc => by
    have hmin : Nat.min (n - i) (n + 1 - (i + 1)) = n - i := by simp only [Nat.min_def]; split <;> omega
    have := run_copy_gen (P := Try.prog) W 25 25 ty 48 4 w.heap.size ((i + 1) * 4) (n + 1 - (i + 1)) dc ⟨b, i * 4, none⟩ (n - i) sc A1 48 cs ins_t25 ins_sz hW (by rw [hmin, hcl])
      (fun j v hj => by
        rw [Addr.add_lit, World.cell?_of_block (w := w) hWb]
        rw [hcs, List.getElem?_take] at hj
        split at hj
        · rw [List.getElem?_drop] at hj; exact hcellA _ v hj
        · cases hj) (by rw [hcl]; omega) h1c
    rw [hmin] at this
    rw [this]
    simp
  have hold1 : ∀ k, k < w.heap.size → (w.drew.alloc (.cells ROW 48)).heap[k]? = w.heap[k]? := fun k hk => Abs.alloc_old w.drew _ k hk
  have hnew1 : (w.drew.alloc (.cells ROW 48)).heap[w.heap.size]? = some (.cells ROW 48 (0, 0)) := Abs.alloc_new w.drew _
  have hnew2 : ((w.drew.alloc (.cells ROW 48)).setRow w.heap.size A1).heap[w.heap.size]? = some (.cells A1 48 (0, 0)) := setRow_heap _ _ _ _ _ _ hnew1
  have hold2 : ((w.drew.alloc (.cells ROW 48)).setRow w.heap.size A1).heap[b]? = w.heap[b]? := by rw [Abs.setRow_other _ _ _ _ (Ne.symm hNb)]; exact hold1 b hbw
  have a1 : ∀ ty dc, _ := hcpA (w.drew.alloc (.cells ROW 48)) hnew1 (hold1 vb hvw)
  have a2 : ∀ ty dc, _ := hcpA (w.alloc (.cells ROW 48)).drew hnew1 (hold1 vb hvw)
  have b1 : ∀ ty dc sc, _ := hcpB ((w.drew.alloc (.cells ROW 48)).setRow w.heap.size A1).drew hnew2 hold2
  have b2 : ∀ ty dc sc, _ := hcpB ((w.alloc (.cells ROW 48)).drew.setRow w.heap.size A1).drew hnew2 hold2
  rw [show (ROW.toList.take (i * 4) ++ (vs ++ ROW.toList.drop (i * 4 + 4))) = A1.toList by rw [hA1]]
  have hw1 : IntKind.i64.wrap ((i : Int) + 1) = (i : Int) + 1 := by rw [IntKind.wrap_i64]; omega
  have hbb1 : (0 : Int) ≤ (i : Int) + 1 := by omega
  have hin : i ≤ n := by omega
  have htn : ((i : Int) + 1).toNat = i + 1 := by omega
  have hb3 : (i : Int) ≤ (n : Int) := by omega
  clear hkk hik hold hROW hG hRs hA1 hA1s hcl hcpA hcpB hcellA hold1 hnew1 hnew2 hold2
  clear hcs
  go_enter Try.func73, Try.ntmps73
  go_wp2_with (first
    | (at_builtin; refine Lib.wpList_append_run _ rfl _ _ _ _ rfl _ _ rfl rfl _ _ (hrz _) ?_)
    | (at_builtin; refine wpList_copy_runI _ rfl _ _ 25 25 rfl _ _ rfl rfl (a1 _ _) ?_)
    | (at_builtin; refine wpList_copy_runI _ rfl _ _ 25 25 rfl _ _ rfl rfl (a2 _ _) ?_))
  go_region_law_o (refine step_copy_runI rfl _ _ 25 25 rfl (.slice (some ⟨w.heap.size, (i + 1) * 4, none⟩) (n + 1 - (i + 1)) (G - (i + 1))) (.slice (some ⟨b, i * 4, none⟩) (n - i) (c - i)) (by simp [Act.eval, Act.put]) (by simp [Act.eval, Act.put]) (b2 _ _ _) ?_)
  go_wp2
  go_ret
  exact ⟨rfl, rfl⟩
set_option maxHeartbeats 4000000 in
set_option maxRecDepth 100000 in
theorem ins_end (b n c vb voff vc : Nat) (w w2 : World) (v' : Value) (hc63 : n ≤ c) (hrun : ∀ ty, (Builtin.append_ #[25, 25] ty #[.slice (some ⟨b, 0, none⟩) n c, .slice (some ⟨vb, voff, none⟩) 1 vc]).run Try.prog w = .ok v' w2) :
    Calls Try.prog 73 #[.slice (some ⟨b, 0, none⟩) n c, .int .i64 n, .slice (some ⟨vb, voff, none⟩) 1 vc] w fun e w' => e = .returned v' ∧ w' = w2 := by
  have mixed := ins_mixed
  go_enter Try.func73, Try.ntmps73
  go_wp2_with (at_builtin; refine Lib.wpList_append_run _ rfl _ _ _ _ rfl _ _ rfl rfl _ _ (hrun _) ?_)
  all_goals go_ret
  all_goals exact ⟨rfl, rfl⟩
set_option maxHeartbeats 4000000 in
set_option maxRecDepth 100000 in
theorem ins_end0 (vb voff vc : Nat) (w w2 : World) (v' : Value) (hrun : ∀ ty, (Builtin.append_ #[25, 25] ty #[.slice none 0 0, .slice (some ⟨vb, voff, none⟩) 1 vc]).run Try.prog w = .ok v' w2) :
    Calls Try.prog 73 #[.slice none 0 0, .int .i64 0, .slice (some ⟨vb, voff, none⟩) 1 vc] w fun e w' => e = .returned v' ∧ w' = w2 := by
  have mixed := ins_mixed
  go_enter Try.func73, Try.ntmps73
  go_wp2_with (at_builtin; refine Lib.wpList_append_run _ rfl _ _ _ _ rfl _ _ rfl rfl _ _ (hrun _) ?_)
  all_goals go_ret
  all_goals exact ⟨rfl, rfl⟩
end Go.Proofs.Ytgohjdaepcmonaa
set_option linter.unusedVariables false
set_option maxRecDepth 20000
namespace Go.Proofs.Ytgohjdaepcmonaa
open Go Go.Abs Go.Ins
theorem ins_lf : (lfs tab 48).length = 4 := by kernel_rfl
theorem ins_close {S : Sig} {xs ys : List (List V)} {n : Nat} (hwf : Wf (lfs tab) S) (hH : S.H = [.row 48 xs]) (hL : S.L = []) (hla : S.la = []) (hn : xs.length = n) (hyn : ys.length = n + 1) (hyl : ∀ p, p < n + 1 → (ys.getD p []).length = 4)
    (g cap : Nat) (cur : Array Value) (w' : World) (hg : w'.heap[g]? = some (.cells cur 48 (0, 0))) (hcs : cur.size = cap * 4) (hcap : n + 1 ≤ cap) (hmax : cap ≤ maxLen)
    (hgb : (∃ y, S.blk (.own 0) = some y ∧ g = y.1) ∨ S.w.heap.size ≤ g) (hold : ∀ k, k < S.w.heap.size → (∀ y, S.blk (.own 0) = some y → y.1 ≠ k) → w'.heap[k]? = S.w.heap[k]?) (hsz : S.w.heap.size ≤ w'.heap.size)
    (hos : w'.os = S.w.os) (htape : w'.tape = S.w.tape) (hout : w'.output = S.w.output)
    (hrep : ∀ p j, p < n + 1 → j < 4 → RepK (lfs tab) S.w S.F ((lfs tab 48).getD j .oth) ((ys.getD p []).getD j V.none) (cur.getD (p * 4 + j) undef))
    {Q : D → Heap → Prop} (hQ : Q (.osl (.own 0) (n + 1)) [.row 48 ys]) {e : Ending} (he : e = .returned (.slice (some ⟨g, 0, none⟩) (n + 1) cap)) :
    ∃ v r S', e = .returned v ∧ S'.w = w' ∧ S'.L = [] ∧ S'.la = [] ∧ Wf (lfs tab) S' ∧ RepD (lfs tab) S' r v ∧ D.local r = false ∧ Ext S S' ∧ Q r S'.H := by
  have hblkl : ∀ i, S.blk (.loc i) = none := fun i => by show S.la.getD i none = none; rw [hla]; rfl
  have hrel : Rel (lfs tab) ⟨[], []⟩ S.H { tmps := #[], defers := [] } S := ⟨rfl, hL, rfl, rfl, fun j => by
    show RepD _ S (([] : List D).getD j .undef) _
    rw [List.getD_nil]; exact .undef _, hwf⟩
  have hinv : Inv S S := ⟨Ext.refl S, fun i bc h => by rw [hblkl] at h; cases h⟩
  have hhas : S.has (.own 0) := by show 0 < S.H.length; rw [hH]; simp
  have hobj : S.obj (.own 0) = .row 48 xs := by show S.H.getD 0 .dead = _; rw [hH]; rfl
  have hglt : g < w'.heap.size := by
    rcases Nat.lt_or_ge g w'.heap.size with h5 | h5
    · exact h5
    · rw [Array.getElem?_eq_none h5] at hg; cases hg
  obtain ⟨j1, j2⟩ := S.upd_at hwf hhas (.row 48 ys) (some (g, cap)) w'
  obtain ⟨g1, g2, g3⟩ := Rel.upd hrel hinv (.own 0) (.row 48 ys) (some (g, cap)) w' hhas hsz (fun b hb hne => hold b hb hne) hos htape hout
    (fun x hx => by
      cases hx
      refine ⟨?_, hglt⟩
      rcases hgb with ⟨y, h5, h6⟩ | h5
      · exact .inl ⟨y, h5, h6⟩
      · exact .inr h5)
    (by
      refine ⟨fun bc j3 _ => ?_, fun e' xs' j3 => ?_, fun e' xs' j3 => (by rw [j1] at j3; cases j3)⟩
      · rw [j1] at j3; cases j3
      · rw [j1] at j3; cases j3
        exact ⟨xs, hobj, by omega, fun h5 => by omega⟩)
    (fun _ _ => trivial)
    (fun mD mK => .inr ⟨g, cap, cur, rfl, by rw [Sig.upd_w]; exact hg, by rw [ins_lf]; exact hcs, by omega, hmax, fun i hi => by rw [ins_lf]; exact hyl i (by omega),
      fun i j hi hj => by
        rw [Sig.upd_w, Sig.upd_F]
        rw [ins_lf] at hj ⊢
        exact mK (hrep i j (by omega) hj)⟩)
  refine ⟨_, .osl (.own 0) (n + 1), S.upd (.own 0) (.row 48 ys) (some (g, cap)) w', he, Sig.upd_w _ _ _ _ _, hL, hla, g1.wf, ?_, rfl, g2.ext, ?_⟩
  · refine .osl _ _ _ ⟨?_, rfl⟩ fun e' xs' j3 => ?_
    · show 0 < (S.upd (.own 0) (.row 48 ys) (some (g, cap)) w').H.length
      rw [Sig.upd_len, hH]; simp
    · rw [j1] at j3
      cases j3
      exact ⟨by omega, fun _ => by rw [j2]; rfl⟩
  · have : (S.upd (.own 0) (.row 48 ys) (some (g, cap)) w').H = [.row 48 ys] := by show S.H.set 0 _ = _; rw [hH]; rfl
    rw [this]; exact hQ
theorem ins_cells {L us C : List Value} {n i : Nat} (hi : i ≤ n) (hL : n * 4 ≤ L.length) (hu : us.length = 4) (hC : C.take ((n + 1) * 4) = L.take (i * 4) ++ (us ++ (L.take (n * 4)).drop (i * 4))) (p j : Nat) (hp : p < n + 1) (hj : j < 4) :
    C.getD (p * 4 + j) undef = if p < i then L.getD (p * 4 + j) undef else if p = i then us.getD j undef else L.getD ((p - 1) * 4 + j) undef := by
  rw [← getD_take C ((n + 1) * 4) (p * 4 + j) undef (by omega), hC]
  have hl : (L.take (i * 4)).length = i * 4 := by rw [List.length_take]; omega
  split
  · rename_i h
    rw [List.getD_eq_getElem?_getD, List.getElem?_append_left (by omega), ← List.getD_eq_getElem?_getD, getD_take _ _ _ _ (by omega)]
  · split
    · rename_i h1 h2
      subst h2
      rw [List.getD_eq_getElem?_getD, List.getElem?_append_right (by omega), List.getElem?_append_left (by omega), ← List.getD_eq_getElem?_getD, hl]
      congr 1; omega
    · rename_i h1 h2
      rw [List.getD_eq_getElem?_getD, List.getElem?_append_right (by omega), List.getElem?_append_right (by omega), hl, hu, ← List.getD_eq_getElem?_getD, getD_drop, getD_take _ _ _ _ (by omega)]
      congr 1; omega
theorem insL_getD (xs : List (List V)) (v : List V) (n i p : Nat) (hn : xs.length = n) (hi : i ≤ n) :
    (xs.take i ++ v :: xs.drop i).getD p [] = if p < i then xs.getD p [] else if p = i then v else xs.getD (p - 1) [] := by
  have hl : (xs.take i).length = i := by rw [List.length_take]; omega
  split
  · rw [List.getD_eq_getElem?_getD, List.getElem?_append_left (by omega), ← List.getD_eq_getElem?_getD, getD_take _ _ _ _ (by omega)]
  · split
    · rename_i h1 h2
      subst h2
      rw [List.getD_eq_getElem?_getD, List.getElem?_append_right (by omega), hl, Nat.sub_self]; rfl
    · rename_i h1 h2
      rw [List.getD_eq_getElem?_getD, List.getElem?_append_right (by omega), hl, show p - i = (p - i - 1) + 1 by omega, List.getElem?_cons_succ, ← List.getD_eq_getElem?_getD, getD_drop]
      congr 1; omega
theorem insert_ok (xs : List (List V)) (v : List V) (x : V) (n i : Nat) (hn : xs.length = n) (hi : i ≤ n) (hx : x.int = i) (hb : n ≤ 1099511627776) (hv : v.length = 4)
    {Q : D → Heap → Prop} (hQ : Q (.osl (.own 0) (n + 1)) [.row 48 (xs.take i ++ v :: xs.drop i)]) :
    cl f_slices_Insert_Bind [.osl (.own 0) n, .v (.int .i64) x, .v (.sl 48) (V.l [v])] [.row 48 xs] Q := by
  intro S vs hH hL hla hwf hlen hrep hloc
  obtain ⟨u0, u1, u2, rfl⟩ : ∃ u0 u1 u2, vs = [u0, u1, u2] := by
    match vs, hlen with
    | [u0, u1, u2], _ => exact ⟨u0, u1, u2, rfl⟩
  have h0 : RepD (lfs tab) S (.osl (.own 0) n) u0 := hrep 0
  have h1 : RepD (lfs tab) S (.v (.int .i64) x) u1 := hrep 1
  have h2 : RepD (lfs tab) S (.v (.sl 48) (V.l [v])) u2 := hrep 2
  clear hrep hlen
  have hobj : S.obj (.own 0) = .row 48 xs := by show S.H.getD 0 .dead = _; rw [hH]; rfl
  have e1 := h1.int_inv
  rw [hx] at e1
  subst e1
  have e0 : u0 = rowVal n (S.blk (.own 0)) := by
    cases h0 with
    | osl _ _ _ _ h => exact (h 48 xs hobj).2 hn.symm
  subst e0
  obtain ⟨bv, ov, cv, us, rfl, hF, hcell, hru⟩ : ∃ bv ov cv, ∃ us : Nat → Value, u2 = .slice (some ⟨bv, ov, none⟩) 1 cv ∧ S.F bv ∧ (∀ j, j < 4 → S.w.cell? ⟨bv, ov + j, none⟩ = some (us j)) ∧
      (∀ j, j < 4 → RepK (lfs tab) S.w S.F ((lfs tab 48).getD j .oth) (v.getD j V.none) (us j)) := by
    cases h2 with
    | v _ _ _ h =>
      generalize hy : V.l [v] = y at h
      cases h with
      | sl0 e x A c hl => subst hy; cases hl
      | sl e x b off c us hb hc hlen hcell hr =>
        subst hy
        refine ⟨b, off, c, us 0, rfl, hb, fun j hj => ?_, fun j hj => ?_⟩
        · have := hcell 0 j (by show 0 < 1; omega) (by rw [ins_lf]; exact hj)
          simpa using this
        · exact hr 0 j (by show 0 < 1; omega) (by rw [ins_lf]; exact hj)
  have hbvlt : bv < S.w.heap.size := (hwf.frozen bv hF).1
  have hone : ∀ u ∈ (List.range 4).map us, u.oneCell' = true := fun u hu => by
    obtain ⟨j, hj, rfl⟩ := List.mem_map.1 hu
    exact (hru j (List.mem_range.1 hj)).one
  have hul : ((List.range 4).map us).length = 4 := by simp
  have hus : ∀ j u, ((List.range 4).map us)[j]? = some u → S.w.cell? ⟨bv, ov + j, none⟩ = some u := fun j u hj => by
    have hlt : j < 4 := by have := (List.getElem?_eq_some_iff.1 hj).1; simpa using this
    rw [List.getElem?_map, List.getElem?_range hlt] at hj
    cases hj
    exact hcell j hlt
  have hus2 : ∀ j u, ((List.range 4).map us)[j]? = some u → S.w.cell? ((⟨bv, ov, none⟩ : Addr).add j) = some u := fun j u hj => by rw [add_plain]; exact hus j u hj
  have hug : ∀ j, j < 4 → ((List.range 4).map us).getD j undef = us j := fun j hj => by
    rw [List.getD_eq_getElem?_getD, List.getElem?_map, List.getElem?_range hj]; rfl
  -- what a row comes to
  have fin : ∀ (L : List Value) (g cap : Nat) (cur : Array Value) (w' : World) (e : Ending), (∀ p j, p < n → j < 4 → RepK (lfs tab) S.w S.F ((lfs tab 48).getD j .oth) ((xs.getD p []).getD j V.none) (L.getD (p * 4 + j) undef)) → (∀ p, p < n → (xs.getD p []).length = 4) → n * 4 ≤ L.length →
      w'.heap[g]? = some (.cells cur 48 (0, 0)) → cur.size = cap * 4 → n + 1 ≤ cap → cap ≤ maxLen → ((∃ y, S.blk (.own 0) = some y ∧ g = y.1) ∨ S.w.heap.size ≤ g) → (∀ k, k < S.w.heap.size → (∀ y, S.blk (.own 0) = some y → y.1 ≠ k) → w'.heap[k]? = S.w.heap[k]?) → S.w.heap.size ≤ w'.heap.size →
      w'.os = S.w.os → w'.tape = S.w.tape → w'.output = S.w.output → cur.toList.take ((n + 1) * 4) = L.take (i * 4) ++ ((List.range 4).map us ++ (L.take (n * 4)).drop (i * 4)) → e = .returned (.slice (some ⟨g, 0, none⟩) (n + 1) cap) →
      ∃ v r S', e = .returned v ∧ S'.w = w' ∧ S'.L = [] ∧ S'.la = [] ∧ Wf (lfs tab) S' ∧ RepD (lfs tab) S' r v ∧ D.local r = false ∧ Ext S S' ∧ Q r S'.H := by
    intro L g cap cur w' e hrL hxl hLl hg hcs hcap hmax hgb hold hsz hos htape hout hcur he
    refine ins_close hwf hH hL hla hn (by simp; omega) (fun p hp => ?_) g cap cur w' hg hcs hcap hmax hgb hold hsz hos htape hout (fun p j hp hj => ?_) hQ he
    · rw [insL_getD xs v n i p hn hi]
      split
      · exact hxl p (by omega)
      · split
        · exact hv
        · exact hxl _ (by omega)
    · rw [insL_getD xs v n i p hn hi]
      have hc := ins_cells hi hLl hul hcur p j hp hj
      have e2 : cur.toList.getD (p * 4 + j) undef = cur.getD (p * 4 + j) undef := by simp [List.getD_eq_getElem?_getD, Array.getD_eq_getD_getElem?]
      rw [← e2, hc]
      split
      · exact hrL p j (by omega) hj
      · split
        · rw [hug j hj]; exact hru j hj
        · exact hrL _ j (by omega) hj
  obtain ⟨i0, z, hi0, hz0, hz1, hz2, hz3⟩ := ins_info
  -- at the end: an append
  have atEnd : ∀ (L : List Value), i = n → (∀ p j, p < n → j < 4 → RepK (lfs tab) S.w S.F ((lfs tab 48).getD j .oth) ((xs.getD p []).getD j V.none) (L.getD (p * 4 + j) undef)) → (∀ p, p < n → (xs.getD p []).length = 4) → n * 4 ≤ L.length →
      S.w.ownsRow 0 48 4 (rowVal n (S.blk (.own 0))) n (L.take (n * 4)) → (rowVal n (S.blk (.own 0))).ownBlock = (S.blk (.own 0)).map (·.1) →
      ∃ v' w', (∀ ty, (Builtin.append_ #[25, 25] ty #[rowVal n (S.blk (.own 0)), .slice (some ⟨bv, ov, none⟩) 1 cv]).run Try.prog S.w = .ok v' w') ∧
        ∃ v r S', Ending.returned v' = .returned v ∧ S'.w = w' ∧ S'.L = [] ∧ S'.la = [] ∧ Wf (lfs tab) S' ∧ RepD (lfs tab) S' r v ∧ D.local r = false ∧ Ext S S' ∧ Q r S'.H := by
    intro L hin hrL hxl hLl hown hblk
    have hrun : ∀ ty, _ := fun ty => run_append_own_at (P := Try.prog) S.w 0 25 ty 48 i0 z 4 i0.bytes ins_t25 hi0 hz0 hz2 rfl hz1 (by omega) (rowVal n (S.blk (.own 0))) n (L.take (n * 4)) hown ⟨bv, ov, none⟩ 1 cv ((List.range 4).map us) (by simp) hus2 hone
      (by unfold maxLen; omega) (by have := Nat.mul_le_mul (show n + 1 ≤ 1099511627777 by omega) hz3; omega) (Nat.zero_le _)
    obtain ⟨v', w', hr, hown', hgr, hnil, hat⟩ := hrun 25
    refine ⟨v', w', fun ty => ?_, ?_⟩
    · obtain ⟨v2, w2, hr2, _⟩ := hrun ty
      exact hr
    obtain ⟨_, hown2⟩ := hown'
    rcases hown2 with ⟨_, h0⟩ | ⟨g, cap, cur, hv', _, hh', hncap, hcap, hcur, htake⟩
    · omega
    · have hblk' : (∃ y, S.blk (.own 0) = some y ∧ g = y.1) ∨ S.w.heap.size ≤ g := by
        rw [hv', hblk] at hat
        rcases hat with h5 | h5
        · left
          cases hb : S.blk (.own 0) with
          | none => rw [hb] at h5; simp [Value.ownBlock] at h5
          | some y => rw [hb] at h5; simp [Value.ownBlock] at h5; exact ⟨y, rfl, h5⟩
        · right
          have : g = S.w.heap.size := by simpa [Value.ownBlock] using h5
          omega
      refine fin L g cap cur w' _ hrL hxl hLl hh' hcur hncap hcap hblk' (fun k hk hne => hgr.block k hk (fun h5 => by
          rw [hblk] at h5
          cases hb2 : S.blk (.own 0) with
          | none => rw [hb2] at h5; cases h5
          | some y => rw [hb2] at h5; simp at h5; exact hne y hb2 h5.symm)) hgr.size hgr.os hgr.tape hgr.output ?_ (by rw [hv'])
      rw [htake, hin]
      simp
  rcases hwf.row hobj with ⟨hb0, hxs0⟩ | ⟨b, c, arr, hb0, hheap, hsz, hnc, hcm, hxl, hrep⟩
  · -- the nil row
    have hn0 : n = 0 := by rw [← hn, hxs0]; rfl
    subst hn0
    have hi0' : i = 0 := by omega
    subst hi0'
    obtain ⟨v', w', hr, hfin⟩ := atEnd [] rfl (fun p j hp => absurd hp (by omega)) (fun p hp => absurd hp (by omega)) (by simp) (by rw [hb0]; exact ⟨by simp, .inl ⟨rfl, rfl⟩⟩) (by rw [hb0]; rfl)
    rw [hb0] at hr ⊢
    refine (ins_end0 bv ov cv S.w w' v' hr).mono ?_
    rintro e w2 ⟨rfl, rfl⟩
    exact hfin
  · rw [ins_lf] at hsz hxl hrep
    rw [hn] at hnc hxl hrep
    have hLl : n * 4 ≤ arr.toList.length := by simp; omega
    have e2 : ∀ k, arr.toList.getD k undef = arr.getD k undef := fun k => by simp [List.getD_eq_getElem?_getD, Array.getD_eq_getD_getElem?]
    have hrL : ∀ p j, p < n → j < 4 → RepK (lfs tab) S.w S.F ((lfs tab 48).getD j .oth) ((xs.getD p []).getD j V.none) (arr.toList.getD (p * 4 + j) undef) := fun p j hp hj => by rw [e2]; exact hrep p j hp hj
    have hbne : bv ≠ b := fun h => (hwf.frozen bv hF).2 (.own 0) (b, c) hb0 h.symm
    have hblt : b < S.w.heap.size := hwf.lt (.own 0) (b, c) hb0
    have hrv : rowVal n (S.blk (.own 0)) = .slice (some ⟨b, 0, none⟩) n c := by rw [hb0]; rfl
    by_cases hin : i = n
    · obtain ⟨v', w', hr, hfin⟩ := atEnd arr.toList hin hrL hxl hLl (by rw [hrv]; exact ⟨by simp; omega, .inr ⟨b, c, arr, rfl, Nat.zero_le _, hheap, hnc, hcm, hsz, rfl⟩⟩) (by rw [hb0]; rfl)
      rw [hrv] at hr ⊢
      subst hin
      refine (ins_end b i c bv ov cv S.w w' v' hnc hr).mono ?_
      rintro e w2 ⟨rfl, rfl⟩
      exact hfin
    · have hlt : i < n := by omega
      rw [hrv]
      have hcsone : ∀ u ∈ (arr.toList.drop (i * 4)).take ((n - i) * 4), u.oneCell' = true := fun u hu => by
        obtain ⟨k, hk⟩ := List.mem_iff_getElem?.1 hu
        have hk2 : k < (n - i) * 4 := by
          rcases Nat.lt_or_ge k ((n - i) * 4) with h | h
          · exact h
          · rw [List.getElem?_eq_none (by rw [List.length_take]; omega)] at hk; cases hk
        rw [List.getElem?_take_of_lt hk2, List.getElem?_drop] at hk
        have h3 := hrL ((i * 4 + k) / 4) ((i * 4 + k) % 4) (by omega) (by omega)
        have h4 : arr.toList.getD (i * 4 + k) undef = u := by rw [List.getD_eq_getElem?_getD, hk]; rfl
        rw [show (i * 4 + k) / 4 * 4 + (i * 4 + k) % 4 = i * 4 + k by omega, h4] at h3
        exact h3.one
      have hC : ∀ (Z : List Value), i * 4 + 4 ≤ Z.length → Z.take (i * 4) = arr.toList.take (i * 4) → ((Z.take (i * 4) ++ ((List.range 4).map us ++ Z.drop (i * 4 + 4))).take ((i + 1) * 4) ++ ((arr.toList.drop (i * 4)).take ((n - i) * 4) ++ (Z.take (i * 4) ++ ((List.range 4).map us ++ Z.drop (i * 4 + 4))).drop ((i + 1) * 4 + ((arr.toList.drop (i * 4)).take ((n - i) * 4)).length))).take ((n + 1) * 4) =
          arr.toList.take (i * 4) ++ ((List.range 4).map us ++ (arr.toList.take (n * 4)).drop (i * 4)) := fun Z hZ hZt => by
        have e3 : (Z.take (i * 4) ++ ((List.range 4).map us ++ Z.drop (i * 4 + 4))).take ((i + 1) * 4) = arr.toList.take (i * 4) ++ (List.range 4).map us := by
          rw [hZt, ← List.append_assoc]
          exact List.take_left' (by rw [List.length_append, List.length_take, hul]; omega)
        rw [e3]
        have e4 : (arr.toList.take (n * 4)).drop (i * 4) = (arr.toList.drop (i * 4)).take ((n - i) * 4) := by
          rw [List.drop_take]; congr 1; omega
        rw [e4, show ∀ R : List Value, (arr.toList.take (i * 4) ++ (List.range 4).map us) ++ ((arr.toList.drop (i * 4)).take ((n - i) * 4) ++ R) = (arr.toList.take (i * 4) ++ ((List.range 4).map us ++ (arr.toList.drop (i * 4)).take ((n - i) * 4))) ++ R from fun R => by simp only [List.append_assoc]]
        exact List.take_left' (by simp only [List.length_append, List.length_take, List.length_drop, hul]; omega)
      obtain ⟨tA, kA, hsa, hkA⟩ : ∃ tA kA, S.w.shape? bv = some (tA, kA) ∧ kA ≠ 0 := by
        have h3 := hcell 0 (by omega)
        simp only [World.cell?] at h3
        split at h3
        · rename_i c' e' fz hh
          refine ⟨e', c'.size, by unfold Go.World.shape?; rw [hh], fun h4 => ?_⟩
          rw [Array.getElem?_eq_none (by omega)] at h3; cases h3
        · cases h3
      by_cases hroom : n + 1 ≤ c
      · refine (ins_shift b n c i bv ov cv arr 48 _ ((List.range 4).map us) S.w hlt hroom (by unfold maxLen at hcm; omega) hbne hheap hsz rfl hul hus hcsone hone tA kA hsa hkA).mono ?_
        rintro e w2 ⟨he, rfl⟩
        have hl1 : (arr.toList.take ((i + 1) * 4)).length = i * 4 + 4 := by rw [List.length_take]; omega
        have d1 : (arr.toList.take ((i + 1) * 4) ++ ((arr.toList.drop (i * 4)).take ((n - i) * 4) ++ arr.toList.drop ((i + 1) * 4 + ((arr.toList.drop (i * 4)).take ((n - i) * 4)).length))).take (i * 4) = arr.toList.take (i * 4) := by
          rw [List.take_append_of_le_length (by omega), List.take_take, Nat.min_eq_left (by omega)]
        have d2 : (arr.toList.take ((i + 1) * 4) ++ ((arr.toList.drop (i * 4)).take ((n - i) * 4) ++ arr.toList.drop ((i + 1) * 4 + ((arr.toList.drop (i * 4)).take ((n - i) * 4)).length))).drop (i * 4 + 4) = (arr.toList.drop (i * 4)).take ((n - i) * 4) ++ arr.toList.drop ((i + 1) * 4 + ((arr.toList.drop (i * 4)).take ((n - i) * 4)).length) :=
          List.drop_left' hl1
        rw [d1, d2]
        have e4 : (arr.toList.take (n * 4)).drop (i * 4) = (arr.toList.drop (i * 4)).take ((n - i) * 4) := by
          rw [List.drop_take]; congr 1; omega
        refine fin arr.toList b c _ _ _ hrL hxl hLl (setRow_heap _ b _ _ 48 (0, 0) (setRow_heap S.w.drew b arr _ 48 (0, 0) hheap)) ?_ hroom hcm (.inl ⟨_, hb0, rfl⟩) (fun k hk hne => ?_) ?_ rfl rfl rfl ?_ he
        · simp only [List.size_toArray, List.length_append, List.length_take, List.length_drop, hul]
          have : arr.toList.length = c * 4 := by simp [hsz]
          omega
        · have hkb : k ≠ b := fun h => hne _ hb0 h.symm
          rw [setRow_other _ _ _ _ hkb, setRow_other _ _ _ _ hkb]; rfl
        · rw [setRow_size, setRow_size]; exact Nat.le_refl _
        · rw [e4]
          show List.take _ (arr.toList.take (i * 4) ++ (_ ++ (_ ++ _))) = _
          rw [← List.append_assoc, ← List.append_assoc, List.append_assoc (arr.toList.take (i * 4))]
          exact List.take_left' (by simp only [List.length_append, List.length_take, List.length_drop, hul]; omega)
      · obtain ⟨G, ROW, hG1, hG2, hR1, hR2, hcalls⟩ := ins_grow b n c i bv ov cv arr 48 _ ((List.range 4).map us) S.w hlt hnc (by omega) hb hbne hheap hsz rfl hul hus hcsone hone
        refine hcalls.mono ?_
        rintro e w2 ⟨he, rfl⟩
        have hnew : ((S.w.alloc (.cells ROW 48)).drew).heap[S.w.heap.size]? = some (.cells ROW 48 (0, 0)) := alloc_new S.w _
        have hRl : ROW.toList.length = G * 4 := by simp [hR1]
        have hnew2 := setRow_heap (S.w.alloc (.cells ROW 48)).drew S.w.heap.size ROW (ROW.toList.take (i * 4) ++ ((List.range 4).map us ++ ROW.toList.drop (i * 4 + 4))).toArray 48 (0, 0) hnew
        refine fin arr.toList S.w.heap.size G _ _ _ hrL hxl hLl (setRow_heap _ _ _ _ 48 (0, 0) hnew2) ?_ hG1 hG2 (.inr (Nat.le_refl _)) (fun k hk hne => ?_) ?_ rfl rfl rfl ?_ he
        · simp only [List.size_toArray, List.length_append, List.length_take, List.length_drop, hul, hRl]
          omega
        · have hkb : k ≠ S.w.heap.size := by omega
          rw [setRow_other _ _ _ _ hkb]
          show ((S.w.alloc (.cells ROW 48)).drew.setRow _ _).heap[k]? = _
          rw [setRow_other _ _ _ _ hkb]
          exact alloc_old S.w _ k hk
        · rw [setRow_size]
          show _ ≤ ((S.w.alloc (.cells ROW 48)).drew.setRow _ _).heap.size
          rw [setRow_size]
          show _ ≤ (S.w.alloc (.cells ROW 48)).heap.size
          rw [alloc_size]; omega
        · exact hC ROW.toList (by omega) hR2
end Go.Proofs.Ytgohjdaepcmonaa
set_option linter.unusedVariables false
set_option linter.unusedSimpArgs false
namespace Go.Proofs.Ytgohjdaepcmonaa
open Go.Abs
theorem mid_eq2 (lo hi : Nat) (h : lo + hi ≤ 4611686018427387904) : IntKind.i64.wrap ((IntKind.u64.wrap (IntKind.i64.wrap ((lo : Int) + (hi : Int)))).fdiv (2 ^ (min ((1 : Int)).toNat IntKind.u64.bits))) = (((lo + hi) / 2 : Nat) : Int) := by
  rw [wrap_in ((lo : Int) + (hi : Int)) (by omega) (by omega), wrap_u64 _ (by omega) (by omega)]
  have e : (2 : Int) ^ (min ((1 : Int)).toNat IntKind.u64.bits) = 2 := rfl
  rw [e, Int.fdiv_eq_ediv_of_nonneg _ (by omega), wrap_in _ (by omega) (by omega)]
  omega
theorem bytealg_CompareString_ok (a b : ByteArray) : Fn f_bytealg_CompareString [sD a, sD b] (iD (cmpN a b)) := fun Q hQ => by
  refine C_bytealg_CompareString _ _ _ ?_
  exact ⟨trivial, hQ⟩
theorem strings_Compare_ok (a b : ByteArray) : Fn f_strings_Compare [sD a, sD b] (iD (cmpN a b)) := fun Q hQ => by
  refine C_strings_Compare _ _ _ ?_
  unfold vc_strings_Compare
  exact bytealg_CompareString_ok a b _ ⟨rfl, rfl, trivial, hQ⟩
abbrev biD (x : ByteArray × Tm) : D := .agg [sD x.1, sD x.2.name, bD x.2.var, .v (.sl t_Term) (.l (Tm.encL x.2.args))]
theorem term_Image_1_ok (x : ByteArray × Tm) (b : ByteArray) : Fn f_term_Image_1 [biD x, sD b] (iD (cmpN x.1 b)) := fun Q hQ => by
  refine C_term_Image_1 _ _ _ _ _ _ ?_
  unfold vc_term_Image_1
  exact strings_Compare_ok _ b _ ⟨rfl, rfl, trivial, hQ⟩
theorem unify_bind_1_ok (x : ByteArray × Tm) (b : ByteArray) : Fn f_unify_bind_1 [biD x, sD b] (iD (cmpN x.1 b)) := fun Q hQ => by
  refine C_unify_bind_1 _ _ _ _ _ _ ?_
  unfold vc_unify_bind_1
  exact strings_Compare_ok _ b _ ⟨rfl, rfl, trivial, hQ⟩
structure Place (l : Su) (x : ByteArray) (k : Nat) : Prop where
  le : k ≤ l.length
  lo : ∀ i (h : i < l.length), i < k → cmpN (l[i]).1 x = -1
  hi : ∀ h : k < l.length, cmpN (l[k]).1 x ≠ -1
theorem Place.bound {l : Su} {x : ByteArray} {k : Nat} (h : Place l x k) (hs : SortS l) : boundS l x = true ↔ ∃ h : k < l.length, (l[k]).1 = x := by
  rw [boundS_iff]
  constructor
  · rintro ⟨y, hy, rfl⟩
    obtain ⟨j, hj, rfl⟩ := List.mem_iff_getElem.1 hy
    have hjk : j = k := by
      rcases Nat.lt_trichotomy j k with h1 | h1 | h1
      · have := h.lo j hj h1; rw [cmpN_self] at this; omega
      · exact h1
      · exact absurd (hs.lt k j (by omega) hj h1) (h.hi (by omega))
    subst hjk; exact ⟨hj, rfl⟩
  · rintro ⟨h1, h2⟩
    exact ⟨_, List.getElem_mem h1, h2⟩
theorem bs_image (l : Su) (x : ByteArray) (hs : SortS l) (hn : l.length ≤ 2305843009213693952) (Q : D → Heap → Prop)
    (hQ : ∀ k, Place l x k → Q (.tup [iD k, bD (boundS l x)]) [.row t_Bind (encS l)]) :
    cl f_slices_BinarySearchFunc_Bind_string [.osl (.own 0) l.length, sD x, .fn f_term_Image_1 []] [.row t_Bind (encS l)] Q := by
  refine C_slices_BinarySearchFunc_Bind_string_termImage1 _ _ _ _ ⟨encS_length l, fun hb => ?_⟩
  have hl := encS_length l
  refine rule_slices_BinarySearchFunc_Bind_string_termImage1_0 Q (fun x0 x1 x8 x9 x10 h0 => (x0 = l.length ∧ h0 = encS l) ∧ x1 = x ∧ x8 = (l.length : Int) ∧ ∃ lo hi : Nat, x9 = lo ∧ x10 = hi ∧ lo ≤ hi ∧ hi ≤ l.length ∧ (∀ k (h : k < l.length), k < lo → cmpN (l[k]).1 x = -1) ∧ (∀ k (h : k < l.length), hi ≤ k → cmpN (l[k]).1 x ≠ -1)) (fun _ x1 x8 x9 x10 _ => (x10 - x9).toNat) (fun x0 x1 x8 x9 x10 h0 hI m0 hK => ?_) _ _ _ _ _ _ ⟨⟨rfl, rfl⟩, rfl, rfl, 0, l.length, rfl, rfl, Nat.zero_le _, Nat.le_refl _, fun k _ h => by omega, fun k h h' => by omega⟩
  obtain ⟨⟨e0, e00⟩, e1, e8, lo, hi, e9, e10, h1, h2, h3, h4⟩ := hI
  rw [e9, e10] at hK
  rw [e0, e00, e1, e8, e9, e10]
  unfold st_slices_BinarySearchFunc_Bind_string_termImage1_0
  rw [mid_eq2 lo hi (by omega)]
  refine iff_dec (fun h => ?_) (fun h => ?_)
  · have hm : (lo + hi) / 2 < l.length := by omega
    rw [Int.toNat_natCast]
    simp only [encS_getD _ _ hm, Tm.enc_eq, List.drop_zero, List.headD_cons, List.tail_cons]
    refine ⟨by omega, hl, by omega, by omega, hl, hm, term_Image_1_ok (l[(lo + hi) / 2]) x _ ⟨rfl, rfl, iff_dec (fun h5 => ?_) (fun h5 => ?_)⟩⟩
    · have h5 : cmpN (l[(lo + hi) / 2]).1 x < 0 := h5
      rw [wrap_in _ (by omega) (by omega)]
      refine hK _ _ _ _ _ _ ⟨⟨rfl, rfl⟩, rfl, rfl, (lo + hi) / 2 + 1, hi, by omega, rfl, by omega, h2, fun k hk hlt => ?_, h4⟩ (by omega)
      have h6 : cmpN (l[(lo + hi) / 2]).1 x = -1 := by rcases cmpN_cases (l[(lo + hi) / 2]).1 x with h | h | h <;> omega
      rcases Nat.lt_succ_iff_lt_or_eq.1 hlt with h8 | h8
      · exact cmpN_trans (hs.lt k _ hk hm h8) h6
      · subst h8; exact h6
    · have h5 : ¬ cmpN (l[(lo + hi) / 2]).1 x < 0 := h5
      refine hK _ _ _ _ _ _ ⟨⟨rfl, rfl⟩, rfl, rfl, lo, (lo + hi) / 2, rfl, rfl, by omega, by omega, h3, fun k hk hle he => ?_⟩ (by omega)
      rcases Nat.lt_or_eq_of_le hle with h8 | h8
      · have := cmpN_trans (hs.lt _ k hm hk h8) he
        omega
      · subst h8; omega
  · have e : lo = hi := by omega
    subst e
    have hp : Place l x lo := ⟨h2, h3, fun h => h4 lo h (Nat.le_refl _)⟩
    have hQ := hQ lo hp
    refine iff_dec (fun h5 => ?_) (fun h5 => ⟨⟨trivial, trivial, trivial⟩, ?_⟩)
    · have hlo : lo < l.length := by omega
      rw [Int.toNat_natCast]
      simp only [encS_getD _ _ hlo, Tm.enc_eq, List.drop_zero, List.headD_cons, List.tail_cons]
      refine ⟨hl, by omega, by omega, hl, hlo, term_Image_1_ok (l[lo]) x _ ⟨rfl, rfl, ⟨trivial, trivial, trivial⟩, ?_⟩⟩
      have e : boundS l x = (cmpN (l[lo]).1 x == 0) := by
        rw [Bool.eq_iff_iff, hp.bound hs, beq_iff_eq, cmpN_zero]
        exact ⟨fun ⟨_, h⟩ => h, fun h => ⟨hlo, h⟩⟩
      rw [e] at hQ
      exact hQ
    · have e : boundS l x = false := by
        rw [← Bool.not_eq_true, hp.bound hs]
        rintro ⟨h, _⟩; omega
      rw [e] at hQ
      exact hQ
theorem bs_bind (l : Su) (x : ByteArray) (hs : SortS l) (hn : l.length ≤ 2305843009213693952) (Q : D → Heap → Prop)
    (hQ : ∀ k, Place l x k → Q (.tup [iD k, bD (boundS l x)]) [.row t_Bind (encS l)]) :
    cl f_slices_BinarySearchFunc_Bind_string [.osl (.own 0) l.length, sD x, .fn f_unify_bind_1 []] [.row t_Bind (encS l)] Q := by
  refine C_slices_BinarySearchFunc_Bind_string_unifybind1 _ _ _ _ ⟨encS_length l, fun hb => ?_⟩
  have hl := encS_length l
  refine rule_slices_BinarySearchFunc_Bind_string_unifybind1_0 Q (fun x0 x1 x8 x9 x10 h0 => (x0 = l.length ∧ h0 = encS l) ∧ x1 = x ∧ x8 = (l.length : Int) ∧ ∃ lo hi : Nat, x9 = lo ∧ x10 = hi ∧ lo ≤ hi ∧ hi ≤ l.length ∧ (∀ k (h : k < l.length), k < lo → cmpN (l[k]).1 x = -1) ∧ (∀ k (h : k < l.length), hi ≤ k → cmpN (l[k]).1 x ≠ -1)) (fun _ x1 x8 x9 x10 _ => (x10 - x9).toNat) (fun x0 x1 x8 x9 x10 h0 hI m0 hK => ?_) _ _ _ _ _ _ ⟨⟨rfl, rfl⟩, rfl, rfl, 0, l.length, rfl, rfl, Nat.zero_le _, Nat.le_refl _, fun k _ h => by omega, fun k h h' => by omega⟩
  obtain ⟨⟨e0, e00⟩, e1, e8, lo, hi, e9, e10, h1, h2, h3, h4⟩ := hI
  rw [e9, e10] at hK
  rw [e0, e00, e1, e8, e9, e10]
  unfold st_slices_BinarySearchFunc_Bind_string_unifybind1_0
  rw [mid_eq2 lo hi (by omega)]
  refine iff_dec (fun h => ?_) (fun h => ?_)
  · have hm : (lo + hi) / 2 < l.length := by omega
    rw [Int.toNat_natCast]
    simp only [encS_getD _ _ hm, Tm.enc_eq, List.drop_zero, List.headD_cons, List.tail_cons]
    refine ⟨by omega, hl, by omega, by omega, hl, hm, unify_bind_1_ok (l[(lo + hi) / 2]) x _ ⟨rfl, rfl, iff_dec (fun h5 => ?_) (fun h5 => ?_)⟩⟩
    · have h5 : cmpN (l[(lo + hi) / 2]).1 x < 0 := h5
      rw [wrap_in _ (by omega) (by omega)]
      refine hK _ _ _ _ _ _ ⟨⟨rfl, rfl⟩, rfl, rfl, (lo + hi) / 2 + 1, hi, by omega, rfl, by omega, h2, fun k hk hlt => ?_, h4⟩ (by omega)
      have h6 : cmpN (l[(lo + hi) / 2]).1 x = -1 := by rcases cmpN_cases (l[(lo + hi) / 2]).1 x with h | h | h <;> omega
      rcases Nat.lt_succ_iff_lt_or_eq.1 hlt with h8 | h8
      · exact cmpN_trans (hs.lt k _ hk hm h8) h6
      · subst h8; exact h6
    · have h5 : ¬ cmpN (l[(lo + hi) / 2]).1 x < 0 := h5
      refine hK _ _ _ _ _ _ ⟨⟨rfl, rfl⟩, rfl, rfl, lo, (lo + hi) / 2, rfl, rfl, by omega, by omega, h3, fun k hk hle he => ?_⟩ (by omega)
      rcases Nat.lt_or_eq_of_le hle with h8 | h8
      · have := cmpN_trans (hs.lt _ k hm hk h8) he
        omega
      · subst h8; omega
  · have e : lo = hi := by omega
    subst e
    have hp : Place l x lo := ⟨h2, h3, fun h => h4 lo h (Nat.le_refl _)⟩
    have hQ := hQ lo hp
    refine iff_dec (fun h5 => ?_) (fun h5 => ⟨⟨trivial, trivial, trivial⟩, ?_⟩)
    · have hlo : lo < l.length := by omega
      rw [Int.toNat_natCast]
      simp only [encS_getD _ _ hlo, Tm.enc_eq, List.drop_zero, List.headD_cons, List.tail_cons]
      refine ⟨hl, by omega, by omega, hl, hlo, unify_bind_1_ok (l[lo]) x _ ⟨rfl, rfl, ⟨trivial, trivial, trivial⟩, ?_⟩⟩
      have e : boundS l x = (cmpN (l[lo]).1 x == 0) := by
        rw [Bool.eq_iff_iff, hp.bound hs, beq_iff_eq, cmpN_zero]
        exact ⟨fun ⟨_, h⟩ => h, fun h => ⟨hlo, h⟩⟩
      rw [e] at hQ
      exact hQ
    · have e : boundS l x = false := by
        rw [← Bool.not_eq_true, hp.bound hs]
        rintro ⟨h, _⟩; omega
      rw [e] at hQ
      exact hQ
theorem unify_bind_ok (l : Su) (v : ByteArray) (t : Tm) (hs : SortS l) (hn : l.length ≤ 1099511627776) (Q : D → Heap → Prop) (hQ : Q (.osl (.own 0) (l.length + 1)) [.row t_Bind (encS (withS l v t))]) :
    cl f_unify_bind [.osl (.own 0) l.length, sD v, tD t] [.row t_Bind (encS l)] Q := by
  refine C_unify_bind _ _ _ _ _ _ _ ?_
  unfold vc_unify_bind
  refine bs_bind l v hs (by omega) _ fun k hp => ⟨rfl, rfl, ?_⟩
  refine insert_ok (encS l) [V.s v, V.s t.name, V.b t.var, V.l (Tm.encL t.args)] (V.i k) l.length k (encS_length l) hp.le rfl hn rfl ⟨rfl, rfl, trivial, ?_⟩
  have e : (encS l).take k ++ [V.s v, V.s t.name, V.b t.var, V.l (Tm.encL t.args)] :: (encS l).drop k = encS (withS l v t) := by
    rw [encS_withS v t k l hp.le hp.lo hp.hi, Tm.enc_eq]
  show Q (.osl (.own 0) (l.length + 1)) [.row 48 ((encS l).take k ++ [V.s v, V.s t.name, V.b t.var, V.l (Tm.encL t.args)] :: (encS l).drop k)]
  rw [e]; exact hQ
abbrev imD (l : Su) (x : ByteArray) : D := .tup [tD (if boundS l x then Tm.image l x else .mk bz false []), bD (boundS l x)]
theorem term_Image_ok (l : Su) (x : ByteArray) (hs : SortS l) (hn : l.length ≤ 1099511627776) (Q : D → Heap → Prop) (hQ : Q (imD l x) [.row t_Bind (encS l)]) :
    cl f_term_Image [.osl (.own 0) l.length, sD x] [.row t_Bind (encS l)] Q := by
  refine ACalls.as ?_
  refine C_term_Image _ _ _ _ ?_
  unfold vc_term_Image
  have hl := encS_length l
  refine bs_image l x hs (by omega) _ fun k hp => ⟨rfl, rfl, ?_⟩
  refine iff_not (iff_intro (fun h => ?_) (fun h => ?_))
  · have h : boundS l x = true := h
    obtain ⟨hk, hx⟩ := (hp.bound hs).1 h
    show (encS l).length = l.length ∧ 0 ≤ (k : Int) ∧ (k : Int) < (l.length : Int) ∧ (encS l).length = l.length ∧ ((k : Int)).toNat < l.length ∧ (encS l).length = l.length ∧ ((k : Int)).toNat < l.length ∧ _ ∧ _
    refine ⟨hl, by omega, by omega, hl, by omega, hl, by omega, ⟨⟨trivial, trivial, trivial, trivial⟩, trivial, trivial⟩, imD l x, ?_, hQ⟩
    have him : Tm.image l x = (l[k]).2 := by
      have := image_sort hs (List.getElem_mem hk)
      rwa [hx] at this
    unfold imD
    rw [h, if_pos rfl, him]
    have : (encS l).getD ((k : Int)).toNat [] = [V.s (l[k]).1, V.s (l[k]).2.name, V.b (l[k]).2.var, V.l (Tm.encL (l[k]).2.args)] := by
      rw [Int.toNat_natCast, encS_getD l k hk, Tm.enc_eq]
    show As (.tup [.agg [.v .str (((((encS l).getD ((k : Int)).toNat []).drop 1).headD V.none)), .v .bool (((((encS l).getD ((k : Int)).toNat []).drop 1).tail).headD V.none), .v (.sl t_Term) ((((((encS l).getD ((k : Int)).toNat []).drop 1).tail).tail).headD V.none)], .v .bool (V.b true)]) _
    rw [this]
    exact .refl _
  · have h : boundS l x = false := h
    refine ⟨⟨⟨trivial, trivial, trivial, trivial⟩, trivial, trivial⟩, imD l x, ?_, hQ⟩
    unfold imD
    rw [h, if_neg (by simp)]
    exact As.pair (.last3 _ _ _) (.refl _)
theorem slices_EqualFunc_ok (l m : List Tm) (ih : ∀ a ∈ l, ∀ b, Fn f_term_Equal [tD a, tD b] (bD (Tm.eqB a b))) : Fn f_slices_EqualFunc_Term_Term [tsD l, tsD m, .fn f_term_Equal []] (bD (decide (l.length = m.length) && decide (Tm.cmpL l m = 0))) := fun Q hQ => by
  refine C_slices_EqualFunc_Term_Term_termEqual _ _ _ fun hb hb2 => ?_
  have l1 := Tm.encL_length l
  have l2 := Tm.encL_length m
  rw [l1, l2]
  rw [l1] at hb
  refine iff_bne (fun h => ⟨trivial, ?_⟩) (fun h hb => ?_)
  · rw [decide_eq_false (show ¬ l.length = m.length by omega), Bool.false_and] at hQ; exact hQ
  · have he : l.length = m.length := by omega
    rw [decide_eq_true he, Bool.true_and] at hQ
    have key : ∀ {l m : List Tm}, l.length = m.length → (Tm.cmpL l m = 0 ↔ l = m) := fun h => Tm.cmpL_zero h fun a _ b => Tm.cmp_zero
    refine range_slices_EqualFunc_Term_Term_termEqual_0 Q _ _ _ hb (fun k => l.take k = m.take k) (fun k hk hJ K hK => ?_) (fun hJ => ?_) 0 (Nat.zero_le _) rfl
    · have hk2 : k < m.length := by omega
      simp only [Tm.encL_getD _ k hk, Tm.encL_getD _ k hk2, Tm.enc_eq, List.drop_zero, List.headD_cons, List.tail_cons]
      refine ⟨by omega, by omega, by omega, by omega, ih _ (List.getElem_mem hk) (m[k]) _ ⟨rfl, rfl, iff_not (iff_intro (fun h2 => hK ?_) (fun h2 => ⟨trivial, ?_⟩))⟩⟩
      · have h2 : Tm.eqB l[k] m[k] = true := h2
        rw [Tm.eqB_iff] at h2
        rw [List.take_succ_eq_append_getElem hk, List.take_succ_eq_append_getElem hk2, hJ, h2]
      · have h2 : Tm.eqB l[k] m[k] = false := h2
        rw [Tm.eqB_false] at h2
        rw [decide_eq_false fun h3 => h2 (by rw [key he] at h3; subst h3; rfl)] at hQ
        exact hQ
    · rw [List.take_length, he, List.take_length] at hJ
      rw [decide_eq_true ((key he).2 hJ)] at hQ
      exact ⟨trivial, hQ⟩
theorem term_Equal_ok : ∀ (a b : Tm), Fn f_term_Equal [tD a, tD b] (bD (Tm.eqB a b)) := Tm.ind fun a ih b Q hQ => by
  refine C_term_Equal _ _ _ _ _ _ _ ?_
  unfold vc_term_Equal
  have bad : a ≠ b → Q (bD false) [] := fun h => by rw [Tm.eqB_false.2 h] at hQ; exact hQ
  rw [ba_beq]
  refine iff_dec (fun h1 => iff_beq (fun h2 => slices_EqualFunc_ok a.args b.args ih _ ⟨rfl, rfl, trivial, ?_⟩) (fun h2 => ⟨trivial, bad fun e => h2 (by rw [e])⟩)) (fun h1 => ⟨trivial, bad fun e => h1 (by rw [e])⟩)
  have e : Tm.eqB a b = (decide (a.args.length = b.args.length) && decide (Tm.cmpL a.args b.args = 0)) := by
    rw [Bool.eq_iff_iff, Tm.eqB_iff, Bool.and_eq_true, decide_eq_true_iff, decide_eq_true_iff]
    constructor
    · rintro rfl; exact ⟨rfl, (Tm.cmpL_zero rfl fun a _ b => Tm.cmp_zero).2 rfl⟩
    · rintro ⟨h3, h4⟩; exact Tm.ext h1 h2 ((Tm.cmpL_zero h3 fun a _ b => Tm.cmp_zero).1 h4)
  rw [e] at hQ
  exact hQ
theorem term_Own_ok : ∀ t : Tm, t.size ≤ lim → Fn f_term_Own [tD t] (tD t) := Tm.ind fun t ih hB Q hQ => by
  refine C_term_Own _ _ _ _ fun hb => ?_
  have hl := Tm.encL_length t.args
  rw [hl] at hb ⊢
  have hsz := Tm.size_eq t
  have hls := Tm.length_sizeL t.args
  refine range_term_Own_0 Q _ _ _ _ _ _ hb (fun k n y => n = k ∧ y = Tm.encL (t.args.take k)) (fun k n y hk hJ K hK => ?_) (fun n y hJ => ?_) 0 0 _ (Nat.zero_le _) ⟨rfl, rfl⟩
  · simp only [Tm.encL_getD _ k hk, Tm.enc_eq, List.drop_zero, List.headD_cons, List.tail_cons]
    obtain ⟨rfl, rfl⟩ := hJ
    have hm := Tm.size_mem (List.getElem_mem hk)
    refine ⟨by omega, by omega, tD (t.args[n]), (ih _ (List.getElem_mem hk) (by omega)).here rfl, ?_, ?_, hK _ _ ⟨rfl, ?_⟩⟩
    · rw [Tm.encL_length, List.length_take]; omega
    · show n + 1 ≤ lim; omega
    · rw [List.take_succ_eq_append_getElem hk, Tm.encL_eq, Tm.encL_eq, List.map_append]
      congr 1
      simp only [List.map_cons, List.map_nil]
      rw [Tm.enc_eq]
      rfl
  · obtain ⟨rfl, rfl⟩ := hJ
    rw [List.take_length]
    exact ⟨⟨trivial, trivial, hl.symm, trivial⟩, hQ⟩
end Go.Proofs.Ytgohjdaepcmonaa
set_option linter.unusedVariables false
set_option linter.unusedSimpArgs false
namespace Go.Proofs.Ytgohjdaepcmonaa
open Go.Abs
namespace Tm
theorem mat_sort : ∀ (p : Tm) (s : Su) (t : Tm), SortS s → SortS (mat p s t).1 := ind fun p ih s t hs => by
  rw [mat_eq]
  have hL : ∀ (ps : List Tm), (∀ q ∈ ps, ∀ (s : Su) (t : Tm), SortS s → SortS (mat q s t).1) → ∀ (s : Su) (ts : List Tm), SortS s → SortS (matL ps s ts).1 := fun ps => by
    induction ps with
    | nil => intro _ s ts hs; exact hs
    | cons q r ihr =>
      intro h s ts hs
      cases ts with
      | nil => exact hs
      | cons t ts =>
        simp only [matL]
        split
        · exact ihr (fun q hq => h q (List.mem_cons_of_mem _ hq)) _ ts (h q (by simp) s t hs)
        · trivial
  split
  · split
    · exact hs
    · rename_i h; exact withS_sort hs (boundS_false.1 (by simpa using h))
  · split
    · trivial
    · exact hL _ ih s t.args hs
theorem matK_sort (ps : List Tm) (s : Su) (ts : List Tm) (k : Nat) (hs : SortS s) : SortS (matK ps s ts k).1 := by
  have := mat_sort (mk bz false (ps.take k)) s (mk bz false (ts.take (ps.take k).length)) 
  unfold matK
  have hL : ∀ (ps : List Tm) (s : Su) (ts : List Tm), SortS s → SortS (matL ps s ts).1 := fun ps => by
    induction ps with
    | nil => intro s ts hs; exact hs
    | cons q r ihr =>
      intro s ts hs
      cases ts with
      | nil => exact hs
      | cons t ts =>
        simp only [matL]
        split
        · exact ihr _ ts (mat_sort q s t hs)
        · trivial
  exact hL _ s ts hs
end Tm
abbrev mtH (s : Su) : Heap := [.cells [.osl (.own 1) s.length], .row t_Bind (encS s)]
theorem unify_matcher_match_ok : ∀ (p : Tm) (s : Su) (t : Tm), SortS s → s.length + p.size ≤ 1099511627776 → ∀ Q : D → Heap → Prop,
    ((Tm.mat p s t).2 = true → Q (bD true) (mtH (Tm.mat p s t).1)) → ((Tm.mat p s t).2 = false → ∀ s', Q (bD false) (mtH s')) →
    cl f_unify_matcher_match [.ptr (.own 0) 0, tD p, tD t] (mtH s) Q := Tm.ind fun p ih s t hs hB Q hQ1 hQ2 => by
  refine C_unify_matcher_match _ _ _ _ _ _ _ _ _ ?_
  unfold vc_unify_matcher_match
  have hsz := Tm.size_eq p
  have hp := Tm.size_pos p
  rw [Tm.mat_eq] at hQ1 hQ2
  refine iff_intro (fun h => ?_) (fun h => ?_)
  · rw [if_pos h] at hQ1 hQ2
    refine ⟨imD s p.name, term_Image_ok s p.name hs (by omega) _ ⟨rfl, rfl⟩, iff_intro (fun h1 => ?_) (fun h1 => ?_)⟩
    · have h1 : boundS s p.name = true := h1
      rw [if_pos h1] at hQ1 hQ2
      show cl f_term_Equal [tD (if boundS s p.name then Tm.image s p.name else .mk bz false []), tD t] [] _
      rw [if_pos h1]
      refine term_Equal_ok _ _ _ ⟨rfl, rfl, trivial, ?_⟩
      cases h2 : Tm.eqB (Tm.image s p.name) t with
      | true => exact hQ1 h2
      | false => exact hQ2 h2 s
    · have h1 : boundS s p.name = false := h1
      rw [if_neg (by rw [h1]; simp)] at hQ1 hQ2
      refine unify_bind_ok s p.name t hs (by omega) _ ⟨rfl, rfl, trivial, ?_⟩
      have := hQ1 rfl
      simp only [mtH, withS_length] at this
      exact this
  · rw [if_neg (by rw [h]; simp)] at hQ1 hQ2
    have bad : (if t.var || !(decide (t.name = p.name)) || !(decide (t.args.length = p.args.length)) then ([], false) else Tm.matL p.args s t.args) = (([], false) : Su × Bool) → ∀ s', Q (bD false) (mtH s') := fun e => hQ2 (by rw [e])
    refine iff_intro (fun h1 => ⟨trivial, bad (by rw [h1]; rfl) s⟩) (fun h1 => ?_)
    rw [ba_beq]
    refine iff_not (iff_dec (fun h2 hb hb2 => ?_) (fun h2 => ⟨trivial, bad (by rw [h1, decide_eq_false (fun e => h2 e.symm)]; rfl) s⟩))
    have l1 := Tm.encL_length t.args
    have l2 := Tm.encL_length p.args
    rw [l2] at hb
    rw [l1, l2]
    refine iff_bne (fun h3 => ⟨trivial, bad (by rw [h1, decide_eq_true h2.symm, decide_eq_false (show ¬ t.args.length = p.args.length by omega)]; rfl) s⟩) (fun h3 => ?_)
    have h3 : t.args.length = p.args.length := by omega
    rw [h1, decide_eq_true h2.symm, decide_eq_true h3] at hQ1 hQ2 bad
    simp only [Bool.not_true, Bool.or_false, Bool.false_eq_true, if_false] at hQ1 hQ2 bad
    rw [jp_unify_matcher_match_0_s]
    intro _
    rw [l2]
    refine range_unify_matcher_match_0 Q _ _ _ _ _ _ _ hb (fun k n y => n = (Tm.matK p.args s t.args k).1.length ∧ y = encS (Tm.matK p.args s t.args k).1 ∧ (Tm.matK p.args s t.args k).2 = true) (fun k n y hk hJ K hK => ?_) (fun n y hJ => ?_) 0 _ _ (Nat.zero_le _) ⟨rfl, rfl, rfl⟩
    · have hk2 : k < t.args.length := by omega
      obtain ⟨rfl, rfl, hJ⟩ := hJ
      simp only [Tm.encL_getD _ k hk, Tm.encL_getD _ k hk2, Tm.enc_eq, List.drop_zero, List.headD_cons, List.tail_cons]
      have hst := Tm.matL_step k p.args s t.args hk hk2 hJ
      have hlen := Tm.matK_length p.args s t.args k
      have g1 := Tm.sizeL_take _ k hk
      have g2 := Tm.sizeL_take_le p.args (k + 1)
      refine ⟨by omega, by omega, by omega, by omega, ih _ (List.getElem_mem hk) (Tm.matK p.args s t.args k).1 (t.args[k]) (Tm.matK_sort _ _ _ _ hs) (by omega) _ (fun h4 => ⟨rfl, rfl, ?_⟩) (fun h4 s' => ⟨rfl, rfl, ?_⟩)⟩
      · refine hK _ _ ⟨?_, ?_, ?_⟩
        · rw [hst, if_pos h4]; rfl
        · rw [hst, if_pos h4]; rfl
        · rw [hst, if_pos h4]; exact h4
      · exact ⟨trivial, bad (Tm.matK_false (k + 1) _ _ _ hk (by rw [hst, if_neg (by rw [h4]; simp)])) s'⟩
    · obtain ⟨rfl, rfl, hJ⟩ := hJ
      have e : Tm.matK p.args s t.args p.args.length = Tm.matL p.args s t.args := by rw [Tm.matK, List.take_length]
      rw [e] at hJ ⊢
      exact ⟨trivial, hQ1 hJ⟩
theorem unify_Find_ok (p t : Tm) (hB : p.size ≤ 1099511627776) (Q : D → Heap → Prop)
    (hQ1 : (Tm.mat p [] t).2 = true → Q (.tup [suD (Tm.mat p [] t).1, bD true]) []) (hQ2 : (Tm.mat p [] t).2 = false → ∀ s', Q (.tup [suD s', bD false]) []) :
    cl f_unify_Find [tD p, tD t] [] Q := by
  refine C_unify_Find _ _ _ _ _ _ _ ?_
  unfold vc_unify_Find
  refine unify_matcher_match_ok p [] t trivial (by simpa using hB) _ (fun h => ⟨rfl, rfl, ⟨?_, trivial, trivial⟩, hQ1 h⟩) (fun h s' => ⟨rfl, rfl, ⟨?_, trivial, trivial⟩, hQ2 h s'⟩)
  · exact (encS_length _).symm
  · exact (encS_length _).symm
def matchR (p t : Tm) : Su × Bool × Int := if Tm.checkAll [p, t] ≠ 0 then ([], false, Tm.checkAll [p, t]) else if (Tm.mat p [] t).2 then ((Tm.mat p [] t).1, true, 0) else ([], false, 0)
theorem unify_Match_ok (p t : Tm) (hB : p.size ≤ 1048576 ∧ t.size ≤ 1048576) (hS : ∀ y ∈ (Tm.mat p [] t).1, y.2.size ≤ lim) : Fn f_unify_Match [tD p, tD t] (.tup [suD (matchR p t).1, bD (matchR p t).2.1, iD (matchR p t).2.2]) := Fn.as fun Q hQ => by
  refine C_unify_Match _ _ _ _ _ _ _ ?_
  unfold vc_unify_Match
  have hlim : lim = 549755813888 := rfl
  have hsm : small = 1152921504606846976 := rfl
  have nilR : ∀ b e, (matchR p t) = (([], b, e) : Su × Bool × Int) → Q (.tup [.nil, bD b, iD e]) [] := fun b e h => by
    rw [h] at hQ
    refine hQ _ (.tup _ _ rfl fun j => ?_)
    match j with
    | 0 => exact .nil _ _ rfl
    | 1 => exact .refl _
    | 2 => exact .refl _
    | j + 3 => exact .refl _
  rw [show [[V.s p.name, V.b p.var, V.l (Tm.encL p.args)], [V.s t.name, V.b t.var, V.l (Tm.encL t.args)]] = Tm.encL [p, t] by simp [Tm.encL, Tm.enc_eq]]
  refine term_All_ok [p, t] (fun x hx => ?_) _ ⟨rfl, rfl, iff_bne (fun h => ⟨⟨trivial, trivial, trivial, trivial⟩, nilR _ _ ?_⟩) (fun h => ?_)⟩
  · simp only [List.mem_cons, List.not_mem_nil, or_false] at hx
    rcases hx with rfl | rfl <;> omega
  · have h : Tm.checkAll [p, t] ≠ 0 := h
    unfold matchR; rw [if_pos h]
  · have h : ¬ Tm.checkAll [p, t] ≠ 0 := fun h' => h' h
    refine unify_Find_ok p t (by omega) _ (fun h1 => ⟨rfl, rfl, iff_not (iff_intro (fun _ => ?_) (fun h2 => by cases h2))⟩) (fun h1 s' => ⟨rfl, rfl, iff_not (iff_intro (fun h2 => by cases h2) (fun _ => ⟨⟨trivial, trivial, trivial, trivial⟩, nilR _ _ ?_⟩))⟩)
    · have hR : matchR p t = ((Tm.mat p [] t).1, true, 0) := by unfold matchR; rw [if_neg h, if_pos h1]
      rw [hR] at hQ
      have hsl := Tm.mat_length p [] t
      have hl := encS_length (Tm.mat p [] t).1
      generalize hS' : (Tm.mat p [] t).1 = S at *
      show _ ≤ big → ∃ m0, lp_unify_Match_0 Q m0 0 (V.l (encS S)) ((encS S).length : Int) 0 []
      intro hb
      rw [hl]
      have hb' : S.length ≤ big := hl ▸ hb
      simp only [List.length_nil] at hsl
      refine range_unify_Match_0 Q _ _ hb' (fun k n y => n = k ∧ y = encS (S.take k)) (fun k n y hk hJ K hK => ?_) (fun n y hJ => ?_) 0 0 _ (Nat.zero_le _) ⟨rfl, rfl⟩
      · obtain ⟨rfl, rfl⟩ := hJ
        simp only [list_l, encS_getD _ n hk, Tm.enc_eq, List.drop_zero, List.headD_cons, List.tail_cons]
        refine ⟨by omega, by omega, tD (S[n]).2, (term_Own_ok _ (hS _ (List.getElem_mem hk))).here rfl, ?_, ?_, hK _ _ ⟨rfl, ?_⟩⟩
        · rw [encS_length, List.length_take]; omega
        · show n + 1 ≤ lim; omega
        · rw [List.take_succ_eq_append_getElem hk]
          simp only [encS, encB, List.map_append, List.map_cons, List.map_nil, Tm.enc_eq]
          rfl
      · obtain ⟨rfl, rfl⟩ := hJ
        rw [List.take_length]
        exact ⟨⟨hl.symm, trivial, trivial, trivial⟩, hQ _ (.refl _)⟩
    · unfold matchR; rw [if_neg h, if_neg (by rw [h1]; simp)]
end Go.Proofs.Ytgohjdaepcmonaa
set_option linter.unusedVariables false
set_option linter.unusedSimpArgs false
namespace Go.Proofs.Ytgohjdaepcmonaa
open Go.Abs
namespace Tm
mutual
def sub (f : ByteArray → Tm) : Tm → Tm | mk n v xs => if v then f n else mk n false (subL f xs)
def subL (f : ByteArray → Tm) : List Tm → List Tm | [] => [] | t :: r => sub f t :: subL f r
end
theorem subL_map (f : ByteArray → Tm) : ∀ l : List Tm, subL f l = l.map (sub f)
  | [] => rfl
  | t :: r => by rw [subL, subL_map f r]; rfl
theorem sub_eq (f : ByteArray → Tm) : ∀ t : Tm, sub f t = if t.var then f t.name else mk t.name false (t.args.map (sub f))
  | mk n v xs => by rw [sub, subL_map]; rfl
theorem sub_var (f : ByteArray → Tm) {t : Tm} (h : t.var = true) : sub f t = f t.name := by rw [sub_eq, if_pos h]
theorem sub_fn (f : ByteArray → Tm) {t : Tm} (h : t.var = false) : sub f t = mk t.name false (t.args.map (sub f)) := by rw [sub_eq, if_neg (by rw [h]; simp)]
theorem app_sub (l : Su) : ∀ t : Tm, app l t = sub (image l) t := ind fun t ih => by
  rw [app_eq, sub_eq]
  split
  · rfl
  · congr 1
    exact List.map_congr_left fun a ha => ih a ha
mutual
def vs : Tm → List ByteArray | mk n v xs => if v then [n] else vsL xs
def vsL : List Tm → List ByteArray | [] => [] | t :: r => vs t ++ vsL r
end
theorem vsL_mem {x : ByteArray} : ∀ {l : List Tm}, x ∈ vsL l ↔ ∃ a ∈ l, x ∈ vs a
  | [] => by simp [vsL]
  | t :: r => by rw [vsL, List.mem_append, vsL_mem]; simp
theorem vs_eq : ∀ t : Tm, vs t = if t.var then [t.name] else vsL t.args | mk _ _ _ => rfl
theorem vs_var {t : Tm} (h : t.var = true) {x : ByteArray} : x ∈ vs t ↔ x = t.name := by rw [vs_eq, if_pos h]; simp
theorem vs_fn {t : Tm} (h : t.var = false) {x : ByteArray} : x ∈ vs t ↔ ∃ a ∈ t.args, x ∈ vs a := by rw [vs_eq, if_neg (by rw [h]; simp), vsL_mem]
theorem sub_congr {f g : ByteArray → Tm} : ∀ t : Tm, (∀ x ∈ vs t, f x = g x) → sub f t = sub g t := ind fun t ih h => by
  cases hv : t.var with
  | true => rw [sub_var _ hv, sub_var _ hv]; exact h _ ((vs_var hv).2 rfl)
  | false =>
    rw [sub_fn _ hv, sub_fn _ hv]
    congr 1
    exact List.map_congr_left fun a ha => ih a ha fun x hx => h x ((vs_fn hv).2 ⟨a, ha, hx⟩)
theorem sub_sub (f g : ByteArray → Tm) : ∀ t : Tm, sub g (sub f t) = sub (fun x => sub g (f x)) t := ind fun t ih => by
  cases hv : t.var with
  | true => rw [sub_var _ hv, sub_var _ hv]
  | false =>
    rw [sub_fn _ hv, sub_fn _ hv, sub_fn _ rfl]
    show mk t.name false _ = _
    congr 1
    rw [show (mk t.name false (t.args.map (sub f))).args = t.args.map (sub f) from rfl, List.map_map]
    exact List.map_congr_left fun a ha => ih a ha
theorem vs_sub {f : ByteArray → Tm} {x : ByteArray} : ∀ t : Tm, x ∈ vs (sub f t) ↔ ∃ y ∈ vs t, x ∈ vs (f y) := ind fun t ih => by
  cases hv : t.var with
  | true =>
    rw [sub_var _ hv]
    constructor
    · exact fun h => ⟨_, (vs_var hv).2 rfl, h⟩
    · rintro ⟨y, hy, h⟩; rw [(vs_var hv).1 hy] at h; exact h
  | false =>
    rw [sub_fn _ hv, vs_fn rfl]
    constructor
    · rintro ⟨a, ha, h⟩
      obtain ⟨b, hb, rfl⟩ := List.mem_map.1 ha
      obtain ⟨y, hy, h2⟩ := (ih b hb).1 h
      exact ⟨y, (vs_fn hv).2 ⟨b, hb, hy⟩, h2⟩
    · rintro ⟨y, hy, h⟩
      obtain ⟨b, hb, hy2⟩ := (vs_fn hv).1 hy
      exact ⟨sub f b, List.mem_map.2 ⟨b, hb, rfl⟩, (ih b hb).2 ⟨y, hy2, h⟩⟩
theorem size_sub {f : ByteArray → Tm} {y : ByteArray} : ∀ t : Tm, y ∈ vs t → (f y).size ≤ (sub f t).size := ind fun t ih h => by
  cases hv : t.var with
  | true => rw [sub_var _ hv, (vs_var hv).1 h]; exact Nat.le_refl _
  | false =>
    obtain ⟨a, ha, hy⟩ := (vs_fn hv).1 h
    have h1 := ih a ha hy
    have h2 := size_mem (t := sub f t) (a := sub f a) (by rw [sub_fn _ hv]; exact List.mem_map.2 ⟨a, ha, rfl⟩)
    omega
theorem size_sub_lt {f : ByteArray → Tm} {y : ByteArray} {t : Tm} (hv : t.var = false) (h : y ∈ vs t) : (f y).size < (sub f t).size := by
  obtain ⟨a, ha, hy⟩ := (vs_fn hv).1 h
  have h1 := size_sub (f := f) a hy
  have h2 := size_mem (t := sub f t) (a := sub f a) (by rw [sub_fn _ hv]; exact List.mem_map.2 ⟨a, ha, rfl⟩)
  omega
abbrev vr (x : ByteArray) : Tm := mk x true []
end Tm
open Tm
abbrev Bd := ByteArray → Option Tm
def updB (σ : Bd) (x : ByteArray) (t : Tm) : Bd := fun y => if y = x then some t else σ y
theorem updB_self (σ : Bd) (x : ByteArray) (t : Tm) : updB σ x t x = some t := by simp [updB]
theorem updB_ne (σ : Bd) {x y : ByteArray} (t : Tm) (h : y ≠ x) : updB σ x t y = σ y := by simp [updB, h]
structure Tri (σ : Bd) (θ : ByteArray → Tm) (r : ByteArray → Nat) : Prop where
  bnd : ∀ x t, σ x = some t → θ x = sub θ t
  fre : ∀ x, σ x = none → θ x = vr x
  rk : ∀ x t, σ x = some t → ∀ y ∈ vs t, r y < r x
theorem Tri.free {σ : Bd} {θ : ByteArray → Tm} {r : ByteArray → Nat} (h : Tri σ θ r) : ∀ (n : Nat) (x : ByteArray), r x ≤ n → ∀ y ∈ vs (θ x), σ y = none := by
  intro n
  induction n with
  | zero =>
    intro x hx y hy
    cases hs : σ x with
    | none => rw [h.fre x hs, vs_var rfl] at hy; rw [hy]; exact hs
    | some t =>
      rw [h.bnd x t hs] at hy
      obtain ⟨z, hz, _⟩ := (vs_sub t).1 hy
      have := h.rk x t hs z hz; omega
  | succ n ih =>
    intro x hx y hy
    cases hs : σ x with
    | none => rw [h.fre x hs, vs_var rfl] at hy; rw [hy]; exact hs
    | some t =>
      rw [h.bnd x t hs] at hy
      obtain ⟨z, hz, hzy⟩ := (vs_sub t).1 hy
      have := h.rk x t hs z hz
      exact ih z (by omega) y hzy
theorem Tri.fr {σ : Bd} {θ : ByteArray → Tm} {r : ByteArray → Nat} (h : Tri σ θ r) {x y : ByteArray} (hy : y ∈ vs (θ x)) : σ y = none := h.free _ x (Nat.le_refl _) y hy
theorem Tri.idem {σ : Bd} {θ : ByteArray → Tm} {r : ByteArray → Nat} (h : Tri σ θ r) (t : Tm) : sub θ (sub θ t) = sub θ t := by
  rw [sub_sub]
  refine sub_congr t fun x _ => ?_
  have key : ∀ u : Tm, (∀ y ∈ vs u, σ y = none) → (∀ y ∈ vs u, vr y = θ y) := fun u hu y hy => (h.fre y (hu y hy)).symm
  have e : sub θ (θ x) = sub vr (θ x) := sub_congr _ fun y hy => h.fre y (h.fr hy)
  rw [e]
  -- what vr does to what θ yields
  have id1 : ∀ n (x : ByteArray), r x ≤ n → sub vr (θ x) = θ x := by
    intro n
    induction n with
    | zero =>
      intro x hx
      cases hs : σ x with
      | none => rw [h.fre x hs, sub_var _ rfl]; rfl
      | some t =>
        rw [h.bnd x t hs, sub_sub]
        exact sub_congr t fun z hz => by have := h.rk x t hs z hz; omega
    | succ n ih =>
      intro x hx
      cases hs : σ x with
      | none => rw [h.fre x hs, sub_var _ rfl]; rfl
      | some t =>
        rw [h.bnd x t hs, sub_sub]
        exact sub_congr t fun z hz => ih z (by have := h.rk x t hs z hz; omega)
  exact id1 _ x (Nat.le_refl _)
def maxR (r : ByteArray → Nat) : List ByteArray → Nat | [] => 0 | x :: l => max (r x) (maxR r l)
theorem maxR_mem {r : ByteArray → Nat} : ∀ {l : List ByteArray} {x : ByteArray}, x ∈ l → r x ≤ maxR r l
  | y :: l, x, h => by
    rw [maxR]
    rcases List.mem_cons.1 h with rfl | h
    · omega
    · have := maxR_mem (r := r) h; omega
open Classical in
theorem Tri.upd {σ : Bd} {θ : ByteArray → Tm} {r : ByteArray → Nat} (h : Tri σ θ r) {x : ByteArray} {t : Tm} (hx : σ x = none) (ho : x ∉ vs (sub θ t)) :
    Tri (updB σ x t) (fun y => sub (fun z => if z = x then sub θ t else vr z) (θ y)) (fun y => if x ∈ vs (θ y) then r y + (maxR r (vs t) + 1) else r y) := by
  have hθx : θ x = vr x := h.fre x hx
  have keep : ∀ u : Tm, x ∉ vs u → sub (fun z => if z = x then sub θ t else vr z) u = sub vr u := fun u hu => sub_congr u fun z hz => by
    exact if_neg fun e : z = x => hu (e ▸ hz)
  have vrθ : ∀ u : Tm, sub vr (sub θ u) = sub θ u := fun u => by
    rw [sub_sub]
    refine sub_congr u fun y _ => ?_
    have := h.idem (vr y)
    rw [sub_var θ (t := vr y) rfl] at this
    have e : sub θ (θ y) = sub vr (θ y) := sub_congr _ fun z hz => h.fre z (h.fr hz)
    rw [← e]; exact this
  refine ⟨fun y u hy => ?_, fun y hy => ?_, fun y u hy z hz => ?_⟩
  · by_cases hyx : y = x
    · subst hyx
      rw [updB_self] at hy
      cases hy
      show sub _ (θ y) = _
      rw [hθx, sub_var _ rfl]
      show (if y = y then sub θ t else vr y) = _
      rw [if_pos rfl, ← sub_sub, keep _ ho, vrθ]
    · rw [updB_ne _ _ hyx] at hy
      show sub _ (θ y) = _
      rw [h.bnd y u hy, sub_sub]
  · by_cases hyx : y = x
    · subst hyx; rw [updB_self] at hy; cases hy
    · rw [updB_ne _ _ hyx] at hy
      show sub _ (θ y) = _
      rw [h.fre y hy, sub_var _ rfl]
      show (if y = x then sub θ t else vr y) = _
      rw [if_neg hyx]
  · show (if x ∈ vs (θ z) then r z + (maxR r (vs t) + 1) else r z) < (if x ∈ vs (θ y) then r y + (maxR r (vs t) + 1) else r y)
    by_cases hyx : y = x
    · subst hyx
      rw [updB_self] at hy
      cases hy
      have hm := maxR_mem (r := r) hz
      rw [if_neg fun hin => ho ((vs_sub t).2 ⟨z, hz, hin⟩), if_pos (by rw [hθx]; simp [vs])]
      omega
    · rw [updB_ne _ _ hyx] at hy
      have hr := h.rk y u hy z hz
      by_cases h1 : x ∈ vs (θ z)
      · rw [if_pos h1, if_pos (by rw [h.bnd y u hy]; exact (vs_sub u).2 ⟨z, hz, h1⟩)]; omega
      · rw [if_neg h1]; split <;> omega
theorem Tri.empty : Tri (fun _ => none) vr (fun _ => 0) := ⟨fun x t h => (by cases h), fun _ _ => rfl, fun x t h => (by cases h)⟩
def Resp (τ : ByteArray → Tm) (σ : Bd) : Prop := ∀ x t, σ x = some t → τ x = sub τ t
theorem Tri.resp {σ : Bd} {θ : ByteArray → Tm} {r : ByteArray → Nat} (h : Tri σ θ r) : Resp θ σ := h.bnd
theorem Resp.upd {τ : ByteArray → Tm} {σ : Bd} {x : ByteArray} {t : Tm} (hx : σ x = none) (h : Resp τ (updB σ x t)) : Resp τ σ ∧ τ x = sub τ t := by
  refine ⟨fun y u hy => h y u ?_, h x t (updB_self _ _ _)⟩
  rw [updB_ne _ _ (fun e => by rw [e, hx] at hy; cases hy)]; exact hy
theorem Resp.mk {τ : ByteArray → Tm} {σ : Bd} {x : ByteArray} {t : Tm} (h : Resp τ σ) (ht : τ x = sub τ t) : Resp τ (updB σ x t) := fun y u hy => by
  by_cases hyx : y = x
  · subst hyx; rw [updB_self] at hy; cases hy; exact ht
  · rw [updB_ne _ _ hyx] at hy; exact h y u hy
theorem Tri.through {σ : Bd} {θ : ByteArray → Tm} {r : ByteArray → Nat} (h : Tri σ θ r) {τ : ByteArray → Tm} (hτ : Resp τ σ) : ∀ (n : Nat) (x : ByteArray), r x ≤ n → sub τ (θ x) = τ x := by
  intro n
  induction n with
  | zero =>
    intro x hx
    cases hs : σ x with
    | none => rw [h.fre x hs, sub_var _ rfl]; rfl
    | some t =>
      rw [h.bnd x t hs, sub_sub, hτ x t hs]
      exact sub_congr t fun z hz => by have := h.rk x t hs z hz; omega
  | succ n ih =>
    intro x hx
    cases hs : σ x with
    | none => rw [h.fre x hs, sub_var _ rfl]; rfl
    | some t =>
      rw [h.bnd x t hs, sub_sub, hτ x t hs]
      exact sub_congr t fun z hz => ih z (by have := h.rk x t hs z hz; omega)
theorem Tri.thr {σ : Bd} {θ : ByteArray → Tm} {r : ByteArray → Nat} (h : Tri σ θ r) {τ : ByteArray → Tm} (hτ : Resp τ σ) (t : Tm) : sub τ (sub θ t) = sub τ t := by
  rw [sub_sub]; exact sub_congr t fun x _ => h.through hτ _ x (Nat.le_refl _)
inductive Head (σ : Bd) : Tm → Tm → Prop
  | fn (t : Tm) : t.var = false → Head σ t t
  | free (t : Tm) : t.var = true → σ t.name = none → Head σ t t
  | step (t u h : Tm) : t.var = true → σ t.name = some u → Head σ u h → Head σ t h
theorem Head.end_ {σ : Bd} {t h : Tm} (a : Head σ t h) : h.var = true → σ h.name = none := by
  induction a with
  | fn t hv => intro h; rw [hv] at h; cases h
  | free t hv hs => exact fun _ => hs
  | step t u h hv hs _ ih => exact ih
theorem Head.sub {σ : Bd} {t h : Tm} (a : Head σ t h) {τ : ByteArray → Tm} (hτ : Resp τ σ) : Tm.sub τ t = Tm.sub τ h := by
  induction a with
  | fn t hv => rfl
  | free t hv hs => rfl
  | step t u h hv hs _ ih => rw [sub_var _ hv, hτ _ _ hs]; exact ih
theorem Head.total {σ : Bd} {θ : ByteArray → Tm} {r : ByteArray → Nat} (h : Tri σ θ r) : ∀ (n : Nat) (t : Tm), (t.var = true → r t.name ≤ n) → ∃ u, Head σ t u := by
  intro n
  induction n with
  | zero =>
    intro t ht
    cases hv : t.var with
    | false => exact ⟨t, .fn t hv⟩
    | true =>
      cases hs : σ t.name with
      | none => exact ⟨t, .free t hv hs⟩
      | some u =>
        cases hu : u.var with
        | false => exact ⟨u, .step t u u hv hs (.fn u hu)⟩
        | true => have := h.rk _ u hs u.name ((vs_var hu).2 rfl); have := ht hv; omega
  | succ n ih =>
    intro t ht
    cases hv : t.var with
    | false => exact ⟨t, .fn t hv⟩
    | true =>
      cases hs : σ t.name with
      | none => exact ⟨t, .free t hv hs⟩
      | some u =>
        obtain ⟨w, hw⟩ := ih u fun hu => by have := h.rk _ u hs u.name ((vs_var hu).2 rfl); have := ht hv; omega
        exact ⟨w, .step t u w hv hs hw⟩
theorem Head.ex {σ : Bd} {θ : ByteArray → Tm} {r : ByteArray → Nat} (h : Tri σ θ r) (t : Tm) : ∃ u, Head σ t u := Head.total h (r t.name) t fun _ => Nat.le_refl _
inductive Occ (σ : Bd) (v : ByteArray) : Tm → Prop
  | here (t : Tm) : v ∈ vs t → Occ σ v t
  | step (t u : Tm) (x : ByteArray) : x ∈ vs t → σ x = some u → Occ σ v u → Occ σ v t
theorem Occ.iff {σ : Bd} {θ : ByteArray → Tm} {r : ByteArray → Nat} (h : Tri σ θ r) {v : ByteArray} (hv : σ v = none) (t : Tm) : Occ σ v t ↔ v ∈ vs (sub θ t) := by
  constructor
  · intro ho
    induction ho with
    | here t ht => exact (vs_sub t).2 ⟨v, ht, by rw [h.fre v hv]; simp [vs]⟩
    | step t u x hx hs _ ih => exact (vs_sub t).2 ⟨x, hx, by rw [h.bnd x u hs]; exact ih⟩
  · have key : ∀ n (x : ByteArray), r x ≤ n → v ∈ vs (θ x) → v = x ∨ ∃ u, σ x = some u ∧ Occ σ v u := by
      intro n
      induction n with
      | zero =>
        intro x hx hm
        cases hs : σ x with
        | none => rw [h.fre x hs, vs_var rfl] at hm; exact .inl hm
        | some u =>
          rw [h.bnd x u hs] at hm
          obtain ⟨z, hz, _⟩ := (vs_sub u).1 hm
          have := h.rk x u hs z hz; omega
      | succ n ih =>
        intro x hx hm
        cases hs : σ x with
        | none => rw [h.fre x hs, vs_var rfl] at hm; exact .inl hm
        | some u =>
          rw [h.bnd x u hs] at hm
          obtain ⟨z, hz, hzm⟩ := (vs_sub u).1 hm
          have := h.rk x u hs z hz
          rcases ih z (by omega) hzm with rfl | ⟨w, hw, ho⟩
          · exact .inr ⟨u, rfl, .here u hz⟩
          · exact .inr ⟨u, rfl, .step u w z hz hw ho⟩
    intro hm
    obtain ⟨x, hx, hxm⟩ := (vs_sub t).1 hm
    rcases key _ x (Nat.le_refl _) hxm with rfl | ⟨u, hu, ho⟩
    · exact .here t hx
    · exact .step t u x hx hu ho
end Go.Proofs.Ytgohjdaepcmonaa
set_option linter.unusedVariables false
set_option linter.unusedSimpArgs false
namespace Go.Proofs.Ytgohjdaepcmonaa
open Go.Abs Tm
inductive Sl : Bd → List Tm → List Tm → Option Bd → Prop
  | nil (σ : Bd) : Sl σ [] [] (some σ)
  | same (σ : Bd) (a b a' b' : Tm) (xs ys : List Tm) (o : Option Bd) : Head σ a a' → Head σ b b' → a'.var = true → b'.var = true → a'.name = b'.name → Sl σ xs ys o → Sl σ (a :: xs) (b :: ys) o
  | setA (σ : Bd) (a b a' b' : Tm) (xs ys : List Tm) (o : Option Bd) : Head σ a a' → Head σ b b' → a'.var = true → ¬ (b'.var = true ∧ a'.name = b'.name) → ¬ Occ σ a'.name b' → Sl (updB σ a'.name b') xs ys o → Sl σ (a :: xs) (b :: ys) o
  | occA (σ : Bd) (a b a' b' : Tm) (xs ys : List Tm) : Head σ a a' → Head σ b b' → a'.var = true → ¬ (b'.var = true ∧ a'.name = b'.name) → Occ σ a'.name b' → Sl σ (a :: xs) (b :: ys) none
  | setB (σ : Bd) (a b a' b' : Tm) (xs ys : List Tm) (o : Option Bd) : Head σ a a' → Head σ b b' → a'.var = false → b'.var = true → ¬ Occ σ b'.name a' → Sl (updB σ b'.name a') xs ys o → Sl σ (a :: xs) (b :: ys) o
  | occB (σ : Bd) (a b a' b' : Tm) (xs ys : List Tm) : Head σ a a' → Head σ b b' → a'.var = false → b'.var = true → Occ σ b'.name a' → Sl σ (a :: xs) (b :: ys) none
  | clash (σ : Bd) (a b a' b' : Tm) (xs ys : List Tm) : Head σ a a' → Head σ b b' → a'.var = false → b'.var = false → ¬ (a'.name = b'.name ∧ a'.args.length = b'.args.length) → Sl σ (a :: xs) (b :: ys) none
  | args (σ σ1 : Bd) (a b a' b' : Tm) (xs ys : List Tm) (o : Option Bd) : Head σ a a' → Head σ b b' → a'.var = false → b'.var = false → a'.name = b'.name → a'.args.length = b'.args.length → Sl σ a'.args b'.args (some σ1) → Sl σ1 xs ys o → Sl σ (a :: xs) (b :: ys) o
  | argsN (σ : Bd) (a b a' b' : Tm) (xs ys : List Tm) : Head σ a a' → Head σ b b' → a'.var = false → b'.var = false → a'.name = b'.name → a'.args.length = b'.args.length → Sl σ a'.args b'.args none → Sl σ (a :: xs) (b :: ys) none
theorem sub_fn2 {τ : ByteArray → Tm} {a b : Tm} (ha : a.var = false) (hb : b.var = false) (hn : a.name = b.name) (h : a.args.map (sub τ) = b.args.map (sub τ)) : sub τ a = sub τ b := by
  rw [sub_fn _ ha, sub_fn _ hb, hn, h]
theorem Sl.mono {σ : Bd} {xs ys : List Tm} {o : Option Bd} (h : Sl σ xs ys o) : ∀ σ', o = some σ' → ∀ τ, Resp τ σ' → Resp τ σ ∧ xs.map (sub τ) = ys.map (sub τ) := by
  induction h with
  | nil σ => intro σ' e τ hτ; cases e; exact ⟨hτ, rfl⟩
  | same σ a b a' b' xs ys o ha hb va vb hn _ ih =>
    intro σ' e τ hτ
    obtain ⟨h1, h2⟩ := ih σ' e τ hτ
    refine ⟨h1, ?_⟩
    rw [List.map_cons, List.map_cons, h2, ha.sub h1, hb.sub h1, sub_var _ va, sub_var _ vb, hn]
  | setA σ a b a' b' xs ys o ha hb va hne ho _ ih =>
    intro σ' e τ hτ
    obtain ⟨h1, h2⟩ := ih σ' e τ hτ
    obtain ⟨h3, h4⟩ := Resp.upd (ha.end_ va) h1
    refine ⟨h3, ?_⟩
    rw [List.map_cons, List.map_cons, h2, ha.sub h3, hb.sub h3, sub_var _ va, h4]
  | occA => intro σ' e; cases e
  | setB σ a b a' b' xs ys o ha hb va vb ho _ ih =>
    intro σ' e τ hτ
    obtain ⟨h1, h2⟩ := ih σ' e τ hτ
    obtain ⟨h3, h4⟩ := Resp.upd (hb.end_ vb) h1
    refine ⟨h3, ?_⟩
    rw [List.map_cons, List.map_cons, h2, ha.sub h3, hb.sub h3, sub_var _ vb, h4]
  | occB => intro σ' e; cases e
  | clash => intro σ' e; cases e
  | args σ σ1 a b a' b' xs ys o ha hb va vb hn hl _ _ ih1 ih2 =>
    intro σ' e τ hτ
    obtain ⟨h1, h2⟩ := ih2 σ' e τ hτ
    obtain ⟨h3, h4⟩ := ih1 σ1 rfl τ h1
    refine ⟨h3, ?_⟩
    rw [List.map_cons, List.map_cons, h2, ha.sub h3, hb.sub h3, sub_fn2 va vb hn h4]
  | argsN => intro σ' e; cases e
theorem Sl.tri {σ : Bd} {xs ys : List Tm} {o : Option Bd} (h : Sl σ xs ys o) : ∀ σ', o = some σ' → ∀ θ r, Tri σ θ r → ∃ θ' r', Tri σ' θ' r' := by
  induction h with
  | nil σ => intro σ' e θ r ht; cases e; exact ⟨θ, r, ht⟩
  | same σ a b a' b' xs ys o ha hb va vb hn _ ih => exact ih
  | setA σ a b a' b' xs ys o ha hb va hne ho _ ih =>
    intro σ' e θ r ht
    have hx := ha.end_ va
    exact ih σ' e _ _ (ht.upd hx fun hin => ho ((Occ.iff ht hx b').2 hin))
  | occA => intro σ' e; cases e
  | setB σ a b a' b' xs ys o ha hb va vb ho _ ih =>
    intro σ' e θ r ht
    have hx := hb.end_ vb
    exact ih σ' e _ _ (ht.upd hx fun hin => ho ((Occ.iff ht hx a').2 hin))
  | occB => intro σ' e; cases e
  | clash => intro σ' e; cases e
  | args σ σ1 a b a' b' xs ys o ha hb va vb hn hl _ _ ih1 ih2 =>
    intro σ' e θ r ht
    obtain ⟨θ1, r1, h1⟩ := ih1 σ1 rfl θ r ht
    exact ih2 σ' e θ1 r1 h1
  | argsN => intro σ' e; cases e
theorem map_cons_inj {α β : Type} {f : α → β} {a b : α} {xs ys : List α} (h : (a :: xs).map f = (b :: ys).map f) : f a = f b ∧ xs.map f = ys.map f := by
  simpa using h
theorem occ_no {σ : Bd} {θ : ByteArray → Tm} {r : ByteArray → Nat} (ht : Tri σ θ r) {x : ByteArray} (hx : σ x = none) {u : Tm} (hu : u.var = true → σ u.name = none) (hne : ¬ (u.var = true ∧ x = u.name)) (ho : Occ σ x u) {τ : ByteArray → Tm} (hτ : Resp τ σ) : τ x ≠ sub τ u := by
  intro he
  have hin := (Occ.iff ht hx u).1 ho
  cases hv : u.var with
  | true =>
    rw [sub_var _ hv, ht.fre _ (hu hv), vs_var rfl] at hin
    exact hne ⟨hv, hin⟩
  | false =>
    have h1 : (sub θ u).var = false := by rw [sub_fn _ hv]; rfl
    have h2 := size_sub_lt (f := τ) h1 hin
    rw [ht.thr hτ, ← he] at h2
    omega
theorem Sl.complete {σ : Bd} {xs ys : List Tm} {o : Option Bd} (h : Sl σ xs ys o) : ∀ θ r, Tri σ θ r → ∀ τ, Resp τ σ → xs.map (sub τ) = ys.map (sub τ) → ∃ σ', o = some σ' ∧ Resp τ σ' := by
  induction h with
  | nil σ => intro θ r ht τ hτ _; exact ⟨σ, rfl, hτ⟩
  | same σ a b a' b' xs ys o ha hb va vb hn _ ih => exact fun θ r ht τ hτ he => ih θ r ht τ hτ (map_cons_inj he).2
  | setA σ a b a' b' xs ys o ha hb va hne ho _ ih =>
    intro θ r ht τ hτ he
    obtain ⟨h1, h2⟩ := map_cons_inj he
    have hx := ha.end_ va
    rw [ha.sub hτ, hb.sub hτ, sub_var _ va] at h1
    exact ih _ _ (ht.upd hx fun hin => ho ((Occ.iff ht hx b').2 hin)) τ (hτ.mk h1) h2
  | occA σ a b a' b' xs ys ha hb va hne ho =>
    intro θ r ht τ hτ he
    obtain ⟨h1, h2⟩ := map_cons_inj he
    rw [ha.sub hτ, hb.sub hτ, sub_var _ va] at h1
    exact absurd h1 (occ_no ht (ha.end_ va) hb.end_ hne ho hτ)
  | setB σ a b a' b' xs ys o ha hb va vb ho _ ih =>
    intro θ r ht τ hτ he
    obtain ⟨h1, h2⟩ := map_cons_inj he
    have hx := hb.end_ vb
    rw [ha.sub hτ, hb.sub hτ, sub_var _ vb] at h1
    exact ih _ _ (ht.upd hx fun hin => ho ((Occ.iff ht hx a').2 hin)) τ (hτ.mk h1.symm) h2
  | occB σ a b a' b' xs ys ha hb va vb ho =>
    intro θ r ht τ hτ he
    obtain ⟨h1, h2⟩ := map_cons_inj he
    rw [ha.sub hτ, hb.sub hτ, sub_var _ vb] at h1
    exact absurd h1.symm (occ_no ht (hb.end_ vb) ha.end_ (fun h => by rw [va] at h; cases h.1) ho hτ)
  | clash σ a b a' b' xs ys ha hb va vb hne =>
    intro θ r ht τ hτ he
    obtain ⟨h1, h2⟩ := map_cons_inj he
    rw [ha.sub hτ, hb.sub hτ, sub_fn _ va, sub_fn _ vb] at h1
    injection h1 with e1 e2 e3
    exact absurd ⟨e1, by simpa using congrArg List.length e3⟩ hne
  | args σ σ1 a b a' b' xs ys o ha hb va vb hn hl s1 _ ih1 ih2 =>
    intro θ r ht τ hτ he
    obtain ⟨h1, h2⟩ := map_cons_inj he
    rw [ha.sub hτ, hb.sub hτ, sub_fn _ va, sub_fn _ vb] at h1
    injection h1 with e1 e2 e3
    obtain ⟨σ2, e4, h3⟩ := ih1 θ r ht τ hτ e3
    cases e4
    obtain ⟨θ1, r1, ht1⟩ := s1.tri _ rfl θ r ht
    exact ih2 θ1 r1 ht1 τ h3 h2
  | argsN σ a b a' b' xs ys ha hb va vb hn hl s1 ih1 =>
    intro θ r ht τ hτ he
    obtain ⟨h1, h2⟩ := map_cons_inj he
    rw [ha.sub hτ, hb.sub hτ, sub_fn _ va, sub_fn _ vb] at h1
    injection h1 with e1 e2 e3
    obtain ⟨σ2, e4, h3⟩ := ih1 θ r ht τ hτ e3
    cases e4
theorem Sl.idle {σ : Bd} {xs ys : List Tm} {o : Option Bd} (h : Sl σ xs ys o) : ∀ θ r, Tri σ θ r → xs.map (sub θ) = ys.map (sub θ) → o = some σ := by
  induction h with
  | nil σ => intro θ r ht _; rfl
  | same σ a b a' b' xs ys o ha hb va vb hn _ ih => exact fun θ r ht he => ih θ r ht (map_cons_inj he).2
  | setA σ a b a' b' xs ys o ha hb va hne ho _ ih =>
    intro θ r ht he
    obtain ⟨h1, h2⟩ := map_cons_inj he
    rw [ha.sub ht.resp, hb.sub ht.resp, sub_var _ va, ht.fre _ (ha.end_ va)] at h1
    cases hv : b'.var with
    | true =>
      rw [sub_var _ hv, ht.fre _ (hb.end_ hv)] at h1
      injection h1 with e1
      exact absurd ⟨hv, e1⟩ hne
    | false =>
      rw [sub_fn _ hv] at h1
      injection h1 with _ e2; cases e2
  | occA σ a b a' b' xs ys ha hb va hne ho =>
    intro θ r ht he
    obtain ⟨h1, h2⟩ := map_cons_inj he
    rw [ha.sub ht.resp, hb.sub ht.resp, sub_var _ va] at h1
    exact absurd h1 (occ_no ht (ha.end_ va) hb.end_ hne ho ht.resp)
  | setB σ a b a' b' xs ys o ha hb va vb ho _ ih =>
    intro θ r ht he
    obtain ⟨h1, h2⟩ := map_cons_inj he
    rw [ha.sub ht.resp, hb.sub ht.resp, sub_var _ vb, ht.fre _ (hb.end_ vb), sub_fn _ va] at h1
    injection h1 with _ e2; cases e2
  | occB σ a b a' b' xs ys ha hb va vb ho =>
    intro θ r ht he
    obtain ⟨h1, h2⟩ := map_cons_inj he
    rw [ha.sub ht.resp, hb.sub ht.resp, sub_var _ vb, ht.fre _ (hb.end_ vb), sub_fn _ va] at h1
    injection h1 with _ e2; cases e2
  | clash σ a b a' b' xs ys ha hb va vb hne =>
    intro θ r ht he
    obtain ⟨h1, h2⟩ := map_cons_inj he
    rw [ha.sub ht.resp, hb.sub ht.resp, sub_fn _ va, sub_fn _ vb] at h1
    injection h1 with e1 e2 e3
    exact absurd ⟨e1, by simpa using congrArg List.length e3⟩ hne
  | args σ σ1 a b a' b' xs ys o ha hb va vb hn hl s1 _ ih1 ih2 =>
    intro θ r ht he
    obtain ⟨h1, h2⟩ := map_cons_inj he
    rw [ha.sub ht.resp, hb.sub ht.resp, sub_fn _ va, sub_fn _ vb] at h1
    injection h1 with e1 e2 e3
    have e4 := ih1 θ r ht e3
    cases e4
    exact ih2 θ r ht h2
  | argsN σ a b a' b' xs ys ha hb va vb hn hl s1 ih1 =>
    intro θ r ht he
    obtain ⟨h1, h2⟩ := map_cons_inj he
    rw [ha.sub ht.resp, hb.sub ht.resp, sub_fn _ va, sub_fn _ vb] at h1
    injection h1 with e1 e2 e3
    have e4 := ih1 θ r ht e3
    cases e4
def InU (U : List ByteArray) (σ : Bd) : Prop := ∀ x t, σ x = some t → ∀ y ∈ vs t, y ∈ U
def unb (U : List ByteArray) (σ : Bd) : Nat := (U.filter fun x => (σ x).isNone).length
theorem InU.upd {U : List ByteArray} {σ : Bd} (h : InU U σ) {x : ByteArray} {t : Tm} (ht : ∀ y ∈ vs t, y ∈ U) : InU U (updB σ x t) := fun y u hy z hz => by
  by_cases hyx : y = x
  · subst hyx; rw [updB_self] at hy; cases hy; exact ht z hz
  · rw [updB_ne _ _ hyx] at hy; exact h y u hy z hz
theorem unb_upd {U : List ByteArray} {σ : Bd} {x : ByteArray} {t : Tm} (hx : σ x = none) (hU : x ∈ U) : unb U (updB σ x t) < unb U σ := by
  unfold unb
  have le : ∀ V : List ByteArray, (V.filter fun y => (updB σ x t y).isNone).length ≤ (V.filter fun y => (σ y).isNone).length := fun V => by
    induction V with
    | nil => exact Nat.le_refl _
    | cons y V ih =>
      by_cases hy : y = x
      · subst hy; simp [List.filter_cons, updB_self, hx]; omega
      · simp only [List.filter_cons, updB_ne _ _ hy]; split <;> (try simp) <;> omega
  induction U with
  | nil => simp at hU
  | cons y U ih =>
    by_cases hy : y = x
    · subst hy
      have := le U
      simp only [List.filter_cons, updB_self, hx]
      simp
      omega
    · have := ih (by rcases List.mem_cons.1 hU with rfl | h; exact absurd rfl hy; exact h)
      simp only [List.filter_cons, updB_ne _ _ hy]; split <;> (try simp) <;> omega
theorem Head.inU {U : List ByteArray} {σ : Bd} (hU : InU U σ) {t h : Tm} (a : Head σ t h) : (∀ y ∈ vs t, y ∈ U) → ∀ y ∈ vs h, y ∈ U := by
  induction a with
  | fn t hv => exact id
  | free t hv hs => exact id
  | step t u h hv hs _ ih => exact fun _ => ih (hU _ _ hs)
def AllU (U : List ByteArray) (l : List Tm) : Prop := ∀ t ∈ l, ∀ y ∈ vs t, y ∈ U
theorem allU_args {U : List ByteArray} {t : Tm} (hv : t.var = false) (h : ∀ y ∈ vs t, y ∈ U) : AllU U t.args := fun a ha y hy => h y ((vs_fn hv).2 ⟨a, ha, hy⟩)
theorem Sl.less {U : List ByteArray} {σ : Bd} {xs ys : List Tm} {o : Option Bd} (h : Sl σ xs ys o) : ∀ σ', o = some σ' → InU U σ → AllU U xs → AllU U ys → InU U σ' ∧ (σ' = σ ∨ unb U σ' < unb U σ) := by
  induction h with
  | nil σ => intro σ' e hU _ _; cases e; exact ⟨hU, .inl rfl⟩
  | same σ a b a' b' xs ys o ha hb va vb hn _ ih => exact fun σ' e hU h1 h2 => ih σ' e hU (fun t ht => h1 t (List.mem_cons_of_mem _ ht)) (fun t ht => h2 t (List.mem_cons_of_mem _ ht))
  | setA σ a b a' b' xs ys o ha hb va hne ho _ ih =>
    intro σ' e hU h1 h2
    have hin : a'.name ∈ U := ha.inU hU (h1 a (by simp)) _ ((vs_var va).2 rfl)
    have hl := unb_upd (t := b') (ha.end_ va) hin
    obtain ⟨g1, g2⟩ := ih σ' e (hU.upd (hb.inU hU (h2 b (by simp)))) (fun t ht => h1 t (List.mem_cons_of_mem _ ht)) (fun t ht => h2 t (List.mem_cons_of_mem _ ht))
    refine ⟨g1, .inr ?_⟩
    rcases g2 with rfl | g2
    · exact hl
    · omega
  | occA => intro σ' e; cases e
  | setB σ a b a' b' xs ys o ha hb va vb ho _ ih =>
    intro σ' e hU h1 h2
    have hin : b'.name ∈ U := hb.inU hU (h2 b (by simp)) _ ((vs_var vb).2 rfl)
    have hl := unb_upd (t := a') (hb.end_ vb) hin
    obtain ⟨g1, g2⟩ := ih σ' e (hU.upd (ha.inU hU (h1 a (by simp)))) (fun t ht => h1 t (List.mem_cons_of_mem _ ht)) (fun t ht => h2 t (List.mem_cons_of_mem _ ht))
    refine ⟨g1, .inr ?_⟩
    rcases g2 with rfl | g2
    · exact hl
    · omega
  | occB => intro σ' e; cases e
  | clash => intro σ' e; cases e
  | args σ σ1 a b a' b' xs ys o ha hb va vb hn hl s1 _ ih1 ih2 =>
    intro σ' e hU h1 h2
    obtain ⟨g1, g2⟩ := ih1 σ1 rfl hU (allU_args va (ha.inU hU (h1 a (by simp)))) (allU_args vb (hb.inU hU (h2 b (by simp))))
    obtain ⟨g3, g4⟩ := ih2 σ' e g1 (fun t ht => h1 t (List.mem_cons_of_mem _ ht)) (fun t ht => h2 t (List.mem_cons_of_mem _ ht))
    refine ⟨g3, ?_⟩
    rcases g2 with rfl | g2
    · exact g4
    · rcases g4 with rfl | g4
      · exact .inr g2
      · exact .inr (by omega)
  | argsN => intro σ' e; cases e
def szL (θ : ByteArray → Tm) (l : List Tm) : Nat := sizeL (l.map (sub θ))
theorem Sl.ex (U : List ByteArray) : ∀ (n m : Nat) (σ : Bd) (θ : ByteArray → Tm) (r : ByteArray → Nat), Tri σ θ r → unb U σ ≤ n → InU U σ → ∀ (xs ys : List Tm), xs.length = ys.length → AllU U xs → AllU U ys → szL θ xs ≤ m → ∃ o, Sl σ xs ys o := by
  intro n
  induction n using Nat.strongRecOn with
  | _ n ihn =>
    intro m
    induction m using Nat.strongRecOn with
    | _ m ihm =>
      intro σ θ r ht hn hU xs ys hl h1 h2 hm
      match xs, ys, hl with
      | [], [], _ => exact ⟨_, .nil σ⟩
      | a :: xs, b :: ys, hl =>
        have hl : xs.length = ys.length := by simpa using hl
        have h1a := h1 a (by simp)
        have h2b := h2 b (by simp)
        have h1t : AllU U xs := fun t ht => h1 t (List.mem_cons_of_mem _ ht)
        have h2t : AllU U ys := fun t ht => h2 t (List.mem_cons_of_mem _ ht)
        have hsz : szL θ (a :: xs) = (sub θ a).size + szL θ xs := rfl
        have hp := size_pos (sub θ a)
        have tail : ∃ o, Sl σ xs ys o := ihm (szL θ xs) (by omega) σ θ r ht hn hU xs ys hl h1t h2t (Nat.le_refl _)
        have tail1 : ∀ σ1 θ1 r1, Tri σ1 θ1 r1 → InU U σ1 → unb U σ1 < unb U σ → ∃ o, Sl σ1 xs ys o := fun σ1 θ1 r1 ht1 hU1 hlt =>
          ihn (unb U σ1) (by omega) (szL θ1 xs) σ1 θ1 r1 ht1 (Nat.le_refl _) hU1 xs ys hl h1t h2t (Nat.le_refl _)
        obtain ⟨a', ha⟩ := Head.ex ht a
        obtain ⟨b', hb⟩ := Head.ex ht b
        cases va : a'.var with
        | true =>
          by_cases hs : b'.var = true ∧ a'.name = b'.name
          · obtain ⟨o, ho⟩ := tail
            exact ⟨o, .same σ a b a' b' xs ys o ha hb va hs.1 hs.2 ho⟩
          · rcases Classical.em (Occ σ a'.name b') with hoc | hoc
            · exact ⟨none, .occA σ a b a' b' xs ys ha hb va hs hoc⟩
            · have hx := ha.end_ va
              obtain ⟨o, ho⟩ := tail1 (updB σ a'.name b') _ _ (ht.upd hx fun hin => hoc ((Occ.iff ht hx b').2 hin)) (hU.upd (hb.inU hU h2b)) (unb_upd hx (ha.inU hU h1a _ ((vs_var va).2 rfl)))
              exact ⟨o, .setA σ a b a' b' xs ys o ha hb va hs hoc ho⟩
        | false =>
          cases vb : b'.var with
          | true =>
            rcases Classical.em (Occ σ b'.name a') with hoc | hoc
            · exact ⟨none, .occB σ a b a' b' xs ys ha hb va vb hoc⟩
            · have hx := hb.end_ vb
              obtain ⟨o, ho⟩ := tail1 (updB σ b'.name a') _ _ (ht.upd hx fun hin => hoc ((Occ.iff ht hx a').2 hin)) (hU.upd (ha.inU hU h1a)) (unb_upd hx (hb.inU hU h2b _ ((vs_var vb).2 rfl)))
              exact ⟨o, .setB σ a b a' b' xs ys o ha hb va vb hoc ho⟩
          | false =>
            by_cases hc : a'.name = b'.name ∧ a'.args.length = b'.args.length
            · have hlt : szL θ a'.args < m := by
                have e : sub θ a = sub θ a' := ha.sub ht.resp
                have e2 : (sub θ a').size = 1 + szL θ a'.args := by rw [sub_fn _ va, size_eq]; rfl
                rw [← e] at e2
                omega
              have ua := allU_args va (ha.inU hU h1a)
              have ub := allU_args vb (hb.inU hU h2b)
              obtain ⟨o1, ho1⟩ := ihm (szL θ a'.args) hlt σ θ r ht hn hU a'.args b'.args hc.2 ua ub (Nat.le_refl _)
              cases o1 with
              | none => exact ⟨none, .argsN σ a b a' b' xs ys ha hb va vb hc.1 hc.2 ho1⟩
              | some σ1 =>
                obtain ⟨θ1, r1, ht1⟩ := ho1.tri σ1 rfl θ r ht
                obtain ⟨hU1, hlt1⟩ := ho1.less σ1 rfl hU ua ub
                have : ∃ o, Sl σ1 xs ys o := by
                  rcases hlt1 with rfl | hlt1
                  · exact tail
                  · exact tail1 σ1 θ1 r1 ht1 hU1 hlt1
                obtain ⟨o, ho⟩ := this
                exact ⟨o, .args σ σ1 a b a' b' xs ys o ha hb va vb hc.1 hc.2 ho1 ho⟩
            · exact ⟨none, .clash σ a b a' b' xs ys ha hb va vb hc⟩
end Go.Proofs.Ytgohjdaepcmonaa
set_option linter.unusedVariables false
set_option linter.unusedSimpArgs false
namespace Go.Proofs.Ytgohjdaepcmonaa
open Go.Abs
def fnS (s : Su) : Bd := fun x => if boundS s x then some (Tm.image s x) else none
theorem fnS_none {s : Su} {x : ByteArray} : fnS s x = none ↔ boundS s x = false := by
  unfold fnS; cases boundS s x <;> simp
theorem fnS_some {s : Su} {x : ByteArray} {t : Tm} (h : fnS s x = some t) : boundS s x = true ∧ Tm.image s x = t := by
  unfold fnS at h
  cases hb : boundS s x with
  | false => rw [hb] at h; cases h
  | true => rw [hb] at h; exact ⟨rfl, by injection h⟩
theorem fnS_of {s : Su} {x : ByteArray} (h : boundS s x = true) : fnS s x = some (Tm.image s x) := by unfold fnS; rw [if_pos h]
theorem fnS_nil : fnS [] = fun _ => none := by funext x; rfl
theorem image_with (v : ByteArray) (t : Tm) : ∀ (s : Su) (y : ByteArray), (∀ z ∈ s, z.1 ≠ v) → Tm.image (withS s v t) y = if y = v then t else Tm.image s y
  | [], y, _ => by
    simp only [withS, Tm.image]
    by_cases h : v = y
    · rw [if_pos h, if_pos h.symm]
    · rw [if_neg h, if_neg fun e => h e.symm]
  | x :: r, y, h => by
    unfold withS
    split
    · rw [Tm.image, Tm.image]
      by_cases hx : x.1 = y
      · rw [if_pos hx, if_pos hx, if_neg fun e => h x (by simp) (hx.trans e)]
      · rw [if_neg hx, if_neg hx]; exact image_with v t r y fun z hz => h z (List.mem_cons_of_mem _ hz)
    · rw [Tm.image]
      by_cases hy : v = y
      · rw [if_pos hy, if_pos hy.symm]
      · rw [if_neg hy, if_neg fun e => hy e.symm]
theorem fnS_with {s : Su} {v : ByteArray} (t : Tm) (h : fnS s v = none) : fnS (withS s v t) = updB (fnS s) v t := by
  rw [fnS_none, boundS_false] at h
  funext y
  by_cases hy : y = v
  · subst hy
    rw [updB_self, fnS_of (boundS_iff.2 ⟨(y, t), withS_mem.2 (.inl rfl), rfl⟩), image_with _ _ _ _ h, if_pos rfl]
  · rw [updB_ne _ _ hy]
    have hb : boundS (withS s v t) y = boundS s y := by
      rw [Bool.eq_iff_iff, boundS_iff, boundS_iff]
      constructor
      · rintro ⟨z, hz, e⟩
        rcases withS_mem.1 hz with rfl | hz
        · exact absurd e.symm hy
        · exact ⟨z, hz, e⟩
      · rintro ⟨z, hz, e⟩; exact ⟨z, withS_mem.2 (.inr hz), e⟩
    unfold fnS
    rw [hb, image_with _ _ _ _ h, if_neg hy]
theorem r03_walk_ok (s : Su) {t h : Tm} (hd : Head (fnS s) t h) : Fn f_r03_walk [suD s, tD t] (tD h) := fun Q hQ => by
  refine C_r03_walk _ _ _ _ _ ?_
  unfold vc_r03_walk
  have key : ∃ m, lp_r03_walk_0 Q m (encS s) (V.s t.name) (V.b t.var) (V.l (Tm.encL t.args)) (ByteArray.mk #[]) false := by
    induction hd with
    | fn t hv =>
      refine ⟨1, ?_⟩
      rw [lp_r03_walk_0_s]
      exact iff_intro (fun h => by rw [show (V.b t.var).bool = t.var from rfl, hv] at h; cases h) fun _ => ⟨⟨trivial, trivial, trivial, trivial⟩, hQ⟩
    | free t hv hs =>
      refine ⟨1, ?_⟩
      rw [lp_r03_walk_0_s]
      refine iff_intro (fun _ => r03_Bound_ok s t.name _ ⟨rfl, rfl, iff_intro (fun h => ?_) (fun _ => ⟨⟨trivial, trivial, trivial, trivial⟩, hQ⟩)⟩) (fun h => ?_)
      · have h : boundS s t.name = true := h
        rw [fnS_none.1 hs] at h; cases h
      · rw [show (V.b t.var).bool = t.var from rfl, hv] at h; cases h
    | step t u h hv hs _ ih =>
      obtain ⟨m, hm⟩ := ih hQ
      obtain ⟨hb, hi⟩ := fnS_some hs
      refine ⟨m + 1, ?_⟩
      rw [lp_r03_walk_0_s]
      refine iff_intro (fun _ => r03_Bound_ok s t.name _ ⟨rfl, rfl, iff_intro (fun _ => r01_Image_ok s t.name _ ⟨rfl, rfl, ?_⟩) (fun h => ?_)⟩) (fun h => ?_)
      · rw [hi]; exact hm
      · have h : boundS s t.name = false := h
        rw [hb] at h; cases h
      · rw [show (V.b t.var).bool = t.var from rfl, hv] at h; cases h
  exact key
theorem r01_Has_w_ok (l : List ByteArray) (x : ByteArray) (Q : D → Heap → Prop) (hQ : Q (bD (hasN l x)) [.row t_string (encN l)]) :
    cl f_r01_Has [.osl (.own 0) l.length, sD x] [.row t_string (encN l)] Q := by
  have hl := encN_length l
  refine C_r01_Has_w _ _ _ _ ⟨hl, fun hb => ?_⟩
  refine range_r01_Has_w_0 Q _ _ _ _ hb (fun k => x ∉ l.take k) (fun k hk hJ K hK => ?_) (fun hJ => ?_) 0 (Nat.zero_le _) (by simp)
  · simp only [encN_getD _ k hk, List.drop_zero, List.headD_cons, V.str]
    refine ⟨hl, by omega, by omega, hl, hk, ?_⟩
    rw [ba_beq]
    refine iff_dec (fun h => ⟨trivial, ?_⟩) (fun h => hK ?_)
    · rw [hasN_iff.2 (h ▸ List.getElem_mem hk)] at hQ; exact hQ
    · rw [List.take_succ_eq_append_getElem hk]
      intro hm
      rcases List.mem_append.1 hm with hm | hm
      · exact hJ hm
      · exact h (List.mem_singleton.1 hm).symm
  · rw [List.take_length] at hJ
    rw [hasN_false.2 hJ] at hQ
    exact ⟨trivial, hQ⟩
theorem Occ.congr {σ : Bd} {y : ByteArray} {t u : Tm} (h : ∀ z, z ∈ Tm.vs t → z ∈ Tm.vs u) (ho : Occ σ y t) : Occ σ y u := by
  cases ho with
  | here _ h1 => exact .here u (h _ h1)
  | step _ w x h1 h2 h3 => exact .step u w x (h _ h1) h2 h3
theorem Occ.fn {σ : Bd} {y : ByteArray} {t : Tm} (hv : t.var = false) : Occ σ y t ↔ ∃ a ∈ t.args, Occ σ y a := by
  constructor
  · intro ho
    cases ho with
    | here _ h1 =>
      obtain ⟨a, ha, h2⟩ := (Tm.vs_fn hv).1 h1
      exact ⟨a, ha, .here a h2⟩
    | step _ w x h1 h2 h3 =>
      obtain ⟨a, ha, h4⟩ := (Tm.vs_fn hv).1 h1
      exact ⟨a, ha, .step a w x h4 h2 h3⟩
  · rintro ⟨a, ha, ho⟩
    exact ho.congr fun z hz => (Tm.vs_fn hv).2 ⟨a, ha, hz⟩
theorem Occ.vr {σ : Bd} {y : ByteArray} {t : Tm} (hv : t.var = true) : Occ σ y t ↔ y = t.name ∨ ∃ u, σ t.name = some u ∧ Occ σ y u := by
  constructor
  · intro ho
    cases ho with
    | here _ h1 => exact .inl ((Tm.vs_var hv).1 h1)
    | step _ w x h1 h2 h3 => rw [(Tm.vs_var hv).1 h1] at h2; exact .inr ⟨w, h2, h3⟩
  · rintro (rfl | ⟨u, hu, ho⟩)
    · exact .here t ((Tm.vs_var hv).2 rfl)
    · exact .step t u t.name ((Tm.vs_var hv).2 rfl) hu ho
theorem Occ.rank {σ : Bd} {θ : ByteArray → Tm} {r : ByteArray → Nat} (h : Tri σ θ r) {y : ByteArray} {t : Tm} (ho : Occ σ y t) : ∃ z ∈ Tm.vs t, r y ≤ r z := by
  induction ho with
  | here t h1 => exact ⟨y, h1, Nat.le_refl _⟩
  | step t u x h1 h2 _ ih =>
    obtain ⟨z, hz, hr⟩ := ih
    have := h.rk x u h2 z hz
    exact ⟨x, h1, by omega⟩
theorem Occ.acyc {σ : Bd} {θ : ByteArray → Tm} {r : ByteArray → Nat} (h : Tri σ θ r) {x : ByteArray} {u : Tm} (hx : σ x = some u) : ¬ Occ σ x u := fun ho => by
  obtain ⟨z, hz, hr⟩ := ho.rank h
  have := h.rk x u hx z hz
  omega
theorem Occ.inU {U : List ByteArray} {σ : Bd} (hU : InU U σ) {y : ByteArray} {t : Tm} (ho : Occ σ y t) : (∀ z ∈ Tm.vs t, z ∈ U) → y ∈ U := by
  induction ho with
  | here t h1 => exact fun h => h _ h1
  | step t u x h1 h2 _ ih => exact fun h => ih (hU x u h2)
theorem nodup_length : ∀ {l U : List ByteArray}, l.Nodup → (∀ x ∈ l, x ∈ U) → l.length ≤ U.length
  | [], _, _, _ => by simp
  | x :: l, U, hn, hs => by
    rw [List.nodup_cons] at hn
    obtain ⟨A, B, rfl⟩ := List.append_of_mem (hs x (by simp))
    have : l.length ≤ (A ++ B).length := nodup_length hn.2 fun y hy => by
      have h1 := hs y (List.mem_cons_of_mem _ hy)
      have hne : y ≠ x := fun e => hn.1 (e ▸ hy)
      rcases List.mem_append.1 h1 with h | h
      · exact List.mem_append_left _ h
      · rcases List.mem_cons.1 h with h | h
        · exact absurd h hne
        · exact List.mem_append_right _ h
    simp at this ⊢; omega
structure MetOk (U : List ByteArray) (σ : Bd) (P met : List ByteArray) : Prop where
  nd : met.Nodup
  sub : ∀ w ∈ met, w ∈ U
  cl : ∀ w ∈ met, w ∈ P ∨ ∀ x, Occ σ x (Tm.vr w) → x ∈ met
structure MetTo (U : List ByteArray) (σ : Bd) (P met : List ByteArray) (t : Tm) (met' : List ByteArray) : Prop where
  ok : MetOk U σ P met'
  old : ∀ w ∈ met, w ∈ met'
  all : ∀ x, Occ σ x t → x ∈ met'
  new : ∀ x ∈ met', x ∈ met ∨ Occ σ x t
theorem met_var {U : List ByteArray} {s : Su} {θ : ByteArray → Tm} {r : ByteArray → Nat} (ht : Tri (fnS s) θ r) {t : Tm} (hv : t.var = true) {P met : List ByteArray} (hm : MetOk U (fnS s) P met) (hP : ∀ w ∈ P, ¬ Occ (fnS s) w t) (hin : t.name ∈ met) : MetTo U (fnS s) P met t met := by
  have hvr : ∀ x, Occ (fnS s) x t → Occ (fnS s) x (Tm.vr t.name) := fun x ho => ho.congr fun z hz => by rw [(Tm.vs_var hv).1 hz]; simp [Tm.vs]
  refine ⟨hm, fun w h => h, fun x hx => ?_, fun x h => .inl h⟩
  rcases hm.cl _ hin with h | h
  · exact absurd ((Occ.vr hv).2 (.inl rfl)) (hP _ h)
  · exact h x (hvr x hx)
theorem met_free {U : List ByteArray} {s : Su} {t : Tm} (hv : t.var = true) {P met : List ByteArray} (hm : MetOk U (fnS s) P met) (hin : t.name ∉ met) (hU : t.name ∈ U) (hb : boundS s t.name = false) : MetTo U (fnS s) P met t (met ++ [t.name]) := by
  have hn := fnS_none.2 hb
  have hocc : ∀ x, Occ (fnS s) x t → x = t.name := fun x ho => by
    rcases (Occ.vr hv).1 ho with h | ⟨u, hu, _⟩
    · exact h
    · rw [hn] at hu; cases hu
  refine ⟨⟨?_, fun w hw => ?_, fun w hw => ?_⟩, fun w h => List.mem_append_left _ h, fun x ho => ?_, fun x hx => ?_⟩
  · rw [List.nodup_append]; exact ⟨hm.nd, by simp, fun x hx y hy e => hin (by rw [List.mem_singleton.1 hy] at e; exact e ▸ hx)⟩
  · rcases List.mem_append.1 hw with h | h
    · exact hm.sub w h
    · rw [List.mem_singleton.1 h]; exact hU
  · rcases List.mem_append.1 hw with h | h
    · rcases hm.cl w h with h1 | h1
      · exact .inl h1
      · exact .inr fun x hx => List.mem_append_left _ (h1 x hx)
    · rw [List.mem_singleton.1 h]
      refine .inr fun x hx => List.mem_append_right _ ?_
      rcases (Occ.vr rfl).1 hx with h2 | ⟨u, hu, _⟩
      · exact List.mem_singleton.2 h2
      · have hu : fnS s t.name = some u := hu
        rw [hn] at hu; cases hu
  · rw [hocc x ho]; simp
  · rcases List.mem_append.1 hx with h | h
    · exact .inl h
    · rw [List.mem_singleton.1 h]; exact .inr ((Occ.vr hv).2 (.inl rfl))
theorem met_push {U : List ByteArray} {s : Su} {t : Tm} (hv : t.var = true) {P met : List ByteArray} (hm : MetOk U (fnS s) P met) (hin : t.name ∉ met) (hU : t.name ∈ U) : MetOk U (fnS s) (t.name :: P) (met ++ [t.name]) := by
  refine ⟨?_, fun w hw => ?_, fun w hw => ?_⟩
  · rw [List.nodup_append]; exact ⟨hm.nd, by simp, fun x hx y hy e => hin (by rw [List.mem_singleton.1 hy] at e; exact e ▸ hx)⟩
  · rcases List.mem_append.1 hw with h | h
    · exact hm.sub w h
    · rw [List.mem_singleton.1 h]; exact hU
  · rcases List.mem_append.1 hw with h | h
    · rcases hm.cl w h with h1 | h1
      · exact .inl (List.mem_cons_of_mem _ h1)
      · exact .inr fun x hx => List.mem_append_left _ (h1 x hx)
    · rw [List.mem_singleton.1 h]; exact .inl (by simp)
theorem met_pop {U : List ByteArray} {s : Su} {t u : Tm} (hv : t.var = true) {P met met' : List ByteArray} (hu : fnS s t.name = some u) (h : MetTo U (fnS s) (t.name :: P) (met ++ [t.name]) u met') : MetTo U (fnS s) P met t met' := by
  have hall : ∀ x, Occ (fnS s) x t → x ∈ met' := fun x ho => by
    rcases (Occ.vr hv).1 ho with rfl | ⟨u', hu', ho⟩
    · exact h.old _ (by simp)
    · rw [hu] at hu'; cases hu'; exact h.all x ho
  refine ⟨⟨h.ok.nd, h.ok.sub, fun w hw => ?_⟩, fun w hw => h.old w (List.mem_append_left _ hw), hall, fun x hx => ?_⟩
  · rcases h.ok.cl w hw with h1 | h1
    · rcases List.mem_cons.1 h1 with rfl | h1
      · exact .inr fun x hx => hall x (hx.congr fun z hz => by rw [(Tm.vs_var rfl).1 hz]; exact (Tm.vs_var hv).2 rfl)
      · exact .inl h1
    · exact .inr h1
  · rcases h.new x hx with h1 | h1
    · rcases List.mem_append.1 h1 with h2 | h2
      · exact .inl h2
      · rw [List.mem_singleton.1 h2]; exact .inr ((Occ.vr hv).2 (.inl rfl))
    · exact .inr ((Occ.vr hv).2 (.inr ⟨u, hu, h1⟩))
theorem met_list {U : List ByteArray} {σ : Bd} {P met met' met'' : List ByteArray} {xs : List Tm} {k : Nat} (hk : k < xs.length) {X : Tm} {Y : Tm} (hX : X = .mk bz false (xs.take k)) (hY : Y = .mk bz false (xs.take (k + 1)))
    (h1 : MetTo U σ P met X met') (h2 : MetTo U σ P met' xs[k] met'') : MetTo U σ P met Y met'' := by
  have hocc : ∀ x, Occ σ x Y ↔ Occ σ x X ∨ Occ σ x xs[k] := fun x => by
    rw [hX, hY, Occ.fn rfl, Occ.fn rfl]
    show (∃ a ∈ xs.take (k + 1), _) ↔ (∃ a ∈ xs.take k, _) ∨ _
    rw [List.take_succ_eq_append_getElem hk]
    constructor
    · rintro ⟨a, ha, h⟩
      rcases List.mem_append.1 ha with ha | ha
      · exact .inl ⟨a, ha, h⟩
      · rw [List.mem_singleton.1 ha] at h; exact .inr h
    · rintro (⟨a, ha, h⟩ | h)
      · exact ⟨a, List.mem_append_left _ ha, h⟩
      · exact ⟨_, List.mem_append_right _ (List.mem_singleton.2 rfl), h⟩
  refine ⟨h2.ok, fun w hw => h2.old w (h1.old w hw), fun x hx => ?_, fun x hx => ?_⟩
  · rcases (hocc x).1 hx with h | h
    · exact h2.old x (h1.all x h)
    · exact h2.all x h
  · rcases h2.new x hx with h | h
    · rcases h1.new x h with h | h
      · exact .inl h
      · exact .inr ((hocc x).2 (.inl h))
    · exact .inr ((hocc x).2 (.inr h))
theorem seq_ex {α : Type} (n : Nat) (I : Nat → α → Prop) (S : Nat → α → α → Prop) (a0 : α) (h0 : I 0 a0) (step : ∀ k a, k < n → I k a → ∃ b, S k a b ∧ I (k + 1) b) :
    ∃ f : Nat → α, f 0 = a0 ∧ (∀ k, k ≤ n → I k (f k)) ∧ ∀ k, k < n → S k (f k) (f (k + 1)) := by
  classical
  let f : Nat → α := fun k => Nat.rec a0 (fun k a => if h : ∃ b, S k a b ∧ I (k + 1) b then h.choose else a) k
  have hI : ∀ k, k ≤ n → I k (f k) := by
    intro k
    induction k with
    | zero => intro _; exact h0
    | succ k ih =>
      intro hk
      have h := step k (f k) (by omega) (ih (by omega))
      have e : f (k + 1) = h.choose := dif_pos h
      rw [e]; exact h.choose_spec.2
  refine ⟨f, rfl, hI, fun k hk => ?_⟩
  have h := step k (f k) hk (hI k (by omega))
  have e : f (k + 1) = h.choose := dif_pos h
  rw [e]; exact h.choose_spec.1
def RTo (U : List ByteArray) (s : Su) (P met : List ByteArray) (t : Tm) : Prop :=
  ∃ met', MetTo U (fnS s) P met t met' ∧ ∀ Q : D → Heap → Prop, Q (.osl (.own 0) met'.length) [.row t_string (encN met')] → cl f_r03_reach [suD s, tD t, .osl (.own 0) met.length] [.row t_string (encN met)] Q
theorem met_args {U : List ByteArray} {s : Su} {t : Tm} (hv : t.var = false) {P met : List ByteArray} (hm : MetOk U (fnS s) P met) (h : ∀ a ∈ t.args, ∀ m, MetOk U (fnS s) P m → RTo U s P m a) :
    ∃ f : Nat → List ByteArray, f 0 = met ∧ MetTo U (fnS s) P met t (f t.args.length) ∧ ∀ k (hk : k < t.args.length), ∀ Q : D → Heap → Prop, Q (.osl (.own 0) (f (k + 1)).length) [.row t_string (encN (f (k + 1)))] → cl f_r03_reach [suD s, tD t.args[k], .osl (.own 0) (f k).length] [.row t_string (encN (f k))] Q := by
  obtain ⟨f, e0, hI, hS⟩ := seq_ex t.args.length (fun k m => MetTo U (fnS s) P met (.mk bz false (t.args.take k)) m)
    (fun k m m' => ∀ (hk : k < t.args.length), ∀ Q : D → Heap → Prop, Q (.osl (.own 0) m'.length) [.row t_string (encN m')] → cl f_r03_reach [suD s, tD t.args[k], .osl (.own 0) m.length] [.row t_string (encN m)] Q) met
    ⟨hm, fun w h => h, fun x hx => by
      obtain ⟨a, ha, _⟩ := (Occ.fn rfl).1 hx
      simp [Tm.args] at ha, fun x h => .inl h⟩ fun k m hk hto => by
      obtain ⟨m', h1, h2⟩ := h _ (List.getElem_mem hk) m hto.ok
      exact ⟨m', fun _ => h2, met_list hk rfl rfl hto h1⟩
  refine ⟨f, e0, ?_, fun k hk => hS k hk hk⟩
  have hto := hI _ (Nat.le_refl _)
  rw [List.take_length] at hto
  have hocc : ∀ x, Occ (fnS s) x t ↔ Occ (fnS s) x (.mk bz false t.args) := fun x => by rw [Occ.fn hv, Occ.fn rfl]; rfl
  exact ⟨hto.ok, hto.old, fun x hx => hto.all x ((hocc x).1 hx), fun x hx => (hto.new x hx).imp id (hocc x).2⟩
theorem reach_args {U : List ByteArray} {s : Su} {t : Tm} (hv : t.var = false) {P met : List ByteArray} (hm : MetOk U (fnS s) P met) (h : ∀ a ∈ t.args, ∀ m, MetOk U (fnS s) P m → RTo U s P m a) : RTo U s P met t := by
  obtain ⟨f, e0, hto, hS⟩ := met_args hv hm h
  refine ⟨f t.args.length, hto, fun Q hQ => ?_⟩
  refine C_r03_reach _ _ _ _ _ _ _ ?_
  unfold vc_r03_reach
  refine iff_intro (fun hv' => by rw [hv] at hv'; cases hv') (fun _ hb => ?_)
  have hl := Tm.encL_length t.args
  rw [hl] at hb ⊢
  refine range_r03_reach_0 Q _ _ _ hb (fun k m y => m = (f k).length ∧ y = encN (f k)) (fun k m y hk hJ K hK => ?_) (fun m y hJ => ?_) 0 _ _ (Nat.zero_le _) ⟨by rw [e0], by rw [e0]⟩
  · obtain ⟨rfl, rfl⟩ := hJ
    simp only [Tm.encL_getD _ k hk, Tm.enc_eq, List.drop_zero, List.headD_cons, List.tail_cons]
    exact ⟨by omega, by omega, hS k hk _ ⟨rfl, rfl, hK _ _ ⟨rfl, rfl⟩⟩⟩
  · obtain ⟨rfl, rfl⟩ := hJ
    exact ⟨trivial, hQ⟩
theorem r03_reach_ok (U : List ByteArray) (hUl : U.length + 1 ≤ lim) (s : Su) {θ : ByteArray → Tm} {r : ByteArray → Nat} (ht : Tri (fnS s) θ r) (hU : InU U (fnS s)) : ∀ (n : Nat) (t : Tm), (∀ y ∈ Tm.vs t, r y < n) → (∀ y ∈ Tm.vs t, y ∈ U) → ∀ (P met : List ByteArray), MetOk U (fnS s) P met → (∀ w ∈ P, ¬ Occ (fnS s) w t) → RTo U s P met t := by
  intro n
  induction n with
  | zero =>
    refine Tm.ind fun t ih hr hUt P met hm hP => ?_
    cases hv : t.var with
    | true => exact absurd (hr _ ((Tm.vs_var hv).2 rfl)) (by omega)
    | false =>
      exact reach_args hv hm fun a ha m hm' => ih a ha (fun y hy => hr y ((Tm.vs_fn hv).2 ⟨_, ha, hy⟩)) (fun y hy => hUt y ((Tm.vs_fn hv).2 ⟨_, ha, hy⟩)) P m hm' fun w hw ho => hP w hw ((Occ.fn hv).2 ⟨_, ha, ho⟩)
  | succ n ihn =>
    refine Tm.ind fun t ih hr hUt P met hm hP => ?_
    cases hv : t.var with
    | false =>
      exact reach_args hv hm fun a ha m hm' => ih a ha (fun y hy => hr y ((Tm.vs_fn hv).2 ⟨_, ha, hy⟩)) (fun y hy => hUt y ((Tm.vs_fn hv).2 ⟨_, ha, hy⟩)) P m hm' fun w hw ho => hP w hw ((Occ.fn hv).2 ⟨_, ha, ho⟩)
    | true =>
      have hxU := hUt _ ((Tm.vs_var hv).2 rfl)
      have hxr := hr _ ((Tm.vs_var hv).2 rfl)
      have hl : met.length ≤ U.length := nodup_length hm.nd hm.sub
      have e : encN met ++ [[V.s t.name]] = encN (met ++ [t.name]) := by simp [encN]
      have e2 : met.length + 1 = (met ++ [t.name]).length := by simp
      have start : ∀ Q : D → Heap → Prop, iff (hasN met t.name) (Q (.osl (.own 0) met.length) [.row t_string (encN met)]) (iff (boundS s t.name) (cl f_r03_reach [suD s, tD (Tm.image s t.name), .osl (.own 0) (met ++ [t.name]).length] [.row t_string (encN (met ++ [t.name]))] fun r7 H8 => r7 = (.osl (.own 0) r7.len) ∧ H8 = [.row t_string ((H8.headD .dead).xs)] ∧ True ∧ Q (.osl (.own 0) r7.len) [.row t_string ((H8.headD .dead).xs)]) (Q (.osl (.own 0) (met ++ [t.name]).length) [.row t_string (encN (met ++ [t.name]))])) →
          cl f_r03_reach [suD s, tD t, .osl (.own 0) met.length] [.row t_string (encN met)] Q := fun Q h => by
        refine C_r03_reach _ _ _ _ _ _ _ ?_
        unfold vc_r03_reach
        refine iff_intro (fun _ => ?_) (fun h' => by rw [hv] at h'; cases h')
        refine r01_Has_w_ok met t.name _ ⟨rfl, rfl, iff_intro (fun h1 => ?_) (fun h1 => ?_)⟩
        · have h1 : hasN met t.name = true := h1
          rw [h1] at h; exact ⟨trivial, h⟩
        · have h1 : hasN met t.name = false := h1
          rw [h1] at h
          refine ⟨encN_length met, ?_, r03_Bound_ok s t.name _ ⟨rfl, rfl, iff_intro (fun hb => ?_) (fun hb => ⟨trivial, ?_⟩)⟩⟩
          · show met.length + 1 ≤ lim; omega
          · have hb : boundS s t.name = true := hb
            have h : iff (boundS s t.name) _ _ := h
            rw [hb] at h
            refine r01_Image_ok s t.name _ ⟨rfl, rfl, ?_⟩
            show cl f_r03_reach [suD s, tD (Tm.image s t.name), .osl (.own 0) (met.length + 1)] [.row t_string (encN met ++ [[V.s t.name]])] _
            rw [e, e2]
            exact h
          · have hb : boundS s t.name = false := hb
            have h : iff (boundS s t.name) _ _ := h
            rw [hb] at h
            show Q (.osl (.own 0) (met.length + 1)) [.row t_string (encN met ++ [[V.s t.name]])]
            rw [e, e2]; exact h
      by_cases hin : t.name ∈ met
      · exact ⟨met, met_var ht hv hm hP hin, fun Q hQ => start Q (by rw [hasN_iff.2 hin]; exact hQ)⟩
      · cases hb : boundS s t.name with
        | false => exact ⟨_, met_free hv hm hin hxU hb, fun Q hQ => start Q (by rw [hasN_false.2 hin, hb]; exact hQ)⟩
        | true =>
          have hs := fnS_of hb
          obtain ⟨met', h1, h2⟩ := ihn (Tm.image s t.name) (fun y hy => by have := ht.rk _ _ hs y hy; omega) (hU _ _ hs) (t.name :: P) (met ++ [t.name]) (met_push hv hm hin hxU) (fun w hw ho => by
            rcases List.mem_cons.1 hw with rfl | hw
            · exact Occ.acyc ht hs ho
            · exact hP w hw ((Occ.vr hv).2 (.inr ⟨_, hs, ho⟩)))
          exact ⟨met', met_pop hv hs h1, fun Q hQ => start Q (by rw [hasN_false.2 hin, hb]; exact h2 (fun r7 H8 => r7 = (.osl (.own 0) r7.len) ∧ H8 = [.row t_string ((H8.headD .dead).xs)] ∧ True ∧ Q (.osl (.own 0) r7.len) [.row t_string ((H8.headD .dead).xs)]) ⟨rfl, rfl, trivial, hQ⟩)⟩
theorem r03_reach_nil_ok (U : List ByteArray) (hUl : U.length + 1 ≤ lim) (s : Su) {θ : ByteArray → Tm} {r : ByteArray → Nat} (ht : Tri (fnS s) θ r) (hU : InU U (fnS s)) (t : Tm) (hUt : ∀ y ∈ Tm.vs t, y ∈ U) :
    ∃ met : List ByteArray, (∀ x, x ∈ met ↔ Occ (fnS s) x t) ∧ ∀ Q : D → Heap → Prop, Q (nsD met) [] → cl f_r03_reach [suD s, tD t, .nil] [] Q := by
  have hm0 : MetOk U (fnS s) [] [] := ⟨List.nodup_nil, fun w h => by simp at h, fun w h => by simp at h⟩
  have fin : ∀ met', MetTo U (fnS s) [] [] t met' → ∀ x, x ∈ met' ↔ Occ (fnS s) x t := fun met' h x => ⟨fun hx => (h.new x hx).resolve_left (by simp), h.all x⟩
  have sub : ∀ (u : Tm), (∀ y ∈ Tm.vs u, y ∈ U) → ∀ P met, MetOk U (fnS s) P met → (∀ w ∈ P, ¬ Occ (fnS s) w u) → RTo U s P met u := fun u hu P met hm hP =>
    r03_reach_ok U hUl s ht hU (maxR r (Tm.vs u) + 1) u (fun y hy => by have := maxR_mem (r := r) hy; omega) hu P met hm hP
  cases hv : t.var with
  | true =>
    have hxU := hUt _ ((Tm.vs_var hv).2 rfl)
    have start : ∀ Q : D → Heap → Prop, iff (boundS s t.name) (cl f_r03_reach [suD s, tD (Tm.image s t.name), .osl (.own 0) [t.name].length] [.row t_string (encN [t.name])] fun r7 H8 => r7 = (.osl (.own 0) r7.len) ∧ H8 = [.row t_string ((H8.headD .dead).xs)] ∧ (r7.len = ((H8.headD .dead).xs).length) ∧ Q (.v (.sl t_string) (V.l ((H8.headD .dead).xs))) []) (Q (nsD [t.name]) []) →
        cl f_r03_reach [suD s, tD t, .nil] [] Q := fun Q h => by
      refine C_r03_reach_nil _ _ _ _ _ ?_
      unfold vc_r03_reach_nil
      refine iff_intro (fun _ => ?_) (fun h' => by rw [hv] at h'; cases h')
      refine r01_Has_w_ok [] t.name _ ⟨rfl, rfl, iff_intro (fun h1 => by cases h1) (fun h1 => ?_)⟩
      refine ⟨rfl, ?_, r03_Bound_ok s t.name _ ⟨rfl, rfl, iff_intro (fun hb => ?_) (fun hb => ⟨rfl, ?_⟩)⟩⟩
      · show 0 + 1 ≤ lim; omega
      · have hb : boundS s t.name = true := hb
        rw [hb] at h
        exact r01_Image_ok s t.name _ ⟨rfl, rfl, h⟩
      · have hb : boundS s t.name = false := hb
        rw [hb] at h
        exact h
    cases hb : boundS s t.name with
    | false =>
      have h1 := met_free hv hm0 (by simp) hxU hb
      exact ⟨_, fin _ h1, fun Q hQ => start Q (by rw [hb]; exact hQ)⟩
    | true =>
      have hs := fnS_of hb
      obtain ⟨met', h1, h2⟩ := sub (Tm.image s t.name) (hU _ _ hs) [t.name] [t.name] (met_push hv hm0 (by simp) hxU) (fun w hw ho => by
        rw [List.mem_singleton.1 hw] at ho
        exact Occ.acyc ht hs ho)
      exact ⟨met', fin _ (met_pop (met := []) hv hs h1), fun Q hQ => start Q (by rw [hb]; exact h2 (fun r7 H8 => r7 = (.osl (.own 0) r7.len) ∧ H8 = [.row t_string ((H8.headD .dead).xs)] ∧ (r7.len = ((H8.headD .dead).xs).length) ∧ Q (.v (.sl t_string) (V.l ((H8.headD .dead).xs))) []) ⟨rfl, rfl, (encN_length met').symm, hQ⟩)⟩
  | false =>
    obtain ⟨f, e0, hto, hS⟩ := met_args hv hm0 fun a ha m hm => sub a (fun y hy => hUt y ((Tm.vs_fn hv).2 ⟨_, ha, hy⟩)) [] m hm fun w hw => by simp at hw
    refine ⟨f t.args.length, fin _ hto, fun Q hQ => ?_⟩
    refine C_r03_reach_nil _ _ _ _ _ ?_
    unfold vc_r03_reach_nil
    refine iff_intro (fun hv' => by rw [hv] at hv'; cases hv') (fun _ hb => ?_)
    have hl := Tm.encL_length t.args
    rw [hl] at hb ⊢
    refine range_r03_reach_nil_0 Q _ _ _ hb (fun k m y => m = (f k).length ∧ y = encN (f k)) (fun k m y hk hJ K hK => ?_) (fun m y hJ => ?_) 0 _ _ (Nat.zero_le _) ⟨by rw [e0]; rfl, by rw [e0]; rfl⟩
    · obtain ⟨rfl, rfl⟩ := hJ
      simp only [Tm.encL_getD _ k hk, Tm.enc_eq, List.drop_zero, List.headD_cons, List.tail_cons]
      exact ⟨by omega, by omega, hS k hk _ ⟨rfl, rfl, hK _ _ ⟨rfl, rfl⟩⟩⟩
    · obtain ⟨rfl, rfl⟩ := hJ
      exact ⟨(encN_length _).symm, hQ⟩
end Go.Proofs.Ytgohjdaepcmonaa
set_option linter.unusedVariables false
set_option linter.unusedSimpArgs false
namespace Go.Proofs.Ytgohjdaepcmonaa
open Go.Abs
abbrev Prs := List (ByteArray × ByteArray)
def encQ (l : Prs) : List (List V) := l.map fun p => [.s p.1, .s p.2]
theorem encQ_length (l : Prs) : (encQ l).length = l.length := by simp [encQ]
theorem encQ_getD (l : Prs) (k : Nat) (h : k < l.length) : (encQ l).getD k [] = [.s (l[k]).1, .s (l[k]).2] := by
  rw [encQ, List.getD_eq_getElem?_getD, List.getElem?_map, List.getElem?_eq_getElem h]; rfl
def knP (l : Prs) (a b : ByteArray) : Bool := l.any fun p => decide (p.1 = a) && decide (p.2 = b)
theorem knP_iff {l : Prs} {a b : ByteArray} : knP l a b = true ↔ (a, b) ∈ l := by
  unfold knP; rw [List.any_eq_true]
  constructor
  · rintro ⟨p, hp, h⟩
    rw [Bool.and_eq_true, decide_eq_true_iff, decide_eq_true_iff] at h
    exact h.1 ▸ h.2 ▸ hp
  · exact fun h => ⟨_, h, by simp⟩
theorem knP_false {l : Prs} {a b : ByteArray} : knP l a b = false ↔ (a, b) ∉ l := by rw [← knP_iff, Bool.not_eq_true]
theorem keyEq2 (a b c d : ByteArray) : keyEq [.str, .str] [V.s a, V.s b] [V.s c, V.s d] = (decide (a = c) && decide (b = d)) := by
  have e : keyEq [.str, .str] [V.s a, V.s b] [V.s c, V.s d] = (match a.toList == c.toList with | true => (match b.toList == d.toList with | true => true | false => false) | false => false) := rfl
  rw [e, ba_beq, ba_beq]
  cases decide (a = c) <;> cases decide (b = d) <;> rfl
abbrev solH (s : Su) (l : Prs) : Heap := [.cells [suD s, .osl (.own 1) l.length], .row t_a2_string (encQ l)]
theorem r03_solver_known_ok (s : Su) (l : Prs) (a b : ByteArray) (Q : D → Heap → Prop) (hQ : Q (bD (knP l a b)) (solH s l)) : cl f_r03_solver_known [.ptr (.own 0) 0, sD a, sD b] (solH s l) Q := by
  have hl := encQ_length l
  refine C_r03_solver_known _ _ _ _ _ _ ⟨hl, fun hb => ?_⟩
  refine range_r03_solver_known_0 Q _ _ _ _ _ _ _ hb (fun k => (a, b) ∉ l.take k) (fun k hk hJ K hK => ?_) (fun hJ => ?_) 0 (Nat.zero_le _) (by simp)
  · simp only [encQ_getD _ k hk, List.drop_zero, List.headD_cons, List.tail_cons]
    refine ⟨hl, by omega, by omega, hl, hk, ?_⟩
    rw [keyEq2]
    refine iff_intro (fun h => ⟨trivial, ?_⟩) (fun h => hK ?_)
    · rw [Bool.and_eq_true, decide_eq_true_iff, decide_eq_true_iff] at h
      rw [knP_iff.2 (by rw [← h.1, ← h.2]; exact List.getElem_mem hk)] at hQ; exact hQ
    · rw [List.take_succ_eq_append_getElem hk]
      intro hm
      rcases List.mem_append.1 hm with hm | hm
      · exact hJ hm
      · have e := List.mem_singleton.1 hm
        rw [← e] at h
        simp at h
  · rw [List.take_length] at hJ
    rw [knP_false.2 hJ] at hQ
    exact ⟨trivial, hQ⟩
def CntOk (U : List ByteArray) (s : Su) : Prop := s.length + unb U (fnS s) ≤ U.length
theorem CntOk.with {U : List ByteArray} {s : Su} {v : ByteArray} (t : Tm) (h : CntOk U s) (hv : fnS s v = none) (hU : v ∈ U) : CntOk U (withS s v t) := by
  unfold CntOk at *
  rw [fnS_with t hv, withS_length]
  have := unb_upd (t := t) hv hU
  omega
theorem r03_solver_bind_ok (U : List ByteArray) (hUl : U.length + 1 ≤ lim) (s : Su) (l : Prs) {θ : ByteArray → Tm} {r : ByteArray → Nat} (ht : Tri (fnS s) θ r) (hU : InU U (fnS s)) (hc : CntOk U s) (v : ByteArray) (t : Tm) (hUt : ∀ y ∈ Tm.vs t, y ∈ U)
    (Q : D → Heap → Prop) (h1 : Occ (fnS s) v t → Q (bD false) (solH s l)) (h2 : ¬ Occ (fnS s) v t → Q (bD true) (solH (withS s v t) l)) : cl f_r03_solver_bind [.ptr (.own 0) 0, sD v, tD t] (solH s l) Q := by
  refine C_r03_solver_bind _ _ _ _ _ _ _ _ ?_
  unfold vc_r03_solver_bind
  obtain ⟨met, hm, hcall⟩ := r03_reach_nil_ok U hUl s ht hU t hUt
  refine ⟨nsD met, hcall _ ⟨rfl, rfl⟩, r01_Has_ok met v _ ⟨rfl, rfl, iff_intro (fun h => ⟨trivial, h1 ((hm v).1 (hasN_iff.1 h))⟩) (fun h => ?_)⟩⟩
  have hlen : s.length + 1 ≤ lim := by unfold CntOk at hc; omega
  exact r03_with_ok s v t hlen _ ⟨rfl, rfl, trivial, h2 fun ho => hasN_false.1 h ((hm v).2 ho)⟩
structure PrOk (U : List ByteArray) (σ : Bd) (l : Prs) : Prop where
  nd : l.Nodup
  inU : ∀ p ∈ l, p.1 ∈ U ∧ p.2 ∈ U
  eq : ∀ p ∈ l, ∀ τ, Resp τ σ → τ p.1 = τ p.2
def PrNew (σ : Bd) (xs : List Tm) (l l' : Prs) : Prop := ∀ p ∈ l', p ∈ l ∨ ∀ τ, Resp τ σ → (τ p.1).size ≤ Tm.sizeL (xs.map (Tm.sub τ))
theorem pairs_length : ∀ {l : Prs} {U : List ByteArray}, l.Nodup → (∀ p ∈ l, p.1 ∈ U ∧ p.2 ∈ U) → l.length ≤ U.length * U.length := fun {l U} hn hs => by
  have h : ∀ (l : Prs) (W : Prs), l.Nodup → (∀ p ∈ l, p ∈ W) → l.length ≤ W.length := fun l => by
    induction l with
    | nil => intro W _ _; simp
    | cons x l ih =>
      intro W hn hs
      rw [List.nodup_cons] at hn
      obtain ⟨A, B, rfl⟩ := List.append_of_mem (hs x (by simp))
      have := ih (A ++ B) hn.2 fun y hy => by
        have h1 := hs y (List.mem_cons_of_mem _ hy)
        have hne : y ≠ x := fun e => hn.1 (e ▸ hy)
        rcases List.mem_append.1 h1 with h | h
        · exact List.mem_append_left _ h
        · rcases List.mem_cons.1 h with h | h
          · exact absurd h hne
          · exact List.mem_append_right _ h
      simp at this ⊢; omega
  have := h l (U.flatMap fun x => U.map fun y => (x, y)) hn fun p hp => List.mem_flatMap.2 ⟨p.1, (hs p hp).1, List.mem_map.2 ⟨p.2, (hs p hp).2, rfl⟩⟩
  have e : ∀ A : List ByteArray, (A.flatMap fun x => U.map fun y => (x, y)).length = A.length * U.length := fun A => by
    induction A with
    | nil => simp
    | cons x A ih => rw [List.flatMap_cons, List.length_append, ih, List.length_map, List.length_cons, Nat.succ_mul]; omega
  rw [e] at this; exact this
def RunR : List Tm → List Tm → Su → Prs → (Bool → Su → Prs → Prop) → Prop
  | a :: xs, b :: ys, s, l, post => cl f_r03_solver_solve [.ptr (.own 0) 0, tD a, tD b] (solH s l) fun r H' => ∃ s' l', H' = solH s' l' ∧ ((r = bD true ∧ RunR xs ys s' l' post) ∨ (r = bD false ∧ post false s' l'))
  | _, _, s, l, post => post true s l
theorem solve_enter (s : Su) (l : Prs) {a b a' b' : Tm} (ha : Head (fnS s) a a') (hb : Head (fnS s) b b') (Q : D → Heap → Prop)
    (h1 : a.var = true → b.var = true → (a.name, b.name) ∈ l → Q (bD true) (solH s l))
    (h2 : (a.var = true → b.var = true → (a.name, b.name) ∉ l) → jp_r03_solver_solve_2 Q (a.var && b.var) (a'.var && b'.var && decide (a'.name = b'.name)) (V.s a'.name) (V.b a'.var) (V.l (Tm.encL a'.args)) (V.s b'.name) (V.b b'.var) (V.l (Tm.encL b'.args)) a.name b.name (V.l (encS s)) l.length (encQ l)) :
    cl f_r03_solver_solve [.ptr (.own 0) 0, tD a, tD b] (solH s l) Q := by
  refine C_r03_solver_solve _ _ _ _ _ _ _ _ _ _ ?_
  have mid : (a.var = true → b.var = true → (a.name, b.name) ∉ l) → jp_r03_solver_solve_1 Q (a.var && b.var) a.name a.var (Tm.encL a.args) b.name b.var (Tm.encL b.args) a.name b.name (V.l (encS s)) l.length (encQ l) := fun hn => by
    have h2 := h2 hn
    rw [jp_r03_solver_solve_1_s]
    refine ⟨tD a', (r03_walk_ok s ha).here rfl, r03_walk_ok s hb _ ⟨rfl, rfl, ?_⟩⟩
    refine iff_intro (fun h3 => iff_intro (fun h4 => ?_) (fun h4 => ?_)) (fun h3 => ?_)
    · have h3 : a'.var = true := h3
      have h4 : b'.var = true := h4
      show jp_r03_solver_solve_2 Q (a.var && b.var) (a'.name.toList == b'.name.toList) _ _ _ _ _ _ _ _ _ _ _
      rw [ba_beq]
      have e : (a'.var && b'.var && decide (a'.name = b'.name)) = decide (a'.name = b'.name) := by rw [h3, h4]; rfl
      rw [← e]; exact h2
    · have h4 : b'.var = false := h4
      have e : (a'.var && b'.var && decide (a'.name = b'.name)) = false := by rw [h4]; simp
      rw [e] at h2; exact h2
    · have h3 : a'.var = false := h3
      have e : (a'.var && b'.var && decide (a'.name = b'.name)) = false := by rw [h3]; rfl
      rw [e] at h2; exact h2
  unfold vc_r03_solver_solve
  have both : jp_r03_solver_solve_0 Q (a.var && b.var) a.name a.var (Tm.encL a.args) b.name b.var (Tm.encL b.args) a.name b.name (encS s) l.length (encQ l) := by
    rw [jp_r03_solver_solve_0_s]
    refine iff_intro (fun h => ?_) (fun h => mid fun h3 h4 => by rw [h3, h4] at h; cases h)
    rw [Bool.and_eq_true] at h
    refine r03_solver_known_ok s l a.name b.name _ ⟨rfl, rfl, iff_intro (fun h3 => ⟨trivial, h1 h.1 h.2 (knP_iff.1 h3)⟩) (fun h3 => mid fun _ _ => knP_false.1 h3)⟩
  refine iff_intro (fun h => ?_) (fun h => ?_)
  · rw [show (a.var && b.var) = b.var by rw [h]; rfl] at both; exact both
  · rw [show (a.var && b.var) = false by rw [h]; rfl] at both; exact both
end Go.Proofs.Ytgohjdaepcmonaa
set_option linter.unusedVariables false
set_option linter.unusedSimpArgs false
namespace Go.Proofs.Ytgohjdaepcmonaa
open Go.Abs
theorem keyEq1 (a c : ByteArray) (r : List V) : keyEq [.str] [V.s a] (V.s c :: r) = decide (a = c) := by
  have e : keyEq [.str] [V.s a] (V.s c :: r) = (match a.toList == c.toList with | true => true | false => false) := rfl
  rw [e, ba_beq]; cases decide (a = c) <;> rfl
theorem keyEq2' (a b c d : ByteArray) (r : List V) : keyEq [.str, .str] [V.s a, V.s b] (V.s c :: V.s d :: r) = (decide (a = c) && decide (b = d)) := by
  have e : keyEq [.str, .str] [V.s a, V.s b] (V.s c :: V.s d :: r) = (match a.toList == c.toList with | true => (match b.toList == d.toList with | true => true | false => false) | false => false) := rfl
  rw [e, ba_beq, ba_beq]
  cases decide (a = c) <;> cases decide (b = d) <;> rfl
theorem bound_cons {y : ByteArray × Tm} {m : Su} {x : ByteArray} (h : ¬ x = y.1) : boundS (y :: m) x = boundS m x := by
  rw [Bool.eq_iff_iff, boundS_iff, boundS_iff]
  constructor
  · rintro ⟨z, hz, e⟩
    rcases List.mem_cons.1 hz with h1 | hz
    · rw [h1] at e; exact absurd e.symm h
    · exact ⟨z, hz, e⟩
  · rintro ⟨z, hz, e⟩; exact ⟨z, List.mem_cons_of_mem _ hz, e⟩
theorem mlook_su (x : ByteArray) : ∀ m : Su, mlook [.str] [V.s x] (encS m) = if boundS m x then some (Tm.image m x).enc else none
  | [] => rfl
  | y :: m => by
    have henc : encS (y :: m) = (V.s y.1 :: y.2.enc) :: encS m := rfl
    rw [henc, mlook, keyEq1]
    by_cases h : x = y.1
    · have hb : boundS (y :: m) x = true := boundS_iff.2 ⟨y, by simp, h.symm⟩
      rw [decide_eq_true h, if_pos hb, Tm.image, if_pos h.symm]; rfl
    · have hi : Tm.image (y :: m) x = Tm.image m x := by rw [Tm.image, if_neg fun e => h e.symm]
      rw [decide_eq_false h, bound_cons h, hi]
      exact mlook_su x m
theorem mhas_su (x : ByteArray) (m : Su) : mhas [.str] [V.s x] (encS m) = boundS m x := by
  unfold mhas; rw [mlook_su]; cases boundS m x <;> rfl
theorem mget_su {x : ByteArray} {m : Su} (zs : List V) (h : boundS m x = true) : mget [.str] zs [V.s x] (encS m) = (Tm.image m x).enc := by
  unfold mget; rw [mlook_su, if_pos h]; rfl
theorem mset_su (x : ByteArray) (t : Tm) : ∀ m : Su, boundS m x = false → mset [.str] [V.s x] t.enc (encS m) = encS (m ++ [(x, t)])
  | [], _ => rfl
  | y :: m, h => by
    rw [boundS_false] at h
    have e : encS (y :: m) = (V.s y.1 :: y.2.enc) :: encS m := rfl
    rw [e, mset, keyEq1, decide_eq_false fun e => h y (by simp) e.symm]
    show _ :: mset _ _ _ (encS m) = _
    rw [mset_su x t m (boundS_false.2 fun z hz => h z (List.mem_cons_of_mem _ hz))]
    rfl
theorem fnS_push {m : Su} {v : ByteArray} (t : Tm) (h : fnS m v = none) : fnS (m ++ [(v, t)]) = updB (fnS m) v t := by
  rw [fnS_none, boundS_false] at h
  have him : ∀ (m : Su) (y : ByteArray), (∀ z ∈ m, z.1 ≠ v) → Tm.image (m ++ [(v, t)]) y = if y = v then t else Tm.image m y := fun m => by
    induction m with
    | nil =>
      intro y _
      simp only [List.nil_append, Tm.image]
      by_cases h : v = y
      · rw [if_pos h, if_pos h.symm]
      · rw [if_neg h, if_neg fun e => h e.symm]
    | cons x r ih =>
      intro y h
      rw [List.cons_append, Tm.image, Tm.image]
      by_cases hx : x.1 = y
      · rw [if_pos hx, if_pos hx, if_neg fun e => h x (by simp) (hx.trans e)]
      · rw [if_neg hx, if_neg hx]; exact ih y fun z hz => h z (List.mem_cons_of_mem _ hz)
  funext y
  by_cases hy : y = v
  · subst hy
    rw [updB_self, fnS_of (boundS_iff.2 ⟨(y, t), by simp, rfl⟩), him _ _ h, if_pos rfl]
  · rw [updB_ne _ _ hy]
    have hb : boundS (m ++ [(v, t)]) y = boundS m y := by
      rw [Bool.eq_iff_iff, boundS_iff, boundS_iff]
      constructor
      · rintro ⟨z, hz, e⟩
        rcases List.mem_append.1 hz with hz | hz
        · exact ⟨z, hz, e⟩
        · rw [List.mem_singleton.1 hz] at e; exact absurd e.symm hy
      · rintro ⟨z, hz, e⟩; exact ⟨z, List.mem_append_left _ hz, e⟩
    unfold fnS
    rw [hb, him _ _ h, if_neg hy]
def encD (l : Prs) : List (List V) := l.map fun p => [.s p.1, .s p.2, .b true]
theorem mget_prs (a b : ByteArray) : ∀ l : Prs, ((mget [.str, .str] [V.b false] [V.s a, V.s b] (encD l)).headD V.none).bool = knP l a b
  | [] => rfl
  | p :: l => by
    have ih := mget_prs a b l
    have e : encD (p :: l) = [V.s p.1, V.s p.2, V.b true] :: encD l := rfl
    unfold mget at ih ⊢
    rw [e, mlook, keyEq2']
    have e2 : knP (p :: l) a b = ((decide (p.1 = a) && decide (p.2 = b)) || knP l a b) := rfl
    rw [e2]
    have e3 : (decide (a = p.1) && decide (b = p.2)) = (decide (p.1 = a) && decide (p.2 = b)) := by
      rw [Bool.eq_iff_iff]; simp only [Bool.and_eq_true, decide_eq_true_iff]
      exact ⟨fun h => ⟨h.1.symm, h.2.symm⟩, fun h => ⟨h.1.symm, h.2.symm⟩⟩
    rw [e3]
    cases h : (decide (p.1 = a) && decide (p.2 = b)) with
    | true => rfl
    | false => rw [Bool.false_or]; exact ih
theorem mset_prs (a b : ByteArray) : ∀ l : Prs, (a, b) ∉ l → mset [.str, .str] [V.s a, V.s b] [V.b true] (encD l) = encD (l ++ [(a, b)])
  | [], _ => rfl
  | p :: l, h => by
    have e : encD (p :: l) = [V.s p.1, V.s p.2, V.b true] :: encD l := rfl
    rw [e, mset, keyEq2']
    have hne : (decide (a = p.1) && decide (b = p.2)) = false := by
      rw [← Bool.not_eq_true, Bool.and_eq_true, decide_eq_true_iff, decide_eq_true_iff]
      rintro ⟨rfl, rfl⟩; exact h (by simp)
    rw [hne]
    show _ :: mset _ _ _ (encD l) = _
    rw [mset_prs a b l fun h' => h (List.mem_cons_of_mem _ h')]
    rfl
def encW (l : List ByteArray) : List (List V) := l.map fun x => [.s x, .b true]
theorem mget_seen (x : ByteArray) : ∀ l : List ByteArray, ((mget [.str] [V.b false] [V.s x] (encW l)).headD V.none).bool = hasN l x
  | [] => rfl
  | y :: l => by
    have ih := mget_seen x l
    have e : encW (y :: l) = [V.s y, V.b true] :: encW l := rfl
    unfold mget at ih ⊢
    rw [e, mlook, keyEq1]
    have e2 : hasN (y :: l) x = (decide (y = x) || hasN l x) := rfl
    rw [e2]
    by_cases h : x = y
    · rw [decide_eq_true h, decide_eq_true h.symm]; rfl
    · rw [decide_eq_false h, decide_eq_false fun e => h e.symm, Bool.false_or]; exact ih
theorem mset_seen (x : ByteArray) : ∀ l : List ByteArray, x ∉ l → mset [.str] [V.s x] [V.b true] (encW l) = encW (l ++ [x])
  | [], _ => rfl
  | y :: l, h => by
    have e : encW (y :: l) = [V.s y, V.b true] :: encW l := rfl
    rw [e, mset, keyEq1, decide_eq_false fun e => h (by simp [e])]
    show _ :: mset _ _ _ (encW l) = _
    rw [mset_seen x l fun h' => h (List.mem_cons_of_mem _ h')]
    rfl
abbrev uniH (m : Su) (l : Prs) : Heap := [.cells [.mp (.own 1), .mp (.own 2)], .map mt_9_24 (encS m), .map mt_82_4 (encD l)]
theorem unify_head_ok (m : Su) (l : Prs) {t h : Tm} (hd : Head (fnS m) t h) (Q : D → Heap → Prop) (hQ : Q (tD h) (uniH m l)) : cl f_unify_unifier_head [.ptr (.own 0) 0, tD t] (uniH m l) Q := by
  refine C_unify_unifier_head _ _ _ _ _ _ ?_
  unfold vc_unify_unifier_head
  induction hd with
  | fn t hv =>
    refine ⟨1, ?_⟩
    rw [lp_unify_unifier_head_0_s]
    exact iff_intro (fun h => by rw [show (V.b t.var).bool = t.var from rfl, hv] at h; cases h) fun _ => ⟨⟨trivial, trivial, trivial, trivial⟩, hQ⟩
  | free t hv hs =>
    refine ⟨1, ?_⟩
    rw [lp_unify_unifier_head_0_s]
    refine iff_intro (fun _ => ?_) (fun h => by rw [show (V.b t.var).bool = t.var from rfl, hv] at h; cases h)
    rw [mhas_su, fnS_none.1 hs]
    exact ⟨⟨trivial, trivial, trivial, trivial⟩, hQ⟩
  | step t u h hv hs _ ih =>
    obtain ⟨k, hk⟩ := ih hQ
    obtain ⟨hb, hi⟩ := fnS_some hs
    refine ⟨k + 1, ?_⟩
    rw [lp_unify_unifier_head_0_s]
    refine iff_intro (fun _ => ?_) (fun h => by rw [show (V.b t.var).bool = t.var from rfl, hv] at h; cases h)
    rw [mhas_su, hb, mget_su _ hb, hi, Tm.enc_eq]
    exact hk
def SeenOk (σ : Bd) (v : ByteArray) (P seen : List ByteArray) : Prop := ∀ w ∈ seen, w ∈ P ∨ ¬ Occ σ v (Tm.vr w)
abbrev occH (m : Su) (l : Prs) (seen : List ByteArray) : Heap := [.cells [.mp (.own 1), .mp (.own 2)], .map mt_9_24 (encS m), .map mt_82_4 (encD l), .map mt_9_4 (encW seen)]
abbrev occH7 (m : Su) (l : Prs) (v : ByteArray) (seen : List ByteArray) : Heap := [.cells [.ptr (.own 1) 0], .cells [.mp (.own 2), .mp (.own 3)], .map mt_9_24 (encS m), .map mt_82_4 (encD l), .cells [sD v], .cells [.mp (.own 6)], .map mt_9_4 (encW seen)]
def OccC (m : Su) (l : Prs) (v : ByteArray) (P : List ByteArray) (t : Tm) (seen : List ByteArray) : Prop :=
  ∀ Q : D → Heap → Prop, (Occ (fnS m) v t → ∀ seen', Q (bD true) (occH m l seen')) → (¬ Occ (fnS m) v t → ∀ seen', SeenOk (fnS m) v P seen' → Q (bD false) (occH m l seen')) →
    cl f_unify_unifier_occurs [.ptr (.own 0) 0, sD v, tD t, .mp (.own 3)] (occH m l seen) Q
theorem occ_args {m : Su} {l : Prs} {v : ByteArray} {P : List ByteArray} {t : Tm} (hv : t.var = false) {seen : List ByteArray} (hs : SeenOk (fnS m) v P seen) (h : ∀ a ∈ t.args, ∀ seen', SeenOk (fnS m) v P seen' → OccC m l v P a seen') : OccC m l v P t seen := by
  intro Q hQ1 hQ2
  refine C_unify_unifier_occurs _ _ _ _ _ _ _ _ ?_
  unfold vc_unify_unifier_occurs
  refine iff_intro (fun hv' => by rw [hv] at hv'; cases hv') fun _ => ?_
  refine C_slices_ContainsFunc_Term_unifyunifieroccurs1 _ _ _ _ _ _ ?_
  unfold vc_slices_ContainsFunc_Term_unifyunifieroccurs1
  refine C_slices_IndexFunc_Term_unifyunifieroccurs1 _ _ _ _ _ _ fun hb => ?_
  have hl := Tm.encL_length t.args
  rw [hl] at hb ⊢
  refine range_slices_IndexFunc_Term_unifyunifieroccurs1_0 _ _ _ hb (fun k h2 h3 h4 h6 => h2 = encS m ∧ h3 = encD l ∧ h4 = V.s v ∧ ∃ seen', h6 = encW seen' ∧ SeenOk (fnS m) v P seen' ∧ ∀ i (hi : i < t.args.length), i < k → ¬ Occ (fnS m) v t.args[i]) (fun k h2 h3 h4 h6 hk hJ K hK => ?_) (fun h2 h3 h4 h6 hJ => ?_) 0 _ _ _ _ (Nat.zero_le _) ⟨rfl, rfl, rfl, seen, rfl, hs, fun i _ h => by omega⟩
  · obtain ⟨rfl, rfl, rfl, seen', rfl, hs', hno⟩ := hJ
    simp only [Tm.encL_getD _ k hk, Tm.enc_eq, List.drop_zero, List.headD_cons, List.tail_cons]
    have hmem := List.getElem_mem hk
    refine ⟨by omega, by omega, C_unify_unifier_occurs_1 _ _ _ _ _ _ _ _ ?_⟩
    unfold vc_unify_unifier_occurs_1
    refine h _ hmem seen' hs' _ (fun ho seen2 => ⟨rfl, rfl, trivial, rfl, rfl, iff_intro (fun _ => ⟨trivial, rfl, rfl, trivial, rfl, rfl, trivial, ?_⟩) fun h => by cases h⟩) (fun ho seen2 hs2 => ⟨rfl, rfl, trivial, rfl, rfl, iff_intro (fun h => by cases h) fun _ => hK _ _ _ _ ⟨rfl, rfl, rfl, seen2, rfl, hs2, fun i hi hik => ?_⟩⟩)
    · show Q (.v .bool (V.b (decide ((k : Int) ≥ 0)))) (occH m l seen2)
      rw [decide_eq_true (show (k : Int) ≥ 0 by omega)]
      exact hQ1 ((Occ.fn hv).2 ⟨_, hmem, ho⟩) seen2
    · rcases Nat.lt_succ_iff_lt_or_eq.1 hik with h8 | h8
      · exact hno i hi h8
      · subst h8; exact ho
  · obtain ⟨rfl, rfl, rfl, seen', rfl, hs', hno⟩ := hJ
    refine ⟨trivial, rfl, rfl, trivial, rfl, rfl, trivial, ?_⟩
    exact hQ2 (fun ho => by
      obtain ⟨a, ha, ho⟩ := (Occ.fn hv).1 ho
      obtain ⟨i, hi, rfl⟩ := List.mem_iff_getElem.1 ha
      exact hno i hi hi ho) seen' hs'
theorem unify_occurs_ok (m : Su) (l : Prs) (v : ByteArray) {θ : ByteArray → Tm} {r : ByteArray → Nat} (ht : Tri (fnS m) θ r) (hv : fnS m v = none) : ∀ (n : Nat) (t : Tm), (∀ y ∈ Tm.vs t, r y < n) → ∀ (P seen : List ByteArray), SeenOk (fnS m) v P seen → (∀ w ∈ P, ¬ Occ (fnS m) w t) → OccC m l v P t seen := by
  intro n
  induction n with
  | zero =>
    refine Tm.ind fun t ih hr P seen hs hP => ?_
    cases hvt : t.var with
    | true => exact absurd (hr _ ((Tm.vs_var hvt).2 rfl)) (by omega)
    | false =>
      exact occ_args hvt hs fun a ha s' hs' => ih a ha (fun y hy => hr y ((Tm.vs_fn hvt).2 ⟨_, ha, hy⟩)) P s' hs' fun w hw ho => hP w hw ((Occ.fn hvt).2 ⟨_, ha, ho⟩)
  | succ n ihn =>
    refine Tm.ind fun t ih hr P seen hs hP => ?_
    cases hvt : t.var with
    | false =>
      exact occ_args hvt hs fun a ha s' hs' => ih a ha (fun y hy => hr y ((Tm.vs_fn hvt).2 ⟨_, ha, hy⟩)) P s' hs' fun w hw ho => hP w hw ((Occ.fn hvt).2 ⟨_, ha, ho⟩)
    | true =>
      intro Q hQ1 hQ2
      have hxr := hr _ ((Tm.vs_var hvt).2 rfl)
      refine C_unify_unifier_occurs _ _ _ _ _ _ _ _ ?_
      unfold vc_unify_unifier_occurs
      refine iff_intro (fun _ => ?_) (fun h => by rw [hvt] at h; cases h)
      rw [ba_beq]
      refine iff_dec (fun h => ⟨trivial, hQ1 ((Occ.vr hvt).2 (.inl h.symm)) seen⟩) (fun h => ?_)
      rw [mhas_su]
      refine iff_not (iff_intro (fun hb => ?_) (fun hb => ⟨trivial, hQ2 (fun ho => ?_) seen hs⟩))
      · have hsm := fnS_of hb
        rw [mget_seen]
        refine iff_intro (fun h3 => ⟨trivial, hQ2 (fun ho => ?_) seen hs⟩) (fun h3 => ?_)
        · rcases hs _ (hasN_iff.1 h3) with h4 | h4
          · exact hP _ h4 ((Occ.vr hvt).2 (.inl rfl))
          · exact h4 (ho.congr fun z hz => by rw [(Tm.vs_var hvt).1 hz]; simp [Tm.vs])
        · rw [jp_unify_unifier_occurs_0_s]
          unfold je_unify_unifier_occurs_0
          rw [mget_su _ hb, Tm.enc_eq, mset_seen _ _ (hasN_false.1 h3)]
          have hocc : Occ (fnS m) v t ↔ Occ (fnS m) v (Tm.image m t.name) := by
            rw [Occ.vr hvt]
            constructor
            · rintro (e | ⟨u, hu, ho⟩)
              · exact absurd e.symm h
              · rw [hsm] at hu; cases hu; exact ho
            · exact fun ho => .inr ⟨_, hsm, ho⟩
          refine ihn (Tm.image m t.name) (fun y hy => by have := ht.rk _ _ hsm y hy; omega) (t.name :: P) (seen ++ [t.name]) (fun w hw => ?_) (fun w hw ho => ?_) _ (fun ho s' => ⟨rfl, rfl, trivial, hQ1 (hocc.2 ho) s'⟩) (fun ho s' hs' => ⟨rfl, rfl, trivial, hQ2 (fun h' => ho (hocc.1 h')) s' fun w hw => ?_⟩)
          · rcases List.mem_append.1 hw with h4 | h4
            · exact (hs w h4).imp (List.mem_cons_of_mem _) id
            · rw [List.mem_singleton.1 h4]; exact .inl (by simp)
          · rcases List.mem_cons.1 hw with rfl | hw
            · exact Occ.acyc ht hsm ho
            · exact hP w hw ((Occ.vr hvt).2 (.inr ⟨_, hsm, ho⟩))
          · rcases hs' w hw with h4 | h4
            · rcases List.mem_cons.1 h4 with rfl | h4
              · exact .inr fun h5 => ho (hocc.1 (h5.congr fun z hz => by rw [(Tm.vs_var rfl).1 hz]; exact (Tm.vs_var hvt).2 rfl))
              · exact .inl h4
            · exact .inr h4
      · rcases (Occ.vr hvt).1 ho with e | ⟨u, hu, _⟩
        · exact h e.symm
        · rw [fnS_none.2 hb] at hu; cases hu
theorem unify_set_ok (m : Su) (l : Prs) {θ : ByteArray → Tm} {r : ByteArray → Nat} (ht : Tri (fnS m) θ r) (v : ByteArray) (t : Tm) (hv : fnS m v = none) (Q : D → Heap → Prop)
    (h1 : Occ (fnS m) v t → Q (bD false) (uniH m l)) (h2 : ¬ Occ (fnS m) v t → Q (bD true) (uniH (m ++ [(v, t)]) l)) : cl f_unify_unifier_set [.ptr (.own 0) 0, sD v, tD t] (uniH m l) Q := by
  refine C_unify_unifier_set _ _ _ _ _ _ _ ?_
  unfold vc_unify_unifier_set
  refine unify_occurs_ok m l v ht hv (maxR r (Tm.vs t) + 1) t (fun y hy => by have := maxR_mem (r := r) hy; omega) [] [] (fun w hw => by simp at hw) (fun w hw => by simp at hw) _ (fun ho s' => ⟨rfl, rfl, iff_intro (fun _ => ⟨trivial, h1 ho⟩) fun h => by cases h⟩) (fun ho s' _ => ⟨rfl, rfl, iff_intro (fun h => by cases h) fun _ => ⟨trivial, ?_⟩⟩)
  have e : mset [.str] [V.s v] [V.s t.name, V.b t.var, V.l (Tm.encL t.args)] (encS m) = encS (m ++ [(v, t)]) := by
    rw [← Tm.enc_eq]; exact mset_su v t m (fnS_none.1 hv)
  show Q (bD true) [.cells [.mp (.own 1), .mp (.own 2)], .map mt_9_24 (mset [.str] [V.s v] [V.s t.name, V.b t.var, V.l (Tm.encL t.args)] (encS m)), .map mt_82_4 (encD l)]
  rw [e]; exact h2 ho
end Go.Proofs.Ytgohjdaepcmonaa
set_option linter.unusedVariables false
set_option linter.unusedSimpArgs false
namespace Go.Proofs.Ytgohjdaepcmonaa
open Go.Abs
theorem sizeL_cons' (τ : ByteArray → Tm) (a : Tm) (xs : List Tm) : Tm.sizeL ((a :: xs).map (Tm.sub τ)) = (Tm.sub τ a).size + Tm.sizeL (xs.map (Tm.sub τ)) := rfl
def PD (σ : Bd) (xs : List Tm) (l : Prs) : Prop := ∀ p ∈ l, (∀ τ, Resp τ σ → τ p.1 = τ p.2) ∨ ∀ τ, Resp τ σ → Tm.sizeL (xs.map (Tm.sub τ)) < (τ p.1).size
def PE (σ : Bd) (l l' : Prs) : Prop := ∀ p ∈ l', p ∈ l ∨ ∀ τ, Resp τ σ → τ p.1 = τ p.2
def mark (a b : Tm) (l : Prs) : Prs := if a.var && b.var then l ++ [(a.name, b.name)] else l
abbrev NamesOk (m : Su) : Prop := (suNames m).Nodup
theorem NamesOk.push {m : Su} (h : NamesOk m) {v : ByteArray} (t : Tm) (hv : fnS m v = none) : NamesOk (m ++ [(v, t)]) := by
  rw [fnS_none, boundS_false] at hv
  show (suNames (m ++ [(v, t)])).Nodup
  have e : suNames (m ++ [(v, t)]) = suNames m ++ [v] := by simp [suNames]
  rw [e, List.nodup_append]
  refine ⟨h, by simp, fun x hx y hy e => ?_⟩
  rw [List.mem_singleton.1 hy] at e
  obtain ⟨z, hz, rfl⟩ := List.mem_map.1 hx
  exact hv z hz e
theorem PE.trans {σ : Bd} {l l1 l2 : Prs} {σ1 : Bd} (h1 : PE σ1 l l1) (h2 : PE σ l1 l2) (hm : ∀ τ, Resp τ σ → Resp τ σ1) : PE σ l l2 := fun p hp => by
  rcases h2 p hp with h | h
  · exact (h1 p h).imp id fun h τ hτ => h τ (hm τ hτ)
  · exact .inr h
theorem PE.unmark {σ σ1 : Bd} {a b : Tm} {l l1 : Prs} (hd : Sl σ [a] [b] (some σ1)) (h : PE σ1 (mark a b l) l1) : PE σ1 l l1 := fun p hp => by
  rcases h p hp with h | h
  · unfold mark at h
    split at h
    · rename_i hb
      rw [Bool.and_eq_true] at hb
      rcases List.mem_append.1 h with h | h
      · exact .inl h
      · rw [List.mem_singleton.1 h]
        refine .inr fun τ hτ => ?_
        have h5 := (hd.mono σ1 rfl τ hτ).2
        simp only [List.map_cons, List.map_nil, List.cons.injEq, and_true] at h5
        rwa [Tm.sub_var _ hb.1, Tm.sub_var _ hb.2] at h5
    · exact .inl h
  · exact .inr h
theorem PE.refl (σ : Bd) (l : Prs) : PE σ l l := fun p hp => .inl hp
def SolveP (a b : Tm) (m : Su) (l : Prs) (o : Option Bd) : Prop :=
  ∀ Q : D → Heap → Prop, (∀ σ1, o = some σ1 → ∀ m1 l1, fnS m1 = σ1 → NamesOk m1 → PE σ1 l l1 → Q (bD true) (uniH m1 l1)) → (o = none → ∀ m1 l1, Q (bD false) (uniH m1 l1)) →
    cl f_unify_unifier_solve [.ptr (.own 0) 0, tD a, tD b] (uniH m l) Q
def RunP : List Tm → List Tm → Su → Prs → (Bool → Su → Prs → Prop) → Prop
  | a :: xs, b :: ys, m, l, post => cl f_unify_unifier_solve [.ptr (.own 0) 0, tD a, tD b] (uniH m l) fun r H' => ∃ m' l', H' = uniH m' l' ∧ ((r = bD true ∧ RunP xs ys m' l' post) ∨ (r = bD false ∧ post false m' l'))
  | _, _, m, l, post => post true m l
theorem consP {a b : Tm} {xs ys : List Tm} {m : Su} {l : Prs} {σ1 : Bd} {o : Option Bd} (h1 : SolveP a b m l (some σ1)) (hd : Sl σ1 xs ys o) (hpd : PD (fnS m) (a :: xs) l) (hs : Sl (fnS m) [a] [b] (some σ1))
    (ih : ∀ m l, fnS m = σ1 → NamesOk m → PD σ1 xs l → ∀ post, (∀ σ', o = some σ' → ∀ m' l', fnS m' = σ' → NamesOk m' → PE σ' l l' → post true m' l') → (o = none → ∀ m' l', post false m' l') → RunP xs ys m l post)
    (post : Bool → Su → Prs → Prop) (hp : ∀ σ', o = some σ' → ∀ m' l', fnS m' = σ' → NamesOk m' → PE σ' l l' → post true m' l') (hn : o = none → ∀ m' l', post false m' l') : RunP (a :: xs) (b :: ys) m l post := by
  unfold RunP
  refine h1 _ (fun σ2 e m1 l1 e1 hi hpe => ?_) (fun e => by cases e)
  cases e
  refine ⟨m1, l1, rfl, .inl ⟨rfl, ih m1 l1 e1 hi (fun p hp' => ?_) post (fun σ' e m' l' e' hi' hpe' => hp σ' e m' l' e' hi' (hpe.trans hpe' fun τ hτ => (hd.mono σ' e τ hτ).1)) hn⟩⟩
  rcases hpe p hp' with h | h
  · rcases hpd p h with h2 | h2
    · exact .inl fun τ hτ => h2 τ (hs.mono σ1 rfl τ hτ).1
    · refine .inr fun τ hτ => ?_
      have := h2 τ (hs.mono σ1 rfl τ hτ).1
      rw [sizeL_cons'] at this; omega
  · exact .inl h
theorem noneP {a b : Tm} {xs ys : List Tm} {m : Su} {l : Prs} (h1 : SolveP a b m l none) (post : Bool → Su → Prs → Prop) (hn : ∀ m' l', post false m' l') : RunP (a :: xs) (b :: ys) m l post := by
  unfold RunP
  exact h1 _ (fun σ2 e => by cases e) fun _ m1 l1 => ⟨m1, l1, rfl, .inr ⟨rfl, hn m1 l1⟩⟩
theorem enterP {m : Su} {l : Prs} {xs : List Tm} {θ : ByteArray → Tm} {r : ByteArray → Nat} (ht : Tri (fnS m) θ r) (hi : NamesOk m) {a b a' b' : Tm} (hpd : PD (fnS m) (a :: xs) l) (ha : Head (fnS m) a a') (hb : Head (fnS m) b b') {o : Option Bd} (hd : Sl (fnS m) [a] [b] o)
    (h2 : ∀ Q : D → Heap → Prop, (∀ σ1, o = some σ1 → ∀ m1 l1, fnS m1 = σ1 → NamesOk m1 → PE σ1 (mark a b l) l1 → Q (bD true) (uniH m1 l1)) → (o = none → ∀ m1 l1, Q (bD false) (uniH m1 l1)) →
      jp_unify_unifier_solve_2 Q (a'.var && b'.var && decide (a'.name = b'.name)) (V.s a'.name) (V.b a'.var) (V.l (Tm.encL a'.args)) (V.s b'.name) (V.b b'.var) (V.l (Tm.encL b'.args)) (encS m) (encD (mark a b l))) : SolveP a b m l o := by
  intro Q hQ1 hQ2
  have h2 := h2 Q (fun σ1 e m1 l1 e1 hi1 hpe => hQ1 σ1 e m1 l1 e1 hi1 (by cases e; exact hpe.unmark hd)) hQ2
  have mid : jp_unify_unifier_solve_1 Q a.name a.var (Tm.encL a.args) b.name b.var (Tm.encL b.args) (encS m) (encD (mark a b l)) := by
    rw [jp_unify_unifier_solve_1_s]
    refine ⟨tD a', unify_head_ok m (mark a b l) ha _ ⟨rfl, rfl⟩, unify_head_ok m (mark a b l) hb _ ⟨rfl, rfl, ?_⟩⟩
    refine iff_intro (fun h3 => iff_intro (fun h4 => ?_) (fun h4 => ?_)) (fun h3 => ?_)
    · have h3 : a'.var = true := h3
      have h4 : b'.var = true := h4
      show jp_unify_unifier_solve_2 Q (a'.name.toList == b'.name.toList) _ _ _ _ _ _ _ _
      rw [ba_beq]
      have e : (a'.var && b'.var && decide (a'.name = b'.name)) = decide (a'.name = b'.name) := by rw [h3, h4]; rfl
      rw [← e]; exact h2
    · have h4 : b'.var = false := h4
      have e : (a'.var && b'.var && decide (a'.name = b'.name)) = false := by rw [h4]; simp
      rw [e] at h2; exact h2
    · have h3 : a'.var = false := h3
      have e : (a'.var && b'.var && decide (a'.name = b'.name)) = false := by rw [h3]; rfl
      rw [e] at h2; exact h2
  have both : jp_unify_unifier_solve_0 Q (a.var && b.var) a.name a.var (Tm.encL a.args) b.name b.var (Tm.encL b.args) (encS m) (encD l) := by
    rw [jp_unify_unifier_solve_0_s]
    unfold je_unify_unifier_solve_0
    rw [mget_prs]
    refine iff_intro (fun h => iff_intro (fun h3 => ⟨trivial, ?_⟩) (fun h3 => ?_)) (fun h => ?_)
    · rw [Bool.and_eq_true] at h
      have hin := knP_iff.1 h3
      have heq : θ a.name = θ b.name := by
        rcases hpd _ hin with h4 | h4
        · exact h4 θ ht.resp
        · have := h4 θ ht.resp
          rw [sizeL_cons', Tm.sub_var _ h.1] at this
          have h5 : (θ a.name).size + _ < (θ a.name).size := this
          omega
      have e := hd.idle θ r ht (by
        simp only [List.map_cons, List.map_nil]
        rw [Tm.sub_var _ h.1, Tm.sub_var _ h.2, heq])
      exact hQ1 _ e m l rfl hi (PE.refl _ _)
    · rw [mset_prs _ _ _ (knP_false.1 h3)]
      unfold mark at mid
      rw [if_pos h] at mid; exact mid
    · unfold mark at mid
      rw [if_neg (by rw [h]; simp)] at mid; exact mid
  refine C_unify_unifier_solve _ _ _ _ _ _ _ _ _ ?_
  unfold vc_unify_unifier_solve
  refine iff_intro (fun h => ?_) (fun h => ?_)
  · rw [show (a.var && b.var) = b.var by rw [h]; rfl] at both; exact both
  · rw [show (a.var && b.var) = false by rw [h]; rfl] at both; exact both
section
variable {m : Su} {l : Prs} {xs : List Tm} {θ : ByteArray → Tm} {r : ByteArray → Nat} {a b a' b' : Tm}
theorem same_P (ht : Tri (fnS m) θ r) (hi : NamesOk m) (hpd : PD (fnS m) (a :: xs) l) (ha : Head (fnS m) a a') (hb : Head (fnS m) b b') (va : a'.var = true) (vb : b'.var = true) (hn : a'.name = b'.name) : SolveP a b m l (some (fnS m)) :=
  enterP ht hi hpd ha hb (.same _ _ _ _ _ _ _ _ ha hb va vb hn (.nil _)) fun Q hQ1 _ => by
    rw [jp_unify_unifier_solve_2_s]
    unfold je_unify_unifier_solve_2
    rw [show (a'.var && b'.var && decide (a'.name = b'.name)) = true by rw [va, vb, decide_eq_true hn]; rfl]
    exact ⟨trivial, hQ1 _ rfl m _ rfl hi (PE.refl _ _)⟩
theorem A_P (ht : Tri (fnS m) θ r) (hi : NamesOk m) (hpd : PD (fnS m) (a :: xs) l) (ha : Head (fnS m) a a') (hb : Head (fnS m) b b') (va : a'.var = true) (hne : ¬ (b'.var = true ∧ a'.name = b'.name))
    {o : Option Bd} (ho : (Occ (fnS m) a'.name b' ∧ o = none) ∨ (¬ Occ (fnS m) a'.name b' ∧ o = some (updB (fnS m) a'.name b'))) : SolveP a b m l o := by
  have hd : Sl (fnS m) [a] [b] o := by
    rcases ho with ⟨h1, rfl⟩ | ⟨h1, rfl⟩
    · exact .occA _ _ _ _ _ _ _ ha hb va hne h1
    · exact .setA _ _ _ _ _ _ _ _ ha hb va hne h1 (.nil _)
  refine enterP ht hi hpd ha hb hd fun Q hQ1 hQ2 => ?_
  have hx := ha.end_ va
  rw [jp_unify_unifier_solve_2_s]
  unfold je_unify_unifier_solve_2
  have e : (a'.var && b'.var && decide (a'.name = b'.name)) = false := by
    rw [va, Bool.true_and]
    cases hv : b'.var with
    | false => rfl
    | true => rw [Bool.true_and]; exact decide_eq_false fun e => hne ⟨hv, e⟩
  rw [e]
  refine iff_intro (fun h => by cases h) fun _ => iff_intro (fun _ => ?_) (fun h => by rw [show (V.b a'.var).bool = a'.var from rfl, va] at h; cases h)
  refine unify_set_ok m _ ht a'.name b' hx _ (fun h1 => ⟨rfl, rfl, trivial, ?_⟩) (fun h1 => ⟨rfl, rfl, trivial, ?_⟩)
  · rcases ho with ⟨_, e⟩ | ⟨h2, _⟩
    · exact hQ2 e m _
    · exact absurd h1 h2
  · rcases ho with ⟨h2, _⟩ | ⟨_, e⟩
    · exact absurd h2 h1
    · exact hQ1 _ e _ _ (fnS_push b' hx) (hi.push b' hx) (PE.refl _ _)
theorem B_P (ht : Tri (fnS m) θ r) (hi : NamesOk m) (hpd : PD (fnS m) (a :: xs) l) (ha : Head (fnS m) a a') (hb : Head (fnS m) b b') (va : a'.var = false) (vb : b'.var = true)
    {o : Option Bd} (ho : (Occ (fnS m) b'.name a' ∧ o = none) ∨ (¬ Occ (fnS m) b'.name a' ∧ o = some (updB (fnS m) b'.name a'))) : SolveP a b m l o := by
  have hd : Sl (fnS m) [a] [b] o := by
    rcases ho with ⟨h1, rfl⟩ | ⟨h1, rfl⟩
    · exact .occB _ _ _ _ _ _ _ ha hb va vb h1
    · exact .setB _ _ _ _ _ _ _ _ ha hb va vb h1 (.nil _)
  refine enterP ht hi hpd ha hb hd fun Q hQ1 hQ2 => ?_
  have hx := hb.end_ vb
  rw [jp_unify_unifier_solve_2_s]
  unfold je_unify_unifier_solve_2
  have e : (a'.var && b'.var && decide (a'.name = b'.name)) = false := by rw [va]; rfl
  rw [e]
  refine iff_intro (fun h => by cases h) fun _ => iff_intro (fun h => by rw [show (V.b a'.var).bool = a'.var from rfl, va] at h; cases h) fun _ => iff_intro (fun _ => ?_) (fun h => by rw [show (V.b b'.var).bool = b'.var from rfl, vb] at h; cases h)
  refine unify_set_ok m _ ht b'.name a' hx _ (fun h1 => ⟨rfl, rfl, trivial, ?_⟩) (fun h1 => ⟨rfl, rfl, trivial, ?_⟩)
  · rcases ho with ⟨_, e⟩ | ⟨h2, _⟩
    · exact hQ2 e m _
    · exact absurd h1 h2
  · rcases ho with ⟨h2, _⟩ | ⟨_, e⟩
    · exact absurd h2 h1
    · exact hQ1 _ e _ _ (fnS_push a' hx) (hi.push a' hx) (PE.refl _ _)
theorem fn_P (ht : Tri (fnS m) θ r) (hi : NamesOk m) (hpd : PD (fnS m) (a :: xs) l) (ha : Head (fnS m) a a') (hb : Head (fnS m) b b') (va : a'.var = false) (vb : b'.var = false) {o : Option Bd} (hd : Sl (fnS m) [a] [b] o)
    (hc : ¬ (a'.name = b'.name ∧ a'.args.length = b'.args.length) → o = none)
    (h2 : a'.name = b'.name → a'.args.length = b'.args.length → ∀ Q : D → Heap → Prop, (∀ σ1, o = some σ1 → ∀ m1 l1, fnS m1 = σ1 → NamesOk m1 → PE σ1 (mark a b l) l1 → Q (bD true) (uniH m1 l1)) → (o = none → ∀ m1 l1, Q (bD false) (uniH m1 l1)) →
      RunP a'.args b'.args m (mark a b l) (fun ok m1 l1 => match ok with | true => Q (bD true) (uniH m1 l1) | false => Q (bD false) (uniH m1 l1))) : SolveP a b m l o := by
  refine enterP ht hi hpd ha hb hd fun Q hQ1 hQ2 => ?_
  rw [jp_unify_unifier_solve_2_s]
  unfold je_unify_unifier_solve_2
  have e : (a'.var && b'.var && decide (a'.name = b'.name)) = false := by rw [va]; rfl
  rw [e]
  refine iff_intro (fun h => by cases h) fun _ => iff_intro (fun h => by rw [show (V.b a'.var).bool = a'.var from rfl, va] at h; cases h) fun _ => iff_intro (fun h => by rw [show (V.b b'.var).bool = b'.var from rfl, vb] at h; cases h) fun _ => ?_
  show iff (!(a'.name.toList == b'.name.toList)) _ _
  rw [ba_beq]
  refine iff_not (iff_dec (fun h3 hb1 hb2 => ?_) (fun h3 => ⟨trivial, hQ2 (hc fun h => h3 h.1) m _⟩))
  simp only [list_l, Tm.encL_length]
  refine iff_bne (fun h4 => ⟨trivial, hQ2 (hc fun h => h4 (by rw [h.2])) m _⟩) (fun h4 => ?_)
  have hl : a'.args.length = b'.args.length := by omega
  have hrun := h2 h3 hl Q hQ1 hQ2
  rw [jp_unify_unifier_solve_3_s]
  unfold je_unify_unifier_solve_3
  simp only [list_l, Tm.encL_length]
  intro hb1
  refine range_unify_unifier_solve_0 Q _ _ _ _ _ _ _ hb1 (fun k h1 h2 => ∃ m1 l1, h1 = encS m1 ∧ h2 = encD l1 ∧ RunP (a'.args.drop k) (b'.args.drop k) m1 l1 (fun ok m1 l1 => match ok with | true => Q (bD true) (uniH m1 l1) | false => Q (bD false) (uniH m1 l1))) (fun k h1 h2 hk hJ K hK => ?_) (fun h1 h2 hJ => ?_) 0 _ _ (Nat.zero_le _) ⟨m, _, rfl, rfl, hrun⟩
  · obtain ⟨m1, l1, rfl, rfl, hr⟩ := hJ
    have hk2 : k < b'.args.length := by omega
    rw [List.drop_eq_getElem_cons hk, List.drop_eq_getElem_cons hk2] at hr
    unfold RunP at hr
    simp only [list_l, Tm.encL_length, Tm.encL_getD _ k hk, Tm.encL_getD _ k hk2, Tm.enc_eq, List.drop_zero, List.headD_cons, List.tail_cons]
    refine ⟨by omega, by omega, by omega, by omega, hr.mono ?_⟩
    rintro r1 H' ⟨m2, l2, rfl, ⟨rfl, hr2⟩ | ⟨rfl, hf⟩⟩
    · exact ⟨rfl, rfl, iff_intro (fun h => by cases h) fun _ => hK _ _ ⟨m2, l2, rfl, rfl, hr2⟩⟩
    · exact ⟨rfl, rfl, iff_intro (fun _ => ⟨trivial, hf⟩) fun h => by cases h⟩
  · obtain ⟨m1, l1, rfl, rfl, hr⟩ := hJ
    rw [List.drop_length] at hr
    exact ⟨trivial, hr⟩
theorem PD.inner (hm : ∀ τ, Resp τ (fnS m) → Tm.sub τ a = Tm.sub τ a') (va : a'.var = false) (hpd : PD (fnS m) (a :: xs) l) : PD (fnS m) a'.args (mark a b l) := by
  have hsz : ∀ τ, Resp τ (fnS m) → (Tm.sub τ a).size = 1 + Tm.sizeL (a'.args.map (Tm.sub τ)) := fun τ hτ => by
    rw [hm τ hτ, Tm.sub_fn _ va, Tm.size_eq]; rfl
  have old : ∀ p ∈ l, (∀ τ, Resp τ (fnS m) → τ p.1 = τ p.2) ∨ ∀ τ, Resp τ (fnS m) → Tm.sizeL (a'.args.map (Tm.sub τ)) < (τ p.1).size := fun p hp => (hpd p hp).imp id fun h τ hτ => by
    have h1 := h τ hτ
    have h2 := hsz τ hτ
    rw [sizeL_cons'] at h1; omega
  intro p hp
  unfold mark at hp
  split at hp
  · rename_i hb
    rw [Bool.and_eq_true] at hb
    rcases List.mem_append.1 hp with h | h
    · exact old p h
    · rw [List.mem_singleton.1 h]
      refine .inr fun τ hτ => ?_
      have h2 := hsz τ hτ
      rw [Tm.sub_var _ hb.1] at h2
      show _ < (τ a.name).size
      omega
  · exact old p hp
end
theorem progRun {σ : Bd} {xs ys : List Tm} {o : Option Bd} (h : Sl σ xs ys o) :
    ∀ m l, fnS m = σ → (∃ θ r, Tri σ θ r) → NamesOk m → PD σ xs l → ∀ post, (∀ σ', o = some σ' → ∀ m' l', fnS m' = σ' → NamesOk m' → PE σ' l l' → post true m' l') → (o = none → ∀ m' l', post false m' l') → RunP xs ys m l post := by
  induction h with
  | nil σ =>
    intro m l e _ hi _ post hp _
    exact hp σ rfl m l e hi (PE.refl _ _)
  | same σ a b a' b' xs ys o ha hb va vb hn d ih =>
    intro m l e ht hi hpd post hp hpn
    subst e
    obtain ⟨θ, r, ht⟩ := ht
    exact consP (same_P ht hi hpd ha hb va vb hn) d hpd (.same _ _ _ _ _ _ _ _ ha hb va vb hn (.nil _)) (fun m' l' e' hi' hpd' => ih m' l' e' ⟨θ, r, ht⟩ hi' hpd') post hp hpn
  | setA σ a b a' b' xs ys o ha hb va hne ho d ih =>
    intro m l e ht hi hpd post hp hpn
    subst e
    obtain ⟨θ, r, ht⟩ := ht
    have hxn := ha.end_ va
    exact consP (A_P ht hi hpd ha hb va hne (.inr ⟨ho, rfl⟩)) d hpd (.setA _ _ _ _ _ _ _ _ ha hb va hne ho (.nil _)) (fun m' l' e' hi' hpd' => ih m' l' e' ⟨_, _, ht.upd hxn fun hin => ho ((Occ.iff ht hxn b').2 hin)⟩ hi' hpd') post hp hpn
  | occA σ a b a' b' xs ys ha hb va hne ho =>
    intro m l e ht hi hpd post hp hpn
    subst e
    obtain ⟨θ, r, ht⟩ := ht
    exact noneP (A_P ht hi hpd ha hb va hne (.inl ⟨ho, rfl⟩)) post (hpn rfl)
  | setB σ a b a' b' xs ys o ha hb va vb ho d ih =>
    intro m l e ht hi hpd post hp hpn
    subst e
    obtain ⟨θ, r, ht⟩ := ht
    have hxn := hb.end_ vb
    exact consP (B_P ht hi hpd ha hb va vb (.inr ⟨ho, rfl⟩)) d hpd (.setB _ _ _ _ _ _ _ _ ha hb va vb ho (.nil _)) (fun m' l' e' hi' hpd' => ih m' l' e' ⟨_, _, ht.upd hxn fun hin => ho ((Occ.iff ht hxn a').2 hin)⟩ hi' hpd') post hp hpn
  | occB σ a b a' b' xs ys ha hb va vb ho =>
    intro m l e ht hi hpd post hp hpn
    subst e
    obtain ⟨θ, r, ht⟩ := ht
    exact noneP (B_P ht hi hpd ha hb va vb (.inl ⟨ho, rfl⟩)) post (hpn rfl)
  | clash σ a b a' b' xs ys ha hb va vb hne =>
    intro m l e ht hi hpd post hp hpn
    subst e
    obtain ⟨θ, r, ht⟩ := ht
    exact noneP (fn_P ht hi hpd ha hb va vb (.clash _ _ _ _ _ _ _ ha hb va vb hne) (fun _ => rfl) fun h1 h2 => absurd ⟨h1, h2⟩ hne) post (hpn rfl)
  | args σ σ1 a b a' b' xs ys o ha hb va vb hn hl d1 d2 ih1 ih2 =>
    intro m l e ht hi hpd post hp hpn
    subst e
    obtain ⟨θ, r, ht⟩ := ht
    have hd : Sl (fnS m) [a] [b] (some σ1) := .args _ _ _ _ _ _ _ _ _ ha hb va vb hn hl d1 (.nil _)
    have h1 : SolveP a b m l (some σ1) := fn_P ht hi hpd ha hb va vb hd (fun h => absurd ⟨hn, hl⟩ h) fun _ _ Q hQ1 hQ2 =>
      ih1 m (mark a b l) rfl ⟨θ, r, ht⟩ hi (PD.inner (fun τ hτ => ha.sub hτ) va hpd) _ (fun σ' e m1 l1 e1 hi1 hpe => by cases e; exact hQ1 σ1 rfl m1 l1 e1 hi1 hpe) (fun e => by cases e)
    obtain ⟨θ1, r1, ht1⟩ := d1.tri σ1 rfl θ r ht
    exact consP h1 d2 hpd hd (fun m' l' e' hi' hpd' => ih2 m' l' e' ⟨θ1, r1, ht1⟩ hi' hpd') post hp hpn
  | argsN σ a b a' b' xs ys ha hb va vb hn hl d1 ih1 =>
    intro m l e ht hi hpd post hp hpn
    subst e
    obtain ⟨θ, r, ht⟩ := ht
    have hd : Sl (fnS m) [a] [b] none := .argsN _ _ _ _ _ _ _ ha hb va vb hn hl d1
    refine noneP (fn_P ht hi hpd ha hb va vb hd (fun h => rfl) fun _ _ Q hQ1 hQ2 => ?_) post (hpn rfl)
    exact ih1 m (mark a b l) rfl ⟨θ, r, ht⟩ hi (PD.inner (fun τ hτ => ha.sub hτ) va hpd) _ (fun σ' e => by cases e) (fun _ m1 l1 => hQ2 rfl m1 l1)
end Go.Proofs.Ytgohjdaepcmonaa
set_option linter.unusedVariables false
set_option linter.unusedSimpArgs false
namespace Go.Proofs.Ytgohjdaepcmonaa
open Go.Abs Tm
theorem filter_lt {α : Type} {p q : α → Bool} : ∀ {W : List α}, (∀ y ∈ W, p y = true → q y = true) → (∃ a ∈ W, q a = true ∧ p a = false) → (W.filter p).length < (W.filter q).length
  | [], _, ⟨a, ha, _⟩ => by simp at ha
  | x :: W, h, ⟨a, ha, h1, h2⟩ => by
    have le : ∀ V : List α, (∀ y ∈ V, p y = true → q y = true) → (V.filter p).length ≤ (V.filter q).length := fun V => by
      induction V with
      | nil => intro _; exact Nat.le_refl _
      | cons y V ih =>
        intro h
        have ih := ih fun z hz => h z (List.mem_cons_of_mem _ hz)
        have hy := h y (by simp)
        cases hp : p y with
        | true => rw [List.filter_cons_of_pos hp, List.filter_cons_of_pos (hy hp)]; simpa using ih
        | false =>
          rw [List.filter_cons_of_neg (by rw [hp]; simp)]
          cases hq : q y with
          | true => rw [List.filter_cons_of_pos hq]; simp; omega
          | false => rw [List.filter_cons_of_neg (by rw [hq]; simp)]; exact ih
    have hx := h x (by simp)
    have hW : ∀ y ∈ W, p y = true → q y = true := fun y hy => h y (List.mem_cons_of_mem _ hy)
    by_cases hax : a = x
    · subst hax
      rw [List.filter_cons_of_pos h1, List.filter_cons_of_neg (by rw [h2]; simp)]
      have := le W hW
      simp; omega
    · have ih := filter_lt hW ⟨a, by rcases List.mem_cons.1 ha with e | e; exact absurd e hax; exact e, h1, h2⟩
      cases hp : p x with
      | true => rw [List.filter_cons_of_pos hp, List.filter_cons_of_pos (hx hp)]; simpa using ih
      | false =>
        rw [List.filter_cons_of_neg (by rw [hp]; simp)]
        cases hq : q x with
        | true => rw [List.filter_cons_of_pos hq]; simp; omega
        | false => rw [List.filter_cons_of_neg (by rw [hq]; simp)]; exact ih
theorem Tri.comp {σ : Bd} {θ : ByteArray → Tm} {r : ByteArray → Nat} (h : Tri σ θ r) (W : List ByteArray) (hW : ∀ x, σ x ≠ none → x ∈ W) : ∃ r', Tri σ θ r' ∧ (∀ x, r' x ≤ W.length) ∧ ∀ x, σ x ≠ none → 1 ≤ r' x := by
  classical
  let p : ByteArray → ByteArray → Bool := fun x y => decide (σ y ≠ none ∧ Occ σ y (vr x))
  refine ⟨fun x => if σ x = none then 0 else (W.filter (p x)).length, ⟨h.bnd, h.fre, fun x t hx z hz => ?_⟩, fun x => ?_, fun x hx => ?_⟩
  · have hxn : σ x ≠ none := by rw [hx]; simp
    have hxp : p x x = true := decide_eq_true ⟨hxn, .here _ (by simp [vs])⟩
    show (if σ z = none then 0 else (W.filter (p z)).length) < (if σ x = none then 0 else (W.filter (p x)).length)
    rw [if_neg hxn]
    split
    · have : x ∈ W.filter (p x) := List.mem_filter.2 ⟨hW x hxn, hxp⟩
      exact List.length_pos_of_mem this
    · refine filter_lt (fun y _ hy => ?_) ⟨x, hW x hxn, hxp, decide_eq_false fun ⟨_, ho⟩ => ?_⟩
      · obtain ⟨h1, h2⟩ := of_decide_eq_true hy
        refine decide_eq_true ⟨h1, .step (vr x) t x (by simp [vs]) hx (h2.congr fun w hw => ?_)⟩
        rw [(vs_var rfl).1 hw]; exact hz
      · exact Occ.acyc h hx (ho.congr fun w hw => by rw [(vs_var rfl).1 hw]; exact hz)
  · show (if σ x = none then 0 else (W.filter (p x)).length) ≤ W.length
    split
    · exact Nat.zero_le _
    · exact List.length_filter_le _ _
  · show 1 ≤ (if σ x = none then 0 else (W.filter (p x)).length)
    rw [if_neg hx]
    exact List.length_pos_of_mem (List.mem_filter.2 ⟨hW x hx, decide_eq_true ⟨hx, .here _ (by simp [vs])⟩⟩ : x ∈ W.filter (p x))
theorem Head.term {P : Tm → Prop} {σ : Bd} (hσ : ∀ x t, σ x = some t → P t) {t u : Tm} (a : Head σ t u) : P t → P u := by
  induction a with
  | fn t hv => exact id
  | free t hv hs => exact id
  | step t u h hv hs _ ih => exact fun _ => ih (hσ _ _ hs)
theorem Sl.terms {P : Tm → Prop} (hP : ∀ t, P t → ∀ a ∈ t.args, P a) {σ : Bd} {xs ys : List Tm} {o : Option Bd} (h : Sl σ xs ys o) : ∀ σ', o = some σ' → (∀ x t, σ x = some t → P t) → (∀ t ∈ xs, P t) → (∀ t ∈ ys, P t) → ∀ x t, σ' x = some t → P t := by
  have hupd : ∀ {σ : Bd} {x : ByteArray} {t : Tm}, (∀ x t, σ x = some t → P t) → P t → ∀ y u, updB σ x t y = some u → P u := fun {σ x t} h1 h2 y u hy => by
    by_cases hyx : y = x
    · subst hyx; rw [updB_self] at hy; cases hy; exact h2
    · rw [updB_ne _ _ hyx] at hy; exact h1 y u hy
  induction h with
  | nil σ => intro σ' e h1 _ _; cases e; exact h1
  | same σ a b a' b' xs ys o ha hb va vb hn _ ih => exact fun σ' e h1 h2 h3 => ih σ' e h1 (fun t ht => h2 t (List.mem_cons_of_mem _ ht)) (fun t ht => h3 t (List.mem_cons_of_mem _ ht))
  | setA σ a b a' b' xs ys o ha hb va hne ho _ ih => exact fun σ' e h1 h2 h3 => ih σ' e (hupd h1 (hb.term h1 (h3 b (by simp)))) (fun t ht => h2 t (List.mem_cons_of_mem _ ht)) (fun t ht => h3 t (List.mem_cons_of_mem _ ht))
  | occA => intro σ' e; cases e
  | setB σ a b a' b' xs ys o ha hb va vb ho _ ih => exact fun σ' e h1 h2 h3 => ih σ' e (hupd h1 (ha.term h1 (h2 a (by simp)))) (fun t ht => h2 t (List.mem_cons_of_mem _ ht)) (fun t ht => h3 t (List.mem_cons_of_mem _ ht))
  | occB => intro σ' e; cases e
  | clash => intro σ' e; cases e
  | args σ σ1 a b a' b' xs ys o ha hb va vb hn hl _ _ ih1 ih2 =>
    intro σ' e h1 h2 h3
    exact ih2 σ' e (ih1 σ1 rfl h1 (hP _ (ha.term h1 (h2 a (by simp)))) (hP _ (hb.term h1 (h3 b (by simp))))) (fun t ht => h2 t (List.mem_cons_of_mem _ ht)) (fun t ht => h3 t (List.mem_cons_of_mem _ ht))
  | argsN => intro σ' e; cases e
theorem depthL_le {l : List Tm} {n : Nat} (h : ∀ a ∈ l, a.depth ≤ n) : depthL l ≤ n := by
  induction l with
  | nil => simp [depthL]
  | cons a l ih =>
    have h1 := h a (by simp)
    have h2 := ih fun b hb => h b (List.mem_cons_of_mem _ hb)
    simp only [depthL]; omega
theorem depth_sub {f : ByteArray → Tm} {n : Nat} : ∀ t : Tm, (∀ x ∈ vs t, (f x).depth ≤ n) → (sub f t).depth ≤ t.depth + n := ind fun t ih h => by
  cases hv : t.var with
  | true =>
    have := h _ ((vs_var hv).2 rfl)
    rw [sub_var _ hv]; omega
  | false =>
    rw [sub_fn _ hv, depth_eq, depth_eq t]
    have : depthL (t.args.map (sub f)) ≤ depthL t.args + n := depthL_le fun a ha => by
      obtain ⟨b, hb, rfl⟩ := List.mem_map.1 ha
      have h1 := ih b hb fun x hx => h x ((vs_fn hv).2 ⟨b, hb, hx⟩)
      have h2 := depthL_mem hb
      omega
    show depthL (t.args.map (sub f)) + 1 ≤ _
    omega
theorem Tri.depth {σ : Bd} {θ : ByteArray → Tm} {r : ByteArray → Nat} (h : Tri σ θ r) {M : Nat} (hM : ∀ x t, σ x = some t → t.depth ≤ M) : ∀ (n : Nat) (x : ByteArray), r x ≤ n → (θ x).depth ≤ (n + 1) * M + 1 := by
  intro n
  induction n with
  | zero =>
    intro x hx
    cases hs : σ x with
    | none => rw [h.fre x hs]; simp [vr, Tm.depth, depthL]
    | some t =>
      rw [h.bnd x t hs]
      have h1 : (sub θ t).depth ≤ t.depth + 0 := depth_sub t fun y hy => by have := h.rk x t hs y hy; omega
      have h2 := hM x t hs
      omega
  | succ n ih =>
    intro x hx
    cases hs : σ x with
    | none => rw [h.fre x hs]; simp [vr, Tm.depth, depthL]
    | some t =>
      rw [h.bnd x t hs]
      have h1 : (sub θ t).depth ≤ t.depth + ((n + 1) * M + 1) := depth_sub t fun y hy => ih y (by have := h.rk x t hs y hy; omega)
      have h2 := hM x t hs
      have e : (n + 1 + 1) * M = (n + 1) * M + M := by rw [Nat.add_mul (n + 1), Nat.one_mul]
      omega
end Go.Proofs.Ytgohjdaepcmonaa
set_option linter.unusedVariables false
set_option linter.unusedSimpArgs false
namespace Go.Proofs.Ytgohjdaepcmonaa
open Go.Abs
abbrev Kn := List (ByteArray × Int × Int)
def encK (l : Kn) : List (List V) := l.map fun p => [.s p.1, .i p.2.1, .i p.2.2]
def hasK (l : Kn) (x : ByteArray) : Bool := l.any fun p => decide (p.1 = x)
theorem hasK_iff {l : Kn} {x : ByteArray} : hasK l x = true ↔ ∃ p ∈ l, p.1 = x := by
  unfold hasK; rw [List.any_eq_true]; simp
theorem mlook_kn (x : ByteArray) : ∀ l : Kn, (hasK l x = false ∧ mlook [.str] [V.s x] (encK l) = none) ∨ ∃ p ∈ l, p.1 = x ∧ hasK l x = true ∧ mlook [.str] [V.s x] (encK l) = some [.i p.2.1, .i p.2.2]
  | [] => .inl ⟨rfl, rfl⟩
  | p :: l => by
    have henc : encK (p :: l) = [V.s p.1, V.i p.2.1, V.i p.2.2] :: encK l := rfl
    rw [henc, mlook, keyEq1]
    by_cases h : x = p.1
    · exact .inr ⟨p, by simp, h.symm, hasK_iff.2 ⟨p, by simp, h.symm⟩, by rw [decide_eq_true h]; rfl⟩
    · have hh : hasK (p :: l) x = hasK l x := by
        show (decide (p.1 = x) || _) = _
        rw [decide_eq_false fun e => h e.symm, Bool.false_or]; rfl
      rw [decide_eq_false h, hh]
      rcases mlook_kn x l with h1 | ⟨q, hq, h2, h3, h4⟩
      · exact .inl h1
      · exact .inr ⟨q, List.mem_cons_of_mem _ hq, h2, h3, h4⟩
theorem mset_kn (x : ByteArray) (a b : Int) : ∀ l : Kn, ∃ l' : Kn, mset [.str] [V.s x] [V.i a, V.i b] (encK l) = encK l' ∧ ∀ p ∈ l', p ∈ l ∨ p = (x, a, b)
  | [] => ⟨[(x, a, b)], rfl, fun p hp => .inr (List.mem_singleton.1 hp)⟩
  | p :: l => by
    have henc : encK (p :: l) = [V.s p.1, V.i p.2.1, V.i p.2.2] :: encK l := rfl
    rw [henc, mset, keyEq1]
    by_cases h : x = p.1
    · rw [decide_eq_true h]
      refine ⟨(x, a, b) :: l, rfl, fun q hq => ?_⟩
      rcases List.mem_cons.1 hq with rfl | hq
      · exact .inr rfl
      · exact .inl (List.mem_cons_of_mem _ hq)
    · rw [decide_eq_false h]
      obtain ⟨l', h1, h2⟩ := mset_kn x a b l
      refine ⟨p :: l', ?_, fun q hq => ?_⟩
      · show _ :: mset _ _ _ (encK l) = _
        rw [h1]; rfl
      · rcases List.mem_cons.1 hq with rfl | hq
        · exact .inl (by simp)
        · exact (h2 q hq).imp (List.mem_cons_of_mem _) id
def capS (n : Nat) : Int := if n ≤ 4001 then n else 4001
theorem capS_add (a b : Nat) : (if (4001 : Int) < capS a + capS b then (4001 : Int) else capS a + capS b) = capS (a + b) := by
  unfold capS; split <;> split <;> split <;> split <;> omega
theorem capS_le (n : Nat) : 0 ≤ capS n ∧ capS n ≤ 4001 := by unfold capS; split <;> omega
def KnOk (θ : ByteArray → Tm) (l : Kn) : Prop := ∀ p ∈ l, p.2.1 = capS (θ p.1).size ∧ p.2.2 = (θ p.1).depth
abbrev meaH (m : Su) (l : Prs) (kn : Kn) : Heap := [.cells [.mp (.own 1), .mp (.own 2)], .map mt_9_24 (encS m), .map mt_82_4 (encD l), .map mt_9_80 (encK kn)]
def dlim : Nat := 1152921504606846976
theorem dlim_eq : dlim = 1152921504606846976 := rfl
def MeaC (m : Su) (l : Prs) (θ : ByteArray → Tm) (t : Tm) (kn : Kn) : Prop :=
  ∀ Q : D → Heap → Prop, (∀ kn', KnOk θ kn' → Q (.agg [iD (capS (Tm.sub θ t).size), iD (Tm.sub θ t).depth]) (meaH m l kn')) → cl f_unify_unifier_measure [.ptr (.own 0) 0, tD t, .mp (.own 3)] (meaH m l kn) Q
theorem mea_args {m : Su} {l : Prs} {θ : ByteArray → Tm} {t : Tm} (hv : t.var = false) (hd : (Tm.sub θ t).depth ≤ dlim) {kn : Kn} (hk : KnOk θ kn) (h : ∀ a ∈ t.args, ∀ kn', KnOk θ kn' → MeaC m l θ a kn') : MeaC m l θ t kn := by
  intro Q hQ
  refine C_unify_unifier_measure_w _ _ _ _ _ _ _ ?_
  unfold vc_unify_unifier_measure_w
  refine iff_intro (fun hv' => by rw [hv] at hv'; cases hv') fun _ hb => ?_
  have hl := Tm.encL_length t.args
  rw [hl] at hb ⊢
  have hs : (Tm.sub θ t).size = 1 + Tm.sizeL (t.args.map (Tm.sub θ)) := by rw [Tm.sub_fn _ hv, Tm.size_eq]; rfl
  have hdd : (Tm.sub θ t).depth = Tm.depthL (t.args.map (Tm.sub θ)) + 1 := by rw [Tm.sub_fn _ hv, Tm.depth_eq]; rfl
  rw [dlim_eq] at hd
  refine range_unify_unifier_measure_w_0 Q _ _ _ _ hb (fun k y0 y1 h1 h2 h3 => y0 = capS (1 + Tm.sizeL ((t.args.map (Tm.sub θ)).take k)) ∧ y1 = (Tm.depthL ((t.args.map (Tm.sub θ)).take k) : Int) ∧ h1 = encS m ∧ h2 = encD l ∧ ∃ kn', h3 = encK kn' ∧ KnOk θ kn') (fun k y0 y1 h1 h2 h3 hk2 hJ K hK => ?_) (fun y0 y1 h1 h2 h3 hJ => ?_) 0 _ _ _ _ _ (Nat.zero_le _) ⟨rfl, rfl, rfl, rfl, kn, rfl, hk⟩
  · obtain ⟨rfl, rfl, rfl, rfl, kn', rfl, hkn'⟩ := hJ
    simp only [Tm.encL_getD _ k hk2, Tm.enc_eq, List.drop_zero, List.headD_cons, List.tail_cons]
    have hk' : k < (t.args.map (Tm.sub θ)).length := by simpa using hk2
    have h1 := Tm.sizeL_take _ k hk'
    have h3 := Tm.depthL_take _ k hk'
    rw [List.getElem_map] at h1 h3
    refine ⟨by omega, by omega, h _ (List.getElem_mem hk2) kn' hkn' _ fun kn2 hkn2 => ⟨rfl, rfl, hK _ _ _ _ _ ⟨?_, ?_, rfl, rfl, kn2, rfl, hkn2⟩⟩⟩
    · show (if (4001 : Int) < IntKind.i64.wrap (capS _ + capS (Tm.sub θ t.args[k]).size) then (4001 : Int) else IntKind.i64.wrap (capS _ + capS (Tm.sub θ t.args[k]).size)) = _
      have c1 := capS_le (1 + Tm.sizeL ((t.args.map (Tm.sub θ)).take k))
      have c2 := capS_le (Tm.sub θ t.args[k]).size
      rw [wrap_in _ (by omega) (by omega), capS_add, h1, Nat.add_assoc]
    · show (if ((Tm.sub θ t.args[k]).depth : Int) > _ then ((Tm.sub θ t.args[k]).depth : Int) else _) = _
      rw [h3]; split <;> omega
  · obtain ⟨rfl, rfl, rfl, rfl, kn', rfl, hkn'⟩ := hJ
    rw [List.take_of_length_le (by simp)]
    have hQ := hQ kn' hkn'
    rw [hs, hdd] at hQ
    rw [wrap_in _ (by omega) (by omega)]
    exact ⟨⟨trivial, trivial, trivial⟩, hQ⟩
theorem unify_measure_ok (m : Su) (l : Prs) {θ : ByteArray → Tm} {r : ByteArray → Nat} (ht : Tri (fnS m) θ r) (hθ : ∀ x, (θ x).depth ≤ dlim) : ∀ (n : Nat) (t : Tm), (∀ y ∈ Tm.vs t, r y < n) → (Tm.sub θ t).depth ≤ dlim → ∀ kn, KnOk θ kn → MeaC m l θ t kn := by
  intro n
  induction n with
  | zero =>
    refine Tm.ind fun t ih hr hd kn hk => ?_
    cases hv : t.var with
    | true => exact absurd (hr _ ((Tm.vs_var hv).2 rfl)) (by omega)
    | false =>
      refine mea_args hv hd hk fun a ha kn' hk' => ih a ha (fun y hy => hr y ((Tm.vs_fn hv).2 ⟨_, ha, hy⟩)) ?_ kn' hk'
      have := Tm.depthL_mem (List.mem_map.2 ⟨a, ha, rfl⟩ : Tm.sub θ a ∈ t.args.map (Tm.sub θ))
      have e : (Tm.sub θ t).depth = Tm.depthL (t.args.map (Tm.sub θ)) + 1 := by rw [Tm.sub_fn _ hv, Tm.depth_eq]; rfl
      omega
  | succ n ihn =>
    refine Tm.ind fun t ih hr hd kn hk => ?_
    cases hv : t.var with
    | false =>
      refine mea_args hv hd hk fun a ha kn' hk' => ih a ha (fun y hy => hr y ((Tm.vs_fn hv).2 ⟨_, ha, hy⟩)) ?_ kn' hk'
      have := Tm.depthL_mem (List.mem_map.2 ⟨a, ha, rfl⟩ : Tm.sub θ a ∈ t.args.map (Tm.sub θ))
      have e : (Tm.sub θ t).depth = Tm.depthL (t.args.map (Tm.sub θ)) + 1 := by rw [Tm.sub_fn _ hv, Tm.depth_eq]; rfl
      omega
    | true =>
      intro Q hQ
      have hxr := hr _ ((Tm.vs_var hv).2 rfl)
      rw [Tm.sub_var _ hv] at hQ
      refine C_unify_unifier_measure_w _ _ _ _ _ _ _ ?_
      unfold vc_unify_unifier_measure_w
      refine iff_intro (fun _ => ?_) (fun h => by rw [hv] at h; cases h)
      rw [mhas_su]
      refine iff_not (iff_intro (fun hb => ?_) (fun hb => ⟨⟨trivial, trivial, trivial⟩, ?_⟩))
      · have hs := fnS_of hb
        rcases mlook_kn t.name kn with ⟨h1, h2⟩ | ⟨p, hp, h1, h2, h3⟩
        · have e1 : mhas [.str] [V.s t.name] (encK kn) = false := by unfold mhas; rw [h2]; rfl
          rw [e1, mget_su _ hb, Tm.enc_eq]
          have e2 : θ t.name = Tm.sub θ (Tm.image m t.name) := ht.bnd _ _ hs
          refine iff_intro (fun h => by cases h) fun _ => ?_
          refine ihn (Tm.image m t.name) (fun y hy => by have := ht.rk _ _ hs y hy; omega) (by rw [← e2]; exact hθ _) kn hk _ fun kn' hk' => ⟨rfl, rfl, ⟨trivial, trivial, trivial⟩, ?_⟩
          obtain ⟨kn2, h4, h5⟩ := mset_kn t.name (capS (Tm.sub θ (Tm.image m t.name)).size) ((Tm.sub θ (Tm.image m t.name)).depth : Int) kn'
          show Q _ [_, _, _, .map mt_9_80 (mset [.str] [V.s t.name] [V.i (capS (Tm.sub θ (Tm.image m t.name)).size), V.i ((Tm.sub θ (Tm.image m t.name)).depth : Int)] (encK kn'))]
          rw [h4]
          have hQ := hQ kn2 fun p hp => by
            rcases h5 p hp with h | rfl
            · exact hk' p h
            · rw [e2]; exact ⟨rfl, rfl⟩
          rw [e2] at hQ
          exact hQ
        · have e1 : mhas [.str] [V.s t.name] (encK kn) = true := by unfold mhas; rw [h3]; rfl
          have e2 : mget [.str] [V.i 0, V.i 0] [V.s t.name] (encK kn) = [V.i p.2.1, V.i p.2.2] := by unfold mget; rw [h3]; rfl
          rw [e1, e2]
          obtain ⟨k1, k2⟩ := hk p hp
          rw [h1] at k1 k2
          have hQ := hQ kn hk
          rw [← k1, ← k2] at hQ
          exact ⟨⟨trivial, trivial, trivial⟩, hQ⟩
      · have hQ := hQ kn hk
        rw [ht.fre _ (fnS_none.2 hb)] at hQ
        exact hQ
end Go.Proofs.Ytgohjdaepcmonaa
set_option linter.unusedVariables false
set_option linter.unusedSimpArgs false
namespace Go.Proofs.Ytgohjdaepcmonaa
open Go.Abs
theorem unify_measure_var (m : Su) (l : Prs) {θ : ByteArray → Tm} {r : ByteArray → Nat} (ht : Tri (fnS m) θ r) (hθ : ∀ x, (θ x).depth ≤ dlim) {x : ByteArray} (hb : boundS m x = true) (kn : Kn) (hk : KnOk θ kn) (Q : D → Heap → Prop)
    (hQ : ∀ kn', KnOk θ kn' → Q (.agg [iD (capS (θ x).size), iD (θ x).depth]) (meaH m l kn')) : cl f_unify_unifier_measure [.ptr (.own 0) 0, .agg [sD x, bD true, .nil], .mp (.own 3)] (meaH m l kn) Q := by
  refine C_unify_unifier_measure _ _ _ _ _ _ ?_
  unfold vc_unify_unifier_measure
  refine iff_intro (fun _ => ?_) (fun h => by cases h)
  rw [mhas_su, hb]
  refine iff_intro (fun h => by cases h) fun _ => ?_
  have hs := fnS_of hb
  rcases mlook_kn x kn with ⟨h1, h2⟩ | ⟨p, hp, h1, h2, h3⟩
  · have e1 : mhas [.str] [V.s x] (encK kn) = false := by unfold mhas; rw [h2]; rfl
    rw [e1, mget_su _ hb, Tm.enc_eq]
    have e2 : θ x = Tm.sub θ (Tm.image m x) := ht.bnd _ _ hs
    refine iff_intro (fun h => by cases h) fun _ => ?_
    refine unify_measure_ok m l ht hθ (maxR r (Tm.vs (Tm.image m x)) + 1) (Tm.image m x) (fun y hy => by have := maxR_mem (r := r) hy; omega) (by rw [← e2]; exact hθ _) kn hk _ fun kn' hk' => ⟨rfl, rfl, ⟨trivial, trivial, trivial⟩, ?_⟩
    obtain ⟨kn2, h4, h5⟩ := mset_kn x (capS (Tm.sub θ (Tm.image m x)).size) ((Tm.sub θ (Tm.image m x)).depth : Int) kn'
    show Q _ [_, _, _, .map mt_9_80 (mset [.str] [V.s x] [V.i (capS (Tm.sub θ (Tm.image m x)).size), V.i ((Tm.sub θ (Tm.image m x)).depth : Int)] (encK kn'))]
    rw [h4]
    have hQ := hQ kn2 fun p hp => by
      rcases h5 p hp with h | rfl
      · exact hk' p h
      · rw [e2]; exact ⟨rfl, rfl⟩
    rw [e2] at hQ
    exact hQ
  · have e1 : mhas [.str] [V.s x] (encK kn) = true := by unfold mhas; rw [h3]; rfl
    have e2 : mget [.str] [V.i 0, V.i 0] [V.s x] (encK kn) = [V.i p.2.1, V.i p.2.2] := by unfold mget; rw [h3]; rfl
    rw [e1, e2]
    obtain ⟨k1, k2⟩ := hk p hp
    rw [h1] at k1 k2
    have hQ := hQ kn hk
    rw [← k1, ← k2] at hQ
    exact ⟨⟨trivial, trivial, trivial⟩, hQ⟩
theorem whole_args {m : Su} {l : Prs} {θ : ByteArray → Tm} {t : Tm} (hv : t.var = false) (hs : t.size ≤ lim) (h : ∀ a ∈ t.args, ∀ Q : D → Heap → Prop, Q (tD (Tm.sub θ a)) (uniH m l) → cl f_unify_unifier_whole [.ptr (.own 0) 0, tD a] (uniH m l) Q) (Q : D → Heap → Prop) (hQ : Q (tD (Tm.sub θ t)) (uniH m l)) : cl f_unify_unifier_whole [.ptr (.own 0) 0, tD t] (uniH m l) Q := by
  refine C_unify_unifier_whole_w _ _ _ _ _ _ ?_
  unfold vc_unify_unifier_whole_w
  refine iff_intro (fun hv' => by rw [hv] at hv'; cases hv') fun _ hb => ?_
  have hl := Tm.encL_length t.args
  rw [hl] at hb ⊢
  have hsz := Tm.size_eq t
  have hls := Tm.length_sizeL t.args
  rw [Tm.sub_fn _ hv] at hQ
  refine range_unify_unifier_whole_w_0 Q _ _ _ _ _ _ _ _ hb (fun k n y => n = k ∧ y = Tm.encL ((t.args.take k).map (Tm.sub θ))) (fun k n y hk hJ K hK => ?_) (fun n y hJ => ?_) 0 0 _ (Nat.zero_le _) ⟨rfl, rfl⟩
  · simp only [Tm.encL_getD _ k hk, Tm.enc_eq, List.drop_zero, List.headD_cons, List.tail_cons]
    obtain ⟨rfl, rfl⟩ := hJ
    refine ⟨by omega, by omega, tD (Tm.sub θ (t.args[n])), h _ (List.getElem_mem hk) _ ⟨rfl, rfl⟩, ?_, ?_, hK _ _ ⟨rfl, ?_⟩⟩
    · rw [Tm.encL_length, List.length_map, List.length_take]; omega
    · show n + 1 ≤ lim; omega
    · rw [List.take_succ_eq_append_getElem hk, List.map_append, Tm.encL_eq, Tm.encL_eq, List.map_append]
      congr 1
      simp only [List.map_cons, List.map_nil]
      rw [Tm.enc_eq]
      rfl
  · obtain ⟨rfl, rfl⟩ := hJ
    rw [List.take_length]
    refine ⟨⟨trivial, trivial, ?_, trivial⟩, hQ⟩
    rw [Tm.encL_length, List.length_map]
theorem unify_whole_ok (m : Su) (l : Prs) {θ : ByteArray → Tm} {r : ByteArray → Nat} (ht : Tri (fnS m) θ r) (hσ : ∀ x t, fnS m x = some t → t.size ≤ lim) : ∀ (n : Nat) (t : Tm), (∀ y ∈ Tm.vs t, r y < n) → t.size ≤ lim → ∀ Q : D → Heap → Prop, Q (tD (Tm.sub θ t)) (uniH m l) → cl f_unify_unifier_whole [.ptr (.own 0) 0, tD t] (uniH m l) Q := by
  intro n
  induction n with
  | zero =>
    refine Tm.ind fun t ih hr hs Q hQ => ?_
    cases hv : t.var with
    | true => exact absurd (hr _ ((Tm.vs_var hv).2 rfl)) (by omega)
    | false => exact whole_args hv hs (fun a ha => ih a ha (fun y hy => hr y ((Tm.vs_fn hv).2 ⟨_, ha, hy⟩)) (by have := Tm.size_mem ha; omega)) Q hQ
  | succ n ihn =>
    refine Tm.ind fun t ih hr hs Q hQ => ?_
    cases hv : t.var with
    | false => exact whole_args hv hs (fun a ha => ih a ha (fun y hy => hr y ((Tm.vs_fn hv).2 ⟨_, ha, hy⟩)) (by have := Tm.size_mem ha; omega)) Q hQ
    | true =>
      have hxr := hr _ ((Tm.vs_var hv).2 rfl)
      rw [Tm.sub_var _ hv] at hQ
      refine ACalls.as ?_
      refine C_unify_unifier_whole_w _ _ _ _ _ _ ?_
      unfold vc_unify_unifier_whole_w
      refine iff_intro (fun _ => ?_) (fun h => by rw [hv] at h; cases h)
      rw [mhas_su]
      refine iff_intro (fun hb => ?_) (fun hb => ⟨⟨trivial, trivial, trivial, trivial⟩, tD (θ t.name), ?_, hQ⟩)
      · have hsm := fnS_of hb
        rw [mget_su _ hb, Tm.enc_eq]
        have e2 : θ t.name = Tm.sub θ (Tm.image m t.name) := ht.bnd _ _ hsm
        refine ihn (Tm.image m t.name) (fun y hy => by have := ht.rk _ _ hsm y hy; omega) (hσ _ _ hsm) _ ⟨rfl, rfl, ⟨trivial, trivial, trivial, trivial⟩, tD (θ t.name), ?_, hQ⟩
        rw [e2]; exact .refl _
      · rw [ht.fre _ (fnS_none.2 hb)]
        exact .last3 _ _ _
theorem unify_whole_var (m : Su) (l : Prs) {θ : ByteArray → Tm} {r : ByteArray → Nat} (ht : Tri (fnS m) θ r) (hσ : ∀ x t, fnS m x = some t → t.size ≤ lim) {x : ByteArray} (hb : boundS m x = true) (Q : D → Heap → Prop) (hQ : Q (tD (θ x)) (uniH m l)) :
    cl f_unify_unifier_whole [.ptr (.own 0) 0, .agg [sD x, bD true, .nil]] (uniH m l) Q := by
  refine C_unify_unifier_whole _ _ _ _ _ ?_
  unfold vc_unify_unifier_whole
  refine iff_intro (fun _ => ?_) (fun h => by cases h)
  have hsm := fnS_of hb
  rw [mhas_su, hb, mget_su _ hb, Tm.enc_eq]
  refine iff_intro (fun _ => ?_) (fun h => by cases h)
  rw [ht.bnd _ _ hsm] at hQ
  exact unify_whole_ok m l ht hσ (maxR r (Tm.vs (Tm.image m x)) + 1) (Tm.image m x) (fun y hy => by have := maxR_mem (r := r) hy; omega) (hσ _ _ hsm) _ ⟨rfl, rfl, ⟨trivial, trivial, trivial, trivial⟩, hQ⟩
def fitsT (t : Tm) : Prop := t.size ≤ 4000 ∧ t.depth ≤ 200
structure UnOk (σ : Bd) (θ : ByteArray → Tm) (out : Su) : Prop where
  sort : SortS out
  mem : ∀ y : ByteArray × Tm, y ∈ out ↔ σ y.1 ≠ none ∧ y.2 = θ y.1
theorem SortS.head_lt {x y : ByteArray × Tm} {l : Su} (h : SortS (x :: l)) (hy : y ∈ x :: l) : y = x ∨ cmpN x.1 y.1 = -1 := by
  rcases List.mem_cons.1 hy with h1 | h1
  · exact .inl h1
  · exact .inr (h.1 y h1)
theorem sort_uniq : ∀ {a b : Su}, SortS a → SortS b → (∀ y, y ∈ a ↔ y ∈ b) → a = b
  | [], [], _, _, _ => rfl
  | [], y :: b, _, _, h => absurd ((h y).2 (by simp)) (by simp)
  | x :: a, [], _, _, h => absurd ((h x).1 (by simp)) (by simp)
  | x :: a, y :: b, ha, hb, h => by
    have e : x = y := by
      rcases ha.head_lt ((h y).2 (by simp)) with e | h1
      · exact e.symm
      · rcases hb.head_lt ((h x).1 (by simp)) with e | h2
        · exact e
        · have := cmpN_trans h1 h2; rw [cmpN_self] at this; omega
    subst e
    congr 1
    refine sort_uniq ha.2 hb.2 fun z => ?_
    have hne : ∀ {l : Su}, SortS (x :: l) → x ∉ l := fun {l} hl hin => by
      have := hl.1 x hin; rw [cmpN_self] at this; omega
    constructor
    · intro hz
      rcases List.mem_cons.1 ((h z).1 (List.mem_cons_of_mem _ hz)) with e | e
      · rw [e] at hz; exact absurd hz (hne ha)
      · exact e
    · intro hz
      rcases List.mem_cons.1 ((h z).2 (List.mem_cons_of_mem _ hz)) with e | e
      · rw [e] at hz; exact absurd hz (hne hb)
      · exact e
theorem UnOk.uniq {σ : Bd} {θ : ByteArray → Tm} {a b : Su} (ha : UnOk σ θ a) (hb : UnOk σ θ b) : a = b :=
  sort_uniq ha.sort hb.sort fun y => by rw [ha.mem, hb.mem]
theorem UnOk.ex {σ : Bd} (θ : ByteArray → Tm) (W : List ByteArray) (hW : ∀ x, σ x ≠ none → x ∈ W) : ∃ out, UnOk σ θ out := by
  have key : ∀ W : List ByteArray, ∃ out : Su, SortS out ∧ ∀ y : ByteArray × Tm, y ∈ out ↔ y.1 ∈ W ∧ σ y.1 ≠ none ∧ y.2 = θ y.1 := fun W => by
    induction W with
    | nil => exact ⟨[], trivial, fun y => by simp⟩
    | cons x W ih =>
      obtain ⟨out, h1, h2⟩ := ih
      by_cases hx : σ x ≠ none ∧ x ∉ W
      · refine ⟨withS out x (θ x), withS_sort h1 fun y hy e => hx.2 (e ▸ ((h2 y).1 hy).1), fun y => ?_⟩
        rw [withS_mem, h2, List.mem_cons]
        constructor
        · rintro (rfl | ⟨h3, h4, h5⟩)
          · exact ⟨.inl rfl, hx.1, rfl⟩
          · exact ⟨.inr h3, h4, h5⟩
        · rintro ⟨rfl | h3, h4, h5⟩
          · exact .inl (Prod.ext rfl h5)
          · exact .inr ⟨h3, h4, h5⟩
      · refine ⟨out, h1, fun y => ?_⟩
        rw [h2, List.mem_cons]
        constructor
        · rintro ⟨h3, h4, h5⟩; exact ⟨.inr h3, h4, h5⟩
        · rintro ⟨rfl | h3, h4, h5⟩
          · refine ⟨Classical.byContradiction fun h => hx ⟨h4, h⟩, h4, h5⟩
          · exact ⟨h3, h4, h5⟩
  obtain ⟨out, h1, h2⟩ := key W
  exact ⟨out, h1, fun y => by rw [h2]; exact ⟨fun h => h.2, fun h => ⟨hW _ h.1, h⟩⟩⟩
def lefts (l : Ru) : List Tm := l.map (·.1)
def rights (l : Ru) : List Tm := l.map (·.2)
inductive UnRes (l : Ru) : Su × Bool × Int → Prop
  | no : Sl (fun _ => none) (lefts l) (rights l) none → UnRes l ([], false, 0)
  | large (σ : Bd) (θ : ByteArray → Tm) (r : ByteArray → Nat) : Sl (fun _ => none) (lefts l) (rights l) (some σ) → Tri σ θ r → (∃ x, σ x ≠ none ∧ ¬ fitsT (θ x)) → UnRes l ([], false, 3)
  | yes (σ : Bd) (θ : ByteArray → Tm) (r : ByteArray → Nat) (out : Su) : Sl (fun _ => none) (lefts l) (rights l) (some σ) → Tri σ θ r → (∀ x, σ x ≠ none → fitsT (θ x)) → UnOk σ θ out → UnRes l (out, true, 0)
end Go.Proofs.Ytgohjdaepcmonaa
set_option linter.unusedVariables false
set_option linter.unusedSimpArgs false
namespace Go.Proofs.Ytgohjdaepcmonaa
open Go.Abs
theorem names_inj {m : Su} (h : NamesOk m) : ∀ i j (hi : i < m.length) (hj : j < m.length), (m[i]).1 = (m[j]).1 → i = j := by
  induction m with
  | nil => intro i j hi; simp at hi
  | cons x m ih =>
    intro i j hi hj e
    have h : (x.1 :: suNames m).Nodup := h
    rw [List.nodup_cons] at h
    have hnin : ∀ k (hk : k < m.length), (m[k]).1 ≠ x.1 := fun k hk e => h.1 (e ▸ List.mem_map.2 ⟨_, List.getElem_mem hk, rfl⟩)
    cases i with
    | zero =>
      cases j with
      | zero => rfl
      | succ j => simp only [List.getElem_cons_zero, List.getElem_cons_succ] at e; exact absurd e.symm (hnin j (by simpa using hj))
    | succ i =>
      cases j with
      | zero => simp only [List.getElem_cons_zero, List.getElem_cons_succ] at e; exact absurd e (hnin i (by simpa using hi))
      | succ j =>
        simp only [List.getElem_cons_succ] at e
        rw [ih h.2 i j (by simpa using hi) (by simpa using hj) e]
structure Drawn (m : Su) (θ : ByteArray → Tm) (seen : List Nat) (out : Su) : Prop where
  sort : SortS out
  len : out.length = seen.length
  mem : ∀ y : ByteArray × Tm, y ∈ out ↔ ∃ j, j ∈ seen ∧ ∃ h : j < m.length, y.1 = (m[j]).1 ∧ y.2 = θ y.1
  fit : ∀ j, j ∈ seen → ∀ h : j < m.length, fitsT (θ (m[j]).1)
theorem bound_at {m : Su} {x : ByteArray} : fnS m x ≠ none ↔ ∃ j, ∃ h : j < m.length, (m[j]).1 = x := by
  rw [Ne, fnS_none, Bool.not_eq_false, boundS_iff]
  constructor
  · rintro ⟨y, hy, e⟩
    obtain ⟨j, hj, rfl⟩ := List.mem_iff_getElem.1 hy
    exact ⟨j, hj, e⟩
  · rintro ⟨j, hj, e⟩; exact ⟨_, List.getElem_mem hj, e⟩
theorem solve_end (m : Su) (l : Prs) {θ : ByteArray → Tm} {r : ByteArray → Nat} (ht : Tri (fnS m) θ r) (hn : NamesOk m) (hlen : m.length ≤ 1099511627776) (hθ : ∀ x, (θ x).depth ≤ dlim) (hσ : ∀ x t, fnS m x = some t → t.size ≤ lim)
    (Q : D → Heap → Prop) (hlarge : (∃ x, fnS m x ≠ none ∧ ¬ fitsT (θ x)) → Q (.tup [.nil, bD false, iD 3]) []) (hyes : (∀ x, fnS m x ≠ none → fitsT (θ x)) → ∀ out, UnOk (fnS m) θ out → Q (.tup [suD out, bD true, iD 0]) []) :
    ∃ m1, lp_unify_Solve_1 Q m1 0 (encS m) (encD l) [] (encS m).length [] [] := by
  have hl := encS_length m
  refine rule_unify_Solve_1 Q (fun x8n y13 y14 y31 y36n y36s y62 => y13 = encS m ∧ y14 = encD l ∧ (∃ kn, y31 = encK kn ∧ KnOk θ kn) ∧ y36n = m.length ∧ ∃ out, y62 = encS out ∧ x8n = out.length ∧ Drawn m θ y36s out) (fun _ _ _ _ _ y36s _ => m.length - y36s.length) ?_ _ _ _ _ _ _ _ ⟨rfl, rfl, ⟨[], rfl, fun p hp => by simp at hp⟩, hl, [], rfl, rfl, ⟨trivial, rfl, fun y => by simp, fun j hj => by simp at hj⟩⟩
  rintro x8n y13 y14 y31 y36n seen y62 ⟨rfl, rfl, ⟨kn, rfl, hk⟩, rfl, out, rfl, rfl, hd⟩ m0 ih
  unfold st_unify_Solve_1
  refine ⟨hl, fun hall => ?_, fun j hj hjs hsl => ⟨hl, ?_⟩⟩
  · refine ⟨⟨(encS_length out).symm, trivial, trivial, trivial⟩, hyes (fun x hx => ?_) out ⟨hd.sort, fun y => ?_⟩⟩
    · obtain ⟨j, hj, rfl⟩ := bound_at.1 hx
      exact hd.fit j (hall j hj) hj
    · rw [hd.mem]
      constructor
      · rintro ⟨j, _, hj, e1, e2⟩; exact ⟨bound_at.2 ⟨j, hj, e1.symm⟩, e2⟩
      · rintro ⟨h1, h2⟩
        obtain ⟨j, hj, e⟩ := bound_at.1 h1
        exact ⟨j, hall j hj, hj, e.symm, h2⟩
  · have hb : boundS m (m[j]).1 = true := boundS_iff.2 ⟨_, List.getElem_mem hj, rfl⟩
    have hbn : fnS m (m[j]).1 ≠ none := bound_at.2 ⟨j, hj, rfl⟩
    have e0 : (encS m).getD j [] = V.s (m[j]).1 :: (m[j]).2.enc := encS_getD m j hj
    rw [e0]
    refine unify_measure_var m l ht hθ hb kn hk _ fun kn' hk' => ⟨rfl, rfl, ?_⟩
    refine iff_dec (fun h1 => ⟨⟨trivial, trivial, trivial, trivial⟩, hlarge ⟨_, hbn, fun hf => ?_⟩⟩) (fun h1 => iff_dec (fun h2 => ⟨⟨trivial, trivial, trivial, trivial⟩, hlarge ⟨_, hbn, fun hf => ?_⟩⟩) (fun h2 => ?_))
    · have h1 : capS (θ (m[j]).1).size > 4000 := h1
      have := hf.1
      unfold capS at h1
      split at h1 <;> omega
    · have h2 : ((θ (m[j]).1).depth : Int) > 200 := h2
      have := hf.2
      omega
    · have hf : fitsT (θ (m[j]).1) := by
        have h1 : ¬ capS (θ (m[j]).1).size > 4000 := h1
        have h2 : ¬ ((θ (m[j]).1).depth : Int) > 200 := h2
        unfold capS at h1
        refine ⟨?_, by omega⟩
        split at h1 <;> omega
      rw [jp_unify_Solve_0_s]
      unfold je_unify_Solve_0
      refine unify_whole_var m l ht hσ hb _ ⟨rfl, rfl, ?_⟩
      have hno : ∀ y ∈ out, y.1 ≠ (m[j]).1 := fun y hy e => by
        obtain ⟨i, hi, hi2, e1, _⟩ := (hd.mem y).1 hy
        have := names_inj hn i j hi2 hj (e1.symm.trans e)
        exact hjs (this ▸ hi)
      refine unify_bind_ok out (m[j]).1 (θ (m[j]).1) hd.sort (by have := hd.len; omega) _ ⟨rfl, rfl, ?_⟩
      refine ih _ _ _ _ _ _ _ ⟨rfl, rfl, ⟨kn', rfl, hk'⟩, rfl, withS out (m[j]).1 (θ (m[j]).1), rfl, (withS_length _ _ _).symm, ?_⟩ (by simp only [List.length_cons]; omega)
      refine ⟨withS_sort hd.sort hno, by rw [withS_length, hd.len]; rfl, fun y => ?_, fun i hi h => ?_⟩
      · rw [withS_mem, hd.mem]
        constructor
        · rintro (rfl | ⟨i, hi, h, e1, e2⟩)
          · exact ⟨j, by simp, hj, rfl, rfl⟩
          · exact ⟨i, List.mem_cons_of_mem _ hi, h, e1, e2⟩
        · rintro ⟨i, hi, h, e1, e2⟩
          rcases List.mem_cons.1 hi with rfl | hi
          · exact .inl (Prod.ext e1 (by rw [e2, e1]))
          · exact .inr ⟨i, hi, h, e1, e2⟩
      · rcases List.mem_cons.1 hi with e | hi
        · subst e; exact hf
        · exact hd.fit i hi h
end Go.Proofs.Ytgohjdaepcmonaa
set_option linter.unusedVariables false
set_option linter.unusedSimpArgs false
namespace Go.Proofs.Ytgohjdaepcmonaa
open Go.Abs
theorem vsL_len : ∀ (l : List Tm), (∀ t ∈ l, (Tm.vs t).length ≤ t.size) → (Tm.vsL l).length ≤ Tm.sizeL l
  | [], _ => by simp [Tm.vsL]
  | t :: r, h => by
    have h1 := h t (by simp)
    have h2 := vsL_len r fun u hu => h u (List.mem_cons_of_mem _ hu)
    simp only [Tm.vsL, Tm.sizeL, List.length_append]; omega
theorem vs_len : ∀ t : Tm, (Tm.vs t).length ≤ t.size := Tm.ind fun t ih => by
  have h := vsL_len t.args ih
  rw [Tm.vs_eq, Tm.size_eq]
  split
  · simp
  · omega
theorem Sl.dom {U : List ByteArray} {σ : Bd} {xs ys : List Tm} {o : Option Bd} (h : Sl σ xs ys o) : ∀ σ', o = some σ' → InU U σ → AllU U xs → AllU U ys → ∀ x, σ' x ≠ none → σ x ≠ none ∨ x ∈ U := by
  induction h with
  | nil σ => intro σ' e _ _ _ x hx; cases e; exact .inl hx
  | same σ a b a' b' xs ys o ha hb va vb hn _ ih => exact fun σ' e hU h1 h2 => ih σ' e hU (fun t ht => h1 t (List.mem_cons_of_mem _ ht)) (fun t ht => h2 t (List.mem_cons_of_mem _ ht))
  | setA σ a b a' b' xs ys o ha hb va hne ho _ ih =>
    intro σ' e hU h1 h2 x hx
    have hin : a'.name ∈ U := ha.inU hU (h1 a (by simp)) _ ((Tm.vs_var va).2 rfl)
    rcases ih σ' e (hU.upd (hb.inU hU (h2 b (by simp)))) (fun t ht => h1 t (List.mem_cons_of_mem _ ht)) (fun t ht => h2 t (List.mem_cons_of_mem _ ht)) x hx with h | h
    · by_cases hxa : x = a'.name
      · exact .inr (hxa ▸ hin)
      · rw [updB_ne _ _ hxa] at h; exact .inl h
    · exact .inr h
  | occA => intro σ' e; cases e
  | setB σ a b a' b' xs ys o ha hb va vb ho _ ih =>
    intro σ' e hU h1 h2 x hx
    have hin : b'.name ∈ U := hb.inU hU (h2 b (by simp)) _ ((Tm.vs_var vb).2 rfl)
    rcases ih σ' e (hU.upd (ha.inU hU (h1 a (by simp)))) (fun t ht => h1 t (List.mem_cons_of_mem _ ht)) (fun t ht => h2 t (List.mem_cons_of_mem _ ht)) x hx with h | h
    · by_cases hxa : x = b'.name
      · exact .inr (hxa ▸ hin)
      · rw [updB_ne _ _ hxa] at h; exact .inl h
    · exact .inr h
  | occB => intro σ' e; cases e
  | clash => intro σ' e; cases e
  | args σ σ1 a b a' b' xs ys o ha hb va vb hn hl s1 _ ih1 ih2 =>
    intro σ' e hU h1 h2 x hx
    have ua := allU_args va (ha.inU hU (h1 a (by simp)))
    have ub := allU_args vb (hb.inU hU (h2 b (by simp)))
    have hU1 := (s1.less σ1 rfl hU ua ub).1
    rcases ih2 σ' e hU1 (fun t ht => h1 t (List.mem_cons_of_mem _ ht)) (fun t ht => h2 t (List.mem_cons_of_mem _ ht)) x hx with h | h
    · exact ih1 σ1 rfl hU ua ub x h
    · exact .inr h
  | argsN => intro σ' e; cases e
structure RuOk (l : Ru) : Prop where
  len : l.length ≤ 64
  sz : ∀ x ∈ l, x.1.size ≤ 4000 ∧ x.2.size ≤ 4000
  dp : ∀ x ∈ l, x.1.depth ≤ 200 ∧ x.2.depth ≤ 200
def uni (l : Ru) : List ByteArray := Tm.vsL (lefts l) ++ Tm.vsL (rights l)
theorem RuOk.uni_len {l : Ru} (h : RuOk l) : (uni l).length ≤ 512000 := by
  have key : ∀ l : Ru, (∀ x ∈ l, x.1.size ≤ 4000 ∧ x.2.size ≤ 4000) → Tm.sizeL (lefts l) ≤ l.length * 4000 ∧ Tm.sizeL (rights l) ≤ l.length * 4000 := fun l => by
    induction l with
    | nil => intro _; simp [lefts, rights, Tm.sizeL]
    | cons x l ih =>
      intro h
      have h1 := h x (by simp)
      have h2 := ih fun y hy => h y (List.mem_cons_of_mem _ hy)
      simp only [lefts, rights, List.map_cons, Tm.sizeL, List.length_cons] at h2 ⊢
      constructor <;> omega
  have h1 := vsL_len (lefts l) fun t _ => vs_len t
  have h2 := vsL_len (rights l) fun t _ => vs_len t
  have h3 := key l h.sz
  have h4 := h.len
  unfold uni
  rw [List.length_append]
  omega
theorem uni_left (l : Ru) : AllU (uni l) (lefts l) := fun t ht y hy => List.mem_append_left _ (Tm.vsL_mem.2 ⟨t, ht, hy⟩)
theorem uni_right (l : Ru) : AllU (uni l) (rights l) := fun t ht y hy => List.mem_append_right _ (Tm.vsL_mem.2 ⟨t, ht, hy⟩)
theorem inU_none (U : List ByteArray) : InU U fun _ => none := fun x t h => by cases h
structure FinOk (l : Ru) (σ : Bd) (θ : ByteArray → Tm) (r : ByteArray → Nat) : Prop where
  tri : Tri σ θ r
  rk : ∀ x, r x ≤ (uni l).length
  dom : ∀ x, σ x ≠ none → x ∈ uni l
  inU : InU (uni l) σ
  sz : ∀ x t, σ x = some t → t.size ≤ 4000 ∧ t.depth ≤ 200
theorem finOk {l : Ru} (h : RuOk l) {σ : Bd} {θ : ByteArray → Tm} {r : ByteArray → Nat} (hs : Sl (fun _ => none) (lefts l) (rights l) (some σ)) (ht : Tri σ θ r) : ∃ r', FinOk l σ θ r' := by
  have hdom : ∀ x, σ x ≠ none → x ∈ uni l := fun x hx => (hs.dom σ rfl (inU_none _) (uni_left l) (uni_right l) x hx).resolve_left fun h => h rfl
  obtain ⟨r', h1, h2, _⟩ := ht.comp (uni l) hdom
  refine ⟨r', h1, h2, hdom, (hs.less σ rfl (inU_none _) (uni_left l) (uni_right l)).1, hs.terms (P := fun t => t.size ≤ 4000 ∧ t.depth ≤ 200) (fun t ht a ha => ?_) σ rfl (fun x t h => by cases h) (fun t ht => ?_) (fun t ht => ?_)⟩
  · have := Tm.size_mem ha
    have := Tm.depthL_mem ha
    have := Tm.depth_eq t
    omega
  · obtain ⟨x, hx, rfl⟩ := List.mem_map.1 ht
    exact ⟨(h.sz x hx).1, (h.dp x hx).1⟩
  · obtain ⟨x, hx, rfl⟩ := List.mem_map.1 ht
    exact ⟨(h.sz x hx).2, (h.dp x hx).2⟩
theorem FinOk.depth {l : Ru} (hl : RuOk l) {σ : Bd} {θ : ByteArray → Tm} {r : ByteArray → Nat} (h : FinOk l σ θ r) (x : ByteArray) : (θ x).depth ≤ dlim := by
  have h1 := h.tri.depth (M := 200) (fun x t hx => (h.sz x t hx).2) _ x (h.rk x)
  have h2 := hl.uni_len
  rw [dlim_eq]
  have h3 := Nat.mul_le_mul_right 200 (show (uni l).length + 1 ≤ 512001 by omega)
  omega
theorem UnRes.exists_ {l : Ru} (h : RuOk l) : ∃ res, UnRes l res := by
  have hl : (lefts l).length = (rights l).length := by simp [lefts, rights]
  obtain ⟨o, ho⟩ := Sl.ex (uni l) (unb (uni l) fun _ => none) (szL Tm.vr (lefts l)) (fun _ => none) Tm.vr (fun _ => 0) Tri.empty (Nat.le_refl _) (inU_none _) (lefts l) (rights l) hl (uni_left l) (uni_right l) (Nat.le_refl _)
  cases o with
  | none => exact ⟨_, .no ho⟩
  | some σ =>
    obtain ⟨θ, r, ht⟩ := ho.tri σ rfl _ _ Tri.empty
    rcases Classical.em (∃ x, σ x ≠ none ∧ ¬ fitsT (θ x)) with hx | hx
    · exact ⟨_, .large σ θ r ho ht hx⟩
    · obtain ⟨r', hf⟩ := finOk h ho ht
      obtain ⟨out, hout⟩ := UnOk.ex θ (uni l) hf.dom
      exact ⟨_, .yes σ θ r out ho ht (fun x h1 => Classical.byContradiction fun h2 => hx ⟨x, h1, h2⟩) hout⟩
theorem encRs_row (l : Ru) (k : Nat) (h : k < l.length) : (encRs l).getD k [] = [.s (l[k]).1.name, .b (l[k]).1.var, .l (Tm.encL (l[k]).1.args), .s (l[k]).2.name, .b (l[k]).2.var, .l (Tm.encL (l[k]).2.args)] := encRs_getD l k h
theorem nil3 {x : Su × Bool × Int} {Q : D → Heap → Prop} (hQ : ∀ r0, As r0 (.tup [suD x.1, bD x.2.1, iD x.2.2]) → Q r0 []) (h : x.1 = []) : Q (.tup [.nil, bD x.2.1, iD x.2.2]) [] := by
  refine hQ _ (.tup _ _ rfl fun j => ?_)
  match j with
  | 0 => exact .nil _ _ (by rw [h]; rfl)
  | 1 => exact .refl _
  | 2 => exact .refl _
  | j + 3 => exact .refl _
theorem unify_Solve_ok (l : Ru) (hl : RuOk l) {res : Su × Bool × Int} (h : UnRes l res) : Fn f_unify_Solve [ruD l] (.tup [suD res.1, bD res.2.1, iD res.2.2]) := Fn.as fun Q hQ => by
  refine C_unify_Solve _ _ fun hb => ?_
  have hlen := encRs_length l
  rw [hlen] at hb ⊢
  let post : Bool → Su → Prs → Prop := fun ok m l' => match ok with
    | true => ∃ m1, lp_unify_Solve_1 Q m1 0 (encS m) (encD l') [] (encS m).length [] []
    | false => Q (.tup [.nil, .v .bool (V.b false), .v (.int .i64) (V.i 0)]) []
  have hrun : RunP (lefts l) (rights l) [] [] post := by
    have start : ∀ {o : Option Bd}, Sl (fun _ => none) (lefts l) (rights l) o → (∀ σ', o = some σ' → ∀ m' l', fnS m' = σ' → NamesOk m' → post true m' l') → (o = none → ∀ m' l', post false m' l') → RunP (lefts l) (rights l) [] [] post := fun ho h1 h2 =>
      progRun ho [] [] fnS_nil ⟨_, _, Tri.empty⟩ List.nodup_nil (fun p hp => by simp at hp) post (fun σ' e m' l' e' hi _ => h1 σ' e m' l' e' hi) h2
    have fin : ∀ (σ : Bd) (θ : ByteArray → Tm) (r : ByteArray → Nat), Sl (fun _ => none) (lefts l) (rights l) (some σ) → Tri σ θ r → ∀ m' l', fnS m' = σ → NamesOk m' →
        ((∃ x, σ x ≠ none ∧ ¬ fitsT (θ x)) → Q (.tup [.nil, bD false, iD 3]) []) → ((∀ x, σ x ≠ none → fitsT (θ x)) → ∀ out, UnOk σ θ out → Q (.tup [suD out, bD true, iD 0]) []) → post true m' l' := fun σ θ r ho ht m' l' e hi h1 h2 => by
      subst e
      obtain ⟨r', hf⟩ := finOk hl ho ht
      have hml : m'.length ≤ (uni l).length := by
        have := nodup_length hi fun x hx => hf.dom x (by
          obtain ⟨y, hy, rfl⟩ := List.mem_map.1 hx
          rw [Ne, fnS_none, Bool.not_eq_false]
          exact boundS_iff.2 ⟨y, hy, rfl⟩)
        simpa [suNames] using this
      have hul := hl.uni_len
      exact solve_end m' l' hf.tri hi (by omega) (hf.depth hl) (fun x t hx => Nat.le_trans (hf.sz x t hx).1 (by decide)) Q h1 h2
    cases h with
    | no ho => exact start ho (fun σ' e => by cases e) (fun _ m' l' => nil3 hQ rfl)
    | large σ θ r ho ht hx => exact start ho (fun σ' e m' l' e' hi => by cases e; exact fin σ θ r ho ht m' l' e' hi (fun _ => nil3 hQ rfl) (fun hall => by obtain ⟨x, h1, h2⟩ := hx; exact absurd (hall x h1) h2)) (fun e => by cases e)
    | yes σ θ r out ho ht hall hout => exact start ho (fun σ' e m' l' e' hi => by cases e; exact fin σ θ r ho ht m' l' e' hi (fun ⟨x, h1, h2⟩ => absurd (hall x h1) h2) (fun _ out' hout' => by rw [hout'.uniq hout]; exact hQ _ (.refl _))) (fun e => by cases e)
  refine range_unify_Solve_0 Q _ _ hb (fun k y13 y14 => ∃ m l', y13 = encS m ∧ y14 = encD l' ∧ RunP ((lefts l).drop k) ((rights l).drop k) m l' post) (fun k y13 y14 hk hJ K hK => ?_) (fun y13 y14 hJ => ?_) 0 _ _ (Nat.zero_le _) ⟨[], [], rfl, rfl, hrun⟩
  · obtain ⟨m, l', rfl, rfl, hr⟩ := hJ
    have hk1 : k < (lefts l).length := by simpa [lefts] using hk
    have hk2 : k < (rights l).length := by simpa [rights] using hk
    have e1 : (lefts l)[k] = (l[k]).1 := by simp [lefts]
    have e2 : (rights l)[k] = (l[k]).2 := by simp [rights]
    rw [List.drop_eq_getElem_cons hk1, List.drop_eq_getElem_cons hk2, e1, e2] at hr
    unfold RunP at hr
    simp only [encRs_row _ k hk, List.drop_zero, List.headD_cons, List.tail_cons]
    refine ⟨by omega, by omega, hr.mono ?_⟩
    rintro r1 H' ⟨m2, l2, rfl, ⟨rfl, hr2⟩ | ⟨rfl, hf⟩⟩
    · exact ⟨rfl, rfl, iff_intro (fun h => by cases h) fun _ => hK _ _ ⟨m2, l2, rfl, rfl, hr2⟩⟩
    · exact ⟨rfl, rfl, iff_intro (fun _ => ⟨⟨trivial, trivial, trivial, trivial⟩, hf⟩) fun h => by cases h⟩
  · obtain ⟨m, l', rfl, rfl, hr⟩ := hJ
    have e1 : (lefts l).drop l.length = [] := List.drop_eq_nil_of_le (by simp [lefts])
    rw [e1] at hr
    exact hr
end Go.Proofs.Ytgohjdaepcmonaa
set_option linter.unusedVariables false
set_option linter.unusedSimpArgs false
namespace Go.Proofs.Ytgohjdaepcmonaa
open Go.Abs
theorem rulesL_zero : ∀ {l : Ru}, rulesL l = 0 → ∀ x ∈ l, Tm.checkAll [x.1, x.2] = 0
  | [], _, x, hx => by simp at hx
  | y :: l, h, x, hx => by
    unfold rulesL at h
    split at h
    · rename_i h1; exact absurd h h1
    · rename_i h1
      rcases List.mem_cons.1 hx with rfl | hx
      · exact Classical.byContradiction h1
      · exact rulesL_zero h x hx
theorem rules_ok {l : Ru} (h : rules l = 0) : RuOk l := by
  unfold rules at h
  split at h
  · cases h
  · rename_i hlen
    have hz := rulesL_zero h
    have hc : ∀ x ∈ l, x.1.check = 0 ∧ x.2.check = 0 := fun x hx => by
      have := Tm.checkAll_zero.1 (hz x hx)
      exact ⟨this _ (by simp), this _ (by simp)⟩
    exact ⟨by omega, fun x hx => ⟨(Tm.check_zero.1 (hc x hx).1).2.1, (Tm.check_zero.1 (hc x hx).2).2.1⟩, fun x hx => ⟨(Tm.check_zero.1 (hc x hx).1).2.2, (Tm.check_zero.1 (hc x hx).2).2.2⟩⟩
theorem rules_one (a b : Tm) : rules [(a, b)] = Tm.checkAll [a, b] := by
  show (if [(a, b)].length > 64 then 3 else rulesL [(a, b)]) = _
  rw [if_neg (by simp), rulesL, rulesL]
  split
  · rfl
  · rename_i h; exact (Classical.byContradiction h).symm
theorem term_CheckRules_ok (l : Ru) (hB : ∀ x ∈ l, x.1.size ≤ small ∧ x.2.size ≤ small) : Fn f_term_CheckRules [ruD l] (iD (rules l)) := fun Q hQ => by
  refine C_term_CheckRules _ _ fun hb => ?_
  have hl := encRs_length l
  rw [hl] at hb ⊢
  unfold rules at hQ
  refine iff_dec (fun h => ⟨trivial, ?_⟩) (fun h hb => ?_)
  · rw [if_pos (by omega)] at hQ; exact hQ
  · rw [if_neg (by omega)] at hQ
    refine range_term_CheckRules_0 Q _ _ hb (fun k => ∀ i (h : i < l.length), i < k → Tm.checkAll [(l[i]).1, (l[i]).2] = 0) (fun k hk hJ K hK => ?_) (fun hJ => ?_) 0 (Nat.zero_le _) (fun i _ h => by omega)
    · simp only [encRs_getD _ k hk, List.drop_zero, List.headD_cons, List.tail_cons]
      have hm := hB _ (List.getElem_mem hk)
      rw [show [[V.s (l[k]).1.name, V.b (l[k]).1.var, V.l (Tm.encL (l[k]).1.args)], [V.s (l[k]).2.name, V.b (l[k]).2.var, V.l (Tm.encL (l[k]).2.args)]] = Tm.encL [(l[k]).1, (l[k]).2] by simp [Tm.encL, Tm.enc_eq]]
      refine ⟨by omega, by omega, term_All_ok [(l[k]).1, (l[k]).2] (fun t ht => ?_) _ ⟨rfl, rfl, iff_bne (fun h2 => ⟨trivial, ?_⟩) (fun h2 => hK fun i hi hik => ?_)⟩⟩
      · simp only [List.mem_cons, List.not_mem_nil, or_false] at ht
        rcases ht with rfl | rfl
        · exact hm.1
        · exact hm.2
      · have h2 : Tm.checkAll [(l[k]).1, (l[k]).2] ≠ 0 := h2
        rw [rulesL_take hk (fun i hi => hJ i (by omega) hi) h2] at hQ
        exact hQ
      · rcases Nat.lt_succ_iff_lt_or_eq.1 hik with h8 | h8
        · exact hJ i hi h8
        · subst h8; exact h2
    · rw [rulesL_all fun i hi => hJ i hi hi] at hQ
      exact ⟨trivial, hQ⟩
def UnAll (l : Ru) (res : Su × Bool × Int) : Prop := (rules l ≠ 0 ∧ res = ([], false, rules l)) ∨ (rules l = 0 ∧ UnRes l res)
theorem UnAll.exists_ (l : Ru) : ∃ res, UnAll l res := by
  by_cases h : rules l = 0
  · obtain ⟨res, hr⟩ := UnRes.exists_ (rules_ok h)
    exact ⟨res, .inr ⟨h, hr⟩⟩
  · exact ⟨_, .inl ⟨h, rfl⟩⟩
theorem unify_UnifyAll_ok (l : Ru) (hB : ∀ x ∈ l, x.1.size ≤ small ∧ x.2.size ≤ small) {res : Su × Bool × Int} (h : UnAll l res) : Fn f_unify_UnifyAll [ruD l] (.tup [suD res.1, bD res.2.1, iD res.2.2]) := Fn.as fun Q hQ => by
  refine C_unify_UnifyAll _ _ ?_
  unfold vc_unify_UnifyAll
  refine term_CheckRules_ok l hB _ ⟨rfl, rfl, iff_bne (fun h1 => ⟨⟨trivial, trivial, trivial, trivial⟩, ?_⟩) (fun h1 => ?_)⟩
  · rcases h with ⟨h2, rfl⟩ | ⟨h2, _⟩
    · exact nil3 hQ rfl
    · exact absurd h2 h1
  · rcases h with ⟨h2, _⟩ | ⟨h2, hr⟩
    · exact absurd h1 h2
    · exact unify_Solve_ok l (rules_ok h2) hr _ ⟨rfl, rfl, ⟨trivial, trivial, trivial, trivial⟩, hQ _ (.refl _)⟩
theorem unify_Unify_ok (a b : Tm) (ha : a.size ≤ small) (hb : b.size ≤ small) {res : Su × Bool × Int} (h : UnAll [(a, b)] res) : Fn f_unify_Unify [tD a, tD b] (.tup [suD res.1, bD res.2.1, iD res.2.2]) := fun Q hQ => by
  refine C_unify_Unify _ _ _ _ _ _ _ ?_
  unfold vc_unify_Unify
  have e : [[V.s a.name, V.b a.var, V.l (Tm.encL a.args), V.s b.name, V.b b.var, V.l (Tm.encL b.args)]] = encRs [(a, b)] := by simp [encRs, encR, Tm.enc_eq]
  rw [e]
  exact unify_UnifyAll_ok [(a, b)] (fun x hx => by rw [List.mem_singleton.1 hx]; exact ⟨ha, hb⟩) h _ ⟨rfl, rfl, ⟨trivial, trivial, trivial, trivial⟩, hQ⟩
end Go.Proofs.Ytgohjdaepcmonaa
