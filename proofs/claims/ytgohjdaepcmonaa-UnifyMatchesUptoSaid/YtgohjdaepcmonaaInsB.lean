import Derived.Test.YtgohjdaepcmonaaRows
import Derived.Test.YtgohjdaepcmonaaInsA
import Derived.Shelf.Spec.SlicesInsertGrow
import Derived.Test.YtgohjdaepcmonaaT
set_option linter.unusedVariables false
namespace Go.Proofs.Ytgohjdaepcmonaa
open Go.RowKit Go.Lib Go.Ins
theorem ins_t25 : Try.prog.underlying 25 = some (.slice 48) := by kernel_rfl
theorem ins_t3 : Try.prog.underlying 3 = some (.int .i64) := by kernel_rfl
theorem ins_sz : (Try.prog.info? 48).map (·.size) = some 4 := by kernel_rfl
theorem ins_so (w : World) : (sizeOf 48).run Try.prog w = .ok 4 w := by
  unfold sizeOf
  cases hi : Try.prog.info? 48 with
  | none => have := ins_sz; rw [hi] at this; cases this
  | some i => have := ins_sz; rw [hi] at this; simp at this; simp [typeInfo, hi, this]
theorem ins_mixed : Try.prog.follows .mixedOrders = true := by kernel_rfl
set_option maxHeartbeats 4000000 in
set_option maxRecDepth 100000 in
theorem ins_shift (b n c i vb voff vc : Nat) (arr : Array Value) (e0 : TypeId) (cs vs : List Value) (w : World) (hi : i < n) (hroom : n + 1 ≤ c) (hc63 : c ≤ 9223372036854775807) (hvb : vb ≠ b)
    (hb : w.heap[b]? = some (.cells arr e0 (0, 0))) (hsz : arr.size = c * 4) (hcs : cs = (arr.toList.drop (i * 4)).take ((n - i) * 4)) (hvl : vs.length = 4)
    (hvs : ∀ j v, vs[j]? = some v → w.cell? ⟨vb, voff + j, none⟩ = some v) (h1c : ∀ v ∈ cs, v.oneCell' = true) (h1v : ∀ v ∈ vs, v.oneCell' = true)
    (tA : TypeId) (kA : Nat) (hsa : w.shape? vb = some (tA, kA)) (hkA : kA ≠ 0) :
    Calls Try.prog 73 #[.slice (some ⟨b, 0, none⟩) n c, .int .i64 i, .slice (some ⟨vb, voff, none⟩) 1 vc] w fun e w' =>
      e = .returned (.slice (some ⟨b, 0, none⟩) (n + 1) c) ∧ w' = (w.drew.setRow b (arr.toList.take ((i + 1) * 4) ++ (cs ++ arr.toList.drop ((i + 1) * 4 + cs.length))).toArray).setRow b
        ((arr.toList.take ((i + 1) * 4) ++ (cs ++ arr.toList.drop ((i + 1) * 4 + cs.length))).take (i * 4) ++ (vs ++ (arr.toList.take ((i + 1) * 4) ++ (cs ++ arr.toList.drop ((i + 1) * 4 + cs.length))).drop (i * 4 + 4))).toArray := by
  have hz2 : ¬ ((i : Int) = (n : Int)) := by omega
  have mixed := ins_mixed
  have hov : ∀ lb cb, (callFunc 88 #[.slice (some ⟨vb, voff, none⟩) 1 vc, .slice (some ⟨b, (i + 1) * 4, none⟩) lb cb]).run Try.prog w = .ok (.value (.bool false)) w := fun lb cb => by
    rw [run_callFunc_extern Try.func88 (by kernel_rfl) (by kernel_rfl) (by kernel_rfl) (e := Extern.SlicesOverlaps.overlaps #[25, 25] #[4]) (by kernel_rfl),
      Ins.run_overlaps_plain w 25 4 48 ins_t25 4 ins_so ⟨vb, voff, none⟩ ⟨b, (i + 1) * 4, none⟩ 1 vc lb cb hvb tA e0 kA arr.size hsa (by simp [World.shape?, hb]) hkA (by simp [World.frozen?, hb]) (by simp [World.frozen?, hb])]
    rfl
  have hcl : cs.length = (n - i) * 4 := by rw [hcs]; simp; omega
  have hw1 : IntKind.i64.wrap ((i : Int) + 1) = (i : Int) + 1 := by rw [IntKind.wrap_i64]; omega
  have hb1 : (0 : Int) ≤ (i : Int) + 1 := by omega
  have hin : i ≤ n := by omega
  have htn : ((i : Int) + 1).toNat = i + 1 := by omega
  have hb2 : ¬ (c = i + 1) := by omega
  have hb3 : (i : Int) ≤ (n : Int) + 1 := by omega
  have hb4 : ¬ (c = i) := by omega
  obtain ⟨A1, hA1⟩ : ∃ A1, A1 = (arr.toList.take ((i + 1) * 4) ++ (cs ++ arr.toList.drop ((i + 1) * 4 + cs.length))).toArray := ⟨_, rfl⟩
  have hA1s : A1.size = c * 4 := by rw [hA1]; simp; omega
  have hcell : ∀ j v, cs[j]? = some v → w.cell? ⟨b, i * 4 + j, none⟩ = some v := fun j v hj => by
    rw [hcs, List.getElem?_take] at hj
    split at hj
    · rw [List.getElem?_drop] at hj
      simp only [World.cell?, hb]
      simpa using hj
    · cases hj
  have hcp1 : ∀ ty dc sc, (Builtin.copy_ #[25, 25] ty #[.slice (some ⟨b, (i + 1) * 4, none⟩) (n + 1 - (i + 1)) dc, .slice (some ⟨b, i * 4, none⟩) (n + 1 - i) sc]).run Try.prog w.drew = .ok (goInt (n - i : Nat)) (w.drew.setRow b A1) := fun ty dc sc => by
    have hmin : Nat.min (n + 1 - i) (n + 1 - (i + 1)) = n - i := by simp only [Nat.min_def]; split <;> omega
    have := run_copy_gen (P := Try.prog) w.drew 25 25 ty 48 4 b ((i + 1) * 4) (n + 1 - (i + 1)) dc ⟨b, i * 4, none⟩ (n + 1 - i) sc arr e0 cs ins_t25 ins_sz hb (by rw [hmin, hcl])
      (fun j v hj => by rw [Addr.add_lit]; exact hcell j v hj) (by rw [hcl]; omega) h1c
    rw [hmin] at this
    rw [this, hA1]
    simp
  have hcp2 : ∀ ty dc, (Builtin.copy_ #[25, 25] ty #[.slice (some ⟨b, i * 4, none⟩) (n + 1 - i) dc, .slice (some ⟨vb, voff, none⟩) 1 vc]).run Try.prog (w.drew.setRow b A1) = .ok (goInt 1) ((w.drew.setRow b A1).setRow b (A1.toList.take (i * 4) ++ (vs ++ A1.toList.drop (i * 4 + 4))).toArray) := fun ty dc => by
    have hmin : Nat.min 1 (n + 1 - i) = 1 := by simp only [Nat.min_def]; split <;> omega
    have := run_copy_gen (P := Try.prog) (w.drew.setRow b A1) 25 25 ty 48 4 b (i * 4) (n + 1 - i) dc ⟨vb, voff, none⟩ 1 vc A1 e0 vs ins_t25 ins_sz (setRow_heap w.drew b arr A1 e0 (0, 0) hb) (by rw [hmin, hvl])
      (fun j v hj => by
        rw [Addr.add_lit, World.cell?_of_block (w := w) (by rw [Abs.setRow_other _ _ _ _ hvb]; rfl)]
        exact hvs j v hj) (by rw [hvl]; omega) h1v
    rw [hmin] at this
    rw [this]
    simp [hvl]
  rw [show (arr.toList.take ((i + 1) * 4) ++ (cs ++ arr.toList.drop ((i + 1) * 4 + cs.length))) = A1.toList by rw [hA1]]
  clear hA1 hA1s hcell hcl
  clear hcs
  go_enter Try.func73, Try.ntmps73
  go_wp2_with (simp only [hov])
  go_region_law_o (refine step_copy_runI rfl _ _ 25 25 rfl (.slice (some ⟨b, (i + 1) * 4, none⟩) (n + 1 - (i + 1)) (c - (i + 1))) (.slice (some ⟨b, i * 4, none⟩) (n + 1 - i) (c - i)) (by simp [Act.eval, Act.put]) (by simp [Act.eval, Act.put]) (hcp1 _ _ _) ?_)
  go_wp2_with (at_builtin; refine wpList_copy_runI _ rfl _ _ 25 25 rfl _ _ rfl rfl (hcp2 _ _) ?_)
  go_ret
  exact ⟨rfl, rfl⟩
theorem ins_info : ∃ i0 z, Try.prog.info? 48 = some i0 ∧ i0.zero = some z ∧ z.cells.size = 4 ∧ i0.size = 4 ∧ i0.bytes ≤ 64 := by
  have h : (Try.prog.info? 48).bind (fun i => i.zero.map fun z => (z.cells.size, i.size, i.bytes)) = some (4, 4, 64) := by kernel_rfl
  cases hi : Try.prog.info? 48 with
  | none => rw [hi] at h; cases h
  | some i =>
    rw [hi] at h
    cases hz : i.zero with
    | none => simp [hz] at h
    | some z =>
      simp [hz] at h
      exact ⟨i, z, rfl, hz, h.1, h.2.1, by omega⟩
theorem zeroCells_size (z : Array Value) (k : Nat) : (Builtin.zeroCells z k).size = k * z.size := by simp [Builtin.zeroCells]
set_option maxHeartbeats 4000000 in
set_option maxRecDepth 100000 in
theorem ins_grow (b n c i vb voff vc : Nat) (arr : Array Value) (e0 : TypeId) (cs vs : List Value) (w : World) (hi : i < n) (hnc : n ≤ c) (hroom : c < n + 1) (hbig : n ≤ 1099511627776) (hvb : vb ≠ b)
    (hb : w.heap[b]? = some (.cells arr e0 (0, 0))) (hsz : arr.size = c * 4) (hcs : cs = (arr.toList.drop (i * 4)).take ((n - i) * 4)) (hvl : vs.length = 4)
    (hvs : ∀ j v, vs[j]? = some v → w.cell? ⟨vb, voff + j, none⟩ = some v) (h1c : ∀ v ∈ cs, v.oneCell' = true) (h1v : ∀ v ∈ vs, v.oneCell' = true) :
    ∃ (G : Nat) (ROW : Array Value), n + 1 ≤ G ∧ G ≤ maxLen ∧ ROW.size = G * 4 ∧ ROW.toList.take (i * 4) = arr.toList.take (i * 4) ∧
    Calls Try.prog 73 #[.slice (some ⟨b, 0, none⟩) n c, .int .i64 i, .slice (some ⟨vb, voff, none⟩) 1 vc] w fun e w' =>
      e = .returned (.slice (some ⟨w.heap.size, 0, none⟩) (n + 1) G) ∧
      w' = (((w.alloc (.cells ROW 48)).drew.setRow w.heap.size (ROW.toList.take (i * 4) ++ (vs ++ ROW.toList.drop (i * 4 + 4))).toArray).drew).setRow w.heap.size
        ((ROW.toList.take (i * 4) ++ (vs ++ ROW.toList.drop (i * 4 + 4))).take ((i + 1) * 4) ++ (cs ++ (ROW.toList.take (i * 4) ++ (vs ++ ROW.toList.drop (i * 4 + 4))).drop ((i + 1) * 4 + cs.length))).toArray := by
  obtain ⟨i0, z, hi0, hz0, hz1, hz2, hz3⟩ := ins_info
  have mixed := ins_mixed
  have hne : ¬ ((i : Int) = (n : Int)) := by omega
  have hlt : (c : Int) < (n : Int) + 1 := by omega
  have hcl : cs.length = (n - i) * 4 := by rw [hcs]; simp; omega
  have hbw : b < w.heap.size := by
    rcases Nat.lt_or_ge b w.heap.size with h | h
    · exact h
    · rw [Array.getElem?_eq_none h] at hb; cases hb
  have hvw : vb < w.heap.size := block_lt_of_cell (hvs 0 _ (List.getElem?_eq_getElem (by omega)))
  have hkk : (n : Int) + 1 - (i : Int) = ((n + 1 - i : Nat) : Int) := by omega
  have hik : i + (n + 1 - i) = n + 1 := by omega
  have hcellA : ∀ j v, arr.toList[j]? = some v → w.cell? ⟨b, j, none⟩ = some v := fun j v hj => by
    simp only [World.cell?, hb]
    simpa using hj
  have hold : (Builtin.firstCells i0.size i (.slice (some ⟨b, 0, none⟩) i c)).run Try.prog w.drew = .ok (arr.toList.take (i * 4)).toArray w.drew := by
    rw [hz2]
    exact run_firstCells_some w.drew 4 i ⟨b, 0, none⟩ i c (arr.toList.take (i * 4)) (by simp; omega) (fun j v hj => by
      rw [Addr.add_lit]
      rw [List.getElem?_take] at hj
      split at hj
      · rw [Nat.zero_add]; exact hcellA j v hj
      · cases hj)
  refine ⟨grownCap w (n + 1) c 48, (arr.toList.take (i * 4)).toArray ++ Builtin.zeroCells z.cells (n + 1 - i) ++ Builtin.zeroCells z.cells (grownCap w (n + 1) c 48 - (n + 1)), grownCap_ge w _ _ _, grownCap_le_maxLen w (n + 1) c 48 (by unfold maxLen; omega), ?_, ?_, ?_⟩
  · have := grownCap_ge w (n + 1) c 48
    simp only [Array.size_append, zeroCells_size, hz1]
    simp
    omega
  · have e : ∀ B C : Array Value, ((arr.toList.take (i * 4)).toArray ++ B ++ C).toList = arr.toList.take (i * 4) ++ (B.toList ++ C.toList) := fun B C => by simp
    rw [e, List.take_append_of_le_length (by simp; omega), List.take_take, Nat.min_self]
  have hrz : ∀ ty, (Builtin.append_ #[25, 3] ty #[.slice (some ⟨b, 0, none⟩) i c, .int .i64 ((n : Int) + 1 - (i : Int))]).run Try.prog w =
      .ok (.slice (some ⟨w.heap.size, 0, none⟩) (n + 1) (grownCap w (n + 1) c 48)) (w.drew.alloc (.cells ((arr.toList.take (i * 4)).toArray ++ Builtin.zeroCells z.cells (n + 1 - i) ++ Builtin.zeroCells z.cells (grownCap w (n + 1) c 48 - (n + 1))) 48)) := fun ty => by
    have h := Lib.run_append_grow_zeros (P := Try.prog) w 25 3 ty 48 i0 z .i64 .i64 ins_t25 ins_t3 hi0 hz0 (some ⟨b, 0, none⟩) i c (arr.toList.take (i * 4)) hold (n + 1 - i) (by omega) (by omega) (by omega) (by omega)
      (by have := Nat.mul_le_mul (show n + 1 - i ≤ 1099511627777 by omega) hz3; omega) (by rw [hik]; exact growslice_fits hroom (by have := Nat.mul_le_mul (show n + 1 ≤ 1099511627777 by omega) hz3; omega))
    rw [hik] at h
    rw [hkk]
    exact h
  obtain ⟨G, hG⟩ : ∃ G, G = grownCap w (n + 1) c 48 := ⟨_, rfl⟩
  have hGn : n + 1 ≤ G := by rw [hG]; exact grownCap_ge w _ _ _
  have hG63 : G ≤ 9223372036854775807 := by
    have := grownCap_le_maxLen w (n + 1) c 48 (by unfold maxLen; omega)
    rw [← hG] at this
    unfold maxLen at this
    omega
  have hRs : ((arr.toList.take (i * 4)).toArray ++ Builtin.zeroCells z.cells (n + 1 - i) ++ Builtin.zeroCells z.cells (grownCap w (n + 1) c 48 - (n + 1))).size = G * 4 := by
    simp only [Array.size_append, zeroCells_size, hz1]
    rw [← hG]
    simp
    omega
  rw [← hG] at hrz hRs ⊢
  obtain ⟨ROW, hROW⟩ : ∃ ROW : Array Value, ROW = (arr.toList.take (i * 4)).toArray ++ Builtin.zeroCells z.cells (n + 1 - i) ++ Builtin.zeroCells z.cells (G - (n + 1)) := ⟨_, rfl⟩
  rw [← hROW] at hrz hRs ⊢
  have hGi : ¬ (G = i) := by omega
  have hGim : ¬ (G = i + 1) := by omega
  have hci : ¬ (c = i) := by omega
  have hNb : w.heap.size ≠ b := by omega
  obtain ⟨A1, hA1⟩ : ∃ A1, A1 = (ROW.toList.take (i * 4) ++ (vs ++ ROW.toList.drop (i * 4 + 4))).toArray := ⟨_, rfl⟩
  have hA1s : A1.size = G * 4 := by rw [hA1]; simp; omega
  have hcpA : ∀ (W : World), W.heap[w.heap.size]? = some (.cells ROW 48 (0, 0)) → W.heap[vb]? = w.heap[vb]? → ∀ ty dc, (Builtin.copy_ #[25, 25] ty #[.slice (some ⟨w.heap.size, i * 4, none⟩) (n + 1 - i) dc, .slice (some ⟨vb, voff, none⟩) 1 vc]).run Try.prog W = .ok (goInt 1) (W.setRow w.heap.size A1) := fun W hW hWv ty dc => by
    have hmin : Nat.min 1 (n + 1 - i) = 1 := by simp only [Nat.min_def]; split <;> omega
    have := run_copy_gen (P := Try.prog) W 25 25 ty 48 4 w.heap.size (i * 4) (n + 1 - i) dc ⟨vb, voff, none⟩ 1 vc ROW 48 vs ins_t25 ins_sz hW (by rw [hmin, hvl])
      (fun j v hj => by
        rw [Addr.add_lit, World.cell?_of_block (w := w) hWv]
        exact hvs j v hj) (by rw [hvl]; omega) h1v
    rw [hmin] at this
    rw [this, hA1]
    simp [hvl]
  have hcpB : ∀ (W : World), W.heap[w.heap.size]? = some (.cells A1 48 (0, 0)) → W.heap[b]? = w.heap[b]? → ∀ ty dc sc, (Builtin.copy_ #[25, 25] ty #[.slice (some ⟨w.heap.size, (i + 1) * 4, none⟩) (n + 1 - (i + 1)) dc, .slice (some ⟨b, i * 4, none⟩) (n - i) sc]).run Try.prog W = .ok (goInt (n - i : Nat)) (W.setRow w.heap.size (A1.toList.take ((i + 1) * 4) ++ (cs ++ A1.toList.drop ((i + 1) * 4 + cs.length))).toArray) := fun W hW hWb ty dc sc => by
    have hmin : Nat.min (n - i) (n + 1 - (i + 1)) = n - i := by simp only [Nat.min_def]; split <;> omega
    have := run_copy_gen (P := Try.prog) W 25 25 ty 48 4 w.heap.size ((i + 1) * 4) (n + 1 - (i + 1)) dc ⟨b, i * 4, none⟩ (n - i) sc A1 48 cs ins_t25 ins_sz hW (by rw [hmin, hcl])
      (fun j v hj => by
        rw [Addr.add_lit, World.cell?_of_block (w := w) hWb]
        rw [hcs, List.getElem?_take] at hj
        split at hj
        · rw [List.getElem?_drop] at hj; exact hcellA _ v hj
        · cases hj) (by rw [hcl]; omega) h1c
    rw [hmin] at this
    rw [this]
    simp
  have hold1 : ∀ k, k < w.heap.size → (w.drew.alloc (.cells ROW 48)).heap[k]? = w.heap[k]? := fun k hk => Abs.alloc_old w.drew _ k hk
  have hnew1 : (w.drew.alloc (.cells ROW 48)).heap[w.heap.size]? = some (.cells ROW 48 (0, 0)) := Abs.alloc_new w.drew _
  have hnew2 : ((w.drew.alloc (.cells ROW 48)).setRow w.heap.size A1).heap[w.heap.size]? = some (.cells A1 48 (0, 0)) := setRow_heap _ _ _ _ _ _ hnew1
  have hold2 : ((w.drew.alloc (.cells ROW 48)).setRow w.heap.size A1).heap[b]? = w.heap[b]? := by rw [Abs.setRow_other _ _ _ _ (Ne.symm hNb)]; exact hold1 b hbw
  have a1 : ∀ ty dc, _ := hcpA (w.drew.alloc (.cells ROW 48)) hnew1 (hold1 vb hvw)
  have a2 : ∀ ty dc, _ := hcpA (w.alloc (.cells ROW 48)).drew hnew1 (hold1 vb hvw)
  have b1 : ∀ ty dc sc, _ := hcpB ((w.drew.alloc (.cells ROW 48)).setRow w.heap.size A1).drew hnew2 hold2
  have b2 : ∀ ty dc sc, _ := hcpB ((w.alloc (.cells ROW 48)).drew.setRow w.heap.size A1).drew hnew2 hold2
  rw [show (ROW.toList.take (i * 4) ++ (vs ++ ROW.toList.drop (i * 4 + 4))) = A1.toList by rw [hA1]]
  have hw1 : IntKind.i64.wrap ((i : Int) + 1) = (i : Int) + 1 := by rw [IntKind.wrap_i64]; omega
  have hbb1 : (0 : Int) ≤ (i : Int) + 1 := by omega
  have hin : i ≤ n := by omega
  have htn : ((i : Int) + 1).toNat = i + 1 := by omega
  have hb3 : (i : Int) ≤ (n : Int) := by omega
  clear hkk hik hold hROW hG hRs hA1 hA1s hcl hcpA hcpB hcellA hold1 hnew1 hnew2 hold2
  clear hcs
  go_enter Try.func73, Try.ntmps73
  go_wp2_with (first
    | (at_builtin; refine Lib.wpList_append_run _ rfl _ _ _ _ rfl _ _ rfl rfl _ _ (hrz _) ?_)
    | (at_builtin; refine wpList_copy_runI _ rfl _ _ 25 25 rfl _ _ rfl rfl (a1 _ _) ?_)
    | (at_builtin; refine wpList_copy_runI _ rfl _ _ 25 25 rfl _ _ rfl rfl (a2 _ _) ?_))
  go_region_law_o (refine step_copy_runI rfl _ _ 25 25 rfl (.slice (some ⟨w.heap.size, (i + 1) * 4, none⟩) (n + 1 - (i + 1)) (G - (i + 1))) (.slice (some ⟨b, i * 4, none⟩) (n - i) (c - i)) (by simp [Act.eval, Act.put]) (by simp [Act.eval, Act.put]) (b2 _ _ _) ?_)
  go_wp2
  go_ret
  exact ⟨rfl, rfl⟩
set_option maxHeartbeats 4000000 in
set_option maxRecDepth 100000 in
theorem ins_end (b n c vb voff vc : Nat) (w w2 : World) (v' : Value) (hc63 : n ≤ c) (hrun : ∀ ty, (Builtin.append_ #[25, 25] ty #[.slice (some ⟨b, 0, none⟩) n c, .slice (some ⟨vb, voff, none⟩) 1 vc]).run Try.prog w = .ok v' w2) :
    Calls Try.prog 73 #[.slice (some ⟨b, 0, none⟩) n c, .int .i64 n, .slice (some ⟨vb, voff, none⟩) 1 vc] w fun e w' => e = .returned v' ∧ w' = w2 := by
  have mixed := ins_mixed
  go_enter Try.func73, Try.ntmps73
  go_wp2_with (at_builtin; refine Lib.wpList_append_run _ rfl _ _ _ _ rfl _ _ rfl rfl _ _ (hrun _) ?_)
  all_goals go_ret
  all_goals exact ⟨rfl, rfl⟩
set_option maxHeartbeats 4000000 in
set_option maxRecDepth 100000 in
theorem ins_end0 (vb voff vc : Nat) (w w2 : World) (v' : Value) (hrun : ∀ ty, (Builtin.append_ #[25, 25] ty #[.slice none 0 0, .slice (some ⟨vb, voff, none⟩) 1 vc]).run Try.prog w = .ok v' w2) :
    Calls Try.prog 73 #[.slice none 0 0, .int .i64 0, .slice (some ⟨vb, voff, none⟩) 1 vc] w fun e w' => e = .returned v' ∧ w' = w2 := by
  have mixed := ins_mixed
  go_enter Try.func73, Try.ntmps73
  go_wp2_with (at_builtin; refine Lib.wpList_append_run _ rfl _ _ _ _ rfl _ _ rfl rfl _ _ (hrun _) ?_)
  all_goals go_ret
  all_goals exact ⟨rfl, rfl⟩
end Go.Proofs.Ytgohjdaepcmonaa
