/-
  Texts SortL, WalkA of this proof, joined.
-/
import Derived.Shelf.Sort.Plain
import Derived.Shelf.Slices.Clone
import Derived.Shelf.Slices.In.SortNone
import Derived.Test.YtehchnjnbbnkbaaGreatProg
import Derived.Test.YtehchnjnbbnkbaaGreatP8
namespace Go.Proofs.YtehchnjnbbnkbaaGreat
open Go.Shelf
def lays190_ren : Go.Shelf.Ren := ⟨fun | 190 => 80 | 125 => 97 | 258 => 96 | 128 => 117 | 129 => 118 | 302 => 108 | 303 => 109 | 304 => 110 | 305 => 111 | 306 => 112 | 307 => 113 | 308 => 114 | 309 => 115 | 310 => 116 | 333 => 121 | 329 => 122 | 330 => 123 | 334 => 124 | 335 => 125 | 336 => 126 | 344 => 128 | n => n, fun | 31 => 83 | 9 => 9 | 3 => 3 | 46 => 137 | 0 => 0 | 51 => 152 | 53 => 154 | 4 => 4 | 183 => 146 | 182 => 145 | 131 => 102 | 5 => 5 | 218 => 156 | 222 => 160 | 228 => 162 | 229 => 93 | n => n, fun | n => n⟩
theorem lays190 : Go.Proofs.Lays.n190 Tryz.prog lays190_ren := {
  mixed := by kernel_rfl
  f125 := Tryz.func97.trans (congrArg some (by kernel_rfl))
  f128 := Tryz.func117.trans (congrArg some (by kernel_rfl))
  f129 := Tryz.func118.trans (congrArg some (by kernel_rfl))
  f190 := Tryz.func80.trans (congrArg some (by kernel_rfl))
  f258 := Tryz.func96.trans (congrArg some (by kernel_rfl))
  f302 := Tryz.func108.trans (congrArg some (by kernel_rfl))
  f303 := Tryz.func109.trans (congrArg some (by kernel_rfl))
  f304 := Tryz.func110.trans (congrArg some (by kernel_rfl))
  f305 := Tryz.func111.trans (congrArg some (by kernel_rfl))
  f306 := Tryz.func112.trans (congrArg some (by kernel_rfl))
  f307 := Tryz.func113.trans (congrArg some (by kernel_rfl))
  f308 := Tryz.func114.trans (congrArg some (by kernel_rfl))
  f309 := Tryz.func115.trans (congrArg some (by kernel_rfl))
  f310 := Tryz.func116.trans (congrArg some (by kernel_rfl))
  f329 := Tryz.func122.trans (congrArg some (by kernel_rfl))
  f330 := Tryz.func123.trans (congrArg some (by kernel_rfl))
  f333 := Tryz.func121.trans (congrArg some (by kernel_rfl))
  f334 := Tryz.func124.trans (congrArg some (by kernel_rfl))
  f335 := Tryz.func125.trans (congrArg some (by kernel_rfl))
  f336 := Tryz.func126.trans (congrArg some (by kernel_rfl))
  f344 := Tryz.func128.trans (congrArg some (by kernel_rfl))
  t0 := Tryz.underlying0
  a0 := Tryz.isAgg0
  z0 := Tryz.sizeOf0
  v0 := Tryz.zeroValue0
  t3 := Tryz.underlying3
  a3 := Tryz.isAgg3
  z3 := Tryz.sizeOf3
  v3 := Tryz.zeroValue3
  t4 := Tryz.underlying4
  a4 := Tryz.isAgg4
  z4 := Tryz.sizeOf4
  v4 := Tryz.zeroValue4
  t5 := Tryz.underlying5
  a5 := Tryz.isAgg5
  z5 := Tryz.sizeOf5
  v5 := Tryz.zeroValue5
  t9 := Tryz.underlying9
  a9 := Tryz.isAgg9
  z9 := Tryz.sizeOf9
  v9 := Tryz.zeroValue9
  t31 := Tryz.underlying83
  a31 := Tryz.isAgg83
  z31 := Tryz.sizeOf83
  v31 := Tryz.zeroValue83
  t46 := Tryz.underlying137
  a46 := Tryz.isAgg137
  z46 := Tryz.sizeOf137
  v46 := Tryz.zeroValue137
  t51 := Tryz.underlying152
  a51 := Tryz.isAgg152
  z51 := Tryz.sizeOf152
  v51 := Tryz.zeroValue152
  t53 := Tryz.underlying154
  a53 := Tryz.isAgg154
  z53 := Tryz.sizeOf154
  v53 := Tryz.zeroValue154
  t131 := Tryz.underlying102
  a131 := Tryz.isAgg102
  z131 := Tryz.sizeOf102
  v131 := Tryz.zeroValue102
  t182 := Tryz.underlying145
  a182 := Tryz.isAgg145
  z182 := Tryz.sizeOf145
  v182 := Tryz.zeroValue145
  t183 := Tryz.underlying146
  a183 := Tryz.isAgg146
  z183 := Tryz.sizeOf146
  v183 := Tryz.zeroValue146
  t218 := Tryz.underlying156
  a218 := Tryz.isAgg156
  z218 := Tryz.sizeOf156
  v218 := Tryz.zeroValue156
  t222 := Tryz.underlying160
  a222 := Tryz.isAgg160
  z222 := Tryz.sizeOf160
  v222 := Tryz.zeroValue160
  t228 := Tryz.underlying162
  a228 := Tryz.isAgg162
  z228 := Tryz.sizeOf162
  v228 := Tryz.zeroValue162
  t229 := Tryz.underlying93
  a229 := Tryz.isAgg93
  z229 := Tryz.sizeOf93
  v229 := Tryz.zeroValue93 }
def laysNm215_ren : Go.Shelf.Ren := ⟨fun | 15 => 95 | n => n, fun | 22 => 57 | 3 => 3 | 4 => 4 | n => n, fun | n => n⟩
theorem laysNm215 : Go.Proofs.Lays2.n15 Tryz.prog laysNm215_ren := {
  mixed := by kernel_rfl
  f15 := Tryz.func95.trans (congrArg some (by kernel_rfl))
  t3 := Tryz.underlying3
  a3 := Tryz.isAgg3
  z3 := Tryz.sizeOf3
  v3 := Tryz.zeroValue3
  t4 := Tryz.underlying4
  a4 := Tryz.isAgg4
  z4 := Tryz.sizeOf4
  v4 := Tryz.zeroValue4
  t22 := Tryz.underlying57
  a22 := Tryz.isAgg57
  z22 := Tryz.sizeOf57
  v22 := Tryz.zeroValue57
  i3 := by kernel_rfl }
end Go.Proofs.YtehchnjnbbnkbaaGreat
set_option linter.unusedVariables false
namespace Go.Proofs.YtehchnjnbbnkbaaGreat
open Go Go.Abs
theorem term_lf : lfs tab t_Term = [.str, .bool, .sl t_Term] := by kernel_rfl
mutual
def Tm.pre : Tm → List Tm | .mk n v xs => .mk n v xs :: Tm.preL xs
def Tm.preL : List Tm → List Tm | [] => [] | t :: r => t.pre ++ Tm.preL r
end
theorem Tm.pre_eq (t : Tm) : t.pre = t :: Tm.preL t.args := by cases t; rfl
theorem Tm.preL_eq : ∀ l : List Tm, Tm.preL l = l.flatMap Tm.pre
  | [] => rfl
  | t :: r => by simp [Tm.preL, Tm.preL_eq r]
theorem tm_inv {S : Sig} {t : Tm} {v : Value} (h : RepD (lfs tab) S (tD t) v) : ∃ u, v = .agg #[.string t.name, .bool t.var, u] ∧ RepK (lfs tab) S.w S.F (.sl t_Term) (.l (Tm.encL t.args)) u ∧ t.name.size ≤ big := by
  cases h with
  | agg cs us hl hr =>
    match us, hl with
    | [u0, u1, u2], _ =>
      have h0 : RepD (lfs tab) S (.v .str (.s t.name)) u0 := hr 0
      have h1 : RepD (lfs tab) S (.v .bool (.b t.var)) u1 := hr 1
      have h2 : RepD (lfs tab) S (.v (.sl t_Term) (.l (Tm.encL t.args))) u2 := hr 2
      have e1 := h1.bool_inv
      have e0 : u0 = .string t.name ∧ t.name.size ≤ big := by
        cases h0 with
        | v _ _ _ h =>
          generalize hy : V.s t.name = y at h
          cases h with
          | str x hx => subst hy; exact ⟨rfl, hx⟩
      obtain ⟨rfl, hs⟩ := e0
      subst e1
      refine ⟨u2, rfl, ?_, hs⟩
      cases h2 with
      | v _ _ _ h => exact h
theorem args_inv {S : Sig} {l : List Tm} {u : Value} (h : RepK (lfs tab) S.w S.F (.sl t_Term) (.l (Tm.encL l)) u) :
    ∃ a c, u = .slice a l.length c ∧ (l = [] ∨ ∃ b off, ∃ us : Nat → Nat → Value, a = some ⟨b, off, none⟩ ∧ S.F b ∧ ∀ i (hi : i < l.length),
      (∀ j, j < 3 → S.w.cell? ⟨b, off + (i * 3 + j), none⟩ = some (us i j)) ∧ RepD (lfs tab) S (tD (l[i])) (.agg #[us i 0, us i 1, us i 2])) := by
  generalize hy : V.l (Tm.encL l) = y at h
  cases h with
  | sl0 e x A c hl =>
    subst hy
    have : l = [] := by
      have h1 : (Tm.encL l) = [] := hl
      rw [Tm.encL_eq] at h1
      simpa using h1
    subst this
    exact ⟨A, c, rfl, .inl rfl⟩
  | sl e x b off c us hb hc hlen hcell hr =>
    subst hy
    refine ⟨some ⟨b, off, none⟩, c, by show Value.slice _ _ _ = _; rw [show (V.l (Tm.encL l)).list.length = l.length from Tm.encL_length l], .inr ⟨b, off, us, rfl, hb, fun i hi => ⟨fun j hj => ?_, ?_⟩⟩⟩
    · have := hcell i j (by show i < (Tm.encL l).length; rw [Tm.encL_length]; exact hi) (by rw [term_lf]; exact hj)
      rw [term_lf] at this
      rw [← Nat.add_assoc]
      exact this
    · have h3 : ∀ j, j < 3 → RepK (lfs tab) S.w S.F ([K.str, .bool, .sl t_Term].getD j .oth) ((l[i]).enc.getD j V.none) (us i j) := fun j hj => by
        have := hr i j (by show i < (Tm.encL l).length; rw [Tm.encL_length]; exact hi) (by rw [term_lf]; exact hj)
        rw [term_lf, show (V.l (Tm.encL l)).list.getD i [] = (l[i]).enc from Tm.encL_getD l i hi] at this
        exact this
      refine .agg _ [us i 0, us i 1, us i 2] rfl fun j => ?_
      match j with
      | 0 => exact .v _ _ _ (by have := h3 0 (by omega); rw [Tm.enc_eq] at this; exact this)
      | 1 => exact .v _ _ _ (by have := h3 1 (by omega); rw [Tm.enc_eq] at this; exact this)
      | 2 => exact .v _ _ _ (by have := h3 2 (by omega); rw [Tm.enc_eq] at this; exact this)
      | j + 3 => exact .undef _
end Go.Proofs.YtehchnjnbbnkbaaGreat
