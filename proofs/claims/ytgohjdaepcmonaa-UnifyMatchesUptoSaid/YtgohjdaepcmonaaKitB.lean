import Derived.Test.YtgohjdaepcmonaaKitA
set_option linter.unusedVariables false
set_option linter.unusedSimpArgs false
namespace Go.Proofs.Ytgohjdaepcmonaa
open Go.Abs
inductive Tm where
  | mk (name : ByteArray) (var : Bool) (args : List Tm)
namespace Tm
def name : Tm → ByteArray | mk n _ _ => n
def var : Tm → Bool | mk _ v _ => v
def args : Tm → List Tm | mk _ _ xs => xs
theorem eta : ∀ t : Tm, t = mk t.name t.var t.args | mk _ _ _ => rfl
theorem ext {s t : Tm} (h1 : s.name = t.name) (h2 : s.var = t.var) (h3 : s.args = t.args) : s = t := by
  rw [eta s, eta t, h1, h2, h3]
mutual
def enc : Tm → List V | mk n v xs => [.s n, .b v, .l (encL xs)]
def encL : List Tm → List (List V) | [] => [] | t :: r => t.enc :: encL r
end
mutual
def size : Tm → Nat | mk _ _ xs => 1 + sizeL xs
def sizeL : List Tm → Nat | [] => 0 | t :: r => t.size + sizeL r
end
mutual
def depth : Tm → Nat | mk _ _ xs => depthL xs + 1
def depthL : List Tm → Nat | [] => 0 | t :: r => max t.depth (depthL r)
end
mutual
def formed : Tm → Bool | mk n v xs => if v then nameOk n false && xs.isEmpty else nameOk n true && decide (xs.length ≤ 8) && formedL xs
def formedL : List Tm → Bool | [] => true | t :: r => t.formed && formedL r
end
theorem enc_eq : ∀ t : Tm, t.enc = [.s t.name, .b t.var, .l (encL t.args)] | mk _ _ _ => rfl
theorem size_eq : ∀ t : Tm, t.size = 1 + sizeL t.args | mk _ _ _ => rfl
theorem depth_eq : ∀ t : Tm, t.depth = depthL t.args + 1 | mk _ _ _ => rfl
theorem encL_eq : ∀ (l : List Tm), encL l = l.map enc
  | [] => rfl
  | t :: r => by simp [encL, encL_eq r]
theorem encL_length (l : List Tm) : (encL l).length = l.length := by simp [encL_eq]
theorem encL_getD (l : List Tm) (k : Nat) (h : k < l.length) : (encL l).getD k [] = (l[k]).enc := by
  rw [encL_eq, List.getD_eq_getElem?_getD, List.getElem?_map, List.getElem?_eq_getElem h]; rfl
theorem ind {p : Tm → Prop} (h : ∀ t : Tm, (∀ a ∈ t.args, p a) → p t) : ∀ t, p t
  | mk n v xs => h (mk n v xs) fun a ha => ind h a
termination_by t => SizeOf.sizeOf t
decreasing_by
  have := List.sizeOf_lt_of_mem (show a ∈ xs from ha)
  simp; omega
theorem size_pos (t : Tm) : 1 ≤ t.size := by rw [size_eq]; omega
theorem sizeL_mem : ∀ {l : List Tm} {a : Tm}, a ∈ l → a.size ≤ sizeL l
  | t :: r, a, h => by
    rcases List.mem_cons.1 h with rfl | h
    · simp [sizeL]
    · have := sizeL_mem h; simp [sizeL]; omega
theorem size_mem {t a : Tm} (h : a ∈ t.args) : a.size < t.size := by have := sizeL_mem h; rw [size_eq t]; omega
theorem sizeL_append : ∀ (l r : List Tm), sizeL (l ++ r) = sizeL l + sizeL r
  | [], r => by simp [sizeL]
  | t :: l, r => by simp [sizeL, sizeL_append l r]; omega
theorem sizeL_take (l : List Tm) (k : Nat) (h : k < l.length) : sizeL (l.take (k + 1)) = sizeL (l.take k) + l[k].size := by
  rw [List.take_succ_eq_append_getElem h, sizeL_append]; simp [sizeL]
theorem sizeL_take_le (l : List Tm) (k : Nat) : sizeL (l.take k) ≤ sizeL l := by
  have := sizeL_append (l.take k) (l.drop k)
  rw [List.take_append_drop] at this; omega
theorem length_sizeL : ∀ (l : List Tm), l.length ≤ sizeL l
  | [] => by simp [sizeL]
  | t :: r => by have := length_sizeL r; have := size_pos t; simp [sizeL]; omega
theorem depthL_append : ∀ (l r : List Tm), depthL (l ++ r) = max (depthL l) (depthL r)
  | [], r => by simp [depthL]
  | t :: l, r => by simp [depthL, depthL_append l r, Nat.max_assoc]
theorem depthL_take (l : List Tm) (k : Nat) (h : k < l.length) : depthL (l.take (k + 1)) = max (depthL (l.take k)) l[k].depth := by
  rw [List.take_succ_eq_append_getElem h, depthL_append]; simp [depthL]
theorem depthL_le_sizeL {l : List Tm} (h : ∀ a ∈ l, a.depth ≤ a.size) : depthL l ≤ sizeL l := by
  induction l with
  | nil => simp [depthL]
  | cons t r ih =>
    have h1 := h t (by simp)
    have h2 := ih fun a ha => h a (by simp [ha])
    simp [depthL, sizeL]; omega
theorem depth_le_size : ∀ t : Tm, t.depth ≤ t.size := ind fun t ih => by
  have := depthL_le_sizeL ih
  rw [depth_eq, size_eq]; omega
theorem depthL_mem : ∀ {l : List Tm} {a : Tm}, a ∈ l → a.depth ≤ depthL l
  | t :: r, a, h => by
    simp only [depthL]
    rcases List.mem_cons.1 h with rfl | h
    · omega
    · have := depthL_mem h; omega
theorem formedL_eq : ∀ (l : List Tm), formedL l = l.all formed
  | [] => rfl
  | t :: r => by simp [formedL, formedL_eq r]
theorem formed_eq : ∀ t : Tm, t.formed = if t.var then nameOk t.name false && t.args.isEmpty else nameOk t.name true && decide (t.args.length ≤ 8) && t.args.all formed
  | mk n v xs => by
    simp only [formed, name, var, args, formedL_eq]
    try rfl
def check (t : Tm) : Int := if t.formed then (if t.size ≤ 4000 ∧ t.depth ≤ 200 then 0 else 3) else 4
def checkAll : List Tm → Int
  | [] => 0
  | t :: r => if t.check = 0 then checkAll r else t.check
theorem check_zero {t : Tm} : t.check = 0 ↔ t.formed = true ∧ t.size ≤ 4000 ∧ t.depth ≤ 200 := by
  unfold check
  cases t.formed with
  | false => simp
  | true => by_cases h : t.size ≤ 4000 ∧ t.depth ≤ 200 <;> simp [h]
theorem checkAll_zero : ∀ {l : List Tm}, checkAll l = 0 ↔ ∀ t ∈ l, t.check = 0
  | [] => by simp [checkAll]
  | t :: r => by
    simp only [checkAll]
    by_cases h : t.check = 0
    · simp [h, checkAll_zero (l := r)]
    · simp [h]
def cmpI (a b : Int) : Int := if a < b then -1 else if b < a then 1 else 0
mutual
def cmp : Tm → Tm → Int
  | mk n v xs, mk m w ys =>
    if v ≠ w then (if v then -1 else 1)
    else if cmpN n m ≠ 0 then cmpN n m
    else if cmpI xs.length ys.length ≠ 0 then cmpI xs.length ys.length
    else cmpL xs ys
def cmpL : List Tm → List Tm → Int
  | t :: r, s :: q => if cmp t s ≠ 0 then cmp t s else cmpL r q
  | _, _ => 0
end
theorem cmp_eq : ∀ a b : Tm, cmp a b = if a.var ≠ b.var then (if a.var then -1 else 1)
    else if cmpN a.name b.name ≠ 0 then cmpN a.name b.name
    else if cmpI a.args.length b.args.length ≠ 0 then cmpI a.args.length b.args.length
    else cmpL a.args b.args
  | mk _ _ _, mk _ _ _ => rfl
theorem cmpI_zero {a b : Int} : cmpI a b = 0 ↔ a = b := by unfold cmpI; split <;> (try split) <;> omega
theorem cmpL_zero : ∀ {l r : List Tm}, l.length = r.length → (∀ a ∈ l, ∀ b, cmp a b = 0 ↔ a = b) → (cmpL l r = 0 ↔ l = r)
  | [], [], _, _ => by simp [cmpL]
  | [], _ :: _, h, _ => by simp at h
  | _ :: _, [], h, _ => by simp at h
  | t :: l, s :: r, h, ih => by
    have h1 := ih t (by simp) s
    have h2 := cmpL_zero (l := l) (r := r) (by simpa using h) fun a ha => ih a (by simp [ha])
    simp only [cmpL]
    by_cases h3 : cmp t s = 0
    · rw [if_neg (by simp [h3]), h2]
      have := h1.1 h3
      subst this
      simp
    · simp [h3]
      intro h4; exact absurd (h1.2 h4) h3
theorem cmp_zero : ∀ {a b : Tm}, cmp a b = 0 ↔ a = b := fun {a b} => ind (p := fun a => ∀ b, cmp a b = 0 ↔ a = b) (fun a ih b => by
  rw [cmp_eq]
  by_cases h1 : a.var = b.var
  · rw [if_neg (by simp [h1])]
    by_cases h2 : cmpN a.name b.name = 0
    · rw [if_neg (by simp [h2])]
      by_cases h3 : cmpI a.args.length b.args.length = 0
      · rw [if_neg (by simp [h3])]
        have h4 := cmpI_zero.1 h3
        rw [cmpL_zero (by omega) ih]
        exact ⟨fun h => ext (cmpN_zero.1 h2) h1 h, fun h => by rw [h]⟩
      · rw [if_pos h3]
        exact ⟨fun h => absurd h h3, fun h => by rw [h] at h3; exact absurd (cmpI_zero.2 rfl) h3⟩
    · rw [if_pos h2]
      exact ⟨fun h => absurd h h2, fun h => by rw [h] at h2; exact absurd (cmpN_self _) h2⟩
  · rw [if_pos h1]
    constructor
    · intro h; exfalso; revert h; cases a.var <;> simp
    · intro h; exact absurd (by rw [h]) h1) a b
def eqB (a b : Tm) : Bool := decide (cmp a b = 0)
theorem eqB_iff {a b : Tm} : eqB a b = true ↔ a = b := by unfold eqB; rw [decide_eq_true_iff, cmp_zero]
theorem eqB_false {a b : Tm} : eqB a b = false ↔ a ≠ b := by rw [← Bool.not_eq_true, eqB_iff]
end Tm
abbrev tD (t : Tm) : D := .agg [.v .str (.s t.name), .v .bool (.b t.var), .v (.sl t_Term) (.l (Tm.encL t.args))]
abbrev tsD (l : List Tm) : D := .v (.sl t_Term) (.l (Tm.encL l))
end Go.Proofs.Ytgohjdaepcmonaa
