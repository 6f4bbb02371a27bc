/-
  Texts WalkR, WalkB, VarZ, SysA, SysB, SymA, SymB, R01H, NamO, R08D, PlyA, PlyB, PolU, PlyC, PlyD, R08E, R08F, PlyE, R08G, PlyF of this proof, joined.
-/
import Derived.Shelf.Slices.Clone
import Derived.RangeFuncNested
import Derived.RangeFuncBound
import Derived.RangeFuncCalls
import Derived.RangeFuncLeaves
import Derived.Shelf.Abstract
import Derived.Shelf.RegionOpen
import Derived.WalkKit
import Derived.OwnWalkIn
import Derived.TacticsInMore
import Derived.LoopNIn
import Derived.LoopIn
import Derived.StillTail
import Derived.Test.YthhnadeoioeniaaGreatP11
set_option linter.unusedVariables false
namespace Go.Proofs.YthhnadeoioeniaaGreat
open Go Go.Abs Go.Proofs Go.RowKit Go.Shelf
abbrev ops6 : Array Oper := #[
        { dst := some 22, op := Op.load 25 (Operand.tmp 8), type := 25, pos := "term.go:129", «after» := #[],
          guard := none },
        { dst := some 23, op := Op.move (Operand.tmp 1), type := 60, pos := "term.go:129", «after» := #[],
          guard := none },
        { dst := some 24,
          op := Op.call { callee := Callee.value (Operand.func 171), args := #[Operand.tmp 23], argTypes := #[60] },
          type := 60, pos := "term.go:129", «after» := #[{ on := 1, ground := Ground.data }], guard := none },
        { dst := some 25, op := Op.move (Operand.tmp 7), type := 3, pos := "term.go:129", «after» := #[], guard := none },
        { dst := some 26, op := Op.buildSlice 60 1 #[(0, Operand.tmp 25)], type := 60, pos := "term.go:129",
          «after» := #[{ on := 3, ground := Ground.data }], guard := none },
        { dst := some 27,
          op :=
            Op.call
              { callee := Callee.builtin Builtin.append, args := #[Operand.tmp 24, Operand.tmp 26],
                argTypes := #[60, 60] },
          type := 60, pos := "term.go:129",
          «after» :=
            #[{ on := 2, ground := Ground.data }, { on := 4, ground := Ground.data },
              { on := 2, ground := Ground.chain }],
          guard := none },
        { dst := some 28, op := Op.move (Operand.tmp 2), type := 176, pos := "term.go:129", «after» := #[],
          guard := none },
        { dst := some 29,
          op :=
            Op.call
              { callee := Callee.value (Operand.func 131), args := #[Operand.tmp 22, Operand.tmp 27, Operand.tmp 28],
                argTypes := #[25, 60, 176] },
          type := 4, pos := "term.go:129",
          «after» :=
            #[{ on := 0, ground := Ground.data }, { on := 5, ground := Ground.data },
              { on := 6, ground := Ground.data }, { on := 5, ground := Ground.chain }],
          guard := none },
        { dst := some 30, op := Op.unOp UnOp.not 4 (Operand.tmp 29), type := 4, pos := "term.go:129",
          «after» := #[{ on := 7, ground := Ground.data }], guard := none }]
def A6 (z : Nat → Value) (pv : Value) (l k bx : Nat) (x22 x23 x24 x25 x26 x27 x28 x29 x30 : Value) : Act :=
  { tmps := #[z 0, pv, .func (.yield l) #[] #[], z 3, z 4, z 5, z 6, .int .i64 k, .pointer (some ⟨bx, 0, none⟩), z 9, z 10, z 11, z 12, z 13, z 14, z 15, z 16, z 17, z 18, z 19, z 20, z 21, x22, x23, x24, x25, x26, x27, x28, x29, x30, z 31], defers := [] }
variable {Q:Exit→Act→World→Prop} {K:Act→World→Prop} {z:Nat→Value} {pv:Value} {l k bx:Nat} {x22 x23 x24 x25 x26 x27 x28 x29 x30:Value} {w:World}
theorem wpOp_of {P:Program} {ops:Array Oper} {i:Nat} {o:Oper} {a:Act} (ho:ops[i]?=some o) (hg:o.guard=none) (h:o.wp P a w K Q):wpOp P ops Q i K a w:=by
 unfold wpOp
 rw [ho]
 show (if Region.wanted o (yielded ops a.tmps) then _ else _)
 rw [if_pos (by simp [Region.wanted,hg])]
 exact .inl h
theorem s0 {v0 v1 v2:Value} (h0:w.heap[bx]?=some (.cells #[v0,v1,v2] 25 (0,0))) (h:K (A6 z pv l k bx (.agg #[v0,v1,v2]) x23 x24 x25 x26 x27 x28 x29 x30) w) :
  wpOp Tryz.prog ops6 Q 0 K (A6 z pv l k bx x22 x23 x24 x25 x26 x27 x28 x29 x30) w:=by
 have c0:w.cell? ⟨bx,0,none⟩=some v0:=by simp [World.cell?,h0]
 have c1:w.cell? ⟨bx,1,none⟩=some v1:=by simp [World.cell?,h0]
 have c2:w.cell? ⟨bx,2,none⟩=some v2:=by simp [World.cell?,h0]
 refine wpOp_of rfl rfl ?_
 unfold A6
 go_simp
 exact h
theorem s4 (h:∀ g w',w.grownBy w' none→w.heap.size≤g→w'.heap[g]?=some (.cells #[.int .i64 k] 3 (0,0))→K (A6 z pv l k bx x22 x23 x24 (.int .i64 k) (.slice (some ⟨g,0,none⟩) 1 1) x27 x28 x29 x30) w') :
  wpOp Tryz.prog ops6 Q 4 K (A6 z pv l k bx x22 x23 x24 (.int .i64 k) x26 x27 x28 x29 x30) w:=by
 refine wpOp_of rfl rfl ?_
 unfold A6
 go_simp
 exact h _ _ (World.grownBy_alloc w _ none) (Nat.le_refl _) Array.getElem?_push_size
def IntRow (W:World) (base:Nat) (v:Value) (n:Nat):Prop:=∃ zs:List Int,zs.length=n∧W.ownsRow base 3 1 v n (zs.map (Value.int .i64))
theorem clone_ok {n:Nat} (h:IntRow w 0 pv n) (hn:n≤1099511627776):Calls Tryz.prog 171 #[pv] w fun e w'=>∃ v',e=.returned v'∧IntRow w' w.heap.size v' n∧w.grownBy w' none:=by
 obtain ⟨zs,hz,hl,hrow⟩:=h
 rcases hrow with ⟨rfl,rfl⟩ | ⟨g,cap,cur,rfl,_,hh,hnc,hcm,hsz,htake⟩
 ·refine (Any.slices_Clone_int_nil laysNm215 0 0 w).mono ?_
  rintro e w' ⟨rfl,rfl⟩
  exact ⟨_,rfl,⟨zs,hz,hl,.inl ⟨rfl,rfl⟩⟩,⟨rfl,rfl,rfl,Nat.le_refl _,fun _ _ _=>rfl⟩⟩
 ·refine (Any.slices_Clone_int laysNm215 g 0 n cap zs w (by omega) (by omega) fun j hj=>?_).mono ?_
  ·have h1:(cur.toList.take (n*1))[j]?=some (Value.int .i64 (zs.getD j 0)):=by
    rw [htake,List.getElem?_map,List.getElem?_eq_getElem hj,List.getD_eq_getElem?_getD,List.getElem?_eq_getElem hj]; rfl
   rw [List.getElem?_take_of_lt (by omega)] at h1
   rw [Nat.zero_add]
   simpa [World.cell?,hh] using h1
  ·rintro e w' ⟨v',rfl,ho,_,hB⟩
   refine ⟨v',rfl,⟨zs.take n,by simp; omega,ho⟩,⟨hB.os,hB.tape,hB.output,hB.size,fun b hb _=>hB.block b hb⟩⟩
theorem s2 {n:Nat} (hp:IntRow w 0 pv n) (hn:n≤1099511627776) (h:∀ v' w',w.grownBy w' none→IntRow w' w.heap.size v' n→K (A6 z pv l k bx x22 pv v' x25 x26 x27 x28 x29 x30) w') :
  wpOp Tryz.prog ops6 Q 2 K (A6 z pv l k bx x22 pv x24 x25 x26 x27 x28 x29 x30) w:=by
 refine wpOp_of rfl rfl ?_
 unfold A6
 go_simp
 refine (clone_ok hp hn).mono ?_
 rintro e w' ⟨v',rfl,ho,hg⟩
 exact h v' w' hg ho
theorem info3:(Tryz.prog.info? 3).map (fun i=>(i.zero,i.size,i.bytes))=some (some (.int .i64 0),1,8):=by kernel_rfl
theorem und57:Tryz.prog.underlying 60=some (.slice 3):=by kernel_rfl
theorem s5 {n g base:Nat} {v:Value} (hv:IntRow w base v n) (hn:n≤1099511627776) (hg:w.heap[g]?=some (.cells #[.int .i64 k] 3 (0,0))) (hb:base≤w.heap.size)
  (h:∀ v' w',w.grownBy w' v.ownBlock→IntRow w' base v' (n+1)→K (A6 z pv l k bx x22 x23 v x25 (.slice (some ⟨g,0,none⟩) 1 1) v' x28 x29 x30) w') :
  wpOp Tryz.prog ops6 Q 5 K (A6 z pv l k bx x22 x23 v x25 (.slice (some ⟨g,0,none⟩) 1 1) x27 x28 x29 x30) w:=by
 obtain ⟨zs,hz,hown⟩:=hv
 obtain ⟨i0,hi,hz0,hz1,hz2⟩:=info_parts info3
 obtain ⟨v',w',hr,hown',hgr,_,_⟩:=run_append_own_at (P:=Tryz.prog) (w:=w) base 60 60 3 i0 (.int .i64 0) 1 8 und57 hi hz0 hz1 hz2 rfl (by decide) v n _ hown ⟨g,0,none⟩ 1 1 [.int .i64 k] rfl (fun j u hj=>by
   match j with
   | 0=>simp at hj; subst hj; simp [Addr.add,World.cell?,hg]
   | j+1=>simp at hj) (by simp [Value.oneCell']) (by unfold maxLen; omega) (by omega) hb
 refine wpOp_of rfl rfl ?_
 have hx:(execOp (A6 z pv l k bx x22 x23 v x25 (.slice (some ⟨g,0,none⟩) 1 1) x27 x28 x29 x30).eval ops6[5]).run Tryz.prog w=.ok (.value v') w':=by
  simp [execOp,resolve,invoke,builtin,hr,Result.andThen,A6,Act.eval]
 unfold Oper.wp
 rw [hx]
 exact h v' w' hgr ⟨zs++[(k:Int)],by simp [hz],by simpa using hown'⟩
theorem s7 (hc:Calls Tryz.prog 131 #[x22,x27,.func (.yield l) #[] #[]] w fun e w'=>∃ b:Bool,e=.returned (.bool b)∧Q .normal (A6 z pv l k bx x22 x23 x24 x25 x26 x27 (.func (.yield l) #[] #[]) (.bool b) (.bool !b)) w') :
  wpList Tryz.prog ops6 Q [ops6[7],ops6[8]] (A6 z pv l k bx x22 x23 x24 x25 x26 x27 (.func (.yield l) #[] #[]) x29 x30) w:=by
 unfold A6
 go_wp2_with (go_at_call 131; refine hc.mono ?_; rintro e w' ⟨b,rfl,hK⟩)
 exact hK
theorem IntRow.grown {W W':World} {base n:Nat} {v:Value} {row:Option Nat} (h:IntRow W base v n) (hg:W.grownBy W' row) (hb:∀ b,v.ownBlock=some b→some b≠row):IntRow W' base v n:=by
 obtain ⟨zs,hz,hl,hr⟩:=h
 refine ⟨zs,hz,hl,?_⟩
 rcases hr with hr | ⟨g,cap,cur,rfl,h1,hh,h2⟩
 ·exact .inl hr
 ·exact .inr ⟨g,cap,cur,rfl,h1,(hg.block g (Array.getElem?_eq_some_iff.1 hh).1 (hb g rfl)).trans hh,h2⟩
theorem IntRow.block {W:World} {base n:Nat} {v:Value} (h:IntRow W base v n) {b:Nat} (hb:v.ownBlock=some b):base≤b∧b<W.heap.size:=by
 obtain ⟨zs,hz,hl,hr⟩:=h
 rcases hr with ⟨rfl,_⟩ | ⟨g,cap,cur,rfl,h1,hh,h2⟩
 ·cases hb
 ·cases hb; exact ⟨h1,(Array.getElem?_eq_some_iff.1 hh).1⟩
theorem IntRow.base {W:World} {base base' n:Nat} {v:Value} (h:IntRow W base v n) (hb:base'≤base):IntRow W base' v n:=by
 obtain ⟨zs,hz,hl,hr⟩:=h
 refine ⟨zs,hz,hl,?_⟩
 rcases hr with hr | ⟨g,cap,cur,rfl,h1,hh,h2⟩
 ·exact .inl hr
 ·exact .inr ⟨g,cap,cur,rfl,Nat.le_trans hb h1,hh,h2⟩
theorem draws {W:World} {n:Nat} {v0 v1 v2:Value} (hbox:W.heap[bx]?=some (.cells #[v0,v1,v2] 25 (0,0))) (hp:IntRow W 0 pv n) (hn:n≤1099511627776)
  (fin:∀ x24 x26 v' w,W.grownBy w none→IntRow w W.heap.size v' (n+1)→Calls Tryz.prog 131 #[.agg #[v0,v1,v2],v',.func (.yield l) #[] #[]] w fun e w'=>∃ b:Bool,e=.returned (.bool b)∧Q .normal (A6 z pv l k bx (.agg #[v0,v1,v2]) pv x24 (.int .i64 k) x26 v' (.func (.yield l) #[] #[]) (.bool b) (.bool !b)) w') :
  wpAny Tryz.prog .any ops6 Q 6 #[false,true,false,true,false,false,true,false,false] (A6 z pv l k bx x22 pv x24 (.int .i64 k) x26 x27 (.func (.yield l) #[] #[]) x29 x30) W:=by
 have g0:W.grownBy W none:=⟨rfl,rfl,rfl,Nat.le_refl _,fun _ _ _=>rfl⟩
 have tr:∀ {w w'},W.grownBy w none→w.grownBy w' none→W.grownBy w' none:=fun h h'=>⟨h'.os.trans h.os,h'.tape.trans h.tape,h'.output.trans h.output,Nat.le_trans h.size h'.size,fun b hb _=>(h'.block b (Nat.lt_of_lt_of_le hb h.size) (by simp)).trans (h.block b hb (by simp))⟩
 have tr2:∀ {w w' v},W.grownBy w none→w.grownBy w' (Value.ownBlock v)→(∀ b,v.ownBlock=some b→W.heap.size≤b)→W.grownBy w' none:=fun h h' hv=>⟨h'.os.trans h.os,h'.tape.trans h.tape,h'.output.trans h.output,Nat.le_trans h.size h'.size,fun b hb _=>(h'.block b (Nat.lt_of_lt_of_le hb h.size) (fun he=>by have:=hv b he.symm; omega)).trans (h.block b hb (by simp))⟩
 have box:∀ {w},W.grownBy w none→w.heap[bx]?=some (.cells #[v0,v1,v2] 25 (0,0)):=fun h=>(h.block bx (Array.getElem?_eq_some_iff.1 hbox).1 (by simp)).trans hbox
 have pos:∀ {w},W.grownBy w none→IntRow w 0 pv n:=fun h=>hp.grown h (by simp)
 have lit:∀ {w w':World} {g:Nat},w.grownBy w' none→w.heap[g]?=some (.cells #[.int .i64 k] 3 (0,0))→w'.heap[g]?=some (.cells #[.int .i64 k] 3 (0,0)):=fun h hg=>(h.block _ (Array.getElem?_eq_some_iff.1 hg).1 (by simp)).trans hg
 have d1111:∀ x24 x26 v' w x29 x30,W.grownBy w none→IntRow w W.heap.size v' (n+1)→wpAny Tryz.prog .any ops6 Q 2 #[true,true,true,true,true,true,true,false,false] (A6 z pv l k bx (.agg #[v0,v1,v2]) pv x24 (.int .i64 k) x26 v' (.func (.yield l) #[] #[]) x29 x30) w:=fun x24 x26 v' w x29 x30 hg hv=>by
  refine wpAny_of_seq [ops6[7],ops6[8]] 7 _ _ _ (fun j=>?_) (by kernel_rfl) (s7 (fin x24 x26 v' w hg hv))
  match j with
  | 0=>rfl
  | 1=>rfl
  | j+2 =>
   have:ops6[7+(j+2)]?=none:=Array.getElem?_eq_none (by show 9≤_; omega)
   rw [this]; rfl
 have d0111:∀ x22 x24 x26 v' w x29 x30,W.grownBy w none→IntRow w W.heap.size v' (n+1)→wpAny Tryz.prog .any ops6 Q 3 #[false,true,true,true,true,true,true,false,false] (A6 z pv l k bx x22 pv x24 (.int .i64 k) x26 v' (.func (.yield l) #[] #[]) x29 x30) w:=fun x22 x24 x26 v' w x29 x30 hg hv=>by
  refine wpAny_all (rs:=[0]) (by kernel_rfl) (by simp) ?_
  simp only [List.forall_mem_cons,List.not_mem_nil,false_imp_iff,implies_true,and_true]
  exact s0 (box hg) (d1111 x24 x26 v' w x29 x30 hg hv)
 have d1110:∀ x24 g x27 w x29 x30,W.grownBy w none→IntRow w W.heap.size x24 n→w.heap[g]?=some (.cells #[.int .i64 k] 3 (0,0))→wpAny Tryz.prog .any ops6 Q 3 #[true,true,true,true,true,false,true,false,false] (A6 z pv l k bx (.agg #[v0,v1,v2]) pv x24 (.int .i64 k) (.slice (some ⟨g,0,none⟩) 1 1) x27 (.func (.yield l) #[] #[]) x29 x30) w:=fun x24 g x27 w x29 x30 hg hv hl=>by
  refine wpAny_all (rs:=[5]) (by kernel_rfl) (by simp) ?_
  simp only [List.forall_mem_cons,List.not_mem_nil,false_imp_iff,implies_true,and_true]
  exact s5 hv hn hl hg.size fun v' w' hgr hv'=>d1111 _ _ v' w' _ _ (tr2 hg hgr fun b hb=>(hv.block hb).1) hv'
 have d0110:∀ x22 x24 g x27 w x29 x30,W.grownBy w none→IntRow w W.heap.size x24 n→w.heap[g]?=some (.cells #[.int .i64 k] 3 (0,0))→wpAny Tryz.prog .any ops6 Q 4 #[false,true,true,true,true,false,true,false,false] (A6 z pv l k bx x22 pv x24 (.int .i64 k) (.slice (some ⟨g,0,none⟩) 1 1) x27 (.func (.yield l) #[] #[]) x29 x30) w:=fun x22 x24 g x27 w x29 x30 hg hv hl=>by
  refine wpAny_all (rs:=[0,5]) (by kernel_rfl) (by simp) ?_
  simp only [List.forall_mem_cons,List.not_mem_nil,false_imp_iff,implies_true,and_true]
  exact ⟨s0 (box hg) (d1110 _ _ _ w _ _ hg hv hl),s5 hv hn hl hg.size fun v' w' hgr hv'=>d0111 _ _ _ v' w' _ _ (tr2 hg hgr fun b hb=>(hv.block hb).1) hv'⟩
 have d1100:∀ x24 x26 x27 w x29 x30,W.grownBy w none→IntRow w W.heap.size x24 n→wpAny Tryz.prog .any ops6 Q 4 #[true,true,true,true,false,false,true,false,false] (A6 z pv l k bx (.agg #[v0,v1,v2]) pv x24 (.int .i64 k) x26 x27 (.func (.yield l) #[] #[]) x29 x30) w:=fun x24 x26 x27 w x29 x30 hg hv=>by
  refine wpAny_all (rs:=[4]) (by kernel_rfl) (by simp) ?_
  simp only [List.forall_mem_cons,List.not_mem_nil,false_imp_iff,implies_true,and_true]
  exact s4 fun g w' hgr _ hl=>d1110 _ _ _ w' _ _ (tr hg hgr) (hv.grown hgr (by simp)) hl
 have d1010:∀ x24 g x27 w x29 x30,W.grownBy w none→w.heap[g]?=some (.cells #[.int .i64 k] 3 (0,0))→wpAny Tryz.prog .any ops6 Q 4 #[true,true,false,true,true,false,true,false,false] (A6 z pv l k bx (.agg #[v0,v1,v2]) pv x24 (.int .i64 k) (.slice (some ⟨g,0,none⟩) 1 1) x27 (.func (.yield l) #[] #[]) x29 x30) w:=fun x24 g x27 w x29 x30 hg hl=>by
  refine wpAny_all (rs:=[2]) (by kernel_rfl) (by simp) ?_
  simp only [List.forall_mem_cons,List.not_mem_nil,false_imp_iff,implies_true,and_true]
  exact s2 (pos hg) hn fun v' w' hgr hv=>d1110 _ _ _ w' _ _ (tr hg hgr) (hv.base hg.size) (lit hgr hl)
 have d0100:∀ x22 x24 x26 x27 w x29 x30,W.grownBy w none→IntRow w W.heap.size x24 n→wpAny Tryz.prog .any ops6 Q 5 #[false,true,true,true,false,false,true,false,false] (A6 z pv l k bx x22 pv x24 (.int .i64 k) x26 x27 (.func (.yield l) #[] #[]) x29 x30) w:=fun x22 x24 x26 x27 w x29 x30 hg hv=>by
  refine wpAny_all (rs:=[0,4]) (by kernel_rfl) (by simp) ?_
  simp only [List.forall_mem_cons,List.not_mem_nil,false_imp_iff,implies_true,and_true]
  exact ⟨s0 (box hg) (d1100 _ _ _ w _ _ hg hv),s4 fun g w' hgr _ hl=>d0110 _ _ _ _ w' _ _ (tr hg hgr) (hv.grown hgr (by simp)) hl⟩
 have d0010:∀ x22 x24 g x27 w x29 x30,W.grownBy w none→w.heap[g]?=some (.cells #[.int .i64 k] 3 (0,0))→wpAny Tryz.prog .any ops6 Q 5 #[false,true,false,true,true,false,true,false,false] (A6 z pv l k bx x22 pv x24 (.int .i64 k) (.slice (some ⟨g,0,none⟩) 1 1) x27 (.func (.yield l) #[] #[]) x29 x30) w:=fun x22 x24 g x27 w x29 x30 hg hl=>by
  refine wpAny_all (rs:=[0,2]) (by kernel_rfl) (by simp) ?_
  simp only [List.forall_mem_cons,List.not_mem_nil,false_imp_iff,implies_true,and_true]
  exact ⟨s0 (box hg) (d1010 _ _ _ w _ _ hg hl),s2 (pos hg) hn fun v' w' hgr hv=>d0110 _ _ _ _ w' _ _ (tr hg hgr) (hv.base hg.size) (lit hgr hl)⟩
 have d1000:∀ x24 x26 x27 w x29 x30,W.grownBy w none→wpAny Tryz.prog .any ops6 Q 5 #[true,true,false,true,false,false,true,false,false] (A6 z pv l k bx (.agg #[v0,v1,v2]) pv x24 (.int .i64 k) x26 x27 (.func (.yield l) #[] #[]) x29 x30) w:=fun x24 x26 x27 w x29 x30 hg=>by
  refine wpAny_all (rs:=[2,4]) (by kernel_rfl) (by simp) ?_
  simp only [List.forall_mem_cons,List.not_mem_nil,false_imp_iff,implies_true,and_true]
  exact ⟨s2 (pos hg) hn fun v' w' hgr hv=>d1100 _ _ _ w' _ _ (tr hg hgr) (hv.base hg.size),s4 fun g w' hgr _ hl=>d1010 _ _ _ w' _ _ (tr hg hgr) hl⟩
 refine wpAny_all (rs:=[0,2,4]) (by kernel_rfl) (by simp) ?_
 simp only [List.forall_mem_cons,List.not_mem_nil,false_imp_iff,implies_true,and_true]
 exact ⟨s0 (box g0) (d1000 _ _ _ W _ _ g0),s2 (pos g0) hn fun v' w' hgr hv=>d0100 _ _ _ _ w' _ _ (tr g0 hgr) (hv.base g0.size),s4 fun g w' hgr _ hl=>d0010 _ _ _ _ w' _ _ (tr g0 hgr) hl⟩
theorem draws9 {W:World} {n:Nat} {v0 v1 v2:Value} (hQ:∀ c a w,¬ Q (.panic c) a w) (hbox:W.heap[bx]?=some (.cells #[v0,v1,v2] 25 (0,0))) (hp:IntRow W 0 pv n) (hn:n≤1099511627776)
  (fin:∀ x24 x26 v' w,W.grownBy w none→IntRow w W.heap.size v' (n+1)→Calls Tryz.prog 131 #[.agg #[v0,v1,v2],v',.func (.yield l) #[] #[]] w fun e w'=>∃ b:Bool,e=.returned (.bool b)∧Q .normal (A6 z pv l k bx (.agg #[v0,v1,v2]) pv x24 (.int .i64 k) x26 v' (.func (.yield l) #[] #[]) (.bool b) (.bool !b)) w') :
  wpAny Tryz.prog .any ops6 Q ops6.size (Array.replicate ops6.size false) (A6 z pv l k bx x22 x23 x24 x25 x26 x27 x28 x29 x30) W:=by
 refine wpAny_take (i:=1) (oi:=ops6[1]) (v:=pv) rfl (by kernel_rfl) (by kernel_rfl) (by kernel_rfl) (fun c a w h=>absurd h (hQ _ _ _)) (.inl ⟨rfl,fun w=>rfl⟩) ?_
 refine wpAny_take (i:=3) (oi:=ops6[3]) (v:=.int .i64 k) rfl (by kernel_rfl) (by kernel_rfl) (by kernel_rfl) (fun c a w h=>absurd h (hQ _ _ _)) (.inl ⟨rfl,fun w=>rfl⟩) ?_
 refine wpAny_take (i:=6) (oi:=ops6[6]) (v:=.func (.yield l) #[] #[]) rfl (by kernel_rfl) (by kernel_rfl) (by kernel_rfl) (fun c a w h=>absurd h (hQ _ _ _)) (.inl ⟨rfl,fun w=>rfl⟩) ?_
 exact draws hbox hp hn fin
end Go.Proofs.YthhnadeoioeniaaGreat
namespace Go.Proofs.YthhnadeoioeniaaGreat
open Go Go.Abs Go.Proofs Go.RowKit Go.Shelf
attribute [local go_sem] Oper.semAt_some
theorem IntRow.same {W W':World} {base n:Nat} {v:Value} (h:IntRow W base v n) (hs:∀ b,v.ownBlock=some b→W'.heap[b]?=W.heap[b]?):IntRow W' base v n:=by
 obtain ⟨zs,hz,hl,hr⟩:=h
 refine ⟨zs,hz,hl,?_⟩
 rcases hr with hr | ⟨g,cap,cur,rfl,h1,hh,h2⟩
 ·exact .inl hr
 ·exact .inr ⟨g,cap,cur,rfl,h1,(hs g rfl).trans hh,h2⟩
theorem wrap_step (k m:Nat) (hk:k<m) (hm:m≤1099511627776):wrap64 ((k:Int)+1)=((k+1:Nat):Int)∧m - (intOf (.int .i64 (wrap64 ((k:Int)+1)))).toNat<m - (intOf (.int .i64 (k:Int))).toNat:=by
 have h:wrap64 ((k:Int)+1)=((k+1:Nat):Int):=by
  unfold wrap64
  omega
 refine ⟨h,?_⟩
 rw [h]
 show m - ((k+1:Nat):Int).toNat<m - ((k:Nat):Int).toNat
 rw [Int.toNat_natCast,Int.toNat_natCast]
 omega
structure YEnv (S:Sig) (l:Nat) (J:List (List V)→(Nat→Prop)→World→Prop) (Jx:World→Prop):Prop where
 at_:∀ xs R W,J xs R W→(∀ b,S.F b→W.heap[b]?=S.w.heap[b]?)∧∀ b,R b→b<W.heap.size
 grow:∀ xs R W W',J xs R W→W.grownBy W' none→J xs (fun b=>R b∨(W.heap.size≤b∧b<W'.heap.size)) W'
 yield:∀ xs x R W (args:List Value),J (x::xs) R W→args.length=(rowA ZG x).length→(∀ j,RepD (lfs tab) { S with w:=W } ((rowA ZG x).getD j .undef) (args.getD j undef)) →
  YieldAt Fence.wide 0 Tryz.prog l args.toArray W fun e W'=>(e=.returned (.bool true)∧J xs R W'∧∀ b,R b→W'.heap[b]?=W.heap[b]?)∨(e=.returned (.bool false)∧Jx W')
theorem RepD.at {S:Sig} {W:World} (hF:∀ b,S.F b→W.heap[b]?=S.w.heap[b]?) {d:D} {v:Value} (h:RepD (lfs tab) S d v):RepD (lfs tab) { S with w:=W } d v :=
 RepD.mono (S:=S) (S':={ S with w:=W }) (Nat.le_refl _) (fun _ h=>h) hF (p:=fun _=>false) (fun r _ _=>.refl rfl rfl) (anyR_false d) h
theorem walk_row (x:Tm×Nat):rowA ZG (encW x)=[.ln x.2,tD x.1]:=rfl
theorem IntRow.slice {W:World} {base n:Nat} {v:Value} (h:IntRow W base v n) (hn:n≤1099511627776) (S:Sig):RepD (lfs tab) S (.ln n) v:=by
 obtain ⟨zs,hz,hl,hr⟩:=h
 have hb:n≤big:=by unfold big; omega
 rcases hr with ⟨rfl,h0⟩ | ⟨g,cap,cur,rfl,_⟩
 ·subst h0
  exact .ln _ _ _ hb
 ·exact .ln n (some ⟨g,0,none⟩) cap hb
theorem YEnv.at_yield {S:Sig} {l:Nat} {J:List (List V)→(Nat→Prop)→World→Prop} {Jx:World→Prop} (E:YEnv S l J Jx) {t:Tm} {n:Nat} {xs:List (List V)} {R:Nat→Prop} {W:World} (hJ:J (encW (t,n)::xs) R W) {tv pv:Value} (ht:RepD (lfs tab) S (tD t) tv) (hpv:∀ S,RepD (lfs tab) S (.ln n) pv) :
  YieldAt Fence.wide 0 Tryz.prog l #[pv,tv] W fun e W'=>(e=.returned (.bool true)∧J xs R W'∧∀ b,R b→W'.heap[b]?=W.heap[b]?)∨(e=.returned (.bool false)∧Jx W'):=by
 refine E.yield xs (encW (t,n)) R W [pv,tv] hJ (by rw [walk_row]; rfl) fun j=>?_
 rw [walk_row]
 match j with
 | 0=>exact hpv _
 | 1=>exact RepD.at (E.at_ _ _ _ hJ).1 ht
 | j+2=>exact .undef _
set_option maxRecDepth 100000 in
theorem walk_ok {S:Sig} {l:Nat} {J:List (List V)→(Nat→Prop)→World→Prop} {Jx:World→Prop} (E:YEnv S l J Jx):∀ (t:Tm) (rest:List (List V)) (R:Nat→Prop) (W:World) (tv pv:Value) (n:Nat),
  RepD (lfs tab) S (tD t) tv→IntRow W 0 pv n→(∀ b,pv.ownBlock=some b→R b)→n+t.size≤1099511627776→J (((t.preD n).map encW)++rest) R W →
  CallsIn Fence.wide 0 Tryz.prog 131 #[tv,pv,.func (.yield l) #[] #[]] W fun e W' =>
   (e=.returned (.bool true)∧∃ R':Nat→Prop,(∀ b,R b→R' b)∧(∀ b,R b→W'.heap[b]?=W.heap[b]?)∧J rest R' W')∨(e=.returned (.bool false)∧Jx W'):=by
 refine Tm.ind fun t ih=>?_
 intro rest R W tv pv n ht hp hpR hn hJ
 obtain ⟨u,rfl,hu,hs⟩:=tm_inv ht
 obtain ⟨a,c,rfl,harg⟩:=args_inv hu
 refine callsIn_of_wp Tryz.func131 rfl trivial ?_ rfl
 simp only [Tryz.ntmps131,List.size_toArray,List.length_cons,List.length_nil,Nat.reduceAdd,Nat.reduceSub,Array.replicate_succ,Array.replicate_zero,List.push_toArray,List.append_toArray,List.nil_append,List.cons_append]
 have hJ1:=E.grow _ _ _ _ hJ (World.grownBy_alloc W (.cells #[.string t.name,.bool t.var,.slice a t.args.length c] 25) none)
 rw [Tm.preD_eq] at hJ1
 obtain ⟨fn,tmps,assign,body,hy,hR⟩:=E.at_yield (t:=t) (n:=n) (pv:=pv) hJ1 ht (hp.slice (by omega))
 gi_wp2
 refine ⟨rfl,hR.mono ?_⟩
 rintro e W2 (⟨rfl,hJ2,hk2⟩ | ⟨rfl,hx2⟩)
 rotate_left
 ·gi_wp2
  go_ret
  exact .inr ⟨rfl,hx2⟩
 have hb2:W2.heap[W.heap.size]?=some (.cells #[.string t.name,.bool t.var,.slice a t.args.length c] 25 (0,0)):=by
  rw [hk2 _ (.inr ⟨Nat.le_refl _,by simp⟩)]
  exact Array.getElem?_push_size
 have hc2:W2.cell? ⟨W.heap.size,2,none⟩=some (.slice a t.args.length c):=by simp [World.cell?,hb2]
 gi_wp2
 gi_loopw [17] (fun i wr=>∃ (k:Nat) (R':Nat→Prop),i=.int .i64 k∧k≤t.args.length∧(∀ b,R b→R' b)∧R' W.heap.size∧(∀ b,(R b∨b=W.heap.size)→wr.heap[b]?=W2.heap[b]?)∧J ((Tm.preDL (n+1) (t.args.drop k)).map encW++rest) R' wr) (fun i wr=>t.args.length - (intOf i).toNat)
 case atStart =>
  exact ⟨0,_,rfl,Nat.zero_le _,fun b h=>.inl h,.inr ⟨Nat.le_refl _,by simp⟩,fun _ _=>rfl,hJ2⟩
 case round =>
  obtain ⟨k,R',rfl,hk,hR',hbox,hold,hJk⟩:=hrel
  by_cases hlt:k<t.args.length
  ·rcases harg with hnil | ⟨b,off,us,rfl,hFb,hcells⟩
   ·rw [hnil] at hlt; simp at hlt
   obtain ⟨hcell,hta⟩:=hcells k hlt
   have hold2:wr.heap[b]?=S.w.heap[b]?:=(E.at_ _ _ _ hJk).1 b hFb
   have hcw:∀ j,j<3→wr.cell? ⟨b,off+(k*3+j),none⟩=some (us k j):=fun j hj=>by
    rw [← hcell j hj]; exact World.cell?_of_block hold2
   have q0:=hcw 0 (by omega)
   have q1:=hcw 1 (by omega)
   have q2:=hcw 2 (by omega)
   rw [Nat.add_zero] at q0
   rw [← Nat.add_assoc] at q1 q2
   obtain ⟨u',he,hu',_⟩:=tm_inv hta
   obtain ⟨a',c',rfl,_⟩:=args_inv hu'
   obtain ⟨g0,g1,g2⟩:us k 0=.string t.args[k].name∧us k 1=.bool t.args[k].var∧us k 2=.slice a' t.args[k].args.length c':=by
    simpa using he
   rw [g0] at q0
   rw [g1] at q1
   rw [g2] at q2
   rw [he] at hta
   have hin:t.args[k]∈t.args:=List.getElem_mem hlt
   have hsub:t.args[k].size<t.size:=Tm.size_mem hin
   have ihk:=ih _ hin
   have hdrop:t.args.drop k=t.args[k]::t.args.drop (k+1):=List.drop_eq_getElem_cons hlt
   rw [hdrop] at hJk
   generalize t.args[k]=s at q0 q1 q2 hta hsub ihk hJk
   gi_wp2
   have hg3:=World.grownBy_alloc wr (.cells #[.string s.name,.bool s.var,.slice a' s.args.length c'] 25) none
   have hb3:(wr.alloc (.cells #[.string s.name,.bool s.var,.slice a' s.args.length c'] 25)).heap[wr.heap.size]?=some (.cells #[.string s.name,.bool s.var,.slice a' s.args.length c'] 25 (0,0)):=Array.getElem?_push_size
   generalize wr.alloc (.cells #[.string s.name,.bool s.var,.slice a' s.args.length c'] 25)=W3 at hg3 hb3 ⊢
   have hs3:wr.heap.size<W3.heap.size:=(Array.getElem?_eq_some_iff.1 hb3).1
   have old:∀ b,(R b∨b=W.heap.size)→wr.heap[b]?=W2.heap[b]?:=hold
   have hpw:IntRow wr 0 pv n:=hp.same fun b hb=>(hold b (.inl (hpR b hb))).trans ((hk2 b (.inl (hpR b hb))).trans ((World.grownBy_alloc W _ none).block b ((E.at_ _ _ _ hJ).2 b (hpR b hb)) (by simp)))
   refine wpIn_region_any (by kernel_rfl) ?_
   refine anyIn (ro:=none) ?_ (.inl rfl) _ _ _ _ ?_
   ·rintro ⟨a,w,h⟩
    rcases h with ⟨h,_⟩ | ⟨h,_⟩ <;> cases h
   have hgd:wr.grownBy { W3 with drawn:=W3.drawn+1 } none:=⟨hg3.os,hg3.tape,hg3.output,hg3.size,hg3.block⟩
   have hbd:({ W3 with drawn:=W3.drawn+1 }:World).heap[wr.heap.size]?=some (.cells #[.string s.name,.bool s.var,.slice a' s.args.length c'] 25 (0,0)):=hb3
   generalize ({ W3 with drawn:=W3.drawn+1 }:World)=Wd at hgd hbd ⊢
   refine draws9 (n:=n) (z:=fun j=>match j with
    | 0=>.agg #[.string t.name,.bool t.var,.slice (some ⟨b,off,none⟩) t.args.length c]
    | 3=>.pointer (some ⟨W.heap.size,0,none⟩)
    | 6=>u6
    | 9=>.func (.yield l) #[] #[]
    | 10=>pv
    | 11=>.agg #[.string t.name,.bool t.var,.slice (some ⟨b,off,none⟩) t.args.length c]
    | 12=>.bool true
    | 13=>.bool false
    | 14=>.pointer (some ⟨W.heap.size,2,none⟩)
    | 15=>.slice (some ⟨b,off,none⟩) t.args.length c
    | 16=>.int .i64 t.args.length
    | 17=>.int .i64 k
    | 18=>.bool true
    | 19=>.int .i64 k
    | 20=>.pointer (some ⟨b,off+k*3,none⟩)
    | 21=>.agg #[.string s.name,.bool s.var,.slice a' s.args.length c']
    | 31=>u31
    | _=>undef) ?_ hbd (hpw.grown hgd (by simp)) (by omega) ?_
   ·intro c a w h
    obtain ⟨_,h⟩:=h
    rcases h with ⟨h,_⟩ | ⟨h,_⟩ <;> cases h
   ·intro x24 x26 v' w hgw hv'
    have hgr:wr.grownBy w none:=⟨hgw.os.trans hgd.os,hgw.tape.trans hgd.tape,hgw.output.trans hgd.output,Nat.le_trans hgd.size hgw.size,fun b hb _=>(hgw.block b (Nat.lt_of_lt_of_le hb hgd.size) (by simp)).trans (hgd.block b hb (by simp))⟩
    have hJw:=E.grow _ _ _ _ hJk hgr
    have hJw2:J ((s.preD (n+1)).map encW++((Tm.preDL (n+1) (t.args.drop (k+1))).map encW++rest)) (fun b=>R' b∨(wr.heap.size≤b∧b<w.heap.size)) w:=by
     simpa [Tm.preDL,List.append_assoc] using hJw
    refine (callsIn_wide.1 (ihk _ _ _ _ v' (n+1) hta (hv'.base (Nat.zero_le _)) (fun b hb=>.inr ⟨Nat.le_trans hgd.size (hv'.block hb).1,(hv'.block hb).2⟩) (by omega) hJw2)).mono ?_
    rintro e w' (⟨rfl,R3,hR3,hk3,hJ3⟩ | ⟨rfl,hx3⟩)
    ·refine ⟨true,rfl,?_⟩
     unfold A6
     gi_wp2
     obtain ⟨hwrap,hms⟩:=wrap_step k t.args.length hlt (by have h1:=Tm.length_sizeL t.args; have h2:=Tm.size_eq t; omega)
     refine ⟨⟨k+1,R3,by rw [hwrap],hlt,fun b hb=>hR3 b (.inl (hR' b hb)),hR3 _ (.inl hbox),fun b hb=>?_,hJ3⟩,?_⟩
     ·have hbR':R' b:=by
       rcases hb with hb | rfl
       ·exact hR' b hb
       ·exact hbox
      exact (hk3 b (.inl hbR')).trans ((hgr.block b ((E.at_ _ _ _ hJk).2 b hbR') (by simp)).trans (hold b hb))
     ·exact hms
    ·refine ⟨false,rfl,?_⟩
     unfold A6
     gi_wp2
     go_ret
     exact .inr ⟨rfl,hx3⟩
  ·gi_wp2
   go_ret
   have hkl:k=t.args.length:=by omega
   subst hkl
   refine .inl ⟨rfl,R',hR',fun b hb=>(hold b (.inl hb)).trans ((hk2 b (.inl hb)).trans ?_),by simpa [Tm.preDL] using hJk⟩
   have:=(E.at_ _ _ _ hJ).2 b hb
   exact (World.grownBy_alloc W _ none).block b this (by simp)
set_option maxRecDepth 100000 in
theorem Walk_iter (t:Tm) (hn:t.size≤1099511627776):itA ZG [.elt Za t.enc 0] (rowsW t):=by
 suffices key:AIter Tryz.prog (lfs tab) (rowA ZG) ZG [.elt Za t.enc 0] (rowsW t) from key.b
 intro S us hwf hlen hrep hany l J Jx hat hgrow hyield h0
 obtain ⟨u,rfl⟩:∃ u,us=[u]:=by
  match us,hlen with
  | [u],_=>exact ⟨u,rfl⟩
 have hu:RepD (lfs tab) S (.elt Za t.enc 0) u:=hrep 0
 have E:YEnv S l J Jx:=⟨hat,hgrow,fun xs x R W args h1 h2 h3=>hyield xs x R W args h1 h2 h3⟩
 obtain ⟨b,o,ws,rfl,hF,hc,hk⟩:∃ b o,∃ ws:Nat→Value,u=.pointer (some ⟨b,o,none⟩)∧S.F b∧(∀ j,j<3→S.w.cell? ⟨b,o+j,none⟩=some (ws j))∧∀ j,j<3→RepK (lfs tab) S.w S.F ([K.str,.bool,.sl Za].getD j .oth) (t.enc.getD j V.none) (ws j):=by
  cases hu with
  | elt e cs off b o us h1 h2 h3 =>
   rw [term_lf] at h2 h3
   exact ⟨b,o,us,rfl,h1,h2,h3⟩
 have ht:RepD (lfs tab) S (tD t) (.agg #[ws 0,ws 1,ws 2]):=by
  refine .agg _ [ws 0,ws 1,ws 2] rfl fun j=>?_
  match j with
  | 0=>exact .v _ _ _ (by have:=hk 0 (by omega); rw [Tm.enc_eq] at this; exact this)
  | 1=>exact .v _ _ _ (by have:=hk 1 (by omega); rw [Tm.enc_eq] at this; exact this)
  | 2=>exact .v _ _ _ (by have:=hk 2 (by omega); rw [Tm.enc_eq] at this; exact this)
  | j+3=>exact .undef _
 have c0:=hc 0 (by omega)
 have c1:=hc 1 (by omega)
 have c2:=hc 2 (by omega)
 rw [Nat.add_zero] at c0
 have hw:=callsIn_wide.1 (walk_ok E t [] (fun _=>False) S.w _ (.slice none 0 0) 0 ht ⟨[],rfl,rfl,.inl ⟨rfl,rfl⟩⟩ (fun b h=>by cases h) (by omega) (by rw [List.append_nil]; exact h0))
 show Calls Tryz.prog 130 #[.func (.yield l) #[] #[],.pointer (some ⟨b,o,none⟩)] S.w _
 go_enter Tryz.func130,Tryz.ntmps130
 go_wp2_with (go_at_call 131; refine hw.mono ?_; rintro e W' (⟨rfl,R',_,_,hJ'⟩ | ⟨rfl,hx⟩))
 ·go_end0
  exact ⟨⟨_,rfl⟩,.inl ⟨R',hJ'⟩⟩
 ·go_end0
  exact ⟨⟨_,rfl⟩,.inr hx⟩
end Go.Proofs.YthhnadeoioeniaaGreat
set_option linter.unusedSimpArgs false
namespace Go.Proofs.YthhnadeoioeniaaGreat
open Go Go.Abs
theorem keyEqS (a c:ByteArray) (r:List V):keyEq [.str] [V.s a] (V.s c::r)=decide (a=c):=by
 have e:keyEq [.str] [V.s a] (V.s c::r)=(match a.toList == c.toList with | true=>true | false=>false):=rfl
 rw [e,ba_beq]; cases decide (a=c) <;> rfl
def keysB (l:List ByteArray):LL:=l.map fun x=>[V.s x,V.b true]
def addN (l:List ByteArray) (x:ByteArray):List ByteArray:=if hasN l x then l else l++[x]
theorem addN_in {l:List ByteArray} {x:ByteArray} (h:x∈l):addN l x=l:=by unfold addN; rw [if_pos (hasN_iff.2 h)]
theorem addN_out {l:List ByteArray} {x:ByteArray} (h:x ∉ l):addN l x=l++[x]:=by unfold addN; rw [hasN_false.2 h]; rfl
theorem mem_addN {l:List ByteArray} {x y:ByteArray}:y∈addN l x↔y∈l∨y=x:=by
 by_cases h:x∈l
 ·rw [addN_in h]
  exact ⟨.inl,fun h'=>h'.elim id fun e=>e▸h⟩
 ·rw [addN_out h]; simp
theorem nodup_addN {l:List ByteArray} {x:ByteArray} (h:l.Nodup):(addN l x).Nodup:=by
 by_cases hx:x∈l
 ·rw [addN_in hx]; exact h
 ·rw [addN_out hx]
  exact List.nodup_append.2 ⟨h,by simp,fun a ha b hb=>by simp at hb; rintro rfl; exact hx (hb▸ha)⟩
theorem mset_keysB (x:ByteArray):∀ l:List ByteArray,mset [.str] [V.s x] [V.b true] (keysB l)=keysB (addN l x)
 | []=>rfl
 | y::l=>by
  have e:keysB (y::l)=[V.s y,V.b true]::keysB l:=rfl
  rw [e,mset,keyEqS]
  by_cases h:x=y
  ·subst h
   rw [decide_eq_true rfl,addN_in (by simp)]; rfl
  ·rw [decide_eq_false h]
   show _::mset _ _ _ (keysB l)=_
   rw [mset_keysB x l]
   by_cases hx:x∈l
   ·rw [addN_in hx,addN_in (by simp [hx])]; rfl
   ·rw [addN_out hx,addN_out (by simp [h,hx])]; rfl
def varsIn (l:List Tm):List ByteArray:=(l.filter Tm.var).map Tm.name
theorem varsIn_append (l r:List Tm):varsIn (l++r)=varsIn l++varsIn r:=by simp [varsIn]
def sortW (ks:List ByteArray):List ByteArray:=(sortL (ks.map fun x=>x.data.toList)).map byL
theorem mem_sortW {ks:List ByteArray} {x:ByteArray}:x∈sortW ks↔x∈ks:=by
 unfold sortW sortL
 simp only [List.mem_map,List.mem_mergeSort]
 constructor
 ·rintro ⟨_,⟨y,hy,rfl⟩,rfl⟩
  rw [byL_data]; exact hy
 ·intro h
  exact ⟨_,⟨x,h,rfl⟩,byL_data x⟩
theorem term_Walk_ok (t:Tm) {Q:D→Heap→Prop} (hQ:Q (.fn ZG [.elt Za t.enc 0]) []):cl Zd7 [tD t] [] Q:=by
 refine ZmA _ _ _ _ ⟨trivial,?_⟩
 rw [Tm.enc_eq] at hQ
 exact hQ
theorem nodup_inj {ks:List ByteArray} (h:ks.Nodup):∀ {a b:Nat} (ha:a<ks.length) (hb:b<ks.length),ks[a]=ks[b]→a=b:=by
 intro a b ha hb he
 rcases Nat.lt_trichotomy a b with hab | hab | hab
 ·exact absurd he (List.pairwise_iff_getElem.1 h a b ha hb hab)
 ·exact hab
 ·exact absurd he.symm (List.pairwise_iff_getElem.1 h b a hb ha hab)
theorem preL_length:∀ l:List Tm,(Tm.preL l).length=Tm.sizeL l:=by
 have h:∀ t:Tm,t.pre.length=t.size:=Tm.ind fun t ih=>by
  rw [Tm.pre_eq,Tm.size_eq,List.length_cons]
  have:∀ l:List Tm,(∀ a∈l,a.pre.length=a.size)→(Tm.preL l).length=Tm.sizeL l:=by
   intro l hl
   induction l with
   | nil=>rfl
   | cons a r ihr=>simp only [Tm.preL,Tm.sizeL,List.length_append]; rw [hl a (by simp),ihr fun b hb=>hl b (by simp [hb])]
  rw [this _ ih]; omega
 intro l
 induction l with
 | nil=>rfl
 | cons a r ihr=>simp only [Tm.preL,Tm.sizeL,List.length_append]; rw [h a,ihr]
theorem pre_length (t:Tm):t.pre.length=t.size:=by rw [Tm.pre_eq,Tm.size_eq,List.length_cons,preL_length]; omega
theorem preL_append (l r:List Tm):Tm.preL (l++r)=Tm.preL l++Tm.preL r:=by simp [Tm.preL_eq]
theorem keysB_getD (ks:List ByteArray) (j:Nat) (hj:j<ks.length):(keysB ks).getD j []=[V.s (ks.getD j ByteArray.empty),V.b true]:=by
 unfold keysB
 rw [List.getD_eq_getElem?_getD,List.getElem?_map,List.getD_eq_getElem?_getD,List.getElem?_eq_getElem hj]; rfl
theorem VarsOf_ok (l:List Tm) (hs:Tm.sizeL l≤274877906944) {Q:D→Heap→Prop}
  (hQ:∀ ks:List ByteArray,ks.Nodup→(∀ x,x∈ks↔x∈varsIn (Tm.preL l))→Q (.v (.sl Zb) (.l ((sortW ks).map fun x=>[.s x]))) []):cl ZM [.v (.sl Za) (.l (Tm.encL l))] [] Q:=by
 refine ZlT _ _ fun _=>?_
 have hll:l.length≤274877906944:=Nat.le_trans (Tm.length_sizeL l) hs
 have last:∀ (ks:List ByteArray),ks.Nodup→ks.length≤Tm.sizeL l→(∀ x,x∈ks↔x∈varsIn (Tm.preL l))→∃ m2,ZbN Q m2 0 (keysB ks) (keysB ks).length [] []:=by
  intro ks hnd hkl hmem
  refine ZiR Q (fun n y m s row=>y=keysB ks∧m=ks.length∧n=s.length∧s.Nodup∧(∀ j∈s,j<ks.length)∧s.length≤ks.length∧row=(s.reverse.map fun j=>[V.s (ks.getD j ByteArray.empty)]))
   (fun n y m s row=>ks.length - s.length) ?_ 0 (keysB ks) (keysB ks).length [] [] ⟨rfl,by simp [keysB],rfl,List.nodup_nil,by simp,by simp,rfl⟩
  rintro n y m s row ⟨rfl,rfl,rfl,hsn,hsl,hle,rfl⟩ M ih
  refine ⟨by simp [keysB],fun hall=>?_,fun j hj hjs hlt=>⟨by simp [keysB],by simp,?_,?_⟩⟩
  ·have e:(s.reverse.map fun j=>[V.s (ks.getD j ByteArray.empty)])=(s.reverse.map fun j=>ks.getD j ByteArray.empty).map fun x=>[V.s x]:=by rw [List.map_map]; rfl
   rw [e]
   refine slices_Sort_ok (s.reverse.map fun j=>ks.getD j ByteArray.empty) s.length (by simp) (by unfold lim; omega) ⟨rfl,rfl,?_,?_⟩
   ·show s.length=(List.map _ _).length
    rw [List.length_map,sort_len]; simp
   ·have:=hQ (s.reverse.map fun j=>ks.getD j ByteArray.empty) ?_ ?_
    ·have e2:((sortW (s.reverse.map fun j=>ks.getD j ByteArray.empty)).map fun x=>[V.s x])=(sortL ((s.reverse.map fun j=>ks.getD j ByteArray.empty).map fun x=>x.data.toList)).map fun x=>[V.s (byL x)]:=by
      unfold sortW; rw [List.map_map]; rfl
     rw [e2] at this
     exact this
    ·refine List.pairwise_map.2 ((List.pairwise_reverse.2 (hsn.imp fun h=>Ne.symm h):s.reverse.Nodup).imp_of_mem fun {a b} ha hb hab he=>hab ?_)
     have ha':=hsl a (List.mem_reverse.1 ha)
     have hb':=hsl b (List.mem_reverse.1 hb)
     rw [List.getD_eq_getElem?_getD,List.getD_eq_getElem?_getD,List.getElem?_eq_getElem ha',List.getElem?_eq_getElem hb'] at he
     exact nodup_inj hnd ha' hb' he
    ·intro x
     rw [← hmem x,List.mem_map]
     constructor
     ·rintro ⟨j,hj,rfl⟩
      have hj':=hsl j (List.mem_reverse.1 hj)
      rw [List.getD_eq_getElem?_getD,List.getElem?_eq_getElem hj']
      exact List.getElem_mem hj'
     ·intro hx
      obtain ⟨j,hj,rfl⟩:=List.mem_iff_getElem.1 hx
      exact ⟨j,List.mem_reverse.2 (hall j hj),by rw [List.getD_eq_getElem?_getD,List.getElem?_eq_getElem hj]; rfl⟩
  ·show s.length+1≤lim
   unfold lim; omega
  ·refine ih _ _ _ _ _ ⟨rfl,rfl,rfl,List.nodup_cons.2 ⟨hjs,hsn⟩,?_,?_,?_⟩ ?_
   ·intro a ha
    rcases List.mem_cons.1 ha with rfl | ha
    ·exact hj
    ·exact hsl a ha
   ·show s.length+1≤_; omega
   ·rw [keysB_getD ks j hj,List.reverse_cons,List.map_append]; rfl
   ·show ks.length - (s.length+1)<ks.length - s.length
    omega
 refine ZiO Q (fun x n i y=>x=Tm.encL l∧n=(l.length:Int)∧∃ (k:Nat) (ks:List ByteArray),i=k∧k≤l.length∧y=keysB ks∧ks.Nodup∧ks.length≤Tm.sizeL (l.take k)∧∀ z,z∈ks↔z∈varsIn (Tm.preL (l.take k)))
  (fun x n i y=>(n - i).toNat) ?_ _ _ _ _ ⟨rfl,by rw [Tm.encL_length],0,[],rfl,Nat.zero_le _,rfl,List.nodup_nil,Nat.zero_le _,fun z=>by simp [Tm.preL,varsIn]⟩
 rintro x n i y ⟨rfl,rfl,k,ks,rfl,hk,rfl,hnd,hkl,hmem⟩ M ih
 unfold Zev
 refine iff_dec (fun hlt=>?_) (fun hge=>?_)
 ·have hlt':k<l.length:=by omega
  have hmem':l[k]∈l:=List.getElem_mem hlt'
  refine ⟨by omega,by rw [Tm.encL_length]; exact hlt,?_⟩
  rw [Int.toNat_natCast,Tm.encL_getD l k hlt',Tm.enc_eq]
  refine term_Walk_ok l[k] ⟨rfl,rfl,rowsW l[k],Walk_iter l[k] (by have:=Tm.sizeL_mem hmem'; omega),?_⟩
  refine ZiE Q M _ _ _ _ _ (fun rows q=>∃ ss ks',rows=ss.map encW∧q=keysB ks'∧ks'.Nodup∧ks'.length+ss.length≤Tm.sizeL (l.take k)+(l[k]).size∧∀ z,(z∈ks'∨z∈varsIn (ss.map Prod.fst))↔(z∈ks∨z∈varsIn (l[k]).pre)) ?_ ?_ _ _ ⟨(l[k]).preD 0,ks,rfl,rfl,hnd,by rw [← pre_length,← Tm.preD_fst _ 0,List.length_map]; omega,fun z=>by rw [Tm.preD_fst]⟩
  ·rintro r rs q ⟨ss,ks',hr,rfl,hnd',hl',hm'⟩ K hK
   cases ss with
   | nil=>simp at hr
   | cons a ss =>
    simp only [List.map_cons,List.cons.injEq] at hr
    obtain ⟨rfl,rfl⟩:=hr
    obtain ⟨a,d⟩:=a
    refine iff_intro (fun hv=>?_) (fun hv=>?_)
    ·refine hK _ ⟨ss,addN ks' a.name,rfl,mset_keysB a.name ks',nodup_addN hnd',?_,fun z=>?_⟩
     ·have:(addN ks' a.name).length≤ks'.length+1:=by
       by_cases h:a.name∈ks'
       ·rw [addN_in h]; omega
       ·rw [addN_out h]; simp
      simp only [List.length_cons] at hl'
      omega
     ·rw [← hm' z,mem_addN]
      have hv':a.var=true:=hv
      have:varsIn (((a,d)::ss).map Prod.fst)=a.name::varsIn (ss.map Prod.fst):=by simp [varsIn,hv']
      rw [this,List.mem_cons]
      constructor
      ·rintro ((h | h) | h)
       ·exact .inl h
       ·exact .inr (.inl h)
       ·exact .inr (.inr h)
      ·rintro (h | h | h)
       ·exact .inl (.inl h)
       ·exact .inl (.inr h)
       ·exact .inr h
    ·refine hK _ ⟨ss,ks',rfl,rfl,hnd',by simp only [List.length_cons] at hl'; omega,fun z=>?_⟩
     rw [← hm' z]
     have hv':a.var=false:=hv
     have:varsIn (((a,d)::ss).map Prod.fst)=varsIn (ss.map Prod.fst):=by simp [varsIn,hv']
     rw [this]
  ·rintro q ⟨ss,ks',hr,rfl,hnd',hl',hm'⟩
   have hss:ss=[]:=by simpa using hr.symm
   subst hss
   rw [wrap_next k (by unfold big; omega)]
   refine ih _ _ _ _ ⟨rfl,rfl,k+1,ks',rfl,hlt',rfl,hnd',?_,fun z=>?_⟩ ?_
   ·rw [Tm.sizeL_take l k hlt']; simpa using hl'
   ·have:=hm' z
    rw [List.take_succ_eq_append_getElem hlt',preL_append,varsIn_append,List.mem_append,← hmem z]
    have e:Tm.preL [l[k]]=(l[k]).pre:=by simp [Tm.preL]
    rw [e,← this]
    simp [varsIn]
   ·show ((l.length:Int) - ((k+1:Nat):Int)).toNat<((l.length:Int) - (k:Int)).toNat
    omega
 ·have hkl':k=l.length:=by omega
  subst hkl'
  rw [List.take_length] at hkl hmem
  exact last ks hnd hkl hmem
end Go.Proofs.YthhnadeoioeniaaGreat
namespace Go.Proofs.YthhnadeoioeniaaGreat
open Go Go.Abs
theorem term_CheckRules_ok (l:Ru) (hB:∀ x∈l,x.1.size≤small∧x.2.size≤small):Fn Zee [ruD l] (iD (rules l)):=fun Q hQ=>by
 refine Zjl _ _ fun hb=>?_
 have hl:=encRs_length l
 rw [hl] at hb ⊢
 unfold rules at hQ
 refine iff_dec (fun h=>⟨trivial,?_⟩) (fun h hb=>?_)
 ·rw [if_pos (by omega)] at hQ; exact hQ
 ·rw [if_neg (by omega)] at hQ
  refine ZfE Q _ _ hb (fun k=>∀ i (h:i<l.length),i<k→Tm.checkAll [(l[i]).1,(l[i]).2]=0) (fun k hk hJ K hK=>?_) (fun hJ=>?_) 0 (Nat.zero_le _) (fun i _ h=>by omega)
  ·simp only [encRs_getD _ k hk,List.drop_zero,List.headD_cons,List.tail_cons]
   have hm:=hB _ (List.getElem_mem hk)
   rw [show [[V.s (l[k]).1.name,V.b (l[k]).1.var,V.l (Tm.encL (l[k]).1.args)],[V.s (l[k]).2.name,V.b (l[k]).2.var,V.l (Tm.encL (l[k]).2.args)]]=Tm.encL [(l[k]).1,(l[k]).2] by simp [Tm.encL,Tm.enc_eq]]
   refine ⟨by omega,by omega,term_All_ok [(l[k]).1,(l[k]).2] (fun t ht=>?_) _ ⟨rfl,rfl,iff_bne (fun h2=>⟨trivial,?_⟩) (fun h2=>hK fun i hi hik=>?_)⟩⟩
   ·simp only [List.mem_cons,List.not_mem_nil,or_false] at ht
    rcases ht with rfl | rfl
    ·exact hm.1
    ·exact hm.2
   ·have h2:Tm.checkAll [(l[k]).1,(l[k]).2]≠0:=h2
    rw [rulesL_take hk (fun i hi=>hJ i (by omega) hi) h2] at hQ
    exact hQ
   ·rcases Nat.lt_succ_iff_lt_or_eq.1 hik with h8 | h8
    ·exact hJ i hi h8
    ·subst h8; exact h2
  ·rw [rulesL_all fun i hi=>hJ i hi hi] at hQ
   exact ⟨trivial,hQ⟩
theorem slices_Index_string_ok (l:List ByteArray) (x:ByteArray):Fn Zcp [nsD l,sD x] (iD (idx (fun y=>decide (x=y)) l)):=fun Q hQ=>by
 refine Zgt _ _ _ fun hb=>?_
 have hl:=encN_length l
 rw [hl] at hb ⊢
 refine ZeT Q _ _ _ hb (fun k=>(l.take k).any (fun y=>decide (x=y))=false) (fun k hk hJ K hK=>?_) (fun hJ=>⟨trivial,?_⟩) 0 (Nat.zero_le _) rfl
 ·simp only [encN_getD _ k hk,List.drop_zero,List.headD_cons,V.str]
  refine ⟨by omega,by omega,?_⟩
  rw [ba_beq]
  refine iff_intro (fun h=>⟨trivial,?_⟩) (fun h=>hK (any_take hk hJ h))
  rw [idx_at hk hJ h] at hQ
  exact hQ
 ·rw [List.take_length] at hJ
  rw [idx_none hJ] at hQ
  exact hQ
theorem slices_Contains_string_ok (l:List ByteArray) (x:ByteArray):Fn Zbr [nsD l,sD x] (bD (l.any fun y=>decide (x=y))):=fun Q hQ=>by
 refine Zfv _ _ _ ?_
 unfold Zdg
 refine slices_Index_string_ok l x _ ⟨rfl,rfl,trivial,?_⟩
 rw [← idx_any] at hQ
 exact hQ
theorem extra_1_ok (l:List ByteArray) (x:ByteArray) {Q:D→Heap→Prop} (hQ:Q (bD (!(l.any fun y=>decide (x=y)))) [.cells [nsD l]]):cl Zad [sD x,.ptr (.own 0) 0] [.cells [nsD l]] Q:=by
 refine Zls _ _ _ ?_
 unfold Zgv
 exact slices_Contains_string_ok l x _ ⟨rfl,rfl,trivial,hQ⟩
theorem IndexFunc_extra_ok (l m:List ByteArray) {Q:D→Heap→Prop} (hQ:Q (iD (idx (fun x=>!(l.any fun y=>decide (x=y))) m)) [.cells [nsD l]]) :
  cl Zbj [nsD m,.fn Zad [.ptr (.own 0) 0]] [.cells [nsD l]] Q:=by
 refine Zdi _ _ _ fun hb=>?_
 have hl:=encN_length m
 rw [hl] at hb ⊢
 refine ZbK Q _ _ hb (fun k h=>h=V.l (encN l)∧(m.take k).any (fun x=>!(l.any fun y=>decide (x=y)))=false) (fun k h hk hJ K hK=>?_) (fun h hJ=>⟨trivial,?_⟩) 0 _ (Nat.zero_le _) ⟨rfl,rfl⟩
 ·obtain ⟨rfl,hJ⟩:=hJ
  simp only [encN_getD _ k hk,List.drop_zero,List.headD_cons]
  refine ⟨by omega,by omega,extra_1_ok l m[k] ⟨rfl,rfl,iff_intro (fun h=>⟨trivial,?_⟩) (fun h=>hK _ ⟨rfl,any_take hk hJ h⟩)⟩⟩
  rw [idx_at hk hJ h] at hQ
  exact hQ
 ·obtain ⟨rfl,hJ⟩:=hJ
  rw [List.take_length] at hJ
  rw [idx_none hJ] at hQ
  exact hQ
theorem ContainsFunc_extra_ok (l m:List ByteArray) {Q:D→Heap→Prop} (hQ:Q (bD (m.any fun x=>!(l.any fun y=>decide (x=y)))) [.cells [nsD l]]) :
  cl ZaV [nsD m,.fn Zad [.ptr (.own 0) 0]] [.cells [nsD l]] Q:=by
 refine Zco _ _ _ ?_
 unfold Zaw
 refine IndexFunc_extra_ok l m ⟨rfl,rfl,trivial,?_⟩
 rw [← idx_any] at hQ
 exact hQ
def extraB (x:Tm×Tm):Bool:=x.1.var||(varsIn x.2.pre).any fun v=>!hasN (varsIn x.1.pre) v
theorem term_extra_ok (x:Tm×Tm) (hB:x.1.size≤4000∧x.2.size≤4000):Fn ZaF [.agg [.v .str (.s x.1.name),.v .bool (.b x.1.var),.v (.sl Za) (.l (Tm.encL x.1.args)),.v .str (.s x.2.name),.v .bool (.b x.2.var),.v (.sl Za) (.l (Tm.encL x.2.args))]] (bD (extraB x)):=fun Q hQ=>by
 refine Zmj _ _ _ _ _ _ _ ?_
 unfold Ziu
 have e1:∀ t:Tm,[[V.s t.name,V.b t.var,V.l (Tm.encL t.args)]]=Tm.encL [t]:=fun t=>by simp [Tm.encL,Tm.enc_eq]
 have ep:∀ t:Tm,Tm.preL [t]=t.pre:=fun t=>by simp [Tm.preL]
 rw [e1,e1]
 refine VarsOf_ok [x.1] (by simp [Tm.sizeL]; omega) fun ks _ hks=>⟨rfl,rfl,iff_intro (fun hv=>⟨trivial,?_⟩) (fun hv=>?_)⟩
 ·unfold extraB at hQ
  rw [hv] at hQ
  exact hQ
 ·refine VarsOf_ok [x.2] (by simp [Tm.sizeL]; omega) fun ks2 _ hks2=>⟨rfl,rfl,?_⟩
  refine ContainsFunc_extra_ok (sortW ks) (sortW ks2) ⟨rfl,rfl,trivial,?_⟩
  have e:((sortW ks2).any fun z=>!((sortW ks).any fun y=>decide (z=y)))=extraB x:=by
   unfold extraB
   rw [hv,Bool.false_or,Bool.eq_iff_iff]
   simp only [List.any_eq_true,Bool.not_eq_true',mem_sortW,hks2,ep,hasN_false]
   constructor
   ·rintro ⟨z,hz,h⟩
    refine ⟨z,hz,fun hm=>?_⟩
    rw [← ep,← hks] at hm
    have:((sortW ks).any fun y=>decide (z=y))=true:=List.any_eq_true.2 ⟨z,mem_sortW.2 hm,by simp⟩
    rw [this] at h; cases h
   ·rintro ⟨z,hz,h⟩
    refine ⟨z,hz,?_⟩
    rw [Bool.eq_false_iff]
    intro h2
    obtain ⟨y,hy,he⟩:=List.any_eq_true.1 h2
    have:z=y:=by simpa using he
    subst this
    exact h (by rw [← ep,← hks]; exact mem_sortW.1 hy)
  show Q (bD ((sortW ks2).any fun z=>!((sortW ks).any fun y=>decide (z=y)))) []
  rw [e]; exact hQ
theorem IndexFunc_Rule_ok (l:Ru) (hB:∀ x∈l,x.1.size≤4000∧x.2.size≤4000):Fn Zbw [ruD l,.fn ZaF []] (iD (idx extraB l)):=fun Q hQ=>by
 refine Zdw _ _ fun hb=>?_
 have hl:=encRs_length l
 rw [hl] at hb ⊢
 refine Zcz Q _ _ hb (fun k=>(l.take k).any extraB=false) (fun k hk hJ K hK=>?_) (fun hJ=>⟨trivial,?_⟩) 0 (Nat.zero_le _) rfl
 ·simp only [encRs_getD _ k hk,List.drop_zero,List.headD_cons,List.tail_cons]
  refine ⟨by omega,by omega,term_extra_ok l[k] (hB _ (List.getElem_mem hk)) _ ⟨rfl,rfl,iff_intro (fun h=>⟨trivial,?_⟩) (fun h=>hK (any_take hk hJ h))⟩⟩
  rw [idx_at hk hJ h] at hQ
  exact hQ
 ·rw [List.take_length] at hJ
  rw [idx_none hJ] at hQ
  exact hQ
theorem ContainsFunc_Rule_ok (l:Ru) (hB:∀ x∈l,x.1.size≤4000∧x.2.size≤4000):Fn Za5 [ruD l,.fn ZaF []] (bD (l.any extraB)):=fun Q hQ=>by
 refine Zc9 _ _ ?_
 unfold ZaM
 refine IndexFunc_Rule_ok l hB _ ⟨rfl,rfl,trivial,?_⟩
 rw [← idx_any] at hQ
 exact hQ
theorem term_Marked_ok (s:ByteArray):Fn ZeC [sD s] (bD (markedL s.data.toList)):=fun Q hQ=>by
 refine ZlN _ _ ?_
 unfold Zhz
 refine Zh0 _ _ _ ?_
 unfold Zez
 refine stringslite_HasSuffix_ok s (ByteArray.mk #[35]) _ ⟨rfl,rfl,trivial,rfl,rfl,trivial,?_⟩
 have e:decide ((ByteArray.mk #[35]).data.toList <:+ s.data.toList)=markedL s.data.toList:=by
  rw [Bool.eq_iff_iff,decide_eq_true_iff]; exact hash_suffix _
 show Q (bD (decide ((ByteArray.mk #[35]).data.toList <:+ s.data.toList))) []
 rw [e]; exact hQ
abbrev Ar:=List (ByteArray×Nat)
def encM (m:Ar):LL:=m.map fun p=>[V.s p.1,V.i p.2]
def lookM (m:Ar) (x:ByteArray):Option Nat:=(m.find? fun p=>decide (x=p.1)).map (·.2)
def addM (m:Ar) (x:ByteArray) (n:Nat):Ar:=if (lookM m x).isSome then m else m++[(x,n)]
theorem mlook_encM (x:ByteArray):∀ m:Ar,mlook [.str] [V.s x] (encM m)=(lookM m x).map fun n=>[V.i n]
 | []=>rfl
 | p::m=>by
  have e:encM (p::m)=[V.s p.1,V.i p.2]::encM m:=rfl
  rw [e,mlook,keyEqS]
  unfold lookM
  rw [List.find?_cons]
  by_cases h:x=p.1
  ·rw [decide_eq_true h]; rfl
  ·rw [decide_eq_false h]
   exact mlook_encM x m
theorem mhas_encM (x:ByteArray) (m:Ar):mhas [.str] [V.s x] (encM m)=(lookM m x).isSome:=by
 unfold mhas; rw [mlook_encM]; cases lookM m x <;> rfl
theorem mget_encM {x:ByteArray} {m:Ar} {n:Nat} (h:lookM m x=some n):mget [.str] [V.i 0] [V.s x] (encM m)=[V.i n]:=by
 unfold mget; rw [mlook_encM,h]; rfl
theorem mset_encM (x:ByteArray) (n:Nat):∀ m:Ar,(lookM m x=none∨lookM m x=some n)→mset [.str] [V.s x] [V.i n] (encM m)=encM (addM m x n)
 | [],_=>rfl
 | p::m,h=>by
  have e:encM (p::m)=[V.s p.1,V.i p.2]::encM m:=rfl
  rw [e,mset,keyEqS]
  have e2:lookM (p::m) x=if x=p.1 then some p.2 else lookM m x:=by
   unfold lookM
   rw [List.find?_cons]
   by_cases hx:x=p.1
   ·rw [decide_eq_true hx,if_pos hx]; rfl
   ·rw [decide_eq_false hx,if_neg hx]
  by_cases hx:x=p.1
  ·rw [e2,if_pos hx] at h
   have hn:p.2=n:=by
    rcases h with h | h
    ·cases h
    ·exact Option.some.inj h
   have:addM (p::m) x n=p::m:=by
    unfold addM; rw [e2,if_pos hx]; rfl
   rw [decide_eq_true hx,this]
   subst hx hn
   rfl
  ·rw [e2,if_neg hx] at h
   rw [decide_eq_false hx]
   show _::mset _ _ _ (encM m)=_
   rw [mset_encM x n m h]
   have:addM (p::m) x n=p::addM m x n:=by
    unfold addM; rw [e2,if_neg hx]
    split <;> rfl
   rw [this]; rfl
def nv (l:List Tm):List Tm:=l.filter fun s=>!s.var
def arOk (l:List Tm):Prop:=∀ s∈l,∀ t∈l,s.name=t.name→s.args.length=t.args.length
def InvM (ps:List Tm) (m:Ar):Prop:=(∀ p∈m,∃ s∈ps,s.name=p.1∧s.args.length=p.2)∧∀ s∈ps,∃ p∈m,p.1=s.name∧p.2=s.args.length
def GoodM (N rem:List Tm) (m:Ar):Prop:=∃ ps,N=ps++nv rem∧arOk ps∧InvM ps m∧m.length≤ps.length
theorem lookM_some {m:Ar} {x:ByteArray} {n:Nat} (h:lookM m x=some n):(x,n)∈m:=by
 unfold lookM at h
 cases hf:m.find? fun p=>decide (x=p.1) with
 | none=>rw [hf] at h; cases h
 | some p =>
  rw [hf] at h
  have h1:=List.mem_of_find?_eq_some hf
  have h2:x=p.1:=by simpa using List.find?_some hf
  have h3:p.2=n:=Option.some.inj h
  subst h2 h3
  exact h1
theorem lookM_none {m:Ar} {x:ByteArray} (h:lookM m x=none):∀ p∈m,p.1≠x:=by
 intro p hp he
 unfold lookM at h
 rw [Option.map_eq_none_iff,List.find?_eq_none] at h
 have:=h p hp
 simp [he] at this
theorem good_var {N rem:List Tm} {m:Ar} {s:Tm} (h:GoodM N (s::rem) m) (hv:s.var=true):GoodM N rem m:=by
 obtain ⟨ps,h1,h2⟩:=h
 exact ⟨ps,by rw [h1]; simp [nv,hv],h2⟩
theorem good_bad {N rem:List Tm} {m:Ar} {s:Tm} {n:Nat} (h:GoodM N (s::rem) m) (hv:s.var=false) (hl:lookM m s.name=some n) (hn:n≠s.args.length):¬ arOk N:=by
 obtain ⟨ps,h1,h2,h3,_⟩:=h
 intro ha
 obtain ⟨t,ht,e1,e2⟩:=h3.1 _ (lookM_some hl)
 have hs:s∈N:=by rw [h1]; simp [nv,hv]
 have htN:t∈N:=by rw [h1]; simp [ht]
 have:=ha t htN s hs e1
 exact hn (e2.symm.trans this)
theorem good_next {N rem:List Tm} {m:Ar} {s:Tm} (h:GoodM N (s::rem) m) (hv:s.var=false) (hl:lookM m s.name=none∨lookM m s.name=some s.args.length):GoodM N rem (addM m s.name s.args.length):=by
 obtain ⟨ps,h1,h2,h3,h4⟩:=h
 have hcons:∀ t∈ps,t.name=s.name→t.args.length=s.args.length:=fun t ht he=>by
  obtain ⟨p,hp,e1,e2⟩:=h3.2 t ht
  rcases hl with hl | hl
  ·exact absurd (e1.trans he) (lookM_none hl p hp)
  ·obtain ⟨t2,ht2,f1,f2⟩:=h3.1 _ (lookM_some hl)
   have:=h2 t ht t2 ht2 (by rw [he,f1])
   rw [this,f2]
 refine ⟨ps++[s],by rw [h1]; simp [nv,hv],fun a ha b hb he=>?_,⟨fun p hp=>?_,fun t ht=>?_⟩,?_⟩
 ·rcases List.mem_append.1 ha with ha1 | ha1 <;> rcases List.mem_append.1 hb with hb1 | hb1
  ·exact h2 a ha1 b hb1 he
  ·have e2:b=s:=by simpa using hb1
   rw [e2] at he ⊢
   exact hcons a ha1 he
  ·have e1:a=s:=by simpa using ha1
   rw [e1] at he ⊢
   exact (hcons b hb1 he.symm).symm
  ·have e1:a=s:=by simpa using ha1
   have e2:b=s:=by simpa using hb1
   rw [e1,e2]
 ·unfold addM at hp
  split at hp
  ·obtain ⟨t,ht,e⟩:=h3.1 p hp
   exact ⟨t,by simp [ht],e⟩
  ·rcases List.mem_append.1 hp with hp | hp
   ·obtain ⟨t,ht,e⟩:=h3.1 p hp
    exact ⟨t,by simp [ht],e⟩
   ·have:p=(s.name,s.args.length):=by simpa using hp
    subst this
    exact ⟨s,by simp,rfl,rfl⟩
 ·have key:∀ q∈m,q∈addM m s.name s.args.length:=fun q hq=>by
   unfold addM; split
   ·exact hq
   ·simp [hq]
  rcases List.mem_append.1 ht with ht | ht
  ·obtain ⟨p,hp,e⟩:=h3.2 t ht
   exact ⟨p,key p hp,e⟩
  ·have:t=s:=by simpa using ht
   subst this
   rcases hl with hl | hl
   ·refine ⟨(t.name,t.args.length),?_,rfl,rfl⟩
    unfold addM; rw [hl]; simp
   ·exact ⟨_,key _ (lookM_some hl),rfl,rfl⟩
 ·unfold addM
  split
  ·simp; omega
  ·simp; omega
end Go.Proofs.YthhnadeoioeniaaGreat
namespace Go.Proofs.YthhnadeoioeniaaGreat
open Go Go.Abs
def sides (l:Ru):List Tm:=l.flatMap fun x=>[x.1,x.2]
def nodesR (l:Ru):List Tm:=nv (Tm.preL (sides l))
theorem sides_cons (x:Tm×Tm) (l:Ru):sides (x::l)=x.1::x.2::sides l:=rfl
theorem Arities_ok (l:Ru) (hB:∀ x∈l,x.1.size≤4000∧x.2.size≤4000) {Q:D→Heap→Prop} (hQ1:arOk (nodesR l)→∀ m:Ar,InvM (nodesR l) m→m.length≤(nodesR l).length→Q (.tup [.v (.mp Zek) (.l (encM m)),.v .bool (.b true)]) [])
  (hQ2:¬ arOk (nodesR l)→Q (.tup [.v (.mp Zek) (.l []),.v .bool (.b false)]) []):cl Zfo [ruD l] [] Q:=by
 refine ZlA _ _ fun hb=>?_
 have hl:=encRs_length l
 rw [hl] at hb ⊢
 generalize hN:nodesR l=N at hQ1 hQ2
 refine ZhQ Q (fun x n i y q=>x=encRs l∧n=(l.length:Int)∧y=false∧∃ (k:Nat) (m:Ar),i=k∧k≤l.length∧q=encM m∧GoodM N (Tm.preL (sides (l.drop k))) m)
  (fun x n i y q=>(n - i).toNat) ?_ _ _ _ _ _ ⟨rfl,rfl,rfl,0,[],rfl,Nat.zero_le _,rfl,[],by simpa [nodesR] using hN.symm,fun s hs=>by simp at hs,⟨by simp,by simp⟩,by simp⟩
 rintro x n i y q ⟨rfl,rfl,rfl,k,m,rfl,hk,rfl,hg⟩ M ih
 unfold Zd3
 refine iff_dec (fun hlt=>?_) (fun hge=>⟨⟨trivial,trivial,trivial⟩,?_⟩)
 ·have hlt':k<l.length:=by omega
  have hmem:=hB _ (List.getElem_mem hlt')
  refine ⟨by omega,by rw [hl]; exact hlt,?_⟩
  rw [Int.toNat_natCast]
  simp only [encRs_getD _ k hlt',List.drop_zero,List.headD_cons,List.tail_cons]
  rw [List.drop_eq_getElem_cons hlt',sides_cons] at hg
  generalize hx:l[k]=x at hg hmem
  -- what follows the two sides
  have next:∀ m',GoodM N (Tm.preL (sides (l.drop (k+1)))) m'→Zbo Q M (encRs l) (l.length:Int) (IntKind.i64.wrap ((k:Int)+(1:Int))) false (encM m'):=fun m' hm'=>by
   rw [wrap_next k (by omega)]
   refine ih _ _ _ _ _ ⟨rfl,rfl,rfl,k+1,m',rfl,hlt',rfl,hm'⟩ ?_
   show ((l.length:Int) - ((k+1:Nat):Int)).toNat<((l.length:Int) - (k:Int)).toNat
   omega
  refine Zh2 Q M (fun a b c d0 d1 d2 d3 d4 d5 i y q=>a=encRs l∧b=(l.length:Int)∧c=(k:Int)∧d0=V.s x.1.name∧d1=V.b x.1.var∧d2=V.l (Tm.encL x.1.args)∧d3=V.s x.2.name∧d4=V.b x.2.var∧d5=V.l (Tm.encL x.2.args)∧y=false ∧
    ∃ (j:Nat) (m:Ar),i=j∧j≤2∧q=encM m∧GoodM N (Tm.preL ([x.1,x.2].drop j)++Tm.preL (sides (l.drop (k+1)))) m)
   (fun a b c d0 d1 d2 d3 d4 d5 i y q=>(2 - i).toNat) ?_ _ _ _ _ _ _ _ _ _ _ _ _ ⟨rfl,rfl,rfl,rfl,rfl,rfl,rfl,rfl,rfl,rfl,0,m,rfl,by omega,rfl,by simpa [Tm.preL,List.append_assoc] using hg⟩
  rintro a b c d0 d1 d2 d3 d4 d5 i y q ⟨rfl,rfl,rfl,rfl,rfl,rfl,rfl,rfl,rfl,rfl,j,m',rfl,hj,rfl,hg'⟩ M1 ih1
  unfold Zeb
  -- one side
  have side:∀ (t:Tm) (rem:List Tm) (hj2:j<2) (hts:t.size≤4000) (hg2:GoodM N (t.pre++rem) m') (hrem:rem=Tm.preL ([x.1,x.2].drop (j+1))++Tm.preL (sides (l.drop (k+1)))),
    cl Zd7 [tD t] [] fun r1 H2=>r1=(.fn ZG [.elt Za ((r1.capsOf.headD .undef).eltOf) 0])∧H2=[]∧∃ rows:LL,itA ZG [.elt Za ((r1.capsOf.headD .undef).eltOf) 0] rows∧Z8 Q M M1 (encRs l) (l.length:Int) (k:Int) (V.s x.1.name) (V.b x.1.var) (V.l (Tm.encL x.1.args)) (V.s x.2.name) (V.b x.2.var) (V.l (Tm.encL x.2.args)) (j:Int) ((r1.capsOf.headD .undef).eltOf) false (encM m') false (encM m') rows:=by
   intro t rem hj2 hts hg2 hrem
   refine term_Walk_ok t ⟨rfl,rfl,rowsW t,Walk_iter t (by omega),?_⟩
   refine ZhW Q M M1 _ _ _ _ _ _ _ _ _ _ _ _ _ (fun rows y q=>∃ ss m,rows=ss.map encW∧y=false∧q=encM m∧GoodM N (ss.map Prod.fst++rem) m) ?_ ?_ _ _ _ ⟨t.preD 0,m',rfl,rfl,rfl,by rw [Tm.preD_fst]; exact hg2⟩
   ·rintro r rs y q ⟨ss,m2,hr,rfl,rfl,hm2⟩ K hK
    cases ss with
    | nil=>simp at hr
    | cons s ss =>
     simp only [List.map_cons,List.cons.injEq] at hr
     obtain ⟨rfl,rfl⟩:=hr
     obtain ⟨s,d⟩:=s
     refine iff_intro (fun hv=>hK _ _ ⟨ss,m2,rfl,rfl,rfl,good_var hm2 hv⟩) (fun hv=>?_)
     have hv':s.var=false:=hv
     have hlen:(Tm.encL s.args).length=s.args.length:=Tm.encL_length _
     show iff (mhas [.str] [V.s s.name] (encM m2)) ((Tm.encL s.args).length≤big→iff ((((mget [.str] [V.i 0] [V.s s.name] (encM m2)).headD V.none).int) != ((Tm.encL s.args).length:Int)) _ ((Tm.encL s.args).length≤big→K false (mset [.str] [V.s s.name] [V.i ((Tm.encL s.args).length:Int)] (encM m2)))) ((Tm.encL s.args).length≤big→K false (mset [.str] [V.s s.name] [V.i ((Tm.encL s.args).length:Int)] (encM m2)))
     rw [mhas_encM,hlen]
     cases hlk:lookM m2 s.name with
     | none =>
      refine fun _=>?_
      rw [mset_encM _ _ _ (.inl hlk)]
      exact hK _ _ ⟨ss,_,rfl,rfl,rfl,good_next hm2 hv' (.inl hlk)⟩
     | some w =>
      refine fun _=>?_
      rw [mget_encM hlk]
      refine iff_bne (fun hne=>⟨⟨trivial,trivial,trivial⟩,hQ2 (good_bad hm2 hv' hlk ?_)⟩) (fun heq _=>?_)
      ·intro h
       apply hne
       show ((w:Nat):Int)=_
       rw [h]
      ·have hw:w=s.args.length:=by
        have:((w:Nat):Int)=((s.args.length:Nat):Int):=heq
        omega
       rw [hw] at hlk
       rw [mset_encM _ _ _ (.inr hlk)]
       exact hK _ _ ⟨ss,_,rfl,rfl,rfl,good_next hm2 hv' (.inr hlk)⟩
   ·rintro y q ⟨ss,m2,hr,rfl,rfl,hm2⟩
    have hss:ss=[]:=by simpa using hr.symm
    subst hss
    rw [wrap_next j (by unfold big; omega)]
    refine ih1 _ _ _ _ _ _ _ _ _ _ _ _ ⟨rfl,rfl,rfl,rfl,rfl,rfl,rfl,rfl,rfl,rfl,j+1,m2,rfl,hj2,rfl,by rw [← hrem]; simpa using hm2⟩ ?_
    show ((2:Int) - ((j+1:Nat):Int)).toNat<((2:Int) - (j:Int)).toNat
    omega
  refine iff_dec (fun hlt2=>?_) (fun hge2=>?_)
  ·refine ⟨by omega,hlt2,?_⟩
   match j,hg',ih1,side,hlt2 with
   | 0,hg',ih1,side,_=>exact side x.1 (Tm.preL [x.2]++Tm.preL (sides (l.drop (k+1)))) (by omega) hmem.1 (by simpa [Tm.preL,List.append_assoc] using hg') rfl
   | 1,hg',ih1,side,_=>exact side x.2 (Tm.preL []++Tm.preL (sides (l.drop (k+1)))) (by omega) hmem.2 (by simpa [Tm.preL,List.append_assoc] using hg') rfl
   | j+2,hg',ih1,side,h=>exact absurd h (by omega)
  ·have hj2:j=2:=by omega
   subst hj2
   exact next m' (by simpa [Tm.preL] using hg')
 ·have hkl:k=l.length:=by omega
  subst hkl
  rw [List.drop_length] at hg
  obtain ⟨ps,h1,h2,h3,h4⟩:=hg
  have hps:N=ps:=by rw [h1]; simp [sides,Tm.preL,nv]
  subst hps
  exact hQ1 h2 m h3 h4
theorem rulesL_zero {l:Ru} (h:rulesL l=0):∀ x∈l,x.1.check=0∧x.2.check=0:=by
 induction l with
 | nil=>intro x hx; simp at hx
 | cons y r ih =>
  intro x hx
  unfold rulesL at h
  by_cases hc:Tm.checkAll [y.1,y.2]=0
  ·rw [if_neg (by simp [hc])] at h
   rcases List.mem_cons.1 hx with rfl | hx
   ·have:=Tm.checkAll_zero.1 hc
    exact ⟨this _ (by simp),this _ (by simp)⟩
   ·exact ih h x hx
  ·rw [if_pos hc] at h; exact absurd h hc
theorem rules_zero {l:Ru} (h:rules l=0):l.length≤64∧∀ x∈l,x.1.check=0∧x.2.check=0:=by
 unfold rules at h
 split at h
 ·cases h
 ·exact ⟨by omega,rulesL_zero h⟩
open Classical in
noncomputable def sysE (l:Ru):Int:=if rules l≠0 then rules l else if arOk (nodesR l)∧(∀ s∈nodesR l,markedL s.name.data.toList=false) then (if l.any extraB then 7 else 0) else 6
theorem term_CheckSystem_ok (l:Ru) (hB:∀ x∈l,x.1.size≤small∧x.2.size≤small):Fn ZdV [ruD l] (iD (sysE l)):=fun Q hQ=>by
 refine ZiP _ _ ?_
 unfold ZeH
 unfold sysE at hQ
 refine term_CheckRules_ok l hB _ ⟨rfl,rfl,iff_bne (fun h=>⟨trivial,?_⟩) (fun h=>?_)⟩
 ·have h':rules l≠0:=h
  rw [if_pos h'] at hQ; exact hQ
 have hr:rules l=0:=h
 rw [if_neg (by simp [hr])] at hQ
 obtain ⟨hlen,hck⟩:=rules_zero hr
 have hS:∀ x∈l,x.1.size≤4000∧x.2.size≤4000:=fun x hx=>⟨(Tm.check_zero.1 (hck x hx).1).2.1,(Tm.check_zero.1 (hck x hx).2).2.1⟩
 refine Arities_ok l hS (fun ha m hm hml=>⟨rfl,rfl,?_⟩) (fun ha=>⟨rfl,rfl,?_⟩)
 ·show iff (!true) _ _
  refine ZfM Q (fun a y n s=>a=encRs l∧y=V.l (encM m)∧n=m.length∧(∀ j∈s,j<m.length)∧∀ j∈s,markedL ((m.getD j (ByteArray.empty,0)).1).data.toList=false)
   (fun a y n s=>n - s.length) ?_ _ _ _ _ ⟨rfl,rfl,by simp [encM,D.parts,D.V,V.list],by simp,by simp⟩
  rintro a y n s ⟨rfl,rfl,rfl,hsl,hsm⟩ M ih
  have hml':(encM m).length=m.length:=by simp [encM]
  refine ⟨hml',fun hall=>?_,fun j hj hjs hlt=>⟨hml',?_⟩⟩
  ·have hnm:∀ t∈nodesR l,markedL t.name.data.toList=false:=fun t ht=>by
    obtain ⟨p,hp,e1,_⟩:=hm.2 t ht
    obtain ⟨j,hj,rfl⟩:=List.mem_iff_getElem.1 hp
    have:=hsm j (hall j hj)
    rw [List.getD_eq_getElem?_getD,List.getElem?_eq_getElem hj] at this
    rw [← e1]; exact this
   rw [if_pos ⟨ha,hnm⟩] at hQ
   refine ContainsFunc_Rule_ok l hS _ ⟨rfl,rfl,iff_intro (fun hb=>⟨trivial,?_⟩) (fun hb=>⟨trivial,?_⟩)⟩
   ·have hb':l.any extraB=true:=hb
    rw [if_pos hb'] at hQ; exact hQ
   ·have hb':l.any extraB=false:=hb
    rw [if_neg (by simp [hb'])] at hQ; exact hQ
  ·have e:(encM m).getD j []=[V.s (m.getD j (ByteArray.empty,0)).1,V.i (m.getD j (ByteArray.empty,0)).2]:=by
    unfold encM
    rw [List.getD_eq_getElem?_getD,List.getElem?_map,List.getD_eq_getElem?_getD,List.getElem?_eq_getElem hj]; rfl
   show cl ZeC [.v .str (((encM m).getD j []).headD V.none)] [] _
   rw [e]
   refine term_Marked_ok _ _ ⟨rfl,rfl,iff_intro (fun hb=>⟨trivial,?_⟩) (fun hb=>?_)⟩
   ·have hb':markedL ((m.getD j (ByteArray.empty,0)).1).data.toList=true:=hb
    have hp:m.getD j (ByteArray.empty,0)∈m:=by
     rw [List.getD_eq_getElem?_getD,List.getElem?_eq_getElem hj]; exact List.getElem_mem hj
    obtain ⟨t,ht,e1,_⟩:=hm.1 _ hp
    rw [if_neg (fun h=>by have:=h.2 t ht; rw [e1,hb'] at this; cases this)] at hQ
    exact hQ
   ·refine ih _ _ _ _ ⟨rfl,rfl,rfl,fun i hi=>?_,fun i hi=>?_⟩ ?_
    ·rcases List.mem_cons.1 hi with rfl | hi
     ·exact hj
     ·exact hsl i hi
    ·rcases List.mem_cons.1 hi with rfl | hi
     ·exact hb
     ·exact hsm i hi
    ·show m.length - (s.length+1)<m.length - s.length
     omega
 ·show iff (!false) _ _
  rw [if_neg (fun h=>ha h.1)] at hQ
  exact ⟨trivial,hQ⟩
end Go.Proofs.YthhnadeoioeniaaGreat
namespace Go.Proofs.YthhnadeoioeniaaGreat
open Go Go.Abs
def okS (ps:List Tm):Prop:=arOk ps∧∀ s∈ps,markedL s.name.data.toList=false
def sortA (l:Ar):Prop:=l.Pairwise fun p q=>cmpN p.1 q.1 = -1
def InvS (ps:List Tm) (l:Ar):Prop:=okS ps∧sortA l∧InvM ps l∧l.length≤ps.length
end Go.Proofs.YthhnadeoioeniaaGreat
namespace Go.Proofs.YthhnadeoioeniaaGreat
open Go Go.Abs
def cnt (l:List Tm) (v:ByteArray):Nat:=(l.filter fun s=>s.var&&decide (s.name=v)).length
theorem insN_mem2 {l:List ByteArray} {s x:ByteArray}:x∈insN l s↔x=s∨x∈l:=by
 induction l with
 | nil=>simp [insN]
 | cons y r ih =>
  unfold insN
  split
  ·rw [List.mem_cons,ih,List.mem_cons]
   constructor
   ·rintro (h | h | h)
    ·exact .inr (.inl h)
    ·exact .inl h
    ·exact .inr (.inr h)
   ·rintro (h | h | h)
    ·exact .inr (.inl h)
    ·exact .inl h
    ·exact .inr (.inr h)
  ·split
   ·rename_i h
    constructor
    ·exact .inr
    ·rintro (rfl | h)
     ·rw [h]; simp
     ·exact h
   ·simp
theorem mem_collect {x:ByteArray}:∀ (t:Tm) (l:List ByteArray),x∈Tm.collect t l↔x∈l∨x∈varsIn t.pre:=by
 refine Tm.ind fun t ih l=>?_
 have hL:∀ (a:List Tm),(∀ t∈a,∀ l,x∈Tm.collect t l↔x∈l∨x∈varsIn t.pre)→∀ l,x∈Tm.collectL a l↔x∈l∨x∈varsIn (Tm.preL a):=by
  intro a
  induction a with
  | nil=>intro _ l; simp [Tm.collectL,Tm.preL,varsIn]
  | cons t r ihr =>
   intro h l
   rw [Tm.collectL,ihr (fun t ht=>h t (List.mem_cons_of_mem _ ht)),h t (by simp)]
   simp only [Tm.preL,varsIn_append,List.mem_append]
   rw [or_assoc]
 rw [Tm.collect_eq,hL t.args ih,Tm.pre_eq]
 have e:varsIn (t::Tm.preL t.args)=varsIn [t]++varsIn (Tm.preL t.args):=varsIn_append [t] _
 rw [e,List.mem_append]
 cases hv:t.var with
 | true =>
  have:varsIn [t]=[t.name]:=by simp [varsIn,hv]
  rw [this,if_pos rfl,insN_mem2]
  simp only [List.mem_singleton]
  constructor
  ·rintro ((h | h) | h)
   ·exact .inr (.inl h)
   ·exact .inl h
   ·exact .inr (.inr h)
  ·rintro (h | h | h)
   ·exact .inl (.inr h)
   ·exact .inl (.inl h)
   ·exact .inr h
 | false =>
  have:varsIn [t]=[]:=by simp [varsIn,hv]
  rw [this]; simp
theorem mem_vars1 {x:ByteArray} (t:Tm):x∈Tm.vars [t]↔x∈varsIn t.pre:=by
 show x∈Tm.collectL [t] []↔_
 rw [show Tm.collectL [t] []=Tm.collect t [] from rfl,mem_collect]; simp
end Go.Proofs.YthhnadeoioeniaaGreat
namespace Go.Proofs.YthhnadeoioeniaaGreat
open Go.Abs Tm
def sortN (l:List ByteArray):List ByteArray:=l.foldl insN []
theorem insN_mem {l:List ByteArray} {s x:ByteArray}:x∈insN l s↔x=s∨x∈l:=by
 induction l with
 | nil=>simp [insN]
 | cons y r ih =>
  unfold insN
  split
  ·rw [List.mem_cons,ih,List.mem_cons]
   constructor
   ·rintro (h | h | h)
    ·exact .inr (.inl h)
    ·exact .inl h
    ·exact .inr (.inr h)
   ·rintro (h | h | h)
    ·exact .inr (.inl h)
    ·exact .inl h
    ·exact .inr (.inr h)
  ·split
   ·rename_i h
    constructor
    ·exact .inr
    ·rintro (rfl | h)
     ·rw [h]; simp
     ·exact h
   ·simp
end Go.Proofs.YthhnadeoioeniaaGreat
namespace Go.Proofs.YthhnadeoioeniaaGreat
open Go Go.Abs
theorem cmp_lt_iff:∀ l m:List UInt8,Lib.compareBytes l m = -1↔l<m
 | [],[]=>by simp [Lib.compareBytes]
 | [],_::_=>by simp [Lib.compareBytes]
 | _::_,[]=>by simp [Lib.compareBytes]
 | a::l,b::m=>by
  rw [List.cons_lt_cons_iff,Lib.compareBytes,← cmp_lt_iff l m]
  by_cases h1:a<b
  ·simp [h1]
  ·rw [if_neg h1]
   by_cases h2:b<a
   ·have:a≠b:=fun e=>by subst e; exact h1 h2
    simp [h1,h2,this]
   ·have:a=b:=by apply UInt8.toNat_inj.1; rw [u8_lt] at *; omega
    subst this
    simp [h1]
def SortN (l:List ByteArray):Prop:=l.Pairwise fun x y=>cmpN x y = -1
theorem SortN.nodup {l:List ByteArray} (h:SortN l):l.Nodup:=h.imp fun {a b} h e=>by rw [e,cmpN_self] at h; cases h
theorem sortN_unique:∀ {l m:List ByteArray},SortN l→SortN m→(∀ x,x∈l↔x∈m)→l=m
 | [],[],_,_,_=>rfl
 | [],y::m,_,_,h=>by have:=(h y).2 (by simp); simp at this
 | x::l,[],_,_,h=>by have:=(h x).1 (by simp); simp at this
 | x::l,y::m,hl,hm,h=>by
  have hl':=List.pairwise_cons.1 hl
  have hm':=List.pairwise_cons.1 hm
  have e:x=y:=by
   rcases List.mem_cons.1 ((h x).1 (by simp)) with e | e
   ·exact e
   ·rcases List.mem_cons.1 ((h y).2 (by simp)) with e2 | e2
    ·exact e2.symm
    ·have h1:=hm'.1 x e
     have h2:=hl'.1 y e2
     have:=cmpN_trans h1 h2
     rw [cmpN_self] at this; cases this
  subst e
  have hn1:=SortN.nodup hl
  have hn2:=SortN.nodup hm
  rw [sortN_unique hl'.2 hm'.2 fun z=>?_]
  constructor
  ·intro hz
   rcases List.mem_cons.1 ((h z).1 (by simp [hz])) with e | e
   ·subst e; exact absurd hz (List.nodup_cons.1 hn1).1
   ·exact e
  ·intro hz
   rcases List.mem_cons.1 ((h z).2 (by simp [hz])) with e | e
   ·subst e; exact absurd hz (List.nodup_cons.1 hn2).1
   ·exact e
theorem SortN.ins {s:ByteArray}:∀ {l:List ByteArray},SortN l→SortN (insN l s)
 | [],_=>by simp [insN,SortN]
 | x::r,h=>by
  have h':=List.pairwise_cons.1 h
  unfold insN
  split
  ·rename_i hx
   refine List.pairwise_cons.2 ⟨fun y hy=>?_,SortN.ins h'.2⟩
   rcases insN_mem.1 hy with rfl | hy
   ·exact hx
   ·exact h'.1 y hy
  ·rename_i hx
   split
   ·exact h
   ·rename_i hne
    have hsx:cmpN s x = -1:=by
     rcases cmpN_cases x s with g | g | g
     ·exact absurd g.1 hx
     ·exact absurd g.2 hne
     ·exact g.2
    refine List.pairwise_cons.2 ⟨fun y hy=>?_,h⟩
    rcases List.mem_cons.1 hy with rfl | hy
    ·exact hsx
    ·exact cmpN_trans hsx (h'.1 y hy)
theorem SortN.collect:∀ (t:Tm) (l:List ByteArray),SortN l→SortN (Tm.collect t l):=Tm.ind fun t ih l h=>by
 rw [Tm.collect_eq]
 have key:∀ (xs:List Tm),(∀ a∈xs,∀ l,SortN l→SortN (Tm.collect a l))→∀ l,SortN l→SortN (Tm.collectL xs l):=by
  intro xs
  induction xs with
  | nil=>intro _ l h; exact h
  | cons a r ihr=>intro h l hl; exact ihr (fun b hb=>h b (by simp [hb])) _ (h a (by simp) l hl)
 refine key t.args ih _ ?_
 split
 ·exact h.ins
 ·exact h
theorem vars_sort (l:List Tm):SortN (Tm.vars l):=by
 have key:∀ (xs:List Tm) l,SortN l→SortN (Tm.collectL xs l):=by
  intro xs
  induction xs with
  | nil=>intro l h; exact h
  | cons a r ihr=>intro l hl; exact ihr _ (SortN.collect a l hl)
 exact key l [] (by simp [SortN])
theorem mem_collectL {x:ByteArray}:∀ (xs:List Tm) (l:List ByteArray),x∈Tm.collectL xs l↔x∈varsIn (Tm.preL xs)∨x∈l
 | [],l=>by simp [Tm.collectL,Tm.preL,varsIn]
 | a::r,l=>by
  rw [Tm.collectL,mem_collectL r,mem_collect,Tm.preL,varsIn_append,List.mem_append]
  constructor
  ·rintro (h | h | h)
   ·exact .inl (.inr h)
   ·exact .inr h
   ·exact .inl (.inl h)
  ·rintro ((h | h) | h)
   ·exact .inr (.inr h)
   ·exact .inl h
   ·exact .inr (.inl h)
theorem mem_vars {x:ByteArray} (l:List Tm):x∈Tm.vars l↔x∈varsIn (Tm.preL l):=by
 show x∈Tm.collectL l []↔_
 rw [mem_collectL]; simp
theorem var_in {x:ByteArray} {l:List Tm}:x∈varsIn l↔∃ s∈l,s.var=true∧s.name=x:=by
 unfold varsIn
 rw [List.mem_map]
 constructor
 ·rintro ⟨s,hs,rfl⟩
  have:=List.mem_filter.1 hs
  exact ⟨s,this.1,this.2,rfl⟩
 ·rintro ⟨s,hs,hv,rfl⟩
  exact ⟨s,List.mem_filter.2 ⟨hs,hv⟩,rfl⟩
theorem sortW_sort {ks:List ByteArray} (h:ks.Nodup):SortN (sortW ks):=by
 unfold SortN sortW
 rw [List.pairwise_map]
 have h1:(sortL (ks.map fun x=>x.data.toList)).Pairwise fun a b=>bleL a b=true:=List.pairwise_mergeSort (le:=bleL)
  (fun a b c h1 h2=>decide_eq_true (List.le_trans (of_decide_eq_true h1) (of_decide_eq_true h2)))
  (fun a b=>by
   rcases List.le_total a b with h | h
   ·rw [show bleL a b=true from decide_eq_true h]; rfl
   ·rw [show bleL b a=true from decide_eq_true h,Bool.or_true]) _
 have h2:(sortL (ks.map fun x=>x.data.toList)).Nodup:=by
  refine (List.mergeSort_perm _ _).nodup_iff.2 ?_
  exact List.pairwise_map.2 (h.imp fun {a b} hab e=>hab (ba_ext e))
 refine (h1.and h2).imp fun {a b} hab=>?_
 have e:cmpN (byL a) (byL b)=Lib.compareBytes a b:=by simp [byL]
 rw [e]
 have hle:a≤b:=of_decide_eq_true hab.1
 rcases cmp_cases a b with g | g | g
 ·exact g.1
 ·exact absurd g.2 hab.2
 ·exact absurd ((cmp_lt_iff b a).1 g.2) (List.not_lt.2 hle)
theorem sortW_vars {ks:List ByteArray} {l:List Tm} (h:ks.Nodup) (hm:∀ x,x∈ks↔x∈varsIn (Tm.preL l)):sortW ks=Tm.vars l :=
 sortN_unique (sortW_sort h) (vars_sort l) fun x=>by rw [mem_sortW,hm,mem_vars]
theorem VarsOf_vars (l:List Tm) (hs:Tm.sizeL l≤274877906944):Fn ZM [tsD l] (nsD (Tm.vars l)):=fun Q hQ =>
 VarsOf_ok l hs fun ks hn hm=>by
  have e:((sortW ks).map fun x=>[V.s x])=encN (Tm.vars l):=by rw [sortW_vars hn hm]; rfl
  rw [e]; exact hQ
theorem sub_of_sort:∀ {l m:List ByteArray},SortN l→SortN m→(∀ x∈l,x∈m)→l.Sublist m
 | [],m,_,_,_=>List.nil_sublist m
 | x::l,[],_,_,h=>by have:=h x (by simp); simp at this
 | x::l,y::m,hl,hm,h=>by
  have hl':=List.pairwise_cons.1 hl
  have hm':=List.pairwise_cons.1 hm
  by_cases e:x=y
  ·subst e
   refine .cons_cons x (sub_of_sort hl'.2 hm'.2 fun z hz=>?_)
   rcases List.mem_cons.1 (h z (by simp [hz])) with e | e
   ·subst e; exact absurd hz (List.nodup_cons.1 (SortN.nodup hl)).1
   ·exact e
  ·refine .cons y (sub_of_sort hl hm'.2 fun z hz=>?_)
   have hxm:x∈m:=by
    rcases List.mem_cons.1 (h x (by simp)) with e2 | e2
    ·exact absurd e2 e
    ·exact e2
   have hyx:=hm'.1 x hxm
   rcases List.mem_cons.1 (h z hz) with e2 | e2
   ·subst e2
    rcases List.mem_cons.1 hz with e3 | e3
    ·exact absurd e3.symm e
    ·have:=cmpN_trans (hl'.1 z e3) hyx
     rw [cmpN_self] at this; cases this
   ·exact e2
end Go.Proofs.YthhnadeoioeniaaGreat
namespace Go.Proofs.YthhnadeoioeniaaGreat
open Go Go.Abs
theorem pre_self (t:Tm):t∈t.pre:=by rw [Tm.pre_eq]; simp
def ofE (l:Pls) (t:Tm):Int:=if t.check≠0 then t.check else if 64<(Tm.vars [t]).length then 3 else if fitsT l t=false then 10 else if (polyT l (Tm.vars [t]) t).isSome then 0 else 3
def ofV (l:Pls) (t:Tm):List ByteArray:=if ofE l t=0 then Tm.vars [t] else []
def ofP (l:Pls) (t:Tm):Mos:=if ofE l t=0 then (polyT l (Tm.vars [t]) t).getD [] else []
theorem as_triple {a a' b b' c:D} (h:As a a') (h':As b b'):As (.tup [a,b,c]) (.tup [a',b',c]) :=
 .tup _ _ rfl fun j=>match j with
  | 0=>h | 1=>h' | 2=>.refl _ | _+3=>.refl _
theorem pre_vars (t:Tm):∀ s∈t.pre,s.var=true→s.name∈Tm.vars [t]:=fun s hs hv=>(mem_vars1 t).2 (var_in.2 ⟨s,hs,hv,rfl⟩)
theorem pre_vars2 {t:Tm} {l:List Tm} (ht:t∈l):∀ s∈t.pre,s.var=true→s.name∈Tm.vars l:=fun s hs hv=>(mem_vars l).2 (var_in.2 ⟨s,by rw [Tm.preL_eq]; exact List.mem_flatMap.2 ⟨t,ht,hs⟩,hv,rfl⟩)
theorem ofE_some {l:Pls} {t:Tm} (h:ofE l t=0):t.check=0∧(Tm.vars [t]).length≤64∧fitsT l t=true∧∃ p,polyT l (Tm.vars [t]) t=some p:=by
 unfold ofE at h
 split at h
 ·exact absurd h (by assumption)
 ·rename_i h1
  split at h
  ·cases h
  ·rename_i h2
   split at h
   ·cases h
   ·rename_i h3
    split at h
    ·rename_i h4
     exact ⟨by omega,by omega,by simpa using h3,Option.isSome_iff_exists.1 h4⟩
    ·cases h
end Go.Proofs.YthhnadeoioeniaaGreat
namespace Go.Proofs.YthhnadeoioeniaaGreat
open Go Go.Abs
theorem cmp_isNaN_ok (a:Int):Fn Zdx [iD a] (bD false):=fun Q hQ=>by
 refine ZkB _ _ ?_
 unfold ZfX
 rw [show (a != a)=false by simp]
 exact ⟨trivial,hQ⟩
theorem cmp_Compare_ok (a b:Int):Fn ZcL [iD a,iD b] (iD (if a<b then -1 else if b<a then 1 else 0)):=fun Q hQ=>by
 refine Zi9 _ _ _ ?_
 unfold Zfd
 refine cmp_isNaN_ok a _ ⟨rfl,rfl,cmp_isNaN_ok b _ ⟨rfl,rfl,iff_no rfl (iff_no rfl (iff_dec (fun h=>⟨trivial,?_⟩) (fun h=>iff_dec (fun h2=>⟨trivial,?_⟩) (fun h2=>⟨trivial,?_⟩))))⟩⟩
 ·rw [if_pos h] at hQ; exact hQ
 ·rw [if_neg h,if_pos (by omega)] at hQ; exact hQ
 ·rw [if_neg h,if_neg (by omega)] at hQ; exact hQ
theorem slices_Compare_ok (l m:List Int):Fn Zbk [psD l,psD m] (iD (cmpE l m)):=fun Q hQ=>by
 refine Zht _ _ _ fun hb=>?_
 rw [encP_length] at hb ⊢
 refine ZeZ Q _ _ _ _ hb (fun k=>k≤m.length∧l.take k=m.take k) (fun k hk hJ K hK=>?_) (fun hJ h1 h2=>?_) 0 (Nat.zero_le _) ⟨Nat.zero_le _,rfl⟩
 ·obtain ⟨hkm,hJ⟩:=hJ
  simp only [encP_getD l k hk,List.drop_zero,List.headD_cons,encP_length]
  refine ⟨by omega,by omega,fun _=>iff_dec (fun h=>⟨trivial,?_⟩) (fun h=>?_)⟩
  ·have hm:k=m.length:=by omega
   have e:l.take (min l.length m.length)=m.take (min l.length m.length):=by rw [Nat.min_eq_right (by omega),← hm]; exact hJ
   rw [cmpE_end e,if_neg (by omega),if_pos (by omega)] at hQ
   exact hQ
  ·have hk2:k<m.length:=by omega
   simp only [encP_getD m k hk2,List.drop_zero,List.headD_cons]
   refine ⟨by omega,by omega,cmp_Compare_ok _ _ _ ⟨rfl,rfl,iff_bne (fun h2=>⟨trivial,?_⟩) (fun h2=>hK ⟨by omega,?_⟩)⟩⟩
   ·have h2:(if l[k]<m[k] then (-1:Int) else if m[k]<l[k] then 1 else 0)≠0:=h2
    rw [cmpE_at hk hk2 hJ (fun e=>h2 (by rw [e]; simp))] at hQ
    exact hQ
   ·have h2:(if l[k]<m[k] then (-1:Int) else if m[k]<l[k] then 1 else 0)=0:=h2
    have e:l[k]=m[k]:=by
     split at h2
     ·cases h2
     ·split at h2
      ·cases h2
      ·omega
    rw [List.take_succ_eq_append_getElem hk,List.take_succ_eq_append_getElem hk2,hJ,e]
 ·obtain ⟨hkm,hJ⟩:=hJ
  rw [encP_length,encP_length]
  have e:l.take (min l.length m.length)=m.take (min l.length m.length):=by rw [Nat.min_eq_left hkm]; exact hJ
  rw [cmpE_end e] at hQ
  refine iff_dec (fun h=>⟨trivial,?_⟩) (fun h=>⟨trivial,?_⟩)
  ·rw [if_pos h] at hQ; exact hQ
  ·rw [if_neg h,if_neg (by omega)] at hQ; exact hQ
def expBad (e:Int):Bool:=decide (e<0)||decide (e > 8)
theorem checkOne_1_ok (e:Int):Fn ZN [iD e] (bD (expBad e)):=fun Q hQ=>by
 refine Zi5 _ _ ?_
 unfold Zfb
 unfold expBad at hQ
 refine iff_dec (fun h=>⟨trivial,?_⟩) (fun h=>⟨trivial,?_⟩)
 ·rw [decide_eq_true h] at hQ; exact hQ
 ·rw [decide_eq_false h,Bool.false_or] at hQ; exact hQ
theorem IndexFunc_exp_ok (l:List Int):Fn Zb7 [psD l,.fn ZN []] (iD (idx expBad l)):=fun Q hQ=>by
 refine Zc2 _ _ fun hb=>?_
 rw [encP_length] at hb ⊢
 refine ZbJ Q _ _ hb (fun k=>(l.take k).any expBad=false) (fun k hk hJ K hK=>?_) (fun hJ=>⟨trivial,?_⟩) 0 (Nat.zero_le _) rfl
 ·simp only [encP_getD _ k hk,List.drop_zero,List.headD_cons,encP_length]
  refine ⟨by omega,by omega,checkOne_1_ok _ _ ⟨rfl,rfl,iff_intro (fun h=>⟨trivial,?_⟩) (fun h=>hK (any_take hk hJ h))⟩⟩
  rw [idx_at hk hJ h] at hQ
  exact hQ
 ·rw [List.take_length] at hJ
  rw [idx_none hJ] at hQ
  exact hQ
theorem ContainsFunc_exp_ok (l:List Int):Fn Zay [psD l,.fn ZN []] (bD (l.any expBad)):=fun Q hQ=>by
 refine Zcm _ _ ?_
 unfold Zax
 refine IndexFunc_exp_ok l _ ⟨rfl,rfl,trivial,?_⟩
 rw [← idx_any] at hQ
 exact hQ
theorem expBad_all (l:List Int):(l.all fun e=>decide (0≤e)&&decide (e≤8))=!(l.any expBad):=by
 rw [List.all_eq_not_any_not]
 congr 1
 congr 1
 funext e
 unfold expBad
 rw [Bool.eq_iff_iff]
 simp only [Bool.not_eq_true',Bool.and_eq_false_iff,decide_eq_false_iff_not,Bool.or_eq_true,decide_eq_true_iff]
 omega
theorem poly_checkOne_ok (l:Mos):Fn ZdY [msD l] (iD (monosE l)):=fun Q hQ=>by
 refine ZkD _ _ fun hb=>?_
 rw [encMos_length] at hb ⊢
 unfold monosE at hQ
 refine iff_dec (fun h=>⟨trivial,?_⟩) (fun h _=>?_)
 ·rw [if_pos (by omega)] at hQ; exact hQ
 rw [if_neg (by omega)] at hQ
 refine ZgL Q _ _ _ hb (fun k=>∀ i,i<k→formAt l i=true) (fun k hk hJ K hK=>?_) (fun hJ hb2=>?_) 0 (Nat.zero_le _) (fun i hi=>by omega)
 ·have h0:0<l.length:=by omega
  have e0:((0:Int)).toNat=0:=rfl
  simp only [e0,encMos_getD l k hk,encMos_getD l 0 h0,List.drop_zero,List.drop_succ_cons,List.headD_cons,List.tail_cons,encMos_length]
  have no:formAt l k=false→True∧Q (iD 4) []:=fun h=>by rw [if_pos (formOk_not hk h)] at hQ; exact ⟨trivial,hQ⟩
  have next:formAt l k=true→K:=fun h=>hK fun i hi=>by
   rcases Nat.lt_succ_iff_lt_or_eq.1 hi with h8 | rfl
   ·exact hJ i h8
   ·exact h
  have hfa:formAt l k=(decide ((l[k]).exps.length≤8)&&decide ((l[k]).exps.length=(l[0]).exps.length)&&(decide (k=0)||decide (cmpE (l.getD (k - 1) dMo).exps (l[k]).exps = -1))):=by
   unfold formAt; rw [getD_at hk,getD_at h0]
  have x1:((V.list (V.l (encP (l[k]).exps))).length:Int)=(l[k]).exps.length:=by show ((encP _).length:Int)=_; rw [encP_length]
  have x2:((V.list (V.l (encP (l[0]).exps))).length:Int)=(l[0]).exps.length:=by show ((encP _).length:Int)=_; rw [encP_length]
  rw [x1,x2]
  refine ⟨by omega,by omega,iff_dec (fun h2=>no ?_) (fun h2=>⟨by omega,by omega,iff_bne (fun h1=>no ?_) (fun h1=>iff_dec (fun h3=>?_) (fun h3=>next ?_))⟩)⟩
  ·rw [hfa,decide_eq_false (show ¬ (l[k]).exps.length≤8 by omega)]; simp
  ·rw [hfa,decide_eq_false (show ¬ (l[k]).exps.length=(l[0]).exps.length by omega)]; simp
  ·have hk1:k - 1<l.length:=by omega
   rw [wrap_in _ (by omega) (by omega)]
   have e1:((k:Int) - 1).toNat=k - 1:=by omega
   simp only [e1,encMos_getD l (k - 1) hk1,List.drop_succ_cons,List.drop_zero,List.headD_cons]
   rw [getD_at hk1] at hfa
   rw [decide_eq_true (show (l[k]).exps.length≤8 by omega),decide_eq_true (show (l[k]).exps.length=(l[0]).exps.length by omega),decide_eq_false (show ¬ k=0 by omega)] at hfa
   refine ⟨by omega,by omega,slices_Compare_ok _ _ _ ⟨rfl,rfl,iff_dec (fun h4=>no ?_) (fun h4=>next ?_)⟩⟩
   ·have h4:cmpE (l[k-1]).exps (l[k]).exps≥0:=h4
    rw [hfa,decide_eq_false (by omega)]; rfl
   ·have h4:¬ cmpE (l[k-1]).exps (l[k]).exps≥0:=h4
    rw [hfa,decide_eq_true (cmpE_nn h4)]; rfl
  ·rw [hfa,decide_eq_true (show (l[k]).exps.length≤8 by omega),decide_eq_true (show (l[k]).exps.length=(l[0]).exps.length by omega),decide_eq_true (show k=0 by omega)]; rfl
 ·rw [if_neg (by rw [formOk_all hJ]; simp)] at hQ
  rw [encMos_length] at hb2 ⊢
  refine ZgR Q _ _ hb2 (fun k=>∀ i (h:i<l.length),i<k→argOk l[i]=true) (fun k hk hJ2 K hK=>?_) (fun hJ2=>⟨trivial,?_⟩) 0 (Nat.zero_le _) (fun i _ hi=>by omega)
  ·have no:argOk l[k]=false→True∧Q (iD 2) []:=fun h=>by
    have:l.all argOk=false:=by
     rw [← Bool.not_eq_true]; intro ha
     have:=(List.all_eq_true.1 ha) _ (List.getElem_mem hk)
     rw [h] at this; cases this
    rw [if_pos this] at hQ; exact ⟨trivial,hQ⟩
   have next:argOk l[k]=true→K:=fun h=>hK fun i hi hik=>by
    rcases Nat.lt_succ_iff_lt_or_eq.1 hik with h8 | h8
    ·exact hJ2 i hi h8
    ·subst h8; exact h
   simp only [encMos_getD l k hk,List.drop_zero,List.drop_succ_cons,List.headD_cons,List.tail_cons,encMos_length]
   generalize l[k]=x at no next
   refine ⟨by omega,by omega,iff_dec (fun h1=>no ?_) (fun h1=>iff_dec (fun h2=>no ?_) (fun h2=>?_))⟩
   ·have h1:((x.coef:Nat):Int)<1:=h1
    unfold argOk; rw [decide_eq_false (by omega)]; rfl
   ·have h2:((x.coef:Nat):Int) > 1048576:=h2
    unfold argOk; rw [decide_eq_false (show ¬ x.coef≤1048576 by omega)]; simp
   ·have h1:¬ ((x.coef:Nat):Int)<1:=h1
    have h2:¬ ((x.coef:Nat):Int) > 1048576:=h2
    have hx:argOk x=!(x.exps.any expBad):=by
     unfold argOk; rw [decide_eq_true (by omega),decide_eq_true (by omega),expBad_all]; rfl
    refine ContainsFunc_exp_ok x.exps _ ⟨rfl,rfl,iff_intro (fun h3=>no ?_) (fun h3=>next ?_)⟩
    ·have h3:x.exps.any expBad=true:=h3
     rw [hx,h3]; rfl
    ·have h3:x.exps.any expBad=false:=h3
     rw [hx,h3]; rfl
  ·have:l.all argOk=true:=List.all_eq_true.2 fun x hx=>by
    obtain ⟨i,hi,rfl⟩:=List.mem_iff_getElem.1 hx
    exact hJ2 i hi hi
   rw [if_neg (by rw [this]; simp)] at hQ
   exact hQ
theorem poly_Check_1_ok (x:Pl):Fn Z5 [plD x] (sD x.name):=fun Q hQ=>by
 refine Zlo _ _ _ ?_
 unfold Zgj
 exact ⟨trivial,hQ⟩
theorem path_Names_P_ok (l:Pls):Fn Zd5 [plsD l,.fn Z5 []] (iD (namesErr (plNames l))):=fun Q hQ=>by
 refine ZeD _ _ ?_
 unfold ZbQ
 intro hb
 have hl:=encPls_length l
 have hl2:(plNames l).length=l.length:=by simp [plNames]
 rw [hl] at hb ⊢
 rw [big_eq] at hb
 unfold namesErr at hQ
 refine iff_dec (fun h=>⟨trivial,?_⟩) (fun h _=>?_)
 ·rw [if_pos (by omega)] at hQ; exact hQ
 rw [if_neg (by omega)] at hQ
 have bad:namesOk true (plNames l)=false→Q (iD 4) []:=fun h=>by rw [h] at hQ; exact hQ
 refine Zdv Q _ _ _ (by rw [big_eq]; exact hb) (fun k=>∀ i,i<k→nameAt true (plNames l) i=true) (fun k hk hJ K hK=>?_) (fun hJ=>⟨trivial,?_⟩) 0 (Nat.zero_le _) (fun i hi=>by omega)
 ·simp only [encPls_getD _ k hk,List.drop_zero,List.headD_cons,List.tail_cons]
  have hn:=plNames_getD l k hk
  refine ⟨by omega,by omega,sD (l[k]).name,(poly_Check_1_ok _).here rfl,bD (nameOk (l[k]).name true),(term_IsName_ok _ _).here rfl,?_⟩
  have next:nameAt true (plNames l) k=true→∀ i,i<k+1→nameAt true (plNames l) i=true:=fun h i hi=>by
   rcases Nat.lt_succ_iff_lt_or_eq.1 hi with h8 | rfl
   ·exact hJ i h8
   ·exact h
  refine iff_not (iff_intro (fun h=>iff_dec (fun h0=>?_) (fun h0=>hK (next ?_))) (fun h=>⟨trivial,bad (namesOk_not (k:=k) (by omega) ?_)⟩))
  ·have h:nameOk (l[k]).name true=true:=h
   have hk1:k - 1<l.length:=by omega
   have hp:=plNames_getD l (k - 1) hk1
   rw [wrap_in _ (by omega) (by omega)]
   have e1:((k:Int) - 1).toNat=k - 1:=by omega
   rw [e1]
   simp only [encPls_getD _ (k - 1) hk1,List.drop_zero,List.headD_cons,List.tail_cons]
   have hk0:¬ k=0:=by omega
   refine ⟨sD (l[k]).name,(poly_Check_1_ok _).here rfl,by omega,by omega,poly_Check_1_ok _ _ ⟨rfl,rfl,?_⟩⟩
   show iff (Op.bytesLess (l[k]).name.toList (l[k-1]).name.toList||(l[k]).name.toList == (l[k-1]).name.toList) _ _
   rw [less_cmp,ba_beq]
   have e:(decide (cmpN (l[k]).name (l[k-1]).name = -1)||decide ((l[k]).name=(l[k-1]).name))=!decide (cmpN (l[k-1]).name (l[k]).name = -1):=by
    rw [Bool.eq_iff_iff]
    simp only [Bool.or_eq_true,decide_eq_true_iff,Bool.not_eq_true',decide_eq_false_iff_not,← cmpN_zero]
    have:=cmpN_flip (l[k-1]).name (l[k]).name
    rcases cmpN_cases (l[k-1]).name (l[k]).name with h | h | h <;> omega
   rw [e]
   refine iff_not (iff_dec (fun h2=>hK (next ?_)) (fun h2=>⟨trivial,bad (namesOk_not (k:=k) (by omega) ?_)⟩))
   ·unfold nameAt
    rw [hn,hp,h,Bool.true_and,decide_eq_false hk0,decide_eq_true h2]; rfl
   ·unfold nameAt
    rw [hn,hp,h,Bool.true_and,decide_eq_false hk0,decide_eq_false h2]; rfl
  ·have h:nameOk (l[k]).name true=true:=h
   unfold nameAt
   rw [hn,h,decide_eq_true (show k=0 by omega)]; rfl
  ·have h:nameOk (l[k]).name true=false:=h
   unfold nameAt
   rw [hn,h]; rfl
 ·rw [namesOk_all (fun k hk=>hJ k (by omega)),if_pos rfl] at hQ
  exact hQ
theorem poly_Check_ok (l:Pls):Fn Zcl [plsD l] (iD (plsE l)):=fun Q hQ=>by
 refine Zl3 _ _ ?_
 unfold Zio
 refine path_Names_P_ok l _ ⟨rfl,rfl,iff_bne (fun h=>⟨trivial,?_⟩) (fun h hb=>?_)⟩
 ·have h:namesErr (plNames l)≠0:=h
  rw [plsE_n rfl h] at hQ; exact hQ
 have h:namesErr (plNames l)=0:=h
 rw [plsE_k h] at hQ
 rw [encPls_length] at hb ⊢
 refine Ziy Q _ _ hb (fun k=>∀ i (h:i<l.length),i<k→monosE (l[i]).monos=0) (fun k hk hJ2 K hK=>?_) (fun hJ2=>⟨trivial,?_⟩) 0 (Nat.zero_le _) (fun i _ hi=>by omega)
 ·simp only [encPls_getD _ k hk,List.drop_zero,List.drop_succ_cons,List.headD_cons,List.tail_cons,encPls_length]
  refine ⟨by omega,by omega,poly_checkOne_ok _ _ ⟨rfl,rfl,iff_bne (fun h1=>⟨trivial,?_⟩) (fun h1=>hK fun i hi hik=>?_)⟩⟩
  ·have h1:monosE (l[k]).monos≠0:=h1
   rw [firstE_take hk hJ2 h1] at hQ; exact hQ
  ·rcases Nat.lt_succ_iff_lt_or_eq.1 hik with h8 | h8
   ·exact hJ2 i hi h8
   ·subst h8; exact h1
 ·rw [firstE_none fun y hy=>by
   obtain ⟨i,hi,rfl⟩:=List.mem_iff_getElem.1 hy
   exact hJ2 i hi hi] at hQ
  exact hQ
structure PlOk (l:Pls):Prop where
 len:l.length≤256
 sort:∀ i j (hi:i<l.length) (hj:j<l.length),i<j→cmpN (l[i]).name (l[j]).name = -1
 mono:∀ y∈l,monosE y.monos=0
theorem plsE_zero {l:Pls} (h:plsE l=0):PlOk l:=by
 have hl2:(plNames l).length=l.length:=by simp [plNames]
 unfold plsE at h
 split at h
 ·rename_i h1; exact absurd h h1
 ·rename_i h1
  obtain ⟨n1,n2⟩:=namesErr_zero (by omega:namesErr (plNames l)=0)
  refine ⟨by omega,?_,firstE_zero h⟩
  have step:∀ j (hj:j+1<l.length),cmpN (l[j]'(by omega)).name (l[j+1]).name = -1:=fun j hj=>by
   have:=namesOk_at n2 (k:=j+1) (by omega)
   unfold nameAt at this
   simp only [Bool.and_eq_true,Bool.or_eq_true,decide_eq_true_iff] at this
   rcases this.2 with h | h
   ·omega
   ·rw [show j+1 - 1=j by omega,plNames_getD l j (by omega),plNames_getD l (j+1) hj] at h
    exact h
  intro i j hi hj hij
  induction j with
  | zero=>omega
  | succ j ih =>
   rcases Nat.lt_succ_iff_lt_or_eq.1 hij with h8 | rfl
   ·exact cmpN_trans (ih (by omega) h8) (step j hj)
   ·exact step i hj
theorem strings_Compare_ok (a b:ByteArray):Fn Zed [sD a,sD b] (iD (cmpN a b)):=fun Q hQ=>by
 refine Zju _ _ _ ?_
 unfold Ze6
 refine ZfJ _ _ _ ?_
 exact ⟨trivial,rfl,rfl,trivial,hQ⟩
theorem interpretation_1_ok (x:Pl) (b:ByteArray):Fn ZO [plD x,sD b] (iD (cmpN x.name b)):=fun Q hQ=>by
 refine ZfG _ _ _ _ ?_
 unfold Zds
 exact strings_Compare_ok _ b _ ⟨rfl,rfl,trivial,hQ⟩
theorem mid_eq (lo hi:Nat) (h:lo+hi≤1000):IntKind.i64.wrap ((IntKind.u64.wrap (IntKind.i64.wrap ((lo:Int)+(hi:Int)))).fdiv (2 ^ (min ((1:Int)).toNat IntKind.u64.bits)))=(((lo+hi) / 2:Nat):Int):=by
 rw [wrap_in ((lo:Int)+(hi:Int)) (by omega) (by omega),wrap_u64 _ (by omega) (by omega)]
 have e:(2:Int) ^ (min ((1:Int)).toNat IntKind.u64.bits)=2:=rfl
 rw [e,Int.fdiv_eq_ediv_of_nonneg _ (by omega),wrap_in _ (by omega) (by omega)]
 omega
theorem search_Poly_ok {l:Pls} (hl:PlOk l) (x:ByteArray) (Q:D→Heap→Prop)
  (hQ:∀ (i:Nat) (b:Bool),(b=true→∃ h:i<l.length,(l[i]).name=x)→(b=false→∀ y∈l,y.name≠x)→Q (.tup [iD i,bD b]) []) :
  cl Zab [plsD l,sD x,.fn ZO []] [] Q:=by
 have hn:=hl.len
 refine ZaB _ _ _ fun hb=>?_
 rw [encPls_length] at hb ⊢
 refine Zan Q (fun x0 x1 x8 x9 x10=>x0=encPls l∧x1=x∧x8=(l.length:Int)∧∃ lo hi:Nat,x9=lo∧x10=hi∧lo≤hi∧hi≤l.length∧(∀ k (h:k<l.length),k<lo→cmpN (l[k]).name x = -1)∧(∀ k (h:k<l.length),hi≤k→cmpN (l[k]).name x≠-1)) (fun x0 x1 x8 x9 x10=>(x10 - x9).toNat) (fun x0 x1 x8 x9 x10 hI m0 hK=>?_) _ _ _ _ _ ⟨rfl,rfl,rfl,0,l.length,rfl,rfl,Nat.zero_le _,Nat.le_refl _,fun k _ h=>by omega,fun k h h'=>by omega⟩
 obtain ⟨rfl,rfl,rfl,lo,hi,rfl,rfl,h1,h2,h3,h4⟩:=hI
 unfold Zn
 rw [mid_eq lo hi (by omega),encPls_length]
 refine iff_dec (fun h=>?_) (fun h=>?_)
 ·have hm:(lo+hi) / 2<l.length:=by omega
  rw [Int.toNat_natCast]
  simp only [encPls_getD _ _ hm,List.drop_zero,List.headD_cons,List.tail_cons]
  refine ⟨by omega,by omega,by omega,interpretation_1_ok (l[(lo+hi) / 2]) x1 _ ⟨rfl,rfl,iff_dec (fun h5=>?_) (fun h5=>?_)⟩⟩
  ·have h5:cmpN (l[(lo+hi) / 2]).name x1<0:=h5
   rw [wrap_in _ (by omega) (by omega)]
   refine hK _ _ _ _ _ ⟨rfl,rfl,rfl,(lo+hi) / 2+1,hi,by omega,rfl,by omega,h2,fun k hk hlt=>?_,h4⟩ (by omega)
   have h6:cmpN (l[(lo+hi) / 2]).name x1 = -1:=by rcases cmpN_cases (l[(lo+hi) / 2]).name x1 with h | h | h <;> omega
   rcases Nat.lt_succ_iff_lt_or_eq.1 hlt with h8 | rfl
   ·exact cmpN_trans (hl.sort k _ hk hm h8) h6
   ·exact h6
  ·have h5:¬ cmpN (l[(lo+hi) / 2]).name x1<0:=h5
   refine hK _ _ _ _ _ ⟨rfl,rfl,rfl,lo,(lo+hi) / 2,rfl,rfl,by omega,by omega,h3,fun k hk hle he=>?_⟩ (by omega)
   rcases Nat.lt_or_eq_of_le hle with h8 | rfl
   ·have:=cmpN_trans (hl.sort _ k hm hk h8) he
    omega
   ·omega
 ·have e:lo=hi:=by omega
  subst e
  refine iff_dec (fun h5=>?_) (fun h5=>⟨⟨trivial,trivial,trivial⟩,hQ _ _ (fun h=>by cases h) fun _ y hy he=>?_⟩)
  ·have hlo:lo<l.length:=by omega
   rw [Int.toNat_natCast]
   simp only [encPls_getD _ _ hlo,List.drop_zero,List.headD_cons,List.tail_cons]
   refine ⟨by omega,by omega,interpretation_1_ok (l[lo]) x1 _ ⟨rfl,rfl,⟨trivial,trivial,trivial⟩,hQ lo (cmpN (l[lo]).name x1 == 0) (fun h6=>⟨hlo,?_⟩) (fun h6 y hy he=>?_)⟩⟩
   ·rw [beq_iff_eq] at h6; exact cmpN_zero.1 h6
   ·obtain ⟨k,hk,rfl⟩:=List.mem_iff_getElem.1 hy
    have hz:=cmpN_zero.2 he
    rcases Nat.lt_trichotomy k lo with h7 | rfl | h7
    ·have:=h3 k hk h7; omega
    ·rw [hz] at h6; cases h6
    ·have h8:=h4 lo hlo (Nat.le_refl _)
     have h9:=hl.sort lo k hlo hk h7
     rw [he] at h9
     exact h8 h9
  ·obtain ⟨k,hk,rfl⟩:=List.mem_iff_getElem.1 hy
   have hz:=cmpN_zero.2 he
   have:=h3 k hk (by omega)
   omega
abbrev yD0 (x:ByteArray) (n:Nat):D:=.agg [sD x,iD n]
def defQ (n:Nat):Mos:=(List.range n).map fun i=>⟨1,unitE n i⟩
def entQ (l:Pls) (x:ByteArray) (n:Nat):Mos×Bool:=match l.find? fun y=>decide (y.name=x) with
 | some y=>entK y n
 | none=>(defQ n,true)
theorem entQ_some {l:Pls} {x:ByteArray} {n:Nat} {y:Pl} (h:l.find? (fun y=>decide (y.name=x))=some y):entQ l x n=entK y n:=by unfold entQ; rw [h]
theorem entQ_none {l:Pls} {x:ByteArray} {n:Nat} (h:l.find? (fun y=>decide (y.name=x))=none):entQ l x n=(defQ n,true):=by unfold entQ; rw [h]
theorem entQ_perm (l:Pls) (x:ByteArray) (n:Nat):(entQ l x n).1.Perm (entPl l x n).1∧(entQ l x n).2=(entPl l x n).2:=by
 unfold entQ
 cases h:l.find? fun y=>decide (y.name=x) with
 | some y=>rw [entPl_some h]; exact ⟨.refl _,rfl⟩
 | none =>
  rw [entPl_none h]
  refine ⟨?_,rfl⟩
  show (defQ n).Perm (defP n)
  unfold defQ defP
  exact (List.reverse_perm _).symm.map _
theorem poly_interpretation_ok {l:Pls} (hl:PlOk l) (x:ByteArray) (n:Nat) (hn:n≤1048576):Fn Zu [plsD l,yD0 x n] (.tup [msD (entQ l x n).1,bD (entQ l x n).2]):=fun Q hQ=>by
 refine Zgp _ _ _ _ ?_
 unfold Zd0
 refine search_Poly_ok hl x _ fun i b ht hf=>⟨rfl,rfl,iff_intro (fun h=>?_) (fun h=>?_)⟩
 ·have h:b=true:=h
  obtain ⟨hi,hx⟩:=ht h
  have hfind:=find_first hi hx fun j hj hji e=>by
   have:=hl.sort j i hj hi hji
   rw [e,hx,cmpN_self] at this; cases this
  rw [entQ_some hfind] at hQ
  show 0≤(i:Int)∧(i:Int)<_∧_
  have hg:(encPls l).getD ((i:Int)).toNat []=[.s (l[i]).name,.l (encMos (l[i]).monos)]:=by rw [Int.toNat_natCast]; exact encPls_getD l i hi
  have hg2:(encPls l).getD (((D.tup [iD i,bD b]).parts.headD .undef).V.int).toNat []=[.s (l[i]).name,.l (encMos (l[i]).monos)]:=hg
  rw [hg2,encPls_length]
  simp only [List.drop_succ_cons,List.drop_zero,List.headD_cons]
  refine ⟨by omega,by omega,?_⟩
  unfold entK at hQ
  generalize l[i]=y at hQ
  have e1:((V.list (V.l (encMos y.monos))).length:Int)=y.monos.length:=by show ((encMos _).length:Int)=_; rw [encMos_length]
  rw [e1]
  cases hm:y.monos with
  | nil =>
   rw [hm] at hQ
   exact iff_yes rfl ⟨⟨trivial,trivial,trivial⟩,hQ⟩
  | cons z r =>
   rw [hm] at hQ
   refine iff_no (by show (((z::r).length:Int) == 0)=false; simp; omega) ⟨by omega,by show (0:Int)<((z::r).length:Int); simp,⟨trivial,trivial,trivial⟩,?_⟩
   have e2:(V.list (V.l (encMos (z::r)))).getD ((0:Int)).toNat []=[.i z.coef,.l (encP z.exps)]:=rfl
   rw [e2]
   have e3:((V.list (V.l (encP z.exps))).length:Int)=z.exps.length:=by show ((encP _).length:Int)=_; rw [encP_length]
   simp only [List.drop_succ_cons,List.drop_zero,List.headD_cons,e3]
   have e4:(((z.exps.length:Nat):Int) == (n:Int))=((z::r).isEmpty||decide (((z::r).headD ⟨0,[]⟩).exps.length=n)):=by
    show _=decide (z.exps.length=n)
    rw [Bool.eq_iff_iff,beq_iff_eq,decide_eq_true_iff]; omega
   rw [e4]
   exact hQ
 ·have h:b=false:=h
  have hno:=hf h
  have hfind:l.find? (fun y=>decide (y.name=x))=none:=by
   rw [List.find?_eq_none]
   intro y hy
   have:=hno y hy
   simpa using this
  rw [entQ_none hfind] at hQ
  refine ZeG Q _ _ n (by rw [big_eq]; omega) (fun k m y=>y=encMos ((defQ n).take k)∧m=y.length) (fun k m y hk hJ K hK=>?_) (fun m y hJ=>?_) 0 _ _ (Nat.zero_le _) ⟨rfl,rfl⟩
  ·obtain ⟨rfl,rfl⟩:=hJ
   have hql:(defQ n).length=n:=by simp [defQ]
   have hyl:(encMos ((defQ n).take k)).length=k:=by rw [encMos_length,List.length_take,hql]; omega
   simp only [zeroRow_int,encP_length,zerosE_length,Int.toNat_natCast]
   rw [encP_set _ _ _ (by rw [zerosE_length]; exact hk),unitE_set n k hk,encP_length,unitE_length]
   refine ⟨by omega,trivial,by unfold lim; omega,trivial,by omega,by omega,trivial,hk,rfl,trivial,by rw [hyl]; show k+1≤lim; unfold lim; omega,hK _ _ ⟨?_,?_⟩⟩
   ·rw [List.take_succ_eq_append_getElem (by rw [hql]; exact hk),encMos_append]
    have e:(defQ n)[k]'(by rw [hql]; exact hk)=⟨1,unitE n k⟩:=by simp [defQ]
    rw [e]; rfl
   ·rw [List.length_append]
  ·obtain ⟨rfl,rfl⟩:=hJ
   refine ⟨⟨rfl,trivial,trivial⟩,?_⟩
   rw [List.take_of_length_le (by simp [defQ])]
   exact hQ
end Go.Proofs.YthhnadeoioeniaaGreat
namespace Go.Proofs.YthhnadeoioeniaaGreat
open Go Go.Abs
theorem bitOr_nat (x y:Nat) (hx:x<9223372036854775808) (hy:y<9223372036854775808):bitOr .i64 x y=((x ||| y:Nat):Int):=by
 unfold bitOr
 have hb:(IntKind.i64).bits=64:=rfl
 have e:(BitVec.ofInt (IntKind.i64).bits (x:Int) ||| BitVec.ofInt (IntKind.i64).bits (y:Int)).toNat=x ||| y:=by
  rw [hb,BitVec.toNat_or]
  rw [show BitVec.ofInt 64 (x:Int)=BitVec.ofNat 64 x from BitVec.ofInt_natCast 64 _,show BitVec.ofInt 64 (y:Int)=BitVec.ofNat 64 y from BitVec.ofInt_natCast 64 _,BitVec.toNat_ofNat,BitVec.toNat_ofNat,Nat.mod_eq_of_lt (by omega),Nat.mod_eq_of_lt (by omega)]
 rw [e]
 have h:=Nat.or_lt_two_pow (x:=x) (y:=y) (n:=63) hx hy
 exact wrap_in _ (by omega) (by omega)
theorem bitAnd_mask (x:Nat) (hx:x<18446744073709551616):bitAnd .u64 x 4294967295=((x % 4294967296:Nat):Int):=by
 unfold bitAnd
 have hb:(IntKind.u64).bits=64:=rfl
 have e:(BitVec.ofInt (IntKind.u64).bits (x:Int) &&& BitVec.ofInt (IntKind.u64).bits (4294967295:Int)).toNat=x % 4294967296:=by
  rw [hb,BitVec.toNat_and]
  rw [show BitVec.ofInt 64 (x:Int)=BitVec.ofNat 64 x from BitVec.ofInt_natCast 64 _,show BitVec.ofInt 64 (4294967295:Int)=BitVec.ofNat 64 4294967295 from rfl,BitVec.toNat_ofNat,BitVec.toNat_ofNat,Nat.mod_eq_of_lt (by omega)]
  rw [show 4294967295 % 2 ^ 64=2 ^ 32 - 1 from rfl,Nat.and_two_pow_sub_one_eq_mod]
 rw [e]
 exact wrap_u64 _ (by omega) (by omega)
theorem or_add (a b i p:Nat) (hp:2 ^ i=p) (h:b<p):(a*p) ||| b=a*p+b:=by
 subst hp
 rw [Nat.mul_comm,Nat.two_pow_add_eq_or_of_lt h]
theorem mul_lt' {a q p M:Nat} (h:a<q) (hp:q*p≤M) (h0:0<p):a*p<M:=Nat.lt_of_lt_of_le (Nat.mul_lt_mul_of_pos_right h h0) hp
theorem fdiv_nat (n:Nat) (d:Nat):((n:Nat):Int).fdiv ((d:Nat):Int)=((n / d:Nat):Int):=by
 rw [Int.fdiv_eq_ediv_of_nonneg _ (by omega)]; rfl
theorem u8_wrap (n:Nat):(IntKind.u8.wrap (n:Int))=((n % 256:Nat):Int):=by
 simp only [IntKind.wrap,IntKind.signed,IntKind.bits,Bool.false_and,Bool.false_eq_true,if_false]; omega
theorem ofNat_mod (n:Nat):UInt8.ofNat (n % 256)=UInt8.ofNat n:=by
 apply UInt8.toNat_inj.1
 simp only [UInt8.toNat_ofNat']; omega
theorem poly_power_ok (i:Nat) (e:Int) (he:0≤e):Fn Zej [iD i,iD e] (sD (byL (powL i e))):=fun Q hQ=>by
 refine Zma _ _ _ ?_
 unfold ZiT
 refine ⟨by omega,by omega,by omega,by omega,trivial,?_⟩
 obtain ⟨n,rfl⟩:∃ n:Nat,e=n:=⟨e.toNat,by omega⟩
 have p8:(2:Int) ^ (min ((8:Int)).toNat IntKind.i64.bits)=((256:Nat):Int):=rfl
 have p16:(2:Int) ^ (min ((16:Int)).toNat IntKind.i64.bits)=((65536:Nat):Int):=rfl
 have p24:(2:Int) ^ (min ((24:Int)).toNat IntKind.i64.bits)=((16777216:Nat):Int):=rfl
 rw [p8,p16,p24,fdiv_nat,fdiv_nat,fdiv_nat,fdiv_nat,u8_wrap,u8_wrap,u8_wrap,u8_wrap,u8_wrap,u8_wrap]
 have e0:strV [[V.i ((i / 256 % 256:Nat):Int)],[V.i ((i % 256:Nat):Int)],[V.i ((n / 16777216 % 256:Nat):Int)],[V.i ((n / 65536 % 256:Nat):Int)],[V.i ((n / 256 % 256:Nat):Int)],[V.i ((n % 256:Nat):Int)]]=byL (powL i (n:Int)):=by
  unfold strV byL powL
  simp only [List.map_cons,List.map_nil,List.headD_cons,V.int,Int.toNat_natCast,ofNat_mod]
 rw [e0]; exact hQ
theorem byL_list (l:List UInt8):(byL l).data.toList=l:=by simp [byL]
theorem byL_size (l:List UInt8):(byL l).size=l.length:=by rw [← ba_size,byL_list]
theorem byL_append (l m:List UInt8):byL l++byL m=byL (l++m):=ba_ext (by simp [byL])
theorem byL_extract (l:List UInt8) (i j:Nat):(byL l).extract i j=byL ((l.take j).drop i):=ba_ext (by rw [extract_list,byL_list,byL_list])
theorem byL_eq_nil (l:List UInt8):(byL l).toList == (ByteArray.mk #[]).toList↔l=[]:=by
 rw [ba_toList,ba_toList,byL_list,beq_iff_eq]
theorem powL_length (i:Nat) (e:Int):(powL i e).length=6:=rfl
theorem u8_lt256 (b:UInt8):b.toNat<256:=b.toNat_lt
theorem poly_first_ok (i:Nat) (e:Int) (r:List UInt8) (hi:i<65536) (he:0≤e) (he2:e<4294967296):Fn Zeh [sD (byL (powL i e++r))] (.tup [iD i,iD e]):=fun Q hQ=>by
 refine Zmn _ _ ?_
 unfold ZiU
 have hsz:(byL (powL i e++r)).size=6+r.length:=by rw [byL_size,List.length_append,powL_length]
 rw [hsz,byL_list]
 have p8:(2:Int) ^ (min ((8:Int)).toNat IntKind.i64.bits)=((256:Nat):Int):=rfl
 have p16:(2:Int) ^ (min ((16:Int)).toNat IntKind.i64.bits)=((65536:Nat):Int):=rfl
 have p24:(2:Int) ^ (min ((24:Int)).toNat IntKind.i64.bits)=((16777216:Nat):Int):=rfl
 rw [p8,p16,p24]
 have g0:(powL i e++r).getD ((0:Int)).toNat 0=UInt8.ofNat (i / 256):=rfl
 have g1:(powL i e++r).getD ((1:Int)).toNat 0=UInt8.ofNat i:=rfl
 have g2:(powL i e++r).getD ((2:Int)).toNat 0=UInt8.ofNat (e.toNat / 16777216):=rfl
 have g3:(powL i e++r).getD ((3:Int)).toNat 0=UInt8.ofNat (e.toNat / 65536):=rfl
 have g4:(powL i e++r).getD ((4:Int)).toNat 0=UInt8.ofNat (e.toNat / 256):=rfl
 have g5:(powL i e++r).getD ((5:Int)).toNat 0=UInt8.ofNat e.toNat:=rfl
 rw [g0,g1,g2,g3,g4,g5]
 have v1:=powL_var hi
 have v2:=powL_exp he he2
 have b0:=u8_lt256 (UInt8.ofNat (i / 256))
 have b1:=u8_lt256 (UInt8.ofNat i)
 have b2:=u8_lt256 (UInt8.ofNat (e.toNat / 16777216))
 have b3:=u8_lt256 (UInt8.ofNat (e.toNat / 65536))
 have b4:=u8_lt256 (UInt8.ofNat (e.toNat / 256))
 have b5:=u8_lt256 (UInt8.ofNat e.toNat)
 generalize (UInt8.ofNat (i / 256)).toNat=c0 at v1 b0 ⊢
 generalize (UInt8.ofNat i).toNat=c1 at v1 b1 ⊢
 generalize (UInt8.ofNat (e.toNat / 16777216)).toNat=c2 at v2 b2 ⊢
 generalize (UInt8.ofNat (e.toNat / 65536)).toNat=c3 at v2 b3 ⊢
 generalize (UInt8.ofNat (e.toNat / 256)).toNat=c4 at v2 b4 ⊢
 generalize (UInt8.ofNat e.toNat).toNat=c5 at v2 b5 ⊢
 have w:∀ c:Nat,c<256→IntKind.i64.wrap (c:Int)=c:=fun c h=>wrap_in _ (by omega) (by omega)
 have m:∀ c d:Nat,c<256→d≤16777216→IntKind.i64.wrap ((c:Int)*((d:Nat):Int))=((c*d:Nat):Int):=fun c d h h2=>by
  rw [← Int.natCast_mul]
  have:c*d≤255*16777216:=Nat.mul_le_mul (by omega) h2
  exact wrap_in _ (by omega) (by omega)
 rw [w c0 b0,w c1 b1,w c2 b2,w c3 b3,w c4 b4,w c5 b5,m c0 256 b0 (by omega),m c2 16777216 b2 (by omega),m c3 65536 b3 (by omega),m c4 256 b4 (by omega)]
 rw [bitOr_nat (c0*256) c1 (mul_lt' b0 (by simp) (by simp)) (by omega),or_add c0 c1 8 256 (by simp) b1]
 rw [bitOr_nat (c2*16777216) (c3*65536) (mul_lt' b2 (by simp) (by simp)) (mul_lt' b3 (by simp) (by simp)),or_add c2 (c3*65536) 24 16777216 (by simp) (mul_lt' b3 (by simp) (by simp))]
 obtain ⟨d,hd⟩:∃ d,d=c2*256+c3:=⟨_,rfl⟩
 have e1:c2*16777216+c3*65536=d*65536:=by rw [hd,Nat.add_mul,Nat.mul_assoc]
 have hd2:d<65536:=by omega
 rw [e1,bitOr_nat (d*65536) (c4*256) (mul_lt' hd2 (by simp) (by simp)) (mul_lt' b4 (by simp) (by simp)),or_add d (c4*256) 16 65536 (by simp) (mul_lt' b4 (by simp) (by simp))]
 obtain ⟨g,hg⟩:∃ g,g=d*256+c4:=⟨_,rfl⟩
 have e2:d*65536+c4*256=g*256:=by rw [hg,Nat.add_mul,Nat.mul_assoc]
 have hg2:g<16777216:=by omega
 rw [e2,bitOr_nat (g*256) c5 (mul_lt' hg2 (by simp) (by simp)) (by omega),or_add g c5 8 256 (by simp) b5]
 have f1:c0*256+c1=i:=v1
 have f2:((g*256+c5:Nat):Int)=e:=by
  have:g*256+c5=e.toNat:=by rw [← v2,← e2,← e1]
  rw [this]; exact Int.toNat_of_nonneg he
 rw [f1,f2]
 exact ⟨by omega,by omega,by omega,by omega,by omega,by omega,by omega,by omega,by omega,by omega,by omega,by omega,by omega,by omega,by omega,by omega,⟨trivial,trivial,trivial⟩,hQ⟩
theorem keyL_length:∀ (l:List Int) (i:Nat),(keyL i l).length≤6*l.length
 | [],_=>by simp [keyL]
 | e::r,i=>by
  have:=keyL_length r (i+1)
  rw [keyL,List.length_append,List.length_cons]
  split
  ·rw [powL_length]; omega
  ·simp; omega
theorem drop6 (x:Nat) (n:Int) (a:List UInt8):(byL (powL x n++a)).extract ((6:Int)).toNat ((((byL (powL x n++a)).size:Nat):Int)).toNat=byL a:=by
 rw [Int.toNat_natCast,byL_extract,byL_size,List.take_length]; rfl
theorem take6 (x:Nat) (n:Int) (a:List UInt8):(byL (powL x n++a)).extract ((0:Int)).toNat ((6:Int)).toNat=byL (powL x n):=by
 rw [byL_extract]; rfl
theorem poly_times_ok (e f:List Int) (hl:e.length=f.length) (he:∀ x∈e,0≤x∧x≤1048576) (hf:∀ x∈f,0≤x∧x≤1048576) (hn:e.length≤65536) :
  Fn Zgl [sD (keyB e),sD (keyB f)] (.tup [sD (if expsOk (addE e f) then keyB (addE e f) else bz),bD (expsOk (addE e f))]):=fun Q hQ=>by
 refine Zmk _ _ _ ?_
 unfold Zih
 obtain ⟨T,hT⟩:∃ T,keyL 0 (addE e f)=T:=⟨_,rfl⟩
 obtain ⟨ok,hok⟩:∃ ok,expsOk (addE e f)=ok:=⟨_,rfl⟩
 have hst:=TI.start e f hl he hf hn
 rw [hT,hok] at hst
 have k1:=keyL_length e 0
 have k2:=keyL_length f 0
 rw [hok] at hQ
 refine Zi4 Q (fun x0 x1 x6=>∃ o a b:List UInt8,x0=byL a∧x1=byL b∧x6=byL o∧o.length+a.length+b.length≤1048576∧TI T ok o a b) (fun x0 x1 x6=>x0.size+x1.size) (fun x0 x1 x6 hI m0 hK=>?_) _ _ _ ⟨[],keyL 0 e,keyL 0 f,rfl,rfl,rfl,by simp; omega,hst⟩
 obtain ⟨o,a,b,rfl,rfl,rfl,hlen,h⟩:=hI
 unfold ZeS
 have fin:(a=[]∨b=[])→(byL o).size+(byL a).size≤lim∧(byL o++byL a).size+(byL b).size≤lim∧(True∧True∧True)∧Q (.tup [.v .str (.s ((byL o++byL a)++byL b)),.v .bool (V.b true)]) []:=fun hab=>by
  obtain ⟨h1,h2⟩:=h.done hab
  rw [byL_append,byL_append,byL_size,byL_size,byL_size,byL_size,List.length_append]
  refine ⟨by unfold lim; omega,by unfold lim; omega,⟨trivial,trivial,trivial⟩,?_⟩
  rw [← h1,← hT]
  rw [h2,if_pos rfl] at hQ
  exact hQ
 refine iff_not (iff_intro (fun h1=>fin (.inl ((byL_eq_nil a).1 h1))) (fun h1=>iff_not (iff_intro (fun h2=>fin (.inr ((byL_eq_nil b).1 h2))) (fun h2=>?_))))
 have ha:a≠[]:=fun hn=>by rw [(byL_eq_nil a).2 hn] at h1; cases h1
 have hb:b≠[]:=fun hn=>by rw [(byL_eq_nil b).2 hn] at h2; cases h2
 rw [Zjc]
 unfold ZgG
 obtain ⟨x,y,n,m,a',b',rfl,rfl,hx,hy,hn0,hn1,hm0,hm1,t1,t2,t3,t4⟩:=h.step ha hb
 simp only [List.length_append,powL_length] at hlen
 have s1:(byL (powL x n++a')).size=6+a'.length:=by rw [byL_size,List.length_append,powL_length]
 have s2:(byL (powL y m++b')).size=6+b'.length:=by rw [byL_size,List.length_append,powL_length]
 refine poly_first_ok x n a' hx (by omega) (by omega) _ ⟨rfl,rfl,poly_first_ok y m b' hy (by omega) (by omega) _ ⟨rfl,rfl,iff_dec (fun h3=>?_) (fun h3=>iff_dec (fun h4=>?_) (fun h4=>?_))⟩⟩
 ·have h3:(x:Int)<y:=h3
  rw [take6,drop6,s1,byL_append]
  refine ⟨by omega,by omega,by omega,by rw [byL_size,byL_size,powL_length]; unfold lim; omega,by omega,by omega,by omega,hK _ _ _ ⟨o++powL x n,a',powL y m++b',rfl,rfl,rfl,?_,t1 (by omega)⟩ ?_⟩
  ·simp only [List.length_append,powL_length]; omega
  ·have sA:=byL_size a'; have sB:=byL_size b'; omega
 ·have h4:(y:Int)<x:=h4
  rw [take6,drop6,s2,byL_append]
  refine ⟨by omega,by omega,by omega,by rw [byL_size,byL_size,powL_length]; unfold lim; omega,by omega,by omega,by omega,hK _ _ _ ⟨o++powL y m,powL x n++a',b',rfl,rfl,rfl,?_,t2 (by omega)⟩ ?_⟩
  ·simp only [List.length_append,powL_length]; omega
  ·have sA:=byL_size a'; have sB:=byL_size b'; omega
 ·have h3:¬ (x:Int)<y:=h3
  have h4:¬ (y:Int)<x:=h4
  have hxy:x=y:=by omega
  have hw:IntKind.i64.wrap (n+m)=n+m:=wrap_in _ (by omega) (by omega)
  show iff (decide (IntKind.i64.wrap (n+m) > 1048576)) _ _
  rw [hw]
  refine iff_dec (fun h5=>⟨⟨trivial,trivial,trivial⟩,?_⟩) (fun h5=>⟨sD (byL (powL x (n+m))),?_,?_⟩)
  ·rw [t3 hxy (by omega)] at hQ
   exact hQ
  ·have:=(poly_power_ok x (n+m) (by omega)).here (r':=sD (byL (powL x (n+m)))) rfl
   show cl Zej [iD x,iD (IntKind.i64.wrap (n+m))] [] _
   rw [hw]; exact this
  ·show (byL o).size+(byL (powL x (n+m))).size≤lim∧_
   rw [drop6,drop6,s1,s2]
   refine ⟨by rw [byL_size,byL_size,powL_length]; unfold lim; omega,by omega,by omega,by omega,by omega,by omega,by omega,?_⟩
   show Za3 Q m0 (byL a') (byL b') (byL o++byL (powL x (n+m)))
   rw [byL_append]
   refine hK _ _ _ ⟨o++powL x (n+m),a',b',rfl,rfl,rfl,?_,t4 hxy (by omega)⟩ ?_
   ·simp only [List.length_append,powL_length]; omega
   ·have sA:=byL_size a'; have sB:=byL_size b'; omega
theorem bits_Mul64_ok (x y:Nat) (hx:x<18446744073709551616) (hy:y<18446744073709551616):Fn ZgS [wD x,wD y] (.tup [wD (x*y / 18446744073709551616),wD (x*y % 18446744073709551616)]):=fun Q hQ=>by
 refine Zmg _ _ _ ?_
 unfold Ziw
 have p32:(2:Int) ^ (min ((32:Int)).toNat IntKind.u64.bits)=((4294967296:Nat):Int):=rfl
 rw [p32,fdiv_nat,fdiv_nat,bitAnd_mask x hx,bitAnd_mask y hy]
 obtain ⟨m1,m2,m3,m4,m5,m6,m7,m8,m9⟩:=mul64_plain x y hx hy
 have elo:IntKind.u64.wrap ((x:Int)*(y:Int))=((x*y % 18446744073709551616:Nat):Int):=by
  rw [← Int.natCast_mul]
  generalize x*y=z
  simp only [IntKind.wrap,IntKind.signed,IntKind.bits,Bool.false_and,Bool.false_eq_true,if_false]; omega
 rw [elo]
 have mw:∀ a b:Nat,a*b<18446744073709551616→IntKind.u64.wrap ((a:Int)*(b:Int))=((a*b:Nat):Int):=fun a b h=>by
  rw [← Int.natCast_mul]; exact wrap_u64 _ (by omega) (by omega)
 have aw:∀ a b:Nat,a+b<18446744073709551616→IntKind.u64.wrap ((a:Int)+(b:Int))=((a+b:Nat):Int):=fun a b h=>by
  rw [← Int.natCast_add]; exact wrap_u64 _ (by omega) (by omega)
 rw [mw _ _ m6,mw _ _ m2,mw _ _ m1,fdiv_nat,aw _ _ m3,fdiv_nat,aw _ _ m7,bitAnd_mask _ m3,mw _ _ m4,aw _ _ m5,fdiv_nat,aw _ _ m8,m9]
 exact ⟨by omega,by omega,by omega,by omega,by omega,⟨trivial,trivial,trivial⟩,hQ⟩
theorem poly_mul_ok (x y:Nat) (hx:x<18446744073709551616) (hy:y<18446744073709551616) {Q:D→Heap→Prop}
  (h1:x*y≤4611686018427387904→Q (.tup [wD (x*y),bD true]) []) (h2:¬ x*y≤4611686018427387904→∀ z:Nat,Q (.tup [wD z,bD false]) []):cl Zjr [wD x,wD y] [] Q:=by
 refine ZmO _ _ _ ?_
 unfold ZkF
 refine bits_Mul64_ok x y hx hy _ ⟨rfl,rfl,iff_beq (fun h=>⟨⟨trivial,trivial,trivial⟩,?_⟩) (fun h=>⟨⟨trivial,trivial,trivial⟩,?_⟩)⟩
 ·have h:((x*y / 18446744073709551616:Nat):Int)=0:=h
  generalize hz:x*y=z at h1 h2 h
  show Q (.tup [wD (z % 18446744073709551616),.v .bool (V.b (decide (((z % 18446744073709551616:Nat):Int)≤4611686018427387904)))]) []
  have e:z % 18446744073709551616=z:=by omega
  rw [e]
  by_cases h3:z≤4611686018427387904
  ·rw [decide_eq_true (by omega)]; exact h1 h3
  ·rw [decide_eq_false (by omega)]; exact h2 h3 z
 ·have h:((x*y / 18446744073709551616:Nat):Int)≠0:=h
  refine h2 (fun h3=>?_) _
  generalize x*y=z at h h3
  omega
def encPm (m:Pm):LL:=m.map fun p=>[V.s p.1,V.i (p.2:Nat)]
theorem encPm_length (m:Pm):(encPm m).length=m.length:=by simp [encPm]
theorem mget_Pm (k:ByteArray):∀ m:Pm,mget [.str] [V.i 0] [V.s k] (encPm m)=[V.i (lookP m k:Nat)]
 | []=>rfl
 | p::m=>by
  have ih:=mget_Pm k m
  rw [lookP_cons]
  show (mlook [.str] [V.s k] ([V.s p.1,V.i (p.2:Nat)]::encPm m)).getD [V.i 0]=_
  rw [mlook,keyEqS]
  by_cases h:k=p.1
  ·rw [if_pos h,decide_eq_true h]; rfl
  ·rw [if_neg h,decide_eq_false h]; exact ih
theorem mset_Pm (k:ByteArray) (n:Nat):∀ m:Pm,mset [.str] [V.s k] [V.i (n:Nat)] (encPm m)=encPm (setP m k n)
 | []=>rfl
 | p::m=>by
  have ih:=mset_Pm k n m
  show mset [.str] [V.s k] [V.i (n:Nat)] ([V.s p.1,V.i (p.2:Nat)]::encPm m)=_
  rw [mset,keyEqS,setP]
  by_cases h:k=p.1
  ·rw [if_pos h,decide_eq_true h]; rfl
  ·rw [if_neg h,decide_eq_false h]
   show _::mset _ _ _ (encPm m)=_
   rw [ih]; rfl
def addOk (m:Pm) (k:ByteArray) (n:Nat):Bool:=decide (lookP m k+n≤4611686018427387904)&&decide ((setP m k (lookP m k+n)).length≤4096)
theorem poly_add_ok (m:Pm) (k:ByteArray) (n:Nat) (h:lookP m k+n<18446744073709551616) {Q:D→Heap→Prop} (hQ:Q (bD (addOk m k n)) [.map Zc (encPm (setP m k (lookP m k+n)))]) :
  cl Zbc [.mp (.own 0),sD k,wD n] [.map Zc (encPm m)] Q:=by
 refine ZiV _ _ _ _ ?_
 unfold ZeQ
 rw [mget_Pm]
 have e:IntKind.u64.wrap (((List.headD [V.i (lookP m k:Nat)] V.none).int)+(n:Int))=((lookP m k+n:Nat):Int):=by
  show IntKind.u64.wrap (((lookP m k:Nat):Int)+(n:Int))=_
  rw [← Int.natCast_add]; exact wrap_u64 _ (by omega) (by omega)
 rw [e,mset_Pm,encPm_length]
 unfold addOk at hQ
 refine iff_intro ?_ ?_
 ·intro h1
  have h1:((lookP m k+n:Nat):Int)≤4611686018427387904:=of_decide_eq_true h1
  rw [decide_eq_true (by omega),Bool.true_and] at hQ
  refine ⟨trivial,?_⟩
  have e2:decide ((((setP m k (lookP m k+n)).length:Nat):Int)≤4096)=decide ((setP m k (lookP m k+n)).length≤4096):=by
   rw [Bool.eq_iff_iff,decide_eq_true_iff,decide_eq_true_iff]; omega
  rw [e2]; exact hQ
 ·intro h1
  have h1:¬ ((lookP m k+n:Nat):Int)≤4611686018427387904:=of_decide_eq_false h1
  rw [decide_eq_false (by omega),Bool.false_and] at hQ
  exact ⟨trivial,hQ⟩
end Go.Proofs.YthhnadeoioeniaaGreat
namespace Go.Proofs.YthhnadeoioeniaaGreat
open Go.Abs
theorem perm_map_ex {α β:Type} (f:α→β):∀ {m:List β} {l:List α},m.Perm (l.map f)→∃ l':List α,l'.Perm l∧l'.map f=m
 | [],l,h=>by
  have:=h.length_eq
  have:l=[]:=List.eq_nil_of_length_eq_zero (by simpa using this.symm)
  subst this
  exact ⟨[],.refl _,rfl⟩
 | x::m,l,h=>by
  have hx:x∈l.map f:=h.mem_iff.1 (by simp)
  obtain ⟨a,ha,rfl⟩:=List.mem_map.1 hx
  obtain ⟨s,t,rfl⟩:=List.append_of_mem ha
  have h2:(f a::m).Perm (f a::(s++t).map f):=by
   refine h.trans ?_
   rw [List.map_append,List.map_cons,List.map_append]
   exact List.perm_middle
  obtain ⟨l',h3,h4⟩:=perm_map_ex f (List.Perm.cons_inv h2)
  exact ⟨a::l',(h3.cons a).trans List.perm_middle.symm,by rw [List.map_cons,h4]⟩
theorem seen_ex {n:Nat} {s:List Nat} (hn:s.Nodup) (hs:∀ j∈s,j<n):∃ t,(s++t).Perm (List.range n):=by
 refine ⟨(List.range n).filter fun j=>decide (j ∉ s),?_⟩
 refine (List.perm_ext_iff_of_nodup ?_ List.nodup_range).2 fun a=>?_
 ·rw [List.nodup_append]
  refine ⟨hn,List.nodup_range.sublist List.filter_sublist,fun a ha b hb e=>?_⟩
  subst e
  have:=(List.mem_filter.1 hb).2
  simp at this
  exact this ha
 ·rw [List.mem_append,List.mem_filter,List.mem_range]
  constructor
  ·rintro (h | h)
   ·exact hs a h
   ·exact h.1
  ·intro h
   by_cases h2:a∈s
   ·exact .inl h2
   ·exact .inr ⟨h,by simp [h2]⟩
theorem seen_all {n:Nat} {s:List Nat} (hn:s.Nodup) (hs:∀ j∈s,j<n) (h:∀ j,j<n→j∈s):s.Perm (List.range n) :=
 (List.perm_ext_iff_of_nodup hn List.nodup_range).2 fun a=>⟨fun ha=>List.mem_range.2 (hs a ha),fun ha=>h a (List.mem_range.1 ha)⟩
theorem ZlC (A:Mos):(List.range A.length).map (fun j=>A.getD j dMo)=A:=by
 refine List.ext_getElem (by simp) fun i h1 h2=>?_
 rw [List.getElem_map,List.getElem_range,getD_at h2]
def colsP (A:Mos) (s:List Nat):Mos:=s.map fun j=>A.getD j dMo
theorem cols_all {A:Mos} {s:List Nat} (hn:s.Nodup) (hs:∀ j∈s,j<A.length) (h:∀ j,j<A.length→j∈s):(colsP A s).Perm A:=by
 have:=(seen_all hn hs h).map fun j=>A.getD j dMo
 rw [ZlC] at this
 exact this
theorem cols_ex {A:Mos} {s:List Nat} (hn:s.Nodup) (hs:∀ j∈s,j<A.length):∃ R,(colsP A s++R).Perm A:=by
 obtain ⟨t,ht⟩:=seen_ex hn hs
 have:=ht.map fun j=>A.getD j dMo
 rw [ZlC,List.map_append] at this
 exact ⟨_,this⟩
def rowsP (A B:Mos) (s:List Nat):Mos:=pairsP (colsP A s) B
theorem rows_cons (A B:Mos) (j:Nat) (s:List Nat):rowsP A B (j::s)=B.map (mulMo (A.getD j dMo))++rowsP A B s:=by
 unfold rowsP colsP pairsP
 rw [List.map_cons,List.flatMap_cons]
theorem rows_all {A B:Mos} {s:List Nat} (hn:s.Nodup) (hs:∀ j∈s,j<A.length) (h:∀ j,j<A.length→j∈s):(rowsP A B s).Perm (pairsP A B) :=
 pairsP_perm (cols_all hn hs h) (.refl _)
theorem rows_ex {A B:Mos} {s:List Nat} (hn:s.Nodup) (hs:∀ j∈s,j<A.length):∃ R,(rowsP A B s++R).Perm (pairsP A B):=by
 obtain ⟨R,hR⟩:=cols_ex hn hs
 refine ⟨pairsP R B,?_⟩
 have:=pairsP_perm hR (.refl B)
 unfold pairsP at this ⊢
 rw [List.flatMap_append] at this
 exact this
theorem pair_next {A B:Mos} {s s2:List Nat} {j j2:Nat} (hn:(j::s).Nodup) (hs:∀ k∈j::s,k<A.length) (hn2:(j2::s2).Nodup) (hs2:∀ k∈j2::s2,k<B.length) {pre:Mos}
  (hp:pre.Perm (rowsP A B s++(colsP B s2).map (mulMo (A.getD j dMo)))):∃ rest,(pre++mulMo (A.getD j dMo) (B.getD j2 dMo)::rest).Perm (pairsP A B):=by
 obtain ⟨R,hR⟩:=rows_ex (B:=B) hn hs
 obtain ⟨R2,hR2⟩:=cols_ex hn2 hs2
 refine ⟨R2.map (mulMo (A.getD j dMo))++R,?_⟩
 rw [rows_cons] at hR
 refine List.Perm.trans ?_ hR
 have h2:=hR2.map (mulMo (A.getD j dMo))
 rw [List.map_append] at h2
 have e:colsP B (j2::s2)=B.getD j2 dMo::colsP B s2:=rfl
 rw [e,List.map_cons] at h2
 generalize mulMo (A.getD j dMo) (B.getD j2 dMo)=x at h2 ⊢
 generalize (colsP B s2).map (mulMo (A.getD j dMo))=C at h2 hp
 generalize R2.map (mulMo (A.getD j dMo))=D at h2 ⊢
 generalize B.map (mulMo (A.getD j dMo))=E at h2 ⊢
 generalize rowsP A B s=W at hp ⊢
 -- pre ++ x :: (D ++ R) ~ (E ++ W) ++ R
 have h3:((x::(C++D))++(W++R)).Perm (E++W++R):=by
  rw [List.append_assoc E]
  exact h2.append (.refl _)
 refine List.Perm.trans ?_ h3
 refine (hp.append (.refl _)).trans ?_
 refine List.perm_middle.trans ?_
 rw [List.cons_append]
 refine .cons x ?_
 rw [List.append_assoc,List.append_assoc]
 refine (List.perm_append_comm_assoc W C (D++R)).trans ?_
 exact (List.perm_append_comm_assoc W D R).append_left C
theorem keyL_zeros:∀ (n i:Nat),keyL i (zerosE n)=[]
 | 0,_=>rfl
 | n+1,i=>by
  have:zerosE (n+1)=0::zerosE n:=List.replicate_succ
  rw [this,keyL,if_neg (by omega),List.nil_append,keyL_zeros n]
theorem keyB_zeros (n:Nat):keyB (zerosE n)=ByteArray.mk #[]:=by unfold keyB; rw [keyL_zeros]; rfl
theorem keyL_unit:∀ (n i j:Nat),i<n→keyL j ((List.range n).map fun k=>if k=i then 1 else 0)=powL (j+i) 1
 | 0,_,_,h=>by omega
 | n+1,0,j,_=>by
  rw [List.range_succ_eq_map,List.map_cons,List.map_map,keyL,if_pos rfl,if_pos (by omega)]
  have:((List.range n).map ((fun k=>if k=0 then (1:Int) else 0) ∘ Nat.succ))=zerosE n:=by
   unfold zerosE
   rw [List.eq_replicate_iff]
   refine ⟨by simp,fun b hb=>?_⟩
   obtain ⟨k,_,rfl⟩:=List.mem_map.1 hb
   simp
  rw [this,keyL_zeros,List.append_nil]; rfl
 | n+1,i+1,j,h=>by
  rw [List.range_succ_eq_map,List.map_cons,List.map_map,keyL,if_neg (by omega:¬ (0=i+1)),if_neg (by omega),List.nil_append]
  have:((List.range n).map ((fun k=>if k=i+1 then (1:Int) else 0) ∘ Nat.succ))=(List.range n).map fun k=>if k=i then 1 else 0:=by
   refine List.map_congr_left fun k _=>?_
   simp
  rw [this,keyL_unit n i (j+1) (by omega)]
  congr 1; omega
theorem keyB_unit {n i:Nat} (h:i<n):keyB (unitE n i)=byL (powL i 1):=by
 unfold keyB unitE
 rw [keyL_unit n i 0 h,Nat.zero_add]
theorem fits_pre (l:Pls):∀ t:Tm,t.formed=true→(fitsT l t=true↔∀ s∈t.pre,s.var=false→(entPl l s.name s.args.length).2=true):=Tm.ind fun t ih hf=>by
 rw [fitsT_eq,Tm.pre_eq,Tm.preL_eq]
 rw [Tm.formed_eq] at hf
 cases hv:t.var with
 | true =>
  rw [hv,if_pos rfl] at hf
  simp only [Bool.and_eq_true,List.isEmpty_iff] at hf
  rw [hf.2]
  simp only [Bool.true_or,true_iff]
  intro s hs hsv
  have:s=t:=by simpa using hs
  rw [this,hv] at hsv; cases hsv
 | false =>
  rw [hv,if_neg (by simp)] at hf
  simp only [Bool.and_eq_true] at hf
  have hfa:=List.all_eq_true.1 hf.2
  rw [Bool.false_or,Bool.and_eq_true,List.all_eq_true]
  constructor
  ·rintro ⟨h1,h2⟩ s hs hsv
   rcases List.mem_cons.1 hs with rfl | hs
   ·exact h1
   ·obtain ⟨a,ha,hs⟩:=List.mem_flatMap.1 hs
    exact (ih a ha (hfa a ha)).1 (h2 a ha) s hs hsv
  ·intro h
   refine ⟨h t (by simp) hv,fun a ha=>(ih a ha (hfa a ha)).2 fun s hs hsv=>h s (List.mem_cons_of_mem _ (List.mem_flatMap.2 ⟨a,ha,hs⟩)) hsv⟩
end Go.Proofs.YthhnadeoioeniaaGreat
namespace Go.Proofs.YthhnadeoioeniaaGreat
open Go Go.Abs
def encK (x:Mo):List V:=[V.s (keyB x.exps),V.i (x.coef:Nat)]
def encKs (A:Mos):LL:=A.map encK
abbrev mpD (A:Mos):D:=.v (.mp Zc) (.l (encKs A))
theorem encKs_length (A:Mos):(encKs A).length=A.length:=by simp [encKs]
theorem encKs_getD (A:Mos) (j:Nat) (h:j<A.length):(encKs A).getD j []=[V.s (keyB (A.getD j dMo).exps),V.i ((A.getD j dMo).coef:Nat)]:=by
 rw [getD_at h,encKs,List.getD_eq_getElem?_getD,List.getElem?_map,List.getElem?_eq_getElem h]; rfl
theorem encKs_eq (A:Mos):encKs A=encPm (A.map entP):=by
 unfold encKs encPm
 rw [List.map_map]; rfl
theorem getD_mem {A:Mos} {j:Nat} (h:j<A.length):A.getD j dMo∈A:=by rw [getD_at h]; exact List.getElem_mem h
theorem SmallP.one {n:Nat} {A:Mos} (h:SmallP n A) {x:Mo} (hx:x∈A):SmallP n [x]:=fun y hy=>by
 have:y=x:=by simpa using hy
 rw [this]; exact h x hx
theorem SmallP.exps {n:Nat} {A:Mos} (h:SmallP n A) {x:Mo} (hx:x∈A):x.exps.length=n∧(∀ e∈x.exps,0≤e∧e≤1048576)∧x.coef≤4611686018427387904:=by
 obtain ⟨h1,h2,h3⟩:=h x hx
 exact ⟨h1.1,fun e he=>⟨(h1.2 e he).1,h3 e he⟩,h2⟩
theorem SmallP.perm {n:Nat} {A B:Mos} (h:SmallP n A) (hp:B.Perm A):SmallP n B:=fun x hx=>h x (hp.mem_iff.1 hx)
theorem look_in {m:Pm} {k:ByteArray}:lookP m k=0∨∃ p∈m,p.2=lookP m k:=by
 induction m with
 | nil=>exact .inl rfl
 | cons p m ih =>
  rw [lookP_cons]
  by_cases h:k=p.1
  ·rw [if_pos h]; exact .inr ⟨p,by simp,rfl⟩
  ·rw [if_neg h]
   rcases ih with h2 | ⟨q,hq,e⟩
   ·exact .inl h2
   ·exact .inr ⟨q,by simp [hq],e⟩
theorem look_le {n:Nat} {m:Pm} {l:Mos} (hr:RepM m l) (hs:SmallP n l) (k:ByteArray):lookP m k≤4611686018427387904:=by
 rcases look_in (m:=m) (k:=k) with h | ⟨p,hp,e⟩
 ·omega
 ·obtain ⟨x,hx,rfl⟩:=List.mem_map.1 (List.Perm.mem_iff hr |>.1 hp)
  rw [← e]
  exact (hs x hx).2.1
def MulQ (n:Nat) (r:Option Mos) (Q:D→Prop):Prop:=match r with
 | some c=>∀ C:Mos,C.Perm c→SmallP n C→Q (.tup [mpD C,bD true])
 | none=>Q (.tup [mpD [],bD false])
theorem poly_multiply_ok {n:Nat} (hn:n≤65536) (A B:Mos) (ha:SmallP n A) (hb:SmallP n B) {Q:D→Heap→Prop} (hQ:MulQ n (mulP A B) fun r=>Q r []):cl ZeJ [mpD A,mpD B] [] Q:=by
 refine ZkA _ _ _ ?_
 unfold ZfW
 have no:mulP A B=none→(True∧True∧True)∧Q (.tup [.v (.mp Zc) (V.l []),.v .bool (V.b false)]) []:=fun h=>by
  rw [h] at hQ
  exact ⟨⟨trivial,trivial,trivial⟩,hQ⟩
 refine Zg9 Q (fun x1 y15 x n1 s=>x1=encKs B∧x=encKs A∧n1=A.length∧s.Nodup∧(∀ j∈s,j<A.length)∧∃ out pre,y15=encPm out∧MI n out pre∧pre.Perm (rowsP A B s)) (fun x1 y15 x n1 s=>A.length - s.length) (fun x1 y15 x n1 s hI m0 hK=>?_) _ _ _ _ _
  ⟨rfl,rfl,encKs_length A,List.nodup_nil,by simp,[],[],rfl,MI.start n,.refl _⟩
 obtain ⟨rfl,rfl,rfl,hs1,hs2,out,pre,rfl,hM,hpre⟩:=hI
 unfold ZdT
 refine ⟨encKs_length A,fun hall=>?_,fun j hj hjs hlt=>⟨encKs_length A,?_⟩⟩
 ·obtain ⟨d1,d2,d3⟩:=hM.done (hpre.trans (rows_all hs1 hs2 hall))
  rw [d1] at hQ
  obtain ⟨C,c1,c2⟩:=perm_map_ex entP d2
  have e:encPm out=encKs C:=by rw [encKs_eq,c2]
  rw [e]
  exact ⟨⟨trivial,trivial,trivial⟩,hQ C c1 (d3.perm c1)⟩
 ·rw [encKs_getD A j hj]
  have hin:=getD_mem hj
  obtain ⟨v1,v2,v3⟩:=ha.exps hin
  have hjN:(j::s).Nodup:=List.nodup_cons.2 ⟨hjs,hs1⟩
  have hjB:∀ k∈j::s,k<A.length:=fun k hk=>by
   rcases List.mem_cons.1 hk with rfl | hk
   ·exact hj
   ·exact hs2 k hk
  generalize hx:A.getD j dMo=x at v1 v2 v3 hin
  show ∃ m1,Zbe Q m0 m1 (encKs B) (V.s (keyB x.exps)) (V.i (x.coef:Nat)) (encPm out) (encKs A) A.length (j::s) (encKs B) (encKs B).length []
  refine Zg2 Q m0 (fun a1 a2 a3 a4 a5 a6 a7 a8 a9 a10=>a1=encKs B∧a2=V.s (keyB x.exps)∧a3=V.i (x.coef:Nat)∧a5=encKs A∧a6=A.length∧a7=j::s∧a8=encKs B∧a9=B.length∧a10.Nodup∧(∀ k∈a10,k<B.length) ∧
   ∃ out pre,a4=encPm out∧MI n out pre∧pre.Perm (rowsP A B s++(colsP B a10).map (mulMo x))) (fun a1 a2 a3 a4 a5 a6 a7 a8 a9 a10=>B.length - a10.length) (fun a1 a2 a3 a4 a5 a6 a7 a8 a9 a10 hI m1 hK1=>?_) _ _ _ _ _ _ _ _ _ _
   ⟨rfl,rfl,rfl,rfl,rfl,rfl,rfl,encKs_length B,List.nodup_nil,by simp,out,pre,rfl,hM,by simpa [colsP] using hpre⟩
  obtain ⟨rfl,rfl,rfl,rfl,rfl,rfl,rfl,rfl,t1,t2,out,pre,rfl,hM,hpre⟩:=hI
  unfold ZdB
  refine ⟨encKs_length B,fun hall=>?_,fun j2 hj2 hjs2 hlt2=>⟨encKs_length B,?_⟩⟩
  ·refine hK _ _ _ _ _ ⟨rfl,rfl,rfl,hjN,hjB,out,pre,rfl,hM,?_⟩ (by rw [List.length_cons]; omega)
   rw [rows_cons,hx]
   exact hpre.trans (List.perm_append_comm.trans (((cols_all t1 t2 hall).map (mulMo x)).append (.refl _)))
  ·rw [encKs_getD B j2 hj2]
   have hin2:=getD_mem hj2
   obtain ⟨w1,w2,w3⟩:=hb.exps hin2
   have hjN2:(j2::a10).Nodup:=List.nodup_cons.2 ⟨hjs2,t1⟩
   have hjB2:∀ k∈j2::a10,k<B.length:=fun k hk=>by
    rcases List.mem_cons.1 hk with rfl | hk
    ·exact hj2
    ·exact t2 k hk
   obtain ⟨rest,hrest⟩:=pair_next hjN hjB hjN2 hjB2 (pre:=pre) (by rw [hx]; exact hpre)
   rw [hx] at hrest
   have e9:colsP B (j2::a10)=B.getD j2 dMo::colsP B a10:=rfl
   generalize hy:B.getD j2 dMo=y at w1 w2 w3 hin2 hrest e9
   have hsx:=ha.one hin
   have hsy:=hb.one hin2
   refine poly_times_ok x.exps y.exps (by rw [v1,w1]) v2 w2 (by rw [v1]; exact hn) _ ⟨rfl,rfl,?_⟩
   refine poly_mul_ok x.coef y.coef (by omega) (by omega) (fun hm=>⟨rfl,rfl,?_⟩) (fun hm z=>⟨rfl,rfl,?_⟩)
   ·refine iff_not (iff_intro (fun h1=>?_) (fun h1=>no (MI.big hrest (.inl h1))))
    have h1:expsOk (addE x.exps y.exps)=true:=h1
    refine iff_not (iff_yes rfl ?_)
    rw [h1]
    have hbig:bigMo (mulMo x y)=false:=by
     rw [mulMo_big,h1,Bool.true_and,Bool.not_eq_false',decide_eq_true_iff]; exact hm
    obtain ⟨s1,s2⟩:=mulMo_small hsx hsy hbig
    have ea:(mulMo x y).exps=addE x.exps y.exps:=rfl
    have hadd:=hM.add hn s1 hrest
    rw [s2,ea] at hadd
    have hlk:=look_le hM.rep hM.small (keyB (addE x.exps y.exps))
    show cl Zbc [.mp (.own 0),sD (keyB (addE x.exps y.exps)),wD (x.coef*y.coef)] [.map Zc (encPm out)] _
    refine poly_add_ok out _ _ (by omega) ⟨rfl,rfl,?_⟩
    refine iff_not (iff_intro (fun h2=>?_) (fun h2=>no ?_))
    ·have h2:addOk out (keyB (addE x.exps y.exps)) (x.coef*y.coef)=true:=h2
     unfold addOk at h2
     simp only [Bool.and_eq_true,decide_eq_true_iff] at h2
     refine hK1 _ _ _ _ _ _ _ _ _ _ ⟨rfl,rfl,rfl,rfl,rfl,rfl,rfl,rfl,hjN2,hjB2,_,_,rfl,hadd.1 h2,?_⟩ (by rw [List.length_cons]; omega)
     rw [e9,List.map_cons]
     refine (hpre.append_right _).trans ?_
     rw [List.append_assoc]
     exact List.perm_append_comm.append_left _
    ·have h2:addOk out (keyB (addE x.exps y.exps)) (x.coef*y.coef)=false:=h2
     refine hadd.2 fun h3=>?_
     unfold addOk at h2
     have h3':lookP out (keyB (addE x.exps y.exps))+x.coef*y.coef≤4611686018427387904:=h3.1
     rw [decide_eq_true h3',decide_eq_true h3.2] at h2
     cases h2
   ·refine iff_not (iff_intro (fun h1=>iff_not (iff_no rfl (no (MI.big hrest (.inr hm))))) (fun h1=>no (MI.big hrest (.inr hm))))
end Go.Proofs.YthhnadeoioeniaaGreat
namespace Go.Proofs.YthhnadeoioeniaaGreat
open Go Go.Abs
def encBs (Bs:List Mos):LL:=Bs.map fun B=>[V.l (encKs B)]
theorem encBs_length (Bs:List Mos):(encBs Bs).length=Bs.length:=by simp [encBs]
theorem encBs_getD (Bs:List Mos) (k:Nat) (h:k<Bs.length):(encBs Bs).getD k []=[V.l (encKs Bs[k])]:=by
 rw [encBs,List.getD_eq_getElem?_getD,List.getElem?_map,List.getElem?_eq_getElem h]; rfl
structure SameA (Bs ps:List Mos):Prop where
 len:Bs.length=ps.length
 at_:∀ i (h:i<Bs.length) (h2:i<ps.length),(Bs[i]).Perm ps[i]
theorem poly_monomial_ok {N:Nat} (hN:N≤65536) (m:Mo) (Bs ps:List Mos) (hS:SameA Bs ps) (hl:m.exps.length=ps.length) (hc:m.coef≤1048576) (he:∀ e∈m.exps,0≤e∧e≤8) (hs:∀ q∈ps,SmallP N q) {Q:D→Heap→Prop}
  (hQ:MulQ N (monoP N m ps) fun r=>Q r [.row Zh (encBs Bs)]):cl ZdD [moD m,.osl (.own 0) Bs.length] [.row Zh (encBs Bs)] Q:=by
 refine Zko _ _ _ _ _ fun hb=>?_
 rw [encP_length] at hb ⊢
 have hBl:=hS.len
 refine ZgT Q _ _ _ _ _ _ hb (fun k=>vanP m.exps ps=vanP (m.exps.drop k) (ps.drop k)) (fun k hk hJ K hK=>?_) (fun hJ hb2=>?_) 0 (Nat.zero_le _) rfl
 ·have hk2:k<ps.length:=by omega
  have hk3:k<Bs.length:=by omega
  rw [vanP_take hk hk2] at hJ
  have hpl:=(hS.at_ k hk3 hk2).length_eq
  simp only [encP_getD _ k hk,encBs_getD Bs k hk3,List.drop_zero,List.headD_cons,encP_length,encBs_length]
  refine ⟨by omega,by omega,iff_dec (fun h=>⟨trivial,by omega,by omega,trivial,hk3,?_⟩) (fun h=>hK ?_)⟩
  ·have h:m.exps[k] > 0:=h
   have e:(V.l (encKs Bs[k])).list.length=(Bs[k]).length:=encKs_length _
   rw [e]
   refine iff_beq (fun h2=>⟨⟨trivial,trivial,trivial⟩,?_⟩) (fun h2=>hK ?_)
   ·have h3:(ps[k]).isEmpty=true:=by rw [List.isEmpty_iff]; exact List.eq_nil_of_length_eq_zero (by omega)
    rw [h3,decide_eq_true (show 0<m.exps[k] by omega)] at hJ
    have hm:monoP N m ps=some []:=by unfold monoP; rw [if_pos (by rw [hJ]; rfl)]
    rw [hm] at hQ
    exact hQ [] (.refl _) (fun x hx=>by simp at hx)
   ·have h3:(ps[k]).isEmpty=false:=by
     rw [← Bool.not_eq_true,List.isEmpty_iff]
     intro h4; rw [h4] at hpl; rw [hpl] at h2; exact h2 rfl
    rw [hJ,h3,Bool.and_false,Bool.false_or]
  ·have h:¬ m.exps[k] > 0:=h
   rw [hJ,decide_eq_false (show ¬ 0<m.exps[k] by omega),Bool.false_and,Bool.false_or]
 ·rw [List.drop_length] at hJ
  have hv:vanP m.exps ps=false:=hJ
  have hm:monoP N m ps=chainP m.exps ps [⟨m.coef,zerosE N⟩]:=by unfold monoP; rw [if_neg (by rw [hv]; simp)]
  rw [encP_length]
  have e0:V.l (mset [.str] [V.s (ByteArray.mk #[])] [V.i (m.coef:Nat)] ([]:LL))=V.l (encKs [⟨m.coef,zerosE N⟩]):=by
   show V.l [[V.s (ByteArray.mk #[]),V.i (m.coef:Nat)]]=V.l [[V.s (keyB (zerosE N)),V.i (m.coef:Nat)]]
   rw [keyB_zeros]
  rw [e0]
  rw [hm] at hQ
  refine ZgJ Q _ _ _ _ hb (fun i x=>∃ Y y,x=V.l (encKs Y)∧Y.Perm y∧SmallP N Y∧chainP m.exps ps [⟨m.coef,zerosE N⟩]=chainP (m.exps.drop i) (ps.drop i) y) (fun i x hi hJ1 m1 hK=>?_) (fun x hJ1=>?_) 0 _ (Nat.zero_le _)
   ⟨_,[⟨m.coef,zerosE N⟩],rfl,.refl _,fun z hz=>?_,rfl⟩
  ·obtain ⟨Y,y,rfl,hp,sy,hch⟩:=hJ1
   have hi2:i<ps.length:=by omega
   have hi3:i<Bs.length:=by omega
   simp only [encP_getD _ i hi,List.drop_zero,List.headD_cons,encP_length]
   refine ⟨by omega,by omega,?_⟩
   have hee:=he _ (List.getElem_mem hi)
   rw [List.drop_eq_getElem_cons hi,List.drop_eq_getElem_cons hi2] at hch
   generalize hev:m.exps[i]=e at hch hee
   have hch:chainP m.exps ps [⟨m.coef,zerosE N⟩]=(powP ps[i] e.toNat y).bind (chainP (m.exps.drop (i+1)) (ps.drop (i+1))):=hch
   have hsm:=hs _ (List.getElem_mem hi2)
   have hpi:=hS.at_ i hi3 hi2
   refine Zhb Q m1 (fun a1 a2 a3 a4 a5 a6 a7 a8 a9=>a1=Bs.length∧a3=(i:Int)∧a4=encP m.exps∧a5=(m.exps.length:Int)∧a6=(i:Int)∧a7=V.i e∧a9=encBs Bs ∧
     ∃ (j:Nat) (Z z:Mos),a8=j∧j≤e.toNat∧a2=V.l (encKs Z)∧Z.Perm z∧SmallP N Z∧chainP m.exps ps [⟨m.coef,zerosE N⟩]=(powP ps[i] (e.toNat - j) z).bind (chainP (m.exps.drop (i+1)) (ps.drop (i+1))))
     (fun a1 a2 a3 a4 a5 a6 a7 a8 a9=>(e - a8).toNat) (fun a1 a2 a3 a4 a5 a6 a7 a8 a9 hI m2 hK2=>?_) _ _ _ _ _ _ _ _ _ ⟨rfl,rfl,rfl,rfl,rfl,rfl,rfl,0,Y,y,rfl,Nat.zero_le _,rfl,hp,sy,hch⟩
   obtain ⟨rfl,rfl,rfl,rfl,rfl,rfl,rfl,j,Z,z,rfl,hj,rfl,hpz,sz,hcz⟩:=hI
   unfold ZdH
   simp only [Int.toNat_natCast,encBs_getD Bs i hi3,List.drop_zero,List.headD_cons,encBs_length]
   refine iff_dec (fun h2=>⟨trivial,by omega,by omega,trivial,hi3,poly_multiply_ok hN Z Bs[i] sz (hsm.perm hpi) ?_⟩) (fun h2=>?_)
   ·have h2:(j:Int)<e:=h2
    have hej:e.toNat - j=(e.toNat - (j+1))+1:=by omega
    rw [hej] at hcz
    have hcz:_=((mulP z ps[i]).bind (powP ps[i] (e.toNat - (j+1)))).bind (chainP (m.exps.drop (i+1)) (ps.drop (i+1))):=hcz
    rw [mulP_perm hpz hpi]
    cases hmul:mulP z ps[i] with
    | none =>
     rw [hmul] at hcz
     have hcz:chainP m.exps ps [⟨m.coef,zerosE N⟩]=none:=hcz
     rw [hcz] at hQ
     exact ⟨rfl,rfl,iff_not (iff_no rfl ⟨⟨trivial,trivial,trivial⟩,hQ⟩)⟩
    | some c =>
     rw [hmul] at hcz
     refine fun C hC sC=>⟨rfl,rfl,iff_not (iff_yes rfl ?_)⟩
     rw [wrap_in _ (by omega) (by omega)]
     exact hK2 _ _ _ _ _ _ _ _ _ ⟨rfl,rfl,rfl,rfl,rfl,rfl,rfl,j+1,C,c,by omega,by omega,rfl,hC,sC,hcz⟩ (by omega)
   ·have h2:¬ (j:Int)<e:=h2
    have hej:e.toNat - j=0:=by omega
    rw [hej] at hcz
    exact hK _ ⟨Z,z,rfl,hpz,sz,hcz⟩
  ·obtain ⟨Y,y,rfl,hp,sy,hch⟩:=hJ1
   rw [List.drop_length,chainP_nil] at hch
   rw [hch] at hQ
   exact ⟨⟨trivial,trivial,trivial⟩,hQ Y hp sy⟩
  ·have:z=⟨m.coef,zerosE N⟩:=by simpa using hz
   subst this
   refine ⟨valid_zeros N,?_,fun e he=>?_⟩
   ·show m.coef≤4611686018427387904
    omega
   ·have:=List.eq_of_mem_replicate he
    omega
theorem cmp_isNaN_string_ok (s:ByteArray):Fn Zb9 [sD s] (bD false):=fun Q hQ=>by
 refine ZiJ _ _ ?_
 unfold ZeW
 rw [show (!(s.toList == s.toList))=false by simp]
 exact ⟨trivial,hQ⟩
theorem cmp_Less_string_ok (a b:ByteArray):Fn Zd6 [sD a,sD b] (bD (decide (cmpN a b = -1))):=fun Q hQ=>by
 refine Zjg _ _ _ ?_
 unfold Zfa
 refine cmp_isNaN_string_ok a _ ⟨rfl,rfl,iff_no rfl ⟨trivial,?_⟩⟩
 rw [less_cmp]; exact hQ
theorem mid_big (lo hi:Nat) (h:lo+hi≤100000000):IntKind.i64.wrap ((IntKind.u64.wrap (IntKind.i64.wrap ((lo:Int)+(hi:Int)))).fdiv (2 ^ (min ((1:Int)).toNat IntKind.u64.bits)))=(((lo+hi) / 2:Nat):Int):=by
 rw [wrap_in ((lo:Int)+(hi:Int)) (by omega) (by omega),wrap_u64 _ (by omega) (by omega)]
 have e:(2:Int) ^ (min ((1:Int)).toNat IntKind.u64.bits)=2:=rfl
 rw [e,Int.fdiv_eq_ediv_of_nonneg _ (by omega),wrap_in _ (by omega) (by omega)]
 omega
theorem sortN_lt {l:List ByteArray} (h:SortN l) {i j:Nat} (hi:i<l.length) (hj:j<l.length) (hij:i<j):cmpN l[i] l[j] = -1:=List.pairwise_iff_getElem.1 h i j hi hj hij
theorem BinarySearch_ok {l:List ByteArray} (hl:SortN l) (hn:l.length≤1048576) (p:Nat) (hp:p<l.length):Fn ZaT [nsD l,sD l[p]] (.tup [iD p,bD true]):=fun Q hQ=>by
 refine ZeB _ _ _ fun hb=>?_
 rw [encN_length] at hb ⊢
 refine ZdJ Q (fun x0 x1 x6 x7 x8=>x0=encN l∧x1=l[p]∧x6=(l.length:Int)∧∃ lo hi:Nat,x7=lo∧x8=hi∧lo≤p∧p≤hi∧hi≤l.length) (fun x0 x1 x6 x7 x8=>(x8 - x7).toNat) (fun x0 x1 x6 x7 x8 hI m0 hK=>?_) _ _ _ _ _ ⟨rfl,rfl,rfl,0,l.length,rfl,rfl,Nat.zero_le _,by omega,Nat.le_refl _⟩
 obtain ⟨rfl,rfl,rfl,lo,hi,rfl,rfl,h1,h2,h3⟩:=hI
 unfold Zau
 rw [mid_big lo hi (by omega),encN_length]
 refine iff_dec (fun h=>?_) (fun h=>?_)
 ·have hm:(lo+hi) / 2<l.length:=by omega
  rw [Int.toNat_natCast]
  simp only [encN_getD _ _ hm,List.drop_zero,List.headD_cons]
  refine ⟨by omega,by omega,by omega,cmp_Less_string_ok l[(lo+hi) / 2] l[p] _ ⟨rfl,rfl,iff_dec (fun h5=>?_) (fun h5=>?_)⟩⟩
  ·rw [wrap_in _ (by omega) (by omega)]
   refine hK _ _ _ _ _ ⟨rfl,rfl,rfl,(lo+hi) / 2+1,hi,by omega,rfl,?_,by omega,h3⟩ (by omega)
   rcases Nat.lt_trichotomy ((lo+hi) / 2) p with h6 | h6 | h6
   ·omega
   ·have e:l[(lo+hi) / 2]=l[p]:=by congr 1
    rw [e,cmpN_self] at h5; cases h5
   ·have h7:=sortN_lt hl hp hm h6
    have:=cmpN_trans h5 h7
    rw [cmpN_self] at this; cases this
  ·refine hK _ _ _ _ _ ⟨rfl,rfl,rfl,lo,(lo+hi) / 2,rfl,rfl,by omega,?_,by omega⟩ (by omega)
   rcases Nat.lt_or_ge ((lo+hi) / 2) p with h6 | h6
   ·exact absurd (sortN_lt hl hm hp h6) h5
   ·exact h6
 ·have e:lo=p:=by omega
  subst e
  rw [Int.toNat_natCast]
  refine iff_dec (fun h5=>?_) (fun h5=>by omega)
  simp only [encN_getD _ _ hp,List.drop_zero,List.headD_cons,V.str]
  exact ⟨by omega,by omega,iff_yes (by simp) ⟨⟨trivial,trivial,trivial⟩,hQ⟩⟩
theorem pre_size:∀ (t s:Tm),s∈t.pre→s.size≤t.size:=Tm.ind fun t ih s hs=>by
 rw [Tm.pre_eq,Tm.preL_eq] at hs
 rcases List.mem_cons.1 hs with rfl | hs
 ·exact Nat.le_refl _
 ·obtain ⟨a,ha,hs⟩:=List.mem_flatMap.1 hs
  have h1:=ih a ha s hs
  have h2:=Tm.size_mem ha
  omega
def OfQ (n:Nat) (r:Option Mos) (Q:D→Prop):Prop:=match r with
 | some c=>∀ C:Mos,C.Perm c→SmallP n C→Q (.tup [mpD C,iD 0])
 | none=>Q (.tup [mpD [],iD 3])
abbrev bdH (l:Pls) (vars:List ByteArray):Heap:=[.cells [plsD l,nsD vars]]
theorem SameA.snoc {Bs ps:List Mos} {B p:Mos} (h:SameA Bs ps) (hp:B.Perm p):SameA (Bs++[B]) (ps++[p]):=by
 have hl:=h.len
 refine ⟨by simp [hl],fun i hi hi2=>?_⟩
 by_cases hlt:i<Bs.length
 ·rw [List.getElem_append_left hlt,List.getElem_append_left (by omega)]
  exact h.at_ i hlt (by omega)
 ·simp only [List.length_append,List.length_cons,List.length_nil] at hi
  have e:i=Bs.length:=by omega
  subst e
  rw [List.getElem_append_right (Nat.le_refl _),List.getElem_append_right (by omega)]
  simpa [hl] using hp
theorem poly_of_ok {l:Pls} (hl:PlOk l) {vars:List ByteArray} (hv:SortN vars) (hN:vars.length≤65536):∀ t:Tm,t.size≤1048576→fitsT l t=true→(∀ s∈t.pre,s.var=true→s.name∈vars) →
  ∀ Q:D→Heap→Prop,OfQ vars.length (polyT l vars t) (fun r=>Q r (bdH l vars))→cl ZaX [.ptr (.own 0) 0,tD t] (bdH l vars) Q:=Tm.ind fun t ih hs hf hx Q hQ=>by
 refine Zjt _ _ _ _ _ _ ?_
 unfold Ze8
 have hlen:t.args.length≤1048576:=by have:=Tm.length_sizeL t.args; rw [Tm.size_eq] at hs; omega
 refine iff_intro (fun h=>?_) (fun h hb=>?_)
 ·have hin:=hx t (pre_self t) h
  obtain ⟨i,hi,e⟩:=List.mem_iff_getElem.1 hin
  rw [polyT_eq,if_pos h] at hQ
  have hQ:=hQ [⟨1,uV vars t.name⟩] (.refl _) (fun x hx2=>by
   have:x=⟨1,uV vars t.name⟩:=by simpa using hx2
   rw [this]
   have hb:∀ e∈uV vars t.name,0≤e∧e≤1:=fun e he=>by
    obtain ⟨y,_,rfl⟩:=List.mem_map.1 he
    split <;> omega
   exact ⟨⟨len_uV vars _,fun e he=>by have:=hb e he; omega⟩,by show 1≤4611686018427387904; omega,fun e he=>by have:=hb e he; omega⟩)
  rw [← e] at hQ ⊢
  refine ⟨.tup [iD i,bD true],(BinarySearch_ok hv (by omega) i hi).here rfl,?_⟩
  refine poly_power_ok i 1 (by omega) _ ⟨rfl,rfl,⟨trivial,trivial,trivial⟩,?_⟩
  have e2:mset [.str] [(sD (byL (powL i 1))).V] [V.i 1] ([]:LL)=encKs [⟨1,uV vars vars[i]⟩]:=by
   show [[V.s (byL (powL i 1)),V.i 1]]=[[V.s (keyB (uV vars vars[i])),V.i ((1:Nat):Int)]]
   rw [uV_unit hi hv.nodup,keyB_unit hi]; rfl
  rw [e2]; exact hQ
 ·rw [Tm.encL_length] at hb ⊢
  rw [fitsT_eq,h,Bool.false_or,Bool.and_eq_true] at hf
  obtain ⟨hf1,hf2⟩:=hf
  have hfa:=List.all_eq_true.1 hf2
  have hpl:(polyA l vars t.args).length=t.args.length:=by simp [polyA]
  have hsm:=polyA_small hl.mono hv.nodup hx
  refine ZfU Q _ _ _ _ _ hb (fun k n y g0 g1=>g0=V.l (encPls l)∧g1=V.l (encN vars)∧(∀ i (hi:i<t.args.length),i<k→polyT l vars t.args[i]≠none)∧∃ Bs,y=encBs Bs∧n=Bs.length∧SameA Bs ((polyA l vars t.args).take k)) (fun k n y g0 g1 hk hJ K hK=>?_) (fun n y g0 g1 hJ=>?_) 0 _ _ _ _ (Nat.zero_le _)
   ⟨rfl,rfl,fun i _ hi=>by omega,[],rfl,rfl,⟨rfl,fun i hi=>by simp at hi⟩⟩
  ·obtain ⟨rfl,rfl,hJ1,Bs,rfl,rfl,hS⟩:=hJ
   have hBl:=hS.len
   rw [List.length_take,hpl] at hBl
   simp only [Tm.encL_getD _ k hk,Tm.enc_eq,List.drop_zero,List.headD_cons,List.tail_cons,Tm.encL_length]
   have hin:=List.getElem_mem hk
   have hsz:=Tm.size_mem hin
   refine ⟨by omega,by omega,ih _ hin (by omega) (hfa _ hin) (fun s hs2=>hx s (pre_arg hin hs2)) _ ?_⟩
   cases hp:polyT l vars t.args[k] with
   | none =>
    refine ⟨rfl,rfl,iff_yes rfl ⟨⟨trivial,trivial,trivial⟩,?_⟩⟩
    rw [polyT_arg h ⟨_,hin,hp⟩] at hQ
    exact hQ
   | some c =>
    refine fun C hC sC=>⟨rfl,rfl,iff_no rfl ⟨encBs_length Bs,?_,hK _ _ _ _ ⟨rfl,rfl,fun i hi hik=>?_,Bs++[C],?_,?_,?_⟩⟩⟩
    ·show Bs.length+1≤lim; unfold lim; omega
    ·rcases Nat.lt_succ_iff_lt_or_eq.1 hik with h8 | h8
     ·exact hJ1 i hi h8
     ·subst h8; rw [hp]; simp
    ·unfold encBs
     rw [List.map_append]; rfl
    ·rw [List.length_append]; rfl
    ·rw [List.take_succ_eq_append_getElem (by rw [hpl]; exact hk)]
     have e:(polyA l vars t.args)[k]'(by rw [hpl]; exact hk)=c:=by simp [polyA,hp]
     rw [e]
     exact hS.snoc hC
  ·obtain ⟨rfl,rfl,hJ1,Bs,rfl,rfl,hS⟩:=hJ
   have hall:∀ a∈t.args,polyT l vars a≠none:=fun a ha=>by
    obtain ⟨i,hi,rfl⟩:=List.mem_iff_getElem.1 ha
    exact hJ1 i hi hi
   rw [List.take_of_length_le (by rw [hpl]; exact Nat.le_refl _)] at hS
   obtain ⟨q1,q2⟩:=entQ_perm l t.name t.args.length
   have hg:=entPl_good hl.mono hf1
   have hgQ:GoodMo t.args.length (entQ l t.name t.args.length).1:=fun m hm=>hg m (q1.mem_iff.1 hm)
   have hR:polyT l vars t=insertP vars.length (polyA l vars t.args) (entQ l t.name t.args.length).1 []:=by
    rw [polyT_args h hall]
    exact (insertP_perm _ _ q1 fun m hm=>by have:=(hgQ m hm).2.2.1; show m.coef≤4611686018427387905; omega).symm
   rw [hR] at hQ
   rw [Tm.encL_length]
   refine ⟨.tup [msD (entQ l t.name t.args.length).1,bD (entQ l t.name t.args.length).2],(poly_interpretation_ok hl t.name t.args.length hlen).here rfl,?_⟩
   generalize (entQ l t.name t.args.length).1=P at hgQ hQ
   generalize polyA l vars t.args=ps at hpl hsm hS hQ
   generalize vars.length=N at hN hsm hQ
   obtain ⟨R,hRe⟩:∃ R,insertP N ps P []=R:=⟨_,rfl⟩
   rw [hRe] at hQ
   have bad:R=none→(True∧True∧True)∧Q (.tup [.v (.mp Zc) (V.l []),iD 3]) (bdH l vars):=fun h=>by
    rw [h] at hQ; exact ⟨⟨trivial,trivial,trivial⟩,hQ⟩
   have e1:(V.l (encMos P)).list.length=P.length:=encMos_length _
   show (V.l (encMos P)).list.length≤big→∃ m1,Z1 Q m1 Bs.length (V.l (encMos P)) (((V.l (encMos P)).list.length:Nat):Int) 0 [] (encBs Bs) (V.l (encPls l)) (V.l (encN vars))
   rw [e1]
   intro hbP
   refine ZfC Q _ _ _ _ _ hbP (fun k y z=>z=encBs Bs∧∃ out cur,y=encPm out∧RepM out cur∧SmallP N cur∧SortP cur∧largeP cur=false∧R=insertP N ps (P.drop k) cur) (fun k y z hk hJ m1 hK=>?_) (fun y z hJ=>?_) 0 _ _ (Nat.zero_le _)
    ⟨rfl,[],[],rfl,.refl _,fun x hx=>by simp at hx,by simp [SortP],rfl,hRe.symm⟩
   ·obtain ⟨rfl,out,cur,rfl,hrep,hsmall,hsort,hlarge,hRk⟩:=hJ
    have hgm:(V.list (V.l (encMos P))).getD k []=[.i (P[k]).coef,.l (encP (P[k]).exps)]:=encMos_getD P k hk
    simp only [hgm,List.drop_zero,List.headD_cons,List.tail_cons]
    rw [List.drop_eq_getElem_cons hk,insertP_cons] at hRk
    obtain ⟨g1,g2,g3,g4⟩:=hgQ _ (List.getElem_mem hk)
    have next:∀ X ok,(V.l (encKs X)).list.length=X.length→((ok=true∧∃ x,monoP N P[k] ps=some x∧X.Perm x∧SmallP N X)∨(ok=false∧R=none)) →
      ∃ m2,Zac Q m1 m2 Bs.length (V.b ok) (V.l (encMos P)) (P.length:Int) (k:Int) (encPm out) (V.l (encKs X)) ((V.l (encKs X)).list.length) [] (encBs Bs) (V.l (encPls l)) (V.l (encN vars)):=fun X ok hXl hok=>by
     rw [hXl]
     refine Zgb Q m1 (fun a1 a2 a3 a4 a5 a6 a7 a8 a9 a10 a11 a12=>a1=Bs.length∧a3=V.l (encMos P)∧a4=(P.length:Int)∧a5=(k:Int)∧a7=V.l (encKs X)∧a8=X.length∧a9.Nodup∧(∀ j∈a9,j<X.length)∧a10=encBs Bs∧a11=V.l (encPls l)∧a12=V.l (encN vars) ∧
      ∃ out',a6=encPm out'∧((a2=V.b true∧∃ x pre,monoP N P[k] ps=some x∧X.Perm x∧SmallP N X∧pre.Perm (colsP X a9)∧RepM out' (addsP cur pre)∧SmallP N (addsP cur pre)∧largeP (addsP cur pre)=false)∨(a2=V.b false∧R=none)))
      (fun a1 a2 a3 a4 a5 a6 a7 a8 a9 a10 a11 a12=>X.length - a9.length) (fun a1 a2 a3 a4 a5 a6 a7 a8 a9 a10 a11 a12 hI m2 hK2=>?_) _ _ _ _ _ _ _ _ _ _ _ _
      ⟨rfl,rfl,rfl,rfl,rfl,rfl,List.nodup_nil,by simp,rfl,rfl,rfl,out,rfl,hok.imp (fun ⟨h1,x,h2,h3,h4⟩=>⟨by rw [h1],x,[],h2,h3,h4,.refl _,hrep,hsmall,hlarge⟩) (fun ⟨h1,h2⟩=>⟨by rw [h1],h2⟩)⟩
     obtain ⟨rfl,rfl,rfl,rfl,rfl,rfl,hs1,hs2,rfl,rfl,rfl,out',rfl,hst⟩:=hI
     unfold ZcR
     have hXl2:(V.list (V.l (encKs X))).length=X.length:=encKs_length X
     refine ⟨hXl2,fun hallj=>?_,fun j hj hjs hlt=>⟨hXl2,?_⟩⟩
     ·rcases hst with ⟨rfl,x,pre,m1',m2',m3',m4',m5',m6',m7'⟩ | ⟨rfl,hn⟩
      ·refine iff_not (iff_yes rfl ?_)
       have hpx:pre.Perm x:=(m4'.trans (cols_all hs1 hs2 hallj)).trans m2'
       have e3:addsP cur pre=addsP cur x:=addsP_perm hpx cur (smallP_coef (m3'.perm (m4'.trans (cols_all hs1 hs2 hallj)))) (smallP_coef hsmall)
       rw [e3] at m5' m6' m7'
       refine hK _ _ ⟨rfl,out',addsP cur x,rfl,m5',m6',addsP_sort hsort,m7',?_⟩
       rw [m1'] at hRk
       have hRk:R=if largeP (addsP cur x) then none else insertP N ps (P.drop (k+1)) (addsP cur x):=hRk
       rw [hRk,if_neg (by rw [m7']; simp)]
      ·exact iff_not (iff_no rfl (bad hn))
     ·have hgk:(V.list (V.l (encKs X))).getD j []=[V.s (keyB (X.getD j dMo).exps),V.i ((X.getD j dMo).coef:Nat)]:=encKs_getD X j hj
      simp only [hgk,List.headD_cons,List.drop_zero,List.tail_cons,List.drop_succ_cons]
      have hjN:(j::a9).Nodup:=List.nodup_cons.2 ⟨hjs,hs1⟩
      have hjB:∀ i∈j::a9,i<X.length:=fun i hi=>by
       rcases List.mem_cons.1 hi with rfl | hi
       ·exact hj
       ·exact hs2 i hi
      rcases hst with ⟨rfl,x,pre,m1',m2',m3',m4',m5',m6',m7'⟩ | ⟨rfl,hn⟩
      ·refine iff_yes rfl ?_
       have hin:=getD_mem hj
       obtain ⟨v1,v2,v3⟩:=m3'.exps hin
       have hone:=m3'.one hin
       have e9:colsP X (j::a9)=X.getD j dMo::colsP X a9:=rfl
       obtain ⟨R2,hR2⟩:=cols_ex hjN hjB
       rw [e9] at hR2
       generalize X.getD j dMo=z at v1 v2 v3 hone e9 hR2 hin
       obtain ⟨r1,r2⟩:=rep_add (by omega:N≤65536) (addsP_sort hsort) m5' m6' hone
       have hlk:=look_le m5' m6' (keyB z.exps)
       refine poly_add_ok out' (keyB z.exps) z.coef (by omega) ⟨rfl,rfl,?_⟩
       have hperm:(pre++[z]).Perm (colsP X (j::a9)):=by
        rw [e9]
        exact (List.perm_append_comm).trans (m4'.cons z)
       have hao:largeP (addP (addsP cur pre) z)=!(addOk out' (keyB z.exps) z.coef):=r1
       refine hK2 _ _ _ _ _ _ _ _ _ _ _ _ ⟨rfl,rfl,rfl,rfl,rfl,rfl,hjN,hjB,rfl,rfl,rfl,_,rfl,?_⟩ (by rw [List.length_cons]; omega)
       cases hok2:addOk out' (keyB z.exps) z.coef with
       | true =>
        rw [hok2] at hao
        have hle:lookP out' (keyB z.exps)+z.coef≤maxV:=by
         unfold addOk at hok2
         simp only [Bool.and_eq_true,decide_eq_true_iff] at hok2
         exact hok2.1
        obtain ⟨w1,w2⟩:=r2 hle
        refine .inl ⟨rfl,x,pre++[z],m1',m2',m3',hperm,?_,?_,?_⟩
        ·rw [addsP_snoc]; exact w1
        ·rw [addsP_snoc]; exact w2
        ·rw [addsP_snoc]; exact hao
       | false =>
        rw [hok2] at hao
        refine .inr ⟨rfl,?_⟩
        have hao:largeP (addP (addsP cur pre) z)=true:=hao
        have hX2:((pre++[z])++R2).Perm x:=by
         refine List.Perm.trans ?_ m2'
         refine List.Perm.trans ?_ hR2
         exact (by rw [← e9]; exact hperm:(pre++[z]).Perm (z::colsP X a9)).append_right R2
        have e3:addsP cur x=addsP (addsP cur (pre++[z])) R2:=by
         rw [← addsP_append]
         exact (addsP_perm hX2 cur (fun y hy=>smallP_coef m3' y (m2'.mem_iff.2 (hX2.mem_iff.1 hy))) (smallP_coef hsmall)).symm
        rw [m1'] at hRk
        have hRk:R=if largeP (addsP cur x) then none else insertP N ps (P.drop (k+1)) (addsP cur x):=hRk
        rw [hRk,if_pos (by rw [e3]; exact addsP_large (by rw [addsP_snoc]; exact hao))]
      ·refine iff_no rfl ?_
       exact hK2 _ _ _ _ _ _ _ _ _ _ _ _ ⟨rfl,rfl,rfl,rfl,rfl,rfl,hjN,hjB,rfl,rfl,rfl,out',rfl,.inr ⟨rfl,hn⟩⟩ (by rw [List.length_cons]; omega)
    refine ⟨by omega,by rw [e1]; omega,poly_monomial_ok hN P[k] Bs ps hS (by rw [g1,hpl]) g3 g4 hsm ?_⟩
    cases hm:monoP N P[k] ps with
    | none =>
     rw [hm] at hRk
     exact ⟨rfl,rfl,next [] false (encKs_length []) (.inr ⟨rfl,hRk⟩)⟩
    | some x=>exact fun X hX sX=>⟨rfl,rfl,next X true (encKs_length X) (.inl ⟨rfl,x,hm,hX,sX⟩)⟩
   ·obtain ⟨rfl,out,cur,rfl,hrep,hsmall,hsort,hlarge,hRk⟩:=hJ
    rw [List.drop_length] at hRk
    have hRk:R=some cur:=hRk
    rw [hRk] at hQ
    obtain ⟨C,c1,c2⟩:=perm_map_ex entP hrep
    have e:encPm out=encKs C:=by rw [encKs_eq,c2]
    rw [e]
    exact ⟨⟨trivial,trivial,trivial⟩,hQ C c1 (hsmall.perm c1)⟩
def polE (l:Pls) (vars:List ByteArray) (t:Tm):Int:=if 64<(Tm.vars [t]).length then 3 else if fitsT l t=false then 10 else if (polyT l vars t).isSome then 0 else 3
theorem poly_polynomial_ok {l:Pls} (hl:PlOk l) {vars:List ByteArray} (hv:SortN vars) (hN:vars.length≤65536) (t:Tm) (hs:t.size≤1048576) (hfm:t.formed=true) (hx:∀ s∈t.pre,s.var=true→s.name∈vars) {Q:D→Heap→Prop}
  (h0:∀ c C,polE l vars t=0→polyT l vars t=some c→C.Perm c→SmallP vars.length C→Q (.tup [mpD C,iD 0]) []) (h1:polE l vars t≠0→Q (.tup [mpD [],iD (polE l vars t)]) []):cl Zp [plsD l,tD t,nsD vars] [] Q:=by
 refine ZjC _ _ _ _ _ _ ?_
 unfold Zfe
 rw [show [[V.s t.name,V.b t.var,V.l (Tm.encL t.args)]]=Tm.encL [t] by simp [Tm.encL,Tm.enc_eq]]
 have bad:∀ e:Int,e≠0→polE l vars t=e→(True∧True∧True)∧Q (.tup [.v (.mp Zc) (V.l []),iD e]) []:=fun e he h=>by
  rw [h] at h1; exact ⟨⟨trivial,trivial,trivial⟩,h1 he⟩
 refine VarsOf_vars [t] (by simp [Tm.sizeL]; omega) _ ⟨rfl,rfl,fun hb=>?_⟩
 have e1:(nsD (Tm.vars [t])).V.list.length=(Tm.vars [t]).length:=encN_length _
 rw [e1]
 refine iff_dec (fun h2=>bad 3 (by omega) ?_) (fun h2=>?_)
 ·unfold polE; rw [if_pos (by omega)]
 refine term_Walk_ok t ⟨rfl,rfl,rowsW t,Walk_iter t (by omega),?_⟩
 refine Zge Q _ _ _ _ _ _ _ (fun rows q0 q1 q2 q3 q4=>q0=encPls l∧q1=t.name∧q2=t.var∧q3=Tm.encL t.args∧∃ L:List (Tm×Nat),rows=L.map encW∧(∀ x∈L,x.1∈t.pre)∧((∀ x∈L,x.1.var=false→(entPl l x.1.name x.1.args.length).2=true)→fitsT l t=true)) ?_ ?_ (rowsW t) _ _ _ _ _
  ⟨rfl,rfl,rfl,rfl,t.preD 0,rfl,fun x hx2=>?_,fun h=>?_⟩
 ·rintro r rs q0 q1 q2 q3 q4 ⟨rfl,rfl,rfl,rfl,L,hL,hin,hfit⟩ K hK
  match L,hL with
  | [],hL=>cases hL
  | x::L,hL =>
   rw [List.map_cons] at hL
   obtain ⟨rfl,rfl⟩:=List.cons.inj hL
   have hxin:=hin x (by simp)
   have hxs:x.1.size≤t.size:=pre_size t _ hxin
   have hal:x.1.args.length≤1048576:=by have:=Tm.length_sizeL x.1.args; have:=Tm.size_eq x.1; omega
   show ((V.l (Tm.encL x.1.args)).list).length≤big→cl Zu [plsD l,.agg [sD x.1.name,.v (.int .i64) (V.i (((V.l (Tm.encL x.1.args)).list.length:Nat):Int))]] [] _
   have e2:(V.l (Tm.encL x.1.args)).list.length=x.1.args.length:=Tm.encL_length _
   rw [e2]
   intro _
   have go:(x.1.var=false→(entPl l x.1.name x.1.args.length).2=true)→K (encPls l) t.name t.var (Tm.encL t.args) q4:=fun h=>hK _ _ _ _ _ ⟨rfl,rfl,rfl,rfl,L,rfl,fun y hy=>hin y (by simp [hy]),fun h3=>hfit fun y hy=>by
    rcases List.mem_cons.1 hy with rfl | hy
    ·exact h
    ·exact h3 y hy⟩
   refine poly_interpretation_ok hl x.1.name x.1.args.length hal _ ⟨rfl,rfl,iff_not (iff_intro (fun h3=>go fun h4=>?_) (fun h3=>iff_not (iff_intro (fun h4=>go fun _=>?_) (fun h4=>bad 10 (by omega) ?_))))⟩
   ·have h3:x.1.var=true:=h3
    rw [h3] at h4; cases h4
   ·have h4:(entQ l x.1.name x.1.args.length).2=true:=h4
    rw [← (entQ_perm l x.1.name x.1.args.length).2]; exact h4
   ·have h3:x.1.var=false:=h3
    have h4:(entQ l x.1.name x.1.args.length).2=false:=h4
    rw [(entQ_perm l x.1.name x.1.args.length).2] at h4
    have:fitsT l t=false:=by
     rw [← Bool.not_eq_true]
     intro h5
     have:=(fits_pre l t hfm).1 h5 x.1 hxin h3
     rw [h4] at this; cases this
    unfold polE; rw [if_neg (by omega),if_pos this]
 ·rintro q0 q1 q2 q3 q4 ⟨rfl,rfl,rfl,rfl,L,hL,hin,hfit⟩
  have hLn:L=[]:=by
   cases L with
   | nil=>rfl
   | cons a b=>cases hL
  subst hLn
  have hft:=hfit (by simp)
  refine poly_of_ok hl hv hN t hs hft hx _ ?_
  cases hp:polyT l vars t with
  | none =>
   refine ⟨rfl,rfl,bad 3 (by omega) ?_⟩
   unfold polE; rw [if_neg (by omega),if_neg (by rw [hft]; simp),hp]; rfl
  | some c =>
   refine fun C hC sC=>⟨rfl,rfl,⟨trivial,trivial,trivial⟩,h0 c C ?_ hp hC sC⟩
   unfold polE; rw [if_neg (by omega),if_neg (by rw [hft]; simp),hp]; rfl
 ·rw [← Tm.preD_fst t 0]
  exact List.mem_map.2 ⟨x,hx2,rfl⟩
 ·refine (fits_pre l t hfm).2 fun s hs2 hsv=>?_
  rw [← Tm.preD_fst t 0] at hs2
  obtain ⟨x,hx2,rfl⟩:=List.mem_map.1 hs2
  exact h x hx2 hsv
end Go.Proofs.YthhnadeoioeniaaGreat
namespace Go.Proofs.YthhnadeoioeniaaGreat
open Go Go.Abs
def encU (l:List Nat):LL:=l.map fun v:Nat=>[V.i (v:Int)]
abbrev usD (l:List Nat):D:=.v (.sl ZmU) (.l (encU l))
def evBad (x:Mo):Bool:=decide (maxV<x.coef)||x.exps.any fun e=>decide (e<0)
def bigV (v:Nat):Bool:=decide (maxV<v)
def evalE (p:Mos) (vals:List Nat):Nat×Int :=
 if 4096<p.length then (0,3)
 else if p.any (fun x=>decide (x.exps.length≠vals.length)) then (0,4)
 else if p.any evBad then (0,2)
 else if vals.any bigV then (0,2)
 else if maxV<evalP vals p then (0,3) else (evalP vals p,0)
def powC (a n:Nat):Nat:=if n=0 then 1 else if a<2 then a else capP (a ^ n)
end Go.Proofs.YthhnadeoioeniaaGreat
namespace Go.Proofs.YthhnadeoioeniaaGreat
open Go Go.Abs
mutual
def botT (l:Pls) (vs:List ByteArray) (ks:List Nat):Tm→Option Nat
 | .mk x v xs=>if v then some (valV vs ks x) else match botL l vs ks xs with
  | none=>none
  | some qs=>if (entPl l x xs.length).1.isEmpty then some 0 else if (evalE (entPl l x xs.length).1 qs).2=0 then some (evalE (entPl l x xs.length).1 qs).1 else none
def botL (l:Pls) (vs:List ByteArray) (ks:List Nat):List Tm→Option (List Nat)
 | []=>some []
 | t::r=>match botT l vs ks t with
  | none=>none
  | some a=>match botL l vs ks r with
   | none=>none
   | some qs=>some (a::qs)
end
def botA (l:Pls) (vs:List ByteArray) (ks:List Nat) (xs:List Tm):List Nat:=xs.map fun t=>(botT l vs ks t).getD 0
noncomputable def sameMo (a b:Mos):Bool:=@decide (a=b) (Classical.propDecidable _)
theorem sameMo_self (a:Mos):sameMo a a=true:=by unfold sameMo; exact @decide_eq_true _ (Classical.propDecidable _) rfl
theorem sameMo_true {a b:Mos} (h:a=b):sameMo a b=true:=by rw [h,sameMo_self]
theorem sameMo_false {a b:Mos} (h:a≠b):sameMo a b=false:=by unfold sameMo; exact @decide_eq_false _ (Classical.propDecidable _) h
theorem r08_SameMonos_ok (a b:Mos):Fn ZeK [msD a,msD b] (bD (sameMo a b)):=fun Q hQ=>by
 refine Zkp _ _ _ fun hb hb2=>?_
 rw [encMos_length] at hb ⊢
 rw [encMos_length] at hb2 ⊢
 refine iff_bne (fun h=>⟨trivial,?_⟩) (fun h _=>?_)
 ·rw [sameMo_false (fun e=>by rw [e] at h; exact h rfl)] at hQ; exact hQ
 have hl:a.length=b.length:=by omega
 refine Zgr Q _ _ _ hb (fun k=>a.take k=b.take k) (fun k hk hJ K hK=>?_) (fun hJ=>⟨trivial,?_⟩) 0 (Nat.zero_le _) rfl
 ·have hk2:k<b.length:=by omega
  simp only [encMos_getD a k hk,encMos_getD b k hk2,List.drop_zero,List.drop_succ_cons,List.headD_cons,List.tail_cons,encMos_length]
  have no:a[k]≠b[k]→True∧Q (bD false) []:=fun h=>by
   rw [sameMo_false (fun e=>by subst e; exact h rfl)] at hQ; exact ⟨trivial,hQ⟩
  refine ⟨by omega,by omega,by omega,by omega,iff_bne (fun h2=>no fun e=>by rw [e] at h2; exact h2 rfl) (fun h2=>⟨by omega,by omega,by omega,by omega,r08_compareExps_ok _ _ _ ⟨rfl,rfl,iff_bne (fun h3=>no fun e=>?_) (fun h3=>hK ?_)⟩⟩)⟩
  ·have h3:cmpE (a[k]).exps (b[k]).exps≠0:=h3
   rw [e,cmpE_self] at h3; exact h3 rfl
  ·have h3:cmpE (a[k]).exps (b[k]).exps=0:=h3
   have h2:(((a[k]).coef:Nat):Int)=(b[k]).coef:=h2
   have e:a[k]=b[k]:=by
    have e1:=cmpE_zero.1 h3
    have e2:(a[k]).coef=(b[k]).coef:=by omega
    cases h5:a[k]; cases h6:b[k]
    rw [h5,h6] at e1 e2
    simp only at e1 e2
    rw [e1,e2]
   rw [List.take_succ_eq_append_getElem hk,List.take_succ_eq_append_getElem hk2,hJ,e]
 ·have e:a=b:=by rw [← List.take_length (l:=a),hJ,hl,List.take_length]
  rw [sameMo_true e] at hQ; exact hQ
abbrev Ys:=List (ByteArray×Int)
def encY (x:ByteArray×Int):List V:=[.s x.1,.i x.2]
def encYs (l:Ys):LL:=l.map encY
abbrev ysD (l:Ys):D:=.v (.sl ZY) (.l (encYs l))
abbrev yD (x:ByteArray×Int):D:=.agg [sD x.1,iD x.2]
theorem encYs_length (l:Ys):(encYs l).length=l.length:=by simp [encYs]
theorem encYs_getD (l:Ys) (k:Nat) (h:k<l.length):(encYs l).getD k []=[.s (l[k]).1,.i (l[k]).2]:=by
 rw [encYs,List.getD_eq_getElem?_getD,List.getElem?_map,List.getElem?_eq_getElem h]; rfl
def yName (x:ByteArray×Int):Bool:=!(nameOk x.1 true)
def yBad (x:ByteArray×Int):Bool:=decide (x.2<0)||decide (x.2 > 8)
def ysE (l:Ys):Int:=if l.any yName then 4 else if l.any yBad then 2 else 0
theorem ysE_zero {l:Ys} (h:ysE l=0):∀ x∈l,nameOk x.1 true=true∧0≤x.2∧x.2≤8:=by
 unfold ysE at h
 split at h
 ·cases h
 ·rename_i h1
  split at h
  ·cases h
  ·rename_i h2
   intro x hx
   have a1:=List.any_eq_false.1 (by simpa using h1:l.any yName=false) x hx
   have a2:=List.any_eq_false.1 (by simpa using h2:l.any yBad=false) x hx
   unfold yName at a1
   unfold yBad at a2
   simp at a1 a2
   exact ⟨a1,by omega,by omega⟩
def aloneP (p:Mos) (i:Nat):Bool:=p.any fun m=>aloneI m.exps i
def yMono (l:Pls) (x:ByteArray×Int):Bool:=(List.range x.2.toNat).all fun i=>aloneP (entPl l x.1 x.2.toNat).1 i
def yFits (l:Pls) (x:ByteArray×Int):Bool:=(entPl l x.1 x.2.toNat).2
def monoE (l:Pls) (s:Ys):Bool×Int:=if ysE s≠0 then (false,ysE s) else if s.all (yFits l) then (s.all (yMono l),0) else (false,10)
end Go.Proofs.YthhnadeoioeniaaGreat
namespace Go.Proofs.YthhnadeoioeniaaGreat
open Go Go.Abs
def negI (e:Int):Bool:=decide (e<0)
abbrev evH:Heap:=[.cells [.fn Zl2 []]]
def lenX (n:Nat) (x:Mo):Bool:=decide (x.exps.length≠n)
def EvJ (vals:List Nat) (y:Mo) (j:Nat) (x ok:V):Prop :=
 (ok=.b true∧∃ z:Nat,x=.i (z:Nat)∧z≤4611686018427387904∧(z=0∧moV vals y=0∨aliveV vals y.exps=true∧z=y.coef*monV (vals.take j) (y.exps.take j))) ∨
 (ok=.b false∧∃ z:Nat,x=.i (z:Nat)∧maxV<moV vals y)
end Go.Proofs.YthhnadeoioeniaaGreat
namespace Go.Proofs.YthhnadeoioeniaaGreat
open Go Go.Abs
def coefR (vs:List ByteArray):Mos→List ByteArray→List Int→Nat
 | [],_,_=>0
 | m::r,all,es=>if all.map (expV vs m.exps)=es then m.coef else coefR vs r all es
def cmpT (l:Pls) (s t:Tm):Int×Int:=if ofE l s≠0 then (0,ofE l s) else if ofE l t≠0 then (0,ofE l t) else
 (cmpP (Tm.vars [s,t]).length ((polyT l (Tm.vars [s,t]) s).getD []) ((polyT l (Tm.vars [s,t]) t).getD []),0)
theorem vars_sub {s:Tm} {l:List Tm} (h:s∈l):(Tm.vars [s]).Sublist (Tm.vars l):=sub_of_sort (vars_sort _) (vars_sort _) fun x hx=>by
 rw [mem_vars] at hx ⊢
 obtain ⟨u,hu,hv,rfl⟩:=var_in.1 hx
 refine var_in.2 ⟨u,?_,hv,rfl⟩
 rw [Tm.preL_eq] at hu ⊢
 obtain ⟨a,ha,hu2⟩:=List.mem_flatMap.1 hu
 have:a=s:=by simpa using ha
 rw [this] at hu2
 exact List.mem_flatMap.2 ⟨s,h,hu2⟩
theorem poly_more {l:Pls} {s:Tm} {ts:List Tm} (h:s∈ts):polyT l (Tm.vars ts) s=(polyT l (Tm.vars [s]) s).map (List.map (mapMo (emb (Tm.vars ts) (Tm.vars [s]))))∧∀ c,polyT l (Tm.vars [s]) s=some c→LenP (Tm.vars [s]).length c :=
 hom_term l (vars_sub h) (vars_sort _).nodup s (pre_vars s)
end Go.Proofs.YthhnadeoioeniaaGreat
namespace Go.Proofs.YthhnadeoioeniaaGreat
open Go Go.Abs
theorem all_take {α:Type} {p:α→Bool} {l:List α} {k:Nat} (hk:k<l.length) (h:(l.take k).all p=true) (hp:p l[k]=true):(l.take (k+1)).all p=true:=by
 rw [List.take_succ_eq_append_getElem hk,List.all_append,h,List.all_cons,List.all_nil,hp]; rfl
theorem all_not {α:Type} {p:α→Bool} {l:List α} {k:Nat} (hk:k<l.length) (hp:p l[k]=false):l.all p=false:=by
 rw [← Bool.not_eq_true,List.all_eq_true]
 intro h
 have:=h _ (List.getElem_mem hk)
 rw [hp] at this; cases this
theorem path_Symbols_1_ok (x:ByteArray×Int):Fn ZW [yD x] (bD (yName x)):=fun Q hQ=>by
 refine ZjT _ _ _ ?_
 unfold ZfA
 exact term_IsName_ok _ _ _ ⟨rfl,rfl,trivial,hQ⟩
theorem path_Symbols_2_ok (x:ByteArray×Int):Fn ZX [yD x] (bD (yBad x)):=fun Q hQ=>by
 refine ZjU _ _ _ ?_
 unfold Zfp
 unfold yBad at hQ
 refine iff_intro (fun h=>⟨trivial,?_⟩) (fun h=>⟨trivial,?_⟩)
 ·rw [h,Bool.true_or] at hQ; exact hQ
 ·rw [h,Bool.false_or] at hQ; exact hQ
theorem IndexFunc_y1_ok (l:Ys):Fn Z0 [ysD l,.fn ZW []] (iD (idx yName l)):=fun Q hQ=>by
 refine ZcD _ _ fun hb=>?_
 rw [encYs_length] at hb ⊢
 refine Zbu Q _ _ hb (fun k=>(l.take k).any yName=false) (fun k hk hJ K hK=>?_) (fun hJ=>⟨trivial,?_⟩) 0 (Nat.zero_le _) rfl
 ·simp only [encYs_getD _ k hk,List.drop_zero,List.drop_succ_cons,List.headD_cons,List.tail_cons,encYs_length]
  refine ⟨by omega,by omega,path_Symbols_1_ok l[k] _ ⟨rfl,rfl,iff_intro (fun h=>⟨trivial,?_⟩) (fun h=>hK (any_take hk hJ h))⟩⟩
  rw [idx_at hk hJ h] at hQ
  exact hQ
 ·rw [List.take_length] at hJ
  rw [idx_none hJ] at hQ
  exact hQ
theorem IndexFunc_y2_ok (l:Ys):Fn Z0 [ysD l,.fn ZX []] (iD (idx yBad l)):=fun Q hQ=>by
 refine ZcG _ _ fun hb=>?_
 rw [encYs_length] at hb ⊢
 refine Zbt Q _ _ hb (fun k=>(l.take k).any yBad=false) (fun k hk hJ K hK=>?_) (fun hJ=>⟨trivial,?_⟩) 0 (Nat.zero_le _) rfl
 ·simp only [encYs_getD _ k hk,List.drop_zero,List.drop_succ_cons,List.headD_cons,List.tail_cons,encYs_length]
  refine ⟨by omega,by omega,path_Symbols_2_ok l[k] _ ⟨rfl,rfl,iff_intro (fun h=>⟨trivial,?_⟩) (fun h=>hK (any_take hk hJ h))⟩⟩
  rw [idx_at hk hJ h] at hQ
  exact hQ
 ·rw [List.take_length] at hJ
  rw [idx_none hJ] at hQ
  exact hQ
theorem ContainsFunc_y1_ok (l:Ys):Fn ZP [ysD l,.fn ZW []] (bD (l.any yName)):=fun Q hQ=>by
 refine Zb1 _ _ ?_
 unfold Zaq
 refine IndexFunc_y1_ok l _ ⟨rfl,rfl,trivial,?_⟩
 rw [← idx_any] at hQ
 exact hQ
theorem ContainsFunc_y2_ok (l:Ys):Fn ZP [ysD l,.fn ZX []] (bD (l.any yBad)):=fun Q hQ=>by
 refine ZbW _ _ ?_
 unfold Zao
 refine IndexFunc_y2_ok l _ ⟨rfl,rfl,trivial,?_⟩
 rw [← idx_any] at hQ
 exact hQ
theorem path_Symbols_ok (l:Ys):Fn Zfk [ysD l] (iD (ysE l)):=fun Q hQ=>by
 refine Zlh _ _ ?_
 unfold ZgP
 unfold ysE at hQ
 refine ContainsFunc_y1_ok l _ ⟨rfl,rfl,iff_intro (fun h=>⟨trivial,?_⟩) (fun h=>ContainsFunc_y2_ok l _ ⟨rfl,rfl,iff_intro (fun h2=>⟨trivial,?_⟩) (fun h2=>⟨trivial,?_⟩)⟩)⟩
 ·have h:l.any yName=true:=h
  rw [if_pos h] at hQ; exact hQ
 ·have h:l.any yName=false:=h
  have h2:l.any yBad=true:=h2
  rw [if_neg (by rw [h]; simp),if_pos h2] at hQ; exact hQ
 ·have h:l.any yName=false:=h
  have h2:l.any yBad=false:=h2
  rw [if_neg (by rw [h]; simp),if_neg (by rw [h2]; simp)] at hQ; exact hQ
def aloneZ (e:List Int) (i:Nat):Bool:=(List.range e.length).all fun k=>decide (0<e.getD k 0) == decide (k=i)
theorem aloneZ_I {e:List Int} {i:Nat} (h:i<e.length) (h0:∀ x∈e,0≤x):aloneZ e i=aloneI e i:=by
 unfold aloneZ aloneI
 have g:∀ k,k<e.length→0≤e.getD k 0:=fun k hk=>by
  rw [List.getD_eq_getElem?_getD,List.getElem?_eq_getElem hk]; exact h0 _ (List.getElem_mem hk)
 rw [Bool.eq_iff_iff,Bool.and_eq_true,List.all_eq_true,List.all_eq_true,decide_eq_true_iff]
 constructor
 ·intro ha
  refine ⟨?_,fun k hk=>?_⟩
  ·have:=ha i (List.mem_range.2 h)
   simpa using this
  ·have h1:=ha k hk
   have h2:=g k (List.mem_range.1 hk)
   rw [beq_iff_eq] at h1
   by_cases hki:k=i
   ·simp [hki]
   ·rw [decide_eq_false hki] at h1
    have h1:=of_decide_eq_false h1
    rw [decide_eq_true (show e.getD k 0=0 by omega),Bool.or_true]
 ·rintro ⟨h1,h2⟩ k hk
  rw [beq_iff_eq]
  have h3:=h2 k hk
  simp only [Bool.or_eq_true,decide_eq_true_iff] at h3
  by_cases hki:k=i
  ·subst hki; rw [decide_eq_true h1]; simp
  ·rcases h3 with h3 | h3
   ·exact absurd h3 hki
   ·rw [h3,decide_eq_false hki]; rfl
theorem poly_alone_ok (e:List Int) (i:Nat):Fn Zgq [psD e,iD i] (bD (aloneZ e i)):=fun Q hQ=>by
 refine Zmf _ _ _ fun hb=>?_
 rw [encP_length] at hb ⊢
 refine Zir Q _ _ _ hb (fun k=>(List.range k).all (fun k=>decide (0<e.getD k 0) == decide (k=i))=true) (fun k hk hJ K hK=>?_) (fun hJ=>⟨trivial,?_⟩) 0 (Nat.zero_le _) rfl
 ·simp only [encP_getD _ k hk,List.drop_zero,List.headD_cons,List.tail_cons,encP_length]
  have hg:e.getD k 0=e[k]:=by rw [List.getD_eq_getElem?_getD,List.getElem?_eq_getElem hk]; rfl
  have ei:(((k:Nat):Int) == ((i:Nat):Int))=decide (k=i):=by
   rw [Bool.eq_iff_iff,beq_iff_eq,decide_eq_true_iff]; omega
  refine ⟨by omega,by omega,?_⟩
  refine iff_not (iff_intro (fun h=>hK ?_) (fun h=>⟨trivial,?_⟩))
  ·have h:(decide (e[k] > 0) == (((k:Nat):Int) == ((i:Nat):Int)))=true:=h
   rw [List.range_succ,List.all_append,hJ,List.all_cons,List.all_nil,Bool.and_true,Bool.true_and,hg,← ei]
   exact h
  ·have h:(decide (e[k] > 0) == (((k:Nat):Int) == ((i:Nat):Int)))=false:=h
   have:aloneZ e i=false:=by
    unfold aloneZ
    rw [← Bool.not_eq_true]
    intro ha
    have:=(List.all_eq_true.1 ha) k (List.mem_range.2 hk)
    rw [hg,← ei] at this
    have h3:(decide (e[k] > 0) == (((k:Nat):Int) == ((i:Nat):Int)))=true:=this
    rw [h] at h3; cases h3
   rw [this] at hQ; exact hQ
 ·have:aloneZ e i=true:=hJ
  rw [this] at hQ; exact hQ
theorem poly_Monotone_1_ok (x:Mo) (i:Nat) {Q:D→Heap→Prop} (hQ:Q (bD (aloneZ x.exps i)) [.cells [iD i]]):cl ZR [moD x,.ptr (.own 0) 0] [.cells [iD i]] Q:=by
 refine Zja _ _ _ _ ?_
 unfold Ze4
 exact poly_alone_ok x.exps i _ ⟨rfl,rfl,trivial,hQ⟩
theorem IndexFunc_al_ok (p:Mos) (i:Nat) {Q:D→Heap→Prop} (hQ:Q (iD (idx (fun x:Mo=>aloneZ x.exps i) p)) [.cells [iD i]]):cl ZbE [msD p,.fn ZR [.ptr (.own 0) 0]] [.cells [iD i]] Q:=by
 refine ZcU _ _ _ fun hb=>?_
 rw [encMos_length] at hb ⊢
 refine ZbA Q _ _ hb (fun k h=>h=V.i (i:Nat)∧(p.take k).any (fun x:Mo=>aloneZ x.exps i)=false) (fun k h hk hJ K hK=>?_) (fun h hJ=>⟨trivial,?_⟩) 0 _ (Nat.zero_le _) ⟨rfl,rfl⟩
 ·obtain ⟨rfl,hJ⟩:=hJ
  simp only [encMos_getD _ k hk,List.drop_zero,List.drop_succ_cons,List.headD_cons,List.tail_cons,encMos_length]
  refine ⟨by omega,by omega,poly_Monotone_1_ok p[k] i ⟨rfl,rfl,iff_intro (fun h=>⟨trivial,?_⟩) (fun h=>hK _ ⟨rfl,any_take hk hJ h⟩)⟩⟩
  rw [idx_at hk hJ h] at hQ
  exact hQ
 ·obtain ⟨rfl,hJ⟩:=hJ
  rw [List.take_length] at hJ
  rw [idx_none hJ] at hQ
  exact hQ
theorem ContainsFunc_al_ok (p:Mos) (i:Nat) {Q:D→Heap→Prop} (hQ:Q (bD (p.any fun x:Mo=>aloneZ x.exps i)) [.cells [iD i]]):cl Za6 [msD p,.fn ZR [.ptr (.own 0) 0]] [.cells [iD i]] Q:=by
 refine Zcc _ _ _ ?_
 unfold Zas
 refine IndexFunc_al_ok p i ⟨rfl,rfl,trivial,?_⟩
 rw [← idx_any] at hQ
 exact hQ
theorem any_alone {n:Nat} {p q:Mos} (h:p.Perm q) (hg:GoodMo n q) {i:Nat} (hi:i<n):(p.any fun x:Mo=>aloneZ x.exps i)=aloneP q i:=by
 rw [any_perm h]
 unfold aloneP
 rw [Bool.eq_iff_iff,List.any_eq_true,List.any_eq_true]
 have e:∀ m∈q,aloneZ m.exps i=aloneI m.exps i:=fun m hm=>aloneZ_I (by rw [(hg m hm).1]; exact hi) fun x hx=>((hg m hm).2.2.2 x hx).1
 exact ⟨fun ⟨m,hm,h2⟩=>⟨m,hm,by rw [← e m hm]; exact h2⟩,fun ⟨m,hm,h2⟩=>⟨m,hm,by rw [e m hm]; exact h2⟩⟩
def monoQ (l:Pls) (s:Ys):Bool×Int:=if plsE l≠0 then (false,plsE l) else monoE l s
theorem poly_Monotone_ok (l:Pls) (s:Ys):Fn ZdN [plsD l,ysD s] (.tup [bD (monoQ l s).1,iD (monoQ l s).2]):=fun Q hQ=>by
 refine Zku _ _ _ ?_
 unfold ZfV
 unfold monoQ monoE at hQ
 refine poly_Check_ok l _ ⟨rfl,rfl,iff_bne (fun h=>⟨⟨trivial,trivial,trivial⟩,?_⟩) (fun h=>?_)⟩
 ·have h:plsE l≠0:=h
  rw [if_pos h] at hQ; exact hQ
 have h:plsE l=0:=h
 have hl:=plsE_zero h
 rw [if_neg (by simp [h])] at hQ
 refine path_Symbols_ok s _ ⟨rfl,rfl,iff_bne (fun h=>⟨⟨trivial,trivial,trivial⟩,?_⟩) (fun h hb=>?_)⟩
 ·have h:ysE s≠0:=h
  rw [if_pos h] at hQ; exact hQ
 have h:ysE s=0:=h
 rw [if_neg (by simp [h])] at hQ
 have hy:=ysE_zero h
 rw [encYs_length] at hb ⊢
 refine Zgx Q _ _ _ _ hb (fun k=>(s.take k).all (yFits l)=true) (fun k hk hJ K hK=>?_) (fun hJ _=>?_) 0 (Nat.zero_le _) rfl
 ·simp only [encYs_getD _ k hk,List.drop_zero,List.headD_cons,List.tail_cons,encYs_length]
  have hin:=List.getElem_mem hk
  obtain ⟨_,y2,y3⟩:=hy _ hin
  have e1:((s[k]).2.toNat:Int)=(s[k]).2:=by omega
  rw [← e1]
  refine ⟨by omega,by omega,poly_interpretation_ok hl (s[k]).1 (s[k]).2.toNat (by omega) _ ⟨rfl,rfl,iff_not (iff_intro (fun h2=>hK (all_take (p:=yFits l) hk hJ ?_)) (fun h2=>⟨⟨trivial,trivial,trivial⟩,?_⟩))⟩⟩
  ·have h2:(entQ l (s[k]).1 (s[k]).2.toNat).2=true:=h2
   rw [(entQ_perm _ _ _).2] at h2; exact h2
  ·have h2:(entQ l (s[k]).1 (s[k]).2.toNat).2=false:=h2
   rw [(entQ_perm _ _ _).2] at h2
   have:s.all (yFits l)=false:=all_not hk h2
   rw [if_neg (by rw [this]; simp)] at hQ
   exact hQ
 rw [List.take_length] at hJ
 rw [if_pos hJ] at hQ
 have hfit:=List.all_eq_true.1 hJ
 rw [encYs_length]
 refine ZgK Q _ _ _ hb (fun k=>(s.take k).all (yMono l)=true) (fun k hk hJ m1 hK=>?_) (fun hJ=>⟨⟨trivial,trivial,trivial⟩,?_⟩) 0 (Nat.zero_le _) rfl
 ·simp only [encYs_getD _ k hk,List.drop_zero,List.headD_cons,List.tail_cons,encYs_length]
  have hin:=List.getElem_mem hk
  obtain ⟨_,y2,y3⟩:=hy _ hin
  have hf:(entPl l (s[k]).1 (s[k]).2.toNat).2=true:=hfit _ hin
  have hg:=entPl_good hl.mono hf
  have e1:((s[k]).2.toNat:Int)=(s[k]).2:=by omega
  obtain ⟨qp,_⟩:=entQ_perm l (s[k]).1 (s[k]).2.toNat
  rw [← e1]
  refine ⟨by omega,by omega,poly_interpretation_ok hl (s[k]).1 (s[k]).2.toNat (by omega) _ ⟨rfl,rfl,?_⟩⟩
  refine ZgW Q m1 (fun a1 a2 a3 a4 a5 a6 a7=>a1=encPls l∧a2=V.l (encMos (entQ l (s[k]).1 (s[k]).2.toNat).1)∧a3=encYs s∧a4=(s.length:Int)∧a5=(k:Int)∧a6=V.i ((s[k]).2.toNat:Nat) ∧
    ∃ j:Nat,a7=j∧j≤(s[k]).2.toNat∧(List.range j).all (fun i=>aloneP (entPl l (s[k]).1 (s[k]).2.toNat).1 i)=true)
    (fun a1 a2 a3 a4 a5 a6 a7=>((s[k]).2.toNat - a7).toNat) (fun a1 a2 a3 a4 a5 a6 a7 hI m2 hK1=>?_) _ _ _ _ _ _ _ ⟨rfl,rfl,rfl,rfl,rfl,rfl,0,rfl,Nat.zero_le _,rfl⟩
  obtain ⟨rfl,rfl,rfl,rfl,rfl,rfl,j,rfl,hj,hall⟩:=hI
  unfold ZdI
  refine iff_dec (fun h3=>?_) (fun h3=>?_)
  ·have h3:(j:Int)<(((s[k]).2.toNat:Nat):Int):=h3
   have ea:=any_alone qp hg (show j<(s[k]).2.toNat by omega)
   refine ContainsFunc_al_ok _ j ⟨rfl,rfl,iff_not (iff_intro (fun h4=>?_) (fun h4=>⟨⟨trivial,trivial,trivial⟩,?_⟩))⟩
   ·have h4:((entQ l (s[k]).1 (s[k]).2.toNat).1.any fun x:Mo=>aloneZ x.exps j)=true:=h4
    rw [ea] at h4
    rw [wrap_in _ (by omega) (by omega)]
    refine hK1 _ _ _ _ _ _ _ ⟨rfl,rfl,rfl,rfl,rfl,rfl,j+1,by omega,by omega,?_⟩ (by omega)
    rw [List.range_succ,List.all_append,hall,List.all_cons,List.all_nil,h4]; rfl
   ·have h4:((entQ l (s[k]).1 (s[k]).2.toNat).1.any fun x:Mo=>aloneZ x.exps j)=false:=h4
    rw [ea] at h4
    have h5:yMono l s[k]=false:=by
     unfold yMono
     rw [← Bool.not_eq_true]; intro ha
     have:=List.all_eq_true.1 ha j (List.mem_range.2 (by omega))
     rw [h4] at this; cases this
    have:s.all (yMono l)=false:=all_not hk h5
    rw [this] at hQ; exact hQ
  ·have h3:¬ (j:Int)<(((s[k]).2.toNat:Nat):Int):=h3
   have hje:j=(s[k]).2.toNat:=by omega
   subst hje
   exact hK (all_take hk hJ hall)
 ·rw [List.take_length] at hJ
  rw [hJ] at hQ; exact hQ
theorem look_coef {n:Nat} (hn:n≤65536) {e:List Int} (he:ValidE n e):∀ {C:Mos},SmallP n C→lookP (C.map entP) (keyB e)=coefP C e
 | [],_=>rfl
 | x::C,h=>by
  rw [List.map_cons,lookP_cons,coefP,look_coef hn he fun y hy=>h y (by simp [hy])]
  have hx:=(h x (by simp)).1
  by_cases h2:x.exps=e
  ·rw [if_pos h2,if_pos (by rw [← h2]; rfl)]; rfl
  ·rw [if_neg h2,if_neg]
   intro h3
   exact h2 (keyB_inj hn hx he h3.symm)
theorem mget_coef {n:Nat} (hn:n≤65536) {e:List Int} (he:ValidE n e) {C:Mos} (h:SmallP n C):mget [.str] [V.i 0] [V.s (keyB e)] (encKs C)=[V.i (coefP C e:Nat)]:=by
 rw [encKs_eq,mget_Pm,look_coef hn he h]
theorem polyT_sort {l:Pls} (hl:PlOk l) {vs:List ByteArray} {t:Tm} {c:Mos} (h:polyT l vs t=some c):SortP c:=(term_pos l (entPl_pos hl.mono) vs t c h).2
theorem ofE_pol {l:Pls} {t:Tm} (h:t.check=0):ofE l t=polE l (Tm.vars [t]) t:=by
 unfold ofE polE
 rw [if_neg (by simp [h])]
theorem vars_len4 {t:Tm} (h:t.size≤4000):(Tm.vars [t]).length≤4000:=by
 have:=Tm.collectL_len [t] []
 have h3:Tm.sizeL [t]≤4000:=by simp [Tm.sizeL]; omega
 show (Tm.collectL [t] []).length≤_
 simp at this
 omega
def valE (l:Pls) (t:Tm):Nat×Int:=if plsE l≠0 then (0,plsE l) else if ofE l t≠0 then (0,ofE l t) else (constP (ofP l t),0)
theorem poly_Value_ok (l:Pls) (t:Tm) (hs:t.size≤1048576):Fn Zen [plsD l,tD t] (.tup [wD (valE l t).1,iD (valE l t).2]):=fun Q hQ=>by
 refine Zml _ _ _ _ _ ?_
 unfold Zis
 unfold valE at hQ
 rw [show [[V.s t.name,V.b t.var,V.l (Tm.encL t.args)]]=Tm.encL [t] by simp [Tm.encL,Tm.enc_eq]]
 refine poly_Check_ok l _ ⟨rfl,rfl,iff_bne (fun h=>⟨⟨trivial,trivial,trivial⟩,?_⟩) (fun h=>?_)⟩
 ·have h:plsE l≠0:=h
  rw [if_pos h] at hQ; exact hQ
 have h:plsE l=0:=h
 have hl:=plsE_zero h
 rw [if_neg (by simp [h])] at hQ
 refine term_Check_ok t (by unfold small; omega) _ ⟨rfl,rfl,iff_bne (fun h=>⟨⟨trivial,trivial,trivial⟩,?_⟩) (fun h=>?_)⟩
 ·have h:t.check≠0:=h
  have e:ofE l t=t.check:=by unfold ofE; rw [if_pos h]
  rw [e,if_pos h] at hQ; exact hQ
 have h:t.check=0:=h
 rw [ofE_pol h] at hQ
 obtain ⟨hfm,hsz,_⟩:=Tm.check_zero.1 h
 have hvl:(Tm.vars [t]).length≤65536:=Nat.le_trans (vars_len4 hsz) (by omega)
 have body:∀ {R:D→Heap→Prop},(∀ x y,Q (.tup [.v (.int .u64) ((mget [.str] [V.i 0] [V.s (ByteArray.mk #[])] x).headD V.none),iD y]) []→R (.tup [.v (.mp Zc) (.l x),iD y]) []) →
   cl ZM [tsD [t]] [] fun r5 H6=>r5=.v (.sl Zb) r5.V∧H6=[]∧cl Zp [plsD l,tD t,.v (.sl Zb) r5.V] [] R:=fun {R} hR=>by
  refine VarsOf_vars [t] (by simp [Tm.sizeL]; omega) _ ⟨rfl,rfl,?_⟩
  refine poly_polynomial_ok hl (vars_sort _) hvl t (by omega) hfm (pre_vars t) (fun c C h2 h3 h4 h5=>hR _ _ ?_) (fun h2=>hR _ _ ?_)
  ·have e0:ofE l t=0:=by rw [ofE_pol h]; exact h2
   have hc:ofP l t=c:=by unfold ofP; rw [if_pos e0,h3]; rfl
   rw [if_neg (by simp [h2]),hc] at hQ
   have hsm:=polyT_small hl.mono (vars_sort [t]).nodup (pre_vars t) h3
   have hlen:LenP (Tm.vars [t]).length c:=fun x hx=>(hsm x hx).1.1
   rw [← keyB_zeros (Tm.vars [t]).length,mget_coef hvl (valid_zeros _) h5,coefP_perm h4 (dist_perm h4.symm (polyT_sort hl h3).dist),← constP_eq hlen]
   exact hQ
  ·rw [if_pos h2] at hQ
   exact hQ
 have ret:∀ x y,Q (.tup [.v (.int .u64) ((mget [.str] [V.i 0] [V.s (ByteArray.mk #[])] x).headD V.none),iD y]) []→(True∧True∧True)∧Q (.tup [.v (.int .u64) ((mget [.str] [V.i 0] [V.s (ByteArray.mk #[])] x).headD V.none),iD y]) []:=fun x y h=>⟨⟨trivial,trivial,trivial⟩,h⟩
 repeat' first | exact True.intro | exact body fun x y h=>⟨rfl,rfl,⟨ret x y h,ret x y h,trivial⟩,ret x y h,trivial⟩ | refine And.intro ?_ ?_
end Go.Proofs.YthhnadeoioeniaaGreat
