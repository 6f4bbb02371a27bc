/-
  Texts WalkR, WalkB, AbsS, SortA, AbsK, V0 of this proof, joined.
-/
import Derived.Shelf.Slices.Clone
import Derived.RangeFuncNested
import Derived.RangeFuncBound
import Derived.RangeFuncCalls
import Derived.RangeFuncLeaves
import Derived.Shelf.Abstract
import Derived.Shelf.RegionOpen
import Derived.WalkKit
import Derived.OwnWalkIn
import Derived.TacticsInMore
import Derived.LoopNIn
import Derived.LoopIn
import Derived.StillTail
import Derived.Shelf.Sort.Plain
import Derived.Shelf.Slices.In.SortNone
import Derived.Test.YthjlodlkpgjlkaaGreatP9
set_option linter.unusedVariables false
namespace Go.Proofs.YthjlodlkpgjlkaaGreat
open Go Go.Abs Go.Proofs Go.RowKit Go.Shelf
abbrev ops6 : Array Oper := #[
        { dst := some 22, op := Op.load 25 (Operand.tmp 8), type := 25, pos := "term.go:129", «after» := #[],
          guard := none },
        { dst := some 23, op := Op.move (Operand.tmp 1), type := 38, pos := "term.go:129", «after» := #[],
          guard := none },
        { dst := some 24,
          op := Op.call { callee := Callee.value (Operand.func 222), args := #[Operand.tmp 23], argTypes := #[38] },
          type := 38, pos := "term.go:129", «after» := #[{ on := 1, ground := Ground.data }], guard := none },
        { dst := some 25, op := Op.move (Operand.tmp 7), type := 3, pos := "term.go:129", «after» := #[], guard := none },
        { dst := some 26, op := Op.buildSlice 38 1 #[(0, Operand.tmp 25)], type := 38, pos := "term.go:129",
          «after» := #[{ on := 3, ground := Ground.data }], guard := none },
        { dst := some 27,
          op :=
            Op.call
              { callee := Callee.builtin Builtin.append, args := #[Operand.tmp 24, Operand.tmp 26],
                argTypes := #[38, 38] },
          type := 38, pos := "term.go:129",
          «after» :=
            #[{ on := 2, ground := Ground.data }, { on := 4, ground := Ground.data },
              { on := 2, ground := Ground.chain }],
          guard := none },
        { dst := some 28, op := Op.move (Operand.tmp 2), type := 219, pos := "term.go:129", «after» := #[],
          guard := none },
        { dst := some 29,
          op :=
            Op.call
              { callee := Callee.value (Operand.func 172), args := #[Operand.tmp 22, Operand.tmp 27, Operand.tmp 28],
                argTypes := #[25, 38, 219] },
          type := 4, pos := "term.go:129",
          «after» :=
            #[{ on := 0, ground := Ground.data }, { on := 5, ground := Ground.data },
              { on := 6, ground := Ground.data }, { on := 5, ground := Ground.chain }],
          guard := none },
        { dst := some 30, op := Op.unOp UnOp.not 4 (Operand.tmp 29), type := 4, pos := "term.go:129",
          «after» := #[{ on := 7, ground := Ground.data }], guard := none }]
def A6 (z : Nat → Value) (pv : Value) (l k bx : Nat) (x22 x23 x24 x25 x26 x27 x28 x29 x30 : Value) : Act :=
  { tmps := #[z 0, pv, .func (.yield l) #[] #[], z 3, z 4, z 5, z 6, .int .i64 k, .pointer (some ⟨bx, 0, none⟩), z 9, z 10, z 11, z 12, z 13, z 14, z 15, z 16, z 17, z 18, z 19, z 20, z 21, x22, x23, x24, x25, x26, x27, x28, x29, x30, z 31], defers := [] }
variable {Q:Exit→Act→World→Prop} {K:Act→World→Prop} {z:Nat→Value} {pv:Value} {l k bx:Nat} {x22 x23 x24 x25 x26 x27 x28 x29 x30:Value} {w:World}
theorem wpOp_of {P:Program} {ops:Array Oper} {i:Nat} {o:Oper} {a:Act} (ho:ops[i]?=some o) (hg:o.guard=none) (h:o.wp P a w K Q):wpOp P ops Q i K a w:=by
 unfold wpOp
 rw [ho]
 show (if Region.wanted o (yielded ops a.tmps) then _ else _)
 rw [if_pos (by simp [Region.wanted,hg])]
 exact .inl h
theorem s0 {v0 v1 v2:Value} (h0:w.heap[bx]?=some (.cells #[v0,v1,v2] 25 (0,0))) (h:K (A6 z pv l k bx (.agg #[v0,v1,v2]) x23 x24 x25 x26 x27 x28 x29 x30) w) :
  wpOp Tryz.prog ops6 Q 0 K (A6 z pv l k bx x22 x23 x24 x25 x26 x27 x28 x29 x30) w:=by
 have c0:w.cell? ⟨bx,0,none⟩=some v0:=by simp [World.cell?,h0]
 have c1:w.cell? ⟨bx,1,none⟩=some v1:=by simp [World.cell?,h0]
 have c2:w.cell? ⟨bx,2,none⟩=some v2:=by simp [World.cell?,h0]
 refine wpOp_of rfl rfl ?_
 unfold A6
 go_simp
 exact h
theorem s4 (h:∀ g w',w.grownBy w' none→w.heap.size≤g→w'.heap[g]?=some (.cells #[.int .i64 k] 3 (0,0))→K (A6 z pv l k bx x22 x23 x24 (.int .i64 k) (.slice (some ⟨g,0,none⟩) 1 1) x27 x28 x29 x30) w') :
  wpOp Tryz.prog ops6 Q 4 K (A6 z pv l k bx x22 x23 x24 (.int .i64 k) x26 x27 x28 x29 x30) w:=by
 refine wpOp_of rfl rfl ?_
 unfold A6
 go_simp
 exact h _ _ (World.grownBy_alloc w _ none) (Nat.le_refl _) Array.getElem?_push_size
def IntRow (W:World) (base:Nat) (v:Value) (n:Nat):Prop:=∃ zs:List Int,zs.length=n∧W.ownsRow base 3 1 v n (zs.map (Value.int .i64))
theorem clone_ok {n:Nat} (h:IntRow w 0 pv n) (hn:n≤1099511627776):Calls Tryz.prog 222 #[pv] w fun e w'=>∃ v',e=.returned v'∧IntRow w' w.heap.size v' n∧w.grownBy w' none:=by
 obtain ⟨zs,hz,hl,hrow⟩:=h
 rcases hrow with ⟨rfl,rfl⟩ | ⟨g,cap,cur,rfl,_,hh,hnc,hcm,hsz,htake⟩
 ·refine (Any.slices_Clone_int_nil laysNm215 0 0 w).mono ?_
  rintro e w' ⟨rfl,rfl⟩
  exact ⟨_,rfl,⟨zs,hz,hl,.inl ⟨rfl,rfl⟩⟩,⟨rfl,rfl,rfl,Nat.le_refl _,fun _ _ _=>rfl⟩⟩
 ·refine (Any.slices_Clone_int laysNm215 g 0 n cap zs w (by omega) (by omega) fun j hj=>?_).mono ?_
  ·have h1:(cur.toList.take (n*1))[j]?=some (Value.int .i64 (zs.getD j 0)):=by
    rw [htake,List.getElem?_map,List.getElem?_eq_getElem hj,List.getD_eq_getElem?_getD,List.getElem?_eq_getElem hj]; rfl
   rw [List.getElem?_take_of_lt (by omega)] at h1
   rw [Nat.zero_add]
   simpa [World.cell?,hh] using h1
  ·rintro e w' ⟨v',rfl,ho,_,hB⟩
   refine ⟨v',rfl,⟨zs.take n,by simp; omega,ho⟩,⟨hB.os,hB.tape,hB.output,hB.size,fun b hb _=>hB.block b hb⟩⟩
theorem s2 {n:Nat} (hp:IntRow w 0 pv n) (hn:n≤1099511627776) (h:∀ v' w',w.grownBy w' none→IntRow w' w.heap.size v' n→K (A6 z pv l k bx x22 pv v' x25 x26 x27 x28 x29 x30) w') :
  wpOp Tryz.prog ops6 Q 2 K (A6 z pv l k bx x22 pv x24 x25 x26 x27 x28 x29 x30) w:=by
 refine wpOp_of rfl rfl ?_
 unfold A6
 go_simp
 refine (clone_ok hp hn).mono ?_
 rintro e w' ⟨v',rfl,ho,hg⟩
 exact h v' w' hg ho
theorem info3:(Tryz.prog.info? 3).map (fun i=>(i.zero,i.size,i.bytes))=some (some (.int .i64 0),1,8):=by kernel_rfl
theorem und57:Tryz.prog.underlying 38=some (.slice 3):=by kernel_rfl
theorem s5 {n g base:Nat} {v:Value} (hv:IntRow w base v n) (hn:n≤1099511627776) (hg:w.heap[g]?=some (.cells #[.int .i64 k] 3 (0,0))) (hb:base≤w.heap.size)
  (h:∀ v' w',w.grownBy w' v.ownBlock→IntRow w' base v' (n+1)→K (A6 z pv l k bx x22 x23 v x25 (.slice (some ⟨g,0,none⟩) 1 1) v' x28 x29 x30) w') :
  wpOp Tryz.prog ops6 Q 5 K (A6 z pv l k bx x22 x23 v x25 (.slice (some ⟨g,0,none⟩) 1 1) x27 x28 x29 x30) w:=by
 obtain ⟨zs,hz,hown⟩:=hv
 obtain ⟨i0,hi,hz0,hz1,hz2⟩:=info_parts info3
 obtain ⟨v',w',hr,hown',hgr,_,_⟩:=run_append_own_at (P:=Tryz.prog) (w:=w) base 38 38 3 i0 (.int .i64 0) 1 8 und57 hi hz0 hz1 hz2 rfl (by decide) v n _ hown ⟨g,0,none⟩ 1 1 [.int .i64 k] rfl (fun j u hj=>by
   match j with
   | 0=>simp at hj; subst hj; simp [Addr.add,World.cell?,hg]
   | j+1=>simp at hj) (by simp [Value.oneCell']) (by unfold maxLen; omega) (by omega) hb
 refine wpOp_of rfl rfl ?_
 have hx:(execOp (A6 z pv l k bx x22 x23 v x25 (.slice (some ⟨g,0,none⟩) 1 1) x27 x28 x29 x30).eval ops6[5]).run Tryz.prog w=.ok (.value v') w':=by
  simp [execOp,resolve,invoke,builtin,hr,Result.andThen,A6,Act.eval]
 unfold Oper.wp
 rw [hx]
 exact h v' w' hgr ⟨zs++[(k:Int)],by simp [hz],by simpa using hown'⟩
theorem s7 (hc:Calls Tryz.prog 172 #[x22,x27,.func (.yield l) #[] #[]] w fun e w'=>∃ b:Bool,e=.returned (.bool b)∧Q .normal (A6 z pv l k bx x22 x23 x24 x25 x26 x27 (.func (.yield l) #[] #[]) (.bool b) (.bool !b)) w') :
  wpList Tryz.prog ops6 Q [ops6[7],ops6[8]] (A6 z pv l k bx x22 x23 x24 x25 x26 x27 (.func (.yield l) #[] #[]) x29 x30) w:=by
 unfold A6
 go_wp2_with (go_at_call 172; refine hc.mono ?_; rintro e w' ⟨b,rfl,hK⟩)
 exact hK
theorem IntRow.grown {W W':World} {base n:Nat} {v:Value} {row:Option Nat} (h:IntRow W base v n) (hg:W.grownBy W' row) (hb:∀ b,v.ownBlock=some b→some b≠row):IntRow W' base v n:=by
 obtain ⟨zs,hz,hl,hr⟩:=h
 refine ⟨zs,hz,hl,?_⟩
 rcases hr with hr | ⟨g,cap,cur,rfl,h1,hh,h2⟩
 ·exact .inl hr
 ·exact .inr ⟨g,cap,cur,rfl,h1,(hg.block g (Array.getElem?_eq_some_iff.1 hh).1 (hb g rfl)).trans hh,h2⟩
theorem IntRow.block {W:World} {base n:Nat} {v:Value} (h:IntRow W base v n) {b:Nat} (hb:v.ownBlock=some b):base≤b∧b<W.heap.size:=by
 obtain ⟨zs,hz,hl,hr⟩:=h
 rcases hr with ⟨rfl,_⟩ | ⟨g,cap,cur,rfl,h1,hh,h2⟩
 ·cases hb
 ·cases hb; exact ⟨h1,(Array.getElem?_eq_some_iff.1 hh).1⟩
theorem IntRow.base {W:World} {base base' n:Nat} {v:Value} (h:IntRow W base v n) (hb:base'≤base):IntRow W base' v n:=by
 obtain ⟨zs,hz,hl,hr⟩:=h
 refine ⟨zs,hz,hl,?_⟩
 rcases hr with hr | ⟨g,cap,cur,rfl,h1,hh,h2⟩
 ·exact .inl hr
 ·exact .inr ⟨g,cap,cur,rfl,Nat.le_trans hb h1,hh,h2⟩
theorem draws {W:World} {n:Nat} {v0 v1 v2:Value} (hbox:W.heap[bx]?=some (.cells #[v0,v1,v2] 25 (0,0))) (hp:IntRow W 0 pv n) (hn:n≤1099511627776)
  (fin:∀ x24 x26 v' w,W.grownBy w none→IntRow w W.heap.size v' (n+1)→Calls Tryz.prog 172 #[.agg #[v0,v1,v2],v',.func (.yield l) #[] #[]] w fun e w'=>∃ b:Bool,e=.returned (.bool b)∧Q .normal (A6 z pv l k bx (.agg #[v0,v1,v2]) pv x24 (.int .i64 k) x26 v' (.func (.yield l) #[] #[]) (.bool b) (.bool !b)) w') :
  wpAny Tryz.prog .any ops6 Q 6 #[false,true,false,true,false,false,true,false,false] (A6 z pv l k bx x22 pv x24 (.int .i64 k) x26 x27 (.func (.yield l) #[] #[]) x29 x30) W:=by
 have g0:W.grownBy W none:=⟨rfl,rfl,rfl,Nat.le_refl _,fun _ _ _=>rfl⟩
 have tr:∀ {w w'},W.grownBy w none→w.grownBy w' none→W.grownBy w' none:=fun h h'=>⟨h'.os.trans h.os,h'.tape.trans h.tape,h'.output.trans h.output,Nat.le_trans h.size h'.size,fun b hb _=>(h'.block b (Nat.lt_of_lt_of_le hb h.size) (by simp)).trans (h.block b hb (by simp))⟩
 have tr2:∀ {w w' v},W.grownBy w none→w.grownBy w' (Value.ownBlock v)→(∀ b,v.ownBlock=some b→W.heap.size≤b)→W.grownBy w' none:=fun h h' hv=>⟨h'.os.trans h.os,h'.tape.trans h.tape,h'.output.trans h.output,Nat.le_trans h.size h'.size,fun b hb _=>(h'.block b (Nat.lt_of_lt_of_le hb h.size) (fun he=>by have:=hv b he.symm; omega)).trans (h.block b hb (by simp))⟩
 have box:∀ {w},W.grownBy w none→w.heap[bx]?=some (.cells #[v0,v1,v2] 25 (0,0)):=fun h=>(h.block bx (Array.getElem?_eq_some_iff.1 hbox).1 (by simp)).trans hbox
 have pos:∀ {w},W.grownBy w none→IntRow w 0 pv n:=fun h=>hp.grown h (by simp)
 have lit:∀ {w w':World} {g:Nat},w.grownBy w' none→w.heap[g]?=some (.cells #[.int .i64 k] 3 (0,0))→w'.heap[g]?=some (.cells #[.int .i64 k] 3 (0,0)):=fun h hg=>(h.block _ (Array.getElem?_eq_some_iff.1 hg).1 (by simp)).trans hg
 have d1111:∀ x24 x26 v' w x29 x30,W.grownBy w none→IntRow w W.heap.size v' (n+1)→wpAny Tryz.prog .any ops6 Q 2 #[true,true,true,true,true,true,true,false,false] (A6 z pv l k bx (.agg #[v0,v1,v2]) pv x24 (.int .i64 k) x26 v' (.func (.yield l) #[] #[]) x29 x30) w:=fun x24 x26 v' w x29 x30 hg hv=>by
  refine wpAny_of_seq [ops6[7],ops6[8]] 7 _ _ _ (fun j=>?_) (by kernel_rfl) (s7 (fin x24 x26 v' w hg hv))
  match j with
  | 0=>rfl
  | 1=>rfl
  | j+2 =>
   have:ops6[7+(j+2)]?=none:=Array.getElem?_eq_none (by show 9≤_; omega)
   rw [this]; rfl
 have d0111:∀ x22 x24 x26 v' w x29 x30,W.grownBy w none→IntRow w W.heap.size v' (n+1)→wpAny Tryz.prog .any ops6 Q 3 #[false,true,true,true,true,true,true,false,false] (A6 z pv l k bx x22 pv x24 (.int .i64 k) x26 v' (.func (.yield l) #[] #[]) x29 x30) w:=fun x22 x24 x26 v' w x29 x30 hg hv=>by
  refine wpAny_all (rs:=[0]) (by kernel_rfl) (by simp) ?_
  simp only [List.forall_mem_cons,List.not_mem_nil,false_imp_iff,implies_true,and_true]
  exact s0 (box hg) (d1111 x24 x26 v' w x29 x30 hg hv)
 have d1110:∀ x24 g x27 w x29 x30,W.grownBy w none→IntRow w W.heap.size x24 n→w.heap[g]?=some (.cells #[.int .i64 k] 3 (0,0))→wpAny Tryz.prog .any ops6 Q 3 #[true,true,true,true,true,false,true,false,false] (A6 z pv l k bx (.agg #[v0,v1,v2]) pv x24 (.int .i64 k) (.slice (some ⟨g,0,none⟩) 1 1) x27 (.func (.yield l) #[] #[]) x29 x30) w:=fun x24 g x27 w x29 x30 hg hv hl=>by
  refine wpAny_all (rs:=[5]) (by kernel_rfl) (by simp) ?_
  simp only [List.forall_mem_cons,List.not_mem_nil,false_imp_iff,implies_true,and_true]
  exact s5 hv hn hl hg.size fun v' w' hgr hv'=>d1111 _ _ v' w' _ _ (tr2 hg hgr fun b hb=>(hv.block hb).1) hv'
 have d0110:∀ x22 x24 g x27 w x29 x30,W.grownBy w none→IntRow w W.heap.size x24 n→w.heap[g]?=some (.cells #[.int .i64 k] 3 (0,0))→wpAny Tryz.prog .any ops6 Q 4 #[false,true,true,true,true,false,true,false,false] (A6 z pv l k bx x22 pv x24 (.int .i64 k) (.slice (some ⟨g,0,none⟩) 1 1) x27 (.func (.yield l) #[] #[]) x29 x30) w:=fun x22 x24 g x27 w x29 x30 hg hv hl=>by
  refine wpAny_all (rs:=[0,5]) (by kernel_rfl) (by simp) ?_
  simp only [List.forall_mem_cons,List.not_mem_nil,false_imp_iff,implies_true,and_true]
  exact ⟨s0 (box hg) (d1110 _ _ _ w _ _ hg hv hl),s5 hv hn hl hg.size fun v' w' hgr hv'=>d0111 _ _ _ v' w' _ _ (tr2 hg hgr fun b hb=>(hv.block hb).1) hv'⟩
 have d1100:∀ x24 x26 x27 w x29 x30,W.grownBy w none→IntRow w W.heap.size x24 n→wpAny Tryz.prog .any ops6 Q 4 #[true,true,true,true,false,false,true,false,false] (A6 z pv l k bx (.agg #[v0,v1,v2]) pv x24 (.int .i64 k) x26 x27 (.func (.yield l) #[] #[]) x29 x30) w:=fun x24 x26 x27 w x29 x30 hg hv=>by
  refine wpAny_all (rs:=[4]) (by kernel_rfl) (by simp) ?_
  simp only [List.forall_mem_cons,List.not_mem_nil,false_imp_iff,implies_true,and_true]
  exact s4 fun g w' hgr _ hl=>d1110 _ _ _ w' _ _ (tr hg hgr) (hv.grown hgr (by simp)) hl
 have d1010:∀ x24 g x27 w x29 x30,W.grownBy w none→w.heap[g]?=some (.cells #[.int .i64 k] 3 (0,0))→wpAny Tryz.prog .any ops6 Q 4 #[true,true,false,true,true,false,true,false,false] (A6 z pv l k bx (.agg #[v0,v1,v2]) pv x24 (.int .i64 k) (.slice (some ⟨g,0,none⟩) 1 1) x27 (.func (.yield l) #[] #[]) x29 x30) w:=fun x24 g x27 w x29 x30 hg hl=>by
  refine wpAny_all (rs:=[2]) (by kernel_rfl) (by simp) ?_
  simp only [List.forall_mem_cons,List.not_mem_nil,false_imp_iff,implies_true,and_true]
  exact s2 (pos hg) hn fun v' w' hgr hv=>d1110 _ _ _ w' _ _ (tr hg hgr) (hv.base hg.size) (lit hgr hl)
 have d0100:∀ x22 x24 x26 x27 w x29 x30,W.grownBy w none→IntRow w W.heap.size x24 n→wpAny Tryz.prog .any ops6 Q 5 #[false,true,true,true,false,false,true,false,false] (A6 z pv l k bx x22 pv x24 (.int .i64 k) x26 x27 (.func (.yield l) #[] #[]) x29 x30) w:=fun x22 x24 x26 x27 w x29 x30 hg hv=>by
  refine wpAny_all (rs:=[0,4]) (by kernel_rfl) (by simp) ?_
  simp only [List.forall_mem_cons,List.not_mem_nil,false_imp_iff,implies_true,and_true]
  exact ⟨s0 (box hg) (d1100 _ _ _ w _ _ hg hv),s4 fun g w' hgr _ hl=>d0110 _ _ _ _ w' _ _ (tr hg hgr) (hv.grown hgr (by simp)) hl⟩
 have d0010:∀ x22 x24 g x27 w x29 x30,W.grownBy w none→w.heap[g]?=some (.cells #[.int .i64 k] 3 (0,0))→wpAny Tryz.prog .any ops6 Q 5 #[false,true,false,true,true,false,true,false,false] (A6 z pv l k bx x22 pv x24 (.int .i64 k) (.slice (some ⟨g,0,none⟩) 1 1) x27 (.func (.yield l) #[] #[]) x29 x30) w:=fun x22 x24 g x27 w x29 x30 hg hl=>by
  refine wpAny_all (rs:=[0,2]) (by kernel_rfl) (by simp) ?_
  simp only [List.forall_mem_cons,List.not_mem_nil,false_imp_iff,implies_true,and_true]
  exact ⟨s0 (box hg) (d1010 _ _ _ w _ _ hg hl),s2 (pos hg) hn fun v' w' hgr hv=>d0110 _ _ _ _ w' _ _ (tr hg hgr) (hv.base hg.size) (lit hgr hl)⟩
 have d1000:∀ x24 x26 x27 w x29 x30,W.grownBy w none→wpAny Tryz.prog .any ops6 Q 5 #[true,true,false,true,false,false,true,false,false] (A6 z pv l k bx (.agg #[v0,v1,v2]) pv x24 (.int .i64 k) x26 x27 (.func (.yield l) #[] #[]) x29 x30) w:=fun x24 x26 x27 w x29 x30 hg=>by
  refine wpAny_all (rs:=[2,4]) (by kernel_rfl) (by simp) ?_
  simp only [List.forall_mem_cons,List.not_mem_nil,false_imp_iff,implies_true,and_true]
  exact ⟨s2 (pos hg) hn fun v' w' hgr hv=>d1100 _ _ _ w' _ _ (tr hg hgr) (hv.base hg.size),s4 fun g w' hgr _ hl=>d1010 _ _ _ w' _ _ (tr hg hgr) hl⟩
 refine wpAny_all (rs:=[0,2,4]) (by kernel_rfl) (by simp) ?_
 simp only [List.forall_mem_cons,List.not_mem_nil,false_imp_iff,implies_true,and_true]
 exact ⟨s0 (box g0) (d1000 _ _ _ W _ _ g0),s2 (pos g0) hn fun v' w' hgr hv=>d0100 _ _ _ _ w' _ _ (tr g0 hgr) (hv.base g0.size),s4 fun g w' hgr _ hl=>d0010 _ _ _ _ w' _ _ (tr g0 hgr) hl⟩
theorem draws9 {W:World} {n:Nat} {v0 v1 v2:Value} (hQ:∀ c a w,¬ Q (.panic c) a w) (hbox:W.heap[bx]?=some (.cells #[v0,v1,v2] 25 (0,0))) (hp:IntRow W 0 pv n) (hn:n≤1099511627776)
  (fin:∀ x24 x26 v' w,W.grownBy w none→IntRow w W.heap.size v' (n+1)→Calls Tryz.prog 172 #[.agg #[v0,v1,v2],v',.func (.yield l) #[] #[]] w fun e w'=>∃ b:Bool,e=.returned (.bool b)∧Q .normal (A6 z pv l k bx (.agg #[v0,v1,v2]) pv x24 (.int .i64 k) x26 v' (.func (.yield l) #[] #[]) (.bool b) (.bool !b)) w') :
  wpAny Tryz.prog .any ops6 Q ops6.size (Array.replicate ops6.size false) (A6 z pv l k bx x22 x23 x24 x25 x26 x27 x28 x29 x30) W:=by
 refine wpAny_take (i:=1) (oi:=ops6[1]) (v:=pv) rfl (by kernel_rfl) (by kernel_rfl) (by kernel_rfl) (fun c a w h=>absurd h (hQ _ _ _)) (.inl ⟨rfl,fun w=>rfl⟩) ?_
 refine wpAny_take (i:=3) (oi:=ops6[3]) (v:=.int .i64 k) rfl (by kernel_rfl) (by kernel_rfl) (by kernel_rfl) (fun c a w h=>absurd h (hQ _ _ _)) (.inl ⟨rfl,fun w=>rfl⟩) ?_
 refine wpAny_take (i:=6) (oi:=ops6[6]) (v:=.func (.yield l) #[] #[]) rfl (by kernel_rfl) (by kernel_rfl) (by kernel_rfl) (fun c a w h=>absurd h (hQ _ _ _)) (.inl ⟨rfl,fun w=>rfl⟩) ?_
 exact draws hbox hp hn fin
end Go.Proofs.YthjlodlkpgjlkaaGreat
namespace Go.Proofs.YthjlodlkpgjlkaaGreat
open Go Go.Abs Go.Proofs Go.RowKit Go.Shelf
attribute [local go_sem] Oper.semAt_some
theorem IntRow.same {W W':World} {base n:Nat} {v:Value} (h:IntRow W base v n) (hs:∀ b,v.ownBlock=some b→W'.heap[b]?=W.heap[b]?):IntRow W' base v n:=by
 obtain ⟨zs,hz,hl,hr⟩:=h
 refine ⟨zs,hz,hl,?_⟩
 rcases hr with hr | ⟨g,cap,cur,rfl,h1,hh,h2⟩
 ·exact .inl hr
 ·exact .inr ⟨g,cap,cur,rfl,h1,(hs g rfl).trans hh,h2⟩
theorem wrap_step (k m:Nat) (hk:k<m) (hm:m≤1099511627776):wrap64 ((k:Int)+1)=((k+1:Nat):Int)∧m - (intOf (.int .i64 (wrap64 ((k:Int)+1)))).toNat<m - (intOf (.int .i64 (k:Int))).toNat:=by
 have h:wrap64 ((k:Int)+1)=((k+1:Nat):Int):=by
  unfold wrap64
  omega
 refine ⟨h,?_⟩
 rw [h]
 show m - ((k+1:Nat):Int).toNat<m - ((k:Nat):Int).toNat
 rw [Int.toNat_natCast,Int.toNat_natCast]
 omega
structure YEnv (S:Sig) (l:Nat) (J:List (List V)→(Nat→Prop)→World→Prop) (Jx:World→Prop):Prop where
 at_:∀ xs R W,J xs R W→(∀ b,S.F b→W.heap[b]?=S.w.heap[b]?)∧∀ b,R b→b<W.heap.size
 grow:∀ xs R W W',J xs R W→W.grownBy W' none→J xs (fun b=>R b∨(W.heap.size≤b∧b<W'.heap.size)) W'
 yield:∀ xs x R W (args:List Value),J (x::xs) R W→args.length=(rowA Zt x).length→(∀ j,RepD (lfs tab) { S with w:=W } ((rowA Zt x).getD j .undef) (args.getD j undef)) →
  YieldAt Fence.wide 0 Tryz.prog l args.toArray W fun e W'=>(e=.returned (.bool true)∧J xs R W'∧∀ b,R b→W'.heap[b]?=W.heap[b]?)∨(e=.returned (.bool false)∧Jx W')
theorem RepD.at {S:Sig} {W:World} (hF:∀ b,S.F b→W.heap[b]?=S.w.heap[b]?) {d:D} {v:Value} (h:RepD (lfs tab) S d v):RepD (lfs tab) { S with w:=W } d v :=
 RepD.mono (S:=S) (S':={ S with w:=W }) (Nat.le_refl _) (fun _ h=>h) hF (p:=fun _=>false) (fun r _ _=>.refl rfl rfl) (anyR_false d) h
theorem walk_row (x:Tm×Nat):rowA Zt (encW x)=[.ln x.2,tD x.1]:=rfl
theorem IntRow.slice {W:World} {base n:Nat} {v:Value} (h:IntRow W base v n) (hn:n≤1099511627776) (S:Sig):RepD (lfs tab) S (.ln n) v:=by
 obtain ⟨zs,hz,hl,hr⟩:=h
 have hb:n≤big:=by unfold big; omega
 rcases hr with ⟨rfl,h0⟩ | ⟨g,cap,cur,rfl,_⟩
 ·subst h0
  exact .ln _ _ _ hb
 ·exact .ln n (some ⟨g,0,none⟩) cap hb
theorem YEnv.at_yield {S:Sig} {l:Nat} {J:List (List V)→(Nat→Prop)→World→Prop} {Jx:World→Prop} (E:YEnv S l J Jx) {t:Tm} {n:Nat} {xs:List (List V)} {R:Nat→Prop} {W:World} (hJ:J (encW (t,n)::xs) R W) {tv pv:Value} (ht:RepD (lfs tab) S (tD t) tv) (hpv:∀ S,RepD (lfs tab) S (.ln n) pv) :
  YieldAt Fence.wide 0 Tryz.prog l #[pv,tv] W fun e W'=>(e=.returned (.bool true)∧J xs R W'∧∀ b,R b→W'.heap[b]?=W.heap[b]?)∨(e=.returned (.bool false)∧Jx W'):=by
 refine E.yield xs (encW (t,n)) R W [pv,tv] hJ (by rw [walk_row]; rfl) fun j=>?_
 rw [walk_row]
 match j with
 | 0=>exact hpv _
 | 1=>exact RepD.at (E.at_ _ _ _ hJ).1 ht
 | j+2=>exact .undef _
set_option maxRecDepth 100000 in
theorem walk_ok {S:Sig} {l:Nat} {J:List (List V)→(Nat→Prop)→World→Prop} {Jx:World→Prop} (E:YEnv S l J Jx):∀ (t:Tm) (rest:List (List V)) (R:Nat→Prop) (W:World) (tv pv:Value) (n:Nat),
  RepD (lfs tab) S (tD t) tv→IntRow W 0 pv n→(∀ b,pv.ownBlock=some b→R b)→n+t.size≤1099511627776→J (((t.preD n).map encW)++rest) R W →
  CallsIn Fence.wide 0 Tryz.prog 172 #[tv,pv,.func (.yield l) #[] #[]] W fun e W' =>
   (e=.returned (.bool true)∧∃ R':Nat→Prop,(∀ b,R b→R' b)∧(∀ b,R b→W'.heap[b]?=W.heap[b]?)∧J rest R' W')∨(e=.returned (.bool false)∧Jx W'):=by
 refine Tm.ind fun t ih=>?_
 intro rest R W tv pv n ht hp hpR hn hJ
 obtain ⟨u,rfl,hu,hs⟩:=tm_inv ht
 obtain ⟨a,c,rfl,harg⟩:=args_inv hu
 refine callsIn_of_wp Tryz.func172 rfl trivial ?_ rfl
 simp only [Tryz.ntmps172,List.size_toArray,List.length_cons,List.length_nil,Nat.reduceAdd,Nat.reduceSub,Array.replicate_succ,Array.replicate_zero,List.push_toArray,List.append_toArray,List.nil_append,List.cons_append]
 have hJ1:=E.grow _ _ _ _ hJ (World.grownBy_alloc W (.cells #[.string t.name,.bool t.var,.slice a t.args.length c] 25) none)
 rw [Tm.preD_eq] at hJ1
 obtain ⟨fn,tmps,assign,body,hy,hR⟩:=E.at_yield (t:=t) (n:=n) (pv:=pv) hJ1 ht (hp.slice (by omega))
 gi_wp2
 refine ⟨rfl,hR.mono ?_⟩
 rintro e W2 (⟨rfl,hJ2,hk2⟩ | ⟨rfl,hx2⟩)
 rotate_left
 ·gi_wp2
  go_ret
  exact .inr ⟨rfl,hx2⟩
 have hb2:W2.heap[W.heap.size]?=some (.cells #[.string t.name,.bool t.var,.slice a t.args.length c] 25 (0,0)):=by
  rw [hk2 _ (.inr ⟨Nat.le_refl _,by simp⟩)]
  exact Array.getElem?_push_size
 have hc2:W2.cell? ⟨W.heap.size,2,none⟩=some (.slice a t.args.length c):=by simp [World.cell?,hb2]
 gi_wp2
 gi_loopw [17] (fun i wr=>∃ (k:Nat) (R':Nat→Prop),i=.int .i64 k∧k≤t.args.length∧(∀ b,R b→R' b)∧R' W.heap.size∧(∀ b,(R b∨b=W.heap.size)→wr.heap[b]?=W2.heap[b]?)∧J ((Tm.preDL (n+1) (t.args.drop k)).map encW++rest) R' wr) (fun i wr=>t.args.length - (intOf i).toNat)
 case atStart =>
  exact ⟨0,_,rfl,Nat.zero_le _,fun b h=>.inl h,.inr ⟨Nat.le_refl _,by simp⟩,fun _ _=>rfl,hJ2⟩
 case round =>
  obtain ⟨k,R',rfl,hk,hR',hbox,hold,hJk⟩:=hrel
  by_cases hlt:k<t.args.length
  ·rcases harg with hnil | ⟨b,off,us,rfl,hFb,hcells⟩
   ·rw [hnil] at hlt; simp at hlt
   obtain ⟨hcell,hta⟩:=hcells k hlt
   have hold2:wr.heap[b]?=S.w.heap[b]?:=(E.at_ _ _ _ hJk).1 b hFb
   have hcw:∀ j,j<3→wr.cell? ⟨b,off+(k*3+j),none⟩=some (us k j):=fun j hj=>by
    rw [← hcell j hj]; exact World.cell?_of_block hold2
   have q0:=hcw 0 (by omega)
   have q1:=hcw 1 (by omega)
   have q2:=hcw 2 (by omega)
   rw [Nat.add_zero] at q0
   rw [← Nat.add_assoc] at q1 q2
   obtain ⟨u',he,hu',_⟩:=tm_inv hta
   obtain ⟨a',c',rfl,_⟩:=args_inv hu'
   obtain ⟨g0,g1,g2⟩:us k 0=.string t.args[k].name∧us k 1=.bool t.args[k].var∧us k 2=.slice a' t.args[k].args.length c':=by
    simpa using he
   rw [g0] at q0
   rw [g1] at q1
   rw [g2] at q2
   rw [he] at hta
   have hin:t.args[k]∈t.args:=List.getElem_mem hlt
   have hsub:t.args[k].size<t.size:=Tm.size_mem hin
   have ihk:=ih _ hin
   have hdrop:t.args.drop k=t.args[k]::t.args.drop (k+1):=List.drop_eq_getElem_cons hlt
   rw [hdrop] at hJk
   generalize t.args[k]=s at q0 q1 q2 hta hsub ihk hJk
   gi_wp2
   have hg3:=World.grownBy_alloc wr (.cells #[.string s.name,.bool s.var,.slice a' s.args.length c'] 25) none
   have hb3:(wr.alloc (.cells #[.string s.name,.bool s.var,.slice a' s.args.length c'] 25)).heap[wr.heap.size]?=some (.cells #[.string s.name,.bool s.var,.slice a' s.args.length c'] 25 (0,0)):=Array.getElem?_push_size
   generalize wr.alloc (.cells #[.string s.name,.bool s.var,.slice a' s.args.length c'] 25)=W3 at hg3 hb3 ⊢
   have hs3:wr.heap.size<W3.heap.size:=(Array.getElem?_eq_some_iff.1 hb3).1
   have old:∀ b,(R b∨b=W.heap.size)→wr.heap[b]?=W2.heap[b]?:=hold
   have hpw:IntRow wr 0 pv n:=hp.same fun b hb=>(hold b (.inl (hpR b hb))).trans ((hk2 b (.inl (hpR b hb))).trans ((World.grownBy_alloc W _ none).block b ((E.at_ _ _ _ hJ).2 b (hpR b hb)) (by simp)))
   refine wpIn_region_any (by kernel_rfl) ?_
   refine anyIn (ro:=none) ?_ (.inl rfl) _ _ _ _ ?_
   ·rintro ⟨a,w,h⟩
    rcases h with ⟨h,_⟩ | ⟨h,_⟩ <;> cases h
   have hgd:wr.grownBy { W3 with drawn:=W3.drawn+1 } none:=⟨hg3.os,hg3.tape,hg3.output,hg3.size,hg3.block⟩
   have hbd:({ W3 with drawn:=W3.drawn+1 }:World).heap[wr.heap.size]?=some (.cells #[.string s.name,.bool s.var,.slice a' s.args.length c'] 25 (0,0)):=hb3
   generalize ({ W3 with drawn:=W3.drawn+1 }:World)=Wd at hgd hbd ⊢
   refine draws9 (n:=n) (z:=fun j=>match j with
    | 0=>.agg #[.string t.name,.bool t.var,.slice (some ⟨b,off,none⟩) t.args.length c]
    | 3=>.pointer (some ⟨W.heap.size,0,none⟩)
    | 6=>u6
    | 9=>.func (.yield l) #[] #[]
    | 10=>pv
    | 11=>.agg #[.string t.name,.bool t.var,.slice (some ⟨b,off,none⟩) t.args.length c]
    | 12=>.bool true
    | 13=>.bool false
    | 14=>.pointer (some ⟨W.heap.size,2,none⟩)
    | 15=>.slice (some ⟨b,off,none⟩) t.args.length c
    | 16=>.int .i64 t.args.length
    | 17=>.int .i64 k
    | 18=>.bool true
    | 19=>.int .i64 k
    | 20=>.pointer (some ⟨b,off+k*3,none⟩)
    | 21=>.agg #[.string s.name,.bool s.var,.slice a' s.args.length c']
    | 31=>u31
    | _=>undef) ?_ hbd (hpw.grown hgd (by simp)) (by omega) ?_
   ·intro c a w h
    obtain ⟨_,h⟩:=h
    rcases h with ⟨h,_⟩ | ⟨h,_⟩ <;> cases h
   ·intro x24 x26 v' w hgw hv'
    have hgr:wr.grownBy w none:=⟨hgw.os.trans hgd.os,hgw.tape.trans hgd.tape,hgw.output.trans hgd.output,Nat.le_trans hgd.size hgw.size,fun b hb _=>(hgw.block b (Nat.lt_of_lt_of_le hb hgd.size) (by simp)).trans (hgd.block b hb (by simp))⟩
    have hJw:=E.grow _ _ _ _ hJk hgr
    have hJw2:J ((s.preD (n+1)).map encW++((Tm.preDL (n+1) (t.args.drop (k+1))).map encW++rest)) (fun b=>R' b∨(wr.heap.size≤b∧b<w.heap.size)) w:=by
     simpa [Tm.preDL,List.append_assoc] using hJw
    refine (callsIn_wide.1 (ihk _ _ _ _ v' (n+1) hta (hv'.base (Nat.zero_le _)) (fun b hb=>.inr ⟨Nat.le_trans hgd.size (hv'.block hb).1,(hv'.block hb).2⟩) (by omega) hJw2)).mono ?_
    rintro e w' (⟨rfl,R3,hR3,hk3,hJ3⟩ | ⟨rfl,hx3⟩)
    ·refine ⟨true,rfl,?_⟩
     unfold A6
     gi_wp2
     obtain ⟨hwrap,hms⟩:=wrap_step k t.args.length hlt (by have h1:=Tm.length_sizeL t.args; have h2:=Tm.size_eq t; omega)
     refine ⟨⟨k+1,R3,by rw [hwrap],hlt,fun b hb=>hR3 b (.inl (hR' b hb)),hR3 _ (.inl hbox),fun b hb=>?_,hJ3⟩,?_⟩
     ·have hbR':R' b:=by
       rcases hb with hb | rfl
       ·exact hR' b hb
       ·exact hbox
      exact (hk3 b (.inl hbR')).trans ((hgr.block b ((E.at_ _ _ _ hJk).2 b hbR') (by simp)).trans (hold b hb))
     ·exact hms
    ·refine ⟨false,rfl,?_⟩
     unfold A6
     gi_wp2
     go_ret
     exact .inr ⟨rfl,hx3⟩
  ·gi_wp2
   go_ret
   have hkl:k=t.args.length:=by omega
   subst hkl
   refine .inl ⟨rfl,R',hR',fun b hb=>(hold b (.inl hb)).trans ((hk2 b (.inl hb)).trans ?_),by simpa [Tm.preDL] using hJk⟩
   have:=(E.at_ _ _ _ hJ).2 b hb
   exact (World.grownBy_alloc W _ none).block b this (by simp)
set_option maxRecDepth 100000 in
theorem Walk_iter (t:Tm) (hn:t.size≤1099511627776):itA Zt [.elt Zb t.enc 0] (rowsW t):=by
 intro S us hwf hlen hrep hany l J Jx hat hgrow hyield h0
 obtain ⟨u,rfl⟩:∃ u,us=[u]:=by
  match us,hlen with
  | [u],_=>exact ⟨u,rfl⟩
 have hu:RepD (lfs tab) S (.elt Zb t.enc 0) u:=hrep 0
 have E:YEnv S l J Jx:=⟨hat,hgrow,fun xs x R W args h1 h2 h3=>hyield xs x R W args h1 h2 h3⟩
 obtain ⟨b,o,ws,rfl,hF,hc,hk⟩:∃ b o,∃ ws:Nat→Value,u=.pointer (some ⟨b,o,none⟩)∧S.F b∧(∀ j,j<3→S.w.cell? ⟨b,o+j,none⟩=some (ws j))∧∀ j,j<3→RepK (lfs tab) S.w S.F ([K.str,.bool,.sl Zb].getD j .oth) (t.enc.getD j V.none) (ws j):=by
  cases hu with
  | elt e cs off b o us h1 h2 h3 =>
   rw [term_lf] at h2 h3
   exact ⟨b,o,us,rfl,h1,h2,h3⟩
 have ht:RepD (lfs tab) S (tD t) (.agg #[ws 0,ws 1,ws 2]):=by
  refine .agg _ [ws 0,ws 1,ws 2] rfl fun j=>?_
  match j with
  | 0=>exact .v _ _ _ (by have:=hk 0 (by omega); rw [Tm.enc_eq] at this; exact this)
  | 1=>exact .v _ _ _ (by have:=hk 1 (by omega); rw [Tm.enc_eq] at this; exact this)
  | 2=>exact .v _ _ _ (by have:=hk 2 (by omega); rw [Tm.enc_eq] at this; exact this)
  | j+3=>exact .undef _
 have c0:=hc 0 (by omega)
 have c1:=hc 1 (by omega)
 have c2:=hc 2 (by omega)
 rw [Nat.add_zero] at c0
 have hw:=callsIn_wide.1 (walk_ok E t [] (fun _=>False) S.w _ (.slice none 0 0) 0 ht ⟨[],rfl,rfl,.inl ⟨rfl,rfl⟩⟩ (fun b h=>by cases h) (by omega) (by rw [List.append_nil]; exact h0))
 show Calls Tryz.prog 171 #[.func (.yield l) #[] #[],.pointer (some ⟨b,o,none⟩)] S.w _
 go_enter Tryz.func171,Tryz.ntmps171
 go_wp2_with (go_at_call 172; refine hw.mono ?_; rintro e W' (⟨rfl,R',_,_,hJ'⟩ | ⟨rfl,hx⟩))
 ·go_end0
  exact ⟨⟨_,rfl⟩,.inl ⟨R',hJ'⟩⟩
 ·go_end0
  exact ⟨⟨_,rfl⟩,.inr hx⟩
end Go.Proofs.YthjlodlkpgjlkaaGreat
set_option linter.unusedSimpArgs false
namespace Go.Abs
variable {P:Program} {lf:TypeId→List K}
def encV (l:List UInt8):List V:=[V.s ⟨l.toArray⟩]
theorem putCells_get {α:Type} [Inhabited α] (enc:α→Value) (d:Array α) (c:Array Value) (k:Nat) (hk:k<d.size) (hc:d.size≤c.size):(Sort.putCells enc 0 d c).getD k undef=enc d[k]!:=by
 unfold Sort.putCells
 rw [Array.getD_eq_getD_getElem?,Array.getElem?_mapIdx,Array.getElem?_eq_getElem (by omega)]
 simp [hk]
theorem acalls_sort {f:FuncId} {e:TypeId} (T:Tab) (he:lfs T e=[.str])
  (hsort:∀ (blk off cap:Nat) (ss:List (List UInt8)) (w:World),Sort.Holds Proofs.encStr w blk off ss.toArray→blk<w.heap.size→ss.length<4611686018427387904→Calls P f #[.slice (some ⟨blk,off,none⟩) ss.length cap] w fun en w'=>en=.returned (.tuple #[])∧∃ n os,w'=Sort.grow (Sort.putRow Proofs.encStr (Sort.ahead w n) blk off (ss.mergeSort fun x y=>decide (x≤y)).toArray) os)
  (hnil:∀ (p:Option Addr) (cap:Nat) (w:World),Calls P f #[.slice p 0 cap] w fun e w'=>e=.returned (.tuple #[])∧w'=w)
  (ss:List (List UInt8)) (n:Nat) (hn:n=ss.length) (hlim:n≤lim) {Q:D→Heap→Prop} (hQ:Q (.tup []) [.row e ((ss.mergeSort fun x y=>decide (x≤y)).map encV)]) :
  ACalls P (lfs T) f [.osl (.own 0) n] [.row e (ss.map encV)] Q:=by
 intro S vs hH hL hla hmks hwf hlen hrep hloc
 obtain ⟨u0,rfl⟩:∃ u0,vs=[u0]:=by
  match vs,hlen with
  | [u0],_=>exact ⟨u0,rfl⟩
 have h0:RepD (lfs T) S (.osl (.own 0) n) u0:=hrep 0
 have hobj:S.obj (.own 0)=.row e (ss.map encV):=by show S.H.getD 0 .dead=_; rw [hH]; rfl
 have e0:u0=rowVal n (S.blk (.own 0)):=by
  cases h0 with
  | osl _ _ _ _ h=>exact (h e _ hobj).2 (by simp [hn])
 subst e0
 have hss:(ss.mergeSort fun x y=>decide (x≤y)).length=ss.length:=List.length_mergeSort _
 rcases hwf.row hobj with ⟨hb0,hxs0⟩ | ⟨b,c,arr,hb0,hheap,hsz,hnc,hcm,hxl,hrp⟩
 ·have hs0:ss=[]:=by simpa using hxs0
  subst hs0
  rw [hb0]
  have hn0:n=0:=by simpa using hn
  subst hn0
  refine (hnil none 0 S.w).mono ?_
  rintro en w' ⟨rfl,rfl⟩
  refine ⟨_,.tup [],S,rfl,rfl,hL,hla,hmks,hwf,.tup [] [] rfl (repD_of_list rfl fun j hj=>by simp at hj),rfl,Ext.refl S,?_⟩
  rw [hH]
  simpa using hQ
 ·rw [hb0]
  rw [he] at hsz hxl hrp
  have hnc':ss.length≤c:=by simpa using hnc
  have hblt:b<S.w.heap.size:=hwf.lt (.own 0) (b,c) hb0
  have hcell:∀ j,j<ss.length→arr.getD j undef=.string ⟨(ss[j]!).toArray⟩∧(ByteArray.mk (ss[j]!).toArray).size≤big:=fun j hj=>by
   have h1:=hrp j 0 (by simpa using hj) (by simp)
   have h2:((ss.map encV).getD j []).getD 0 V.none=V.s ⟨(ss[j]!).toArray⟩:=by
    have e5:(ss.map encV).getD j []=encV ss[j]!:=by
     rw [List.getD_eq_getElem?_getD,List.getElem?_map,List.getElem?_eq_getElem hj,getElem!_pos ss j hj]; rfl
    rw [e5]; rfl
   rw [h2] at h1
   simp only [List.length_singleton,Nat.mul_one,Nat.add_zero] at h1
   have h3:(([K.str]:List K).getD 0 .oth)=.str:=rfl
   rw [h3] at h1
   generalize arr.getD j undef=u at h1
   generalize hy:V.s ⟨(ss[j]!).toArray⟩=y at h1
   cases h1 with
   | str x hx=>subst hy; exact ⟨rfl,hx⟩
  have hH1:Sort.Holds Proofs.encStr S.w b 0 ss.toArray:=fun j hj=>by
   have hj':j<ss.length:=by simpa using hj
   have hja:j<arr.size:=by rw [hsz]; simp; omega
   refine ⟨?_,?_⟩
   ·rw [Nat.zero_add,cell_of hheap hja,(hcell j hj').1]
    simp [Proofs.encStr,getElem!_pos,hj']
   ·simp [World.frozen?,hheap]
  rw [hn]
  refine (hsort b 0 c ss S.w hH1 hblt (by unfold lim at hlim; omega)).mono ?_
  rintro en w' ⟨rfl,k,os,rfl⟩
  have hin:∀ x,x∈(ss.mergeSort fun x y=>decide (x≤y))→x∈ss:=fun x hx=>List.mem_mergeSort.1 hx
  generalize (ss.mergeSort fun x y=>decide (x≤y))=d at hQ hss hin
  have hheap':∀ i,i<S.w.heap.size→(Sort.grow (Sort.putRow Proofs.encStr (Sort.ahead S.w k) b 0 d.toArray) os).heap[i]?=if i=b then some (.cells (Sort.putCells Proofs.encStr 0 d.toArray arr) e (0,0)) else S.w.heap[i]?:=fun i hi=>by
   simp only [Sort.grow,Sort.putRow,Sort.mapBlock,Sort.ahead]
   rw [Array.getElem?_append_left (by simpa using hi),Array.getElem?_modify]
   by_cases h:b=i
   ·subst h; rw [if_pos rfl,if_pos rfl,hheap]; rfl
   ·rw [if_neg h,if_neg (fun h'=>h h'.symm)]
  generalize hw:Sort.grow (Sort.putRow Proofs.encStr (Sort.ahead S.w k) b 0 d.toArray) os=w' at hheap'
  have hwsz:S.w.heap.size≤w'.heap.size:=by
   rw [← hw]; simp [Sort.grow,Sort.putRow,Sort.mapBlock,Sort.ahead]
  have hpsz:(Sort.putCells Proofs.encStr 0 d.toArray arr).size=arr.size:=by simp [Sort.putCells]
  have hblkl:∀ i,S.blk (.loc i)=none:=fun i=>by show S.la.getD i none=none; rw [hla]; rfl
  have hrel:Rel (lfs T) ⟨[],[]⟩ S.H { tmps:=#[],defers:=[] } S:=⟨rfl,hL,rfl,by unfold marks; rw [hmks]; rfl,fun j=>by
   show RepD _ S (([]:List D).getD j .undef) _
   rw [List.getD_nil]; exact .undef _,hwf⟩
  have hinv:Inv S S:=⟨Ext.refl S,fun i bc h=>(by rw [hblkl] at h; cases h),fun d hd=>by rw [hmks] at hd; cases hd⟩
  have hhas:S.has (.own 0):=by show 0<S.H.length; rw [hH]; simp
  obtain ⟨j1,j2⟩:=S.upd_at hwf hhas (.row e (d.map encV)) (some (b,c)) w'
  obtain ⟨g1,g2,g3⟩:=Rel.upd hrel hinv (.own 0) (.row e (d.map encV)) (some (b,c)) w' hhas hwsz (fun i hi hne=>by
    rw [hheap' i hi,if_neg (fun h=>hne _ hb0 h.symm)]) (by rw [← hw]; rfl) (by rw [← hw]; rfl) (by rw [← hw]; rfl)
   (fun x hx=>by
    cases hx
    exact ⟨.inl ⟨_,hb0,rfl⟩,Nat.lt_of_lt_of_le hblt hwsz⟩)
   (by
    refine ⟨fun bc j3 _=>?_,fun e' xs' j3=>?_,fun e' xs' j3=>(by rw [j1] at j3; cases j3)⟩
    ·rw [j1] at j3; cases j3
    ·rw [j1] at j3; cases j3
     exact ⟨ss.map encV,hobj,by simp [hss],fun _=>by rw [j2,hb0]⟩)
   (fun _ _=>trivial)
   (fun mD mK=>.inr ⟨b,c,Sort.putCells Proofs.encStr 0 d.toArray arr,rfl,by rw [Sig.upd_w,hheap' b hblt,if_pos rfl],by rw [hpsz,he]; exact hsz,by simpa [hss] using hnc',hcm,fun i hi=>by
     rw [he,List.getD_eq_getElem?_getD,List.getElem?_map,List.getElem?_eq_getElem (by simpa using hi)]; rfl,
    fun i j hi hj=>by
     rw [Sig.upd_w,Sig.upd_F]
     rw [he] at hj ⊢
     have hi':i<d.length:=by simpa using hi
     have hj0:j=0:=by simpa using hj
     subst hj0
     have hmem:d[i]∈ss:=hin _ (List.getElem_mem hi')
     obtain ⟨q,hq,hqe⟩:=List.mem_iff_getElem.1 hmem
     have hb:=(hcell q hq).2
     rw [getElem!_pos ss q hq,hqe] at hb
     rw [show i*([K.str]:List K).length+0=i by simp,putCells_get _ _ _ _ (by simpa using hi') (by rw [hsz]; simp; omega)]
     have e6:(d.map encV).getD i []=encV d[i]:=by
      rw [List.getD_eq_getElem?_getD,List.getElem?_map,List.getElem?_eq_getElem hi']; rfl
     rw [e6]
     have:(encV d[i]).getD 0 V.none=V.s ⟨d[i].toArray⟩:=rfl
     rw [this]
     have e3:Proofs.encStr d.toArray[i]! = .string (V.s ⟨d[i].toArray⟩).str:=by
      simp [Proofs.encStr,getElem!_pos,hi',V.str]
     rw [e3]
     exact .str _ hb⟩)
  refine ⟨_,.tup [],S.upd (.own 0) (.row e (d.map encV)) (some (b,c)) w',rfl,Sig.upd_w _ _ _ _ _,hL,hla,hmks,g1.wf,.tup [] [] rfl (repD_of_list rfl fun j hj=>by simp at hj),rfl,g2.ext,?_⟩
  have:(S.upd (.own 0) (.row e (d.map encV)) (some (b,c)) w').H=[.row e (d.map encV)]:=by show S.H.set 0 _=_; rw [hH]; rfl
  rw [this]; exact hQ
end Go.Abs
namespace Go.Proofs.YthjlodlkpgjlkaaGreat
open Go Go.Abs
def bleL (x y:List UInt8):Bool:=decide (x≤y)
def sortL (l:List (List UInt8)):List (List UInt8):=l.mergeSort bleL
def byL (l:List UInt8):ByteArray:=⟨l.toArray⟩
theorem byL_data (x:ByteArray):byL x.data.toList=x:=by cases x; simp [byL]
theorem sort_len (l:List ByteArray):(sortL (l.map fun x=>x.data.toList)).length=l.length:=by simp [sortL,List.length_mergeSort]
theorem slices_Sort_ok (l:List ByteArray) (n:Nat) (hn:n=l.length) (hlim:n≤lim) {Q:D→Heap→Prop}
  (hQ:Q (.tup []) [.row Za ((sortL (l.map fun x=>x.data.toList)).map fun x=>[V.s (byL x)])]):cl ZdD [.osl (.own 0) n] [.row Za (l.map fun x=>[V.s x])] Q:=by
 have hQ':Q (.tup []) [.row Za (List.map encV ((l.map fun x=>x.data.toList).mergeSort fun x y=>decide (x≤y)))]:=hQ
 have h:=acalls_sort (f:=ZdD) (e:=Za) tab (by kernel_rfl)
  (fun blk off cap ss w h1 h2 h3=>Any.slices_Sort_string lays190 blk off cap ss w h1 h2 h3) (fun p cap w=>Any.slices_Sort_string_none lays190 p cap w)
  (l.map fun x=>x.data.toList) n (by simp [hn]) hlim (Q:=Q) hQ'
 have e:(l.map fun x=>x.data.toList).map encV=l.map fun x=>[V.s x]:=by
  rw [List.map_map]
  refine List.map_congr_left fun x _=>?_
  show [V.s (byL x.data.toList)]=_
  rw [byL_data]
 rw [e] at h
 exact h
end Go.Proofs.YthjlodlkpgjlkaaGreat
namespace Go.Abs
inductive As:D→D→Prop
 | refl (d:D):As d d
 | nil (e:TypeId) (x:V):x.list=[]→As .nil (.v (.sl e) x)
 | agg (cs ds:List D):cs.length=ds.length→(∀ j,As (cs.getD j .undef) (ds.getD j .undef))→As (.agg cs) (.agg ds)
 | tup (cs ds:List D):cs.length=ds.length→(∀ j,As (cs.getD j .undef) (ds.getD j .undef))→As (.tup cs) (.tup ds)
theorem anyL_iff (p:Ref→Bool):∀ l:List D,D.anyL p l=false↔∀ j,D.anyR p (l.getD j .undef)=false
 | []=>by simp [D.anyL,D.anyR]
 | d::r=>by
  have ih:=anyL_iff p r
  constructor
  ·intro h j
   unfold D.anyL at h
   cases hd:D.anyR p d with
   | true=>rw [hd] at h; cases h
   | false =>
    rw [hd] at h
    cases j with
    | zero=>exact hd
    | succ j=>exact ih.1 h j
  ·intro h
   have h0:D.anyR p d=false:=h 0
   unfold D.anyL
   rw [h0]
   exact ih.2 fun j=>h (j+1)
theorem As.rep {lf:TypeId→List K} {S:Sig} {d d':D} (h:As d d'):∀ v,RepD lf S d v→D.local d=false→RepD lf S d' v∧D.local d'=false:=by
 induction h with
 | refl d=>exact fun v h h'=>⟨h,h'⟩
 | nil e x hx =>
  intro v h _
  cases h
  exact ⟨.v _ _ _ (.sl0 e x none 0 hx),rfl⟩
 | agg cs ds hl _ ih =>
  intro v h hn
  have hn:=(anyL_iff _ cs).1 hn
  cases h with
  | agg _ us h1 h2=>exact ⟨.agg ds us (hl▸h1) fun j=>(ih j _ (h2 j) (hn j)).1,(anyL_iff _ ds).2 fun j=>(ih j _ (h2 j) (hn j)).2⟩
 | tup cs ds hl _ ih =>
  intro v h hn
  have hn:=(anyL_iff _ cs).1 hn
  cases h with
  | tup _ us h1 h2=>exact ⟨.tup ds us (hl▸h1) fun j=>(ih j _ (h2 j) (hn j)).1,(anyL_iff _ ds).2 fun j=>(ih j _ (h2 j) (hn j)).2⟩
theorem ACalls.as {P:Program} {lf:TypeId→List K} {f:FuncId} {args:List D} {H:Heap} {Q:D→Heap→Prop} (h:ACalls P lf f args H (fun r H'=>∃ r',As r r'∧Q r' H')):ACalls P lf f args H Q :=
 fun S vs h1 h2 h3 h4 h5 h6 h7 h8=>(h S vs h1 h2 h3 h4 h5 h6 h7 h8).mono fun _ _ ⟨v,r,S',a,b,c,d,e0,e,f,g,i,r',j,k⟩=>⟨v,r',S',a,b,c,d,e0,e,(j.rep v f g).1,(j.rep v f g).2,i,k⟩
theorem As.last3 (a b:D) (e:TypeId):As (.agg [a,b,.nil]) (.agg [a,b,.v (.sl e) (.l [])]) :=
 .agg _ _ rfl fun j=>match j with
  | 0=>.refl _ | 1=>.refl _ | 2=>.nil e _ rfl | _+3=>.refl _
theorem As.pair {a a' b b':D} (h:As a a') (h':As b b'):As (.tup [a,b]) (.tup [a',b']) :=
 .tup _ _ rfl fun j=>match j with
  | 0=>h | 1=>h' | _+2=>.refl _
end Go.Abs
set_option maxRecDepth 100000
namespace Go.Proofs.YthjlodlkpgjlkaaGreat
open Go.Abs
def ZaK:Env:=envA [(3000008,(.undef 1)::(.undef 4)::ua 10 22 ([.dead 31])),(3000012,(.undef 1)::ua 4 2 ((.undef 7)::ua 10 24 (ua 51 9 ([.dead 57]))))] [(14,5,[],[])] [] [] [8,12]
@[irreducible] def Ze3 (Q:QD) (x0:LL) (x6 x9:V) (y3_0:ByteArray) (y3_1:Bool) (y3_2:LL) (y8_0 y8_1 y8_2:V):Prop :=
 joinM (evCode ZaK (fnAt [1,1,1,1,1,1,1,1] Tryz.f3)) ⟨(.v (.sl Zc) (V.l x0))::.undef::.skip::(.ptr (.loc 3) 0)::un 2 ((.v .bool (x6))::.undef::(.ptr (.loc 8) 0)::(.v (.int .i64) (x9))::un 24 (sk 17 (un 9 (sk 18 ([]))))),dd 3 ((.cells [.v .str (V.s y3_0),.v .bool (V.b y3_1),.v (.sl Zb) (V.l y3_2)])::dd 4 ((.cells [.v .str (y8_0),.v .bool (y8_1),.v (.sl Zb) (y8_2)])::dd 69 ([])))⟩ [] (endK ZaK Tryz.f3 Q)
@[irreducible] def Zac (Q:QD) (x0:LL) (x5 x6 x7 x9:V) (y3_0:ByteArray) (y3_1:Bool) (y3_2:LL) (y8_0 y8_1 y8_2:V):Prop :=
 joinM (evCode ZaK (fnAt [1,1,1,1,1,1] Tryz.f3)) ⟨(.v (.sl Zc) (V.l x0))::.undef::.skip::(.ptr (.loc 3) 0)::.undef::(.v (.int .i64) (x5))::(.v .bool (x6))::(.v (.int .i64) (x7))::(.ptr (.loc 8) 0)::(.v (.int .i64) (x9))::un 22 (sk 46 ([])),dd 3 ((.cells [.v .str (V.s y3_0),.v .bool (V.b y3_1),.v (.sl Zb) (V.l y3_2)])::dd 4 ((.cells [.v .str (y8_0),.v .bool (y8_1),.v (.sl Zb) (y8_2)])::dd 69 ([])))⟩ [] (endK ZaK Tryz.f3 Q)
def Ze0 (Q:QD) (x0:LL) (x6 x9:V) (y3_0:ByteArray) (y3_1:Bool) (y3_2:LL) (y8_0 y8_1 y8_2:V):Prop :=
 iff (!x6.bool) (cl ZfV [.agg [.v .str (y8_0),.v .bool (y8_1),.v (.sl Zb) (y8_2)],.v (.int .i64) (x9),.agg [.v .str (y8_0),.v .bool (y8_1),.v (.sl Zb) (y8_2)],.v (.int .i64) (V.i 10)] [] fun r1 H2=>r1=(.v .bool (r1.V))∧H2=[]∧iff r1.V.bool (cl Z2 [] [] fun r3 H4=>r3=(.v .bool (r3.V))∧H4=[]∧True∧Q (.v .bool (r3.V)) []) (True∧Q (.v .bool (V.b false)) [])) ((∃ r5:D,cl ZfU [.v (.sl Zc) (V.l x0),.agg [.v .str (V.s y3_0),.v .bool (V.b y3_1),.v (.sl Zb) (V.l y3_2)]] [] (fun r H'=>r=(.agg [.v .str ((r5.cells.headD .undef).V),.v .bool ((r5.cells.tail.headD .undef).V),.v (.sl Zb) ((r5.cells.tail.tail.headD .undef).V)])∧H'=[])∧cl ZfV [.agg [.v .str (y8_0),.v .bool (y8_1),.v (.sl Zb) (y8_2)],.v (.int .i64) (x9),.agg [.v .str ((r5.cells.headD .undef).V),.v .bool ((r5.cells.tail.headD .undef).V),.v (.sl Zb) ((r5.cells.tail.tail.headD .undef).V)],.v (.int .i64) (V.i 0)] [] fun r6 H7=>r6=(.v .bool (r6.V))∧H7=[]∧iff r6.V.bool (cl Z2 [] [] fun r8 H9=>r8=(.v .bool (r8.V))∧H9=[]∧True∧Q (.v .bool (r8.V)) []) (True∧Q (.v .bool (V.b false)) [])))
theorem ZgY (Q:QD) (x0:LL) (x6 x9:V) (y3_0:ByteArray) (y3_1:Bool) (y3_2:LL) (y8_0 y8_1 y8_2:V):Ze3 Q x0 x6 x9 y3_0 y3_1 y3_2 y8_0 y8_1 y8_2=Ze0 Q x0 x6 x9 y3_0 y3_1 y3_2 y8_0 y8_1 y8_2:=by kernel_rfl
def ZeZ (Q:QD) (x0:LL) (x5 x6 x7 x9:V) (y3_0:ByteArray) (y3_1:Bool) (y3_2:LL) (y8_0 y8_1 y8_2:V):Prop :=
 iff (x5.int != (0:Int)) (iff (!x6.bool) (iff (x7.int == x5.int) (cl ZfV [.agg [.v .str (y8_0),.v .bool (y8_1),.v (.sl Zb) (y8_2)],.v (.int .i64) (x9),.agg [.v .str (y8_0),.v .bool (y8_1),.v (.sl Zb) (y8_2)],.v (.int .i64) (x5)] [] fun r1 H2=>r1=(.v .bool (r1.V))∧H2=[]∧iff r1.V.bool (cl Z2 [] [] fun r3 H4=>r3=(.v .bool (r3.V))∧H4=[]∧True∧Q (.v .bool (r3.V)) []) (True∧Q (.v .bool (V.b false)) [])) (True∧Q (.v .bool (V.b false)) [])) (True∧Q (.v .bool (V.b false)) [])) (iff (x7.int != (0:Int)) (True∧Q (.v .bool (V.b false)) []) (cl Zde [.v (.sl Zc) (V.l x0),.agg [.v .str (V.s y3_0),.v .bool (V.b y3_1),.v (.sl Zb) (V.l y3_2)]] [] fun r5 H6=>r5=(.v .bool (r5.V))∧H6=[]∧iff (!(x6.bool == r5.V.bool)) (True∧Q (.v .bool (V.b false)) []) (Ze3 Q x0 x6 x9 y3_0 y3_1 y3_2 y8_0 y8_1 y8_2)))
theorem ZgU (Q:QD) (x0:LL) (x5 x6 x7 x9:V) (y3_0:ByteArray) (y3_1:Bool) (y3_2:LL) (y8_0 y8_1 y8_2:V):Zac Q x0 x5 x6 x7 x9 y3_0 y3_1 y3_2 y8_0 y8_1 y8_2=ZeZ Q x0 x5 x6 x7 x9 y3_0 y3_1 y3_2 y8_0 y8_1 y8_2:=by kernel_rfl
def ZfH (a0:LL) (a1_0:ByteArray) (a1_1:Bool) (a1_2:LL) (Q:QD):Prop :=
 cl Zg2 [.v (.sl Zc) (V.l a0)] [] fun r1 H2=>r1=(.v (.int .i64) (r1.V))∧H2=[]∧cl ZdM [.v (.sl Zc) (V.l a0)] [] fun r3 H4=>r3=(.v (.int .i64) (r3.V))∧H4=[]∧iff (r3.V.int != r1.V.int) (True∧Q (.v .bool (V.b false)) []) (cl ZfR [.v (.sl Zc) (V.l a0),.agg [.v .str (V.s a1_0),.v .bool (V.b a1_1),.v (.sl Zb) (V.l a1_2)]] [] fun r5 H6=>r5=(.tup [.v .bool ((r5.parts.headD .undef).V),.v (.int .i64) ((r5.parts.tail.headD .undef).V)])∧H6=[]∧cl ZbB [.v (.sl Zc) (V.l a0),.agg [.v .str (V.s a1_0),.v .bool (V.b a1_1),.v (.sl Zb) (V.l a1_2)]] [] fun r7 H8=>r7=(.tup [.agg [.v .str ((((r7.parts.headD .undef).cells).headD .undef).V),.v .bool (((((r7.parts.headD .undef).cells).tail).headD .undef).V),.v (.sl Zb) ((((((r7.parts.headD .undef).cells).tail).tail).headD .undef).V)],.v (.int .i64) ((r7.parts.tail.headD .undef).V)])∧H8=[]∧iff (r1.V.int == (0:Int)) (cl ZbH [.agg [.v .str (V.s a1_0),.v .bool (V.b a1_1),.v (.sl Zb) (V.l a1_2)]] [] fun r9 H10=>r9=(.v (.int .i64) (r9.V))∧H10=[]∧Zac Q a0 r9.V ((r5.parts.headD .undef).V) ((r5.parts.tail.headD .undef).V) ((r7.parts.tail.headD .undef).V) a1_0 a1_1 a1_2 ((((r7.parts.headD .undef).cells).headD .undef).V) (((((r7.parts.headD .undef).cells).tail).headD .undef).V) ((((((r7.parts.headD .undef).cells).tail).tail).headD .undef).V)) (Zac Q a0 r1.V ((r5.parts.headD .undef).V) ((r5.parts.tail.headD .undef).V) ((r7.parts.tail.headD .undef).V) a1_0 a1_1 a1_2 ((((r7.parts.headD .undef).cells).headD .undef).V) (((((r7.parts.headD .undef).cells).tail).headD .undef).V) ((((((r7.parts.headD .undef).cells).tail).tail).headD .undef).V)))
theorem ZjW (a0:LL) (a1_0:ByteArray) (a1_1:Bool) (a1_2:LL) (Q:QD) (h:ZfH a0 a1_0 a1_1 a1_2 Q):cl Zf5 [.v (.sl Zc) (V.l a0),.agg [.v .str (V.s a1_0),.v .bool (V.b a1_1),.v (.sl Zb) (V.l a1_2)]] [] Q :=
 acalls2 (E:=ZaK) (envOk _ _ _ _ _) 0 Tryz.func3 (by kernel_rfl) h
def Zi6:Env:=envA [] [] [] [] []
def Zgw (a0 a1 a2:LL) (Q:QD):Prop :=
 cl ZbJ [.v (.sl Zc) (V.l a0),.v (.sl Zd) (V.l a1),.v (.sl Zd) (V.l a2)] [] fun r1 H2=>r1=(.tup [.v (.sl ZU) ((r1.parts.headD .undef).V),.v (.int .i64) ((r1.parts.tail.headD .undef).V)])∧H2=[]∧cl Zjf [.v (.sl Zc) (V.l a0),.v (.sl Zd) (V.l a1),.v (.sl Zd) (V.l a2)] [] fun r3 H4=>r3=(.tup [.v (.sl ZU) ((r3.parts.headD .undef).V),.v (.int .i64) ((r3.parts.tail.headD .undef).V)])∧H4=[]∧iff ((((r1.parts.tail.headD .undef).V).int) == (((r3.parts.tail.headD .undef).V).int)) (cl ZfS [.v (.sl ZU) ((r1.parts.headD .undef).V),.v (.sl ZU) ((r3.parts.headD .undef).V)] [] fun r5 H6=>r5=(.v .bool (r5.V))∧H6=[]∧iff r5.V.bool (cl Z2 [] [] fun r7 H8=>r7=(.v .bool (r7.V))∧H8=[]∧True∧Q (.v .bool (r7.V)) []) (True∧Q (.v .bool (V.b false)) [])) (True∧Q (.v .bool (V.b false)) [])
theorem Zl8 (a0 a1 a2:LL) (Q:QD) (h:Zgw a0 a1 a2 Q):cl ZgR [.v (.sl Zc) (V.l a0),.v (.sl Zd) (V.l a1),.v (.sl Zd) (V.l a2)] [] Q :=
 acalls2 (E:=Zi6) (envOk _ _ _ _ _) 0 Tryz.func4 (by kernel_rfl) h
def ZE:Env:=envA [(9,ua 1 2 ((.undef 4)::(.undef 6)::(.undef 8)::(.undef 10)::ua 13 39 (ua 55 21 (da 13 2 ((.dead 62)::(.dead 67)::da 73 2 ([.ownT 11 84 Za0])))))),(3000003,(.undef 1)::(.undef 6)::ua 16 15 ([.dead 17,.dead 21,.dead 27,.dead 30])),(3000007,(.undef 1)::(.undef 4)::(.undef 6)::(.undef 8)::(.undef 10)::ua 16 36 ([.dead 4,.dead 51]))] [(16,4,[],[])] [] [(16,[⟨11,999999,0⟩])] [3,7]
def ZgZ (Q:QD):Post:=blockK 0 (seqJ ZE (fnAt [1,1,1,1,1,1,1] Tryz.f5) (endK ZE Tryz.f5 Q))
@[irreducible] def Zal (Q:QD) (m0:Nat) (x0:LL) (x11n:Nat) (x52:LL) (x53 x54:Int) (y7_0 y7_1 y7_2 y9_0 y9_1 y9_2:V) (y84:LL):Prop :=
 iter (adj (ZE.adj 9)) (evCode ZE (fnAt [1,1,1,1,1,1,0,1,0,0] Tryz.f5)) (ZgZ Q) m0 ⟨(.v (.sl Zc) (V.l x0))::un 2 (.skip::.undef::.skip::.undef::(.ptr (.loc 7) 0)::.undef::(.ptr (.loc 9) 0)::.undef::(.osl (.loc 84) x11n)::.skip::un 39 ((.v (.sl Za0) (V.l x52))::(.v (.int .i64) (V.i x53))::(.v (.int .i64) (V.i x54))::un 21 (sk 8 ([])))),dd 7 ((.cells [.v .str (y7_0),.v .bool (y7_1),.v (.sl Zb) (y7_2)])::.dead::(.cells [.v .str (y9_0),.v .bool (y9_1),.v (.sl Zb) (y9_2)])::dd 74 ([.row Za0 y84]))⟩ []
@[irreducible] def Zen (Q:QD) (x0 x2:LL) (y7_0 y7_1 y7_2 y9_0 y9_1 y9_2:V):Prop :=
 joinM (evCode ZE (fnAt [1,1,1,1,1] Tryz.f5)) ⟨(.v (.sl Zc) (V.l x0))::.undef::(.v (.sl Za0) (V.l x2))::.skip::.undef::.skip::.undef::(.ptr (.loc 7) 0)::.undef::(.ptr (.loc 9) 0)::.undef::sk 5 (un 36 (sk 32 ([]))),dd 7 ((.cells [.v .str (y7_0),.v .bool (y7_1),.v (.sl Zb) (y7_2)])::.dead::(.cells [.v .str (y9_0),.v .bool (y9_1),.v (.sl Zb) (y9_2)])::dd 75 ([]))⟩ [] (endK ZE Tryz.f5 Q)
@[irreducible] def Zet (Q:QD) (x0 x2:LL) (y4_0:ByteArray) (y4_1:Bool) (y4_2:LL):Prop :=
 joinM (evCode ZE (fnAt [1,1] Tryz.f5)) ⟨(.v (.sl Zc) (V.l x0))::.undef::(.v (.sl Za0) (V.l x2))::.skip::(.ptr (.loc 4) 0)::.skip::.undef::sk 9 (un 15 (sk 53 ([]))),dd 4 ((.cells [.v .str (V.s y4_0),.v .bool (V.b y4_1),.v (.sl Zb) (V.l y4_2)])::dd 80 ([]))⟩ [] (endK ZE Tryz.f5 Q)
def ZgM (Q:QD) (m0:Nat) (x0:LL) (x11n:Nat) (x52:LL) (x53 x54:Int) (y7_0 y7_1 y7_2 y9_0 y9_1 y9_2:V) (y84:LL):Prop :=
 iff (decide (x54<x53)) (0≤x54∧x54<x52.length∧cl ZbB [.v (.sl Zc) (V.l x0),.agg [.v .str ((((x52.getD x54.toNat []).drop 0).tail).headD V.none),.v .bool (((((x52.getD x54.toNat []).drop 0).tail).tail).headD V.none),.v (.sl Zb) ((((((x52.getD x54.toNat []).drop 0).tail).tail).tail).headD V.none)]] [] fun r1 H2=>r1=(.tup [.agg [.v .str ((((r1.parts.headD .undef).cells).headD .undef).V),.v .bool (((((r1.parts.headD .undef).cells).tail).headD .undef).V),.v (.sl Zb) ((((((r1.parts.headD .undef).cells).tail).tail).headD .undef).V)],.v (.int .i64) ((r1.parts.tail.headD .undef).V)])∧H2=[]∧iff ((((r1.parts.tail.headD .undef).V).int) != (0:Int)) (cl Z2 [] [] fun r3 H4=>r3=(.v .bool (r3.V))∧H4=[]∧True∧Q (.v .bool (r3.V)) []) (y84.length=x11n∧x11n+([[((x52.getD x54.toNat []).drop 0).headD V.none,(((r1.parts.headD .undef).cells).headD .undef).V,((((r1.parts.headD .undef).cells).tail).headD .undef).V,(((((r1.parts.headD .undef).cells).tail).tail).headD .undef).V]]).length≤lim∧Zal Q m0 x0 (x11n+([[((x52.getD x54.toNat []).drop 0).headD V.none,(((r1.parts.headD .undef).cells).headD .undef).V,((((r1.parts.headD .undef).cells).tail).headD .undef).V,(((((r1.parts.headD .undef).cells).tail).tail).headD .undef).V]]).length) x52 x53 (IntKind.i64.wrap (x54+(1:Int))) y7_0 y7_1 y7_2 y9_0 y9_1 y9_2 (y84++([[((x52.getD x54.toNat []).drop 0).headD V.none,(((r1.parts.headD .undef).cells).headD .undef).V,((((r1.parts.headD .undef).cells).tail).headD .undef).V,(((((r1.parts.headD .undef).cells).tail).tail).headD .undef).V]])))) (x11n=y84.length∧(∃ r5:D,cl Zei [.v (.sl Za0) (V.l y84),.agg [.v .str (y9_0),.v .bool (y9_1),.v (.sl Zb) (y9_2)]] [] (fun r H'=>r=(.agg [.v .str ((r5.cells.headD .undef).V),.v .bool ((r5.cells.tail.headD .undef).V),.v (.sl Zb) ((r5.cells.tail.tail.headD .undef).V)])∧H'=[])∧cl ZaT [.agg [.v .str (y7_0),.v .bool (y7_1),.v (.sl Zb) (y7_2)],.agg [.v .str ((r5.cells.headD .undef).V),.v .bool ((r5.cells.tail.headD .undef).V),.v (.sl Zb) ((r5.cells.tail.tail.headD .undef).V)]] [] fun r6 H7=>r6=(.v .bool (r6.V))∧H7=[]∧iff r6.V.bool (cl Z2 [] [] fun r8 H9=>r8=(.v .bool (r8.V))∧H9=[]∧True∧Q (.v .bool (r8.V)) []) (True∧Q (.v .bool (V.b false)) [])))
theorem Zgh (Q:QD) (m0:Nat) (x0:LL) (x11n:Nat) (x52:LL) (x53 x54:Int) (y7_0 y7_1 y7_2 y9_0 y9_1 y9_2:V) (y84:LL):Zal Q (m0+1) x0 x11n x52 x53 x54 y7_0 y7_1 y7_2 y9_0 y9_1 y9_2 y84=ZgM Q m0 x0 x11n x52 x53 x54 y7_0 y7_1 y7_2 y9_0 y9_1 y9_2 y84:=by kernel_rfl
theorem Zf7 (Q:QD) (x0 x52:LL) (y7_0 y7_1 y7_2 y9_0 y9_1 y9_2:V) (n:Nat) (hb:n≤big) (J:Nat→Nat→LL→Prop)
  (step:∀ (k:Nat) (x11n:Nat) (y84:LL),k<n→J k x11n y84→∀ K:Nat→LL→Prop,(∀ (x11n':Nat) (y84':LL),J (k+1) x11n' y84'→K x11n' y84')→(0≤(k:Int)∧(k:Int)<x52.length∧cl ZbB [.v (.sl Zc) (V.l x0),.agg [.v .str ((((x52.getD k []).drop 0).tail).headD V.none),.v .bool (((((x52.getD k []).drop 0).tail).tail).headD V.none),.v (.sl Zb) ((((((x52.getD k []).drop 0).tail).tail).tail).headD V.none)]] [] fun r1 H2=>r1=(.tup [.agg [.v .str ((((r1.parts.headD .undef).cells).headD .undef).V),.v .bool (((((r1.parts.headD .undef).cells).tail).headD .undef).V),.v (.sl Zb) ((((((r1.parts.headD .undef).cells).tail).tail).headD .undef).V)],.v (.int .i64) ((r1.parts.tail.headD .undef).V)])∧H2=[]∧iff ((((r1.parts.tail.headD .undef).V).int) != (0:Int)) (cl Z2 [] [] fun r3 H4=>r3=(.v .bool (r3.V))∧H4=[]∧True∧Q (.v .bool (r3.V)) []) (y84.length=x11n∧x11n+([[((x52.getD k []).drop 0).headD V.none,(((r1.parts.headD .undef).cells).headD .undef).V,((((r1.parts.headD .undef).cells).tail).headD .undef).V,(((((r1.parts.headD .undef).cells).tail).tail).headD .undef).V]]).length≤lim∧K (x11n+([[((x52.getD k []).drop 0).headD V.none,(((r1.parts.headD .undef).cells).headD .undef).V,((((r1.parts.headD .undef).cells).tail).headD .undef).V,(((((r1.parts.headD .undef).cells).tail).tail).headD .undef).V]]).length) (y84++([[((x52.getD k []).drop 0).headD V.none,(((r1.parts.headD .undef).cells).headD .undef).V,((((r1.parts.headD .undef).cells).tail).headD .undef).V,(((((r1.parts.headD .undef).cells).tail).tail).headD .undef).V]])))))
  (last:∀ (x11n:Nat) (y84:LL),J n x11n y84→(x11n=y84.length∧(∃ r5:D,cl Zei [.v (.sl Za0) (V.l y84),.agg [.v .str (y9_0),.v .bool (y9_1),.v (.sl Zb) (y9_2)]] [] (fun r H'=>r=(.agg [.v .str ((r5.cells.headD .undef).V),.v .bool ((r5.cells.tail.headD .undef).V),.v (.sl Zb) ((r5.cells.tail.tail.headD .undef).V)])∧H'=[])∧cl ZaT [.agg [.v .str (y7_0),.v .bool (y7_1),.v (.sl Zb) (y7_2)],.agg [.v .str ((r5.cells.headD .undef).V),.v .bool ((r5.cells.tail.headD .undef).V),.v (.sl Zb) ((r5.cells.tail.tail.headD .undef).V)]] [] fun r6 H7=>r6=(.v .bool (r6.V))∧H7=[]∧iff r6.V.bool (cl Z2 [] [] fun r8 H9=>r8=(.v .bool (r8.V))∧H9=[]∧True∧Q (.v .bool (r8.V)) []) (True∧Q (.v .bool (V.b false)) []))))
  (k:Nat) (x11n:Nat) (y84:LL) (le0:k≤n) (hj:J k x11n y84):∃ m0,Zal Q m0 x0 x11n x52 (n:Int) ((k:Int)) y7_0 y7_1 y7_2 y9_0 y9_1 y9_2 y84:=by
 exact rangeG2 n hb J (fun m0 i x11n y84=>Zal Q m0 x0 x11n x52 (n:Int) i y7_0 y7_1 y7_2 y9_0 y9_1 y9_2 y84) (fun m0 i x11n y84=>Zgh Q m0 x0 x11n x52 (n:Int) i y7_0 y7_1 y7_2 y9_0 y9_1 y9_2 y84) (fun k x11n y84 hl_ hj_ m_ ih_=>step k x11n y84 hl_ hj_ _ ih_) last k x11n y84 le0 hj
def Zeo (Q:QD) (x0 x2:LL) (y7_0 y7_1 y7_2 y9_0 y9_1 y9_2:V):Prop :=
 (x2.length≤big→∃ m0,Zal Q m0 x0 0 x2 ((x2.length:Int)) 0 y7_0 y7_1 y7_2 y9_0 y9_1 y9_2 (([]:List (List V))))
theorem Zgl (Q:QD) (x0 x2:LL) (y7_0 y7_1 y7_2 y9_0 y9_1 y9_2:V):Zen Q x0 x2 y7_0 y7_1 y7_2 y9_0 y9_1 y9_2=Zeo Q x0 x2 y7_0 y7_1 y7_2 y9_0 y9_1 y9_2:=by kernel_rfl
def Zep (Q:QD) (x0 x2:LL) (y4_0:ByteArray) (y4_1:Bool) (y4_2:LL):Prop :=
 cl Zei [.v (.sl Za0) (V.l x2),.agg [.v .str (V.s y4_0),.v .bool (V.b y4_1),.v (.sl Zb) (V.l y4_2)]] [] fun r1 H2=>r1=(.agg [.v .str ((r1.cells.headD .undef).V),.v .bool ((r1.cells.tail.headD .undef).V),.v (.sl Zb) ((r1.cells.tail.tail.headD .undef).V)])∧H2=[]∧cl ZbB [.v (.sl Zc) (V.l x0),.agg [.v .str ((r1.cells.headD .undef).V),.v .bool ((r1.cells.tail.headD .undef).V),.v (.sl Zb) ((r1.cells.tail.tail.headD .undef).V)]] [] fun r3 H4=>r3=(.tup [.agg [.v .str ((((r3.parts.headD .undef).cells).headD .undef).V),.v .bool (((((r3.parts.headD .undef).cells).tail).headD .undef).V),.v (.sl Zb) ((((((r3.parts.headD .undef).cells).tail).tail).headD .undef).V)],.v (.int .i64) ((r3.parts.tail.headD .undef).V)])∧H4=[]∧cl ZbB [.v (.sl Zc) (V.l x0),.agg [.v .str (V.s y4_0),.v .bool (V.b y4_1),.v (.sl Zb) (V.l y4_2)]] [] fun r5 H6=>r5=(.tup [.agg [.v .str ((((r5.parts.headD .undef).cells).headD .undef).V),.v .bool (((((r5.parts.headD .undef).cells).tail).headD .undef).V),.v (.sl Zb) ((((((r5.parts.headD .undef).cells).tail).tail).headD .undef).V)],.v (.int .i64) ((r5.parts.tail.headD .undef).V)])∧H6=[]∧iff ((((r3.parts.tail.headD .undef).V).int) != (0:Int)) (cl Z2 [] [] fun r7 H8=>r7=(.v .bool (r7.V))∧H8=[]∧True∧Q (.v .bool (r7.V)) []) (iff ((((r5.parts.tail.headD .undef).V).int) != (0:Int)) (cl Z2 [] [] fun r9 H10=>r9=(.v .bool (r9.V))∧H10=[]∧True∧Q (.v .bool (r9.V)) []) (Zen Q x0 x2 ((((r3.parts.headD .undef).cells).headD .undef).V) (((((r3.parts.headD .undef).cells).tail).headD .undef).V) ((((((r3.parts.headD .undef).cells).tail).tail).headD .undef).V) ((((r5.parts.headD .undef).cells).headD .undef).V) (((((r5.parts.headD .undef).cells).tail).headD .undef).V) ((((((r5.parts.headD .undef).cells).tail).tail).headD .undef).V)))
theorem Zgg (Q:QD) (x0 x2:LL) (y4_0:ByteArray) (y4_1:Bool) (y4_2:LL):Zet Q x0 x2 y4_0 y4_1 y4_2=Zep Q x0 x2 y4_0 y4_1 y4_2:=by kernel_rfl
def Ze2 (a0:LL) (a1_0:ByteArray) (a1_1:Bool) (a1_2 a2:LL) (Q:QD):Prop :=
 cl ZbH [.agg [.v .str (V.s a1_0),.v .bool (V.b a1_1),.v (.sl Zb) (V.l a1_2)]] [] fun r1 H2=>r1=(.v (.int .i64) (r1.V))∧H2=[]∧iff (r1.V.int != (0:Int)) (cl Z2 [] [] fun r3 H4=>r3=(.v .bool (r3.V))∧H4=[]∧True∧Q (.v .bool (r3.V)) []) (cl ZfB [.v (.sl Za0) (V.l a2)] [] fun r5 H6=>r5=(.v (.int .i64) (r5.V))∧H6=[]∧iff (r5.V.int != (0:Int)) (cl Z2 [] [] fun r7 H8=>r7=(.v .bool (r7.V))∧H8=[]∧True∧Q (.v .bool (r7.V)) []) (cl Zl2 [.v (.sl Za0) (V.l a2),.agg [.v .str (V.s a1_0),.v .bool (V.b a1_1),.v (.sl Zb) (V.l a1_2)]] [] fun r9 H10=>r9=(.v .bool (r9.V))∧H10=[]∧iff (!r9.V.bool) (cl Z2 [] [] fun r11 H12=>r11=(.v .bool (r11.V))∧H12=[]∧True∧Q (.v .bool (r11.V)) []) (Zet Q a0 a2 a1_0 a1_1 a1_2)))
theorem Zif (a0:LL) (a1_0:ByteArray) (a1_1:Bool) (a1_2 a2:LL) (Q:QD) (h:Ze2 a0 a1_0 a1_1 a1_2 a2 Q):cl Zfm [.v (.sl Zc) (V.l a0),.agg [.v .str (V.s a1_0),.v .bool (V.b a1_1),.v (.sl Zb) (V.l a1_2)],.v (.sl Za0) (V.l a2)] [] Q :=
 acalls2 (E:=ZE) (envOk _ _ _ _ _) 1 Tryz.func5 (by kernel_rfl) h
def Zw:Env:=envA [(4,ua 2 3 (ua 9 3 (ua 15 25 ([.dead 4,.dead 21,.dead 35])))),(10,(.undef 0)::ua 2 3 (ua 6 34 (ua 43 52 ([.dead 6,.dead 61,.dead 67])))),(15,(.undef 0)::ua 2 3 (ua 7 33 (ua 43 23 (ua 69 26 ([]))))),(3000014,(.undef 0)::ua 2 3 (ua 7 33 (ua 43 52 ([.dead 61]))))] [(6,16,[],[])] [] [] [14]
def Zot (Q:QD):Post:=blockK 0 (seqJ Zw (fnAt [1,1,1] Tryz.f9) (endK Zw Tryz.f9 Q))
def Zd1 (Q:QD):Post:=blockK 2 (seqJ Zw (fnAt [1,1,1,1] Tryz.f9) (endK Zw Tryz.f9 Q))
def Zo7 (Q:QD) (m1:Nat):Post:=blockK 4 (blockK 3 (seqJ Zw (fnAt [1,1,1,0,1,0,0,1,1,1] Tryz.f9) (loopK (adj (Zw.adj 10)) (iter (adj (Zw.adj 10)) (evCode Zw (fnAt [1,1,1,0,1,0,0] Tryz.f9)) (Zd1 Q) m1) (Zd1 Q))))
@[irreducible] def ZbI (Q:QD) (m1 m2:Nat) (x40:LL) (x41 x42:Int) (x66:V) (x67 x68:Int) (y6_0 y6_1 y6_2:V):Prop :=
 iter (adj (Zw.adj 15)) (evCode Zw (fnAt [1,1,1,0,1,0,0,1,1,0,0,1,1,1,0,0] Tryz.f9)) (Zo7 Q m1) m2 ⟨.undef::.skip::un 3 (.skip::(.ptr (.loc 6) 0)::un 33 ((.v (.sl Zc) (V.l x40))::(.v (.int .i64) (V.i x41))::(.v (.int .i64) (V.i x42))::un 23 ((.v (.sl ZU) (x66))::(.v (.int .i64) (V.i x67))::(.v (.int .i64) (V.i x68))::un 26 ([])))),dd 6 ((.cells [.v .str (y6_0),.v (.int .i64) (y6_1),.v (.sl ZU) (y6_2)])::dd 88 ([]))⟩ []
@[irreducible] def Zcs (Q:QD) (m1:Nat) (x40:LL) (x41 x42:Int) (y6_0 y6_1 y6_2:V):Prop :=
 joinM (evCode Zw (fnAt [1,1,1,0,1,0,0,1,1,0,0,1,1] Tryz.f9)) ⟨.undef::.skip::un 3 (.skip::(.ptr (.loc 6) 0)::un 33 ((.v (.sl Zc) (V.l x40))::(.v (.int .i64) (V.i x41))::(.v (.int .i64) (V.i x42))::un 52 ([]))),dd 6 ((.cells [.v .str (y6_0),.v (.int .i64) (y6_1),.v (.sl ZU) (y6_2)])::dd 88 ([]))⟩ [] (blockK 3 (seqJ Zw (fnAt [1,1,1,0,1,0,0,1,1,1] Tryz.f9) (loopK (adj (Zw.adj 10)) (iter (adj (Zw.adj 10)) (evCode Zw (fnAt [1,1,1,0,1,0,0] Tryz.f9)) (Zd1 Q) m1) (Zd1 Q))))
@[irreducible] def ZaF (Q:QD) (m1:Nat) (x40:LL) (x41 x42:Int):Prop :=
 iter (adj (Zw.adj 10)) (evCode Zw (fnAt [1,1,1,0,1,0,0] Tryz.f9)) (Zd1 Q) m1 ⟨.undef::.skip::un 3 (.skip::un 34 ((.v (.sl Zc) (V.l x40))::(.v (.int .i64) (V.i x41))::(.v (.int .i64) (V.i x42))::un 52 ([]))),dd 95 ([])⟩ []
@[irreducible] def Zcq (Q:QD) (m0:Nat) (x0 x12:LL) (x13 x14:Int):Prop :=
 iter (adj (Zw.adj 4)) (evCode Zw (fnAt [1,1,0,1,0,0] Tryz.f9)) (Zot Q) m0 ⟨(.v (.sl Zc) (V.l x0))::.skip::un 3 (sk 4 (un 3 ((.v (.sl Zc) (V.l x12))::(.v (.int .i64) (V.i x13))::(.v (.int .i64) (V.i x14))::un 25 (sk 55 ([]))))),dd 95 ([])⟩ []
def ZoV (Q:QD) (m1 m2:Nat) (x40:LL) (x41 x42:Int) (x66:V) (x67 x68:Int) (y6_0 y6_1 y6_2:V):Prop :=
 iff (decide (x68<x67)) (0≤x68∧x68<x66.list.length∧iff (decide (((((x66.list.getD x68.toNat []).drop 0).headD V.none).int)<(1:Int))) (True∧Q (.v (.int .i64) (V.i 2)) []) (iff (decide (((((x66.list.getD x68.toNat []).drop 0).headD V.none).int) > (8:Int))) (True∧Q (.v (.int .i64) (V.i 2)) []) (iff (decide (x68 > (0:Int))) (0≤(IntKind.i64.wrap (x68 - (1:Int)))∧(IntKind.i64.wrap (x68 - (1:Int)))<y6_2.list.length∧iff (decide (((((y6_2.list.getD ((IntKind.i64.wrap (x68 - (1:Int)))).toNat []).drop 0).headD V.none).int)≥((((x66.list.getD x68.toNat []).drop 0).headD V.none).int))) (True∧Q (.v (.int .i64) (V.i 2)) []) (ZbI Q m1 m2 x40 x41 x42 x66 x67 (IntKind.i64.wrap (x68+(1:Int))) y6_0 y6_1 y6_2)) (ZbI Q m1 m2 x40 x41 x42 x66 x67 (IntKind.i64.wrap (x68+(1:Int))) y6_0 y6_1 y6_2)))) (ZaF Q m1 x40 x41 (IntKind.i64.wrap (x42+(1:Int))))
theorem Zmr (Q:QD) (m1 m2:Nat) (x40:LL) (x41 x42:Int) (x66:V) (x67 x68:Int) (y6_0 y6_1 y6_2:V):ZbI Q m1 (m2+1) x40 x41 x42 x66 x67 x68 y6_0 y6_1 y6_2=ZoV Q m1 m2 x40 x41 x42 x66 x67 x68 y6_0 y6_1 y6_2:=by kernel_rfl
theorem Zlo (Q:QD) (m1:Nat) (x40:LL) (x41 x42:Int) (x66 y6_0 y6_1 y6_2:V) (n:Nat) (hb:n≤big) (J:Nat→Prop)
  (step:∀ (k:Nat),k<n→J k→∀ K:Prop,(J (k+1)→K)→(0≤(k:Int)∧(k:Int)<x66.list.length∧iff (decide (((((x66.list.getD k []).drop 0).headD V.none).int)<(1:Int))) (True∧Q (.v (.int .i64) (V.i 2)) []) (iff (decide (((((x66.list.getD k []).drop 0).headD V.none).int) > (8:Int))) (True∧Q (.v (.int .i64) (V.i 2)) []) (iff (decide ((k:Int) > (0:Int))) (0≤(IntKind.i64.wrap ((k:Int) - (1:Int)))∧(IntKind.i64.wrap ((k:Int) - (1:Int)))<y6_2.list.length∧iff (decide (((((y6_2.list.getD ((IntKind.i64.wrap ((k:Int) - (1:Int)))).toNat []).drop 0).headD V.none).int)≥((((x66.list.getD k []).drop 0).headD V.none).int))) (True∧Q (.v (.int .i64) (V.i 2)) []) (K)) (K)))))
  (last:J n→(ZaF Q m1 x40 x41 (IntKind.i64.wrap (x42+(1:Int)))))
  (k:Nat) (le0:k≤n) (hj:J k):∃ m2,ZbI Q m1 m2 x40 x41 x42 x66 (n:Int) ((k:Int)) y6_0 y6_1 y6_2:=by
 exact rangeG0 n hb J (fun m2 i=>ZbI Q m1 m2 x40 x41 x42 x66 (n:Int) i y6_0 y6_1 y6_2) (fun m2 i=>Zmr Q m1 m2 x40 x41 x42 x66 (n:Int) i y6_0 y6_1 y6_2) (fun k hl_ hj_ m_ ih_=>step k hl_ hj_ _ ih_) last k le0 hj
def Zpm (Q:QD) (m1:Nat) (x40:LL) (x41 x42:Int) (y6_0 y6_1 y6_2:V):Prop :=
 (y6_2.list.length≤big→∃ m2,ZbI Q m1 m2 x40 x41 x42 y6_2 ((y6_2.list.length:Int)) 0 y6_0 y6_1 y6_2)
theorem Zna (Q:QD) (m1:Nat) (x40:LL) (x41 x42:Int) (y6_0 y6_1 y6_2:V):Zcs Q m1 x40 x41 x42 y6_0 y6_1 y6_2=Zpm Q m1 x40 x41 x42 y6_0 y6_1 y6_2:=by kernel_rfl
def ZoA (Q:QD) (m1:Nat) (x40:LL) (x41 x42:Int):Prop :=
 iff (decide (x42<x41)) (0≤x42∧x42<x40.length∧iff (decide ((((((x40.getD x42.toNat []).drop 0).tail).headD V.none).int)<(0:Int))) (True∧Q (.v (.int .i64) (V.i 2)) []) (iff (decide ((((((x40.getD x42.toNat []).drop 0).tail).headD V.none).int) > (8:Int))) (True∧Q (.v (.int .i64) (V.i 2)) []) (iff (decide ((((((x40.getD x42.toNat []).drop 0).tail).headD V.none).int) > (0:Int))) ((((((((x40.getD x42.toNat []).drop 0).tail).tail).headD V.none).list).length≤big→iff (decide (((((((((x40.getD x42.toNat []).drop 0).tail).tail).headD V.none).list).length:Int)) > (0:Int))) (True∧Q (.v (.int .i64) (V.i 2)) []) (Zcs Q m1 x40 x41 x42 (((x40.getD x42.toNat []).drop 0).headD V.none) ((((x40.getD x42.toNat []).drop 0).tail).headD V.none) (((((x40.getD x42.toNat []).drop 0).tail).tail).headD V.none)))) (Zcs Q m1 x40 x41 x42 (((x40.getD x42.toNat []).drop 0).headD V.none) ((((x40.getD x42.toNat []).drop 0).tail).headD V.none) (((((x40.getD x42.toNat []).drop 0).tail).tail).headD V.none))))) (True∧Q (.v (.int .i64) (V.i 0)) [])
theorem ZmK (Q:QD) (m1:Nat) (x40:LL) (x41 x42:Int):ZaF Q (m1+1) x40 x41 x42=ZoA Q m1 x40 x41 x42:=by kernel_rfl
theorem Zlf (Q:QD) (x40:LL) (n:Nat) (hb:n≤big) (J:Nat→Prop)
  (step:∀ (k:Nat),k<n→J k→∀ m1:Nat,(J (k+1)→ZaF Q m1 x40 (n:Int) (IntKind.i64.wrap ((k:Int)+(1:Int))))→(0≤(k:Int)∧(k:Int)<x40.length∧iff (decide ((((((x40.getD k []).drop 0).tail).headD V.none).int)<(0:Int))) (True∧Q (.v (.int .i64) (V.i 2)) []) (iff (decide ((((((x40.getD k []).drop 0).tail).headD V.none).int) > (8:Int))) (True∧Q (.v (.int .i64) (V.i 2)) []) (iff (decide ((((((x40.getD k []).drop 0).tail).headD V.none).int) > (0:Int))) ((((((((x40.getD k []).drop 0).tail).tail).headD V.none).list).length≤big→iff (decide (((((((((x40.getD k []).drop 0).tail).tail).headD V.none).list).length:Int)) > (0:Int))) (True∧Q (.v (.int .i64) (V.i 2)) []) (Zcs Q m1 x40 (n:Int) (k:Int) (((x40.getD k []).drop 0).headD V.none) ((((x40.getD k []).drop 0).tail).headD V.none) (((((x40.getD k []).drop 0).tail).tail).headD V.none)))) (Zcs Q m1 x40 (n:Int) (k:Int) (((x40.getD k []).drop 0).headD V.none) ((((x40.getD k []).drop 0).tail).headD V.none) (((((x40.getD k []).drop 0).tail).tail).headD V.none))))))
  (last:J n→(True∧Q (.v (.int .i64) (V.i 0)) []))
  (k:Nat) (le0:k≤n) (hj:J k):∃ m1,ZaF Q m1 x40 (n:Int) ((k:Int)):=by
 exact rangeG0 n hb J (fun m1 i=>ZaF Q m1 x40 (n:Int) i) (fun m1 i=>ZmK Q m1 x40 (n:Int) i) (fun k hl_ hj_ m_ ih_=>step k hl_ hj_ m_ ih_) last k le0 hj
def ZoU (Q:QD) (m0:Nat) (x0 x12:LL) (x13 x14:Int):Prop :=
 iff (decide (x14<x13)) (0≤x14∧x14<x12.length∧(∃ r1:D,cl Zax [.v .str (((x12.getD x14.toNat []).drop 0).headD V.none),.v .bool (V.b true)] [] (fun r H'=>r=(.v .bool (r1.V))∧H'=[])∧iff (!r1.V.bool) (True∧Q (.v (.int .i64) (V.i 4)) []) (iff (decide (x14 > (0:Int))) (0≤(IntKind.i64.wrap (x14 - (1:Int)))∧(IntKind.i64.wrap (x14 - (1:Int)))<x0.length∧cl ZY [.v .str (((x0.getD ((IntKind.i64.wrap (x14 - (1:Int)))).toNat []).drop 0).headD V.none),.v .str (((x12.getD x14.toNat []).drop 0).headD V.none)] [] fun r2 H3=>r2=(.v (.int .i64) (r2.V))∧H3=[]∧iff (decide (r2.V.int≥(0:Int))) (True∧Q (.v (.int .i64) (V.i 4)) []) (Zcq Q m0 x0 x12 x13 (IntKind.i64.wrap (x14+(1:Int))))) (Zcq Q m0 x0 x12 x13 (IntKind.i64.wrap (x14+(1:Int))))))) ((x0.length≤big→∃ m1,ZaF Q m1 x0 ((x0.length:Int)) 0))
theorem Zm2 (Q:QD) (m0:Nat) (x0 x12:LL) (x13 x14:Int):Zcq Q (m0+1) x0 x12 x13 x14=ZoU Q m0 x0 x12 x13 x14:=by kernel_rfl
theorem Zlh (Q:QD) (x0 x12:LL) (n:Nat) (hb:n≤big) (J:Nat→Prop)
  (step:∀ (k:Nat),k<n→J k→∀ K:Prop,(J (k+1)→K)→(0≤(k:Int)∧(k:Int)<x12.length∧(∃ r1:D,cl Zax [.v .str (((x12.getD k []).drop 0).headD V.none),.v .bool (V.b true)] [] (fun r H'=>r=(.v .bool (r1.V))∧H'=[])∧iff (!r1.V.bool) (True∧Q (.v (.int .i64) (V.i 4)) []) (iff (decide ((k:Int) > (0:Int))) (0≤(IntKind.i64.wrap ((k:Int) - (1:Int)))∧(IntKind.i64.wrap ((k:Int) - (1:Int)))<x0.length∧cl ZY [.v .str (((x0.getD ((IntKind.i64.wrap ((k:Int) - (1:Int)))).toNat []).drop 0).headD V.none),.v .str (((x12.getD k []).drop 0).headD V.none)] [] fun r2 H3=>r2=(.v (.int .i64) (r2.V))∧H3=[]∧iff (decide (r2.V.int≥(0:Int))) (True∧Q (.v (.int .i64) (V.i 4)) []) (K)) (K)))))
  (last:J n→((x0.length≤big→∃ m1,ZaF Q m1 x0 ((x0.length:Int)) 0)))
  (k:Nat) (le0:k≤n) (hj:J k):∃ m0,Zcq Q m0 x0 x12 (n:Int) ((k:Int)):=by
 exact rangeG0 n hb J (fun m0 i=>Zcq Q m0 x0 x12 (n:Int) i) (fun m0 i=>Zm2 Q m0 x0 x12 (n:Int) i) (fun k hl_ hj_ m_ ih_=>step k hl_ hj_ _ ih_) last k le0 hj
def ZqB (a0:LL) (Q:QD):Prop :=
 (a0.length≤big→iff (decide (((a0.length:Int)) > (256:Int))) (True∧Q (.v (.int .i64) (V.i 3)) []) ((a0.length≤big→∃ m0,Zcq Q m0 a0 a0 ((a0.length:Int)) 0)))
theorem ZqX (a0:LL) (Q:QD) (h:ZqB a0 Q):cl Zg2 [.v (.sl Zc) (V.l a0)] [] Q :=
 acalls2 (E:=Zw) (envOk _ _ _ _ _) 0 Tryz.func9 (by kernel_rfl) h
def Zp:Env:=envA [(5,(.undef 0)::ua 2 2 (ua 5 7 (ua 16 52 ([.dead 5,.dead 34,.dead 40])))),(10,(.undef 0)::ua 2 2 (ua 6 6 (ua 16 23 (ua 42 26 ([]))))),(3000009,(.undef 0)::ua 2 2 (ua 6 6 (ua 16 52 ([.dead 34]))))] [] [] [] [9]
def ZbR (Q:QD):Post:=blockK 0 (seqJ Zp (fnAt [1,1,1] Tryz.f10) (endK Zp Tryz.f10 Q))
def ZlT (Q:QD) (m0:Nat):Post:=blockK 2 (blockK 1 (seqJ Zp (fnAt [1,1,0,1,0,0,1,1,1] Tryz.f10) (loopK (adj (Zp.adj 5)) (iter (adj (Zp.adj 5)) (evCode Zp (fnAt [1,1,0,1,0,0] Tryz.f10)) (ZbR Q) m0) (ZbR Q))))
@[irreducible] def ZaA (Q:QD) (m0 m1:Nat) (x13:LL) (x14 x15:Int) (x39:V) (x40 x41:Int) (y5_0 y5_1 y5_2:V):Prop :=
 iter (adj (Zp.adj 10)) (evCode Zp (fnAt [1,1,0,1,0,0,1,1,0,0,1,1,1,0,0] Tryz.f10)) (ZlT Q m0) m1 ⟨.undef::.skip::un 2 (.skip::(.ptr (.loc 5) 0)::un 6 (.skip::(.v (.sl Zc) (V.l x13))::(.v (.int .i64) (V.i x14))::(.v (.int .i64) (V.i x15))::un 23 ((.v (.sl ZU) (x39))::(.v (.int .i64) (V.i x40))::(.v (.int .i64) (V.i x41))::un 26 ([])))),dd 5 ((.cells [.v .str (y5_0),.v (.int .i64) (y5_1),.v (.sl ZU) (y5_2)])::dd 62 ([]))⟩ []
@[irreducible] def Zbc (Q:QD) (m0:Nat) (x13:LL) (x14 x15:Int) (y5_0 y5_1 y5_2:V):Prop :=
 joinM (evCode Zp (fnAt [1,1,0,1,0,0,1,1,0,0,1,1] Tryz.f10)) ⟨.undef::.skip::un 2 (.skip::(.ptr (.loc 5) 0)::un 6 (.skip::(.v (.sl Zc) (V.l x13))::(.v (.int .i64) (V.i x14))::(.v (.int .i64) (V.i x15))::un 52 ([]))),dd 5 ((.cells [.v .str (y5_0),.v (.int .i64) (y5_1),.v (.sl ZU) (y5_2)])::dd 62 ([]))⟩ [] (blockK 1 (seqJ Zp (fnAt [1,1,0,1,0,0,1,1,1] Tryz.f10) (loopK (adj (Zp.adj 5)) (iter (adj (Zp.adj 5)) (evCode Zp (fnAt [1,1,0,1,0,0] Tryz.f10)) (ZbR Q) m0) (ZbR Q))))
@[irreducible] def Zaj (Q:QD) (m0:Nat) (x13:LL) (x14 x15:Int):Prop :=
 iter (adj (Zp.adj 5)) (evCode Zp (fnAt [1,1,0,1,0,0] Tryz.f10)) (ZbR Q) m0 ⟨.undef::.skip::un 2 (.skip::un 7 (.skip::(.v (.sl Zc) (V.l x13))::(.v (.int .i64) (V.i x14))::(.v (.int .i64) (V.i x15))::un 52 ([]))),dd 68 ([])⟩ []
def Zl6 (Q:QD) (m0 m1:Nat) (x13:LL) (x14 x15:Int) (x39:V) (x40 x41:Int) (y5_0 y5_1 y5_2:V):Prop :=
 iff (decide (x41<x40)) (0≤x41∧x41<x39.list.length∧iff (decide (((((x39.list.getD x41.toNat []).drop 0).headD V.none).int)<(1:Int))) (True∧Q (.v (.int .i64) (V.i 2)) []) (iff (decide (((((x39.list.getD x41.toNat []).drop 0).headD V.none).int) > (8:Int))) (True∧Q (.v (.int .i64) (V.i 2)) []) (iff (decide (x41 > (0:Int))) (0≤(IntKind.i64.wrap (x41 - (1:Int)))∧(IntKind.i64.wrap (x41 - (1:Int)))<y5_2.list.length∧iff (decide (((((x39.list.getD x41.toNat []).drop 0).headD V.none).int)≤((((y5_2.list.getD ((IntKind.i64.wrap (x41 - (1:Int)))).toNat []).drop 0).headD V.none).int))) (True∧Q (.v (.int .i64) (V.i 2)) []) (ZaA Q m0 m1 x13 x14 x15 x39 x40 (IntKind.i64.wrap (x41+(1:Int))) y5_0 y5_1 y5_2)) (ZaA Q m0 m1 x13 x14 x15 x39 x40 (IntKind.i64.wrap (x41+(1:Int))) y5_0 y5_1 y5_2)))) (Zaj Q m0 x13 x14 (IntKind.i64.wrap (x15+(1:Int))))
theorem ZjA (Q:QD) (m0 m1:Nat) (x13:LL) (x14 x15:Int) (x39:V) (x40 x41:Int) (y5_0 y5_1 y5_2:V):ZaA Q m0 (m1+1) x13 x14 x15 x39 x40 x41 y5_0 y5_1 y5_2=Zl6 Q m0 m1 x13 x14 x15 x39 x40 x41 y5_0 y5_1 y5_2:=by kernel_rfl
theorem ZiC (Q:QD) (m0:Nat) (x13:LL) (x14 x15:Int) (x39 y5_0 y5_1 y5_2:V) (n:Nat) (hb:n≤big) (J:Nat→Prop)
  (step:∀ (k:Nat),k<n→J k→∀ K:Prop,(J (k+1)→K)→(0≤(k:Int)∧(k:Int)<x39.list.length∧iff (decide (((((x39.list.getD k []).drop 0).headD V.none).int)<(1:Int))) (True∧Q (.v (.int .i64) (V.i 2)) []) (iff (decide (((((x39.list.getD k []).drop 0).headD V.none).int) > (8:Int))) (True∧Q (.v (.int .i64) (V.i 2)) []) (iff (decide ((k:Int) > (0:Int))) (0≤(IntKind.i64.wrap ((k:Int) - (1:Int)))∧(IntKind.i64.wrap ((k:Int) - (1:Int)))<y5_2.list.length∧iff (decide (((((x39.list.getD k []).drop 0).headD V.none).int)≤((((y5_2.list.getD ((IntKind.i64.wrap ((k:Int) - (1:Int)))).toNat []).drop 0).headD V.none).int))) (True∧Q (.v (.int .i64) (V.i 2)) []) (K)) (K)))))
  (last:J n→(Zaj Q m0 x13 x14 (IntKind.i64.wrap (x15+(1:Int)))))
  (k:Nat) (le0:k≤n) (hj:J k):∃ m1,ZaA Q m0 m1 x13 x14 x15 x39 (n:Int) ((k:Int)) y5_0 y5_1 y5_2:=by
 exact rangeG0 n hb J (fun m1 i=>ZaA Q m0 m1 x13 x14 x15 x39 (n:Int) i y5_0 y5_1 y5_2) (fun m1 i=>ZjA Q m0 m1 x13 x14 x15 x39 (n:Int) i y5_0 y5_1 y5_2) (fun k hl_ hj_ m_ ih_=>step k hl_ hj_ _ ih_) last k le0 hj
def Zlj (Q:QD) (m0:Nat) (x13:LL) (x14 x15:Int) (y5_0 y5_1 y5_2:V):Prop :=
 (y5_2.list.length≤big→∃ m1,ZaA Q m0 m1 x13 x14 x15 y5_2 ((y5_2.list.length:Int)) 0 y5_0 y5_1 y5_2)
theorem Zjo (Q:QD) (m0:Nat) (x13:LL) (x14 x15:Int) (y5_0 y5_1 y5_2:V):Zbc Q m0 x13 x14 x15 y5_0 y5_1 y5_2=Zlj Q m0 x13 x14 x15 y5_0 y5_1 y5_2:=by kernel_rfl
def ZlN (Q:QD) (m0:Nat) (x13:LL) (x14 x15:Int):Prop :=
 iff (decide (x15<x14)) (0≤x15∧x15<x13.length∧iff (decide ((((((x13.getD x15.toNat []).drop 0).tail).headD V.none).int)<(0:Int))) (True∧Q (.v (.int .i64) (V.i 2)) []) (iff (decide ((((((x13.getD x15.toNat []).drop 0).tail).headD V.none).int) > (8:Int))) (True∧Q (.v (.int .i64) (V.i 2)) []) (iff (decide ((((((x13.getD x15.toNat []).drop 0).tail).headD V.none).int) > (0:Int))) ((((((((x13.getD x15.toNat []).drop 0).tail).tail).headD V.none).list).length≤big→iff (decide (((((((((x13.getD x15.toNat []).drop 0).tail).tail).headD V.none).list).length:Int)) > (0:Int))) (True∧Q (.v (.int .i64) (V.i 2)) []) (Zbc Q m0 x13 x14 x15 (((x13.getD x15.toNat []).drop 0).headD V.none) ((((x13.getD x15.toNat []).drop 0).tail).headD V.none) (((((x13.getD x15.toNat []).drop 0).tail).tail).headD V.none)))) (Zbc Q m0 x13 x14 x15 (((x13.getD x15.toNat []).drop 0).headD V.none) ((((x13.getD x15.toNat []).drop 0).tail).headD V.none) (((((x13.getD x15.toNat []).drop 0).tail).tail).headD V.none))))) (True∧Q (.v (.int .i64) (V.i 0)) [])
theorem Zje (Q:QD) (m0:Nat) (x13:LL) (x14 x15:Int):Zaj Q (m0+1) x13 x14 x15=ZlN Q m0 x13 x14 x15:=by kernel_rfl
theorem ZiP (Q:QD) (x13:LL) (n:Nat) (hb:n≤big) (J:Nat→Prop)
  (step:∀ (k:Nat),k<n→J k→∀ m0:Nat,(J (k+1)→Zaj Q m0 x13 (n:Int) (IntKind.i64.wrap ((k:Int)+(1:Int))))→(0≤(k:Int)∧(k:Int)<x13.length∧iff (decide ((((((x13.getD k []).drop 0).tail).headD V.none).int)<(0:Int))) (True∧Q (.v (.int .i64) (V.i 2)) []) (iff (decide ((((((x13.getD k []).drop 0).tail).headD V.none).int) > (8:Int))) (True∧Q (.v (.int .i64) (V.i 2)) []) (iff (decide ((((((x13.getD k []).drop 0).tail).headD V.none).int) > (0:Int))) ((((((((x13.getD k []).drop 0).tail).tail).headD V.none).list).length≤big→iff (decide (((((((((x13.getD k []).drop 0).tail).tail).headD V.none).list).length:Int)) > (0:Int))) (True∧Q (.v (.int .i64) (V.i 2)) []) (Zbc Q m0 x13 (n:Int) (k:Int) (((x13.getD k []).drop 0).headD V.none) ((((x13.getD k []).drop 0).tail).headD V.none) (((((x13.getD k []).drop 0).tail).tail).headD V.none)))) (Zbc Q m0 x13 (n:Int) (k:Int) (((x13.getD k []).drop 0).headD V.none) ((((x13.getD k []).drop 0).tail).headD V.none) (((((x13.getD k []).drop 0).tail).tail).headD V.none))))))
  (last:J n→(True∧Q (.v (.int .i64) (V.i 0)) []))
  (k:Nat) (le0:k≤n) (hj:J k):∃ m0,Zaj Q m0 x13 (n:Int) ((k:Int)):=by
 exact rangeG0 n hb J (fun m0 i=>Zaj Q m0 x13 (n:Int) i) (fun m0 i=>Zje Q m0 x13 (n:Int) i) (fun k hl_ hj_ m_ ih_=>step k hl_ hj_ m_ ih_) last k le0 hj
def ZhW (a0:LL) (Q:QD):Prop :=
 cl Zek [.v (.sl Zc) (V.l a0),.fn ZR []] [] fun r1 H2=>r1=(.v (.int .i64) (r1.V))∧H2=[]∧iff (r1.V.int != (0:Int)) (True∧Q (.v (.int .i64) (r1.V)) []) ((a0.length≤big→∃ m0,Zaj Q m0 a0 ((a0.length:Int)) 0))
theorem Zoz (a0:LL) (Q:QD) (h:ZhW a0 Q):cl ZdM [.v (.sl Zc) (V.l a0)] [] Q :=
 acalls2 (E:=Zp) (envOk _ _ _ _ _) 0 Tryz.func10 (by kernel_rfl) h
def Zok:Env:=envA [] [] [] [] []
def ZiW (a0:LL) (a1_0:ByteArray) (a1_1:Bool) (a1_2:LL) (Q:QD):Prop :=
 cl ZdM [.v (.sl Zc) (V.l a0)] [] fun r1 H2=>r1=(.v (.int .i64) (r1.V))∧H2=[]∧iff (r1.V.int != (0:Int)) ((True∧True∧True)∧Q (.tup [.v .bool (V.b false),.v (.int .i64) (r1.V)]) []) (cl Zfx [.agg [.v .str (V.s a1_0),.v .bool (V.b a1_1),.v (.sl Zb) (V.l a1_2)]] [] fun r3 H4=>r3=(.v (.int .i64) (r3.V))∧H4=[]∧iff (r3.V.int != (0:Int)) ((True∧True∧True)∧Q (.tup [.v .bool (V.b false),.v (.int .i64) (r3.V)]) []) (cl ZdU [.v (.sl Zc) (V.l a0),.agg [.v .str (V.s a1_0),.v .bool (V.b a1_1),.v (.sl Zb) (V.l a1_2)]] [] fun r5 H6=>r5=(.v .bool (r5.V))∧H6=[]∧(True∧True∧True)∧Q (.tup [.v .bool (r5.V),.v (.int .i64) (V.i 0)]) []))
theorem Zpx (a0:LL) (a1_0:ByteArray) (a1_1:Bool) (a1_2:LL) (Q:QD) (h:ZiW a0 a1_0 a1_1 a1_2 Q):cl ZfR [.v (.sl Zc) (V.l a0),.agg [.v .str (V.s a1_0),.v .bool (V.b a1_1),.v (.sl Zb) (V.l a1_2)]] [] Q :=
 acalls2 (E:=Zok) (envOk _ _ _ _ _) 0 Tryz.func11 (by kernel_rfl) h
def ZnI:Env:=envA [] [] [] [] []
def Zi1 (a0:LL) (a1_0:ByteArray) (a1_1:Bool) (a1_2:LL) (Q:QD):Prop :=
 cl ZfR [.v (.sl Zc) (V.l a0),.agg [.v .str (V.s a1_0),.v .bool (V.b a1_1),.v (.sl Zb) (V.l a1_2)]] [] fun r1 H2=>r1=(.tup [.v .bool ((r1.parts.headD .undef).V),.v (.int .i64) ((r1.parts.tail.headD .undef).V)])∧H2=[]∧iff ((((r1.parts.tail.headD .undef).V).int) != (0:Int)) (((True∧True∧True∧True)∧True∧True)∧Q (.tup [.agg [.v .str (V.s (ByteArray.mk #[])),.v .bool (V.b false),.nil],.v (.int .i64) ((r1.parts.tail.headD .undef).V)]) []) (iff (!(((r1.parts.headD .undef).V).bool)) (((True∧True∧True∧True)∧True∧True)∧Q (.tup [.agg [.v .str (V.s (ByteArray.mk #[])),.v .bool (V.b false),.nil],.v (.int .i64) (V.i 10)]) []) (cl ZaB [.v (.sl Zc) (V.l a0),.agg [.v .str (V.s a1_0),.v .bool (V.b a1_1),.v (.sl Zb) (V.l a1_2)]] [] fun r3 H4=>r3=(.agg [.v .str ((r3.cells.headD .undef).V),.v .bool ((r3.cells.tail.headD .undef).V),.v (.sl Zb) ((r3.cells.tail.tail.headD .undef).V)])∧H4=[]∧((True∧True∧True∧True)∧True∧True)∧Q (.tup [.agg [.v .str ((r3.cells.headD .undef).V),.v .bool ((r3.cells.tail.headD .undef).V),.v (.sl Zb) ((r3.cells.tail.tail.headD .undef).V)],.v (.int .i64) (V.i 0)]) []))
theorem ZpB (a0:LL) (a1_0:ByteArray) (a1_1:Bool) (a1_2:LL) (Q:QD) (h:Zi1 a0 a1_0 a1_1 a1_2 Q):cl ZbB [.v (.sl Zc) (V.l a0),.agg [.v .str (V.s a1_0),.v .bool (V.b a1_1),.v (.sl Zb) (V.l a1_2)]] [] Q :=
 acalls2 (E:=ZnI) (envOk _ _ _ _ _) 0 Tryz.func12 (by kernel_rfl) h
def Zpu:Env:=envA [] [] [] [] []
def Zmf (a0_0:ByteArray) (a0_1:Bool) (a0_2:LL) (Q:QD):Prop :=
 cl Zfq [.agg [.v .str (V.s a0_0),.v .bool (V.b a0_1),.v (.sl Zb) (V.l a0_2)]] [] fun r1 H2=>r1=(.v .bool (r1.V))∧H2=[]∧iff (!r1.V.bool) (True∧Q (.v (.int .i64) (V.i 4)) []) (cl ZfT [.agg [.v .str (V.s a0_0),.v .bool (V.b a0_1),.v (.sl Zb) (V.l a0_2)]] [] fun r3 H4=>r3=(.v (.int .i64) (r3.V))∧H4=[]∧iff (decide (r3.V.int > (4000:Int))) (True∧Q (.v (.int .i64) (V.i 3)) []) (cl Ze4 [.agg [.v .str (V.s a0_0),.v .bool (V.b a0_1),.v (.sl Zb) (V.l a0_2)]] [] fun r5 H6=>r5=(.v (.int .i64) (r5.V))∧H6=[]∧iff (decide (r5.V.int > (200:Int))) (True∧Q (.v (.int .i64) (V.i 3)) []) (True∧Q (.v (.int .i64) (V.i 0)) [])))
theorem Zrd (a0_0:ByteArray) (a0_1:Bool) (a0_2:LL) (Q:QD) (h:Zmf a0_0 a0_1 a0_2 Q):cl ZbH [.agg [.v .str (V.s a0_0),.v .bool (V.b a0_1),.v (.sl Zb) (V.l a0_2)]] [] Q :=
 acalls2 (E:=Zpu) (envOk _ _ _ _ _) 0 Tryz.func13 (by kernel_rfl) h
def Zqp:Env:=envA [] [] [] [] []
def Zjg (a0_0:ByteArray) (a0_1:Bool) (a0_2:LL) (a1:Int) (a2_0:ByteArray) (a2_1:Bool) (a2_2:LL) (a3:Int) (Q:QD):Prop :=
 iff (a3 != (0:Int)) (iff (a1 == a3) (cl ZaT [.agg [.v .str (V.s a0_0),.v .bool (V.b a0_1),.v (.sl Zb) (V.l a0_2)],.agg [.v .str (V.s (ByteArray.mk #[])),.v .bool (V.b false),.nil]] [] fun r1 H2=>r1=(.v .bool (r1.V))∧H2=[]∧True∧Q (.v .bool (r1.V)) []) (True∧Q (.v .bool (V.b false)) [])) (iff (a1 == (0:Int)) (cl ZaT [.agg [.v .str (V.s a0_0),.v .bool (V.b a0_1),.v (.sl Zb) (V.l a0_2)],.agg [.v .str (V.s a2_0),.v .bool (V.b a2_1),.v (.sl Zb) (V.l a2_2)]] [] fun r3 H4=>r3=(.v .bool (r3.V))∧H4=[]∧True∧Q (.v .bool (r3.V)) []) (True∧Q (.v .bool (V.b false)) []))
theorem Zpo (a0_0:ByteArray) (a0_1:Bool) (a0_2:LL) (a1:Int) (a2_0:ByteArray) (a2_1:Bool) (a2_2:LL) (a3:Int) (Q:QD) (h:Zjg a0_0 a0_1 a0_2 a1 a2_0 a2_1 a2_2 a3 Q):cl ZfV [.agg [.v .str (V.s a0_0),.v .bool (V.b a0_1),.v (.sl Zb) (V.l a0_2)],.v (.int .i64) (V.i a1),.agg [.v .str (V.s a2_0),.v .bool (V.b a2_1),.v (.sl Zb) (V.l a2_2)],.v (.int .i64) (V.i a3)] [] Q :=
 acalls2 (E:=Zqp) (envOk _ _ _ _ _) 0 Tryz.func14 (by kernel_rfl) h
def Zqh:Env:=envA [] [] [] [] []
def Zmd (Q:QD):Prop :=
 cl Zin [.v .str (V.s (ByteArray.mk #[109,105,110,117,115,40,115,40,120,41,44,32,121,41])),.v (.sl Za) (V.l ([[V.s (ByteArray.mk #[120])],[V.s (ByteArray.mk #[121])]]))] [] fun r1 H2=>r1=(.tup [.agg [.v .str ((((r1.parts.headD .undef).cells).headD .undef).V),.v .bool (((((r1.parts.headD .undef).cells).tail).headD .undef).V),.v (.sl Zb) ((((((r1.parts.headD .undef).cells).tail).tail).headD .undef).V)],.v (.int .i64) ((r1.parts.tail.headD .undef).V),.v (.int .i64) ((r1.parts.tail.tail.headD .undef).V)])∧H2=[]∧cl Zin [.v .str (V.s (ByteArray.mk #[115,40,120,41])),.v (.sl Za) (V.l ([[V.s (ByteArray.mk #[120])]]))] [] fun r3 H4=>r3=(.tup [.agg [.v .str ((((r3.parts.headD .undef).cells).headD .undef).V),.v .bool (((((r3.parts.headD .undef).cells).tail).headD .undef).V),.v (.sl Zb) ((((((r3.parts.headD .undef).cells).tail).tail).headD .undef).V)],.v (.int .i64) ((r3.parts.tail.headD .undef).V),.v (.int .i64) ((r3.parts.tail.tail.headD .undef).V)])∧H4=[]∧cl Zh5 [.v .str (V.s (ByteArray.mk #[40,86,65,82,32,120,32,121,41,32,40,82,85,76,69,83,32,109,105,110,117,115,40,120,44,32,48,41,32,45,62,32,120,32,109,105,110,117,115,40,115,40,120,41,44,32,115,40,121,41,41,32,45,62,32,109,105,110,117,115,40,120,44,32,121,41,32,113,117,111,116,40,48,44,32,115,40,121,41,41,32,45,62,32,48,32,113,117,111,116,40,115,40,120,41,44,32,115,40,121,41,41,32,45,62,32,115,40,113,117,111,116,40,109,105,110,117,115,40,120,44,32,121,41,44,32,115,40,121,41,41,41,41]))] [] fun r5 H6=>r5=(.tup [.v (.sl Zd) ((r5.parts.headD .undef).V),.v (.int .i64) ((r5.parts.tail.headD .undef).V),.v (.int .i64) ((r5.parts.tail.tail.headD .undef).V)])∧H6=[]∧cl Zp3 [.v (.sl Zd) ((r5.parts.headD .undef).V)] [] fun r7 H8=>r7=(.tup [.v (.sl Zd) ((r7.parts.headD .undef).V),.v (.int .i64) ((r7.parts.tail.headD .undef).V)])∧H8=[]∧((((r7.parts.headD .undef).V).list).length≤big→iff ((((((r7.parts.headD .undef).V).list).length:Int)) != (3:Int)) (True∧Q (.v .bool (V.b false)) []) (cl ZbB [.v (.sl Zc) (V.l ([[V.s (ByteArray.mk #[109,105,110,117,115]),V.i 1,V.l ([])]])),.agg [.v .str ((((r1.parts.headD .undef).cells).headD .undef).V),.v .bool (((((r1.parts.headD .undef).cells).tail).headD .undef).V),.v (.sl Zb) ((((((r1.parts.headD .undef).cells).tail).tail).headD .undef).V)]] [] fun r9 H10=>r9=(.tup [.agg [.v .str ((((r9.parts.headD .undef).cells).headD .undef).V),.v .bool (((((r9.parts.headD .undef).cells).tail).headD .undef).V),.v (.sl Zb) ((((((r9.parts.headD .undef).cells).tail).tail).headD .undef).V)],.v (.int .i64) ((r9.parts.tail.headD .undef).V)])∧H10=[]∧0≤(1:Int)∧(1:Int)≤(2:Int)∧(2:Int)≤(((r7.parts.headD .undef).V).list).length∧cl ZbJ [.v (.sl Zc) (V.l ([])),.v (.sl Zd) (V.l (((((r7.parts.headD .undef).V).list).take ((2:Int)).toNat).drop (1:Int).toNat)),.v (.sl Zd) ((r5.parts.headD .undef).V)] [] fun r11 H12=>r11=(.tup [.v (.sl ZU) ((r11.parts.headD .undef).V),.v (.int .i64) ((r11.parts.tail.headD .undef).V)])∧H12=[]∧0≤(1:Int)∧(1:Int)≤(2:Int)∧(2:Int)≤(((r7.parts.headD .undef).V).list).length∧cl ZbJ [.v (.sl Zc) (V.l ([[V.s (ByteArray.mk #[113,117,111,116,35]),V.i 0,V.l ([[V.i 2]])]])),.v (.sl Zd) (V.l (((((r7.parts.headD .undef).V).list).take ((2:Int)).toNat).drop (1:Int).toNat)),.v (.sl Zd) ((r5.parts.headD .undef).V)] [] fun r13 H14=>r13=(.tup [.v (.sl ZU) ((r13.parts.headD .undef).V),.v (.int .i64) ((r13.parts.tail.headD .undef).V)])∧H14=[]∧iff ((((r9.parts.tail.headD .undef).V).int) == (0:Int)) (cl ZaT [.agg [.v .str ((((r9.parts.headD .undef).cells).headD .undef).V),.v .bool (((((r9.parts.headD .undef).cells).tail).headD .undef).V),.v (.sl Zb) ((((((r9.parts.headD .undef).cells).tail).tail).headD .undef).V)],.agg [.v .str ((((r3.parts.headD .undef).cells).headD .undef).V),.v .bool (((((r3.parts.headD .undef).cells).tail).headD .undef).V),.v (.sl Zb) ((((((r3.parts.headD .undef).cells).tail).tail).headD .undef).V)]] [] fun r15 H16=>r15=(.v .bool (r15.V))∧H16=[]∧iff r15.V.bool (iff ((((r11.parts.tail.headD .undef).V).int) == (0:Int)) (cl ZfS [.v (.sl ZU) ((r11.parts.headD .undef).V),.v (.sl ZU) (V.l ([[V.i 0],[V.i 1]]))] [] fun r17 H18=>r17=(.v .bool (r17.V))∧H18=[]∧iff r17.V.bool (iff ((((r13.parts.tail.headD .undef).V).int) == (0:Int)) (((((r13.parts.headD .undef).V).list).length≤big→True∧Q (.v .bool (V.b ((((((r13.parts.headD .undef).V).list).length:Int)) == (0:Int)))) [])) (True∧Q (.v .bool (V.b false)) [])) (True∧Q (.v .bool (V.b false)) [])) (True∧Q (.v .bool (V.b false)) [])) (True∧Q (.v .bool (V.b false)) [])) (True∧Q (.v .bool (V.b false)) [])))
theorem ZqW (Q:QD) (h:Zmd Q):cl Z2 [] [] Q :=
 acalls2 (E:=Zqh) (envOk _ _ _ _ _) 0 Tryz.func15 (by kernel_rfl) h
def Zbz:Env:=envA [(4,(.undef 1)::(.undef 4)::(.undef 6)::ua 9 4 (ua 16 9 ([.dead 22]))),(10,(.undef 1)::ua 3 2 ((.undef 6)::ua 8 18 (ua 29 8 ([.dead 3,.dead 8,.dead 34]))))] [] [] [] []
def Zp9 (Q:QD):Post:=blockK 0 (seqJ Zbz (fnAt [1,1,1] Tryz.f16) (endK Zbz Tryz.f16 Q))
def ZpW (Q:QD):Post:=blockK 2 (seqJ Zbz (fnAt [1,1,1,1] Tryz.f16) (endK Zbz Tryz.f16 Q))
@[irreducible] def Zda (Q:QD) (m1:Nat) (x0 x26:LL) (x27 x28:Int):Prop :=
 iter (adj (Zbz.adj 10)) (evCode Zbz (fnAt [1,1,1,0,1,0,0] Tryz.f16)) (ZpW Q) m1 ⟨(.v (.sl Zc) (V.l x0))::.undef::.skip::un 2 (.skip::.undef::.skip::un 18 ((.v (.sl Zb) (V.l x26))::(.v (.int .i64) (V.i x27))::(.v (.int .i64) (V.i x28))::un 8 ([]))),dd 37 ([])⟩ []
@[irreducible] def Zdc (Q:QD) (m0:Nat) (x0:LL) (x13:V) (x14 x15:Int) (y3_0:ByteArray) (y3_1:Bool) (y3_2:LL):Prop :=
 iter (adj (Zbz.adj 4)) (evCode Zbz (fnAt [1,1,0,1,0,0] Tryz.f16)) (Zp9 Q) m0 ⟨(.v (.sl Zc) (V.l x0))::.undef::.skip::(.ptr (.loc 3) 0)::.undef::.skip::.undef::sk 2 (un 4 ((.v (.sl ZU) (x13))::(.v (.int .i64) (V.i x14))::(.v (.int .i64) (V.i x15))::un 9 (sk 12 ([])))),dd 3 ((.cells [.v .str (V.s y3_0),.v .bool (V.b y3_1),.v (.sl Zb) (V.l y3_2)])::dd 33 ([]))⟩ []
def ZpS (Q:QD) (m1:Nat) (x0 x26:LL) (x27 x28:Int):Prop :=
 iff (decide (x28<x27)) (0≤x28∧x28<x26.length∧cl Zde [.v (.sl Zc) (V.l x0),.agg [.v .str (((x26.getD x28.toNat []).drop 0).headD V.none),.v .bool ((((x26.getD x28.toNat []).drop 0).tail).headD V.none),.v (.sl Zb) (((((x26.getD x28.toNat []).drop 0).tail).tail).headD V.none)]] [] fun r1 H2=>r1=(.v .bool (r1.V))∧H2=[]∧iff (!r1.V.bool) (True∧Q (.v .bool (V.b false)) []) (Zda Q m1 x0 x26 x27 (IntKind.i64.wrap (x28+(1:Int))))) (True∧Q (.v .bool (V.b true)) [])
theorem ZnG (Q:QD) (m1:Nat) (x0 x26:LL) (x27 x28:Int):Zda Q (m1+1) x0 x26 x27 x28=ZpS Q m1 x0 x26 x27 x28:=by kernel_rfl
theorem ZmI (Q:QD) (x0 x26:LL) (n:Nat) (hb:n≤big) (J:Nat→Prop)
  (step:∀ (k:Nat),k<n→J k→∀ K:Prop,(J (k+1)→K)→(0≤(k:Int)∧(k:Int)<x26.length∧cl Zde [.v (.sl Zc) (V.l x0),.agg [.v .str (((x26.getD k []).drop 0).headD V.none),.v .bool ((((x26.getD k []).drop 0).tail).headD V.none),.v (.sl Zb) (((((x26.getD k []).drop 0).tail).tail).headD V.none)]] [] fun r1 H2=>r1=(.v .bool (r1.V))∧H2=[]∧iff (!r1.V.bool) (True∧Q (.v .bool (V.b false)) []) (K)))
  (last:J n→(True∧Q (.v .bool (V.b true)) []))
  (k:Nat) (le0:k≤n) (hj:J k):∃ m1,Zda Q m1 x0 x26 (n:Int) ((k:Int)):=by
 exact rangeG0 n hb J (fun m1 i=>Zda Q m1 x0 x26 (n:Int) i) (fun m1 i=>ZnG Q m1 x0 x26 (n:Int) i) (fun k hl_ hj_ m_ ih_=>step k hl_ hj_ _ ih_) last k le0 hj
def Zp2 (Q:QD) (m0:Nat) (x0:LL) (x13:V) (x14 x15:Int) (y3_0:ByteArray) (y3_1:Bool) (y3_2:LL):Prop :=
 iff (decide (x15<x14)) (0≤x15∧x15<x13.list.length∧(y3_2.length≤big→iff (decide (((((x13.list.getD x15.toNat []).drop 0).headD V.none).int) > ((y3_2.length:Int)))) (True∧Q (.v .bool (V.b false)) []) (Zdc Q m0 x0 x13 x14 (IntKind.i64.wrap (x15+(1:Int))) y3_0 y3_1 y3_2))) ((y3_2.length≤big→∃ m1,Zda Q m1 x0 y3_2 ((y3_2.length:Int)) 0))
theorem Zob (Q:QD) (m0:Nat) (x0:LL) (x13:V) (x14 x15:Int) (y3_0:ByteArray) (y3_1:Bool) (y3_2:LL):Zdc Q (m0+1) x0 x13 x14 x15 y3_0 y3_1 y3_2=Zp2 Q m0 x0 x13 x14 x15 y3_0 y3_1 y3_2:=by kernel_rfl
theorem Zmn (Q:QD) (x0:LL) (x13:V) (y3_0:ByteArray) (y3_1:Bool) (y3_2:LL) (n:Nat) (hb:n≤big) (J:Nat→Prop)
  (step:∀ (k:Nat),k<n→J k→∀ K:Prop,(J (k+1)→K)→(0≤(k:Int)∧(k:Int)<x13.list.length∧(y3_2.length≤big→iff (decide (((((x13.list.getD k []).drop 0).headD V.none).int) > ((y3_2.length:Int)))) (True∧Q (.v .bool (V.b false)) []) (K))))
  (last:J n→((y3_2.length≤big→∃ m1,Zda Q m1 x0 y3_2 ((y3_2.length:Int)) 0)))
  (k:Nat) (le0:k≤n) (hj:J k):∃ m0,Zdc Q m0 x0 x13 (n:Int) ((k:Int)) y3_0 y3_1 y3_2:=by
 exact rangeG0 n hb J (fun m0 i=>Zdc Q m0 x0 x13 (n:Int) i y3_0 y3_1 y3_2) (fun m0 i=>Zob Q m0 x0 x13 (n:Int) i y3_0 y3_1 y3_2) (fun k hl_ hj_ m_ ih_=>step k hl_ hj_ _ ih_) last k le0 hj
def ZnH (a0:LL) (a1_0:ByteArray) (a1_1:Bool) (a1_2:LL) (Q:QD):Prop :=
 iff a1_1 (True∧Q (.v .bool (V.b true)) []) (cl ZgN [.v (.sl Zc) (V.l a0),.agg [.v .str (V.s a1_0),.v .bool (V.b a1_1),.v (.sl Zb) (V.l a1_2)]] [] fun r1 H2=>r1=(.v (.sl ZU) (r1.V))∧H2=[]∧(r1.V.list.length≤big→∃ m0,Zdc Q m0 a0 r1.V ((r1.V.list.length:Int)) 0 a1_0 a1_1 a1_2))
theorem Zrm (a0:LL) (a1_0:ByteArray) (a1_1:Bool) (a1_2:LL) (Q:QD) (h:ZnH a0 a1_0 a1_1 a1_2 Q):cl Zde [.v (.sl Zc) (V.l a0),.agg [.v .str (V.s a1_0),.v .bool (V.b a1_1),.v (.sl Zb) (V.l a1_2)]] [] Q :=
 acalls2 (E:=Zbz) (envOk _ _ _ _ _) 0 Tryz.func16 (by kernel_rfl) h
def Zfo:Env:=envA [(8,(.undef 1)::(.undef 5)::ua 8 3 (ua 12 10 (ua 31 5 (ua 39 17 ((.dead 5)::da 51 3 ([.ownC 6 2 57 Zb]))))))] [(10,11,[],[])] [] [] []
def Zp6 (Q:QD):Post:=blockK 0 (seqJ Zfo (fnAt [1,1,1,1,1] Tryz.f17) (endK Zfo Tryz.f17 Q))
@[irreducible] def Zdj (Q:QD) (m0:Nat) (x0:LL) (x36:V) (x37 x38:Int) (y3_0:ByteArray) (y3_1:Bool) (y3_2:LL) (y4_0:ByteArray) (y4_1:Bool) (y6_0:ByteArray) (y6_1:Bool) (y6_2n:Nat) (y57:LL):Prop :=
 iter (adj (Zfo.adj 8)) (evCode Zfo (fnAt [1,1,1,1,0,1,0,0] Tryz.f17)) (Zp6 Q) m0 ⟨(.v (.sl Zc) (V.l x0))::.undef::.skip::(.ptr (.loc 3) 0)::(.ptr (.loc 4) 0)::.undef::(.ptr (.loc 6) 0)::.skip::un 3 (.skip::un 10 (sk 9 (un 5 ((.v (.sl ZU) (x36))::(.v (.int .i64) (V.i x37))::(.v (.int .i64) (V.i x38))::un 17 ([.skip]))))),dd 3 ((.cells [.v .str (V.s y3_0),.v .bool (V.b y3_1),.v (.sl Zb) (V.l y3_2)])::(.cells [.v .str (V.s y4_0),.v .bool (V.b y4_1),.nil])::.dead::(.cells [.v .str (V.s y6_0),.v .bool (V.b y6_1),.osl (.loc 57) y6_2n])::dd 50 ([.row Zb y57]))⟩ []
def ZpY (Q:QD) (m0:Nat) (x0:LL) (x36:V) (x37 x38:Int) (y3_0:ByteArray) (y3_1:Bool) (y3_2:LL) (y4_0:ByteArray) (y4_1:Bool) (y6_0:ByteArray) (y6_1:Bool) (y6_2n:Nat) (y57:LL):Prop :=
 iff (decide (x38<x37)) (0≤x38∧x38<x36.list.length∧0≤(IntKind.i64.wrap (((((x36.list.getD x38.toNat []).drop 0).headD V.none).int) - (1:Int)))∧(IntKind.i64.wrap (((((x36.list.getD x38.toNat []).drop 0).headD V.none).int) - (1:Int)))<y3_2.length∧(∃ r1:D,cl ZfU [.v (.sl Zc) (V.l x0),.agg [.v .str (((y3_2.getD ((IntKind.i64.wrap (((((x36.list.getD x38.toNat []).drop 0).headD V.none).int) - (1:Int)))).toNat []).drop 0).headD V.none),.v .bool ((((y3_2.getD ((IntKind.i64.wrap (((((x36.list.getD x38.toNat []).drop 0).headD V.none).int) - (1:Int)))).toNat []).drop 0).tail).headD V.none),.v (.sl Zb) (((((y3_2.getD ((IntKind.i64.wrap (((((x36.list.getD x38.toNat []).drop 0).headD V.none).int) - (1:Int)))).toNat []).drop 0).tail).tail).headD V.none)]] [] (fun r H'=>r=(.agg [.v .str ((r1.cells.headD .undef).V),.v .bool ((r1.cells.tail.headD .undef).V),.v (.sl Zb) ((r1.cells.tail.tail.headD .undef).V)])∧H'=[])∧y57.length=y6_2n∧y6_2n+([[(r1.cells.headD .undef).V,(r1.cells.tail.headD .undef).V,(r1.cells.tail.tail.headD .undef).V]]).length≤lim∧Zdj Q m0 x0 x36 x37 (IntKind.i64.wrap (x38+(1:Int))) y3_0 y3_1 y3_2 y4_0 y4_1 y6_0 y6_1 (y6_2n+([[(r1.cells.headD .undef).V,(r1.cells.tail.headD .undef).V,(r1.cells.tail.tail.headD .undef).V]]).length) (y57++([[(r1.cells.headD .undef).V,(r1.cells.tail.headD .undef).V,(r1.cells.tail.tail.headD .undef).V]])))) ((True∧True∧(y6_2n=y57.length)∧True)∧Q (.agg [.v .str (V.s y6_0),.v .bool (V.b y6_1),.v (.sl Zb) (V.l y57)]) [])
theorem ZnE (Q:QD) (m0:Nat) (x0:LL) (x36:V) (x37 x38:Int) (y3_0:ByteArray) (y3_1:Bool) (y3_2:LL) (y4_0:ByteArray) (y4_1:Bool) (y6_0:ByteArray) (y6_1:Bool) (y6_2n:Nat) (y57:LL):Zdj Q (m0+1) x0 x36 x37 x38 y3_0 y3_1 y3_2 y4_0 y4_1 y6_0 y6_1 y6_2n y57=ZpY Q m0 x0 x36 x37 x38 y3_0 y3_1 y3_2 y4_0 y4_1 y6_0 y6_1 y6_2n y57:=by kernel_rfl
theorem Zml (Q:QD) (x0:LL) (x36:V) (y3_0:ByteArray) (y3_1:Bool) (y3_2:LL) (y4_0:ByteArray) (y4_1:Bool) (y6_0:ByteArray) (y6_1:Bool) (n:Nat) (hb:n≤big) (J:Nat→Nat→LL→Prop)
  (step:∀ (k:Nat) (y6_2n:Nat) (y57:LL),k<n→J k y6_2n y57→∀ K:Nat→LL→Prop,(∀ (y6_2n':Nat) (y57':LL),J (k+1) y6_2n' y57'→K y6_2n' y57')→(0≤(k:Int)∧(k:Int)<x36.list.length∧0≤(IntKind.i64.wrap (((((x36.list.getD k []).drop 0).headD V.none).int) - (1:Int)))∧(IntKind.i64.wrap (((((x36.list.getD k []).drop 0).headD V.none).int) - (1:Int)))<y3_2.length∧(∃ r1:D,cl ZfU [.v (.sl Zc) (V.l x0),.agg [.v .str (((y3_2.getD ((IntKind.i64.wrap (((((x36.list.getD k []).drop 0).headD V.none).int) - (1:Int)))).toNat []).drop 0).headD V.none),.v .bool ((((y3_2.getD ((IntKind.i64.wrap (((((x36.list.getD k []).drop 0).headD V.none).int) - (1:Int)))).toNat []).drop 0).tail).headD V.none),.v (.sl Zb) (((((y3_2.getD ((IntKind.i64.wrap (((((x36.list.getD k []).drop 0).headD V.none).int) - (1:Int)))).toNat []).drop 0).tail).tail).headD V.none)]] [] (fun r H'=>r=(.agg [.v .str ((r1.cells.headD .undef).V),.v .bool ((r1.cells.tail.headD .undef).V),.v (.sl Zb) ((r1.cells.tail.tail.headD .undef).V)])∧H'=[])∧y57.length=y6_2n∧y6_2n+([[(r1.cells.headD .undef).V,(r1.cells.tail.headD .undef).V,(r1.cells.tail.tail.headD .undef).V]]).length≤lim∧K (y6_2n+([[(r1.cells.headD .undef).V,(r1.cells.tail.headD .undef).V,(r1.cells.tail.tail.headD .undef).V]]).length) (y57++([[(r1.cells.headD .undef).V,(r1.cells.tail.headD .undef).V,(r1.cells.tail.tail.headD .undef).V]])))))
  (last:∀ (y6_2n:Nat) (y57:LL),J n y6_2n y57→((True∧True∧(y6_2n=y57.length)∧True)∧Q (.agg [.v .str (V.s y6_0),.v .bool (V.b y6_1),.v (.sl Zb) (V.l y57)]) []))
  (k:Nat) (y6_2n:Nat) (y57:LL) (le0:k≤n) (hj:J k y6_2n y57):∃ m0,Zdj Q m0 x0 x36 (n:Int) ((k:Int)) y3_0 y3_1 y3_2 y4_0 y4_1 y6_0 y6_1 y6_2n y57:=by
 exact rangeG2 n hb J (fun m0 i y6_2n y57=>Zdj Q m0 x0 x36 (n:Int) i y3_0 y3_1 y3_2 y4_0 y4_1 y6_0 y6_1 y6_2n y57) (fun m0 i y6_2n y57=>ZnE Q m0 x0 x36 (n:Int) i y3_0 y3_1 y3_2 y4_0 y4_1 y6_0 y6_1 y6_2n y57) (fun k y6_2n y57 hl_ hj_ m_ ih_=>step k y6_2n y57 hl_ hj_ _ ih_) last k y6_2n y57 le0 hj
def Zoj (a0:LL) (a1_0:ByteArray) (a1_1:Bool) (a1_2:LL) (Q:QD):Prop :=
 iff a1_1 ((True∧True∧True∧True)∧Q (.agg [.v .str (V.s a1_0),.v .bool (V.b a1_1),.v (.sl Zb) (V.l a1_2)]) []) ((a1_2.length≤big→cl Zg8 [.v (.sl Zc) (V.l a0),.v .str (V.s a1_0),.v (.int .i64) (V.i ((a1_2.length:Int)))] [] fun r1 H2=>r1=(.agg [.v .str ((r1.cells.headD .undef).V),.v (.int .i64) ((r1.cells.tail.headD .undef).V),.v (.sl ZU) ((r1.cells.tail.tail.headD .undef).V)])∧H2=[]∧iff (decide ((((r1.cells.tail.headD .undef).V).int) > (0:Int))) (0≤(IntKind.i64.wrap ((((r1.cells.tail.headD .undef).V).int) - (1:Int)))∧(IntKind.i64.wrap ((((r1.cells.tail.headD .undef).V).int) - (1:Int)))<a1_2.length∧cl ZfU [.v (.sl Zc) (V.l a0),.agg [.v .str (((a1_2.getD ((IntKind.i64.wrap ((((r1.cells.tail.headD .undef).V).int) - (1:Int)))).toNat []).drop 0).headD V.none),.v .bool ((((a1_2.getD ((IntKind.i64.wrap ((((r1.cells.tail.headD .undef).V).int) - (1:Int)))).toNat []).drop 0).tail).headD V.none),.v (.sl Zb) (((((a1_2.getD ((IntKind.i64.wrap ((((r1.cells.tail.headD .undef).V).int) - (1:Int)))).toNat []).drop 0).tail).tail).headD V.none)]] [] fun r3 H4=>r3=(.agg [.v .str ((r3.cells.headD .undef).V),.v .bool ((r3.cells.tail.headD .undef).V),.v (.sl Zb) ((r3.cells.tail.tail.headD .undef).V)])∧H4=[]∧(True∧True∧True∧True)∧Q (.agg [.v .str ((r3.cells.headD .undef).V),.v .bool ((r3.cells.tail.headD .undef).V),.v (.sl Zb) ((r3.cells.tail.tail.headD .undef).V)]) []) (cl ZgN [.v (.sl Zc) (V.l a0),.agg [.v .str (V.s a1_0),.v .bool (V.b a1_1),.v (.sl Zb) (V.l a1_2)]] [] fun r5 H6=>r5=(.v (.sl ZU) (r5.V))∧H6=[]∧(r5.V.list.length≤big→∃ m0,Zdj Q m0 a0 r5.V ((r5.V.list.length:Int)) 0 a1_0 a1_1 a1_2 (ByteArray.mk #[]) false a1_0 false 0 (([]:List (List V)))))))
theorem Zrk (a0:LL) (a1_0:ByteArray) (a1_1:Bool) (a1_2:LL) (Q:QD) (h:Zoj a0 a1_0 a1_1 a1_2 Q):cl ZfU [.v (.sl Zc) (V.l a0),.agg [.v .str (V.s a1_0),.v .bool (V.b a1_1),.v (.sl Zb) (V.l a1_2)]] [] Q :=
 acalls2 (E:=Zfo) (envOk _ _ _ _ _) 1 Tryz.func17 (by kernel_rfl) h
def ZmY:Env:=envA [] [] [] [] []
def Zic (a0 a1 a2:LL) (Q:QD):Prop :=
 cl ZdM [.v (.sl Zc) (V.l a0)] [] fun r1 H2=>r1=(.v (.int .i64) (r1.V))∧H2=[]∧iff (r1.V.int != (0:Int)) ((True∧True∧True)∧Q (.tup [.nil,.v (.int .i64) (r1.V)]) []) (cl Zg7 [.v (.sl Zd) (V.l a1),.v (.sl Zd) (V.l a2)] [] fun r3 H4=>r3=(.v (.int .i64) (r3.V))∧H4=[]∧iff (r3.V.int != (0:Int)) ((True∧True∧True)∧Q (.tup [.nil,.v (.int .i64) (r3.V)]) []) (cl ZfE [.v (.sl Zc) (V.l a0),.v (.sl Zfh) (V.l ([[V.l a1],[V.l a2]]))] [] fun r5 H6=>r5=(.v .bool (r5.V))∧H6=[]∧iff (!r5.V.bool) ((True∧True∧True)∧Q (.tup [.nil,.v (.int .i64) (V.i 10)]) []) (cl Zgd [.v (.sl Zc) (V.l a0),.v (.sl Zd) (V.l a1),.v (.sl Zd) (V.l a2)] [] fun r7 H8=>r7=(.v (.sl ZU) (r7.V))∧H8=[]∧(True∧True∧True)∧Q (.tup [.v (.sl ZU) (r7.V),.v (.int .i64) (V.i 0)]) [])))
theorem ZoW (a0 a1 a2:LL) (Q:QD) (h:Zic a0 a1 a2 Q):cl ZbJ [.v (.sl Zc) (V.l a0),.v (.sl Zd) (V.l a1),.v (.sl Zd) (V.l a2)] [] Q :=
 acalls2 (E:=ZmY) (envOk _ _ _ _ _) 0 Tryz.func18 (by kernel_rfl) h
def Zq:Env:=envA [(11,(.undef 1)::ua 6 4 ((.undef 12)::ua 18 4 (ua 23 5 (ua 29 10 (ua 42 9 ([.dead 12,.dead 49,.plainT 10 Za])))))),(16,(.undef 1)::ua 6 4 ((.undef 12)::(.undef 14)::ua 18 4 (ua 23 5 (ua 29 24 (ua 55 19 ([.dead 14,.dead 57,.dead 66,.dead 71])))))),(18,(.undef 1)::ua 6 4 ((.undef 12)::(.undef 14)::ua 18 4 (ua 23 5 (ua 29 24 ((.undef 55)::ua 59 15 ([.dead 14,.dead 66,.dead 71])))))),(26,ua 0 3 (ua 6 4 ((.undef 12)::(.undef 14)::ua 16 6 (ua 23 5 (ua 29 45 (ua 77 14 ((.dead 17)::(.dead 85)::da 88 2 ([.ownT 15 92 ZU])))))))),(3000009,ua 6 4 (ua 18 4 (ua 23 5 (ua 29 10 ([.dead 31,.dead 36])))))] [] [] [] [9]
def Zo3 (Q:QD):Post:=blockK 0 (seqJ Zq (fnAt [1,1,1,1,1,1] Tryz.f19) (endK Zq Tryz.f19 Q))
def ZgF (Q:QD):Post:=blockK 2 (seqJ Zq (fnAt [1,1,1,1,1,1,1] Tryz.f19) (endK Zq Tryz.f19 Q))
def Zox (Q:QD):Post:=blockK 6 (seqJ Zq (fnAt [1,1,1,1,1,1,1,1,1] Tryz.f19) (endK Zq Tryz.f19 Q))
def Zpk (Q:QD) (m1:Nat):Post:=blockK 4 (blockK 3 (seqJ Zq (fnAt [1,1,1,1,1,1,0,1,0,0,1,1,1] Tryz.f19) (loopK (adj (Zq.adj 16)) (iter (adj (Zq.adj 16)) (evCode Zq (fnAt [1,1,1,1,1,1,0,1,0,0] Tryz.f19)) (ZgF Q) m1) (ZgF Q))))
@[irreducible] def ZbL (Q:QD) (m1 m2:Nat) (x0 x2:LL) (x10:V) (x53 x54:Int) (x56:LL) (x57 x58:Int):Prop :=
 iter (adj (Zq.adj 18)) (evCode Zq (fnAt [1,1,1,1,1,1,0,1,0,0,1,1,0,0,1,0,0] Tryz.f19)) (Zpk Q m1) m2 ⟨(.v (.sl Zc) (V.l x0))::.undef::(.v (.sl Zd) (V.l x2))::sk 3 (un 4 ((.v (.sl Za) (x10))::.skip::.undef::.skip::.undef::sk 3 (un 4 (.skip::un 5 (.skip::un 24 ((.v (.int .i64) (V.i x53))::(.v (.int .i64) (V.i x54))::.undef::(.v (.sl Zd) (V.l x56))::(.v (.int .i64) (V.i x57))::(.v (.int .i64) (V.i x58))::un 15 (sk 18 ([])))))))),dd 93 ([])⟩ []
@[irreducible] def Zbb (Q:QD) (m3:Nat) (x10:V) (x15n:Nat) (x74:LL) (x75 x76:Int) (y92:LL):Prop :=
 iter (adj (Zq.adj 26)) (evCode Zq (fnAt [1,1,1,1,1,1,1,1,0,1,0,0] Tryz.f19)) (Zox Q) m3 ⟨un 3 (sk 3 (un 4 ((.v (.sl Za) (x10))::.skip::.undef::.skip::.undef::(.osl (.loc 92) x15n)::un 6 (.skip::un 5 (.skip::un 45 ((.v (.sl Zd) (V.l x74))::(.v (.int .i64) (V.i x75))::(.v (.int .i64) (V.i x76))::un 14 ([.skip]))))))),dd 92 ([.row ZU y92])⟩ []
@[irreducible] def Za9 (Q:QD) (m1:Nat) (x0 x2:LL) (x10:V) (x53 x54:Int):Prop :=
 iter (adj (Zq.adj 16)) (evCode Zq (fnAt [1,1,1,1,1,1,0,1,0,0] Tryz.f19)) (ZgF Q) m1 ⟨(.v (.sl Zc) (V.l x0))::.undef::(.v (.sl Zd) (V.l x2))::sk 3 (un 4 ((.v (.sl Za) (x10))::.skip::.undef::.skip::.undef::sk 3 (un 4 (.skip::un 5 (.skip::un 24 ((.v (.int .i64) (V.i x53))::(.v (.int .i64) (V.i x54))::un 19 (sk 18 ([])))))))),dd 93 ([])⟩ []
@[irreducible] def ZdR (Q:QD) (m0:Nat) (x0 x2:LL) (x10:V) (x39:LL) (x40 x41:Int):Prop :=
 iter (adj (Zq.adj 11)) (evCode Zq (fnAt [1,1,1,1,1,0,1,0,0] Tryz.f19)) (Zo3 Q) m0 ⟨(.v (.sl Zc) (V.l x0))::.undef::(.v (.sl Zd) (V.l x2))::sk 3 (un 4 ((.v (.sl Za) (x10))::.skip::.undef::sk 5 (un 4 (.skip::un 5 (.skip::un 10 ((.v (.sl Zd) (V.l x39))::(.v (.int .i64) (V.i x40))::(.v (.int .i64) (V.i x41))::un 9 (sk 41 ([])))))))),dd 93 ([])⟩ []
@[irreducible] def ZiX (Q:QD) (x0 x1 x2:LL):Prop :=
 joinM (evCode Zq (fnAt [1,1,1,1] Tryz.f19)) ⟨(.v (.sl Zc) (V.l x0))::(.v (.sl Zd) (V.l x1))::(.v (.sl Zd) (V.l x2))::sk 3 (un 4 (sk 8 (un 4 (.skip::un 5 (.skip::un 10 (sk 53 ([]))))))),dd 93 ([])⟩ [] (endK Zq Tryz.f19 Q)
def Zo1 (Q:QD) (m1 m2:Nat) (x0 x2:LL) (x10:V) (x53 x54:Int) (x56:LL) (x57 x58:Int):Prop :=
 iff (decide (x58<x57)) (0≤x58∧x58<x56.length∧cl ZeH [.v (.sl Za) (x10),.v .str (((x56.getD x58.toNat []).drop 0).headD V.none)] [] fun r1 H2=>r1=(.v .bool (r1.V))∧H2=[]∧iff r1.V.bool (cl ZaM [.v (.sl Zc) (V.l x0),.agg [.v .str ((((((x56.getD x58.toNat []).drop 0).tail).tail).tail).headD V.none),.v .bool (((((((x56.getD x58.toNat []).drop 0).tail).tail).tail).tail).headD V.none),.v (.sl Zb) ((((((((x56.getD x58.toNat []).drop 0).tail).tail).tail).tail).tail).headD V.none)],.v (.sl Za) (x10)] [] fun r3 H4=>r3=(.v (.sl Za) (r3.V))∧H4=[]∧ZbL Q m1 m2 x0 x2 r3.V x53 x54 x56 x57 (IntKind.i64.wrap (x58+(1:Int)))) (ZbL Q m1 m2 x0 x2 x10 x53 x54 x56 x57 (IntKind.i64.wrap (x58+(1:Int))))) (Za9 Q m1 x0 x2 x10 x53 (IntKind.i64.wrap (x54+(1:Int))))
theorem ZmG (Q:QD) (m1 m2:Nat) (x0 x2:LL) (x10:V) (x53 x54:Int) (x56:LL) (x57 x58:Int):ZbL Q m1 (m2+1) x0 x2 x10 x53 x54 x56 x57 x58=Zo1 Q m1 m2 x0 x2 x10 x53 x54 x56 x57 x58:=by kernel_rfl
theorem ZlY (Q:QD) (m1:Nat) (x0 x2:LL) (x53 x54:Int) (x56:LL) (n:Nat) (hb:n≤big) (J:Nat→V→Prop)
  (step:∀ (k:Nat) (x10:V),k<n→J k x10→∀ K:V→Prop,(∀ (x10':V),J (k+1) x10'→K x10')→(0≤(k:Int)∧(k:Int)<x56.length∧cl ZeH [.v (.sl Za) (x10),.v .str (((x56.getD k []).drop 0).headD V.none)] [] fun r1 H2=>r1=(.v .bool (r1.V))∧H2=[]∧iff r1.V.bool (cl ZaM [.v (.sl Zc) (V.l x0),.agg [.v .str ((((((x56.getD k []).drop 0).tail).tail).tail).headD V.none),.v .bool (((((((x56.getD k []).drop 0).tail).tail).tail).tail).headD V.none),.v (.sl Zb) ((((((((x56.getD k []).drop 0).tail).tail).tail).tail).tail).headD V.none)],.v (.sl Za) (x10)] [] fun r3 H4=>r3=(.v (.sl Za) (r3.V))∧H4=[]∧K r3.V) (K x10)))
  (last:∀ (x10:V),J n x10→(Za9 Q m1 x0 x2 x10 x53 (IntKind.i64.wrap (x54+(1:Int)))))
  (k:Nat) (x10:V) (le0:k≤n) (hj:J k x10):∃ m2,ZbL Q m1 m2 x0 x2 x10 x53 x54 x56 (n:Int) ((k:Int)):=by
 exact rangeG1 n hb J (fun m2 i x10=>ZbL Q m1 m2 x0 x2 x10 x53 x54 x56 (n:Int) i) (fun m2 i x10=>ZmG Q m1 m2 x0 x2 x10 x53 x54 x56 (n:Int) i) (fun k x10 hl_ hj_ m_ ih_=>step k x10 hl_ hj_ _ ih_) last k x10 le0 hj
def Zpj (Q:QD) (m3:Nat) (x10:V) (x15n:Nat) (x74:LL) (x75 x76:Int) (y92:LL):Prop :=
 iff (decide (x76<x75)) (0≤x76∧x76<x74.length∧cl ZeH [.v (.sl Za) (x10),.v .str (((x74.getD x76.toNat []).drop 0).headD V.none)] [] fun r1 H2=>r1=(.v .bool (r1.V))∧H2=[]∧iff r1.V.bool (y92.length=x15n∧x15n+([[V.i x76]]).length≤lim∧Zbb Q m3 x10 (x15n+([[V.i x76]]).length) x74 x75 (IntKind.i64.wrap (x76+(1:Int))) (y92++([[V.i x76]]))) (Zbb Q m3 x10 x15n x74 x75 (IntKind.i64.wrap (x76+(1:Int))) y92)) (((x15n=y92.length)∧True∧True)∧Q (.tup [.v (.sl ZU) (V.l y92),.v (.int .i64) (V.i 0)]) [])
theorem Zm4 (Q:QD) (m3:Nat) (x10:V) (x15n:Nat) (x74:LL) (x75 x76:Int) (y92:LL):Zbb Q (m3+1) x10 x15n x74 x75 x76 y92=Zpj Q m3 x10 x15n x74 x75 x76 y92:=by kernel_rfl
theorem ZlJ (Q:QD) (x10:V) (x74:LL) (n:Nat) (hb:n≤big) (J:Nat→Nat→LL→Prop)
  (step:∀ (k:Nat) (x15n:Nat) (y92:LL),k<n→J k x15n y92→∀ K:Nat→LL→Prop,(∀ (x15n':Nat) (y92':LL),J (k+1) x15n' y92'→K x15n' y92')→(0≤(k:Int)∧(k:Int)<x74.length∧cl ZeH [.v (.sl Za) (x10),.v .str (((x74.getD k []).drop 0).headD V.none)] [] fun r1 H2=>r1=(.v .bool (r1.V))∧H2=[]∧iff r1.V.bool (y92.length=x15n∧x15n+([[V.i (k:Int)]]).length≤lim∧K (x15n+([[V.i (k:Int)]]).length) (y92++([[V.i (k:Int)]]))) (K x15n y92)))
  (last:∀ (x15n:Nat) (y92:LL),J n x15n y92→(((x15n=y92.length)∧True∧True)∧Q (.tup [.v (.sl ZU) (V.l y92),.v (.int .i64) (V.i 0)]) []))
  (k:Nat) (x15n:Nat) (y92:LL) (le0:k≤n) (hj:J k x15n y92):∃ m3,Zbb Q m3 x10 x15n x74 (n:Int) ((k:Int)) y92:=by
 exact rangeG2 n hb J (fun m3 i x15n y92=>Zbb Q m3 x10 x15n x74 (n:Int) i y92) (fun m3 i x15n y92=>Zm4 Q m3 x10 x15n x74 (n:Int) i y92) (fun k x15n y92 hl_ hj_ m_ ih_=>step k x15n y92 hl_ hj_ _ ih_) last k x15n y92 le0 hj
def Zor (Q:QD) (m1:Nat) (x0 x2:LL) (x10:V) (x53 x54:Int):Prop :=
 iff (decide (x54<x53)) ((x2.length≤big→∃ m2,ZbL Q m1 m2 x0 x2 x10 x53 x54 x2 ((x2.length:Int)) 0)) ((x2.length≤big→∃ m3,Zbb Q m3 x10 0 x2 ((x2.length:Int)) 0 (([]:List (List V)))))
theorem Zm9 (Q:QD) (m1:Nat) (x0 x2:LL) (x10:V) (x53 x54:Int):Za9 Q (m1+1) x0 x2 x10 x53 x54=Zor Q m1 x0 x2 x10 x53 x54:=by kernel_rfl
theorem ZlH (Q:QD) (x0 x2:LL) (n:Nat) (hb:n≤big) (J:Nat→V→Prop)
  (step:∀ (k:Nat) (x10:V),k<n→J k x10→∀ m1:Nat,(∀ (x10':V),J (k+1) x10'→Za9 Q m1 x0 x2 x10' (n:Int) (IntKind.i64.wrap ((k:Int)+(1:Int))))→((x2.length≤big→∃ m2,ZbL Q m1 m2 x0 x2 x10 (n:Int) (k:Int) x2 ((x2.length:Int)) 0)))
  (last:∀ (x10:V),J n x10→((x2.length≤big→∃ m3,Zbb Q m3 x10 0 x2 ((x2.length:Int)) 0 (([]:List (List V))))))
  (k:Nat) (x10:V) (le0:k≤n) (hj:J k x10):∃ m1,Za9 Q m1 x0 x2 x10 (n:Int) ((k:Int)):=by
 exact rangeG1 n hb J (fun m1 i x10=>Za9 Q m1 x0 x2 x10 (n:Int) i) (fun m1 i x10=>Zm9 Q m1 x0 x2 x10 (n:Int) i) (fun k x10 hl_ hj_ m_ ih_=>step k x10 hl_ hj_ m_ ih_) last k x10 le0 hj
def ZoN (Q:QD) (m0:Nat) (x0 x2:LL) (x10:V) (x39:LL) (x40 x41:Int):Prop :=
 iff (decide (x41<x40)) (0≤x41∧x41<x39.length∧cl ZaM [.v (.sl Zc) (V.l x0),.agg [.v .str ((((((x39.getD x41.toNat []).drop 0).tail).tail).tail).headD V.none),.v .bool (((((((x39.getD x41.toNat []).drop 0).tail).tail).tail).tail).headD V.none),.v (.sl Zb) ((((((((x39.getD x41.toNat []).drop 0).tail).tail).tail).tail).tail).headD V.none)],.v (.sl Za) (x10)] [] fun r1 H2=>r1=(.v (.sl Za) (r1.V))∧H2=[]∧ZdR Q m0 x0 x2 r1.V x39 x40 (IntKind.i64.wrap (x41+(1:Int)))) ((x2.length≤big→∃ m1,Za9 Q m1 x0 x2 x10 (IntKind.i64.wrap (((x2.length:Int))+(1:Int))) 0))
theorem ZmZ (Q:QD) (m0:Nat) (x0 x2:LL) (x10:V) (x39:LL) (x40 x41:Int):ZdR Q (m0+1) x0 x2 x10 x39 x40 x41=ZoN Q m0 x0 x2 x10 x39 x40 x41:=by kernel_rfl
theorem Zlm (Q:QD) (x0 x2 x39:LL) (n:Nat) (hb:n≤big) (J:Nat→V→Prop)
  (step:∀ (k:Nat) (x10:V),k<n→J k x10→∀ K:V→Prop,(∀ (x10':V),J (k+1) x10'→K x10')→(0≤(k:Int)∧(k:Int)<x39.length∧cl ZaM [.v (.sl Zc) (V.l x0),.agg [.v .str ((((((x39.getD k []).drop 0).tail).tail).tail).headD V.none),.v .bool (((((((x39.getD k []).drop 0).tail).tail).tail).tail).headD V.none),.v (.sl Zb) ((((((((x39.getD k []).drop 0).tail).tail).tail).tail).tail).headD V.none)],.v (.sl Za) (x10)] [] fun r1 H2=>r1=(.v (.sl Za) (r1.V))∧H2=[]∧K r1.V))
  (last:∀ (x10:V),J n x10→((x2.length≤big→∃ m1,Za9 Q m1 x0 x2 x10 (IntKind.i64.wrap (((x2.length:Int))+(1:Int))) 0)))
  (k:Nat) (x10:V) (le0:k≤n) (hj:J k x10):∃ m0,ZdR Q m0 x0 x2 x10 x39 (n:Int) ((k:Int)):=by
 exact rangeG1 n hb J (fun m0 i x10=>ZdR Q m0 x0 x2 x10 x39 (n:Int) i) (fun m0 i x10=>ZmZ Q m0 x0 x2 x10 x39 (n:Int) i) (fun k x10 hl_ hj_ m_ ih_=>step k x10 hl_ hj_ _ ih_) last k x10 le0 hj
def ZoS (Q:QD) (x0 x1 x2:LL):Prop :=
 (x1.length≤big→∃ m0,ZdR Q m0 x0 x2 (V.l ([])) x1 ((x1.length:Int)) 0)
theorem Zmo (Q:QD) (x0 x1 x2:LL):ZiX Q x0 x1 x2=ZoS Q x0 x1 x2:=by kernel_rfl
def Zmi (a0 a1 a2:LL) (Q:QD):Prop :=
 cl Zg2 [.v (.sl Zc) (V.l a0)] [] fun r1 H2=>r1=(.v (.int .i64) (r1.V))∧H2=[]∧iff (r1.V.int != (0:Int)) ((True∧True∧True)∧Q (.tup [.nil,.v (.int .i64) (r1.V)]) []) (cl ZjP [.v (.sl Zd) (V.l a1),.v (.sl Zd) (V.l a2)] [] fun r3 H4=>r3=(.v (.int .i64) (r3.V))∧H4=[]∧iff (r3.V.int != (0:Int)) ((True∧True∧True)∧Q (.tup [.nil,.v (.int .i64) (r3.V)]) []) (cl Zfk [.v (.sl Zc) (V.l a0),.v (.sl Zd) (V.l a1)] [] fun r5 H6=>r5=(.v .bool (r5.V))∧H6=[]∧iff (!r5.V.bool) ((True∧True∧True)∧Q (.tup [.nil,.v (.int .i64) (V.i 10)]) []) (cl Zfk [.v (.sl Zc) (V.l a0),.v (.sl Zd) (V.l a2)] [] fun r7 H8=>r7=(.v .bool (r7.V))∧H8=[]∧iff (!r7.V.bool) ((True∧True∧True)∧Q (.tup [.nil,.v (.int .i64) (V.i 10)]) []) (ZiX Q a0 a1 a2))))
theorem ZqP (a0 a1 a2:LL) (Q:QD) (h:Zmi a0 a1 a2 Q):cl Zjf [.v (.sl Zc) (V.l a0),.v (.sl Zd) (V.l a1),.v (.sl Zd) (V.l a2)] [] Q :=
 acalls2 (E:=Zq) (envOk _ _ _ _ _) 1 Tryz.func19 (by kernel_rfl) h
def ZcV:Env:=envA [(4,ua 4 8 (ua 14 12 ([])))] [(6,8,[],[])] [] [] []
def ZmL (Q:QD):Post:=blockK 0 (seqJ ZcV (fnAt [1,1,1] Tryz.f20) (endK ZcV Tryz.f20 Q))
@[irreducible] def Zcl (Q:QD) (m0:Nat) (x0 x1:LL) (x12 x13:Int):Prop :=
 iter (adj (ZcV.adj 4)) (evCode ZcV (fnAt [1,1,0,1,0,0] Tryz.f20)) (ZmL Q) m0 ⟨(.v (.sl ZU) (V.l x0))::(.v (.sl ZU) (V.l x1))::sk 2 (un 8 ((.v (.int .i64) (V.i x12))::(.v (.int .i64) (V.i x13))::un 12 ([]))),dd 26 ([])⟩ []
def Znh (Q:QD) (m0:Nat) (x0 x1:LL) (x12 x13:Int):Prop :=
 iff (decide (x13<x12)) (0≤x13∧x13<x0.length∧0≤x13∧x13<x1.length∧iff (((((x0.getD x13.toNat []).drop 0).headD V.none).int) != ((((x1.getD x13.toNat []).drop 0).headD V.none).int)) (True∧Q (.v .bool (V.b false)) []) (Zcl Q m0 x0 x1 x12 (IntKind.i64.wrap (x13+(1:Int))))) (True∧Q (.v .bool (V.b true)) [])
theorem Zkl (Q:QD) (m0:Nat) (x0 x1:LL) (x12 x13:Int):Zcl Q (m0+1) x0 x1 x12 x13=Znh Q m0 x0 x1 x12 x13:=by kernel_rfl
theorem ZjT (Q:QD) (x0 x1:LL) (n:Nat) (hb:n≤big) (J:Nat→Prop)
  (step:∀ (k:Nat),k<n→J k→∀ K:Prop,(J (k+1)→K)→(0≤(k:Int)∧(k:Int)<x0.length∧0≤(k:Int)∧(k:Int)<x1.length∧iff (((((x0.getD k []).drop 0).headD V.none).int) != ((((x1.getD k []).drop 0).headD V.none).int)) (True∧Q (.v .bool (V.b false)) []) (K)))
  (last:J n→(True∧Q (.v .bool (V.b true)) []))
  (k:Nat) (le0:k≤n) (hj:J k):∃ m0,Zcl Q m0 x0 x1 (n:Int) ((k:Int)):=by
 exact rangeG0 n hb J (fun m0 i=>Zcl Q m0 x0 x1 (n:Int) i) (fun m0 i=>Zkl Q m0 x0 x1 (n:Int) i) (fun k hl_ hj_ m_ ih_=>step k hl_ hj_ _ ih_) last k le0 hj
def ZoC (a0 a1:LL) (Q:QD):Prop :=
 (a0.length≤big→(a1.length≤big→iff (((a0.length:Int)) != ((a1.length:Int))) (True∧Q (.v .bool (V.b false)) []) ((a0.length≤big→∃ m0,Zcl Q m0 a0 a1 ((a0.length:Int)) 0))))
theorem Zqa (a0 a1:LL) (Q:QD) (h:ZoC a0 a1 Q):cl ZfS [.v (.sl ZU) (V.l a0),.v (.sl ZU) (V.l a1)] [] Q :=
 acalls2 (E:=ZcV) (envOk _ _ _ _ _) 0 Tryz.func20 (by kernel_rfl) h
def ZX:Env:=envA [(2,ua 2 3 (ua 11 25 ([.dead 4,.dead 17,.dead 31]))),(8,(.undef 0)::ua 2 3 (ua 6 30 (ua 39 10 ([.dead 6,.dead 44]))))] [(4,16,[],[])] [] [] []
def Zjy (Q:QD):Post:=blockK 0 (seqJ ZX (fnAt [1,1] Tryz.f21) (endK ZX Tryz.f21 Q))
def Zjr (Q:QD):Post:=blockK 2 (seqJ ZX (fnAt [1,1,1] Tryz.f21) (endK ZX Tryz.f21 Q))
@[irreducible] def Zaz (Q:QD) (m1:Nat) (x36:LL) (x37 x38:Int):Prop :=
 iter (adj (ZX.adj 8)) (evCode ZX (fnAt [1,1,0,1,0,0] Tryz.f21)) (Zjr Q) m1 ⟨.undef::.skip::un 3 (.skip::un 30 ((.v (.sl Za0) (V.l x36))::(.v (.int .i64) (V.i x37))::(.v (.int .i64) (V.i x38))::un 10 ([]))),dd 49 ([])⟩ []
@[irreducible] def ZaD (Q:QD) (m0:Nat) (x0 x8:LL) (x9 x10:Int):Prop :=
 iter (adj (ZX.adj 2)) (evCode ZX (fnAt [1,0,1,0,0] Tryz.f21)) (Zjy Q) m0 ⟨(.v (.sl Za0) (V.l x0))::.skip::un 3 (sk 3 ((.v (.sl Za0) (V.l x8))::(.v (.int .i64) (V.i x9))::(.v (.int .i64) (V.i x10))::un 25 (sk 13 ([])))),dd 49 ([])⟩ []
def Zjx (Q:QD) (m1:Nat) (x36:LL) (x37 x38:Int):Prop :=
 iff (decide (x38<x37)) (0≤x38∧x38<x36.length∧cl ZbH [.agg [.v .str ((((x36.getD x38.toNat []).drop 0).tail).headD V.none),.v .bool (((((x36.getD x38.toNat []).drop 0).tail).tail).headD V.none),.v (.sl Zb) ((((((x36.getD x38.toNat []).drop 0).tail).tail).tail).headD V.none)]] [] fun r1 H2=>r1=(.v (.int .i64) (r1.V))∧H2=[]∧iff (r1.V.int != (0:Int)) (True∧Q (.v (.int .i64) (r1.V)) []) (Zaz Q m1 x36 x37 (IntKind.i64.wrap (x38+(1:Int))))) (True∧Q (.v (.int .i64) (V.i 0)) [])
theorem Zii (Q:QD) (m1:Nat) (x36:LL) (x37 x38:Int):Zaz Q (m1+1) x36 x37 x38=Zjx Q m1 x36 x37 x38:=by kernel_rfl
theorem ZhK (Q:QD) (x36:LL) (n:Nat) (hb:n≤big) (J:Nat→Prop)
  (step:∀ (k:Nat),k<n→J k→∀ K:Prop,(J (k+1)→K)→(0≤(k:Int)∧(k:Int)<x36.length∧cl ZbH [.agg [.v .str ((((x36.getD k []).drop 0).tail).headD V.none),.v .bool (((((x36.getD k []).drop 0).tail).tail).headD V.none),.v (.sl Zb) ((((((x36.getD k []).drop 0).tail).tail).tail).headD V.none)]] [] fun r1 H2=>r1=(.v (.int .i64) (r1.V))∧H2=[]∧iff (r1.V.int != (0:Int)) (True∧Q (.v (.int .i64) (r1.V)) []) (K)))
  (last:J n→(True∧Q (.v (.int .i64) (V.i 0)) []))
  (k:Nat) (le0:k≤n) (hj:J k):∃ m1,Zaz Q m1 x36 (n:Int) ((k:Int)):=by
 exact rangeG0 n hb J (fun m1 i=>Zaz Q m1 x36 (n:Int) i) (fun m1 i=>Zii Q m1 x36 (n:Int) i) (fun k hl_ hj_ m_ ih_=>step k hl_ hj_ _ ih_) last k le0 hj
def ZjE (Q:QD) (m0:Nat) (x0 x8:LL) (x9 x10:Int):Prop :=
 iff (decide (x10<x9)) (0≤x10∧x10<x8.length∧(∃ r1:D,cl Zax [.v .str (((x8.getD x10.toNat []).drop 0).headD V.none),.v .bool (V.b false)] [] (fun r H'=>r=(.v .bool (r1.V))∧H'=[])∧iff (!r1.V.bool) (True∧Q (.v (.int .i64) (V.i 4)) []) (iff (decide (x10 > (0:Int))) (0≤(IntKind.i64.wrap (x10 - (1:Int)))∧(IntKind.i64.wrap (x10 - (1:Int)))<x0.length∧cl ZY [.v .str (((x0.getD ((IntKind.i64.wrap (x10 - (1:Int)))).toNat []).drop 0).headD V.none),.v .str (((x8.getD x10.toNat []).drop 0).headD V.none)] [] fun r2 H3=>r2=(.v (.int .i64) (r2.V))∧H3=[]∧iff (decide (r2.V.int≥(0:Int))) (True∧Q (.v (.int .i64) (V.i 4)) []) (ZaD Q m0 x0 x8 x9 (IntKind.i64.wrap (x10+(1:Int))))) (ZaD Q m0 x0 x8 x9 (IntKind.i64.wrap (x10+(1:Int))))))) ((x0.length≤big→∃ m1,Zaz Q m1 x0 ((x0.length:Int)) 0))
theorem ZhO (Q:QD) (m0:Nat) (x0 x8:LL) (x9 x10:Int):ZaD Q (m0+1) x0 x8 x9 x10=ZjE Q m0 x0 x8 x9 x10:=by kernel_rfl
theorem ZhH (Q:QD) (x0 x8:LL) (n:Nat) (hb:n≤big) (J:Nat→Prop)
  (step:∀ (k:Nat),k<n→J k→∀ K:Prop,(J (k+1)→K)→(0≤(k:Int)∧(k:Int)<x8.length∧(∃ r1:D,cl Zax [.v .str (((x8.getD k []).drop 0).headD V.none),.v .bool (V.b false)] [] (fun r H'=>r=(.v .bool (r1.V))∧H'=[])∧iff (!r1.V.bool) (True∧Q (.v (.int .i64) (V.i 4)) []) (iff (decide ((k:Int) > (0:Int))) (0≤(IntKind.i64.wrap ((k:Int) - (1:Int)))∧(IntKind.i64.wrap ((k:Int) - (1:Int)))<x0.length∧cl ZY [.v .str (((x0.getD ((IntKind.i64.wrap ((k:Int) - (1:Int)))).toNat []).drop 0).headD V.none),.v .str (((x8.getD k []).drop 0).headD V.none)] [] fun r2 H3=>r2=(.v (.int .i64) (r2.V))∧H3=[]∧iff (decide (r2.V.int≥(0:Int))) (True∧Q (.v (.int .i64) (V.i 4)) []) (K)) (K)))))
  (last:J n→((x0.length≤big→∃ m1,Zaz Q m1 x0 ((x0.length:Int)) 0)))
  (k:Nat) (le0:k≤n) (hj:J k):∃ m0,ZaD Q m0 x0 x8 (n:Int) ((k:Int)):=by
 exact rangeG0 n hb J (fun m0 i=>ZaD Q m0 x0 x8 (n:Int) i) (fun m0 i=>ZhO Q m0 x0 x8 (n:Int) i) (fun k hl_ hj_ m_ ih_=>step k hl_ hj_ _ ih_) last k le0 hj
def Zk3 (a0:LL) (Q:QD):Prop :=
 (a0.length≤big→∃ m0,ZaD Q m0 a0 a0 ((a0.length:Int)) 0)
theorem Zmw (a0:LL) (Q:QD) (h:Zk3 a0 Q):cl ZfB [.v (.sl Za0) (V.l a0)] [] Q :=
 acalls2 (E:=ZX) (envOk _ _ _ _ _) 0 Tryz.func21 (by kernel_rfl) h
def Zqq:Env:=envA [] [] [] [] []
def Zn5 (a0:LL) (a1_0:ByteArray) (a1_1:Bool) (a1_2:LL) (Q:QD):Prop :=
 cl ZfZ [.v (.sl Za0) (V.l a0),.agg [.v .str (V.s a1_0),.v .bool (V.b a1_1),.v (.sl Zb) (V.l a1_2)]] [] fun r1 H2=>r1=(.tup [.v (.int .i64) ((r1.parts.headD .undef).V),.v (.int .i64) ((r1.parts.tail.headD .undef).V)])∧H2=[]∧iff (decide ((((r1.parts.headD .undef).V).int)≤(4000:Int))) (True∧Q (.v .bool (V.b (decide ((((r1.parts.tail.headD .undef).V).int)≤(200:Int))))) []) (True∧Q (.v .bool (V.b false)) [])
theorem Zrp (a0:LL) (a1_0:ByteArray) (a1_1:Bool) (a1_2:LL) (Q:QD) (h:Zn5 a0 a1_0 a1_1 a1_2 Q):cl Zl2 [.v (.sl Za0) (V.l a0),.agg [.v .str (V.s a1_0),.v .bool (V.b a1_1),.v (.sl Zb) (V.l a1_2)]] [] Q :=
 acalls2 (E:=Zqq) (envOk _ _ _ _ _) 0 Tryz.func22 (by kernel_rfl) h
def ZeS:Env:=envA [(5,(.undef 1)::(.undef 3)::ua 7 3 (ua 14 4 (ua 21 12 ((.dead 3)::(.dead 7)::da 28 3 ([.ownC 5 2 34 Zb])))))] [(7,6,[],[])] [] [] []
def ZoP (Q:QD):Post:=blockK 0 (seqJ ZeS (fnAt [1,1,1,1] Tryz.f23) (endK ZeS Tryz.f23 Q))
@[irreducible] def ZdH (Q:QD) (m0:Nat) (x0 x18:LL) (x19 x20:Int) (y4_0:ByteArray) (y4_1:Bool) (y5_0:ByteArray) (y5_1:Bool) (y5_2n:Nat) (y34:LL):Prop :=
 iter (adj (ZeS.adj 5)) (evCode ZeS (fnAt [1,1,1,0,1,0,0] Tryz.f23)) (ZoP Q) m0 ⟨(.v (.sl Za0) (V.l x0))::.undef::.skip::.undef::(.ptr (.loc 4) 0)::(.ptr (.loc 5) 0)::.skip::un 3 (sk 4 (un 4 ((.v (.sl Zb) (V.l x18))::(.v (.int .i64) (V.i x19))::(.v (.int .i64) (V.i x20))::un 12 ([.skip])))),dd 4 ((.cells [.v .str (V.s y4_0),.v .bool (V.b y4_1),.nil])::(.cells [.v .str (V.s y5_0),.v .bool (V.b y5_1),.osl (.loc 34) y5_2n])::dd 28 ([.row Zb y34]))⟩ []
def Zou (Q:QD) (m0:Nat) (x0 x18:LL) (x19 x20:Int) (y4_0:ByteArray) (y4_1:Bool) (y5_0:ByteArray) (y5_1:Bool) (y5_2n:Nat) (y34:LL):Prop :=
 iff (decide (x20<x19)) (0≤x20∧x20<x18.length∧(∃ r1:D,cl Zei [.v (.sl Za0) (V.l x0),.agg [.v .str (((x18.getD x20.toNat []).drop 0).headD V.none),.v .bool ((((x18.getD x20.toNat []).drop 0).tail).headD V.none),.v (.sl Zb) (((((x18.getD x20.toNat []).drop 0).tail).tail).headD V.none)]] [] (fun r H'=>r=(.agg [.v .str ((r1.cells.headD .undef).V),.v .bool ((r1.cells.tail.headD .undef).V),.v (.sl Zb) ((r1.cells.tail.tail.headD .undef).V)])∧H'=[])∧y34.length=y5_2n∧y5_2n+([[(r1.cells.headD .undef).V,(r1.cells.tail.headD .undef).V,(r1.cells.tail.tail.headD .undef).V]]).length≤lim∧ZdH Q m0 x0 x18 x19 (IntKind.i64.wrap (x20+(1:Int))) y4_0 y4_1 y5_0 y5_1 (y5_2n+([[(r1.cells.headD .undef).V,(r1.cells.tail.headD .undef).V,(r1.cells.tail.tail.headD .undef).V]]).length) (y34++([[(r1.cells.headD .undef).V,(r1.cells.tail.headD .undef).V,(r1.cells.tail.tail.headD .undef).V]])))) ((True∧True∧(y5_2n=y34.length)∧True)∧Q (.agg [.v .str (V.s y5_0),.v .bool (V.b y5_1),.v (.sl Zb) (V.l y34)]) [])
theorem ZmH (Q:QD) (m0:Nat) (x0 x18:LL) (x19 x20:Int) (y4_0:ByteArray) (y4_1:Bool) (y5_0:ByteArray) (y5_1:Bool) (y5_2n:Nat) (y34:LL):ZdH Q (m0+1) x0 x18 x19 x20 y4_0 y4_1 y5_0 y5_1 y5_2n y34=Zou Q m0 x0 x18 x19 x20 y4_0 y4_1 y5_0 y5_1 y5_2n y34:=by kernel_rfl
theorem ZlM (Q:QD) (x0 x18:LL) (y4_0:ByteArray) (y4_1:Bool) (y5_0:ByteArray) (y5_1:Bool) (n:Nat) (hb:n≤big) (J:Nat→Nat→LL→Prop)
  (step:∀ (k:Nat) (y5_2n:Nat) (y34:LL),k<n→J k y5_2n y34→∀ K:Nat→LL→Prop,(∀ (y5_2n':Nat) (y34':LL),J (k+1) y5_2n' y34'→K y5_2n' y34')→(0≤(k:Int)∧(k:Int)<x18.length∧(∃ r1:D,cl Zei [.v (.sl Za0) (V.l x0),.agg [.v .str (((x18.getD k []).drop 0).headD V.none),.v .bool ((((x18.getD k []).drop 0).tail).headD V.none),.v (.sl Zb) (((((x18.getD k []).drop 0).tail).tail).headD V.none)]] [] (fun r H'=>r=(.agg [.v .str ((r1.cells.headD .undef).V),.v .bool ((r1.cells.tail.headD .undef).V),.v (.sl Zb) ((r1.cells.tail.tail.headD .undef).V)])∧H'=[])∧y34.length=y5_2n∧y5_2n+([[(r1.cells.headD .undef).V,(r1.cells.tail.headD .undef).V,(r1.cells.tail.tail.headD .undef).V]]).length≤lim∧K (y5_2n+([[(r1.cells.headD .undef).V,(r1.cells.tail.headD .undef).V,(r1.cells.tail.tail.headD .undef).V]]).length) (y34++([[(r1.cells.headD .undef).V,(r1.cells.tail.headD .undef).V,(r1.cells.tail.tail.headD .undef).V]])))))
  (last:∀ (y5_2n:Nat) (y34:LL),J n y5_2n y34→((True∧True∧(y5_2n=y34.length)∧True)∧Q (.agg [.v .str (V.s y5_0),.v .bool (V.b y5_1),.v (.sl Zb) (V.l y34)]) []))
  (k:Nat) (y5_2n:Nat) (y34:LL) (le0:k≤n) (hj:J k y5_2n y34):∃ m0,ZdH Q m0 x0 x18 (n:Int) ((k:Int)) y4_0 y4_1 y5_0 y5_1 y5_2n y34:=by
 exact rangeG2 n hb J (fun m0 i y5_2n y34=>ZdH Q m0 x0 x18 (n:Int) i y4_0 y4_1 y5_0 y5_1 y5_2n y34) (fun m0 i y5_2n y34=>ZmH Q m0 x0 x18 (n:Int) i y4_0 y4_1 y5_0 y5_1 y5_2n y34) (fun k y5_2n y34 hl_ hj_ m_ ih_=>step k y5_2n y34 hl_ hj_ _ ih_) last k y5_2n y34 le0 hj
def Zmg (a0:LL) (a1_0:ByteArray) (a1_1:Bool) (a1_2:LL) (Q:QD):Prop :=
 iff a1_1 (cl Zhl [.v (.sl Za0) (V.l a0),.v .str (V.s a1_0)] [] fun r1 H2=>r1=(.agg [.v .str ((r1.cells.headD .undef).V),.v .bool ((r1.cells.tail.headD .undef).V),.v (.sl Zb) ((r1.cells.tail.tail.headD .undef).V)])∧H2=[]∧(True∧True∧True∧True)∧Q (.agg [.v .str ((r1.cells.headD .undef).V),.v .bool ((r1.cells.tail.headD .undef).V),.v (.sl Zb) ((r1.cells.tail.tail.headD .undef).V)]) []) ((a1_2.length≤big→∃ m0,ZdH Q m0 a0 a1_2 ((a1_2.length:Int)) 0 (ByteArray.mk #[]) false a1_0 false 0 (([]:List (List V)))))
theorem Zq2 (a0:LL) (a1_0:ByteArray) (a1_1:Bool) (a1_2:LL) (Q:QD) (h:Zmg a0 a1_0 a1_1 a1_2 Q):cl Zei [.v (.sl Za0) (V.l a0),.agg [.v .str (V.s a1_0),.v .bool (V.b a1_1),.v (.sl Zb) (V.l a1_2)]] [] Q :=
 acalls2 (E:=ZeS) (envOk _ _ _ _ _) 1 Tryz.func23 (by kernel_rfl) h
def ZpH:Env:=envA [] [] [] [] []
def Zma (a0_0:ByteArray) (a0_1:Bool) (a0_2:LL) (a1_0:ByteArray) (a1_1:Bool) (a1_2:LL) (Q:QD):Prop :=
 cl ZeE [.agg [.v .str (V.s a0_0),.v .bool (V.b a0_1),.v (.sl Zb) (V.l a0_2)],.agg [.v .str (V.s a1_0),.v .bool (V.b a1_1),.v (.sl Zb) (V.l a1_2)]] [] fun r1 H2=>r1=(.v (.int .i64) (r1.V))∧H2=[]∧True∧Q (.v .bool (V.b (r1.V.int == (0:Int)))) []
theorem ZqR (a0_0:ByteArray) (a0_1:Bool) (a0_2:LL) (a1_0:ByteArray) (a1_1:Bool) (a1_2:LL) (Q:QD) (h:Zma a0_0 a0_1 a0_2 a1_0 a1_1 a1_2 Q):cl ZaT [.agg [.v .str (V.s a0_0),.v .bool (V.b a0_1),.v (.sl Zb) (V.l a0_2)],.agg [.v .str (V.s a1_0),.v .bool (V.b a1_1),.v (.sl Zb) (V.l a1_2)]] [] Q :=
 acalls2 (E:=ZpH) (envOk _ _ _ _ _) 0 Tryz.func24 (by kernel_rfl) h
def Zct:Env:=envA [(3000004,(.undef 1)::ua 4 8 ([.dead 11])),(3000005,(.undef 1)::ua 4 14 ([.dead 11,.dead 15]))] [] [] [] [4,5]
@[irreducible] def ZeI (Q:QD) (x0:ByteArray):Prop :=
 joinM (evCode Zct (fnAt [1,1,1] Tryz.f37)) ⟨(.v .str (V.s x0))::.undef::sk 2 (un 14 (sk 6 ([]))),dd 24 ([])⟩ [] (endK Zct Tryz.f37 Q)
@[irreducible] def ZeA (Q:QD) (x0:ByteArray) (x12:V):Prop :=
 joinM (evCode Zct (fnAt [1,1,0,1] Tryz.f37)) ⟨(.v .str (V.s x0))::.undef::sk 2 (un 8 ((.v .bool (x12))::sk 11 ([]))),dd 24 ([])⟩ [] (seqJ Zct (fnAt [1,1,1] Tryz.f37) (endK Zct Tryz.f37 Q))
def ZhR (Q:QD) (x0:ByteArray):Prop :=
 iff (!(x0.toList == (ByteArray.mk #[]).toList)) (cl ZfO [.v .str (V.s x0)] [] fun r1 H2=>r1=(.v .bool (r1.V))∧H2=[]∧True∧Q (.v .bool (r1.V)) []) (True∧Q (.v .bool (V.b false)) [])
theorem Zl1 (Q:QD) (x0:ByteArray):ZeI Q x0=ZhR Q x0:=by kernel_rfl
def Zh1 (Q:QD) (x0:ByteArray) (x12:V):Prop :=
 iff x12.bool ((x0.size≤big→0≤(0:Int)∧(0:Int)≤(IntKind.i64.wrap (((x0.size:Int)) - (1:Int)))∧(IntKind.i64.wrap (((x0.size:Int)) - (1:Int)))≤x0.size∧ZeI Q (x0.extract (0:Int).toNat ((IntKind.i64.wrap (((x0.size:Int)) - (1:Int)))).toNat))) (ZeI Q x0)
theorem ZlW (Q:QD) (x0:ByteArray) (x12:V):ZeA Q x0 x12=Zh1 Q x0 x12:=by kernel_rfl
def Zp0 (a0:ByteArray) (a1:Bool) (Q:QD):Prop :=
 (a0.size≤big→iff (decide (((a0.size:Int)) > (24:Int))) (True∧Q (.v .bool (V.b false)) []) (iff a1 (cl ZcO [.v .str (V.s a0)] [] fun r1 H2=>r1=(.v .bool (r1.V))∧H2=[]∧ZeA Q a0 r1.V) (ZeA Q a0 (V.b false))))
theorem ZqD (a0:ByteArray) (a1:Bool) (Q:QD) (h:Zp0 a0 a1 Q):cl Zax [.v .str (V.s a0),.v .bool (V.b a1)] [] Q :=
 acalls2 (E:=Zct) (envOk _ _ _ _ _) 0 Tryz.func37 (by kernel_rfl) h
def Za3:Env:=envA [(2,ua 4 6 (ua 12 19 ([.dead 29])))] [(4,6,[],[]),(5,8,[],[])] [] [] []
def ZhQ (Q:QD):Post:=blockK 0 (seqJ Za3 (fnAt [1,1] Tryz.f38) (endK Za3 Tryz.f38 Q))
@[irreducible] def ZaI (Q:QD) (m0:Nat) (x0 x1:ByteArray) (x10 x11:Int):Prop :=
 iter (adj (Za3.adj 2)) (evCode Za3 (fnAt [1,0,1,0,0] Tryz.f38)) (ZhQ Q) m0 ⟨(.v .str (V.s x0))::(.v .str (V.s x1))::sk 2 (un 6 ((.v (.int .i64) (V.i x10))::(.v (.int .i64) (V.i x11))::un 19 (sk 5 ([])))),dd 36 ([])⟩ []
def Zij (Q:QD) (m0:Nat) (x0 x1:ByteArray) (x10 x11:Int):Prop :=
 iff (decide (x11<x10)) (0≤x11∧x11<x0.size∧0≤x11∧x11<x1.size∧iff ((((x0.data.toList.getD x11.toNat 0).toNat:Int)) != (((x1.data.toList.getD x11.toNat 0).toNat:Int))) (0≤x11∧x11<x0.size∧0≤x11∧x11<x1.size∧cl ZaC [.v (.int .i64) (V.i (IntKind.i64.wrap (((x0.data.toList.getD x11.toNat 0).toNat:Int)))),.v (.int .i64) (V.i (IntKind.i64.wrap (((x1.data.toList.getD x11.toNat 0).toNat:Int))))] [] fun r1 H2=>r1=(.v (.int .i64) (r1.V))∧H2=[]∧True∧Q (.v (.int .i64) (r1.V)) []) (ZaI Q m0 x0 x1 x10 (IntKind.i64.wrap (x11+(1:Int))))) ((x0.size≤big→(x1.size≤big→cl ZaC [.v (.int .i64) (V.i ((x0.size:Int))),.v (.int .i64) (V.i ((x1.size:Int)))] [] fun r3 H4=>r3=(.v (.int .i64) (r3.V))∧H4=[]∧True∧Q (.v (.int .i64) (r3.V)) [])))
theorem Zhe (Q:QD) (m0:Nat) (x0 x1:ByteArray) (x10 x11:Int):ZaI Q (m0+1) x0 x1 x10 x11=Zij Q m0 x0 x1 x10 x11:=by kernel_rfl
theorem ZgX (Q:QD) (x0 x1:ByteArray) (n:Nat) (hb:n≤big) (J:Nat→Prop)
  (step:∀ (k:Nat),k<n→J k→∀ K:Prop,(J (k+1)→K)→(0≤(k:Int)∧(k:Int)<x0.size∧0≤(k:Int)∧(k:Int)<x1.size∧iff ((((x0.data.toList.getD k 0).toNat:Int)) != (((x1.data.toList.getD k 0).toNat:Int))) (0≤(k:Int)∧(k:Int)<x0.size∧0≤(k:Int)∧(k:Int)<x1.size∧cl ZaC [.v (.int .i64) (V.i (IntKind.i64.wrap (((x0.data.toList.getD k 0).toNat:Int)))),.v (.int .i64) (V.i (IntKind.i64.wrap (((x1.data.toList.getD k 0).toNat:Int))))] [] fun r1 H2=>r1=(.v (.int .i64) (r1.V))∧H2=[]∧True∧Q (.v (.int .i64) (r1.V)) []) (K)))
  (last:J n→((x0.size≤big→(x1.size≤big→cl ZaC [.v (.int .i64) (V.i ((x0.size:Int))),.v (.int .i64) (V.i ((x1.size:Int)))] [] fun r3 H4=>r3=(.v (.int .i64) (r3.V))∧H4=[]∧True∧Q (.v (.int .i64) (r3.V)) []))))
  (k:Nat) (le0:k≤n) (hj:J k):∃ m0,ZaI Q m0 x0 x1 (n:Int) ((k:Int)):=by
 exact rangeG0 n hb J (fun m0 i=>ZaI Q m0 x0 x1 (n:Int) i) (fun m0 i=>Zhe Q m0 x0 x1 (n:Int) i) (fun k hl_ hj_ m_ ih_=>step k hl_ hj_ _ ih_) last k le0 hj
def Zjp (a0 a1:ByteArray) (Q:QD):Prop :=
 (a0.size≤big→(a1.size≤big→∃ m0,ZaI Q m0 a0 a1 (if ((a1.size:Int))<((a0.size:Int)) then ((a1.size:Int)) else ((a0.size:Int))) 0))
theorem Zk1 (a0 a1:ByteArray) (Q:QD) (h:Zjp a0 a1 Q):cl ZY [.v .str (V.s a0),.v .str (V.s a1)] [] Q :=
 acalls2 (E:=Za3) (envOk _ _ _ _ _) 0 Tryz.func38 (by kernel_rfl) h
def ZP:Env:=envA [(4,ua 4 6 (ua 13 27 ((.dead 6)::da 19 2 ([.dead 28,.dead 35]))))] [(6,18,[],[])] [] [] []
def Zel (Q:QD):Post:=blockK 0 (seqJ ZP (fnAt [1,1,1] Tryz.f39) (endK ZP Tryz.f39 Q))
@[irreducible] def Zm (Q:QD) (m0:Nat) (x0 x10:LL) (x11 x12:Int):Prop :=
 iter (adj (ZP.adj 4)) (evCode ZP (fnAt [1,1,0,1,0,0] Tryz.f39)) (Zel Q) m0 ⟨(.v (.sl Zc) (V.l x0))::(.fn ZR [])::sk 2 (un 6 ((.v (.sl Zc) (V.l x10))::(.v (.int .i64) (V.i x11))::(.v (.int .i64) (V.i x12))::un 27 ([]))),dd 40 ([])⟩ []
def Zed (Q:QD) (m0:Nat) (x0 x10:LL) (x11 x12:Int):Prop :=
 iff (decide (x12<x11)) (0≤x12∧x12<x10.length∧(∃ r1:D,cl ZR [.agg [.v .str (((x10.getD x12.toNat []).drop 0).headD V.none),.v (.int .i64) ((((x10.getD x12.toNat []).drop 0).tail).headD V.none),.v (.sl ZU) (((((x10.getD x12.toNat []).drop 0).tail).tail).headD V.none)]] [] (fun r H'=>r=(.v .str (r1.V))∧H'=[])∧(∃ r2:D,cl Zdg [.v .str (r1.V),.v .bool (V.b true)] [] (fun r H'=>r=(.v .bool (r2.V))∧H'=[])∧iff (!r2.V.bool) (True∧Q (.v (.int .i64) (V.i 4)) []) (iff (decide (x12 > (0:Int))) ((∃ r3:D,cl ZR [.agg [.v .str (((x10.getD x12.toNat []).drop 0).headD V.none),.v (.int .i64) ((((x10.getD x12.toNat []).drop 0).tail).headD V.none),.v (.sl ZU) (((((x10.getD x12.toNat []).drop 0).tail).tail).headD V.none)]] [] (fun r H'=>r=(.v .str (r3.V))∧H'=[])∧0≤(IntKind.i64.wrap (x12 - (1:Int)))∧(IntKind.i64.wrap (x12 - (1:Int)))<x0.length∧cl ZR [.agg [.v .str (((x0.getD ((IntKind.i64.wrap (x12 - (1:Int)))).toNat []).drop 0).headD V.none),.v (.int .i64) ((((x0.getD ((IntKind.i64.wrap (x12 - (1:Int)))).toNat []).drop 0).tail).headD V.none),.v (.sl ZU) (((((x0.getD ((IntKind.i64.wrap (x12 - (1:Int)))).toNat []).drop 0).tail).tail).headD V.none)]] [] fun r4 H5=>r4=(.v .str (r4.V))∧H5=[]∧iff (Op.bytesLess r3.V.str.toList r4.V.str.toList||r3.V.str.toList == r4.V.str.toList) (True∧Q (.v (.int .i64) (V.i 4)) []) (Zm Q m0 x0 x10 x11 (IntKind.i64.wrap (x12+(1:Int)))))) (Zm Q m0 x0 x10 x11 (IntKind.i64.wrap (x12+(1:Int)))))))) (True∧Q (.v (.int .i64) (V.i 0)) [])
theorem Zdx (Q:QD) (m0:Nat) (x0 x10:LL) (x11 x12:Int):Zm Q (m0+1) x0 x10 x11 x12=Zed Q m0 x0 x10 x11 x12:=by kernel_rfl
theorem Zdp (Q:QD) (x0 x10:LL) (n:Nat) (hb:n≤big) (J:Nat→Prop)
  (step:∀ (k:Nat),k<n→J k→∀ K:Prop,(J (k+1)→K)→(0≤(k:Int)∧(k:Int)<x10.length∧(∃ r1:D,cl ZR [.agg [.v .str (((x10.getD k []).drop 0).headD V.none),.v (.int .i64) ((((x10.getD k []).drop 0).tail).headD V.none),.v (.sl ZU) (((((x10.getD k []).drop 0).tail).tail).headD V.none)]] [] (fun r H'=>r=(.v .str (r1.V))∧H'=[])∧(∃ r2:D,cl Zdg [.v .str (r1.V),.v .bool (V.b true)] [] (fun r H'=>r=(.v .bool (r2.V))∧H'=[])∧iff (!r2.V.bool) (True∧Q (.v (.int .i64) (V.i 4)) []) (iff (decide ((k:Int) > (0:Int))) ((∃ r3:D,cl ZR [.agg [.v .str (((x10.getD k []).drop 0).headD V.none),.v (.int .i64) ((((x10.getD k []).drop 0).tail).headD V.none),.v (.sl ZU) (((((x10.getD k []).drop 0).tail).tail).headD V.none)]] [] (fun r H'=>r=(.v .str (r3.V))∧H'=[])∧0≤(IntKind.i64.wrap ((k:Int) - (1:Int)))∧(IntKind.i64.wrap ((k:Int) - (1:Int)))<x0.length∧cl ZR [.agg [.v .str (((x0.getD ((IntKind.i64.wrap ((k:Int) - (1:Int)))).toNat []).drop 0).headD V.none),.v (.int .i64) ((((x0.getD ((IntKind.i64.wrap ((k:Int) - (1:Int)))).toNat []).drop 0).tail).headD V.none),.v (.sl ZU) (((((x0.getD ((IntKind.i64.wrap ((k:Int) - (1:Int)))).toNat []).drop 0).tail).tail).headD V.none)]] [] fun r4 H5=>r4=(.v .str (r4.V))∧H5=[]∧iff (Op.bytesLess r3.V.str.toList r4.V.str.toList||r3.V.str.toList == r4.V.str.toList) (True∧Q (.v (.int .i64) (V.i 4)) []) (K))) (K))))))
  (last:J n→(True∧Q (.v (.int .i64) (V.i 0)) []))
  (k:Nat) (le0:k≤n) (hj:J k):∃ m0,Zm Q m0 x0 x10 (n:Int) ((k:Int)):=by
 exact rangeG0 n hb J (fun m0 i=>Zm Q m0 x0 x10 (n:Int) i) (fun m0 i=>Zdx Q m0 x0 x10 (n:Int) i) (fun k hl_ hj_ m_ ih_=>step k hl_ hj_ _ ih_) last k le0 hj
def Zby (a0:LL) (Q:QD):Prop :=
 (a0.length≤big→iff (decide (((a0.length:Int)) > (256:Int))) (True∧Q (.v (.int .i64) (V.i 3)) []) ((a0.length≤big→∃ m0,Zm Q m0 a0 a0 ((a0.length:Int)) 0)))
theorem ZeY (a0:LL) (Q:QD) (h:Zby a0 Q):cl Zek [.v (.sl Zc) (V.l a0),.fn ZR []] [] Q :=
 acalls2 (E:=ZP) (envOk _ _ _ _ _) 0 Tryz.func39 (by kernel_rfl) h
def Zpg:Env:=envA [] [] [] [] []
def Zj8 (a0_0:ByteArray) (a0_1:Bool) (a0_2:LL) (Q:QD):Prop :=
 cl Zb7 [.agg [.v .str (V.s a0_0),.v .bool (V.b a0_1),.v (.sl Zb) (V.l a0_2)]] [] fun r1 H2=>r1=(.v .bool (r1.V))∧H2=[]∧iff (!r1.V.bool) (True∧Q (.v (.int .i64) (V.i 4)) []) (cl Zi8 [.agg [.v .str (V.s a0_0),.v .bool (V.b a0_1),.v (.sl Zb) (V.l a0_2)]] [] fun r3 H4=>r3=(.v .bool (r3.V))∧H4=[]∧iff (!r3.V.bool) (True∧Q (.v (.int .i64) (V.i 3)) []) (True∧Q (.v (.int .i64) (V.i 0)) []))
theorem ZqG (a0_0:ByteArray) (a0_1:Bool) (a0_2:LL) (Q:QD) (h:Zj8 a0_0 a0_1 a0_2 Q):cl Zfx [.agg [.v .str (V.s a0_0),.v .bool (V.b a0_1),.v (.sl Zb) (V.l a0_2)]] [] Q :=
 acalls2 (E:=Zpg) (envOk _ _ _ _ _) 0 Tryz.func41 (by kernel_rfl) h
def Zbp:Env:=envA [(3,ua 0 2 ([.undef 3,.undef 9,.dead 3]))] [(4,30,[],[])] [] [] []
@[irreducible] def Z7 (Q:QD) (zx10_0:List V) (zy2_0:LL) (zy4_0:Bool) (q0_0:LL) (q1_0:Bool) (rows:LL):Prop :=
 rangeR (evCode Zbp (fnAt [1,0,1,0,0] Tryz.f42)) (evCode Zbp (fnAt [1,0,1,0,1] Tryz.f42)) [11,12] (rowA 171) [.cells [.v (.sl Zc) (V.l zy2_0)],.cells [.v .bool (V.b zy4_0)]] (un 2 ((.ptr (.own 0) 0)::.undef::(.ptr (.own 1) 0)::sk 4 (.undef::(.fn Zt [.elt Zb zx10_0 0])::sk 43 ([])))) (dd 54 []) (outR Zbp [.loc 2,.loc 4] ⟨un 2 ((.ptr (.loc 2) 0)::.undef::(.ptr (.loc 4) 0)::sk 4 (.undef::(.fn Zt [.elt Zb zx10_0 0])::sk 43 ([]))),dd 2 ((.cells [.v (.sl Zc) (V.l zy2_0)])::.dead::(.cells [.v .bool (V.b zy4_0)])::dd 49 ([]))⟩ [] (blockK 0 (seqJ Zbp (fnAt [1,1] Tryz.f42) (endK Zbp Tryz.f42 Q)))) rows [.cells [.v (.sl Zc) (V.l q0_0)],.cells [.v .bool (V.b q1_0)]]
theorem Zkc (Q:QD) (zx10_0:List V) (zy2_0:LL) (zy4_0:Bool) (q0_0:LL) (q1_0:Bool):Z7 Q zx10_0 zy2_0 zy4_0 q0_0 q1_0 []=(True∧Q (.v .bool (V.b true)) []):=by kernel_rfl
theorem Zkd (Q:QD) (zx10_0:List V) (zy2_0:LL) (zy4_0:Bool) (q0_0:LL) (q1_0:Bool) (r:List V) (rs:LL):Z7 Q zx10_0 zy2_0 zy4_0 q0_0 q1_0 (r::rs)=(cl Zfa [.v (.sl Zc) (V.l q0_0),.v .str (r.headD V.none)] [] fun r1 H2=>r1=(.tup [.agg [.v .str ((((r1.parts.headD .undef).cells).headD .undef).V),.v (.int .i64) (((((r1.parts.headD .undef).cells).tail).headD .undef).V),.v (.sl ZU) ((((((r1.parts.headD .undef).cells).tail).tail).headD .undef).V)],.v .bool ((r1.parts.tail.headD .undef).V)])∧H2=[]∧iff (!((r.tail.headD V.none).bool)) (iff (((r1.parts.tail.headD .undef).V).bool) (iff (decide (((((((r1.parts.headD .undef).cells).tail).headD .undef).V).int) > ((((r.tail.tail.headD V.none).list).length:Int)))) (True∧Q (.v .bool (V.b false)) []) (iff (decide ((((((((((r1.parts.headD .undef).cells).tail).tail).headD .undef).V).list).length:Int)) > (0:Int))) (0≤(IntKind.i64.wrap ((((((((((r1.parts.headD .undef).cells).tail).tail).headD .undef).V).list).length:Int)) - (1:Int)))∧(IntKind.i64.wrap ((((((((((r1.parts.headD .undef).cells).tail).tail).headD .undef).V).list).length:Int)) - (1:Int)))<(((((((r1.parts.headD .undef).cells).tail).tail).headD .undef).V).list).length∧iff (decide ((((((((((((r1.parts.headD .undef).cells).tail).tail).headD .undef).V).list).getD ((IntKind.i64.wrap ((((((((((r1.parts.headD .undef).cells).tail).tail).headD .undef).V).list).length:Int)) - (1:Int)))).toNat []).drop 0).headD V.none).int) > ((((r.tail.tail.headD V.none).list).length:Int)))) (True∧Q (.v .bool (V.b false)) []) (Z7 Q zx10_0 zy2_0 zy4_0 q0_0 q1_0 rs)) (Z7 Q zx10_0 zy2_0 zy4_0 q0_0 q1_0 rs))) (Z7 Q zx10_0 zy2_0 zy4_0 q0_0 q1_0 rs)) (Z7 Q zx10_0 zy2_0 zy4_0 q0_0 q1_0 rs)):=by kernel_rfl
theorem ZjB (Q:QD) (zx10_0:List V) (zy2_0:LL) (zy4_0:Bool) (J:LL→LL→Bool→Prop)
  (step:∀ (r:List V) (rs:LL) (q0_0:LL) (q1_0:Bool),J (r::rs) q0_0 q1_0→∀ K:LL→Bool→Prop,(∀ (q0_0':LL) (q1_0':Bool),J rs q0_0' q1_0'→K q0_0' q1_0')→(cl Zfa [.v (.sl Zc) (V.l q0_0),.v .str (r.headD V.none)] [] fun r1 H2=>r1=(.tup [.agg [.v .str ((((r1.parts.headD .undef).cells).headD .undef).V),.v (.int .i64) (((((r1.parts.headD .undef).cells).tail).headD .undef).V),.v (.sl ZU) ((((((r1.parts.headD .undef).cells).tail).tail).headD .undef).V)],.v .bool ((r1.parts.tail.headD .undef).V)])∧H2=[]∧iff (!((r.tail.headD V.none).bool)) (iff (((r1.parts.tail.headD .undef).V).bool) (iff (decide (((((((r1.parts.headD .undef).cells).tail).headD .undef).V).int) > ((((r.tail.tail.headD V.none).list).length:Int)))) (True∧Q (.v .bool (V.b false)) []) (iff (decide ((((((((((r1.parts.headD .undef).cells).tail).tail).headD .undef).V).list).length:Int)) > (0:Int))) (0≤(IntKind.i64.wrap ((((((((((r1.parts.headD .undef).cells).tail).tail).headD .undef).V).list).length:Int)) - (1:Int)))∧(IntKind.i64.wrap ((((((((((r1.parts.headD .undef).cells).tail).tail).headD .undef).V).list).length:Int)) - (1:Int)))<(((((((r1.parts.headD .undef).cells).tail).tail).headD .undef).V).list).length∧iff (decide ((((((((((((r1.parts.headD .undef).cells).tail).tail).headD .undef).V).list).getD ((IntKind.i64.wrap ((((((((((r1.parts.headD .undef).cells).tail).tail).headD .undef).V).list).length:Int)) - (1:Int)))).toNat []).drop 0).headD V.none).int) > ((((r.tail.tail.headD V.none).list).length:Int)))) (True∧Q (.v .bool (V.b false)) []) (K q0_0 q1_0)) (K q0_0 q1_0))) (K q0_0 q1_0)) (K q0_0 q1_0)))
  (last:∀ (q0_0:LL) (q1_0:Bool),J [] q0_0 q1_0→(True∧Q (.v .bool (V.b true)) []))
  : ∀ (rows:LL) (q0_0:LL) (q1_0:Bool),J rows q0_0 q1_0→Z7 Q zx10_0 zy2_0 zy4_0 q0_0 q1_0 rows:=by
 intro rows
 induction rows with
 | nil=>intro q0_0 q1_0 h; rw [Zkc]; exact last q0_0 q1_0 h
 | cons r rs ih=>intro q0_0 q1_0 h; rw [Zkd]; exact step r rs q0_0 q1_0 h (fun q0_0 q1_0=>Z7 Q zx10_0 zy2_0 zy4_0 q0_0 q1_0 rs) ih
def Zh3 (a0:LL) (a1_0:ByteArray) (a1_1:Bool) (a1_2:LL) (Q:QD):Prop :=
 cl Zej [.agg [.v .str (V.s a1_0),.v .bool (V.b a1_1),.v (.sl Zb) (V.l a1_2)]] [] fun r1 H2=>r1=(.fn Zt [.elt Zb ((r1.capsOf.headD .undef).eltOf) 0])∧H2=[]∧∃ rows:LL,itA 171 [.elt Zb ((r1.capsOf.headD .undef).eltOf) 0] rows∧Z7 Q ((r1.capsOf.headD .undef).eltOf) a0 false a0 false rows
theorem ZoT (a0:LL) (a1_0:ByteArray) (a1_1:Bool) (a1_2:LL) (Q:QD) (h:Zh3 a0 a1_0 a1_1 a1_2 Q):cl ZdU [.v (.sl Zc) (V.l a0),.agg [.v .str (V.s a1_0),.v .bool (V.b a1_1),.v (.sl Zb) (V.l a1_2)]] [] Q :=
 acalls2 (E:=Zbp) (envOk _ _ _ _ _) 0 Tryz.func42 (by kernel_rfl) h
def Z0:Env:=envA [(8,(.undef 1)::(.undef 3)::ua 5 2 (ua 9 3 (ua 15 13 (ua 37 5 (ua 45 12 ((.dead 3)::(.dead 5)::(.dead 9)::da 52 3 ([.ownC 7 2 58 Zb]))))))),(3000005,(.undef 1)::(.undef 6)::ua 10 2 (ua 15 12 ([])))] [(10,6,[],[])] [] [] [5]
def Ziq (Q:QD):Post:=blockK 0 (seqJ Z0 (fnAt [1,1,1,1,1] Tryz.f43) (endK Z0 Tryz.f43 Q))
@[irreducible] def Z9 (Q:QD) (m0:Nat) (x0:LL) (x42:V) (x43 x44:Int) (y4_0:ByteArray) (y4_1:Bool) (y7_0:ByteArray) (y7_1:Bool) (y7_2n:Nat) (y58:LL):Prop :=
 iter (adj (Z0.adj 8)) (evCode Z0 (fnAt [1,1,1,1,0,1,0,0] Tryz.f43)) (Ziq Q) m0 ⟨(.v (.sl Zc) (V.l x0))::.undef::.skip::.undef::(.ptr (.loc 4) 0)::un 2 ((.ptr (.loc 7) 0)::.skip::un 3 (sk 3 (un 13 (sk 9 (un 5 ((.v (.sl Zb) (x42))::(.v (.int .i64) (V.i x43))::(.v (.int .i64) (V.i x44))::un 12 ([.skip]))))))),dd 4 ((.cells [.v .str (V.s y4_0),.v .bool (V.b y4_1),.nil])::dd 2 ((.cells [.v .str (V.s y7_0),.v .bool (V.b y7_1),.osl (.loc 58) y7_2n])::dd 50 ([.row Zb y58])))⟩ []
@[irreducible] def Zdz (Q:QD) (x0:LL) (x27:Bool) (y3_0:ByteArray) (y3_1:Bool) (y3_2:LL) (y4_0:ByteArray) (y4_1:Bool) (y5_0 y5_1 y5_2:V):Prop :=
 joinM (evCode Z0 (fnAt [1,1,0,1,1] Tryz.f43)) ⟨(.v (.sl Zc) (V.l x0))::.undef::.skip::(.ptr (.loc 3) 0)::(.ptr (.loc 4) 0)::(.ptr (.loc 5) 0)::.undef::sk 3 (un 2 (sk 3 (un 12 ((.v .bool (V.b x27))::sk 30 ([]))))),dd 3 ((.cells [.v .str (V.s y3_0),.v .bool (V.b y3_1),.v (.sl Zb) (V.l y3_2)])::(.cells [.v .str (V.s y4_0),.v .bool (V.b y4_1),.nil])::(.cells [.v .str (y5_0),.v (.int .i64) (y5_1),.v (.sl ZU) (y5_2)])::dd 53 ([]))⟩ [] (seqJ Z0 (fnAt [1,1,1] Tryz.f43) (endK Z0 Tryz.f43 Q))
def Zir (Q:QD) (m0:Nat) (x0:LL) (x42:V) (x43 x44:Int) (y4_0:ByteArray) (y4_1:Bool) (y7_0:ByteArray) (y7_1:Bool) (y7_2n:Nat) (y58:LL):Prop :=
 iff (decide (x44<x43)) (0≤x44∧x44<x42.list.length∧(∃ r1:D,cl ZaB [.v (.sl Zc) (V.l x0),.agg [.v .str (((x42.list.getD x44.toNat []).drop 0).headD V.none),.v .bool ((((x42.list.getD x44.toNat []).drop 0).tail).headD V.none),.v (.sl Zb) (((((x42.list.getD x44.toNat []).drop 0).tail).tail).headD V.none)]] [] (fun r H'=>r=(.agg [.v .str ((r1.cells.headD .undef).V),.v .bool ((r1.cells.tail.headD .undef).V),.v (.sl Zb) ((r1.cells.tail.tail.headD .undef).V)])∧H'=[])∧y58.length=y7_2n∧y7_2n+([[(r1.cells.headD .undef).V,(r1.cells.tail.headD .undef).V,(r1.cells.tail.tail.headD .undef).V]]).length≤lim∧Z9 Q m0 x0 x42 x43 (IntKind.i64.wrap (x44+(1:Int))) y4_0 y4_1 y7_0 y7_1 (y7_2n+([[(r1.cells.headD .undef).V,(r1.cells.tail.headD .undef).V,(r1.cells.tail.tail.headD .undef).V]]).length) (y58++([[(r1.cells.headD .undef).V,(r1.cells.tail.headD .undef).V,(r1.cells.tail.tail.headD .undef).V]])))) ((True∧True∧(y7_2n=y58.length)∧True)∧Q (.agg [.v .str (V.s y7_0),.v .bool (V.b y7_1),.v (.sl Zb) (V.l y58)]) [])
theorem ZhD (Q:QD) (m0:Nat) (x0:LL) (x42:V) (x43 x44:Int) (y4_0:ByteArray) (y4_1:Bool) (y7_0:ByteArray) (y7_1:Bool) (y7_2n:Nat) (y58:LL):Z9 Q (m0+1) x0 x42 x43 x44 y4_0 y4_1 y7_0 y7_1 y7_2n y58=Zir Q m0 x0 x42 x43 x44 y4_0 y4_1 y7_0 y7_1 y7_2n y58:=by kernel_rfl
theorem Zhh (Q:QD) (x0:LL) (x42:V) (y4_0:ByteArray) (y4_1:Bool) (y7_0:ByteArray) (y7_1:Bool) (n:Nat) (hb:n≤big) (J:Nat→Nat→LL→Prop)
  (step:∀ (k:Nat) (y7_2n:Nat) (y58:LL),k<n→J k y7_2n y58→∀ K:Nat→LL→Prop,(∀ (y7_2n':Nat) (y58':LL),J (k+1) y7_2n' y58'→K y7_2n' y58')→(0≤(k:Int)∧(k:Int)<x42.list.length∧(∃ r1:D,cl ZaB [.v (.sl Zc) (V.l x0),.agg [.v .str (((x42.list.getD k []).drop 0).headD V.none),.v .bool ((((x42.list.getD k []).drop 0).tail).headD V.none),.v (.sl Zb) (((((x42.list.getD k []).drop 0).tail).tail).headD V.none)]] [] (fun r H'=>r=(.agg [.v .str ((r1.cells.headD .undef).V),.v .bool ((r1.cells.tail.headD .undef).V),.v (.sl Zb) ((r1.cells.tail.tail.headD .undef).V)])∧H'=[])∧y58.length=y7_2n∧y7_2n+([[(r1.cells.headD .undef).V,(r1.cells.tail.headD .undef).V,(r1.cells.tail.tail.headD .undef).V]]).length≤lim∧K (y7_2n+([[(r1.cells.headD .undef).V,(r1.cells.tail.headD .undef).V,(r1.cells.tail.tail.headD .undef).V]]).length) (y58++([[(r1.cells.headD .undef).V,(r1.cells.tail.headD .undef).V,(r1.cells.tail.tail.headD .undef).V]])))))
  (last:∀ (y7_2n:Nat) (y58:LL),J n y7_2n y58→((True∧True∧(y7_2n=y58.length)∧True)∧Q (.agg [.v .str (V.s y7_0),.v .bool (V.b y7_1),.v (.sl Zb) (V.l y58)]) []))
  (k:Nat) (y7_2n:Nat) (y58:LL) (le0:k≤n) (hj:J k y7_2n y58):∃ m0,Z9 Q m0 x0 x42 (n:Int) ((k:Int)) y4_0 y4_1 y7_0 y7_1 y7_2n y58:=by
 exact rangeG2 n hb J (fun m0 i y7_2n y58=>Z9 Q m0 x0 x42 (n:Int) i y4_0 y4_1 y7_0 y7_1 y7_2n y58) (fun m0 i y7_2n y58=>ZhD Q m0 x0 x42 (n:Int) i y4_0 y4_1 y7_0 y7_1 y7_2n y58) (fun k y7_2n y58 hl_ hj_ m_ ih_=>step k y7_2n y58 hl_ hj_ _ ih_) last k y7_2n y58 le0 hj
def Ziz (Q:QD) (x0:LL) (x27:Bool) (y3_0:ByteArray) (y3_1:Bool) (y3_2:LL) (y4_0:ByteArray) (y4_1:Bool) (y5_0 y5_1 y5_2:V):Prop :=
 iff x27 (0≤(IntKind.i64.wrap (y5_1.int - (1:Int)))∧(IntKind.i64.wrap (y5_1.int - (1:Int)))<y3_2.length∧cl ZaB [.v (.sl Zc) (V.l x0),.agg [.v .str (((y3_2.getD ((IntKind.i64.wrap (y5_1.int - (1:Int)))).toNat []).drop 0).headD V.none),.v .bool ((((y3_2.getD ((IntKind.i64.wrap (y5_1.int - (1:Int)))).toNat []).drop 0).tail).headD V.none),.v (.sl Zb) (((((y3_2.getD ((IntKind.i64.wrap (y5_1.int - (1:Int)))).toNat []).drop 0).tail).tail).headD V.none)]] [] fun r1 H2=>r1=(.agg [.v .str ((r1.cells.headD .undef).V),.v .bool ((r1.cells.tail.headD .undef).V),.v (.sl Zb) ((r1.cells.tail.tail.headD .undef).V)])∧H2=[]∧(True∧True∧True∧True)∧Q (.agg [.v .str ((r1.cells.headD .undef).V),.v .bool ((r1.cells.tail.headD .undef).V),.v (.sl Zb) ((r1.cells.tail.tail.headD .undef).V)]) []) (cl ZeW [.v (.sl Zc) (V.l x0),.agg [.v .str (V.s y3_0),.v .bool (V.b y3_1),.v (.sl Zb) (V.l y3_2)]] [] fun r3 H4=>r3=(.v (.sl Zb) (r3.V))∧H4=[]∧(r3.V.list.length≤big→∃ m0,Z9 Q m0 x0 r3.V ((r3.V.list.length:Int)) 0 y4_0 y4_1 y3_0 false 0 (([]:List (List V)))))
theorem Ze1 (Q:QD) (x0:LL) (x27:Bool) (y3_0:ByteArray) (y3_1:Bool) (y3_2:LL) (y4_0:ByteArray) (y4_1:Bool) (y5_0 y5_1 y5_2:V):Zdz Q x0 x27 y3_0 y3_1 y3_2 y4_0 y4_1 y5_0 y5_1 y5_2=Ziz Q x0 x27 y3_0 y3_1 y3_2 y4_0 y4_1 y5_0 y5_1 y5_2:=by kernel_rfl
def ZgA (a0:LL) (a1_0:ByteArray) (a1_1:Bool) (a1_2:LL) (Q:QD):Prop :=
 iff a1_1 ((True∧True∧True∧True)∧Q (.agg [.v .str (V.s a1_0),.v .bool (V.b true),.nil]) []) (cl Zfa [.v (.sl Zc) (V.l a0),.v .str (V.s a1_0)] [] fun r1 H2=>r1=(.tup [.agg [.v .str ((((r1.parts.headD .undef).cells).headD .undef).V),.v (.int .i64) (((((r1.parts.headD .undef).cells).tail).headD .undef).V),.v (.sl ZU) ((((((r1.parts.headD .undef).cells).tail).tail).headD .undef).V)],.v .bool ((r1.parts.tail.headD .undef).V)])∧H2=[]∧iff (((r1.parts.tail.headD .undef).V).bool) (Zdz Q a0 (decide (((((((r1.parts.headD .undef).cells).tail).headD .undef).V).int) > (0:Int))) a1_0 a1_1 a1_2 (ByteArray.mk #[]) false ((((r1.parts.headD .undef).cells).headD .undef).V) (((((r1.parts.headD .undef).cells).tail).headD .undef).V) ((((((r1.parts.headD .undef).cells).tail).tail).headD .undef).V)) (Zdz Q a0 false a1_0 a1_1 a1_2 (ByteArray.mk #[]) false ((((r1.parts.headD .undef).cells).headD .undef).V) (((((r1.parts.headD .undef).cells).tail).headD .undef).V) ((((((r1.parts.headD .undef).cells).tail).tail).headD .undef).V)))
theorem Zlv (a0:LL) (a1_0:ByteArray) (a1_1:Bool) (a1_2:LL) (Q:QD) (h:ZgA a0 a1_0 a1_1 a1_2 Q):cl ZaB [.v (.sl Zc) (V.l a0),.agg [.v .str (V.s a1_0),.v .bool (V.b a1_1),.v (.sl Zb) (V.l a1_2)]] [] Q :=
 acalls2 (E:=Z0) (envOk _ _ _ _ _) 1 Tryz.func43 (by kernel_rfl) h
def ZbG:Env:=envA [(6,ua 0 3 (ua 4 3 (ua 16 11 (ua 30 7 ([.dead 1,.dead 4,.dead 34]))))),(3000005,(.undef 0)::(.undef 2)::ua 5 2 (ua 16 10 ([.dead 18,.dead 23])))] [] [] [] [5]
def Zn8 (Q:QD):Post:=blockK 0 (seqJ ZbG (fnAt [1,1,1,1] Tryz.f44) (endK ZbG Tryz.f44 Q))
@[irreducible] def Zc5 (Q:QD) (m0:Nat) (x27:LL) (x28 x29:Int):Prop :=
 iter (adj (ZbG.adj 6)) (evCode ZbG (fnAt [1,1,1,0,1,0,0] Tryz.f44)) (Zn8 Q) m0 ⟨un 3 (.skip::un 3 (sk 9 (un 11 ((.v (.sl Zb) (V.l x27))::(.v (.int .i64) (V.i x28))::(.v (.int .i64) (V.i x29))::un 7 ([]))))),dd 37 ([])⟩ []
@[irreducible] def Zh9 (Q:QD) (y1_0:ByteArray) (y1_1:Bool) (y1_2:LL):Prop :=
 joinM (evCode ZbG (fnAt [1,1,1] Tryz.f44)) ⟨.undef::(.ptr (.loc 1) 0)::.undef::sk 2 (un 2 (sk 9 (un 10 (sk 11 ([]))))),.dead::(.cells [.v .str (V.s y1_0),.v .bool (V.b y1_1),.v (.sl Zb) (V.l y1_2)])::dd 35 ([])⟩ [] (endK ZbG Tryz.f44 Q)
def ZnL (Q:QD) (m0:Nat) (x27:LL) (x28 x29:Int):Prop :=
 iff (decide (x29<x28)) (0≤x29∧x29<x27.length∧cl Zfq [.agg [.v .str (((x27.getD x29.toNat []).drop 0).headD V.none),.v .bool ((((x27.getD x29.toNat []).drop 0).tail).headD V.none),.v (.sl Zb) (((((x27.getD x29.toNat []).drop 0).tail).tail).headD V.none)]] [] fun r1 H2=>r1=(.v .bool (r1.V))∧H2=[]∧iff (!r1.V.bool) (True∧Q (.v .bool (V.b false)) []) (Zc5 Q m0 x27 x28 (IntKind.i64.wrap (x29+(1:Int))))) (True∧Q (.v .bool (V.b true)) [])
theorem ZlB (Q:QD) (m0:Nat) (x27:LL) (x28 x29:Int):Zc5 Q (m0+1) x27 x28 x29=ZnL Q m0 x27 x28 x29:=by kernel_rfl
theorem ZkZ (Q:QD) (x27:LL) (n:Nat) (hb:n≤big) (J:Nat→Prop)
  (step:∀ (k:Nat),k<n→J k→∀ K:Prop,(J (k+1)→K)→(0≤(k:Int)∧(k:Int)<x27.length∧cl Zfq [.agg [.v .str (((x27.getD k []).drop 0).headD V.none),.v .bool ((((x27.getD k []).drop 0).tail).headD V.none),.v (.sl Zb) (((((x27.getD k []).drop 0).tail).tail).headD V.none)]] [] fun r1 H2=>r1=(.v .bool (r1.V))∧H2=[]∧iff (!r1.V.bool) (True∧Q (.v .bool (V.b false)) []) (K)))
  (last:J n→(True∧Q (.v .bool (V.b true)) []))
  (k:Nat) (le0:k≤n) (hj:J k):∃ m0,Zc5 Q m0 x27 (n:Int) ((k:Int)):=by
 exact rangeG0 n hb J (fun m0 i=>Zc5 Q m0 x27 (n:Int) i) (fun m0 i=>ZlB Q m0 x27 (n:Int) i) (fun k hl_ hj_ m_ ih_=>step k hl_ hj_ _ ih_) last k le0 hj
def ZnZ (Q:QD) (y1_0:ByteArray) (y1_1:Bool) (y1_2:LL):Prop :=
 (y1_2.length≤big→∃ m0,Zc5 Q m0 y1_2 ((y1_2.length:Int)) 0)
theorem ZlU (Q:QD) (y1_0:ByteArray) (y1_1:Bool) (y1_2:LL):Zh9 Q y1_0 y1_1 y1_2=ZnZ Q y1_0 y1_1 y1_2:=by kernel_rfl
def Zj0 (a0_0:ByteArray) (a0_1:Bool) (a0_2:LL) (Q:QD):Prop :=
 iff a0_1 (cl Zax [.v .str (V.s a0_0),.v .bool (V.b false)] [] fun r1 H2=>r1=(.v .bool (r1.V))∧H2=[]∧iff r1.V.bool ((a0_2.length≤big→True∧Q (.v .bool (V.b (((a0_2.length:Int)) == (0:Int)))) [])) (True∧Q (.v .bool (V.b false)) [])) (cl Zax [.v .str (V.s a0_0),.v .bool (V.b true)] [] fun r3 H4=>r3=(.v .bool (r3.V))∧H4=[]∧iff (!r3.V.bool) (True∧Q (.v .bool (V.b false)) []) ((a0_2.length≤big→iff (decide (((a0_2.length:Int)) > (8:Int))) (True∧Q (.v .bool (V.b false)) []) (Zh9 Q a0_0 a0_1 a0_2))))
theorem ZqL (a0_0:ByteArray) (a0_1:Bool) (a0_2:LL) (Q:QD) (h:Zj0 a0_0 a0_1 a0_2 Q):cl Zfq [.agg [.v .str (V.s a0_0),.v .bool (V.b a0_1),.v (.sl Zb) (V.l a0_2)]] [] Q :=
 acalls2 (E:=ZbG) (envOk _ _ _ _ _) 0 Tryz.func44 (by kernel_rfl) h
def Zfp:Env:=envA [(3,ua 0 3 (ua 5 2 (ua 10 8 ([.dead 1,.dead 5,.dead 15]))))] [] [] [] []
def ZpV (Q:QD):Post:=blockK 0 (seqJ Zfp (fnAt [1,1,1] Tryz.f45) (endK Zfp Tryz.f45 Q))
@[irreducible] def Zex (Q:QD) (m0:Nat) (x3:Int) (x7:LL) (x8 x9:Int):Prop :=
 iter (adj (Zfp.adj 3)) (evCode Zfp (fnAt [1,1,0,1,0,0] Tryz.f45)) (ZpV Q) m0 ⟨un 3 ((.v (.int .i64) (V.i x3))::.skip::un 2 ((.v (.sl Zb) (V.l x7))::(.v (.int .i64) (V.i x8))::(.v (.int .i64) (V.i x9))::un 8 ([.skip]))),dd 19 ([])⟩ []
def Zqf (Q:QD) (m0:Nat) (x3:Int) (x7:LL) (x8 x9:Int):Prop :=
 iff (decide (x9<x8)) (0≤x9∧x9<x7.length∧cl ZfT [.agg [.v .str (((x7.getD x9.toNat []).drop 0).headD V.none),.v .bool ((((x7.getD x9.toNat []).drop 0).tail).headD V.none),.v (.sl Zb) (((((x7.getD x9.toNat []).drop 0).tail).tail).headD V.none)]] [] fun r1 H2=>r1=(.v (.int .i64) (r1.V))∧H2=[]∧Zex Q m0 (IntKind.i64.wrap (x3+r1.V.int)) x7 x8 (IntKind.i64.wrap (x9+(1:Int)))) (True∧Q (.v (.int .i64) (V.i x3)) [])
theorem Znx (Q:QD) (m0:Nat) (x3:Int) (x7:LL) (x8 x9:Int):Zex Q (m0+1) x3 x7 x8 x9=Zqf Q m0 x3 x7 x8 x9:=by kernel_rfl
theorem Znk (Q:QD) (x7:LL) (n:Nat) (hb:n≤big) (J:Nat→Int→Prop)
  (step:∀ (k:Nat) (x3:Int),k<n→J k x3→∀ K:Int→Prop,(∀ (x3':Int),J (k+1) x3'→K x3')→(0≤(k:Int)∧(k:Int)<x7.length∧cl ZfT [.agg [.v .str (((x7.getD k []).drop 0).headD V.none),.v .bool ((((x7.getD k []).drop 0).tail).headD V.none),.v (.sl Zb) (((((x7.getD k []).drop 0).tail).tail).headD V.none)]] [] fun r1 H2=>r1=(.v (.int .i64) (r1.V))∧H2=[]∧K (IntKind.i64.wrap (x3+r1.V.int))))
  (last:∀ (x3:Int),J n x3→(True∧Q (.v (.int .i64) (V.i x3)) []))
  (k:Nat) (x3:Int) (le0:k≤n) (hj:J k x3):∃ m0,Zex Q m0 x3 x7 (n:Int) ((k:Int)):=by
 exact rangeG1 n hb J (fun m0 i x3=>Zex Q m0 x3 x7 (n:Int) i) (fun m0 i x3=>Znx Q m0 x3 x7 (n:Int) i) (fun k x3 hl_ hj_ m_ ih_=>step k x3 hl_ hj_ _ ih_) last k x3 le0 hj
def Zq8 (a0_0:ByteArray) (a0_1:Bool) (a0_2:LL) (Q:QD):Prop :=
 (a0_2.length≤big→∃ m0,Zex Q m0 1 a0_2 ((a0_2.length:Int)) 0)
theorem Zrs (a0_0:ByteArray) (a0_1:Bool) (a0_2:LL) (Q:QD) (h:Zq8 a0_0 a0_1 a0_2 Q):cl ZfT [.agg [.v .str (V.s a0_0),.v .bool (V.b a0_1),.v (.sl Zb) (V.l a0_2)]] [] Q :=
 acalls2 (E:=Zfp) (envOk _ _ _ _ _) 0 Tryz.func45 (by kernel_rfl) h
def Zev:Env:=envA [(3,ua 0 3 (ua 5 2 (ua 10 8 ((.dead 1)::(.dead 5)::da 15 2 ([])))))] [] [] [] []
def ZoR (Q:QD):Post:=blockK 0 (seqJ Zev (fnAt [1,1,1] Tryz.f46) (endK Zev Tryz.f46 Q))
@[irreducible] def ZdN (Q:QD) (m0:Nat) (x3:Int) (x7:LL) (x8 x9:Int):Prop :=
 iter (adj (Zev.adj 3)) (evCode Zev (fnAt [1,1,0,1,0,0] Tryz.f46)) (ZoR Q) m0 ⟨un 3 ((.v (.int .i64) (V.i x3))::.skip::un 2 ((.v (.sl Zb) (V.l x7))::(.v (.int .i64) (V.i x8))::(.v (.int .i64) (V.i x9))::un 8 (sk 2 ([])))),dd 20 ([])⟩ []
def Zoy (Q:QD) (m0:Nat) (x3:Int) (x7:LL) (x8 x9:Int):Prop :=
 iff (decide (x9<x8)) (0≤x9∧x9<x7.length∧cl Ze4 [.agg [.v .str (((x7.getD x9.toNat []).drop 0).headD V.none),.v .bool ((((x7.getD x9.toNat []).drop 0).tail).headD V.none),.v (.sl Zb) (((((x7.getD x9.toNat []).drop 0).tail).tail).headD V.none)]] [] fun r1 H2=>r1=(.v (.int .i64) (r1.V))∧H2=[]∧ZdN Q m0 (if r1.V.int > x3 then r1.V.int else x3) x7 x8 (IntKind.i64.wrap (x9+(1:Int)))) (True∧Q (.v (.int .i64) (V.i (IntKind.i64.wrap (x3+(1:Int))))) [])
theorem Zmy (Q:QD) (m0:Nat) (x3:Int) (x7:LL) (x8 x9:Int):ZdN Q (m0+1) x3 x7 x8 x9=Zoy Q m0 x3 x7 x8 x9:=by kernel_rfl
theorem ZlD (Q:QD) (x7:LL) (n:Nat) (hb:n≤big) (J:Nat→Int→Prop)
  (step:∀ (k:Nat) (x3:Int),k<n→J k x3→∀ K:Int→Prop,(∀ (x3':Int),J (k+1) x3'→K x3')→(0≤(k:Int)∧(k:Int)<x7.length∧cl Ze4 [.agg [.v .str (((x7.getD k []).drop 0).headD V.none),.v .bool ((((x7.getD k []).drop 0).tail).headD V.none),.v (.sl Zb) (((((x7.getD k []).drop 0).tail).tail).headD V.none)]] [] fun r1 H2=>r1=(.v (.int .i64) (r1.V))∧H2=[]∧K (if r1.V.int > x3 then r1.V.int else x3)))
  (last:∀ (x3:Int),J n x3→(True∧Q (.v (.int .i64) (V.i (IntKind.i64.wrap (x3+(1:Int))))) []))
  (k:Nat) (x3:Int) (le0:k≤n) (hj:J k x3):∃ m0,ZdN Q m0 x3 x7 (n:Int) ((k:Int)):=by
 exact rangeG1 n hb J (fun m0 i x3=>ZdN Q m0 x3 x7 (n:Int) i) (fun m0 i x3=>Zmy Q m0 x3 x7 (n:Int) i) (fun k x3 hl_ hj_ m_ ih_=>step k x3 hl_ hj_ _ ih_) last k x3 le0 hj
def ZqK (a0_0:ByteArray) (a0_1:Bool) (a0_2:LL) (Q:QD):Prop :=
 (a0_2.length≤big→∃ m0,ZdN Q m0 0 a0_2 ((a0_2.length:Int)) 0)
theorem Zq1 (a0_0:ByteArray) (a0_1:Bool) (a0_2:LL) (Q:QD) (h:ZqK a0_0 a0_1 a0_2 Q):cl Ze4 [.agg [.v .str (V.s a0_0),.v .bool (V.b a0_1),.v (.sl Zb) (V.l a0_2)]] [] Q :=
 acalls2 (E:=Zev) (envOk _ _ _ _ _) 0 Tryz.func46 (by kernel_rfl) h
def Zft:Env:=envA [(4000030,[.ownC 30 2 52 Za]),(4,ua 5 2 ((.undef 8)::ua 12 3 (ua 19 8 ([.dead 23]))))] [(13,6,[],[(5,4)])] [] [] []
def Zpt (Q:QD):Post:=blockK 0 (seqJ Zft (fnAt [1,1,1] Tryz.f47) (endK Zft Tryz.f47 Q))
@[irreducible] def ZeT (Q:QD) (m0:Nat) (x0:ByteArray) (x1 x16:LL) (x17 x18:Int) (y4_0:ByteArray) (y4_1:Bool):Prop :=
 iter (adj (Zft.adj 4)) (evCode Zft (fnAt [1,1,0,1,0,0] Tryz.f47)) (Zpt Q) m0 ⟨(.v .str (V.s x0))::(.v (.sl Za) (V.l x1))::sk 2 ((.ptr (.loc 4) 0)::un 2 (.skip::.undef::sk 3 (un 3 (.skip::(.v (.sl Za) (V.l x16))::(.v (.int .i64) (V.i x17))::(.v (.int .i64) (V.i x18))::un 8 (sk 25 ([])))))),dd 4 ((.cells [.v .str (V.s y4_0),.v .bool (V.b y4_1),.nil])::dd 48 ([]))⟩ []
def ZpK (Q:QD) (m0:Nat) (x0:ByteArray) (x1 x16:LL) (x17 x18:Int) (y4_0:ByteArray) (y4_1:Bool):Prop :=
 iff (decide (x18<x17)) (0≤x18∧x18<x16.length∧cl Zax [.v .str (((x16.getD x18.toNat []).drop 0).headD V.none),.v .bool (V.b false)] [] fun r1 H2=>r1=(.v .bool (r1.V))∧H2=[]∧iff (!r1.V.bool) (((True∧True∧True∧True)∧True∧True∧True)∧Q (.tup [.agg [.v .str (V.s (ByteArray.mk #[])),.v .bool (V.b false),.nil],.v (.int .i64) (V.i 0),.v (.int .i64) (V.i 4)]) []) (ZeT Q m0 x0 x1 x16 x17 (IntKind.i64.wrap (x18+(1:Int))) y4_0 y4_1)) (cl Zai [.ptr (.own 0) 0] [.cells [.v .str (V.s x0),.v (.int .i64) (V.i 0),.v (.sl Za) (V.l x1),.v (.int .i64) (V.i (-1))]] fun r3 H4=>r3=(.agg [.v .str ((r3.cells.headD .undef).V),.v .bool ((r3.cells.tail.headD .undef).V),.v (.sl Zb) ((r3.cells.tail.tail.headD .undef).V)])∧H4=[.cells [.v .str ((((H4.headD .dead).cs).headD .undef).V),.v (.int .i64) (((((H4.headD .dead).cs).tail).headD .undef).V),.v (.sl Za) ((((((H4.headD .dead).cs).tail).tail).headD .undef).V),.v (.int .i64) (((((((H4.headD .dead).cs).tail).tail).tail).headD .undef).V)]]∧cl ZaU [.ptr (.own 0) 0] [.cells [.v .str ((((H4.headD .dead).cs).headD .undef).V),.v (.int .i64) (((((H4.headD .dead).cs).tail).headD .undef).V),.v (.sl Za) ((((((H4.headD .dead).cs).tail).tail).headD .undef).V),.v (.int .i64) (((((((H4.headD .dead).cs).tail).tail).tail).headD .undef).V)]] fun r5 H6=>r5=(.tup [])∧H6=[.cells [.v .str ((((H6.headD .dead).cs).headD .undef).V),.v (.int .i64) (((((H6.headD .dead).cs).tail).headD .undef).V),.v (.sl Za) ((((((H6.headD .dead).cs).tail).tail).headD .undef).V),.v (.int .i64) (((((((H6.headD .dead).cs).tail).tail).tail).headD .undef).V)]]∧iff (decide (((((((((H6.headD .dead).cs).tail).tail).tail).headD .undef).V).int)≥(0:Int))) (((True∧True∧True∧True)∧True∧True∧True)∧Q (.tup [.agg [.v .str (V.s (ByteArray.mk #[])),.v .bool (V.b false),.nil],.v (.int .i64) (((((((H6.headD .dead).cs).tail).tail).tail).headD .undef).V),.v (.int .i64) (V.i 4)]) []) (cl ZbH [.agg [.v .str ((r3.cells.headD .undef).V),.v .bool ((r3.cells.tail.headD .undef).V),.v (.sl Zb) ((r3.cells.tail.tail.headD .undef).V)]] [] fun r7 H8=>r7=(.v (.int .i64) (r7.V))∧H8=[]∧iff (r7.V.int != (0:Int)) (((True∧True∧True∧True)∧True∧True∧True)∧Q (.tup [.agg [.v .str (V.s (ByteArray.mk #[])),.v .bool (V.b false),.nil],.v (.int .i64) (V.i 0),.v (.int .i64) (r7.V)]) []) (((True∧True∧True∧True)∧True∧True∧True)∧Q (.tup [.agg [.v .str ((r3.cells.headD .undef).V),.v .bool ((r3.cells.tail.headD .undef).V),.v (.sl Zb) ((r3.cells.tail.tail.headD .undef).V)],.v (.int .i64) (V.i 0),.v (.int .i64) (V.i 0)]) [])))
theorem Zny (Q:QD) (m0:Nat) (x0:ByteArray) (x1 x16:LL) (x17 x18:Int) (y4_0:ByteArray) (y4_1:Bool):ZeT Q (m0+1) x0 x1 x16 x17 x18 y4_0 y4_1=ZpK Q m0 x0 x1 x16 x17 x18 y4_0 y4_1:=by kernel_rfl
theorem Znq (Q:QD) (x0:ByteArray) (x1 x16:LL) (y4_0:ByteArray) (y4_1:Bool) (n:Nat) (hb:n≤big) (J:Nat→Prop)
  (step:∀ (k:Nat),k<n→J k→∀ K:Prop,(J (k+1)→K)→(0≤(k:Int)∧(k:Int)<x16.length∧cl Zax [.v .str (((x16.getD k []).drop 0).headD V.none),.v .bool (V.b false)] [] fun r1 H2=>r1=(.v .bool (r1.V))∧H2=[]∧iff (!r1.V.bool) (((True∧True∧True∧True)∧True∧True∧True)∧Q (.tup [.agg [.v .str (V.s (ByteArray.mk #[])),.v .bool (V.b false),.nil],.v (.int .i64) (V.i 0),.v (.int .i64) (V.i 4)]) []) (K)))
  (last:J n→(cl Zai [.ptr (.own 0) 0] [.cells [.v .str (V.s x0),.v (.int .i64) (V.i 0),.v (.sl Za) (V.l x1),.v (.int .i64) (V.i (-1))]] fun r3 H4=>r3=(.agg [.v .str ((r3.cells.headD .undef).V),.v .bool ((r3.cells.tail.headD .undef).V),.v (.sl Zb) ((r3.cells.tail.tail.headD .undef).V)])∧H4=[.cells [.v .str ((((H4.headD .dead).cs).headD .undef).V),.v (.int .i64) (((((H4.headD .dead).cs).tail).headD .undef).V),.v (.sl Za) ((((((H4.headD .dead).cs).tail).tail).headD .undef).V),.v (.int .i64) (((((((H4.headD .dead).cs).tail).tail).tail).headD .undef).V)]]∧cl ZaU [.ptr (.own 0) 0] [.cells [.v .str ((((H4.headD .dead).cs).headD .undef).V),.v (.int .i64) (((((H4.headD .dead).cs).tail).headD .undef).V),.v (.sl Za) ((((((H4.headD .dead).cs).tail).tail).headD .undef).V),.v (.int .i64) (((((((H4.headD .dead).cs).tail).tail).tail).headD .undef).V)]] fun r5 H6=>r5=(.tup [])∧H6=[.cells [.v .str ((((H6.headD .dead).cs).headD .undef).V),.v (.int .i64) (((((H6.headD .dead).cs).tail).headD .undef).V),.v (.sl Za) ((((((H6.headD .dead).cs).tail).tail).headD .undef).V),.v (.int .i64) (((((((H6.headD .dead).cs).tail).tail).tail).headD .undef).V)]]∧iff (decide (((((((((H6.headD .dead).cs).tail).tail).tail).headD .undef).V).int)≥(0:Int))) (((True∧True∧True∧True)∧True∧True∧True)∧Q (.tup [.agg [.v .str (V.s (ByteArray.mk #[])),.v .bool (V.b false),.nil],.v (.int .i64) (((((((H6.headD .dead).cs).tail).tail).tail).headD .undef).V),.v (.int .i64) (V.i 4)]) []) (cl ZbH [.agg [.v .str ((r3.cells.headD .undef).V),.v .bool ((r3.cells.tail.headD .undef).V),.v (.sl Zb) ((r3.cells.tail.tail.headD .undef).V)]] [] fun r7 H8=>r7=(.v (.int .i64) (r7.V))∧H8=[]∧iff (r7.V.int != (0:Int)) (((True∧True∧True∧True)∧True∧True∧True)∧Q (.tup [.agg [.v .str (V.s (ByteArray.mk #[])),.v .bool (V.b false),.nil],.v (.int .i64) (V.i 0),.v (.int .i64) (r7.V)]) []) (((True∧True∧True∧True)∧True∧True∧True)∧Q (.tup [.agg [.v .str ((r3.cells.headD .undef).V),.v .bool ((r3.cells.tail.headD .undef).V),.v (.sl Zb) ((r3.cells.tail.tail.headD .undef).V)],.v (.int .i64) (V.i 0),.v (.int .i64) (V.i 0)]) []))))
  (k:Nat) (le0:k≤n) (hj:J k):∃ m0,ZeT Q m0 x0 x1 x16 (n:Int) ((k:Int)) y4_0 y4_1:=by
 exact rangeG0 n hb J (fun m0 i=>ZeT Q m0 x0 x1 x16 (n:Int) i y4_0 y4_1) (fun m0 i=>Zny Q m0 x0 x1 x16 (n:Int) i y4_0 y4_1) (fun k hl_ hj_ m_ ih_=>step k hl_ hj_ _ ih_) last k le0 hj
def ZqS (a0:ByteArray) (a1:LL) (Q:QD):Prop :=
 (a0.size≤big→iff (decide (((a0.size:Int)) > (20000:Int))) (((True∧True∧True∧True)∧True∧True∧True)∧Q (.tup [.agg [.v .str (V.s (ByteArray.mk #[])),.v .bool (V.b false),.nil],.v (.int .i64) (V.i 0),.v (.int .i64) (V.i 3)]) []) ((a1.length≤big→∃ m0,ZeT Q m0 a0 a1 a1 ((a1.length:Int)) 0 (ByteArray.mk #[]) false)))
theorem Zro (a0:ByteArray) (a1:LL) (Q:QD) (h:ZqS a0 a1 Q):cl Zin [.v .str (V.s a0),.v (.sl Za) (V.l a1)] [] Q :=
 acalls2 (E:=Zft) (envOk _ _ _ _ _) 1 Tryz.func47 (by kernel_rfl) h
end Go.Proofs.YthjlodlkpgjlkaaGreat
