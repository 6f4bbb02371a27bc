/-
  THE LAW PolyLengths, WHERE WHAT IT READS IS OF BULK AT MOST 1048576: for every such input the call returns true and leaves its arguments as they were.
  The function's text is read by an evaluator over data that is proved sound in Lean (the texts Abs..); its functions' contracts are proved in plain Lean (the texts K..).
-/
import Derived.Test.YthhnadeoioeniaaGreatRows
import Derived.Test.YthhnadeoioeniaaGreatLPolyLengths
import Derived.Test.YthhnadeoioeniaaGreatP15
set_option linter.unusedVariables false
namespace Go.Proofs.YthhnadeoioeniaaGreat.rowPolyLengths
open Go.Abs Go.ChangeShapes Go.WideShapes Go.ChangeAt Go.RowKit
def good:List Nat:=[22,89,9,27,82,31,60,3,59,65,25,4,23,70,68,127]
theorem good_ok:good.all (rdOk tab good)=true:=by kernel_rfl
theorem laid:laidOutB Tryz.prog=true:=by kernel_rfl
theorem par:Tryz.f9.params.toList.all (fun t=>inL good t&&Nat.blt t Tryz.prog.types.size&&Tryz.prog.readableRec t)=true:=by kernel_rfl
theorem tbool:Tryz.prog.underlying 4=some .bool:=by kernel_rfl
theorem own:ownKnob Tryz.prog.godebug=none:=by kernel_rfl
theorem par_of:∀ t∈Tryz.f9.params.toList,t∈good∧t<Tryz.prog.types.size∧Tryz.prog.readableRec t=true:=fun t ht=>by
 have h:=List.all_eq_true.1 par t ht
 rw [Bool.and_eq_true,Bool.and_eq_true] at h
 exact ⟨inL_mem h.1.1,Nat.le_of_ble_eq_true h.1.2,h.2⟩
mutual
theorem bulk_same {H:Type}:∀ d:DataW H,Rows.uptoBulk d=dbulk d
 | .lit l=>by cases l <;> rfl
 | .nil=>rfl
 | .ptr d=>by simp only [Rows.uptoBulk,dbulk,bulk_same d]
 | .slice e s=>by simp only [Rows.uptoBulk,dbulk,bulkAll_same e,bulkAll_same s]
 | .agg p=>by simp only [Rows.uptoBulk,dbulk,bulkAll_same p]
 | .iface _ d=>by simp only [Rows.uptoBulk,dbulk,bulk_same d]
 | .map es=>by simp only [Rows.uptoBulk,dbulk,bulkEntries_same es]
 | .held _=>rfl
theorem bulkAll_same {H:Type}:∀ l:List (DataW H),Rows.uptoBulkAll l=dbulkAll l
 | []=>rfl
 | d::r=>by simp only [Rows.uptoBulkAll,dbulkAll,bulk_same d,bulkAll_same r]
theorem bulkEntries_same {H:Type}:∀ l:List (Lit×DataW H),Rows.uptoBulkEntries l=dbulkEntries l
 | []=>rfl
 | x::r=>by simp only [Rows.uptoBulkEntries,dbulkEntries,bulkEntry_same x,bulkEntries_same r]
theorem bulkEntry_same {H:Type}:∀ x:Lit×DataW H,Rows.uptoBulkEntry x=dbulkEntry x
 | (l,d)=>by cases l <;> simp only [Rows.uptoBulkEntry,dbulkEntry,bulk_same d]
end
theorem spec_fn {H:Type} (ds:List (DataW H)) (h:ds.length=Tryz.f9.params.size):Rows.polyLengthsSpec.fn H ds={ results:=[.lit (.bool true)],args:=ds }:=by
 have h':ds.length=3:=h
 match ds,h' with
 | [d0,d1,d2],_=>rfl
set_option maxRecDepth 100000 in
theorem lifted (os:Os) (started:os.Started) (H:Type) (enc:TypeId×Value→H) (F:Stop.Interp) :
  ReturnsInHanded {} Tryz.checked os 9 .any ((Rows.OpenSpec.upto Rows.polyLengthsSpec).pre6 enc Tryz.prog Tryz.f9 Rows.polyLengthsUptoRow.domain false) (((Rows.OpenSpec.upto Rows.polyLengthsSpec).at F).post enc Tryz.prog Tryz.f9 false true false false):=by
 refine returnsInHanded_of_cond (C:=Tryz.checked) (s:=Rows.OpenSpec.upto Rows.polyLengthsSpec) (k:=Rows.uptoSmall) rfl own started (by kernel_rfl) Tryz.func9
  (OpenSpec.witness (enc:=enc) (C:=Tryz.checked) (s:=Rows.OpenSpec.upto Rows.polyLengthsSpec) (k:=Rows.uptoSmall) rfl false ⟨#[],#[.slice none 0 0,.slice none 0 0,.agg #[.string ⟨#[]⟩,.bool false,.slice none 0 0,.slice none 0 0]],[]⟩ 20 (by kernel_rfl) (by kernel_rfl) (by kernel_rfl)
   (x:=([.nil,.nil,.agg [.agg [.lit (.string []),.lit (.bool false),.nil],.nil]],[],[])) (by kernel_rfl) rfl (by kernel_rfl)) ?_
 intro W base args ds gs before hval hW _ hk _
 refine law_calls (enc:=enc) tab_ok good_ok laid (B:=1048576) (tb:=4) par_of rfl (by kernel_rfl) tbool spec_fn (fun xss h1 h2 h3=>law_PolyLengths xss h1 h2 h3) W base args ds gs before hval hW ?_
 rw [← bulkAll_same]
 exact of_decide_eq_true hk
theorem holds:Rows.PolyLengthsUptoSaid :=
 OpenClaim.holds_of_cond 9 Tryz.f9 rfl rfl rfl rfl rfl rfl rfl ⟨rfl,rfl,rfl,rfl,rfl⟩ rfl rfl rfl rfl rfl (by kernel_rfl) Tryz.func9 (by kernel_rfl)
  (of_decide_eq_true (by kernel_rfl)) (by unfold Func.isWrapper; first | (rw [if_pos (by decide +kernel)]; kernel_rfl) | (rw [if_neg (by decide +kernel)]; exact ⟨rfl,rfl⟩))
  (fun os started H enc _ F=>lifted os started H enc F)
end Go.Proofs.YthhnadeoioeniaaGreat.rowPolyLengths
namespace Go.Proofs.YthhnadeoioeniaaGreat
theorem polyLengths_upto:Rows.PolyLengthsUptoSaid:=rowPolyLengths.holds
end Go.Proofs.YthhnadeoioeniaaGreat
