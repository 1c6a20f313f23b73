/- 'HttpPieces', the card: whatever bytes come, in whatever pieces, a connection tells the same requests and the same fault as at once. No condition beside the row's own. -/
import Derived.Test.YtpofpgejhnlfjaaGreatDoorHttpS
import Derived.Test.YtpofpgejhnlfjaaGreatDoorWit
import Derived.Deep.DeepWitnessRowRef
set_option linter.unusedVariables false
set_option maxRecDepth 1000000
namespace Go.Proofs.YtpofpgejhnlfjaaGreatDoor
open Go Go.RowKit Go.ChangeShapes Go.WideShapes

theorem pieces_reads (os : Os) {H : Type} (enc : TypeId × Value → H) : ∃ places, DataW.whole enc Tryz.prog (witW os #[.slice none 0 0, .slice none 0 0]) Tryz.f3.params.toList Rows.httpPiecesSpec.vars false #[Value.slice none 0 0, .slice none 0 0].toList 8 = some ([.nil, .nil], [], places) :=
  ⟨[], by kernel_rfl⟩
theorem pieces_lifted (os : Os) (started : os.Started) (H : Type) (enc : TypeId × Value → H) (F : Stop.Interp) :
    ReturnsInHanded {} Tryz.checked os 3 .any ((OpenSpec.ofChange Rows.httpPiecesSpec).preRow enc Tryz.prog Tryz.f3 Rows.httpPiecesRow.domain false Rows.httpPiecesRow.laid) (((OpenSpec.ofChange Rows.httpPiecesSpec).at F).post enc Tryz.prog Tryz.f3 false true false false) := by
  obtain ⟨places, hx⟩ := pieces_reads os enc
  refine returnsInHanded_of_row (C := Tryz.checked) (s := OpenSpec.ofChange Rows.httpPiecesSpec) own_knob started (by kernel_rfl) Tryz.func3
    (witness_row_atRef (enc := enc) (C := Tryz.checked) false (laidWorld os) #[.slice none 0 0, .slice none 0 0] rfl (by kernel_rfl) (by kernel_rfl) (by kernel_rfl)
      (OpenSpec.preRow_of_cond 8 hx (by kernel_rfl) (fun k hk => by cases hk) (by kernel_rfl) (laid_met os _))) ?_
  intro W base args ds gs before hval hW _ _ _ _ hS _
  exact pieces_row H enc W base args ds gs before hval hW hS
theorem pieces_said : Rows.HttpPiecesSaid :=
  OpenClaim.holds_of_cond 3 Tryz.f3 rfl rfl rfl rfl rfl rfl rfl ⟨rfl, rfl, rfl, rfl, rfl⟩ rfl rfl rfl rfl rfl (by kernel_rfl) Tryz.func3 (by kernel_rfl)
    (of_decide_eq_true (by kernel_rfl)) (by unfold Func.isWrapper; first | (rw [if_pos (by decide +kernel)]; kernel_rfl) | (rw [if_neg (by decide +kernel)]; exact ⟨rfl, rfl⟩))
    (fun os started H enc _ F => by rw [OpenClaim.pre_eq_preRow]; exact pieces_lifted os started H enc F)
theorem pieces_plain (f : FuncId) (fn : Func) (hf : Tryz.pinned.checked.prog.funcNamed "bootprint/bootprintlaw27.HttpPieces" = some f) (hfn : Tryz.pinned.checked.prog.funcs[f]? = some fn) :
    true = Tryz.pinned.checked.prog.looks [] ∧ ∀ (j : Nat) t, fn.params[j]? = some t → Tryz.pinned.checked.prog.wantsStandIn t = false := by
  obtain rfl : f = 3 := Option.some.inj ((show Tryz.prog.funcNamed "bootprint/bootprintlaw27.HttpPieces" = some 3 by kernel_rfl).symm.trans hf) |>.symm
  obtain rfl : fn = Tryz.f3 := (Option.some.inj (Tryz.func3.symm.trans hfn)).symm
  refine ⟨by kernel_rfl, fun j t ht => ?_⟩
  rw [Tryz.params3] at ht
  have hm := Array.mem_of_getElem? ht
  simp only [List.mem_toArray, List.mem_cons, List.mem_nil_iff, or_false] at hm
  rcases hm with rfl | rfl
  · exact (show Tryz.prog.wantsStandIn 22 = false by kernel_rfl)
  · exact (show Tryz.prog.wantsStandIn 23 = false by kernel_rfl)
theorem httpPieces_card : Rows.HttpPiecesCardSaid :=
  Claim7.holds_tied_plain_at .later [] _ _ _ _ pieces_said (fun _ h => by cases h) (by kernel_rfl) (fun _ h => by cases h) httpPieces_row_tie rfl ⟨rfl, rfl⟩ (by kernel_rfl) rfl pieces_plain (by kernel_rfl)
#print axioms httpPieces_card
end Go.Proofs.YtpofpgejhnlfjaaGreatDoor
