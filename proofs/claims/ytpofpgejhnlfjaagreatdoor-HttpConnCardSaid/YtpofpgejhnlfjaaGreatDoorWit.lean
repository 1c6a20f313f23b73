/- The witness of the rows: a world in which the listed variables hold what their text lays. -/
import Derived.Test.YtpofpgejhnlfjaaGreatDoorCards
import Derived.Test.YtpofpgejhnlfjaaGreatDoorTie
import Derived.WalkKit
import Derived.ProofKit
import Derived.OpenShut
import Derived.Deep.DeepHandedRow
import Derived.Deep.DeepLaidRun
import Derived.Lib.LaidIn
import Derived.Great.CaseRows
import Derived.PinnedBridge
set_option linter.unusedVariables false
set_option maxRecDepth 1000000
namespace Go.Proofs.YtpofpgejhnlfjaaGreatDoor
open Go Go.RowKit

def lits1 : DataW Unit → List Value
  | .lit (.int k n) => [.int k n]
  | _ => []
def lits2 : DataW Unit → List Value
  | .agg ds => ds.flatMap lits1
  | d => lits1 d
def lits3 : DataW Unit → List Value
  | .agg ds => ds.flatMap lits2
  | d => lits1 d
def putG (h : Array Obj) (g : Nat) (cs : Array Value) : Array Obj := h.modify g fun
  | .cells _ t fr => .cells cs t fr
  | o => o
def errMsg (l : List UInt8) : Obj := .cells #[.string ⟨l.toArray⟩] 198
noncomputable def laidN (os : Os) : Nat := (World.settled Tryz.prog os).heap.size
noncomputable def laidWorld (os : Os) : World :=
  let w0 := World.holding Tryz.prog os ⟨#[errMsg [118, 97, 108, 117, 101, 32, 111, 117, 116, 32, 111, 102, 32, 114, 97, 110, 103, 101], errMsg [105, 110, 118, 97, 108, 105, 100, 32, 115, 121, 110, 116, 97, 120],
    .cells Lib.caseCells5 208], #[], []⟩
  let h1 := putG w0.heap 7 (lits3 Rows.laid_math_bits_deBruijn32tab).toArray
  let h2 := putG h1 8 (lits3 Rows.laid_math_bits_deBruijn64tab).toArray
  let h3 := putG h2 3 (lits3 Rows.laid_internal_strconv_uint64pow10).toArray
  let h4 := putG h3 2 (lits3 Rows.laid_unicode_utf8_acceptRanges).toArray
  let h5 := putG h4 5 #[.iface 196 (.pointer (some ⟨laidN os, 0, none⟩))]
  let h6 := putG h5 4 #[.iface 196 (.pointer (some ⟨laidN os + 1, 0, none⟩))]
  let h7 := putG h6 6 #[.slice (some ⟨laidN os + 2, 0, none⟩) Lib.caseT.length Lib.caseT.length]
  let h8 := putG h7 1 (Lib.firstTab.map fun z => Value.int .u8 z).toArray
  { w0 with heap := h8 }
noncomputable def witW (os : Os) (args : Array Value) : World := ((laidWorld os).forCall (fun _ _ => 0) ⟨#[], args, []⟩).memory
def laidA : List (String × DataW Unit) := [("math/bits.deBruijn32tab", Rows.laid_math_bits_deBruijn32tab), ("math/bits.deBruijn64tab", Rows.laid_math_bits_deBruijn64tab), ("internal/strconv.uint64pow10", Rows.laid_internal_strconv_uint64pow10), ("unicode/utf8.acceptRanges", Rows.laid_unicode_utf8_acceptRanges), ("strconv.ErrRange", Rows.laid_strconv_ErrRange), ("strconv.ErrSyntax", Rows.laid_strconv_ErrSyntax)]
def laidC : List (String × DataW Unit) := [("unicode/utf8.first", Go.Pinned.utf8First)]
theorem inA (os : Os) (args : Array Value) : LaidIn Tryz.prog (witW os args) laidA [7, 8, 3, 2, 5, 4, laidN os, laidN os + 1] :=
  LaidIn.of_run _ 12 (by kernel_rfl) (by kernel_rfl) (by kernel_rfl) (by kernel_rfl)
theorem inC (os : Os) (args : Array Value) : LaidIn Tryz.prog (witW os args) laidC [1] :=
  LaidIn.of_run _ 12 (by kernel_rfl) (by kernel_rfl) (by kernel_rfl) (by kernel_rfl)
theorem cTypes : Great.CTypes Tryz.prog 192 208 206 165 21 :=
  ⟨by kernel_rfl, by kernel_rfl, by kernel_rfl, by kernel_rfl, by kernel_rfl, by kernel_rfl, by kernel_rfl, by kernel_rfl, by kernel_rfl⟩
theorem inB (os : Os) (args : Array Value) : LaidIn Tryz.prog (witW os args) [("unicode.CaseRanges", Lib.caseData)] [6, laidN os + 2] :=
  Great.laidIn_case cTypes Lib.caseT (by kernel_rfl) (by kernel_rfl) (by rw [show Lib.caseT.length = 336 from Lib.caseA_size]; unfold maxLen; omega) Lib.rowsWf (tg := 192) (tb := 208) (by kernel_rfl) (by kernel_rfl) (of_decide_eq_true (by kernel_rfl))
theorem laid_all (os : Os) (args : Array Value) : laidMet Tryz.prog (laidA ++ ([("unicode.CaseRanges", Lib.caseData)] ++ laidC)) (witW os args) :=
  ((inA os args).append ((inB os args).append (inC os args) (by kernel_rfl)) (by kernel_rfl)).met
theorem laid_eq : (Rows.httpPiecesRow.laid : List (String × DataW Unit)) = laidA ++ ([("unicode.CaseRanges", Lib.caseData)] ++ laidC) := by
  rw [← Pinned.caseRanges_eq]
  rfl
theorem laid_met (os : Os) (args : Array Value) : laidMet Tryz.prog Rows.httpPiecesRow.laid (witW os args) := by
  rw [laid_eq]
  exact laid_all os args
end Go.Proofs.YtpofpgejhnlfjaaGreatDoor
