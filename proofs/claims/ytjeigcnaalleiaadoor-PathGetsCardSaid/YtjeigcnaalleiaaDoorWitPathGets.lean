/- A world that holds what the row's list of package variables says. -/
import Derived.Test.YtjeigcnaalleiaaDoorRows
import Derived.ProofKit
import Derived.LaidLaws
import Derived.Deep.DeepHandedRow
namespace Go.Proofs.YtjeigcnaalleiaaDoor.wit
open Go.ChangeShapes Go.WideShapes Go.ChangeAt Go.RowKit
/-- The cells of a datum of whole numbers. -/
def flat : Nat → DataW Unit → List Value
  | 0, _ => []
  | _ + 1, .lit (.int k n) => [.int k n]
  | f + 1, .agg l => l.flatMap (flat f)
  | _ + 1, _ => []
def lay (cs : List Value) : Obj → Obj
  | .cells _ t frozen => .cells cs.toArray t frozen
  | o => o
def str (l : List UInt8) : Value := .string ⟨l.toArray⟩
noncomputable def laidWorld (os : Os) : World :=
  let w := World.holding Tryd.prog os ⟨#[], #[], []⟩
  let n := w.heap.size
  let hp := w.heap
  let hp := hp.modify 2 (lay (flat 3 Rows.laid_unicode_utf8_first))
  let hp := hp.modify 3 (lay (flat 3 Rows.laid_unicode_utf8_acceptRanges))
  let hp := hp.modify 5 (lay (flat 3 Rows.laid_internal_strconv_uint64pow10))
  let hp := hp.modify 6 (lay (flat 3 Rows.laid_math_bits_deBruijn32tab))
  let hp := hp.modify 7 (lay (flat 3 Rows.laid_math_bits_deBruijn64tab))
  let hp := hp.modify 0 (lay [.iface 163 (.pointer (some ⟨n, 0, none⟩))])
  let hp := hp.modify 1 (lay [.iface 163 (.pointer (some ⟨n + 1, 0, none⟩))])
  { w with heap := hp ++ #[.cells #[str [105, 110, 118, 97, 108, 105, 100, 32, 115, 121, 110, 116, 97, 120]] 165 (0, 0), .cells #[str [118, 97, 108, 117, 101, 32, 111, 117, 116, 32, 111, 102, 32, 114, 97, 110, 103, 101]] 165 (0, 0)] }
set_option maxRecDepth 100000 in
theorem laid_met (os : Os) : laidMet Tryd.prog Rows.pathGetsRow.laid ((laidWorld os).forCall (fun _ _ => 0) ⟨#[], #[.slice none 0 0], []⟩).memory :=
  laidMet_of_run' 8 (by kernel_rfl) (by kernel_rfl)
theorem reads (os : Os) {H : Type} (enc : TypeId × Value → H) : ∃ places, DataW.whole enc Tryd.prog ((laidWorld os).forCall (fun _ _ => 0) ⟨#[], #[.slice none 0 0], []⟩).memory Tryd.f3.params.toList Rows.pathGetsSpec.vars false (#[.slice none 0 0] : Array Value).toList 8 = some ([.nil], [], places) :=
  ⟨[], by kernel_rfl⟩
end Go.Proofs.YtjeigcnaalleiaaDoor.wit
