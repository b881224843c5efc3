/- A world that holds what the row's list of package variables says. -/
import Derived.Test.YtibchilpaaiecaaGreatDoorRows
import Derived.ProofKit
import Derived.LaidLaws
import Derived.Deep.DeepHandedRow
import Derived.LaidSub
namespace Go.Proofs.YtibchilpaaiecaaGreatDoor.wit
open Go.ChangeShapes Go.WideShapes Go.ChangeAt Go.RowKit
def flat : Nat → DataW Unit → List Value
 | 0, _ => []
 | _ + 1, .lit (.int k n) => [.int k n]
 | f + 1, .agg l => l.flatMap (flat f)
 | _ + 1, _ => []
def lay (cs : List Value) : Obj → Obj
 | .cells _ t frozen => .cells cs.toArray t frozen
 | o => o
def str (l : List UInt8) : Value := .string ⟨l.toArray⟩
noncomputable def pZ (os : Os) : World :=
 let w := World.holding Tryz.prog os ⟨#[], #[], []⟩
 let n := w.heap.size
 let hp := w.heap
 let hp := hp.modify 4 (lay (flat 3 Rows.laid_unicode_utf8_first))
 let hp := hp.modify 5 (lay (flat 3 Rows.laid_unicode_utf8_acceptRanges))
 let hp := hp.modify 6 (lay (flat 3 Rows.laid_internal_strconv_uint64pow10))
 let hp := hp.modify 7 (lay (flat 3 Rows.laid_math_bits_deBruijn32tab))
 let hp := hp.modify 8 (lay (flat 3 Rows.laid_math_bits_deBruijn64tab))
 let hp := hp.modify 2 (lay [.iface 205 (.pointer (some ⟨n, 0, none⟩))])
 let hp := hp.modify 3 (lay [.iface 205 (.pointer (some ⟨n + 1, 0, none⟩))])
 let hp := hp.modify 0 (lay [.iface 158 (.agg #[.pointer (some ⟨9, 35, none⟩)])])
 { w with heap := hp ++ #[.cells #[str [105, 110, 118, 97, 108, 105, 100, 32, 115, 121, 110, 116, 97, 120]] 207 (0, 0), .cells #[str [118, 97, 108, 117, 101, 32, 111, 117, 116, 32, 111, 102, 32, 114, 97, 110, 103, 101]] 207 (0, 0)] }
theorem wj : (Rows.speechParsesRow.laid.filter fun x => x.2.handleName?.isSome) = [("errors.errorType", Rows.laid_errors_errorType)] := by kernel_rfl
set_option maxRecDepth 100000 in
theorem ES (os : Os) : laidMetH Tryz.prog Rows.speechParsesRow.laid ((pZ os).forCall (fun _ _ => 0) ⟨#[], #[.string ByteArray.empty], []⟩).memory := by
 refine laidMetH_iff.2 ⟨laidMet_of_run' (l := Rows.speechParsesRow.laid.filter fun x => x.2.handleName?.isNone) 8 (by kernel_rfl) (by kernel_rfl), ?_⟩
 rw [wj]
 intro x hx
 obtain rfl := List.mem_singleton.1 hx
 exact ⟨[101, 114, 114, 111, 114], 158, 35, by kernel_rfl, by kernel_rfl, by decide +kernel, by kernel_rfl, by kernel_rfl⟩
theorem reads (os : Os) {H : Type} (enc : TypeId × Value → H) : ∃ places, DataW.whole enc Tryz.prog ((pZ os).forCall (fun _ _ => 0) ⟨#[], #[.string ByteArray.empty], []⟩).memory Tryz.f5.params.toList Rows.speechParsesSpec.vars false #[.string ByteArray.empty].toList 8 = some ([.lit (.string [])], [], places) :=
 ⟨[], by kernel_rfl⟩
end Go.Proofs.YtibchilpaaiecaaGreatDoor.wit
