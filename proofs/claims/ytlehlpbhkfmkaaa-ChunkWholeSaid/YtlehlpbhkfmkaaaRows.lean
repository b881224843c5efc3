/-
  No cell of these rows narrows 'for every input' (looked for: loops, veiled, ifaces, maps, wideKeys, modest, calm, conditions, laid).
  DERIVED. THE GIVEN ROWS OF THIS SEAT. 8 by the template 'for every input the law returns true; each argument reads behind the call as it read before'; 0 by the template 'total and deterministic' (their statements: YtlehlpbhkfmkaaaTotals.lean).
  GIVEN WITH THE SEED: the statements are not yours to turn. If you find one false, say at which input.
  Laid BY PROGRAM, IN A SANDBOX (cutbox-rows.mjs): the forced cells as the released guide's own fill.sh prints them over the translation 14095f6a6c38a918… (all of the seat's roots in one cut). By AI agents, Wed Nov 11 2026. No macro, syntax, notation, axiom, sorry.
-/
import Derived.Test.YtlehlpbhkfmkaaaChecked
import GoSem.Claim
import GoSem.ClaimJoined
import GoSem.ClaimMapViews
import Derived.JoinedTies
import Derived.KernelRfl
namespace Go.Proofs.Ytlehlpbhkfmkaaa
/- THE CELL 'sum', in the pinned program and in every row, IS THE sha256 OF THE DUMP (.gsa) THAT YtlehlpbhkfmkaaaProg.lean LOADS. Nothing in Lean hashes anything: it is a label: what it is worth is what the hold of that sum in a sandbox is worth. -/
noncomputable def Try.pinned : Pinned := { name := "ytlehlpbhkfmkaaa", sum := "14095f6a6c38a91822f29937f9c740592069280d01207b6825b31686d9b0219a", checked := Try.checked }
namespace Rows
def none {H : Type} : Left H := { results := [], args := [] }

/-- 'regencylaw04.DigestTells': WHATEVER THE INPUT: true; the input reads as it did. -/
def digestTellsSpec : ChangeSpec := { name := "digestTells", fn := fun _ => fun
  | [d1, d2] => { results := [.lit (.bool true)], args := [d1, d2] }
  | _ => none }
def digestTellsRow : OpenClaim := { program := "ytlehlpbhkfmkaaa", sum := "14095f6a6c38a91822f29937f9c740592069280d01207b6825b31686d9b0219a", func := "regency/regencylaw04.DigestTells", spec := "digestTells", apart := false }
def DigestTellsSaid : Prop := digestTellsRow.holds Try.pinned (OpenSpec.ofChange digestTellsSpec)

/-- ITS FALSE NEIGHBOUR: 'it returns false'. Refute it at one input. -/
def digestTellsWrong : ChangeSpec := { name := "digestTells", fn := fun _ => fun
  | [d1, d2] => { results := [.lit (.bool false)], args := [d1, d2] }
  | _ => none }
def DigestTellsWrongFalsely : Prop := digestTellsRow.holds Try.pinned (OpenSpec.ofChange digestTellsWrong)

/-- 'regencylaw04.DigestStays': WHATEVER THE INPUT: true; the input reads as it did. -/
def digestStaysSpec : ChangeSpec := { name := "digestStays", fn := fun _ => fun
  | [d1, d2] => { results := [.lit (.bool true)], args := [d1, d2] }
  | _ => none }
def digestStaysRow : OpenClaim := { program := "ytlehlpbhkfmkaaa", sum := "14095f6a6c38a91822f29937f9c740592069280d01207b6825b31686d9b0219a", func := "regency/regencylaw04.DigestStays", spec := "digestStays", apart := false }
def DigestStaysSaid : Prop := digestStaysRow.holds Try.pinned (OpenSpec.ofChange digestStaysSpec)

/-- ITS FALSE NEIGHBOUR: 'it returns false'. Refute it at one input. -/
def digestStaysWrong : ChangeSpec := { name := "digestStays", fn := fun _ => fun
  | [d1, d2] => { results := [.lit (.bool false)], args := [d1, d2] }
  | _ => none }
def DigestStaysWrongFalsely : Prop := digestStaysRow.holds Try.pinned (OpenSpec.ofChange digestStaysWrong)

/-- 'regencylaw02.CrcSums': WHATEVER THE INPUT: true; the input reads as it did. -/
def crcSumsSpec : ChangeSpec := { name := "crcSums", fn := fun _ => fun
  | [d] => { results := [.lit (.bool true)], args := [d] }
  | _ => none }
def crcSumsRow : OpenClaim := { program := "ytlehlpbhkfmkaaa", sum := "14095f6a6c38a91822f29937f9c740592069280d01207b6825b31686d9b0219a", func := "regency/regencylaw02.CrcSums", spec := "crcSums", apart := false }
def CrcSumsSaid : Prop := crcSumsRow.holds Try.pinned (OpenSpec.ofChange crcSumsSpec)

/-- ITS FALSE NEIGHBOUR: 'it returns false'. Refute it at one input. -/
def crcSumsWrong : ChangeSpec := { name := "crcSums", fn := fun _ => fun
  | [d] => { results := [.lit (.bool false)], args := [d] }
  | _ => none }
def CrcSumsWrongFalsely : Prop := crcSumsRow.holds Try.pinned (OpenSpec.ofChange crcSumsWrong)

/-- 'regencylaw02.CrcSeals': WHATEVER THE INPUT: true; the input reads as it did. -/
def crcSealsSpec : ChangeSpec := { name := "crcSeals", fn := fun _ => fun
  | [d] => { results := [.lit (.bool true)], args := [d] }
  | _ => none }
def crcSealsRow : OpenClaim := { program := "ytlehlpbhkfmkaaa", sum := "14095f6a6c38a91822f29937f9c740592069280d01207b6825b31686d9b0219a", func := "regency/regencylaw02.CrcSeals", spec := "crcSeals", apart := false }
def CrcSealsSaid : Prop := crcSealsRow.holds Try.pinned (OpenSpec.ofChange crcSealsSpec)

/-- ITS FALSE NEIGHBOUR: 'it returns false'. Refute it at one input. -/
def crcSealsWrong : ChangeSpec := { name := "crcSeals", fn := fun _ => fun
  | [d] => { results := [.lit (.bool false)], args := [d] }
  | _ => none }
def CrcSealsWrongFalsely : Prop := crcSealsRow.holds Try.pinned (OpenSpec.ofChange crcSealsWrong)

/-- 'regencylaw02.CrcTold': WHATEVER THE INPUT: true; the input reads as it did. -/
def crcToldSpec : ChangeSpec := { name := "crcTold", fn := fun _ => fun
  | [d1, d2] => { results := [.lit (.bool true)], args := [d1, d2] }
  | _ => none }
def crcToldRow : OpenClaim := { program := "ytlehlpbhkfmkaaa", sum := "14095f6a6c38a91822f29937f9c740592069280d01207b6825b31686d9b0219a", func := "regency/regencylaw02.CrcTold", spec := "crcTold", apart := false }
def CrcToldSaid : Prop := crcToldRow.holds Try.pinned (OpenSpec.ofChange crcToldSpec)

/-- ITS FALSE NEIGHBOUR: 'it returns false'. Refute it at one input. -/
def crcToldWrong : ChangeSpec := { name := "crcTold", fn := fun _ => fun
  | [d1, d2] => { results := [.lit (.bool false)], args := [d1, d2] }
  | _ => none }
def CrcToldWrongFalsely : Prop := crcToldRow.holds Try.pinned (OpenSpec.ofChange crcToldWrong)

/-- 'regencylaw19.ChunkHeads': WHATEVER THE INPUT: true; the input reads as it did. -/
def chunkHeadsSpec : ChangeSpec := { name := "chunkHeads", fn := fun _ => fun
  | [d1, d2, d3] => { results := [.lit (.bool true)], args := [d1, d2, d3] }
  | _ => none }
def chunkHeadsRow : OpenClaim := { program := "ytlehlpbhkfmkaaa", sum := "14095f6a6c38a91822f29937f9c740592069280d01207b6825b31686d9b0219a", func := "regency/regencylaw19.ChunkHeads", spec := "chunkHeads", apart := false }
def ChunkHeadsSaid : Prop := chunkHeadsRow.holds Try.pinned (OpenSpec.ofChange chunkHeadsSpec)

/-- ITS FALSE NEIGHBOUR: 'it returns false'. Refute it at one input. -/
def chunkHeadsWrong : ChangeSpec := { name := "chunkHeads", fn := fun _ => fun
  | [d1, d2, d3] => { results := [.lit (.bool false)], args := [d1, d2, d3] }
  | _ => none }
def ChunkHeadsWrongFalsely : Prop := chunkHeadsRow.holds Try.pinned (OpenSpec.ofChange chunkHeadsWrong)

/-- 'regencylaw19.ChunkHeaps': WHATEVER THE INPUT: true; the input reads as it did. -/
def chunkHeapsSpec : ChangeSpec := { name := "chunkHeaps", fn := fun _ => fun
  | [d1, d2, d3] => { results := [.lit (.bool true)], args := [d1, d2, d3] }
  | _ => none }
def chunkHeapsRow : OpenClaim := { program := "ytlehlpbhkfmkaaa", sum := "14095f6a6c38a91822f29937f9c740592069280d01207b6825b31686d9b0219a", func := "regency/regencylaw19.ChunkHeaps", spec := "chunkHeaps", apart := false }
def ChunkHeapsSaid : Prop := chunkHeapsRow.holds Try.pinned (OpenSpec.ofChange chunkHeapsSpec)

/-- ITS FALSE NEIGHBOUR: 'it returns false'. Refute it at one input. -/
def chunkHeapsWrong : ChangeSpec := { name := "chunkHeaps", fn := fun _ => fun
  | [d1, d2, d3] => { results := [.lit (.bool false)], args := [d1, d2, d3] }
  | _ => none }
def ChunkHeapsWrongFalsely : Prop := chunkHeapsRow.holds Try.pinned (OpenSpec.ofChange chunkHeapsWrong)

/-- 'regencylaw19.ChunkWhole': WHATEVER THE INPUT: true; the input reads as it did. -/
def chunkWholeSpec : ChangeSpec := { name := "chunkWhole", fn := fun _ => fun
  | [d1, d2, d3] => { results := [.lit (.bool true)], args := [d1, d2, d3] }
  | _ => none }
def chunkWholeRow : OpenClaim := { program := "ytlehlpbhkfmkaaa", sum := "14095f6a6c38a91822f29937f9c740592069280d01207b6825b31686d9b0219a", func := "regency/regencylaw19.ChunkWhole", spec := "chunkWhole", apart := false }
def ChunkWholeSaid : Prop := chunkWholeRow.holds Try.pinned (OpenSpec.ofChange chunkWholeSpec)

/-- ITS FALSE NEIGHBOUR: 'it returns false'. Refute it at one input. -/
def chunkWholeWrong : ChangeSpec := { name := "chunkWhole", fn := fun _ => fun
  | [d1, d2, d3] => { results := [.lit (.bool false)], args := [d1, d2, d3] }
  | _ => none }
def ChunkWholeWrongFalsely : Prop := chunkWholeRow.holds Try.pinned (OpenSpec.ofChange chunkWholeWrong)

/- THE SECOND FORM. 'bulk': how many values and letters a reading holds, each counted each time it is reached (what is shared counts as often as it is met; a slice's spare places count too). A statement '..UptoSaid' is the law's where the arguments, and the package variables that the reading takes, are together of bulk at most 1048576: NARROWER than '..Said'. Prove '..Said' where nothing that the law and all that it calls make is longer than what came in: it says more and counts as full. Else prove '..UptoSaid'. A law counts once. -/
mutual
def uptoBulk {H : Type} : DataW H → Nat
  | .lit (.string bytes) => bytes.length + 1
  | .lit _ => 1
  | .nil => 1
  | .ptr d => uptoBulk d + 1
  | .slice elems spare => uptoBulkAll elems + uptoBulkAll spare + 1
  | .agg parts => uptoBulkAll parts + 1
  | .iface _ d => uptoBulk d + 1
  | .map entries => uptoBulkEntries entries + 1
  | .held _ => 1
def uptoBulkAll {H : Type} : List (DataW H) → Nat
  | [] => 0
  | d :: r => uptoBulk d + uptoBulkAll r
def uptoBulkEntries {H : Type} : List (Lit × DataW H) → Nat
  | [] => 0
  | x :: r => uptoBulkEntry x + uptoBulkEntries r
def uptoBulkEntry {H : Type} : Lit × DataW H → Nat
  | (.string bytes, d) => bytes.length + uptoBulk d + 1
  | (_, d) => uptoBulk d + 1
 end
def uptoSmall : (H : Type) → List (DataW H) → Bool := fun _ ds => decide (uptoBulkAll ds ≤ 1048576)
def OpenSpec.upto (s : _root_.Go.ChangeSpec) : _root_.Go.OpenSpec := { _root_.Go.OpenSpec.ofChange s with cond := some uptoSmall }

/-- 'regencylaw04.DigestTells', WHERE WHAT IT READS IS OF BULK AT MOST 1048576: true; the input reads as it did. -/
def digestTellsUptoRow : OpenClaim := { program := "ytlehlpbhkfmkaaa", sum := "14095f6a6c38a91822f29937f9c740592069280d01207b6825b31686d9b0219a", func := "regency/regencylaw04.DigestTells", spec := "digestTells", apart := false, narrowed := true }
def DigestTellsUptoSaid : Prop := digestTellsUptoRow.holds Try.pinned (OpenSpec.upto digestTellsSpec)

/-- 'regencylaw04.DigestStays', WHERE WHAT IT READS IS OF BULK AT MOST 1048576: true; the input reads as it did. -/
def digestStaysUptoRow : OpenClaim := { program := "ytlehlpbhkfmkaaa", sum := "14095f6a6c38a91822f29937f9c740592069280d01207b6825b31686d9b0219a", func := "regency/regencylaw04.DigestStays", spec := "digestStays", apart := false, narrowed := true }
def DigestStaysUptoSaid : Prop := digestStaysUptoRow.holds Try.pinned (OpenSpec.upto digestStaysSpec)

/-- 'regencylaw02.CrcSums', WHERE WHAT IT READS IS OF BULK AT MOST 1048576: true; the input reads as it did. -/
def crcSumsUptoRow : OpenClaim := { program := "ytlehlpbhkfmkaaa", sum := "14095f6a6c38a91822f29937f9c740592069280d01207b6825b31686d9b0219a", func := "regency/regencylaw02.CrcSums", spec := "crcSums", apart := false, narrowed := true }
def CrcSumsUptoSaid : Prop := crcSumsUptoRow.holds Try.pinned (OpenSpec.upto crcSumsSpec)

/-- 'regencylaw02.CrcSeals', WHERE WHAT IT READS IS OF BULK AT MOST 1048576: true; the input reads as it did. -/
def crcSealsUptoRow : OpenClaim := { program := "ytlehlpbhkfmkaaa", sum := "14095f6a6c38a91822f29937f9c740592069280d01207b6825b31686d9b0219a", func := "regency/regencylaw02.CrcSeals", spec := "crcSeals", apart := false, narrowed := true }
def CrcSealsUptoSaid : Prop := crcSealsUptoRow.holds Try.pinned (OpenSpec.upto crcSealsSpec)

/-- 'regencylaw02.CrcTold', WHERE WHAT IT READS IS OF BULK AT MOST 1048576: true; the input reads as it did. -/
def crcToldUptoRow : OpenClaim := { program := "ytlehlpbhkfmkaaa", sum := "14095f6a6c38a91822f29937f9c740592069280d01207b6825b31686d9b0219a", func := "regency/regencylaw02.CrcTold", spec := "crcTold", apart := false, narrowed := true }
def CrcToldUptoSaid : Prop := crcToldUptoRow.holds Try.pinned (OpenSpec.upto crcToldSpec)

/-- 'regencylaw19.ChunkHeads', WHERE WHAT IT READS IS OF BULK AT MOST 1048576: true; the input reads as it did. -/
def chunkHeadsUptoRow : OpenClaim := { program := "ytlehlpbhkfmkaaa", sum := "14095f6a6c38a91822f29937f9c740592069280d01207b6825b31686d9b0219a", func := "regency/regencylaw19.ChunkHeads", spec := "chunkHeads", apart := false, narrowed := true }
def ChunkHeadsUptoSaid : Prop := chunkHeadsUptoRow.holds Try.pinned (OpenSpec.upto chunkHeadsSpec)

/-- 'regencylaw19.ChunkHeaps', WHERE WHAT IT READS IS OF BULK AT MOST 1048576: true; the input reads as it did. -/
def chunkHeapsUptoRow : OpenClaim := { program := "ytlehlpbhkfmkaaa", sum := "14095f6a6c38a91822f29937f9c740592069280d01207b6825b31686d9b0219a", func := "regency/regencylaw19.ChunkHeaps", spec := "chunkHeaps", apart := false, narrowed := true }
def ChunkHeapsUptoSaid : Prop := chunkHeapsUptoRow.holds Try.pinned (OpenSpec.upto chunkHeapsSpec)

/-- 'regencylaw19.ChunkWhole', WHERE WHAT IT READS IS OF BULK AT MOST 1048576: true; the input reads as it did. -/
def chunkWholeUptoRow : OpenClaim := { program := "ytlehlpbhkfmkaaa", sum := "14095f6a6c38a91822f29937f9c740592069280d01207b6825b31686d9b0219a", func := "regency/regencylaw19.ChunkWhole", spec := "chunkWhole", apart := false, narrowed := true }
def ChunkWholeUptoSaid : Prop := chunkWholeUptoRow.holds Try.pinned (OpenSpec.upto chunkWholeSpec)

end Rows
end Go.Proofs.Ytlehlpbhkfmkaaa
