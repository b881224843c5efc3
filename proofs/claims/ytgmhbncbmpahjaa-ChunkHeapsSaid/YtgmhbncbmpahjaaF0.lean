/- Functions of the program, compiled, by a program (gen.py). -/
import Derived.Test.YtgmhbncbmpahjaaF1
set_option maxRecDepth 100000
namespace Go.Proofs.Ytgmhbncbmpahjaa.F
open Go.Proofs.Ytgmhbncbmpahjaa.M Go.Proofs Go.RowKit

def tblL : List (Nat × Def) := [(3, .code c_regencylaw19_ChunkHeaps),
  (4, .code c_regencylaw19_first),
  (5, .code c_chunk_New),
  (6, .code c_regencyref19_Right),
  (7, .code c_chunk_Heap_Put),
  (8, .code c_chunk_Heap_Missing),
  (9, .code c_chunk_Heap_Next),
  (10, .code c_regencyref19_New),
  (11, .code c_chunk_Cut),
  (12, .code c_regencyref19_Heap_Put),
  (13, .code c_chunk_Heap_Bytes),
  (14, .code c_regencyref19_Heap_Bytes),
  (15, .code c_regencyref19_Heap_Missing),
  (16, .code c_regencyref19_Heap_Next),
  (17, .code c_chunk_HeadOf),
  (18, .code c_chunk_Count),
  (19, .code c_chunk_Right),
  (20, .code c_chunk_Length),
  (21, .code c_bytes_Equal),
  (22, .prim p_slices_Clone_byte_byte),
  (23, .code c_regencyref19_Count),
  (24, .code c_regencyref19_Length),
  (25, .code c_digest_Of),
  (26, .code c_regencyref04_Of),
  (27, .code c_chunk_size),
  (28, .code c_digest_pair_take),
  (29, .code c_digest_pair_end),
  (30, .code c_regencyref04_Eight),
  (31, .code c_math_bits_RotateLeft32),
  (32, .code c_digest_pair_number)]
noncomputable def T : Tbl := fun f => tblL.lookup f
def allOk (P : Program) : List (Nat × Def) → Prop
  | [] => True
  | p :: r => OkDef P p.1 p.2 ∧ allOk P r
theorem allOk_get {P : Program} : ∀ {l : List (Nat × Def)}, allOk P l → ∀ f d, l.lookup f = some d → OkDef P f d
  | [], _, f, d, h => by simp at h
  | (g, e) :: l, ha, f, d, h => by
    rw [List.lookup_cons] at h
    by_cases hf : f = g
    · subst hf; simp at h; subst h; exact ha.1
    · have : (f == g) = false := by simpa using hf
      rw [this] at h; exact allOk_get ha.2 f d h
theorem okT : ∀ f d, T f = some d → OkDef Try.prog f d := allOk_get (l := tblL) ⟨is_regencylaw19_ChunkHeaps, is_regencylaw19_first, is_chunk_New, is_regencyref19_Right, is_chunk_Heap_Put, is_chunk_Heap_Missing, is_chunk_Heap_Next, is_regencyref19_New, is_chunk_Cut, is_regencyref19_Heap_Put, is_chunk_Heap_Bytes, is_regencyref19_Heap_Bytes, is_regencyref19_Heap_Missing, is_regencyref19_Heap_Next, is_chunk_HeadOf, is_chunk_Count, is_chunk_Right, is_chunk_Length, is_bytes_Equal, ok_slices_Clone_byte_byte, is_regencyref19_Count, is_regencyref19_Length, is_digest_Of, is_regencyref04_Of, is_chunk_size, is_digest_pair_take, is_digest_pair_end, is_regencyref04_Eight, is_math_bits_RotateLeft32, is_digest_pair_number, trivial⟩
theorem T_3 : T 3 = some (.code c_regencylaw19_ChunkHeaps) := rfl
theorem T_4 : T 4 = some (.code c_regencylaw19_first) := rfl
theorem T_5 : T 5 = some (.code c_chunk_New) := rfl
theorem T_6 : T 6 = some (.code c_regencyref19_Right) := rfl
theorem T_7 : T 7 = some (.code c_chunk_Heap_Put) := rfl
theorem T_8 : T 8 = some (.code c_chunk_Heap_Missing) := rfl
theorem T_9 : T 9 = some (.code c_chunk_Heap_Next) := rfl
theorem T_10 : T 10 = some (.code c_regencyref19_New) := rfl
theorem T_11 : T 11 = some (.code c_chunk_Cut) := rfl
theorem T_12 : T 12 = some (.code c_regencyref19_Heap_Put) := rfl
theorem T_13 : T 13 = some (.code c_chunk_Heap_Bytes) := rfl
theorem T_14 : T 14 = some (.code c_regencyref19_Heap_Bytes) := rfl
theorem T_15 : T 15 = some (.code c_regencyref19_Heap_Missing) := rfl
theorem T_16 : T 16 = some (.code c_regencyref19_Heap_Next) := rfl
theorem T_17 : T 17 = some (.code c_chunk_HeadOf) := rfl
theorem T_18 : T 18 = some (.code c_chunk_Count) := rfl
theorem T_19 : T 19 = some (.code c_chunk_Right) := rfl
theorem T_20 : T 20 = some (.code c_chunk_Length) := rfl
theorem T_21 : T 21 = some (.code c_bytes_Equal) := rfl
theorem T_22 : T 22 = some (.prim p_slices_Clone_byte_byte) := rfl
theorem T_23 : T 23 = some (.code c_regencyref19_Count) := rfl
theorem T_24 : T 24 = some (.code c_regencyref19_Length) := rfl
theorem T_25 : T 25 = some (.code c_digest_Of) := rfl
theorem T_26 : T 26 = some (.code c_regencyref04_Of) := rfl
theorem T_27 : T 27 = some (.code c_chunk_size) := rfl
theorem T_28 : T 28 = some (.code c_digest_pair_take) := rfl
theorem T_29 : T 29 = some (.code c_digest_pair_end) := rfl
theorem T_30 : T 30 = some (.code c_regencyref04_Eight) := rfl
theorem T_31 : T 31 = some (.code c_math_bits_RotateLeft32) := rfl
theorem T_32 : T 32 = some (.code c_digest_pair_number) := rfl
end Go.Proofs.Ytgmhbncbmpahjaa.F
