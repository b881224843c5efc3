/- Functions of the program, compiled, by a program (gen.py). -/
import Derived.Test.YtlehlpbhkfmkaaaF1
set_option maxRecDepth 100000
namespace Go.Proofs.Ytlehlpbhkfmkaaa.F
open Go.Proofs.Ytlehlpbhkfmkaaa.M Go.Proofs

def tblL : List (Nat × Def) := [(3, .code c_regencylaw04_DigestTells),
  (4, .code c_regencylaw04_DigestStays),
  (5, .code c_regencylaw02_CrcSums),
  (6, .code c_regencylaw02_CrcSeals),
  (7, .code c_regencylaw02_CrcTold),
  (8, .code c_regencylaw19_ChunkHeads),
  (9, .code c_regencylaw19_ChunkHeaps),
  (10, .code c_regencylaw19_ChunkWhole),
  (11, .code c_regencylaw04_first),
  (12, .code c_digest_Of),
  (13, .code c_regencyref04_Of),
  (14, .code c_digest_Chain),
  (15, .code c_regencyref04_Chain),
  (16, .code c_digest_Parts),
  (17, .code c_regencyref04_Parts),
  (18, .code c_regencylaw02_first),
  (19, .code c_crc_Sum_Add),
  (20, .code c_crc_Sum_Value),
  (21, .code c_regencyref02_Of),
  (22, .code c_crc_Of),
  (23, .code c_crc_Seal),
  (24, .code c_regencyref02_Seal),
  (25, .code c_crc_Open),
  (26, .code c_regencylaw19_first),
  (27, .code c_chunk_Right),
  (28, .code c_regencyref19_Right),
  (29, .code c_chunk_Count),
  (30, .code c_regencyref19_Count),
  (31, .code c_chunk_Length),
  (32, .code c_regencyref19_Length),
  (33, .code c_chunk_HeadOf),
  (34, .code c_chunk_Cut),
  (35, .code c_regencyref19_HeadOf),
  (36, .code c_chunk_New),
  (37, .code c_chunk_Heap_Put),
  (38, .code c_chunk_Heap_Missing),
  (39, .code c_chunk_Heap_Next),
  (41, .code c_regencyref19_Heap_Put),
  (42, .code c_chunk_Heap_Bytes),
  (43, .code c_regencyref19_Heap_Bytes),
  (44, .code c_regencyref19_Heap_Missing),
  (45, .code c_regencyref19_Heap_Next),
  (46, .code c_digest_pair_take),
  (47, .code c_digest_pair_end),
  (48, .code c_regencyref04_Eight),
  (49, .code c_digest_pair_number),
  (50, .code c_regencyref02_Bits),
  (51, .code c_slices_Clip_byte_byte),
  (52, .prim p_slices_Clone_byte_byte),
  (53, .code c_slices_Equal_byte_byte),
  (54, .code c_chunk_size),
  (55, .code c_bytes_Equal),
  (56, .code c_math_bits_RotateLeft32)]
noncomputable def T : Tbl := fun f => tblL.lookup f
def allOk (P : Program) : List (Nat × Def) → Prop
  | [] => True
  | p :: r => OkDef P p.1 p.2 ∧ allOk P r
theorem allOk_get {P : Program} : ∀ {l : List (Nat × Def)}, allOk P l → ∀ f d, l.lookup f = some d → OkDef P f d
  | [], _, f, d, h => by simp at h
  | (g, e) :: l, ha, f, d, h => by
    rw [List.lookup_cons] at h
    by_cases hf : f = g
    · subst hf; simp at h; subst h; exact ha.1
    · have : (f == g) = false := by simpa using hf
      rw [this] at h; exact allOk_get ha.2 f d h
theorem okT : ∀ f d, T f = some d → OkDef Try.prog f d := allOk_get (l := tblL) ⟨is_regencylaw04_DigestTells, is_regencylaw04_DigestStays, is_regencylaw02_CrcSums, is_regencylaw02_CrcSeals, is_regencylaw02_CrcTold, is_regencylaw19_ChunkHeads, is_regencylaw19_ChunkHeaps, is_regencylaw19_ChunkWhole, is_regencylaw04_first, is_digest_Of, is_regencyref04_Of, is_digest_Chain, is_regencyref04_Chain, is_digest_Parts, is_regencyref04_Parts, is_regencylaw02_first, is_crc_Sum_Add, is_crc_Sum_Value, is_regencyref02_Of, is_crc_Of, is_crc_Seal, is_regencyref02_Seal, is_crc_Open, is_regencylaw19_first, is_chunk_Right, is_regencyref19_Right, is_chunk_Count, is_regencyref19_Count, is_chunk_Length, is_regencyref19_Length, is_chunk_HeadOf, is_chunk_Cut, is_regencyref19_HeadOf, is_chunk_New, is_chunk_Heap_Put, is_chunk_Heap_Missing, is_chunk_Heap_Next, is_regencyref19_Heap_Put, is_chunk_Heap_Bytes, is_regencyref19_Heap_Bytes, is_regencyref19_Heap_Missing, is_regencyref19_Heap_Next, is_digest_pair_take, is_digest_pair_end, is_regencyref04_Eight, is_digest_pair_number, is_regencyref02_Bits, is_slices_Clip_byte_byte, ok_slices_Clone_byte_byte, is_slices_Equal_byte_byte, is_chunk_size, is_bytes_Equal, is_math_bits_RotateLeft32, trivial⟩
theorem T_3 : T 3 = some (.code c_regencylaw04_DigestTells) := rfl
theorem T_4 : T 4 = some (.code c_regencylaw04_DigestStays) := rfl
theorem T_5 : T 5 = some (.code c_regencylaw02_CrcSums) := rfl
theorem T_6 : T 6 = some (.code c_regencylaw02_CrcSeals) := rfl
theorem T_7 : T 7 = some (.code c_regencylaw02_CrcTold) := rfl
theorem T_8 : T 8 = some (.code c_regencylaw19_ChunkHeads) := rfl
theorem T_9 : T 9 = some (.code c_regencylaw19_ChunkHeaps) := rfl
theorem T_10 : T 10 = some (.code c_regencylaw19_ChunkWhole) := rfl
theorem T_11 : T 11 = some (.code c_regencylaw04_first) := rfl
theorem T_12 : T 12 = some (.code c_digest_Of) := rfl
theorem T_13 : T 13 = some (.code c_regencyref04_Of) := rfl
theorem T_14 : T 14 = some (.code c_digest_Chain) := rfl
theorem T_15 : T 15 = some (.code c_regencyref04_Chain) := rfl
theorem T_16 : T 16 = some (.code c_digest_Parts) := rfl
theorem T_17 : T 17 = some (.code c_regencyref04_Parts) := rfl
theorem T_18 : T 18 = some (.code c_regencylaw02_first) := rfl
theorem T_19 : T 19 = some (.code c_crc_Sum_Add) := rfl
theorem T_20 : T 20 = some (.code c_crc_Sum_Value) := rfl
theorem T_21 : T 21 = some (.code c_regencyref02_Of) := rfl
theorem T_22 : T 22 = some (.code c_crc_Of) := rfl
theorem T_23 : T 23 = some (.code c_crc_Seal) := rfl
theorem T_24 : T 24 = some (.code c_regencyref02_Seal) := rfl
theorem T_25 : T 25 = some (.code c_crc_Open) := rfl
theorem T_26 : T 26 = some (.code c_regencylaw19_first) := rfl
theorem T_27 : T 27 = some (.code c_chunk_Right) := rfl
theorem T_28 : T 28 = some (.code c_regencyref19_Right) := rfl
theorem T_29 : T 29 = some (.code c_chunk_Count) := rfl
theorem T_30 : T 30 = some (.code c_regencyref19_Count) := rfl
theorem T_31 : T 31 = some (.code c_chunk_Length) := rfl
theorem T_32 : T 32 = some (.code c_regencyref19_Length) := rfl
theorem T_33 : T 33 = some (.code c_chunk_HeadOf) := rfl
theorem T_34 : T 34 = some (.code c_chunk_Cut) := rfl
theorem T_35 : T 35 = some (.code c_regencyref19_HeadOf) := rfl
theorem T_36 : T 36 = some (.code c_chunk_New) := rfl
theorem T_37 : T 37 = some (.code c_chunk_Heap_Put) := rfl
theorem T_38 : T 38 = some (.code c_chunk_Heap_Missing) := rfl
theorem T_39 : T 39 = some (.code c_chunk_Heap_Next) := rfl
theorem T_41 : T 41 = some (.code c_regencyref19_Heap_Put) := rfl
theorem T_42 : T 42 = some (.code c_chunk_Heap_Bytes) := rfl
theorem T_43 : T 43 = some (.code c_regencyref19_Heap_Bytes) := rfl
theorem T_44 : T 44 = some (.code c_regencyref19_Heap_Missing) := rfl
theorem T_45 : T 45 = some (.code c_regencyref19_Heap_Next) := rfl
theorem T_46 : T 46 = some (.code c_digest_pair_take) := rfl
theorem T_47 : T 47 = some (.code c_digest_pair_end) := rfl
theorem T_48 : T 48 = some (.code c_regencyref04_Eight) := rfl
theorem T_49 : T 49 = some (.code c_digest_pair_number) := rfl
theorem T_50 : T 50 = some (.code c_regencyref02_Bits) := rfl
theorem T_51 : T 51 = some (.code c_slices_Clip_byte_byte) := rfl
theorem T_52 : T 52 = some (.prim p_slices_Clone_byte_byte) := rfl
theorem T_53 : T 53 = some (.code c_slices_Equal_byte_byte) := rfl
theorem T_54 : T 54 = some (.code c_chunk_size) := rfl
theorem T_55 : T 55 = some (.code c_bytes_Equal) := rfl
theorem T_56 : T 56 = some (.code c_math_bits_RotateLeft32) := rfl
end Go.Proofs.Ytlehlpbhkfmkaaa.F
