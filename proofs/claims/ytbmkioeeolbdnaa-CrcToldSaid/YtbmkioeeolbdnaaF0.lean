/- Functions of the program, compiled, by a program (gen.py). -/
import Derived.Test.YtbmkioeeolbdnaaF1
set_option maxRecDepth 100000
namespace Go.Proofs.Ytbmkioeeolbdnaa.F
open Go.Proofs.Ytbmkioeeolbdnaa.M Go.Proofs Go.RowKit

def tblL : List (Nat × Def) := [(3, .code c_regencylaw02_CrcTold),
  (4, .code c_regencylaw02_first),
  (5, .code c_crc_Seal),
  (6, .code c_crc_Open),
  (7, .code c_crc_Of),
  (8, .code c_slices_Clip_byte_byte),
  (9, .prim p_slices_Clone_byte_byte),
  (10, .code c_slices_Equal_byte_byte),
  (11, .code c_crc_Sum_Add),
  (12, .code c_crc_Sum_Value)]
noncomputable def T : Tbl := fun f => tblL.lookup f
def allOk (P : Program) : List (Nat × Def) → Prop
  | [] => True
  | p :: r => OkDef P p.1 p.2 ∧ allOk P r
theorem allOk_get {P : Program} : ∀ {l : List (Nat × Def)}, allOk P l → ∀ f d, l.lookup f = some d → OkDef P f d
  | [], _, f, d, h => by simp at h
  | (g, e) :: l, ha, f, d, h => by
    rw [List.lookup_cons] at h
    by_cases hf : f = g
    · subst hf; simp at h; subst h; exact ha.1
    · have : (f == g) = false := by simpa using hf
      rw [this] at h; exact allOk_get ha.2 f d h
theorem okT : ∀ f d, T f = some d → OkDef Try.prog f d := allOk_get (l := tblL) ⟨is_regencylaw02_CrcTold, is_regencylaw02_first, is_crc_Seal, is_crc_Open, is_crc_Of, is_slices_Clip_byte_byte, ok_slices_Clone_byte_byte, is_slices_Equal_byte_byte, is_crc_Sum_Add, is_crc_Sum_Value, trivial⟩
theorem T_3 : T 3 = some (.code c_regencylaw02_CrcTold) := rfl
theorem T_4 : T 4 = some (.code c_regencylaw02_first) := rfl
theorem T_5 : T 5 = some (.code c_crc_Seal) := rfl
theorem T_6 : T 6 = some (.code c_crc_Open) := rfl
theorem T_7 : T 7 = some (.code c_crc_Of) := rfl
theorem T_8 : T 8 = some (.code c_slices_Clip_byte_byte) := rfl
theorem T_9 : T 9 = some (.prim p_slices_Clone_byte_byte) := rfl
theorem T_10 : T 10 = some (.code c_slices_Equal_byte_byte) := rfl
theorem T_11 : T 11 = some (.code c_crc_Sum_Add) := rfl
theorem T_12 : T 12 = some (.code c_crc_Sum_Value) := rfl
end Go.Proofs.Ytbmkioeeolbdnaa.F
