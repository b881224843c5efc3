/- Functions of the program, compiled, by a program (gen.py). -/
import Derived.Test.YtjeigcnaalleiaaDoorF1
import Derived.Test.YtjeigcnaalleiaaDoorF2
set_option maxRecDepth 100000
namespace Go.Proofs.YtjeigcnaalleiaaDoor.F
open Go.Proofs.YtjeigcnaalleiaaDoor.M Go.Proofs Go.RowKit

def tblL : List (Nat × Def) := [(3, .code c_regencylaw08_PathGets),
  (4, .code c_regencylaw08_PathTells),
  (5, .code c_regencylaw08_PathBack),
  (7, .code c_regencylaw08_first),
  (8, .code c_tape_New),
  (9, .code c_path_Get),
  (10, .code c_regencyref08_Get),
  (11, .code c_regencyref08_Same),
  (12, .code c_tape_Tape_Left),
  (13, .code c_path_Parse),
  (14, .code c_regencyref08_Parse),
  (15, .code c_path_Right),
  (16, .code c_regencyref08_Right),
  (17, .prim ptextP),
  (18, .code c_regencyref08_Text),
  (19, .code c_path_Parent),
  (20, .code c_path_Child),
  (21, .code c_path_Put),
  (22, .code c_tape_Pen_Bytes),
  (23, .code c_regencyref08_Put),
  (24, .code c_path_Below),
  (25, .code c_path_Compare),
  (33, .prim p_slices_Clone_byte_byte),
  (34, .code c_tape_Tape_Number),
  (35, .code c_tape_Tape_Err),
  (36, .code c_regencyref03_Tape_Number),
  (37, .code c_strings_SplitSeq),
  (38, .prim (atoiP 126)),
  (39, .code c_slices_ContainsFunc_int_int),
  (40, .code c_path_Right_1),
  (41, .code c_path_number),
  (44, .prim itoaP),
  (46, .code c_regencyref01_Num),
  (47, .prim p_slices_Clone_int_int),
  (48, .code c_slices_Clip_int_int),
  (49, .code c_tape_Pen_Number),
  (50, .code c_regencyref03_Number),
  (51, .code c_slices_Equal_int_int),
  (52, .code c_slices_Compare_int_int),
  (58, .code c_tape_Tape_Text),
  (60, .code c_tape_Tape_number),
  (61, .code c_tape_Tape_fail),
  (62, .code c_fault_New),
  (63, .code c_strings_splitSeq),
  (66, .code c_slices_IndexFunc_int_int),
  (69, .code c_regencyref01_num),
  (70, .code c_cmp_Compare_int),
  (73, .code c_cats_Right),
  (76, .code c_tape_Tape_End),
  (77, .code c_fault_Wrap),
  (78, .code c_tape_Pen_Text),
  (79, .split),
  (81, .code c_strings_Index),
  (89, .code c_cmp_isNaN_int),
  (91, .code c_cats_Parse),
  (94, .prim index1P),
  (102, .code c_strings_Cut),
  (103, .code c_cats_number),
  (104, .code c_cats_Compare),
  (116, .code c_internal_stringslite_Cut),
  (117, .code c_cmp_Compare_string),
  (118, .code c_cmp_Or_int),
  (123, .code c_cmp_isNaN_string)]
noncomputable def T : Tbl := fun f => tblL.lookup f
def allOk (P : Program) : List (Nat × Def) → Prop
  | [] => True
  | p :: r => OkDef P p.1 p.2 ∧ allOk P r
theorem allOk_get {P : Program} : ∀ {l : List (Nat × Def)}, allOk P l → ∀ f d, l.lookup f = some d → OkDef P f d
  | [], _, f, d, h => by simp at h
  | (g, e) :: l, ha, f, d, h => by
    rw [List.lookup_cons] at h
    by_cases hf : f = g
    · subst hf; simp at h; subst h; exact ha.1
    · have : (f == g) = false := by simpa using hf
      rw [this] at h; exact allOk_get ha.2 f d h
theorem okT : ∀ f d, T f = some d → OkDef Tryd.prog f d := allOk_get (l := tblL) ⟨is_regencylaw08_PathGets, is_regencylaw08_PathTells, is_regencylaw08_PathBack, is_regencylaw08_first, is_tape_New, is_path_Get, is_regencyref08_Get, is_regencyref08_Same, is_tape_Tape_Left, is_path_Parse, is_regencyref08_Parse, is_path_Right, is_regencyref08_Right, ok_path_Text, is_regencyref08_Text, is_path_Parent, is_path_Child, is_path_Put, is_tape_Pen_Bytes, is_regencyref08_Put, is_path_Below, is_path_Compare, ok_slices_Clone_byte_byte, is_tape_Tape_Number, is_tape_Tape_Err, is_regencyref03_Tape_Number, is_strings_SplitSeq, ok_strconv_Atoi, is_slices_ContainsFunc_int_int, is_path_Right_1, is_path_number, ok_strconv_Itoa, is_regencyref01_Num, ok_slices_Clone_int_int, is_slices_Clip_int_int, is_tape_Pen_Number, is_regencyref03_Number, is_slices_Equal_int_int, is_slices_Compare_int_int, is_tape_Tape_Text, is_tape_Tape_number, is_tape_Tape_fail, is_fault_New, is_strings_splitSeq, is_slices_IndexFunc_int_int, is_regencyref01_num, is_cmp_Compare_int, is_cats_Right, is_tape_Tape_End, is_fault_Wrap, is_tape_Pen_Text, ok_strings_splitSeq_1, is_strings_Index, is_cmp_isNaN_int, is_cats_Parse, ok_internal_stringslite_Index, is_strings_Cut, is_cats_number, is_cats_Compare, is_internal_stringslite_Cut, is_cmp_Compare_string, is_cmp_Or_int, is_cmp_isNaN_string, trivial⟩
theorem T_3 : T 3 = some (.code c_regencylaw08_PathGets) := rfl
theorem T_4 : T 4 = some (.code c_regencylaw08_PathTells) := rfl
theorem T_5 : T 5 = some (.code c_regencylaw08_PathBack) := rfl
theorem T_7 : T 7 = some (.code c_regencylaw08_first) := rfl
theorem T_8 : T 8 = some (.code c_tape_New) := rfl
theorem T_9 : T 9 = some (.code c_path_Get) := rfl
theorem T_10 : T 10 = some (.code c_regencyref08_Get) := rfl
theorem T_11 : T 11 = some (.code c_regencyref08_Same) := rfl
theorem T_12 : T 12 = some (.code c_tape_Tape_Left) := rfl
theorem T_13 : T 13 = some (.code c_path_Parse) := rfl
theorem T_14 : T 14 = some (.code c_regencyref08_Parse) := rfl
theorem T_15 : T 15 = some (.code c_path_Right) := rfl
theorem T_16 : T 16 = some (.code c_regencyref08_Right) := rfl
theorem T_17 : T 17 = some (.prim ptextP) := rfl
theorem T_18 : T 18 = some (.code c_regencyref08_Text) := rfl
theorem T_19 : T 19 = some (.code c_path_Parent) := rfl
theorem T_20 : T 20 = some (.code c_path_Child) := rfl
theorem T_21 : T 21 = some (.code c_path_Put) := rfl
theorem T_22 : T 22 = some (.code c_tape_Pen_Bytes) := rfl
theorem T_23 : T 23 = some (.code c_regencyref08_Put) := rfl
theorem T_24 : T 24 = some (.code c_path_Below) := rfl
theorem T_25 : T 25 = some (.code c_path_Compare) := rfl
theorem T_33 : T 33 = some (.prim p_slices_Clone_byte_byte) := rfl
theorem T_34 : T 34 = some (.code c_tape_Tape_Number) := rfl
theorem T_35 : T 35 = some (.code c_tape_Tape_Err) := rfl
theorem T_36 : T 36 = some (.code c_regencyref03_Tape_Number) := rfl
theorem T_37 : T 37 = some (.code c_strings_SplitSeq) := rfl
theorem T_38 : T 38 = some (.prim (atoiP 126)) := rfl
theorem T_39 : T 39 = some (.code c_slices_ContainsFunc_int_int) := rfl
theorem T_40 : T 40 = some (.code c_path_Right_1) := rfl
theorem T_41 : T 41 = some (.code c_path_number) := rfl
theorem T_44 : T 44 = some (.prim itoaP) := rfl
theorem T_46 : T 46 = some (.code c_regencyref01_Num) := rfl
theorem T_47 : T 47 = some (.prim p_slices_Clone_int_int) := rfl
theorem T_48 : T 48 = some (.code c_slices_Clip_int_int) := rfl
theorem T_49 : T 49 = some (.code c_tape_Pen_Number) := rfl
theorem T_50 : T 50 = some (.code c_regencyref03_Number) := rfl
theorem T_51 : T 51 = some (.code c_slices_Equal_int_int) := rfl
theorem T_52 : T 52 = some (.code c_slices_Compare_int_int) := rfl
theorem T_58 : T 58 = some (.code c_tape_Tape_Text) := rfl
theorem T_60 : T 60 = some (.code c_tape_Tape_number) := rfl
theorem T_61 : T 61 = some (.code c_tape_Tape_fail) := rfl
theorem T_62 : T 62 = some (.code c_fault_New) := rfl
theorem T_63 : T 63 = some (.code c_strings_splitSeq) := rfl
theorem T_66 : T 66 = some (.code c_slices_IndexFunc_int_int) := rfl
theorem T_69 : T 69 = some (.code c_regencyref01_num) := rfl
theorem T_70 : T 70 = some (.code c_cmp_Compare_int) := rfl
theorem T_73 : T 73 = some (.code c_cats_Right) := rfl
theorem T_76 : T 76 = some (.code c_tape_Tape_End) := rfl
theorem T_77 : T 77 = some (.code c_fault_Wrap) := rfl
theorem T_78 : T 78 = some (.code c_tape_Pen_Text) := rfl
theorem T_79 : T 79 = some (.split) := rfl
theorem T_81 : T 81 = some (.code c_strings_Index) := rfl
theorem T_89 : T 89 = some (.code c_cmp_isNaN_int) := rfl
theorem T_91 : T 91 = some (.code c_cats_Parse) := rfl
theorem T_94 : T 94 = some (.prim index1P) := rfl
theorem T_102 : T 102 = some (.code c_strings_Cut) := rfl
theorem T_103 : T 103 = some (.code c_cats_number) := rfl
theorem T_104 : T 104 = some (.code c_cats_Compare) := rfl
theorem T_116 : T 116 = some (.code c_internal_stringslite_Cut) := rfl
theorem T_117 : T 117 = some (.code c_cmp_Compare_string) := rfl
theorem T_118 : T 118 = some (.code c_cmp_Or_int) := rfl
theorem T_123 : T 123 = some (.code c_cmp_isNaN_string) := rfl
end Go.Proofs.YtjeigcnaalleiaaDoor.F
