/- Functions of the program, compiled, by a program (gen.py). -/
import Derived.Test.YtlcflpanellbfaaGreatDoorF1
import Derived.Test.YtlcflpanellbfaaGreatDoorF2
set_option maxRecDepth 100000
namespace Go.Proofs.YtlcflpanellbfaaGreatDoor.F
open Go.Proofs.YtlcflpanellbfaaGreatDoor.M Go.Proofs Go.RowKit
def tblL : List (Nat × Def) := [(3, .code c_regencylaw11_CallTells),
  (5, .code c_regencylaw11_first),
  (6, .code c_regencylaw11_great),
  (7, .code c_regencyref11_Right),
  (8, .code c_regencyref11_Bytes),
  (9, .code c_call_Right),
  (10, .code c_call_Put),
  (11, .code c_tape_Pen_Bytes),
  (12, .code c_call_Bytes),
  (13, .code c_regencyref11_Same),
  (14, .code c_call_Plain),
  (15, .code c_regencyref11_Plain),
  (16, .code c_call_Same),
  (17, .code c_call_Get),
  (18, .code c_tape_New),
  (19, .code c_call_Parse),
  (20, .code c_fault_Code),
  (21, .code c_fault_Place),
  (22, .code c_fault_Has),
  (23, .code c_regencyref11_Parts),
  (24, .code c_regencyref11_has),
  (25, .code c_regencyref08_Right),
  (26, .code c_regencyref06_Right),
  (27, .code c_regencyref07_Right),
  (28, .code c_regencyref05_Get),
  (29, .code c_regencyref03_Number),
  (30, .code c_regencyref08_Put),
  (31, .code c_regencyref06_Put),
  (32, .code c_regencyref07_Put),
  (33, .code c_regencyref03_Text),
  (34, .code c_regencyref03_Flag),
  (35, .code c_call_known),
  (36, .code c_slices_ContainsFunc_call_part_call_part),
  (37, .code c_call_parts),
  (38, .code c_call_Right_1),
  (39, .code c_call_part_right),
  (40, .code c_tape_Pen_Number),
  (41, .code c_call_part_put),
  (42, .prim p_slices_Clone_byte_byte),
  (43, .code c_regencyref08_Same),
  (44, .code c_regencyref06_Same),
  (45, .code c_regencyref07_Same),
  (46, .prim p_slices_Clone_int_int),
  (47, .prim p_slices_Clone_api_Label_api_Entry),
  (48, .prim p_slices_Clone_string_string),
  (49, .code c_slices_Equal_int_int),
  (50, .code c_label_Same),
  (51, .code c_slices_Equal_string_string),
  (52, .code c_bytes_Equal),
  (53, .code c_tape_Tape_Left),
  (54, .code c_tape_Tape_Number),
  (55, .code c_call_part_get),
  (56, .code c_tape_Tape_Err),
  (57, .code c_tape_Tape_End),
  (58, .code c_fault_Wrap),
  (60, .prim (errIsP 92 40)),
  (61, .code c_regencyref06_isCat),
  (62, .code c_regencyref05_Compare),
  (63, .code c_regencyref05_Fits),
  (64, .code c_regencyref05_Text),
  (65, .code c_slices_IndexFunc_call_part_call_part),
  (66, .code c_path_Right),
  (67, .code c_label_Right),
  (68, .code c_call_number),
  (69, .code c_owns_Right),
  (70, .code c_cats_Right),
  (71, .code c_path_Put),
  (72, .code c_label_Put),
  (73, .code c_owns_Put),
  (74, .code c_tape_Pen_Text),
  (75, .code c_tape_Pen_Flag),
  (76, .code c_slices_Equal_api_Label_api_Entry),
  (77, .code c_tape_Tape_number),
  (78, .code c_tape_Tape_fail),
  (79, .code c_path_Get),
  (80, .code c_label_Get),
  (81, .code c_owns_Get),
  (82, .code c_tape_Tape_Text),
  (83, .code c_tape_Tape_Flag),
  (84, .code c_fault_New),
  (91, .code c_regencyref05_Ahead),
  (92, .code c_regencyref01_Num),
  (93, .code c_slices_ContainsFunc_int_int),
  (94, .code c_path_Right_1),
  (95, .code c_path_number),
  (96, .code c_label_at),
  (98, .code c_cats_Parse),
  (101, .code c_regencyref01_num),
  (102, .code c_slices_IndexFunc_int_int),
  (103, .code c_cats_Compare),
  (104, .code c_slices_DeleteFunc_string_string),
  (105, .code c_cats_Sort_1),
  (106, .code c_slices_SortFunc_string_string),
  (107, .code c_slices_Compact_string_string),
  (108, .code c_strings_Cut),
  (109, .code c_cats_number),
  (110, .code c_strings_SplitSeq),
  (111, .code c_cmp_Compare_string),
  (112, .code c_cmp_Or_int),
  (113, .code c_slices_Compare_int_int),
  (114, .code c_cmp_Compare_int),
  (115, .code c_slices_IndexFunc_string_string),
  (116, .code c_slices_pdqsortCmpFunc_string),
  (117, .code c_math_bits_Len),
  (118, .code c_internal_stringslite_Cut),
  (119, .prim (atoiP 197)),
  (120, .prim itoaP),
  (121, .code c_strings_splitSeq),
  (122, .code c_cmp_isNaN_string),
  (123, .code c_cmp_isNaN_int),
  (124, .code c_slices_insertionSortCmpFunc_string),
  (132, .code c_math_bits_Len32),
  (133, .code c_math_bits_Len64),
  (134, .prim index1P),
  (138, .split)]
noncomputable def T : Tbl := fun f => tblL.lookup f
def allOk (P : Program) : List (Nat × Def) → Prop
  | [] => True
  | p :: r => OkDef P p.1 p.2 ∧ allOk P r
theorem allOk_get {P : Program} : ∀ {l : List (Nat × Def)}, allOk P l → ∀ f d, l.lookup f = some d → OkDef P f d
  | [], _, f, d, h => by simp at h
  | (g, e) :: l, ha, f, d, h => by
    rw [List.lookup_cons] at h
    by_cases hf : f = g
    · subst hf; simp at h; subst h; exact ha.1
    · have : (f == g) = false := by simpa using hf
      rw [this] at h; exact allOk_get ha.2 f d h
theorem okT : ∀ f d, T f = some d → OkDef Tryz.prog f d := allOk_get (l := tblL) ⟨is_regencylaw11_CallTells, is_regencylaw11_first, is_regencylaw11_great, is_regencyref11_Right, is_regencyref11_Bytes, is_call_Right, is_call_Put, is_tape_Pen_Bytes, is_call_Bytes, is_regencyref11_Same, is_call_Plain, is_regencyref11_Plain, is_call_Same, is_call_Get, is_tape_New, is_call_Parse, is_fault_Code, is_fault_Place, is_fault_Has, is_regencyref11_Parts, is_regencyref11_has, is_regencyref08_Right, is_regencyref06_Right, is_regencyref07_Right, is_regencyref05_Get, is_regencyref03_Number, is_regencyref08_Put, is_regencyref06_Put, is_regencyref07_Put, is_regencyref03_Text, is_regencyref03_Flag, is_call_known, is_slices_ContainsFunc_call_part_call_part, is_call_parts, is_call_Right_1, is_call_part_right, is_tape_Pen_Number, is_call_part_put, ok_slices_Clone_byte_byte, is_regencyref08_Same, is_regencyref06_Same, is_regencyref07_Same, ok_slices_Clone_int_int, ok_slices_Clone_api_Label_api_Entry, ok_slices_Clone_string_string, is_slices_Equal_int_int, is_label_Same, is_slices_Equal_string_string, is_bytes_Equal, is_tape_Tape_Left, is_tape_Tape_Number, is_call_part_get, is_tape_Tape_Err, is_tape_Tape_End, is_fault_Wrap, ok_errors_Is, is_regencyref06_isCat, is_regencyref05_Compare, is_regencyref05_Fits, is_regencyref05_Text, is_slices_IndexFunc_call_part_call_part, is_path_Right, is_label_Right, is_call_number, is_owns_Right, is_cats_Right, is_path_Put, is_label_Put, is_owns_Put, is_tape_Pen_Text, is_tape_Pen_Flag, is_slices_Equal_api_Label_api_Entry, is_tape_Tape_number, is_tape_Tape_fail, is_path_Get, is_label_Get, is_owns_Get, is_tape_Tape_Text, is_tape_Tape_Flag, is_fault_New, is_regencyref05_Ahead, is_regencyref01_Num, is_slices_ContainsFunc_int_int, is_path_Right_1, is_path_number, is_label_at, is_cats_Parse, is_regencyref01_num, is_slices_IndexFunc_int_int, is_cats_Compare, is_slices_DeleteFunc_string_string, is_cats_Sort_1, is_slices_SortFunc_string_string, is_slices_Compact_string_string, is_strings_Cut, is_cats_number, is_strings_SplitSeq, is_cmp_Compare_string, is_cmp_Or_int, is_slices_Compare_int_int, is_cmp_Compare_int, is_slices_IndexFunc_string_string, is_slices_pdqsortCmpFunc_string, is_math_bits_Len, is_internal_stringslite_Cut, ok_strconv_Atoi, ok_strconv_Itoa, is_strings_splitSeq, is_cmp_isNaN_string, is_cmp_isNaN_int, is_slices_insertionSortCmpFunc_string, is_math_bits_Len32, is_math_bits_Len64, ok_internal_stringslite_Index, ok_strings_splitSeq_1, trivial⟩
theorem T_3 : T 3 = some (.code c_regencylaw11_CallTells) := rfl
theorem T_5 : T 5 = some (.code c_regencylaw11_first) := rfl
theorem T_6 : T 6 = some (.code c_regencylaw11_great) := rfl
theorem T_7 : T 7 = some (.code c_regencyref11_Right) := rfl
theorem T_8 : T 8 = some (.code c_regencyref11_Bytes) := rfl
theorem T_9 : T 9 = some (.code c_call_Right) := rfl
theorem T_10 : T 10 = some (.code c_call_Put) := rfl
theorem T_11 : T 11 = some (.code c_tape_Pen_Bytes) := rfl
theorem T_12 : T 12 = some (.code c_call_Bytes) := rfl
theorem T_13 : T 13 = some (.code c_regencyref11_Same) := rfl
theorem T_14 : T 14 = some (.code c_call_Plain) := rfl
theorem T_15 : T 15 = some (.code c_regencyref11_Plain) := rfl
theorem T_16 : T 16 = some (.code c_call_Same) := rfl
theorem T_17 : T 17 = some (.code c_call_Get) := rfl
theorem T_18 : T 18 = some (.code c_tape_New) := rfl
theorem T_19 : T 19 = some (.code c_call_Parse) := rfl
theorem T_20 : T 20 = some (.code c_fault_Code) := rfl
theorem T_21 : T 21 = some (.code c_fault_Place) := rfl
theorem T_22 : T 22 = some (.code c_fault_Has) := rfl
theorem T_23 : T 23 = some (.code c_regencyref11_Parts) := rfl
theorem T_24 : T 24 = some (.code c_regencyref11_has) := rfl
theorem T_25 : T 25 = some (.code c_regencyref08_Right) := rfl
theorem T_26 : T 26 = some (.code c_regencyref06_Right) := rfl
theorem T_27 : T 27 = some (.code c_regencyref07_Right) := rfl
theorem T_28 : T 28 = some (.code c_regencyref05_Get) := rfl
theorem T_29 : T 29 = some (.code c_regencyref03_Number) := rfl
theorem T_30 : T 30 = some (.code c_regencyref08_Put) := rfl
theorem T_31 : T 31 = some (.code c_regencyref06_Put) := rfl
theorem T_32 : T 32 = some (.code c_regencyref07_Put) := rfl
theorem T_33 : T 33 = some (.code c_regencyref03_Text) := rfl
theorem T_34 : T 34 = some (.code c_regencyref03_Flag) := rfl
theorem T_35 : T 35 = some (.code c_call_known) := rfl
theorem T_36 : T 36 = some (.code c_slices_ContainsFunc_call_part_call_part) := rfl
theorem T_37 : T 37 = some (.code c_call_parts) := rfl
theorem T_38 : T 38 = some (.code c_call_Right_1) := rfl
theorem T_39 : T 39 = some (.code c_call_part_right) := rfl
theorem T_40 : T 40 = some (.code c_tape_Pen_Number) := rfl
theorem T_41 : T 41 = some (.code c_call_part_put) := rfl
theorem T_42 : T 42 = some (.prim p_slices_Clone_byte_byte) := rfl
theorem T_43 : T 43 = some (.code c_regencyref08_Same) := rfl
theorem T_44 : T 44 = some (.code c_regencyref06_Same) := rfl
theorem T_45 : T 45 = some (.code c_regencyref07_Same) := rfl
theorem T_46 : T 46 = some (.prim p_slices_Clone_int_int) := rfl
theorem T_47 : T 47 = some (.prim p_slices_Clone_api_Label_api_Entry) := rfl
theorem T_48 : T 48 = some (.prim p_slices_Clone_string_string) := rfl
theorem T_49 : T 49 = some (.code c_slices_Equal_int_int) := rfl
theorem T_50 : T 50 = some (.code c_label_Same) := rfl
theorem T_51 : T 51 = some (.code c_slices_Equal_string_string) := rfl
theorem T_52 : T 52 = some (.code c_bytes_Equal) := rfl
theorem T_53 : T 53 = some (.code c_tape_Tape_Left) := rfl
theorem T_54 : T 54 = some (.code c_tape_Tape_Number) := rfl
theorem T_55 : T 55 = some (.code c_call_part_get) := rfl
theorem T_56 : T 56 = some (.code c_tape_Tape_Err) := rfl
theorem T_57 : T 57 = some (.code c_tape_Tape_End) := rfl
theorem T_58 : T 58 = some (.code c_fault_Wrap) := rfl
theorem T_60 : T 60 = some (.prim (errIsP 92 40)) := rfl
theorem T_61 : T 61 = some (.code c_regencyref06_isCat) := rfl
theorem T_62 : T 62 = some (.code c_regencyref05_Compare) := rfl
theorem T_63 : T 63 = some (.code c_regencyref05_Fits) := rfl
theorem T_64 : T 64 = some (.code c_regencyref05_Text) := rfl
theorem T_65 : T 65 = some (.code c_slices_IndexFunc_call_part_call_part) := rfl
theorem T_66 : T 66 = some (.code c_path_Right) := rfl
theorem T_67 : T 67 = some (.code c_label_Right) := rfl
theorem T_68 : T 68 = some (.code c_call_number) := rfl
theorem T_69 : T 69 = some (.code c_owns_Right) := rfl
theorem T_70 : T 70 = some (.code c_cats_Right) := rfl
theorem T_71 : T 71 = some (.code c_path_Put) := rfl
theorem T_72 : T 72 = some (.code c_label_Put) := rfl
theorem T_73 : T 73 = some (.code c_owns_Put) := rfl
theorem T_74 : T 74 = some (.code c_tape_Pen_Text) := rfl
theorem T_75 : T 75 = some (.code c_tape_Pen_Flag) := rfl
theorem T_76 : T 76 = some (.code c_slices_Equal_api_Label_api_Entry) := rfl
theorem T_77 : T 77 = some (.code c_tape_Tape_number) := rfl
theorem T_78 : T 78 = some (.code c_tape_Tape_fail) := rfl
theorem T_79 : T 79 = some (.code c_path_Get) := rfl
theorem T_80 : T 80 = some (.code c_label_Get) := rfl
theorem T_81 : T 81 = some (.code c_owns_Get) := rfl
theorem T_82 : T 82 = some (.code c_tape_Tape_Text) := rfl
theorem T_83 : T 83 = some (.code c_tape_Tape_Flag) := rfl
theorem T_84 : T 84 = some (.code c_fault_New) := rfl
theorem T_91 : T 91 = some (.code c_regencyref05_Ahead) := rfl
theorem T_92 : T 92 = some (.code c_regencyref01_Num) := rfl
theorem T_93 : T 93 = some (.code c_slices_ContainsFunc_int_int) := rfl
theorem T_94 : T 94 = some (.code c_path_Right_1) := rfl
theorem T_95 : T 95 = some (.code c_path_number) := rfl
theorem T_96 : T 96 = some (.code c_label_at) := rfl
theorem T_98 : T 98 = some (.code c_cats_Parse) := rfl
theorem T_101 : T 101 = some (.code c_regencyref01_num) := rfl
theorem T_102 : T 102 = some (.code c_slices_IndexFunc_int_int) := rfl
theorem T_103 : T 103 = some (.code c_cats_Compare) := rfl
theorem T_104 : T 104 = some (.code c_slices_DeleteFunc_string_string) := rfl
theorem T_105 : T 105 = some (.code c_cats_Sort_1) := rfl
theorem T_106 : T 106 = some (.code c_slices_SortFunc_string_string) := rfl
theorem T_107 : T 107 = some (.code c_slices_Compact_string_string) := rfl
theorem T_108 : T 108 = some (.code c_strings_Cut) := rfl
theorem T_109 : T 109 = some (.code c_cats_number) := rfl
theorem T_110 : T 110 = some (.code c_strings_SplitSeq) := rfl
theorem T_111 : T 111 = some (.code c_cmp_Compare_string) := rfl
theorem T_112 : T 112 = some (.code c_cmp_Or_int) := rfl
theorem T_113 : T 113 = some (.code c_slices_Compare_int_int) := rfl
theorem T_114 : T 114 = some (.code c_cmp_Compare_int) := rfl
theorem T_115 : T 115 = some (.code c_slices_IndexFunc_string_string) := rfl
theorem T_116 : T 116 = some (.code c_slices_pdqsortCmpFunc_string) := rfl
theorem T_117 : T 117 = some (.code c_math_bits_Len) := rfl
theorem T_118 : T 118 = some (.code c_internal_stringslite_Cut) := rfl
theorem T_119 : T 119 = some (.prim (atoiP 197)) := rfl
theorem T_120 : T 120 = some (.prim itoaP) := rfl
theorem T_121 : T 121 = some (.code c_strings_splitSeq) := rfl
theorem T_122 : T 122 = some (.code c_cmp_isNaN_string) := rfl
theorem T_123 : T 123 = some (.code c_cmp_isNaN_int) := rfl
theorem T_124 : T 124 = some (.code c_slices_insertionSortCmpFunc_string) := rfl
theorem T_132 : T 132 = some (.code c_math_bits_Len32) := rfl
theorem T_133 : T 133 = some (.code c_math_bits_Len64) := rfl
theorem T_134 : T 134 = some (.prim index1P) := rfl
theorem T_138 : T 138 = some (.split) := rfl
end Go.Proofs.YtlcflpanellbfaaGreatDoor.F
