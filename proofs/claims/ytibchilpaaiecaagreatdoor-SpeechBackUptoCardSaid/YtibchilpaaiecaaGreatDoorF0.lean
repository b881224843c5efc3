/- Functions of the program, compiled, by a program (gen.py). -/
import Derived.Test.YtibchilpaaiecaaGreatDoorF1
import Derived.Test.YtibchilpaaiecaaGreatDoorF2
set_option maxRecDepth 100000
namespace Go.Proofs.YtibchilpaaiecaaGreatDoor.F
open Go.Proofs.YtibchilpaaiecaaGreatDoor.M Go.Proofs Go.RowKit
def tblL : List (Nat × Def) := [(4, .code c_regencylaw37_SpeechBack),
  (6, .code c_regencylaw37_first),
  (7, .code c_regencylaw37_great),
  (8, .code c_speech_Name),
  (10, .code c_speech_Text),
  (12, .code c_call_Right),
  (13, .code c_speech_Parse),
  (14, .code c_call_Same),
  (16, .code c_speech_Label),
  (18, .code c_speech_Own),
  (21, .code c_fault_Code),
  (22, .code c_fault_Place),
  (26, .code c_speech_names),
  (27, .code c_speech_forms),
  (28, .code c_speech_word),
  (29, .prim joinP),
  (33, .code c_regencyref06_Text),
  (34, .code c_regencyref01_Num),
  (36, .code c_call_known),
  (37, .code c_call_Plain),
  (38, .code c_slices_ContainsFunc_call_part_call_part),
  (39, .code c_call_parts),
  (40, .code c_call_Right_1),
  (41, .code c_call_part_right),
  (42, .prim splP),
  (43, .code c_slices_Index_string_string),
  (44, .code c_fault_New),
  (45, .code c_speech_part),
  (46, .code c_slices_Equal_int_int),
  (47, .code c_label_Same),
  (48, .code c_slices_Equal_string_string),
  (49, .code c_bytes_Equal),
  (54, .code c_regencyref05_Get),
  (55, .code c_strings_SplitSeq),
  (56, .code c_strings_Cut),
  (57, .prim (atoiP 151)),
  (58, .code c_label_Right),
  (59, .code c_label_Text),
  (61, .code c_owns_Right),
  (63, .code c_regencyref08_Same),
  (66, .code c_speech_way),
  (67, .prim itoaP),
  (68, .code c_speech_own),
  (69, .code c_speech_bytes),
  (76, .code c_regencyref01_num),
  (77, .prim p_slices_Clone_int_int),
  (78, .prim p_slices_Clone_api_Label_api_Entry),
  (79, .prim p_slices_Clone_string_string),
  (80, .prim p_slices_Clone_byte_byte),
  (81, .code c_slices_IndexFunc_call_part_call_part),
  (82, .code c_path_Right),
  (83, .code c_call_number),
  (84, .code c_cats_Right),
  (86, .code c_fault_Wrap),
  (87, .code c_speech_from),
  (88, .code c_speech_text),
  (89, .code c_slices_Equal_api_Label_api_Entry),
  (91, .code c_regencyref05_Fits),
  (92, .code c_regencyref05_Text),
  (93, .code c_strings_splitSeq),
  (94, .code c_internal_stringslite_Cut),
  (97, .code c_label_at),
  (98, .code c_regencyref06_isCat),
  (105, .prim ptextP),
  (109, .code c_slices_ContainsFunc_int_int),
  (110, .code c_path_Right_1),
  (111, .code c_path_number),
  (112, .code c_cats_Parse),
  (116, .code c_path_Parse),
  (117, .prim ixbP),
  (118, .split),
  (120, .prim index1P),
  (126, .code c_cats_Compare),
  (128, .code c_slices_DeleteFunc_string_string),
  (129, .code c_cats_Sort_1),
  (130, .code c_slices_SortFunc_string_string),
  (131, .code c_slices_Compact_string_string),
  (139, .code c_slices_IndexFunc_int_int),
  (140, .code c_cats_number),
  (151, .code c_cmp_Compare_string),
  (152, .code c_cmp_Or_int),
  (153, .code c_slices_Compare_int_int),
  (154, .code c_cmp_Compare_int),
  (155, .code c_slices_IndexFunc_string_string),
  (156, .code c_slices_pdqsortCmpFunc_string),
  (157, .code c_math_bits_Len),
  (166, .code c_cmp_isNaN_string),
  (167, .code c_cmp_isNaN_int),
  (168, .code c_slices_insertionSortCmpFunc_string),
  (176, .code c_math_bits_Len32),
  (177, .code c_math_bits_Len64)]
noncomputable def T : Tbl := fun f => tblL.lookup f
def allOk (P : Program) : List (Nat × Def) → Prop
  | [] => True
  | p :: r => OkDef P p.1 p.2 ∧ allOk P r
theorem allOk_get {P : Program} : ∀ {l : List (Nat × Def)}, allOk P l → ∀ f d, l.lookup f = some d → OkDef P f d
  | [], _, f, d, h => by simp at h
  | (g, e) :: l, ha, f, d, h => by
    rw [List.lookup_cons] at h
    by_cases hf : f = g
    · subst hf; simp at h; subst h; exact ha.1
    · have : (f == g) = false := by simpa using hf
      rw [this] at h; exact allOk_get ha.2 f d h
theorem okT : ∀ f d, T f = some d → OkDef Tryz.prog f d := allOk_get (l := tblL) ⟨is_regencylaw37_SpeechBack, is_regencylaw37_first, is_regencylaw37_great, is_speech_Name, is_speech_Text, is_call_Right, is_speech_Parse, is_call_Same, is_speech_Label, is_speech_Own, is_fault_Code, is_fault_Place, is_speech_names, is_speech_forms, is_speech_word, ok_strings_Join, is_regencyref06_Text, is_regencyref01_Num, is_call_known, is_call_Plain, is_slices_ContainsFunc_call_part_call_part, is_call_parts, is_call_Right_1, is_call_part_right, ok_strings_Split, is_slices_Index_string_string, is_fault_New, is_speech_part, is_slices_Equal_int_int, is_label_Same, is_slices_Equal_string_string, is_bytes_Equal, is_regencyref05_Get, is_strings_SplitSeq, is_strings_Cut, ok_strconv_Atoi, is_label_Right, is_label_Text, is_owns_Right, is_regencyref08_Same, is_speech_way, ok_strconv_Itoa, is_speech_own, is_speech_bytes, is_regencyref01_num, ok_slices_Clone_int_int, ok_slices_Clone_api_Label_api_Entry, ok_slices_Clone_string_string, ok_slices_Clone_byte_byte, is_slices_IndexFunc_call_part_call_part, is_path_Right, is_call_number, is_cats_Right, is_fault_Wrap, is_speech_from, is_speech_text, is_slices_Equal_api_Label_api_Entry, is_regencyref05_Fits, is_regencyref05_Text, is_strings_splitSeq, is_internal_stringslite_Cut, is_label_at, is_regencyref06_isCat, ok_path_Text, is_slices_ContainsFunc_int_int, is_path_Right_1, is_path_number, is_cats_Parse, is_path_Parse, ok_strings_IndexByte, ok_strings_splitSeq_1, ok_internal_stringslite_Index, is_cats_Compare, is_slices_DeleteFunc_string_string, is_cats_Sort_1, is_slices_SortFunc_string_string, is_slices_Compact_string_string, is_slices_IndexFunc_int_int, is_cats_number, is_cmp_Compare_string, is_cmp_Or_int, is_slices_Compare_int_int, is_cmp_Compare_int, is_slices_IndexFunc_string_string, is_slices_pdqsortCmpFunc_string, is_math_bits_Len, is_cmp_isNaN_string, is_cmp_isNaN_int, is_slices_insertionSortCmpFunc_string, is_math_bits_Len32, is_math_bits_Len64, trivial⟩
theorem T_4 : T 4 = some (.code c_regencylaw37_SpeechBack) := rfl
theorem T_6 : T 6 = some (.code c_regencylaw37_first) := rfl
theorem T_7 : T 7 = some (.code c_regencylaw37_great) := rfl
theorem T_8 : T 8 = some (.code c_speech_Name) := rfl
theorem T_10 : T 10 = some (.code c_speech_Text) := rfl
theorem T_12 : T 12 = some (.code c_call_Right) := rfl
theorem T_13 : T 13 = some (.code c_speech_Parse) := rfl
theorem T_14 : T 14 = some (.code c_call_Same) := rfl
theorem T_16 : T 16 = some (.code c_speech_Label) := rfl
theorem T_18 : T 18 = some (.code c_speech_Own) := rfl
theorem T_21 : T 21 = some (.code c_fault_Code) := rfl
theorem T_22 : T 22 = some (.code c_fault_Place) := rfl
theorem T_26 : T 26 = some (.code c_speech_names) := rfl
theorem T_27 : T 27 = some (.code c_speech_forms) := rfl
theorem T_28 : T 28 = some (.code c_speech_word) := rfl
theorem T_29 : T 29 = some (.prim joinP) := rfl
theorem T_33 : T 33 = some (.code c_regencyref06_Text) := rfl
theorem T_34 : T 34 = some (.code c_regencyref01_Num) := rfl
theorem T_36 : T 36 = some (.code c_call_known) := rfl
theorem T_37 : T 37 = some (.code c_call_Plain) := rfl
theorem T_38 : T 38 = some (.code c_slices_ContainsFunc_call_part_call_part) := rfl
theorem T_39 : T 39 = some (.code c_call_parts) := rfl
theorem T_40 : T 40 = some (.code c_call_Right_1) := rfl
theorem T_41 : T 41 = some (.code c_call_part_right) := rfl
theorem T_42 : T 42 = some (.prim splP) := rfl
theorem T_43 : T 43 = some (.code c_slices_Index_string_string) := rfl
theorem T_44 : T 44 = some (.code c_fault_New) := rfl
theorem T_45 : T 45 = some (.code c_speech_part) := rfl
theorem T_46 : T 46 = some (.code c_slices_Equal_int_int) := rfl
theorem T_47 : T 47 = some (.code c_label_Same) := rfl
theorem T_48 : T 48 = some (.code c_slices_Equal_string_string) := rfl
theorem T_49 : T 49 = some (.code c_bytes_Equal) := rfl
theorem T_54 : T 54 = some (.code c_regencyref05_Get) := rfl
theorem T_55 : T 55 = some (.code c_strings_SplitSeq) := rfl
theorem T_56 : T 56 = some (.code c_strings_Cut) := rfl
theorem T_57 : T 57 = some (.prim (atoiP 151)) := rfl
theorem T_58 : T 58 = some (.code c_label_Right) := rfl
theorem T_59 : T 59 = some (.code c_label_Text) := rfl
theorem T_61 : T 61 = some (.code c_owns_Right) := rfl
theorem T_63 : T 63 = some (.code c_regencyref08_Same) := rfl
theorem T_66 : T 66 = some (.code c_speech_way) := rfl
theorem T_67 : T 67 = some (.prim itoaP) := rfl
theorem T_68 : T 68 = some (.code c_speech_own) := rfl
theorem T_69 : T 69 = some (.code c_speech_bytes) := rfl
theorem T_76 : T 76 = some (.code c_regencyref01_num) := rfl
theorem T_77 : T 77 = some (.prim p_slices_Clone_int_int) := rfl
theorem T_78 : T 78 = some (.prim p_slices_Clone_api_Label_api_Entry) := rfl
theorem T_79 : T 79 = some (.prim p_slices_Clone_string_string) := rfl
theorem T_80 : T 80 = some (.prim p_slices_Clone_byte_byte) := rfl
theorem T_81 : T 81 = some (.code c_slices_IndexFunc_call_part_call_part) := rfl
theorem T_82 : T 82 = some (.code c_path_Right) := rfl
theorem T_83 : T 83 = some (.code c_call_number) := rfl
theorem T_84 : T 84 = some (.code c_cats_Right) := rfl
theorem T_86 : T 86 = some (.code c_fault_Wrap) := rfl
theorem T_87 : T 87 = some (.code c_speech_from) := rfl
theorem T_88 : T 88 = some (.code c_speech_text) := rfl
theorem T_89 : T 89 = some (.code c_slices_Equal_api_Label_api_Entry) := rfl
theorem T_91 : T 91 = some (.code c_regencyref05_Fits) := rfl
theorem T_92 : T 92 = some (.code c_regencyref05_Text) := rfl
theorem T_93 : T 93 = some (.code c_strings_splitSeq) := rfl
theorem T_94 : T 94 = some (.code c_internal_stringslite_Cut) := rfl
theorem T_97 : T 97 = some (.code c_label_at) := rfl
theorem T_98 : T 98 = some (.code c_regencyref06_isCat) := rfl
theorem T_105 : T 105 = some (.prim ptextP) := rfl
theorem T_109 : T 109 = some (.code c_slices_ContainsFunc_int_int) := rfl
theorem T_110 : T 110 = some (.code c_path_Right_1) := rfl
theorem T_111 : T 111 = some (.code c_path_number) := rfl
theorem T_112 : T 112 = some (.code c_cats_Parse) := rfl
theorem T_116 : T 116 = some (.code c_path_Parse) := rfl
theorem T_117 : T 117 = some (.prim ixbP) := rfl
theorem T_118 : T 118 = some (.split) := rfl
theorem T_120 : T 120 = some (.prim index1P) := rfl
theorem T_126 : T 126 = some (.code c_cats_Compare) := rfl
theorem T_128 : T 128 = some (.code c_slices_DeleteFunc_string_string) := rfl
theorem T_129 : T 129 = some (.code c_cats_Sort_1) := rfl
theorem T_130 : T 130 = some (.code c_slices_SortFunc_string_string) := rfl
theorem T_131 : T 131 = some (.code c_slices_Compact_string_string) := rfl
theorem T_139 : T 139 = some (.code c_slices_IndexFunc_int_int) := rfl
theorem T_140 : T 140 = some (.code c_cats_number) := rfl
theorem T_151 : T 151 = some (.code c_cmp_Compare_string) := rfl
theorem T_152 : T 152 = some (.code c_cmp_Or_int) := rfl
theorem T_153 : T 153 = some (.code c_slices_Compare_int_int) := rfl
theorem T_154 : T 154 = some (.code c_cmp_Compare_int) := rfl
theorem T_155 : T 155 = some (.code c_slices_IndexFunc_string_string) := rfl
theorem T_156 : T 156 = some (.code c_slices_pdqsortCmpFunc_string) := rfl
theorem T_157 : T 157 = some (.code c_math_bits_Len) := rfl
theorem T_166 : T 166 = some (.code c_cmp_isNaN_string) := rfl
theorem T_167 : T 167 = some (.code c_cmp_isNaN_int) := rfl
theorem T_168 : T 168 = some (.code c_slices_insertionSortCmpFunc_string) := rfl
theorem T_176 : T 176 = some (.code c_math_bits_Len32) := rfl
theorem T_177 : T 177 = some (.code c_math_bits_Len64) := rfl
end Go.Proofs.YtibchilpaaiecaaGreatDoor.F
