/- Functions of the program, compiled, by a program (gen.py). -/
import Derived.Test.YtjeigcnaalleiaaGreatDoorF1
import Derived.Test.YtjeigcnaalleiaaGreatDoorF2
set_option maxRecDepth 100000
namespace Go.Proofs.YtjeigcnaalleiaaGreatDoor.F
open Go.Proofs.YtjeigcnaalleiaaGreatDoor.M Go.Proofs Go.RowKit

def tblL : List (Nat × Def) := [(5, .code c_regencylaw12_ReplyTells),
  (6, .code c_regencylaw12_ReplyBack),
  (8, .code c_clients_New),
  (9, .code c_clients_Book_Verdict),
  (12, .code c_clients_Book_Note),
  (13, .code c_regencylaw17_bytes),
  (15, .code c_clients_Book_Last),
  (16, .code c_regencyref12_Same),
  (17, .code c_clients_Book_Clone),
  (18, .code c_clients_Get),
  (19, .code c_tape_New),
  (21, .code c_regencylaw12_first),
  (22, .code c_regencylaw12_great),
  (23, .code c_regencyref12_Right),
  (24, .code c_regencyref12_Bytes),
  (25, .code c_reply_Right),
  (26, .code c_reply_Bytes),
  (27, .code c_reply_Text),
  (28, .code c_regencyref12_Text),
  (29, .code c_reply_Same),
  (30, .code c_reply_Refused),
  (31, .code c_reply_Parse),
  (32, .code c_clients_known),
  (33, .code c_clients_copied),
  (34, .code c_clients_Book_Put),
  (35, .code c_tape_Pen_Bytes),
  (36, .code c_regencyref03_Number),
  (37, .code c_regencyref03_Text),
  (38, .code c_regencyref06_Same),
  (39, .code c_tape_Tape_Number),
  (40, .code c_tape_Tape_Text),
  (41, .code c_tape_Tape_Err),
  (42, .prim p_slices_Clone_byte_byte),
  (46, .code c_fault_Code),
  (47, .code c_fault_Has),
  (48, .code c_regencyref12_in),
  (49, .code c_regencyref06_Right),
  (50, .code c_regencyref05_Get),
  (51, .code c_regencyref06_Put),
  (52, .code c_reply_between),
  (53, .code c_cats_Right),
  (54, .code c_label_Right),
  (55, .code c_tape_Pen_Number),
  (56, .code c_tape_Pen_Text),
  (57, .code c_label_Put),
  (58, .prim itoaP),
  (59, .code c_reply_digits),
  (60, .code c_label_Text),
  (61, .prim joinP),
  (62, .code c_regencyref01_Num),
  (63, .code c_regencyref06_Text),
  (64, .code c_bytes_Equal),
  (65, .code c_label_Same),
  (66, .code c_slices_Equal_api_Kid_api_Kid),
  (67, .code c_label_Get),
  (68, .code c_tape_Tape_End),
  (69, .code c_fault_Wrap),
  (70, .code c_tape_Tape_number),
  (71, .code c_tape_Tape_fail),
  (72, .code c_fault_New),
  (76, .prim (errIsP 122 27)),
  (77, .code c_regencyref06_isCat),
  (78, .code c_regencyref05_Compare),
  (79, .code c_regencyref05_Fits),
  (80, .code c_regencyref05_Text),
  (81, .code c_cats_Parse),
  (82, .code c_label_at),
  (87, .code c_regencyref01_num),
  (88, .code c_slices_Equal_api_Label_api_Entry),
  (95, .code c_regencyref05_Ahead),
  (96, .code c_strings_Cut),
  (97, .code c_cats_number),
  (98, .code c_strings_SplitSeq),
  (99, .code c_cats_Compare),
  (105, .code c_internal_stringslite_Cut),
  (106, .prim (atoiP 204)),
  (107, .code c_strings_splitSeq),
  (108, .code c_cmp_Compare_string),
  (109, .code c_cmp_Or_int),
  (110, .code c_slices_Compare_int_int),
  (111, .code c_cmp_Compare_int),
  (118, .prim index1P),
  (121, .split),
  (123, .code c_strings_Index),
  (124, .code c_cmp_isNaN_string),
  (125, .code c_cmp_isNaN_int)]
noncomputable def T : Tbl := fun f => tblL.lookup f
def allOk (P : Program) : List (Nat × Def) → Prop
  | [] => True
  | p :: r => OkDef P p.1 p.2 ∧ allOk P r
theorem allOk_get {P : Program} : ∀ {l : List (Nat × Def)}, allOk P l → ∀ f d, l.lookup f = some d → OkDef P f d
  | [], _, f, d, h => by simp at h
  | (g, e) :: l, ha, f, d, h => by
    rw [List.lookup_cons] at h
    by_cases hf : f = g
    · subst hf; simp at h; subst h; exact ha.1
    · have : (f == g) = false := by simpa using hf
      rw [this] at h; exact allOk_get ha.2 f d h
theorem okT : ∀ f d, T f = some d → OkDef Tryz.prog f d := allOk_get (l := tblL) ⟨is_regencylaw12_ReplyTells, is_regencylaw12_ReplyBack, is_clients_New, is_clients_Book_Verdict, is_clients_Book_Note, is_regencylaw17_bytes, is_clients_Book_Last, is_regencyref12_Same, is_clients_Book_Clone, is_clients_Get, is_tape_New, is_regencylaw12_first, is_regencylaw12_great, is_regencyref12_Right, is_regencyref12_Bytes, is_reply_Right, is_reply_Bytes, is_reply_Text, is_regencyref12_Text, is_reply_Same, is_reply_Refused, is_reply_Parse, is_clients_known, is_clients_copied, is_clients_Book_Put, is_tape_Pen_Bytes, is_regencyref03_Number, is_regencyref03_Text, is_regencyref06_Same, is_tape_Tape_Number, is_tape_Tape_Text, is_tape_Tape_Err, ok_slices_Clone_byte_byte, is_fault_Code, is_fault_Has, is_regencyref12_in, is_regencyref06_Right, is_regencyref05_Get, is_regencyref06_Put, is_reply_between, is_cats_Right, is_label_Right, is_tape_Pen_Number, is_tape_Pen_Text, is_label_Put, ok_strconv_Itoa, is_reply_digits, is_label_Text, ok_strings_Join, is_regencyref01_Num, is_regencyref06_Text, is_bytes_Equal, is_label_Same, is_slices_Equal_api_Kid_api_Kid, is_label_Get, is_tape_Tape_End, is_fault_Wrap, is_tape_Tape_number, is_tape_Tape_fail, is_fault_New, ok_errors_Is, is_regencyref06_isCat, is_regencyref05_Compare, is_regencyref05_Fits, is_regencyref05_Text, is_cats_Parse, is_label_at, is_regencyref01_num, is_slices_Equal_api_Label_api_Entry, is_regencyref05_Ahead, is_strings_Cut, is_cats_number, is_strings_SplitSeq, is_cats_Compare, is_internal_stringslite_Cut, ok_strconv_Atoi, is_strings_splitSeq, is_cmp_Compare_string, is_cmp_Or_int, is_slices_Compare_int_int, is_cmp_Compare_int, ok_internal_stringslite_Index, ok_strings_splitSeq_1, is_strings_Index, is_cmp_isNaN_string, is_cmp_isNaN_int, trivial⟩
theorem T_5 : T 5 = some (.code c_regencylaw12_ReplyTells) := rfl
theorem T_6 : T 6 = some (.code c_regencylaw12_ReplyBack) := rfl
theorem T_8 : T 8 = some (.code c_clients_New) := rfl
theorem T_9 : T 9 = some (.code c_clients_Book_Verdict) := rfl
theorem T_12 : T 12 = some (.code c_clients_Book_Note) := rfl
theorem T_13 : T 13 = some (.code c_regencylaw17_bytes) := rfl
theorem T_15 : T 15 = some (.code c_clients_Book_Last) := rfl
theorem T_16 : T 16 = some (.code c_regencyref12_Same) := rfl
theorem T_17 : T 17 = some (.code c_clients_Book_Clone) := rfl
theorem T_18 : T 18 = some (.code c_clients_Get) := rfl
theorem T_19 : T 19 = some (.code c_tape_New) := rfl
theorem T_21 : T 21 = some (.code c_regencylaw12_first) := rfl
theorem T_22 : T 22 = some (.code c_regencylaw12_great) := rfl
theorem T_23 : T 23 = some (.code c_regencyref12_Right) := rfl
theorem T_24 : T 24 = some (.code c_regencyref12_Bytes) := rfl
theorem T_25 : T 25 = some (.code c_reply_Right) := rfl
theorem T_26 : T 26 = some (.code c_reply_Bytes) := rfl
theorem T_27 : T 27 = some (.code c_reply_Text) := rfl
theorem T_28 : T 28 = some (.code c_regencyref12_Text) := rfl
theorem T_29 : T 29 = some (.code c_reply_Same) := rfl
theorem T_30 : T 30 = some (.code c_reply_Refused) := rfl
theorem T_31 : T 31 = some (.code c_reply_Parse) := rfl
theorem T_32 : T 32 = some (.code c_clients_known) := rfl
theorem T_33 : T 33 = some (.code c_clients_copied) := rfl
theorem T_34 : T 34 = some (.code c_clients_Book_Put) := rfl
theorem T_35 : T 35 = some (.code c_tape_Pen_Bytes) := rfl
theorem T_36 : T 36 = some (.code c_regencyref03_Number) := rfl
theorem T_37 : T 37 = some (.code c_regencyref03_Text) := rfl
theorem T_38 : T 38 = some (.code c_regencyref06_Same) := rfl
theorem T_39 : T 39 = some (.code c_tape_Tape_Number) := rfl
theorem T_40 : T 40 = some (.code c_tape_Tape_Text) := rfl
theorem T_41 : T 41 = some (.code c_tape_Tape_Err) := rfl
theorem T_42 : T 42 = some (.prim p_slices_Clone_byte_byte) := rfl
theorem T_46 : T 46 = some (.code c_fault_Code) := rfl
theorem T_47 : T 47 = some (.code c_fault_Has) := rfl
theorem T_48 : T 48 = some (.code c_regencyref12_in) := rfl
theorem T_49 : T 49 = some (.code c_regencyref06_Right) := rfl
theorem T_50 : T 50 = some (.code c_regencyref05_Get) := rfl
theorem T_51 : T 51 = some (.code c_regencyref06_Put) := rfl
theorem T_52 : T 52 = some (.code c_reply_between) := rfl
theorem T_53 : T 53 = some (.code c_cats_Right) := rfl
theorem T_54 : T 54 = some (.code c_label_Right) := rfl
theorem T_55 : T 55 = some (.code c_tape_Pen_Number) := rfl
theorem T_56 : T 56 = some (.code c_tape_Pen_Text) := rfl
theorem T_57 : T 57 = some (.code c_label_Put) := rfl
theorem T_58 : T 58 = some (.prim itoaP) := rfl
theorem T_59 : T 59 = some (.code c_reply_digits) := rfl
theorem T_60 : T 60 = some (.code c_label_Text) := rfl
theorem T_61 : T 61 = some (.prim joinP) := rfl
theorem T_62 : T 62 = some (.code c_regencyref01_Num) := rfl
theorem T_63 : T 63 = some (.code c_regencyref06_Text) := rfl
theorem T_64 : T 64 = some (.code c_bytes_Equal) := rfl
theorem T_65 : T 65 = some (.code c_label_Same) := rfl
theorem T_66 : T 66 = some (.code c_slices_Equal_api_Kid_api_Kid) := rfl
theorem T_67 : T 67 = some (.code c_label_Get) := rfl
theorem T_68 : T 68 = some (.code c_tape_Tape_End) := rfl
theorem T_69 : T 69 = some (.code c_fault_Wrap) := rfl
theorem T_70 : T 70 = some (.code c_tape_Tape_number) := rfl
theorem T_71 : T 71 = some (.code c_tape_Tape_fail) := rfl
theorem T_72 : T 72 = some (.code c_fault_New) := rfl
theorem T_76 : T 76 = some (.prim (errIsP 122 27)) := rfl
theorem T_77 : T 77 = some (.code c_regencyref06_isCat) := rfl
theorem T_78 : T 78 = some (.code c_regencyref05_Compare) := rfl
theorem T_79 : T 79 = some (.code c_regencyref05_Fits) := rfl
theorem T_80 : T 80 = some (.code c_regencyref05_Text) := rfl
theorem T_81 : T 81 = some (.code c_cats_Parse) := rfl
theorem T_82 : T 82 = some (.code c_label_at) := rfl
theorem T_87 : T 87 = some (.code c_regencyref01_num) := rfl
theorem T_88 : T 88 = some (.code c_slices_Equal_api_Label_api_Entry) := rfl
theorem T_95 : T 95 = some (.code c_regencyref05_Ahead) := rfl
theorem T_96 : T 96 = some (.code c_strings_Cut) := rfl
theorem T_97 : T 97 = some (.code c_cats_number) := rfl
theorem T_98 : T 98 = some (.code c_strings_SplitSeq) := rfl
theorem T_99 : T 99 = some (.code c_cats_Compare) := rfl
theorem T_105 : T 105 = some (.code c_internal_stringslite_Cut) := rfl
theorem T_106 : T 106 = some (.prim (atoiP 204)) := rfl
theorem T_107 : T 107 = some (.code c_strings_splitSeq) := rfl
theorem T_108 : T 108 = some (.code c_cmp_Compare_string) := rfl
theorem T_109 : T 109 = some (.code c_cmp_Or_int) := rfl
theorem T_110 : T 110 = some (.code c_slices_Compare_int_int) := rfl
theorem T_111 : T 111 = some (.code c_cmp_Compare_int) := rfl
theorem T_118 : T 118 = some (.prim index1P) := rfl
theorem T_121 : T 121 = some (.split) := rfl
theorem T_123 : T 123 = some (.code c_strings_Index) := rfl
theorem T_124 : T 124 = some (.code c_cmp_isNaN_string) := rfl
theorem T_125 : T 125 = some (.code c_cmp_isNaN_int) := rfl
end Go.Proofs.YtjeigcnaalleiaaGreatDoor.F
