/- Functions of the program, compiled, by a program (gen.py). -/
import Derived.Test.YtibchilpaaiecaaGreatDoorProg
import Derived.KernelRfl
import Derived.Test.YtibchilpaaiecaaGreatDoorM19
import Derived.Test.YtibchilpaaiecaaGreatDoorF1
set_option maxRecDepth 100000
namespace Go.Proofs.YtibchilpaaiecaaGreatDoor.F
open Go.Proofs.YtibchilpaaiecaaGreatDoor.M Go.Proofs Go.RowKit
abbrev kl2_0 : List Nat := [4, 5, 6, 9, 10, 11, 12, 13, 14, 15, 16, 17, 18]
abbrev kl2_1 : List Nat := [4, 7, 8, 9, 10, 11, 12, 14, 15, 16, 17, 18, 19, 20, 21, 22, 23, 24, 25, 26, 27, 28, 29, 30, 31, 32, 33, 34, 35]
abbrev kl2_2 : List Nat := [10, 11, 12, 13, 16, 17, 18, 19, 20, 21, 22, 23, 24, 25, 26, 27, 28, 29, 30, 31, 32, 33, 34, 35, 36, 37, 38, 39, 40, 41, 42, 43, 44, 45, 46, 47, 48, 49, 50, 51, 52, 53]
abbrev kl2_3 : List Nat := [2, 4, 5, 6, 7, 8, 10, 11, 12, 13, 14, 15, 16, 17, 18, 19, 20, 21, 22, 23, 24, 25, 26, 27, 28, 29, 30, 31, 32, 33, 34, 35, 36, 37, 38, 39, 40, 41, 42, 43, 44, 45, 46, 47, 48, 49, 50, 51, 52, 53, 54, 55, 56, 57, 58, 59]
abbrev kl2_4 : List Nat := [0, 2, 5, 9, 10, 11, 12, 13, 14, 15, 16]
abbrev kl2_5 : List Nat := [4, 5, 6, 7, 8, 12, 13, 14, 15, 16, 17, 18, 19, 20, 21, 22, 23, 24, 25, 26, 27, 28, 29, 30]
abbrev kl2_6 : List Nat := [12, 13, 14, 15, 16, 17, 18, 19, 20, 21, 22, 23, 24, 25, 26, 27, 28, 29, 30, 31, 32, 33, 34, 35, 36, 37, 38, 39, 40, 41, 42, 43, 44, 45, 46, 47, 48, 49, 50, 51, 52, 53, 54, 55, 56, 57, 58, 59, 60, 61, 62, 63, 64, 65, 66, 67, 68, 69, 70, 71, 72, 73, 74, 75, 76, 77, 78, 79, 80, 81, 82, 83, 84, 85, 86, 87, 88, 89, 90, 91, 92, 93, 94, 95, 96, 97, 98, 99, 100, 101, 102, 103, 104, 105, 106, 107, 108, 109, 110, 111, 112, 113, 114, 115, 116, 117, 118, 119, 120, 121, 122, 123, 124, 125, 126, 127, 128, 129, 130, 131, 132, 133, 134, 135, 136, 137, 138, 139, 140, 141, 142, 143, 144, 145, 146, 147]
abbrev kl2_7 : List Nat := [12, 13, 14, 17, 18, 19, 20, 21, 22, 23, 24, 25, 26, 27, 28, 29, 30, 31, 32, 33, 34, 35, 36, 37, 38, 39, 40, 41, 42, 43, 44, 45, 46, 47, 48, 49, 50, 51, 52]
abbrev kl2_8 : List Nat := [9, 10, 11, 12, 13, 14, 15, 16, 17, 18, 19, 20, 21, 22, 23, 24, 25, 26, 27, 28, 29, 30, 31, 32, 33, 34, 35, 36, 37, 38, 39, 40, 41, 42, 43, 44, 45, 46, 47, 48, 49, 50, 51, 52]
abbrev kl2_9 : List Nat := [12, 13, 14, 15, 21, 22, 23, 24, 25, 31, 32, 38, 39, 40, 41, 42, 43, 44, 45, 46, 47, 48, 49, 50, 51, 52, 53, 54, 55, 56, 57, 58, 59, 60, 61, 62, 63, 64, 65, 66, 67, 68, 69, 70, 71, 72, 73, 74, 75, 76, 77, 78, 79, 80, 81, 82, 83, 84, 85, 86, 87, 88, 89, 90, 91, 92, 93, 94, 95, 96, 97, 98, 99, 100, 101, 102, 103, 104]
abbrev kl2_10 : List Nat := [9, 18, 19, 20, 21, 22, 23, 24, 25, 26, 27, 28, 29, 30, 31, 32, 33, 34]
abbrev kl2_11 : List Nat := [0, 1, 2, 3, 8, 12, 13, 14]
def c_strings_splitSeq : CFn := ⟨8, .seq (.region [oN 3 (.box (tP 0)),
 oN 4 (.box (tP 1)),
 oN 5 (.box (tP 2)),
 oN 6 (.mov (.con (.nilf)))])
  (.seq (.region [oN 7 (.mkfn (.func 118) [] [(tP 4), (tP 3), (tP 5)]),
 mV 6 7])
  (.ret)),
  [.tmp 6]⟩
theorem is_strings_splitSeq : IsFn Tryz.prog 93 c_strings_splitSeq := isFn_of [([], []), ([], []), ([], [])] (by kernel_rfl)
def c_internal_stringslite_Cut : CFn := ⟨23, .seq (.region [oN 4 (.mov (.con (.str ⟨#[]⟩))),
 oN 5 (.mov (.con (.str ⟨#[]⟩))),
 oN 6 (.mov (.con (.bool false)))])
  (.seq (.seq (.region [mV 8 0,
 mV 9 1,
 oN 10 (.pcall 120 [(tP 8), (tP 9)]),
 mV 7 10])
  (.seq (.region [mV 11 7,
 oN 12 (.bin .geq (tP 11) (.con (.int .i64 0)))])
  (.cond (tP 12) (.seq (.region [mV 13 0,
 mV 14 7,
 oN 15 (.slice none (tP 13) none (some (tP 14)) none),
 mV 16 0,
 mV 17 7,
 mV 18 1,
 oN 19 (.lens (tP 18)),
 oN 20 (.bin .add (tP 17) (tP 19)),
 oN 21 (.slice none (tP 16) (some (tP 20)) none none),
 mV 4 15,
 mV 5 21,
 oN 6 (.mov (.con (.bool true)))])
  (.ret)) (.skip))))
  (.seq (.region [mV 22 0,
 mV 4 22,
 oN 5 (.mov (.con (.str ⟨#[]⟩))),
 oN 6 (.mov (.con (.bool false)))])
  (.ret))),
  [.tmp 4, .tmp 5, .tmp 6]⟩
theorem is_internal_stringslite_Cut : IsFn Tryz.prog 94 c_internal_stringslite_Cut := isFn_of [([], []), ([], [2]), ([], []), ([], []), ([], []), ([], []), ([], [])] (by kernel_rfl)
def c_label_at : CFn := ⟨9, .seq (.region [oN 2 (.box (tP 0)),
 oN 4 (.mov (.con (.int .i64 0)))])
  (.seq (.region [oN 5 (.faddr 0 (tP 2)),
 lD 6 5,
 mV 7 1,
 oN 8 (.pcall 126 [(tP 6), (tP 7)]),
 mV 4 8])
  (.ret)),
  [.tmp 4]⟩
theorem is_label_at : IsFn Tryz.prog 97 c_label_at := isFn_of [([], []), ([], [3]), ([], [])] (by kernel_rfl)
def c_regencyref06_isCat : CFn := ⟨11, .seq (.region [oN 2 (.mov (.con (.bool false)))])
  (.seq (.region [mV 6 0,
 oN 7 (.pcall 54 [(tP 6)]),
 oN 5 (.take (tP 7)),
 oN 8 (.extract 5 0),
 oN 9 (.extract 5 1),
 oN 3 (.alloc [.sl .ex [], .int .i64 0]),
 ⟨none, .store 2 (tP 3) (tP 8), none⟩,
 mV 4 9])
  (.seq (.region [mV 10 4,
 mV 2 10])
  (.ret))),
  [.tmp 2]⟩
theorem is_regencyref06_isCat : IsFn Tryz.prog 98 c_regencyref06_isCat := isFn_of [([], []), ([], [1, 2]), ([], []), ([], [])] (by kernel_rfl)
theorem ok_path_Text : OkDef Tryz.prog 105 (.prim ptextP) := ptext_ok (⟨Tryz.f105, Tryz.func105, by kernel_rfl, by kernel_rfl⟩ : Callable Tryz.prog 105) tab_ok
def c_slices_ContainsFunc_int_int : CFn := ⟨9, .seq (.region [oN 4 (.mov (.con (.bool false)))])
  (.seq (.region [oN 5 (.take (tP 0)),
 mV 6 1,
 oN 7 (.call 139 [(tP 5), (tP 6)]),
 oN 8 (.bin .geq (tP 7) (.con (.int .i64 0))),
 mV 4 8])
  (.ret)),
  [.tmp 4]⟩
theorem is_slices_ContainsFunc_int_int : IsFn Tryz.prog 109 c_slices_ContainsFunc_int_int := isFn_of [([], []), ([], [0]), ([], [])] (by kernel_rfl)
def c_path_Right_1 : CFn := ⟨6, .seq (.region [oN 2 (.mov (.con (.bool false)))])
  (.seq (.region [mV 3 0,
 oN 4 (.pcall 111 [(tP 3)]),
 oN 5 (.un .not (tP 4)),
 mV 2 5])
  (.ret)),
  [.tmp 2]⟩
theorem is_path_Right_1 : IsFn Tryz.prog 110 c_path_Right_1 := isFn_of [([], []), ([], [1]), ([], [])] (by kernel_rfl)
def c_path_number : CFn := ⟨9, .seq (.region [oN 2 (.mov (.con (.bool false)))])
  (.seq (.region [mV 3 0,
 oN 4 (.bin .geq (tP 3) (.con (.int .i64 0))),
 mV 5 4,
 oG 6 (.mov (tP 0)) 5 true,
 oG 7 (.bin .leq (tP 6) (.con (.int .i64 1048576))) 5 true,
 oN 8 (.pick (tP 5) (tP 7) (.con (.bool false))),
 mV 2 8])
  (.ret)),
  [.tmp 2]⟩
theorem is_path_number : IsFn Tryz.prog 111 c_path_number := isFn_of [([], []), ([], []), ([], [])] (by kernel_rfl)
abbrev l_cats_Parse_1 : CC := .block 1 (.seq (.region [mV 38 11,
 oN 39 (.pcall 140 [(tP 38), (.con (.int .i64 1048576))]),
 mV 37 39,
 oN 40 (.extract 37 0),
 oN 41 (.extract 37 1),
 mV 12 40,
 mV 13 41])
  (.seq (.seq (.region [mV 42 13,
 oN 43 (.un .not (tP 42)),
 mV 44 43,
 oG 45 (.load none (tP 10)) 44 false,
 oG 46 (.lenl (tP 45)) 44 false,
 oG 47 (.bin .eql (tP 46) (.con (.int .i64 6))) 44 false,
 oN 48 (.pick (tP 44) (.con (.bool true)) (tP 47))])
  (.cond (tP 48) (.seq (.region [⟨none, .store 1 (tP 2) (.con (.sl .ex [])), none⟩,
 ⟨none, .store 1 (tP 3) (.con (.int .i64 0)), none⟩,
 ⟨none, .store 1 (tP 4) (.con (.bool false)), none⟩])
  (.ret)) (.skip)))
  (.region [oN 49 (.ltake (tP 10)),
 mV 50 12,
 oN 51 (.bslice 1 false [(tP 50)]),
 oN 52 (.append 1 8 false (tP 49) (tP 51)),
 ⟨none, .store 1 (tP 10) (tP 52), none⟩])))
abbrev l_cats_Parse_0 : CC := .region [mV 11 36]
def c_cats_Parse : CFn := ⟨55, .seq (.region [oN 2 (.alloc [.sl .ex []]),
 oN 3 (.alloc [.int .i64 0]),
 oN 4 (.alloc [.bool false])])
  (.seq (.region [mV 15 0,
 oN 16 (.pcall 56 [(tP 15), (.con (.str ⟨#[47]⟩))]),
 mV 14 16,
 oN 17 (.extract 14 0),
 oN 18 (.extract 14 1),
 oN 19 (.extract 14 2),
 mV 5 17,
 mV 6 18,
 mV 7 19])
  (.seq (.region [mV 21 6,
 oN 22 (.pcall 140 [(tP 21), (.con (.int .i64 65535))]),
 mV 20 22,
 oN 23 (.extract 20 0),
 oN 24 (.extract 20 1),
 mV 8 23,
 mV 9 24])
  (.seq (.seq (.region [mV 25 7,
 oN 26 (.un .not (tP 25)),
 mV 27 26,
 oG 28 (.mov (tP 9)) 27 false,
 oG 29 (.un .not (tP 28)) 27 false,
 oN 30 (.pick (tP 27) (.con (.bool true)) (tP 29))])
  (.cond (tP 30) (.seq (.region [⟨none, .store 1 (tP 2) (.con (.sl .ex [])), none⟩,
 ⟨none, .store 1 (tP 3) (.con (.int .i64 0)), none⟩,
 ⟨none, .store 1 (tP 4) (.con (.bool false)), none⟩])
  (.ret)) (.skip)))
  (.seq (.seq (.region [mV 31 5,
 oN 32 (.bin .eql (tP 31) (.con (.str ⟨#[]⟩)))])
  (.cond (tP 32) (.seq (.region [mV 33 8,
 ⟨none, .store 1 (tP 2) (.con (.sl .ex [])), none⟩,
 ⟨none, .store 1 (tP 3) (tP 33), none⟩,
 ⟨none, .store 1 (tP 4) (.con (.bool true)), none⟩])
  (.ret)) (.skip)))
  (.seq (.region [oN 10 (.alloc [.sl .ex []])])
  (.seq (.seq (.region [mV 34 5,
 oN 35 (.call 55 [(tP 34), (.con (.str ⟨#[46]⟩))])])
  (.block 0 (.rsplit (tP 35) 36 l_cats_Parse_0 l_cats_Parse_1)))
  (.seq (.region [lD 53 10,
 mV 54 8,
 ⟨none, .store 1 (tP 2) (tP 53), none⟩,
 ⟨none, .store 1 (tP 3) (tP 54), none⟩,
 ⟨none, .store 1 (tP 4) (.con (.bool true)), none⟩])
  (.ret)))))))),
  [.cell 2 none, .cell 3 none, .cell 4 none]⟩
theorem is_cats_Parse : IsFn Tryz.prog 112 c_cats_Parse := isFn_of [([], []), ([], [1]), ([], [1]), ([], []), ([], []), ([], []), ([], []), ([], []), ([], []), ([], []), ([], []), ([], []), ([], [1]), ([], []), ([], []), ([], []), ([], [0]), ([], []), ([], [])] (by kernel_rfl)
abbrev l_path_Parse_1 : CC := .block 1 (.seq (.region [mV 14 5,
 oN 15 (.call 57 [(tP 14)]),
 mV 13 15,
 oN 16 (.extract 13 0),
 oN 17 (.extract 13 1),
 mV 6 16,
 mV 7 17])
  (.seq (.seq (.region [mV 18 7,
 oN 19 (.isnil .ifc true (tP 18)),
 mV 20 19,
 oG 21 (.load none (tP 4)) 20 false,
 oG 22 (.lenl (tP 21)) 20 false,
 oG 23 (.bin .eql (tP 22) (.con (.int .i64 6))) 20 false,
 oN 24 (.pick (tP 20) (.con (.bool true)) (tP 23))])
  (.cond (tP 24) (.seq (.region [⟨none, .store 1 (tP 2) (.con (.sl .ex [])), none⟩,
 ⟨none, .store 1 (tP 3) (.con (.bool false)), none⟩])
  (.ret)) (.skip)))
  (.region [oN 25 (.ltake (tP 4)),
 mV 26 6,
 oN 27 (.bslice 1 false [(tP 26)]),
 oN 28 (.append 1 8 false (tP 25) (tP 27)),
 ⟨none, .store 1 (tP 4) (tP 28), none⟩])))
abbrev l_path_Parse_0 : CC := .region [mV 5 12]
def c_path_Parse : CFn := ⟨39, .seq (.region [oN 2 (.alloc [.sl .ex []]),
 oN 3 (.alloc [.bool false])])
  (.seq (.seq (.region [mV 8 0,
 oN 9 (.bin .eql (tP 8) (.con (.str ⟨#[]⟩)))])
  (.cond (tP 9) (.seq (.region [⟨none, .store 1 (tP 2) (.con (.sl .ex [])), none⟩,
 ⟨none, .store 1 (tP 3) (.con (.bool true)), none⟩])
  (.ret)) (.skip)))
  (.seq (.region [oN 4 (.alloc [.sl .ex []])])
  (.seq (.seq (.region [mV 10 0,
 oN 11 (.call 55 [(tP 10), (.con (.str ⟨#[46]⟩))])])
  (.block 0 (.rsplit (tP 11) 12 l_path_Parse_0 l_path_Parse_1)))
  (.seq (.seq (.region [lD 29 4,
 oN 30 (.pcall 82 [(tP 29)]),
 oN 31 (.un .not (tP 30)),
 mV 32 31,
 oG 33 (.load none (tP 4)) 32 false,
 oG 34 (.pcall 105 [(tP 33)]) 32 false,
 oG 35 (.mov (tP 0)) 32 false,
 oG 36 (.bin .neq (tP 34) (tP 35)) 32 false,
 oN 37 (.pick (tP 32) (.con (.bool true)) (tP 36))])
  (.cond (tP 37) (.seq (.region [⟨none, .store 1 (tP 2) (.con (.sl .ex [])), none⟩,
 ⟨none, .store 1 (tP 3) (.con (.bool false)), none⟩])
  (.ret)) (.skip)))
  (.seq (.region [lD 38 4,
 ⟨none, .store 1 (tP 2) (tP 38), none⟩,
 ⟨none, .store 1 (tP 3) (.con (.bool true)), none⟩])
  (.ret)))))),
  [.cell 2 none, .cell 3 none]⟩
theorem is_path_Parse : IsFn Tryz.prog 116 c_path_Parse := isFn_of [([], []), ([], []), ([], []), ([], []), ([], []), ([], []), ([], []), ([], []), ([], []), ([], []), ([], []), ([], [0]), ([], [1, 5]), ([], []), ([], []), ([], []), ([], [])] (by kernel_rfl)
theorem ok_strings_IndexByte : OkDef Tryz.prog 117 (.prim ixbP) := ixb_ok (⟨Tryz.f117, Tryz.func117, by kernel_rfl, by kernel_rfl⟩ : Callable Tryz.prog 117) (fun s c w => Tryz.strings_IndexByte s c w)
theorem ok_strings_splitSeq_1 : OkDef Tryz.prog 118 (.split) := split_ok
theorem ok_internal_stringslite_Index : OkDef Tryz.prog 120 (.prim index1P) := index1_ok (⟨Tryz.f120, Tryz.func120, by kernel_rfl, by kernel_rfl⟩ : Callable Tryz.prog 120) (fun s c w => Tryz.stringslite_Index_one s c w)
def c_cats_Compare : CFn := ⟨47, .seq (.region [oN 4 (.mov (.con (.int .i64 0)))])
  (.seq (.region [mV 12 0,
 oN 13 (.pcall 112 [(tP 12)]),
 oN 11 (.take (tP 13)),
 oN 14 (.extract 11 0),
 oN 15 (.extract 11 1),
 oN 16 (.extract 11 2),
 oN 5 (.take (tP 14)),
 mV 6 15,
 mV 7 16])
  (.seq (.region [mV 18 1,
 oN 19 (.pcall 112 [(tP 18)]),
 oN 17 (.take (tP 19)),
 oN 20 (.extract 17 0),
 oN 21 (.extract 17 1),
 oN 22 (.extract 17 2),
 oN 8 (.take (tP 20)),
 mV 9 21,
 mV 10 22])
  (.seq (.block 0 (.seq (.region [mV 24 7,
 oN 25 (.un .not (tP 24)),
 mV 26 25,
 oG 27 (.mov (tP 10)) 26 true,
 oG 28 (.un .not (tP 27)) 26 true,
 oN 29 (.pick (tP 26) (tP 28) (.con (.bool false))),
 mV 23 29])
  (.cond (tP 23) (.seq (.region [mV 30 0,
 mV 31 1,
 oN 32 (.pcall 151 [(tP 30), (tP 31)]),
 mV 4 32])
  (.ret)) (.seq (.region [mV 34 7,
 oN 35 (.un .not (tP 34)),
 mV 33 35])
  (.cond (tP 33) (.seq (.region [oN 4 (.mov (.con (.int .i64 1)))])
  (.ret)) (.seq (.region [mV 37 10,
 oN 38 (.un .not (tP 37)),
 mV 36 38])
  (.cond (tP 36) (.seq (.region [oN 4 (.mov (.con (.int .i64 (-1))))])
  (.ret)) (.skip))))))))
  (.seq (.region [oN 39 (.take (tP 5)),
 oN 40 (.take (tP 8)),
 oN 41 (.pcall 153 [(tP 39), (tP 40)]),
 mV 42 6,
 mV 43 9,
 oN 44 (.pcall 154 [(tP 42), (tP 43)]),
 oN 45 (.bslice 1 false [(tP 41), (tP 44)]),
 oN 46 (.pcall 152 [(tP 45)]),
 mV 4 46])
  (.ret))))),
  [.tmp 4]⟩
theorem is_cats_Compare : IsFn Tryz.prog 126 c_cats_Compare := isFn_of [([], []), ([], [1, 2, 6]), ([], [1, 2, 6]), ([], []), ([], [2]), ([], []), ([], []), ([], []), ([], []), ([], []), ([], []), ([], []), ([], [0, 1, 2, 5, 7]), ([], [])] (by kernel_rfl)
abbrev s_slices_DeleteFunc_string_string_0 (v0 v1 v5 v6 : AV) : List AV := [v0, v1, undefA, undefA, .any, v5, v6, .any, .any, .any, .any, .any, .any, undefA, .any, .any, .any, .any, .any, .any, .any, .any, .any, .any, .any, .any, .any, .any, .any, .any, .any, .any, .any, .any, .any, .any, undefA, undefA, undefA, undefA, undefA, undefA]
abbrev x_slices_DeleteFunc_string_string_0 (v0 v5 : AV) : List AV := [v0, .any, undefA, undefA, .any, v5, .any, .any, .any, .any, .any, .any, .any, undefA, .any, .any, .any, .any, .any, .any, .any, .any, .any, .any, .any, .any, .any, .any, .any, .any, .any, .any, .any, .any, .any, .any, undefA, undefA, undefA, undefA, undefA, undefA]
abbrev l_slices_DeleteFunc_string_string_0 : CC := .kill kl2_1 (.seq (.seq (.region [mV 16 6,
 mV 17 0,
 oN 18 (.lenl (tP 17)),
 oN 19 (.bin .lss (tP 16) (tP 18))])
  (.cond (tP 19) (.skip) (.kill [1, 6, 16, 17, 18, 19] (.exit 0))))
  (.seq (.block 1 (.seq (.region [mV 22 0,
 mV 23 6,
 oN 24 (.iaddr 1 none (tP 22) (tP 23)),
 lD 25 24,
 mV 7 25])
  (.seq (.region [mV 26 1,
 mV 27 7,
 oN 28 (.callv (tP 26) [(tP 27)]),
 oN 29 (.un .not (tP 28))])
  (.cond (tP 29) (.seq (.region [mV 30 0,
 mV 31 5,
 mV 32 7,
 oN 33 (.iaddr 1 none (tP 30) (tP 31)),
 ⟨none, .store 1 (tP 33) (tP 32), none⟩])
  (.region [mV 34 5,
 oN 35 (.bin .add (tP 34) (.con (.int .i64 1))),
 mV 5 35])) (.skip)))))
  (.region [mV 20 6,
 oN 21 (.bin .add (tP 20) (.con (.int .i64 1))),
 mV 6 21])))
def c_slices_DeleteFunc_string_string : CFn := ⟨42, .seq (.region [oN 4 (.take (.con (.sl .ex [])))])
  (.seq (.region [mV 8 0,
 mV 9 1,
 oN 10 (.call 155 [(tP 8), (tP 9)]),
 mV 5 10])
  (.seq (.seq (.region [mV 11 5,
 oN 12 (.bin .eql (tP 11) (.con (.int .i64 (-1))))])
  (.cond (tP 12) (.seq (.region [oN 13 (.take (tP 0)),
 oN 4 (.take (tP 13))])
  (.ret)) (.skip)))
  (.seq (.seq (.region [mV 14 5,
 oN 15 (.bin .add (tP 14) (.con (.int .i64 1))),
 mV 6 15])
  (.block 0 (.kill kl2_1 (.loop l_slices_DeleteFunc_string_string_0))))
  (.seq (.region [mV 36 0,
 mV 37 5,
 oN 38 (.slice (some 1) (tP 36) (some (tP 37)) none none),
 ⟨none, .clr [.str ⟨#[]⟩] (tP 38), none⟩])
  (.seq (.region [oN 39 (.take (tP 0)),
 mV 40 5,
 oN 41 (.slice (some 1) (tP 39) none (some (tP 40)) none),
 oN 4 (.take (tP 41))])
  (.ret)))))),
  [.tmp 4]⟩
theorem is_slices_DeleteFunc_string_string : IsFn Tryz.prog 128 c_slices_DeleteFunc_string_string := isFn_of [([], [0]), ([], []), ([], []), ([], [0, 1]), ([], []), ([], []), (kl2_1, []), ([], []), ([1, 6, 16, 17, 18, 19], []), ([], []), ([], []), ([], []), ([], []), ([], []), ([], []), ([], [0, 3]), ([], [])] (by kernel_rfl)
def c_cats_Sort_1 : CFn := ⟨6, .seq (.region [oN 2 (.mov (.con (.bool false)))])
  (.seq (.region [mV 3 0,
 oN 4 (.pcall 84 [(tP 3)]),
 oN 5 (.un .not (tP 4)),
 mV 2 5])
  (.ret)),
  [.tmp 2]⟩
theorem is_cats_Sort_1 : IsFn Tryz.prog 129 c_cats_Sort_1 := isFn_of [([], []), ([], [1]), ([], [])] (by kernel_rfl)
def c_slices_SortFunc_string_string : CFn := ⟨14, .seq (.region [mV 5 0,
 oN 6 (.lenl (tP 5)),
 mV 4 6])
  (.region [oN 7 (.take (tP 0)),
 mV 8 4,
 mV 9 4,
 oN 10 (.cInt .u64 (tP 9)),
 oN 11 (.pcall 157 [(tP 10)]),
 mV 12 1,
 oN 13 (.call 156 [(tP 7), (.con (.int .i64 0)), (tP 8), (tP 11), (tP 12)])]),
  []⟩
theorem is_slices_SortFunc_string_string : IsFn Tryz.prog 130 c_slices_SortFunc_string_string := isFn_of [([], []), ([], [0, 4])] (by kernel_rfl)
abbrev s_slices_Compact_string_string_0 (v0 v3 : AV) : List AV := [v0, undefA, .any, v3, .any, .any, .any, .any, .any, undefA, .any, .any, .any, .any, .any, .any, .any, .any, .any, .any, .any, .any, .any, .any, .any, .any, .any, .any, .any, .any, .any, .any, .any, .any, .any, .any, .any, .any, .any, .any, .any, .any, .any, .any, .any, .any, .any, .any, .any, .any, .any, .any, .any, .any, .any, .any, .any, .any, .any, .any, undefA]
abbrev s_slices_Compact_string_string_1 (v0 v3 v4 v5 : AV) : List AV := [v0, undefA, .any, v3, v4, v5, .any, .any, .any, undefA, .any, .any, .any, .any, .any, .any, .any, .any, .any, .any, .any, .any, .any, .any, .any, .any, .any, .any, .any, .any, .any, .any, .any, .any, .any, .any, .any, .any, .any, .any, .any, .any, .any, .any, .any, .any, .any, .any, .any, .any, .any, .any, .any, .any, .any, .any, .any, .any, .any, .any, undefA]
abbrev x_slices_Compact_string_string_0 (v0 : AV) : List AV := [v0, undefA, .any, .any, .any, .any, .any, .any, .any, undefA, .any, .any, .any, .any, .any, .any, .any, .any, .any, .any, .any, .any, .any, .any, .any, .any, .any, .any, .any, .any, .any, .any, .any, .any, .any, .any, .any, .any, .any, .any, .any, .any, .any, .any, .any, .any, .any, .any, .any, .any, .any, .any, .any, .any, .any, .any, .any, .any, .any, .any, undefA]
abbrev x_slices_Compact_string_string_2 (v0 v3 : AV) : List AV := [v0, undefA, .any, v3, .any, .any, .any, .any, .any, undefA, .any, .any, .any, .any, .any, .any, .any, .any, .any, .any, .any, .any, .any, .any, .any, .any, .any, .any, .any, .any, .any, .any, .any, .any, .any, .any, .any, .any, .any, .any, .any, .any, .any, .any, .any, .any, .any, .any, .any, .any, .any, .any, .any, .any, .any, .any, .any, .any, .any, .any, undefA]
abbrev l_slices_Compact_string_string_1 : CC := .kill kl2_2 (.seq (.seq (.region [mV 29 5,
 mV 30 4,
 oN 31 (.lenl (tP 30)),
 oN 32 (.bin .lss (tP 29) (tP 31))])
  (.cond (tP 32) (.skip) (.kill [4, 5, 29, 30, 31, 32] (.exit 2))))
  (.seq (.block 3 (.seq (.region [mV 35 4,
 mV 36 5,
 oN 37 (.iaddr 1 none (tP 35) (tP 36)),
 lD 38 37,
 mV 39 4,
 mV 40 5,
 oN 41 (.bin .sub (tP 40) (.con (.int .i64 1))),
 oN 42 (.iaddr 1 none (tP 39) (tP 41)),
 lD 43 42,
 oN 44 (.bin .neq (tP 38) (tP 43))])
  (.cond (tP 44) (.seq (.region [mV 45 0,
 mV 46 3,
 mV 47 4,
 mV 48 5,
 oN 49 (.iaddr 1 none (tP 47) (tP 48)),
 lD 50 49,
 oN 51 (.iaddr 1 none (tP 45) (tP 46)),
 ⟨none, .store 1 (tP 51) (tP 50), none⟩])
  (.region [mV 52 3,
 oN 53 (.bin .add (tP 52) (.con (.int .i64 1))),
 mV 3 53])) (.skip))))
  (.region [mV 33 5,
 oN 34 (.bin .add (tP 33) (.con (.int .i64 1))),
 mV 5 34])))
abbrev l_slices_Compact_string_string_0 : CC := .kill kl2_3 (.seq (.seq (.region [mV 10 3,
 mV 11 0,
 oN 12 (.lenl (tP 11)),
 oN 13 (.bin .lss (tP 10) (tP 12))])
  (.cond (tP 13) (.skip) (.kill [3, 10, 11, 12, 13] (.exit 0))))
  (.seq (.block 1 (.seq (.region [mV 16 0,
 mV 17 3,
 oN 18 (.iaddr 1 none (tP 16) (tP 17)),
 lD 19 18,
 mV 20 0,
 mV 21 3,
 oN 22 (.bin .sub (tP 21) (.con (.int .i64 1))),
 oN 23 (.iaddr 1 none (tP 20) (tP 22)),
 lD 24 23,
 oN 25 (.bin .eql (tP 19) (tP 24))])
  (.cond (tP 25) (.seq (.region [mV 26 0,
 mV 27 3,
 oN 28 (.slice (some 1) (tP 26) (some (tP 27)) none none),
 oN 4 (.take (tP 28))])
  (.seq (.seq (.region [oN 5 (.mov (.con (.int .i64 1)))])
  (.block 2 (.kill kl2_2 (.loop l_slices_Compact_string_string_1))))
  (.seq (.region [mV 54 0,
 mV 55 3,
 oN 56 (.slice (some 1) (tP 54) (some (tP 55)) none none),
 ⟨none, .clr [.str ⟨#[]⟩] (tP 56), none⟩])
  (.seq (.region [oN 57 (.take (tP 0)),
 mV 58 3,
 oN 59 (.slice (some 1) (tP 57) none (some (tP 58)) none),
 oN 2 (.take (tP 59))])
  (.ret))))) (.skip))))
  (.region [mV 14 3,
 oN 15 (.bin .add (tP 14) (.con (.int .i64 1))),
 mV 3 15])))
def c_slices_Compact_string_string : CFn := ⟨61, .seq (.region [oN 2 (.take (.con (.sl .ex [])))])
  (.seq (.seq (.region [mV 6 0,
 oN 7 (.lenl (tP 6)),
 oN 8 (.bin .lss (tP 7) (.con (.int .i64 2)))])
  (.cond (tP 8) (.seq (.region [oN 9 (.take (tP 0)),
 oN 2 (.take (tP 9))])
  (.ret)) (.skip)))
  (.seq (.seq (.region [oN 3 (.mov (.con (.int .i64 1)))])
  (.block 0 (.kill kl2_3 (.loop l_slices_Compact_string_string_0))))
  (.seq (.region [oN 60 (.take (tP 0)),
 oN 2 (.take (tP 60))])
  (.ret)))),
  [.tmp 2]⟩
theorem is_slices_Compact_string_string : IsFn Tryz.prog 131 c_slices_Compact_string_string := isFn_of [([], [0]), ([], []), ([], [0, 1]), ([], []), ([], []), (kl2_3, []), ([], []), ([3, 10, 11, 12, 13], []), ([], []), ([], [3]), ([], []), (kl2_2, []), ([], []), ([4, 5, 29, 30, 31, 32], []), ([], []), ([], []), ([], []), ([], []), ([], []), ([], [0, 3]), ([], []), ([], []), ([], [0, 1]), ([], [])] (by kernel_rfl)
abbrev s_slices_IndexFunc_int_int_0 (v0 v1 v7 v8 : AV) : List AV := [v0, v1, undefA, undefA, .any, .any, .any, v7, v8, .any, .any, .any, .any, .any, .any, .any, .any, .any, .any]
abbrev x_slices_IndexFunc_int_int_0  : List AV := [.any, .any, undefA, undefA, .any, .any, .any, .any, .any, .any, .any, .any, .any, .any, .any, .any, .any, .any, .any]
abbrev l_slices_IndexFunc_int_int_0 : CC := .kill kl2_0 (.seq (.region [oN 9 (.bin .lss (tP 8) (tP 7))])
  (.seq (.cond (tP 9) (.skip) (.kill [0, 1, 7, 8, 9] (.exit 0)))
  (.seq (.block 1 (.seq (.region [mV 10 8,
 mV 5 10])
  (.seq (.region [mV 11 1,
 mV 12 0,
 mV 13 5,
 oN 14 (.iaddr 1 none (tP 12) (tP 13)),
 lD 15 14,
 oN 16 (.callv (tP 11) [(tP 15)])])
  (.cond (tP 16) (.seq (.region [mV 17 5,
 mV 4 17])
  (.ret)) (.skip)))))
  (.region [oN 18 (.bin .add (tP 8) (.con (.int .i64 1))),
 mV 8 18]))))
def c_slices_IndexFunc_int_int : CFn := ⟨19, .seq (.region [oN 4 (.mov (.con (.int .i64 0)))])
  (.seq (.seq (.region [mV 6 0,
 oN 7 (.lenl (tP 6)),
 oN 8 (.mov (.con (.int .i64 0)))])
  (.block 0 (.kill kl2_0 (.loop l_slices_IndexFunc_int_int_0))))
  (.seq (.region [oN 4 (.mov (.con (.int .i64 (-1))))])
  (.ret))),
  [.tmp 4]⟩
theorem is_slices_IndexFunc_int_int : IsFn Tryz.prog 139 c_slices_IndexFunc_int_int := isFn_of [([], []), ([], []), (kl2_0, []), ([], []), ([0, 1, 7, 8, 9], []), ([], []), ([], []), ([], []), ([], []), ([], []), ([], []), ([], [])] (by kernel_rfl)
def c_cats_number : CFn := ⟨31, .seq (.region [oN 4 (.mov (.con (.int .i64 0))),
 oN 5 (.mov (.con (.bool false)))])
  (.seq (.region [mV 9 0,
 oN 10 (.call 57 [(tP 9)]),
 mV 8 10,
 oN 11 (.extract 8 0),
 oN 12 (.extract 8 1),
 mV 6 11,
 mV 7 12])
  (.seq (.region [mV 13 6,
 mV 14 7,
 oN 15 (.isnil .ifc false (tP 14)),
 mV 16 15,
 oG 17 (.mov (tP 6)) 16 true,
 oG 18 (.bin .geq (tP 17) (.con (.int .i64 0))) 16 true,
 oN 19 (.pick (tP 16) (tP 18) (.con (.bool false))),
 mV 20 19,
 oG 21 (.mov (tP 6)) 20 true,
 oG 22 (.mov (tP 1)) 20 true,
 oG 23 (.bin .leq (tP 21) (tP 22)) 20 true,
 oN 24 (.pick (tP 20) (tP 23) (.con (.bool false))),
 mV 25 24,
 oG 26 (.mov (tP 6)) 25 true,
 oG 27 (.pcall 67 [(tP 26)]) 25 true,
 oG 28 (.mov (tP 0)) 25 true,
 oG 29 (.bin .eql (tP 27) (tP 28)) 25 true,
 oN 30 (.pick (tP 25) (tP 29) (.con (.bool false))),
 mV 4 13,
 mV 5 30])
  (.ret))),
  [.tmp 4, .tmp 5]⟩
theorem is_cats_number : IsFn Tryz.prog 140 c_cats_number := isFn_of [([], []), ([], []), ([], [14]), ([], [])] (by kernel_rfl)
def c_cmp_Compare_string : CFn := ⟨20, .seq (.region [oN 4 (.mov (.con (.int .i64 0)))])
  (.seq (.region [mV 7 0,
 oN 8 (.pcall 166 [(tP 7)]),
 mV 5 8])
  (.seq (.region [mV 9 1,
 oN 10 (.pcall 166 [(tP 9)]),
 mV 6 10])
  (.seq (.seq (.region [mV 11 5])
  (.cond (tP 11) (.seq (.seq (.region [mV 12 6])
  (.cond (tP 12) (.seq (.region [oN 4 (.mov (.con (.int .i64 0)))])
  (.ret)) (.skip)))
  (.seq (.region [oN 4 (.mov (.con (.int .i64 (-1))))])
  (.ret))) (.skip)))
  (.seq (.seq (.region [mV 13 6])
  (.cond (tP 13) (.seq (.region [oN 4 (.mov (.con (.int .i64 1)))])
  (.ret)) (.skip)))
  (.seq (.seq (.region [mV 14 0,
 mV 15 1,
 oN 16 (.bin .lss (tP 14) (tP 15))])
  (.cond (tP 16) (.seq (.region [oN 4 (.mov (.con (.int .i64 (-1))))])
  (.ret)) (.skip)))
  (.seq (.seq (.region [mV 17 0,
 mV 18 1,
 oN 19 (.bin .gtr (tP 17) (tP 18))])
  (.cond (tP 19) (.seq (.region [oN 4 (.mov (.con (.int .i64 1)))])
  (.ret)) (.skip)))
  (.seq (.region [oN 4 (.mov (.con (.int .i64 0)))])
  (.ret)))))))),
  [.tmp 4]⟩
theorem is_cmp_Compare_string : IsFn Tryz.prog 151 c_cmp_Compare_string := isFn_of [([], []), ([], [1]), ([], [1]), ([], []), ([], []), ([], []), ([], []), ([], []), ([], []), ([], []), ([], []), ([], []), ([], []), ([], []), ([], []), ([], []), ([], []), ([], []), ([], []), ([], [])] (by kernel_rfl)
abbrev s_cmp_Or_int_0 (v3 v6 v7 v8 : AV) : List AV := [.any, undefA, .any, v3, undefA, .any, v6, v7, v8, .any, .any, .any, .any, .any, .any, .any, .any, undefA]
abbrev x_cmp_Or_int_0 (v3 : AV) : List AV := [.any, undefA, .any, v3, undefA, .any, .any, .any, .any, .any, .any, .any, .any, .any, .any, .any, .any, undefA]
abbrev l_cmp_Or_int_0 : CC := .kill kl2_4 (.seq (.region [oN 9 (.bin .lss (tP 8) (tP 7))])
  (.seq (.cond (tP 9) (.skip) (.kill [6, 7, 8, 9] (.exit 0)))
  (.seq (.block 1 (.seq (.region [oN 10 (.iaddr 1 none (tP 6) (tP 8)),
 lD 11 10,
 mV 5 11])
  (.seq (.region [mV 12 5,
 mV 13 3,
 oN 14 (.bin .neq (tP 12) (tP 13))])
  (.cond (tP 14) (.seq (.region [mV 15 5,
 mV 2 15])
  (.ret)) (.skip)))))
  (.region [oN 16 (.bin .add (tP 8) (.con (.int .i64 1))),
 mV 8 16]))))
def c_cmp_Or_int : CFn := ⟨18, .seq (.region [oN 2 (.mov (.con (.int .i64 0)))])
  (.seq (.region [oN 3 (.mov (.con (.int .i64 0)))])
  (.seq (.seq (.region [oN 6 (.take (tP 0)),
 oN 7 (.lenl (tP 6)),
 oN 8 (.mov (.con (.int .i64 0)))])
  (.block 0 (.kill kl2_4 (.loop l_cmp_Or_int_0))))
  (.seq (.region [mV 17 3,
 mV 2 17])
  (.ret)))),
  [.tmp 2]⟩
theorem is_cmp_Or_int : IsFn Tryz.prog 152 c_cmp_Or_int := isFn_of [([], []), ([], []), ([], [0]), (kl2_4, []), ([], []), ([6, 7, 8, 9], []), ([], []), ([], []), ([], []), ([], []), ([], []), ([], []), ([], [])] (by kernel_rfl)
abbrev s_slices_Compare_int_int_0 (v0 v1 v9 v10 v11 : AV) : List AV := [v0, v1, undefA, undefA, .any, .any, .any, .any, .any, v9, v10, v11, .any, .any, .any, .any, .any, .any, .any, .any, .any, .any, .any, .any, .any, .any, .any, .any, .any, .any, .any, undefA, undefA, undefA, undefA, undefA]
abbrev x_slices_Compare_int_int_0 (v0 v1 : AV) : List AV := [v0, v1, undefA, undefA, .any, .any, .any, .any, .any, .any, .any, .any, .any, .any, .any, .any, .any, .any, .any, .any, .any, .any, .any, .any, .any, .any, .any, .any, .any, .any, .any, undefA, undefA, undefA, undefA, undefA]
abbrev l_slices_Compare_int_int_0 : CC := .kill kl2_5 (.seq (.region [oN 12 (.bin .lss (tP 11) (tP 10))])
  (.seq (.cond (tP 12) (.skip) (.kill [9, 10, 11, 12] (.exit 0)))
  (.seq (.block 1 (.seq (.region [mV 13 11,
 oN 14 (.iaddr 1 none (tP 9) (tP 11)),
 lD 15 14,
 mV 5 13,
 mV 6 15])
  (.seq (.seq (.region [mV 16 5,
 mV 17 1,
 oN 18 (.lenl (tP 17)),
 oN 19 (.bin .geq (tP 16) (tP 18))])
  (.cond (tP 19) (.seq (.region [oN 4 (.mov (.con (.int .i64 1)))])
  (.ret)) (.skip)))
  (.seq (.region [mV 20 1,
 mV 21 5,
 oN 22 (.iaddr 1 none (tP 20) (tP 21)),
 lD 23 22,
 mV 7 23])
  (.seq (.region [mV 24 6,
 mV 25 7,
 oN 26 (.pcall 154 [(tP 24), (tP 25)]),
 mV 8 26])
  (.seq (.region [mV 27 8,
 oN 28 (.bin .neq (tP 27) (.con (.int .i64 0)))])
  (.cond (tP 28) (.seq (.region [mV 29 8,
 mV 4 29])
  (.ret)) (.skip))))))))
  (.region [oN 30 (.bin .add (tP 11) (.con (.int .i64 1))),
 mV 11 30]))))
def c_slices_Compare_int_int : CFn := ⟨36, .seq (.region [oN 4 (.mov (.con (.int .i64 0)))])
  (.seq (.seq (.region [mV 9 0,
 oN 10 (.lenl (tP 9)),
 oN 11 (.mov (.con (.int .i64 0)))])
  (.block 0 (.kill kl2_5 (.loop l_slices_Compare_int_int_0))))
  (.seq (.seq (.region [oN 31 (.take (tP 0)),
 oN 32 (.lenl (tP 31)),
 oN 33 (.take (tP 1)),
 oN 34 (.lenl (tP 33)),
 oN 35 (.bin .lss (tP 32) (tP 34))])
  (.cond (tP 35) (.seq (.region [oN 4 (.mov (.con (.int .i64 (-1))))])
  (.ret)) (.skip)))
  (.seq (.region [oN 4 (.mov (.con (.int .i64 0)))])
  (.ret)))),
  [.tmp 4]⟩
theorem is_slices_Compare_int_int : IsFn Tryz.prog 153 c_slices_Compare_int_int := isFn_of [([], []), ([], []), (kl2_5, []), ([], []), ([9, 10, 11, 12], []), ([], []), ([], []), ([], []), ([], []), ([], []), ([], [2]), ([], []), ([], []), ([], []), ([], []), ([], [0, 2]), ([], []), ([], []), ([], []), ([], [])] (by kernel_rfl)
def c_cmp_Compare_int : CFn := ⟨20, .seq (.region [oN 4 (.mov (.con (.int .i64 0)))])
  (.seq (.region [mV 7 0,
 oN 8 (.pcall 167 [(tP 7)]),
 mV 5 8])
  (.seq (.region [mV 9 1,
 oN 10 (.pcall 167 [(tP 9)]),
 mV 6 10])
  (.seq (.seq (.region [mV 11 5])
  (.cond (tP 11) (.seq (.seq (.region [mV 12 6])
  (.cond (tP 12) (.seq (.region [oN 4 (.mov (.con (.int .i64 0)))])
  (.ret)) (.skip)))
  (.seq (.region [oN 4 (.mov (.con (.int .i64 (-1))))])
  (.ret))) (.skip)))
  (.seq (.seq (.region [mV 13 6])
  (.cond (tP 13) (.seq (.region [oN 4 (.mov (.con (.int .i64 1)))])
  (.ret)) (.skip)))
  (.seq (.seq (.region [mV 14 0,
 mV 15 1,
 oN 16 (.bin .lss (tP 14) (tP 15))])
  (.cond (tP 16) (.seq (.region [oN 4 (.mov (.con (.int .i64 (-1))))])
  (.ret)) (.skip)))
  (.seq (.seq (.region [mV 17 0,
 mV 18 1,
 oN 19 (.bin .gtr (tP 17) (tP 18))])
  (.cond (tP 19) (.seq (.region [oN 4 (.mov (.con (.int .i64 1)))])
  (.ret)) (.skip)))
  (.seq (.region [oN 4 (.mov (.con (.int .i64 0)))])
  (.ret)))))))),
  [.tmp 4]⟩
theorem is_cmp_Compare_int : IsFn Tryz.prog 154 c_cmp_Compare_int := isFn_of [([], []), ([], [1]), ([], [1]), ([], []), ([], []), ([], []), ([], []), ([], []), ([], []), ([], []), ([], []), ([], []), ([], []), ([], []), ([], []), ([], []), ([], []), ([], []), ([], []), ([], [])] (by kernel_rfl)
abbrev s_slices_IndexFunc_string_string_0 (v0 v1 v7 v8 : AV) : List AV := [v0, v1, undefA, undefA, .any, .any, .any, v7, v8, .any, .any, .any, .any, .any, .any, .any, .any, .any, .any]
abbrev x_slices_IndexFunc_string_string_0  : List AV := [.any, .any, undefA, undefA, .any, .any, .any, .any, .any, .any, .any, .any, .any, .any, .any, .any, .any, .any, .any]
abbrev l_slices_IndexFunc_string_string_0 : CC := .kill kl2_0 (.seq (.region [oN 9 (.bin .lss (tP 8) (tP 7))])
  (.seq (.cond (tP 9) (.skip) (.kill [0, 1, 7, 8, 9] (.exit 0)))
  (.seq (.block 1 (.seq (.region [mV 10 8,
 mV 5 10])
  (.seq (.region [mV 11 1,
 mV 12 0,
 mV 13 5,
 oN 14 (.iaddr 1 none (tP 12) (tP 13)),
 lD 15 14,
 oN 16 (.callv (tP 11) [(tP 15)])])
  (.cond (tP 16) (.seq (.region [mV 17 5,
 mV 4 17])
  (.ret)) (.skip)))))
  (.region [oN 18 (.bin .add (tP 8) (.con (.int .i64 1))),
 mV 8 18]))))
def c_slices_IndexFunc_string_string : CFn := ⟨19, .seq (.region [oN 4 (.mov (.con (.int .i64 0)))])
  (.seq (.seq (.region [mV 6 0,
 oN 7 (.lenl (tP 6)),
 oN 8 (.mov (.con (.int .i64 0)))])
  (.block 0 (.kill kl2_0 (.loop l_slices_IndexFunc_string_string_0))))
  (.seq (.region [oN 4 (.mov (.con (.int .i64 (-1))))])
  (.ret))),
  [.tmp 4]⟩
theorem is_slices_IndexFunc_string_string : IsFn Tryz.prog 155 c_slices_IndexFunc_string_string := isFn_of [([], []), ([], []), (kl2_0, []), ([], []), ([0, 1, 7, 8, 9], []), ([], []), ([], []), ([], []), ([], []), ([], []), ([], []), ([], [])] (by kernel_rfl)
abbrev s_slices_pdqsortCmpFunc_string_0 (v0 v1 v2 v3 v4 v10 v11 : AV) : List AV := [v0, v1, v2, v3, v4, undefA, undefA, undefA, undefA, undefA, v10, v11, .any, .any, .any, .any, .any, .any, .any, .any, .any, .any, .any, .any, .any, .any, .any, .any, .any, .any, .any, .any, .any, .any, .any, .any, .any, .any, .any, .any, .any, .any, .any, .any, .any, .any, .any, .any, .any, .any, .any, .any, .any, .any, .any, .any, .any, .any, .any, .any, .any, .any, .any, .any, .any, .any, .any, .any, .any, .any, .any, .any, .any, .any, .any, .any, .any, .any, .any, .any, .any, .any, .any, .any, .any, .any, .any, .any, .any, .any, .any, .any, .any, .any, .any, .any, .any, .any, .any, .any, .any, .any, .any, .any, .any, .any, .any, .any, .any, .any, .any, .any, .any, .any, .any, .any, .any, .any, .any, .any, .any, .any, .any, .any, .any, .any, .any, .any, .any, .any, .any, .any, .any, .any, .any, .any, .any, .any, .any, .any, .any, .any, .any, .any, .any, .any, .any, .any]
abbrev x_slices_pdqsortCmpFunc_string_1 (v0 v1 v2 v3 v4 v10 v11 : AV) : List AV := [v0, v1, v2, v3, v4, undefA, undefA, undefA, undefA, undefA, v10, v11, .any, .any, .any, .any, .any, .any, .any, .any, .any, .any, .any, .any, .any, .any, .any, .any, .any, .any, .any, .any, .any, .any, .any, .any, .any, .any, .any, .any, .any, .any, .any, .any, .any, .any, .any, .any, .any, .any, .any, .any, .any, .any, .any, .any, .any, .any, .any, .any, .any, .any, .any, .any, .any, .any, .any, .any, .any, .any, .any, .any, .any, .any, .any, .any, .any, .any, .any, .any, .any, .any, .any, .any, .any, .any, .any, .any, .any, .any, .any, .any, .any, .any, .any, .any, .any, .any, .any, .any, .any, .any, .any, .any, .any, .any, .any, .any, .any, .any, .any, .any, .any, .any, .any, .any, .any, .any, .any, .any, .any, .any, .any, .any, .any, .any, .any, .any, .any, .any, .any, .any, .any, .any, .any, .any, .any, .any, .any, .any, .any, .any, .any, .any, .any, .any, .any, .any]
abbrev l_slices_pdqsortCmpFunc_string_0 : CC := .kill kl2_6 (.block 1 (.seq (.region [mV 21 2,
 mV 22 1,
 oN 23 (.bin .sub (tP 21) (tP 22)),
 mV 12 23])
  (.seq (.seq (.region [mV 24 12,
 oN 25 (.bin .leq (tP 24) (.con (.int .i64 12)))])
  (.cond (tP 25) (.seq (.region [oN 26 (.take (tP 0)),
 mV 27 1,
 mV 28 2,
 mV 29 4,
 oN 30 (.call 168 [(tP 26), (tP 27), (tP 28), (tP 29)])])
  (.ret)) (.skip)))
  (.seq (.seq (.region [mV 31 3,
 oN 32 (.bin .eql (tP 31) (.con (.int .i64 0)))])
  (.cond (tP 32) (.seq (.region [oN 33 (.take (tP 0)),
 mV 34 1,
 mV 35 2,
 mV 36 4,
 oN 37 (.call 169 [(tP 33), (tP 34), (tP 35), (tP 36)])])
  (.ret)) (.skip)))
  (.seq (.seq (.region [mV 38 10,
 oN 39 (.un .not (tP 38))])
  (.cond (tP 39) (.seq (.region [mV 40 0,
 mV 41 1,
 mV 42 2,
 mV 43 4,
 oN 44 (.call 170 [(tP 40), (tP 41), (tP 42), (tP 43)])])
  (.region [mV 45 3,
 oN 46 (.bin .sub (tP 45) (.con (.int .i64 1))),
 mV 3 46])) (.skip)))
  (.seq (.region [mV 48 0,
 mV 49 1,
 mV 50 2,
 mV 51 4,
 oN 52 (.call 171 [(tP 48), (tP 49), (tP 50), (tP 51)]),
 mV 47 52,
 oN 53 (.extract 47 0),
 oN 54 (.extract 47 1),
 mV 13 53,
 mV 14 54])
  (.seq (.seq (.region [mV 55 14,
 oN 56 (.bin .eql (tP 55) (.con (.int .i64 2)))])
  (.cond (tP 56) (.seq (.region [mV 57 0,
 mV 58 1,
 mV 59 2,
 mV 60 4,
 oN 61 (.call 172 [(tP 57), (tP 58), (tP 59), (tP 60)])])
  (.seq (.region [mV 62 2,
 oN 63 (.bin .sub (tP 62) (.con (.int .i64 1))),
 mV 64 13,
 mV 65 1,
 oN 66 (.bin .sub (tP 64) (tP 65)),
 oN 67 (.bin .sub (tP 63) (tP 66)),
 mV 13 67])
  (.region [oN 14 (.mov (.con (.int .i64 1)))]))) (.skip)))
  (.seq (.seq (.region [mV 68 10,
 mV 69 68,
 oG 70 (.mov (tP 11)) 69 true,
 oN 71 (.pick (tP 69) (tP 70) (.con (.bool false))),
 mV 72 71,
 oG 73 (.mov (tP 14)) 72 true,
 oG 74 (.bin .eql (tP 73) (.con (.int .i64 1))) 72 true,
 oN 75 (.pick (tP 72) (tP 74) (.con (.bool false)))])
  (.cond (tP 75) (.seq (.region [mV 76 0,
 mV 77 1,
 mV 78 2,
 mV 79 4,
 oN 80 (.call 173 [(tP 76), (tP 77), (tP 78), (tP 79)])])
  (.cond (tP 80) (.ret) (.skip))) (.skip)))
  (.seq (.seq (.region [mV 81 1,
 oN 82 (.bin .gtr (tP 81) (.con (.int .i64 0))),
 mV 83 82,
 oG 84 (.mov (tP 4)) 83 true,
 oG 85 (.mov (tP 0)) 83 true,
 oG 86 (.mov (tP 1)) 83 true,
 oG 87 (.bin .sub (tP 86) (.con (.int .i64 1))) 83 true,
 oG 88 (.iaddr 1 none (tP 85) (tP 87)) 83 true,
 oG 89 (.load none (tP 88)) 83 true,
 oG 90 (.mov (tP 0)) 83 true,
 oG 91 (.mov (tP 13)) 83 true,
 oG 92 (.iaddr 1 none (tP 90) (tP 91)) 83 true,
 oG 93 (.load none (tP 92)) 83 true,
 oG 94 (.callv (tP 84) [(tP 89), (tP 93)]) 83 true,
 oG 95 (.bin .lss (tP 94) (.con (.int .i64 0))) 83 true,
 oG 96 (.un .not (tP 95)) 83 true,
 oN 97 (.pick (tP 83) (tP 96) (.con (.bool false)))])
  (.cond (tP 97) (.seq (.region [mV 98 0,
 mV 99 1,
 mV 100 2,
 mV 101 13,
 mV 102 4,
 oN 103 (.call 174 [(tP 98), (tP 99), (tP 100), (tP 101), (tP 102)]),
 mV 15 103])
  (.seq (.region [mV 104 15,
 mV 1 104])
  (.kill kl2_9 (.exit 1)))) (.skip)))
  (.seq (.region [mV 106 0,
 mV 107 1,
 mV 108 2,
 mV 109 13,
 mV 110 4,
 oN 111 (.call 175 [(tP 106), (tP 107), (tP 108), (tP 109), (tP 110)]),
 mV 105 111,
 oN 112 (.extract 105 0),
 oN 113 (.extract 105 1),
 mV 16 112,
 mV 17 113])
  (.seq (.region [mV 114 17,
 mV 11 114])
  (.seq (.region [mV 115 16,
 mV 116 1,
 oN 117 (.bin .sub (tP 115) (tP 116)),
 mV 118 2,
 mV 119 16,
 oN 120 (.bin .sub (tP 118) (tP 119)),
 mV 18 117,
 mV 19 120])
  (.seq (.region [mV 121 12,
 oN 122 (.bin .quo (tP 121) (.con (.int .i64 8))),
 mV 20 122])
  (.seq (.region [mV 123 18,
 mV 124 19,
 oN 125 (.bin .lss (tP 123) (tP 124))])
  (.cond (tP 125) (.seq (.region [mV 126 18,
 mV 127 20,
 oN 128 (.bin .geq (tP 126) (tP 127)),
 mV 10 128])
  (.seq (.region [mV 129 0,
 mV 130 1,
 mV 131 16,
 mV 132 3,
 mV 133 4,
 oN 134 (.call 156 [(tP 129), (tP 130), (tP 131), (tP 132), (tP 133)])])
  (.region [mV 135 16,
 oN 136 (.bin .add (tP 135) (.con (.int .i64 1))),
 mV 1 136]))) (.seq (.region [mV 137 19,
 mV 138 20,
 oN 139 (.bin .geq (tP 137) (tP 138)),
 mV 10 139])
  (.seq (.region [mV 140 0,
 mV 141 16,
 oN 142 (.bin .add (tP 141) (.con (.int .i64 1))),
 mV 143 2,
 mV 144 3,
 mV 145 4,
 oN 146 (.call 156 [(tP 140), (tP 142), (tP 143), (tP 144), (tP 145)])])
  (.region [mV 147 16,
 mV 2 147]))))))))))))))))))
def c_slices_pdqsortCmpFunc_string : CFn := ⟨148, .seq (.region [oN 10 (.mov (.con (.bool true)))])
  (.seq (.region [oN 11 (.mov (.con (.bool true)))])
  (.block 0 (.kill kl2_6 (.loop l_slices_pdqsortCmpFunc_string_0)))),
  []⟩
theorem is_slices_pdqsortCmpFunc_string : IsFn Tryz.prog 156 c_slices_pdqsortCmpFunc_string := isFn_of [([], []), ([], []), (kl2_6, []), ([], []), ([], []), ([], [0]), ([], []), ([], []), ([], [0]), ([], []), ([], []), ([], []), ([], []), ([], []), ([], []), ([], []), ([], []), ([], []), ([], []), ([], []), ([], []), ([], []), ([], []), ([], []), (kl2_9, []), ([], []), ([], []), ([], []), ([], []), ([], []), ([], []), ([], []), ([], []), ([], []), ([], []), ([], [])] (by kernel_rfl)
def c_math_bits_Len : CFn := ⟨8, .seq (.region [oN 2 (.mov (.con (.int .i64 0)))])
  (.seq (.cond (.con (.bool false)) (.seq (.region [mV 3 0,
 oN 4 (.cInt .u32 (tP 3)),
 oN 5 (.pcall 176 [(tP 4)]),
 mV 2 5])
  (.ret)) (.skip))
  (.seq (.region [mV 6 0,
 oN 7 (.pcall 177 [(tP 6)]),
 mV 2 7])
  (.ret))),
  [.tmp 2]⟩
theorem is_math_bits_Len : IsFn Tryz.prog 157 c_math_bits_Len := isFn_of [([], []), ([], [2]), ([], []), ([], [1]), ([], [])] (by kernel_rfl)
def c_cmp_isNaN_string : CFn := ⟨6, .seq (.region [oN 2 (.mov (.con (.bool false)))])
  (.seq (.region [mV 3 0,
 mV 4 0,
 oN 5 (.bin .neq (tP 3) (tP 4)),
 mV 2 5])
  (.ret)),
  [.tmp 2]⟩
theorem is_cmp_isNaN_string : IsFn Tryz.prog 166 c_cmp_isNaN_string := isFn_of [([], []), ([], []), ([], [])] (by kernel_rfl)
def c_cmp_isNaN_int : CFn := ⟨6, .seq (.region [oN 2 (.mov (.con (.bool false)))])
  (.seq (.region [mV 3 0,
 mV 4 0,
 oN 5 (.bin .neq (tP 3) (tP 4)),
 mV 2 5])
  (.ret)),
  [.tmp 2]⟩
theorem is_cmp_isNaN_int : IsFn Tryz.prog 167 c_cmp_isNaN_int := isFn_of [([], []), ([], []), ([], [])] (by kernel_rfl)
abbrev s_slices_insertionSortCmpFunc_string_0 (v0 v1 v2 v3 v8 : AV) : List AV := [v0, v1, v2, v3, undefA, undefA, undefA, undefA, v8, .any, .any, .any, .any, .any, .any, .any, .any, .any, .any, .any, .any, .any, .any, .any, .any, .any, .any, .any, .any, .any, .any, .any, .any, .any, .any, .any, .any, .any, .any, .any, .any, .any, .any, .any, .any, .any, .any, .any, .any, .any, .any, .any, .any]
abbrev s_slices_insertionSortCmpFunc_string_1 (v0 v1 v2 v3 v8 v9 : AV) : List AV := [v0, v1, v2, v3, undefA, undefA, undefA, undefA, v8, v9, .any, .any, .any, .any, .any, .any, .any, .any, .any, .any, .any, .any, .any, .any, .any, .any, .any, .any, .any, .any, .any, .any, .any, .any, .any, .any, .any, .any, .any, .any, .any, .any, .any, .any, .any, .any, .any, .any, .any, .any, .any, .any, .any]
abbrev x_slices_insertionSortCmpFunc_string_0  : List AV := [.any, .any, .any, .any, undefA, undefA, undefA, undefA, .any, .any, .any, .any, .any, .any, .any, .any, .any, .any, .any, .any, .any, .any, .any, .any, .any, .any, .any, .any, .any, .any, .any, .any, .any, .any, .any, .any, .any, .any, .any, .any, .any, .any, .any, .any, .any, .any, .any, .any, .any, .any, .any, .any, .any]
abbrev x_slices_insertionSortCmpFunc_string_2 (v0 v1 v2 v3 v8 : AV) : List AV := [v0, v1, v2, v3, undefA, undefA, undefA, undefA, v8, .any, .any, .any, .any, .any, .any, .any, .any, .any, .any, .any, .any, .any, .any, .any, .any, .any, .any, .any, .any, .any, .any, .any, .any, .any, .any, .any, .any, .any, .any, .any, .any, .any, .any, .any, .any, .any, .any, .any, .any, .any, .any, .any, .any]
abbrev l_slices_insertionSortCmpFunc_string_1 : CC := .kill kl2_7 (.seq (.seq (.region [mV 18 9,
 mV 19 1,
 oN 20 (.bin .gtr (tP 18) (tP 19)),
 mV 21 20,
 oG 22 (.mov (tP 3)) 21 true,
 oG 23 (.mov (tP 0)) 21 true,
 oG 24 (.mov (tP 9)) 21 true,
 oG 25 (.iaddr 1 none (tP 23) (tP 24)) 21 true,
 oG 26 (.load none (tP 25)) 21 true,
 oG 27 (.mov (tP 0)) 21 true,
 oG 28 (.mov (tP 9)) 21 true,
 oG 29 (.bin .sub (tP 28) (.con (.int .i64 1))) 21 true,
 oG 30 (.iaddr 1 none (tP 27) (tP 29)) 21 true,
 oG 31 (.load none (tP 30)) 21 true,
 oG 32 (.callv (tP 22) [(tP 26), (tP 31)]) 21 true,
 oG 33 (.bin .lss (tP 32) (.con (.int .i64 0))) 21 true,
 oN 34 (.pick (tP 21) (tP 33) (.con (.bool false)))])
  (.cond (tP 34) (.skip) (.kill kl2_10 (.exit 2))))
  (.seq (.block 3 (.region [mV 37 0,
 mV 38 9,
 mV 39 0,
 mV 40 9,
 oN 41 (.bin .sub (tP 40) (.con (.int .i64 1))),
 mV 42 0,
 mV 43 9,
 oN 44 (.bin .sub (tP 43) (.con (.int .i64 1))),
 oN 45 (.iaddr 1 none (tP 42) (tP 44)),
 lD 46 45,
 mV 47 0,
 mV 48 9,
 oN 49 (.iaddr 1 none (tP 47) (tP 48)),
 lD 50 49,
 oN 51 (.iaddr 1 none (tP 37) (tP 38)),
 ⟨none, .store 1 (tP 51) (tP 46), none⟩,
 oN 52 (.iaddr 1 none (tP 39) (tP 41)),
 ⟨none, .store 1 (tP 52) (tP 50), none⟩]))
  (.region [mV 35 9,
 oN 36 (.bin .sub (tP 35) (.con (.int .i64 1))),
 mV 9 36])))
abbrev l_slices_insertionSortCmpFunc_string_0 : CC := .kill kl2_8 (.seq (.seq (.region [mV 12 8,
 mV 13 2,
 oN 14 (.bin .lss (tP 12) (tP 13))])
  (.cond (tP 14) (.skip) (.kill kl2_11 (.exit 0))))
  (.seq (.block 1 (.seq (.region [mV 17 8,
 mV 9 17])
  (.block 2 (.kill kl2_7 (.loop l_slices_insertionSortCmpFunc_string_1)))))
  (.region [mV 15 8,
 oN 16 (.bin .add (tP 15) (.con (.int .i64 1))),
 mV 8 16])))
def c_slices_insertionSortCmpFunc_string : CFn := ⟨53, .seq (.region [mV 10 1,
 oN 11 (.bin .add (tP 10) (.con (.int .i64 1))),
 mV 8 11])
  (.block 0 (.kill kl2_8 (.loop l_slices_insertionSortCmpFunc_string_0))),
  []⟩
theorem is_slices_insertionSortCmpFunc_string : IsFn Tryz.prog 168 c_slices_insertionSortCmpFunc_string := isFn_of [([], []), (kl2_8, []), ([], []), (kl2_11, []), ([], []), (kl2_7, []), ([], []), (kl2_10, []), ([], []), ([], []), ([], [])] (by kernel_rfl)
def c_math_bits_Len32 : CFn := ⟨19, .seq (.region [oN 2 (.mov (.con (.int .i64 0)))])
  (.seq (.seq (.region [mV 3 0,
 oN 4 (.bin .geq (tP 3) (.con (.int .u32 65536)))])
  (.cond (tP 4) (.seq (.region [mV 5 0,
 oN 6 (.bin .shr (tP 5) (.con (.int .u64 16))),
 mV 0 6])
  (.region [oN 2 (.mov (.con (.int .i64 16)))])) (.skip)))
  (.seq (.seq (.region [mV 7 0,
 oN 8 (.bin .geq (tP 7) (.con (.int .u32 256)))])
  (.cond (tP 8) (.seq (.region [mV 9 0,
 oN 10 (.bin .shr (tP 9) (.con (.int .u64 8))),
 mV 0 10])
  (.region [mV 11 2,
 oN 12 (.bin .add (tP 11) (.con (.int .i64 8))),
 mV 2 12])) (.skip)))
  (.seq (.region [mV 13 2,
 mV 14 0,
 oN 15 (.cInt .u8 (tP 14)),
 oN 16 (.idxs (.con (.str ⟨#[0, 1, 2, 2, 3, 3, 3, 3, 4, 4, 4, 4, 4, 4, 4, 4, 5, 5, 5, 5, 5, 5, 5, 5, 5, 5, 5, 5, 5, 5, 5, 5, 6, 6, 6, 6, 6, 6, 6, 6, 6, 6, 6, 6, 6, 6, 6, 6, 6, 6, 6, 6, 6, 6, 6, 6, 6, 6, 6, 6, 6, 6, 6, 6, 7, 7, 7, 7, 7, 7, 7, 7, 7, 7, 7, 7, 7, 7, 7, 7, 7, 7, 7, 7, 7, 7, 7, 7, 7, 7, 7, 7, 7, 7, 7, 7, 7, 7, 7, 7, 7, 7, 7, 7, 7, 7, 7, 7, 7, 7, 7, 7, 7, 7, 7, 7, 7, 7, 7, 7, 7, 7, 7, 7, 7, 7, 7, 7, 8, 8, 8, 8, 8, 8, 8, 8, 8, 8, 8, 8, 8, 8, 8, 8, 8, 8, 8, 8, 8, 8, 8, 8, 8, 8, 8, 8, 8, 8, 8, 8, 8, 8, 8, 8, 8, 8, 8, 8, 8, 8, 8, 8, 8, 8, 8, 8, 8, 8, 8, 8, 8, 8, 8, 8, 8, 8, 8, 8, 8, 8, 8, 8, 8, 8, 8, 8, 8, 8, 8, 8, 8, 8, 8, 8, 8, 8, 8, 8, 8, 8, 8, 8, 8, 8, 8, 8, 8, 8, 8, 8, 8, 8, 8, 8, 8, 8, 8, 8, 8, 8, 8, 8, 8, 8, 8, 8, 8, 8, 8, 8, 8, 8, 8, 8, 8, 8, 8, 8, 8, 8, 8, 8, 8, 8, 8, 8]⟩)) (tP 15)),
 oN 17 (.cInt .i64 (tP 16)),
 oN 18 (.bin .add (tP 13) (tP 17)),
 mV 2 18])
  (.ret)))),
  [.tmp 2]⟩
theorem is_math_bits_Len32 : IsFn Tryz.prog 176 c_math_bits_Len32 := isFn_of [([], []), ([], []), ([], []), ([], []), ([], []), ([], []), ([], []), ([], []), ([], [])] (by kernel_rfl)
def c_math_bits_Len64 : CFn := ⟨25, .seq (.region [oN 2 (.mov (.con (.int .i64 0)))])
  (.seq (.seq (.region [mV 3 0,
 oN 4 (.bin .geq (tP 3) (.con (.int .u64 4294967296)))])
  (.cond (tP 4) (.seq (.region [mV 5 0,
 oN 6 (.bin .shr (tP 5) (.con (.int .u64 32))),
 mV 0 6])
  (.region [oN 2 (.mov (.con (.int .i64 32)))])) (.skip)))
  (.seq (.seq (.region [mV 7 0,
 oN 8 (.bin .geq (tP 7) (.con (.int .u64 65536)))])
  (.cond (tP 8) (.seq (.region [mV 9 0,
 oN 10 (.bin .shr (tP 9) (.con (.int .u64 16))),
 mV 0 10])
  (.region [mV 11 2,
 oN 12 (.bin .add (tP 11) (.con (.int .i64 16))),
 mV 2 12])) (.skip)))
  (.seq (.seq (.region [mV 13 0,
 oN 14 (.bin .geq (tP 13) (.con (.int .u64 256)))])
  (.cond (tP 14) (.seq (.region [mV 15 0,
 oN 16 (.bin .shr (tP 15) (.con (.int .u64 8))),
 mV 0 16])
  (.region [mV 17 2,
 oN 18 (.bin .add (tP 17) (.con (.int .i64 8))),
 mV 2 18])) (.skip)))
  (.seq (.region [mV 19 2,
 mV 20 0,
 oN 21 (.cInt .u8 (tP 20)),
 oN 22 (.idxs (.con (.str ⟨#[0, 1, 2, 2, 3, 3, 3, 3, 4, 4, 4, 4, 4, 4, 4, 4, 5, 5, 5, 5, 5, 5, 5, 5, 5, 5, 5, 5, 5, 5, 5, 5, 6, 6, 6, 6, 6, 6, 6, 6, 6, 6, 6, 6, 6, 6, 6, 6, 6, 6, 6, 6, 6, 6, 6, 6, 6, 6, 6, 6, 6, 6, 6, 6, 7, 7, 7, 7, 7, 7, 7, 7, 7, 7, 7, 7, 7, 7, 7, 7, 7, 7, 7, 7, 7, 7, 7, 7, 7, 7, 7, 7, 7, 7, 7, 7, 7, 7, 7, 7, 7, 7, 7, 7, 7, 7, 7, 7, 7, 7, 7, 7, 7, 7, 7, 7, 7, 7, 7, 7, 7, 7, 7, 7, 7, 7, 7, 7, 8, 8, 8, 8, 8, 8, 8, 8, 8, 8, 8, 8, 8, 8, 8, 8, 8, 8, 8, 8, 8, 8, 8, 8, 8, 8, 8, 8, 8, 8, 8, 8, 8, 8, 8, 8, 8, 8, 8, 8, 8, 8, 8, 8, 8, 8, 8, 8, 8, 8, 8, 8, 8, 8, 8, 8, 8, 8, 8, 8, 8, 8, 8, 8, 8, 8, 8, 8, 8, 8, 8, 8, 8, 8, 8, 8, 8, 8, 8, 8, 8, 8, 8, 8, 8, 8, 8, 8, 8, 8, 8, 8, 8, 8, 8, 8, 8, 8, 8, 8, 8, 8, 8, 8, 8, 8, 8, 8, 8, 8, 8, 8, 8, 8, 8, 8, 8, 8, 8, 8, 8, 8, 8, 8, 8, 8, 8, 8]⟩)) (tP 21)),
 oN 23 (.cInt .i64 (tP 22)),
 oN 24 (.bin .add (tP 19) (tP 23)),
 mV 2 24])
  (.ret))))),
  [.tmp 2]⟩
theorem is_math_bits_Len64 : IsFn Tryz.prog 177 c_math_bits_Len64 := isFn_of [([], []), ([], []), ([], []), ([], []), ([], []), ([], []), ([], []), ([], []), ([], []), ([], []), ([], []), ([], [])] (by kernel_rfl)
end Go.Proofs.YtibchilpaaiecaaGreatDoor.F
