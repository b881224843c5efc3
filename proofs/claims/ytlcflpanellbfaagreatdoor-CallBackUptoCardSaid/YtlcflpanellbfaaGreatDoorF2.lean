/- Functions of the program, compiled, by a program (gen.py). -/
import Derived.Test.YtlcflpanellbfaaGreatDoorProg
import Derived.KernelRfl
import Derived.Test.YtlcflpanellbfaaGreatDoorM19
import Derived.Test.YtlcflpanellbfaaGreatDoorF1
set_option maxRecDepth 100000
namespace Go.Proofs.YtlcflpanellbfaaGreatDoor.F
open Go.Proofs.YtlcflpanellbfaaGreatDoor.M Go.Proofs Go.RowKit

/-- regency/path.number -/
def c_path_number : CFn := ⟨9, .seq (.region [⟨some 2, .mov (.con (.bool false)), none⟩])
  (.seq (.region [⟨some 3, .mov (.tmp 0), none⟩,
    ⟨some 4, .bin .geq (.tmp 3) (.con (.int .i64 0)), none⟩,
    ⟨some 5, .mov (.tmp 4), none⟩,
    ⟨some 6, .mov (.tmp 0), (some (5, true))⟩,
    ⟨some 7, .bin .leq (.tmp 6) (.con (.int .i64 1048576)), (some (5, true))⟩,
    ⟨some 8, .pick (.tmp 5) (.tmp 7) (.con (.bool false)), none⟩,
    ⟨some 2, .mov (.tmp 8), none⟩])
  (.ret)),
  [.tmp 2]⟩
theorem is_path_number : IsFn Tryz.prog 95 c_path_number := isFn_of [([], []), ([], []), ([], [])] (by kernel_rfl)

/-- regency/label.at -/
def c_label_at : CFn := ⟨9, .seq (.region [⟨some 2, .box (.tmp 0), none⟩,
    ⟨some 4, .mov (.con (.int .i64 0)), none⟩])
  (.seq (.region [⟨some 5, .faddr 0 (.tmp 2), none⟩,
    ⟨some 6, .load none (.tmp 5), none⟩,
    ⟨some 7, .mov (.tmp 1), none⟩,
    ⟨some 8, .pcall 103 [(.tmp 6), (.tmp 7)], none⟩,
    ⟨some 4, .mov (.tmp 8), none⟩])
  (.ret)),
  [.tmp 4]⟩
theorem is_label_at : IsFn Tryz.prog 96 c_label_at := isFn_of [([], []), ([], [3]), ([], [])] (by kernel_rfl)

abbrev l_cats_Parse_1 : CC := .block 1 (.seq (.region [⟨some 38, .mov (.tmp 11), none⟩,
    ⟨some 39, .pcall 109 [(.tmp 38), (.con (.int .i64 1048576))], none⟩,
    ⟨some 37, .mov (.tmp 39), none⟩,
    ⟨some 40, .extract 37 0, none⟩,
    ⟨some 41, .extract 37 1, none⟩,
    ⟨some 12, .mov (.tmp 40), none⟩,
    ⟨some 13, .mov (.tmp 41), none⟩])
  (.seq (.seq (.region [⟨some 42, .mov (.tmp 13), none⟩,
    ⟨some 43, .un .not (.tmp 42), none⟩,
    ⟨some 44, .mov (.tmp 43), none⟩,
    ⟨some 45, .load none (.tmp 10), (some (44, false))⟩,
    ⟨some 46, .lenl (.tmp 45), (some (44, false))⟩,
    ⟨some 47, .bin .eql (.tmp 46) (.con (.int .i64 6)), (some (44, false))⟩,
    ⟨some 48, .pick (.tmp 44) (.con (.bool true)) (.tmp 47), none⟩])
  (.cond (.tmp 48) (.seq (.region [⟨none, .store 1 (.tmp 2) (.con (.sl .ex [])), none⟩,
    ⟨none, .store 1 (.tmp 3) (.con (.int .i64 0)), none⟩,
    ⟨none, .store 1 (.tmp 4) (.con (.bool false)), none⟩])
  (.ret)) (.skip)))
  (.region [⟨some 49, .ltake (.tmp 10), none⟩,
    ⟨some 50, .mov (.tmp 12), none⟩,
    ⟨some 51, .bslice 1 false [(.tmp 50)], none⟩,
    ⟨some 52, .append 1 8 false (.tmp 49) (.tmp 51), none⟩,
    ⟨none, .store 1 (.tmp 10) (.tmp 52), none⟩])))
abbrev l_cats_Parse_0 : CC := .region [⟨some 11, .mov (.tmp 36), none⟩]
/-- regency/cats.Parse -/
def c_cats_Parse : CFn := ⟨55, .seq (.region [⟨some 2, .alloc [.sl .ex []], none⟩,
    ⟨some 3, .alloc [.int .i64 0], none⟩,
    ⟨some 4, .alloc [.bool false], none⟩])
  (.seq (.region [⟨some 15, .mov (.tmp 0), none⟩,
    ⟨some 16, .pcall 108 [(.tmp 15), (.con (.str ⟨#[47]⟩))], none⟩,
    ⟨some 14, .mov (.tmp 16), none⟩,
    ⟨some 17, .extract 14 0, none⟩,
    ⟨some 18, .extract 14 1, none⟩,
    ⟨some 19, .extract 14 2, none⟩,
    ⟨some 5, .mov (.tmp 17), none⟩,
    ⟨some 6, .mov (.tmp 18), none⟩,
    ⟨some 7, .mov (.tmp 19), none⟩])
  (.seq (.region [⟨some 21, .mov (.tmp 6), none⟩,
    ⟨some 22, .pcall 109 [(.tmp 21), (.con (.int .i64 65535))], none⟩,
    ⟨some 20, .mov (.tmp 22), none⟩,
    ⟨some 23, .extract 20 0, none⟩,
    ⟨some 24, .extract 20 1, none⟩,
    ⟨some 8, .mov (.tmp 23), none⟩,
    ⟨some 9, .mov (.tmp 24), none⟩])
  (.seq (.seq (.region [⟨some 25, .mov (.tmp 7), none⟩,
    ⟨some 26, .un .not (.tmp 25), none⟩,
    ⟨some 27, .mov (.tmp 26), none⟩,
    ⟨some 28, .mov (.tmp 9), (some (27, false))⟩,
    ⟨some 29, .un .not (.tmp 28), (some (27, false))⟩,
    ⟨some 30, .pick (.tmp 27) (.con (.bool true)) (.tmp 29), none⟩])
  (.cond (.tmp 30) (.seq (.region [⟨none, .store 1 (.tmp 2) (.con (.sl .ex [])), none⟩,
    ⟨none, .store 1 (.tmp 3) (.con (.int .i64 0)), none⟩,
    ⟨none, .store 1 (.tmp 4) (.con (.bool false)), none⟩])
  (.ret)) (.skip)))
  (.seq (.seq (.region [⟨some 31, .mov (.tmp 5), none⟩,
    ⟨some 32, .bin .eql (.tmp 31) (.con (.str ⟨#[]⟩)), none⟩])
  (.cond (.tmp 32) (.seq (.region [⟨some 33, .mov (.tmp 8), none⟩,
    ⟨none, .store 1 (.tmp 2) (.con (.sl .ex [])), none⟩,
    ⟨none, .store 1 (.tmp 3) (.tmp 33), none⟩,
    ⟨none, .store 1 (.tmp 4) (.con (.bool true)), none⟩])
  (.ret)) (.skip)))
  (.seq (.region [⟨some 10, .alloc [.sl .ex []], none⟩])
  (.seq (.seq (.region [⟨some 34, .mov (.tmp 5), none⟩,
    ⟨some 35, .call 110 [(.tmp 34), (.con (.str ⟨#[46]⟩))], none⟩])
  (.block 0 (.rsplit (.tmp 35) 36 l_cats_Parse_0 l_cats_Parse_1)))
  (.seq (.region [⟨some 53, .load none (.tmp 10), none⟩,
    ⟨some 54, .mov (.tmp 8), none⟩,
    ⟨none, .store 1 (.tmp 2) (.tmp 53), none⟩,
    ⟨none, .store 1 (.tmp 3) (.tmp 54), none⟩,
    ⟨none, .store 1 (.tmp 4) (.con (.bool true)), none⟩])
  (.ret)))))))),
  [.cell 2 none, .cell 3 none, .cell 4 none]⟩
theorem is_cats_Parse : IsFn Tryz.prog 98 c_cats_Parse := isFn_of [([], []), ([], [1]), ([], [1]), ([], []), ([], []), ([], []), ([], []), ([], []), ([], []), ([], []), ([], []), ([], []), ([], [1]), ([], []), ([], []), ([], []), ([], [0]), ([], []), ([], [])] (by kernel_rfl)

abbrev s_slices_IndexFunc_int_int_0 (v0 v1 v7 v8 : AV) : List AV := [v0, v1, undefA, undefA, .any, .any, .any, v7, v8, .any, .any, .any, .any, .any, .any, .any, .any, .any, .any]
abbrev x_slices_IndexFunc_int_int_0  : List AV := [.any, .any, undefA, undefA, .any, .any, .any, .any, .any, .any, .any, .any, .any, .any, .any, .any, .any, .any, .any]
abbrev l_slices_IndexFunc_int_int_0 : CC := .kill [4, 5, 6, 9, 10, 11, 12, 13, 14, 15, 16, 17, 18] (.seq (.region [⟨some 9, .bin .lss (.tmp 8) (.tmp 7), none⟩])
  (.seq (.cond (.tmp 9) (.skip) (.kill [0, 1, 7, 8, 9] (.exit 0)))
  (.seq (.block 1 (.seq (.region [⟨some 10, .mov (.tmp 8), none⟩,
    ⟨some 5, .mov (.tmp 10), none⟩])
  (.seq (.region [⟨some 11, .mov (.tmp 1), none⟩,
    ⟨some 12, .mov (.tmp 0), none⟩,
    ⟨some 13, .mov (.tmp 5), none⟩,
    ⟨some 14, .iaddr 1 none (.tmp 12) (.tmp 13), none⟩,
    ⟨some 15, .load none (.tmp 14), none⟩,
    ⟨some 16, .callv (.tmp 11) [(.tmp 15)], none⟩])
  (.cond (.tmp 16) (.seq (.region [⟨some 17, .mov (.tmp 5), none⟩,
    ⟨some 4, .mov (.tmp 17), none⟩])
  (.ret)) (.skip)))))
  (.region [⟨some 18, .bin .add (.tmp 8) (.con (.int .i64 1)), none⟩,
    ⟨some 8, .mov (.tmp 18), none⟩]))))
/-- slices.IndexFunc[[]int,int] -/
def c_slices_IndexFunc_int_int : CFn := ⟨19, .seq (.region [⟨some 4, .mov (.con (.int .i64 0)), none⟩])
  (.seq (.seq (.region [⟨some 6, .mov (.tmp 0), none⟩,
    ⟨some 7, .lenl (.tmp 6), none⟩,
    ⟨some 8, .mov (.con (.int .i64 0)), none⟩])
  (.block 0 (.kill [4, 5, 6, 9, 10, 11, 12, 13, 14, 15, 16, 17, 18] (.loop l_slices_IndexFunc_int_int_0))))
  (.seq (.region [⟨some 4, .mov (.con (.int .i64 (-1))), none⟩])
  (.ret))),
  [.tmp 4]⟩
theorem is_slices_IndexFunc_int_int : IsFn Tryz.prog 102 c_slices_IndexFunc_int_int := isFn_of [([], []), ([], []), ([4, 5, 6, 9, 10, 11, 12, 13, 14, 15, 16, 17, 18], []), ([], []), ([0, 1, 7, 8, 9], []), ([], []), ([], []), ([], []), ([], []), ([], []), ([], []), ([], [])] (by kernel_rfl)

/-- regency/cats.Compare -/
def c_cats_Compare : CFn := ⟨47, .seq (.region [⟨some 4, .mov (.con (.int .i64 0)), none⟩])
  (.seq (.region [⟨some 12, .mov (.tmp 0), none⟩,
    ⟨some 13, .pcall 98 [(.tmp 12)], none⟩,
    ⟨some 11, .take (.tmp 13), none⟩,
    ⟨some 14, .extract 11 0, none⟩,
    ⟨some 15, .extract 11 1, none⟩,
    ⟨some 16, .extract 11 2, none⟩,
    ⟨some 5, .take (.tmp 14), none⟩,
    ⟨some 6, .mov (.tmp 15), none⟩,
    ⟨some 7, .mov (.tmp 16), none⟩])
  (.seq (.region [⟨some 18, .mov (.tmp 1), none⟩,
    ⟨some 19, .pcall 98 [(.tmp 18)], none⟩,
    ⟨some 17, .take (.tmp 19), none⟩,
    ⟨some 20, .extract 17 0, none⟩,
    ⟨some 21, .extract 17 1, none⟩,
    ⟨some 22, .extract 17 2, none⟩,
    ⟨some 8, .take (.tmp 20), none⟩,
    ⟨some 9, .mov (.tmp 21), none⟩,
    ⟨some 10, .mov (.tmp 22), none⟩])
  (.seq (.block 0 (.seq (.region [⟨some 24, .mov (.tmp 7), none⟩,
    ⟨some 25, .un .not (.tmp 24), none⟩,
    ⟨some 26, .mov (.tmp 25), none⟩,
    ⟨some 27, .mov (.tmp 10), (some (26, true))⟩,
    ⟨some 28, .un .not (.tmp 27), (some (26, true))⟩,
    ⟨some 29, .pick (.tmp 26) (.tmp 28) (.con (.bool false)), none⟩,
    ⟨some 23, .mov (.tmp 29), none⟩])
  (.cond (.tmp 23) (.seq (.region [⟨some 30, .mov (.tmp 0), none⟩,
    ⟨some 31, .mov (.tmp 1), none⟩,
    ⟨some 32, .pcall 111 [(.tmp 30), (.tmp 31)], none⟩,
    ⟨some 4, .mov (.tmp 32), none⟩])
  (.ret)) (.seq (.region [⟨some 34, .mov (.tmp 7), none⟩,
    ⟨some 35, .un .not (.tmp 34), none⟩,
    ⟨some 33, .mov (.tmp 35), none⟩])
  (.cond (.tmp 33) (.seq (.region [⟨some 4, .mov (.con (.int .i64 1)), none⟩])
  (.ret)) (.seq (.region [⟨some 37, .mov (.tmp 10), none⟩,
    ⟨some 38, .un .not (.tmp 37), none⟩,
    ⟨some 36, .mov (.tmp 38), none⟩])
  (.cond (.tmp 36) (.seq (.region [⟨some 4, .mov (.con (.int .i64 (-1))), none⟩])
  (.ret)) (.skip))))))))
  (.seq (.region [⟨some 39, .take (.tmp 5), none⟩,
    ⟨some 40, .take (.tmp 8), none⟩,
    ⟨some 41, .pcall 113 [(.tmp 39), (.tmp 40)], none⟩,
    ⟨some 42, .mov (.tmp 6), none⟩,
    ⟨some 43, .mov (.tmp 9), none⟩,
    ⟨some 44, .pcall 114 [(.tmp 42), (.tmp 43)], none⟩,
    ⟨some 45, .bslice 1 false [(.tmp 41), (.tmp 44)], none⟩,
    ⟨some 46, .pcall 112 [(.tmp 45)], none⟩,
    ⟨some 4, .mov (.tmp 46), none⟩])
  (.ret))))),
  [.tmp 4]⟩
theorem is_cats_Compare : IsFn Tryz.prog 103 c_cats_Compare := isFn_of [([], []), ([], [1, 2, 6]), ([], [1, 2, 6]), ([], []), ([], [2]), ([], []), ([], []), ([], []), ([], []), ([], []), ([], []), ([], []), ([], [0, 1, 2, 5, 7]), ([], [])] (by kernel_rfl)

abbrev s_slices_DeleteFunc_string_string_0 (v0 v1 v5 v6 : AV) : List AV := [v0, v1, undefA, undefA, .any, v5, v6, .any, .any, .any, .any, .any, .any, undefA, .any, .any, .any, .any, .any, .any, .any, .any, .any, .any, .any, .any, .any, .any, .any, .any, .any, .any, .any, .any, .any, .any, undefA, undefA, undefA, undefA, undefA, undefA]
abbrev x_slices_DeleteFunc_string_string_0 (v0 v5 : AV) : List AV := [v0, .any, undefA, undefA, .any, v5, .any, .any, .any, .any, .any, .any, .any, undefA, .any, .any, .any, .any, .any, .any, .any, .any, .any, .any, .any, .any, .any, .any, .any, .any, .any, .any, .any, .any, .any, .any, undefA, undefA, undefA, undefA, undefA, undefA]
abbrev l_slices_DeleteFunc_string_string_0 : CC := .kill [4, 7, 8, 9, 10, 11, 12, 14, 15, 16, 17, 18, 19, 20, 21, 22, 23, 24, 25, 26, 27, 28, 29, 30, 31, 32, 33, 34, 35] (.seq (.seq (.region [⟨some 16, .mov (.tmp 6), none⟩,
    ⟨some 17, .mov (.tmp 0), none⟩,
    ⟨some 18, .lenl (.tmp 17), none⟩,
    ⟨some 19, .bin .lss (.tmp 16) (.tmp 18), none⟩])
  (.cond (.tmp 19) (.skip) (.kill [1, 6, 16, 17, 18, 19] (.exit 0))))
  (.seq (.block 1 (.seq (.region [⟨some 22, .mov (.tmp 0), none⟩,
    ⟨some 23, .mov (.tmp 6), none⟩,
    ⟨some 24, .iaddr 1 none (.tmp 22) (.tmp 23), none⟩,
    ⟨some 25, .load none (.tmp 24), none⟩,
    ⟨some 7, .mov (.tmp 25), none⟩])
  (.seq (.region [⟨some 26, .mov (.tmp 1), none⟩,
    ⟨some 27, .mov (.tmp 7), none⟩,
    ⟨some 28, .callv (.tmp 26) [(.tmp 27)], none⟩,
    ⟨some 29, .un .not (.tmp 28), none⟩])
  (.cond (.tmp 29) (.seq (.region [⟨some 30, .mov (.tmp 0), none⟩,
    ⟨some 31, .mov (.tmp 5), none⟩,
    ⟨some 32, .mov (.tmp 7), none⟩,
    ⟨some 33, .iaddr 1 none (.tmp 30) (.tmp 31), none⟩,
    ⟨none, .store 1 (.tmp 33) (.tmp 32), none⟩])
  (.region [⟨some 34, .mov (.tmp 5), none⟩,
    ⟨some 35, .bin .add (.tmp 34) (.con (.int .i64 1)), none⟩,
    ⟨some 5, .mov (.tmp 35), none⟩])) (.skip)))))
  (.region [⟨some 20, .mov (.tmp 6), none⟩,
    ⟨some 21, .bin .add (.tmp 20) (.con (.int .i64 1)), none⟩,
    ⟨some 6, .mov (.tmp 21), none⟩])))
/-- slices.DeleteFunc[[]string,string] -/
def c_slices_DeleteFunc_string_string : CFn := ⟨42, .seq (.region [⟨some 4, .take (.con (.sl .ex [])), none⟩])
  (.seq (.region [⟨some 8, .mov (.tmp 0), none⟩,
    ⟨some 9, .mov (.tmp 1), none⟩,
    ⟨some 10, .call 115 [(.tmp 8), (.tmp 9)], none⟩,
    ⟨some 5, .mov (.tmp 10), none⟩])
  (.seq (.seq (.region [⟨some 11, .mov (.tmp 5), none⟩,
    ⟨some 12, .bin .eql (.tmp 11) (.con (.int .i64 (-1))), none⟩])
  (.cond (.tmp 12) (.seq (.region [⟨some 13, .take (.tmp 0), none⟩,
    ⟨some 4, .take (.tmp 13), none⟩])
  (.ret)) (.skip)))
  (.seq (.seq (.region [⟨some 14, .mov (.tmp 5), none⟩,
    ⟨some 15, .bin .add (.tmp 14) (.con (.int .i64 1)), none⟩,
    ⟨some 6, .mov (.tmp 15), none⟩])
  (.block 0 (.kill [4, 7, 8, 9, 10, 11, 12, 14, 15, 16, 17, 18, 19, 20, 21, 22, 23, 24, 25, 26, 27, 28, 29, 30, 31, 32, 33, 34, 35] (.loop l_slices_DeleteFunc_string_string_0))))
  (.seq (.region [⟨some 36, .mov (.tmp 0), none⟩,
    ⟨some 37, .mov (.tmp 5), none⟩,
    ⟨some 38, .slice (some 1) (.tmp 36) (some (.tmp 37)) none none, none⟩,
    ⟨none, .clr [.str ⟨#[]⟩] (.tmp 38), none⟩])
  (.seq (.region [⟨some 39, .take (.tmp 0), none⟩,
    ⟨some 40, .mov (.tmp 5), none⟩,
    ⟨some 41, .slice (some 1) (.tmp 39) none (some (.tmp 40)) none, none⟩,
    ⟨some 4, .take (.tmp 41), none⟩])
  (.ret)))))),
  [.tmp 4]⟩
theorem is_slices_DeleteFunc_string_string : IsFn Tryz.prog 104 c_slices_DeleteFunc_string_string := isFn_of [([], [0]), ([], []), ([], []), ([], [0, 1]), ([], []), ([], []), ([4, 7, 8, 9, 10, 11, 12, 14, 15, 16, 17, 18, 19, 20, 21, 22, 23, 24, 25, 26, 27, 28, 29, 30, 31, 32, 33, 34, 35], []), ([], []), ([1, 6, 16, 17, 18, 19], []), ([], []), ([], []), ([], []), ([], []), ([], []), ([], []), ([], [0, 3]), ([], [])] (by kernel_rfl)

/-- regency/cats.Sort$1 -/
def c_cats_Sort_1 : CFn := ⟨6, .seq (.region [⟨some 2, .mov (.con (.bool false)), none⟩])
  (.seq (.region [⟨some 3, .mov (.tmp 0), none⟩,
    ⟨some 4, .pcall 70 [(.tmp 3)], none⟩,
    ⟨some 5, .un .not (.tmp 4), none⟩,
    ⟨some 2, .mov (.tmp 5), none⟩])
  (.ret)),
  [.tmp 2]⟩
theorem is_cats_Sort_1 : IsFn Tryz.prog 105 c_cats_Sort_1 := isFn_of [([], []), ([], [1]), ([], [])] (by kernel_rfl)

/-- slices.SortFunc[[]string,string] -/
def c_slices_SortFunc_string_string : CFn := ⟨14, .seq (.region [⟨some 5, .mov (.tmp 0), none⟩,
    ⟨some 6, .lenl (.tmp 5), none⟩,
    ⟨some 4, .mov (.tmp 6), none⟩])
  (.region [⟨some 7, .take (.tmp 0), none⟩,
    ⟨some 8, .mov (.tmp 4), none⟩,
    ⟨some 9, .mov (.tmp 4), none⟩,
    ⟨some 10, .cInt .u64 (.tmp 9), none⟩,
    ⟨some 11, .pcall 117 [(.tmp 10)], none⟩,
    ⟨some 12, .mov (.tmp 1), none⟩,
    ⟨some 13, .call 116 [(.tmp 7), (.con (.int .i64 0)), (.tmp 8), (.tmp 11), (.tmp 12)], none⟩]),
  []⟩
theorem is_slices_SortFunc_string_string : IsFn Tryz.prog 106 c_slices_SortFunc_string_string := isFn_of [([], []), ([], [0, 4])] (by kernel_rfl)

abbrev s_slices_Compact_string_string_0 (v0 v3 : AV) : List AV := [v0, undefA, .any, v3, .any, .any, .any, .any, .any, undefA, .any, .any, .any, .any, .any, .any, .any, .any, .any, .any, .any, .any, .any, .any, .any, .any, .any, .any, .any, .any, .any, .any, .any, .any, .any, .any, .any, .any, .any, .any, .any, .any, .any, .any, .any, .any, .any, .any, .any, .any, .any, .any, .any, .any, .any, .any, .any, .any, .any, .any, undefA]
abbrev s_slices_Compact_string_string_1 (v0 v3 v4 v5 : AV) : List AV := [v0, undefA, .any, v3, v4, v5, .any, .any, .any, undefA, .any, .any, .any, .any, .any, .any, .any, .any, .any, .any, .any, .any, .any, .any, .any, .any, .any, .any, .any, .any, .any, .any, .any, .any, .any, .any, .any, .any, .any, .any, .any, .any, .any, .any, .any, .any, .any, .any, .any, .any, .any, .any, .any, .any, .any, .any, .any, .any, .any, .any, undefA]
abbrev x_slices_Compact_string_string_0 (v0 : AV) : List AV := [v0, undefA, .any, .any, .any, .any, .any, .any, .any, undefA, .any, .any, .any, .any, .any, .any, .any, .any, .any, .any, .any, .any, .any, .any, .any, .any, .any, .any, .any, .any, .any, .any, .any, .any, .any, .any, .any, .any, .any, .any, .any, .any, .any, .any, .any, .any, .any, .any, .any, .any, .any, .any, .any, .any, .any, .any, .any, .any, .any, .any, undefA]
abbrev x_slices_Compact_string_string_2 (v0 v3 : AV) : List AV := [v0, undefA, .any, v3, .any, .any, .any, .any, .any, undefA, .any, .any, .any, .any, .any, .any, .any, .any, .any, .any, .any, .any, .any, .any, .any, .any, .any, .any, .any, .any, .any, .any, .any, .any, .any, .any, .any, .any, .any, .any, .any, .any, .any, .any, .any, .any, .any, .any, .any, .any, .any, .any, .any, .any, .any, .any, .any, .any, .any, .any, undefA]
abbrev l_slices_Compact_string_string_1 : CC := .kill [10, 11, 12, 13, 16, 17, 18, 19, 20, 21, 22, 23, 24, 25, 26, 27, 28, 29, 30, 31, 32, 33, 34, 35, 36, 37, 38, 39, 40, 41, 42, 43, 44, 45, 46, 47, 48, 49, 50, 51, 52, 53] (.seq (.seq (.region [⟨some 29, .mov (.tmp 5), none⟩,
    ⟨some 30, .mov (.tmp 4), none⟩,
    ⟨some 31, .lenl (.tmp 30), none⟩,
    ⟨some 32, .bin .lss (.tmp 29) (.tmp 31), none⟩])
  (.cond (.tmp 32) (.skip) (.kill [4, 5, 29, 30, 31, 32] (.exit 2))))
  (.seq (.block 3 (.seq (.region [⟨some 35, .mov (.tmp 4), none⟩,
    ⟨some 36, .mov (.tmp 5), none⟩,
    ⟨some 37, .iaddr 1 none (.tmp 35) (.tmp 36), none⟩,
    ⟨some 38, .load none (.tmp 37), none⟩,
    ⟨some 39, .mov (.tmp 4), none⟩,
    ⟨some 40, .mov (.tmp 5), none⟩,
    ⟨some 41, .bin .sub (.tmp 40) (.con (.int .i64 1)), none⟩,
    ⟨some 42, .iaddr 1 none (.tmp 39) (.tmp 41), none⟩,
    ⟨some 43, .load none (.tmp 42), none⟩,
    ⟨some 44, .bin .neq (.tmp 38) (.tmp 43), none⟩])
  (.cond (.tmp 44) (.seq (.region [⟨some 45, .mov (.tmp 0), none⟩,
    ⟨some 46, .mov (.tmp 3), none⟩,
    ⟨some 47, .mov (.tmp 4), none⟩,
    ⟨some 48, .mov (.tmp 5), none⟩,
    ⟨some 49, .iaddr 1 none (.tmp 47) (.tmp 48), none⟩,
    ⟨some 50, .load none (.tmp 49), none⟩,
    ⟨some 51, .iaddr 1 none (.tmp 45) (.tmp 46), none⟩,
    ⟨none, .store 1 (.tmp 51) (.tmp 50), none⟩])
  (.region [⟨some 52, .mov (.tmp 3), none⟩,
    ⟨some 53, .bin .add (.tmp 52) (.con (.int .i64 1)), none⟩,
    ⟨some 3, .mov (.tmp 53), none⟩])) (.skip))))
  (.region [⟨some 33, .mov (.tmp 5), none⟩,
    ⟨some 34, .bin .add (.tmp 33) (.con (.int .i64 1)), none⟩,
    ⟨some 5, .mov (.tmp 34), none⟩])))
abbrev l_slices_Compact_string_string_0 : CC := .kill [2, 4, 5, 6, 7, 8, 10, 11, 12, 13, 14, 15, 16, 17, 18, 19, 20, 21, 22, 23, 24, 25, 26, 27, 28, 29, 30, 31, 32, 33, 34, 35, 36, 37, 38, 39, 40, 41, 42, 43, 44, 45, 46, 47, 48, 49, 50, 51, 52, 53, 54, 55, 56, 57, 58, 59] (.seq (.seq (.region [⟨some 10, .mov (.tmp 3), none⟩,
    ⟨some 11, .mov (.tmp 0), none⟩,
    ⟨some 12, .lenl (.tmp 11), none⟩,
    ⟨some 13, .bin .lss (.tmp 10) (.tmp 12), none⟩])
  (.cond (.tmp 13) (.skip) (.kill [3, 10, 11, 12, 13] (.exit 0))))
  (.seq (.block 1 (.seq (.region [⟨some 16, .mov (.tmp 0), none⟩,
    ⟨some 17, .mov (.tmp 3), none⟩,
    ⟨some 18, .iaddr 1 none (.tmp 16) (.tmp 17), none⟩,
    ⟨some 19, .load none (.tmp 18), none⟩,
    ⟨some 20, .mov (.tmp 0), none⟩,
    ⟨some 21, .mov (.tmp 3), none⟩,
    ⟨some 22, .bin .sub (.tmp 21) (.con (.int .i64 1)), none⟩,
    ⟨some 23, .iaddr 1 none (.tmp 20) (.tmp 22), none⟩,
    ⟨some 24, .load none (.tmp 23), none⟩,
    ⟨some 25, .bin .eql (.tmp 19) (.tmp 24), none⟩])
  (.cond (.tmp 25) (.seq (.region [⟨some 26, .mov (.tmp 0), none⟩,
    ⟨some 27, .mov (.tmp 3), none⟩,
    ⟨some 28, .slice (some 1) (.tmp 26) (some (.tmp 27)) none none, none⟩,
    ⟨some 4, .take (.tmp 28), none⟩])
  (.seq (.seq (.region [⟨some 5, .mov (.con (.int .i64 1)), none⟩])
  (.block 2 (.kill [10, 11, 12, 13, 16, 17, 18, 19, 20, 21, 22, 23, 24, 25, 26, 27, 28, 29, 30, 31, 32, 33, 34, 35, 36, 37, 38, 39, 40, 41, 42, 43, 44, 45, 46, 47, 48, 49, 50, 51, 52, 53] (.loop l_slices_Compact_string_string_1))))
  (.seq (.region [⟨some 54, .mov (.tmp 0), none⟩,
    ⟨some 55, .mov (.tmp 3), none⟩,
    ⟨some 56, .slice (some 1) (.tmp 54) (some (.tmp 55)) none none, none⟩,
    ⟨none, .clr [.str ⟨#[]⟩] (.tmp 56), none⟩])
  (.seq (.region [⟨some 57, .take (.tmp 0), none⟩,
    ⟨some 58, .mov (.tmp 3), none⟩,
    ⟨some 59, .slice (some 1) (.tmp 57) none (some (.tmp 58)) none, none⟩,
    ⟨some 2, .take (.tmp 59), none⟩])
  (.ret))))) (.skip))))
  (.region [⟨some 14, .mov (.tmp 3), none⟩,
    ⟨some 15, .bin .add (.tmp 14) (.con (.int .i64 1)), none⟩,
    ⟨some 3, .mov (.tmp 15), none⟩])))
/-- slices.Compact[[]string,string] -/
def c_slices_Compact_string_string : CFn := ⟨61, .seq (.region [⟨some 2, .take (.con (.sl .ex [])), none⟩])
  (.seq (.seq (.region [⟨some 6, .mov (.tmp 0), none⟩,
    ⟨some 7, .lenl (.tmp 6), none⟩,
    ⟨some 8, .bin .lss (.tmp 7) (.con (.int .i64 2)), none⟩])
  (.cond (.tmp 8) (.seq (.region [⟨some 9, .take (.tmp 0), none⟩,
    ⟨some 2, .take (.tmp 9), none⟩])
  (.ret)) (.skip)))
  (.seq (.seq (.region [⟨some 3, .mov (.con (.int .i64 1)), none⟩])
  (.block 0 (.kill [2, 4, 5, 6, 7, 8, 10, 11, 12, 13, 14, 15, 16, 17, 18, 19, 20, 21, 22, 23, 24, 25, 26, 27, 28, 29, 30, 31, 32, 33, 34, 35, 36, 37, 38, 39, 40, 41, 42, 43, 44, 45, 46, 47, 48, 49, 50, 51, 52, 53, 54, 55, 56, 57, 58, 59] (.loop l_slices_Compact_string_string_0))))
  (.seq (.region [⟨some 60, .take (.tmp 0), none⟩,
    ⟨some 2, .take (.tmp 60), none⟩])
  (.ret)))),
  [.tmp 2]⟩
theorem is_slices_Compact_string_string : IsFn Tryz.prog 107 c_slices_Compact_string_string := isFn_of [([], [0]), ([], []), ([], [0, 1]), ([], []), ([], []), ([2, 4, 5, 6, 7, 8, 10, 11, 12, 13, 14, 15, 16, 17, 18, 19, 20, 21, 22, 23, 24, 25, 26, 27, 28, 29, 30, 31, 32, 33, 34, 35, 36, 37, 38, 39, 40, 41, 42, 43, 44, 45, 46, 47, 48, 49, 50, 51, 52, 53, 54, 55, 56, 57, 58, 59], []), ([], []), ([3, 10, 11, 12, 13], []), ([], []), ([], [3]), ([], []), ([10, 11, 12, 13, 16, 17, 18, 19, 20, 21, 22, 23, 24, 25, 26, 27, 28, 29, 30, 31, 32, 33, 34, 35, 36, 37, 38, 39, 40, 41, 42, 43, 44, 45, 46, 47, 48, 49, 50, 51, 52, 53], []), ([], []), ([4, 5, 29, 30, 31, 32], []), ([], []), ([], []), ([], []), ([], []), ([], []), ([], [0, 3]), ([], []), ([], []), ([], [0, 1]), ([], [])] (by kernel_rfl)

/-- strings.Cut -/
def c_strings_Cut : CFn := ⟨13, .seq (.region [⟨some 4, .mov (.con (.str ⟨#[]⟩)), none⟩,
    ⟨some 5, .mov (.con (.str ⟨#[]⟩)), none⟩,
    ⟨some 6, .mov (.con (.bool false)), none⟩])
  (.seq (.region [⟨some 7, .mov (.tmp 0), none⟩,
    ⟨some 8, .mov (.tmp 1), none⟩,
    ⟨some 9, .pcall 118 [(.tmp 7), (.tmp 8)], none⟩,
    ⟨some 10, .extract 9 0, none⟩,
    ⟨some 11, .extract 9 1, none⟩,
    ⟨some 12, .extract 9 2, none⟩,
    ⟨some 4, .mov (.tmp 10), none⟩,
    ⟨some 5, .mov (.tmp 11), none⟩,
    ⟨some 6, .mov (.tmp 12), none⟩])
  (.ret)),
  [.tmp 4, .tmp 5, .tmp 6]⟩
theorem is_strings_Cut : IsFn Tryz.prog 108 c_strings_Cut := isFn_of [([], []), ([], [2]), ([], [])] (by kernel_rfl)

/-- regency/cats.number -/
def c_cats_number : CFn := ⟨31, .seq (.region [⟨some 4, .mov (.con (.int .i64 0)), none⟩,
    ⟨some 5, .mov (.con (.bool false)), none⟩])
  (.seq (.region [⟨some 9, .mov (.tmp 0), none⟩,
    ⟨some 10, .call 119 [(.tmp 9)], none⟩,
    ⟨some 8, .mov (.tmp 10), none⟩,
    ⟨some 11, .extract 8 0, none⟩,
    ⟨some 12, .extract 8 1, none⟩,
    ⟨some 6, .mov (.tmp 11), none⟩,
    ⟨some 7, .mov (.tmp 12), none⟩])
  (.seq (.region [⟨some 13, .mov (.tmp 6), none⟩,
    ⟨some 14, .mov (.tmp 7), none⟩,
    ⟨some 15, .isnil .ifc false (.tmp 14), none⟩,
    ⟨some 16, .mov (.tmp 15), none⟩,
    ⟨some 17, .mov (.tmp 6), (some (16, true))⟩,
    ⟨some 18, .bin .geq (.tmp 17) (.con (.int .i64 0)), (some (16, true))⟩,
    ⟨some 19, .pick (.tmp 16) (.tmp 18) (.con (.bool false)), none⟩,
    ⟨some 20, .mov (.tmp 19), none⟩,
    ⟨some 21, .mov (.tmp 6), (some (20, true))⟩,
    ⟨some 22, .mov (.tmp 1), (some (20, true))⟩,
    ⟨some 23, .bin .leq (.tmp 21) (.tmp 22), (some (20, true))⟩,
    ⟨some 24, .pick (.tmp 20) (.tmp 23) (.con (.bool false)), none⟩,
    ⟨some 25, .mov (.tmp 24), none⟩,
    ⟨some 26, .mov (.tmp 6), (some (25, true))⟩,
    ⟨some 27, .pcall 120 [(.tmp 26)], (some (25, true))⟩,
    ⟨some 28, .mov (.tmp 0), (some (25, true))⟩,
    ⟨some 29, .bin .eql (.tmp 27) (.tmp 28), (some (25, true))⟩,
    ⟨some 30, .pick (.tmp 25) (.tmp 29) (.con (.bool false)), none⟩,
    ⟨some 4, .mov (.tmp 13), none⟩,
    ⟨some 5, .mov (.tmp 30), none⟩])
  (.ret))),
  [.tmp 4, .tmp 5]⟩
theorem is_cats_number : IsFn Tryz.prog 109 c_cats_number := isFn_of [([], []), ([], []), ([], [14]), ([], [])] (by kernel_rfl)

/-- strings.SplitSeq -/
def c_strings_SplitSeq : CFn := ⟨8, .seq (.region [⟨some 4, .mov (.con (.nilf)), none⟩])
  (.seq (.region [⟨some 5, .mov (.tmp 0), none⟩,
    ⟨some 6, .mov (.tmp 1), none⟩,
    ⟨some 7, .call 121 [(.tmp 5), (.tmp 6), (.con (.int .i64 0))], none⟩,
    ⟨some 4, .mov (.tmp 7), none⟩])
  (.ret)),
  [.tmp 4]⟩
theorem is_strings_SplitSeq : IsFn Tryz.prog 110 c_strings_SplitSeq := isFn_of [([], []), ([], []), ([], [])] (by kernel_rfl)

/-- cmp.Compare[string] -/
def c_cmp_Compare_string : CFn := ⟨20, .seq (.region [⟨some 4, .mov (.con (.int .i64 0)), none⟩])
  (.seq (.region [⟨some 7, .mov (.tmp 0), none⟩,
    ⟨some 8, .pcall 122 [(.tmp 7)], none⟩,
    ⟨some 5, .mov (.tmp 8), none⟩])
  (.seq (.region [⟨some 9, .mov (.tmp 1), none⟩,
    ⟨some 10, .pcall 122 [(.tmp 9)], none⟩,
    ⟨some 6, .mov (.tmp 10), none⟩])
  (.seq (.seq (.region [⟨some 11, .mov (.tmp 5), none⟩])
  (.cond (.tmp 11) (.seq (.seq (.region [⟨some 12, .mov (.tmp 6), none⟩])
  (.cond (.tmp 12) (.seq (.region [⟨some 4, .mov (.con (.int .i64 0)), none⟩])
  (.ret)) (.skip)))
  (.seq (.region [⟨some 4, .mov (.con (.int .i64 (-1))), none⟩])
  (.ret))) (.skip)))
  (.seq (.seq (.region [⟨some 13, .mov (.tmp 6), none⟩])
  (.cond (.tmp 13) (.seq (.region [⟨some 4, .mov (.con (.int .i64 1)), none⟩])
  (.ret)) (.skip)))
  (.seq (.seq (.region [⟨some 14, .mov (.tmp 0), none⟩,
    ⟨some 15, .mov (.tmp 1), none⟩,
    ⟨some 16, .bin .lss (.tmp 14) (.tmp 15), none⟩])
  (.cond (.tmp 16) (.seq (.region [⟨some 4, .mov (.con (.int .i64 (-1))), none⟩])
  (.ret)) (.skip)))
  (.seq (.seq (.region [⟨some 17, .mov (.tmp 0), none⟩,
    ⟨some 18, .mov (.tmp 1), none⟩,
    ⟨some 19, .bin .gtr (.tmp 17) (.tmp 18), none⟩])
  (.cond (.tmp 19) (.seq (.region [⟨some 4, .mov (.con (.int .i64 1)), none⟩])
  (.ret)) (.skip)))
  (.seq (.region [⟨some 4, .mov (.con (.int .i64 0)), none⟩])
  (.ret)))))))),
  [.tmp 4]⟩
theorem is_cmp_Compare_string : IsFn Tryz.prog 111 c_cmp_Compare_string := isFn_of [([], []), ([], [1]), ([], [1]), ([], []), ([], []), ([], []), ([], []), ([], []), ([], []), ([], []), ([], []), ([], []), ([], []), ([], []), ([], []), ([], []), ([], []), ([], []), ([], []), ([], [])] (by kernel_rfl)

abbrev s_cmp_Or_int_0 (v3 v6 v7 v8 : AV) : List AV := [.any, undefA, .any, v3, undefA, .any, v6, v7, v8, .any, .any, .any, .any, .any, .any, .any, .any, undefA]
abbrev x_cmp_Or_int_0 (v3 : AV) : List AV := [.any, undefA, .any, v3, undefA, .any, .any, .any, .any, .any, .any, .any, .any, .any, .any, .any, .any, undefA]
abbrev l_cmp_Or_int_0 : CC := .kill [0, 2, 5, 9, 10, 11, 12, 13, 14, 15, 16] (.seq (.region [⟨some 9, .bin .lss (.tmp 8) (.tmp 7), none⟩])
  (.seq (.cond (.tmp 9) (.skip) (.kill [6, 7, 8, 9] (.exit 0)))
  (.seq (.block 1 (.seq (.region [⟨some 10, .iaddr 1 none (.tmp 6) (.tmp 8), none⟩,
    ⟨some 11, .load none (.tmp 10), none⟩,
    ⟨some 5, .mov (.tmp 11), none⟩])
  (.seq (.region [⟨some 12, .mov (.tmp 5), none⟩,
    ⟨some 13, .mov (.tmp 3), none⟩,
    ⟨some 14, .bin .neq (.tmp 12) (.tmp 13), none⟩])
  (.cond (.tmp 14) (.seq (.region [⟨some 15, .mov (.tmp 5), none⟩,
    ⟨some 2, .mov (.tmp 15), none⟩])
  (.ret)) (.skip)))))
  (.region [⟨some 16, .bin .add (.tmp 8) (.con (.int .i64 1)), none⟩,
    ⟨some 8, .mov (.tmp 16), none⟩]))))
/-- cmp.Or[int] -/
def c_cmp_Or_int : CFn := ⟨18, .seq (.region [⟨some 2, .mov (.con (.int .i64 0)), none⟩])
  (.seq (.region [⟨some 3, .mov (.con (.int .i64 0)), none⟩])
  (.seq (.seq (.region [⟨some 6, .take (.tmp 0), none⟩,
    ⟨some 7, .lenl (.tmp 6), none⟩,
    ⟨some 8, .mov (.con (.int .i64 0)), none⟩])
  (.block 0 (.kill [0, 2, 5, 9, 10, 11, 12, 13, 14, 15, 16] (.loop l_cmp_Or_int_0))))
  (.seq (.region [⟨some 17, .mov (.tmp 3), none⟩,
    ⟨some 2, .mov (.tmp 17), none⟩])
  (.ret)))),
  [.tmp 2]⟩
theorem is_cmp_Or_int : IsFn Tryz.prog 112 c_cmp_Or_int := isFn_of [([], []), ([], []), ([], [0]), ([0, 2, 5, 9, 10, 11, 12, 13, 14, 15, 16], []), ([], []), ([6, 7, 8, 9], []), ([], []), ([], []), ([], []), ([], []), ([], []), ([], []), ([], [])] (by kernel_rfl)

abbrev s_slices_Compare_int_int_0 (v0 v1 v9 v10 v11 : AV) : List AV := [v0, v1, undefA, undefA, .any, .any, .any, .any, .any, v9, v10, v11, .any, .any, .any, .any, .any, .any, .any, .any, .any, .any, .any, .any, .any, .any, .any, .any, .any, .any, .any, undefA, undefA, undefA, undefA, undefA]
abbrev x_slices_Compare_int_int_0 (v0 v1 : AV) : List AV := [v0, v1, undefA, undefA, .any, .any, .any, .any, .any, .any, .any, .any, .any, .any, .any, .any, .any, .any, .any, .any, .any, .any, .any, .any, .any, .any, .any, .any, .any, .any, .any, undefA, undefA, undefA, undefA, undefA]
abbrev l_slices_Compare_int_int_0 : CC := .kill [4, 5, 6, 7, 8, 12, 13, 14, 15, 16, 17, 18, 19, 20, 21, 22, 23, 24, 25, 26, 27, 28, 29, 30] (.seq (.region [⟨some 12, .bin .lss (.tmp 11) (.tmp 10), none⟩])
  (.seq (.cond (.tmp 12) (.skip) (.kill [9, 10, 11, 12] (.exit 0)))
  (.seq (.block 1 (.seq (.region [⟨some 13, .mov (.tmp 11), none⟩,
    ⟨some 14, .iaddr 1 none (.tmp 9) (.tmp 11), none⟩,
    ⟨some 15, .load none (.tmp 14), none⟩,
    ⟨some 5, .mov (.tmp 13), none⟩,
    ⟨some 6, .mov (.tmp 15), none⟩])
  (.seq (.seq (.region [⟨some 16, .mov (.tmp 5), none⟩,
    ⟨some 17, .mov (.tmp 1), none⟩,
    ⟨some 18, .lenl (.tmp 17), none⟩,
    ⟨some 19, .bin .geq (.tmp 16) (.tmp 18), none⟩])
  (.cond (.tmp 19) (.seq (.region [⟨some 4, .mov (.con (.int .i64 1)), none⟩])
  (.ret)) (.skip)))
  (.seq (.region [⟨some 20, .mov (.tmp 1), none⟩,
    ⟨some 21, .mov (.tmp 5), none⟩,
    ⟨some 22, .iaddr 1 none (.tmp 20) (.tmp 21), none⟩,
    ⟨some 23, .load none (.tmp 22), none⟩,
    ⟨some 7, .mov (.tmp 23), none⟩])
  (.seq (.region [⟨some 24, .mov (.tmp 6), none⟩,
    ⟨some 25, .mov (.tmp 7), none⟩,
    ⟨some 26, .pcall 114 [(.tmp 24), (.tmp 25)], none⟩,
    ⟨some 8, .mov (.tmp 26), none⟩])
  (.seq (.region [⟨some 27, .mov (.tmp 8), none⟩,
    ⟨some 28, .bin .neq (.tmp 27) (.con (.int .i64 0)), none⟩])
  (.cond (.tmp 28) (.seq (.region [⟨some 29, .mov (.tmp 8), none⟩,
    ⟨some 4, .mov (.tmp 29), none⟩])
  (.ret)) (.skip))))))))
  (.region [⟨some 30, .bin .add (.tmp 11) (.con (.int .i64 1)), none⟩,
    ⟨some 11, .mov (.tmp 30), none⟩]))))
/-- slices.Compare[[]int,int] -/
def c_slices_Compare_int_int : CFn := ⟨36, .seq (.region [⟨some 4, .mov (.con (.int .i64 0)), none⟩])
  (.seq (.seq (.region [⟨some 9, .mov (.tmp 0), none⟩,
    ⟨some 10, .lenl (.tmp 9), none⟩,
    ⟨some 11, .mov (.con (.int .i64 0)), none⟩])
  (.block 0 (.kill [4, 5, 6, 7, 8, 12, 13, 14, 15, 16, 17, 18, 19, 20, 21, 22, 23, 24, 25, 26, 27, 28, 29, 30] (.loop l_slices_Compare_int_int_0))))
  (.seq (.seq (.region [⟨some 31, .take (.tmp 0), none⟩,
    ⟨some 32, .lenl (.tmp 31), none⟩,
    ⟨some 33, .take (.tmp 1), none⟩,
    ⟨some 34, .lenl (.tmp 33), none⟩,
    ⟨some 35, .bin .lss (.tmp 32) (.tmp 34), none⟩])
  (.cond (.tmp 35) (.seq (.region [⟨some 4, .mov (.con (.int .i64 (-1))), none⟩])
  (.ret)) (.skip)))
  (.seq (.region [⟨some 4, .mov (.con (.int .i64 0)), none⟩])
  (.ret)))),
  [.tmp 4]⟩
theorem is_slices_Compare_int_int : IsFn Tryz.prog 113 c_slices_Compare_int_int := isFn_of [([], []), ([], []), ([4, 5, 6, 7, 8, 12, 13, 14, 15, 16, 17, 18, 19, 20, 21, 22, 23, 24, 25, 26, 27, 28, 29, 30], []), ([], []), ([9, 10, 11, 12], []), ([], []), ([], []), ([], []), ([], []), ([], []), ([], [2]), ([], []), ([], []), ([], []), ([], []), ([], [0, 2]), ([], []), ([], []), ([], []), ([], [])] (by kernel_rfl)

/-- cmp.Compare[int] -/
def c_cmp_Compare_int : CFn := ⟨20, .seq (.region [⟨some 4, .mov (.con (.int .i64 0)), none⟩])
  (.seq (.region [⟨some 7, .mov (.tmp 0), none⟩,
    ⟨some 8, .pcall 123 [(.tmp 7)], none⟩,
    ⟨some 5, .mov (.tmp 8), none⟩])
  (.seq (.region [⟨some 9, .mov (.tmp 1), none⟩,
    ⟨some 10, .pcall 123 [(.tmp 9)], none⟩,
    ⟨some 6, .mov (.tmp 10), none⟩])
  (.seq (.seq (.region [⟨some 11, .mov (.tmp 5), none⟩])
  (.cond (.tmp 11) (.seq (.seq (.region [⟨some 12, .mov (.tmp 6), none⟩])
  (.cond (.tmp 12) (.seq (.region [⟨some 4, .mov (.con (.int .i64 0)), none⟩])
  (.ret)) (.skip)))
  (.seq (.region [⟨some 4, .mov (.con (.int .i64 (-1))), none⟩])
  (.ret))) (.skip)))
  (.seq (.seq (.region [⟨some 13, .mov (.tmp 6), none⟩])
  (.cond (.tmp 13) (.seq (.region [⟨some 4, .mov (.con (.int .i64 1)), none⟩])
  (.ret)) (.skip)))
  (.seq (.seq (.region [⟨some 14, .mov (.tmp 0), none⟩,
    ⟨some 15, .mov (.tmp 1), none⟩,
    ⟨some 16, .bin .lss (.tmp 14) (.tmp 15), none⟩])
  (.cond (.tmp 16) (.seq (.region [⟨some 4, .mov (.con (.int .i64 (-1))), none⟩])
  (.ret)) (.skip)))
  (.seq (.seq (.region [⟨some 17, .mov (.tmp 0), none⟩,
    ⟨some 18, .mov (.tmp 1), none⟩,
    ⟨some 19, .bin .gtr (.tmp 17) (.tmp 18), none⟩])
  (.cond (.tmp 19) (.seq (.region [⟨some 4, .mov (.con (.int .i64 1)), none⟩])
  (.ret)) (.skip)))
  (.seq (.region [⟨some 4, .mov (.con (.int .i64 0)), none⟩])
  (.ret)))))))),
  [.tmp 4]⟩
theorem is_cmp_Compare_int : IsFn Tryz.prog 114 c_cmp_Compare_int := isFn_of [([], []), ([], [1]), ([], [1]), ([], []), ([], []), ([], []), ([], []), ([], []), ([], []), ([], []), ([], []), ([], []), ([], []), ([], []), ([], []), ([], []), ([], []), ([], []), ([], []), ([], [])] (by kernel_rfl)

abbrev s_slices_IndexFunc_string_string_0 (v0 v1 v7 v8 : AV) : List AV := [v0, v1, undefA, undefA, .any, .any, .any, v7, v8, .any, .any, .any, .any, .any, .any, .any, .any, .any, .any]
abbrev x_slices_IndexFunc_string_string_0  : List AV := [.any, .any, undefA, undefA, .any, .any, .any, .any, .any, .any, .any, .any, .any, .any, .any, .any, .any, .any, .any]
abbrev l_slices_IndexFunc_string_string_0 : CC := .kill [4, 5, 6, 9, 10, 11, 12, 13, 14, 15, 16, 17, 18] (.seq (.region [⟨some 9, .bin .lss (.tmp 8) (.tmp 7), none⟩])
  (.seq (.cond (.tmp 9) (.skip) (.kill [0, 1, 7, 8, 9] (.exit 0)))
  (.seq (.block 1 (.seq (.region [⟨some 10, .mov (.tmp 8), none⟩,
    ⟨some 5, .mov (.tmp 10), none⟩])
  (.seq (.region [⟨some 11, .mov (.tmp 1), none⟩,
    ⟨some 12, .mov (.tmp 0), none⟩,
    ⟨some 13, .mov (.tmp 5), none⟩,
    ⟨some 14, .iaddr 1 none (.tmp 12) (.tmp 13), none⟩,
    ⟨some 15, .load none (.tmp 14), none⟩,
    ⟨some 16, .callv (.tmp 11) [(.tmp 15)], none⟩])
  (.cond (.tmp 16) (.seq (.region [⟨some 17, .mov (.tmp 5), none⟩,
    ⟨some 4, .mov (.tmp 17), none⟩])
  (.ret)) (.skip)))))
  (.region [⟨some 18, .bin .add (.tmp 8) (.con (.int .i64 1)), none⟩,
    ⟨some 8, .mov (.tmp 18), none⟩]))))
/-- slices.IndexFunc[[]string,string] -/
def c_slices_IndexFunc_string_string : CFn := ⟨19, .seq (.region [⟨some 4, .mov (.con (.int .i64 0)), none⟩])
  (.seq (.seq (.region [⟨some 6, .mov (.tmp 0), none⟩,
    ⟨some 7, .lenl (.tmp 6), none⟩,
    ⟨some 8, .mov (.con (.int .i64 0)), none⟩])
  (.block 0 (.kill [4, 5, 6, 9, 10, 11, 12, 13, 14, 15, 16, 17, 18] (.loop l_slices_IndexFunc_string_string_0))))
  (.seq (.region [⟨some 4, .mov (.con (.int .i64 (-1))), none⟩])
  (.ret))),
  [.tmp 4]⟩
theorem is_slices_IndexFunc_string_string : IsFn Tryz.prog 115 c_slices_IndexFunc_string_string := isFn_of [([], []), ([], []), ([4, 5, 6, 9, 10, 11, 12, 13, 14, 15, 16, 17, 18], []), ([], []), ([0, 1, 7, 8, 9], []), ([], []), ([], []), ([], []), ([], []), ([], []), ([], []), ([], [])] (by kernel_rfl)

abbrev s_slices_pdqsortCmpFunc_string_0 (v0 v1 v2 v3 v4 v10 v11 : AV) : List AV := [v0, v1, v2, v3, v4, undefA, undefA, undefA, undefA, undefA, v10, v11, .any, .any, .any, .any, .any, .any, .any, .any, .any, .any, .any, .any, .any, .any, .any, .any, .any, .any, .any, .any, .any, .any, .any, .any, .any, .any, .any, .any, .any, .any, .any, .any, .any, .any, .any, .any, .any, .any, .any, .any, .any, .any, .any, .any, .any, .any, .any, .any, .any, .any, .any, .any, .any, .any, .any, .any, .any, .any, .any, .any, .any, .any, .any, .any, .any, .any, .any, .any, .any, .any, .any, .any, .any, .any, .any, .any, .any, .any, .any, .any, .any, .any, .any, .any, .any, .any, .any, .any, .any, .any, .any, .any, .any, .any, .any, .any, .any, .any, .any, .any, .any, .any, .any, .any, .any, .any, .any, .any, .any, .any, .any, .any, .any, .any, .any, .any, .any, .any, .any, .any, .any, .any, .any, .any, .any, .any, .any, .any, .any, .any, .any, .any, .any, .any, .any, .any]
abbrev x_slices_pdqsortCmpFunc_string_1 (v0 v1 v2 v3 v4 v10 v11 : AV) : List AV := [v0, v1, v2, v3, v4, undefA, undefA, undefA, undefA, undefA, v10, v11, .any, .any, .any, .any, .any, .any, .any, .any, .any, .any, .any, .any, .any, .any, .any, .any, .any, .any, .any, .any, .any, .any, .any, .any, .any, .any, .any, .any, .any, .any, .any, .any, .any, .any, .any, .any, .any, .any, .any, .any, .any, .any, .any, .any, .any, .any, .any, .any, .any, .any, .any, .any, .any, .any, .any, .any, .any, .any, .any, .any, .any, .any, .any, .any, .any, .any, .any, .any, .any, .any, .any, .any, .any, .any, .any, .any, .any, .any, .any, .any, .any, .any, .any, .any, .any, .any, .any, .any, .any, .any, .any, .any, .any, .any, .any, .any, .any, .any, .any, .any, .any, .any, .any, .any, .any, .any, .any, .any, .any, .any, .any, .any, .any, .any, .any, .any, .any, .any, .any, .any, .any, .any, .any, .any, .any, .any, .any, .any, .any, .any, .any, .any, .any, .any, .any, .any]
abbrev l_slices_pdqsortCmpFunc_string_0 : CC := .kill [12, 13, 14, 15, 16, 17, 18, 19, 20, 21, 22, 23, 24, 25, 26, 27, 28, 29, 30, 31, 32, 33, 34, 35, 36, 37, 38, 39, 40, 41, 42, 43, 44, 45, 46, 47, 48, 49, 50, 51, 52, 53, 54, 55, 56, 57, 58, 59, 60, 61, 62, 63, 64, 65, 66, 67, 68, 69, 70, 71, 72, 73, 74, 75, 76, 77, 78, 79, 80, 81, 82, 83, 84, 85, 86, 87, 88, 89, 90, 91, 92, 93, 94, 95, 96, 97, 98, 99, 100, 101, 102, 103, 104, 105, 106, 107, 108, 109, 110, 111, 112, 113, 114, 115, 116, 117, 118, 119, 120, 121, 122, 123, 124, 125, 126, 127, 128, 129, 130, 131, 132, 133, 134, 135, 136, 137, 138, 139, 140, 141, 142, 143, 144, 145, 146, 147] (.block 1 (.seq (.region [⟨some 21, .mov (.tmp 2), none⟩,
    ⟨some 22, .mov (.tmp 1), none⟩,
    ⟨some 23, .bin .sub (.tmp 21) (.tmp 22), none⟩,
    ⟨some 12, .mov (.tmp 23), none⟩])
  (.seq (.seq (.region [⟨some 24, .mov (.tmp 12), none⟩,
    ⟨some 25, .bin .leq (.tmp 24) (.con (.int .i64 12)), none⟩])
  (.cond (.tmp 25) (.seq (.region [⟨some 26, .take (.tmp 0), none⟩,
    ⟨some 27, .mov (.tmp 1), none⟩,
    ⟨some 28, .mov (.tmp 2), none⟩,
    ⟨some 29, .mov (.tmp 4), none⟩,
    ⟨some 30, .call 124 [(.tmp 26), (.tmp 27), (.tmp 28), (.tmp 29)], none⟩])
  (.ret)) (.skip)))
  (.seq (.seq (.region [⟨some 31, .mov (.tmp 3), none⟩,
    ⟨some 32, .bin .eql (.tmp 31) (.con (.int .i64 0)), none⟩])
  (.cond (.tmp 32) (.seq (.region [⟨some 33, .take (.tmp 0), none⟩,
    ⟨some 34, .mov (.tmp 1), none⟩,
    ⟨some 35, .mov (.tmp 2), none⟩,
    ⟨some 36, .mov (.tmp 4), none⟩,
    ⟨some 37, .call 125 [(.tmp 33), (.tmp 34), (.tmp 35), (.tmp 36)], none⟩])
  (.ret)) (.skip)))
  (.seq (.seq (.region [⟨some 38, .mov (.tmp 10), none⟩,
    ⟨some 39, .un .not (.tmp 38), none⟩])
  (.cond (.tmp 39) (.seq (.region [⟨some 40, .mov (.tmp 0), none⟩,
    ⟨some 41, .mov (.tmp 1), none⟩,
    ⟨some 42, .mov (.tmp 2), none⟩,
    ⟨some 43, .mov (.tmp 4), none⟩,
    ⟨some 44, .call 126 [(.tmp 40), (.tmp 41), (.tmp 42), (.tmp 43)], none⟩])
  (.region [⟨some 45, .mov (.tmp 3), none⟩,
    ⟨some 46, .bin .sub (.tmp 45) (.con (.int .i64 1)), none⟩,
    ⟨some 3, .mov (.tmp 46), none⟩])) (.skip)))
  (.seq (.region [⟨some 48, .mov (.tmp 0), none⟩,
    ⟨some 49, .mov (.tmp 1), none⟩,
    ⟨some 50, .mov (.tmp 2), none⟩,
    ⟨some 51, .mov (.tmp 4), none⟩,
    ⟨some 52, .call 127 [(.tmp 48), (.tmp 49), (.tmp 50), (.tmp 51)], none⟩,
    ⟨some 47, .mov (.tmp 52), none⟩,
    ⟨some 53, .extract 47 0, none⟩,
    ⟨some 54, .extract 47 1, none⟩,
    ⟨some 13, .mov (.tmp 53), none⟩,
    ⟨some 14, .mov (.tmp 54), none⟩])
  (.seq (.seq (.region [⟨some 55, .mov (.tmp 14), none⟩,
    ⟨some 56, .bin .eql (.tmp 55) (.con (.int .i64 2)), none⟩])
  (.cond (.tmp 56) (.seq (.region [⟨some 57, .mov (.tmp 0), none⟩,
    ⟨some 58, .mov (.tmp 1), none⟩,
    ⟨some 59, .mov (.tmp 2), none⟩,
    ⟨some 60, .mov (.tmp 4), none⟩,
    ⟨some 61, .call 128 [(.tmp 57), (.tmp 58), (.tmp 59), (.tmp 60)], none⟩])
  (.seq (.region [⟨some 62, .mov (.tmp 2), none⟩,
    ⟨some 63, .bin .sub (.tmp 62) (.con (.int .i64 1)), none⟩,
    ⟨some 64, .mov (.tmp 13), none⟩,
    ⟨some 65, .mov (.tmp 1), none⟩,
    ⟨some 66, .bin .sub (.tmp 64) (.tmp 65), none⟩,
    ⟨some 67, .bin .sub (.tmp 63) (.tmp 66), none⟩,
    ⟨some 13, .mov (.tmp 67), none⟩])
  (.region [⟨some 14, .mov (.con (.int .i64 1)), none⟩]))) (.skip)))
  (.seq (.seq (.region [⟨some 68, .mov (.tmp 10), none⟩,
    ⟨some 69, .mov (.tmp 68), none⟩,
    ⟨some 70, .mov (.tmp 11), (some (69, true))⟩,
    ⟨some 71, .pick (.tmp 69) (.tmp 70) (.con (.bool false)), none⟩,
    ⟨some 72, .mov (.tmp 71), none⟩,
    ⟨some 73, .mov (.tmp 14), (some (72, true))⟩,
    ⟨some 74, .bin .eql (.tmp 73) (.con (.int .i64 1)), (some (72, true))⟩,
    ⟨some 75, .pick (.tmp 72) (.tmp 74) (.con (.bool false)), none⟩])
  (.cond (.tmp 75) (.seq (.region [⟨some 76, .mov (.tmp 0), none⟩,
    ⟨some 77, .mov (.tmp 1), none⟩,
    ⟨some 78, .mov (.tmp 2), none⟩,
    ⟨some 79, .mov (.tmp 4), none⟩,
    ⟨some 80, .call 129 [(.tmp 76), (.tmp 77), (.tmp 78), (.tmp 79)], none⟩])
  (.cond (.tmp 80) (.ret) (.skip))) (.skip)))
  (.seq (.seq (.region [⟨some 81, .mov (.tmp 1), none⟩,
    ⟨some 82, .bin .gtr (.tmp 81) (.con (.int .i64 0)), none⟩,
    ⟨some 83, .mov (.tmp 82), none⟩,
    ⟨some 84, .mov (.tmp 4), (some (83, true))⟩,
    ⟨some 85, .mov (.tmp 0), (some (83, true))⟩,
    ⟨some 86, .mov (.tmp 1), (some (83, true))⟩,
    ⟨some 87, .bin .sub (.tmp 86) (.con (.int .i64 1)), (some (83, true))⟩,
    ⟨some 88, .iaddr 1 none (.tmp 85) (.tmp 87), (some (83, true))⟩,
    ⟨some 89, .load none (.tmp 88), (some (83, true))⟩,
    ⟨some 90, .mov (.tmp 0), (some (83, true))⟩,
    ⟨some 91, .mov (.tmp 13), (some (83, true))⟩,
    ⟨some 92, .iaddr 1 none (.tmp 90) (.tmp 91), (some (83, true))⟩,
    ⟨some 93, .load none (.tmp 92), (some (83, true))⟩,
    ⟨some 94, .callv (.tmp 84) [(.tmp 89), (.tmp 93)], (some (83, true))⟩,
    ⟨some 95, .bin .lss (.tmp 94) (.con (.int .i64 0)), (some (83, true))⟩,
    ⟨some 96, .un .not (.tmp 95), (some (83, true))⟩,
    ⟨some 97, .pick (.tmp 83) (.tmp 96) (.con (.bool false)), none⟩])
  (.cond (.tmp 97) (.seq (.region [⟨some 98, .mov (.tmp 0), none⟩,
    ⟨some 99, .mov (.tmp 1), none⟩,
    ⟨some 100, .mov (.tmp 2), none⟩,
    ⟨some 101, .mov (.tmp 13), none⟩,
    ⟨some 102, .mov (.tmp 4), none⟩,
    ⟨some 103, .call 130 [(.tmp 98), (.tmp 99), (.tmp 100), (.tmp 101), (.tmp 102)], none⟩,
    ⟨some 15, .mov (.tmp 103), none⟩])
  (.seq (.region [⟨some 104, .mov (.tmp 15), none⟩,
    ⟨some 1, .mov (.tmp 104), none⟩])
  (.kill [12, 13, 14, 15, 21, 22, 23, 24, 25, 31, 32, 38, 39, 40, 41, 42, 43, 44, 45, 46, 47, 48, 49, 50, 51, 52, 53, 54, 55, 56, 57, 58, 59, 60, 61, 62, 63, 64, 65, 66, 67, 68, 69, 70, 71, 72, 73, 74, 75, 76, 77, 78, 79, 80, 81, 82, 83, 84, 85, 86, 87, 88, 89, 90, 91, 92, 93, 94, 95, 96, 97, 98, 99, 100, 101, 102, 103, 104] (.exit 1)))) (.skip)))
  (.seq (.region [⟨some 106, .mov (.tmp 0), none⟩,
    ⟨some 107, .mov (.tmp 1), none⟩,
    ⟨some 108, .mov (.tmp 2), none⟩,
    ⟨some 109, .mov (.tmp 13), none⟩,
    ⟨some 110, .mov (.tmp 4), none⟩,
    ⟨some 111, .call 131 [(.tmp 106), (.tmp 107), (.tmp 108), (.tmp 109), (.tmp 110)], none⟩,
    ⟨some 105, .mov (.tmp 111), none⟩,
    ⟨some 112, .extract 105 0, none⟩,
    ⟨some 113, .extract 105 1, none⟩,
    ⟨some 16, .mov (.tmp 112), none⟩,
    ⟨some 17, .mov (.tmp 113), none⟩])
  (.seq (.region [⟨some 114, .mov (.tmp 17), none⟩,
    ⟨some 11, .mov (.tmp 114), none⟩])
  (.seq (.region [⟨some 115, .mov (.tmp 16), none⟩,
    ⟨some 116, .mov (.tmp 1), none⟩,
    ⟨some 117, .bin .sub (.tmp 115) (.tmp 116), none⟩,
    ⟨some 118, .mov (.tmp 2), none⟩,
    ⟨some 119, .mov (.tmp 16), none⟩,
    ⟨some 120, .bin .sub (.tmp 118) (.tmp 119), none⟩,
    ⟨some 18, .mov (.tmp 117), none⟩,
    ⟨some 19, .mov (.tmp 120), none⟩])
  (.seq (.region [⟨some 121, .mov (.tmp 12), none⟩,
    ⟨some 122, .bin .quo (.tmp 121) (.con (.int .i64 8)), none⟩,
    ⟨some 20, .mov (.tmp 122), none⟩])
  (.seq (.region [⟨some 123, .mov (.tmp 18), none⟩,
    ⟨some 124, .mov (.tmp 19), none⟩,
    ⟨some 125, .bin .lss (.tmp 123) (.tmp 124), none⟩])
  (.cond (.tmp 125) (.seq (.region [⟨some 126, .mov (.tmp 18), none⟩,
    ⟨some 127, .mov (.tmp 20), none⟩,
    ⟨some 128, .bin .geq (.tmp 126) (.tmp 127), none⟩,
    ⟨some 10, .mov (.tmp 128), none⟩])
  (.seq (.region [⟨some 129, .mov (.tmp 0), none⟩,
    ⟨some 130, .mov (.tmp 1), none⟩,
    ⟨some 131, .mov (.tmp 16), none⟩,
    ⟨some 132, .mov (.tmp 3), none⟩,
    ⟨some 133, .mov (.tmp 4), none⟩,
    ⟨some 134, .call 116 [(.tmp 129), (.tmp 130), (.tmp 131), (.tmp 132), (.tmp 133)], none⟩])
  (.region [⟨some 135, .mov (.tmp 16), none⟩,
    ⟨some 136, .bin .add (.tmp 135) (.con (.int .i64 1)), none⟩,
    ⟨some 1, .mov (.tmp 136), none⟩]))) (.seq (.region [⟨some 137, .mov (.tmp 19), none⟩,
    ⟨some 138, .mov (.tmp 20), none⟩,
    ⟨some 139, .bin .geq (.tmp 137) (.tmp 138), none⟩,
    ⟨some 10, .mov (.tmp 139), none⟩])
  (.seq (.region [⟨some 140, .mov (.tmp 0), none⟩,
    ⟨some 141, .mov (.tmp 16), none⟩,
    ⟨some 142, .bin .add (.tmp 141) (.con (.int .i64 1)), none⟩,
    ⟨some 143, .mov (.tmp 2), none⟩,
    ⟨some 144, .mov (.tmp 3), none⟩,
    ⟨some 145, .mov (.tmp 4), none⟩,
    ⟨some 146, .call 116 [(.tmp 140), (.tmp 142), (.tmp 143), (.tmp 144), (.tmp 145)], none⟩])
  (.region [⟨some 147, .mov (.tmp 16), none⟩,
    ⟨some 2, .mov (.tmp 147), none⟩]))))))))))))))))))
/-- slices.pdqsortCmpFunc[string] -/
def c_slices_pdqsortCmpFunc_string : CFn := ⟨148, .seq (.region [⟨some 10, .mov (.con (.bool true)), none⟩])
  (.seq (.region [⟨some 11, .mov (.con (.bool true)), none⟩])
  (.block 0 (.kill [12, 13, 14, 15, 16, 17, 18, 19, 20, 21, 22, 23, 24, 25, 26, 27, 28, 29, 30, 31, 32, 33, 34, 35, 36, 37, 38, 39, 40, 41, 42, 43, 44, 45, 46, 47, 48, 49, 50, 51, 52, 53, 54, 55, 56, 57, 58, 59, 60, 61, 62, 63, 64, 65, 66, 67, 68, 69, 70, 71, 72, 73, 74, 75, 76, 77, 78, 79, 80, 81, 82, 83, 84, 85, 86, 87, 88, 89, 90, 91, 92, 93, 94, 95, 96, 97, 98, 99, 100, 101, 102, 103, 104, 105, 106, 107, 108, 109, 110, 111, 112, 113, 114, 115, 116, 117, 118, 119, 120, 121, 122, 123, 124, 125, 126, 127, 128, 129, 130, 131, 132, 133, 134, 135, 136, 137, 138, 139, 140, 141, 142, 143, 144, 145, 146, 147] (.loop l_slices_pdqsortCmpFunc_string_0)))),
  []⟩
theorem is_slices_pdqsortCmpFunc_string : IsFn Tryz.prog 116 c_slices_pdqsortCmpFunc_string := isFn_of [([], []), ([], []), ([12, 13, 14, 15, 16, 17, 18, 19, 20, 21, 22, 23, 24, 25, 26, 27, 28, 29, 30, 31, 32, 33, 34, 35, 36, 37, 38, 39, 40, 41, 42, 43, 44, 45, 46, 47, 48, 49, 50, 51, 52, 53, 54, 55, 56, 57, 58, 59, 60, 61, 62, 63, 64, 65, 66, 67, 68, 69, 70, 71, 72, 73, 74, 75, 76, 77, 78, 79, 80, 81, 82, 83, 84, 85, 86, 87, 88, 89, 90, 91, 92, 93, 94, 95, 96, 97, 98, 99, 100, 101, 102, 103, 104, 105, 106, 107, 108, 109, 110, 111, 112, 113, 114, 115, 116, 117, 118, 119, 120, 121, 122, 123, 124, 125, 126, 127, 128, 129, 130, 131, 132, 133, 134, 135, 136, 137, 138, 139, 140, 141, 142, 143, 144, 145, 146, 147], []), ([], []), ([], []), ([], [0]), ([], []), ([], []), ([], [0]), ([], []), ([], []), ([], []), ([], []), ([], []), ([], []), ([], []), ([], []), ([], []), ([], []), ([], []), ([], []), ([], []), ([], []), ([], []), ([12, 13, 14, 15, 21, 22, 23, 24, 25, 31, 32, 38, 39, 40, 41, 42, 43, 44, 45, 46, 47, 48, 49, 50, 51, 52, 53, 54, 55, 56, 57, 58, 59, 60, 61, 62, 63, 64, 65, 66, 67, 68, 69, 70, 71, 72, 73, 74, 75, 76, 77, 78, 79, 80, 81, 82, 83, 84, 85, 86, 87, 88, 89, 90, 91, 92, 93, 94, 95, 96, 97, 98, 99, 100, 101, 102, 103, 104], []), ([], []), ([], []), ([], []), ([], []), ([], []), ([], []), ([], []), ([], []), ([], []), ([], []), ([], [])] (by kernel_rfl)

/-- math/bits.Len -/
def c_math_bits_Len : CFn := ⟨8, .seq (.region [⟨some 2, .mov (.con (.int .i64 0)), none⟩])
  (.seq (.cond (.con (.bool false)) (.seq (.region [⟨some 3, .mov (.tmp 0), none⟩,
    ⟨some 4, .cInt .u32 (.tmp 3), none⟩,
    ⟨some 5, .pcall 132 [(.tmp 4)], none⟩,
    ⟨some 2, .mov (.tmp 5), none⟩])
  (.ret)) (.skip))
  (.seq (.region [⟨some 6, .mov (.tmp 0), none⟩,
    ⟨some 7, .pcall 133 [(.tmp 6)], none⟩,
    ⟨some 2, .mov (.tmp 7), none⟩])
  (.ret))),
  [.tmp 2]⟩
theorem is_math_bits_Len : IsFn Tryz.prog 117 c_math_bits_Len := isFn_of [([], []), ([], [2]), ([], []), ([], [1]), ([], [])] (by kernel_rfl)

/-- internal/stringslite.Cut -/
def c_internal_stringslite_Cut : CFn := ⟨23, .seq (.region [⟨some 4, .mov (.con (.str ⟨#[]⟩)), none⟩,
    ⟨some 5, .mov (.con (.str ⟨#[]⟩)), none⟩,
    ⟨some 6, .mov (.con (.bool false)), none⟩])
  (.seq (.seq (.region [⟨some 8, .mov (.tmp 0), none⟩,
    ⟨some 9, .mov (.tmp 1), none⟩,
    ⟨some 10, .pcall 134 [(.tmp 8), (.tmp 9)], none⟩,
    ⟨some 7, .mov (.tmp 10), none⟩])
  (.seq (.region [⟨some 11, .mov (.tmp 7), none⟩,
    ⟨some 12, .bin .geq (.tmp 11) (.con (.int .i64 0)), none⟩])
  (.cond (.tmp 12) (.seq (.region [⟨some 13, .mov (.tmp 0), none⟩,
    ⟨some 14, .mov (.tmp 7), none⟩,
    ⟨some 15, .slice none (.tmp 13) none (some (.tmp 14)) none, none⟩,
    ⟨some 16, .mov (.tmp 0), none⟩,
    ⟨some 17, .mov (.tmp 7), none⟩,
    ⟨some 18, .mov (.tmp 1), none⟩,
    ⟨some 19, .lens (.tmp 18), none⟩,
    ⟨some 20, .bin .add (.tmp 17) (.tmp 19), none⟩,
    ⟨some 21, .slice none (.tmp 16) (some (.tmp 20)) none none, none⟩,
    ⟨some 4, .mov (.tmp 15), none⟩,
    ⟨some 5, .mov (.tmp 21), none⟩,
    ⟨some 6, .mov (.con (.bool true)), none⟩])
  (.ret)) (.skip))))
  (.seq (.region [⟨some 22, .mov (.tmp 0), none⟩,
    ⟨some 4, .mov (.tmp 22), none⟩,
    ⟨some 5, .mov (.con (.str ⟨#[]⟩)), none⟩,
    ⟨some 6, .mov (.con (.bool false)), none⟩])
  (.ret))),
  [.tmp 4, .tmp 5, .tmp 6]⟩
theorem is_internal_stringslite_Cut : IsFn Tryz.prog 118 c_internal_stringslite_Cut := isFn_of [([], []), ([], [2]), ([], []), ([], []), ([], []), ([], []), ([], [])] (by kernel_rfl)

/-- strconv.Atoi -/
theorem ok_strconv_Atoi : OkDef Tryz.prog 119 (.prim (atoiP 197)) := atoi_ok (eb := 5) (⟨Tryz.f119, Tryz.func119, by kernel_rfl, by kernel_rfl⟩ : Callable Tryz.prog 119) (fun s hs v h w => Tryz.strconv_Atoi_ok s hs v h w) (fun s hs h w0 w hw hb => by obtain ⟨tp, q, hv⟩ := errvar_ok (P := Tryz.prog) (hw.2 2 (by decide)) hb (n := "strconv.ErrSyntax") (by kernel_rfl); refine (Tryz.strconv_Atoi_syntax_var s hs h tp q w hv).mono ?_; rintro e w' ⟨N, rfl, _, _, hb'⟩; exact ⟨N, rfl, hb'⟩) (fun s hs h w0 w hw hb => by obtain ⟨tp, q, hv⟩ := errvar_ok (P := Tryz.prog) (hw.2 3 (by decide)) hb (n := "strconv.ErrRange") (by kernel_rfl); refine (Tryz.strconv_Atoi_range_var s hs h tp q w hv).mono ?_; rintro e w' ⟨N, rfl, _, _, hb'⟩; exact ⟨N, rfl, hb'⟩)

/-- strconv.Itoa -/
theorem ok_strconv_Itoa : OkDef Tryz.prog 120 (.prim itoaP) := itoa_ok (⟨Tryz.f120, Tryz.func120, by kernel_rfl, by kernel_rfl⟩ : Callable Tryz.prog 120) tab_ok (fun n h0 h1 w ht => Tryz.strconv_Itoa n h0 h1 w ht)

/-- strings.splitSeq -/
def c_strings_splitSeq : CFn := ⟨8, .seq (.region [⟨some 3, .box (.tmp 0), none⟩,
    ⟨some 4, .box (.tmp 1), none⟩,
    ⟨some 5, .box (.tmp 2), none⟩,
    ⟨some 6, .mov (.con (.nilf)), none⟩])
  (.seq (.region [⟨some 7, .mkfn (.func 138) [] [(.tmp 4), (.tmp 3), (.tmp 5)], none⟩,
    ⟨some 6, .mov (.tmp 7), none⟩])
  (.ret)),
  [.tmp 6]⟩
theorem is_strings_splitSeq : IsFn Tryz.prog 121 c_strings_splitSeq := isFn_of [([], []), ([], []), ([], [])] (by kernel_rfl)

/-- cmp.isNaN[string] -/
def c_cmp_isNaN_string : CFn := ⟨6, .seq (.region [⟨some 2, .mov (.con (.bool false)), none⟩])
  (.seq (.region [⟨some 3, .mov (.tmp 0), none⟩,
    ⟨some 4, .mov (.tmp 0), none⟩,
    ⟨some 5, .bin .neq (.tmp 3) (.tmp 4), none⟩,
    ⟨some 2, .mov (.tmp 5), none⟩])
  (.ret)),
  [.tmp 2]⟩
theorem is_cmp_isNaN_string : IsFn Tryz.prog 122 c_cmp_isNaN_string := isFn_of [([], []), ([], []), ([], [])] (by kernel_rfl)

/-- cmp.isNaN[int] -/
def c_cmp_isNaN_int : CFn := ⟨6, .seq (.region [⟨some 2, .mov (.con (.bool false)), none⟩])
  (.seq (.region [⟨some 3, .mov (.tmp 0), none⟩,
    ⟨some 4, .mov (.tmp 0), none⟩,
    ⟨some 5, .bin .neq (.tmp 3) (.tmp 4), none⟩,
    ⟨some 2, .mov (.tmp 5), none⟩])
  (.ret)),
  [.tmp 2]⟩
theorem is_cmp_isNaN_int : IsFn Tryz.prog 123 c_cmp_isNaN_int := isFn_of [([], []), ([], []), ([], [])] (by kernel_rfl)

abbrev s_slices_insertionSortCmpFunc_string_0 (v0 v1 v2 v3 v8 : AV) : List AV := [v0, v1, v2, v3, undefA, undefA, undefA, undefA, v8, .any, .any, .any, .any, .any, .any, .any, .any, .any, .any, .any, .any, .any, .any, .any, .any, .any, .any, .any, .any, .any, .any, .any, .any, .any, .any, .any, .any, .any, .any, .any, .any, .any, .any, .any, .any, .any, .any, .any, .any, .any, .any, .any, .any]
abbrev s_slices_insertionSortCmpFunc_string_1 (v0 v1 v2 v3 v8 v9 : AV) : List AV := [v0, v1, v2, v3, undefA, undefA, undefA, undefA, v8, v9, .any, .any, .any, .any, .any, .any, .any, .any, .any, .any, .any, .any, .any, .any, .any, .any, .any, .any, .any, .any, .any, .any, .any, .any, .any, .any, .any, .any, .any, .any, .any, .any, .any, .any, .any, .any, .any, .any, .any, .any, .any, .any, .any]
abbrev x_slices_insertionSortCmpFunc_string_0  : List AV := [.any, .any, .any, .any, undefA, undefA, undefA, undefA, .any, .any, .any, .any, .any, .any, .any, .any, .any, .any, .any, .any, .any, .any, .any, .any, .any, .any, .any, .any, .any, .any, .any, .any, .any, .any, .any, .any, .any, .any, .any, .any, .any, .any, .any, .any, .any, .any, .any, .any, .any, .any, .any, .any, .any]
abbrev x_slices_insertionSortCmpFunc_string_2 (v0 v1 v2 v3 v8 : AV) : List AV := [v0, v1, v2, v3, undefA, undefA, undefA, undefA, v8, .any, .any, .any, .any, .any, .any, .any, .any, .any, .any, .any, .any, .any, .any, .any, .any, .any, .any, .any, .any, .any, .any, .any, .any, .any, .any, .any, .any, .any, .any, .any, .any, .any, .any, .any, .any, .any, .any, .any, .any, .any, .any, .any, .any]
abbrev l_slices_insertionSortCmpFunc_string_1 : CC := .kill [12, 13, 14, 17, 18, 19, 20, 21, 22, 23, 24, 25, 26, 27, 28, 29, 30, 31, 32, 33, 34, 35, 36, 37, 38, 39, 40, 41, 42, 43, 44, 45, 46, 47, 48, 49, 50, 51, 52] (.seq (.seq (.region [⟨some 18, .mov (.tmp 9), none⟩,
    ⟨some 19, .mov (.tmp 1), none⟩,
    ⟨some 20, .bin .gtr (.tmp 18) (.tmp 19), none⟩,
    ⟨some 21, .mov (.tmp 20), none⟩,
    ⟨some 22, .mov (.tmp 3), (some (21, true))⟩,
    ⟨some 23, .mov (.tmp 0), (some (21, true))⟩,
    ⟨some 24, .mov (.tmp 9), (some (21, true))⟩,
    ⟨some 25, .iaddr 1 none (.tmp 23) (.tmp 24), (some (21, true))⟩,
    ⟨some 26, .load none (.tmp 25), (some (21, true))⟩,
    ⟨some 27, .mov (.tmp 0), (some (21, true))⟩,
    ⟨some 28, .mov (.tmp 9), (some (21, true))⟩,
    ⟨some 29, .bin .sub (.tmp 28) (.con (.int .i64 1)), (some (21, true))⟩,
    ⟨some 30, .iaddr 1 none (.tmp 27) (.tmp 29), (some (21, true))⟩,
    ⟨some 31, .load none (.tmp 30), (some (21, true))⟩,
    ⟨some 32, .callv (.tmp 22) [(.tmp 26), (.tmp 31)], (some (21, true))⟩,
    ⟨some 33, .bin .lss (.tmp 32) (.con (.int .i64 0)), (some (21, true))⟩,
    ⟨some 34, .pick (.tmp 21) (.tmp 33) (.con (.bool false)), none⟩])
  (.cond (.tmp 34) (.skip) (.kill [9, 18, 19, 20, 21, 22, 23, 24, 25, 26, 27, 28, 29, 30, 31, 32, 33, 34] (.exit 2))))
  (.seq (.block 3 (.region [⟨some 37, .mov (.tmp 0), none⟩,
    ⟨some 38, .mov (.tmp 9), none⟩,
    ⟨some 39, .mov (.tmp 0), none⟩,
    ⟨some 40, .mov (.tmp 9), none⟩,
    ⟨some 41, .bin .sub (.tmp 40) (.con (.int .i64 1)), none⟩,
    ⟨some 42, .mov (.tmp 0), none⟩,
    ⟨some 43, .mov (.tmp 9), none⟩,
    ⟨some 44, .bin .sub (.tmp 43) (.con (.int .i64 1)), none⟩,
    ⟨some 45, .iaddr 1 none (.tmp 42) (.tmp 44), none⟩,
    ⟨some 46, .load none (.tmp 45), none⟩,
    ⟨some 47, .mov (.tmp 0), none⟩,
    ⟨some 48, .mov (.tmp 9), none⟩,
    ⟨some 49, .iaddr 1 none (.tmp 47) (.tmp 48), none⟩,
    ⟨some 50, .load none (.tmp 49), none⟩,
    ⟨some 51, .iaddr 1 none (.tmp 37) (.tmp 38), none⟩,
    ⟨none, .store 1 (.tmp 51) (.tmp 46), none⟩,
    ⟨some 52, .iaddr 1 none (.tmp 39) (.tmp 41), none⟩,
    ⟨none, .store 1 (.tmp 52) (.tmp 50), none⟩]))
  (.region [⟨some 35, .mov (.tmp 9), none⟩,
    ⟨some 36, .bin .sub (.tmp 35) (.con (.int .i64 1)), none⟩,
    ⟨some 9, .mov (.tmp 36), none⟩])))
abbrev l_slices_insertionSortCmpFunc_string_0 : CC := .kill [9, 10, 11, 12, 13, 14, 15, 16, 17, 18, 19, 20, 21, 22, 23, 24, 25, 26, 27, 28, 29, 30, 31, 32, 33, 34, 35, 36, 37, 38, 39, 40, 41, 42, 43, 44, 45, 46, 47, 48, 49, 50, 51, 52] (.seq (.seq (.region [⟨some 12, .mov (.tmp 8), none⟩,
    ⟨some 13, .mov (.tmp 2), none⟩,
    ⟨some 14, .bin .lss (.tmp 12) (.tmp 13), none⟩])
  (.cond (.tmp 14) (.skip) (.kill [0, 1, 2, 3, 8, 12, 13, 14] (.exit 0))))
  (.seq (.block 1 (.seq (.region [⟨some 17, .mov (.tmp 8), none⟩,
    ⟨some 9, .mov (.tmp 17), none⟩])
  (.block 2 (.kill [12, 13, 14, 17, 18, 19, 20, 21, 22, 23, 24, 25, 26, 27, 28, 29, 30, 31, 32, 33, 34, 35, 36, 37, 38, 39, 40, 41, 42, 43, 44, 45, 46, 47, 48, 49, 50, 51, 52] (.loop l_slices_insertionSortCmpFunc_string_1)))))
  (.region [⟨some 15, .mov (.tmp 8), none⟩,
    ⟨some 16, .bin .add (.tmp 15) (.con (.int .i64 1)), none⟩,
    ⟨some 8, .mov (.tmp 16), none⟩])))
/-- slices.insertionSortCmpFunc[string] -/
def c_slices_insertionSortCmpFunc_string : CFn := ⟨53, .seq (.region [⟨some 10, .mov (.tmp 1), none⟩,
    ⟨some 11, .bin .add (.tmp 10) (.con (.int .i64 1)), none⟩,
    ⟨some 8, .mov (.tmp 11), none⟩])
  (.block 0 (.kill [9, 10, 11, 12, 13, 14, 15, 16, 17, 18, 19, 20, 21, 22, 23, 24, 25, 26, 27, 28, 29, 30, 31, 32, 33, 34, 35, 36, 37, 38, 39, 40, 41, 42, 43, 44, 45, 46, 47, 48, 49, 50, 51, 52] (.loop l_slices_insertionSortCmpFunc_string_0))),
  []⟩
theorem is_slices_insertionSortCmpFunc_string : IsFn Tryz.prog 124 c_slices_insertionSortCmpFunc_string := isFn_of [([], []), ([9, 10, 11, 12, 13, 14, 15, 16, 17, 18, 19, 20, 21, 22, 23, 24, 25, 26, 27, 28, 29, 30, 31, 32, 33, 34, 35, 36, 37, 38, 39, 40, 41, 42, 43, 44, 45, 46, 47, 48, 49, 50, 51, 52], []), ([], []), ([0, 1, 2, 3, 8, 12, 13, 14], []), ([], []), ([12, 13, 14, 17, 18, 19, 20, 21, 22, 23, 24, 25, 26, 27, 28, 29, 30, 31, 32, 33, 34, 35, 36, 37, 38, 39, 40, 41, 42, 43, 44, 45, 46, 47, 48, 49, 50, 51, 52], []), ([], []), ([9, 18, 19, 20, 21, 22, 23, 24, 25, 26, 27, 28, 29, 30, 31, 32, 33, 34], []), ([], []), ([], []), ([], [])] (by kernel_rfl)

/-- math/bits.Len32 -/
def c_math_bits_Len32 : CFn := ⟨19, .seq (.region [⟨some 2, .mov (.con (.int .i64 0)), none⟩])
  (.seq (.seq (.region [⟨some 3, .mov (.tmp 0), none⟩,
    ⟨some 4, .bin .geq (.tmp 3) (.con (.int .u32 65536)), none⟩])
  (.cond (.tmp 4) (.seq (.region [⟨some 5, .mov (.tmp 0), none⟩,
    ⟨some 6, .bin .shr (.tmp 5) (.con (.int .u64 16)), none⟩,
    ⟨some 0, .mov (.tmp 6), none⟩])
  (.region [⟨some 2, .mov (.con (.int .i64 16)), none⟩])) (.skip)))
  (.seq (.seq (.region [⟨some 7, .mov (.tmp 0), none⟩,
    ⟨some 8, .bin .geq (.tmp 7) (.con (.int .u32 256)), none⟩])
  (.cond (.tmp 8) (.seq (.region [⟨some 9, .mov (.tmp 0), none⟩,
    ⟨some 10, .bin .shr (.tmp 9) (.con (.int .u64 8)), none⟩,
    ⟨some 0, .mov (.tmp 10), none⟩])
  (.region [⟨some 11, .mov (.tmp 2), none⟩,
    ⟨some 12, .bin .add (.tmp 11) (.con (.int .i64 8)), none⟩,
    ⟨some 2, .mov (.tmp 12), none⟩])) (.skip)))
  (.seq (.region [⟨some 13, .mov (.tmp 2), none⟩,
    ⟨some 14, .mov (.tmp 0), none⟩,
    ⟨some 15, .cInt .u8 (.tmp 14), none⟩,
    ⟨some 16, .idxs (.con (.str ⟨#[0, 1, 2, 2, 3, 3, 3, 3, 4, 4, 4, 4, 4, 4, 4, 4, 5, 5, 5, 5, 5, 5, 5, 5, 5, 5, 5, 5, 5, 5, 5, 5, 6, 6, 6, 6, 6, 6, 6, 6, 6, 6, 6, 6, 6, 6, 6, 6, 6, 6, 6, 6, 6, 6, 6, 6, 6, 6, 6, 6, 6, 6, 6, 6, 7, 7, 7, 7, 7, 7, 7, 7, 7, 7, 7, 7, 7, 7, 7, 7, 7, 7, 7, 7, 7, 7, 7, 7, 7, 7, 7, 7, 7, 7, 7, 7, 7, 7, 7, 7, 7, 7, 7, 7, 7, 7, 7, 7, 7, 7, 7, 7, 7, 7, 7, 7, 7, 7, 7, 7, 7, 7, 7, 7, 7, 7, 7, 7, 8, 8, 8, 8, 8, 8, 8, 8, 8, 8, 8, 8, 8, 8, 8, 8, 8, 8, 8, 8, 8, 8, 8, 8, 8, 8, 8, 8, 8, 8, 8, 8, 8, 8, 8, 8, 8, 8, 8, 8, 8, 8, 8, 8, 8, 8, 8, 8, 8, 8, 8, 8, 8, 8, 8, 8, 8, 8, 8, 8, 8, 8, 8, 8, 8, 8, 8, 8, 8, 8, 8, 8, 8, 8, 8, 8, 8, 8, 8, 8, 8, 8, 8, 8, 8, 8, 8, 8, 8, 8, 8, 8, 8, 8, 8, 8, 8, 8, 8, 8, 8, 8, 8, 8, 8, 8, 8, 8, 8, 8, 8, 8, 8, 8, 8, 8, 8, 8, 8, 8, 8, 8, 8, 8, 8, 8, 8, 8]⟩)) (.tmp 15), none⟩,
    ⟨some 17, .cInt .i64 (.tmp 16), none⟩,
    ⟨some 18, .bin .add (.tmp 13) (.tmp 17), none⟩,
    ⟨some 2, .mov (.tmp 18), none⟩])
  (.ret)))),
  [.tmp 2]⟩
theorem is_math_bits_Len32 : IsFn Tryz.prog 132 c_math_bits_Len32 := isFn_of [([], []), ([], []), ([], []), ([], []), ([], []), ([], []), ([], []), ([], []), ([], [])] (by kernel_rfl)

/-- math/bits.Len64 -/
def c_math_bits_Len64 : CFn := ⟨25, .seq (.region [⟨some 2, .mov (.con (.int .i64 0)), none⟩])
  (.seq (.seq (.region [⟨some 3, .mov (.tmp 0), none⟩,
    ⟨some 4, .bin .geq (.tmp 3) (.con (.int .u64 4294967296)), none⟩])
  (.cond (.tmp 4) (.seq (.region [⟨some 5, .mov (.tmp 0), none⟩,
    ⟨some 6, .bin .shr (.tmp 5) (.con (.int .u64 32)), none⟩,
    ⟨some 0, .mov (.tmp 6), none⟩])
  (.region [⟨some 2, .mov (.con (.int .i64 32)), none⟩])) (.skip)))
  (.seq (.seq (.region [⟨some 7, .mov (.tmp 0), none⟩,
    ⟨some 8, .bin .geq (.tmp 7) (.con (.int .u64 65536)), none⟩])
  (.cond (.tmp 8) (.seq (.region [⟨some 9, .mov (.tmp 0), none⟩,
    ⟨some 10, .bin .shr (.tmp 9) (.con (.int .u64 16)), none⟩,
    ⟨some 0, .mov (.tmp 10), none⟩])
  (.region [⟨some 11, .mov (.tmp 2), none⟩,
    ⟨some 12, .bin .add (.tmp 11) (.con (.int .i64 16)), none⟩,
    ⟨some 2, .mov (.tmp 12), none⟩])) (.skip)))
  (.seq (.seq (.region [⟨some 13, .mov (.tmp 0), none⟩,
    ⟨some 14, .bin .geq (.tmp 13) (.con (.int .u64 256)), none⟩])
  (.cond (.tmp 14) (.seq (.region [⟨some 15, .mov (.tmp 0), none⟩,
    ⟨some 16, .bin .shr (.tmp 15) (.con (.int .u64 8)), none⟩,
    ⟨some 0, .mov (.tmp 16), none⟩])
  (.region [⟨some 17, .mov (.tmp 2), none⟩,
    ⟨some 18, .bin .add (.tmp 17) (.con (.int .i64 8)), none⟩,
    ⟨some 2, .mov (.tmp 18), none⟩])) (.skip)))
  (.seq (.region [⟨some 19, .mov (.tmp 2), none⟩,
    ⟨some 20, .mov (.tmp 0), none⟩,
    ⟨some 21, .cInt .u8 (.tmp 20), none⟩,
    ⟨some 22, .idxs (.con (.str ⟨#[0, 1, 2, 2, 3, 3, 3, 3, 4, 4, 4, 4, 4, 4, 4, 4, 5, 5, 5, 5, 5, 5, 5, 5, 5, 5, 5, 5, 5, 5, 5, 5, 6, 6, 6, 6, 6, 6, 6, 6, 6, 6, 6, 6, 6, 6, 6, 6, 6, 6, 6, 6, 6, 6, 6, 6, 6, 6, 6, 6, 6, 6, 6, 6, 7, 7, 7, 7, 7, 7, 7, 7, 7, 7, 7, 7, 7, 7, 7, 7, 7, 7, 7, 7, 7, 7, 7, 7, 7, 7, 7, 7, 7, 7, 7, 7, 7, 7, 7, 7, 7, 7, 7, 7, 7, 7, 7, 7, 7, 7, 7, 7, 7, 7, 7, 7, 7, 7, 7, 7, 7, 7, 7, 7, 7, 7, 7, 7, 8, 8, 8, 8, 8, 8, 8, 8, 8, 8, 8, 8, 8, 8, 8, 8, 8, 8, 8, 8, 8, 8, 8, 8, 8, 8, 8, 8, 8, 8, 8, 8, 8, 8, 8, 8, 8, 8, 8, 8, 8, 8, 8, 8, 8, 8, 8, 8, 8, 8, 8, 8, 8, 8, 8, 8, 8, 8, 8, 8, 8, 8, 8, 8, 8, 8, 8, 8, 8, 8, 8, 8, 8, 8, 8, 8, 8, 8, 8, 8, 8, 8, 8, 8, 8, 8, 8, 8, 8, 8, 8, 8, 8, 8, 8, 8, 8, 8, 8, 8, 8, 8, 8, 8, 8, 8, 8, 8, 8, 8, 8, 8, 8, 8, 8, 8, 8, 8, 8, 8, 8, 8, 8, 8, 8, 8, 8, 8]⟩)) (.tmp 21), none⟩,
    ⟨some 23, .cInt .i64 (.tmp 22), none⟩,
    ⟨some 24, .bin .add (.tmp 19) (.tmp 23), none⟩,
    ⟨some 2, .mov (.tmp 24), none⟩])
  (.ret))))),
  [.tmp 2]⟩
theorem is_math_bits_Len64 : IsFn Tryz.prog 133 c_math_bits_Len64 := isFn_of [([], []), ([], []), ([], []), ([], []), ([], []), ([], []), ([], []), ([], []), ([], []), ([], []), ([], []), ([], [])] (by kernel_rfl)

/-- internal/stringslite.Index -/
theorem ok_internal_stringslite_Index : OkDef Tryz.prog 134 (.prim index1P) := index1_ok (⟨Tryz.f134, Tryz.func134, by kernel_rfl, by kernel_rfl⟩ : Callable Tryz.prog 134) (fun s c w => Tryz.stringslite_Index_one s c w)

/-- strings.splitSeq$1 -/
theorem ok_strings_splitSeq_1 : OkDef Tryz.prog 138 (.split) := split_ok

end Go.Proofs.YtlcflpanellbfaaGreatDoor.F
