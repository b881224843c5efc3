/- Functions of the program, compiled, by a program (gen.py). -/
import Derived.Test.YtjeigcnaalleiaaGreatDoorProg
import Derived.KernelRfl
import Derived.Test.YtjeigcnaalleiaaGreatDoorM19
import Derived.Test.YtjeigcnaalleiaaGreatDoorF1
set_option maxRecDepth 100000
namespace Go.Proofs.YtjeigcnaalleiaaGreatDoor.F
open Go.Proofs.YtjeigcnaalleiaaGreatDoor.M Go.Proofs Go.RowKit

/-- errors.Is -/
theorem ok_errors_Is : OkDef Tryz.prog 76 (.prim (errIsP 122 27)) := errIs_ok (⟨Tryz.f76, Tryz.func76, by kernel_rfl, by kernel_rfl⟩ : Callable Tryz.prog 76) (fun l e v w h => errIs_fch l e v w h)

/-- regency/regencyref06.isCat -/
def c_regencyref06_isCat : CFn := ⟨11, .seq (.region [⟨some 2, .mov (.con (.bool false)), none⟩])
  (.seq (.region [⟨some 6, .mov (.tmp 0), none⟩,
    ⟨some 7, .pcall 50 [(.tmp 6)], none⟩,
    ⟨some 5, .take (.tmp 7), none⟩,
    ⟨some 8, .extract 5 0, none⟩,
    ⟨some 9, .extract 5 1, none⟩,
    ⟨some 3, .alloc [.sl .ex [], .int .i64 0], none⟩,
    ⟨none, .store 2 (.tmp 3) (.tmp 8), none⟩,
    ⟨some 4, .mov (.tmp 9), none⟩])
  (.seq (.region [⟨some 10, .mov (.tmp 4), none⟩,
    ⟨some 2, .mov (.tmp 10), none⟩])
  (.ret))),
  [.tmp 2]⟩
theorem is_regencyref06_isCat : IsFn Tryz.prog 77 c_regencyref06_isCat := isFn_of [([], []), ([], [1, 2]), ([], []), ([], [])] (by kernel_rfl)

/-- regency/regencyref05.Compare -/
def c_regencyref05_Compare : CFn := ⟨38, .seq (.region [⟨some 4, .mov (.con (.int .i64 0)), none⟩])
  (.seq (.region [⟨some 11, .mov (.tmp 0), none⟩,
    ⟨some 12, .pcall 50 [(.tmp 11)], none⟩,
    ⟨some 10, .take (.tmp 12), none⟩,
    ⟨some 13, .extract 10 0, none⟩,
    ⟨some 14, .extract 10 1, none⟩,
    ⟨some 5, .alloc [.sl .ex [], .int .i64 0], none⟩,
    ⟨none, .store 2 (.tmp 5) (.tmp 13), none⟩,
    ⟨some 6, .mov (.tmp 14), none⟩])
  (.seq (.region [⟨some 16, .mov (.tmp 1), none⟩,
    ⟨some 17, .pcall 50 [(.tmp 16)], none⟩,
    ⟨some 15, .take (.tmp 17), none⟩,
    ⟨some 18, .extract 15 0, none⟩,
    ⟨some 19, .extract 15 1, none⟩,
    ⟨some 7, .alloc [.sl .ex [], .int .i64 0], none⟩,
    ⟨none, .store 2 (.tmp 7) (.tmp 18), none⟩,
    ⟨some 8, .mov (.tmp 19), none⟩])
  (.seq (.region [⟨some 20, .mov (.tmp 0), none⟩,
    ⟨some 21, .mov (.tmp 1), none⟩,
    ⟨some 22, .bin .lss (.tmp 20) (.tmp 21), none⟩,
    ⟨some 9, .mov (.tmp 22), none⟩])
  (.seq (.seq (.region [⟨some 23, .mov (.tmp 6), none⟩,
    ⟨some 24, .mov (.tmp 23), none⟩,
    ⟨some 25, .mov (.tmp 8), (some (24, true))⟩,
    ⟨some 26, .pick (.tmp 24) (.tmp 25) (.con (.bool false)), none⟩])
  (.cond (.tmp 26) (.region [⟨some 27, .load (some 2) (.tmp 5), none⟩,
    ⟨some 28, .load (some 2) (.tmp 7), none⟩,
    ⟨some 29, .pcall 95 [(.tmp 27), (.tmp 28)], none⟩,
    ⟨some 9, .mov (.tmp 29), none⟩]) (.seq (.region [⟨some 30, .mov (.tmp 6), none⟩,
    ⟨some 31, .mov (.tmp 8), none⟩,
    ⟨some 32, .eqb true (.tmp 30) (.tmp 31), none⟩])
  (.cond (.tmp 32) (.region [⟨some 33, .mov (.tmp 6), none⟩,
    ⟨some 9, .mov (.tmp 33), none⟩]) (.skip)))))
  (.seq (.seq (.region [⟨some 34, .mov (.tmp 9), none⟩])
  (.cond (.tmp 34) (.seq (.region [⟨some 4, .mov (.con (.int .i64 (-1))), none⟩])
  (.ret)) (.skip)))
  (.seq (.seq (.region [⟨some 35, .mov (.tmp 0), none⟩,
    ⟨some 36, .mov (.tmp 1), none⟩,
    ⟨some 37, .bin .eql (.tmp 35) (.tmp 36), none⟩])
  (.cond (.tmp 37) (.seq (.region [⟨some 4, .mov (.con (.int .i64 0)), none⟩])
  (.ret)) (.skip)))
  (.seq (.region [⟨some 4, .mov (.con (.int .i64 1)), none⟩])
  (.ret)))))))),
  [.tmp 4]⟩
theorem is_regencyref05_Compare : IsFn Tryz.prog 78 c_regencyref05_Compare := isFn_of [([], []), ([], [1, 2]), ([], [1, 2]), ([], []), ([], []), ([], [2]), ([], []), ([], []), ([], []), ([], []), ([], []), ([], []), ([], []), ([], []), ([], []), ([], [])] (by kernel_rfl)

abbrev s_regencyref05_Fits_0 (v20 v21 v22 : AV) : List AV := [.any, .any, .any, undefA, .any, .any, .any, .any, .any, .any, .any, .any, .any, .any, .any, .any, .any, .any, .any, .any, v20, v21, v22, .any, .any, .any, .any, .any, .any, .any, .any, .any, .any]
abbrev x_regencyref05_Fits_0  : List AV := [.any, .any, .any, undefA, .any, .any, .any, .any, .any, .any, .any, .any, .any, .any, .any, .any, .any, .any, .any, .any, .any, .any, .any, .any, .any, .any, .any, .any, .any, .any, .any, .any, .any]
abbrev l_regencyref05_Fits_0 : CC := .kill [0, 1, 2, 4, 5, 6, 7, 8, 9, 10, 11, 12, 13, 14, 15, 16, 17, 18, 19, 23, 24, 25, 26, 27, 28, 29, 30, 31, 32] (.seq (.region [⟨some 23, .bin .lss (.tmp 22) (.tmp 21), none⟩])
  (.seq (.cond (.tmp 23) (.skip) (.kill [20, 21, 22, 23] (.exit 0)))
  (.seq (.block 1 (.seq (.region [⟨some 24, .iaddr 1 none (.tmp 20) (.tmp 22), none⟩,
    ⟨some 25, .load none (.tmp 24), none⟩,
    ⟨some 4, .mov (.tmp 25), none⟩])
  (.seq (.region [⟨some 26, .mov (.tmp 4), none⟩,
    ⟨some 27, .bin .lss (.tmp 26) (.con (.int .i64 0)), none⟩,
    ⟨some 28, .mov (.tmp 27), none⟩,
    ⟨some 29, .mov (.tmp 4), (some (28, false))⟩,
    ⟨some 30, .bin .gtr (.tmp 29) (.con (.int .i64 1048576)), (some (28, false))⟩,
    ⟨some 31, .pick (.tmp 28) (.con (.bool true)) (.tmp 30), none⟩])
  (.cond (.tmp 31) (.seq (.region [⟨some 2, .mov (.con (.bool false)), none⟩])
  (.ret)) (.skip)))))
  (.region [⟨some 32, .bin .add (.tmp 22) (.con (.int .i64 1)), none⟩,
    ⟨some 22, .mov (.tmp 32), none⟩]))))
/-- regency/regencyref05.Fits -/
def c_regencyref05_Fits : CFn := ⟨33, .seq (.region [⟨some 1, .box (.tmp 0), none⟩,
    ⟨some 2, .mov (.con (.bool false)), none⟩])
  (.seq (.seq (.region [⟨some 5, .faddr 1 (.tmp 1), none⟩,
    ⟨some 6, .load none (.tmp 5), none⟩,
    ⟨some 7, .bin .lss (.tmp 6) (.con (.int .i64 0)), none⟩,
    ⟨some 8, .mov (.tmp 7), none⟩,
    ⟨some 9, .faddr 1 (.tmp 1), (some (8, false))⟩,
    ⟨some 10, .load none (.tmp 9), (some (8, false))⟩,
    ⟨some 11, .bin .gtr (.tmp 10) (.con (.int .i64 65535)), (some (8, false))⟩,
    ⟨some 12, .pick (.tmp 8) (.con (.bool true)) (.tmp 11), none⟩,
    ⟨some 13, .mov (.tmp 12), none⟩,
    ⟨some 14, .faddr 0 (.tmp 1), (some (13, false))⟩,
    ⟨some 15, .load none (.tmp 14), (some (13, false))⟩,
    ⟨some 16, .lenl (.tmp 15), (some (13, false))⟩,
    ⟨some 17, .bin .gtr (.tmp 16) (.con (.int .i64 6)), (some (13, false))⟩,
    ⟨some 18, .pick (.tmp 13) (.con (.bool true)) (.tmp 17), none⟩])
  (.cond (.tmp 18) (.seq (.region [⟨some 2, .mov (.con (.bool false)), none⟩])
  (.ret)) (.skip)))
  (.seq (.seq (.region [⟨some 19, .faddr 0 (.tmp 1), none⟩,
    ⟨some 20, .load none (.tmp 19), none⟩,
    ⟨some 21, .lenl (.tmp 20), none⟩,
    ⟨some 22, .mov (.con (.int .i64 0)), none⟩])
  (.block 0 (.kill [0, 1, 2, 4, 5, 6, 7, 8, 9, 10, 11, 12, 13, 14, 15, 16, 17, 18, 19, 23, 24, 25, 26, 27, 28, 29, 30, 31, 32] (.loop l_regencyref05_Fits_0))))
  (.seq (.region [⟨some 2, .mov (.con (.bool true)), none⟩])
  (.ret)))),
  [.tmp 2]⟩
theorem is_regencyref05_Fits : IsFn Tryz.prog 79 c_regencyref05_Fits := isFn_of [([], []), ([], []), ([], []), ([], []), ([], []), ([0, 1, 2, 4, 5, 6, 7, 8, 9, 10, 11, 12, 13, 14, 15, 16, 17, 18, 19, 23, 24, 25, 26, 27, 28, 29, 30, 31, 32], []), ([], []), ([20, 21, 22, 23], []), ([], []), ([], []), ([], []), ([], []), ([], []), ([], []), ([], [])] (by kernel_rfl)

abbrev s_regencyref05_Text_0 (v1 v3 v7 v8 v9 : AV) : List AV := [.any, v1, .any, v3, .any, .any, .any, v7, v8, v9, .any, .any, .any, .any, .any, .any, .any, .any, .any, .any, .any, .any, .any, undefA, undefA, undefA, undefA, undefA, undefA]
abbrev x_regencyref05_Text_0 (v1 v3 : AV) : List AV := [.any, v1, .any, v3, .any, .any, .any, .any, .any, .any, .any, .any, .any, .any, .any, .any, .any, .any, .any, .any, .any, .any, .any, undefA, undefA, undefA, undefA, undefA, undefA]
abbrev l_regencyref05_Text_0 : CC := .kill [0, 2, 4, 5, 6, 10, 11, 12, 13, 14, 15, 16, 17, 18, 19, 20, 21, 22] (.seq (.region [⟨some 10, .bin .lss (.tmp 9) (.tmp 8), none⟩])
  (.seq (.cond (.tmp 10) (.skip) (.kill [7, 8, 9, 10] (.exit 0)))
  (.seq (.block 1 (.seq (.region [⟨some 11, .mov (.tmp 9), none⟩,
    ⟨some 12, .iaddr 1 none (.tmp 7) (.tmp 9), none⟩,
    ⟨some 13, .load none (.tmp 12), none⟩,
    ⟨some 4, .mov (.tmp 11), none⟩,
    ⟨some 5, .mov (.tmp 13), none⟩])
  (.seq (.seq (.region [⟨some 14, .mov (.tmp 4), none⟩,
    ⟨some 15, .bin .gtr (.tmp 14) (.con (.int .i64 0)), none⟩])
  (.cond (.tmp 15) (.region [⟨some 16, .mov (.tmp 3), none⟩,
    ⟨some 17, .bin .add (.tmp 16) (.con (.str ⟨#[46]⟩)), none⟩,
    ⟨some 3, .mov (.tmp 17), none⟩]) (.skip)))
  (.region [⟨some 18, .mov (.tmp 3), none⟩,
    ⟨some 19, .mov (.tmp 5), none⟩,
    ⟨some 20, .pcall 62 [(.tmp 19)], none⟩,
    ⟨some 21, .bin .add (.tmp 18) (.tmp 20), none⟩,
    ⟨some 3, .mov (.tmp 21), none⟩]))))
  (.region [⟨some 22, .bin .add (.tmp 9) (.con (.int .i64 1)), none⟩,
    ⟨some 9, .mov (.tmp 22), none⟩]))))
/-- regency/regencyref05.Text -/
def c_regencyref05_Text : CFn := ⟨29, .seq (.region [⟨some 1, .box (.tmp 0), none⟩,
    ⟨some 2, .mov (.con (.str ⟨#[]⟩)), none⟩])
  (.seq (.region [⟨some 3, .mov (.con (.str ⟨#[]⟩)), none⟩])
  (.seq (.seq (.region [⟨some 6, .faddr 0 (.tmp 1), none⟩,
    ⟨some 7, .load none (.tmp 6), none⟩,
    ⟨some 8, .lenl (.tmp 7), none⟩,
    ⟨some 9, .mov (.con (.int .i64 0)), none⟩])
  (.block 0 (.kill [0, 2, 4, 5, 6, 10, 11, 12, 13, 14, 15, 16, 17, 18, 19, 20, 21, 22] (.loop l_regencyref05_Text_0))))
  (.seq (.region [⟨some 23, .mov (.tmp 3), none⟩,
    ⟨some 24, .bin .add (.tmp 23) (.con (.str ⟨#[47]⟩)), none⟩,
    ⟨some 25, .faddr 1 (.tmp 1), none⟩,
    ⟨some 26, .load none (.tmp 25), none⟩,
    ⟨some 27, .pcall 62 [(.tmp 26)], none⟩,
    ⟨some 28, .bin .add (.tmp 24) (.tmp 27), none⟩,
    ⟨some 2, .mov (.tmp 28), none⟩])
  (.ret)))),
  [.tmp 2]⟩
theorem is_regencyref05_Text : IsFn Tryz.prog 80 c_regencyref05_Text := isFn_of [([], []), ([], []), ([], []), ([0, 2, 4, 5, 6, 10, 11, 12, 13, 14, 15, 16, 17, 18, 19, 20, 21, 22], []), ([], []), ([7, 8, 9, 10], []), ([], []), ([], []), ([], []), ([], [2]), ([], []), ([], [4]), ([], [])] (by kernel_rfl)

abbrev l_cats_Parse_1 : CC := .block 1 (.seq (.region [⟨some 38, .mov (.tmp 11), none⟩,
    ⟨some 39, .pcall 97 [(.tmp 38), (.con (.int .i64 1048576))], none⟩,
    ⟨some 37, .mov (.tmp 39), none⟩,
    ⟨some 40, .extract 37 0, none⟩,
    ⟨some 41, .extract 37 1, none⟩,
    ⟨some 12, .mov (.tmp 40), none⟩,
    ⟨some 13, .mov (.tmp 41), none⟩])
  (.seq (.seq (.region [⟨some 42, .mov (.tmp 13), none⟩,
    ⟨some 43, .un .not (.tmp 42), none⟩,
    ⟨some 44, .mov (.tmp 43), none⟩,
    ⟨some 45, .load none (.tmp 10), (some (44, false))⟩,
    ⟨some 46, .lenl (.tmp 45), (some (44, false))⟩,
    ⟨some 47, .bin .eql (.tmp 46) (.con (.int .i64 6)), (some (44, false))⟩,
    ⟨some 48, .pick (.tmp 44) (.con (.bool true)) (.tmp 47), none⟩])
  (.cond (.tmp 48) (.seq (.region [⟨none, .store 1 (.tmp 2) (.con (.sl .ex [])), none⟩,
    ⟨none, .store 1 (.tmp 3) (.con (.int .i64 0)), none⟩,
    ⟨none, .store 1 (.tmp 4) (.con (.bool false)), none⟩])
  (.ret)) (.skip)))
  (.region [⟨some 49, .ltake (.tmp 10), none⟩,
    ⟨some 50, .mov (.tmp 12), none⟩,
    ⟨some 51, .bslice 1 false [(.tmp 50)], none⟩,
    ⟨some 52, .append 1 8 false (.tmp 49) (.tmp 51), none⟩,
    ⟨none, .store 1 (.tmp 10) (.tmp 52), none⟩])))
abbrev l_cats_Parse_0 : CC := .region [⟨some 11, .mov (.tmp 36), none⟩]
/-- regency/cats.Parse -/
def c_cats_Parse : CFn := ⟨55, .seq (.region [⟨some 2, .alloc [.sl .ex []], none⟩,
    ⟨some 3, .alloc [.int .i64 0], none⟩,
    ⟨some 4, .alloc [.bool false], none⟩])
  (.seq (.region [⟨some 15, .mov (.tmp 0), none⟩,
    ⟨some 16, .pcall 96 [(.tmp 15), (.con (.str ⟨#[47]⟩))], none⟩,
    ⟨some 14, .mov (.tmp 16), none⟩,
    ⟨some 17, .extract 14 0, none⟩,
    ⟨some 18, .extract 14 1, none⟩,
    ⟨some 19, .extract 14 2, none⟩,
    ⟨some 5, .mov (.tmp 17), none⟩,
    ⟨some 6, .mov (.tmp 18), none⟩,
    ⟨some 7, .mov (.tmp 19), none⟩])
  (.seq (.region [⟨some 21, .mov (.tmp 6), none⟩,
    ⟨some 22, .pcall 97 [(.tmp 21), (.con (.int .i64 65535))], none⟩,
    ⟨some 20, .mov (.tmp 22), none⟩,
    ⟨some 23, .extract 20 0, none⟩,
    ⟨some 24, .extract 20 1, none⟩,
    ⟨some 8, .mov (.tmp 23), none⟩,
    ⟨some 9, .mov (.tmp 24), none⟩])
  (.seq (.seq (.region [⟨some 25, .mov (.tmp 7), none⟩,
    ⟨some 26, .un .not (.tmp 25), none⟩,
    ⟨some 27, .mov (.tmp 26), none⟩,
    ⟨some 28, .mov (.tmp 9), (some (27, false))⟩,
    ⟨some 29, .un .not (.tmp 28), (some (27, false))⟩,
    ⟨some 30, .pick (.tmp 27) (.con (.bool true)) (.tmp 29), none⟩])
  (.cond (.tmp 30) (.seq (.region [⟨none, .store 1 (.tmp 2) (.con (.sl .ex [])), none⟩,
    ⟨none, .store 1 (.tmp 3) (.con (.int .i64 0)), none⟩,
    ⟨none, .store 1 (.tmp 4) (.con (.bool false)), none⟩])
  (.ret)) (.skip)))
  (.seq (.seq (.region [⟨some 31, .mov (.tmp 5), none⟩,
    ⟨some 32, .bin .eql (.tmp 31) (.con (.str ⟨#[]⟩)), none⟩])
  (.cond (.tmp 32) (.seq (.region [⟨some 33, .mov (.tmp 8), none⟩,
    ⟨none, .store 1 (.tmp 2) (.con (.sl .ex [])), none⟩,
    ⟨none, .store 1 (.tmp 3) (.tmp 33), none⟩,
    ⟨none, .store 1 (.tmp 4) (.con (.bool true)), none⟩])
  (.ret)) (.skip)))
  (.seq (.region [⟨some 10, .alloc [.sl .ex []], none⟩])
  (.seq (.seq (.region [⟨some 34, .mov (.tmp 5), none⟩,
    ⟨some 35, .call 98 [(.tmp 34), (.con (.str ⟨#[46]⟩))], none⟩])
  (.block 0 (.rsplit (.tmp 35) 36 l_cats_Parse_0 l_cats_Parse_1)))
  (.seq (.region [⟨some 53, .load none (.tmp 10), none⟩,
    ⟨some 54, .mov (.tmp 8), none⟩,
    ⟨none, .store 1 (.tmp 2) (.tmp 53), none⟩,
    ⟨none, .store 1 (.tmp 3) (.tmp 54), none⟩,
    ⟨none, .store 1 (.tmp 4) (.con (.bool true)), none⟩])
  (.ret)))))))),
  [.cell 2 none, .cell 3 none, .cell 4 none]⟩
theorem is_cats_Parse : IsFn Tryz.prog 81 c_cats_Parse := isFn_of [([], []), ([], [1]), ([], [1]), ([], []), ([], []), ([], []), ([], []), ([], []), ([], []), ([], []), ([], []), ([], []), ([], [1]), ([], []), ([], []), ([], []), ([], [0]), ([], []), ([], [])] (by kernel_rfl)

/-- regency/label.at -/
def c_label_at : CFn := ⟨9, .seq (.region [⟨some 2, .box (.tmp 0), none⟩,
    ⟨some 4, .mov (.con (.int .i64 0)), none⟩])
  (.seq (.region [⟨some 5, .faddr 0 (.tmp 2), none⟩,
    ⟨some 6, .load none (.tmp 5), none⟩,
    ⟨some 7, .mov (.tmp 1), none⟩,
    ⟨some 8, .pcall 99 [(.tmp 6), (.tmp 7)], none⟩,
    ⟨some 4, .mov (.tmp 8), none⟩])
  (.ret)),
  [.tmp 4]⟩
theorem is_label_at : IsFn Tryz.prog 82 c_label_at := isFn_of [([], []), ([], [3]), ([], [])] (by kernel_rfl)

abbrev s_regencyref01_num_0 (v0 v3 : AV) : List AV := [v0, undefA, .any, v3, undefA, .any, .any, .any, .any, .any, .any, .any, .any, .any, .any, .any, .any, .any, .any, .any, .any, undefA, undefA, undefA, undefA, undefA, undefA, undefA, undefA, undefA, undefA, undefA, undefA, undefA, undefA, undefA, undefA, undefA, undefA, undefA, undefA, undefA, undefA, undefA, undefA, undefA, undefA, undefA]
abbrev s_regencyref01_num_1 (v0 v4 : AV) : List AV := [v0, undefA, .any, undefA, v4, .any, .any, undefA, undefA, undefA, undefA, undefA, undefA, undefA, undefA, undefA, undefA, undefA, undefA, undefA, undefA, undefA, undefA, undefA, undefA, undefA, undefA, undefA, undefA, undefA, .any, .any, .any, .any, .any, .any, .any, .any, .any, .any, .any, .any, undefA, undefA, undefA, undefA, undefA, undefA]
abbrev x_regencyref01_num_0 (v0 v3 : AV) : List AV := [v0, undefA, .any, v3, undefA, .any, .any, .any, .any, .any, .any, .any, .any, .any, .any, .any, .any, .any, .any, .any, .any, undefA, undefA, undefA, undefA, undefA, undefA, undefA, undefA, undefA, undefA, undefA, undefA, undefA, undefA, undefA, undefA, undefA, undefA, undefA, undefA, undefA, undefA, undefA, undefA, undefA, undefA, undefA]
abbrev x_regencyref01_num_2 (v0 v4 : AV) : List AV := [v0, undefA, .any, undefA, v4, .any, .any, undefA, undefA, undefA, undefA, undefA, undefA, undefA, undefA, undefA, undefA, undefA, undefA, undefA, undefA, undefA, undefA, undefA, undefA, undefA, undefA, undefA, undefA, undefA, .any, .any, .any, .any, .any, .any, .any, .any, .any, .any, .any, .any, undefA, undefA, undefA, undefA, undefA, undefA]
abbrev l_regencyref01_num_1 : CC := .kill [2, 5, 6, 30, 31, 32, 33, 34, 35, 36, 37, 38, 39, 40, 41] (.seq (.seq (.region [⟨some 30, .mov (.tmp 0), none⟩,
    ⟨some 31, .bin .geq (.tmp 30) (.con (.int .i64 10)), none⟩])
  (.cond (.tmp 31) (.skip) (.kill [30, 31] (.exit 2))))
  (.block 3 (.seq (.region [⟨some 32, .mov (.tmp 0), none⟩,
    ⟨some 33, .bin .rem (.tmp 32) (.con (.int .i64 10)), none⟩,
    ⟨some 34, .mov (.tmp 0), none⟩,
    ⟨some 35, .bin .rem (.tmp 34) (.con (.int .i64 10)), none⟩,
    ⟨some 36, .bin .add (.tmp 35) (.con (.int .i64 1)), none⟩,
    ⟨some 37, .slice none (.con (.str ⟨#[48, 49, 50, 51, 52, 53, 54, 55, 56, 57]⟩)) (some (.tmp 33)) (some (.tmp 36)) none, none⟩,
    ⟨some 38, .mov (.tmp 4), none⟩,
    ⟨some 39, .bin .add (.tmp 37) (.tmp 38), none⟩,
    ⟨some 4, .mov (.tmp 39), none⟩])
  (.region [⟨some 40, .mov (.tmp 0), none⟩,
    ⟨some 41, .bin .quo (.tmp 40) (.con (.int .i64 10)), none⟩,
    ⟨some 0, .mov (.tmp 41), none⟩]))))
abbrev l_regencyref01_num_0 : CC := .kill [2, 5, 6, 7, 8, 9, 10, 11, 12, 13, 14, 15, 16, 17, 18, 19, 20] (.seq (.seq (.region [⟨some 7, .mov (.tmp 0), none⟩,
    ⟨some 8, .bin .leq (.tmp 7) (.con (.int .i64 (-10))), none⟩])
  (.cond (.tmp 8) (.skip) (.kill [7, 8] (.exit 0))))
  (.block 1 (.seq (.region [⟨some 9, .mov (.tmp 0), none⟩,
    ⟨some 10, .bin .rem (.tmp 9) (.con (.int .i64 10)), none⟩,
    ⟨some 11, .un .neg (.tmp 10), none⟩,
    ⟨some 12, .mov (.tmp 0), none⟩,
    ⟨some 13, .bin .rem (.tmp 12) (.con (.int .i64 10)), none⟩,
    ⟨some 14, .un .neg (.tmp 13), none⟩,
    ⟨some 15, .bin .add (.tmp 14) (.con (.int .i64 1)), none⟩,
    ⟨some 16, .slice none (.con (.str ⟨#[48, 49, 50, 51, 52, 53, 54, 55, 56, 57]⟩)) (some (.tmp 11)) (some (.tmp 15)) none, none⟩,
    ⟨some 17, .mov (.tmp 3), none⟩,
    ⟨some 18, .bin .add (.tmp 16) (.tmp 17), none⟩,
    ⟨some 3, .mov (.tmp 18), none⟩])
  (.region [⟨some 19, .mov (.tmp 0), none⟩,
    ⟨some 20, .bin .quo (.tmp 19) (.con (.int .i64 10)), none⟩,
    ⟨some 0, .mov (.tmp 20), none⟩]))))
/-- regency/regencyref01.num -/
def c_regencyref01_num : CFn := ⟨48, .seq (.region [⟨some 2, .mov (.con (.str ⟨#[]⟩)), none⟩])
  (.seq (.seq (.region [⟨some 5, .mov (.tmp 0), none⟩,
    ⟨some 6, .bin .lss (.tmp 5) (.con (.int .i64 0)), none⟩])
  (.cond (.tmp 6) (.seq (.region [⟨some 3, .mov (.con (.str ⟨#[]⟩)), none⟩])
  (.seq (.block 0 (.kill [2, 5, 6, 7, 8, 9, 10, 11, 12, 13, 14, 15, 16, 17, 18, 19, 20] (.loop l_regencyref01_num_0)))
  (.seq (.region [⟨some 21, .mov (.tmp 0), none⟩,
    ⟨some 22, .un .neg (.tmp 21), none⟩,
    ⟨some 23, .mov (.tmp 0), none⟩,
    ⟨some 24, .un .neg (.tmp 23), none⟩,
    ⟨some 25, .bin .add (.tmp 24) (.con (.int .i64 1)), none⟩,
    ⟨some 26, .slice none (.con (.str ⟨#[48, 49, 50, 51, 52, 53, 54, 55, 56, 57]⟩)) (some (.tmp 22)) (some (.tmp 25)) none, none⟩,
    ⟨some 27, .bin .add (.con (.str ⟨#[45]⟩)) (.tmp 26), none⟩,
    ⟨some 28, .mov (.tmp 3), none⟩,
    ⟨some 29, .bin .add (.tmp 27) (.tmp 28), none⟩,
    ⟨some 2, .mov (.tmp 29), none⟩])
  (.ret)))) (.skip)))
  (.seq (.region [⟨some 4, .mov (.con (.str ⟨#[]⟩)), none⟩])
  (.seq (.block 2 (.kill [2, 5, 6, 30, 31, 32, 33, 34, 35, 36, 37, 38, 39, 40, 41] (.loop l_regencyref01_num_1)))
  (.seq (.region [⟨some 42, .mov (.tmp 0), none⟩,
    ⟨some 43, .mov (.tmp 0), none⟩,
    ⟨some 44, .bin .add (.tmp 43) (.con (.int .i64 1)), none⟩,
    ⟨some 45, .slice none (.con (.str ⟨#[48, 49, 50, 51, 52, 53, 54, 55, 56, 57]⟩)) (some (.tmp 42)) (some (.tmp 44)) none, none⟩,
    ⟨some 46, .mov (.tmp 4), none⟩,
    ⟨some 47, .bin .add (.tmp 45) (.tmp 46), none⟩,
    ⟨some 2, .mov (.tmp 47), none⟩])
  (.ret))))),
  [.tmp 2]⟩
theorem is_regencyref01_num : IsFn Tryz.prog 87 c_regencyref01_num := isFn_of [([], []), ([], []), ([], []), ([2, 5, 6, 7, 8, 9, 10, 11, 12, 13, 14, 15, 16, 17, 18, 19, 20], []), ([], []), ([7, 8], []), ([], []), ([], []), ([], []), ([], []), ([], []), ([2, 5, 6, 30, 31, 32, 33, 34, 35, 36, 37, 38, 39, 40, 41], []), ([], []), ([30, 31], []), ([], []), ([], []), ([], []), ([], [])] (by kernel_rfl)

abbrev s_slices_Equal_api_Label_api_Entry_0 (v0 v1 v12 v13 : AV) : List AV := [v0, v1, undefA, undefA, .any, .any, .any, .any, .any, .any, .any, .any, v12, v13, .any, .any, .any, .any, .any, .any, .any, .any, .any, .any, .any, .any]
abbrev x_slices_Equal_api_Label_api_Entry_0  : List AV := [.any, .any, undefA, undefA, .any, .any, .any, .any, .any, .any, .any, .any, .any, .any, .any, .any, .any, .any, .any, .any, .any, .any, .any, .any, .any, .any]
abbrev l_slices_Equal_api_Label_api_Entry_0 : CC := .kill [4, 5, 6, 7, 8, 9, 10, 11, 14, 15, 16, 17, 18, 19, 20, 21, 22, 23, 24, 25] (.seq (.region [⟨some 14, .bin .lss (.tmp 13) (.tmp 12), none⟩])
  (.seq (.cond (.tmp 14) (.skip) (.kill [0, 1, 12, 13, 14] (.exit 0)))
  (.seq (.block 1 (.seq (.region [⟨some 15, .mov (.tmp 13), none⟩,
    ⟨some 5, .mov (.tmp 15), none⟩])
  (.seq (.region [⟨some 16, .mov (.tmp 0), none⟩,
    ⟨some 17, .mov (.tmp 5), none⟩,
    ⟨some 18, .iaddr 2 none (.tmp 16) (.tmp 17), none⟩,
    ⟨some 19, .load (some 2) (.tmp 18), none⟩,
    ⟨some 20, .mov (.tmp 1), none⟩,
    ⟨some 21, .mov (.tmp 5), none⟩,
    ⟨some 22, .iaddr 2 none (.tmp 20) (.tmp 21), none⟩,
    ⟨some 23, .load (some 2) (.tmp 22), none⟩,
    ⟨some 24, .eqs true [(0, .string), (1, (.int .i64))] (.tmp 19) (.tmp 23), none⟩])
  (.cond (.tmp 24) (.seq (.region [⟨some 4, .mov (.con (.bool false)), none⟩])
  (.ret)) (.skip)))))
  (.region [⟨some 25, .bin .add (.tmp 13) (.con (.int .i64 1)), none⟩,
    ⟨some 13, .mov (.tmp 25), none⟩]))))
/-- slices.Equal[regency/api.Label,regency/api.Entry] -/
def c_slices_Equal_api_Label_api_Entry : CFn := ⟨26, .seq (.region [⟨some 4, .mov (.con (.bool false)), none⟩])
  (.seq (.seq (.region [⟨some 6, .mov (.tmp 0), none⟩,
    ⟨some 7, .lenl (.tmp 6), none⟩,
    ⟨some 8, .mov (.tmp 1), none⟩,
    ⟨some 9, .lenl (.tmp 8), none⟩,
    ⟨some 10, .bin .neq (.tmp 7) (.tmp 9), none⟩])
  (.cond (.tmp 10) (.seq (.region [⟨some 4, .mov (.con (.bool false)), none⟩])
  (.ret)) (.skip)))
  (.seq (.seq (.region [⟨some 11, .mov (.tmp 0), none⟩,
    ⟨some 12, .lenl (.tmp 11), none⟩,
    ⟨some 13, .mov (.con (.int .i64 0)), none⟩])
  (.block 0 (.kill [4, 5, 6, 7, 8, 9, 10, 11, 14, 15, 16, 17, 18, 19, 20, 21, 22, 23, 24, 25] (.loop l_slices_Equal_api_Label_api_Entry_0))))
  (.seq (.region [⟨some 4, .mov (.con (.bool true)), none⟩])
  (.ret)))),
  [.tmp 4]⟩
theorem is_slices_Equal_api_Label_api_Entry : IsFn Tryz.prog 88 c_slices_Equal_api_Label_api_Entry := isFn_of [([], []), ([], []), ([], []), ([], []), ([], []), ([4, 5, 6, 7, 8, 9, 10, 11, 14, 15, 16, 17, 18, 19, 20, 21, 22, 23, 24, 25], []), ([], []), ([0, 1, 12, 13, 14], []), ([], []), ([], []), ([], []), ([], []), ([], []), ([], []), ([], [])] (by kernel_rfl)

abbrev s_regencyref05_Ahead_0 (v2 v3 v5 : AV) : List AV := [.any, .any, v2, v3, .any, v5, .any, .any, .any, .any, .any, .any, .any, .any, .any, .any, .any, .any, .any, .any, .any, .any, .any, .any, .any, .any, .any, .any, .any, .any, .any, .any, .any, .any, .any, .any, .any, .any, .any, .any, .any, .any, .any, .any, .any, .any, .any, .any, .any, .any, .any, .any, .any, .any, .any, .any, .any, .any, .any]
abbrev l_regencyref05_Ahead_0 : CC := .kill [0, 1, 4, 6, 7, 8, 9, 10, 11, 12, 13, 14, 15, 16, 17, 18, 19, 20, 21, 22, 23, 24, 25, 26, 27, 28, 29, 30, 31, 32, 33, 34, 35, 36, 37, 38, 39, 40, 41, 42, 43, 44, 45, 46, 47, 48, 49, 50, 51, 52, 53, 54, 55, 56, 57, 58] (.seq (.block 1 (.seq (.seq (.region [⟨some 8, .mov (.tmp 5), none⟩,
    ⟨some 9, .faddr 0 (.tmp 2), none⟩,
    ⟨some 10, .load none (.tmp 9), none⟩,
    ⟨some 11, .lenl (.tmp 10), none⟩,
    ⟨some 12, .bin .eql (.tmp 8) (.tmp 11), none⟩,
    ⟨some 13, .mov (.tmp 12), none⟩,
    ⟨some 14, .mov (.tmp 5), (some (13, false))⟩,
    ⟨some 15, .faddr 0 (.tmp 3), (some (13, false))⟩,
    ⟨some 16, .load none (.tmp 15), (some (13, false))⟩,
    ⟨some 17, .lenl (.tmp 16), (some (13, false))⟩,
    ⟨some 18, .bin .eql (.tmp 14) (.tmp 17), (some (13, false))⟩,
    ⟨some 19, .pick (.tmp 13) (.con (.bool true)) (.tmp 18), none⟩])
  (.cond (.tmp 19) (.seq (.seq (.region [⟨some 20, .faddr 0 (.tmp 2), none⟩,
    ⟨some 21, .load none (.tmp 20), none⟩,
    ⟨some 22, .lenl (.tmp 21), none⟩,
    ⟨some 23, .faddr 0 (.tmp 3), none⟩,
    ⟨some 24, .load none (.tmp 23), none⟩,
    ⟨some 25, .lenl (.tmp 24), none⟩,
    ⟨some 26, .bin .neq (.tmp 22) (.tmp 25), none⟩])
  (.cond (.tmp 26) (.seq (.region [⟨some 27, .mov (.tmp 5), none⟩,
    ⟨some 28, .faddr 0 (.tmp 2), none⟩,
    ⟨some 29, .load none (.tmp 28), none⟩,
    ⟨some 30, .lenl (.tmp 29), none⟩,
    ⟨some 31, .bin .eql (.tmp 27) (.tmp 30), none⟩,
    ⟨some 4, .mov (.tmp 31), none⟩])
  (.ret)) (.skip)))
  (.seq (.region [⟨some 32, .faddr 1 (.tmp 2), none⟩,
    ⟨some 33, .load none (.tmp 32), none⟩,
    ⟨some 34, .faddr 1 (.tmp 3), none⟩,
    ⟨some 35, .load none (.tmp 34), none⟩,
    ⟨some 36, .bin .lss (.tmp 33) (.tmp 35), none⟩,
    ⟨some 4, .mov (.tmp 36), none⟩])
  (.ret))) (.skip)))
  (.seq (.region [⟨some 37, .faddr 0 (.tmp 2), none⟩,
    ⟨some 38, .load none (.tmp 37), none⟩,
    ⟨some 39, .mov (.tmp 5), none⟩,
    ⟨some 40, .iaddr 1 none (.tmp 38) (.tmp 39), none⟩,
    ⟨some 41, .load none (.tmp 40), none⟩,
    ⟨some 42, .faddr 0 (.tmp 3), none⟩,
    ⟨some 43, .load none (.tmp 42), none⟩,
    ⟨some 44, .mov (.tmp 5), none⟩,
    ⟨some 45, .iaddr 1 none (.tmp 43) (.tmp 44), none⟩,
    ⟨some 46, .load none (.tmp 45), none⟩,
    ⟨some 47, .bin .neq (.tmp 41) (.tmp 46), none⟩])
  (.cond (.tmp 47) (.seq (.region [⟨some 48, .faddr 0 (.tmp 2), none⟩,
    ⟨some 49, .load none (.tmp 48), none⟩,
    ⟨some 50, .mov (.tmp 5), none⟩,
    ⟨some 51, .iaddr 1 none (.tmp 49) (.tmp 50), none⟩,
    ⟨some 52, .load none (.tmp 51), none⟩,
    ⟨some 53, .faddr 0 (.tmp 3), none⟩,
    ⟨some 54, .load none (.tmp 53), none⟩,
    ⟨some 55, .mov (.tmp 5), none⟩,
    ⟨some 56, .iaddr 1 none (.tmp 54) (.tmp 55), none⟩,
    ⟨some 57, .load none (.tmp 56), none⟩,
    ⟨some 58, .bin .lss (.tmp 52) (.tmp 57), none⟩,
    ⟨some 4, .mov (.tmp 58), none⟩])
  (.ret)) (.skip)))))
  (.region [⟨some 6, .mov (.tmp 5), none⟩,
    ⟨some 7, .bin .add (.tmp 6) (.con (.int .i64 1)), none⟩,
    ⟨some 5, .mov (.tmp 7), none⟩]))
/-- regency/regencyref05.Ahead -/
def c_regencyref05_Ahead : CFn := ⟨59, .seq (.region [⟨some 2, .box (.tmp 0), none⟩,
    ⟨some 3, .box (.tmp 1), none⟩,
    ⟨some 4, .mov (.con (.bool false)), none⟩])
  (.seq (.region [⟨some 5, .mov (.con (.int .i64 0)), none⟩])
  (.block 0 (.kill [0, 1, 4, 6, 7, 8, 9, 10, 11, 12, 13, 14, 15, 16, 17, 18, 19, 20, 21, 22, 23, 24, 25, 26, 27, 28, 29, 30, 31, 32, 33, 34, 35, 36, 37, 38, 39, 40, 41, 42, 43, 44, 45, 46, 47, 48, 49, 50, 51, 52, 53, 54, 55, 56, 57, 58] (.loop l_regencyref05_Ahead_0)))),
  [.tmp 4]⟩
theorem is_regencyref05_Ahead : IsFn Tryz.prog 95 c_regencyref05_Ahead := isFn_of [([], []), ([], []), ([0, 1, 4, 6, 7, 8, 9, 10, 11, 12, 13, 14, 15, 16, 17, 18, 19, 20, 21, 22, 23, 24, 25, 26, 27, 28, 29, 30, 31, 32, 33, 34, 35, 36, 37, 38, 39, 40, 41, 42, 43, 44, 45, 46, 47, 48, 49, 50, 51, 52, 53, 54, 55, 56, 57, 58], []), ([], []), ([], []), ([], []), ([], []), ([], []), ([], []), ([], []), ([], []), ([], []), ([], [])] (by kernel_rfl)

/-- strings.Cut -/
def c_strings_Cut : CFn := ⟨13, .seq (.region [⟨some 4, .mov (.con (.str ⟨#[]⟩)), none⟩,
    ⟨some 5, .mov (.con (.str ⟨#[]⟩)), none⟩,
    ⟨some 6, .mov (.con (.bool false)), none⟩])
  (.seq (.region [⟨some 7, .mov (.tmp 0), none⟩,
    ⟨some 8, .mov (.tmp 1), none⟩,
    ⟨some 9, .pcall 105 [(.tmp 7), (.tmp 8)], none⟩,
    ⟨some 10, .extract 9 0, none⟩,
    ⟨some 11, .extract 9 1, none⟩,
    ⟨some 12, .extract 9 2, none⟩,
    ⟨some 4, .mov (.tmp 10), none⟩,
    ⟨some 5, .mov (.tmp 11), none⟩,
    ⟨some 6, .mov (.tmp 12), none⟩])
  (.ret)),
  [.tmp 4, .tmp 5, .tmp 6]⟩
theorem is_strings_Cut : IsFn Tryz.prog 96 c_strings_Cut := isFn_of [([], []), ([], [2]), ([], [])] (by kernel_rfl)

/-- regency/cats.number -/
def c_cats_number : CFn := ⟨31, .seq (.region [⟨some 4, .mov (.con (.int .i64 0)), none⟩,
    ⟨some 5, .mov (.con (.bool false)), none⟩])
  (.seq (.region [⟨some 9, .mov (.tmp 0), none⟩,
    ⟨some 10, .call 106 [(.tmp 9)], none⟩,
    ⟨some 8, .mov (.tmp 10), none⟩,
    ⟨some 11, .extract 8 0, none⟩,
    ⟨some 12, .extract 8 1, none⟩,
    ⟨some 6, .mov (.tmp 11), none⟩,
    ⟨some 7, .mov (.tmp 12), none⟩])
  (.seq (.region [⟨some 13, .mov (.tmp 6), none⟩,
    ⟨some 14, .mov (.tmp 7), none⟩,
    ⟨some 15, .isnil .ifc false (.tmp 14), none⟩,
    ⟨some 16, .mov (.tmp 15), none⟩,
    ⟨some 17, .mov (.tmp 6), (some (16, true))⟩,
    ⟨some 18, .bin .geq (.tmp 17) (.con (.int .i64 0)), (some (16, true))⟩,
    ⟨some 19, .pick (.tmp 16) (.tmp 18) (.con (.bool false)), none⟩,
    ⟨some 20, .mov (.tmp 19), none⟩,
    ⟨some 21, .mov (.tmp 6), (some (20, true))⟩,
    ⟨some 22, .mov (.tmp 1), (some (20, true))⟩,
    ⟨some 23, .bin .leq (.tmp 21) (.tmp 22), (some (20, true))⟩,
    ⟨some 24, .pick (.tmp 20) (.tmp 23) (.con (.bool false)), none⟩,
    ⟨some 25, .mov (.tmp 24), none⟩,
    ⟨some 26, .mov (.tmp 6), (some (25, true))⟩,
    ⟨some 27, .pcall 58 [(.tmp 26)], (some (25, true))⟩,
    ⟨some 28, .mov (.tmp 0), (some (25, true))⟩,
    ⟨some 29, .bin .eql (.tmp 27) (.tmp 28), (some (25, true))⟩,
    ⟨some 30, .pick (.tmp 25) (.tmp 29) (.con (.bool false)), none⟩,
    ⟨some 4, .mov (.tmp 13), none⟩,
    ⟨some 5, .mov (.tmp 30), none⟩])
  (.ret))),
  [.tmp 4, .tmp 5]⟩
theorem is_cats_number : IsFn Tryz.prog 97 c_cats_number := isFn_of [([], []), ([], []), ([], [14]), ([], [])] (by kernel_rfl)

/-- strings.SplitSeq -/
def c_strings_SplitSeq : CFn := ⟨8, .seq (.region [⟨some 4, .mov (.con (.nilf)), none⟩])
  (.seq (.region [⟨some 5, .mov (.tmp 0), none⟩,
    ⟨some 6, .mov (.tmp 1), none⟩,
    ⟨some 7, .call 107 [(.tmp 5), (.tmp 6), (.con (.int .i64 0))], none⟩,
    ⟨some 4, .mov (.tmp 7), none⟩])
  (.ret)),
  [.tmp 4]⟩
theorem is_strings_SplitSeq : IsFn Tryz.prog 98 c_strings_SplitSeq := isFn_of [([], []), ([], []), ([], [])] (by kernel_rfl)

/-- regency/cats.Compare -/
def c_cats_Compare : CFn := ⟨47, .seq (.region [⟨some 4, .mov (.con (.int .i64 0)), none⟩])
  (.seq (.region [⟨some 12, .mov (.tmp 0), none⟩,
    ⟨some 13, .pcall 81 [(.tmp 12)], none⟩,
    ⟨some 11, .take (.tmp 13), none⟩,
    ⟨some 14, .extract 11 0, none⟩,
    ⟨some 15, .extract 11 1, none⟩,
    ⟨some 16, .extract 11 2, none⟩,
    ⟨some 5, .take (.tmp 14), none⟩,
    ⟨some 6, .mov (.tmp 15), none⟩,
    ⟨some 7, .mov (.tmp 16), none⟩])
  (.seq (.region [⟨some 18, .mov (.tmp 1), none⟩,
    ⟨some 19, .pcall 81 [(.tmp 18)], none⟩,
    ⟨some 17, .take (.tmp 19), none⟩,
    ⟨some 20, .extract 17 0, none⟩,
    ⟨some 21, .extract 17 1, none⟩,
    ⟨some 22, .extract 17 2, none⟩,
    ⟨some 8, .take (.tmp 20), none⟩,
    ⟨some 9, .mov (.tmp 21), none⟩,
    ⟨some 10, .mov (.tmp 22), none⟩])
  (.seq (.block 0 (.seq (.region [⟨some 24, .mov (.tmp 7), none⟩,
    ⟨some 25, .un .not (.tmp 24), none⟩,
    ⟨some 26, .mov (.tmp 25), none⟩,
    ⟨some 27, .mov (.tmp 10), (some (26, true))⟩,
    ⟨some 28, .un .not (.tmp 27), (some (26, true))⟩,
    ⟨some 29, .pick (.tmp 26) (.tmp 28) (.con (.bool false)), none⟩,
    ⟨some 23, .mov (.tmp 29), none⟩])
  (.cond (.tmp 23) (.seq (.region [⟨some 30, .mov (.tmp 0), none⟩,
    ⟨some 31, .mov (.tmp 1), none⟩,
    ⟨some 32, .pcall 108 [(.tmp 30), (.tmp 31)], none⟩,
    ⟨some 4, .mov (.tmp 32), none⟩])
  (.ret)) (.seq (.region [⟨some 34, .mov (.tmp 7), none⟩,
    ⟨some 35, .un .not (.tmp 34), none⟩,
    ⟨some 33, .mov (.tmp 35), none⟩])
  (.cond (.tmp 33) (.seq (.region [⟨some 4, .mov (.con (.int .i64 1)), none⟩])
  (.ret)) (.seq (.region [⟨some 37, .mov (.tmp 10), none⟩,
    ⟨some 38, .un .not (.tmp 37), none⟩,
    ⟨some 36, .mov (.tmp 38), none⟩])
  (.cond (.tmp 36) (.seq (.region [⟨some 4, .mov (.con (.int .i64 (-1))), none⟩])
  (.ret)) (.skip))))))))
  (.seq (.region [⟨some 39, .take (.tmp 5), none⟩,
    ⟨some 40, .take (.tmp 8), none⟩,
    ⟨some 41, .pcall 110 [(.tmp 39), (.tmp 40)], none⟩,
    ⟨some 42, .mov (.tmp 6), none⟩,
    ⟨some 43, .mov (.tmp 9), none⟩,
    ⟨some 44, .pcall 111 [(.tmp 42), (.tmp 43)], none⟩,
    ⟨some 45, .bslice 1 false [(.tmp 41), (.tmp 44)], none⟩,
    ⟨some 46, .pcall 109 [(.tmp 45)], none⟩,
    ⟨some 4, .mov (.tmp 46), none⟩])
  (.ret))))),
  [.tmp 4]⟩
theorem is_cats_Compare : IsFn Tryz.prog 99 c_cats_Compare := isFn_of [([], []), ([], [1, 2, 6]), ([], [1, 2, 6]), ([], []), ([], [2]), ([], []), ([], []), ([], []), ([], []), ([], []), ([], []), ([], []), ([], [0, 1, 2, 5, 7]), ([], [])] (by kernel_rfl)

/-- internal/stringslite.Cut -/
def c_internal_stringslite_Cut : CFn := ⟨23, .seq (.region [⟨some 4, .mov (.con (.str ⟨#[]⟩)), none⟩,
    ⟨some 5, .mov (.con (.str ⟨#[]⟩)), none⟩,
    ⟨some 6, .mov (.con (.bool false)), none⟩])
  (.seq (.seq (.region [⟨some 8, .mov (.tmp 0), none⟩,
    ⟨some 9, .mov (.tmp 1), none⟩,
    ⟨some 10, .pcall 118 [(.tmp 8), (.tmp 9)], none⟩,
    ⟨some 7, .mov (.tmp 10), none⟩])
  (.seq (.region [⟨some 11, .mov (.tmp 7), none⟩,
    ⟨some 12, .bin .geq (.tmp 11) (.con (.int .i64 0)), none⟩])
  (.cond (.tmp 12) (.seq (.region [⟨some 13, .mov (.tmp 0), none⟩,
    ⟨some 14, .mov (.tmp 7), none⟩,
    ⟨some 15, .slice none (.tmp 13) none (some (.tmp 14)) none, none⟩,
    ⟨some 16, .mov (.tmp 0), none⟩,
    ⟨some 17, .mov (.tmp 7), none⟩,
    ⟨some 18, .mov (.tmp 1), none⟩,
    ⟨some 19, .lens (.tmp 18), none⟩,
    ⟨some 20, .bin .add (.tmp 17) (.tmp 19), none⟩,
    ⟨some 21, .slice none (.tmp 16) (some (.tmp 20)) none none, none⟩,
    ⟨some 4, .mov (.tmp 15), none⟩,
    ⟨some 5, .mov (.tmp 21), none⟩,
    ⟨some 6, .mov (.con (.bool true)), none⟩])
  (.ret)) (.skip))))
  (.seq (.region [⟨some 22, .mov (.tmp 0), none⟩,
    ⟨some 4, .mov (.tmp 22), none⟩,
    ⟨some 5, .mov (.con (.str ⟨#[]⟩)), none⟩,
    ⟨some 6, .mov (.con (.bool false)), none⟩])
  (.ret))),
  [.tmp 4, .tmp 5, .tmp 6]⟩
theorem is_internal_stringslite_Cut : IsFn Tryz.prog 105 c_internal_stringslite_Cut := isFn_of [([], []), ([], [2]), ([], []), ([], []), ([], []), ([], []), ([], [])] (by kernel_rfl)

/-- strconv.Atoi -/
theorem ok_strconv_Atoi : OkDef Tryz.prog 106 (.prim (atoiP 204)) := atoi_ok (eb := 5) (⟨Tryz.f106, Tryz.func106, by kernel_rfl, by kernel_rfl⟩ : Callable Tryz.prog 106) (fun s hs v h w => Tryz.strconv_Atoi_ok s hs v h w) (fun s hs h w0 w hw hb => by obtain ⟨tp, q, hv⟩ := errvar_ok (P := Tryz.prog) (hw.2 3 (by decide)) hb (n := "strconv.ErrSyntax") (by kernel_rfl); refine (Tryz.strconv_Atoi_syntax_var s hs h tp q w hv).mono ?_; rintro e w' ⟨N, rfl, _, _, hb'⟩; exact ⟨N, rfl, hb'⟩) (fun s hs h w0 w hw hb => by obtain ⟨tp, q, hv⟩ := errvar_ok (P := Tryz.prog) (hw.2 4 (by decide)) hb (n := "strconv.ErrRange") (by kernel_rfl); refine (Tryz.strconv_Atoi_range_var s hs h tp q w hv).mono ?_; rintro e w' ⟨N, rfl, _, _, hb'⟩; exact ⟨N, rfl, hb'⟩)

/-- strings.splitSeq -/
def c_strings_splitSeq : CFn := ⟨8, .seq (.region [⟨some 3, .box (.tmp 0), none⟩,
    ⟨some 4, .box (.tmp 1), none⟩,
    ⟨some 5, .box (.tmp 2), none⟩,
    ⟨some 6, .mov (.con (.nilf)), none⟩])
  (.seq (.region [⟨some 7, .mkfn (.func 121) [] [(.tmp 4), (.tmp 3), (.tmp 5)], none⟩,
    ⟨some 6, .mov (.tmp 7), none⟩])
  (.ret)),
  [.tmp 6]⟩
theorem is_strings_splitSeq : IsFn Tryz.prog 107 c_strings_splitSeq := isFn_of [([], []), ([], []), ([], [])] (by kernel_rfl)

/-- cmp.Compare[string] -/
def c_cmp_Compare_string : CFn := ⟨20, .seq (.region [⟨some 4, .mov (.con (.int .i64 0)), none⟩])
  (.seq (.region [⟨some 7, .mov (.tmp 0), none⟩,
    ⟨some 8, .pcall 124 [(.tmp 7)], none⟩,
    ⟨some 5, .mov (.tmp 8), none⟩])
  (.seq (.region [⟨some 9, .mov (.tmp 1), none⟩,
    ⟨some 10, .pcall 124 [(.tmp 9)], none⟩,
    ⟨some 6, .mov (.tmp 10), none⟩])
  (.seq (.seq (.region [⟨some 11, .mov (.tmp 5), none⟩])
  (.cond (.tmp 11) (.seq (.seq (.region [⟨some 12, .mov (.tmp 6), none⟩])
  (.cond (.tmp 12) (.seq (.region [⟨some 4, .mov (.con (.int .i64 0)), none⟩])
  (.ret)) (.skip)))
  (.seq (.region [⟨some 4, .mov (.con (.int .i64 (-1))), none⟩])
  (.ret))) (.skip)))
  (.seq (.seq (.region [⟨some 13, .mov (.tmp 6), none⟩])
  (.cond (.tmp 13) (.seq (.region [⟨some 4, .mov (.con (.int .i64 1)), none⟩])
  (.ret)) (.skip)))
  (.seq (.seq (.region [⟨some 14, .mov (.tmp 0), none⟩,
    ⟨some 15, .mov (.tmp 1), none⟩,
    ⟨some 16, .bin .lss (.tmp 14) (.tmp 15), none⟩])
  (.cond (.tmp 16) (.seq (.region [⟨some 4, .mov (.con (.int .i64 (-1))), none⟩])
  (.ret)) (.skip)))
  (.seq (.seq (.region [⟨some 17, .mov (.tmp 0), none⟩,
    ⟨some 18, .mov (.tmp 1), none⟩,
    ⟨some 19, .bin .gtr (.tmp 17) (.tmp 18), none⟩])
  (.cond (.tmp 19) (.seq (.region [⟨some 4, .mov (.con (.int .i64 1)), none⟩])
  (.ret)) (.skip)))
  (.seq (.region [⟨some 4, .mov (.con (.int .i64 0)), none⟩])
  (.ret)))))))),
  [.tmp 4]⟩
theorem is_cmp_Compare_string : IsFn Tryz.prog 108 c_cmp_Compare_string := isFn_of [([], []), ([], [1]), ([], [1]), ([], []), ([], []), ([], []), ([], []), ([], []), ([], []), ([], []), ([], []), ([], []), ([], []), ([], []), ([], []), ([], []), ([], []), ([], []), ([], []), ([], [])] (by kernel_rfl)

abbrev s_cmp_Or_int_0 (v3 v6 v7 v8 : AV) : List AV := [.any, undefA, .any, v3, undefA, .any, v6, v7, v8, .any, .any, .any, .any, .any, .any, .any, .any, undefA]
abbrev x_cmp_Or_int_0 (v3 : AV) : List AV := [.any, undefA, .any, v3, undefA, .any, .any, .any, .any, .any, .any, .any, .any, .any, .any, .any, .any, undefA]
abbrev l_cmp_Or_int_0 : CC := .kill [0, 2, 5, 9, 10, 11, 12, 13, 14, 15, 16] (.seq (.region [⟨some 9, .bin .lss (.tmp 8) (.tmp 7), none⟩])
  (.seq (.cond (.tmp 9) (.skip) (.kill [6, 7, 8, 9] (.exit 0)))
  (.seq (.block 1 (.seq (.region [⟨some 10, .iaddr 1 none (.tmp 6) (.tmp 8), none⟩,
    ⟨some 11, .load none (.tmp 10), none⟩,
    ⟨some 5, .mov (.tmp 11), none⟩])
  (.seq (.region [⟨some 12, .mov (.tmp 5), none⟩,
    ⟨some 13, .mov (.tmp 3), none⟩,
    ⟨some 14, .bin .neq (.tmp 12) (.tmp 13), none⟩])
  (.cond (.tmp 14) (.seq (.region [⟨some 15, .mov (.tmp 5), none⟩,
    ⟨some 2, .mov (.tmp 15), none⟩])
  (.ret)) (.skip)))))
  (.region [⟨some 16, .bin .add (.tmp 8) (.con (.int .i64 1)), none⟩,
    ⟨some 8, .mov (.tmp 16), none⟩]))))
/-- cmp.Or[int] -/
def c_cmp_Or_int : CFn := ⟨18, .seq (.region [⟨some 2, .mov (.con (.int .i64 0)), none⟩])
  (.seq (.region [⟨some 3, .mov (.con (.int .i64 0)), none⟩])
  (.seq (.seq (.region [⟨some 6, .take (.tmp 0), none⟩,
    ⟨some 7, .lenl (.tmp 6), none⟩,
    ⟨some 8, .mov (.con (.int .i64 0)), none⟩])
  (.block 0 (.kill [0, 2, 5, 9, 10, 11, 12, 13, 14, 15, 16] (.loop l_cmp_Or_int_0))))
  (.seq (.region [⟨some 17, .mov (.tmp 3), none⟩,
    ⟨some 2, .mov (.tmp 17), none⟩])
  (.ret)))),
  [.tmp 2]⟩
theorem is_cmp_Or_int : IsFn Tryz.prog 109 c_cmp_Or_int := isFn_of [([], []), ([], []), ([], [0]), ([0, 2, 5, 9, 10, 11, 12, 13, 14, 15, 16], []), ([], []), ([6, 7, 8, 9], []), ([], []), ([], []), ([], []), ([], []), ([], []), ([], []), ([], [])] (by kernel_rfl)

abbrev s_slices_Compare_int_int_0 (v0 v1 v9 v10 v11 : AV) : List AV := [v0, v1, undefA, undefA, .any, .any, .any, .any, .any, v9, v10, v11, .any, .any, .any, .any, .any, .any, .any, .any, .any, .any, .any, .any, .any, .any, .any, .any, .any, .any, .any, undefA, undefA, undefA, undefA, undefA]
abbrev x_slices_Compare_int_int_0 (v0 v1 : AV) : List AV := [v0, v1, undefA, undefA, .any, .any, .any, .any, .any, .any, .any, .any, .any, .any, .any, .any, .any, .any, .any, .any, .any, .any, .any, .any, .any, .any, .any, .any, .any, .any, .any, undefA, undefA, undefA, undefA, undefA]
abbrev l_slices_Compare_int_int_0 : CC := .kill [4, 5, 6, 7, 8, 12, 13, 14, 15, 16, 17, 18, 19, 20, 21, 22, 23, 24, 25, 26, 27, 28, 29, 30] (.seq (.region [⟨some 12, .bin .lss (.tmp 11) (.tmp 10), none⟩])
  (.seq (.cond (.tmp 12) (.skip) (.kill [9, 10, 11, 12] (.exit 0)))
  (.seq (.block 1 (.seq (.region [⟨some 13, .mov (.tmp 11), none⟩,
    ⟨some 14, .iaddr 1 none (.tmp 9) (.tmp 11), none⟩,
    ⟨some 15, .load none (.tmp 14), none⟩,
    ⟨some 5, .mov (.tmp 13), none⟩,
    ⟨some 6, .mov (.tmp 15), none⟩])
  (.seq (.seq (.region [⟨some 16, .mov (.tmp 5), none⟩,
    ⟨some 17, .mov (.tmp 1), none⟩,
    ⟨some 18, .lenl (.tmp 17), none⟩,
    ⟨some 19, .bin .geq (.tmp 16) (.tmp 18), none⟩])
  (.cond (.tmp 19) (.seq (.region [⟨some 4, .mov (.con (.int .i64 1)), none⟩])
  (.ret)) (.skip)))
  (.seq (.region [⟨some 20, .mov (.tmp 1), none⟩,
    ⟨some 21, .mov (.tmp 5), none⟩,
    ⟨some 22, .iaddr 1 none (.tmp 20) (.tmp 21), none⟩,
    ⟨some 23, .load none (.tmp 22), none⟩,
    ⟨some 7, .mov (.tmp 23), none⟩])
  (.seq (.region [⟨some 24, .mov (.tmp 6), none⟩,
    ⟨some 25, .mov (.tmp 7), none⟩,
    ⟨some 26, .pcall 111 [(.tmp 24), (.tmp 25)], none⟩,
    ⟨some 8, .mov (.tmp 26), none⟩])
  (.seq (.region [⟨some 27, .mov (.tmp 8), none⟩,
    ⟨some 28, .bin .neq (.tmp 27) (.con (.int .i64 0)), none⟩])
  (.cond (.tmp 28) (.seq (.region [⟨some 29, .mov (.tmp 8), none⟩,
    ⟨some 4, .mov (.tmp 29), none⟩])
  (.ret)) (.skip))))))))
  (.region [⟨some 30, .bin .add (.tmp 11) (.con (.int .i64 1)), none⟩,
    ⟨some 11, .mov (.tmp 30), none⟩]))))
/-- slices.Compare[[]int,int] -/
def c_slices_Compare_int_int : CFn := ⟨36, .seq (.region [⟨some 4, .mov (.con (.int .i64 0)), none⟩])
  (.seq (.seq (.region [⟨some 9, .mov (.tmp 0), none⟩,
    ⟨some 10, .lenl (.tmp 9), none⟩,
    ⟨some 11, .mov (.con (.int .i64 0)), none⟩])
  (.block 0 (.kill [4, 5, 6, 7, 8, 12, 13, 14, 15, 16, 17, 18, 19, 20, 21, 22, 23, 24, 25, 26, 27, 28, 29, 30] (.loop l_slices_Compare_int_int_0))))
  (.seq (.seq (.region [⟨some 31, .take (.tmp 0), none⟩,
    ⟨some 32, .lenl (.tmp 31), none⟩,
    ⟨some 33, .take (.tmp 1), none⟩,
    ⟨some 34, .lenl (.tmp 33), none⟩,
    ⟨some 35, .bin .lss (.tmp 32) (.tmp 34), none⟩])
  (.cond (.tmp 35) (.seq (.region [⟨some 4, .mov (.con (.int .i64 (-1))), none⟩])
  (.ret)) (.skip)))
  (.seq (.region [⟨some 4, .mov (.con (.int .i64 0)), none⟩])
  (.ret)))),
  [.tmp 4]⟩
theorem is_slices_Compare_int_int : IsFn Tryz.prog 110 c_slices_Compare_int_int := isFn_of [([], []), ([], []), ([4, 5, 6, 7, 8, 12, 13, 14, 15, 16, 17, 18, 19, 20, 21, 22, 23, 24, 25, 26, 27, 28, 29, 30], []), ([], []), ([9, 10, 11, 12], []), ([], []), ([], []), ([], []), ([], []), ([], []), ([], [2]), ([], []), ([], []), ([], []), ([], []), ([], [0, 2]), ([], []), ([], []), ([], []), ([], [])] (by kernel_rfl)

/-- cmp.Compare[int] -/
def c_cmp_Compare_int : CFn := ⟨20, .seq (.region [⟨some 4, .mov (.con (.int .i64 0)), none⟩])
  (.seq (.region [⟨some 7, .mov (.tmp 0), none⟩,
    ⟨some 8, .pcall 125 [(.tmp 7)], none⟩,
    ⟨some 5, .mov (.tmp 8), none⟩])
  (.seq (.region [⟨some 9, .mov (.tmp 1), none⟩,
    ⟨some 10, .pcall 125 [(.tmp 9)], none⟩,
    ⟨some 6, .mov (.tmp 10), none⟩])
  (.seq (.seq (.region [⟨some 11, .mov (.tmp 5), none⟩])
  (.cond (.tmp 11) (.seq (.seq (.region [⟨some 12, .mov (.tmp 6), none⟩])
  (.cond (.tmp 12) (.seq (.region [⟨some 4, .mov (.con (.int .i64 0)), none⟩])
  (.ret)) (.skip)))
  (.seq (.region [⟨some 4, .mov (.con (.int .i64 (-1))), none⟩])
  (.ret))) (.skip)))
  (.seq (.seq (.region [⟨some 13, .mov (.tmp 6), none⟩])
  (.cond (.tmp 13) (.seq (.region [⟨some 4, .mov (.con (.int .i64 1)), none⟩])
  (.ret)) (.skip)))
  (.seq (.seq (.region [⟨some 14, .mov (.tmp 0), none⟩,
    ⟨some 15, .mov (.tmp 1), none⟩,
    ⟨some 16, .bin .lss (.tmp 14) (.tmp 15), none⟩])
  (.cond (.tmp 16) (.seq (.region [⟨some 4, .mov (.con (.int .i64 (-1))), none⟩])
  (.ret)) (.skip)))
  (.seq (.seq (.region [⟨some 17, .mov (.tmp 0), none⟩,
    ⟨some 18, .mov (.tmp 1), none⟩,
    ⟨some 19, .bin .gtr (.tmp 17) (.tmp 18), none⟩])
  (.cond (.tmp 19) (.seq (.region [⟨some 4, .mov (.con (.int .i64 1)), none⟩])
  (.ret)) (.skip)))
  (.seq (.region [⟨some 4, .mov (.con (.int .i64 0)), none⟩])
  (.ret)))))))),
  [.tmp 4]⟩
theorem is_cmp_Compare_int : IsFn Tryz.prog 111 c_cmp_Compare_int := isFn_of [([], []), ([], [1]), ([], [1]), ([], []), ([], []), ([], []), ([], []), ([], []), ([], []), ([], []), ([], []), ([], []), ([], []), ([], []), ([], []), ([], []), ([], []), ([], []), ([], []), ([], [])] (by kernel_rfl)

/-- internal/stringslite.Index -/
theorem ok_internal_stringslite_Index : OkDef Tryz.prog 118 (.prim index1P) := index1_ok (⟨Tryz.f118, Tryz.func118, by kernel_rfl, by kernel_rfl⟩ : Callable Tryz.prog 118) (fun s c w => Tryz.stringslite_Index_one s c w)

/-- strings.splitSeq$1 -/
theorem ok_strings_splitSeq_1 : OkDef Tryz.prog 121 (.split) := split_ok

/-- strings.Index -/
def c_strings_Index : CFn := ⟨8, .seq (.region [⟨some 4, .mov (.con (.int .i64 0)), none⟩])
  (.seq (.region [⟨some 5, .mov (.tmp 0), none⟩,
    ⟨some 6, .mov (.tmp 1), none⟩,
    ⟨some 7, .pcall 118 [(.tmp 5), (.tmp 6)], none⟩,
    ⟨some 4, .mov (.tmp 7), none⟩])
  (.ret)),
  [.tmp 4]⟩
theorem is_strings_Index : IsFn Tryz.prog 123 c_strings_Index := isFn_of [([], []), ([], [2]), ([], [])] (by kernel_rfl)

/-- cmp.isNaN[string] -/
def c_cmp_isNaN_string : CFn := ⟨6, .seq (.region [⟨some 2, .mov (.con (.bool false)), none⟩])
  (.seq (.region [⟨some 3, .mov (.tmp 0), none⟩,
    ⟨some 4, .mov (.tmp 0), none⟩,
    ⟨some 5, .bin .neq (.tmp 3) (.tmp 4), none⟩,
    ⟨some 2, .mov (.tmp 5), none⟩])
  (.ret)),
  [.tmp 2]⟩
theorem is_cmp_isNaN_string : IsFn Tryz.prog 124 c_cmp_isNaN_string := isFn_of [([], []), ([], []), ([], [])] (by kernel_rfl)

/-- cmp.isNaN[int] -/
def c_cmp_isNaN_int : CFn := ⟨6, .seq (.region [⟨some 2, .mov (.con (.bool false)), none⟩])
  (.seq (.region [⟨some 3, .mov (.tmp 0), none⟩,
    ⟨some 4, .mov (.tmp 0), none⟩,
    ⟨some 5, .bin .neq (.tmp 3) (.tmp 4), none⟩,
    ⟨some 2, .mov (.tmp 5), none⟩])
  (.ret)),
  [.tmp 2]⟩
theorem is_cmp_isNaN_int : IsFn Tryz.prog 125 c_cmp_isNaN_int := isFn_of [([], []), ([], []), ([], [])] (by kernel_rfl)

end Go.Proofs.YtjeigcnaalleiaaGreatDoor.F
