/- Functions of the program, compiled, by a program (gen.py). -/
import Derived.Test.YtjeigcnaalleiaaDoorProg
import Derived.KernelRfl
import Derived.Test.YtjeigcnaalleiaaDoorM19
import Derived.Test.YtjeigcnaalleiaaDoorF1
set_option maxRecDepth 100000
namespace Go.Proofs.YtjeigcnaalleiaaDoor.F
open Go.Proofs.YtjeigcnaalleiaaDoor.M Go.Proofs Go.RowKit

/-- cmp.Compare[string] -/
def c_cmp_Compare_string : CFn := ⟨20, .seq (.region [⟨some 4, .mov (.con (.int .i64 0)), none⟩])
  (.seq (.region [⟨some 7, .mov (.tmp 0), none⟩,
    ⟨some 8, .pcall 123 [(.tmp 7)], none⟩,
    ⟨some 5, .mov (.tmp 8), none⟩])
  (.seq (.region [⟨some 9, .mov (.tmp 1), none⟩,
    ⟨some 10, .pcall 123 [(.tmp 9)], none⟩,
    ⟨some 6, .mov (.tmp 10), none⟩])
  (.seq (.seq (.region [⟨some 11, .mov (.tmp 5), none⟩])
  (.cond (.tmp 11) (.seq (.seq (.region [⟨some 12, .mov (.tmp 6), none⟩])
  (.cond (.tmp 12) (.seq (.region [⟨some 4, .mov (.con (.int .i64 0)), none⟩])
  (.ret)) (.skip)))
  (.seq (.region [⟨some 4, .mov (.con (.int .i64 (-1))), none⟩])
  (.ret))) (.skip)))
  (.seq (.seq (.region [⟨some 13, .mov (.tmp 6), none⟩])
  (.cond (.tmp 13) (.seq (.region [⟨some 4, .mov (.con (.int .i64 1)), none⟩])
  (.ret)) (.skip)))
  (.seq (.seq (.region [⟨some 14, .mov (.tmp 0), none⟩,
    ⟨some 15, .mov (.tmp 1), none⟩,
    ⟨some 16, .bin .lss (.tmp 14) (.tmp 15), none⟩])
  (.cond (.tmp 16) (.seq (.region [⟨some 4, .mov (.con (.int .i64 (-1))), none⟩])
  (.ret)) (.skip)))
  (.seq (.seq (.region [⟨some 17, .mov (.tmp 0), none⟩,
    ⟨some 18, .mov (.tmp 1), none⟩,
    ⟨some 19, .bin .gtr (.tmp 17) (.tmp 18), none⟩])
  (.cond (.tmp 19) (.seq (.region [⟨some 4, .mov (.con (.int .i64 1)), none⟩])
  (.ret)) (.skip)))
  (.seq (.region [⟨some 4, .mov (.con (.int .i64 0)), none⟩])
  (.ret)))))))),
  [.tmp 4]⟩
theorem is_cmp_Compare_string : IsFn Tryd.prog 117 c_cmp_Compare_string := isFn_of [([], []), ([], [1]), ([], [1]), ([], []), ([], []), ([], []), ([], []), ([], []), ([], []), ([], []), ([], []), ([], []), ([], []), ([], []), ([], []), ([], []), ([], []), ([], []), ([], []), ([], [])] (by kernel_rfl)

abbrev s_cmp_Or_int_0 (v3 v6 v7 v8 : AV) : List AV := [.any, undefA, .any, v3, undefA, .any, v6, v7, v8, .any, .any, .any, .any, .any, .any, .any, .any, undefA]
abbrev x_cmp_Or_int_0 (v3 : AV) : List AV := [.any, undefA, .any, v3, undefA, .any, .any, .any, .any, .any, .any, .any, .any, .any, .any, .any, .any, undefA]
abbrev l_cmp_Or_int_0 : CC := .kill [0, 2, 5, 9, 10, 11, 12, 13, 14, 15, 16] (.seq (.region [⟨some 9, .bin .lss (.tmp 8) (.tmp 7), none⟩])
  (.seq (.cond (.tmp 9) (.skip) (.kill [6, 7, 8, 9] (.exit 0)))
  (.seq (.block 1 (.seq (.region [⟨some 10, .iaddr 1 none (.tmp 6) (.tmp 8), none⟩,
    ⟨some 11, .load none (.tmp 10), none⟩,
    ⟨some 5, .mov (.tmp 11), none⟩])
  (.seq (.region [⟨some 12, .mov (.tmp 5), none⟩,
    ⟨some 13, .mov (.tmp 3), none⟩,
    ⟨some 14, .bin .neq (.tmp 12) (.tmp 13), none⟩])
  (.cond (.tmp 14) (.seq (.region [⟨some 15, .mov (.tmp 5), none⟩,
    ⟨some 2, .mov (.tmp 15), none⟩])
  (.ret)) (.skip)))))
  (.region [⟨some 16, .bin .add (.tmp 8) (.con (.int .i64 1)), none⟩,
    ⟨some 8, .mov (.tmp 16), none⟩]))))
/-- cmp.Or[int] -/
def c_cmp_Or_int : CFn := ⟨18, .seq (.region [⟨some 2, .mov (.con (.int .i64 0)), none⟩])
  (.seq (.region [⟨some 3, .mov (.con (.int .i64 0)), none⟩])
  (.seq (.seq (.region [⟨some 6, .take (.tmp 0), none⟩,
    ⟨some 7, .lenl (.tmp 6), none⟩,
    ⟨some 8, .mov (.con (.int .i64 0)), none⟩])
  (.block 0 (.kill [0, 2, 5, 9, 10, 11, 12, 13, 14, 15, 16] (.loop l_cmp_Or_int_0))))
  (.seq (.region [⟨some 17, .mov (.tmp 3), none⟩,
    ⟨some 2, .mov (.tmp 17), none⟩])
  (.ret)))),
  [.tmp 2]⟩
theorem is_cmp_Or_int : IsFn Tryd.prog 118 c_cmp_Or_int := isFn_of [([], []), ([], []), ([], [0]), ([0, 2, 5, 9, 10, 11, 12, 13, 14, 15, 16], []), ([], []), ([6, 7, 8, 9], []), ([], []), ([], []), ([], []), ([], []), ([], []), ([], []), ([], [])] (by kernel_rfl)

/-- cmp.isNaN[string] -/
def c_cmp_isNaN_string : CFn := ⟨6, .seq (.region [⟨some 2, .mov (.con (.bool false)), none⟩])
  (.seq (.region [⟨some 3, .mov (.tmp 0), none⟩,
    ⟨some 4, .mov (.tmp 0), none⟩,
    ⟨some 5, .bin .neq (.tmp 3) (.tmp 4), none⟩,
    ⟨some 2, .mov (.tmp 5), none⟩])
  (.ret)),
  [.tmp 2]⟩
theorem is_cmp_isNaN_string : IsFn Tryd.prog 123 c_cmp_isNaN_string := isFn_of [([], []), ([], []), ([], [])] (by kernel_rfl)

end Go.Proofs.YtjeigcnaalleiaaDoor.F
