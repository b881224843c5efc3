/- Functions of the program, compiled, by a program (gen.py). -/
import Derived.Test.YtlcflpanellbfaaGreatDoorProg
import Derived.KernelRfl
import Derived.Test.YtlcflpanellbfaaGreatDoorM19
import Derived.Test.YtlcflpanellbfaaGreatDoorM22
import Derived.Test.YtlcflpanellbfaaGreatDoorSh
import Derived.Test.YtlcflpanellbfaaGreatDoorSp
import Derived.Test.YtlcflpanellbfaaGreatDoorIs
set_option maxRecDepth 100000
namespace Go.Proofs.YtlcflpanellbfaaGreatDoor.F
open Go.Proofs.YtlcflpanellbfaaGreatDoor.M Go.Proofs Go.RowKit

theorem tab_ok (w0 w : World) (hw : GW w0) (hb : Below w0.heap.size w0 w) : Lib.TabIs Tryz.prog w "internal/strconv.uint64pow10" .u64 Lib.pow10Tab := by
  obtain ⟨el, fr, hh⟩ := hw.1 _ (List.mem_cons_self ..)
  have h2 := (hb.block 6 (Array.getElem?_eq_some_iff.1 hh).1).trans hh
  unfold Lib.TabIs World.var?
  rw [show Tryz.prog.globalNamed "internal/strconv.uint64pow10" = some 6 from by kernel_rfl]
  simp only [Option.bind_some]
  rw [h2]
  rfl

theorem errvar_ok {P : Program} {w0 w : World} {g : Nat} {n : String} (h : ∃ tp q el fr, w0.heap[g]? = some (.cells #[.iface tp q] el fr)) (hb : Below w0.heap.size w0 w) (hn : P.globalNamed n = some g) : ∃ tp q, w.var? P n = some #[.iface tp q] := by
  obtain ⟨tp, q, el, fr, hh⟩ := h
  have h2 := (hb.block g (Array.getElem?_eq_some_iff.1 hh).1).trans hh
  exact ⟨tp, q, by unfold World.var?; rw [hn]; simp only [Option.bind_some]; rw [h2]⟩
/-- regency/regencylaw11.CallBack -/
def c_regencylaw11_CallBack : CFn := ⟨61, .seq (.region [⟨some 2, .box (.tmp 0), none⟩,
    ⟨some 4, .mov (.con (.bool false)), none⟩])
  (.seq (.seq (.region [⟨some 10, .pcall 5 [], none⟩,
    ⟨some 11, .un .not (.tmp 10), none⟩])
  (.cond (.tmp 11) (.seq (.region [⟨some 4, .mov (.con (.bool false)), none⟩])
  (.ret)) (.skip)))
  (.seq (.seq (.region [⟨some 12, .load (some 11) (.tmp 2), none⟩,
    ⟨some 13, .pcall 6 [(.tmp 12)], none⟩,
    ⟨some 14, .mov (.tmp 13), none⟩,
    ⟨some 15, .mov (.tmp 1), (some (14, false))⟩,
    ⟨some 16, .lenl (.tmp 15), (some (14, false))⟩,
    ⟨some 17, .bin .gtr (.tmp 16) (.con (.int .i64 800)), (some (14, false))⟩,
    ⟨some 18, .pick (.tmp 14) (.con (.bool true)) (.tmp 17), none⟩])
  (.cond (.tmp 18) (.seq (.region [⟨some 4, .mov (.con (.bool true)), none⟩])
  (.ret)) (.skip)))
  (.seq (.seq (.region [⟨some 19, .load (some 11) (.tmp 2), none⟩,
    ⟨some 20, .pcall 12 [(.tmp 19)], none⟩,
    ⟨some 5, .take (.tmp 20), none⟩])
  (.seq (.region [⟨some 21, .load (some 11) (.tmp 2), none⟩,
    ⟨some 22, .pcall 9 [(.tmp 21)], none⟩])
  (.cond (.tmp 22) (.seq (.region [⟨some 24, .take (.tmp 5), none⟩,
    ⟨some 25, .mov (.tmp 1), none⟩,
    ⟨some 26, .append 1 1 false (.tmp 24) (.tmp 25), none⟩,
    ⟨some 27, .call 18 [(.tmp 26)], none⟩,
    ⟨some 28, .call 17 [(.tmp 27)], none⟩,
    ⟨some 23, .take (.tmp 28), none⟩,
    ⟨some 29, .extract 23 0, none⟩,
    ⟨some 30, .extract 23 1, none⟩,
    ⟨some 6, .alloc [.int .i64 0, .sl .ex [], .sl .ex [], .sl .ex [], .sl .ex [], .int .i64 0, .int .i64 0, .sl .ex [], .str ⟨#[]⟩, .sl .ex [], .bool false], none⟩,
    ⟨none, .store 11 (.tmp 6) (.tmp 29), none⟩,
    ⟨some 7, .mov (.tmp 30), none⟩])
  (.seq (.region [⟨some 31, .mov (.tmp 7), none⟩,
    ⟨some 32, .bin .neq (.tmp 31) (.con (.int .i64 0)), none⟩,
    ⟨some 33, .mov (.tmp 32), none⟩,
    ⟨some 34, .load (some 11) (.tmp 2), (some (33, false))⟩,
    ⟨some 35, .load (some 11) (.tmp 6), (some (33, false))⟩,
    ⟨some 36, .pcall 16 [(.tmp 34), (.tmp 35)], (some (33, false))⟩,
    ⟨some 37, .un .not (.tmp 36), (some (33, false))⟩,
    ⟨some 38, .pick (.tmp 33) (.con (.bool true)) (.tmp 37), none⟩])
  (.cond (.tmp 38) (.seq (.region [⟨some 4, .mov (.con (.bool false)), none⟩])
  (.ret)) (.skip)))) (.seq (.region [⟨some 39, .take (.tmp 5), none⟩,
    ⟨some 40, .lenl (.tmp 39), none⟩,
    ⟨some 41, .bin .neq (.tmp 40) (.con (.int .i64 0)), none⟩])
  (.cond (.tmp 41) (.seq (.region [⟨some 4, .mov (.con (.bool false)), none⟩])
  (.ret)) (.skip))))))
  (.seq (.region [⟨some 43, .mov (.tmp 1), none⟩,
    ⟨some 44, .call 19 [(.tmp 43)], none⟩,
    ⟨some 42, .take (.tmp 44), none⟩,
    ⟨some 45, .extract 42 0, none⟩,
    ⟨some 46, .extract 42 1, none⟩,
    ⟨some 8, .alloc [.int .i64 0, .sl .ex [], .sl .ex [], .sl .ex [], .sl .ex [], .int .i64 0, .int .i64 0, .sl .ex [], .str ⟨#[]⟩, .sl .ex [], .bool false], none⟩,
    ⟨none, .store 11 (.tmp 8) (.tmp 45), none⟩,
    ⟨some 9, .mov (.tmp 46), none⟩])
  (.seq (.region [⟨some 47, .mov (.tmp 9), none⟩,
    ⟨some 48, .isnil .ifc true (.tmp 47), none⟩,
    ⟨some 49, .mov (.tmp 48), none⟩,
    ⟨some 50, .load (some 11) (.tmp 8), (some (49, false))⟩,
    ⟨some 51, .pcall 9 [(.tmp 50)], (some (49, false))⟩,
    ⟨some 52, .mov (.tmp 51), (some (49, false))⟩,
    ⟨some 53, .load (some 11) (.tmp 8), (some (52, true))⟩,
    ⟨some 54, .pcall 12 [(.tmp 53)], (some (52, true))⟩,
    ⟨some 55, .cBytesStr (.tmp 54), (some (52, true))⟩,
    ⟨some 56, .mov (.tmp 1), (some (52, true))⟩,
    ⟨some 57, .cBytesStr (.tmp 56), (some (52, true))⟩,
    ⟨some 58, .bin .eql (.tmp 55) (.tmp 57), (some (52, true))⟩,
    ⟨some 59, .pick (.tmp 52) (.tmp 58) (.con (.bool false)), (some (49, false))⟩,
    ⟨some 60, .pick (.tmp 49) (.con (.bool true)) (.tmp 59), none⟩,
    ⟨some 4, .mov (.tmp 60), none⟩])
  (.ret)))))),
  [.tmp 4]⟩
theorem is_regencylaw11_CallBack : IsFn Tryz.prog 4 c_regencylaw11_CallBack := isFn_of [([], []), ([], [0]), ([], []), ([], []), ([], [1]), ([], []), ([], []), ([], [1, 2]), ([], [1]), ([], [0, 5]), ([], [5]), ([], []), ([], []), ([], [0]), ([], []), ([], []), ([], [2]), ([], [4, 7]), ([], [])] (by kernel_rfl)

/-- regency/regencylaw11.first -/
def c_regencylaw11_first : CFn := ⟨60, .seq (.region [⟨some 0, .mov (.con (.bool false)), none⟩])
  (.seq (.region [⟨some 6, .bslice 1 false [(.con (.int .i64 1)), (.con (.int .i64 2))], none⟩,
    ⟨some 7, .build [.int .i64 0, .sl .ex [], .sl .ex [], .sl .ex [], .sl .ex [], .int .i64 0, .int .i64 0, .sl .ex [], .str ⟨#[]⟩, .sl .ex [], .bool false] [(0, 1, (.con (.int .i64 12))), (1, 1, (.tmp 6))], none⟩,
    ⟨some 1, .alloc [.int .i64 0, .sl .ex [], .sl .ex [], .sl .ex [], .sl .ex [], .int .i64 0, .int .i64 0, .sl .ex [], .str ⟨#[]⟩, .sl .ex [], .bool false], none⟩,
    ⟨none, .store 11 (.tmp 1) (.tmp 7), none⟩])
  (.seq (.region [⟨some 9, .load (some 11) (.tmp 1), none⟩,
    ⟨some 10, .pcall 12 [(.tmp 9)], none⟩,
    ⟨some 11, .call 19 [(.tmp 10)], none⟩,
    ⟨some 8, .take (.tmp 11), none⟩,
    ⟨some 12, .extract 8 0, none⟩,
    ⟨some 13, .extract 8 1, none⟩,
    ⟨some 2, .alloc [.int .i64 0, .sl .ex [], .sl .ex [], .sl .ex [], .sl .ex [], .int .i64 0, .int .i64 0, .sl .ex [], .str ⟨#[]⟩, .sl .ex [], .bool false], none⟩,
    ⟨none, .store 11 (.tmp 2) (.tmp 12), none⟩,
    ⟨some 3, .mov (.tmp 13), none⟩])
  (.seq (.region [⟨some 15, .bslice 1 false [(.con (.int .u8 12)), (.con (.int .u8 7))], none⟩,
    ⟨some 16, .call 19 [(.tmp 15)], none⟩,
    ⟨some 14, .take (.tmp 16), none⟩,
    ⟨some 17, .extract 14 0, none⟩,
    ⟨some 18, .extract 14 1, none⟩,
    ⟨some 4, .alloc [.int .i64 0, .sl .ex [], .sl .ex [], .sl .ex [], .sl .ex [], .int .i64 0, .int .i64 0, .sl .ex [], .str ⟨#[]⟩, .sl .ex [], .bool false], none⟩,
    ⟨none, .store 11 (.tmp 4) (.tmp 17), none⟩,
    ⟨some 5, .mov (.tmp 18), none⟩])
  (.seq (.region [⟨some 19, .load (some 11) (.tmp 1), none⟩,
    ⟨some 20, .pcall 12 [(.tmp 19)], none⟩,
    ⟨some 21, .cBytesStr (.tmp 20), none⟩,
    ⟨some 22, .bin .eql (.tmp 21) (.con (.str ⟨#[12, 2, 1, 2]⟩)), none⟩,
    ⟨some 23, .mov (.tmp 22), none⟩,
    ⟨some 24, .mov (.tmp 3), (some (23, true))⟩,
    ⟨some 25, .isnil .ifc false (.tmp 24), (some (23, true))⟩,
    ⟨some 26, .pick (.tmp 23) (.tmp 25) (.con (.bool false)), none⟩,
    ⟨some 27, .mov (.tmp 26), none⟩,
    ⟨some 28, .load (some 11) (.tmp 2), (some (27, true))⟩,
    ⟨some 29, .load (some 11) (.tmp 1), (some (27, true))⟩,
    ⟨some 30, .pcall 16 [(.tmp 28), (.tmp 29)], (some (27, true))⟩,
    ⟨some 31, .pick (.tmp 27) (.tmp 30) (.con (.bool false)), none⟩,
    ⟨some 32, .mov (.tmp 31), none⟩,
    ⟨some 33, .mov (.tmp 5), (some (32, true))⟩,
    ⟨some 34, .isnil .ifc true (.tmp 33), (some (32, true))⟩,
    ⟨some 35, .pick (.tmp 32) (.tmp 34) (.con (.bool false)), none⟩,
    ⟨some 36, .mov (.tmp 35), none⟩,
    ⟨some 37, .mov (.tmp 5), (some (36, true))⟩,
    ⟨some 38, .call 20 [(.tmp 37)], (some (36, true))⟩,
    ⟨some 39, .bin .eql (.tmp 38) (.con (.int .i64 10)), (some (36, true))⟩,
    ⟨some 40, .pick (.tmp 36) (.tmp 39) (.con (.bool false)), none⟩,
    ⟨some 41, .mov (.tmp 40), none⟩,
    ⟨some 42, .mov (.tmp 5), (some (41, true))⟩,
    ⟨some 43, .call 21 [(.tmp 42)], (some (41, true))⟩,
    ⟨some 44, .bin .eql (.tmp 43) (.con (.str ⟨#[99, 97, 108, 108]⟩)), (some (41, true))⟩,
    ⟨some 45, .pick (.tmp 41) (.tmp 44) (.con (.bool false)), none⟩,
    ⟨some 46, .mov (.tmp 45), none⟩,
    ⟨some 47, .mov (.tmp 5), (some (46, true))⟩,
    ⟨some 48, .call 22 [(.tmp 47), (.con (.int .i64 13))], (some (46, true))⟩,
    ⟨some 49, .pick (.tmp 46) (.tmp 48) (.con (.bool false)), none⟩,
    ⟨some 50, .mov (.tmp 49), none⟩,
    ⟨some 51, .load (some 11) (.tmp 1), (some (50, true))⟩,
    ⟨some 52, .pcall 9 [(.tmp 51)], (some (50, true))⟩,
    ⟨some 53, .pick (.tmp 50) (.tmp 52) (.con (.bool false)), none⟩,
    ⟨some 54, .mov (.tmp 53), none⟩,
    ⟨some 55, .build [.int .i64 0, .sl .ex [], .sl .ex [], .sl .ex [], .sl .ex [], .int .i64 0, .int .i64 0, .sl .ex [], .str ⟨#[]⟩, .sl .ex [], .bool false] [(5, 1, (.con (.int .i64 3)))], (some (54, true))⟩,
    ⟨some 56, .pcall 14 [(.tmp 55)], (some (54, true))⟩,
    ⟨some 57, .fld none 5 (.tmp 56), (some (54, true))⟩,
    ⟨some 58, .bin .eql (.tmp 57) (.con (.int .i64 0)), (some (54, true))⟩,
    ⟨some 59, .pick (.tmp 54) (.tmp 58) (.con (.bool false)), none⟩,
    ⟨some 0, .mov (.tmp 59), none⟩])
  (.ret))))),
  [.tmp 0]⟩
theorem is_regencylaw11_first : IsFn Tryz.prog 5 c_regencylaw11_first := isFn_of [([], []), ([], []), ([], [1, 3]), ([], [2]), ([], [1, 11, 33, 37]), ([], [])] (by kernel_rfl)

/-- regency/regencylaw11.great -/
def c_regencylaw11_great : CFn := ⟨41, .seq (.region [⟨some 1, .box (.tmp 0), none⟩,
    ⟨some 2, .mov (.con (.bool false)), none⟩])
  (.seq (.region [⟨some 3, .faddr 1 (.tmp 1), none⟩,
    ⟨some 4, .load none (.tmp 3), none⟩,
    ⟨some 5, .lenl (.tmp 4), none⟩,
    ⟨some 6, .bin .gtr (.tmp 5) (.con (.int .i64 60)), none⟩,
    ⟨some 7, .mov (.tmp 6), none⟩,
    ⟨some 8, .faddr 9 (.tmp 1), (some (7, false))⟩,
    ⟨some 9, .load none (.tmp 8), (some (7, false))⟩,
    ⟨some 10, .lenl (.tmp 9), (some (7, false))⟩,
    ⟨some 11, .bin .gtr (.tmp 10) (.con (.int .i64 60)), (some (7, false))⟩,
    ⟨some 12, .pick (.tmp 7) (.con (.bool true)) (.tmp 11), none⟩,
    ⟨some 13, .mov (.tmp 12), none⟩,
    ⟨some 14, .faddr 2 (.tmp 1), (some (13, false))⟩,
    ⟨some 15, .load none (.tmp 14), (some (13, false))⟩,
    ⟨some 16, .lenl (.tmp 15), (some (13, false))⟩,
    ⟨some 17, .faddr 3 (.tmp 1), (some (13, false))⟩,
    ⟨some 18, .load none (.tmp 17), (some (13, false))⟩,
    ⟨some 19, .lenl (.tmp 18), (some (13, false))⟩,
    ⟨some 20, .bin .add (.tmp 16) (.tmp 19), (some (13, false))⟩,
    ⟨some 21, .bin .gtr (.tmp 20) (.con (.int .i64 60)), (some (13, false))⟩,
    ⟨some 22, .pick (.tmp 13) (.con (.bool true)) (.tmp 21), none⟩,
    ⟨some 23, .mov (.tmp 22), none⟩,
    ⟨some 24, .faddr 4 (.tmp 1), (some (23, false))⟩,
    ⟨some 25, .load none (.tmp 24), (some (23, false))⟩,
    ⟨some 26, .lenl (.tmp 25), (some (23, false))⟩,
    ⟨some 27, .bin .gtr (.tmp 26) (.con (.int .i64 60)), (some (23, false))⟩,
    ⟨some 28, .pick (.tmp 23) (.con (.bool true)) (.tmp 27), none⟩,
    ⟨some 29, .mov (.tmp 28), none⟩,
    ⟨some 30, .faddr 7 (.tmp 1), (some (29, false))⟩,
    ⟨some 31, .load none (.tmp 30), (some (29, false))⟩,
    ⟨some 32, .lenl (.tmp 31), (some (29, false))⟩,
    ⟨some 33, .bin .gtr (.tmp 32) (.con (.int .i64 600)), (some (29, false))⟩,
    ⟨some 34, .pick (.tmp 29) (.con (.bool true)) (.tmp 33), none⟩,
    ⟨some 35, .mov (.tmp 34), none⟩,
    ⟨some 36, .faddr 8 (.tmp 1), (some (35, false))⟩,
    ⟨some 37, .load none (.tmp 36), (some (35, false))⟩,
    ⟨some 38, .lens (.tmp 37), (some (35, false))⟩,
    ⟨some 39, .bin .gtr (.tmp 38) (.con (.int .i64 100)), (some (35, false))⟩,
    ⟨some 40, .pick (.tmp 35) (.con (.bool true)) (.tmp 39), none⟩,
    ⟨some 2, .mov (.tmp 40), none⟩])
  (.ret)),
  [.tmp 2]⟩
theorem is_regencylaw11_great : IsFn Tryz.prog 6 c_regencylaw11_great := isFn_of [([], []), ([], []), ([], [])] (by kernel_rfl)

/-- regency/call.Right -/
def c_call_Right : CFn := ⟨20, .seq (.region [⟨some 1, .box (.tmp 0), none⟩,
    ⟨some 2, .mov (.con (.bool false)), none⟩])
  (.seq (.region [⟨some 3, .faddr 0 (.tmp 1), none⟩,
    ⟨some 4, .load none (.tmp 3), none⟩,
    ⟨some 5, .pcall 35 [(.tmp 4)], none⟩,
    ⟨some 6, .mov (.tmp 5), none⟩,
    ⟨some 7, .load (some 11) (.tmp 1), (some (6, true))⟩,
    ⟨some 8, .pcall 14 [(.tmp 7)], (some (6, true))⟩,
    ⟨some 9, .load (some 11) (.tmp 1), (some (6, true))⟩,
    ⟨some 10, .pcall 16 [(.tmp 8), (.tmp 9)], (some (6, true))⟩,
    ⟨some 11, .pick (.tmp 6) (.tmp 10) (.con (.bool false)), none⟩,
    ⟨some 12, .mov (.tmp 11), none⟩,
    ⟨some 13, .faddr 0 (.tmp 1), (some (12, true))⟩,
    ⟨some 14, .load none (.tmp 13), (some (12, true))⟩,
    ⟨some 15, .pcall 37 [(.tmp 14)], (some (12, true))⟩,
    ⟨some 16, .mkfn (.func 38) [] [(.tmp 1)], (some (12, true))⟩,
    ⟨some 17, .call 36 [(.tmp 15), (.tmp 16)], (some (12, true))⟩,
    ⟨some 18, .un .not (.tmp 17), (some (12, true))⟩,
    ⟨some 19, .pick (.tmp 12) (.tmp 18) (.con (.bool false)), none⟩,
    ⟨some 2, .mov (.tmp 19), none⟩])
  (.ret)),
  [.tmp 2]⟩
theorem is_call_Right : IsFn Tryz.prog 9 c_call_Right := isFn_of [([], []), ([], [2, 5, 7, 12]), ([], [])] (by kernel_rfl)

abbrev s_call_Put_0 (v0 v3 v16 v17 v18 : AV) : List AV := [v0, .any, undefA, v3, .any, undefA, .any, .any, .any, .any, .any, .any, .any, .any, .any, .any, v16, v17, v18, .any, .any, .any, .any, .any, .any, .any, .any]
abbrev x_call_Put_0  : List AV := [.any, .any, undefA, .any, .any, undefA, .any, .any, .any, .any, .any, .any, .any, .any, .any, .any, .any, .any, .any, .any, .any, .any, .any, .any, .any, .any, .any]
abbrev l_call_Put_0 : CC := .kill [1, 4, 6, 7, 8, 9, 10, 11, 12, 13, 14, 15, 19, 20, 21, 22, 23, 24, 25, 26] (.seq (.region [⟨some 19, .bin .lss (.tmp 18) (.tmp 17), none⟩])
  (.seq (.cond (.tmp 19) (.skip) (.kill [0, 3, 16, 17, 18, 19] (.exit 0)))
  (.seq (.block 1 (.seq (.region [⟨some 20, .iaddr 1 none (.tmp 16) (.tmp 18), none⟩,
    ⟨some 21, .load none (.tmp 20), none⟩,
    ⟨some 6, .mov (.tmp 21), none⟩])
  (.region [⟨some 22, .mov (.tmp 6), none⟩,
    ⟨some 23, .mov (.tmp 0), none⟩,
    ⟨some 24, .load (some 11) (.tmp 3), none⟩,
    ⟨some 25, .call 41 [(.tmp 22), (.tmp 23), (.tmp 24)], none⟩])))
  (.region [⟨some 26, .bin .add (.tmp 18) (.con (.int .i64 1)), none⟩,
    ⟨some 18, .mov (.tmp 26), none⟩]))))
/-- regency/call.Put -/
def c_call_Put : CFn := ⟨27, .seq (.region [⟨some 3, .box (.tmp 1), none⟩,
    ⟨some 4, .mov (.con (.bool false)), none⟩])
  (.seq (.seq (.region [⟨some 7, .load (some 11) (.tmp 3), none⟩,
    ⟨some 8, .pcall 9 [(.tmp 7)], none⟩,
    ⟨some 9, .un .not (.tmp 8), none⟩])
  (.cond (.tmp 9) (.seq (.region [⟨some 4, .mov (.con (.bool false)), none⟩])
  (.ret)) (.skip)))
  (.seq (.region [⟨some 10, .mov (.tmp 0), none⟩,
    ⟨some 11, .faddr 0 (.tmp 3), none⟩,
    ⟨some 12, .load none (.tmp 11), none⟩,
    ⟨some 13, .call 40 [(.tmp 10), (.tmp 12)], none⟩])
  (.seq (.seq (.region [⟨some 14, .faddr 0 (.tmp 3), none⟩,
    ⟨some 15, .load none (.tmp 14), none⟩,
    ⟨some 16, .pcall 37 [(.tmp 15)], none⟩,
    ⟨some 17, .lenl (.tmp 16), none⟩,
    ⟨some 18, .mov (.con (.int .i64 0)), none⟩])
  (.block 0 (.kill [1, 4, 6, 7, 8, 9, 10, 11, 12, 13, 14, 15, 19, 20, 21, 22, 23, 24, 25, 26] (.loop l_call_Put_0))))
  (.seq (.region [⟨some 4, .mov (.con (.bool true)), none⟩])
  (.ret))))),
  [.tmp 4]⟩
theorem is_call_Put : IsFn Tryz.prog 10 c_call_Put := isFn_of [([], []), ([], [1]), ([], []), ([], []), ([], []), ([], [2]), ([1, 4, 6, 7, 8, 9, 10, 11, 12, 13, 14, 15, 19, 20, 21, 22, 23, 24, 25, 26], []), ([], []), ([0, 3, 16, 17, 18, 19], []), ([], []), ([], []), ([], []), ([], []), ([], [])] (by kernel_rfl)

/-- (*regency/tape.Pen).Bytes -/
def c_tape_Pen_Bytes : CFn := ⟨10, .seq (.region [⟨some 2, .take (.con (.sl .ex [])), none⟩])
  (.seq (.seq (.region [⟨some 3, .mov (.tmp 0), none⟩,
    ⟨some 4, .isnil .ptr false (.tmp 3), none⟩])
  (.cond (.tmp 4) (.seq (.region [⟨some 2, .take (.con (.sl .ex [])), none⟩])
  (.ret)) (.skip)))
  (.seq (.region [⟨some 5, .mov (.tmp 0), none⟩,
    ⟨some 6, .nilck (.tmp 5), none⟩,
    ⟨some 7, .faddr 0 (.tmp 6), none⟩,
    ⟨some 8, .load none (.tmp 7), none⟩,
    ⟨some 9, .pcall 42 [(.tmp 8)], none⟩,
    ⟨some 2, .take (.tmp 9), none⟩])
  (.ret))),
  [.tmp 2]⟩
theorem is_tape_Pen_Bytes : IsFn Tryz.prog 11 c_tape_Pen_Bytes := isFn_of [([], [0]), ([], []), ([], [0]), ([], []), ([], [4, 5]), ([], [])] (by kernel_rfl)

/-- regency/call.Bytes -/
def c_call_Bytes : CFn := ⟨11, .seq (.region [⟨some 1, .box (.tmp 0), none⟩,
    ⟨some 2, .take (.con (.sl .ex [])), none⟩])
  (.seq (.region [⟨some 4, .build [.sl .ex []] [], none⟩,
    ⟨some 5, .box (.tmp 4), none⟩,
    ⟨some 3, .mov (.tmp 5), none⟩])
  (.seq (.region [⟨some 6, .mov (.tmp 3), none⟩,
    ⟨some 7, .load (some 11) (.tmp 1), none⟩,
    ⟨some 8, .call 10 [(.tmp 6), (.tmp 7)], none⟩])
  (.seq (.region [⟨some 9, .mov (.tmp 3), none⟩,
    ⟨some 10, .call 11 [(.tmp 9)], none⟩,
    ⟨some 2, .take (.tmp 10), none⟩])
  (.ret)))),
  [.tmp 2]⟩
theorem is_call_Bytes : IsFn Tryz.prog 12 c_call_Bytes := isFn_of [([], [1]), ([], []), ([], []), ([], [2]), ([], [])] (by kernel_rfl)

abbrev s_call_Plain_0 (v1 v2 v3 v11 v12 v13 : AV) : List AV := [.any, v1, v2, v3, undefA, .any, .any, .any, .any, .any, .any, v11, v12, v13, .any, .any, .any, .any, .any, .any, .any, .any, .any, .any, .any, .any, .any, .any, .any, .any, .any, .any, .any, .any, .any, .any, .any, .any, .any, .any, .any, .any, .any, .any, .any, .any, .any, .any, .any, .any, .any, .any, .any, .any, .any, .any, .any, .any, .any, .any, .any, .any, .any, .any, .any, .any, .any, .any, .any, .any, .any, .any, .any, .any, .any, .any, undefA]
abbrev x_call_Plain_0 (v2 v3 : AV) : List AV := [.any, .any, v2, v3, undefA, .any, .any, .any, .any, .any, .any, .any, .any, .any, .any, .any, .any, .any, .any, .any, .any, .any, .any, .any, .any, .any, .any, .any, .any, .any, .any, .any, .any, .any, .any, .any, .any, .any, .any, .any, .any, .any, .any, .any, .any, .any, .any, .any, .any, .any, .any, .any, .any, .any, .any, .any, .any, .any, .any, .any, .any, .any, .any, .any, .any, .any, .any, .any, .any, .any, .any, .any, .any, .any, .any, .any, undefA]
abbrev l_call_Plain_0 : CC := .kill [0, 5, 6, 7, 8, 9, 10, 14, 15, 16, 17, 18, 19, 20, 21, 22, 23, 24, 25, 26, 27, 28, 29, 30, 31, 32, 33, 34, 35, 36, 37, 38, 39, 40, 41, 42, 43, 44, 45, 46, 47, 48, 49, 50, 51, 52, 53, 54, 55, 56, 57, 58, 59, 60, 61, 62, 63, 64, 65, 66, 67, 68, 69, 70, 71, 72, 73, 74, 75] (.seq (.region [⟨some 14, .bin .lss (.tmp 13) (.tmp 12), none⟩])
  (.seq (.cond (.tmp 14) (.skip) (.kill [1, 11, 12, 13, 14] (.exit 0)))
  (.seq (.block 1 (.seq (.region [⟨some 15, .iaddr 1 none (.tmp 11) (.tmp 13), none⟩,
    ⟨some 16, .load none (.tmp 15), none⟩,
    ⟨some 5, .mov (.tmp 16), none⟩])
  (.seq (.region [⟨some 17, .mov (.tmp 5), none⟩])
  (.block 2 (.seq (.region [⟨some 19, .bin .eql (.tmp 17) (.con (.int .i64 0)), none⟩,
    ⟨some 18, .mov (.tmp 19), none⟩])
  (.cond (.tmp 18) (.region [⟨some 20, .faddr 1 (.tmp 1), none⟩,
    ⟨some 21, .load none (.tmp 20), none⟩,
    ⟨some 22, .pcall 46 [(.tmp 21)], none⟩,
    ⟨some 23, .faddr 1 (.tmp 3), none⟩,
    ⟨none, .store 1 (.tmp 23) (.tmp 22), none⟩]) (.seq (.region [⟨some 25, .bin .eql (.tmp 17) (.con (.int .i64 1)), none⟩,
    ⟨some 24, .mov (.tmp 25), none⟩])
  (.cond (.tmp 24) (.region [⟨some 26, .faddr 2 (.tmp 1), none⟩,
    ⟨some 27, .load none (.tmp 26), none⟩,
    ⟨some 28, .pcall 47 [(.tmp 27)], none⟩,
    ⟨some 29, .faddr 2 (.tmp 3), none⟩,
    ⟨none, .store 1 (.tmp 29) (.tmp 28), none⟩]) (.seq (.seq (.region [⟨some 31, .bin .eql (.tmp 17) (.con (.int .i64 2)), none⟩,
    ⟨some 30, .mov (.tmp 31), none⟩])
  (.cond (.tmp 30) (.skip) (.region [⟨some 32, .bin .eql (.tmp 17) (.con (.int .i64 10)), none⟩,
    ⟨some 30, .mov (.tmp 32), none⟩])))
  (.cond (.tmp 30) (.region [⟨some 33, .faddr 5 (.tmp 1), none⟩,
    ⟨some 34, .load none (.tmp 33), none⟩,
    ⟨some 35, .faddr 5 (.tmp 3), none⟩,
    ⟨none, .store 1 (.tmp 35) (.tmp 34), none⟩]) (.seq (.region [⟨some 37, .bin .eql (.tmp 17) (.con (.int .i64 3)), none⟩,
    ⟨some 36, .mov (.tmp 37), none⟩])
  (.cond (.tmp 36) (.region [⟨some 38, .faddr 6 (.tmp 1), none⟩,
    ⟨some 39, .load none (.tmp 38), none⟩,
    ⟨some 40, .faddr 6 (.tmp 3), none⟩,
    ⟨none, .store 1 (.tmp 40) (.tmp 39), none⟩]) (.seq (.region [⟨some 42, .bin .eql (.tmp 17) (.con (.int .i64 4)), none⟩,
    ⟨some 41, .mov (.tmp 42), none⟩])
  (.cond (.tmp 41) (.region [⟨some 43, .faddr 3 (.tmp 1), none⟩,
    ⟨some 44, .load none (.tmp 43), none⟩,
    ⟨some 45, .pcall 47 [(.tmp 44)], none⟩,
    ⟨some 46, .faddr 3 (.tmp 3), none⟩,
    ⟨none, .store 1 (.tmp 46) (.tmp 45), none⟩]) (.seq (.region [⟨some 48, .bin .eql (.tmp 17) (.con (.int .i64 5)), none⟩,
    ⟨some 47, .mov (.tmp 48), none⟩])
  (.cond (.tmp 47) (.region [⟨some 49, .faddr 4 (.tmp 1), none⟩,
    ⟨some 50, .load none (.tmp 49), none⟩,
    ⟨some 51, .pcall 48 [(.tmp 50)], none⟩,
    ⟨some 52, .faddr 4 (.tmp 3), none⟩,
    ⟨none, .store 1 (.tmp 52) (.tmp 51), none⟩]) (.seq (.region [⟨some 54, .bin .eql (.tmp 17) (.con (.int .i64 6)), none⟩,
    ⟨some 53, .mov (.tmp 54), none⟩])
  (.cond (.tmp 53) (.region [⟨some 55, .faddr 7 (.tmp 1), none⟩,
    ⟨some 56, .load none (.tmp 55), none⟩,
    ⟨some 57, .pcall 42 [(.tmp 56)], none⟩,
    ⟨some 58, .faddr 7 (.tmp 3), none⟩,
    ⟨none, .store 1 (.tmp 58) (.tmp 57), none⟩]) (.seq (.region [⟨some 60, .bin .eql (.tmp 17) (.con (.int .i64 7)), none⟩,
    ⟨some 59, .mov (.tmp 60), none⟩])
  (.cond (.tmp 59) (.region [⟨some 61, .faddr 8 (.tmp 1), none⟩,
    ⟨some 62, .load none (.tmp 61), none⟩,
    ⟨some 63, .faddr 8 (.tmp 3), none⟩,
    ⟨none, .store 1 (.tmp 63) (.tmp 62), none⟩]) (.seq (.region [⟨some 65, .bin .eql (.tmp 17) (.con (.int .i64 8)), none⟩,
    ⟨some 64, .mov (.tmp 65), none⟩])
  (.cond (.tmp 64) (.region [⟨some 66, .faddr 9 (.tmp 1), none⟩,
    ⟨some 67, .load none (.tmp 66), none⟩,
    ⟨some 68, .pcall 46 [(.tmp 67)], none⟩,
    ⟨some 69, .faddr 9 (.tmp 3), none⟩,
    ⟨none, .store 1 (.tmp 69) (.tmp 68), none⟩]) (.seq (.region [⟨some 71, .bin .eql (.tmp 17) (.con (.int .i64 9)), none⟩,
    ⟨some 70, .mov (.tmp 71), none⟩])
  (.cond (.tmp 70) (.region [⟨some 72, .faddr 10 (.tmp 1), none⟩,
    ⟨some 73, .load none (.tmp 72), none⟩,
    ⟨some 74, .faddr 10 (.tmp 3), none⟩,
    ⟨none, .store 1 (.tmp 74) (.tmp 73), none⟩]) (.skip)))))))))))))))))))))))))
  (.region [⟨some 75, .bin .add (.tmp 13) (.con (.int .i64 1)), none⟩,
    ⟨some 13, .mov (.tmp 75), none⟩]))))
/-- regency/call.Plain -/
def c_call_Plain : CFn := ⟨77, .seq (.region [⟨some 1, .box (.tmp 0), none⟩,
    ⟨some 2, .alloc [.int .i64 0, .sl .ex [], .sl .ex [], .sl .ex [], .sl .ex [], .int .i64 0, .int .i64 0, .sl .ex [], .str ⟨#[]⟩, .sl .ex [], .bool false], none⟩])
  (.seq (.region [⟨some 6, .faddr 0 (.tmp 1), none⟩,
    ⟨some 7, .load none (.tmp 6), none⟩,
    ⟨some 8, .build [.int .i64 0, .sl .ex [], .sl .ex [], .sl .ex [], .sl .ex [], .int .i64 0, .int .i64 0, .sl .ex [], .str ⟨#[]⟩, .sl .ex [], .bool false] [(0, 1, (.tmp 7))], none⟩,
    ⟨some 3, .alloc [.int .i64 0, .sl .ex [], .sl .ex [], .sl .ex [], .sl .ex [], .int .i64 0, .int .i64 0, .sl .ex [], .str ⟨#[]⟩, .sl .ex [], .bool false], none⟩,
    ⟨none, .store 11 (.tmp 3) (.tmp 8), none⟩])
  (.seq (.seq (.region [⟨some 9, .faddr 0 (.tmp 1), none⟩,
    ⟨some 10, .load none (.tmp 9), none⟩,
    ⟨some 11, .pcall 37 [(.tmp 10)], none⟩,
    ⟨some 12, .lenl (.tmp 11), none⟩,
    ⟨some 13, .mov (.con (.int .i64 0)), none⟩])
  (.block 0 (.kill [0, 5, 6, 7, 8, 9, 10, 14, 15, 16, 17, 18, 19, 20, 21, 22, 23, 24, 25, 26, 27, 28, 29, 30, 31, 32, 33, 34, 35, 36, 37, 38, 39, 40, 41, 42, 43, 44, 45, 46, 47, 48, 49, 50, 51, 52, 53, 54, 55, 56, 57, 58, 59, 60, 61, 62, 63, 64, 65, 66, 67, 68, 69, 70, 71, 72, 73, 74, 75] (.loop l_call_Plain_0))))
  (.seq (.region [⟨some 76, .load (some 11) (.tmp 3), none⟩,
    ⟨none, .store 11 (.tmp 2) (.tmp 76), none⟩])
  (.ret)))),
  [.cell 2 (some 11)]⟩
theorem is_call_Plain : IsFn Tryz.prog 14 c_call_Plain := isFn_of [([], []), ([], []), ([], [2]), ([0, 5, 6, 7, 8, 9, 10, 14, 15, 16, 17, 18, 19, 20, 21, 22, 23, 24, 25, 26, 27, 28, 29, 30, 31, 32, 33, 34, 35, 36, 37, 38, 39, 40, 41, 42, 43, 44, 45, 46, 47, 48, 49, 50, 51, 52, 53, 54, 55, 56, 57, 58, 59, 60, 61, 62, 63, 64, 65, 66, 67, 68, 69, 70, 71, 72, 73, 74, 75], []), ([], []), ([1, 11, 12, 13, 14], []), ([], []), ([], []), ([], []), ([], [2]), ([], []), ([], [2]), ([], []), ([], []), ([], []), ([], []), ([], []), ([], []), ([], [2]), ([], []), ([], [2]), ([], []), ([], [2]), ([], []), ([], []), ([], []), ([], [2]), ([], []), ([], []), ([], []), ([], []), ([], [])] (by kernel_rfl)

/-- regency/call.Same -/
def c_call_Same : CFn := ⟨82, .seq (.region [⟨some 2, .box (.tmp 0), none⟩,
    ⟨some 3, .box (.tmp 1), none⟩,
    ⟨some 4, .mov (.con (.bool false)), none⟩])
  (.seq (.region [⟨some 6, .faddr 1 (.tmp 2), none⟩,
    ⟨some 7, .load none (.tmp 6), none⟩,
    ⟨some 8, .faddr 1 (.tmp 3), none⟩,
    ⟨some 9, .load none (.tmp 8), none⟩,
    ⟨some 10, .pcall 49 [(.tmp 7), (.tmp 9)], none⟩,
    ⟨some 11, .mov (.tmp 10), none⟩,
    ⟨some 12, .faddr 2 (.tmp 2), (some (11, true))⟩,
    ⟨some 13, .load none (.tmp 12), (some (11, true))⟩,
    ⟨some 14, .faddr 2 (.tmp 3), (some (11, true))⟩,
    ⟨some 15, .load none (.tmp 14), (some (11, true))⟩,
    ⟨some 16, .pcall 50 [(.tmp 13), (.tmp 15)], (some (11, true))⟩,
    ⟨some 17, .pick (.tmp 11) (.tmp 16) (.con (.bool false)), none⟩,
    ⟨some 18, .mov (.tmp 17), none⟩,
    ⟨some 19, .faddr 3 (.tmp 2), (some (18, true))⟩,
    ⟨some 20, .load none (.tmp 19), (some (18, true))⟩,
    ⟨some 21, .faddr 3 (.tmp 3), (some (18, true))⟩,
    ⟨some 22, .load none (.tmp 21), (some (18, true))⟩,
    ⟨some 23, .pcall 50 [(.tmp 20), (.tmp 22)], (some (18, true))⟩,
    ⟨some 24, .pick (.tmp 18) (.tmp 23) (.con (.bool false)), none⟩,
    ⟨some 25, .mov (.tmp 24), none⟩,
    ⟨some 26, .faddr 4 (.tmp 2), (some (25, true))⟩,
    ⟨some 27, .load none (.tmp 26), (some (25, true))⟩,
    ⟨some 28, .faddr 4 (.tmp 3), (some (25, true))⟩,
    ⟨some 29, .load none (.tmp 28), (some (25, true))⟩,
    ⟨some 30, .pcall 51 [(.tmp 27), (.tmp 29)], (some (25, true))⟩,
    ⟨some 31, .pick (.tmp 25) (.tmp 30) (.con (.bool false)), none⟩,
    ⟨some 32, .mov (.tmp 31), none⟩,
    ⟨some 33, .faddr 9 (.tmp 2), (some (32, true))⟩,
    ⟨some 34, .load none (.tmp 33), (some (32, true))⟩,
    ⟨some 35, .faddr 9 (.tmp 3), (some (32, true))⟩,
    ⟨some 36, .load none (.tmp 35), (some (32, true))⟩,
    ⟨some 37, .pcall 49 [(.tmp 34), (.tmp 36)], (some (32, true))⟩,
    ⟨some 38, .pick (.tmp 32) (.tmp 37) (.con (.bool false)), none⟩,
    ⟨some 5, .mov (.tmp 38), none⟩])
  (.seq (.region [⟨some 39, .mov (.tmp 5), none⟩,
    ⟨some 40, .mov (.tmp 39), none⟩,
    ⟨some 41, .faddr 0 (.tmp 2), (some (40, true))⟩,
    ⟨some 42, .load none (.tmp 41), (some (40, true))⟩,
    ⟨some 43, .faddr 0 (.tmp 3), (some (40, true))⟩,
    ⟨some 44, .load none (.tmp 43), (some (40, true))⟩,
    ⟨some 45, .bin .eql (.tmp 42) (.tmp 44), (some (40, true))⟩,
    ⟨some 46, .pick (.tmp 40) (.tmp 45) (.con (.bool false)), none⟩,
    ⟨some 47, .mov (.tmp 46), none⟩,
    ⟨some 48, .faddr 5 (.tmp 2), (some (47, true))⟩,
    ⟨some 49, .load none (.tmp 48), (some (47, true))⟩,
    ⟨some 50, .faddr 5 (.tmp 3), (some (47, true))⟩,
    ⟨some 51, .load none (.tmp 50), (some (47, true))⟩,
    ⟨some 52, .bin .eql (.tmp 49) (.tmp 51), (some (47, true))⟩,
    ⟨some 53, .pick (.tmp 47) (.tmp 52) (.con (.bool false)), none⟩,
    ⟨some 54, .mov (.tmp 53), none⟩,
    ⟨some 55, .faddr 6 (.tmp 2), (some (54, true))⟩,
    ⟨some 56, .load none (.tmp 55), (some (54, true))⟩,
    ⟨some 57, .faddr 6 (.tmp 3), (some (54, true))⟩,
    ⟨some 58, .load none (.tmp 57), (some (54, true))⟩,
    ⟨some 59, .bin .eql (.tmp 56) (.tmp 58), (some (54, true))⟩,
    ⟨some 60, .pick (.tmp 54) (.tmp 59) (.con (.bool false)), none⟩,
    ⟨some 61, .mov (.tmp 60), none⟩,
    ⟨some 62, .faddr 7 (.tmp 2), (some (61, true))⟩,
    ⟨some 63, .load none (.tmp 62), (some (61, true))⟩,
    ⟨some 64, .faddr 7 (.tmp 3), (some (61, true))⟩,
    ⟨some 65, .load none (.tmp 64), (some (61, true))⟩,
    ⟨some 66, .pcall 52 [(.tmp 63), (.tmp 65)], (some (61, true))⟩,
    ⟨some 67, .pick (.tmp 61) (.tmp 66) (.con (.bool false)), none⟩,
    ⟨some 68, .mov (.tmp 67), none⟩,
    ⟨some 69, .faddr 8 (.tmp 2), (some (68, true))⟩,
    ⟨some 70, .load none (.tmp 69), (some (68, true))⟩,
    ⟨some 71, .faddr 8 (.tmp 3), (some (68, true))⟩,
    ⟨some 72, .load none (.tmp 71), (some (68, true))⟩,
    ⟨some 73, .bin .eql (.tmp 70) (.tmp 72), (some (68, true))⟩,
    ⟨some 74, .pick (.tmp 68) (.tmp 73) (.con (.bool false)), none⟩,
    ⟨some 75, .mov (.tmp 74), none⟩,
    ⟨some 76, .faddr 10 (.tmp 2), (some (75, true))⟩,
    ⟨some 77, .load none (.tmp 76), (some (75, true))⟩,
    ⟨some 78, .faddr 10 (.tmp 3), (some (75, true))⟩,
    ⟨some 79, .load none (.tmp 78), (some (75, true))⟩,
    ⟨some 80, .eqb false (.tmp 77) (.tmp 79), (some (75, true))⟩,
    ⟨some 81, .pick (.tmp 75) (.tmp 80) (.con (.bool false)), none⟩,
    ⟨some 4, .mov (.tmp 81), none⟩])
  (.ret))),
  [.tmp 4]⟩
theorem is_call_Same : IsFn Tryz.prog 16 c_call_Same := isFn_of [([], []), ([], [4, 10, 17, 24, 31]), ([], [27]), ([], [])] (by kernel_rfl)

abbrev s_call_Get_0 (v0 v2 v4 v5 v17 v18 v19 : AV) : List AV := [v0, undefA, v2, .any, v4, v5, undefA, .any, .any, .any, .any, .any, .any, .any, .any, .any, .any, v17, v18, v19, .any, .any, .any, .any, .any, .any, .any, undefA, undefA, undefA, undefA, undefA, undefA, undefA, undefA, undefA, undefA, undefA, undefA, undefA, undefA, undefA]
abbrev x_call_Get_0 (v0 v2 v4 v5 : AV) : List AV := [v0, undefA, v2, .any, v4, v5, undefA, .any, .any, .any, .any, .any, .any, .any, .any, .any, .any, .any, .any, .any, .any, .any, .any, .any, .any, .any, .any, undefA, undefA, undefA, undefA, undefA, undefA, undefA, undefA, undefA, undefA, undefA, undefA, undefA, undefA, undefA]
abbrev l_call_Get_0 : CC := .kill [3, 7, 8, 9, 10, 11, 12, 13, 14, 15, 16, 20, 21, 22, 23, 24, 25, 26] (.seq (.region [⟨some 20, .bin .lss (.tmp 19) (.tmp 18), none⟩])
  (.seq (.cond (.tmp 20) (.skip) (.kill [17, 18, 19, 20] (.exit 0)))
  (.seq (.block 1 (.seq (.region [⟨some 21, .iaddr 1 none (.tmp 17) (.tmp 19), none⟩,
    ⟨some 22, .load none (.tmp 21), none⟩,
    ⟨some 7, .mov (.tmp 22), none⟩])
  (.region [⟨some 23, .mov (.tmp 7), none⟩,
    ⟨some 24, .mov (.tmp 0), none⟩,
    ⟨some 25, .call 55 [(.tmp 23), (.tmp 24), (.tmp 5)], none⟩])))
  (.region [⟨some 26, .bin .add (.tmp 19) (.con (.int .i64 1)), none⟩,
    ⟨some 19, .mov (.tmp 26), none⟩]))))
/-- regency/call.Get -/
def c_call_Get : CFn := ⟨42, .seq (.region [⟨some 2, .alloc [.int .i64 0, .sl .ex [], .sl .ex [], .sl .ex [], .sl .ex [], .int .i64 0, .int .i64 0, .sl .ex [], .str ⟨#[]⟩, .sl .ex [], .bool false], none⟩,
    ⟨some 3, .mov (.con (.int .i64 0)), none⟩])
  (.seq (.region [⟨some 4, .mov (.con (.int .i64 0)), none⟩])
  (.seq (.seq (.region [⟨some 8, .mov (.tmp 0), none⟩,
    ⟨some 9, .isnil .ptr true (.tmp 8), none⟩])
  (.cond (.tmp 9) (.region [⟨some 10, .mov (.tmp 0), none⟩,
    ⟨some 11, .call 53 [(.tmp 10)], none⟩,
    ⟨some 4, .mov (.tmp 11), none⟩]) (.skip)))
  (.seq (.region [⟨some 12, .mov (.tmp 0), none⟩,
    ⟨some 13, .call 54 [(.tmp 12), (.con (.int .i64 20))], none⟩,
    ⟨some 14, .build [.int .i64 0, .sl .ex [], .sl .ex [], .sl .ex [], .sl .ex [], .int .i64 0, .int .i64 0, .sl .ex [], .str ⟨#[]⟩, .sl .ex [], .bool false] [(0, 1, (.tmp 13))], none⟩,
    ⟨some 5, .alloc [.int .i64 0, .sl .ex [], .sl .ex [], .sl .ex [], .sl .ex [], .int .i64 0, .int .i64 0, .sl .ex [], .str ⟨#[]⟩, .sl .ex [], .bool false], none⟩,
    ⟨none, .store 11 (.tmp 5) (.tmp 14), none⟩])
  (.seq (.seq (.region [⟨some 15, .faddr 0 (.tmp 5), none⟩,
    ⟨some 16, .load none (.tmp 15), none⟩,
    ⟨some 17, .pcall 37 [(.tmp 16)], none⟩,
    ⟨some 18, .lenl (.tmp 17), none⟩,
    ⟨some 19, .mov (.con (.int .i64 0)), none⟩])
  (.block 0 (.kill [3, 7, 8, 9, 10, 11, 12, 13, 14, 15, 16, 20, 21, 22, 23, 24, 25, 26] (.loop l_call_Get_0))))
  (.seq (.seq (.dregion [(⟨some 27, .mov (.tmp 0), none⟩, false),
    (⟨some 28, .call 56 [(.tmp 27)], none⟩, false),
    (⟨some 29, .isnil .ifc true (.tmp 28), none⟩, false),
    (⟨some 30, .mov (.tmp 29), none⟩, false),
    (⟨some 31, .mov (.tmp 4), (some (30, false))⟩, false),
    (⟨some 32, .mov (.tmp 0), (some (30, false))⟩, false),
    (⟨some 33, .call 53 [(.tmp 32)], (some (30, false))⟩, true),
    (⟨some 34, .bin .sub (.tmp 31) (.tmp 33), (some (30, false))⟩, false),
    (⟨some 35, .load (some 11) (.tmp 5), (some (30, false))⟩, true),
    (⟨some 36, .pcall 12 [(.tmp 35)], (some (30, false))⟩, false),
    (⟨some 37, .lenl (.tmp 36), (some (30, false))⟩, false),
    (⟨some 38, .bin .neq (.tmp 34) (.tmp 37), (some (30, false))⟩, false),
    (⟨some 39, .pick (.tmp 30) (.con (.bool true)) (.tmp 38), none⟩, false)])
  (.cond (.tmp 39) (.seq (.region [⟨some 40, .build [.int .i64 0, .sl .ex [], .sl .ex [], .sl .ex [], .sl .ex [], .int .i64 0, .int .i64 0, .sl .ex [], .str ⟨#[]⟩, .sl .ex [], .bool false] [], none⟩,
    ⟨none, .store 11 (.tmp 2) (.tmp 40), none⟩,
    ⟨some 3, .mov (.con (.int .i64 10)), none⟩])
  (.ret)) (.skip)))
  (.seq (.region [⟨some 41, .load (some 11) (.tmp 5), none⟩,
    ⟨none, .store 11 (.tmp 2) (.tmp 41), none⟩,
    ⟨some 3, .mov (.con (.int .i64 0)), none⟩])
  (.ret))))))),
  [.cell 2 (some 11), .tmp 3]⟩
theorem is_call_Get : IsFn Tryz.prog 17 c_call_Get := isFn_of [([], []), ([], []), ([], []), ([], []), ([], []), ([], [2]), ([3, 7, 8, 9, 10, 11, 12, 13, 14, 15, 16, 20, 21, 22, 23, 24, 25, 26], []), ([], []), ([17, 18, 19, 20], []), ([], []), ([], []), ([], []), ([], [9]), ([], []), ([], []), ([], []), ([], [])] (by kernel_rfl)

/-- regency/tape.New -/
def c_tape_New : CFn := ⟨7, .seq (.region [⟨some 2, .mov (.con (.nilp)), none⟩])
  (.seq (.region [⟨some 3, .take (.tmp 0), none⟩,
    ⟨some 4, .pcall 42 [(.tmp 3)], none⟩,
    ⟨some 5, .build [.sl .ex [], .nili] [(0, 1, (.tmp 4))], none⟩,
    ⟨some 6, .box (.tmp 5), none⟩,
    ⟨some 2, .mov (.tmp 6), none⟩])
  (.ret)),
  [.tmp 2]⟩
theorem is_tape_New : IsFn Tryz.prog 18 c_tape_New := isFn_of [([], []), ([], [0, 1]), ([], [])] (by kernel_rfl)

/-- regency/call.Parse -/
def c_call_Parse : CFn := ⟨27, .seq (.region [⟨some 2, .alloc [.int .i64 0, .sl .ex [], .sl .ex [], .sl .ex [], .sl .ex [], .int .i64 0, .int .i64 0, .sl .ex [], .str ⟨#[]⟩, .sl .ex [], .bool false], none⟩,
    ⟨some 3, .mov (.con (.nili)), none⟩])
  (.seq (.region [⟨some 8, .take (.tmp 0), none⟩,
    ⟨some 9, .call 18 [(.tmp 8)], none⟩,
    ⟨some 4, .mov (.tmp 9), none⟩])
  (.seq (.region [⟨some 11, .mov (.tmp 4), none⟩,
    ⟨some 12, .call 17 [(.tmp 11)], none⟩,
    ⟨some 10, .take (.tmp 12), none⟩,
    ⟨some 13, .extract 10 0, none⟩,
    ⟨some 14, .extract 10 1, none⟩,
    ⟨some 5, .alloc [.int .i64 0, .sl .ex [], .sl .ex [], .sl .ex [], .sl .ex [], .int .i64 0, .int .i64 0, .sl .ex [], .str ⟨#[]⟩, .sl .ex [], .bool false], none⟩,
    ⟨none, .store 11 (.tmp 5) (.tmp 13), none⟩,
    ⟨some 6, .mov (.tmp 14), none⟩])
  (.seq (.seq (.region [⟨some 15, .mov (.tmp 4), none⟩,
    ⟨some 16, .call 57 [(.tmp 15)], none⟩,
    ⟨some 7, .mov (.tmp 16), none⟩])
  (.seq (.region [⟨some 17, .mov (.tmp 6), none⟩,
    ⟨some 18, .bin .neq (.tmp 17) (.con (.int .i64 0)), none⟩,
    ⟨some 19, .mov (.tmp 18), none⟩,
    ⟨some 20, .mov (.tmp 7), (some (19, false))⟩,
    ⟨some 21, .isnil .ifc true (.tmp 20), (some (19, false))⟩,
    ⟨some 22, .pick (.tmp 19) (.con (.bool true)) (.tmp 21), none⟩])
  (.cond (.tmp 22) (.seq (.region [⟨some 23, .build [.int .i64 0, .sl .ex [], .sl .ex [], .sl .ex [], .sl .ex [], .int .i64 0, .int .i64 0, .sl .ex [], .str ⟨#[]⟩, .sl .ex [], .bool false] [], none⟩,
    ⟨some 24, .mov (.tmp 7), none⟩,
    ⟨some 25, .call 58 [(.con (.str ⟨#[99, 97, 108, 108]⟩)), (.con (.int .i64 10)), (.tmp 24)], none⟩,
    ⟨none, .store 11 (.tmp 2) (.tmp 23), none⟩,
    ⟨some 3, .mov (.tmp 25), none⟩])
  (.ret)) (.skip))))
  (.seq (.region [⟨some 26, .load (some 11) (.tmp 5), none⟩,
    ⟨none, .store 11 (.tmp 2) (.tmp 26), none⟩,
    ⟨some 3, .mov (.con (.nili)), none⟩])
  (.ret))))),
  [.cell 2 (some 11), .tmp 3]⟩
theorem is_call_Parse : IsFn Tryz.prog 19 c_call_Parse := isFn_of [([], []), ([], [0]), ([], [2]), ([], []), ([], []), ([], []), ([], []), ([], []), ([], [])] (by kernel_rfl)

/-- regency/fault.Code -/
def c_fault_Code : CFn := ⟨22, .seq (.region [⟨some 2, .mov (.con (.int .i64 0)), none⟩])
  (.seq (.seq (.region [⟨some 6, .mov (.tmp 0), none⟩,
    ⟨some 7, .isnil .ifc false (.tmp 6), none⟩])
  (.cond (.tmp 7) (.seq (.region [⟨some 2, .mov (.con (.int .i64 0)), none⟩])
  (.ret)) (.skip)))
  (.seq (.seq (.region [⟨some 9, .mov (.tmp 0), none⟩,
    ⟨some 10, .tass 92 (.nilp) (.tmp 9), none⟩,
    ⟨some 8, .mov (.tmp 10), none⟩,
    ⟨some 11, .extract 8 0, none⟩,
    ⟨some 12, .extract 8 1, none⟩,
    ⟨some 3, .mov (.tmp 11), none⟩,
    ⟨some 4, .mov (.tmp 12), none⟩])
  (.seq (.region [⟨some 13, .mov (.tmp 4), none⟩])
  (.cond (.tmp 13) (.seq (.region [⟨some 14, .mov (.tmp 3), none⟩,
    ⟨some 15, .nilck (.tmp 14), none⟩,
    ⟨some 16, .faddr 1 (.tmp 15), none⟩,
    ⟨some 17, .load none (.tmp 16), none⟩,
    ⟨some 2, .mov (.tmp 17), none⟩])
  (.ret)) (.skip))))
  (.seq (.region [⟨some 5, .alloc [.int .i64 0], none⟩])
  (.seq (.seq (.region [⟨some 18, .mov (.tmp 0), none⟩,
    ⟨some 19, .mkif 97 (.tmp 5), none⟩,
    ⟨some 20, .call 59 [(.tmp 18), (.tmp 19)], none⟩])
  (.cond (.tmp 20) (.seq (.region [⟨some 21, .load none (.tmp 5), none⟩,
    ⟨some 2, .mov (.tmp 21), none⟩])
  (.ret)) (.skip)))
  (.seq (.region [⟨some 2, .mov (.con (.int .i64 2)), none⟩])
  (.ret)))))),
  [.tmp 2]⟩
theorem is_fault_Code : IsFn Tryz.prog 20 c_fault_Code := isFn_of [([], []), ([], []), ([], []), ([], []), ([], []), ([], []), ([], []), ([], []), ([], []), ([], []), ([], []), ([], []), ([], []), ([], [])] (by kernel_rfl)

/-- regency/fault.Place -/
def c_fault_Place : CFn := ⟨15, .seq (.region [⟨some 2, .mov (.con (.str ⟨#[]⟩)), none⟩])
  (.seq (.seq (.region [⟨some 6, .mov (.tmp 0), none⟩,
    ⟨some 7, .tass 92 (.nilp) (.tmp 6), none⟩,
    ⟨some 5, .mov (.tmp 7), none⟩,
    ⟨some 8, .extract 5 0, none⟩,
    ⟨some 9, .extract 5 1, none⟩,
    ⟨some 3, .mov (.tmp 8), none⟩,
    ⟨some 4, .mov (.tmp 9), none⟩])
  (.seq (.region [⟨some 10, .mov (.tmp 4), none⟩])
  (.cond (.tmp 10) (.seq (.region [⟨some 11, .mov (.tmp 3), none⟩,
    ⟨some 12, .nilck (.tmp 11), none⟩,
    ⟨some 13, .faddr 0 (.tmp 12), none⟩,
    ⟨some 14, .load none (.tmp 13), none⟩,
    ⟨some 2, .mov (.tmp 14), none⟩])
  (.ret)) (.skip))))
  (.seq (.region [⟨some 2, .mov (.con (.str ⟨#[]⟩)), none⟩])
  (.ret))),
  [.tmp 2]⟩
theorem is_fault_Place : IsFn Tryz.prog 21 c_fault_Place := isFn_of [([], []), ([], []), ([], []), ([], []), ([], []), ([], []), ([], [])] (by kernel_rfl)

/-- regency/fault.Has -/
def c_fault_Has : CFn := ⟨13, .seq (.region [⟨some 4, .mov (.con (.bool false)), none⟩])
  (.seq (.seq (.region [⟨some 5, .mov (.tmp 1), none⟩,
    ⟨some 6, .bin .eql (.tmp 5) (.con (.int .i64 0)), none⟩])
  (.cond (.tmp 6) (.seq (.region [⟨some 7, .mov (.tmp 0), none⟩,
    ⟨some 8, .isnil .ifc false (.tmp 7), none⟩,
    ⟨some 4, .mov (.tmp 8), none⟩])
  (.ret)) (.skip)))
  (.seq (.region [⟨some 9, .mov (.tmp 0), none⟩,
    ⟨some 10, .mov (.tmp 1), none⟩,
    ⟨some 11, .mkif 40 (.tmp 10), none⟩,
    ⟨some 12, .call 60 [(.tmp 9), (.tmp 11)], none⟩,
    ⟨some 4, .mov (.tmp 12), none⟩])
  (.ret))),
  [.tmp 4]⟩
theorem is_fault_Has : IsFn Tryz.prog 22 c_fault_Has := isFn_of [([], []), ([], []), ([], []), ([], []), ([], []), ([], [])] (by kernel_rfl)

/-- regency/call.known -/
def c_call_known : CFn := ⟨9, .seq (.region [⟨some 2, .mov (.con (.bool false)), none⟩])
  (.seq (.region [⟨some 3, .mov (.tmp 0), none⟩,
    ⟨some 4, .bin .geq (.tmp 3) (.con (.int .i64 0)), none⟩,
    ⟨some 5, .mov (.tmp 4), none⟩,
    ⟨some 6, .mov (.tmp 0), (some (5, true))⟩,
    ⟨some 7, .bin .leq (.tmp 6) (.con (.int .i64 20)), (some (5, true))⟩,
    ⟨some 8, .pick (.tmp 5) (.tmp 7) (.con (.bool false)), none⟩,
    ⟨some 2, .mov (.tmp 8), none⟩])
  (.ret)),
  [.tmp 2]⟩
theorem is_call_known : IsFn Tryz.prog 35 c_call_known := isFn_of [([], []), ([], []), ([], [])] (by kernel_rfl)

/-- slices.ContainsFunc[[]regency/call.part,regency/call.part] -/
def c_slices_ContainsFunc_call_part_call_part : CFn := ⟨9, .seq (.region [⟨some 4, .mov (.con (.bool false)), none⟩])
  (.seq (.region [⟨some 5, .take (.tmp 0), none⟩,
    ⟨some 6, .mov (.tmp 1), none⟩,
    ⟨some 7, .call 65 [(.tmp 5), (.tmp 6)], none⟩,
    ⟨some 8, .bin .geq (.tmp 7) (.con (.int .i64 0)), none⟩,
    ⟨some 4, .mov (.tmp 8), none⟩])
  (.ret)),
  [.tmp 4]⟩
theorem is_slices_ContainsFunc_call_part_call_part : IsFn Tryz.prog 36 c_slices_ContainsFunc_call_part_call_part := isFn_of [([], []), ([], [0]), ([], [])] (by kernel_rfl)

/-- regency/call.parts -/
def c_call_parts : CFn := ⟨47, .seq (.region [⟨some 2, .take (.con (.sl .ex [])), none⟩])
  (.seq (.seq (.region [⟨some 3, .mov (.tmp 0), none⟩])
  (.block 0 (.seq (.region [⟨some 5, .bin .eql (.tmp 3) (.con (.int .i64 2)), none⟩,
    ⟨some 4, .mov (.tmp 5), none⟩])
  (.cond (.tmp 4) (.seq (.region [⟨some 6, .bslice 1 false [(.con (.int .i64 0)), (.con (.int .i64 1)), (.con (.int .i64 2)), (.con (.int .i64 3))], none⟩,
    ⟨some 2, .take (.tmp 6), none⟩])
  (.ret)) (.seq (.seq (.region [⟨some 8, .bin .eql (.tmp 3) (.con (.int .i64 3)), none⟩,
    ⟨some 7, .mov (.tmp 8), none⟩])
  (.cond (.tmp 7) (.skip) (.region [⟨some 9, .bin .eql (.tmp 3) (.con (.int .i64 6)), none⟩,
    ⟨some 7, .mov (.tmp 9), none⟩])))
  (.cond (.tmp 7) (.seq (.region [⟨some 10, .bslice 1 false [(.con (.int .i64 0)), (.con (.int .i64 1)), (.con (.int .i64 2))], none⟩,
    ⟨some 2, .take (.tmp 10), none⟩])
  (.ret)) (.seq (.region [⟨some 12, .bin .eql (.tmp 3) (.con (.int .i64 4)), none⟩,
    ⟨some 11, .mov (.tmp 12), none⟩])
  (.cond (.tmp 11) (.seq (.region [⟨some 13, .bslice 1 false [(.con (.int .i64 0)), (.con (.int .i64 1)), (.con (.int .i64 2)), (.con (.int .i64 5))], none⟩,
    ⟨some 2, .take (.tmp 13), none⟩])
  (.ret)) (.seq (.region [⟨some 15, .bin .eql (.tmp 3) (.con (.int .i64 5)), none⟩,
    ⟨some 14, .mov (.tmp 15), none⟩])
  (.cond (.tmp 14) (.seq (.region [⟨some 16, .bslice 1 false [(.con (.int .i64 0)), (.con (.int .i64 1)), (.con (.int .i64 2)), (.con (.int .i64 4)), (.con (.int .i64 5)), (.con (.int .i64 3))], none⟩,
    ⟨some 2, .take (.tmp 16), none⟩])
  (.ret)) (.seq (.seq (.region [⟨some 18, .bin .eql (.tmp 3) (.con (.int .i64 7)), none⟩,
    ⟨some 17, .mov (.tmp 18), none⟩])
  (.cond (.tmp 17) (.skip) (.region [⟨some 19, .bin .eql (.tmp 3) (.con (.int .i64 19)), none⟩,
    ⟨some 17, .mov (.tmp 19), none⟩])))
  (.cond (.tmp 17) (.seq (.region [⟨some 20, .bslice 1 false [(.con (.int .i64 0)), (.con (.int .i64 2)), (.con (.int .i64 3))], none⟩,
    ⟨some 2, .take (.tmp 20), none⟩])
  (.ret)) (.seq (.seq (.region [⟨some 22, .bin .eql (.tmp 3) (.con (.int .i64 8)), none⟩,
    ⟨some 21, .mov (.tmp 22), none⟩])
  (.cond (.tmp 21) (.skip) (.region [⟨some 23, .bin .eql (.tmp 3) (.con (.int .i64 20)), none⟩,
    ⟨some 21, .mov (.tmp 23), none⟩])))
  (.cond (.tmp 21) (.seq (.region [⟨some 24, .bslice 1 false [(.con (.int .i64 0)), (.con (.int .i64 2)), (.con (.int .i64 6))], none⟩,
    ⟨some 2, .take (.tmp 24), none⟩])
  (.ret)) (.seq (.seq (.region [⟨some 26, .bin .eql (.tmp 3) (.con (.int .i64 9)), none⟩,
    ⟨some 25, .mov (.tmp 26), none⟩])
  (.cond (.tmp 25) (.skip) (.region [⟨some 27, .bin .eql (.tmp 3) (.con (.int .i64 18)), none⟩,
    ⟨some 25, .mov (.tmp 27), none⟩])))
  (.cond (.tmp 25) (.seq (.region [⟨some 28, .bslice 1 false [(.con (.int .i64 0)), (.con (.int .i64 2))], none⟩,
    ⟨some 2, .take (.tmp 28), none⟩])
  (.ret)) (.seq (.seq (.region [⟨some 30, .bin .eql (.tmp 3) (.con (.int .i64 10)), none⟩,
    ⟨some 29, .mov (.tmp 30), none⟩])
  (.cond (.tmp 29) (.skip) (.seq (.region [⟨some 31, .bin .eql (.tmp 3) (.con (.int .i64 11)), none⟩,
    ⟨some 29, .mov (.tmp 31), none⟩])
  (.cond (.tmp 29) (.skip) (.seq (.region [⟨some 32, .bin .eql (.tmp 3) (.con (.int .i64 12)), none⟩,
    ⟨some 29, .mov (.tmp 32), none⟩])
  (.cond (.tmp 29) (.skip) (.region [⟨some 33, .bin .eql (.tmp 3) (.con (.int .i64 15)), none⟩,
    ⟨some 29, .mov (.tmp 33), none⟩])))))))
  (.cond (.tmp 29) (.seq (.region [⟨some 34, .bslice 1 false [(.con (.int .i64 0))], none⟩,
    ⟨some 2, .take (.tmp 34), none⟩])
  (.ret)) (.seq (.region [⟨some 36, .bin .eql (.tmp 3) (.con (.int .i64 13)), none⟩,
    ⟨some 35, .mov (.tmp 36), none⟩])
  (.cond (.tmp 35) (.seq (.region [⟨some 37, .bslice 1 false [(.con (.int .i64 0)), (.con (.int .i64 10))], none⟩,
    ⟨some 2, .take (.tmp 37), none⟩])
  (.ret)) (.seq (.region [⟨some 39, .bin .eql (.tmp 3) (.con (.int .i64 14)), none⟩,
    ⟨some 38, .mov (.tmp 39), none⟩])
  (.cond (.tmp 38) (.seq (.region [⟨some 40, .bslice 1 false [(.con (.int .i64 1))], none⟩,
    ⟨some 2, .take (.tmp 40), none⟩])
  (.ret)) (.seq (.region [⟨some 42, .bin .eql (.tmp 3) (.con (.int .i64 16)), none⟩,
    ⟨some 41, .mov (.tmp 42), none⟩])
  (.cond (.tmp 41) (.seq (.region [⟨some 43, .bslice 1 false [(.con (.int .i64 7))], none⟩,
    ⟨some 2, .take (.tmp 43), none⟩])
  (.ret)) (.seq (.region [⟨some 45, .bin .eql (.tmp 3) (.con (.int .i64 17)), none⟩,
    ⟨some 44, .mov (.tmp 45), none⟩])
  (.cond (.tmp 44) (.seq (.region [⟨some 46, .bslice 1 false [(.con (.int .i64 0)), (.con (.int .i64 2)), (.con (.int .i64 8)), (.con (.int .i64 9))], none⟩,
    ⟨some 2, .take (.tmp 46), none⟩])
  (.ret)) (.skip)))))))))))))))))))))))))))
  (.seq (.region [⟨some 2, .take (.con (.sl .ex [])), none⟩])
  (.ret))),
  [.tmp 2]⟩
theorem is_call_parts : IsFn Tryz.prog 37 c_call_parts := isFn_of [([], [0]), ([], []), ([], []), ([], [1]), ([], []), ([], []), ([], []), ([], [1]), ([], []), ([], []), ([], [1]), ([], []), ([], []), ([], [1]), ([], []), ([], []), ([], []), ([], [1]), ([], []), ([], []), ([], []), ([], [1]), ([], []), ([], []), ([], []), ([], [1]), ([], []), ([], []), ([], []), ([], []), ([], []), ([], [1]), ([], []), ([], []), ([], [1]), ([], []), ([], []), ([], [1]), ([], []), ([], []), ([], [1]), ([], []), ([], []), ([], [1]), ([], []), ([], [0]), ([], [])] (by kernel_rfl)

/-- regency/call.Right$1 -/
def c_call_Right_1 : CFn := ⟨8, .seq (.region [⟨some 3, .mov (.con (.bool false)), none⟩])
  (.seq (.region [⟨some 4, .mov (.tmp 0), none⟩,
    ⟨some 5, .load (some 11) (.tmp 1), none⟩,
    ⟨some 6, .pcall 39 [(.tmp 4), (.tmp 5)], none⟩,
    ⟨some 7, .un .not (.tmp 6), none⟩,
    ⟨some 3, .mov (.tmp 7), none⟩])
  (.ret)),
  [.tmp 3]⟩
theorem is_call_Right_1 : IsFn Tryz.prog 38 c_call_Right_1 := isFn_of [([], []), ([], [2]), ([], [])] (by kernel_rfl)

/-- (regency/call.part).right -/
def c_call_part_right : CFn := ⟨62, .seq (.region [⟨some 3, .box (.tmp 1), none⟩,
    ⟨some 4, .mov (.con (.bool false)), none⟩])
  (.seq (.seq (.region [⟨some 5, .mov (.tmp 0), none⟩])
  (.block 0 (.seq (.region [⟨some 7, .bin .eql (.tmp 5) (.con (.int .i64 0)), none⟩,
    ⟨some 6, .mov (.tmp 7), none⟩])
  (.cond (.tmp 6) (.seq (.region [⟨some 8, .faddr 1 (.tmp 3), none⟩,
    ⟨some 9, .load none (.tmp 8), none⟩,
    ⟨some 10, .pcall 66 [(.tmp 9)], none⟩,
    ⟨some 4, .mov (.tmp 10), none⟩])
  (.ret)) (.seq (.region [⟨some 12, .bin .eql (.tmp 5) (.con (.int .i64 1)), none⟩,
    ⟨some 11, .mov (.tmp 12), none⟩])
  (.cond (.tmp 11) (.seq (.region [⟨some 13, .faddr 2 (.tmp 3), none⟩,
    ⟨some 14, .load none (.tmp 13), none⟩,
    ⟨some 15, .pcall 67 [(.tmp 14)], none⟩,
    ⟨some 4, .mov (.tmp 15), none⟩])
  (.ret)) (.seq (.region [⟨some 17, .bin .eql (.tmp 5) (.con (.int .i64 2)), none⟩,
    ⟨some 16, .mov (.tmp 17), none⟩])
  (.cond (.tmp 16) (.seq (.region [⟨some 18, .faddr 5 (.tmp 3), none⟩,
    ⟨some 19, .load none (.tmp 18), none⟩,
    ⟨some 20, .pcall 68 [(.tmp 19)], none⟩,
    ⟨some 4, .mov (.tmp 20), none⟩])
  (.ret)) (.seq (.region [⟨some 22, .bin .eql (.tmp 5) (.con (.int .i64 3)), none⟩,
    ⟨some 21, .mov (.tmp 22), none⟩])
  (.cond (.tmp 21) (.seq (.region [⟨some 23, .faddr 6 (.tmp 3), none⟩,
    ⟨some 24, .load none (.tmp 23), none⟩,
    ⟨some 25, .pcall 68 [(.tmp 24)], none⟩,
    ⟨some 4, .mov (.tmp 25), none⟩])
  (.ret)) (.seq (.region [⟨some 27, .bin .eql (.tmp 5) (.con (.int .i64 4)), none⟩,
    ⟨some 26, .mov (.tmp 27), none⟩])
  (.cond (.tmp 26) (.seq (.region [⟨some 28, .faddr 3 (.tmp 3), none⟩,
    ⟨some 29, .load none (.tmp 28), none⟩,
    ⟨some 30, .pcall 67 [(.tmp 29)], none⟩,
    ⟨some 4, .mov (.tmp 30), none⟩])
  (.ret)) (.seq (.region [⟨some 32, .bin .eql (.tmp 5) (.con (.int .i64 5)), none⟩,
    ⟨some 31, .mov (.tmp 32), none⟩])
  (.cond (.tmp 31) (.seq (.region [⟨some 33, .faddr 4 (.tmp 3), none⟩,
    ⟨some 34, .load none (.tmp 33), none⟩,
    ⟨some 35, .pcall 69 [(.tmp 34)], none⟩,
    ⟨some 4, .mov (.tmp 35), none⟩])
  (.ret)) (.seq (.region [⟨some 37, .bin .eql (.tmp 5) (.con (.int .i64 6)), none⟩,
    ⟨some 36, .mov (.tmp 37), none⟩])
  (.cond (.tmp 36) (.seq (.region [⟨some 38, .faddr 7 (.tmp 3), none⟩,
    ⟨some 39, .load none (.tmp 38), none⟩,
    ⟨some 40, .lenl (.tmp 39), none⟩,
    ⟨some 41, .bin .leq (.tmp 40) (.con (.int .i64 256)), none⟩,
    ⟨some 4, .mov (.tmp 41), none⟩])
  (.ret)) (.seq (.region [⟨some 43, .bin .eql (.tmp 5) (.con (.int .i64 7)), none⟩,
    ⟨some 42, .mov (.tmp 43), none⟩])
  (.cond (.tmp 42) (.seq (.region [⟨some 44, .faddr 8 (.tmp 3), none⟩,
    ⟨some 45, .load none (.tmp 44), none⟩,
    ⟨some 46, .pcall 70 [(.tmp 45)], none⟩,
    ⟨some 4, .mov (.tmp 46), none⟩])
  (.ret)) (.seq (.region [⟨some 48, .bin .eql (.tmp 5) (.con (.int .i64 8)), none⟩,
    ⟨some 47, .mov (.tmp 48), none⟩])
  (.cond (.tmp 47) (.seq (.region [⟨some 49, .faddr 9 (.tmp 3), none⟩,
    ⟨some 50, .load none (.tmp 49), none⟩,
    ⟨some 51, .pcall 66 [(.tmp 50)], none⟩,
    ⟨some 4, .mov (.tmp 51), none⟩])
  (.ret)) (.seq (.region [⟨some 53, .bin .eql (.tmp 5) (.con (.int .i64 10)), none⟩,
    ⟨some 52, .mov (.tmp 53), none⟩])
  (.cond (.tmp 52) (.seq (.region [⟨some 54, .faddr 5 (.tmp 3), none⟩,
    ⟨some 55, .load none (.tmp 54), none⟩,
    ⟨some 56, .bin .geq (.tmp 55) (.con (.int .i64 (-1048576))), none⟩,
    ⟨some 57, .mov (.tmp 56), none⟩,
    ⟨some 58, .faddr 5 (.tmp 3), (some (57, true))⟩,
    ⟨some 59, .load none (.tmp 58), (some (57, true))⟩,
    ⟨some 60, .bin .leq (.tmp 59) (.con (.int .i64 1048576)), (some (57, true))⟩,
    ⟨some 61, .pick (.tmp 57) (.tmp 60) (.con (.bool false)), none⟩,
    ⟨some 4, .mov (.tmp 61), none⟩])
  (.ret)) (.skip)))))))))))))))))))))))
  (.seq (.region [⟨some 4, .mov (.con (.bool true)), none⟩])
  (.ret))),
  [.tmp 4]⟩
theorem is_call_part_right : IsFn Tryz.prog 39 c_call_part_right := isFn_of [([], []), ([], []), ([], []), ([], [2]), ([], []), ([], []), ([], [2]), ([], []), ([], []), ([], [2]), ([], []), ([], []), ([], [2]), ([], []), ([], []), ([], [2]), ([], []), ([], []), ([], [2]), ([], []), ([], []), ([], []), ([], []), ([], []), ([], [2]), ([], []), ([], []), ([], [2]), ([], []), ([], []), ([], []), ([], []), ([], []), ([], [])] (by kernel_rfl)

abbrev s_tape_Pen_Number_0 (v0 v1 : AV) : List AV := [v0, v1, undefA, undefA, .any, .any, .any, .any, .any, .any, .any, .any, .any, .any, .any, .any, .any, .any, .any, .any, .any, .any, .any, .any, .any, .any, .any, .any, .any, .any, .any, .any, undefA, undefA, undefA, undefA, undefA, undefA, undefA, undefA, undefA, undefA, undefA]
abbrev x_tape_Pen_Number_0 (v0 v1 : AV) : List AV := [v0, v1, undefA, undefA, .any, .any, .any, .any, .any, .any, .any, .any, .any, .any, .any, .any, .any, .any, .any, .any, .any, .any, .any, .any, .any, .any, .any, .any, .any, .any, .any, .any, undefA, undefA, undefA, undefA, undefA, undefA, undefA, undefA, undefA, undefA, undefA]
abbrev l_tape_Pen_Number_0 : CC := .kill [4, 5, 6, 7, 8, 9, 10, 11, 12, 13, 14, 15, 16, 17, 18, 19, 20, 21, 22, 23, 24, 25, 26, 27, 28, 29, 30, 31] (.seq (.seq (.region [⟨some 15, .mov (.tmp 1), none⟩,
    ⟨some 16, .bin .geq (.tmp 15) (.con (.int .i64 128)), none⟩])
  (.cond (.tmp 16) (.skip) (.kill [15, 16] (.exit 0))))
  (.block 1 (.seq (.region [⟨some 17, .mov (.tmp 0), none⟩,
    ⟨some 18, .mov (.tmp 0), none⟩,
    ⟨some 19, .nilck (.tmp 18), none⟩,
    ⟨some 20, .faddr 0 (.tmp 19), none⟩,
    ⟨some 21, .ltake (.tmp 20), none⟩,
    ⟨some 22, .mov (.tmp 1), none⟩,
    ⟨some 23, .bin .rem (.tmp 22) (.con (.int .i64 128)), none⟩,
    ⟨some 24, .bin .add (.tmp 23) (.con (.int .i64 128)), none⟩,
    ⟨some 25, .cInt .u8 (.tmp 24), none⟩,
    ⟨some 26, .bslice 1 false [(.tmp 25)], none⟩,
    ⟨some 27, .append 1 1 false (.tmp 21) (.tmp 26), none⟩,
    ⟨some 28, .nilck (.tmp 17), none⟩,
    ⟨some 29, .faddr 0 (.tmp 28), none⟩,
    ⟨none, .store 1 (.tmp 29) (.tmp 27), none⟩])
  (.region [⟨some 30, .mov (.tmp 1), none⟩,
    ⟨some 31, .bin .quo (.tmp 30) (.con (.int .i64 128)), none⟩,
    ⟨some 1, .mov (.tmp 31), none⟩]))))
/-- (*regency/tape.Pen).Number -/
def c_tape_Pen_Number : CFn := ⟨43, .seq (.region [⟨some 4, .mov (.con (.bool false)), none⟩])
  (.seq (.seq (.region [⟨some 5, .mov (.tmp 0), none⟩,
    ⟨some 6, .isnil .ptr false (.tmp 5), none⟩,
    ⟨some 7, .mov (.tmp 6), none⟩,
    ⟨some 8, .mov (.tmp 1), (some (7, false))⟩,
    ⟨some 9, .bin .lss (.tmp 8) (.con (.int .i64 0)), (some (7, false))⟩,
    ⟨some 10, .pick (.tmp 7) (.con (.bool true)) (.tmp 9), none⟩,
    ⟨some 11, .mov (.tmp 10), none⟩,
    ⟨some 12, .mov (.tmp 1), (some (11, false))⟩,
    ⟨some 13, .bin .gtr (.tmp 12) (.con (.int .i64 4611686018427387903)), (some (11, false))⟩,
    ⟨some 14, .pick (.tmp 11) (.con (.bool true)) (.tmp 13), none⟩])
  (.cond (.tmp 14) (.seq (.region [⟨some 4, .mov (.con (.bool false)), none⟩])
  (.ret)) (.skip)))
  (.seq (.block 0 (.kill [4, 5, 6, 7, 8, 9, 10, 11, 12, 13, 14, 15, 16, 17, 18, 19, 20, 21, 22, 23, 24, 25, 26, 27, 28, 29, 30, 31] (.loop l_tape_Pen_Number_0)))
  (.seq (.region [⟨some 32, .mov (.tmp 0), none⟩,
    ⟨some 33, .mov (.tmp 0), none⟩,
    ⟨some 34, .nilck (.tmp 33), none⟩,
    ⟨some 35, .faddr 0 (.tmp 34), none⟩,
    ⟨some 36, .ltake (.tmp 35), none⟩,
    ⟨some 37, .mov (.tmp 1), none⟩,
    ⟨some 38, .cInt .u8 (.tmp 37), none⟩,
    ⟨some 39, .bslice 1 false [(.tmp 38)], none⟩,
    ⟨some 40, .append 1 1 false (.tmp 36) (.tmp 39), none⟩,
    ⟨some 41, .nilck (.tmp 32), none⟩,
    ⟨some 42, .faddr 0 (.tmp 41), none⟩,
    ⟨none, .store 1 (.tmp 42) (.tmp 40), none⟩])
  (.seq (.region [⟨some 4, .mov (.con (.bool true)), none⟩])
  (.ret))))),
  [.tmp 4]⟩
theorem is_tape_Pen_Number : IsFn Tryz.prog 40 c_tape_Pen_Number := isFn_of [([], []), ([], []), ([], []), ([], []), ([4, 5, 6, 7, 8, 9, 10, 11, 12, 13, 14, 15, 16, 17, 18, 19, 20, 21, 22, 23, 24, 25, 26, 27, 28, 29, 30, 31], []), ([], []), ([15, 16], []), ([], [4]), ([], []), ([], [4]), ([], []), ([], [])] (by kernel_rfl)

/-- (regency/call.part).put -/
def c_call_part_put : CFn := ⟨75, .seq (.region [⟨some 5, .box (.tmp 2), none⟩])
  (.seq (.region [⟨some 6, .mov (.tmp 0), none⟩])
  (.block 0 (.seq (.region [⟨some 8, .bin .eql (.tmp 6) (.con (.int .i64 0)), none⟩,
    ⟨some 7, .mov (.tmp 8), none⟩])
  (.cond (.tmp 7) (.region [⟨some 9, .mov (.tmp 1), none⟩,
    ⟨some 10, .faddr 1 (.tmp 5), none⟩,
    ⟨some 11, .load none (.tmp 10), none⟩,
    ⟨some 12, .call 71 [(.tmp 9), (.tmp 11)], none⟩]) (.seq (.region [⟨some 14, .bin .eql (.tmp 6) (.con (.int .i64 1)), none⟩,
    ⟨some 13, .mov (.tmp 14), none⟩])
  (.cond (.tmp 13) (.region [⟨some 15, .mov (.tmp 1), none⟩,
    ⟨some 16, .faddr 2 (.tmp 5), none⟩,
    ⟨some 17, .load none (.tmp 16), none⟩,
    ⟨some 18, .call 72 [(.tmp 15), (.tmp 17)], none⟩]) (.seq (.region [⟨some 20, .bin .eql (.tmp 6) (.con (.int .i64 2)), none⟩,
    ⟨some 19, .mov (.tmp 20), none⟩])
  (.cond (.tmp 19) (.region [⟨some 21, .mov (.tmp 1), none⟩,
    ⟨some 22, .faddr 5 (.tmp 5), none⟩,
    ⟨some 23, .load none (.tmp 22), none⟩,
    ⟨some 24, .call 40 [(.tmp 21), (.tmp 23)], none⟩]) (.seq (.region [⟨some 26, .bin .eql (.tmp 6) (.con (.int .i64 3)), none⟩,
    ⟨some 25, .mov (.tmp 26), none⟩])
  (.cond (.tmp 25) (.region [⟨some 27, .mov (.tmp 1), none⟩,
    ⟨some 28, .faddr 6 (.tmp 5), none⟩,
    ⟨some 29, .load none (.tmp 28), none⟩,
    ⟨some 30, .call 40 [(.tmp 27), (.tmp 29)], none⟩]) (.seq (.region [⟨some 32, .bin .eql (.tmp 6) (.con (.int .i64 4)), none⟩,
    ⟨some 31, .mov (.tmp 32), none⟩])
  (.cond (.tmp 31) (.region [⟨some 33, .mov (.tmp 1), none⟩,
    ⟨some 34, .faddr 3 (.tmp 5), none⟩,
    ⟨some 35, .load none (.tmp 34), none⟩,
    ⟨some 36, .call 72 [(.tmp 33), (.tmp 35)], none⟩]) (.seq (.region [⟨some 38, .bin .eql (.tmp 6) (.con (.int .i64 5)), none⟩,
    ⟨some 37, .mov (.tmp 38), none⟩])
  (.cond (.tmp 37) (.region [⟨some 39, .mov (.tmp 1), none⟩,
    ⟨some 40, .faddr 4 (.tmp 5), none⟩,
    ⟨some 41, .load none (.tmp 40), none⟩,
    ⟨some 42, .call 73 [(.tmp 39), (.tmp 41)], none⟩]) (.seq (.region [⟨some 44, .bin .eql (.tmp 6) (.con (.int .i64 6)), none⟩,
    ⟨some 43, .mov (.tmp 44), none⟩])
  (.cond (.tmp 43) (.region [⟨some 45, .mov (.tmp 1), none⟩,
    ⟨some 46, .faddr 7 (.tmp 5), none⟩,
    ⟨some 47, .load none (.tmp 46), none⟩,
    ⟨some 48, .cBytesStr (.tmp 47), none⟩,
    ⟨some 49, .call 74 [(.tmp 45), (.tmp 48)], none⟩]) (.seq (.region [⟨some 51, .bin .eql (.tmp 6) (.con (.int .i64 7)), none⟩,
    ⟨some 50, .mov (.tmp 51), none⟩])
  (.cond (.tmp 50) (.region [⟨some 52, .mov (.tmp 1), none⟩,
    ⟨some 53, .faddr 8 (.tmp 5), none⟩,
    ⟨some 54, .load none (.tmp 53), none⟩,
    ⟨some 55, .call 74 [(.tmp 52), (.tmp 54)], none⟩]) (.seq (.region [⟨some 57, .bin .eql (.tmp 6) (.con (.int .i64 8)), none⟩,
    ⟨some 56, .mov (.tmp 57), none⟩])
  (.cond (.tmp 56) (.region [⟨some 58, .mov (.tmp 1), none⟩,
    ⟨some 59, .faddr 9 (.tmp 5), none⟩,
    ⟨some 60, .load none (.tmp 59), none⟩,
    ⟨some 61, .call 71 [(.tmp 58), (.tmp 60)], none⟩]) (.seq (.region [⟨some 63, .bin .eql (.tmp 6) (.con (.int .i64 9)), none⟩,
    ⟨some 62, .mov (.tmp 63), none⟩])
  (.cond (.tmp 62) (.region [⟨some 64, .mov (.tmp 1), none⟩,
    ⟨some 65, .faddr 10 (.tmp 5), none⟩,
    ⟨some 66, .load none (.tmp 65), none⟩,
    ⟨some 67, .call 75 [(.tmp 64), (.tmp 66)], none⟩]) (.seq (.region [⟨some 69, .bin .eql (.tmp 6) (.con (.int .i64 10)), none⟩,
    ⟨some 68, .mov (.tmp 69), none⟩])
  (.cond (.tmp 68) (.region [⟨some 70, .mov (.tmp 1), none⟩,
    ⟨some 71, .faddr 5 (.tmp 5), none⟩,
    ⟨some 72, .load none (.tmp 71), none⟩,
    ⟨some 73, .bin .add (.tmp 72) (.con (.int .i64 1048576)), none⟩,
    ⟨some 74, .call 40 [(.tmp 70), (.tmp 73)], none⟩]) (.skip))))))))))))))))))))))))),
  []⟩
theorem is_call_part_put : IsFn Tryz.prog 41 c_call_part_put := isFn_of [([], []), ([], []), ([], []), ([], []), ([], []), ([], []), ([], []), ([], []), ([], []), ([], []), ([], []), ([], []), ([], []), ([], []), ([], []), ([], []), ([], []), ([], []), ([], []), ([], []), ([], []), ([], []), ([], []), ([], [])] (by kernel_rfl)

/-- slices.Clone[[]byte,byte] -/
def p_slices_Clone_byte_byte := cloneP 1 1
theorem ok_slices_Clone_byte_byte : OkDef Tryz.prog 42 (.prim p_slices_Clone_byte_byte) := clone_ok (hs0 := [([], [0])]) (hs2 := [([], [0])]) (hs4 := [([], [1, 3])]) (hs1 := []) (hs3 := []) (hs5 := []) Tryz.func42 rfl rfl (by kernel_rfl) rfl rfl rfl rfl rfl rfl rfl Tryz.underlying26 (by kernel_rfl) (by kernel_rfl) (by kernel_rfl)

/-- slices.Clone[[]int,int] -/
def p_slices_Clone_int_int := cloneP 1 8
theorem ok_slices_Clone_int_int : OkDef Tryz.prog 46 (.prim p_slices_Clone_int_int) := clone_ok (hs0 := [([], [0])]) (hs2 := [([], [0])]) (hs4 := [([], [1, 3])]) (hs1 := []) (hs3 := []) (hs5 := []) Tryz.func46 rfl rfl (by kernel_rfl) rfl rfl rfl rfl rfl rfl rfl Tryz.underlying22 (by kernel_rfl) (by kernel_rfl) (by kernel_rfl)

/-- slices.Clone[regency/api.Label,regency/api.Entry] -/
def p_slices_Clone_api_Label_api_Entry := cloneP 2 24
theorem ok_slices_Clone_api_Label_api_Entry : OkDef Tryz.prog 47 (.prim p_slices_Clone_api_Label_api_Entry) := clone_ok (hs0 := [([], [0])]) (hs2 := [([], [0])]) (hs4 := [([], [1, 3])]) (hs1 := []) (hs3 := []) (hs5 := []) Tryz.func47 rfl rfl (by kernel_rfl) rfl rfl rfl rfl rfl rfl rfl Tryz.underlying24 (by kernel_rfl) (by kernel_rfl) (by kernel_rfl)

/-- slices.Clone[[]string,string] -/
def p_slices_Clone_string_string := cloneP 1 16
theorem ok_slices_Clone_string_string : OkDef Tryz.prog 48 (.prim p_slices_Clone_string_string) := clone_ok (hs0 := [([], [0])]) (hs2 := [([], [0])]) (hs4 := [([], [1, 3])]) (hs1 := []) (hs3 := []) (hs5 := []) Tryz.func48 rfl rfl (by kernel_rfl) rfl rfl rfl rfl rfl rfl rfl Tryz.underlying25 (by kernel_rfl) (by kernel_rfl) (by kernel_rfl)

abbrev s_slices_Equal_int_int_0 (v0 v1 v12 v13 : AV) : List AV := [v0, v1, undefA, undefA, .any, .any, .any, .any, .any, .any, .any, .any, v12, v13, .any, .any, .any, .any, .any, .any, .any, .any, .any, .any, .any, .any]
abbrev x_slices_Equal_int_int_0  : List AV := [.any, .any, undefA, undefA, .any, .any, .any, .any, .any, .any, .any, .any, .any, .any, .any, .any, .any, .any, .any, .any, .any, .any, .any, .any, .any, .any]
abbrev l_slices_Equal_int_int_0 : CC := .kill [4, 5, 6, 7, 8, 9, 10, 11, 14, 15, 16, 17, 18, 19, 20, 21, 22, 23, 24, 25] (.seq (.region [⟨some 14, .bin .lss (.tmp 13) (.tmp 12), none⟩])
  (.seq (.cond (.tmp 14) (.skip) (.kill [0, 1, 12, 13, 14] (.exit 0)))
  (.seq (.block 1 (.seq (.region [⟨some 15, .mov (.tmp 13), none⟩,
    ⟨some 5, .mov (.tmp 15), none⟩])
  (.seq (.region [⟨some 16, .mov (.tmp 0), none⟩,
    ⟨some 17, .mov (.tmp 5), none⟩,
    ⟨some 18, .iaddr 1 none (.tmp 16) (.tmp 17), none⟩,
    ⟨some 19, .load none (.tmp 18), none⟩,
    ⟨some 20, .mov (.tmp 1), none⟩,
    ⟨some 21, .mov (.tmp 5), none⟩,
    ⟨some 22, .iaddr 1 none (.tmp 20) (.tmp 21), none⟩,
    ⟨some 23, .load none (.tmp 22), none⟩,
    ⟨some 24, .bin .neq (.tmp 19) (.tmp 23), none⟩])
  (.cond (.tmp 24) (.seq (.region [⟨some 4, .mov (.con (.bool false)), none⟩])
  (.ret)) (.skip)))))
  (.region [⟨some 25, .bin .add (.tmp 13) (.con (.int .i64 1)), none⟩,
    ⟨some 13, .mov (.tmp 25), none⟩]))))
/-- slices.Equal[[]int,int] -/
def c_slices_Equal_int_int : CFn := ⟨26, .seq (.region [⟨some 4, .mov (.con (.bool false)), none⟩])
  (.seq (.seq (.region [⟨some 6, .mov (.tmp 0), none⟩,
    ⟨some 7, .lenl (.tmp 6), none⟩,
    ⟨some 8, .mov (.tmp 1), none⟩,
    ⟨some 9, .lenl (.tmp 8), none⟩,
    ⟨some 10, .bin .neq (.tmp 7) (.tmp 9), none⟩])
  (.cond (.tmp 10) (.seq (.region [⟨some 4, .mov (.con (.bool false)), none⟩])
  (.ret)) (.skip)))
  (.seq (.seq (.region [⟨some 11, .mov (.tmp 0), none⟩,
    ⟨some 12, .lenl (.tmp 11), none⟩,
    ⟨some 13, .mov (.con (.int .i64 0)), none⟩])
  (.block 0 (.kill [4, 5, 6, 7, 8, 9, 10, 11, 14, 15, 16, 17, 18, 19, 20, 21, 22, 23, 24, 25] (.loop l_slices_Equal_int_int_0))))
  (.seq (.region [⟨some 4, .mov (.con (.bool true)), none⟩])
  (.ret)))),
  [.tmp 4]⟩
theorem is_slices_Equal_int_int : IsFn Tryz.prog 49 c_slices_Equal_int_int := isFn_of [([], []), ([], []), ([], []), ([], []), ([], []), ([4, 5, 6, 7, 8, 9, 10, 11, 14, 15, 16, 17, 18, 19, 20, 21, 22, 23, 24, 25], []), ([], []), ([0, 1, 12, 13, 14], []), ([], []), ([], []), ([], []), ([], []), ([], []), ([], []), ([], [])] (by kernel_rfl)

/-- regency/label.Same -/
def c_label_Same : CFn := ⟨8, .seq (.region [⟨some 4, .mov (.con (.bool false)), none⟩])
  (.seq (.region [⟨some 5, .take (.tmp 0), none⟩,
    ⟨some 6, .take (.tmp 1), none⟩,
    ⟨some 7, .pcall 76 [(.tmp 5), (.tmp 6)], none⟩,
    ⟨some 4, .mov (.tmp 7), none⟩])
  (.ret)),
  [.tmp 4]⟩
theorem is_label_Same : IsFn Tryz.prog 50 c_label_Same := isFn_of [([], []), ([], [0, 1, 2]), ([], [])] (by kernel_rfl)

abbrev s_slices_Equal_string_string_0 (v0 v1 v12 v13 : AV) : List AV := [v0, v1, undefA, undefA, .any, .any, .any, .any, .any, .any, .any, .any, v12, v13, .any, .any, .any, .any, .any, .any, .any, .any, .any, .any, .any, .any]
abbrev x_slices_Equal_string_string_0  : List AV := [.any, .any, undefA, undefA, .any, .any, .any, .any, .any, .any, .any, .any, .any, .any, .any, .any, .any, .any, .any, .any, .any, .any, .any, .any, .any, .any]
abbrev l_slices_Equal_string_string_0 : CC := .kill [4, 5, 6, 7, 8, 9, 10, 11, 14, 15, 16, 17, 18, 19, 20, 21, 22, 23, 24, 25] (.seq (.region [⟨some 14, .bin .lss (.tmp 13) (.tmp 12), none⟩])
  (.seq (.cond (.tmp 14) (.skip) (.kill [0, 1, 12, 13, 14] (.exit 0)))
  (.seq (.block 1 (.seq (.region [⟨some 15, .mov (.tmp 13), none⟩,
    ⟨some 5, .mov (.tmp 15), none⟩])
  (.seq (.region [⟨some 16, .mov (.tmp 0), none⟩,
    ⟨some 17, .mov (.tmp 5), none⟩,
    ⟨some 18, .iaddr 1 none (.tmp 16) (.tmp 17), none⟩,
    ⟨some 19, .load none (.tmp 18), none⟩,
    ⟨some 20, .mov (.tmp 1), none⟩,
    ⟨some 21, .mov (.tmp 5), none⟩,
    ⟨some 22, .iaddr 1 none (.tmp 20) (.tmp 21), none⟩,
    ⟨some 23, .load none (.tmp 22), none⟩,
    ⟨some 24, .bin .neq (.tmp 19) (.tmp 23), none⟩])
  (.cond (.tmp 24) (.seq (.region [⟨some 4, .mov (.con (.bool false)), none⟩])
  (.ret)) (.skip)))))
  (.region [⟨some 25, .bin .add (.tmp 13) (.con (.int .i64 1)), none⟩,
    ⟨some 13, .mov (.tmp 25), none⟩]))))
/-- slices.Equal[[]string,string] -/
def c_slices_Equal_string_string : CFn := ⟨26, .seq (.region [⟨some 4, .mov (.con (.bool false)), none⟩])
  (.seq (.seq (.region [⟨some 6, .mov (.tmp 0), none⟩,
    ⟨some 7, .lenl (.tmp 6), none⟩,
    ⟨some 8, .mov (.tmp 1), none⟩,
    ⟨some 9, .lenl (.tmp 8), none⟩,
    ⟨some 10, .bin .neq (.tmp 7) (.tmp 9), none⟩])
  (.cond (.tmp 10) (.seq (.region [⟨some 4, .mov (.con (.bool false)), none⟩])
  (.ret)) (.skip)))
  (.seq (.seq (.region [⟨some 11, .mov (.tmp 0), none⟩,
    ⟨some 12, .lenl (.tmp 11), none⟩,
    ⟨some 13, .mov (.con (.int .i64 0)), none⟩])
  (.block 0 (.kill [4, 5, 6, 7, 8, 9, 10, 11, 14, 15, 16, 17, 18, 19, 20, 21, 22, 23, 24, 25] (.loop l_slices_Equal_string_string_0))))
  (.seq (.region [⟨some 4, .mov (.con (.bool true)), none⟩])
  (.ret)))),
  [.tmp 4]⟩
theorem is_slices_Equal_string_string : IsFn Tryz.prog 51 c_slices_Equal_string_string := isFn_of [([], []), ([], []), ([], []), ([], []), ([], []), ([4, 5, 6, 7, 8, 9, 10, 11, 14, 15, 16, 17, 18, 19, 20, 21, 22, 23, 24, 25], []), ([], []), ([0, 1, 12, 13, 14], []), ([], []), ([], []), ([], []), ([], []), ([], []), ([], []), ([], [])] (by kernel_rfl)

/-- bytes.Equal -/
def c_bytes_Equal : CFn := ⟨10, .seq (.region [⟨some 4, .mov (.con (.bool false)), none⟩])
  (.seq (.region [⟨some 5, .take (.tmp 0), none⟩,
    ⟨some 6, .cBytesStr (.tmp 5), none⟩,
    ⟨some 7, .take (.tmp 1), none⟩,
    ⟨some 8, .cBytesStr (.tmp 7), none⟩,
    ⟨some 9, .bin .eql (.tmp 6) (.tmp 8), none⟩,
    ⟨some 4, .mov (.tmp 9), none⟩])
  (.ret)),
  [.tmp 4]⟩
theorem is_bytes_Equal : IsFn Tryz.prog 52 c_bytes_Equal := isFn_of [([], []), ([], [0, 2]), ([], [])] (by kernel_rfl)

/-- (*regency/tape.Tape).Left -/
def c_tape_Tape_Left : CFn := ⟨10, .seq (.region [⟨some 2, .mov (.con (.int .i64 0)), none⟩])
  (.seq (.seq (.region [⟨some 3, .mov (.tmp 0), none⟩,
    ⟨some 4, .isnil .ptr false (.tmp 3), none⟩])
  (.cond (.tmp 4) (.seq (.region [⟨some 2, .mov (.con (.int .i64 0)), none⟩])
  (.ret)) (.skip)))
  (.seq (.region [⟨some 5, .mov (.tmp 0), none⟩,
    ⟨some 6, .nilck (.tmp 5), none⟩,
    ⟨some 7, .faddr 0 (.tmp 6), none⟩,
    ⟨some 8, .load none (.tmp 7), none⟩,
    ⟨some 9, .lenl (.tmp 8), none⟩,
    ⟨some 2, .mov (.tmp 9), none⟩])
  (.ret))),
  [.tmp 2]⟩
theorem is_tape_Tape_Left : IsFn Tryz.prog 53 c_tape_Tape_Left := isFn_of [([], []), ([], []), ([], []), ([], []), ([], []), ([], [])] (by kernel_rfl)

/-- (*regency/tape.Tape).Number -/
def c_tape_Tape_Number : CFn := ⟨49, .seq (.region [⟨some 4, .mov (.con (.int .i64 0)), none⟩])
  (.seq (.seq (.region [⟨some 8, .mov (.tmp 0), none⟩,
    ⟨some 9, .isnil .ptr false (.tmp 8), none⟩,
    ⟨some 10, .mov (.tmp 9), none⟩,
    ⟨some 11, .mov (.tmp 0), (some (10, false))⟩,
    ⟨some 12, .nilck (.tmp 11), (some (10, false))⟩,
    ⟨some 13, .faddr 1 (.tmp 12), (some (10, false))⟩,
    ⟨some 14, .load none (.tmp 13), (some (10, false))⟩,
    ⟨some 15, .isnil .ifc true (.tmp 14), (some (10, false))⟩,
    ⟨some 16, .pick (.tmp 10) (.con (.bool true)) (.tmp 15), none⟩])
  (.cond (.tmp 16) (.seq (.region [⟨some 4, .mov (.con (.int .i64 0)), none⟩])
  (.ret)) (.skip)))
  (.seq (.region [⟨some 18, .mov (.tmp 0), none⟩,
    ⟨some 19, .call 77 [(.tmp 18)], none⟩,
    ⟨some 17, .mov (.tmp 19), none⟩,
    ⟨some 20, .extract 17 0, none⟩,
    ⟨some 21, .extract 17 1, none⟩,
    ⟨some 22, .extract 17 2, none⟩,
    ⟨some 5, .mov (.tmp 20), none⟩,
    ⟨some 6, .mov (.tmp 21), none⟩,
    ⟨some 7, .mov (.tmp 22), none⟩])
  (.seq (.block 0 (.seq (.region [⟨some 24, .mov (.tmp 7), none⟩,
    ⟨some 25, .bin .neq (.tmp 24) (.con (.int .i64 0)), none⟩,
    ⟨some 23, .mov (.tmp 25), none⟩])
  (.cond (.tmp 23) (.seq (.region [⟨some 26, .mov (.tmp 0), none⟩,
    ⟨some 27, .mov (.tmp 7), none⟩,
    ⟨some 28, .call 78 [(.tmp 26), (.tmp 27)], none⟩,
    ⟨some 4, .mov (.tmp 28), none⟩])
  (.ret)) (.seq (.region [⟨some 30, .mov (.tmp 5), none⟩,
    ⟨some 31, .bin .lss (.tmp 30) (.con (.int .i64 0)), none⟩,
    ⟨some 32, .mov (.tmp 31), none⟩,
    ⟨some 33, .mov (.tmp 5), (some (32, false))⟩,
    ⟨some 34, .mov (.tmp 1), (some (32, false))⟩,
    ⟨some 35, .bin .gtr (.tmp 33) (.tmp 34), (some (32, false))⟩,
    ⟨some 36, .pick (.tmp 32) (.con (.bool true)) (.tmp 35), none⟩,
    ⟨some 29, .mov (.tmp 36), none⟩])
  (.cond (.tmp 29) (.seq (.region [⟨some 37, .mov (.tmp 0), none⟩,
    ⟨some 38, .call 78 [(.tmp 37), (.con (.int .i64 13))], none⟩,
    ⟨some 4, .mov (.tmp 38), none⟩])
  (.ret)) (.skip))))))
  (.seq (.region [⟨some 39, .mov (.tmp 0), none⟩,
    ⟨some 40, .mov (.tmp 0), none⟩,
    ⟨some 41, .nilck (.tmp 40), none⟩,
    ⟨some 42, .faddr 0 (.tmp 41), none⟩,
    ⟨some 43, .load none (.tmp 42), none⟩,
    ⟨some 44, .mov (.tmp 6), none⟩,
    ⟨some 45, .slice (some 1) (.tmp 43) (some (.tmp 44)) none none, none⟩,
    ⟨some 46, .nilck (.tmp 39), none⟩,
    ⟨some 47, .faddr 0 (.tmp 46), none⟩,
    ⟨none, .store 1 (.tmp 47) (.tmp 45), none⟩])
  (.seq (.region [⟨some 48, .mov (.tmp 5), none⟩,
    ⟨some 4, .mov (.tmp 48), none⟩])
  (.ret)))))),
  [.tmp 4]⟩
theorem is_tape_Tape_Number : IsFn Tryz.prog 54 c_tape_Tape_Number := isFn_of [([], []), ([], []), ([], []), ([], []), ([], []), ([], []), ([], []), ([], []), ([], []), ([], []), ([], []), ([], []), ([], []), ([], [])] (by kernel_rfl)

/-- (regency/call.part).get -/
def c_call_part_get : CFn := ⟨101, .seq (.region [⟨some 6, .mov (.tmp 0), none⟩])
  (.block 0 (.seq (.region [⟨some 8, .bin .eql (.tmp 6) (.con (.int .i64 0)), none⟩,
    ⟨some 7, .mov (.tmp 8), none⟩])
  (.cond (.tmp 7) (.region [⟨some 10, .mov (.tmp 2), none⟩,
    ⟨some 11, .mov (.tmp 1), none⟩,
    ⟨some 12, .call 79 [(.tmp 11)], none⟩,
    ⟨some 9, .take (.tmp 12), none⟩,
    ⟨some 13, .extract 9 0, none⟩,
    ⟨some 14, .extract 9 1, none⟩,
    ⟨some 15, .nilck (.tmp 10), none⟩,
    ⟨some 16, .faddr 1 (.tmp 15), none⟩,
    ⟨none, .store 1 (.tmp 16) (.tmp 13), none⟩]) (.seq (.region [⟨some 18, .bin .eql (.tmp 6) (.con (.int .i64 1)), none⟩,
    ⟨some 17, .mov (.tmp 18), none⟩])
  (.cond (.tmp 17) (.region [⟨some 20, .mov (.tmp 2), none⟩,
    ⟨some 21, .mov (.tmp 1), none⟩,
    ⟨some 22, .call 80 [(.tmp 21)], none⟩,
    ⟨some 19, .take (.tmp 22), none⟩,
    ⟨some 23, .extract 19 0, none⟩,
    ⟨some 24, .extract 19 1, none⟩,
    ⟨some 25, .nilck (.tmp 20), none⟩,
    ⟨some 26, .faddr 2 (.tmp 25), none⟩,
    ⟨none, .store 1 (.tmp 26) (.tmp 23), none⟩]) (.seq (.region [⟨some 28, .bin .eql (.tmp 6) (.con (.int .i64 2)), none⟩,
    ⟨some 27, .mov (.tmp 28), none⟩])
  (.cond (.tmp 27) (.region [⟨some 29, .mov (.tmp 2), none⟩,
    ⟨some 30, .mov (.tmp 1), none⟩,
    ⟨some 31, .call 54 [(.tmp 30), (.con (.int .i64 1048576))], none⟩,
    ⟨some 32, .nilck (.tmp 29), none⟩,
    ⟨some 33, .faddr 5 (.tmp 32), none⟩,
    ⟨none, .store 1 (.tmp 33) (.tmp 31), none⟩]) (.seq (.region [⟨some 35, .bin .eql (.tmp 6) (.con (.int .i64 3)), none⟩,
    ⟨some 34, .mov (.tmp 35), none⟩])
  (.cond (.tmp 34) (.region [⟨some 36, .mov (.tmp 2), none⟩,
    ⟨some 37, .mov (.tmp 1), none⟩,
    ⟨some 38, .call 54 [(.tmp 37), (.con (.int .i64 1048576))], none⟩,
    ⟨some 39, .nilck (.tmp 36), none⟩,
    ⟨some 40, .faddr 6 (.tmp 39), none⟩,
    ⟨none, .store 1 (.tmp 40) (.tmp 38), none⟩]) (.seq (.region [⟨some 42, .bin .eql (.tmp 6) (.con (.int .i64 4)), none⟩,
    ⟨some 41, .mov (.tmp 42), none⟩])
  (.cond (.tmp 41) (.region [⟨some 44, .mov (.tmp 2), none⟩,
    ⟨some 45, .mov (.tmp 1), none⟩,
    ⟨some 46, .call 80 [(.tmp 45)], none⟩,
    ⟨some 43, .take (.tmp 46), none⟩,
    ⟨some 47, .extract 43 0, none⟩,
    ⟨some 48, .extract 43 1, none⟩,
    ⟨some 49, .nilck (.tmp 44), none⟩,
    ⟨some 50, .faddr 3 (.tmp 49), none⟩,
    ⟨none, .store 1 (.tmp 50) (.tmp 47), none⟩]) (.seq (.region [⟨some 52, .bin .eql (.tmp 6) (.con (.int .i64 5)), none⟩,
    ⟨some 51, .mov (.tmp 52), none⟩])
  (.cond (.tmp 51) (.region [⟨some 54, .mov (.tmp 2), none⟩,
    ⟨some 55, .mov (.tmp 1), none⟩,
    ⟨some 56, .call 81 [(.tmp 55)], none⟩,
    ⟨some 53, .take (.tmp 56), none⟩,
    ⟨some 57, .extract 53 0, none⟩,
    ⟨some 58, .extract 53 1, none⟩,
    ⟨some 59, .nilck (.tmp 54), none⟩,
    ⟨some 60, .faddr 4 (.tmp 59), none⟩,
    ⟨none, .store 1 (.tmp 60) (.tmp 57), none⟩]) (.seq (.region [⟨some 62, .bin .eql (.tmp 6) (.con (.int .i64 6)), none⟩,
    ⟨some 61, .mov (.tmp 62), none⟩])
  (.cond (.tmp 61) (.region [⟨some 63, .mov (.tmp 2), none⟩,
    ⟨some 64, .mov (.tmp 1), none⟩,
    ⟨some 65, .call 82 [(.tmp 64), (.con (.int .i64 256))], none⟩,
    ⟨some 66, .cStrBytes (.tmp 65), none⟩,
    ⟨some 67, .nilck (.tmp 63), none⟩,
    ⟨some 68, .faddr 7 (.tmp 67), none⟩,
    ⟨none, .store 1 (.tmp 68) (.tmp 66), none⟩]) (.seq (.region [⟨some 70, .bin .eql (.tmp 6) (.con (.int .i64 7)), none⟩,
    ⟨some 69, .mov (.tmp 70), none⟩])
  (.cond (.tmp 69) (.region [⟨some 71, .mov (.tmp 2), none⟩,
    ⟨some 72, .mov (.tmp 1), none⟩,
    ⟨some 73, .call 82 [(.tmp 72), (.con (.int .i64 80))], none⟩,
    ⟨some 74, .nilck (.tmp 71), none⟩,
    ⟨some 75, .faddr 8 (.tmp 74), none⟩,
    ⟨none, .store 1 (.tmp 75) (.tmp 73), none⟩]) (.seq (.region [⟨some 77, .bin .eql (.tmp 6) (.con (.int .i64 8)), none⟩,
    ⟨some 76, .mov (.tmp 77), none⟩])
  (.cond (.tmp 76) (.region [⟨some 79, .mov (.tmp 2), none⟩,
    ⟨some 80, .mov (.tmp 1), none⟩,
    ⟨some 81, .call 79 [(.tmp 80)], none⟩,
    ⟨some 78, .take (.tmp 81), none⟩,
    ⟨some 82, .extract 78 0, none⟩,
    ⟨some 83, .extract 78 1, none⟩,
    ⟨some 84, .nilck (.tmp 79), none⟩,
    ⟨some 85, .faddr 9 (.tmp 84), none⟩,
    ⟨none, .store 1 (.tmp 85) (.tmp 82), none⟩]) (.seq (.region [⟨some 87, .bin .eql (.tmp 6) (.con (.int .i64 9)), none⟩,
    ⟨some 86, .mov (.tmp 87), none⟩])
  (.cond (.tmp 86) (.region [⟨some 88, .mov (.tmp 2), none⟩,
    ⟨some 89, .mov (.tmp 1), none⟩,
    ⟨some 90, .call 83 [(.tmp 89)], none⟩,
    ⟨some 91, .nilck (.tmp 88), none⟩,
    ⟨some 92, .faddr 10 (.tmp 91), none⟩,
    ⟨none, .store 1 (.tmp 92) (.tmp 90), none⟩]) (.seq (.region [⟨some 94, .bin .eql (.tmp 6) (.con (.int .i64 10)), none⟩,
    ⟨some 93, .mov (.tmp 94), none⟩])
  (.cond (.tmp 93) (.region [⟨some 95, .mov (.tmp 2), none⟩,
    ⟨some 96, .mov (.tmp 1), none⟩,
    ⟨some 97, .call 54 [(.tmp 96), (.con (.int .i64 2097152))], none⟩,
    ⟨some 98, .bin .sub (.tmp 97) (.con (.int .i64 1048576)), none⟩,
    ⟨some 99, .nilck (.tmp 95), none⟩,
    ⟨some 100, .faddr 5 (.tmp 99), none⟩,
    ⟨none, .store 1 (.tmp 100) (.tmp 98), none⟩]) (.skip)))))))))))))))))))))))),
  []⟩
theorem is_call_part_get : IsFn Tryz.prog 55 c_call_part_get := isFn_of [([], []), ([], []), ([], [3]), ([], []), ([], [3]), ([], []), ([], []), ([], []), ([], []), ([], []), ([], [3]), ([], []), ([], [3]), ([], []), ([], []), ([], []), ([], []), ([], []), ([], [3]), ([], []), ([], []), ([], []), ([], [])] (by kernel_rfl)

/-- (*regency/tape.Tape).Err -/
def c_tape_Tape_Err : CFn := ⟨10, .seq (.region [⟨some 2, .mov (.con (.nili)), none⟩])
  (.seq (.seq (.region [⟨some 3, .mov (.tmp 0), none⟩,
    ⟨some 4, .isnil .ptr false (.tmp 3), none⟩])
  (.cond (.tmp 4) (.seq (.region [⟨some 5, .call 84 [(.con (.str ⟨#[116, 97, 112, 101]⟩)), (.con (.int .i64 1))], none⟩,
    ⟨some 2, .mov (.tmp 5), none⟩])
  (.ret)) (.skip)))
  (.seq (.region [⟨some 6, .mov (.tmp 0), none⟩,
    ⟨some 7, .nilck (.tmp 6), none⟩,
    ⟨some 8, .faddr 1 (.tmp 7), none⟩,
    ⟨some 9, .load none (.tmp 8), none⟩,
    ⟨some 2, .mov (.tmp 9), none⟩])
  (.ret))),
  [.tmp 2]⟩
theorem is_tape_Tape_Err : IsFn Tryz.prog 56 c_tape_Tape_Err := isFn_of [([], []), ([], []), ([], []), ([], []), ([], []), ([], [])] (by kernel_rfl)

/-- (*regency/tape.Tape).End -/
def c_tape_Tape_End : CFn := ⟨16, .seq (.region [⟨some 2, .mov (.con (.nili)), none⟩])
  (.seq (.seq (.region [⟨some 4, .mov (.tmp 0), none⟩,
    ⟨some 5, .call 56 [(.tmp 4)], none⟩,
    ⟨some 3, .mov (.tmp 5), none⟩])
  (.seq (.region [⟨some 6, .mov (.tmp 3), none⟩,
    ⟨some 7, .isnil .ifc true (.tmp 6), none⟩])
  (.cond (.tmp 7) (.seq (.region [⟨some 8, .mov (.tmp 3), none⟩,
    ⟨some 2, .mov (.tmp 8), none⟩])
  (.ret)) (.skip))))
  (.seq (.seq (.region [⟨some 9, .mov (.tmp 0), none⟩,
    ⟨some 10, .nilck (.tmp 9), none⟩,
    ⟨some 11, .faddr 0 (.tmp 10), none⟩,
    ⟨some 12, .load none (.tmp 11), none⟩,
    ⟨some 13, .lenl (.tmp 12), none⟩,
    ⟨some 14, .bin .gtr (.tmp 13) (.con (.int .i64 0)), none⟩])
  (.cond (.tmp 14) (.seq (.region [⟨some 15, .call 84 [(.con (.str ⟨#[116, 97, 112, 101]⟩)), (.con (.int .i64 10))], none⟩,
    ⟨some 2, .mov (.tmp 15), none⟩])
  (.ret)) (.skip)))
  (.seq (.region [⟨some 2, .mov (.con (.nili)), none⟩])
  (.ret)))),
  [.tmp 2]⟩
theorem is_tape_Tape_End : IsFn Tryz.prog 57 c_tape_Tape_End := isFn_of [([], []), ([], []), ([], []), ([], []), ([], []), ([], []), ([], []), ([], []), ([], []), ([], [])] (by kernel_rfl)

/-- regency/fault.Wrap -/
def c_fault_Wrap : CFn := ⟨16, .seq (.region [⟨some 6, .mov (.con (.nili)), none⟩])
  (.seq (.seq (.region [⟨some 7, .mov (.tmp 1), none⟩,
    ⟨some 8, .bin .eql (.tmp 7) (.con (.int .i64 0)), none⟩])
  (.cond (.tmp 8) (.seq (.region [⟨some 9, .mov (.tmp 2), none⟩,
    ⟨some 6, .mov (.tmp 9), none⟩])
  (.ret)) (.skip)))
  (.seq (.region [⟨some 10, .mov (.tmp 0), none⟩,
    ⟨some 11, .mov (.tmp 1), none⟩,
    ⟨some 12, .mov (.tmp 2), none⟩,
    ⟨some 13, .build [.str ⟨#[]⟩, .int .i64 0, .nili] [(0, 1, (.tmp 10)), (1, 1, (.tmp 11)), (2, 1, (.tmp 12))], none⟩,
    ⟨some 14, .rbox (.tmp 13), none⟩,
    ⟨some 15, .mkif 92 (.tmp 14), none⟩,
    ⟨some 6, .mov (.tmp 15), none⟩])
  (.ret))),
  [.tmp 6]⟩
theorem is_fault_Wrap : IsFn Tryz.prog 58 c_fault_Wrap := isFn_of [([], []), ([], []), ([], []), ([], []), ([], [4]), ([], [])] (by kernel_rfl)

/-- errors.Is -/
theorem ok_errors_Is : OkDef Tryz.prog 60 (.prim (errIsP 92 40)) := errIs_ok (⟨Tryz.f60, Tryz.func60, by kernel_rfl, by kernel_rfl⟩ : Callable Tryz.prog 60) (fun l e v w h => errIs_fch l e v w h)

abbrev s_slices_IndexFunc_call_part_call_part_0 (v0 v1 v7 v8 : AV) : List AV := [v0, v1, undefA, undefA, .any, .any, .any, v7, v8, .any, .any, .any, .any, .any, .any, .any, .any, .any, .any]
abbrev x_slices_IndexFunc_call_part_call_part_0  : List AV := [.any, .any, undefA, undefA, .any, .any, .any, .any, .any, .any, .any, .any, .any, .any, .any, .any, .any, .any, .any]
abbrev l_slices_IndexFunc_call_part_call_part_0 : CC := .kill [4, 5, 6, 9, 10, 11, 12, 13, 14, 15, 16, 17, 18] (.seq (.region [⟨some 9, .bin .lss (.tmp 8) (.tmp 7), none⟩])
  (.seq (.cond (.tmp 9) (.skip) (.kill [0, 1, 7, 8, 9] (.exit 0)))
  (.seq (.block 1 (.seq (.region [⟨some 10, .mov (.tmp 8), none⟩,
    ⟨some 5, .mov (.tmp 10), none⟩])
  (.seq (.region [⟨some 11, .mov (.tmp 1), none⟩,
    ⟨some 12, .mov (.tmp 0), none⟩,
    ⟨some 13, .mov (.tmp 5), none⟩,
    ⟨some 14, .iaddr 1 none (.tmp 12) (.tmp 13), none⟩,
    ⟨some 15, .load none (.tmp 14), none⟩,
    ⟨some 16, .callv (.tmp 11) [(.tmp 15)], none⟩])
  (.cond (.tmp 16) (.seq (.region [⟨some 17, .mov (.tmp 5), none⟩,
    ⟨some 4, .mov (.tmp 17), none⟩])
  (.ret)) (.skip)))))
  (.region [⟨some 18, .bin .add (.tmp 8) (.con (.int .i64 1)), none⟩,
    ⟨some 8, .mov (.tmp 18), none⟩]))))
/-- slices.IndexFunc[[]regency/call.part,regency/call.part] -/
def c_slices_IndexFunc_call_part_call_part : CFn := ⟨19, .seq (.region [⟨some 4, .mov (.con (.int .i64 0)), none⟩])
  (.seq (.seq (.region [⟨some 6, .mov (.tmp 0), none⟩,
    ⟨some 7, .lenl (.tmp 6), none⟩,
    ⟨some 8, .mov (.con (.int .i64 0)), none⟩])
  (.block 0 (.kill [4, 5, 6, 9, 10, 11, 12, 13, 14, 15, 16, 17, 18] (.loop l_slices_IndexFunc_call_part_call_part_0))))
  (.seq (.region [⟨some 4, .mov (.con (.int .i64 (-1))), none⟩])
  (.ret))),
  [.tmp 4]⟩
theorem is_slices_IndexFunc_call_part_call_part : IsFn Tryz.prog 65 c_slices_IndexFunc_call_part_call_part := isFn_of [([], []), ([], []), ([4, 5, 6, 9, 10, 11, 12, 13, 14, 15, 16, 17, 18], []), ([], []), ([0, 1, 7, 8, 9], []), ([], []), ([], []), ([], []), ([], []), ([], []), ([], []), ([], [])] (by kernel_rfl)

/-- regency/path.Right -/
def c_path_Right : CFn := ⟨11, .seq (.region [⟨some 2, .mov (.con (.bool false)), none⟩])
  (.seq (.region [⟨some 3, .mov (.tmp 0), none⟩,
    ⟨some 4, .lenl (.tmp 3), none⟩,
    ⟨some 5, .bin .leq (.tmp 4) (.con (.int .i64 6)), none⟩,
    ⟨some 6, .mov (.tmp 5), none⟩,
    ⟨some 7, .take (.tmp 0), (some (6, true))⟩,
    ⟨some 8, .call 93 [(.tmp 7), (.con (.fn (.func 94) [] []))], (some (6, true))⟩,
    ⟨some 9, .un .not (.tmp 8), (some (6, true))⟩,
    ⟨some 10, .pick (.tmp 6) (.tmp 9) (.con (.bool false)), none⟩,
    ⟨some 2, .mov (.tmp 10), none⟩])
  (.ret)),
  [.tmp 2]⟩
theorem is_path_Right : IsFn Tryz.prog 66 c_path_Right := isFn_of [([], []), ([], [4]), ([], [])] (by kernel_rfl)

abbrev s_label_Right_0 (v0 v8 v9 v10 : AV) : List AV := [v0, undefA, .any, .any, .any, .any, .any, .any, v8, v9, v10, .any, .any, .any, .any, .any, .any, .any, .any, .any, .any, .any, .any, .any, .any, .any, .any, .any, .any, .any, .any, .any, .any, .any, .any, .any, .any, .any, .any, .any, .any, .any, .any, .any, .any, .any, .any, .any, .any, .any]
abbrev x_label_Right_0  : List AV := [.any, undefA, .any, .any, .any, .any, .any, .any, .any, .any, .any, .any, .any, .any, .any, .any, .any, .any, .any, .any, .any, .any, .any, .any, .any, .any, .any, .any, .any, .any, .any, .any, .any, .any, .any, .any, .any, .any, .any, .any, .any, .any, .any, .any, .any, .any, .any, .any, .any, .any]
abbrev l_label_Right_0 : CC := .kill [2, 3, 4, 5, 6, 7, 11, 12, 13, 14, 15, 16, 17, 18, 19, 20, 21, 22, 23, 24, 25, 26, 27, 28, 29, 30, 31, 32, 33, 34, 35, 36, 37, 38, 39, 40, 41, 42, 43, 44, 45, 46, 47, 48, 49] (.seq (.region [⟨some 11, .bin .lss (.tmp 10) (.tmp 9), none⟩])
  (.seq (.cond (.tmp 11) (.skip) (.kill [0, 8, 9, 10, 11] (.exit 0)))
  (.seq (.block 1 (.seq (.region [⟨some 12, .mov (.tmp 10), none⟩,
    ⟨some 13, .iaddr 2 none (.tmp 8) (.tmp 10), none⟩,
    ⟨some 14, .load (some 2) (.tmp 13), none⟩,
    ⟨some 4, .alloc [.str ⟨#[]⟩, .int .i64 0], none⟩,
    ⟨some 3, .mov (.tmp 12), none⟩,
    ⟨none, .store 2 (.tmp 4) (.tmp 14), none⟩])
  (.seq (.region [⟨some 15, .faddr 0 (.tmp 4), none⟩,
    ⟨some 16, .load none (.tmp 15), none⟩,
    ⟨some 17, .pcall 70 [(.tmp 16)], none⟩,
    ⟨some 18, .un .not (.tmp 17), none⟩,
    ⟨some 19, .mov (.tmp 18), none⟩,
    ⟨some 20, .faddr 1 (.tmp 4), (some (19, false))⟩,
    ⟨some 21, .load none (.tmp 20), (some (19, false))⟩,
    ⟨some 22, .bin .eql (.tmp 21) (.con (.int .i64 1)), (some (19, false))⟩,
    ⟨some 23, .pick (.tmp 19) (.con (.bool true)) (.tmp 22), none⟩,
    ⟨some 24, .mov (.tmp 23), none⟩,
    ⟨some 25, .faddr 1 (.tmp 4), (some (24, false))⟩,
    ⟨some 26, .load none (.tmp 25), (some (24, false))⟩,
    ⟨some 27, .bin .lss (.tmp 26) (.con (.int .i64 0)), (some (24, false))⟩,
    ⟨some 28, .pick (.tmp 24) (.con (.bool true)) (.tmp 27), none⟩,
    ⟨some 29, .mov (.tmp 28), none⟩,
    ⟨some 30, .faddr 1 (.tmp 4), (some (29, false))⟩,
    ⟨some 31, .load none (.tmp 30), (some (29, false))⟩,
    ⟨some 32, .bin .geq (.tmp 31) (.con (.int .i64 4)), (some (29, false))⟩,
    ⟨some 33, .pick (.tmp 29) (.con (.bool true)) (.tmp 32), none⟩,
    ⟨some 34, .mov (.tmp 33), none⟩,
    ⟨some 35, .mov (.tmp 3), (some (34, false))⟩,
    ⟨some 36, .bin .gtr (.tmp 35) (.con (.int .i64 0)), (some (34, false))⟩,
    ⟨some 37, .mov (.tmp 36), (some (34, false))⟩,
    ⟨some 38, .mov (.tmp 0), (some (37, true))⟩,
    ⟨some 39, .mov (.tmp 3), (some (37, true))⟩,
    ⟨some 40, .bin .sub (.tmp 39) (.con (.int .i64 1)), (some (37, true))⟩,
    ⟨some 41, .iaddr 2 none (.tmp 38) (.tmp 40), (some (37, true))⟩,
    ⟨some 42, .load (some 2) (.tmp 41), (some (37, true))⟩,
    ⟨some 43, .faddr 0 (.tmp 4), (some (37, true))⟩,
    ⟨some 44, .load none (.tmp 43), (some (37, true))⟩,
    ⟨some 45, .pcall 96 [(.tmp 42), (.tmp 44)], (some (37, true))⟩,
    ⟨some 46, .bin .geq (.tmp 45) (.con (.int .i64 0)), (some (37, true))⟩,
    ⟨some 47, .pick (.tmp 37) (.tmp 46) (.con (.bool false)), (some (34, false))⟩,
    ⟨some 48, .pick (.tmp 34) (.con (.bool true)) (.tmp 47), none⟩])
  (.cond (.tmp 48) (.seq (.region [⟨some 2, .mov (.con (.bool false)), none⟩])
  (.ret)) (.skip)))))
  (.region [⟨some 49, .bin .add (.tmp 10) (.con (.int .i64 1)), none⟩,
    ⟨some 10, .mov (.tmp 49), none⟩]))))
/-- regency/label.Right -/
def c_label_Right : CFn := ⟨50, .seq (.region [⟨some 2, .mov (.con (.bool false)), none⟩])
  (.seq (.seq (.region [⟨some 5, .mov (.tmp 0), none⟩,
    ⟨some 6, .lenl (.tmp 5), none⟩,
    ⟨some 7, .bin .gtr (.tmp 6) (.con (.int .i64 8)), none⟩])
  (.cond (.tmp 7) (.seq (.region [⟨some 2, .mov (.con (.bool false)), none⟩])
  (.ret)) (.skip)))
  (.seq (.seq (.region [⟨some 8, .mov (.tmp 0), none⟩,
    ⟨some 9, .lenl (.tmp 8), none⟩,
    ⟨some 10, .mov (.con (.int .i64 0)), none⟩])
  (.block 0 (.kill [2, 3, 4, 5, 6, 7, 11, 12, 13, 14, 15, 16, 17, 18, 19, 20, 21, 22, 23, 24, 25, 26, 27, 28, 29, 30, 31, 32, 33, 34, 35, 36, 37, 38, 39, 40, 41, 42, 43, 44, 45, 46, 47, 48, 49] (.loop l_label_Right_0))))
  (.seq (.region [⟨some 2, .mov (.con (.bool true)), none⟩])
  (.ret)))),
  [.tmp 2]⟩
theorem is_label_Right : IsFn Tryz.prog 67 c_label_Right := isFn_of [([], []), ([], []), ([], []), ([], []), ([], []), ([2, 3, 4, 5, 6, 7, 11, 12, 13, 14, 15, 16, 17, 18, 19, 20, 21, 22, 23, 24, 25, 26, 27, 28, 29, 30, 31, 32, 33, 34, 35, 36, 37, 38, 39, 40, 41, 42, 43, 44, 45, 46, 47, 48, 49], []), ([], []), ([0, 8, 9, 10, 11], []), ([], []), ([], [2, 30]), ([], []), ([], []), ([], []), ([], []), ([], [])] (by kernel_rfl)

/-- regency/call.number -/
def c_call_number : CFn := ⟨9, .seq (.region [⟨some 2, .mov (.con (.bool false)), none⟩])
  (.seq (.region [⟨some 3, .mov (.tmp 0), none⟩,
    ⟨some 4, .bin .geq (.tmp 3) (.con (.int .i64 0)), none⟩,
    ⟨some 5, .mov (.tmp 4), none⟩,
    ⟨some 6, .mov (.tmp 0), (some (5, true))⟩,
    ⟨some 7, .bin .leq (.tmp 6) (.con (.int .i64 1048576)), (some (5, true))⟩,
    ⟨some 8, .pick (.tmp 5) (.tmp 7) (.con (.bool false)), none⟩,
    ⟨some 2, .mov (.tmp 8), none⟩])
  (.ret)),
  [.tmp 2]⟩
theorem is_call_number : IsFn Tryz.prog 68 c_call_number := isFn_of [([], []), ([], []), ([], [])] (by kernel_rfl)

/-- regency/owns.Right -/
def c_owns_Right : CFn := ⟨12, .seq (.region [⟨some 2, .mov (.con (.bool false)), none⟩])
  (.seq (.region [⟨some 3, .mov (.tmp 0), none⟩,
    ⟨some 4, .lenl (.tmp 3), none⟩,
    ⟨some 5, .bin .leq (.tmp 4) (.con (.int .i64 8)), none⟩,
    ⟨some 6, .mov (.tmp 5), none⟩,
    ⟨some 7, .mov (.tmp 0), (some (6, true))⟩,
    ⟨some 8, .pcall 97 [(.tmp 7)], (some (6, true))⟩,
    ⟨some 9, .take (.tmp 0), (some (6, true))⟩,
    ⟨some 10, .pcall 51 [(.tmp 8), (.tmp 9)], (some (6, true))⟩,
    ⟨some 11, .pick (.tmp 6) (.tmp 10) (.con (.bool false)), none⟩,
    ⟨some 2, .mov (.tmp 11), none⟩])
  (.ret)),
  [.tmp 2]⟩
theorem is_owns_Right : IsFn Tryz.prog 69 c_owns_Right := isFn_of [([], []), ([], [5, 6, 7]), ([], [])] (by kernel_rfl)

/-- regency/cats.Right -/
def c_cats_Right : CFn := ⟨13, .seq (.region [⟨some 2, .mov (.con (.bool false)), none⟩])
  (.seq (.region [⟨some 7, .mov (.tmp 0), none⟩,
    ⟨some 8, .pcall 98 [(.tmp 7)], none⟩,
    ⟨some 6, .take (.tmp 8), none⟩,
    ⟨some 9, .extract 6 0, none⟩,
    ⟨some 10, .extract 6 1, none⟩,
    ⟨some 11, .extract 6 2, none⟩,
    ⟨some 3, .take (.tmp 9), none⟩,
    ⟨some 4, .mov (.tmp 10), none⟩,
    ⟨some 5, .mov (.tmp 11), none⟩])
  (.seq (.region [⟨some 12, .mov (.tmp 5), none⟩,
    ⟨some 2, .mov (.tmp 12), none⟩])
  (.ret))),
  [.tmp 2]⟩
theorem is_cats_Right : IsFn Tryz.prog 70 c_cats_Right := isFn_of [([], []), ([], [1, 2, 6]), ([], []), ([], [])] (by kernel_rfl)

abbrev s_path_Put_0 (v0 v10 v11 v12 : AV) : List AV := [v0, .any, undefA, undefA, undefA, .any, .any, .any, .any, .any, v10, v11, v12, .any, .any, .any, .any, .any, .any, .any]
abbrev x_path_Put_0  : List AV := [.any, .any, undefA, undefA, undefA, .any, .any, .any, .any, .any, .any, .any, .any, .any, .any, .any, .any, .any, .any, .any]
abbrev l_path_Put_0 : CC := .kill [1, 5, 6, 7, 8, 9, 13, 14, 15, 16, 17, 18, 19] (.seq (.region [⟨some 13, .bin .lss (.tmp 12) (.tmp 11), none⟩])
  (.seq (.cond (.tmp 13) (.skip) (.kill [0, 10, 11, 12, 13] (.exit 0)))
  (.seq (.block 1 (.seq (.region [⟨some 14, .iaddr 1 none (.tmp 10) (.tmp 12), none⟩,
    ⟨some 15, .load none (.tmp 14), none⟩,
    ⟨some 5, .mov (.tmp 15), none⟩])
  (.region [⟨some 16, .mov (.tmp 0), none⟩,
    ⟨some 17, .mov (.tmp 5), none⟩,
    ⟨some 18, .call 40 [(.tmp 16), (.tmp 17)], none⟩])))
  (.region [⟨some 19, .bin .add (.tmp 12) (.con (.int .i64 1)), none⟩,
    ⟨some 12, .mov (.tmp 19), none⟩]))))
/-- regency/path.Put -/
def c_path_Put : CFn := ⟨20, .seq (.region [⟨some 6, .mov (.tmp 0), none⟩,
    ⟨some 7, .mov (.tmp 1), none⟩,
    ⟨some 8, .lenl (.tmp 7), none⟩,
    ⟨some 9, .call 40 [(.tmp 6), (.tmp 8)], none⟩])
  (.seq (.region [⟨some 10, .take (.tmp 1), none⟩,
    ⟨some 11, .lenl (.tmp 10), none⟩,
    ⟨some 12, .mov (.con (.int .i64 0)), none⟩])
  (.block 0 (.kill [1, 5, 6, 7, 8, 9, 13, 14, 15, 16, 17, 18, 19] (.loop l_path_Put_0)))),
  []⟩
theorem is_path_Put : IsFn Tryz.prog 71 c_path_Put := isFn_of [([], []), ([], [0]), ([1, 5, 6, 7, 8, 9, 13, 14, 15, 16, 17, 18, 19], []), ([], []), ([0, 10, 11, 12, 13], []), ([], []), ([], []), ([], [])] (by kernel_rfl)

abbrev s_label_Put_0 (v0 v10 v11 v12 : AV) : List AV := [v0, .any, undefA, undefA, undefA, .any, .any, .any, .any, .any, v10, v11, v12, .any, .any, .any, .any, .any, .any, .any, .any, .any, .any, .any, .any]
abbrev x_label_Put_0  : List AV := [.any, .any, undefA, undefA, undefA, .any, .any, .any, .any, .any, .any, .any, .any, .any, .any, .any, .any, .any, .any, .any, .any, .any, .any, .any, .any]
abbrev l_label_Put_0 : CC := .kill [1, 5, 6, 7, 8, 9, 13, 14, 15, 16, 17, 18, 19, 20, 21, 22, 23, 24] (.seq (.region [⟨some 13, .bin .lss (.tmp 12) (.tmp 11), none⟩])
  (.seq (.cond (.tmp 13) (.skip) (.kill [0, 10, 11, 12, 13] (.exit 0)))
  (.seq (.block 1 (.seq (.region [⟨some 14, .iaddr 2 none (.tmp 10) (.tmp 12), none⟩,
    ⟨some 15, .load (some 2) (.tmp 14), none⟩,
    ⟨some 5, .alloc [.str ⟨#[]⟩, .int .i64 0], none⟩,
    ⟨none, .store 2 (.tmp 5) (.tmp 15), none⟩])
  (.seq (.region [⟨some 16, .mov (.tmp 0), none⟩,
    ⟨some 17, .faddr 0 (.tmp 5), none⟩,
    ⟨some 18, .load none (.tmp 17), none⟩,
    ⟨some 19, .call 74 [(.tmp 16), (.tmp 18)], none⟩])
  (.region [⟨some 20, .mov (.tmp 0), none⟩,
    ⟨some 21, .faddr 1 (.tmp 5), none⟩,
    ⟨some 22, .load none (.tmp 21), none⟩,
    ⟨some 23, .call 40 [(.tmp 20), (.tmp 22)], none⟩]))))
  (.region [⟨some 24, .bin .add (.tmp 12) (.con (.int .i64 1)), none⟩,
    ⟨some 12, .mov (.tmp 24), none⟩]))))
/-- regency/label.Put -/
def c_label_Put : CFn := ⟨25, .seq (.region [⟨some 6, .mov (.tmp 0), none⟩,
    ⟨some 7, .mov (.tmp 1), none⟩,
    ⟨some 8, .lenl (.tmp 7), none⟩,
    ⟨some 9, .call 40 [(.tmp 6), (.tmp 8)], none⟩])
  (.seq (.region [⟨some 10, .take (.tmp 1), none⟩,
    ⟨some 11, .lenl (.tmp 10), none⟩,
    ⟨some 12, .mov (.con (.int .i64 0)), none⟩])
  (.block 0 (.kill [1, 5, 6, 7, 8, 9, 13, 14, 15, 16, 17, 18, 19, 20, 21, 22, 23, 24] (.loop l_label_Put_0)))),
  []⟩
theorem is_label_Put : IsFn Tryz.prog 72 c_label_Put := isFn_of [([], []), ([], [0]), ([1, 5, 6, 7, 8, 9, 13, 14, 15, 16, 17, 18, 19, 20, 21, 22, 23, 24], []), ([], []), ([0, 10, 11, 12, 13], []), ([], []), ([], []), ([], []), ([], [])] (by kernel_rfl)

abbrev s_owns_Put_0 (v0 v10 v11 v12 : AV) : List AV := [v0, .any, undefA, undefA, undefA, .any, .any, .any, .any, .any, v10, v11, v12, .any, .any, .any, .any, .any, .any, .any]
abbrev x_owns_Put_0  : List AV := [.any, .any, undefA, undefA, undefA, .any, .any, .any, .any, .any, .any, .any, .any, .any, .any, .any, .any, .any, .any, .any]
abbrev l_owns_Put_0 : CC := .kill [1, 5, 6, 7, 8, 9, 13, 14, 15, 16, 17, 18, 19] (.seq (.region [⟨some 13, .bin .lss (.tmp 12) (.tmp 11), none⟩])
  (.seq (.cond (.tmp 13) (.skip) (.kill [0, 10, 11, 12, 13] (.exit 0)))
  (.seq (.block 1 (.seq (.region [⟨some 14, .iaddr 1 none (.tmp 10) (.tmp 12), none⟩,
    ⟨some 15, .load none (.tmp 14), none⟩,
    ⟨some 5, .mov (.tmp 15), none⟩])
  (.region [⟨some 16, .mov (.tmp 0), none⟩,
    ⟨some 17, .mov (.tmp 5), none⟩,
    ⟨some 18, .call 74 [(.tmp 16), (.tmp 17)], none⟩])))
  (.region [⟨some 19, .bin .add (.tmp 12) (.con (.int .i64 1)), none⟩,
    ⟨some 12, .mov (.tmp 19), none⟩]))))
/-- regency/owns.Put -/
def c_owns_Put : CFn := ⟨20, .seq (.region [⟨some 6, .mov (.tmp 0), none⟩,
    ⟨some 7, .mov (.tmp 1), none⟩,
    ⟨some 8, .lenl (.tmp 7), none⟩,
    ⟨some 9, .call 40 [(.tmp 6), (.tmp 8)], none⟩])
  (.seq (.region [⟨some 10, .take (.tmp 1), none⟩,
    ⟨some 11, .lenl (.tmp 10), none⟩,
    ⟨some 12, .mov (.con (.int .i64 0)), none⟩])
  (.block 0 (.kill [1, 5, 6, 7, 8, 9, 13, 14, 15, 16, 17, 18, 19] (.loop l_owns_Put_0)))),
  []⟩
theorem is_owns_Put : IsFn Tryz.prog 73 c_owns_Put := isFn_of [([], []), ([], [0]), ([1, 5, 6, 7, 8, 9, 13, 14, 15, 16, 17, 18, 19], []), ([], []), ([0, 10, 11, 12, 13], []), ([], []), ([], []), ([], [])] (by kernel_rfl)

/-- (*regency/tape.Pen).Text -/
def c_tape_Pen_Text : CFn := ⟨17, .seq (.region [⟨some 4, .mov (.tmp 0), none⟩,
    ⟨some 5, .mov (.tmp 1), none⟩,
    ⟨some 6, .lens (.tmp 5), none⟩,
    ⟨some 7, .call 40 [(.tmp 4), (.tmp 6)], none⟩])
  (.cond (.tmp 7) (.region [⟨some 8, .mov (.tmp 0), none⟩,
    ⟨some 9, .mov (.tmp 0), none⟩,
    ⟨some 10, .nilck (.tmp 9), none⟩,
    ⟨some 11, .faddr 0 (.tmp 10), none⟩,
    ⟨some 12, .ltake (.tmp 11), none⟩,
    ⟨some 13, .mov (.tmp 1), none⟩,
    ⟨some 14, .append 1 1 true (.tmp 12) (.tmp 13), none⟩,
    ⟨some 15, .nilck (.tmp 8), none⟩,
    ⟨some 16, .faddr 0 (.tmp 15), none⟩,
    ⟨none, .store 1 (.tmp 16) (.tmp 14), none⟩]) (.skip)),
  []⟩
theorem is_tape_Pen_Text : IsFn Tryz.prog 74 c_tape_Pen_Text := isFn_of [([], []), ([], [4])] (by kernel_rfl)

/-- (*regency/tape.Pen).Flag -/
def c_tape_Pen_Flag : CFn := ⟨9, .seq (.region [⟨some 4, .mov (.con (.int .i64 0)), none⟩])
  (.seq (.seq (.region [⟨some 5, .mov (.tmp 1), none⟩])
  (.cond (.tmp 5) (.region [⟨some 4, .mov (.con (.int .i64 1)), none⟩]) (.skip)))
  (.region [⟨some 6, .mov (.tmp 0), none⟩,
    ⟨some 7, .mov (.tmp 4), none⟩,
    ⟨some 8, .call 40 [(.tmp 6), (.tmp 7)], none⟩])),
  []⟩
theorem is_tape_Pen_Flag : IsFn Tryz.prog 75 c_tape_Pen_Flag := isFn_of [([], []), ([], []), ([], []), ([], [])] (by kernel_rfl)

abbrev s_slices_Equal_api_Label_api_Entry_0 (v0 v1 v12 v13 : AV) : List AV := [v0, v1, undefA, undefA, .any, .any, .any, .any, .any, .any, .any, .any, v12, v13, .any, .any, .any, .any, .any, .any, .any, .any, .any, .any, .any, .any]
abbrev x_slices_Equal_api_Label_api_Entry_0  : List AV := [.any, .any, undefA, undefA, .any, .any, .any, .any, .any, .any, .any, .any, .any, .any, .any, .any, .any, .any, .any, .any, .any, .any, .any, .any, .any, .any]
abbrev l_slices_Equal_api_Label_api_Entry_0 : CC := .kill [4, 5, 6, 7, 8, 9, 10, 11, 14, 15, 16, 17, 18, 19, 20, 21, 22, 23, 24, 25] (.seq (.region [⟨some 14, .bin .lss (.tmp 13) (.tmp 12), none⟩])
  (.seq (.cond (.tmp 14) (.skip) (.kill [0, 1, 12, 13, 14] (.exit 0)))
  (.seq (.block 1 (.seq (.region [⟨some 15, .mov (.tmp 13), none⟩,
    ⟨some 5, .mov (.tmp 15), none⟩])
  (.seq (.region [⟨some 16, .mov (.tmp 0), none⟩,
    ⟨some 17, .mov (.tmp 5), none⟩,
    ⟨some 18, .iaddr 2 none (.tmp 16) (.tmp 17), none⟩,
    ⟨some 19, .load (some 2) (.tmp 18), none⟩,
    ⟨some 20, .mov (.tmp 1), none⟩,
    ⟨some 21, .mov (.tmp 5), none⟩,
    ⟨some 22, .iaddr 2 none (.tmp 20) (.tmp 21), none⟩,
    ⟨some 23, .load (some 2) (.tmp 22), none⟩,
    ⟨some 24, .eqs true [(0, .string), (1, (.int .i64))] (.tmp 19) (.tmp 23), none⟩])
  (.cond (.tmp 24) (.seq (.region [⟨some 4, .mov (.con (.bool false)), none⟩])
  (.ret)) (.skip)))))
  (.region [⟨some 25, .bin .add (.tmp 13) (.con (.int .i64 1)), none⟩,
    ⟨some 13, .mov (.tmp 25), none⟩]))))
/-- slices.Equal[regency/api.Label,regency/api.Entry] -/
def c_slices_Equal_api_Label_api_Entry : CFn := ⟨26, .seq (.region [⟨some 4, .mov (.con (.bool false)), none⟩])
  (.seq (.seq (.region [⟨some 6, .mov (.tmp 0), none⟩,
    ⟨some 7, .lenl (.tmp 6), none⟩,
    ⟨some 8, .mov (.tmp 1), none⟩,
    ⟨some 9, .lenl (.tmp 8), none⟩,
    ⟨some 10, .bin .neq (.tmp 7) (.tmp 9), none⟩])
  (.cond (.tmp 10) (.seq (.region [⟨some 4, .mov (.con (.bool false)), none⟩])
  (.ret)) (.skip)))
  (.seq (.seq (.region [⟨some 11, .mov (.tmp 0), none⟩,
    ⟨some 12, .lenl (.tmp 11), none⟩,
    ⟨some 13, .mov (.con (.int .i64 0)), none⟩])
  (.block 0 (.kill [4, 5, 6, 7, 8, 9, 10, 11, 14, 15, 16, 17, 18, 19, 20, 21, 22, 23, 24, 25] (.loop l_slices_Equal_api_Label_api_Entry_0))))
  (.seq (.region [⟨some 4, .mov (.con (.bool true)), none⟩])
  (.ret)))),
  [.tmp 4]⟩
theorem is_slices_Equal_api_Label_api_Entry : IsFn Tryz.prog 76 c_slices_Equal_api_Label_api_Entry := isFn_of [([], []), ([], []), ([], []), ([], []), ([], []), ([4, 5, 6, 7, 8, 9, 10, 11, 14, 15, 16, 17, 18, 19, 20, 21, 22, 23, 24, 25], []), ([], []), ([0, 1, 12, 13, 14], []), ([], []), ([], []), ([], []), ([], []), ([], []), ([], []), ([], [])] (by kernel_rfl)

abbrev s_tape_Tape_number_0 (v5 v6 v12 v13 v14 : AV) : List AV := [.any, undefA, .any, .any, .any, v5, v6, .any, .any, .any, .any, .any, v12, v13, v14, .any, .any, .any, .any, .any, .any, .any, .any, .any, .any, .any, .any, .any, .any, .any, .any, .any, .any, .any, .any, .any, .any, .any, .any, .any, .any, .any, .any, .any, .any, .any, .any, .any, .any, .any]
abbrev x_tape_Tape_number_0  : List AV := [.any, undefA, .any, .any, .any, .any, .any, .any, .any, .any, .any, .any, .any, .any, .any, .any, .any, .any, .any, .any, .any, .any, .any, .any, .any, .any, .any, .any, .any, .any, .any, .any, .any, .any, .any, .any, .any, .any, .any, .any, .any, .any, .any, .any, .any, .any, .any, .any, .any, .any]
abbrev x_tape_Tape_number_1 (v5 v6 v12 v13 v14 : AV) : List AV := [.any, undefA, .any, .any, .any, v5, v6, .any, .any, .any, .any, .any, v12, v13, v14, .any, .any, .any, .any, .any, .any, .any, .any, .any, .any, .any, .any, .any, .any, .any, .any, .any, .any, .any, .any, .any, .any, .any, .any, .any, .any, .any, .any, .any, .any, .any, .any, .any, .any, .any]
abbrev l_tape_Tape_number_0 : CC := .kill [0, 2, 3, 4, 7, 8, 9, 10, 11, 15, 16, 17, 18, 19, 20, 21, 22, 23, 24, 25, 26, 27, 28, 29, 30, 31, 32, 33, 34, 35, 36, 37, 38, 39, 40, 41, 42, 43, 44, 45, 46, 47, 48, 49] (.seq (.region [⟨some 15, .bin .lss (.tmp 14) (.tmp 13), none⟩])
  (.seq (.cond (.tmp 15) (.skip) (.kill [5, 6, 12, 13, 14, 15] (.exit 0)))
  (.seq (.block 1 (.seq (.region [⟨some 16, .mov (.tmp 14), none⟩,
    ⟨some 17, .iaddr 1 none (.tmp 12) (.tmp 14), none⟩,
    ⟨some 18, .load none (.tmp 17), none⟩,
    ⟨some 7, .mov (.tmp 16), none⟩,
    ⟨some 8, .mov (.tmp 18), none⟩])
  (.seq (.block 2 (.seq (.region [⟨some 20, .mov (.tmp 7), none⟩,
    ⟨some 21, .bin .eql (.tmp 20) (.con (.int .i64 9)), none⟩,
    ⟨some 19, .mov (.tmp 21), none⟩])
  (.cond (.tmp 19) (.seq (.region [⟨some 2, .mov (.con (.int .i64 0)), none⟩,
    ⟨some 3, .mov (.con (.int .i64 0)), none⟩,
    ⟨some 4, .mov (.con (.int .i64 10)), none⟩])
  (.ret)) (.seq (.region [⟨some 23, .mov (.tmp 8), none⟩,
    ⟨some 24, .bin .geq (.tmp 23) (.con (.int .u8 128)), none⟩,
    ⟨some 22, .mov (.tmp 24), none⟩])
  (.cond (.tmp 22) (.seq (.region [⟨some 25, .mov (.tmp 5), none⟩,
    ⟨some 26, .mov (.tmp 8), none⟩,
    ⟨some 27, .bin .sub (.tmp 26) (.con (.int .u8 128)), none⟩,
    ⟨some 28, .cInt .i64 (.tmp 27), none⟩,
    ⟨some 29, .mov (.tmp 6), none⟩,
    ⟨some 30, .bin .mul (.tmp 28) (.tmp 29), none⟩,
    ⟨some 31, .bin .add (.tmp 25) (.tmp 30), none⟩,
    ⟨some 5, .mov (.tmp 31), none⟩])
  (.seq (.region [⟨some 32, .mov (.tmp 6), none⟩,
    ⟨some 33, .bin .mul (.tmp 32) (.con (.int .i64 128)), none⟩,
    ⟨some 6, .mov (.tmp 33), none⟩])
  (.kill [7, 8, 15, 16, 17, 18, 19, 20, 21, 22, 23, 24, 25, 26, 27, 28, 29, 30, 31, 32, 33] (.exit 1)))) (.seq (.region [⟨some 35, .mov (.tmp 8), none⟩,
    ⟨some 36, .bin .eql (.tmp 35) (.con (.int .u8 0)), none⟩,
    ⟨some 37, .mov (.tmp 36), none⟩,
    ⟨some 38, .mov (.tmp 7), (some (37, true))⟩,
    ⟨some 39, .bin .gtr (.tmp 38) (.con (.int .i64 0)), (some (37, true))⟩,
    ⟨some 40, .pick (.tmp 37) (.tmp 39) (.con (.bool false)), none⟩,
    ⟨some 34, .mov (.tmp 40), none⟩])
  (.cond (.tmp 34) (.seq (.region [⟨some 2, .mov (.con (.int .i64 0)), none⟩,
    ⟨some 3, .mov (.con (.int .i64 0)), none⟩,
    ⟨some 4, .mov (.con (.int .i64 10)), none⟩])
  (.ret)) (.skip))))))))
  (.seq (.region [⟨some 41, .mov (.tmp 5), none⟩,
    ⟨some 42, .mov (.tmp 8), none⟩,
    ⟨some 43, .cInt .i64 (.tmp 42), none⟩,
    ⟨some 44, .mov (.tmp 6), none⟩,
    ⟨some 45, .bin .mul (.tmp 43) (.tmp 44), none⟩,
    ⟨some 46, .bin .add (.tmp 41) (.tmp 45), none⟩,
    ⟨some 47, .mov (.tmp 7), none⟩,
    ⟨some 48, .bin .add (.tmp 47) (.con (.int .i64 1)), none⟩,
    ⟨some 2, .mov (.tmp 46), none⟩,
    ⟨some 3, .mov (.tmp 48), none⟩,
    ⟨some 4, .mov (.con (.int .i64 0)), none⟩])
  (.ret)))))
  (.region [⟨some 49, .bin .add (.tmp 14) (.con (.int .i64 1)), none⟩,
    ⟨some 14, .mov (.tmp 49), none⟩]))))
/-- (*regency/tape.Tape).number -/
def c_tape_Tape_number : CFn := ⟨50, .seq (.region [⟨some 2, .mov (.con (.int .i64 0)), none⟩,
    ⟨some 3, .mov (.con (.int .i64 0)), none⟩,
    ⟨some 4, .mov (.con (.int .i64 0)), none⟩])
  (.seq (.region [⟨some 5, .mov (.con (.int .i64 0)), none⟩,
    ⟨some 6, .mov (.con (.int .i64 1)), none⟩])
  (.seq (.seq (.region [⟨some 9, .mov (.tmp 0), none⟩,
    ⟨some 10, .nilck (.tmp 9), none⟩,
    ⟨some 11, .faddr 0 (.tmp 10), none⟩,
    ⟨some 12, .load none (.tmp 11), none⟩,
    ⟨some 13, .lenl (.tmp 12), none⟩,
    ⟨some 14, .mov (.con (.int .i64 0)), none⟩])
  (.block 0 (.kill [0, 2, 3, 4, 7, 8, 9, 10, 11, 15, 16, 17, 18, 19, 20, 21, 22, 23, 24, 25, 26, 27, 28, 29, 30, 31, 32, 33, 34, 35, 36, 37, 38, 39, 40, 41, 42, 43, 44, 45, 46, 47, 48, 49] (.loop l_tape_Tape_number_0))))
  (.seq (.region [⟨some 2, .mov (.con (.int .i64 0)), none⟩,
    ⟨some 3, .mov (.con (.int .i64 0)), none⟩,
    ⟨some 4, .mov (.con (.int .i64 11)), none⟩])
  (.ret)))),
  [.tmp 2, .tmp 3, .tmp 4]⟩
theorem is_tape_Tape_number : IsFn Tryz.prog 77 c_tape_Tape_number := isFn_of [([], []), ([], []), ([], []), ([0, 2, 3, 4, 7, 8, 9, 10, 11, 15, 16, 17, 18, 19, 20, 21, 22, 23, 24, 25, 26, 27, 28, 29, 30, 31, 32, 33, 34, 35, 36, 37, 38, 39, 40, 41, 42, 43, 44, 45, 46, 47, 48, 49], []), ([], []), ([5, 6, 12, 13, 14, 15], []), ([], []), ([], []), ([], []), ([], []), ([], []), ([], []), ([], []), ([7, 8, 15, 16, 17, 18, 19, 20, 21, 22, 23, 24, 25, 26, 27, 28, 29, 30, 31, 32, 33], []), ([], []), ([], []), ([], []), ([], []), ([], []), ([], []), ([], []), ([], [])] (by kernel_rfl)

/-- (*regency/tape.Tape).fail -/
def c_tape_Tape_fail : CFn := ⟨15, .seq (.region [⟨some 4, .mov (.con (.int .i64 0)), none⟩])
  (.seq (.seq (.region [⟨some 5, .mov (.tmp 0), none⟩,
    ⟨some 6, .nilck (.tmp 5), none⟩,
    ⟨some 7, .faddr 1 (.tmp 6), none⟩,
    ⟨some 8, .load none (.tmp 7), none⟩,
    ⟨some 9, .isnil .ifc false (.tmp 8), none⟩])
  (.cond (.tmp 9) (.region [⟨some 10, .mov (.tmp 0), none⟩,
    ⟨some 11, .mov (.tmp 1), none⟩,
    ⟨some 12, .call 84 [(.con (.str ⟨#[116, 97, 112, 101]⟩)), (.tmp 11)], none⟩,
    ⟨some 13, .nilck (.tmp 10), none⟩,
    ⟨some 14, .faddr 1 (.tmp 13), none⟩,
    ⟨none, .store 1 (.tmp 14) (.tmp 12), none⟩]) (.skip)))
  (.seq (.region [⟨some 4, .mov (.con (.int .i64 0)), none⟩])
  (.ret))),
  [.tmp 4]⟩
theorem is_tape_Tape_fail : IsFn Tryz.prog 78 c_tape_Tape_fail := isFn_of [([], []), ([], []), ([], []), ([], []), ([], [])] (by kernel_rfl)

abbrev s_path_Get_0 (v0 v4 v6 v7 : AV) : List AV := [v0, undefA, .any, .any, v4, .any, v6, v7, .any, .any, .any, .any, .any, .any, .any, undefA, undefA, undefA, undefA]
abbrev x_path_Get_0 (v0 v4 : AV) : List AV := [v0, undefA, .any, .any, v4, .any, .any, .any, .any, .any, .any, .any, .any, .any, .any, undefA, undefA, undefA, undefA]
abbrev l_path_Get_0 : CC := .kill [2, 3, 5, 8, 9, 10, 11, 12, 13, 14] (.seq (.region [⟨some 8, .bin .lss (.tmp 7) (.tmp 6), none⟩])
  (.seq (.cond (.tmp 8) (.skip) (.kill [6, 7, 8] (.exit 0)))
  (.seq (.block 1 (.region [⟨some 9, .take (.tmp 4), none⟩,
    ⟨some 10, .mov (.tmp 0), none⟩,
    ⟨some 11, .call 54 [(.tmp 10), (.con (.int .i64 1048576))], none⟩,
    ⟨some 12, .bslice 1 false [(.tmp 11)], none⟩,
    ⟨some 13, .append 1 8 false (.tmp 9) (.tmp 12), none⟩,
    ⟨some 4, .take (.tmp 13), none⟩]))
  (.region [⟨some 14, .bin .add (.tmp 7) (.con (.int .i64 1)), none⟩,
    ⟨some 7, .mov (.tmp 14), none⟩]))))
/-- regency/path.Get -/
def c_path_Get : CFn := ⟨19, .seq (.region [⟨some 2, .take (.con (.sl .ex [])), none⟩,
    ⟨some 3, .mov (.con (.int .i64 0)), none⟩])
  (.seq (.region [⟨some 4, .take (.con (.sl .ex [])), none⟩])
  (.seq (.seq (.region [⟨some 5, .mov (.tmp 0), none⟩,
    ⟨some 6, .call 54 [(.tmp 5), (.con (.int .i64 6))], none⟩,
    ⟨some 7, .mov (.con (.int .i64 0)), none⟩])
  (.block 0 (.kill [2, 3, 5, 8, 9, 10, 11, 12, 13, 14] (.loop l_path_Get_0))))
  (.seq (.seq (.region [⟨some 15, .mov (.tmp 0), none⟩,
    ⟨some 16, .call 56 [(.tmp 15)], none⟩,
    ⟨some 17, .isnil .ifc true (.tmp 16), none⟩])
  (.cond (.tmp 17) (.seq (.region [⟨some 2, .take (.con (.sl .ex [])), none⟩,
    ⟨some 3, .mov (.con (.int .i64 10)), none⟩])
  (.ret)) (.skip)))
  (.seq (.region [⟨some 18, .take (.tmp 4), none⟩,
    ⟨some 2, .take (.tmp 18), none⟩,
    ⟨some 3, .mov (.con (.int .i64 0)), none⟩])
  (.ret))))),
  [.tmp 2, .tmp 3]⟩
theorem is_path_Get : IsFn Tryz.prog 79 c_path_Get := isFn_of [([], [0]), ([], [0]), ([], []), ([2, 3, 5, 8, 9, 10, 11, 12, 13, 14], []), ([], []), ([6, 7, 8], []), ([], [0, 5]), ([], []), ([], []), ([], [0]), ([], []), ([], [0, 1]), ([], [])] (by kernel_rfl)

abbrev s_label_Get_0 (v0 v4 v6 v7 : AV) : List AV := [v0, undefA, .any, .any, v4, .any, v6, v7, .any, .any, .any, .any, .any, .any, .any, .any, .any, .any, undefA, undefA, undefA, undefA, undefA, undefA, undefA, undefA, undefA]
abbrev x_label_Get_0 (v0 v4 : AV) : List AV := [v0, undefA, .any, .any, v4, .any, .any, .any, .any, .any, .any, .any, .any, .any, .any, .any, .any, .any, undefA, undefA, undefA, undefA, undefA, undefA, undefA, undefA, undefA]
abbrev l_label_Get_0 : CC := .kill [2, 3, 5, 8, 9, 10, 11, 12, 13, 14, 15, 16, 17] (.seq (.region [⟨some 8, .bin .lss (.tmp 7) (.tmp 6), none⟩])
  (.seq (.cond (.tmp 8) (.skip) (.kill [6, 7, 8] (.exit 0)))
  (.seq (.block 1 (.region [⟨some 9, .take (.tmp 4), none⟩,
    ⟨some 10, .mov (.tmp 0), none⟩,
    ⟨some 11, .call 82 [(.tmp 10), (.con (.int .i64 80))], none⟩,
    ⟨some 12, .mov (.tmp 0), none⟩,
    ⟨some 13, .call 54 [(.tmp 12), (.con (.int .i64 3))], none⟩,
    ⟨some 14, .build [.str ⟨#[]⟩, .int .i64 0] [(0, 1, (.tmp 11)), (1, 1, (.tmp 13))], none⟩,
    ⟨some 15, .bslice 2 false [(.tmp 14)], none⟩,
    ⟨some 16, .append 2 24 false (.tmp 9) (.tmp 15), none⟩,
    ⟨some 4, .take (.tmp 16), none⟩]))
  (.region [⟨some 17, .bin .add (.tmp 7) (.con (.int .i64 1)), none⟩,
    ⟨some 7, .mov (.tmp 17), none⟩]))))
/-- regency/label.Get -/
def c_label_Get : CFn := ⟨27, .seq (.region [⟨some 2, .take (.con (.sl .ex [])), none⟩,
    ⟨some 3, .mov (.con (.int .i64 0)), none⟩])
  (.seq (.region [⟨some 4, .take (.con (.sl .ex [])), none⟩])
  (.seq (.seq (.region [⟨some 5, .mov (.tmp 0), none⟩,
    ⟨some 6, .call 54 [(.tmp 5), (.con (.int .i64 8))], none⟩,
    ⟨some 7, .mov (.con (.int .i64 0)), none⟩])
  (.block 0 (.kill [2, 3, 5, 8, 9, 10, 11, 12, 13, 14, 15, 16, 17] (.loop l_label_Get_0))))
  (.seq (.seq (.region [⟨some 18, .mov (.tmp 0), none⟩,
    ⟨some 19, .call 56 [(.tmp 18)], none⟩,
    ⟨some 20, .isnil .ifc true (.tmp 19), none⟩,
    ⟨some 21, .mov (.tmp 20), none⟩,
    ⟨some 22, .mov (.tmp 4), (some (21, false))⟩,
    ⟨some 23, .pcall 67 [(.tmp 22)], (some (21, false))⟩,
    ⟨some 24, .un .not (.tmp 23), (some (21, false))⟩,
    ⟨some 25, .pick (.tmp 21) (.con (.bool true)) (.tmp 24), none⟩])
  (.cond (.tmp 25) (.seq (.region [⟨some 2, .take (.con (.sl .ex [])), none⟩,
    ⟨some 3, .mov (.con (.int .i64 10)), none⟩])
  (.ret)) (.skip)))
  (.seq (.region [⟨some 26, .take (.tmp 4), none⟩,
    ⟨some 2, .take (.tmp 26), none⟩,
    ⟨some 3, .mov (.con (.int .i64 0)), none⟩])
  (.ret))))),
  [.tmp 2, .tmp 3]⟩
theorem is_label_Get : IsFn Tryz.prog 80 c_label_Get := isFn_of [([], [0]), ([], [0]), ([], []), ([2, 3, 5, 8, 9, 10, 11, 12, 13, 14, 15, 16, 17], []), ([], []), ([6, 7, 8], []), ([], [0, 8]), ([], []), ([], [5]), ([], [0]), ([], []), ([], [0, 1]), ([], [])] (by kernel_rfl)

abbrev s_owns_Get_0 (v0 v4 v6 v7 : AV) : List AV := [v0, undefA, .any, .any, v4, .any, v6, v7, .any, .any, .any, .any, .any, .any, .any, undefA, undefA, undefA, undefA, undefA, undefA, undefA, undefA, undefA]
abbrev x_owns_Get_0 (v0 v4 : AV) : List AV := [v0, undefA, .any, .any, v4, .any, .any, .any, .any, .any, .any, .any, .any, .any, .any, undefA, undefA, undefA, undefA, undefA, undefA, undefA, undefA, undefA]
abbrev l_owns_Get_0 : CC := .kill [2, 3, 5, 8, 9, 10, 11, 12, 13, 14] (.seq (.region [⟨some 8, .bin .lss (.tmp 7) (.tmp 6), none⟩])
  (.seq (.cond (.tmp 8) (.skip) (.kill [6, 7, 8] (.exit 0)))
  (.seq (.block 1 (.region [⟨some 9, .take (.tmp 4), none⟩,
    ⟨some 10, .mov (.tmp 0), none⟩,
    ⟨some 11, .call 82 [(.tmp 10), (.con (.int .i64 80))], none⟩,
    ⟨some 12, .bslice 1 false [(.tmp 11)], none⟩,
    ⟨some 13, .append 1 16 false (.tmp 9) (.tmp 12), none⟩,
    ⟨some 4, .take (.tmp 13), none⟩]))
  (.region [⟨some 14, .bin .add (.tmp 7) (.con (.int .i64 1)), none⟩,
    ⟨some 7, .mov (.tmp 14), none⟩]))))
/-- regency/owns.Get -/
def c_owns_Get : CFn := ⟨24, .seq (.region [⟨some 2, .take (.con (.sl .ex [])), none⟩,
    ⟨some 3, .mov (.con (.int .i64 0)), none⟩])
  (.seq (.region [⟨some 4, .take (.con (.sl .ex [])), none⟩])
  (.seq (.seq (.region [⟨some 5, .mov (.tmp 0), none⟩,
    ⟨some 6, .call 54 [(.tmp 5), (.con (.int .i64 8))], none⟩,
    ⟨some 7, .mov (.con (.int .i64 0)), none⟩])
  (.block 0 (.kill [2, 3, 5, 8, 9, 10, 11, 12, 13, 14] (.loop l_owns_Get_0))))
  (.seq (.seq (.region [⟨some 15, .mov (.tmp 0), none⟩,
    ⟨some 16, .call 56 [(.tmp 15)], none⟩,
    ⟨some 17, .isnil .ifc true (.tmp 16), none⟩,
    ⟨some 18, .mov (.tmp 17), none⟩,
    ⟨some 19, .mov (.tmp 4), (some (18, false))⟩,
    ⟨some 20, .pcall 69 [(.tmp 19)], (some (18, false))⟩,
    ⟨some 21, .un .not (.tmp 20), (some (18, false))⟩,
    ⟨some 22, .pick (.tmp 18) (.con (.bool true)) (.tmp 21), none⟩])
  (.cond (.tmp 22) (.seq (.region [⟨some 2, .take (.con (.sl .ex [])), none⟩,
    ⟨some 3, .mov (.con (.int .i64 10)), none⟩])
  (.ret)) (.skip)))
  (.seq (.region [⟨some 23, .take (.tmp 4), none⟩,
    ⟨some 2, .take (.tmp 23), none⟩,
    ⟨some 3, .mov (.con (.int .i64 0)), none⟩])
  (.ret))))),
  [.tmp 2, .tmp 3]⟩
theorem is_owns_Get : IsFn Tryz.prog 81 c_owns_Get := isFn_of [([], [0]), ([], [0]), ([], []), ([2, 3, 5, 8, 9, 10, 11, 12, 13, 14], []), ([], []), ([6, 7, 8], []), ([], [0, 5]), ([], []), ([], [5]), ([], [0]), ([], []), ([], [0, 1]), ([], [])] (by kernel_rfl)

/-- (*regency/tape.Tape).Text -/
def c_tape_Tape_Text : CFn := ⟨61, .seq (.region [⟨some 4, .mov (.con (.str ⟨#[]⟩)), none⟩])
  (.seq (.seq (.region [⟨some 8, .mov (.tmp 0), none⟩,
    ⟨some 9, .isnil .ptr false (.tmp 8), none⟩,
    ⟨some 10, .mov (.tmp 9), none⟩,
    ⟨some 11, .mov (.tmp 0), (some (10, false))⟩,
    ⟨some 12, .nilck (.tmp 11), (some (10, false))⟩,
    ⟨some 13, .faddr 1 (.tmp 12), (some (10, false))⟩,
    ⟨some 14, .load none (.tmp 13), (some (10, false))⟩,
    ⟨some 15, .isnil .ifc true (.tmp 14), (some (10, false))⟩,
    ⟨some 16, .pick (.tmp 10) (.con (.bool true)) (.tmp 15), none⟩])
  (.cond (.tmp 16) (.seq (.region [⟨some 4, .mov (.con (.str ⟨#[]⟩)), none⟩])
  (.ret)) (.skip)))
  (.seq (.region [⟨some 17, .mov (.tmp 0), none⟩,
    ⟨some 18, .nilck (.tmp 17), none⟩,
    ⟨some 19, .faddr 0 (.tmp 18), none⟩,
    ⟨some 20, .load none (.tmp 19), none⟩,
    ⟨some 5, .take (.tmp 20), none⟩])
  (.seq (.region [⟨some 21, .mov (.tmp 0), none⟩,
    ⟨some 22, .mov (.tmp 1), none⟩,
    ⟨some 23, .call 54 [(.tmp 21), (.tmp 22)], none⟩,
    ⟨some 6, .mov (.tmp 23), none⟩])
  (.seq (.block 0 (.seq (.region [⟨some 25, .mov (.tmp 0), none⟩,
    ⟨some 26, .nilck (.tmp 25), none⟩,
    ⟨some 27, .faddr 1 (.tmp 26), none⟩,
    ⟨some 28, .load none (.tmp 27), none⟩,
    ⟨some 29, .isnil .ifc true (.tmp 28), none⟩,
    ⟨some 24, .mov (.tmp 29), none⟩])
  (.cond (.tmp 24) (.seq (.region [⟨some 4, .mov (.con (.str ⟨#[]⟩)), none⟩])
  (.ret)) (.seq (.region [⟨some 31, .mov (.tmp 6), none⟩,
    ⟨some 32, .mov (.tmp 0), none⟩,
    ⟨some 33, .nilck (.tmp 32), none⟩,
    ⟨some 34, .faddr 0 (.tmp 33), none⟩,
    ⟨some 35, .load none (.tmp 34), none⟩,
    ⟨some 36, .lenl (.tmp 35), none⟩,
    ⟨some 37, .bin .gtr (.tmp 31) (.tmp 36), none⟩,
    ⟨some 30, .mov (.tmp 37), none⟩])
  (.cond (.tmp 30) (.seq (.region [⟨some 38, .mov (.tmp 0), none⟩,
    ⟨some 39, .take (.tmp 5), none⟩,
    ⟨some 40, .nilck (.tmp 38), none⟩,
    ⟨some 41, .faddr 0 (.tmp 40), none⟩,
    ⟨none, .store 1 (.tmp 41) (.tmp 39), none⟩])
  (.seq (.region [⟨some 42, .mov (.tmp 0), none⟩,
    ⟨some 43, .call 78 [(.tmp 42), (.con (.int .i64 11))], none⟩])
  (.seq (.region [⟨some 4, .mov (.con (.str ⟨#[]⟩)), none⟩])
  (.ret)))) (.skip))))))
  (.seq (.region [⟨some 44, .mov (.tmp 0), none⟩,
    ⟨some 45, .nilck (.tmp 44), none⟩,
    ⟨some 46, .faddr 0 (.tmp 45), none⟩,
    ⟨some 47, .load none (.tmp 46), none⟩,
    ⟨some 48, .mov (.tmp 6), none⟩,
    ⟨some 49, .slice (some 1) (.tmp 47) none (some (.tmp 48)) none, none⟩,
    ⟨some 50, .cBytesStr (.tmp 49), none⟩,
    ⟨some 7, .mov (.tmp 50), none⟩])
  (.seq (.region [⟨some 51, .mov (.tmp 0), none⟩,
    ⟨some 52, .mov (.tmp 0), none⟩,
    ⟨some 53, .nilck (.tmp 52), none⟩,
    ⟨some 54, .faddr 0 (.tmp 53), none⟩,
    ⟨some 55, .load none (.tmp 54), none⟩,
    ⟨some 56, .mov (.tmp 6), none⟩,
    ⟨some 57, .slice (some 1) (.tmp 55) (some (.tmp 56)) none none, none⟩,
    ⟨some 58, .nilck (.tmp 51), none⟩,
    ⟨some 59, .faddr 0 (.tmp 58), none⟩,
    ⟨none, .store 1 (.tmp 59) (.tmp 57), none⟩])
  (.seq (.region [⟨some 60, .mov (.tmp 7), none⟩,
    ⟨some 4, .mov (.tmp 60), none⟩])
  (.ret)))))))),
  [.tmp 4]⟩
theorem is_tape_Tape_Text : IsFn Tryz.prog 82 c_tape_Tape_Text := isFn_of [([], []), ([], []), ([], []), ([], []), ([], [4]), ([], []), ([], []), ([], []), ([], []), ([], []), ([], [1]), ([], []), ([], []), ([], []), ([], []), ([], []), ([], []), ([], [])] (by kernel_rfl)

/-- (*regency/tape.Tape).Flag -/
def c_tape_Tape_Flag : CFn := ⟨6, .seq (.region [⟨some 2, .mov (.con (.bool false)), none⟩])
  (.seq (.region [⟨some 3, .mov (.tmp 0), none⟩,
    ⟨some 4, .call 54 [(.tmp 3), (.con (.int .i64 1))], none⟩,
    ⟨some 5, .bin .eql (.tmp 4) (.con (.int .i64 1)), none⟩,
    ⟨some 2, .mov (.tmp 5), none⟩])
  (.ret)),
  [.tmp 2]⟩
theorem is_tape_Tape_Flag : IsFn Tryz.prog 83 c_tape_Tape_Flag := isFn_of [([], []), ([], []), ([], [])] (by kernel_rfl)

/-- regency/fault.New -/
def c_fault_New : CFn := ⟨8, .seq (.region [⟨some 4, .mov (.con (.nili)), none⟩])
  (.seq (.region [⟨some 5, .mov (.tmp 0), none⟩,
    ⟨some 6, .mov (.tmp 1), none⟩,
    ⟨some 7, .call 58 [(.tmp 5), (.tmp 6), (.con (.nili))], none⟩,
    ⟨some 4, .mov (.tmp 7), none⟩])
  (.ret)),
  [.tmp 4]⟩
theorem is_fault_New : IsFn Tryz.prog 84 c_fault_New := isFn_of [([], []), ([], []), ([], [])] (by kernel_rfl)

/-- slices.ContainsFunc[[]int,int] -/
def c_slices_ContainsFunc_int_int : CFn := ⟨9, .seq (.region [⟨some 4, .mov (.con (.bool false)), none⟩])
  (.seq (.region [⟨some 5, .take (.tmp 0), none⟩,
    ⟨some 6, .mov (.tmp 1), none⟩,
    ⟨some 7, .call 102 [(.tmp 5), (.tmp 6)], none⟩,
    ⟨some 8, .bin .geq (.tmp 7) (.con (.int .i64 0)), none⟩,
    ⟨some 4, .mov (.tmp 8), none⟩])
  (.ret)),
  [.tmp 4]⟩
theorem is_slices_ContainsFunc_int_int : IsFn Tryz.prog 93 c_slices_ContainsFunc_int_int := isFn_of [([], []), ([], [0]), ([], [])] (by kernel_rfl)

/-- regency/path.Right$1 -/
def c_path_Right_1 : CFn := ⟨6, .seq (.region [⟨some 2, .mov (.con (.bool false)), none⟩])
  (.seq (.region [⟨some 3, .mov (.tmp 0), none⟩,
    ⟨some 4, .pcall 95 [(.tmp 3)], none⟩,
    ⟨some 5, .un .not (.tmp 4), none⟩,
    ⟨some 2, .mov (.tmp 5), none⟩])
  (.ret)),
  [.tmp 2]⟩
theorem is_path_Right_1 : IsFn Tryz.prog 94 c_path_Right_1 := isFn_of [([], []), ([], [1]), ([], [])] (by kernel_rfl)

end Go.Proofs.YtlcflpanellbfaaGreatDoor.F
