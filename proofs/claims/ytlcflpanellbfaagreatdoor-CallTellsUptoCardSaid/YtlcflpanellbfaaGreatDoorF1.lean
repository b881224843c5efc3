/- Functions of the program, compiled, by a program (gen.py). -/
import Derived.Test.YtlcflpanellbfaaGreatDoorProg
import Derived.KernelRfl
import Derived.Test.YtlcflpanellbfaaGreatDoorM19
import Derived.Test.YtlcflpanellbfaaGreatDoorM20
import Derived.Test.YtlcflpanellbfaaGreatDoorSh
import Derived.Test.YtlcflpanellbfaaGreatDoorSp
import Derived.Test.YtlcflpanellbfaaGreatDoorIs
set_option maxRecDepth 100000
namespace Go.Proofs.YtlcflpanellbfaaGreatDoor.F
open Go.Proofs.YtlcflpanellbfaaGreatDoor.M Go.Proofs Go.RowKit
abbrev kl1_0 : List Nat := [4, 5, 6, 7, 8, 9, 10, 11, 14, 15, 16, 17, 18, 19, 20, 21, 22, 23, 24, 25]
abbrev kl1_1 : List Nat := [6, 163, 164, 165, 166, 167, 168, 169, 170, 171, 172]
abbrev kl1_2 : List Nat := [135, 136, 137, 138, 139, 140, 141, 142, 143, 144, 145, 146, 147, 148, 149, 150, 151, 152, 153, 154]
abbrev kl1_3 : List Nat := [115, 116, 117, 118, 119, 120, 121, 122, 123, 124, 125, 126, 127, 128, 129, 130, 131, 132, 133, 134]
abbrev kl1_4 : List Nat := [98, 99, 100, 101, 102, 103, 104, 105, 106, 107, 108, 109, 110, 111, 112, 113, 114]
abbrev kl1_5 : List Nat := [82, 83, 84, 85, 86, 87, 88, 89, 90, 91, 92, 93, 94, 95, 96, 97]
abbrev kl1_6 : List Nat := [66, 67, 68, 69, 70, 71, 72, 73, 74, 75, 76, 77, 78, 79, 80, 81]
abbrev kl1_7 : List Nat := [50, 51, 52, 53, 54, 55, 56, 57, 58, 59, 60, 61, 62, 63, 64, 65]
abbrev kl1_8 : List Nat := [34, 35, 36, 37, 38, 39, 40, 41, 42, 43, 44, 45, 46, 47, 48, 49]
abbrev kl1_9 : List Nat := [18, 19, 20, 21, 22, 23, 24, 25, 26, 27, 28, 29, 30, 31, 32, 33]
abbrev kl1_10 : List Nat := [10, 11, 12, 13, 14, 15, 16, 17]
abbrev kl1_11 : List Nat := [0, 2, 6, 7, 8, 9, 10, 11, 12, 13, 14, 15, 16, 17, 18, 19, 20, 21, 22, 23, 24, 25, 26, 27, 28, 29, 30, 31, 32, 33, 34, 35, 36, 37, 38, 39, 40, 41, 42, 43, 44, 45, 46, 47, 48, 49, 50, 51, 52, 53, 54, 55, 56, 57, 58, 59, 60, 61, 62, 63, 64, 65, 66, 67, 68, 69, 70, 71, 72, 73, 74, 75, 76, 77, 78, 79, 80, 81, 82, 83, 84, 85, 86, 87, 88, 89, 90, 91, 92, 93, 94, 95, 96, 97, 98, 99]
abbrev kl1_12 : List Nat := [1, 4, 6, 7, 8, 9, 10, 11, 12, 13, 14, 15, 19, 20, 21, 22, 23, 24, 25, 26]
abbrev kl1_13 : List Nat := [0, 5, 6, 7, 8, 9, 10, 14, 15, 16, 17, 18, 19, 20, 21, 22, 23, 24, 25, 26, 27, 28, 29, 30, 31, 32, 33, 34, 35, 36, 37, 38, 39, 40, 41, 42, 43, 44, 45, 46, 47, 48, 49, 50, 51, 52, 53, 54, 55, 56, 57, 58, 59, 60, 61, 62, 63, 64, 65, 66, 67, 68, 69, 70, 71, 72, 73, 74, 75]
abbrev kl1_14 : List Nat := [3, 7, 8, 9, 10, 11, 12, 13, 14, 15, 16, 20, 21, 22, 23, 24, 25, 26]
abbrev kl1_15 : List Nat := [4, 6, 7, 8, 9, 10, 11, 12, 13, 14, 15, 16]
abbrev kl1_16 : List Nat := [2, 4, 8, 9, 10, 11, 12, 13, 14, 15, 16, 17]
abbrev kl1_17 : List Nat := [2, 3, 4, 5, 6, 7, 10, 11, 12, 13, 14, 15, 16, 17, 18, 19, 20, 21, 22, 23, 24, 25, 26, 27, 28, 29, 30, 31, 32, 33, 34, 35, 36, 37, 38, 39, 40, 41, 42, 43, 44, 45, 46, 47, 48, 49, 50, 51, 52, 53, 54, 55, 56, 57, 58, 59, 60]
abbrev kl1_18 : List Nat := [2, 3, 4, 5, 6, 10, 11, 12, 13, 14, 15, 16, 17, 18, 19, 20, 21, 22, 23, 24, 25, 26, 27, 28, 29, 30, 31, 32, 33, 34, 35]
abbrev kl1_19 : List Nat := [3, 8, 9, 10, 11, 12, 13, 14, 15, 16, 17, 18, 19, 20, 21, 22, 23, 24, 25, 26, 27, 28, 29, 30, 31, 32, 33, 34, 35, 36, 37, 38, 39, 40, 41, 42, 43, 44, 45, 46, 47, 48, 49, 50, 51, 52, 53, 54, 55, 56]
abbrev kl1_20 : List Nat := [0, 2, 5, 6, 7, 8, 12, 13, 14, 15, 16, 17, 18, 19, 20, 21, 22, 23, 24, 25]
abbrev kl1_21 : List Nat := [0, 2, 5, 6, 7, 8, 12, 13, 14, 15, 16, 17, 18, 19, 20, 21, 22, 23, 24, 25, 26, 27, 28, 29, 30, 31, 32, 33]
abbrev kl1_22 : List Nat := [0, 2, 5, 6, 7, 8, 12, 13, 14, 15, 16, 17, 18, 19]
abbrev kl1_23 : List Nat := [4, 5, 6, 7, 8, 9, 10, 11, 12, 13, 14, 15, 16, 17, 18, 19, 20, 21, 22, 23, 24, 25, 26, 27, 28, 29, 30, 31]
abbrev kl1_24 : List Nat := [0, 1, 2, 4, 5, 6, 7, 8, 9, 10, 11, 12, 13, 14, 15, 16, 17, 18, 19, 23, 24, 25, 26, 27, 28, 29, 30, 31, 32]
theorem tab_ok (w0 w : World) (hw : GW w0) (hb : Below w0.heap.size w0 w) : Lib.TabIs Tryz.prog w "internal/strconv.uint64pow10" .u64 Lib.pow10Tab := by
  obtain ⟨el, fr, hh⟩ := hw.1 _ (List.mem_cons_self ..)
  have h2 := (hb.block 6 (Array.getElem?_eq_some_iff.1 hh).1).trans hh
  unfold Lib.TabIs World.var?
  rw [show Tryz.prog.globalNamed "internal/strconv.uint64pow10" = some 6 from by kernel_rfl]
  simp only [Option.bind_some]
  rw [h2]
  rfl
theorem errvar_ok {P : Program} {w0 w : World} {g : Nat} {n : String} (h : ∃ tp q el fr, w0.heap[g]? = some (.cells #[.iface tp q] el fr)) (hb : Below w0.heap.size w0 w) (hn : P.globalNamed n = some g) : ∃ tp q, w.var? P n = some #[.iface tp q] := by
  obtain ⟨tp, q, el, fr, hh⟩ := h
  have h2 := (hb.block g (Array.getElem?_eq_some_iff.1 hh).1).trans hh
  exact ⟨tp, q, by unfold World.var?; rw [hn]; simp only [Option.bind_some]; rw [h2]⟩
def c_regencylaw11_CallTells : CFn := ⟨69, .seq (.region [oN 2 (.box (tP 0)),
 oN 3 (.box (tP 1)),
 oN 4 (.mov (.con (.bool false)))])
  (.seq (.seq (.region [oN 8 (.pcall 5 []),
 oN 9 (.un .not (tP 8))])
  (.cond (tP 9) (.seq (.region [oN 4 (.mov (.con (.bool false)))])
  (.ret)) (.skip)))
  (.seq (.seq (.region [oN 10 (.load (some 11) (tP 2)),
 oN 11 (.pcall 6 [(tP 10)]),
 mV 12 11,
 oG 13 (.load (some 11) (tP 3)) 12 false,
 oG 14 (.pcall 6 [(tP 13)]) 12 false,
 oN 15 (.pick (tP 12) (.con (.bool true)) (tP 14))])
  (.cond (tP 15) (.seq (.region [oN 4 (.mov (.con (.bool true)))])
  (.ret)) (.skip)))
  (.seq (.region [oN 16 (.load (some 11) (tP 2)),
 oN 17 (.pcall 7 [(tP 16)]),
 mV 5 17])
  (.seq (.region [oN 18 (.build [.sl .ex []] []),
 oN 19 (.box (tP 18)),
 mV 6 19])
  (.seq (.region [oN 7 (.mov (.con (.str ⟨#[]⟩)))])
  (.seq (.seq (.region [mV 20 5])
  (.cond (tP 20) (.region [oN 21 (.load (some 11) (tP 2)),
 oN 22 (.pcall 8 [(tP 21)]),
 mV 7 22]) (.skip)))
  (.seq (.region [oN 23 (.load (some 11) (tP 2)),
 oN 24 (.pcall 9 [(tP 23)]),
 mV 25 5,
 oN 26 (.eqb false (tP 24) (tP 25)),
 mV 27 26,
 oG 28 (.mov (tP 6)) 27 true,
 oG 29 (.load (some 11) (tP 2)) 27 true,
 oG 30 (.call 10 [(tP 28), (tP 29)]) 27 true,
 oG 31 (.mov (tP 5)) 27 true,
 oG 32 (.eqb false (tP 30) (tP 31)) 27 true,
 oN 33 (.pick (tP 27) (tP 32) (.con (.bool false))),
 mV 34 33,
 oG 35 (.mov (tP 6)) 34 true,
 oG 36 (.call 11 [(tP 35)]) 34 true,
 oG 37 (.cBytesStr (tP 36)) 34 true,
 oG 38 (.mov (tP 7)) 34 true,
 oG 39 (.bin .eql (tP 37) (tP 38)) 34 true,
 oN 40 (.pick (tP 34) (tP 39) (.con (.bool false))),
 mV 41 40,
 oG 42 (.load (some 11) (tP 2)) 41 true,
 oG 43 (.pcall 12 [(tP 42)]) 41 true,
 oG 44 (.cBytesStr (tP 43)) 41 true,
 oG 45 (.mov (tP 7)) 41 true,
 oG 46 (.bin .eql (tP 44) (tP 45)) 41 true,
 oN 47 (.pick (tP 41) (tP 46) (.con (.bool false))),
 mV 48 47,
 oG 49 (.load (some 11) (tP 2)) 48 true,
 oG 50 (.pcall 14 [(tP 49)]) 48 true,
 oG 51 (.load (some 11) (tP 2)) 48 true,
 oG 52 (.pcall 15 [(tP 51)]) 48 true,
 oG 53 (.pcall 13 [(tP 50), (tP 52)]) 48 true,
 oN 54 (.pick (tP 48) (tP 53) (.con (.bool false))),
 mV 55 54,
 oG 56 (.load (some 11) (tP 2)) 55 true,
 oG 57 (.load (some 11) (tP 3)) 55 true,
 oG 58 (.pcall 16 [(tP 56), (tP 57)]) 55 true,
 oG 59 (.load (some 11) (tP 2)) 55 true,
 oG 60 (.load (some 11) (tP 3)) 55 true,
 oG 61 (.pcall 13 [(tP 59), (tP 60)]) 55 true,
 oG 62 (.eqb false (tP 58) (tP 61)) 55 true,
 oN 63 (.pick (tP 55) (tP 62) (.con (.bool false))),
 mV 64 63,
 oG 65 (.load (some 11) (tP 2)) 64 true,
 oG 66 (.load (some 11) (tP 2)) 64 true,
 oG 67 (.pcall 16 [(tP 65), (tP 66)]) 64 true,
 oN 68 (.pick (tP 64) (tP 67) (.con (.bool false))),
 mV 4 68])
  (.ret)))))))),
  [.tmp 4]⟩
theorem is_regencylaw11_CallTells : IsFn Tryz.prog 3 c_regencylaw11_CallTells := isFn_of [([], []), ([], [0]), ([], []), ([], []), ([], [1, 4]), ([], []), ([], []), ([], [1]), ([], []), ([], []), ([], []), ([], [1]), ([], [1, 20, 27, 29, 30, 35, 38, 44]), ([], [])] (by kernel_rfl)
def c_regencylaw11_first : CFn := ⟨60, .seq (.region [oN 0 (.mov (.con (.bool false)))])
  (.seq (.region [oN 6 (.bslice 1 false [(.con (.int .i64 1)), (.con (.int .i64 2))]),
 oN 7 (.build [.int .i64 0, .sl .ex [], .sl .ex [], .sl .ex [], .sl .ex [], .int .i64 0, .int .i64 0, .sl .ex [], .str ⟨#[]⟩, .sl .ex [], .bool false] [(0, 1, (.con (.int .i64 12))), (1, 1, (tP 6))]),
 oN 1 (.alloc [.int .i64 0, .sl .ex [], .sl .ex [], .sl .ex [], .sl .ex [], .int .i64 0, .int .i64 0, .sl .ex [], .str ⟨#[]⟩, .sl .ex [], .bool false]),
 ⟨none, .store 11 (tP 1) (tP 7), none⟩])
  (.seq (.region [oN 9 (.load (some 11) (tP 1)),
 oN 10 (.pcall 12 [(tP 9)]),
 oN 11 (.call 19 [(tP 10)]),
 oN 8 (.take (tP 11)),
 oN 12 (.extract 8 0),
 oN 13 (.extract 8 1),
 oN 2 (.alloc [.int .i64 0, .sl .ex [], .sl .ex [], .sl .ex [], .sl .ex [], .int .i64 0, .int .i64 0, .sl .ex [], .str ⟨#[]⟩, .sl .ex [], .bool false]),
 ⟨none, .store 11 (tP 2) (tP 12), none⟩,
 mV 3 13])
  (.seq (.region [oN 15 (.bslice 1 false [(.con (.int .u8 12)), (.con (.int .u8 7))]),
 oN 16 (.call 19 [(tP 15)]),
 oN 14 (.take (tP 16)),
 oN 17 (.extract 14 0),
 oN 18 (.extract 14 1),
 oN 4 (.alloc [.int .i64 0, .sl .ex [], .sl .ex [], .sl .ex [], .sl .ex [], .int .i64 0, .int .i64 0, .sl .ex [], .str ⟨#[]⟩, .sl .ex [], .bool false]),
 ⟨none, .store 11 (tP 4) (tP 17), none⟩,
 mV 5 18])
  (.seq (.region [oN 19 (.load (some 11) (tP 1)),
 oN 20 (.pcall 12 [(tP 19)]),
 oN 21 (.cBytesStr (tP 20)),
 oN 22 (.bin .eql (tP 21) (.con (.str ⟨#[12, 2, 1, 2]⟩))),
 mV 23 22,
 oG 24 (.mov (tP 3)) 23 true,
 oG 25 (.isnil .ifc false (tP 24)) 23 true,
 oN 26 (.pick (tP 23) (tP 25) (.con (.bool false))),
 mV 27 26,
 oG 28 (.load (some 11) (tP 2)) 27 true,
 oG 29 (.load (some 11) (tP 1)) 27 true,
 oG 30 (.pcall 16 [(tP 28), (tP 29)]) 27 true,
 oN 31 (.pick (tP 27) (tP 30) (.con (.bool false))),
 mV 32 31,
 oG 33 (.mov (tP 5)) 32 true,
 oG 34 (.isnil .ifc true (tP 33)) 32 true,
 oN 35 (.pick (tP 32) (tP 34) (.con (.bool false))),
 mV 36 35,
 oG 37 (.mov (tP 5)) 36 true,
 oG 38 (.call 20 [(tP 37)]) 36 true,
 oG 39 (.bin .eql (tP 38) (.con (.int .i64 10))) 36 true,
 oN 40 (.pick (tP 36) (tP 39) (.con (.bool false))),
 mV 41 40,
 oG 42 (.mov (tP 5)) 41 true,
 oG 43 (.call 21 [(tP 42)]) 41 true,
 oG 44 (.bin .eql (tP 43) (.con (.str ⟨#[99, 97, 108, 108]⟩))) 41 true,
 oN 45 (.pick (tP 41) (tP 44) (.con (.bool false))),
 mV 46 45,
 oG 47 (.mov (tP 5)) 46 true,
 oG 48 (.call 22 [(tP 47), (.con (.int .i64 13))]) 46 true,
 oN 49 (.pick (tP 46) (tP 48) (.con (.bool false))),
 mV 50 49,
 oG 51 (.load (some 11) (tP 1)) 50 true,
 oG 52 (.pcall 9 [(tP 51)]) 50 true,
 oN 53 (.pick (tP 50) (tP 52) (.con (.bool false))),
 mV 54 53,
 oG 55 (.build [.int .i64 0, .sl .ex [], .sl .ex [], .sl .ex [], .sl .ex [], .int .i64 0, .int .i64 0, .sl .ex [], .str ⟨#[]⟩, .sl .ex [], .bool false] [(5, 1, (.con (.int .i64 3)))]) 54 true,
 oG 56 (.pcall 14 [(tP 55)]) 54 true,
 oG 57 (.fld none 5 (tP 56)) 54 true,
 oG 58 (.bin .eql (tP 57) (.con (.int .i64 0))) 54 true,
 oN 59 (.pick (tP 54) (tP 58) (.con (.bool false))),
 mV 0 59])
  (.ret))))),
  [.tmp 0]⟩
theorem is_regencylaw11_first : IsFn Tryz.prog 5 c_regencylaw11_first := isFn_of [([], []), ([], []), ([], [1, 3]), ([], [2]), ([], [1, 11, 33, 37]), ([], [])] (by kernel_rfl)
def c_regencylaw11_great : CFn := ⟨41, .seq (.region [oN 1 (.box (tP 0)),
 oN 2 (.mov (.con (.bool false)))])
  (.seq (.region [oN 3 (.faddr 1 (tP 1)),
 lD 4 3,
 oN 5 (.lenl (tP 4)),
 oN 6 (.bin .gtr (tP 5) (.con (.int .i64 60))),
 mV 7 6,
 oG 8 (.faddr 9 (tP 1)) 7 false,
 oG 9 (.load none (tP 8)) 7 false,
 oG 10 (.lenl (tP 9)) 7 false,
 oG 11 (.bin .gtr (tP 10) (.con (.int .i64 60))) 7 false,
 oN 12 (.pick (tP 7) (.con (.bool true)) (tP 11)),
 mV 13 12,
 oG 14 (.faddr 2 (tP 1)) 13 false,
 oG 15 (.load none (tP 14)) 13 false,
 oG 16 (.lenl (tP 15)) 13 false,
 oG 17 (.faddr 3 (tP 1)) 13 false,
 oG 18 (.load none (tP 17)) 13 false,
 oG 19 (.lenl (tP 18)) 13 false,
 oG 20 (.bin .add (tP 16) (tP 19)) 13 false,
 oG 21 (.bin .gtr (tP 20) (.con (.int .i64 60))) 13 false,
 oN 22 (.pick (tP 13) (.con (.bool true)) (tP 21)),
 mV 23 22,
 oG 24 (.faddr 4 (tP 1)) 23 false,
 oG 25 (.load none (tP 24)) 23 false,
 oG 26 (.lenl (tP 25)) 23 false,
 oG 27 (.bin .gtr (tP 26) (.con (.int .i64 60))) 23 false,
 oN 28 (.pick (tP 23) (.con (.bool true)) (tP 27)),
 mV 29 28,
 oG 30 (.faddr 7 (tP 1)) 29 false,
 oG 31 (.load none (tP 30)) 29 false,
 oG 32 (.lenl (tP 31)) 29 false,
 oG 33 (.bin .gtr (tP 32) (.con (.int .i64 600))) 29 false,
 oN 34 (.pick (tP 29) (.con (.bool true)) (tP 33)),
 mV 35 34,
 oG 36 (.faddr 8 (tP 1)) 35 false,
 oG 37 (.load none (tP 36)) 35 false,
 oG 38 (.lens (tP 37)) 35 false,
 oG 39 (.bin .gtr (tP 38) (.con (.int .i64 100))) 35 false,
 oN 40 (.pick (tP 35) (.con (.bool true)) (tP 39)),
 mV 2 40])
  (.ret)),
  [.tmp 2]⟩
theorem is_regencylaw11_great : IsFn Tryz.prog 6 c_regencylaw11_great := isFn_of [([], []), ([], []), ([], [])] (by kernel_rfl)
def t_regencyref11_Right_13 : CC := .seq (.kill [173, 174] (.region [mV 181 4,
 mV 182 181,
 oG 183 (.faddr 5 (tP 1)) 182 true,
 oG 184 (.load none (tP 183)) 182 true,
 oG 185 (.bin .eql (tP 184) (.con (.int .i64 0))) 182 true,
 oG 186 (.mov (tP 185)) 182 true,
 oG 187 (.mov (tP 3)) 186 false,
 oG 188 (.pcall 24 [(tP 187), (.con (.int .u8 100))]) 186 false,
 oG 189 (.pick (tP 186) (.con (.bool true)) (tP 188)) 182 true,
 oN 190 (.pick (tP 182) (tP 189) (.con (.bool false))),
 mV 2 190]))
  (.ret)
abbrev w_regencyref11_Right_13 : List Nat := [173, 174]
abbrev q_regencyref11_Right_13 (v1 v3 v4 v5 v157 v158 v159 v160 v161 v162 : AV) : List AV := [.any, v1, .any, v3, v4, v5, .any, .any, .any, .any, .any, .any, .any, .any, .any, .any, .any, .any, .any, .any, .any, .any, .any, .any, .any, .any, .any, .any, .any, .any, .any, .any, .any, .any, .any, .any, .any, .any, .any, .any, .any, .any, .any, .any, .any, .any, .any, .any, .any, .any, .any, .any, .any, .any, .any, .any, .any, .any, .any, .any, .any, .any, .any, .any, .any, .any, .any, .any, .any, .any, .any, .any, .any, .any, .any, .any, .any, .any, .any, .any, .any, .any, .any, .any, .any, .any, .any, .any, .any, .any, .any, .any, .any, .any, .any, .any, .any, .any, .any, .any, .any, .any, .any, .any, .any, .any, .any, .any, .any, .any, .any, .any, .any, .any, .any, .any, .any, .any, .any, .any, .any, .any, .any, .any, .any, .any, .any, .any, .any, .any, .any, .any, .any, .any, .any, .any, .any, .any, .any, .any, .any, .any, .any, .any, .any, .any, .any, .any, .any, .any, .any, .any, .any, .any, .any, .any, .any, v157, v158, v159, v160, v161, v162, .any, .any, .any, .any, .any, .any, .any, .any, .any, .any, .any, .any, undefA, undefA, undefA, undefA, undefA, undefA, undefA, undefA, undefA, undefA, undefA, undefA, undefA, undefA, undefA, undefA]
def t_regencyref11_Right_12 : CC := .seq (.seq (.kill kl1_1 (.region [mV 173 3,
 oN 174 (.pcall 24 [(tP 173), (.con (.int .u8 110))])]))
  (.cond (tP 174) (.seq (.kill [3, 173, 174] (.region [mV 175 4,
 mV 176 175,
 oG 177 (.faddr 5 (tP 1)) 176 true,
 oG 178 (.load none (tP 177)) 176 true,
 oG 179 (.bin .geq (tP 178) (.con (.int .i64 0))) 176 true,
 oN 180 (.pick (tP 176) (tP 179) (.con (.bool false))),
 mV 2 180]))
  (.ret)) (.skip)))
  (t_regencyref11_Right_13)
abbrev w_regencyref11_Right_12 : List Nat := kl1_1
abbrev q_regencyref11_Right_12 (v1 v3 v4 v5 v157 v158 v159 v160 v161 v162 : AV) : List AV := [.any, v1, .any, v3, v4, v5, .any, .any, .any, .any, .any, .any, .any, .any, .any, .any, .any, .any, .any, .any, .any, .any, .any, .any, .any, .any, .any, .any, .any, .any, .any, .any, .any, .any, .any, .any, .any, .any, .any, .any, .any, .any, .any, .any, .any, .any, .any, .any, .any, .any, .any, .any, .any, .any, .any, .any, .any, .any, .any, .any, .any, .any, .any, .any, .any, .any, .any, .any, .any, .any, .any, .any, .any, .any, .any, .any, .any, .any, .any, .any, .any, .any, .any, .any, .any, .any, .any, .any, .any, .any, .any, .any, .any, .any, .any, .any, .any, .any, .any, .any, .any, .any, .any, .any, .any, .any, .any, .any, .any, .any, .any, .any, .any, .any, .any, .any, .any, .any, .any, .any, .any, .any, .any, .any, .any, .any, .any, .any, .any, .any, .any, .any, .any, .any, .any, .any, .any, .any, .any, .any, .any, .any, .any, .any, .any, .any, .any, .any, .any, .any, .any, .any, .any, .any, .any, .any, .any, v157, v158, v159, v160, v161, v162, .any, .any, .any, .any, .any, .any, .any, .any, .any, .any, undefA, undefA, undefA, undefA, undefA, undefA, undefA, undefA, undefA, undefA, undefA, undefA, undefA, undefA, undefA, undefA, undefA, undefA]
def t_regencyref11_Right_11 : CC := .seq (.seq (.kill kl1_2 (.region [mV 155 3,
 oN 156 (.pcall 24 [(tP 155), (.con (.int .u8 99))])]))
  (.cond (tP 156) (.seq (.kill [155, 156] (.region [oN 158 (.faddr 8 (tP 1)),
 lD 159 158,
 oN 160 (.pcall 28 [(tP 159)]),
 oN 157 (.take (tP 160)),
 oN 161 (.extract 157 0),
 oN 162 (.extract 157 1),
 oN 5 (.alloc [.sl .ex [], .int .i64 0]),
 ⟨none, .store 2 (tP 5) (tP 161), none⟩,
 mV 6 162]))
  (.kill [5, 157, 158, 159, 160, 161, 162] (.region [mV 163 4,
 mV 164 163,
 oG 165 (.mov (tP 6)) 164 true,
 oN 166 (.pick (tP 164) (tP 165) (.con (.bool false))),
 mV 4 166]))) (.kill [155, 156] (.region [mV 167 4,
 mV 168 167,
 oG 169 (.faddr 8 (tP 1)) 168 true,
 oG 170 (.load none (tP 169)) 168 true,
 oG 171 (.bin .eql (tP 170) (.con (.str ⟨#[]⟩))) 168 true,
 oN 172 (.pick (tP 168) (tP 171) (.con (.bool false))),
 mV 4 172]))))
  (t_regencyref11_Right_12)
abbrev w_regencyref11_Right_11 : List Nat := kl1_2
abbrev q_regencyref11_Right_11 (v1 v3 v4 : AV) : List AV := [.any, v1, .any, v3, v4, undefA, undefA, .any, .any, .any, .any, .any, .any, .any, .any, .any, .any, .any, .any, .any, .any, .any, .any, .any, .any, .any, .any, .any, .any, .any, .any, .any, .any, .any, .any, .any, .any, .any, .any, .any, .any, .any, .any, .any, .any, .any, .any, .any, .any, .any, .any, .any, .any, .any, .any, .any, .any, .any, .any, .any, .any, .any, .any, .any, .any, .any, .any, .any, .any, .any, .any, .any, .any, .any, .any, .any, .any, .any, .any, .any, .any, .any, .any, .any, .any, .any, .any, .any, .any, .any, .any, .any, .any, .any, .any, .any, .any, .any, .any, .any, .any, .any, .any, .any, .any, .any, .any, .any, .any, .any, .any, .any, .any, .any, .any, .any, .any, .any, .any, .any, .any, .any, .any, .any, .any, .any, .any, .any, .any, .any, .any, .any, .any, .any, .any, .any, .any, .any, .any, .any, .any, .any, .any, .any, .any, .any, .any, .any, .any, .any, .any, .any, .any, .any, .any, undefA, undefA, undefA, undefA, undefA, undefA, undefA, undefA, undefA, undefA, undefA, undefA, undefA, undefA, undefA, undefA, undefA, undefA, undefA, undefA, undefA, undefA, undefA, undefA, undefA, undefA, undefA, undefA, undefA, undefA, undefA, undefA, undefA, undefA, undefA, undefA]
def t_regencyref11_Right_10 : CC := .seq (.kill kl1_3 (.region [mV 135 4,
 mV 136 135,
 oG 137 (.faddr 10 (tP 1)) 136 true,
 oG 138 (.load none (tP 137)) 136 true,
 oG 139 (.un .not (tP 138)) 136 true,
 oG 140 (.mov (tP 139)) 136 true,
 oG 141 (.mov (tP 3)) 140 false,
 oG 142 (.pcall 24 [(tP 141), (.con (.int .u8 119))]) 140 false,
 oG 143 (.pick (tP 140) (.con (.bool true)) (tP 142)) 136 true,
 oN 144 (.pick (tP 136) (tP 143) (.con (.bool false))),
 mV 145 144,
 oG 146 (.faddr 5 (tP 1)) 145 true,
 oG 147 (.load none (tP 146)) 145 true,
 oG 148 (.bin .leq (tP 147) (.con (.int .i64 1048576))) 145 true,
 oN 149 (.pick (tP 145) (tP 148) (.con (.bool false))),
 mV 150 149,
 oG 151 (.faddr 5 (tP 1)) 150 true,
 oG 152 (.load none (tP 151)) 150 true,
 oG 153 (.bin .geq (tP 152) (.con (.int .i64 (-1048576)))) 150 true,
 oN 154 (.pick (tP 150) (tP 153) (.con (.bool false))),
 mV 4 154]))
  (t_regencyref11_Right_11)
abbrev w_regencyref11_Right_10 : List Nat := kl1_3
abbrev q_regencyref11_Right_10 (v1 v3 v4 : AV) : List AV := [.any, v1, .any, v3, v4, undefA, undefA, .any, .any, .any, .any, .any, .any, .any, .any, .any, .any, .any, .any, .any, .any, .any, .any, .any, .any, .any, .any, .any, .any, .any, .any, .any, .any, .any, .any, .any, .any, .any, .any, .any, .any, .any, .any, .any, .any, .any, .any, .any, .any, .any, .any, .any, .any, .any, .any, .any, .any, .any, .any, .any, .any, .any, .any, .any, .any, .any, .any, .any, .any, .any, .any, .any, .any, .any, .any, .any, .any, .any, .any, .any, .any, .any, .any, .any, .any, .any, .any, .any, .any, .any, .any, .any, .any, .any, .any, .any, .any, .any, .any, .any, .any, .any, .any, .any, .any, .any, .any, .any, .any, .any, .any, .any, .any, .any, .any, .any, .any, .any, .any, .any, .any, .any, .any, .any, .any, .any, .any, .any, .any, .any, .any, .any, .any, .any, .any, undefA, undefA, undefA, undefA, undefA, undefA, undefA, undefA, undefA, undefA, undefA, undefA, undefA, undefA, undefA, undefA, undefA, undefA, undefA, undefA, undefA, undefA, undefA, undefA, undefA, undefA, undefA, undefA, undefA, undefA, undefA, undefA, undefA, undefA, undefA, undefA, undefA, undefA, undefA, undefA, undefA, undefA, undefA, undefA, undefA, undefA, undefA, undefA, undefA, undefA, undefA, undefA, undefA, undefA, undefA, undefA]
def t_regencyref11_Right_9 : CC := .seq (.kill kl1_4 (.region [mV 115 4,
 mV 116 115,
 oG 117 (.faddr 6 (tP 1)) 116 true,
 oG 118 (.load none (tP 117)) 116 true,
 oG 119 (.bin .eql (tP 118) (.con (.int .i64 0))) 116 true,
 oG 120 (.mov (tP 119)) 116 true,
 oG 121 (.mov (tP 3)) 120 false,
 oG 122 (.pcall 24 [(tP 121), (.con (.int .u8 109))]) 120 false,
 oG 123 (.pick (tP 120) (.con (.bool true)) (tP 122)) 116 true,
 oN 124 (.pick (tP 116) (tP 123) (.con (.bool false))),
 mV 125 124,
 oG 126 (.faddr 6 (tP 1)) 125 true,
 oG 127 (.load none (tP 126)) 125 true,
 oG 128 (.bin .geq (tP 127) (.con (.int .i64 0))) 125 true,
 oN 129 (.pick (tP 125) (tP 128) (.con (.bool false))),
 mV 130 129,
 oG 131 (.faddr 6 (tP 1)) 130 true,
 oG 132 (.load none (tP 131)) 130 true,
 oG 133 (.bin .leq (tP 132) (.con (.int .i64 1048576))) 130 true,
 oN 134 (.pick (tP 130) (tP 133) (.con (.bool false))),
 mV 4 134]))
  (t_regencyref11_Right_10)
abbrev w_regencyref11_Right_9 : List Nat := kl1_4
abbrev q_regencyref11_Right_9 (v1 v3 v4 : AV) : List AV := [.any, v1, .any, v3, v4, undefA, undefA, .any, .any, .any, .any, .any, .any, .any, .any, .any, .any, .any, .any, .any, .any, .any, .any, .any, .any, .any, .any, .any, .any, .any, .any, .any, .any, .any, .any, .any, .any, .any, .any, .any, .any, .any, .any, .any, .any, .any, .any, .any, .any, .any, .any, .any, .any, .any, .any, .any, .any, .any, .any, .any, .any, .any, .any, .any, .any, .any, .any, .any, .any, .any, .any, .any, .any, .any, .any, .any, .any, .any, .any, .any, .any, .any, .any, .any, .any, .any, .any, .any, .any, .any, .any, .any, .any, .any, .any, .any, .any, .any, .any, .any, .any, .any, .any, .any, .any, .any, .any, .any, .any, .any, .any, .any, .any, .any, .any, undefA, undefA, undefA, undefA, undefA, undefA, undefA, undefA, undefA, undefA, undefA, undefA, undefA, undefA, undefA, undefA, undefA, undefA, undefA, undefA, undefA, undefA, undefA, undefA, undefA, undefA, undefA, undefA, undefA, undefA, undefA, undefA, undefA, undefA, undefA, undefA, undefA, undefA, undefA, undefA, undefA, undefA, undefA, undefA, undefA, undefA, undefA, undefA, undefA, undefA, undefA, undefA, undefA, undefA, undefA, undefA, undefA, undefA, undefA, undefA, undefA, undefA, undefA, undefA, undefA, undefA, undefA, undefA, undefA, undefA, undefA, undefA, undefA, undefA, undefA, undefA]
def t_regencyref11_Right_8 : CC := .seq (.kill kl1_5 (.region [mV 98 4,
 mV 99 98,
 oG 100 (.faddr 7 (tP 1)) 99 true,
 oG 101 (.load none (tP 100)) 99 true,
 oG 102 (.lenl (tP 101)) 99 true,
 oG 103 (.bin .eql (tP 102) (.con (.int .i64 0))) 99 true,
 oG 104 (.mov (tP 103)) 99 true,
 oG 105 (.mov (tP 3)) 104 false,
 oG 106 (.pcall 24 [(tP 105), (.con (.int .u8 116))]) 104 false,
 oG 107 (.pick (tP 104) (.con (.bool true)) (tP 106)) 99 true,
 oN 108 (.pick (tP 99) (tP 107) (.con (.bool false))),
 mV 109 108,
 oG 110 (.faddr 7 (tP 1)) 109 true,
 oG 111 (.load none (tP 110)) 109 true,
 oG 112 (.lenl (tP 111)) 109 true,
 oG 113 (.bin .leq (tP 112) (.con (.int .i64 256))) 109 true,
 oN 114 (.pick (tP 109) (tP 113) (.con (.bool false))),
 mV 4 114]))
  (t_regencyref11_Right_9)
abbrev w_regencyref11_Right_8 : List Nat := kl1_5
abbrev q_regencyref11_Right_8 (v1 v3 v4 : AV) : List AV := [.any, v1, .any, v3, v4, undefA, undefA, .any, .any, .any, .any, .any, .any, .any, .any, .any, .any, .any, .any, .any, .any, .any, .any, .any, .any, .any, .any, .any, .any, .any, .any, .any, .any, .any, .any, .any, .any, .any, .any, .any, .any, .any, .any, .any, .any, .any, .any, .any, .any, .any, .any, .any, .any, .any, .any, .any, .any, .any, .any, .any, .any, .any, .any, .any, .any, .any, .any, .any, .any, .any, .any, .any, .any, .any, .any, .any, .any, .any, .any, .any, .any, .any, .any, .any, .any, .any, .any, .any, .any, .any, .any, .any, .any, .any, .any, .any, .any, .any, undefA, undefA, undefA, undefA, undefA, undefA, undefA, undefA, undefA, undefA, undefA, undefA, undefA, undefA, undefA, undefA, undefA, undefA, undefA, undefA, undefA, undefA, undefA, undefA, undefA, undefA, undefA, undefA, undefA, undefA, undefA, undefA, undefA, undefA, undefA, undefA, undefA, undefA, undefA, undefA, undefA, undefA, undefA, undefA, undefA, undefA, undefA, undefA, undefA, undefA, undefA, undefA, undefA, undefA, undefA, undefA, undefA, undefA, undefA, undefA, undefA, undefA, undefA, undefA, undefA, undefA, undefA, undefA, undefA, undefA, undefA, undefA, undefA, undefA, undefA, undefA, undefA, undefA, undefA, undefA, undefA, undefA, undefA, undefA, undefA, undefA, undefA, undefA, undefA, undefA, undefA, undefA, undefA]
def t_regencyref11_Right_7 : CC := .seq (.kill kl1_6 (.region [mV 82 4,
 mV 83 82,
 oG 84 (.faddr 9 (tP 1)) 83 true,
 oG 85 (.load none (tP 84)) 83 true,
 oG 86 (.lenl (tP 85)) 83 true,
 oG 87 (.bin .eql (tP 86) (.con (.int .i64 0))) 83 true,
 oG 88 (.mov (tP 87)) 83 true,
 oG 89 (.mov (tP 3)) 88 false,
 oG 90 (.pcall 24 [(tP 89), (.con (.int .u8 115))]) 88 false,
 oG 91 (.pick (tP 88) (.con (.bool true)) (tP 90)) 83 true,
 oN 92 (.pick (tP 83) (tP 91) (.con (.bool false))),
 mV 93 92,
 oG 94 (.faddr 9 (tP 1)) 93 true,
 oG 95 (.load none (tP 94)) 93 true,
 oG 96 (.pcall 25 [(tP 95)]) 93 true,
 oN 97 (.pick (tP 93) (tP 96) (.con (.bool false))),
 mV 4 97]))
  (t_regencyref11_Right_8)
abbrev w_regencyref11_Right_7 : List Nat := kl1_6
abbrev q_regencyref11_Right_7 (v1 v3 v4 : AV) : List AV := [.any, v1, .any, v3, v4, undefA, undefA, .any, .any, .any, .any, .any, .any, .any, .any, .any, .any, .any, .any, .any, .any, .any, .any, .any, .any, .any, .any, .any, .any, .any, .any, .any, .any, .any, .any, .any, .any, .any, .any, .any, .any, .any, .any, .any, .any, .any, .any, .any, .any, .any, .any, .any, .any, .any, .any, .any, .any, .any, .any, .any, .any, .any, .any, .any, .any, .any, .any, .any, .any, .any, .any, .any, .any, .any, .any, .any, .any, .any, .any, .any, .any, .any, undefA, undefA, undefA, undefA, undefA, undefA, undefA, undefA, undefA, undefA, undefA, undefA, undefA, undefA, undefA, undefA, undefA, undefA, undefA, undefA, undefA, undefA, undefA, undefA, undefA, undefA, undefA, undefA, undefA, undefA, undefA, undefA, undefA, undefA, undefA, undefA, undefA, undefA, undefA, undefA, undefA, undefA, undefA, undefA, undefA, undefA, undefA, undefA, undefA, undefA, undefA, undefA, undefA, undefA, undefA, undefA, undefA, undefA, undefA, undefA, undefA, undefA, undefA, undefA, undefA, undefA, undefA, undefA, undefA, undefA, undefA, undefA, undefA, undefA, undefA, undefA, undefA, undefA, undefA, undefA, undefA, undefA, undefA, undefA, undefA, undefA, undefA, undefA, undefA, undefA, undefA, undefA, undefA, undefA, undefA, undefA, undefA, undefA, undefA, undefA, undefA, undefA, undefA, undefA, undefA, undefA, undefA, undefA, undefA]
def t_regencyref11_Right_6 : CC := .seq (.kill kl1_7 (.region [mV 66 4,
 mV 67 66,
 oG 68 (.faddr 4 (tP 1)) 67 true,
 oG 69 (.load none (tP 68)) 67 true,
 oG 70 (.lenl (tP 69)) 67 true,
 oG 71 (.bin .eql (tP 70) (.con (.int .i64 0))) 67 true,
 oG 72 (.mov (tP 71)) 67 true,
 oG 73 (.mov (tP 3)) 72 false,
 oG 74 (.pcall 24 [(tP 73), (.con (.int .u8 111))]) 72 false,
 oG 75 (.pick (tP 72) (.con (.bool true)) (tP 74)) 67 true,
 oN 76 (.pick (tP 67) (tP 75) (.con (.bool false))),
 mV 77 76,
 oG 78 (.faddr 4 (tP 1)) 77 true,
 oG 79 (.load none (tP 78)) 77 true,
 oG 80 (.pcall 27 [(tP 79)]) 77 true,
 oN 81 (.pick (tP 77) (tP 80) (.con (.bool false))),
 mV 4 81]))
  (t_regencyref11_Right_7)
abbrev w_regencyref11_Right_6 : List Nat := kl1_7
abbrev q_regencyref11_Right_6 (v1 v3 v4 : AV) : List AV := [.any, v1, .any, v3, v4, undefA, undefA, .any, .any, .any, .any, .any, .any, .any, .any, .any, .any, .any, .any, .any, .any, .any, .any, .any, .any, .any, .any, .any, .any, .any, .any, .any, .any, .any, .any, .any, .any, .any, .any, .any, .any, .any, .any, .any, .any, .any, .any, .any, .any, .any, .any, .any, .any, .any, .any, .any, .any, .any, .any, .any, .any, .any, .any, .any, .any, .any, undefA, undefA, undefA, undefA, undefA, undefA, undefA, undefA, undefA, undefA, undefA, undefA, undefA, undefA, undefA, undefA, undefA, undefA, undefA, undefA, undefA, undefA, undefA, undefA, undefA, undefA, undefA, undefA, undefA, undefA, undefA, undefA, undefA, undefA, undefA, undefA, undefA, undefA, undefA, undefA, undefA, undefA, undefA, undefA, undefA, undefA, undefA, undefA, undefA, undefA, undefA, undefA, undefA, undefA, undefA, undefA, undefA, undefA, undefA, undefA, undefA, undefA, undefA, undefA, undefA, undefA, undefA, undefA, undefA, undefA, undefA, undefA, undefA, undefA, undefA, undefA, undefA, undefA, undefA, undefA, undefA, undefA, undefA, undefA, undefA, undefA, undefA, undefA, undefA, undefA, undefA, undefA, undefA, undefA, undefA, undefA, undefA, undefA, undefA, undefA, undefA, undefA, undefA, undefA, undefA, undefA, undefA, undefA, undefA, undefA, undefA, undefA, undefA, undefA, undefA, undefA, undefA, undefA, undefA, undefA, undefA, undefA, undefA, undefA, undefA]
def t_regencyref11_Right_5 : CC := .seq (.kill kl1_8 (.region [mV 50 4,
 mV 51 50,
 oG 52 (.faddr 3 (tP 1)) 51 true,
 oG 53 (.load none (tP 52)) 51 true,
 oG 54 (.lenl (tP 53)) 51 true,
 oG 55 (.bin .eql (tP 54) (.con (.int .i64 0))) 51 true,
 oG 56 (.mov (tP 55)) 51 true,
 oG 57 (.mov (tP 3)) 56 false,
 oG 58 (.pcall 24 [(tP 57), (.con (.int .u8 101))]) 56 false,
 oG 59 (.pick (tP 56) (.con (.bool true)) (tP 58)) 51 true,
 oN 60 (.pick (tP 51) (tP 59) (.con (.bool false))),
 mV 61 60,
 oG 62 (.faddr 3 (tP 1)) 61 true,
 oG 63 (.load none (tP 62)) 61 true,
 oG 64 (.pcall 26 [(tP 63)]) 61 true,
 oN 65 (.pick (tP 61) (tP 64) (.con (.bool false))),
 mV 4 65]))
  (t_regencyref11_Right_6)
abbrev w_regencyref11_Right_5 : List Nat := kl1_8
abbrev q_regencyref11_Right_5 (v1 v3 v4 : AV) : List AV := [.any, v1, .any, v3, v4, undefA, undefA, .any, .any, .any, .any, .any, .any, .any, .any, .any, .any, .any, .any, .any, .any, .any, .any, .any, .any, .any, .any, .any, .any, .any, .any, .any, .any, .any, .any, .any, .any, .any, .any, .any, .any, .any, .any, .any, .any, .any, .any, .any, .any, .any, undefA, undefA, undefA, undefA, undefA, undefA, undefA, undefA, undefA, undefA, undefA, undefA, undefA, undefA, undefA, undefA, undefA, undefA, undefA, undefA, undefA, undefA, undefA, undefA, undefA, undefA, undefA, undefA, undefA, undefA, undefA, undefA, undefA, undefA, undefA, undefA, undefA, undefA, undefA, undefA, undefA, undefA, undefA, undefA, undefA, undefA, undefA, undefA, undefA, undefA, undefA, undefA, undefA, undefA, undefA, undefA, undefA, undefA, undefA, undefA, undefA, undefA, undefA, undefA, undefA, undefA, undefA, undefA, undefA, undefA, undefA, undefA, undefA, undefA, undefA, undefA, undefA, undefA, undefA, undefA, undefA, undefA, undefA, undefA, undefA, undefA, undefA, undefA, undefA, undefA, undefA, undefA, undefA, undefA, undefA, undefA, undefA, undefA, undefA, undefA, undefA, undefA, undefA, undefA, undefA, undefA, undefA, undefA, undefA, undefA, undefA, undefA, undefA, undefA, undefA, undefA, undefA, undefA, undefA, undefA, undefA, undefA, undefA, undefA, undefA, undefA, undefA, undefA, undefA, undefA, undefA, undefA, undefA, undefA, undefA, undefA, undefA, undefA, undefA, undefA, undefA]
def t_regencyref11_Right_4 : CC := .seq (.kill kl1_9 (.region [mV 34 4,
 mV 35 34,
 oG 36 (.faddr 2 (tP 1)) 35 true,
 oG 37 (.load none (tP 36)) 35 true,
 oG 38 (.lenl (tP 37)) 35 true,
 oG 39 (.bin .eql (tP 38) (.con (.int .i64 0))) 35 true,
 oG 40 (.mov (tP 39)) 35 true,
 oG 41 (.mov (tP 3)) 40 false,
 oG 42 (.pcall 24 [(tP 41), (.con (.int .u8 108))]) 40 false,
 oG 43 (.pick (tP 40) (.con (.bool true)) (tP 42)) 35 true,
 oN 44 (.pick (tP 35) (tP 43) (.con (.bool false))),
 mV 45 44,
 oG 46 (.faddr 2 (tP 1)) 45 true,
 oG 47 (.load none (tP 46)) 45 true,
 oG 48 (.pcall 26 [(tP 47)]) 45 true,
 oN 49 (.pick (tP 45) (tP 48) (.con (.bool false))),
 mV 4 49]))
  (t_regencyref11_Right_5)
abbrev w_regencyref11_Right_4 : List Nat := kl1_9
abbrev q_regencyref11_Right_4 (v1 v3 v4 : AV) : List AV := [.any, v1, .any, v3, v4, undefA, undefA, .any, .any, .any, .any, .any, .any, .any, .any, .any, .any, .any, .any, .any, .any, .any, .any, .any, .any, .any, .any, .any, .any, .any, .any, .any, .any, .any, undefA, undefA, undefA, undefA, undefA, undefA, undefA, undefA, undefA, undefA, undefA, undefA, undefA, undefA, undefA, undefA, undefA, undefA, undefA, undefA, undefA, undefA, undefA, undefA, undefA, undefA, undefA, undefA, undefA, undefA, undefA, undefA, undefA, undefA, undefA, undefA, undefA, undefA, undefA, undefA, undefA, undefA, undefA, undefA, undefA, undefA, undefA, undefA, undefA, undefA, undefA, undefA, undefA, undefA, undefA, undefA, undefA, undefA, undefA, undefA, undefA, undefA, undefA, undefA, undefA, undefA, undefA, undefA, undefA, undefA, undefA, undefA, undefA, undefA, undefA, undefA, undefA, undefA, undefA, undefA, undefA, undefA, undefA, undefA, undefA, undefA, undefA, undefA, undefA, undefA, undefA, undefA, undefA, undefA, undefA, undefA, undefA, undefA, undefA, undefA, undefA, undefA, undefA, undefA, undefA, undefA, undefA, undefA, undefA, undefA, undefA, undefA, undefA, undefA, undefA, undefA, undefA, undefA, undefA, undefA, undefA, undefA, undefA, undefA, undefA, undefA, undefA, undefA, undefA, undefA, undefA, undefA, undefA, undefA, undefA, undefA, undefA, undefA, undefA, undefA, undefA, undefA, undefA, undefA, undefA, undefA, undefA, undefA, undefA, undefA, undefA, undefA, undefA, undefA, undefA, undefA, undefA]
def t_regencyref11_Right_3 : CC := .seq (.kill kl1_10 (.region [mV 18 4,
 mV 19 18,
 oG 20 (.faddr 1 (tP 1)) 19 true,
 oG 21 (.load none (tP 20)) 19 true,
 oG 22 (.lenl (tP 21)) 19 true,
 oG 23 (.bin .eql (tP 22) (.con (.int .i64 0))) 19 true,
 oG 24 (.mov (tP 23)) 19 true,
 oG 25 (.mov (tP 3)) 24 false,
 oG 26 (.pcall 24 [(tP 25), (.con (.int .u8 97))]) 24 false,
 oG 27 (.pick (tP 24) (.con (.bool true)) (tP 26)) 19 true,
 oN 28 (.pick (tP 19) (tP 27) (.con (.bool false))),
 mV 29 28,
 oG 30 (.faddr 1 (tP 1)) 29 true,
 oG 31 (.load none (tP 30)) 29 true,
 oG 32 (.pcall 25 [(tP 31)]) 29 true,
 oN 33 (.pick (tP 29) (tP 32) (.con (.bool false))),
 mV 4 33]))
  (t_regencyref11_Right_4)
abbrev w_regencyref11_Right_3 : List Nat := kl1_10
abbrev q_regencyref11_Right_3 (v1 v3 v4 : AV) : List AV := [.any, v1, .any, v3, v4, undefA, undefA, .any, .any, .any, .any, .any, .any, .any, .any, .any, .any, .any, undefA, undefA, undefA, undefA, undefA, undefA, undefA, undefA, undefA, undefA, undefA, undefA, undefA, undefA, undefA, undefA, undefA, undefA, undefA, undefA, undefA, undefA, undefA, undefA, undefA, undefA, undefA, undefA, undefA, undefA, undefA, undefA, undefA, undefA, undefA, undefA, undefA, undefA, undefA, undefA, undefA, undefA, undefA, undefA, undefA, undefA, undefA, undefA, undefA, undefA, undefA, undefA, undefA, undefA, undefA, undefA, undefA, undefA, undefA, undefA, undefA, undefA, undefA, undefA, undefA, undefA, undefA, undefA, undefA, undefA, undefA, undefA, undefA, undefA, undefA, undefA, undefA, undefA, undefA, undefA, undefA, undefA, undefA, undefA, undefA, undefA, undefA, undefA, undefA, undefA, undefA, undefA, undefA, undefA, undefA, undefA, undefA, undefA, undefA, undefA, undefA, undefA, undefA, undefA, undefA, undefA, undefA, undefA, undefA, undefA, undefA, undefA, undefA, undefA, undefA, undefA, undefA, undefA, undefA, undefA, undefA, undefA, undefA, undefA, undefA, undefA, undefA, undefA, undefA, undefA, undefA, undefA, undefA, undefA, undefA, undefA, undefA, undefA, undefA, undefA, undefA, undefA, undefA, undefA, undefA, undefA, undefA, undefA, undefA, undefA, undefA, undefA, undefA, undefA, undefA, undefA, undefA, undefA, undefA, undefA, undefA, undefA, undefA, undefA, undefA, undefA, undefA, undefA, undefA, undefA, undefA, undefA, undefA]
def t_regencyref11_Right_2 : CC := .seq (.kill [7, 8, 9] (.region [oN 10 (.faddr 0 (tP 1)),
 lD 11 10,
 oN 12 (.bin .geq (tP 11) (.con (.int .i64 0))),
 mV 13 12,
 oG 14 (.faddr 0 (tP 1)) 13 true,
 oG 15 (.load none (tP 14)) 13 true,
 oG 16 (.bin .leq (tP 15) (.con (.int .i64 20))) 13 true,
 oN 17 (.pick (tP 13) (tP 16) (.con (.bool false))),
 mV 4 17]))
  (t_regencyref11_Right_3)
abbrev w_regencyref11_Right_2 : List Nat := [7, 8, 9]
abbrev q_regencyref11_Right_2 (v1 v3 : AV) : List AV := [.any, v1, .any, v3, undefA, undefA, undefA, .any, .any, .any, undefA, undefA, undefA, undefA, undefA, undefA, undefA, undefA, undefA, undefA, undefA, undefA, undefA, undefA, undefA, undefA, undefA, undefA, undefA, undefA, undefA, undefA, undefA, undefA, undefA, undefA, undefA, undefA, undefA, undefA, undefA, undefA, undefA, undefA, undefA, undefA, undefA, undefA, undefA, undefA, undefA, undefA, undefA, undefA, undefA, undefA, undefA, undefA, undefA, undefA, undefA, undefA, undefA, undefA, undefA, undefA, undefA, undefA, undefA, undefA, undefA, undefA, undefA, undefA, undefA, undefA, undefA, undefA, undefA, undefA, undefA, undefA, undefA, undefA, undefA, undefA, undefA, undefA, undefA, undefA, undefA, undefA, undefA, undefA, undefA, undefA, undefA, undefA, undefA, undefA, undefA, undefA, undefA, undefA, undefA, undefA, undefA, undefA, undefA, undefA, undefA, undefA, undefA, undefA, undefA, undefA, undefA, undefA, undefA, undefA, undefA, undefA, undefA, undefA, undefA, undefA, undefA, undefA, undefA, undefA, undefA, undefA, undefA, undefA, undefA, undefA, undefA, undefA, undefA, undefA, undefA, undefA, undefA, undefA, undefA, undefA, undefA, undefA, undefA, undefA, undefA, undefA, undefA, undefA, undefA, undefA, undefA, undefA, undefA, undefA, undefA, undefA, undefA, undefA, undefA, undefA, undefA, undefA, undefA, undefA, undefA, undefA, undefA, undefA, undefA, undefA, undefA, undefA, undefA, undefA, undefA, undefA, undefA, undefA, undefA, undefA, undefA, undefA, undefA, undefA, undefA]
def t_regencyref11_Right_1 : CC := .seq (.kill [0, 2] (.region [oN 7 (.faddr 0 (tP 1)),
 lD 8 7,
 oN 9 (.pcall 23 [(tP 8)]),
 mV 3 9]))
  (t_regencyref11_Right_2)
abbrev w_regencyref11_Right_1 : List Nat := [0, 2]
abbrev q_regencyref11_Right_1 (v1 : AV) : List AV := [.any, v1, .any, undefA, undefA, undefA, undefA, undefA, undefA, undefA, undefA, undefA, undefA, undefA, undefA, undefA, undefA, undefA, undefA, undefA, undefA, undefA, undefA, undefA, undefA, undefA, undefA, undefA, undefA, undefA, undefA, undefA, undefA, undefA, undefA, undefA, undefA, undefA, undefA, undefA, undefA, undefA, undefA, undefA, undefA, undefA, undefA, undefA, undefA, undefA, undefA, undefA, undefA, undefA, undefA, undefA, undefA, undefA, undefA, undefA, undefA, undefA, undefA, undefA, undefA, undefA, undefA, undefA, undefA, undefA, undefA, undefA, undefA, undefA, undefA, undefA, undefA, undefA, undefA, undefA, undefA, undefA, undefA, undefA, undefA, undefA, undefA, undefA, undefA, undefA, undefA, undefA, undefA, undefA, undefA, undefA, undefA, undefA, undefA, undefA, undefA, undefA, undefA, undefA, undefA, undefA, undefA, undefA, undefA, undefA, undefA, undefA, undefA, undefA, undefA, undefA, undefA, undefA, undefA, undefA, undefA, undefA, undefA, undefA, undefA, undefA, undefA, undefA, undefA, undefA, undefA, undefA, undefA, undefA, undefA, undefA, undefA, undefA, undefA, undefA, undefA, undefA, undefA, undefA, undefA, undefA, undefA, undefA, undefA, undefA, undefA, undefA, undefA, undefA, undefA, undefA, undefA, undefA, undefA, undefA, undefA, undefA, undefA, undefA, undefA, undefA, undefA, undefA, undefA, undefA, undefA, undefA, undefA, undefA, undefA, undefA, undefA, undefA, undefA, undefA, undefA, undefA, undefA, undefA, undefA, undefA, undefA, undefA, undefA, undefA, undefA]
def t_regencyref11_Right_0 : CC := .seq (.region [oN 1 (.box (tP 0)),
 oN 2 (.mov (.con (.bool false)))])
  (t_regencyref11_Right_1)
abbrev w_regencyref11_Right_0 : List Nat := []
abbrev q_regencyref11_Right_0 (v0 : AV) : List AV := [v0, undefA, undefA, undefA, undefA, undefA, undefA, undefA, undefA, undefA, undefA, undefA, undefA, undefA, undefA, undefA, undefA, undefA, undefA, undefA, undefA, undefA, undefA, undefA, undefA, undefA, undefA, undefA, undefA, undefA, undefA, undefA, undefA, undefA, undefA, undefA, undefA, undefA, undefA, undefA, undefA, undefA, undefA, undefA, undefA, undefA, undefA, undefA, undefA, undefA, undefA, undefA, undefA, undefA, undefA, undefA, undefA, undefA, undefA, undefA, undefA, undefA, undefA, undefA, undefA, undefA, undefA, undefA, undefA, undefA, undefA, undefA, undefA, undefA, undefA, undefA, undefA, undefA, undefA, undefA, undefA, undefA, undefA, undefA, undefA, undefA, undefA, undefA, undefA, undefA, undefA, undefA, undefA, undefA, undefA, undefA, undefA, undefA, undefA, undefA, undefA, undefA, undefA, undefA, undefA, undefA, undefA, undefA, undefA, undefA, undefA, undefA, undefA, undefA, undefA, undefA, undefA, undefA, undefA, undefA, undefA, undefA, undefA, undefA, undefA, undefA, undefA, undefA, undefA, undefA, undefA, undefA, undefA, undefA, undefA, undefA, undefA, undefA, undefA, undefA, undefA, undefA, undefA, undefA, undefA, undefA, undefA, undefA, undefA, undefA, undefA, undefA, undefA, undefA, undefA, undefA, undefA, undefA, undefA, undefA, undefA, undefA, undefA, undefA, undefA, undefA, undefA, undefA, undefA, undefA, undefA, undefA, undefA, undefA, undefA, undefA, undefA, undefA, undefA, undefA, undefA, undefA, undefA, undefA, undefA, undefA, undefA, undefA, undefA, undefA, undefA]
def c_regencyref11_Right : CFn := ⟨191, t_regencyref11_Right_0,
  [.tmp 2]⟩
theorem is_regencyref11_Right : IsFn Tryz.prog 7 c_regencyref11_Right := isFn_of [([], []), ([0, 2], [2]), ([7, 8, 9], []), (kl1_10, [8, 14]), (kl1_9, [8, 14]), (kl1_8, [8, 14]), (kl1_7, [8, 14]), (kl1_6, [8, 14]), (kl1_5, [8]), (kl1_4, [7]), (kl1_3, [7]), (kl1_2, [1]), ([155, 156], [2, 3]), ([5, 157, 158, 159, 160, 161, 162], []), ([155, 156], []), (kl1_1, [1]), ([3, 173, 174], []), ([], []), ([173, 174], [7]), ([], [])] (by kernel_rfl)
abbrev s_regencyref11_Bytes_0 (v1 v3 v4 v5 : AV) : List AV := [.any, v1, .any, v3, v4, v5, .any, .any, .any, .any, .any, .any, .any, .any, .any, .any, .any, .any, .any, .any, .any, .any, .any, .any, .any, .any, .any, .any, .any, .any, .any, .any, .any, .any, .any, .any, .any, .any, .any, .any, .any, .any, .any, .any, .any, .any, .any, .any, .any, .any, .any, .any, .any, .any, .any, .any, .any, .any, .any, .any, .any, .any, .any, .any, .any, .any, .any, .any, .any, .any, .any, .any, .any, .any, .any, .any, .any, .any, .any, .any, .any, .any, .any, .any, .any, .any, .any, .any, .any, .any, .any, .any, .any, .any, .any, .any, .any, .any, .any, .any, undefA]
abbrev x_regencyref11_Bytes_0 (v3 : AV) : List AV := [.any, .any, .any, v3, .any, .any, .any, .any, .any, .any, .any, .any, .any, .any, .any, .any, .any, .any, .any, .any, .any, .any, .any, .any, .any, .any, .any, .any, .any, .any, .any, .any, .any, .any, .any, .any, .any, .any, .any, .any, .any, .any, .any, .any, .any, .any, .any, .any, .any, .any, .any, .any, .any, .any, .any, .any, .any, .any, .any, .any, .any, .any, .any, .any, .any, .any, .any, .any, .any, .any, .any, .any, .any, .any, .any, .any, .any, .any, .any, .any, .any, .any, .any, .any, .any, .any, .any, .any, .any, .any, .any, .any, .any, .any, .any, .any, .any, .any, .any, .any, undefA]
abbrev l_regencyref11_Bytes_0 : CC := .kill kl1_11 (.seq (.seq (.region [mV 12 5,
 mV 13 4,
 oN 14 (.lens (tP 13)),
 oN 15 (.bin .lss (tP 12) (tP 14))])
  (.cond (tP 15) (.skip) (.kill [1, 4, 5, 12, 13, 14, 15] (.exit 0))))
  (.seq (.block 1 (.seq (.region [mV 18 4,
 mV 19 5,
 oN 20 (.idxs (tP 18) (tP 19))])
  (.block 2 (.seq (.region [oN 22 (.bin .eql (tP 20) (.con (.int .u8 97))),
 mV 21 22])
  (.cond (tP 21) (.region [mV 23 3,
 oN 24 (.faddr 1 (tP 1)),
 lD 25 24,
 oN 26 (.pcall 30 [(tP 25)]),
 oN 27 (.bin .add (tP 23) (tP 26)),
 mV 3 27]) (.seq (.region [oN 29 (.bin .eql (tP 20) (.con (.int .u8 108))),
 mV 28 29])
  (.cond (tP 28) (.region [mV 30 3,
 oN 31 (.faddr 2 (tP 1)),
 lD 32 31,
 oN 33 (.pcall 31 [(tP 32)]),
 oN 34 (.bin .add (tP 30) (tP 33)),
 mV 3 34]) (.seq (.region [oN 36 (.bin .eql (tP 20) (.con (.int .u8 110))),
 mV 35 36])
  (.cond (tP 35) (.region [mV 37 3,
 oN 38 (.faddr 5 (tP 1)),
 lD 39 38,
 oN 40 (.pcall 29 [(tP 39)]),
 oN 41 (.bin .add (tP 37) (tP 40)),
 mV 3 41]) (.seq (.region [oN 43 (.bin .eql (tP 20) (.con (.int .u8 109))),
 mV 42 43])
  (.cond (tP 42) (.region [mV 44 3,
 oN 45 (.faddr 6 (tP 1)),
 lD 46 45,
 oN 47 (.pcall 29 [(tP 46)]),
 oN 48 (.bin .add (tP 44) (tP 47)),
 mV 3 48]) (.seq (.region [oN 50 (.bin .eql (tP 20) (.con (.int .u8 101))),
 mV 49 50])
  (.cond (tP 49) (.region [mV 51 3,
 oN 52 (.faddr 3 (tP 1)),
 lD 53 52,
 oN 54 (.pcall 31 [(tP 53)]),
 oN 55 (.bin .add (tP 51) (tP 54)),
 mV 3 55]) (.seq (.region [oN 57 (.bin .eql (tP 20) (.con (.int .u8 111))),
 mV 56 57])
  (.cond (tP 56) (.region [mV 58 3,
 oN 59 (.faddr 4 (tP 1)),
 lD 60 59,
 oN 61 (.pcall 32 [(tP 60)]),
 oN 62 (.bin .add (tP 58) (tP 61)),
 mV 3 62]) (.seq (.region [oN 64 (.bin .eql (tP 20) (.con (.int .u8 116))),
 mV 63 64])
  (.cond (tP 63) (.region [mV 65 3,
 oN 66 (.faddr 7 (tP 1)),
 lD 67 66,
 oN 68 (.cBytesStr (tP 67)),
 oN 69 (.pcall 33 [(tP 68)]),
 oN 70 (.bin .add (tP 65) (tP 69)),
 mV 3 70]) (.seq (.region [oN 72 (.bin .eql (tP 20) (.con (.int .u8 99))),
 mV 71 72])
  (.cond (tP 71) (.region [mV 73 3,
 oN 74 (.faddr 8 (tP 1)),
 lD 75 74,
 oN 76 (.pcall 33 [(tP 75)]),
 oN 77 (.bin .add (tP 73) (tP 76)),
 mV 3 77]) (.seq (.region [oN 79 (.bin .eql (tP 20) (.con (.int .u8 115))),
 mV 78 79])
  (.cond (tP 78) (.region [mV 80 3,
 oN 81 (.faddr 9 (tP 1)),
 lD 82 81,
 oN 83 (.pcall 30 [(tP 82)]),
 oN 84 (.bin .add (tP 80) (tP 83)),
 mV 3 84]) (.seq (.region [oN 86 (.bin .eql (tP 20) (.con (.int .u8 119))),
 mV 85 86])
  (.cond (tP 85) (.region [mV 87 3,
 oN 88 (.faddr 10 (tP 1)),
 lD 89 88,
 oN 90 (.pcall 34 [(tP 89)]),
 oN 91 (.bin .add (tP 87) (tP 90)),
 mV 3 91]) (.seq (.region [oN 93 (.bin .eql (tP 20) (.con (.int .u8 100))),
 mV 92 93])
  (.cond (tP 92) (.region [mV 94 3,
 oN 95 (.faddr 5 (tP 1)),
 lD 96 95,
 oN 97 (.bin .add (tP 96) (.con (.int .i64 1048576))),
 oN 98 (.pcall 29 [(tP 97)]),
 oN 99 (.bin .add (tP 94) (tP 98)),
 mV 3 99]) (.skip))))))))))))))))))))))))))
  (.region [mV 16 5,
 oN 17 (.bin .add (tP 16) (.con (.int .i64 1))),
 mV 5 17])))
def c_regencyref11_Bytes : CFn := ⟨101, .seq (.region [oN 1 (.box (tP 0)),
 oN 2 (.mov (.con (.str ⟨#[]⟩)))])
  (.seq (.region [oN 6 (.faddr 0 (tP 1)),
 lD 7 6,
 oN 8 (.pcall 29 [(tP 7)]),
 mV 3 8])
  (.seq (.region [oN 9 (.faddr 0 (tP 1)),
 lD 10 9,
 oN 11 (.pcall 23 [(tP 10)]),
 mV 4 11])
  (.seq (.seq (.region [oN 5 (.mov (.con (.int .i64 0)))])
  (.block 0 (.kill kl1_11 (.loop l_regencyref11_Bytes_0))))
  (.seq (.region [mV 100 3,
 mV 2 100])
  (.ret))))),
  [.tmp 2]⟩
theorem is_regencyref11_Bytes : IsFn Tryz.prog 8 c_regencyref11_Bytes := isFn_of [([], []), ([], [2]), ([], [2]), ([], []), (kl1_11, []), ([], []), ([1, 4, 5, 12, 13, 14, 15], []), ([], []), ([], []), ([], [3]), ([], []), ([], [3]), ([], []), ([], [3]), ([], []), ([], [3]), ([], []), ([], [3]), ([], []), ([], [3]), ([], []), ([], [4]), ([], []), ([], [3]), ([], []), ([], [3]), ([], []), ([], [3]), ([], []), ([], [4]), ([], []), ([], []), ([], [])] (by kernel_rfl)
def c_call_Right : CFn := ⟨20, .seq (.region [oN 1 (.box (tP 0)),
 oN 2 (.mov (.con (.bool false)))])
  (.seq (.region [oN 3 (.faddr 0 (tP 1)),
 lD 4 3,
 oN 5 (.pcall 35 [(tP 4)]),
 mV 6 5,
 oG 7 (.load (some 11) (tP 1)) 6 true,
 oG 8 (.pcall 14 [(tP 7)]) 6 true,
 oG 9 (.load (some 11) (tP 1)) 6 true,
 oG 10 (.pcall 16 [(tP 8), (tP 9)]) 6 true,
 oN 11 (.pick (tP 6) (tP 10) (.con (.bool false))),
 mV 12 11,
 oG 13 (.faddr 0 (tP 1)) 12 true,
 oG 14 (.load none (tP 13)) 12 true,
 oG 15 (.pcall 37 [(tP 14)]) 12 true,
 oG 16 (.mkfn (.func 38) [] [(tP 1)]) 12 true,
 oG 17 (.call 36 [(tP 15), (tP 16)]) 12 true,
 oG 18 (.un .not (tP 17)) 12 true,
 oN 19 (.pick (tP 12) (tP 18) (.con (.bool false))),
 mV 2 19])
  (.ret)),
  [.tmp 2]⟩
theorem is_call_Right : IsFn Tryz.prog 9 c_call_Right := isFn_of [([], []), ([], [2, 5, 7, 12]), ([], [])] (by kernel_rfl)
abbrev s_call_Put_0 (v0 v3 v16 v17 v18 : AV) : List AV := [v0, .any, undefA, v3, .any, undefA, .any, .any, .any, .any, .any, .any, .any, .any, .any, .any, v16, v17, v18, .any, .any, .any, .any, .any, .any, .any, .any]
abbrev x_call_Put_0  : List AV := [.any, .any, undefA, .any, .any, undefA, .any, .any, .any, .any, .any, .any, .any, .any, .any, .any, .any, .any, .any, .any, .any, .any, .any, .any, .any, .any, .any]
abbrev l_call_Put_0 : CC := .kill kl1_12 (.seq (.region [oN 19 (.bin .lss (tP 18) (tP 17))])
  (.seq (.cond (tP 19) (.skip) (.kill [0, 3, 16, 17, 18, 19] (.exit 0)))
  (.seq (.block 1 (.seq (.region [oN 20 (.iaddr 1 none (tP 16) (tP 18)),
 lD 21 20,
 mV 6 21])
  (.region [mV 22 6,
 mV 23 0,
 oN 24 (.load (some 11) (tP 3)),
 oN 25 (.call 41 [(tP 22), (tP 23), (tP 24)])])))
  (.region [oN 26 (.bin .add (tP 18) (.con (.int .i64 1))),
 mV 18 26]))))
def c_call_Put : CFn := ⟨27, .seq (.region [oN 3 (.box (tP 1)),
 oN 4 (.mov (.con (.bool false)))])
  (.seq (.seq (.region [oN 7 (.load (some 11) (tP 3)),
 oN 8 (.pcall 9 [(tP 7)]),
 oN 9 (.un .not (tP 8))])
  (.cond (tP 9) (.seq (.region [oN 4 (.mov (.con (.bool false)))])
  (.ret)) (.skip)))
  (.seq (.region [mV 10 0,
 oN 11 (.faddr 0 (tP 3)),
 lD 12 11,
 oN 13 (.call 40 [(tP 10), (tP 12)])])
  (.seq (.seq (.region [oN 14 (.faddr 0 (tP 3)),
 lD 15 14,
 oN 16 (.pcall 37 [(tP 15)]),
 oN 17 (.lenl (tP 16)),
 oN 18 (.mov (.con (.int .i64 0)))])
  (.block 0 (.kill kl1_12 (.loop l_call_Put_0))))
  (.seq (.region [oN 4 (.mov (.con (.bool true)))])
  (.ret))))),
  [.tmp 4]⟩
theorem is_call_Put : IsFn Tryz.prog 10 c_call_Put := isFn_of [([], []), ([], [1]), ([], []), ([], []), ([], []), ([], [2]), (kl1_12, []), ([], []), ([0, 3, 16, 17, 18, 19], []), ([], []), ([], []), ([], []), ([], []), ([], [])] (by kernel_rfl)
def c_tape_Pen_Bytes : CFn := ⟨10, .seq (.region [oN 2 (.take (.con (.sl .ex [])))])
  (.seq (.seq (.region [mV 3 0,
 oN 4 (.isnil .ptr false (tP 3))])
  (.cond (tP 4) (.seq (.region [oN 2 (.take (.con (.sl .ex [])))])
  (.ret)) (.skip)))
  (.seq (.region [mV 5 0,
 oN 6 (.nilck (tP 5)),
 oN 7 (.faddr 0 (tP 6)),
 lD 8 7,
 oN 9 (.pcall 42 [(tP 8)]),
 oN 2 (.take (tP 9))])
  (.ret))),
  [.tmp 2]⟩
theorem is_tape_Pen_Bytes : IsFn Tryz.prog 11 c_tape_Pen_Bytes := isFn_of [([], [0]), ([], []), ([], [0]), ([], []), ([], [4, 5]), ([], [])] (by kernel_rfl)
def c_call_Bytes : CFn := ⟨11, .seq (.region [oN 1 (.box (tP 0)),
 oN 2 (.take (.con (.sl .ex [])))])
  (.seq (.region [oN 4 (.build [.sl .ex []] []),
 oN 5 (.box (tP 4)),
 mV 3 5])
  (.seq (.region [mV 6 3,
 oN 7 (.load (some 11) (tP 1)),
 oN 8 (.call 10 [(tP 6), (tP 7)])])
  (.seq (.region [mV 9 3,
 oN 10 (.call 11 [(tP 9)]),
 oN 2 (.take (tP 10))])
  (.ret)))),
  [.tmp 2]⟩
theorem is_call_Bytes : IsFn Tryz.prog 12 c_call_Bytes := isFn_of [([], [1]), ([], []), ([], []), ([], [2]), ([], [])] (by kernel_rfl)
def c_regencyref11_Same : CFn := ⟨82, .seq (.region [oN 2 (.box (tP 0)),
 oN 3 (.box (tP 1)),
 oN 4 (.mov (.con (.bool false)))])
  (.seq (.region [oN 5 (.faddr 0 (tP 2)),
 lD 6 5,
 oN 7 (.faddr 0 (tP 3)),
 lD 8 7,
 oN 9 (.bin .eql (tP 6) (tP 8)),
 mV 10 9,
 oG 11 (.faddr 1 (tP 2)) 10 true,
 oG 12 (.load none (tP 11)) 10 true,
 oG 13 (.faddr 1 (tP 3)) 10 true,
 oG 14 (.load none (tP 13)) 10 true,
 oG 15 (.pcall 43 [(tP 12), (tP 14)]) 10 true,
 oN 16 (.pick (tP 10) (tP 15) (.con (.bool false))),
 mV 17 16,
 oG 18 (.faddr 2 (tP 2)) 17 true,
 oG 19 (.load none (tP 18)) 17 true,
 oG 20 (.faddr 2 (tP 3)) 17 true,
 oG 21 (.load none (tP 20)) 17 true,
 oG 22 (.pcall 44 [(tP 19), (tP 21)]) 17 true,
 oN 23 (.pick (tP 17) (tP 22) (.con (.bool false))),
 mV 24 23,
 oG 25 (.faddr 3 (tP 2)) 24 true,
 oG 26 (.load none (tP 25)) 24 true,
 oG 27 (.faddr 3 (tP 3)) 24 true,
 oG 28 (.load none (tP 27)) 24 true,
 oG 29 (.pcall 44 [(tP 26), (tP 28)]) 24 true,
 oN 30 (.pick (tP 24) (tP 29) (.con (.bool false))),
 mV 31 30,
 oG 32 (.faddr 4 (tP 2)) 31 true,
 oG 33 (.load none (tP 32)) 31 true,
 oG 34 (.faddr 4 (tP 3)) 31 true,
 oG 35 (.load none (tP 34)) 31 true,
 oG 36 (.pcall 45 [(tP 33), (tP 35)]) 31 true,
 oN 37 (.pick (tP 31) (tP 36) (.con (.bool false))),
 mV 38 37,
 oG 39 (.faddr 5 (tP 2)) 38 true,
 oG 40 (.load none (tP 39)) 38 true,
 oG 41 (.faddr 5 (tP 3)) 38 true,
 oG 42 (.load none (tP 41)) 38 true,
 oG 43 (.bin .eql (tP 40) (tP 42)) 38 true,
 oN 44 (.pick (tP 38) (tP 43) (.con (.bool false))),
 mV 45 44,
 oG 46 (.faddr 6 (tP 2)) 45 true,
 oG 47 (.load none (tP 46)) 45 true,
 oG 48 (.faddr 6 (tP 3)) 45 true,
 oG 49 (.load none (tP 48)) 45 true,
 oG 50 (.bin .eql (tP 47) (tP 49)) 45 true,
 oN 51 (.pick (tP 45) (tP 50) (.con (.bool false))),
 mV 52 51,
 oG 53 (.faddr 7 (tP 2)) 52 true,
 oG 54 (.load none (tP 53)) 52 true,
 oG 55 (.cBytesStr (tP 54)) 52 true,
 oG 56 (.faddr 7 (tP 3)) 52 true,
 oG 57 (.load none (tP 56)) 52 true,
 oG 58 (.cBytesStr (tP 57)) 52 true,
 oG 59 (.bin .eql (tP 55) (tP 58)) 52 true,
 oN 60 (.pick (tP 52) (tP 59) (.con (.bool false))),
 mV 61 60,
 oG 62 (.faddr 8 (tP 2)) 61 true,
 oG 63 (.load none (tP 62)) 61 true,
 oG 64 (.faddr 8 (tP 3)) 61 true,
 oG 65 (.load none (tP 64)) 61 true,
 oG 66 (.bin .eql (tP 63) (tP 65)) 61 true,
 oN 67 (.pick (tP 61) (tP 66) (.con (.bool false))),
 mV 68 67,
 oG 69 (.faddr 9 (tP 2)) 68 true,
 oG 70 (.load none (tP 69)) 68 true,
 oG 71 (.faddr 9 (tP 3)) 68 true,
 oG 72 (.load none (tP 71)) 68 true,
 oG 73 (.pcall 43 [(tP 70), (tP 72)]) 68 true,
 oN 74 (.pick (tP 68) (tP 73) (.con (.bool false))),
 mV 75 74,
 oG 76 (.faddr 10 (tP 2)) 75 true,
 oG 77 (.load none (tP 76)) 75 true,
 oG 78 (.faddr 10 (tP 3)) 75 true,
 oG 79 (.load none (tP 78)) 75 true,
 oG 80 (.eqb false (tP 77) (tP 79)) 75 true,
 oN 81 (.pick (tP 75) (tP 80) (.con (.bool false))),
 mV 4 81])
  (.ret)),
  [.tmp 4]⟩
theorem is_regencyref11_Same : IsFn Tryz.prog 13 c_regencyref11_Same := isFn_of [([], []), ([], [10, 17, 24, 31, 68]), ([], [])] (by kernel_rfl)
abbrev s_call_Plain_0 (v1 v2 v3 v11 v12 v13 : AV) : List AV := [.any, v1, v2, v3, undefA, .any, .any, .any, .any, .any, .any, v11, v12, v13, .any, .any, .any, .any, .any, .any, .any, .any, .any, .any, .any, .any, .any, .any, .any, .any, .any, .any, .any, .any, .any, .any, .any, .any, .any, .any, .any, .any, .any, .any, .any, .any, .any, .any, .any, .any, .any, .any, .any, .any, .any, .any, .any, .any, .any, .any, .any, .any, .any, .any, .any, .any, .any, .any, .any, .any, .any, .any, .any, .any, .any, .any, undefA]
abbrev x_call_Plain_0 (v2 v3 : AV) : List AV := [.any, .any, v2, v3, undefA, .any, .any, .any, .any, .any, .any, .any, .any, .any, .any, .any, .any, .any, .any, .any, .any, .any, .any, .any, .any, .any, .any, .any, .any, .any, .any, .any, .any, .any, .any, .any, .any, .any, .any, .any, .any, .any, .any, .any, .any, .any, .any, .any, .any, .any, .any, .any, .any, .any, .any, .any, .any, .any, .any, .any, .any, .any, .any, .any, .any, .any, .any, .any, .any, .any, .any, .any, .any, .any, .any, .any, undefA]
abbrev l_call_Plain_0 : CC := .kill kl1_13 (.seq (.region [oN 14 (.bin .lss (tP 13) (tP 12))])
  (.seq (.cond (tP 14) (.skip) (.kill [1, 11, 12, 13, 14] (.exit 0)))
  (.seq (.block 1 (.seq (.region [oN 15 (.iaddr 1 none (tP 11) (tP 13)),
 lD 16 15,
 mV 5 16])
  (.seq (.region [mV 17 5])
  (.block 2 (.seq (.region [oN 19 (.bin .eql (tP 17) (.con (.int .i64 0))),
 mV 18 19])
  (.cond (tP 18) (.region [oN 20 (.faddr 1 (tP 1)),
 lD 21 20,
 oN 22 (.pcall 46 [(tP 21)]),
 oN 23 (.faddr 1 (tP 3)),
 ⟨none, .store 1 (tP 23) (tP 22), none⟩]) (.seq (.region [oN 25 (.bin .eql (tP 17) (.con (.int .i64 1))),
 mV 24 25])
  (.cond (tP 24) (.region [oN 26 (.faddr 2 (tP 1)),
 lD 27 26,
 oN 28 (.pcall 47 [(tP 27)]),
 oN 29 (.faddr 2 (tP 3)),
 ⟨none, .store 1 (tP 29) (tP 28), none⟩]) (.seq (.seq (.region [oN 31 (.bin .eql (tP 17) (.con (.int .i64 2))),
 mV 30 31])
  (.cond (tP 30) (.skip) (.region [oN 32 (.bin .eql (tP 17) (.con (.int .i64 10))),
 mV 30 32])))
  (.cond (tP 30) (.region [oN 33 (.faddr 5 (tP 1)),
 lD 34 33,
 oN 35 (.faddr 5 (tP 3)),
 ⟨none, .store 1 (tP 35) (tP 34), none⟩]) (.seq (.region [oN 37 (.bin .eql (tP 17) (.con (.int .i64 3))),
 mV 36 37])
  (.cond (tP 36) (.region [oN 38 (.faddr 6 (tP 1)),
 lD 39 38,
 oN 40 (.faddr 6 (tP 3)),
 ⟨none, .store 1 (tP 40) (tP 39), none⟩]) (.seq (.region [oN 42 (.bin .eql (tP 17) (.con (.int .i64 4))),
 mV 41 42])
  (.cond (tP 41) (.region [oN 43 (.faddr 3 (tP 1)),
 lD 44 43,
 oN 45 (.pcall 47 [(tP 44)]),
 oN 46 (.faddr 3 (tP 3)),
 ⟨none, .store 1 (tP 46) (tP 45), none⟩]) (.seq (.region [oN 48 (.bin .eql (tP 17) (.con (.int .i64 5))),
 mV 47 48])
  (.cond (tP 47) (.region [oN 49 (.faddr 4 (tP 1)),
 lD 50 49,
 oN 51 (.pcall 48 [(tP 50)]),
 oN 52 (.faddr 4 (tP 3)),
 ⟨none, .store 1 (tP 52) (tP 51), none⟩]) (.seq (.region [oN 54 (.bin .eql (tP 17) (.con (.int .i64 6))),
 mV 53 54])
  (.cond (tP 53) (.region [oN 55 (.faddr 7 (tP 1)),
 lD 56 55,
 oN 57 (.pcall 42 [(tP 56)]),
 oN 58 (.faddr 7 (tP 3)),
 ⟨none, .store 1 (tP 58) (tP 57), none⟩]) (.seq (.region [oN 60 (.bin .eql (tP 17) (.con (.int .i64 7))),
 mV 59 60])
  (.cond (tP 59) (.region [oN 61 (.faddr 8 (tP 1)),
 lD 62 61,
 oN 63 (.faddr 8 (tP 3)),
 ⟨none, .store 1 (tP 63) (tP 62), none⟩]) (.seq (.region [oN 65 (.bin .eql (tP 17) (.con (.int .i64 8))),
 mV 64 65])
  (.cond (tP 64) (.region [oN 66 (.faddr 9 (tP 1)),
 lD 67 66,
 oN 68 (.pcall 46 [(tP 67)]),
 oN 69 (.faddr 9 (tP 3)),
 ⟨none, .store 1 (tP 69) (tP 68), none⟩]) (.seq (.region [oN 71 (.bin .eql (tP 17) (.con (.int .i64 9))),
 mV 70 71])
  (.cond (tP 70) (.region [oN 72 (.faddr 10 (tP 1)),
 lD 73 72,
 oN 74 (.faddr 10 (tP 3)),
 ⟨none, .store 1 (tP 74) (tP 73), none⟩]) (.skip)))))))))))))))))))))))))
  (.region [oN 75 (.bin .add (tP 13) (.con (.int .i64 1))),
 mV 13 75]))))
def c_call_Plain : CFn := ⟨77, .seq (.region [oN 1 (.box (tP 0)),
 oN 2 (.alloc [.int .i64 0, .sl .ex [], .sl .ex [], .sl .ex [], .sl .ex [], .int .i64 0, .int .i64 0, .sl .ex [], .str ⟨#[]⟩, .sl .ex [], .bool false])])
  (.seq (.region [oN 6 (.faddr 0 (tP 1)),
 lD 7 6,
 oN 8 (.build [.int .i64 0, .sl .ex [], .sl .ex [], .sl .ex [], .sl .ex [], .int .i64 0, .int .i64 0, .sl .ex [], .str ⟨#[]⟩, .sl .ex [], .bool false] [(0, 1, (tP 7))]),
 oN 3 (.alloc [.int .i64 0, .sl .ex [], .sl .ex [], .sl .ex [], .sl .ex [], .int .i64 0, .int .i64 0, .sl .ex [], .str ⟨#[]⟩, .sl .ex [], .bool false]),
 ⟨none, .store 11 (tP 3) (tP 8), none⟩])
  (.seq (.seq (.region [oN 9 (.faddr 0 (tP 1)),
 lD 10 9,
 oN 11 (.pcall 37 [(tP 10)]),
 oN 12 (.lenl (tP 11)),
 oN 13 (.mov (.con (.int .i64 0)))])
  (.block 0 (.kill kl1_13 (.loop l_call_Plain_0))))
  (.seq (.region [oN 76 (.load (some 11) (tP 3)),
 ⟨none, .store 11 (tP 2) (tP 76), none⟩])
  (.ret)))),
  [.cell 2 (some 11)]⟩
theorem is_call_Plain : IsFn Tryz.prog 14 c_call_Plain := isFn_of [([], []), ([], []), ([], [2]), (kl1_13, []), ([], []), ([1, 11, 12, 13, 14], []), ([], []), ([], []), ([], []), ([], [2]), ([], []), ([], [2]), ([], []), ([], []), ([], []), ([], []), ([], []), ([], []), ([], [2]), ([], []), ([], [2]), ([], []), ([], [2]), ([], []), ([], []), ([], []), ([], [2]), ([], []), ([], []), ([], []), ([], []), ([], [])] (by kernel_rfl)
def c_regencyref11_Plain : CFn := ⟨68, .seq (.region [oN 1 (.box (tP 0)),
 oN 2 (.alloc [.int .i64 0, .sl .ex [], .sl .ex [], .sl .ex [], .sl .ex [], .int .i64 0, .int .i64 0, .sl .ex [], .str ⟨#[]⟩, .sl .ex [], .bool false])])
  (.seq (.region [oN 5 (.faddr 0 (tP 1)),
 lD 6 5,
 oN 7 (.pcall 23 [(tP 6)]),
 mV 3 7])
  (.seq (.region [oN 8 (.faddr 0 (tP 1)),
 lD 9 8,
 oN 10 (.build [.int .i64 0, .sl .ex [], .sl .ex [], .sl .ex [], .sl .ex [], .int .i64 0, .int .i64 0, .sl .ex [], .str ⟨#[]⟩, .sl .ex [], .bool false] [(0, 1, (tP 9))]),
 oN 4 (.alloc [.int .i64 0, .sl .ex [], .sl .ex [], .sl .ex [], .sl .ex [], .int .i64 0, .int .i64 0, .sl .ex [], .str ⟨#[]⟩, .sl .ex [], .bool false]),
 ⟨none, .store 11 (tP 4) (tP 10), none⟩])
  (.seq (.seq (.region [mV 11 3,
 oN 12 (.pcall 24 [(tP 11), (.con (.int .u8 97))])])
  (.cond (tP 12) (.region [oN 13 (.faddr 1 (tP 1)),
 lD 14 13,
 oN 15 (.faddr 1 (tP 4)),
 ⟨none, .store 1 (tP 15) (tP 14), none⟩]) (.skip)))
  (.seq (.seq (.region [mV 16 3,
 oN 17 (.pcall 24 [(tP 16), (.con (.int .u8 108))])])
  (.cond (tP 17) (.region [oN 18 (.faddr 2 (tP 1)),
 lD 19 18,
 oN 20 (.faddr 2 (tP 4)),
 ⟨none, .store 1 (tP 20) (tP 19), none⟩]) (.skip)))
  (.seq (.seq (.region [mV 21 3,
 oN 22 (.pcall 24 [(tP 21), (.con (.int .u8 101))])])
  (.cond (tP 22) (.region [oN 23 (.faddr 3 (tP 1)),
 lD 24 23,
 oN 25 (.faddr 3 (tP 4)),
 ⟨none, .store 1 (tP 25) (tP 24), none⟩]) (.skip)))
  (.seq (.seq (.region [mV 26 3,
 oN 27 (.pcall 24 [(tP 26), (.con (.int .u8 111))])])
  (.cond (tP 27) (.region [oN 28 (.faddr 4 (tP 1)),
 lD 29 28,
 oN 30 (.faddr 4 (tP 4)),
 ⟨none, .store 1 (tP 30) (tP 29), none⟩]) (.skip)))
  (.seq (.seq (.region [mV 31 3,
 oN 32 (.pcall 24 [(tP 31), (.con (.int .u8 110))]),
 mV 33 32,
 oG 34 (.mov (tP 3)) 33 false,
 oG 35 (.pcall 24 [(tP 34), (.con (.int .u8 100))]) 33 false,
 oN 36 (.pick (tP 33) (.con (.bool true)) (tP 35))])
  (.cond (tP 36) (.region [oN 37 (.faddr 5 (tP 1)),
 lD 38 37,
 oN 39 (.faddr 5 (tP 4)),
 ⟨none, .store 1 (tP 39) (tP 38), none⟩]) (.skip)))
  (.seq (.seq (.region [mV 40 3,
 oN 41 (.pcall 24 [(tP 40), (.con (.int .u8 109))])])
  (.cond (tP 41) (.region [oN 42 (.faddr 6 (tP 1)),
 lD 43 42,
 oN 44 (.faddr 6 (tP 4)),
 ⟨none, .store 1 (tP 44) (tP 43), none⟩]) (.skip)))
  (.seq (.seq (.region [mV 45 3,
 oN 46 (.pcall 24 [(tP 45), (.con (.int .u8 116))])])
  (.cond (tP 46) (.region [oN 47 (.faddr 7 (tP 1)),
 lD 48 47,
 oN 49 (.faddr 7 (tP 4)),
 ⟨none, .store 1 (tP 49) (tP 48), none⟩]) (.skip)))
  (.seq (.seq (.region [mV 50 3,
 oN 51 (.pcall 24 [(tP 50), (.con (.int .u8 99))])])
  (.cond (tP 51) (.region [oN 52 (.faddr 8 (tP 1)),
 lD 53 52,
 oN 54 (.faddr 8 (tP 4)),
 ⟨none, .store 1 (tP 54) (tP 53), none⟩]) (.skip)))
  (.seq (.seq (.region [mV 55 3,
 oN 56 (.pcall 24 [(tP 55), (.con (.int .u8 115))])])
  (.cond (tP 56) (.region [oN 57 (.faddr 9 (tP 1)),
 lD 58 57,
 oN 59 (.faddr 9 (tP 4)),
 ⟨none, .store 1 (tP 59) (tP 58), none⟩]) (.skip)))
  (.seq (.region [oN 60 (.faddr 10 (tP 1)),
 lD 61 60,
 mV 62 61,
 oG 63 (.mov (tP 3)) 62 true,
 oG 64 (.pcall 24 [(tP 63), (.con (.int .u8 119))]) 62 true,
 oN 65 (.pick (tP 62) (tP 64) (.con (.bool false))),
 oN 66 (.faddr 10 (tP 4)),
 ⟨none, .store 1 (tP 66) (tP 65), none⟩])
  (.seq (.region [oN 67 (.load (some 11) (tP 4)),
 ⟨none, .store 11 (tP 2) (tP 67), none⟩])
  (.ret)))))))))))))),
  [.cell 2 (some 11)]⟩
theorem is_regencyref11_Plain : IsFn Tryz.prog 15 c_regencyref11_Plain := isFn_of [([], []), ([], [2]), ([], []), ([], [1]), ([], []), ([], [1]), ([], []), ([], [1]), ([], []), ([], [1]), ([], []), ([], [1, 4]), ([], []), ([], [1]), ([], []), ([], [1]), ([], []), ([], [1]), ([], []), ([], [1]), ([], []), ([], [4]), ([], []), ([], [])] (by kernel_rfl)
def c_call_Same : CFn := ⟨82, .seq (.region [oN 2 (.box (tP 0)),
 oN 3 (.box (tP 1)),
 oN 4 (.mov (.con (.bool false)))])
  (.seq (.region [oN 6 (.faddr 1 (tP 2)),
 lD 7 6,
 oN 8 (.faddr 1 (tP 3)),
 lD 9 8,
 oN 10 (.pcall 49 [(tP 7), (tP 9)]),
 mV 11 10,
 oG 12 (.faddr 2 (tP 2)) 11 true,
 oG 13 (.load none (tP 12)) 11 true,
 oG 14 (.faddr 2 (tP 3)) 11 true,
 oG 15 (.load none (tP 14)) 11 true,
 oG 16 (.pcall 50 [(tP 13), (tP 15)]) 11 true,
 oN 17 (.pick (tP 11) (tP 16) (.con (.bool false))),
 mV 18 17,
 oG 19 (.faddr 3 (tP 2)) 18 true,
 oG 20 (.load none (tP 19)) 18 true,
 oG 21 (.faddr 3 (tP 3)) 18 true,
 oG 22 (.load none (tP 21)) 18 true,
 oG 23 (.pcall 50 [(tP 20), (tP 22)]) 18 true,
 oN 24 (.pick (tP 18) (tP 23) (.con (.bool false))),
 mV 25 24,
 oG 26 (.faddr 4 (tP 2)) 25 true,
 oG 27 (.load none (tP 26)) 25 true,
 oG 28 (.faddr 4 (tP 3)) 25 true,
 oG 29 (.load none (tP 28)) 25 true,
 oG 30 (.pcall 51 [(tP 27), (tP 29)]) 25 true,
 oN 31 (.pick (tP 25) (tP 30) (.con (.bool false))),
 mV 32 31,
 oG 33 (.faddr 9 (tP 2)) 32 true,
 oG 34 (.load none (tP 33)) 32 true,
 oG 35 (.faddr 9 (tP 3)) 32 true,
 oG 36 (.load none (tP 35)) 32 true,
 oG 37 (.pcall 49 [(tP 34), (tP 36)]) 32 true,
 oN 38 (.pick (tP 32) (tP 37) (.con (.bool false))),
 mV 5 38])
  (.seq (.region [mV 39 5,
 mV 40 39,
 oG 41 (.faddr 0 (tP 2)) 40 true,
 oG 42 (.load none (tP 41)) 40 true,
 oG 43 (.faddr 0 (tP 3)) 40 true,
 oG 44 (.load none (tP 43)) 40 true,
 oG 45 (.bin .eql (tP 42) (tP 44)) 40 true,
 oN 46 (.pick (tP 40) (tP 45) (.con (.bool false))),
 mV 47 46,
 oG 48 (.faddr 5 (tP 2)) 47 true,
 oG 49 (.load none (tP 48)) 47 true,
 oG 50 (.faddr 5 (tP 3)) 47 true,
 oG 51 (.load none (tP 50)) 47 true,
 oG 52 (.bin .eql (tP 49) (tP 51)) 47 true,
 oN 53 (.pick (tP 47) (tP 52) (.con (.bool false))),
 mV 54 53,
 oG 55 (.faddr 6 (tP 2)) 54 true,
 oG 56 (.load none (tP 55)) 54 true,
 oG 57 (.faddr 6 (tP 3)) 54 true,
 oG 58 (.load none (tP 57)) 54 true,
 oG 59 (.bin .eql (tP 56) (tP 58)) 54 true,
 oN 60 (.pick (tP 54) (tP 59) (.con (.bool false))),
 mV 61 60,
 oG 62 (.faddr 7 (tP 2)) 61 true,
 oG 63 (.load none (tP 62)) 61 true,
 oG 64 (.faddr 7 (tP 3)) 61 true,
 oG 65 (.load none (tP 64)) 61 true,
 oG 66 (.pcall 52 [(tP 63), (tP 65)]) 61 true,
 oN 67 (.pick (tP 61) (tP 66) (.con (.bool false))),
 mV 68 67,
 oG 69 (.faddr 8 (tP 2)) 68 true,
 oG 70 (.load none (tP 69)) 68 true,
 oG 71 (.faddr 8 (tP 3)) 68 true,
 oG 72 (.load none (tP 71)) 68 true,
 oG 73 (.bin .eql (tP 70) (tP 72)) 68 true,
 oN 74 (.pick (tP 68) (tP 73) (.con (.bool false))),
 mV 75 74,
 oG 76 (.faddr 10 (tP 2)) 75 true,
 oG 77 (.load none (tP 76)) 75 true,
 oG 78 (.faddr 10 (tP 3)) 75 true,
 oG 79 (.load none (tP 78)) 75 true,
 oG 80 (.eqb false (tP 77) (tP 79)) 75 true,
 oN 81 (.pick (tP 75) (tP 80) (.con (.bool false))),
 mV 4 81])
  (.ret))),
  [.tmp 4]⟩
theorem is_call_Same : IsFn Tryz.prog 16 c_call_Same := isFn_of [([], []), ([], [4, 10, 17, 24, 31]), ([], [27]), ([], [])] (by kernel_rfl)
abbrev s_call_Get_0 (v0 v2 v4 v5 v17 v18 v19 : AV) : List AV := [v0, undefA, v2, .any, v4, v5, undefA, .any, .any, .any, .any, .any, .any, .any, .any, .any, .any, v17, v18, v19, .any, .any, .any, .any, .any, .any, .any, undefA, undefA, undefA, undefA, undefA, undefA, undefA, undefA, undefA, undefA, undefA, undefA, undefA, undefA, undefA]
abbrev x_call_Get_0 (v0 v2 v4 v5 : AV) : List AV := [v0, undefA, v2, .any, v4, v5, undefA, .any, .any, .any, .any, .any, .any, .any, .any, .any, .any, .any, .any, .any, .any, .any, .any, .any, .any, .any, .any, undefA, undefA, undefA, undefA, undefA, undefA, undefA, undefA, undefA, undefA, undefA, undefA, undefA, undefA, undefA]
abbrev l_call_Get_0 : CC := .kill kl1_14 (.seq (.region [oN 20 (.bin .lss (tP 19) (tP 18))])
  (.seq (.cond (tP 20) (.skip) (.kill [17, 18, 19, 20] (.exit 0)))
  (.seq (.block 1 (.seq (.region [oN 21 (.iaddr 1 none (tP 17) (tP 19)),
 lD 22 21,
 mV 7 22])
  (.region [mV 23 7,
 mV 24 0,
 oN 25 (.call 55 [(tP 23), (tP 24), (tP 5)])])))
  (.region [oN 26 (.bin .add (tP 19) (.con (.int .i64 1))),
 mV 19 26]))))
def c_call_Get : CFn := ⟨42, .seq (.region [oN 2 (.alloc [.int .i64 0, .sl .ex [], .sl .ex [], .sl .ex [], .sl .ex [], .int .i64 0, .int .i64 0, .sl .ex [], .str ⟨#[]⟩, .sl .ex [], .bool false]),
 oN 3 (.mov (.con (.int .i64 0)))])
  (.seq (.region [oN 4 (.mov (.con (.int .i64 0)))])
  (.seq (.seq (.region [mV 8 0,
 oN 9 (.isnil .ptr true (tP 8))])
  (.cond (tP 9) (.region [mV 10 0,
 oN 11 (.call 53 [(tP 10)]),
 mV 4 11]) (.skip)))
  (.seq (.region [mV 12 0,
 oN 13 (.call 54 [(tP 12), (.con (.int .i64 20))]),
 oN 14 (.build [.int .i64 0, .sl .ex [], .sl .ex [], .sl .ex [], .sl .ex [], .int .i64 0, .int .i64 0, .sl .ex [], .str ⟨#[]⟩, .sl .ex [], .bool false] [(0, 1, (tP 13))]),
 oN 5 (.alloc [.int .i64 0, .sl .ex [], .sl .ex [], .sl .ex [], .sl .ex [], .int .i64 0, .int .i64 0, .sl .ex [], .str ⟨#[]⟩, .sl .ex [], .bool false]),
 ⟨none, .store 11 (tP 5) (tP 14), none⟩])
  (.seq (.seq (.region [oN 15 (.faddr 0 (tP 5)),
 lD 16 15,
 oN 17 (.pcall 37 [(tP 16)]),
 oN 18 (.lenl (tP 17)),
 oN 19 (.mov (.con (.int .i64 0)))])
  (.block 0 (.kill kl1_14 (.loop l_call_Get_0))))
  (.seq (.seq (.dregion [(mV 27 0, false),
    (oN 28 (.call 56 [(tP 27)]), false),
    (oN 29 (.isnil .ifc true (tP 28)), false),
    (mV 30 29, false),
    (oG 31 (.mov (tP 4)) 30 false, false),
    (oG 32 (.mov (tP 0)) 30 false, false),
    (oG 33 (.call 53 [(tP 32)]) 30 false, true),
    (oG 34 (.bin .sub (tP 31) (tP 33)) 30 false, false),
    (oG 35 (.load (some 11) (tP 5)) 30 false, true),
    (oG 36 (.pcall 12 [(tP 35)]) 30 false, false),
    (oG 37 (.lenl (tP 36)) 30 false, false),
    (oG 38 (.bin .neq (tP 34) (tP 37)) 30 false, false),
    (oN 39 (.pick (tP 30) (.con (.bool true)) (tP 38)), false)])
  (.cond (tP 39) (.seq (.region [oN 40 (.build [.int .i64 0, .sl .ex [], .sl .ex [], .sl .ex [], .sl .ex [], .int .i64 0, .int .i64 0, .sl .ex [], .str ⟨#[]⟩, .sl .ex [], .bool false] []),
 ⟨none, .store 11 (tP 2) (tP 40), none⟩,
 oN 3 (.mov (.con (.int .i64 10)))])
  (.ret)) (.skip)))
  (.seq (.region [oN 41 (.load (some 11) (tP 5)),
 ⟨none, .store 11 (tP 2) (tP 41), none⟩,
 oN 3 (.mov (.con (.int .i64 0)))])
  (.ret))))))),
  [.cell 2 (some 11), .tmp 3]⟩
theorem is_call_Get : IsFn Tryz.prog 17 c_call_Get := isFn_of [([], []), ([], []), ([], []), ([], []), ([], []), ([], [2]), (kl1_14, []), ([], []), ([17, 18, 19, 20], []), ([], []), ([], []), ([], []), ([], [9]), ([], []), ([], []), ([], []), ([], [])] (by kernel_rfl)
def c_tape_New : CFn := ⟨7, .seq (.region [oN 2 (.mov (.con (.nilp)))])
  (.seq (.region [oN 3 (.take (tP 0)),
 oN 4 (.pcall 42 [(tP 3)]),
 oN 5 (.build [.sl .ex [], .nili] [(0, 1, (tP 4))]),
 oN 6 (.box (tP 5)),
 mV 2 6])
  (.ret)),
  [.tmp 2]⟩
theorem is_tape_New : IsFn Tryz.prog 18 c_tape_New := isFn_of [([], []), ([], [0, 1]), ([], [])] (by kernel_rfl)
def c_call_Parse : CFn := ⟨27, .seq (.region [oN 2 (.alloc [.int .i64 0, .sl .ex [], .sl .ex [], .sl .ex [], .sl .ex [], .int .i64 0, .int .i64 0, .sl .ex [], .str ⟨#[]⟩, .sl .ex [], .bool false]),
 oN 3 (.mov (.con (.nili)))])
  (.seq (.region [oN 8 (.take (tP 0)),
 oN 9 (.call 18 [(tP 8)]),
 mV 4 9])
  (.seq (.region [mV 11 4,
 oN 12 (.call 17 [(tP 11)]),
 oN 10 (.take (tP 12)),
 oN 13 (.extract 10 0),
 oN 14 (.extract 10 1),
 oN 5 (.alloc [.int .i64 0, .sl .ex [], .sl .ex [], .sl .ex [], .sl .ex [], .int .i64 0, .int .i64 0, .sl .ex [], .str ⟨#[]⟩, .sl .ex [], .bool false]),
 ⟨none, .store 11 (tP 5) (tP 13), none⟩,
 mV 6 14])
  (.seq (.seq (.region [mV 15 4,
 oN 16 (.call 57 [(tP 15)]),
 mV 7 16])
  (.seq (.region [mV 17 6,
 oN 18 (.bin .neq (tP 17) (.con (.int .i64 0))),
 mV 19 18,
 oG 20 (.mov (tP 7)) 19 false,
 oG 21 (.isnil .ifc true (tP 20)) 19 false,
 oN 22 (.pick (tP 19) (.con (.bool true)) (tP 21))])
  (.cond (tP 22) (.seq (.region [oN 23 (.build [.int .i64 0, .sl .ex [], .sl .ex [], .sl .ex [], .sl .ex [], .int .i64 0, .int .i64 0, .sl .ex [], .str ⟨#[]⟩, .sl .ex [], .bool false] []),
 mV 24 7,
 oN 25 (.call 58 [(.con (.str ⟨#[99, 97, 108, 108]⟩)), (.con (.int .i64 10)), (tP 24)]),
 ⟨none, .store 11 (tP 2) (tP 23), none⟩,
 mV 3 25])
  (.ret)) (.skip))))
  (.seq (.region [oN 26 (.load (some 11) (tP 5)),
 ⟨none, .store 11 (tP 2) (tP 26), none⟩,
 oN 3 (.mov (.con (.nili)))])
  (.ret))))),
  [.cell 2 (some 11), .tmp 3]⟩
theorem is_call_Parse : IsFn Tryz.prog 19 c_call_Parse := isFn_of [([], []), ([], [0]), ([], [2]), ([], []), ([], []), ([], []), ([], []), ([], []), ([], [])] (by kernel_rfl)
def c_fault_Code : CFn := ⟨22, .seq (.region [oN 2 (.mov (.con (.int .i64 0)))])
  (.seq (.seq (.region [mV 6 0,
 oN 7 (.isnil .ifc false (tP 6))])
  (.cond (tP 7) (.seq (.region [oN 2 (.mov (.con (.int .i64 0)))])
  (.ret)) (.skip)))
  (.seq (.seq (.region [mV 9 0,
 oN 10 (.tass 92 (.nilp) (tP 9)),
 mV 8 10,
 oN 11 (.extract 8 0),
 oN 12 (.extract 8 1),
 mV 3 11,
 mV 4 12])
  (.seq (.region [mV 13 4])
  (.cond (tP 13) (.seq (.region [mV 14 3,
 oN 15 (.nilck (tP 14)),
 oN 16 (.faddr 1 (tP 15)),
 lD 17 16,
 mV 2 17])
  (.ret)) (.skip))))
  (.seq (.region [oN 5 (.alloc [.int .i64 0])])
  (.seq (.seq (.region [mV 18 0,
 oN 19 (.mkif 97 (tP 5)),
 oN 20 (.call 59 [(tP 18), (tP 19)])])
  (.cond (tP 20) (.seq (.region [lD 21 5,
 mV 2 21])
  (.ret)) (.skip)))
  (.seq (.region [oN 2 (.mov (.con (.int .i64 2)))])
  (.ret)))))),
  [.tmp 2]⟩
theorem is_fault_Code : IsFn Tryz.prog 20 c_fault_Code := isFn_of [([], []), ([], []), ([], []), ([], []), ([], []), ([], []), ([], []), ([], []), ([], []), ([], []), ([], []), ([], []), ([], []), ([], [])] (by kernel_rfl)
def c_fault_Place : CFn := ⟨15, .seq (.region [oN 2 (.mov (.con (.str ⟨#[]⟩)))])
  (.seq (.seq (.region [mV 6 0,
 oN 7 (.tass 92 (.nilp) (tP 6)),
 mV 5 7,
 oN 8 (.extract 5 0),
 oN 9 (.extract 5 1),
 mV 3 8,
 mV 4 9])
  (.seq (.region [mV 10 4])
  (.cond (tP 10) (.seq (.region [mV 11 3,
 oN 12 (.nilck (tP 11)),
 oN 13 (.faddr 0 (tP 12)),
 lD 14 13,
 mV 2 14])
  (.ret)) (.skip))))
  (.seq (.region [oN 2 (.mov (.con (.str ⟨#[]⟩)))])
  (.ret))),
  [.tmp 2]⟩
theorem is_fault_Place : IsFn Tryz.prog 21 c_fault_Place := isFn_of [([], []), ([], []), ([], []), ([], []), ([], []), ([], []), ([], [])] (by kernel_rfl)
def c_fault_Has : CFn := ⟨13, .seq (.region [oN 4 (.mov (.con (.bool false)))])
  (.seq (.seq (.region [mV 5 1,
 oN 6 (.bin .eql (tP 5) (.con (.int .i64 0)))])
  (.cond (tP 6) (.seq (.region [mV 7 0,
 oN 8 (.isnil .ifc false (tP 7)),
 mV 4 8])
  (.ret)) (.skip)))
  (.seq (.region [mV 9 0,
 mV 10 1,
 oN 11 (.mkif 40 (tP 10)),
 oN 12 (.call 60 [(tP 9), (tP 11)]),
 mV 4 12])
  (.ret))),
  [.tmp 4]⟩
theorem is_fault_Has : IsFn Tryz.prog 22 c_fault_Has := isFn_of [([], []), ([], []), ([], []), ([], []), ([], []), ([], [])] (by kernel_rfl)
def c_regencyref11_Parts : CFn := ⟨13, .seq (.region [oN 2 (.mov (.con (.str ⟨#[]⟩)))])
  (.seq (.seq (.region [mV 3 0,
 oN 4 (.bin .lss (tP 3) (.con (.int .i64 0))),
 mV 5 4,
 oG 6 (.mov (tP 0)) 5 false,
 oG 7 (.bin .gtr (tP 6) (.con (.int .i64 20))) 5 false,
 oN 8 (.pick (tP 5) (.con (.bool true)) (tP 7))])
  (.cond (tP 8) (.seq (.region [oN 2 (.mov (.con (.str ⟨#[]⟩)))])
  (.ret)) (.skip)))
  (.seq (.region [oN 9 (.bslice 1 false [(.con (.str ⟨#[]⟩)), (.con (.str ⟨#[]⟩)), (.con (.str ⟨#[97, 108, 110, 109]⟩)), (.con (.str ⟨#[97, 108, 110]⟩)), (.con (.str ⟨#[97, 108, 110, 111]⟩)), (.con (.str ⟨#[97, 108, 110, 101, 111, 109]⟩)), (.con (.str ⟨#[97, 108, 110]⟩)), (.con (.str ⟨#[97, 110, 109]⟩)), (.con (.str ⟨#[97, 110, 116]⟩)), (.con (.str ⟨#[97, 110]⟩)), (.con (.str ⟨#[97]⟩)), (.con (.str ⟨#[97]⟩)), (.con (.str ⟨#[97]⟩)), (.con (.str ⟨#[97, 100]⟩)), (.con (.str ⟨#[108]⟩)), (.con (.str ⟨#[97]⟩)), (.con (.str ⟨#[99]⟩)), (.con (.str ⟨#[97, 110, 115, 119]⟩)), (.con (.str ⟨#[97, 110]⟩)), (.con (.str ⟨#[97, 110, 109]⟩)), (.con (.str ⟨#[97, 110, 116]⟩))]),
 mV 10 0,
 oN 11 (.iaddr 1 none (tP 9) (tP 10)),
 lD 12 11,
 mV 2 12])
  (.ret))),
  [.tmp 2]⟩
theorem is_regencyref11_Parts : IsFn Tryz.prog 23 c_regencyref11_Parts := isFn_of [([], []), ([], []), ([], []), ([], []), ([], []), ([], [])] (by kernel_rfl)
abbrev s_regencyref11_has_0 (v0 v1 v5 : AV) : List AV := [v0, v1, undefA, undefA, .any, v5, .any, .any, .any, .any, .any, .any, .any, .any, .any, .any, .any]
abbrev x_regencyref11_has_0  : List AV := [.any, .any, undefA, undefA, .any, .any, .any, .any, .any, .any, .any, .any, .any, .any, .any, .any, .any]
abbrev l_regencyref11_has_0 : CC := .kill kl1_15 (.seq (.seq (.region [mV 6 5,
 mV 7 0,
 oN 8 (.lens (tP 7)),
 oN 9 (.bin .lss (tP 6) (tP 8))])
  (.cond (tP 9) (.skip) (.kill [0, 1, 5, 6, 7, 8, 9] (.exit 0))))
  (.seq (.block 1 (.seq (.region [mV 12 0,
 mV 13 5,
 oN 14 (.idxs (tP 12) (tP 13)),
 mV 15 1,
 oN 16 (.bin .eql (tP 14) (tP 15))])
  (.cond (tP 16) (.seq (.region [oN 4 (.mov (.con (.bool true)))])
  (.ret)) (.skip))))
  (.region [mV 10 5,
 oN 11 (.bin .add (tP 10) (.con (.int .i64 1))),
 mV 5 11])))
def c_regencyref11_has : CFn := ⟨17, .seq (.region [oN 4 (.mov (.con (.bool false)))])
  (.seq (.seq (.region [oN 5 (.mov (.con (.int .i64 0)))])
  (.block 0 (.kill kl1_15 (.loop l_regencyref11_has_0))))
  (.seq (.region [oN 4 (.mov (.con (.bool false)))])
  (.ret))),
  [.tmp 4]⟩
theorem is_regencyref11_has : IsFn Tryz.prog 24 c_regencyref11_has := isFn_of [([], []), ([], []), (kl1_15, []), ([], []), ([0, 1, 5, 6, 7, 8, 9], []), ([], []), ([], []), ([], []), ([], []), ([], []), ([], [])] (by kernel_rfl)
abbrev s_regencyref08_Right_0 (v0 v5 v6 v7 : AV) : List AV := [v0, undefA, .any, undefA, .any, v5, v6, v7, .any, .any, .any, .any, .any, .any, .any, .any, .any, .any, undefA, undefA, undefA]
abbrev x_regencyref08_Right_0 (v0 : AV) : List AV := [v0, undefA, .any, undefA, .any, .any, .any, .any, .any, .any, .any, .any, .any, .any, .any, .any, .any, .any, undefA, undefA, undefA]
abbrev l_regencyref08_Right_0 : CC := .kill kl1_16 (.seq (.region [oN 8 (.bin .lss (tP 7) (tP 6))])
  (.seq (.cond (tP 8) (.skip) (.kill [5, 6, 7, 8] (.exit 0)))
  (.seq (.block 1 (.seq (.region [oN 9 (.iaddr 1 none (tP 5) (tP 7)),
 lD 10 9,
 mV 4 10])
  (.seq (.region [mV 11 4,
 oN 12 (.bin .lss (tP 11) (.con (.int .i64 0))),
 mV 13 12,
 oG 14 (.mov (tP 4)) 13 false,
 oG 15 (.bin .gtr (tP 14) (.con (.int .i64 1048576))) 13 false,
 oN 16 (.pick (tP 13) (.con (.bool true)) (tP 15))])
  (.cond (tP 16) (.seq (.region [oN 2 (.mov (.con (.bool false)))])
  (.ret)) (.skip)))))
  (.region [oN 17 (.bin .add (tP 7) (.con (.int .i64 1))),
 mV 7 17]))))
def c_regencyref08_Right : CFn := ⟨21, .seq (.region [oN 2 (.mov (.con (.bool false)))])
  (.seq (.seq (.region [mV 5 0,
 oN 6 (.lenl (tP 5)),
 oN 7 (.mov (.con (.int .i64 0)))])
  (.block 0 (.kill kl1_16 (.loop l_regencyref08_Right_0))))
  (.seq (.region [oN 18 (.take (tP 0)),
 oN 19 (.lenl (tP 18)),
 oN 20 (.bin .leq (tP 19) (.con (.int .i64 6))),
 mV 2 20])
  (.ret))),
  [.tmp 2]⟩
theorem is_regencyref08_Right : IsFn Tryz.prog 25 c_regencyref08_Right := isFn_of [([], []), ([], []), (kl1_16, []), ([], []), ([5, 6, 7, 8], []), ([], []), ([], []), ([], []), ([], []), ([], []), ([], [0]), ([], [])] (by kernel_rfl)
abbrev s_regencyref06_Right_0 (v0 v8 v9 : AV) : List AV := [v0, undefA, .any, .any, .any, .any, .any, .any, v8, v9, .any, .any, .any, .any, .any, .any, .any, .any, .any, .any, .any, .any, .any, .any, .any, .any, .any, .any, .any, .any, .any, .any, .any, .any, .any, .any, .any, .any, .any, .any, .any, .any, .any, .any, .any, .any, .any, .any, .any, .any, .any, .any, .any, .any, .any, .any, .any, .any, .any, .any, .any]
abbrev x_regencyref06_Right_0  : List AV := [.any, undefA, .any, .any, .any, .any, .any, .any, .any, .any, .any, .any, .any, .any, .any, .any, .any, .any, .any, .any, .any, .any, .any, .any, .any, .any, .any, .any, .any, .any, .any, .any, .any, .any, .any, .any, .any, .any, .any, .any, .any, .any, .any, .any, .any, .any, .any, .any, .any, .any, .any, .any, .any, .any, .any, .any, .any, .any, .any, .any, .any]
abbrev l_regencyref06_Right_0 : CC := .kill kl1_17 (.seq (.region [oN 10 (.bin .lss (tP 9) (tP 8))])
  (.seq (.cond (tP 10) (.skip) (.kill [0, 8, 9, 10] (.exit 0)))
  (.seq (.block 1 (.seq (.region [mV 11 9,
 mV 3 11])
  (.seq (.seq (.region [mV 12 0,
 mV 13 3,
 oN 14 (.iaddr 2 none (tP 12) (tP 13)),
 oN 15 (.faddr 0 (tP 14)),
 lD 16 15,
 oN 17 (.pcall 61 [(tP 16)]),
 oN 18 (.un .not (tP 17)),
 mV 19 18,
 oG 20 (.mov (tP 0)) 19 false,
 oG 21 (.mov (tP 3)) 19 false,
 oG 22 (.iaddr 2 none (tP 20) (tP 21)) 19 false,
 oG 23 (.faddr 1 (tP 22)) 19 false,
 oG 24 (.load none (tP 23)) 19 false,
 oG 25 (.bin .neq (tP 24) (.con (.int .i64 0))) 19 false,
 oG 26 (.mov (tP 25)) 19 false,
 oG 27 (.mov (tP 0)) 26 true,
 oG 28 (.mov (tP 3)) 26 true,
 oG 29 (.iaddr 2 none (tP 27) (tP 28)) 26 true,
 oG 30 (.faddr 1 (tP 29)) 26 true,
 oG 31 (.load none (tP 30)) 26 true,
 oG 32 (.bin .neq (tP 31) (.con (.int .i64 2))) 26 true,
 oG 33 (.pick (tP 26) (tP 32) (.con (.bool false))) 19 false,
 oG 34 (.mov (tP 33)) 19 false,
 oG 35 (.mov (tP 0)) 34 true,
 oG 36 (.mov (tP 3)) 34 true,
 oG 37 (.iaddr 2 none (tP 35) (tP 36)) 34 true,
 oG 38 (.faddr 1 (tP 37)) 34 true,
 oG 39 (.load none (tP 38)) 34 true,
 oG 40 (.bin .neq (tP 39) (.con (.int .i64 3))) 34 true,
 oG 41 (.pick (tP 34) (tP 40) (.con (.bool false))) 19 false,
 oN 42 (.pick (tP 19) (.con (.bool true)) (tP 41))])
  (.cond (tP 42) (.seq (.region [oN 2 (.mov (.con (.bool false)))])
  (.ret)) (.skip)))
  (.seq (.region [mV 43 3,
 oN 44 (.bin .gtr (tP 43) (.con (.int .i64 0))),
 mV 45 44,
 oG 46 (.mov (tP 0)) 45 true,
 oG 47 (.mov (tP 3)) 45 true,
 oG 48 (.bin .sub (tP 47) (.con (.int .i64 1))) 45 true,
 oG 49 (.iaddr 2 none (tP 46) (tP 48)) 45 true,
 oG 50 (.faddr 0 (tP 49)) 45 true,
 oG 51 (.load none (tP 50)) 45 true,
 oG 52 (.mov (tP 0)) 45 true,
 oG 53 (.mov (tP 3)) 45 true,
 oG 54 (.iaddr 2 none (tP 52) (tP 53)) 45 true,
 oG 55 (.faddr 0 (tP 54)) 45 true,
 oG 56 (.load none (tP 55)) 45 true,
 oG 57 (.pcall 62 [(tP 51), (tP 56)]) 45 true,
 oG 58 (.bin .neq (tP 57) (.con (.int .i64 (-1)))) 45 true,
 oN 59 (.pick (tP 45) (tP 58) (.con (.bool false)))])
  (.cond (tP 59) (.seq (.region [oN 2 (.mov (.con (.bool false)))])
  (.ret)) (.skip))))))
  (.region [oN 60 (.bin .add (tP 9) (.con (.int .i64 1))),
 mV 9 60]))))
def c_regencyref06_Right : CFn := ⟨61, .seq (.region [oN 2 (.mov (.con (.bool false)))])
  (.seq (.seq (.region [mV 4 0,
 oN 5 (.lenl (tP 4)),
 oN 6 (.bin .gtr (tP 5) (.con (.int .i64 8)))])
  (.cond (tP 6) (.seq (.region [oN 2 (.mov (.con (.bool false)))])
  (.ret)) (.skip)))
  (.seq (.seq (.region [mV 7 0,
 oN 8 (.lenl (tP 7)),
 oN 9 (.mov (.con (.int .i64 0)))])
  (.block 0 (.kill kl1_17 (.loop l_regencyref06_Right_0))))
  (.seq (.region [oN 2 (.mov (.con (.bool true)))])
  (.ret)))),
  [.tmp 2]⟩
theorem is_regencyref06_Right : IsFn Tryz.prog 26 c_regencyref06_Right := isFn_of [([], []), ([], []), ([], []), ([], []), ([], []), (kl1_17, []), ([], []), ([0, 8, 9, 10], []), ([], []), ([], [5]), ([], []), ([], []), ([], [14]), ([], []), ([], []), ([], []), ([], []), ([], [])] (by kernel_rfl)
abbrev s_regencyref07_Right_0 (v0 v7 v8 v9 : AV) : List AV := [v0, undefA, .any, .any, .any, .any, .any, v7, v8, v9, .any, .any, .any, .any, .any, .any, .any, .any, .any, .any, .any, .any, .any, .any, .any, .any, .any, .any, .any, .any, .any, .any, .any, .any, .any, .any, undefA, undefA, undefA]
abbrev x_regencyref07_Right_0 (v0 : AV) : List AV := [v0, undefA, .any, .any, .any, .any, .any, .any, .any, .any, .any, .any, .any, .any, .any, .any, .any, .any, .any, .any, .any, .any, .any, .any, .any, .any, .any, .any, .any, .any, .any, .any, .any, .any, .any, .any, undefA, undefA, undefA]
abbrev l_regencyref07_Right_0 : CC := .kill kl1_18 (.seq (.region [oN 10 (.bin .lss (tP 9) (tP 8))])
  (.seq (.cond (tP 10) (.skip) (.kill [7, 8, 9, 10] (.exit 0)))
  (.seq (.block 1 (.seq (.region [mV 11 9,
 oN 12 (.iaddr 1 none (tP 7) (tP 9)),
 lD 13 12,
 mV 3 11,
 mV 4 13])
  (.seq (.region [mV 15 4,
 oN 16 (.pcall 28 [(tP 15)]),
 oN 14 (.take (tP 16)),
 oN 17 (.extract 14 0),
 oN 18 (.extract 14 1),
 oN 5 (.alloc [.sl .ex [], .int .i64 0]),
 ⟨none, .store 2 (tP 5) (tP 17), none⟩,
 mV 6 18])
  (.seq (.region [mV 19 6,
 oN 20 (.un .not (tP 19)),
 mV 21 20,
 oG 22 (.mov (tP 3)) 21 false,
 oG 23 (.bin .gtr (tP 22) (.con (.int .i64 0))) 21 false,
 oG 24 (.mov (tP 23)) 21 false,
 oG 25 (.mov (tP 0)) 24 true,
 oG 26 (.mov (tP 3)) 24 true,
 oG 27 (.bin .sub (tP 26) (.con (.int .i64 1))) 24 true,
 oG 28 (.iaddr 1 none (tP 25) (tP 27)) 24 true,
 oG 29 (.load none (tP 28)) 24 true,
 oG 30 (.mov (tP 4)) 24 true,
 oG 31 (.pcall 62 [(tP 29), (tP 30)]) 24 true,
 oG 32 (.bin .neq (tP 31) (.con (.int .i64 (-1)))) 24 true,
 oG 33 (.pick (tP 24) (tP 32) (.con (.bool false))) 21 false,
 oN 34 (.pick (tP 21) (.con (.bool true)) (tP 33))])
  (.cond (tP 34) (.seq (.region [oN 2 (.mov (.con (.bool false)))])
  (.ret)) (.skip))))))
  (.region [oN 35 (.bin .add (tP 9) (.con (.int .i64 1))),
 mV 9 35]))))
def c_regencyref07_Right : CFn := ⟨39, .seq (.region [oN 2 (.mov (.con (.bool false)))])
  (.seq (.seq (.region [mV 7 0,
 oN 8 (.lenl (tP 7)),
 oN 9 (.mov (.con (.int .i64 0)))])
  (.block 0 (.kill kl1_18 (.loop l_regencyref07_Right_0))))
  (.seq (.region [oN 36 (.take (tP 0)),
 oN 37 (.lenl (tP 36)),
 oN 38 (.bin .leq (tP 37) (.con (.int .i64 8))),
 mV 2 38])
  (.ret))),
  [.tmp 2]⟩
theorem is_regencyref07_Right : IsFn Tryz.prog 27 c_regencyref07_Right := isFn_of [([], []), ([], []), (kl1_18, []), ([], []), ([7, 8, 9, 10], []), ([], []), ([], [1, 2]), ([], [12]), ([], []), ([], []), ([], []), ([], [0]), ([], [])] (by kernel_rfl)
abbrev s_regencyref05_Get_0 (v0 v2 v4 v5 v6 v7 : AV) : List AV := [v0, undefA, v2, .any, v4, v5, v6, v7, .any, .any, .any, .any, .any, .any, .any, .any, .any, .any, .any, .any, .any, .any, .any, .any, .any, .any, .any, .any, .any, .any, .any, .any, .any, .any, .any, .any, .any, .any, .any, .any, .any, .any, .any, .any, .any, .any, .any, .any, .any, .any, .any, .any, .any, .any, .any, .any, .any, undefA, undefA, undefA, undefA, undefA, undefA, undefA, undefA, undefA, undefA, undefA, undefA, undefA]
abbrev x_regencyref05_Get_0 (v0 v2 v4 v5 : AV) : List AV := [v0, undefA, v2, .any, v4, v5, .any, .any, .any, .any, .any, .any, .any, .any, .any, .any, .any, .any, .any, .any, .any, .any, .any, .any, .any, .any, .any, .any, .any, .any, .any, .any, .any, .any, .any, .any, .any, .any, .any, .any, .any, .any, .any, .any, .any, .any, .any, .any, .any, .any, .any, .any, .any, .any, .any, .any, .any, undefA, undefA, undefA, undefA, undefA, undefA, undefA, undefA, undefA, undefA, undefA, undefA, undefA]
abbrev l_regencyref05_Get_0 : CC := .kill kl1_19 (.seq (.seq (.region [mV 8 7,
 mV 9 0,
 oN 10 (.lens (tP 9)),
 oN 11 (.bin .lss (tP 8) (tP 10))])
  (.cond (tP 11) (.skip) (.kill [6, 7, 8, 9, 10, 11] (.exit 0))))
  (.seq (.block 1 (.block 2 (.seq (.region [mV 15 0,
 mV 16 7,
 oN 17 (.idxs (tP 15) (tP 16)),
 oN 18 (.bin .geq (tP 17) (.con (.int .u8 48))),
 mV 19 18,
 oG 20 (.mov (tP 0)) 19 true,
 oG 21 (.mov (tP 7)) 19 true,
 oG 22 (.idxs (tP 20) (tP 21)) 19 true,
 oG 23 (.bin .leq (tP 22) (.con (.int .u8 57))) 19 true,
 oN 24 (.pick (tP 19) (tP 23) (.con (.bool false))),
 mV 14 24])
  (.cond (tP 14) (.seq (.region [mV 25 6,
 oN 26 (.bin .add (tP 25) (.con (.int .i64 1))),
 mV 6 26])
  (.seq (.seq (.region [mV 27 6,
 oN 28 (.bin .gtr (tP 27) (.con (.int .i64 8)))])
  (.cond (tP 28) (.seq (.region [oN 29 (.build [.sl .ex [], .int .i64 0] []),
 ⟨none, .store 2 (tP 2) (tP 29), none⟩,
 oN 3 (.mov (.con (.bool false)))])
  (.ret)) (.skip)))
  (.region [mV 30 5,
 oN 31 (.bin .mul (.con (.int .i64 10)) (tP 30)),
 mV 32 0,
 mV 33 7,
 oN 34 (.idxs (tP 32) (tP 33)),
 oN 35 (.bin .sub (tP 34) (.con (.int .u8 48))),
 oN 36 (.cInt .i64 (tP 35)),
 oN 37 (.bin .add (tP 31) (tP 36)),
 mV 5 37]))) (.seq (.region [mV 39 0,
 mV 40 7,
 oN 41 (.idxs (tP 39) (tP 40)),
 oN 42 (.bin .eql (tP 41) (.con (.int .u8 46))),
 mV 43 42,
 oG 44 (.mov (tP 0)) 43 false,
 oG 45 (.mov (tP 7)) 43 false,
 oG 46 (.idxs (tP 44) (tP 45)) 43 false,
 oG 47 (.bin .eql (tP 46) (.con (.int .u8 47))) 43 false,
 oN 48 (.pick (tP 43) (.con (.bool true)) (tP 47)),
 mV 38 48])
  (.cond (tP 38) (.seq (.seq (.region [mV 49 6,
 oN 50 (.bin .gtr (tP 49) (.con (.int .i64 0)))])
  (.cond (tP 50) (.region [oN 51 (.faddr 0 (tP 4)),
 oN 52 (.ltake (tP 51)),
 mV 53 5,
 oN 54 (.bslice 1 false [(tP 53)]),
 oN 55 (.append 1 8 false (tP 52) (tP 54)),
 oN 56 (.faddr 0 (tP 4)),
 ⟨none, .store 1 (tP 56) (tP 55), none⟩]) (.skip)))
  (.seq (.region [oN 5 (.mov (.con (.int .i64 0)))])
  (.region [oN 6 (.mov (.con (.int .i64 0)))]))) (.skip)))))))
  (.region [mV 12 7,
 oN 13 (.bin .add (tP 12) (.con (.int .i64 1))),
 mV 7 13])))
def c_regencyref05_Get : CFn := ⟨70, .seq (.region [oN 2 (.alloc [.sl .ex [], .int .i64 0]),
 oN 3 (.mov (.con (.bool false)))])
  (.seq (.region [oN 4 (.alloc [.sl .ex [], .int .i64 0])])
  (.seq (.region [oN 5 (.mov (.con (.int .i64 0))),
 oN 6 (.mov (.con (.int .i64 0)))])
  (.seq (.seq (.region [oN 7 (.mov (.con (.int .i64 0)))])
  (.block 0 (.kill kl1_19 (.loop l_regencyref05_Get_0))))
  (.seq (.region [mV 57 5,
 oN 58 (.faddr 1 (tP 4)),
 ⟨none, .store 1 (tP 58) (tP 57), none⟩])
  (.seq (.seq (.region [oN 59 (.load (some 2) (tP 4)),
 oN 60 (.pcall 63 [(tP 59)]),
 oN 61 (.un .not (tP 60)),
 mV 62 61,
 oG 63 (.load (some 2) (tP 4)) 62 false,
 oG 64 (.pcall 64 [(tP 63)]) 62 false,
 oG 65 (.mov (tP 0)) 62 false,
 oG 66 (.bin .neq (tP 64) (tP 65)) 62 false,
 oN 67 (.pick (tP 62) (.con (.bool true)) (tP 66))])
  (.cond (tP 67) (.seq (.region [oN 68 (.build [.sl .ex [], .int .i64 0] []),
 ⟨none, .store 2 (tP 2) (tP 68), none⟩,
 oN 3 (.mov (.con (.bool false)))])
  (.ret)) (.skip)))
  (.seq (.region [oN 69 (.load (some 2) (tP 4)),
 ⟨none, .store 2 (tP 2) (tP 69), none⟩,
 oN 3 (.mov (.con (.bool true)))])
  (.ret))))))),
  [.cell 2 (some 2), .tmp 3]⟩
theorem is_regencyref05_Get : IsFn Tryz.prog 28 c_regencyref05_Get := isFn_of [([], []), ([], []), ([], []), ([], []), (kl1_19, []), ([], []), ([6, 7, 8, 9, 10, 11], []), ([], []), ([], []), ([], []), ([], []), ([], []), ([], []), ([], []), ([], []), ([], [1]), ([], []), ([], []), ([], []), ([], []), ([], [1, 5]), ([], []), ([], []), ([], []), ([], [])] (by kernel_rfl)
def c_regencyref03_Number : CFn := ⟨19, .seq (.region [oN 2 (.mov (.con (.str ⟨#[]⟩)))])
  (.seq (.seq (.region [mV 3 0,
 oN 4 (.bin .lss (tP 3) (.con (.int .i64 128)))])
  (.cond (tP 4) (.seq (.region [mV 5 0,
 oN 6 (.cInt .u8 (tP 5)),
 oN 7 (.bslice 1 false [(tP 6)]),
 oN 8 (.cBytesStr (tP 7)),
 mV 2 8])
  (.ret)) (.skip)))
  (.seq (.region [mV 9 0,
 oN 10 (.bin .rem (tP 9) (.con (.int .i64 128))),
 oN 11 (.bin .add (.con (.int .i64 128)) (tP 10)),
 oN 12 (.cInt .u8 (tP 11)),
 oN 13 (.bslice 1 false [(tP 12)]),
 oN 14 (.cBytesStr (tP 13)),
 mV 15 0,
 oN 16 (.bin .quo (tP 15) (.con (.int .i64 128))),
 oN 17 (.pcall 29 [(tP 16)]),
 oN 18 (.bin .add (tP 14) (tP 17)),
 mV 2 18])
  (.ret))),
  [.tmp 2]⟩
theorem is_regencyref03_Number : IsFn Tryz.prog 29 c_regencyref03_Number := isFn_of [([], []), ([], []), ([], []), ([], []), ([], [8]), ([], [])] (by kernel_rfl)
abbrev s_regencyref08_Put_0 (v3 v9 v10 v11 : AV) : List AV := [.any, undefA, .any, v3, undefA, .any, .any, .any, .any, v9, v10, v11, .any, .any, .any, .any, .any, .any, .any, .any, .any, .any, .any, .any, .any, .any, undefA]
abbrev x_regencyref08_Put_0 (v3 : AV) : List AV := [.any, undefA, .any, v3, undefA, .any, .any, .any, .any, .any, .any, .any, .any, .any, .any, .any, .any, .any, .any, .any, .any, .any, .any, .any, .any, .any, undefA]
abbrev l_regencyref08_Put_0 : CC := .kill kl1_20 (.seq (.region [oN 12 (.bin .lss (tP 11) (tP 10))])
  (.seq (.cond (tP 12) (.skip) (.kill [9, 10, 11, 12] (.exit 0)))
  (.seq (.block 1 (.seq (.region [oN 13 (.iaddr 1 none (tP 9) (tP 11)),
 lD 14 13,
 mV 5 14])
  (.seq (.region [mV 15 5,
 oN 16 (.bin .geq (tP 15) (.con (.int .i64 0))),
 mV 17 16,
 oG 18 (.mov (tP 5)) 17 true,
 oG 19 (.bin .leq (tP 18) (.con (.int .i64 4611686018427387903))) 17 true,
 oN 20 (.pick (tP 17) (tP 19) (.con (.bool false)))])
  (.cond (tP 20) (.region [mV 21 3,
 mV 22 5,
 oN 23 (.pcall 29 [(tP 22)]),
 oN 24 (.bin .add (tP 21) (tP 23)),
 mV 3 24]) (.skip)))))
  (.region [oN 25 (.bin .add (tP 11) (.con (.int .i64 1))),
 mV 11 25]))))
def c_regencyref08_Put : CFn := ⟨27, .seq (.region [oN 2 (.mov (.con (.str ⟨#[]⟩)))])
  (.seq (.region [mV 6 0,
 oN 7 (.lenl (tP 6)),
 oN 8 (.pcall 29 [(tP 7)]),
 mV 3 8])
  (.seq (.seq (.region [oN 9 (.take (tP 0)),
 oN 10 (.lenl (tP 9)),
 oN 11 (.mov (.con (.int .i64 0)))])
  (.block 0 (.kill kl1_20 (.loop l_regencyref08_Put_0))))
  (.seq (.region [mV 26 3,
 mV 2 26])
  (.ret)))),
  [.tmp 2]⟩
theorem is_regencyref08_Put : IsFn Tryz.prog 30 c_regencyref08_Put := isFn_of [([], []), ([], [2]), ([], [0]), (kl1_20, []), ([], []), ([9, 10, 11, 12], []), ([], []), ([], []), ([], [2]), ([], []), ([], []), ([], [])] (by kernel_rfl)
abbrev s_regencyref06_Put_0 (v3 v9 v10 v11 : AV) : List AV := [.any, undefA, .any, v3, undefA, .any, .any, .any, .any, v9, v10, v11, .any, .any, .any, .any, .any, .any, .any, .any, .any, .any, .any, .any, .any, .any, .any, .any, .any, .any, .any, .any, .any, .any, undefA]
abbrev x_regencyref06_Put_0 (v3 : AV) : List AV := [.any, undefA, .any, v3, undefA, .any, .any, .any, .any, .any, .any, .any, .any, .any, .any, .any, .any, .any, .any, .any, .any, .any, .any, .any, .any, .any, .any, .any, .any, .any, .any, .any, .any, .any, undefA]
abbrev l_regencyref06_Put_0 : CC := .kill kl1_21 (.seq (.region [oN 12 (.bin .lss (tP 11) (tP 10))])
  (.seq (.cond (tP 12) (.skip) (.kill [9, 10, 11, 12] (.exit 0)))
  (.seq (.block 1 (.seq (.region [oN 13 (.iaddr 2 none (tP 9) (tP 11)),
 oN 14 (.load (some 2) (tP 13)),
 oN 5 (.alloc [.str ⟨#[]⟩, .int .i64 0]),
 ⟨none, .store 2 (tP 5) (tP 14), none⟩])
  (.seq (.region [mV 15 3,
 oN 16 (.faddr 0 (tP 5)),
 lD 17 16,
 oN 18 (.pcall 33 [(tP 17)]),
 oN 19 (.bin .add (tP 15) (tP 18)),
 mV 3 19])
  (.seq (.region [oN 20 (.faddr 1 (tP 5)),
 lD 21 20,
 oN 22 (.bin .geq (tP 21) (.con (.int .i64 0))),
 mV 23 22,
 oG 24 (.faddr 1 (tP 5)) 23 true,
 oG 25 (.load none (tP 24)) 23 true,
 oG 26 (.bin .leq (tP 25) (.con (.int .i64 4611686018427387903))) 23 true,
 oN 27 (.pick (tP 23) (tP 26) (.con (.bool false)))])
  (.cond (tP 27) (.region [mV 28 3,
 oN 29 (.faddr 1 (tP 5)),
 lD 30 29,
 oN 31 (.pcall 29 [(tP 30)]),
 oN 32 (.bin .add (tP 28) (tP 31)),
 mV 3 32]) (.skip))))))
  (.region [oN 33 (.bin .add (tP 11) (.con (.int .i64 1))),
 mV 11 33]))))
def c_regencyref06_Put : CFn := ⟨35, .seq (.region [oN 2 (.mov (.con (.str ⟨#[]⟩)))])
  (.seq (.region [mV 6 0,
 oN 7 (.lenl (tP 6)),
 oN 8 (.pcall 29 [(tP 7)]),
 mV 3 8])
  (.seq (.seq (.region [oN 9 (.take (tP 0)),
 oN 10 (.lenl (tP 9)),
 oN 11 (.mov (.con (.int .i64 0)))])
  (.block 0 (.kill kl1_21 (.loop l_regencyref06_Put_0))))
  (.seq (.region [mV 34 3,
 mV 2 34])
  (.ret)))),
  [.tmp 2]⟩
theorem is_regencyref06_Put : IsFn Tryz.prog 31 c_regencyref06_Put := isFn_of [([], []), ([], [2]), ([], [0]), (kl1_21, []), ([], []), ([9, 10, 11, 12], []), ([], []), ([], [3]), ([], []), ([], [3]), ([], []), ([], []), ([], [])] (by kernel_rfl)
abbrev s_regencyref07_Put_0 (v3 v9 v10 v11 : AV) : List AV := [.any, undefA, .any, v3, undefA, .any, .any, .any, .any, v9, v10, v11, .any, .any, .any, .any, .any, .any, .any, .any, undefA]
abbrev x_regencyref07_Put_0 (v3 : AV) : List AV := [.any, undefA, .any, v3, undefA, .any, .any, .any, .any, .any, .any, .any, .any, .any, .any, .any, .any, .any, .any, .any, undefA]
abbrev l_regencyref07_Put_0 : CC := .kill kl1_22 (.seq (.region [oN 12 (.bin .lss (tP 11) (tP 10))])
  (.seq (.cond (tP 12) (.skip) (.kill [9, 10, 11, 12] (.exit 0)))
  (.seq (.block 1 (.seq (.region [oN 13 (.iaddr 1 none (tP 9) (tP 11)),
 lD 14 13,
 mV 5 14])
  (.region [mV 15 3,
 mV 16 5,
 oN 17 (.pcall 33 [(tP 16)]),
 oN 18 (.bin .add (tP 15) (tP 17)),
 mV 3 18])))
  (.region [oN 19 (.bin .add (tP 11) (.con (.int .i64 1))),
 mV 11 19]))))
def c_regencyref07_Put : CFn := ⟨21, .seq (.region [oN 2 (.mov (.con (.str ⟨#[]⟩)))])
  (.seq (.region [mV 6 0,
 oN 7 (.lenl (tP 6)),
 oN 8 (.pcall 29 [(tP 7)]),
 mV 3 8])
  (.seq (.seq (.region [oN 9 (.take (tP 0)),
 oN 10 (.lenl (tP 9)),
 oN 11 (.mov (.con (.int .i64 0)))])
  (.block 0 (.kill kl1_22 (.loop l_regencyref07_Put_0))))
  (.seq (.region [mV 20 3,
 mV 2 20])
  (.ret)))),
  [.tmp 2]⟩
theorem is_regencyref07_Put : IsFn Tryz.prog 32 c_regencyref07_Put := isFn_of [([], []), ([], [2]), ([], [0]), (kl1_22, []), ([], []), ([9, 10, 11, 12], []), ([], []), ([], [2]), ([], []), ([], []), ([], [])] (by kernel_rfl)
def c_regencyref03_Text : CFn := ⟨8, .seq (.region [oN 2 (.mov (.con (.str ⟨#[]⟩)))])
  (.seq (.region [mV 3 0,
 oN 4 (.lens (tP 3)),
 oN 5 (.pcall 29 [(tP 4)]),
 mV 6 0,
 oN 7 (.bin .add (tP 5) (tP 6)),
 mV 2 7])
  (.ret)),
  [.tmp 2]⟩
theorem is_regencyref03_Text : IsFn Tryz.prog 33 c_regencyref03_Text := isFn_of [([], []), ([], [2]), ([], [])] (by kernel_rfl)
def c_regencyref03_Flag : CFn := ⟨4, .seq (.region [oN 2 (.mov (.con (.str ⟨#[]⟩)))])
  (.seq (.seq (.region [mV 3 0])
  (.cond (tP 3) (.seq (.region [oN 2 (.mov (.con (.str ⟨#[1]⟩)))])
  (.ret)) (.skip)))
  (.seq (.region [oN 2 (.mov (.con (.str ⟨#[0]⟩)))])
  (.ret))),
  [.tmp 2]⟩
theorem is_regencyref03_Flag : IsFn Tryz.prog 34 c_regencyref03_Flag := isFn_of [([], []), ([], []), ([], []), ([], []), ([], []), ([], [])] (by kernel_rfl)
def c_call_known : CFn := ⟨9, .seq (.region [oN 2 (.mov (.con (.bool false)))])
  (.seq (.region [mV 3 0,
 oN 4 (.bin .geq (tP 3) (.con (.int .i64 0))),
 mV 5 4,
 oG 6 (.mov (tP 0)) 5 true,
 oG 7 (.bin .leq (tP 6) (.con (.int .i64 20))) 5 true,
 oN 8 (.pick (tP 5) (tP 7) (.con (.bool false))),
 mV 2 8])
  (.ret)),
  [.tmp 2]⟩
theorem is_call_known : IsFn Tryz.prog 35 c_call_known := isFn_of [([], []), ([], []), ([], [])] (by kernel_rfl)
def c_slices_ContainsFunc_call_part_call_part : CFn := ⟨9, .seq (.region [oN 4 (.mov (.con (.bool false)))])
  (.seq (.region [oN 5 (.take (tP 0)),
 mV 6 1,
 oN 7 (.call 65 [(tP 5), (tP 6)]),
 oN 8 (.bin .geq (tP 7) (.con (.int .i64 0))),
 mV 4 8])
  (.ret)),
  [.tmp 4]⟩
theorem is_slices_ContainsFunc_call_part_call_part : IsFn Tryz.prog 36 c_slices_ContainsFunc_call_part_call_part := isFn_of [([], []), ([], [0]), ([], [])] (by kernel_rfl)
def c_call_parts : CFn := ⟨47, .seq (.region [oN 2 (.take (.con (.sl .ex [])))])
  (.seq (.seq (.region [mV 3 0])
  (.block 0 (.seq (.region [oN 5 (.bin .eql (tP 3) (.con (.int .i64 2))),
 mV 4 5])
  (.cond (tP 4) (.seq (.region [oN 6 (.bslice 1 false [(.con (.int .i64 0)), (.con (.int .i64 1)), (.con (.int .i64 2)), (.con (.int .i64 3))]),
 oN 2 (.take (tP 6))])
  (.ret)) (.seq (.seq (.region [oN 8 (.bin .eql (tP 3) (.con (.int .i64 3))),
 mV 7 8])
  (.cond (tP 7) (.skip) (.region [oN 9 (.bin .eql (tP 3) (.con (.int .i64 6))),
 mV 7 9])))
  (.cond (tP 7) (.seq (.region [oN 10 (.bslice 1 false [(.con (.int .i64 0)), (.con (.int .i64 1)), (.con (.int .i64 2))]),
 oN 2 (.take (tP 10))])
  (.ret)) (.seq (.region [oN 12 (.bin .eql (tP 3) (.con (.int .i64 4))),
 mV 11 12])
  (.cond (tP 11) (.seq (.region [oN 13 (.bslice 1 false [(.con (.int .i64 0)), (.con (.int .i64 1)), (.con (.int .i64 2)), (.con (.int .i64 5))]),
 oN 2 (.take (tP 13))])
  (.ret)) (.seq (.region [oN 15 (.bin .eql (tP 3) (.con (.int .i64 5))),
 mV 14 15])
  (.cond (tP 14) (.seq (.region [oN 16 (.bslice 1 false [(.con (.int .i64 0)), (.con (.int .i64 1)), (.con (.int .i64 2)), (.con (.int .i64 4)), (.con (.int .i64 5)), (.con (.int .i64 3))]),
 oN 2 (.take (tP 16))])
  (.ret)) (.seq (.seq (.region [oN 18 (.bin .eql (tP 3) (.con (.int .i64 7))),
 mV 17 18])
  (.cond (tP 17) (.skip) (.region [oN 19 (.bin .eql (tP 3) (.con (.int .i64 19))),
 mV 17 19])))
  (.cond (tP 17) (.seq (.region [oN 20 (.bslice 1 false [(.con (.int .i64 0)), (.con (.int .i64 2)), (.con (.int .i64 3))]),
 oN 2 (.take (tP 20))])
  (.ret)) (.seq (.seq (.region [oN 22 (.bin .eql (tP 3) (.con (.int .i64 8))),
 mV 21 22])
  (.cond (tP 21) (.skip) (.region [oN 23 (.bin .eql (tP 3) (.con (.int .i64 20))),
 mV 21 23])))
  (.cond (tP 21) (.seq (.region [oN 24 (.bslice 1 false [(.con (.int .i64 0)), (.con (.int .i64 2)), (.con (.int .i64 6))]),
 oN 2 (.take (tP 24))])
  (.ret)) (.seq (.seq (.region [oN 26 (.bin .eql (tP 3) (.con (.int .i64 9))),
 mV 25 26])
  (.cond (tP 25) (.skip) (.region [oN 27 (.bin .eql (tP 3) (.con (.int .i64 18))),
 mV 25 27])))
  (.cond (tP 25) (.seq (.region [oN 28 (.bslice 1 false [(.con (.int .i64 0)), (.con (.int .i64 2))]),
 oN 2 (.take (tP 28))])
  (.ret)) (.seq (.seq (.region [oN 30 (.bin .eql (tP 3) (.con (.int .i64 10))),
 mV 29 30])
  (.cond (tP 29) (.skip) (.seq (.region [oN 31 (.bin .eql (tP 3) (.con (.int .i64 11))),
 mV 29 31])
  (.cond (tP 29) (.skip) (.seq (.region [oN 32 (.bin .eql (tP 3) (.con (.int .i64 12))),
 mV 29 32])
  (.cond (tP 29) (.skip) (.region [oN 33 (.bin .eql (tP 3) (.con (.int .i64 15))),
 mV 29 33])))))))
  (.cond (tP 29) (.seq (.region [oN 34 (.bslice 1 false [(.con (.int .i64 0))]),
 oN 2 (.take (tP 34))])
  (.ret)) (.seq (.region [oN 36 (.bin .eql (tP 3) (.con (.int .i64 13))),
 mV 35 36])
  (.cond (tP 35) (.seq (.region [oN 37 (.bslice 1 false [(.con (.int .i64 0)), (.con (.int .i64 10))]),
 oN 2 (.take (tP 37))])
  (.ret)) (.seq (.region [oN 39 (.bin .eql (tP 3) (.con (.int .i64 14))),
 mV 38 39])
  (.cond (tP 38) (.seq (.region [oN 40 (.bslice 1 false [(.con (.int .i64 1))]),
 oN 2 (.take (tP 40))])
  (.ret)) (.seq (.region [oN 42 (.bin .eql (tP 3) (.con (.int .i64 16))),
 mV 41 42])
  (.cond (tP 41) (.seq (.region [oN 43 (.bslice 1 false [(.con (.int .i64 7))]),
 oN 2 (.take (tP 43))])
  (.ret)) (.seq (.region [oN 45 (.bin .eql (tP 3) (.con (.int .i64 17))),
 mV 44 45])
  (.cond (tP 44) (.seq (.region [oN 46 (.bslice 1 false [(.con (.int .i64 0)), (.con (.int .i64 2)), (.con (.int .i64 8)), (.con (.int .i64 9))]),
 oN 2 (.take (tP 46))])
  (.ret)) (.skip)))))))))))))))))))))))))))
  (.seq (.region [oN 2 (.take (.con (.sl .ex [])))])
  (.ret))),
  [.tmp 2]⟩
theorem is_call_parts : IsFn Tryz.prog 37 c_call_parts := isFn_of [([], [0]), ([], []), ([], []), ([], [1]), ([], []), ([], []), ([], []), ([], [1]), ([], []), ([], []), ([], [1]), ([], []), ([], []), ([], [1]), ([], []), ([], []), ([], []), ([], [1]), ([], []), ([], []), ([], []), ([], [1]), ([], []), ([], []), ([], []), ([], [1]), ([], []), ([], []), ([], []), ([], []), ([], []), ([], [1]), ([], []), ([], []), ([], [1]), ([], []), ([], []), ([], [1]), ([], []), ([], []), ([], [1]), ([], []), ([], []), ([], [1]), ([], []), ([], [0]), ([], [])] (by kernel_rfl)
def c_call_Right_1 : CFn := ⟨8, .seq (.region [oN 3 (.mov (.con (.bool false)))])
  (.seq (.region [mV 4 0,
 oN 5 (.load (some 11) (tP 1)),
 oN 6 (.pcall 39 [(tP 4), (tP 5)]),
 oN 7 (.un .not (tP 6)),
 mV 3 7])
  (.ret)),
  [.tmp 3]⟩
theorem is_call_Right_1 : IsFn Tryz.prog 38 c_call_Right_1 := isFn_of [([], []), ([], [2]), ([], [])] (by kernel_rfl)
def c_call_part_right : CFn := ⟨62, .seq (.region [oN 3 (.box (tP 1)),
 oN 4 (.mov (.con (.bool false)))])
  (.seq (.seq (.region [mV 5 0])
  (.block 0 (.seq (.region [oN 7 (.bin .eql (tP 5) (.con (.int .i64 0))),
 mV 6 7])
  (.cond (tP 6) (.seq (.region [oN 8 (.faddr 1 (tP 3)),
 lD 9 8,
 oN 10 (.pcall 66 [(tP 9)]),
 mV 4 10])
  (.ret)) (.seq (.region [oN 12 (.bin .eql (tP 5) (.con (.int .i64 1))),
 mV 11 12])
  (.cond (tP 11) (.seq (.region [oN 13 (.faddr 2 (tP 3)),
 lD 14 13,
 oN 15 (.pcall 67 [(tP 14)]),
 mV 4 15])
  (.ret)) (.seq (.region [oN 17 (.bin .eql (tP 5) (.con (.int .i64 2))),
 mV 16 17])
  (.cond (tP 16) (.seq (.region [oN 18 (.faddr 5 (tP 3)),
 lD 19 18,
 oN 20 (.pcall 68 [(tP 19)]),
 mV 4 20])
  (.ret)) (.seq (.region [oN 22 (.bin .eql (tP 5) (.con (.int .i64 3))),
 mV 21 22])
  (.cond (tP 21) (.seq (.region [oN 23 (.faddr 6 (tP 3)),
 lD 24 23,
 oN 25 (.pcall 68 [(tP 24)]),
 mV 4 25])
  (.ret)) (.seq (.region [oN 27 (.bin .eql (tP 5) (.con (.int .i64 4))),
 mV 26 27])
  (.cond (tP 26) (.seq (.region [oN 28 (.faddr 3 (tP 3)),
 lD 29 28,
 oN 30 (.pcall 67 [(tP 29)]),
 mV 4 30])
  (.ret)) (.seq (.region [oN 32 (.bin .eql (tP 5) (.con (.int .i64 5))),
 mV 31 32])
  (.cond (tP 31) (.seq (.region [oN 33 (.faddr 4 (tP 3)),
 lD 34 33,
 oN 35 (.pcall 69 [(tP 34)]),
 mV 4 35])
  (.ret)) (.seq (.region [oN 37 (.bin .eql (tP 5) (.con (.int .i64 6))),
 mV 36 37])
  (.cond (tP 36) (.seq (.region [oN 38 (.faddr 7 (tP 3)),
 lD 39 38,
 oN 40 (.lenl (tP 39)),
 oN 41 (.bin .leq (tP 40) (.con (.int .i64 256))),
 mV 4 41])
  (.ret)) (.seq (.region [oN 43 (.bin .eql (tP 5) (.con (.int .i64 7))),
 mV 42 43])
  (.cond (tP 42) (.seq (.region [oN 44 (.faddr 8 (tP 3)),
 lD 45 44,
 oN 46 (.pcall 70 [(tP 45)]),
 mV 4 46])
  (.ret)) (.seq (.region [oN 48 (.bin .eql (tP 5) (.con (.int .i64 8))),
 mV 47 48])
  (.cond (tP 47) (.seq (.region [oN 49 (.faddr 9 (tP 3)),
 lD 50 49,
 oN 51 (.pcall 66 [(tP 50)]),
 mV 4 51])
  (.ret)) (.seq (.region [oN 53 (.bin .eql (tP 5) (.con (.int .i64 10))),
 mV 52 53])
  (.cond (tP 52) (.seq (.region [oN 54 (.faddr 5 (tP 3)),
 lD 55 54,
 oN 56 (.bin .geq (tP 55) (.con (.int .i64 (-1048576)))),
 mV 57 56,
 oG 58 (.faddr 5 (tP 3)) 57 true,
 oG 59 (.load none (tP 58)) 57 true,
 oG 60 (.bin .leq (tP 59) (.con (.int .i64 1048576))) 57 true,
 oN 61 (.pick (tP 57) (tP 60) (.con (.bool false))),
 mV 4 61])
  (.ret)) (.skip)))))))))))))))))))))))
  (.seq (.region [oN 4 (.mov (.con (.bool true)))])
  (.ret))),
  [.tmp 4]⟩
theorem is_call_part_right : IsFn Tryz.prog 39 c_call_part_right := isFn_of [([], []), ([], []), ([], []), ([], [2]), ([], []), ([], []), ([], [2]), ([], []), ([], []), ([], [2]), ([], []), ([], []), ([], [2]), ([], []), ([], []), ([], [2]), ([], []), ([], []), ([], [2]), ([], []), ([], []), ([], []), ([], []), ([], []), ([], [2]), ([], []), ([], []), ([], [2]), ([], []), ([], []), ([], []), ([], []), ([], []), ([], [])] (by kernel_rfl)
abbrev s_tape_Pen_Number_0 (v0 v1 : AV) : List AV := [v0, v1, undefA, undefA, .any, .any, .any, .any, .any, .any, .any, .any, .any, .any, .any, .any, .any, .any, .any, .any, .any, .any, .any, .any, .any, .any, .any, .any, .any, .any, .any, .any, undefA, undefA, undefA, undefA, undefA, undefA, undefA, undefA, undefA, undefA, undefA]
abbrev x_tape_Pen_Number_0 (v0 v1 : AV) : List AV := [v0, v1, undefA, undefA, .any, .any, .any, .any, .any, .any, .any, .any, .any, .any, .any, .any, .any, .any, .any, .any, .any, .any, .any, .any, .any, .any, .any, .any, .any, .any, .any, .any, undefA, undefA, undefA, undefA, undefA, undefA, undefA, undefA, undefA, undefA, undefA]
abbrev l_tape_Pen_Number_0 : CC := .kill kl1_23 (.seq (.seq (.region [mV 15 1,
 oN 16 (.bin .geq (tP 15) (.con (.int .i64 128)))])
  (.cond (tP 16) (.skip) (.kill [15, 16] (.exit 0))))
  (.block 1 (.seq (.region [mV 17 0,
 mV 18 0,
 oN 19 (.nilck (tP 18)),
 oN 20 (.faddr 0 (tP 19)),
 oN 21 (.ltake (tP 20)),
 mV 22 1,
 oN 23 (.bin .rem (tP 22) (.con (.int .i64 128))),
 oN 24 (.bin .add (tP 23) (.con (.int .i64 128))),
 oN 25 (.cInt .u8 (tP 24)),
 oN 26 (.bslice 1 false [(tP 25)]),
 oN 27 (.append 1 1 false (tP 21) (tP 26)),
 oN 28 (.nilck (tP 17)),
 oN 29 (.faddr 0 (tP 28)),
 ⟨none, .store 1 (tP 29) (tP 27), none⟩])
  (.region [mV 30 1,
 oN 31 (.bin .quo (tP 30) (.con (.int .i64 128))),
 mV 1 31]))))
def c_tape_Pen_Number : CFn := ⟨43, .seq (.region [oN 4 (.mov (.con (.bool false)))])
  (.seq (.seq (.region [mV 5 0,
 oN 6 (.isnil .ptr false (tP 5)),
 mV 7 6,
 oG 8 (.mov (tP 1)) 7 false,
 oG 9 (.bin .lss (tP 8) (.con (.int .i64 0))) 7 false,
 oN 10 (.pick (tP 7) (.con (.bool true)) (tP 9)),
 mV 11 10,
 oG 12 (.mov (tP 1)) 11 false,
 oG 13 (.bin .gtr (tP 12) (.con (.int .i64 4611686018427387903))) 11 false,
 oN 14 (.pick (tP 11) (.con (.bool true)) (tP 13))])
  (.cond (tP 14) (.seq (.region [oN 4 (.mov (.con (.bool false)))])
  (.ret)) (.skip)))
  (.seq (.block 0 (.kill kl1_23 (.loop l_tape_Pen_Number_0)))
  (.seq (.region [mV 32 0,
 mV 33 0,
 oN 34 (.nilck (tP 33)),
 oN 35 (.faddr 0 (tP 34)),
 oN 36 (.ltake (tP 35)),
 mV 37 1,
 oN 38 (.cInt .u8 (tP 37)),
 oN 39 (.bslice 1 false [(tP 38)]),
 oN 40 (.append 1 1 false (tP 36) (tP 39)),
 oN 41 (.nilck (tP 32)),
 oN 42 (.faddr 0 (tP 41)),
 ⟨none, .store 1 (tP 42) (tP 40), none⟩])
  (.seq (.region [oN 4 (.mov (.con (.bool true)))])
  (.ret))))),
  [.tmp 4]⟩
theorem is_tape_Pen_Number : IsFn Tryz.prog 40 c_tape_Pen_Number := isFn_of [([], []), ([], []), ([], []), ([], []), (kl1_23, []), ([], []), ([15, 16], []), ([], [4]), ([], []), ([], [4]), ([], []), ([], [])] (by kernel_rfl)
def c_call_part_put : CFn := ⟨75, .seq (.region [oN 5 (.box (tP 2))])
  (.seq (.region [mV 6 0])
  (.block 0 (.seq (.region [oN 8 (.bin .eql (tP 6) (.con (.int .i64 0))),
 mV 7 8])
  (.cond (tP 7) (.region [mV 9 1,
 oN 10 (.faddr 1 (tP 5)),
 lD 11 10,
 oN 12 (.call 71 [(tP 9), (tP 11)])]) (.seq (.region [oN 14 (.bin .eql (tP 6) (.con (.int .i64 1))),
 mV 13 14])
  (.cond (tP 13) (.region [mV 15 1,
 oN 16 (.faddr 2 (tP 5)),
 lD 17 16,
 oN 18 (.call 72 [(tP 15), (tP 17)])]) (.seq (.region [oN 20 (.bin .eql (tP 6) (.con (.int .i64 2))),
 mV 19 20])
  (.cond (tP 19) (.region [mV 21 1,
 oN 22 (.faddr 5 (tP 5)),
 lD 23 22,
 oN 24 (.call 40 [(tP 21), (tP 23)])]) (.seq (.region [oN 26 (.bin .eql (tP 6) (.con (.int .i64 3))),
 mV 25 26])
  (.cond (tP 25) (.region [mV 27 1,
 oN 28 (.faddr 6 (tP 5)),
 lD 29 28,
 oN 30 (.call 40 [(tP 27), (tP 29)])]) (.seq (.region [oN 32 (.bin .eql (tP 6) (.con (.int .i64 4))),
 mV 31 32])
  (.cond (tP 31) (.region [mV 33 1,
 oN 34 (.faddr 3 (tP 5)),
 lD 35 34,
 oN 36 (.call 72 [(tP 33), (tP 35)])]) (.seq (.region [oN 38 (.bin .eql (tP 6) (.con (.int .i64 5))),
 mV 37 38])
  (.cond (tP 37) (.region [mV 39 1,
 oN 40 (.faddr 4 (tP 5)),
 lD 41 40,
 oN 42 (.call 73 [(tP 39), (tP 41)])]) (.seq (.region [oN 44 (.bin .eql (tP 6) (.con (.int .i64 6))),
 mV 43 44])
  (.cond (tP 43) (.region [mV 45 1,
 oN 46 (.faddr 7 (tP 5)),
 lD 47 46,
 oN 48 (.cBytesStr (tP 47)),
 oN 49 (.call 74 [(tP 45), (tP 48)])]) (.seq (.region [oN 51 (.bin .eql (tP 6) (.con (.int .i64 7))),
 mV 50 51])
  (.cond (tP 50) (.region [mV 52 1,
 oN 53 (.faddr 8 (tP 5)),
 lD 54 53,
 oN 55 (.call 74 [(tP 52), (tP 54)])]) (.seq (.region [oN 57 (.bin .eql (tP 6) (.con (.int .i64 8))),
 mV 56 57])
  (.cond (tP 56) (.region [mV 58 1,
 oN 59 (.faddr 9 (tP 5)),
 lD 60 59,
 oN 61 (.call 71 [(tP 58), (tP 60)])]) (.seq (.region [oN 63 (.bin .eql (tP 6) (.con (.int .i64 9))),
 mV 62 63])
  (.cond (tP 62) (.region [mV 64 1,
 oN 65 (.faddr 10 (tP 5)),
 lD 66 65,
 oN 67 (.call 75 [(tP 64), (tP 66)])]) (.seq (.region [oN 69 (.bin .eql (tP 6) (.con (.int .i64 10))),
 mV 68 69])
  (.cond (tP 68) (.region [mV 70 1,
 oN 71 (.faddr 5 (tP 5)),
 lD 72 71,
 oN 73 (.bin .add (tP 72) (.con (.int .i64 1048576))),
 oN 74 (.call 40 [(tP 70), (tP 73)])]) (.skip))))))))))))))))))))))))),
  []⟩
theorem is_call_part_put : IsFn Tryz.prog 41 c_call_part_put := isFn_of [([], []), ([], []), ([], []), ([], []), ([], []), ([], []), ([], []), ([], []), ([], []), ([], []), ([], []), ([], []), ([], []), ([], []), ([], []), ([], []), ([], []), ([], []), ([], []), ([], []), ([], []), ([], []), ([], []), ([], [])] (by kernel_rfl)
def p_slices_Clone_byte_byte := cloneP 1 1
theorem ok_slices_Clone_byte_byte : OkDef Tryz.prog 42 (.prim p_slices_Clone_byte_byte) := clone_ok (hs0 := [([], [0])]) (hs2 := [([], [0])]) (hs4 := [([], [1, 3])]) (hs1 := []) (hs3 := []) (hs5 := []) Tryz.func42 rfl rfl (by kernel_rfl) rfl rfl rfl rfl rfl rfl rfl Tryz.underlying26 (by kernel_rfl) (by kernel_rfl) (by kernel_rfl)
abbrev s_regencyref08_Same_0 (v0 v1 v12 v13 : AV) : List AV := [v0, v1, undefA, undefA, .any, .any, .any, .any, .any, .any, .any, .any, v12, v13, .any, .any, .any, .any, .any, .any, .any, .any, .any, .any, .any, .any]
abbrev x_regencyref08_Same_0  : List AV := [.any, .any, undefA, undefA, .any, .any, .any, .any, .any, .any, .any, .any, .any, .any, .any, .any, .any, .any, .any, .any, .any, .any, .any, .any, .any, .any]
abbrev l_regencyref08_Same_0 : CC := .kill kl1_0 (.seq (.region [oN 14 (.bin .lss (tP 13) (tP 12))])
  (.seq (.cond (tP 14) (.skip) (.kill [0, 1, 12, 13, 14] (.exit 0)))
  (.seq (.block 1 (.seq (.region [mV 15 13,
 mV 5 15])
  (.seq (.region [mV 16 0,
 mV 17 5,
 oN 18 (.iaddr 1 none (tP 16) (tP 17)),
 lD 19 18,
 mV 20 1,
 mV 21 5,
 oN 22 (.iaddr 1 none (tP 20) (tP 21)),
 lD 23 22,
 oN 24 (.bin .neq (tP 19) (tP 23))])
  (.cond (tP 24) (.seq (.region [oN 4 (.mov (.con (.bool false)))])
  (.ret)) (.skip)))))
  (.region [oN 25 (.bin .add (tP 13) (.con (.int .i64 1))),
 mV 13 25]))))
def c_regencyref08_Same : CFn := ⟨26, .seq (.region [oN 4 (.mov (.con (.bool false)))])
  (.seq (.seq (.region [mV 6 0,
 oN 7 (.lenl (tP 6)),
 mV 8 1,
 oN 9 (.lenl (tP 8)),
 oN 10 (.bin .neq (tP 7) (tP 9))])
  (.cond (tP 10) (.seq (.region [oN 4 (.mov (.con (.bool false)))])
  (.ret)) (.skip)))
  (.seq (.seq (.region [mV 11 0,
 oN 12 (.lenl (tP 11)),
 oN 13 (.mov (.con (.int .i64 0)))])
  (.block 0 (.kill kl1_0 (.loop l_regencyref08_Same_0))))
  (.seq (.region [oN 4 (.mov (.con (.bool true)))])
  (.ret)))),
  [.tmp 4]⟩
theorem is_regencyref08_Same : IsFn Tryz.prog 43 c_regencyref08_Same := isFn_of [([], []), ([], []), ([], []), ([], []), ([], []), (kl1_0, []), ([], []), ([0, 1, 12, 13, 14], []), ([], []), ([], []), ([], []), ([], []), ([], []), ([], []), ([], [])] (by kernel_rfl)
abbrev s_regencyref06_Same_0 (v0 v1 v12 v13 : AV) : List AV := [v0, v1, undefA, undefA, .any, .any, .any, .any, .any, .any, .any, .any, v12, v13, .any, .any, .any, .any, .any, .any, .any, .any, .any, .any, .any, .any]
abbrev x_regencyref06_Same_0  : List AV := [.any, .any, undefA, undefA, .any, .any, .any, .any, .any, .any, .any, .any, .any, .any, .any, .any, .any, .any, .any, .any, .any, .any, .any, .any, .any, .any]
abbrev l_regencyref06_Same_0 : CC := .kill kl1_0 (.seq (.region [oN 14 (.bin .lss (tP 13) (tP 12))])
  (.seq (.cond (tP 14) (.skip) (.kill [0, 1, 12, 13, 14] (.exit 0)))
  (.seq (.block 1 (.seq (.region [mV 15 13,
 mV 5 15])
  (.seq (.region [mV 16 0,
 mV 17 5,
 oN 18 (.iaddr 2 none (tP 16) (tP 17)),
 oN 19 (.load (some 2) (tP 18)),
 mV 20 1,
 mV 21 5,
 oN 22 (.iaddr 2 none (tP 20) (tP 21)),
 oN 23 (.load (some 2) (tP 22)),
 oN 24 (.eqs true [(0, .string), (1, (.int .i64))] (tP 19) (tP 23))])
  (.cond (tP 24) (.seq (.region [oN 4 (.mov (.con (.bool false)))])
  (.ret)) (.skip)))))
  (.region [oN 25 (.bin .add (tP 13) (.con (.int .i64 1))),
 mV 13 25]))))
def c_regencyref06_Same : CFn := ⟨26, .seq (.region [oN 4 (.mov (.con (.bool false)))])
  (.seq (.seq (.region [mV 6 0,
 oN 7 (.lenl (tP 6)),
 mV 8 1,
 oN 9 (.lenl (tP 8)),
 oN 10 (.bin .neq (tP 7) (tP 9))])
  (.cond (tP 10) (.seq (.region [oN 4 (.mov (.con (.bool false)))])
  (.ret)) (.skip)))
  (.seq (.seq (.region [mV 11 0,
 oN 12 (.lenl (tP 11)),
 oN 13 (.mov (.con (.int .i64 0)))])
  (.block 0 (.kill kl1_0 (.loop l_regencyref06_Same_0))))
  (.seq (.region [oN 4 (.mov (.con (.bool true)))])
  (.ret)))),
  [.tmp 4]⟩
theorem is_regencyref06_Same : IsFn Tryz.prog 44 c_regencyref06_Same := isFn_of [([], []), ([], []), ([], []), ([], []), ([], []), (kl1_0, []), ([], []), ([0, 1, 12, 13, 14], []), ([], []), ([], []), ([], []), ([], []), ([], []), ([], []), ([], [])] (by kernel_rfl)
abbrev s_regencyref07_Same_0 (v0 v1 v12 v13 : AV) : List AV := [v0, v1, undefA, undefA, .any, .any, .any, .any, .any, .any, .any, .any, v12, v13, .any, .any, .any, .any, .any, .any, .any, .any, .any, .any, .any, .any]
abbrev x_regencyref07_Same_0  : List AV := [.any, .any, undefA, undefA, .any, .any, .any, .any, .any, .any, .any, .any, .any, .any, .any, .any, .any, .any, .any, .any, .any, .any, .any, .any, .any, .any]
abbrev l_regencyref07_Same_0 : CC := .kill kl1_0 (.seq (.region [oN 14 (.bin .lss (tP 13) (tP 12))])
  (.seq (.cond (tP 14) (.skip) (.kill [0, 1, 12, 13, 14] (.exit 0)))
  (.seq (.block 1 (.seq (.region [mV 15 13,
 mV 5 15])
  (.seq (.region [mV 16 0,
 mV 17 5,
 oN 18 (.iaddr 1 none (tP 16) (tP 17)),
 lD 19 18,
 mV 20 1,
 mV 21 5,
 oN 22 (.iaddr 1 none (tP 20) (tP 21)),
 lD 23 22,
 oN 24 (.bin .neq (tP 19) (tP 23))])
  (.cond (tP 24) (.seq (.region [oN 4 (.mov (.con (.bool false)))])
  (.ret)) (.skip)))))
  (.region [oN 25 (.bin .add (tP 13) (.con (.int .i64 1))),
 mV 13 25]))))
def c_regencyref07_Same : CFn := ⟨26, .seq (.region [oN 4 (.mov (.con (.bool false)))])
  (.seq (.seq (.region [mV 6 0,
 oN 7 (.lenl (tP 6)),
 mV 8 1,
 oN 9 (.lenl (tP 8)),
 oN 10 (.bin .neq (tP 7) (tP 9))])
  (.cond (tP 10) (.seq (.region [oN 4 (.mov (.con (.bool false)))])
  (.ret)) (.skip)))
  (.seq (.seq (.region [mV 11 0,
 oN 12 (.lenl (tP 11)),
 oN 13 (.mov (.con (.int .i64 0)))])
  (.block 0 (.kill kl1_0 (.loop l_regencyref07_Same_0))))
  (.seq (.region [oN 4 (.mov (.con (.bool true)))])
  (.ret)))),
  [.tmp 4]⟩
theorem is_regencyref07_Same : IsFn Tryz.prog 45 c_regencyref07_Same := isFn_of [([], []), ([], []), ([], []), ([], []), ([], []), (kl1_0, []), ([], []), ([0, 1, 12, 13, 14], []), ([], []), ([], []), ([], []), ([], []), ([], []), ([], []), ([], [])] (by kernel_rfl)
def p_slices_Clone_int_int := cloneP 1 8
theorem ok_slices_Clone_int_int : OkDef Tryz.prog 46 (.prim p_slices_Clone_int_int) := clone_ok (hs0 := [([], [0])]) (hs2 := [([], [0])]) (hs4 := [([], [1, 3])]) (hs1 := []) (hs3 := []) (hs5 := []) Tryz.func46 rfl rfl (by kernel_rfl) rfl rfl rfl rfl rfl rfl rfl Tryz.underlying22 (by kernel_rfl) (by kernel_rfl) (by kernel_rfl)
def p_slices_Clone_api_Label_api_Entry := cloneP 2 24
theorem ok_slices_Clone_api_Label_api_Entry : OkDef Tryz.prog 47 (.prim p_slices_Clone_api_Label_api_Entry) := clone_ok (hs0 := [([], [0])]) (hs2 := [([], [0])]) (hs4 := [([], [1, 3])]) (hs1 := []) (hs3 := []) (hs5 := []) Tryz.func47 rfl rfl (by kernel_rfl) rfl rfl rfl rfl rfl rfl rfl Tryz.underlying24 (by kernel_rfl) (by kernel_rfl) (by kernel_rfl)
def p_slices_Clone_string_string := cloneP 1 16
theorem ok_slices_Clone_string_string : OkDef Tryz.prog 48 (.prim p_slices_Clone_string_string) := clone_ok (hs0 := [([], [0])]) (hs2 := [([], [0])]) (hs4 := [([], [1, 3])]) (hs1 := []) (hs3 := []) (hs5 := []) Tryz.func48 rfl rfl (by kernel_rfl) rfl rfl rfl rfl rfl rfl rfl Tryz.underlying25 (by kernel_rfl) (by kernel_rfl) (by kernel_rfl)
abbrev s_slices_Equal_int_int_0 (v0 v1 v12 v13 : AV) : List AV := [v0, v1, undefA, undefA, .any, .any, .any, .any, .any, .any, .any, .any, v12, v13, .any, .any, .any, .any, .any, .any, .any, .any, .any, .any, .any, .any]
abbrev x_slices_Equal_int_int_0  : List AV := [.any, .any, undefA, undefA, .any, .any, .any, .any, .any, .any, .any, .any, .any, .any, .any, .any, .any, .any, .any, .any, .any, .any, .any, .any, .any, .any]
abbrev l_slices_Equal_int_int_0 : CC := .kill kl1_0 (.seq (.region [oN 14 (.bin .lss (tP 13) (tP 12))])
  (.seq (.cond (tP 14) (.skip) (.kill [0, 1, 12, 13, 14] (.exit 0)))
  (.seq (.block 1 (.seq (.region [mV 15 13,
 mV 5 15])
  (.seq (.region [mV 16 0,
 mV 17 5,
 oN 18 (.iaddr 1 none (tP 16) (tP 17)),
 lD 19 18,
 mV 20 1,
 mV 21 5,
 oN 22 (.iaddr 1 none (tP 20) (tP 21)),
 lD 23 22,
 oN 24 (.bin .neq (tP 19) (tP 23))])
  (.cond (tP 24) (.seq (.region [oN 4 (.mov (.con (.bool false)))])
  (.ret)) (.skip)))))
  (.region [oN 25 (.bin .add (tP 13) (.con (.int .i64 1))),
 mV 13 25]))))
def c_slices_Equal_int_int : CFn := ⟨26, .seq (.region [oN 4 (.mov (.con (.bool false)))])
  (.seq (.seq (.region [mV 6 0,
 oN 7 (.lenl (tP 6)),
 mV 8 1,
 oN 9 (.lenl (tP 8)),
 oN 10 (.bin .neq (tP 7) (tP 9))])
  (.cond (tP 10) (.seq (.region [oN 4 (.mov (.con (.bool false)))])
  (.ret)) (.skip)))
  (.seq (.seq (.region [mV 11 0,
 oN 12 (.lenl (tP 11)),
 oN 13 (.mov (.con (.int .i64 0)))])
  (.block 0 (.kill kl1_0 (.loop l_slices_Equal_int_int_0))))
  (.seq (.region [oN 4 (.mov (.con (.bool true)))])
  (.ret)))),
  [.tmp 4]⟩
theorem is_slices_Equal_int_int : IsFn Tryz.prog 49 c_slices_Equal_int_int := isFn_of [([], []), ([], []), ([], []), ([], []), ([], []), (kl1_0, []), ([], []), ([0, 1, 12, 13, 14], []), ([], []), ([], []), ([], []), ([], []), ([], []), ([], []), ([], [])] (by kernel_rfl)
def c_label_Same : CFn := ⟨8, .seq (.region [oN 4 (.mov (.con (.bool false)))])
  (.seq (.region [oN 5 (.take (tP 0)),
 oN 6 (.take (tP 1)),
 oN 7 (.pcall 76 [(tP 5), (tP 6)]),
 mV 4 7])
  (.ret)),
  [.tmp 4]⟩
theorem is_label_Same : IsFn Tryz.prog 50 c_label_Same := isFn_of [([], []), ([], [0, 1, 2]), ([], [])] (by kernel_rfl)
abbrev s_slices_Equal_string_string_0 (v0 v1 v12 v13 : AV) : List AV := [v0, v1, undefA, undefA, .any, .any, .any, .any, .any, .any, .any, .any, v12, v13, .any, .any, .any, .any, .any, .any, .any, .any, .any, .any, .any, .any]
abbrev x_slices_Equal_string_string_0  : List AV := [.any, .any, undefA, undefA, .any, .any, .any, .any, .any, .any, .any, .any, .any, .any, .any, .any, .any, .any, .any, .any, .any, .any, .any, .any, .any, .any]
abbrev l_slices_Equal_string_string_0 : CC := .kill kl1_0 (.seq (.region [oN 14 (.bin .lss (tP 13) (tP 12))])
  (.seq (.cond (tP 14) (.skip) (.kill [0, 1, 12, 13, 14] (.exit 0)))
  (.seq (.block 1 (.seq (.region [mV 15 13,
 mV 5 15])
  (.seq (.region [mV 16 0,
 mV 17 5,
 oN 18 (.iaddr 1 none (tP 16) (tP 17)),
 lD 19 18,
 mV 20 1,
 mV 21 5,
 oN 22 (.iaddr 1 none (tP 20) (tP 21)),
 lD 23 22,
 oN 24 (.bin .neq (tP 19) (tP 23))])
  (.cond (tP 24) (.seq (.region [oN 4 (.mov (.con (.bool false)))])
  (.ret)) (.skip)))))
  (.region [oN 25 (.bin .add (tP 13) (.con (.int .i64 1))),
 mV 13 25]))))
def c_slices_Equal_string_string : CFn := ⟨26, .seq (.region [oN 4 (.mov (.con (.bool false)))])
  (.seq (.seq (.region [mV 6 0,
 oN 7 (.lenl (tP 6)),
 mV 8 1,
 oN 9 (.lenl (tP 8)),
 oN 10 (.bin .neq (tP 7) (tP 9))])
  (.cond (tP 10) (.seq (.region [oN 4 (.mov (.con (.bool false)))])
  (.ret)) (.skip)))
  (.seq (.seq (.region [mV 11 0,
 oN 12 (.lenl (tP 11)),
 oN 13 (.mov (.con (.int .i64 0)))])
  (.block 0 (.kill kl1_0 (.loop l_slices_Equal_string_string_0))))
  (.seq (.region [oN 4 (.mov (.con (.bool true)))])
  (.ret)))),
  [.tmp 4]⟩
theorem is_slices_Equal_string_string : IsFn Tryz.prog 51 c_slices_Equal_string_string := isFn_of [([], []), ([], []), ([], []), ([], []), ([], []), (kl1_0, []), ([], []), ([0, 1, 12, 13, 14], []), ([], []), ([], []), ([], []), ([], []), ([], []), ([], []), ([], [])] (by kernel_rfl)
def c_bytes_Equal : CFn := ⟨10, .seq (.region [oN 4 (.mov (.con (.bool false)))])
  (.seq (.region [oN 5 (.take (tP 0)),
 oN 6 (.cBytesStr (tP 5)),
 oN 7 (.take (tP 1)),
 oN 8 (.cBytesStr (tP 7)),
 oN 9 (.bin .eql (tP 6) (tP 8)),
 mV 4 9])
  (.ret)),
  [.tmp 4]⟩
theorem is_bytes_Equal : IsFn Tryz.prog 52 c_bytes_Equal := isFn_of [([], []), ([], [0, 2]), ([], [])] (by kernel_rfl)
def c_tape_Tape_Left : CFn := ⟨10, .seq (.region [oN 2 (.mov (.con (.int .i64 0)))])
  (.seq (.seq (.region [mV 3 0,
 oN 4 (.isnil .ptr false (tP 3))])
  (.cond (tP 4) (.seq (.region [oN 2 (.mov (.con (.int .i64 0)))])
  (.ret)) (.skip)))
  (.seq (.region [mV 5 0,
 oN 6 (.nilck (tP 5)),
 oN 7 (.faddr 0 (tP 6)),
 lD 8 7,
 oN 9 (.lenl (tP 8)),
 mV 2 9])
  (.ret))),
  [.tmp 2]⟩
theorem is_tape_Tape_Left : IsFn Tryz.prog 53 c_tape_Tape_Left := isFn_of [([], []), ([], []), ([], []), ([], []), ([], []), ([], [])] (by kernel_rfl)
def c_tape_Tape_Number : CFn := ⟨49, .seq (.region [oN 4 (.mov (.con (.int .i64 0)))])
  (.seq (.seq (.region [mV 8 0,
 oN 9 (.isnil .ptr false (tP 8)),
 mV 10 9,
 oG 11 (.mov (tP 0)) 10 false,
 oG 12 (.nilck (tP 11)) 10 false,
 oG 13 (.faddr 1 (tP 12)) 10 false,
 oG 14 (.load none (tP 13)) 10 false,
 oG 15 (.isnil .ifc true (tP 14)) 10 false,
 oN 16 (.pick (tP 10) (.con (.bool true)) (tP 15))])
  (.cond (tP 16) (.seq (.region [oN 4 (.mov (.con (.int .i64 0)))])
  (.ret)) (.skip)))
  (.seq (.region [mV 18 0,
 oN 19 (.call 77 [(tP 18)]),
 mV 17 19,
 oN 20 (.extract 17 0),
 oN 21 (.extract 17 1),
 oN 22 (.extract 17 2),
 mV 5 20,
 mV 6 21,
 mV 7 22])
  (.seq (.block 0 (.seq (.region [mV 24 7,
 oN 25 (.bin .neq (tP 24) (.con (.int .i64 0))),
 mV 23 25])
  (.cond (tP 23) (.seq (.region [mV 26 0,
 mV 27 7,
 oN 28 (.call 78 [(tP 26), (tP 27)]),
 mV 4 28])
  (.ret)) (.seq (.region [mV 30 5,
 oN 31 (.bin .lss (tP 30) (.con (.int .i64 0))),
 mV 32 31,
 oG 33 (.mov (tP 5)) 32 false,
 oG 34 (.mov (tP 1)) 32 false,
 oG 35 (.bin .gtr (tP 33) (tP 34)) 32 false,
 oN 36 (.pick (tP 32) (.con (.bool true)) (tP 35)),
 mV 29 36])
  (.cond (tP 29) (.seq (.region [mV 37 0,
 oN 38 (.call 78 [(tP 37), (.con (.int .i64 13))]),
 mV 4 38])
  (.ret)) (.skip))))))
  (.seq (.region [mV 39 0,
 mV 40 0,
 oN 41 (.nilck (tP 40)),
 oN 42 (.faddr 0 (tP 41)),
 lD 43 42,
 mV 44 6,
 oN 45 (.slice (some 1) (tP 43) (some (tP 44)) none none),
 oN 46 (.nilck (tP 39)),
 oN 47 (.faddr 0 (tP 46)),
 ⟨none, .store 1 (tP 47) (tP 45), none⟩])
  (.seq (.region [mV 48 5,
 mV 4 48])
  (.ret)))))),
  [.tmp 4]⟩
theorem is_tape_Tape_Number : IsFn Tryz.prog 54 c_tape_Tape_Number := isFn_of [([], []), ([], []), ([], []), ([], []), ([], []), ([], []), ([], []), ([], []), ([], []), ([], []), ([], []), ([], []), ([], []), ([], [])] (by kernel_rfl)
def c_call_part_get : CFn := ⟨101, .seq (.region [mV 6 0])
  (.block 0 (.seq (.region [oN 8 (.bin .eql (tP 6) (.con (.int .i64 0))),
 mV 7 8])
  (.cond (tP 7) (.region [mV 10 2,
 mV 11 1,
 oN 12 (.call 79 [(tP 11)]),
 oN 9 (.take (tP 12)),
 oN 13 (.extract 9 0),
 oN 14 (.extract 9 1),
 oN 15 (.nilck (tP 10)),
 oN 16 (.faddr 1 (tP 15)),
 ⟨none, .store 1 (tP 16) (tP 13), none⟩]) (.seq (.region [oN 18 (.bin .eql (tP 6) (.con (.int .i64 1))),
 mV 17 18])
  (.cond (tP 17) (.region [mV 20 2,
 mV 21 1,
 oN 22 (.call 80 [(tP 21)]),
 oN 19 (.take (tP 22)),
 oN 23 (.extract 19 0),
 oN 24 (.extract 19 1),
 oN 25 (.nilck (tP 20)),
 oN 26 (.faddr 2 (tP 25)),
 ⟨none, .store 1 (tP 26) (tP 23), none⟩]) (.seq (.region [oN 28 (.bin .eql (tP 6) (.con (.int .i64 2))),
 mV 27 28])
  (.cond (tP 27) (.region [mV 29 2,
 mV 30 1,
 oN 31 (.call 54 [(tP 30), (.con (.int .i64 1048576))]),
 oN 32 (.nilck (tP 29)),
 oN 33 (.faddr 5 (tP 32)),
 ⟨none, .store 1 (tP 33) (tP 31), none⟩]) (.seq (.region [oN 35 (.bin .eql (tP 6) (.con (.int .i64 3))),
 mV 34 35])
  (.cond (tP 34) (.region [mV 36 2,
 mV 37 1,
 oN 38 (.call 54 [(tP 37), (.con (.int .i64 1048576))]),
 oN 39 (.nilck (tP 36)),
 oN 40 (.faddr 6 (tP 39)),
 ⟨none, .store 1 (tP 40) (tP 38), none⟩]) (.seq (.region [oN 42 (.bin .eql (tP 6) (.con (.int .i64 4))),
 mV 41 42])
  (.cond (tP 41) (.region [mV 44 2,
 mV 45 1,
 oN 46 (.call 80 [(tP 45)]),
 oN 43 (.take (tP 46)),
 oN 47 (.extract 43 0),
 oN 48 (.extract 43 1),
 oN 49 (.nilck (tP 44)),
 oN 50 (.faddr 3 (tP 49)),
 ⟨none, .store 1 (tP 50) (tP 47), none⟩]) (.seq (.region [oN 52 (.bin .eql (tP 6) (.con (.int .i64 5))),
 mV 51 52])
  (.cond (tP 51) (.region [mV 54 2,
 mV 55 1,
 oN 56 (.call 81 [(tP 55)]),
 oN 53 (.take (tP 56)),
 oN 57 (.extract 53 0),
 oN 58 (.extract 53 1),
 oN 59 (.nilck (tP 54)),
 oN 60 (.faddr 4 (tP 59)),
 ⟨none, .store 1 (tP 60) (tP 57), none⟩]) (.seq (.region [oN 62 (.bin .eql (tP 6) (.con (.int .i64 6))),
 mV 61 62])
  (.cond (tP 61) (.region [mV 63 2,
 mV 64 1,
 oN 65 (.call 82 [(tP 64), (.con (.int .i64 256))]),
 oN 66 (.cStrBytes (tP 65)),
 oN 67 (.nilck (tP 63)),
 oN 68 (.faddr 7 (tP 67)),
 ⟨none, .store 1 (tP 68) (tP 66), none⟩]) (.seq (.region [oN 70 (.bin .eql (tP 6) (.con (.int .i64 7))),
 mV 69 70])
  (.cond (tP 69) (.region [mV 71 2,
 mV 72 1,
 oN 73 (.call 82 [(tP 72), (.con (.int .i64 80))]),
 oN 74 (.nilck (tP 71)),
 oN 75 (.faddr 8 (tP 74)),
 ⟨none, .store 1 (tP 75) (tP 73), none⟩]) (.seq (.region [oN 77 (.bin .eql (tP 6) (.con (.int .i64 8))),
 mV 76 77])
  (.cond (tP 76) (.region [mV 79 2,
 mV 80 1,
 oN 81 (.call 79 [(tP 80)]),
 oN 78 (.take (tP 81)),
 oN 82 (.extract 78 0),
 oN 83 (.extract 78 1),
 oN 84 (.nilck (tP 79)),
 oN 85 (.faddr 9 (tP 84)),
 ⟨none, .store 1 (tP 85) (tP 82), none⟩]) (.seq (.region [oN 87 (.bin .eql (tP 6) (.con (.int .i64 9))),
 mV 86 87])
  (.cond (tP 86) (.region [mV 88 2,
 mV 89 1,
 oN 90 (.call 83 [(tP 89)]),
 oN 91 (.nilck (tP 88)),
 oN 92 (.faddr 10 (tP 91)),
 ⟨none, .store 1 (tP 92) (tP 90), none⟩]) (.seq (.region [oN 94 (.bin .eql (tP 6) (.con (.int .i64 10))),
 mV 93 94])
  (.cond (tP 93) (.region [mV 95 2,
 mV 96 1,
 oN 97 (.call 54 [(tP 96), (.con (.int .i64 2097152))]),
 oN 98 (.bin .sub (tP 97) (.con (.int .i64 1048576))),
 oN 99 (.nilck (tP 95)),
 oN 100 (.faddr 5 (tP 99)),
 ⟨none, .store 1 (tP 100) (tP 98), none⟩]) (.skip)))))))))))))))))))))))),
  []⟩
theorem is_call_part_get : IsFn Tryz.prog 55 c_call_part_get := isFn_of [([], []), ([], []), ([], [3]), ([], []), ([], [3]), ([], []), ([], []), ([], []), ([], []), ([], []), ([], [3]), ([], []), ([], [3]), ([], []), ([], []), ([], []), ([], []), ([], []), ([], [3]), ([], []), ([], []), ([], []), ([], [])] (by kernel_rfl)
def c_tape_Tape_Err : CFn := ⟨10, .seq (.region [oN 2 (.mov (.con (.nili)))])
  (.seq (.seq (.region [mV 3 0,
 oN 4 (.isnil .ptr false (tP 3))])
  (.cond (tP 4) (.seq (.region [oN 5 (.call 84 [(.con (.str ⟨#[116, 97, 112, 101]⟩)), (.con (.int .i64 1))]),
 mV 2 5])
  (.ret)) (.skip)))
  (.seq (.region [mV 6 0,
 oN 7 (.nilck (tP 6)),
 oN 8 (.faddr 1 (tP 7)),
 lD 9 8,
 mV 2 9])
  (.ret))),
  [.tmp 2]⟩
theorem is_tape_Tape_Err : IsFn Tryz.prog 56 c_tape_Tape_Err := isFn_of [([], []), ([], []), ([], []), ([], []), ([], []), ([], [])] (by kernel_rfl)
def c_tape_Tape_End : CFn := ⟨16, .seq (.region [oN 2 (.mov (.con (.nili)))])
  (.seq (.seq (.region [mV 4 0,
 oN 5 (.call 56 [(tP 4)]),
 mV 3 5])
  (.seq (.region [mV 6 3,
 oN 7 (.isnil .ifc true (tP 6))])
  (.cond (tP 7) (.seq (.region [mV 8 3,
 mV 2 8])
  (.ret)) (.skip))))
  (.seq (.seq (.region [mV 9 0,
 oN 10 (.nilck (tP 9)),
 oN 11 (.faddr 0 (tP 10)),
 lD 12 11,
 oN 13 (.lenl (tP 12)),
 oN 14 (.bin .gtr (tP 13) (.con (.int .i64 0)))])
  (.cond (tP 14) (.seq (.region [oN 15 (.call 84 [(.con (.str ⟨#[116, 97, 112, 101]⟩)), (.con (.int .i64 10))]),
 mV 2 15])
  (.ret)) (.skip)))
  (.seq (.region [oN 2 (.mov (.con (.nili)))])
  (.ret)))),
  [.tmp 2]⟩
theorem is_tape_Tape_End : IsFn Tryz.prog 57 c_tape_Tape_End := isFn_of [([], []), ([], []), ([], []), ([], []), ([], []), ([], []), ([], []), ([], []), ([], []), ([], [])] (by kernel_rfl)
def c_fault_Wrap : CFn := ⟨16, .seq (.region [oN 6 (.mov (.con (.nili)))])
  (.seq (.seq (.region [mV 7 1,
 oN 8 (.bin .eql (tP 7) (.con (.int .i64 0)))])
  (.cond (tP 8) (.seq (.region [mV 9 2,
 mV 6 9])
  (.ret)) (.skip)))
  (.seq (.region [mV 10 0,
 mV 11 1,
 mV 12 2,
 oN 13 (.build [.str ⟨#[]⟩, .int .i64 0, .nili] [(0, 1, (tP 10)), (1, 1, (tP 11)), (2, 1, (tP 12))]),
 oN 14 (.rbox (tP 13)),
 oN 15 (.mkif 92 (tP 14)),
 mV 6 15])
  (.ret))),
  [.tmp 6]⟩
theorem is_fault_Wrap : IsFn Tryz.prog 58 c_fault_Wrap := isFn_of [([], []), ([], []), ([], []), ([], []), ([], [4]), ([], [])] (by kernel_rfl)
theorem ok_errors_Is : OkDef Tryz.prog 60 (.prim (errIsP 92 40)) := errIs_ok (⟨Tryz.f60, Tryz.func60, by kernel_rfl, by kernel_rfl⟩ : Callable Tryz.prog 60) (fun l e v w h => errIs_fch l e v w h)
def c_regencyref06_isCat : CFn := ⟨11, .seq (.region [oN 2 (.mov (.con (.bool false)))])
  (.seq (.region [mV 6 0,
 oN 7 (.pcall 28 [(tP 6)]),
 oN 5 (.take (tP 7)),
 oN 8 (.extract 5 0),
 oN 9 (.extract 5 1),
 oN 3 (.alloc [.sl .ex [], .int .i64 0]),
 ⟨none, .store 2 (tP 3) (tP 8), none⟩,
 mV 4 9])
  (.seq (.region [mV 10 4,
 mV 2 10])
  (.ret))),
  [.tmp 2]⟩
theorem is_regencyref06_isCat : IsFn Tryz.prog 61 c_regencyref06_isCat := isFn_of [([], []), ([], [1, 2]), ([], []), ([], [])] (by kernel_rfl)
def c_regencyref05_Compare : CFn := ⟨38, .seq (.region [oN 4 (.mov (.con (.int .i64 0)))])
  (.seq (.region [mV 11 0,
 oN 12 (.pcall 28 [(tP 11)]),
 oN 10 (.take (tP 12)),
 oN 13 (.extract 10 0),
 oN 14 (.extract 10 1),
 oN 5 (.alloc [.sl .ex [], .int .i64 0]),
 ⟨none, .store 2 (tP 5) (tP 13), none⟩,
 mV 6 14])
  (.seq (.region [mV 16 1,
 oN 17 (.pcall 28 [(tP 16)]),
 oN 15 (.take (tP 17)),
 oN 18 (.extract 15 0),
 oN 19 (.extract 15 1),
 oN 7 (.alloc [.sl .ex [], .int .i64 0]),
 ⟨none, .store 2 (tP 7) (tP 18), none⟩,
 mV 8 19])
  (.seq (.region [mV 20 0,
 mV 21 1,
 oN 22 (.bin .lss (tP 20) (tP 21)),
 mV 9 22])
  (.seq (.seq (.region [mV 23 6,
 mV 24 23,
 oG 25 (.mov (tP 8)) 24 true,
 oN 26 (.pick (tP 24) (tP 25) (.con (.bool false)))])
  (.cond (tP 26) (.region [oN 27 (.load (some 2) (tP 5)),
 oN 28 (.load (some 2) (tP 7)),
 oN 29 (.pcall 91 [(tP 27), (tP 28)]),
 mV 9 29]) (.seq (.region [mV 30 6,
 mV 31 8,
 oN 32 (.eqb true (tP 30) (tP 31))])
  (.cond (tP 32) (.region [mV 33 6,
 mV 9 33]) (.skip)))))
  (.seq (.seq (.region [mV 34 9])
  (.cond (tP 34) (.seq (.region [oN 4 (.mov (.con (.int .i64 (-1))))])
  (.ret)) (.skip)))
  (.seq (.seq (.region [mV 35 0,
 mV 36 1,
 oN 37 (.bin .eql (tP 35) (tP 36))])
  (.cond (tP 37) (.seq (.region [oN 4 (.mov (.con (.int .i64 0)))])
  (.ret)) (.skip)))
  (.seq (.region [oN 4 (.mov (.con (.int .i64 1)))])
  (.ret)))))))),
  [.tmp 4]⟩
theorem is_regencyref05_Compare : IsFn Tryz.prog 62 c_regencyref05_Compare := isFn_of [([], []), ([], [1, 2]), ([], [1, 2]), ([], []), ([], []), ([], [2]), ([], []), ([], []), ([], []), ([], []), ([], []), ([], []), ([], []), ([], []), ([], []), ([], [])] (by kernel_rfl)
abbrev s_regencyref05_Fits_0 (v20 v21 v22 : AV) : List AV := [.any, .any, .any, undefA, .any, .any, .any, .any, .any, .any, .any, .any, .any, .any, .any, .any, .any, .any, .any, .any, v20, v21, v22, .any, .any, .any, .any, .any, .any, .any, .any, .any, .any]
abbrev x_regencyref05_Fits_0  : List AV := [.any, .any, .any, undefA, .any, .any, .any, .any, .any, .any, .any, .any, .any, .any, .any, .any, .any, .any, .any, .any, .any, .any, .any, .any, .any, .any, .any, .any, .any, .any, .any, .any, .any]
abbrev l_regencyref05_Fits_0 : CC := .kill kl1_24 (.seq (.region [oN 23 (.bin .lss (tP 22) (tP 21))])
  (.seq (.cond (tP 23) (.skip) (.kill [20, 21, 22, 23] (.exit 0)))
  (.seq (.block 1 (.seq (.region [oN 24 (.iaddr 1 none (tP 20) (tP 22)),
 lD 25 24,
 mV 4 25])
  (.seq (.region [mV 26 4,
 oN 27 (.bin .lss (tP 26) (.con (.int .i64 0))),
 mV 28 27,
 oG 29 (.mov (tP 4)) 28 false,
 oG 30 (.bin .gtr (tP 29) (.con (.int .i64 1048576))) 28 false,
 oN 31 (.pick (tP 28) (.con (.bool true)) (tP 30))])
  (.cond (tP 31) (.seq (.region [oN 2 (.mov (.con (.bool false)))])
  (.ret)) (.skip)))))
  (.region [oN 32 (.bin .add (tP 22) (.con (.int .i64 1))),
 mV 22 32]))))
def c_regencyref05_Fits : CFn := ⟨33, .seq (.region [oN 1 (.box (tP 0)),
 oN 2 (.mov (.con (.bool false)))])
  (.seq (.seq (.region [oN 5 (.faddr 1 (tP 1)),
 lD 6 5,
 oN 7 (.bin .lss (tP 6) (.con (.int .i64 0))),
 mV 8 7,
 oG 9 (.faddr 1 (tP 1)) 8 false,
 oG 10 (.load none (tP 9)) 8 false,
 oG 11 (.bin .gtr (tP 10) (.con (.int .i64 65535))) 8 false,
 oN 12 (.pick (tP 8) (.con (.bool true)) (tP 11)),
 mV 13 12,
 oG 14 (.faddr 0 (tP 1)) 13 false,
 oG 15 (.load none (tP 14)) 13 false,
 oG 16 (.lenl (tP 15)) 13 false,
 oG 17 (.bin .gtr (tP 16) (.con (.int .i64 6))) 13 false,
 oN 18 (.pick (tP 13) (.con (.bool true)) (tP 17))])
  (.cond (tP 18) (.seq (.region [oN 2 (.mov (.con (.bool false)))])
  (.ret)) (.skip)))
  (.seq (.seq (.region [oN 19 (.faddr 0 (tP 1)),
 lD 20 19,
 oN 21 (.lenl (tP 20)),
 oN 22 (.mov (.con (.int .i64 0)))])
  (.block 0 (.kill kl1_24 (.loop l_regencyref05_Fits_0))))
  (.seq (.region [oN 2 (.mov (.con (.bool true)))])
  (.ret)))),
  [.tmp 2]⟩
theorem is_regencyref05_Fits : IsFn Tryz.prog 63 c_regencyref05_Fits := isFn_of [([], []), ([], []), ([], []), ([], []), ([], []), (kl1_24, []), ([], []), ([20, 21, 22, 23], []), ([], []), ([], []), ([], []), ([], []), ([], []), ([], []), ([], [])] (by kernel_rfl)
end Go.Proofs.YtlcflpanellbfaaGreatDoor.F
