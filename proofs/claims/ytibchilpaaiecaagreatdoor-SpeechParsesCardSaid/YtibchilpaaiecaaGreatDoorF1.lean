/- Functions of the program, compiled, by a program (gen.py). -/
import Derived.Test.YtibchilpaaiecaaGreatDoorProg
import Derived.KernelRfl
import Derived.Test.YtibchilpaaiecaaGreatDoorM19
import Derived.Test.YtibchilpaaiecaaGreatDoorM20
import Derived.Test.YtibchilpaaiecaaGreatDoorSh
import Derived.Test.YtibchilpaaiecaaGreatDoorSp
set_option maxRecDepth 100000
namespace Go.Proofs.YtibchilpaaiecaaGreatDoor.F
open Go.Proofs.YtibchilpaaiecaaGreatDoor.M Go.Proofs Go.RowKit
abbrev l0 : List Nat := [4, 5, 6, 7, 8, 9, 10, 11, 14, 15, 16, 17, 18, 19, 20, 21, 22, 23, 24, 25]
abbrev Hc : List Nat := [0, 2, 5, 6, 7, 8, 9, 10, 11, 12, 13, 14, 15, 16, 17, 21, 22, 23, 24, 25, 26, 27, 28, 29, 30]
abbrev Hd : List Nat := [3, 5, 7, 8, 9, 10, 11, 12, 13, 14, 15, 16, 17, 20, 21, 22, 23, 24, 25, 29, 30, 31, 32, 33, 34, 35, 36, 37, 38, 39, 40, 41, 42, 43, 44, 45]
abbrev He : List Nat := [3, 9, 10, 26, 27, 28, 30, 31, 32, 33, 34, 35, 36, 37, 38, 40, 41, 42, 43, 44, 45, 46, 47, 48, 49, 50, 51, 52, 53, 54, 55, 56, 57, 58, 59, 60, 61, 62, 63, 64, 65, 66, 67, 68, 69, 70, 71, 72, 73, 74, 75, 76, 77, 78, 79, 80, 81, 82, 83, 84, 85, 86, 87, 88, 89, 90, 91, 92, 93, 94, 95, 96, 97, 98, 99, 100, 101, 102, 103, 104, 105, 106, 107, 108, 109, 110, 111, 112, 113, 114, 115, 116, 117, 118, 119, 120, 121, 122, 123, 124, 125, 126, 127, 128, 129, 130, 131, 132, 133, 134, 135, 136, 137, 138, 139, 140, 141]
abbrev Hf : List Nat := [0, 3, 11, 12, 13, 14, 15, 16, 17, 18, 19, 20, 21, 22, 23, 24, 25]
abbrev Hg : List Nat := [0, 2, 3, 6, 7, 8, 9, 10, 11, 12, 16, 17, 18, 19, 20, 21, 22, 23, 24, 25, 26, 27, 28, 29, 30, 31, 32, 33, 34, 35, 36, 37, 38, 39, 40, 41]
abbrev Hh : List Nat := [6, 163, 164, 165, 166, 167, 168, 169, 170, 171, 172]
abbrev Hi : List Nat := [135, 136, 137, 138, 139, 140, 141, 142, 143, 144, 145, 146, 147, 148, 149, 150, 151, 152, 153, 154]
abbrev Hj : List Nat := [115, 116, 117, 118, 119, 120, 121, 122, 123, 124, 125, 126, 127, 128, 129, 130, 131, 132, 133, 134]
abbrev Hk : List Nat := [98, 99, 100, 101, 102, 103, 104, 105, 106, 107, 108, 109, 110, 111, 112, 113, 114]
abbrev AD : List Nat := [82, 83, 84, 85, 86, 87, 88, 89, 90, 91, 92, 93, 94, 95, 96, 97]
abbrev AE : List Nat := [66, 67, 68, 69, 70, 71, 72, 73, 74, 75, 76, 77, 78, 79, 80, 81]
abbrev AF : List Nat := [50, 51, 52, 53, 54, 55, 56, 57, 58, 59, 60, 61, 62, 63, 64, 65]
abbrev AG : List Nat := [34, 35, 36, 37, 38, 39, 40, 41, 42, 43, 44, 45, 46, 47, 48, 49]
abbrev AJ : List Nat := [18, 19, 20, 21, 22, 23, 24, 25, 26, 27, 28, 29, 30, 31, 32, 33]
abbrev AK : List Nat := [10, 11, 12, 13, 14, 15, 16, 17]
abbrev AL : List Nat := [0, 2, 4, 5, 9, 10, 11, 12, 13, 14, 15, 16, 17, 18, 19, 20, 21, 22, 23, 24, 25, 26]
abbrev AM : List Nat := [0, 5, 6, 7, 8, 9, 10, 14, 15, 16, 17, 18, 19, 20, 21, 22, 23, 24, 25, 26, 27, 28, 29, 30, 31, 32, 33, 34, 35, 36, 37, 38, 39, 40, 41, 42, 43, 44, 45, 46, 47, 48, 49, 50, 51, 52, 53, 54, 55, 56, 57, 58, 59, 60, 61, 62, 63, 64, 65, 66, 67, 68, 69, 70, 71, 72, 73, 74, 75]
abbrev AN : List Nat := [4, 5, 6, 9, 10, 11, 12, 13, 14, 15, 16, 17, 18]
abbrev AO : List Nat := [4, 8, 9, 10, 11, 12, 13, 14, 15, 16, 17, 18, 19, 20, 21, 22, 23, 24, 25, 26, 27, 28, 29]
abbrev AP : List Nat := [2, 3, 8, 9, 10, 11, 12, 13, 14, 15, 16, 17, 18, 19, 20, 21, 22, 23, 24, 25, 26, 27, 28, 29, 30, 31, 32, 33, 34, 35, 36, 37, 38, 39, 40, 41, 42, 43, 44, 45, 46]
abbrev AQ : List Nat := [12, 13, 14, 15, 18, 19, 20, 21, 22, 23, 24, 25, 26, 27, 28]
abbrev AR : List Nat := [2, 3, 8, 9, 10, 11, 12, 13, 14, 15, 16, 17, 18, 19, 20, 21, 22, 23, 24, 25, 26, 27, 28, 29, 30, 31, 32, 33, 34, 35, 36, 37, 38, 39, 40, 41, 42]
abbrev AU : List Nat := [3, 8, 9, 10, 11, 12, 13, 14, 15, 16, 17, 18, 19, 20, 21, 22, 23, 24, 25, 26, 27, 28, 29, 30, 31, 32, 33, 34, 35, 36, 37, 38, 39, 40, 41, 42, 43, 44, 45, 46, 47, 48, 49, 50, 51, 52, 53, 54, 55, 56]
abbrev AW : List Nat := [2, 3, 4, 5, 6, 7, 11, 12, 13, 14, 15, 16, 17, 18, 19, 20, 21, 22, 23, 24, 25, 26, 27, 28, 29, 30, 31, 32, 33, 34, 35, 36, 37, 38, 39, 40, 41, 42, 43, 44, 45, 46, 47, 48, 49]
abbrev AX : List Nat := [0, 2, 5, 6, 7, 8, 12, 13, 14, 15, 16, 17, 18, 19, 20, 21, 22, 23, 24, 25]
abbrev AY : List Nat := [2, 3, 4, 5, 6, 7, 10, 11, 12, 13, 14, 15, 16, 17, 18, 19, 20, 21, 22, 23, 24, 25, 26, 27, 28, 29, 30, 31, 32, 33, 34, 35, 36, 37, 38, 39, 40, 41, 42, 43, 44, 45, 46, 47, 48, 49, 50, 51, 52, 53, 54, 55, 56, 57, 58, 59, 60]
abbrev AZ : List Nat := [2, 3, 4, 5, 6, 10, 11, 12, 13, 14, 15, 16, 17, 18, 19, 20, 21, 22, 23, 24, 25, 26, 27, 28, 29, 30, 31, 32, 33, 34, 35]
abbrev A0 : List Nat := [2, 3, 5, 6, 7, 8, 9, 10, 11, 12, 13, 14, 15, 16, 17, 18, 19, 20, 21, 22, 23]
theorem Fa (w0 w : World) (hw : GW w0) (hb : Below w0.heap.size w0 w) : Lib.TabIs Tryz.prog w "internal/strconv.uint64pow10" .u64 Lib.pow10Tab := by
 obtain ⟨el, fr, hh⟩ := hw.1 _ (List.mem_cons_self ..)
 have h2 := (hb.block 6 (Array.getElem?_eq_some_iff.1 hh).1).trans hh
 unfold Lib.TabIs World.var?
 rw [show Tryz.prog.globalNamed "internal/strconv.uint64pow10" = some 6 from by kernel_rfl]
 simp only [Option.bind_some]
 rw [h2]
 rfl
theorem uc {P : Program} {w0 w : World} {g : Nat} {n : String} (h : ∃ tp q el fr, w0.heap[g]? = some (.cells #[.iface tp q] el fr)) (hb : Below w0.heap.size w0 w) (hn : P.globalNamed n = some g) : ∃ tp q, w.var? P n = some #[.iface tp q] := by
 obtain ⟨tp, q, el, fr, hh⟩ := h
 have h2 := (hb.block g (Array.getElem?_eq_some_iff.1 hh).1).trans hh
 exact ⟨tp, q, by unfold World.var?; rw [hn]; simp only [Option.bind_some]; rw [h2]⟩
def ax : CFn := ⟨92, .seq (.region [oN 2 (.mov (.con (.bool false)))])
  (.seq (.seq (.region [oN 15 (.pcall 6 []),
 oN 16 (.un .not (tP 15))])
  (.cond (tP 16) (.seq (.region [oN 2 (.mov (.con (.bool false)))])
  (.ret)) (.skip)))
  (.seq (.seq (.region [mV 17 0,
 oN 18 (.lens (tP 17)),
 oN 19 (.bin .gtr (tP 18) (.con (.int .i64 900)))])
  (.cond (tP 19) (.seq (.region [oN 2 (.mov (.con (.bool true)))])
  (.ret)) (.skip)))
  (.seq (.region [mV 21 0,
 oN 22 (.call 13 [(tP 21)]),
 oN 20 (.take (tP 22)),
 oN 23 (.extract 20 0),
 oN 24 (.extract 20 1),
 oN 3 (.alloc [.int .i64 0, .sl .ex [], .sl .ex [], .sl .ex [], .sl .ex [], .int .i64 0, .int .i64 0, .sl .ex [], .str ⟨#[]⟩, .sl .ex [], .bool false]),
 ⟨none, .store 11 (tP 3) (tP 23), none⟩,
 mV 4 24])
  (.seq (.region [mV 26 0,
 oN 27 (.pcall 15 [(tP 26)]),
 oN 25 (.take (tP 27)),
 oN 28 (.extract 25 0),
 oN 29 (.extract 25 1),
 oN 5 (.alloc [.int .i64 0, .sl .ex [], .sl .ex [], .sl .ex [], .sl .ex [], .int .i64 0, .int .i64 0, .sl .ex [], .str ⟨#[]⟩, .sl .ex [], .bool false]),
 ⟨none, .store 11 (tP 5) (tP 28), none⟩,
 mV 6 29])
  (.seq (.region [mV 31 0,
 oN 32 (.pcall 16 [(tP 31)]),
 oN 30 (.take (tP 32)),
 oN 33 (.extract 30 0),
 oN 34 (.extract 30 1),
 oN 7 (.take (tP 33)),
 mV 8 34])
  (.seq (.region [mV 36 0,
 oN 37 (.pcall 17 [(tP 36)]),
 oN 35 (.take (tP 37)),
 oN 38 (.extract 35 0),
 oN 39 (.extract 35 1),
 oN 9 (.take (tP 38)),
 mV 10 39])
  (.seq (.region [mV 41 0,
 oN 42 (.pcall 18 [(tP 41)]),
 oN 40 (.take (tP 42)),
 oN 43 (.extract 40 0),
 oN 44 (.extract 40 1),
 oN 11 (.take (tP 43)),
 mV 12 44])
  (.seq (.region [mV 46 0,
 oN 47 (.pcall 19 [(tP 46)]),
 oN 45 (.take (tP 47)),
 oN 48 (.extract 45 0),
 oN 49 (.extract 45 1),
 oN 13 (.take (tP 48)),
 mV 14 49])
  (.seq (.seq (.region [oN 50 (.load (some 11) (tP 3)),
 oN 51 (.load (some 11) (tP 5)),
 oN 52 (.pcall 20 [(tP 50), (tP 51)]),
 oN 53 (.un .not (tP 52)),
 mV 54 53,
 oG 55 (.mov (tP 4)) 54 false,
 oG 56 (.call 21 [(tP 55)]) 54 false,
 oG 57 (.mov (tP 6)) 54 false,
 oG 58 (.bin .neq (tP 56) (tP 57)) 54 false,
 oN 59 (.pick (tP 54) (.con (.bool true)) (tP 58)),
 mV 60 59,
 oG 61 (.mov (tP 6)) 60 false,
 oG 62 (.bin .neq (tP 61) (.con (.int .i64 0))) 60 false,
 oG 63 (.mov (tP 62)) 60 false,
 oG 64 (.mov (tP 4)) 63 true,
 oG 65 (.call 22 [(tP 64)]) 63 true,
 oG 66 (.bin .neq (tP 65) (.con (.str ⟨#[115, 112, 101, 101, 99, 104]⟩))) 63 true,
 oG 67 (.mov (tP 66)) 63 true,
 oG 68 (.mov (tP 4)) 67 false,
 oG 69 (.call 23 [(tP 68)]) 67 false,
 oG 70 (.bin .neq (tP 69) (.con (.int .i64 1))) 67 false,
 oG 71 (.pick (tP 67) (.con (.bool true)) (tP 70)) 63 true,
 oG 72 (.pick (tP 63) (tP 71) (.con (.bool false))) 60 false,
 oN 73 (.pick (tP 60) (.con (.bool true)) (tP 72))])
  (.cond (tP 73) (.seq (.region [oN 2 (.mov (.con (.bool false)))])
  (.ret)) (.skip)))
  (.seq (.region [mV 74 8,
 mV 75 10,
 oN 76 (.eqb false (tP 74) (tP 75)),
 mV 77 76,
 oG 78 (.take (tP 7)) 77 true,
 oG 79 (.take (tP 9)) 77 true,
 oG 80 (.pcall 24 [(tP 78), (tP 79)]) 77 true,
 oN 81 (.pick (tP 77) (tP 80) (.con (.bool false))),
 mV 82 81,
 oG 83 (.mov (tP 12)) 82 true,
 oG 84 (.mov (tP 14)) 82 true,
 oG 85 (.eqb false (tP 83) (tP 84)) 82 true,
 oN 86 (.pick (tP 82) (tP 85) (.con (.bool false))),
 mV 87 86,
 oG 88 (.take (tP 11)) 87 true,
 oG 89 (.take (tP 13)) 87 true,
 oG 90 (.pcall 25 [(tP 88), (tP 89)]) 87 true,
 oN 91 (.pick (tP 87) (tP 90) (.con (.bool false))),
 mV 2 91])
  (.ret))))))))))),
  [.tmp 2]⟩
theorem gU : IsFn Tryz.prog 5 ax := ah [([], []), ([], [0]), ([], []), ([], []), ([], []), ([], []), ([], []), ([], [2]), ([], [1, 2]), ([], [1, 2, 5]), ([], [1, 2, 5]), ([], [1, 2, 5]), ([], [1, 2, 5]), ([], [2]), ([], []), ([], []), ([], [4, 5, 6, 14, 15, 16]), ([], [])] (by kernel_rfl)
def eQ : CFn := ⟨84, .seq (.region [oN 0 (.mov (.con (.bool false)))])
  (.seq (.region [oN 12 (.call 13 [(.con (.str ⟨#[119, 114, 105, 116, 101, 32, 49, 46, 50, 32, 48, 32, 54, 56, 54, 57]⟩))]),
 oN 11 (.take (tP 12)),
 oN 13 (.extract 11 0),
 oN 14 (.extract 11 1),
 oN 1 (.alloc [.int .i64 0, .sl .ex [], .sl .ex [], .sl .ex [], .sl .ex [], .int .i64 0, .int .i64 0, .sl .ex [], .str ⟨#[]⟩, .sl .ex [], .bool false]),
 ⟨none, .store 11 (tP 1) (tP 13), none⟩,
 mV 2 14])
  (.seq (.region [oN 16 (.call 13 [(.con (.str ⟨#[115, 112, 101, 97, 107]⟩))]),
 oN 15 (.take (tP 16)),
 oN 17 (.extract 15 0),
 oN 18 (.extract 15 1),
 oN 3 (.alloc [.int .i64 0, .sl .ex [], .sl .ex [], .sl .ex [], .sl .ex [], .int .i64 0, .int .i64 0, .sl .ex [], .str ⟨#[]⟩, .sl .ex [], .bool false]),
 ⟨none, .store 11 (tP 3) (tP 17), none⟩,
 mV 4 18])
  (.seq (.region [oN 20 (.call 13 [(.con (.str ⟨#[119, 114, 105, 116, 101, 32, 49, 46, 50]⟩))]),
 oN 19 (.take (tP 20)),
 oN 21 (.extract 19 0),
 oN 22 (.extract 19 1),
 oN 5 (.alloc [.int .i64 0, .sl .ex [], .sl .ex [], .sl .ex [], .sl .ex [], .int .i64 0, .int .i64 0, .sl .ex [], .str ⟨#[]⟩, .sl .ex [], .bool false]),
 ⟨none, .store 11 (tP 5) (tP 21), none⟩,
 mV 6 22])
  (.seq (.region [oN 24 (.pcall 16 [(.con (.str ⟨#[49, 47, 48, 61, 51]⟩))]),
 oN 23 (.take (tP 24)),
 oN 25 (.extract 23 0),
 oN 26 (.extract 23 1),
 oN 7 (.take (tP 25)),
 mV 8 26])
  (.seq (.region [oN 28 (.pcall 18 [(.con (.str ⟨#[49, 47, 48, 44, 50, 47, 48]⟩))]),
 oN 27 (.take (tP 28)),
 oN 29 (.extract 27 0),
 oN 30 (.extract 27 1),
 oN 9 (.take (tP 29)),
 mV 10 30])
  (.seq (.region [mV 31 2,
 oN 32 (.isnil .ifc false (tP 31)),
 mV 33 32,
 oG 34 (.faddr 0 (tP 1)) 33 true,
 oG 35 (.load none (tP 34)) 33 true,
 oG 36 (.bin .eql (tP 35) (.con (.int .i64 8))) 33 true,
 oN 37 (.pick (tP 33) (tP 36) (.con (.bool false))),
 mV 38 37,
 oG 39 (.faddr 7 (tP 1)) 38 true,
 oG 40 (.load none (tP 39)) 38 true,
 oG 41 (.cBytesStr (tP 40)) 38 true,
 oG 42 (.bin .eql (tP 41) (.con (.str ⟨#[104, 105]⟩))) 38 true,
 oN 43 (.pick (tP 38) (tP 42) (.con (.bool false))),
 mV 44 43,
 oG 45 (.load (some 11) (tP 1)) 44 true,
 oG 46 (.pcall 10 [(tP 45)]) 44 true,
 oG 47 (.bin .eql (tP 46) (.con (.str ⟨#[119, 114, 105, 116, 101, 32, 49, 46, 50, 32, 48, 32, 54, 56, 54, 57]⟩))) 44 true,
 oN 48 (.pick (tP 44) (tP 47) (.con (.bool false))),
 mV 49 48,
 oG 50 (.mov (tP 4)) 49 true,
 oG 51 (.call 21 [(tP 50)]) 49 true,
 oG 52 (.bin .eql (tP 51) (.con (.int .i64 30))) 49 true,
 oN 53 (.pick (tP 49) (tP 52) (.con (.bool false))),
 mV 54 53,
 oG 55 (.mov (tP 6)) 54 true,
 oG 56 (.call 21 [(tP 55)]) 54 true,
 oG 57 (.bin .eql (tP 56) (.con (.int .i64 10))) 54 true,
 oN 58 (.pick (tP 54) (tP 57) (.con (.bool false))),
 mV 59 58,
 oG 60 (.mov (tP 4)) 59 true,
 oG 61 (.call 22 [(tP 60)]) 59 true,
 oG 62 (.bin .eql (tP 61) (.con (.str ⟨#[115, 112, 101, 101, 99, 104]⟩))) 59 true,
 oN 63 (.pick (tP 59) (tP 62) (.con (.bool false))),
 mV 64 63,
 oG 65 (.pcall 8 [(.con (.int .i64 20))]) 64 true,
 oG 66 (.bin .eql (tP 65) (.con (.str ⟨#[115, 116, 111, 114, 101]⟩))) 64 true,
 oN 67 (.pick (tP 64) (tP 66) (.con (.bool false))),
 mV 68 67,
 oG 69 (.mov (tP 8)) 68 true,
 oN 70 (.pick (tP 68) (tP 69) (.con (.bool false))),
 mV 71 70,
 oG 72 (.take (tP 7)) 71 true,
 oG 73 (.lenl (tP 72)) 71 true,
 oG 74 (.bin .eql (tP 73) (.con (.int .i64 1))) 71 true,
 oN 75 (.pick (tP 71) (tP 74) (.con (.bool false))),
 mV 76 75,
 oG 77 (.mov (tP 10)) 76 true,
 oN 78 (.pick (tP 76) (tP 77) (.con (.bool false))),
 mV 79 78,
 oG 80 (.take (tP 9)) 79 true,
 oG 81 (.lenl (tP 80)) 79 true,
 oG 82 (.bin .eql (tP 81) (.con (.int .i64 2))) 79 true,
 oN 83 (.pick (tP 79) (tP 82) (.con (.bool false))),
 mV 0 83])
  (.ret))))))),
  [.tmp 0]⟩
theorem ke : IsFn Tryz.prog 6 eQ := ah [([], []), ([], [1]), ([], [1]), ([], [1]), ([], [0, 1, 4]), ([], [0, 1, 4]), ([], [15, 34, 41, 49]), ([], [])] (by kernel_rfl)
def eR : CFn := ⟨41, .seq (.region [oN 1 (.box (tP 0)),
 oN 2 (.mov (.con (.bool false)))])
  (.seq (.region [oN 3 (.faddr 1 (tP 1)),
 lD 4 3,
 oN 5 (.lenl (tP 4)),
 oN 6 (.bin .gtr (tP 5) (.con (.int .i64 60))),
 mV 7 6,
 oG 8 (.faddr 9 (tP 1)) 7 false,
 oG 9 (.load none (tP 8)) 7 false,
 oG 10 (.lenl (tP 9)) 7 false,
 oG 11 (.bin .gtr (tP 10) (.con (.int .i64 60))) 7 false,
 oN 12 (.pick (tP 7) (.con (.bool true)) (tP 11)),
 mV 13 12,
 oG 14 (.faddr 2 (tP 1)) 13 false,
 oG 15 (.load none (tP 14)) 13 false,
 oG 16 (.lenl (tP 15)) 13 false,
 oG 17 (.faddr 3 (tP 1)) 13 false,
 oG 18 (.load none (tP 17)) 13 false,
 oG 19 (.lenl (tP 18)) 13 false,
 oG 20 (.bin .add (tP 16) (tP 19)) 13 false,
 oG 21 (.bin .gtr (tP 20) (.con (.int .i64 60))) 13 false,
 oN 22 (.pick (tP 13) (.con (.bool true)) (tP 21)),
 mV 23 22,
 oG 24 (.faddr 4 (tP 1)) 23 false,
 oG 25 (.load none (tP 24)) 23 false,
 oG 26 (.lenl (tP 25)) 23 false,
 oG 27 (.bin .gtr (tP 26) (.con (.int .i64 60))) 23 false,
 oN 28 (.pick (tP 23) (.con (.bool true)) (tP 27)),
 mV 29 28,
 oG 30 (.faddr 7 (tP 1)) 29 false,
 oG 31 (.load none (tP 30)) 29 false,
 oG 32 (.lenl (tP 31)) 29 false,
 oG 33 (.bin .gtr (tP 32) (.con (.int .i64 600))) 29 false,
 oN 34 (.pick (tP 29) (.con (.bool true)) (tP 33)),
 mV 35 34,
 oG 36 (.faddr 8 (tP 1)) 35 false,
 oG 37 (.load none (tP 36)) 35 false,
 oG 38 (.lens (tP 37)) 35 false,
 oG 39 (.bin .gtr (tP 38) (.con (.int .i64 100))) 35 false,
 oN 40 (.pick (tP 35) (.con (.bool true)) (tP 39)),
 mV 2 40])
  (.ret)),
  [.tmp 2]⟩
theorem kf : IsFn Tryz.prog 7 eR := ah [([], []), ([], []), ([], [])] (by kernel_rfl)
def eH : CFn := ⟨13, .seq (.region [oN 2 (.mov (.con (.str ⟨#[]⟩)))])
  (.seq (.seq (.region [mV 3 0,
 oN 4 (.bin .lss (tP 3) (.con (.int .i64 0))),
 mV 5 4,
 oG 6 (.mov (tP 0)) 5 false,
 oG 7 (.bin .gtr (tP 6) (.con (.int .i64 20))) 5 false,
 oN 8 (.pick (tP 5) (.con (.bool true)) (tP 7))])
  (.cond (tP 8) (.seq (.region [oN 2 (.mov (.con (.str ⟨#[]⟩)))])
  (.ret)) (.skip)))
  (.seq (.region [oN 9 (.pcall 26 []),
 mV 10 0,
 oN 11 (.iaddr 1 none (tP 9) (tP 10)),
 lD 12 11,
 mV 2 12])
  (.ret))),
  [.tmp 2]⟩
theorem qd : IsFn Tryz.prog 8 eH := ah [([], []), ([], []), ([], []), ([], []), ([], [0]), ([], [])] (by kernel_rfl)
def fb : CFn := ⟨13, .seq (.region [oN 2 (.mov (.con (.str ⟨#[]⟩)))])
  (.seq (.seq (.region [mV 3 0,
 oN 4 (.bin .lss (tP 3) (.con (.int .i64 0))),
 mV 5 4,
 oG 6 (.mov (tP 0)) 5 false,
 oG 7 (.bin .gtr (tP 6) (.con (.int .i64 20))) 5 false,
 oN 8 (.pick (tP 5) (.con (.bool true)) (tP 7))])
  (.cond (tP 8) (.seq (.region [oN 2 (.mov (.con (.str ⟨#[]⟩)))])
  (.ret)) (.skip)))
  (.seq (.region [oN 9 (.bslice 1 false [(.con (.str ⟨#[110, 111, 116, 104, 105, 110, 103]⟩)), (.con (.str ⟨#[99, 97, 116, 101, 103, 111, 114, 121]⟩)), (.con (.str ⟨#[115, 101, 103, 109, 101, 110, 116]⟩)), (.con (.str ⟨#[99, 111, 110, 116, 97, 105, 110, 101, 114]⟩)), (.con (.str ⟨#[116, 104, 114, 101, 97, 100]⟩)), (.con (.str ⟨#[103, 97, 116, 101]⟩)), (.con (.str ⟨#[115, 112, 97, 99, 101]⟩)), (.con (.str ⟨#[114, 101, 97, 100]⟩)), (.con (.str ⟨#[119, 114, 105, 116, 101]⟩)), (.con (.str ⟨#[114, 101, 115, 105, 122, 101]⟩)), (.con (.str ⟨#[108, 105, 115, 116]⟩)), (.con (.str ⟨#[115, 116, 97, 116]⟩)), (.con (.str ⟨#[102, 114, 101, 101]⟩)), (.con (.str ⟨#[109, 111, 118, 101]⟩)), (.con (.str ⟨#[108, 97, 98, 101, 108]⟩)), (.con (.str ⟨#[101, 110, 116, 101, 114]⟩)), (.con (.str ⟨#[100, 114, 111, 112]⟩)), (.con (.str ⟨#[109, 97, 112]⟩)), (.con (.str ⟨#[117, 110, 109, 97, 112]⟩)), (.con (.str ⟨#[108, 111, 97, 100]⟩)), (.con (.str ⟨#[115, 116, 111, 114, 101]⟩))]),
 mV 10 0,
 oN 11 (.iaddr 1 none (tP 9) (tP 10)),
 lD 12 11,
 mV 2 12])
  (.ret))),
  [.tmp 2]⟩
theorem lk : IsFn Tryz.prog 9 fb := ah [([], []), ([], []), ([], []), ([], []), ([], []), ([], [])] (by kernel_rfl)
abbrev kg (v1 v3 v18 v19 v20 : AV) : List AV := [.any, v1, .any, v3, aa, .any, .any, .any, .any, .any, .any, .any, .any, .any, .any, .any, .any, .any, v18, v19, v20, .any, .any, .any, .any, .any, .any, .any, .any, .any, .any, aa, aa]
abbrev kh (v3 : AV) : List AV := [.any, .any, .any, v3, aa, .any, .any, .any, .any, .any, .any, .any, .any, .any, .any, .any, .any, .any, .any, .any, .any, .any, .any, .any, .any, .any, .any, .any, .any, .any, .any, aa, aa]
abbrev il : CC := .kill Hc (.seq (.region [oN 21 (.bin .lss (tP 20) (tP 19))])
  (.seq (.cond (tP 21) (.skip) (.kill [1, 18, 19, 20, 21] (.exit 0)))
  (.seq (.block 1 (.seq (.region [oN 22 (.iaddr 1 none (tP 18) (tP 20)),
 lD 23 22,
 mV 5 23])
  (.region [oN 24 (.take (tP 3)),
 oN 25 (.load (some 11) (tP 1)),
 mV 26 5,
 oN 27 (.pcall 28 [(tP 25), (tP 26)]),
 oN 28 (.bslice 1 false [(tP 27)]),
 oN 29 (.append 1 16 false (tP 24) (tP 28)),
 oN 3 (.take (tP 29))])))
  (.region [oN 30 (.bin .add (tP 20) (.con (.int .i64 1))),
 mV 20 30]))))
def dN : CFn := ⟨33, .seq (.region [oN 1 (.box (tP 0)),
 oN 2 (.mov (.con (.str ⟨#[]⟩)))])
  (.seq (.seq (.region [oN 6 (.load (some 11) (tP 1)),
 oN 7 (.pcall 12 [(tP 6)]),
 oN 8 (.un .not (tP 7))])
  (.cond (tP 8) (.seq (.region [oN 2 (.mov (.con (.str ⟨#[]⟩)))])
  (.ret)) (.skip)))
  (.seq (.region [oN 9 (.faddr 0 (tP 1)),
 lD 10 9,
 oN 11 (.pcall 8 [(tP 10)]),
 oN 12 (.bslice 1 false [(tP 11)]),
 oN 3 (.take (tP 12))])
  (.seq (.seq (.region [oN 13 (.pcall 27 []),
 oN 14 (.faddr 0 (tP 1)),
 lD 15 14,
 oN 16 (.iaddr 1 none (tP 13) (tP 15)),
 lD 17 16,
 oN 18 (.cStrBytes (tP 17)),
 oN 19 (.lenl (tP 18)),
 oN 20 (.mov (.con (.int .i64 0)))])
  (.block 0 (.kill Hc (.loop il))))
  (.seq (.region [oN 31 (.take (tP 3)),
 oN 32 (.pcall 29 [(tP 31), (.con (.str ⟨#[32]⟩))]),
 mV 2 32])
  (.ret))))),
  [.tmp 2]⟩
theorem qe : IsFn Tryz.prog 10 dN := ah [([], []), ([], [1]), ([], []), ([], []), ([], [2, 4]), ([], [0]), (Hc, []), ([], []), ([1, 18, 19, 20, 21], []), ([], []), ([], [0, 3, 6]), ([], []), ([], [0, 1]), ([], [])] (by kernel_rfl)
def dG : CFn := ⟨20, .seq (.region [oN 1 (.box (tP 0)),
 oN 2 (.mov (.con (.bool false)))])
  (.seq (.region [oN 3 (.faddr 0 (tP 1)),
 lD 4 3,
 oN 5 (.pcall 36 [(tP 4)]),
 mV 6 5,
 oG 7 (.load (some 11) (tP 1)) 6 true,
 oG 8 (.pcall 37 [(tP 7)]) 6 true,
 oG 9 (.load (some 11) (tP 1)) 6 true,
 oG 10 (.pcall 14 [(tP 8), (tP 9)]) 6 true,
 oN 11 (.pick (tP 6) (tP 10) (.con (.bool false))),
 mV 12 11,
 oG 13 (.faddr 0 (tP 1)) 12 true,
 oG 14 (.load none (tP 13)) 12 true,
 oG 15 (.pcall 39 [(tP 14)]) 12 true,
 oG 16 (.mkfn (.func 40) [] [(tP 1)]) 12 true,
 oG 17 (.call 38 [(tP 15), (tP 16)]) 12 true,
 oG 18 (.un .not (tP 17)) 12 true,
 oN 19 (.pick (tP 12) (tP 18) (.con (.bool false))),
 mV 2 19])
  (.ret)),
  [.tmp 2]⟩
theorem sc : IsFn Tryz.prog 12 dG := ah [([], []), ([], [2, 5, 7, 12]), ([], [])] (by kernel_rfl)
abbrev dT (v0 v2 v4 v6 v26 v27 v28 : AV) : List AV := [v0, aa, v2, .any, v4, .any, v6, .any, .any, .any, .any, .any, .any, .any, .any, .any, .any, .any, aa, aa, .any, .any, .any, .any, .any, .any, v26, v27, v28, .any, .any, .any, .any, .any, .any, .any, .any, .any, .any, .any, .any, .any, .any, .any, .any, .any, aa, aa, aa, aa, aa, aa, aa]
abbrev n5 (v0 v2 v6 : AV) : List AV := [v0, aa, v2, .any, .any, .any, v6, .any, .any, .any, .any, .any, .any, .any, .any, .any, .any, .any, aa, aa, .any, .any, .any, .any, .any, .any, .any, .any, .any, .any, .any, .any, .any, .any, .any, .any, .any, .any, .any, .any, .any, .any, .any, .any, .any, .any, aa, aa, aa, aa, aa, aa, aa]
abbrev cZ : CC := .kill Hd (.seq (.region [oN 29 (.bin .lss (tP 28) (tP 27))])
  (.seq (.cond (tP 29) (.skip) (.kill [4, 26, 27, 28, 29] (.exit 0)))
  (.seq (.block 1 (.seq (.region [mV 30 28,
 oN 31 (.iaddr 1 none (tP 26) (tP 28)),
 lD 32 31,
 mV 7 30,
 mV 8 32])
  (.seq (.region [mV 33 7,
 oN 34 (.bin .add (tP 33) (.con (.int .i64 1))),
 mV 35 4,
 oN 36 (.lenl (tP 35)),
 oN 37 (.bin .lss (tP 34) (tP 36))])
  (.cond (tP 37) (.region [mV 38 8,
 mV 39 4,
 mV 40 7,
 oN 41 (.bin .add (tP 40) (.con (.int .i64 1))),
 oN 42 (.iaddr 1 none (tP 39) (tP 41)),
 lD 43 42,
 oN 44 (.call 45 [(tP 6), (tP 38), (tP 43)])]) (.skip)))))
  (.region [oN 45 (.bin .add (tP 28) (.con (.int .i64 1))),
 mV 28 45]))))
def dr : CFn := ⟨53, .seq (.region [oN 2 (.alloc [.int .i64 0, .sl .ex [], .sl .ex [], .sl .ex [], .sl .ex [], .int .i64 0, .int .i64 0, .sl .ex [], .str ⟨#[]⟩, .sl .ex [], .bool false]),
 oN 3 (.mov (.con (.nili)))])
  (.seq (.region [mV 9 0,
 oN 10 (.pcall 42 [(tP 9), (.con (.str ⟨#[32]⟩))]),
 oN 4 (.take (tP 10))])
  (.seq (.region [oN 11 (.pcall 26 []),
 mV 12 4,
 oN 13 (.iaddr 1 none (tP 12) (.con (.int .i64 0))),
 lD 14 13,
 oN 15 (.pcall 43 [(tP 11), (tP 14)]),
 mV 5 15])
  (.seq (.seq (.region [mV 16 5,
 oN 17 (.bin .lss (tP 16) (.con (.int .i64 0)))])
  (.cond (tP 17) (.seq (.region [oN 18 (.build [.int .i64 0, .sl .ex [], .sl .ex [], .sl .ex [], .sl .ex [], .int .i64 0, .int .i64 0, .sl .ex [], .str ⟨#[]⟩, .sl .ex [], .bool false] []),
 oN 19 (.call 44 [(.con (.str ⟨#[115, 112, 101, 101, 99, 104]⟩)), (.con (.int .i64 30))]),
 ⟨none, .store 11 (tP 2) (tP 18), none⟩,
 mV 3 19])
  (.ret)) (.skip)))
  (.seq (.region [mV 20 5,
 oN 21 (.build [.int .i64 0, .sl .ex [], .sl .ex [], .sl .ex [], .sl .ex [], .int .i64 0, .int .i64 0, .sl .ex [], .str ⟨#[]⟩, .sl .ex [], .bool false] [(0, 1, (tP 20))]),
 oN 6 (.alloc [.int .i64 0, .sl .ex [], .sl .ex [], .sl .ex [], .sl .ex [], .int .i64 0, .int .i64 0, .sl .ex [], .str ⟨#[]⟩, .sl .ex [], .bool false]),
 ⟨none, .store 11 (tP 6) (tP 21), none⟩])
  (.seq (.seq (.region [oN 22 (.pcall 27 []),
 mV 23 5,
 oN 24 (.iaddr 1 none (tP 22) (tP 23)),
 lD 25 24,
 oN 26 (.cStrBytes (tP 25)),
 oN 27 (.lenl (tP 26)),
 oN 28 (.mov (.con (.int .i64 0)))])
  (.block 0 (.kill Hd (.loop cZ))))
  (.seq (.seq (.region [oN 46 (.load (some 11) (tP 6)),
 oN 47 (.pcall 10 [(tP 46)]),
 mV 48 0,
 oN 49 (.bin .neq (tP 47) (tP 48))])
  (.cond (tP 49) (.seq (.region [oN 50 (.build [.int .i64 0, .sl .ex [], .sl .ex [], .sl .ex [], .sl .ex [], .int .i64 0, .int .i64 0, .sl .ex [], .str ⟨#[]⟩, .sl .ex [], .bool false] []),
 oN 51 (.call 44 [(.con (.str ⟨#[115, 112, 101, 101, 99, 104]⟩)), (.con (.int .i64 10))]),
 ⟨none, .store 11 (tP 2) (tP 50), none⟩,
 mV 3 51])
  (.ret)) (.skip)))
  (.seq (.region [oN 52 (.load (some 11) (tP 6)),
 ⟨none, .store 11 (tP 2) (tP 52), none⟩,
 oN 3 (.mov (.con (.nili)))])
  (.ret)))))))),
  [.cell 2 (some 11), .tmp 3]⟩
theorem pw : IsFn Tryz.prog 13 dr := ah [([], []), ([], [1, 2]), ([], [0, 4]), ([], []), ([], []), ([], []), ([], []), ([], [0]), (Hd, []), ([], []), ([4, 26, 27, 28, 29], []), ([], []), ([], []), ([], []), ([], []), ([], [1]), ([], []), ([], []), ([], []), ([], [])] (by kernel_rfl)
def bJ : CFn := ⟨82, .seq (.region [oN 2 (.box (tP 0)),
 oN 3 (.box (tP 1)),
 oN 4 (.mov (.con (.bool false)))])
  (.seq (.region [oN 6 (.faddr 1 (tP 2)),
 lD 7 6,
 oN 8 (.faddr 1 (tP 3)),
 lD 9 8,
 oN 10 (.pcall 46 [(tP 7), (tP 9)]),
 mV 11 10,
 oG 12 (.faddr 2 (tP 2)) 11 true,
 oG 13 (.load none (tP 12)) 11 true,
 oG 14 (.faddr 2 (tP 3)) 11 true,
 oG 15 (.load none (tP 14)) 11 true,
 oG 16 (.pcall 47 [(tP 13), (tP 15)]) 11 true,
 oN 17 (.pick (tP 11) (tP 16) (.con (.bool false))),
 mV 18 17,
 oG 19 (.faddr 3 (tP 2)) 18 true,
 oG 20 (.load none (tP 19)) 18 true,
 oG 21 (.faddr 3 (tP 3)) 18 true,
 oG 22 (.load none (tP 21)) 18 true,
 oG 23 (.pcall 47 [(tP 20), (tP 22)]) 18 true,
 oN 24 (.pick (tP 18) (tP 23) (.con (.bool false))),
 mV 25 24,
 oG 26 (.faddr 4 (tP 2)) 25 true,
 oG 27 (.load none (tP 26)) 25 true,
 oG 28 (.faddr 4 (tP 3)) 25 true,
 oG 29 (.load none (tP 28)) 25 true,
 oG 30 (.pcall 48 [(tP 27), (tP 29)]) 25 true,
 oN 31 (.pick (tP 25) (tP 30) (.con (.bool false))),
 mV 32 31,
 oG 33 (.faddr 9 (tP 2)) 32 true,
 oG 34 (.load none (tP 33)) 32 true,
 oG 35 (.faddr 9 (tP 3)) 32 true,
 oG 36 (.load none (tP 35)) 32 true,
 oG 37 (.pcall 46 [(tP 34), (tP 36)]) 32 true,
 oN 38 (.pick (tP 32) (tP 37) (.con (.bool false))),
 mV 5 38])
  (.seq (.region [mV 39 5,
 mV 40 39,
 oG 41 (.faddr 0 (tP 2)) 40 true,
 oG 42 (.load none (tP 41)) 40 true,
 oG 43 (.faddr 0 (tP 3)) 40 true,
 oG 44 (.load none (tP 43)) 40 true,
 oG 45 (.bin .eql (tP 42) (tP 44)) 40 true,
 oN 46 (.pick (tP 40) (tP 45) (.con (.bool false))),
 mV 47 46,
 oG 48 (.faddr 5 (tP 2)) 47 true,
 oG 49 (.load none (tP 48)) 47 true,
 oG 50 (.faddr 5 (tP 3)) 47 true,
 oG 51 (.load none (tP 50)) 47 true,
 oG 52 (.bin .eql (tP 49) (tP 51)) 47 true,
 oN 53 (.pick (tP 47) (tP 52) (.con (.bool false))),
 mV 54 53,
 oG 55 (.faddr 6 (tP 2)) 54 true,
 oG 56 (.load none (tP 55)) 54 true,
 oG 57 (.faddr 6 (tP 3)) 54 true,
 oG 58 (.load none (tP 57)) 54 true,
 oG 59 (.bin .eql (tP 56) (tP 58)) 54 true,
 oN 60 (.pick (tP 54) (tP 59) (.con (.bool false))),
 mV 61 60,
 oG 62 (.faddr 7 (tP 2)) 61 true,
 oG 63 (.load none (tP 62)) 61 true,
 oG 64 (.faddr 7 (tP 3)) 61 true,
 oG 65 (.load none (tP 64)) 61 true,
 oG 66 (.pcall 49 [(tP 63), (tP 65)]) 61 true,
 oN 67 (.pick (tP 61) (tP 66) (.con (.bool false))),
 mV 68 67,
 oG 69 (.faddr 8 (tP 2)) 68 true,
 oG 70 (.load none (tP 69)) 68 true,
 oG 71 (.faddr 8 (tP 3)) 68 true,
 oG 72 (.load none (tP 71)) 68 true,
 oG 73 (.bin .eql (tP 70) (tP 72)) 68 true,
 oN 74 (.pick (tP 68) (tP 73) (.con (.bool false))),
 mV 75 74,
 oG 76 (.faddr 10 (tP 2)) 75 true,
 oG 77 (.load none (tP 76)) 75 true,
 oG 78 (.faddr 10 (tP 3)) 75 true,
 oG 79 (.load none (tP 78)) 75 true,
 oG 80 (.eqb false (tP 77) (tP 79)) 75 true,
 oN 81 (.pick (tP 75) (tP 80) (.con (.bool false))),
 mV 4 81])
  (.ret))),
  [.tmp 4]⟩
theorem ud : IsFn Tryz.prog 14 bJ := ah [([], []), ([], [4, 10, 17, 24, 31]), ([], [27]), ([], [])] (by kernel_rfl)
abbrev jF (v2 v4 v5 v6 : AV) : List AV := [.any, aa, v2, .any, v4, v5, v6, aa, aa, aa, aa, .any, .any, .any, .any, .any, .any, .any, .any, .any, .any, .any, .any, .any, .any, .any, aa, aa, aa, aa, aa, aa, aa, aa, aa, aa, aa, aa, aa, aa, aa, aa, aa, aa, aa, aa, aa, aa, aa, aa, aa, aa, aa, aa, aa, aa, aa, aa, aa, aa, aa, aa, aa, aa, aa, aa, aa, aa, aa, aa, aa, aa, aa, aa, aa, aa, aa, aa, aa, aa, aa, aa, aa, aa, aa, aa, aa, aa, aa, aa, aa, aa, aa, aa, aa, aa, aa, aa, aa, aa, aa, aa, aa, aa, aa, aa, aa, aa, aa, aa, aa, aa, aa, aa, aa, aa, aa, aa, aa, aa, aa, aa, aa, aa, aa, aa, aa, aa, aa, aa, aa, aa, aa, aa, aa, aa, aa, aa, aa, aa, aa, aa, aa, aa, aa, aa, aa]
abbrev bP (v2 v4 v5 v7 v8 : AV) : List AV := [.any, aa, v2, .any, v4, v5, .any, v7, v8, .any, .any, .any, .any, .any, .any, .any, .any, .any, .any, .any, .any, .any, .any, .any, .any, .any, .any, .any, .any, aa, .any, .any, .any, .any, .any, .any, .any, .any, .any, aa, .any, .any, .any, .any, .any, .any, .any, .any, .any, .any, .any, .any, .any, .any, .any, .any, .any, .any, .any, .any, .any, .any, .any, .any, .any, .any, .any, .any, .any, .any, .any, .any, .any, .any, .any, .any, .any, .any, .any, .any, .any, .any, .any, .any, .any, .any, .any, .any, .any, .any, .any, .any, .any, .any, .any, .any, .any, .any, .any, .any, .any, .any, .any, .any, .any, .any, .any, .any, .any, .any, .any, .any, .any, .any, .any, .any, .any, .any, .any, .any, .any, .any, .any, .any, .any, .any, .any, .any, .any, .any, .any, .any, .any, .any, .any, .any, .any, .any, .any, .any, .any, .any, aa, aa, aa, aa, aa]
abbrev jG (v2 v4 v5 : AV) : List AV := [.any, aa, v2, .any, v4, v5, .any, aa, aa, aa, aa, .any, .any, .any, .any, .any, .any, .any, .any, .any, .any, .any, .any, .any, .any, .any, aa, aa, aa, aa, aa, aa, aa, aa, aa, aa, aa, aa, aa, aa, aa, aa, aa, aa, aa, aa, aa, aa, aa, aa, aa, aa, aa, aa, aa, aa, aa, aa, aa, aa, aa, aa, aa, aa, aa, aa, aa, aa, aa, aa, aa, aa, aa, aa, aa, aa, aa, aa, aa, aa, aa, aa, aa, aa, aa, aa, aa, aa, aa, aa, aa, aa, aa, aa, aa, aa, aa, aa, aa, aa, aa, aa, aa, aa, aa, aa, aa, aa, aa, aa, aa, aa, aa, aa, aa, aa, aa, aa, aa, aa, aa, aa, aa, aa, aa, aa, aa, aa, aa, aa, aa, aa, aa, aa, aa, aa, aa, aa, aa, aa, aa, aa, aa, aa, aa, aa, aa]
abbrev jH (v2 v5 : AV) : List AV := [.any, aa, v2, .any, .any, v5, .any, .any, .any, .any, .any, .any, .any, .any, .any, .any, .any, .any, .any, .any, .any, .any, .any, .any, .any, .any, .any, .any, .any, aa, .any, .any, .any, .any, .any, .any, .any, .any, .any, aa, .any, .any, .any, .any, .any, .any, .any, .any, .any, .any, .any, .any, .any, .any, .any, .any, .any, .any, .any, .any, .any, .any, .any, .any, .any, .any, .any, .any, .any, .any, .any, .any, .any, .any, .any, .any, .any, .any, .any, .any, .any, .any, .any, .any, .any, .any, .any, .any, .any, .any, .any, .any, .any, .any, .any, .any, .any, .any, .any, .any, .any, .any, .any, .any, .any, .any, .any, .any, .any, .any, .any, .any, .any, .any, .any, .any, .any, .any, .any, .any, .any, .any, .any, .any, .any, .any, .any, .any, .any, .any, .any, .any, .any, .any, .any, .any, .any, .any, .any, .any, .any, .any, aa, aa, aa, aa, aa]
abbrev br : CC := .kill He (.seq (.seq (.region [mV 40 8,
 mV 41 7,
 oN 42 (.lens (tP 41)),
 oN 43 (.bin .lss (tP 40) (tP 42))])
  (.cond (tP 43) (.skip) (.kill [4, 7, 8, 40, 41, 42, 43] (.exit 2))))
  (.seq (.block 3 (.seq (.region [mV 46 4,
 mV 47 8,
 oN 48 (.bin .add (tP 47) (.con (.int .i64 1))),
 oN 49 (.iaddr 1 none (tP 46) (tP 48)),
 lD 50 49,
 mV 9 50])
  (.seq (.region [oN 10 (.mov (.con (.bool true)))])
  (.seq (.seq (.region [mV 51 7,
 mV 52 8,
 oN 53 (.idxs (tP 51) (tP 52))])
  (.block 4 (.seq (.region [oN 55 (.bin .eql (tP 53) (.con (.int .u8 97))),
 mV 54 55])
  (.cond (tP 54) (.region [mV 57 9,
 oN 58 (.pcall 51 [(tP 57)]),
 oN 56 (.take (tP 58)),
 oN 59 (.extract 56 0),
 oN 60 (.extract 56 1),
 oN 61 (.faddr 1 (tP 5)),
 ⟨none, .store 1 (tP 61) (tP 59), none⟩,
 mV 10 60]) (.seq (.region [oN 63 (.bin .eql (tP 53) (.con (.int .u8 115))),
 mV 62 63])
  (.cond (tP 62) (.region [mV 65 9,
 oN 66 (.pcall 51 [(tP 65)]),
 oN 64 (.take (tP 66)),
 oN 67 (.extract 64 0),
 oN 68 (.extract 64 1),
 oN 69 (.faddr 9 (tP 5)),
 ⟨none, .store 1 (tP 69) (tP 67), none⟩,
 mV 10 68]) (.seq (.region [oN 71 (.bin .eql (tP 53) (.con (.int .u8 108))),
 mV 70 71])
  (.cond (tP 70) (.region [mV 73 9,
 oN 74 (.pcall 17 [(tP 73)]),
 oN 72 (.take (tP 74)),
 oN 75 (.extract 72 0),
 oN 76 (.extract 72 1),
 oN 77 (.faddr 2 (tP 5)),
 ⟨none, .store 1 (tP 77) (tP 75), none⟩,
 mV 10 76]) (.seq (.region [oN 79 (.bin .eql (tP 53) (.con (.int .u8 101))),
 mV 78 79])
  (.cond (tP 78) (.region [mV 81 9,
 oN 82 (.pcall 17 [(tP 81)]),
 oN 80 (.take (tP 82)),
 oN 83 (.extract 80 0),
 oN 84 (.extract 80 1),
 oN 85 (.faddr 3 (tP 5)),
 ⟨none, .store 1 (tP 85) (tP 83), none⟩,
 mV 10 84]) (.seq (.seq (.region [oN 87 (.bin .eql (tP 53) (.con (.int .u8 110))),
 mV 86 87])
  (.cond (tP 86) (.skip) (.region [oN 88 (.bin .eql (tP 53) (.con (.int .u8 100))),
 mV 86 88])))
  (.cond (tP 86) (.region [mV 90 9,
 oN 91 (.pcall 52 [(tP 90)]),
 mV 89 91,
 oN 92 (.extract 89 0),
 oN 93 (.extract 89 1),
 oN 94 (.faddr 5 (tP 5)),
 ⟨none, .store 1 (tP 94) (tP 92), none⟩,
 mV 10 93]) (.seq (.region [oN 96 (.bin .eql (tP 53) (.con (.int .u8 109))),
 mV 95 96])
  (.cond (tP 95) (.region [mV 98 9,
 oN 99 (.pcall 52 [(tP 98)]),
 mV 97 99,
 oN 100 (.extract 97 0),
 oN 101 (.extract 97 1),
 oN 102 (.faddr 6 (tP 5)),
 ⟨none, .store 1 (tP 102) (tP 100), none⟩,
 mV 10 101]) (.seq (.region [oN 104 (.bin .eql (tP 53) (.con (.int .u8 111))),
 mV 103 104])
  (.cond (tP 103) (.region [mV 106 9,
 oN 107 (.pcall 19 [(tP 106)]),
 oN 105 (.take (tP 107)),
 oN 108 (.extract 105 0),
 oN 109 (.extract 105 1),
 oN 110 (.faddr 4 (tP 5)),
 ⟨none, .store 1 (tP 110) (tP 108), none⟩,
 mV 10 109]) (.seq (.region [oN 112 (.bin .eql (tP 53) (.con (.int .u8 116))),
 mV 111 112])
  (.cond (tP 111) (.region [mV 114 9,
 oN 115 (.pcall 53 [(tP 114)]),
 oN 113 (.take (tP 115)),
 oN 116 (.extract 113 0),
 oN 117 (.extract 113 1),
 oN 118 (.faddr 7 (tP 5)),
 ⟨none, .store 1 (tP 118) (tP 116), none⟩,
 mV 10 117]) (.seq (.region [oN 120 (.bin .eql (tP 53) (.con (.int .u8 99))),
 mV 119 120])
  (.cond (tP 119) (.seq (.region [mV 121 9,
 oN 122 (.faddr 8 (tP 5)),
 ⟨none, .store 1 (tP 122) (tP 121), none⟩])
  (.region [mV 124 9,
 oN 125 (.pcall 54 [(tP 124)]),
 oN 123 (.take (tP 125)),
 oN 126 (.extract 123 0),
 oN 127 (.extract 123 1),
 mV 10 127])) (.seq (.region [oN 129 (.bin .eql (tP 53) (.con (.int .u8 119))),
 mV 128 129])
  (.cond (tP 128) (.seq (.region [mV 130 9,
 oN 131 (.bin .eql (tP 130) (.con (.str ⟨#[119]⟩))),
 oN 132 (.faddr 10 (tP 5)),
 ⟨none, .store 1 (tP 132) (tP 131), none⟩])
  (.region [mV 133 9,
 oN 134 (.bin .eql (tP 133) (.con (.str ⟨#[119]⟩))),
 mV 135 134,
 oG 136 (.mov (tP 9)) 135 false,
 oG 137 (.bin .eql (tP 136) (.con (.str ⟨#[114]⟩))) 135 false,
 oN 138 (.pick (tP 135) (.con (.bool true)) (tP 137)),
 mV 10 138])) (.skip)))))))))))))))))))))))
  (.seq (.region [mV 139 10,
 oN 140 (.un .not (tP 139))])
  (.cond (tP 140) (.seq (.region [oN 141 (.build [.int .i64 0, .sl .ex [], .sl .ex [], .sl .ex [], .sl .ex [], .int .i64 0, .int .i64 0, .sl .ex [], .str ⟨#[]⟩, .sl .ex [], .bool false] []),
 ⟨none, .store 11 (tP 2) (tP 141), none⟩,
 oN 3 (.mov (.con (.int .i64 10)))])
  (.ret)) (.skip)))))))
  (.region [mV 44 8,
 oN 45 (.bin .add (tP 44) (.con (.int .i64 1))),
 mV 8 45])))
abbrev fM : CC := .kill Hf (.seq (.seq (.region [mV 14 6,
 oN 15 (.bin .leq (tP 14) (.con (.int .i64 20)))])
  (.cond (tP 15) (.skip) (.kill [6, 14, 15] (.exit 0))))
  (.seq (.block 1 (.seq (.region [mV 18 6,
 oN 19 (.pcall 9 [(tP 18)]),
 mV 20 4,
 oN 21 (.iaddr 1 none (tP 20) (.con (.int .i64 0))),
 lD 22 21,
 oN 23 (.bin .eql (tP 19) (tP 22))])
  (.cond (tP 23) (.region [mV 24 6,
 oN 25 (.faddr 0 (tP 5)),
 ⟨none, .store 1 (tP 25) (tP 24), none⟩]) (.skip))))
  (.region [mV 16 6,
 oN 17 (.bin .add (tP 16) (.con (.int .i64 1))),
 mV 6 17])))
def aQ : CFn := ⟨147, .seq (.region [oN 2 (.alloc [.int .i64 0, .sl .ex [], .sl .ex [], .sl .ex [], .sl .ex [], .int .i64 0, .int .i64 0, .sl .ex [], .str ⟨#[]⟩, .sl .ex [], .bool false]),
 oN 3 (.mov (.con (.int .i64 0)))])
  (.seq (.region [mV 11 0,
 oN 12 (.pcall 50 [(tP 11), (.con (.int .u8 32))]),
 oN 4 (.take (tP 12))])
  (.seq (.region [oN 13 (.build [.int .i64 0, .sl .ex [], .sl .ex [], .sl .ex [], .sl .ex [], .int .i64 0, .int .i64 0, .sl .ex [], .str ⟨#[]⟩, .sl .ex [], .bool false] [(0, 1, (.con (.int .i64 (-1))))]),
 oN 5 (.alloc [.int .i64 0, .sl .ex [], .sl .ex [], .sl .ex [], .sl .ex [], .int .i64 0, .int .i64 0, .sl .ex [], .str ⟨#[]⟩, .sl .ex [], .bool false]),
 ⟨none, .store 11 (tP 5) (tP 13), none⟩])
  (.seq (.seq (.region [oN 6 (.mov (.con (.int .i64 0)))])
  (.block 0 (.kill Hf (.loop fM))))
  (.seq (.seq (.region [oN 26 (.faddr 0 (tP 5)),
 lD 27 26,
 oN 28 (.bin .lss (tP 27) (.con (.int .i64 0)))])
  (.cond (tP 28) (.seq (.region [oN 29 (.build [.int .i64 0, .sl .ex [], .sl .ex [], .sl .ex [], .sl .ex [], .int .i64 0, .int .i64 0, .sl .ex [], .str ⟨#[]⟩, .sl .ex [], .bool false] []),
 ⟨none, .store 11 (tP 2) (tP 29), none⟩,
 oN 3 (.mov (.con (.int .i64 30)))])
  (.ret)) (.skip)))
  (.seq (.region [oN 30 (.faddr 0 (tP 5)),
 lD 31 30,
 oN 32 (.pcall 31 [(tP 31)]),
 mV 7 32])
  (.seq (.seq (.region [mV 33 4,
 oN 34 (.lenl (tP 33)),
 mV 35 7,
 oN 36 (.lens (tP 35)),
 oN 37 (.bin .add (tP 36) (.con (.int .i64 1))),
 oN 38 (.bin .neq (tP 34) (tP 37))])
  (.cond (tP 38) (.seq (.region [oN 39 (.build [.int .i64 0, .sl .ex [], .sl .ex [], .sl .ex [], .sl .ex [], .int .i64 0, .int .i64 0, .sl .ex [], .str ⟨#[]⟩, .sl .ex [], .bool false] []),
 ⟨none, .store 11 (tP 2) (tP 39), none⟩,
 oN 3 (.mov (.con (.int .i64 10)))])
  (.ret)) (.skip)))
  (.seq (.seq (.region [oN 8 (.mov (.con (.int .i64 0)))])
  (.block 2 (.kill He (.loop br))))
  (.seq (.seq (.region [oN 142 (.load (some 11) (tP 5)),
 oN 143 (.pcall 30 [(tP 142)]),
 oN 144 (.un .not (tP 143))])
  (.cond (tP 144) (.seq (.region [oN 145 (.build [.int .i64 0, .sl .ex [], .sl .ex [], .sl .ex [], .sl .ex [], .int .i64 0, .int .i64 0, .sl .ex [], .str ⟨#[]⟩, .sl .ex [], .bool false] []),
 ⟨none, .store 11 (tP 2) (tP 145), none⟩,
 oN 3 (.mov (.con (.int .i64 10)))])
  (.ret)) (.skip)))
  (.seq (.region [oN 146 (.load (some 11) (tP 5)),
 ⟨none, .store 11 (tP 2) (tP 146), none⟩,
 oN 3 (.mov (.con (.int .i64 0)))])
  (.ret)))))))))),
  [.cell 2 (some 11), .tmp 3]⟩
theorem ki : IsFn Tryz.prog 15 aQ := ah [([], []), ([], [1, 2]), ([], []), ([], []), (Hf, []), ([], []), ([6, 14, 15], []), ([], [1]), ([], []), ([], []), ([], []), ([], []), ([], []), ([], [2]), ([], []), ([], []), ([], []), ([], []), (He, []), ([], []), ([4, 7, 8, 40, 41, 42, 43], []), ([], []), ([], []), ([], []), ([], []), ([], [1, 2]), ([], []), ([], [1, 2]), ([], []), ([], [1, 2]), ([], []), ([], [1, 2]), ([], []), ([], []), ([], [1]), ([], []), ([], [1]), ([], []), ([], [1, 2]), ([], []), ([], [1, 2]), ([], []), ([], []), ([], [1, 2]), ([], []), ([], []), ([], []), ([], []), ([], []), ([], []), ([], []), ([], [1]), ([], []), ([], []), ([], []), ([], [])] (by kernel_rfl)
abbrev dU : CC := .block 1 (.seq (.region [mV 17 5,
 oN 18 (.pcall 56 [(tP 17), (.con (.str ⟨#[61]⟩))]),
 mV 16 18,
 oN 19 (.extract 16 0),
 oN 20 (.extract 16 1),
 oN 21 (.extract 16 2),
 mV 6 19,
 mV 7 20,
 mV 8 21])
  (.seq (.region [mV 23 7,
 oN 24 (.call 57 [(tP 23)]),
 mV 22 24,
 oN 25 (.extract 22 0),
 oN 26 (.extract 22 1),
 mV 9 25,
 mV 10 26])
  (.seq (.seq (.region [mV 27 8,
 oN 28 (.un .not (tP 27)),
 mV 29 28,
 oG 30 (.mov (tP 10)) 29 false,
 oG 31 (.isnil .ifc true (tP 30)) 29 false,
 oN 32 (.pick (tP 29) (.con (.bool true)) (tP 31))])
  (.cond (tP 32) (.seq (.region [⟨none, .store 1 (tP 2) (.con (.sl .ex [])), none⟩,
 ⟨none, .store 1 (tP 3) (.con (.bool false)), none⟩])
  (.ret)) (.skip)))
  (.region [oN 33 (.ltake (tP 4)),
 mV 34 6,
 mV 35 9,
 oN 36 (.build [.str ⟨#[]⟩, .int .i64 0] [(0, 1, (tP 34)), (1, 1, (tP 35))]),
 oN 37 (.bslice 2 false [(tP 36)]),
 oN 38 (.append 2 24 false (tP 33) (tP 37)),
 ⟨none, .store 1 (tP 4) (tP 38), none⟩]))))
abbrev bO : CC := .region [mV 5 15]
def cL : CFn := ⟨49, .seq (.region [oN 2 (.alloc [.sl .ex []]),
 oN 3 (.alloc [.bool false])])
  (.seq (.seq (.region [mV 11 0,
 oN 12 (.bin .eql (tP 11) (.con (.str ⟨#[45]⟩)))])
  (.cond (tP 12) (.seq (.region [⟨none, .store 1 (tP 2) (.con (.sl .ex [])), none⟩,
 ⟨none, .store 1 (tP 3) (.con (.bool true)), none⟩])
  (.ret)) (.skip)))
  (.seq (.region [oN 4 (.alloc [.sl .ex []])])
  (.seq (.seq (.region [mV 13 0,
 oN 14 (.call 55 [(tP 13), (.con (.str ⟨#[44]⟩))])])
  (.block 0 (.rsplit (tP 14) 15 bO dU)))
  (.seq (.seq (.region [lD 39 4,
 oN 40 (.pcall 58 [(tP 39)]),
 oN 41 (.un .not (tP 40)),
 mV 42 41,
 oG 43 (.load none (tP 4)) 42 false,
 oG 44 (.pcall 59 [(tP 43)]) 42 false,
 oG 45 (.mov (tP 0)) 42 false,
 oG 46 (.bin .neq (tP 44) (tP 45)) 42 false,
 oN 47 (.pick (tP 42) (.con (.bool true)) (tP 46))])
  (.cond (tP 47) (.seq (.region [⟨none, .store 1 (tP 2) (.con (.sl .ex [])), none⟩,
 ⟨none, .store 1 (tP 3) (.con (.bool false)), none⟩])
  (.ret)) (.skip)))
  (.seq (.region [lD 48 4,
 ⟨none, .store 1 (tP 2) (tP 48), none⟩,
 ⟨none, .store 1 (tP 3) (.con (.bool true)), none⟩])
  (.ret)))))),
  [.cell 2 none, .cell 3 none]⟩
theorem pz : IsFn Tryz.prog 16 cL := ah [([], []), ([], []), ([], []), ([], []), ([], []), ([], []), ([], []), ([], [1]), ([], []), ([], []), ([], []), ([], []), ([], [0]), ([], [1, 5]), ([], []), ([], []), ([], []), ([], [])] (by kernel_rfl)
abbrev cR (v4 v13 v14 v15 : AV) : List AV := [.any, aa, .any, .any, v4, aa, .any, .any, .any, .any, .any, .any, .any, v13, v14, v15, .any, .any, .any, .any, .any, .any, .any, .any, .any, .any, .any, .any, .any, .any, .any, .any, .any, .any, .any, .any, .any, .any, .any, .any, .any, .any, aa, aa, aa, aa]
abbrev jI (v4 : AV) : List AV := [.any, aa, .any, .any, v4, aa, .any, .any, .any, .any, .any, .any, .any, .any, .any, .any, .any, .any, .any, .any, .any, .any, .any, .any, .any, .any, .any, .any, .any, .any, .any, .any, .any, .any, .any, .any, .any, .any, .any, .any, .any, .any, aa, aa, aa, aa]
abbrev bQ : CC := .kill Hg (.seq (.region [oN 16 (.bin .lss (tP 15) (tP 14))])
  (.seq (.cond (tP 16) (.skip) (.kill [13, 14, 15, 16] (.exit 0)))
  (.seq (.block 1 (.seq (.region [oN 17 (.iaddr 1 none (tP 13) (tP 15)),
 lD 18 17,
 mV 6 18])
  (.seq (.region [mV 19 6,
 oN 20 (.pcall 50 [(tP 19), (.con (.int .u8 61))]),
 oN 7 (.take (tP 20))])
  (.seq (.seq (.region [mV 21 7,
 oN 22 (.lenl (tP 21)),
 oN 23 (.bin .neq (tP 22) (.con (.int .i64 2)))])
  (.cond (tP 23) (.seq (.region [oN 2 (.take (.con (.sl .ex []))),
 oN 3 (.mov (.con (.bool false)))])
  (.ret)) (.skip)))
  (.seq (.region [mV 25 7,
 oN 26 (.iaddr 1 none (tP 25) (.con (.int .i64 1))),
 lD 27 26,
 oN 28 (.pcall 52 [(tP 27)]),
 mV 24 28,
 oN 29 (.extract 24 0),
 oN 30 (.extract 24 1),
 mV 8 29,
 mV 9 30])
  (.seq (.seq (.region [mV 31 9,
 oN 32 (.un .not (tP 31))])
  (.cond (tP 32) (.seq (.region [oN 2 (.take (.con (.sl .ex []))),
 oN 3 (.mov (.con (.bool false)))])
  (.ret)) (.skip)))
  (.region [oN 33 (.take (tP 4)),
 oN 34 (.take (tP 7)),
 oN 35 (.iaddr 1 none (tP 34) (.con (.int .i64 0))),
 lD 36 35,
 mV 37 8,
 oN 38 (.build [.str ⟨#[]⟩, .int .i64 0] [(0, 1, (tP 36)), (1, 1, (tP 37))]),
 oN 39 (.bslice 2 false [(tP 38)]),
 oN 40 (.append 2 24 false (tP 33) (tP 39)),
 oN 4 (.take (tP 40))])))))))
  (.region [oN 41 (.bin .add (tP 15) (.con (.int .i64 1))),
 mV 15 41]))))
def bm : CFn := ⟨46, .seq (.region [oN 2 (.take (.con (.sl .ex []))),
 oN 3 (.mov (.con (.bool false)))])
  (.seq (.seq (.region [mV 10 0,
 oN 11 (.bin .eql (tP 10) (.con (.str ⟨#[45]⟩)))])
  (.cond (tP 11) (.seq (.region [oN 2 (.take (.con (.sl .ex []))),
 oN 3 (.mov (.con (.bool true)))])
  (.ret)) (.skip)))
  (.seq (.region [oN 4 (.take (.con (.sl .ex [])))])
  (.seq (.seq (.region [mV 12 0,
 oN 13 (.pcall 50 [(tP 12), (.con (.int .u8 44))]),
 oN 14 (.lenl (tP 13)),
 oN 15 (.mov (.con (.int .i64 0)))])
  (.block 0 (.kill Hg (.loop bQ))))
  (.seq (.seq (.region [mV 42 4,
 oN 43 (.pcall 60 [(tP 42)]),
 oN 44 (.un .not (tP 43))])
  (.cond (tP 44) (.seq (.region [oN 2 (.take (.con (.sl .ex []))),
 oN 3 (.mov (.con (.bool false)))])
  (.ret)) (.skip)))
  (.seq (.region [oN 45 (.take (tP 4)),
 oN 2 (.take (tP 45)),
 oN 3 (.mov (.con (.bool true)))])
  (.ret)))))),
  [.tmp 2, .tmp 3]⟩
theorem kj : IsFn Tryz.prog 17 bm := ah [([], [0]), ([], []), ([], [0]), ([], []), ([], [0]), ([], [1]), (Hg, []), ([], []), ([13, 14, 15, 16], []), ([], []), ([], [1, 2]), ([], []), ([], [0]), ([], []), ([], [3]), ([], []), ([], [0]), ([], []), ([], [0, 1, 8]), ([], []), ([], [1]), ([], [0]), ([], []), ([], [0, 1]), ([], [])] (by kernel_rfl)
def eB : CFn := ⟨18, .seq (.region [oN 2 (.take (.con (.sl .ex []))),
 oN 3 (.mov (.con (.bool false)))])
  (.seq (.seq (.region [mV 5 0,
 oN 6 (.bin .eql (tP 5) (.con (.str ⟨#[45]⟩)))])
  (.cond (tP 6) (.seq (.region [oN 2 (.take (.con (.sl .ex []))),
 oN 3 (.mov (.con (.bool true)))])
  (.ret)) (.skip)))
  (.seq (.region [mV 7 0,
 oN 8 (.pcall 42 [(tP 7), (.con (.str ⟨#[44]⟩))]),
 oN 4 (.take (tP 8))])
  (.seq (.seq (.region [mV 9 4,
 oN 10 (.pcall 61 [(tP 9)]),
 oN 11 (.un .not (tP 10)),
 mV 12 11,
 oG 13 (.mov (tP 4)) 12 false,
 oG 14 (.lenl (tP 13)) 12 false,
 oG 15 (.bin .eql (tP 14) (.con (.int .i64 0))) 12 false,
 oN 16 (.pick (tP 12) (.con (.bool true)) (tP 15))])
  (.cond (tP 16) (.seq (.region [oN 2 (.take (.con (.sl .ex []))),
 oN 3 (.mov (.con (.bool false)))])
  (.ret)) (.skip)))
  (.seq (.region [oN 17 (.take (tP 4)),
 oN 2 (.take (tP 17)),
 oN 3 (.mov (.con (.bool true)))])
  (.ret))))),
  [.tmp 2, .tmp 3]⟩
theorem sd : IsFn Tryz.prog 18 eB := ah [([], [0]), ([], []), ([], [0]), ([], []), ([], [1, 2]), ([], [1]), ([], [0]), ([], []), ([], [0, 1]), ([], [])] (by kernel_rfl)
def cn : CFn := ⟨13, .seq (.region [oN 2 (.take (.con (.sl .ex []))),
 oN 3 (.mov (.con (.bool false)))])
  (.seq (.seq (.region [mV 5 0,
 oN 6 (.bin .eql (tP 5) (.con (.str ⟨#[45]⟩)))])
  (.cond (tP 6) (.seq (.region [oN 2 (.take (.con (.sl .ex []))),
 oN 3 (.mov (.con (.bool true)))])
  (.ret)) (.skip)))
  (.seq (.region [mV 7 0,
 oN 8 (.pcall 50 [(tP 7), (.con (.int .u8 44))]),
 oN 4 (.take (tP 8))])
  (.seq (.seq (.region [mV 9 4,
 oN 10 (.pcall 62 [(tP 9)]),
 oN 11 (.un .not (tP 10))])
  (.cond (tP 11) (.seq (.region [oN 2 (.take (.con (.sl .ex []))),
 oN 3 (.mov (.con (.bool false)))])
  (.ret)) (.skip)))
  (.seq (.region [oN 12 (.take (tP 4)),
 oN 2 (.take (tP 12)),
 oN 3 (.mov (.con (.bool true)))])
  (.ret))))),
  [.tmp 2, .tmp 3]⟩
theorem l3 : IsFn Tryz.prog 19 cn := ah [([], [0]), ([], []), ([], [0]), ([], []), ([], [1, 2]), ([], [1]), ([], [0]), ([], []), ([], [0, 1]), ([], [])] (by kernel_rfl)
def ak : CFn := ⟨82, .seq (.region [oN 2 (.box (tP 0)),
 oN 3 (.box (tP 1)),
 oN 4 (.mov (.con (.bool false)))])
  (.seq (.region [oN 5 (.faddr 0 (tP 2)),
 lD 6 5,
 oN 7 (.faddr 0 (tP 3)),
 lD 8 7,
 oN 9 (.bin .eql (tP 6) (tP 8)),
 mV 10 9,
 oG 11 (.faddr 1 (tP 2)) 10 true,
 oG 12 (.load none (tP 11)) 10 true,
 oG 13 (.faddr 1 (tP 3)) 10 true,
 oG 14 (.load none (tP 13)) 10 true,
 oG 15 (.pcall 63 [(tP 12), (tP 14)]) 10 true,
 oN 16 (.pick (tP 10) (tP 15) (.con (.bool false))),
 mV 17 16,
 oG 18 (.faddr 2 (tP 2)) 17 true,
 oG 19 (.load none (tP 18)) 17 true,
 oG 20 (.faddr 2 (tP 3)) 17 true,
 oG 21 (.load none (tP 20)) 17 true,
 oG 22 (.pcall 24 [(tP 19), (tP 21)]) 17 true,
 oN 23 (.pick (tP 17) (tP 22) (.con (.bool false))),
 mV 24 23,
 oG 25 (.faddr 3 (tP 2)) 24 true,
 oG 26 (.load none (tP 25)) 24 true,
 oG 27 (.faddr 3 (tP 3)) 24 true,
 oG 28 (.load none (tP 27)) 24 true,
 oG 29 (.pcall 24 [(tP 26), (tP 28)]) 24 true,
 oN 30 (.pick (tP 24) (tP 29) (.con (.bool false))),
 mV 31 30,
 oG 32 (.faddr 4 (tP 2)) 31 true,
 oG 33 (.load none (tP 32)) 31 true,
 oG 34 (.faddr 4 (tP 3)) 31 true,
 oG 35 (.load none (tP 34)) 31 true,
 oG 36 (.pcall 25 [(tP 33), (tP 35)]) 31 true,
 oN 37 (.pick (tP 31) (tP 36) (.con (.bool false))),
 mV 38 37,
 oG 39 (.faddr 5 (tP 2)) 38 true,
 oG 40 (.load none (tP 39)) 38 true,
 oG 41 (.faddr 5 (tP 3)) 38 true,
 oG 42 (.load none (tP 41)) 38 true,
 oG 43 (.bin .eql (tP 40) (tP 42)) 38 true,
 oN 44 (.pick (tP 38) (tP 43) (.con (.bool false))),
 mV 45 44,
 oG 46 (.faddr 6 (tP 2)) 45 true,
 oG 47 (.load none (tP 46)) 45 true,
 oG 48 (.faddr 6 (tP 3)) 45 true,
 oG 49 (.load none (tP 48)) 45 true,
 oG 50 (.bin .eql (tP 47) (tP 49)) 45 true,
 oN 51 (.pick (tP 45) (tP 50) (.con (.bool false))),
 mV 52 51,
 oG 53 (.faddr 7 (tP 2)) 52 true,
 oG 54 (.load none (tP 53)) 52 true,
 oG 55 (.cBytesStr (tP 54)) 52 true,
 oG 56 (.faddr 7 (tP 3)) 52 true,
 oG 57 (.load none (tP 56)) 52 true,
 oG 58 (.cBytesStr (tP 57)) 52 true,
 oG 59 (.bin .eql (tP 55) (tP 58)) 52 true,
 oN 60 (.pick (tP 52) (tP 59) (.con (.bool false))),
 mV 61 60,
 oG 62 (.faddr 8 (tP 2)) 61 true,
 oG 63 (.load none (tP 62)) 61 true,
 oG 64 (.faddr 8 (tP 3)) 61 true,
 oG 65 (.load none (tP 64)) 61 true,
 oG 66 (.bin .eql (tP 63) (tP 65)) 61 true,
 oN 67 (.pick (tP 61) (tP 66) (.con (.bool false))),
 mV 68 67,
 oG 69 (.faddr 9 (tP 2)) 68 true,
 oG 70 (.load none (tP 69)) 68 true,
 oG 71 (.faddr 9 (tP 3)) 68 true,
 oG 72 (.load none (tP 71)) 68 true,
 oG 73 (.pcall 63 [(tP 70), (tP 72)]) 68 true,
 oN 74 (.pick (tP 68) (tP 73) (.con (.bool false))),
 mV 75 74,
 oG 76 (.faddr 10 (tP 2)) 75 true,
 oG 77 (.load none (tP 76)) 75 true,
 oG 78 (.faddr 10 (tP 3)) 75 true,
 oG 79 (.load none (tP 78)) 75 true,
 oG 80 (.eqb false (tP 77) (tP 79)) 75 true,
 oN 81 (.pick (tP 75) (tP 80) (.con (.bool false))),
 mV 4 81])
  (.ret)),
  [.tmp 4]⟩
theorem ln : IsFn Tryz.prog 20 ak := ah [([], []), ([], [10, 17, 24, 31, 68]), ([], [])] (by kernel_rfl)
def gj : CFn := ⟨22, .seq (.region [oN 2 (.mov (.con (.int .i64 0)))])
  (.seq (.seq (.region [mV 6 0,
 oN 7 (.isnil .ifc false (tP 6))])
  (.cond (tP 7) (.seq (.region [oN 2 (.mov (.con (.int .i64 0)))])
  (.ret)) (.skip)))
  (.seq (.seq (.region [mV 9 0,
 oN 10 (.tass 95 (.nilp) (tP 9)),
 mV 8 10,
 oN 11 (.extract 8 0),
 oN 12 (.extract 8 1),
 mV 3 11,
 mV 4 12])
  (.seq (.region [mV 13 4])
  (.cond (tP 13) (.seq (.region [mV 14 3,
 oN 15 (.nilck (tP 14)),
 oN 16 (.faddr 1 (tP 15)),
 lD 17 16,
 mV 2 17])
  (.ret)) (.skip))))
  (.seq (.region [oN 5 (.alloc [.int .i64 0])])
  (.seq (.seq (.region [mV 18 0,
 oN 19 (.mkif 100 (tP 5)),
 oN 20 (.call 64 [(tP 18), (tP 19)])])
  (.cond (tP 20) (.seq (.region [lD 21 5,
 mV 2 21])
  (.ret)) (.skip)))
  (.seq (.region [oN 2 (.mov (.con (.int .i64 2)))])
  (.ret)))))),
  [.tmp 2]⟩
theorem se : IsFn Tryz.prog 21 gj := ah [([], []), ([], []), ([], []), ([], []), ([], []), ([], []), ([], []), ([], []), ([], []), ([], []), ([], []), ([], []), ([], []), ([], [])] (by kernel_rfl)
def gX : CFn := ⟨15, .seq (.region [oN 2 (.mov (.con (.str ⟨#[]⟩)))])
  (.seq (.seq (.region [mV 6 0,
 oN 7 (.tass 95 (.nilp) (tP 6)),
 mV 5 7,
 oN 8 (.extract 5 0),
 oN 9 (.extract 5 1),
 mV 3 8,
 mV 4 9])
  (.seq (.region [mV 10 4])
  (.cond (tP 10) (.seq (.region [mV 11 3,
 oN 12 (.nilck (tP 11)),
 oN 13 (.faddr 0 (tP 12)),
 lD 14 13,
 mV 2 14])
  (.ret)) (.skip))))
  (.seq (.region [oN 2 (.mov (.con (.str ⟨#[]⟩)))])
  (.ret))),
  [.tmp 2]⟩
theorem qf : IsFn Tryz.prog 22 gX := ah [([], []), ([], []), ([], []), ([], []), ([], []), ([], []), ([], [])] (by kernel_rfl)
def gY : CFn := ⟨12, .seq (.region [oN 2 (.mov (.con (.int .i64 0)))])
  (.seq (.region [mV 6 0,
 oN 7 (.call 65 [(tP 6)]),
 oN 5 (.take (tP 7)),
 oN 8 (.extract 5 0),
 oN 9 (.extract 5 1),
 oN 3 (.take (tP 8)),
 mV 4 9])
  (.seq (.region [oN 10 (.take (tP 3)),
 oN 11 (.lenl (tP 10)),
 mV 2 11])
  (.ret))),
  [.tmp 2]⟩
theorem qg : IsFn Tryz.prog 23 gY := ah [([], []), ([], [2, 5]), ([], [0]), ([], [])] (by kernel_rfl)
abbrev db (v0 v1 v12 v13 : AV) : List AV := [v0, v1, aa, aa, .any, .any, .any, .any, .any, .any, .any, .any, v12, v13, .any, .any, .any, .any, .any, .any, .any, .any, .any, .any, .any, .any]
abbrev kl  : List AV := [.any, .any, aa, aa, .any, .any, .any, .any, .any, .any, .any, .any, .any, .any, .any, .any, .any, .any, .any, .any, .any, .any, .any, .any, .any, .any]
abbrev cd : CC := .kill l0 (.seq (.region [oN 14 (.bin .lss (tP 13) (tP 12))])
  (.seq (.cond (tP 14) (.skip) (.kill [0, 1, 12, 13, 14] (.exit 0)))
  (.seq (.block 1 (.seq (.region [mV 15 13,
 mV 5 15])
  (.seq (.region [mV 16 0,
 mV 17 5,
 oN 18 (.iaddr 2 none (tP 16) (tP 17)),
 oN 19 (.load (some 2) (tP 18)),
 mV 20 1,
 mV 21 5,
 oN 22 (.iaddr 2 none (tP 20) (tP 21)),
 oN 23 (.load (some 2) (tP 22)),
 oN 24 (.eqs true [(0, .string), (1, (.int .i64))] (tP 19) (tP 23))])
  (.cond (tP 24) (.seq (.region [oN 4 (.mov (.con (.bool false)))])
  (.ret)) (.skip)))))
  (.region [oN 25 (.bin .add (tP 13) (.con (.int .i64 1))),
 mV 13 25]))))
def bT : CFn := ⟨26, .seq (.region [oN 4 (.mov (.con (.bool false)))])
  (.seq (.seq (.region [mV 6 0,
 oN 7 (.lenl (tP 6)),
 mV 8 1,
 oN 9 (.lenl (tP 8)),
 oN 10 (.bin .neq (tP 7) (tP 9))])
  (.cond (tP 10) (.seq (.region [oN 4 (.mov (.con (.bool false)))])
  (.ret)) (.skip)))
  (.seq (.seq (.region [mV 11 0,
 oN 12 (.lenl (tP 11)),
 oN 13 (.mov (.con (.int .i64 0)))])
  (.block 0 (.kill l0 (.loop cd))))
  (.seq (.region [oN 4 (.mov (.con (.bool true)))])
  (.ret)))),
  [.tmp 4]⟩
theorem lq : IsFn Tryz.prog 24 bT := ah [([], []), ([], []), ([], []), ([], []), ([], []), (l0, []), ([], []), ([0, 1, 12, 13, 14], []), ([], []), ([], []), ([], []), ([], []), ([], []), ([], []), ([], [])] (by kernel_rfl)
abbrev dc (v0 v1 v12 v13 : AV) : List AV := [v0, v1, aa, aa, .any, .any, .any, .any, .any, .any, .any, .any, v12, v13, .any, .any, .any, .any, .any, .any, .any, .any, .any, .any, .any, .any]
abbrev km  : List AV := [.any, .any, aa, aa, .any, .any, .any, .any, .any, .any, .any, .any, .any, .any, .any, .any, .any, .any, .any, .any, .any, .any, .any, .any, .any, .any]
abbrev cg : CC := .kill l0 (.seq (.region [oN 14 (.bin .lss (tP 13) (tP 12))])
  (.seq (.cond (tP 14) (.skip) (.kill [0, 1, 12, 13, 14] (.exit 0)))
  (.seq (.block 1 (.seq (.region [mV 15 13,
 mV 5 15])
  (.seq (.region [mV 16 0,
 mV 17 5,
 oN 18 (.iaddr 1 none (tP 16) (tP 17)),
 lD 19 18,
 mV 20 1,
 mV 21 5,
 oN 22 (.iaddr 1 none (tP 20) (tP 21)),
 lD 23 22,
 oN 24 (.bin .neq (tP 19) (tP 23))])
  (.cond (tP 24) (.seq (.region [oN 4 (.mov (.con (.bool false)))])
  (.ret)) (.skip)))))
  (.region [oN 25 (.bin .add (tP 13) (.con (.int .i64 1))),
 mV 13 25]))))
def bU : CFn := ⟨26, .seq (.region [oN 4 (.mov (.con (.bool false)))])
  (.seq (.seq (.region [mV 6 0,
 oN 7 (.lenl (tP 6)),
 mV 8 1,
 oN 9 (.lenl (tP 8)),
 oN 10 (.bin .neq (tP 7) (tP 9))])
  (.cond (tP 10) (.seq (.region [oN 4 (.mov (.con (.bool false)))])
  (.ret)) (.skip)))
  (.seq (.seq (.region [mV 11 0,
 oN 12 (.lenl (tP 11)),
 oN 13 (.mov (.con (.int .i64 0)))])
  (.block 0 (.kill l0 (.loop cg))))
  (.seq (.region [oN 4 (.mov (.con (.bool true)))])
  (.ret)))),
  [.tmp 4]⟩
theorem lr : IsFn Tryz.prog 25 bU := ah [([], []), ([], []), ([], []), ([], []), ([], []), (l0, []), ([], []), ([0, 1, 12, 13, 14], []), ([], []), ([], []), ([], []), ([], []), ([], []), ([], []), ([], [])] (by kernel_rfl)
def iM : CFn := ⟨2, .seq (.region [oN 0 (.take (.con (.sl .ex [])))])
  (.seq (.region [oN 1 (.bslice 1 false [(.con (.str ⟨#[110, 111, 116, 104, 105, 110, 103]⟩)), (.con (.str ⟨#[99, 97, 116, 101, 103, 111, 114, 121]⟩)), (.con (.str ⟨#[115, 101, 103, 109, 101, 110, 116]⟩)), (.con (.str ⟨#[99, 111, 110, 116, 97, 105, 110, 101, 114]⟩)), (.con (.str ⟨#[116, 104, 114, 101, 97, 100]⟩)), (.con (.str ⟨#[103, 97, 116, 101]⟩)), (.con (.str ⟨#[115, 112, 97, 99, 101]⟩)), (.con (.str ⟨#[114, 101, 97, 100]⟩)), (.con (.str ⟨#[119, 114, 105, 116, 101]⟩)), (.con (.str ⟨#[114, 101, 115, 105, 122, 101]⟩)), (.con (.str ⟨#[108, 105, 115, 116]⟩)), (.con (.str ⟨#[115, 116, 97, 116]⟩)), (.con (.str ⟨#[102, 114, 101, 101]⟩)), (.con (.str ⟨#[109, 111, 118, 101]⟩)), (.con (.str ⟨#[108, 97, 98, 101, 108]⟩)), (.con (.str ⟨#[101, 110, 116, 101, 114]⟩)), (.con (.str ⟨#[100, 114, 111, 112]⟩)), (.con (.str ⟨#[109, 97, 112]⟩)), (.con (.str ⟨#[117, 110, 109, 97, 112]⟩)), (.con (.str ⟨#[108, 111, 97, 100]⟩)), (.con (.str ⟨#[115, 116, 111, 114, 101]⟩))]),
 oN 0 (.take (tP 1))])
  (.ret)),
  [.tmp 0]⟩
theorem pA : IsFn Tryz.prog 26 iM := ah [([], [0]), ([], [1]), ([], [])] (by kernel_rfl)
def iN : CFn := ⟨2, .seq (.region [oN 0 (.take (.con (.sl .ex [])))])
  (.seq (.region [oN 1 (.bslice 1 false [(.con (.str ⟨#[]⟩)), (.con (.str ⟨#[]⟩)), (.con (.str ⟨#[97, 108, 110, 109]⟩)), (.con (.str ⟨#[97, 108, 110]⟩)), (.con (.str ⟨#[97, 108, 110, 111]⟩)), (.con (.str ⟨#[97, 108, 110, 101, 111, 109]⟩)), (.con (.str ⟨#[97, 108, 110]⟩)), (.con (.str ⟨#[97, 110, 109]⟩)), (.con (.str ⟨#[97, 110, 116]⟩)), (.con (.str ⟨#[97, 110]⟩)), (.con (.str ⟨#[97]⟩)), (.con (.str ⟨#[97]⟩)), (.con (.str ⟨#[97]⟩)), (.con (.str ⟨#[97, 110]⟩)), (.con (.str ⟨#[108]⟩)), (.con (.str ⟨#[97]⟩)), (.con (.str ⟨#[99]⟩)), (.con (.str ⟨#[97, 110, 115, 119]⟩)), (.con (.str ⟨#[97, 110]⟩)), (.con (.str ⟨#[97, 110, 109]⟩)), (.con (.str ⟨#[97, 110, 116]⟩))]),
 oN 0 (.take (tP 1))])
  (.ret)),
  [.tmp 0]⟩
theorem pB : IsFn Tryz.prog 27 iN := ah [([], [0]), ([], [1]), ([], [])] (by kernel_rfl)
def aX : CFn := ⟨52, .seq (.region [oN 2 (.box (tP 0)),
 oN 4 (.mov (.con (.str ⟨#[]⟩)))])
  (.seq (.seq (.region [mV 5 1])
  (.block 0 (.seq (.region [oN 7 (.bin .eql (tP 5) (.con (.int .u8 97))),
 mV 6 7])
  (.cond (tP 6) (.seq (.region [oN 8 (.faddr 1 (tP 2)),
 lD 9 8,
 oN 10 (.pcall 66 [(tP 9)]),
 mV 4 10])
  (.ret)) (.seq (.region [oN 12 (.bin .eql (tP 5) (.con (.int .u8 115))),
 mV 11 12])
  (.cond (tP 11) (.seq (.region [oN 13 (.faddr 9 (tP 2)),
 lD 14 13,
 oN 15 (.pcall 66 [(tP 14)]),
 mV 4 15])
  (.ret)) (.seq (.region [oN 17 (.bin .eql (tP 5) (.con (.int .u8 108))),
 mV 16 17])
  (.cond (tP 16) (.seq (.region [oN 18 (.faddr 2 (tP 2)),
 lD 19 18,
 oN 20 (.pcall 59 [(tP 19)]),
 mV 4 20])
  (.ret)) (.seq (.region [oN 22 (.bin .eql (tP 5) (.con (.int .u8 101))),
 mV 21 22])
  (.cond (tP 21) (.seq (.region [oN 23 (.faddr 3 (tP 2)),
 lD 24 23,
 oN 25 (.pcall 59 [(tP 24)]),
 mV 4 25])
  (.ret)) (.seq (.region [oN 27 (.bin .eql (tP 5) (.con (.int .u8 110))),
 mV 26 27])
  (.cond (tP 26) (.seq (.region [oN 28 (.faddr 5 (tP 2)),
 lD 29 28,
 oN 30 (.pcall 67 [(tP 29)]),
 mV 4 30])
  (.ret)) (.seq (.region [oN 32 (.bin .eql (tP 5) (.con (.int .u8 109))),
 mV 31 32])
  (.cond (tP 31) (.seq (.region [oN 33 (.faddr 6 (tP 2)),
 lD 34 33,
 oN 35 (.pcall 67 [(tP 34)]),
 mV 4 35])
  (.ret)) (.seq (.region [oN 37 (.bin .eql (tP 5) (.con (.int .u8 111))),
 mV 36 37])
  (.cond (tP 36) (.seq (.region [oN 38 (.faddr 4 (tP 2)),
 lD 39 38,
 oN 40 (.pcall 68 [(tP 39)]),
 mV 4 40])
  (.ret)) (.seq (.region [oN 42 (.bin .eql (tP 5) (.con (.int .u8 116))),
 mV 41 42])
  (.cond (tP 41) (.seq (.region [oN 43 (.faddr 7 (tP 2)),
 lD 44 43,
 oN 45 (.pcall 69 [(tP 44)]),
 mV 4 45])
  (.ret)) (.seq (.region [oN 47 (.bin .eql (tP 5) (.con (.int .u8 99))),
 mV 46 47])
  (.cond (tP 46) (.seq (.region [oN 48 (.faddr 8 (tP 2)),
 lD 49 48,
 mV 4 49])
  (.ret)) (.skip)))))))))))))))))))))
  (.seq (.seq (.region [oN 50 (.faddr 10 (tP 2)),
 lD 51 50])
  (.cond (tP 51) (.seq (.region [oN 4 (.mov (.con (.str ⟨#[119]⟩)))])
  (.ret)) (.skip)))
  (.seq (.region [oN 4 (.mov (.con (.str ⟨#[114]⟩)))])
  (.ret)))),
  [.tmp 4]⟩
theorem qh : IsFn Tryz.prog 28 aX := ah [([], []), ([], []), ([], []), ([], [2]), ([], []), ([], []), ([], [2]), ([], []), ([], []), ([], [2]), ([], []), ([], []), ([], [2]), ([], []), ([], []), ([], [2]), ([], []), ([], []), ([], [2]), ([], []), ([], []), ([], [2]), ([], []), ([], []), ([], [2]), ([], []), ([], []), ([], []), ([], []), ([], []), ([], []), ([], []), ([], []), ([], [])] (by kernel_rfl)
theorem pC : cW Tryz.prog 29 (.prim cU) := G3 (⟨Tryz.f29, Tryz.func29, by kernel_rfl, by kernel_rfl⟩ : dx Tryz.prog 29) (fun a c sep w => Tryz.strings_Join_none a c sep w) (fun bk o c xs sep w h1 h2 h3 h4 h5 => Tryz.strings_Join bk o c xs sep w h1 h2 h3 h4 h5)
def dO : CC := .seq (.kill [173, 174] (.region [mV 181 4,
 mV 182 181,
 oG 183 (.faddr 5 (tP 1)) 182 true,
 oG 184 (.load none (tP 183)) 182 true,
 oG 185 (.bin .eql (tP 184) (.con (.int .i64 0))) 182 true,
 oG 186 (.mov (tP 185)) 182 true,
 oG 187 (.mov (tP 3)) 186 false,
 oG 188 (.pcall 73 [(tP 187), (.con (.int .u8 100))]) 186 false,
 oG 189 (.pick (tP 186) (.con (.bool true)) (tP 188)) 182 true,
 oN 190 (.pick (tP 182) (tP 189) (.con (.bool false))),
 mV 2 190]))
  (.ret)
abbrev jj : List Nat := [173, 174]
abbrev jk (v1 v3 v4 v5 v157 v158 v159 v160 v161 v162 : AV) : List AV := [.any, v1, .any, v3, v4, v5, .any, .any, .any, .any, .any, .any, .any, .any, .any, .any, .any, .any, .any, .any, .any, .any, .any, .any, .any, .any, .any, .any, .any, .any, .any, .any, .any, .any, .any, .any, .any, .any, .any, .any, .any, .any, .any, .any, .any, .any, .any, .any, .any, .any, .any, .any, .any, .any, .any, .any, .any, .any, .any, .any, .any, .any, .any, .any, .any, .any, .any, .any, .any, .any, .any, .any, .any, .any, .any, .any, .any, .any, .any, .any, .any, .any, .any, .any, .any, .any, .any, .any, .any, .any, .any, .any, .any, .any, .any, .any, .any, .any, .any, .any, .any, .any, .any, .any, .any, .any, .any, .any, .any, .any, .any, .any, .any, .any, .any, .any, .any, .any, .any, .any, .any, .any, .any, .any, .any, .any, .any, .any, .any, .any, .any, .any, .any, .any, .any, .any, .any, .any, .any, .any, .any, .any, .any, .any, .any, .any, .any, .any, .any, .any, .any, .any, .any, .any, .any, .any, .any, v157, v158, v159, v160, v161, v162, .any, .any, .any, .any, .any, .any, .any, .any, .any, .any, .any, .any, aa, aa, aa, aa, aa, aa, aa, aa, aa, aa, aa, aa, aa, aa, aa, aa]
def cH : CC := .seq (.seq (.kill Hh (.region [mV 173 3,
 oN 174 (.pcall 73 [(tP 173), (.con (.int .u8 110))])]))
  (.cond (tP 174) (.seq (.kill [3, 173, 174] (.region [mV 175 4,
 mV 176 175,
 oG 177 (.faddr 5 (tP 1)) 176 true,
 oG 178 (.load none (tP 177)) 176 true,
 oG 179 (.bin .geq (tP 178) (.con (.int .i64 0))) 176 true,
 oN 180 (.pick (tP 176) (tP 179) (.con (.bool false))),
 mV 2 180]))
  (.ret)) (.skip)))
  (dO)
abbrev jl : List Nat := Hh
abbrev jm (v1 v3 v4 v5 v157 v158 v159 v160 v161 v162 : AV) : List AV := [.any, v1, .any, v3, v4, v5, .any, .any, .any, .any, .any, .any, .any, .any, .any, .any, .any, .any, .any, .any, .any, .any, .any, .any, .any, .any, .any, .any, .any, .any, .any, .any, .any, .any, .any, .any, .any, .any, .any, .any, .any, .any, .any, .any, .any, .any, .any, .any, .any, .any, .any, .any, .any, .any, .any, .any, .any, .any, .any, .any, .any, .any, .any, .any, .any, .any, .any, .any, .any, .any, .any, .any, .any, .any, .any, .any, .any, .any, .any, .any, .any, .any, .any, .any, .any, .any, .any, .any, .any, .any, .any, .any, .any, .any, .any, .any, .any, .any, .any, .any, .any, .any, .any, .any, .any, .any, .any, .any, .any, .any, .any, .any, .any, .any, .any, .any, .any, .any, .any, .any, .any, .any, .any, .any, .any, .any, .any, .any, .any, .any, .any, .any, .any, .any, .any, .any, .any, .any, .any, .any, .any, .any, .any, .any, .any, .any, .any, .any, .any, .any, .any, .any, .any, .any, .any, .any, .any, v157, v158, v159, v160, v161, v162, .any, .any, .any, .any, .any, .any, .any, .any, .any, .any, aa, aa, aa, aa, aa, aa, aa, aa, aa, aa, aa, aa, aa, aa, aa, aa, aa, aa]
def cI : CC := .seq (.seq (.kill Hi (.region [mV 155 3,
 oN 156 (.pcall 73 [(tP 155), (.con (.int .u8 99))])]))
  (.cond (tP 156) (.seq (.kill [155, 156] (.region [oN 158 (.faddr 8 (tP 1)),
 lD 159 158,
 oN 160 (.pcall 54 [(tP 159)]),
 oN 157 (.take (tP 160)),
 oN 161 (.extract 157 0),
 oN 162 (.extract 157 1),
 oN 5 (.alloc [.sl .ex [], .int .i64 0]),
 ⟨none, .store 2 (tP 5) (tP 161), none⟩,
 mV 6 162]))
  (.kill [5, 157, 158, 159, 160, 161, 162] (.region [mV 163 4,
 mV 164 163,
 oG 165 (.mov (tP 6)) 164 true,
 oN 166 (.pick (tP 164) (tP 165) (.con (.bool false))),
 mV 4 166]))) (.kill [155, 156] (.region [mV 167 4,
 mV 168 167,
 oG 169 (.faddr 8 (tP 1)) 168 true,
 oG 170 (.load none (tP 169)) 168 true,
 oG 171 (.bin .eql (tP 170) (.con (.str ⟨#[]⟩))) 168 true,
 oN 172 (.pick (tP 168) (tP 171) (.con (.bool false))),
 mV 4 172]))))
  (cH)
abbrev jn : List Nat := Hi
abbrev jo (v1 v3 v4 : AV) : List AV := [.any, v1, .any, v3, v4, aa, aa, .any, .any, .any, .any, .any, .any, .any, .any, .any, .any, .any, .any, .any, .any, .any, .any, .any, .any, .any, .any, .any, .any, .any, .any, .any, .any, .any, .any, .any, .any, .any, .any, .any, .any, .any, .any, .any, .any, .any, .any, .any, .any, .any, .any, .any, .any, .any, .any, .any, .any, .any, .any, .any, .any, .any, .any, .any, .any, .any, .any, .any, .any, .any, .any, .any, .any, .any, .any, .any, .any, .any, .any, .any, .any, .any, .any, .any, .any, .any, .any, .any, .any, .any, .any, .any, .any, .any, .any, .any, .any, .any, .any, .any, .any, .any, .any, .any, .any, .any, .any, .any, .any, .any, .any, .any, .any, .any, .any, .any, .any, .any, .any, .any, .any, .any, .any, .any, .any, .any, .any, .any, .any, .any, .any, .any, .any, .any, .any, .any, .any, .any, .any, .any, .any, .any, .any, .any, .any, .any, .any, .any, .any, .any, .any, .any, .any, .any, .any, aa, aa, aa, aa, aa, aa, aa, aa, aa, aa, aa, aa, aa, aa, aa, aa, aa, aa, aa, aa, aa, aa, aa, aa, aa, aa, aa, aa, aa, aa, aa, aa, aa, aa, aa, aa]
def dP : CC := .seq (.kill Hj (.region [mV 135 4,
 mV 136 135,
 oG 137 (.faddr 10 (tP 1)) 136 true,
 oG 138 (.load none (tP 137)) 136 true,
 oG 139 (.un .not (tP 138)) 136 true,
 oG 140 (.mov (tP 139)) 136 true,
 oG 141 (.mov (tP 3)) 140 false,
 oG 142 (.pcall 73 [(tP 141), (.con (.int .u8 119))]) 140 false,
 oG 143 (.pick (tP 140) (.con (.bool true)) (tP 142)) 136 true,
 oN 144 (.pick (tP 136) (tP 143) (.con (.bool false))),
 mV 145 144,
 oG 146 (.faddr 5 (tP 1)) 145 true,
 oG 147 (.load none (tP 146)) 145 true,
 oG 148 (.bin .leq (tP 147) (.con (.int .i64 1048576))) 145 true,
 oN 149 (.pick (tP 145) (tP 148) (.con (.bool false))),
 mV 150 149,
 oG 151 (.faddr 5 (tP 1)) 150 true,
 oG 152 (.load none (tP 151)) 150 true,
 oG 153 (.bin .geq (tP 152) (.con (.int .i64 (-1048576)))) 150 true,
 oN 154 (.pick (tP 150) (tP 153) (.con (.bool false))),
 mV 4 154]))
  (cI)
abbrev jq : List Nat := Hj
abbrev jr (v1 v3 v4 : AV) : List AV := [.any, v1, .any, v3, v4, aa, aa, .any, .any, .any, .any, .any, .any, .any, .any, .any, .any, .any, .any, .any, .any, .any, .any, .any, .any, .any, .any, .any, .any, .any, .any, .any, .any, .any, .any, .any, .any, .any, .any, .any, .any, .any, .any, .any, .any, .any, .any, .any, .any, .any, .any, .any, .any, .any, .any, .any, .any, .any, .any, .any, .any, .any, .any, .any, .any, .any, .any, .any, .any, .any, .any, .any, .any, .any, .any, .any, .any, .any, .any, .any, .any, .any, .any, .any, .any, .any, .any, .any, .any, .any, .any, .any, .any, .any, .any, .any, .any, .any, .any, .any, .any, .any, .any, .any, .any, .any, .any, .any, .any, .any, .any, .any, .any, .any, .any, .any, .any, .any, .any, .any, .any, .any, .any, .any, .any, .any, .any, .any, .any, .any, .any, .any, .any, .any, .any, aa, aa, aa, aa, aa, aa, aa, aa, aa, aa, aa, aa, aa, aa, aa, aa, aa, aa, aa, aa, aa, aa, aa, aa, aa, aa, aa, aa, aa, aa, aa, aa, aa, aa, aa, aa, aa, aa, aa, aa, aa, aa, aa, aa, aa, aa, aa, aa, aa, aa, aa, aa, aa, aa, aa, aa]
def dZ : CC := .seq (.kill Hk (.region [mV 115 4,
 mV 116 115,
 oG 117 (.faddr 6 (tP 1)) 116 true,
 oG 118 (.load none (tP 117)) 116 true,
 oG 119 (.bin .eql (tP 118) (.con (.int .i64 0))) 116 true,
 oG 120 (.mov (tP 119)) 116 true,
 oG 121 (.mov (tP 3)) 120 false,
 oG 122 (.pcall 73 [(tP 121), (.con (.int .u8 109))]) 120 false,
 oG 123 (.pick (tP 120) (.con (.bool true)) (tP 122)) 116 true,
 oN 124 (.pick (tP 116) (tP 123) (.con (.bool false))),
 mV 125 124,
 oG 126 (.faddr 6 (tP 1)) 125 true,
 oG 127 (.load none (tP 126)) 125 true,
 oG 128 (.bin .geq (tP 127) (.con (.int .i64 0))) 125 true,
 oN 129 (.pick (tP 125) (tP 128) (.con (.bool false))),
 mV 130 129,
 oG 131 (.faddr 6 (tP 1)) 130 true,
 oG 132 (.load none (tP 131)) 130 true,
 oG 133 (.bin .leq (tP 132) (.con (.int .i64 1048576))) 130 true,
 oN 134 (.pick (tP 130) (tP 133) (.con (.bool false))),
 mV 4 134]))
  (dP)
abbrev jJ : List Nat := Hk
abbrev jK (v1 v3 v4 : AV) : List AV := [.any, v1, .any, v3, v4, aa, aa, .any, .any, .any, .any, .any, .any, .any, .any, .any, .any, .any, .any, .any, .any, .any, .any, .any, .any, .any, .any, .any, .any, .any, .any, .any, .any, .any, .any, .any, .any, .any, .any, .any, .any, .any, .any, .any, .any, .any, .any, .any, .any, .any, .any, .any, .any, .any, .any, .any, .any, .any, .any, .any, .any, .any, .any, .any, .any, .any, .any, .any, .any, .any, .any, .any, .any, .any, .any, .any, .any, .any, .any, .any, .any, .any, .any, .any, .any, .any, .any, .any, .any, .any, .any, .any, .any, .any, .any, .any, .any, .any, .any, .any, .any, .any, .any, .any, .any, .any, .any, .any, .any, .any, .any, .any, .any, .any, .any, aa, aa, aa, aa, aa, aa, aa, aa, aa, aa, aa, aa, aa, aa, aa, aa, aa, aa, aa, aa, aa, aa, aa, aa, aa, aa, aa, aa, aa, aa, aa, aa, aa, aa, aa, aa, aa, aa, aa, aa, aa, aa, aa, aa, aa, aa, aa, aa, aa, aa, aa, aa, aa, aa, aa, aa, aa, aa, aa, aa, aa, aa, aa, aa, aa, aa, aa, aa, aa, aa, aa, aa, aa, aa, aa, aa]
def ea : CC := .seq (.kill AD (.region [mV 98 4,
 mV 99 98,
 oG 100 (.faddr 7 (tP 1)) 99 true,
 oG 101 (.load none (tP 100)) 99 true,
 oG 102 (.lenl (tP 101)) 99 true,
 oG 103 (.bin .eql (tP 102) (.con (.int .i64 0))) 99 true,
 oG 104 (.mov (tP 103)) 99 true,
 oG 105 (.mov (tP 3)) 104 false,
 oG 106 (.pcall 73 [(tP 105), (.con (.int .u8 116))]) 104 false,
 oG 107 (.pick (tP 104) (.con (.bool true)) (tP 106)) 99 true,
 oN 108 (.pick (tP 99) (tP 107) (.con (.bool false))),
 mV 109 108,
 oG 110 (.faddr 7 (tP 1)) 109 true,
 oG 111 (.load none (tP 110)) 109 true,
 oG 112 (.lenl (tP 111)) 109 true,
 oG 113 (.bin .leq (tP 112) (.con (.int .i64 256))) 109 true,
 oN 114 (.pick (tP 109) (tP 113) (.con (.bool false))),
 mV 4 114]))
  (dZ)
abbrev jL : List Nat := AD
abbrev jM (v1 v3 v4 : AV) : List AV := [.any, v1, .any, v3, v4, aa, aa, .any, .any, .any, .any, .any, .any, .any, .any, .any, .any, .any, .any, .any, .any, .any, .any, .any, .any, .any, .any, .any, .any, .any, .any, .any, .any, .any, .any, .any, .any, .any, .any, .any, .any, .any, .any, .any, .any, .any, .any, .any, .any, .any, .any, .any, .any, .any, .any, .any, .any, .any, .any, .any, .any, .any, .any, .any, .any, .any, .any, .any, .any, .any, .any, .any, .any, .any, .any, .any, .any, .any, .any, .any, .any, .any, .any, .any, .any, .any, .any, .any, .any, .any, .any, .any, .any, .any, .any, .any, .any, .any, aa, aa, aa, aa, aa, aa, aa, aa, aa, aa, aa, aa, aa, aa, aa, aa, aa, aa, aa, aa, aa, aa, aa, aa, aa, aa, aa, aa, aa, aa, aa, aa, aa, aa, aa, aa, aa, aa, aa, aa, aa, aa, aa, aa, aa, aa, aa, aa, aa, aa, aa, aa, aa, aa, aa, aa, aa, aa, aa, aa, aa, aa, aa, aa, aa, aa, aa, aa, aa, aa, aa, aa, aa, aa, aa, aa, aa, aa, aa, aa, aa, aa, aa, aa, aa, aa, aa, aa, aa, aa, aa, aa, aa]
def ec : CC := .seq (.kill AE (.region [mV 82 4,
 mV 83 82,
 oG 84 (.faddr 9 (tP 1)) 83 true,
 oG 85 (.load none (tP 84)) 83 true,
 oG 86 (.lenl (tP 85)) 83 true,
 oG 87 (.bin .eql (tP 86) (.con (.int .i64 0))) 83 true,
 oG 88 (.mov (tP 87)) 83 true,
 oG 89 (.mov (tP 3)) 88 false,
 oG 90 (.pcall 73 [(tP 89), (.con (.int .u8 115))]) 88 false,
 oG 91 (.pick (tP 88) (.con (.bool true)) (tP 90)) 83 true,
 oN 92 (.pick (tP 83) (tP 91) (.con (.bool false))),
 mV 93 92,
 oG 94 (.faddr 9 (tP 1)) 93 true,
 oG 95 (.load none (tP 94)) 93 true,
 oG 96 (.pcall 74 [(tP 95)]) 93 true,
 oN 97 (.pick (tP 93) (tP 96) (.con (.bool false))),
 mV 4 97]))
  (ea)
abbrev jN : List Nat := AE
abbrev jO (v1 v3 v4 : AV) : List AV := [.any, v1, .any, v3, v4, aa, aa, .any, .any, .any, .any, .any, .any, .any, .any, .any, .any, .any, .any, .any, .any, .any, .any, .any, .any, .any, .any, .any, .any, .any, .any, .any, .any, .any, .any, .any, .any, .any, .any, .any, .any, .any, .any, .any, .any, .any, .any, .any, .any, .any, .any, .any, .any, .any, .any, .any, .any, .any, .any, .any, .any, .any, .any, .any, .any, .any, .any, .any, .any, .any, .any, .any, .any, .any, .any, .any, .any, .any, .any, .any, .any, .any, aa, aa, aa, aa, aa, aa, aa, aa, aa, aa, aa, aa, aa, aa, aa, aa, aa, aa, aa, aa, aa, aa, aa, aa, aa, aa, aa, aa, aa, aa, aa, aa, aa, aa, aa, aa, aa, aa, aa, aa, aa, aa, aa, aa, aa, aa, aa, aa, aa, aa, aa, aa, aa, aa, aa, aa, aa, aa, aa, aa, aa, aa, aa, aa, aa, aa, aa, aa, aa, aa, aa, aa, aa, aa, aa, aa, aa, aa, aa, aa, aa, aa, aa, aa, aa, aa, aa, aa, aa, aa, aa, aa, aa, aa, aa, aa, aa, aa, aa, aa, aa, aa, aa, aa, aa, aa, aa, aa, aa]
def ed : CC := .seq (.kill AF (.region [mV 66 4,
 mV 67 66,
 oG 68 (.faddr 4 (tP 1)) 67 true,
 oG 69 (.load none (tP 68)) 67 true,
 oG 70 (.lenl (tP 69)) 67 true,
 oG 71 (.bin .eql (tP 70) (.con (.int .i64 0))) 67 true,
 oG 72 (.mov (tP 71)) 67 true,
 oG 73 (.mov (tP 3)) 72 false,
 oG 74 (.pcall 73 [(tP 73), (.con (.int .u8 111))]) 72 false,
 oG 75 (.pick (tP 72) (.con (.bool true)) (tP 74)) 67 true,
 oN 76 (.pick (tP 67) (tP 75) (.con (.bool false))),
 mV 77 76,
 oG 78 (.faddr 4 (tP 1)) 77 true,
 oG 79 (.load none (tP 78)) 77 true,
 oG 80 (.pcall 62 [(tP 79)]) 77 true,
 oN 81 (.pick (tP 77) (tP 80) (.con (.bool false))),
 mV 4 81]))
  (ec)
abbrev jP : List Nat := AF
abbrev jQ (v1 v3 v4 : AV) : List AV := [.any, v1, .any, v3, v4, aa, aa, .any, .any, .any, .any, .any, .any, .any, .any, .any, .any, .any, .any, .any, .any, .any, .any, .any, .any, .any, .any, .any, .any, .any, .any, .any, .any, .any, .any, .any, .any, .any, .any, .any, .any, .any, .any, .any, .any, .any, .any, .any, .any, .any, .any, .any, .any, .any, .any, .any, .any, .any, .any, .any, .any, .any, .any, .any, .any, .any, aa, aa, aa, aa, aa, aa, aa, aa, aa, aa, aa, aa, aa, aa, aa, aa, aa, aa, aa, aa, aa, aa, aa, aa, aa, aa, aa, aa, aa, aa, aa, aa, aa, aa, aa, aa, aa, aa, aa, aa, aa, aa, aa, aa, aa, aa, aa, aa, aa, aa, aa, aa, aa, aa, aa, aa, aa, aa, aa, aa, aa, aa, aa, aa, aa, aa, aa, aa, aa, aa, aa, aa, aa, aa, aa, aa, aa, aa, aa, aa, aa, aa, aa, aa, aa, aa, aa, aa, aa, aa, aa, aa, aa, aa, aa, aa, aa, aa, aa, aa, aa, aa, aa, aa, aa, aa, aa, aa, aa, aa, aa, aa, aa, aa, aa, aa, aa, aa, aa, aa, aa, aa, aa, aa, aa]
def eg : CC := .seq (.kill AG (.region [mV 50 4,
 mV 51 50,
 oG 52 (.faddr 3 (tP 1)) 51 true,
 oG 53 (.load none (tP 52)) 51 true,
 oG 54 (.lenl (tP 53)) 51 true,
 oG 55 (.bin .eql (tP 54) (.con (.int .i64 0))) 51 true,
 oG 56 (.mov (tP 55)) 51 true,
 oG 57 (.mov (tP 3)) 56 false,
 oG 58 (.pcall 73 [(tP 57), (.con (.int .u8 101))]) 56 false,
 oG 59 (.pick (tP 56) (.con (.bool true)) (tP 58)) 51 true,
 oN 60 (.pick (tP 51) (tP 59) (.con (.bool false))),
 mV 61 60,
 oG 62 (.faddr 3 (tP 1)) 61 true,
 oG 63 (.load none (tP 62)) 61 true,
 oG 64 (.pcall 60 [(tP 63)]) 61 true,
 oN 65 (.pick (tP 61) (tP 64) (.con (.bool false))),
 mV 4 65]))
  (ed)
abbrev jR : List Nat := AG
abbrev jS (v1 v3 v4 : AV) : List AV := [.any, v1, .any, v3, v4, aa, aa, .any, .any, .any, .any, .any, .any, .any, .any, .any, .any, .any, .any, .any, .any, .any, .any, .any, .any, .any, .any, .any, .any, .any, .any, .any, .any, .any, .any, .any, .any, .any, .any, .any, .any, .any, .any, .any, .any, .any, .any, .any, .any, .any, aa, aa, aa, aa, aa, aa, aa, aa, aa, aa, aa, aa, aa, aa, aa, aa, aa, aa, aa, aa, aa, aa, aa, aa, aa, aa, aa, aa, aa, aa, aa, aa, aa, aa, aa, aa, aa, aa, aa, aa, aa, aa, aa, aa, aa, aa, aa, aa, aa, aa, aa, aa, aa, aa, aa, aa, aa, aa, aa, aa, aa, aa, aa, aa, aa, aa, aa, aa, aa, aa, aa, aa, aa, aa, aa, aa, aa, aa, aa, aa, aa, aa, aa, aa, aa, aa, aa, aa, aa, aa, aa, aa, aa, aa, aa, aa, aa, aa, aa, aa, aa, aa, aa, aa, aa, aa, aa, aa, aa, aa, aa, aa, aa, aa, aa, aa, aa, aa, aa, aa, aa, aa, aa, aa, aa, aa, aa, aa, aa, aa, aa, aa, aa, aa, aa, aa, aa, aa, aa, aa, aa]
def ei : CC := .seq (.kill AJ (.region [mV 34 4,
 mV 35 34,
 oG 36 (.faddr 2 (tP 1)) 35 true,
 oG 37 (.load none (tP 36)) 35 true,
 oG 38 (.lenl (tP 37)) 35 true,
 oG 39 (.bin .eql (tP 38) (.con (.int .i64 0))) 35 true,
 oG 40 (.mov (tP 39)) 35 true,
 oG 41 (.mov (tP 3)) 40 false,
 oG 42 (.pcall 73 [(tP 41), (.con (.int .u8 108))]) 40 false,
 oG 43 (.pick (tP 40) (.con (.bool true)) (tP 42)) 35 true,
 oN 44 (.pick (tP 35) (tP 43) (.con (.bool false))),
 mV 45 44,
 oG 46 (.faddr 2 (tP 1)) 45 true,
 oG 47 (.load none (tP 46)) 45 true,
 oG 48 (.pcall 60 [(tP 47)]) 45 true,
 oN 49 (.pick (tP 45) (tP 48) (.con (.bool false))),
 mV 4 49]))
  (eg)
abbrev jT : List Nat := AJ
abbrev jU (v1 v3 v4 : AV) : List AV := [.any, v1, .any, v3, v4, aa, aa, .any, .any, .any, .any, .any, .any, .any, .any, .any, .any, .any, .any, .any, .any, .any, .any, .any, .any, .any, .any, .any, .any, .any, .any, .any, .any, .any, aa, aa, aa, aa, aa, aa, aa, aa, aa, aa, aa, aa, aa, aa, aa, aa, aa, aa, aa, aa, aa, aa, aa, aa, aa, aa, aa, aa, aa, aa, aa, aa, aa, aa, aa, aa, aa, aa, aa, aa, aa, aa, aa, aa, aa, aa, aa, aa, aa, aa, aa, aa, aa, aa, aa, aa, aa, aa, aa, aa, aa, aa, aa, aa, aa, aa, aa, aa, aa, aa, aa, aa, aa, aa, aa, aa, aa, aa, aa, aa, aa, aa, aa, aa, aa, aa, aa, aa, aa, aa, aa, aa, aa, aa, aa, aa, aa, aa, aa, aa, aa, aa, aa, aa, aa, aa, aa, aa, aa, aa, aa, aa, aa, aa, aa, aa, aa, aa, aa, aa, aa, aa, aa, aa, aa, aa, aa, aa, aa, aa, aa, aa, aa, aa, aa, aa, aa, aa, aa, aa, aa, aa, aa, aa, aa, aa, aa, aa, aa, aa, aa, aa, aa, aa, aa, aa, aa]
def ej : CC := .seq (.kill AK (.region [mV 18 4,
 mV 19 18,
 oG 20 (.faddr 1 (tP 1)) 19 true,
 oG 21 (.load none (tP 20)) 19 true,
 oG 22 (.lenl (tP 21)) 19 true,
 oG 23 (.bin .eql (tP 22) (.con (.int .i64 0))) 19 true,
 oG 24 (.mov (tP 23)) 19 true,
 oG 25 (.mov (tP 3)) 24 false,
 oG 26 (.pcall 73 [(tP 25), (.con (.int .u8 97))]) 24 false,
 oG 27 (.pick (tP 24) (.con (.bool true)) (tP 26)) 19 true,
 oN 28 (.pick (tP 19) (tP 27) (.con (.bool false))),
 mV 29 28,
 oG 30 (.faddr 1 (tP 1)) 29 true,
 oG 31 (.load none (tP 30)) 29 true,
 oG 32 (.pcall 74 [(tP 31)]) 29 true,
 oN 33 (.pick (tP 29) (tP 32) (.con (.bool false))),
 mV 4 33]))
  (ei)
abbrev jV : List Nat := AK
abbrev jW (v1 v3 v4 : AV) : List AV := [.any, v1, .any, v3, v4, aa, aa, .any, .any, .any, .any, .any, .any, .any, .any, .any, .any, .any, aa, aa, aa, aa, aa, aa, aa, aa, aa, aa, aa, aa, aa, aa, aa, aa, aa, aa, aa, aa, aa, aa, aa, aa, aa, aa, aa, aa, aa, aa, aa, aa, aa, aa, aa, aa, aa, aa, aa, aa, aa, aa, aa, aa, aa, aa, aa, aa, aa, aa, aa, aa, aa, aa, aa, aa, aa, aa, aa, aa, aa, aa, aa, aa, aa, aa, aa, aa, aa, aa, aa, aa, aa, aa, aa, aa, aa, aa, aa, aa, aa, aa, aa, aa, aa, aa, aa, aa, aa, aa, aa, aa, aa, aa, aa, aa, aa, aa, aa, aa, aa, aa, aa, aa, aa, aa, aa, aa, aa, aa, aa, aa, aa, aa, aa, aa, aa, aa, aa, aa, aa, aa, aa, aa, aa, aa, aa, aa, aa, aa, aa, aa, aa, aa, aa, aa, aa, aa, aa, aa, aa, aa, aa, aa, aa, aa, aa, aa, aa, aa, aa, aa, aa, aa, aa, aa, aa, aa, aa, aa, aa, aa, aa, aa, aa, aa, aa, aa, aa, aa, aa, aa, aa]
def fN : CC := .seq (.kill [7, 8, 9] (.region [oN 10 (.faddr 0 (tP 1)),
 lD 11 10,
 oN 12 (.bin .geq (tP 11) (.con (.int .i64 0))),
 mV 13 12,
 oG 14 (.faddr 0 (tP 1)) 13 true,
 oG 15 (.load none (tP 14)) 13 true,
 oG 16 (.bin .leq (tP 15) (.con (.int .i64 20))) 13 true,
 oN 17 (.pick (tP 13) (tP 16) (.con (.bool false))),
 mV 4 17]))
  (ej)
abbrev tc : List Nat := [7, 8, 9]
abbrev td (v1 v3 : AV) : List AV := [.any, v1, .any, v3, aa, aa, aa, .any, .any, .any, aa, aa, aa, aa, aa, aa, aa, aa, aa, aa, aa, aa, aa, aa, aa, aa, aa, aa, aa, aa, aa, aa, aa, aa, aa, aa, aa, aa, aa, aa, aa, aa, aa, aa, aa, aa, aa, aa, aa, aa, aa, aa, aa, aa, aa, aa, aa, aa, aa, aa, aa, aa, aa, aa, aa, aa, aa, aa, aa, aa, aa, aa, aa, aa, aa, aa, aa, aa, aa, aa, aa, aa, aa, aa, aa, aa, aa, aa, aa, aa, aa, aa, aa, aa, aa, aa, aa, aa, aa, aa, aa, aa, aa, aa, aa, aa, aa, aa, aa, aa, aa, aa, aa, aa, aa, aa, aa, aa, aa, aa, aa, aa, aa, aa, aa, aa, aa, aa, aa, aa, aa, aa, aa, aa, aa, aa, aa, aa, aa, aa, aa, aa, aa, aa, aa, aa, aa, aa, aa, aa, aa, aa, aa, aa, aa, aa, aa, aa, aa, aa, aa, aa, aa, aa, aa, aa, aa, aa, aa, aa, aa, aa, aa, aa, aa, aa, aa, aa, aa, aa, aa, aa, aa, aa, aa, aa, aa, aa, aa, aa, aa]
def fO : CC := .seq (.kill [0, 2] (.region [oN 7 (.faddr 0 (tP 1)),
 lD 8 7,
 oN 9 (.pcall 31 [(tP 8)]),
 mV 3 9]))
  (fN)
abbrev te : List Nat := [0, 2]
abbrev tf (v1 : AV) : List AV := [.any, v1, .any, aa, aa, aa, aa, aa, aa, aa, aa, aa, aa, aa, aa, aa, aa, aa, aa, aa, aa, aa, aa, aa, aa, aa, aa, aa, aa, aa, aa, aa, aa, aa, aa, aa, aa, aa, aa, aa, aa, aa, aa, aa, aa, aa, aa, aa, aa, aa, aa, aa, aa, aa, aa, aa, aa, aa, aa, aa, aa, aa, aa, aa, aa, aa, aa, aa, aa, aa, aa, aa, aa, aa, aa, aa, aa, aa, aa, aa, aa, aa, aa, aa, aa, aa, aa, aa, aa, aa, aa, aa, aa, aa, aa, aa, aa, aa, aa, aa, aa, aa, aa, aa, aa, aa, aa, aa, aa, aa, aa, aa, aa, aa, aa, aa, aa, aa, aa, aa, aa, aa, aa, aa, aa, aa, aa, aa, aa, aa, aa, aa, aa, aa, aa, aa, aa, aa, aa, aa, aa, aa, aa, aa, aa, aa, aa, aa, aa, aa, aa, aa, aa, aa, aa, aa, aa, aa, aa, aa, aa, aa, aa, aa, aa, aa, aa, aa, aa, aa, aa, aa, aa, aa, aa, aa, aa, aa, aa, aa, aa, aa, aa, aa, aa, aa, aa, aa, aa, aa, aa]
def cS : CC := .seq (.region [oN 1 (.box (tP 0)),
 oN 2 (.mov (.con (.bool false)))])
  (fO)
abbrev tg : List Nat := []
abbrev th (v0 : AV) : List AV := [v0, aa, aa, aa, aa, aa, aa, aa, aa, aa, aa, aa, aa, aa, aa, aa, aa, aa, aa, aa, aa, aa, aa, aa, aa, aa, aa, aa, aa, aa, aa, aa, aa, aa, aa, aa, aa, aa, aa, aa, aa, aa, aa, aa, aa, aa, aa, aa, aa, aa, aa, aa, aa, aa, aa, aa, aa, aa, aa, aa, aa, aa, aa, aa, aa, aa, aa, aa, aa, aa, aa, aa, aa, aa, aa, aa, aa, aa, aa, aa, aa, aa, aa, aa, aa, aa, aa, aa, aa, aa, aa, aa, aa, aa, aa, aa, aa, aa, aa, aa, aa, aa, aa, aa, aa, aa, aa, aa, aa, aa, aa, aa, aa, aa, aa, aa, aa, aa, aa, aa, aa, aa, aa, aa, aa, aa, aa, aa, aa, aa, aa, aa, aa, aa, aa, aa, aa, aa, aa, aa, aa, aa, aa, aa, aa, aa, aa, aa, aa, aa, aa, aa, aa, aa, aa, aa, aa, aa, aa, aa, aa, aa, aa, aa, aa, aa, aa, aa, aa, aa, aa, aa, aa, aa, aa, aa, aa, aa, aa, aa, aa, aa, aa, aa, aa, aa, aa, aa, aa, aa, aa]
def cC : CFn := ⟨191, cS,
 [.tmp 2]⟩
theorem kn : IsFn Tryz.prog 30 cC := ah [([], []), ([0, 2], [2]), ([7, 8, 9], []), (AK, [8, 14]), (AJ, [8, 14]), (AG, [8, 14]), (AF, [8, 14]), (AE, [8, 14]), (AD, [8]), (Hk, [7]), (Hj, [7]), (Hi, [1]), ([155, 156], [2, 3]), ([5, 157, 158, 159, 160, 161, 162], []), ([155, 156], []), (Hh, [1]), ([3, 173, 174], []), ([], []), ([173, 174], [7]), ([], [])] (by kernel_rfl)
def cD : CFn := ⟨13, .seq (.region [oN 2 (.mov (.con (.str ⟨#[]⟩)))])
  (.seq (.seq (.region [mV 3 0,
 oN 4 (.bin .lss (tP 3) (.con (.int .i64 0))),
 mV 5 4,
 oG 6 (.mov (tP 0)) 5 false,
 oG 7 (.bin .gtr (tP 6) (.con (.int .i64 20))) 5 false,
 oN 8 (.pick (tP 5) (.con (.bool true)) (tP 7))])
  (.cond (tP 8) (.seq (.region [oN 2 (.mov (.con (.str ⟨#[]⟩)))])
  (.ret)) (.skip)))
  (.seq (.region [oN 9 (.bslice 1 false [(.con (.str ⟨#[]⟩)), (.con (.str ⟨#[]⟩)), (.con (.str ⟨#[97, 108, 110, 109]⟩)), (.con (.str ⟨#[97, 108, 110]⟩)), (.con (.str ⟨#[97, 108, 110, 111]⟩)), (.con (.str ⟨#[97, 108, 110, 101, 111, 109]⟩)), (.con (.str ⟨#[97, 108, 110]⟩)), (.con (.str ⟨#[97, 110, 109]⟩)), (.con (.str ⟨#[97, 110, 116]⟩)), (.con (.str ⟨#[97, 110]⟩)), (.con (.str ⟨#[97]⟩)), (.con (.str ⟨#[97]⟩)), (.con (.str ⟨#[97]⟩)), (.con (.str ⟨#[97, 100]⟩)), (.con (.str ⟨#[108]⟩)), (.con (.str ⟨#[97]⟩)), (.con (.str ⟨#[99]⟩)), (.con (.str ⟨#[97, 110, 115, 119]⟩)), (.con (.str ⟨#[97, 110]⟩)), (.con (.str ⟨#[97, 110, 109]⟩)), (.con (.str ⟨#[97, 110, 116]⟩))]),
 mV 10 0,
 oN 11 (.iaddr 1 none (tP 9) (tP 10)),
 lD 12 11,
 mV 2 12])
  (.ret))),
  [.tmp 2]⟩
theorem ko : IsFn Tryz.prog 31 cD := ah [([], []), ([], []), ([], []), ([], []), ([], []), ([], [])] (by kernel_rfl)
abbrev ue (v3 v6 v7 v8 : AV) : List AV := [.any, aa, .any, v3, .any, .any, v6, v7, v8, .any, .any, .any, .any, .any, .any, .any, .any, .any, .any, .any, .any, .any, .any, .any, .any, .any, .any, aa, aa, aa]
abbrev uf (v3 : AV) : List AV := [.any, aa, .any, v3, .any, .any, .any, .any, .any, .any, .any, .any, .any, .any, .any, .any, .any, .any, .any, .any, .any, .any, .any, .any, .any, .any, .any, aa, aa, aa]
abbrev kq : CC := .kill AL (.seq (.region [oN 9 (.bin .lss (tP 8) (tP 7))])
  (.seq (.cond (tP 9) (.skip) (.kill [6, 7, 8, 9] (.exit 0)))
  (.seq (.block 1 (.seq (.region [mV 10 8,
 oN 11 (.iaddr 2 none (tP 6) (tP 8)),
 oN 12 (.load (some 2) (tP 11)),
 oN 5 (.alloc [.str ⟨#[]⟩, .int .i64 0]),
 mV 4 10,
 ⟨none, .store 2 (tP 5) (tP 12), none⟩])
  (.seq (.seq (.region [mV 13 4,
 oN 14 (.bin .gtr (tP 13) (.con (.int .i64 0)))])
  (.cond (tP 14) (.region [mV 15 3,
 oN 16 (.bin .add (tP 15) (.con (.str ⟨#[44]⟩))),
 mV 3 16]) (.skip)))
  (.region [mV 17 3,
 oN 18 (.faddr 0 (tP 5)),
 lD 19 18,
 oN 20 (.bin .add (tP 19) (.con (.str ⟨#[61]⟩))),
 oN 21 (.faddr 1 (tP 5)),
 lD 22 21,
 oN 23 (.pcall 34 [(tP 22)]),
 oN 24 (.bin .add (tP 20) (tP 23)),
 oN 25 (.bin .add (tP 17) (tP 24)),
 mV 3 25]))))
  (.region [oN 26 (.bin .add (tP 8) (.con (.int .i64 1))),
 mV 8 26]))))
def fc : CFn := ⟨30, .seq (.region [oN 2 (.mov (.con (.str ⟨#[]⟩)))])
  (.seq (.region [oN 3 (.mov (.con (.str ⟨#[]⟩)))])
  (.seq (.seq (.region [oN 6 (.take (tP 0)),
 oN 7 (.lenl (tP 6)),
 oN 8 (.mov (.con (.int .i64 0)))])
  (.block 0 (.kill AL (.loop kq))))
  (.seq (.seq (.region [mV 27 3,
 oN 28 (.bin .eql (tP 27) (.con (.str ⟨#[]⟩)))])
  (.cond (tP 28) (.seq (.region [oN 2 (.mov (.con (.str ⟨#[45]⟩)))])
  (.ret)) (.skip)))
  (.seq (.region [mV 29 3,
 mV 2 29])
  (.ret))))),
  [.tmp 2]⟩
theorem lu : IsFn Tryz.prog 33 fc := ah [([], []), ([], []), ([], [0]), (AL, []), ([], []), ([6, 7, 8, 9], []), ([], []), ([], []), ([], []), ([], [6]), ([], []), ([], []), ([], []), ([], []), ([], []), ([], [])] (by kernel_rfl)
def de : CFn := ⟨5, .seq (.region [oN 2 (.mov (.con (.str ⟨#[]⟩)))])
  (.seq (.region [mV 3 0,
 oN 4 (.pcall 76 [(tP 3)]),
 mV 2 4])
  (.ret)),
  [.tmp 2]⟩
theorem l4 : IsFn Tryz.prog 34 de := ah [([], []), ([], [1]), ([], [])] (by kernel_rfl)
def iE : CFn := ⟨9, .seq (.region [oN 2 (.mov (.con (.bool false)))])
  (.seq (.region [mV 3 0,
 oN 4 (.bin .geq (tP 3) (.con (.int .i64 0))),
 mV 5 4,
 oG 6 (.mov (tP 0)) 5 true,
 oG 7 (.bin .leq (tP 6) (.con (.int .i64 20))) 5 true,
 oN 8 (.pick (tP 5) (tP 7) (.con (.bool false))),
 mV 2 8])
  (.ret)),
  [.tmp 2]⟩
theorem sf : IsFn Tryz.prog 36 iE := ah [([], []), ([], []), ([], [])] (by kernel_rfl)
abbrev qi (v1 v2 v3 v11 v12 v13 : AV) : List AV := [.any, v1, v2, v3, aa, .any, .any, .any, .any, .any, .any, v11, v12, v13, .any, .any, .any, .any, .any, .any, .any, .any, .any, .any, .any, .any, .any, .any, .any, .any, .any, .any, .any, .any, .any, .any, .any, .any, .any, .any, .any, .any, .any, .any, .any, .any, .any, .any, .any, .any, .any, .any, .any, .any, .any, .any, .any, .any, .any, .any, .any, .any, .any, .any, .any, .any, .any, .any, .any, .any, .any, .any, .any, .any, .any, .any, aa]
abbrev qj (v2 v3 : AV) : List AV := [.any, .any, v2, v3, aa, .any, .any, .any, .any, .any, .any, .any, .any, .any, .any, .any, .any, .any, .any, .any, .any, .any, .any, .any, .any, .any, .any, .any, .any, .any, .any, .any, .any, .any, .any, .any, .any, .any, .any, .any, .any, .any, .any, .any, .any, .any, .any, .any, .any, .any, .any, .any, .any, .any, .any, .any, .any, .any, .any, .any, .any, .any, .any, .any, .any, .any, .any, .any, .any, .any, .any, .any, .any, .any, .any, .any, aa]
abbrev lQ : CC := .kill AM (.seq (.region [oN 14 (.bin .lss (tP 13) (tP 12))])
  (.seq (.cond (tP 14) (.skip) (.kill [1, 11, 12, 13, 14] (.exit 0)))
  (.seq (.block 1 (.seq (.region [oN 15 (.iaddr 1 none (tP 11) (tP 13)),
 lD 16 15,
 mV 5 16])
  (.seq (.region [mV 17 5])
  (.block 2 (.seq (.region [oN 19 (.bin .eql (tP 17) (.con (.int .i64 0))),
 mV 18 19])
  (.cond (tP 18) (.region [oN 20 (.faddr 1 (tP 1)),
 lD 21 20,
 oN 22 (.pcall 77 [(tP 21)]),
 oN 23 (.faddr 1 (tP 3)),
 ⟨none, .store 1 (tP 23) (tP 22), none⟩]) (.seq (.region [oN 25 (.bin .eql (tP 17) (.con (.int .i64 1))),
 mV 24 25])
  (.cond (tP 24) (.region [oN 26 (.faddr 2 (tP 1)),
 lD 27 26,
 oN 28 (.pcall 78 [(tP 27)]),
 oN 29 (.faddr 2 (tP 3)),
 ⟨none, .store 1 (tP 29) (tP 28), none⟩]) (.seq (.seq (.region [oN 31 (.bin .eql (tP 17) (.con (.int .i64 2))),
 mV 30 31])
  (.cond (tP 30) (.skip) (.region [oN 32 (.bin .eql (tP 17) (.con (.int .i64 10))),
 mV 30 32])))
  (.cond (tP 30) (.region [oN 33 (.faddr 5 (tP 1)),
 lD 34 33,
 oN 35 (.faddr 5 (tP 3)),
 ⟨none, .store 1 (tP 35) (tP 34), none⟩]) (.seq (.region [oN 37 (.bin .eql (tP 17) (.con (.int .i64 3))),
 mV 36 37])
  (.cond (tP 36) (.region [oN 38 (.faddr 6 (tP 1)),
 lD 39 38,
 oN 40 (.faddr 6 (tP 3)),
 ⟨none, .store 1 (tP 40) (tP 39), none⟩]) (.seq (.region [oN 42 (.bin .eql (tP 17) (.con (.int .i64 4))),
 mV 41 42])
  (.cond (tP 41) (.region [oN 43 (.faddr 3 (tP 1)),
 lD 44 43,
 oN 45 (.pcall 78 [(tP 44)]),
 oN 46 (.faddr 3 (tP 3)),
 ⟨none, .store 1 (tP 46) (tP 45), none⟩]) (.seq (.region [oN 48 (.bin .eql (tP 17) (.con (.int .i64 5))),
 mV 47 48])
  (.cond (tP 47) (.region [oN 49 (.faddr 4 (tP 1)),
 lD 50 49,
 oN 51 (.pcall 79 [(tP 50)]),
 oN 52 (.faddr 4 (tP 3)),
 ⟨none, .store 1 (tP 52) (tP 51), none⟩]) (.seq (.region [oN 54 (.bin .eql (tP 17) (.con (.int .i64 6))),
 mV 53 54])
  (.cond (tP 53) (.region [oN 55 (.faddr 7 (tP 1)),
 lD 56 55,
 oN 57 (.pcall 80 [(tP 56)]),
 oN 58 (.faddr 7 (tP 3)),
 ⟨none, .store 1 (tP 58) (tP 57), none⟩]) (.seq (.region [oN 60 (.bin .eql (tP 17) (.con (.int .i64 7))),
 mV 59 60])
  (.cond (tP 59) (.region [oN 61 (.faddr 8 (tP 1)),
 lD 62 61,
 oN 63 (.faddr 8 (tP 3)),
 ⟨none, .store 1 (tP 63) (tP 62), none⟩]) (.seq (.region [oN 65 (.bin .eql (tP 17) (.con (.int .i64 8))),
 mV 64 65])
  (.cond (tP 64) (.region [oN 66 (.faddr 9 (tP 1)),
 lD 67 66,
 oN 68 (.pcall 77 [(tP 67)]),
 oN 69 (.faddr 9 (tP 3)),
 ⟨none, .store 1 (tP 69) (tP 68), none⟩]) (.seq (.region [oN 71 (.bin .eql (tP 17) (.con (.int .i64 9))),
 mV 70 71])
  (.cond (tP 70) (.region [oN 72 (.faddr 10 (tP 1)),
 lD 73 72,
 oN 74 (.faddr 10 (tP 3)),
 ⟨none, .store 1 (tP 74) (tP 73), none⟩]) (.skip)))))))))))))))))))))))))
  (.region [oN 75 (.bin .add (tP 13) (.con (.int .i64 1))),
 mV 13 75]))))
def iF : CFn := ⟨77, .seq (.region [oN 1 (.box (tP 0)),
 oN 2 (.alloc [.int .i64 0, .sl .ex [], .sl .ex [], .sl .ex [], .sl .ex [], .int .i64 0, .int .i64 0, .sl .ex [], .str ⟨#[]⟩, .sl .ex [], .bool false])])
  (.seq (.region [oN 6 (.faddr 0 (tP 1)),
 lD 7 6,
 oN 8 (.build [.int .i64 0, .sl .ex [], .sl .ex [], .sl .ex [], .sl .ex [], .int .i64 0, .int .i64 0, .sl .ex [], .str ⟨#[]⟩, .sl .ex [], .bool false] [(0, 1, (tP 7))]),
 oN 3 (.alloc [.int .i64 0, .sl .ex [], .sl .ex [], .sl .ex [], .sl .ex [], .int .i64 0, .int .i64 0, .sl .ex [], .str ⟨#[]⟩, .sl .ex [], .bool false]),
 ⟨none, .store 11 (tP 3) (tP 8), none⟩])
  (.seq (.seq (.region [oN 9 (.faddr 0 (tP 1)),
 lD 10 9,
 oN 11 (.pcall 39 [(tP 10)]),
 oN 12 (.lenl (tP 11)),
 oN 13 (.mov (.con (.int .i64 0)))])
  (.block 0 (.kill AM (.loop lQ))))
  (.seq (.region [oN 76 (.load (some 11) (tP 3)),
 ⟨none, .store 11 (tP 2) (tP 76), none⟩])
  (.ret)))),
  [.cell 2 (some 11)]⟩
theorem sg : IsFn Tryz.prog 37 iF := ah [([], []), ([], []), ([], [2]), (AM, []), ([], []), ([1, 11, 12, 13, 14], []), ([], []), ([], []), ([], []), ([], [2]), ([], []), ([], [2]), ([], []), ([], []), ([], []), ([], []), ([], []), ([], []), ([], [2]), ([], []), ([], [2]), ([], []), ([], [2]), ([], []), ([], []), ([], []), ([], [2]), ([], []), ([], []), ([], []), ([], []), ([], [])] (by kernel_rfl)
def al : CFn := ⟨9, .seq (.region [oN 4 (.mov (.con (.bool false)))])
  (.seq (.region [oN 5 (.take (tP 0)),
 mV 6 1,
 oN 7 (.call 81 [(tP 5), (tP 6)]),
 oN 8 (.bin .geq (tP 7) (.con (.int .i64 0))),
 mV 4 8])
  (.ret)),
  [.tmp 4]⟩
theorem dV : IsFn Tryz.prog 38 al := ah [([], []), ([], [0]), ([], [])] (by kernel_rfl)
def iG : CFn := ⟨47, .seq (.region [oN 2 (.take (.con (.sl .ex [])))])
  (.seq (.seq (.region [mV 3 0])
  (.block 0 (.seq (.region [oN 5 (.bin .eql (tP 3) (.con (.int .i64 2))),
 mV 4 5])
  (.cond (tP 4) (.seq (.region [oN 6 (.bslice 1 false [(.con (.int .i64 0)), (.con (.int .i64 1)), (.con (.int .i64 2)), (.con (.int .i64 3))]),
 oN 2 (.take (tP 6))])
  (.ret)) (.seq (.seq (.region [oN 8 (.bin .eql (tP 3) (.con (.int .i64 3))),
 mV 7 8])
  (.cond (tP 7) (.skip) (.region [oN 9 (.bin .eql (tP 3) (.con (.int .i64 6))),
 mV 7 9])))
  (.cond (tP 7) (.seq (.region [oN 10 (.bslice 1 false [(.con (.int .i64 0)), (.con (.int .i64 1)), (.con (.int .i64 2))]),
 oN 2 (.take (tP 10))])
  (.ret)) (.seq (.region [oN 12 (.bin .eql (tP 3) (.con (.int .i64 4))),
 mV 11 12])
  (.cond (tP 11) (.seq (.region [oN 13 (.bslice 1 false [(.con (.int .i64 0)), (.con (.int .i64 1)), (.con (.int .i64 2)), (.con (.int .i64 5))]),
 oN 2 (.take (tP 13))])
  (.ret)) (.seq (.region [oN 15 (.bin .eql (tP 3) (.con (.int .i64 5))),
 mV 14 15])
  (.cond (tP 14) (.seq (.region [oN 16 (.bslice 1 false [(.con (.int .i64 0)), (.con (.int .i64 1)), (.con (.int .i64 2)), (.con (.int .i64 4)), (.con (.int .i64 5)), (.con (.int .i64 3))]),
 oN 2 (.take (tP 16))])
  (.ret)) (.seq (.seq (.region [oN 18 (.bin .eql (tP 3) (.con (.int .i64 7))),
 mV 17 18])
  (.cond (tP 17) (.skip) (.region [oN 19 (.bin .eql (tP 3) (.con (.int .i64 19))),
 mV 17 19])))
  (.cond (tP 17) (.seq (.region [oN 20 (.bslice 1 false [(.con (.int .i64 0)), (.con (.int .i64 2)), (.con (.int .i64 3))]),
 oN 2 (.take (tP 20))])
  (.ret)) (.seq (.seq (.region [oN 22 (.bin .eql (tP 3) (.con (.int .i64 8))),
 mV 21 22])
  (.cond (tP 21) (.skip) (.region [oN 23 (.bin .eql (tP 3) (.con (.int .i64 20))),
 mV 21 23])))
  (.cond (tP 21) (.seq (.region [oN 24 (.bslice 1 false [(.con (.int .i64 0)), (.con (.int .i64 2)), (.con (.int .i64 6))]),
 oN 2 (.take (tP 24))])
  (.ret)) (.seq (.seq (.region [oN 26 (.bin .eql (tP 3) (.con (.int .i64 9))),
 mV 25 26])
  (.cond (tP 25) (.skip) (.region [oN 27 (.bin .eql (tP 3) (.con (.int .i64 18))),
 mV 25 27])))
  (.cond (tP 25) (.seq (.region [oN 28 (.bslice 1 false [(.con (.int .i64 0)), (.con (.int .i64 2))]),
 oN 2 (.take (tP 28))])
  (.ret)) (.seq (.seq (.region [oN 30 (.bin .eql (tP 3) (.con (.int .i64 10))),
 mV 29 30])
  (.cond (tP 29) (.skip) (.seq (.region [oN 31 (.bin .eql (tP 3) (.con (.int .i64 11))),
 mV 29 31])
  (.cond (tP 29) (.skip) (.seq (.region [oN 32 (.bin .eql (tP 3) (.con (.int .i64 12))),
 mV 29 32])
  (.cond (tP 29) (.skip) (.region [oN 33 (.bin .eql (tP 3) (.con (.int .i64 15))),
 mV 29 33])))))))
  (.cond (tP 29) (.seq (.region [oN 34 (.bslice 1 false [(.con (.int .i64 0))]),
 oN 2 (.take (tP 34))])
  (.ret)) (.seq (.region [oN 36 (.bin .eql (tP 3) (.con (.int .i64 13))),
 mV 35 36])
  (.cond (tP 35) (.seq (.region [oN 37 (.bslice 1 false [(.con (.int .i64 0)), (.con (.int .i64 10))]),
 oN 2 (.take (tP 37))])
  (.ret)) (.seq (.region [oN 39 (.bin .eql (tP 3) (.con (.int .i64 14))),
 mV 38 39])
  (.cond (tP 38) (.seq (.region [oN 40 (.bslice 1 false [(.con (.int .i64 1))]),
 oN 2 (.take (tP 40))])
  (.ret)) (.seq (.region [oN 42 (.bin .eql (tP 3) (.con (.int .i64 16))),
 mV 41 42])
  (.cond (tP 41) (.seq (.region [oN 43 (.bslice 1 false [(.con (.int .i64 7))]),
 oN 2 (.take (tP 43))])
  (.ret)) (.seq (.region [oN 45 (.bin .eql (tP 3) (.con (.int .i64 17))),
 mV 44 45])
  (.cond (tP 44) (.seq (.region [oN 46 (.bslice 1 false [(.con (.int .i64 0)), (.con (.int .i64 2)), (.con (.int .i64 8)), (.con (.int .i64 9))]),
 oN 2 (.take (tP 46))])
  (.ret)) (.skip)))))))))))))))))))))))))))
  (.seq (.region [oN 2 (.take (.con (.sl .ex [])))])
  (.ret))),
  [.tmp 2]⟩
theorem si : IsFn Tryz.prog 39 iG := ah [([], [0]), ([], []), ([], []), ([], [1]), ([], []), ([], []), ([], []), ([], [1]), ([], []), ([], []), ([], [1]), ([], []), ([], []), ([], [1]), ([], []), ([], []), ([], []), ([], [1]), ([], []), ([], []), ([], []), ([], [1]), ([], []), ([], []), ([], []), ([], [1]), ([], []), ([], []), ([], []), ([], []), ([], []), ([], [1]), ([], []), ([], []), ([], [1]), ([], []), ([], []), ([], [1]), ([], []), ([], []), ([], [1]), ([], []), ([], []), ([], [1]), ([], []), ([], [0]), ([], [])] (by kernel_rfl)
def eV : CFn := ⟨8, .seq (.region [oN 3 (.mov (.con (.bool false)))])
  (.seq (.region [mV 4 0,
 oN 5 (.load (some 11) (tP 1)),
 oN 6 (.pcall 41 [(tP 4), (tP 5)]),
 oN 7 (.un .not (tP 6)),
 mV 3 7])
  (.ret)),
  [.tmp 3]⟩
theorem pD : IsFn Tryz.prog 40 eV := ah [([], []), ([], [2]), ([], [])] (by kernel_rfl)
def cM : CFn := ⟨62, .seq (.region [oN 3 (.box (tP 1)),
 oN 4 (.mov (.con (.bool false)))])
  (.seq (.seq (.region [mV 5 0])
  (.block 0 (.seq (.region [oN 7 (.bin .eql (tP 5) (.con (.int .i64 0))),
 mV 6 7])
  (.cond (tP 6) (.seq (.region [oN 8 (.faddr 1 (tP 3)),
 lD 9 8,
 oN 10 (.pcall 82 [(tP 9)]),
 mV 4 10])
  (.ret)) (.seq (.region [oN 12 (.bin .eql (tP 5) (.con (.int .i64 1))),
 mV 11 12])
  (.cond (tP 11) (.seq (.region [oN 13 (.faddr 2 (tP 3)),
 lD 14 13,
 oN 15 (.pcall 58 [(tP 14)]),
 mV 4 15])
  (.ret)) (.seq (.region [oN 17 (.bin .eql (tP 5) (.con (.int .i64 2))),
 mV 16 17])
  (.cond (tP 16) (.seq (.region [oN 18 (.faddr 5 (tP 3)),
 lD 19 18,
 oN 20 (.pcall 83 [(tP 19)]),
 mV 4 20])
  (.ret)) (.seq (.region [oN 22 (.bin .eql (tP 5) (.con (.int .i64 3))),
 mV 21 22])
  (.cond (tP 21) (.seq (.region [oN 23 (.faddr 6 (tP 3)),
 lD 24 23,
 oN 25 (.pcall 83 [(tP 24)]),
 mV 4 25])
  (.ret)) (.seq (.region [oN 27 (.bin .eql (tP 5) (.con (.int .i64 4))),
 mV 26 27])
  (.cond (tP 26) (.seq (.region [oN 28 (.faddr 3 (tP 3)),
 lD 29 28,
 oN 30 (.pcall 58 [(tP 29)]),
 mV 4 30])
  (.ret)) (.seq (.region [oN 32 (.bin .eql (tP 5) (.con (.int .i64 5))),
 mV 31 32])
  (.cond (tP 31) (.seq (.region [oN 33 (.faddr 4 (tP 3)),
 lD 34 33,
 oN 35 (.pcall 61 [(tP 34)]),
 mV 4 35])
  (.ret)) (.seq (.region [oN 37 (.bin .eql (tP 5) (.con (.int .i64 6))),
 mV 36 37])
  (.cond (tP 36) (.seq (.region [oN 38 (.faddr 7 (tP 3)),
 lD 39 38,
 oN 40 (.lenl (tP 39)),
 oN 41 (.bin .leq (tP 40) (.con (.int .i64 256))),
 mV 4 41])
  (.ret)) (.seq (.region [oN 43 (.bin .eql (tP 5) (.con (.int .i64 7))),
 mV 42 43])
  (.cond (tP 42) (.seq (.region [oN 44 (.faddr 8 (tP 3)),
 lD 45 44,
 oN 46 (.pcall 84 [(tP 45)]),
 mV 4 46])
  (.ret)) (.seq (.region [oN 48 (.bin .eql (tP 5) (.con (.int .i64 8))),
 mV 47 48])
  (.cond (tP 47) (.seq (.region [oN 49 (.faddr 9 (tP 3)),
 lD 50 49,
 oN 51 (.pcall 82 [(tP 50)]),
 mV 4 51])
  (.ret)) (.seq (.region [oN 53 (.bin .eql (tP 5) (.con (.int .i64 10))),
 mV 52 53])
  (.cond (tP 52) (.seq (.region [oN 54 (.faddr 5 (tP 3)),
 lD 55 54,
 oN 56 (.bin .geq (tP 55) (.con (.int .i64 (-1048576)))),
 mV 57 56,
 oG 58 (.faddr 5 (tP 3)) 57 true,
 oG 59 (.load none (tP 58)) 57 true,
 oG 60 (.bin .leq (tP 59) (.con (.int .i64 1048576))) 57 true,
 oN 61 (.pick (tP 57) (tP 60) (.con (.bool false))),
 mV 4 61])
  (.ret)) (.skip)))))))))))))))))))))))
  (.seq (.region [oN 4 (.mov (.con (.bool true)))])
  (.ret))),
  [.tmp 4]⟩
theorem mP : IsFn Tryz.prog 41 cM := ah [([], []), ([], []), ([], []), ([], [2]), ([], []), ([], []), ([], [2]), ([], []), ([], []), ([], [2]), ([], []), ([], []), ([], [2]), ([], []), ([], []), ([], [2]), ([], []), ([], []), ([], [2]), ([], []), ([], []), ([], []), ([], []), ([], []), ([], [2]), ([], []), ([], []), ([], [2]), ([], []), ([], []), ([], []), ([], []), ([], []), ([], [])] (by kernel_rfl)
theorem n6 : cW Tryz.prog 42 (.prim splP) := J0 (⟨Tryz.f42, Tryz.func42, by kernel_rfl, by kernel_rfl⟩ : dx Tryz.prog 42) (fun s c w hs => nF s c w hs)
abbrev bn (v0 v1 v7 v8 : AV) : List AV := [v0, v1, aa, aa, .any, .any, .any, v7, v8, .any, .any, .any, .any, .any, .any, .any, .any, .any, .any]
abbrev gk  : List AV := [.any, .any, aa, aa, .any, .any, .any, .any, .any, .any, .any, .any, .any, .any, .any, .any, .any, .any, .any]
abbrev aN : CC := .kill AN (.seq (.region [oN 9 (.bin .lss (tP 8) (tP 7))])
  (.seq (.cond (tP 9) (.skip) (.kill [0, 1, 7, 8, 9] (.exit 0)))
  (.seq (.block 1 (.seq (.region [mV 10 8,
 mV 5 10])
  (.seq (.region [mV 11 1,
 mV 12 0,
 mV 13 5,
 oN 14 (.iaddr 1 none (tP 12) (tP 13)),
 lD 15 14,
 oN 16 (.bin .eql (tP 11) (tP 15))])
  (.cond (tP 16) (.seq (.region [mV 17 5,
 mV 4 17])
  (.ret)) (.skip)))))
  (.region [oN 18 (.bin .add (tP 8) (.con (.int .i64 1))),
 mV 8 18]))))
def aY : CFn := ⟨19, .seq (.region [oN 4 (.mov (.con (.int .i64 0)))])
  (.seq (.seq (.region [mV 6 0,
 oN 7 (.lenl (tP 6)),
 oN 8 (.mov (.con (.int .i64 0)))])
  (.block 0 (.kill AN (.loop aN))))
  (.seq (.region [oN 4 (.mov (.con (.int .i64 (-1))))])
  (.ret))),
  [.tmp 4]⟩
theorem gG : IsFn Tryz.prog 43 aY := ah [([], []), ([], []), (AN, []), ([], []), ([0, 1, 7, 8, 9], []), ([], []), ([], []), ([], []), ([], []), ([], []), ([], []), ([], [])] (by kernel_rfl)
def jt : CFn := ⟨8, .seq (.region [oN 4 (.mov (.con (.nili)))])
  (.seq (.region [mV 5 0,
 mV 6 1,
 oN 7 (.call 86 [(tP 5), (tP 6), (.con (.nili))]),
 mV 4 7])
  (.ret)),
  [.tmp 4]⟩
theorem ug : IsFn Tryz.prog 44 jt := ah [([], []), ([], []), ([], [])] (by kernel_rfl)
def ay : CFn := ⟨89, .seq (.region [mV 6 1])
  (.block 0 (.seq (.region [oN 13 (.bin .eql (tP 6) (.con (.int .u8 97))),
 mV 12 13])
  (.cond (tP 12) (.region [mV 14 0,
 mV 15 2,
 oN 16 (.pcall 87 [(tP 15)]),
 oN 17 (.nilck (tP 14)),
 oN 18 (.faddr 1 (tP 17)),
 ⟨none, .store 1 (tP 18) (tP 16), none⟩]) (.seq (.region [oN 20 (.bin .eql (tP 6) (.con (.int .u8 115))),
 mV 19 20])
  (.cond (tP 19) (.region [mV 21 0,
 mV 22 2,
 oN 23 (.pcall 87 [(tP 22)]),
 oN 24 (.nilck (tP 21)),
 oN 25 (.faddr 9 (tP 24)),
 ⟨none, .store 1 (tP 25) (tP 23), none⟩]) (.seq (.region [oN 27 (.bin .eql (tP 6) (.con (.int .u8 108))),
 mV 26 27])
  (.cond (tP 26) (.region [mV 29 0,
 mV 30 2,
 oN 31 (.pcall 16 [(tP 30)]),
 oN 28 (.take (tP 31)),
 oN 32 (.extract 28 0),
 oN 33 (.extract 28 1),
 oN 34 (.nilck (tP 29)),
 oN 35 (.faddr 2 (tP 34)),
 ⟨none, .store 1 (tP 35) (tP 32), none⟩]) (.seq (.region [oN 37 (.bin .eql (tP 6) (.con (.int .u8 101))),
 mV 36 37])
  (.cond (tP 36) (.region [mV 39 0,
 mV 40 2,
 oN 41 (.pcall 16 [(tP 40)]),
 oN 38 (.take (tP 41)),
 oN 42 (.extract 38 0),
 oN 43 (.extract 38 1),
 oN 44 (.nilck (tP 39)),
 oN 45 (.faddr 3 (tP 44)),
 ⟨none, .store 1 (tP 45) (tP 42), none⟩]) (.seq (.region [oN 47 (.bin .eql (tP 6) (.con (.int .u8 110))),
 mV 46 47])
  (.cond (tP 46) (.region [mV 49 0,
 mV 50 2,
 oN 51 (.call 57 [(tP 50)]),
 mV 48 51,
 oN 52 (.extract 48 0),
 oN 53 (.extract 48 1),
 oN 54 (.nilck (tP 49)),
 oN 55 (.faddr 5 (tP 54)),
 ⟨none, .store 1 (tP 55) (tP 52), none⟩]) (.seq (.region [oN 57 (.bin .eql (tP 6) (.con (.int .u8 109))),
 mV 56 57])
  (.cond (tP 56) (.region [mV 59 0,
 mV 60 2,
 oN 61 (.call 57 [(tP 60)]),
 mV 58 61,
 oN 62 (.extract 58 0),
 oN 63 (.extract 58 1),
 oN 64 (.nilck (tP 59)),
 oN 65 (.faddr 6 (tP 64)),
 ⟨none, .store 1 (tP 65) (tP 62), none⟩]) (.seq (.region [oN 67 (.bin .eql (tP 6) (.con (.int .u8 111))),
 mV 66 67])
  (.cond (tP 66) (.region [mV 69 0,
 mV 70 2,
 oN 71 (.pcall 18 [(tP 70)]),
 oN 68 (.take (tP 71)),
 oN 72 (.extract 68 0),
 oN 73 (.extract 68 1),
 oN 74 (.nilck (tP 69)),
 oN 75 (.faddr 4 (tP 74)),
 ⟨none, .store 1 (tP 75) (tP 72), none⟩]) (.seq (.region [oN 77 (.bin .eql (tP 6) (.con (.int .u8 116))),
 mV 76 77])
  (.cond (tP 76) (.region [mV 78 0,
 mV 79 2,
 oN 80 (.pcall 88 [(tP 79)]),
 oN 81 (.nilck (tP 78)),
 oN 82 (.faddr 7 (tP 81)),
 ⟨none, .store 1 (tP 82) (tP 80), none⟩]) (.seq (.region [oN 84 (.bin .eql (tP 6) (.con (.int .u8 99))),
 mV 83 84])
  (.cond (tP 83) (.region [mV 85 0,
 mV 86 2,
 oN 87 (.nilck (tP 85)),
 oN 88 (.faddr 8 (tP 87)),
 ⟨none, .store 1 (tP 88) (tP 86), none⟩]) (.region [mV 7 0,
 mV 8 2,
 oN 9 (.bin .eql (tP 8) (.con (.str ⟨#[119]⟩))),
 oN 10 (.nilck (tP 7)),
 oN 11 (.faddr 10 (tP 10)),
 ⟨none, .store 1 (tP 11) (tP 9), none⟩])))))))))))))))))))),
  []⟩
theorem qk : IsFn Tryz.prog 45 ay := ah [([], []), ([], []), ([], [2]), ([], []), ([], [2]), ([], []), ([], [2, 3]), ([], []), ([], [2, 3]), ([], []), ([], []), ([], []), ([], []), ([], []), ([], [2, 3]), ([], []), ([], [2]), ([], []), ([], []), ([], [])] (by kernel_rfl)
abbrev cq (v0 v1 v12 v13 : AV) : List AV := [v0, v1, aa, aa, .any, .any, .any, .any, .any, .any, .any, .any, v12, v13, .any, .any, .any, .any, .any, .any, .any, .any, .any, .any, .any, .any]
abbrev iY  : List AV := [.any, .any, aa, aa, .any, .any, .any, .any, .any, .any, .any, .any, .any, .any, .any, .any, .any, .any, .any, .any, .any, .any, .any, .any, .any, .any]
abbrev bE : CC := .kill l0 (.seq (.region [oN 14 (.bin .lss (tP 13) (tP 12))])
  (.seq (.cond (tP 14) (.skip) (.kill [0, 1, 12, 13, 14] (.exit 0)))
  (.seq (.block 1 (.seq (.region [mV 15 13,
 mV 5 15])
  (.seq (.region [mV 16 0,
 mV 17 5,
 oN 18 (.iaddr 1 none (tP 16) (tP 17)),
 lD 19 18,
 mV 20 1,
 mV 21 5,
 oN 22 (.iaddr 1 none (tP 20) (tP 21)),
 lD 23 22,
 oN 24 (.bin .neq (tP 19) (tP 23))])
  (.cond (tP 24) (.seq (.region [oN 4 (.mov (.con (.bool false)))])
  (.ret)) (.skip)))))
  (.region [oN 25 (.bin .add (tP 13) (.con (.int .i64 1))),
 mV 13 25]))))
def bt : CFn := ⟨26, .seq (.region [oN 4 (.mov (.con (.bool false)))])
  (.seq (.seq (.region [mV 6 0,
 oN 7 (.lenl (tP 6)),
 mV 8 1,
 oN 9 (.lenl (tP 8)),
 oN 10 (.bin .neq (tP 7) (tP 9))])
  (.cond (tP 10) (.seq (.region [oN 4 (.mov (.con (.bool false)))])
  (.ret)) (.skip)))
  (.seq (.seq (.region [mV 11 0,
 oN 12 (.lenl (tP 11)),
 oN 13 (.mov (.con (.int .i64 0)))])
  (.block 0 (.kill l0 (.loop bE))))
  (.seq (.region [oN 4 (.mov (.con (.bool true)))])
  (.ret)))),
  [.tmp 4]⟩
theorem ju : IsFn Tryz.prog 46 bt := ah [([], []), ([], []), ([], []), ([], []), ([], []), (l0, []), ([], []), ([0, 1, 12, 13, 14], []), ([], []), ([], []), ([], []), ([], []), ([], []), ([], []), ([], [])] (by kernel_rfl)
def iH : CFn := ⟨8, .seq (.region [oN 4 (.mov (.con (.bool false)))])
  (.seq (.region [oN 5 (.take (tP 0)),
 oN 6 (.take (tP 1)),
 oN 7 (.pcall 89 [(tP 5), (tP 6)]),
 mV 4 7])
  (.ret)),
  [.tmp 4]⟩
theorem sj : IsFn Tryz.prog 47 iH := ah [([], []), ([], [0, 1, 2]), ([], [])] (by kernel_rfl)
abbrev bo (v0 v1 v12 v13 : AV) : List AV := [v0, v1, aa, aa, .any, .any, .any, .any, .any, .any, .any, .any, v12, v13, .any, .any, .any, .any, .any, .any, .any, .any, .any, .any, .any, .any]
abbrev gm  : List AV := [.any, .any, aa, aa, .any, .any, .any, .any, .any, .any, .any, .any, .any, .any, .any, .any, .any, .any, .any, .any, .any, .any, .any, .any, .any, .any]
abbrev aO : CC := .kill l0 (.seq (.region [oN 14 (.bin .lss (tP 13) (tP 12))])
  (.seq (.cond (tP 14) (.skip) (.kill [0, 1, 12, 13, 14] (.exit 0)))
  (.seq (.block 1 (.seq (.region [mV 15 13,
 mV 5 15])
  (.seq (.region [mV 16 0,
 mV 17 5,
 oN 18 (.iaddr 1 none (tP 16) (tP 17)),
 lD 19 18,
 mV 20 1,
 mV 21 5,
 oN 22 (.iaddr 1 none (tP 20) (tP 21)),
 lD 23 22,
 oN 24 (.bin .neq (tP 19) (tP 23))])
  (.cond (tP 24) (.seq (.region [oN 4 (.mov (.con (.bool false)))])
  (.ret)) (.skip)))))
  (.region [oN 25 (.bin .add (tP 13) (.con (.int .i64 1))),
 mV 13 25]))))
def aH : CFn := ⟨26, .seq (.region [oN 4 (.mov (.con (.bool false)))])
  (.seq (.seq (.region [mV 6 0,
 oN 7 (.lenl (tP 6)),
 mV 8 1,
 oN 9 (.lenl (tP 8)),
 oN 10 (.bin .neq (tP 7) (tP 9))])
  (.cond (tP 10) (.seq (.region [oN 4 (.mov (.con (.bool false)))])
  (.ret)) (.skip)))
  (.seq (.seq (.region [mV 11 0,
 oN 12 (.lenl (tP 11)),
 oN 13 (.mov (.con (.int .i64 0)))])
  (.block 0 (.kill l0 (.loop aO))))
  (.seq (.region [oN 4 (.mov (.con (.bool true)))])
  (.ret)))),
  [.tmp 4]⟩
theorem gH : IsFn Tryz.prog 48 aH := ah [([], []), ([], []), ([], []), ([], []), ([], []), (l0, []), ([], []), ([0, 1, 12, 13, 14], []), ([], []), ([], []), ([], []), ([], []), ([], []), ([], []), ([], [])] (by kernel_rfl)
def gZ : CFn := ⟨10, .seq (.region [oN 4 (.mov (.con (.bool false)))])
  (.seq (.region [oN 5 (.take (tP 0)),
 oN 6 (.cBytesStr (tP 5)),
 oN 7 (.take (tP 1)),
 oN 8 (.cBytesStr (tP 7)),
 oN 9 (.bin .eql (tP 6) (tP 8)),
 mV 4 9])
  (.ret)),
  [.tmp 4]⟩
theorem ql : IsFn Tryz.prog 49 gZ := ah [([], []), ([], [0, 2]), ([], [])] (by kernel_rfl)
abbrev lv (v0 v1 v5 v6 v7 : AV) : List AV := [v0, v1, aa, aa, .any, v5, v6, v7, .any, .any, .any, .any, .any, .any, .any, .any, .any, .any, .any, .any, .any, .any, .any, .any, .any, .any, .any, .any, .any, .any, aa, aa, aa, aa]
abbrev lz (v5 v6 : AV) : List AV := [.any, .any, aa, aa, .any, v5, v6, .any, .any, .any, .any, .any, .any, .any, .any, .any, .any, .any, .any, .any, .any, .any, .any, .any, .any, .any, .any, .any, .any, .any, aa, aa, aa, aa]
abbrev gM : CC := .kill AO (.seq (.seq (.region [mV 8 7,
 mV 9 0,
 oN 10 (.lens (tP 9)),
 oN 11 (.bin .lss (tP 8) (tP 10))])
  (.cond (tP 11) (.skip) (.kill [0, 1, 7, 8, 9, 10, 11] (.exit 0))))
  (.seq (.block 1 (.seq (.region [mV 14 0,
 mV 15 7,
 oN 16 (.idxs (tP 14) (tP 15)),
 mV 17 1,
 oN 18 (.bin .eql (tP 16) (tP 17))])
  (.cond (tP 18) (.seq (.region [oN 19 (.take (tP 5)),
 mV 20 6,
 oN 21 (.bslice 1 false [(tP 20)]),
 oN 22 (.append 1 16 false (tP 19) (tP 21)),
 oN 5 (.take (tP 22))])
  (.region [oN 6 (.mov (.con (.str ⟨#[]⟩)))])) (.region [mV 23 6,
 mV 24 0,
 mV 25 7,
 mV 26 7,
 oN 27 (.bin .add (tP 26) (.con (.int .i64 1))),
 oN 28 (.slice none (tP 24) (some (tP 25)) (some (tP 27)) none),
 oN 29 (.bin .add (tP 23) (tP 28)),
 mV 6 29]))))
  (.region [mV 12 7,
 oN 13 (.bin .add (tP 12) (.con (.int .i64 1))),
 mV 7 13])))
def eo : CFn := ⟨34, .seq (.region [oN 4 (.take (.con (.sl .ex [])))])
  (.seq (.region [oN 5 (.take (.con (.sl .ex [])))])
  (.seq (.region [oN 6 (.mov (.con (.str ⟨#[]⟩)))])
  (.seq (.seq (.region [oN 7 (.mov (.con (.int .i64 0)))])
  (.block 0 (.kill AO (.loop gM))))
  (.seq (.region [oN 30 (.take (tP 5)),
 mV 31 6,
 oN 32 (.bslice 1 false [(tP 31)]),
 oN 33 (.append 1 16 false (tP 30) (tP 32)),
 oN 4 (.take (tP 33))])
  (.ret))))),
  [.tmp 4]⟩
theorem l5 : IsFn Tryz.prog 50 eo := ah [([], [0]), ([], [0]), ([], []), ([], []), (AO, []), ([], []), ([0, 1, 7, 8, 9, 10, 11], []), ([], []), ([], [0, 4]), ([], []), ([], []), ([], []), ([], [0, 4]), ([], [])] (by kernel_rfl)
def bV : CFn := ⟨20, .seq (.region [oN 2 (.take (.con (.sl .ex []))),
 oN 3 (.mov (.con (.bool false)))])
  (.seq (.seq (.region [mV 6 0,
 oN 7 (.bin .eql (tP 6) (.con (.str ⟨#[46]⟩)))])
  (.cond (tP 7) (.seq (.region [oN 2 (.take (.con (.sl .ex []))),
 oN 3 (.mov (.con (.bool true)))])
  (.ret)) (.skip)))
  (.seq (.region [mV 9 0,
 oN 10 (.pcall 90 [(tP 9)]),
 oN 8 (.take (tP 10)),
 oN 11 (.extract 8 0),
 oN 12 (.extract 8 1),
 oN 4 (.take (tP 11)),
 mV 5 12])
  (.seq (.region [mV 13 4,
 mV 14 5,
 mV 15 14,
 oG 16 (.take (tP 4)) 15 true,
 oG 17 (.lenl (tP 16)) 15 true,
 oG 18 (.bin .gtr (tP 17) (.con (.int .i64 0))) 15 true,
 oN 19 (.pick (tP 15) (tP 18) (.con (.bool false))),
 oN 2 (.take (tP 13)),
 mV 3 19])
  (.ret)))),
  [.tmp 2, .tmp 3]⟩
theorem lA : IsFn Tryz.prog 51 bV := ah [([], [0]), ([], []), ([], [0]), ([], []), ([], [1, 2, 5]), ([], [3, 7]), ([], [])] (by kernel_rfl)
abbrev cJ (v0 v4 v5 v6 : AV) : List AV := [v0, aa, .any, .any, v4, v5, v6, aa, .any, .any, .any, .any, .any, .any, .any, .any, .any, .any, .any, .any, .any, .any, .any, .any, .any, .any, .any, .any, .any, .any, .any, .any, .any, .any, .any, .any, .any, .any, .any, .any, .any, .any, .any, .any, .any, .any, .any, aa, aa, aa, aa, aa, aa, aa, aa, aa, aa, aa, aa, aa, aa, aa, aa, aa, aa, aa, aa, aa, aa, aa, aa, aa]
abbrev jv (v0 v4 v5 : AV) : List AV := [v0, aa, .any, .any, v4, v5, .any, aa, .any, .any, .any, .any, .any, .any, .any, .any, .any, .any, .any, .any, .any, .any, .any, .any, .any, .any, .any, .any, .any, .any, .any, .any, .any, .any, .any, .any, .any, .any, .any, .any, .any, .any, .any, .any, .any, .any, .any, aa, aa, aa, aa, aa, aa, aa, aa, aa, aa, aa, aa, aa, aa, aa, aa, aa, aa, aa, aa, aa, aa, aa, aa, aa]
abbrev bK : CC := .kill AP (.seq (.seq (.region [mV 19 6,
 mV 20 0,
 oN 21 (.lens (tP 20)),
 oN 22 (.bin .lss (tP 19) (tP 21))])
  (.cond (tP 22) (.skip) (.kill [6, 19, 20, 21, 22] (.exit 0))))
  (.seq (.block 1 (.seq (.seq (.region [mV 25 0,
 mV 26 6,
 oN 27 (.idxs (tP 25) (tP 26)),
 oN 28 (.bin .lss (tP 27) (.con (.int .u8 48))),
 mV 29 28,
 oG 30 (.mov (tP 0)) 29 false,
 oG 31 (.mov (tP 6)) 29 false,
 oG 32 (.idxs (tP 30) (tP 31)) 29 false,
 oG 33 (.bin .gtr (tP 32) (.con (.int .u8 57))) 29 false,
 oN 34 (.pick (tP 29) (.con (.bool true)) (tP 33)),
 mV 35 34,
 oG 36 (.mov (tP 6)) 35 false,
 oG 37 (.bin .gtr (tP 36) (.con (.int .i64 7))) 35 false,
 oN 38 (.pick (tP 35) (.con (.bool true)) (tP 37))])
  (.cond (tP 38) (.seq (.region [oN 2 (.mov (.con (.int .i64 0))),
 oN 3 (.mov (.con (.bool false)))])
  (.ret)) (.skip)))
  (.region [mV 39 5,
 oN 40 (.bin .mul (.con (.int .i64 10)) (tP 39)),
 mV 41 0,
 mV 42 6,
 oN 43 (.idxs (tP 41) (tP 42)),
 oN 44 (.bin .sub (tP 43) (.con (.int .u8 48))),
 oN 45 (.cInt .i64 (tP 44)),
 oN 46 (.bin .add (tP 40) (tP 45)),
 mV 5 46])))
  (.region [mV 23 6,
 oN 24 (.bin .add (tP 23) (.con (.int .i64 1))),
 mV 6 24])))
def aF : CFn := ⟨72, .seq (.region [oN 2 (.mov (.con (.int .i64 0))),
 oN 3 (.mov (.con (.bool false)))])
  (.seq (.region [mV 8 0,
 oN 9 (.lens (tP 8)),
 oN 10 (.bin .gtr (tP 9) (.con (.int .i64 0))),
 mV 11 10,
 oG 12 (.mov (tP 0)) 11 true,
 oG 13 (.idxs (tP 12) (.con (.int .i64 0))) 11 true,
 oG 14 (.bin .eql (tP 13) (.con (.int .u8 45))) 11 true,
 oN 15 (.pick (tP 11) (tP 14) (.con (.bool false))),
 mV 4 15])
  (.seq (.seq (.region [mV 16 4])
  (.cond (tP 16) (.region [mV 17 0,
 oN 18 (.slice none (tP 17) (some (.con (.int .i64 1))) none none),
 mV 0 18]) (.skip)))
  (.seq (.region [oN 5 (.mov (.con (.int .i64 0)))])
  (.seq (.seq (.region [oN 6 (.mov (.con (.int .i64 0)))])
  (.block 0 (.kill AP (.loop bK))))
  (.seq (.region [mV 47 0,
 oN 48 (.bin .neq (tP 47) (.con (.str ⟨#[]⟩))),
 mV 49 48,
 oG 50 (.mov (tP 0)) 49 true,
 oG 51 (.lens (tP 50)) 49 true,
 oG 52 (.bin .eql (tP 51) (.con (.int .i64 1))) 49 true,
 oG 53 (.mov (tP 52)) 49 true,
 oG 54 (.mov (tP 0)) 53 false,
 oG 55 (.idxs (tP 54) (.con (.int .i64 0))) 53 false,
 oG 56 (.bin .neq (tP 55) (.con (.int .u8 48))) 53 false,
 oG 57 (.pick (tP 53) (.con (.bool true)) (tP 56)) 49 true,
 oN 58 (.pick (tP 49) (tP 57) (.con (.bool false))),
 mV 59 58,
 oG 60 (.mov (tP 4)) 59 true,
 oG 61 (.mov (tP 60)) 59 true,
 oG 62 (.mov (tP 5)) 61 true,
 oG 63 (.bin .eql (tP 62) (.con (.int .i64 0))) 61 true,
 oG 64 (.pick (tP 61) (tP 63) (.con (.bool false))) 59 true,
 oG 65 (.un .not (tP 64)) 59 true,
 oN 66 (.pick (tP 59) (tP 65) (.con (.bool false))),
 mV 7 66])
  (.seq (.seq (.region [mV 67 4])
  (.cond (tP 67) (.region [mV 68 5,
 oN 69 (.un .neg (tP 68)),
 mV 5 69]) (.skip)))
  (.seq (.region [mV 70 5,
 mV 71 7,
 mV 2 70,
 mV 3 71])
  (.ret)))))))),
  [.tmp 2, .tmp 3]⟩
theorem jX : IsFn Tryz.prog 52 aF := ah [([], []), ([], []), ([], []), ([], []), ([], []), ([], []), (AP, []), ([], []), ([6, 19, 20, 21, 22], []), ([], []), ([], []), ([], []), ([], []), ([], []), ([], []), ([], []), ([], []), ([], []), ([], [])] (by kernel_rfl)
abbrev bF (v0 v4 v5 v6 v7 : AV) : List AV := [v0, aa, .any, .any, v4, v5, v6, v7, .any, .any, .any, .any, .any, .any, .any, .any, .any, .any, .any, .any, .any, .any, .any, .any, .any, .any, .any, .any, .any, .any, .any, .any, .any, .any, .any, .any, .any, .any, .any, .any, .any, .any, .any, aa, aa, aa, aa, aa, aa, aa, aa]
abbrev kr (v0 v4 v5 v6 v7 v8 v9 : AV) : List AV := [v0, aa, .any, .any, v4, v5, v6, v7, v8, v9, .any, .any, .any, .any, .any, .any, .any, .any, .any, .any, .any, .any, .any, .any, .any, .any, .any, .any, .any, .any, .any, .any, .any, .any, .any, .any, .any, .any, .any, .any, .any, .any, .any, aa, aa, aa, aa, aa, aa, aa, aa]
abbrev ks (v4 v6 : AV) : List AV := [.any, aa, .any, .any, v4, .any, v6, .any, .any, .any, .any, .any, .any, .any, .any, .any, .any, .any, .any, .any, .any, .any, .any, .any, .any, .any, .any, .any, .any, .any, .any, .any, .any, .any, .any, .any, .any, .any, .any, .any, .any, .any, .any, aa, aa, aa, aa, aa, aa, aa, aa]
abbrev kv (v0 v4 v5 v6 v7 v8 : AV) : List AV := [v0, aa, .any, .any, v4, v5, v6, v7, v8, .any, .any, .any, .any, .any, .any, .any, .any, .any, .any, .any, .any, .any, .any, .any, .any, .any, .any, .any, .any, .any, .any, .any, .any, .any, .any, .any, .any, .any, .any, .any, .any, .any, .any, aa, aa, aa, aa, aa, aa, aa, aa]
abbrev gn : CC := .kill AQ (.seq (.seq (.region [mV 18 9,
 oN 19 (.bin .lss (tP 18) (.con (.int .i64 16)))])
  (.cond (tP 19) (.skip) (.kill [9, 18, 19] (.exit 2))))
  (.seq (.block 3 (.seq (.region [mV 22 9,
 oN 23 (.idxs (.con (.str ⟨#[48, 49, 50, 51, 52, 53, 54, 55, 56, 57, 97, 98, 99, 100, 101, 102]⟩)) (tP 22)),
 mV 24 0,
 mV 25 7,
 oN 26 (.idxs (tP 24) (tP 25)),
 oN 27 (.bin .eql (tP 23) (tP 26))])
  (.cond (tP 27) (.region [mV 28 9,
 mV 8 28]) (.skip))))
  (.region [mV 20 9,
 oN 21 (.bin .add (tP 20) (.con (.int .i64 1))),
 mV 9 21])))
abbrev bc : CC := .kill AR (.seq (.seq (.region [mV 12 7,
 mV 13 0,
 oN 14 (.lens (tP 13)),
 oN 15 (.bin .lss (tP 12) (tP 14))])
  (.cond (tP 15) (.skip) (.kill [0, 5, 7, 12, 13, 14, 15] (.exit 0))))
  (.seq (.block 1 (.seq (.region [oN 8 (.mov (.con (.int .i64 (-1))))])
  (.seq (.seq (.region [oN 9 (.mov (.con (.int .i64 0)))])
  (.block 2 (.kill AQ (.loop gn))))
  (.seq (.seq (.region [mV 29 8,
 oN 30 (.bin .lss (tP 29) (.con (.int .i64 0)))])
  (.cond (tP 30) (.seq (.region [oN 2 (.take (.con (.sl .ex []))),
 oN 3 (.mov (.con (.bool false)))])
  (.ret)) (.skip)))
  (.seq (.seq (.region [mV 31 6])
  (.cond (tP 31) (.region [oN 32 (.take (tP 4)),
 mV 33 5,
 oN 34 (.bin .mul (.con (.int .i64 16)) (tP 33)),
 mV 35 8,
 oN 36 (.bin .add (tP 34) (tP 35)),
 oN 37 (.cInt .u8 (tP 36)),
 oN 38 (.bslice 1 false [(tP 37)]),
 oN 39 (.append 1 1 false (tP 32) (tP 38)),
 oN 4 (.take (tP 39))]) (.skip)))
  (.seq (.region [mV 40 8,
 mV 5 40])
  (.region [mV 41 6,
 oN 42 (.un .not (tP 41)),
 mV 6 42])))))))
  (.region [mV 16 7,
 oN 17 (.bin .add (tP 16) (.con (.int .i64 1))),
 mV 7 17])))
def bD : CFn := ⟨51, .seq (.region [oN 2 (.take (.con (.sl .ex []))),
 oN 3 (.mov (.con (.bool false)))])
  (.seq (.seq (.region [mV 10 0,
 oN 11 (.bin .eql (tP 10) (.con (.str ⟨#[45]⟩)))])
  (.cond (tP 11) (.seq (.region [oN 2 (.take (.con (.sl .ex []))),
 oN 3 (.mov (.con (.bool true)))])
  (.ret)) (.skip)))
  (.seq (.region [oN 4 (.take (.con (.sl .ex [])))])
  (.seq (.region [oN 5 (.mov (.con (.int .i64 0))),
 oN 6 (.mov (.con (.bool false)))])
  (.seq (.seq (.region [oN 7 (.mov (.con (.int .i64 0)))])
  (.block 0 (.kill AR (.loop bc))))
  (.seq (.region [mV 43 4,
 mV 44 6,
 oN 45 (.un .not (tP 44)),
 mV 46 45,
 oG 47 (.take (tP 4)) 46 true,
 oG 48 (.lenl (tP 47)) 46 true,
 oG 49 (.bin .gtr (tP 48) (.con (.int .i64 0))) 46 true,
 oN 50 (.pick (tP 46) (tP 49) (.con (.bool false))),
 oN 2 (.take (tP 43)),
 mV 3 50])
  (.ret)))))),
  [.tmp 2, .tmp 3]⟩
theorem lB : IsFn Tryz.prog 53 bD := ah [([], [0]), ([], []), ([], [0]), ([], []), ([], [0]), ([], []), ([], []), (AR, []), ([], []), ([0, 5, 7, 12, 13, 14, 15], []), ([], []), ([], []), (AQ, []), ([], []), ([9, 18, 19], []), ([], []), ([], []), ([], []), ([], []), ([], [0]), ([], []), ([], []), ([], [0, 8]), ([], []), ([], []), ([], []), ([], [4, 8]), ([], [])] (by kernel_rfl)
abbrev aR (v0 v2 v4 v5 v6 v7 : AV) : List AV := [v0, aa, v2, .any, v4, v5, v6, v7, .any, .any, .any, .any, .any, .any, .any, .any, .any, .any, .any, .any, .any, .any, .any, .any, .any, .any, .any, .any, .any, .any, .any, .any, .any, .any, .any, .any, .any, .any, .any, .any, .any, .any, .any, .any, .any, .any, .any, .any, .any, .any, .any, .any, .any, .any, .any, .any, .any, aa, aa, aa, aa, aa, aa, aa, aa, aa, aa, aa, aa, aa]
abbrev gO (v0 v2 v4 v5 : AV) : List AV := [v0, aa, v2, .any, v4, v5, .any, .any, .any, .any, .any, .any, .any, .any, .any, .any, .any, .any, .any, .any, .any, .any, .any, .any, .any, .any, .any, .any, .any, .any, .any, .any, .any, .any, .any, .any, .any, .any, .any, .any, .any, .any, .any, .any, .any, .any, .any, .any, .any, .any, .any, .any, .any, .any, .any, .any, .any, aa, aa, aa, aa, aa, aa, aa, aa, aa, aa, aa, aa, aa]
abbrev aK : CC := .kill AU (.seq (.seq (.region [mV 8 7,
 mV 9 0,
 oN 10 (.lens (tP 9)),
 oN 11 (.bin .lss (tP 8) (tP 10))])
  (.cond (tP 11) (.skip) (.kill [6, 7, 8, 9, 10, 11] (.exit 0))))
  (.seq (.block 1 (.block 2 (.seq (.region [mV 15 0,
 mV 16 7,
 oN 17 (.idxs (tP 15) (tP 16)),
 oN 18 (.bin .geq (tP 17) (.con (.int .u8 48))),
 mV 19 18,
 oG 20 (.mov (tP 0)) 19 true,
 oG 21 (.mov (tP 7)) 19 true,
 oG 22 (.idxs (tP 20) (tP 21)) 19 true,
 oG 23 (.bin .leq (tP 22) (.con (.int .u8 57))) 19 true,
 oN 24 (.pick (tP 19) (tP 23) (.con (.bool false))),
 mV 14 24])
  (.cond (tP 14) (.seq (.region [mV 25 6,
 oN 26 (.bin .add (tP 25) (.con (.int .i64 1))),
 mV 6 26])
  (.seq (.seq (.region [mV 27 6,
 oN 28 (.bin .gtr (tP 27) (.con (.int .i64 8)))])
  (.cond (tP 28) (.seq (.region [oN 29 (.build [.sl .ex [], .int .i64 0] []),
 ⟨none, .store 2 (tP 2) (tP 29), none⟩,
 oN 3 (.mov (.con (.bool false)))])
  (.ret)) (.skip)))
  (.region [mV 30 5,
 oN 31 (.bin .mul (.con (.int .i64 10)) (tP 30)),
 mV 32 0,
 mV 33 7,
 oN 34 (.idxs (tP 32) (tP 33)),
 oN 35 (.bin .sub (tP 34) (.con (.int .u8 48))),
 oN 36 (.cInt .i64 (tP 35)),
 oN 37 (.bin .add (tP 31) (tP 36)),
 mV 5 37]))) (.seq (.region [mV 39 0,
 mV 40 7,
 oN 41 (.idxs (tP 39) (tP 40)),
 oN 42 (.bin .eql (tP 41) (.con (.int .u8 46))),
 mV 43 42,
 oG 44 (.mov (tP 0)) 43 false,
 oG 45 (.mov (tP 7)) 43 false,
 oG 46 (.idxs (tP 44) (tP 45)) 43 false,
 oG 47 (.bin .eql (tP 46) (.con (.int .u8 47))) 43 false,
 oN 48 (.pick (tP 43) (.con (.bool true)) (tP 47)),
 mV 38 48])
  (.cond (tP 38) (.seq (.seq (.region [mV 49 6,
 oN 50 (.bin .gtr (tP 49) (.con (.int .i64 0)))])
  (.cond (tP 50) (.region [oN 51 (.faddr 0 (tP 4)),
 oN 52 (.ltake (tP 51)),
 mV 53 5,
 oN 54 (.bslice 1 false [(tP 53)]),
 oN 55 (.append 1 8 false (tP 52) (tP 54)),
 oN 56 (.faddr 0 (tP 4)),
 ⟨none, .store 1 (tP 56) (tP 55), none⟩]) (.skip)))
  (.seq (.region [oN 5 (.mov (.con (.int .i64 0)))])
  (.region [oN 6 (.mov (.con (.int .i64 0)))]))) (.skip)))))))
  (.region [mV 12 7,
 oN 13 (.bin .add (tP 12) (.con (.int .i64 1))),
 mV 7 13])))
def bL : CFn := ⟨70, .seq (.region [oN 2 (.alloc [.sl .ex [], .int .i64 0]),
 oN 3 (.mov (.con (.bool false)))])
  (.seq (.region [oN 4 (.alloc [.sl .ex [], .int .i64 0])])
  (.seq (.region [oN 5 (.mov (.con (.int .i64 0))),
 oN 6 (.mov (.con (.int .i64 0)))])
  (.seq (.seq (.region [oN 7 (.mov (.con (.int .i64 0)))])
  (.block 0 (.kill AU (.loop aK))))
  (.seq (.region [mV 57 5,
 oN 58 (.faddr 1 (tP 4)),
 ⟨none, .store 1 (tP 58) (tP 57), none⟩])
  (.seq (.seq (.region [oN 59 (.load (some 2) (tP 4)),
 oN 60 (.pcall 91 [(tP 59)]),
 oN 61 (.un .not (tP 60)),
 mV 62 61,
 oG 63 (.load (some 2) (tP 4)) 62 false,
 oG 64 (.pcall 92 [(tP 63)]) 62 false,
 oG 65 (.mov (tP 0)) 62 false,
 oG 66 (.bin .neq (tP 64) (tP 65)) 62 false,
 oN 67 (.pick (tP 62) (.con (.bool true)) (tP 66))])
  (.cond (tP 67) (.seq (.region [oN 68 (.build [.sl .ex [], .int .i64 0] []),
 ⟨none, .store 2 (tP 2) (tP 68), none⟩,
 oN 3 (.mov (.con (.bool false)))])
  (.ret)) (.skip)))
  (.seq (.region [oN 69 (.load (some 2) (tP 4)),
 ⟨none, .store 2 (tP 2) (tP 69), none⟩,
 oN 3 (.mov (.con (.bool true)))])
  (.ret))))))),
  [.cell 2 (some 2), .tmp 3]⟩
theorem l6 : IsFn Tryz.prog 54 bL := ah [([], []), ([], []), ([], []), ([], []), (AU, []), ([], []), ([6, 7, 8, 9, 10, 11], []), ([], []), ([], []), ([], []), ([], []), ([], []), ([], []), ([], []), ([], []), ([], [1]), ([], []), ([], []), ([], []), ([], []), ([], [1, 5]), ([], []), ([], []), ([], []), ([], [])] (by kernel_rfl)
def ep : CFn := ⟨8, .seq (.region [oN 4 (.mov (.con (.nilf)))])
  (.seq (.region [mV 5 0,
 mV 6 1,
 oN 7 (.call 93 [(tP 5), (tP 6), (.con (.int .i64 0))]),
 mV 4 7])
  (.ret)),
  [.tmp 4]⟩
theorem l7 : IsFn Tryz.prog 55 ep := ah [([], []), ([], []), ([], [])] (by kernel_rfl)
def hF : CFn := ⟨13, .seq (.region [oN 4 (.mov (.con (.str ⟨#[]⟩))),
 oN 5 (.mov (.con (.str ⟨#[]⟩))),
 oN 6 (.mov (.con (.bool false)))])
  (.seq (.region [mV 7 0,
 mV 8 1,
 oN 9 (.pcall 94 [(tP 7), (tP 8)]),
 oN 10 (.extract 9 0),
 oN 11 (.extract 9 1),
 oN 12 (.extract 9 2),
 mV 4 10,
 mV 5 11,
 mV 6 12])
  (.ret)),
  [.tmp 4, .tmp 5, .tmp 6]⟩
theorem qm : IsFn Tryz.prog 56 hF := ah [([], []), ([], [2]), ([], [])] (by kernel_rfl)
theorem pE : cW Tryz.prog 57 (.prim (Ak 151)) := G2 (eb := 5) (⟨Tryz.f57, Tryz.func57, by kernel_rfl, by kernel_rfl⟩ : dx Tryz.prog 57) (fun s hs v h w => Tryz.strconv_Atoi_ok s hs v h w) (fun s hs h w0 w hw hb => by obtain ⟨tp, q, hv⟩ := uc (P := Tryz.prog) (hw.2 2 (by decide)) hb (n := "strconv.ErrSyntax") (by kernel_rfl); refine (Tryz.strconv_Atoi_syntax_var s hs h tp q w hv).mono ?_; rintro e w' ⟨N, rfl, _, _, hb'⟩; exact ⟨N, rfl, hb'⟩) (fun s hs h w0 w hw hb => by obtain ⟨tp, q, hv⟩ := uc (P := Tryz.prog) (hw.2 3 (by decide)) hb (n := "strconv.ErrRange") (by kernel_rfl); refine (Tryz.strconv_Atoi_range_var s hs h tp q w hv).mono ?_; rintro e w' ⟨N, rfl, _, _, hb'⟩; exact ⟨N, rfl, hb'⟩)
abbrev kx (v0 v8 v9 v10 : AV) : List AV := [v0, aa, .any, .any, .any, .any, .any, .any, v8, v9, v10, .any, .any, .any, .any, .any, .any, .any, .any, .any, .any, .any, .any, .any, .any, .any, .any, .any, .any, .any, .any, .any, .any, .any, .any, .any, .any, .any, .any, .any, .any, .any, .any, .any, .any, .any, .any, .any, .any, .any]
abbrev pF  : List AV := [.any, aa, .any, .any, .any, .any, .any, .any, .any, .any, .any, .any, .any, .any, .any, .any, .any, .any, .any, .any, .any, .any, .any, .any, .any, .any, .any, .any, .any, .any, .any, .any, .any, .any, .any, .any, .any, .any, .any, .any, .any, .any, .any, .any, .any, .any, .any, .any, .any, .any]
abbrev im : CC := .kill AW (.seq (.region [oN 11 (.bin .lss (tP 10) (tP 9))])
  (.seq (.cond (tP 11) (.skip) (.kill [0, 8, 9, 10, 11] (.exit 0)))
  (.seq (.block 1 (.seq (.region [mV 12 10,
 oN 13 (.iaddr 2 none (tP 8) (tP 10)),
 oN 14 (.load (some 2) (tP 13)),
 oN 4 (.alloc [.str ⟨#[]⟩, .int .i64 0]),
 mV 3 12,
 ⟨none, .store 2 (tP 4) (tP 14), none⟩])
  (.seq (.region [oN 15 (.faddr 0 (tP 4)),
 lD 16 15,
 oN 17 (.pcall 84 [(tP 16)]),
 oN 18 (.un .not (tP 17)),
 mV 19 18,
 oG 20 (.faddr 1 (tP 4)) 19 false,
 oG 21 (.load none (tP 20)) 19 false,
 oG 22 (.bin .eql (tP 21) (.con (.int .i64 1))) 19 false,
 oN 23 (.pick (tP 19) (.con (.bool true)) (tP 22)),
 mV 24 23,
 oG 25 (.faddr 1 (tP 4)) 24 false,
 oG 26 (.load none (tP 25)) 24 false,
 oG 27 (.bin .lss (tP 26) (.con (.int .i64 0))) 24 false,
 oN 28 (.pick (tP 24) (.con (.bool true)) (tP 27)),
 mV 29 28,
 oG 30 (.faddr 1 (tP 4)) 29 false,
 oG 31 (.load none (tP 30)) 29 false,
 oG 32 (.bin .geq (tP 31) (.con (.int .i64 4))) 29 false,
 oN 33 (.pick (tP 29) (.con (.bool true)) (tP 32)),
 mV 34 33,
 oG 35 (.mov (tP 3)) 34 false,
 oG 36 (.bin .gtr (tP 35) (.con (.int .i64 0))) 34 false,
 oG 37 (.mov (tP 36)) 34 false,
 oG 38 (.mov (tP 0)) 37 true,
 oG 39 (.mov (tP 3)) 37 true,
 oG 40 (.bin .sub (tP 39) (.con (.int .i64 1))) 37 true,
 oG 41 (.iaddr 2 none (tP 38) (tP 40)) 37 true,
 oG 42 (.load (some 2) (tP 41)) 37 true,
 oG 43 (.faddr 0 (tP 4)) 37 true,
 oG 44 (.load none (tP 43)) 37 true,
 oG 45 (.pcall 97 [(tP 42), (tP 44)]) 37 true,
 oG 46 (.bin .geq (tP 45) (.con (.int .i64 0))) 37 true,
 oG 47 (.pick (tP 37) (tP 46) (.con (.bool false))) 34 false,
 oN 48 (.pick (tP 34) (.con (.bool true)) (tP 47))])
  (.cond (tP 48) (.seq (.region [oN 2 (.mov (.con (.bool false)))])
  (.ret)) (.skip)))))
  (.region [oN 49 (.bin .add (tP 10) (.con (.int .i64 1))),
 mV 10 49]))))
def eI : CFn := ⟨50, .seq (.region [oN 2 (.mov (.con (.bool false)))])
  (.seq (.seq (.region [mV 5 0,
 oN 6 (.lenl (tP 5)),
 oN 7 (.bin .gtr (tP 6) (.con (.int .i64 8)))])
  (.cond (tP 7) (.seq (.region [oN 2 (.mov (.con (.bool false)))])
  (.ret)) (.skip)))
  (.seq (.seq (.region [mV 8 0,
 oN 9 (.lenl (tP 8)),
 oN 10 (.mov (.con (.int .i64 0)))])
  (.block 0 (.kill AW (.loop im))))
  (.seq (.region [oN 2 (.mov (.con (.bool true)))])
  (.ret)))),
  [.tmp 2]⟩
theorem qn : IsFn Tryz.prog 58 eI := ah [([], []), ([], []), ([], []), ([], []), ([], []), (AW, []), ([], []), ([0, 8, 9, 10, 11], []), ([], []), ([], [2, 30]), ([], []), ([], []), ([], []), ([], []), ([], [])] (by kernel_rfl)
abbrev qo (v3 v9 v10 v11 : AV) : List AV := [.any, aa, .any, v3, aa, .any, .any, .any, .any, v9, v10, v11, .any, .any, .any, .any, .any, .any, .any, .any, .any, .any, .any, .any, .any, .any, aa, aa]
abbrev qp (v3 : AV) : List AV := [.any, aa, .any, v3, aa, .any, .any, .any, .any, .any, .any, .any, .any, .any, .any, .any, .any, .any, .any, .any, .any, .any, .any, .any, .any, .any, aa, aa]
abbrev lR : CC := .kill AX (.seq (.region [oN 12 (.bin .lss (tP 11) (tP 10))])
  (.seq (.cond (tP 12) (.skip) (.kill [9, 10, 11, 12] (.exit 0)))
  (.seq (.block 1 (.seq (.region [oN 13 (.iaddr 2 none (tP 9) (tP 11)),
 oN 14 (.load (some 2) (tP 13)),
 oN 5 (.alloc [.str ⟨#[]⟩, .int .i64 0]),
 ⟨none, .store 2 (tP 5) (tP 14), none⟩])
  (.region [oN 15 (.take (tP 3)),
 oN 16 (.faddr 0 (tP 5)),
 lD 17 16,
 oN 18 (.bin .add (tP 17) (.con (.str ⟨#[61]⟩))),
 oN 19 (.faddr 1 (tP 5)),
 lD 20 19,
 oN 21 (.pcall 67 [(tP 20)]),
 oN 22 (.bin .add (tP 18) (tP 21)),
 oN 23 (.bslice 1 false [(tP 22)]),
 oN 24 (.append 1 16 false (tP 15) (tP 23)),
 oN 3 (.take (tP 24))])))
  (.region [oN 25 (.bin .add (tP 11) (.con (.int .i64 1))),
 mV 11 25]))))
def gq : CFn := ⟨28, .seq (.region [oN 2 (.mov (.con (.str ⟨#[]⟩)))])
  (.seq (.seq (.region [mV 6 0,
 oN 7 (.lenl (tP 6)),
 oN 8 (.bin .eql (tP 7) (.con (.int .i64 0)))])
  (.cond (tP 8) (.seq (.region [oN 2 (.mov (.con (.str ⟨#[45]⟩)))])
  (.ret)) (.skip)))
  (.seq (.region [oN 3 (.take (.con (.sl .ex [])))])
  (.seq (.seq (.region [oN 9 (.take (tP 0)),
 oN 10 (.lenl (tP 9)),
 oN 11 (.mov (.con (.int .i64 0)))])
  (.block 0 (.kill AX (.loop lR))))
  (.seq (.region [oN 26 (.take (tP 3)),
 oN 27 (.pcall 29 [(tP 26), (.con (.str ⟨#[44]⟩))]),
 mV 2 27])
  (.ret))))),
  [.tmp 2]⟩
theorem sk : IsFn Tryz.prog 59 gq := ah [([], []), ([], []), ([], []), ([], []), ([], [0]), ([], [0]), (AX, []), ([], []), ([9, 10, 11, 12], []), ([], []), ([], [0, 6, 10]), ([], []), ([], [0, 1]), ([], [])] (by kernel_rfl)
abbrev bu (v0 v8 v9 : AV) : List AV := [v0, aa, .any, .any, .any, .any, .any, .any, v8, v9, .any, .any, .any, .any, .any, .any, .any, .any, .any, .any, .any, .any, .any, .any, .any, .any, .any, .any, .any, .any, .any, .any, .any, .any, .any, .any, .any, .any, .any, .any, .any, .any, .any, .any, .any, .any, .any, .any, .any, .any, .any, .any, .any, .any, .any, .any, .any, .any, .any, .any, .any]
abbrev jY  : List AV := [.any, aa, .any, .any, .any, .any, .any, .any, .any, .any, .any, .any, .any, .any, .any, .any, .any, .any, .any, .any, .any, .any, .any, .any, .any, .any, .any, .any, .any, .any, .any, .any, .any, .any, .any, .any, .any, .any, .any, .any, .any, .any, .any, .any, .any, .any, .any, .any, .any, .any, .any, .any, .any, .any, .any, .any, .any, .any, .any, .any, .any]
abbrev aT : CC := .kill AY (.seq (.region [oN 10 (.bin .lss (tP 9) (tP 8))])
  (.seq (.cond (tP 10) (.skip) (.kill [0, 8, 9, 10] (.exit 0)))
  (.seq (.block 1 (.seq (.region [mV 11 9,
 mV 3 11])
  (.seq (.seq (.region [mV 12 0,
 mV 13 3,
 oN 14 (.iaddr 2 none (tP 12) (tP 13)),
 oN 15 (.faddr 0 (tP 14)),
 lD 16 15,
 oN 17 (.pcall 98 [(tP 16)]),
 oN 18 (.un .not (tP 17)),
 mV 19 18,
 oG 20 (.mov (tP 0)) 19 false,
 oG 21 (.mov (tP 3)) 19 false,
 oG 22 (.iaddr 2 none (tP 20) (tP 21)) 19 false,
 oG 23 (.faddr 1 (tP 22)) 19 false,
 oG 24 (.load none (tP 23)) 19 false,
 oG 25 (.bin .neq (tP 24) (.con (.int .i64 0))) 19 false,
 oG 26 (.mov (tP 25)) 19 false,
 oG 27 (.mov (tP 0)) 26 true,
 oG 28 (.mov (tP 3)) 26 true,
 oG 29 (.iaddr 2 none (tP 27) (tP 28)) 26 true,
 oG 30 (.faddr 1 (tP 29)) 26 true,
 oG 31 (.load none (tP 30)) 26 true,
 oG 32 (.bin .neq (tP 31) (.con (.int .i64 2))) 26 true,
 oG 33 (.pick (tP 26) (tP 32) (.con (.bool false))) 19 false,
 oG 34 (.mov (tP 33)) 19 false,
 oG 35 (.mov (tP 0)) 34 true,
 oG 36 (.mov (tP 3)) 34 true,
 oG 37 (.iaddr 2 none (tP 35) (tP 36)) 34 true,
 oG 38 (.faddr 1 (tP 37)) 34 true,
 oG 39 (.load none (tP 38)) 34 true,
 oG 40 (.bin .neq (tP 39) (.con (.int .i64 3))) 34 true,
 oG 41 (.pick (tP 34) (tP 40) (.con (.bool false))) 19 false,
 oN 42 (.pick (tP 19) (.con (.bool true)) (tP 41))])
  (.cond (tP 42) (.seq (.region [oN 2 (.mov (.con (.bool false)))])
  (.ret)) (.skip)))
  (.seq (.region [mV 43 3,
 oN 44 (.bin .gtr (tP 43) (.con (.int .i64 0))),
 mV 45 44,
 oG 46 (.mov (tP 0)) 45 true,
 oG 47 (.mov (tP 3)) 45 true,
 oG 48 (.bin .sub (tP 47) (.con (.int .i64 1))) 45 true,
 oG 49 (.iaddr 2 none (tP 46) (tP 48)) 45 true,
 oG 50 (.faddr 0 (tP 49)) 45 true,
 oG 51 (.load none (tP 50)) 45 true,
 oG 52 (.mov (tP 0)) 45 true,
 oG 53 (.mov (tP 3)) 45 true,
 oG 54 (.iaddr 2 none (tP 52) (tP 53)) 45 true,
 oG 55 (.faddr 0 (tP 54)) 45 true,
 oG 56 (.load none (tP 55)) 45 true,
 oG 57 (.pcall 99 [(tP 51), (tP 56)]) 45 true,
 oG 58 (.bin .neq (tP 57) (.con (.int .i64 (-1)))) 45 true,
 oN 59 (.pick (tP 45) (tP 58) (.con (.bool false)))])
  (.cond (tP 59) (.seq (.region [oN 2 (.mov (.con (.bool false)))])
  (.ret)) (.skip))))))
  (.region [oN 60 (.bin .add (tP 9) (.con (.int .i64 1))),
 mV 9 60]))))
def bM : CFn := ⟨61, .seq (.region [oN 2 (.mov (.con (.bool false)))])
  (.seq (.seq (.region [mV 4 0,
 oN 5 (.lenl (tP 4)),
 oN 6 (.bin .gtr (tP 5) (.con (.int .i64 8)))])
  (.cond (tP 6) (.seq (.region [oN 2 (.mov (.con (.bool false)))])
  (.ret)) (.skip)))
  (.seq (.seq (.region [mV 7 0,
 oN 8 (.lenl (tP 7)),
 oN 9 (.mov (.con (.int .i64 0)))])
  (.block 0 (.kill AY (.loop aT))))
  (.seq (.region [oN 2 (.mov (.con (.bool true)))])
  (.ret)))),
  [.tmp 2]⟩
theorem ky : IsFn Tryz.prog 60 bM := ah [([], []), ([], []), ([], []), ([], []), ([], []), (AY, []), ([], []), ([0, 8, 9, 10], []), ([], []), ([], [5]), ([], []), ([], []), ([], [14]), ([], []), ([], []), ([], []), ([], []), ([], [])] (by kernel_rfl)
def fp : CFn := ⟨12, .seq (.region [oN 2 (.mov (.con (.bool false)))])
  (.seq (.region [mV 3 0,
 oN 4 (.lenl (tP 3)),
 oN 5 (.bin .leq (tP 4) (.con (.int .i64 8))),
 mV 6 5,
 oG 7 (.mov (tP 0)) 6 true,
 oG 8 (.pcall 100 [(tP 7)]) 6 true,
 oG 9 (.take (tP 0)) 6 true,
 oG 10 (.pcall 48 [(tP 8), (tP 9)]) 6 true,
 oN 11 (.pick (tP 6) (tP 10) (.con (.bool false))),
 mV 2 11])
  (.ret)),
  [.tmp 2]⟩
theorem sn : IsFn Tryz.prog 61 fp := ah [([], []), ([], [5, 6, 7]), ([], [])] (by kernel_rfl)
abbrev bw (v0 v7 v8 v9 : AV) : List AV := [v0, aa, .any, .any, .any, .any, .any, v7, v8, v9, .any, .any, .any, .any, .any, .any, .any, .any, .any, .any, .any, .any, .any, .any, .any, .any, .any, .any, .any, .any, .any, .any, .any, .any, .any, .any, aa, aa, aa]
abbrev jZ (v0 : AV) : List AV := [v0, aa, .any, .any, .any, .any, .any, .any, .any, .any, .any, .any, .any, .any, .any, .any, .any, .any, .any, .any, .any, .any, .any, .any, .any, .any, .any, .any, .any, .any, .any, .any, .any, .any, .any, .any, aa, aa, aa]
abbrev aU : CC := .kill AZ (.seq (.region [oN 10 (.bin .lss (tP 9) (tP 8))])
  (.seq (.cond (tP 10) (.skip) (.kill [7, 8, 9, 10] (.exit 0)))
  (.seq (.block 1 (.seq (.region [mV 11 9,
 oN 12 (.iaddr 1 none (tP 7) (tP 9)),
 lD 13 12,
 mV 3 11,
 mV 4 13])
  (.seq (.region [mV 15 4,
 oN 16 (.pcall 54 [(tP 15)]),
 oN 14 (.take (tP 16)),
 oN 17 (.extract 14 0),
 oN 18 (.extract 14 1),
 oN 5 (.alloc [.sl .ex [], .int .i64 0]),
 ⟨none, .store 2 (tP 5) (tP 17), none⟩,
 mV 6 18])
  (.seq (.region [mV 19 6,
 oN 20 (.un .not (tP 19)),
 mV 21 20,
 oG 22 (.mov (tP 3)) 21 false,
 oG 23 (.bin .gtr (tP 22) (.con (.int .i64 0))) 21 false,
 oG 24 (.mov (tP 23)) 21 false,
 oG 25 (.mov (tP 0)) 24 true,
 oG 26 (.mov (tP 3)) 24 true,
 oG 27 (.bin .sub (tP 26) (.con (.int .i64 1))) 24 true,
 oG 28 (.iaddr 1 none (tP 25) (tP 27)) 24 true,
 oG 29 (.load none (tP 28)) 24 true,
 oG 30 (.mov (tP 4)) 24 true,
 oG 31 (.pcall 99 [(tP 29), (tP 30)]) 24 true,
 oG 32 (.bin .neq (tP 31) (.con (.int .i64 (-1)))) 24 true,
 oG 33 (.pick (tP 24) (tP 32) (.con (.bool false))) 21 false,
 oN 34 (.pick (tP 21) (.con (.bool true)) (tP 33))])
  (.cond (tP 34) (.seq (.region [oN 2 (.mov (.con (.bool false)))])
  (.ret)) (.skip))))))
  (.region [oN 35 (.bin .add (tP 9) (.con (.int .i64 1))),
 mV 9 35]))))
def cE : CFn := ⟨39, .seq (.region [oN 2 (.mov (.con (.bool false)))])
  (.seq (.seq (.region [mV 7 0,
 oN 8 (.lenl (tP 7)),
 oN 9 (.mov (.con (.int .i64 0)))])
  (.block 0 (.kill AZ (.loop aU))))
  (.seq (.region [oN 36 (.take (tP 0)),
 oN 37 (.lenl (tP 36)),
 oN 38 (.bin .leq (tP 37) (.con (.int .i64 8))),
 mV 2 38])
  (.ret))),
  [.tmp 2]⟩
theorem kz : IsFn Tryz.prog 62 cE := ah [([], []), ([], []), (AZ, []), ([], []), ([7, 8, 9, 10], []), ([], []), ([], [1, 2]), ([], [12]), ([], []), ([], []), ([], []), ([], [0]), ([], [])] (by kernel_rfl)
abbrev dh (v0 v1 v12 v13 : AV) : List AV := [v0, v1, aa, aa, .any, .any, .any, .any, .any, .any, .any, .any, v12, v13, .any, .any, .any, .any, .any, .any, .any, .any, .any, .any, .any, .any]
abbrev kA  : List AV := [.any, .any, aa, aa, .any, .any, .any, .any, .any, .any, .any, .any, .any, .any, .any, .any, .any, .any, .any, .any, .any, .any, .any, .any, .any, .any]
abbrev cm : CC := .kill l0 (.seq (.region [oN 14 (.bin .lss (tP 13) (tP 12))])
  (.seq (.cond (tP 14) (.skip) (.kill [0, 1, 12, 13, 14] (.exit 0)))
  (.seq (.block 1 (.seq (.region [mV 15 13,
 mV 5 15])
  (.seq (.region [mV 16 0,
 mV 17 5,
 oN 18 (.iaddr 1 none (tP 16) (tP 17)),
 lD 19 18,
 mV 20 1,
 mV 21 5,
 oN 22 (.iaddr 1 none (tP 20) (tP 21)),
 lD 23 22,
 oN 24 (.bin .neq (tP 19) (tP 23))])
  (.cond (tP 24) (.seq (.region [oN 4 (.mov (.con (.bool false)))])
  (.ret)) (.skip)))))
  (.region [oN 25 (.bin .add (tP 13) (.con (.int .i64 1))),
 mV 13 25]))))
def bW : CFn := ⟨26, .seq (.region [oN 4 (.mov (.con (.bool false)))])
  (.seq (.seq (.region [mV 6 0,
 oN 7 (.lenl (tP 6)),
 mV 8 1,
 oN 9 (.lenl (tP 8)),
 oN 10 (.bin .neq (tP 7) (tP 9))])
  (.cond (tP 10) (.seq (.region [oN 4 (.mov (.con (.bool false)))])
  (.ret)) (.skip)))
  (.seq (.seq (.region [mV 11 0,
 oN 12 (.lenl (tP 11)),
 oN 13 (.mov (.con (.int .i64 0)))])
  (.block 0 (.kill l0 (.loop cm))))
  (.seq (.region [oN 4 (.mov (.con (.bool true)))])
  (.ret)))),
  [.tmp 4]⟩
theorem lC : IsFn Tryz.prog 63 bW := ah [([], []), ([], []), ([], []), ([], []), ([], []), (l0, []), ([], []), ([0, 1, 12, 13, 14], []), ([], []), ([], []), ([], []), ([], []), ([], []), ([], []), ([], [])] (by kernel_rfl)
abbrev A1 (v0 v4 : AV) : List AV := [v0, aa, .any, .any, v4, .any, .any, .any, .any, .any, .any, .any, .any, .any, .any, .any, .any, .any, .any, .any, .any, .any, .any, .any]
abbrev pG : CC := .kill A0 (.block 1 (.seq (.region [mV 8 0,
 oN 9 (.tass 95 (.nilp) (tP 8)),
 mV 7 9,
 oN 10 (.extract 7 0),
 oN 11 (.extract 7 1),
 mV 5 10,
 mV 6 11])
  (.seq (.seq (.region [mV 12 6,
 oN 13 (.un .not (tP 12))])
  (.cond (tP 13) (.seq (.region [oN 14 (.take (tP 4)),
 mV 15 0,
 oN 2 (.take (tP 14)),
 mV 3 15])
  (.ret)) (.skip)))
  (.seq (.region [oN 16 (.take (tP 4)),
 mV 17 5,
 oN 18 (.bslice 1 false [(tP 17)]),
 oN 19 (.append 1 8 false (tP 16) (tP 18)),
 oN 4 (.take (tP 19))])
  (.region [mV 20 5,
 oN 21 (.nilck (tP 20)),
 oN 22 (.faddr 2 (tP 21)),
 lD 23 22,
 mV 0 23])))))
def eJ : CFn := ⟨24, .seq (.region [oN 2 (.take (.con (.sl .ex []))),
 oN 3 (.mov (.con (.nili)))])
  (.seq (.region [oN 4 (.take (.con (.sl .ex [])))])
  (.block 0 (.kill A0 (.loop pG)))),
  [.tmp 2, .tmp 3]⟩
theorem qq : IsFn Tryz.prog 65 eJ := ah [([], [0]), ([], [0]), (A0, []), ([], []), ([], []), ([], [0, 2]), ([], []), ([], [0, 4]), ([], [])] (by kernel_rfl)
def gr : CFn := ⟨8, .seq (.region [oN 2 (.mov (.con (.str ⟨#[]⟩)))])
  (.seq (.seq (.region [mV 3 0,
 oN 4 (.lenl (tP 3)),
 oN 5 (.bin .eql (tP 4) (.con (.int .i64 0)))])
  (.cond (tP 5) (.seq (.region [oN 2 (.mov (.con (.str ⟨#[46]⟩)))])
  (.ret)) (.skip)))
  (.seq (.region [oN 6 (.take (tP 0)),
 oN 7 (.pcall 105 [(tP 6)]),
 mV 2 7])
  (.ret))),
  [.tmp 2]⟩
theorem sq : IsFn Tryz.prog 66 gr := ah [([], []), ([], []), ([], []), ([], []), ([], [0, 1]), ([], [])] (by kernel_rfl)
theorem pH : cW Tryz.prog 67 (.prim Aj) := G1 (⟨Tryz.f67, Tryz.func67, by kernel_rfl, by kernel_rfl⟩ : dx Tryz.prog 67) Fa (fun n h0 h1 w ht => Tryz.strconv_Itoa n h0 h1 w ht)
end Go.Proofs.YtibchilpaaiecaaGreatDoor.F
