/- Functions of the program, compiled, by a program (gen.py). -/
import Derived.Test.YtibchilpaaiecaaGreatDoorProg
import Derived.KernelRfl
import Derived.Test.YtibchilpaaiecaaGreatDoorM19
import Derived.Test.YtibchilpaaiecaaGreatDoorM20
import Derived.Test.YtibchilpaaiecaaGreatDoorSh
import Derived.Test.YtibchilpaaiecaaGreatDoorSp
set_option maxRecDepth 100000
namespace Go.Proofs.YtibchilpaaiecaaGreatDoor.F
open Go.Proofs.YtibchilpaaiecaaGreatDoor.M Go.Proofs Go.RowKit
abbrev kl1_0 : List Nat := [4, 5, 6, 7, 8, 9, 10, 11, 14, 15, 16, 17, 18, 19, 20, 21, 22, 23, 24, 25]
abbrev kl1_1 : List Nat := [4, 5, 6, 9, 10, 11, 12, 13, 14, 15, 16, 17, 18]
abbrev kl1_2 : List Nat := [0, 2, 5, 6, 7, 8, 9, 10, 11, 12, 13, 14, 15, 16, 17, 21, 22, 23, 24, 25, 26, 27, 28, 29, 30]
abbrev kl1_3 : List Nat := [3, 5, 7, 8, 9, 10, 11, 12, 13, 14, 15, 16, 17, 20, 21, 22, 23, 24, 25, 29, 30, 31, 32, 33, 34, 35, 36, 37, 38, 39, 40, 41, 42, 43, 44, 45]
abbrev kl1_4 : List Nat := [0, 2, 4, 5, 9, 10, 11, 12, 13, 14, 15, 16, 17, 18, 19, 20, 21, 22, 23, 24, 25, 26]
abbrev kl1_5 : List Nat := [0, 5, 6, 7, 8, 9, 10, 14, 15, 16, 17, 18, 19, 20, 21, 22, 23, 24, 25, 26, 27, 28, 29, 30, 31, 32, 33, 34, 35, 36, 37, 38, 39, 40, 41, 42, 43, 44, 45, 46, 47, 48, 49, 50, 51, 52, 53, 54, 55, 56, 57, 58, 59, 60, 61, 62, 63, 64, 65, 66, 67, 68, 69, 70, 71, 72, 73, 74, 75]
abbrev kl1_6 : List Nat := [3, 8, 9, 10, 11, 12, 13, 14, 15, 16, 17, 18, 19, 20, 21, 22, 23, 24, 25, 26, 27, 28, 29, 30, 31, 32, 33, 34, 35, 36, 37, 38, 39, 40, 41, 42, 43, 44, 45, 46, 47, 48, 49, 50, 51, 52, 53, 54, 55, 56]
abbrev kl1_7 : List Nat := [2, 3, 4, 5, 6, 7, 11, 12, 13, 14, 15, 16, 17, 18, 19, 20, 21, 22, 23, 24, 25, 26, 27, 28, 29, 30, 31, 32, 33, 34, 35, 36, 37, 38, 39, 40, 41, 42, 43, 44, 45, 46, 47, 48, 49]
abbrev kl1_8 : List Nat := [0, 2, 5, 6, 7, 8, 12, 13, 14, 15, 16, 17, 18, 19, 20, 21, 22, 23, 24, 25]
abbrev kl1_9 : List Nat := [0, 2, 5, 6, 7, 8, 12, 13, 14, 15, 16, 17, 18, 19, 20, 21, 22, 23, 24]
abbrev kl1_10 : List Nat := [2, 5, 6, 30, 31, 32, 33, 34, 35, 36, 37, 38, 39, 40, 41]
abbrev kl1_11 : List Nat := [2, 5, 6, 7, 8, 9, 10, 11, 12, 13, 14, 15, 16, 17, 18, 19, 20]
abbrev kl1_12 : List Nat := [2, 4, 5, 6, 7, 8, 9, 10, 11, 12, 13, 14, 15, 16, 17, 18, 19, 20, 21, 22, 23, 24, 25, 26, 27, 28, 29, 30]
abbrev kl1_13 : List Nat := [0, 1, 2, 4, 5, 6, 7, 8, 9, 10, 11, 12, 13, 14, 15, 16, 17, 18, 19, 23, 24, 25, 26, 27, 28, 29, 30, 31, 32]
abbrev kl1_14 : List Nat := [0, 2, 4, 5, 6, 10, 11, 12, 13, 14, 15, 16, 17, 18, 19, 20, 21, 22]
theorem tab_ok (w0 w : World) (hw : GW w0) (hb : Below w0.heap.size w0 w) : Lib.TabIs Tryz.prog w "internal/strconv.uint64pow10" .u64 Lib.pow10Tab := by
  obtain ⟨el, fr, hh⟩ := hw.1 _ (List.mem_cons_self ..)
  have h2 := (hb.block 6 (Array.getElem?_eq_some_iff.1 hh).1).trans hh
  unfold Lib.TabIs World.var?
  rw [show Tryz.prog.globalNamed "internal/strconv.uint64pow10" = some 6 from by kernel_rfl]
  simp only [Option.bind_some]
  rw [h2]
  rfl
theorem errvar_ok {P : Program} {w0 w : World} {g : Nat} {n : String} (h : ∃ tp q el fr, w0.heap[g]? = some (.cells #[.iface tp q] el fr)) (hb : Below w0.heap.size w0 w) (hn : P.globalNamed n = some g) : ∃ tp q, w.var? P n = some #[.iface tp q] := by
  obtain ⟨tp, q, el, fr, hh⟩ := h
  have h2 := (hb.block g (Array.getElem?_eq_some_iff.1 hh).1).trans hh
  exact ⟨tp, q, by unfold World.var?; rw [hn]; simp only [Option.bind_some]; rw [h2]⟩
def c_regencylaw37_SpeechBack : CFn := ⟨54, .seq (.region [oN 2 (.box (tP 0)),
 oN 4 (.mov (.con (.bool false)))])
  (.seq (.seq (.region [oN 9 (.pcall 6 []),
 oN 10 (.un .not (tP 9))])
  (.cond (tP 10) (.seq (.region [oN 4 (.mov (.con (.bool false)))])
  (.ret)) (.skip)))
  (.seq (.seq (.region [oN 11 (.load (some 11) (tP 2)),
 oN 12 (.pcall 7 [(tP 11)]),
 mV 13 12,
 oG 14 (.mov (tP 1)) 13 false,
 oG 15 (.lens (tP 14)) 13 false,
 oG 16 (.bin .gtr (tP 15) (.con (.int .i64 900))) 13 false,
 oN 17 (.pick (tP 13) (.con (.bool true)) (tP 16))])
  (.cond (tP 17) (.seq (.region [oN 4 (.mov (.con (.bool true)))])
  (.ret)) (.skip)))
  (.seq (.seq (.region [oN 18 (.load (some 11) (tP 2)),
 oN 19 (.pcall 12 [(tP 18)])])
  (.cond (tP 19) (.seq (.region [oN 21 (.load (some 11) (tP 2)),
 oN 22 (.pcall 10 [(tP 21)]),
 oN 23 (.call 13 [(tP 22)]),
 oN 20 (.take (tP 23)),
 oN 24 (.extract 20 0),
 oN 25 (.extract 20 1),
 oN 5 (.alloc [.int .i64 0, .sl .ex [], .sl .ex [], .sl .ex [], .sl .ex [], .int .i64 0, .int .i64 0, .sl .ex [], .str ⟨#[]⟩, .sl .ex [], .bool false]),
 ⟨none, .store 11 (tP 5) (tP 24), none⟩,
 mV 6 25])
  (.seq (.region [mV 26 6,
 oN 27 (.isnil .ifc true (tP 26)),
 mV 28 27,
 oG 29 (.load (some 11) (tP 5)) 28 false,
 oG 30 (.load (some 11) (tP 2)) 28 false,
 oG 31 (.pcall 14 [(tP 29), (tP 30)]) 28 false,
 oG 32 (.un .not (tP 31)) 28 false,
 oN 33 (.pick (tP 28) (.con (.bool true)) (tP 32))])
  (.cond (tP 33) (.seq (.region [oN 4 (.mov (.con (.bool false)))])
  (.ret)) (.skip)))) (.seq (.region [oN 34 (.load (some 11) (tP 2)),
 oN 35 (.pcall 10 [(tP 34)]),
 oN 36 (.bin .neq (tP 35) (.con (.str ⟨#[]⟩)))])
  (.cond (tP 36) (.seq (.region [oN 4 (.mov (.con (.bool false)))])
  (.ret)) (.skip)))))
  (.seq (.region [mV 38 1,
 oN 39 (.call 13 [(tP 38)]),
 oN 37 (.take (tP 39)),
 oN 40 (.extract 37 0),
 oN 41 (.extract 37 1),
 oN 7 (.alloc [.int .i64 0, .sl .ex [], .sl .ex [], .sl .ex [], .sl .ex [], .int .i64 0, .int .i64 0, .sl .ex [], .str ⟨#[]⟩, .sl .ex [], .bool false]),
 ⟨none, .store 11 (tP 7) (tP 40), none⟩,
 mV 8 41])
  (.seq (.region [mV 42 8,
 oN 43 (.isnil .ifc true (tP 42)),
 mV 44 43,
 oG 45 (.load (some 11) (tP 7)) 44 false,
 oG 46 (.pcall 10 [(tP 45)]) 44 false,
 oG 47 (.mov (tP 1)) 44 false,
 oG 48 (.bin .eql (tP 46) (tP 47)) 44 false,
 oG 49 (.mov (tP 48)) 44 false,
 oG 50 (.load (some 11) (tP 7)) 49 true,
 oG 51 (.pcall 12 [(tP 50)]) 49 true,
 oG 52 (.pick (tP 49) (tP 51) (.con (.bool false))) 44 false,
 oN 53 (.pick (tP 44) (.con (.bool true)) (tP 52)),
 mV 4 53])
  (.ret)))))),
  [.tmp 4]⟩
theorem is_regencylaw37_SpeechBack : IsFn Tryz.prog 4 c_regencylaw37_SpeechBack := isFn_of [([], []), ([], [0]), ([], []), ([], []), ([], [1]), ([], []), ([], []), ([], [1]), ([], [1, 3]), ([], [5]), ([], []), ([], []), ([], [1]), ([], []), ([], []), ([], [2]), ([], [4, 9]), ([], [])] (by kernel_rfl)
def c_regencylaw37_first : CFn := ⟨84, .seq (.region [oN 0 (.mov (.con (.bool false)))])
  (.seq (.region [oN 12 (.call 13 [(.con (.str ⟨#[119, 114, 105, 116, 101, 32, 49, 46, 50, 32, 48, 32, 54, 56, 54, 57]⟩))]),
 oN 11 (.take (tP 12)),
 oN 13 (.extract 11 0),
 oN 14 (.extract 11 1),
 oN 1 (.alloc [.int .i64 0, .sl .ex [], .sl .ex [], .sl .ex [], .sl .ex [], .int .i64 0, .int .i64 0, .sl .ex [], .str ⟨#[]⟩, .sl .ex [], .bool false]),
 ⟨none, .store 11 (tP 1) (tP 13), none⟩,
 mV 2 14])
  (.seq (.region [oN 16 (.call 13 [(.con (.str ⟨#[115, 112, 101, 97, 107]⟩))]),
 oN 15 (.take (tP 16)),
 oN 17 (.extract 15 0),
 oN 18 (.extract 15 1),
 oN 3 (.alloc [.int .i64 0, .sl .ex [], .sl .ex [], .sl .ex [], .sl .ex [], .int .i64 0, .int .i64 0, .sl .ex [], .str ⟨#[]⟩, .sl .ex [], .bool false]),
 ⟨none, .store 11 (tP 3) (tP 17), none⟩,
 mV 4 18])
  (.seq (.region [oN 20 (.call 13 [(.con (.str ⟨#[119, 114, 105, 116, 101, 32, 49, 46, 50]⟩))]),
 oN 19 (.take (tP 20)),
 oN 21 (.extract 19 0),
 oN 22 (.extract 19 1),
 oN 5 (.alloc [.int .i64 0, .sl .ex [], .sl .ex [], .sl .ex [], .sl .ex [], .int .i64 0, .int .i64 0, .sl .ex [], .str ⟨#[]⟩, .sl .ex [], .bool false]),
 ⟨none, .store 11 (tP 5) (tP 21), none⟩,
 mV 6 22])
  (.seq (.region [oN 24 (.pcall 16 [(.con (.str ⟨#[49, 47, 48, 61, 51]⟩))]),
 oN 23 (.take (tP 24)),
 oN 25 (.extract 23 0),
 oN 26 (.extract 23 1),
 oN 7 (.take (tP 25)),
 mV 8 26])
  (.seq (.region [oN 28 (.pcall 18 [(.con (.str ⟨#[49, 47, 48, 44, 50, 47, 48]⟩))]),
 oN 27 (.take (tP 28)),
 oN 29 (.extract 27 0),
 oN 30 (.extract 27 1),
 oN 9 (.take (tP 29)),
 mV 10 30])
  (.seq (.region [mV 31 2,
 oN 32 (.isnil .ifc false (tP 31)),
 mV 33 32,
 oG 34 (.faddr 0 (tP 1)) 33 true,
 oG 35 (.load none (tP 34)) 33 true,
 oG 36 (.bin .eql (tP 35) (.con (.int .i64 8))) 33 true,
 oN 37 (.pick (tP 33) (tP 36) (.con (.bool false))),
 mV 38 37,
 oG 39 (.faddr 7 (tP 1)) 38 true,
 oG 40 (.load none (tP 39)) 38 true,
 oG 41 (.cBytesStr (tP 40)) 38 true,
 oG 42 (.bin .eql (tP 41) (.con (.str ⟨#[104, 105]⟩))) 38 true,
 oN 43 (.pick (tP 38) (tP 42) (.con (.bool false))),
 mV 44 43,
 oG 45 (.load (some 11) (tP 1)) 44 true,
 oG 46 (.pcall 10 [(tP 45)]) 44 true,
 oG 47 (.bin .eql (tP 46) (.con (.str ⟨#[119, 114, 105, 116, 101, 32, 49, 46, 50, 32, 48, 32, 54, 56, 54, 57]⟩))) 44 true,
 oN 48 (.pick (tP 44) (tP 47) (.con (.bool false))),
 mV 49 48,
 oG 50 (.mov (tP 4)) 49 true,
 oG 51 (.call 21 [(tP 50)]) 49 true,
 oG 52 (.bin .eql (tP 51) (.con (.int .i64 30))) 49 true,
 oN 53 (.pick (tP 49) (tP 52) (.con (.bool false))),
 mV 54 53,
 oG 55 (.mov (tP 6)) 54 true,
 oG 56 (.call 21 [(tP 55)]) 54 true,
 oG 57 (.bin .eql (tP 56) (.con (.int .i64 10))) 54 true,
 oN 58 (.pick (tP 54) (tP 57) (.con (.bool false))),
 mV 59 58,
 oG 60 (.mov (tP 4)) 59 true,
 oG 61 (.call 22 [(tP 60)]) 59 true,
 oG 62 (.bin .eql (tP 61) (.con (.str ⟨#[115, 112, 101, 101, 99, 104]⟩))) 59 true,
 oN 63 (.pick (tP 59) (tP 62) (.con (.bool false))),
 mV 64 63,
 oG 65 (.pcall 8 [(.con (.int .i64 20))]) 64 true,
 oG 66 (.bin .eql (tP 65) (.con (.str ⟨#[115, 116, 111, 114, 101]⟩))) 64 true,
 oN 67 (.pick (tP 64) (tP 66) (.con (.bool false))),
 mV 68 67,
 oG 69 (.mov (tP 8)) 68 true,
 oN 70 (.pick (tP 68) (tP 69) (.con (.bool false))),
 mV 71 70,
 oG 72 (.take (tP 7)) 71 true,
 oG 73 (.lenl (tP 72)) 71 true,
 oG 74 (.bin .eql (tP 73) (.con (.int .i64 1))) 71 true,
 oN 75 (.pick (tP 71) (tP 74) (.con (.bool false))),
 mV 76 75,
 oG 77 (.mov (tP 10)) 76 true,
 oN 78 (.pick (tP 76) (tP 77) (.con (.bool false))),
 mV 79 78,
 oG 80 (.take (tP 9)) 79 true,
 oG 81 (.lenl (tP 80)) 79 true,
 oG 82 (.bin .eql (tP 81) (.con (.int .i64 2))) 79 true,
 oN 83 (.pick (tP 79) (tP 82) (.con (.bool false))),
 mV 0 83])
  (.ret))))))),
  [.tmp 0]⟩
theorem is_regencylaw37_first : IsFn Tryz.prog 6 c_regencylaw37_first := isFn_of [([], []), ([], [1]), ([], [1]), ([], [1]), ([], [0, 1, 4]), ([], [0, 1, 4]), ([], [15, 34, 41, 49]), ([], [])] (by kernel_rfl)
def c_regencylaw37_great : CFn := ⟨41, .seq (.region [oN 1 (.box (tP 0)),
 oN 2 (.mov (.con (.bool false)))])
  (.seq (.region [oN 3 (.faddr 1 (tP 1)),
 lD 4 3,
 oN 5 (.lenl (tP 4)),
 oN 6 (.bin .gtr (tP 5) (.con (.int .i64 60))),
 mV 7 6,
 oG 8 (.faddr 9 (tP 1)) 7 false,
 oG 9 (.load none (tP 8)) 7 false,
 oG 10 (.lenl (tP 9)) 7 false,
 oG 11 (.bin .gtr (tP 10) (.con (.int .i64 60))) 7 false,
 oN 12 (.pick (tP 7) (.con (.bool true)) (tP 11)),
 mV 13 12,
 oG 14 (.faddr 2 (tP 1)) 13 false,
 oG 15 (.load none (tP 14)) 13 false,
 oG 16 (.lenl (tP 15)) 13 false,
 oG 17 (.faddr 3 (tP 1)) 13 false,
 oG 18 (.load none (tP 17)) 13 false,
 oG 19 (.lenl (tP 18)) 13 false,
 oG 20 (.bin .add (tP 16) (tP 19)) 13 false,
 oG 21 (.bin .gtr (tP 20) (.con (.int .i64 60))) 13 false,
 oN 22 (.pick (tP 13) (.con (.bool true)) (tP 21)),
 mV 23 22,
 oG 24 (.faddr 4 (tP 1)) 23 false,
 oG 25 (.load none (tP 24)) 23 false,
 oG 26 (.lenl (tP 25)) 23 false,
 oG 27 (.bin .gtr (tP 26) (.con (.int .i64 60))) 23 false,
 oN 28 (.pick (tP 23) (.con (.bool true)) (tP 27)),
 mV 29 28,
 oG 30 (.faddr 7 (tP 1)) 29 false,
 oG 31 (.load none (tP 30)) 29 false,
 oG 32 (.lenl (tP 31)) 29 false,
 oG 33 (.bin .gtr (tP 32) (.con (.int .i64 600))) 29 false,
 oN 34 (.pick (tP 29) (.con (.bool true)) (tP 33)),
 mV 35 34,
 oG 36 (.faddr 8 (tP 1)) 35 false,
 oG 37 (.load none (tP 36)) 35 false,
 oG 38 (.lens (tP 37)) 35 false,
 oG 39 (.bin .gtr (tP 38) (.con (.int .i64 100))) 35 false,
 oN 40 (.pick (tP 35) (.con (.bool true)) (tP 39)),
 mV 2 40])
  (.ret)),
  [.tmp 2]⟩
theorem is_regencylaw37_great : IsFn Tryz.prog 7 c_regencylaw37_great := isFn_of [([], []), ([], []), ([], [])] (by kernel_rfl)
def c_speech_Name : CFn := ⟨13, .seq (.region [oN 2 (.mov (.con (.str ⟨#[]⟩)))])
  (.seq (.seq (.region [mV 3 0,
 oN 4 (.bin .lss (tP 3) (.con (.int .i64 0))),
 mV 5 4,
 oG 6 (.mov (tP 0)) 5 false,
 oG 7 (.bin .gtr (tP 6) (.con (.int .i64 20))) 5 false,
 oN 8 (.pick (tP 5) (.con (.bool true)) (tP 7))])
  (.cond (tP 8) (.seq (.region [oN 2 (.mov (.con (.str ⟨#[]⟩)))])
  (.ret)) (.skip)))
  (.seq (.region [oN 9 (.pcall 26 []),
 mV 10 0,
 oN 11 (.iaddr 1 none (tP 9) (tP 10)),
 lD 12 11,
 mV 2 12])
  (.ret))),
  [.tmp 2]⟩
theorem is_speech_Name : IsFn Tryz.prog 8 c_speech_Name := isFn_of [([], []), ([], []), ([], []), ([], []), ([], [0]), ([], [])] (by kernel_rfl)
abbrev s_speech_Text_0 (v1 v3 v18 v19 v20 : AV) : List AV := [.any, v1, .any, v3, undefA, .any, .any, .any, .any, .any, .any, .any, .any, .any, .any, .any, .any, .any, v18, v19, v20, .any, .any, .any, .any, .any, .any, .any, .any, .any, .any, undefA, undefA]
abbrev x_speech_Text_0 (v3 : AV) : List AV := [.any, .any, .any, v3, undefA, .any, .any, .any, .any, .any, .any, .any, .any, .any, .any, .any, .any, .any, .any, .any, .any, .any, .any, .any, .any, .any, .any, .any, .any, .any, .any, undefA, undefA]
abbrev l_speech_Text_0 : CC := .kill kl1_2 (.seq (.region [oN 21 (.bin .lss (tP 20) (tP 19))])
  (.seq (.cond (tP 21) (.skip) (.kill [1, 18, 19, 20, 21] (.exit 0)))
  (.seq (.block 1 (.seq (.region [oN 22 (.iaddr 1 none (tP 18) (tP 20)),
 lD 23 22,
 mV 5 23])
  (.region [oN 24 (.take (tP 3)),
 oN 25 (.load (some 11) (tP 1)),
 mV 26 5,
 oN 27 (.pcall 28 [(tP 25), (tP 26)]),
 oN 28 (.bslice 1 false [(tP 27)]),
 oN 29 (.append 1 16 false (tP 24) (tP 28)),
 oN 3 (.take (tP 29))])))
  (.region [oN 30 (.bin .add (tP 20) (.con (.int .i64 1))),
 mV 20 30]))))
def c_speech_Text : CFn := ⟨33, .seq (.region [oN 1 (.box (tP 0)),
 oN 2 (.mov (.con (.str ⟨#[]⟩)))])
  (.seq (.seq (.region [oN 6 (.load (some 11) (tP 1)),
 oN 7 (.pcall 12 [(tP 6)]),
 oN 8 (.un .not (tP 7))])
  (.cond (tP 8) (.seq (.region [oN 2 (.mov (.con (.str ⟨#[]⟩)))])
  (.ret)) (.skip)))
  (.seq (.region [oN 9 (.faddr 0 (tP 1)),
 lD 10 9,
 oN 11 (.pcall 8 [(tP 10)]),
 oN 12 (.bslice 1 false [(tP 11)]),
 oN 3 (.take (tP 12))])
  (.seq (.seq (.region [oN 13 (.pcall 27 []),
 oN 14 (.faddr 0 (tP 1)),
 lD 15 14,
 oN 16 (.iaddr 1 none (tP 13) (tP 15)),
 lD 17 16,
 oN 18 (.cStrBytes (tP 17)),
 oN 19 (.lenl (tP 18)),
 oN 20 (.mov (.con (.int .i64 0)))])
  (.block 0 (.kill kl1_2 (.loop l_speech_Text_0))))
  (.seq (.region [oN 31 (.take (tP 3)),
 oN 32 (.pcall 29 [(tP 31), (.con (.str ⟨#[32]⟩))]),
 mV 2 32])
  (.ret))))),
  [.tmp 2]⟩
theorem is_speech_Text : IsFn Tryz.prog 10 c_speech_Text := isFn_of [([], []), ([], [1]), ([], []), ([], []), ([], [2, 4]), ([], [0]), (kl1_2, []), ([], []), ([1, 18, 19, 20, 21], []), ([], []), ([], [0, 3, 6]), ([], []), ([], [0, 1]), ([], [])] (by kernel_rfl)
def c_call_Right : CFn := ⟨20, .seq (.region [oN 1 (.box (tP 0)),
 oN 2 (.mov (.con (.bool false)))])
  (.seq (.region [oN 3 (.faddr 0 (tP 1)),
 lD 4 3,
 oN 5 (.pcall 36 [(tP 4)]),
 mV 6 5,
 oG 7 (.load (some 11) (tP 1)) 6 true,
 oG 8 (.pcall 37 [(tP 7)]) 6 true,
 oG 9 (.load (some 11) (tP 1)) 6 true,
 oG 10 (.pcall 14 [(tP 8), (tP 9)]) 6 true,
 oN 11 (.pick (tP 6) (tP 10) (.con (.bool false))),
 mV 12 11,
 oG 13 (.faddr 0 (tP 1)) 12 true,
 oG 14 (.load none (tP 13)) 12 true,
 oG 15 (.pcall 39 [(tP 14)]) 12 true,
 oG 16 (.mkfn (.func 40) [] [(tP 1)]) 12 true,
 oG 17 (.call 38 [(tP 15), (tP 16)]) 12 true,
 oG 18 (.un .not (tP 17)) 12 true,
 oN 19 (.pick (tP 12) (tP 18) (.con (.bool false))),
 mV 2 19])
  (.ret)),
  [.tmp 2]⟩
theorem is_call_Right : IsFn Tryz.prog 12 c_call_Right := isFn_of [([], []), ([], [2, 5, 7, 12]), ([], [])] (by kernel_rfl)
abbrev s_speech_Parse_0 (v0 v2 v4 v6 v26 v27 v28 : AV) : List AV := [v0, undefA, v2, .any, v4, .any, v6, .any, .any, .any, .any, .any, .any, .any, .any, .any, .any, .any, undefA, undefA, .any, .any, .any, .any, .any, .any, v26, v27, v28, .any, .any, .any, .any, .any, .any, .any, .any, .any, .any, .any, .any, .any, .any, .any, .any, .any, undefA, undefA, undefA, undefA, undefA, undefA, undefA]
abbrev x_speech_Parse_0 (v0 v2 v6 : AV) : List AV := [v0, undefA, v2, .any, .any, .any, v6, .any, .any, .any, .any, .any, .any, .any, .any, .any, .any, .any, undefA, undefA, .any, .any, .any, .any, .any, .any, .any, .any, .any, .any, .any, .any, .any, .any, .any, .any, .any, .any, .any, .any, .any, .any, .any, .any, .any, .any, undefA, undefA, undefA, undefA, undefA, undefA, undefA]
abbrev l_speech_Parse_0 : CC := .kill kl1_3 (.seq (.region [oN 29 (.bin .lss (tP 28) (tP 27))])
  (.seq (.cond (tP 29) (.skip) (.kill [4, 26, 27, 28, 29] (.exit 0)))
  (.seq (.block 1 (.seq (.region [mV 30 28,
 oN 31 (.iaddr 1 none (tP 26) (tP 28)),
 lD 32 31,
 mV 7 30,
 mV 8 32])
  (.seq (.region [mV 33 7,
 oN 34 (.bin .add (tP 33) (.con (.int .i64 1))),
 mV 35 4,
 oN 36 (.lenl (tP 35)),
 oN 37 (.bin .lss (tP 34) (tP 36))])
  (.cond (tP 37) (.region [mV 38 8,
 mV 39 4,
 mV 40 7,
 oN 41 (.bin .add (tP 40) (.con (.int .i64 1))),
 oN 42 (.iaddr 1 none (tP 39) (tP 41)),
 lD 43 42,
 oN 44 (.call 45 [(tP 6), (tP 38), (tP 43)])]) (.skip)))))
  (.region [oN 45 (.bin .add (tP 28) (.con (.int .i64 1))),
 mV 28 45]))))
def c_speech_Parse : CFn := ⟨53, .seq (.region [oN 2 (.alloc [.int .i64 0, .sl .ex [], .sl .ex [], .sl .ex [], .sl .ex [], .int .i64 0, .int .i64 0, .sl .ex [], .str ⟨#[]⟩, .sl .ex [], .bool false]),
 oN 3 (.mov (.con (.nili)))])
  (.seq (.region [mV 9 0,
 oN 10 (.pcall 42 [(tP 9), (.con (.str ⟨#[32]⟩))]),
 oN 4 (.take (tP 10))])
  (.seq (.region [oN 11 (.pcall 26 []),
 mV 12 4,
 oN 13 (.iaddr 1 none (tP 12) (.con (.int .i64 0))),
 lD 14 13,
 oN 15 (.pcall 43 [(tP 11), (tP 14)]),
 mV 5 15])
  (.seq (.seq (.region [mV 16 5,
 oN 17 (.bin .lss (tP 16) (.con (.int .i64 0)))])
  (.cond (tP 17) (.seq (.region [oN 18 (.build [.int .i64 0, .sl .ex [], .sl .ex [], .sl .ex [], .sl .ex [], .int .i64 0, .int .i64 0, .sl .ex [], .str ⟨#[]⟩, .sl .ex [], .bool false] []),
 oN 19 (.call 44 [(.con (.str ⟨#[115, 112, 101, 101, 99, 104]⟩)), (.con (.int .i64 30))]),
 ⟨none, .store 11 (tP 2) (tP 18), none⟩,
 mV 3 19])
  (.ret)) (.skip)))
  (.seq (.region [mV 20 5,
 oN 21 (.build [.int .i64 0, .sl .ex [], .sl .ex [], .sl .ex [], .sl .ex [], .int .i64 0, .int .i64 0, .sl .ex [], .str ⟨#[]⟩, .sl .ex [], .bool false] [(0, 1, (tP 20))]),
 oN 6 (.alloc [.int .i64 0, .sl .ex [], .sl .ex [], .sl .ex [], .sl .ex [], .int .i64 0, .int .i64 0, .sl .ex [], .str ⟨#[]⟩, .sl .ex [], .bool false]),
 ⟨none, .store 11 (tP 6) (tP 21), none⟩])
  (.seq (.seq (.region [oN 22 (.pcall 27 []),
 mV 23 5,
 oN 24 (.iaddr 1 none (tP 22) (tP 23)),
 lD 25 24,
 oN 26 (.cStrBytes (tP 25)),
 oN 27 (.lenl (tP 26)),
 oN 28 (.mov (.con (.int .i64 0)))])
  (.block 0 (.kill kl1_3 (.loop l_speech_Parse_0))))
  (.seq (.seq (.region [oN 46 (.load (some 11) (tP 6)),
 oN 47 (.pcall 10 [(tP 46)]),
 mV 48 0,
 oN 49 (.bin .neq (tP 47) (tP 48))])
  (.cond (tP 49) (.seq (.region [oN 50 (.build [.int .i64 0, .sl .ex [], .sl .ex [], .sl .ex [], .sl .ex [], .int .i64 0, .int .i64 0, .sl .ex [], .str ⟨#[]⟩, .sl .ex [], .bool false] []),
 oN 51 (.call 44 [(.con (.str ⟨#[115, 112, 101, 101, 99, 104]⟩)), (.con (.int .i64 10))]),
 ⟨none, .store 11 (tP 2) (tP 50), none⟩,
 mV 3 51])
  (.ret)) (.skip)))
  (.seq (.region [oN 52 (.load (some 11) (tP 6)),
 ⟨none, .store 11 (tP 2) (tP 52), none⟩,
 oN 3 (.mov (.con (.nili)))])
  (.ret)))))))),
  [.cell 2 (some 11), .tmp 3]⟩
theorem is_speech_Parse : IsFn Tryz.prog 13 c_speech_Parse := isFn_of [([], []), ([], [1, 2]), ([], [0, 4]), ([], []), ([], []), ([], []), ([], []), ([], [0]), (kl1_3, []), ([], []), ([4, 26, 27, 28, 29], []), ([], []), ([], []), ([], []), ([], []), ([], [1]), ([], []), ([], []), ([], []), ([], [])] (by kernel_rfl)
def c_call_Same : CFn := ⟨82, .seq (.region [oN 2 (.box (tP 0)),
 oN 3 (.box (tP 1)),
 oN 4 (.mov (.con (.bool false)))])
  (.seq (.region [oN 6 (.faddr 1 (tP 2)),
 lD 7 6,
 oN 8 (.faddr 1 (tP 3)),
 lD 9 8,
 oN 10 (.pcall 46 [(tP 7), (tP 9)]),
 mV 11 10,
 oG 12 (.faddr 2 (tP 2)) 11 true,
 oG 13 (.load none (tP 12)) 11 true,
 oG 14 (.faddr 2 (tP 3)) 11 true,
 oG 15 (.load none (tP 14)) 11 true,
 oG 16 (.pcall 47 [(tP 13), (tP 15)]) 11 true,
 oN 17 (.pick (tP 11) (tP 16) (.con (.bool false))),
 mV 18 17,
 oG 19 (.faddr 3 (tP 2)) 18 true,
 oG 20 (.load none (tP 19)) 18 true,
 oG 21 (.faddr 3 (tP 3)) 18 true,
 oG 22 (.load none (tP 21)) 18 true,
 oG 23 (.pcall 47 [(tP 20), (tP 22)]) 18 true,
 oN 24 (.pick (tP 18) (tP 23) (.con (.bool false))),
 mV 25 24,
 oG 26 (.faddr 4 (tP 2)) 25 true,
 oG 27 (.load none (tP 26)) 25 true,
 oG 28 (.faddr 4 (tP 3)) 25 true,
 oG 29 (.load none (tP 28)) 25 true,
 oG 30 (.pcall 48 [(tP 27), (tP 29)]) 25 true,
 oN 31 (.pick (tP 25) (tP 30) (.con (.bool false))),
 mV 32 31,
 oG 33 (.faddr 9 (tP 2)) 32 true,
 oG 34 (.load none (tP 33)) 32 true,
 oG 35 (.faddr 9 (tP 3)) 32 true,
 oG 36 (.load none (tP 35)) 32 true,
 oG 37 (.pcall 46 [(tP 34), (tP 36)]) 32 true,
 oN 38 (.pick (tP 32) (tP 37) (.con (.bool false))),
 mV 5 38])
  (.seq (.region [mV 39 5,
 mV 40 39,
 oG 41 (.faddr 0 (tP 2)) 40 true,
 oG 42 (.load none (tP 41)) 40 true,
 oG 43 (.faddr 0 (tP 3)) 40 true,
 oG 44 (.load none (tP 43)) 40 true,
 oG 45 (.bin .eql (tP 42) (tP 44)) 40 true,
 oN 46 (.pick (tP 40) (tP 45) (.con (.bool false))),
 mV 47 46,
 oG 48 (.faddr 5 (tP 2)) 47 true,
 oG 49 (.load none (tP 48)) 47 true,
 oG 50 (.faddr 5 (tP 3)) 47 true,
 oG 51 (.load none (tP 50)) 47 true,
 oG 52 (.bin .eql (tP 49) (tP 51)) 47 true,
 oN 53 (.pick (tP 47) (tP 52) (.con (.bool false))),
 mV 54 53,
 oG 55 (.faddr 6 (tP 2)) 54 true,
 oG 56 (.load none (tP 55)) 54 true,
 oG 57 (.faddr 6 (tP 3)) 54 true,
 oG 58 (.load none (tP 57)) 54 true,
 oG 59 (.bin .eql (tP 56) (tP 58)) 54 true,
 oN 60 (.pick (tP 54) (tP 59) (.con (.bool false))),
 mV 61 60,
 oG 62 (.faddr 7 (tP 2)) 61 true,
 oG 63 (.load none (tP 62)) 61 true,
 oG 64 (.faddr 7 (tP 3)) 61 true,
 oG 65 (.load none (tP 64)) 61 true,
 oG 66 (.pcall 49 [(tP 63), (tP 65)]) 61 true,
 oN 67 (.pick (tP 61) (tP 66) (.con (.bool false))),
 mV 68 67,
 oG 69 (.faddr 8 (tP 2)) 68 true,
 oG 70 (.load none (tP 69)) 68 true,
 oG 71 (.faddr 8 (tP 3)) 68 true,
 oG 72 (.load none (tP 71)) 68 true,
 oG 73 (.bin .eql (tP 70) (tP 72)) 68 true,
 oN 74 (.pick (tP 68) (tP 73) (.con (.bool false))),
 mV 75 74,
 oG 76 (.faddr 10 (tP 2)) 75 true,
 oG 77 (.load none (tP 76)) 75 true,
 oG 78 (.faddr 10 (tP 3)) 75 true,
 oG 79 (.load none (tP 78)) 75 true,
 oG 80 (.eqb false (tP 77) (tP 79)) 75 true,
 oN 81 (.pick (tP 75) (tP 80) (.con (.bool false))),
 mV 4 81])
  (.ret))),
  [.tmp 4]⟩
theorem is_call_Same : IsFn Tryz.prog 14 c_call_Same := isFn_of [([], []), ([], [4, 10, 17, 24, 31]), ([], [27]), ([], [])] (by kernel_rfl)
abbrev l_speech_Label_1 : CC := .block 1 (.seq (.region [mV 17 5,
 oN 18 (.pcall 56 [(tP 17), (.con (.str ⟨#[61]⟩))]),
 mV 16 18,
 oN 19 (.extract 16 0),
 oN 20 (.extract 16 1),
 oN 21 (.extract 16 2),
 mV 6 19,
 mV 7 20,
 mV 8 21])
  (.seq (.region [mV 23 7,
 oN 24 (.call 57 [(tP 23)]),
 mV 22 24,
 oN 25 (.extract 22 0),
 oN 26 (.extract 22 1),
 mV 9 25,
 mV 10 26])
  (.seq (.seq (.region [mV 27 8,
 oN 28 (.un .not (tP 27)),
 mV 29 28,
 oG 30 (.mov (tP 10)) 29 false,
 oG 31 (.isnil .ifc true (tP 30)) 29 false,
 oN 32 (.pick (tP 29) (.con (.bool true)) (tP 31))])
  (.cond (tP 32) (.seq (.region [⟨none, .store 1 (tP 2) (.con (.sl .ex [])), none⟩,
 ⟨none, .store 1 (tP 3) (.con (.bool false)), none⟩])
  (.ret)) (.skip)))
  (.region [oN 33 (.ltake (tP 4)),
 mV 34 6,
 mV 35 9,
 oN 36 (.build [.str ⟨#[]⟩, .int .i64 0] [(0, 1, (tP 34)), (1, 1, (tP 35))]),
 oN 37 (.bslice 2 false [(tP 36)]),
 oN 38 (.append 2 24 false (tP 33) (tP 37)),
 ⟨none, .store 1 (tP 4) (tP 38), none⟩]))))
abbrev l_speech_Label_0 : CC := .region [mV 5 15]
def c_speech_Label : CFn := ⟨49, .seq (.region [oN 2 (.alloc [.sl .ex []]),
 oN 3 (.alloc [.bool false])])
  (.seq (.seq (.region [mV 11 0,
 oN 12 (.bin .eql (tP 11) (.con (.str ⟨#[45]⟩)))])
  (.cond (tP 12) (.seq (.region [⟨none, .store 1 (tP 2) (.con (.sl .ex [])), none⟩,
 ⟨none, .store 1 (tP 3) (.con (.bool true)), none⟩])
  (.ret)) (.skip)))
  (.seq (.region [oN 4 (.alloc [.sl .ex []])])
  (.seq (.seq (.region [mV 13 0,
 oN 14 (.call 55 [(tP 13), (.con (.str ⟨#[44]⟩))])])
  (.block 0 (.rsplit (tP 14) 15 l_speech_Label_0 l_speech_Label_1)))
  (.seq (.seq (.region [lD 39 4,
 oN 40 (.pcall 58 [(tP 39)]),
 oN 41 (.un .not (tP 40)),
 mV 42 41,
 oG 43 (.load none (tP 4)) 42 false,
 oG 44 (.pcall 59 [(tP 43)]) 42 false,
 oG 45 (.mov (tP 0)) 42 false,
 oG 46 (.bin .neq (tP 44) (tP 45)) 42 false,
 oN 47 (.pick (tP 42) (.con (.bool true)) (tP 46))])
  (.cond (tP 47) (.seq (.region [⟨none, .store 1 (tP 2) (.con (.sl .ex [])), none⟩,
 ⟨none, .store 1 (tP 3) (.con (.bool false)), none⟩])
  (.ret)) (.skip)))
  (.seq (.region [lD 48 4,
 ⟨none, .store 1 (tP 2) (tP 48), none⟩,
 ⟨none, .store 1 (tP 3) (.con (.bool true)), none⟩])
  (.ret)))))),
  [.cell 2 none, .cell 3 none]⟩
theorem is_speech_Label : IsFn Tryz.prog 16 c_speech_Label := isFn_of [([], []), ([], []), ([], []), ([], []), ([], []), ([], []), ([], []), ([], [1]), ([], []), ([], []), ([], []), ([], []), ([], [0]), ([], [1, 5]), ([], []), ([], []), ([], []), ([], [])] (by kernel_rfl)
def c_speech_Own : CFn := ⟨18, .seq (.region [oN 2 (.take (.con (.sl .ex []))),
 oN 3 (.mov (.con (.bool false)))])
  (.seq (.seq (.region [mV 5 0,
 oN 6 (.bin .eql (tP 5) (.con (.str ⟨#[45]⟩)))])
  (.cond (tP 6) (.seq (.region [oN 2 (.take (.con (.sl .ex []))),
 oN 3 (.mov (.con (.bool true)))])
  (.ret)) (.skip)))
  (.seq (.region [mV 7 0,
 oN 8 (.pcall 42 [(tP 7), (.con (.str ⟨#[44]⟩))]),
 oN 4 (.take (tP 8))])
  (.seq (.seq (.region [mV 9 4,
 oN 10 (.pcall 61 [(tP 9)]),
 oN 11 (.un .not (tP 10)),
 mV 12 11,
 oG 13 (.mov (tP 4)) 12 false,
 oG 14 (.lenl (tP 13)) 12 false,
 oG 15 (.bin .eql (tP 14) (.con (.int .i64 0))) 12 false,
 oN 16 (.pick (tP 12) (.con (.bool true)) (tP 15))])
  (.cond (tP 16) (.seq (.region [oN 2 (.take (.con (.sl .ex []))),
 oN 3 (.mov (.con (.bool false)))])
  (.ret)) (.skip)))
  (.seq (.region [oN 17 (.take (tP 4)),
 oN 2 (.take (tP 17)),
 oN 3 (.mov (.con (.bool true)))])
  (.ret))))),
  [.tmp 2, .tmp 3]⟩
theorem is_speech_Own : IsFn Tryz.prog 18 c_speech_Own := isFn_of [([], [0]), ([], []), ([], [0]), ([], []), ([], [1, 2]), ([], [1]), ([], [0]), ([], []), ([], [0, 1]), ([], [])] (by kernel_rfl)
def c_fault_Code : CFn := ⟨22, .seq (.region [oN 2 (.mov (.con (.int .i64 0)))])
  (.seq (.seq (.region [mV 6 0,
 oN 7 (.isnil .ifc false (tP 6))])
  (.cond (tP 7) (.seq (.region [oN 2 (.mov (.con (.int .i64 0)))])
  (.ret)) (.skip)))
  (.seq (.seq (.region [mV 9 0,
 oN 10 (.tass 95 (.nilp) (tP 9)),
 mV 8 10,
 oN 11 (.extract 8 0),
 oN 12 (.extract 8 1),
 mV 3 11,
 mV 4 12])
  (.seq (.region [mV 13 4])
  (.cond (tP 13) (.seq (.region [mV 14 3,
 oN 15 (.nilck (tP 14)),
 oN 16 (.faddr 1 (tP 15)),
 lD 17 16,
 mV 2 17])
  (.ret)) (.skip))))
  (.seq (.region [oN 5 (.alloc [.int .i64 0])])
  (.seq (.seq (.region [mV 18 0,
 oN 19 (.mkif 100 (tP 5)),
 oN 20 (.call 64 [(tP 18), (tP 19)])])
  (.cond (tP 20) (.seq (.region [lD 21 5,
 mV 2 21])
  (.ret)) (.skip)))
  (.seq (.region [oN 2 (.mov (.con (.int .i64 2)))])
  (.ret)))))),
  [.tmp 2]⟩
theorem is_fault_Code : IsFn Tryz.prog 21 c_fault_Code := isFn_of [([], []), ([], []), ([], []), ([], []), ([], []), ([], []), ([], []), ([], []), ([], []), ([], []), ([], []), ([], []), ([], []), ([], [])] (by kernel_rfl)
def c_fault_Place : CFn := ⟨15, .seq (.region [oN 2 (.mov (.con (.str ⟨#[]⟩)))])
  (.seq (.seq (.region [mV 6 0,
 oN 7 (.tass 95 (.nilp) (tP 6)),
 mV 5 7,
 oN 8 (.extract 5 0),
 oN 9 (.extract 5 1),
 mV 3 8,
 mV 4 9])
  (.seq (.region [mV 10 4])
  (.cond (tP 10) (.seq (.region [mV 11 3,
 oN 12 (.nilck (tP 11)),
 oN 13 (.faddr 0 (tP 12)),
 lD 14 13,
 mV 2 14])
  (.ret)) (.skip))))
  (.seq (.region [oN 2 (.mov (.con (.str ⟨#[]⟩)))])
  (.ret))),
  [.tmp 2]⟩
theorem is_fault_Place : IsFn Tryz.prog 22 c_fault_Place := isFn_of [([], []), ([], []), ([], []), ([], []), ([], []), ([], []), ([], [])] (by kernel_rfl)
def c_speech_names : CFn := ⟨2, .seq (.region [oN 0 (.take (.con (.sl .ex [])))])
  (.seq (.region [oN 1 (.bslice 1 false [(.con (.str ⟨#[110, 111, 116, 104, 105, 110, 103]⟩)), (.con (.str ⟨#[99, 97, 116, 101, 103, 111, 114, 121]⟩)), (.con (.str ⟨#[115, 101, 103, 109, 101, 110, 116]⟩)), (.con (.str ⟨#[99, 111, 110, 116, 97, 105, 110, 101, 114]⟩)), (.con (.str ⟨#[116, 104, 114, 101, 97, 100]⟩)), (.con (.str ⟨#[103, 97, 116, 101]⟩)), (.con (.str ⟨#[115, 112, 97, 99, 101]⟩)), (.con (.str ⟨#[114, 101, 97, 100]⟩)), (.con (.str ⟨#[119, 114, 105, 116, 101]⟩)), (.con (.str ⟨#[114, 101, 115, 105, 122, 101]⟩)), (.con (.str ⟨#[108, 105, 115, 116]⟩)), (.con (.str ⟨#[115, 116, 97, 116]⟩)), (.con (.str ⟨#[102, 114, 101, 101]⟩)), (.con (.str ⟨#[109, 111, 118, 101]⟩)), (.con (.str ⟨#[108, 97, 98, 101, 108]⟩)), (.con (.str ⟨#[101, 110, 116, 101, 114]⟩)), (.con (.str ⟨#[100, 114, 111, 112]⟩)), (.con (.str ⟨#[109, 97, 112]⟩)), (.con (.str ⟨#[117, 110, 109, 97, 112]⟩)), (.con (.str ⟨#[108, 111, 97, 100]⟩)), (.con (.str ⟨#[115, 116, 111, 114, 101]⟩))]),
 oN 0 (.take (tP 1))])
  (.ret)),
  [.tmp 0]⟩
theorem is_speech_names : IsFn Tryz.prog 26 c_speech_names := isFn_of [([], [0]), ([], [1]), ([], [])] (by kernel_rfl)
def c_speech_forms : CFn := ⟨2, .seq (.region [oN 0 (.take (.con (.sl .ex [])))])
  (.seq (.region [oN 1 (.bslice 1 false [(.con (.str ⟨#[]⟩)), (.con (.str ⟨#[]⟩)), (.con (.str ⟨#[97, 108, 110, 109]⟩)), (.con (.str ⟨#[97, 108, 110]⟩)), (.con (.str ⟨#[97, 108, 110, 111]⟩)), (.con (.str ⟨#[97, 108, 110, 101, 111, 109]⟩)), (.con (.str ⟨#[97, 108, 110]⟩)), (.con (.str ⟨#[97, 110, 109]⟩)), (.con (.str ⟨#[97, 110, 116]⟩)), (.con (.str ⟨#[97, 110]⟩)), (.con (.str ⟨#[97]⟩)), (.con (.str ⟨#[97]⟩)), (.con (.str ⟨#[97]⟩)), (.con (.str ⟨#[97, 110]⟩)), (.con (.str ⟨#[108]⟩)), (.con (.str ⟨#[97]⟩)), (.con (.str ⟨#[99]⟩)), (.con (.str ⟨#[97, 110, 115, 119]⟩)), (.con (.str ⟨#[97, 110]⟩)), (.con (.str ⟨#[97, 110, 109]⟩)), (.con (.str ⟨#[97, 110, 116]⟩))]),
 oN 0 (.take (tP 1))])
  (.ret)),
  [.tmp 0]⟩
theorem is_speech_forms : IsFn Tryz.prog 27 c_speech_forms := isFn_of [([], [0]), ([], [1]), ([], [])] (by kernel_rfl)
def c_speech_word : CFn := ⟨52, .seq (.region [oN 2 (.box (tP 0)),
 oN 4 (.mov (.con (.str ⟨#[]⟩)))])
  (.seq (.seq (.region [mV 5 1])
  (.block 0 (.seq (.region [oN 7 (.bin .eql (tP 5) (.con (.int .u8 97))),
 mV 6 7])
  (.cond (tP 6) (.seq (.region [oN 8 (.faddr 1 (tP 2)),
 lD 9 8,
 oN 10 (.pcall 66 [(tP 9)]),
 mV 4 10])
  (.ret)) (.seq (.region [oN 12 (.bin .eql (tP 5) (.con (.int .u8 115))),
 mV 11 12])
  (.cond (tP 11) (.seq (.region [oN 13 (.faddr 9 (tP 2)),
 lD 14 13,
 oN 15 (.pcall 66 [(tP 14)]),
 mV 4 15])
  (.ret)) (.seq (.region [oN 17 (.bin .eql (tP 5) (.con (.int .u8 108))),
 mV 16 17])
  (.cond (tP 16) (.seq (.region [oN 18 (.faddr 2 (tP 2)),
 lD 19 18,
 oN 20 (.pcall 59 [(tP 19)]),
 mV 4 20])
  (.ret)) (.seq (.region [oN 22 (.bin .eql (tP 5) (.con (.int .u8 101))),
 mV 21 22])
  (.cond (tP 21) (.seq (.region [oN 23 (.faddr 3 (tP 2)),
 lD 24 23,
 oN 25 (.pcall 59 [(tP 24)]),
 mV 4 25])
  (.ret)) (.seq (.region [oN 27 (.bin .eql (tP 5) (.con (.int .u8 110))),
 mV 26 27])
  (.cond (tP 26) (.seq (.region [oN 28 (.faddr 5 (tP 2)),
 lD 29 28,
 oN 30 (.pcall 67 [(tP 29)]),
 mV 4 30])
  (.ret)) (.seq (.region [oN 32 (.bin .eql (tP 5) (.con (.int .u8 109))),
 mV 31 32])
  (.cond (tP 31) (.seq (.region [oN 33 (.faddr 6 (tP 2)),
 lD 34 33,
 oN 35 (.pcall 67 [(tP 34)]),
 mV 4 35])
  (.ret)) (.seq (.region [oN 37 (.bin .eql (tP 5) (.con (.int .u8 111))),
 mV 36 37])
  (.cond (tP 36) (.seq (.region [oN 38 (.faddr 4 (tP 2)),
 lD 39 38,
 oN 40 (.pcall 68 [(tP 39)]),
 mV 4 40])
  (.ret)) (.seq (.region [oN 42 (.bin .eql (tP 5) (.con (.int .u8 116))),
 mV 41 42])
  (.cond (tP 41) (.seq (.region [oN 43 (.faddr 7 (tP 2)),
 lD 44 43,
 oN 45 (.pcall 69 [(tP 44)]),
 mV 4 45])
  (.ret)) (.seq (.region [oN 47 (.bin .eql (tP 5) (.con (.int .u8 99))),
 mV 46 47])
  (.cond (tP 46) (.seq (.region [oN 48 (.faddr 8 (tP 2)),
 lD 49 48,
 mV 4 49])
  (.ret)) (.skip)))))))))))))))))))))
  (.seq (.seq (.region [oN 50 (.faddr 10 (tP 2)),
 lD 51 50])
  (.cond (tP 51) (.seq (.region [oN 4 (.mov (.con (.str ⟨#[119]⟩)))])
  (.ret)) (.skip)))
  (.seq (.region [oN 4 (.mov (.con (.str ⟨#[114]⟩)))])
  (.ret)))),
  [.tmp 4]⟩
theorem is_speech_word : IsFn Tryz.prog 28 c_speech_word := isFn_of [([], []), ([], []), ([], []), ([], [2]), ([], []), ([], []), ([], [2]), ([], []), ([], []), ([], [2]), ([], []), ([], []), ([], [2]), ([], []), ([], []), ([], [2]), ([], []), ([], []), ([], [2]), ([], []), ([], []), ([], [2]), ([], []), ([], []), ([], [2]), ([], []), ([], []), ([], []), ([], []), ([], []), ([], []), ([], []), ([], []), ([], [])] (by kernel_rfl)
theorem ok_strings_Join : OkDef Tryz.prog 29 (.prim joinP) := join_ok (⟨Tryz.f29, Tryz.func29, by kernel_rfl, by kernel_rfl⟩ : Callable Tryz.prog 29) (fun a c sep w => Tryz.strings_Join_none a c sep w) (fun bk o c xs sep w h1 h2 h3 h4 h5 => Tryz.strings_Join bk o c xs sep w h1 h2 h3 h4 h5)
abbrev s_regencyref06_Text_0 (v3 v6 v7 v8 : AV) : List AV := [.any, undefA, .any, v3, .any, .any, v6, v7, v8, .any, .any, .any, .any, .any, .any, .any, .any, .any, .any, .any, .any, .any, .any, .any, .any, .any, .any, undefA, undefA, undefA]
abbrev x_regencyref06_Text_0 (v3 : AV) : List AV := [.any, undefA, .any, v3, .any, .any, .any, .any, .any, .any, .any, .any, .any, .any, .any, .any, .any, .any, .any, .any, .any, .any, .any, .any, .any, .any, .any, undefA, undefA, undefA]
abbrev l_regencyref06_Text_0 : CC := .kill kl1_4 (.seq (.region [oN 9 (.bin .lss (tP 8) (tP 7))])
  (.seq (.cond (tP 9) (.skip) (.kill [6, 7, 8, 9] (.exit 0)))
  (.seq (.block 1 (.seq (.region [mV 10 8,
 oN 11 (.iaddr 2 none (tP 6) (tP 8)),
 oN 12 (.load (some 2) (tP 11)),
 oN 5 (.alloc [.str ⟨#[]⟩, .int .i64 0]),
 mV 4 10,
 ⟨none, .store 2 (tP 5) (tP 12), none⟩])
  (.seq (.seq (.region [mV 13 4,
 oN 14 (.bin .gtr (tP 13) (.con (.int .i64 0)))])
  (.cond (tP 14) (.region [mV 15 3,
 oN 16 (.bin .add (tP 15) (.con (.str ⟨#[44]⟩))),
 mV 3 16]) (.skip)))
  (.region [mV 17 3,
 oN 18 (.faddr 0 (tP 5)),
 lD 19 18,
 oN 20 (.bin .add (tP 19) (.con (.str ⟨#[61]⟩))),
 oN 21 (.faddr 1 (tP 5)),
 lD 22 21,
 oN 23 (.pcall 34 [(tP 22)]),
 oN 24 (.bin .add (tP 20) (tP 23)),
 oN 25 (.bin .add (tP 17) (tP 24)),
 mV 3 25]))))
  (.region [oN 26 (.bin .add (tP 8) (.con (.int .i64 1))),
 mV 8 26]))))
def c_regencyref06_Text : CFn := ⟨30, .seq (.region [oN 2 (.mov (.con (.str ⟨#[]⟩)))])
  (.seq (.region [oN 3 (.mov (.con (.str ⟨#[]⟩)))])
  (.seq (.seq (.region [oN 6 (.take (tP 0)),
 oN 7 (.lenl (tP 6)),
 oN 8 (.mov (.con (.int .i64 0)))])
  (.block 0 (.kill kl1_4 (.loop l_regencyref06_Text_0))))
  (.seq (.seq (.region [mV 27 3,
 oN 28 (.bin .eql (tP 27) (.con (.str ⟨#[]⟩)))])
  (.cond (tP 28) (.seq (.region [oN 2 (.mov (.con (.str ⟨#[45]⟩)))])
  (.ret)) (.skip)))
  (.seq (.region [mV 29 3,
 mV 2 29])
  (.ret))))),
  [.tmp 2]⟩
theorem is_regencyref06_Text : IsFn Tryz.prog 33 c_regencyref06_Text := isFn_of [([], []), ([], []), ([], [0]), (kl1_4, []), ([], []), ([6, 7, 8, 9], []), ([], []), ([], []), ([], []), ([], [6]), ([], []), ([], []), ([], []), ([], []), ([], []), ([], [])] (by kernel_rfl)
def c_regencyref01_Num : CFn := ⟨5, .seq (.region [oN 2 (.mov (.con (.str ⟨#[]⟩)))])
  (.seq (.region [mV 3 0,
 oN 4 (.pcall 76 [(tP 3)]),
 mV 2 4])
  (.ret)),
  [.tmp 2]⟩
theorem is_regencyref01_Num : IsFn Tryz.prog 34 c_regencyref01_Num := isFn_of [([], []), ([], [1]), ([], [])] (by kernel_rfl)
def c_call_known : CFn := ⟨9, .seq (.region [oN 2 (.mov (.con (.bool false)))])
  (.seq (.region [mV 3 0,
 oN 4 (.bin .geq (tP 3) (.con (.int .i64 0))),
 mV 5 4,
 oG 6 (.mov (tP 0)) 5 true,
 oG 7 (.bin .leq (tP 6) (.con (.int .i64 20))) 5 true,
 oN 8 (.pick (tP 5) (tP 7) (.con (.bool false))),
 mV 2 8])
  (.ret)),
  [.tmp 2]⟩
theorem is_call_known : IsFn Tryz.prog 36 c_call_known := isFn_of [([], []), ([], []), ([], [])] (by kernel_rfl)
abbrev s_call_Plain_0 (v1 v2 v3 v11 v12 v13 : AV) : List AV := [.any, v1, v2, v3, undefA, .any, .any, .any, .any, .any, .any, v11, v12, v13, .any, .any, .any, .any, .any, .any, .any, .any, .any, .any, .any, .any, .any, .any, .any, .any, .any, .any, .any, .any, .any, .any, .any, .any, .any, .any, .any, .any, .any, .any, .any, .any, .any, .any, .any, .any, .any, .any, .any, .any, .any, .any, .any, .any, .any, .any, .any, .any, .any, .any, .any, .any, .any, .any, .any, .any, .any, .any, .any, .any, .any, .any, undefA]
abbrev x_call_Plain_0 (v2 v3 : AV) : List AV := [.any, .any, v2, v3, undefA, .any, .any, .any, .any, .any, .any, .any, .any, .any, .any, .any, .any, .any, .any, .any, .any, .any, .any, .any, .any, .any, .any, .any, .any, .any, .any, .any, .any, .any, .any, .any, .any, .any, .any, .any, .any, .any, .any, .any, .any, .any, .any, .any, .any, .any, .any, .any, .any, .any, .any, .any, .any, .any, .any, .any, .any, .any, .any, .any, .any, .any, .any, .any, .any, .any, .any, .any, .any, .any, .any, .any, undefA]
abbrev l_call_Plain_0 : CC := .kill kl1_5 (.seq (.region [oN 14 (.bin .lss (tP 13) (tP 12))])
  (.seq (.cond (tP 14) (.skip) (.kill [1, 11, 12, 13, 14] (.exit 0)))
  (.seq (.block 1 (.seq (.region [oN 15 (.iaddr 1 none (tP 11) (tP 13)),
 lD 16 15,
 mV 5 16])
  (.seq (.region [mV 17 5])
  (.block 2 (.seq (.region [oN 19 (.bin .eql (tP 17) (.con (.int .i64 0))),
 mV 18 19])
  (.cond (tP 18) (.region [oN 20 (.faddr 1 (tP 1)),
 lD 21 20,
 oN 22 (.pcall 77 [(tP 21)]),
 oN 23 (.faddr 1 (tP 3)),
 ⟨none, .store 1 (tP 23) (tP 22), none⟩]) (.seq (.region [oN 25 (.bin .eql (tP 17) (.con (.int .i64 1))),
 mV 24 25])
  (.cond (tP 24) (.region [oN 26 (.faddr 2 (tP 1)),
 lD 27 26,
 oN 28 (.pcall 78 [(tP 27)]),
 oN 29 (.faddr 2 (tP 3)),
 ⟨none, .store 1 (tP 29) (tP 28), none⟩]) (.seq (.seq (.region [oN 31 (.bin .eql (tP 17) (.con (.int .i64 2))),
 mV 30 31])
  (.cond (tP 30) (.skip) (.region [oN 32 (.bin .eql (tP 17) (.con (.int .i64 10))),
 mV 30 32])))
  (.cond (tP 30) (.region [oN 33 (.faddr 5 (tP 1)),
 lD 34 33,
 oN 35 (.faddr 5 (tP 3)),
 ⟨none, .store 1 (tP 35) (tP 34), none⟩]) (.seq (.region [oN 37 (.bin .eql (tP 17) (.con (.int .i64 3))),
 mV 36 37])
  (.cond (tP 36) (.region [oN 38 (.faddr 6 (tP 1)),
 lD 39 38,
 oN 40 (.faddr 6 (tP 3)),
 ⟨none, .store 1 (tP 40) (tP 39), none⟩]) (.seq (.region [oN 42 (.bin .eql (tP 17) (.con (.int .i64 4))),
 mV 41 42])
  (.cond (tP 41) (.region [oN 43 (.faddr 3 (tP 1)),
 lD 44 43,
 oN 45 (.pcall 78 [(tP 44)]),
 oN 46 (.faddr 3 (tP 3)),
 ⟨none, .store 1 (tP 46) (tP 45), none⟩]) (.seq (.region [oN 48 (.bin .eql (tP 17) (.con (.int .i64 5))),
 mV 47 48])
  (.cond (tP 47) (.region [oN 49 (.faddr 4 (tP 1)),
 lD 50 49,
 oN 51 (.pcall 79 [(tP 50)]),
 oN 52 (.faddr 4 (tP 3)),
 ⟨none, .store 1 (tP 52) (tP 51), none⟩]) (.seq (.region [oN 54 (.bin .eql (tP 17) (.con (.int .i64 6))),
 mV 53 54])
  (.cond (tP 53) (.region [oN 55 (.faddr 7 (tP 1)),
 lD 56 55,
 oN 57 (.pcall 80 [(tP 56)]),
 oN 58 (.faddr 7 (tP 3)),
 ⟨none, .store 1 (tP 58) (tP 57), none⟩]) (.seq (.region [oN 60 (.bin .eql (tP 17) (.con (.int .i64 7))),
 mV 59 60])
  (.cond (tP 59) (.region [oN 61 (.faddr 8 (tP 1)),
 lD 62 61,
 oN 63 (.faddr 8 (tP 3)),
 ⟨none, .store 1 (tP 63) (tP 62), none⟩]) (.seq (.region [oN 65 (.bin .eql (tP 17) (.con (.int .i64 8))),
 mV 64 65])
  (.cond (tP 64) (.region [oN 66 (.faddr 9 (tP 1)),
 lD 67 66,
 oN 68 (.pcall 77 [(tP 67)]),
 oN 69 (.faddr 9 (tP 3)),
 ⟨none, .store 1 (tP 69) (tP 68), none⟩]) (.seq (.region [oN 71 (.bin .eql (tP 17) (.con (.int .i64 9))),
 mV 70 71])
  (.cond (tP 70) (.region [oN 72 (.faddr 10 (tP 1)),
 lD 73 72,
 oN 74 (.faddr 10 (tP 3)),
 ⟨none, .store 1 (tP 74) (tP 73), none⟩]) (.skip)))))))))))))))))))))))))
  (.region [oN 75 (.bin .add (tP 13) (.con (.int .i64 1))),
 mV 13 75]))))
def c_call_Plain : CFn := ⟨77, .seq (.region [oN 1 (.box (tP 0)),
 oN 2 (.alloc [.int .i64 0, .sl .ex [], .sl .ex [], .sl .ex [], .sl .ex [], .int .i64 0, .int .i64 0, .sl .ex [], .str ⟨#[]⟩, .sl .ex [], .bool false])])
  (.seq (.region [oN 6 (.faddr 0 (tP 1)),
 lD 7 6,
 oN 8 (.build [.int .i64 0, .sl .ex [], .sl .ex [], .sl .ex [], .sl .ex [], .int .i64 0, .int .i64 0, .sl .ex [], .str ⟨#[]⟩, .sl .ex [], .bool false] [(0, 1, (tP 7))]),
 oN 3 (.alloc [.int .i64 0, .sl .ex [], .sl .ex [], .sl .ex [], .sl .ex [], .int .i64 0, .int .i64 0, .sl .ex [], .str ⟨#[]⟩, .sl .ex [], .bool false]),
 ⟨none, .store 11 (tP 3) (tP 8), none⟩])
  (.seq (.seq (.region [oN 9 (.faddr 0 (tP 1)),
 lD 10 9,
 oN 11 (.pcall 39 [(tP 10)]),
 oN 12 (.lenl (tP 11)),
 oN 13 (.mov (.con (.int .i64 0)))])
  (.block 0 (.kill kl1_5 (.loop l_call_Plain_0))))
  (.seq (.region [oN 76 (.load (some 11) (tP 3)),
 ⟨none, .store 11 (tP 2) (tP 76), none⟩])
  (.ret)))),
  [.cell 2 (some 11)]⟩
theorem is_call_Plain : IsFn Tryz.prog 37 c_call_Plain := isFn_of [([], []), ([], []), ([], [2]), (kl1_5, []), ([], []), ([1, 11, 12, 13, 14], []), ([], []), ([], []), ([], []), ([], [2]), ([], []), ([], [2]), ([], []), ([], []), ([], []), ([], []), ([], []), ([], []), ([], [2]), ([], []), ([], [2]), ([], []), ([], [2]), ([], []), ([], []), ([], []), ([], [2]), ([], []), ([], []), ([], []), ([], []), ([], [])] (by kernel_rfl)
def c_slices_ContainsFunc_call_part_call_part : CFn := ⟨9, .seq (.region [oN 4 (.mov (.con (.bool false)))])
  (.seq (.region [oN 5 (.take (tP 0)),
 mV 6 1,
 oN 7 (.call 81 [(tP 5), (tP 6)]),
 oN 8 (.bin .geq (tP 7) (.con (.int .i64 0))),
 mV 4 8])
  (.ret)),
  [.tmp 4]⟩
theorem is_slices_ContainsFunc_call_part_call_part : IsFn Tryz.prog 38 c_slices_ContainsFunc_call_part_call_part := isFn_of [([], []), ([], [0]), ([], [])] (by kernel_rfl)
def c_call_parts : CFn := ⟨47, .seq (.region [oN 2 (.take (.con (.sl .ex [])))])
  (.seq (.seq (.region [mV 3 0])
  (.block 0 (.seq (.region [oN 5 (.bin .eql (tP 3) (.con (.int .i64 2))),
 mV 4 5])
  (.cond (tP 4) (.seq (.region [oN 6 (.bslice 1 false [(.con (.int .i64 0)), (.con (.int .i64 1)), (.con (.int .i64 2)), (.con (.int .i64 3))]),
 oN 2 (.take (tP 6))])
  (.ret)) (.seq (.seq (.region [oN 8 (.bin .eql (tP 3) (.con (.int .i64 3))),
 mV 7 8])
  (.cond (tP 7) (.skip) (.region [oN 9 (.bin .eql (tP 3) (.con (.int .i64 6))),
 mV 7 9])))
  (.cond (tP 7) (.seq (.region [oN 10 (.bslice 1 false [(.con (.int .i64 0)), (.con (.int .i64 1)), (.con (.int .i64 2))]),
 oN 2 (.take (tP 10))])
  (.ret)) (.seq (.region [oN 12 (.bin .eql (tP 3) (.con (.int .i64 4))),
 mV 11 12])
  (.cond (tP 11) (.seq (.region [oN 13 (.bslice 1 false [(.con (.int .i64 0)), (.con (.int .i64 1)), (.con (.int .i64 2)), (.con (.int .i64 5))]),
 oN 2 (.take (tP 13))])
  (.ret)) (.seq (.region [oN 15 (.bin .eql (tP 3) (.con (.int .i64 5))),
 mV 14 15])
  (.cond (tP 14) (.seq (.region [oN 16 (.bslice 1 false [(.con (.int .i64 0)), (.con (.int .i64 1)), (.con (.int .i64 2)), (.con (.int .i64 4)), (.con (.int .i64 5)), (.con (.int .i64 3))]),
 oN 2 (.take (tP 16))])
  (.ret)) (.seq (.seq (.region [oN 18 (.bin .eql (tP 3) (.con (.int .i64 7))),
 mV 17 18])
  (.cond (tP 17) (.skip) (.region [oN 19 (.bin .eql (tP 3) (.con (.int .i64 19))),
 mV 17 19])))
  (.cond (tP 17) (.seq (.region [oN 20 (.bslice 1 false [(.con (.int .i64 0)), (.con (.int .i64 2)), (.con (.int .i64 3))]),
 oN 2 (.take (tP 20))])
  (.ret)) (.seq (.seq (.region [oN 22 (.bin .eql (tP 3) (.con (.int .i64 8))),
 mV 21 22])
  (.cond (tP 21) (.skip) (.region [oN 23 (.bin .eql (tP 3) (.con (.int .i64 20))),
 mV 21 23])))
  (.cond (tP 21) (.seq (.region [oN 24 (.bslice 1 false [(.con (.int .i64 0)), (.con (.int .i64 2)), (.con (.int .i64 6))]),
 oN 2 (.take (tP 24))])
  (.ret)) (.seq (.seq (.region [oN 26 (.bin .eql (tP 3) (.con (.int .i64 9))),
 mV 25 26])
  (.cond (tP 25) (.skip) (.region [oN 27 (.bin .eql (tP 3) (.con (.int .i64 18))),
 mV 25 27])))
  (.cond (tP 25) (.seq (.region [oN 28 (.bslice 1 false [(.con (.int .i64 0)), (.con (.int .i64 2))]),
 oN 2 (.take (tP 28))])
  (.ret)) (.seq (.seq (.region [oN 30 (.bin .eql (tP 3) (.con (.int .i64 10))),
 mV 29 30])
  (.cond (tP 29) (.skip) (.seq (.region [oN 31 (.bin .eql (tP 3) (.con (.int .i64 11))),
 mV 29 31])
  (.cond (tP 29) (.skip) (.seq (.region [oN 32 (.bin .eql (tP 3) (.con (.int .i64 12))),
 mV 29 32])
  (.cond (tP 29) (.skip) (.region [oN 33 (.bin .eql (tP 3) (.con (.int .i64 15))),
 mV 29 33])))))))
  (.cond (tP 29) (.seq (.region [oN 34 (.bslice 1 false [(.con (.int .i64 0))]),
 oN 2 (.take (tP 34))])
  (.ret)) (.seq (.region [oN 36 (.bin .eql (tP 3) (.con (.int .i64 13))),
 mV 35 36])
  (.cond (tP 35) (.seq (.region [oN 37 (.bslice 1 false [(.con (.int .i64 0)), (.con (.int .i64 10))]),
 oN 2 (.take (tP 37))])
  (.ret)) (.seq (.region [oN 39 (.bin .eql (tP 3) (.con (.int .i64 14))),
 mV 38 39])
  (.cond (tP 38) (.seq (.region [oN 40 (.bslice 1 false [(.con (.int .i64 1))]),
 oN 2 (.take (tP 40))])
  (.ret)) (.seq (.region [oN 42 (.bin .eql (tP 3) (.con (.int .i64 16))),
 mV 41 42])
  (.cond (tP 41) (.seq (.region [oN 43 (.bslice 1 false [(.con (.int .i64 7))]),
 oN 2 (.take (tP 43))])
  (.ret)) (.seq (.region [oN 45 (.bin .eql (tP 3) (.con (.int .i64 17))),
 mV 44 45])
  (.cond (tP 44) (.seq (.region [oN 46 (.bslice 1 false [(.con (.int .i64 0)), (.con (.int .i64 2)), (.con (.int .i64 8)), (.con (.int .i64 9))]),
 oN 2 (.take (tP 46))])
  (.ret)) (.skip)))))))))))))))))))))))))))
  (.seq (.region [oN 2 (.take (.con (.sl .ex [])))])
  (.ret))),
  [.tmp 2]⟩
theorem is_call_parts : IsFn Tryz.prog 39 c_call_parts := isFn_of [([], [0]), ([], []), ([], []), ([], [1]), ([], []), ([], []), ([], []), ([], [1]), ([], []), ([], []), ([], [1]), ([], []), ([], []), ([], [1]), ([], []), ([], []), ([], []), ([], [1]), ([], []), ([], []), ([], []), ([], [1]), ([], []), ([], []), ([], []), ([], [1]), ([], []), ([], []), ([], []), ([], []), ([], []), ([], [1]), ([], []), ([], []), ([], [1]), ([], []), ([], []), ([], [1]), ([], []), ([], []), ([], [1]), ([], []), ([], []), ([], [1]), ([], []), ([], [0]), ([], [])] (by kernel_rfl)
def c_call_Right_1 : CFn := ⟨8, .seq (.region [oN 3 (.mov (.con (.bool false)))])
  (.seq (.region [mV 4 0,
 oN 5 (.load (some 11) (tP 1)),
 oN 6 (.pcall 41 [(tP 4), (tP 5)]),
 oN 7 (.un .not (tP 6)),
 mV 3 7])
  (.ret)),
  [.tmp 3]⟩
theorem is_call_Right_1 : IsFn Tryz.prog 40 c_call_Right_1 := isFn_of [([], []), ([], [2]), ([], [])] (by kernel_rfl)
def c_call_part_right : CFn := ⟨62, .seq (.region [oN 3 (.box (tP 1)),
 oN 4 (.mov (.con (.bool false)))])
  (.seq (.seq (.region [mV 5 0])
  (.block 0 (.seq (.region [oN 7 (.bin .eql (tP 5) (.con (.int .i64 0))),
 mV 6 7])
  (.cond (tP 6) (.seq (.region [oN 8 (.faddr 1 (tP 3)),
 lD 9 8,
 oN 10 (.pcall 82 [(tP 9)]),
 mV 4 10])
  (.ret)) (.seq (.region [oN 12 (.bin .eql (tP 5) (.con (.int .i64 1))),
 mV 11 12])
  (.cond (tP 11) (.seq (.region [oN 13 (.faddr 2 (tP 3)),
 lD 14 13,
 oN 15 (.pcall 58 [(tP 14)]),
 mV 4 15])
  (.ret)) (.seq (.region [oN 17 (.bin .eql (tP 5) (.con (.int .i64 2))),
 mV 16 17])
  (.cond (tP 16) (.seq (.region [oN 18 (.faddr 5 (tP 3)),
 lD 19 18,
 oN 20 (.pcall 83 [(tP 19)]),
 mV 4 20])
  (.ret)) (.seq (.region [oN 22 (.bin .eql (tP 5) (.con (.int .i64 3))),
 mV 21 22])
  (.cond (tP 21) (.seq (.region [oN 23 (.faddr 6 (tP 3)),
 lD 24 23,
 oN 25 (.pcall 83 [(tP 24)]),
 mV 4 25])
  (.ret)) (.seq (.region [oN 27 (.bin .eql (tP 5) (.con (.int .i64 4))),
 mV 26 27])
  (.cond (tP 26) (.seq (.region [oN 28 (.faddr 3 (tP 3)),
 lD 29 28,
 oN 30 (.pcall 58 [(tP 29)]),
 mV 4 30])
  (.ret)) (.seq (.region [oN 32 (.bin .eql (tP 5) (.con (.int .i64 5))),
 mV 31 32])
  (.cond (tP 31) (.seq (.region [oN 33 (.faddr 4 (tP 3)),
 lD 34 33,
 oN 35 (.pcall 61 [(tP 34)]),
 mV 4 35])
  (.ret)) (.seq (.region [oN 37 (.bin .eql (tP 5) (.con (.int .i64 6))),
 mV 36 37])
  (.cond (tP 36) (.seq (.region [oN 38 (.faddr 7 (tP 3)),
 lD 39 38,
 oN 40 (.lenl (tP 39)),
 oN 41 (.bin .leq (tP 40) (.con (.int .i64 256))),
 mV 4 41])
  (.ret)) (.seq (.region [oN 43 (.bin .eql (tP 5) (.con (.int .i64 7))),
 mV 42 43])
  (.cond (tP 42) (.seq (.region [oN 44 (.faddr 8 (tP 3)),
 lD 45 44,
 oN 46 (.pcall 84 [(tP 45)]),
 mV 4 46])
  (.ret)) (.seq (.region [oN 48 (.bin .eql (tP 5) (.con (.int .i64 8))),
 mV 47 48])
  (.cond (tP 47) (.seq (.region [oN 49 (.faddr 9 (tP 3)),
 lD 50 49,
 oN 51 (.pcall 82 [(tP 50)]),
 mV 4 51])
  (.ret)) (.seq (.region [oN 53 (.bin .eql (tP 5) (.con (.int .i64 10))),
 mV 52 53])
  (.cond (tP 52) (.seq (.region [oN 54 (.faddr 5 (tP 3)),
 lD 55 54,
 oN 56 (.bin .geq (tP 55) (.con (.int .i64 (-1048576)))),
 mV 57 56,
 oG 58 (.faddr 5 (tP 3)) 57 true,
 oG 59 (.load none (tP 58)) 57 true,
 oG 60 (.bin .leq (tP 59) (.con (.int .i64 1048576))) 57 true,
 oN 61 (.pick (tP 57) (tP 60) (.con (.bool false))),
 mV 4 61])
  (.ret)) (.skip)))))))))))))))))))))))
  (.seq (.region [oN 4 (.mov (.con (.bool true)))])
  (.ret))),
  [.tmp 4]⟩
theorem is_call_part_right : IsFn Tryz.prog 41 c_call_part_right := isFn_of [([], []), ([], []), ([], []), ([], [2]), ([], []), ([], []), ([], [2]), ([], []), ([], []), ([], [2]), ([], []), ([], []), ([], [2]), ([], []), ([], []), ([], [2]), ([], []), ([], []), ([], [2]), ([], []), ([], []), ([], []), ([], []), ([], []), ([], [2]), ([], []), ([], []), ([], [2]), ([], []), ([], []), ([], []), ([], []), ([], []), ([], [])] (by kernel_rfl)
theorem ok_strings_Split : OkDef Tryz.prog 42 (.prim splP) := spl_ok (⟨Tryz.f42, Tryz.func42, by kernel_rfl, by kernel_rfl⟩ : Callable Tryz.prog 42) (fun s c w hs => strings_Split_one s c w hs)
abbrev s_slices_Index_string_string_0 (v0 v1 v7 v8 : AV) : List AV := [v0, v1, undefA, undefA, .any, .any, .any, v7, v8, .any, .any, .any, .any, .any, .any, .any, .any, .any, .any]
abbrev x_slices_Index_string_string_0  : List AV := [.any, .any, undefA, undefA, .any, .any, .any, .any, .any, .any, .any, .any, .any, .any, .any, .any, .any, .any, .any]
abbrev l_slices_Index_string_string_0 : CC := .kill kl1_1 (.seq (.region [oN 9 (.bin .lss (tP 8) (tP 7))])
  (.seq (.cond (tP 9) (.skip) (.kill [0, 1, 7, 8, 9] (.exit 0)))
  (.seq (.block 1 (.seq (.region [mV 10 8,
 mV 5 10])
  (.seq (.region [mV 11 1,
 mV 12 0,
 mV 13 5,
 oN 14 (.iaddr 1 none (tP 12) (tP 13)),
 lD 15 14,
 oN 16 (.bin .eql (tP 11) (tP 15))])
  (.cond (tP 16) (.seq (.region [mV 17 5,
 mV 4 17])
  (.ret)) (.skip)))))
  (.region [oN 18 (.bin .add (tP 8) (.con (.int .i64 1))),
 mV 8 18]))))
def c_slices_Index_string_string : CFn := ⟨19, .seq (.region [oN 4 (.mov (.con (.int .i64 0)))])
  (.seq (.seq (.region [mV 6 0,
 oN 7 (.lenl (tP 6)),
 oN 8 (.mov (.con (.int .i64 0)))])
  (.block 0 (.kill kl1_1 (.loop l_slices_Index_string_string_0))))
  (.seq (.region [oN 4 (.mov (.con (.int .i64 (-1))))])
  (.ret))),
  [.tmp 4]⟩
theorem is_slices_Index_string_string : IsFn Tryz.prog 43 c_slices_Index_string_string := isFn_of [([], []), ([], []), (kl1_1, []), ([], []), ([0, 1, 7, 8, 9], []), ([], []), ([], []), ([], []), ([], []), ([], []), ([], []), ([], [])] (by kernel_rfl)
def c_fault_New : CFn := ⟨8, .seq (.region [oN 4 (.mov (.con (.nili)))])
  (.seq (.region [mV 5 0,
 mV 6 1,
 oN 7 (.call 86 [(tP 5), (tP 6), (.con (.nili))]),
 mV 4 7])
  (.ret)),
  [.tmp 4]⟩
theorem is_fault_New : IsFn Tryz.prog 44 c_fault_New := isFn_of [([], []), ([], []), ([], [])] (by kernel_rfl)
def c_speech_part : CFn := ⟨89, .seq (.region [mV 6 1])
  (.block 0 (.seq (.region [oN 13 (.bin .eql (tP 6) (.con (.int .u8 97))),
 mV 12 13])
  (.cond (tP 12) (.region [mV 14 0,
 mV 15 2,
 oN 16 (.pcall 87 [(tP 15)]),
 oN 17 (.nilck (tP 14)),
 oN 18 (.faddr 1 (tP 17)),
 ⟨none, .store 1 (tP 18) (tP 16), none⟩]) (.seq (.region [oN 20 (.bin .eql (tP 6) (.con (.int .u8 115))),
 mV 19 20])
  (.cond (tP 19) (.region [mV 21 0,
 mV 22 2,
 oN 23 (.pcall 87 [(tP 22)]),
 oN 24 (.nilck (tP 21)),
 oN 25 (.faddr 9 (tP 24)),
 ⟨none, .store 1 (tP 25) (tP 23), none⟩]) (.seq (.region [oN 27 (.bin .eql (tP 6) (.con (.int .u8 108))),
 mV 26 27])
  (.cond (tP 26) (.region [mV 29 0,
 mV 30 2,
 oN 31 (.pcall 16 [(tP 30)]),
 oN 28 (.take (tP 31)),
 oN 32 (.extract 28 0),
 oN 33 (.extract 28 1),
 oN 34 (.nilck (tP 29)),
 oN 35 (.faddr 2 (tP 34)),
 ⟨none, .store 1 (tP 35) (tP 32), none⟩]) (.seq (.region [oN 37 (.bin .eql (tP 6) (.con (.int .u8 101))),
 mV 36 37])
  (.cond (tP 36) (.region [mV 39 0,
 mV 40 2,
 oN 41 (.pcall 16 [(tP 40)]),
 oN 38 (.take (tP 41)),
 oN 42 (.extract 38 0),
 oN 43 (.extract 38 1),
 oN 44 (.nilck (tP 39)),
 oN 45 (.faddr 3 (tP 44)),
 ⟨none, .store 1 (tP 45) (tP 42), none⟩]) (.seq (.region [oN 47 (.bin .eql (tP 6) (.con (.int .u8 110))),
 mV 46 47])
  (.cond (tP 46) (.region [mV 49 0,
 mV 50 2,
 oN 51 (.call 57 [(tP 50)]),
 mV 48 51,
 oN 52 (.extract 48 0),
 oN 53 (.extract 48 1),
 oN 54 (.nilck (tP 49)),
 oN 55 (.faddr 5 (tP 54)),
 ⟨none, .store 1 (tP 55) (tP 52), none⟩]) (.seq (.region [oN 57 (.bin .eql (tP 6) (.con (.int .u8 109))),
 mV 56 57])
  (.cond (tP 56) (.region [mV 59 0,
 mV 60 2,
 oN 61 (.call 57 [(tP 60)]),
 mV 58 61,
 oN 62 (.extract 58 0),
 oN 63 (.extract 58 1),
 oN 64 (.nilck (tP 59)),
 oN 65 (.faddr 6 (tP 64)),
 ⟨none, .store 1 (tP 65) (tP 62), none⟩]) (.seq (.region [oN 67 (.bin .eql (tP 6) (.con (.int .u8 111))),
 mV 66 67])
  (.cond (tP 66) (.region [mV 69 0,
 mV 70 2,
 oN 71 (.pcall 18 [(tP 70)]),
 oN 68 (.take (tP 71)),
 oN 72 (.extract 68 0),
 oN 73 (.extract 68 1),
 oN 74 (.nilck (tP 69)),
 oN 75 (.faddr 4 (tP 74)),
 ⟨none, .store 1 (tP 75) (tP 72), none⟩]) (.seq (.region [oN 77 (.bin .eql (tP 6) (.con (.int .u8 116))),
 mV 76 77])
  (.cond (tP 76) (.region [mV 78 0,
 mV 79 2,
 oN 80 (.pcall 88 [(tP 79)]),
 oN 81 (.nilck (tP 78)),
 oN 82 (.faddr 7 (tP 81)),
 ⟨none, .store 1 (tP 82) (tP 80), none⟩]) (.seq (.region [oN 84 (.bin .eql (tP 6) (.con (.int .u8 99))),
 mV 83 84])
  (.cond (tP 83) (.region [mV 85 0,
 mV 86 2,
 oN 87 (.nilck (tP 85)),
 oN 88 (.faddr 8 (tP 87)),
 ⟨none, .store 1 (tP 88) (tP 86), none⟩]) (.region [mV 7 0,
 mV 8 2,
 oN 9 (.bin .eql (tP 8) (.con (.str ⟨#[119]⟩))),
 oN 10 (.nilck (tP 7)),
 oN 11 (.faddr 10 (tP 10)),
 ⟨none, .store 1 (tP 11) (tP 9), none⟩])))))))))))))))))))),
  []⟩
theorem is_speech_part : IsFn Tryz.prog 45 c_speech_part := isFn_of [([], []), ([], []), ([], [2]), ([], []), ([], [2]), ([], []), ([], [2, 3]), ([], []), ([], [2, 3]), ([], []), ([], []), ([], []), ([], []), ([], []), ([], [2, 3]), ([], []), ([], [2]), ([], []), ([], []), ([], [])] (by kernel_rfl)
abbrev s_slices_Equal_int_int_0 (v0 v1 v12 v13 : AV) : List AV := [v0, v1, undefA, undefA, .any, .any, .any, .any, .any, .any, .any, .any, v12, v13, .any, .any, .any, .any, .any, .any, .any, .any, .any, .any, .any, .any]
abbrev x_slices_Equal_int_int_0  : List AV := [.any, .any, undefA, undefA, .any, .any, .any, .any, .any, .any, .any, .any, .any, .any, .any, .any, .any, .any, .any, .any, .any, .any, .any, .any, .any, .any]
abbrev l_slices_Equal_int_int_0 : CC := .kill kl1_0 (.seq (.region [oN 14 (.bin .lss (tP 13) (tP 12))])
  (.seq (.cond (tP 14) (.skip) (.kill [0, 1, 12, 13, 14] (.exit 0)))
  (.seq (.block 1 (.seq (.region [mV 15 13,
 mV 5 15])
  (.seq (.region [mV 16 0,
 mV 17 5,
 oN 18 (.iaddr 1 none (tP 16) (tP 17)),
 lD 19 18,
 mV 20 1,
 mV 21 5,
 oN 22 (.iaddr 1 none (tP 20) (tP 21)),
 lD 23 22,
 oN 24 (.bin .neq (tP 19) (tP 23))])
  (.cond (tP 24) (.seq (.region [oN 4 (.mov (.con (.bool false)))])
  (.ret)) (.skip)))))
  (.region [oN 25 (.bin .add (tP 13) (.con (.int .i64 1))),
 mV 13 25]))))
def c_slices_Equal_int_int : CFn := ⟨26, .seq (.region [oN 4 (.mov (.con (.bool false)))])
  (.seq (.seq (.region [mV 6 0,
 oN 7 (.lenl (tP 6)),
 mV 8 1,
 oN 9 (.lenl (tP 8)),
 oN 10 (.bin .neq (tP 7) (tP 9))])
  (.cond (tP 10) (.seq (.region [oN 4 (.mov (.con (.bool false)))])
  (.ret)) (.skip)))
  (.seq (.seq (.region [mV 11 0,
 oN 12 (.lenl (tP 11)),
 oN 13 (.mov (.con (.int .i64 0)))])
  (.block 0 (.kill kl1_0 (.loop l_slices_Equal_int_int_0))))
  (.seq (.region [oN 4 (.mov (.con (.bool true)))])
  (.ret)))),
  [.tmp 4]⟩
theorem is_slices_Equal_int_int : IsFn Tryz.prog 46 c_slices_Equal_int_int := isFn_of [([], []), ([], []), ([], []), ([], []), ([], []), (kl1_0, []), ([], []), ([0, 1, 12, 13, 14], []), ([], []), ([], []), ([], []), ([], []), ([], []), ([], []), ([], [])] (by kernel_rfl)
def c_label_Same : CFn := ⟨8, .seq (.region [oN 4 (.mov (.con (.bool false)))])
  (.seq (.region [oN 5 (.take (tP 0)),
 oN 6 (.take (tP 1)),
 oN 7 (.pcall 89 [(tP 5), (tP 6)]),
 mV 4 7])
  (.ret)),
  [.tmp 4]⟩
theorem is_label_Same : IsFn Tryz.prog 47 c_label_Same := isFn_of [([], []), ([], [0, 1, 2]), ([], [])] (by kernel_rfl)
abbrev s_slices_Equal_string_string_0 (v0 v1 v12 v13 : AV) : List AV := [v0, v1, undefA, undefA, .any, .any, .any, .any, .any, .any, .any, .any, v12, v13, .any, .any, .any, .any, .any, .any, .any, .any, .any, .any, .any, .any]
abbrev x_slices_Equal_string_string_0  : List AV := [.any, .any, undefA, undefA, .any, .any, .any, .any, .any, .any, .any, .any, .any, .any, .any, .any, .any, .any, .any, .any, .any, .any, .any, .any, .any, .any]
abbrev l_slices_Equal_string_string_0 : CC := .kill kl1_0 (.seq (.region [oN 14 (.bin .lss (tP 13) (tP 12))])
  (.seq (.cond (tP 14) (.skip) (.kill [0, 1, 12, 13, 14] (.exit 0)))
  (.seq (.block 1 (.seq (.region [mV 15 13,
 mV 5 15])
  (.seq (.region [mV 16 0,
 mV 17 5,
 oN 18 (.iaddr 1 none (tP 16) (tP 17)),
 lD 19 18,
 mV 20 1,
 mV 21 5,
 oN 22 (.iaddr 1 none (tP 20) (tP 21)),
 lD 23 22,
 oN 24 (.bin .neq (tP 19) (tP 23))])
  (.cond (tP 24) (.seq (.region [oN 4 (.mov (.con (.bool false)))])
  (.ret)) (.skip)))))
  (.region [oN 25 (.bin .add (tP 13) (.con (.int .i64 1))),
 mV 13 25]))))
def c_slices_Equal_string_string : CFn := ⟨26, .seq (.region [oN 4 (.mov (.con (.bool false)))])
  (.seq (.seq (.region [mV 6 0,
 oN 7 (.lenl (tP 6)),
 mV 8 1,
 oN 9 (.lenl (tP 8)),
 oN 10 (.bin .neq (tP 7) (tP 9))])
  (.cond (tP 10) (.seq (.region [oN 4 (.mov (.con (.bool false)))])
  (.ret)) (.skip)))
  (.seq (.seq (.region [mV 11 0,
 oN 12 (.lenl (tP 11)),
 oN 13 (.mov (.con (.int .i64 0)))])
  (.block 0 (.kill kl1_0 (.loop l_slices_Equal_string_string_0))))
  (.seq (.region [oN 4 (.mov (.con (.bool true)))])
  (.ret)))),
  [.tmp 4]⟩
theorem is_slices_Equal_string_string : IsFn Tryz.prog 48 c_slices_Equal_string_string := isFn_of [([], []), ([], []), ([], []), ([], []), ([], []), (kl1_0, []), ([], []), ([0, 1, 12, 13, 14], []), ([], []), ([], []), ([], []), ([], []), ([], []), ([], []), ([], [])] (by kernel_rfl)
def c_bytes_Equal : CFn := ⟨10, .seq (.region [oN 4 (.mov (.con (.bool false)))])
  (.seq (.region [oN 5 (.take (tP 0)),
 oN 6 (.cBytesStr (tP 5)),
 oN 7 (.take (tP 1)),
 oN 8 (.cBytesStr (tP 7)),
 oN 9 (.bin .eql (tP 6) (tP 8)),
 mV 4 9])
  (.ret)),
  [.tmp 4]⟩
theorem is_bytes_Equal : IsFn Tryz.prog 49 c_bytes_Equal := isFn_of [([], []), ([], [0, 2]), ([], [])] (by kernel_rfl)
abbrev s_regencyref05_Get_0 (v0 v2 v4 v5 v6 v7 : AV) : List AV := [v0, undefA, v2, .any, v4, v5, v6, v7, .any, .any, .any, .any, .any, .any, .any, .any, .any, .any, .any, .any, .any, .any, .any, .any, .any, .any, .any, .any, .any, .any, .any, .any, .any, .any, .any, .any, .any, .any, .any, .any, .any, .any, .any, .any, .any, .any, .any, .any, .any, .any, .any, .any, .any, .any, .any, .any, .any, undefA, undefA, undefA, undefA, undefA, undefA, undefA, undefA, undefA, undefA, undefA, undefA, undefA]
abbrev x_regencyref05_Get_0 (v0 v2 v4 v5 : AV) : List AV := [v0, undefA, v2, .any, v4, v5, .any, .any, .any, .any, .any, .any, .any, .any, .any, .any, .any, .any, .any, .any, .any, .any, .any, .any, .any, .any, .any, .any, .any, .any, .any, .any, .any, .any, .any, .any, .any, .any, .any, .any, .any, .any, .any, .any, .any, .any, .any, .any, .any, .any, .any, .any, .any, .any, .any, .any, .any, undefA, undefA, undefA, undefA, undefA, undefA, undefA, undefA, undefA, undefA, undefA, undefA, undefA]
abbrev l_regencyref05_Get_0 : CC := .kill kl1_6 (.seq (.seq (.region [mV 8 7,
 mV 9 0,
 oN 10 (.lens (tP 9)),
 oN 11 (.bin .lss (tP 8) (tP 10))])
  (.cond (tP 11) (.skip) (.kill [6, 7, 8, 9, 10, 11] (.exit 0))))
  (.seq (.block 1 (.block 2 (.seq (.region [mV 15 0,
 mV 16 7,
 oN 17 (.idxs (tP 15) (tP 16)),
 oN 18 (.bin .geq (tP 17) (.con (.int .u8 48))),
 mV 19 18,
 oG 20 (.mov (tP 0)) 19 true,
 oG 21 (.mov (tP 7)) 19 true,
 oG 22 (.idxs (tP 20) (tP 21)) 19 true,
 oG 23 (.bin .leq (tP 22) (.con (.int .u8 57))) 19 true,
 oN 24 (.pick (tP 19) (tP 23) (.con (.bool false))),
 mV 14 24])
  (.cond (tP 14) (.seq (.region [mV 25 6,
 oN 26 (.bin .add (tP 25) (.con (.int .i64 1))),
 mV 6 26])
  (.seq (.seq (.region [mV 27 6,
 oN 28 (.bin .gtr (tP 27) (.con (.int .i64 8)))])
  (.cond (tP 28) (.seq (.region [oN 29 (.build [.sl .ex [], .int .i64 0] []),
 ⟨none, .store 2 (tP 2) (tP 29), none⟩,
 oN 3 (.mov (.con (.bool false)))])
  (.ret)) (.skip)))
  (.region [mV 30 5,
 oN 31 (.bin .mul (.con (.int .i64 10)) (tP 30)),
 mV 32 0,
 mV 33 7,
 oN 34 (.idxs (tP 32) (tP 33)),
 oN 35 (.bin .sub (tP 34) (.con (.int .u8 48))),
 oN 36 (.cInt .i64 (tP 35)),
 oN 37 (.bin .add (tP 31) (tP 36)),
 mV 5 37]))) (.seq (.region [mV 39 0,
 mV 40 7,
 oN 41 (.idxs (tP 39) (tP 40)),
 oN 42 (.bin .eql (tP 41) (.con (.int .u8 46))),
 mV 43 42,
 oG 44 (.mov (tP 0)) 43 false,
 oG 45 (.mov (tP 7)) 43 false,
 oG 46 (.idxs (tP 44) (tP 45)) 43 false,
 oG 47 (.bin .eql (tP 46) (.con (.int .u8 47))) 43 false,
 oN 48 (.pick (tP 43) (.con (.bool true)) (tP 47)),
 mV 38 48])
  (.cond (tP 38) (.seq (.seq (.region [mV 49 6,
 oN 50 (.bin .gtr (tP 49) (.con (.int .i64 0)))])
  (.cond (tP 50) (.region [oN 51 (.faddr 0 (tP 4)),
 oN 52 (.ltake (tP 51)),
 mV 53 5,
 oN 54 (.bslice 1 false [(tP 53)]),
 oN 55 (.append 1 8 false (tP 52) (tP 54)),
 oN 56 (.faddr 0 (tP 4)),
 ⟨none, .store 1 (tP 56) (tP 55), none⟩]) (.skip)))
  (.seq (.region [oN 5 (.mov (.con (.int .i64 0)))])
  (.region [oN 6 (.mov (.con (.int .i64 0)))]))) (.skip)))))))
  (.region [mV 12 7,
 oN 13 (.bin .add (tP 12) (.con (.int .i64 1))),
 mV 7 13])))
def c_regencyref05_Get : CFn := ⟨70, .seq (.region [oN 2 (.alloc [.sl .ex [], .int .i64 0]),
 oN 3 (.mov (.con (.bool false)))])
  (.seq (.region [oN 4 (.alloc [.sl .ex [], .int .i64 0])])
  (.seq (.region [oN 5 (.mov (.con (.int .i64 0))),
 oN 6 (.mov (.con (.int .i64 0)))])
  (.seq (.seq (.region [oN 7 (.mov (.con (.int .i64 0)))])
  (.block 0 (.kill kl1_6 (.loop l_regencyref05_Get_0))))
  (.seq (.region [mV 57 5,
 oN 58 (.faddr 1 (tP 4)),
 ⟨none, .store 1 (tP 58) (tP 57), none⟩])
  (.seq (.seq (.region [oN 59 (.load (some 2) (tP 4)),
 oN 60 (.pcall 91 [(tP 59)]),
 oN 61 (.un .not (tP 60)),
 mV 62 61,
 oG 63 (.load (some 2) (tP 4)) 62 false,
 oG 64 (.pcall 92 [(tP 63)]) 62 false,
 oG 65 (.mov (tP 0)) 62 false,
 oG 66 (.bin .neq (tP 64) (tP 65)) 62 false,
 oN 67 (.pick (tP 62) (.con (.bool true)) (tP 66))])
  (.cond (tP 67) (.seq (.region [oN 68 (.build [.sl .ex [], .int .i64 0] []),
 ⟨none, .store 2 (tP 2) (tP 68), none⟩,
 oN 3 (.mov (.con (.bool false)))])
  (.ret)) (.skip)))
  (.seq (.region [oN 69 (.load (some 2) (tP 4)),
 ⟨none, .store 2 (tP 2) (tP 69), none⟩,
 oN 3 (.mov (.con (.bool true)))])
  (.ret))))))),
  [.cell 2 (some 2), .tmp 3]⟩
theorem is_regencyref05_Get : IsFn Tryz.prog 54 c_regencyref05_Get := isFn_of [([], []), ([], []), ([], []), ([], []), (kl1_6, []), ([], []), ([6, 7, 8, 9, 10, 11], []), ([], []), ([], []), ([], []), ([], []), ([], []), ([], []), ([], []), ([], []), ([], [1]), ([], []), ([], []), ([], []), ([], []), ([], [1, 5]), ([], []), ([], []), ([], []), ([], [])] (by kernel_rfl)
def c_strings_SplitSeq : CFn := ⟨8, .seq (.region [oN 4 (.mov (.con (.nilf)))])
  (.seq (.region [mV 5 0,
 mV 6 1,
 oN 7 (.call 93 [(tP 5), (tP 6), (.con (.int .i64 0))]),
 mV 4 7])
  (.ret)),
  [.tmp 4]⟩
theorem is_strings_SplitSeq : IsFn Tryz.prog 55 c_strings_SplitSeq := isFn_of [([], []), ([], []), ([], [])] (by kernel_rfl)
def c_strings_Cut : CFn := ⟨13, .seq (.region [oN 4 (.mov (.con (.str ⟨#[]⟩))),
 oN 5 (.mov (.con (.str ⟨#[]⟩))),
 oN 6 (.mov (.con (.bool false)))])
  (.seq (.region [mV 7 0,
 mV 8 1,
 oN 9 (.pcall 94 [(tP 7), (tP 8)]),
 oN 10 (.extract 9 0),
 oN 11 (.extract 9 1),
 oN 12 (.extract 9 2),
 mV 4 10,
 mV 5 11,
 mV 6 12])
  (.ret)),
  [.tmp 4, .tmp 5, .tmp 6]⟩
theorem is_strings_Cut : IsFn Tryz.prog 56 c_strings_Cut := isFn_of [([], []), ([], [2]), ([], [])] (by kernel_rfl)
theorem ok_strconv_Atoi : OkDef Tryz.prog 57 (.prim (atoiP 151)) := atoi_ok (eb := 5) (⟨Tryz.f57, Tryz.func57, by kernel_rfl, by kernel_rfl⟩ : Callable Tryz.prog 57) (fun s hs v h w => Tryz.strconv_Atoi_ok s hs v h w) (fun s hs h w0 w hw hb => by obtain ⟨tp, q, hv⟩ := errvar_ok (P := Tryz.prog) (hw.2 2 (by decide)) hb (n := "strconv.ErrSyntax") (by kernel_rfl); refine (Tryz.strconv_Atoi_syntax_var s hs h tp q w hv).mono ?_; rintro e w' ⟨N, rfl, _, _, hb'⟩; exact ⟨N, rfl, hb'⟩) (fun s hs h w0 w hw hb => by obtain ⟨tp, q, hv⟩ := errvar_ok (P := Tryz.prog) (hw.2 3 (by decide)) hb (n := "strconv.ErrRange") (by kernel_rfl); refine (Tryz.strconv_Atoi_range_var s hs h tp q w hv).mono ?_; rintro e w' ⟨N, rfl, _, _, hb'⟩; exact ⟨N, rfl, hb'⟩)
abbrev s_label_Right_0 (v0 v8 v9 v10 : AV) : List AV := [v0, undefA, .any, .any, .any, .any, .any, .any, v8, v9, v10, .any, .any, .any, .any, .any, .any, .any, .any, .any, .any, .any, .any, .any, .any, .any, .any, .any, .any, .any, .any, .any, .any, .any, .any, .any, .any, .any, .any, .any, .any, .any, .any, .any, .any, .any, .any, .any, .any, .any]
abbrev x_label_Right_0  : List AV := [.any, undefA, .any, .any, .any, .any, .any, .any, .any, .any, .any, .any, .any, .any, .any, .any, .any, .any, .any, .any, .any, .any, .any, .any, .any, .any, .any, .any, .any, .any, .any, .any, .any, .any, .any, .any, .any, .any, .any, .any, .any, .any, .any, .any, .any, .any, .any, .any, .any, .any]
abbrev l_label_Right_0 : CC := .kill kl1_7 (.seq (.region [oN 11 (.bin .lss (tP 10) (tP 9))])
  (.seq (.cond (tP 11) (.skip) (.kill [0, 8, 9, 10, 11] (.exit 0)))
  (.seq (.block 1 (.seq (.region [mV 12 10,
 oN 13 (.iaddr 2 none (tP 8) (tP 10)),
 oN 14 (.load (some 2) (tP 13)),
 oN 4 (.alloc [.str ⟨#[]⟩, .int .i64 0]),
 mV 3 12,
 ⟨none, .store 2 (tP 4) (tP 14), none⟩])
  (.seq (.region [oN 15 (.faddr 0 (tP 4)),
 lD 16 15,
 oN 17 (.pcall 84 [(tP 16)]),
 oN 18 (.un .not (tP 17)),
 mV 19 18,
 oG 20 (.faddr 1 (tP 4)) 19 false,
 oG 21 (.load none (tP 20)) 19 false,
 oG 22 (.bin .eql (tP 21) (.con (.int .i64 1))) 19 false,
 oN 23 (.pick (tP 19) (.con (.bool true)) (tP 22)),
 mV 24 23,
 oG 25 (.faddr 1 (tP 4)) 24 false,
 oG 26 (.load none (tP 25)) 24 false,
 oG 27 (.bin .lss (tP 26) (.con (.int .i64 0))) 24 false,
 oN 28 (.pick (tP 24) (.con (.bool true)) (tP 27)),
 mV 29 28,
 oG 30 (.faddr 1 (tP 4)) 29 false,
 oG 31 (.load none (tP 30)) 29 false,
 oG 32 (.bin .geq (tP 31) (.con (.int .i64 4))) 29 false,
 oN 33 (.pick (tP 29) (.con (.bool true)) (tP 32)),
 mV 34 33,
 oG 35 (.mov (tP 3)) 34 false,
 oG 36 (.bin .gtr (tP 35) (.con (.int .i64 0))) 34 false,
 oG 37 (.mov (tP 36)) 34 false,
 oG 38 (.mov (tP 0)) 37 true,
 oG 39 (.mov (tP 3)) 37 true,
 oG 40 (.bin .sub (tP 39) (.con (.int .i64 1))) 37 true,
 oG 41 (.iaddr 2 none (tP 38) (tP 40)) 37 true,
 oG 42 (.load (some 2) (tP 41)) 37 true,
 oG 43 (.faddr 0 (tP 4)) 37 true,
 oG 44 (.load none (tP 43)) 37 true,
 oG 45 (.pcall 97 [(tP 42), (tP 44)]) 37 true,
 oG 46 (.bin .geq (tP 45) (.con (.int .i64 0))) 37 true,
 oG 47 (.pick (tP 37) (tP 46) (.con (.bool false))) 34 false,
 oN 48 (.pick (tP 34) (.con (.bool true)) (tP 47))])
  (.cond (tP 48) (.seq (.region [oN 2 (.mov (.con (.bool false)))])
  (.ret)) (.skip)))))
  (.region [oN 49 (.bin .add (tP 10) (.con (.int .i64 1))),
 mV 10 49]))))
def c_label_Right : CFn := ⟨50, .seq (.region [oN 2 (.mov (.con (.bool false)))])
  (.seq (.seq (.region [mV 5 0,
 oN 6 (.lenl (tP 5)),
 oN 7 (.bin .gtr (tP 6) (.con (.int .i64 8)))])
  (.cond (tP 7) (.seq (.region [oN 2 (.mov (.con (.bool false)))])
  (.ret)) (.skip)))
  (.seq (.seq (.region [mV 8 0,
 oN 9 (.lenl (tP 8)),
 oN 10 (.mov (.con (.int .i64 0)))])
  (.block 0 (.kill kl1_7 (.loop l_label_Right_0))))
  (.seq (.region [oN 2 (.mov (.con (.bool true)))])
  (.ret)))),
  [.tmp 2]⟩
theorem is_label_Right : IsFn Tryz.prog 58 c_label_Right := isFn_of [([], []), ([], []), ([], []), ([], []), ([], []), (kl1_7, []), ([], []), ([0, 8, 9, 10, 11], []), ([], []), ([], [2, 30]), ([], []), ([], []), ([], []), ([], []), ([], [])] (by kernel_rfl)
abbrev s_label_Text_0 (v3 v9 v10 v11 : AV) : List AV := [.any, undefA, .any, v3, undefA, .any, .any, .any, .any, v9, v10, v11, .any, .any, .any, .any, .any, .any, .any, .any, .any, .any, .any, .any, .any, .any, undefA, undefA]
abbrev x_label_Text_0 (v3 : AV) : List AV := [.any, undefA, .any, v3, undefA, .any, .any, .any, .any, .any, .any, .any, .any, .any, .any, .any, .any, .any, .any, .any, .any, .any, .any, .any, .any, .any, undefA, undefA]
abbrev l_label_Text_0 : CC := .kill kl1_8 (.seq (.region [oN 12 (.bin .lss (tP 11) (tP 10))])
  (.seq (.cond (tP 12) (.skip) (.kill [9, 10, 11, 12] (.exit 0)))
  (.seq (.block 1 (.seq (.region [oN 13 (.iaddr 2 none (tP 9) (tP 11)),
 oN 14 (.load (some 2) (tP 13)),
 oN 5 (.alloc [.str ⟨#[]⟩, .int .i64 0]),
 ⟨none, .store 2 (tP 5) (tP 14), none⟩])
  (.region [oN 15 (.take (tP 3)),
 oN 16 (.faddr 0 (tP 5)),
 lD 17 16,
 oN 18 (.bin .add (tP 17) (.con (.str ⟨#[61]⟩))),
 oN 19 (.faddr 1 (tP 5)),
 lD 20 19,
 oN 21 (.pcall 67 [(tP 20)]),
 oN 22 (.bin .add (tP 18) (tP 21)),
 oN 23 (.bslice 1 false [(tP 22)]),
 oN 24 (.append 1 16 false (tP 15) (tP 23)),
 oN 3 (.take (tP 24))])))
  (.region [oN 25 (.bin .add (tP 11) (.con (.int .i64 1))),
 mV 11 25]))))
def c_label_Text : CFn := ⟨28, .seq (.region [oN 2 (.mov (.con (.str ⟨#[]⟩)))])
  (.seq (.seq (.region [mV 6 0,
 oN 7 (.lenl (tP 6)),
 oN 8 (.bin .eql (tP 7) (.con (.int .i64 0)))])
  (.cond (tP 8) (.seq (.region [oN 2 (.mov (.con (.str ⟨#[45]⟩)))])
  (.ret)) (.skip)))
  (.seq (.region [oN 3 (.take (.con (.sl .ex [])))])
  (.seq (.seq (.region [oN 9 (.take (tP 0)),
 oN 10 (.lenl (tP 9)),
 oN 11 (.mov (.con (.int .i64 0)))])
  (.block 0 (.kill kl1_8 (.loop l_label_Text_0))))
  (.seq (.region [oN 26 (.take (tP 3)),
 oN 27 (.pcall 29 [(tP 26), (.con (.str ⟨#[44]⟩))]),
 mV 2 27])
  (.ret))))),
  [.tmp 2]⟩
theorem is_label_Text : IsFn Tryz.prog 59 c_label_Text := isFn_of [([], []), ([], []), ([], []), ([], []), ([], [0]), ([], [0]), (kl1_8, []), ([], []), ([9, 10, 11, 12], []), ([], []), ([], [0, 6, 10]), ([], []), ([], [0, 1]), ([], [])] (by kernel_rfl)
def c_owns_Right : CFn := ⟨12, .seq (.region [oN 2 (.mov (.con (.bool false)))])
  (.seq (.region [mV 3 0,
 oN 4 (.lenl (tP 3)),
 oN 5 (.bin .leq (tP 4) (.con (.int .i64 8))),
 mV 6 5,
 oG 7 (.mov (tP 0)) 6 true,
 oG 8 (.pcall 100 [(tP 7)]) 6 true,
 oG 9 (.take (tP 0)) 6 true,
 oG 10 (.pcall 48 [(tP 8), (tP 9)]) 6 true,
 oN 11 (.pick (tP 6) (tP 10) (.con (.bool false))),
 mV 2 11])
  (.ret)),
  [.tmp 2]⟩
theorem is_owns_Right : IsFn Tryz.prog 61 c_owns_Right := isFn_of [([], []), ([], [5, 6, 7]), ([], [])] (by kernel_rfl)
abbrev s_regencyref08_Same_0 (v0 v1 v12 v13 : AV) : List AV := [v0, v1, undefA, undefA, .any, .any, .any, .any, .any, .any, .any, .any, v12, v13, .any, .any, .any, .any, .any, .any, .any, .any, .any, .any, .any, .any]
abbrev x_regencyref08_Same_0  : List AV := [.any, .any, undefA, undefA, .any, .any, .any, .any, .any, .any, .any, .any, .any, .any, .any, .any, .any, .any, .any, .any, .any, .any, .any, .any, .any, .any]
abbrev l_regencyref08_Same_0 : CC := .kill kl1_0 (.seq (.region [oN 14 (.bin .lss (tP 13) (tP 12))])
  (.seq (.cond (tP 14) (.skip) (.kill [0, 1, 12, 13, 14] (.exit 0)))
  (.seq (.block 1 (.seq (.region [mV 15 13,
 mV 5 15])
  (.seq (.region [mV 16 0,
 mV 17 5,
 oN 18 (.iaddr 1 none (tP 16) (tP 17)),
 lD 19 18,
 mV 20 1,
 mV 21 5,
 oN 22 (.iaddr 1 none (tP 20) (tP 21)),
 lD 23 22,
 oN 24 (.bin .neq (tP 19) (tP 23))])
  (.cond (tP 24) (.seq (.region [oN 4 (.mov (.con (.bool false)))])
  (.ret)) (.skip)))))
  (.region [oN 25 (.bin .add (tP 13) (.con (.int .i64 1))),
 mV 13 25]))))
def c_regencyref08_Same : CFn := ⟨26, .seq (.region [oN 4 (.mov (.con (.bool false)))])
  (.seq (.seq (.region [mV 6 0,
 oN 7 (.lenl (tP 6)),
 mV 8 1,
 oN 9 (.lenl (tP 8)),
 oN 10 (.bin .neq (tP 7) (tP 9))])
  (.cond (tP 10) (.seq (.region [oN 4 (.mov (.con (.bool false)))])
  (.ret)) (.skip)))
  (.seq (.seq (.region [mV 11 0,
 oN 12 (.lenl (tP 11)),
 oN 13 (.mov (.con (.int .i64 0)))])
  (.block 0 (.kill kl1_0 (.loop l_regencyref08_Same_0))))
  (.seq (.region [oN 4 (.mov (.con (.bool true)))])
  (.ret)))),
  [.tmp 4]⟩
theorem is_regencyref08_Same : IsFn Tryz.prog 63 c_regencyref08_Same := isFn_of [([], []), ([], []), ([], []), ([], []), ([], []), (kl1_0, []), ([], []), ([0, 1, 12, 13, 14], []), ([], []), ([], []), ([], []), ([], []), ([], []), ([], []), ([], [])] (by kernel_rfl)
def c_speech_way : CFn := ⟨8, .seq (.region [oN 2 (.mov (.con (.str ⟨#[]⟩)))])
  (.seq (.seq (.region [mV 3 0,
 oN 4 (.lenl (tP 3)),
 oN 5 (.bin .eql (tP 4) (.con (.int .i64 0)))])
  (.cond (tP 5) (.seq (.region [oN 2 (.mov (.con (.str ⟨#[46]⟩)))])
  (.ret)) (.skip)))
  (.seq (.region [oN 6 (.take (tP 0)),
 oN 7 (.pcall 105 [(tP 6)]),
 mV 2 7])
  (.ret))),
  [.tmp 2]⟩
theorem is_speech_way : IsFn Tryz.prog 66 c_speech_way := isFn_of [([], []), ([], []), ([], []), ([], []), ([], [0, 1]), ([], [])] (by kernel_rfl)
theorem ok_strconv_Itoa : OkDef Tryz.prog 67 (.prim itoaP) := itoa_ok (⟨Tryz.f67, Tryz.func67, by kernel_rfl, by kernel_rfl⟩ : Callable Tryz.prog 67) tab_ok (fun n h0 h1 w ht => Tryz.strconv_Itoa n h0 h1 w ht)
def c_speech_own : CFn := ⟨8, .seq (.region [oN 2 (.mov (.con (.str ⟨#[]⟩)))])
  (.seq (.seq (.region [mV 3 0,
 oN 4 (.lenl (tP 3)),
 oN 5 (.bin .eql (tP 4) (.con (.int .i64 0)))])
  (.cond (tP 5) (.seq (.region [oN 2 (.mov (.con (.str ⟨#[45]⟩)))])
  (.ret)) (.skip)))
  (.seq (.region [oN 6 (.take (tP 0)),
 oN 7 (.pcall 29 [(tP 6), (.con (.str ⟨#[44]⟩))]),
 mV 2 7])
  (.ret))),
  [.tmp 2]⟩
theorem is_speech_own : IsFn Tryz.prog 68 c_speech_own := isFn_of [([], []), ([], []), ([], []), ([], []), ([], [0, 1]), ([], [])] (by kernel_rfl)
abbrev s_speech_bytes_0 (v3 v9 v10 v11 : AV) : List AV := [.any, undefA, .any, v3, undefA, .any, .any, .any, .any, v9, v10, v11, .any, .any, .any, .any, .any, .any, .any, .any, .any, .any, .any, .any, .any, undefA, undefA]
abbrev x_speech_bytes_0 (v3 : AV) : List AV := [.any, undefA, .any, v3, undefA, .any, .any, .any, .any, .any, .any, .any, .any, .any, .any, .any, .any, .any, .any, .any, .any, .any, .any, .any, .any, undefA, undefA]
abbrev l_speech_bytes_0 : CC := .kill kl1_9 (.seq (.region [oN 12 (.bin .lss (tP 11) (tP 10))])
  (.seq (.cond (tP 12) (.skip) (.kill [9, 10, 11, 12] (.exit 0)))
  (.seq (.block 1 (.seq (.region [oN 13 (.iaddr 1 none (tP 9) (tP 11)),
 lD 14 13,
 mV 5 14])
  (.region [oN 15 (.take (tP 3)),
 mV 16 5,
 oN 17 (.bin .shr (tP 16) (.con (.int .u64 4))),
 oN 18 (.idxs (.con (.str ⟨#[48, 49, 50, 51, 52, 53, 54, 55, 56, 57, 97, 98, 99, 100, 101, 102]⟩)) (tP 17)),
 mV 19 5,
 oN 20 (.bin .and (tP 19) (.con (.int .u8 15))),
 oN 21 (.idxs (.con (.str ⟨#[48, 49, 50, 51, 52, 53, 54, 55, 56, 57, 97, 98, 99, 100, 101, 102]⟩)) (tP 20)),
 oN 22 (.bslice 1 false [(tP 18), (tP 21)]),
 oN 23 (.append 1 1 false (tP 15) (tP 22)),
 oN 3 (.take (tP 23))])))
  (.region [oN 24 (.bin .add (tP 11) (.con (.int .i64 1))),
 mV 11 24]))))
def c_speech_bytes : CFn := ⟨27, .seq (.region [oN 2 (.mov (.con (.str ⟨#[]⟩)))])
  (.seq (.seq (.region [mV 6 0,
 oN 7 (.lenl (tP 6)),
 oN 8 (.bin .eql (tP 7) (.con (.int .i64 0)))])
  (.cond (tP 8) (.seq (.region [oN 2 (.mov (.con (.str ⟨#[45]⟩)))])
  (.ret)) (.skip)))
  (.seq (.region [oN 3 (.take (.con (.sl .ex [])))])
  (.seq (.seq (.region [oN 9 (.take (tP 0)),
 oN 10 (.lenl (tP 9)),
 oN 11 (.mov (.con (.int .i64 0)))])
  (.block 0 (.kill kl1_9 (.loop l_speech_bytes_0))))
  (.seq (.region [oN 25 (.take (tP 3)),
 oN 26 (.cBytesStr (tP 25)),
 mV 2 26])
  (.ret))))),
  [.tmp 2]⟩
theorem is_speech_bytes : IsFn Tryz.prog 69 c_speech_bytes := isFn_of [([], []), ([], []), ([], []), ([], []), ([], [0]), ([], [0]), (kl1_9, []), ([], []), ([9, 10, 11, 12], []), ([], []), ([], [0, 9]), ([], []), ([], [0]), ([], [])] (by kernel_rfl)
abbrev s_regencyref01_num_0 (v0 v3 : AV) : List AV := [v0, undefA, .any, v3, undefA, .any, .any, .any, .any, .any, .any, .any, .any, .any, .any, .any, .any, .any, .any, .any, .any, undefA, undefA, undefA, undefA, undefA, undefA, undefA, undefA, undefA, undefA, undefA, undefA, undefA, undefA, undefA, undefA, undefA, undefA, undefA, undefA, undefA, undefA, undefA, undefA, undefA, undefA, undefA]
abbrev s_regencyref01_num_1 (v0 v4 : AV) : List AV := [v0, undefA, .any, undefA, v4, .any, .any, undefA, undefA, undefA, undefA, undefA, undefA, undefA, undefA, undefA, undefA, undefA, undefA, undefA, undefA, undefA, undefA, undefA, undefA, undefA, undefA, undefA, undefA, undefA, .any, .any, .any, .any, .any, .any, .any, .any, .any, .any, .any, .any, undefA, undefA, undefA, undefA, undefA, undefA]
abbrev x_regencyref01_num_0 (v0 v3 : AV) : List AV := [v0, undefA, .any, v3, undefA, .any, .any, .any, .any, .any, .any, .any, .any, .any, .any, .any, .any, .any, .any, .any, .any, undefA, undefA, undefA, undefA, undefA, undefA, undefA, undefA, undefA, undefA, undefA, undefA, undefA, undefA, undefA, undefA, undefA, undefA, undefA, undefA, undefA, undefA, undefA, undefA, undefA, undefA, undefA]
abbrev x_regencyref01_num_2 (v0 v4 : AV) : List AV := [v0, undefA, .any, undefA, v4, .any, .any, undefA, undefA, undefA, undefA, undefA, undefA, undefA, undefA, undefA, undefA, undefA, undefA, undefA, undefA, undefA, undefA, undefA, undefA, undefA, undefA, undefA, undefA, undefA, .any, .any, .any, .any, .any, .any, .any, .any, .any, .any, .any, .any, undefA, undefA, undefA, undefA, undefA, undefA]
abbrev l_regencyref01_num_1 : CC := .kill kl1_10 (.seq (.seq (.region [mV 30 0,
 oN 31 (.bin .geq (tP 30) (.con (.int .i64 10)))])
  (.cond (tP 31) (.skip) (.kill [30, 31] (.exit 2))))
  (.block 3 (.seq (.region [mV 32 0,
 oN 33 (.bin .rem (tP 32) (.con (.int .i64 10))),
 mV 34 0,
 oN 35 (.bin .rem (tP 34) (.con (.int .i64 10))),
 oN 36 (.bin .add (tP 35) (.con (.int .i64 1))),
 oN 37 (.slice none (.con (.str ⟨#[48, 49, 50, 51, 52, 53, 54, 55, 56, 57]⟩)) (some (tP 33)) (some (tP 36)) none),
 mV 38 4,
 oN 39 (.bin .add (tP 37) (tP 38)),
 mV 4 39])
  (.region [mV 40 0,
 oN 41 (.bin .quo (tP 40) (.con (.int .i64 10))),
 mV 0 41]))))
abbrev l_regencyref01_num_0 : CC := .kill kl1_11 (.seq (.seq (.region [mV 7 0,
 oN 8 (.bin .leq (tP 7) (.con (.int .i64 (-10))))])
  (.cond (tP 8) (.skip) (.kill [7, 8] (.exit 0))))
  (.block 1 (.seq (.region [mV 9 0,
 oN 10 (.bin .rem (tP 9) (.con (.int .i64 10))),
 oN 11 (.un .neg (tP 10)),
 mV 12 0,
 oN 13 (.bin .rem (tP 12) (.con (.int .i64 10))),
 oN 14 (.un .neg (tP 13)),
 oN 15 (.bin .add (tP 14) (.con (.int .i64 1))),
 oN 16 (.slice none (.con (.str ⟨#[48, 49, 50, 51, 52, 53, 54, 55, 56, 57]⟩)) (some (tP 11)) (some (tP 15)) none),
 mV 17 3,
 oN 18 (.bin .add (tP 16) (tP 17)),
 mV 3 18])
  (.region [mV 19 0,
 oN 20 (.bin .quo (tP 19) (.con (.int .i64 10))),
 mV 0 20]))))
def c_regencyref01_num : CFn := ⟨48, .seq (.region [oN 2 (.mov (.con (.str ⟨#[]⟩)))])
  (.seq (.seq (.region [mV 5 0,
 oN 6 (.bin .lss (tP 5) (.con (.int .i64 0)))])
  (.cond (tP 6) (.seq (.region [oN 3 (.mov (.con (.str ⟨#[]⟩)))])
  (.seq (.block 0 (.kill kl1_11 (.loop l_regencyref01_num_0)))
  (.seq (.region [mV 21 0,
 oN 22 (.un .neg (tP 21)),
 mV 23 0,
 oN 24 (.un .neg (tP 23)),
 oN 25 (.bin .add (tP 24) (.con (.int .i64 1))),
 oN 26 (.slice none (.con (.str ⟨#[48, 49, 50, 51, 52, 53, 54, 55, 56, 57]⟩)) (some (tP 22)) (some (tP 25)) none),
 oN 27 (.bin .add (.con (.str ⟨#[45]⟩)) (tP 26)),
 mV 28 3,
 oN 29 (.bin .add (tP 27) (tP 28)),
 mV 2 29])
  (.ret)))) (.skip)))
  (.seq (.region [oN 4 (.mov (.con (.str ⟨#[]⟩)))])
  (.seq (.block 2 (.kill kl1_10 (.loop l_regencyref01_num_1)))
  (.seq (.region [mV 42 0,
 mV 43 0,
 oN 44 (.bin .add (tP 43) (.con (.int .i64 1))),
 oN 45 (.slice none (.con (.str ⟨#[48, 49, 50, 51, 52, 53, 54, 55, 56, 57]⟩)) (some (tP 42)) (some (tP 44)) none),
 mV 46 4,
 oN 47 (.bin .add (tP 45) (tP 46)),
 mV 2 47])
  (.ret))))),
  [.tmp 2]⟩
theorem is_regencyref01_num : IsFn Tryz.prog 76 c_regencyref01_num := isFn_of [([], []), ([], []), ([], []), (kl1_11, []), ([], []), ([7, 8], []), ([], []), ([], []), ([], []), ([], []), ([], []), (kl1_10, []), ([], []), ([30, 31], []), ([], []), ([], []), ([], []), ([], [])] (by kernel_rfl)
def p_slices_Clone_int_int := cloneP 1 8
theorem ok_slices_Clone_int_int : OkDef Tryz.prog 77 (.prim p_slices_Clone_int_int) := clone_ok (hs0 := [([], [0])]) (hs2 := [([], [0])]) (hs4 := [([], [1, 3])]) (hs1 := []) (hs3 := []) (hs5 := []) Tryz.func77 rfl rfl (by kernel_rfl) rfl rfl rfl rfl rfl rfl rfl Tryz.underlying22 (by kernel_rfl) (by kernel_rfl) (by kernel_rfl)
def p_slices_Clone_api_Label_api_Entry := cloneP 2 24
theorem ok_slices_Clone_api_Label_api_Entry : OkDef Tryz.prog 78 (.prim p_slices_Clone_api_Label_api_Entry) := clone_ok (hs0 := [([], [0])]) (hs2 := [([], [0])]) (hs4 := [([], [1, 3])]) (hs1 := []) (hs3 := []) (hs5 := []) Tryz.func78 rfl rfl (by kernel_rfl) rfl rfl rfl rfl rfl rfl rfl Tryz.underlying24 (by kernel_rfl) (by kernel_rfl) (by kernel_rfl)
def p_slices_Clone_string_string := cloneP 1 16
theorem ok_slices_Clone_string_string : OkDef Tryz.prog 79 (.prim p_slices_Clone_string_string) := clone_ok (hs0 := [([], [0])]) (hs2 := [([], [0])]) (hs4 := [([], [1, 3])]) (hs1 := []) (hs3 := []) (hs5 := []) Tryz.func79 rfl rfl (by kernel_rfl) rfl rfl rfl rfl rfl rfl rfl Tryz.underlying25 (by kernel_rfl) (by kernel_rfl) (by kernel_rfl)
def p_slices_Clone_byte_byte := cloneP 1 1
theorem ok_slices_Clone_byte_byte : OkDef Tryz.prog 80 (.prim p_slices_Clone_byte_byte) := clone_ok (hs0 := [([], [0])]) (hs2 := [([], [0])]) (hs4 := [([], [1, 3])]) (hs1 := []) (hs3 := []) (hs5 := []) Tryz.func80 rfl rfl (by kernel_rfl) rfl rfl rfl rfl rfl rfl rfl Tryz.underlying26 (by kernel_rfl) (by kernel_rfl) (by kernel_rfl)
abbrev s_slices_IndexFunc_call_part_call_part_0 (v0 v1 v7 v8 : AV) : List AV := [v0, v1, undefA, undefA, .any, .any, .any, v7, v8, .any, .any, .any, .any, .any, .any, .any, .any, .any, .any]
abbrev x_slices_IndexFunc_call_part_call_part_0  : List AV := [.any, .any, undefA, undefA, .any, .any, .any, .any, .any, .any, .any, .any, .any, .any, .any, .any, .any, .any, .any]
abbrev l_slices_IndexFunc_call_part_call_part_0 : CC := .kill kl1_1 (.seq (.region [oN 9 (.bin .lss (tP 8) (tP 7))])
  (.seq (.cond (tP 9) (.skip) (.kill [0, 1, 7, 8, 9] (.exit 0)))
  (.seq (.block 1 (.seq (.region [mV 10 8,
 mV 5 10])
  (.seq (.region [mV 11 1,
 mV 12 0,
 mV 13 5,
 oN 14 (.iaddr 1 none (tP 12) (tP 13)),
 lD 15 14,
 oN 16 (.callv (tP 11) [(tP 15)])])
  (.cond (tP 16) (.seq (.region [mV 17 5,
 mV 4 17])
  (.ret)) (.skip)))))
  (.region [oN 18 (.bin .add (tP 8) (.con (.int .i64 1))),
 mV 8 18]))))
def c_slices_IndexFunc_call_part_call_part : CFn := ⟨19, .seq (.region [oN 4 (.mov (.con (.int .i64 0)))])
  (.seq (.seq (.region [mV 6 0,
 oN 7 (.lenl (tP 6)),
 oN 8 (.mov (.con (.int .i64 0)))])
  (.block 0 (.kill kl1_1 (.loop l_slices_IndexFunc_call_part_call_part_0))))
  (.seq (.region [oN 4 (.mov (.con (.int .i64 (-1))))])
  (.ret))),
  [.tmp 4]⟩
theorem is_slices_IndexFunc_call_part_call_part : IsFn Tryz.prog 81 c_slices_IndexFunc_call_part_call_part := isFn_of [([], []), ([], []), (kl1_1, []), ([], []), ([0, 1, 7, 8, 9], []), ([], []), ([], []), ([], []), ([], []), ([], []), ([], []), ([], [])] (by kernel_rfl)
def c_path_Right : CFn := ⟨11, .seq (.region [oN 2 (.mov (.con (.bool false)))])
  (.seq (.region [mV 3 0,
 oN 4 (.lenl (tP 3)),
 oN 5 (.bin .leq (tP 4) (.con (.int .i64 6))),
 mV 6 5,
 oG 7 (.take (tP 0)) 6 true,
 oG 8 (.call 109 [(tP 7), (.con (.fn (.func 110) [] []))]) 6 true,
 oG 9 (.un .not (tP 8)) 6 true,
 oN 10 (.pick (tP 6) (tP 9) (.con (.bool false))),
 mV 2 10])
  (.ret)),
  [.tmp 2]⟩
theorem is_path_Right : IsFn Tryz.prog 82 c_path_Right := isFn_of [([], []), ([], [4]), ([], [])] (by kernel_rfl)
def c_call_number : CFn := ⟨9, .seq (.region [oN 2 (.mov (.con (.bool false)))])
  (.seq (.region [mV 3 0,
 oN 4 (.bin .geq (tP 3) (.con (.int .i64 0))),
 mV 5 4,
 oG 6 (.mov (tP 0)) 5 true,
 oG 7 (.bin .leq (tP 6) (.con (.int .i64 1048576))) 5 true,
 oN 8 (.pick (tP 5) (tP 7) (.con (.bool false))),
 mV 2 8])
  (.ret)),
  [.tmp 2]⟩
theorem is_call_number : IsFn Tryz.prog 83 c_call_number := isFn_of [([], []), ([], []), ([], [])] (by kernel_rfl)
def c_cats_Right : CFn := ⟨13, .seq (.region [oN 2 (.mov (.con (.bool false)))])
  (.seq (.region [mV 7 0,
 oN 8 (.pcall 112 [(tP 7)]),
 oN 6 (.take (tP 8)),
 oN 9 (.extract 6 0),
 oN 10 (.extract 6 1),
 oN 11 (.extract 6 2),
 oN 3 (.take (tP 9)),
 mV 4 10,
 mV 5 11])
  (.seq (.region [mV 12 5,
 mV 2 12])
  (.ret))),
  [.tmp 2]⟩
theorem is_cats_Right : IsFn Tryz.prog 84 c_cats_Right := isFn_of [([], []), ([], [1, 2, 6]), ([], []), ([], [])] (by kernel_rfl)
def c_fault_Wrap : CFn := ⟨16, .seq (.region [oN 6 (.mov (.con (.nili)))])
  (.seq (.seq (.region [mV 7 1,
 oN 8 (.bin .eql (tP 7) (.con (.int .i64 0)))])
  (.cond (tP 8) (.seq (.region [mV 9 2,
 mV 6 9])
  (.ret)) (.skip)))
  (.seq (.region [mV 10 0,
 mV 11 1,
 mV 12 2,
 oN 13 (.build [.str ⟨#[]⟩, .int .i64 0, .nili] [(0, 1, (tP 10)), (1, 1, (tP 11)), (2, 1, (tP 12))]),
 oN 14 (.rbox (tP 13)),
 oN 15 (.mkif 95 (tP 14)),
 mV 6 15])
  (.ret))),
  [.tmp 6]⟩
theorem is_fault_Wrap : IsFn Tryz.prog 86 c_fault_Wrap := isFn_of [([], []), ([], []), ([], []), ([], []), ([], [4]), ([], [])] (by kernel_rfl)
def c_speech_from : CFn := ⟨13, .seq (.region [oN 2 (.take (.con (.sl .ex [])))])
  (.seq (.seq (.region [mV 5 0,
 oN 6 (.bin .eql (tP 5) (.con (.str ⟨#[46]⟩)))])
  (.cond (tP 6) (.seq (.region [oN 2 (.take (.con (.sl .ex [])))])
  (.ret)) (.skip)))
  (.seq (.region [mV 8 0,
 oN 9 (.pcall 116 [(tP 8)]),
 oN 7 (.take (tP 9)),
 oN 10 (.extract 7 0),
 oN 11 (.extract 7 1),
 oN 3 (.take (tP 10)),
 mV 4 11])
  (.seq (.region [oN 12 (.take (tP 3)),
 oN 2 (.take (tP 12))])
  (.ret)))),
  [.tmp 2]⟩
theorem is_speech_from : IsFn Tryz.prog 87 c_speech_from := isFn_of [([], [0]), ([], []), ([], [0]), ([], []), ([], [1, 2, 5]), ([], [0, 1]), ([], [])] (by kernel_rfl)
abbrev s_speech_text_0 (v0 v3 : AV) : List AV := [v0, undefA, .any, v3, .any, .any, .any, .any, .any, .any, .any, .any, .any, .any, .any, .any, .any, .any, .any, .any, .any, .any, .any, .any, .any, .any, .any, .any, .any, .any, .any, undefA]
abbrev x_speech_text_0 (v3 : AV) : List AV := [.any, undefA, .any, v3, .any, .any, .any, .any, .any, .any, .any, .any, .any, .any, .any, .any, .any, .any, .any, .any, .any, .any, .any, .any, .any, .any, .any, .any, .any, .any, .any, undefA]
abbrev l_speech_text_0 : CC := .kill kl1_12 (.seq (.seq (.region [mV 6 0,
 oN 7 (.lens (tP 6)),
 oN 8 (.bin .geq (tP 7) (.con (.int .i64 2)))])
  (.cond (tP 8) (.skip) (.kill [0, 6, 7, 8] (.exit 0))))
  (.block 1 (.seq (.region [mV 9 0,
 oN 10 (.idxs (tP 9) (.con (.int .i64 0))),
 oN 11 (.pcall 117 [(.con (.str ⟨#[48, 49, 50, 51, 52, 53, 54, 55, 56, 57, 97, 98, 99, 100, 101, 102]⟩)), (tP 10)]),
 mV 12 0,
 oN 13 (.idxs (tP 12) (.con (.int .i64 1))),
 oN 14 (.pcall 117 [(.con (.str ⟨#[48, 49, 50, 51, 52, 53, 54, 55, 56, 57, 97, 98, 99, 100, 101, 102]⟩)), (tP 13)]),
 mV 4 11,
 mV 5 14])
  (.seq (.seq (.region [mV 15 4,
 oN 16 (.bin .lss (tP 15) (.con (.int .i64 0))),
 mV 17 16,
 oG 18 (.mov (tP 5)) 17 false,
 oG 19 (.bin .lss (tP 18) (.con (.int .i64 0))) 17 false,
 oN 20 (.pick (tP 17) (.con (.bool true)) (tP 19))])
  (.cond (tP 20) (.seq (.region [oN 2 (.take (.con (.sl .ex [])))])
  (.ret)) (.skip)))
  (.region [oN 21 (.take (tP 3)),
 mV 22 4,
 oN 23 (.bin .mul (.con (.int .i64 16)) (tP 22)),
 mV 24 5,
 oN 25 (.bin .add (tP 23) (tP 24)),
 oN 26 (.cInt .u8 (tP 25)),
 oN 27 (.bslice 1 false [(tP 26)]),
 oN 28 (.append 1 1 false (tP 21) (tP 27)),
 mV 29 0,
 oN 30 (.slice none (tP 29) (some (.con (.int .i64 2))) none none),
 oN 3 (.take (tP 28)),
 mV 0 30])))))
def c_speech_text : CFn := ⟨32, .seq (.region [oN 2 (.take (.con (.sl .ex [])))])
  (.seq (.region [oN 3 (.take (.con (.sl .ex [])))])
  (.seq (.block 0 (.kill kl1_12 (.loop l_speech_text_0)))
  (.seq (.region [oN 31 (.take (tP 3)),
 oN 2 (.take (tP 31))])
  (.ret)))),
  [.tmp 2]⟩
theorem is_speech_text : IsFn Tryz.prog 88 c_speech_text := isFn_of [([], [0]), ([], [0]), (kl1_12, []), ([], []), ([0, 6, 7, 8], []), ([], [2, 5]), ([], []), ([], [0]), ([], []), ([], [0, 10]), ([], [0, 1]), ([], [])] (by kernel_rfl)
abbrev s_slices_Equal_api_Label_api_Entry_0 (v0 v1 v12 v13 : AV) : List AV := [v0, v1, undefA, undefA, .any, .any, .any, .any, .any, .any, .any, .any, v12, v13, .any, .any, .any, .any, .any, .any, .any, .any, .any, .any, .any, .any]
abbrev x_slices_Equal_api_Label_api_Entry_0  : List AV := [.any, .any, undefA, undefA, .any, .any, .any, .any, .any, .any, .any, .any, .any, .any, .any, .any, .any, .any, .any, .any, .any, .any, .any, .any, .any, .any]
abbrev l_slices_Equal_api_Label_api_Entry_0 : CC := .kill kl1_0 (.seq (.region [oN 14 (.bin .lss (tP 13) (tP 12))])
  (.seq (.cond (tP 14) (.skip) (.kill [0, 1, 12, 13, 14] (.exit 0)))
  (.seq (.block 1 (.seq (.region [mV 15 13,
 mV 5 15])
  (.seq (.region [mV 16 0,
 mV 17 5,
 oN 18 (.iaddr 2 none (tP 16) (tP 17)),
 oN 19 (.load (some 2) (tP 18)),
 mV 20 1,
 mV 21 5,
 oN 22 (.iaddr 2 none (tP 20) (tP 21)),
 oN 23 (.load (some 2) (tP 22)),
 oN 24 (.eqs true [(0, .string), (1, (.int .i64))] (tP 19) (tP 23))])
  (.cond (tP 24) (.seq (.region [oN 4 (.mov (.con (.bool false)))])
  (.ret)) (.skip)))))
  (.region [oN 25 (.bin .add (tP 13) (.con (.int .i64 1))),
 mV 13 25]))))
def c_slices_Equal_api_Label_api_Entry : CFn := ⟨26, .seq (.region [oN 4 (.mov (.con (.bool false)))])
  (.seq (.seq (.region [mV 6 0,
 oN 7 (.lenl (tP 6)),
 mV 8 1,
 oN 9 (.lenl (tP 8)),
 oN 10 (.bin .neq (tP 7) (tP 9))])
  (.cond (tP 10) (.seq (.region [oN 4 (.mov (.con (.bool false)))])
  (.ret)) (.skip)))
  (.seq (.seq (.region [mV 11 0,
 oN 12 (.lenl (tP 11)),
 oN 13 (.mov (.con (.int .i64 0)))])
  (.block 0 (.kill kl1_0 (.loop l_slices_Equal_api_Label_api_Entry_0))))
  (.seq (.region [oN 4 (.mov (.con (.bool true)))])
  (.ret)))),
  [.tmp 4]⟩
theorem is_slices_Equal_api_Label_api_Entry : IsFn Tryz.prog 89 c_slices_Equal_api_Label_api_Entry := isFn_of [([], []), ([], []), ([], []), ([], []), ([], []), (kl1_0, []), ([], []), ([0, 1, 12, 13, 14], []), ([], []), ([], []), ([], []), ([], []), ([], []), ([], []), ([], [])] (by kernel_rfl)
abbrev s_regencyref05_Fits_0 (v20 v21 v22 : AV) : List AV := [.any, .any, .any, undefA, .any, .any, .any, .any, .any, .any, .any, .any, .any, .any, .any, .any, .any, .any, .any, .any, v20, v21, v22, .any, .any, .any, .any, .any, .any, .any, .any, .any, .any]
abbrev x_regencyref05_Fits_0  : List AV := [.any, .any, .any, undefA, .any, .any, .any, .any, .any, .any, .any, .any, .any, .any, .any, .any, .any, .any, .any, .any, .any, .any, .any, .any, .any, .any, .any, .any, .any, .any, .any, .any, .any]
abbrev l_regencyref05_Fits_0 : CC := .kill kl1_13 (.seq (.region [oN 23 (.bin .lss (tP 22) (tP 21))])
  (.seq (.cond (tP 23) (.skip) (.kill [20, 21, 22, 23] (.exit 0)))
  (.seq (.block 1 (.seq (.region [oN 24 (.iaddr 1 none (tP 20) (tP 22)),
 lD 25 24,
 mV 4 25])
  (.seq (.region [mV 26 4,
 oN 27 (.bin .lss (tP 26) (.con (.int .i64 0))),
 mV 28 27,
 oG 29 (.mov (tP 4)) 28 false,
 oG 30 (.bin .gtr (tP 29) (.con (.int .i64 1048576))) 28 false,
 oN 31 (.pick (tP 28) (.con (.bool true)) (tP 30))])
  (.cond (tP 31) (.seq (.region [oN 2 (.mov (.con (.bool false)))])
  (.ret)) (.skip)))))
  (.region [oN 32 (.bin .add (tP 22) (.con (.int .i64 1))),
 mV 22 32]))))
def c_regencyref05_Fits : CFn := ⟨33, .seq (.region [oN 1 (.box (tP 0)),
 oN 2 (.mov (.con (.bool false)))])
  (.seq (.seq (.region [oN 5 (.faddr 1 (tP 1)),
 lD 6 5,
 oN 7 (.bin .lss (tP 6) (.con (.int .i64 0))),
 mV 8 7,
 oG 9 (.faddr 1 (tP 1)) 8 false,
 oG 10 (.load none (tP 9)) 8 false,
 oG 11 (.bin .gtr (tP 10) (.con (.int .i64 65535))) 8 false,
 oN 12 (.pick (tP 8) (.con (.bool true)) (tP 11)),
 mV 13 12,
 oG 14 (.faddr 0 (tP 1)) 13 false,
 oG 15 (.load none (tP 14)) 13 false,
 oG 16 (.lenl (tP 15)) 13 false,
 oG 17 (.bin .gtr (tP 16) (.con (.int .i64 6))) 13 false,
 oN 18 (.pick (tP 13) (.con (.bool true)) (tP 17))])
  (.cond (tP 18) (.seq (.region [oN 2 (.mov (.con (.bool false)))])
  (.ret)) (.skip)))
  (.seq (.seq (.region [oN 19 (.faddr 0 (tP 1)),
 lD 20 19,
 oN 21 (.lenl (tP 20)),
 oN 22 (.mov (.con (.int .i64 0)))])
  (.block 0 (.kill kl1_13 (.loop l_regencyref05_Fits_0))))
  (.seq (.region [oN 2 (.mov (.con (.bool true)))])
  (.ret)))),
  [.tmp 2]⟩
theorem is_regencyref05_Fits : IsFn Tryz.prog 91 c_regencyref05_Fits := isFn_of [([], []), ([], []), ([], []), ([], []), ([], []), (kl1_13, []), ([], []), ([20, 21, 22, 23], []), ([], []), ([], []), ([], []), ([], []), ([], []), ([], []), ([], [])] (by kernel_rfl)
abbrev s_regencyref05_Text_0 (v1 v3 v7 v8 v9 : AV) : List AV := [.any, v1, .any, v3, .any, .any, .any, v7, v8, v9, .any, .any, .any, .any, .any, .any, .any, .any, .any, .any, .any, .any, .any, undefA, undefA, undefA, undefA, undefA, undefA]
abbrev x_regencyref05_Text_0 (v1 v3 : AV) : List AV := [.any, v1, .any, v3, .any, .any, .any, .any, .any, .any, .any, .any, .any, .any, .any, .any, .any, .any, .any, .any, .any, .any, .any, undefA, undefA, undefA, undefA, undefA, undefA]
abbrev l_regencyref05_Text_0 : CC := .kill kl1_14 (.seq (.region [oN 10 (.bin .lss (tP 9) (tP 8))])
  (.seq (.cond (tP 10) (.skip) (.kill [7, 8, 9, 10] (.exit 0)))
  (.seq (.block 1 (.seq (.region [mV 11 9,
 oN 12 (.iaddr 1 none (tP 7) (tP 9)),
 lD 13 12,
 mV 4 11,
 mV 5 13])
  (.seq (.seq (.region [mV 14 4,
 oN 15 (.bin .gtr (tP 14) (.con (.int .i64 0)))])
  (.cond (tP 15) (.region [mV 16 3,
 oN 17 (.bin .add (tP 16) (.con (.str ⟨#[46]⟩))),
 mV 3 17]) (.skip)))
  (.region [mV 18 3,
 mV 19 5,
 oN 20 (.pcall 34 [(tP 19)]),
 oN 21 (.bin .add (tP 18) (tP 20)),
 mV 3 21]))))
  (.region [oN 22 (.bin .add (tP 9) (.con (.int .i64 1))),
 mV 9 22]))))
def c_regencyref05_Text : CFn := ⟨29, .seq (.region [oN 1 (.box (tP 0)),
 oN 2 (.mov (.con (.str ⟨#[]⟩)))])
  (.seq (.region [oN 3 (.mov (.con (.str ⟨#[]⟩)))])
  (.seq (.seq (.region [oN 6 (.faddr 0 (tP 1)),
 lD 7 6,
 oN 8 (.lenl (tP 7)),
 oN 9 (.mov (.con (.int .i64 0)))])
  (.block 0 (.kill kl1_14 (.loop l_regencyref05_Text_0))))
  (.seq (.region [mV 23 3,
 oN 24 (.bin .add (tP 23) (.con (.str ⟨#[47]⟩))),
 oN 25 (.faddr 1 (tP 1)),
 lD 26 25,
 oN 27 (.pcall 34 [(tP 26)]),
 oN 28 (.bin .add (tP 24) (tP 27)),
 mV 2 28])
  (.ret)))),
  [.tmp 2]⟩
theorem is_regencyref05_Text : IsFn Tryz.prog 92 c_regencyref05_Text := isFn_of [([], []), ([], []), ([], []), (kl1_14, []), ([], []), ([7, 8, 9, 10], []), ([], []), ([], []), ([], []), ([], [2]), ([], []), ([], [4]), ([], [])] (by kernel_rfl)
end Go.Proofs.YtibchilpaaiecaaGreatDoor.F
