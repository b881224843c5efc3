/- Functions of the program, compiled, by a program (gen.py). -/
import Derived.Test.YtibchilpaaiecaaGreatDoorProg
import Derived.KernelRfl
import Derived.Test.YtibchilpaaiecaaGreatDoorM19
import Derived.Test.YtibchilpaaiecaaGreatDoorF1
set_option maxRecDepth 100000
namespace Go.Proofs.YtibchilpaaiecaaGreatDoor.F
open Go.Proofs.YtibchilpaaiecaaGreatDoor.M Go.Proofs Go.RowKit
abbrev sr : List Nat := [4, 5, 6, 9, 10, 11, 12, 13, 14, 15, 16, 17, 18]
abbrev Hl : List Nat := [0, 2, 5, 6, 7, 8, 12, 13, 14, 15, 16, 17, 18, 19, 20, 21, 22, 23, 24]
abbrev Hm : List Nat := [4, 6, 7, 8, 9, 10, 11, 12, 13, 14, 15, 16]
abbrev Hn : List Nat := [2, 4, 8, 9, 10, 11, 12, 13, 14, 15, 16, 17]
abbrev Ho : List Nat := [0, 2, 4, 5, 9, 10, 11, 12, 13, 14, 15, 16, 17, 18, 19, 20, 21]
abbrev Hp : List Nat := [2, 5, 6, 30, 31, 32, 33, 34, 35, 36, 37, 38, 39, 40, 41]
abbrev Hq : List Nat := [2, 5, 6, 7, 8, 9, 10, 11, 12, 13, 14, 15, 16, 17, 18, 19, 20]
abbrev Hr : List Nat := [2, 4, 5, 6, 7, 8, 9, 10, 11, 12, 13, 14, 15, 16, 17, 18, 19, 20, 21, 22, 23, 24, 25, 26, 27, 28, 29, 30]
abbrev Hs : List Nat := [4, 5, 6, 7, 8, 9, 10, 11, 14, 15, 16, 17, 18, 19, 20, 21, 22, 23, 24, 25]
abbrev Ht : List Nat := [2, 3, 8, 9, 10, 11, 12, 13, 14, 15, 16, 17, 18, 19, 20, 21, 22, 23, 24, 25, 26, 27, 28, 29, 30, 31, 32, 33, 34, 35, 36, 37, 38, 39, 40, 41, 42, 43, 44, 45, 46, 47, 48, 49, 50, 51, 52, 53]
abbrev A2 : List Nat := [0, 1, 2, 4, 5, 6, 7, 8, 9, 10, 11, 12, 13, 14, 15, 16, 17, 18, 19, 23, 24, 25, 26, 27, 28, 29, 30, 31, 32]
abbrev A3 : List Nat := [0, 2, 4, 5, 6, 10, 11, 12, 13, 14, 15, 16, 17, 18, 19, 20, 21, 22]
abbrev A4 : List Nat := [0, 1, 4, 6, 7, 8, 9, 10, 11, 12, 13, 14, 15, 16, 17, 18, 19, 20, 21, 22, 23, 24, 25, 26, 27, 28, 29, 30, 31, 32, 33, 34, 35, 36, 37, 38, 39, 40, 41, 42, 43, 44, 45, 46, 47, 48, 49, 50, 51, 52, 53, 54, 55, 56, 57, 58]
abbrev A5 : List Nat := [4, 7, 8, 9, 10, 11, 12, 14, 15, 16, 17, 18, 19, 20, 21, 22, 23, 24, 25, 26, 27, 28, 29, 30, 31, 32, 33, 34, 35]
abbrev A6 : List Nat := [10, 11, 12, 13, 16, 17, 18, 19, 20, 21, 22, 23, 24, 25, 26, 27, 28, 29, 30, 31, 32, 33, 34, 35, 36, 37, 38, 39, 40, 41, 42, 43, 44, 45, 46, 47, 48, 49, 50, 51, 52, 53]
abbrev A7 : List Nat := [2, 4, 5, 6, 7, 8, 10, 11, 12, 13, 14, 15, 16, 17, 18, 19, 20, 21, 22, 23, 24, 25, 26, 27, 28, 29, 30, 31, 32, 33, 34, 35, 36, 37, 38, 39, 40, 41, 42, 43, 44, 45, 46, 47, 48, 49, 50, 51, 52, 53, 54, 55, 56, 57, 58, 59]
abbrev A8 : List Nat := [0, 2, 5, 9, 10, 11, 12, 13, 14, 15, 16]
abbrev A9 : List Nat := [4, 5, 6, 7, 8, 12, 13, 14, 15, 16, 17, 18, 19, 20, 21, 22, 23, 24, 25, 26, 27, 28, 29, 30]
abbrev Ba : List Nat := [12, 13, 14, 15, 16, 17, 18, 19, 20, 21, 22, 23, 24, 25, 26, 27, 28, 29, 30, 31, 32, 33, 34, 35, 36, 37, 38, 39, 40, 41, 42, 43, 44, 45, 46, 47, 48, 49, 50, 51, 52, 53, 54, 55, 56, 57, 58, 59, 60, 61, 62, 63, 64, 65, 66, 67, 68, 69, 70, 71, 72, 73, 74, 75, 76, 77, 78, 79, 80, 81, 82, 83, 84, 85, 86, 87, 88, 89, 90, 91, 92, 93, 94, 95, 96, 97, 98, 99, 100, 101, 102, 103, 104, 105, 106, 107, 108, 109, 110, 111, 112, 113, 114, 115, 116, 117, 118, 119, 120, 121, 122, 123, 124, 125, 126, 127, 128, 129, 130, 131, 132, 133, 134, 135, 136, 137, 138, 139, 140, 141, 142, 143, 144, 145, 146, 147]
abbrev Bb : List Nat := [12, 13, 14, 17, 18, 19, 20, 21, 22, 23, 24, 25, 26, 27, 28, 29, 30, 31, 32, 33, 34, 35, 36, 37, 38, 39, 40, 41, 42, 43, 44, 45, 46, 47, 48, 49, 50, 51, 52]
abbrev Bc : List Nat := [9, 10, 11, 12, 13, 14, 15, 16, 17, 18, 19, 20, 21, 22, 23, 24, 25, 26, 27, 28, 29, 30, 31, 32, 33, 34, 35, 36, 37, 38, 39, 40, 41, 42, 43, 44, 45, 46, 47, 48, 49, 50, 51, 52]
abbrev Fb : List Nat := [10, 11, 12, 13, 16, 17, 18, 19, 20, 21, 22, 23, 24, 25, 26, 27, 28, 29]
abbrev Fc : List Nat := [10, 11, 12, 13, 16, 17, 18, 19, 20, 21, 22, 23, 24, 25, 30, 31, 32, 33, 34, 35, 36, 37, 38, 39, 40, 41, 42, 43, 44, 45, 46, 47, 48, 49, 50, 51, 52, 53]
abbrev Fe : List Nat := [12, 13, 14, 15, 21, 22, 23, 24, 25, 31, 32, 38, 39, 40, 41, 42, 43, 44, 45, 46, 47, 48, 49, 50, 51, 52, 53, 54, 55, 56, 57, 58, 59, 60, 61, 62, 63, 64, 65, 66, 67, 68, 69, 70, 71, 72, 73, 74, 75, 76, 77, 78, 79, 80, 81, 82, 83, 84, 85, 86, 87, 88, 89, 90, 91, 92, 93, 94, 95, 96, 97, 98, 99, 100, 101, 102, 103, 104]
abbrev Ff : List Nat := [9, 18, 19, 20, 21, 22, 23, 24, 25, 26, 27, 28, 29, 30, 31, 32, 33, 34]
abbrev Fg : List Nat := [0, 1, 2, 3, 8, 12, 13, 14]
def gu : CFn := ⟨8, .seq (.region [oN 2 (.mov (.con (.str ⟨#[]⟩)))])
  (.seq (.seq (.region [mV 3 0,
 oN 4 (.lenl (tP 3)),
 oN 5 (.bin .eql (tP 4) (.con (.int .i64 0)))])
  (.cond (tP 5) (.seq (.region [oN 2 (.mov (.con (.str ⟨#[45]⟩)))])
  (.ret)) (.skip)))
  (.seq (.region [oN 6 (.take (tP 0)),
 oN 7 (.pcall 29 [(tP 6), (.con (.str ⟨#[44]⟩))]),
 mV 2 7])
  (.ret))),
  [.tmp 2]⟩
theorem ss : IsFn Tryz.prog 68 gu := ah [([], []), ([], []), ([], []), ([], []), ([], [0, 1]), ([], [])] (by kernel_rfl)
abbrev n7 (v3 v9 v10 v11 : AV) : List AV := [.any, aa, .any, v3, aa, .any, .any, .any, .any, v9, v10, v11, .any, .any, .any, .any, .any, .any, .any, .any, .any, .any, .any, .any, .any, aa, aa]
abbrev n8 (v3 : AV) : List AV := [.any, aa, .any, v3, aa, .any, .any, .any, .any, .any, .any, .any, .any, .any, .any, .any, .any, .any, .any, .any, .any, .any, .any, .any, .any, aa, aa]
abbrev jE : CC := .kill Hl (.seq (.region [oN 12 (.bin .lss (tP 11) (tP 10))])
  (.seq (.cond (tP 12) (.skip) (.kill [9, 10, 11, 12] (.exit 0)))
  (.seq (.block 1 (.seq (.region [oN 13 (.iaddr 1 none (tP 9) (tP 11)),
 lD 14 13,
 mV 5 14])
  (.region [oN 15 (.take (tP 3)),
 mV 16 5,
 oN 17 (.bin .shr (tP 16) (.con (.int .u64 4))),
 oN 18 (.idxs (.con (.str ⟨#[48, 49, 50, 51, 52, 53, 54, 55, 56, 57, 97, 98, 99, 100, 101, 102]⟩)) (tP 17)),
 mV 19 5,
 oN 20 (.bin .and (tP 19) (.con (.int .u8 15))),
 oN 21 (.idxs (.con (.str ⟨#[48, 49, 50, 51, 52, 53, 54, 55, 56, 57, 97, 98, 99, 100, 101, 102]⟩)) (tP 20)),
 oN 22 (.bslice 1 false [(tP 18), (tP 21)]),
 oN 23 (.append 1 1 false (tP 15) (tP 22)),
 oN 3 (.take (tP 23))])))
  (.region [oN 24 (.bin .add (tP 11) (.con (.int .i64 1))),
 mV 11 24]))))
def eW : CFn := ⟨27, .seq (.region [oN 2 (.mov (.con (.str ⟨#[]⟩)))])
  (.seq (.seq (.region [mV 6 0,
 oN 7 (.lenl (tP 6)),
 oN 8 (.bin .eql (tP 7) (.con (.int .i64 0)))])
  (.cond (tP 8) (.seq (.region [oN 2 (.mov (.con (.str ⟨#[45]⟩)))])
  (.ret)) (.skip)))
  (.seq (.region [oN 3 (.take (.con (.sl .ex [])))])
  (.seq (.seq (.region [oN 9 (.take (tP 0)),
 oN 10 (.lenl (tP 9)),
 oN 11 (.mov (.con (.int .i64 0)))])
  (.block 0 (.kill Hl (.loop jE))))
  (.seq (.region [oN 25 (.take (tP 3)),
 oN 26 (.cBytesStr (tP 25)),
 mV 2 26])
  (.ret))))),
  [.tmp 2]⟩
theorem pI : IsFn Tryz.prog 69 eW := ah [([], []), ([], []), ([], []), ([], []), ([], [0]), ([], [0]), (Hl, []), ([], []), ([9, 10, 11, 12], []), ([], []), ([], [0, 9]), ([], []), ([], [0]), ([], [])] (by kernel_rfl)
abbrev dy (v0 v1 v5 : AV) : List AV := [v0, v1, aa, aa, .any, v5, .any, .any, .any, .any, .any, .any, .any, .any, .any, .any, .any]
abbrev lE  : List AV := [.any, .any, aa, aa, .any, .any, .any, .any, .any, .any, .any, .any, .any, .any, .any, .any, .any]
abbrev cF : CC := .kill Hm (.seq (.seq (.region [mV 6 5,
 mV 7 0,
 oN 8 (.lens (tP 7)),
 oN 9 (.bin .lss (tP 6) (tP 8))])
  (.cond (tP 9) (.skip) (.kill [0, 1, 5, 6, 7, 8, 9] (.exit 0))))
  (.seq (.block 1 (.seq (.region [mV 12 0,
 mV 13 5,
 oN 14 (.idxs (tP 12) (tP 13)),
 mV 15 1,
 oN 16 (.bin .eql (tP 14) (tP 15))])
  (.cond (tP 16) (.seq (.region [oN 4 (.mov (.con (.bool true)))])
  (.ret)) (.skip))))
  (.region [mV 10 5,
 oN 11 (.bin .add (tP 10) (.con (.int .i64 1))),
 mV 5 11])))
def dm : CFn := ⟨17, .seq (.region [oN 4 (.mov (.con (.bool false)))])
 (.seq (.seq (.region [oN 5 (.mov (.con (.int .i64 0)))])
 (.block 0 (.kill Hm (.loop cF))))
 (.seq (.region [oN 4 (.mov (.con (.bool false)))])
 (.ret))),
 [.tmp 4]⟩
theorem l8 : IsFn Tryz.prog 73 dm := ah [([], []), ([], []), (Hm, []), ([], []), ([0, 1, 5, 6, 7, 8, 9], []), ([], []), ([], []), ([], []), ([], []), ([], []), ([], [])] (by kernel_rfl)
abbrev cT (v0 v5 v6 v7 : AV) : List AV := [v0, aa, .any, aa, .any, v5, v6, v7, .any, .any, .any, .any, .any, .any, .any, .any, .any, .any, aa, aa, aa]
abbrev j0 (v0 : AV) : List AV := [v0, aa, .any, aa, .any, .any, .any, .any, .any, .any, .any, .any, .any, .any, .any, .any, .any, .any, aa, aa, aa]
abbrev bR : CC := .kill Hn (.seq (.region [oN 8 (.bin .lss (tP 7) (tP 6))])
  (.seq (.cond (tP 8) (.skip) (.kill [5, 6, 7, 8] (.exit 0)))
  (.seq (.block 1 (.seq (.region [oN 9 (.iaddr 1 none (tP 5) (tP 7)),
 lD 10 9,
 mV 4 10])
  (.seq (.region [mV 11 4,
 oN 12 (.bin .lss (tP 11) (.con (.int .i64 0))),
 mV 13 12,
 oG 14 (.mov (tP 4)) 13 false,
 oG 15 (.bin .gtr (tP 14) (.con (.int .i64 1048576))) 13 false,
 oN 16 (.pick (tP 13) (.con (.bool true)) (tP 15))])
  (.cond (tP 16) (.seq (.region [oN 2 (.mov (.con (.bool false)))])
  (.ret)) (.skip)))))
  (.region [oN 17 (.bin .add (tP 7) (.con (.int .i64 1))),
 mV 7 17]))))
def cG : CFn := ⟨21, .seq (.region [oN 2 (.mov (.con (.bool false)))])
  (.seq (.seq (.region [mV 5 0,
 oN 6 (.lenl (tP 5)),
 oN 7 (.mov (.con (.int .i64 0)))])
  (.block 0 (.kill Hn (.loop bR))))
  (.seq (.region [oN 18 (.take (tP 0)),
 oN 19 (.lenl (tP 18)),
 oN 20 (.bin .leq (tP 19) (.con (.int .i64 6))),
 mV 2 20])
  (.ret))),
  [.tmp 2]⟩
theorem kB : IsFn Tryz.prog 74 cG := ah [([], []), ([], []), (Hn, []), ([], []), ([5, 6, 7, 8], []), ([], []), ([], []), ([], []), ([], []), ([], []), ([], [0]), ([], [])] (by kernel_rfl)
abbrev kC (v3 v6 v7 v8 : AV) : List AV := [.any, aa, .any, v3, .any, .any, v6, v7, v8, .any, .any, .any, .any, .any, .any, .any, .any, .any, .any, .any, .any, .any, aa]
abbrev kD (v3 : AV) : List AV := [.any, aa, .any, v3, .any, .any, .any, .any, .any, .any, .any, .any, .any, .any, .any, .any, .any, .any, .any, .any, .any, .any, aa]
abbrev gA : CC := .kill Ho (.seq (.region [oN 9 (.bin .lss (tP 8) (tP 7))])
  (.seq (.cond (tP 9) (.skip) (.kill [6, 7, 8, 9] (.exit 0)))
  (.seq (.block 1 (.seq (.region [mV 10 8,
 oN 11 (.iaddr 1 none (tP 6) (tP 8)),
 lD 12 11,
 mV 4 10,
 mV 5 12])
  (.seq (.seq (.region [mV 13 4,
 oN 14 (.bin .gtr (tP 13) (.con (.int .i64 0)))])
  (.cond (tP 14) (.region [mV 15 3,
 oN 16 (.bin .add (tP 15) (.con (.str ⟨#[46]⟩))),
 mV 3 16]) (.skip)))
  (.region [mV 17 3,
 mV 18 5,
 oN 19 (.pcall 34 [(tP 18)]),
 oN 20 (.bin .add (tP 17) (tP 19)),
 mV 3 20]))))
  (.region [oN 21 (.bin .add (tP 8) (.con (.int .i64 1))),
 mV 8 21]))))
def dQ : CFn := ⟨23, .seq (.region [oN 2 (.mov (.con (.str ⟨#[]⟩)))])
  (.seq (.region [oN 3 (.mov (.con (.str ⟨#[]⟩)))])
  (.seq (.seq (.region [oN 6 (.take (tP 0)),
 oN 7 (.lenl (tP 6)),
 oN 8 (.mov (.con (.int .i64 0)))])
  (.block 0 (.kill Ho (.loop gA))))
  (.seq (.region [mV 22 3,
 mV 2 22])
  (.ret)))),
  [.tmp 2]⟩
theorem lF : IsFn Tryz.prog 75 dQ := ah [([], []), ([], []), ([], [0]), (Ho, []), ([], []), ([6, 7, 8, 9], []), ([], []), ([], []), ([], []), ([], [2]), ([], []), ([], []), ([], [])] (by kernel_rfl)
abbrev lG (v0 v3 : AV) : List AV := [v0, aa, .any, v3, aa, .any, .any, .any, .any, .any, .any, .any, .any, .any, .any, .any, .any, .any, .any, .any, .any, aa, aa, aa, aa, aa, aa, aa, aa, aa, aa, aa, aa, aa, aa, aa, aa, aa, aa, aa, aa, aa, aa, aa, aa, aa, aa, aa]
abbrev gP (v0 v4 : AV) : List AV := [v0, aa, .any, aa, v4, .any, .any, aa, aa, aa, aa, aa, aa, aa, aa, aa, aa, aa, aa, aa, aa, aa, aa, aa, aa, aa, aa, aa, aa, aa, .any, .any, .any, .any, .any, .any, .any, .any, .any, .any, .any, .any, aa, aa, aa, aa, aa, aa]
abbrev lH (v0 v3 : AV) : List AV := [v0, aa, .any, v3, aa, .any, .any, .any, .any, .any, .any, .any, .any, .any, .any, .any, .any, .any, .any, .any, .any, aa, aa, aa, aa, aa, aa, aa, aa, aa, aa, aa, aa, aa, aa, aa, aa, aa, aa, aa, aa, aa, aa, aa, aa, aa, aa, aa]
abbrev gQ (v0 v4 : AV) : List AV := [v0, aa, .any, aa, v4, .any, .any, aa, aa, aa, aa, aa, aa, aa, aa, aa, aa, aa, aa, aa, aa, aa, aa, aa, aa, aa, aa, aa, aa, aa, .any, .any, .any, .any, .any, .any, .any, .any, .any, .any, .any, .any, aa, aa, aa, aa, aa, aa]
abbrev eS : CC := .kill Hp (.seq (.seq (.region [mV 30 0,
 oN 31 (.bin .geq (tP 30) (.con (.int .i64 10)))])
  (.cond (tP 31) (.skip) (.kill [30, 31] (.exit 2))))
  (.block 3 (.seq (.region [mV 32 0,
 oN 33 (.bin .rem (tP 32) (.con (.int .i64 10))),
 mV 34 0,
 oN 35 (.bin .rem (tP 34) (.con (.int .i64 10))),
 oN 36 (.bin .add (tP 35) (.con (.int .i64 1))),
 oN 37 (.slice none (.con (.str ⟨#[48, 49, 50, 51, 52, 53, 54, 55, 56, 57]⟩)) (some (tP 33)) (some (tP 36)) none),
 mV 38 4,
 oN 39 (.bin .add (tP 37) (tP 38)),
 mV 4 39])
  (.region [mV 40 0,
 oN 41 (.bin .quo (tP 40) (.con (.int .i64 10))),
 mV 0 41]))))
abbrev gR : CC := .kill Hq (.seq (.seq (.region [mV 7 0,
 oN 8 (.bin .leq (tP 7) (.con (.int .i64 (-10))))])
  (.cond (tP 8) (.skip) (.kill [7, 8] (.exit 0))))
  (.block 1 (.seq (.region [mV 9 0,
 oN 10 (.bin .rem (tP 9) (.con (.int .i64 10))),
 oN 11 (.un .neg (tP 10)),
 mV 12 0,
 oN 13 (.bin .rem (tP 12) (.con (.int .i64 10))),
 oN 14 (.un .neg (tP 13)),
 oN 15 (.bin .add (tP 14) (.con (.int .i64 1))),
 oN 16 (.slice none (.con (.str ⟨#[48, 49, 50, 51, 52, 53, 54, 55, 56, 57]⟩)) (some (tP 11)) (some (tP 15)) none),
 mV 17 3,
 oN 18 (.bin .add (tP 16) (tP 17)),
 mV 3 18])
  (.region [mV 19 0,
 oN 20 (.bin .quo (tP 19) (.con (.int .i64 10))),
 mV 0 20]))))
def cu : CFn := ⟨48, .seq (.region [oN 2 (.mov (.con (.str ⟨#[]⟩)))])
  (.seq (.seq (.region [mV 5 0,
 oN 6 (.bin .lss (tP 5) (.con (.int .i64 0)))])
  (.cond (tP 6) (.seq (.region [oN 3 (.mov (.con (.str ⟨#[]⟩)))])
  (.seq (.block 0 (.kill Hq (.loop gR)))
  (.seq (.region [mV 21 0,
 oN 22 (.un .neg (tP 21)),
 mV 23 0,
 oN 24 (.un .neg (tP 23)),
 oN 25 (.bin .add (tP 24) (.con (.int .i64 1))),
 oN 26 (.slice none (.con (.str ⟨#[48, 49, 50, 51, 52, 53, 54, 55, 56, 57]⟩)) (some (tP 22)) (some (tP 25)) none),
 oN 27 (.bin .add (.con (.str ⟨#[45]⟩)) (tP 26)),
 mV 28 3,
 oN 29 (.bin .add (tP 27) (tP 28)),
 mV 2 29])
  (.ret)))) (.skip)))
  (.seq (.region [oN 4 (.mov (.con (.str ⟨#[]⟩)))])
  (.seq (.block 2 (.kill Hp (.loop eS)))
  (.seq (.region [mV 42 0,
 mV 43 0,
 oN 44 (.bin .add (tP 43) (.con (.int .i64 1))),
 oN 45 (.slice none (.con (.str ⟨#[48, 49, 50, 51, 52, 53, 54, 55, 56, 57]⟩)) (some (tP 42)) (some (tP 44)) none),
 mV 46 4,
 oN 47 (.bin .add (tP 45) (tP 46)),
 mV 2 47])
  (.ret))))),
  [.tmp 2]⟩
theorem l9 : IsFn Tryz.prog 76 cu := ah [([], []), ([], []), ([], []), (Hq, []), ([], []), ([7, 8], []), ([], []), ([], []), ([], []), ([], []), ([], []), (Hp, []), ([], []), ([30, 31], []), ([], []), ([], []), ([], []), ([], [])] (by kernel_rfl)
def ek := qR 1 8
theorem jx : cW Tryz.prog 77 (.prim ek) := ou (hs0 := [([], [0])]) (hs2 := [([], [0])]) (hs4 := [([], [1, 3])]) (hs1 := []) (hs3 := []) (hs5 := []) Tryz.func77 rfl rfl (by kernel_rfl) rfl rfl rfl rfl rfl rfl rfl Tryz.underlying22 (by kernel_rfl) (by kernel_rfl) (by kernel_rfl)
def bH := qR 2 24
theorem fe : cW Tryz.prog 78 (.prim bH) := ou (hs0 := [([], [0])]) (hs2 := [([], [0])]) (hs4 := [([], [1, 3])]) (hs1 := []) (hs3 := []) (hs5 := []) Tryz.func78 rfl rfl (by kernel_rfl) rfl rfl rfl rfl rfl rfl rfl Tryz.underlying24 (by kernel_rfl) (by kernel_rfl) (by kernel_rfl)
def cK := qR 1 16
theorem gI : cW Tryz.prog 79 (.prim cK) := ou (hs0 := [([], [0])]) (hs2 := [([], [0])]) (hs4 := [([], [1, 3])]) (hs1 := []) (hs3 := []) (hs5 := []) Tryz.func79 rfl rfl (by kernel_rfl) rfl rfl rfl rfl rfl rfl rfl Tryz.underlying25 (by kernel_rfl) (by kernel_rfl) (by kernel_rfl)
def dC := qR 1 1
theorem iO : cW Tryz.prog 80 (.prim dC) := ou (hs0 := [([], [0])]) (hs2 := [([], [0])]) (hs4 := [([], [1, 3])]) (hs1 := []) (hs3 := []) (hs5 := []) Tryz.func80 rfl rfl (by kernel_rfl) rfl rfl rfl rfl rfl rfl rfl Tryz.underlying26 (by kernel_rfl) (by kernel_rfl) (by kernel_rfl)
abbrev aD (v0 v1 v7 v8 : AV) : List AV := [v0, v1, aa, aa, .any, .any, .any, v7, v8, .any, .any, .any, .any, .any, .any, .any, .any, .any, .any]
abbrev ez  : List AV := [.any, .any, aa, aa, .any, .any, .any, .any, .any, .any, .any, .any, .any, .any, .any, .any, .any, .any, .any]
abbrev ao : CC := .kill sr (.seq (.region [oN 9 (.bin .lss (tP 8) (tP 7))])
  (.seq (.cond (tP 9) (.skip) (.kill [0, 1, 7, 8, 9] (.exit 0)))
  (.seq (.block 1 (.seq (.region [mV 10 8,
 mV 5 10])
  (.seq (.region [mV 11 1,
 mV 12 0,
 mV 13 5,
 oN 14 (.iaddr 1 none (tP 12) (tP 13)),
 lD 15 14,
 oN 16 (.callv (tP 11) [(tP 15)])])
  (.cond (tP 16) (.seq (.region [mV 17 5,
 mV 4 17])
  (.ret)) (.skip)))))
  (.region [oN 18 (.bin .add (tP 8) (.con (.int .i64 1))),
 mV 8 18]))))
def aj : CFn := ⟨19, .seq (.region [oN 4 (.mov (.con (.int .i64 0)))])
  (.seq (.seq (.region [mV 6 0,
 oN 7 (.lenl (tP 6)),
 oN 8 (.mov (.con (.int .i64 0)))])
  (.block 0 (.kill sr (.loop ao))))
  (.seq (.region [oN 4 (.mov (.con (.int .i64 (-1))))])
  (.ret))),
  [.tmp 4]⟩
theorem eC : IsFn Tryz.prog 81 aj := ah [([], []), ([], []), (sr, []), ([], []), ([0, 1, 7, 8, 9], []), ([], []), ([], []), ([], []), ([], []), ([], []), ([], []), ([], [])] (by kernel_rfl)
def gB : CFn := ⟨11, .seq (.region [oN 2 (.mov (.con (.bool false)))])
  (.seq (.region [mV 3 0,
 oN 4 (.lenl (tP 3)),
 oN 5 (.bin .leq (tP 4) (.con (.int .i64 6))),
 mV 6 5,
 oG 7 (.take (tP 0)) 6 true,
 oG 8 (.call 109 [(tP 7), (.con (.fn (.func 110) [] []))]) 6 true,
 oG 9 (.un .not (tP 8)) 6 true,
 oN 10 (.pick (tP 6) (tP 9) (.con (.bool false))),
 mV 2 10])
  (.ret)),
  [.tmp 2]⟩
theorem su : IsFn Tryz.prog 82 gB := ah [([], []), ([], [4]), ([], [])] (by kernel_rfl)
def hP : CFn := ⟨9, .seq (.region [oN 2 (.mov (.con (.bool false)))])
  (.seq (.region [mV 3 0,
 oN 4 (.bin .geq (tP 3) (.con (.int .i64 0))),
 mV 5 4,
 oG 6 (.mov (tP 0)) 5 true,
 oG 7 (.bin .leq (tP 6) (.con (.int .i64 1048576))) 5 true,
 oN 8 (.pick (tP 5) (tP 7) (.con (.bool false))),
 mV 2 8])
  (.ret)),
  [.tmp 2]⟩
theorem qt : IsFn Tryz.prog 83 hP := ah [([], []), ([], []), ([], [])] (by kernel_rfl)
def iI : CFn := ⟨13, .seq (.region [oN 2 (.mov (.con (.bool false)))])
  (.seq (.region [mV 7 0,
 oN 8 (.pcall 112 [(tP 7)]),
 oN 6 (.take (tP 8)),
 oN 9 (.extract 6 0),
 oN 10 (.extract 6 1),
 oN 11 (.extract 6 2),
 oN 3 (.take (tP 9)),
 mV 4 10,
 mV 5 11])
  (.seq (.region [mV 12 5,
 mV 2 12])
  (.ret))),
  [.tmp 2]⟩
theorem sx : IsFn Tryz.prog 84 iI := ah [([], []), ([], [1, 2, 6]), ([], []), ([], [])] (by kernel_rfl)
def iJ : CFn := ⟨16, .seq (.region [oN 6 (.mov (.con (.nili)))])
  (.seq (.seq (.region [mV 7 1,
 oN 8 (.bin .eql (tP 7) (.con (.int .i64 0)))])
  (.cond (tP 8) (.seq (.region [mV 9 2,
 mV 6 9])
  (.ret)) (.skip)))
  (.seq (.region [mV 10 0,
 mV 11 1,
 mV 12 2,
 oN 13 (.build [.str ⟨#[]⟩, .int .i64 0, .nili] [(0, 1, (tP 10)), (1, 1, (tP 11)), (2, 1, (tP 12))]),
 oN 14 (.rbox (tP 13)),
 oN 15 (.mkif 95 (tP 14)),
 mV 6 15])
  (.ret))),
  [.tmp 6]⟩
theorem sy : IsFn Tryz.prog 86 iJ := ah [([], []), ([], []), ([], []), ([], []), ([], [4]), ([], [])] (by kernel_rfl)
def fz : CFn := ⟨13, .seq (.region [oN 2 (.take (.con (.sl .ex [])))])
  (.seq (.seq (.region [mV 5 0,
 oN 6 (.bin .eql (tP 5) (.con (.str ⟨#[46]⟩)))])
  (.cond (tP 6) (.seq (.region [oN 2 (.take (.con (.sl .ex [])))])
  (.ret)) (.skip)))
  (.seq (.region [mV 8 0,
 oN 9 (.pcall 116 [(tP 8)]),
 oN 7 (.take (tP 9)),
 oN 10 (.extract 7 0),
 oN 11 (.extract 7 1),
 oN 3 (.take (tP 10)),
 mV 4 11])
  (.seq (.region [oN 12 (.take (tP 3)),
 oN 2 (.take (tP 12))])
  (.ret)))),
  [.tmp 2]⟩
theorem qu : IsFn Tryz.prog 87 fz := ah [([], [0]), ([], []), ([], [0]), ([], []), ([], [1, 2, 5]), ([], [0, 1]), ([], [])] (by kernel_rfl)
abbrev fA (v0 v3 : AV) : List AV := [v0, aa, .any, v3, .any, .any, .any, .any, .any, .any, .any, .any, .any, .any, .any, .any, .any, .any, .any, .any, .any, .any, .any, .any, .any, .any, .any, .any, .any, .any, .any, aa]
abbrev pJ (v3 : AV) : List AV := [.any, aa, .any, v3, .any, .any, .any, .any, .any, .any, .any, .any, .any, .any, .any, .any, .any, .any, .any, .any, .any, .any, .any, .any, .any, .any, .any, .any, .any, .any, .any, aa]
abbrev eD : CC := .kill Hr (.seq (.seq (.region [mV 6 0,
 oN 7 (.lens (tP 6)),
 oN 8 (.bin .geq (tP 7) (.con (.int .i64 2)))])
  (.cond (tP 8) (.skip) (.kill [0, 6, 7, 8] (.exit 0))))
  (.block 1 (.seq (.region [mV 9 0,
 oN 10 (.idxs (tP 9) (.con (.int .i64 0))),
 oN 11 (.pcall 117 [(.con (.str ⟨#[48, 49, 50, 51, 52, 53, 54, 55, 56, 57, 97, 98, 99, 100, 101, 102]⟩)), (tP 10)]),
 mV 12 0,
 oN 13 (.idxs (tP 12) (.con (.int .i64 1))),
 oN 14 (.pcall 117 [(.con (.str ⟨#[48, 49, 50, 51, 52, 53, 54, 55, 56, 57, 97, 98, 99, 100, 101, 102]⟩)), (tP 13)]),
 mV 4 11,
 mV 5 14])
  (.seq (.seq (.region [mV 15 4,
 oN 16 (.bin .lss (tP 15) (.con (.int .i64 0))),
 mV 17 16,
 oG 18 (.mov (tP 5)) 17 false,
 oG 19 (.bin .lss (tP 18) (.con (.int .i64 0))) 17 false,
 oN 20 (.pick (tP 17) (.con (.bool true)) (tP 19))])
  (.cond (tP 20) (.seq (.region [oN 2 (.take (.con (.sl .ex [])))])
  (.ret)) (.skip)))
  (.region [oN 21 (.take (tP 3)),
 mV 22 4,
 oN 23 (.bin .mul (.con (.int .i64 16)) (tP 22)),
 mV 24 5,
 oN 25 (.bin .add (tP 23) (tP 24)),
 oN 26 (.cInt .u8 (tP 25)),
 oN 27 (.bslice 1 false [(tP 26)]),
 oN 28 (.append 1 1 false (tP 21) (tP 27)),
 mV 29 0,
 oN 30 (.slice none (tP 29) (some (.con (.int .i64 2))) none none),
 oN 3 (.take (tP 28)),
 mV 0 30])))))
def fB : CFn := ⟨32, .seq (.region [oN 2 (.take (.con (.sl .ex [])))])
  (.seq (.region [oN 3 (.take (.con (.sl .ex [])))])
  (.seq (.block 0 (.kill Hr (.loop eD)))
  (.seq (.region [oN 31 (.take (tP 3)),
 oN 2 (.take (tP 31))])
  (.ret)))),
  [.tmp 2]⟩
theorem qv : IsFn Tryz.prog 88 fB := ah [([], [0]), ([], [0]), (Hr, []), ([], []), ([0, 6, 7, 8], []), ([], [2, 5]), ([], []), ([], [0]), ([], []), ([], [0, 10]), ([], [0, 1]), ([], [])] (by kernel_rfl)
abbrev aL (v0 v1 v12 v13 : AV) : List AV := [v0, v1, aa, aa, .any, .any, .any, .any, .any, .any, .any, .any, v12, v13, .any, .any, .any, .any, .any, .any, .any, .any, .any, .any, .any, .any]
abbrev eX  : List AV := [.any, .any, aa, aa, .any, .any, .any, .any, .any, .any, .any, .any, .any, .any, .any, .any, .any, .any, .any, .any, .any, .any, .any, .any, .any, .any]
abbrev av : CC := .kill Hs (.seq (.region [oN 14 (.bin .lss (tP 13) (tP 12))])
  (.seq (.cond (tP 14) (.skip) (.kill [0, 1, 12, 13, 14] (.exit 0)))
  (.seq (.block 1 (.seq (.region [mV 15 13,
 mV 5 15])
  (.seq (.region [mV 16 0,
 mV 17 5,
 oN 18 (.iaddr 2 none (tP 16) (tP 17)),
 oN 19 (.load (some 2) (tP 18)),
 mV 20 1,
 mV 21 5,
 oN 22 (.iaddr 2 none (tP 20) (tP 21)),
 oN 23 (.load (some 2) (tP 22)),
 oN 24 (.eqs true [(0, .string), (1, (.int .i64))] (tP 19) (tP 23))])
  (.cond (tP 24) (.seq (.region [oN 4 (.mov (.con (.bool false)))])
  (.ret)) (.skip)))))
  (.region [oN 25 (.bin .add (tP 13) (.con (.int .i64 1))),
 mV 13 25]))))
def aq : CFn := ⟨26, .seq (.region [oN 4 (.mov (.con (.bool false)))])
  (.seq (.seq (.region [mV 6 0,
 oN 7 (.lenl (tP 6)),
 mV 8 1,
 oN 9 (.lenl (tP 8)),
 oN 10 (.bin .neq (tP 7) (tP 9))])
  (.cond (tP 10) (.seq (.region [oN 4 (.mov (.con (.bool false)))])
  (.ret)) (.skip)))
  (.seq (.seq (.region [mV 11 0,
 oN 12 (.lenl (tP 11)),
 oN 13 (.mov (.con (.int .i64 0)))])
  (.block 0 (.kill Hs (.loop av))))
  (.seq (.region [oN 4 (.mov (.con (.bool true)))])
  (.ret)))),
  [.tmp 4]⟩
theorem ff : IsFn Tryz.prog 89 aq := ah [([], []), ([], []), ([], []), ([], []), ([], []), (Hs, []), ([], []), ([0, 1, 12, 13, 14], []), ([], []), ([], []), ([], []), ([], []), ([], []), ([], []), ([], [])] (by kernel_rfl)
abbrev bz (v0 v4 v5 v6 v7 : AV) : List AV := [v0, aa, .any, .any, v4, v5, v6, v7, .any, .any, .any, .any, .any, .any, .any, .any, .any, .any, .any, .any, .any, .any, .any, .any, .any, .any, .any, .any, .any, .any, .any, .any, .any, .any, .any, .any, .any, .any, .any, .any, .any, .any, .any, .any, .any, .any, .any, .any, .any, .any, .any, .any, .any, .any, aa, aa, aa, aa, aa, aa, aa, aa, aa, aa]
abbrev j3 (v0 v4 : AV) : List AV := [v0, aa, .any, .any, v4, .any, .any, .any, .any, .any, .any, .any, .any, .any, .any, .any, .any, .any, .any, .any, .any, .any, .any, .any, .any, .any, .any, .any, .any, .any, .any, .any, .any, .any, .any, .any, .any, .any, .any, .any, .any, .any, .any, .any, .any, .any, .any, .any, .any, .any, .any, .any, .any, .any, aa, aa, aa, aa, aa, aa, aa, aa, aa, aa]
abbrev tj (v0 v4 v5 v6 v7 : AV) : List AV := [v0, aa, .any, .any, v4, v5, v6, v7, .any, .any, .any, .any, .any, .any, .any, .any, .any, .any, .any, .any, .any, .any, .any, .any, .any, .any, .any, .any, .any, .any, .any, .any, .any, .any, .any, .any, .any, .any, .any, .any, .any, .any, .any, .any, .any, .any, .any, .any, .any, .any, .any, .any, .any, .any, aa, aa, aa, aa, aa, aa, aa, aa, aa, aa]
abbrev aV : CC := .kill Ht (.seq (.seq (.region [mV 10 7,
 mV 11 0,
 oN 12 (.lens (tP 11)),
 oN 13 (.bin .leq (tP 10) (tP 12))])
  (.cond (tP 13) (.skip) (.kill [5, 6, 7, 10, 11, 12, 13] (.exit 0))))
  (.seq (.block 1 (.seq (.seq (.region [mV 16 7,
 mV 17 0,
 oN 18 (.lens (tP 17)),
 oN 19 (.bin .eql (tP 16) (tP 18)),
 mV 20 19,
 oG 21 (.mov (tP 0)) 20 false,
 oG 22 (.mov (tP 7)) 20 false,
 oG 23 (.idxs (tP 21) (tP 22)) 20 false,
 oG 24 (.bin .eql (tP 23) (.con (.int .u8 46))) 20 false,
 oN 25 (.pick (tP 20) (.con (.bool true)) (tP 24))])
  (.cond (tP 25) (.seq (.region [oN 26 (.take (tP 4)),
 mV 27 5,
 oN 28 (.bslice 1 false [(tP 27)]),
 oN 29 (.append 1 8 false (tP 26) (tP 28)),
 oN 4 (.take (tP 29))])
  (.seq (.region [oN 5 (.mov (.con (.int .i64 0)))])
  (.seq (.region [oN 6 (.mov (.con (.int .i64 0)))])
  (.kill Fb (.exit 1))))) (.skip)))
  (.seq (.region [mV 30 6,
 oN 31 (.bin .add (tP 30) (.con (.int .i64 1))),
 mV 6 31])
  (.seq (.seq (.region [mV 32 0,
 mV 33 7,
 oN 34 (.idxs (tP 32) (tP 33)),
 oN 35 (.bin .lss (tP 34) (.con (.int .u8 48))),
 mV 36 35,
 oG 37 (.mov (tP 0)) 36 false,
 oG 38 (.mov (tP 7)) 36 false,
 oG 39 (.idxs (tP 37) (tP 38)) 36 false,
 oG 40 (.bin .gtr (tP 39) (.con (.int .u8 57))) 36 false,
 oN 41 (.pick (tP 36) (.con (.bool true)) (tP 40)),
 mV 42 41,
 oG 43 (.mov (tP 6)) 42 false,
 oG 44 (.bin .gtr (tP 43) (.con (.int .i64 7))) 42 false,
 oN 45 (.pick (tP 42) (.con (.bool true)) (tP 44))])
  (.cond (tP 45) (.seq (.region [oN 2 (.take (.con (.sl .ex []))),
 oN 3 (.mov (.con (.bool false)))])
  (.ret)) (.skip)))
  (.region [mV 46 5,
 oN 47 (.bin .mul (.con (.int .i64 10)) (tP 46)),
 mV 48 0,
 mV 49 7,
 oN 50 (.idxs (tP 48) (tP 49)),
 oN 51 (.bin .sub (tP 50) (.con (.int .u8 48))),
 oN 52 (.cInt .i64 (tP 51)),
 oN 53 (.bin .add (tP 47) (tP 52)),
 mV 5 53])))))
  (.kill Fc (.region [mV 14 7,
 oN 15 (.bin .add (tP 14) (.con (.int .i64 1))),
 mV 7 15]))))
def aS : CFn := ⟨64, .seq (.region [oN 2 (.take (.con (.sl .ex []))),
 oN 3 (.mov (.con (.bool false)))])
  (.seq (.seq (.region [mV 8 0,
 oN 9 (.bin .eql (tP 8) (.con (.str ⟨#[]⟩)))])
  (.cond (tP 9) (.seq (.region [oN 2 (.take (.con (.sl .ex []))),
 oN 3 (.mov (.con (.bool true)))])
  (.ret)) (.skip)))
  (.seq (.region [oN 4 (.take (.con (.sl .ex [])))])
  (.seq (.region [oN 5 (.mov (.con (.int .i64 0))),
 oN 6 (.mov (.con (.int .i64 0)))])
  (.seq (.seq (.region [oN 7 (.mov (.con (.int .i64 0)))])
  (.block 0 (.kill Ht (.loop aV))))
  (.seq (.seq (.region [mV 54 4,
 oN 55 (.pcall 74 [(tP 54)]),
 oN 56 (.un .not (tP 55)),
 mV 57 56,
 oG 58 (.mov (tP 4)) 57 false,
 oG 59 (.pcall 75 [(tP 58)]) 57 false,
 oG 60 (.mov (tP 0)) 57 false,
 oG 61 (.bin .neq (tP 59) (tP 60)) 57 false,
 oN 62 (.pick (tP 57) (.con (.bool true)) (tP 61))])
  (.cond (tP 62) (.seq (.region [oN 2 (.take (.con (.sl .ex []))),
 oN 3 (.mov (.con (.bool false)))])
  (.ret)) (.skip)))
  (.seq (.region [oN 63 (.take (tP 4)),
 oN 2 (.take (tP 63)),
 oN 3 (.mov (.con (.bool true)))])
  (.ret))))))),
  [.tmp 2, .tmp 3]⟩
theorem kE : IsFn Tryz.prog 90 aS := ah [([], [0]), ([], []), ([], [0]), ([], []), ([], [0]), ([], []), ([], []), (Ht, []), ([], []), ([5, 6, 7, 10, 11, 12, 13], []), ([], []), ([], [0, 4]), ([], []), ([], []), (Fb, []), ([], []), ([], []), ([], [0]), ([], []), ([], []), (Fc, []), ([], [1, 5]), ([], [0]), ([], []), ([], [0, 1]), ([], [])] (by kernel_rfl)
abbrev gC (v20 v21 v22 : AV) : List AV := [.any, .any, .any, aa, .any, .any, .any, .any, .any, .any, .any, .any, .any, .any, .any, .any, .any, .any, .any, .any, v20, v21, v22, .any, .any, .any, .any, .any, .any, .any, .any, .any, .any]
abbrev kF  : List AV := [.any, .any, .any, aa, .any, .any, .any, .any, .any, .any, .any, .any, .any, .any, .any, .any, .any, .any, .any, .any, .any, .any, .any, .any, .any, .any, .any, .any, .any, .any, .any, .any, .any]
abbrev eE : CC := .kill A2 (.seq (.region [oN 23 (.bin .lss (tP 22) (tP 21))])
  (.seq (.cond (tP 23) (.skip) (.kill [20, 21, 22, 23] (.exit 0)))
  (.seq (.block 1 (.seq (.region [oN 24 (.iaddr 1 none (tP 20) (tP 22)),
 lD 25 24,
 mV 4 25])
  (.seq (.region [mV 26 4,
 oN 27 (.bin .lss (tP 26) (.con (.int .i64 0))),
 mV 28 27,
 oG 29 (.mov (tP 4)) 28 false,
 oG 30 (.bin .gtr (tP 29) (.con (.int .i64 1048576))) 28 false,
 oN 31 (.pick (tP 28) (.con (.bool true)) (tP 30))])
  (.cond (tP 31) (.seq (.region [oN 2 (.mov (.con (.bool false)))])
  (.ret)) (.skip)))))
  (.region [oN 32 (.bin .add (tP 22) (.con (.int .i64 1))),
 mV 22 32]))))
def bd : CFn := ⟨33, .seq (.region [oN 1 (.box (tP 0)),
 oN 2 (.mov (.con (.bool false)))])
  (.seq (.seq (.region [oN 5 (.faddr 1 (tP 1)),
 lD 6 5,
 oN 7 (.bin .lss (tP 6) (.con (.int .i64 0))),
 mV 8 7,
 oG 9 (.faddr 1 (tP 1)) 8 false,
 oG 10 (.load none (tP 9)) 8 false,
 oG 11 (.bin .gtr (tP 10) (.con (.int .i64 65535))) 8 false,
 oN 12 (.pick (tP 8) (.con (.bool true)) (tP 11)),
 mV 13 12,
 oG 14 (.faddr 0 (tP 1)) 13 false,
 oG 15 (.load none (tP 14)) 13 false,
 oG 16 (.lenl (tP 15)) 13 false,
 oG 17 (.bin .gtr (tP 16) (.con (.int .i64 6))) 13 false,
 oN 18 (.pick (tP 13) (.con (.bool true)) (tP 17))])
  (.cond (tP 18) (.seq (.region [oN 2 (.mov (.con (.bool false)))])
  (.ret)) (.skip)))
  (.seq (.seq (.region [oN 19 (.faddr 0 (tP 1)),
 lD 20 19,
 oN 21 (.lenl (tP 20)),
 oN 22 (.mov (.con (.int .i64 0)))])
  (.block 0 (.kill A2 (.loop eE))))
  (.seq (.region [oN 2 (.mov (.con (.bool true)))])
  (.ret)))),
  [.tmp 2]⟩
theorem lI : IsFn Tryz.prog 91 bd := ah [([], []), ([], []), ([], []), ([], []), ([], []), (A2, []), ([], []), ([20, 21, 22, 23], []), ([], []), ([], []), ([], []), ([], []), ([], []), ([], []), ([], [])] (by kernel_rfl)
abbrev kG (v1 v3 v7 v8 v9 : AV) : List AV := [.any, v1, .any, v3, .any, .any, .any, v7, v8, v9, .any, .any, .any, .any, .any, .any, .any, .any, .any, .any, .any, .any, .any, aa, aa, aa, aa, aa, aa]
abbrev kH (v1 v3 : AV) : List AV := [.any, v1, .any, v3, .any, .any, .any, .any, .any, .any, .any, .any, .any, .any, .any, .any, .any, .any, .any, .any, .any, .any, .any, aa, aa, aa, aa, aa, aa]
abbrev gD : CC := .kill A3 (.seq (.region [oN 10 (.bin .lss (tP 9) (tP 8))])
  (.seq (.cond (tP 10) (.skip) (.kill [7, 8, 9, 10] (.exit 0)))
  (.seq (.block 1 (.seq (.region [mV 11 9,
 oN 12 (.iaddr 1 none (tP 7) (tP 9)),
 lD 13 12,
 mV 4 11,
 mV 5 13])
  (.seq (.seq (.region [mV 14 4,
 oN 15 (.bin .gtr (tP 14) (.con (.int .i64 0)))])
  (.cond (tP 15) (.region [mV 16 3,
 oN 17 (.bin .add (tP 16) (.con (.str ⟨#[46]⟩))),
 mV 3 17]) (.skip)))
  (.region [mV 18 3,
 mV 19 5,
 oN 20 (.pcall 34 [(tP 19)]),
 oN 21 (.bin .add (tP 18) (tP 20)),
 mV 3 21]))))
  (.region [oN 22 (.bin .add (tP 9) (.con (.int .i64 1))),
 mV 9 22]))))
def dR : CFn := ⟨29, .seq (.region [oN 1 (.box (tP 0)),
 oN 2 (.mov (.con (.str ⟨#[]⟩)))])
  (.seq (.region [oN 3 (.mov (.con (.str ⟨#[]⟩)))])
  (.seq (.seq (.region [oN 6 (.faddr 0 (tP 1)),
 lD 7 6,
 oN 8 (.lenl (tP 7)),
 oN 9 (.mov (.con (.int .i64 0)))])
  (.block 0 (.kill A3 (.loop gD))))
  (.seq (.region [mV 23 3,
 oN 24 (.bin .add (tP 23) (.con (.str ⟨#[47]⟩))),
 oN 25 (.faddr 1 (tP 1)),
 lD 26 25,
 oN 27 (.pcall 34 [(tP 26)]),
 oN 28 (.bin .add (tP 24) (tP 27)),
 mV 2 28])
  (.ret)))),
  [.tmp 2]⟩
theorem lJ : IsFn Tryz.prog 92 dR := ah [([], []), ([], []), ([], []), (A3, []), ([], []), ([7, 8, 9, 10], []), ([], []), ([], []), ([], []), ([], [2]), ([], []), ([], [4]), ([], [])] (by kernel_rfl)
def er : CFn := ⟨8, .seq (.region [oN 3 (.box (tP 0)),
 oN 4 (.box (tP 1)),
 oN 5 (.box (tP 2)),
 oN 6 (.mov (.con (.nilf)))])
  (.seq (.region [oN 7 (.mkfn (.func 118) [] [(tP 4), (tP 3), (tP 5)]),
 mV 6 7])
  (.ret)),
  [.tmp 6]⟩
theorem ma : IsFn Tryz.prog 93 er := ah [([], []), ([], []), ([], [])] (by kernel_rfl)
def bh : CFn := ⟨23, .seq (.region [oN 4 (.mov (.con (.str ⟨#[]⟩))),
 oN 5 (.mov (.con (.str ⟨#[]⟩))),
 oN 6 (.mov (.con (.bool false)))])
  (.seq (.seq (.region [mV 8 0,
 mV 9 1,
 oN 10 (.pcall 120 [(tP 8), (tP 9)]),
 mV 7 10])
  (.seq (.region [mV 11 7,
 oN 12 (.bin .geq (tP 11) (.con (.int .i64 0)))])
  (.cond (tP 12) (.seq (.region [mV 13 0,
 mV 14 7,
 oN 15 (.slice none (tP 13) none (some (tP 14)) none),
 mV 16 0,
 mV 17 7,
 mV 18 1,
 oN 19 (.lens (tP 18)),
 oN 20 (.bin .add (tP 17) (tP 19)),
 oN 21 (.slice none (tP 16) (some (tP 20)) none none),
 mV 4 15,
 mV 5 21,
 oN 6 (.mov (.con (.bool true)))])
  (.ret)) (.skip))))
  (.seq (.region [mV 22 0,
 mV 4 22,
 oN 5 (.mov (.con (.str ⟨#[]⟩))),
 oN 6 (.mov (.con (.bool false)))])
  (.ret))),
  [.tmp 4, .tmp 5, .tmp 6]⟩
theorem iq : IsFn Tryz.prog 94 bh := ah [([], []), ([], [2]), ([], []), ([], []), ([], []), ([], []), ([], [])] (by kernel_rfl)
def kU : CFn := ⟨9, .seq (.region [oN 2 (.box (tP 0)),
 oN 4 (.mov (.con (.int .i64 0)))])
  (.seq (.region [oN 5 (.faddr 0 (tP 2)),
 lD 6 5,
 mV 7 1,
 oN 8 (.pcall 126 [(tP 6), (tP 7)]),
 mV 4 8])
  (.ret)),
  [.tmp 4]⟩
theorem vQ : IsFn Tryz.prog 97 kU := ah [([], []), ([], [3]), ([], [])] (by kernel_rfl)
def dz : CFn := ⟨11, .seq (.region [oN 2 (.mov (.con (.bool false)))])
  (.seq (.region [mV 6 0,
 oN 7 (.pcall 54 [(tP 6)]),
 oN 5 (.take (tP 7)),
 oN 8 (.extract 5 0),
 oN 9 (.extract 5 1),
 oN 3 (.alloc [.sl .ex [], .int .i64 0]),
 ⟨none, .store 2 (tP 3) (tP 8), none⟩,
 mV 4 9])
  (.seq (.region [mV 10 4,
 mV 2 10])
  (.ret))),
  [.tmp 2]⟩
theorem kI : IsFn Tryz.prog 98 dz := ah [([], []), ([], [1, 2]), ([], []), ([], [])] (by kernel_rfl)
def bA : CFn := ⟨38, .seq (.region [oN 4 (.mov (.con (.int .i64 0)))])
  (.seq (.region [mV 11 0,
 oN 12 (.pcall 54 [(tP 11)]),
 oN 10 (.take (tP 12)),
 oN 13 (.extract 10 0),
 oN 14 (.extract 10 1),
 oN 5 (.alloc [.sl .ex [], .int .i64 0]),
 ⟨none, .store 2 (tP 5) (tP 13), none⟩,
 mV 6 14])
  (.seq (.region [mV 16 1,
 oN 17 (.pcall 54 [(tP 16)]),
 oN 15 (.take (tP 17)),
 oN 18 (.extract 15 0),
 oN 19 (.extract 15 1),
 oN 7 (.alloc [.sl .ex [], .int .i64 0]),
 ⟨none, .store 2 (tP 7) (tP 18), none⟩,
 mV 8 19])
  (.seq (.region [mV 20 0,
 mV 21 1,
 oN 22 (.bin .lss (tP 20) (tP 21)),
 mV 9 22])
  (.seq (.seq (.region [mV 23 6,
 mV 24 23,
 oG 25 (.mov (tP 8)) 24 true,
 oN 26 (.pick (tP 24) (tP 25) (.con (.bool false)))])
  (.cond (tP 26) (.region [oN 27 (.load (some 2) (tP 5)),
 oN 28 (.load (some 2) (tP 7)),
 oN 29 (.pcall 127 [(tP 27), (tP 28)]),
 mV 9 29]) (.seq (.region [mV 30 6,
 mV 31 8,
 oN 32 (.eqb true (tP 30) (tP 31))])
  (.cond (tP 32) (.region [mV 33 6,
 mV 9 33]) (.skip)))))
  (.seq (.seq (.region [mV 34 9])
  (.cond (tP 34) (.seq (.region [oN 4 (.mov (.con (.int .i64 (-1))))])
  (.ret)) (.skip)))
  (.seq (.seq (.region [mV 35 0,
 mV 36 1,
 oN 37 (.bin .eql (tP 35) (tP 36))])
  (.cond (tP 37) (.seq (.region [oN 4 (.mov (.con (.int .i64 0)))])
  (.ret)) (.skip)))
  (.seq (.region [oN 4 (.mov (.con (.int .i64 1)))])
  (.ret)))))))),
  [.tmp 4]⟩
theorem jy : IsFn Tryz.prog 99 bA := ah [([], []), ([], [1, 2]), ([], [1, 2]), ([], []), ([], []), ([], [2]), ([], []), ([], []), ([], []), ([], []), ([], []), ([], []), ([], []), ([], []), ([], []), ([], [])] (by kernel_rfl)
theorem uh : cW Tryz.prog 105 (.prim qV) := Dv (⟨Tryz.f105, Tryz.func105, by kernel_rfl, by kernel_rfl⟩ : dx Tryz.prog 105) Fa
def bC : CFn := ⟨9, .seq (.region [oN 4 (.mov (.con (.bool false)))])
  (.seq (.region [oN 5 (.take (tP 0)),
 mV 6 1,
 oN 7 (.call 139 [(tP 5), (tP 6)]),
 oN 8 (.bin .geq (tP 7) (.con (.int .i64 0))),
 mV 4 8])
  (.ret)),
  [.tmp 4]⟩
theorem gE : IsFn Tryz.prog 109 bC := ah [([], []), ([], [0]), ([], [])] (by kernel_rfl)
def fZ : CFn := ⟨6, .seq (.region [oN 2 (.mov (.con (.bool false)))])
  (.seq (.region [mV 3 0,
 oN 4 (.pcall 111 [(tP 3)]),
 oN 5 (.un .not (tP 4)),
 mV 2 5])
  (.ret)),
  [.tmp 2]⟩
theorem pK : IsFn Tryz.prog 110 fZ := ah [([], []), ([], [1]), ([], [])] (by kernel_rfl)
def fC : CFn := ⟨9, .seq (.region [oN 2 (.mov (.con (.bool false)))])
  (.seq (.region [mV 3 0,
 oN 4 (.bin .geq (tP 3) (.con (.int .i64 0))),
 mV 5 4,
 oG 6 (.mov (tP 0)) 5 true,
 oG 7 (.bin .leq (tP 6) (.con (.int .i64 1048576))) 5 true,
 oN 8 (.pick (tP 5) (tP 7) (.con (.bool false))),
 mV 2 8])
  (.ret)),
  [.tmp 2]⟩
theorem qw : IsFn Tryz.prog 111 fC := ah [([], []), ([], []), ([], [])] (by kernel_rfl)
abbrev dX : CC := .block 1 (.seq (.region [mV 38 11,
 oN 39 (.pcall 140 [(tP 38), (.con (.int .i64 1048576))]),
 mV 37 39,
 oN 40 (.extract 37 0),
 oN 41 (.extract 37 1),
 mV 12 40,
 mV 13 41])
  (.seq (.seq (.region [mV 42 13,
 oN 43 (.un .not (tP 42)),
 mV 44 43,
 oG 45 (.load none (tP 10)) 44 false,
 oG 46 (.lenl (tP 45)) 44 false,
 oG 47 (.bin .eql (tP 46) (.con (.int .i64 6))) 44 false,
 oN 48 (.pick (tP 44) (.con (.bool true)) (tP 47))])
  (.cond (tP 48) (.seq (.region [⟨none, .store 1 (tP 2) (.con (.sl .ex [])), none⟩,
 ⟨none, .store 1 (tP 3) (.con (.int .i64 0)), none⟩,
 ⟨none, .store 1 (tP 4) (.con (.bool false)), none⟩])
  (.ret)) (.skip)))
  (.region [oN 49 (.ltake (tP 10)),
 mV 50 12,
 oN 51 (.bslice 1 false [(tP 50)]),
 oN 52 (.append 1 8 false (tP 49) (tP 51)),
 ⟨none, .store 1 (tP 10) (tP 52), none⟩])))
abbrev bX : CC := .region [mV 11 36]
def dH : CFn := ⟨55, .seq (.region [oN 2 (.alloc [.sl .ex []]),
 oN 3 (.alloc [.int .i64 0]),
 oN 4 (.alloc [.bool false])])
  (.seq (.region [mV 15 0,
 oN 16 (.pcall 56 [(tP 15), (.con (.str ⟨#[47]⟩))]),
 mV 14 16,
 oN 17 (.extract 14 0),
 oN 18 (.extract 14 1),
 oN 19 (.extract 14 2),
 mV 5 17,
 mV 6 18,
 mV 7 19])
  (.seq (.region [mV 21 6,
 oN 22 (.pcall 140 [(tP 21), (.con (.int .i64 65535))]),
 mV 20 22,
 oN 23 (.extract 20 0),
 oN 24 (.extract 20 1),
 mV 8 23,
 mV 9 24])
  (.seq (.seq (.region [mV 25 7,
 oN 26 (.un .not (tP 25)),
 mV 27 26,
 oG 28 (.mov (tP 9)) 27 false,
 oG 29 (.un .not (tP 28)) 27 false,
 oN 30 (.pick (tP 27) (.con (.bool true)) (tP 29))])
  (.cond (tP 30) (.seq (.region [⟨none, .store 1 (tP 2) (.con (.sl .ex [])), none⟩,
 ⟨none, .store 1 (tP 3) (.con (.int .i64 0)), none⟩,
 ⟨none, .store 1 (tP 4) (.con (.bool false)), none⟩])
  (.ret)) (.skip)))
  (.seq (.seq (.region [mV 31 5,
 oN 32 (.bin .eql (tP 31) (.con (.str ⟨#[]⟩)))])
  (.cond (tP 32) (.seq (.region [mV 33 8,
 ⟨none, .store 1 (tP 2) (.con (.sl .ex [])), none⟩,
 ⟨none, .store 1 (tP 3) (tP 33), none⟩,
 ⟨none, .store 1 (tP 4) (.con (.bool true)), none⟩])
  (.ret)) (.skip)))
  (.seq (.region [oN 10 (.alloc [.sl .ex []])])
  (.seq (.seq (.region [mV 34 5,
 oN 35 (.call 55 [(tP 34), (.con (.str ⟨#[46]⟩))])])
  (.block 0 (.rsplit (tP 35) 36 bX dX)))
  (.seq (.region [lD 53 10,
 mV 54 8,
 ⟨none, .store 1 (tP 2) (tP 53), none⟩,
 ⟨none, .store 1 (tP 3) (tP 54), none⟩,
 ⟨none, .store 1 (tP 4) (.con (.bool true)), none⟩])
  (.ret)))))))),
  [.cell 2 none, .cell 3 none, .cell 4 none]⟩
theorem sB : IsFn Tryz.prog 112 dH := ah [([], []), ([], [1]), ([], [1]), ([], []), ([], []), ([], []), ([], []), ([], []), ([], []), ([], []), ([], []), ([], []), ([], [1]), ([], []), ([], []), ([], []), ([], [0]), ([], []), ([], [])] (by kernel_rfl)
abbrev dY : CC := .block 1 (.seq (.region [mV 14 5,
 oN 15 (.call 57 [(tP 14)]),
 mV 13 15,
 oN 16 (.extract 13 0),
 oN 17 (.extract 13 1),
 mV 6 16,
 mV 7 17])
  (.seq (.seq (.region [mV 18 7,
 oN 19 (.isnil .ifc true (tP 18)),
 mV 20 19,
 oG 21 (.load none (tP 4)) 20 false,
 oG 22 (.lenl (tP 21)) 20 false,
 oG 23 (.bin .eql (tP 22) (.con (.int .i64 6))) 20 false,
 oN 24 (.pick (tP 20) (.con (.bool true)) (tP 23))])
  (.cond (tP 24) (.seq (.region [⟨none, .store 1 (tP 2) (.con (.sl .ex [])), none⟩,
 ⟨none, .store 1 (tP 3) (.con (.bool false)), none⟩])
  (.ret)) (.skip)))
  (.region [oN 25 (.ltake (tP 4)),
 mV 26 6,
 oN 27 (.bslice 1 false [(tP 26)]),
 oN 28 (.append 1 8 false (tP 25) (tP 27)),
 ⟨none, .store 1 (tP 4) (tP 28), none⟩])))
abbrev bY : CC := .region [mV 5 12]
def dI : CFn := ⟨39, .seq (.region [oN 2 (.alloc [.sl .ex []]),
 oN 3 (.alloc [.bool false])])
  (.seq (.seq (.region [mV 8 0,
 oN 9 (.bin .eql (tP 8) (.con (.str ⟨#[]⟩)))])
  (.cond (tP 9) (.seq (.region [⟨none, .store 1 (tP 2) (.con (.sl .ex [])), none⟩,
 ⟨none, .store 1 (tP 3) (.con (.bool true)), none⟩])
  (.ret)) (.skip)))
  (.seq (.region [oN 4 (.alloc [.sl .ex []])])
  (.seq (.seq (.region [mV 10 0,
 oN 11 (.call 55 [(tP 10), (.con (.str ⟨#[46]⟩))])])
  (.block 0 (.rsplit (tP 11) 12 bY dY)))
  (.seq (.seq (.region [lD 29 4,
 oN 30 (.pcall 82 [(tP 29)]),
 oN 31 (.un .not (tP 30)),
 mV 32 31,
 oG 33 (.load none (tP 4)) 32 false,
 oG 34 (.pcall 105 [(tP 33)]) 32 false,
 oG 35 (.mov (tP 0)) 32 false,
 oG 36 (.bin .neq (tP 34) (tP 35)) 32 false,
 oN 37 (.pick (tP 32) (.con (.bool true)) (tP 36))])
  (.cond (tP 37) (.seq (.region [⟨none, .store 1 (tP 2) (.con (.sl .ex [])), none⟩,
 ⟨none, .store 1 (tP 3) (.con (.bool false)), none⟩])
  (.ret)) (.skip)))
  (.seq (.region [lD 38 4,
 ⟨none, .store 1 (tP 2) (tP 38), none⟩,
 ⟨none, .store 1 (tP 3) (.con (.bool true)), none⟩])
  (.ret)))))),
  [.cell 2 none, .cell 3 none]⟩
theorem sC : IsFn Tryz.prog 116 dI := ah [([], []), ([], []), ([], []), ([], []), ([], []), ([], []), ([], []), ([], []), ([], []), ([], []), ([], []), ([], [0]), ([], [1, 5]), ([], []), ([], []), ([], []), ([], [])] (by kernel_rfl)
theorem lK : cW Tryz.prog 117 (.prim ixbP) := J1 (⟨Tryz.f117, Tryz.func117, by kernel_rfl, by kernel_rfl⟩ : dx Tryz.prog 117) (fun s c w => Tryz.strings_IndexByte s c w)
theorem kJ : cW Tryz.prog 118 (.split) := Ds
theorem gJ : cW Tryz.prog 120 (.prim po) := Al (⟨Tryz.f120, Tryz.func120, by kernel_rfl, by kernel_rfl⟩ : dx Tryz.prog 120) (fun s c w => Tryz.stringslite_Index_one s c w)
def dt : CFn := ⟨47, .seq (.region [oN 4 (.mov (.con (.int .i64 0)))])
  (.seq (.region [mV 12 0,
 oN 13 (.pcall 112 [(tP 12)]),
 oN 11 (.take (tP 13)),
 oN 14 (.extract 11 0),
 oN 15 (.extract 11 1),
 oN 16 (.extract 11 2),
 oN 5 (.take (tP 14)),
 mV 6 15,
 mV 7 16])
  (.seq (.region [mV 18 1,
 oN 19 (.pcall 112 [(tP 18)]),
 oN 17 (.take (tP 19)),
 oN 20 (.extract 17 0),
 oN 21 (.extract 17 1),
 oN 22 (.extract 17 2),
 oN 8 (.take (tP 20)),
 mV 9 21,
 mV 10 22])
  (.seq (.block 0 (.seq (.region [mV 24 7,
 oN 25 (.un .not (tP 24)),
 mV 26 25,
 oG 27 (.mov (tP 10)) 26 true,
 oG 28 (.un .not (tP 27)) 26 true,
 oN 29 (.pick (tP 26) (tP 28) (.con (.bool false))),
 mV 23 29])
  (.cond (tP 23) (.seq (.region [mV 30 0,
 mV 31 1,
 oN 32 (.pcall 151 [(tP 30), (tP 31)]),
 mV 4 32])
  (.ret)) (.seq (.region [mV 34 7,
 oN 35 (.un .not (tP 34)),
 mV 33 35])
  (.cond (tP 33) (.seq (.region [oN 4 (.mov (.con (.int .i64 1)))])
  (.ret)) (.seq (.region [mV 37 10,
 oN 38 (.un .not (tP 37)),
 mV 36 38])
  (.cond (tP 36) (.seq (.region [oN 4 (.mov (.con (.int .i64 (-1))))])
  (.ret)) (.skip))))))))
  (.seq (.region [oN 39 (.take (tP 5)),
 oN 40 (.take (tP 8)),
 oN 41 (.pcall 153 [(tP 39), (tP 40)]),
 mV 42 6,
 mV 43 9,
 oN 44 (.pcall 154 [(tP 42), (tP 43)]),
 oN 45 (.bslice 1 false [(tP 41), (tP 44)]),
 oN 46 (.pcall 152 [(tP 45)]),
 mV 4 46])
  (.ret))))),
  [.tmp 4]⟩
theorem pM : IsFn Tryz.prog 126 dt := ah [([], []), ([], [1, 2, 6]), ([], [1, 2, 6]), ([], []), ([], [2]), ([], []), ([], []), ([], []), ([], []), ([], []), ([], []), ([], []), ([], [0, 1, 2, 5, 7]), ([], [])] (by kernel_rfl)
abbrev j4 (v2 v3 v5 : AV) : List AV := [.any, .any, v2, v3, .any, v5, .any, .any, .any, .any, .any, .any, .any, .any, .any, .any, .any, .any, .any, .any, .any, .any, .any, .any, .any, .any, .any, .any, .any, .any, .any, .any, .any, .any, .any, .any, .any, .any, .any, .any, .any, .any, .any, .any, .any, .any, .any, .any, .any, .any, .any, .any, .any, .any, .any, .any, .any, .any, .any]
abbrev fP : CC := .kill A4 (.seq (.block 1 (.seq (.seq (.region [mV 8 5,
 oN 9 (.faddr 0 (tP 2)),
 lD 10 9,
 oN 11 (.lenl (tP 10)),
 oN 12 (.bin .eql (tP 8) (tP 11)),
 mV 13 12,
 oG 14 (.mov (tP 5)) 13 false,
 oG 15 (.faddr 0 (tP 3)) 13 false,
 oG 16 (.load none (tP 15)) 13 false,
 oG 17 (.lenl (tP 16)) 13 false,
 oG 18 (.bin .eql (tP 14) (tP 17)) 13 false,
 oN 19 (.pick (tP 13) (.con (.bool true)) (tP 18))])
  (.cond (tP 19) (.seq (.seq (.region [oN 20 (.faddr 0 (tP 2)),
 lD 21 20,
 oN 22 (.lenl (tP 21)),
 oN 23 (.faddr 0 (tP 3)),
 lD 24 23,
 oN 25 (.lenl (tP 24)),
 oN 26 (.bin .neq (tP 22) (tP 25))])
  (.cond (tP 26) (.seq (.region [mV 27 5,
 oN 28 (.faddr 0 (tP 2)),
 lD 29 28,
 oN 30 (.lenl (tP 29)),
 oN 31 (.bin .eql (tP 27) (tP 30)),
 mV 4 31])
  (.ret)) (.skip)))
  (.seq (.region [oN 32 (.faddr 1 (tP 2)),
 lD 33 32,
 oN 34 (.faddr 1 (tP 3)),
 lD 35 34,
 oN 36 (.bin .lss (tP 33) (tP 35)),
 mV 4 36])
  (.ret))) (.skip)))
  (.seq (.region [oN 37 (.faddr 0 (tP 2)),
 lD 38 37,
 mV 39 5,
 oN 40 (.iaddr 1 none (tP 38) (tP 39)),
 lD 41 40,
 oN 42 (.faddr 0 (tP 3)),
 lD 43 42,
 mV 44 5,
 oN 45 (.iaddr 1 none (tP 43) (tP 44)),
 lD 46 45,
 oN 47 (.bin .neq (tP 41) (tP 46))])
  (.cond (tP 47) (.seq (.region [oN 48 (.faddr 0 (tP 2)),
 lD 49 48,
 mV 50 5,
 oN 51 (.iaddr 1 none (tP 49) (tP 50)),
 lD 52 51,
 oN 53 (.faddr 0 (tP 3)),
 lD 54 53,
 mV 55 5,
 oN 56 (.iaddr 1 none (tP 54) (tP 55)),
 lD 57 56,
 oN 58 (.bin .lss (tP 52) (tP 57)),
 mV 4 58])
  (.ret)) (.skip)))))
  (.region [mV 6 5,
 oN 7 (.bin .add (tP 6) (.con (.int .i64 1))),
 mV 5 7]))
def dA : CFn := ⟨59, .seq (.region [oN 2 (.box (tP 0)),
 oN 3 (.box (tP 1)),
 oN 4 (.mov (.con (.bool false)))])
  (.seq (.region [oN 5 (.mov (.con (.int .i64 0)))])
  (.block 0 (.kill A4 (.loop fP)))),
  [.tmp 4]⟩
theorem kK : IsFn Tryz.prog 127 dA := ah [([], []), ([], []), (A4, []), ([], []), ([], []), ([], []), ([], []), ([], []), ([], []), ([], []), ([], []), ([], []), ([], [])] (by kernel_rfl)
abbrev fg (v0 v1 v5 v6 : AV) : List AV := [v0, v1, aa, aa, .any, v5, v6, .any, .any, .any, .any, .any, .any, aa, .any, .any, .any, .any, .any, .any, .any, .any, .any, .any, .any, .any, .any, .any, .any, .any, .any, .any, .any, .any, .any, .any, aa, aa, aa, aa, aa, aa]
abbrev fh (v0 v5 : AV) : List AV := [v0, .any, aa, aa, .any, v5, .any, .any, .any, .any, .any, .any, .any, aa, .any, .any, .any, .any, .any, .any, .any, .any, .any, .any, .any, .any, .any, .any, .any, .any, .any, .any, .any, .any, .any, .any, aa, aa, aa, aa, aa, aa]
abbrev cQ : CC := .kill A5 (.seq (.seq (.region [mV 16 6,
 mV 17 0,
 oN 18 (.lenl (tP 17)),
 oN 19 (.bin .lss (tP 16) (tP 18))])
  (.cond (tP 19) (.skip) (.kill [1, 6, 16, 17, 18, 19] (.exit 0))))
  (.seq (.block 1 (.seq (.region [mV 22 0,
 mV 23 6,
 oN 24 (.iaddr 1 none (tP 22) (tP 23)),
 lD 25 24,
 mV 7 25])
  (.seq (.region [mV 26 1,
 mV 27 7,
 oN 28 (.callv (tP 26) [(tP 27)]),
 oN 29 (.un .not (tP 28))])
  (.cond (tP 29) (.seq (.region [mV 30 0,
 mV 31 5,
 mV 32 7,
 oN 33 (.iaddr 1 none (tP 30) (tP 31)),
 ⟨none, .store 1 (tP 33) (tP 32), none⟩])
  (.region [mV 34 5,
 oN 35 (.bin .add (tP 34) (.con (.int .i64 1))),
 mV 5 35])) (.skip)))))
  (.region [mV 20 6,
 oN 21 (.bin .add (tP 20) (.con (.int .i64 1))),
 mV 6 21])))
def aG : CFn := ⟨42, .seq (.region [oN 4 (.take (.con (.sl .ex [])))])
  (.seq (.region [mV 8 0,
 mV 9 1,
 oN 10 (.call 155 [(tP 8), (tP 9)]),
 mV 5 10])
  (.seq (.seq (.region [mV 11 5,
 oN 12 (.bin .eql (tP 11) (.con (.int .i64 (-1))))])
  (.cond (tP 12) (.seq (.region [oN 13 (.take (tP 0)),
 oN 4 (.take (tP 13))])
  (.ret)) (.skip)))
  (.seq (.seq (.region [mV 14 5,
 oN 15 (.bin .add (tP 14) (.con (.int .i64 1))),
 mV 6 15])
  (.block 0 (.kill A5 (.loop cQ))))
  (.seq (.region [mV 36 0,
 mV 37 5,
 oN 38 (.slice (some 1) (tP 36) (some (tP 37)) none none),
 ⟨none, .clr [.str ⟨#[]⟩] (tP 38), none⟩])
  (.seq (.region [oN 39 (.take (tP 0)),
 mV 40 5,
 oN 41 (.slice (some 1) (tP 39) none (some (tP 40)) none),
 oN 4 (.take (tP 41))])
  (.ret)))))),
  [.tmp 4]⟩
theorem fu : IsFn Tryz.prog 128 aG := ah [([], [0]), ([], []), ([], []), ([], [0, 1]), ([], []), ([], []), (A5, []), ([], []), ([1, 6, 16, 17, 18, 19], []), ([], []), ([], []), ([], []), ([], []), ([], []), ([], []), ([], [0, 3]), ([], [])] (by kernel_rfl)
def hU : CFn := ⟨6, .seq (.region [oN 2 (.mov (.con (.bool false)))])
  (.seq (.region [mV 3 0,
 oN 4 (.pcall 84 [(tP 3)]),
 oN 5 (.un .not (tP 4)),
 mV 2 5])
  (.ret)),
  [.tmp 2]⟩
theorem qx : IsFn Tryz.prog 129 hU := ah [([], []), ([], [1]), ([], [])] (by kernel_rfl)
def bf : CFn := ⟨14, .seq (.region [mV 5 0,
 oN 6 (.lenl (tP 5)),
 mV 4 6])
  (.region [oN 7 (.take (tP 0)),
 mV 8 4,
 mV 9 4,
 oN 10 (.cInt .u64 (tP 9)),
 oN 11 (.pcall 157 [(tP 10)]),
 mV 12 1,
 oN 13 (.call 156 [(tP 7), (.con (.int .i64 0)), (tP 8), (tP 11), (tP 12)])]),
  []⟩
theorem fH : IsFn Tryz.prog 130 bf := ah [([], []), ([], [0, 4])] (by kernel_rfl)
abbrev bb (v0 v3 : AV) : List AV := [v0, aa, .any, v3, .any, .any, .any, .any, .any, aa, .any, .any, .any, .any, .any, .any, .any, .any, .any, .any, .any, .any, .any, .any, .any, .any, .any, .any, .any, .any, .any, .any, .any, .any, .any, .any, .any, .any, .any, .any, .any, .any, .any, .any, .any, .any, .any, .any, .any, .any, .any, .any, .any, .any, .any, .any, .any, .any, .any, .any, aa]
abbrev fI (v0 v3 v4 v5 : AV) : List AV := [v0, aa, .any, v3, v4, v5, .any, .any, .any, aa, .any, .any, .any, .any, .any, .any, .any, .any, .any, .any, .any, .any, .any, .any, .any, .any, .any, .any, .any, .any, .any, .any, .any, .any, .any, .any, .any, .any, .any, .any, .any, .any, .any, .any, .any, .any, .any, .any, .any, .any, .any, .any, .any, .any, .any, .any, .any, .any, .any, .any, aa]
abbrev fJ (v0 : AV) : List AV := [v0, aa, .any, .any, .any, .any, .any, .any, .any, aa, .any, .any, .any, .any, .any, .any, .any, .any, .any, .any, .any, .any, .any, .any, .any, .any, .any, .any, .any, .any, .any, .any, .any, .any, .any, .any, .any, .any, .any, .any, .any, .any, .any, .any, .any, .any, .any, .any, .any, .any, .any, .any, .any, .any, .any, .any, .any, .any, .any, .any, aa]
abbrev fK (v0 v3 : AV) : List AV := [v0, aa, .any, v3, .any, .any, .any, .any, .any, aa, .any, .any, .any, .any, .any, .any, .any, .any, .any, .any, .any, .any, .any, .any, .any, .any, .any, .any, .any, .any, .any, .any, .any, .any, .any, .any, .any, .any, .any, .any, .any, .any, .any, .any, .any, .any, .any, .any, .any, .any, .any, .any, .any, .any, .any, .any, .any, .any, .any, .any, aa]
abbrev dw : CC := .kill A6 (.seq (.seq (.region [mV 29 5,
 mV 30 4,
 oN 31 (.lenl (tP 30)),
 oN 32 (.bin .lss (tP 29) (tP 31))])
  (.cond (tP 32) (.skip) (.kill [4, 5, 29, 30, 31, 32] (.exit 2))))
  (.seq (.block 3 (.seq (.region [mV 35 4,
 mV 36 5,
 oN 37 (.iaddr 1 none (tP 35) (tP 36)),
 lD 38 37,
 mV 39 4,
 mV 40 5,
 oN 41 (.bin .sub (tP 40) (.con (.int .i64 1))),
 oN 42 (.iaddr 1 none (tP 39) (tP 41)),
 lD 43 42,
 oN 44 (.bin .neq (tP 38) (tP 43))])
  (.cond (tP 44) (.seq (.region [mV 45 0,
 mV 46 3,
 mV 47 4,
 mV 48 5,
 oN 49 (.iaddr 1 none (tP 47) (tP 48)),
 lD 50 49,
 oN 51 (.iaddr 1 none (tP 45) (tP 46)),
 ⟨none, .store 1 (tP 51) (tP 50), none⟩])
  (.region [mV 52 3,
 oN 53 (.bin .add (tP 52) (.con (.int .i64 1))),
 mV 3 53])) (.skip))))
  (.region [mV 33 5,
 oN 34 (.bin .add (tP 33) (.con (.int .i64 1))),
 mV 5 34])))
abbrev aI : CC := .kill A7 (.seq (.seq (.region [mV 10 3,
 mV 11 0,
 oN 12 (.lenl (tP 11)),
 oN 13 (.bin .lss (tP 10) (tP 12))])
  (.cond (tP 13) (.skip) (.kill [3, 10, 11, 12, 13] (.exit 0))))
  (.seq (.block 1 (.seq (.region [mV 16 0,
 mV 17 3,
 oN 18 (.iaddr 1 none (tP 16) (tP 17)),
 lD 19 18,
 mV 20 0,
 mV 21 3,
 oN 22 (.bin .sub (tP 21) (.con (.int .i64 1))),
 oN 23 (.iaddr 1 none (tP 20) (tP 22)),
 lD 24 23,
 oN 25 (.bin .eql (tP 19) (tP 24))])
  (.cond (tP 25) (.seq (.region [mV 26 0,
 mV 27 3,
 oN 28 (.slice (some 1) (tP 26) (some (tP 27)) none none),
 oN 4 (.take (tP 28))])
  (.seq (.seq (.region [oN 5 (.mov (.con (.int .i64 1)))])
  (.block 2 (.kill A6 (.loop dw))))
  (.seq (.region [mV 54 0,
 mV 55 3,
 oN 56 (.slice (some 1) (tP 54) (some (tP 55)) none none),
 ⟨none, .clr [.str ⟨#[]⟩] (tP 56), none⟩])
  (.seq (.region [oN 57 (.take (tP 0)),
 mV 58 3,
 oN 59 (.slice (some 1) (tP 57) none (some (tP 58)) none),
 oN 2 (.take (tP 59))])
  (.ret))))) (.skip))))
  (.region [mV 14 3,
 oN 15 (.bin .add (tP 14) (.con (.int .i64 1))),
 mV 3 15])))
def aA : CFn := ⟨61, .seq (.region [oN 2 (.take (.con (.sl .ex [])))])
  (.seq (.seq (.region [mV 6 0,
 oN 7 (.lenl (tP 6)),
 oN 8 (.bin .lss (tP 7) (.con (.int .i64 2)))])
  (.cond (tP 8) (.seq (.region [oN 9 (.take (tP 0)),
 oN 2 (.take (tP 9))])
  (.ret)) (.skip)))
  (.seq (.seq (.region [oN 3 (.mov (.con (.int .i64 1)))])
  (.block 0 (.kill A7 (.loop aI))))
  (.seq (.region [oN 60 (.take (tP 0)),
 oN 2 (.take (tP 60))])
  (.ret)))),
  [.tmp 2]⟩
theorem fU : IsFn Tryz.prog 131 aA := ah [([], [0]), ([], []), ([], [0, 1]), ([], []), ([], []), (A7, []), ([], []), ([3, 10, 11, 12, 13], []), ([], []), ([], [3]), ([], []), (A6, []), ([], []), ([4, 5, 29, 30, 31, 32], []), ([], []), ([], []), ([], []), ([], []), ([], []), ([], [0, 3]), ([], []), ([], []), ([], [0, 1]), ([], [])] (by kernel_rfl)
abbrev bG (v0 v1 v7 v8 : AV) : List AV := [v0, v1, aa, aa, .any, .any, .any, v7, v8, .any, .any, .any, .any, .any, .any, .any, .any, .any, .any]
abbrev hX  : List AV := [.any, .any, aa, aa, .any, .any, .any, .any, .any, .any, .any, .any, .any, .any, .any, .any, .any, .any, .any]
abbrev aZ : CC := .kill sr (.seq (.region [oN 9 (.bin .lss (tP 8) (tP 7))])
  (.seq (.cond (tP 9) (.skip) (.kill [0, 1, 7, 8, 9] (.exit 0)))
  (.seq (.block 1 (.seq (.region [mV 10 8,
 mV 5 10])
  (.seq (.region [mV 11 1,
 mV 12 0,
 mV 13 5,
 oN 14 (.iaddr 1 none (tP 12) (tP 13)),
 lD 15 14,
 oN 16 (.callv (tP 11) [(tP 15)])])
  (.cond (tP 16) (.seq (.region [mV 17 5,
 mV 4 17])
  (.ret)) (.skip)))))
  (.region [oN 18 (.bin .add (tP 8) (.con (.int .i64 1))),
 mV 8 18]))))
def bj : CFn := ⟨19, .seq (.region [oN 4 (.mov (.con (.int .i64 0)))])
  (.seq (.seq (.region [mV 6 0,
 oN 7 (.lenl (tP 6)),
 oN 8 (.mov (.con (.int .i64 0)))])
  (.block 0 (.kill sr (.loop aZ))))
  (.seq (.region [oN 4 (.mov (.con (.int .i64 (-1))))])
  (.ret))),
  [.tmp 4]⟩
theorem ir : IsFn Tryz.prog 139 bj := ah [([], []), ([], []), (sr, []), ([], []), ([0, 1, 7, 8, 9], []), ([], []), ([], []), ([], []), ([], []), ([], []), ([], []), ([], [])] (by kernel_rfl)
def dn : CFn := ⟨31, .seq (.region [oN 4 (.mov (.con (.int .i64 0))),
 oN 5 (.mov (.con (.bool false)))])
  (.seq (.region [mV 9 0,
 oN 10 (.call 57 [(tP 9)]),
 mV 8 10,
 oN 11 (.extract 8 0),
 oN 12 (.extract 8 1),
 mV 6 11,
 mV 7 12])
  (.seq (.region [mV 13 6,
 mV 14 7,
 oN 15 (.isnil .ifc false (tP 14)),
 mV 16 15,
 oG 17 (.mov (tP 6)) 16 true,
 oG 18 (.bin .geq (tP 17) (.con (.int .i64 0))) 16 true,
 oN 19 (.pick (tP 16) (tP 18) (.con (.bool false))),
 mV 20 19,
 oG 21 (.mov (tP 6)) 20 true,
 oG 22 (.mov (tP 1)) 20 true,
 oG 23 (.bin .leq (tP 21) (tP 22)) 20 true,
 oN 24 (.pick (tP 20) (tP 23) (.con (.bool false))),
 mV 25 24,
 oG 26 (.mov (tP 6)) 25 true,
 oG 27 (.pcall 67 [(tP 26)]) 25 true,
 oG 28 (.mov (tP 0)) 25 true,
 oG 29 (.bin .eql (tP 27) (tP 28)) 25 true,
 oN 30 (.pick (tP 25) (tP 29) (.con (.bool false))),
 mV 4 13,
 mV 5 30])
  (.ret))),
  [.tmp 4, .tmp 5]⟩
theorem qy : IsFn Tryz.prog 140 dn := ah [([], []), ([], []), ([], [14]), ([], [])] (by kernel_rfl)
def bN : CFn := ⟨20, .seq (.region [oN 4 (.mov (.con (.int .i64 0)))])
  (.seq (.region [mV 7 0,
 oN 8 (.pcall 166 [(tP 7)]),
 mV 5 8])
  (.seq (.region [mV 9 1,
 oN 10 (.pcall 166 [(tP 9)]),
 mV 6 10])
  (.seq (.seq (.region [mV 11 5])
  (.cond (tP 11) (.seq (.seq (.region [mV 12 6])
  (.cond (tP 12) (.seq (.region [oN 4 (.mov (.con (.int .i64 0)))])
  (.ret)) (.skip)))
  (.seq (.region [oN 4 (.mov (.con (.int .i64 (-1))))])
  (.ret))) (.skip)))
  (.seq (.seq (.region [mV 13 6])
  (.cond (tP 13) (.seq (.region [oN 4 (.mov (.con (.int .i64 1)))])
  (.ret)) (.skip)))
  (.seq (.seq (.region [mV 14 0,
 mV 15 1,
 oN 16 (.bin .lss (tP 14) (tP 15))])
  (.cond (tP 16) (.seq (.region [oN 4 (.mov (.con (.int .i64 (-1))))])
  (.ret)) (.skip)))
  (.seq (.seq (.region [mV 17 0,
 mV 18 1,
 oN 19 (.bin .gtr (tP 17) (tP 18))])
  (.cond (tP 19) (.seq (.region [oN 4 (.mov (.con (.int .i64 1)))])
  (.ret)) (.skip)))
  (.seq (.region [oN 4 (.mov (.con (.int .i64 0)))])
  (.ret)))))))),
  [.tmp 4]⟩
theorem kL : IsFn Tryz.prog 151 bN := ah [([], []), ([], [1]), ([], [1]), ([], []), ([], []), ([], []), ([], []), ([], []), ([], []), ([], []), ([], []), ([], []), ([], []), ([], []), ([], []), ([], []), ([], []), ([], []), ([], []), ([], [])] (by kernel_rfl)
abbrev Cx (v3 v6 v7 v8 : AV) : List AV := [.any, aa, .any, v3, aa, .any, v6, v7, v8, .any, .any, .any, .any, .any, .any, .any, .any, aa]
abbrev Cy (v3 : AV) : List AV := [.any, aa, .any, v3, aa, .any, .any, .any, .any, .any, .any, .any, .any, .any, .any, .any, .any, aa]
abbrev qz : CC := .kill A8 (.seq (.region [oN 9 (.bin .lss (tP 8) (tP 7))])
  (.seq (.cond (tP 9) (.skip) (.kill [6, 7, 8, 9] (.exit 0)))
  (.seq (.block 1 (.seq (.region [oN 10 (.iaddr 1 none (tP 6) (tP 8)),
 lD 11 10,
 mV 5 11])
  (.seq (.region [mV 12 5,
 mV 13 3,
 oN 14 (.bin .neq (tP 12) (tP 13))])
  (.cond (tP 14) (.seq (.region [mV 15 5,
 mV 2 15])
  (.ret)) (.skip)))))
  (.region [oN 16 (.bin .add (tP 8) (.con (.int .i64 1))),
 mV 8 16]))))
def fq : CFn := ⟨18, .seq (.region [oN 2 (.mov (.con (.int .i64 0)))])
  (.seq (.region [oN 3 (.mov (.con (.int .i64 0)))])
  (.seq (.seq (.region [oN 6 (.take (tP 0)),
 oN 7 (.lenl (tP 6)),
 oN 8 (.mov (.con (.int .i64 0)))])
  (.block 0 (.kill A8 (.loop qz))))
  (.seq (.region [mV 17 3,
 mV 2 17])
  (.ret)))),
  [.tmp 2]⟩
theorem sD : IsFn Tryz.prog 152 fq := ah [([], []), ([], []), ([], [0]), (A8, []), ([], []), ([6, 7, 8, 9], []), ([], []), ([], []), ([], []), ([], []), ([], []), ([], []), ([], [])] (by kernel_rfl)
abbrev eM (v0 v1 v9 v10 v11 : AV) : List AV := [v0, v1, aa, aa, .any, .any, .any, .any, .any, v9, v10, v11, .any, .any, .any, .any, .any, .any, .any, .any, .any, .any, .any, .any, .any, .any, .any, .any, .any, .any, .any, aa, aa, aa, aa, aa]
abbrev iy (v0 v1 : AV) : List AV := [v0, v1, aa, aa, .any, .any, .any, .any, .any, .any, .any, .any, .any, .any, .any, .any, .any, .any, .any, .any, .any, .any, .any, .any, .any, .any, .any, .any, .any, .any, .any, aa, aa, aa, aa, aa]
abbrev cY : CC := .kill A9 (.seq (.region [oN 12 (.bin .lss (tP 11) (tP 10))])
  (.seq (.cond (tP 12) (.skip) (.kill [9, 10, 11, 12] (.exit 0)))
  (.seq (.block 1 (.seq (.region [mV 13 11,
 oN 14 (.iaddr 1 none (tP 9) (tP 11)),
 lD 15 14,
 mV 5 13,
 mV 6 15])
  (.seq (.seq (.region [mV 16 5,
 mV 17 1,
 oN 18 (.lenl (tP 17)),
 oN 19 (.bin .geq (tP 16) (tP 18))])
  (.cond (tP 19) (.seq (.region [oN 4 (.mov (.con (.int .i64 1)))])
  (.ret)) (.skip)))
  (.seq (.region [mV 20 1,
 mV 21 5,
 oN 22 (.iaddr 1 none (tP 20) (tP 21)),
 lD 23 22,
 mV 7 23])
  (.seq (.region [mV 24 6,
 mV 25 7,
 oN 26 (.pcall 154 [(tP 24), (tP 25)]),
 mV 8 26])
  (.seq (.region [mV 27 8,
 oN 28 (.bin .neq (tP 27) (.con (.int .i64 0)))])
  (.cond (tP 28) (.seq (.region [mV 29 8,
 mV 4 29])
  (.ret)) (.skip))))))))
  (.region [oN 30 (.bin .add (tP 11) (.con (.int .i64 1))),
 mV 11 30]))))
def ba : CFn := ⟨36, .seq (.region [oN 4 (.mov (.con (.int .i64 0)))])
  (.seq (.seq (.region [mV 9 0,
 oN 10 (.lenl (tP 9)),
 oN 11 (.mov (.con (.int .i64 0)))])
  (.block 0 (.kill A9 (.loop cY))))
  (.seq (.seq (.region [oN 31 (.take (tP 0)),
 oN 32 (.lenl (tP 31)),
 oN 33 (.take (tP 1)),
 oN 34 (.lenl (tP 33)),
 oN 35 (.bin .lss (tP 32) (tP 34))])
  (.cond (tP 35) (.seq (.region [oN 4 (.mov (.con (.int .i64 (-1))))])
  (.ret)) (.skip)))
  (.seq (.region [oN 4 (.mov (.con (.int .i64 0)))])
  (.ret)))),
  [.tmp 4]⟩
theorem iP : IsFn Tryz.prog 153 ba := ah [([], []), ([], []), (A9, []), ([], []), ([9, 10, 11, 12], []), ([], []), ([], []), ([], []), ([], []), ([], []), ([], [2]), ([], []), ([], []), ([], []), ([], []), ([], [0, 2]), ([], []), ([], []), ([], []), ([], [])] (by kernel_rfl)
def cN : CFn := ⟨20, .seq (.region [oN 4 (.mov (.con (.int .i64 0)))])
  (.seq (.region [mV 7 0,
 oN 8 (.pcall 167 [(tP 7)]),
 mV 5 8])
  (.seq (.region [mV 9 1,
 oN 10 (.pcall 167 [(tP 9)]),
 mV 6 10])
  (.seq (.seq (.region [mV 11 5])
  (.cond (tP 11) (.seq (.seq (.region [mV 12 6])
  (.cond (tP 12) (.seq (.region [oN 4 (.mov (.con (.int .i64 0)))])
  (.ret)) (.skip)))
  (.seq (.region [oN 4 (.mov (.con (.int .i64 (-1))))])
  (.ret))) (.skip)))
  (.seq (.seq (.region [mV 13 6])
  (.cond (tP 13) (.seq (.region [oN 4 (.mov (.con (.int .i64 1)))])
  (.ret)) (.skip)))
  (.seq (.seq (.region [mV 14 0,
 mV 15 1,
 oN 16 (.bin .lss (tP 14) (tP 15))])
  (.cond (tP 16) (.seq (.region [oN 4 (.mov (.con (.int .i64 (-1))))])
  (.ret)) (.skip)))
  (.seq (.seq (.region [mV 17 0,
 mV 18 1,
 oN 19 (.bin .gtr (tP 17) (tP 18))])
  (.cond (tP 19) (.seq (.region [oN 4 (.mov (.con (.int .i64 1)))])
  (.ret)) (.skip)))
  (.seq (.region [oN 4 (.mov (.con (.int .i64 0)))])
  (.ret)))))))),
  [.tmp 4]⟩
theorem mQ : IsFn Tryz.prog 154 cN := ah [([], []), ([], [1]), ([], [1]), ([], []), ([], []), ([], []), ([], []), ([], []), ([], []), ([], []), ([], []), ([], []), ([], []), ([], []), ([], []), ([], []), ([], []), ([], []), ([], []), ([], [])] (by kernel_rfl)
abbrev aP (v0 v1 v7 v8 : AV) : List AV := [v0, v1, aa, aa, .any, .any, .any, v7, v8, .any, .any, .any, .any, .any, .any, .any, .any, .any, .any]
abbrev fv  : List AV := [.any, .any, aa, aa, .any, .any, .any, .any, .any, .any, .any, .any, .any, .any, .any, .any, .any, .any, .any]
abbrev aC : CC := .kill sr (.seq (.region [oN 9 (.bin .lss (tP 8) (tP 7))])
  (.seq (.cond (tP 9) (.skip) (.kill [0, 1, 7, 8, 9] (.exit 0)))
  (.seq (.block 1 (.seq (.region [mV 10 8,
 mV 5 10])
  (.seq (.region [mV 11 1,
 mV 12 0,
 mV 13 5,
 oN 14 (.iaddr 1 none (tP 12) (tP 13)),
 lD 15 14,
 oN 16 (.callv (tP 11) [(tP 15)])])
  (.cond (tP 16) (.seq (.region [mV 17 5,
 mV 4 17])
  (.ret)) (.skip)))))
  (.region [oN 18 (.bin .add (tP 8) (.con (.int .i64 1))),
 mV 8 18]))))
def aJ : CFn := ⟨19, .seq (.region [oN 4 (.mov (.con (.int .i64 0)))])
  (.seq (.seq (.region [mV 6 0,
 oN 7 (.lenl (tP 6)),
 oN 8 (.mov (.con (.int .i64 0)))])
  (.block 0 (.kill sr (.loop aC))))
  (.seq (.region [oN 4 (.mov (.con (.int .i64 (-1))))])
  (.ret))),
  [.tmp 4]⟩
theorem fD : IsFn Tryz.prog 155 aJ := ah [([], []), ([], []), (sr, []), ([], []), ([0, 1, 7, 8, 9], []), ([], []), ([], []), ([], []), ([], []), ([], []), ([], []), ([], [])] (by kernel_rfl)
abbrev nh (v0 v1 v2 v3 v4 v10 v11 : AV) : List AV := [v0, v1, v2, v3, v4, aa, aa, aa, aa, aa, v10, v11, .any, .any, .any, .any, .any, .any, .any, .any, .any, .any, .any, .any, .any, .any, .any, .any, .any, .any, .any, .any, .any, .any, .any, .any, .any, .any, .any, .any, .any, .any, .any, .any, .any, .any, .any, .any, .any, .any, .any, .any, .any, .any, .any, .any, .any, .any, .any, .any, .any, .any, .any, .any, .any, .any, .any, .any, .any, .any, .any, .any, .any, .any, .any, .any, .any, .any, .any, .any, .any, .any, .any, .any, .any, .any, .any, .any, .any, .any, .any, .any, .any, .any, .any, .any, .any, .any, .any, .any, .any, .any, .any, .any, .any, .any, .any, .any, .any, .any, .any, .any, .any, .any, .any, .any, .any, .any, .any, .any, .any, .any, .any, .any, .any, .any, .any, .any, .any, .any, .any, .any, .any, .any, .any, .any, .any, .any, .any, .any, .any, .any, .any, .any, .any, .any, .any, .any]
abbrev ni (v0 v1 v2 v3 v4 v10 v11 : AV) : List AV := [v0, v1, v2, v3, v4, aa, aa, aa, aa, aa, v10, v11, .any, .any, .any, .any, .any, .any, .any, .any, .any, .any, .any, .any, .any, .any, .any, .any, .any, .any, .any, .any, .any, .any, .any, .any, .any, .any, .any, .any, .any, .any, .any, .any, .any, .any, .any, .any, .any, .any, .any, .any, .any, .any, .any, .any, .any, .any, .any, .any, .any, .any, .any, .any, .any, .any, .any, .any, .any, .any, .any, .any, .any, .any, .any, .any, .any, .any, .any, .any, .any, .any, .any, .any, .any, .any, .any, .any, .any, .any, .any, .any, .any, .any, .any, .any, .any, .any, .any, .any, .any, .any, .any, .any, .any, .any, .any, .any, .any, .any, .any, .any, .any, .any, .any, .any, .any, .any, .any, .any, .any, .any, .any, .any, .any, .any, .any, .any, .any, .any, .any, .any, .any, .any, .any, .any, .any, .any, .any, .any, .any, .any, .any, .any, .any, .any, .any, .any]
abbrev fL : CC := .kill Ba (.block 1 (.seq (.region [mV 21 2,
 mV 22 1,
 oN 23 (.bin .sub (tP 21) (tP 22)),
 mV 12 23])
  (.seq (.seq (.region [mV 24 12,
 oN 25 (.bin .leq (tP 24) (.con (.int .i64 12)))])
  (.cond (tP 25) (.seq (.region [oN 26 (.take (tP 0)),
 mV 27 1,
 mV 28 2,
 mV 29 4,
 oN 30 (.call 168 [(tP 26), (tP 27), (tP 28), (tP 29)])])
  (.ret)) (.skip)))
  (.seq (.seq (.region [mV 31 3,
 oN 32 (.bin .eql (tP 31) (.con (.int .i64 0)))])
  (.cond (tP 32) (.seq (.region [oN 33 (.take (tP 0)),
 mV 34 1,
 mV 35 2,
 mV 36 4,
 oN 37 (.call 169 [(tP 33), (tP 34), (tP 35), (tP 36)])])
  (.ret)) (.skip)))
  (.seq (.seq (.region [mV 38 10,
 oN 39 (.un .not (tP 38))])
  (.cond (tP 39) (.seq (.region [mV 40 0,
 mV 41 1,
 mV 42 2,
 mV 43 4,
 oN 44 (.call 170 [(tP 40), (tP 41), (tP 42), (tP 43)])])
  (.region [mV 45 3,
 oN 46 (.bin .sub (tP 45) (.con (.int .i64 1))),
 mV 3 46])) (.skip)))
  (.seq (.region [mV 48 0,
 mV 49 1,
 mV 50 2,
 mV 51 4,
 oN 52 (.call 171 [(tP 48), (tP 49), (tP 50), (tP 51)]),
 mV 47 52,
 oN 53 (.extract 47 0),
 oN 54 (.extract 47 1),
 mV 13 53,
 mV 14 54])
  (.seq (.seq (.region [mV 55 14,
 oN 56 (.bin .eql (tP 55) (.con (.int .i64 2)))])
  (.cond (tP 56) (.seq (.region [mV 57 0,
 mV 58 1,
 mV 59 2,
 mV 60 4,
 oN 61 (.call 172 [(tP 57), (tP 58), (tP 59), (tP 60)])])
  (.seq (.region [mV 62 2,
 oN 63 (.bin .sub (tP 62) (.con (.int .i64 1))),
 mV 64 13,
 mV 65 1,
 oN 66 (.bin .sub (tP 64) (tP 65)),
 oN 67 (.bin .sub (tP 63) (tP 66)),
 mV 13 67])
  (.region [oN 14 (.mov (.con (.int .i64 1)))]))) (.skip)))
  (.seq (.seq (.region [mV 68 10,
 mV 69 68,
 oG 70 (.mov (tP 11)) 69 true,
 oN 71 (.pick (tP 69) (tP 70) (.con (.bool false))),
 mV 72 71,
 oG 73 (.mov (tP 14)) 72 true,
 oG 74 (.bin .eql (tP 73) (.con (.int .i64 1))) 72 true,
 oN 75 (.pick (tP 72) (tP 74) (.con (.bool false)))])
  (.cond (tP 75) (.seq (.region [mV 76 0,
 mV 77 1,
 mV 78 2,
 mV 79 4,
 oN 80 (.call 173 [(tP 76), (tP 77), (tP 78), (tP 79)])])
  (.cond (tP 80) (.ret) (.skip))) (.skip)))
  (.seq (.seq (.region [mV 81 1,
 oN 82 (.bin .gtr (tP 81) (.con (.int .i64 0))),
 mV 83 82,
 oG 84 (.mov (tP 4)) 83 true,
 oG 85 (.mov (tP 0)) 83 true,
 oG 86 (.mov (tP 1)) 83 true,
 oG 87 (.bin .sub (tP 86) (.con (.int .i64 1))) 83 true,
 oG 88 (.iaddr 1 none (tP 85) (tP 87)) 83 true,
 oG 89 (.load none (tP 88)) 83 true,
 oG 90 (.mov (tP 0)) 83 true,
 oG 91 (.mov (tP 13)) 83 true,
 oG 92 (.iaddr 1 none (tP 90) (tP 91)) 83 true,
 oG 93 (.load none (tP 92)) 83 true,
 oG 94 (.callv (tP 84) [(tP 89), (tP 93)]) 83 true,
 oG 95 (.bin .lss (tP 94) (.con (.int .i64 0))) 83 true,
 oG 96 (.un .not (tP 95)) 83 true,
 oN 97 (.pick (tP 83) (tP 96) (.con (.bool false)))])
  (.cond (tP 97) (.seq (.region [mV 98 0,
 mV 99 1,
 mV 100 2,
 mV 101 13,
 mV 102 4,
 oN 103 (.call 174 [(tP 98), (tP 99), (tP 100), (tP 101), (tP 102)]),
 mV 15 103])
  (.seq (.region [mV 104 15,
 mV 1 104])
  (.kill Fe (.exit 1)))) (.skip)))
  (.seq (.region [mV 106 0,
 mV 107 1,
 mV 108 2,
 mV 109 13,
 mV 110 4,
 oN 111 (.call 175 [(tP 106), (tP 107), (tP 108), (tP 109), (tP 110)]),
 mV 105 111,
 oN 112 (.extract 105 0),
 oN 113 (.extract 105 1),
 mV 16 112,
 mV 17 113])
  (.seq (.region [mV 114 17,
 mV 11 114])
  (.seq (.region [mV 115 16,
 mV 116 1,
 oN 117 (.bin .sub (tP 115) (tP 116)),
 mV 118 2,
 mV 119 16,
 oN 120 (.bin .sub (tP 118) (tP 119)),
 mV 18 117,
 mV 19 120])
  (.seq (.region [mV 121 12,
 oN 122 (.bin .quo (tP 121) (.con (.int .i64 8))),
 mV 20 122])
  (.seq (.region [mV 123 18,
 mV 124 19,
 oN 125 (.bin .lss (tP 123) (tP 124))])
  (.cond (tP 125) (.seq (.region [mV 126 18,
 mV 127 20,
 oN 128 (.bin .geq (tP 126) (tP 127)),
 mV 10 128])
  (.seq (.region [mV 129 0,
 mV 130 1,
 mV 131 16,
 mV 132 3,
 mV 133 4,
 oN 134 (.call 156 [(tP 129), (tP 130), (tP 131), (tP 132), (tP 133)])])
  (.region [mV 135 16,
 oN 136 (.bin .add (tP 135) (.con (.int .i64 1))),
 mV 1 136]))) (.seq (.region [mV 137 19,
 mV 138 20,
 oN 139 (.bin .geq (tP 137) (tP 138)),
 mV 10 139])
  (.seq (.region [mV 140 0,
 mV 141 16,
 oN 142 (.bin .add (tP 141) (.con (.int .i64 1))),
 mV 143 2,
 mV 144 3,
 mV 145 4,
 oN 146 (.call 156 [(tP 140), (tP 142), (tP 143), (tP 144), (tP 145)])])
  (.region [mV 147 16,
 mV 2 147]))))))))))))))))))
def bq : CFn := ⟨148, .seq (.region [oN 10 (.mov (.con (.bool true)))])
 (.seq (.region [oN 11 (.mov (.con (.bool true)))])
 (.block 0 (.kill Ba (.loop fL)))),
 []⟩
theorem fV : IsFn Tryz.prog 156 bq := ah [([], []), ([], []), (Ba, []), ([], []), ([], []), ([], [0]), ([], []), ([], []), ([], [0]), ([], []), ([], []), ([], []), ([], []), ([], []), ([], []), ([], []), ([], []), ([], []), ([], []), ([], []), ([], []), ([], []), ([], []), ([], []), (Fe, []), ([], []), ([], []), ([], []), ([], []), ([], []), ([], []), ([], []), ([], []), ([], []), ([], []), ([], [])] (by kernel_rfl)
def iu : CFn := ⟨8, .seq (.region [oN 2 (.mov (.con (.int .i64 0)))])
  (.seq (.cond (.con (.bool false)) (.seq (.region [mV 3 0,
 oN 4 (.cInt .u32 (tP 3)),
 oN 5 (.pcall 176 [(tP 4)]),
 mV 2 5])
  (.ret)) (.skip))
  (.seq (.region [mV 6 0,
 oN 7 (.pcall 177 [(tP 6)]),
 mV 2 7])
  (.ret))),
  [.tmp 2]⟩
theorem n9 : IsFn Tryz.prog 157 iu := ah [([], []), ([], [2]), ([], []), ([], [1]), ([], [])] (by kernel_rfl)
def eu : CFn := ⟨6, .seq (.region [oN 2 (.mov (.con (.bool false)))])
  (.seq (.region [mV 3 0,
 mV 4 0,
 oN 5 (.bin .neq (tP 3) (tP 4)),
 mV 2 5])
  (.ret)),
  [.tmp 2]⟩
theorem mb : IsFn Tryz.prog 166 eu := ah [([], []), ([], []), ([], [])] (by kernel_rfl)
def fE : CFn := ⟨6, .seq (.region [oN 2 (.mov (.con (.bool false)))])
  (.seq (.region [mV 3 0,
 mV 4 0,
 oN 5 (.bin .neq (tP 3) (tP 4)),
 mV 2 5])
  (.ret)),
  [.tmp 2]⟩
theorem oa : IsFn Tryz.prog 167 fE := ah [([], []), ([], []), ([], [])] (by kernel_rfl)
abbrev cv (v0 v1 v2 v3 v8 : AV) : List AV := [v0, v1, v2, v3, aa, aa, aa, aa, v8, .any, .any, .any, .any, .any, .any, .any, .any, .any, .any, .any, .any, .any, .any, .any, .any, .any, .any, .any, .any, .any, .any, .any, .any, .any, .any, .any, .any, .any, .any, .any, .any, .any, .any, .any, .any, .any, .any, .any, .any, .any, .any, .any, .any]
abbrev eK (v0 v1 v2 v3 v8 v9 : AV) : List AV := [v0, v1, v2, v3, aa, aa, aa, aa, v8, v9, .any, .any, .any, .any, .any, .any, .any, .any, .any, .any, .any, .any, .any, .any, .any, .any, .any, .any, .any, .any, .any, .any, .any, .any, .any, .any, .any, .any, .any, .any, .any, .any, .any, .any, .any, .any, .any, .any, .any, .any, .any, .any, .any]
abbrev cw  : List AV := [.any, .any, .any, .any, aa, aa, aa, aa, .any, .any, .any, .any, .any, .any, .any, .any, .any, .any, .any, .any, .any, .any, .any, .any, .any, .any, .any, .any, .any, .any, .any, .any, .any, .any, .any, .any, .any, .any, .any, .any, .any, .any, .any, .any, .any, .any, .any, .any, .any, .any, .any, .any, .any]
abbrev eL (v0 v1 v2 v3 v8 : AV) : List AV := [v0, v1, v2, v3, aa, aa, aa, aa, v8, .any, .any, .any, .any, .any, .any, .any, .any, .any, .any, .any, .any, .any, .any, .any, .any, .any, .any, .any, .any, .any, .any, .any, .any, .any, .any, .any, .any, .any, .any, .any, .any, .any, .any, .any, .any, .any, .any, .any, .any, .any, .any, .any, .any]
abbrev cy : CC := .kill Bb (.seq (.seq (.region [mV 18 9,
 mV 19 1,
 oN 20 (.bin .gtr (tP 18) (tP 19)),
 mV 21 20,
 oG 22 (.mov (tP 3)) 21 true,
 oG 23 (.mov (tP 0)) 21 true,
 oG 24 (.mov (tP 9)) 21 true,
 oG 25 (.iaddr 1 none (tP 23) (tP 24)) 21 true,
 oG 26 (.load none (tP 25)) 21 true,
 oG 27 (.mov (tP 0)) 21 true,
 oG 28 (.mov (tP 9)) 21 true,
 oG 29 (.bin .sub (tP 28) (.con (.int .i64 1))) 21 true,
 oG 30 (.iaddr 1 none (tP 27) (tP 29)) 21 true,
 oG 31 (.load none (tP 30)) 21 true,
 oG 32 (.callv (tP 22) [(tP 26), (tP 31)]) 21 true,
 oG 33 (.bin .lss (tP 32) (.con (.int .i64 0))) 21 true,
 oN 34 (.pick (tP 21) (tP 33) (.con (.bool false)))])
  (.cond (tP 34) (.skip) (.kill Ff (.exit 2))))
  (.seq (.block 3 (.region [mV 37 0,
 mV 38 9,
 mV 39 0,
 mV 40 9,
 oN 41 (.bin .sub (tP 40) (.con (.int .i64 1))),
 mV 42 0,
 mV 43 9,
 oN 44 (.bin .sub (tP 43) (.con (.int .i64 1))),
 oN 45 (.iaddr 1 none (tP 42) (tP 44)),
 lD 46 45,
 mV 47 0,
 mV 48 9,
 oN 49 (.iaddr 1 none (tP 47) (tP 48)),
 lD 50 49,
 oN 51 (.iaddr 1 none (tP 37) (tP 38)),
 ⟨none, .store 1 (tP 51) (tP 46), none⟩,
 oN 52 (.iaddr 1 none (tP 39) (tP 41)),
 ⟨none, .store 1 (tP 52) (tP 50), none⟩]))
  (.region [mV 35 9,
 oN 36 (.bin .sub (tP 35) (.con (.int .i64 1))),
 mV 9 36])))
abbrev bg : CC := .kill Bc (.seq (.seq (.region [mV 12 8,
 mV 13 2,
 oN 14 (.bin .lss (tP 12) (tP 13))])
  (.cond (tP 14) (.skip) (.kill Fg (.exit 0))))
  (.seq (.block 1 (.seq (.region [mV 17 8,
 mV 9 17])
  (.block 2 (.kill Bb (.loop cy)))))
  (.region [mV 15 8,
 oN 16 (.bin .add (tP 15) (.con (.int .i64 1))),
 mV 8 16])))
def aw : CFn := ⟨53, .seq (.region [mV 10 1,
 oN 11 (.bin .add (tP 10) (.con (.int .i64 1))),
 mV 8 11])
  (.block 0 (.kill Bc (.loop bg))),
  []⟩
theorem eT : IsFn Tryz.prog 168 aw := ah [([], []), (Bc, []), ([], []), (Fg, []), ([], []), (Bb, []), ([], []), (Ff, []), ([], []), ([], []), ([], [])] (by kernel_rfl)
def fW : CFn := ⟨19, .seq (.region [oN 2 (.mov (.con (.int .i64 0)))])
  (.seq (.seq (.region [mV 3 0,
 oN 4 (.bin .geq (tP 3) (.con (.int .u32 65536)))])
  (.cond (tP 4) (.seq (.region [mV 5 0,
 oN 6 (.bin .shr (tP 5) (.con (.int .u64 16))),
 mV 0 6])
  (.region [oN 2 (.mov (.con (.int .i64 16)))])) (.skip)))
  (.seq (.seq (.region [mV 7 0,
 oN 8 (.bin .geq (tP 7) (.con (.int .u32 256)))])
  (.cond (tP 8) (.seq (.region [mV 9 0,
 oN 10 (.bin .shr (tP 9) (.con (.int .u64 8))),
 mV 0 10])
  (.region [mV 11 2,
 oN 12 (.bin .add (tP 11) (.con (.int .i64 8))),
 mV 2 12])) (.skip)))
  (.seq (.region [mV 13 2,
 mV 14 0,
 oN 15 (.cInt .u8 (tP 14)),
 oN 16 (.idxs (.con (.str ⟨#[0, 1, 2, 2, 3, 3, 3, 3, 4, 4, 4, 4, 4, 4, 4, 4, 5, 5, 5, 5, 5, 5, 5, 5, 5, 5, 5, 5, 5, 5, 5, 5, 6, 6, 6, 6, 6, 6, 6, 6, 6, 6, 6, 6, 6, 6, 6, 6, 6, 6, 6, 6, 6, 6, 6, 6, 6, 6, 6, 6, 6, 6, 6, 6, 7, 7, 7, 7, 7, 7, 7, 7, 7, 7, 7, 7, 7, 7, 7, 7, 7, 7, 7, 7, 7, 7, 7, 7, 7, 7, 7, 7, 7, 7, 7, 7, 7, 7, 7, 7, 7, 7, 7, 7, 7, 7, 7, 7, 7, 7, 7, 7, 7, 7, 7, 7, 7, 7, 7, 7, 7, 7, 7, 7, 7, 7, 7, 7, 8, 8, 8, 8, 8, 8, 8, 8, 8, 8, 8, 8, 8, 8, 8, 8, 8, 8, 8, 8, 8, 8, 8, 8, 8, 8, 8, 8, 8, 8, 8, 8, 8, 8, 8, 8, 8, 8, 8, 8, 8, 8, 8, 8, 8, 8, 8, 8, 8, 8, 8, 8, 8, 8, 8, 8, 8, 8, 8, 8, 8, 8, 8, 8, 8, 8, 8, 8, 8, 8, 8, 8, 8, 8, 8, 8, 8, 8, 8, 8, 8, 8, 8, 8, 8, 8, 8, 8, 8, 8, 8, 8, 8, 8, 8, 8, 8, 8, 8, 8, 8, 8, 8, 8, 8, 8, 8, 8, 8, 8, 8, 8, 8, 8, 8, 8, 8, 8, 8, 8, 8, 8, 8, 8, 8, 8, 8, 8]⟩)) (tP 15)),
 oN 17 (.cInt .i64 (tP 16)),
 oN 18 (.bin .add (tP 13) (tP 17)),
 mV 2 18])
  (.ret)))),
  [.tmp 2]⟩
theorem mR : IsFn Tryz.prog 176 fW := ah [([], []), ([], []), ([], []), ([], []), ([], []), ([], []), ([], []), ([], []), ([], [])] (by kernel_rfl)
def fX : CFn := ⟨25, .seq (.region [oN 2 (.mov (.con (.int .i64 0)))])
  (.seq (.seq (.region [mV 3 0,
 oN 4 (.bin .geq (tP 3) (.con (.int .u64 4294967296)))])
  (.cond (tP 4) (.seq (.region [mV 5 0,
 oN 6 (.bin .shr (tP 5) (.con (.int .u64 32))),
 mV 0 6])
  (.region [oN 2 (.mov (.con (.int .i64 32)))])) (.skip)))
  (.seq (.seq (.region [mV 7 0,
 oN 8 (.bin .geq (tP 7) (.con (.int .u64 65536)))])
  (.cond (tP 8) (.seq (.region [mV 9 0,
 oN 10 (.bin .shr (tP 9) (.con (.int .u64 16))),
 mV 0 10])
  (.region [mV 11 2,
 oN 12 (.bin .add (tP 11) (.con (.int .i64 16))),
 mV 2 12])) (.skip)))
  (.seq (.seq (.region [mV 13 0,
 oN 14 (.bin .geq (tP 13) (.con (.int .u64 256)))])
  (.cond (tP 14) (.seq (.region [mV 15 0,
 oN 16 (.bin .shr (tP 15) (.con (.int .u64 8))),
 mV 0 16])
  (.region [mV 17 2,
 oN 18 (.bin .add (tP 17) (.con (.int .i64 8))),
 mV 2 18])) (.skip)))
  (.seq (.region [mV 19 2,
 mV 20 0,
 oN 21 (.cInt .u8 (tP 20)),
 oN 22 (.idxs (.con (.str ⟨#[0, 1, 2, 2, 3, 3, 3, 3, 4, 4, 4, 4, 4, 4, 4, 4, 5, 5, 5, 5, 5, 5, 5, 5, 5, 5, 5, 5, 5, 5, 5, 5, 6, 6, 6, 6, 6, 6, 6, 6, 6, 6, 6, 6, 6, 6, 6, 6, 6, 6, 6, 6, 6, 6, 6, 6, 6, 6, 6, 6, 6, 6, 6, 6, 7, 7, 7, 7, 7, 7, 7, 7, 7, 7, 7, 7, 7, 7, 7, 7, 7, 7, 7, 7, 7, 7, 7, 7, 7, 7, 7, 7, 7, 7, 7, 7, 7, 7, 7, 7, 7, 7, 7, 7, 7, 7, 7, 7, 7, 7, 7, 7, 7, 7, 7, 7, 7, 7, 7, 7, 7, 7, 7, 7, 7, 7, 7, 7, 8, 8, 8, 8, 8, 8, 8, 8, 8, 8, 8, 8, 8, 8, 8, 8, 8, 8, 8, 8, 8, 8, 8, 8, 8, 8, 8, 8, 8, 8, 8, 8, 8, 8, 8, 8, 8, 8, 8, 8, 8, 8, 8, 8, 8, 8, 8, 8, 8, 8, 8, 8, 8, 8, 8, 8, 8, 8, 8, 8, 8, 8, 8, 8, 8, 8, 8, 8, 8, 8, 8, 8, 8, 8, 8, 8, 8, 8, 8, 8, 8, 8, 8, 8, 8, 8, 8, 8, 8, 8, 8, 8, 8, 8, 8, 8, 8, 8, 8, 8, 8, 8, 8, 8, 8, 8, 8, 8, 8, 8, 8, 8, 8, 8, 8, 8, 8, 8, 8, 8, 8, 8, 8, 8, 8, 8, 8, 8]⟩)) (tP 21)),
 oN 23 (.cInt .i64 (tP 22)),
 oN 24 (.bin .add (tP 19) (tP 23)),
 mV 2 24])
  (.ret))))),
  [.tmp 2]⟩
theorem mS : IsFn Tryz.prog 177 fX := ah [([], []), ([], []), ([], []), ([], []), ([], []), ([], []), ([], []), ([], []), ([], []), ([], []), ([], []), ([], [])] (by kernel_rfl)
end Go.Proofs.YtibchilpaaiecaaGreatDoor.F
