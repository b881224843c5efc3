/- Functions of the program, compiled, by a program (gen.py). -/
import Derived.Test.YtjeigcnaalleiaaDoorProg
import Derived.KernelRfl
import Derived.Test.YtjeigcnaalleiaaDoorM19
import Derived.Test.YtjeigcnaalleiaaDoorM22
import Derived.Test.YtjeigcnaalleiaaDoorSh
import Derived.Test.YtjeigcnaalleiaaDoorSp
import Derived.Test.YtjeigcnaalleiaaDoorPt
set_option maxRecDepth 100000
namespace Go.Proofs.YtjeigcnaalleiaaDoor.F
open Go.Proofs.YtjeigcnaalleiaaDoor.M Go.Proofs Go.RowKit

theorem tab_ok (w0 w : World) (hw : GW w0) (hb : Below w0.heap.size w0 w) : Lib.TabIs Tryd.prog w "internal/strconv.uint64pow10" .u64 Lib.pow10Tab := by
  obtain ⟨el, fr, hh⟩ := hw.1 _ (List.mem_cons_self ..)
  have h2 := (hb.block 5 (Array.getElem?_eq_some_iff.1 hh).1).trans hh
  unfold Lib.TabIs World.var?
  rw [show Tryd.prog.globalNamed "internal/strconv.uint64pow10" = some 5 from by kernel_rfl]
  simp only [Option.bind_some]
  rw [h2]
  rfl

theorem errvar_ok {P : Program} {w0 w : World} {g : Nat} {n : String} (h : ∃ tp q el fr, w0.heap[g]? = some (.cells #[.iface tp q] el fr)) (hb : Below w0.heap.size w0 w) (hn : P.globalNamed n = some g) : ∃ tp q, w.var? P n = some #[.iface tp q] := by
  obtain ⟨tp, q, el, fr, hh⟩ := h
  have h2 := (hb.block g (Array.getElem?_eq_some_iff.1 hh).1).trans hh
  exact ⟨tp, q, by unfold World.var?; rw [hn]; simp only [Option.bind_some]; rw [h2]⟩
/-- regency/regencylaw08.PathGets -/
def c_regencylaw08_PathGets : CFn := ⟨48, .seq (.region [⟨some 2, .mov (.con (.bool false)), none⟩])
  (.seq (.seq (.region [⟨some 9, .pcall 7 [], none⟩,
    ⟨some 10, .un .not (.tmp 9), none⟩])
  (.cond (.tmp 10) (.seq (.region [⟨some 2, .mov (.con (.bool false)), none⟩])
  (.ret)) (.skip)))
  (.seq (.seq (.region [⟨some 11, .mov (.tmp 0), none⟩,
    ⟨some 12, .lenl (.tmp 11), none⟩,
    ⟨some 13, .bin .gtr (.tmp 12) (.con (.int .i64 300)), none⟩])
  (.cond (.tmp 13) (.seq (.region [⟨some 2, .mov (.con (.bool true)), none⟩])
  (.ret)) (.skip)))
  (.seq (.seq (.region [⟨some 14, .mov (.tmp 0), none⟩]) (.seq (.region [⟨some 16, .mov (.tmp 0), none⟩]) (.seq (.region [⟨some 17, .cBytesStr (.tmp 16), none⟩]) (.seq (.region [⟨some 18, .build [.str ⟨#[]⟩, .int .i64 0] [(0, 1, (.tmp 17))], none⟩]) (.both (.seq (.region [⟨some 15, .call 8 [(.tmp 14)], none⟩]) (.seq (.region [⟨some 19, .box (.tmp 18), none⟩]) (.seq (.region [⟨some 3, .mov (.tmp 15), none⟩]) (.seq (.region [⟨some 4, .mov (.tmp 19), none⟩]) (.skip))))) (.seq (.region [⟨some 19, .box (.tmp 18), none⟩]) (.seq (.region [⟨some 15, .call 8 [(.tmp 14)], none⟩]) (.seq (.region [⟨some 3, .mov (.tmp 15), none⟩]) (.seq (.region [⟨some 4, .mov (.tmp 19), none⟩]) (.skip))))))))))
  (.seq (.region [⟨some 21, .mov (.tmp 3), none⟩,
    ⟨some 22, .call 9 [(.tmp 21)], none⟩,
    ⟨some 20, .take (.tmp 22), none⟩,
    ⟨some 23, .extract 20 0, none⟩,
    ⟨some 24, .extract 20 1, none⟩,
    ⟨some 5, .take (.tmp 23), none⟩,
    ⟨some 6, .mov (.tmp 24), none⟩])
  (.seq (.region [⟨some 26, .mov (.tmp 4), none⟩,
    ⟨some 27, .call 10 [(.tmp 26)], none⟩,
    ⟨some 25, .take (.tmp 27), none⟩,
    ⟨some 28, .extract 25 0, none⟩,
    ⟨some 29, .extract 25 1, none⟩,
    ⟨some 7, .take (.tmp 28), none⟩,
    ⟨some 8, .mov (.tmp 29), none⟩])
  (.seq (.dregion [(⟨some 30, .mov (.tmp 5), none⟩, false),
    (⟨some 31, .mov (.tmp 7), none⟩, false),
    (⟨some 32, .pcall 11 [(.tmp 30), (.tmp 31)], none⟩, false),
    (⟨some 33, .mov (.tmp 32), none⟩, false),
    (⟨some 34, .mov (.tmp 6), (some (33, true))⟩, false),
    (⟨some 35, .mov (.tmp 8), (some (33, true))⟩, false),
    (⟨some 36, .bin .eql (.tmp 34) (.tmp 35), (some (33, true))⟩, false),
    (⟨some 37, .pick (.tmp 33) (.tmp 36) (.con (.bool false)), none⟩, false),
    (⟨some 38, .mov (.tmp 37), none⟩, false),
    (⟨some 39, .mov (.tmp 3), (some (38, true))⟩, false),
    (⟨some 40, .call 12 [(.tmp 39)], (some (38, true))⟩, true),
    (⟨some 41, .mov (.tmp 4), (some (38, true))⟩, false),
    (⟨some 42, .nilck (.tmp 41), (some (38, true))⟩, false),
    (⟨some 43, .faddr 0 (.tmp 42), (some (38, true))⟩, false),
    (⟨some 44, .load none (.tmp 43), (some (38, true))⟩, true),
    (⟨some 45, .lens (.tmp 44), (some (38, true))⟩, false),
    (⟨some 46, .bin .eql (.tmp 40) (.tmp 45), (some (38, true))⟩, false),
    (⟨some 47, .pick (.tmp 38) (.tmp 46) (.con (.bool false)), none⟩, false),
    (⟨some 2, .mov (.tmp 47), none⟩, false)])
  (.ret))))))),
  [.tmp 2]⟩
theorem is_regencylaw08_PathGets : IsFn Tryd.prog 3 c_regencylaw08_PathGets := isFn_of [([], []), ([], [0]), ([], []), ([], []), ([], []), ([], []), ([], []), ([], []), ([], [2, 5]), ([], [2, 5]), ([], [2]), ([], [])] (by kernel_rfl)

/-- regency/regencylaw08.PathTells -/
def c_regencylaw08_PathTells : CFn := ⟨154, .seq (.region [⟨some 6, .mov (.con (.bool false)), none⟩])
  (.seq (.seq (.region [⟨some 18, .pcall 7 [], none⟩,
    ⟨some 19, .un .not (.tmp 18), none⟩])
  (.cond (.tmp 19) (.seq (.region [⟨some 6, .mov (.con (.bool false)), none⟩])
  (.ret)) (.skip)))
  (.seq (.seq (.region [⟨some 20, .mov (.tmp 0), none⟩,
    ⟨some 21, .lenl (.tmp 20), none⟩,
    ⟨some 22, .bin .gtr (.tmp 21) (.con (.int .i64 100)), none⟩,
    ⟨some 23, .mov (.tmp 22), none⟩,
    ⟨some 24, .mov (.tmp 1), (some (23, false))⟩,
    ⟨some 25, .lens (.tmp 24), (some (23, false))⟩,
    ⟨some 26, .bin .gtr (.tmp 25) (.con (.int .i64 300)), (some (23, false))⟩,
    ⟨some 27, .pick (.tmp 23) (.con (.bool true)) (.tmp 26), none⟩])
  (.cond (.tmp 27) (.seq (.region [⟨some 6, .mov (.con (.bool true)), none⟩])
  (.ret)) (.skip)))
  (.seq (.region [⟨some 29, .mov (.tmp 1), none⟩,
    ⟨some 30, .pcall 13 [(.tmp 29)], none⟩,
    ⟨some 28, .take (.tmp 30), none⟩,
    ⟨some 31, .extract 28 0, none⟩,
    ⟨some 32, .extract 28 1, none⟩,
    ⟨some 7, .take (.tmp 31), none⟩,
    ⟨some 8, .mov (.tmp 32), none⟩])
  (.seq (.region [⟨some 34, .mov (.tmp 1), none⟩,
    ⟨some 35, .pcall 14 [(.tmp 34)], none⟩,
    ⟨some 33, .take (.tmp 35), none⟩,
    ⟨some 36, .extract 33 0, none⟩,
    ⟨some 37, .extract 33 1, none⟩,
    ⟨some 9, .take (.tmp 36), none⟩,
    ⟨some 10, .mov (.tmp 37), none⟩])
  (.seq (.seq (.region [⟨some 38, .mov (.tmp 0), none⟩,
    ⟨some 39, .pcall 15 [(.tmp 38)], none⟩,
    ⟨some 40, .mov (.tmp 0), none⟩,
    ⟨some 41, .pcall 16 [(.tmp 40)], none⟩,
    ⟨some 42, .eqb true (.tmp 39) (.tmp 41), none⟩,
    ⟨some 43, .mov (.tmp 42), none⟩,
    ⟨some 44, .mov (.tmp 0), (some (43, false))⟩,
    ⟨some 45, .pcall 17 [(.tmp 44)], (some (43, false))⟩,
    ⟨some 46, .mov (.tmp 0), (some (43, false))⟩,
    ⟨some 47, .pcall 18 [(.tmp 46)], (some (43, false))⟩,
    ⟨some 48, .bin .neq (.tmp 45) (.tmp 47), (some (43, false))⟩,
    ⟨some 49, .pick (.tmp 43) (.con (.bool true)) (.tmp 48), none⟩,
    ⟨some 50, .mov (.tmp 49), none⟩,
    ⟨some 51, .take (.tmp 7), (some (50, false))⟩,
    ⟨some 52, .take (.tmp 9), (some (50, false))⟩,
    ⟨some 53, .pcall 11 [(.tmp 51), (.tmp 52)], (some (50, false))⟩,
    ⟨some 54, .un .not (.tmp 53), (some (50, false))⟩,
    ⟨some 55, .pick (.tmp 50) (.con (.bool true)) (.tmp 54), none⟩,
    ⟨some 56, .mov (.tmp 55), none⟩,
    ⟨some 57, .mov (.tmp 8), (some (56, false))⟩,
    ⟨some 58, .mov (.tmp 10), (some (56, false))⟩,
    ⟨some 59, .eqb true (.tmp 57) (.tmp 58), (some (56, false))⟩,
    ⟨some 60, .pick (.tmp 56) (.con (.bool true)) (.tmp 59), none⟩])
  (.cond (.tmp 60) (.seq (.region [⟨some 6, .mov (.con (.bool false)), none⟩])
  (.ret)) (.skip)))
  (.seq (.region [⟨some 62, .mov (.tmp 0), none⟩,
    ⟨some 63, .pcall 19 [(.tmp 62)], none⟩,
    ⟨some 61, .take (.tmp 63), none⟩,
    ⟨some 64, .extract 61 0, none⟩,
    ⟨some 65, .extract 61 1, none⟩,
    ⟨some 66, .extract 61 2, none⟩,
    ⟨some 11, .take (.tmp 64), none⟩,
    ⟨some 12, .mov (.tmp 65), none⟩,
    ⟨some 13, .mov (.tmp 66), none⟩])
  (.seq (.seq (.region [⟨some 67, .mov (.tmp 13), none⟩,
    ⟨some 68, .mov (.tmp 0), none⟩,
    ⟨some 69, .lenl (.tmp 68), none⟩,
    ⟨some 70, .bin .gtr (.tmp 69) (.con (.int .i64 0)), none⟩,
    ⟨some 71, .eqb true (.tmp 67) (.tmp 70), none⟩,
    ⟨some 72, .mov (.tmp 71), none⟩,
    ⟨some 73, .mov (.tmp 13), (some (72, false))⟩,
    ⟨some 74, .mov (.tmp 73), (some (72, false))⟩,
    ⟨some 75, .mov (.tmp 12), (some (74, true))⟩,
    ⟨some 76, .mov (.tmp 0), (some (74, true))⟩,
    ⟨some 77, .mov (.tmp 0), (some (74, true))⟩,
    ⟨some 78, .lenl (.tmp 77), (some (74, true))⟩,
    ⟨some 79, .bin .sub (.tmp 78) (.con (.int .i64 1)), (some (74, true))⟩,
    ⟨some 80, .iaddr 1 none (.tmp 76) (.tmp 79), (some (74, true))⟩,
    ⟨some 81, .load none (.tmp 80), (some (74, true))⟩,
    ⟨some 82, .bin .neq (.tmp 75) (.tmp 81), (some (74, true))⟩,
    ⟨some 83, .mov (.tmp 82), (some (74, true))⟩,
    ⟨some 84, .mov (.tmp 11), (some (83, false))⟩,
    ⟨some 85, .mov (.tmp 0), (some (83, false))⟩,
    ⟨some 86, .mov (.tmp 0), (some (83, false))⟩,
    ⟨some 87, .lenl (.tmp 86), (some (83, false))⟩,
    ⟨some 88, .bin .sub (.tmp 87) (.con (.int .i64 1)), (some (83, false))⟩,
    ⟨some 89, .slice (some 1) (.tmp 85) none (some (.tmp 88)) none, (some (83, false))⟩,
    ⟨some 90, .pcall 11 [(.tmp 84), (.tmp 89)], (some (83, false))⟩,
    ⟨some 91, .un .not (.tmp 90), (some (83, false))⟩,
    ⟨some 92, .pick (.tmp 83) (.con (.bool true)) (.tmp 91), (some (74, true))⟩,
    ⟨some 93, .pick (.tmp 74) (.tmp 92) (.con (.bool false)), (some (72, false))⟩,
    ⟨some 94, .pick (.tmp 72) (.con (.bool true)) (.tmp 93), none⟩,
    ⟨some 95, .mov (.tmp 94), none⟩,
    ⟨some 96, .mov (.tmp 13), (some (95, false))⟩,
    ⟨some 97, .un .not (.tmp 96), (some (95, false))⟩,
    ⟨some 98, .mov (.tmp 97), (some (95, false))⟩,
    ⟨some 99, .mov (.tmp 12), (some (98, true))⟩,
    ⟨some 100, .bin .neq (.tmp 99) (.con (.int .i64 0)), (some (98, true))⟩,
    ⟨some 101, .mov (.tmp 100), (some (98, true))⟩,
    ⟨some 102, .take (.tmp 11), (some (101, false))⟩,
    ⟨some 103, .lenl (.tmp 102), (some (101, false))⟩,
    ⟨some 104, .bin .neq (.tmp 103) (.con (.int .i64 0)), (some (101, false))⟩,
    ⟨some 105, .pick (.tmp 101) (.con (.bool true)) (.tmp 104), (some (98, true))⟩,
    ⟨some 106, .pick (.tmp 98) (.tmp 105) (.con (.bool false)), (some (95, false))⟩,
    ⟨some 107, .pick (.tmp 95) (.con (.bool true)) (.tmp 106), none⟩])
  (.cond (.tmp 107) (.seq (.region [⟨some 6, .mov (.con (.bool false)), none⟩])
  (.ret)) (.skip)))
  (.seq (.region [⟨some 109, .mov (.tmp 0), none⟩,
    ⟨some 110, .mov (.tmp 2), none⟩,
    ⟨some 111, .pcall 20 [(.tmp 109), (.tmp 110)], none⟩,
    ⟨some 108, .take (.tmp 111), none⟩,
    ⟨some 112, .extract 108 0, none⟩,
    ⟨some 113, .extract 108 1, none⟩,
    ⟨some 14, .take (.tmp 112), none⟩,
    ⟨some 15, .mov (.tmp 113), none⟩])
  (.seq (.region [⟨some 114, .bslice 1 false [], none⟩,
    ⟨some 115, .mov (.tmp 0), none⟩,
    ⟨some 116, .append 1 8 false (.tmp 114) (.tmp 115), none⟩,
    ⟨some 117, .mov (.tmp 2), none⟩,
    ⟨some 118, .bslice 1 false [(.tmp 117)], none⟩,
    ⟨some 119, .append 1 8 false (.tmp 116) (.tmp 118), none⟩,
    ⟨some 16, .take (.tmp 119), none⟩])
  (.seq (.region [⟨some 120, .build [.sl .ex []] [], none⟩,
    ⟨some 121, .box (.tmp 120), none⟩,
    ⟨some 17, .mov (.tmp 121), none⟩])
  (.seq (.region [⟨some 122, .mov (.tmp 17), none⟩,
    ⟨some 123, .mov (.tmp 0), none⟩,
    ⟨some 124, .call 21 [(.tmp 122), (.tmp 123)], none⟩])
  (.seq (.region [⟨some 125, .mov (.tmp 15), none⟩,
    ⟨some 126, .mov (.tmp 16), none⟩,
    ⟨some 127, .pcall 16 [(.tmp 126)], none⟩,
    ⟨some 128, .eqb false (.tmp 125) (.tmp 127), none⟩,
    ⟨some 129, .mov (.tmp 128), none⟩,
    ⟨some 130, .mov (.tmp 15), (some (129, true))⟩,
    ⟨some 131, .un .not (.tmp 130), (some (129, true))⟩,
    ⟨some 132, .mov (.tmp 131), (some (129, true))⟩,
    ⟨some 133, .mov (.tmp 14), (some (132, false))⟩,
    ⟨some 134, .mov (.tmp 16), (some (132, false))⟩,
    ⟨some 135, .pcall 11 [(.tmp 133), (.tmp 134)], (some (132, false))⟩,
    ⟨some 136, .pick (.tmp 132) (.con (.bool true)) (.tmp 135), (some (129, true))⟩,
    ⟨some 137, .pick (.tmp 129) (.tmp 136) (.con (.bool false)), none⟩,
    ⟨some 138, .mov (.tmp 137), none⟩,
    ⟨some 139, .mov (.tmp 15), (some (138, true))⟩,
    ⟨some 140, .mov (.tmp 139), (some (138, true))⟩,
    ⟨some 141, .mov (.tmp 14), (some (140, false))⟩,
    ⟨some 142, .lenl (.tmp 141), (some (140, false))⟩,
    ⟨some 143, .bin .eql (.tmp 142) (.con (.int .i64 0)), (some (140, false))⟩,
    ⟨some 144, .pick (.tmp 140) (.con (.bool true)) (.tmp 143), (some (138, true))⟩,
    ⟨some 145, .pick (.tmp 138) (.tmp 144) (.con (.bool false)), none⟩,
    ⟨some 146, .mov (.tmp 145), none⟩,
    ⟨some 147, .mov (.tmp 17), (some (146, true))⟩,
    ⟨some 148, .call 22 [(.tmp 147)], (some (146, true))⟩,
    ⟨some 149, .cBytesStr (.tmp 148), (some (146, true))⟩,
    ⟨some 150, .mov (.tmp 0), (some (146, true))⟩,
    ⟨some 151, .pcall 23 [(.tmp 150)], (some (146, true))⟩,
    ⟨some 152, .bin .eql (.tmp 149) (.tmp 151), (some (146, true))⟩,
    ⟨some 153, .pick (.tmp 146) (.tmp 152) (.con (.bool false)), none⟩,
    ⟨some 6, .mov (.tmp 153), none⟩])
  (.ret))))))))))))),
  [.tmp 6]⟩
theorem is_regencylaw08_PathTells : IsFn Tryd.prog 4 c_regencylaw08_PathTells := isFn_of [([], []), ([], [0]), ([], []), ([], []), ([], []), ([], []), ([], []), ([], [1, 2, 5]), ([], [1, 2, 5]), ([], [1, 3, 7, 9, 13, 14, 15]), ([], []), ([], []), ([], [1, 2, 6]), ([], [23, 35]), ([], []), ([], []), ([], [2, 3, 6]), ([], [6]), ([], []), ([], []), ([], [2, 10, 26]), ([], [])] (by kernel_rfl)

/-- regency/regencylaw08.PathBack -/
def c_regencylaw08_PathBack : CFn := ⟨127, .seq (.region [⟨some 6, .mov (.con (.bool false)), none⟩])
  (.seq (.seq (.region [⟨some 17, .pcall 7 [], none⟩,
    ⟨some 18, .un .not (.tmp 17), none⟩])
  (.cond (.tmp 18) (.seq (.region [⟨some 6, .mov (.con (.bool false)), none⟩])
  (.ret)) (.skip)))
  (.seq (.seq (.region [⟨some 19, .mov (.tmp 0), none⟩,
    ⟨some 20, .pcall 15 [(.tmp 19)], none⟩,
    ⟨some 21, .un .not (.tmp 20), none⟩,
    ⟨some 22, .mov (.tmp 21), none⟩,
    ⟨some 23, .mov (.tmp 1), (some (22, false))⟩,
    ⟨some 24, .pcall 15 [(.tmp 23)], (some (22, false))⟩,
    ⟨some 25, .un .not (.tmp 24), (some (22, false))⟩,
    ⟨some 26, .pick (.tmp 22) (.con (.bool true)) (.tmp 25), none⟩])
  (.cond (.tmp 26) (.seq (.region [⟨some 6, .mov (.con (.bool true)), none⟩])
  (.ret)) (.skip)))
  (.seq (.region [⟨some 28, .mov (.tmp 0), none⟩,
    ⟨some 29, .pcall 17 [(.tmp 28)], none⟩,
    ⟨some 30, .pcall 13 [(.tmp 29)], none⟩,
    ⟨some 27, .take (.tmp 30), none⟩,
    ⟨some 31, .extract 27 0, none⟩,
    ⟨some 32, .extract 27 1, none⟩,
    ⟨some 7, .take (.tmp 31), none⟩,
    ⟨some 8, .mov (.tmp 32), none⟩])
  (.seq (.region [⟨some 33, .build [.sl .ex []] [], none⟩,
    ⟨some 34, .box (.tmp 33), none⟩,
    ⟨some 9, .mov (.tmp 34), none⟩])
  (.seq (.region [⟨some 35, .mov (.tmp 9), none⟩,
    ⟨some 36, .mov (.tmp 0), none⟩,
    ⟨some 37, .call 21 [(.tmp 35), (.tmp 36)], none⟩])
  (.seq (.region [⟨some 39, .mov (.tmp 9), none⟩,
    ⟨some 40, .call 22 [(.tmp 39)], none⟩,
    ⟨some 41, .call 8 [(.tmp 40)], none⟩,
    ⟨some 42, .call 9 [(.tmp 41)], none⟩,
    ⟨some 38, .take (.tmp 42), none⟩,
    ⟨some 43, .extract 38 0, none⟩,
    ⟨some 44, .extract 38 1, none⟩,
    ⟨some 10, .take (.tmp 43), none⟩,
    ⟨some 11, .mov (.tmp 44), none⟩])
  (.seq (.seq (.region [⟨some 45, .mov (.tmp 8), none⟩,
    ⟨some 46, .un .not (.tmp 45), none⟩,
    ⟨some 47, .mov (.tmp 46), none⟩,
    ⟨some 48, .mov (.tmp 11), (some (47, false))⟩,
    ⟨some 49, .bin .neq (.tmp 48) (.con (.int .i64 0)), (some (47, false))⟩,
    ⟨some 50, .pick (.tmp 47) (.con (.bool true)) (.tmp 49), none⟩,
    ⟨some 51, .mov (.tmp 50), none⟩,
    ⟨some 52, .take (.tmp 7), (some (51, false))⟩,
    ⟨some 53, .mov (.tmp 0), (some (51, false))⟩,
    ⟨some 54, .pcall 11 [(.tmp 52), (.tmp 53)], (some (51, false))⟩,
    ⟨some 55, .un .not (.tmp 54), (some (51, false))⟩,
    ⟨some 56, .pick (.tmp 51) (.con (.bool true)) (.tmp 55), none⟩,
    ⟨some 57, .mov (.tmp 56), none⟩,
    ⟨some 58, .take (.tmp 10), (some (57, false))⟩,
    ⟨some 59, .mov (.tmp 0), (some (57, false))⟩,
    ⟨some 60, .pcall 11 [(.tmp 58), (.tmp 59)], (some (57, false))⟩,
    ⟨some 61, .un .not (.tmp 60), (some (57, false))⟩,
    ⟨some 62, .pick (.tmp 57) (.con (.bool true)) (.tmp 61), none⟩])
  (.cond (.tmp 62) (.seq (.region [⟨some 6, .mov (.con (.bool false)), none⟩])
  (.ret)) (.skip)))
  (.seq (.seq (.region [⟨some 64, .mov (.tmp 0), none⟩,
    ⟨some 65, .mov (.tmp 2), none⟩,
    ⟨some 66, .pcall 20 [(.tmp 64), (.tmp 65)], none⟩,
    ⟨some 63, .take (.tmp 66), none⟩,
    ⟨some 67, .extract 63 0, none⟩,
    ⟨some 68, .extract 63 1, none⟩,
    ⟨some 12, .take (.tmp 67), none⟩,
    ⟨some 13, .mov (.tmp 68), none⟩])
  (.seq (.region [⟨some 69, .mov (.tmp 13), none⟩])
  (.cond (.tmp 69) (.seq (.region [⟨some 71, .mov (.tmp 12), none⟩,
    ⟨some 72, .pcall 19 [(.tmp 71)], none⟩,
    ⟨some 70, .take (.tmp 72), none⟩,
    ⟨some 73, .extract 70 0, none⟩,
    ⟨some 74, .extract 70 1, none⟩,
    ⟨some 75, .extract 70 2, none⟩,
    ⟨some 14, .take (.tmp 73), none⟩,
    ⟨some 15, .mov (.tmp 74), none⟩,
    ⟨some 16, .mov (.tmp 75), none⟩])
  (.seq (.region [⟨some 76, .take (.tmp 14), none⟩,
    ⟨some 77, .mov (.tmp 0), none⟩,
    ⟨some 78, .pcall 11 [(.tmp 76), (.tmp 77)], none⟩,
    ⟨some 79, .un .not (.tmp 78), none⟩,
    ⟨some 80, .mov (.tmp 79), none⟩,
    ⟨some 81, .mov (.tmp 15), (some (80, false))⟩,
    ⟨some 82, .mov (.tmp 2), (some (80, false))⟩,
    ⟨some 83, .bin .neq (.tmp 81) (.tmp 82), (some (80, false))⟩,
    ⟨some 84, .pick (.tmp 80) (.con (.bool true)) (.tmp 83), none⟩,
    ⟨some 85, .mov (.tmp 84), none⟩,
    ⟨some 86, .mov (.tmp 12), (some (85, false))⟩,
    ⟨some 87, .mov (.tmp 0), (some (85, false))⟩,
    ⟨some 88, .pcall 24 [(.tmp 86), (.tmp 87)], (some (85, false))⟩,
    ⟨some 89, .un .not (.tmp 88), (some (85, false))⟩,
    ⟨some 90, .pick (.tmp 85) (.con (.bool true)) (.tmp 89), none⟩,
    ⟨some 91, .mov (.tmp 90), none⟩,
    ⟨some 92, .mov (.tmp 0), (some (91, false))⟩,
    ⟨some 93, .take (.tmp 12), (some (91, false))⟩,
    ⟨some 94, .pcall 25 [(.tmp 92), (.tmp 93)], (some (91, false))⟩,
    ⟨some 95, .bin .neq (.tmp 94) (.con (.int .i64 (-1))), (some (91, false))⟩,
    ⟨some 96, .pick (.tmp 91) (.con (.bool true)) (.tmp 95), none⟩])
  (.cond (.tmp 96) (.seq (.region [⟨some 6, .mov (.con (.bool false)), none⟩])
  (.ret)) (.skip)))) (.skip))))
  (.seq (.region [⟨some 97, .mov (.tmp 0), none⟩,
    ⟨some 98, .mov (.tmp 1), none⟩,
    ⟨some 99, .pcall 25 [(.tmp 97), (.tmp 98)], none⟩,
    ⟨some 100, .mov (.tmp 1), none⟩,
    ⟨some 101, .mov (.tmp 0), none⟩,
    ⟨some 102, .pcall 25 [(.tmp 100), (.tmp 101)], none⟩,
    ⟨some 103, .un .neg (.tmp 102), none⟩,
    ⟨some 104, .bin .eql (.tmp 99) (.tmp 103), none⟩,
    ⟨some 105, .mov (.tmp 104), none⟩,
    ⟨some 106, .mov (.tmp 0), (some (105, true))⟩,
    ⟨some 107, .mov (.tmp 1), (some (105, true))⟩,
    ⟨some 108, .pcall 25 [(.tmp 106), (.tmp 107)], (some (105, true))⟩,
    ⟨some 109, .bin .eql (.tmp 108) (.con (.int .i64 0)), (some (105, true))⟩,
    ⟨some 110, .mov (.tmp 0), (some (105, true))⟩,
    ⟨some 111, .mov (.tmp 1), (some (105, true))⟩,
    ⟨some 112, .pcall 11 [(.tmp 110), (.tmp 111)], (some (105, true))⟩,
    ⟨some 113, .eqb false (.tmp 109) (.tmp 112), (some (105, true))⟩,
    ⟨some 114, .pick (.tmp 105) (.tmp 113) (.con (.bool false)), none⟩,
    ⟨some 115, .mov (.tmp 114), none⟩,
    ⟨some 116, .mov (.tmp 0), (some (115, true))⟩,
    ⟨some 117, .mov (.tmp 1), (some (115, true))⟩,
    ⟨some 118, .pcall 24 [(.tmp 116), (.tmp 117)], (some (115, true))⟩,
    ⟨some 119, .un .not (.tmp 118), (some (115, true))⟩,
    ⟨some 120, .mov (.tmp 119), (some (115, true))⟩,
    ⟨some 121, .take (.tmp 1), (some (120, false))⟩,
    ⟨some 122, .take (.tmp 0), (some (120, false))⟩,
    ⟨some 123, .pcall 25 [(.tmp 121), (.tmp 122)], (some (120, false))⟩,
    ⟨some 124, .bin .eql (.tmp 123) (.con (.int .i64 (-1))), (some (120, false))⟩,
    ⟨some 125, .pick (.tmp 120) (.con (.bool true)) (.tmp 124), (some (115, true))⟩,
    ⟨some 126, .pick (.tmp 115) (.tmp 125) (.con (.bool false)), none⟩,
    ⟨some 6, .mov (.tmp 126), none⟩])
  (.ret)))))))))),
  [.tmp 6]⟩
theorem is_regencylaw08_PathBack : IsFn Tryd.prog 5 c_regencylaw08_PathBack := isFn_of [([], []), ([], [0]), ([], []), ([], []), ([], [1, 5]), ([], []), ([], []), ([], [1, 2, 3, 6]), ([], []), ([], []), ([], [4, 7]), ([], [7, 9, 13, 15]), ([], []), ([], []), ([], [2, 3, 6]), ([], []), ([], [1, 2, 6]), ([], [0, 2, 12, 17, 18]), ([], []), ([], []), ([], [2, 5, 11, 15, 21, 24, 25, 26]), ([], [])] (by kernel_rfl)

/-- regency/regencylaw08.first -/
def c_regencylaw08_first : CFn := ⟨76, .seq (.region [⟨some 0, .mov (.con (.bool false)), none⟩])
  (.seq (.region [⟨some 11, .pcall 13 [(.con (.str ⟨#[49, 46, 51]⟩))], none⟩,
    ⟨some 10, .take (.tmp 11), none⟩,
    ⟨some 12, .extract 10 0, none⟩,
    ⟨some 13, .extract 10 1, none⟩,
    ⟨some 1, .take (.tmp 12), none⟩,
    ⟨some 2, .mov (.tmp 13), none⟩])
  (.seq (.region [⟨some 15, .mov (.tmp 1), none⟩,
    ⟨some 16, .pcall 19 [(.tmp 15)], none⟩,
    ⟨some 14, .take (.tmp 16), none⟩,
    ⟨some 17, .extract 14 0, none⟩,
    ⟨some 18, .extract 14 1, none⟩,
    ⟨some 19, .extract 14 2, none⟩,
    ⟨some 3, .take (.tmp 17), none⟩,
    ⟨some 4, .mov (.tmp 18), none⟩,
    ⟨some 5, .mov (.tmp 19), none⟩])
  (.seq (.region [⟨some 21, .mov (.tmp 3), none⟩,
    ⟨some 22, .pcall 20 [(.tmp 21), (.con (.int .i64 3))], none⟩,
    ⟨some 20, .take (.tmp 22), none⟩,
    ⟨some 23, .extract 20 0, none⟩,
    ⟨some 24, .extract 20 1, none⟩,
    ⟨some 6, .take (.tmp 23), none⟩,
    ⟨some 7, .mov (.tmp 24), none⟩])
  (.seq (.region [⟨some 26, .bslice 1 false [(.con (.int .u8 7))], none⟩,
    ⟨some 27, .call 8 [(.tmp 26)], none⟩,
    ⟨some 28, .call 9 [(.tmp 27)], none⟩,
    ⟨some 25, .take (.tmp 28), none⟩,
    ⟨some 29, .extract 25 0, none⟩,
    ⟨some 30, .extract 25 1, none⟩,
    ⟨some 8, .take (.tmp 29), none⟩,
    ⟨some 9, .mov (.tmp 30), none⟩])
  (.seq (.region [⟨some 31, .mov (.tmp 2), none⟩,
    ⟨some 32, .mov (.tmp 31), none⟩,
    ⟨some 33, .mov (.tmp 5), (some (32, true))⟩,
    ⟨some 34, .pick (.tmp 32) (.tmp 33) (.con (.bool false)), none⟩,
    ⟨some 35, .mov (.tmp 34), none⟩,
    ⟨some 36, .mov (.tmp 7), (some (35, true))⟩,
    ⟨some 37, .pick (.tmp 35) (.tmp 36) (.con (.bool false)), none⟩,
    ⟨some 38, .mov (.tmp 37), none⟩,
    ⟨some 39, .mov (.tmp 4), (some (38, true))⟩,
    ⟨some 40, .bin .eql (.tmp 39) (.con (.int .i64 3)), (some (38, true))⟩,
    ⟨some 41, .pick (.tmp 38) (.tmp 40) (.con (.bool false)), none⟩,
    ⟨some 42, .mov (.tmp 41), none⟩,
    ⟨some 43, .mov (.tmp 3), (some (42, true))⟩,
    ⟨some 44, .lenl (.tmp 43), (some (42, true))⟩,
    ⟨some 45, .bin .eql (.tmp 44) (.con (.int .i64 1)), (some (42, true))⟩,
    ⟨some 46, .pick (.tmp 42) (.tmp 45) (.con (.bool false)), none⟩,
    ⟨some 47, .mov (.tmp 46), none⟩,
    ⟨some 48, .take (.tmp 6), (some (47, true))⟩,
    ⟨some 49, .pcall 17 [(.tmp 48)], (some (47, true))⟩,
    ⟨some 50, .bin .eql (.tmp 49) (.con (.str ⟨#[49, 46, 51]⟩)), (some (47, true))⟩,
    ⟨some 51, .pick (.tmp 47) (.tmp 50) (.con (.bool false)), none⟩,
    ⟨some 52, .mov (.tmp 51), none⟩,
    ⟨some 53, .mov (.tmp 1), (some (52, true))⟩,
    ⟨some 54, .mov (.tmp 3), (some (52, true))⟩,
    ⟨some 55, .pcall 24 [(.tmp 53), (.tmp 54)], (some (52, true))⟩,
    ⟨some 56, .pick (.tmp 52) (.tmp 55) (.con (.bool false)), none⟩,
    ⟨some 57, .mov (.tmp 56), none⟩,
    ⟨some 58, .mov (.tmp 3), (some (57, true))⟩,
    ⟨some 59, .mov (.tmp 1), (some (57, true))⟩,
    ⟨some 60, .pcall 24 [(.tmp 58), (.tmp 59)], (some (57, true))⟩,
    ⟨some 61, .un .not (.tmp 60), (some (57, true))⟩,
    ⟨some 62, .pick (.tmp 57) (.tmp 61) (.con (.bool false)), none⟩,
    ⟨some 63, .mov (.tmp 62), none⟩,
    ⟨some 64, .take (.tmp 3), (some (63, true))⟩,
    ⟨some 65, .take (.tmp 1), (some (63, true))⟩,
    ⟨some 66, .pcall 25 [(.tmp 64), (.tmp 65)], (some (63, true))⟩,
    ⟨some 67, .bin .eql (.tmp 66) (.con (.int .i64 (-1))), (some (63, true))⟩,
    ⟨some 68, .pick (.tmp 63) (.tmp 67) (.con (.bool false)), none⟩,
    ⟨some 69, .mov (.tmp 68), none⟩,
    ⟨some 70, .mov (.tmp 9), (some (69, true))⟩,
    ⟨some 71, .bin .eql (.tmp 70) (.con (.int .i64 10)), (some (69, true))⟩,
    ⟨some 72, .pick (.tmp 69) (.tmp 71) (.con (.bool false)), none⟩,
    ⟨some 73, .mov (.tmp 72), none⟩,
    ⟨some 74, .pcall 15 [(.con (.sl .ex []))], (some (73, true))⟩,
    ⟨some 75, .pick (.tmp 73) (.tmp 74) (.con (.bool false)), none⟩,
    ⟨some 0, .mov (.tmp 75), none⟩])
  (.ret)))))),
  [.tmp 0]⟩
theorem is_regencylaw08_first : IsFn Tryd.prog 7 c_regencylaw08_first := isFn_of [([], []), ([], [0, 1, 4]), ([], [1, 2, 6]), ([], [1, 2, 5]), ([], [3, 6]), ([], [17, 18, 24, 29, 33, 34, 35, 43]), ([], [])] (by kernel_rfl)

/-- regency/tape.New -/
def c_tape_New : CFn := ⟨7, .seq (.region [⟨some 2, .mov (.con (.nilp)), none⟩])
  (.seq (.region [⟨some 3, .take (.tmp 0), none⟩,
    ⟨some 4, .pcall 33 [(.tmp 3)], none⟩,
    ⟨some 5, .build [.sl .ex [], .nili] [(0, 1, (.tmp 4))], none⟩,
    ⟨some 6, .box (.tmp 5), none⟩,
    ⟨some 2, .mov (.tmp 6), none⟩])
  (.ret)),
  [.tmp 2]⟩
theorem is_tape_New : IsFn Tryd.prog 8 c_tape_New := isFn_of [([], []), ([], [0, 1]), ([], [])] (by kernel_rfl)

abbrev s_path_Get_0 (v0 v4 v6 v7 : AV) : List AV := [v0, undefA, .any, .any, v4, .any, v6, v7, .any, .any, .any, .any, .any, .any, .any, undefA, undefA, undefA, undefA]
abbrev x_path_Get_0 (v0 v4 : AV) : List AV := [v0, undefA, .any, .any, v4, .any, .any, .any, .any, .any, .any, .any, .any, .any, .any, undefA, undefA, undefA, undefA]
abbrev l_path_Get_0 : CC := .kill [2, 3, 5, 8, 9, 10, 11, 12, 13, 14] (.seq (.region [⟨some 8, .bin .lss (.tmp 7) (.tmp 6), none⟩])
  (.seq (.cond (.tmp 8) (.skip) (.kill [6, 7, 8] (.exit 0)))
  (.seq (.block 1 (.region [⟨some 9, .take (.tmp 4), none⟩,
    ⟨some 10, .mov (.tmp 0), none⟩,
    ⟨some 11, .call 34 [(.tmp 10), (.con (.int .i64 1048576))], none⟩,
    ⟨some 12, .bslice 1 false [(.tmp 11)], none⟩,
    ⟨some 13, .append 1 8 false (.tmp 9) (.tmp 12), none⟩,
    ⟨some 4, .take (.tmp 13), none⟩]))
  (.region [⟨some 14, .bin .add (.tmp 7) (.con (.int .i64 1)), none⟩,
    ⟨some 7, .mov (.tmp 14), none⟩]))))
/-- regency/path.Get -/
def c_path_Get : CFn := ⟨19, .seq (.region [⟨some 2, .take (.con (.sl .ex [])), none⟩,
    ⟨some 3, .mov (.con (.int .i64 0)), none⟩])
  (.seq (.region [⟨some 4, .take (.con (.sl .ex [])), none⟩])
  (.seq (.seq (.region [⟨some 5, .mov (.tmp 0), none⟩,
    ⟨some 6, .call 34 [(.tmp 5), (.con (.int .i64 6))], none⟩,
    ⟨some 7, .mov (.con (.int .i64 0)), none⟩])
  (.block 0 (.kill [2, 3, 5, 8, 9, 10, 11, 12, 13, 14] (.loop l_path_Get_0))))
  (.seq (.seq (.region [⟨some 15, .mov (.tmp 0), none⟩,
    ⟨some 16, .call 35 [(.tmp 15)], none⟩,
    ⟨some 17, .isnil .ifc true (.tmp 16), none⟩])
  (.cond (.tmp 17) (.seq (.region [⟨some 2, .take (.con (.sl .ex [])), none⟩,
    ⟨some 3, .mov (.con (.int .i64 10)), none⟩])
  (.ret)) (.skip)))
  (.seq (.region [⟨some 18, .take (.tmp 4), none⟩,
    ⟨some 2, .take (.tmp 18), none⟩,
    ⟨some 3, .mov (.con (.int .i64 0)), none⟩])
  (.ret))))),
  [.tmp 2, .tmp 3]⟩
theorem is_path_Get : IsFn Tryd.prog 9 c_path_Get := isFn_of [([], [0]), ([], [0]), ([], []), ([2, 3, 5, 8, 9, 10, 11, 12, 13, 14], []), ([], []), ([6, 7, 8], []), ([], [0, 5]), ([], []), ([], []), ([], [0]), ([], []), ([], [0, 1]), ([], [])] (by kernel_rfl)

abbrev s_regencyref08_Get_0 (v0 v4 v5 v6 : AV) : List AV := [v0, undefA, .any, .any, v4, v5, v6, .any, .any, .any, .any, .any, .any, .any, .any, .any, .any, .any, .any, undefA, undefA, undefA, undefA, undefA, undefA]
abbrev x_regencyref08_Get_0 (v0 v4 : AV) : List AV := [v0, undefA, .any, .any, v4, .any, .any, .any, .any, .any, .any, .any, .any, .any, .any, .any, .any, .any, .any, undefA, undefA, undefA, undefA, undefA, undefA]
abbrev l_regencyref08_Get_0 : CC := .kill [2, 3, 7, 8, 9, 10, 11, 12, 13, 14, 15, 16, 17, 18] (.seq (.seq (.region [⟨some 9, .mov (.tmp 6), none⟩,
    ⟨some 10, .mov (.tmp 5), none⟩,
    ⟨some 11, .bin .lss (.tmp 9) (.tmp 10), none⟩])
  (.cond (.tmp 11) (.skip) (.kill [5, 6, 9, 10, 11] (.exit 0))))
  (.seq (.block 1 (.region [⟨some 14, .take (.tmp 4), none⟩,
    ⟨some 15, .mov (.tmp 0), none⟩,
    ⟨some 16, .call 36 [(.tmp 15), (.con (.int .i64 1048576))], none⟩,
    ⟨some 17, .bslice 1 false [(.tmp 16)], none⟩,
    ⟨some 18, .append 1 8 false (.tmp 14) (.tmp 17), none⟩,
    ⟨some 4, .take (.tmp 18), none⟩]))
  (.region [⟨some 12, .mov (.tmp 6), none⟩,
    ⟨some 13, .bin .add (.tmp 12) (.con (.int .i64 1)), none⟩,
    ⟨some 6, .mov (.tmp 13), none⟩])))
/-- regency/regencyref08.Get -/
def c_regencyref08_Get : CFn := ⟨25, .seq (.region [⟨some 2, .take (.con (.sl .ex [])), none⟩,
    ⟨some 3, .mov (.con (.int .i64 0)), none⟩])
  (.seq (.region [⟨some 4, .take (.con (.sl .ex [])), none⟩])
  (.seq (.region [⟨some 7, .mov (.tmp 0), none⟩,
    ⟨some 8, .call 36 [(.tmp 7), (.con (.int .i64 6))], none⟩,
    ⟨some 5, .mov (.tmp 8), none⟩])
  (.seq (.seq (.region [⟨some 6, .mov (.con (.int .i64 0)), none⟩])
  (.block 0 (.kill [2, 3, 7, 8, 9, 10, 11, 12, 13, 14, 15, 16, 17, 18] (.loop l_regencyref08_Get_0))))
  (.seq (.seq (.region [⟨some 19, .mov (.tmp 0), none⟩,
    ⟨some 20, .nilck (.tmp 19), none⟩,
    ⟨some 21, .faddr 1 (.tmp 20), none⟩,
    ⟨some 22, .load none (.tmp 21), none⟩,
    ⟨some 23, .bin .neq (.tmp 22) (.con (.int .i64 0)), none⟩])
  (.cond (.tmp 23) (.seq (.region [⟨some 2, .take (.con (.sl .ex [])), none⟩,
    ⟨some 3, .mov (.con (.int .i64 10)), none⟩])
  (.ret)) (.skip)))
  (.seq (.region [⟨some 24, .take (.tmp 4), none⟩,
    ⟨some 2, .take (.tmp 24), none⟩,
    ⟨some 3, .mov (.con (.int .i64 0)), none⟩])
  (.ret)))))),
  [.tmp 2, .tmp 3]⟩
theorem is_regencyref08_Get : IsFn Tryd.prog 10 c_regencyref08_Get := isFn_of [([], [0]), ([], [0]), ([], []), ([], []), ([2, 3, 7, 8, 9, 10, 11, 12, 13, 14, 15, 16, 17, 18], []), ([], []), ([5, 6, 9, 10, 11], []), ([], [0, 5]), ([], []), ([], []), ([], [0]), ([], []), ([], [0, 1]), ([], [])] (by kernel_rfl)

abbrev s_regencyref08_Same_0 (v0 v1 v12 v13 : AV) : List AV := [v0, v1, undefA, undefA, .any, .any, .any, .any, .any, .any, .any, .any, v12, v13, .any, .any, .any, .any, .any, .any, .any, .any, .any, .any, .any, .any]
abbrev x_regencyref08_Same_0  : List AV := [.any, .any, undefA, undefA, .any, .any, .any, .any, .any, .any, .any, .any, .any, .any, .any, .any, .any, .any, .any, .any, .any, .any, .any, .any, .any, .any]
abbrev l_regencyref08_Same_0 : CC := .kill [4, 5, 6, 7, 8, 9, 10, 11, 14, 15, 16, 17, 18, 19, 20, 21, 22, 23, 24, 25] (.seq (.region [⟨some 14, .bin .lss (.tmp 13) (.tmp 12), none⟩])
  (.seq (.cond (.tmp 14) (.skip) (.kill [0, 1, 12, 13, 14] (.exit 0)))
  (.seq (.block 1 (.seq (.region [⟨some 15, .mov (.tmp 13), none⟩,
    ⟨some 5, .mov (.tmp 15), none⟩])
  (.seq (.region [⟨some 16, .mov (.tmp 0), none⟩,
    ⟨some 17, .mov (.tmp 5), none⟩,
    ⟨some 18, .iaddr 1 none (.tmp 16) (.tmp 17), none⟩,
    ⟨some 19, .load none (.tmp 18), none⟩,
    ⟨some 20, .mov (.tmp 1), none⟩,
    ⟨some 21, .mov (.tmp 5), none⟩,
    ⟨some 22, .iaddr 1 none (.tmp 20) (.tmp 21), none⟩,
    ⟨some 23, .load none (.tmp 22), none⟩,
    ⟨some 24, .bin .neq (.tmp 19) (.tmp 23), none⟩])
  (.cond (.tmp 24) (.seq (.region [⟨some 4, .mov (.con (.bool false)), none⟩])
  (.ret)) (.skip)))))
  (.region [⟨some 25, .bin .add (.tmp 13) (.con (.int .i64 1)), none⟩,
    ⟨some 13, .mov (.tmp 25), none⟩]))))
/-- regency/regencyref08.Same -/
def c_regencyref08_Same : CFn := ⟨26, .seq (.region [⟨some 4, .mov (.con (.bool false)), none⟩])
  (.seq (.seq (.region [⟨some 6, .mov (.tmp 0), none⟩,
    ⟨some 7, .lenl (.tmp 6), none⟩,
    ⟨some 8, .mov (.tmp 1), none⟩,
    ⟨some 9, .lenl (.tmp 8), none⟩,
    ⟨some 10, .bin .neq (.tmp 7) (.tmp 9), none⟩])
  (.cond (.tmp 10) (.seq (.region [⟨some 4, .mov (.con (.bool false)), none⟩])
  (.ret)) (.skip)))
  (.seq (.seq (.region [⟨some 11, .mov (.tmp 0), none⟩,
    ⟨some 12, .lenl (.tmp 11), none⟩,
    ⟨some 13, .mov (.con (.int .i64 0)), none⟩])
  (.block 0 (.kill [4, 5, 6, 7, 8, 9, 10, 11, 14, 15, 16, 17, 18, 19, 20, 21, 22, 23, 24, 25] (.loop l_regencyref08_Same_0))))
  (.seq (.region [⟨some 4, .mov (.con (.bool true)), none⟩])
  (.ret)))),
  [.tmp 4]⟩
theorem is_regencyref08_Same : IsFn Tryd.prog 11 c_regencyref08_Same := isFn_of [([], []), ([], []), ([], []), ([], []), ([], []), ([4, 5, 6, 7, 8, 9, 10, 11, 14, 15, 16, 17, 18, 19, 20, 21, 22, 23, 24, 25], []), ([], []), ([0, 1, 12, 13, 14], []), ([], []), ([], []), ([], []), ([], []), ([], []), ([], []), ([], [])] (by kernel_rfl)

/-- (*regency/tape.Tape).Left -/
def c_tape_Tape_Left : CFn := ⟨10, .seq (.region [⟨some 2, .mov (.con (.int .i64 0)), none⟩])
  (.seq (.seq (.region [⟨some 3, .mov (.tmp 0), none⟩,
    ⟨some 4, .isnil .ptr false (.tmp 3), none⟩])
  (.cond (.tmp 4) (.seq (.region [⟨some 2, .mov (.con (.int .i64 0)), none⟩])
  (.ret)) (.skip)))
  (.seq (.region [⟨some 5, .mov (.tmp 0), none⟩,
    ⟨some 6, .nilck (.tmp 5), none⟩,
    ⟨some 7, .faddr 0 (.tmp 6), none⟩,
    ⟨some 8, .load none (.tmp 7), none⟩,
    ⟨some 9, .lenl (.tmp 8), none⟩,
    ⟨some 2, .mov (.tmp 9), none⟩])
  (.ret))),
  [.tmp 2]⟩
theorem is_tape_Tape_Left : IsFn Tryd.prog 12 c_tape_Tape_Left := isFn_of [([], []), ([], []), ([], []), ([], []), ([], []), ([], [])] (by kernel_rfl)

abbrev l_path_Parse_1 : CC := .block 1 (.seq (.region [⟨some 14, .mov (.tmp 5), none⟩,
    ⟨some 15, .call 38 [(.tmp 14)], none⟩,
    ⟨some 13, .mov (.tmp 15), none⟩,
    ⟨some 16, .extract 13 0, none⟩,
    ⟨some 17, .extract 13 1, none⟩,
    ⟨some 6, .mov (.tmp 16), none⟩,
    ⟨some 7, .mov (.tmp 17), none⟩])
  (.seq (.seq (.region [⟨some 18, .mov (.tmp 7), none⟩,
    ⟨some 19, .isnil .ifc true (.tmp 18), none⟩,
    ⟨some 20, .mov (.tmp 19), none⟩,
    ⟨some 21, .load none (.tmp 4), (some (20, false))⟩,
    ⟨some 22, .lenl (.tmp 21), (some (20, false))⟩,
    ⟨some 23, .bin .eql (.tmp 22) (.con (.int .i64 6)), (some (20, false))⟩,
    ⟨some 24, .pick (.tmp 20) (.con (.bool true)) (.tmp 23), none⟩])
  (.cond (.tmp 24) (.seq (.region [⟨none, .store 1 (.tmp 2) (.con (.sl .ex [])), none⟩,
    ⟨none, .store 1 (.tmp 3) (.con (.bool false)), none⟩])
  (.ret)) (.skip)))
  (.region [⟨some 25, .ltake (.tmp 4), none⟩,
    ⟨some 26, .mov (.tmp 6), none⟩,
    ⟨some 27, .bslice 1 false [(.tmp 26)], none⟩,
    ⟨some 28, .append 1 8 false (.tmp 25) (.tmp 27), none⟩,
    ⟨none, .store 1 (.tmp 4) (.tmp 28), none⟩])))
abbrev l_path_Parse_0 : CC := .region [⟨some 5, .mov (.tmp 12), none⟩]
/-- regency/path.Parse -/
def c_path_Parse : CFn := ⟨39, .seq (.region [⟨some 2, .alloc [.sl .ex []], none⟩,
    ⟨some 3, .alloc [.bool false], none⟩])
  (.seq (.seq (.region [⟨some 8, .mov (.tmp 0), none⟩,
    ⟨some 9, .bin .eql (.tmp 8) (.con (.str ⟨#[]⟩)), none⟩])
  (.cond (.tmp 9) (.seq (.region [⟨none, .store 1 (.tmp 2) (.con (.sl .ex [])), none⟩,
    ⟨none, .store 1 (.tmp 3) (.con (.bool true)), none⟩])
  (.ret)) (.skip)))
  (.seq (.region [⟨some 4, .alloc [.sl .ex []], none⟩])
  (.seq (.seq (.region [⟨some 10, .mov (.tmp 0), none⟩,
    ⟨some 11, .call 37 [(.tmp 10), (.con (.str ⟨#[46]⟩))], none⟩])
  (.block 0 (.rsplit (.tmp 11) 12 l_path_Parse_0 l_path_Parse_1)))
  (.seq (.seq (.region [⟨some 29, .load none (.tmp 4), none⟩,
    ⟨some 30, .pcall 15 [(.tmp 29)], none⟩,
    ⟨some 31, .un .not (.tmp 30), none⟩,
    ⟨some 32, .mov (.tmp 31), none⟩,
    ⟨some 33, .load none (.tmp 4), (some (32, false))⟩,
    ⟨some 34, .pcall 17 [(.tmp 33)], (some (32, false))⟩,
    ⟨some 35, .mov (.tmp 0), (some (32, false))⟩,
    ⟨some 36, .bin .neq (.tmp 34) (.tmp 35), (some (32, false))⟩,
    ⟨some 37, .pick (.tmp 32) (.con (.bool true)) (.tmp 36), none⟩])
  (.cond (.tmp 37) (.seq (.region [⟨none, .store 1 (.tmp 2) (.con (.sl .ex [])), none⟩,
    ⟨none, .store 1 (.tmp 3) (.con (.bool false)), none⟩])
  (.ret)) (.skip)))
  (.seq (.region [⟨some 38, .load none (.tmp 4), none⟩,
    ⟨none, .store 1 (.tmp 2) (.tmp 38), none⟩,
    ⟨none, .store 1 (.tmp 3) (.con (.bool true)), none⟩])
  (.ret)))))),
  [.cell 2 none, .cell 3 none]⟩
theorem is_path_Parse : IsFn Tryd.prog 13 c_path_Parse := isFn_of [([], []), ([], []), ([], []), ([], []), ([], []), ([], []), ([], []), ([], []), ([], []), ([], []), ([], []), ([], [0]), ([], [1, 5]), ([], []), ([], []), ([], []), ([], [])] (by kernel_rfl)

abbrev s_regencyref08_Parse_0 (v0 v4 v5 v6 v7 : AV) : List AV := [v0, undefA, .any, .any, v4, v5, v6, v7, .any, .any, .any, .any, .any, .any, .any, .any, .any, .any, .any, .any, .any, .any, .any, .any, .any, .any, .any, .any, .any, .any, .any, .any, .any, .any, .any, .any, .any, .any, .any, .any, .any, .any, .any, .any, .any, .any, .any, .any, .any, .any, .any, .any, .any, .any, undefA, undefA, undefA, undefA, undefA, undefA, undefA, undefA, undefA, undefA]
abbrev x_regencyref08_Parse_0 (v0 v4 : AV) : List AV := [v0, undefA, .any, .any, v4, .any, .any, .any, .any, .any, .any, .any, .any, .any, .any, .any, .any, .any, .any, .any, .any, .any, .any, .any, .any, .any, .any, .any, .any, .any, .any, .any, .any, .any, .any, .any, .any, .any, .any, .any, .any, .any, .any, .any, .any, .any, .any, .any, .any, .any, .any, .any, .any, .any, undefA, undefA, undefA, undefA, undefA, undefA, undefA, undefA, undefA, undefA]
abbrev x_regencyref08_Parse_1 (v0 v4 v5 v6 v7 : AV) : List AV := [v0, undefA, .any, .any, v4, v5, v6, v7, .any, .any, .any, .any, .any, .any, .any, .any, .any, .any, .any, .any, .any, .any, .any, .any, .any, .any, .any, .any, .any, .any, .any, .any, .any, .any, .any, .any, .any, .any, .any, .any, .any, .any, .any, .any, .any, .any, .any, .any, .any, .any, .any, .any, .any, .any, undefA, undefA, undefA, undefA, undefA, undefA, undefA, undefA, undefA, undefA]
abbrev l_regencyref08_Parse_0 : CC := .kill [2, 3, 8, 9, 10, 11, 12, 13, 14, 15, 16, 17, 18, 19, 20, 21, 22, 23, 24, 25, 26, 27, 28, 29, 30, 31, 32, 33, 34, 35, 36, 37, 38, 39, 40, 41, 42, 43, 44, 45, 46, 47, 48, 49, 50, 51, 52, 53] (.seq (.seq (.region [⟨some 10, .mov (.tmp 7), none⟩,
    ⟨some 11, .mov (.tmp 0), none⟩,
    ⟨some 12, .lens (.tmp 11), none⟩,
    ⟨some 13, .bin .leq (.tmp 10) (.tmp 12), none⟩])
  (.cond (.tmp 13) (.skip) (.kill [5, 6, 7, 10, 11, 12, 13] (.exit 0))))
  (.seq (.block 1 (.seq (.seq (.region [⟨some 16, .mov (.tmp 7), none⟩,
    ⟨some 17, .mov (.tmp 0), none⟩,
    ⟨some 18, .lens (.tmp 17), none⟩,
    ⟨some 19, .bin .eql (.tmp 16) (.tmp 18), none⟩,
    ⟨some 20, .mov (.tmp 19), none⟩,
    ⟨some 21, .mov (.tmp 0), (some (20, false))⟩,
    ⟨some 22, .mov (.tmp 7), (some (20, false))⟩,
    ⟨some 23, .idxs (.tmp 21) (.tmp 22), (some (20, false))⟩,
    ⟨some 24, .bin .eql (.tmp 23) (.con (.int .u8 46)), (some (20, false))⟩,
    ⟨some 25, .pick (.tmp 20) (.con (.bool true)) (.tmp 24), none⟩])
  (.cond (.tmp 25) (.seq (.region [⟨some 26, .take (.tmp 4), none⟩,
    ⟨some 27, .mov (.tmp 5), none⟩,
    ⟨some 28, .bslice 1 false [(.tmp 27)], none⟩,
    ⟨some 29, .append 1 8 false (.tmp 26) (.tmp 28), none⟩,
    ⟨some 4, .take (.tmp 29), none⟩])
  (.seq (.region [⟨some 5, .mov (.con (.int .i64 0)), none⟩])
  (.seq (.region [⟨some 6, .mov (.con (.int .i64 0)), none⟩])
  (.kill [10, 11, 12, 13, 16, 17, 18, 19, 20, 21, 22, 23, 24, 25, 26, 27, 28, 29] (.exit 1))))) (.skip)))
  (.seq (.region [⟨some 30, .mov (.tmp 6), none⟩,
    ⟨some 31, .bin .add (.tmp 30) (.con (.int .i64 1)), none⟩,
    ⟨some 6, .mov (.tmp 31), none⟩])
  (.seq (.seq (.region [⟨some 32, .mov (.tmp 0), none⟩,
    ⟨some 33, .mov (.tmp 7), none⟩,
    ⟨some 34, .idxs (.tmp 32) (.tmp 33), none⟩,
    ⟨some 35, .bin .lss (.tmp 34) (.con (.int .u8 48)), none⟩,
    ⟨some 36, .mov (.tmp 35), none⟩,
    ⟨some 37, .mov (.tmp 0), (some (36, false))⟩,
    ⟨some 38, .mov (.tmp 7), (some (36, false))⟩,
    ⟨some 39, .idxs (.tmp 37) (.tmp 38), (some (36, false))⟩,
    ⟨some 40, .bin .gtr (.tmp 39) (.con (.int .u8 57)), (some (36, false))⟩,
    ⟨some 41, .pick (.tmp 36) (.con (.bool true)) (.tmp 40), none⟩,
    ⟨some 42, .mov (.tmp 41), none⟩,
    ⟨some 43, .mov (.tmp 6), (some (42, false))⟩,
    ⟨some 44, .bin .gtr (.tmp 43) (.con (.int .i64 7)), (some (42, false))⟩,
    ⟨some 45, .pick (.tmp 42) (.con (.bool true)) (.tmp 44), none⟩])
  (.cond (.tmp 45) (.seq (.region [⟨some 2, .take (.con (.sl .ex [])), none⟩,
    ⟨some 3, .mov (.con (.bool false)), none⟩])
  (.ret)) (.skip)))
  (.region [⟨some 46, .mov (.tmp 5), none⟩,
    ⟨some 47, .bin .mul (.con (.int .i64 10)) (.tmp 46), none⟩,
    ⟨some 48, .mov (.tmp 0), none⟩,
    ⟨some 49, .mov (.tmp 7), none⟩,
    ⟨some 50, .idxs (.tmp 48) (.tmp 49), none⟩,
    ⟨some 51, .bin .sub (.tmp 50) (.con (.int .u8 48)), none⟩,
    ⟨some 52, .cInt .i64 (.tmp 51), none⟩,
    ⟨some 53, .bin .add (.tmp 47) (.tmp 52), none⟩,
    ⟨some 5, .mov (.tmp 53), none⟩])))))
  (.kill [10, 11, 12, 13, 16, 17, 18, 19, 20, 21, 22, 23, 24, 25, 30, 31, 32, 33, 34, 35, 36, 37, 38, 39, 40, 41, 42, 43, 44, 45, 46, 47, 48, 49, 50, 51, 52, 53] (.region [⟨some 14, .mov (.tmp 7), none⟩,
    ⟨some 15, .bin .add (.tmp 14) (.con (.int .i64 1)), none⟩,
    ⟨some 7, .mov (.tmp 15), none⟩]))))
/-- regency/regencyref08.Parse -/
def c_regencyref08_Parse : CFn := ⟨64, .seq (.region [⟨some 2, .take (.con (.sl .ex [])), none⟩,
    ⟨some 3, .mov (.con (.bool false)), none⟩])
  (.seq (.seq (.region [⟨some 8, .mov (.tmp 0), none⟩,
    ⟨some 9, .bin .eql (.tmp 8) (.con (.str ⟨#[]⟩)), none⟩])
  (.cond (.tmp 9) (.seq (.region [⟨some 2, .take (.con (.sl .ex [])), none⟩,
    ⟨some 3, .mov (.con (.bool true)), none⟩])
  (.ret)) (.skip)))
  (.seq (.region [⟨some 4, .take (.con (.sl .ex [])), none⟩])
  (.seq (.region [⟨some 5, .mov (.con (.int .i64 0)), none⟩,
    ⟨some 6, .mov (.con (.int .i64 0)), none⟩])
  (.seq (.seq (.region [⟨some 7, .mov (.con (.int .i64 0)), none⟩])
  (.block 0 (.kill [2, 3, 8, 9, 10, 11, 12, 13, 14, 15, 16, 17, 18, 19, 20, 21, 22, 23, 24, 25, 26, 27, 28, 29, 30, 31, 32, 33, 34, 35, 36, 37, 38, 39, 40, 41, 42, 43, 44, 45, 46, 47, 48, 49, 50, 51, 52, 53] (.loop l_regencyref08_Parse_0))))
  (.seq (.seq (.region [⟨some 54, .mov (.tmp 4), none⟩,
    ⟨some 55, .pcall 16 [(.tmp 54)], none⟩,
    ⟨some 56, .un .not (.tmp 55), none⟩,
    ⟨some 57, .mov (.tmp 56), none⟩,
    ⟨some 58, .mov (.tmp 4), (some (57, false))⟩,
    ⟨some 59, .pcall 18 [(.tmp 58)], (some (57, false))⟩,
    ⟨some 60, .mov (.tmp 0), (some (57, false))⟩,
    ⟨some 61, .bin .neq (.tmp 59) (.tmp 60), (some (57, false))⟩,
    ⟨some 62, .pick (.tmp 57) (.con (.bool true)) (.tmp 61), none⟩])
  (.cond (.tmp 62) (.seq (.region [⟨some 2, .take (.con (.sl .ex [])), none⟩,
    ⟨some 3, .mov (.con (.bool false)), none⟩])
  (.ret)) (.skip)))
  (.seq (.region [⟨some 63, .take (.tmp 4), none⟩,
    ⟨some 2, .take (.tmp 63), none⟩,
    ⟨some 3, .mov (.con (.bool true)), none⟩])
  (.ret))))))),
  [.tmp 2, .tmp 3]⟩
theorem is_regencyref08_Parse : IsFn Tryd.prog 14 c_regencyref08_Parse := isFn_of [([], [0]), ([], []), ([], [0]), ([], []), ([], [0]), ([], []), ([], []), ([2, 3, 8, 9, 10, 11, 12, 13, 14, 15, 16, 17, 18, 19, 20, 21, 22, 23, 24, 25, 26, 27, 28, 29, 30, 31, 32, 33, 34, 35, 36, 37, 38, 39, 40, 41, 42, 43, 44, 45, 46, 47, 48, 49, 50, 51, 52, 53], []), ([], []), ([5, 6, 7, 10, 11, 12, 13], []), ([], []), ([], [0, 4]), ([], []), ([], []), ([10, 11, 12, 13, 16, 17, 18, 19, 20, 21, 22, 23, 24, 25, 26, 27, 28, 29], []), ([], []), ([], []), ([], [0]), ([], []), ([], []), ([10, 11, 12, 13, 16, 17, 18, 19, 20, 21, 22, 23, 24, 25, 30, 31, 32, 33, 34, 35, 36, 37, 38, 39, 40, 41, 42, 43, 44, 45, 46, 47, 48, 49, 50, 51, 52, 53], []), ([], [1, 5]), ([], [0]), ([], []), ([], [0, 1]), ([], [])] (by kernel_rfl)

/-- regency/path.Right -/
def c_path_Right : CFn := ⟨11, .seq (.region [⟨some 2, .mov (.con (.bool false)), none⟩])
  (.seq (.region [⟨some 3, .mov (.tmp 0), none⟩,
    ⟨some 4, .lenl (.tmp 3), none⟩,
    ⟨some 5, .bin .leq (.tmp 4) (.con (.int .i64 6)), none⟩,
    ⟨some 6, .mov (.tmp 5), none⟩,
    ⟨some 7, .take (.tmp 0), (some (6, true))⟩,
    ⟨some 8, .call 39 [(.tmp 7), (.con (.fn (.func 40) [] []))], (some (6, true))⟩,
    ⟨some 9, .un .not (.tmp 8), (some (6, true))⟩,
    ⟨some 10, .pick (.tmp 6) (.tmp 9) (.con (.bool false)), none⟩,
    ⟨some 2, .mov (.tmp 10), none⟩])
  (.ret)),
  [.tmp 2]⟩
theorem is_path_Right : IsFn Tryd.prog 15 c_path_Right := isFn_of [([], []), ([], [4]), ([], [])] (by kernel_rfl)

abbrev s_regencyref08_Right_0 (v0 v5 v6 v7 : AV) : List AV := [v0, undefA, .any, undefA, .any, v5, v6, v7, .any, .any, .any, .any, .any, .any, .any, .any, .any, .any, undefA, undefA, undefA]
abbrev x_regencyref08_Right_0 (v0 : AV) : List AV := [v0, undefA, .any, undefA, .any, .any, .any, .any, .any, .any, .any, .any, .any, .any, .any, .any, .any, .any, undefA, undefA, undefA]
abbrev l_regencyref08_Right_0 : CC := .kill [2, 4, 8, 9, 10, 11, 12, 13, 14, 15, 16, 17] (.seq (.region [⟨some 8, .bin .lss (.tmp 7) (.tmp 6), none⟩])
  (.seq (.cond (.tmp 8) (.skip) (.kill [5, 6, 7, 8] (.exit 0)))
  (.seq (.block 1 (.seq (.region [⟨some 9, .iaddr 1 none (.tmp 5) (.tmp 7), none⟩,
    ⟨some 10, .load none (.tmp 9), none⟩,
    ⟨some 4, .mov (.tmp 10), none⟩])
  (.seq (.region [⟨some 11, .mov (.tmp 4), none⟩,
    ⟨some 12, .bin .lss (.tmp 11) (.con (.int .i64 0)), none⟩,
    ⟨some 13, .mov (.tmp 12), none⟩,
    ⟨some 14, .mov (.tmp 4), (some (13, false))⟩,
    ⟨some 15, .bin .gtr (.tmp 14) (.con (.int .i64 1048576)), (some (13, false))⟩,
    ⟨some 16, .pick (.tmp 13) (.con (.bool true)) (.tmp 15), none⟩])
  (.cond (.tmp 16) (.seq (.region [⟨some 2, .mov (.con (.bool false)), none⟩])
  (.ret)) (.skip)))))
  (.region [⟨some 17, .bin .add (.tmp 7) (.con (.int .i64 1)), none⟩,
    ⟨some 7, .mov (.tmp 17), none⟩]))))
/-- regency/regencyref08.Right -/
def c_regencyref08_Right : CFn := ⟨21, .seq (.region [⟨some 2, .mov (.con (.bool false)), none⟩])
  (.seq (.seq (.region [⟨some 5, .mov (.tmp 0), none⟩,
    ⟨some 6, .lenl (.tmp 5), none⟩,
    ⟨some 7, .mov (.con (.int .i64 0)), none⟩])
  (.block 0 (.kill [2, 4, 8, 9, 10, 11, 12, 13, 14, 15, 16, 17] (.loop l_regencyref08_Right_0))))
  (.seq (.region [⟨some 18, .take (.tmp 0), none⟩,
    ⟨some 19, .lenl (.tmp 18), none⟩,
    ⟨some 20, .bin .leq (.tmp 19) (.con (.int .i64 6)), none⟩,
    ⟨some 2, .mov (.tmp 20), none⟩])
  (.ret))),
  [.tmp 2]⟩
theorem is_regencyref08_Right : IsFn Tryd.prog 16 c_regencyref08_Right := isFn_of [([], []), ([], []), ([2, 4, 8, 9, 10, 11, 12, 13, 14, 15, 16, 17], []), ([], []), ([5, 6, 7, 8], []), ([], []), ([], []), ([], []), ([], []), ([], []), ([], [0]), ([], [])] (by kernel_rfl)

/-- regency/path.Text -/
theorem ok_path_Text : OkDef Tryd.prog 17 (.prim ptextP) := ptext_ok (⟨Tryd.f17, Tryd.func17, by kernel_rfl, by kernel_rfl⟩ : Callable Tryd.prog 17) tab_ok

abbrev s_regencyref08_Text_0 (v3 v6 v7 v8 : AV) : List AV := [.any, undefA, .any, v3, .any, .any, v6, v7, v8, .any, .any, .any, .any, .any, .any, .any, .any, .any, .any, .any, .any, .any, undefA]
abbrev x_regencyref08_Text_0 (v3 : AV) : List AV := [.any, undefA, .any, v3, .any, .any, .any, .any, .any, .any, .any, .any, .any, .any, .any, .any, .any, .any, .any, .any, .any, .any, undefA]
abbrev l_regencyref08_Text_0 : CC := .kill [0, 2, 4, 5, 9, 10, 11, 12, 13, 14, 15, 16, 17, 18, 19, 20, 21] (.seq (.region [⟨some 9, .bin .lss (.tmp 8) (.tmp 7), none⟩])
  (.seq (.cond (.tmp 9) (.skip) (.kill [6, 7, 8, 9] (.exit 0)))
  (.seq (.block 1 (.seq (.region [⟨some 10, .mov (.tmp 8), none⟩,
    ⟨some 11, .iaddr 1 none (.tmp 6) (.tmp 8), none⟩,
    ⟨some 12, .load none (.tmp 11), none⟩,
    ⟨some 4, .mov (.tmp 10), none⟩,
    ⟨some 5, .mov (.tmp 12), none⟩])
  (.seq (.seq (.region [⟨some 13, .mov (.tmp 4), none⟩,
    ⟨some 14, .bin .gtr (.tmp 13) (.con (.int .i64 0)), none⟩])
  (.cond (.tmp 14) (.region [⟨some 15, .mov (.tmp 3), none⟩,
    ⟨some 16, .bin .add (.tmp 15) (.con (.str ⟨#[46]⟩)), none⟩,
    ⟨some 3, .mov (.tmp 16), none⟩]) (.skip)))
  (.region [⟨some 17, .mov (.tmp 3), none⟩,
    ⟨some 18, .mov (.tmp 5), none⟩,
    ⟨some 19, .pcall 46 [(.tmp 18)], none⟩,
    ⟨some 20, .bin .add (.tmp 17) (.tmp 19), none⟩,
    ⟨some 3, .mov (.tmp 20), none⟩]))))
  (.region [⟨some 21, .bin .add (.tmp 8) (.con (.int .i64 1)), none⟩,
    ⟨some 8, .mov (.tmp 21), none⟩]))))
/-- regency/regencyref08.Text -/
def c_regencyref08_Text : CFn := ⟨23, .seq (.region [⟨some 2, .mov (.con (.str ⟨#[]⟩)), none⟩])
  (.seq (.region [⟨some 3, .mov (.con (.str ⟨#[]⟩)), none⟩])
  (.seq (.seq (.region [⟨some 6, .take (.tmp 0), none⟩,
    ⟨some 7, .lenl (.tmp 6), none⟩,
    ⟨some 8, .mov (.con (.int .i64 0)), none⟩])
  (.block 0 (.kill [0, 2, 4, 5, 9, 10, 11, 12, 13, 14, 15, 16, 17, 18, 19, 20, 21] (.loop l_regencyref08_Text_0))))
  (.seq (.region [⟨some 22, .mov (.tmp 3), none⟩,
    ⟨some 2, .mov (.tmp 22), none⟩])
  (.ret)))),
  [.tmp 2]⟩
theorem is_regencyref08_Text : IsFn Tryd.prog 18 c_regencyref08_Text := isFn_of [([], []), ([], []), ([], [0]), ([0, 2, 4, 5, 9, 10, 11, 12, 13, 14, 15, 16, 17, 18, 19, 20, 21], []), ([], []), ([6, 7, 8, 9], []), ([], []), ([], []), ([], []), ([], [2]), ([], []), ([], []), ([], [])] (by kernel_rfl)

/-- regency/path.Parent -/
def c_path_Parent : CFn := ⟨19, .seq (.region [⟨some 2, .take (.con (.sl .ex [])), none⟩,
    ⟨some 3, .mov (.con (.int .i64 0)), none⟩,
    ⟨some 4, .mov (.con (.bool false)), none⟩])
  (.seq (.region [⟨some 6, .mov (.tmp 0), none⟩,
    ⟨some 7, .lenl (.tmp 6), none⟩,
    ⟨some 8, .bin .sub (.tmp 7) (.con (.int .i64 1)), none⟩,
    ⟨some 5, .mov (.tmp 8), none⟩])
  (.seq (.seq (.region [⟨some 9, .mov (.tmp 5), none⟩,
    ⟨some 10, .bin .lss (.tmp 9) (.con (.int .i64 0)), none⟩])
  (.cond (.tmp 10) (.seq (.region [⟨some 2, .take (.con (.sl .ex [])), none⟩,
    ⟨some 3, .mov (.con (.int .i64 0)), none⟩,
    ⟨some 4, .mov (.con (.bool false)), none⟩])
  (.ret)) (.skip)))
  (.seq (.region [⟨some 11, .mov (.tmp 0), none⟩,
    ⟨some 12, .mov (.tmp 5), none⟩,
    ⟨some 13, .slice (some 1) (.tmp 11) none (some (.tmp 12)) none, none⟩,
    ⟨some 14, .pcall 47 [(.tmp 13)], none⟩,
    ⟨some 15, .mov (.tmp 0), none⟩,
    ⟨some 16, .mov (.tmp 5), none⟩,
    ⟨some 17, .iaddr 1 none (.tmp 15) (.tmp 16), none⟩,
    ⟨some 18, .load none (.tmp 17), none⟩,
    ⟨some 2, .take (.tmp 14), none⟩,
    ⟨some 3, .mov (.tmp 18), none⟩,
    ⟨some 4, .mov (.con (.bool true)), none⟩])
  (.ret)))),
  [.tmp 2, .tmp 3, .tmp 4]⟩
theorem is_path_Parent : IsFn Tryd.prog 19 c_path_Parent := isFn_of [([], [0]), ([], []), ([], []), ([], [0]), ([], []), ([], [3, 8]), ([], [])] (by kernel_rfl)

/-- regency/path.Child -/
def c_path_Child : CFn := ⟨17, .seq (.region [⟨some 4, .take (.con (.sl .ex [])), none⟩,
    ⟨some 5, .mov (.con (.bool false)), none⟩])
  (.seq (.region [⟨some 7, .take (.tmp 0), none⟩,
    ⟨some 8, .pcall 47 [(.tmp 7)], none⟩,
    ⟨some 9, .pcall 48 [(.tmp 8)], none⟩,
    ⟨some 10, .mov (.tmp 1), none⟩,
    ⟨some 11, .bslice 1 false [(.tmp 10)], none⟩,
    ⟨some 12, .append 1 8 false (.tmp 9) (.tmp 11), none⟩,
    ⟨some 6, .take (.tmp 12), none⟩])
  (.seq (.seq (.region [⟨some 13, .mov (.tmp 6), none⟩,
    ⟨some 14, .pcall 15 [(.tmp 13)], none⟩,
    ⟨some 15, .un .not (.tmp 14), none⟩])
  (.cond (.tmp 15) (.seq (.region [⟨some 4, .take (.con (.sl .ex [])), none⟩,
    ⟨some 5, .mov (.con (.bool false)), none⟩])
  (.ret)) (.skip)))
  (.seq (.region [⟨some 16, .take (.tmp 6), none⟩,
    ⟨some 4, .take (.tmp 16), none⟩,
    ⟨some 5, .mov (.con (.bool true)), none⟩])
  (.ret)))),
  [.tmp 4, .tmp 5]⟩
theorem is_path_Child : IsFn Tryd.prog 20 c_path_Child := isFn_of [([], [0]), ([], [0, 1, 2, 6]), ([], [1]), ([], [0]), ([], []), ([], [0, 1]), ([], [])] (by kernel_rfl)

abbrev s_path_Put_0 (v0 v10 v11 v12 : AV) : List AV := [v0, .any, undefA, undefA, undefA, .any, .any, .any, .any, .any, v10, v11, v12, .any, .any, .any, .any, .any, .any, .any]
abbrev x_path_Put_0  : List AV := [.any, .any, undefA, undefA, undefA, .any, .any, .any, .any, .any, .any, .any, .any, .any, .any, .any, .any, .any, .any, .any]
abbrev l_path_Put_0 : CC := .kill [1, 5, 6, 7, 8, 9, 13, 14, 15, 16, 17, 18, 19] (.seq (.region [⟨some 13, .bin .lss (.tmp 12) (.tmp 11), none⟩])
  (.seq (.cond (.tmp 13) (.skip) (.kill [0, 10, 11, 12, 13] (.exit 0)))
  (.seq (.block 1 (.seq (.region [⟨some 14, .iaddr 1 none (.tmp 10) (.tmp 12), none⟩,
    ⟨some 15, .load none (.tmp 14), none⟩,
    ⟨some 5, .mov (.tmp 15), none⟩])
  (.region [⟨some 16, .mov (.tmp 0), none⟩,
    ⟨some 17, .mov (.tmp 5), none⟩,
    ⟨some 18, .call 49 [(.tmp 16), (.tmp 17)], none⟩])))
  (.region [⟨some 19, .bin .add (.tmp 12) (.con (.int .i64 1)), none⟩,
    ⟨some 12, .mov (.tmp 19), none⟩]))))
/-- regency/path.Put -/
def c_path_Put : CFn := ⟨20, .seq (.region [⟨some 6, .mov (.tmp 0), none⟩,
    ⟨some 7, .mov (.tmp 1), none⟩,
    ⟨some 8, .lenl (.tmp 7), none⟩,
    ⟨some 9, .call 49 [(.tmp 6), (.tmp 8)], none⟩])
  (.seq (.region [⟨some 10, .take (.tmp 1), none⟩,
    ⟨some 11, .lenl (.tmp 10), none⟩,
    ⟨some 12, .mov (.con (.int .i64 0)), none⟩])
  (.block 0 (.kill [1, 5, 6, 7, 8, 9, 13, 14, 15, 16, 17, 18, 19] (.loop l_path_Put_0)))),
  []⟩
theorem is_path_Put : IsFn Tryd.prog 21 c_path_Put := isFn_of [([], []), ([], [0]), ([1, 5, 6, 7, 8, 9, 13, 14, 15, 16, 17, 18, 19], []), ([], []), ([0, 10, 11, 12, 13], []), ([], []), ([], []), ([], [])] (by kernel_rfl)

/-- (*regency/tape.Pen).Bytes -/
def c_tape_Pen_Bytes : CFn := ⟨10, .seq (.region [⟨some 2, .take (.con (.sl .ex [])), none⟩])
  (.seq (.seq (.region [⟨some 3, .mov (.tmp 0), none⟩,
    ⟨some 4, .isnil .ptr false (.tmp 3), none⟩])
  (.cond (.tmp 4) (.seq (.region [⟨some 2, .take (.con (.sl .ex [])), none⟩])
  (.ret)) (.skip)))
  (.seq (.region [⟨some 5, .mov (.tmp 0), none⟩,
    ⟨some 6, .nilck (.tmp 5), none⟩,
    ⟨some 7, .faddr 0 (.tmp 6), none⟩,
    ⟨some 8, .load none (.tmp 7), none⟩,
    ⟨some 9, .pcall 33 [(.tmp 8)], none⟩,
    ⟨some 2, .take (.tmp 9), none⟩])
  (.ret))),
  [.tmp 2]⟩
theorem is_tape_Pen_Bytes : IsFn Tryd.prog 22 c_tape_Pen_Bytes := isFn_of [([], [0]), ([], []), ([], [0]), ([], []), ([], [4, 5]), ([], [])] (by kernel_rfl)

abbrev s_regencyref08_Put_0 (v3 v9 v10 v11 : AV) : List AV := [.any, undefA, .any, v3, undefA, .any, .any, .any, .any, v9, v10, v11, .any, .any, .any, .any, .any, .any, .any, .any, .any, .any, .any, .any, .any, .any, undefA]
abbrev x_regencyref08_Put_0 (v3 : AV) : List AV := [.any, undefA, .any, v3, undefA, .any, .any, .any, .any, .any, .any, .any, .any, .any, .any, .any, .any, .any, .any, .any, .any, .any, .any, .any, .any, .any, undefA]
abbrev l_regencyref08_Put_0 : CC := .kill [0, 2, 5, 6, 7, 8, 12, 13, 14, 15, 16, 17, 18, 19, 20, 21, 22, 23, 24, 25] (.seq (.region [⟨some 12, .bin .lss (.tmp 11) (.tmp 10), none⟩])
  (.seq (.cond (.tmp 12) (.skip) (.kill [9, 10, 11, 12] (.exit 0)))
  (.seq (.block 1 (.seq (.region [⟨some 13, .iaddr 1 none (.tmp 9) (.tmp 11), none⟩,
    ⟨some 14, .load none (.tmp 13), none⟩,
    ⟨some 5, .mov (.tmp 14), none⟩])
  (.seq (.region [⟨some 15, .mov (.tmp 5), none⟩,
    ⟨some 16, .bin .geq (.tmp 15) (.con (.int .i64 0)), none⟩,
    ⟨some 17, .mov (.tmp 16), none⟩,
    ⟨some 18, .mov (.tmp 5), (some (17, true))⟩,
    ⟨some 19, .bin .leq (.tmp 18) (.con (.int .i64 4611686018427387903)), (some (17, true))⟩,
    ⟨some 20, .pick (.tmp 17) (.tmp 19) (.con (.bool false)), none⟩])
  (.cond (.tmp 20) (.region [⟨some 21, .mov (.tmp 3), none⟩,
    ⟨some 22, .mov (.tmp 5), none⟩,
    ⟨some 23, .pcall 50 [(.tmp 22)], none⟩,
    ⟨some 24, .bin .add (.tmp 21) (.tmp 23), none⟩,
    ⟨some 3, .mov (.tmp 24), none⟩]) (.skip)))))
  (.region [⟨some 25, .bin .add (.tmp 11) (.con (.int .i64 1)), none⟩,
    ⟨some 11, .mov (.tmp 25), none⟩]))))
/-- regency/regencyref08.Put -/
def c_regencyref08_Put : CFn := ⟨27, .seq (.region [⟨some 2, .mov (.con (.str ⟨#[]⟩)), none⟩])
  (.seq (.region [⟨some 6, .mov (.tmp 0), none⟩,
    ⟨some 7, .lenl (.tmp 6), none⟩,
    ⟨some 8, .pcall 50 [(.tmp 7)], none⟩,
    ⟨some 3, .mov (.tmp 8), none⟩])
  (.seq (.seq (.region [⟨some 9, .take (.tmp 0), none⟩,
    ⟨some 10, .lenl (.tmp 9), none⟩,
    ⟨some 11, .mov (.con (.int .i64 0)), none⟩])
  (.block 0 (.kill [0, 2, 5, 6, 7, 8, 12, 13, 14, 15, 16, 17, 18, 19, 20, 21, 22, 23, 24, 25] (.loop l_regencyref08_Put_0))))
  (.seq (.region [⟨some 26, .mov (.tmp 3), none⟩,
    ⟨some 2, .mov (.tmp 26), none⟩])
  (.ret)))),
  [.tmp 2]⟩
theorem is_regencyref08_Put : IsFn Tryd.prog 23 c_regencyref08_Put := isFn_of [([], []), ([], [2]), ([], [0]), ([0, 2, 5, 6, 7, 8, 12, 13, 14, 15, 16, 17, 18, 19, 20, 21, 22, 23, 24, 25], []), ([], []), ([9, 10, 11, 12], []), ([], []), ([], []), ([], [2]), ([], []), ([], []), ([], [])] (by kernel_rfl)

/-- regency/path.Below -/
def c_path_Below : CFn := ⟨18, .seq (.region [⟨some 4, .mov (.con (.bool false)), none⟩])
  (.seq (.region [⟨some 5, .mov (.tmp 0), none⟩,
    ⟨some 6, .lenl (.tmp 5), none⟩,
    ⟨some 7, .mov (.tmp 1), none⟩,
    ⟨some 8, .lenl (.tmp 7), none⟩,
    ⟨some 9, .bin .gtr (.tmp 6) (.tmp 8), none⟩,
    ⟨some 10, .mov (.tmp 9), none⟩,
    ⟨some 11, .take (.tmp 0), (some (10, true))⟩,
    ⟨some 12, .mov (.tmp 1), (some (10, true))⟩,
    ⟨some 13, .lenl (.tmp 12), (some (10, true))⟩,
    ⟨some 14, .slice (some 1) (.tmp 11) none (some (.tmp 13)) none, (some (10, true))⟩,
    ⟨some 15, .take (.tmp 1), (some (10, true))⟩,
    ⟨some 16, .pcall 51 [(.tmp 14), (.tmp 15)], (some (10, true))⟩,
    ⟨some 17, .pick (.tmp 10) (.tmp 16) (.con (.bool false)), none⟩,
    ⟨some 4, .mov (.tmp 17), none⟩])
  (.ret)),
  [.tmp 4]⟩
theorem is_path_Below : IsFn Tryd.prog 24 c_path_Below := isFn_of [([], []), ([], [6, 10, 11]), ([], [])] (by kernel_rfl)

/-- regency/path.Compare -/
def c_path_Compare : CFn := ⟨8, .seq (.region [⟨some 4, .mov (.con (.int .i64 0)), none⟩])
  (.seq (.region [⟨some 5, .take (.tmp 0), none⟩,
    ⟨some 6, .take (.tmp 1), none⟩,
    ⟨some 7, .pcall 52 [(.tmp 5), (.tmp 6)], none⟩,
    ⟨some 4, .mov (.tmp 7), none⟩])
  (.ret)),
  [.tmp 4]⟩
theorem is_path_Compare : IsFn Tryd.prog 25 c_path_Compare := isFn_of [([], []), ([], [0, 1, 2]), ([], [])] (by kernel_rfl)

/-- slices.Clone[[]byte,byte] -/
def p_slices_Clone_byte_byte := cloneP 1 1
theorem ok_slices_Clone_byte_byte : OkDef Tryd.prog 33 (.prim p_slices_Clone_byte_byte) := clone_ok (hs0 := [([], [0])]) (hs2 := [([], [0])]) (hs4 := [([], [1, 3])]) (hs1 := []) (hs3 := []) (hs5 := []) Tryd.func33 rfl rfl (by kernel_rfl) rfl rfl rfl rfl rfl rfl rfl Tryd.underlying22 (by kernel_rfl) (by kernel_rfl) (by kernel_rfl)

/-- (*regency/tape.Tape).Number -/
def c_tape_Tape_Number : CFn := ⟨49, .seq (.region [⟨some 4, .mov (.con (.int .i64 0)), none⟩])
  (.seq (.seq (.region [⟨some 8, .mov (.tmp 0), none⟩,
    ⟨some 9, .isnil .ptr false (.tmp 8), none⟩,
    ⟨some 10, .mov (.tmp 9), none⟩,
    ⟨some 11, .mov (.tmp 0), (some (10, false))⟩,
    ⟨some 12, .nilck (.tmp 11), (some (10, false))⟩,
    ⟨some 13, .faddr 1 (.tmp 12), (some (10, false))⟩,
    ⟨some 14, .load none (.tmp 13), (some (10, false))⟩,
    ⟨some 15, .isnil .ifc true (.tmp 14), (some (10, false))⟩,
    ⟨some 16, .pick (.tmp 10) (.con (.bool true)) (.tmp 15), none⟩])
  (.cond (.tmp 16) (.seq (.region [⟨some 4, .mov (.con (.int .i64 0)), none⟩])
  (.ret)) (.skip)))
  (.seq (.region [⟨some 18, .mov (.tmp 0), none⟩,
    ⟨some 19, .call 60 [(.tmp 18)], none⟩,
    ⟨some 17, .mov (.tmp 19), none⟩,
    ⟨some 20, .extract 17 0, none⟩,
    ⟨some 21, .extract 17 1, none⟩,
    ⟨some 22, .extract 17 2, none⟩,
    ⟨some 5, .mov (.tmp 20), none⟩,
    ⟨some 6, .mov (.tmp 21), none⟩,
    ⟨some 7, .mov (.tmp 22), none⟩])
  (.seq (.block 0 (.seq (.region [⟨some 24, .mov (.tmp 7), none⟩,
    ⟨some 25, .bin .neq (.tmp 24) (.con (.int .i64 0)), none⟩,
    ⟨some 23, .mov (.tmp 25), none⟩])
  (.cond (.tmp 23) (.seq (.region [⟨some 26, .mov (.tmp 0), none⟩,
    ⟨some 27, .mov (.tmp 7), none⟩,
    ⟨some 28, .call 61 [(.tmp 26), (.tmp 27)], none⟩,
    ⟨some 4, .mov (.tmp 28), none⟩])
  (.ret)) (.seq (.region [⟨some 30, .mov (.tmp 5), none⟩,
    ⟨some 31, .bin .lss (.tmp 30) (.con (.int .i64 0)), none⟩,
    ⟨some 32, .mov (.tmp 31), none⟩,
    ⟨some 33, .mov (.tmp 5), (some (32, false))⟩,
    ⟨some 34, .mov (.tmp 1), (some (32, false))⟩,
    ⟨some 35, .bin .gtr (.tmp 33) (.tmp 34), (some (32, false))⟩,
    ⟨some 36, .pick (.tmp 32) (.con (.bool true)) (.tmp 35), none⟩,
    ⟨some 29, .mov (.tmp 36), none⟩])
  (.cond (.tmp 29) (.seq (.region [⟨some 37, .mov (.tmp 0), none⟩,
    ⟨some 38, .call 61 [(.tmp 37), (.con (.int .i64 13))], none⟩,
    ⟨some 4, .mov (.tmp 38), none⟩])
  (.ret)) (.skip))))))
  (.seq (.region [⟨some 39, .mov (.tmp 0), none⟩,
    ⟨some 40, .mov (.tmp 0), none⟩,
    ⟨some 41, .nilck (.tmp 40), none⟩,
    ⟨some 42, .faddr 0 (.tmp 41), none⟩,
    ⟨some 43, .load none (.tmp 42), none⟩,
    ⟨some 44, .mov (.tmp 6), none⟩,
    ⟨some 45, .slice (some 1) (.tmp 43) (some (.tmp 44)) none none, none⟩,
    ⟨some 46, .nilck (.tmp 39), none⟩,
    ⟨some 47, .faddr 0 (.tmp 46), none⟩,
    ⟨none, .store 1 (.tmp 47) (.tmp 45), none⟩])
  (.seq (.region [⟨some 48, .mov (.tmp 5), none⟩,
    ⟨some 4, .mov (.tmp 48), none⟩])
  (.ret)))))),
  [.tmp 4]⟩
theorem is_tape_Tape_Number : IsFn Tryd.prog 34 c_tape_Tape_Number := isFn_of [([], []), ([], []), ([], []), ([], []), ([], []), ([], []), ([], []), ([], []), ([], []), ([], []), ([], []), ([], []), ([], []), ([], [])] (by kernel_rfl)

/-- (*regency/tape.Tape).Err -/
def c_tape_Tape_Err : CFn := ⟨10, .seq (.region [⟨some 2, .mov (.con (.nili)), none⟩])
  (.seq (.seq (.region [⟨some 3, .mov (.tmp 0), none⟩,
    ⟨some 4, .isnil .ptr false (.tmp 3), none⟩])
  (.cond (.tmp 4) (.seq (.region [⟨some 5, .call 62 [(.con (.str ⟨#[116, 97, 112, 101]⟩)), (.con (.int .i64 1))], none⟩,
    ⟨some 2, .mov (.tmp 5), none⟩])
  (.ret)) (.skip)))
  (.seq (.region [⟨some 6, .mov (.tmp 0), none⟩,
    ⟨some 7, .nilck (.tmp 6), none⟩,
    ⟨some 8, .faddr 1 (.tmp 7), none⟩,
    ⟨some 9, .load none (.tmp 8), none⟩,
    ⟨some 2, .mov (.tmp 9), none⟩])
  (.ret))),
  [.tmp 2]⟩
theorem is_tape_Tape_Err : IsFn Tryd.prog 35 c_tape_Tape_Err := isFn_of [([], []), ([], []), ([], []), ([], []), ([], []), ([], [])] (by kernel_rfl)

abbrev s_regencyref03_Tape_Number_0 (v0 v1 v5 : AV) : List AV := [v0, v1, undefA, undefA, .any, v5, undefA, undefA, .any, .any, .any, .any, .any, .any, .any, .any, .any, .any, .any, .any, .any, .any, .any, .any, .any, .any, .any, .any, .any, .any, .any, .any, .any, .any, .any, undefA, undefA, undefA, undefA, undefA, undefA, undefA, undefA, undefA, undefA, undefA, undefA, undefA, undefA, undefA, undefA, undefA, undefA, undefA, undefA, undefA, undefA, undefA, undefA, undefA, undefA, undefA, undefA, undefA, undefA, undefA, undefA, undefA, undefA, undefA, undefA, undefA, undefA, undefA, undefA, undefA, undefA, undefA, undefA, undefA, undefA, undefA, undefA, undefA, undefA, undefA, undefA, undefA, undefA, undefA, undefA, undefA, undefA, undefA, undefA, undefA, undefA, undefA, undefA, undefA, undefA, undefA, undefA, undefA, undefA]
abbrev s_regencyref03_Tape_Number_1 (v0 v1 v5 v6 v7 : AV) : List AV := [v0, v1, undefA, undefA, .any, v5, v6, v7, .any, .any, .any, .any, .any, .any, .any, .any, .any, .any, .any, .any, .any, .any, .any, .any, .any, .any, .any, .any, .any, .any, .any, .any, .any, .any, .any, .any, .any, .any, .any, .any, .any, .any, .any, .any, .any, .any, undefA, undefA, undefA, undefA, undefA, undefA, undefA, undefA, .any, .any, .any, .any, .any, .any, .any, .any, .any, .any, .any, .any, .any, .any, .any, undefA, undefA, undefA, .any, .any, .any, .any, .any, .any, .any, .any, .any, .any, .any, .any, .any, .any, .any, .any, undefA, undefA, undefA, undefA, undefA, undefA, undefA, undefA, undefA, undefA, undefA, undefA, undefA, undefA, undefA, undefA, undefA]
abbrev x_regencyref03_Tape_Number_0 (v0 v1 v5 : AV) : List AV := [v0, v1, undefA, undefA, .any, v5, undefA, undefA, .any, .any, .any, .any, .any, .any, .any, .any, .any, .any, .any, .any, .any, .any, .any, .any, .any, .any, .any, .any, .any, .any, .any, .any, .any, .any, .any, undefA, undefA, undefA, undefA, undefA, undefA, undefA, undefA, undefA, undefA, undefA, undefA, undefA, undefA, undefA, undefA, undefA, undefA, undefA, undefA, undefA, undefA, undefA, undefA, undefA, undefA, undefA, undefA, undefA, undefA, undefA, undefA, undefA, undefA, undefA, undefA, undefA, undefA, undefA, undefA, undefA, undefA, undefA, undefA, undefA, undefA, undefA, undefA, undefA, undefA, undefA, undefA, undefA, undefA, undefA, undefA, undefA, undefA, undefA, undefA, undefA, undefA, undefA, undefA, undefA, undefA, undefA, undefA, undefA, undefA]
abbrev x_regencyref03_Tape_Number_2 (v0 v1 v5 v6 : AV) : List AV := [v0, v1, undefA, undefA, .any, v5, v6, .any, .any, .any, .any, .any, .any, .any, .any, .any, .any, .any, .any, .any, .any, .any, .any, .any, .any, .any, .any, .any, .any, .any, .any, .any, .any, .any, .any, .any, .any, .any, .any, .any, .any, .any, .any, .any, .any, .any, undefA, undefA, undefA, undefA, undefA, undefA, undefA, undefA, .any, .any, .any, .any, .any, .any, .any, .any, .any, .any, .any, .any, .any, .any, .any, undefA, undefA, undefA, .any, .any, .any, .any, .any, .any, .any, .any, .any, .any, .any, .any, .any, .any, .any, .any, undefA, undefA, undefA, undefA, undefA, undefA, undefA, undefA, undefA, undefA, undefA, undefA, undefA, undefA, undefA, undefA, undefA]
abbrev l_regencyref03_Tape_Number_1 : CC := .kill [35, 36, 37, 38, 39, 40, 41, 42, 43, 44, 45, 54, 55, 56, 57, 58, 59, 60, 61, 62, 63, 64, 65, 66, 67, 68, 72, 73, 74, 75, 76, 77, 78, 79, 80, 81, 82, 83, 84, 85, 86, 87] (.seq (.seq (.region [⟨some 73, .mov (.tmp 7), none⟩,
    ⟨some 74, .bin .geq (.tmp 73) (.con (.int .i64 0)), none⟩])
  (.cond (.tmp 74) (.skip) (.kill [7, 73, 74] (.exit 2))))
  (.seq (.block 3 (.region [⟨some 77, .mov (.tmp 6), none⟩,
    ⟨some 78, .bin .mul (.con (.int .i64 128)) (.tmp 77), none⟩,
    ⟨some 79, .mov (.tmp 0), none⟩,
    ⟨some 80, .nilck (.tmp 79), none⟩,
    ⟨some 81, .faddr 0 (.tmp 80), none⟩,
    ⟨some 82, .load none (.tmp 81), none⟩,
    ⟨some 83, .mov (.tmp 7), none⟩,
    ⟨some 84, .idxs (.tmp 82) (.tmp 83), none⟩,
    ⟨some 85, .cInt .i64 (.tmp 84), none⟩,
    ⟨some 86, .bin .rem (.tmp 85) (.con (.int .i64 128)), none⟩,
    ⟨some 87, .bin .add (.tmp 78) (.tmp 86), none⟩,
    ⟨some 6, .mov (.tmp 87), none⟩]))
  (.region [⟨some 75, .mov (.tmp 7), none⟩,
    ⟨some 76, .bin .sub (.tmp 75) (.con (.int .i64 1)), none⟩,
    ⟨some 7, .mov (.tmp 76), none⟩])))
abbrev l_regencyref03_Tape_Number_0 : CC := .kill [4, 8, 9, 10, 11, 12, 13, 14, 15, 16, 17, 18, 19, 20, 21, 22, 23, 24, 25, 26, 27, 28, 29, 30, 31, 32, 33, 34] (.seq (.seq (.region [⟨some 13, .mov (.tmp 5), none⟩,
    ⟨some 14, .mov (.tmp 0), none⟩,
    ⟨some 15, .nilck (.tmp 14), none⟩,
    ⟨some 16, .faddr 0 (.tmp 15), none⟩,
    ⟨some 17, .load none (.tmp 16), none⟩,
    ⟨some 18, .lens (.tmp 17), none⟩,
    ⟨some 19, .bin .lss (.tmp 13) (.tmp 18), none⟩,
    ⟨some 20, .mov (.tmp 19), none⟩,
    ⟨some 21, .mov (.tmp 5), (some (20, true))⟩,
    ⟨some 22, .bin .lss (.tmp 21) (.con (.int .i64 10)), (some (20, true))⟩,
    ⟨some 23, .pick (.tmp 20) (.tmp 22) (.con (.bool false)), none⟩,
    ⟨some 24, .mov (.tmp 23), none⟩,
    ⟨some 25, .mov (.tmp 0), (some (24, true))⟩,
    ⟨some 26, .nilck (.tmp 25), (some (24, true))⟩,
    ⟨some 27, .faddr 0 (.tmp 26), (some (24, true))⟩,
    ⟨some 28, .load none (.tmp 27), (some (24, true))⟩,
    ⟨some 29, .mov (.tmp 5), (some (24, true))⟩,
    ⟨some 30, .idxs (.tmp 28) (.tmp 29), (some (24, true))⟩,
    ⟨some 31, .bin .geq (.tmp 30) (.con (.int .u8 128)), (some (24, true))⟩,
    ⟨some 32, .pick (.tmp 24) (.tmp 31) (.con (.bool false)), none⟩])
  (.cond (.tmp 32) (.skip) (.kill [13, 14, 15, 16, 17, 18, 19, 20, 21, 22, 23, 24, 25, 26, 27, 28, 29, 30, 31, 32] (.exit 0))))
  (.block 1 (.region [⟨some 33, .mov (.tmp 5), none⟩,
    ⟨some 34, .bin .add (.tmp 33) (.con (.int .i64 1)), none⟩,
    ⟨some 5, .mov (.tmp 34), none⟩])))
/-- (*regency/regencyref03.Tape).Number -/
def c_regencyref03_Tape_Number : CFn := ⟨105, .seq (.region [⟨some 4, .mov (.con (.int .i64 0)), none⟩])
  (.seq (.seq (.region [⟨some 8, .mov (.tmp 0), none⟩,
    ⟨some 9, .nilck (.tmp 8), none⟩,
    ⟨some 10, .faddr 1 (.tmp 9), none⟩,
    ⟨some 11, .load none (.tmp 10), none⟩,
    ⟨some 12, .bin .neq (.tmp 11) (.con (.int .i64 0)), none⟩])
  (.cond (.tmp 12) (.seq (.region [⟨some 4, .mov (.con (.int .i64 0)), none⟩])
  (.ret)) (.skip)))
  (.seq (.region [⟨some 5, .mov (.con (.int .i64 0)), none⟩])
  (.seq (.block 0 (.kill [4, 8, 9, 10, 11, 12, 13, 14, 15, 16, 17, 18, 19, 20, 21, 22, 23, 24, 25, 26, 27, 28, 29, 30, 31, 32, 33, 34] (.loop l_regencyref03_Tape_Number_0)))
  (.seq (.seq (.region [⟨some 35, .mov (.tmp 5), none⟩,
    ⟨some 36, .mov (.tmp 0), none⟩,
    ⟨some 37, .nilck (.tmp 36), none⟩,
    ⟨some 38, .faddr 0 (.tmp 37), none⟩,
    ⟨some 39, .load none (.tmp 38), none⟩,
    ⟨some 40, .lens (.tmp 39), none⟩,
    ⟨some 41, .bin .eql (.tmp 35) (.tmp 40), none⟩,
    ⟨some 42, .mov (.tmp 41), none⟩,
    ⟨some 43, .mov (.tmp 5), (some (42, true))⟩,
    ⟨some 44, .bin .lss (.tmp 43) (.con (.int .i64 10)), (some (42, true))⟩,
    ⟨some 45, .pick (.tmp 42) (.tmp 44) (.con (.bool false)), none⟩])
  (.cond (.tmp 45) (.seq (.seq (.region [⟨some 46, .mov (.tmp 5), none⟩,
    ⟨some 47, .bin .eql (.tmp 46) (.con (.int .i64 9)), none⟩])
  (.cond (.tmp 47) (.seq (.region [⟨some 48, .mov (.tmp 0), none⟩,
    ⟨some 49, .nilck (.tmp 48), none⟩,
    ⟨some 50, .faddr 1 (.tmp 49), none⟩,
    ⟨none, .store 1 (.tmp 50) (.con (.int .i64 11)), none⟩])
  (.seq (.region [⟨some 4, .mov (.con (.int .i64 0)), none⟩])
  (.ret))) (.skip)))
  (.seq (.region [⟨some 51, .mov (.tmp 0), none⟩,
    ⟨some 52, .nilck (.tmp 51), none⟩,
    ⟨some 53, .faddr 1 (.tmp 52), none⟩,
    ⟨none, .store 1 (.tmp 53) (.con (.int .i64 11)), none⟩])
  (.seq (.region [⟨some 4, .mov (.con (.int .i64 0)), none⟩])
  (.ret)))) (.skip)))
  (.seq (.seq (.region [⟨some 54, .mov (.tmp 5), none⟩,
    ⟨some 55, .bin .geq (.tmp 54) (.con (.int .i64 9)), none⟩,
    ⟨some 56, .mov (.tmp 55), none⟩,
    ⟨some 57, .mov (.tmp 5), (some (56, false))⟩,
    ⟨some 58, .bin .gtr (.tmp 57) (.con (.int .i64 0)), (some (56, false))⟩,
    ⟨some 59, .mov (.tmp 58), (some (56, false))⟩,
    ⟨some 60, .mov (.tmp 0), (some (59, true))⟩,
    ⟨some 61, .nilck (.tmp 60), (some (59, true))⟩,
    ⟨some 62, .faddr 0 (.tmp 61), (some (59, true))⟩,
    ⟨some 63, .load none (.tmp 62), (some (59, true))⟩,
    ⟨some 64, .mov (.tmp 5), (some (59, true))⟩,
    ⟨some 65, .idxs (.tmp 63) (.tmp 64), (some (59, true))⟩,
    ⟨some 66, .bin .eql (.tmp 65) (.con (.int .u8 0)), (some (59, true))⟩,
    ⟨some 67, .pick (.tmp 59) (.tmp 66) (.con (.bool false)), (some (56, false))⟩,
    ⟨some 68, .pick (.tmp 56) (.con (.bool true)) (.tmp 67), none⟩])
  (.cond (.tmp 68) (.seq (.region [⟨some 69, .mov (.tmp 0), none⟩,
    ⟨some 70, .nilck (.tmp 69), none⟩,
    ⟨some 71, .faddr 1 (.tmp 70), none⟩,
    ⟨none, .store 1 (.tmp 71) (.con (.int .i64 10)), none⟩])
  (.seq (.region [⟨some 4, .mov (.con (.int .i64 0)), none⟩])
  (.ret))) (.skip)))
  (.seq (.region [⟨some 6, .mov (.con (.int .i64 0)), none⟩])
  (.seq (.seq (.region [⟨some 72, .mov (.tmp 5), none⟩,
    ⟨some 7, .mov (.tmp 72), none⟩])
  (.block 2 (.kill [35, 36, 37, 38, 39, 40, 41, 42, 43, 44, 45, 54, 55, 56, 57, 58, 59, 60, 61, 62, 63, 64, 65, 66, 67, 68, 72, 73, 74, 75, 76, 77, 78, 79, 80, 81, 82, 83, 84, 85, 86, 87] (.loop l_regencyref03_Tape_Number_1))))
  (.seq (.seq (.region [⟨some 88, .mov (.tmp 6), none⟩,
    ⟨some 89, .mov (.tmp 1), none⟩,
    ⟨some 90, .bin .gtr (.tmp 88) (.tmp 89), none⟩])
  (.cond (.tmp 90) (.seq (.region [⟨some 91, .mov (.tmp 0), none⟩,
    ⟨some 92, .nilck (.tmp 91), none⟩,
    ⟨some 93, .faddr 1 (.tmp 92), none⟩,
    ⟨none, .store 1 (.tmp 93) (.con (.int .i64 13)), none⟩])
  (.seq (.region [⟨some 4, .mov (.con (.int .i64 0)), none⟩])
  (.ret))) (.skip)))
  (.seq (.region [⟨some 94, .mov (.tmp 0), none⟩,
    ⟨some 95, .mov (.tmp 0), none⟩,
    ⟨some 96, .nilck (.tmp 95), none⟩,
    ⟨some 97, .faddr 0 (.tmp 96), none⟩,
    ⟨some 98, .load none (.tmp 97), none⟩,
    ⟨some 99, .mov (.tmp 5), none⟩,
    ⟨some 100, .bin .add (.tmp 99) (.con (.int .i64 1)), none⟩,
    ⟨some 101, .slice none (.tmp 98) (some (.tmp 100)) none none, none⟩,
    ⟨some 102, .nilck (.tmp 94), none⟩,
    ⟨some 103, .faddr 0 (.tmp 102), none⟩,
    ⟨none, .store 1 (.tmp 103) (.tmp 101), none⟩])
  (.seq (.region [⟨some 104, .mov (.tmp 6), none⟩,
    ⟨some 4, .mov (.tmp 104), none⟩])
  (.ret))))))))))),
  [.tmp 4]⟩
theorem is_regencyref03_Tape_Number : IsFn Tryd.prog 36 c_regencyref03_Tape_Number := isFn_of [([], []), ([], []), ([], []), ([], []), ([], []), ([4, 8, 9, 10, 11, 12, 13, 14, 15, 16, 17, 18, 19, 20, 21, 22, 23, 24, 25, 26, 27, 28, 29, 30, 31, 32, 33, 34], []), ([], []), ([13, 14, 15, 16, 17, 18, 19, 20, 21, 22, 23, 24, 25, 26, 27, 28, 29, 30, 31, 32], []), ([], []), ([], []), ([], []), ([], []), ([], []), ([], []), ([], []), ([], []), ([], []), ([], []), ([], []), ([], []), ([], []), ([], []), ([], []), ([35, 36, 37, 38, 39, 40, 41, 42, 43, 44, 45, 54, 55, 56, 57, 58, 59, 60, 61, 62, 63, 64, 65, 66, 67, 68, 72, 73, 74, 75, 76, 77, 78, 79, 80, 81, 82, 83, 84, 85, 86, 87], []), ([], []), ([7, 73, 74], []), ([], []), ([], []), ([], []), ([], []), ([], []), ([], []), ([], []), ([], []), ([], [])] (by kernel_rfl)

/-- strings.SplitSeq -/
def c_strings_SplitSeq : CFn := ⟨8, .seq (.region [⟨some 4, .mov (.con (.nilf)), none⟩])
  (.seq (.region [⟨some 5, .mov (.tmp 0), none⟩,
    ⟨some 6, .mov (.tmp 1), none⟩,
    ⟨some 7, .call 63 [(.tmp 5), (.tmp 6), (.con (.int .i64 0))], none⟩,
    ⟨some 4, .mov (.tmp 7), none⟩])
  (.ret)),
  [.tmp 4]⟩
theorem is_strings_SplitSeq : IsFn Tryd.prog 37 c_strings_SplitSeq := isFn_of [([], []), ([], []), ([], [])] (by kernel_rfl)

/-- strconv.Atoi -/
theorem ok_strconv_Atoi : OkDef Tryd.prog 38 (.prim (atoiP 126)) := atoi_ok (eb := 5) (⟨Tryd.f38, Tryd.func38, by kernel_rfl, by kernel_rfl⟩ : Callable Tryd.prog 38) (fun s hs v h w => Tryd.strconv_Atoi_ok s hs v h w) (fun s hs h w0 w hw hb => by obtain ⟨tp, q, hv⟩ := errvar_ok (P := Tryd.prog) (hw.2 0 (by decide)) hb (n := "strconv.ErrSyntax") (by kernel_rfl); refine (Tryd.strconv_Atoi_syntax_var s hs h tp q w hv).mono ?_; rintro e w' ⟨N, rfl, _, _, hb'⟩; exact ⟨N, rfl, hb'⟩) (fun s hs h w0 w hw hb => by obtain ⟨tp, q, hv⟩ := errvar_ok (P := Tryd.prog) (hw.2 1 (by decide)) hb (n := "strconv.ErrRange") (by kernel_rfl); refine (Tryd.strconv_Atoi_range_var s hs h tp q w hv).mono ?_; rintro e w' ⟨N, rfl, _, _, hb'⟩; exact ⟨N, rfl, hb'⟩)

/-- slices.ContainsFunc[[]int,int] -/
def c_slices_ContainsFunc_int_int : CFn := ⟨9, .seq (.region [⟨some 4, .mov (.con (.bool false)), none⟩])
  (.seq (.region [⟨some 5, .take (.tmp 0), none⟩,
    ⟨some 6, .mov (.tmp 1), none⟩,
    ⟨some 7, .call 66 [(.tmp 5), (.tmp 6)], none⟩,
    ⟨some 8, .bin .geq (.tmp 7) (.con (.int .i64 0)), none⟩,
    ⟨some 4, .mov (.tmp 8), none⟩])
  (.ret)),
  [.tmp 4]⟩
theorem is_slices_ContainsFunc_int_int : IsFn Tryd.prog 39 c_slices_ContainsFunc_int_int := isFn_of [([], []), ([], [0]), ([], [])] (by kernel_rfl)

/-- regency/path.Right$1 -/
def c_path_Right_1 : CFn := ⟨6, .seq (.region [⟨some 2, .mov (.con (.bool false)), none⟩])
  (.seq (.region [⟨some 3, .mov (.tmp 0), none⟩,
    ⟨some 4, .pcall 41 [(.tmp 3)], none⟩,
    ⟨some 5, .un .not (.tmp 4), none⟩,
    ⟨some 2, .mov (.tmp 5), none⟩])
  (.ret)),
  [.tmp 2]⟩
theorem is_path_Right_1 : IsFn Tryd.prog 40 c_path_Right_1 := isFn_of [([], []), ([], [1]), ([], [])] (by kernel_rfl)

/-- regency/path.number -/
def c_path_number : CFn := ⟨9, .seq (.region [⟨some 2, .mov (.con (.bool false)), none⟩])
  (.seq (.region [⟨some 3, .mov (.tmp 0), none⟩,
    ⟨some 4, .bin .geq (.tmp 3) (.con (.int .i64 0)), none⟩,
    ⟨some 5, .mov (.tmp 4), none⟩,
    ⟨some 6, .mov (.tmp 0), (some (5, true))⟩,
    ⟨some 7, .bin .leq (.tmp 6) (.con (.int .i64 1048576)), (some (5, true))⟩,
    ⟨some 8, .pick (.tmp 5) (.tmp 7) (.con (.bool false)), none⟩,
    ⟨some 2, .mov (.tmp 8), none⟩])
  (.ret)),
  [.tmp 2]⟩
theorem is_path_number : IsFn Tryd.prog 41 c_path_number := isFn_of [([], []), ([], []), ([], [])] (by kernel_rfl)

/-- strconv.Itoa -/
theorem ok_strconv_Itoa : OkDef Tryd.prog 44 (.prim itoaP) := itoa_ok (⟨Tryd.f44, Tryd.func44, by kernel_rfl, by kernel_rfl⟩ : Callable Tryd.prog 44) tab_ok (fun n h0 h1 w ht => Tryd.strconv_Itoa n h0 h1 w ht)

/-- regency/regencyref01.Num -/
def c_regencyref01_Num : CFn := ⟨5, .seq (.region [⟨some 2, .mov (.con (.str ⟨#[]⟩)), none⟩])
  (.seq (.region [⟨some 3, .mov (.tmp 0), none⟩,
    ⟨some 4, .pcall 69 [(.tmp 3)], none⟩,
    ⟨some 2, .mov (.tmp 4), none⟩])
  (.ret)),
  [.tmp 2]⟩
theorem is_regencyref01_Num : IsFn Tryd.prog 46 c_regencyref01_Num := isFn_of [([], []), ([], [1]), ([], [])] (by kernel_rfl)

/-- slices.Clone[[]int,int] -/
def p_slices_Clone_int_int := cloneP 1 8
theorem ok_slices_Clone_int_int : OkDef Tryd.prog 47 (.prim p_slices_Clone_int_int) := clone_ok (hs0 := [([], [0])]) (hs2 := [([], [0])]) (hs4 := [([], [1, 3])]) (hs1 := []) (hs3 := []) (hs5 := []) Tryd.func47 rfl rfl (by kernel_rfl) rfl rfl rfl rfl rfl rfl rfl Tryd.underlying29 (by kernel_rfl) (by kernel_rfl) (by kernel_rfl)

/-- slices.Clip[[]int,int] -/
def c_slices_Clip_int_int : CFn := ⟨9, .seq (.region [⟨some 2, .take (.con (.sl .ex [])), none⟩])
  (.seq (.region [⟨some 3, .mov (.tmp 0), none⟩,
    ⟨some 4, .mov (.tmp 0), none⟩,
    ⟨some 5, .lenl (.tmp 4), none⟩,
    ⟨some 6, .take (.tmp 0), none⟩,
    ⟨some 7, .lenl (.tmp 6), none⟩,
    ⟨some 8, .slice (some 1) (.tmp 3) none (some (.tmp 5)) (some (.tmp 7)), none⟩,
    ⟨some 2, .take (.tmp 8), none⟩])
  (.ret)),
  [.tmp 2]⟩
theorem is_slices_Clip_int_int : IsFn Tryd.prog 48 c_slices_Clip_int_int := isFn_of [([], [0]), ([], [3, 6]), ([], [])] (by kernel_rfl)

abbrev s_tape_Pen_Number_0 (v0 v1 : AV) : List AV := [v0, v1, undefA, undefA, .any, .any, .any, .any, .any, .any, .any, .any, .any, .any, .any, .any, .any, .any, .any, .any, .any, .any, .any, .any, .any, .any, .any, .any, .any, .any, .any, .any, undefA, undefA, undefA, undefA, undefA, undefA, undefA, undefA, undefA, undefA, undefA]
abbrev x_tape_Pen_Number_0 (v0 v1 : AV) : List AV := [v0, v1, undefA, undefA, .any, .any, .any, .any, .any, .any, .any, .any, .any, .any, .any, .any, .any, .any, .any, .any, .any, .any, .any, .any, .any, .any, .any, .any, .any, .any, .any, .any, undefA, undefA, undefA, undefA, undefA, undefA, undefA, undefA, undefA, undefA, undefA]
abbrev l_tape_Pen_Number_0 : CC := .kill [4, 5, 6, 7, 8, 9, 10, 11, 12, 13, 14, 15, 16, 17, 18, 19, 20, 21, 22, 23, 24, 25, 26, 27, 28, 29, 30, 31] (.seq (.seq (.region [⟨some 15, .mov (.tmp 1), none⟩,
    ⟨some 16, .bin .geq (.tmp 15) (.con (.int .i64 128)), none⟩])
  (.cond (.tmp 16) (.skip) (.kill [15, 16] (.exit 0))))
  (.block 1 (.seq (.region [⟨some 17, .mov (.tmp 0), none⟩,
    ⟨some 18, .mov (.tmp 0), none⟩,
    ⟨some 19, .nilck (.tmp 18), none⟩,
    ⟨some 20, .faddr 0 (.tmp 19), none⟩,
    ⟨some 21, .ltake (.tmp 20), none⟩,
    ⟨some 22, .mov (.tmp 1), none⟩,
    ⟨some 23, .bin .rem (.tmp 22) (.con (.int .i64 128)), none⟩,
    ⟨some 24, .bin .add (.tmp 23) (.con (.int .i64 128)), none⟩,
    ⟨some 25, .cInt .u8 (.tmp 24), none⟩,
    ⟨some 26, .bslice 1 false [(.tmp 25)], none⟩,
    ⟨some 27, .append 1 1 false (.tmp 21) (.tmp 26), none⟩,
    ⟨some 28, .nilck (.tmp 17), none⟩,
    ⟨some 29, .faddr 0 (.tmp 28), none⟩,
    ⟨none, .store 1 (.tmp 29) (.tmp 27), none⟩])
  (.region [⟨some 30, .mov (.tmp 1), none⟩,
    ⟨some 31, .bin .quo (.tmp 30) (.con (.int .i64 128)), none⟩,
    ⟨some 1, .mov (.tmp 31), none⟩]))))
/-- (*regency/tape.Pen).Number -/
def c_tape_Pen_Number : CFn := ⟨43, .seq (.region [⟨some 4, .mov (.con (.bool false)), none⟩])
  (.seq (.seq (.region [⟨some 5, .mov (.tmp 0), none⟩,
    ⟨some 6, .isnil .ptr false (.tmp 5), none⟩,
    ⟨some 7, .mov (.tmp 6), none⟩,
    ⟨some 8, .mov (.tmp 1), (some (7, false))⟩,
    ⟨some 9, .bin .lss (.tmp 8) (.con (.int .i64 0)), (some (7, false))⟩,
    ⟨some 10, .pick (.tmp 7) (.con (.bool true)) (.tmp 9), none⟩,
    ⟨some 11, .mov (.tmp 10), none⟩,
    ⟨some 12, .mov (.tmp 1), (some (11, false))⟩,
    ⟨some 13, .bin .gtr (.tmp 12) (.con (.int .i64 4611686018427387903)), (some (11, false))⟩,
    ⟨some 14, .pick (.tmp 11) (.con (.bool true)) (.tmp 13), none⟩])
  (.cond (.tmp 14) (.seq (.region [⟨some 4, .mov (.con (.bool false)), none⟩])
  (.ret)) (.skip)))
  (.seq (.block 0 (.kill [4, 5, 6, 7, 8, 9, 10, 11, 12, 13, 14, 15, 16, 17, 18, 19, 20, 21, 22, 23, 24, 25, 26, 27, 28, 29, 30, 31] (.loop l_tape_Pen_Number_0)))
  (.seq (.region [⟨some 32, .mov (.tmp 0), none⟩,
    ⟨some 33, .mov (.tmp 0), none⟩,
    ⟨some 34, .nilck (.tmp 33), none⟩,
    ⟨some 35, .faddr 0 (.tmp 34), none⟩,
    ⟨some 36, .ltake (.tmp 35), none⟩,
    ⟨some 37, .mov (.tmp 1), none⟩,
    ⟨some 38, .cInt .u8 (.tmp 37), none⟩,
    ⟨some 39, .bslice 1 false [(.tmp 38)], none⟩,
    ⟨some 40, .append 1 1 false (.tmp 36) (.tmp 39), none⟩,
    ⟨some 41, .nilck (.tmp 32), none⟩,
    ⟨some 42, .faddr 0 (.tmp 41), none⟩,
    ⟨none, .store 1 (.tmp 42) (.tmp 40), none⟩])
  (.seq (.region [⟨some 4, .mov (.con (.bool true)), none⟩])
  (.ret))))),
  [.tmp 4]⟩
theorem is_tape_Pen_Number : IsFn Tryd.prog 49 c_tape_Pen_Number := isFn_of [([], []), ([], []), ([], []), ([], []), ([4, 5, 6, 7, 8, 9, 10, 11, 12, 13, 14, 15, 16, 17, 18, 19, 20, 21, 22, 23, 24, 25, 26, 27, 28, 29, 30, 31], []), ([], []), ([15, 16], []), ([], [4]), ([], []), ([], [4]), ([], []), ([], [])] (by kernel_rfl)

/-- regency/regencyref03.Number -/
def c_regencyref03_Number : CFn := ⟨19, .seq (.region [⟨some 2, .mov (.con (.str ⟨#[]⟩)), none⟩])
  (.seq (.seq (.region [⟨some 3, .mov (.tmp 0), none⟩,
    ⟨some 4, .bin .lss (.tmp 3) (.con (.int .i64 128)), none⟩])
  (.cond (.tmp 4) (.seq (.region [⟨some 5, .mov (.tmp 0), none⟩,
    ⟨some 6, .cInt .u8 (.tmp 5), none⟩,
    ⟨some 7, .bslice 1 false [(.tmp 6)], none⟩,
    ⟨some 8, .cBytesStr (.tmp 7), none⟩,
    ⟨some 2, .mov (.tmp 8), none⟩])
  (.ret)) (.skip)))
  (.seq (.region [⟨some 9, .mov (.tmp 0), none⟩,
    ⟨some 10, .bin .rem (.tmp 9) (.con (.int .i64 128)), none⟩,
    ⟨some 11, .bin .add (.con (.int .i64 128)) (.tmp 10), none⟩,
    ⟨some 12, .cInt .u8 (.tmp 11), none⟩,
    ⟨some 13, .bslice 1 false [(.tmp 12)], none⟩,
    ⟨some 14, .cBytesStr (.tmp 13), none⟩,
    ⟨some 15, .mov (.tmp 0), none⟩,
    ⟨some 16, .bin .quo (.tmp 15) (.con (.int .i64 128)), none⟩,
    ⟨some 17, .pcall 50 [(.tmp 16)], none⟩,
    ⟨some 18, .bin .add (.tmp 14) (.tmp 17), none⟩,
    ⟨some 2, .mov (.tmp 18), none⟩])
  (.ret))),
  [.tmp 2]⟩
theorem is_regencyref03_Number : IsFn Tryd.prog 50 c_regencyref03_Number := isFn_of [([], []), ([], []), ([], []), ([], []), ([], [8]), ([], [])] (by kernel_rfl)

abbrev s_slices_Equal_int_int_0 (v0 v1 v12 v13 : AV) : List AV := [v0, v1, undefA, undefA, .any, .any, .any, .any, .any, .any, .any, .any, v12, v13, .any, .any, .any, .any, .any, .any, .any, .any, .any, .any, .any, .any]
abbrev x_slices_Equal_int_int_0  : List AV := [.any, .any, undefA, undefA, .any, .any, .any, .any, .any, .any, .any, .any, .any, .any, .any, .any, .any, .any, .any, .any, .any, .any, .any, .any, .any, .any]
abbrev l_slices_Equal_int_int_0 : CC := .kill [4, 5, 6, 7, 8, 9, 10, 11, 14, 15, 16, 17, 18, 19, 20, 21, 22, 23, 24, 25] (.seq (.region [⟨some 14, .bin .lss (.tmp 13) (.tmp 12), none⟩])
  (.seq (.cond (.tmp 14) (.skip) (.kill [0, 1, 12, 13, 14] (.exit 0)))
  (.seq (.block 1 (.seq (.region [⟨some 15, .mov (.tmp 13), none⟩,
    ⟨some 5, .mov (.tmp 15), none⟩])
  (.seq (.region [⟨some 16, .mov (.tmp 0), none⟩,
    ⟨some 17, .mov (.tmp 5), none⟩,
    ⟨some 18, .iaddr 1 none (.tmp 16) (.tmp 17), none⟩,
    ⟨some 19, .load none (.tmp 18), none⟩,
    ⟨some 20, .mov (.tmp 1), none⟩,
    ⟨some 21, .mov (.tmp 5), none⟩,
    ⟨some 22, .iaddr 1 none (.tmp 20) (.tmp 21), none⟩,
    ⟨some 23, .load none (.tmp 22), none⟩,
    ⟨some 24, .bin .neq (.tmp 19) (.tmp 23), none⟩])
  (.cond (.tmp 24) (.seq (.region [⟨some 4, .mov (.con (.bool false)), none⟩])
  (.ret)) (.skip)))))
  (.region [⟨some 25, .bin .add (.tmp 13) (.con (.int .i64 1)), none⟩,
    ⟨some 13, .mov (.tmp 25), none⟩]))))
/-- slices.Equal[[]int,int] -/
def c_slices_Equal_int_int : CFn := ⟨26, .seq (.region [⟨some 4, .mov (.con (.bool false)), none⟩])
  (.seq (.seq (.region [⟨some 6, .mov (.tmp 0), none⟩,
    ⟨some 7, .lenl (.tmp 6), none⟩,
    ⟨some 8, .mov (.tmp 1), none⟩,
    ⟨some 9, .lenl (.tmp 8), none⟩,
    ⟨some 10, .bin .neq (.tmp 7) (.tmp 9), none⟩])
  (.cond (.tmp 10) (.seq (.region [⟨some 4, .mov (.con (.bool false)), none⟩])
  (.ret)) (.skip)))
  (.seq (.seq (.region [⟨some 11, .mov (.tmp 0), none⟩,
    ⟨some 12, .lenl (.tmp 11), none⟩,
    ⟨some 13, .mov (.con (.int .i64 0)), none⟩])
  (.block 0 (.kill [4, 5, 6, 7, 8, 9, 10, 11, 14, 15, 16, 17, 18, 19, 20, 21, 22, 23, 24, 25] (.loop l_slices_Equal_int_int_0))))
  (.seq (.region [⟨some 4, .mov (.con (.bool true)), none⟩])
  (.ret)))),
  [.tmp 4]⟩
theorem is_slices_Equal_int_int : IsFn Tryd.prog 51 c_slices_Equal_int_int := isFn_of [([], []), ([], []), ([], []), ([], []), ([], []), ([4, 5, 6, 7, 8, 9, 10, 11, 14, 15, 16, 17, 18, 19, 20, 21, 22, 23, 24, 25], []), ([], []), ([0, 1, 12, 13, 14], []), ([], []), ([], []), ([], []), ([], []), ([], []), ([], []), ([], [])] (by kernel_rfl)

abbrev s_slices_Compare_int_int_0 (v0 v1 v9 v10 v11 : AV) : List AV := [v0, v1, undefA, undefA, .any, .any, .any, .any, .any, v9, v10, v11, .any, .any, .any, .any, .any, .any, .any, .any, .any, .any, .any, .any, .any, .any, .any, .any, .any, .any, .any, undefA, undefA, undefA, undefA, undefA]
abbrev x_slices_Compare_int_int_0 (v0 v1 : AV) : List AV := [v0, v1, undefA, undefA, .any, .any, .any, .any, .any, .any, .any, .any, .any, .any, .any, .any, .any, .any, .any, .any, .any, .any, .any, .any, .any, .any, .any, .any, .any, .any, .any, undefA, undefA, undefA, undefA, undefA]
abbrev l_slices_Compare_int_int_0 : CC := .kill [4, 5, 6, 7, 8, 12, 13, 14, 15, 16, 17, 18, 19, 20, 21, 22, 23, 24, 25, 26, 27, 28, 29, 30] (.seq (.region [⟨some 12, .bin .lss (.tmp 11) (.tmp 10), none⟩])
  (.seq (.cond (.tmp 12) (.skip) (.kill [9, 10, 11, 12] (.exit 0)))
  (.seq (.block 1 (.seq (.region [⟨some 13, .mov (.tmp 11), none⟩,
    ⟨some 14, .iaddr 1 none (.tmp 9) (.tmp 11), none⟩,
    ⟨some 15, .load none (.tmp 14), none⟩,
    ⟨some 5, .mov (.tmp 13), none⟩,
    ⟨some 6, .mov (.tmp 15), none⟩])
  (.seq (.seq (.region [⟨some 16, .mov (.tmp 5), none⟩,
    ⟨some 17, .mov (.tmp 1), none⟩,
    ⟨some 18, .lenl (.tmp 17), none⟩,
    ⟨some 19, .bin .geq (.tmp 16) (.tmp 18), none⟩])
  (.cond (.tmp 19) (.seq (.region [⟨some 4, .mov (.con (.int .i64 1)), none⟩])
  (.ret)) (.skip)))
  (.seq (.region [⟨some 20, .mov (.tmp 1), none⟩,
    ⟨some 21, .mov (.tmp 5), none⟩,
    ⟨some 22, .iaddr 1 none (.tmp 20) (.tmp 21), none⟩,
    ⟨some 23, .load none (.tmp 22), none⟩,
    ⟨some 7, .mov (.tmp 23), none⟩])
  (.seq (.region [⟨some 24, .mov (.tmp 6), none⟩,
    ⟨some 25, .mov (.tmp 7), none⟩,
    ⟨some 26, .pcall 70 [(.tmp 24), (.tmp 25)], none⟩,
    ⟨some 8, .mov (.tmp 26), none⟩])
  (.seq (.region [⟨some 27, .mov (.tmp 8), none⟩,
    ⟨some 28, .bin .neq (.tmp 27) (.con (.int .i64 0)), none⟩])
  (.cond (.tmp 28) (.seq (.region [⟨some 29, .mov (.tmp 8), none⟩,
    ⟨some 4, .mov (.tmp 29), none⟩])
  (.ret)) (.skip))))))))
  (.region [⟨some 30, .bin .add (.tmp 11) (.con (.int .i64 1)), none⟩,
    ⟨some 11, .mov (.tmp 30), none⟩]))))
/-- slices.Compare[[]int,int] -/
def c_slices_Compare_int_int : CFn := ⟨36, .seq (.region [⟨some 4, .mov (.con (.int .i64 0)), none⟩])
  (.seq (.seq (.region [⟨some 9, .mov (.tmp 0), none⟩,
    ⟨some 10, .lenl (.tmp 9), none⟩,
    ⟨some 11, .mov (.con (.int .i64 0)), none⟩])
  (.block 0 (.kill [4, 5, 6, 7, 8, 12, 13, 14, 15, 16, 17, 18, 19, 20, 21, 22, 23, 24, 25, 26, 27, 28, 29, 30] (.loop l_slices_Compare_int_int_0))))
  (.seq (.seq (.region [⟨some 31, .take (.tmp 0), none⟩,
    ⟨some 32, .lenl (.tmp 31), none⟩,
    ⟨some 33, .take (.tmp 1), none⟩,
    ⟨some 34, .lenl (.tmp 33), none⟩,
    ⟨some 35, .bin .lss (.tmp 32) (.tmp 34), none⟩])
  (.cond (.tmp 35) (.seq (.region [⟨some 4, .mov (.con (.int .i64 (-1))), none⟩])
  (.ret)) (.skip)))
  (.seq (.region [⟨some 4, .mov (.con (.int .i64 0)), none⟩])
  (.ret)))),
  [.tmp 4]⟩
theorem is_slices_Compare_int_int : IsFn Tryd.prog 52 c_slices_Compare_int_int := isFn_of [([], []), ([], []), ([4, 5, 6, 7, 8, 12, 13, 14, 15, 16, 17, 18, 19, 20, 21, 22, 23, 24, 25, 26, 27, 28, 29, 30], []), ([], []), ([9, 10, 11, 12], []), ([], []), ([], []), ([], []), ([], []), ([], []), ([], [2]), ([], []), ([], []), ([], []), ([], []), ([], [0, 2]), ([], []), ([], []), ([], []), ([], [])] (by kernel_rfl)

/-- (*regency/tape.Tape).Text -/
def c_tape_Tape_Text : CFn := ⟨61, .seq (.region [⟨some 4, .mov (.con (.str ⟨#[]⟩)), none⟩])
  (.seq (.seq (.region [⟨some 8, .mov (.tmp 0), none⟩,
    ⟨some 9, .isnil .ptr false (.tmp 8), none⟩,
    ⟨some 10, .mov (.tmp 9), none⟩,
    ⟨some 11, .mov (.tmp 0), (some (10, false))⟩,
    ⟨some 12, .nilck (.tmp 11), (some (10, false))⟩,
    ⟨some 13, .faddr 1 (.tmp 12), (some (10, false))⟩,
    ⟨some 14, .load none (.tmp 13), (some (10, false))⟩,
    ⟨some 15, .isnil .ifc true (.tmp 14), (some (10, false))⟩,
    ⟨some 16, .pick (.tmp 10) (.con (.bool true)) (.tmp 15), none⟩])
  (.cond (.tmp 16) (.seq (.region [⟨some 4, .mov (.con (.str ⟨#[]⟩)), none⟩])
  (.ret)) (.skip)))
  (.seq (.region [⟨some 17, .mov (.tmp 0), none⟩,
    ⟨some 18, .nilck (.tmp 17), none⟩,
    ⟨some 19, .faddr 0 (.tmp 18), none⟩,
    ⟨some 20, .load none (.tmp 19), none⟩,
    ⟨some 5, .take (.tmp 20), none⟩])
  (.seq (.region [⟨some 21, .mov (.tmp 0), none⟩,
    ⟨some 22, .mov (.tmp 1), none⟩,
    ⟨some 23, .call 34 [(.tmp 21), (.tmp 22)], none⟩,
    ⟨some 6, .mov (.tmp 23), none⟩])
  (.seq (.block 0 (.seq (.region [⟨some 25, .mov (.tmp 0), none⟩,
    ⟨some 26, .nilck (.tmp 25), none⟩,
    ⟨some 27, .faddr 1 (.tmp 26), none⟩,
    ⟨some 28, .load none (.tmp 27), none⟩,
    ⟨some 29, .isnil .ifc true (.tmp 28), none⟩,
    ⟨some 24, .mov (.tmp 29), none⟩])
  (.cond (.tmp 24) (.seq (.region [⟨some 4, .mov (.con (.str ⟨#[]⟩)), none⟩])
  (.ret)) (.seq (.region [⟨some 31, .mov (.tmp 6), none⟩,
    ⟨some 32, .mov (.tmp 0), none⟩,
    ⟨some 33, .nilck (.tmp 32), none⟩,
    ⟨some 34, .faddr 0 (.tmp 33), none⟩,
    ⟨some 35, .load none (.tmp 34), none⟩,
    ⟨some 36, .lenl (.tmp 35), none⟩,
    ⟨some 37, .bin .gtr (.tmp 31) (.tmp 36), none⟩,
    ⟨some 30, .mov (.tmp 37), none⟩])
  (.cond (.tmp 30) (.seq (.region [⟨some 38, .mov (.tmp 0), none⟩,
    ⟨some 39, .take (.tmp 5), none⟩,
    ⟨some 40, .nilck (.tmp 38), none⟩,
    ⟨some 41, .faddr 0 (.tmp 40), none⟩,
    ⟨none, .store 1 (.tmp 41) (.tmp 39), none⟩])
  (.seq (.region [⟨some 42, .mov (.tmp 0), none⟩,
    ⟨some 43, .call 61 [(.tmp 42), (.con (.int .i64 11))], none⟩])
  (.seq (.region [⟨some 4, .mov (.con (.str ⟨#[]⟩)), none⟩])
  (.ret)))) (.skip))))))
  (.seq (.region [⟨some 44, .mov (.tmp 0), none⟩,
    ⟨some 45, .nilck (.tmp 44), none⟩,
    ⟨some 46, .faddr 0 (.tmp 45), none⟩,
    ⟨some 47, .load none (.tmp 46), none⟩,
    ⟨some 48, .mov (.tmp 6), none⟩,
    ⟨some 49, .slice (some 1) (.tmp 47) none (some (.tmp 48)) none, none⟩,
    ⟨some 50, .cBytesStr (.tmp 49), none⟩,
    ⟨some 7, .mov (.tmp 50), none⟩])
  (.seq (.region [⟨some 51, .mov (.tmp 0), none⟩,
    ⟨some 52, .mov (.tmp 0), none⟩,
    ⟨some 53, .nilck (.tmp 52), none⟩,
    ⟨some 54, .faddr 0 (.tmp 53), none⟩,
    ⟨some 55, .load none (.tmp 54), none⟩,
    ⟨some 56, .mov (.tmp 6), none⟩,
    ⟨some 57, .slice (some 1) (.tmp 55) (some (.tmp 56)) none none, none⟩,
    ⟨some 58, .nilck (.tmp 51), none⟩,
    ⟨some 59, .faddr 0 (.tmp 58), none⟩,
    ⟨none, .store 1 (.tmp 59) (.tmp 57), none⟩])
  (.seq (.region [⟨some 60, .mov (.tmp 7), none⟩,
    ⟨some 4, .mov (.tmp 60), none⟩])
  (.ret)))))))),
  [.tmp 4]⟩
theorem is_tape_Tape_Text : IsFn Tryd.prog 58 c_tape_Tape_Text := isFn_of [([], []), ([], []), ([], []), ([], []), ([], [4]), ([], []), ([], []), ([], []), ([], []), ([], []), ([], [1]), ([], []), ([], []), ([], []), ([], []), ([], []), ([], []), ([], [])] (by kernel_rfl)

abbrev s_tape_Tape_number_0 (v5 v6 v12 v13 v14 : AV) : List AV := [.any, undefA, .any, .any, .any, v5, v6, .any, .any, .any, .any, .any, v12, v13, v14, .any, .any, .any, .any, .any, .any, .any, .any, .any, .any, .any, .any, .any, .any, .any, .any, .any, .any, .any, .any, .any, .any, .any, .any, .any, .any, .any, .any, .any, .any, .any, .any, .any, .any, .any]
abbrev x_tape_Tape_number_0  : List AV := [.any, undefA, .any, .any, .any, .any, .any, .any, .any, .any, .any, .any, .any, .any, .any, .any, .any, .any, .any, .any, .any, .any, .any, .any, .any, .any, .any, .any, .any, .any, .any, .any, .any, .any, .any, .any, .any, .any, .any, .any, .any, .any, .any, .any, .any, .any, .any, .any, .any, .any]
abbrev x_tape_Tape_number_1 (v5 v6 v12 v13 v14 : AV) : List AV := [.any, undefA, .any, .any, .any, v5, v6, .any, .any, .any, .any, .any, v12, v13, v14, .any, .any, .any, .any, .any, .any, .any, .any, .any, .any, .any, .any, .any, .any, .any, .any, .any, .any, .any, .any, .any, .any, .any, .any, .any, .any, .any, .any, .any, .any, .any, .any, .any, .any, .any]
abbrev l_tape_Tape_number_0 : CC := .kill [0, 2, 3, 4, 7, 8, 9, 10, 11, 15, 16, 17, 18, 19, 20, 21, 22, 23, 24, 25, 26, 27, 28, 29, 30, 31, 32, 33, 34, 35, 36, 37, 38, 39, 40, 41, 42, 43, 44, 45, 46, 47, 48, 49] (.seq (.region [⟨some 15, .bin .lss (.tmp 14) (.tmp 13), none⟩])
  (.seq (.cond (.tmp 15) (.skip) (.kill [5, 6, 12, 13, 14, 15] (.exit 0)))
  (.seq (.block 1 (.seq (.region [⟨some 16, .mov (.tmp 14), none⟩,
    ⟨some 17, .iaddr 1 none (.tmp 12) (.tmp 14), none⟩,
    ⟨some 18, .load none (.tmp 17), none⟩,
    ⟨some 7, .mov (.tmp 16), none⟩,
    ⟨some 8, .mov (.tmp 18), none⟩])
  (.seq (.block 2 (.seq (.region [⟨some 20, .mov (.tmp 7), none⟩,
    ⟨some 21, .bin .eql (.tmp 20) (.con (.int .i64 9)), none⟩,
    ⟨some 19, .mov (.tmp 21), none⟩])
  (.cond (.tmp 19) (.seq (.region [⟨some 2, .mov (.con (.int .i64 0)), none⟩,
    ⟨some 3, .mov (.con (.int .i64 0)), none⟩,
    ⟨some 4, .mov (.con (.int .i64 10)), none⟩])
  (.ret)) (.seq (.region [⟨some 23, .mov (.tmp 8), none⟩,
    ⟨some 24, .bin .geq (.tmp 23) (.con (.int .u8 128)), none⟩,
    ⟨some 22, .mov (.tmp 24), none⟩])
  (.cond (.tmp 22) (.seq (.region [⟨some 25, .mov (.tmp 5), none⟩,
    ⟨some 26, .mov (.tmp 8), none⟩,
    ⟨some 27, .bin .sub (.tmp 26) (.con (.int .u8 128)), none⟩,
    ⟨some 28, .cInt .i64 (.tmp 27), none⟩,
    ⟨some 29, .mov (.tmp 6), none⟩,
    ⟨some 30, .bin .mul (.tmp 28) (.tmp 29), none⟩,
    ⟨some 31, .bin .add (.tmp 25) (.tmp 30), none⟩,
    ⟨some 5, .mov (.tmp 31), none⟩])
  (.seq (.region [⟨some 32, .mov (.tmp 6), none⟩,
    ⟨some 33, .bin .mul (.tmp 32) (.con (.int .i64 128)), none⟩,
    ⟨some 6, .mov (.tmp 33), none⟩])
  (.kill [7, 8, 15, 16, 17, 18, 19, 20, 21, 22, 23, 24, 25, 26, 27, 28, 29, 30, 31, 32, 33] (.exit 1)))) (.seq (.region [⟨some 35, .mov (.tmp 8), none⟩,
    ⟨some 36, .bin .eql (.tmp 35) (.con (.int .u8 0)), none⟩,
    ⟨some 37, .mov (.tmp 36), none⟩,
    ⟨some 38, .mov (.tmp 7), (some (37, true))⟩,
    ⟨some 39, .bin .gtr (.tmp 38) (.con (.int .i64 0)), (some (37, true))⟩,
    ⟨some 40, .pick (.tmp 37) (.tmp 39) (.con (.bool false)), none⟩,
    ⟨some 34, .mov (.tmp 40), none⟩])
  (.cond (.tmp 34) (.seq (.region [⟨some 2, .mov (.con (.int .i64 0)), none⟩,
    ⟨some 3, .mov (.con (.int .i64 0)), none⟩,
    ⟨some 4, .mov (.con (.int .i64 10)), none⟩])
  (.ret)) (.skip))))))))
  (.seq (.region [⟨some 41, .mov (.tmp 5), none⟩,
    ⟨some 42, .mov (.tmp 8), none⟩,
    ⟨some 43, .cInt .i64 (.tmp 42), none⟩,
    ⟨some 44, .mov (.tmp 6), none⟩,
    ⟨some 45, .bin .mul (.tmp 43) (.tmp 44), none⟩,
    ⟨some 46, .bin .add (.tmp 41) (.tmp 45), none⟩,
    ⟨some 47, .mov (.tmp 7), none⟩,
    ⟨some 48, .bin .add (.tmp 47) (.con (.int .i64 1)), none⟩,
    ⟨some 2, .mov (.tmp 46), none⟩,
    ⟨some 3, .mov (.tmp 48), none⟩,
    ⟨some 4, .mov (.con (.int .i64 0)), none⟩])
  (.ret)))))
  (.region [⟨some 49, .bin .add (.tmp 14) (.con (.int .i64 1)), none⟩,
    ⟨some 14, .mov (.tmp 49), none⟩]))))
/-- (*regency/tape.Tape).number -/
def c_tape_Tape_number : CFn := ⟨50, .seq (.region [⟨some 2, .mov (.con (.int .i64 0)), none⟩,
    ⟨some 3, .mov (.con (.int .i64 0)), none⟩,
    ⟨some 4, .mov (.con (.int .i64 0)), none⟩])
  (.seq (.region [⟨some 5, .mov (.con (.int .i64 0)), none⟩,
    ⟨some 6, .mov (.con (.int .i64 1)), none⟩])
  (.seq (.seq (.region [⟨some 9, .mov (.tmp 0), none⟩,
    ⟨some 10, .nilck (.tmp 9), none⟩,
    ⟨some 11, .faddr 0 (.tmp 10), none⟩,
    ⟨some 12, .load none (.tmp 11), none⟩,
    ⟨some 13, .lenl (.tmp 12), none⟩,
    ⟨some 14, .mov (.con (.int .i64 0)), none⟩])
  (.block 0 (.kill [0, 2, 3, 4, 7, 8, 9, 10, 11, 15, 16, 17, 18, 19, 20, 21, 22, 23, 24, 25, 26, 27, 28, 29, 30, 31, 32, 33, 34, 35, 36, 37, 38, 39, 40, 41, 42, 43, 44, 45, 46, 47, 48, 49] (.loop l_tape_Tape_number_0))))
  (.seq (.region [⟨some 2, .mov (.con (.int .i64 0)), none⟩,
    ⟨some 3, .mov (.con (.int .i64 0)), none⟩,
    ⟨some 4, .mov (.con (.int .i64 11)), none⟩])
  (.ret)))),
  [.tmp 2, .tmp 3, .tmp 4]⟩
theorem is_tape_Tape_number : IsFn Tryd.prog 60 c_tape_Tape_number := isFn_of [([], []), ([], []), ([], []), ([0, 2, 3, 4, 7, 8, 9, 10, 11, 15, 16, 17, 18, 19, 20, 21, 22, 23, 24, 25, 26, 27, 28, 29, 30, 31, 32, 33, 34, 35, 36, 37, 38, 39, 40, 41, 42, 43, 44, 45, 46, 47, 48, 49], []), ([], []), ([5, 6, 12, 13, 14, 15], []), ([], []), ([], []), ([], []), ([], []), ([], []), ([], []), ([], []), ([7, 8, 15, 16, 17, 18, 19, 20, 21, 22, 23, 24, 25, 26, 27, 28, 29, 30, 31, 32, 33], []), ([], []), ([], []), ([], []), ([], []), ([], []), ([], []), ([], []), ([], [])] (by kernel_rfl)

/-- (*regency/tape.Tape).fail -/
def c_tape_Tape_fail : CFn := ⟨15, .seq (.region [⟨some 4, .mov (.con (.int .i64 0)), none⟩])
  (.seq (.seq (.region [⟨some 5, .mov (.tmp 0), none⟩,
    ⟨some 6, .nilck (.tmp 5), none⟩,
    ⟨some 7, .faddr 1 (.tmp 6), none⟩,
    ⟨some 8, .load none (.tmp 7), none⟩,
    ⟨some 9, .isnil .ifc false (.tmp 8), none⟩])
  (.cond (.tmp 9) (.region [⟨some 10, .mov (.tmp 0), none⟩,
    ⟨some 11, .mov (.tmp 1), none⟩,
    ⟨some 12, .call 62 [(.con (.str ⟨#[116, 97, 112, 101]⟩)), (.tmp 11)], none⟩,
    ⟨some 13, .nilck (.tmp 10), none⟩,
    ⟨some 14, .faddr 1 (.tmp 13), none⟩,
    ⟨none, .store 1 (.tmp 14) (.tmp 12), none⟩]) (.skip)))
  (.seq (.region [⟨some 4, .mov (.con (.int .i64 0)), none⟩])
  (.ret))),
  [.tmp 4]⟩
theorem is_tape_Tape_fail : IsFn Tryd.prog 61 c_tape_Tape_fail := isFn_of [([], []), ([], []), ([], []), ([], []), ([], [])] (by kernel_rfl)

/-- regency/fault.New -/
def c_fault_New : CFn := ⟨8, .seq (.region [⟨some 4, .mov (.con (.nili)), none⟩])
  (.seq (.region [⟨some 5, .mov (.tmp 0), none⟩,
    ⟨some 6, .mov (.tmp 1), none⟩,
    ⟨some 7, .call 77 [(.tmp 5), (.tmp 6), (.con (.nili))], none⟩,
    ⟨some 4, .mov (.tmp 7), none⟩])
  (.ret)),
  [.tmp 4]⟩
theorem is_fault_New : IsFn Tryd.prog 62 c_fault_New := isFn_of [([], []), ([], []), ([], [])] (by kernel_rfl)

/-- strings.splitSeq -/
def c_strings_splitSeq : CFn := ⟨8, .seq (.region [⟨some 3, .box (.tmp 0), none⟩,
    ⟨some 4, .box (.tmp 1), none⟩,
    ⟨some 5, .box (.tmp 2), none⟩,
    ⟨some 6, .mov (.con (.nilf)), none⟩])
  (.seq (.region [⟨some 7, .mkfn (.func 79) [] [(.tmp 4), (.tmp 3), (.tmp 5)], none⟩,
    ⟨some 6, .mov (.tmp 7), none⟩])
  (.ret)),
  [.tmp 6]⟩
theorem is_strings_splitSeq : IsFn Tryd.prog 63 c_strings_splitSeq := isFn_of [([], []), ([], []), ([], [])] (by kernel_rfl)

abbrev s_slices_IndexFunc_int_int_0 (v0 v1 v7 v8 : AV) : List AV := [v0, v1, undefA, undefA, .any, .any, .any, v7, v8, .any, .any, .any, .any, .any, .any, .any, .any, .any, .any]
abbrev x_slices_IndexFunc_int_int_0  : List AV := [.any, .any, undefA, undefA, .any, .any, .any, .any, .any, .any, .any, .any, .any, .any, .any, .any, .any, .any, .any]
abbrev l_slices_IndexFunc_int_int_0 : CC := .kill [4, 5, 6, 9, 10, 11, 12, 13, 14, 15, 16, 17, 18] (.seq (.region [⟨some 9, .bin .lss (.tmp 8) (.tmp 7), none⟩])
  (.seq (.cond (.tmp 9) (.skip) (.kill [0, 1, 7, 8, 9] (.exit 0)))
  (.seq (.block 1 (.seq (.region [⟨some 10, .mov (.tmp 8), none⟩,
    ⟨some 5, .mov (.tmp 10), none⟩])
  (.seq (.region [⟨some 11, .mov (.tmp 1), none⟩,
    ⟨some 12, .mov (.tmp 0), none⟩,
    ⟨some 13, .mov (.tmp 5), none⟩,
    ⟨some 14, .iaddr 1 none (.tmp 12) (.tmp 13), none⟩,
    ⟨some 15, .load none (.tmp 14), none⟩,
    ⟨some 16, .callv (.tmp 11) [(.tmp 15)], none⟩])
  (.cond (.tmp 16) (.seq (.region [⟨some 17, .mov (.tmp 5), none⟩,
    ⟨some 4, .mov (.tmp 17), none⟩])
  (.ret)) (.skip)))))
  (.region [⟨some 18, .bin .add (.tmp 8) (.con (.int .i64 1)), none⟩,
    ⟨some 8, .mov (.tmp 18), none⟩]))))
/-- slices.IndexFunc[[]int,int] -/
def c_slices_IndexFunc_int_int : CFn := ⟨19, .seq (.region [⟨some 4, .mov (.con (.int .i64 0)), none⟩])
  (.seq (.seq (.region [⟨some 6, .mov (.tmp 0), none⟩,
    ⟨some 7, .lenl (.tmp 6), none⟩,
    ⟨some 8, .mov (.con (.int .i64 0)), none⟩])
  (.block 0 (.kill [4, 5, 6, 9, 10, 11, 12, 13, 14, 15, 16, 17, 18] (.loop l_slices_IndexFunc_int_int_0))))
  (.seq (.region [⟨some 4, .mov (.con (.int .i64 (-1))), none⟩])
  (.ret))),
  [.tmp 4]⟩
theorem is_slices_IndexFunc_int_int : IsFn Tryd.prog 66 c_slices_IndexFunc_int_int := isFn_of [([], []), ([], []), ([4, 5, 6, 9, 10, 11, 12, 13, 14, 15, 16, 17, 18], []), ([], []), ([0, 1, 7, 8, 9], []), ([], []), ([], []), ([], []), ([], []), ([], []), ([], []), ([], [])] (by kernel_rfl)

abbrev s_regencyref01_num_0 (v0 v3 : AV) : List AV := [v0, undefA, .any, v3, undefA, .any, .any, .any, .any, .any, .any, .any, .any, .any, .any, .any, .any, .any, .any, .any, .any, undefA, undefA, undefA, undefA, undefA, undefA, undefA, undefA, undefA, undefA, undefA, undefA, undefA, undefA, undefA, undefA, undefA, undefA, undefA, undefA, undefA, undefA, undefA, undefA, undefA, undefA, undefA]
abbrev s_regencyref01_num_1 (v0 v4 : AV) : List AV := [v0, undefA, .any, undefA, v4, .any, .any, undefA, undefA, undefA, undefA, undefA, undefA, undefA, undefA, undefA, undefA, undefA, undefA, undefA, undefA, undefA, undefA, undefA, undefA, undefA, undefA, undefA, undefA, undefA, .any, .any, .any, .any, .any, .any, .any, .any, .any, .any, .any, .any, undefA, undefA, undefA, undefA, undefA, undefA]
abbrev x_regencyref01_num_0 (v0 v3 : AV) : List AV := [v0, undefA, .any, v3, undefA, .any, .any, .any, .any, .any, .any, .any, .any, .any, .any, .any, .any, .any, .any, .any, .any, undefA, undefA, undefA, undefA, undefA, undefA, undefA, undefA, undefA, undefA, undefA, undefA, undefA, undefA, undefA, undefA, undefA, undefA, undefA, undefA, undefA, undefA, undefA, undefA, undefA, undefA, undefA]
abbrev x_regencyref01_num_2 (v0 v4 : AV) : List AV := [v0, undefA, .any, undefA, v4, .any, .any, undefA, undefA, undefA, undefA, undefA, undefA, undefA, undefA, undefA, undefA, undefA, undefA, undefA, undefA, undefA, undefA, undefA, undefA, undefA, undefA, undefA, undefA, undefA, .any, .any, .any, .any, .any, .any, .any, .any, .any, .any, .any, .any, undefA, undefA, undefA, undefA, undefA, undefA]
abbrev l_regencyref01_num_1 : CC := .kill [2, 5, 6, 30, 31, 32, 33, 34, 35, 36, 37, 38, 39, 40, 41] (.seq (.seq (.region [⟨some 30, .mov (.tmp 0), none⟩,
    ⟨some 31, .bin .geq (.tmp 30) (.con (.int .i64 10)), none⟩])
  (.cond (.tmp 31) (.skip) (.kill [30, 31] (.exit 2))))
  (.block 3 (.seq (.region [⟨some 32, .mov (.tmp 0), none⟩,
    ⟨some 33, .bin .rem (.tmp 32) (.con (.int .i64 10)), none⟩,
    ⟨some 34, .mov (.tmp 0), none⟩,
    ⟨some 35, .bin .rem (.tmp 34) (.con (.int .i64 10)), none⟩,
    ⟨some 36, .bin .add (.tmp 35) (.con (.int .i64 1)), none⟩,
    ⟨some 37, .slice none (.con (.str ⟨#[48, 49, 50, 51, 52, 53, 54, 55, 56, 57]⟩)) (some (.tmp 33)) (some (.tmp 36)) none, none⟩,
    ⟨some 38, .mov (.tmp 4), none⟩,
    ⟨some 39, .bin .add (.tmp 37) (.tmp 38), none⟩,
    ⟨some 4, .mov (.tmp 39), none⟩])
  (.region [⟨some 40, .mov (.tmp 0), none⟩,
    ⟨some 41, .bin .quo (.tmp 40) (.con (.int .i64 10)), none⟩,
    ⟨some 0, .mov (.tmp 41), none⟩]))))
abbrev l_regencyref01_num_0 : CC := .kill [2, 5, 6, 7, 8, 9, 10, 11, 12, 13, 14, 15, 16, 17, 18, 19, 20] (.seq (.seq (.region [⟨some 7, .mov (.tmp 0), none⟩,
    ⟨some 8, .bin .leq (.tmp 7) (.con (.int .i64 (-10))), none⟩])
  (.cond (.tmp 8) (.skip) (.kill [7, 8] (.exit 0))))
  (.block 1 (.seq (.region [⟨some 9, .mov (.tmp 0), none⟩,
    ⟨some 10, .bin .rem (.tmp 9) (.con (.int .i64 10)), none⟩,
    ⟨some 11, .un .neg (.tmp 10), none⟩,
    ⟨some 12, .mov (.tmp 0), none⟩,
    ⟨some 13, .bin .rem (.tmp 12) (.con (.int .i64 10)), none⟩,
    ⟨some 14, .un .neg (.tmp 13), none⟩,
    ⟨some 15, .bin .add (.tmp 14) (.con (.int .i64 1)), none⟩,
    ⟨some 16, .slice none (.con (.str ⟨#[48, 49, 50, 51, 52, 53, 54, 55, 56, 57]⟩)) (some (.tmp 11)) (some (.tmp 15)) none, none⟩,
    ⟨some 17, .mov (.tmp 3), none⟩,
    ⟨some 18, .bin .add (.tmp 16) (.tmp 17), none⟩,
    ⟨some 3, .mov (.tmp 18), none⟩])
  (.region [⟨some 19, .mov (.tmp 0), none⟩,
    ⟨some 20, .bin .quo (.tmp 19) (.con (.int .i64 10)), none⟩,
    ⟨some 0, .mov (.tmp 20), none⟩]))))
/-- regency/regencyref01.num -/
def c_regencyref01_num : CFn := ⟨48, .seq (.region [⟨some 2, .mov (.con (.str ⟨#[]⟩)), none⟩])
  (.seq (.seq (.region [⟨some 5, .mov (.tmp 0), none⟩,
    ⟨some 6, .bin .lss (.tmp 5) (.con (.int .i64 0)), none⟩])
  (.cond (.tmp 6) (.seq (.region [⟨some 3, .mov (.con (.str ⟨#[]⟩)), none⟩])
  (.seq (.block 0 (.kill [2, 5, 6, 7, 8, 9, 10, 11, 12, 13, 14, 15, 16, 17, 18, 19, 20] (.loop l_regencyref01_num_0)))
  (.seq (.region [⟨some 21, .mov (.tmp 0), none⟩,
    ⟨some 22, .un .neg (.tmp 21), none⟩,
    ⟨some 23, .mov (.tmp 0), none⟩,
    ⟨some 24, .un .neg (.tmp 23), none⟩,
    ⟨some 25, .bin .add (.tmp 24) (.con (.int .i64 1)), none⟩,
    ⟨some 26, .slice none (.con (.str ⟨#[48, 49, 50, 51, 52, 53, 54, 55, 56, 57]⟩)) (some (.tmp 22)) (some (.tmp 25)) none, none⟩,
    ⟨some 27, .bin .add (.con (.str ⟨#[45]⟩)) (.tmp 26), none⟩,
    ⟨some 28, .mov (.tmp 3), none⟩,
    ⟨some 29, .bin .add (.tmp 27) (.tmp 28), none⟩,
    ⟨some 2, .mov (.tmp 29), none⟩])
  (.ret)))) (.skip)))
  (.seq (.region [⟨some 4, .mov (.con (.str ⟨#[]⟩)), none⟩])
  (.seq (.block 2 (.kill [2, 5, 6, 30, 31, 32, 33, 34, 35, 36, 37, 38, 39, 40, 41] (.loop l_regencyref01_num_1)))
  (.seq (.region [⟨some 42, .mov (.tmp 0), none⟩,
    ⟨some 43, .mov (.tmp 0), none⟩,
    ⟨some 44, .bin .add (.tmp 43) (.con (.int .i64 1)), none⟩,
    ⟨some 45, .slice none (.con (.str ⟨#[48, 49, 50, 51, 52, 53, 54, 55, 56, 57]⟩)) (some (.tmp 42)) (some (.tmp 44)) none, none⟩,
    ⟨some 46, .mov (.tmp 4), none⟩,
    ⟨some 47, .bin .add (.tmp 45) (.tmp 46), none⟩,
    ⟨some 2, .mov (.tmp 47), none⟩])
  (.ret))))),
  [.tmp 2]⟩
theorem is_regencyref01_num : IsFn Tryd.prog 69 c_regencyref01_num := isFn_of [([], []), ([], []), ([], []), ([2, 5, 6, 7, 8, 9, 10, 11, 12, 13, 14, 15, 16, 17, 18, 19, 20], []), ([], []), ([7, 8], []), ([], []), ([], []), ([], []), ([], []), ([], []), ([2, 5, 6, 30, 31, 32, 33, 34, 35, 36, 37, 38, 39, 40, 41], []), ([], []), ([30, 31], []), ([], []), ([], []), ([], []), ([], [])] (by kernel_rfl)

/-- cmp.Compare[int] -/
def c_cmp_Compare_int : CFn := ⟨20, .seq (.region [⟨some 4, .mov (.con (.int .i64 0)), none⟩])
  (.seq (.region [⟨some 7, .mov (.tmp 0), none⟩,
    ⟨some 8, .pcall 89 [(.tmp 7)], none⟩,
    ⟨some 5, .mov (.tmp 8), none⟩])
  (.seq (.region [⟨some 9, .mov (.tmp 1), none⟩,
    ⟨some 10, .pcall 89 [(.tmp 9)], none⟩,
    ⟨some 6, .mov (.tmp 10), none⟩])
  (.seq (.seq (.region [⟨some 11, .mov (.tmp 5), none⟩])
  (.cond (.tmp 11) (.seq (.seq (.region [⟨some 12, .mov (.tmp 6), none⟩])
  (.cond (.tmp 12) (.seq (.region [⟨some 4, .mov (.con (.int .i64 0)), none⟩])
  (.ret)) (.skip)))
  (.seq (.region [⟨some 4, .mov (.con (.int .i64 (-1))), none⟩])
  (.ret))) (.skip)))
  (.seq (.seq (.region [⟨some 13, .mov (.tmp 6), none⟩])
  (.cond (.tmp 13) (.seq (.region [⟨some 4, .mov (.con (.int .i64 1)), none⟩])
  (.ret)) (.skip)))
  (.seq (.seq (.region [⟨some 14, .mov (.tmp 0), none⟩,
    ⟨some 15, .mov (.tmp 1), none⟩,
    ⟨some 16, .bin .lss (.tmp 14) (.tmp 15), none⟩])
  (.cond (.tmp 16) (.seq (.region [⟨some 4, .mov (.con (.int .i64 (-1))), none⟩])
  (.ret)) (.skip)))
  (.seq (.seq (.region [⟨some 17, .mov (.tmp 0), none⟩,
    ⟨some 18, .mov (.tmp 1), none⟩,
    ⟨some 19, .bin .gtr (.tmp 17) (.tmp 18), none⟩])
  (.cond (.tmp 19) (.seq (.region [⟨some 4, .mov (.con (.int .i64 1)), none⟩])
  (.ret)) (.skip)))
  (.seq (.region [⟨some 4, .mov (.con (.int .i64 0)), none⟩])
  (.ret)))))))),
  [.tmp 4]⟩
theorem is_cmp_Compare_int : IsFn Tryd.prog 70 c_cmp_Compare_int := isFn_of [([], []), ([], [1]), ([], [1]), ([], []), ([], []), ([], []), ([], []), ([], []), ([], []), ([], []), ([], []), ([], []), ([], []), ([], []), ([], []), ([], []), ([], []), ([], []), ([], []), ([], [])] (by kernel_rfl)

/-- regency/cats.Right -/
def c_cats_Right : CFn := ⟨13, .seq (.region [⟨some 2, .mov (.con (.bool false)), none⟩])
  (.seq (.region [⟨some 7, .mov (.tmp 0), none⟩,
    ⟨some 8, .pcall 91 [(.tmp 7)], none⟩,
    ⟨some 6, .take (.tmp 8), none⟩,
    ⟨some 9, .extract 6 0, none⟩,
    ⟨some 10, .extract 6 1, none⟩,
    ⟨some 11, .extract 6 2, none⟩,
    ⟨some 3, .take (.tmp 9), none⟩,
    ⟨some 4, .mov (.tmp 10), none⟩,
    ⟨some 5, .mov (.tmp 11), none⟩])
  (.seq (.region [⟨some 12, .mov (.tmp 5), none⟩,
    ⟨some 2, .mov (.tmp 12), none⟩])
  (.ret))),
  [.tmp 2]⟩
theorem is_cats_Right : IsFn Tryd.prog 73 c_cats_Right := isFn_of [([], []), ([], [1, 2, 6]), ([], []), ([], [])] (by kernel_rfl)

/-- (*regency/tape.Tape).End -/
def c_tape_Tape_End : CFn := ⟨16, .seq (.region [⟨some 2, .mov (.con (.nili)), none⟩])
  (.seq (.seq (.region [⟨some 4, .mov (.tmp 0), none⟩,
    ⟨some 5, .call 35 [(.tmp 4)], none⟩,
    ⟨some 3, .mov (.tmp 5), none⟩])
  (.seq (.region [⟨some 6, .mov (.tmp 3), none⟩,
    ⟨some 7, .isnil .ifc true (.tmp 6), none⟩])
  (.cond (.tmp 7) (.seq (.region [⟨some 8, .mov (.tmp 3), none⟩,
    ⟨some 2, .mov (.tmp 8), none⟩])
  (.ret)) (.skip))))
  (.seq (.seq (.region [⟨some 9, .mov (.tmp 0), none⟩,
    ⟨some 10, .nilck (.tmp 9), none⟩,
    ⟨some 11, .faddr 0 (.tmp 10), none⟩,
    ⟨some 12, .load none (.tmp 11), none⟩,
    ⟨some 13, .lenl (.tmp 12), none⟩,
    ⟨some 14, .bin .gtr (.tmp 13) (.con (.int .i64 0)), none⟩])
  (.cond (.tmp 14) (.seq (.region [⟨some 15, .call 62 [(.con (.str ⟨#[116, 97, 112, 101]⟩)), (.con (.int .i64 10))], none⟩,
    ⟨some 2, .mov (.tmp 15), none⟩])
  (.ret)) (.skip)))
  (.seq (.region [⟨some 2, .mov (.con (.nili)), none⟩])
  (.ret)))),
  [.tmp 2]⟩
theorem is_tape_Tape_End : IsFn Tryd.prog 76 c_tape_Tape_End := isFn_of [([], []), ([], []), ([], []), ([], []), ([], []), ([], []), ([], []), ([], []), ([], []), ([], [])] (by kernel_rfl)

/-- regency/fault.Wrap -/
def c_fault_Wrap : CFn := ⟨16, .seq (.region [⟨some 6, .mov (.con (.nili)), none⟩])
  (.seq (.seq (.region [⟨some 7, .mov (.tmp 1), none⟩,
    ⟨some 8, .bin .eql (.tmp 7) (.con (.int .i64 0)), none⟩])
  (.cond (.tmp 8) (.seq (.region [⟨some 9, .mov (.tmp 2), none⟩,
    ⟨some 6, .mov (.tmp 9), none⟩])
  (.ret)) (.skip)))
  (.seq (.region [⟨some 10, .mov (.tmp 0), none⟩,
    ⟨some 11, .mov (.tmp 1), none⟩,
    ⟨some 12, .mov (.tmp 2), none⟩,
    ⟨some 13, .build [.str ⟨#[]⟩, .int .i64 0, .nili] [(0, 1, (.tmp 10)), (1, 1, (.tmp 11)), (2, 1, (.tmp 12))], none⟩,
    ⟨some 14, .rbox (.tmp 13), none⟩,
    ⟨some 15, .mkif 137 (.tmp 14), none⟩,
    ⟨some 6, .mov (.tmp 15), none⟩])
  (.ret))),
  [.tmp 6]⟩
theorem is_fault_Wrap : IsFn Tryd.prog 77 c_fault_Wrap := isFn_of [([], []), ([], []), ([], []), ([], []), ([], [4]), ([], [])] (by kernel_rfl)

/-- (*regency/tape.Pen).Text -/
def c_tape_Pen_Text : CFn := ⟨17, .seq (.region [⟨some 4, .mov (.tmp 0), none⟩,
    ⟨some 5, .mov (.tmp 1), none⟩,
    ⟨some 6, .lens (.tmp 5), none⟩,
    ⟨some 7, .call 49 [(.tmp 4), (.tmp 6)], none⟩])
  (.cond (.tmp 7) (.region [⟨some 8, .mov (.tmp 0), none⟩,
    ⟨some 9, .mov (.tmp 0), none⟩,
    ⟨some 10, .nilck (.tmp 9), none⟩,
    ⟨some 11, .faddr 0 (.tmp 10), none⟩,
    ⟨some 12, .ltake (.tmp 11), none⟩,
    ⟨some 13, .mov (.tmp 1), none⟩,
    ⟨some 14, .append 1 1 true (.tmp 12) (.tmp 13), none⟩,
    ⟨some 15, .nilck (.tmp 8), none⟩,
    ⟨some 16, .faddr 0 (.tmp 15), none⟩,
    ⟨none, .store 1 (.tmp 16) (.tmp 14), none⟩]) (.skip)),
  []⟩
theorem is_tape_Pen_Text : IsFn Tryd.prog 78 c_tape_Pen_Text := isFn_of [([], []), ([], [4])] (by kernel_rfl)

/-- strings.splitSeq$1 -/
theorem ok_strings_splitSeq_1 : OkDef Tryd.prog 79 (.split) := split_ok

/-- strings.Index -/
def c_strings_Index : CFn := ⟨8, .seq (.region [⟨some 4, .mov (.con (.int .i64 0)), none⟩])
  (.seq (.region [⟨some 5, .mov (.tmp 0), none⟩,
    ⟨some 6, .mov (.tmp 1), none⟩,
    ⟨some 7, .pcall 94 [(.tmp 5), (.tmp 6)], none⟩,
    ⟨some 4, .mov (.tmp 7), none⟩])
  (.ret)),
  [.tmp 4]⟩
theorem is_strings_Index : IsFn Tryd.prog 81 c_strings_Index := isFn_of [([], []), ([], [2]), ([], [])] (by kernel_rfl)

/-- cmp.isNaN[int] -/
def c_cmp_isNaN_int : CFn := ⟨6, .seq (.region [⟨some 2, .mov (.con (.bool false)), none⟩])
  (.seq (.region [⟨some 3, .mov (.tmp 0), none⟩,
    ⟨some 4, .mov (.tmp 0), none⟩,
    ⟨some 5, .bin .neq (.tmp 3) (.tmp 4), none⟩,
    ⟨some 2, .mov (.tmp 5), none⟩])
  (.ret)),
  [.tmp 2]⟩
theorem is_cmp_isNaN_int : IsFn Tryd.prog 89 c_cmp_isNaN_int := isFn_of [([], []), ([], []), ([], [])] (by kernel_rfl)

abbrev l_cats_Parse_1 : CC := .block 1 (.seq (.region [⟨some 38, .mov (.tmp 11), none⟩,
    ⟨some 39, .pcall 103 [(.tmp 38), (.con (.int .i64 1048576))], none⟩,
    ⟨some 37, .mov (.tmp 39), none⟩,
    ⟨some 40, .extract 37 0, none⟩,
    ⟨some 41, .extract 37 1, none⟩,
    ⟨some 12, .mov (.tmp 40), none⟩,
    ⟨some 13, .mov (.tmp 41), none⟩])
  (.seq (.seq (.region [⟨some 42, .mov (.tmp 13), none⟩,
    ⟨some 43, .un .not (.tmp 42), none⟩,
    ⟨some 44, .mov (.tmp 43), none⟩,
    ⟨some 45, .load none (.tmp 10), (some (44, false))⟩,
    ⟨some 46, .lenl (.tmp 45), (some (44, false))⟩,
    ⟨some 47, .bin .eql (.tmp 46) (.con (.int .i64 6)), (some (44, false))⟩,
    ⟨some 48, .pick (.tmp 44) (.con (.bool true)) (.tmp 47), none⟩])
  (.cond (.tmp 48) (.seq (.region [⟨none, .store 1 (.tmp 2) (.con (.sl .ex [])), none⟩,
    ⟨none, .store 1 (.tmp 3) (.con (.int .i64 0)), none⟩,
    ⟨none, .store 1 (.tmp 4) (.con (.bool false)), none⟩])
  (.ret)) (.skip)))
  (.region [⟨some 49, .ltake (.tmp 10), none⟩,
    ⟨some 50, .mov (.tmp 12), none⟩,
    ⟨some 51, .bslice 1 false [(.tmp 50)], none⟩,
    ⟨some 52, .append 1 8 false (.tmp 49) (.tmp 51), none⟩,
    ⟨none, .store 1 (.tmp 10) (.tmp 52), none⟩])))
abbrev l_cats_Parse_0 : CC := .region [⟨some 11, .mov (.tmp 36), none⟩]
/-- regency/cats.Parse -/
def c_cats_Parse : CFn := ⟨55, .seq (.region [⟨some 2, .alloc [.sl .ex []], none⟩,
    ⟨some 3, .alloc [.int .i64 0], none⟩,
    ⟨some 4, .alloc [.bool false], none⟩])
  (.seq (.region [⟨some 15, .mov (.tmp 0), none⟩,
    ⟨some 16, .pcall 102 [(.tmp 15), (.con (.str ⟨#[47]⟩))], none⟩,
    ⟨some 14, .mov (.tmp 16), none⟩,
    ⟨some 17, .extract 14 0, none⟩,
    ⟨some 18, .extract 14 1, none⟩,
    ⟨some 19, .extract 14 2, none⟩,
    ⟨some 5, .mov (.tmp 17), none⟩,
    ⟨some 6, .mov (.tmp 18), none⟩,
    ⟨some 7, .mov (.tmp 19), none⟩])
  (.seq (.region [⟨some 21, .mov (.tmp 6), none⟩,
    ⟨some 22, .pcall 103 [(.tmp 21), (.con (.int .i64 65535))], none⟩,
    ⟨some 20, .mov (.tmp 22), none⟩,
    ⟨some 23, .extract 20 0, none⟩,
    ⟨some 24, .extract 20 1, none⟩,
    ⟨some 8, .mov (.tmp 23), none⟩,
    ⟨some 9, .mov (.tmp 24), none⟩])
  (.seq (.seq (.region [⟨some 25, .mov (.tmp 7), none⟩,
    ⟨some 26, .un .not (.tmp 25), none⟩,
    ⟨some 27, .mov (.tmp 26), none⟩,
    ⟨some 28, .mov (.tmp 9), (some (27, false))⟩,
    ⟨some 29, .un .not (.tmp 28), (some (27, false))⟩,
    ⟨some 30, .pick (.tmp 27) (.con (.bool true)) (.tmp 29), none⟩])
  (.cond (.tmp 30) (.seq (.region [⟨none, .store 1 (.tmp 2) (.con (.sl .ex [])), none⟩,
    ⟨none, .store 1 (.tmp 3) (.con (.int .i64 0)), none⟩,
    ⟨none, .store 1 (.tmp 4) (.con (.bool false)), none⟩])
  (.ret)) (.skip)))
  (.seq (.seq (.region [⟨some 31, .mov (.tmp 5), none⟩,
    ⟨some 32, .bin .eql (.tmp 31) (.con (.str ⟨#[]⟩)), none⟩])
  (.cond (.tmp 32) (.seq (.region [⟨some 33, .mov (.tmp 8), none⟩,
    ⟨none, .store 1 (.tmp 2) (.con (.sl .ex [])), none⟩,
    ⟨none, .store 1 (.tmp 3) (.tmp 33), none⟩,
    ⟨none, .store 1 (.tmp 4) (.con (.bool true)), none⟩])
  (.ret)) (.skip)))
  (.seq (.region [⟨some 10, .alloc [.sl .ex []], none⟩])
  (.seq (.seq (.region [⟨some 34, .mov (.tmp 5), none⟩,
    ⟨some 35, .call 37 [(.tmp 34), (.con (.str ⟨#[46]⟩))], none⟩])
  (.block 0 (.rsplit (.tmp 35) 36 l_cats_Parse_0 l_cats_Parse_1)))
  (.seq (.region [⟨some 53, .load none (.tmp 10), none⟩,
    ⟨some 54, .mov (.tmp 8), none⟩,
    ⟨none, .store 1 (.tmp 2) (.tmp 53), none⟩,
    ⟨none, .store 1 (.tmp 3) (.tmp 54), none⟩,
    ⟨none, .store 1 (.tmp 4) (.con (.bool true)), none⟩])
  (.ret)))))))),
  [.cell 2 none, .cell 3 none, .cell 4 none]⟩
theorem is_cats_Parse : IsFn Tryd.prog 91 c_cats_Parse := isFn_of [([], []), ([], [1]), ([], [1]), ([], []), ([], []), ([], []), ([], []), ([], []), ([], []), ([], []), ([], []), ([], []), ([], [1]), ([], []), ([], []), ([], []), ([], [0]), ([], []), ([], [])] (by kernel_rfl)

/-- internal/stringslite.Index -/
theorem ok_internal_stringslite_Index : OkDef Tryd.prog 94 (.prim index1P) := index1_ok (⟨Tryd.f94, Tryd.func94, by kernel_rfl, by kernel_rfl⟩ : Callable Tryd.prog 94) (fun s c w => Tryd.stringslite_Index_one s c w)

/-- strings.Cut -/
def c_strings_Cut : CFn := ⟨13, .seq (.region [⟨some 4, .mov (.con (.str ⟨#[]⟩)), none⟩,
    ⟨some 5, .mov (.con (.str ⟨#[]⟩)), none⟩,
    ⟨some 6, .mov (.con (.bool false)), none⟩])
  (.seq (.region [⟨some 7, .mov (.tmp 0), none⟩,
    ⟨some 8, .mov (.tmp 1), none⟩,
    ⟨some 9, .pcall 116 [(.tmp 7), (.tmp 8)], none⟩,
    ⟨some 10, .extract 9 0, none⟩,
    ⟨some 11, .extract 9 1, none⟩,
    ⟨some 12, .extract 9 2, none⟩,
    ⟨some 4, .mov (.tmp 10), none⟩,
    ⟨some 5, .mov (.tmp 11), none⟩,
    ⟨some 6, .mov (.tmp 12), none⟩])
  (.ret)),
  [.tmp 4, .tmp 5, .tmp 6]⟩
theorem is_strings_Cut : IsFn Tryd.prog 102 c_strings_Cut := isFn_of [([], []), ([], [2]), ([], [])] (by kernel_rfl)

/-- regency/cats.number -/
def c_cats_number : CFn := ⟨31, .seq (.region [⟨some 4, .mov (.con (.int .i64 0)), none⟩,
    ⟨some 5, .mov (.con (.bool false)), none⟩])
  (.seq (.region [⟨some 9, .mov (.tmp 0), none⟩,
    ⟨some 10, .call 38 [(.tmp 9)], none⟩,
    ⟨some 8, .mov (.tmp 10), none⟩,
    ⟨some 11, .extract 8 0, none⟩,
    ⟨some 12, .extract 8 1, none⟩,
    ⟨some 6, .mov (.tmp 11), none⟩,
    ⟨some 7, .mov (.tmp 12), none⟩])
  (.seq (.region [⟨some 13, .mov (.tmp 6), none⟩,
    ⟨some 14, .mov (.tmp 7), none⟩,
    ⟨some 15, .isnil .ifc false (.tmp 14), none⟩,
    ⟨some 16, .mov (.tmp 15), none⟩,
    ⟨some 17, .mov (.tmp 6), (some (16, true))⟩,
    ⟨some 18, .bin .geq (.tmp 17) (.con (.int .i64 0)), (some (16, true))⟩,
    ⟨some 19, .pick (.tmp 16) (.tmp 18) (.con (.bool false)), none⟩,
    ⟨some 20, .mov (.tmp 19), none⟩,
    ⟨some 21, .mov (.tmp 6), (some (20, true))⟩,
    ⟨some 22, .mov (.tmp 1), (some (20, true))⟩,
    ⟨some 23, .bin .leq (.tmp 21) (.tmp 22), (some (20, true))⟩,
    ⟨some 24, .pick (.tmp 20) (.tmp 23) (.con (.bool false)), none⟩,
    ⟨some 25, .mov (.tmp 24), none⟩,
    ⟨some 26, .mov (.tmp 6), (some (25, true))⟩,
    ⟨some 27, .pcall 44 [(.tmp 26)], (some (25, true))⟩,
    ⟨some 28, .mov (.tmp 0), (some (25, true))⟩,
    ⟨some 29, .bin .eql (.tmp 27) (.tmp 28), (some (25, true))⟩,
    ⟨some 30, .pick (.tmp 25) (.tmp 29) (.con (.bool false)), none⟩,
    ⟨some 4, .mov (.tmp 13), none⟩,
    ⟨some 5, .mov (.tmp 30), none⟩])
  (.ret))),
  [.tmp 4, .tmp 5]⟩
theorem is_cats_number : IsFn Tryd.prog 103 c_cats_number := isFn_of [([], []), ([], []), ([], [14]), ([], [])] (by kernel_rfl)

/-- regency/cats.Compare -/
def c_cats_Compare : CFn := ⟨47, .seq (.region [⟨some 4, .mov (.con (.int .i64 0)), none⟩])
  (.seq (.region [⟨some 12, .mov (.tmp 0), none⟩,
    ⟨some 13, .pcall 91 [(.tmp 12)], none⟩,
    ⟨some 11, .take (.tmp 13), none⟩,
    ⟨some 14, .extract 11 0, none⟩,
    ⟨some 15, .extract 11 1, none⟩,
    ⟨some 16, .extract 11 2, none⟩,
    ⟨some 5, .take (.tmp 14), none⟩,
    ⟨some 6, .mov (.tmp 15), none⟩,
    ⟨some 7, .mov (.tmp 16), none⟩])
  (.seq (.region [⟨some 18, .mov (.tmp 1), none⟩,
    ⟨some 19, .pcall 91 [(.tmp 18)], none⟩,
    ⟨some 17, .take (.tmp 19), none⟩,
    ⟨some 20, .extract 17 0, none⟩,
    ⟨some 21, .extract 17 1, none⟩,
    ⟨some 22, .extract 17 2, none⟩,
    ⟨some 8, .take (.tmp 20), none⟩,
    ⟨some 9, .mov (.tmp 21), none⟩,
    ⟨some 10, .mov (.tmp 22), none⟩])
  (.seq (.block 0 (.seq (.region [⟨some 24, .mov (.tmp 7), none⟩,
    ⟨some 25, .un .not (.tmp 24), none⟩,
    ⟨some 26, .mov (.tmp 25), none⟩,
    ⟨some 27, .mov (.tmp 10), (some (26, true))⟩,
    ⟨some 28, .un .not (.tmp 27), (some (26, true))⟩,
    ⟨some 29, .pick (.tmp 26) (.tmp 28) (.con (.bool false)), none⟩,
    ⟨some 23, .mov (.tmp 29), none⟩])
  (.cond (.tmp 23) (.seq (.region [⟨some 30, .mov (.tmp 0), none⟩,
    ⟨some 31, .mov (.tmp 1), none⟩,
    ⟨some 32, .pcall 117 [(.tmp 30), (.tmp 31)], none⟩,
    ⟨some 4, .mov (.tmp 32), none⟩])
  (.ret)) (.seq (.region [⟨some 34, .mov (.tmp 7), none⟩,
    ⟨some 35, .un .not (.tmp 34), none⟩,
    ⟨some 33, .mov (.tmp 35), none⟩])
  (.cond (.tmp 33) (.seq (.region [⟨some 4, .mov (.con (.int .i64 1)), none⟩])
  (.ret)) (.seq (.region [⟨some 37, .mov (.tmp 10), none⟩,
    ⟨some 38, .un .not (.tmp 37), none⟩,
    ⟨some 36, .mov (.tmp 38), none⟩])
  (.cond (.tmp 36) (.seq (.region [⟨some 4, .mov (.con (.int .i64 (-1))), none⟩])
  (.ret)) (.skip))))))))
  (.seq (.region [⟨some 39, .take (.tmp 5), none⟩,
    ⟨some 40, .take (.tmp 8), none⟩,
    ⟨some 41, .pcall 52 [(.tmp 39), (.tmp 40)], none⟩,
    ⟨some 42, .mov (.tmp 6), none⟩,
    ⟨some 43, .mov (.tmp 9), none⟩,
    ⟨some 44, .pcall 70 [(.tmp 42), (.tmp 43)], none⟩,
    ⟨some 45, .bslice 1 false [(.tmp 41), (.tmp 44)], none⟩,
    ⟨some 46, .pcall 118 [(.tmp 45)], none⟩,
    ⟨some 4, .mov (.tmp 46), none⟩])
  (.ret))))),
  [.tmp 4]⟩
theorem is_cats_Compare : IsFn Tryd.prog 104 c_cats_Compare := isFn_of [([], []), ([], [1, 2, 6]), ([], [1, 2, 6]), ([], []), ([], [2]), ([], []), ([], []), ([], []), ([], []), ([], []), ([], []), ([], []), ([], [0, 1, 2, 5, 7]), ([], [])] (by kernel_rfl)

/-- internal/stringslite.Cut -/
def c_internal_stringslite_Cut : CFn := ⟨23, .seq (.region [⟨some 4, .mov (.con (.str ⟨#[]⟩)), none⟩,
    ⟨some 5, .mov (.con (.str ⟨#[]⟩)), none⟩,
    ⟨some 6, .mov (.con (.bool false)), none⟩])
  (.seq (.seq (.region [⟨some 8, .mov (.tmp 0), none⟩,
    ⟨some 9, .mov (.tmp 1), none⟩,
    ⟨some 10, .pcall 94 [(.tmp 8), (.tmp 9)], none⟩,
    ⟨some 7, .mov (.tmp 10), none⟩])
  (.seq (.region [⟨some 11, .mov (.tmp 7), none⟩,
    ⟨some 12, .bin .geq (.tmp 11) (.con (.int .i64 0)), none⟩])
  (.cond (.tmp 12) (.seq (.region [⟨some 13, .mov (.tmp 0), none⟩,
    ⟨some 14, .mov (.tmp 7), none⟩,
    ⟨some 15, .slice none (.tmp 13) none (some (.tmp 14)) none, none⟩,
    ⟨some 16, .mov (.tmp 0), none⟩,
    ⟨some 17, .mov (.tmp 7), none⟩,
    ⟨some 18, .mov (.tmp 1), none⟩,
    ⟨some 19, .lens (.tmp 18), none⟩,
    ⟨some 20, .bin .add (.tmp 17) (.tmp 19), none⟩,
    ⟨some 21, .slice none (.tmp 16) (some (.tmp 20)) none none, none⟩,
    ⟨some 4, .mov (.tmp 15), none⟩,
    ⟨some 5, .mov (.tmp 21), none⟩,
    ⟨some 6, .mov (.con (.bool true)), none⟩])
  (.ret)) (.skip))))
  (.seq (.region [⟨some 22, .mov (.tmp 0), none⟩,
    ⟨some 4, .mov (.tmp 22), none⟩,
    ⟨some 5, .mov (.con (.str ⟨#[]⟩)), none⟩,
    ⟨some 6, .mov (.con (.bool false)), none⟩])
  (.ret))),
  [.tmp 4, .tmp 5, .tmp 6]⟩
theorem is_internal_stringslite_Cut : IsFn Tryd.prog 116 c_internal_stringslite_Cut := isFn_of [([], []), ([], [2]), ([], []), ([], []), ([], []), ([], []), ([], [])] (by kernel_rfl)

end Go.Proofs.YtjeigcnaalleiaaDoor.F
