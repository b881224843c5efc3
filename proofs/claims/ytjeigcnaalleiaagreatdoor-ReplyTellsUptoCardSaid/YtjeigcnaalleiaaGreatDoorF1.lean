/- Functions of the program, compiled, by a program (gen.py). -/
import Derived.Test.YtjeigcnaalleiaaGreatDoorProg
import Derived.KernelRfl
import Derived.Test.YtjeigcnaalleiaaGreatDoorM19
import Derived.Test.YtjeigcnaalleiaaGreatDoorM22
import Derived.Test.YtjeigcnaalleiaaGreatDoorSh
import Derived.Test.YtjeigcnaalleiaaGreatDoorSp
import Derived.Test.YtjeigcnaalleiaaGreatDoorIs
set_option maxRecDepth 100000
namespace Go.Proofs.YtjeigcnaalleiaaGreatDoor.F
open Go.Proofs.YtjeigcnaalleiaaGreatDoor.M Go.Proofs Go.RowKit

theorem tab_ok (w0 w : World) (hw : GW w0) (hb : Below w0.heap.size w0 w) : Lib.TabIs Tryz.prog w "internal/strconv.uint64pow10" .u64 Lib.pow10Tab := by
  obtain ⟨el, fr, hh⟩ := hw.1 _ (List.mem_cons_self ..)
  have h2 := (hb.block 1 (Array.getElem?_eq_some_iff.1 hh).1).trans hh
  unfold Lib.TabIs World.var?
  rw [show Tryz.prog.globalNamed "internal/strconv.uint64pow10" = some 1 from by kernel_rfl]
  simp only [Option.bind_some]
  rw [h2]
  rfl

theorem errvar_ok {P : Program} {w0 w : World} {g : Nat} {n : String} (h : ∃ tp q el fr, w0.heap[g]? = some (.cells #[.iface tp q] el fr)) (hb : Below w0.heap.size w0 w) (hn : P.globalNamed n = some g) : ∃ tp q, w.var? P n = some #[.iface tp q] := by
  obtain ⟨tp, q, el, fr, hh⟩ := h
  have h2 := (hb.block g (Array.getElem?_eq_some_iff.1 hh).1).trans hh
  exact ⟨tp, q, by unfold World.var?; rw [hn]; simp only [Option.bind_some]; rw [h2]⟩
/-- regency/regencylaw12.ReplyTells -/
def c_regencylaw12_ReplyTells : CFn := ⟨60, .seq (.region [⟨some 2, .box (.tmp 0), none⟩,
    ⟨some 3, .box (.tmp 1), none⟩,
    ⟨some 4, .mov (.con (.bool false)), none⟩])
  (.seq (.seq (.region [⟨some 6, .pcall 21 [], none⟩,
    ⟨some 7, .un .not (.tmp 6), none⟩])
  (.cond (.tmp 7) (.seq (.region [⟨some 4, .mov (.con (.bool false)), none⟩])
  (.ret)) (.skip)))
  (.seq (.seq (.region [⟨some 8, .load (some 6) (.tmp 2), none⟩,
    ⟨some 9, .pcall 22 [(.tmp 8)], none⟩,
    ⟨some 10, .mov (.tmp 9), none⟩,
    ⟨some 11, .load (some 6) (.tmp 3), (some (10, false))⟩,
    ⟨some 12, .pcall 22 [(.tmp 11)], (some (10, false))⟩,
    ⟨some 13, .pick (.tmp 10) (.con (.bool true)) (.tmp 12), none⟩])
  (.cond (.tmp 13) (.seq (.region [⟨some 4, .mov (.con (.bool true)), none⟩])
  (.ret)) (.skip)))
  (.seq (.region [⟨some 5, .mov (.con (.str ⟨#[]⟩)), none⟩])
  (.seq (.seq (.region [⟨some 14, .load (some 6) (.tmp 2), none⟩,
    ⟨some 15, .pcall 23 [(.tmp 14)], none⟩])
  (.cond (.tmp 15) (.region [⟨some 16, .load (some 6) (.tmp 2), none⟩,
    ⟨some 17, .pcall 24 [(.tmp 16)], none⟩,
    ⟨some 5, .mov (.tmp 17), none⟩]) (.skip)))
  (.seq (.region [⟨some 18, .load (some 6) (.tmp 2), none⟩,
    ⟨some 19, .pcall 25 [(.tmp 18)], none⟩,
    ⟨some 20, .load (some 6) (.tmp 2), none⟩,
    ⟨some 21, .pcall 23 [(.tmp 20)], none⟩,
    ⟨some 22, .eqb false (.tmp 19) (.tmp 21), none⟩,
    ⟨some 23, .mov (.tmp 22), none⟩,
    ⟨some 24, .load (some 6) (.tmp 2), (some (23, true))⟩,
    ⟨some 25, .pcall 26 [(.tmp 24)], (some (23, true))⟩,
    ⟨some 26, .cBytesStr (.tmp 25), (some (23, true))⟩,
    ⟨some 27, .mov (.tmp 5), (some (23, true))⟩,
    ⟨some 28, .bin .eql (.tmp 26) (.tmp 27), (some (23, true))⟩,
    ⟨some 29, .pick (.tmp 23) (.tmp 28) (.con (.bool false)), none⟩,
    ⟨some 30, .mov (.tmp 29), none⟩,
    ⟨some 31, .load (some 6) (.tmp 2), (some (30, true))⟩,
    ⟨some 32, .pcall 27 [(.tmp 31)], (some (30, true))⟩,
    ⟨some 33, .load (some 6) (.tmp 2), (some (30, true))⟩,
    ⟨some 34, .pcall 28 [(.tmp 33)], (some (30, true))⟩,
    ⟨some 35, .bin .eql (.tmp 32) (.tmp 34), (some (30, true))⟩,
    ⟨some 36, .pick (.tmp 30) (.tmp 35) (.con (.bool false)), none⟩,
    ⟨some 37, .mov (.tmp 36), none⟩,
    ⟨some 38, .load (some 6) (.tmp 2), (some (37, true))⟩,
    ⟨some 39, .load (some 6) (.tmp 3), (some (37, true))⟩,
    ⟨some 40, .pcall 29 [(.tmp 38), (.tmp 39)], (some (37, true))⟩,
    ⟨some 41, .load (some 6) (.tmp 2), (some (37, true))⟩,
    ⟨some 42, .load (some 6) (.tmp 3), (some (37, true))⟩,
    ⟨some 43, .pcall 16 [(.tmp 41), (.tmp 42)], (some (37, true))⟩,
    ⟨some 44, .eqb false (.tmp 40) (.tmp 43), (some (37, true))⟩,
    ⟨some 45, .pick (.tmp 37) (.tmp 44) (.con (.bool false)), none⟩,
    ⟨some 46, .mov (.tmp 45), none⟩,
    ⟨some 47, .load (some 6) (.tmp 2), (some (46, true))⟩,
    ⟨some 48, .load (some 6) (.tmp 2), (some (46, true))⟩,
    ⟨some 49, .pcall 29 [(.tmp 47), (.tmp 48)], (some (46, true))⟩,
    ⟨some 50, .pick (.tmp 46) (.tmp 49) (.con (.bool false)), none⟩,
    ⟨some 51, .mov (.tmp 50), none⟩,
    ⟨some 52, .faddr 0 (.tmp 2), (some (51, true))⟩,
    ⟨some 53, .load none (.tmp 52), (some (51, true))⟩,
    ⟨some 54, .pcall 30 [(.tmp 53)], (some (51, true))⟩,
    ⟨some 55, .faddr 0 (.tmp 2), (some (51, true))⟩,
    ⟨some 56, .load none (.tmp 55), (some (51, true))⟩,
    ⟨some 57, .build [.int .i64 0, .int .i64 0, .sl .ex [], .str ⟨#[]⟩, .sl .ex [], .sl .ex []] [(0, 1, (.tmp 56))], (some (51, true))⟩,
    ⟨some 58, .pcall 16 [(.tmp 54), (.tmp 57)], (some (51, true))⟩,
    ⟨some 59, .pick (.tmp 51) (.tmp 58) (.con (.bool false)), none⟩,
    ⟨some 4, .mov (.tmp 59), none⟩])
  (.ret)))))),
  [.tmp 4]⟩
theorem is_regencylaw12_ReplyTells : IsFn Tryz.prog 5 c_regencylaw12_ReplyTells := isFn_of [([], []), ([], [0]), ([], []), ([], []), ([], [1, 4]), ([], []), ([], []), ([], []), ([], [1]), ([], [1]), ([], [1, 3, 7, 14, 16, 22, 25, 31, 36, 40]), ([], [])] (by kernel_rfl)

/-- regency/regencylaw12.ReplyBack -/
def c_regencylaw12_ReplyBack : CFn := ⟨49, .seq (.region [⟨some 2, .box (.tmp 0), none⟩,
    ⟨some 4, .mov (.con (.bool false)), none⟩])
  (.seq (.seq (.region [⟨some 9, .pcall 21 [], none⟩,
    ⟨some 10, .un .not (.tmp 9), none⟩])
  (.cond (.tmp 10) (.seq (.region [⟨some 4, .mov (.con (.bool false)), none⟩])
  (.ret)) (.skip)))
  (.seq (.seq (.region [⟨some 11, .load (some 6) (.tmp 2), none⟩,
    ⟨some 12, .pcall 22 [(.tmp 11)], none⟩,
    ⟨some 13, .mov (.tmp 12), none⟩,
    ⟨some 14, .mov (.tmp 1), (some (13, false))⟩,
    ⟨some 15, .lenl (.tmp 14), (some (13, false))⟩,
    ⟨some 16, .bin .gtr (.tmp 15) (.con (.int .i64 900)), (some (13, false))⟩,
    ⟨some 17, .pick (.tmp 13) (.con (.bool true)) (.tmp 16), none⟩])
  (.cond (.tmp 17) (.seq (.region [⟨some 4, .mov (.con (.bool true)), none⟩])
  (.ret)) (.skip)))
  (.seq (.seq (.region [⟨some 18, .load (some 6) (.tmp 2), none⟩,
    ⟨some 19, .pcall 25 [(.tmp 18)], none⟩])
  (.cond (.tmp 19) (.seq (.region [⟨some 21, .load (some 6) (.tmp 2), none⟩,
    ⟨some 22, .pcall 26 [(.tmp 21)], none⟩,
    ⟨some 23, .call 31 [(.tmp 22)], none⟩,
    ⟨some 20, .take (.tmp 23), none⟩,
    ⟨some 24, .extract 20 0, none⟩,
    ⟨some 25, .extract 20 1, none⟩,
    ⟨some 5, .alloc [.int .i64 0, .int .i64 0, .sl .ex [], .str ⟨#[]⟩, .sl .ex [], .sl .ex []], none⟩,
    ⟨none, .store 6 (.tmp 5) (.tmp 24), none⟩,
    ⟨some 6, .mov (.tmp 25), none⟩])
  (.seq (.region [⟨some 26, .mov (.tmp 6), none⟩,
    ⟨some 27, .isnil .ifc true (.tmp 26), none⟩,
    ⟨some 28, .mov (.tmp 27), none⟩,
    ⟨some 29, .load (some 6) (.tmp 5), (some (28, false))⟩,
    ⟨some 30, .load (some 6) (.tmp 2), (some (28, false))⟩,
    ⟨some 31, .pcall 29 [(.tmp 29), (.tmp 30)], (some (28, false))⟩,
    ⟨some 32, .un .not (.tmp 31), (some (28, false))⟩,
    ⟨some 33, .pick (.tmp 28) (.con (.bool true)) (.tmp 32), none⟩])
  (.cond (.tmp 33) (.seq (.region [⟨some 4, .mov (.con (.bool false)), none⟩])
  (.ret)) (.skip)))) (.skip)))
  (.seq (.region [⟨some 35, .mov (.tmp 1), none⟩,
    ⟨some 36, .call 31 [(.tmp 35)], none⟩,
    ⟨some 34, .take (.tmp 36), none⟩,
    ⟨some 37, .extract 34 0, none⟩,
    ⟨some 38, .extract 34 1, none⟩,
    ⟨some 7, .alloc [.int .i64 0, .int .i64 0, .sl .ex [], .str ⟨#[]⟩, .sl .ex [], .sl .ex []], none⟩,
    ⟨none, .store 6 (.tmp 7) (.tmp 37), none⟩,
    ⟨some 8, .mov (.tmp 38), none⟩])
  (.seq (.region [⟨some 39, .mov (.tmp 8), none⟩,
    ⟨some 40, .isnil .ifc true (.tmp 39), none⟩,
    ⟨some 41, .mov (.tmp 40), none⟩,
    ⟨some 42, .load (some 6) (.tmp 7), (some (41, false))⟩,
    ⟨some 43, .pcall 26 [(.tmp 42)], (some (41, false))⟩,
    ⟨some 44, .cBytesStr (.tmp 43), (some (41, false))⟩,
    ⟨some 45, .mov (.tmp 1), (some (41, false))⟩,
    ⟨some 46, .cBytesStr (.tmp 45), (some (41, false))⟩,
    ⟨some 47, .bin .eql (.tmp 44) (.tmp 46), (some (41, false))⟩,
    ⟨some 48, .pick (.tmp 41) (.con (.bool true)) (.tmp 47), none⟩,
    ⟨some 4, .mov (.tmp 48), none⟩])
  (.ret)))))),
  [.tmp 4]⟩
theorem is_regencylaw12_ReplyBack : IsFn Tryz.prog 6 c_regencylaw12_ReplyBack := isFn_of [([], []), ([], [0]), ([], []), ([], []), ([], [1]), ([], []), ([], []), ([], [1]), ([], [1, 3]), ([], [5]), ([], []), ([], []), ([], [2]), ([], [4]), ([], [])] (by kernel_rfl)

/-- regency/clients.New -/
def c_clients_New : CFn := ⟨3, .seq (.region [⟨some 0, .mov (.con (.nilp)), none⟩])
  (.seq (.region [⟨some 1, .build [.int .i64 0, .int .i64 0, .int .i64 0, .sl .ex [], .str ⟨#[]⟩, .sl .ex [], .sl .ex [], .int .i64 0, .int .i64 0, .int .i64 0, .sl .ex [], .str ⟨#[]⟩, .sl .ex [], .sl .ex [], .int .i64 0, .int .i64 0, .int .i64 0, .sl .ex [], .str ⟨#[]⟩, .sl .ex [], .sl .ex [], .int .i64 0, .int .i64 0, .int .i64 0, .sl .ex [], .str ⟨#[]⟩, .sl .ex [], .sl .ex [], .int .i64 0, .int .i64 0, .int .i64 0, .sl .ex [], .str ⟨#[]⟩, .sl .ex [], .sl .ex [], .int .i64 0, .int .i64 0, .int .i64 0, .sl .ex [], .str ⟨#[]⟩, .sl .ex [], .sl .ex [], .int .i64 0, .int .i64 0, .int .i64 0, .sl .ex [], .str ⟨#[]⟩, .sl .ex [], .sl .ex [], .int .i64 0, .int .i64 0, .int .i64 0, .sl .ex [], .str ⟨#[]⟩, .sl .ex [], .sl .ex []] [], none⟩,
    ⟨some 2, .box (.tmp 1), none⟩,
    ⟨some 0, .mov (.tmp 2), none⟩])
  (.ret)),
  [.tmp 0]⟩
theorem is_clients_New : IsFn Tryz.prog 8 c_clients_New := isFn_of [([], []), ([], []), ([], [])] (by kernel_rfl)

/-- (*regency/clients.Book).Verdict -/
def c_clients_Book_Verdict : CFn := ⟨43, .seq (.region [⟨some 6, .mov (.con (.int .i64 0)), none⟩])
  (.seq (.seq (.region [⟨some 8, .mov (.tmp 0), none⟩,
    ⟨some 9, .isnil .ptr false (.tmp 8), none⟩,
    ⟨some 10, .mov (.tmp 9), none⟩,
    ⟨some 11, .mov (.tmp 1), (some (10, false))⟩,
    ⟨some 12, .pcall 32 [(.tmp 11)], (some (10, false))⟩,
    ⟨some 13, .un .not (.tmp 12), (some (10, false))⟩,
    ⟨some 14, .pick (.tmp 10) (.con (.bool true)) (.tmp 13), none⟩,
    ⟨some 15, .mov (.tmp 14), none⟩,
    ⟨some 16, .mov (.tmp 2), (some (15, false))⟩,
    ⟨some 17, .bin .lss (.tmp 16) (.con (.int .i64 1)), (some (15, false))⟩,
    ⟨some 18, .pick (.tmp 15) (.con (.bool true)) (.tmp 17), none⟩,
    ⟨some 19, .mov (.tmp 18), none⟩,
    ⟨some 20, .mov (.tmp 2), (some (19, false))⟩,
    ⟨some 21, .bin .gtr (.tmp 20) (.con (.int .i64 1048576)), (some (19, false))⟩,
    ⟨some 22, .pick (.tmp 19) (.con (.bool true)) (.tmp 21), none⟩])
  (.cond (.tmp 22) (.seq (.region [⟨some 6, .mov (.con (.int .i64 4)), none⟩])
  (.ret)) (.skip)))
  (.seq (.seq (.region [⟨some 23, .mov (.tmp 0), none⟩,
    ⟨some 24, .mov (.tmp 1), none⟩,
    ⟨some 25, .nilck (.tmp 23), none⟩,
    ⟨some 26, .faddr 0 (.tmp 25), none⟩,
    ⟨some 27, .iaddr 7 (some 8) (.tmp 26) (.tmp 24), none⟩,
    ⟨some 28, .faddr 0 (.tmp 27), none⟩,
    ⟨some 29, .load none (.tmp 28), none⟩,
    ⟨some 7, .mov (.tmp 29), none⟩])
  (.block 0 (.seq (.region [⟨some 31, .mov (.tmp 2), none⟩,
    ⟨some 32, .mov (.tmp 7), none⟩,
    ⟨some 33, .bin .lss (.tmp 31) (.tmp 32), none⟩,
    ⟨some 30, .mov (.tmp 33), none⟩])
  (.cond (.tmp 30) (.seq (.region [⟨some 6, .mov (.con (.int .i64 2)), none⟩])
  (.ret)) (.seq (.region [⟨some 35, .mov (.tmp 2), none⟩,
    ⟨some 36, .mov (.tmp 7), none⟩,
    ⟨some 37, .bin .eql (.tmp 35) (.tmp 36), none⟩,
    ⟨some 34, .mov (.tmp 37), none⟩])
  (.cond (.tmp 34) (.seq (.region [⟨some 6, .mov (.con (.int .i64 1)), none⟩])
  (.ret)) (.seq (.region [⟨some 39, .mov (.tmp 2), none⟩,
    ⟨some 40, .mov (.tmp 7), none⟩,
    ⟨some 41, .bin .add (.tmp 40) (.con (.int .i64 1)), none⟩,
    ⟨some 42, .bin .gtr (.tmp 39) (.tmp 41), none⟩,
    ⟨some 38, .mov (.tmp 42), none⟩])
  (.cond (.tmp 38) (.seq (.region [⟨some 6, .mov (.con (.int .i64 3)), none⟩])
  (.ret)) (.skip)))))))))
  (.seq (.region [⟨some 6, .mov (.con (.int .i64 0)), none⟩])
  (.ret)))),
  [.tmp 6]⟩
theorem is_clients_Book_Verdict : IsFn Tryz.prog 9 c_clients_Book_Verdict := isFn_of [([], []), ([], [4]), ([], []), ([], []), ([], []), ([], []), ([], []), ([], []), ([], []), ([], []), ([], []), ([], []), ([], []), ([], []), ([], []), ([], [])] (by kernel_rfl)

/-- (*regency/clients.Book).Note -/
def c_clients_Book_Note : CFn := ⟨43, .seq (.region [⟨some 7, .box (.tmp 3), none⟩,
    ⟨some 8, .mov (.con (.int .i64 0)), none⟩])
  (.seq (.seq (.region [⟨some 10, .mov (.tmp 0), none⟩,
    ⟨some 11, .isnil .ptr false (.tmp 10), none⟩])
  (.cond (.tmp 11) (.seq (.region [⟨some 8, .mov (.con (.int .i64 1)), none⟩])
  (.ret)) (.skip)))
  (.seq (.region [⟨some 12, .mov (.tmp 0), none⟩,
    ⟨some 13, .mov (.tmp 1), none⟩,
    ⟨some 14, .mov (.tmp 2), none⟩,
    ⟨some 15, .call 9 [(.tmp 12), (.tmp 13), (.tmp 14)], none⟩,
    ⟨some 9, .mov (.tmp 15), none⟩])
  (.seq (.block 0 (.seq (.region [⟨some 17, .mov (.tmp 9), none⟩,
    ⟨some 18, .bin .eql (.tmp 17) (.con (.int .i64 4)), none⟩,
    ⟨some 19, .mov (.tmp 18), none⟩,
    ⟨some 20, .load (some 6) (.tmp 7), (some (19, false))⟩,
    ⟨some 21, .pcall 25 [(.tmp 20)], (some (19, false))⟩,
    ⟨some 22, .un .not (.tmp 21), (some (19, false))⟩,
    ⟨some 23, .pick (.tmp 19) (.con (.bool true)) (.tmp 22), none⟩,
    ⟨some 16, .mov (.tmp 23), none⟩])
  (.cond (.tmp 16) (.seq (.region [⟨some 8, .mov (.con (.int .i64 2)), none⟩])
  (.ret)) (.seq (.region [⟨some 25, .mov (.tmp 9), none⟩,
    ⟨some 26, .bin .eql (.tmp 25) (.con (.int .i64 1)), none⟩,
    ⟨some 27, .mov (.tmp 26), none⟩,
    ⟨some 28, .mov (.tmp 9), (some (27, false))⟩,
    ⟨some 29, .bin .eql (.tmp 28) (.con (.int .i64 2)), (some (27, false))⟩,
    ⟨some 30, .pick (.tmp 27) (.con (.bool true)) (.tmp 29), none⟩,
    ⟨some 24, .mov (.tmp 30), none⟩])
  (.cond (.tmp 24) (.seq (.region [⟨some 8, .mov (.con (.int .i64 40)), none⟩])
  (.ret)) (.seq (.region [⟨some 32, .mov (.tmp 9), none⟩,
    ⟨some 33, .bin .eql (.tmp 32) (.con (.int .i64 3)), none⟩,
    ⟨some 31, .mov (.tmp 33), none⟩])
  (.cond (.tmp 31) (.seq (.region [⟨some 8, .mov (.con (.int .i64 41)), none⟩])
  (.ret)) (.skip))))))))
  (.seq (.region [⟨some 34, .mov (.tmp 0), none⟩,
    ⟨some 35, .mov (.tmp 1), none⟩,
    ⟨some 36, .mov (.tmp 2), none⟩,
    ⟨some 37, .load (some 6) (.tmp 7), none⟩,
    ⟨some 38, .pcall 33 [(.tmp 37)], none⟩,
    ⟨some 39, .build [.int .i64 0, .int .i64 0, .int .i64 0, .sl .ex [], .str ⟨#[]⟩, .sl .ex [], .sl .ex []] [(0, 1, (.tmp 36)), (1, 6, (.tmp 38))], none⟩,
    ⟨some 40, .nilck (.tmp 34), none⟩,
    ⟨some 41, .faddr 0 (.tmp 40), none⟩,
    ⟨some 42, .iaddr 7 (some 8) (.tmp 41) (.tmp 35), none⟩,
    ⟨none, .store 7 (.tmp 42) (.tmp 39), none⟩])
  (.seq (.region [⟨some 8, .mov (.con (.int .i64 0)), none⟩])
  (.ret)))))),
  [.tmp 8]⟩
theorem is_clients_Book_Note : IsFn Tryz.prog 12 c_clients_Book_Note := isFn_of [([], []), ([], []), ([], []), ([], []), ([], []), ([], [4]), ([], []), ([], []), ([], []), ([], []), ([], []), ([], []), ([], []), ([], []), ([], [4]), ([], []), ([], [])] (by kernel_rfl)

/-- regency/regencylaw17.bytes -/
def c_regencylaw17_bytes : CFn := ⟨12, .seq (.region [⟨some 2, .mov (.con (.str ⟨#[]⟩)), none⟩])
  (.seq (.region [⟨some 4, .build [.sl .ex []] [], none⟩,
    ⟨some 5, .box (.tmp 4), none⟩,
    ⟨some 3, .mov (.tmp 5), none⟩])
  (.seq (.region [⟨some 6, .mov (.tmp 0), none⟩,
    ⟨some 7, .mov (.tmp 3), none⟩,
    ⟨some 8, .call 34 [(.tmp 6), (.tmp 7)], none⟩])
  (.seq (.region [⟨some 9, .mov (.tmp 3), none⟩,
    ⟨some 10, .call 35 [(.tmp 9)], none⟩,
    ⟨some 11, .cBytesStr (.tmp 10), none⟩,
    ⟨some 2, .mov (.tmp 11), none⟩])
  (.ret)))),
  [.tmp 2]⟩
theorem is_regencylaw17_bytes : IsFn Tryz.prog 13 c_regencylaw17_bytes := isFn_of [([], []), ([], []), ([], []), ([], []), ([], [])] (by kernel_rfl)

/-- (*regency/clients.Book).Last -/
def c_clients_Book_Last : CFn := ⟨26, .seq (.region [⟨some 4, .mov (.con (.int .i64 0)), none⟩,
    ⟨some 5, .alloc [.int .i64 0, .int .i64 0, .sl .ex [], .str ⟨#[]⟩, .sl .ex [], .sl .ex []], none⟩])
  (.seq (.seq (.region [⟨some 7, .mov (.tmp 0), none⟩,
    ⟨some 8, .isnil .ptr false (.tmp 7), none⟩,
    ⟨some 9, .mov (.tmp 8), none⟩,
    ⟨some 10, .mov (.tmp 1), (some (9, false))⟩,
    ⟨some 11, .pcall 32 [(.tmp 10)], (some (9, false))⟩,
    ⟨some 12, .un .not (.tmp 11), (some (9, false))⟩,
    ⟨some 13, .pick (.tmp 9) (.con (.bool true)) (.tmp 12), none⟩])
  (.cond (.tmp 13) (.seq (.region [⟨some 14, .build [.int .i64 0, .int .i64 0, .sl .ex [], .str ⟨#[]⟩, .sl .ex [], .sl .ex []] [], none⟩,
    ⟨some 4, .mov (.con (.int .i64 0)), none⟩,
    ⟨none, .store 6 (.tmp 5) (.tmp 14), none⟩])
  (.ret)) (.skip)))
  (.seq (.region [⟨some 15, .mov (.tmp 0), none⟩,
    ⟨some 16, .mov (.tmp 1), none⟩,
    ⟨some 17, .nilck (.tmp 15), none⟩,
    ⟨some 18, .faddr 0 (.tmp 17), none⟩,
    ⟨some 19, .iaddr 7 (some 8) (.tmp 18) (.tmp 16), none⟩,
    ⟨some 20, .load (some 7) (.tmp 19), none⟩,
    ⟨some 6, .alloc [.int .i64 0, .int .i64 0, .int .i64 0, .sl .ex [], .str ⟨#[]⟩, .sl .ex [], .sl .ex []], none⟩,
    ⟨none, .store 7 (.tmp 6) (.tmp 20), none⟩])
  (.seq (.region [⟨some 21, .faddr 0 (.tmp 6), none⟩,
    ⟨some 22, .load none (.tmp 21), none⟩,
    ⟨some 23, .faddr 1 (.tmp 6), none⟩,
    ⟨some 24, .load (some 6) (.tmp 23), none⟩,
    ⟨some 25, .pcall 33 [(.tmp 24)], none⟩,
    ⟨some 4, .mov (.tmp 22), none⟩,
    ⟨none, .store 6 (.tmp 5) (.tmp 25), none⟩])
  (.ret)))),
  [.tmp 4, .cell 5 (some 6)]⟩
theorem is_clients_Book_Last : IsFn Tryz.prog 15 c_clients_Book_Last := isFn_of [([], []), ([], [4]), ([], []), ([], []), ([], []), ([], [4]), ([], [])] (by kernel_rfl)

abbrev s_regencyref12_Same_0 (v2 v3 v53 v54 : AV) : List AV := [.any, .any, v2, v3, .any, .any, .any, .any, .any, .any, .any, .any, .any, .any, .any, .any, .any, .any, .any, .any, .any, .any, .any, .any, .any, .any, .any, .any, .any, .any, .any, .any, .any, .any, .any, .any, .any, .any, .any, .any, .any, .any, .any, .any, .any, .any, .any, .any, .any, .any, .any, .any, .any, v53, v54, .any, .any, .any, .any, .any, .any, .any, .any, .any, .any, .any, .any, .any, .any]
abbrev x_regencyref12_Same_0  : List AV := [.any, .any, .any, .any, .any, .any, .any, .any, .any, .any, .any, .any, .any, .any, .any, .any, .any, .any, .any, .any, .any, .any, .any, .any, .any, .any, .any, .any, .any, .any, .any, .any, .any, .any, .any, .any, .any, .any, .any, .any, .any, .any, .any, .any, .any, .any, .any, .any, .any, .any, .any, .any, .any, .any, .any, .any, .any, .any, .any, .any, .any, .any, .any, .any, .any, .any, .any, .any, .any]
abbrev l_regencyref12_Same_0 : CC := .kill [0, 1, 4, 5, 6, 7, 8, 9, 10, 11, 12, 13, 14, 15, 16, 17, 18, 19, 20, 21, 22, 23, 24, 25, 26, 27, 28, 29, 30, 31, 32, 33, 34, 35, 36, 37, 38, 39, 40, 41, 42, 43, 44, 45, 46, 47, 48, 49, 50, 51, 52, 55, 56, 57, 58, 59, 60, 61, 62, 63, 64, 65, 66, 67, 68] (.seq (.region [⟨some 55, .bin .lss (.tmp 54) (.tmp 53), none⟩])
  (.seq (.cond (.tmp 55) (.skip) (.kill [2, 3, 53, 54, 55] (.exit 0)))
  (.seq (.block 1 (.seq (.region [⟨some 56, .mov (.tmp 54), none⟩,
    ⟨some 5, .mov (.tmp 56), none⟩])
  (.seq (.region [⟨some 57, .faddr 5 (.tmp 2), none⟩,
    ⟨some 58, .load none (.tmp 57), none⟩,
    ⟨some 59, .mov (.tmp 5), none⟩,
    ⟨some 60, .iaddr 3 none (.tmp 58) (.tmp 59), none⟩,
    ⟨some 61, .load (some 3) (.tmp 60), none⟩,
    ⟨some 62, .faddr 5 (.tmp 3), none⟩,
    ⟨some 63, .load none (.tmp 62), none⟩,
    ⟨some 64, .mov (.tmp 5), none⟩,
    ⟨some 65, .iaddr 3 none (.tmp 63) (.tmp 64), none⟩,
    ⟨some 66, .load (some 3) (.tmp 65), none⟩,
    ⟨some 67, .eqs true [(0, (.int .i64)), (1, (.int .i64)), (2, (.int .i64))] (.tmp 61) (.tmp 66), none⟩])
  (.cond (.tmp 67) (.seq (.region [⟨some 4, .mov (.con (.bool false)), none⟩])
  (.ret)) (.skip)))))
  (.region [⟨some 68, .bin .add (.tmp 54) (.con (.int .i64 1)), none⟩,
    ⟨some 54, .mov (.tmp 68), none⟩]))))
/-- regency/regencyref12.Same -/
def c_regencyref12_Same : CFn := ⟨69, .seq (.region [⟨some 2, .box (.tmp 0), none⟩,
    ⟨some 3, .box (.tmp 1), none⟩,
    ⟨some 4, .mov (.con (.bool false)), none⟩])
  (.seq (.seq (.region [⟨some 6, .faddr 0 (.tmp 2), none⟩,
    ⟨some 7, .load none (.tmp 6), none⟩,
    ⟨some 8, .faddr 0 (.tmp 3), none⟩,
    ⟨some 9, .load none (.tmp 8), none⟩,
    ⟨some 10, .bin .neq (.tmp 7) (.tmp 9), none⟩,
    ⟨some 11, .mov (.tmp 10), none⟩,
    ⟨some 12, .faddr 1 (.tmp 2), (some (11, false))⟩,
    ⟨some 13, .load none (.tmp 12), (some (11, false))⟩,
    ⟨some 14, .faddr 1 (.tmp 3), (some (11, false))⟩,
    ⟨some 15, .load none (.tmp 14), (some (11, false))⟩,
    ⟨some 16, .bin .neq (.tmp 13) (.tmp 15), (some (11, false))⟩,
    ⟨some 17, .pick (.tmp 11) (.con (.bool true)) (.tmp 16), none⟩,
    ⟨some 18, .mov (.tmp 17), none⟩,
    ⟨some 19, .faddr 2 (.tmp 2), (some (18, false))⟩,
    ⟨some 20, .load none (.tmp 19), (some (18, false))⟩,
    ⟨some 21, .cBytesStr (.tmp 20), (some (18, false))⟩,
    ⟨some 22, .faddr 2 (.tmp 3), (some (18, false))⟩,
    ⟨some 23, .load none (.tmp 22), (some (18, false))⟩,
    ⟨some 24, .cBytesStr (.tmp 23), (some (18, false))⟩,
    ⟨some 25, .bin .neq (.tmp 21) (.tmp 24), (some (18, false))⟩,
    ⟨some 26, .pick (.tmp 18) (.con (.bool true)) (.tmp 25), none⟩,
    ⟨some 27, .mov (.tmp 26), none⟩,
    ⟨some 28, .faddr 3 (.tmp 2), (some (27, false))⟩,
    ⟨some 29, .load none (.tmp 28), (some (27, false))⟩,
    ⟨some 30, .faddr 3 (.tmp 3), (some (27, false))⟩,
    ⟨some 31, .load none (.tmp 30), (some (27, false))⟩,
    ⟨some 32, .bin .neq (.tmp 29) (.tmp 31), (some (27, false))⟩,
    ⟨some 33, .pick (.tmp 27) (.con (.bool true)) (.tmp 32), none⟩,
    ⟨some 34, .mov (.tmp 33), none⟩,
    ⟨some 35, .faddr 4 (.tmp 2), (some (34, false))⟩,
    ⟨some 36, .load none (.tmp 35), (some (34, false))⟩,
    ⟨some 37, .faddr 4 (.tmp 3), (some (34, false))⟩,
    ⟨some 38, .load none (.tmp 37), (some (34, false))⟩,
    ⟨some 39, .pcall 38 [(.tmp 36), (.tmp 38)], (some (34, false))⟩,
    ⟨some 40, .un .not (.tmp 39), (some (34, false))⟩,
    ⟨some 41, .pick (.tmp 34) (.con (.bool true)) (.tmp 40), none⟩,
    ⟨some 42, .mov (.tmp 41), none⟩,
    ⟨some 43, .faddr 5 (.tmp 2), (some (42, false))⟩,
    ⟨some 44, .load none (.tmp 43), (some (42, false))⟩,
    ⟨some 45, .lenl (.tmp 44), (some (42, false))⟩,
    ⟨some 46, .faddr 5 (.tmp 3), (some (42, false))⟩,
    ⟨some 47, .load none (.tmp 46), (some (42, false))⟩,
    ⟨some 48, .lenl (.tmp 47), (some (42, false))⟩,
    ⟨some 49, .bin .neq (.tmp 45) (.tmp 48), (some (42, false))⟩,
    ⟨some 50, .pick (.tmp 42) (.con (.bool true)) (.tmp 49), none⟩])
  (.cond (.tmp 50) (.seq (.region [⟨some 4, .mov (.con (.bool false)), none⟩])
  (.ret)) (.skip)))
  (.seq (.seq (.region [⟨some 51, .faddr 5 (.tmp 2), none⟩,
    ⟨some 52, .load none (.tmp 51), none⟩,
    ⟨some 53, .lenl (.tmp 52), none⟩,
    ⟨some 54, .mov (.con (.int .i64 0)), none⟩])
  (.block 0 (.kill [0, 1, 4, 5, 6, 7, 8, 9, 10, 11, 12, 13, 14, 15, 16, 17, 18, 19, 20, 21, 22, 23, 24, 25, 26, 27, 28, 29, 30, 31, 32, 33, 34, 35, 36, 37, 38, 39, 40, 41, 42, 43, 44, 45, 46, 47, 48, 49, 50, 51, 52, 55, 56, 57, 58, 59, 60, 61, 62, 63, 64, 65, 66, 67, 68] (.loop l_regencyref12_Same_0))))
  (.seq (.region [⟨some 4, .mov (.con (.bool true)), none⟩])
  (.ret)))),
  [.tmp 4]⟩
theorem is_regencyref12_Same : IsFn Tryz.prog 16 c_regencyref12_Same := isFn_of [([], []), ([], [33]), ([], []), ([], []), ([], []), ([0, 1, 4, 5, 6, 7, 8, 9, 10, 11, 12, 13, 14, 15, 16, 17, 18, 19, 20, 21, 22, 23, 24, 25, 26, 27, 28, 29, 30, 31, 32, 33, 34, 35, 36, 37, 38, 39, 40, 41, 42, 43, 44, 45, 46, 47, 48, 49, 50, 51, 52, 55, 56, 57, 58, 59, 60, 61, 62, 63, 64, 65, 66, 67, 68], []), ([], []), ([2, 3, 53, 54, 55], []), ([], []), ([], []), ([], []), ([], []), ([], []), ([], []), ([], [])] (by kernel_rfl)

abbrev s_clients_Book_Clone_0 (v3 v14 v15 : AV) : List AV := [.any, undefA, .any, v3, .any, .any, .any, .any, .any, .any, .any, .any, .any, .any, v14, v15, .any, .any, .any, .any, .any, .any, .any, .any, .any, .any, .any]
abbrev x_clients_Book_Clone_0 (v3 : AV) : List AV := [.any, undefA, .any, v3, .any, .any, .any, .any, .any, .any, .any, .any, .any, .any, .any, .any, .any, .any, .any, .any, .any, .any, .any, .any, .any, .any, .any]
abbrev l_clients_Book_Clone_0 : CC := .kill [0, 2, 4, 5, 6, 7, 8, 9, 10, 11, 12, 13, 16, 17, 18, 19, 20, 21, 22, 23, 24, 25, 26] (.seq (.region [⟨some 16, .bin .lss (.tmp 15) (.con (.int .i64 8)), none⟩])
  (.seq (.cond (.tmp 16) (.skip) (.kill [14, 15, 16] (.exit 0)))
  (.seq (.block 1 (.seq (.region [⟨some 17, .mov (.tmp 15), none⟩,
    ⟨some 18, .idxa (some 7) 7 8 (.tmp 14) (.tmp 15), none⟩,
    ⟨some 5, .alloc [.int .i64 0, .int .i64 0, .int .i64 0, .sl .ex [], .str ⟨#[]⟩, .sl .ex [], .sl .ex []], none⟩,
    ⟨some 4, .mov (.tmp 17), none⟩,
    ⟨none, .store 7 (.tmp 5) (.tmp 18), none⟩])
  (.region [⟨some 19, .mov (.tmp 4), none⟩,
    ⟨some 20, .faddr 1 (.tmp 5), none⟩,
    ⟨some 21, .load (some 6) (.tmp 20), none⟩,
    ⟨some 22, .pcall 33 [(.tmp 21)], none⟩,
    ⟨some 23, .faddr 0 (.tmp 3), none⟩,
    ⟨some 24, .iaddr 7 (some 8) (.tmp 23) (.tmp 19), none⟩,
    ⟨some 25, .faddr 1 (.tmp 24), none⟩,
    ⟨none, .store 6 (.tmp 25) (.tmp 22), none⟩])))
  (.region [⟨some 26, .bin .add (.tmp 15) (.con (.int .i64 1)), none⟩,
    ⟨some 15, .mov (.tmp 26), none⟩]))))
/-- (*regency/clients.Book).Clone -/
def c_clients_Book_Clone : CFn := ⟨27, .seq (.region [⟨some 2, .mov (.con (.nilp)), none⟩])
  (.seq (.seq (.region [⟨some 6, .mov (.tmp 0), none⟩,
    ⟨some 7, .isnil .ptr false (.tmp 6), none⟩])
  (.cond (.tmp 7) (.seq (.region [⟨some 2, .mov (.con (.nilp)), none⟩])
  (.ret)) (.skip)))
  (.seq (.region [⟨some 8, .mov (.tmp 0), none⟩,
    ⟨some 9, .nilck (.tmp 8), none⟩,
    ⟨some 10, .load (some 56) (.tmp 9), none⟩,
    ⟨some 3, .alloc [.int .i64 0, .int .i64 0, .int .i64 0, .sl .ex [], .str ⟨#[]⟩, .sl .ex [], .sl .ex [], .int .i64 0, .int .i64 0, .int .i64 0, .sl .ex [], .str ⟨#[]⟩, .sl .ex [], .sl .ex [], .int .i64 0, .int .i64 0, .int .i64 0, .sl .ex [], .str ⟨#[]⟩, .sl .ex [], .sl .ex [], .int .i64 0, .int .i64 0, .int .i64 0, .sl .ex [], .str ⟨#[]⟩, .sl .ex [], .sl .ex [], .int .i64 0, .int .i64 0, .int .i64 0, .sl .ex [], .str ⟨#[]⟩, .sl .ex [], .sl .ex [], .int .i64 0, .int .i64 0, .int .i64 0, .sl .ex [], .str ⟨#[]⟩, .sl .ex [], .sl .ex [], .int .i64 0, .int .i64 0, .int .i64 0, .sl .ex [], .str ⟨#[]⟩, .sl .ex [], .sl .ex [], .int .i64 0, .int .i64 0, .int .i64 0, .sl .ex [], .str ⟨#[]⟩, .sl .ex [], .sl .ex []], none⟩,
    ⟨none, .store 56 (.tmp 3) (.tmp 10), none⟩])
  (.seq (.seq (.region [⟨some 11, .mov (.tmp 0), none⟩,
    ⟨some 12, .nilck (.tmp 11), none⟩,
    ⟨some 13, .faddr 0 (.tmp 12), none⟩,
    ⟨some 14, .load (some 56) (.tmp 13), none⟩,
    ⟨some 15, .mov (.con (.int .i64 0)), none⟩])
  (.block 0 (.kill [0, 2, 4, 5, 6, 7, 8, 9, 10, 11, 12, 13, 16, 17, 18, 19, 20, 21, 22, 23, 24, 25, 26] (.loop l_clients_Book_Clone_0))))
  (.seq (.region [⟨some 2, .mov (.tmp 3), none⟩])
  (.ret))))),
  [.tmp 2]⟩
theorem is_clients_Book_Clone : IsFn Tryz.prog 17 c_clients_Book_Clone := isFn_of [([], []), ([], []), ([], []), ([], []), ([], []), ([], []), ([0, 2, 4, 5, 6, 7, 8, 9, 10, 11, 12, 13, 16, 17, 18, 19, 20, 21, 22, 23, 24, 25, 26], []), ([], []), ([14, 15, 16], []), ([], []), ([], [3]), ([], []), ([], []), ([], [])] (by kernel_rfl)

abbrev s_clients_Get_0 (v0 v4 v10 : AV) : List AV := [v0, undefA, .any, .any, v4, .any, .any, .any, .any, .any, v10, .any, .any, .any, .any, .any, .any, .any, .any, .any, .any, .any, .any, .any, .any, .any, .any, .any, .any, .any, .any, .any, .any, .any, .any, undefA, undefA, undefA, undefA]
abbrev x_clients_Get_0 (v0 v4 : AV) : List AV := [v0, undefA, .any, .any, v4, .any, .any, .any, .any, .any, .any, .any, .any, .any, .any, .any, .any, .any, .any, .any, .any, .any, .any, .any, .any, .any, .any, .any, .any, .any, .any, .any, .any, .any, .any, undefA, undefA, undefA, undefA]
abbrev x_clients_Get_1 (v0 v4 v10 : AV) : List AV := [v0, undefA, .any, .any, v4, .any, .any, .any, .any, .any, v10, .any, .any, .any, .any, .any, .any, .any, .any, .any, .any, .any, .any, .any, .any, .any, .any, .any, .any, .any, .any, .any, .any, .any, .any, undefA, undefA, undefA, undefA]
abbrev l_clients_Get_0 : CC := .kill [2, 3, 5, 6, 7, 8, 9, 11, 12, 13, 14, 15, 16, 17, 18, 19, 20, 21, 22, 23, 24, 25, 26, 27, 28, 29, 30, 31, 32, 33, 34] (.seq (.region [⟨some 11, .bin .lss (.tmp 10) (.con (.int .i64 8)), none⟩])
  (.seq (.cond (.tmp 11) (.skip) (.kill [10, 11] (.exit 0)))
  (.seq (.block 1 (.seq (.region [⟨some 12, .mov (.tmp 10), none⟩,
    ⟨some 5, .mov (.tmp 12), none⟩])
  (.seq (.region [⟨some 13, .mov (.tmp 0), none⟩,
    ⟨some 14, .call 39 [(.tmp 13), (.con (.int .i64 1048576))], none⟩,
    ⟨some 6, .mov (.tmp 14), none⟩])
  (.seq (.seq (.region [⟨some 15, .mov (.tmp 6), none⟩,
    ⟨some 16, .bin .eql (.tmp 15) (.con (.int .i64 0)), none⟩])
  (.cond (.tmp 16) (.kill [5, 6, 11, 12, 13, 14, 15, 16] (.exit 1)) (.skip)))
  (.seq (.region [⟨some 18, .mov (.tmp 0), none⟩,
    ⟨some 19, .call 40 [(.tmp 18), (.con (.int .i64 2048))], none⟩,
    ⟨some 20, .cStrBytes (.tmp 19), none⟩,
    ⟨some 21, .call 31 [(.tmp 20)], none⟩,
    ⟨some 17, .take (.tmp 21), none⟩,
    ⟨some 22, .extract 17 0, none⟩,
    ⟨some 23, .extract 17 1, none⟩,
    ⟨some 7, .alloc [.int .i64 0, .int .i64 0, .sl .ex [], .str ⟨#[]⟩, .sl .ex [], .sl .ex []], none⟩,
    ⟨none, .store 6 (.tmp 7) (.tmp 22), none⟩,
    ⟨some 8, .mov (.tmp 23), none⟩])
  (.seq (.seq (.region [⟨some 24, .mov (.tmp 8), none⟩,
    ⟨some 25, .isnil .ifc true (.tmp 24), none⟩])
  (.cond (.tmp 25) (.seq (.region [⟨some 2, .mov (.con (.nilp)), none⟩,
    ⟨some 3, .mov (.con (.int .i64 10)), none⟩])
  (.ret)) (.skip)))
  (.region [⟨some 26, .mov (.tmp 4), none⟩,
    ⟨some 27, .mov (.tmp 5), none⟩,
    ⟨some 28, .mov (.tmp 6), none⟩,
    ⟨some 29, .load (some 6) (.tmp 7), none⟩,
    ⟨some 30, .build [.int .i64 0, .int .i64 0, .int .i64 0, .sl .ex [], .str ⟨#[]⟩, .sl .ex [], .sl .ex []] [(0, 1, (.tmp 28)), (1, 6, (.tmp 29))], none⟩,
    ⟨some 31, .nilck (.tmp 26), none⟩,
    ⟨some 32, .faddr 0 (.tmp 31), none⟩,
    ⟨some 33, .iaddr 7 (some 8) (.tmp 32) (.tmp 27), none⟩,
    ⟨none, .store 7 (.tmp 33) (.tmp 30), none⟩])))))))
  (.kill [5, 6, 7, 8, 11, 12, 13, 14, 15, 16, 17, 18, 19, 20, 21, 22, 23, 24, 25, 26, 27, 28, 29, 30, 31, 32, 33] (.region [⟨some 34, .bin .add (.tmp 10) (.con (.int .i64 1)), none⟩,
    ⟨some 10, .mov (.tmp 34), none⟩])))))
/-- regency/clients.Get -/
def c_clients_Get : CFn := ⟨39, .seq (.region [⟨some 2, .mov (.con (.nilp)), none⟩,
    ⟨some 3, .mov (.con (.int .i64 0)), none⟩])
  (.seq (.region [⟨some 9, .call 8 [], none⟩,
    ⟨some 4, .mov (.tmp 9), none⟩])
  (.seq (.seq (.region [⟨some 10, .mov (.con (.int .i64 0)), none⟩])
  (.block 0 (.kill [2, 3, 5, 6, 7, 8, 9, 11, 12, 13, 14, 15, 16, 17, 18, 19, 20, 21, 22, 23, 24, 25, 26, 27, 28, 29, 30, 31, 32, 33, 34] (.loop l_clients_Get_0))))
  (.seq (.seq (.region [⟨some 35, .mov (.tmp 0), none⟩,
    ⟨some 36, .call 41 [(.tmp 35)], none⟩,
    ⟨some 37, .isnil .ifc true (.tmp 36), none⟩])
  (.cond (.tmp 37) (.seq (.region [⟨some 2, .mov (.con (.nilp)), none⟩,
    ⟨some 3, .mov (.con (.int .i64 10)), none⟩])
  (.ret)) (.skip)))
  (.seq (.region [⟨some 38, .mov (.tmp 4), none⟩,
    ⟨some 2, .mov (.tmp 38), none⟩,
    ⟨some 3, .mov (.con (.int .i64 0)), none⟩])
  (.ret))))),
  [.tmp 2, .tmp 3]⟩
theorem is_clients_Get : IsFn Tryz.prog 18 c_clients_Get := isFn_of [([], []), ([], []), ([], []), ([2, 3, 5, 6, 7, 8, 9, 11, 12, 13, 14, 15, 16, 17, 18, 19, 20, 21, 22, 23, 24, 25, 26, 27, 28, 29, 30, 31, 32, 33, 34], []), ([], []), ([10, 11], []), ([], []), ([], []), ([], []), ([5, 6, 11, 12, 13, 14, 15, 16], []), ([], [4]), ([], []), ([], []), ([], []), ([], []), ([5, 6, 7, 8, 11, 12, 13, 14, 15, 16, 17, 18, 19, 20, 21, 22, 23, 24, 25, 26, 27, 28, 29, 30, 31, 32, 33], []), ([], []), ([], []), ([], []), ([], []), ([], [])] (by kernel_rfl)

/-- regency/tape.New -/
def c_tape_New : CFn := ⟨7, .seq (.region [⟨some 2, .mov (.con (.nilp)), none⟩])
  (.seq (.region [⟨some 3, .take (.tmp 0), none⟩,
    ⟨some 4, .pcall 42 [(.tmp 3)], none⟩,
    ⟨some 5, .build [.sl .ex [], .nili] [(0, 1, (.tmp 4))], none⟩,
    ⟨some 6, .box (.tmp 5), none⟩,
    ⟨some 2, .mov (.tmp 6), none⟩])
  (.ret)),
  [.tmp 2]⟩
theorem is_tape_New : IsFn Tryz.prog 19 c_tape_New := isFn_of [([], []), ([], [0, 1]), ([], [])] (by kernel_rfl)

/-- regency/regencylaw12.first -/
def c_regencylaw12_first : CFn := ⟨49, .seq (.region [⟨some 0, .mov (.con (.bool false)), none⟩])
  (.seq (.region [⟨some 6, .bslice 1 true [(.con (.int .u8 97))], none⟩,
    ⟨some 7, .bconv (.tmp 6), none⟩,
    ⟨some 8, .build [.int .i64 0, .int .i64 0, .sl .ex [], .str ⟨#[]⟩, .sl .ex [], .sl .ex []] [(1, 1, (.con (.int .i64 3))), (2, 1, (.tmp 7))], none⟩,
    ⟨some 1, .alloc [.int .i64 0, .int .i64 0, .sl .ex [], .str ⟨#[]⟩, .sl .ex [], .sl .ex []], none⟩,
    ⟨none, .store 6 (.tmp 1) (.tmp 8), none⟩])
  (.seq (.region [⟨some 10, .load (some 6) (.tmp 1), none⟩,
    ⟨some 11, .pcall 26 [(.tmp 10)], none⟩,
    ⟨some 12, .call 31 [(.tmp 11)], none⟩,
    ⟨some 9, .take (.tmp 12), none⟩,
    ⟨some 13, .extract 9 0, none⟩,
    ⟨some 14, .extract 9 1, none⟩,
    ⟨some 2, .alloc [.int .i64 0, .int .i64 0, .sl .ex [], .str ⟨#[]⟩, .sl .ex [], .sl .ex []], none⟩,
    ⟨none, .store 6 (.tmp 2) (.tmp 13), none⟩,
    ⟨some 3, .mov (.tmp 14), none⟩])
  (.seq (.region [⟨some 16, .call 31 [(.con (.sl .ex []))], none⟩,
    ⟨some 15, .take (.tmp 16), none⟩,
    ⟨some 17, .extract 15 0, none⟩,
    ⟨some 18, .extract 15 1, none⟩,
    ⟨some 4, .alloc [.int .i64 0, .int .i64 0, .sl .ex [], .str ⟨#[]⟩, .sl .ex [], .sl .ex []], none⟩,
    ⟨none, .store 6 (.tmp 4) (.tmp 17), none⟩,
    ⟨some 5, .mov (.tmp 18), none⟩])
  (.seq (.region [⟨some 19, .load (some 6) (.tmp 1), none⟩,
    ⟨some 20, .pcall 27 [(.tmp 19)], none⟩,
    ⟨some 21, .bin .eql (.tmp 20) (.con (.str ⟨#[111, 107, 32, 51, 32, 54, 49]⟩)), none⟩,
    ⟨some 22, .mov (.tmp 21), none⟩,
    ⟨some 23, .mov (.tmp 3), (some (22, true))⟩,
    ⟨some 24, .isnil .ifc false (.tmp 23), (some (22, true))⟩,
    ⟨some 25, .pick (.tmp 22) (.tmp 24) (.con (.bool false)), none⟩,
    ⟨some 26, .mov (.tmp 25), none⟩,
    ⟨some 27, .load (some 6) (.tmp 2), (some (26, true))⟩,
    ⟨some 28, .load (some 6) (.tmp 1), (some (26, true))⟩,
    ⟨some 29, .pcall 29 [(.tmp 27), (.tmp 28)], (some (26, true))⟩,
    ⟨some 30, .pick (.tmp 26) (.tmp 29) (.con (.bool false)), none⟩,
    ⟨some 31, .mov (.tmp 30), none⟩,
    ⟨some 32, .mov (.tmp 5), (some (31, true))⟩,
    ⟨some 33, .call 46 [(.tmp 32)], (some (31, true))⟩,
    ⟨some 34, .bin .eql (.tmp 33) (.con (.int .i64 10)), (some (31, true))⟩,
    ⟨some 35, .pick (.tmp 31) (.tmp 34) (.con (.bool false)), none⟩,
    ⟨some 36, .mov (.tmp 35), none⟩,
    ⟨some 37, .mov (.tmp 5), (some (36, true))⟩,
    ⟨some 38, .call 47 [(.tmp 37), (.con (.int .i64 11))], (some (36, true))⟩,
    ⟨some 39, .pick (.tmp 36) (.tmp 38) (.con (.bool false)), none⟩,
    ⟨some 40, .mov (.tmp 39), none⟩,
    ⟨some 41, .load (some 6) (.tmp 1), (some (40, true))⟩,
    ⟨some 42, .pcall 25 [(.tmp 41)], (some (40, true))⟩,
    ⟨some 43, .pick (.tmp 40) (.tmp 42) (.con (.bool false)), none⟩,
    ⟨some 44, .mov (.tmp 43), none⟩,
    ⟨some 45, .pcall 30 [(.con (.int .i64 36))], (some (44, true))⟩,
    ⟨some 46, .fld none 0 (.tmp 45), (some (44, true))⟩,
    ⟨some 47, .bin .eql (.tmp 46) (.con (.int .i64 36)), (some (44, true))⟩,
    ⟨some 48, .pick (.tmp 44) (.tmp 47) (.con (.bool false)), none⟩,
    ⟨some 0, .mov (.tmp 48), none⟩])
  (.ret))))),
  [.tmp 0]⟩
theorem is_regencylaw12_first : IsFn Tryz.prog 21 c_regencylaw12_first := isFn_of [([], []), ([], [0]), ([], [1, 3]), ([], [1]), ([], [1, 10, 23, 26]), ([], [])] (by kernel_rfl)

/-- regency/regencylaw12.great -/
def c_regencylaw12_great : CFn := ⟨25, .seq (.region [⟨some 1, .box (.tmp 0), none⟩,
    ⟨some 2, .mov (.con (.bool false)), none⟩])
  (.seq (.region [⟨some 3, .faddr 2 (.tmp 1), none⟩,
    ⟨some 4, .load none (.tmp 3), none⟩,
    ⟨some 5, .lenl (.tmp 4), none⟩,
    ⟨some 6, .bin .gtr (.tmp 5) (.con (.int .i64 600)), none⟩,
    ⟨some 7, .mov (.tmp 6), none⟩,
    ⟨some 8, .faddr 3 (.tmp 1), (some (7, false))⟩,
    ⟨some 9, .load none (.tmp 8), (some (7, false))⟩,
    ⟨some 10, .lens (.tmp 9), (some (7, false))⟩,
    ⟨some 11, .bin .gtr (.tmp 10) (.con (.int .i64 100)), (some (7, false))⟩,
    ⟨some 12, .pick (.tmp 7) (.con (.bool true)) (.tmp 11), none⟩,
    ⟨some 13, .mov (.tmp 12), none⟩,
    ⟨some 14, .faddr 4 (.tmp 1), (some (13, false))⟩,
    ⟨some 15, .load none (.tmp 14), (some (13, false))⟩,
    ⟨some 16, .lenl (.tmp 15), (some (13, false))⟩,
    ⟨some 17, .bin .gtr (.tmp 16) (.con (.int .i64 30)), (some (13, false))⟩,
    ⟨some 18, .pick (.tmp 13) (.con (.bool true)) (.tmp 17), none⟩,
    ⟨some 19, .mov (.tmp 18), none⟩,
    ⟨some 20, .faddr 5 (.tmp 1), (some (19, false))⟩,
    ⟨some 21, .load none (.tmp 20), (some (19, false))⟩,
    ⟨some 22, .lenl (.tmp 21), (some (19, false))⟩,
    ⟨some 23, .bin .gtr (.tmp 22) (.con (.int .i64 60)), (some (19, false))⟩,
    ⟨some 24, .pick (.tmp 19) (.con (.bool true)) (.tmp 23), none⟩,
    ⟨some 2, .mov (.tmp 24), none⟩])
  (.ret)),
  [.tmp 2]⟩
theorem is_regencylaw12_great : IsFn Tryz.prog 22 c_regencylaw12_great := isFn_of [([], []), ([], []), ([], [])] (by kernel_rfl)

abbrev s_regencyref12_Right_0 (v1 v3 v47 v48 v49 : AV) : List AV := [.any, v1, .any, v3, .any, .any, .any, .any, .any, .any, .any, .any, .any, .any, .any, .any, .any, .any, .any, .any, .any, .any, .any, .any, .any, .any, .any, .any, .any, .any, .any, .any, .any, .any, .any, .any, .any, .any, .any, .any, .any, .any, .any, .any, .any, .any, .any, v47, v48, v49, .any, .any, .any, .any, .any, .any, .any, .any, .any, .any, .any, .any, .any, .any, .any, .any, .any, .any, .any, .any, .any, .any, .any, .any, .any, .any, .any, .any, .any, .any, .any, .any, .any, .any, .any, .any, .any, undefA]
abbrev x_regencyref12_Right_0 (v3 : AV) : List AV := [.any, .any, .any, v3, .any, .any, .any, .any, .any, .any, .any, .any, .any, .any, .any, .any, .any, .any, .any, .any, .any, .any, .any, .any, .any, .any, .any, .any, .any, .any, .any, .any, .any, .any, .any, .any, .any, .any, .any, .any, .any, .any, .any, .any, .any, .any, .any, .any, .any, .any, .any, .any, .any, .any, .any, .any, .any, .any, .any, .any, .any, .any, .any, .any, .any, .any, .any, .any, .any, .any, .any, .any, .any, .any, .any, .any, .any, .any, .any, .any, .any, .any, .any, .any, .any, .any, .any, undefA]
abbrev l_regencyref12_Right_0 : CC := .kill [0, 2, 4, 5, 6, 7, 8, 9, 10, 11, 12, 13, 14, 15, 16, 17, 18, 19, 20, 21, 22, 23, 24, 25, 26, 27, 28, 29, 30, 31, 32, 33, 34, 35, 36, 37, 38, 39, 40, 41, 42, 43, 44, 45, 46, 50, 51, 52, 53, 54, 55, 56, 57, 58, 59, 60, 61, 62, 63, 64, 65, 66, 67, 68, 69, 70, 71, 72, 73, 74, 75, 76, 77, 78, 79, 80, 81, 82, 83, 84, 85, 86] (.seq (.region [⟨some 50, .bin .lss (.tmp 49) (.tmp 48), none⟩])
  (.seq (.cond (.tmp 50) (.skip) (.kill [1, 47, 48, 49, 50] (.exit 0)))
  (.seq (.block 1 (.seq (.region [⟨some 51, .mov (.tmp 49), none⟩,
    ⟨some 52, .iaddr 3 none (.tmp 47) (.tmp 49), none⟩,
    ⟨some 53, .load (some 3) (.tmp 52), none⟩,
    ⟨some 7, .alloc [.int .i64 0, .int .i64 0, .int .i64 0], none⟩,
    ⟨some 6, .mov (.tmp 51), none⟩,
    ⟨none, .store 3 (.tmp 7) (.tmp 53), none⟩])
  (.region [⟨some 54, .mov (.tmp 3), none⟩,
    ⟨some 55, .mov (.tmp 54), none⟩,
    ⟨some 56, .faddr 0 (.tmp 7), (some (55, true))⟩,
    ⟨some 57, .load none (.tmp 56), (some (55, true))⟩,
    ⟨some 58, .pcall 48 [(.tmp 57), (.con (.int .i64 0)), (.con (.int .i64 1048576))], (some (55, true))⟩,
    ⟨some 59, .pick (.tmp 55) (.tmp 58) (.con (.bool false)), none⟩,
    ⟨some 60, .mov (.tmp 59), none⟩,
    ⟨some 61, .faddr 1 (.tmp 7), (some (60, true))⟩,
    ⟨some 62, .load none (.tmp 61), (some (60, true))⟩,
    ⟨some 63, .pcall 48 [(.tmp 62), (.con (.int .i64 1)), (.con (.int .i64 5))], (some (60, true))⟩,
    ⟨some 64, .pick (.tmp 60) (.tmp 63) (.con (.bool false)), none⟩,
    ⟨some 65, .mov (.tmp 64), none⟩,
    ⟨some 66, .faddr 2 (.tmp 7), (some (65, true))⟩,
    ⟨some 67, .load none (.tmp 66), (some (65, true))⟩,
    ⟨some 68, .pcall 48 [(.tmp 67), (.con (.int .i64 0)), (.con (.int .i64 1048576))], (some (65, true))⟩,
    ⟨some 69, .pick (.tmp 65) (.tmp 68) (.con (.bool false)), none⟩,
    ⟨some 70, .mov (.tmp 69), none⟩,
    ⟨some 71, .mov (.tmp 6), (some (70, true))⟩,
    ⟨some 72, .bin .eql (.tmp 71) (.con (.int .i64 0)), (some (70, true))⟩,
    ⟨some 73, .mov (.tmp 72), (some (70, true))⟩,
    ⟨some 74, .faddr 5 (.tmp 1), (some (73, false))⟩,
    ⟨some 75, .load none (.tmp 74), (some (73, false))⟩,
    ⟨some 76, .mov (.tmp 6), (some (73, false))⟩,
    ⟨some 77, .bin .sub (.tmp 76) (.con (.int .i64 1)), (some (73, false))⟩,
    ⟨some 78, .iaddr 3 none (.tmp 75) (.tmp 77), (some (73, false))⟩,
    ⟨some 79, .faddr 0 (.tmp 78), (some (73, false))⟩,
    ⟨some 80, .load none (.tmp 79), (some (73, false))⟩,
    ⟨some 81, .faddr 0 (.tmp 7), (some (73, false))⟩,
    ⟨some 82, .load none (.tmp 81), (some (73, false))⟩,
    ⟨some 83, .bin .lss (.tmp 80) (.tmp 82), (some (73, false))⟩,
    ⟨some 84, .pick (.tmp 73) (.con (.bool true)) (.tmp 83), (some (70, true))⟩,
    ⟨some 85, .pick (.tmp 70) (.tmp 84) (.con (.bool false)), none⟩,
    ⟨some 3, .mov (.tmp 85), none⟩])))
  (.region [⟨some 86, .bin .add (.tmp 49) (.con (.int .i64 1)), none⟩,
    ⟨some 49, .mov (.tmp 86), none⟩]))))
/-- regency/regencyref12.Right -/
def c_regencyref12_Right : CFn := ⟨88, .seq (.region [⟨some 1, .box (.tmp 0), none⟩,
    ⟨some 2, .mov (.con (.bool false)), none⟩])
  (.seq (.region [⟨some 8, .faddr 0 (.tmp 1), none⟩,
    ⟨some 9, .load none (.tmp 8), none⟩,
    ⟨some 10, .pcall 48 [(.tmp 9), (.con (.int .i64 0)), (.con (.int .i64 99))], none⟩,
    ⟨some 11, .mov (.tmp 10), none⟩,
    ⟨some 12, .faddr 1 (.tmp 1), (some (11, true))⟩,
    ⟨some 13, .load none (.tmp 12), (some (11, true))⟩,
    ⟨some 14, .pcall 48 [(.tmp 13), (.con (.int .i64 0)), (.con (.int .i64 1099511627776))], (some (11, true))⟩,
    ⟨some 15, .pick (.tmp 11) (.tmp 14) (.con (.bool false)), none⟩,
    ⟨some 16, .mov (.tmp 15), none⟩,
    ⟨some 17, .faddr 2 (.tmp 1), (some (16, true))⟩,
    ⟨some 18, .load none (.tmp 17), (some (16, true))⟩,
    ⟨some 19, .lenl (.tmp 18), (some (16, true))⟩,
    ⟨some 20, .bin .leq (.tmp 19) (.con (.int .i64 256)), (some (16, true))⟩,
    ⟨some 21, .pick (.tmp 16) (.tmp 20) (.con (.bool false)), none⟩,
    ⟨some 22, .mov (.tmp 21), none⟩,
    ⟨some 23, .faddr 4 (.tmp 1), (some (22, true))⟩,
    ⟨some 24, .load none (.tmp 23), (some (22, true))⟩,
    ⟨some 25, .pcall 49 [(.tmp 24)], (some (22, true))⟩,
    ⟨some 26, .pick (.tmp 22) (.tmp 25) (.con (.bool false)), none⟩,
    ⟨some 27, .mov (.tmp 26), none⟩,
    ⟨some 28, .faddr 5 (.tmp 1), (some (27, true))⟩,
    ⟨some 29, .load none (.tmp 28), (some (27, true))⟩,
    ⟨some 30, .lenl (.tmp 29), (some (27, true))⟩,
    ⟨some 31, .bin .leq (.tmp 30) (.con (.int .i64 16)), (some (27, true))⟩,
    ⟨some 32, .pick (.tmp 27) (.tmp 31) (.con (.bool false)), none⟩,
    ⟨some 3, .mov (.tmp 32), none⟩])
  (.seq (.seq (.region [⟨some 33, .faddr 3 (.tmp 1), none⟩,
    ⟨some 34, .load none (.tmp 33), none⟩,
    ⟨some 35, .bin .neq (.tmp 34) (.con (.str ⟨#[]⟩)), none⟩])
  (.cond (.tmp 35) (.seq (.region [⟨some 37, .faddr 3 (.tmp 1), none⟩,
    ⟨some 38, .load none (.tmp 37), none⟩,
    ⟨some 39, .pcall 50 [(.tmp 38)], none⟩,
    ⟨some 36, .take (.tmp 39), none⟩,
    ⟨some 40, .extract 36 0, none⟩,
    ⟨some 41, .extract 36 1, none⟩,
    ⟨some 4, .alloc [.sl .ex [], .int .i64 0], none⟩,
    ⟨none, .store 2 (.tmp 4) (.tmp 40), none⟩,
    ⟨some 5, .mov (.tmp 41), none⟩])
  (.region [⟨some 42, .mov (.tmp 3), none⟩,
    ⟨some 43, .mov (.tmp 42), none⟩,
    ⟨some 44, .mov (.tmp 5), (some (43, true))⟩,
    ⟨some 45, .pick (.tmp 43) (.tmp 44) (.con (.bool false)), none⟩,
    ⟨some 3, .mov (.tmp 45), none⟩])) (.skip)))
  (.seq (.seq (.region [⟨some 46, .faddr 5 (.tmp 1), none⟩,
    ⟨some 47, .load none (.tmp 46), none⟩,
    ⟨some 48, .lenl (.tmp 47), none⟩,
    ⟨some 49, .mov (.con (.int .i64 0)), none⟩])
  (.block 0 (.kill [0, 2, 4, 5, 6, 7, 8, 9, 10, 11, 12, 13, 14, 15, 16, 17, 18, 19, 20, 21, 22, 23, 24, 25, 26, 27, 28, 29, 30, 31, 32, 33, 34, 35, 36, 37, 38, 39, 40, 41, 42, 43, 44, 45, 46, 50, 51, 52, 53, 54, 55, 56, 57, 58, 59, 60, 61, 62, 63, 64, 65, 66, 67, 68, 69, 70, 71, 72, 73, 74, 75, 76, 77, 78, 79, 80, 81, 82, 83, 84, 85, 86] (.loop l_regencyref12_Right_0))))
  (.seq (.region [⟨some 87, .mov (.tmp 3), none⟩,
    ⟨some 2, .mov (.tmp 87), none⟩])
  (.ret))))),
  [.tmp 2]⟩
theorem is_regencyref12_Right : IsFn Tryz.prog 23 c_regencyref12_Right := isFn_of [([], []), ([], [2, 6, 17]), ([], []), ([], [2, 3]), ([], []), ([], []), ([0, 2, 4, 5, 6, 7, 8, 9, 10, 11, 12, 13, 14, 15, 16, 17, 18, 19, 20, 21, 22, 23, 24, 25, 26, 27, 28, 29, 30, 31, 32, 33, 34, 35, 36, 37, 38, 39, 40, 41, 42, 43, 44, 45, 46, 50, 51, 52, 53, 54, 55, 56, 57, 58, 59, 60, 61, 62, 63, 64, 65, 66, 67, 68, 69, 70, 71, 72, 73, 74, 75, 76, 77, 78, 79, 80, 81, 82, 83, 84, 85, 86], []), ([], []), ([1, 47, 48, 49, 50], []), ([], []), ([], [4, 9, 14]), ([], []), ([], []), ([], [])] (by kernel_rfl)

abbrev s_regencyref12_Bytes_0 (v3 v32 v33 v34 : AV) : List AV := [.any, .any, .any, v3, undefA, .any, .any, .any, .any, .any, .any, .any, .any, .any, .any, .any, .any, .any, .any, .any, .any, .any, .any, .any, .any, .any, .any, .any, .any, .any, .any, .any, v32, v33, v34, .any, .any, .any, .any, .any, .any, .any, .any, .any, .any, .any, .any, .any, .any, .any, .any, .any, undefA]
abbrev x_regencyref12_Bytes_0 (v3 : AV) : List AV := [.any, .any, .any, v3, undefA, .any, .any, .any, .any, .any, .any, .any, .any, .any, .any, .any, .any, .any, .any, .any, .any, .any, .any, .any, .any, .any, .any, .any, .any, .any, .any, .any, .any, .any, .any, .any, .any, .any, .any, .any, .any, .any, .any, .any, .any, .any, .any, .any, .any, .any, .any, .any, undefA]
abbrev l_regencyref12_Bytes_0 : CC := .kill [0, 1, 2, 5, 6, 7, 8, 9, 10, 11, 12, 13, 14, 15, 16, 17, 18, 19, 20, 21, 22, 23, 24, 25, 26, 27, 28, 29, 30, 31, 35, 36, 37, 38, 39, 40, 41, 42, 43, 44, 45, 46, 47, 48, 49, 50, 51] (.seq (.region [⟨some 35, .bin .lss (.tmp 34) (.tmp 33), none⟩])
  (.seq (.cond (.tmp 35) (.skip) (.kill [32, 33, 34, 35] (.exit 0)))
  (.seq (.block 1 (.seq (.region [⟨some 36, .iaddr 3 none (.tmp 32) (.tmp 34), none⟩,
    ⟨some 37, .load (some 3) (.tmp 36), none⟩,
    ⟨some 5, .alloc [.int .i64 0, .int .i64 0, .int .i64 0], none⟩,
    ⟨none, .store 3 (.tmp 5) (.tmp 37), none⟩])
  (.region [⟨some 38, .mov (.tmp 3), none⟩,
    ⟨some 39, .faddr 0 (.tmp 5), none⟩,
    ⟨some 40, .load none (.tmp 39), none⟩,
    ⟨some 41, .pcall 36 [(.tmp 40)], none⟩,
    ⟨some 42, .faddr 1 (.tmp 5), none⟩,
    ⟨some 43, .load none (.tmp 42), none⟩,
    ⟨some 44, .pcall 36 [(.tmp 43)], none⟩,
    ⟨some 45, .bin .add (.tmp 41) (.tmp 44), none⟩,
    ⟨some 46, .faddr 2 (.tmp 5), none⟩,
    ⟨some 47, .load none (.tmp 46), none⟩,
    ⟨some 48, .pcall 36 [(.tmp 47)], none⟩,
    ⟨some 49, .bin .add (.tmp 45) (.tmp 48), none⟩,
    ⟨some 50, .bin .add (.tmp 38) (.tmp 49), none⟩,
    ⟨some 3, .mov (.tmp 50), none⟩])))
  (.region [⟨some 51, .bin .add (.tmp 34) (.con (.int .i64 1)), none⟩,
    ⟨some 34, .mov (.tmp 51), none⟩]))))
/-- regency/regencyref12.Bytes -/
def c_regencyref12_Bytes : CFn := ⟨53, .seq (.region [⟨some 1, .box (.tmp 0), none⟩,
    ⟨some 2, .mov (.con (.str ⟨#[]⟩)), none⟩])
  (.seq (.region [⟨some 6, .faddr 0 (.tmp 1), none⟩,
    ⟨some 7, .load none (.tmp 6), none⟩,
    ⟨some 8, .pcall 36 [(.tmp 7)], none⟩,
    ⟨some 9, .faddr 1 (.tmp 1), none⟩,
    ⟨some 10, .load none (.tmp 9), none⟩,
    ⟨some 11, .pcall 36 [(.tmp 10)], none⟩,
    ⟨some 12, .bin .add (.tmp 8) (.tmp 11), none⟩,
    ⟨some 13, .faddr 2 (.tmp 1), none⟩,
    ⟨some 14, .load none (.tmp 13), none⟩,
    ⟨some 15, .cBytesStr (.tmp 14), none⟩,
    ⟨some 16, .pcall 37 [(.tmp 15)], none⟩,
    ⟨some 17, .bin .add (.tmp 12) (.tmp 16), none⟩,
    ⟨some 18, .faddr 3 (.tmp 1), none⟩,
    ⟨some 19, .load none (.tmp 18), none⟩,
    ⟨some 20, .pcall 37 [(.tmp 19)], none⟩,
    ⟨some 21, .bin .add (.tmp 17) (.tmp 20), none⟩,
    ⟨some 22, .faddr 4 (.tmp 1), none⟩,
    ⟨some 23, .load none (.tmp 22), none⟩,
    ⟨some 24, .pcall 51 [(.tmp 23)], none⟩,
    ⟨some 25, .bin .add (.tmp 21) (.tmp 24), none⟩,
    ⟨some 26, .faddr 5 (.tmp 1), none⟩,
    ⟨some 27, .load none (.tmp 26), none⟩,
    ⟨some 28, .lenl (.tmp 27), none⟩,
    ⟨some 29, .pcall 36 [(.tmp 28)], none⟩,
    ⟨some 30, .bin .add (.tmp 25) (.tmp 29), none⟩,
    ⟨some 3, .mov (.tmp 30), none⟩])
  (.seq (.seq (.region [⟨some 31, .faddr 5 (.tmp 1), none⟩,
    ⟨some 32, .load none (.tmp 31), none⟩,
    ⟨some 33, .lenl (.tmp 32), none⟩,
    ⟨some 34, .mov (.con (.int .i64 0)), none⟩])
  (.block 0 (.kill [0, 1, 2, 5, 6, 7, 8, 9, 10, 11, 12, 13, 14, 15, 16, 17, 18, 19, 20, 21, 22, 23, 24, 25, 26, 27, 28, 29, 30, 31, 35, 36, 37, 38, 39, 40, 41, 42, 43, 44, 45, 46, 47, 48, 49, 50, 51] (.loop l_regencyref12_Bytes_0))))
  (.seq (.region [⟨some 52, .mov (.tmp 3), none⟩,
    ⟨some 2, .mov (.tmp 52), none⟩])
  (.ret)))),
  [.tmp 2]⟩
theorem is_regencyref12_Bytes : IsFn Tryz.prog 24 c_regencyref12_Bytes := isFn_of [([], []), ([], [2, 5, 10, 14, 18, 23]), ([], []), ([0, 1, 2, 5, 6, 7, 8, 9, 10, 11, 12, 13, 14, 15, 16, 17, 18, 19, 20, 21, 22, 23, 24, 25, 26, 27, 28, 29, 30, 31, 35, 36, 37, 38, 39, 40, 41, 42, 43, 44, 45, 46, 47, 48, 49, 50, 51], []), ([], []), ([32, 33, 34, 35], []), ([], []), ([], [3, 6, 10]), ([], []), ([], []), ([], [])] (by kernel_rfl)

abbrev s_reply_Right_0 (v1 v6 v7 v8 : AV) : List AV := [.any, v1, .any, .any, .any, .any, v6, v7, v8, .any, .any, .any, .any, .any, .any, .any, .any, .any, .any, .any, .any, .any, .any, .any, .any, .any, .any, .any, .any, .any, .any, .any, .any, .any, .any, .any, .any, .any, .any, .any, .any, .any, .any, .any, .any, .any, undefA, undefA, undefA, undefA, undefA, undefA, undefA, undefA, undefA, undefA, undefA, undefA, undefA, undefA, undefA, undefA, undefA, undefA, undefA, undefA, undefA, undefA, undefA, undefA, undefA, undefA, undefA, undefA, undefA, undefA, undefA, undefA, undefA, undefA]
abbrev x_reply_Right_0 (v1 : AV) : List AV := [.any, v1, .any, .any, .any, .any, .any, .any, .any, .any, .any, .any, .any, .any, .any, .any, .any, .any, .any, .any, .any, .any, .any, .any, .any, .any, .any, .any, .any, .any, .any, .any, .any, .any, .any, .any, .any, .any, .any, .any, .any, .any, .any, .any, .any, .any, undefA, undefA, undefA, undefA, undefA, undefA, undefA, undefA, undefA, undefA, undefA, undefA, undefA, undefA, undefA, undefA, undefA, undefA, undefA, undefA, undefA, undefA, undefA, undefA, undefA, undefA, undefA, undefA, undefA, undefA, undefA, undefA, undefA, undefA]
abbrev l_reply_Right_0 : CC := .kill [0, 2, 3, 4, 5, 9, 10, 11, 12, 13, 14, 15, 16, 17, 18, 19, 20, 21, 22, 23, 24, 25, 26, 27, 28, 29, 30, 31, 32, 33, 34, 35, 36, 37, 38, 39, 40, 41, 42, 43, 44, 45] (.seq (.region [⟨some 9, .bin .lss (.tmp 8) (.tmp 7), none⟩])
  (.seq (.cond (.tmp 9) (.skip) (.kill [6, 7, 8, 9] (.exit 0)))
  (.seq (.block 1 (.seq (.region [⟨some 10, .mov (.tmp 8), none⟩,
    ⟨some 11, .iaddr 3 none (.tmp 6) (.tmp 8), none⟩,
    ⟨some 12, .load (some 3) (.tmp 11), none⟩,
    ⟨some 4, .alloc [.int .i64 0, .int .i64 0, .int .i64 0], none⟩,
    ⟨some 3, .mov (.tmp 10), none⟩,
    ⟨none, .store 3 (.tmp 4) (.tmp 12), none⟩])
  (.seq (.region [⟨some 13, .faddr 0 (.tmp 4), none⟩,
    ⟨some 14, .load none (.tmp 13), none⟩,
    ⟨some 15, .pcall 52 [(.tmp 14), (.con (.int .i64 0)), (.con (.int .i64 1048576))], none⟩,
    ⟨some 16, .un .not (.tmp 15), none⟩,
    ⟨some 17, .mov (.tmp 16), none⟩,
    ⟨some 18, .faddr 1 (.tmp 4), (some (17, false))⟩,
    ⟨some 19, .load none (.tmp 18), (some (17, false))⟩,
    ⟨some 20, .pcall 52 [(.tmp 19), (.con (.int .i64 1)), (.con (.int .i64 5))], (some (17, false))⟩,
    ⟨some 21, .un .not (.tmp 20), (some (17, false))⟩,
    ⟨some 22, .pick (.tmp 17) (.con (.bool true)) (.tmp 21), none⟩,
    ⟨some 23, .mov (.tmp 22), none⟩,
    ⟨some 24, .faddr 2 (.tmp 4), (some (23, false))⟩,
    ⟨some 25, .load none (.tmp 24), (some (23, false))⟩,
    ⟨some 26, .pcall 52 [(.tmp 25), (.con (.int .i64 0)), (.con (.int .i64 1048576))], (some (23, false))⟩,
    ⟨some 27, .un .not (.tmp 26), (some (23, false))⟩,
    ⟨some 28, .pick (.tmp 23) (.con (.bool true)) (.tmp 27), none⟩,
    ⟨some 29, .mov (.tmp 28), none⟩,
    ⟨some 30, .mov (.tmp 3), (some (29, false))⟩,
    ⟨some 31, .bin .gtr (.tmp 30) (.con (.int .i64 0)), (some (29, false))⟩,
    ⟨some 32, .mov (.tmp 31), (some (29, false))⟩,
    ⟨some 33, .faddr 5 (.tmp 1), (some (32, true))⟩,
    ⟨some 34, .load none (.tmp 33), (some (32, true))⟩,
    ⟨some 35, .mov (.tmp 3), (some (32, true))⟩,
    ⟨some 36, .bin .sub (.tmp 35) (.con (.int .i64 1)), (some (32, true))⟩,
    ⟨some 37, .iaddr 3 none (.tmp 34) (.tmp 36), (some (32, true))⟩,
    ⟨some 38, .faddr 0 (.tmp 37), (some (32, true))⟩,
    ⟨some 39, .load none (.tmp 38), (some (32, true))⟩,
    ⟨some 40, .faddr 0 (.tmp 4), (some (32, true))⟩,
    ⟨some 41, .load none (.tmp 40), (some (32, true))⟩,
    ⟨some 42, .bin .geq (.tmp 39) (.tmp 41), (some (32, true))⟩,
    ⟨some 43, .pick (.tmp 32) (.tmp 42) (.con (.bool false)), (some (29, false))⟩,
    ⟨some 44, .pick (.tmp 29) (.con (.bool true)) (.tmp 43), none⟩])
  (.cond (.tmp 44) (.seq (.region [⟨some 2, .mov (.con (.bool false)), none⟩])
  (.ret)) (.skip)))))
  (.region [⟨some 45, .bin .add (.tmp 8) (.con (.int .i64 1)), none⟩,
    ⟨some 8, .mov (.tmp 45), none⟩]))))
/-- regency/reply.Right -/
def c_reply_Right : CFn := ⟨80, .seq (.region [⟨some 1, .box (.tmp 0), none⟩,
    ⟨some 2, .mov (.con (.bool false)), none⟩])
  (.seq (.seq (.region [⟨some 5, .faddr 5 (.tmp 1), none⟩,
    ⟨some 6, .load none (.tmp 5), none⟩,
    ⟨some 7, .lenl (.tmp 6), none⟩,
    ⟨some 8, .mov (.con (.int .i64 0)), none⟩])
  (.block 0 (.kill [0, 2, 3, 4, 5, 9, 10, 11, 12, 13, 14, 15, 16, 17, 18, 19, 20, 21, 22, 23, 24, 25, 26, 27, 28, 29, 30, 31, 32, 33, 34, 35, 36, 37, 38, 39, 40, 41, 42, 43, 44, 45] (.loop l_reply_Right_0))))
  (.seq (.seq (.region [⟨some 46, .faddr 3 (.tmp 1), none⟩,
    ⟨some 47, .load none (.tmp 46), none⟩,
    ⟨some 48, .bin .neq (.tmp 47) (.con (.str ⟨#[]⟩)), none⟩,
    ⟨some 49, .mov (.tmp 48), none⟩,
    ⟨some 50, .faddr 3 (.tmp 1), (some (49, true))⟩,
    ⟨some 51, .load none (.tmp 50), (some (49, true))⟩,
    ⟨some 52, .pcall 53 [(.tmp 51)], (some (49, true))⟩,
    ⟨some 53, .un .not (.tmp 52), (some (49, true))⟩,
    ⟨some 54, .pick (.tmp 49) (.tmp 53) (.con (.bool false)), none⟩])
  (.cond (.tmp 54) (.seq (.region [⟨some 2, .mov (.con (.bool false)), none⟩])
  (.ret)) (.skip)))
  (.seq (.region [⟨some 55, .faddr 0 (.tmp 1), none⟩,
    ⟨some 56, .load none (.tmp 55), none⟩,
    ⟨some 57, .pcall 52 [(.tmp 56), (.con (.int .i64 0)), (.con (.int .i64 99))], none⟩,
    ⟨some 58, .mov (.tmp 57), none⟩,
    ⟨some 59, .faddr 1 (.tmp 1), (some (58, true))⟩,
    ⟨some 60, .load none (.tmp 59), (some (58, true))⟩,
    ⟨some 61, .pcall 52 [(.tmp 60), (.con (.int .i64 0)), (.con (.int .i64 1099511627776))], (some (58, true))⟩,
    ⟨some 62, .pick (.tmp 58) (.tmp 61) (.con (.bool false)), none⟩,
    ⟨some 63, .mov (.tmp 62), none⟩,
    ⟨some 64, .faddr 2 (.tmp 1), (some (63, true))⟩,
    ⟨some 65, .load none (.tmp 64), (some (63, true))⟩,
    ⟨some 66, .lenl (.tmp 65), (some (63, true))⟩,
    ⟨some 67, .bin .leq (.tmp 66) (.con (.int .i64 256)), (some (63, true))⟩,
    ⟨some 68, .pick (.tmp 63) (.tmp 67) (.con (.bool false)), none⟩,
    ⟨some 69, .mov (.tmp 68), none⟩,
    ⟨some 70, .faddr 4 (.tmp 1), (some (69, true))⟩,
    ⟨some 71, .load none (.tmp 70), (some (69, true))⟩,
    ⟨some 72, .pcall 54 [(.tmp 71)], (some (69, true))⟩,
    ⟨some 73, .pick (.tmp 69) (.tmp 72) (.con (.bool false)), none⟩,
    ⟨some 74, .mov (.tmp 73), none⟩,
    ⟨some 75, .faddr 5 (.tmp 1), (some (74, true))⟩,
    ⟨some 76, .load none (.tmp 75), (some (74, true))⟩,
    ⟨some 77, .lenl (.tmp 76), (some (74, true))⟩,
    ⟨some 78, .bin .leq (.tmp 77) (.con (.int .i64 16)), (some (74, true))⟩,
    ⟨some 79, .pick (.tmp 74) (.tmp 78) (.con (.bool false)), none⟩,
    ⟨some 2, .mov (.tmp 79), none⟩])
  (.ret)))),
  [.tmp 2]⟩
theorem is_reply_Right : IsFn Tryz.prog 25 c_reply_Right := isFn_of [([], []), ([], []), ([0, 2, 3, 4, 5, 9, 10, 11, 12, 13, 14, 15, 16, 17, 18, 19, 20, 21, 22, 23, 24, 25, 26, 27, 28, 29, 30, 31, 32, 33, 34, 35, 36, 37, 38, 39, 40, 41, 42, 43, 44, 45], []), ([], []), ([6, 7, 8, 9], []), ([], []), ([], [2, 7, 13]), ([], []), ([], []), ([], []), ([], [6]), ([], []), ([], []), ([], [2, 6, 17]), ([], [])] (by kernel_rfl)

abbrev s_reply_Bytes_0 (v3 v38 v39 v40 : AV) : List AV := [.any, .any, .any, v3, undefA, .any, .any, .any, .any, .any, .any, .any, .any, .any, .any, .any, .any, .any, .any, .any, .any, .any, .any, .any, .any, .any, .any, .any, .any, .any, .any, .any, .any, .any, .any, .any, .any, .any, v38, v39, v40, .any, .any, .any, .any, .any, .any, .any, .any, .any, .any, .any, .any, .any, .any, .any, .any, undefA, undefA]
abbrev x_reply_Bytes_0 (v3 : AV) : List AV := [.any, .any, .any, v3, undefA, .any, .any, .any, .any, .any, .any, .any, .any, .any, .any, .any, .any, .any, .any, .any, .any, .any, .any, .any, .any, .any, .any, .any, .any, .any, .any, .any, .any, .any, .any, .any, .any, .any, .any, .any, .any, .any, .any, .any, .any, .any, .any, .any, .any, .any, .any, .any, .any, .any, .any, .any, .any, undefA, undefA]
abbrev l_reply_Bytes_0 : CC := .kill [0, 1, 2, 5, 6, 7, 8, 9, 10, 11, 12, 13, 14, 15, 16, 17, 18, 19, 20, 21, 22, 23, 24, 25, 26, 27, 28, 29, 30, 31, 32, 33, 34, 35, 36, 37, 41, 42, 43, 44, 45, 46, 47, 48, 49, 50, 51, 52, 53, 54, 55, 56] (.seq (.region [⟨some 41, .bin .lss (.tmp 40) (.tmp 39), none⟩])
  (.seq (.cond (.tmp 41) (.skip) (.kill [38, 39, 40, 41] (.exit 0)))
  (.seq (.block 1 (.seq (.region [⟨some 42, .iaddr 3 none (.tmp 38) (.tmp 40), none⟩,
    ⟨some 43, .load (some 3) (.tmp 42), none⟩,
    ⟨some 5, .alloc [.int .i64 0, .int .i64 0, .int .i64 0], none⟩,
    ⟨none, .store 3 (.tmp 5) (.tmp 43), none⟩])
  (.seq (.region [⟨some 44, .mov (.tmp 3), none⟩,
    ⟨some 45, .faddr 0 (.tmp 5), none⟩,
    ⟨some 46, .load none (.tmp 45), none⟩,
    ⟨some 47, .call 55 [(.tmp 44), (.tmp 46)], none⟩])
  (.seq (.region [⟨some 48, .mov (.tmp 3), none⟩,
    ⟨some 49, .faddr 1 (.tmp 5), none⟩,
    ⟨some 50, .load none (.tmp 49), none⟩,
    ⟨some 51, .call 55 [(.tmp 48), (.tmp 50)], none⟩])
  (.region [⟨some 52, .mov (.tmp 3), none⟩,
    ⟨some 53, .faddr 2 (.tmp 5), none⟩,
    ⟨some 54, .load none (.tmp 53), none⟩,
    ⟨some 55, .call 55 [(.tmp 52), (.tmp 54)], none⟩])))))
  (.region [⟨some 56, .bin .add (.tmp 40) (.con (.int .i64 1)), none⟩,
    ⟨some 40, .mov (.tmp 56), none⟩]))))
/-- regency/reply.Bytes -/
def c_reply_Bytes : CFn := ⟨59, .seq (.region [⟨some 1, .box (.tmp 0), none⟩,
    ⟨some 2, .take (.con (.sl .ex [])), none⟩])
  (.seq (.seq (.region [⟨some 6, .load (some 6) (.tmp 1), none⟩,
    ⟨some 7, .pcall 25 [(.tmp 6)], none⟩,
    ⟨some 8, .un .not (.tmp 7), none⟩])
  (.cond (.tmp 8) (.seq (.region [⟨some 2, .take (.con (.sl .ex [])), none⟩])
  (.ret)) (.skip)))
  (.seq (.region [⟨some 9, .build [.sl .ex []] [], none⟩,
    ⟨some 10, .box (.tmp 9), none⟩,
    ⟨some 3, .mov (.tmp 10), none⟩])
  (.seq (.region [⟨some 11, .mov (.tmp 3), none⟩,
    ⟨some 12, .faddr 0 (.tmp 1), none⟩,
    ⟨some 13, .load none (.tmp 12), none⟩,
    ⟨some 14, .call 55 [(.tmp 11), (.tmp 13)], none⟩])
  (.seq (.region [⟨some 15, .mov (.tmp 3), none⟩,
    ⟨some 16, .faddr 1 (.tmp 1), none⟩,
    ⟨some 17, .load none (.tmp 16), none⟩,
    ⟨some 18, .call 55 [(.tmp 15), (.tmp 17)], none⟩])
  (.seq (.region [⟨some 19, .mov (.tmp 3), none⟩,
    ⟨some 20, .faddr 2 (.tmp 1), none⟩,
    ⟨some 21, .load none (.tmp 20), none⟩,
    ⟨some 22, .cBytesStr (.tmp 21), none⟩,
    ⟨some 23, .call 56 [(.tmp 19), (.tmp 22)], none⟩])
  (.seq (.region [⟨some 24, .mov (.tmp 3), none⟩,
    ⟨some 25, .faddr 3 (.tmp 1), none⟩,
    ⟨some 26, .load none (.tmp 25), none⟩,
    ⟨some 27, .call 56 [(.tmp 24), (.tmp 26)], none⟩])
  (.seq (.region [⟨some 28, .mov (.tmp 3), none⟩,
    ⟨some 29, .faddr 4 (.tmp 1), none⟩,
    ⟨some 30, .load none (.tmp 29), none⟩,
    ⟨some 31, .call 57 [(.tmp 28), (.tmp 30)], none⟩])
  (.seq (.region [⟨some 32, .mov (.tmp 3), none⟩,
    ⟨some 33, .faddr 5 (.tmp 1), none⟩,
    ⟨some 34, .load none (.tmp 33), none⟩,
    ⟨some 35, .lenl (.tmp 34), none⟩,
    ⟨some 36, .call 55 [(.tmp 32), (.tmp 35)], none⟩])
  (.seq (.seq (.region [⟨some 37, .faddr 5 (.tmp 1), none⟩,
    ⟨some 38, .load none (.tmp 37), none⟩,
    ⟨some 39, .lenl (.tmp 38), none⟩,
    ⟨some 40, .mov (.con (.int .i64 0)), none⟩])
  (.block 0 (.kill [0, 1, 2, 5, 6, 7, 8, 9, 10, 11, 12, 13, 14, 15, 16, 17, 18, 19, 20, 21, 22, 23, 24, 25, 26, 27, 28, 29, 30, 31, 32, 33, 34, 35, 36, 37, 41, 42, 43, 44, 45, 46, 47, 48, 49, 50, 51, 52, 53, 54, 55, 56] (.loop l_reply_Bytes_0))))
  (.seq (.region [⟨some 57, .mov (.tmp 3), none⟩,
    ⟨some 58, .call 35 [(.tmp 57)], none⟩,
    ⟨some 2, .take (.tmp 58), none⟩])
  (.ret))))))))))),
  [.tmp 2]⟩
theorem is_reply_Bytes : IsFn Tryz.prog 26 c_reply_Bytes := isFn_of [([], [1]), ([], [1]), ([], [0]), ([], []), ([], []), ([], []), ([], []), ([], []), ([], []), ([], []), ([], []), ([], []), ([0, 1, 2, 5, 6, 7, 8, 9, 10, 11, 12, 13, 14, 15, 16, 17, 18, 19, 20, 21, 22, 23, 24, 25, 26, 27, 28, 29, 30, 31, 32, 33, 34, 35, 36, 37, 41, 42, 43, 44, 45, 46, 47, 48, 49, 50, 51, 52, 53, 54, 55, 56], []), ([], []), ([38, 39, 40, 41], []), ([], []), ([], []), ([], []), ([], []), ([], []), ([], [2]), ([], [])] (by kernel_rfl)

abbrev s_reply_Text_0 (v3 v4 v54 v55 v56 : AV) : List AV := [.any, .any, .any, v3, v4, undefA, .any, .any, .any, .any, .any, .any, .any, .any, .any, .any, .any, .any, .any, .any, .any, .any, .any, .any, .any, .any, .any, .any, .any, .any, .any, .any, .any, .any, .any, .any, .any, .any, .any, .any, .any, .any, .any, .any, .any, .any, .any, .any, .any, .any, .any, .any, .any, .any, v54, v55, v56, .any, .any, .any, .any, .any, .any, .any, .any, .any, .any, .any, .any, .any, .any, .any, .any, .any, .any, .any, .any, undefA, undefA, undefA, undefA, undefA, undefA, undefA, undefA, undefA, undefA]
abbrev x_reply_Text_0 (v3 v4 : AV) : List AV := [.any, .any, .any, v3, v4, undefA, .any, .any, .any, .any, .any, .any, .any, .any, .any, .any, .any, .any, .any, .any, .any, .any, .any, .any, .any, .any, .any, .any, .any, .any, .any, .any, .any, .any, .any, .any, .any, .any, .any, .any, .any, .any, .any, .any, .any, .any, .any, .any, .any, .any, .any, .any, .any, .any, .any, .any, .any, .any, .any, .any, .any, .any, .any, .any, .any, .any, .any, .any, .any, .any, .any, .any, .any, .any, .any, .any, .any, undefA, undefA, undefA, undefA, undefA, undefA, undefA, undefA, undefA, undefA]
abbrev l_reply_Text_0 : CC := .kill [0, 1, 2, 6, 7, 8, 9, 10, 11, 12, 13, 14, 15, 16, 17, 18, 19, 20, 21, 22, 23, 24, 25, 26, 27, 28, 29, 30, 31, 32, 33, 34, 35, 36, 37, 38, 39, 40, 41, 42, 43, 44, 45, 46, 47, 48, 49, 50, 51, 52, 53, 57, 58, 59, 60, 61, 62, 63, 64, 65, 66, 67, 68, 69, 70, 71, 72, 73, 74, 75, 76] (.seq (.region [⟨some 57, .bin .lss (.tmp 56) (.tmp 55), none⟩])
  (.seq (.cond (.tmp 57) (.skip) (.kill [54, 55, 56, 57] (.exit 0)))
  (.seq (.block 1 (.seq (.region [⟨some 58, .iaddr 3 none (.tmp 54) (.tmp 56), none⟩,
    ⟨some 59, .load (some 3) (.tmp 58), none⟩,
    ⟨some 6, .alloc [.int .i64 0, .int .i64 0, .int .i64 0], none⟩,
    ⟨none, .store 3 (.tmp 6) (.tmp 59), none⟩])
  (.region [⟨some 60, .take (.tmp 4), none⟩,
    ⟨some 61, .faddr 0 (.tmp 6), none⟩,
    ⟨some 62, .load none (.tmp 61), none⟩,
    ⟨some 63, .pcall 58 [(.tmp 62)], none⟩,
    ⟨some 64, .bin .add (.tmp 63) (.con (.str ⟨#[58]⟩)), none⟩,
    ⟨some 65, .faddr 1 (.tmp 6), none⟩,
    ⟨some 66, .load none (.tmp 65), none⟩,
    ⟨some 67, .pcall 58 [(.tmp 66)], none⟩,
    ⟨some 68, .bin .add (.tmp 64) (.tmp 67), none⟩,
    ⟨some 69, .bin .add (.tmp 68) (.con (.str ⟨#[58]⟩)), none⟩,
    ⟨some 70, .faddr 2 (.tmp 6), none⟩,
    ⟨some 71, .load none (.tmp 70), none⟩,
    ⟨some 72, .pcall 58 [(.tmp 71)], none⟩,
    ⟨some 73, .bin .add (.tmp 69) (.tmp 72), none⟩,
    ⟨some 74, .bslice 1 false [(.tmp 73)], none⟩,
    ⟨some 75, .append 1 16 false (.tmp 60) (.tmp 74), none⟩,
    ⟨some 4, .take (.tmp 75), none⟩])))
  (.region [⟨some 76, .bin .add (.tmp 56) (.con (.int .i64 1)), none⟩,
    ⟨some 56, .mov (.tmp 76), none⟩]))))
/-- regency/reply.Text -/
def c_reply_Text : CFn := ⟨87, .seq (.region [⟨some 1, .box (.tmp 0), none⟩,
    ⟨some 2, .mov (.con (.str ⟨#[]⟩)), none⟩])
  (.seq (.region [⟨some 7, .bslice 1 false [(.con (.str ⟨#[111, 107]⟩))], none⟩,
    ⟨some 3, .take (.tmp 7), none⟩])
  (.seq (.seq (.region [⟨some 8, .faddr 0 (.tmp 1), none⟩,
    ⟨some 9, .load none (.tmp 8), none⟩,
    ⟨some 10, .bin .neq (.tmp 9) (.con (.int .i64 0)), none⟩])
  (.cond (.tmp 10) (.region [⟨some 11, .faddr 0 (.tmp 1), none⟩,
    ⟨some 12, .load none (.tmp 11), none⟩,
    ⟨some 13, .pcall 58 [(.tmp 12)], none⟩,
    ⟨some 14, .bin .add (.con (.str ⟨#[101, 114, 114, 111, 114, 32]⟩)) (.tmp 13), none⟩,
    ⟨some 15, .bslice 1 false [(.tmp 14)], none⟩,
    ⟨some 3, .take (.tmp 15), none⟩]) (.skip)))
  (.seq (.seq (.region [⟨some 16, .faddr 1 (.tmp 1), none⟩,
    ⟨some 17, .load none (.tmp 16), none⟩,
    ⟨some 18, .bin .neq (.tmp 17) (.con (.int .i64 0)), none⟩])
  (.cond (.tmp 18) (.region [⟨some 19, .take (.tmp 3), none⟩,
    ⟨some 20, .faddr 1 (.tmp 1), none⟩,
    ⟨some 21, .load none (.tmp 20), none⟩,
    ⟨some 22, .pcall 58 [(.tmp 21)], none⟩,
    ⟨some 23, .bslice 1 false [(.tmp 22)], none⟩,
    ⟨some 24, .append 1 16 false (.tmp 19) (.tmp 23), none⟩,
    ⟨some 3, .take (.tmp 24), none⟩]) (.skip)))
  (.seq (.seq (.region [⟨some 25, .faddr 2 (.tmp 1), none⟩,
    ⟨some 26, .load none (.tmp 25), none⟩,
    ⟨some 27, .lenl (.tmp 26), none⟩,
    ⟨some 28, .bin .gtr (.tmp 27) (.con (.int .i64 0)), none⟩])
  (.cond (.tmp 28) (.region [⟨some 29, .take (.tmp 3), none⟩,
    ⟨some 30, .faddr 2 (.tmp 1), none⟩,
    ⟨some 31, .load none (.tmp 30), none⟩,
    ⟨some 32, .pcall 59 [(.tmp 31)], none⟩,
    ⟨some 33, .bslice 1 false [(.tmp 32)], none⟩,
    ⟨some 34, .append 1 16 false (.tmp 29) (.tmp 33), none⟩,
    ⟨some 3, .take (.tmp 34), none⟩]) (.skip)))
  (.seq (.seq (.region [⟨some 35, .faddr 3 (.tmp 1), none⟩,
    ⟨some 36, .load none (.tmp 35), none⟩,
    ⟨some 37, .bin .neq (.tmp 36) (.con (.str ⟨#[]⟩)), none⟩])
  (.cond (.tmp 37) (.region [⟨some 38, .take (.tmp 3), none⟩,
    ⟨some 39, .faddr 3 (.tmp 1), none⟩,
    ⟨some 40, .load none (.tmp 39), none⟩,
    ⟨some 41, .bslice 1 false [(.tmp 40)], none⟩,
    ⟨some 42, .append 1 16 false (.tmp 38) (.tmp 41), none⟩,
    ⟨some 3, .take (.tmp 42), none⟩]) (.skip)))
  (.seq (.seq (.region [⟨some 43, .faddr 4 (.tmp 1), none⟩,
    ⟨some 44, .load none (.tmp 43), none⟩,
    ⟨some 45, .lenl (.tmp 44), none⟩,
    ⟨some 46, .bin .gtr (.tmp 45) (.con (.int .i64 0)), none⟩])
  (.cond (.tmp 46) (.region [⟨some 47, .take (.tmp 3), none⟩,
    ⟨some 48, .faddr 4 (.tmp 1), none⟩,
    ⟨some 49, .load none (.tmp 48), none⟩,
    ⟨some 50, .pcall 60 [(.tmp 49)], none⟩,
    ⟨some 51, .bslice 1 false [(.tmp 50)], none⟩,
    ⟨some 52, .append 1 16 false (.tmp 47) (.tmp 51), none⟩,
    ⟨some 3, .take (.tmp 52), none⟩]) (.skip)))
  (.seq (.region [⟨some 4, .take (.con (.sl .ex [])), none⟩])
  (.seq (.seq (.region [⟨some 53, .faddr 5 (.tmp 1), none⟩,
    ⟨some 54, .load none (.tmp 53), none⟩,
    ⟨some 55, .lenl (.tmp 54), none⟩,
    ⟨some 56, .mov (.con (.int .i64 0)), none⟩])
  (.block 0 (.kill [0, 1, 2, 6, 7, 8, 9, 10, 11, 12, 13, 14, 15, 16, 17, 18, 19, 20, 21, 22, 23, 24, 25, 26, 27, 28, 29, 30, 31, 32, 33, 34, 35, 36, 37, 38, 39, 40, 41, 42, 43, 44, 45, 46, 47, 48, 49, 50, 51, 52, 53, 57, 58, 59, 60, 61, 62, 63, 64, 65, 66, 67, 68, 69, 70, 71, 72, 73, 74, 75, 76] (.loop l_reply_Text_0))))
  (.seq (.seq (.region [⟨some 77, .mov (.tmp 4), none⟩,
    ⟨some 78, .lenl (.tmp 77), none⟩,
    ⟨some 79, .bin .gtr (.tmp 78) (.con (.int .i64 0)), none⟩])
  (.cond (.tmp 79) (.region [⟨some 80, .take (.tmp 3), none⟩,
    ⟨some 81, .take (.tmp 4), none⟩,
    ⟨some 82, .pcall 61 [(.tmp 81), (.con (.str ⟨#[44]⟩))], none⟩,
    ⟨some 83, .bslice 1 false [(.tmp 82)], none⟩,
    ⟨some 84, .append 1 16 false (.tmp 80) (.tmp 83), none⟩,
    ⟨some 3, .take (.tmp 84), none⟩]) (.skip)))
  (.seq (.region [⟨some 85, .take (.tmp 3), none⟩,
    ⟨some 86, .pcall 61 [(.tmp 85), (.con (.str ⟨#[32]⟩))], none⟩,
    ⟨some 2, .mov (.tmp 86), none⟩])
  (.ret))))))))))),
  [.tmp 2]⟩
theorem is_reply_Text : IsFn Tryz.prog 27 c_reply_Text := isFn_of [([], []), ([], [1]), ([], []), ([], [2, 5]), ([], []), ([], [0, 3, 6]), ([], []), ([], [0, 3, 6]), ([], []), ([], [0, 5]), ([], []), ([], [0, 3, 6]), ([], [0]), ([], []), ([0, 1, 2, 6, 7, 8, 9, 10, 11, 12, 13, 14, 15, 16, 17, 18, 19, 20, 21, 22, 23, 24, 25, 26, 27, 28, 29, 30, 31, 32, 33, 34, 35, 36, 37, 38, 39, 40, 41, 42, 43, 44, 45, 46, 47, 48, 49, 50, 51, 52, 53, 57, 58, 59, 60, 61, 62, 63, 64, 65, 66, 67, 68, 69, 70, 71, 72, 73, 74, 75, 76], []), ([], []), ([54, 55, 56, 57], []), ([], []), ([], [0, 3, 7, 12, 16]), ([], []), ([], []), ([], [0, 1, 2, 5]), ([], [0, 1]), ([], [])] (by kernel_rfl)

abbrev s_regencyref12_Text_0 (v1 v3 v31 v32 v33 : AV) : List AV := [.any, v1, .any, v3, undefA, .any, undefA, undefA, .any, .any, .any, .any, .any, .any, .any, .any, .any, .any, .any, .any, .any, .any, .any, .any, .any, .any, .any, .any, .any, .any, .any, v31, v32, v33, .any, .any, .any, .any, .any, .any, .any, .any, .any, .any, .any, .any, .any, .any, .any, .any, .any, .any, .any, undefA, undefA, undefA, undefA, undefA, undefA, undefA, undefA, undefA, undefA, undefA, undefA, undefA, undefA, undefA, undefA, undefA, undefA, undefA, undefA, undefA, undefA, undefA, undefA, undefA, undefA, undefA, undefA, undefA, undefA, undefA, undefA, undefA, undefA, undefA, undefA, undefA, undefA, undefA, undefA, undefA, undefA, undefA, undefA, undefA, undefA, undefA, undefA, undefA]
abbrev s_regencyref12_Text_1 (v3 v72 v73 v74 : AV) : List AV := [.any, .any, .any, v3, undefA, .any, .any, .any, .any, .any, .any, .any, .any, .any, .any, .any, .any, .any, .any, .any, .any, .any, .any, .any, .any, .any, .any, .any, .any, .any, .any, .any, .any, .any, .any, .any, .any, .any, .any, .any, .any, .any, .any, .any, .any, .any, .any, .any, .any, .any, .any, .any, .any, .any, .any, .any, .any, .any, .any, .any, .any, .any, .any, .any, .any, .any, .any, .any, .any, .any, .any, .any, v72, v73, v74, .any, .any, .any, .any, .any, .any, .any, .any, .any, .any, .any, .any, .any, .any, .any, .any, .any, .any, .any, .any, .any, .any, .any, .any, .any, .any, undefA]
abbrev x_regencyref12_Text_0 (v1 v3 : AV) : List AV := [.any, v1, .any, v3, undefA, .any, undefA, undefA, .any, .any, .any, .any, .any, .any, .any, .any, .any, .any, .any, .any, .any, .any, .any, .any, .any, .any, .any, .any, .any, .any, .any, .any, .any, .any, .any, .any, .any, .any, .any, .any, .any, .any, .any, .any, .any, .any, .any, .any, .any, .any, .any, .any, .any, undefA, undefA, undefA, undefA, undefA, undefA, undefA, undefA, undefA, undefA, undefA, undefA, undefA, undefA, undefA, undefA, undefA, undefA, undefA, undefA, undefA, undefA, undefA, undefA, undefA, undefA, undefA, undefA, undefA, undefA, undefA, undefA, undefA, undefA, undefA, undefA, undefA, undefA, undefA, undefA, undefA, undefA, undefA, undefA, undefA, undefA, undefA, undefA, undefA]
abbrev x_regencyref12_Text_2 (v3 : AV) : List AV := [.any, .any, .any, v3, undefA, .any, .any, .any, .any, .any, .any, .any, .any, .any, .any, .any, .any, .any, .any, .any, .any, .any, .any, .any, .any, .any, .any, .any, .any, .any, .any, .any, .any, .any, .any, .any, .any, .any, .any, .any, .any, .any, .any, .any, .any, .any, .any, .any, .any, .any, .any, .any, .any, .any, .any, .any, .any, .any, .any, .any, .any, .any, .any, .any, .any, .any, .any, .any, .any, .any, .any, .any, .any, .any, .any, .any, .any, .any, .any, .any, .any, .any, .any, .any, .any, .any, .any, .any, .any, .any, .any, .any, .any, .any, .any, .any, .any, .any, .any, .any, .any, undefA]
abbrev l_regencyref12_Text_1 : CC := .kill [1, 6, 7, 53, 54, 55, 56, 57, 58, 59, 60, 61, 62, 63, 64, 65, 66, 67, 68, 69, 70, 71, 75, 76, 77, 78, 79, 80, 81, 82, 83, 84, 85, 86, 87, 88, 89, 90, 91, 92, 93, 94, 95, 96, 97, 98, 99, 100] (.seq (.region [⟨some 75, .bin .lss (.tmp 74) (.tmp 73), none⟩])
  (.seq (.cond (.tmp 75) (.skip) (.kill [72, 73, 74, 75] (.exit 2)))
  (.seq (.block 3 (.seq (.region [⟨some 76, .mov (.tmp 74), none⟩,
    ⟨some 77, .iaddr 3 none (.tmp 72) (.tmp 74), none⟩,
    ⟨some 78, .load (some 3) (.tmp 77), none⟩,
    ⟨some 7, .alloc [.int .i64 0, .int .i64 0, .int .i64 0], none⟩,
    ⟨some 6, .mov (.tmp 76), none⟩,
    ⟨none, .store 3 (.tmp 7) (.tmp 78), none⟩])
  (.seq (.seq (.region [⟨some 79, .mov (.tmp 6), none⟩,
    ⟨some 80, .bin .eql (.tmp 79) (.con (.int .i64 0)), none⟩])
  (.cond (.tmp 80) (.region [⟨some 81, .mov (.tmp 3), none⟩,
    ⟨some 82, .bin .add (.tmp 81) (.con (.str ⟨#[32]⟩)), none⟩,
    ⟨some 3, .mov (.tmp 82), none⟩]) (.region [⟨some 83, .mov (.tmp 3), none⟩,
    ⟨some 84, .bin .add (.tmp 83) (.con (.str ⟨#[44]⟩)), none⟩,
    ⟨some 3, .mov (.tmp 84), none⟩])))
  (.region [⟨some 85, .mov (.tmp 3), none⟩,
    ⟨some 86, .faddr 0 (.tmp 7), none⟩,
    ⟨some 87, .load none (.tmp 86), none⟩,
    ⟨some 88, .pcall 62 [(.tmp 87)], none⟩,
    ⟨some 89, .bin .add (.tmp 88) (.con (.str ⟨#[58]⟩)), none⟩,
    ⟨some 90, .faddr 1 (.tmp 7), none⟩,
    ⟨some 91, .load none (.tmp 90), none⟩,
    ⟨some 92, .pcall 62 [(.tmp 91)], none⟩,
    ⟨some 93, .bin .add (.tmp 89) (.tmp 92), none⟩,
    ⟨some 94, .bin .add (.tmp 93) (.con (.str ⟨#[58]⟩)), none⟩,
    ⟨some 95, .faddr 2 (.tmp 7), none⟩,
    ⟨some 96, .load none (.tmp 95), none⟩,
    ⟨some 97, .pcall 62 [(.tmp 96)], none⟩,
    ⟨some 98, .bin .add (.tmp 94) (.tmp 97), none⟩,
    ⟨some 99, .bin .add (.tmp 85) (.tmp 98), none⟩,
    ⟨some 3, .mov (.tmp 99), none⟩]))))
  (.region [⟨some 100, .bin .add (.tmp 74) (.con (.int .i64 1)), none⟩,
    ⟨some 74, .mov (.tmp 100), none⟩]))))
abbrev l_regencyref12_Text_0 : CC := .kill [0, 2, 5, 8, 9, 10, 11, 12, 13, 14, 15, 16, 17, 18, 19, 20, 21, 22, 23, 24, 25, 26, 27, 28, 29, 30, 34, 35, 36, 37, 38, 39, 40, 41, 42, 43, 44, 45, 46, 47, 48, 49, 50, 51, 52] (.seq (.region [⟨some 34, .bin .lss (.tmp 33) (.tmp 32), none⟩])
  (.seq (.cond (.tmp 34) (.skip) (.kill [31, 32, 33, 34] (.exit 0)))
  (.seq (.block 1 (.seq (.region [⟨some 35, .iaddr 1 none (.tmp 31) (.tmp 33), none⟩,
    ⟨some 36, .load none (.tmp 35), none⟩,
    ⟨some 5, .mov (.tmp 36), none⟩])
  (.region [⟨some 37, .mov (.tmp 3), none⟩,
    ⟨some 38, .mov (.tmp 5), none⟩,
    ⟨some 39, .bin .quo (.tmp 38) (.con (.int .u8 16)), none⟩,
    ⟨some 40, .mov (.tmp 5), none⟩,
    ⟨some 41, .bin .quo (.tmp 40) (.con (.int .u8 16)), none⟩,
    ⟨some 42, .bin .add (.tmp 41) (.con (.int .u8 1)), none⟩,
    ⟨some 43, .slice none (.con (.str ⟨#[48, 49, 50, 51, 52, 53, 54, 55, 56, 57, 97, 98, 99, 100, 101, 102]⟩)) (some (.tmp 39)) (some (.tmp 42)) none, none⟩,
    ⟨some 44, .mov (.tmp 5), none⟩,
    ⟨some 45, .bin .rem (.tmp 44) (.con (.int .u8 16)), none⟩,
    ⟨some 46, .mov (.tmp 5), none⟩,
    ⟨some 47, .bin .rem (.tmp 46) (.con (.int .u8 16)), none⟩,
    ⟨some 48, .bin .add (.tmp 47) (.con (.int .u8 1)), none⟩,
    ⟨some 49, .slice none (.con (.str ⟨#[48, 49, 50, 51, 52, 53, 54, 55, 56, 57, 97, 98, 99, 100, 101, 102]⟩)) (some (.tmp 45)) (some (.tmp 48)) none, none⟩,
    ⟨some 50, .bin .add (.tmp 43) (.tmp 49), none⟩,
    ⟨some 51, .bin .add (.tmp 37) (.tmp 50), none⟩,
    ⟨some 3, .mov (.tmp 51), none⟩])))
  (.region [⟨some 52, .bin .add (.tmp 33) (.con (.int .i64 1)), none⟩,
    ⟨some 33, .mov (.tmp 52), none⟩]))))
/-- regency/regencyref12.Text -/
def c_regencyref12_Text : CFn := ⟨102, .seq (.region [⟨some 1, .box (.tmp 0), none⟩,
    ⟨some 2, .mov (.con (.str ⟨#[]⟩)), none⟩])
  (.seq (.region [⟨some 3, .mov (.con (.str ⟨#[111, 107]⟩)), none⟩])
  (.seq (.seq (.region [⟨some 8, .faddr 0 (.tmp 1), none⟩,
    ⟨some 9, .load none (.tmp 8), none⟩,
    ⟨some 10, .bin .neq (.tmp 9) (.con (.int .i64 0)), none⟩])
  (.cond (.tmp 10) (.region [⟨some 11, .faddr 0 (.tmp 1), none⟩,
    ⟨some 12, .load none (.tmp 11), none⟩,
    ⟨some 13, .pcall 62 [(.tmp 12)], none⟩,
    ⟨some 14, .bin .add (.con (.str ⟨#[101, 114, 114, 111, 114, 32]⟩)) (.tmp 13), none⟩,
    ⟨some 3, .mov (.tmp 14), none⟩]) (.skip)))
  (.seq (.seq (.region [⟨some 15, .faddr 1 (.tmp 1), none⟩,
    ⟨some 16, .load none (.tmp 15), none⟩,
    ⟨some 17, .bin .neq (.tmp 16) (.con (.int .i64 0)), none⟩])
  (.cond (.tmp 17) (.region [⟨some 18, .mov (.tmp 3), none⟩,
    ⟨some 19, .faddr 1 (.tmp 1), none⟩,
    ⟨some 20, .load none (.tmp 19), none⟩,
    ⟨some 21, .pcall 62 [(.tmp 20)], none⟩,
    ⟨some 22, .bin .add (.con (.str ⟨#[32]⟩)) (.tmp 21), none⟩,
    ⟨some 23, .bin .add (.tmp 18) (.tmp 22), none⟩,
    ⟨some 3, .mov (.tmp 23), none⟩]) (.skip)))
  (.seq (.seq (.region [⟨some 24, .faddr 2 (.tmp 1), none⟩,
    ⟨some 25, .load none (.tmp 24), none⟩,
    ⟨some 26, .lenl (.tmp 25), none⟩,
    ⟨some 27, .bin .gtr (.tmp 26) (.con (.int .i64 0)), none⟩])
  (.cond (.tmp 27) (.region [⟨some 28, .mov (.tmp 3), none⟩,
    ⟨some 29, .bin .add (.tmp 28) (.con (.str ⟨#[32]⟩)), none⟩,
    ⟨some 3, .mov (.tmp 29), none⟩]) (.skip)))
  (.seq (.seq (.region [⟨some 30, .faddr 2 (.tmp 1), none⟩,
    ⟨some 31, .load none (.tmp 30), none⟩,
    ⟨some 32, .lenl (.tmp 31), none⟩,
    ⟨some 33, .mov (.con (.int .i64 0)), none⟩])
  (.block 0 (.kill [0, 2, 5, 8, 9, 10, 11, 12, 13, 14, 15, 16, 17, 18, 19, 20, 21, 22, 23, 24, 25, 26, 27, 28, 29, 30, 34, 35, 36, 37, 38, 39, 40, 41, 42, 43, 44, 45, 46, 47, 48, 49, 50, 51, 52] (.loop l_regencyref12_Text_0))))
  (.seq (.seq (.region [⟨some 53, .faddr 3 (.tmp 1), none⟩,
    ⟨some 54, .load none (.tmp 53), none⟩,
    ⟨some 55, .bin .neq (.tmp 54) (.con (.str ⟨#[]⟩)), none⟩])
  (.cond (.tmp 55) (.region [⟨some 56, .mov (.tmp 3), none⟩,
    ⟨some 57, .faddr 3 (.tmp 1), none⟩,
    ⟨some 58, .load none (.tmp 57), none⟩,
    ⟨some 59, .bin .add (.con (.str ⟨#[32]⟩)) (.tmp 58), none⟩,
    ⟨some 60, .bin .add (.tmp 56) (.tmp 59), none⟩,
    ⟨some 3, .mov (.tmp 60), none⟩]) (.skip)))
  (.seq (.seq (.region [⟨some 61, .faddr 4 (.tmp 1), none⟩,
    ⟨some 62, .load none (.tmp 61), none⟩,
    ⟨some 63, .lenl (.tmp 62), none⟩,
    ⟨some 64, .bin .gtr (.tmp 63) (.con (.int .i64 0)), none⟩])
  (.cond (.tmp 64) (.region [⟨some 65, .mov (.tmp 3), none⟩,
    ⟨some 66, .faddr 4 (.tmp 1), none⟩,
    ⟨some 67, .load none (.tmp 66), none⟩,
    ⟨some 68, .pcall 63 [(.tmp 67)], none⟩,
    ⟨some 69, .bin .add (.con (.str ⟨#[32]⟩)) (.tmp 68), none⟩,
    ⟨some 70, .bin .add (.tmp 65) (.tmp 69), none⟩,
    ⟨some 3, .mov (.tmp 70), none⟩]) (.skip)))
  (.seq (.seq (.region [⟨some 71, .faddr 5 (.tmp 1), none⟩,
    ⟨some 72, .load none (.tmp 71), none⟩,
    ⟨some 73, .lenl (.tmp 72), none⟩,
    ⟨some 74, .mov (.con (.int .i64 0)), none⟩])
  (.block 2 (.kill [1, 6, 7, 53, 54, 55, 56, 57, 58, 59, 60, 61, 62, 63, 64, 65, 66, 67, 68, 69, 70, 71, 75, 76, 77, 78, 79, 80, 81, 82, 83, 84, 85, 86, 87, 88, 89, 90, 91, 92, 93, 94, 95, 96, 97, 98, 99, 100] (.loop l_regencyref12_Text_1))))
  (.seq (.region [⟨some 101, .mov (.tmp 3), none⟩,
    ⟨some 2, .mov (.tmp 101), none⟩])
  (.ret)))))))))),
  [.tmp 2]⟩
theorem is_regencyref12_Text : IsFn Tryz.prog 28 c_regencyref12_Text := isFn_of [([], []), ([], []), ([], []), ([], [2]), ([], []), ([], [3]), ([], []), ([], []), ([], []), ([0, 2, 5, 8, 9, 10, 11, 12, 13, 14, 15, 16, 17, 18, 19, 20, 21, 22, 23, 24, 25, 26, 27, 28, 29, 30, 34, 35, 36, 37, 38, 39, 40, 41, 42, 43, 44, 45, 46, 47, 48, 49, 50, 51, 52], []), ([], []), ([31, 32, 33, 34], []), ([], []), ([], []), ([], []), ([], []), ([], []), ([], []), ([], [3]), ([], []), ([1, 6, 7, 53, 54, 55, 56, 57, 58, 59, 60, 61, 62, 63, 64, 65, 66, 67, 68, 69, 70, 71, 75, 76, 77, 78, 79, 80, 81, 82, 83, 84, 85, 86, 87, 88, 89, 90, 91, 92, 93, 94, 95, 96, 97, 98, 99, 100], []), ([], []), ([72, 73, 74, 75], []), ([], []), ([], []), ([], []), ([], []), ([], [3, 7, 12]), ([], []), ([], []), ([], [])] (by kernel_rfl)

/-- regency/reply.Same -/
def c_reply_Same : CFn := ⟨45, .seq (.region [⟨some 2, .box (.tmp 0), none⟩,
    ⟨some 3, .box (.tmp 1), none⟩,
    ⟨some 4, .mov (.con (.bool false)), none⟩])
  (.seq (.region [⟨some 5, .faddr 0 (.tmp 2), none⟩,
    ⟨some 6, .load none (.tmp 5), none⟩,
    ⟨some 7, .faddr 0 (.tmp 3), none⟩,
    ⟨some 8, .load none (.tmp 7), none⟩,
    ⟨some 9, .bin .eql (.tmp 6) (.tmp 8), none⟩,
    ⟨some 10, .mov (.tmp 9), none⟩,
    ⟨some 11, .faddr 1 (.tmp 2), (some (10, true))⟩,
    ⟨some 12, .load none (.tmp 11), (some (10, true))⟩,
    ⟨some 13, .faddr 1 (.tmp 3), (some (10, true))⟩,
    ⟨some 14, .load none (.tmp 13), (some (10, true))⟩,
    ⟨some 15, .bin .eql (.tmp 12) (.tmp 14), (some (10, true))⟩,
    ⟨some 16, .pick (.tmp 10) (.tmp 15) (.con (.bool false)), none⟩,
    ⟨some 17, .mov (.tmp 16), none⟩,
    ⟨some 18, .faddr 2 (.tmp 2), (some (17, true))⟩,
    ⟨some 19, .load none (.tmp 18), (some (17, true))⟩,
    ⟨some 20, .faddr 2 (.tmp 3), (some (17, true))⟩,
    ⟨some 21, .load none (.tmp 20), (some (17, true))⟩,
    ⟨some 22, .pcall 64 [(.tmp 19), (.tmp 21)], (some (17, true))⟩,
    ⟨some 23, .pick (.tmp 17) (.tmp 22) (.con (.bool false)), none⟩,
    ⟨some 24, .mov (.tmp 23), none⟩,
    ⟨some 25, .faddr 3 (.tmp 2), (some (24, true))⟩,
    ⟨some 26, .load none (.tmp 25), (some (24, true))⟩,
    ⟨some 27, .faddr 3 (.tmp 3), (some (24, true))⟩,
    ⟨some 28, .load none (.tmp 27), (some (24, true))⟩,
    ⟨some 29, .bin .eql (.tmp 26) (.tmp 28), (some (24, true))⟩,
    ⟨some 30, .pick (.tmp 24) (.tmp 29) (.con (.bool false)), none⟩,
    ⟨some 31, .mov (.tmp 30), none⟩,
    ⟨some 32, .faddr 4 (.tmp 2), (some (31, true))⟩,
    ⟨some 33, .load none (.tmp 32), (some (31, true))⟩,
    ⟨some 34, .faddr 4 (.tmp 3), (some (31, true))⟩,
    ⟨some 35, .load none (.tmp 34), (some (31, true))⟩,
    ⟨some 36, .pcall 65 [(.tmp 33), (.tmp 35)], (some (31, true))⟩,
    ⟨some 37, .pick (.tmp 31) (.tmp 36) (.con (.bool false)), none⟩,
    ⟨some 38, .mov (.tmp 37), none⟩,
    ⟨some 39, .faddr 5 (.tmp 2), (some (38, true))⟩,
    ⟨some 40, .load none (.tmp 39), (some (38, true))⟩,
    ⟨some 41, .faddr 5 (.tmp 3), (some (38, true))⟩,
    ⟨some 42, .load none (.tmp 41), (some (38, true))⟩,
    ⟨some 43, .pcall 66 [(.tmp 40), (.tmp 42)], (some (38, true))⟩,
    ⟨some 44, .pick (.tmp 38) (.tmp 43) (.con (.bool false)), none⟩,
    ⟨some 4, .mov (.tmp 44), none⟩])
  (.ret)),
  [.tmp 4]⟩
theorem is_reply_Same : IsFn Tryz.prog 29 c_reply_Same := isFn_of [([], []), ([], [17, 31, 38]), ([], [])] (by kernel_rfl)

/-- regency/reply.Refused -/
def c_reply_Refused : CFn := ⟨5, .seq (.region [⟨some 2, .alloc [.int .i64 0, .int .i64 0, .sl .ex [], .str ⟨#[]⟩, .sl .ex [], .sl .ex []], none⟩])
  (.seq (.region [⟨some 3, .mov (.tmp 0), none⟩,
    ⟨some 4, .build [.int .i64 0, .int .i64 0, .sl .ex [], .str ⟨#[]⟩, .sl .ex [], .sl .ex []] [(0, 1, (.tmp 3))], none⟩,
    ⟨none, .store 6 (.tmp 2) (.tmp 4), none⟩])
  (.ret)),
  [.cell 2 (some 6)]⟩
theorem is_reply_Refused : IsFn Tryz.prog 30 c_reply_Refused := isFn_of [([], []), ([], []), ([], [])] (by kernel_rfl)

abbrev s_reply_Parse_0 (v2 v4 v5 v7 v29 v30 : AV) : List AV := [.any, undefA, v2, .any, v4, v5, .any, v7, undefA, .any, .any, .any, .any, .any, .any, .any, .any, .any, .any, .any, .any, .any, .any, .any, .any, .any, .any, .any, .any, v29, v30, .any, .any, .any, .any, .any, .any, .any, .any, .any, .any, .any, .any, .any, .any, undefA, undefA, undefA, undefA, undefA, undefA, undefA, undefA, undefA, undefA, undefA, undefA, undefA, undefA, undefA, undefA, undefA]
abbrev x_reply_Parse_0 (v2 v4 v5 v7 : AV) : List AV := [.any, undefA, v2, .any, v4, v5, .any, v7, undefA, .any, .any, .any, .any, .any, .any, .any, .any, .any, .any, .any, .any, .any, .any, .any, .any, .any, .any, .any, .any, .any, .any, .any, .any, .any, .any, .any, .any, .any, .any, .any, .any, .any, .any, .any, .any, undefA, undefA, undefA, undefA, undefA, undefA, undefA, undefA, undefA, undefA, undefA, undefA, undefA, undefA, undefA, undefA, undefA]
abbrev l_reply_Parse_0 : CC := .kill [0, 3, 6, 9, 10, 11, 12, 13, 14, 15, 16, 17, 18, 19, 20, 21, 22, 23, 24, 25, 26, 27, 28, 31, 32, 33, 34, 35, 36, 37, 38, 39, 40, 41, 42, 43, 44] (.seq (.region [⟨some 31, .bin .lss (.tmp 30) (.tmp 29), none⟩])
  (.seq (.cond (.tmp 31) (.skip) (.kill [29, 30, 31] (.exit 0)))
  (.seq (.block 1 (.seq (.region [⟨some 32, .faddr 5 (.tmp 5), none⟩]) (.seq (.region [⟨some 34, .mov (.tmp 4), none⟩]) (.seq (.region [⟨some 36, .mov (.tmp 4), none⟩]) (.seq (.region [⟨some 38, .mov (.tmp 4), none⟩]) (.both (.seq (.region [⟨some 33, .ltake (.tmp 32), none⟩]) (.seq (.region [⟨some 35, .call 39 [(.tmp 34), (.con (.int .i64 1048576))], none⟩]) (.seq (.region [⟨some 37, .call 39 [(.tmp 36), (.con (.int .i64 5))], none⟩]) (.seq (.region [⟨some 39, .call 39 [(.tmp 38), (.con (.int .i64 1048576))], none⟩]) (.seq (.region [⟨some 40, .build [.int .i64 0, .int .i64 0, .int .i64 0] [(0, 1, (.tmp 35)), (1, 1, (.tmp 37)), (2, 1, (.tmp 39))], none⟩]) (.seq (.region [⟨some 41, .bslice 3 false [(.tmp 40)], none⟩]) (.seq (.region [⟨some 42, .append 3 24 false (.tmp 33) (.tmp 41), none⟩]) (.seq (.region [⟨some 43, .faddr 5 (.tmp 5), none⟩]) (.seq (.region [⟨none, .store 1 (.tmp 43) (.tmp 42), none⟩]) (.skip)))))))))) (.seq (.region [⟨some 35, .call 39 [(.tmp 34), (.con (.int .i64 1048576))], none⟩]) (.both (.seq (.region [⟨some 33, .ltake (.tmp 32), none⟩]) (.seq (.region [⟨some 37, .call 39 [(.tmp 36), (.con (.int .i64 5))], none⟩]) (.seq (.region [⟨some 39, .call 39 [(.tmp 38), (.con (.int .i64 1048576))], none⟩]) (.seq (.region [⟨some 40, .build [.int .i64 0, .int .i64 0, .int .i64 0] [(0, 1, (.tmp 35)), (1, 1, (.tmp 37)), (2, 1, (.tmp 39))], none⟩]) (.seq (.region [⟨some 41, .bslice 3 false [(.tmp 40)], none⟩]) (.seq (.region [⟨some 42, .append 3 24 false (.tmp 33) (.tmp 41), none⟩]) (.seq (.region [⟨some 43, .faddr 5 (.tmp 5), none⟩]) (.seq (.region [⟨none, .store 1 (.tmp 43) (.tmp 42), none⟩]) (.skip))))))))) (.seq (.region [⟨some 37, .call 39 [(.tmp 36), (.con (.int .i64 5))], none⟩]) (.both (.seq (.region [⟨some 33, .ltake (.tmp 32), none⟩]) (.seq (.region [⟨some 39, .call 39 [(.tmp 38), (.con (.int .i64 1048576))], none⟩]) (.seq (.region [⟨some 40, .build [.int .i64 0, .int .i64 0, .int .i64 0] [(0, 1, (.tmp 35)), (1, 1, (.tmp 37)), (2, 1, (.tmp 39))], none⟩]) (.seq (.region [⟨some 41, .bslice 3 false [(.tmp 40)], none⟩]) (.seq (.region [⟨some 42, .append 3 24 false (.tmp 33) (.tmp 41), none⟩]) (.seq (.region [⟨some 43, .faddr 5 (.tmp 5), none⟩]) (.seq (.region [⟨none, .store 1 (.tmp 43) (.tmp 42), none⟩]) (.skip)))))))) (.seq (.region [⟨some 39, .call 39 [(.tmp 38), (.con (.int .i64 1048576))], none⟩]) (.seq (.region [⟨some 33, .ltake (.tmp 32), none⟩]) (.seq (.region [⟨some 40, .build [.int .i64 0, .int .i64 0, .int .i64 0] [(0, 1, (.tmp 35)), (1, 1, (.tmp 37)), (2, 1, (.tmp 39))], none⟩]) (.seq (.region [⟨some 41, .bslice 3 false [(.tmp 40)], none⟩]) (.seq (.region [⟨some 42, .append 3 24 false (.tmp 33) (.tmp 41), none⟩]) (.seq (.region [⟨some 43, .faddr 5 (.tmp 5), none⟩]) (.seq (.region [⟨none, .store 1 (.tmp 43) (.tmp 42), none⟩]) (.skip))))))))))))))))))
  (.region [⟨some 44, .bin .add (.tmp 30) (.con (.int .i64 1)), none⟩,
    ⟨some 30, .mov (.tmp 44), none⟩]))))
/-- regency/reply.Parse -/
def c_reply_Parse : CFn := ⟨62, .seq (.region [⟨some 2, .alloc [.int .i64 0, .int .i64 0, .sl .ex [], .str ⟨#[]⟩, .sl .ex [], .sl .ex []], none⟩,
    ⟨some 3, .mov (.con (.nili)), none⟩])
  (.seq (.region [⟨some 9, .take (.tmp 0), none⟩,
    ⟨some 10, .call 19 [(.tmp 9)], none⟩,
    ⟨some 4, .mov (.tmp 10), none⟩])
  (.seq (.region [⟨some 11, .mov (.tmp 4), none⟩,
    ⟨some 12, .call 39 [(.tmp 11), (.con (.int .i64 99))], none⟩,
    ⟨some 13, .mov (.tmp 4), none⟩,
    ⟨some 14, .call 39 [(.tmp 13), (.con (.int .i64 1099511627776))], none⟩,
    ⟨some 15, .mov (.tmp 4), none⟩,
    ⟨some 16, .call 40 [(.tmp 15), (.con (.int .i64 256))], none⟩,
    ⟨some 17, .cStrBytes (.tmp 16), none⟩,
    ⟨some 18, .mov (.tmp 4), none⟩,
    ⟨some 19, .call 40 [(.tmp 18), (.con (.int .i64 80))], none⟩,
    ⟨some 20, .build [.int .i64 0, .int .i64 0, .sl .ex [], .str ⟨#[]⟩, .sl .ex [], .sl .ex []] [(0, 1, (.tmp 12)), (1, 1, (.tmp 14)), (2, 1, (.tmp 17)), (3, 1, (.tmp 19))], none⟩,
    ⟨some 5, .alloc [.int .i64 0, .int .i64 0, .sl .ex [], .str ⟨#[]⟩, .sl .ex [], .sl .ex []], none⟩,
    ⟨none, .store 6 (.tmp 5) (.tmp 20), none⟩])
  (.seq (.region [⟨some 22, .mov (.tmp 4), none⟩,
    ⟨some 23, .call 67 [(.tmp 22)], none⟩,
    ⟨some 21, .take (.tmp 23), none⟩,
    ⟨some 24, .extract 21 0, none⟩,
    ⟨some 25, .extract 21 1, none⟩,
    ⟨some 6, .take (.tmp 24), none⟩,
    ⟨some 7, .mov (.tmp 25), none⟩])
  (.seq (.region [⟨some 26, .take (.tmp 6), none⟩,
    ⟨some 27, .faddr 4 (.tmp 5), none⟩,
    ⟨none, .store 1 (.tmp 27) (.tmp 26), none⟩])
  (.seq (.seq (.region [⟨some 28, .mov (.tmp 4), none⟩,
    ⟨some 29, .call 39 [(.tmp 28), (.con (.int .i64 16))], none⟩,
    ⟨some 30, .mov (.con (.int .i64 0)), none⟩])
  (.block 0 (.kill [0, 3, 6, 9, 10, 11, 12, 13, 14, 15, 16, 17, 18, 19, 20, 21, 22, 23, 24, 25, 26, 27, 28, 31, 32, 33, 34, 35, 36, 37, 38, 39, 40, 41, 42, 43, 44] (.loop l_reply_Parse_0))))
  (.seq (.seq (.region [⟨some 45, .mov (.tmp 4), none⟩,
    ⟨some 46, .call 68 [(.tmp 45)], none⟩,
    ⟨some 8, .mov (.tmp 46), none⟩])
  (.seq (.region [⟨some 47, .mov (.tmp 8), none⟩,
    ⟨some 48, .isnil .ifc true (.tmp 47), none⟩,
    ⟨some 49, .mov (.tmp 48), none⟩,
    ⟨some 50, .mov (.tmp 7), (some (49, false))⟩,
    ⟨some 51, .bin .neq (.tmp 50) (.con (.int .i64 0)), (some (49, false))⟩,
    ⟨some 52, .pick (.tmp 49) (.con (.bool true)) (.tmp 51), none⟩,
    ⟨some 53, .mov (.tmp 52), none⟩,
    ⟨some 54, .load (some 6) (.tmp 5), (some (53, false))⟩,
    ⟨some 55, .pcall 25 [(.tmp 54)], (some (53, false))⟩,
    ⟨some 56, .un .not (.tmp 55), (some (53, false))⟩,
    ⟨some 57, .pick (.tmp 53) (.con (.bool true)) (.tmp 56), none⟩])
  (.cond (.tmp 57) (.seq (.region [⟨some 58, .build [.int .i64 0, .int .i64 0, .sl .ex [], .str ⟨#[]⟩, .sl .ex [], .sl .ex []] [], none⟩,
    ⟨some 59, .mov (.tmp 8), none⟩,
    ⟨some 60, .call 69 [(.con (.str ⟨#[114, 101, 112, 108, 121]⟩)), (.con (.int .i64 10)), (.tmp 59)], none⟩,
    ⟨none, .store 6 (.tmp 2) (.tmp 58), none⟩,
    ⟨some 3, .mov (.tmp 60), none⟩])
  (.ret)) (.skip))))
  (.seq (.region [⟨some 61, .load (some 6) (.tmp 5), none⟩,
    ⟨none, .store 6 (.tmp 2) (.tmp 61), none⟩,
    ⟨some 3, .mov (.con (.nili)), none⟩])
  (.ret)))))))),
  [.cell 2 (some 6), .tmp 3]⟩
theorem is_reply_Parse : IsFn Tryz.prog 31 c_reply_Parse := isFn_of [([], []), ([], [0]), ([], []), ([], [2, 5]), ([], [0]), ([], []), ([0, 3, 6, 9, 10, 11, 12, 13, 14, 15, 16, 17, 18, 19, 20, 21, 22, 23, 24, 25, 26, 27, 28, 31, 32, 33, 34, 35, 36, 37, 38, 39, 40, 41, 42, 43, 44], []), ([], []), ([29, 30, 31], []), ([], [1]), ([], []), ([], []), ([], [8]), ([], []), ([], []), ([], []), ([], [])] (by kernel_rfl)

/-- regency/clients.known -/
def c_clients_known : CFn := ⟨9, .seq (.region [⟨some 2, .mov (.con (.bool false)), none⟩])
  (.seq (.region [⟨some 3, .mov (.tmp 0), none⟩,
    ⟨some 4, .bin .geq (.tmp 3) (.con (.int .i64 0)), none⟩,
    ⟨some 5, .mov (.tmp 4), none⟩,
    ⟨some 6, .mov (.tmp 0), (some (5, true))⟩,
    ⟨some 7, .bin .lss (.tmp 6) (.con (.int .i64 8)), (some (5, true))⟩,
    ⟨some 8, .pick (.tmp 5) (.tmp 7) (.con (.bool false)), none⟩,
    ⟨some 2, .mov (.tmp 8), none⟩])
  (.ret)),
  [.tmp 2]⟩
theorem is_clients_known : IsFn Tryz.prog 32 c_clients_known := isFn_of [([], []), ([], []), ([], [])] (by kernel_rfl)

/-- regency/clients.copied -/
def c_clients_copied : CFn := ⟨12, .seq (.region [⟨some 1, .box (.tmp 0), none⟩,
    ⟨some 2, .alloc [.int .i64 0, .int .i64 0, .sl .ex [], .str ⟨#[]⟩, .sl .ex [], .sl .ex []], none⟩])
  (.seq (.region [⟨some 6, .load (some 6) (.tmp 1), none⟩,
    ⟨some 7, .pcall 26 [(.tmp 6)], none⟩,
    ⟨some 8, .call 31 [(.tmp 7)], none⟩,
    ⟨some 5, .take (.tmp 8), none⟩,
    ⟨some 9, .extract 5 0, none⟩,
    ⟨some 10, .extract 5 1, none⟩,
    ⟨some 3, .alloc [.int .i64 0, .int .i64 0, .sl .ex [], .str ⟨#[]⟩, .sl .ex [], .sl .ex []], none⟩,
    ⟨none, .store 6 (.tmp 3) (.tmp 9), none⟩,
    ⟨some 4, .mov (.tmp 10), none⟩])
  (.seq (.region [⟨some 11, .load (some 6) (.tmp 3), none⟩,
    ⟨none, .store 6 (.tmp 2) (.tmp 11), none⟩])
  (.ret))),
  [.cell 2 (some 6)]⟩
theorem is_clients_copied : IsFn Tryz.prog 33 c_clients_copied := isFn_of [([], []), ([], [1, 3]), ([], []), ([], [])] (by kernel_rfl)

abbrev s_clients_Book_Put_0 (v1 v11 v12 : AV) : List AV := [.any, v1, undefA, undefA, undefA, .any, .any, .any, .any, .any, .any, v11, v12, .any, .any, .any, .any, .any, .any, .any, .any, .any, .any, .any, .any, .any, .any, .any, .any]
abbrev x_clients_Book_Put_0  : List AV := [.any, .any, undefA, undefA, undefA, .any, .any, .any, .any, .any, .any, .any, .any, .any, .any, .any, .any, .any, .any, .any, .any, .any, .any, .any, .any, .any, .any, .any, .any]
abbrev l_clients_Book_Put_0 : CC := .kill [0, 5, 6, 7, 8, 9, 10, 13, 14, 15, 16, 17, 18, 19, 20, 21, 22, 23, 24, 25, 26, 27, 28] (.seq (.region [⟨some 13, .bin .lss (.tmp 12) (.con (.int .i64 8)), none⟩])
  (.seq (.cond (.tmp 13) (.skip) (.kill [1, 11, 12, 13] (.exit 0)))
  (.seq (.block 1 (.seq (.region [⟨some 14, .idxa (some 7) 7 8 (.tmp 11) (.tmp 12), none⟩,
    ⟨some 5, .alloc [.int .i64 0, .int .i64 0, .int .i64 0, .sl .ex [], .str ⟨#[]⟩, .sl .ex [], .sl .ex []], none⟩,
    ⟨none, .store 7 (.tmp 5) (.tmp 14), none⟩])
  (.seq (.region [⟨some 15, .mov (.tmp 1), none⟩,
    ⟨some 16, .faddr 0 (.tmp 5), none⟩,
    ⟨some 17, .load none (.tmp 16), none⟩,
    ⟨some 18, .call 55 [(.tmp 15), (.tmp 17)], none⟩])
  (.seq (.region [⟨some 19, .faddr 0 (.tmp 5), none⟩,
    ⟨some 20, .load none (.tmp 19), none⟩,
    ⟨some 21, .bin .gtr (.tmp 20) (.con (.int .i64 0)), none⟩])
  (.cond (.tmp 21) (.region [⟨some 22, .mov (.tmp 1), none⟩,
    ⟨some 23, .faddr 1 (.tmp 5), none⟩,
    ⟨some 24, .load (some 6) (.tmp 23), none⟩,
    ⟨some 25, .pcall 26 [(.tmp 24)], none⟩,
    ⟨some 26, .cBytesStr (.tmp 25), none⟩,
    ⟨some 27, .call 56 [(.tmp 22), (.tmp 26)], none⟩]) (.skip))))))
  (.region [⟨some 28, .bin .add (.tmp 12) (.con (.int .i64 1)), none⟩,
    ⟨some 12, .mov (.tmp 28), none⟩]))))
/-- (*regency/clients.Book).Put -/
def c_clients_Book_Put : CFn := ⟨29, .seq (.seq (.region [⟨some 6, .mov (.tmp 0), none⟩,
    ⟨some 7, .isnil .ptr false (.tmp 6), none⟩])
  (.cond (.tmp 7) (.ret) (.skip)))
  (.seq (.region [⟨some 8, .mov (.tmp 0), none⟩,
    ⟨some 9, .nilck (.tmp 8), none⟩,
    ⟨some 10, .faddr 0 (.tmp 9), none⟩,
    ⟨some 11, .load (some 56) (.tmp 10), none⟩,
    ⟨some 12, .mov (.con (.int .i64 0)), none⟩])
  (.block 0 (.kill [0, 5, 6, 7, 8, 9, 10, 13, 14, 15, 16, 17, 18, 19, 20, 21, 22, 23, 24, 25, 26, 27, 28] (.loop l_clients_Book_Put_0)))),
  []⟩
theorem is_clients_Book_Put : IsFn Tryz.prog 34 c_clients_Book_Put := isFn_of [([], []), ([], []), ([], []), ([0, 5, 6, 7, 8, 9, 10, 13, 14, 15, 16, 17, 18, 19, 20, 21, 22, 23, 24, 25, 26, 27, 28], []), ([], []), ([1, 11, 12, 13], []), ([], []), ([], []), ([], []), ([], [3]), ([], [])] (by kernel_rfl)

/-- (*regency/tape.Pen).Bytes -/
def c_tape_Pen_Bytes : CFn := ⟨10, .seq (.region [⟨some 2, .take (.con (.sl .ex [])), none⟩])
  (.seq (.seq (.region [⟨some 3, .mov (.tmp 0), none⟩,
    ⟨some 4, .isnil .ptr false (.tmp 3), none⟩])
  (.cond (.tmp 4) (.seq (.region [⟨some 2, .take (.con (.sl .ex [])), none⟩])
  (.ret)) (.skip)))
  (.seq (.region [⟨some 5, .mov (.tmp 0), none⟩,
    ⟨some 6, .nilck (.tmp 5), none⟩,
    ⟨some 7, .faddr 0 (.tmp 6), none⟩,
    ⟨some 8, .load none (.tmp 7), none⟩,
    ⟨some 9, .pcall 42 [(.tmp 8)], none⟩,
    ⟨some 2, .take (.tmp 9), none⟩])
  (.ret))),
  [.tmp 2]⟩
theorem is_tape_Pen_Bytes : IsFn Tryz.prog 35 c_tape_Pen_Bytes := isFn_of [([], [0]), ([], []), ([], [0]), ([], []), ([], [4, 5]), ([], [])] (by kernel_rfl)

/-- regency/regencyref03.Number -/
def c_regencyref03_Number : CFn := ⟨19, .seq (.region [⟨some 2, .mov (.con (.str ⟨#[]⟩)), none⟩])
  (.seq (.seq (.region [⟨some 3, .mov (.tmp 0), none⟩,
    ⟨some 4, .bin .lss (.tmp 3) (.con (.int .i64 128)), none⟩])
  (.cond (.tmp 4) (.seq (.region [⟨some 5, .mov (.tmp 0), none⟩,
    ⟨some 6, .cInt .u8 (.tmp 5), none⟩,
    ⟨some 7, .bslice 1 false [(.tmp 6)], none⟩,
    ⟨some 8, .cBytesStr (.tmp 7), none⟩,
    ⟨some 2, .mov (.tmp 8), none⟩])
  (.ret)) (.skip)))
  (.seq (.region [⟨some 9, .mov (.tmp 0), none⟩,
    ⟨some 10, .bin .rem (.tmp 9) (.con (.int .i64 128)), none⟩,
    ⟨some 11, .bin .add (.con (.int .i64 128)) (.tmp 10), none⟩,
    ⟨some 12, .cInt .u8 (.tmp 11), none⟩,
    ⟨some 13, .bslice 1 false [(.tmp 12)], none⟩,
    ⟨some 14, .cBytesStr (.tmp 13), none⟩,
    ⟨some 15, .mov (.tmp 0), none⟩,
    ⟨some 16, .bin .quo (.tmp 15) (.con (.int .i64 128)), none⟩,
    ⟨some 17, .pcall 36 [(.tmp 16)], none⟩,
    ⟨some 18, .bin .add (.tmp 14) (.tmp 17), none⟩,
    ⟨some 2, .mov (.tmp 18), none⟩])
  (.ret))),
  [.tmp 2]⟩
theorem is_regencyref03_Number : IsFn Tryz.prog 36 c_regencyref03_Number := isFn_of [([], []), ([], []), ([], []), ([], []), ([], [8]), ([], [])] (by kernel_rfl)

/-- regency/regencyref03.Text -/
def c_regencyref03_Text : CFn := ⟨8, .seq (.region [⟨some 2, .mov (.con (.str ⟨#[]⟩)), none⟩])
  (.seq (.region [⟨some 3, .mov (.tmp 0), none⟩,
    ⟨some 4, .lens (.tmp 3), none⟩,
    ⟨some 5, .pcall 36 [(.tmp 4)], none⟩,
    ⟨some 6, .mov (.tmp 0), none⟩,
    ⟨some 7, .bin .add (.tmp 5) (.tmp 6), none⟩,
    ⟨some 2, .mov (.tmp 7), none⟩])
  (.ret)),
  [.tmp 2]⟩
theorem is_regencyref03_Text : IsFn Tryz.prog 37 c_regencyref03_Text := isFn_of [([], []), ([], [2]), ([], [])] (by kernel_rfl)

abbrev s_regencyref06_Same_0 (v0 v1 v12 v13 : AV) : List AV := [v0, v1, undefA, undefA, .any, .any, .any, .any, .any, .any, .any, .any, v12, v13, .any, .any, .any, .any, .any, .any, .any, .any, .any, .any, .any, .any]
abbrev x_regencyref06_Same_0  : List AV := [.any, .any, undefA, undefA, .any, .any, .any, .any, .any, .any, .any, .any, .any, .any, .any, .any, .any, .any, .any, .any, .any, .any, .any, .any, .any, .any]
abbrev l_regencyref06_Same_0 : CC := .kill [4, 5, 6, 7, 8, 9, 10, 11, 14, 15, 16, 17, 18, 19, 20, 21, 22, 23, 24, 25] (.seq (.region [⟨some 14, .bin .lss (.tmp 13) (.tmp 12), none⟩])
  (.seq (.cond (.tmp 14) (.skip) (.kill [0, 1, 12, 13, 14] (.exit 0)))
  (.seq (.block 1 (.seq (.region [⟨some 15, .mov (.tmp 13), none⟩,
    ⟨some 5, .mov (.tmp 15), none⟩])
  (.seq (.region [⟨some 16, .mov (.tmp 0), none⟩,
    ⟨some 17, .mov (.tmp 5), none⟩,
    ⟨some 18, .iaddr 2 none (.tmp 16) (.tmp 17), none⟩,
    ⟨some 19, .load (some 2) (.tmp 18), none⟩,
    ⟨some 20, .mov (.tmp 1), none⟩,
    ⟨some 21, .mov (.tmp 5), none⟩,
    ⟨some 22, .iaddr 2 none (.tmp 20) (.tmp 21), none⟩,
    ⟨some 23, .load (some 2) (.tmp 22), none⟩,
    ⟨some 24, .eqs true [(0, .string), (1, (.int .i64))] (.tmp 19) (.tmp 23), none⟩])
  (.cond (.tmp 24) (.seq (.region [⟨some 4, .mov (.con (.bool false)), none⟩])
  (.ret)) (.skip)))))
  (.region [⟨some 25, .bin .add (.tmp 13) (.con (.int .i64 1)), none⟩,
    ⟨some 13, .mov (.tmp 25), none⟩]))))
/-- regency/regencyref06.Same -/
def c_regencyref06_Same : CFn := ⟨26, .seq (.region [⟨some 4, .mov (.con (.bool false)), none⟩])
  (.seq (.seq (.region [⟨some 6, .mov (.tmp 0), none⟩,
    ⟨some 7, .lenl (.tmp 6), none⟩,
    ⟨some 8, .mov (.tmp 1), none⟩,
    ⟨some 9, .lenl (.tmp 8), none⟩,
    ⟨some 10, .bin .neq (.tmp 7) (.tmp 9), none⟩])
  (.cond (.tmp 10) (.seq (.region [⟨some 4, .mov (.con (.bool false)), none⟩])
  (.ret)) (.skip)))
  (.seq (.seq (.region [⟨some 11, .mov (.tmp 0), none⟩,
    ⟨some 12, .lenl (.tmp 11), none⟩,
    ⟨some 13, .mov (.con (.int .i64 0)), none⟩])
  (.block 0 (.kill [4, 5, 6, 7, 8, 9, 10, 11, 14, 15, 16, 17, 18, 19, 20, 21, 22, 23, 24, 25] (.loop l_regencyref06_Same_0))))
  (.seq (.region [⟨some 4, .mov (.con (.bool true)), none⟩])
  (.ret)))),
  [.tmp 4]⟩
theorem is_regencyref06_Same : IsFn Tryz.prog 38 c_regencyref06_Same := isFn_of [([], []), ([], []), ([], []), ([], []), ([], []), ([4, 5, 6, 7, 8, 9, 10, 11, 14, 15, 16, 17, 18, 19, 20, 21, 22, 23, 24, 25], []), ([], []), ([0, 1, 12, 13, 14], []), ([], []), ([], []), ([], []), ([], []), ([], []), ([], []), ([], [])] (by kernel_rfl)

/-- (*regency/tape.Tape).Number -/
def c_tape_Tape_Number : CFn := ⟨49, .seq (.region [⟨some 4, .mov (.con (.int .i64 0)), none⟩])
  (.seq (.seq (.region [⟨some 8, .mov (.tmp 0), none⟩,
    ⟨some 9, .isnil .ptr false (.tmp 8), none⟩,
    ⟨some 10, .mov (.tmp 9), none⟩,
    ⟨some 11, .mov (.tmp 0), (some (10, false))⟩,
    ⟨some 12, .nilck (.tmp 11), (some (10, false))⟩,
    ⟨some 13, .faddr 1 (.tmp 12), (some (10, false))⟩,
    ⟨some 14, .load none (.tmp 13), (some (10, false))⟩,
    ⟨some 15, .isnil .ifc true (.tmp 14), (some (10, false))⟩,
    ⟨some 16, .pick (.tmp 10) (.con (.bool true)) (.tmp 15), none⟩])
  (.cond (.tmp 16) (.seq (.region [⟨some 4, .mov (.con (.int .i64 0)), none⟩])
  (.ret)) (.skip)))
  (.seq (.region [⟨some 18, .mov (.tmp 0), none⟩,
    ⟨some 19, .call 70 [(.tmp 18)], none⟩,
    ⟨some 17, .mov (.tmp 19), none⟩,
    ⟨some 20, .extract 17 0, none⟩,
    ⟨some 21, .extract 17 1, none⟩,
    ⟨some 22, .extract 17 2, none⟩,
    ⟨some 5, .mov (.tmp 20), none⟩,
    ⟨some 6, .mov (.tmp 21), none⟩,
    ⟨some 7, .mov (.tmp 22), none⟩])
  (.seq (.block 0 (.seq (.region [⟨some 24, .mov (.tmp 7), none⟩,
    ⟨some 25, .bin .neq (.tmp 24) (.con (.int .i64 0)), none⟩,
    ⟨some 23, .mov (.tmp 25), none⟩])
  (.cond (.tmp 23) (.seq (.region [⟨some 26, .mov (.tmp 0), none⟩,
    ⟨some 27, .mov (.tmp 7), none⟩,
    ⟨some 28, .call 71 [(.tmp 26), (.tmp 27)], none⟩,
    ⟨some 4, .mov (.tmp 28), none⟩])
  (.ret)) (.seq (.region [⟨some 30, .mov (.tmp 5), none⟩,
    ⟨some 31, .bin .lss (.tmp 30) (.con (.int .i64 0)), none⟩,
    ⟨some 32, .mov (.tmp 31), none⟩,
    ⟨some 33, .mov (.tmp 5), (some (32, false))⟩,
    ⟨some 34, .mov (.tmp 1), (some (32, false))⟩,
    ⟨some 35, .bin .gtr (.tmp 33) (.tmp 34), (some (32, false))⟩,
    ⟨some 36, .pick (.tmp 32) (.con (.bool true)) (.tmp 35), none⟩,
    ⟨some 29, .mov (.tmp 36), none⟩])
  (.cond (.tmp 29) (.seq (.region [⟨some 37, .mov (.tmp 0), none⟩,
    ⟨some 38, .call 71 [(.tmp 37), (.con (.int .i64 13))], none⟩,
    ⟨some 4, .mov (.tmp 38), none⟩])
  (.ret)) (.skip))))))
  (.seq (.region [⟨some 39, .mov (.tmp 0), none⟩,
    ⟨some 40, .mov (.tmp 0), none⟩,
    ⟨some 41, .nilck (.tmp 40), none⟩,
    ⟨some 42, .faddr 0 (.tmp 41), none⟩,
    ⟨some 43, .load none (.tmp 42), none⟩,
    ⟨some 44, .mov (.tmp 6), none⟩,
    ⟨some 45, .slice (some 1) (.tmp 43) (some (.tmp 44)) none none, none⟩,
    ⟨some 46, .nilck (.tmp 39), none⟩,
    ⟨some 47, .faddr 0 (.tmp 46), none⟩,
    ⟨none, .store 1 (.tmp 47) (.tmp 45), none⟩])
  (.seq (.region [⟨some 48, .mov (.tmp 5), none⟩,
    ⟨some 4, .mov (.tmp 48), none⟩])
  (.ret)))))),
  [.tmp 4]⟩
theorem is_tape_Tape_Number : IsFn Tryz.prog 39 c_tape_Tape_Number := isFn_of [([], []), ([], []), ([], []), ([], []), ([], []), ([], []), ([], []), ([], []), ([], []), ([], []), ([], []), ([], []), ([], []), ([], [])] (by kernel_rfl)

/-- (*regency/tape.Tape).Text -/
def c_tape_Tape_Text : CFn := ⟨61, .seq (.region [⟨some 4, .mov (.con (.str ⟨#[]⟩)), none⟩])
  (.seq (.seq (.region [⟨some 8, .mov (.tmp 0), none⟩,
    ⟨some 9, .isnil .ptr false (.tmp 8), none⟩,
    ⟨some 10, .mov (.tmp 9), none⟩,
    ⟨some 11, .mov (.tmp 0), (some (10, false))⟩,
    ⟨some 12, .nilck (.tmp 11), (some (10, false))⟩,
    ⟨some 13, .faddr 1 (.tmp 12), (some (10, false))⟩,
    ⟨some 14, .load none (.tmp 13), (some (10, false))⟩,
    ⟨some 15, .isnil .ifc true (.tmp 14), (some (10, false))⟩,
    ⟨some 16, .pick (.tmp 10) (.con (.bool true)) (.tmp 15), none⟩])
  (.cond (.tmp 16) (.seq (.region [⟨some 4, .mov (.con (.str ⟨#[]⟩)), none⟩])
  (.ret)) (.skip)))
  (.seq (.region [⟨some 17, .mov (.tmp 0), none⟩,
    ⟨some 18, .nilck (.tmp 17), none⟩,
    ⟨some 19, .faddr 0 (.tmp 18), none⟩,
    ⟨some 20, .load none (.tmp 19), none⟩,
    ⟨some 5, .take (.tmp 20), none⟩])
  (.seq (.region [⟨some 21, .mov (.tmp 0), none⟩,
    ⟨some 22, .mov (.tmp 1), none⟩,
    ⟨some 23, .call 39 [(.tmp 21), (.tmp 22)], none⟩,
    ⟨some 6, .mov (.tmp 23), none⟩])
  (.seq (.block 0 (.seq (.region [⟨some 25, .mov (.tmp 0), none⟩,
    ⟨some 26, .nilck (.tmp 25), none⟩,
    ⟨some 27, .faddr 1 (.tmp 26), none⟩,
    ⟨some 28, .load none (.tmp 27), none⟩,
    ⟨some 29, .isnil .ifc true (.tmp 28), none⟩,
    ⟨some 24, .mov (.tmp 29), none⟩])
  (.cond (.tmp 24) (.seq (.region [⟨some 4, .mov (.con (.str ⟨#[]⟩)), none⟩])
  (.ret)) (.seq (.region [⟨some 31, .mov (.tmp 6), none⟩,
    ⟨some 32, .mov (.tmp 0), none⟩,
    ⟨some 33, .nilck (.tmp 32), none⟩,
    ⟨some 34, .faddr 0 (.tmp 33), none⟩,
    ⟨some 35, .load none (.tmp 34), none⟩,
    ⟨some 36, .lenl (.tmp 35), none⟩,
    ⟨some 37, .bin .gtr (.tmp 31) (.tmp 36), none⟩,
    ⟨some 30, .mov (.tmp 37), none⟩])
  (.cond (.tmp 30) (.seq (.region [⟨some 38, .mov (.tmp 0), none⟩,
    ⟨some 39, .take (.tmp 5), none⟩,
    ⟨some 40, .nilck (.tmp 38), none⟩,
    ⟨some 41, .faddr 0 (.tmp 40), none⟩,
    ⟨none, .store 1 (.tmp 41) (.tmp 39), none⟩])
  (.seq (.region [⟨some 42, .mov (.tmp 0), none⟩,
    ⟨some 43, .call 71 [(.tmp 42), (.con (.int .i64 11))], none⟩])
  (.seq (.region [⟨some 4, .mov (.con (.str ⟨#[]⟩)), none⟩])
  (.ret)))) (.skip))))))
  (.seq (.region [⟨some 44, .mov (.tmp 0), none⟩,
    ⟨some 45, .nilck (.tmp 44), none⟩,
    ⟨some 46, .faddr 0 (.tmp 45), none⟩,
    ⟨some 47, .load none (.tmp 46), none⟩,
    ⟨some 48, .mov (.tmp 6), none⟩,
    ⟨some 49, .slice (some 1) (.tmp 47) none (some (.tmp 48)) none, none⟩,
    ⟨some 50, .cBytesStr (.tmp 49), none⟩,
    ⟨some 7, .mov (.tmp 50), none⟩])
  (.seq (.region [⟨some 51, .mov (.tmp 0), none⟩,
    ⟨some 52, .mov (.tmp 0), none⟩,
    ⟨some 53, .nilck (.tmp 52), none⟩,
    ⟨some 54, .faddr 0 (.tmp 53), none⟩,
    ⟨some 55, .load none (.tmp 54), none⟩,
    ⟨some 56, .mov (.tmp 6), none⟩,
    ⟨some 57, .slice (some 1) (.tmp 55) (some (.tmp 56)) none none, none⟩,
    ⟨some 58, .nilck (.tmp 51), none⟩,
    ⟨some 59, .faddr 0 (.tmp 58), none⟩,
    ⟨none, .store 1 (.tmp 59) (.tmp 57), none⟩])
  (.seq (.region [⟨some 60, .mov (.tmp 7), none⟩,
    ⟨some 4, .mov (.tmp 60), none⟩])
  (.ret)))))))),
  [.tmp 4]⟩
theorem is_tape_Tape_Text : IsFn Tryz.prog 40 c_tape_Tape_Text := isFn_of [([], []), ([], []), ([], []), ([], []), ([], [4]), ([], []), ([], []), ([], []), ([], []), ([], []), ([], [1]), ([], []), ([], []), ([], []), ([], []), ([], []), ([], []), ([], [])] (by kernel_rfl)

/-- (*regency/tape.Tape).Err -/
def c_tape_Tape_Err : CFn := ⟨10, .seq (.region [⟨some 2, .mov (.con (.nili)), none⟩])
  (.seq (.seq (.region [⟨some 3, .mov (.tmp 0), none⟩,
    ⟨some 4, .isnil .ptr false (.tmp 3), none⟩])
  (.cond (.tmp 4) (.seq (.region [⟨some 5, .call 72 [(.con (.str ⟨#[116, 97, 112, 101]⟩)), (.con (.int .i64 1))], none⟩,
    ⟨some 2, .mov (.tmp 5), none⟩])
  (.ret)) (.skip)))
  (.seq (.region [⟨some 6, .mov (.tmp 0), none⟩,
    ⟨some 7, .nilck (.tmp 6), none⟩,
    ⟨some 8, .faddr 1 (.tmp 7), none⟩,
    ⟨some 9, .load none (.tmp 8), none⟩,
    ⟨some 2, .mov (.tmp 9), none⟩])
  (.ret))),
  [.tmp 2]⟩
theorem is_tape_Tape_Err : IsFn Tryz.prog 41 c_tape_Tape_Err := isFn_of [([], []), ([], []), ([], []), ([], []), ([], []), ([], [])] (by kernel_rfl)

/-- slices.Clone[[]byte,byte] -/
def p_slices_Clone_byte_byte := cloneP 1 1
theorem ok_slices_Clone_byte_byte : OkDef Tryz.prog 42 (.prim p_slices_Clone_byte_byte) := clone_ok (hs0 := [([], [0])]) (hs2 := [([], [0])]) (hs4 := [([], [1, 3])]) (hs1 := []) (hs3 := []) (hs5 := []) Tryz.func42 rfl rfl (by kernel_rfl) rfl rfl rfl rfl rfl rfl rfl Tryz.underlying28 (by kernel_rfl) (by kernel_rfl) (by kernel_rfl)

/-- regency/fault.Code -/
def c_fault_Code : CFn := ⟨22, .seq (.region [⟨some 2, .mov (.con (.int .i64 0)), none⟩])
  (.seq (.seq (.region [⟨some 6, .mov (.tmp 0), none⟩,
    ⟨some 7, .isnil .ifc false (.tmp 6), none⟩])
  (.cond (.tmp 7) (.seq (.region [⟨some 2, .mov (.con (.int .i64 0)), none⟩])
  (.ret)) (.skip)))
  (.seq (.seq (.region [⟨some 9, .mov (.tmp 0), none⟩,
    ⟨some 10, .tass 122 (.nilp) (.tmp 9), none⟩,
    ⟨some 8, .mov (.tmp 10), none⟩,
    ⟨some 11, .extract 8 0, none⟩,
    ⟨some 12, .extract 8 1, none⟩,
    ⟨some 3, .mov (.tmp 11), none⟩,
    ⟨some 4, .mov (.tmp 12), none⟩])
  (.seq (.region [⟨some 13, .mov (.tmp 4), none⟩])
  (.cond (.tmp 13) (.seq (.region [⟨some 14, .mov (.tmp 3), none⟩,
    ⟨some 15, .nilck (.tmp 14), none⟩,
    ⟨some 16, .faddr 1 (.tmp 15), none⟩,
    ⟨some 17, .load none (.tmp 16), none⟩,
    ⟨some 2, .mov (.tmp 17), none⟩])
  (.ret)) (.skip))))
  (.seq (.region [⟨some 5, .alloc [.int .i64 0], none⟩])
  (.seq (.seq (.region [⟨some 18, .mov (.tmp 0), none⟩,
    ⟨some 19, .mkif 127 (.tmp 5), none⟩,
    ⟨some 20, .call 75 [(.tmp 18), (.tmp 19)], none⟩])
  (.cond (.tmp 20) (.seq (.region [⟨some 21, .load none (.tmp 5), none⟩,
    ⟨some 2, .mov (.tmp 21), none⟩])
  (.ret)) (.skip)))
  (.seq (.region [⟨some 2, .mov (.con (.int .i64 2)), none⟩])
  (.ret)))))),
  [.tmp 2]⟩
theorem is_fault_Code : IsFn Tryz.prog 46 c_fault_Code := isFn_of [([], []), ([], []), ([], []), ([], []), ([], []), ([], []), ([], []), ([], []), ([], []), ([], []), ([], []), ([], []), ([], []), ([], [])] (by kernel_rfl)

/-- regency/fault.Has -/
def c_fault_Has : CFn := ⟨13, .seq (.region [⟨some 4, .mov (.con (.bool false)), none⟩])
  (.seq (.seq (.region [⟨some 5, .mov (.tmp 1), none⟩,
    ⟨some 6, .bin .eql (.tmp 5) (.con (.int .i64 0)), none⟩])
  (.cond (.tmp 6) (.seq (.region [⟨some 7, .mov (.tmp 0), none⟩,
    ⟨some 8, .isnil .ifc false (.tmp 7), none⟩,
    ⟨some 4, .mov (.tmp 8), none⟩])
  (.ret)) (.skip)))
  (.seq (.region [⟨some 9, .mov (.tmp 0), none⟩,
    ⟨some 10, .mov (.tmp 1), none⟩,
    ⟨some 11, .mkif 27 (.tmp 10), none⟩,
    ⟨some 12, .call 76 [(.tmp 9), (.tmp 11)], none⟩,
    ⟨some 4, .mov (.tmp 12), none⟩])
  (.ret))),
  [.tmp 4]⟩
theorem is_fault_Has : IsFn Tryz.prog 47 c_fault_Has := isFn_of [([], []), ([], []), ([], []), ([], []), ([], []), ([], [])] (by kernel_rfl)

/-- regency/regencyref12.in -/
def c_regencyref12_in : CFn := ⟨15, .seq (.region [⟨some 6, .mov (.con (.bool false)), none⟩])
  (.seq (.region [⟨some 7, .mov (.tmp 0), none⟩,
    ⟨some 8, .mov (.tmp 1), none⟩,
    ⟨some 9, .bin .geq (.tmp 7) (.tmp 8), none⟩,
    ⟨some 10, .mov (.tmp 9), none⟩,
    ⟨some 11, .mov (.tmp 0), (some (10, true))⟩,
    ⟨some 12, .mov (.tmp 2), (some (10, true))⟩,
    ⟨some 13, .bin .leq (.tmp 11) (.tmp 12), (some (10, true))⟩,
    ⟨some 14, .pick (.tmp 10) (.tmp 13) (.con (.bool false)), none⟩,
    ⟨some 6, .mov (.tmp 14), none⟩])
  (.ret)),
  [.tmp 6]⟩
theorem is_regencyref12_in : IsFn Tryz.prog 48 c_regencyref12_in := isFn_of [([], []), ([], []), ([], [])] (by kernel_rfl)

abbrev s_regencyref06_Right_0 (v0 v8 v9 : AV) : List AV := [v0, undefA, .any, .any, .any, .any, .any, .any, v8, v9, .any, .any, .any, .any, .any, .any, .any, .any, .any, .any, .any, .any, .any, .any, .any, .any, .any, .any, .any, .any, .any, .any, .any, .any, .any, .any, .any, .any, .any, .any, .any, .any, .any, .any, .any, .any, .any, .any, .any, .any, .any, .any, .any, .any, .any, .any, .any, .any, .any, .any, .any]
abbrev x_regencyref06_Right_0  : List AV := [.any, undefA, .any, .any, .any, .any, .any, .any, .any, .any, .any, .any, .any, .any, .any, .any, .any, .any, .any, .any, .any, .any, .any, .any, .any, .any, .any, .any, .any, .any, .any, .any, .any, .any, .any, .any, .any, .any, .any, .any, .any, .any, .any, .any, .any, .any, .any, .any, .any, .any, .any, .any, .any, .any, .any, .any, .any, .any, .any, .any, .any]
abbrev l_regencyref06_Right_0 : CC := .kill [2, 3, 4, 5, 6, 7, 10, 11, 12, 13, 14, 15, 16, 17, 18, 19, 20, 21, 22, 23, 24, 25, 26, 27, 28, 29, 30, 31, 32, 33, 34, 35, 36, 37, 38, 39, 40, 41, 42, 43, 44, 45, 46, 47, 48, 49, 50, 51, 52, 53, 54, 55, 56, 57, 58, 59, 60] (.seq (.region [⟨some 10, .bin .lss (.tmp 9) (.tmp 8), none⟩])
  (.seq (.cond (.tmp 10) (.skip) (.kill [0, 8, 9, 10] (.exit 0)))
  (.seq (.block 1 (.seq (.region [⟨some 11, .mov (.tmp 9), none⟩,
    ⟨some 3, .mov (.tmp 11), none⟩])
  (.seq (.seq (.region [⟨some 12, .mov (.tmp 0), none⟩,
    ⟨some 13, .mov (.tmp 3), none⟩,
    ⟨some 14, .iaddr 2 none (.tmp 12) (.tmp 13), none⟩,
    ⟨some 15, .faddr 0 (.tmp 14), none⟩,
    ⟨some 16, .load none (.tmp 15), none⟩,
    ⟨some 17, .pcall 77 [(.tmp 16)], none⟩,
    ⟨some 18, .un .not (.tmp 17), none⟩,
    ⟨some 19, .mov (.tmp 18), none⟩,
    ⟨some 20, .mov (.tmp 0), (some (19, false))⟩,
    ⟨some 21, .mov (.tmp 3), (some (19, false))⟩,
    ⟨some 22, .iaddr 2 none (.tmp 20) (.tmp 21), (some (19, false))⟩,
    ⟨some 23, .faddr 1 (.tmp 22), (some (19, false))⟩,
    ⟨some 24, .load none (.tmp 23), (some (19, false))⟩,
    ⟨some 25, .bin .neq (.tmp 24) (.con (.int .i64 0)), (some (19, false))⟩,
    ⟨some 26, .mov (.tmp 25), (some (19, false))⟩,
    ⟨some 27, .mov (.tmp 0), (some (26, true))⟩,
    ⟨some 28, .mov (.tmp 3), (some (26, true))⟩,
    ⟨some 29, .iaddr 2 none (.tmp 27) (.tmp 28), (some (26, true))⟩,
    ⟨some 30, .faddr 1 (.tmp 29), (some (26, true))⟩,
    ⟨some 31, .load none (.tmp 30), (some (26, true))⟩,
    ⟨some 32, .bin .neq (.tmp 31) (.con (.int .i64 2)), (some (26, true))⟩,
    ⟨some 33, .pick (.tmp 26) (.tmp 32) (.con (.bool false)), (some (19, false))⟩,
    ⟨some 34, .mov (.tmp 33), (some (19, false))⟩,
    ⟨some 35, .mov (.tmp 0), (some (34, true))⟩,
    ⟨some 36, .mov (.tmp 3), (some (34, true))⟩,
    ⟨some 37, .iaddr 2 none (.tmp 35) (.tmp 36), (some (34, true))⟩,
    ⟨some 38, .faddr 1 (.tmp 37), (some (34, true))⟩,
    ⟨some 39, .load none (.tmp 38), (some (34, true))⟩,
    ⟨some 40, .bin .neq (.tmp 39) (.con (.int .i64 3)), (some (34, true))⟩,
    ⟨some 41, .pick (.tmp 34) (.tmp 40) (.con (.bool false)), (some (19, false))⟩,
    ⟨some 42, .pick (.tmp 19) (.con (.bool true)) (.tmp 41), none⟩])
  (.cond (.tmp 42) (.seq (.region [⟨some 2, .mov (.con (.bool false)), none⟩])
  (.ret)) (.skip)))
  (.seq (.region [⟨some 43, .mov (.tmp 3), none⟩,
    ⟨some 44, .bin .gtr (.tmp 43) (.con (.int .i64 0)), none⟩,
    ⟨some 45, .mov (.tmp 44), none⟩,
    ⟨some 46, .mov (.tmp 0), (some (45, true))⟩,
    ⟨some 47, .mov (.tmp 3), (some (45, true))⟩,
    ⟨some 48, .bin .sub (.tmp 47) (.con (.int .i64 1)), (some (45, true))⟩,
    ⟨some 49, .iaddr 2 none (.tmp 46) (.tmp 48), (some (45, true))⟩,
    ⟨some 50, .faddr 0 (.tmp 49), (some (45, true))⟩,
    ⟨some 51, .load none (.tmp 50), (some (45, true))⟩,
    ⟨some 52, .mov (.tmp 0), (some (45, true))⟩,
    ⟨some 53, .mov (.tmp 3), (some (45, true))⟩,
    ⟨some 54, .iaddr 2 none (.tmp 52) (.tmp 53), (some (45, true))⟩,
    ⟨some 55, .faddr 0 (.tmp 54), (some (45, true))⟩,
    ⟨some 56, .load none (.tmp 55), (some (45, true))⟩,
    ⟨some 57, .pcall 78 [(.tmp 51), (.tmp 56)], (some (45, true))⟩,
    ⟨some 58, .bin .neq (.tmp 57) (.con (.int .i64 (-1))), (some (45, true))⟩,
    ⟨some 59, .pick (.tmp 45) (.tmp 58) (.con (.bool false)), none⟩])
  (.cond (.tmp 59) (.seq (.region [⟨some 2, .mov (.con (.bool false)), none⟩])
  (.ret)) (.skip))))))
  (.region [⟨some 60, .bin .add (.tmp 9) (.con (.int .i64 1)), none⟩,
    ⟨some 9, .mov (.tmp 60), none⟩]))))
/-- regency/regencyref06.Right -/
def c_regencyref06_Right : CFn := ⟨61, .seq (.region [⟨some 2, .mov (.con (.bool false)), none⟩])
  (.seq (.seq (.region [⟨some 4, .mov (.tmp 0), none⟩,
    ⟨some 5, .lenl (.tmp 4), none⟩,
    ⟨some 6, .bin .gtr (.tmp 5) (.con (.int .i64 8)), none⟩])
  (.cond (.tmp 6) (.seq (.region [⟨some 2, .mov (.con (.bool false)), none⟩])
  (.ret)) (.skip)))
  (.seq (.seq (.region [⟨some 7, .mov (.tmp 0), none⟩,
    ⟨some 8, .lenl (.tmp 7), none⟩,
    ⟨some 9, .mov (.con (.int .i64 0)), none⟩])
  (.block 0 (.kill [2, 3, 4, 5, 6, 7, 10, 11, 12, 13, 14, 15, 16, 17, 18, 19, 20, 21, 22, 23, 24, 25, 26, 27, 28, 29, 30, 31, 32, 33, 34, 35, 36, 37, 38, 39, 40, 41, 42, 43, 44, 45, 46, 47, 48, 49, 50, 51, 52, 53, 54, 55, 56, 57, 58, 59, 60] (.loop l_regencyref06_Right_0))))
  (.seq (.region [⟨some 2, .mov (.con (.bool true)), none⟩])
  (.ret)))),
  [.tmp 2]⟩
theorem is_regencyref06_Right : IsFn Tryz.prog 49 c_regencyref06_Right := isFn_of [([], []), ([], []), ([], []), ([], []), ([], []), ([2, 3, 4, 5, 6, 7, 10, 11, 12, 13, 14, 15, 16, 17, 18, 19, 20, 21, 22, 23, 24, 25, 26, 27, 28, 29, 30, 31, 32, 33, 34, 35, 36, 37, 38, 39, 40, 41, 42, 43, 44, 45, 46, 47, 48, 49, 50, 51, 52, 53, 54, 55, 56, 57, 58, 59, 60], []), ([], []), ([0, 8, 9, 10], []), ([], []), ([], [5]), ([], []), ([], []), ([], [14]), ([], []), ([], []), ([], []), ([], []), ([], [])] (by kernel_rfl)

abbrev s_regencyref05_Get_0 (v0 v2 v4 v5 v6 v7 : AV) : List AV := [v0, undefA, v2, .any, v4, v5, v6, v7, .any, .any, .any, .any, .any, .any, .any, .any, .any, .any, .any, .any, .any, .any, .any, .any, .any, .any, .any, .any, .any, .any, .any, .any, .any, .any, .any, .any, .any, .any, .any, .any, .any, .any, .any, .any, .any, .any, .any, .any, .any, .any, .any, .any, .any, .any, .any, .any, .any, undefA, undefA, undefA, undefA, undefA, undefA, undefA, undefA, undefA, undefA, undefA, undefA, undefA]
abbrev x_regencyref05_Get_0 (v0 v2 v4 v5 : AV) : List AV := [v0, undefA, v2, .any, v4, v5, .any, .any, .any, .any, .any, .any, .any, .any, .any, .any, .any, .any, .any, .any, .any, .any, .any, .any, .any, .any, .any, .any, .any, .any, .any, .any, .any, .any, .any, .any, .any, .any, .any, .any, .any, .any, .any, .any, .any, .any, .any, .any, .any, .any, .any, .any, .any, .any, .any, .any, .any, undefA, undefA, undefA, undefA, undefA, undefA, undefA, undefA, undefA, undefA, undefA, undefA, undefA]
abbrev l_regencyref05_Get_0 : CC := .kill [3, 8, 9, 10, 11, 12, 13, 14, 15, 16, 17, 18, 19, 20, 21, 22, 23, 24, 25, 26, 27, 28, 29, 30, 31, 32, 33, 34, 35, 36, 37, 38, 39, 40, 41, 42, 43, 44, 45, 46, 47, 48, 49, 50, 51, 52, 53, 54, 55, 56] (.seq (.seq (.region [⟨some 8, .mov (.tmp 7), none⟩,
    ⟨some 9, .mov (.tmp 0), none⟩,
    ⟨some 10, .lens (.tmp 9), none⟩,
    ⟨some 11, .bin .lss (.tmp 8) (.tmp 10), none⟩])
  (.cond (.tmp 11) (.skip) (.kill [6, 7, 8, 9, 10, 11] (.exit 0))))
  (.seq (.block 1 (.block 2 (.seq (.region [⟨some 15, .mov (.tmp 0), none⟩,
    ⟨some 16, .mov (.tmp 7), none⟩,
    ⟨some 17, .idxs (.tmp 15) (.tmp 16), none⟩,
    ⟨some 18, .bin .geq (.tmp 17) (.con (.int .u8 48)), none⟩,
    ⟨some 19, .mov (.tmp 18), none⟩,
    ⟨some 20, .mov (.tmp 0), (some (19, true))⟩,
    ⟨some 21, .mov (.tmp 7), (some (19, true))⟩,
    ⟨some 22, .idxs (.tmp 20) (.tmp 21), (some (19, true))⟩,
    ⟨some 23, .bin .leq (.tmp 22) (.con (.int .u8 57)), (some (19, true))⟩,
    ⟨some 24, .pick (.tmp 19) (.tmp 23) (.con (.bool false)), none⟩,
    ⟨some 14, .mov (.tmp 24), none⟩])
  (.cond (.tmp 14) (.seq (.region [⟨some 25, .mov (.tmp 6), none⟩,
    ⟨some 26, .bin .add (.tmp 25) (.con (.int .i64 1)), none⟩,
    ⟨some 6, .mov (.tmp 26), none⟩])
  (.seq (.seq (.region [⟨some 27, .mov (.tmp 6), none⟩,
    ⟨some 28, .bin .gtr (.tmp 27) (.con (.int .i64 8)), none⟩])
  (.cond (.tmp 28) (.seq (.region [⟨some 29, .build [.sl .ex [], .int .i64 0] [], none⟩,
    ⟨none, .store 2 (.tmp 2) (.tmp 29), none⟩,
    ⟨some 3, .mov (.con (.bool false)), none⟩])
  (.ret)) (.skip)))
  (.region [⟨some 30, .mov (.tmp 5), none⟩,
    ⟨some 31, .bin .mul (.con (.int .i64 10)) (.tmp 30), none⟩,
    ⟨some 32, .mov (.tmp 0), none⟩,
    ⟨some 33, .mov (.tmp 7), none⟩,
    ⟨some 34, .idxs (.tmp 32) (.tmp 33), none⟩,
    ⟨some 35, .bin .sub (.tmp 34) (.con (.int .u8 48)), none⟩,
    ⟨some 36, .cInt .i64 (.tmp 35), none⟩,
    ⟨some 37, .bin .add (.tmp 31) (.tmp 36), none⟩,
    ⟨some 5, .mov (.tmp 37), none⟩]))) (.seq (.region [⟨some 39, .mov (.tmp 0), none⟩,
    ⟨some 40, .mov (.tmp 7), none⟩,
    ⟨some 41, .idxs (.tmp 39) (.tmp 40), none⟩,
    ⟨some 42, .bin .eql (.tmp 41) (.con (.int .u8 46)), none⟩,
    ⟨some 43, .mov (.tmp 42), none⟩,
    ⟨some 44, .mov (.tmp 0), (some (43, false))⟩,
    ⟨some 45, .mov (.tmp 7), (some (43, false))⟩,
    ⟨some 46, .idxs (.tmp 44) (.tmp 45), (some (43, false))⟩,
    ⟨some 47, .bin .eql (.tmp 46) (.con (.int .u8 47)), (some (43, false))⟩,
    ⟨some 48, .pick (.tmp 43) (.con (.bool true)) (.tmp 47), none⟩,
    ⟨some 38, .mov (.tmp 48), none⟩])
  (.cond (.tmp 38) (.seq (.seq (.region [⟨some 49, .mov (.tmp 6), none⟩,
    ⟨some 50, .bin .gtr (.tmp 49) (.con (.int .i64 0)), none⟩])
  (.cond (.tmp 50) (.region [⟨some 51, .faddr 0 (.tmp 4), none⟩,
    ⟨some 52, .ltake (.tmp 51), none⟩,
    ⟨some 53, .mov (.tmp 5), none⟩,
    ⟨some 54, .bslice 1 false [(.tmp 53)], none⟩,
    ⟨some 55, .append 1 8 false (.tmp 52) (.tmp 54), none⟩,
    ⟨some 56, .faddr 0 (.tmp 4), none⟩,
    ⟨none, .store 1 (.tmp 56) (.tmp 55), none⟩]) (.skip)))
  (.seq (.region [⟨some 5, .mov (.con (.int .i64 0)), none⟩])
  (.region [⟨some 6, .mov (.con (.int .i64 0)), none⟩]))) (.skip)))))))
  (.region [⟨some 12, .mov (.tmp 7), none⟩,
    ⟨some 13, .bin .add (.tmp 12) (.con (.int .i64 1)), none⟩,
    ⟨some 7, .mov (.tmp 13), none⟩])))
/-- regency/regencyref05.Get -/
def c_regencyref05_Get : CFn := ⟨70, .seq (.region [⟨some 2, .alloc [.sl .ex [], .int .i64 0], none⟩,
    ⟨some 3, .mov (.con (.bool false)), none⟩])
  (.seq (.region [⟨some 4, .alloc [.sl .ex [], .int .i64 0], none⟩])
  (.seq (.region [⟨some 5, .mov (.con (.int .i64 0)), none⟩,
    ⟨some 6, .mov (.con (.int .i64 0)), none⟩])
  (.seq (.seq (.region [⟨some 7, .mov (.con (.int .i64 0)), none⟩])
  (.block 0 (.kill [3, 8, 9, 10, 11, 12, 13, 14, 15, 16, 17, 18, 19, 20, 21, 22, 23, 24, 25, 26, 27, 28, 29, 30, 31, 32, 33, 34, 35, 36, 37, 38, 39, 40, 41, 42, 43, 44, 45, 46, 47, 48, 49, 50, 51, 52, 53, 54, 55, 56] (.loop l_regencyref05_Get_0))))
  (.seq (.region [⟨some 57, .mov (.tmp 5), none⟩,
    ⟨some 58, .faddr 1 (.tmp 4), none⟩,
    ⟨none, .store 1 (.tmp 58) (.tmp 57), none⟩])
  (.seq (.seq (.region [⟨some 59, .load (some 2) (.tmp 4), none⟩,
    ⟨some 60, .pcall 79 [(.tmp 59)], none⟩,
    ⟨some 61, .un .not (.tmp 60), none⟩,
    ⟨some 62, .mov (.tmp 61), none⟩,
    ⟨some 63, .load (some 2) (.tmp 4), (some (62, false))⟩,
    ⟨some 64, .pcall 80 [(.tmp 63)], (some (62, false))⟩,
    ⟨some 65, .mov (.tmp 0), (some (62, false))⟩,
    ⟨some 66, .bin .neq (.tmp 64) (.tmp 65), (some (62, false))⟩,
    ⟨some 67, .pick (.tmp 62) (.con (.bool true)) (.tmp 66), none⟩])
  (.cond (.tmp 67) (.seq (.region [⟨some 68, .build [.sl .ex [], .int .i64 0] [], none⟩,
    ⟨none, .store 2 (.tmp 2) (.tmp 68), none⟩,
    ⟨some 3, .mov (.con (.bool false)), none⟩])
  (.ret)) (.skip)))
  (.seq (.region [⟨some 69, .load (some 2) (.tmp 4), none⟩,
    ⟨none, .store 2 (.tmp 2) (.tmp 69), none⟩,
    ⟨some 3, .mov (.con (.bool true)), none⟩])
  (.ret))))))),
  [.cell 2 (some 2), .tmp 3]⟩
theorem is_regencyref05_Get : IsFn Tryz.prog 50 c_regencyref05_Get := isFn_of [([], []), ([], []), ([], []), ([], []), ([3, 8, 9, 10, 11, 12, 13, 14, 15, 16, 17, 18, 19, 20, 21, 22, 23, 24, 25, 26, 27, 28, 29, 30, 31, 32, 33, 34, 35, 36, 37, 38, 39, 40, 41, 42, 43, 44, 45, 46, 47, 48, 49, 50, 51, 52, 53, 54, 55, 56], []), ([], []), ([6, 7, 8, 9, 10, 11], []), ([], []), ([], []), ([], []), ([], []), ([], []), ([], []), ([], []), ([], []), ([], [1]), ([], []), ([], []), ([], []), ([], []), ([], [1, 5]), ([], []), ([], []), ([], []), ([], [])] (by kernel_rfl)

abbrev s_regencyref06_Put_0 (v3 v9 v10 v11 : AV) : List AV := [.any, undefA, .any, v3, undefA, .any, .any, .any, .any, v9, v10, v11, .any, .any, .any, .any, .any, .any, .any, .any, .any, .any, .any, .any, .any, .any, .any, .any, .any, .any, .any, .any, .any, .any, undefA]
abbrev x_regencyref06_Put_0 (v3 : AV) : List AV := [.any, undefA, .any, v3, undefA, .any, .any, .any, .any, .any, .any, .any, .any, .any, .any, .any, .any, .any, .any, .any, .any, .any, .any, .any, .any, .any, .any, .any, .any, .any, .any, .any, .any, .any, undefA]
abbrev l_regencyref06_Put_0 : CC := .kill [0, 2, 5, 6, 7, 8, 12, 13, 14, 15, 16, 17, 18, 19, 20, 21, 22, 23, 24, 25, 26, 27, 28, 29, 30, 31, 32, 33] (.seq (.region [⟨some 12, .bin .lss (.tmp 11) (.tmp 10), none⟩])
  (.seq (.cond (.tmp 12) (.skip) (.kill [9, 10, 11, 12] (.exit 0)))
  (.seq (.block 1 (.seq (.region [⟨some 13, .iaddr 2 none (.tmp 9) (.tmp 11), none⟩,
    ⟨some 14, .load (some 2) (.tmp 13), none⟩,
    ⟨some 5, .alloc [.str ⟨#[]⟩, .int .i64 0], none⟩,
    ⟨none, .store 2 (.tmp 5) (.tmp 14), none⟩])
  (.seq (.region [⟨some 15, .mov (.tmp 3), none⟩,
    ⟨some 16, .faddr 0 (.tmp 5), none⟩,
    ⟨some 17, .load none (.tmp 16), none⟩,
    ⟨some 18, .pcall 37 [(.tmp 17)], none⟩,
    ⟨some 19, .bin .add (.tmp 15) (.tmp 18), none⟩,
    ⟨some 3, .mov (.tmp 19), none⟩])
  (.seq (.region [⟨some 20, .faddr 1 (.tmp 5), none⟩,
    ⟨some 21, .load none (.tmp 20), none⟩,
    ⟨some 22, .bin .geq (.tmp 21) (.con (.int .i64 0)), none⟩,
    ⟨some 23, .mov (.tmp 22), none⟩,
    ⟨some 24, .faddr 1 (.tmp 5), (some (23, true))⟩,
    ⟨some 25, .load none (.tmp 24), (some (23, true))⟩,
    ⟨some 26, .bin .leq (.tmp 25) (.con (.int .i64 4611686018427387903)), (some (23, true))⟩,
    ⟨some 27, .pick (.tmp 23) (.tmp 26) (.con (.bool false)), none⟩])
  (.cond (.tmp 27) (.region [⟨some 28, .mov (.tmp 3), none⟩,
    ⟨some 29, .faddr 1 (.tmp 5), none⟩,
    ⟨some 30, .load none (.tmp 29), none⟩,
    ⟨some 31, .pcall 36 [(.tmp 30)], none⟩,
    ⟨some 32, .bin .add (.tmp 28) (.tmp 31), none⟩,
    ⟨some 3, .mov (.tmp 32), none⟩]) (.skip))))))
  (.region [⟨some 33, .bin .add (.tmp 11) (.con (.int .i64 1)), none⟩,
    ⟨some 11, .mov (.tmp 33), none⟩]))))
/-- regency/regencyref06.Put -/
def c_regencyref06_Put : CFn := ⟨35, .seq (.region [⟨some 2, .mov (.con (.str ⟨#[]⟩)), none⟩])
  (.seq (.region [⟨some 6, .mov (.tmp 0), none⟩,
    ⟨some 7, .lenl (.tmp 6), none⟩,
    ⟨some 8, .pcall 36 [(.tmp 7)], none⟩,
    ⟨some 3, .mov (.tmp 8), none⟩])
  (.seq (.seq (.region [⟨some 9, .take (.tmp 0), none⟩,
    ⟨some 10, .lenl (.tmp 9), none⟩,
    ⟨some 11, .mov (.con (.int .i64 0)), none⟩])
  (.block 0 (.kill [0, 2, 5, 6, 7, 8, 12, 13, 14, 15, 16, 17, 18, 19, 20, 21, 22, 23, 24, 25, 26, 27, 28, 29, 30, 31, 32, 33] (.loop l_regencyref06_Put_0))))
  (.seq (.region [⟨some 34, .mov (.tmp 3), none⟩,
    ⟨some 2, .mov (.tmp 34), none⟩])
  (.ret)))),
  [.tmp 2]⟩
theorem is_regencyref06_Put : IsFn Tryz.prog 51 c_regencyref06_Put := isFn_of [([], []), ([], [2]), ([], [0]), ([0, 2, 5, 6, 7, 8, 12, 13, 14, 15, 16, 17, 18, 19, 20, 21, 22, 23, 24, 25, 26, 27, 28, 29, 30, 31, 32, 33], []), ([], []), ([9, 10, 11, 12], []), ([], []), ([], [3]), ([], []), ([], [3]), ([], []), ([], []), ([], [])] (by kernel_rfl)

/-- regency/reply.between -/
def c_reply_between : CFn := ⟨15, .seq (.region [⟨some 6, .mov (.con (.bool false)), none⟩])
  (.seq (.region [⟨some 7, .mov (.tmp 0), none⟩,
    ⟨some 8, .mov (.tmp 1), none⟩,
    ⟨some 9, .bin .geq (.tmp 7) (.tmp 8), none⟩,
    ⟨some 10, .mov (.tmp 9), none⟩,
    ⟨some 11, .mov (.tmp 0), (some (10, true))⟩,
    ⟨some 12, .mov (.tmp 2), (some (10, true))⟩,
    ⟨some 13, .bin .leq (.tmp 11) (.tmp 12), (some (10, true))⟩,
    ⟨some 14, .pick (.tmp 10) (.tmp 13) (.con (.bool false)), none⟩,
    ⟨some 6, .mov (.tmp 14), none⟩])
  (.ret)),
  [.tmp 6]⟩
theorem is_reply_between : IsFn Tryz.prog 52 c_reply_between := isFn_of [([], []), ([], []), ([], [])] (by kernel_rfl)

/-- regency/cats.Right -/
def c_cats_Right : CFn := ⟨13, .seq (.region [⟨some 2, .mov (.con (.bool false)), none⟩])
  (.seq (.region [⟨some 7, .mov (.tmp 0), none⟩,
    ⟨some 8, .pcall 81 [(.tmp 7)], none⟩,
    ⟨some 6, .take (.tmp 8), none⟩,
    ⟨some 9, .extract 6 0, none⟩,
    ⟨some 10, .extract 6 1, none⟩,
    ⟨some 11, .extract 6 2, none⟩,
    ⟨some 3, .take (.tmp 9), none⟩,
    ⟨some 4, .mov (.tmp 10), none⟩,
    ⟨some 5, .mov (.tmp 11), none⟩])
  (.seq (.region [⟨some 12, .mov (.tmp 5), none⟩,
    ⟨some 2, .mov (.tmp 12), none⟩])
  (.ret))),
  [.tmp 2]⟩
theorem is_cats_Right : IsFn Tryz.prog 53 c_cats_Right := isFn_of [([], []), ([], [1, 2, 6]), ([], []), ([], [])] (by kernel_rfl)

abbrev s_label_Right_0 (v0 v8 v9 v10 : AV) : List AV := [v0, undefA, .any, .any, .any, .any, .any, .any, v8, v9, v10, .any, .any, .any, .any, .any, .any, .any, .any, .any, .any, .any, .any, .any, .any, .any, .any, .any, .any, .any, .any, .any, .any, .any, .any, .any, .any, .any, .any, .any, .any, .any, .any, .any, .any, .any, .any, .any, .any, .any]
abbrev x_label_Right_0  : List AV := [.any, undefA, .any, .any, .any, .any, .any, .any, .any, .any, .any, .any, .any, .any, .any, .any, .any, .any, .any, .any, .any, .any, .any, .any, .any, .any, .any, .any, .any, .any, .any, .any, .any, .any, .any, .any, .any, .any, .any, .any, .any, .any, .any, .any, .any, .any, .any, .any, .any, .any]
abbrev l_label_Right_0 : CC := .kill [2, 3, 4, 5, 6, 7, 11, 12, 13, 14, 15, 16, 17, 18, 19, 20, 21, 22, 23, 24, 25, 26, 27, 28, 29, 30, 31, 32, 33, 34, 35, 36, 37, 38, 39, 40, 41, 42, 43, 44, 45, 46, 47, 48, 49] (.seq (.region [⟨some 11, .bin .lss (.tmp 10) (.tmp 9), none⟩])
  (.seq (.cond (.tmp 11) (.skip) (.kill [0, 8, 9, 10, 11] (.exit 0)))
  (.seq (.block 1 (.seq (.region [⟨some 12, .mov (.tmp 10), none⟩,
    ⟨some 13, .iaddr 2 none (.tmp 8) (.tmp 10), none⟩,
    ⟨some 14, .load (some 2) (.tmp 13), none⟩,
    ⟨some 4, .alloc [.str ⟨#[]⟩, .int .i64 0], none⟩,
    ⟨some 3, .mov (.tmp 12), none⟩,
    ⟨none, .store 2 (.tmp 4) (.tmp 14), none⟩])
  (.seq (.region [⟨some 15, .faddr 0 (.tmp 4), none⟩,
    ⟨some 16, .load none (.tmp 15), none⟩,
    ⟨some 17, .pcall 53 [(.tmp 16)], none⟩,
    ⟨some 18, .un .not (.tmp 17), none⟩,
    ⟨some 19, .mov (.tmp 18), none⟩,
    ⟨some 20, .faddr 1 (.tmp 4), (some (19, false))⟩,
    ⟨some 21, .load none (.tmp 20), (some (19, false))⟩,
    ⟨some 22, .bin .eql (.tmp 21) (.con (.int .i64 1)), (some (19, false))⟩,
    ⟨some 23, .pick (.tmp 19) (.con (.bool true)) (.tmp 22), none⟩,
    ⟨some 24, .mov (.tmp 23), none⟩,
    ⟨some 25, .faddr 1 (.tmp 4), (some (24, false))⟩,
    ⟨some 26, .load none (.tmp 25), (some (24, false))⟩,
    ⟨some 27, .bin .lss (.tmp 26) (.con (.int .i64 0)), (some (24, false))⟩,
    ⟨some 28, .pick (.tmp 24) (.con (.bool true)) (.tmp 27), none⟩,
    ⟨some 29, .mov (.tmp 28), none⟩,
    ⟨some 30, .faddr 1 (.tmp 4), (some (29, false))⟩,
    ⟨some 31, .load none (.tmp 30), (some (29, false))⟩,
    ⟨some 32, .bin .geq (.tmp 31) (.con (.int .i64 4)), (some (29, false))⟩,
    ⟨some 33, .pick (.tmp 29) (.con (.bool true)) (.tmp 32), none⟩,
    ⟨some 34, .mov (.tmp 33), none⟩,
    ⟨some 35, .mov (.tmp 3), (some (34, false))⟩,
    ⟨some 36, .bin .gtr (.tmp 35) (.con (.int .i64 0)), (some (34, false))⟩,
    ⟨some 37, .mov (.tmp 36), (some (34, false))⟩,
    ⟨some 38, .mov (.tmp 0), (some (37, true))⟩,
    ⟨some 39, .mov (.tmp 3), (some (37, true))⟩,
    ⟨some 40, .bin .sub (.tmp 39) (.con (.int .i64 1)), (some (37, true))⟩,
    ⟨some 41, .iaddr 2 none (.tmp 38) (.tmp 40), (some (37, true))⟩,
    ⟨some 42, .load (some 2) (.tmp 41), (some (37, true))⟩,
    ⟨some 43, .faddr 0 (.tmp 4), (some (37, true))⟩,
    ⟨some 44, .load none (.tmp 43), (some (37, true))⟩,
    ⟨some 45, .pcall 82 [(.tmp 42), (.tmp 44)], (some (37, true))⟩,
    ⟨some 46, .bin .geq (.tmp 45) (.con (.int .i64 0)), (some (37, true))⟩,
    ⟨some 47, .pick (.tmp 37) (.tmp 46) (.con (.bool false)), (some (34, false))⟩,
    ⟨some 48, .pick (.tmp 34) (.con (.bool true)) (.tmp 47), none⟩])
  (.cond (.tmp 48) (.seq (.region [⟨some 2, .mov (.con (.bool false)), none⟩])
  (.ret)) (.skip)))))
  (.region [⟨some 49, .bin .add (.tmp 10) (.con (.int .i64 1)), none⟩,
    ⟨some 10, .mov (.tmp 49), none⟩]))))
/-- regency/label.Right -/
def c_label_Right : CFn := ⟨50, .seq (.region [⟨some 2, .mov (.con (.bool false)), none⟩])
  (.seq (.seq (.region [⟨some 5, .mov (.tmp 0), none⟩,
    ⟨some 6, .lenl (.tmp 5), none⟩,
    ⟨some 7, .bin .gtr (.tmp 6) (.con (.int .i64 8)), none⟩])
  (.cond (.tmp 7) (.seq (.region [⟨some 2, .mov (.con (.bool false)), none⟩])
  (.ret)) (.skip)))
  (.seq (.seq (.region [⟨some 8, .mov (.tmp 0), none⟩,
    ⟨some 9, .lenl (.tmp 8), none⟩,
    ⟨some 10, .mov (.con (.int .i64 0)), none⟩])
  (.block 0 (.kill [2, 3, 4, 5, 6, 7, 11, 12, 13, 14, 15, 16, 17, 18, 19, 20, 21, 22, 23, 24, 25, 26, 27, 28, 29, 30, 31, 32, 33, 34, 35, 36, 37, 38, 39, 40, 41, 42, 43, 44, 45, 46, 47, 48, 49] (.loop l_label_Right_0))))
  (.seq (.region [⟨some 2, .mov (.con (.bool true)), none⟩])
  (.ret)))),
  [.tmp 2]⟩
theorem is_label_Right : IsFn Tryz.prog 54 c_label_Right := isFn_of [([], []), ([], []), ([], []), ([], []), ([], []), ([2, 3, 4, 5, 6, 7, 11, 12, 13, 14, 15, 16, 17, 18, 19, 20, 21, 22, 23, 24, 25, 26, 27, 28, 29, 30, 31, 32, 33, 34, 35, 36, 37, 38, 39, 40, 41, 42, 43, 44, 45, 46, 47, 48, 49], []), ([], []), ([0, 8, 9, 10, 11], []), ([], []), ([], [2, 30]), ([], []), ([], []), ([], []), ([], []), ([], [])] (by kernel_rfl)

abbrev s_tape_Pen_Number_0 (v0 v1 : AV) : List AV := [v0, v1, undefA, undefA, .any, .any, .any, .any, .any, .any, .any, .any, .any, .any, .any, .any, .any, .any, .any, .any, .any, .any, .any, .any, .any, .any, .any, .any, .any, .any, .any, .any, undefA, undefA, undefA, undefA, undefA, undefA, undefA, undefA, undefA, undefA, undefA]
abbrev x_tape_Pen_Number_0 (v0 v1 : AV) : List AV := [v0, v1, undefA, undefA, .any, .any, .any, .any, .any, .any, .any, .any, .any, .any, .any, .any, .any, .any, .any, .any, .any, .any, .any, .any, .any, .any, .any, .any, .any, .any, .any, .any, undefA, undefA, undefA, undefA, undefA, undefA, undefA, undefA, undefA, undefA, undefA]
abbrev l_tape_Pen_Number_0 : CC := .kill [4, 5, 6, 7, 8, 9, 10, 11, 12, 13, 14, 15, 16, 17, 18, 19, 20, 21, 22, 23, 24, 25, 26, 27, 28, 29, 30, 31] (.seq (.seq (.region [⟨some 15, .mov (.tmp 1), none⟩,
    ⟨some 16, .bin .geq (.tmp 15) (.con (.int .i64 128)), none⟩])
  (.cond (.tmp 16) (.skip) (.kill [15, 16] (.exit 0))))
  (.block 1 (.seq (.region [⟨some 17, .mov (.tmp 0), none⟩,
    ⟨some 18, .mov (.tmp 0), none⟩,
    ⟨some 19, .nilck (.tmp 18), none⟩,
    ⟨some 20, .faddr 0 (.tmp 19), none⟩,
    ⟨some 21, .ltake (.tmp 20), none⟩,
    ⟨some 22, .mov (.tmp 1), none⟩,
    ⟨some 23, .bin .rem (.tmp 22) (.con (.int .i64 128)), none⟩,
    ⟨some 24, .bin .add (.tmp 23) (.con (.int .i64 128)), none⟩,
    ⟨some 25, .cInt .u8 (.tmp 24), none⟩,
    ⟨some 26, .bslice 1 false [(.tmp 25)], none⟩,
    ⟨some 27, .append 1 1 false (.tmp 21) (.tmp 26), none⟩,
    ⟨some 28, .nilck (.tmp 17), none⟩,
    ⟨some 29, .faddr 0 (.tmp 28), none⟩,
    ⟨none, .store 1 (.tmp 29) (.tmp 27), none⟩])
  (.region [⟨some 30, .mov (.tmp 1), none⟩,
    ⟨some 31, .bin .quo (.tmp 30) (.con (.int .i64 128)), none⟩,
    ⟨some 1, .mov (.tmp 31), none⟩]))))
/-- (*regency/tape.Pen).Number -/
def c_tape_Pen_Number : CFn := ⟨43, .seq (.region [⟨some 4, .mov (.con (.bool false)), none⟩])
  (.seq (.seq (.region [⟨some 5, .mov (.tmp 0), none⟩,
    ⟨some 6, .isnil .ptr false (.tmp 5), none⟩,
    ⟨some 7, .mov (.tmp 6), none⟩,
    ⟨some 8, .mov (.tmp 1), (some (7, false))⟩,
    ⟨some 9, .bin .lss (.tmp 8) (.con (.int .i64 0)), (some (7, false))⟩,
    ⟨some 10, .pick (.tmp 7) (.con (.bool true)) (.tmp 9), none⟩,
    ⟨some 11, .mov (.tmp 10), none⟩,
    ⟨some 12, .mov (.tmp 1), (some (11, false))⟩,
    ⟨some 13, .bin .gtr (.tmp 12) (.con (.int .i64 4611686018427387903)), (some (11, false))⟩,
    ⟨some 14, .pick (.tmp 11) (.con (.bool true)) (.tmp 13), none⟩])
  (.cond (.tmp 14) (.seq (.region [⟨some 4, .mov (.con (.bool false)), none⟩])
  (.ret)) (.skip)))
  (.seq (.block 0 (.kill [4, 5, 6, 7, 8, 9, 10, 11, 12, 13, 14, 15, 16, 17, 18, 19, 20, 21, 22, 23, 24, 25, 26, 27, 28, 29, 30, 31] (.loop l_tape_Pen_Number_0)))
  (.seq (.region [⟨some 32, .mov (.tmp 0), none⟩,
    ⟨some 33, .mov (.tmp 0), none⟩,
    ⟨some 34, .nilck (.tmp 33), none⟩,
    ⟨some 35, .faddr 0 (.tmp 34), none⟩,
    ⟨some 36, .ltake (.tmp 35), none⟩,
    ⟨some 37, .mov (.tmp 1), none⟩,
    ⟨some 38, .cInt .u8 (.tmp 37), none⟩,
    ⟨some 39, .bslice 1 false [(.tmp 38)], none⟩,
    ⟨some 40, .append 1 1 false (.tmp 36) (.tmp 39), none⟩,
    ⟨some 41, .nilck (.tmp 32), none⟩,
    ⟨some 42, .faddr 0 (.tmp 41), none⟩,
    ⟨none, .store 1 (.tmp 42) (.tmp 40), none⟩])
  (.seq (.region [⟨some 4, .mov (.con (.bool true)), none⟩])
  (.ret))))),
  [.tmp 4]⟩
theorem is_tape_Pen_Number : IsFn Tryz.prog 55 c_tape_Pen_Number := isFn_of [([], []), ([], []), ([], []), ([], []), ([4, 5, 6, 7, 8, 9, 10, 11, 12, 13, 14, 15, 16, 17, 18, 19, 20, 21, 22, 23, 24, 25, 26, 27, 28, 29, 30, 31], []), ([], []), ([15, 16], []), ([], [4]), ([], []), ([], [4]), ([], []), ([], [])] (by kernel_rfl)

/-- (*regency/tape.Pen).Text -/
def c_tape_Pen_Text : CFn := ⟨17, .seq (.region [⟨some 4, .mov (.tmp 0), none⟩,
    ⟨some 5, .mov (.tmp 1), none⟩,
    ⟨some 6, .lens (.tmp 5), none⟩,
    ⟨some 7, .call 55 [(.tmp 4), (.tmp 6)], none⟩])
  (.cond (.tmp 7) (.region [⟨some 8, .mov (.tmp 0), none⟩,
    ⟨some 9, .mov (.tmp 0), none⟩,
    ⟨some 10, .nilck (.tmp 9), none⟩,
    ⟨some 11, .faddr 0 (.tmp 10), none⟩,
    ⟨some 12, .ltake (.tmp 11), none⟩,
    ⟨some 13, .mov (.tmp 1), none⟩,
    ⟨some 14, .append 1 1 true (.tmp 12) (.tmp 13), none⟩,
    ⟨some 15, .nilck (.tmp 8), none⟩,
    ⟨some 16, .faddr 0 (.tmp 15), none⟩,
    ⟨none, .store 1 (.tmp 16) (.tmp 14), none⟩]) (.skip)),
  []⟩
theorem is_tape_Pen_Text : IsFn Tryz.prog 56 c_tape_Pen_Text := isFn_of [([], []), ([], [4])] (by kernel_rfl)

abbrev s_label_Put_0 (v0 v10 v11 v12 : AV) : List AV := [v0, .any, undefA, undefA, undefA, .any, .any, .any, .any, .any, v10, v11, v12, .any, .any, .any, .any, .any, .any, .any, .any, .any, .any, .any, .any]
abbrev x_label_Put_0  : List AV := [.any, .any, undefA, undefA, undefA, .any, .any, .any, .any, .any, .any, .any, .any, .any, .any, .any, .any, .any, .any, .any, .any, .any, .any, .any, .any]
abbrev l_label_Put_0 : CC := .kill [1, 5, 6, 7, 8, 9, 13, 14, 15, 16, 17, 18, 19, 20, 21, 22, 23, 24] (.seq (.region [⟨some 13, .bin .lss (.tmp 12) (.tmp 11), none⟩])
  (.seq (.cond (.tmp 13) (.skip) (.kill [0, 10, 11, 12, 13] (.exit 0)))
  (.seq (.block 1 (.seq (.region [⟨some 14, .iaddr 2 none (.tmp 10) (.tmp 12), none⟩,
    ⟨some 15, .load (some 2) (.tmp 14), none⟩,
    ⟨some 5, .alloc [.str ⟨#[]⟩, .int .i64 0], none⟩,
    ⟨none, .store 2 (.tmp 5) (.tmp 15), none⟩])
  (.seq (.region [⟨some 16, .mov (.tmp 0), none⟩,
    ⟨some 17, .faddr 0 (.tmp 5), none⟩,
    ⟨some 18, .load none (.tmp 17), none⟩,
    ⟨some 19, .call 56 [(.tmp 16), (.tmp 18)], none⟩])
  (.region [⟨some 20, .mov (.tmp 0), none⟩,
    ⟨some 21, .faddr 1 (.tmp 5), none⟩,
    ⟨some 22, .load none (.tmp 21), none⟩,
    ⟨some 23, .call 55 [(.tmp 20), (.tmp 22)], none⟩]))))
  (.region [⟨some 24, .bin .add (.tmp 12) (.con (.int .i64 1)), none⟩,
    ⟨some 12, .mov (.tmp 24), none⟩]))))
/-- regency/label.Put -/
def c_label_Put : CFn := ⟨25, .seq (.region [⟨some 6, .mov (.tmp 0), none⟩,
    ⟨some 7, .mov (.tmp 1), none⟩,
    ⟨some 8, .lenl (.tmp 7), none⟩,
    ⟨some 9, .call 55 [(.tmp 6), (.tmp 8)], none⟩])
  (.seq (.region [⟨some 10, .take (.tmp 1), none⟩,
    ⟨some 11, .lenl (.tmp 10), none⟩,
    ⟨some 12, .mov (.con (.int .i64 0)), none⟩])
  (.block 0 (.kill [1, 5, 6, 7, 8, 9, 13, 14, 15, 16, 17, 18, 19, 20, 21, 22, 23, 24] (.loop l_label_Put_0)))),
  []⟩
theorem is_label_Put : IsFn Tryz.prog 57 c_label_Put := isFn_of [([], []), ([], [0]), ([1, 5, 6, 7, 8, 9, 13, 14, 15, 16, 17, 18, 19, 20, 21, 22, 23, 24], []), ([], []), ([0, 10, 11, 12, 13], []), ([], []), ([], []), ([], []), ([], [])] (by kernel_rfl)

/-- strconv.Itoa -/
theorem ok_strconv_Itoa : OkDef Tryz.prog 58 (.prim itoaP) := itoa_ok (⟨Tryz.f58, Tryz.func58, by kernel_rfl, by kernel_rfl⟩ : Callable Tryz.prog 58) tab_ok (fun n h0 h1 w ht => Tryz.strconv_Itoa n h0 h1 w ht)

abbrev s_reply_digits_0 (v3 v6 v7 v8 : AV) : List AV := [.any, undefA, .any, v3, undefA, .any, v6, v7, v8, .any, .any, .any, .any, .any, .any, .any, .any, .any, .any, .any, .any, .any, undefA, undefA]
abbrev x_reply_digits_0 (v3 : AV) : List AV := [.any, undefA, .any, v3, undefA, .any, .any, .any, .any, .any, .any, .any, .any, .any, .any, .any, .any, .any, .any, .any, .any, .any, undefA, undefA]
abbrev l_reply_digits_0 : CC := .kill [0, 2, 5, 9, 10, 11, 12, 13, 14, 15, 16, 17, 18, 19, 20, 21] (.seq (.region [⟨some 9, .bin .lss (.tmp 8) (.tmp 7), none⟩])
  (.seq (.cond (.tmp 9) (.skip) (.kill [6, 7, 8, 9] (.exit 0)))
  (.seq (.block 1 (.seq (.region [⟨some 10, .iaddr 1 none (.tmp 6) (.tmp 8), none⟩,
    ⟨some 11, .load none (.tmp 10), none⟩,
    ⟨some 5, .mov (.tmp 11), none⟩])
  (.region [⟨some 12, .take (.tmp 3), none⟩,
    ⟨some 13, .mov (.tmp 5), none⟩,
    ⟨some 14, .bin .shr (.tmp 13) (.con (.int .u64 4)), none⟩,
    ⟨some 15, .idxs (.con (.str ⟨#[48, 49, 50, 51, 52, 53, 54, 55, 56, 57, 97, 98, 99, 100, 101, 102]⟩)) (.tmp 14), none⟩,
    ⟨some 16, .mov (.tmp 5), none⟩,
    ⟨some 17, .bin .and (.tmp 16) (.con (.int .u8 15)), none⟩,
    ⟨some 18, .idxs (.con (.str ⟨#[48, 49, 50, 51, 52, 53, 54, 55, 56, 57, 97, 98, 99, 100, 101, 102]⟩)) (.tmp 17), none⟩,
    ⟨some 19, .bslice 1 false [(.tmp 15), (.tmp 18)], none⟩,
    ⟨some 20, .append 1 1 false (.tmp 12) (.tmp 19), none⟩,
    ⟨some 3, .take (.tmp 20), none⟩])))
  (.region [⟨some 21, .bin .add (.tmp 8) (.con (.int .i64 1)), none⟩,
    ⟨some 8, .mov (.tmp 21), none⟩]))))
/-- regency/reply.digits -/
def c_reply_digits : CFn := ⟨24, .seq (.region [⟨some 2, .mov (.con (.str ⟨#[]⟩)), none⟩])
  (.seq (.region [⟨some 3, .take (.con (.sl .ex [])), none⟩])
  (.seq (.seq (.region [⟨some 6, .take (.tmp 0), none⟩,
    ⟨some 7, .lenl (.tmp 6), none⟩,
    ⟨some 8, .mov (.con (.int .i64 0)), none⟩])
  (.block 0 (.kill [0, 2, 5, 9, 10, 11, 12, 13, 14, 15, 16, 17, 18, 19, 20, 21] (.loop l_reply_digits_0))))
  (.seq (.region [⟨some 22, .take (.tmp 3), none⟩,
    ⟨some 23, .cBytesStr (.tmp 22), none⟩,
    ⟨some 2, .mov (.tmp 23), none⟩])
  (.ret)))),
  [.tmp 2]⟩
theorem is_reply_digits : IsFn Tryz.prog 59 c_reply_digits := isFn_of [([], []), ([], [0]), ([], [0]), ([0, 2, 5, 9, 10, 11, 12, 13, 14, 15, 16, 17, 18, 19, 20, 21], []), ([], []), ([6, 7, 8, 9], []), ([], []), ([], [0, 9]), ([], []), ([], [0]), ([], [])] (by kernel_rfl)

abbrev s_label_Text_0 (v3 v9 v10 v11 : AV) : List AV := [.any, undefA, .any, v3, undefA, .any, .any, .any, .any, v9, v10, v11, .any, .any, .any, .any, .any, .any, .any, .any, .any, .any, .any, .any, .any, .any, undefA, undefA]
abbrev x_label_Text_0 (v3 : AV) : List AV := [.any, undefA, .any, v3, undefA, .any, .any, .any, .any, .any, .any, .any, .any, .any, .any, .any, .any, .any, .any, .any, .any, .any, .any, .any, .any, .any, undefA, undefA]
abbrev l_label_Text_0 : CC := .kill [0, 2, 5, 6, 7, 8, 12, 13, 14, 15, 16, 17, 18, 19, 20, 21, 22, 23, 24, 25] (.seq (.region [⟨some 12, .bin .lss (.tmp 11) (.tmp 10), none⟩])
  (.seq (.cond (.tmp 12) (.skip) (.kill [9, 10, 11, 12] (.exit 0)))
  (.seq (.block 1 (.seq (.region [⟨some 13, .iaddr 2 none (.tmp 9) (.tmp 11), none⟩,
    ⟨some 14, .load (some 2) (.tmp 13), none⟩,
    ⟨some 5, .alloc [.str ⟨#[]⟩, .int .i64 0], none⟩,
    ⟨none, .store 2 (.tmp 5) (.tmp 14), none⟩])
  (.region [⟨some 15, .take (.tmp 3), none⟩,
    ⟨some 16, .faddr 0 (.tmp 5), none⟩,
    ⟨some 17, .load none (.tmp 16), none⟩,
    ⟨some 18, .bin .add (.tmp 17) (.con (.str ⟨#[61]⟩)), none⟩,
    ⟨some 19, .faddr 1 (.tmp 5), none⟩,
    ⟨some 20, .load none (.tmp 19), none⟩,
    ⟨some 21, .pcall 58 [(.tmp 20)], none⟩,
    ⟨some 22, .bin .add (.tmp 18) (.tmp 21), none⟩,
    ⟨some 23, .bslice 1 false [(.tmp 22)], none⟩,
    ⟨some 24, .append 1 16 false (.tmp 15) (.tmp 23), none⟩,
    ⟨some 3, .take (.tmp 24), none⟩])))
  (.region [⟨some 25, .bin .add (.tmp 11) (.con (.int .i64 1)), none⟩,
    ⟨some 11, .mov (.tmp 25), none⟩]))))
/-- regency/label.Text -/
def c_label_Text : CFn := ⟨28, .seq (.region [⟨some 2, .mov (.con (.str ⟨#[]⟩)), none⟩])
  (.seq (.seq (.region [⟨some 6, .mov (.tmp 0), none⟩,
    ⟨some 7, .lenl (.tmp 6), none⟩,
    ⟨some 8, .bin .eql (.tmp 7) (.con (.int .i64 0)), none⟩])
  (.cond (.tmp 8) (.seq (.region [⟨some 2, .mov (.con (.str ⟨#[45]⟩)), none⟩])
  (.ret)) (.skip)))
  (.seq (.region [⟨some 3, .take (.con (.sl .ex [])), none⟩])
  (.seq (.seq (.region [⟨some 9, .take (.tmp 0), none⟩,
    ⟨some 10, .lenl (.tmp 9), none⟩,
    ⟨some 11, .mov (.con (.int .i64 0)), none⟩])
  (.block 0 (.kill [0, 2, 5, 6, 7, 8, 12, 13, 14, 15, 16, 17, 18, 19, 20, 21, 22, 23, 24, 25] (.loop l_label_Text_0))))
  (.seq (.region [⟨some 26, .take (.tmp 3), none⟩,
    ⟨some 27, .pcall 61 [(.tmp 26), (.con (.str ⟨#[44]⟩))], none⟩,
    ⟨some 2, .mov (.tmp 27), none⟩])
  (.ret))))),
  [.tmp 2]⟩
theorem is_label_Text : IsFn Tryz.prog 60 c_label_Text := isFn_of [([], []), ([], []), ([], []), ([], []), ([], [0]), ([], [0]), ([0, 2, 5, 6, 7, 8, 12, 13, 14, 15, 16, 17, 18, 19, 20, 21, 22, 23, 24, 25], []), ([], []), ([9, 10, 11, 12], []), ([], []), ([], [0, 6, 10]), ([], []), ([], [0, 1]), ([], [])] (by kernel_rfl)

/-- strings.Join -/
theorem ok_strings_Join : OkDef Tryz.prog 61 (.prim joinP) := join_ok (⟨Tryz.f61, Tryz.func61, by kernel_rfl, by kernel_rfl⟩ : Callable Tryz.prog 61) (fun a c sep w => Tryz.strings_Join_none a c sep w) (fun bk o c xs sep w h1 h2 h3 h4 h5 => Tryz.strings_Join bk o c xs sep w h1 h2 h3 h4 h5)

/-- regency/regencyref01.Num -/
def c_regencyref01_Num : CFn := ⟨5, .seq (.region [⟨some 2, .mov (.con (.str ⟨#[]⟩)), none⟩])
  (.seq (.region [⟨some 3, .mov (.tmp 0), none⟩,
    ⟨some 4, .pcall 87 [(.tmp 3)], none⟩,
    ⟨some 2, .mov (.tmp 4), none⟩])
  (.ret)),
  [.tmp 2]⟩
theorem is_regencyref01_Num : IsFn Tryz.prog 62 c_regencyref01_Num := isFn_of [([], []), ([], [1]), ([], [])] (by kernel_rfl)

abbrev s_regencyref06_Text_0 (v3 v6 v7 v8 : AV) : List AV := [.any, undefA, .any, v3, .any, .any, v6, v7, v8, .any, .any, .any, .any, .any, .any, .any, .any, .any, .any, .any, .any, .any, .any, .any, .any, .any, .any, undefA, undefA, undefA]
abbrev x_regencyref06_Text_0 (v3 : AV) : List AV := [.any, undefA, .any, v3, .any, .any, .any, .any, .any, .any, .any, .any, .any, .any, .any, .any, .any, .any, .any, .any, .any, .any, .any, .any, .any, .any, .any, undefA, undefA, undefA]
abbrev l_regencyref06_Text_0 : CC := .kill [0, 2, 4, 5, 9, 10, 11, 12, 13, 14, 15, 16, 17, 18, 19, 20, 21, 22, 23, 24, 25, 26] (.seq (.region [⟨some 9, .bin .lss (.tmp 8) (.tmp 7), none⟩])
  (.seq (.cond (.tmp 9) (.skip) (.kill [6, 7, 8, 9] (.exit 0)))
  (.seq (.block 1 (.seq (.region [⟨some 10, .mov (.tmp 8), none⟩,
    ⟨some 11, .iaddr 2 none (.tmp 6) (.tmp 8), none⟩,
    ⟨some 12, .load (some 2) (.tmp 11), none⟩,
    ⟨some 5, .alloc [.str ⟨#[]⟩, .int .i64 0], none⟩,
    ⟨some 4, .mov (.tmp 10), none⟩,
    ⟨none, .store 2 (.tmp 5) (.tmp 12), none⟩])
  (.seq (.seq (.region [⟨some 13, .mov (.tmp 4), none⟩,
    ⟨some 14, .bin .gtr (.tmp 13) (.con (.int .i64 0)), none⟩])
  (.cond (.tmp 14) (.region [⟨some 15, .mov (.tmp 3), none⟩,
    ⟨some 16, .bin .add (.tmp 15) (.con (.str ⟨#[44]⟩)), none⟩,
    ⟨some 3, .mov (.tmp 16), none⟩]) (.skip)))
  (.region [⟨some 17, .mov (.tmp 3), none⟩,
    ⟨some 18, .faddr 0 (.tmp 5), none⟩,
    ⟨some 19, .load none (.tmp 18), none⟩,
    ⟨some 20, .bin .add (.tmp 19) (.con (.str ⟨#[61]⟩)), none⟩,
    ⟨some 21, .faddr 1 (.tmp 5), none⟩,
    ⟨some 22, .load none (.tmp 21), none⟩,
    ⟨some 23, .pcall 62 [(.tmp 22)], none⟩,
    ⟨some 24, .bin .add (.tmp 20) (.tmp 23), none⟩,
    ⟨some 25, .bin .add (.tmp 17) (.tmp 24), none⟩,
    ⟨some 3, .mov (.tmp 25), none⟩]))))
  (.region [⟨some 26, .bin .add (.tmp 8) (.con (.int .i64 1)), none⟩,
    ⟨some 8, .mov (.tmp 26), none⟩]))))
/-- regency/regencyref06.Text -/
def c_regencyref06_Text : CFn := ⟨30, .seq (.region [⟨some 2, .mov (.con (.str ⟨#[]⟩)), none⟩])
  (.seq (.region [⟨some 3, .mov (.con (.str ⟨#[]⟩)), none⟩])
  (.seq (.seq (.region [⟨some 6, .take (.tmp 0), none⟩,
    ⟨some 7, .lenl (.tmp 6), none⟩,
    ⟨some 8, .mov (.con (.int .i64 0)), none⟩])
  (.block 0 (.kill [0, 2, 4, 5, 9, 10, 11, 12, 13, 14, 15, 16, 17, 18, 19, 20, 21, 22, 23, 24, 25, 26] (.loop l_regencyref06_Text_0))))
  (.seq (.seq (.region [⟨some 27, .mov (.tmp 3), none⟩,
    ⟨some 28, .bin .eql (.tmp 27) (.con (.str ⟨#[]⟩)), none⟩])
  (.cond (.tmp 28) (.seq (.region [⟨some 2, .mov (.con (.str ⟨#[45]⟩)), none⟩])
  (.ret)) (.skip)))
  (.seq (.region [⟨some 29, .mov (.tmp 3), none⟩,
    ⟨some 2, .mov (.tmp 29), none⟩])
  (.ret))))),
  [.tmp 2]⟩
theorem is_regencyref06_Text : IsFn Tryz.prog 63 c_regencyref06_Text := isFn_of [([], []), ([], []), ([], [0]), ([0, 2, 4, 5, 9, 10, 11, 12, 13, 14, 15, 16, 17, 18, 19, 20, 21, 22, 23, 24, 25, 26], []), ([], []), ([6, 7, 8, 9], []), ([], []), ([], []), ([], []), ([], [6]), ([], []), ([], []), ([], []), ([], []), ([], []), ([], [])] (by kernel_rfl)

/-- bytes.Equal -/
def c_bytes_Equal : CFn := ⟨10, .seq (.region [⟨some 4, .mov (.con (.bool false)), none⟩])
  (.seq (.region [⟨some 5, .take (.tmp 0), none⟩,
    ⟨some 6, .cBytesStr (.tmp 5), none⟩,
    ⟨some 7, .take (.tmp 1), none⟩,
    ⟨some 8, .cBytesStr (.tmp 7), none⟩,
    ⟨some 9, .bin .eql (.tmp 6) (.tmp 8), none⟩,
    ⟨some 4, .mov (.tmp 9), none⟩])
  (.ret)),
  [.tmp 4]⟩
theorem is_bytes_Equal : IsFn Tryz.prog 64 c_bytes_Equal := isFn_of [([], []), ([], [0, 2]), ([], [])] (by kernel_rfl)

/-- regency/label.Same -/
def c_label_Same : CFn := ⟨8, .seq (.region [⟨some 4, .mov (.con (.bool false)), none⟩])
  (.seq (.region [⟨some 5, .take (.tmp 0), none⟩,
    ⟨some 6, .take (.tmp 1), none⟩,
    ⟨some 7, .pcall 88 [(.tmp 5), (.tmp 6)], none⟩,
    ⟨some 4, .mov (.tmp 7), none⟩])
  (.ret)),
  [.tmp 4]⟩
theorem is_label_Same : IsFn Tryz.prog 65 c_label_Same := isFn_of [([], []), ([], [0, 1, 2]), ([], [])] (by kernel_rfl)

abbrev s_slices_Equal_api_Kid_api_Kid_0 (v0 v1 v12 v13 : AV) : List AV := [v0, v1, undefA, undefA, .any, .any, .any, .any, .any, .any, .any, .any, v12, v13, .any, .any, .any, .any, .any, .any, .any, .any, .any, .any, .any, .any]
abbrev x_slices_Equal_api_Kid_api_Kid_0  : List AV := [.any, .any, undefA, undefA, .any, .any, .any, .any, .any, .any, .any, .any, .any, .any, .any, .any, .any, .any, .any, .any, .any, .any, .any, .any, .any, .any]
abbrev l_slices_Equal_api_Kid_api_Kid_0 : CC := .kill [4, 5, 6, 7, 8, 9, 10, 11, 14, 15, 16, 17, 18, 19, 20, 21, 22, 23, 24, 25] (.seq (.region [⟨some 14, .bin .lss (.tmp 13) (.tmp 12), none⟩])
  (.seq (.cond (.tmp 14) (.skip) (.kill [0, 1, 12, 13, 14] (.exit 0)))
  (.seq (.block 1 (.seq (.region [⟨some 15, .mov (.tmp 13), none⟩,
    ⟨some 5, .mov (.tmp 15), none⟩])
  (.seq (.region [⟨some 16, .mov (.tmp 0), none⟩,
    ⟨some 17, .mov (.tmp 5), none⟩,
    ⟨some 18, .iaddr 3 none (.tmp 16) (.tmp 17), none⟩,
    ⟨some 19, .load (some 3) (.tmp 18), none⟩,
    ⟨some 20, .mov (.tmp 1), none⟩,
    ⟨some 21, .mov (.tmp 5), none⟩,
    ⟨some 22, .iaddr 3 none (.tmp 20) (.tmp 21), none⟩,
    ⟨some 23, .load (some 3) (.tmp 22), none⟩,
    ⟨some 24, .eqs true [(0, (.int .i64)), (1, (.int .i64)), (2, (.int .i64))] (.tmp 19) (.tmp 23), none⟩])
  (.cond (.tmp 24) (.seq (.region [⟨some 4, .mov (.con (.bool false)), none⟩])
  (.ret)) (.skip)))))
  (.region [⟨some 25, .bin .add (.tmp 13) (.con (.int .i64 1)), none⟩,
    ⟨some 13, .mov (.tmp 25), none⟩]))))
/-- slices.Equal[[]regency/api.Kid,regency/api.Kid] -/
def c_slices_Equal_api_Kid_api_Kid : CFn := ⟨26, .seq (.region [⟨some 4, .mov (.con (.bool false)), none⟩])
  (.seq (.seq (.region [⟨some 6, .mov (.tmp 0), none⟩,
    ⟨some 7, .lenl (.tmp 6), none⟩,
    ⟨some 8, .mov (.tmp 1), none⟩,
    ⟨some 9, .lenl (.tmp 8), none⟩,
    ⟨some 10, .bin .neq (.tmp 7) (.tmp 9), none⟩])
  (.cond (.tmp 10) (.seq (.region [⟨some 4, .mov (.con (.bool false)), none⟩])
  (.ret)) (.skip)))
  (.seq (.seq (.region [⟨some 11, .mov (.tmp 0), none⟩,
    ⟨some 12, .lenl (.tmp 11), none⟩,
    ⟨some 13, .mov (.con (.int .i64 0)), none⟩])
  (.block 0 (.kill [4, 5, 6, 7, 8, 9, 10, 11, 14, 15, 16, 17, 18, 19, 20, 21, 22, 23, 24, 25] (.loop l_slices_Equal_api_Kid_api_Kid_0))))
  (.seq (.region [⟨some 4, .mov (.con (.bool true)), none⟩])
  (.ret)))),
  [.tmp 4]⟩
theorem is_slices_Equal_api_Kid_api_Kid : IsFn Tryz.prog 66 c_slices_Equal_api_Kid_api_Kid := isFn_of [([], []), ([], []), ([], []), ([], []), ([], []), ([4, 5, 6, 7, 8, 9, 10, 11, 14, 15, 16, 17, 18, 19, 20, 21, 22, 23, 24, 25], []), ([], []), ([0, 1, 12, 13, 14], []), ([], []), ([], []), ([], []), ([], []), ([], []), ([], []), ([], [])] (by kernel_rfl)

abbrev s_label_Get_0 (v0 v4 v6 v7 : AV) : List AV := [v0, undefA, .any, .any, v4, .any, v6, v7, .any, .any, .any, .any, .any, .any, .any, .any, .any, .any, undefA, undefA, undefA, undefA, undefA, undefA, undefA, undefA, undefA]
abbrev x_label_Get_0 (v0 v4 : AV) : List AV := [v0, undefA, .any, .any, v4, .any, .any, .any, .any, .any, .any, .any, .any, .any, .any, .any, .any, .any, undefA, undefA, undefA, undefA, undefA, undefA, undefA, undefA, undefA]
abbrev l_label_Get_0 : CC := .kill [2, 3, 5, 8, 9, 10, 11, 12, 13, 14, 15, 16, 17] (.seq (.region [⟨some 8, .bin .lss (.tmp 7) (.tmp 6), none⟩])
  (.seq (.cond (.tmp 8) (.skip) (.kill [6, 7, 8] (.exit 0)))
  (.seq (.block 1 (.region [⟨some 9, .take (.tmp 4), none⟩,
    ⟨some 10, .mov (.tmp 0), none⟩,
    ⟨some 11, .call 40 [(.tmp 10), (.con (.int .i64 80))], none⟩,
    ⟨some 12, .mov (.tmp 0), none⟩,
    ⟨some 13, .call 39 [(.tmp 12), (.con (.int .i64 3))], none⟩,
    ⟨some 14, .build [.str ⟨#[]⟩, .int .i64 0] [(0, 1, (.tmp 11)), (1, 1, (.tmp 13))], none⟩,
    ⟨some 15, .bslice 2 false [(.tmp 14)], none⟩,
    ⟨some 16, .append 2 24 false (.tmp 9) (.tmp 15), none⟩,
    ⟨some 4, .take (.tmp 16), none⟩]))
  (.region [⟨some 17, .bin .add (.tmp 7) (.con (.int .i64 1)), none⟩,
    ⟨some 7, .mov (.tmp 17), none⟩]))))
/-- regency/label.Get -/
def c_label_Get : CFn := ⟨27, .seq (.region [⟨some 2, .take (.con (.sl .ex [])), none⟩,
    ⟨some 3, .mov (.con (.int .i64 0)), none⟩])
  (.seq (.region [⟨some 4, .take (.con (.sl .ex [])), none⟩])
  (.seq (.seq (.region [⟨some 5, .mov (.tmp 0), none⟩,
    ⟨some 6, .call 39 [(.tmp 5), (.con (.int .i64 8))], none⟩,
    ⟨some 7, .mov (.con (.int .i64 0)), none⟩])
  (.block 0 (.kill [2, 3, 5, 8, 9, 10, 11, 12, 13, 14, 15, 16, 17] (.loop l_label_Get_0))))
  (.seq (.seq (.region [⟨some 18, .mov (.tmp 0), none⟩,
    ⟨some 19, .call 41 [(.tmp 18)], none⟩,
    ⟨some 20, .isnil .ifc true (.tmp 19), none⟩,
    ⟨some 21, .mov (.tmp 20), none⟩,
    ⟨some 22, .mov (.tmp 4), (some (21, false))⟩,
    ⟨some 23, .pcall 54 [(.tmp 22)], (some (21, false))⟩,
    ⟨some 24, .un .not (.tmp 23), (some (21, false))⟩,
    ⟨some 25, .pick (.tmp 21) (.con (.bool true)) (.tmp 24), none⟩])
  (.cond (.tmp 25) (.seq (.region [⟨some 2, .take (.con (.sl .ex [])), none⟩,
    ⟨some 3, .mov (.con (.int .i64 10)), none⟩])
  (.ret)) (.skip)))
  (.seq (.region [⟨some 26, .take (.tmp 4), none⟩,
    ⟨some 2, .take (.tmp 26), none⟩,
    ⟨some 3, .mov (.con (.int .i64 0)), none⟩])
  (.ret))))),
  [.tmp 2, .tmp 3]⟩
theorem is_label_Get : IsFn Tryz.prog 67 c_label_Get := isFn_of [([], [0]), ([], [0]), ([], []), ([2, 3, 5, 8, 9, 10, 11, 12, 13, 14, 15, 16, 17], []), ([], []), ([6, 7, 8], []), ([], [0, 8]), ([], []), ([], [5]), ([], [0]), ([], []), ([], [0, 1]), ([], [])] (by kernel_rfl)

/-- (*regency/tape.Tape).End -/
def c_tape_Tape_End : CFn := ⟨16, .seq (.region [⟨some 2, .mov (.con (.nili)), none⟩])
  (.seq (.seq (.region [⟨some 4, .mov (.tmp 0), none⟩,
    ⟨some 5, .call 41 [(.tmp 4)], none⟩,
    ⟨some 3, .mov (.tmp 5), none⟩])
  (.seq (.region [⟨some 6, .mov (.tmp 3), none⟩,
    ⟨some 7, .isnil .ifc true (.tmp 6), none⟩])
  (.cond (.tmp 7) (.seq (.region [⟨some 8, .mov (.tmp 3), none⟩,
    ⟨some 2, .mov (.tmp 8), none⟩])
  (.ret)) (.skip))))
  (.seq (.seq (.region [⟨some 9, .mov (.tmp 0), none⟩,
    ⟨some 10, .nilck (.tmp 9), none⟩,
    ⟨some 11, .faddr 0 (.tmp 10), none⟩,
    ⟨some 12, .load none (.tmp 11), none⟩,
    ⟨some 13, .lenl (.tmp 12), none⟩,
    ⟨some 14, .bin .gtr (.tmp 13) (.con (.int .i64 0)), none⟩])
  (.cond (.tmp 14) (.seq (.region [⟨some 15, .call 72 [(.con (.str ⟨#[116, 97, 112, 101]⟩)), (.con (.int .i64 10))], none⟩,
    ⟨some 2, .mov (.tmp 15), none⟩])
  (.ret)) (.skip)))
  (.seq (.region [⟨some 2, .mov (.con (.nili)), none⟩])
  (.ret)))),
  [.tmp 2]⟩
theorem is_tape_Tape_End : IsFn Tryz.prog 68 c_tape_Tape_End := isFn_of [([], []), ([], []), ([], []), ([], []), ([], []), ([], []), ([], []), ([], []), ([], []), ([], [])] (by kernel_rfl)

/-- regency/fault.Wrap -/
def c_fault_Wrap : CFn := ⟨16, .seq (.region [⟨some 6, .mov (.con (.nili)), none⟩])
  (.seq (.seq (.region [⟨some 7, .mov (.tmp 1), none⟩,
    ⟨some 8, .bin .eql (.tmp 7) (.con (.int .i64 0)), none⟩])
  (.cond (.tmp 8) (.seq (.region [⟨some 9, .mov (.tmp 2), none⟩,
    ⟨some 6, .mov (.tmp 9), none⟩])
  (.ret)) (.skip)))
  (.seq (.region [⟨some 10, .mov (.tmp 0), none⟩,
    ⟨some 11, .mov (.tmp 1), none⟩,
    ⟨some 12, .mov (.tmp 2), none⟩,
    ⟨some 13, .build [.str ⟨#[]⟩, .int .i64 0, .nili] [(0, 1, (.tmp 10)), (1, 1, (.tmp 11)), (2, 1, (.tmp 12))], none⟩,
    ⟨some 14, .rbox (.tmp 13), none⟩,
    ⟨some 15, .mkif 122 (.tmp 14), none⟩,
    ⟨some 6, .mov (.tmp 15), none⟩])
  (.ret))),
  [.tmp 6]⟩
theorem is_fault_Wrap : IsFn Tryz.prog 69 c_fault_Wrap := isFn_of [([], []), ([], []), ([], []), ([], []), ([], [4]), ([], [])] (by kernel_rfl)

abbrev s_tape_Tape_number_0 (v5 v6 v12 v13 v14 : AV) : List AV := [.any, undefA, .any, .any, .any, v5, v6, .any, .any, .any, .any, .any, v12, v13, v14, .any, .any, .any, .any, .any, .any, .any, .any, .any, .any, .any, .any, .any, .any, .any, .any, .any, .any, .any, .any, .any, .any, .any, .any, .any, .any, .any, .any, .any, .any, .any, .any, .any, .any, .any]
abbrev x_tape_Tape_number_0  : List AV := [.any, undefA, .any, .any, .any, .any, .any, .any, .any, .any, .any, .any, .any, .any, .any, .any, .any, .any, .any, .any, .any, .any, .any, .any, .any, .any, .any, .any, .any, .any, .any, .any, .any, .any, .any, .any, .any, .any, .any, .any, .any, .any, .any, .any, .any, .any, .any, .any, .any, .any]
abbrev x_tape_Tape_number_1 (v5 v6 v12 v13 v14 : AV) : List AV := [.any, undefA, .any, .any, .any, v5, v6, .any, .any, .any, .any, .any, v12, v13, v14, .any, .any, .any, .any, .any, .any, .any, .any, .any, .any, .any, .any, .any, .any, .any, .any, .any, .any, .any, .any, .any, .any, .any, .any, .any, .any, .any, .any, .any, .any, .any, .any, .any, .any, .any]
abbrev l_tape_Tape_number_0 : CC := .kill [0, 2, 3, 4, 7, 8, 9, 10, 11, 15, 16, 17, 18, 19, 20, 21, 22, 23, 24, 25, 26, 27, 28, 29, 30, 31, 32, 33, 34, 35, 36, 37, 38, 39, 40, 41, 42, 43, 44, 45, 46, 47, 48, 49] (.seq (.region [⟨some 15, .bin .lss (.tmp 14) (.tmp 13), none⟩])
  (.seq (.cond (.tmp 15) (.skip) (.kill [5, 6, 12, 13, 14, 15] (.exit 0)))
  (.seq (.block 1 (.seq (.region [⟨some 16, .mov (.tmp 14), none⟩,
    ⟨some 17, .iaddr 1 none (.tmp 12) (.tmp 14), none⟩,
    ⟨some 18, .load none (.tmp 17), none⟩,
    ⟨some 7, .mov (.tmp 16), none⟩,
    ⟨some 8, .mov (.tmp 18), none⟩])
  (.seq (.block 2 (.seq (.region [⟨some 20, .mov (.tmp 7), none⟩,
    ⟨some 21, .bin .eql (.tmp 20) (.con (.int .i64 9)), none⟩,
    ⟨some 19, .mov (.tmp 21), none⟩])
  (.cond (.tmp 19) (.seq (.region [⟨some 2, .mov (.con (.int .i64 0)), none⟩,
    ⟨some 3, .mov (.con (.int .i64 0)), none⟩,
    ⟨some 4, .mov (.con (.int .i64 10)), none⟩])
  (.ret)) (.seq (.region [⟨some 23, .mov (.tmp 8), none⟩,
    ⟨some 24, .bin .geq (.tmp 23) (.con (.int .u8 128)), none⟩,
    ⟨some 22, .mov (.tmp 24), none⟩])
  (.cond (.tmp 22) (.seq (.region [⟨some 25, .mov (.tmp 5), none⟩,
    ⟨some 26, .mov (.tmp 8), none⟩,
    ⟨some 27, .bin .sub (.tmp 26) (.con (.int .u8 128)), none⟩,
    ⟨some 28, .cInt .i64 (.tmp 27), none⟩,
    ⟨some 29, .mov (.tmp 6), none⟩,
    ⟨some 30, .bin .mul (.tmp 28) (.tmp 29), none⟩,
    ⟨some 31, .bin .add (.tmp 25) (.tmp 30), none⟩,
    ⟨some 5, .mov (.tmp 31), none⟩])
  (.seq (.region [⟨some 32, .mov (.tmp 6), none⟩,
    ⟨some 33, .bin .mul (.tmp 32) (.con (.int .i64 128)), none⟩,
    ⟨some 6, .mov (.tmp 33), none⟩])
  (.kill [7, 8, 15, 16, 17, 18, 19, 20, 21, 22, 23, 24, 25, 26, 27, 28, 29, 30, 31, 32, 33] (.exit 1)))) (.seq (.region [⟨some 35, .mov (.tmp 8), none⟩,
    ⟨some 36, .bin .eql (.tmp 35) (.con (.int .u8 0)), none⟩,
    ⟨some 37, .mov (.tmp 36), none⟩,
    ⟨some 38, .mov (.tmp 7), (some (37, true))⟩,
    ⟨some 39, .bin .gtr (.tmp 38) (.con (.int .i64 0)), (some (37, true))⟩,
    ⟨some 40, .pick (.tmp 37) (.tmp 39) (.con (.bool false)), none⟩,
    ⟨some 34, .mov (.tmp 40), none⟩])
  (.cond (.tmp 34) (.seq (.region [⟨some 2, .mov (.con (.int .i64 0)), none⟩,
    ⟨some 3, .mov (.con (.int .i64 0)), none⟩,
    ⟨some 4, .mov (.con (.int .i64 10)), none⟩])
  (.ret)) (.skip))))))))
  (.seq (.region [⟨some 41, .mov (.tmp 5), none⟩,
    ⟨some 42, .mov (.tmp 8), none⟩,
    ⟨some 43, .cInt .i64 (.tmp 42), none⟩,
    ⟨some 44, .mov (.tmp 6), none⟩,
    ⟨some 45, .bin .mul (.tmp 43) (.tmp 44), none⟩,
    ⟨some 46, .bin .add (.tmp 41) (.tmp 45), none⟩,
    ⟨some 47, .mov (.tmp 7), none⟩,
    ⟨some 48, .bin .add (.tmp 47) (.con (.int .i64 1)), none⟩,
    ⟨some 2, .mov (.tmp 46), none⟩,
    ⟨some 3, .mov (.tmp 48), none⟩,
    ⟨some 4, .mov (.con (.int .i64 0)), none⟩])
  (.ret)))))
  (.region [⟨some 49, .bin .add (.tmp 14) (.con (.int .i64 1)), none⟩,
    ⟨some 14, .mov (.tmp 49), none⟩]))))
/-- (*regency/tape.Tape).number -/
def c_tape_Tape_number : CFn := ⟨50, .seq (.region [⟨some 2, .mov (.con (.int .i64 0)), none⟩,
    ⟨some 3, .mov (.con (.int .i64 0)), none⟩,
    ⟨some 4, .mov (.con (.int .i64 0)), none⟩])
  (.seq (.region [⟨some 5, .mov (.con (.int .i64 0)), none⟩,
    ⟨some 6, .mov (.con (.int .i64 1)), none⟩])
  (.seq (.seq (.region [⟨some 9, .mov (.tmp 0), none⟩,
    ⟨some 10, .nilck (.tmp 9), none⟩,
    ⟨some 11, .faddr 0 (.tmp 10), none⟩,
    ⟨some 12, .load none (.tmp 11), none⟩,
    ⟨some 13, .lenl (.tmp 12), none⟩,
    ⟨some 14, .mov (.con (.int .i64 0)), none⟩])
  (.block 0 (.kill [0, 2, 3, 4, 7, 8, 9, 10, 11, 15, 16, 17, 18, 19, 20, 21, 22, 23, 24, 25, 26, 27, 28, 29, 30, 31, 32, 33, 34, 35, 36, 37, 38, 39, 40, 41, 42, 43, 44, 45, 46, 47, 48, 49] (.loop l_tape_Tape_number_0))))
  (.seq (.region [⟨some 2, .mov (.con (.int .i64 0)), none⟩,
    ⟨some 3, .mov (.con (.int .i64 0)), none⟩,
    ⟨some 4, .mov (.con (.int .i64 11)), none⟩])
  (.ret)))),
  [.tmp 2, .tmp 3, .tmp 4]⟩
theorem is_tape_Tape_number : IsFn Tryz.prog 70 c_tape_Tape_number := isFn_of [([], []), ([], []), ([], []), ([0, 2, 3, 4, 7, 8, 9, 10, 11, 15, 16, 17, 18, 19, 20, 21, 22, 23, 24, 25, 26, 27, 28, 29, 30, 31, 32, 33, 34, 35, 36, 37, 38, 39, 40, 41, 42, 43, 44, 45, 46, 47, 48, 49], []), ([], []), ([5, 6, 12, 13, 14, 15], []), ([], []), ([], []), ([], []), ([], []), ([], []), ([], []), ([], []), ([7, 8, 15, 16, 17, 18, 19, 20, 21, 22, 23, 24, 25, 26, 27, 28, 29, 30, 31, 32, 33], []), ([], []), ([], []), ([], []), ([], []), ([], []), ([], []), ([], []), ([], [])] (by kernel_rfl)

/-- (*regency/tape.Tape).fail -/
def c_tape_Tape_fail : CFn := ⟨15, .seq (.region [⟨some 4, .mov (.con (.int .i64 0)), none⟩])
  (.seq (.seq (.region [⟨some 5, .mov (.tmp 0), none⟩,
    ⟨some 6, .nilck (.tmp 5), none⟩,
    ⟨some 7, .faddr 1 (.tmp 6), none⟩,
    ⟨some 8, .load none (.tmp 7), none⟩,
    ⟨some 9, .isnil .ifc false (.tmp 8), none⟩])
  (.cond (.tmp 9) (.region [⟨some 10, .mov (.tmp 0), none⟩,
    ⟨some 11, .mov (.tmp 1), none⟩,
    ⟨some 12, .call 72 [(.con (.str ⟨#[116, 97, 112, 101]⟩)), (.tmp 11)], none⟩,
    ⟨some 13, .nilck (.tmp 10), none⟩,
    ⟨some 14, .faddr 1 (.tmp 13), none⟩,
    ⟨none, .store 1 (.tmp 14) (.tmp 12), none⟩]) (.skip)))
  (.seq (.region [⟨some 4, .mov (.con (.int .i64 0)), none⟩])
  (.ret))),
  [.tmp 4]⟩
theorem is_tape_Tape_fail : IsFn Tryz.prog 71 c_tape_Tape_fail := isFn_of [([], []), ([], []), ([], []), ([], []), ([], [])] (by kernel_rfl)

/-- regency/fault.New -/
def c_fault_New : CFn := ⟨8, .seq (.region [⟨some 4, .mov (.con (.nili)), none⟩])
  (.seq (.region [⟨some 5, .mov (.tmp 0), none⟩,
    ⟨some 6, .mov (.tmp 1), none⟩,
    ⟨some 7, .call 69 [(.tmp 5), (.tmp 6), (.con (.nili))], none⟩,
    ⟨some 4, .mov (.tmp 7), none⟩])
  (.ret)),
  [.tmp 4]⟩
theorem is_fault_New : IsFn Tryz.prog 72 c_fault_New := isFn_of [([], []), ([], []), ([], [])] (by kernel_rfl)

end Go.Proofs.YtjeigcnaalleiaaGreatDoor.F
