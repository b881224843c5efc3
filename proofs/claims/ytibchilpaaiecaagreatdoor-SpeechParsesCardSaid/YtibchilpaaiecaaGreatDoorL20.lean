/- Numbers and texts as bytes: what a pen writes. -/
import Derived.Test.YtibchilpaaiecaaGreatDoorF0
set_option linter.all false
set_option maxRecDepth 100000
namespace Go.Proofs.YtibchilpaaiecaaGreatDoor.L
open Go.Proofs.YtibchilpaaiecaaGreatDoor.M Go.Proofs.YtibchilpaaiecaaGreatDoor.F Go.Proofs
theorem w8 (n : Int) : IntKind.u8.wrap n = n % 256 := by simp [IntKind.wrap, IntKind.bits, IntKind.signed]
theorem w64 {n : Int} (h1 : -9223372036854775808 ≤ n) (h2 : n ≤ 9223372036854775807) : IntKind.i64.wrap n = n := by
 simp only [IntKind.wrap, IntKind.bits, IntKind.signed]; simp; split <;> omega
theorem J4 {off : Nat} {cs : List AV} {l : List (List AV)} (h1 : Nat.ble (off + 1) cs.length = true) : oV 1 off (ow l) (some (.cells cs)) = some (.cells (ovl cs off [ow l])) := by
 have hc : (ow l).cells = [ow l] := w7
 rw [w6 h1 (by rw [hc]; rfl) (by rw [hc]; simp only [aM, E4, Bool.and_true]), hc]
attribute [go_sem high] J4
theorem Bd {l : List UInt8} {h : AH} (hn : l.length < 140737488355328) : run T 80 [.sl .sh (l.map encB)] h = some (ow (l.map encB), h) := by
 rw [eG T_80]
 show (if szOK 1 (l.map encB) = true ∧ _ then _ else _) = _
 rw [if_pos ⟨wZ, by rw [List.length_map]; omega, by rw [List.length_map]; omega⟩]
end Go.Proofs.YtibchilpaaiecaaGreatDoor.L
/- Numbers and texts as bytes: what a tape reads. -/
set_option linter.all false
set_option maxRecDepth 100000
namespace Go.Proofs.YtibchilpaaiecaaGreatDoor.L
open Go.Proofs.YtibchilpaaiecaaGreatDoor.M Go.Proofs.YtibchilpaaiecaaGreatDoor.F Go.Proofs
theorem Lr {σ : List AV} {i j : Nat} {v d : AV} (h : (i == j) = false) : (σ.set i v).getD j d = σ.getD j d := by
 have : i ≠ j := by simpa using h
 simp only [List.getD, List.getElem?_set_ne this]
attribute [go_sem] Lr
def fT (s : ByteArray) (c : Int) (b : AV) : AV := .iface 95 (.ref [.str s, .int .i64 c, b])
theorem Dw {s : ByteArray} {c : Int} {h : AH} (hc : c ≠ 0) : run T 86 [.str s, .int .i64 c, .nili] h = some (fT s c .nili, h) := by
 have d1 : (c == 0) = false := by simpa using hc
 rw [af T_86]
 simp -implicitDefEqProofs (disch := (refine ab ?_; first | assumption | omega | (simp [go_sem] <;> omega) | with_unfolding_all rfl | decide)) only [go_sem, Nat.reduceAdd, Nat.reduceSub, reduceIte, reduceCtorEq, iJ, d1]
 rfl
def rdN (n : Nat) (i : Nat) : List UInt8 → Nat × Nat × Nat
 | [] => (0, 0, 11)
 | c :: r => if i = 9 then (0, 0, 10) else if 128 ≤ c.toNat then rdN (n + (c.toNat - 128) * 128 ^ i) (i + 1) r else if c.toNat = 0 ∧ 0 < i then (0, 0, 10) else (n + c.toNat * 128 ^ i, i + 1, 0)
end Go.Proofs.YtibchilpaaiecaaGreatDoor.L
