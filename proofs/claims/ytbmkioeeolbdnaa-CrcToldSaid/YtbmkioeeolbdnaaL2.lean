/- The digest: chains, parts, and what its reference computes. -/
import Derived.Test.YtbmkioeeolbdnaaL1
set_option linter.all false
set_option maxRecDepth 100000
namespace Go.Proofs.Ytbmkioeeolbdnaa.L
open Go.Proofs.Ytbmkioeeolbdnaa.M Go.Proofs.Ytbmkioeeolbdnaa.F Go.Proofs

def encL (b : List UInt8) : List AV := [.sl .sh (b.map encB)]
theorem get_encL {l : List (List UInt8)} {k : Nat} {c : List UInt8} (hc : l[k]? = some c) : (l.map encL)[(k : Int).toNat]? = some (encL c) := by
  rw [Int.toNat_natCast, List.getElem?_map, hc]; rfl
theorem mr_encL : ∀ (l : List (List UInt8)), mrLL (l.map encL) = 0
  | [] => rfl
  | b :: l => by simp only [List.map_cons, mrLL, encL, mrL, AV.mr, mr_enc, mr_encL l]; rfl
theorem szOK_encL {l : List (List UInt8)} : szOK 1 (l.map encL) = true := by cases l <;> rfl
attribute [go_sem] mr_encL szOK_encL
theorem flat_take_succ (f : List UInt8 → List UInt8) (l : List (List UInt8)) (k : Nat) (b : List UInt8) (h : l[k]? = some b) : ((l.take (k + 1)).map f).flatten = ((l.take k).map f).flatten ++ f b := by
  rw [List.take_add_one, h]; simp

end Go.Proofs.Ytbmkioeeolbdnaa.L
