/- The package's variables that nobody writes: none are read. -/
import Derived.Test.YtbmkioeeolbdnaaM1
namespace Go.Proofs.Ytbmkioeeolbdnaa.M
def GT : List (Nat × List AV) := []
def GR : List (Nat × List Value) := []
def GE : List Nat := []
end Go.Proofs.Ytbmkioeeolbdnaa.M
