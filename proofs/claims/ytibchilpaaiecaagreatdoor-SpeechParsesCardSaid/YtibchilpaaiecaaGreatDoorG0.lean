/- The package's variables that nobody writes. -/
import Derived.Test.YtibchilpaaiecaaGreatDoorM1
namespace Go.Proofs.YtibchilpaaiecaaGreatDoor.M
def GT : List (Nat × List AV) := []
def GR : List (Nat × List Value) := [(6, [.int .u64 1, .int .u64 10, .int .u64 100, .int .u64 1000, .int .u64 10000, .int .u64 100000, .int .u64 1000000, .int .u64 10000000, .int .u64 100000000, .int .u64 1000000000, .int .u64 10000000000, .int .u64 100000000000, .int .u64 1000000000000, .int .u64 10000000000000, .int .u64 100000000000000, .int .u64 1000000000000000, .int .u64 10000000000000000, .int .u64 100000000000000000, .int .u64 1000000000000000000, .int .u64 10000000000000000000])]
def GE : List Nat := [2, 3]
end Go.Proofs.YtibchilpaaiecaaGreatDoor.M
