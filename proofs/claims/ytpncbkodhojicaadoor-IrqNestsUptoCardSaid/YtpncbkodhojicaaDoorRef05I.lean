/- The walks of the reference vergeref05 (sets, by definition) and of math/bits.TrailingZeros64: each call returns what the plain words of XSets say. Conditions: words below 2^64; numbers in range; the de Bruijn table as its initialiser lays it. -/
import Derived.Test.YtpncbkodhojicaaDoorBits
namespace Go.Proofs.YtpncbkodhojicaaDoor
open Go.RowKit

def hasB (b : Nat) (n : Int) : Bool := decide (0 ≤ n) && b.testBit n.toNat
theorem hasB_nat (b n : Nat) : hasB b (n : Int) = b.testBit n := by simp [hasB]

theorem sl_int : SlT Tryd.prog 53 3 (.int .i64 0) 8 := SlT.mk' Tryd.underlying53 (by kernel_rfl) rfl

/-- the numbers of a set below k, rising, as numbers of Go's -/
def bI (b k : Nat) : List Int := (bitsTo b k).map Int.ofNat
theorem bI_len (b k : Nat) : (bI b k).length ≤ k := by unfold bI; rw [List.length_map]; exact bitsTo_len b k
theorem bI_succ (b k : Nat) : bI b (k + 1) = bI b k ++ (if b.testBit k then [(k : Int)] else []) := by
  unfold bI
  rw [bitsTo_succ, List.map_append]
  by_cases h : b.testBit k <;> simp [h]

end Go.Proofs.YtpncbkodhojicaaDoor
