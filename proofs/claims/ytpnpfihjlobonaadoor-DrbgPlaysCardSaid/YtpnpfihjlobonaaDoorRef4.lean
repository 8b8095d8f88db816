/- The numbers that sums and rounds begin with, by the reference's rule: closed facts. It has no conditions. -/
import Derived.Test.YtpnpfihjlobonaaDoorRef3
namespace Go.Proofs.YtpnpfihjlobonaaDoor
open Go.Eng Go.RowKit
set_option maxRecDepth 1000000
set_option maxHeartbeats 4000000
set_option linter.unusedSimpArgs false
set_option linter.unusedVariables false

def primeL : List Int := [2, 3, 5, 7, 11, 13, 17, 19, 23, 29, 31, 37, 41, 43, 47, 53, 59, 61, 67, 71, 73, 79, 83, 89, 97, 101, 103, 107, 109, 113, 127, 131, 137, 139, 149, 151, 157, 163, 167, 173, 179, 181, 191, 193, 197, 199, 211, 223, 227, 229, 233, 239, 241, 251, 257, 263, 269, 271, 277, 281, 283, 293, 307, 311]
theorem primes64 : primesN 64 = primeL := by decide +kernel
theorem primes8 : primesN 8 = [2, 3, 5, 7, 11, 13, 17, 19] := by decide +kernel
theorem roots3 : primeL.map (rootN 3) = roundsL := by decide +kernel
theorem roots2 : [2, 3, 5, 7, 11, 13, 17, 19].map (rootN 2) = firstL := by decide +kernel

def kAt : Nat → List Int
  | 0 => List.replicate 64 0
  | j + 1 => (kAt j).set j (rootN 3 ((primesN 64).getD j 0))
theorem kAt_len : ∀ j, (kAt j).length = 64
  | 0 => List.length_replicate
  | j + 1 => by unfold kAt; rw [List.length_set]; exact kAt_len j
theorem kAt_get : ∀ (j i : Nat), i < j → j ≤ 64 → (kAt j)[i]? = some (rootN 3 ((primesN 64).getD i 0))
  | 0, i, h, _ => by omega
  | j + 1, i, h, hj => by
    unfold kAt
    rw [List.getElem?_set]
    by_cases e : j = i
    · rw [if_pos e, if_pos (by rw [kAt_len]; omega), e]
    · rw [if_neg e]; exact kAt_get j i (by omega) (by omega)
theorem kAt_64 : kAt 64 = roundsL := by
  rw [← roots3]
  apply List.ext_getElem?
  intro i
  by_cases h : i < 64
  · rw [kAt_get 64 i h (Nat.le_refl _), List.getElem?_map, primes64, List.getD_eq_getElem?_getD]
    have : i < primeL.length := h
    rw [List.getElem?_eq_getElem this]
    rfl
  · rw [List.getElem?_eq_none (by rw [kAt_len]; omega), List.getElem?_eq_none (by rw [List.length_map]; show 64 ≤ i; omega)]

def kTab (_ : Int) : List Int := roundsL
def hTab (_ : Int) : List Int := firstL

end Go.Proofs.YtpnpfihjlobonaaDoor
