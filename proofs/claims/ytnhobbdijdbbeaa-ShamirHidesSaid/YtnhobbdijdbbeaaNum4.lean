/- Plain laws on numbers of 256 bits: a product by a sum. It has no conditions. -/
import Derived.Test.YtnhobbdijdbbeaaNum3
namespace Go.Eng
set_option linter.unusedSimpArgs false
set_option linter.unusedVariables false
set_option exponentiation.threshold 600
set_option maxRecDepth 100000

theorem mulm_comm (a b : Int) : mulm b a = mulm a b := by unfold mulm; rw [Int.mul_comm]
theorem mulh_comm (a b : Int) : mulh b a = mulh a b := by unfold mulh; rw [Int.mul_comm]
theorem mulm_range (a b : Int) : 0 ≤ mulm a b ∧ mulm a b < M256 := by unfold mulm M256; omega
theorem prod_range {a b : Int} (ha : 0 ≤ a ∧ a < M256) (hb : 0 ≤ b ∧ b < M256) : 0 ≤ a * b ∧ a * b ≤ 13407807929942597099574024998205846127479365820592393377723561443721764030073315392623399665776056285720014482370779510884422601683867654778417822746804225 := by
  have := mul_range (x := a) (y := b) (a := 115792089237316195423570985008687907853269984665640564039457584007913129639935) (b := 115792089237316195423570985008687907853269984665640564039457584007913129639935) (by unfold M256 at ha; omega) (by unfold M256 at hb; omega)
  refine ⟨this.1, Int.le_trans this.2 (by decide)⟩
theorem mulh_range {a b : Int} (ha : 0 ≤ a ∧ a < M256) (hb : 0 ≤ b ∧ b < M256) : 0 ≤ mulh a b ∧ mulh a b < M256 := by
  have h := prod_range ha hb
  unfold mulh
  generalize a * b = p at *
  unfold M256
  omega

theorem parts_law {a b c : Int} (ha : 0 ≤ a ∧ a < M256) (hb : 0 ≤ b ∧ b < M256) (hc : 0 ≤ c ∧ c < M256) (hs : addc b c = false) :
    addm (mulm a b) (mulm a c) = mulm a (addm b c) ∧ addc (mulh a b) (mulh a c) = false ∧ (addc (mulm a b) (mulm a c) = false → addm (mulh a b) (mulh a c) = mulh a (addm b c)) ∧
      (addc (mulm a b) (mulm a c) = true → addm (addm (mulh a b) (mulh a c)) 1 = mulh a (addm b c) ∧ addc (addm (mulh a b) (mulh a c)) 1 = false) := by
  have e : addm b c = b + c := by
    unfold addc at hs
    simp at hs
    unfold addm M256 at *
    omega
  have hbc : 0 ≤ b + c ∧ b + c < M256 := by
    rw [← e]; exact addm_range b c
  have p1 := prod_range ha hb
  have p2 := prod_range ha hc
  have p3 := prod_range ha hbc
  rw [e]
  rw [Int.mul_add] at p3
  unfold mulm mulh
  rw [Int.mul_add]
  generalize a * b = p at *
  generalize a * c = q at *
  clear e hs hbc ha hb hc
  unfold addm addc M256
  simp only [decide_eq_true_eq, decide_eq_false_iff_not]
  refine ⟨by omega, by omega, fun h => by omega, fun h => ⟨by omega, by omega⟩⟩

end Go.Eng
