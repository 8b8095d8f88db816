/- Plain laws on sums and products modulo a prime number. It has no conditions. -/
import Derived.Test.YtnhobbdijdbbeaaNum6
namespace Go.Eng
set_option linter.unusedSimpArgs false
set_option linter.unusedVariables false
set_option exponentiation.threshold 600
set_option maxRecDepth 100000

def n4 (N : Ap) (a0 a1 a2 a3 : Int) : Int := ap4 N num4 a0 a1 a2 a3
def n4l (N : Ap) (n : Int) : Int := ap4 N num4 (ap1 N l0 n) (ap1 N l1 n) (ap1 N l2 n) (ap1 N l3 n)
theorem n4_std (a0 a1 a2 a3 : Int) : n4 apStd a0 a1 a2 a3 = num4 a0 a1 a2 a3 := rfl
theorem n4l_std {n : Int} (h : 0 ≤ n ∧ n < M256) : n4l apStd n = n := num4_mod h

theorem sadd_in (M a b : Int) : 0 ≤ saddN M a b ∧ saddN M a b < M256 := by
  unfold saddN maddN
  split
  · exact subm_range _ _
  · exact addm_range _ _
theorem ssub_in (M a b : Int) : 0 ≤ ssubN M a b ∧ ssubN M a b < M256 := by
  unfold ssubN msubN
  split
  · exact addm_range _ _
  · exact subm_range _ _
theorem smul_in {M : Int} (hM : M = qN ∨ M = pN) (a b : Int) : 0 ≤ smulN M a b ∧ smulN M a b < M256 := by
  obtain ⟨g1, g2, _⟩ := qp_range hM
  unfold smulN
  exact ⟨Int.emod_nonneg _ (by omega), by have := Int.emod_lt_of_pos (a * b) (show 0 < M by omega); omega⟩

theorem sadd_eq {M a b : Int} (hM : M = qN ∨ M = pN) (ha : 0 ≤ a ∧ a < M256) (hb : 0 ≤ b ∧ b < M256) : saddN M a b = (a + b) % M := by
  obtain ⟨g1, g2, _⟩ := qp_range hM
  obtain ⟨a1, a2, a3⟩ := cut_range g1 g2 ha
  obtain ⟨b1, b2, b3⟩ := cut_range g1 g2 hb
  unfold saddN
  rw [(madd_range g1 g2 ⟨a1, a2⟩ ⟨b1, b2⟩).2.2, a3, b3, ← Int.add_emod]
theorem ssub_eq {M a b : Int} (hM : M = qN ∨ M = pN) (ha : 0 ≤ a ∧ a < M256) (hb : 0 ≤ b ∧ b < M256) : ssubN M a b = (a - b) % M := by
  obtain ⟨g1, g2, _⟩ := qp_range hM
  obtain ⟨a1, a2, a3⟩ := cut_range g1 g2 ha
  obtain ⟨b1, b2, b3⟩ := cut_range g1 g2 hb
  unfold ssubN
  rw [(msub_range g1 g2 ⟨a1, a2⟩ ⟨b1, b2⟩).2.2, a3, b3, ← Int.sub_emod]

theorem mul_mod_r (a x M : Int) : a * (x % M) % M = a * x % M := by rw [Int.mul_emod, Int.emod_emod, ← Int.mul_emod]
theorem mul_mod_l (a x M : Int) : (a % M) * x % M = a * x % M := by rw [Int.mul_emod, Int.emod_emod, ← Int.mul_emod]

theorem ring_laws {M a b c : Int} (hM : M = qN ∨ M = pN) (ha : 0 ≤ a ∧ a < M256) (hb : 0 ≤ b ∧ b < M256) (hc : 0 ≤ c ∧ c < M256) :
    smulN M a (saddN M b c) = saddN M (smulN M a b) (smulN M a c) ∧ smulN M (smulN M a b) c = smulN M a (smulN M b c) ∧ ssubN M (saddN M a b) b = saddN M a (num4 0 0 0 0) ∧ saddN M b a = saddN M a b ∧
    ltb (saddN M (smulN M a b) (smulN M a c)) M = true ∧ ltb (smulN M a (smulN M b c)) M = true ∧ ltb (saddN M a (num4 0 0 0 0)) M = true := by
  obtain ⟨g1, g2, _⟩ := qp_range hM
  have pos : 0 < M := by omega
  have z : num4 0 0 0 0 = 0 := by decide
  have rz : (0 : Int) ≤ 0 ∧ (0 : Int) < M256 := by decide
  have r := fun x y => smul_in hM x y
  refine ⟨?_, ?_, ?_, ?_, ?_, ?_, ?_⟩
  · rw [sadd_eq hM hb hc, sadd_eq hM (r _ _) (r _ _)]
    unfold smulN
    rw [mul_mod_r, Int.mul_add, Int.add_emod]
  · unfold smulN
    rw [mul_mod_r, mul_mod_l, Int.mul_assoc]
  · rw [ssub_eq hM (sadd_in _ _ _) hb, sadd_eq hM ha hb, z, sadd_eq hM ha rz, Int.add_zero, Int.sub_emod, Int.emod_emod, ← Int.sub_emod, Int.add_sub_cancel]
  · rw [sadd_eq hM hb ha, sadd_eq hM ha hb, Int.add_comm]
  · rw [sadd_eq hM (r _ _) (r _ _)]
    unfold ltb; rw [decide_eq_true_eq]; exact Int.emod_lt_of_pos _ pos
  · unfold ltb smulN; rw [decide_eq_true_eq]; exact Int.emod_lt_of_pos _ pos
  · rw [z, sadd_eq hM ha rz]
    unfold ltb; rw [decide_eq_true_eq]; exact Int.emod_lt_of_pos _ pos

end Go.Eng
