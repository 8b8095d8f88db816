/- Plain laws on inverses modulo a prime number. It has no conditions. -/
import Derived.Test.YtnhobbdijdbbeaaNum7
import Derived.Test.YtnhobbdijdbbeaaPrime
namespace Go.Eng
set_option linter.unusedSimpArgs false
set_option linter.unusedVariables false
set_option exponentiation.threshold 600
set_option maxRecDepth 100000

def PrmF (p : Nat) : Prop := Prm p ∧ ∀ a, 0 < a → a < p → a ^ (p - 1) % p = 1

theorem prmF_q : PrmF 115792089210356248762697446949407573529996955224135760342422259061068512044369 := pr_115792089210356248762697446949407573529996955224135760342422259061068512044369
theorem prmF_p : PrmF 115792089210356248762697446949407573530086143415290314195533631308867097853951 := pr_115792089210356248762697446949407573530086143415290314195533631308867097853951

theorem prime_of {M : Int} (hM : M = qN ∨ M = pN) : ∃ p : Nat, M = (p : Int) ∧ PrmF p := by
  rcases hM with rfl | rfl
  · exact ⟨_, rfl, prmF_q⟩
  · exact ⟨_, rfl, prmF_p⟩

theorem co_of {M c : Int} (hM : M = qN ∨ M = pN) (h0 : 0 < c) (h1 : c < M) : co c M := by
  intro d hd h2 h3
  obtain ⟨k, hk⟩ := h3
  have hMp : 0 < M := by omega
  have hk0 : 0 < k := by
    rcases Int.lt_trichotomy 0 k with h | h | h
    · exact h
    · rw [← h] at hk; omega
    · have := Int.mul_neg_of_pos_of_neg hd h; omega
  obtain ⟨p, hp, hP⟩ := prime_of hM
  have hdv : d.toNat ∣ p := ⟨k.toNat, by
    have : ((d.toNat * k.toNat : Nat) : Int) = M := by
      rw [Int.natCast_mul, Int.toNat_of_nonneg (by omega), Int.toNat_of_nonneg (by omega), ← hk]
    omega⟩
  rcases hP.1.2 _ hdv with h | h
  · omega
  · have e : d = M := by omega
    have := Int.le_of_dvd h0 h2
    omega

theorem inv_some {M c : Int} (hM : M = qN ∨ M = pN) (h0 : 0 < c) (h1 : c < M) : 0 ≤ invT M c ∧ invT M c < M ∧ ∃ k, invT M c * c = 1 + M * k := by
  obtain ⟨g1, g2, g3, _⟩ := qp_range hM
  have hM2 : M < 2 ^ 256 := by unfold M256 at g2; omega
  have := inv_run (M := M) (a := c) g1 g2 g3 2000 256 256 c M 1 0 h0 (by omega) (by omega) (Int.le_refl _) (by omega) hM2 (co_of hM h0 h1) (by omega) (by omega) ⟨0, by omega⟩ ⟨-1, by omega⟩ (by unfold flag; split <;> omega)
  unfold invT
  rw [if_neg (by omega)]
  exact ⟨this.1, this.2.1, this.2.2.1⟩

theorem inv_laws {M a : Int} (hM : M = qN ∨ M = pN) (ha : 0 ≤ a ∧ a < M256) :
    (cutN M a = 0 → sinvN M a = 0) ∧ (cutN M a ≠ 0 → 0 ≤ sinvN M a ∧ sinvN M a < M ∧ smulN M a (sinvN M a) = 1 ∧ 0 ≤ sinvN M (sinvN M a) ∧ sinvN M (sinvN M a) = cutN M a) := by
  obtain ⟨g1, g2, g3, _⟩ := qp_range hM
  obtain ⟨c0, c1, c2⟩ := cut_range g1 g2 ha
  refine ⟨fun h => by unfold sinvN invT; rw [if_pos h], fun h => ?_⟩
  obtain ⟨r0, r1, k, hk⟩ := inv_some hM (show 0 < cutN M a by omega) c1
  have e1 : sinvN M a = invT M (cutN M a) := rfl
  rw [← e1] at r0 r1 hk
  have hne : sinvN M a ≠ 0 := by
    intro h0
    rw [h0, Int.zero_mul] at hk
    have h2 : M * k = -1 := by omega
    have : (M * k) % M = 0 := Int.mul_emod_right M k
    rw [h2] at this
    have h3 : (-1 : Int) % M = M - 1 := by
      rw [← Int.add_emod_right, Int.emod_eq_of_lt (by omega) (by omega)]; omega
    omega
  have cr : cutN M (sinvN M a) = sinvN M a := by unfold cutN ltb; simp [r1]
  obtain ⟨s0, s1, k2, hk2⟩ := inv_some hM (show 0 < sinvN M a by omega) r1
  have e2 : sinvN M (sinvN M a) = invT M (sinvN M a) := by
    show invT M (cutN M (sinvN M a)) = _
    rw [cr]
  rw [← e2] at s0 s1 hk2
  refine ⟨r0, r1, ?_, s0, ?_⟩
  · unfold smulN
    rw [← mul_mod_l, ← c2, Int.mul_comm, hk, Int.add_mul_emod_self_left, Int.emod_eq_of_lt (by omega) (by omega)]
  · have h3 : sinvN M (sinvN M a) * (sinvN M a * cutN M a) = sinvN M (sinvN M a) + M * (k * sinvN M (sinvN M a)) := by
      rw [hk, Int.mul_add, Int.mul_one, Int.mul_comm (sinvN M (sinvN M a)) (M * k), Int.mul_assoc]
    have h4 : sinvN M (sinvN M a) * (sinvN M a * cutN M a) = cutN M a + M * (k2 * cutN M a) := by
      rw [← Int.mul_assoc, hk2, Int.add_mul, Int.one_mul, Int.mul_assoc]
    have h5 : (sinvN M (sinvN M a) + M * (k * sinvN M (sinvN M a))) % M = (cutN M a + M * (k2 * cutN M a)) % M := by rw [← h3, h4]
    rw [Int.add_mul_emod_self_left, Int.add_mul_emod_self_left, Int.emod_eq_of_lt s0 s1, Int.emod_eq_of_lt c0 c1] at h5
    exact h5

theorem sadd_zero {M a : Int} (hM : M = qN ∨ M = pN) (ha : 0 ≤ a ∧ a < M256) : saddN M a (num4 0 0 0 0) = cutN M a := by
  obtain ⟨g1, g2, g3, _⟩ := qp_range hM
  rw [show num4 0 0 0 0 = 0 by decide, sadd_eq hM ha (by decide), Int.add_zero, (cut_range g1 g2 ha).2.2]

end Go.Eng
