/- Walks through the reference's product modulo the order. It has no conditions. -/
import Derived.Test.YtnncnbplnapodaaRRRLimbs6
import Derived.Test.YtnncnbplnapodaaRRRScal6
import Derived.Test.YtnncnbplnapodaaRRRNum4
namespace Go.Proofs.YtnncnbplnapodaaRRR
open Go.Eng Go.RowKit
set_option maxRecDepth 1000000
set_option maxHeartbeats 4000000
set_option exponentiation.threshold 600
set_option linter.unusedSimpArgs false
set_option linter.unusedVariables false

theorem mul_parts (a b : Int) : wide2 (mulm a b) (mulh a b) = smulN qN a b := by
  unfold wide2 smulN mulm mulh
  rw [Int.emod_add_mul_ediv]

theorem srMul_vc (A : Ar) (L : LP) (N : Ap) (a0 a1 a2 a3 b0 b1 b2 b3 : Int) (hL : L = ALoop 0) (hA : A = std) (hN : N = apStd) (ha : W a0 ∧ W a1 ∧ W a2 ∧ W a3) (hb : W b0 ∧ W b1 ∧ W b2 ∧ W b3) (v : SV) (K : Bool → SV → List Blk → Prop) (hK : K = FinP v)
    (hv : v = numV apStd (smulN qN (num4 a0 a1 a2 a3) (num4 b0 b1 b2 b3))) :
    Shut (afun (cx A L [(26, mulF N), (67, rwideF N)]) Try.f34 [wordsV a0 a1 a2 a3, wordsV b0 b1 b2 b3] [] K) := by
  have ra := num4_range ha.1 ha.2.1 ha.2.2.1 ha.2.2.2
  have rb := num4_range hb.1 hb.2.1 hb.2.2.1 hb.2.2.2
  have m1 := num4_mod (mulm_range (num4 a0 a1 a2 a3) (num4 b0 b1 b2 b3))
  have m2 := num4_mod (mulh_range ra rb)
  apply Shut.mk
  cbv
  subst hN; subst hv
  refine fin_of hK rfl rfl ?_
  simp only [apStd, m1, m2, mul_parts]
  rfl

theorem con_srMul : Con Try.prog 34 (smul apStd qN) := by
  refine con_shut Try.func34 rfl (by kernel_rfl) (fun args v us hF hv => ?_) (fun args v hF => num2F_ids hF)
  unfold smul num2F at hF
  split at hF
  · split at hF
    · rename_i a b ha hb
      simp only [Prod.mk.injEq, true_and, ap2_std] at hF
      obtain ⟨a0, a1, a2, a3, b0, b1, b2, b3, wa, wb, rfl, rfl, hus⟩ := args_two ha hb hv
      exact ⟨_, _, good (l := [(26, mulF apStd), (67, rwideF apStd)]) (by intro p hp; simp only [List.mem_cons, List.not_mem_nil, or_false] at hp; rcases hp with rfl | rfl; exact con_refMul; exact con_rwide), rfl, by kernel_rfl, hus, Nat.le_of_ble_eq_true rfl,
        srMul_vc std (ALoop 0) apStd a0 a1 a2 a3 b0 b1 b2 b3 rfl rfl rfl wa wb v (FinP v) rfl hF.symm⟩
    · cases hF
  · cases hF

end Go.Proofs.YtnncnbplnapodaaRRR
