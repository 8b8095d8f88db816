/- Walks through what every law of the field package runs. It has no conditions. -/
import Derived.Test.YtnncnbplnapodaaRRRFld2
namespace Go.Proofs.YtnncnbplnapodaaRRR
open Go.Eng Go.RowKit
set_option maxRecDepth 1000000
set_option maxHeartbeats 4000000
set_option linter.unusedSimpArgs false
set_option linter.unusedVariables false

def fAwL : Pure := [(58, sqrtF apStd), (20, subF apStd), (55, nul0F fqV), (48, sadd apStd pN), (50, ssub apStd pN), (57, smul apStd pN), (79, sinv apStd pN), (52, sval apStd pN), (54, nul0F fqV)]

theorem fAwL_ok : ∀ p ∈ fAwL, Con Try.prog p.1 p.2 := by
  intro p hp
  simp only [fAwL, List.mem_cons, List.not_mem_nil, or_false] at hp
  rcases hp with rfl | rfl | rfl | rfl | rfl | rfl | rfl | rfl | rfl
  · exact con_fSqrt
  · exact con_refSub
  · exact con_frOrder
  · exact con_fAdd
  · exact con_fSub
  · exact con_fMul
  · exact con_fInv
  · exact con_fValid
  · exact con_fOrder

theorem fAwake_vc (v : SV) (K : Bool → SV → List Blk → Prop) (hK : K = FinP v) (hv : v = .bool true) : Shut (afun (cx std (ALoop 0) fAwL) Try.f56 [] [] K) := by
  apply Shut.mk
  cbv
  exact fin_of hK rfl rfl hv

theorem con_fAwake : Con Try.prog 56 (nul0F (.bool true)) := by
  refine con_shut Try.func56 rfl (by kernel_rfl) (fun args v us hF hv => ?_) (fun args v hF => nul0F_ids hF)
  unfold nul0F at hF
  split at hF
  · simp only [Prod.mk.injEq, true_and] at hF
    exact ⟨_, _, good fAwL_ok, rfl, by kernel_rfl, hv, Nat.zero_le _, fAwake_vc v (FinP v) rfl hF.symm⟩
  · cases hF

end Go.Proofs.YtnncnbplnapodaaRRR
