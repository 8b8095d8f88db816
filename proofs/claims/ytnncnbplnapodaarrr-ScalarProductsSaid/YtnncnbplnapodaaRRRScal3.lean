/- Walks through what every law of the scalar package runs. It has no conditions. -/
import Derived.Test.YtnncnbplnapodaaRRRScal2
namespace Go.Proofs.YtnncnbplnapodaaRRR
open Go.Eng Go.RowKit
set_option maxRecDepth 1000000
set_option maxHeartbeats 4000000
set_option linter.unusedSimpArgs false
set_option linter.unusedVariables false

def sAwL (A : Ar) (N : Ap) : Pure := [(39, swideF A N), (20, subF N), (41, nul0F sqV), (37, sadd N qN), (33, smul N qN), (36, sinv N qN), (45, sval N qN), (47, nul0F sqV)]

theorem sAwL_ok : ∀ p ∈ sAwL std apStd, Con Try.prog p.1 p.2 := by
  intro p hp
  simp only [sAwL, List.mem_cons, List.not_mem_nil, or_false] at hp
  rcases hp with rfl | rfl | rfl | rfl | rfl | rfl | rfl | rfl
  · exact con_sWide
  · exact con_refSub
  · exact con_srOrder
  · exact con_sAdd
  · exact con_sMul
  · exact con_sInv
  · exact con_sValid
  · exact con_sOrder

theorem sAwake_vc (v : SV) (K : Bool → SV → List Blk → Prop) (hK : K = FinP v) (hv : v = .bool true) : Shut (afun (cx std (ALoop 0) (sAwL std apStd)) Try.f35 [] [] K) := by
  apply Shut.mk
  cbv
  exact fin_of hK rfl rfl hv

theorem con_sAwake : Con Try.prog 35 (nul0F (.bool true)) := by
  refine con_shut Try.func35 rfl (by kernel_rfl) (fun args v us hF hv => ?_) (fun args v hF => nul0F_ids hF)
  unfold nul0F at hF
  split at hF
  · simp only [Prod.mk.injEq, true_and] at hF
    exact ⟨_, _, good sAwL_ok, rfl, by kernel_rfl, hv, Nat.zero_le _, sAwake_vc v (FinP v) rfl hF.symm⟩
  · cases hF

end Go.Proofs.YtnncnbplnapodaaRRR
