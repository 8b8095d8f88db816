/- Walks through what every law of the limbs package runs. It has no conditions. -/
import Derived.Test.YtnncnbplnapodaaRRRLimbs2
import Derived.Test.YtnncnbplnapodaaRRRLimbs4
namespace Go.Proofs.YtnncnbplnapodaaRRR
open Go.Eng Go.RowKit
set_option maxRecDepth 1000000
set_option maxHeartbeats 4000000
set_option linter.unusedSimpArgs false
set_option linter.unusedVariables false

def allF : List SV → Bool × SV
  | [] => (true, .agg [.num .u64 18446744073709551615, .num .u64 18446744073709551615, .num .u64 18446744073709551615, .num .u64 18446744073709551615])
  | _ => (false, .bad)
def trueF : List SV → Bool × SV
  | [] => (true, .bool true)
  | _ => (false, .bad)

theorem all_vc (A : Ar) (L : LP) (v : SV) (K : Bool → SV → List Blk → Prop) (hK : K = FinP v) (hv : v = .agg [.num .u64 18446744073709551615, .num .u64 18446744073709551615, .num .u64 18446744073709551615, .num .u64 18446744073709551615]) :
    afun (cx A L []) Try.f61 [] [] K := by
  cbv
  exact fin_of hK rfl rfl hv

theorem con_all : Con Try.prog 61 allF := by
  refine con_of Try.func61 rfl (by kernel_rfl) (fun args v us hF hv => ?_) (fun args v hF => ?_)
  · unfold allF at hF
    split at hF
    · simp only [Prod.mk.injEq, true_and] at hF
      exact ⟨_, _, good (l := []) (by simp), rfl, by kernel_rfl, hv, Nat.zero_le _, all_vc std (ALoop 0) v (FinP v) rfl hF.symm⟩
    · cases hF
  · unfold allF at hF
    split at hF
    · rfl
    · cases hF

def awakeL : Pure := [(25, mulF apStd), (61, allF), (17, addF apStd), (19, subF apStd), (27, fromF std apStd), (21, cmpF apStd), (29, bytesF apStd), (31, bitF apStd)]

theorem awakeL_ok : ∀ p ∈ awakeL, Con Try.prog p.1 p.2 := by
  intro p hp
  simp only [awakeL, List.mem_cons, List.not_mem_nil, or_false] at hp
  rcases hp with rfl | rfl | rfl | rfl | rfl | rfl | rfl | rfl
  · exact con_limbsMul
  · exact con_all
  · exact con_limbsAdd
  · exact con_limbsSub
  · exact con_limbsFrom
  · exact con_limbsCmp
  · exact con_limbsBytes
  · exact con_limbsBit

theorem awake_vc (v : SV) (K : Bool → SV → List Blk → Prop) (hK : K = FinP v) (hv : v = .bool true) : afun (cx std (ALoop 0) awakeL) Try.f24 [] [] K := by
  cbv
  exact fin_of hK rfl rfl hv

theorem con_awake : Con Try.prog 24 trueF := by
  refine con_of Try.func24 rfl (by kernel_rfl) (fun args v us hF hv => ?_) (fun args v hF => ?_)
  · unfold trueF at hF
    split at hF
    · simp only [Prod.mk.injEq, true_and] at hF
      exact ⟨_, _, good awakeL_ok, rfl, by kernel_rfl, hv, Nat.zero_le _, awake_vc v (FinP v) rfl hF.symm⟩
    · cases hF
  · unfold trueF at hF
    split at hF
    · rfl
    · cases hF

theorem long_vc (v : SV) (K : Bool → SV → List Blk → Prop) (hK : K = FinP v) (hv : v = .bool true) : afun (cx std (ALoop 0) awakeL) Try.f23 [] [] K := by
  cbv
  exact fin_of hK rfl rfl hv

theorem con_long : Con Try.prog 23 trueF := by
  refine con_of Try.func23 rfl (by kernel_rfl) (fun args v us hF hv => ?_) (fun args v hF => ?_)
  · unfold trueF at hF
    split at hF
    · simp only [Prod.mk.injEq, true_and] at hF
      exact ⟨_, _, good awakeL_ok, rfl, by kernel_rfl, hv, Nat.zero_le _, long_vc v (FinP v) rfl hF.symm⟩
    · cases hF
  · unfold trueF at hF
    split at hF
    · rfl
    · cases hF

end Go.Proofs.YtnncnbplnapodaaRRR
