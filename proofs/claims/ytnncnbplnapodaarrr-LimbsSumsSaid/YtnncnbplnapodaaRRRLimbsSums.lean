/- The law LimbsSums of the limbs package hands back true, whatever the input. It has no conditions. -/
import Derived.Test.YtnncnbplnapodaaRRRLimbs5
import Derived.Test.YtnncnbplnapodaaRRRLaw
namespace Go.Proofs.YtnncnbplnapodaaRRR
open Go.Eng Go.ChangeShapes Go.WideShapes Go.ChangeAt Go.RowKit
set_option maxRecDepth 1000000
set_option maxHeartbeats 4000000
set_option linter.unusedSimpArgs false
set_option linter.unusedVariables false

def sumsL (N : Ap) : Pure := [(17, addF N), (18, addF N), (19, subF N), (20, subF N), (21, cmpF N), (22, cmpF N), (23, trueF), (24, trueF)]

theorem sumsL_ok : ∀ p ∈ sumsL apStd, Con Try.prog p.1 p.2 := by
  intro p hp
  simp only [sumsL, List.mem_cons, List.not_mem_nil, or_false] at hp
  rcases hp with rfl | rfl | rfl | rfl | rfl | rfl | rfl | rfl
  · exact con_limbsAdd
  · exact con_refAdd
  · exact con_limbsSub
  · exact con_refSub
  · exact con_limbsCmp
  · exact con_refCmp
  · exact con_long
  · exact con_awake

theorem sums_vc (A : Ar) (N : Ap) (L : LP) (a0 a1 a2 a3 b0 b1 b2 b3 : Int) (hA : A = std) (K : Bool → SV → List Blk → Prop) (hK : K = FinP (.bool true)) :
    Hides (afun (cx A L (sumsL N)) Try.f3 [wordsV a0 a1 a2 a3, wordsV b0 b1 b2 b3] [] K) := by
  apply Hides.mk
  have he : ∀ x, A.icmp .eql x x = true := fun x => by subst hA; simp [std, icmp]
  obtain ⟨fi, fc, fw⟩ := A
  simp only at he
  cbv
  repeat (simp only [he, beq_self_eq_true]; cbv)
  refine fin_of hK ?_ ?_ ?_ <;> cbv

theorem sums_step (a0 a1 a2 a3 b0 b1 b2 b3 : Int) : ∃ C, Eng.Good Try.prog C 0 ∧ C.gl = [] ∧ codeOk C Try.f3.ntmps (Try.f3.body.getD .skip) = true ∧ 2 ≤ Try.f3.ntmps ∧
    Hides (afun C Try.f3 [wordsV a0 a1 a2 a3, wordsV b0 b1 b2 b3] [] (FinP (.bool true))) :=
  ⟨_, good sumsL_ok, rfl, by kernel_rfl, Nat.le_of_ble_eq_true rfl, sums_vc std apStd (ALoop 0) a0 a1 a2 a3 b0 b1 b2 b3 rfl (FinP (.bool true)) rfl⟩

theorem sums_lifted (os : Os) (started : os.Started) (H : Type) (enc : TypeId × Value → H) :
    ReturnsInHanded {} Try.checked os 3 .any (Rows.limbsSumsSpec.pre6 enc Try.prog Try.f3 Rows.limbsSumsRow.domain false) (Rows.limbsSumsSpec.post enc Try.prog Try.f3 false true false false) :=
  lifted_of Rows.limbsSumsSpec Rows.limbsSumsRow Try.func3 (tb := 4) (by kernel_rfl) Try.underlying4 rfl
    (by
      intro H ds h
      match ds, h with
      | [d1, d2], _ => rfl) (by kernel_rfl) os started H enc (by kernel_rfl)
    (ChangeSpec.witness6 (enc := enc) (C := Try.checked) false ⟨#[], #[.agg #[.int .u64 0, .int .u64 0, .int .u64 0, .int .u64 0], .agg #[.int .u64 0, .int .u64 0, .int .u64 0, .int .u64 0]], []⟩ 8 (by kernel_rfl) (by kernel_rfl) (by kernel_rfl) (by kernel_rfl))
    (fun W base args ds ps hval hA => walk_two Try.func3 (c := Try.f3.body.getD .skip) (by kernel_rfl) (by kernel_rfl) Try.underlying24 (by kernel_rfl) (by kernel_rfl) (by kernel_rfl) (fun a0 a1 a2 a3 b0 b1 b2 b3 _ _ => sums_step a0 a1 a2 a3 b0 b1 b2 b3) W base args ds ps hval hA)

theorem LimbsSums_proved : Rows.LimbsSumsSaid :=
  OpenClaim.holds_of_wide 3 Try.f3 rfl rfl rfl rfl rfl rfl rfl ⟨rfl, rfl, rfl, rfl, rfl⟩ rfl rfl rfl rfl rfl (by kernel_rfl) Try.func3 (by kernel_rfl)
    (of_decide_eq_true (by kernel_rfl)) (by unfold Func.isWrapper; first | (rw [if_pos (by decide +kernel)]; kernel_rfl) | (rw [if_neg (by decide +kernel)]; exact ⟨rfl, rfl⟩))
    (fun os started H enc _ => sums_lifted os started H enc)

end Go.Proofs.YtnncnbplnapodaaRRR
