/- The law LimbsProducts hands back true, whatever the input. It has no conditions. -/
import Derived.Test.YtnncnbplnapodaaRRRLimbs5
import Derived.Test.YtnncnbplnapodaaRRRLimbs6
import Derived.Test.YtnncnbplnapodaaRRRLaw2
namespace Go.Proofs.YtnncnbplnapodaaRRR
open Go.Eng Go.ChangeShapes Go.WideShapes Go.ChangeAt Go.RowKit
set_option maxRecDepth 1000000
set_option maxHeartbeats 4000000
set_option linter.unusedSimpArgs false
set_option linter.unusedVariables false

def limbsProductsL (A : Ar) (N : Ap) (Q : Int) : Pure := [(25, mulF N), (26, mulF N), (23, trueF), (24, trueF)]

theorem limbsProductsL_ok : ∀ p ∈ limbsProductsL std apStd qN, Con Try.prog p.1 p.2 := by
  intro p hp
  simp only [limbsProductsL, List.mem_cons, List.not_mem_nil, or_false] at hp
  rcases hp with rfl | rfl | rfl | rfl
  · exact con_limbsMul
  · exact con_refMul
  · exact con_long
  · exact con_awake

theorem limbsProducts_vc (A : Ar) (N : Ap) (L : LP) (Q : Int) (a0 a1 a2 a3 : Int) (b0 b1 b2 b3 : Int) (hA : A = std) (hN : N = apStd) (hQ : Q = qN) (ha : W a0 ∧ W a1 ∧ W a2 ∧ W a3) (hb : W b0 ∧ W b1 ∧ W b2 ∧ W b3) (K : Bool → SV → List Blk → Prop) (hK : K = FinP (.bool true)) :
    Hides (afun (cx A L (limbsProductsL A N Q)) Try.f4 [wordsV a0 a1 a2 a3, wordsV b0 b1 b2 b3] [] K) := by
  have he : ∀ x, A.icmp .eql x x = true := fun x => by subst hA; simp [std, icmp]
  have hne : ∀ x, A.icmp .neq x x = false := fun x => by subst hA; simp [std, icmp]
  obtain ⟨fi, fc, fw, fq, fn, fo, fs, ft, fu, fz⟩ := A
  simp only at he hne
  apply Hides.mk
  cbv
  repeat (simp only [he, hne, beq_self_eq_true]; cbv)
  refine fin_of hK ?_ ?_ ?_ <;> cbv

theorem limbsProducts_step (ss : List SV) (h : PK.fits [.num, .num] ss) : ∃ C, Eng.Good Try.prog C 0 ∧ C.gl = [] ∧ codeOk C Try.f4.ntmps (Try.f4.body.getD .skip) = true ∧ ss.length ≤ Try.f4.ntmps ∧
    Hides (afun C Try.f4 ss [] (FinP (.bool true))) := by
  obtain ⟨_, _, _, _, rfl, ⟨a0, a1, a2, a3, rfl, _, wa⟩, ⟨b0, b1, b2, b3, rfl, _, wb⟩⟩ := PK.fits2 h
  exact ⟨_, good limbsProductsL_ok, rfl, by kernel_rfl, Nat.le_of_ble_eq_true rfl, limbsProducts_vc std apStd (ALoop 0) qN a0 a1 a2 a3 b0 b1 b2 b3 rfl rfl rfl wa wb (FinP (.bool true)) rfl⟩

theorem limbsProducts_lifted (os : Os) (started : os.Started) (H : Type) (enc : TypeId × Value → H) :
    ReturnsInHanded {} Try.checked os 4 .any (Rows.limbsProductsSpec.pre6 enc Try.prog Try.f4 Rows.limbsProductsRow.domain false) (Rows.limbsProductsSpec.post enc Try.prog Try.f4 false true false false) :=
  lifted_of Rows.limbsProductsSpec Rows.limbsProductsRow Try.func4 (tb := 4) (by kernel_rfl) Try.underlying4 rfl
    (by
      intro H ds h
      match ds, h with
      | [d1, d2], _ => rfl) (by kernel_rfl) os started H enc (by kernel_rfl)
    (ChangeSpec.witness6 (enc := enc) (C := Try.checked) false ⟨#[], #[.agg #[.int .u64 0, .int .u64 0, .int .u64 0, .int .u64 0], .agg #[.int .u64 0, .int .u64 0, .int .u64 0, .int .u64 0]], []⟩ 8 (by kernel_rfl) (by kernel_rfl) (by kernel_rfl) (by kernel_rfl))
    (fun W base args ds ps hval hA => walk_gen Try.func4 (c := Try.f4.body.getD .skip) (by kernel_rfl) [.num, .num] (ts := [24, 24]) (by kernel_rfl)
      ⟨⟨_, Try.underlying24, by kernel_rfl, by kernel_rfl, by kernel_rfl⟩, ⟨_, Try.underlying24, by kernel_rfl, by kernel_rfl, by kernel_rfl⟩, trivial⟩ limbsProducts_step W base args ds ps hval hA)

theorem LimbsProducts_proved : Rows.LimbsProductsSaid :=
  OpenClaim.holds_of_wide 4 Try.f4 rfl rfl rfl rfl rfl rfl rfl ⟨rfl, rfl, rfl, rfl, rfl⟩ rfl rfl rfl rfl rfl (by kernel_rfl) Try.func4 (by kernel_rfl)
    (of_decide_eq_true (by kernel_rfl)) (by unfold Func.isWrapper; first | (rw [if_pos (by decide +kernel)]; kernel_rfl) | (rw [if_neg (by decide +kernel)]; exact ⟨rfl, rfl⟩))
    (fun os started H enc _ => limbsProducts_lifted os started H enc)

end Go.Proofs.YtnncnbplnapodaaRRR
