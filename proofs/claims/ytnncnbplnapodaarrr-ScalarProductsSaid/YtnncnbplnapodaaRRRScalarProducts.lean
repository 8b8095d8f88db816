/- The law ScalarProducts hands back true, whatever the input. It has no conditions. -/
import Derived.Test.YtnncnbplnapodaaRRRScal3
import Derived.Test.YtnncnbplnapodaaRRRScal7
import Derived.Test.YtnncnbplnapodaaRRRLaw2
namespace Go.Proofs.YtnncnbplnapodaaRRR
open Go.Eng Go.ChangeShapes Go.WideShapes Go.ChangeAt Go.RowKit
set_option maxRecDepth 1000000
set_option maxHeartbeats 4000000
set_option linter.unusedSimpArgs false
set_option linter.unusedVariables false

def scalarProductsL (A : Ar) (N : Ap) (Q : Int) : Pure := [(33, smul N Q), (34, smul N Q), (35, nul0F (.bool true))]

theorem scalarProductsL_ok : ∀ p ∈ scalarProductsL std apStd qN, Con Try.prog p.1 p.2 := by
  intro p hp
  simp only [scalarProductsL, List.mem_cons, List.not_mem_nil, or_false] at hp
  rcases hp with rfl | rfl | rfl
  · exact con_sMul
  · exact con_srMul
  · exact con_sAwake

theorem scalarProducts_vc (A : Ar) (N : Ap) (L : LP) (Q : Int) (a0 a1 a2 a3 : Int) (b0 b1 b2 b3 : Int) (hA : A = std) (hN : N = apStd) (hQ : Q = qN) (ha : W a0 ∧ W a1 ∧ W a2 ∧ W a3) (hb : W b0 ∧ W b1 ∧ W b2 ∧ W b3) (K : Bool → SV → List Blk → Prop) (hK : K = FinP (.bool true)) :
    Hides (afun (cx A L (scalarProductsL A N Q)) Try.f8 [wordsV a0 a1 a2 a3, wordsV b0 b1 b2 b3] [] K) := by
  have he : ∀ x, A.icmp .eql x x = true := fun x => by subst hA; simp [std, icmp]
  have hne : ∀ x, A.icmp .neq x x = false := fun x => by subst hA; simp [std, icmp]
  obtain ⟨fi, fc, fw, fq, fn, fo, fs, ft, fu, fz⟩ := A
  simp only at he hne
  apply Hides.mk
  cbv
  repeat (simp only [he, hne, beq_self_eq_true]; cbv)
  refine fin_of hK ?_ ?_ ?_ <;> cbv

theorem scalarProducts_step (ss : List SV) (h : PK.fits [.num, .num] ss) : ∃ C, Eng.Good Try.prog C 0 ∧ C.gl = [] ∧ codeOk C Try.f8.ntmps (Try.f8.body.getD .skip) = true ∧ ss.length ≤ Try.f8.ntmps ∧
    Hides (afun C Try.f8 ss [] (FinP (.bool true))) := by
  obtain ⟨_, _, _, _, rfl, ⟨a0, a1, a2, a3, rfl, _, wa⟩, ⟨b0, b1, b2, b3, rfl, _, wb⟩⟩ := PK.fits2 h
  exact ⟨_, good scalarProductsL_ok, rfl, by kernel_rfl, Nat.le_of_ble_eq_true rfl, scalarProducts_vc std apStd (ALoop 0) qN a0 a1 a2 a3 b0 b1 b2 b3 rfl rfl rfl wa wb (FinP (.bool true)) rfl⟩

theorem scalarProducts_lifted (os : Os) (started : os.Started) (H : Type) (enc : TypeId × Value → H) :
    ReturnsInHanded {} Try.checked os 8 .any (Rows.scalarProductsSpec.pre6 enc Try.prog Try.f8 Rows.scalarProductsRow.domain false) (Rows.scalarProductsSpec.post enc Try.prog Try.f8 false true false false) :=
  lifted_of Rows.scalarProductsSpec Rows.scalarProductsRow Try.func8 (tb := 4) (by kernel_rfl) Try.underlying4 rfl
    (by
      intro H ds h
      match ds, h with
      | [d1, d2], _ => rfl) (by kernel_rfl) os started H enc (by kernel_rfl)
    (ChangeSpec.witness6 (enc := enc) (C := Try.checked) false ⟨#[], #[.agg #[.int .u64 0, .int .u64 0, .int .u64 0, .int .u64 0], .agg #[.int .u64 0, .int .u64 0, .int .u64 0, .int .u64 0]], []⟩ 8 (by kernel_rfl) (by kernel_rfl) (by kernel_rfl) (by kernel_rfl))
    (fun W base args ds ps hval hA => walk_gen Try.func8 (c := Try.f8.body.getD .skip) (by kernel_rfl) [.num, .num] (ts := [24, 24]) (by kernel_rfl)
      ⟨⟨_, Try.underlying24, by kernel_rfl, by kernel_rfl, by kernel_rfl⟩, ⟨_, Try.underlying24, by kernel_rfl, by kernel_rfl, by kernel_rfl⟩, trivial⟩ scalarProducts_step W base args ds ps hval hA)

theorem ScalarProducts_proved : Rows.ScalarProductsSaid :=
  OpenClaim.holds_of_wide 8 Try.f8 rfl rfl rfl rfl rfl rfl rfl ⟨rfl, rfl, rfl, rfl, rfl⟩ rfl rfl rfl rfl rfl (by kernel_rfl) Try.func8 (by kernel_rfl)
    (of_decide_eq_true (by kernel_rfl)) (by unfold Func.isWrapper; first | (rw [if_pos (by decide +kernel)]; kernel_rfl) | (rw [if_neg (by decide +kernel)]; exact ⟨rfl, rfl⟩))
    (fun os started H enc _ => scalarProducts_lifted os started H enc)

end Go.Proofs.YtnncnbplnapodaaRRR
