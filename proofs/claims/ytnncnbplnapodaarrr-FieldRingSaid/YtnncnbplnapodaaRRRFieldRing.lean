/- The law FieldRing hands back true, whatever the input. It has no conditions. -/
import Derived.Test.YtnncnbplnapodaaRRRFld3
import Derived.Test.YtnncnbplnapodaaRRRLaw2
import Derived.Test.YtnncnbplnapodaaRRRNum7
namespace Go.Proofs.YtnncnbplnapodaaRRR
open Go.Eng Go.ChangeShapes Go.WideShapes Go.ChangeAt Go.RowKit
set_option maxRecDepth 1000000
set_option maxHeartbeats 4000000
set_option linter.unusedSimpArgs false
set_option linter.unusedVariables false

def fieldRingL (A : Ar) (N : Ap) (Q : Int) : Pure := [(48, sadd N Q), (50, ssub N Q), (57, smul N Q), (52, sval N Q), (56, nul0F (.bool true))]

theorem fieldRingL_ok : ∀ p ∈ fieldRingL std apStd pN, Con Try.prog p.1 p.2 := by
  intro p hp
  simp only [fieldRingL, List.mem_cons, List.not_mem_nil, or_false] at hp
  rcases hp with rfl | rfl | rfl | rfl | rfl
  · exact con_fAdd
  · exact con_fSub
  · exact con_fMul
  · exact con_fValid
  · exact con_fAwake

theorem fieldRing_vc (A : Ar) (N : Ap) (L : LP) (Q : Int) (a0 a1 a2 a3 : Int) (b0 b1 b2 b3 : Int) (c0 c1 c2 c3 : Int) (hA : A = std) (hN : N = apStd) (hQ : Q = pN) (ha : W a0 ∧ W a1 ∧ W a2 ∧ W a3) (hb : W b0 ∧ W b1 ∧ W b2 ∧ W b3) (hc : W c0 ∧ W c1 ∧ W c2 ∧ W c3) (K : Bool → SV → List Blk → Prop) (hK : K = FinP (.bool true)) :
    Hides (afun (cx A L (fieldRingL A N Q)) Try.f15 [wordsV a0 a1 a2 a3, wordsV b0 b1 b2 b3, wordsV c0 c1 c2 c3] [] K) := by
  have he : ∀ x, A.icmp .eql x x = true := fun x => by subst hA; simp [std, icmp]
  have hne : ∀ x, A.icmp .neq x x = false := fun x => by subst hA; simp [std, icmp]
  have ra := num4_range ha.1 ha.2.1 ha.2.2.1 ha.2.2.2
  have rb := num4_range hb.1 hb.2.1 hb.2.2.1 hb.2.2.2
  have rc := num4_range hc.1 hc.2.1 hc.2.2.1 hc.2.2.2
  have hq : Q = qN ∨ Q = pN := by rw [hQ]; exact .inr rfl
  obtain ⟨i1, i2, i3, i4, i5, i6, i7⟩ := ring_laws (M := Q) hq ra rb rc
  have e1 : ap2 N (smulN Q) (n4 N a0 a1 a2 a3) (n4l N (ap2 N (saddN Q) (n4 N b0 b1 b2 b3) (n4 N c0 c1 c2 c3))) = ap2 N (saddN Q) (n4l N (ap2 N (smulN Q) (n4 N a0 a1 a2 a3) (n4 N b0 b1 b2 b3))) (n4l N (ap2 N (smulN Q) (n4 N a0 a1 a2 a3) (n4 N c0 c1 c2 c3))) := by
    subst hN
    simp only [n4_std, n4l_std (sadd_in _ _ _), n4l_std (smul_in hq _ _), ap2_std]
    exact i1
  have e2 : ap2 N (smulN Q) (n4l N (ap2 N (smulN Q) (n4 N a0 a1 a2 a3) (n4 N b0 b1 b2 b3))) (n4 N c0 c1 c2 c3) = ap2 N (smulN Q) (n4 N a0 a1 a2 a3) (n4l N (ap2 N (smulN Q) (n4 N b0 b1 b2 b3) (n4 N c0 c1 c2 c3))) := by
    subst hN
    simp only [n4_std, n4l_std (smul_in hq _ _), ap2_std]
    exact i2
  have e3 : ap2 N (ssubN Q) (n4l N (ap2 N (saddN Q) (n4 N a0 a1 a2 a3) (n4 N b0 b1 b2 b3))) (n4 N b0 b1 b2 b3) = ap2 N (saddN Q) (n4 N a0 a1 a2 a3) (n4 N 0 0 0 0) := by
    subst hN
    simp only [n4_std, n4l_std (sadd_in _ _ _), ap2_std]
    exact i3
  have e4 : ap2 N (saddN Q) (n4 N b0 b1 b2 b3) (n4 N a0 a1 a2 a3) = ap2 N (saddN Q) (n4 N a0 a1 a2 a3) (n4 N b0 b1 b2 b3) := by
    subst hN
    simp only [n4_std, ap2_std]
    exact i4
  have e5 : ap1 N (fun a => ltb a Q) (n4l N (ap2 N (saddN Q) (n4l N (ap2 N (smulN Q) (n4 N a0 a1 a2 a3) (n4 N b0 b1 b2 b3))) (n4l N (ap2 N (smulN Q) (n4 N a0 a1 a2 a3) (n4 N c0 c1 c2 c3))))) = true := by
    subst hN
    simp only [n4_std, n4l_std (sadd_in _ _ _), n4l_std (smul_in hq _ _), ap2_std, ap1_std]
    exact i5
  have e6 : ap1 N (fun a => ltb a Q) (n4l N (ap2 N (smulN Q) (n4 N a0 a1 a2 a3) (n4l N (ap2 N (smulN Q) (n4 N b0 b1 b2 b3) (n4 N c0 c1 c2 c3))))) = true := by
    subst hN
    simp only [n4_std, n4l_std (smul_in hq _ _), ap2_std, ap1_std]
    exact i6
  have e7 : ap1 N (fun a => ltb a Q) (n4l N (ap2 N (saddN Q) (n4 N a0 a1 a2 a3) (n4 N 0 0 0 0))) = true := by
    subst hN
    simp only [n4_std, n4l_std (sadd_in _ _ _), ap2_std, ap1_std]
    exact i7
  simp only [n4, n4l, ap1, ap2, ap4] at e1 e2 e3 e4 e5 e6 e7
  obtain ⟨fi, fc, fw, fq, fn, fo, fs, ft, fu, fz⟩ := A
  simp only at he hne
  apply Hides.mk
  cbv
  repeat (simp only [he, hne, e1, e2, e3, e4, e5, e6, e7, beq_self_eq_true]; cbv)
  refine fin_of hK ?_ ?_ ?_ <;> cbv

theorem fieldRing_step (ss : List SV) (h : PK.fits [.num, .num, .num] ss) : ∃ C, Eng.Good Try.prog C 0 ∧ C.gl = [] ∧ codeOk C Try.f15.ntmps (Try.f15.body.getD .skip) = true ∧ ss.length ≤ Try.f15.ntmps ∧
    Hides (afun C Try.f15 ss [] (FinP (.bool true))) := by
  obtain ⟨_, _, _, _, _, _, rfl, ⟨a0, a1, a2, a3, rfl, _, wa⟩, ⟨b0, b1, b2, b3, rfl, _, wb⟩, ⟨c0, c1, c2, c3, rfl, _, wc⟩⟩ := PK.fits3 h
  exact ⟨_, good fieldRingL_ok, rfl, by kernel_rfl, Nat.le_of_ble_eq_true rfl, fieldRing_vc std apStd (ALoop 0) pN a0 a1 a2 a3 b0 b1 b2 b3 c0 c1 c2 c3 rfl rfl rfl wa wb wc (FinP (.bool true)) rfl⟩

theorem fieldRing_lifted (os : Os) (started : os.Started) (H : Type) (enc : TypeId × Value → H) :
    ReturnsInHanded {} Try.checked os 15 .any (Rows.fieldRingSpec.pre6 enc Try.prog Try.f15 Rows.fieldRingRow.domain false) (Rows.fieldRingSpec.post enc Try.prog Try.f15 false true false false) :=
  lifted_of Rows.fieldRingSpec Rows.fieldRingRow Try.func15 (tb := 4) (by kernel_rfl) Try.underlying4 rfl
    (by
      intro H ds h
      match ds, h with
      | [d1, d2, d3], _ => rfl) (by kernel_rfl) os started H enc (by kernel_rfl)
    (ChangeSpec.witness6 (enc := enc) (C := Try.checked) false ⟨#[], #[.agg #[.int .u64 0, .int .u64 0, .int .u64 0, .int .u64 0], .agg #[.int .u64 0, .int .u64 0, .int .u64 0, .int .u64 0], .agg #[.int .u64 0, .int .u64 0, .int .u64 0, .int .u64 0]], []⟩ 8 (by kernel_rfl) (by kernel_rfl) (by kernel_rfl) (by kernel_rfl))
    (fun W base args ds ps hval hA => walk_gen Try.func15 (c := Try.f15.body.getD .skip) (by kernel_rfl) [.num, .num, .num] (ts := [24, 24, 24]) (by kernel_rfl)
      ⟨⟨_, Try.underlying24, by kernel_rfl, by kernel_rfl, by kernel_rfl⟩, ⟨_, Try.underlying24, by kernel_rfl, by kernel_rfl, by kernel_rfl⟩, ⟨_, Try.underlying24, by kernel_rfl, by kernel_rfl, by kernel_rfl⟩, trivial⟩ fieldRing_step W base args ds ps hval hA)

theorem FieldRing_proved : Rows.FieldRingSaid :=
  OpenClaim.holds_of_wide 15 Try.f15 rfl rfl rfl rfl rfl rfl rfl ⟨rfl, rfl, rfl, rfl, rfl⟩ rfl rfl rfl rfl rfl (by kernel_rfl) Try.func15 (by kernel_rfl)
    (of_decide_eq_true (by kernel_rfl)) (by unfold Func.isWrapper; first | (rw [if_pos (by decide +kernel)]; kernel_rfl) | (rw [if_neg (by decide +kernel)]; exact ⟨rfl, rfl⟩))
    (fun os started H enc _ => fieldRing_lifted os started H enc)

end Go.Proofs.YtnncnbplnapodaaRRR
