/- The law LimbsParts of the limbs package hands back true, whatever the input. It has no conditions. -/
import Derived.Test.YtnncnbplnapodaaRRRLimbs5
import Derived.Test.YtnncnbplnapodaaRRRLaw2
import Derived.Test.YtnncnbplnapodaaRRRNum4
namespace Go.Proofs.YtnncnbplnapodaaRRR
open Go.Eng Go.ChangeShapes Go.WideShapes Go.ChangeAt Go.RowKit
set_option maxRecDepth 1000000
set_option maxHeartbeats 4000000
set_option linter.unusedSimpArgs false
set_option linter.unusedVariables false

def partsL (A : Ar) (N : Ap) : Pure := [(17, addF N), (25, mulF N), (23, trueF), (24, trueF)]

theorem partsL_ok : ∀ p ∈ partsL std apStd, Con Try.prog p.1 p.2 := by
  intro p hp
  simp only [partsL, List.mem_cons, List.not_mem_nil, or_false] at hp
  rcases hp with rfl | rfl | rfl | rfl
  · exact con_limbsAdd
  · exact con_limbsMul
  · exact con_long
  · exact con_awake

def n4 (N : Ap) (a0 a1 a2 a3 : Int) : Int := ap4 N num4 a0 a1 a2 a3
def n4l (N : Ap) (n : Int) : Int := ap4 N num4 (ap1 N l0 n) (ap1 N l1 n) (ap1 N l2 n) (ap1 N l3 n)

theorem parts_vc (A : Ar) (N : Ap) (L : LP) (a0 a1 a2 a3 b0 b1 b2 b3 c0 c1 c2 c3 : Int) (hA : A = std) (hN : N = apStd) (ha : W a0 ∧ W a1 ∧ W a2 ∧ W a3) (hb : W b0 ∧ W b1 ∧ W b2 ∧ W b3) (hc : W c0 ∧ W c1 ∧ W c2 ∧ W c3) (K : Bool → SV → List Blk → Prop) (hK : K = FinP (.bool true)) :
    Hides (afun (cx A L (partsL A N)) Try.f7 [wordsV a0 a1 a2 a3, wordsV b0 b1 b2 b3, wordsV c0 c1 c2 c3] [] K) := by
  have he : ∀ x, A.icmp .eql x x = true := fun x => by subst hA; simp [std, icmp]
  have hne : ∀ x, A.icmp .neq x x = false := fun x => by subst hA; simp [std, icmp]
  have ra := num4_range ha.1 ha.2.1 ha.2.2.1 ha.2.2.2
  have rb := num4_range hb.1 hb.2.1 hb.2.2.1 hb.2.2.2
  have rc := num4_range hc.1 hc.2.1 hc.2.2.1 hc.2.2.2
  have pl := parts_law ra rb rc
  have m1 : ap2 N mulm (n4 N b0 b1 b2 b3) (n4 N a0 a1 a2 a3) = ap2 N mulm (n4 N a0 a1 a2 a3) (n4 N b0 b1 b2 b3) := by
    subst hN; exact mulm_comm _ _
  have m2 : ap2 N mulh (n4 N b0 b1 b2 b3) (n4 N a0 a1 a2 a3) = ap2 N mulh (n4 N a0 a1 a2 a3) (n4 N b0 b1 b2 b3) := by
    subst hN; exact mulh_comm _ _
  have k1 : ap2 N addc (n4 N b0 b1 b2 b3) (n4 N c0 c1 c2 c3) = false → ap2 N addm (n4l N (ap2 N mulm (n4 N a0 a1 a2 a3) (n4 N b0 b1 b2 b3))) (n4l N (ap2 N mulm (n4 N a0 a1 a2 a3) (n4 N c0 c1 c2 c3))) = ap2 N mulm (n4 N a0 a1 a2 a3) (n4l N (ap2 N addm (n4 N b0 b1 b2 b3) (n4 N c0 c1 c2 c3))) := by
    subst hN; intro h
    simp only [n4, n4l, ap1, ap2, ap4, apStd, num4_mod (mulm_range _ _), num4_mod (addm_range _ _)] at h ⊢
    exact (pl h).1
  have k2 : ap2 N addc (n4 N b0 b1 b2 b3) (n4 N c0 c1 c2 c3) = false → ap2 N addc (n4l N (ap2 N mulh (n4 N a0 a1 a2 a3) (n4 N b0 b1 b2 b3))) (n4l N (ap2 N mulh (n4 N a0 a1 a2 a3) (n4 N c0 c1 c2 c3))) = false := by
    subst hN; intro h
    simp only [n4, n4l, ap1, ap2, ap4, apStd, num4_mod (mulh_range ra rb), num4_mod (mulh_range ra rc)] at h ⊢
    exact (pl h).2.1
  have k3 : ap2 N addc (n4 N b0 b1 b2 b3) (n4 N c0 c1 c2 c3) = false → ap2 N addc (n4l N (ap2 N mulm (n4 N a0 a1 a2 a3) (n4 N b0 b1 b2 b3))) (n4l N (ap2 N mulm (n4 N a0 a1 a2 a3) (n4 N c0 c1 c2 c3))) = false →
      ap2 N addm (n4l N (ap2 N mulh (n4 N a0 a1 a2 a3) (n4 N b0 b1 b2 b3))) (n4l N (ap2 N mulh (n4 N a0 a1 a2 a3) (n4 N c0 c1 c2 c3))) = ap2 N mulh (n4 N a0 a1 a2 a3) (n4l N (ap2 N addm (n4 N b0 b1 b2 b3) (n4 N c0 c1 c2 c3))) := by
    subst hN; intro h h'
    simp only [n4, n4l, ap1, ap2, ap4, apStd, num4_mod (mulm_range _ _), num4_mod (addm_range _ _), num4_mod (mulh_range ra rb), num4_mod (mulh_range ra rc)] at h h' ⊢
    exact (pl h).2.2.1 h'
  have k4 : ap2 N addc (n4 N b0 b1 b2 b3) (n4 N c0 c1 c2 c3) = false → ap2 N addc (n4l N (ap2 N mulm (n4 N a0 a1 a2 a3) (n4 N b0 b1 b2 b3))) (n4l N (ap2 N mulm (n4 N a0 a1 a2 a3) (n4 N c0 c1 c2 c3))) = true →
      ap2 N addm (n4l N (ap2 N addm (n4l N (ap2 N mulh (n4 N a0 a1 a2 a3) (n4 N b0 b1 b2 b3))) (n4l N (ap2 N mulh (n4 N a0 a1 a2 a3) (n4 N c0 c1 c2 c3))))) (n4 N 1 0 0 0) = ap2 N mulh (n4 N a0 a1 a2 a3) (n4l N (ap2 N addm (n4 N b0 b1 b2 b3) (n4 N c0 c1 c2 c3))) ∧
      ap2 N addc (n4l N (ap2 N addm (n4l N (ap2 N mulh (n4 N a0 a1 a2 a3) (n4 N b0 b1 b2 b3))) (n4l N (ap2 N mulh (n4 N a0 a1 a2 a3) (n4 N c0 c1 c2 c3))))) (n4 N 1 0 0 0) = false := by
    subst hN; intro h h'
    simp only [n4, n4l, ap1, ap2, ap4, apStd, num4_mod (mulm_range _ _), num4_mod (addm_range _ _), num4_mod (mulh_range ra rb), num4_mod (mulh_range ra rc)] at h h' ⊢
    exact (pl h).2.2.2 h'
  obtain ⟨p1, q1⟩ : ∃ x, ap2 N addc (n4 N b0 b1 b2 b3) (n4 N c0 c1 c2 c3) = x := ⟨_, rfl⟩
  obtain ⟨p2, q2⟩ : ∃ x, ap2 N addc (n4l N (ap2 N mulm (n4 N a0 a1 a2 a3) (n4 N b0 b1 b2 b3))) (n4l N (ap2 N mulm (n4 N a0 a1 a2 a3) (n4 N c0 c1 c2 c3))) = x := ⟨_, rfl⟩
  simp only [n4, n4l, ap1, ap2, ap4] at m1 m2 k1 k2 k3 k4 q1 q2
  obtain ⟨fi, fc, fw, fq, fn, fo, fs, ft, fu, fz⟩ := A
  simp only at he hne
  cases p1 with
  | true =>
    clear k1 k2 k3 k4
    apply Hides.mk
    cbv
    repeat (simp only [he, hne, m1, m2, q1, beq_self_eq_true]; cbv)
    refine fin_of hK ?_ ?_ ?_ <;> cbv
  | false =>
    have k1 := k1 q1
    have k2 := k2 q1
    have k3 := k3 q1
    have k4 := k4 q1
    cases p2 with
    | false =>
      have k3 := k3 q2
      clear k4
      apply Hides.mk
      cbv
      repeat (simp only [he, hne, m1, m2, q1, q2, k1, k2, k3, beq_self_eq_true]; cbv)
      refine fin_of hK ?_ ?_ ?_ <;> cbv
    | true =>
      obtain ⟨k4, k5⟩ := k4 q2
      clear k3
      apply Hides.mk
      cbv
      repeat (simp only [he, hne, m1, m2, q1, q2, k1, k2, k4, k5, beq_self_eq_true]; cbv)
      refine fin_of hK ?_ ?_ ?_ <;> cbv

theorem parts_step (ss : List SV) (h : PK.fits [.num, .num, .num] ss) : ∃ C, Eng.Good Try.prog C 0 ∧ C.gl = [] ∧ codeOk C Try.f7.ntmps (Try.f7.body.getD .skip) = true ∧ ss.length ≤ Try.f7.ntmps ∧
    Hides (afun C Try.f7 ss [] (FinP (.bool true))) := by
  obtain ⟨_, _, _, _, _, _, rfl, ⟨a0, a1, a2, a3, rfl, _, wa⟩, ⟨b0, b1, b2, b3, rfl, _, wb⟩, ⟨c0, c1, c2, c3, rfl, _, wc⟩⟩ := PK.fits3 h
  exact ⟨_, good partsL_ok, rfl, by kernel_rfl, Nat.le_of_ble_eq_true rfl, parts_vc std apStd (ALoop 0) a0 a1 a2 a3 b0 b1 b2 b3 c0 c1 c2 c3 rfl rfl wa wb wc (FinP (.bool true)) rfl⟩

theorem parts_lifted (os : Os) (started : os.Started) (H : Type) (enc : TypeId × Value → H) :
    ReturnsInHanded {} Try.checked os 7 .any (Rows.limbsPartsSpec.pre6 enc Try.prog Try.f7 Rows.limbsPartsRow.domain false) (Rows.limbsPartsSpec.post enc Try.prog Try.f7 false true false false) :=
  lifted_of Rows.limbsPartsSpec Rows.limbsPartsRow Try.func7 (tb := 4) (by kernel_rfl) Try.underlying4 rfl
    (by
      intro H ds h
      match ds, h with
      | [d1, d2, d3], _ => rfl) (by kernel_rfl) os started H enc (by kernel_rfl)
    (ChangeSpec.witness6 (enc := enc) (C := Try.checked) false ⟨#[], #[.agg #[.int .u64 0, .int .u64 0, .int .u64 0, .int .u64 0], .agg #[.int .u64 0, .int .u64 0, .int .u64 0, .int .u64 0], .agg #[.int .u64 0, .int .u64 0, .int .u64 0, .int .u64 0]], []⟩ 8 (by kernel_rfl) (by kernel_rfl) (by kernel_rfl) (by kernel_rfl))
    (fun W base args ds ps hval hA => walk_gen Try.func7 (c := Try.f7.body.getD .skip) (by kernel_rfl) [.num, .num, .num] (ts := [24, 24, 24]) (by kernel_rfl)
      ⟨⟨_, Try.underlying24, by kernel_rfl, by kernel_rfl, by kernel_rfl⟩, ⟨_, Try.underlying24, by kernel_rfl, by kernel_rfl, by kernel_rfl⟩, ⟨_, Try.underlying24, by kernel_rfl, by kernel_rfl, by kernel_rfl⟩, trivial⟩ parts_step W base args ds ps hval hA)

theorem LimbsParts_proved : Rows.LimbsPartsSaid :=
  OpenClaim.holds_of_wide 7 Try.f7 rfl rfl rfl rfl rfl rfl rfl ⟨rfl, rfl, rfl, rfl, rfl⟩ rfl rfl rfl rfl rfl (by kernel_rfl) Try.func7 (by kernel_rfl)
    (of_decide_eq_true (by kernel_rfl)) (by unfold Func.isWrapper; first | (rw [if_pos (by decide +kernel)]; kernel_rfl) | (rw [if_neg (by decide +kernel)]; exact ⟨rfl, rfl⟩))
    (fun os started H enc _ => parts_lifted os started H enc)

end Go.Proofs.YtnncnbplnapodaaRRR
