/- The law LimbsBack of the limbs package hands back true, whatever the input. It has no conditions. -/
import Derived.Test.YtnncnbplnapodaaRRRLimbs5
import Derived.Test.YtnncnbplnapodaaRRRLaw2
import Derived.Test.YtnncnbplnapodaaRRRNum3
namespace Go.Proofs.YtnncnbplnapodaaRRR
open Go.Eng Go.ChangeShapes Go.WideShapes Go.ChangeAt Go.RowKit
set_option maxRecDepth 1000000
set_option maxHeartbeats 4000000
set_option linter.unusedSimpArgs false
set_option linter.unusedVariables false

def backL (A : Ar) (N : Ap) : Pure := [(17, addF N), (19, subF N), (27, fromF A N), (29, bytesF N), (21, cmpF N), (23, trueF), (24, trueF)]

theorem backL_ok : ∀ p ∈ backL std apStd, Con Try.prog p.1 p.2 := by
  intro p hp
  simp only [backL, List.mem_cons, List.not_mem_nil, or_false] at hp
  rcases hp with rfl | rfl | rfl | rfl | rfl | rfl | rfl
  · exact con_limbsAdd
  · exact con_limbsSub
  · exact con_limbsFrom
  · exact con_limbsBytes
  · exact con_limbsCmp
  · exact con_long
  · exact con_awake

def n4 (N : Ap) (a0 a1 a2 a3 : Int) : Int := ap4 N num4 a0 a1 a2 a3
def n4l (N : Ap) (n : Int) : Int := ap4 N num4 (ap1 N l0 n) (ap1 N l1 n) (ap1 N l2 n) (ap1 N l3 n)

theorem back_vc (A : Ar) (N : Ap) (L : LP) (a0 a1 a2 a3 b0 b1 b2 b3 : Int) (hA : A = std) (hN : N = apStd) (ha : W a0 ∧ W a1 ∧ W a2 ∧ W a3) (hb : W b0 ∧ W b1 ∧ W b2 ∧ W b3) (K : Bool → SV → List Blk → Prop) (hK : K = FinP (.bool true)) :
    Hides (afun (cx A L (backL A N)) Try.f6 [wordsV a0 a1 a2 a3, wordsV b0 b1 b2 b3] [] K) := by
  apply Hides.mk
  have he : ∀ x, A.icmp .eql x x = true := fun x => by subst hA; simp [std, icmp]
  have ra := num4_range ha.1 ha.2.1 ha.2.2.1 ha.2.2.2
  have rb := num4_range hb.1 hb.2.1 hb.2.2.1 hb.2.2.2
  have sl := sum_less ra rb
  have sm := num4_mod (addm_range (num4 a0 a1 a2 a3) (num4 b0 b1 b2 b3))
  have ea := l_num4 ha.1 ha.2.1 ha.2.2.1 ha.2.2.2
  have d0 : ap1 N l0 (ap2 N subm (n4l N (ap2 N addm (n4 N a0 a1 a2 a3) (n4 N b0 b1 b2 b3))) (n4 N b0 b1 b2 b3)) = a0 := by
    subst hN; simp only [n4, n4l, ap1, ap2, ap4, apStd, sm, sl.1, ea]
  have d1 : ap1 N l1 (ap2 N subm (n4l N (ap2 N addm (n4 N a0 a1 a2 a3) (n4 N b0 b1 b2 b3))) (n4 N b0 b1 b2 b3)) = a1 := by
    subst hN; simp only [n4, n4l, ap1, ap2, ap4, apStd, sm, sl.1, ea]
  have d2 : ap1 N l2 (ap2 N subm (n4l N (ap2 N addm (n4 N a0 a1 a2 a3) (n4 N b0 b1 b2 b3))) (n4 N b0 b1 b2 b3)) = a2 := by
    subst hN; simp only [n4, n4l, ap1, ap2, ap4, apStd, sm, sl.1, ea]
  have d3 : ap1 N l3 (ap2 N subm (n4l N (ap2 N addm (n4 N a0 a1 a2 a3) (n4 N b0 b1 b2 b3))) (n4 N b0 b1 b2 b3)) = a3 := by
    subst hN; simp only [n4, n4l, ap1, ap2, ap4, apStd, sm, sl.1, ea]
  have dl : ap2 N ltb (n4l N (ap2 N addm (n4 N a0 a1 a2 a3) (n4 N b0 b1 b2 b3))) (n4 N b0 b1 b2 b3) = ap2 N addc (n4 N a0 a1 a2 a3) (n4 N b0 b1 b2 b3) := by
    subst hN; simp only [n4, n4l, ap1, ap2, ap4, apStd, sm, sl.2.1]
  have dc : A.icmp .lss (ap2 N cmpI (n4l N (ap2 N addm (n4 N a0 a1 a2 a3) (n4 N b0 b1 b2 b3))) (n4 N a0 a1 a2 a3)) 0 = ap2 N addc (n4 N a0 a1 a2 a3) (n4 N b0 b1 b2 b3) := by
    subst hA; subst hN; simp only [std, icmp, n4, n4l, ap1, ap2, ap4, apStd, sm, sl.2.2]
  have fb := from_bytes ra
  have f0 : ap1 N l0 (ap1 N fromN (ap1 N bytesN (n4 N a0 a1 a2 a3))) = a0 := by
    subst hN; simp only [n4, ap1, ap4, apStd, fb, ea]
  have f1 : ap1 N l1 (ap1 N fromN (ap1 N bytesN (n4 N a0 a1 a2 a3))) = a1 := by
    subst hN; simp only [n4, ap1, ap4, apStd, fb, ea]
  have f2 : ap1 N l2 (ap1 N fromN (ap1 N bytesN (n4 N a0 a1 a2 a3))) = a2 := by
    subst hN; simp only [n4, ap1, ap4, apStd, fb, ea]
  have f3 : ap1 N l3 (ap1 N fromN (ap1 N bytesN (n4 N a0 a1 a2 a3))) = a3 := by
    subst hN; simp only [n4, ap1, ap4, apStd, fb, ea]
  have fe : ap1 N fromE (ap1 N bytesN (n4 N a0 a1 a2 a3)) = 0 := by
    subst hN; simp only [n4, ap1, ap4, apStd, fromE_bytes]
  have fl : A.icmp .leq (A.ofNat (A.size (ap1 N bytesN (n4 N a0 a1 a2 a3)))) 9223372036854775807 = true := by
    subst hA; subst hN; simp only [std, icmp, n4, ap1, ap4, apStd, size_bytesN]; decide
  simp only [n4, n4l, ap1, ap2, ap4] at d0 d1 d2 d3 dl dc f0 f1 f2 f3 fe fl
  obtain ⟨fi, fc, fw, fq, fn, fo, fs, ft, fu, fz⟩ := A
  simp only at he dc fl
  cbv
  repeat (simp only [he, d0, d1, d2, d3, dl, dc, f0, f1, f2, f3, fe, fl, beq_self_eq_true]; cbv)
  refine fin_of hK ?_ ?_ ?_ <;> cbv

theorem back_step (ss : List SV) (h : PK.fits [.num, .num] ss) : ∃ C, Eng.Good Try.prog C 0 ∧ C.gl = [] ∧ codeOk C Try.f6.ntmps (Try.f6.body.getD .skip) = true ∧ ss.length ≤ Try.f6.ntmps ∧
    Hides (afun C Try.f6 ss [] (FinP (.bool true))) := by
  obtain ⟨_, _, _, _, rfl, ⟨a0, a1, a2, a3, rfl, _, wa⟩, ⟨b0, b1, b2, b3, rfl, _, wb⟩⟩ := PK.fits2 h
  exact ⟨_, good backL_ok, rfl, by kernel_rfl, Nat.le_of_ble_eq_true rfl, back_vc std apStd (ALoop 0) a0 a1 a2 a3 b0 b1 b2 b3 rfl rfl wa wb (FinP (.bool true)) rfl⟩

theorem back_lifted (os : Os) (started : os.Started) (H : Type) (enc : TypeId × Value → H) :
    ReturnsInHanded {} Try.checked os 6 .any (Rows.limbsBackSpec.pre6 enc Try.prog Try.f6 Rows.limbsBackRow.domain false) (Rows.limbsBackSpec.post enc Try.prog Try.f6 false true false false) :=
  lifted_of Rows.limbsBackSpec Rows.limbsBackRow Try.func6 (tb := 4) (by kernel_rfl) Try.underlying4 rfl
    (by
      intro H ds h
      match ds, h with
      | [d1, d2], _ => rfl) (by kernel_rfl) os started H enc (by kernel_rfl)
    (ChangeSpec.witness6 (enc := enc) (C := Try.checked) false ⟨#[], #[.agg #[.int .u64 0, .int .u64 0, .int .u64 0, .int .u64 0], .agg #[.int .u64 0, .int .u64 0, .int .u64 0, .int .u64 0]], []⟩ 8 (by kernel_rfl) (by kernel_rfl) (by kernel_rfl) (by kernel_rfl))
    (fun W base args ds ps hval hA => walk_gen Try.func6 (c := Try.f6.body.getD .skip) (by kernel_rfl) [.num, .num] (ts := [24, 24]) (by kernel_rfl)
      ⟨⟨_, Try.underlying24, by kernel_rfl, by kernel_rfl, by kernel_rfl⟩, ⟨_, Try.underlying24, by kernel_rfl, by kernel_rfl, by kernel_rfl⟩, trivial⟩ back_step W base args ds ps hval hA)

theorem LimbsBack_proved : Rows.LimbsBackSaid :=
  OpenClaim.holds_of_wide 6 Try.f6 rfl rfl rfl rfl rfl rfl rfl ⟨rfl, rfl, rfl, rfl, rfl⟩ rfl rfl rfl rfl rfl (by kernel_rfl) Try.func6 (by kernel_rfl)
    (of_decide_eq_true (by kernel_rfl)) (by unfold Func.isWrapper; first | (rw [if_pos (by decide +kernel)]; kernel_rfl) | (rw [if_neg (by decide +kernel)]; exact ⟨rfl, rfl⟩))
    (fun os started H enc _ => back_lifted os started H enc)

end Go.Proofs.YtnncnbplnapodaaRRR
