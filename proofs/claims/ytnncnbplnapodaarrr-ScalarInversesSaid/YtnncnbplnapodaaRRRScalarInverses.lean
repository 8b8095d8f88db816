/- The law ScalarInverses hands back true, whatever the input. It has no conditions. -/
import Derived.Test.YtnncnbplnapodaaRRRScal3
import Derived.Test.YtnncnbplnapodaaRRRScal5
import Derived.Test.YtnncnbplnapodaaRRRLaw2
import Derived.Test.YtnncnbplnapodaaRRRNum8
namespace Go.Proofs.YtnncnbplnapodaaRRR
open Go.Eng Go.ChangeShapes Go.WideShapes Go.ChangeAt Go.RowKit
set_option maxRecDepth 1000000
set_option maxHeartbeats 4000000
set_option linter.unusedSimpArgs false
set_option linter.unusedVariables false

def scalarInversesL (A : Ar) (N : Ap) (Q : Int) : Pure := [(36, sinv N Q), (37, sadd N Q), (38, sinv N Q), (33, smul N Q), (35, nul0F (.bool true))]

theorem scalarInversesL_ok : ∀ p ∈ scalarInversesL std apStd qN, Con Try.prog p.1 p.2 := by
  intro p hp
  simp only [scalarInversesL, List.mem_cons, List.not_mem_nil, or_false] at hp
  rcases hp with rfl | rfl | rfl | rfl | rfl
  · exact con_sInv
  · exact con_sAdd
  · exact con_rInv
  · exact con_sMul
  · exact con_sAwake

theorem scalarInverses_vc (A : Ar) (N : Ap) (L : LP) (Q : Int) (a0 a1 a2 a3 : Int) (hA : A = std) (hN : N = apStd) (hQ : Q = qN) (ha : W a0 ∧ W a1 ∧ W a2 ∧ W a3) (K : Bool → SV → List Blk → Prop) (hK : K = FinP (.bool true)) :
    Hides (afun (cx A L (scalarInversesL A N Q)) Try.f9 [wordsV a0 a1 a2 a3] [] K) := by
  have he : ∀ x, A.icmp .eql x x = true := fun x => by subst hA; simp [std, icmp]
  have hne : ∀ x, A.icmp .neq x x = false := fun x => by subst hA; simp [std, icmp]
  have ra := num4_range ha.1 ha.2.1 ha.2.2.1 ha.2.2.2
  have hq : Q = qN ∨ Q = pN := by rw [hQ]; exact .inl rfl
  have sz := sadd_zero hq ra
  obtain ⟨i1, i2⟩ := inv_laws hq ra
  have z0 : ap1 N l0 0 = 0 := by subst hN; rfl
  have z1 : ap1 N l1 0 = 0 := by subst hN; rfl
  have z2 : ap1 N l2 0 = 0 := by subst hN; rfl
  have z3 : ap1 N l3 0 = 0 := by subst hN; rfl
  have o0 : ap1 N l0 1 = 1 := by subst hN; rfl
  have o1 : ap1 N l1 1 = 0 := by subst hN; rfl
  have o2 : ap1 N l2 1 = 0 := by subst hN; rfl
  have o3 : ap1 N l3 1 = 0 := by subst hN; rfl
  by_cases hs : cutN Q (num4 a0 a1 a2 a3) = 0
  · have i1 := i1 hs
    have e0 : ap2 N (saddN Q) (n4 N a0 a1 a2 a3) (n4 N 0 0 0 0) = 0 := by subst hN; exact sz.trans hs
    have e1 : ap1 N (sinvN Q) (n4 N a0 a1 a2 a3) = 0 := by subst hN; exact i1
    have e2 : ap1 N (sinvOk Q) (n4 N a0 a1 a2 a3) = true := by
      subst hN
      show decide (0 ≤ sinvN Q (num4 a0 a1 a2 a3)) = true
      rw [i1]; rfl
    clear sz i1 i2
    simp only [n4, ap1, ap2, ap4] at e0 e1 e2 z0 z1 z2 z3 o0 o1 o2 o3
    obtain ⟨fi, fc, fw, fq, fn, fo, fs, ft, fu, fz⟩ := A
    (try simp only at he hne e0 e1 e2)
    apply Hides.mk
    cbv
    repeat (simp only [he, hne, e0, e1, e2, z0, z1, z2, z3, o0, o1, o2, o3, beq_self_eq_true]; cbv)
    refine fin_of hK ?_ ?_ ?_ <;> (try simp only [he, hne, e0, e1, e2, z0, z1, z2, z3, o0, o1, o2, o3, beq_self_eq_true]) <;> cbv
  · obtain ⟨i3, i4, i5, i6, i7⟩ := i2 hs
    clear i1 i2
    obtain ⟨s, hs'⟩ : ∃ s, cutN Q (num4 a0 a1 a2 a3) = s := ⟨_, rfl⟩
    obtain ⟨i, hi'⟩ : ∃ i, sinvN Q (num4 a0 a1 a2 a3) = i := ⟨_, rfl⟩
    have ri : 0 ≤ i ∧ i < M256 := by
      have := (qp_range hq).2.1
      rw [hi'] at i3 i4; exact ⟨i3, by omega⟩
    have rs : 0 ≤ s ∧ s < M256 := by rw [← hs']; exact cut_in ra
    rw [hs'] at sz hs i7
    rw [hi'] at i3 i4 i5 i6 i7
    have e0 : ap2 N (saddN Q) (n4 N a0 a1 a2 a3) (n4 N 0 0 0 0) = s := by subst hN; exact sz
    have e1 : ap1 N (sinvN Q) (n4 N a0 a1 a2 a3) = i := by subst hN; exact hi'
    have e2 : ap1 N (sinvOk Q) (n4 N a0 a1 a2 a3) = true := by
      subst hN
      show decide (0 ≤ sinvN Q (num4 a0 a1 a2 a3)) = true
      rw [hi']; simpa using i3
    have e3 : ap2 N (smulN Q) (n4 N a0 a1 a2 a3) (n4l N i) = 1 := by
      subst hN; rw [n4l_std ri]; exact i5
    have e4 : ap1 N (sinvN Q) (n4l N i) = s := by
      subst hN; rw [n4l_std ri]; exact i7
    have e5 : ap1 N (sinvOk Q) (n4l N i) = true := by
      subst hN; rw [n4l_std ri]
      show decide (0 ≤ sinvN Q i) = true
      simpa using i6
    have cases4 : A.icmp .eql (ap1 N l0 s) 0 = false ∨ (A.icmp .eql (ap1 N l0 s) 0 = true ∧ A.icmp .eql (ap1 N l1 s) 0 = false) ∨ (A.icmp .eql (ap1 N l0 s) 0 = true ∧ A.icmp .eql (ap1 N l1 s) 0 = true ∧ A.icmp .eql (ap1 N l2 s) 0 = false) ∨
        (A.icmp .eql (ap1 N l0 s) 0 = true ∧ A.icmp .eql (ap1 N l1 s) 0 = true ∧ A.icmp .eql (ap1 N l2 s) 0 = true ∧ A.icmp .eql (ap1 N l3 s) 0 = false) := by
      subst hN; subst hA
      have := num4_mod rs
      simp only [std, icmp, ap1, apStd, beq_eq_false_iff_ne, beq_iff_eq]
      by_cases h0 : l0 s = 0
      · by_cases h1 : l1 s = 0
        · by_cases h2 : l2 s = 0
          · by_cases h3 : l3 s = 0
            · rw [h0, h1, h2, h3] at this
              exact absurd this.symm hs
            · exact .inr (.inr (.inr ⟨h0, h1, h2, h3⟩))
          · exact .inr (.inr (.inl ⟨h0, h1, h2⟩))
        · exact .inr (.inl ⟨h0, h1⟩)
      · exact .inl h0
    clear sz i3 i4 i5 i6 i7 ri rs hs hs' hi'
    simp only [n4, n4l, ap1, ap2, ap4] at e0 e1 e2 e3 e4 e5 cases4 z0 z1 z2 z3 o0 o1 o2 o3
    rcases cases4 with h0 | ⟨h0, h1⟩ | ⟨h0, h1, h2⟩ | ⟨h0, h1, h2, h3⟩
    · obtain ⟨fi, fc, fw, fq, fn, fo, fs, ft, fu, fz⟩ := A
      (try simp only at he hne e0 e1 e2 e3 e4 e5 h0)
      apply Hides.mk
      cbv
      repeat (simp only [he, hne, e0, e1, e2, e3, e4, e5, z0, z1, z2, z3, o0, o1, o2, o3, beq_self_eq_true, h0]; cbv)
      refine fin_of hK ?_ ?_ ?_ <;> (try simp only [he, hne, e0, e1, e2, e3, e4, e5, z0, z1, z2, z3, o0, o1, o2, o3, beq_self_eq_true, h0]) <;> cbv
    · obtain ⟨fi, fc, fw, fq, fn, fo, fs, ft, fu, fz⟩ := A
      (try simp only at he hne e0 e1 e2 e3 e4 e5 h0 h1)
      apply Hides.mk
      cbv
      repeat (simp only [he, hne, e0, e1, e2, e3, e4, e5, z0, z1, z2, z3, o0, o1, o2, o3, beq_self_eq_true, h0, h1]; cbv)
      refine fin_of hK ?_ ?_ ?_ <;> (try simp only [he, hne, e0, e1, e2, e3, e4, e5, z0, z1, z2, z3, o0, o1, o2, o3, beq_self_eq_true, h0, h1]) <;> cbv
    · obtain ⟨fi, fc, fw, fq, fn, fo, fs, ft, fu, fz⟩ := A
      (try simp only at he hne e0 e1 e2 e3 e4 e5 h0 h1 h2)
      apply Hides.mk
      cbv
      repeat (simp only [he, hne, e0, e1, e2, e3, e4, e5, z0, z1, z2, z3, o0, o1, o2, o3, beq_self_eq_true, h0, h1, h2]; cbv)
      refine fin_of hK ?_ ?_ ?_ <;> (try simp only [he, hne, e0, e1, e2, e3, e4, e5, z0, z1, z2, z3, o0, o1, o2, o3, beq_self_eq_true, h0, h1, h2]) <;> cbv
    · obtain ⟨fi, fc, fw, fq, fn, fo, fs, ft, fu, fz⟩ := A
      (try simp only at he hne e0 e1 e2 e3 e4 e5 h0 h1 h2 h3)
      apply Hides.mk
      cbv
      repeat (simp only [he, hne, e0, e1, e2, e3, e4, e5, z0, z1, z2, z3, o0, o1, o2, o3, beq_self_eq_true, h0, h1, h2, h3]; cbv)
      refine fin_of hK ?_ ?_ ?_ <;> (try simp only [he, hne, e0, e1, e2, e3, e4, e5, z0, z1, z2, z3, o0, o1, o2, o3, beq_self_eq_true, h0, h1, h2, h3]) <;> cbv

theorem scalarInverses_step (ss : List SV) (h : PK.fits [.num] ss) : ∃ C, Eng.Good Try.prog C 0 ∧ C.gl = [] ∧ codeOk C Try.f9.ntmps (Try.f9.body.getD .skip) = true ∧ ss.length ≤ Try.f9.ntmps ∧
    Hides (afun C Try.f9 ss [] (FinP (.bool true))) := by
  obtain ⟨_, _, rfl, ⟨a0, a1, a2, a3, rfl, _, wa⟩⟩ := PK.fits1 h
  exact ⟨_, good scalarInversesL_ok, rfl, by kernel_rfl, Nat.le_of_ble_eq_true rfl, scalarInverses_vc std apStd (ALoop 0) qN a0 a1 a2 a3 rfl rfl rfl wa (FinP (.bool true)) rfl⟩

theorem scalarInverses_lifted (os : Os) (started : os.Started) (H : Type) (enc : TypeId × Value → H) :
    ReturnsInHanded {} Try.checked os 9 .any (Rows.scalarInversesSpec.pre6 enc Try.prog Try.f9 Rows.scalarInversesRow.domain false) (Rows.scalarInversesSpec.post enc Try.prog Try.f9 false true false false) :=
  lifted_of Rows.scalarInversesSpec Rows.scalarInversesRow Try.func9 (tb := 4) (by kernel_rfl) Try.underlying4 rfl
    (by
      intro H ds h
      match ds, h with
      | [d1], _ => rfl) (by kernel_rfl) os started H enc (by kernel_rfl)
    (ChangeSpec.witness6 (enc := enc) (C := Try.checked) false ⟨#[], #[.agg #[.int .u64 0, .int .u64 0, .int .u64 0, .int .u64 0]], []⟩ 8 (by kernel_rfl) (by kernel_rfl) (by kernel_rfl) (by kernel_rfl))
    (fun W base args ds ps hval hA => walk_gen Try.func9 (c := Try.f9.body.getD .skip) (by kernel_rfl) [.num] (ts := [24]) (by kernel_rfl)
      ⟨⟨_, Try.underlying24, by kernel_rfl, by kernel_rfl, by kernel_rfl⟩, trivial⟩ scalarInverses_step W base args ds ps hval hA)

theorem ScalarInverses_proved : Rows.ScalarInversesSaid :=
  OpenClaim.holds_of_wide 9 Try.f9 rfl rfl rfl rfl rfl rfl rfl ⟨rfl, rfl, rfl, rfl, rfl⟩ rfl rfl rfl rfl rfl (by kernel_rfl) Try.func9 (by kernel_rfl)
    (of_decide_eq_true (by kernel_rfl)) (by unfold Func.isWrapper; first | (rw [if_pos (by decide +kernel)]; kernel_rfl) | (rw [if_neg (by decide +kernel)]; exact ⟨rfl, rfl⟩))
    (fun os started H enc _ => scalarInverses_lifted os started H enc)

end Go.Proofs.YtnncnbplnapodaaRRR
