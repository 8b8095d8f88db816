/- The law FieldSquares hands back true, whatever the input. It has no conditions. -/
import Derived.Test.YtnncnbplnapodaaRRRFld3
import Derived.Test.YtnncnbplnapodaaRRRLaw2
import Derived.Test.YtnncnbplnapodaaRRRNum9
namespace Go.Proofs.YtnncnbplnapodaaRRR
open Go.Eng Go.ChangeShapes Go.WideShapes Go.ChangeAt Go.RowKit
set_option maxRecDepth 1000000
set_option maxHeartbeats 4000000
set_option linter.unusedSimpArgs false
set_option linter.unusedVariables false

def fieldSquaresL (A : Ar) (N : Ap) (Q : Int) : Pure := [(58, sqrtF N), (57, smul N Q), (50, ssub N Q), (48, sadd N Q), (56, nul0F (.bool true))]

theorem fieldSquaresL_ok : ∀ p ∈ fieldSquaresL std apStd pN, Con Try.prog p.1 p.2 := by
  intro p hp
  simp only [fieldSquaresL, List.mem_cons, List.not_mem_nil, or_false] at hp
  rcases hp with rfl | rfl | rfl | rfl | rfl
  · exact con_fSqrt
  · exact con_fMul
  · exact con_fSub
  · exact con_fAdd
  · exact con_fAwake

theorem fieldSquares_vc (A : Ar) (N : Ap) (L : LP) (Q : Int) (a0 a1 a2 a3 : Int) (hA : A = std) (hN : N = apStd) (hQ : Q = pN) (ha : W a0 ∧ W a1 ∧ W a2 ∧ W a3) (K : Bool → SV → List Blk → Prop) (hK : K = FinP (.bool true)) :
    Hides (afun (cx A L (fieldSquaresL A N Q)) Try.f16 [wordsV a0 a1 a2 a3] [] K) := by
  have he : ∀ x, A.icmp .eql x x = true := fun x => by subst hA; simp [std, icmp]
  have hne : ∀ x, A.icmp .neq x x = false := fun x => by subst hA; simp [std, icmp]
  have ra := num4_range ha.1 ha.2.1 ha.2.2.1 ha.2.2.2
  have hq : Q = qN ∨ Q = pN := by rw [hQ]; exact .inr rfl
  have sz := sadd_zero hq ra
  obtain ⟨i1, i2⟩ := square_laws ra
  rw [← hQ] at i1 i2
  have z0 : ap1 N l0 0 = 0 := by subst hN; rfl
  have z1 : ap1 N l1 0 = 0 := by subst hN; rfl
  have z2 : ap1 N l2 0 = 0 := by subst hN; rfl
  have z3 : ap1 N l3 0 = 0 := by subst hN; rfl
  obtain ⟨m, hm⟩ : ∃ m, smulN Q (num4 a0 a1 a2 a3) (num4 a0 a1 a2 a3) = m := ⟨_, rfl⟩
  have rm : 0 ≤ m ∧ m < M256 := by rw [← hm]; exact smul_in hq _ _
  rw [hm] at i1 i2
  have e1 : ap2 N (smulN Q) (n4 N a0 a1 a2 a3) (n4 N a0 a1 a2 a3) = m := by subst hN; exact hm
  have zz : num4 0 0 0 0 = 0 := by decide
  by_cases hs : cutN Q (num4 a0 a1 a2 a3) = 0
  · obtain ⟨i3, i4, i5⟩ := i1 hs
    have e2 : ap1 N rootB (n4l N m) = true := by subst hN; rw [n4l_std rm]; exact i3
    have e3 : ap1 N rootV (n4l N m) = 0 := by subst hN; rw [n4l_std rm]; exact i4
    have e4 : ap2 N (ssubN Q) (n4 N 0 0 0 0) (n4 N a0 a1 a2 a3) = 0 := by subst hN; rw [n4_std, zz]; exact i5
    have e5 : ap2 N (saddN Q) (n4 N a0 a1 a2 a3) (n4 N 0 0 0 0) = 0 := by subst hN; exact sz.trans hs
    have e6 : A.icmp .neq (A.iop .and .u64 0 1) 0 = false := by subst hA; rfl
    clear sz i1 i2 i3 i4 i5
    simp only [n4, n4l, ap1, ap2, ap4] at e1 e2 e3 e4 e5 e6 z0 z1 z2 z3
    obtain ⟨fi, fc, fw, fq, fn, fo, fs, ft, fu, fz⟩ := A
    (try simp only at he hne e6)
    apply Hides.mk
    cbv
    repeat (simp only [he, hne, e1, e2, e3, e4, e5, e6, z0, z1, z2, z3, beq_self_eq_true]; cbv)
    refine fin_of hK ?_ ?_ ?_ <;> (try simp only [he, hne, e1, e2, e3, e4, e5, e6, z0, z1, z2, z3]) <;> cbv
  · obtain ⟨i3, i4, i5, i6, i7, i8⟩ := i2 hs
    obtain ⟨c, hc⟩ : ∃ c, cutN Q (num4 a0 a1 a2 a3) = c := ⟨_, rfl⟩
    obtain ⟨o, ho⟩ : ∃ o, ssubN Q 0 (num4 a0 a1 a2 a3) = o := ⟨_, rfl⟩
    obtain ⟨x, hx⟩ : ∃ x, rootV m = x := ⟨_, rfl⟩
    obtain ⟨b, hb⟩ : ∃ b, rootB (num4 a0 a1 a2 a3) = b := ⟨_, rfl⟩
    have rx : 0 ≤ x ∧ x < M256 := by rw [← hx]; exact root_range m
    have ro : 0 ≤ o ∧ o < M256 := by rw [← ho]; exact ssub_in _ _ _
    have rc : 0 ≤ c ∧ c < M256 := by rw [← hc]; exact cut_in ra
    rw [hc] at sz i6 i7
    rw [ho] at i5 i6 i7 i8
    rw [hx] at i4 i7
    rw [hb] at i8
    have e2 : ap1 N rootB (n4l N m) = true := by subst hN; rw [n4l_std rm]; exact i3
    have e3 : ap1 N rootV (n4l N m) = x := by subst hN; rw [n4l_std rm]; exact hx
    have e4 : ap2 N (ssubN Q) (n4 N 0 0 0 0) (n4 N a0 a1 a2 a3) = o := by subst hN; rw [n4_std, zz]; exact ho
    have e5 : ap2 N (saddN Q) (n4 N a0 a1 a2 a3) (n4 N 0 0 0 0) = c := by subst hN; exact sz
    have e6 : A.icmp .neq (A.iop .and .u64 (ap1 N l0 x) 1) 0 = false := by
      subst hA; subst hN
      have := and_mask (l0_w x) 1 (by omega)
      rw [show ((2 : Int) ^ 1 - 1) = 1 from rfl, show ((2 : Int) ^ 1) = 2 from rfl] at this
      have h2 : l0 x % 2 = 0 := by unfold l0; omega
      rw [h2] at this
      simp [std, icmp, ap1_std, this]
    have e7 : ap1 N rootB (n4 N a0 a1 a2 a3) = b := by subst hN; exact hb
    have e8 : ap1 N rootB (n4l N o) = !b := by subst hN; rw [n4l_std ro]; exact i8
    have q1 : ∀ p : Bool, (A.icmp .eql (ap1 N l0 o) 0 && (A.icmp .eql (ap1 N l1 o) 0 && (A.icmp .eql (ap1 N l2 o) 0 && A.icmp .eql (ap1 N l3 o) 0))) = p → p = false := by
      intro p h
      subst hA; subst hN
      have := num4_is ⟨l0_w o, l1_w o, l2_w o, l3_w o⟩ (.inl rfl) h
      rw [num4_mod ro] at this
      simpa [i5] using this
    have q2 : ∀ p : Bool, (A.icmp .eql (ap1 N l0 c) (ap1 N l0 o) && (A.icmp .eql (ap1 N l1 c) (ap1 N l1 o) && (A.icmp .eql (ap1 N l2 c) (ap1 N l2 o) && A.icmp .eql (ap1 N l3 c) (ap1 N l3 o)))) = p → p = false := by
      intro p h
      subst hA; subst hN
      cases p with
      | false => rfl
      | true =>
        exfalso
        simp only [std, icmp, ap1_std, Bool.and_eq_true, beq_iff_eq] at h
        obtain ⟨h0, h1, h2, h3⟩ := h
        apply i6
        rw [← num4_mod ro, ← num4_mod rc, h0, h1, h2, h3]
    clear sz i1 i2 i3 i4 i5 i6 i8 rx ro rc rm hs hc ho hx hb
    simp only [n4, n4l, ap1, ap2, ap4] at e1 e2 e3 e4 e5 e6 e7 e8 z0 z1 z2 z3 q1 q2
    rcases i7 with rfl | rfl
    · obtain ⟨fi, fc, fw, fq, fn, fo, fs, ft, fu, fz⟩ := A
      (try simp only at he hne e6 q1 q2)
      apply Hides.mk
      cbv
      repeat (simp only [he, hne, e1, e2, e3, e4, e5, e6, e7, e8, z0, z1, z2, z3, beq_self_eq_true]; cbv)
      split <;> rename_i e
      · exfalso
        exact absurd (q1 _ (and4_of e)) (by simp)
      · simp only [e]
        cbv
        cases b
        · repeat (simp only [he, hne, e1, e2, e3, e4, e5, e6, e7, e8, z0, z1, z2, z3, beq_self_eq_true]; cbv)
          refine fin_of hK ?_ ?_ ?_ <;> (try simp only [he, hne, e1, e2, e3, e4, e5, e6, e7, e8, z0, z1, z2, z3, beq_self_eq_true]) <;> cbv
        · repeat (simp only [he, hne, e1, e2, e3, e4, e5, e6, e7, e8, z0, z1, z2, z3, beq_self_eq_true]; cbv)
          refine fin_of hK ?_ ?_ ?_ <;> (try simp only [he, hne, e1, e2, e3, e4, e5, e6, e7, e8, z0, z1, z2, z3, beq_self_eq_true]) <;> cbv
    · obtain ⟨fi, fc, fw, fq, fn, fo, fs, ft, fu, fz⟩ := A
      (try simp only at he hne e6 q1 q2)
      apply Hides.mk
      cbv
      repeat (simp only [he, hne, e1, e2, e3, e4, e5, e6, e7, e8, z0, z1, z2, z3, beq_self_eq_true]; cbv)
      split <;> rename_i e0
      · simp only [e0]
        cbv
        repeat (simp only [he, hne, e1, e2, e3, e4, e5, e6, e7, e8, z0, z1, z2, z3, beq_self_eq_true]; cbv)
        split <;> rename_i e
        · exfalso
          exact absurd (q1 _ (and4_of e)) (by simp)
        · simp only [e]
          cbv
          cases b
          · repeat (simp only [he, hne, e1, e2, e3, e4, e5, e6, e7, e8, z0, z1, z2, z3, beq_self_eq_true]; cbv)
            refine fin_of hK ?_ ?_ ?_ <;> (try simp only [he, hne, e1, e2, e3, e4, e5, e6, e7, e8, z0, z1, z2, z3, beq_self_eq_true]) <;> cbv
          · repeat (simp only [he, hne, e1, e2, e3, e4, e5, e6, e7, e8, z0, z1, z2, z3, beq_self_eq_true]; cbv)
            refine fin_of hK ?_ ?_ ?_ <;> (try simp only [he, hne, e1, e2, e3, e4, e5, e6, e7, e8, z0, z1, z2, z3, beq_self_eq_true]) <;> cbv
      · exfalso
        have := q2 _ (and4_of (not_of e0))
        simp at this

theorem fieldSquares_step (ss : List SV) (h : PK.fits [.num] ss) : ∃ C, Eng.Good Try.prog C 0 ∧ C.gl = [] ∧ codeOk C Try.f16.ntmps (Try.f16.body.getD .skip) = true ∧ ss.length ≤ Try.f16.ntmps ∧
    Hides (afun C Try.f16 ss [] (FinP (.bool true))) := by
  obtain ⟨_, _, rfl, ⟨a0, a1, a2, a3, rfl, _, wa⟩⟩ := PK.fits1 h
  exact ⟨_, good fieldSquaresL_ok, rfl, by kernel_rfl, Nat.le_of_ble_eq_true rfl, fieldSquares_vc std apStd (ALoop 0) pN a0 a1 a2 a3 rfl rfl rfl wa (FinP (.bool true)) rfl⟩

theorem fieldSquares_lifted (os : Os) (started : os.Started) (H : Type) (enc : TypeId × Value → H) :
    ReturnsInHanded {} Try.checked os 16 .any (Rows.fieldSquaresSpec.pre6 enc Try.prog Try.f16 Rows.fieldSquaresRow.domain false) (Rows.fieldSquaresSpec.post enc Try.prog Try.f16 false true false false) :=
  lifted_of Rows.fieldSquaresSpec Rows.fieldSquaresRow Try.func16 (tb := 4) (by kernel_rfl) Try.underlying4 rfl
    (by
      intro H ds h
      match ds, h with
      | [d1], _ => rfl) (by kernel_rfl) os started H enc (by kernel_rfl)
    (ChangeSpec.witness6 (enc := enc) (C := Try.checked) false ⟨#[], #[.agg #[.int .u64 0, .int .u64 0, .int .u64 0, .int .u64 0]], []⟩ 8 (by kernel_rfl) (by kernel_rfl) (by kernel_rfl) (by kernel_rfl))
    (fun W base args ds ps hval hA => walk_gen Try.func16 (c := Try.f16.body.getD .skip) (by kernel_rfl) [.num] (ts := [24]) (by kernel_rfl)
      ⟨⟨_, Try.underlying24, by kernel_rfl, by kernel_rfl, by kernel_rfl⟩, trivial⟩ fieldSquares_step W base args ds ps hval hA)

theorem FieldSquares_proved : Rows.FieldSquaresSaid :=
  OpenClaim.holds_of_wide 16 Try.f16 rfl rfl rfl rfl rfl rfl rfl ⟨rfl, rfl, rfl, rfl, rfl⟩ rfl rfl rfl rfl rfl (by kernel_rfl) Try.func16 (by kernel_rfl)
    (of_decide_eq_true (by kernel_rfl)) (by unfold Func.isWrapper; first | (rw [if_pos (by decide +kernel)]; kernel_rfl) | (rw [if_neg (by decide +kernel)]; exact ⟨rfl, rfl⟩))
    (fun os started H enc _ => fieldSquares_lifted os started H enc)

end Go.Proofs.YtnncnbplnapodaaRRR
