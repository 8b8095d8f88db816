/- Walks through the functions of the package scalar: sums, differences, products, inverses. It has no conditions. -/
import Derived.Test.YtnncnbplnapodaaRRRMont3
import Derived.Test.YtnncnbplnapodaaRRRNum6
namespace Go.Proofs.YtnncnbplnapodaaRRR
open Go.Eng Go.RowKit
set_option maxRecDepth 1000000
set_option maxHeartbeats 4000000
set_option linter.unusedSimpArgs false
set_option linter.unusedVariables false

def smV : SV := .agg [.num .u64 17562291160714782033, .num .u64 13611842547513532036, .num .u64 18446744073709551615, .num .u64 18446744069414584320, .num .u64 14758798090332847183, .num .u64 9449762124159643298, .num .u64 5087230966250696614, .num .u64 2901921493521525849, .num .u64 7413256579398063648]
def sqV : SV := .agg [.num .u64 17562291160714782033, .num .u64 13611842547513532036, .num .u64 18446744073709551615, .num .u64 18446744069414584320]
theorem slit : num4 17562291160714782033 13611842547513532036 18446744073709551615 18446744069414584320 = qN := by decide
theorem srr : num4 9449762124159643298 5087230966250696614 2901921493521525849 7413256579398063648 = rrOf qN := by decide

theorem sMod_vc (A : Ar) (L : LP) (v : SV) (K : Bool → SV → List Blk → Prop) (hK : K = FinP v) (hv : v = smV) : Shut (afun (cx A L []) Try.f64 [] [] K) := by
  apply Shut.mk
  cbv
  exact fin_of hK rfl rfl hv

theorem con_sMod : Con Try.prog 64 (nul0F smV) := by
  refine con_shut Try.func64 rfl (by kernel_rfl) (fun args v us hF hv => ?_) (fun args v hF => nul0F_ids hF)
  unfold nul0F at hF
  split at hF
  · simp only [Prod.mk.injEq, true_and] at hF
    exact ⟨_, _, good (l := []) (by simp), rfl, by kernel_rfl, hv, Nat.zero_le _, sMod_vc std (ALoop 0) v (FinP v) rfl hF.symm⟩
  · cases hF

theorem sOrder_vc (A : Ar) (L : LP) (v : SV) (K : Bool → SV → List Blk → Prop) (hK : K = FinP v) (hv : v = sqV) : Shut (afun (cx A L [(64, nul0F smV)]) Try.f47 [] [] K) := by
  apply Shut.mk
  cbv
  exact fin_of hK rfl rfl hv

theorem con_sOrder : Con Try.prog 47 (nul0F sqV) := by
  refine con_shut Try.func47 rfl (by kernel_rfl) (fun args v us hF hv => ?_) (fun args v hF => nul0F_ids hF)
  unfold nul0F at hF
  split at hF
  · simp only [Prod.mk.injEq, true_and] at hF
    exact ⟨_, _, good (l := [(64, nul0F smV)]) (by intro p hp; simp at hp; subst hp; exact con_sMod), rfl, by kernel_rfl, hv, Nat.zero_le _, sOrder_vc std (ALoop 0) v (FinP v) rfl hF.symm⟩
  · cases hF

theorem srOrder_vc (A : Ar) (L : LP) (v : SV) (K : Bool → SV → List Blk → Prop) (hK : K = FinP v) (hv : v = sqV) : Shut (afun (cx A L []) Try.f41 [] [] K) := by
  apply Shut.mk
  cbv
  exact fin_of hK rfl rfl hv

theorem con_srOrder : Con Try.prog 41 (nul0F sqV) := by
  refine con_shut Try.func41 rfl (by kernel_rfl) (fun args v us hF hv => ?_) (fun args v hF => nul0F_ids hF)
  unfold nul0F at hF
  split at hF
  · simp only [Prod.mk.injEq, true_and] at hF
    exact ⟨_, _, good (l := []) (by simp), rfl, by kernel_rfl, hv, Nat.zero_le _, srOrder_vc std (ALoop 0) v (FinP v) rfl hF.symm⟩
  · cases hF

theorem sValid_vc (A : Ar) (L : LP) (N : Ap) (a0 a1 a2 a3 : Int) (hL : L = ALoop 0) (hA : A = std) (hN : N = apStd) (ha : W a0 ∧ W a1 ∧ W a2 ∧ W a3) (v : SV) (K : Bool → SV → List Blk → Prop) (hK : K = FinP v) (hv : v = .bool (ltb (num4 a0 a1 a2 a3) qN)) :
    Shut (afun (cx A L [(64, nul0F smV), (76, validF N)]) Try.f45 [wordsV a0 a1 a2 a3] [] K) := by
  apply Shut.mk
  cbv
  subst hN; subst hv
  refine fin_of hK rfl rfl ?_
  simp only [apStd, slit]
  rfl

theorem con_sValid : Con Try.prog 45 (sval apStd qN) := by
  refine con_shut Try.func45 rfl (by kernel_rfl) (fun args v us hF hv => ?_) (fun args v hF => num1F_ids hF)
  unfold sval num1F at hF
  split at hF
  · split at hF
    · rename_i a ha
      simp only [Prod.mk.injEq, true_and, ap1_std] at hF
      obtain ⟨a0, a1, a2, a3, wa, rfl, hus⟩ := args_one ha hv
      exact ⟨_, _, good (l := [(64, nul0F smV), (76, validF apStd)]) (by intro p hp; simp only [List.mem_cons, List.not_mem_nil, or_false] at hp; rcases hp with rfl | rfl; exact con_sMod; exact con_valid), rfl, by kernel_rfl, hus, Nat.le_of_ble_eq_true rfl, sValid_vc std (ALoop 0) apStd a0 a1 a2 a3 rfl rfl rfl wa v (FinP v) rfl hF.symm⟩
    · cases hF
  · cases hF

theorem sAdd_vc (A : Ar) (L : LP) (N : Ap) (a0 a1 a2 a3 b0 b1 b2 b3 : Int) (hL : L = ALoop 0) (hA : A = std) (hN : N = apStd) (ha : W a0 ∧ W a1 ∧ W a2 ∧ W a3) (hb : W b0 ∧ W b1 ∧ W b2 ∧ W b3) (v : SV) (K : Bool → SV → List Blk → Prop) (hK : K = FinP v) (hv : v = numV apStd (saddN qN (num4 a0 a1 a2 a3) (num4 b0 b1 b2 b3))) :
    Shut (afun (cx A L [(64, nul0F smV), (69, cutF N), (70, maddF N)]) Try.f37 [wordsV a0 a1 a2 a3, wordsV b0 b1 b2 b3] [] K) := by
  apply Shut.mk
  cbv
  subst hN; subst hv
  refine fin_of hK rfl rfl ?_
  simp only [apStd, slit, num4_mod (cut_in (num4_range ha.1 ha.2.1 ha.2.2.1 ha.2.2.2)), num4_mod (cut_in (num4_range hb.1 hb.2.1 hb.2.2.1 hb.2.2.2))]
  rfl

theorem con_sAdd : Con Try.prog 37 (sadd apStd qN) := by
  refine con_shut Try.func37 rfl (by kernel_rfl) (fun args v us hF hv => ?_) (fun args v hF => num2F_ids hF)
  unfold sadd num2F at hF
  split at hF
  · split at hF
    · rename_i a b ha hb
      simp only [Prod.mk.injEq, true_and, ap2_std] at hF
      obtain ⟨a0, a1, a2, a3, b0, b1, b2, b3, wa, wb, rfl, rfl, hus⟩ := args_two ha hb hv
      exact ⟨_, _, good (l := [(64, nul0F smV), (69, cutF apStd), (70, maddF apStd)]) (by intro p hp; simp only [List.mem_cons, List.not_mem_nil, or_false] at hp; rcases hp with rfl | rfl | rfl; exact con_sMod; exact con_cut; exact con_madd), rfl, by kernel_rfl, hus, Nat.le_of_ble_eq_true rfl, sAdd_vc std (ALoop 0) apStd a0 a1 a2 a3 b0 b1 b2 b3 rfl rfl rfl wa wb v (FinP v) rfl hF.symm⟩
    · cases hF
  · cases hF

theorem sSub_vc (A : Ar) (L : LP) (N : Ap) (a0 a1 a2 a3 b0 b1 b2 b3 : Int) (hL : L = ALoop 0) (hA : A = std) (hN : N = apStd) (ha : W a0 ∧ W a1 ∧ W a2 ∧ W a3) (hb : W b0 ∧ W b1 ∧ W b2 ∧ W b3) (v : SV) (K : Bool → SV → List Blk → Prop) (hK : K = FinP v) (hv : v = numV apStd (ssubN qN (num4 a0 a1 a2 a3) (num4 b0 b1 b2 b3))) :
    Shut (afun (cx A L [(64, nul0F smV), (69, cutF N), (75, msubF N)]) Try.f43 [wordsV a0 a1 a2 a3, wordsV b0 b1 b2 b3] [] K) := by
  apply Shut.mk
  cbv
  subst hN; subst hv
  refine fin_of hK rfl rfl ?_
  simp only [apStd, slit, num4_mod (cut_in (num4_range ha.1 ha.2.1 ha.2.2.1 ha.2.2.2)), num4_mod (cut_in (num4_range hb.1 hb.2.1 hb.2.2.1 hb.2.2.2))]
  rfl

theorem con_sSub : Con Try.prog 43 (ssub apStd qN) := by
  refine con_shut Try.func43 rfl (by kernel_rfl) (fun args v us hF hv => ?_) (fun args v hF => num2F_ids hF)
  unfold ssub num2F at hF
  split at hF
  · split at hF
    · rename_i a b ha hb
      simp only [Prod.mk.injEq, true_and, ap2_std] at hF
      obtain ⟨a0, a1, a2, a3, b0, b1, b2, b3, wa, wb, rfl, rfl, hus⟩ := args_two ha hb hv
      exact ⟨_, _, good (l := [(64, nul0F smV), (69, cutF apStd), (75, msubF apStd)]) (by intro p hp; simp only [List.mem_cons, List.not_mem_nil, or_false] at hp; rcases hp with rfl | rfl | rfl; exact con_sMod; exact con_cut; exact con_msub), rfl, by kernel_rfl, hus, Nat.le_of_ble_eq_true rfl, sSub_vc std (ALoop 0) apStd a0 a1 a2 a3 b0 b1 b2 b3 rfl rfl rfl wa wb v (FinP v) rfl hF.symm⟩
    · cases hF
  · cases hF

theorem sMul_vc (A : Ar) (L : LP) (N : Ap) (a0 a1 a2 a3 b0 b1 b2 b3 : Int) (hL : L = ALoop 0) (hA : A = std) (hN : N = apStd) (ha : W a0 ∧ W a1 ∧ W a2 ∧ W a3) (hb : W b0 ∧ W b1 ∧ W b2 ∧ W b3) (v : SV) (K : Bool → SV → List Blk → Prop) (hK : K = FinP v) (hv : v = numV apStd (smulN qN (num4 a0 a1 a2 a3) (num4 b0 b1 b2 b3))) :
    Shut (afun (cx A L [(64, nul0F smV), (66, minF N), (65, mmulF N)]) Try.f33 [wordsV a0 a1 a2 a3, wordsV b0 b1 b2 b3] [] K) := by
  obtain ⟨g1, g2, g3, g4, g5⟩ := qp_range (M := qN) (.inl rfl)
  have hr : ∀ x y, 0 ≤ mmul qN x y ∧ mmul qN x y < qN := mmul_range (by omega)
  have hr2 : ∀ x y, 0 ≤ mmul qN x y ∧ mmul qN x y < M256 := fun x y => ⟨(hr x y).1, by have := (hr x y).2; omega⟩
  apply Shut.mk
  cbv
  subst hN; subst hv
  refine fin_of hK ?_ rfl ?_
  · simp only [apStd, slit, srr, num4_mod (hr2 _ _)]
    have k1 : mcond qN (num4 a0 a1 a2 a3) (rrOf qN) = true := by simp [mcond, g5]
    have k2 : ∀ y, mcond qN (mmul qN (num4 a0 a1 a2 a3) (rrOf qN)) y = true := fun y => by simp [mcond, (hr _ _).2]
    have k3 : okMod qN 14758798090332847183 = true := by decide
    simp only [k1, k2, k3]
    rfl
  · simp only [apStd, slit, srr, num4_mod (hr2 _ _), ← mmul_in (.inl rfl)]
    rfl

theorem con_sMul : Con Try.prog 33 (smul apStd qN) := by
  refine con_shut Try.func33 rfl (by kernel_rfl) (fun args v us hF hv => ?_) (fun args v hF => num2F_ids hF)
  unfold smul num2F at hF
  split at hF
  · split at hF
    · rename_i a b ha hb
      simp only [Prod.mk.injEq, true_and, ap2_std] at hF
      obtain ⟨a0, a1, a2, a3, b0, b1, b2, b3, wa, wb, rfl, rfl, hus⟩ := args_two ha hb hv
      exact ⟨_, _, good (l := [(64, nul0F smV), (66, minF apStd), (65, mmulF apStd)]) (by intro p hp; simp only [List.mem_cons, List.not_mem_nil, or_false] at hp; rcases hp with rfl | rfl | rfl; exact con_sMod; exact con_min; exact con_mmul), rfl, by kernel_rfl, hus, Nat.le_of_ble_eq_true rfl, sMul_vc std (ALoop 0) apStd a0 a1 a2 a3 b0 b1 b2 b3 rfl rfl rfl wa wb v (FinP v) rfl hF.symm⟩
    · cases hF
  · cases hF

theorem sInv_vc (A : Ar) (L : LP) (N : Ap) (a0 a1 a2 a3 : Int) (hL : L = ALoop 0) (hA : A = std) (hN : N = apStd) (ha : W a0 ∧ W a1 ∧ W a2 ∧ W a3) (hok : sinvOk qN (num4 a0 a1 a2 a3) = true) (v : SV) (K : Bool → SV → List Blk → Prop) (hK : K = FinP v) (hv : v = numV apStd (sinvN qN (num4 a0 a1 a2 a3))) :
    Shut (afun (cx A L [(64, nul0F smV), (69, cutF N), (68, minvF N)]) Try.f36 [wordsV a0 a1 a2 a3] [] K) := by
  apply Shut.mk
  cbv
  subst hN; subst hv
  refine fin_of hK ?_ rfl ?_
  · simp only [apStd, slit, num4_mod (cut_in (num4_range ha.1 ha.2.1 ha.2.2.1 ha.2.2.2))]
    simp only [sinvOk, sinvN] at hok
    have k : ∀ b : Bool, b = true → (match b with | false => false | true => true) = true := fun b h => by rw [h]
    exact k _ hok
  · simp only [apStd, slit, num4_mod (cut_in (num4_range ha.1 ha.2.1 ha.2.2.1 ha.2.2.2))]
    rfl

theorem con_sInv : Con Try.prog 36 (sinv apStd qN) := by
  refine con_shut Try.func36 rfl (by kernel_rfl) (fun args v us hF hv => ?_) (fun args v hF => num1F_ids hF)
  unfold sinv num1F at hF
  split at hF
  · split at hF
    · rename_i a ha
      simp only [Prod.mk.injEq, true_and, ap1_std] at hF
      obtain ⟨hok, hF⟩ := hF
      obtain ⟨a0, a1, a2, a3, wa, rfl, hus⟩ := args_one ha hv
      exact ⟨_, _, good (l := [(64, nul0F smV), (69, cutF apStd), (68, minvF apStd)]) (by intro p hp; simp only [List.mem_cons, List.not_mem_nil, or_false] at hp; rcases hp with rfl | rfl | rfl; exact con_sMod; exact con_cut; exact con_minv), rfl, by kernel_rfl, hus, Nat.le_of_ble_eq_true rfl, sInv_vc std (ALoop 0) apStd a0 a1 a2 a3 rfl rfl rfl wa hok v (FinP v) rfl hF.symm⟩
    · cases hF
  · cases hF

theorem srValid_vc (A : Ar) (L : LP) (N : Ap) (a0 a1 a2 a3 : Int) (hL : L = ALoop 0) (hA : A = std) (hN : N = apStd) (ha : W a0 ∧ W a1 ∧ W a2 ∧ W a3) (v : SV) (K : Bool → SV → List Blk → Prop) (hK : K = FinP v) (hv : v = .bool (ltb (num4 a0 a1 a2 a3) qN)) :
    Shut (afun (cx A L [(41, nul0F sqV), (22, cmpF N)]) Try.f46 [wordsV a0 a1 a2 a3] [] K) := by
  apply Shut.mk
  cbv
  subst hN; subst hv; subst hA
  refine fin_of hK rfl rfl ?_
  simp only [apStd, slit, ← cmp_ltb]
  rfl

theorem con_srValid : Con Try.prog 46 (sval apStd qN) := by
  refine con_shut Try.func46 rfl (by kernel_rfl) (fun args v us hF hv => ?_) (fun args v hF => num1F_ids hF)
  unfold sval num1F at hF
  split at hF
  · split at hF
    · rename_i a ha
      simp only [Prod.mk.injEq, true_and, ap1_std] at hF
      obtain ⟨a0, a1, a2, a3, wa, rfl, hus⟩ := args_one ha hv
      exact ⟨_, _, good (l := [(41, nul0F sqV), (22, cmpF apStd)]) (by intro p hp; simp only [List.mem_cons, List.not_mem_nil, or_false] at hp; rcases hp with rfl | rfl; exact con_srOrder; exact con_refCmp), rfl, by kernel_rfl, hus, Nat.le_of_ble_eq_true rfl, srValid_vc std (ALoop 0) apStd a0 a1 a2 a3 rfl rfl rfl wa v (FinP v) rfl hF.symm⟩
    · cases hF
  · cases hF

theorem srMod_vc (A : Ar) (L : LP) (N : Ap) (a0 a1 a2 a3 : Int) (hL : L = ALoop 0) (hA : A = std) (hN : N = apStd) (ha : W a0 ∧ W a1 ∧ W a2 ∧ W a3) (v : SV) (K : Bool → SV → List Blk → Prop) (hK : K = FinP v) (hv : v = numV apStd (cutN qN (num4 a0 a1 a2 a3))) :
    Shut (afun (cx A L [(41, nul0F sqV), (46, sval N qN), (20, subF N)]) Try.f71 [wordsV a0 a1 a2 a3] [] K) := by
  apply Shut.mk
  cbv
  split <;> rename_i e <;> cbv
  · subst hN; subst hv
    have e : ltb (num4 a0 a1 a2 a3) qN = true := e
    refine fin_of hK rfl rfl ?_
    simp only [cutN, e, if_true, words_num ha]; rfl
  · subst hN; subst hv
    have e : ltb (num4 a0 a1 a2 a3) qN = false := e
    refine fin_of hK rfl rfl ?_
    simp only [cutN, e, Bool.false_eq_true, if_false, apStd, slit]; rfl

theorem con_srMod : Con Try.prog 71 (scut apStd qN) := by
  refine con_shut Try.func71 rfl (by kernel_rfl) (fun args v us hF hv => ?_) (fun args v hF => num1F_ids hF)
  unfold scut num1F at hF
  split at hF
  · split at hF
    · rename_i a ha
      simp only [Prod.mk.injEq, true_and, ap1_std] at hF
      obtain ⟨a0, a1, a2, a3, wa, rfl, hus⟩ := args_one ha hv
      exact ⟨_, _, good (l := [(41, nul0F sqV), (46, sval apStd qN), (20, subF apStd)]) (by intro p hp; simp only [List.mem_cons, List.not_mem_nil, or_false] at hp; rcases hp with rfl | rfl | rfl; exact con_srOrder; exact con_srValid; exact con_refSub), rfl, by kernel_rfl, hus, Nat.le_of_ble_eq_true rfl, srMod_vc std (ALoop 0) apStd a0 a1 a2 a3 rfl rfl rfl wa v (FinP v) rfl hF.symm⟩
    · cases hF
  · cases hF

theorem srAdd_vc (A : Ar) (L : LP) (N : Ap) (a0 a1 a2 a3 b0 b1 b2 b3 : Int) (hL : L = ALoop 0) (hA : A = std) (hN : N = apStd) (ha : W a0 ∧ W a1 ∧ W a2 ∧ W a3) (hb : W b0 ∧ W b1 ∧ W b2 ∧ W b3) (Q : Int) (hQ : Q = qN) (v : SV) (K : Bool → SV → List Blk → Prop) (hK : K = FinP v) (hv : v = numV apStd (saddN qN (num4 a0 a1 a2 a3) (num4 b0 b1 b2 b3))) :
    Shut (afun (cx A L [(41, nul0F sqV), (71, scut N Q), (18, addF N), (20, subF N)]) Try.f42 [wordsV a0 a1 a2 a3, wordsV b0 b1 b2 b3] [] K) := by
  have ca := num4_mod (cut_in (M := Q) (num4_range ha.1 ha.2.1 ha.2.2.1 ha.2.2.2))
  have cb := num4_mod (cut_in (M := Q) (num4_range hb.1 hb.2.1 hb.2.2.1 hb.2.2.2))
  have cs := num4_mod (addm_range (cutN Q (num4 a0 a1 a2 a3)) (cutN Q (num4 b0 b1 b2 b3)))
  have lit' : num4 17562291160714782033 13611842547513532036 18446744073709551615 18446744069414584320 = Q := by rw [hQ]; exact slit
  rw [← hQ] at hv
  apply Shut.mk
  cbv
  split <;> rename_i e <;> cbv
  · subst hN; subst hv
    have e : addc (num4 (l0 (cutN Q (num4 a0 a1 a2 a3))) (l1 (cutN Q (num4 a0 a1 a2 a3))) (l2 (cutN Q (num4 a0 a1 a2 a3))) (l3 (cutN Q (num4 a0 a1 a2 a3)))) (num4 (l0 (cutN Q (num4 b0 b1 b2 b3))) (l1 (cutN Q (num4 b0 b1 b2 b3))) (l2 (cutN Q (num4 b0 b1 b2 b3))) (l3 (cutN Q (num4 b0 b1 b2 b3)))) = true := e
    rw [ca, cb] at e
    refine fin_of hK rfl rfl ?_
    simp only [saddN, maddN, e, Bool.true_or, if_true, apStd, lit', ca, cb, cs]; rfl
  · subst hN; subst hv
    have e : addc (num4 (l0 (cutN Q (num4 a0 a1 a2 a3))) (l1 (cutN Q (num4 a0 a1 a2 a3))) (l2 (cutN Q (num4 a0 a1 a2 a3))) (l3 (cutN Q (num4 a0 a1 a2 a3)))) (num4 (l0 (cutN Q (num4 b0 b1 b2 b3))) (l1 (cutN Q (num4 b0 b1 b2 b3))) (l2 (cutN Q (num4 b0 b1 b2 b3))) (l3 (cutN Q (num4 b0 b1 b2 b3)))) = false := e
    rw [ca, cb] at e
    refine fin_of hK rfl rfl ?_
    have ec : ∀ s, (if (false || !(ltb s Q)) = true then subm s Q else s) = cutN Q s := fun s => by unfold cutN; cases ltb s Q <;> rfl
    simp only [saddN, maddN, e, ec, apStd, ca, cb, cs]; rfl

theorem con_srAdd : Con Try.prog 42 (sadd apStd qN) := by
  refine con_shut Try.func42 rfl (by kernel_rfl) (fun args v us hF hv => ?_) (fun args v hF => num2F_ids hF)
  unfold sadd num2F at hF
  split at hF
  · split at hF
    · rename_i a b ha hb
      simp only [Prod.mk.injEq, true_and, ap2_std] at hF
      obtain ⟨a0, a1, a2, a3, b0, b1, b2, b3, wa, wb, rfl, rfl, hus⟩ := args_two ha hb hv
      exact ⟨_, _, good (l := [(41, nul0F sqV), (71, scut apStd qN), (18, addF apStd), (20, subF apStd)]) (by intro p hp; simp only [List.mem_cons, List.not_mem_nil, or_false] at hp; rcases hp with rfl | rfl | rfl | rfl; exact con_srOrder; exact con_srMod; exact con_refAdd; exact con_refSub), rfl, by kernel_rfl, hus, Nat.le_of_ble_eq_true rfl, srAdd_vc std (ALoop 0) apStd a0 a1 a2 a3 b0 b1 b2 b3 rfl rfl rfl wa wb qN rfl v (FinP v) rfl hF.symm⟩
    · cases hF
  · cases hF

theorem srSub_vc (A : Ar) (L : LP) (N : Ap) (a0 a1 a2 a3 b0 b1 b2 b3 : Int) (hL : L = ALoop 0) (hA : A = std) (hN : N = apStd) (ha : W a0 ∧ W a1 ∧ W a2 ∧ W a3) (hb : W b0 ∧ W b1 ∧ W b2 ∧ W b3) (Q : Int) (hQ : Q = qN) (v : SV) (K : Bool → SV → List Blk → Prop) (hK : K = FinP v) (hv : v = numV apStd (ssubN qN (num4 a0 a1 a2 a3) (num4 b0 b1 b2 b3))) :
    Shut (afun (cx A L [(41, nul0F sqV), (71, scut N Q), (18, addF N), (20, subF N)]) Try.f44 [wordsV a0 a1 a2 a3, wordsV b0 b1 b2 b3] [] K) := by
  have ca := num4_mod (cut_in (M := Q) (num4_range ha.1 ha.2.1 ha.2.2.1 ha.2.2.2))
  have cb := num4_mod (cut_in (M := Q) (num4_range hb.1 hb.2.1 hb.2.2.1 hb.2.2.2))
  have cs := num4_mod (subm_range (cutN Q (num4 a0 a1 a2 a3)) (cutN Q (num4 b0 b1 b2 b3)))
  have lit' : num4 17562291160714782033 13611842547513532036 18446744073709551615 18446744069414584320 = Q := by rw [hQ]; exact slit
  rw [← hQ] at hv
  apply Shut.mk
  cbv
  split <;> rename_i e <;> cbv
  · subst hN; subst hv
    have e : ltb (num4 (l0 (cutN Q (num4 a0 a1 a2 a3))) (l1 (cutN Q (num4 a0 a1 a2 a3))) (l2 (cutN Q (num4 a0 a1 a2 a3))) (l3 (cutN Q (num4 a0 a1 a2 a3)))) (num4 (l0 (cutN Q (num4 b0 b1 b2 b3))) (l1 (cutN Q (num4 b0 b1 b2 b3))) (l2 (cutN Q (num4 b0 b1 b2 b3))) (l3 (cutN Q (num4 b0 b1 b2 b3)))) = true := e
    rw [ca, cb] at e
    refine fin_of hK rfl rfl ?_
    simp only [ssubN, msubN, e, if_true, apStd, lit', ca, cb, cs]; rfl
  · subst hN; subst hv
    have e : ltb (num4 (l0 (cutN Q (num4 a0 a1 a2 a3))) (l1 (cutN Q (num4 a0 a1 a2 a3))) (l2 (cutN Q (num4 a0 a1 a2 a3))) (l3 (cutN Q (num4 a0 a1 a2 a3)))) (num4 (l0 (cutN Q (num4 b0 b1 b2 b3))) (l1 (cutN Q (num4 b0 b1 b2 b3))) (l2 (cutN Q (num4 b0 b1 b2 b3))) (l3 (cutN Q (num4 b0 b1 b2 b3)))) = false := e
    rw [ca, cb] at e
    refine fin_of hK rfl rfl ?_
    simp only [ssubN, msubN, e, Bool.false_eq_true, if_false, apStd, ca, cb]; rfl

theorem con_srSub : Con Try.prog 44 (ssub apStd qN) := by
  refine con_shut Try.func44 rfl (by kernel_rfl) (fun args v us hF hv => ?_) (fun args v hF => num2F_ids hF)
  unfold ssub num2F at hF
  split at hF
  · split at hF
    · rename_i a b ha hb
      simp only [Prod.mk.injEq, true_and, ap2_std] at hF
      obtain ⟨a0, a1, a2, a3, b0, b1, b2, b3, wa, wb, rfl, rfl, hus⟩ := args_two ha hb hv
      exact ⟨_, _, good (l := [(41, nul0F sqV), (71, scut apStd qN), (18, addF apStd), (20, subF apStd)]) (by intro p hp; simp only [List.mem_cons, List.not_mem_nil, or_false] at hp; rcases hp with rfl | rfl | rfl | rfl; exact con_srOrder; exact con_srMod; exact con_refAdd; exact con_refSub), rfl, by kernel_rfl, hus, Nat.le_of_ble_eq_true rfl, srSub_vc std (ALoop 0) apStd a0 a1 a2 a3 b0 b1 b2 b3 rfl rfl rfl wa wb qN rfl v (FinP v) rfl hF.symm⟩
    · cases hF
  · cases hF

end Go.Proofs.YtnncnbplnapodaaRRR
