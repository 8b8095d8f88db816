/- Walks through the functions of the package field: sums, differences, products, inverses. It has no conditions. -/
import Derived.Test.YtnncnbplnapodaaRRRMont3
import Derived.Test.YtnncnbplnapodaaRRRNum6
namespace Go.Proofs.YtnncnbplnapodaaRRR
open Go.Eng Go.RowKit
set_option maxRecDepth 1000000
set_option maxHeartbeats 4000000
set_option linter.unusedSimpArgs false
set_option linter.unusedVariables false

def fmV : SV := .agg [.num .u64 18446744073709551615, .num .u64 4294967295, .num .u64 0, .num .u64 18446744069414584321, .num .u64 1, .num .u64 3, .num .u64 18446744056529682431, .num .u64 18446744073709551614, .num .u64 21474836477]
def fqV : SV := .agg [.num .u64 18446744073709551615, .num .u64 4294967295, .num .u64 0, .num .u64 18446744069414584321]
theorem flit : num4 18446744073709551615 4294967295 0 18446744069414584321 = pN := by decide
theorem frr : num4 3 18446744056529682431 18446744073709551614 21474836477 = rrOf pN := by decide

theorem fMod_vc (A : Ar) (L : LP) (v : SV) (K : Bool → SV → List Blk → Prop) (hK : K = FinP v) (hv : v = fmV) : Shut (afun (cx A L []) Try.f77 [] [] K) := by
  apply Shut.mk
  cbv
  exact fin_of hK rfl rfl hv

theorem con_fMod : Con Try.prog 77 (nul0F fmV) := by
  refine con_shut Try.func77 rfl (by kernel_rfl) (fun args v us hF hv => ?_) (fun args v hF => nul0F_ids hF)
  unfold nul0F at hF
  split at hF
  · simp only [Prod.mk.injEq, true_and] at hF
    exact ⟨_, _, good (l := []) (by simp), rfl, by kernel_rfl, hv, Nat.zero_le _, fMod_vc std (ALoop 0) v (FinP v) rfl hF.symm⟩
  · cases hF

theorem fOrder_vc (A : Ar) (L : LP) (v : SV) (K : Bool → SV → List Blk → Prop) (hK : K = FinP v) (hv : v = fqV) : Shut (afun (cx A L [(77, nul0F fmV)]) Try.f54 [] [] K) := by
  apply Shut.mk
  cbv
  exact fin_of hK rfl rfl hv

theorem con_fOrder : Con Try.prog 54 (nul0F fqV) := by
  refine con_shut Try.func54 rfl (by kernel_rfl) (fun args v us hF hv => ?_) (fun args v hF => nul0F_ids hF)
  unfold nul0F at hF
  split at hF
  · simp only [Prod.mk.injEq, true_and] at hF
    exact ⟨_, _, good (l := [(77, nul0F fmV)]) (by intro p hp; simp at hp; subst hp; exact con_fMod), rfl, by kernel_rfl, hv, Nat.zero_le _, fOrder_vc std (ALoop 0) v (FinP v) rfl hF.symm⟩
  · cases hF

theorem frOrder_vc (A : Ar) (L : LP) (v : SV) (K : Bool → SV → List Blk → Prop) (hK : K = FinP v) (hv : v = fqV) : Shut (afun (cx A L []) Try.f55 [] [] K) := by
  apply Shut.mk
  cbv
  exact fin_of hK rfl rfl hv

theorem con_frOrder : Con Try.prog 55 (nul0F fqV) := by
  refine con_shut Try.func55 rfl (by kernel_rfl) (fun args v us hF hv => ?_) (fun args v hF => nul0F_ids hF)
  unfold nul0F at hF
  split at hF
  · simp only [Prod.mk.injEq, true_and] at hF
    exact ⟨_, _, good (l := []) (by simp), rfl, by kernel_rfl, hv, Nat.zero_le _, frOrder_vc std (ALoop 0) v (FinP v) rfl hF.symm⟩
  · cases hF

theorem fValid_vc (A : Ar) (L : LP) (N : Ap) (a0 a1 a2 a3 : Int) (hL : L = ALoop 0) (hA : A = std) (hN : N = apStd) (ha : W a0 ∧ W a1 ∧ W a2 ∧ W a3) (v : SV) (K : Bool → SV → List Blk → Prop) (hK : K = FinP v) (hv : v = .bool (ltb (num4 a0 a1 a2 a3) pN)) :
    Shut (afun (cx A L [(77, nul0F fmV), (76, validF N)]) Try.f52 [wordsV a0 a1 a2 a3] [] K) := by
  apply Shut.mk
  cbv
  subst hN; subst hv
  refine fin_of hK rfl rfl ?_
  simp only [apStd, flit]
  rfl

theorem con_fValid : Con Try.prog 52 (sval apStd pN) := by
  refine con_shut Try.func52 rfl (by kernel_rfl) (fun args v us hF hv => ?_) (fun args v hF => num1F_ids hF)
  unfold sval num1F at hF
  split at hF
  · split at hF
    · rename_i a ha
      simp only [Prod.mk.injEq, true_and, ap1_std] at hF
      obtain ⟨a0, a1, a2, a3, wa, rfl, hus⟩ := args_one ha hv
      exact ⟨_, _, good (l := [(77, nul0F fmV), (76, validF apStd)]) (by intro p hp; simp only [List.mem_cons, List.not_mem_nil, or_false] at hp; rcases hp with rfl | rfl; exact con_fMod; exact con_valid), rfl, by kernel_rfl, hus, Nat.le_of_ble_eq_true rfl, fValid_vc std (ALoop 0) apStd a0 a1 a2 a3 rfl rfl rfl wa v (FinP v) rfl hF.symm⟩
    · cases hF
  · cases hF

theorem fAdd_vc (A : Ar) (L : LP) (N : Ap) (a0 a1 a2 a3 b0 b1 b2 b3 : Int) (hL : L = ALoop 0) (hA : A = std) (hN : N = apStd) (ha : W a0 ∧ W a1 ∧ W a2 ∧ W a3) (hb : W b0 ∧ W b1 ∧ W b2 ∧ W b3) (v : SV) (K : Bool → SV → List Blk → Prop) (hK : K = FinP v) (hv : v = numV apStd (saddN pN (num4 a0 a1 a2 a3) (num4 b0 b1 b2 b3))) :
    Shut (afun (cx A L [(77, nul0F fmV), (69, cutF N), (70, maddF N)]) Try.f48 [wordsV a0 a1 a2 a3, wordsV b0 b1 b2 b3] [] K) := by
  apply Shut.mk
  cbv
  subst hN; subst hv
  refine fin_of hK rfl rfl ?_
  simp only [apStd, flit, num4_mod (cut_in (num4_range ha.1 ha.2.1 ha.2.2.1 ha.2.2.2)), num4_mod (cut_in (num4_range hb.1 hb.2.1 hb.2.2.1 hb.2.2.2))]
  rfl

theorem con_fAdd : Con Try.prog 48 (sadd apStd pN) := by
  refine con_shut Try.func48 rfl (by kernel_rfl) (fun args v us hF hv => ?_) (fun args v hF => num2F_ids hF)
  unfold sadd num2F at hF
  split at hF
  · split at hF
    · rename_i a b ha hb
      simp only [Prod.mk.injEq, true_and, ap2_std] at hF
      obtain ⟨a0, a1, a2, a3, b0, b1, b2, b3, wa, wb, rfl, rfl, hus⟩ := args_two ha hb hv
      exact ⟨_, _, good (l := [(77, nul0F fmV), (69, cutF apStd), (70, maddF apStd)]) (by intro p hp; simp only [List.mem_cons, List.not_mem_nil, or_false] at hp; rcases hp with rfl | rfl | rfl; exact con_fMod; exact con_cut; exact con_madd), rfl, by kernel_rfl, hus, Nat.le_of_ble_eq_true rfl, fAdd_vc std (ALoop 0) apStd a0 a1 a2 a3 b0 b1 b2 b3 rfl rfl rfl wa wb v (FinP v) rfl hF.symm⟩
    · cases hF
  · cases hF

theorem fSub_vc (A : Ar) (L : LP) (N : Ap) (a0 a1 a2 a3 b0 b1 b2 b3 : Int) (hL : L = ALoop 0) (hA : A = std) (hN : N = apStd) (ha : W a0 ∧ W a1 ∧ W a2 ∧ W a3) (hb : W b0 ∧ W b1 ∧ W b2 ∧ W b3) (v : SV) (K : Bool → SV → List Blk → Prop) (hK : K = FinP v) (hv : v = numV apStd (ssubN pN (num4 a0 a1 a2 a3) (num4 b0 b1 b2 b3))) :
    Shut (afun (cx A L [(77, nul0F fmV), (69, cutF N), (75, msubF N)]) Try.f50 [wordsV a0 a1 a2 a3, wordsV b0 b1 b2 b3] [] K) := by
  apply Shut.mk
  cbv
  subst hN; subst hv
  refine fin_of hK rfl rfl ?_
  simp only [apStd, flit, num4_mod (cut_in (num4_range ha.1 ha.2.1 ha.2.2.1 ha.2.2.2)), num4_mod (cut_in (num4_range hb.1 hb.2.1 hb.2.2.1 hb.2.2.2))]
  rfl

theorem con_fSub : Con Try.prog 50 (ssub apStd pN) := by
  refine con_shut Try.func50 rfl (by kernel_rfl) (fun args v us hF hv => ?_) (fun args v hF => num2F_ids hF)
  unfold ssub num2F at hF
  split at hF
  · split at hF
    · rename_i a b ha hb
      simp only [Prod.mk.injEq, true_and, ap2_std] at hF
      obtain ⟨a0, a1, a2, a3, b0, b1, b2, b3, wa, wb, rfl, rfl, hus⟩ := args_two ha hb hv
      exact ⟨_, _, good (l := [(77, nul0F fmV), (69, cutF apStd), (75, msubF apStd)]) (by intro p hp; simp only [List.mem_cons, List.not_mem_nil, or_false] at hp; rcases hp with rfl | rfl | rfl; exact con_fMod; exact con_cut; exact con_msub), rfl, by kernel_rfl, hus, Nat.le_of_ble_eq_true rfl, fSub_vc std (ALoop 0) apStd a0 a1 a2 a3 b0 b1 b2 b3 rfl rfl rfl wa wb v (FinP v) rfl hF.symm⟩
    · cases hF
  · cases hF

theorem fMul_vc (A : Ar) (L : LP) (N : Ap) (a0 a1 a2 a3 b0 b1 b2 b3 : Int) (hL : L = ALoop 0) (hA : A = std) (hN : N = apStd) (ha : W a0 ∧ W a1 ∧ W a2 ∧ W a3) (hb : W b0 ∧ W b1 ∧ W b2 ∧ W b3) (v : SV) (K : Bool → SV → List Blk → Prop) (hK : K = FinP v) (hv : v = numV apStd (smulN pN (num4 a0 a1 a2 a3) (num4 b0 b1 b2 b3))) :
    Shut (afun (cx A L [(77, nul0F fmV), (66, minF N), (65, mmulF N)]) Try.f57 [wordsV a0 a1 a2 a3, wordsV b0 b1 b2 b3] [] K) := by
  obtain ⟨g1, g2, g3, g4, g5⟩ := qp_range (M := pN) (.inr rfl)
  have hr : ∀ x y, 0 ≤ mmul pN x y ∧ mmul pN x y < pN := mmul_range (by omega)
  have hr2 : ∀ x y, 0 ≤ mmul pN x y ∧ mmul pN x y < M256 := fun x y => ⟨(hr x y).1, by have := (hr x y).2; omega⟩
  apply Shut.mk
  cbv
  subst hN; subst hv
  refine fin_of hK ?_ rfl ?_
  · simp only [apStd, flit, frr, num4_mod (hr2 _ _)]
    have k1 : mcond pN (num4 a0 a1 a2 a3) (rrOf pN) = true := by simp [mcond, g5]
    have k2 : ∀ y, mcond pN (mmul pN (num4 a0 a1 a2 a3) (rrOf pN)) y = true := fun y => by simp [mcond, (hr _ _).2]
    have k3 : okMod pN 1 = true := by decide
    simp only [k1, k2, k3]
    rfl
  · simp only [apStd, flit, frr, num4_mod (hr2 _ _), ← mmul_in (.inr rfl)]
    rfl

theorem con_fMul : Con Try.prog 57 (smul apStd pN) := by
  refine con_shut Try.func57 rfl (by kernel_rfl) (fun args v us hF hv => ?_) (fun args v hF => num2F_ids hF)
  unfold smul num2F at hF
  split at hF
  · split at hF
    · rename_i a b ha hb
      simp only [Prod.mk.injEq, true_and, ap2_std] at hF
      obtain ⟨a0, a1, a2, a3, b0, b1, b2, b3, wa, wb, rfl, rfl, hus⟩ := args_two ha hb hv
      exact ⟨_, _, good (l := [(77, nul0F fmV), (66, minF apStd), (65, mmulF apStd)]) (by intro p hp; simp only [List.mem_cons, List.not_mem_nil, or_false] at hp; rcases hp with rfl | rfl | rfl; exact con_fMod; exact con_min; exact con_mmul), rfl, by kernel_rfl, hus, Nat.le_of_ble_eq_true rfl, fMul_vc std (ALoop 0) apStd a0 a1 a2 a3 b0 b1 b2 b3 rfl rfl rfl wa wb v (FinP v) rfl hF.symm⟩
    · cases hF
  · cases hF

theorem fInv_vc (A : Ar) (L : LP) (N : Ap) (a0 a1 a2 a3 : Int) (hL : L = ALoop 0) (hA : A = std) (hN : N = apStd) (ha : W a0 ∧ W a1 ∧ W a2 ∧ W a3) (hok : sinvOk pN (num4 a0 a1 a2 a3) = true) (v : SV) (K : Bool → SV → List Blk → Prop) (hK : K = FinP v) (hv : v = numV apStd (sinvN pN (num4 a0 a1 a2 a3))) :
    Shut (afun (cx A L [(77, nul0F fmV), (69, cutF N), (68, minvF N)]) Try.f79 [wordsV a0 a1 a2 a3] [] K) := by
  apply Shut.mk
  cbv
  subst hN; subst hv
  refine fin_of hK ?_ rfl ?_
  · simp only [apStd, flit, num4_mod (cut_in (num4_range ha.1 ha.2.1 ha.2.2.1 ha.2.2.2))]
    simp only [sinvOk, sinvN] at hok
    have k : ∀ b : Bool, b = true → (match b with | false => false | true => true) = true := fun b h => by rw [h]
    exact k _ hok
  · simp only [apStd, flit, num4_mod (cut_in (num4_range ha.1 ha.2.1 ha.2.2.1 ha.2.2.2))]
    rfl

theorem con_fInv : Con Try.prog 79 (sinv apStd pN) := by
  refine con_shut Try.func79 rfl (by kernel_rfl) (fun args v us hF hv => ?_) (fun args v hF => num1F_ids hF)
  unfold sinv num1F at hF
  split at hF
  · split at hF
    · rename_i a ha
      simp only [Prod.mk.injEq, true_and, ap1_std] at hF
      obtain ⟨hok, hF⟩ := hF
      obtain ⟨a0, a1, a2, a3, wa, rfl, hus⟩ := args_one ha hv
      exact ⟨_, _, good (l := [(77, nul0F fmV), (69, cutF apStd), (68, minvF apStd)]) (by intro p hp; simp only [List.mem_cons, List.not_mem_nil, or_false] at hp; rcases hp with rfl | rfl | rfl; exact con_fMod; exact con_cut; exact con_minv), rfl, by kernel_rfl, hus, Nat.le_of_ble_eq_true rfl, fInv_vc std (ALoop 0) apStd a0 a1 a2 a3 rfl rfl rfl wa hok v (FinP v) rfl hF.symm⟩
    · cases hF
  · cases hF

theorem frValid_vc (A : Ar) (L : LP) (N : Ap) (a0 a1 a2 a3 : Int) (hL : L = ALoop 0) (hA : A = std) (hN : N = apStd) (ha : W a0 ∧ W a1 ∧ W a2 ∧ W a3) (v : SV) (K : Bool → SV → List Blk → Prop) (hK : K = FinP v) (hv : v = .bool (ltb (num4 a0 a1 a2 a3) pN)) :
    Shut (afun (cx A L [(55, nul0F fqV), (22, cmpF N)]) Try.f53 [wordsV a0 a1 a2 a3] [] K) := by
  apply Shut.mk
  cbv
  subst hN; subst hv; subst hA
  refine fin_of hK rfl rfl ?_
  simp only [apStd, flit, ← cmp_ltb]
  rfl

theorem con_frValid : Con Try.prog 53 (sval apStd pN) := by
  refine con_shut Try.func53 rfl (by kernel_rfl) (fun args v us hF hv => ?_) (fun args v hF => num1F_ids hF)
  unfold sval num1F at hF
  split at hF
  · split at hF
    · rename_i a ha
      simp only [Prod.mk.injEq, true_and, ap1_std] at hF
      obtain ⟨a0, a1, a2, a3, wa, rfl, hus⟩ := args_one ha hv
      exact ⟨_, _, good (l := [(55, nul0F fqV), (22, cmpF apStd)]) (by intro p hp; simp only [List.mem_cons, List.not_mem_nil, or_false] at hp; rcases hp with rfl | rfl; exact con_frOrder; exact con_refCmp), rfl, by kernel_rfl, hus, Nat.le_of_ble_eq_true rfl, frValid_vc std (ALoop 0) apStd a0 a1 a2 a3 rfl rfl rfl wa v (FinP v) rfl hF.symm⟩
    · cases hF
  · cases hF

theorem frMod_vc (A : Ar) (L : LP) (N : Ap) (a0 a1 a2 a3 : Int) (hL : L = ALoop 0) (hA : A = std) (hN : N = apStd) (ha : W a0 ∧ W a1 ∧ W a2 ∧ W a3) (v : SV) (K : Bool → SV → List Blk → Prop) (hK : K = FinP v) (hv : v = numV apStd (cutN pN (num4 a0 a1 a2 a3))) :
    Shut (afun (cx A L [(55, nul0F fqV), (53, sval N pN), (20, subF N)]) Try.f78 [wordsV a0 a1 a2 a3] [] K) := by
  apply Shut.mk
  cbv
  split <;> rename_i e <;> cbv
  · subst hN; subst hv
    have e : ltb (num4 a0 a1 a2 a3) pN = true := e
    refine fin_of hK rfl rfl ?_
    simp only [cutN, e, if_true, words_num ha]; rfl
  · subst hN; subst hv
    have e : ltb (num4 a0 a1 a2 a3) pN = false := e
    refine fin_of hK rfl rfl ?_
    simp only [cutN, e, Bool.false_eq_true, if_false, apStd, flit]; rfl

theorem con_frMod : Con Try.prog 78 (scut apStd pN) := by
  refine con_shut Try.func78 rfl (by kernel_rfl) (fun args v us hF hv => ?_) (fun args v hF => num1F_ids hF)
  unfold scut num1F at hF
  split at hF
  · split at hF
    · rename_i a ha
      simp only [Prod.mk.injEq, true_and, ap1_std] at hF
      obtain ⟨a0, a1, a2, a3, wa, rfl, hus⟩ := args_one ha hv
      exact ⟨_, _, good (l := [(55, nul0F fqV), (53, sval apStd pN), (20, subF apStd)]) (by intro p hp; simp only [List.mem_cons, List.not_mem_nil, or_false] at hp; rcases hp with rfl | rfl | rfl; exact con_frOrder; exact con_frValid; exact con_refSub), rfl, by kernel_rfl, hus, Nat.le_of_ble_eq_true rfl, frMod_vc std (ALoop 0) apStd a0 a1 a2 a3 rfl rfl rfl wa v (FinP v) rfl hF.symm⟩
    · cases hF
  · cases hF

theorem frAdd_vc (A : Ar) (L : LP) (N : Ap) (a0 a1 a2 a3 b0 b1 b2 b3 : Int) (hL : L = ALoop 0) (hA : A = std) (hN : N = apStd) (ha : W a0 ∧ W a1 ∧ W a2 ∧ W a3) (hb : W b0 ∧ W b1 ∧ W b2 ∧ W b3) (Q : Int) (hQ : Q = pN) (v : SV) (K : Bool → SV → List Blk → Prop) (hK : K = FinP v) (hv : v = numV apStd (saddN pN (num4 a0 a1 a2 a3) (num4 b0 b1 b2 b3))) :
    Shut (afun (cx A L [(55, nul0F fqV), (78, scut N Q), (18, addF N), (20, subF N)]) Try.f49 [wordsV a0 a1 a2 a3, wordsV b0 b1 b2 b3] [] K) := by
  have ca := num4_mod (cut_in (M := Q) (num4_range ha.1 ha.2.1 ha.2.2.1 ha.2.2.2))
  have cb := num4_mod (cut_in (M := Q) (num4_range hb.1 hb.2.1 hb.2.2.1 hb.2.2.2))
  have cs := num4_mod (addm_range (cutN Q (num4 a0 a1 a2 a3)) (cutN Q (num4 b0 b1 b2 b3)))
  have lit' : num4 18446744073709551615 4294967295 0 18446744069414584321 = Q := by rw [hQ]; exact flit
  rw [← hQ] at hv
  apply Shut.mk
  cbv
  split <;> rename_i e <;> cbv
  · subst hN; subst hv
    have e : addc (num4 (l0 (cutN Q (num4 a0 a1 a2 a3))) (l1 (cutN Q (num4 a0 a1 a2 a3))) (l2 (cutN Q (num4 a0 a1 a2 a3))) (l3 (cutN Q (num4 a0 a1 a2 a3)))) (num4 (l0 (cutN Q (num4 b0 b1 b2 b3))) (l1 (cutN Q (num4 b0 b1 b2 b3))) (l2 (cutN Q (num4 b0 b1 b2 b3))) (l3 (cutN Q (num4 b0 b1 b2 b3)))) = true := e
    rw [ca, cb] at e
    refine fin_of hK rfl rfl ?_
    simp only [saddN, maddN, e, Bool.true_or, if_true, apStd, lit', ca, cb, cs]; rfl
  · subst hN; subst hv
    have e : addc (num4 (l0 (cutN Q (num4 a0 a1 a2 a3))) (l1 (cutN Q (num4 a0 a1 a2 a3))) (l2 (cutN Q (num4 a0 a1 a2 a3))) (l3 (cutN Q (num4 a0 a1 a2 a3)))) (num4 (l0 (cutN Q (num4 b0 b1 b2 b3))) (l1 (cutN Q (num4 b0 b1 b2 b3))) (l2 (cutN Q (num4 b0 b1 b2 b3))) (l3 (cutN Q (num4 b0 b1 b2 b3)))) = false := e
    rw [ca, cb] at e
    refine fin_of hK rfl rfl ?_
    have ec : ∀ s, (if (false || !(ltb s Q)) = true then subm s Q else s) = cutN Q s := fun s => by unfold cutN; cases ltb s Q <;> rfl
    simp only [saddN, maddN, e, ec, apStd, ca, cb, cs]; rfl

theorem con_frAdd : Con Try.prog 49 (sadd apStd pN) := by
  refine con_shut Try.func49 rfl (by kernel_rfl) (fun args v us hF hv => ?_) (fun args v hF => num2F_ids hF)
  unfold sadd num2F at hF
  split at hF
  · split at hF
    · rename_i a b ha hb
      simp only [Prod.mk.injEq, true_and, ap2_std] at hF
      obtain ⟨a0, a1, a2, a3, b0, b1, b2, b3, wa, wb, rfl, rfl, hus⟩ := args_two ha hb hv
      exact ⟨_, _, good (l := [(55, nul0F fqV), (78, scut apStd pN), (18, addF apStd), (20, subF apStd)]) (by intro p hp; simp only [List.mem_cons, List.not_mem_nil, or_false] at hp; rcases hp with rfl | rfl | rfl | rfl; exact con_frOrder; exact con_frMod; exact con_refAdd; exact con_refSub), rfl, by kernel_rfl, hus, Nat.le_of_ble_eq_true rfl, frAdd_vc std (ALoop 0) apStd a0 a1 a2 a3 b0 b1 b2 b3 rfl rfl rfl wa wb pN rfl v (FinP v) rfl hF.symm⟩
    · cases hF
  · cases hF

theorem frSub_vc (A : Ar) (L : LP) (N : Ap) (a0 a1 a2 a3 b0 b1 b2 b3 : Int) (hL : L = ALoop 0) (hA : A = std) (hN : N = apStd) (ha : W a0 ∧ W a1 ∧ W a2 ∧ W a3) (hb : W b0 ∧ W b1 ∧ W b2 ∧ W b3) (Q : Int) (hQ : Q = pN) (v : SV) (K : Bool → SV → List Blk → Prop) (hK : K = FinP v) (hv : v = numV apStd (ssubN pN (num4 a0 a1 a2 a3) (num4 b0 b1 b2 b3))) :
    Shut (afun (cx A L [(55, nul0F fqV), (78, scut N Q), (18, addF N), (20, subF N)]) Try.f51 [wordsV a0 a1 a2 a3, wordsV b0 b1 b2 b3] [] K) := by
  have ca := num4_mod (cut_in (M := Q) (num4_range ha.1 ha.2.1 ha.2.2.1 ha.2.2.2))
  have cb := num4_mod (cut_in (M := Q) (num4_range hb.1 hb.2.1 hb.2.2.1 hb.2.2.2))
  have cs := num4_mod (subm_range (cutN Q (num4 a0 a1 a2 a3)) (cutN Q (num4 b0 b1 b2 b3)))
  have lit' : num4 18446744073709551615 4294967295 0 18446744069414584321 = Q := by rw [hQ]; exact flit
  rw [← hQ] at hv
  apply Shut.mk
  cbv
  split <;> rename_i e <;> cbv
  · subst hN; subst hv
    have e : ltb (num4 (l0 (cutN Q (num4 a0 a1 a2 a3))) (l1 (cutN Q (num4 a0 a1 a2 a3))) (l2 (cutN Q (num4 a0 a1 a2 a3))) (l3 (cutN Q (num4 a0 a1 a2 a3)))) (num4 (l0 (cutN Q (num4 b0 b1 b2 b3))) (l1 (cutN Q (num4 b0 b1 b2 b3))) (l2 (cutN Q (num4 b0 b1 b2 b3))) (l3 (cutN Q (num4 b0 b1 b2 b3)))) = true := e
    rw [ca, cb] at e
    refine fin_of hK rfl rfl ?_
    simp only [ssubN, msubN, e, if_true, apStd, lit', ca, cb, cs]; rfl
  · subst hN; subst hv
    have e : ltb (num4 (l0 (cutN Q (num4 a0 a1 a2 a3))) (l1 (cutN Q (num4 a0 a1 a2 a3))) (l2 (cutN Q (num4 a0 a1 a2 a3))) (l3 (cutN Q (num4 a0 a1 a2 a3)))) (num4 (l0 (cutN Q (num4 b0 b1 b2 b3))) (l1 (cutN Q (num4 b0 b1 b2 b3))) (l2 (cutN Q (num4 b0 b1 b2 b3))) (l3 (cutN Q (num4 b0 b1 b2 b3)))) = false := e
    rw [ca, cb] at e
    refine fin_of hK rfl rfl ?_
    simp only [ssubN, msubN, e, Bool.false_eq_true, if_false, apStd, ca, cb]; rfl

theorem con_frSub : Con Try.prog 51 (ssub apStd pN) := by
  refine con_shut Try.func51 rfl (by kernel_rfl) (fun args v us hF hv => ?_) (fun args v hF => num2F_ids hF)
  unfold ssub num2F at hF
  split at hF
  · split at hF
    · rename_i a b ha hb
      simp only [Prod.mk.injEq, true_and, ap2_std] at hF
      obtain ⟨a0, a1, a2, a3, b0, b1, b2, b3, wa, wb, rfl, rfl, hus⟩ := args_two ha hb hv
      exact ⟨_, _, good (l := [(55, nul0F fqV), (78, scut apStd pN), (18, addF apStd), (20, subF apStd)]) (by intro p hp; simp only [List.mem_cons, List.not_mem_nil, or_false] at hp; rcases hp with rfl | rfl | rfl | rfl; exact con_frOrder; exact con_frMod; exact con_refAdd; exact con_refSub), rfl, by kernel_rfl, hus, Nat.le_of_ble_eq_true rfl, frSub_vc std (ALoop 0) apStd a0 a1 a2 a3 b0 b1 b2 b3 rfl rfl rfl wa wb pN rfl v (FinP v) rfl hF.symm⟩
    · cases hF
  · cases hF

end Go.Proofs.YtnncnbplnapodaaRRR
