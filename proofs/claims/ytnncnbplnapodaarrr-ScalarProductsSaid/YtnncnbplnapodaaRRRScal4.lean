/- Walks through the reference's halves and inverse modulo the order. It has no conditions. -/
import Derived.Test.YtnncnbplnapodaaRRRScal2
namespace Go.Proofs.YtnncnbplnapodaaRRR
open Go.Eng Go.RowKit
set_option maxRecDepth 1000000
set_option maxHeartbeats 4000000
set_option linter.unusedSimpArgs false
set_option linter.unusedVariables false

def smallF (N : Ap) : List SV → Bool × SV
  | [x] => match x.u64 with
    | some x => (true, .agg [.int .u64 x, .num .u64 0, .num .u64 0, .num .u64 0])
    | _ => (false, .bad)
  | _ => (false, .bad)

theorem smallF_ids {N : Ap} {args : List SV} {v : SV} (hF : smallF N args = (true, v)) : SV.idsLts 0 args = true := by
  unfold smallF at hF
  split at hF
  · split at hF
    · rename_i ha
      simp [SV.idsLts, u64_ids ha]
    · cases hF
  · cases hF

theorem small_vc (A : Ar) (L : LP) (N : Ap) (x : Int) (v : SV) (K : Bool → SV → List Blk → Prop) (hK : K = FinP v) (hv : v = .agg [.int .u64 x, .num .u64 0, .num .u64 0, .num .u64 0]) :
    Shut (afun (cx A L []) Try.f72 [.int .u64 x] [] K) := by
  apply Shut.mk
  cbv
  exact fin_of hK rfl rfl hv

theorem con_small : Con Try.prog 72 (smallF apStd) := by
  refine con_shut Try.func72 rfl (by kernel_rfl) (fun args v us hF hv => ?_) (fun args v hF => smallF_ids hF)
  unfold smallF at hF
  split at hF
  · split at hF
    · rename_i x n hx
      simp only [Prod.mk.injEq, true_and] at hF
      obtain ⟨u, rfl, hu⟩ := vals_sole hv
      obtain ⟨rfl, wa⟩ := u64_of hx hu
      exact ⟨_, [.int .u64 n], good (l := []) (by simp), rfl, by kernel_rfl, by simp [SV.vals, SV.val, W_u64 wa], Nat.le_of_ble_eq_true rfl, small_vc std (ALoop 0) apStd n v (FinP v) rfl hF.symm⟩
    · cases hF
  · cases hF

theorem rhalf_vc (A : Ar) (L : LP) (a0 a1 a2 a3 : Int) (t : Bool) (hL : L = ALoop 0) (hA : A = std) (ha : W a0 ∧ W a1 ∧ W a2 ∧ W a3) (v : SV) (K : Bool → SV → List Blk → Prop) (hK : K = FinP v)
    (hv : v = numV apStd (halfN (num4 a0 a1 a2 a3) t)) :
    Shut (afun (cx A L []) Try.f73 [wordsV a0 a1 a2 a3, .bool t] [] K) := by
  obtain ⟨h0, h1, h2, h3⟩ := ha
  cases t
  · obtain ⟨e0, e1, e2, e3⟩ := half_words h0 h1 h2 h3 false
    apply Shut.mk
    cbv
    refine lp_rounds hL 5 hL (.inr rfl) ?_
    cbv
    subst hA; subst hv
    refine fin_of hK (by simp [std, icmp]) rfl ?_
    have k : iop .shr .u64 a3 1 = a3 / 2 := shr_lit a3 1 (by omega)
    simp [oneTup, numV, ap1, apStd, e0, e1, e2, e3, std, half_or h0, half_or h1, half_or h2, k]
  · obtain ⟨e0, e1, e2, e3⟩ := half_words h0 h1 h2 h3 true
    apply Shut.mk
    cbv
    refine lp_rounds hL 5 hL (.inr rfl) ?_
    cbv
    subst hA; subst hv
    refine fin_of hK (by simp [std, icmp]) rfl ?_
    have k : iop .or .u64 (iop .shr .u64 a3 1) 9223372036854775808 = a3 / 2 + 9223372036854775808 := half_or (y := 1) h3
    simp [oneTup, numV, ap1, apStd, e0, e1, e2, e3, std, half_or h0, half_or h1, half_or h2, k]

theorem con_rhalf : Con Try.prog 73 (halfF apStd) := by
  refine con_shut Try.func73 rfl (by kernel_rfl) (fun args v us hF hv => ?_) (fun args v hF => halfF_ids hF)
  unfold halfF at hF
  split at hF
  · split at hF
    · rename_i t _ a ha
      simp only [Prod.mk.injEq, true_and, ap2_std] at hF
      obtain ⟨a0, a1, a2, a3, wa, rfl, hus⟩ := args_num_bool ha hv
      exact ⟨_, _, good (l := []) (by simp), rfl, by kernel_rfl, hus, Nat.le_of_ble_eq_true rfl, rhalf_vc std (ALoop 0) a0 a1 a2 a3 _ rfl rfl wa v (FinP v) rfl hF.symm⟩
    · cases hF
  · cases hF

theorem rem2 (a : Int) (ha : W a) : iop .rem .u64 a 2 = a % 2 := by
  have h1 : iop .rem .u64 a 2 = Int.tmod a 2 := rfl
  rw [h1, Int.tmod_eq_emod_of_nonneg ha.1]

theorem rhalved_vc (A : Ar) (L : LP) (N : Ap) (Q : Int) (a0 a1 a2 a3 : Int) (hL : L = ALoop 0) (hA : A = std) (hN : N = apStd) (hQ : Q = qN) (ha : W a0 ∧ W a1 ∧ W a2 ∧ W a3) (v : SV) (K : Bool → SV → List Blk → Prop) (hK : K = FinP v)
    (hv : v = numV apStd (halvedN Q (num4 a0 a1 a2 a3))) :
    Shut (afun (cx A L [(73, halfF N), (18, addF N), (41, nul0F sqV)]) Try.f74 [wordsV a0 a1 a2 a3] [] K) := by
  obtain ⟨fi, fc, fw, fb, fn, fo, fs, fa, fe, fz, fy, ff, fl⟩ := A
  have lit' : num4 17562291160714782033 13611842547513532036 18446744073709551615 18446744069414584320 = Q := by rw [hQ]; exact slit
  have hl := num4_mod (addm_range (num4 a0 a1 a2 a3) Q)
  have par : iop .rem .u64 a0 2 = num4 a0 a1 a2 a3 % 2 := by rw [rem2 a0 ha.1]; unfold num4; omega
  apply Shut.mk
  cbv
  split <;> cbv
  · rename_i e
    cases hA; subst hN; subst hv
    have e : num4 a0 a1 a2 a3 % 2 = 0 := by simpa [icmp, par] using e
    refine fin_of hK rfl rfl ?_
    simp only [halvedN, e, if_true]; rfl
  · rename_i e
    cases hA; subst hN; subst hv
    have e : ¬ num4 a0 a1 a2 a3 % 2 = 0 := by simpa [icmp, par] using e
    refine fin_of hK rfl rfl ?_
    simp only [halvedN, e, if_false]
    simp only [apStd, lit', hl]; rfl

theorem con_rhalved : Con Try.prog 74 (shalf apStd qN) := by
  refine con_shut Try.func74 rfl (by kernel_rfl) (fun args v us hF hv => ?_) (fun args v hF => num1F_ids hF)
  unfold shalf num1F at hF
  split at hF
  · split at hF
    · rename_i a ha
      simp only [Prod.mk.injEq, true_and, ap1_std] at hF
      obtain ⟨a0, a1, a2, a3, wa, rfl, hus⟩ := args_one ha hv
      exact ⟨_, _, good (l := [(73, halfF apStd), (18, addF apStd), (41, nul0F sqV)]) (by intro p hp; simp only [List.mem_cons, List.not_mem_nil, or_false] at hp; rcases hp with rfl | rfl | rfl; exact con_rhalf; exact con_refAdd; exact con_srOrder), rfl, by kernel_rfl, hus, Nat.le_of_ble_eq_true rfl,
        rhalved_vc std (ALoop 0) apStd qN a0 a1 a2 a3 rfl rfl rfl rfl wa v (FinP v) rfl hF.symm⟩
    · cases hF
  · cases hF

end Go.Proofs.YtnncnbplnapodaaRRR
