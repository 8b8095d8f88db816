/- Walks through the reference's product. It has no conditions. -/
import Derived.Test.YtnncnbplnapodaaRRRLimbs3
import Derived.Test.YtnncnbplnapodaaRRRNum5
import Derived.Test.YtnncnbplnapodaaRRRNum2
namespace Go.Proofs.YtnncnbplnapodaaRRR
open Go.Eng Go.RowKit
set_option maxRecDepth 1000000
set_option maxHeartbeats 4000000
set_option exponentiation.threshold 600
set_option linter.unusedSimpArgs false
set_option linter.unusedVariables false

def imul (a b : Int) : Int := a * b

def wide2F (N : Ap) : List SV → Bool × SV
  | [x, y] => match x.num256 N, y.num256 N with
    | some a, some b => (true, .agg (SV.num16 N (ap2 N imul a b)))
    | _, _ => (false, .bad)
  | _ => (false, .bad)

theorem con_wide2 : Con Try.prog 63 (wide2F apStd) := con_wide

theorem dig_word {p : Int} {k : Nat} : iop .or .u64 (dig32 k p) (iop .shl .u64 (dig32 (k + 1) p) 32) = dig32 k p + dig32 (k + 1) p * 4294967296 := by
  have h0 := dig32_H k p
  have h1 := dig32_H (k + 1) p
  unfold H at h0 h1
  have := or_high (x := dig32 k p) (b := dig32 (k + 1) p) 32 (by omega) (by omega) (by omega)
  exact this

theorem dig_low (p : Int) : l0 (p % M256) = dig32 0 p + dig32 1 p * 4294967296 ∧ l1 (p % M256) = dig32 2 p + dig32 3 p * 4294967296 ∧ l2 (p % M256) = dig32 4 p + dig32 5 p * 4294967296 ∧ l3 (p % M256) = dig32 6 p + dig32 7 p * 4294967296 := by
  unfold l0 l1 l2 l3 dig32 M256
  simp only [Nat.reduceMul, Int.reducePow, Int.ediv_one]
  refine ⟨?_, ?_, ?_, ?_⟩ <;> omega

theorem dig_high (p : Int) : l0 (p / M256) = dig32 8 p + dig32 9 p * 4294967296 ∧ l1 (p / M256) = dig32 10 p + dig32 11 p * 4294967296 ∧ l2 (p / M256) = dig32 12 p + dig32 13 p * 4294967296 ∧ l3 (p / M256) = dig32 14 p + dig32 15 p * 4294967296 := by
  unfold l0 l1 l2 l3 dig32 M256
  simp only [Nat.reduceMul, Int.reducePow, Int.ediv_one]
  refine ⟨?_, ?_, ?_, ?_⟩ <;> omega

theorem refMul_vc (A : Ar) (L : LP) (N : Ap) (a0 a1 a2 a3 b0 b1 b2 b3 : Int) (hL : L = ALoop 0) (hA : A = std) (hN : N = apStd) (v : SV) (K : Bool → SV → List Blk → Prop) (hK : K = FinP v)
    (hv : v = .tup [numV apStd (mulm (num4 a0 a1 a2 a3) (num4 b0 b1 b2 b3)), numV apStd (mulh (num4 a0 a1 a2 a3) (num4 b0 b1 b2 b3))]) :
    Shut (afun (cx A L [(63, wide2F N)] (dyl [(8, [(7, 5), (8, 4)])])) Try.f26 [wordsV a0 a1 a2 a3, wordsV b0 b1 b2 b3] [] K) := by
  obtain ⟨P, eP⟩ : ∃ P, ap2 N imul (ap4 N num4 a0 a1 a2 a3) (ap4 N num4 b0 b1 b2 b3) = P := ⟨_, rfl⟩
  have eP' : P = num4 a0 a1 a2 a3 * num4 b0 b1 b2 b3 := by rw [← eP]; subst hN; rfl
  simp only [ap2, ap4] at eP
  apply Shut.mk
  cbv
  refine lp_rounds hL 5 hL (.inr rfl) ?_
  cbv
  simp only [eP]
  obtain ⟨d0, d1, d2, d3⟩ := dig_low P
  obtain ⟨d4, d5, d6, d7⟩ := dig_high P
  subst hA; subst hN
  refine fin_of hK ?_ rfl ?_
  · simp [std, icmp]
  · rw [hv]
    unfold mulm mulh
    rw [← eP']
    have w := fun k => dig_word (p := P) (k := k)
    simp only [oneTup, numV, ap1, apStd, std, d0, d1, d2, d3, d4, d5, d6, d7, w 0, w 2, w 4, w 6, w 8, w 10, w 12, w 14]

theorem con_refMul : Con Try.prog 26 (mulF apStd) := by
  refine con_shut Try.func26 rfl (by kernel_rfl) (fun args v us hF hv => ?_) (fun args v hF => mulF_ids hF)
  unfold mulF at hF
  split at hF
  · split at hF
    · rename_i a b ha hb
      simp only [Prod.mk.injEq, true_and] at hF
      obtain ⟨a0, a1, a2, a3, b0, b1, b2, b3, wa, wb, rfl, rfl, hus⟩ := args_two ha hb hv
      have hF' : v = .tup [numV apStd (mulm (num4 a0 a1 a2 a3) (num4 b0 b1 b2 b3)), numV apStd (mulh (num4 a0 a1 a2 a3) (num4 b0 b1 b2 b3))] := hF.symm
      exact ⟨_, _, goodd (l := [(63, wide2F apStd)]) (dyl [(8, [(7, 5), (8, 4)])]) (by intro p hp; simp at hp; subst hp; exact con_wide2), rfl, by kernel_rfl, hus, Nat.le_of_ble_eq_true rfl, refMul_vc std (ALoop 0) apStd a0 a1 a2 a3 b0 b1 b2 b3 rfl rfl rfl v (FinP v) rfl hF'⟩
    · cases hF
  · cases hF

end Go.Proofs.YtnncnbplnapodaaRRR
