/- Numbers modulo the two moduli: what the functions on them hand back, and plain laws. It has no conditions. -/
import Derived.Test.YtnhobbdijdbbeaaNum5
import Derived.Test.YtnhobbdijdbbeaaNum3
namespace Go.Eng
set_option linter.unusedSimpArgs false
set_option linter.unusedVariables false
set_option exponentiation.threshold 600
set_option maxRecDepth 100000

/-! ### Functions of numbers -/

def nul0F (v : SV) : List SV → Bool × SV
  | [] => (true, v)
  | _ => (false, .bad)
def num1F (N : Ap) (ok : Int → Bool) (f : Int → SV) : List SV → Bool × SV
  | [a] => match a.num256 N with
    | some a => (ok a, f a)
    | _ => (false, .bad)
  | _ => (false, .bad)
def num2F (N : Ap) (f : Int → Int → SV) : List SV → Bool × SV
  | [a, b] => match a.num256 N, b.num256 N with
    | some a, some b => (true, f a b)
    | _, _ => (false, .bad)
  | _ => (false, .bad)

theorem nul0F_ids {v : SV} {args : List SV} {r : SV} (hF : nul0F v args = (true, r)) : SV.idsLts 0 args = true := by
  unfold nul0F at hF
  split at hF
  · rfl
  · cases hF
theorem num1F_ids {N : Ap} {ok : Int → Bool} {f : Int → SV} {args : List SV} {v : SV} (hF : num1F N ok f args = (true, v)) : SV.idsLts 0 args = true := by
  unfold num1F at hF
  split at hF
  · split at hF
    · rename_i ha
      simp [SV.idsLts, num256_ids ha]
    · cases hF
  · cases hF
theorem num2F_ids {N : Ap} {f : Int → Int → SV} {args : List SV} {v : SV} (hF : num2F N f args = (true, v)) : SV.idsLts 0 args = true := by
  unfold num2F at hF
  split at hF
  · split at hF
    · rename_i ha hb
      simp [SV.idsLts, num256_ids ha, num256_ids hb]
    · cases hF
  · cases hF

/-! ### What they are -/

def saddN (M a b : Int) : Int := maddN M (cutN M a) (cutN M b)
def ssubN (M a b : Int) : Int := msubN M (cutN M a) (cutN M b)
def smulN (M a b : Int) : Int := a * b % M
def sinvN (M a : Int) : Int := invT M (cutN M a)
def sinvOk (M a : Int) : Bool := decide (0 ≤ sinvN M a)

abbrev sadd (N : Ap) (M : Int) := num2F N (fun a b => numV N (ap2 N (saddN M) a b))
abbrev ssub (N : Ap) (M : Int) := num2F N (fun a b => numV N (ap2 N (ssubN M) a b))
abbrev smul (N : Ap) (M : Int) := num2F N (fun a b => numV N (ap2 N (smulN M) a b))
abbrev sinv (N : Ap) (M : Int) := num1F N (fun a => ap1 N (sinvOk M) a) (fun a => numV N (ap1 N (sinvN M) a))
abbrev sval (N : Ap) (M : Int) := num1F N (fun _ => true) (fun a => .bool (ap1 N (fun a => ltb a M) a))
abbrev scut (N : Ap) (M : Int) := num1F N (fun _ => true) (fun a => numV N (ap1 N (cutN M) a))
abbrev shalf (N : Ap) (M : Int) := num1F N (fun _ => true) (fun a => numV N (ap1 N (halvedN M) a))

theorem cmp_ltb (a b : Int) : decide (cmpI a b < 0) = ltb a b := by
  unfold cmpI ltb
  by_cases h : a < b
  · simp [h]
  · by_cases h2 : a = b <;> simp [h, h2]

def rrOf (M : Int) : Int := if M = qN then 46533765739406314298121036767150998762426774378559716911348521029833835802274 else 134799733323198995502561713907086292154532538166959272814710328655875

/-- In, and a product: the product modulo. -/
theorem mmul_in {M : Int} (hM : M = qN ∨ M = pN) (a b : Int) : mmul M (mmul M a (rrOf M)) b = smulN M a b := by
  unfold mmul smulN
  have key : ∃ k, rrOf M * rOf M * rOf M = 1 + M * k := by
    rcases hM with rfl | rfl
    · exact ⟨(rrOf qN * rOf qN * rOf qN - 1) / qN, by decide⟩
    · exact ⟨(rrOf pN * rOf pN * rOf pN - 1) / pN, by decide⟩
  obtain ⟨k, hk⟩ := key
  have e : a * rrOf M * rOf M % M * b * rOf M % M = a * rrOf M * rOf M * (b * rOf M) % M := by
    rw [Int.mul_assoc (a * rrOf M * rOf M % M), Int.mul_emod, Int.emod_emod_of_dvd _ (Int.dvd_refl M), ← Int.mul_emod]
  rw [e]
  have e2 : a * rrOf M * rOf M * (b * rOf M) = a * b * (rrOf M * rOf M * rOf M) := by
    simp only [Int.mul_assoc, Int.mul_left_comm b, Int.mul_comm b]
  rw [e2, hk, Int.mul_add, Int.mul_one, Int.mul_left_comm, Int.add_mul_emod_self_left]

theorem mmul_in1 {M : Int} (hM : M = qN ∨ M = pN) (a : Int) : mmul M a (rrOf M) = M256 * a % M := by
  unfold mmul
  have key : ∃ k, rrOf M * rOf M = M256 + M * k := by
    rcases hM with rfl | rfl
    · exact ⟨(rrOf qN * rOf qN - M256) / qN, by decide⟩
    · exact ⟨(rrOf pN * rOf pN - M256) / pN, by decide⟩
  obtain ⟨k, hk⟩ := key
  rw [Int.mul_assoc, hk, Int.mul_add, Int.mul_left_comm, Int.add_mul_emod_self_left, Int.mul_comm]

theorem qp_range {M : Int} (hM : M = qN ∨ M = pN) : 57896044618658097711785492504343953926634992332820282019728792003956564819968 < M ∧ M < M256 ∧ M % 2 = 1 ∧ 0 ≤ rrOf M ∧ rrOf M < M := by
  rcases hM with rfl | rfl <;> decide

end Go.Eng
