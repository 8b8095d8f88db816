/- Plain laws on square roots modulo a prime number. It has no conditions. -/
import Derived.Test.YtnncnbplnapodaaRRRNum8
namespace Go.Eng
set_option linter.unusedSimpArgs false
set_option linter.unusedVariables false
set_option exponentiation.threshold 600
set_option maxRecDepth 100000

def sqs (M : Int) : Nat → Int → Int
  | 0, a => a
  | n + 1, a => sqs M n (mmul M a a)
def sqk (M a n : Int) : Int := sqs M n.toNat a
def chX (a : Int) : Int := mmul pN a (rrOf pN)
def chStep (r x : Int) (n : Int) : Int := mmul pN (sqk pN r n) x
def chR (x : Int) : Int := 
  let two := chStep x x 1
  let four := chStep two two 2
  let eight := chStep four four 4
  let sixteen := chStep eight eight 8
  let half := chStep sixteen sixteen 16
  let r := chStep half x 32
  let r := chStep r x 96
  mmul pN (sqk pN r 94) 1
def rootR (a : Int) : Int := chR (chX a)
def rootB (a : Int) : Bool := decide (smulN pN (rootR a) (rootR a) = cutN pN a)
def rootV (a : Int) : Int := if rootB a then (if rootR a % 2 = 1 then msubN pN 0 (rootR a) else rootR a) else 0

/-- A number in Montgomery's way that is a power. -/
def isP (y z : Int) (e : Nat) : Prop := y = z ^ e * M256 % pN

theorem pr_key : ∃ s, M256 * rOf pN = 1 + pN * s := (okMod_spec (M := pN) (n := 1) (by decide)).2.1

theorem isP_mul {u v z : Int} {a b : Nat} (hu : isP u z a) (hv : isP v z b) : isP (mmul pN u v) z (a + b) := by
  unfold isP at *
  obtain ⟨s, hs⟩ := pr_key
  unfold mmul
  rw [hu, hv]
  have e1 : z ^ a * M256 % pN * (z ^ b * M256 % pN) * rOf pN % pN = z ^ a * M256 * (z ^ b * M256) * rOf pN % pN := by
    rw [Int.mul_assoc, mul_mod_l, ← Int.mul_assoc, Int.mul_comm (z ^ a * M256), Int.mul_assoc, mul_mod_l, ← Int.mul_assoc, Int.mul_comm (z ^ b * M256)]
  rw [e1]
  have e2 : z ^ a * M256 * (z ^ b * M256) * rOf pN = z ^ (a + b) * M256 * (M256 * rOf pN) := by
    rw [Int.pow_add]
    simp only [Int.mul_assoc, Int.mul_left_comm M256 (z ^ b)]
  rw [e2, hs, Int.mul_add, Int.mul_one, Int.mul_left_comm, Int.add_mul_emod_self_left]

theorem isP_sqs {z : Int} : ∀ (n : Nat) {u : Int} {a : Nat}, isP u z a → isP (sqs pN n u) z (a * 2 ^ n)
  | 0, u, a, h => by simpa [sqs] using h
  | n + 1, u, a, h => by
    have := isP_sqs n (isP_mul h h)
    have e : (a + a) * 2 ^ n = a * 2 ^ (n + 1) := by rw [Nat.pow_succ, ← Nat.mul_two, Nat.mul_assoc, Nat.mul_comm 2]
    rw [e] at this
    exact this

theorem isP_step {r x z : Int} {a b : Nat} (n : Nat) (hr : isP r z a) (hx : isP x z b) : isP (chStep r x n) z (a * 2 ^ n + b) := by
  unfold chStep sqk
  rw [Int.toNat_natCast]
  exact isP_mul (isP_sqs n hr) hx

theorem isP_out {u z : Int} {a : Nat} (hu : isP u z a) : mmul pN u 1 = z ^ a % pN := by
  unfold isP at hu
  obtain ⟨s, hs⟩ := pr_key
  unfold mmul
  rw [hu, Int.mul_one, mul_mod_l, Int.mul_assoc, hs, Int.mul_add, Int.mul_one, Int.mul_left_comm, Int.add_mul_emod_self_left]

/-- The power that gives a root. -/
theorem root_pow (z : Int) : ∃ E : Nat, 4 * (E : Int) = pN + 1 ∧ rootR z = z ^ E % pN := by
  have h0 : isP (chX z) z 1 := by
    unfold isP chX
    rw [mmul_in1 (.inr rfl), Int.pow_one, Int.mul_comm]
  have h1 := isP_step 1 h0 h0
  have h2 := isP_step 2 h1 h1
  have h3 := isP_step 4 h2 h2
  have h4 := isP_step 8 h3 h3
  have h5 := isP_step 16 h4 h4
  have h6 := isP_step 32 h5 h0
  have h7 := isP_step 96 h6 h0
  have h8 := isP_sqs 94 h7
  obtain ⟨E, hE⟩ : ∃ E : Nat, E = (((((((1 * 2 ^ 1 + 1) * 2 ^ 2 + (1 * 2 ^ 1 + 1)) * 2 ^ 4 + ((1 * 2 ^ 1 + 1) * 2 ^ 2 + (1 * 2 ^ 1 + 1))) * 2 ^ 8 + (((1 * 2 ^ 1 + 1) * 2 ^ 2 + (1 * 2 ^ 1 + 1)) * 2 ^ 4 + ((1 * 2 ^ 1 + 1) * 2 ^ 2 + (1 * 2 ^ 1 + 1)))) * 2 ^ 16 + ((((1 * 2 ^ 1 + 1) * 2 ^ 2 + (1 * 2 ^ 1 + 1)) * 2 ^ 4 + ((1 * 2 ^ 1 + 1) * 2 ^ 2 + (1 * 2 ^ 1 + 1))) * 2 ^ 8 + (((1 * 2 ^ 1 + 1) * 2 ^ 2 + (1 * 2 ^ 1 + 1)) * 2 ^ 4 + ((1 * 2 ^ 1 + 1) * 2 ^ 2 + (1 * 2 ^ 1 + 1))))) * 2 ^ 32 + 1) * 2 ^ 96 + 1) * 2 ^ 94 := ⟨_, rfl⟩
  rw [← hE] at h8
  refine ⟨E, ?_, isP_out h8⟩
  rw [hE]; decide

theorem fermat_int {c : Int} (h0 : 0 < c) (h1 : c < pN) {e : Nat} (he : (e : Int) = pN - 1) : c ^ e % pN = 1 := by
  have hP := prmF_p.2 c.toNat (by omega) (by unfold pN at h1; omega)
  obtain ⟨p, hp⟩ : ∃ p : Nat, p = 115792089210356248762697446949407573530086143415290314195533631308867097853951 := ⟨_, rfl⟩
  rw [← hp] at hP
  have hpp : pN = (p : Int) := by rw [hp]; rfl
  have he' : e = p - 1 := by rw [hpp] at he; omega
  rw [he', hpp, ← Int.toNat_of_nonneg (show 0 ≤ c by omega)]
  have h2 : ((c.toNat ^ (p - 1) % p : Nat) : Int) = 1 := by rw [hP]; rfl
  rw [← h2, Int.natCast_emod, Int.natCast_pow]

/-- A square root of 1 is 1 or its opposite. -/
theorem one_roots {h : Int} (h0 : 0 ≤ h) (h1 : h < pN) (e : h * h % pN = 1) : h = 1 ∨ h = pN - 1 := by
  have hP := prmF_p.1
  obtain ⟨p, hp⟩ : ∃ p : Nat, p = 115792089210356248762697446949407573530086143415290314195533631308867097853951 := ⟨_, rfl⟩
  rw [← hp] at hP
  have hpp : pN = (p : Int) := by rw [hp]; rfl
  have hp2 := hP.1
  have hne : h ≠ 0 := by
    intro hh
    rw [hh] at e
    simp at e
  have hm := Int.emod_add_mul_ediv (h * h) pN
  rw [e] at hm
  have hk : (h - 1) * (h + 1) = pN * (h * h / pN) := by
    rw [Int.sub_mul, Int.mul_add, Int.mul_one, Int.one_mul]; omega
  have hd : (p : Int) ∣ (h - 1) * (h + 1) := ⟨h * h / pN, by rw [hk, hpp]⟩
  have hd2 : p ∣ (h - 1).toNat * (h + 1).toNat := by
    have : (((h - 1).toNat * (h + 1).toNat : Nat) : Int) = (h - 1) * (h + 1) := by
      rw [Int.natCast_mul, Int.toNat_of_nonneg (by omega), Int.toNat_of_nonneg (by omega)]
    rw [← this] at hd
    exact Int.natCast_dvd_natCast.1 hd
  rcases hP.euclid hd2 with ⟨k, hk⟩ | ⟨k, hk⟩
  · left
    cases k with
    | zero => omega
    | succ k => rw [Nat.mul_succ] at hk; omega
  · right
    cases k with
    | zero => omega
    | succ k =>
      cases k with
      | zero => omega
      | succ k => rw [Nat.mul_succ, Nat.mul_succ] at hk; omega


theorem pow_emod (a : Int) (k : Nat) (M : Int) : (a % M) ^ k % M = a ^ k % M := by
  induction k with
  | zero => rw [Int.pow_zero, Int.pow_zero]
  | succ k ih => rw [Int.pow_succ, Int.pow_succ, Int.mul_emod, ih, Int.emod_emod, ← Int.mul_emod]

theorem chi {c : Int} (h0 : 0 < c) (h1 : c < pN) {E : Nat} (hE : 4 * (E : Int) = pN + 1) : ∃ h, (h = 1 ∨ h = pN - 1) ∧ c ^ (2 * E) % pN = c * h % pN := by
  have hE1 : 1 ≤ E := by unfold pN at hE; omega
  refine ⟨c ^ (2 * E - 1) % pN, one_roots (Int.emod_nonneg _ (by decide)) (Int.emod_lt_of_pos _ (by decide)) ?_, ?_⟩
  · rw [← Int.mul_emod, ← Int.pow_add]
    exact fermat_int h0 h1 (by omega)
  · rw [mul_mod_r]
    have : c ^ (2 * E) = c * c ^ (2 * E - 1) := by
      rw [Int.mul_comm, ← Int.pow_succ]; congr 1; omega
    rw [this]

theorem neg_pow_even (c : Int) (E : Nat) : (pN - c) ^ (2 * E) % pN = c ^ (2 * E) % pN := by
  have h2 : (pN - c) ^ 2 % pN = c ^ 2 % pN := by
    have e : (pN - c) ^ 2 = c ^ 2 + pN * (pN - 2 * c) := by
      rw [Int.pow_succ, Int.pow_succ, Int.pow_zero, Int.one_mul, Int.pow_succ, Int.pow_succ, Int.pow_zero, Int.one_mul]
      rw [Int.sub_mul, Int.mul_sub, Int.mul_sub, Int.mul_sub, Int.mul_comm c pN, Int.mul_left_comm pN 2 c]
      omega
    rw [e, Int.add_mul_emod_self_left]
  rw [Int.pow_mul, Int.pow_mul, ← pow_emod, h2, pow_emod]

/-- Has a number a root? -/
theorem root_iff {z : Int} (hz : 0 ≤ z ∧ z < pN) {E : Nat} (hr : rootR z = z ^ E % pN) : rootB z = decide (z ^ (2 * E) % pN = z) := by
  unfold rootB smulN
  rw [hr, ← Int.mul_emod, ← Int.pow_add, ← Nat.two_mul]
  have : cutN pN z = z := by unfold cutN ltb; simp [hz.2]
  rw [this]

theorem rootR_range (z : Int) : 0 ≤ rootR z ∧ rootR z < pN := by
  obtain ⟨E, _, h⟩ := root_pow z
  rw [h]
  exact ⟨Int.emod_nonneg _ (by decide), Int.emod_lt_of_pos _ (by decide)⟩

theorem neg_mod (a M : Int) : (0 - a % M) % M = (0 - a) % M := by
  have h := Int.emod_add_mul_ediv a M
  have e : 0 - a = (0 - a % M) + M * (-(a / M)) := by rw [Int.mul_neg]; omega
  rw [e, Int.add_mul_emod_self_left]

theorem neg_val {r : Int} (h0 : 0 < r) (h1 : r < pN) : (0 - r) % pN = pN - r := by
  rw [← Int.add_emod_right (0 - r) pN, Int.emod_eq_of_lt (by omega) (by omega)]; omega

theorem chi_neg {c : Int} (h0 : 0 < c) (h1 : c < pN) : c * (pN - 1) % pN = pN - c := by
  have e : c * (pN - 1) = (pN - c) + pN * (c - 1) := by
    rw [Int.mul_sub, Int.mul_sub, Int.mul_one, Int.mul_one, Int.mul_comm c pN]; omega
  rw [e, Int.add_mul_emod_self_left, Int.emod_eq_of_lt (by omega) (by omega)]

theorem root_range (z : Int) : 0 ≤ rootV z ∧ rootV z < M256 := by
  have h := mmul_range (M := pN) (by decide)
  have hp : pN < M256 := by decide
  unfold rootV
  split
  · split
    · unfold msubN
      split
      · exact addm_range _ _
      · exact subm_range _ _
    · have := rootR_range z
      exact ⟨this.1, by omega⟩
  · decide

theorem square_laws {a : Int} (ha : 0 ≤ a ∧ a < M256) :
    (cutN pN a = 0 → rootB (smulN pN a a) = true ∧ rootV (smulN pN a a) = 0 ∧ ssubN pN 0 a = 0) ∧
    (cutN pN a ≠ 0 → rootB (smulN pN a a) = true ∧ rootV (smulN pN a a) % 2 = 0 ∧ ssubN pN 0 a ≠ 0 ∧ ssubN pN 0 a ≠ cutN pN a ∧ (rootV (smulN pN a a) = ssubN pN 0 a ∨ rootV (smulN pN a a) = cutN pN a) ∧ rootB (ssubN pN 0 a) = !(rootB a)) := by
  obtain ⟨g1, g2, g3, _⟩ := qp_range (M := pN) (.inr rfl)
  have p0 : (0 : Int) < pN := by decide
  obtain ⟨c0, c1, c2⟩ := cut_range g1 g2 ha
  have hm : smulN pN a a = cutN pN a * cutN pN a % pN := by unfold smulN; rw [c2, ← Int.mul_emod]
  have ho : ssubN pN 0 a = (0 - cutN pN a) % pN := by rw [ssub_eq (.inr rfl) (by decide) ha, c2, neg_mod]
  obtain ⟨E, hE, hrE⟩ := root_pow (smulN pN a a)
  have hrz : ∀ z, rootR z = z ^ E % pN := fun z => by
    obtain ⟨E', hE', h⟩ := root_pow z
    have : E' = E := by omega
    rw [h, this]
  have hE1 : 1 ≤ E := by unfold pN at hE; omega
  generalize hc : cutN pN a = c at *
  refine ⟨fun h => ?_, fun h => ?_⟩
  · subst h
    have hm0 : smulN pN a a = 0 := by rw [hm]; rfl
    have hr0 : rootR 0 = 0 := by
      rw [hrz]
      have : (0 : Int) ^ E = 0 := Int.zero_pow (by omega)
      rw [this]; rfl
    have hb : rootB 0 = true := by unfold rootB; rw [hr0]; decide
    refine ⟨by rw [hm0]; exact hb, ?_, by rw [ho]; rfl⟩
    rw [hm0]; unfold rootV; rw [hb, hr0]; decide
  · have hcp : 0 < c := by omega
    obtain ⟨χ, hχ, hpow⟩ := chi hcp c1 hE
    have hmr : 0 ≤ smulN pN a a ∧ smulN pN a a < pN := by rw [hm]; exact ⟨Int.emod_nonneg _ (by decide), Int.emod_lt_of_pos _ p0⟩
    have ho' : ssubN pN 0 a = pN - c := by
      rw [ho, neg_val hcp c1]
    -- the root of the square
    have hr : rootR (smulN pN a a) = c * χ % pN := by
      rw [hrz, hm, pow_emod, ← hpow, Int.mul_pow, ← Int.pow_add, Nat.two_mul]
    have hr2 : rootR (smulN pN a a) = c ∨ rootR (smulN pN a a) = pN - c := by
      rw [hr]
      rcases hχ with h1 | h1
      · left; rw [h1, Int.mul_one, Int.emod_eq_of_lt c0 c1]
      · right
        rw [h1, chi_neg hcp c1]
    have hb : rootB (smulN pN a a) = true := by
      unfold rootB
      rw [decide_eq_true_eq]
      have hcut : cutN pN (smulN pN a a) = smulN pN a a := by unfold cutN ltb; simp [hmr.2]
      rw [hcut]
      rcases hr2 with h1 | h1
      · rw [h1, hm]; rfl
      · rw [h1, hm]
        unfold smulN
        have e : (pN - c) * (pN - c) = c * c + pN * (pN - 2 * c) := by
          rw [Int.sub_mul, Int.mul_sub, Int.mul_sub, Int.mul_sub, Int.mul_comm c pN, Int.mul_left_comm pN 2 c]
          omega
        rw [e, Int.add_mul_emod_self_left]
    have hodd : pN % 2 = 1 := g3
    refine ⟨hb, ?_, by rw [ho']; omega, by rw [ho']; omega, ?_, ?_⟩
    · unfold rootV
      rw [hb, if_pos rfl]
      split
      · rename_i h1
        have rr : 0 < rootR (smulN pN a a) ∧ rootR (smulN pN a a) < pN := by rcases hr2 with h2 | h2 <;> omega
        rw [(msub_range g1 g2 ⟨Int.le_refl 0, p0⟩ ⟨by omega, rr.2⟩).2.2, neg_val rr.1 rr.2]
        omega
      · omega
    · unfold rootV
      rw [hb, if_pos rfl, ho']
      split
      · rename_i h1
        have rr : 0 < rootR (smulN pN a a) ∧ rootR (smulN pN a a) < pN := by rcases hr2 with h2 | h2 <;> omega
        rw [(msub_range g1 g2 ⟨Int.le_refl 0, p0⟩ ⟨by omega, rr.2⟩).2.2, neg_val rr.1 rr.2]
        rcases hr2 with h2 | h2 <;> omega
      · rcases hr2 with h2 | h2 <;> omega
    · have hba : rootB a = decide (c ^ (2 * E) % pN = c) := by
        unfold rootB smulN
        rw [hrz, hc, ← Int.mul_emod, ← Int.pow_add, ← Nat.two_mul, ← pow_emod a, ← c2]
      have hbo : rootB (ssubN pN 0 a) = decide (c ^ (2 * E) % pN = pN - c) := by
        rw [root_iff (by rw [ho']; omega) (hrz _), ho', neg_pow_even]
      rw [hba, hbo, hpow]
      rcases hχ with h1 | h1
      · rw [h1, Int.mul_one, Int.emod_eq_of_lt c0 c1]
        have : ¬ c = pN - c := by omega
        simp [this]
      · have e : c * χ % pN = pN - c := by
          rw [h1, chi_neg hcp c1]
        rw [e]
        have : ¬ pN - c = c := by omega
        simp [this]

end Go.Eng
