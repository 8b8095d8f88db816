/- Numbers of 256 bits by their words, and what the functions on them hand back. It has no conditions. -/
import Derived.Test.YtnhobbdijdbbeaaEngC
namespace Go.Eng
set_option exponentiation.threshold 600

/-! ### Application behind a variable -/

abbrev Ap := (α β : Type) → (α → β) → α → β
def apStd : Ap := fun _ _ f a => f a

def ap1 (N : Ap) {α β : Type} (f : α → β) (a : α) : β := N α β f a
def ap2 (N : Ap) {α β γ : Type} (f : α → β → γ) (a : α) (b : β) : γ := N β γ (N α (β → γ) f a) b
def ap3 (N : Ap) {α β γ δ : Type} (f : α → β → γ → δ) (a : α) (b : β) (c : γ) : δ := N γ δ (N β (γ → δ) (N α (β → γ → δ) f a) b) c
def ap4 (N : Ap) {α β γ δ ε : Type} (f : α → β → γ → δ → ε) (a : α) (b : β) (c : γ) (d : δ) : ε := N δ ε (N γ (δ → ε) (N β (γ → δ → ε) (N α (β → γ → δ → ε) f a) b) c) d

/-! ### Words of 64 bits, numbers of 256 -/

def sum64 (x y c : Int) : Int := (x + y + c) % 18446744073709551616
def car64 (x y c : Int) : Int := (x + y + c) / 18446744073709551616
def dif64 (x y c : Int) : Int := (x - y - c) % 18446744073709551616
def bor64 (x y c : Int) : Int := if x < y + c then 1 else 0

def num4 (a b c d : Int) : Int := a + 18446744073709551616 * b + 340282366920938463463374607431768211456 * c + 6277101735386680763835789423207666416102355444464034512896 * d
def l0 (n : Int) : Int := n % 18446744073709551616
def l1 (n : Int) : Int := n / 18446744073709551616 % 18446744073709551616
def l2 (n : Int) : Int := n / 340282366920938463463374607431768211456 % 18446744073709551616
def l3 (n : Int) : Int := n / 6277101735386680763835789423207666416102355444464034512896 % 18446744073709551616

def M256 : Int := 115792089237316195423570985008687907853269984665640564039457584007913129639936

def W (a : Int) : Prop := 0 ≤ a ∧ a < 18446744073709551616

theorem l0_w (n : Int) : W (l0 n) := by unfold W l0; omega
theorem l1_w (n : Int) : W (l1 n) := by unfold W l1; omega
theorem l2_w (n : Int) : W (l2 n) := by unfold W l2; omega
theorem l3_w (n : Int) : W (l3 n) := by unfold W l3; omega

theorem u64_W {n : Int} (h : IntKind.u64.wrap n = n) : W n := by
  rw [IntKind.wrap_u64] at h; unfold W; omega
theorem W_u64 {n : Int} (h : W n) : IntKind.u64.wrap n = n := by
  rw [IntKind.wrap_u64]; unfold W at h; omega

/-- The words of a number are its only ones. -/
theorem limbs_of {n a b c d k : Int} (ha : W a) (hb : W b) (hc : W c) (hd : W d) (h : n = num4 a b c d + M256 * k) : l0 n = a ∧ l1 n = b ∧ l2 n = c ∧ l3 n = d := by
  unfold W at *
  unfold num4 M256 at h
  unfold l0 l1 l2 l3
  have h1 : n / 18446744073709551616 = b + 18446744073709551616 * c + 340282366920938463463374607431768211456 * d + 6277101735386680763835789423207666416102355444464034512896 * k := by omega
  have h2 : n / 340282366920938463463374607431768211456 = c + 18446744073709551616 * d + 340282366920938463463374607431768211456 * k := by omega
  have h3 : n / 6277101735386680763835789423207666416102355444464034512896 = d + 18446744073709551616 * k := by omega
  rw [h1, h2, h3]
  refine ⟨by omega, by omega, by omega, by omega⟩

theorem num4_limbs (n : Int) : num4 (l0 n) (l1 n) (l2 n) (l3 n) = n % M256 := by
  unfold num4 l0 l1 l2 l3 M256
  have h1 : n / 340282366920938463463374607431768211456 = n / 18446744073709551616 / 18446744073709551616 := by omega
  have h2 : n / 6277101735386680763835789423207666416102355444464034512896 = n / 18446744073709551616 / 18446744073709551616 / 18446744073709551616 := by omega
  rw [h1, h2]
  generalize hq : n / 18446744073709551616 = q
  omega

theorem num4_range {a b c d : Int} (ha : W a) (hb : W b) (hc : W c) (hd : W d) : 0 ≤ num4 a b c d ∧ num4 a b c d < M256 := by
  unfold W at *
  unfold num4 M256
  omega

def addm (a b : Int) : Int := (a + b) % M256
def addc (a b : Int) : Bool := decide (M256 ≤ a + b)
def subm (a b : Int) : Int := (a - b) % M256
def ltb (a b : Int) : Bool := decide (a < b)

def cmpI (a b : Int) : Int := if a < b then -1 else if a = b then 0 else 1

theorem add_words {a0 a1 a2 a3 b0 b1 b2 b3 : Int} (ha0 : W a0) (ha1 : W a1) (ha2 : W a2) (ha3 : W a3) (hb0 : W b0) (hb1 : W b1) (hb2 : W b2) (hb3 : W b3) {c0 c1 c2 c3 : Int}
    (e0 : c0 = car64 a0 b0 0) (e1 : c1 = car64 a1 b1 c0) (e2 : c2 = car64 a2 b2 c1) (e3 : c3 = car64 a3 b3 c2) :
    (0 ≤ c0 ∧ c0 ≤ 1 ∧ 0 ≤ c1 ∧ c1 ≤ 1 ∧ 0 ≤ c2 ∧ c2 ≤ 1 ∧ 0 ≤ c3 ∧ c3 ≤ 1) ∧
    num4 (sum64 a0 b0 0) (sum64 a1 b1 c0) (sum64 a2 b2 c1) (sum64 a3 b3 c2) + M256 * c3 = num4 a0 a1 a2 a3 + num4 b0 b1 b2 b3 := by
  unfold W at *
  unfold car64 at *
  unfold sum64 num4 M256
  have h0 : 0 ≤ c0 ∧ c0 ≤ 1 := by omega
  have h1 : 0 ≤ c1 ∧ c1 ≤ 1 := by omega
  have h2 : 0 ≤ c2 ∧ c2 ≤ 1 := by omega
  have h3 : 0 ≤ c3 ∧ c3 ≤ 1 := by omega
  refine ⟨by omega, ?_⟩
  have g0 : (a0 + b0 + 0) % 18446744073709551616 = a0 + b0 - 18446744073709551616 * c0 := by omega
  have g1 : (a1 + b1 + c0) % 18446744073709551616 = a1 + b1 + c0 - 18446744073709551616 * c1 := by omega
  have g2 : (a2 + b2 + c1) % 18446744073709551616 = a2 + b2 + c1 - 18446744073709551616 * c2 := by omega
  have g3 : (a3 + b3 + c2) % 18446744073709551616 = a3 + b3 + c2 - 18446744073709551616 * c3 := by omega
  rw [g0, g1, g2, g3]
  omega

theorem sum64_w (x y c : Int) : W (sum64 x y c) := by unfold W sum64; omega
theorem dif64_w (x y c : Int) : W (dif64 x y c) := by unfold W dif64; omega

theorem sub_words {a0 a1 a2 a3 b0 b1 b2 b3 : Int} (ha0 : W a0) (ha1 : W a1) (ha2 : W a2) (ha3 : W a3) (hb0 : W b0) (hb1 : W b1) (hb2 : W b2) (hb3 : W b3) {c0 c1 c2 c3 : Int}
    (e0 : c0 = bor64 a0 b0 0) (e1 : c1 = bor64 a1 b1 c0) (e2 : c2 = bor64 a2 b2 c1) (e3 : c3 = bor64 a3 b3 c2) :
    (0 ≤ c0 ∧ c0 ≤ 1 ∧ 0 ≤ c1 ∧ c1 ≤ 1 ∧ 0 ≤ c2 ∧ c2 ≤ 1 ∧ 0 ≤ c3 ∧ c3 ≤ 1) ∧
    num4 (dif64 a0 b0 0) (dif64 a1 b1 c0) (dif64 a2 b2 c1) (dif64 a3 b3 c2) - M256 * c3 = num4 a0 a1 a2 a3 - num4 b0 b1 b2 b3 := by
  unfold W at *
  unfold bor64 at *
  unfold dif64 num4 M256
  have h0 : 0 ≤ c0 ∧ c0 ≤ 1 := by split at e0 <;> omega
  have h1 : 0 ≤ c1 ∧ c1 ≤ 1 := by split at e1 <;> omega
  have h2 : 0 ≤ c2 ∧ c2 ≤ 1 := by split at e2 <;> omega
  have h3 : 0 ≤ c3 ∧ c3 ≤ 1 := by split at e3 <;> omega
  refine ⟨by omega, ?_⟩
  have g0 : (a0 - b0 - 0) % 18446744073709551616 = a0 - b0 + 18446744073709551616 * c0 := by split at e0 <;> omega
  have g1 : (a1 - b1 - c0) % 18446744073709551616 = a1 - b1 - c0 + 18446744073709551616 * c1 := by split at e1 <;> omega
  have g2 : (a2 - b2 - c1) % 18446744073709551616 = a2 - b2 - c1 + 18446744073709551616 * c2 := by split at e2 <;> omega
  have g3 : (a3 - b3 - c2) % 18446744073709551616 = a3 - b3 - c2 + 18446744073709551616 * c3 := by split at e3 <;> omega
  rw [g0, g1, g2, g3]
  omega

theorem car64_le {x y c : Int} (hx : W x) (hy : W y) (hc : 0 ≤ c ∧ c ≤ 1) : 0 ≤ car64 x y c ∧ car64 x y c ≤ 1 := by
  unfold W at *; unfold car64; omega
theorem bor64_le (x y c : Int) : 0 ≤ bor64 x y c ∧ bor64 x y c ≤ 1 := by
  unfold bor64; split <;> omega

theorem add_spec {a0 a1 a2 a3 b0 b1 b2 b3 : Int} (ha : W a0 ∧ W a1 ∧ W a2 ∧ W a3) (hb : W b0 ∧ W b1 ∧ W b2 ∧ W b3) :
    l0 (addm (num4 a0 a1 a2 a3) (num4 b0 b1 b2 b3)) = sum64 a0 b0 0 ∧
    l1 (addm (num4 a0 a1 a2 a3) (num4 b0 b1 b2 b3)) = sum64 a1 b1 (car64 a0 b0 0) ∧
    l2 (addm (num4 a0 a1 a2 a3) (num4 b0 b1 b2 b3)) = sum64 a2 b2 (car64 a1 b1 (car64 a0 b0 0)) ∧
    l3 (addm (num4 a0 a1 a2 a3) (num4 b0 b1 b2 b3)) = sum64 a3 b3 (car64 a2 b2 (car64 a1 b1 (car64 a0 b0 0))) ∧
    addc (num4 a0 a1 a2 a3) (num4 b0 b1 b2 b3) = (car64 a3 b3 (car64 a2 b2 (car64 a1 b1 (car64 a0 b0 0))) == 1) := by
  obtain ⟨ha0, ha1, ha2, ha3⟩ := ha
  obtain ⟨hb0, hb1, hb2, hb3⟩ := hb
  obtain ⟨hc, e⟩ := add_words ha0 ha1 ha2 ha3 hb0 hb1 hb2 hb3 rfl rfl rfl rfl
  have hr := num4_range (sum64_w a0 b0 0) (sum64_w a1 b1 (car64 a0 b0 0)) (sum64_w a2 b2 (car64 a1 b1 (car64 a0 b0 0))) (sum64_w a3 b3 (car64 a2 b2 (car64 a1 b1 (car64 a0 b0 0))))
  generalize num4 a0 a1 a2 a3 = A at *
  generalize num4 b0 b1 b2 b3 = B at *
  have e' : addm A B = num4 (sum64 a0 b0 0) (sum64 a1 b1 (car64 a0 b0 0)) (sum64 a2 b2 (car64 a1 b1 (car64 a0 b0 0))) (sum64 a3 b3 (car64 a2 b2 (car64 a1 b1 (car64 a0 b0 0)))) + M256 * 0 := by
    unfold addm
    rw [← e]
    unfold M256 at *
    omega
  obtain ⟨h0, h1, h2, h3⟩ := limbs_of (sum64_w _ _ _) (sum64_w _ _ _) (sum64_w _ _ _) (sum64_w _ _ _) e'
  refine ⟨h0, h1, h2, h3, ?_⟩
  unfold addc
  rw [Bool.eq_iff_iff, decide_eq_true_eq, beq_iff_eq, ← e]
  unfold M256 at *
  omega

theorem sub_spec {a0 a1 a2 a3 b0 b1 b2 b3 : Int} (ha : W a0 ∧ W a1 ∧ W a2 ∧ W a3) (hb : W b0 ∧ W b1 ∧ W b2 ∧ W b3) :
    l0 (subm (num4 a0 a1 a2 a3) (num4 b0 b1 b2 b3)) = dif64 a0 b0 0 ∧
    l1 (subm (num4 a0 a1 a2 a3) (num4 b0 b1 b2 b3)) = dif64 a1 b1 (bor64 a0 b0 0) ∧
    l2 (subm (num4 a0 a1 a2 a3) (num4 b0 b1 b2 b3)) = dif64 a2 b2 (bor64 a1 b1 (bor64 a0 b0 0)) ∧
    l3 (subm (num4 a0 a1 a2 a3) (num4 b0 b1 b2 b3)) = dif64 a3 b3 (bor64 a2 b2 (bor64 a1 b1 (bor64 a0 b0 0))) ∧
    ltb (num4 a0 a1 a2 a3) (num4 b0 b1 b2 b3) = (bor64 a3 b3 (bor64 a2 b2 (bor64 a1 b1 (bor64 a0 b0 0))) == 1) := by
  obtain ⟨ha0, ha1, ha2, ha3⟩ := ha
  obtain ⟨hb0, hb1, hb2, hb3⟩ := hb
  obtain ⟨hc, e⟩ := sub_words ha0 ha1 ha2 ha3 hb0 hb1 hb2 hb3 rfl rfl rfl rfl
  have hr := num4_range (dif64_w a0 b0 0) (dif64_w a1 b1 (bor64 a0 b0 0)) (dif64_w a2 b2 (bor64 a1 b1 (bor64 a0 b0 0))) (dif64_w a3 b3 (bor64 a2 b2 (bor64 a1 b1 (bor64 a0 b0 0))))
  have ra := num4_range ha0 ha1 ha2 ha3
  have rb := num4_range hb0 hb1 hb2 hb3
  generalize num4 a0 a1 a2 a3 = A at *
  generalize num4 b0 b1 b2 b3 = B at *
  have e' : subm A B = num4 (dif64 a0 b0 0) (dif64 a1 b1 (bor64 a0 b0 0)) (dif64 a2 b2 (bor64 a1 b1 (bor64 a0 b0 0))) (dif64 a3 b3 (bor64 a2 b2 (bor64 a1 b1 (bor64 a0 b0 0)))) + M256 * 0 := by
    unfold subm
    rw [← e]
    unfold M256 at *
    omega
  obtain ⟨h0, h1, h2, h3⟩ := limbs_of (dif64_w _ _ _) (dif64_w _ _ _) (dif64_w _ _ _) (dif64_w _ _ _) e'
  refine ⟨h0, h1, h2, h3, ?_⟩
  unfold ltb
  rw [Bool.eq_iff_iff, decide_eq_true_eq, beq_iff_eq]
  unfold M256 at *
  omega

theorem and_mask {x : Int} (hx : W x) (k : Nat) (hk : k ≤ 64) : iop .and .u64 x (2 ^ k - 1) = x % 2 ^ k := by
  obtain ⟨n, rfl⟩ := Int.eq_ofNat_of_zero_le hx.1
  have h1 : n < 2 ^ 64 := by have := hx.2; simp at this ⊢; omega
  have h2 : (2 ^ k - 1 : Int) = ((2 ^ k - 1 : Nat) : Int) := by
    have : 0 < 2 ^ k := Nat.two_pow_pos k
    rw [Int.natCast_sub this]; simp
  have h3 : 2 ^ k - 1 < 2 ^ 64 := by
    have : 2 ^ k ≤ 2 ^ 64 := Nat.pow_le_pow_right (by omega) hk
    have : 0 < 2 ^ k := Nat.two_pow_pos k
    omega
  rw [h2]
  show IntKind.u64.wrap ((BitVec.ofInt 64 (n : Int) &&& BitVec.ofInt 64 ((2 ^ k - 1 : Nat) : Int)).toNat : Int) = _
  simp only [BitVec.ofInt_natCast, BitVec.toNat_and, BitVec.toNat_ofNat]
  rw [Nat.mod_eq_of_lt h1, Nat.mod_eq_of_lt h3, Nat.and_two_pow_sub_one_eq_mod, IntKind.wrap_u64]
  have h4 : n % 2 ^ k < 2 ^ 64 := Nat.lt_of_le_of_lt (Nat.mod_le _ _) h1
  rw [Int.emod_eq_of_lt (by omega) (by simp at h4 ⊢; omega)]
  simp

theorem shr_lit (x : Int) (k : Nat) (hk : k ≤ 64) : iop .shr .u64 x (k : Int) = x / 2 ^ k := by
  show Int.fdiv x (2 ^ min (k : Int).toNat 64) = _
  rw [Int.toNat_natCast, Nat.min_eq_left hk]
  rw [Int.fdiv_eq_ediv_of_nonneg _ (by exact Int.le_of_lt (Int.pow_pos (by omega)))]

theorem or_disj {x y : Int} (k : Nat) (hx : 0 ≤ x ∧ x < 2 ^ k) (hy : 0 ≤ y ∧ y * 2 ^ k < 18446744073709551616) (hk : k ≤ 64) : iop .or .u64 x (y * 2 ^ k) = x + y * 2 ^ k := by
  obtain ⟨n, rfl⟩ := Int.eq_ofNat_of_zero_le hx.1
  obtain ⟨m, rfl⟩ := Int.eq_ofNat_of_zero_le hy.1
  have h1 : n < 2 ^ k := by have := hx.2; exact_mod_cast this
  have e : ((m : Int) * 2 ^ k) = ((m * 2 ^ k : Nat) : Int) := by rw [Int.natCast_mul, Int.natCast_pow]; rfl
  have h2 : m * 2 ^ k < 2 ^ 64 := by
    have h := hy.2
    rw [e] at h
    generalize m * 2 ^ k = q at h ⊢
    omega
  have h0 : n < 2 ^ 64 := Nat.lt_of_lt_of_le h1 (Nat.pow_le_pow_right (by omega) hk)
  rw [e]
  show IntKind.u64.wrap ((BitVec.ofInt 64 (n : Int) ||| BitVec.ofInt 64 ((m * 2 ^ k : Nat) : Int)).toNat : Int) = _
  simp only [BitVec.ofInt_natCast, BitVec.toNat_or, BitVec.toNat_ofNat]
  rw [Nat.mod_eq_of_lt h0, Nat.mod_eq_of_lt h2]
  have h3 : n ||| m * 2 ^ k = n + m * 2 ^ k := by
    have := Nat.two_pow_add_eq_or_of_lt h1 m
    rw [Nat.or_comm, Nat.mul_comm m, ← this]; omega
  rw [h3, IntKind.wrap_u64]
  have h4 : n + m * 2 ^ k < 2 ^ 64 := by
    rw [← h3]; exact Nat.or_lt_two_pow h0 h2
  rw [Int.emod_eq_of_lt (by omega) (by simp at h4 ⊢; omega)]
  simp

theorem mul_range {x y a b : Int} (hx : 0 ≤ x ∧ x ≤ a) (hy : 0 ≤ y ∧ y ≤ b) : 0 ≤ x * y ∧ x * y ≤ a * b :=
  ⟨Int.mul_nonneg hx.1 hy.1, Int.mul_le_mul hx.2 hy.2 hy.1 (Int.le_trans hx.1 hx.2)⟩

def hi64 (x y : Int) : Int := x * y / 18446744073709551616
def lo64 (x y : Int) : Int := x * y % 18446744073709551616

theorem hi64_w {x y : Int} (hx : W x) (hy : W y) : 0 ≤ hi64 x y ∧ hi64 x y ≤ 18446744073709551614 ∧ W (lo64 x y) ∧ hi64 x y * 18446744073709551616 + lo64 x y = x * y := by
  unfold W at *
  have := mul_range (a := 18446744073709551615) (b := 18446744073709551615) (x := x) (y := y) (by omega) (by omega)
  unfold hi64 lo64
  generalize x * y = p at *
  omega

theorem mul64_spec {x y : Int} (hx : W x) (hy : W y) :
    let x0 := x % 4294967296
    let x1 := x / 4294967296
    let y0 := y % 4294967296
    let y1 := y / 4294967296
    let w0 := x0 * y0 % 18446744073709551616
    let t := (x1 * y0 % 18446744073709551616 + w0 / 4294967296) % 18446744073709551616
    let w1 := (t % 4294967296 + x0 * y1 % 18446744073709551616) % 18446744073709551616
    let w2 := t / 4294967296
    ((x1 * y1 % 18446744073709551616 + w2) % 18446744073709551616 + w1 / 4294967296) % 18446744073709551616 = hi64 x y := by
  intro x0 x1 y0 y1 w0 t w1 w2
  unfold W at *
  have ex : x = x1 * 4294967296 + x0 := by omega
  have ey : y = y1 * 4294967296 + y0 := by omega
  have r1 := mul_range (a := 4294967295) (b := 4294967295) (x := x0) (y := y0) (by omega) (by omega)
  have r2 := mul_range (a := 4294967295) (b := 4294967295) (x := x1) (y := y0) (by omega) (by omega)
  have r3 := mul_range (a := 4294967295) (b := 4294967295) (x := x0) (y := y1) (by omega) (by omega)
  have r4 := mul_range (a := 4294967295) (b := 4294967295) (x := x1) (y := y1) (by omega) (by omega)
  have e : x * y = 18446744073709551616 * (x1 * y1) + 4294967296 * (x1 * y0) + 4294967296 * (x0 * y1) + x0 * y0 := by
    rw [ex, ey]
    grind
  unfold hi64
  rw [e]
  clear_value x0 x1 y0 y1
  simp only [w1, w2, t, w0]
  generalize x0 * y0 = a at *
  generalize x1 * y0 = b at *
  generalize x0 * y1 = c at *
  generalize x1 * y1 = d at *
  clear e ex ey hx hy
  omega
mutual
/-- A value without a block. -/
def SV.clean : SV → Bool
  | .int _ _ => true
  | .num _ _ => true
  | .bool _ => true
  | .str _ => true
  | .nilp => true
  | .nils => true
  | .agg l => SV.cleans l
  | .tup l => SV.cleans l
  | _ => false
def SV.cleans : List SV → Bool
  | [] => true
  | v :: r => v.clean && SV.cleans r
end

mutual
theorem SV.clean_sb : ∀ (v : SV), v.clean = true → v.idsLt 0 = true ∧ v.sb [] v
  | .int _ _, _ => ⟨rfl, by simp [SV.sb]⟩
  | .num _ _, _ => ⟨rfl, by simp [SV.sb]⟩
  | .bool _, _ => ⟨rfl, by simp [SV.sb]⟩
  | .str _, _ => ⟨rfl, by simp [SV.sb]⟩
  | .nilp, _ => ⟨rfl, by simp [SV.sb]⟩
  | .nils, _ => ⟨rfl, by simp [SV.sb]⟩
  | .agg l, h => by
    have := SV.cleans_sb l (by simpa [SV.clean] using h)
    simpa [SV.idsLt, SV.sb] using this
  | .tup l, h => by
    have := SV.cleans_sb l (by simpa [SV.clean] using h)
    simpa [SV.idsLt, SV.sb] using this
  | .ptr _ _, h => by cases h
  | .elt _ _ _ _, h => by cases h
  | .slice _ _ _ _, h => by cases h
  | .row _ _, h => by cases h
  | .fn _ _, h => by cases h
  | .bad, h => by cases h
theorem SV.cleans_sb : ∀ (l : List SV), SV.cleans l = true → SV.idsLts 0 l = true ∧ SV.sbs [] l l
  | [], _ => ⟨rfl, by simp [SV.sbs]⟩
  | v :: r, h => by
    simp only [SV.cleans, Bool.and_eq_true] at h
    have h1 := SV.clean_sb v h.1
    have h2 := SV.cleans_sb r h.2
    simp [SV.idsLts, SV.sbs, h1, h2]
end

theorem fin_of {K : Bool → SV → List Blk → Prop} {v r : SV} (hK : K = FinP v) {ok : Bool} {hp : List Blk} (h : ok = true) (h0 : r.clean = true) (e : v = r) : K ok r hp := by
  subst hK; subst h; subst e
  exact ⟨rfl, SV.clean_sb v h0⟩

theorem fin_sb {K : Bool → SV → List Blk → Prop} {v r : SV} (hK : K = FinP v) {ok : Bool} {hp : List Blk} (h : ok = true) (h0 : v.idsLt 0 = true) (e : v.sb [] r) : K ok r hp := by
  subst hK; subst h
  exact ⟨rfl, h0, e⟩

/-- A loop with a state told for every round. -/
theorem lp_head {C : Cx} {L : LP} {base : Nat} (hL : L = ALoop base) {c : Code} {S : St} {Q : AX → St → Prop} (N : Nat) (hd : Nat → St) (h0 : subP base (uni base (hd N) S) (hd N) S)
    (h : ∀ n, n ≤ N → awp C c (hd n) fun e T => match e with
      | .normal => (match n with
        | 0 => False
        | n' + 1 => subP base (uni base (hd n') T) (hd n') T)
      | e => Q e T) (hC : C.lp = ALoop base) (hs : C.sc = AScope base (awp C.flat) ∨ C.sc = fun _ _ _ => False) : L (awp C c) S Q :=
  lp_ex hL (D := Unit) N (fun _ => ()) (fun n _ => hd n) (fun _ _ => True) ⟨trivial, h0⟩ (fun n hn _ _ => awp_mono hC hs c _ _ _ (fun e T hT => by
    cases e <;> try exact hT
    simp only at hT ⊢
    cases n with
    | zero => exact hT.elim
    | succ n' => exact ⟨trivial, hT⟩) (h n hn)) hC hs

/-! ### What functions hand back, by symbols -/

def SV.u64 : SV → Option Int
  | .int .u64 n => some n
  | .num .u64 n => some n
  | _ => none

def add64F (A : Ar) (N : Ap) : List SV → Bool × SV
  | [x, y, c] => match x.u64, y.u64, c.u64 with
    | some x, some y, some c => (A.icmp .leq c 1, .tup [.int .u64 (ap3 N sum64 x y c), .int .u64 (ap3 N car64 x y c)])
    | _, _, _ => (false, .bad)
  | _ => (false, .bad)

def sub64F (A : Ar) (N : Ap) : List SV → Bool × SV
  | [x, y, c] => match x.u64, y.u64, c.u64 with
    | some x, some y, some c => (A.icmp .leq c 1, .tup [.int .u64 (ap3 N dif64 x y c), .int .u64 (ap3 N bor64 x y c)])
    | _, _, _ => (false, .bad)
  | _ => (false, .bad)

/-- A number as a value. -/
def numV (N : Ap) (n : Int) : SV := .agg [.int .u64 (ap1 N l0 n), .int .u64 (ap1 N l1 n), .int .u64 (ap1 N l2 n), .int .u64 (ap1 N l3 n)]

def SV.num256 (N : Ap) : SV → Option Int
  | .agg [a, b, c, d] => match a.u64, b.u64, c.u64, d.u64 with
    | some a, some b, some c, some d => some (ap4 N num4 a b c d)
    | _, _, _, _ => none
  | _ => none

def addF (N : Ap) : List SV → Bool × SV
  | [x, y] => match x.num256 N, y.num256 N with
    | some a, some b => (true, .tup [numV N (ap2 N addm a b), .bool (ap2 N addc a b)])
    | _, _ => (false, .bad)
  | _ => (false, .bad)

def subF (N : Ap) : List SV → Bool × SV
  | [x, y] => match x.num256 N, y.num256 N with
    | some a, some b => (true, .tup [numV N (ap2 N subm a b), .bool (ap2 N ltb a b)])
    | _, _ => (false, .bad)
  | _ => (false, .bad)

theorem u64_of {x : SV} {n : Int} (h : x.u64 = some n) {u : Value} {m : List Pl} (hv : x.val m = some u) : u = .int .u64 n ∧ W n := by
  unfold SV.u64 at h
  split at h
  · simp only [Option.some.injEq] at h; subst h
    simp [SV.val] at hv; exact ⟨hv.2.symm, u64_W hv.1⟩
  · simp only [Option.some.injEq] at h; subst h
    simp [SV.val] at hv; exact ⟨hv.2.symm, u64_W hv.1⟩
  · cases h

theorem u64_ids {x : SV} {n : Int} (h : x.u64 = some n) (k : Nat) : x.idsLt k = true := by
  unfold SV.u64 at h
  split at h <;> first | rfl | cases h

theorem num256_ids {N : Ap} {x : SV} {n : Int} (h : x.num256 N = some n) (k : Nat) : x.idsLt k = true := by
  unfold SV.num256 at h
  split at h
  · split at h
    · rename_i ha hb hc hd
      simp [SV.idsLt, SV.idsLts, u64_ids ha k, u64_ids hb k, u64_ids hc k, u64_ids hd k]
    · cases h
  · cases h

def wordsV (a b c d : Int) : SV := .agg [.int .u64 a, .int .u64 b, .int .u64 c, .int .u64 d]

theorem num256_of {x : SV} {n : Int} (h : x.num256 apStd = some n) {u : Value} {m : List Pl} (hv : x.val m = some u) :
    ∃ a b c d, W a ∧ W b ∧ W c ∧ W d ∧ n = num4 a b c d ∧ (wordsV a b c d).val [] = some u := by
  unfold SV.num256 at h
  split at h
  · rename_i p q r s
    split at h
    · rename_i a b c d ha hb hc hd
      simp only [Option.some.injEq] at h
      simp only [SV.val, SV.vals, Option.map_eq_some_iff, Option.bind_eq_some_iff] at hv
      obtain ⟨vs, ⟨u1, h1, t1, ⟨u2, h2, t2, ⟨u3, h3, t3, ⟨u4, h4, t4, e4, rfl⟩, rfl⟩, rfl⟩, rfl⟩, rfl⟩ := hv
      simp only [Option.some.injEq] at e4
      subst e4
      obtain ⟨rfl, w1⟩ := u64_of ha h1
      obtain ⟨rfl, w2⟩ := u64_of hb h2
      obtain ⟨rfl, w3⟩ := u64_of hc h3
      obtain ⟨rfl, w4⟩ := u64_of hd h4
      refine ⟨a, b, c, d, w1, w2, w3, w4, h.symm, ?_⟩
      simp [wordsV, SV.val, SV.vals, W_u64 w1, W_u64 w2, W_u64 w3, W_u64 w4]
    · cases h
  · cases h

theorem vals_two {x y : SV} {us : List Value} {m : List Pl} (h : SV.vals m [x, y] = some us) : ∃ u v, us = [u, v] ∧ x.val m = some u ∧ y.val m = some v := by
  simp only [SV.vals, Option.map_eq_some_iff, Option.bind_eq_some_iff] at h
  obtain ⟨u, hu, t, ⟨v, hv, s, e, rfl⟩, rfl⟩ := h
  simp only [Option.some.injEq] at e
  subst e
  exact ⟨u, v, rfl, hu, hv⟩

theorem vals_sole {x : SV} {us : List Value} {m : List Pl} (h : SV.vals m [x] = some us) : ∃ u, us = [u] ∧ x.val m = some u := by
  simp only [SV.vals, Option.map_eq_some_iff, Option.bind_eq_some_iff] at h
  obtain ⟨u, hu, t, e, rfl⟩ := h
  simp only [Option.some.injEq] at e
  subst e
  exact ⟨u, rfl, hu⟩

/-- Two numbers as arguments. -/
theorem args_two {x y : SV} {a b : Int} (hx : x.num256 apStd = some a) (hy : y.num256 apStd = some b) {us : List Value} {m : List Pl} (h : SV.vals m [x, y] = some us) :
    ∃ a0 a1 a2 a3 b0 b1 b2 b3, (W a0 ∧ W a1 ∧ W a2 ∧ W a3) ∧ (W b0 ∧ W b1 ∧ W b2 ∧ W b3) ∧ a = num4 a0 a1 a2 a3 ∧ b = num4 b0 b1 b2 b3 ∧ SV.vals [] [wordsV a0 a1 a2 a3, wordsV b0 b1 b2 b3] = some us := by
  obtain ⟨u, v, rfl, hu, hv⟩ := vals_two h
  obtain ⟨a0, a1, a2, a3, h1, h2, h3, h4, e, f⟩ := num256_of hx hu
  obtain ⟨b0, b1, b2, b3, g1, g2, g3, g4, e', f'⟩ := num256_of hy hv
  exact ⟨a0, a1, a2, a3, b0, b1, b2, b3, ⟨h1, h2, h3, h4⟩, ⟨g1, g2, g3, g4⟩, e, e', by simp [SV.vals, f, f']⟩

def cmpF (N : Ap) : List SV → Bool × SV
  | [x, y] => match x.num256 N, y.num256 N with
    | some a, some b => (true, .int .i64 (ap2 N cmpI a b))
    | _, _ => (false, .bad)
  | _ => (false, .bad)

/-! ### Products -/

theorem mac {x y w c : Int} (hx : W x) (hy : W y) (hw : W w) (hc : W c) {l h : Int} (el : l = sum64 (sum64 (lo64 x y) w 0) c 0)
    (eh : h = ((hi64 x y + car64 (lo64 x y) w 0) % 18446744073709551616 + car64 (sum64 (lo64 x y) w 0) c 0) % 18446744073709551616) :
    W l ∧ W h ∧ l + 18446744073709551616 * h = x * y + w + c := by
  obtain ⟨h1, h2, h3, h4⟩ := hi64_w hx hy
  have h5 := mul_range (a := 18446744073709551615) (b := 18446744073709551615) (x := x) (y := y) (by unfold W at *; omega) (by unfold W at *; omega)
  generalize hi64 x y = hi at *
  generalize lo64 x y = lo at *
  generalize x * y = p at *
  subst el; subst eh
  clear hx hy
  unfold W sum64 car64 at *
  omega

abbrev D8 := Int × Int × Int × Int × Int × Int × Int × Int

def v8 : D8 → Int
  | (w0, w1, w2, w3, w4, w5, w6, w7) => w0 + 18446744073709551616 * w1 + 340282366920938463463374607431768211456 * w2 + 6277101735386680763835789423207666416102355444464034512896 * w3 + 115792089237316195423570985008687907853269984665640564039457584007913129639936 * w4 + 2135987035920910082395021706169552114602704522356652769947041607822219725780640550022962086936576 * w5 + 39402006196394479212279040100143613805079739270465446667948293404245721771497210611414266254884915640806627990306816 * w6 + 726838724295606890549323807888004534353641360687318060281490199180639288113397923326191050713763565560762521606266177933534601628614656 * w7
def W8 : D8 → Prop
  | (w0, w1, w2, w3, w4, w5, w6, w7) => W w0 ∧ W w1 ∧ W w2 ∧ W w3 ∧ W w4 ∧ W w5 ∧ W w6 ∧ W w7
def tail0 : Nat → D8 → Prop
  | 0, (_, _, _, _, w4, w5, w6, w7) => w4 = 0 ∧ w5 = 0 ∧ w6 = 0 ∧ w7 = 0
  | 1, (_, _, _, _, _, w5, w6, w7) => w5 = 0 ∧ w6 = 0 ∧ w7 = 0
  | 2, (_, _, _, _, _, _, w6, w7) => w6 = 0 ∧ w7 = 0
  | 3, (_, _, _, _, _, _, _, w7) => w7 = 0
  | _, _ => True
def pw : Nat → Int
  | 0 => 1
  | 1 => 18446744073709551616
  | 2 => 340282366920938463463374607431768211456
  | 3 => 6277101735386680763835789423207666416102355444464034512896
  | 4 => 115792089237316195423570985008687907853269984665640564039457584007913129639936
  | 5 => 2135987035920910082395021706169552114602704522356652769947041607822219725780640550022962086936576
  | 6 => 39402006196394479212279040100143613805079739270465446667948293404245721771497210611414266254884915640806627990306816
  | 7 => 726838724295606890549323807888004534353641360687318060281490199180639288113397923326191050713763565560762521606266177933534601628614656
  | _ => 13407807929942597099574024998205846127479365820592393377723561443721764030073546976801874298166903427690031858186486050853753882811946569946433649006084096
def part4 : Nat → Int → Int → Int → Int → Int
  | 0, _, _, _, _ => 0
  | 1, a, _, _, _ => a
  | 2, a, b, _, _ => a + 18446744073709551616 * b
  | 3, a, b, c, _ => a + 18446744073709551616 * b + 340282366920938463463374607431768211456 * c
  | _, a, b, c, d => num4 a b c d

theorem xpart0 (x a b c d : Int) : x * part4 0 a b c d = 0 := Int.mul_zero x
theorem xpart1 (x a b c d : Int) : x * part4 1 a b c d = x * a := rfl
theorem xpart2 (x a b c d : Int) : x * part4 2 a b c d = x * a + 18446744073709551616 * (x * b) := by
  show x * (a + 18446744073709551616 * b) = _
  rw [Int.mul_add, Int.mul_left_comm]
theorem xpart3 (x a b c d : Int) : x * part4 3 a b c d = x * a + 18446744073709551616 * (x * b) + 340282366920938463463374607431768211456 * (x * c) := by
  show x * (a + 18446744073709551616 * b + 340282366920938463463374607431768211456 * c) = _
  rw [Int.mul_add, Int.mul_add, Int.mul_left_comm x, Int.mul_left_comm x]
theorem xpart4 (x a b c d : Int) : x * part4 4 a b c d = x * a + 18446744073709551616 * (x * b) + 340282366920938463463374607431768211456 * (x * c) + 6277101735386680763835789423207666416102355444464034512896 * (x * d) := by
  show x * (a + 18446744073709551616 * b + 340282366920938463463374607431768211456 * c + 6277101735386680763835789423207666416102355444464034512896 * d) = _
  rw [Int.mul_add, Int.mul_add, Int.mul_add, Int.mul_left_comm x, Int.mul_left_comm x, Int.mul_left_comm x]

def mulm (a b : Int) : Int := a * b % M256
def mulh (a b : Int) : Int := a * b / M256

def mulOkO (a0 a1 a2 a3 b : Int) (n : Nat) (d : D8) : Prop := W8 d ∧ tail0 (4 - n) d ∧ v8 d = part4 (4 - n) a0 a1 a2 a3 * b
def mulOkI (i : Nat) (P x b0 b1 b2 b3 : Int) (n : Nat) (d : D8 × Int) : Prop := W8 d.1 ∧ W d.2 ∧ tail0 i d.1 ∧ v8 d.1 + pw (i + (4 - n)) * d.2 = P + pw i * (x * part4 (4 - n) b0 b1 b2 b3)

theorem mul_out {a b : Int} {w0 w1 w2 w3 w4 w5 w6 w7 : Int} (hw : W8 (w0, w1, w2, w3, w4, w5, w6, w7)) (e : v8 (w0, w1, w2, w3, w4, w5, w6, w7) = a * b) :
    (l0 (mulm a b) = w0 ∧ l1 (mulm a b) = w1 ∧ l2 (mulm a b) = w2 ∧ l3 (mulm a b) = w3) ∧ (l0 (mulh a b) = w4 ∧ l1 (mulh a b) = w5 ∧ l2 (mulh a b) = w6 ∧ l3 (mulh a b) = w7) := by
  obtain ⟨h0, h1, h2, h3, h4, h5, h6, h7⟩ := hw
  have r := num4_range h0 h1 h2 h3
  have e2 : a * b = num4 w0 w1 w2 w3 + M256 * num4 w4 w5 w6 w7 := by
    rw [← e]; simp only [v8]; unfold num4 M256; omega
  refine ⟨limbs_of h0 h1 h2 h3 (k := 0) ?_, limbs_of h4 h5 h6 h7 (k := 0) ?_⟩
  · unfold mulm; rw [e2]; unfold M256 at *; omega
  · unfold mulh; rw [e2]; unfold M256 at *; omega

def mulF (N : Ap) : List SV → Bool × SV
  | [x, y] => match x.num256 N, y.num256 N with
    | some a, some b => (true, .tup [numV N (ap2 N mulm a b), numV N (ap2 N mulh a b)])
    | _, _ => (false, .bad)
  | _ => (false, .bad)

theorem mulF_ids {N : Ap} {args : List SV} {v : SV} (hF : mulF N args = (true, v)) : SV.idsLts 0 args = true := by
  unfold mulF at hF
  split at hF
  · split at hF
    · rename_i ha hb
      simp [SV.idsLts, num256_ids ha, num256_ids hb]
    · cases hF
  · cases hF

/-! ### Digits of 32 bits -/

def dig32 (k : Nat) (n : Int) : Int := n / 2 ^ (32 * k) % 4294967296

abbrev D16 := Int × Int × Int × Int × Int × Int × Int × Int × Int × Int × Int × Int × Int × Int × Int × Int
def H (a : Int) : Prop := 0 ≤ a ∧ a < 4294967296
def v16 : D16 → Int
  | (w0, w1, w2, w3, w4, w5, w6, w7, w8, w9, w10, w11, w12, w13, w14, w15) => w0 + 4294967296 * w1 + 18446744073709551616 * w2 + 79228162514264337593543950336 * w3 + 340282366920938463463374607431768211456 * w4 + 1461501637330902918203684832716283019655932542976 * w5 + 6277101735386680763835789423207666416102355444464034512896 * w6 + 26959946667150639794667015087019630673637144422540572481103610249216 * w7 + 115792089237316195423570985008687907853269984665640564039457584007913129639936 * w8 + 497323236409786642155382248146820840100456150797347717440463976893159497012533375533056 * w9 + 2135987035920910082395021706169552114602704522356652769947041607822219725780640550022962086936576 * w10 + 9173994463960286046443283581208347763186259956673124494950355357547691504353939232280074212440502746218496 * w11 + 39402006196394479212279040100143613805079739270465446667948293404245721771497210611414266254884915640806627990306816 * w12 + 169230328010303641331690318856389386196071598838855992136870091590247882556495704531248437872567112920983350278405979725889536 * w13 + 726838724295606890549323807888004534353641360687318060281490199180639288113397923326191050713763565560762521606266177933534601628614656 * w14 + 3121748550315992231381597229793166305748598142664971150859156959625371738819765620120306103063491971159826931121406622895447975679288285306290176 * w15
def H16 : D16 → Prop
  | (w0, w1, w2, w3, w4, w5, w6, w7, w8, w9, w10, w11, w12, w13, w14, w15) => H w0 ∧ H w1 ∧ H w2 ∧ H w3 ∧ H w4 ∧ H w5 ∧ H w6 ∧ H w7 ∧ H w8 ∧ H w9 ∧ H w10 ∧ H w11 ∧ H w12 ∧ H w13 ∧ H w14 ∧ H w15
def tail16 : Nat → D16 → Prop
  | 0, (_, _, _, _, _, _, _, _, w8, w9, w10, w11, w12, w13, w14, w15) => w8 = 0 ∧ w9 = 0 ∧ w10 = 0 ∧ w11 = 0 ∧ w12 = 0 ∧ w13 = 0 ∧ w14 = 0 ∧ w15 = 0
  | 1, (_, _, _, _, _, _, _, _, _, w9, w10, w11, w12, w13, w14, w15) => w9 = 0 ∧ w10 = 0 ∧ w11 = 0 ∧ w12 = 0 ∧ w13 = 0 ∧ w14 = 0 ∧ w15 = 0
  | 2, (_, _, _, _, _, _, _, _, _, _, w10, w11, w12, w13, w14, w15) => w10 = 0 ∧ w11 = 0 ∧ w12 = 0 ∧ w13 = 0 ∧ w14 = 0 ∧ w15 = 0
  | 3, (_, _, _, _, _, _, _, _, _, _, _, w11, w12, w13, w14, w15) => w11 = 0 ∧ w12 = 0 ∧ w13 = 0 ∧ w14 = 0 ∧ w15 = 0
  | 4, (_, _, _, _, _, _, _, _, _, _, _, _, w12, w13, w14, w15) => w12 = 0 ∧ w13 = 0 ∧ w14 = 0 ∧ w15 = 0
  | 5, (_, _, _, _, _, _, _, _, _, _, _, _, _, w13, w14, w15) => w13 = 0 ∧ w14 = 0 ∧ w15 = 0
  | 6, (_, _, _, _, _, _, _, _, _, _, _, _, _, _, w14, w15) => w14 = 0 ∧ w15 = 0
  | 7, (_, _, _, _, _, _, _, _, _, _, _, _, _, _, _, w15) => w15 = 0
  | _, _ => True
def ph : Nat → Int
  | 0 => 1
  | 1 => 4294967296
  | 2 => 18446744073709551616
  | 3 => 79228162514264337593543950336
  | 4 => 340282366920938463463374607431768211456
  | 5 => 1461501637330902918203684832716283019655932542976
  | 6 => 6277101735386680763835789423207666416102355444464034512896
  | 7 => 26959946667150639794667015087019630673637144422540572481103610249216
  | 8 => 115792089237316195423570985008687907853269984665640564039457584007913129639936
  | 9 => 497323236409786642155382248146820840100456150797347717440463976893159497012533375533056
  | 10 => 2135987035920910082395021706169552114602704522356652769947041607822219725780640550022962086936576
  | 11 => 9173994463960286046443283581208347763186259956673124494950355357547691504353939232280074212440502746218496
  | 12 => 39402006196394479212279040100143613805079739270465446667948293404245721771497210611414266254884915640806627990306816
  | 13 => 169230328010303641331690318856389386196071598838855992136870091590247882556495704531248437872567112920983350278405979725889536
  | 14 => 726838724295606890549323807888004534353641360687318060281490199180639288113397923326191050713763565560762521606266177933534601628614656
  | 15 => 3121748550315992231381597229793166305748598142664971150859156959625371738819765620120306103063491971159826931121406622895447975679288285306290176
  | _ => 13407807929942597099574024998205846127479365820592393377723561443721764030073546976801874298166903427690031858186486050853753882811946569946433649006084096
def part8 : Nat → Int → Int → Int → Int → Int → Int → Int → Int → Int
  | 0, _, _, _, _, _, _, _, _ => 0
  | 1, a, _, _, _, _, _, _, _ => a
  | 2, a, b, _, _, _, _, _, _ => a + 4294967296 * b
  | 3, a, b, c, _, _, _, _, _ => a + 4294967296 * b + 18446744073709551616 * c
  | 4, a, b, c, d, _, _, _, _ => a + 4294967296 * b + 18446744073709551616 * c + 79228162514264337593543950336 * d
  | 5, a, b, c, d, e, _, _, _ => a + 4294967296 * b + 18446744073709551616 * c + 79228162514264337593543950336 * d + 340282366920938463463374607431768211456 * e
  | 6, a, b, c, d, e, f, _, _ => a + 4294967296 * b + 18446744073709551616 * c + 79228162514264337593543950336 * d + 340282366920938463463374607431768211456 * e + 1461501637330902918203684832716283019655932542976 * f
  | 7, a, b, c, d, e, f, g, _ => a + 4294967296 * b + 18446744073709551616 * c + 79228162514264337593543950336 * d + 340282366920938463463374607431768211456 * e + 1461501637330902918203684832716283019655932542976 * f + 6277101735386680763835789423207666416102355444464034512896 * g
  | _, a, b, c, d, e, f, g, h => a + 4294967296 * b + 18446744073709551616 * c + 79228162514264337593543950336 * d + 340282366920938463463374607431768211456 * e + 1461501637330902918203684832716283019655932542976 * f + 6277101735386680763835789423207666416102355444464034512896 * g + 26959946667150639794667015087019630673637144422540572481103610249216 * h
theorem ypart0 (x a b c d e f g h : Int) : x * part8 0 a b c d e f g h = 0 := by
  exact Int.mul_zero x
theorem ypart1 (x a b c d e f g h : Int) : x * part8 1 a b c d e f g h = x * a := by
  rfl
theorem ypart2 (x a b c d e f g h : Int) : x * part8 2 a b c d e f g h = x * a + 4294967296 * (x * b) := by
  show x * (a + 4294967296 * b) = _
  simp only [Int.mul_add]
  simp only [Int.mul_left_comm x]
theorem ypart3 (x a b c d e f g h : Int) : x * part8 3 a b c d e f g h = x * a + 4294967296 * (x * b) + 18446744073709551616 * (x * c) := by
  show x * (a + 4294967296 * b + 18446744073709551616 * c) = _
  simp only [Int.mul_add]
  simp only [Int.mul_left_comm x]
theorem ypart4 (x a b c d e f g h : Int) : x * part8 4 a b c d e f g h = x * a + 4294967296 * (x * b) + 18446744073709551616 * (x * c) + 79228162514264337593543950336 * (x * d) := by
  show x * (a + 4294967296 * b + 18446744073709551616 * c + 79228162514264337593543950336 * d) = _
  simp only [Int.mul_add]
  simp only [Int.mul_left_comm x]
theorem ypart5 (x a b c d e f g h : Int) : x * part8 5 a b c d e f g h = x * a + 4294967296 * (x * b) + 18446744073709551616 * (x * c) + 79228162514264337593543950336 * (x * d) + 340282366920938463463374607431768211456 * (x * e) := by
  show x * (a + 4294967296 * b + 18446744073709551616 * c + 79228162514264337593543950336 * d + 340282366920938463463374607431768211456 * e) = _
  simp only [Int.mul_add]
  simp only [Int.mul_left_comm x]
theorem ypart6 (x a b c d e f g h : Int) : x * part8 6 a b c d e f g h = x * a + 4294967296 * (x * b) + 18446744073709551616 * (x * c) + 79228162514264337593543950336 * (x * d) + 340282366920938463463374607431768211456 * (x * e) + 1461501637330902918203684832716283019655932542976 * (x * f) := by
  show x * (a + 4294967296 * b + 18446744073709551616 * c + 79228162514264337593543950336 * d + 340282366920938463463374607431768211456 * e + 1461501637330902918203684832716283019655932542976 * f) = _
  simp only [Int.mul_add]
  simp only [Int.mul_left_comm x]
theorem ypart7 (x a b c d e f g h : Int) : x * part8 7 a b c d e f g h = x * a + 4294967296 * (x * b) + 18446744073709551616 * (x * c) + 79228162514264337593543950336 * (x * d) + 340282366920938463463374607431768211456 * (x * e) + 1461501637330902918203684832716283019655932542976 * (x * f) + 6277101735386680763835789423207666416102355444464034512896 * (x * g) := by
  show x * (a + 4294967296 * b + 18446744073709551616 * c + 79228162514264337593543950336 * d + 340282366920938463463374607431768211456 * e + 1461501637330902918203684832716283019655932542976 * f + 6277101735386680763835789423207666416102355444464034512896 * g) = _
  simp only [Int.mul_add]
  simp only [Int.mul_left_comm x]
theorem ypart8 (x a b c d e f g h : Int) : x * part8 8 a b c d e f g h = x * a + 4294967296 * (x * b) + 18446744073709551616 * (x * c) + 79228162514264337593543950336 * (x * d) + 340282366920938463463374607431768211456 * (x * e) + 1461501637330902918203684832716283019655932542976 * (x * f) + 6277101735386680763835789423207666416102355444464034512896 * (x * g) + 26959946667150639794667015087019630673637144422540572481103610249216 * (x * h) := by
  show x * (a + 4294967296 * b + 18446744073709551616 * c + 79228162514264337593543950336 * d + 340282366920938463463374607431768211456 * e + 1461501637330902918203684832716283019655932542976 * f + 6277101735386680763835789423207666416102355444464034512896 * g + 26959946667150639794667015087019630673637144422540572481103610249216 * h) = _
  simp only [Int.mul_add]
  simp only [Int.mul_left_comm x]

def wideOkO (x0 x1 x2 x3 x4 x5 x6 x7 b : Int) (n : Nat) (d : D16) : Prop := H16 d ∧ tail16 (8 - n) d ∧ v16 d = part8 (8 - n) x0 x1 x2 x3 x4 x5 x6 x7 * b
def wideOkI (i : Nat) (P x y0 y1 y2 y3 y4 y5 y6 y7 : Int) (n : Nat) (d : D16 × Int) : Prop := H16 d.1 ∧ H d.2 ∧ tail16 i d.1 ∧ v16 d.1 + ph (i + (8 - n)) * d.2 = P + ph i * (x * part8 (8 - n) y0 y1 y2 y3 y4 y5 y6 y7)

theorem mac32 {x y w c : Int} (hx : H x) (hy : H y) (hw : H w) (hc : H c) {t l h : Int} (et : t = ((w + x * y % 18446744073709551616) % 18446744073709551616 + c) % 18446744073709551616) (el : l = t % 4294967296) (eh : h = t / 4294967296) :
    W t ∧ H l ∧ H h ∧ l + 4294967296 * h = x * y + w + c := by
  have h5 := mul_range (a := 4294967295) (b := 4294967295) (x := x) (y := y) (by unfold H at *; omega) (by unfold H at *; omega)
  generalize x * y = p at *
  clear hx hy
  unfold H W at *
  omega

def SV.num16 (N : Ap) (n : Int) : List SV := [.int .u64 (ap2 N dig32 0 n), .int .u64 (ap2 N dig32 1 n), .int .u64 (ap2 N dig32 2 n), .int .u64 (ap2 N dig32 3 n), .int .u64 (ap2 N dig32 4 n), .int .u64 (ap2 N dig32 5 n), .int .u64 (ap2 N dig32 6 n), .int .u64 (ap2 N dig32 7 n), .int .u64 (ap2 N dig32 8 n), .int .u64 (ap2 N dig32 9 n), .int .u64 (ap2 N dig32 10 n), .int .u64 (ap2 N dig32 11 n), .int .u64 (ap2 N dig32 12 n), .int .u64 (ap2 N dig32 13 n), .int .u64 (ap2 N dig32 14 n), .int .u64 (ap2 N dig32 15 n)]

def halvesF (N : Ap) : List SV → Bool × SV
  | [x] => match x.num256 N with
    | some a => (true, .agg [.int .u64 (ap2 N dig32 0 a), .int .u64 (ap2 N dig32 1 a), .int .u64 (ap2 N dig32 2 a), .int .u64 (ap2 N dig32 3 a), .int .u64 (ap2 N dig32 4 a), .int .u64 (ap2 N dig32 5 a), .int .u64 (ap2 N dig32 6 a), .int .u64 (ap2 N dig32 7 a)])
    | _ => (false, .bad)
  | _ => (false, .bad)

def wideF (N : Ap) : List SV → Bool × SV
  | [x, y] => match x.num256 N, y.num256 N with
    | some a, some b => (true, .agg (SV.num16 N (a * b)))
    | _, _ => (false, .bad)
  | _ => (false, .bad)

theorem halvesF_ids {N : Ap} {args : List SV} {v : SV} (hF : halvesF N args = (true, v)) : SV.idsLts 0 args = true := by
  unfold halvesF at hF
  split at hF
  · split at hF
    · rename_i ha
      simp [SV.idsLts, num256_ids ha]
    · cases hF
  · cases hF

theorem wideF_ids {N : Ap} {args : List SV} {v : SV} (hF : wideF N args = (true, v)) : SV.idsLts 0 args = true := by
  unfold wideF at hF
  split at hF
  · split at hF
    · rename_i ha hb
      simp [SV.idsLts, num256_ids ha, num256_ids hb]
    · cases hF
  · cases hF

theorem dig32_of {n w0 w1 w2 w3 w4 w5 w6 w7 w8 w9 w10 w11 w12 w13 w14 w15 : Int} (hw : H16 (w0, w1, w2, w3, w4, w5, w6, w7, w8, w9, w10, w11, w12, w13, w14, w15)) (h : v16 (w0, w1, w2, w3, w4, w5, w6, w7, w8, w9, w10, w11, w12, w13, w14, w15) = n) : dig32 0 n = w0 ∧ dig32 1 n = w1 ∧ dig32 2 n = w2 ∧ dig32 3 n = w3 ∧ dig32 4 n = w4 ∧ dig32 5 n = w5 ∧ dig32 6 n = w6 ∧ dig32 7 n = w7 ∧ dig32 8 n = w8 ∧ dig32 9 n = w9 ∧ dig32 10 n = w10 ∧ dig32 11 n = w11 ∧ dig32 12 n = w12 ∧ dig32 13 n = w13 ∧ dig32 14 n = w14 ∧ dig32 15 n = w15 := by
  simp only [v16] at h
  obtain ⟨h0, h1, h2, h3, h4, h5, h6, h7, h8, h9, h10, h11, h12, h13, h14, h15⟩ := hw
  unfold H at *
  have e0 : n / 1 = w0 + 4294967296 * w1 + 18446744073709551616 * w2 + 79228162514264337593543950336 * w3 + 340282366920938463463374607431768211456 * w4 + 1461501637330902918203684832716283019655932542976 * w5 + 6277101735386680763835789423207666416102355444464034512896 * w6 + 26959946667150639794667015087019630673637144422540572481103610249216 * w7 + 115792089237316195423570985008687907853269984665640564039457584007913129639936 * w8 + 497323236409786642155382248146820840100456150797347717440463976893159497012533375533056 * w9 + 2135987035920910082395021706169552114602704522356652769947041607822219725780640550022962086936576 * w10 + 9173994463960286046443283581208347763186259956673124494950355357547691504353939232280074212440502746218496 * w11 + 39402006196394479212279040100143613805079739270465446667948293404245721771497210611414266254884915640806627990306816 * w12 + 169230328010303641331690318856389386196071598838855992136870091590247882556495704531248437872567112920983350278405979725889536 * w13 + 726838724295606890549323807888004534353641360687318060281490199180639288113397923326191050713763565560762521606266177933534601628614656 * w14 + 3121748550315992231381597229793166305748598142664971150859156959625371738819765620120306103063491971159826931121406622895447975679288285306290176 * w15 := by omega
  have e1 : n / 4294967296 = w1 + 4294967296 * w2 + 18446744073709551616 * w3 + 79228162514264337593543950336 * w4 + 340282366920938463463374607431768211456 * w5 + 1461501637330902918203684832716283019655932542976 * w6 + 6277101735386680763835789423207666416102355444464034512896 * w7 + 26959946667150639794667015087019630673637144422540572481103610249216 * w8 + 115792089237316195423570985008687907853269984665640564039457584007913129639936 * w9 + 497323236409786642155382248146820840100456150797347717440463976893159497012533375533056 * w10 + 2135987035920910082395021706169552114602704522356652769947041607822219725780640550022962086936576 * w11 + 9173994463960286046443283581208347763186259956673124494950355357547691504353939232280074212440502746218496 * w12 + 39402006196394479212279040100143613805079739270465446667948293404245721771497210611414266254884915640806627990306816 * w13 + 169230328010303641331690318856389386196071598838855992136870091590247882556495704531248437872567112920983350278405979725889536 * w14 + 726838724295606890549323807888004534353641360687318060281490199180639288113397923326191050713763565560762521606266177933534601628614656 * w15 := by omega
  have e2 : n / 18446744073709551616 = w2 + 4294967296 * w3 + 18446744073709551616 * w4 + 79228162514264337593543950336 * w5 + 340282366920938463463374607431768211456 * w6 + 1461501637330902918203684832716283019655932542976 * w7 + 6277101735386680763835789423207666416102355444464034512896 * w8 + 26959946667150639794667015087019630673637144422540572481103610249216 * w9 + 115792089237316195423570985008687907853269984665640564039457584007913129639936 * w10 + 497323236409786642155382248146820840100456150797347717440463976893159497012533375533056 * w11 + 2135987035920910082395021706169552114602704522356652769947041607822219725780640550022962086936576 * w12 + 9173994463960286046443283581208347763186259956673124494950355357547691504353939232280074212440502746218496 * w13 + 39402006196394479212279040100143613805079739270465446667948293404245721771497210611414266254884915640806627990306816 * w14 + 169230328010303641331690318856389386196071598838855992136870091590247882556495704531248437872567112920983350278405979725889536 * w15 := by omega
  have e3 : n / 79228162514264337593543950336 = w3 + 4294967296 * w4 + 18446744073709551616 * w5 + 79228162514264337593543950336 * w6 + 340282366920938463463374607431768211456 * w7 + 1461501637330902918203684832716283019655932542976 * w8 + 6277101735386680763835789423207666416102355444464034512896 * w9 + 26959946667150639794667015087019630673637144422540572481103610249216 * w10 + 115792089237316195423570985008687907853269984665640564039457584007913129639936 * w11 + 497323236409786642155382248146820840100456150797347717440463976893159497012533375533056 * w12 + 2135987035920910082395021706169552114602704522356652769947041607822219725780640550022962086936576 * w13 + 9173994463960286046443283581208347763186259956673124494950355357547691504353939232280074212440502746218496 * w14 + 39402006196394479212279040100143613805079739270465446667948293404245721771497210611414266254884915640806627990306816 * w15 := by omega
  have e4 : n / 340282366920938463463374607431768211456 = w4 + 4294967296 * w5 + 18446744073709551616 * w6 + 79228162514264337593543950336 * w7 + 340282366920938463463374607431768211456 * w8 + 1461501637330902918203684832716283019655932542976 * w9 + 6277101735386680763835789423207666416102355444464034512896 * w10 + 26959946667150639794667015087019630673637144422540572481103610249216 * w11 + 115792089237316195423570985008687907853269984665640564039457584007913129639936 * w12 + 497323236409786642155382248146820840100456150797347717440463976893159497012533375533056 * w13 + 2135987035920910082395021706169552114602704522356652769947041607822219725780640550022962086936576 * w14 + 9173994463960286046443283581208347763186259956673124494950355357547691504353939232280074212440502746218496 * w15 := by omega
  have e5 : n / 1461501637330902918203684832716283019655932542976 = w5 + 4294967296 * w6 + 18446744073709551616 * w7 + 79228162514264337593543950336 * w8 + 340282366920938463463374607431768211456 * w9 + 1461501637330902918203684832716283019655932542976 * w10 + 6277101735386680763835789423207666416102355444464034512896 * w11 + 26959946667150639794667015087019630673637144422540572481103610249216 * w12 + 115792089237316195423570985008687907853269984665640564039457584007913129639936 * w13 + 497323236409786642155382248146820840100456150797347717440463976893159497012533375533056 * w14 + 2135987035920910082395021706169552114602704522356652769947041607822219725780640550022962086936576 * w15 := by omega
  have e6 : n / 6277101735386680763835789423207666416102355444464034512896 = w6 + 4294967296 * w7 + 18446744073709551616 * w8 + 79228162514264337593543950336 * w9 + 340282366920938463463374607431768211456 * w10 + 1461501637330902918203684832716283019655932542976 * w11 + 6277101735386680763835789423207666416102355444464034512896 * w12 + 26959946667150639794667015087019630673637144422540572481103610249216 * w13 + 115792089237316195423570985008687907853269984665640564039457584007913129639936 * w14 + 497323236409786642155382248146820840100456150797347717440463976893159497012533375533056 * w15 := by omega
  have e7 : n / 26959946667150639794667015087019630673637144422540572481103610249216 = w7 + 4294967296 * w8 + 18446744073709551616 * w9 + 79228162514264337593543950336 * w10 + 340282366920938463463374607431768211456 * w11 + 1461501637330902918203684832716283019655932542976 * w12 + 6277101735386680763835789423207666416102355444464034512896 * w13 + 26959946667150639794667015087019630673637144422540572481103610249216 * w14 + 115792089237316195423570985008687907853269984665640564039457584007913129639936 * w15 := by omega
  have e8 : n / 115792089237316195423570985008687907853269984665640564039457584007913129639936 = w8 + 4294967296 * w9 + 18446744073709551616 * w10 + 79228162514264337593543950336 * w11 + 340282366920938463463374607431768211456 * w12 + 1461501637330902918203684832716283019655932542976 * w13 + 6277101735386680763835789423207666416102355444464034512896 * w14 + 26959946667150639794667015087019630673637144422540572481103610249216 * w15 := by omega
  have e9 : n / 497323236409786642155382248146820840100456150797347717440463976893159497012533375533056 = w9 + 4294967296 * w10 + 18446744073709551616 * w11 + 79228162514264337593543950336 * w12 + 340282366920938463463374607431768211456 * w13 + 1461501637330902918203684832716283019655932542976 * w14 + 6277101735386680763835789423207666416102355444464034512896 * w15 := by omega
  have e10 : n / 2135987035920910082395021706169552114602704522356652769947041607822219725780640550022962086936576 = w10 + 4294967296 * w11 + 18446744073709551616 * w12 + 79228162514264337593543950336 * w13 + 340282366920938463463374607431768211456 * w14 + 1461501637330902918203684832716283019655932542976 * w15 := by omega
  have e11 : n / 9173994463960286046443283581208347763186259956673124494950355357547691504353939232280074212440502746218496 = w11 + 4294967296 * w12 + 18446744073709551616 * w13 + 79228162514264337593543950336 * w14 + 340282366920938463463374607431768211456 * w15 := by omega
  have e12 : n / 39402006196394479212279040100143613805079739270465446667948293404245721771497210611414266254884915640806627990306816 = w12 + 4294967296 * w13 + 18446744073709551616 * w14 + 79228162514264337593543950336 * w15 := by omega
  have e13 : n / 169230328010303641331690318856389386196071598838855992136870091590247882556495704531248437872567112920983350278405979725889536 = w13 + 4294967296 * w14 + 18446744073709551616 * w15 := by omega
  have e14 : n / 726838724295606890549323807888004534353641360687318060281490199180639288113397923326191050713763565560762521606266177933534601628614656 = w14 + 4294967296 * w15 := by omega
  have e15 : n / 3121748550315992231381597229793166305748598142664971150859156959625371738819765620120306103063491971159826931121406622895447975679288285306290176 = w15 := by omega
  have s : ∀ k : Nat, dig32 k n = n / 2 ^ (32 * k) % 4294967296 := fun _ => rfl
  refine ⟨?_, ?_, ?_, ?_, ?_, ?_, ?_, ?_, ?_, ?_, ?_, ?_, ?_, ?_, ?_, ?_⟩
  · rw [s, show (2 ^ (32 * 0) : Int) = 1 from rfl, e0]; omega
  · rw [s, show (2 ^ (32 * 1) : Int) = 4294967296 from rfl, e1]; omega
  · rw [s, show (2 ^ (32 * 2) : Int) = 18446744073709551616 from rfl, e2]; omega
  · rw [s, show (2 ^ (32 * 3) : Int) = 79228162514264337593543950336 from rfl, e3]; omega
  · rw [s, show (2 ^ (32 * 4) : Int) = 340282366920938463463374607431768211456 from rfl, e4]; omega
  · rw [s, show (2 ^ (32 * 5) : Int) = 1461501637330902918203684832716283019655932542976 from rfl, e5]; omega
  · rw [s, show (2 ^ (32 * 6) : Int) = 6277101735386680763835789423207666416102355444464034512896 from rfl, e6]; omega
  · rw [s, show (2 ^ (32 * 7) : Int) = 26959946667150639794667015087019630673637144422540572481103610249216 from rfl, e7]; omega
  · rw [s, show (2 ^ (32 * 8) : Int) = 115792089237316195423570985008687907853269984665640564039457584007913129639936 from rfl, e8]; omega
  · rw [s, show (2 ^ (32 * 9) : Int) = 497323236409786642155382248146820840100456150797347717440463976893159497012533375533056 from rfl, e9]; omega
  · rw [s, show (2 ^ (32 * 10) : Int) = 2135987035920910082395021706169552114602704522356652769947041607822219725780640550022962086936576 from rfl, e10]; omega
  · rw [s, show (2 ^ (32 * 11) : Int) = 9173994463960286046443283581208347763186259956673124494950355357547691504353939232280074212440502746218496 from rfl, e11]; omega
  · rw [s, show (2 ^ (32 * 12) : Int) = 39402006196394479212279040100143613805079739270465446667948293404245721771497210611414266254884915640806627990306816 from rfl, e12]; omega
  · rw [s, show (2 ^ (32 * 13) : Int) = 169230328010303641331690318856389386196071598838855992136870091590247882556495704531248437872567112920983350278405979725889536 from rfl, e13]; omega
  · rw [s, show (2 ^ (32 * 14) : Int) = 726838724295606890549323807888004534353641360687318060281490199180639288113397923326191050713763565560762521606266177933534601628614656 from rfl, e14]; omega
  · rw [s, show (2 ^ (32 * 15) : Int) = 3121748550315992231381597229793166305748598142664971150859156959625371738819765620120306103063491971159826931121406622895447975679288285306290176 from rfl, e15]; omega

def mul64F (N : Ap) : List SV → Bool × SV
  | [x, y] => match x.u64, y.u64 with
    | some a, some b => (true, .tup [.int .u64 (ap2 N hi64 a b), .int .u64 (ap2 N lo64 a b)])
    | _, _ => (false, .bad)
  | _ => (false, .bad)

theorem mul64F_ids {N : Ap} {args : List SV} {v : SV} (hF : mul64F N args = (true, v)) : SV.idsLts 0 args = true := by
  unfold mul64F at hF
  split at hF
  · split at hF
    · rename_i ha hb
      simp [SV.idsLts, u64_ids ha, u64_ids hb]
    · cases hF
  · cases hF

end Go.Eng
