/- Plain laws on numbers modulo an odd one, in Montgomery's way, and what the functions on them hand back. It has no conditions. -/
import Derived.Test.YtnhobbdijdbbeaaNum2
namespace Go.Eng
set_option linter.unusedSimpArgs false
set_option linter.unusedVariables false
set_option exponentiation.threshold 600
set_option maxRecDepth 100000

/-- A statement, shut: so that nothing reckons it ahead of time. -/
inductive Shut (p : Prop) : Prop where
  | mk (h : p) : Shut p
theorem Shut.out {p : Prop} (h : Shut p) : p := by cases h; assumption

theorem con_shut {P : Program} {f : FuncId} {fn : Func} {c : Code} (hf : P.funcs[f]? = some fn) (hb : fn.body = some c) (hname : (fn.name == "runtime.NumGoroutine") = false) {F : List SV → Bool × SV}
    (h : ∀ (args : List SV) (v : SV) (us : List Value), F args = (true, v) → SV.vals [] args = some us → ∃ (C : Cx) (args' : List SV), Good P C 0 ∧ C.gl = [] ∧ codeOk C fn.ntmps c = true ∧ SV.vals [] args' = some us ∧ args'.length ≤ fn.ntmps ∧ Shut (afun C fn args' [] (FinP v)))
    (hid : ∀ (args : List SV) (v : SV), F args = (true, v) → SV.idsLts 0 args = true) : Con P f F :=
  con_of hf hb hname (fun args v us hF hv => by
    obtain ⟨C, args', h1, h2, h3, h4, h5, h6⟩ := h args v us hF hv
    exact ⟨C, args', h1, h2, h3, h4, h5, h6.out⟩) hid

/-! ### Numbers of six words -/

def num6 (a b c d e f : Int) : Int := num4 a b c d + 115792089237316195423570985008687907853269984665640564039457584007913129639936 * e + 2135987035920910082395021706169552114602704522356652769947041607822219725780640550022962086936576 * f
def l4 (n : Int) : Int := n / 115792089237316195423570985008687907853269984665640564039457584007913129639936 % 18446744073709551616
def l5 (n : Int) : Int := n / 2135987035920910082395021706169552114602704522356652769947041607822219725780640550022962086936576 % 18446744073709551616
def M384 : Int := 39402006196394479212279040100143613805079739270465446667948293404245721771497210611414266254884915640806627990306816

theorem l4_w (n : Int) : W (l4 n) := by unfold W l4; omega
theorem l5_w (n : Int) : W (l5 n) := by unfold W l5; omega

theorem limbs6_of {n a b c d e f k : Int} (ha : W a) (hb : W b) (hc : W c) (hd : W d) (he : W e) (hf : W f) (h : n = num6 a b c d e f + M384 * k) : l0 n = a ∧ l1 n = b ∧ l2 n = c ∧ l3 n = d ∧ l4 n = e ∧ l5 n = f := by
  unfold W at *
  unfold num6 num4 M384 at h
  have h0 : n / 18446744073709551616 = b + 18446744073709551616 * c + 340282366920938463463374607431768211456 * d + 6277101735386680763835789423207666416102355444464034512896 * e + 115792089237316195423570985008687907853269984665640564039457584007913129639936 * f + 2135987035920910082395021706169552114602704522356652769947041607822219725780640550022962086936576 * k := by omega
  have h1 : n / 340282366920938463463374607431768211456 = c + 18446744073709551616 * d + 340282366920938463463374607431768211456 * e + 6277101735386680763835789423207666416102355444464034512896 * f + 115792089237316195423570985008687907853269984665640564039457584007913129639936 * k := by omega
  have h2 : n / 6277101735386680763835789423207666416102355444464034512896 = d + 18446744073709551616 * e + 340282366920938463463374607431768211456 * f + 6277101735386680763835789423207666416102355444464034512896 * k := by omega
  have h3 : n / 115792089237316195423570985008687907853269984665640564039457584007913129639936 = e + 18446744073709551616 * f + 340282366920938463463374607431768211456 * k := by omega
  have h4 : n / 2135987035920910082395021706169552114602704522356652769947041607822219725780640550022962086936576 = f + 18446744073709551616 * k := by omega
  unfold l0 l1 l2 l3 l4 l5
  rw [h0, h1, h2, h3, h4]
  clear h0 h1 h2 h3 h4
  omega

theorem num6_limbs {n : Int} (h0 : 0 ≤ n) (h1 : n < M384) : num6 (l0 n) (l1 n) (l2 n) (l3 n) (l4 n) (l5 n) = n := by
  unfold num6 num4 l0 l1 l2 l3 l4 l5 M384 at *
  omega

theorem num6_down {n : Int} (h0 : 0 ≤ n) (h1 : n < M384) : num6 (l1 n) (l2 n) (l3 n) (l4 n) (l5 n) 0 = n / 18446744073709551616 := by
  unfold num6 num4 l1 l2 l3 l4 l5 M384 at *
  omega

def stepn (t x a : Int) : Int := t + x * a

/-- One round of a product in Montgomery's way. -/
theorem mont_round {M n k b x T n1 n2 T' : Int} (hn : n * M = 18446744073709551616 * k - 1) (hM : 0 < M) (hM2 : M < M256) (hb : 0 ≤ b) (hb2 : b < M256) (hx : W x) (hT : 0 ≤ T) (hT2 : T < b + M)
    (e1 : n1 = stepn T x b) (e2 : n2 = stepn (num6 (l0 n1) (l1 n1) (l2 n1) (l3 n1) (l4 n1) (l5 n1)) (l0 n1 * n % 18446744073709551616) M) (e3 : T' = num6 (l1 n2) (l2 n2) (l3 n2) (l4 n2) (l5 n2) 0) :
    18446744073709551616 * T' = T + x * b + (l0 n1 * n % 18446744073709551616) * M ∧ 0 ≤ T' ∧ T' < b + M := by
  unfold stepn at e1 e2
  unfold W at hx
  have hq : 0 ≤ l0 n1 * n % 18446744073709551616 ∧ l0 n1 * n % 18446744073709551616 ≤ 18446744073709551615 := by omega
  have hqM : (l0 n1 * n % 18446744073709551616) * M = 18446744073709551616 * (l0 n1 * k - l0 n1 * n / 18446744073709551616 * M) - l0 n1 := by
    have h := Int.emod_add_mul_ediv (l0 n1 * n) 18446744073709551616
    have h' : l0 n1 * n % 18446744073709551616 = l0 n1 * n - 18446744073709551616 * (l0 n1 * n / 18446744073709551616) := by omega
    rw [h', Int.sub_mul, Int.mul_assoc (l0 n1) n M, hn, Int.mul_sub, Int.mul_one, Int.mul_sub, Int.mul_assoc, Int.mul_left_comm (l0 n1)]
    omega
  have r1 := mul_range (x := x) (y := b) (a := 18446744073709551615) (b := b) ⟨hx.1, by omega⟩ ⟨hb, Int.le_refl _⟩
  have r2 := mul_range (y := M) (b := M) hq ⟨by omega, Int.le_refl _⟩
  have hl0 : l0 n1 = n1 % 18446744073709551616 := rfl
  generalize hQ : l0 n1 * n % 18446744073709551616 = Q at *
  generalize l0 n1 * k - l0 n1 * n / 18446744073709551616 * M = J at *
  generalize hxb : x * b = xb at *
  generalize hQM : Q * M = QM at *
  have b1 : 0 ≤ n1 ∧ n1 < M384 := by unfold M256 M384 at *; omega
  rw [num6_limbs b1.1 b1.2] at e2
  have b2 : 0 ≤ n2 ∧ n2 < M384 := by unfold M256 M384 at *; omega
  rw [num6_down b2.1 b2.2] at e3
  have hdvd : n2 = 18446744073709551616 * (n1 / 18446744073709551616 + J) := by omega
  subst e3
  refine ⟨?_, ?_, ?_⟩ <;> omega

/-! ### A step's words -/

theorem step_words {t0 t1 t2 t3 t4 t5 x b0 b1 b2 b3 : Int} (ht : W t0 ∧ W t1 ∧ W t2 ∧ W t3 ∧ W t4 ∧ W t5) (hx : W x) (hb : W b0 ∧ W b1 ∧ W b2 ∧ W b3) {y0 y1 y2 y3 y4 y5 h0 h1 h2 h3 : Int}
    (e0 : y0 = sum64 (sum64 (lo64 x b0) t0 0) 0 0) (g0 : h0 = ((hi64 x b0 + car64 (lo64 x b0) t0 0) % 18446744073709551616 + car64 (sum64 (lo64 x b0) t0 0) 0 0) % 18446744073709551616)
    (e1 : y1 = sum64 (sum64 (lo64 x b1) t1 0) h0 0) (g1 : h1 = ((hi64 x b1 + car64 (lo64 x b1) t1 0) % 18446744073709551616 + car64 (sum64 (lo64 x b1) t1 0) h0 0) % 18446744073709551616)
    (e2 : y2 = sum64 (sum64 (lo64 x b2) t2 0) h1 0) (g2 : h2 = ((hi64 x b2 + car64 (lo64 x b2) t2 0) % 18446744073709551616 + car64 (sum64 (lo64 x b2) t2 0) h1 0) % 18446744073709551616)
    (e3 : y3 = sum64 (sum64 (lo64 x b3) t3 0) h2 0) (g3 : h3 = ((hi64 x b3 + car64 (lo64 x b3) t3 0) % 18446744073709551616 + car64 (sum64 (lo64 x b3) t3 0) h2 0) % 18446744073709551616)
    (e4 : y4 = sum64 t4 h3 0) (e5 : y5 = (t5 + car64 t4 h3 0) % 18446744073709551616) :
    let n := stepn (num6 t0 t1 t2 t3 t4 t5) x (num4 b0 b1 b2 b3); l0 n = y0 ∧ l1 n = y1 ∧ l2 n = y2 ∧ l3 n = y3 ∧ l4 n = y4 ∧ l5 n = y5 := by
  obtain ⟨k0, k1, k2, k3, k4, k5⟩ := ht
  obtain ⟨c0, c1, c2, c3⟩ := hb
  have z : W 0 := by unfold W; omega
  obtain ⟨p0, q0, r0⟩ := mac hx c0 k0 z e0 g0
  obtain ⟨p1, q1, r1⟩ := mac hx c1 k1 q0 e1 g1
  obtain ⟨p2, q2, r2⟩ := mac hx c2 k2 q1 e2 g2
  obtain ⟨p3, q3, r3⟩ := mac hx c3 k3 q2 e3 g3
  clear e0 g0 e1 g1 e2 g2 e3 g3
  refine limbs6_of (k := (t5 + car64 t4 h3 0) / 18446744073709551616) p0 p1 p2 p3 (by rw [e4]; exact sum64_w _ _ _) (by rw [e5]; unfold W; omega) ?_
  unfold stepn num6 num4 M384
  simp only [Int.mul_add, Int.mul_left_comm x]
  unfold sum64 at e4
  unfold car64 at *
  generalize x * b0 = z0 at *
  generalize x * b1 = z1 at *
  generalize x * b2 = z2 at *
  generalize x * b3 = z3 at *
  omega

/-! ### The two moduli -/

def qN : Int := 115792089210356248762697446949407573529996955224135760342422259061068512044369
def pN : Int := 115792089210356248762697446949407573530086143415290314195533631308867097853951
def rOf (M : Int) : Int := if M = qN then 43790243014242295660885426880012836369732278457577312309071968676491870960761 else 115792089183396302114378112356516095823261736990586219612555396166510339686400
def okMod (M n : Int) : Bool := (decide (M = qN) && decide (n = 14758798090332847183)) || (decide (M = pN) && decide (n = 1))
def mmul (M a b : Int) : Int := a * b * rOf M % M
def mcond (M a b : Int) : Bool := decide (a < M) || decide (b < M)

theorem okMod_spec {M n : Int} (h : okMod M n = true) : (∃ k, n * M = 18446744073709551616 * k - 1) ∧ (∃ s, M256 * rOf M = 1 + M * s) ∧ 57896044618658097711785492504343953926634992332820282019728792003956564819968 < M ∧ M < M256 ∧ M % 2 = 1 := by
  unfold okMod at h
  simp only [Bool.or_eq_true, Bool.and_eq_true, decide_eq_true_eq] at h
  rcases h with ⟨rfl, rfl⟩ | ⟨rfl, rfl⟩
  · refine ⟨⟨92642477083479937529731757477833778746952469466660261742446881162473064518108, by decide⟩, ⟨43790243024438006127650828685417305984841428635278707415088219106730833919055, by decide⟩, by decide, by decide, by decide⟩
  · refine ⟨⟨6277101733925179126845168871924920046849447032244165148672, by decide⟩, ⟨115792089210356248768974548684794254293921932838497980611635986753331132366849, by decide⟩, by decide, by decide, by decide⟩

/-- What four rounds give: the product by 2^256, once or twice the modulus at most. -/
theorem mont_val {M n a b x0 x1 x2 x3 q0 q1 q2 q3 T1 T2 T3 T4 : Int} (h : okMod M n = true) (ha : a = num4 x0 x1 x2 x3) (hW : W x0 ∧ W x1 ∧ W x2 ∧ W x3) (hb : 0 ≤ b) (hb2 : b < M256) (hc : a < M ∨ b < M)
    (h0 : 0 ≤ q0 ∧ q0 < 18446744073709551616) (h1 : 0 ≤ q1 ∧ q1 < 18446744073709551616) (h2 : 0 ≤ q2 ∧ q2 < 18446744073709551616) (h3 : 0 ≤ q3 ∧ q3 < 18446744073709551616)
    (e1 : 18446744073709551616 * T1 = 0 + x0 * b + q0 * M) (e2 : 18446744073709551616 * T2 = T1 + x1 * b + q1 * M) (e3 : 18446744073709551616 * T3 = T2 + x2 * b + q2 * M) (e4 : 18446744073709551616 * T4 = T3 + x3 * b + q3 * M) (hT : T4 < b + M) (hT0 : 0 ≤ T4) :
    T4 < 2 * M ∧ T4 % M = mmul M a b := by
  obtain ⟨_, ⟨s, hs⟩, hM1, hM2, _⟩ := okMod_spec h
  obtain ⟨w0, w1, w2, w3⟩ := hW
  have key : M256 * T4 = a * b + (q0 + 18446744073709551616 * q1 + 340282366920938463463374607431768211456 * q2 + 6277101735386680763835789423207666416102355444464034512896 * q3) * M := by
    rw [ha]; unfold num4 M256
    simp only [Int.add_mul, Int.mul_assoc]
    omega
  have hQ : 0 ≤ (q0 + 18446744073709551616 * q1 + 340282366920938463463374607431768211456 * q2 + 6277101735386680763835789423207666416102355444464034512896 * q3) ∧ (q0 + 18446744073709551616 * q1 + 340282366920938463463374607431768211456 * q2 + 6277101735386680763835789423207666416102355444464034512896 * q3) ≤ M256 - 1 := by
    unfold M256; omega
  generalize (q0 + 18446744073709551616 * q1 + 340282366920938463463374607431768211456 * q2 + 6277101735386680763835789423207666416102355444464034512896 * q3) = Q at *
  have ra : 0 ≤ a ∧ a < M256 := by rw [ha]; unfold num4 M256; unfold W at *; omega
  constructor
  · rcases hc with hc | hc
    · have r1 := mul_range (x := a) (y := b) (a := M) (b := M256) ⟨ra.1, by omega⟩ ⟨hb, by omega⟩
      have r2 := mul_range (x := Q) (y := M) (a := M256 - 1) (b := M) hQ ⟨by omega, Int.le_refl _⟩
      rw [Int.sub_mul, Int.one_mul] at r2
      rw [Int.mul_comm M M256] at r1
      have : M256 * T4 < M256 * (2 * M) := by
        rw [Int.mul_left_comm]; omega
      exact Int.lt_of_mul_lt_mul_left this (by decide)
    · omega
  · have e : T4 = a * b * rOf M + M * (Q * rOf M - s * T4) := by
      have h1 : M256 * T4 * rOf M = a * b * rOf M + M * (Q * rOf M) := by
        rw [key, Int.add_mul, Int.mul_comm Q M, Int.mul_assoc M]
      have h2 : M256 * T4 * rOf M = T4 + M * (s * T4) := by
        rw [Int.mul_right_comm, hs, Int.add_mul, Int.one_mul, Int.mul_assoc]
      rw [Int.mul_sub]
      omega
    rw [e, Int.add_mul_emod_self_left]; rfl

theorem mmul_range {M : Int} (hM : 0 < M) (a b : Int) : 0 ≤ mmul M a b ∧ mmul M a b < M := ⟨Int.emod_nonneg _ (by omega), Int.emod_lt_of_pos _ hM⟩
/-! ### Halves, sums and differences -/

def halfN (n : Int) (t : Bool) : Int := n / 2 + (if t then 57896044618658097711785492504343953926634992332820282019728792003956564819968 else 0)
def cutN (M a : Int) : Int := if ltb a M then a else subm a M
def maddN (M a b : Int) : Int := if addc a b || !(ltb (addm a b) M) then subm (addm a b) M else addm a b
def msubN (M a b : Int) : Int := if ltb a b then addm (subm a b) M else subm a b
def halvedN (M a : Int) : Int := if a % 2 = 0 then halfN a false else halfN (addm a M) (addc a M)

theorem half_words {a0 a1 a2 a3 : Int} (h0 : W a0) (h1 : W a1) (h2 : W a2) (h3 : W a3) (t : Bool) :
    l0 (halfN (num4 a0 a1 a2 a3) t) = a0 / 2 + a1 % 2 * 9223372036854775808 ∧ l1 (halfN (num4 a0 a1 a2 a3) t) = a1 / 2 + a2 % 2 * 9223372036854775808 ∧ l2 (halfN (num4 a0 a1 a2 a3) t) = a2 / 2 + a3 % 2 * 9223372036854775808 ∧
    l3 (halfN (num4 a0 a1 a2 a3) t) = a3 / 2 + (if t then 9223372036854775808 else 0) := by
  unfold W at *
  cases t
  · refine limbs_of (k := 0) ?_ ?_ ?_ ?_ ?_ <;> (try (unfold W; (try simp only [Bool.false_eq_true, if_false]); omega))
    unfold halfN num4 M256; simp only [Bool.false_eq_true, if_false]; omega
  · refine limbs_of (k := 0) ?_ ?_ ?_ ?_ ?_ <;> (try (unfold W; (try simp only [if_true]); omega))
    unfold halfN num4 M256; simp only [if_true]; omega

theorem cut_range {M a : Int} (hM : 57896044618658097711785492504343953926634992332820282019728792003956564819968 < M) (hM2 : M < M256) (ha : 0 ≤ a ∧ a < M256) : 0 ≤ cutN M a ∧ cutN M a < M ∧ cutN M a = a % M := by
  unfold cutN ltb subm M256 at *
  by_cases h : a < M
  · simp only [h, decide_true, if_true]
    exact ⟨ha.1, trivial, (Int.emod_eq_of_lt ha.1 h).symm⟩
  · simp only [h, decide_false, Bool.false_eq_true, if_false]
    have e : (a - M) % 115792089237316195423570985008687907853269984665640564039457584007913129639936 = a - M := by omega
    rw [e]
    refine ⟨by omega, by omega, ?_⟩
    rw [← Int.sub_emod_right a M, Int.emod_eq_of_lt (by omega) (by omega)]

theorem madd_range {M a b : Int} (hM : 57896044618658097711785492504343953926634992332820282019728792003956564819968 < M) (hM2 : M < M256) (ha : 0 ≤ a ∧ a < M) (hb : 0 ≤ b ∧ b < M) : 0 ≤ maddN M a b ∧ maddN M a b < M ∧ maddN M a b = (a + b) % M := by
  unfold maddN addc ltb subm addm M256 at *
  by_cases h : a + b < M
  · have e1 : (a + b) % 115792089237316195423570985008687907853269984665640564039457584007913129639936 = a + b := by omega
    have e2 : ¬ (115792089237316195423570985008687907853269984665640564039457584007913129639936 ≤ a + b) := by omega
    simp only [e1, e2, h, decide_true, decide_false, Bool.not_true, Bool.or_false, Bool.false_eq_true, if_false]
    exact ⟨by omega, trivial, (Int.emod_eq_of_lt (by omega) h).symm⟩
  · have e : (if (decide (115792089237316195423570985008687907853269984665640564039457584007913129639936 ≤ a + b) || !(decide ((a + b) % 115792089237316195423570985008687907853269984665640564039457584007913129639936 < M))) = true then ((a + b) % 115792089237316195423570985008687907853269984665640564039457584007913129639936 - M) % 115792089237316195423570985008687907853269984665640564039457584007913129639936
        else (a + b) % 115792089237316195423570985008687907853269984665640564039457584007913129639936) = a + b - M := by
      split
      · omega
      · rename_i hh
        simp only [Bool.or_eq_true, decide_eq_true_eq, Bool.not_eq_true', decide_eq_false_iff_not] at hh
        omega
    rw [e]
    refine ⟨by omega, by omega, ?_⟩
    rw [← Int.sub_emod_right (a + b) M, Int.emod_eq_of_lt (by omega) (by omega)]

theorem msub_range {M a b : Int} (hM : 57896044618658097711785492504343953926634992332820282019728792003956564819968 < M) (hM2 : M < M256) (ha : 0 ≤ a ∧ a < M) (hb : 0 ≤ b ∧ b < M) : 0 ≤ msubN M a b ∧ msubN M a b < M ∧ msubN M a b = (a - b) % M := by
  unfold msubN ltb subm addm M256 at *
  by_cases h : a < b
  · simp only [h, decide_true, if_true]
    have e : ((a - b) % 115792089237316195423570985008687907853269984665640564039457584007913129639936 + M) % 115792089237316195423570985008687907853269984665640564039457584007913129639936 = a - b + M := by omega
    rw [e]
    refine ⟨by omega, by omega, ?_⟩
    rw [← Int.add_emod_right (a - b) M, Int.emod_eq_of_lt (by omega) (by omega)]
  · simp only [h, decide_false, Bool.false_eq_true, if_false]
    have e : (a - b) % 115792089237316195423570985008687907853269984665640564039457584007913129639936 = a - b := by omega
    rw [e]
    exact ⟨by omega, by omega, (Int.emod_eq_of_lt (by omega) (by omega)).symm⟩

theorem halved_range {M a : Int} (hM : 57896044618658097711785492504343953926634992332820282019728792003956564819968 < M) (hM2 : M < M256) (ho : M % 2 = 1) (ha : 0 ≤ a ∧ a < M) : 0 ≤ halvedN M a ∧ halvedN M a < M ∧ ∃ k, 2 * halvedN M a = a + M * k := by
  unfold halvedN halfN addc addm M256 at *
  by_cases h : a % 2 = 0
  · simp only [h, if_true, Bool.false_eq_true, if_false]
    exact ⟨by omega, by omega, 0, by omega⟩
  · simp only [h, if_false]
    have e : (a + M) % 115792089237316195423570985008687907853269984665640564039457584007913129639936 / 2 + (if decide (115792089237316195423570985008687907853269984665640564039457584007913129639936 ≤ a + M) = true then 57896044618658097711785492504343953926634992332820282019728792003956564819968 else 0) = (a + M) / 2 := by
      split <;> rename_i hh <;> simp only [decide_eq_true_eq] at hh <;> omega
    rw [e]
    exact ⟨by omega, by omega, 1, by omega⟩

/-! ### The inverse, by halves and differences -/

def invS (M : Int) : Nat → Int → Int → Int → Int → Int
  | 0, _, _, _, _ => -1
  | n + 1, u, v, x, y => if u = 1 then x else if v = 1 then y else
    if u % 2 = 0 then invS M n (halfN u false) v (halvedN M x) y
    else if v % 2 = 0 then invS M n u (halfN v false) x (halvedN M y)
    else if 0 ≤ cmpI u v then invS M n (subm u v) v (msubN M x y) y
    else invS M n u (subm v u) x (msubN M y x)

def co (u v : Int) : Prop := ∀ d : Int, 0 < d → d ∣ u → d ∣ v → d = 1
def flag (u v : Int) : Nat := if u % 2 = 1 ∧ v % 2 = 1 then 1 else 0

theorem inv_run {M a : Int} (hM : 57896044618658097711785492504343953926634992332820282019728792003956564819968 < M) (hM2 : M < M256) (ho : M % 2 = 1) : ∀ (n i j : Nat) (u v x y : Int), 0 < u → u ≤ M → 0 < v → v ≤ M → u < 2 ^ i → v < 2 ^ j → co u v →
    0 ≤ x ∧ x < M → 0 ≤ y ∧ y < M → (∃ k, x * a = u + M * k) → (∃ k, y * a = v + M * k) → 2 * (i + j) + flag u v < n →
    0 ≤ invS M n u v x y ∧ invS M n u v x y < M ∧ (∃ k, invS M n u v x y * a = 1 + M * k) ∧ ∀ m, 2 * (i + j) + flag u v < m → invS M m u v x y = invS M n u v x y
  | 0, i, j, u, v, x, y, _, _, _, _, _, _, _, _, _, _, _, hn => by omega
  | n + 1, i, j, u, v, x, y, hu, huM, hv, hvM, hi, hj, hc, hx, hy, ⟨kx, ex⟩, ⟨ky, ey⟩, hn => by
    have half : ∀ {z w : Int} {k : Int}, 0 ≤ z ∧ z < M → z * a = w + M * k → w % 2 = 0 → ∃ k', halvedN M z * a = w / 2 + M * k' := by
      intro z w k hz e hw
      obtain ⟨_, _, k2, e2⟩ := halved_range hM hM2 ho hz
      have h2 : 2 * (halvedN M z * a) = w + M * (k + k2 * a) := by
        rw [← Int.mul_assoc, e2, Int.add_mul, e, Int.mul_add, Int.mul_assoc]; omega
      have h3 : (k + k2 * a) % 2 = 0 := by
        have : (M * (k + k2 * a)) % 2 = 0 := by omega
        rw [Int.mul_emod, ho, Int.one_mul, Int.emod_emod_of_dvd _ (by decide)] at this
        exact this
      obtain ⟨c, hc⟩ : ∃ c, k + k2 * a = 2 * c := ⟨(k + k2 * a) / 2, by omega⟩
      rw [hc, Int.mul_left_comm M 2 c] at h2
      exact ⟨c, by omega⟩
    have pos : ∀ {w : Int} {k : Nat}, 0 < w → w % 2 = 0 → w < 2 ^ k → ∃ k', k = k' + 1 ∧ w / 2 < 2 ^ k' := by
      intro w k h0 h1 h2
      cases k with
      | zero => simp at h2; omega
      | succ k' => exact ⟨k', rfl, by rw [Int.pow_succ] at h2; omega⟩
    have sub : ∀ {z z' w w' k k' : Int}, 0 ≤ z ∧ z < M → 0 ≤ z' ∧ z' < M → z * a = w + M * k → z' * a = w' + M * k' → ∃ c, msubN M z z' * a = (w - w') + M * c := by
      intro z z' w w' k k' hz hz' e e'
      have h := (msub_range hM hM2 hz hz').2.2
      have h1 := Int.emod_add_mul_ediv (z - z') M
      refine ⟨k - k' - (z - z') / M * a, ?_⟩
      have h2 : msubN M z z' = z - z' - M * ((z - z') / M) := by omega
      rw [h2, Int.sub_mul, Int.sub_mul, e, e', Int.mul_sub, Int.mul_sub, Int.mul_assoc]
      omega
    simp only [invS]
    by_cases u1 : u = 1
    · rw [if_pos u1]
      refine ⟨hx.1, hx.2, ⟨kx, by rw [ex, u1]⟩, fun m hm => ?_⟩
      cases m with
      | zero => omega
      | succ m => simp only [invS]; rw [if_pos u1]
    rw [if_neg u1]
    by_cases v1 : v = 1
    · rw [if_pos v1]
      refine ⟨hy.1, hy.2, ⟨ky, by rw [ey, v1]⟩, fun m hm => ?_⟩
      cases m with
      | zero => omega
      | succ m => simp only [invS]; rw [if_neg u1, if_pos v1]
    rw [if_neg v1]
    have hh : ∀ w, halfN w false = w / 2 := fun w => by simp [halfN]
    by_cases u2 : u % 2 = 0
    · rw [if_pos u2]
      obtain ⟨i', rfl, hi'⟩ := pos hu u2 hi
      have f0 : flag u v = 0 := by unfold flag; rw [if_neg (by omega)]
      have f1 : flag (u / 2) v ≤ 1 := by unfold flag; split <;> omega
      have hx' := halved_range hM hM2 ho hx
      have := inv_run hM hM2 ho n i' j (u / 2) v (halvedN M x) y (by omega) (by omega) hv hvM hi' hj (fun d h0 h1 h2 => hc d h0 (by
        have e : u = 2 * (u / 2) := by omega
        rw [e]; exact Int.dvd_mul_of_dvd_right h1) h2) ⟨hx'.1, hx'.2.1⟩ hy (half hx ex u2) ⟨ky, ey⟩ (by omega)
      rw [hh]
      refine ⟨this.1, this.2.1, this.2.2.1, fun m hm => ?_⟩
      cases m with
      | zero => omega
      | succ m =>
        simp only [invS]; rw [if_neg u1, if_neg v1, if_pos u2, hh]
        exact this.2.2.2 m (by omega)
    rw [if_neg u2]
    by_cases v2 : v % 2 = 0
    · rw [if_pos v2]
      obtain ⟨j', rfl, hj'⟩ := pos hv v2 hj
      have f0 : flag u v = 0 := by unfold flag; rw [if_neg (by omega)]
      have f1 : flag u (v / 2) ≤ 1 := by unfold flag; split <;> omega
      have hy' := halved_range hM hM2 ho hy
      have := inv_run hM hM2 ho n i j' u (v / 2) x (halvedN M y) hu huM (by omega) (by omega) hi hj' (fun d h0 h1 h2 => hc d h0 h1 (by
        have e : v = 2 * (v / 2) := by omega
        rw [e]; exact Int.dvd_mul_of_dvd_right h2)) hx ⟨hy'.1, hy'.2.1⟩ ⟨kx, ex⟩ (half hy ey v2) (by omega)
      rw [hh]
      refine ⟨this.1, this.2.1, this.2.2.1, fun m hm => ?_⟩
      cases m with
      | zero => omega
      | succ m =>
        simp only [invS]; rw [if_neg u1, if_neg v1, if_neg u2, if_pos v2, hh]
        exact this.2.2.2 m (by omega)
    rw [if_neg v2]
    have f0 : flag u v = 1 := by unfold flag; rw [if_pos (by omega)]
    have hne : u ≠ v := fun e => u1 (hc u hu (Int.dvd_refl u) (by rw [e]; exact Int.dvd_refl v))
    by_cases c : 0 ≤ cmpI u v
    · rw [if_pos c]
      have hlt : v < u := by unfold cmpI at c; split at c <;> (try split at c) <;> omega
      have e : subm u v = u - v := by unfold subm M256 at *; omega
      have f1 : flag (u - v) v = 0 := by unfold flag; rw [if_neg (by omega)]
      have hx' := msub_range hM hM2 hx hy
      have := inv_run hM hM2 ho n i j (u - v) v (msubN M x y) y (by omega) (by omega) hv hvM (by omega) hj (fun d h0 h1 h2 => hc d h0 (by
        have e : u = (u - v) + v := by omega
        rw [e]; exact Int.dvd_add h1 h2) h2) ⟨hx'.1, hx'.2.1⟩ hy (sub hx hy ex ey) ⟨ky, ey⟩ (by omega)
      rw [e]
      refine ⟨this.1, this.2.1, this.2.2.1, fun m hm => ?_⟩
      cases m with
      | zero => omega
      | succ m =>
        simp only [invS]; rw [if_neg u1, if_neg v1, if_neg u2, if_neg v2, if_pos c, e]
        exact this.2.2.2 m (by omega)
    · rw [if_neg c]
      have hlt : u < v := by unfold cmpI at c; split at c <;> (try split at c) <;> omega
      have e : subm v u = v - u := by unfold subm M256 at *; omega
      have f1 : flag u (v - u) = 0 := by unfold flag; rw [if_neg (by omega)]
      have hy' := msub_range hM hM2 hy hx
      have := inv_run hM hM2 ho n i j u (v - u) x (msubN M y x) hu huM (by omega) (by omega) hi (by omega) (fun d h0 h1 h2 => hc d h0 h1 (by
        have e : v = (v - u) + u := by omega
        rw [e]; exact Int.dvd_add h2 h1)) hx ⟨hy'.1, hy'.2.1⟩ ⟨kx, ex⟩ (sub hy hx ey ex) (by omega)
      rw [e]
      refine ⟨this.1, this.2.1, this.2.2.1, fun m hm => ?_⟩
      cases m with
      | zero => omega
      | succ m =>
        simp only [invS]; rw [if_neg u1, if_neg v1, if_neg u2, if_neg v2, if_neg c, e]
        exact this.2.2.2 m (by omega)
/-! ### What the functions on numbers in Montgomery's way hand back, by symbols -/

def numV6 (N : Ap) (n : Int) : SV := .agg [.int .u64 (ap1 N l0 n), .int .u64 (ap1 N l1 n), .int .u64 (ap1 N l2 n), .int .u64 (ap1 N l3 n), .int .u64 (ap1 N l4 n), .int .u64 (ap1 N l5 n)]

def ap6 (N : Ap) {α β γ δ ε ζ η : Type} (f : α → β → γ → δ → ε → ζ → η) (a : α) (b : β) (c : γ) (d : δ) (e : ε) (g : ζ) : η := N ζ η (N ε (ζ → η) (N δ (ε → ζ → η) (N γ (δ → ε → ζ → η) (N β (γ → δ → ε → ζ → η) (N α (β → γ → δ → ε → ζ → η) f a) b) c) d) e) g

def SV.num384 (N : Ap) : SV → Option Int
  | .agg [a, b, c, d, e, f] => match a.u64, b.u64, c.u64, d.u64, e.u64, f.u64 with
    | some a, some b, some c, some d, some e, some f => some (ap6 N num6 a b c d e f)
    | _, _, _, _, _, _ => none
  | _ => none

/-- A modulus: M, N, RR. -/
def SV.modn (N : Ap) : SV → Option (Int × Int × Int)
  | .agg [a, b, c, d, e, p, q, r, s] => match a.u64, b.u64, c.u64, d.u64, e.u64, p.u64, q.u64, r.u64, s.u64 with
    | some a, some b, some c, some d, some e, some p, some q, some r, some s => some (ap4 N num4 a b c d, e, ap4 N num4 p q r s)
    | _, _, _, _, _, _, _, _, _ => none
  | _ => none

def words6 (a b c d e f : Int) : SV := .agg [.int .u64 a, .int .u64 b, .int .u64 c, .int .u64 d, .int .u64 e, .int .u64 f]
def modV (m0 m1 m2 m3 n r0 r1 r2 r3 : Int) : SV := .agg [.int .u64 m0, .int .u64 m1, .int .u64 m2, .int .u64 m3, .int .u64 n, .int .u64 r0, .int .u64 r1, .int .u64 r2, .int .u64 r3]

theorem num384_ids {N : Ap} {x : SV} {n : Int} (h : x.num384 N = some n) (k : Nat) : x.idsLt k = true := by
  unfold SV.num384 at h
  split at h
  · split at h
    · rename_i ha hb hc hd he hf
      simp [SV.idsLt, SV.idsLts, u64_ids ha k, u64_ids hb k, u64_ids hc k, u64_ids hd k, u64_ids he k, u64_ids hf k]
    · cases h
  · cases h

theorem modn_ids {N : Ap} {x : SV} {n : Int × Int × Int} (h : x.modn N = some n) (k : Nat) : x.idsLt k = true := by
  unfold SV.modn at h
  split at h
  · split at h
    · rename_i h1 h2 h3 h4 h5 h6 h7 h8 h9
      simp [SV.idsLt, SV.idsLts, u64_ids h1 k, u64_ids h2 k, u64_ids h3 k, u64_ids h4 k, u64_ids h5 k, u64_ids h6 k, u64_ids h7 k, u64_ids h8 k, u64_ids h9 k]
    · cases h
  · cases h

theorem num384_of {x : SV} {n : Int} (h : x.num384 apStd = some n) {u : Value} {m : List Pl} (hv : x.val m = some u) :
    ∃ a b c d e f, (W a ∧ W b ∧ W c ∧ W d ∧ W e ∧ W f) ∧ n = num6 a b c d e f ∧ (words6 a b c d e f).val [] = some u := by
  unfold SV.num384 at h
  split at h
  · rename_i p q r s t v
    split at h
    · rename_i a b c d e f ha hb hc hd he hf
      simp only [Option.some.injEq] at h
      simp only [SV.val, SV.vals, Option.map_eq_some_iff, Option.bind_eq_some_iff] at hv
      obtain ⟨vs, ⟨u1, h1, t1, ⟨u2, h2, t2, ⟨u3, h3, t3, ⟨u4, h4, t4, ⟨u5, h5, t5, ⟨u6, h6, t6, e6, rfl⟩, rfl⟩, rfl⟩, rfl⟩, rfl⟩, rfl⟩, rfl⟩ := hv
      simp only [Option.some.injEq] at e6
      subst e6
      obtain ⟨rfl, w1⟩ := u64_of ha h1
      obtain ⟨rfl, w2⟩ := u64_of hb h2
      obtain ⟨rfl, w3⟩ := u64_of hc h3
      obtain ⟨rfl, w4⟩ := u64_of hd h4
      obtain ⟨rfl, w5⟩ := u64_of he h5
      obtain ⟨rfl, w6⟩ := u64_of hf h6
      refine ⟨a, b, c, d, e, f, ⟨w1, w2, w3, w4, w5, w6⟩, h.symm, ?_⟩
      simp [words6, SV.val, SV.vals, W_u64 w1, W_u64 w2, W_u64 w3, W_u64 w4, W_u64 w5, W_u64 w6]
    · cases h
  · cases h

theorem modn_of {x : SV} {M n r : Int} (h : x.modn apStd = some (M, n, r)) {u : Value} {m : List Pl} (hv : x.val m = some u) :
    ∃ m0 m1 m2 m3 r0 r1 r2 r3, (W m0 ∧ W m1 ∧ W m2 ∧ W m3) ∧ W n ∧ (W r0 ∧ W r1 ∧ W r2 ∧ W r3) ∧ M = num4 m0 m1 m2 m3 ∧ r = num4 r0 r1 r2 r3 ∧ (modV m0 m1 m2 m3 n r0 r1 r2 r3).val [] = some u := by
  unfold SV.modn at h
  split at h
  · split at h
    · rename_i a b c d e p q r' s g1 g2 g3 g4 g5 g6 g7 g8 g9
      simp only [Option.some.injEq, Prod.mk.injEq] at h
      obtain ⟨h1, h2, h3⟩ := h
      simp only [SV.val, SV.vals, Option.map_eq_some_iff, Option.bind_eq_some_iff] at hv
      obtain ⟨vs, ⟨u1, k1, t1, ⟨u2, k2, t2, ⟨u3, k3, t3, ⟨u4, k4, t4, ⟨u5, k5, t5, ⟨u6, k6, t6, ⟨u7, k7, t7, ⟨u8, k8, t8, ⟨u9, k9, t9, e9, rfl⟩, rfl⟩, rfl⟩, rfl⟩, rfl⟩, rfl⟩, rfl⟩, rfl⟩, rfl⟩, rfl⟩ := hv
      simp only [Option.some.injEq] at e9
      subst e9
      obtain ⟨rfl, w1⟩ := u64_of g1 k1
      obtain ⟨rfl, w2⟩ := u64_of g2 k2
      obtain ⟨rfl, w3⟩ := u64_of g3 k3
      obtain ⟨rfl, w4⟩ := u64_of g4 k4
      obtain ⟨rfl, w5⟩ := u64_of g5 k5
      obtain ⟨rfl, w6⟩ := u64_of g6 k6
      obtain ⟨rfl, w7⟩ := u64_of g7 k7
      obtain ⟨rfl, w8⟩ := u64_of g8 k8
      obtain ⟨rfl, w9⟩ := u64_of g9 k9
      subst h2
      refine ⟨a, b, c, d, p, q, r', s, ⟨w1, w2, w3, w4⟩, w5, ⟨w6, w7, w8, w9⟩, h1.symm, h3.symm, ?_⟩
      simp [modV, SV.val, SV.vals, W_u64 w1, W_u64 w2, W_u64 w3, W_u64 w4, W_u64 w5, W_u64 w6, W_u64 w7, W_u64 w8, W_u64 w9]
    · cases h
  · cases h

theorem vals_three {x y z : SV} {us : List Value} {m : List Pl} (h : SV.vals m [x, y, z] = some us) : ∃ u v w, us = [u, v, w] ∧ x.val m = some u ∧ y.val m = some v ∧ z.val m = some w := by
  simp only [SV.vals, Option.map_eq_some_iff, Option.bind_eq_some_iff] at h
  obtain ⟨u, hu, t, ⟨v, hv, s, ⟨w, hw, r, e, rfl⟩, rfl⟩, rfl⟩ := h
  simp only [Option.some.injEq] at e
  subst e
  exact ⟨u, v, w, rfl, hu, hv, hw⟩

theorem args_step {x y z : SV} {t a b : Int} (hx : x.num384 apStd = some t) (hy : y.u64 = some a) (hz : z.num256 apStd = some b) {us : List Value} {m : List Pl} (h : SV.vals m [x, y, z] = some us) :
    ∃ t0 t1 t2 t3 t4 t5 b0 b1 b2 b3, (W t0 ∧ W t1 ∧ W t2 ∧ W t3 ∧ W t4 ∧ W t5) ∧ W a ∧ (W b0 ∧ W b1 ∧ W b2 ∧ W b3) ∧ t = num6 t0 t1 t2 t3 t4 t5 ∧ b = num4 b0 b1 b2 b3 ∧ SV.vals [] [words6 t0 t1 t2 t3 t4 t5, .int .u64 a, wordsV b0 b1 b2 b3] = some us := by
  obtain ⟨u, v, w, rfl, hu, hv, hw⟩ := vals_three h
  obtain ⟨t0, t1, t2, t3, t4, t5, ht, e, f⟩ := num384_of hx hu
  obtain ⟨rfl, wa⟩ := u64_of hy hv
  obtain ⟨b0, b1, b2, b3, g1, g2, g3, g4, e', f'⟩ := num256_of hz hw
  exact ⟨t0, t1, t2, t3, t4, t5, b0, b1, b2, b3, ht, wa, ⟨g1, g2, g3, g4⟩, e, e', by simp [SV.vals, f, f', SV.val, W_u64 wa]⟩

theorem args_mod_one {x y : SV} {M n r a : Int} (hx : x.modn apStd = some (M, n, r)) (hy : y.num256 apStd = some a) {us : List Value} {m : List Pl} (h : SV.vals m [x, y] = some us) :
    ∃ m0 m1 m2 m3 r0 r1 r2 r3 a0 a1 a2 a3, (W m0 ∧ W m1 ∧ W m2 ∧ W m3) ∧ W n ∧ (W r0 ∧ W r1 ∧ W r2 ∧ W r3) ∧ (W a0 ∧ W a1 ∧ W a2 ∧ W a3) ∧ M = num4 m0 m1 m2 m3 ∧ r = num4 r0 r1 r2 r3 ∧ a = num4 a0 a1 a2 a3 ∧
      SV.vals [] [modV m0 m1 m2 m3 n r0 r1 r2 r3, wordsV a0 a1 a2 a3] = some us := by
  obtain ⟨u, v, rfl, hu, hv⟩ := vals_two h
  obtain ⟨m0, m1, m2, m3, r0, r1, r2, r3, wm, wn, wr, e, e', f⟩ := modn_of hx hu
  obtain ⟨a0, a1, a2, a3, g1, g2, g3, g4, e2, f2⟩ := num256_of hy hv
  exact ⟨m0, m1, m2, m3, r0, r1, r2, r3, a0, a1, a2, a3, wm, wn, wr, ⟨g1, g2, g3, g4⟩, e, e', e2, by simp [SV.vals, f, f2]⟩

theorem args_mod_two {x y z : SV} {M n r a b : Int} (hx : x.modn apStd = some (M, n, r)) (hy : y.num256 apStd = some a) (hz : z.num256 apStd = some b) {us : List Value} {m : List Pl} (h : SV.vals m [x, y, z] = some us) :
    ∃ m0 m1 m2 m3 r0 r1 r2 r3 a0 a1 a2 a3 b0 b1 b2 b3, (W m0 ∧ W m1 ∧ W m2 ∧ W m3) ∧ W n ∧ (W r0 ∧ W r1 ∧ W r2 ∧ W r3) ∧ (W a0 ∧ W a1 ∧ W a2 ∧ W a3) ∧ (W b0 ∧ W b1 ∧ W b2 ∧ W b3) ∧ M = num4 m0 m1 m2 m3 ∧ r = num4 r0 r1 r2 r3 ∧ a = num4 a0 a1 a2 a3 ∧ b = num4 b0 b1 b2 b3 ∧
      SV.vals [] [modV m0 m1 m2 m3 n r0 r1 r2 r3, wordsV a0 a1 a2 a3, wordsV b0 b1 b2 b3] = some us := by
  obtain ⟨u, v, w, rfl, hu, hv, hw⟩ := vals_three h
  obtain ⟨m0, m1, m2, m3, r0, r1, r2, r3, wm, wn, wr, e, e', f⟩ := modn_of hx hu
  obtain ⟨a0, a1, a2, a3, g1, g2, g3, g4, e2, f2⟩ := num256_of hy hv
  obtain ⟨b0, b1, b2, b3, k1, k2, k3, k4, e3, f3⟩ := num256_of hz hw
  exact ⟨m0, m1, m2, m3, r0, r1, r2, r3, a0, a1, a2, a3, b0, b1, b2, b3, wm, wn, wr, ⟨g1, g2, g3, g4⟩, ⟨k1, k2, k3, k4⟩, e, e', e2, e3, by simp [SV.vals, f, f2, f3]⟩

theorem args_num_bool {x : SV} {a : Int} {t : Bool} (hx : x.num256 apStd = some a) {us : List Value} {m : List Pl} (h : SV.vals m [x, .bool t] = some us) :
    ∃ a0 a1 a2 a3, (W a0 ∧ W a1 ∧ W a2 ∧ W a3) ∧ a = num4 a0 a1 a2 a3 ∧ SV.vals [] [wordsV a0 a1 a2 a3, .bool t] = some us := by
  obtain ⟨u, v, rfl, hu, hv⟩ := vals_two h
  obtain ⟨a0, a1, a2, a3, g1, g2, g3, g4, e2, f2⟩ := num256_of hx hu
  simp only [SV.val, Option.some.injEq] at hv
  subst hv
  exact ⟨a0, a1, a2, a3, ⟨g1, g2, g3, g4⟩, e2, by simp [SV.vals, f2, SV.val]⟩

def stepF (N : Ap) : List SV → Bool × SV
  | [t, x, a] => match t.num384 N, x.u64, a.num256 N with
    | some t, some x, some a => (true, numV6 N (ap3 N stepn t x a))
    | _, _, _ => (false, .bad)
  | _ => (false, .bad)

/-- Of a modulus and a number. -/
def mod1F (N : Ap) (ok : Int → Int → Int → Int → Bool) (f : Int → Int → Int → Int → SV) : List SV → Bool × SV
  | [m, a] => match m.modn N, a.num256 N with
    | some (M, n, r), some a => (ok M n r a, f M n r a)
    | _, _ => (false, .bad)
  | _ => (false, .bad)
/-- Of a modulus and two numbers. -/
def mod2F (N : Ap) (ok : Int → Int → Int → Int → Bool) (f : Int → Int → Int → Int → SV) : List SV → Bool × SV
  | [m, a, b] => match m.modn N, a.num256 N, b.num256 N with
    | some (M, n, _), some a, some b => (ok M n a b, f M n a b)
    | _, _, _ => (false, .bad)
  | _ => (false, .bad)
/-- Of a number and a bit. -/
def halfF (N : Ap) : List SV → Bool × SV
  | [a, .bool t] => match a.num256 N with
    | some a => (true, numV N (ap2 N halfN a t))
    | _ => (false, .bad)
  | _ => (false, .bad)

def invT (M a : Int) : Int := if a = 0 then 0 else invS M 2000 a M 1 0

abbrev validF (N : Ap) := mod1F N (fun _ _ _ _ => true) (fun M _ _ a => .bool (ap2 N ltb a M))
abbrev cutF (N : Ap) := mod1F N (fun _ _ _ _ => true) (fun M _ _ a => numV N (ap2 N cutN M a))
abbrev halvedF (N : Ap) := mod1F N (fun _ _ _ _ => true) (fun M _ _ a => numV N (ap2 N halvedN M a))
abbrev maddF (N : Ap) := mod2F N (fun _ _ _ _ => true) (fun M _ a b => numV N (ap3 N maddN M a b))
abbrev msubF (N : Ap) := mod2F N (fun _ _ _ _ => true) (fun M _ a b => numV N (ap3 N msubN M a b))
abbrev mmulF (N : Ap) := mod2F N (fun M n a b => ap2 N okMod M n && ap3 N mcond M a b) (fun M _ a b => numV N (ap3 N mmul M a b))
abbrev minF (N : Ap) := mod1F N (fun M n r a => ap2 N okMod M n && ap3 N mcond M a r) (fun M _ r a => numV N (ap3 N mmul M a r))
abbrev moutF (N : Ap) := mod1F N (fun M n r a => ap2 N okMod M n && ap3 N mcond M a 1) (fun M _ r a => numV N (ap3 N mmul M a 1))
abbrev minvF (N : Ap) := mod1F N (fun M _ _ a => ap2 N (fun M a => decide (0 ≤ invT M a)) M a) (fun M _ _ a => numV N (ap2 N invT M a))

theorem stepF_ids {N : Ap} {args : List SV} {v : SV} (hF : stepF N args = (true, v)) : SV.idsLts 0 args = true := by
  unfold stepF at hF
  split at hF
  · split at hF
    · rename_i ha hb hc
      simp [SV.idsLts, num384_ids ha, u64_ids hb, num256_ids hc]
    · cases hF
  · cases hF
theorem mod1F_ids {N : Ap} {ok : Int → Int → Int → Int → Bool} {f : Int → Int → Int → Int → SV} {args : List SV} {v : SV} (hF : mod1F N ok f args = (true, v)) : SV.idsLts 0 args = true := by
  unfold mod1F at hF
  split at hF
  · split at hF
    · rename_i ha hb
      simp [SV.idsLts, modn_ids ha, num256_ids hb]
    · cases hF
  · cases hF
theorem mod2F_ids {N : Ap} {ok : Int → Int → Int → Int → Bool} {f : Int → Int → Int → Int → SV} {args : List SV} {v : SV} (hF : mod2F N ok f args = (true, v)) : SV.idsLts 0 args = true := by
  unfold mod2F at hF
  split at hF
  · split at hF
    · rename_i ha hb hc
      simp [SV.idsLts, modn_ids ha, num256_ids hb, num256_ids hc]
    · cases hF
  · cases hF
theorem halfF_ids {N : Ap} {args : List SV} {v : SV} (hF : halfF N args = (true, v)) : SV.idsLts 0 args = true := by
  unfold halfF at hF
  split at hF
  · split at hF
    · rename_i ha
      simp [SV.idsLts, num256_ids ha, SV.idsLt]
    · cases hF
  · cases hF

end Go.Eng
