/- Contracts of functions on numbers that this seat has. It has no conditions. -/
import Derived.Test.YtnhobbdijdbbeaaSh1
namespace Go.Proofs.Ytnhobbdijdbbeaa
open Go.Eng Go.RowKit
set_option maxRecDepth 1000000
set_option maxHeartbeats 40000000
set_option linter.unusedSimpArgs false
set_option linter.unusedVariables false

theorem mask32 {x : Int} (h : W x) : iop .and .u64 x 4294967295 = x % 4294967296 := and_mask h 32 (by omega)

theorem shr32 (x : Int) : iop .shr .u64 x 32 = x / 4294967296 := shr_lit x 32 (by omega)

theorem halves_spec {a0 a1 a2 a3 : Int} (ha : W a0 ∧ W a1 ∧ W a2 ∧ W a3) :
    dig32 0 (num4 a0 a1 a2 a3) = a0 % 4294967296 ∧ dig32 1 (num4 a0 a1 a2 a3) = a0 / 4294967296 ∧ dig32 2 (num4 a0 a1 a2 a3) = a1 % 4294967296 ∧ dig32 3 (num4 a0 a1 a2 a3) = a1 / 4294967296 ∧ dig32 4 (num4 a0 a1 a2 a3) = a2 % 4294967296 ∧ dig32 5 (num4 a0 a1 a2 a3) = a2 / 4294967296 ∧ dig32 6 (num4 a0 a1 a2 a3) = a3 % 4294967296 ∧ dig32 7 (num4 a0 a1 a2 a3) = a3 / 4294967296 := by
  obtain ⟨h0, h1, h2, h3⟩ := ha
  have h := dig32_of (n := num4 a0 a1 a2 a3) (w0 := a0 % 4294967296) (w1 := a0 / 4294967296) (w2 := a1 % 4294967296) (w3 := a1 / 4294967296) (w4 := a2 % 4294967296) (w5 := a2 / 4294967296) (w6 := a3 % 4294967296) (w7 := a3 / 4294967296)
    (w8 := 0) (w9 := 0) (w10 := 0) (w11 := 0) (w12 := 0) (w13 := 0) (w14 := 0) (w15 := 0) (by unfold W at *; simp only [H16, H]; omega) (by unfold W at *; simp only [v16]; unfold num4; omega)
  obtain ⟨e0, e1, e2, e3, e4, e5, e6, e7, e8, e9, e10, e11, e12, e13, e14, e15⟩ := h
  exact ⟨e0, e1, e2, e3, e4, e5, e6, e7⟩

theorem halves_v {a0 a1 a2 a3 : Int} (ha : W a0 ∧ W a1 ∧ W a2 ∧ W a3) :
    part8 8 (dig32 0 (num4 a0 a1 a2 a3)) (dig32 1 (num4 a0 a1 a2 a3)) (dig32 2 (num4 a0 a1 a2 a3)) (dig32 3 (num4 a0 a1 a2 a3)) (dig32 4 (num4 a0 a1 a2 a3)) (dig32 5 (num4 a0 a1 a2 a3)) (dig32 6 (num4 a0 a1 a2 a3)) (dig32 7 (num4 a0 a1 a2 a3)) = num4 a0 a1 a2 a3 := by
  obtain ⟨e0, e1, e2, e3, e4, e5, e6, e7⟩ := halves_spec ha
  simp only [part8, e0, e1, e2, e3, e4, e5, e6, e7]
  unfold W at ha
  unfold num4
  omega

theorem dig32_H (k : Nat) (n : Int) : H (dig32 k n) := by unfold H dig32; omega

theorem halves_vc (A : Ar) (L : LP) (N : Ap) (a0 a1 a2 a3 : Int) (hL : L = ALoop 0) (hA : A = std) (hN : N = apStd) (ha : W a0 ∧ W a1 ∧ W a2 ∧ W a3) (v : SV) (K : Bool → SV → List Blk → Prop) (hK : K = FinP v)
    (hv : v = .agg [.int .u64 (dig32 0 (num4 a0 a1 a2 a3)), .int .u64 (dig32 1 (num4 a0 a1 a2 a3)), .int .u64 (dig32 2 (num4 a0 a1 a2 a3)), .int .u64 (dig32 3 (num4 a0 a1 a2 a3)), .int .u64 (dig32 4 (num4 a0 a1 a2 a3)), .int .u64 (dig32 5 (num4 a0 a1 a2 a3)), .int .u64 (dig32 6 (num4 a0 a1 a2 a3)), .int .u64 (dig32 7 (num4 a0 a1 a2 a3))]) :
    afun (cx A L []) Try.f90 [wordsV a0 a1 a2 a3] [] K := by
  obtain ⟨fi, fc, fw, fb, fn, fo, fs, fa, fe, fz, fy, ff, fl⟩ := A
  cbv
  refine lp_rounds hL 5 hL (.inr rfl) ?_
  cbv
  cases hA; subst hN; subst hv
  obtain ⟨e0, e1, e2, e3, e4, e5, e6, e7⟩ := halves_spec ha
  refine fin_of hK rfl rfl ?_
  simp only [oneTup, mask32 ha.1, mask32 ha.2.1, mask32 ha.2.2.1, mask32 ha.2.2.2, shr32, e0, e1, e2, e3, e4, e5, e6, e7]

theorem con_halves : Con Try.prog 90 (halvesF apStd) := by
  refine con_of Try.func90 rfl (by kernel_rfl) (fun args v us hF hv => ?_) (fun args v hF => halvesF_ids hF)
  unfold halvesF at hF
  split at hF
  · rename_i x
    split at hF
    · rename_i a ha
      simp only [Prod.mk.injEq, true_and] at hF
      obtain ⟨u, rfl, hu⟩ := vals_sole hv
      obtain ⟨a0, a1, a2, a3, h0, h1, h2, h3, rfl, hus⟩ := num256_of ha hu
      exact ⟨_, [wordsV a0 a1 a2 a3], (good (l := []) (by intro p hp; simp at hp)), rfl, by kernel_rfl, by simp [SV.vals, hus], Nat.le_of_ble_eq_true rfl, halves_vc _ _ _ _ _ _ _ rfl rfl rfl ⟨h0, h1, h2, h3⟩ v _ rfl hF.symm⟩
    · cases hF
  · cases hF

def lit8 : Nat → Int
  | 8 => 0
  | 7 => 1
  | 6 => 2
  | 5 => 3
  | 4 => 4
  | 3 => 5
  | 2 => 6
  | 1 => 7
  | _ => 8

def wideO (a0 a1 a2 a3 b0 b1 b2 b3 x0 x1 x2 x3 x4 x5 x6 x7 y0 y1 y2 y3 y4 y5 y6 y7 : Int) : Nat → D16 → St
  | n, (w0, w1, w2, w3, w4, w5, w6, w7, w8, w9, w10, w11, w12, w13, w14, w15) => ⟨[(2, .ptr 0 0), (3, .ptr 1 0), (4, .ptr 2 0), (5, .ptr 3 0), (6, .ptr 4 0), (7, .ptr 5 0), (8, .num .i64 (lit8 n))],
    [⟨.lit [.int .u64 a0, .int .u64 a1, .int .u64 a2, .int .u64 a3], .var⟩, ⟨.lit [.int .u64 b0, .int .u64 b1, .int .u64 b2, .int .u64 b3], .var⟩, ⟨.lit [.num .u64 0, .num .u64 0, .num .u64 0, .num .u64 0, .num .u64 0, .num .u64 0, .num .u64 0, .num .u64 0, .num .u64 0, .num .u64 0, .num .u64 0, .num .u64 0, .num .u64 0, .num .u64 0, .num .u64 0, .num .u64 0], .var⟩, ⟨.lit [.int .u64 x0, .int .u64 x1, .int .u64 x2, .int .u64 x3, .int .u64 x4, .int .u64 x5, .int .u64 x6, .int .u64 x7], .var⟩, ⟨.lit [.int .u64 y0, .int .u64 y1, .int .u64 y2, .int .u64 y3, .int .u64 y4, .int .u64 y5, .int .u64 y6, .int .u64 y7], .var⟩, ⟨.lit [.int .u64 w0, .int .u64 w1, .int .u64 w2, .int .u64 w3, .int .u64 w4, .int .u64 w5, .int .u64 w6, .int .u64 w7, .int .u64 w8, .int .u64 w9, .int .u64 w10, .int .u64 w11, .int .u64 w12, .int .u64 w13, .int .u64 w14, .int .u64 w15], .var⟩], true⟩

def wideI (i : Int) (a0 a1 a2 a3 b0 b1 b2 b3 x0 x1 x2 x3 x4 x5 x6 x7 y0 y1 y2 y3 y4 y5 y6 y7 : Int) : Nat → D16 × Int → St
  | n, ((w0, w1, w2, w3, w4, w5, w6, w7, w8, w9, w10, w11, w12, w13, w14, w15), c) => ⟨[(2, .ptr 0 0), (3, .ptr 1 0), (4, .ptr 2 0), (5, .ptr 3 0), (6, .ptr 4 0), (7, .ptr 5 0), (8, .num .i64 i), (9, .int .u64 c), (10, .num .i64 (lit8 n))],
    [⟨.lit [.int .u64 a0, .int .u64 a1, .int .u64 a2, .int .u64 a3], .var⟩, ⟨.lit [.int .u64 b0, .int .u64 b1, .int .u64 b2, .int .u64 b3], .var⟩, ⟨.lit [.num .u64 0, .num .u64 0, .num .u64 0, .num .u64 0, .num .u64 0, .num .u64 0, .num .u64 0, .num .u64 0, .num .u64 0, .num .u64 0, .num .u64 0, .num .u64 0, .num .u64 0, .num .u64 0, .num .u64 0, .num .u64 0], .var⟩, ⟨.lit [.int .u64 x0, .int .u64 x1, .int .u64 x2, .int .u64 x3, .int .u64 x4, .int .u64 x5, .int .u64 x6, .int .u64 x7], .var⟩, ⟨.lit [.int .u64 y0, .int .u64 y1, .int .u64 y2, .int .u64 y3, .int .u64 y4, .int .u64 y5, .int .u64 y6, .int .u64 y7], .var⟩, ⟨.lit [.int .u64 w0, .int .u64 w1, .int .u64 w2, .int .u64 w3, .int .u64 w4, .int .u64 w5, .int .u64 w6, .int .u64 w7, .int .u64 w8, .int .u64 w9, .int .u64 w10, .int .u64 w11, .int .u64 w12, .int .u64 w13, .int .u64 w14, .int .u64 w15], .var⟩], true⟩

def ex16 (id : Nat) (S : St) : D16 := (cellI S id 0, cellI S id 1, cellI S id 2, cellI S id 3, cellI S id 4, cellI S id 5, cellI S id 6, cellI S id 7, cellI S id 8, cellI S id 9, cellI S id 10, cellI S id 11, cellI S id 12, cellI S id 13, cellI S id 14, cellI S id 15)

def wideEx (S : St) : D16 × Int := (ex16 5 S, slotI S 9)

def dg (N : Ap) (k : Nat) (a0 a1 a2 a3 : Int) : Int := ap2 N dig32 k (ap4 N num4 a0 a1 a2 a3)

theorem wide_vc (A : Ar) (L : LP) (N : Ap) (a0 a1 a2 a3 b0 b1 b2 b3 : Int) (hL : L = ALoop 0) (hA : A = std) (hN : N = apStd) (ha : W a0 ∧ W a1 ∧ W a2 ∧ W a3) (hb : W b0 ∧ W b1 ∧ W b2 ∧ W b3) (v : SV) (K : Bool → SV → List Blk → Prop) (hK : K = FinP v)
    (hv : v = .agg (SV.num16 apStd (num4 a0 a1 a2 a3 * num4 b0 b1 b2 b3))) :
    afun (cx A L [(90, halvesF N)]) Try.f81 [wordsV a0 a1 a2 a3, wordsV b0 b1 b2 b3] [] K := by
  obtain ⟨fi, fc, fw, fb, fn, fo, fs, fa, fe, fz, fy, ff, fl⟩ := A
  cbv
  obtain ⟨okO, hO⟩ : ∃ f, f = wideOkO (dig32 0 (num4 a0 a1 a2 a3)) (dig32 1 (num4 a0 a1 a2 a3)) (dig32 2 (num4 a0 a1 a2 a3)) (dig32 3 (num4 a0 a1 a2 a3)) (dig32 4 (num4 a0 a1 a2 a3)) (dig32 5 (num4 a0 a1 a2 a3)) (dig32 6 (num4 a0 a1 a2 a3)) (dig32 7 (num4 a0 a1 a2 a3)) (num4 b0 b1 b2 b3) := ⟨_, rfl⟩
  refine lp_ex hL 8 (ex16 5) (wideO a0 a1 a2 a3 b0 b1 b2 b3 (dg N 0 a0 a1 a2 a3) (dg N 1 a0 a1 a2 a3) (dg N 2 a0 a1 a2 a3) (dg N 3 a0 a1 a2 a3) (dg N 4 a0 a1 a2 a3) (dg N 5 a0 a1 a2 a3) (dg N 6 a0 a1 a2 a3) (dg N 7 a0 a1 a2 a3) (dg N 0 b0 b1 b2 b3) (dg N 1 b0 b1 b2 b3) (dg N 2 b0 b1 b2 b3) (dg N 3 b0 b1 b2 b3) (dg N 4 b0 b1 b2 b3) (dg N 5 b0 b1 b2 b3) (dg N 6 b0 b1 b2 b3) (dg N 7 b0 b1 b2 b3)) okO ?_ ?_ hL (.inr rfl)
  · cbv
    subst hO
    refine ⟨?_, trivial⟩
    refine ⟨by simp [H16, H], by simp [tail16], ?_⟩
    rw [show (8 - 8 : Nat) = 0 from rfl, Int.mul_comm, ypart0]
    simp [v16]
  intro n hn d hd
  match n, hn with
  | 8, _ =>
    obtain ⟨w0, w1, w2, w3, w4, w5, w6, w7, w8, w9, w10, w11, w12, w13, w14, w15⟩ := d
    cbv
    obtain ⟨okI, hI⟩ : ∃ f, f = wideOkI 0 (part8 0 (dig32 0 (num4 a0 a1 a2 a3)) (dig32 1 (num4 a0 a1 a2 a3)) (dig32 2 (num4 a0 a1 a2 a3)) (dig32 3 (num4 a0 a1 a2 a3)) (dig32 4 (num4 a0 a1 a2 a3)) (dig32 5 (num4 a0 a1 a2 a3)) (dig32 6 (num4 a0 a1 a2 a3)) (dig32 7 (num4 a0 a1 a2 a3)) * num4 b0 b1 b2 b3) (dig32 0 (num4 a0 a1 a2 a3)) (dig32 0 (num4 b0 b1 b2 b3)) (dig32 1 (num4 b0 b1 b2 b3)) (dig32 2 (num4 b0 b1 b2 b3)) (dig32 3 (num4 b0 b1 b2 b3)) (dig32 4 (num4 b0 b1 b2 b3)) (dig32 5 (num4 b0 b1 b2 b3)) (dig32 6 (num4 b0 b1 b2 b3)) (dig32 7 (num4 b0 b1 b2 b3)) := ⟨_, rfl⟩
    refine lp_ex hL 8 wideEx (wideI 0 a0 a1 a2 a3 b0 b1 b2 b3 (dg N 0 a0 a1 a2 a3) (dg N 1 a0 a1 a2 a3) (dg N 2 a0 a1 a2 a3) (dg N 3 a0 a1 a2 a3) (dg N 4 a0 a1 a2 a3) (dg N 5 a0 a1 a2 a3) (dg N 6 a0 a1 a2 a3) (dg N 7 a0 a1 a2 a3) (dg N 0 b0 b1 b2 b3) (dg N 1 b0 b1 b2 b3) (dg N 2 b0 b1 b2 b3) (dg N 3 b0 b1 b2 b3) (dg N 4 b0 b1 b2 b3) (dg N 5 b0 b1 b2 b3) (dg N 6 b0 b1 b2 b3) (dg N 7 b0 b1 b2 b3)) okI ?_ ?_ hL (.inr rfl)
    · cbv
      subst hO; subst hI
      simp only [wideOkO, wideOkI] at hd ⊢
      refine ⟨⟨hd.1, by unfold H; omega, hd.2.1, ?_⟩, trivial⟩
      rw [show (8 - 8 : Nat) = 0 from rfl, ypart0, hd.2.2]
    clear hd
    intro n hn d hd
    match n, hn with
    | 8, _ =>
      obtain ⟨⟨w0, w1, w2, w3, w4, w5, w6, w7, w8, w9, w10, w11, w12, w13, w14, w15⟩, c⟩ := d
      cbv
      cases hA; subst hN; subst hI
      refine ⟨?_, by first | trivial | exact ⟨rfl, trivial⟩⟩
      obtain ⟨⟨k0, k1, k2, k3, k4, k5, k6, k7, k8, k9, k10, k11, k12, k13, k14, k15⟩, kc, kt, ke⟩ := hd
      simp only [apStd, iopadd, iopmul]
      simp only at ke kt kc
      generalize part8 0 (dig32 0 (num4 a0 a1 a2 a3)) (dig32 1 (num4 a0 a1 a2 a3)) (dig32 2 (num4 a0 a1 a2 a3)) (dig32 3 (num4 a0 a1 a2 a3)) (dig32 4 (num4 a0 a1 a2 a3)) (dig32 5 (num4 a0 a1 a2 a3)) (dig32 6 (num4 a0 a1 a2 a3)) (dig32 7 (num4 a0 a1 a2 a3)) * num4 b0 b1 b2 b3 = P at *
      have hx := dig32_H 0 (num4 a0 a1 a2 a3)
      have hy := dig32_H 0 (num4 b0 b1 b2 b3)
      generalize dig32 0 (num4 a0 a1 a2 a3) = x at *
      generalize dig32 0 (num4 b0 b1 b2 b3) = y0, dig32 1 (num4 b0 b1 b2 b3) = y1, dig32 2 (num4 b0 b1 b2 b3) = y2, dig32 3 (num4 b0 b1 b2 b3) = y3, dig32 4 (num4 b0 b1 b2 b3) = y4, dig32 5 (num4 b0 b1 b2 b3) = y5, dig32 6 (num4 b0 b1 b2 b3) = y6, dig32 7 (num4 b0 b1 b2 b3) = y7 at *
      obtain ⟨t, ht⟩ : ∃ t, t = ((w0 + x * y0 % 18446744073709551616) % 18446744073709551616 + c) % 18446744073709551616 := ⟨_, rfl⟩
      rw [← ht]
      obtain ⟨m0, m1, m2, m3⟩ := mac32 hx hy k0 kc ht rfl rfl
      rw [mask32 m0, shr32]
      generalize t % 4294967296 = l at *
      generalize t / 4294967296 = h at *
      refine ⟨⟨m1, k1, k2, k3, k4, k5, k6, k7, k8, k9, k10, k11, k12, k13, k14, k15⟩, m2, kt, ?_⟩
      rw [show (8 - 8 : Nat) = 0 from rfl, ypart0] at ke
      rw [show (8 - 7 : Nat) = 1 from rfl, ypart1]
      simp only [ph, v16] at ke ⊢
      clear ht m0
      omega
    | 7, _ =>
      obtain ⟨⟨w0, w1, w2, w3, w4, w5, w6, w7, w8, w9, w10, w11, w12, w13, w14, w15⟩, c⟩ := d
      cbv
      cases hA; subst hN; subst hI
      refine ⟨?_, by first | trivial | exact ⟨rfl, trivial⟩⟩
      obtain ⟨⟨k0, k1, k2, k3, k4, k5, k6, k7, k8, k9, k10, k11, k12, k13, k14, k15⟩, kc, kt, ke⟩ := hd
      simp only [apStd, iopadd, iopmul]
      simp only at ke kt kc
      generalize part8 0 (dig32 0 (num4 a0 a1 a2 a3)) (dig32 1 (num4 a0 a1 a2 a3)) (dig32 2 (num4 a0 a1 a2 a3)) (dig32 3 (num4 a0 a1 a2 a3)) (dig32 4 (num4 a0 a1 a2 a3)) (dig32 5 (num4 a0 a1 a2 a3)) (dig32 6 (num4 a0 a1 a2 a3)) (dig32 7 (num4 a0 a1 a2 a3)) * num4 b0 b1 b2 b3 = P at *
      have hx := dig32_H 0 (num4 a0 a1 a2 a3)
      have hy := dig32_H 1 (num4 b0 b1 b2 b3)
      generalize dig32 0 (num4 a0 a1 a2 a3) = x at *
      generalize dig32 0 (num4 b0 b1 b2 b3) = y0, dig32 1 (num4 b0 b1 b2 b3) = y1, dig32 2 (num4 b0 b1 b2 b3) = y2, dig32 3 (num4 b0 b1 b2 b3) = y3, dig32 4 (num4 b0 b1 b2 b3) = y4, dig32 5 (num4 b0 b1 b2 b3) = y5, dig32 6 (num4 b0 b1 b2 b3) = y6, dig32 7 (num4 b0 b1 b2 b3) = y7 at *
      obtain ⟨t, ht⟩ : ∃ t, t = ((w1 + x * y1 % 18446744073709551616) % 18446744073709551616 + c) % 18446744073709551616 := ⟨_, rfl⟩
      rw [← ht]
      obtain ⟨m0, m1, m2, m3⟩ := mac32 hx hy k1 kc ht rfl rfl
      rw [mask32 m0, shr32]
      generalize t % 4294967296 = l at *
      generalize t / 4294967296 = h at *
      refine ⟨⟨k0, m1, k2, k3, k4, k5, k6, k7, k8, k9, k10, k11, k12, k13, k14, k15⟩, m2, kt, ?_⟩
      rw [show (8 - 7 : Nat) = 1 from rfl, ypart1] at ke
      rw [show (8 - 6 : Nat) = 2 from rfl, ypart2]
      simp only [ph, v16] at ke ⊢
      clear ht m0
      omega
    | 6, _ =>
      obtain ⟨⟨w0, w1, w2, w3, w4, w5, w6, w7, w8, w9, w10, w11, w12, w13, w14, w15⟩, c⟩ := d
      cbv
      cases hA; subst hN; subst hI
      refine ⟨?_, by first | trivial | exact ⟨rfl, trivial⟩⟩
      obtain ⟨⟨k0, k1, k2, k3, k4, k5, k6, k7, k8, k9, k10, k11, k12, k13, k14, k15⟩, kc, kt, ke⟩ := hd
      simp only [apStd, iopadd, iopmul]
      simp only at ke kt kc
      generalize part8 0 (dig32 0 (num4 a0 a1 a2 a3)) (dig32 1 (num4 a0 a1 a2 a3)) (dig32 2 (num4 a0 a1 a2 a3)) (dig32 3 (num4 a0 a1 a2 a3)) (dig32 4 (num4 a0 a1 a2 a3)) (dig32 5 (num4 a0 a1 a2 a3)) (dig32 6 (num4 a0 a1 a2 a3)) (dig32 7 (num4 a0 a1 a2 a3)) * num4 b0 b1 b2 b3 = P at *
      have hx := dig32_H 0 (num4 a0 a1 a2 a3)
      have hy := dig32_H 2 (num4 b0 b1 b2 b3)
      generalize dig32 0 (num4 a0 a1 a2 a3) = x at *
      generalize dig32 0 (num4 b0 b1 b2 b3) = y0, dig32 1 (num4 b0 b1 b2 b3) = y1, dig32 2 (num4 b0 b1 b2 b3) = y2, dig32 3 (num4 b0 b1 b2 b3) = y3, dig32 4 (num4 b0 b1 b2 b3) = y4, dig32 5 (num4 b0 b1 b2 b3) = y5, dig32 6 (num4 b0 b1 b2 b3) = y6, dig32 7 (num4 b0 b1 b2 b3) = y7 at *
      obtain ⟨t, ht⟩ : ∃ t, t = ((w2 + x * y2 % 18446744073709551616) % 18446744073709551616 + c) % 18446744073709551616 := ⟨_, rfl⟩
      rw [← ht]
      obtain ⟨m0, m1, m2, m3⟩ := mac32 hx hy k2 kc ht rfl rfl
      rw [mask32 m0, shr32]
      generalize t % 4294967296 = l at *
      generalize t / 4294967296 = h at *
      refine ⟨⟨k0, k1, m1, k3, k4, k5, k6, k7, k8, k9, k10, k11, k12, k13, k14, k15⟩, m2, kt, ?_⟩
      rw [show (8 - 6 : Nat) = 2 from rfl, ypart2] at ke
      rw [show (8 - 5 : Nat) = 3 from rfl, ypart3]
      simp only [ph, v16] at ke ⊢
      clear ht m0
      omega
    | 5, _ =>
      obtain ⟨⟨w0, w1, w2, w3, w4, w5, w6, w7, w8, w9, w10, w11, w12, w13, w14, w15⟩, c⟩ := d
      cbv
      cases hA; subst hN; subst hI
      refine ⟨?_, by first | trivial | exact ⟨rfl, trivial⟩⟩
      obtain ⟨⟨k0, k1, k2, k3, k4, k5, k6, k7, k8, k9, k10, k11, k12, k13, k14, k15⟩, kc, kt, ke⟩ := hd
      simp only [apStd, iopadd, iopmul]
      simp only at ke kt kc
      generalize part8 0 (dig32 0 (num4 a0 a1 a2 a3)) (dig32 1 (num4 a0 a1 a2 a3)) (dig32 2 (num4 a0 a1 a2 a3)) (dig32 3 (num4 a0 a1 a2 a3)) (dig32 4 (num4 a0 a1 a2 a3)) (dig32 5 (num4 a0 a1 a2 a3)) (dig32 6 (num4 a0 a1 a2 a3)) (dig32 7 (num4 a0 a1 a2 a3)) * num4 b0 b1 b2 b3 = P at *
      have hx := dig32_H 0 (num4 a0 a1 a2 a3)
      have hy := dig32_H 3 (num4 b0 b1 b2 b3)
      generalize dig32 0 (num4 a0 a1 a2 a3) = x at *
      generalize dig32 0 (num4 b0 b1 b2 b3) = y0, dig32 1 (num4 b0 b1 b2 b3) = y1, dig32 2 (num4 b0 b1 b2 b3) = y2, dig32 3 (num4 b0 b1 b2 b3) = y3, dig32 4 (num4 b0 b1 b2 b3) = y4, dig32 5 (num4 b0 b1 b2 b3) = y5, dig32 6 (num4 b0 b1 b2 b3) = y6, dig32 7 (num4 b0 b1 b2 b3) = y7 at *
      obtain ⟨t, ht⟩ : ∃ t, t = ((w3 + x * y3 % 18446744073709551616) % 18446744073709551616 + c) % 18446744073709551616 := ⟨_, rfl⟩
      rw [← ht]
      obtain ⟨m0, m1, m2, m3⟩ := mac32 hx hy k3 kc ht rfl rfl
      rw [mask32 m0, shr32]
      generalize t % 4294967296 = l at *
      generalize t / 4294967296 = h at *
      refine ⟨⟨k0, k1, k2, m1, k4, k5, k6, k7, k8, k9, k10, k11, k12, k13, k14, k15⟩, m2, kt, ?_⟩
      rw [show (8 - 5 : Nat) = 3 from rfl, ypart3] at ke
      rw [show (8 - 4 : Nat) = 4 from rfl, ypart4]
      simp only [ph, v16] at ke ⊢
      clear ht m0
      omega
    | 4, _ =>
      obtain ⟨⟨w0, w1, w2, w3, w4, w5, w6, w7, w8, w9, w10, w11, w12, w13, w14, w15⟩, c⟩ := d
      cbv
      cases hA; subst hN; subst hI
      refine ⟨?_, by first | trivial | exact ⟨rfl, trivial⟩⟩
      obtain ⟨⟨k0, k1, k2, k3, k4, k5, k6, k7, k8, k9, k10, k11, k12, k13, k14, k15⟩, kc, kt, ke⟩ := hd
      simp only [apStd, iopadd, iopmul]
      simp only at ke kt kc
      generalize part8 0 (dig32 0 (num4 a0 a1 a2 a3)) (dig32 1 (num4 a0 a1 a2 a3)) (dig32 2 (num4 a0 a1 a2 a3)) (dig32 3 (num4 a0 a1 a2 a3)) (dig32 4 (num4 a0 a1 a2 a3)) (dig32 5 (num4 a0 a1 a2 a3)) (dig32 6 (num4 a0 a1 a2 a3)) (dig32 7 (num4 a0 a1 a2 a3)) * num4 b0 b1 b2 b3 = P at *
      have hx := dig32_H 0 (num4 a0 a1 a2 a3)
      have hy := dig32_H 4 (num4 b0 b1 b2 b3)
      generalize dig32 0 (num4 a0 a1 a2 a3) = x at *
      generalize dig32 0 (num4 b0 b1 b2 b3) = y0, dig32 1 (num4 b0 b1 b2 b3) = y1, dig32 2 (num4 b0 b1 b2 b3) = y2, dig32 3 (num4 b0 b1 b2 b3) = y3, dig32 4 (num4 b0 b1 b2 b3) = y4, dig32 5 (num4 b0 b1 b2 b3) = y5, dig32 6 (num4 b0 b1 b2 b3) = y6, dig32 7 (num4 b0 b1 b2 b3) = y7 at *
      obtain ⟨t, ht⟩ : ∃ t, t = ((w4 + x * y4 % 18446744073709551616) % 18446744073709551616 + c) % 18446744073709551616 := ⟨_, rfl⟩
      rw [← ht]
      obtain ⟨m0, m1, m2, m3⟩ := mac32 hx hy k4 kc ht rfl rfl
      rw [mask32 m0, shr32]
      generalize t % 4294967296 = l at *
      generalize t / 4294967296 = h at *
      refine ⟨⟨k0, k1, k2, k3, m1, k5, k6, k7, k8, k9, k10, k11, k12, k13, k14, k15⟩, m2, kt, ?_⟩
      rw [show (8 - 4 : Nat) = 4 from rfl, ypart4] at ke
      rw [show (8 - 3 : Nat) = 5 from rfl, ypart5]
      simp only [ph, v16] at ke ⊢
      clear ht m0
      omega
    | 3, _ =>
      obtain ⟨⟨w0, w1, w2, w3, w4, w5, w6, w7, w8, w9, w10, w11, w12, w13, w14, w15⟩, c⟩ := d
      cbv
      cases hA; subst hN; subst hI
      refine ⟨?_, by first | trivial | exact ⟨rfl, trivial⟩⟩
      obtain ⟨⟨k0, k1, k2, k3, k4, k5, k6, k7, k8, k9, k10, k11, k12, k13, k14, k15⟩, kc, kt, ke⟩ := hd
      simp only [apStd, iopadd, iopmul]
      simp only at ke kt kc
      generalize part8 0 (dig32 0 (num4 a0 a1 a2 a3)) (dig32 1 (num4 a0 a1 a2 a3)) (dig32 2 (num4 a0 a1 a2 a3)) (dig32 3 (num4 a0 a1 a2 a3)) (dig32 4 (num4 a0 a1 a2 a3)) (dig32 5 (num4 a0 a1 a2 a3)) (dig32 6 (num4 a0 a1 a2 a3)) (dig32 7 (num4 a0 a1 a2 a3)) * num4 b0 b1 b2 b3 = P at *
      have hx := dig32_H 0 (num4 a0 a1 a2 a3)
      have hy := dig32_H 5 (num4 b0 b1 b2 b3)
      generalize dig32 0 (num4 a0 a1 a2 a3) = x at *
      generalize dig32 0 (num4 b0 b1 b2 b3) = y0, dig32 1 (num4 b0 b1 b2 b3) = y1, dig32 2 (num4 b0 b1 b2 b3) = y2, dig32 3 (num4 b0 b1 b2 b3) = y3, dig32 4 (num4 b0 b1 b2 b3) = y4, dig32 5 (num4 b0 b1 b2 b3) = y5, dig32 6 (num4 b0 b1 b2 b3) = y6, dig32 7 (num4 b0 b1 b2 b3) = y7 at *
      obtain ⟨t, ht⟩ : ∃ t, t = ((w5 + x * y5 % 18446744073709551616) % 18446744073709551616 + c) % 18446744073709551616 := ⟨_, rfl⟩
      rw [← ht]
      obtain ⟨m0, m1, m2, m3⟩ := mac32 hx hy k5 kc ht rfl rfl
      rw [mask32 m0, shr32]
      generalize t % 4294967296 = l at *
      generalize t / 4294967296 = h at *
      refine ⟨⟨k0, k1, k2, k3, k4, m1, k6, k7, k8, k9, k10, k11, k12, k13, k14, k15⟩, m2, kt, ?_⟩
      rw [show (8 - 3 : Nat) = 5 from rfl, ypart5] at ke
      rw [show (8 - 2 : Nat) = 6 from rfl, ypart6]
      simp only [ph, v16] at ke ⊢
      clear ht m0
      omega
    | 2, _ =>
      obtain ⟨⟨w0, w1, w2, w3, w4, w5, w6, w7, w8, w9, w10, w11, w12, w13, w14, w15⟩, c⟩ := d
      cbv
      cases hA; subst hN; subst hI
      refine ⟨?_, by first | trivial | exact ⟨rfl, trivial⟩⟩
      obtain ⟨⟨k0, k1, k2, k3, k4, k5, k6, k7, k8, k9, k10, k11, k12, k13, k14, k15⟩, kc, kt, ke⟩ := hd
      simp only [apStd, iopadd, iopmul]
      simp only at ke kt kc
      generalize part8 0 (dig32 0 (num4 a0 a1 a2 a3)) (dig32 1 (num4 a0 a1 a2 a3)) (dig32 2 (num4 a0 a1 a2 a3)) (dig32 3 (num4 a0 a1 a2 a3)) (dig32 4 (num4 a0 a1 a2 a3)) (dig32 5 (num4 a0 a1 a2 a3)) (dig32 6 (num4 a0 a1 a2 a3)) (dig32 7 (num4 a0 a1 a2 a3)) * num4 b0 b1 b2 b3 = P at *
      have hx := dig32_H 0 (num4 a0 a1 a2 a3)
      have hy := dig32_H 6 (num4 b0 b1 b2 b3)
      generalize dig32 0 (num4 a0 a1 a2 a3) = x at *
      generalize dig32 0 (num4 b0 b1 b2 b3) = y0, dig32 1 (num4 b0 b1 b2 b3) = y1, dig32 2 (num4 b0 b1 b2 b3) = y2, dig32 3 (num4 b0 b1 b2 b3) = y3, dig32 4 (num4 b0 b1 b2 b3) = y4, dig32 5 (num4 b0 b1 b2 b3) = y5, dig32 6 (num4 b0 b1 b2 b3) = y6, dig32 7 (num4 b0 b1 b2 b3) = y7 at *
      obtain ⟨t, ht⟩ : ∃ t, t = ((w6 + x * y6 % 18446744073709551616) % 18446744073709551616 + c) % 18446744073709551616 := ⟨_, rfl⟩
      rw [← ht]
      obtain ⟨m0, m1, m2, m3⟩ := mac32 hx hy k6 kc ht rfl rfl
      rw [mask32 m0, shr32]
      generalize t % 4294967296 = l at *
      generalize t / 4294967296 = h at *
      refine ⟨⟨k0, k1, k2, k3, k4, k5, m1, k7, k8, k9, k10, k11, k12, k13, k14, k15⟩, m2, kt, ?_⟩
      rw [show (8 - 2 : Nat) = 6 from rfl, ypart6] at ke
      rw [show (8 - 1 : Nat) = 7 from rfl, ypart7]
      simp only [ph, v16] at ke ⊢
      clear ht m0
      omega
    | 1, _ =>
      obtain ⟨⟨w0, w1, w2, w3, w4, w5, w6, w7, w8, w9, w10, w11, w12, w13, w14, w15⟩, c⟩ := d
      cbv
      cases hA; subst hN; subst hI
      refine ⟨?_, by first | trivial | exact ⟨rfl, trivial⟩⟩
      obtain ⟨⟨k0, k1, k2, k3, k4, k5, k6, k7, k8, k9, k10, k11, k12, k13, k14, k15⟩, kc, kt, ke⟩ := hd
      simp only [apStd, iopadd, iopmul]
      simp only at ke kt kc
      generalize part8 0 (dig32 0 (num4 a0 a1 a2 a3)) (dig32 1 (num4 a0 a1 a2 a3)) (dig32 2 (num4 a0 a1 a2 a3)) (dig32 3 (num4 a0 a1 a2 a3)) (dig32 4 (num4 a0 a1 a2 a3)) (dig32 5 (num4 a0 a1 a2 a3)) (dig32 6 (num4 a0 a1 a2 a3)) (dig32 7 (num4 a0 a1 a2 a3)) * num4 b0 b1 b2 b3 = P at *
      have hx := dig32_H 0 (num4 a0 a1 a2 a3)
      have hy := dig32_H 7 (num4 b0 b1 b2 b3)
      generalize dig32 0 (num4 a0 a1 a2 a3) = x at *
      generalize dig32 0 (num4 b0 b1 b2 b3) = y0, dig32 1 (num4 b0 b1 b2 b3) = y1, dig32 2 (num4 b0 b1 b2 b3) = y2, dig32 3 (num4 b0 b1 b2 b3) = y3, dig32 4 (num4 b0 b1 b2 b3) = y4, dig32 5 (num4 b0 b1 b2 b3) = y5, dig32 6 (num4 b0 b1 b2 b3) = y6, dig32 7 (num4 b0 b1 b2 b3) = y7 at *
      obtain ⟨t, ht⟩ : ∃ t, t = ((w7 + x * y7 % 18446744073709551616) % 18446744073709551616 + c) % 18446744073709551616 := ⟨_, rfl⟩
      rw [← ht]
      obtain ⟨m0, m1, m2, m3⟩ := mac32 hx hy k7 kc ht rfl rfl
      rw [mask32 m0, shr32]
      generalize t % 4294967296 = l at *
      generalize t / 4294967296 = h at *
      refine ⟨⟨k0, k1, k2, k3, k4, k5, k6, m1, k8, k9, k10, k11, k12, k13, k14, k15⟩, m2, kt, ?_⟩
      rw [show (8 - 1 : Nat) = 7 from rfl, ypart7] at ke
      rw [show (8 - 0 : Nat) = 8 from rfl, ypart8]
      simp only [ph, v16] at ke ⊢
      clear ht m0
      omega
    | 0, _ =>
      obtain ⟨⟨w0, w1, w2, w3, w4, w5, w6, w7, w8, w9, w10, w11, w12, w13, w14, w15⟩, c⟩ := d
      cbv
      subst hO; subst hI
      refine ⟨?_, by first | trivial | exact ⟨rfl, trivial⟩⟩
      obtain ⟨⟨k0, k1, k2, k3, k4, k5, k6, k7, k8, k9, k10, k11, k12, k13, k14, k15⟩, kc, kt, ke⟩ := hd
      simp only at ke kt kc
      refine ⟨⟨k0, k1, k2, k3, k4, k5, k6, k7, kc, k9, k10, k11, k12, k13, k14, k15⟩, kt.2, ?_⟩
      rw [show (8 - 0 : Nat) = 8 from rfl, halves_v hb] at ke
      rw [show (8 - 7 : Nat) = 1 from rfl, Int.mul_comm, ypart1]
      rw [Int.mul_comm (part8 0 (dig32 0 (num4 a0 a1 a2 a3)) (dig32 1 (num4 a0 a1 a2 a3)) (dig32 2 (num4 a0 a1 a2 a3)) (dig32 3 (num4 a0 a1 a2 a3)) (dig32 4 (num4 a0 a1 a2 a3)) (dig32 5 (num4 a0 a1 a2 a3)) (dig32 6 (num4 a0 a1 a2 a3)) (dig32 7 (num4 a0 a1 a2 a3))), ypart0, Int.mul_comm (dig32 0 (num4 a0 a1 a2 a3))] at ke
      simp only [tail16] at kt
      simp only [ph, v16] at ke ⊢
      omega
  | 7, _ =>
    obtain ⟨w0, w1, w2, w3, w4, w5, w6, w7, w8, w9, w10, w11, w12, w13, w14, w15⟩ := d
    cbv
    obtain ⟨okI, hI⟩ : ∃ f, f = wideOkI 1 (part8 1 (dig32 0 (num4 a0 a1 a2 a3)) (dig32 1 (num4 a0 a1 a2 a3)) (dig32 2 (num4 a0 a1 a2 a3)) (dig32 3 (num4 a0 a1 a2 a3)) (dig32 4 (num4 a0 a1 a2 a3)) (dig32 5 (num4 a0 a1 a2 a3)) (dig32 6 (num4 a0 a1 a2 a3)) (dig32 7 (num4 a0 a1 a2 a3)) * num4 b0 b1 b2 b3) (dig32 1 (num4 a0 a1 a2 a3)) (dig32 0 (num4 b0 b1 b2 b3)) (dig32 1 (num4 b0 b1 b2 b3)) (dig32 2 (num4 b0 b1 b2 b3)) (dig32 3 (num4 b0 b1 b2 b3)) (dig32 4 (num4 b0 b1 b2 b3)) (dig32 5 (num4 b0 b1 b2 b3)) (dig32 6 (num4 b0 b1 b2 b3)) (dig32 7 (num4 b0 b1 b2 b3)) := ⟨_, rfl⟩
    refine lp_ex hL 8 wideEx (wideI 1 a0 a1 a2 a3 b0 b1 b2 b3 (dg N 0 a0 a1 a2 a3) (dg N 1 a0 a1 a2 a3) (dg N 2 a0 a1 a2 a3) (dg N 3 a0 a1 a2 a3) (dg N 4 a0 a1 a2 a3) (dg N 5 a0 a1 a2 a3) (dg N 6 a0 a1 a2 a3) (dg N 7 a0 a1 a2 a3) (dg N 0 b0 b1 b2 b3) (dg N 1 b0 b1 b2 b3) (dg N 2 b0 b1 b2 b3) (dg N 3 b0 b1 b2 b3) (dg N 4 b0 b1 b2 b3) (dg N 5 b0 b1 b2 b3) (dg N 6 b0 b1 b2 b3) (dg N 7 b0 b1 b2 b3)) okI ?_ ?_ hL (.inr rfl)
    · cbv
      subst hO; subst hI
      simp only [wideOkO, wideOkI] at hd ⊢
      refine ⟨⟨hd.1, by unfold H; omega, hd.2.1, ?_⟩, trivial⟩
      rw [show (8 - 8 : Nat) = 0 from rfl, ypart0, hd.2.2]
    clear hd
    intro n hn d hd
    match n, hn with
    | 8, _ =>
      obtain ⟨⟨w0, w1, w2, w3, w4, w5, w6, w7, w8, w9, w10, w11, w12, w13, w14, w15⟩, c⟩ := d
      cbv
      cases hA; subst hN; subst hI
      refine ⟨?_, by first | trivial | exact ⟨rfl, trivial⟩⟩
      obtain ⟨⟨k0, k1, k2, k3, k4, k5, k6, k7, k8, k9, k10, k11, k12, k13, k14, k15⟩, kc, kt, ke⟩ := hd
      simp only [apStd, iopadd, iopmul]
      simp only at ke kt kc
      generalize part8 1 (dig32 0 (num4 a0 a1 a2 a3)) (dig32 1 (num4 a0 a1 a2 a3)) (dig32 2 (num4 a0 a1 a2 a3)) (dig32 3 (num4 a0 a1 a2 a3)) (dig32 4 (num4 a0 a1 a2 a3)) (dig32 5 (num4 a0 a1 a2 a3)) (dig32 6 (num4 a0 a1 a2 a3)) (dig32 7 (num4 a0 a1 a2 a3)) * num4 b0 b1 b2 b3 = P at *
      have hx := dig32_H 1 (num4 a0 a1 a2 a3)
      have hy := dig32_H 0 (num4 b0 b1 b2 b3)
      generalize dig32 1 (num4 a0 a1 a2 a3) = x at *
      generalize dig32 0 (num4 b0 b1 b2 b3) = y0, dig32 1 (num4 b0 b1 b2 b3) = y1, dig32 2 (num4 b0 b1 b2 b3) = y2, dig32 3 (num4 b0 b1 b2 b3) = y3, dig32 4 (num4 b0 b1 b2 b3) = y4, dig32 5 (num4 b0 b1 b2 b3) = y5, dig32 6 (num4 b0 b1 b2 b3) = y6, dig32 7 (num4 b0 b1 b2 b3) = y7 at *
      obtain ⟨t, ht⟩ : ∃ t, t = ((w1 + x * y0 % 18446744073709551616) % 18446744073709551616 + c) % 18446744073709551616 := ⟨_, rfl⟩
      rw [← ht]
      obtain ⟨m0, m1, m2, m3⟩ := mac32 hx hy k1 kc ht rfl rfl
      rw [mask32 m0, shr32]
      generalize t % 4294967296 = l at *
      generalize t / 4294967296 = h at *
      refine ⟨⟨k0, m1, k2, k3, k4, k5, k6, k7, k8, k9, k10, k11, k12, k13, k14, k15⟩, m2, kt, ?_⟩
      rw [show (8 - 8 : Nat) = 0 from rfl, ypart0] at ke
      rw [show (8 - 7 : Nat) = 1 from rfl, ypart1]
      simp only [ph, v16] at ke ⊢
      clear ht m0
      omega
    | 7, _ =>
      obtain ⟨⟨w0, w1, w2, w3, w4, w5, w6, w7, w8, w9, w10, w11, w12, w13, w14, w15⟩, c⟩ := d
      cbv
      cases hA; subst hN; subst hI
      refine ⟨?_, by first | trivial | exact ⟨rfl, trivial⟩⟩
      obtain ⟨⟨k0, k1, k2, k3, k4, k5, k6, k7, k8, k9, k10, k11, k12, k13, k14, k15⟩, kc, kt, ke⟩ := hd
      simp only [apStd, iopadd, iopmul]
      simp only at ke kt kc
      generalize part8 1 (dig32 0 (num4 a0 a1 a2 a3)) (dig32 1 (num4 a0 a1 a2 a3)) (dig32 2 (num4 a0 a1 a2 a3)) (dig32 3 (num4 a0 a1 a2 a3)) (dig32 4 (num4 a0 a1 a2 a3)) (dig32 5 (num4 a0 a1 a2 a3)) (dig32 6 (num4 a0 a1 a2 a3)) (dig32 7 (num4 a0 a1 a2 a3)) * num4 b0 b1 b2 b3 = P at *
      have hx := dig32_H 1 (num4 a0 a1 a2 a3)
      have hy := dig32_H 1 (num4 b0 b1 b2 b3)
      generalize dig32 1 (num4 a0 a1 a2 a3) = x at *
      generalize dig32 0 (num4 b0 b1 b2 b3) = y0, dig32 1 (num4 b0 b1 b2 b3) = y1, dig32 2 (num4 b0 b1 b2 b3) = y2, dig32 3 (num4 b0 b1 b2 b3) = y3, dig32 4 (num4 b0 b1 b2 b3) = y4, dig32 5 (num4 b0 b1 b2 b3) = y5, dig32 6 (num4 b0 b1 b2 b3) = y6, dig32 7 (num4 b0 b1 b2 b3) = y7 at *
      obtain ⟨t, ht⟩ : ∃ t, t = ((w2 + x * y1 % 18446744073709551616) % 18446744073709551616 + c) % 18446744073709551616 := ⟨_, rfl⟩
      rw [← ht]
      obtain ⟨m0, m1, m2, m3⟩ := mac32 hx hy k2 kc ht rfl rfl
      rw [mask32 m0, shr32]
      generalize t % 4294967296 = l at *
      generalize t / 4294967296 = h at *
      refine ⟨⟨k0, k1, m1, k3, k4, k5, k6, k7, k8, k9, k10, k11, k12, k13, k14, k15⟩, m2, kt, ?_⟩
      rw [show (8 - 7 : Nat) = 1 from rfl, ypart1] at ke
      rw [show (8 - 6 : Nat) = 2 from rfl, ypart2]
      simp only [ph, v16] at ke ⊢
      clear ht m0
      omega
    | 6, _ =>
      obtain ⟨⟨w0, w1, w2, w3, w4, w5, w6, w7, w8, w9, w10, w11, w12, w13, w14, w15⟩, c⟩ := d
      cbv
      cases hA; subst hN; subst hI
      refine ⟨?_, by first | trivial | exact ⟨rfl, trivial⟩⟩
      obtain ⟨⟨k0, k1, k2, k3, k4, k5, k6, k7, k8, k9, k10, k11, k12, k13, k14, k15⟩, kc, kt, ke⟩ := hd
      simp only [apStd, iopadd, iopmul]
      simp only at ke kt kc
      generalize part8 1 (dig32 0 (num4 a0 a1 a2 a3)) (dig32 1 (num4 a0 a1 a2 a3)) (dig32 2 (num4 a0 a1 a2 a3)) (dig32 3 (num4 a0 a1 a2 a3)) (dig32 4 (num4 a0 a1 a2 a3)) (dig32 5 (num4 a0 a1 a2 a3)) (dig32 6 (num4 a0 a1 a2 a3)) (dig32 7 (num4 a0 a1 a2 a3)) * num4 b0 b1 b2 b3 = P at *
      have hx := dig32_H 1 (num4 a0 a1 a2 a3)
      have hy := dig32_H 2 (num4 b0 b1 b2 b3)
      generalize dig32 1 (num4 a0 a1 a2 a3) = x at *
      generalize dig32 0 (num4 b0 b1 b2 b3) = y0, dig32 1 (num4 b0 b1 b2 b3) = y1, dig32 2 (num4 b0 b1 b2 b3) = y2, dig32 3 (num4 b0 b1 b2 b3) = y3, dig32 4 (num4 b0 b1 b2 b3) = y4, dig32 5 (num4 b0 b1 b2 b3) = y5, dig32 6 (num4 b0 b1 b2 b3) = y6, dig32 7 (num4 b0 b1 b2 b3) = y7 at *
      obtain ⟨t, ht⟩ : ∃ t, t = ((w3 + x * y2 % 18446744073709551616) % 18446744073709551616 + c) % 18446744073709551616 := ⟨_, rfl⟩
      rw [← ht]
      obtain ⟨m0, m1, m2, m3⟩ := mac32 hx hy k3 kc ht rfl rfl
      rw [mask32 m0, shr32]
      generalize t % 4294967296 = l at *
      generalize t / 4294967296 = h at *
      refine ⟨⟨k0, k1, k2, m1, k4, k5, k6, k7, k8, k9, k10, k11, k12, k13, k14, k15⟩, m2, kt, ?_⟩
      rw [show (8 - 6 : Nat) = 2 from rfl, ypart2] at ke
      rw [show (8 - 5 : Nat) = 3 from rfl, ypart3]
      simp only [ph, v16] at ke ⊢
      clear ht m0
      omega
    | 5, _ =>
      obtain ⟨⟨w0, w1, w2, w3, w4, w5, w6, w7, w8, w9, w10, w11, w12, w13, w14, w15⟩, c⟩ := d
      cbv
      cases hA; subst hN; subst hI
      refine ⟨?_, by first | trivial | exact ⟨rfl, trivial⟩⟩
      obtain ⟨⟨k0, k1, k2, k3, k4, k5, k6, k7, k8, k9, k10, k11, k12, k13, k14, k15⟩, kc, kt, ke⟩ := hd
      simp only [apStd, iopadd, iopmul]
      simp only at ke kt kc
      generalize part8 1 (dig32 0 (num4 a0 a1 a2 a3)) (dig32 1 (num4 a0 a1 a2 a3)) (dig32 2 (num4 a0 a1 a2 a3)) (dig32 3 (num4 a0 a1 a2 a3)) (dig32 4 (num4 a0 a1 a2 a3)) (dig32 5 (num4 a0 a1 a2 a3)) (dig32 6 (num4 a0 a1 a2 a3)) (dig32 7 (num4 a0 a1 a2 a3)) * num4 b0 b1 b2 b3 = P at *
      have hx := dig32_H 1 (num4 a0 a1 a2 a3)
      have hy := dig32_H 3 (num4 b0 b1 b2 b3)
      generalize dig32 1 (num4 a0 a1 a2 a3) = x at *
      generalize dig32 0 (num4 b0 b1 b2 b3) = y0, dig32 1 (num4 b0 b1 b2 b3) = y1, dig32 2 (num4 b0 b1 b2 b3) = y2, dig32 3 (num4 b0 b1 b2 b3) = y3, dig32 4 (num4 b0 b1 b2 b3) = y4, dig32 5 (num4 b0 b1 b2 b3) = y5, dig32 6 (num4 b0 b1 b2 b3) = y6, dig32 7 (num4 b0 b1 b2 b3) = y7 at *
      obtain ⟨t, ht⟩ : ∃ t, t = ((w4 + x * y3 % 18446744073709551616) % 18446744073709551616 + c) % 18446744073709551616 := ⟨_, rfl⟩
      rw [← ht]
      obtain ⟨m0, m1, m2, m3⟩ := mac32 hx hy k4 kc ht rfl rfl
      rw [mask32 m0, shr32]
      generalize t % 4294967296 = l at *
      generalize t / 4294967296 = h at *
      refine ⟨⟨k0, k1, k2, k3, m1, k5, k6, k7, k8, k9, k10, k11, k12, k13, k14, k15⟩, m2, kt, ?_⟩
      rw [show (8 - 5 : Nat) = 3 from rfl, ypart3] at ke
      rw [show (8 - 4 : Nat) = 4 from rfl, ypart4]
      simp only [ph, v16] at ke ⊢
      clear ht m0
      omega
    | 4, _ =>
      obtain ⟨⟨w0, w1, w2, w3, w4, w5, w6, w7, w8, w9, w10, w11, w12, w13, w14, w15⟩, c⟩ := d
      cbv
      cases hA; subst hN; subst hI
      refine ⟨?_, by first | trivial | exact ⟨rfl, trivial⟩⟩
      obtain ⟨⟨k0, k1, k2, k3, k4, k5, k6, k7, k8, k9, k10, k11, k12, k13, k14, k15⟩, kc, kt, ke⟩ := hd
      simp only [apStd, iopadd, iopmul]
      simp only at ke kt kc
      generalize part8 1 (dig32 0 (num4 a0 a1 a2 a3)) (dig32 1 (num4 a0 a1 a2 a3)) (dig32 2 (num4 a0 a1 a2 a3)) (dig32 3 (num4 a0 a1 a2 a3)) (dig32 4 (num4 a0 a1 a2 a3)) (dig32 5 (num4 a0 a1 a2 a3)) (dig32 6 (num4 a0 a1 a2 a3)) (dig32 7 (num4 a0 a1 a2 a3)) * num4 b0 b1 b2 b3 = P at *
      have hx := dig32_H 1 (num4 a0 a1 a2 a3)
      have hy := dig32_H 4 (num4 b0 b1 b2 b3)
      generalize dig32 1 (num4 a0 a1 a2 a3) = x at *
      generalize dig32 0 (num4 b0 b1 b2 b3) = y0, dig32 1 (num4 b0 b1 b2 b3) = y1, dig32 2 (num4 b0 b1 b2 b3) = y2, dig32 3 (num4 b0 b1 b2 b3) = y3, dig32 4 (num4 b0 b1 b2 b3) = y4, dig32 5 (num4 b0 b1 b2 b3) = y5, dig32 6 (num4 b0 b1 b2 b3) = y6, dig32 7 (num4 b0 b1 b2 b3) = y7 at *
      obtain ⟨t, ht⟩ : ∃ t, t = ((w5 + x * y4 % 18446744073709551616) % 18446744073709551616 + c) % 18446744073709551616 := ⟨_, rfl⟩
      rw [← ht]
      obtain ⟨m0, m1, m2, m3⟩ := mac32 hx hy k5 kc ht rfl rfl
      rw [mask32 m0, shr32]
      generalize t % 4294967296 = l at *
      generalize t / 4294967296 = h at *
      refine ⟨⟨k0, k1, k2, k3, k4, m1, k6, k7, k8, k9, k10, k11, k12, k13, k14, k15⟩, m2, kt, ?_⟩
      rw [show (8 - 4 : Nat) = 4 from rfl, ypart4] at ke
      rw [show (8 - 3 : Nat) = 5 from rfl, ypart5]
      simp only [ph, v16] at ke ⊢
      clear ht m0
      omega
    | 3, _ =>
      obtain ⟨⟨w0, w1, w2, w3, w4, w5, w6, w7, w8, w9, w10, w11, w12, w13, w14, w15⟩, c⟩ := d
      cbv
      cases hA; subst hN; subst hI
      refine ⟨?_, by first | trivial | exact ⟨rfl, trivial⟩⟩
      obtain ⟨⟨k0, k1, k2, k3, k4, k5, k6, k7, k8, k9, k10, k11, k12, k13, k14, k15⟩, kc, kt, ke⟩ := hd
      simp only [apStd, iopadd, iopmul]
      simp only at ke kt kc
      generalize part8 1 (dig32 0 (num4 a0 a1 a2 a3)) (dig32 1 (num4 a0 a1 a2 a3)) (dig32 2 (num4 a0 a1 a2 a3)) (dig32 3 (num4 a0 a1 a2 a3)) (dig32 4 (num4 a0 a1 a2 a3)) (dig32 5 (num4 a0 a1 a2 a3)) (dig32 6 (num4 a0 a1 a2 a3)) (dig32 7 (num4 a0 a1 a2 a3)) * num4 b0 b1 b2 b3 = P at *
      have hx := dig32_H 1 (num4 a0 a1 a2 a3)
      have hy := dig32_H 5 (num4 b0 b1 b2 b3)
      generalize dig32 1 (num4 a0 a1 a2 a3) = x at *
      generalize dig32 0 (num4 b0 b1 b2 b3) = y0, dig32 1 (num4 b0 b1 b2 b3) = y1, dig32 2 (num4 b0 b1 b2 b3) = y2, dig32 3 (num4 b0 b1 b2 b3) = y3, dig32 4 (num4 b0 b1 b2 b3) = y4, dig32 5 (num4 b0 b1 b2 b3) = y5, dig32 6 (num4 b0 b1 b2 b3) = y6, dig32 7 (num4 b0 b1 b2 b3) = y7 at *
      obtain ⟨t, ht⟩ : ∃ t, t = ((w6 + x * y5 % 18446744073709551616) % 18446744073709551616 + c) % 18446744073709551616 := ⟨_, rfl⟩
      rw [← ht]
      obtain ⟨m0, m1, m2, m3⟩ := mac32 hx hy k6 kc ht rfl rfl
      rw [mask32 m0, shr32]
      generalize t % 4294967296 = l at *
      generalize t / 4294967296 = h at *
      refine ⟨⟨k0, k1, k2, k3, k4, k5, m1, k7, k8, k9, k10, k11, k12, k13, k14, k15⟩, m2, kt, ?_⟩
      rw [show (8 - 3 : Nat) = 5 from rfl, ypart5] at ke
      rw [show (8 - 2 : Nat) = 6 from rfl, ypart6]
      simp only [ph, v16] at ke ⊢
      clear ht m0
      omega
    | 2, _ =>
      obtain ⟨⟨w0, w1, w2, w3, w4, w5, w6, w7, w8, w9, w10, w11, w12, w13, w14, w15⟩, c⟩ := d
      cbv
      cases hA; subst hN; subst hI
      refine ⟨?_, by first | trivial | exact ⟨rfl, trivial⟩⟩
      obtain ⟨⟨k0, k1, k2, k3, k4, k5, k6, k7, k8, k9, k10, k11, k12, k13, k14, k15⟩, kc, kt, ke⟩ := hd
      simp only [apStd, iopadd, iopmul]
      simp only at ke kt kc
      generalize part8 1 (dig32 0 (num4 a0 a1 a2 a3)) (dig32 1 (num4 a0 a1 a2 a3)) (dig32 2 (num4 a0 a1 a2 a3)) (dig32 3 (num4 a0 a1 a2 a3)) (dig32 4 (num4 a0 a1 a2 a3)) (dig32 5 (num4 a0 a1 a2 a3)) (dig32 6 (num4 a0 a1 a2 a3)) (dig32 7 (num4 a0 a1 a2 a3)) * num4 b0 b1 b2 b3 = P at *
      have hx := dig32_H 1 (num4 a0 a1 a2 a3)
      have hy := dig32_H 6 (num4 b0 b1 b2 b3)
      generalize dig32 1 (num4 a0 a1 a2 a3) = x at *
      generalize dig32 0 (num4 b0 b1 b2 b3) = y0, dig32 1 (num4 b0 b1 b2 b3) = y1, dig32 2 (num4 b0 b1 b2 b3) = y2, dig32 3 (num4 b0 b1 b2 b3) = y3, dig32 4 (num4 b0 b1 b2 b3) = y4, dig32 5 (num4 b0 b1 b2 b3) = y5, dig32 6 (num4 b0 b1 b2 b3) = y6, dig32 7 (num4 b0 b1 b2 b3) = y7 at *
      obtain ⟨t, ht⟩ : ∃ t, t = ((w7 + x * y6 % 18446744073709551616) % 18446744073709551616 + c) % 18446744073709551616 := ⟨_, rfl⟩
      rw [← ht]
      obtain ⟨m0, m1, m2, m3⟩ := mac32 hx hy k7 kc ht rfl rfl
      rw [mask32 m0, shr32]
      generalize t % 4294967296 = l at *
      generalize t / 4294967296 = h at *
      refine ⟨⟨k0, k1, k2, k3, k4, k5, k6, m1, k8, k9, k10, k11, k12, k13, k14, k15⟩, m2, kt, ?_⟩
      rw [show (8 - 2 : Nat) = 6 from rfl, ypart6] at ke
      rw [show (8 - 1 : Nat) = 7 from rfl, ypart7]
      simp only [ph, v16] at ke ⊢
      clear ht m0
      omega
    | 1, _ =>
      obtain ⟨⟨w0, w1, w2, w3, w4, w5, w6, w7, w8, w9, w10, w11, w12, w13, w14, w15⟩, c⟩ := d
      cbv
      cases hA; subst hN; subst hI
      refine ⟨?_, by first | trivial | exact ⟨rfl, trivial⟩⟩
      obtain ⟨⟨k0, k1, k2, k3, k4, k5, k6, k7, k8, k9, k10, k11, k12, k13, k14, k15⟩, kc, kt, ke⟩ := hd
      simp only [apStd, iopadd, iopmul]
      simp only at ke kt kc
      generalize part8 1 (dig32 0 (num4 a0 a1 a2 a3)) (dig32 1 (num4 a0 a1 a2 a3)) (dig32 2 (num4 a0 a1 a2 a3)) (dig32 3 (num4 a0 a1 a2 a3)) (dig32 4 (num4 a0 a1 a2 a3)) (dig32 5 (num4 a0 a1 a2 a3)) (dig32 6 (num4 a0 a1 a2 a3)) (dig32 7 (num4 a0 a1 a2 a3)) * num4 b0 b1 b2 b3 = P at *
      have hx := dig32_H 1 (num4 a0 a1 a2 a3)
      have hy := dig32_H 7 (num4 b0 b1 b2 b3)
      generalize dig32 1 (num4 a0 a1 a2 a3) = x at *
      generalize dig32 0 (num4 b0 b1 b2 b3) = y0, dig32 1 (num4 b0 b1 b2 b3) = y1, dig32 2 (num4 b0 b1 b2 b3) = y2, dig32 3 (num4 b0 b1 b2 b3) = y3, dig32 4 (num4 b0 b1 b2 b3) = y4, dig32 5 (num4 b0 b1 b2 b3) = y5, dig32 6 (num4 b0 b1 b2 b3) = y6, dig32 7 (num4 b0 b1 b2 b3) = y7 at *
      obtain ⟨t, ht⟩ : ∃ t, t = ((w8 + x * y7 % 18446744073709551616) % 18446744073709551616 + c) % 18446744073709551616 := ⟨_, rfl⟩
      rw [← ht]
      obtain ⟨m0, m1, m2, m3⟩ := mac32 hx hy k8 kc ht rfl rfl
      rw [mask32 m0, shr32]
      generalize t % 4294967296 = l at *
      generalize t / 4294967296 = h at *
      refine ⟨⟨k0, k1, k2, k3, k4, k5, k6, k7, m1, k9, k10, k11, k12, k13, k14, k15⟩, m2, kt, ?_⟩
      rw [show (8 - 1 : Nat) = 7 from rfl, ypart7] at ke
      rw [show (8 - 0 : Nat) = 8 from rfl, ypart8]
      simp only [ph, v16] at ke ⊢
      clear ht m0
      omega
    | 0, _ =>
      obtain ⟨⟨w0, w1, w2, w3, w4, w5, w6, w7, w8, w9, w10, w11, w12, w13, w14, w15⟩, c⟩ := d
      cbv
      subst hO; subst hI
      refine ⟨?_, by first | trivial | exact ⟨rfl, trivial⟩⟩
      obtain ⟨⟨k0, k1, k2, k3, k4, k5, k6, k7, k8, k9, k10, k11, k12, k13, k14, k15⟩, kc, kt, ke⟩ := hd
      simp only at ke kt kc
      refine ⟨⟨k0, k1, k2, k3, k4, k5, k6, k7, k8, kc, k10, k11, k12, k13, k14, k15⟩, kt.2, ?_⟩
      rw [show (8 - 0 : Nat) = 8 from rfl, halves_v hb] at ke
      rw [show (8 - 6 : Nat) = 2 from rfl, Int.mul_comm, ypart2]
      rw [Int.mul_comm (part8 1 (dig32 0 (num4 a0 a1 a2 a3)) (dig32 1 (num4 a0 a1 a2 a3)) (dig32 2 (num4 a0 a1 a2 a3)) (dig32 3 (num4 a0 a1 a2 a3)) (dig32 4 (num4 a0 a1 a2 a3)) (dig32 5 (num4 a0 a1 a2 a3)) (dig32 6 (num4 a0 a1 a2 a3)) (dig32 7 (num4 a0 a1 a2 a3))), ypart1, Int.mul_comm (dig32 1 (num4 a0 a1 a2 a3))] at ke
      simp only [tail16] at kt
      simp only [ph, v16] at ke ⊢
      omega
  | 6, _ =>
    obtain ⟨w0, w1, w2, w3, w4, w5, w6, w7, w8, w9, w10, w11, w12, w13, w14, w15⟩ := d
    cbv
    obtain ⟨okI, hI⟩ : ∃ f, f = wideOkI 2 (part8 2 (dig32 0 (num4 a0 a1 a2 a3)) (dig32 1 (num4 a0 a1 a2 a3)) (dig32 2 (num4 a0 a1 a2 a3)) (dig32 3 (num4 a0 a1 a2 a3)) (dig32 4 (num4 a0 a1 a2 a3)) (dig32 5 (num4 a0 a1 a2 a3)) (dig32 6 (num4 a0 a1 a2 a3)) (dig32 7 (num4 a0 a1 a2 a3)) * num4 b0 b1 b2 b3) (dig32 2 (num4 a0 a1 a2 a3)) (dig32 0 (num4 b0 b1 b2 b3)) (dig32 1 (num4 b0 b1 b2 b3)) (dig32 2 (num4 b0 b1 b2 b3)) (dig32 3 (num4 b0 b1 b2 b3)) (dig32 4 (num4 b0 b1 b2 b3)) (dig32 5 (num4 b0 b1 b2 b3)) (dig32 6 (num4 b0 b1 b2 b3)) (dig32 7 (num4 b0 b1 b2 b3)) := ⟨_, rfl⟩
    refine lp_ex hL 8 wideEx (wideI 2 a0 a1 a2 a3 b0 b1 b2 b3 (dg N 0 a0 a1 a2 a3) (dg N 1 a0 a1 a2 a3) (dg N 2 a0 a1 a2 a3) (dg N 3 a0 a1 a2 a3) (dg N 4 a0 a1 a2 a3) (dg N 5 a0 a1 a2 a3) (dg N 6 a0 a1 a2 a3) (dg N 7 a0 a1 a2 a3) (dg N 0 b0 b1 b2 b3) (dg N 1 b0 b1 b2 b3) (dg N 2 b0 b1 b2 b3) (dg N 3 b0 b1 b2 b3) (dg N 4 b0 b1 b2 b3) (dg N 5 b0 b1 b2 b3) (dg N 6 b0 b1 b2 b3) (dg N 7 b0 b1 b2 b3)) okI ?_ ?_ hL (.inr rfl)
    · cbv
      subst hO; subst hI
      simp only [wideOkO, wideOkI] at hd ⊢
      refine ⟨⟨hd.1, by unfold H; omega, hd.2.1, ?_⟩, trivial⟩
      rw [show (8 - 8 : Nat) = 0 from rfl, ypart0, hd.2.2]
    clear hd
    intro n hn d hd
    match n, hn with
    | 8, _ =>
      obtain ⟨⟨w0, w1, w2, w3, w4, w5, w6, w7, w8, w9, w10, w11, w12, w13, w14, w15⟩, c⟩ := d
      cbv
      cases hA; subst hN; subst hI
      refine ⟨?_, by first | trivial | exact ⟨rfl, trivial⟩⟩
      obtain ⟨⟨k0, k1, k2, k3, k4, k5, k6, k7, k8, k9, k10, k11, k12, k13, k14, k15⟩, kc, kt, ke⟩ := hd
      simp only [apStd, iopadd, iopmul]
      simp only at ke kt kc
      generalize part8 2 (dig32 0 (num4 a0 a1 a2 a3)) (dig32 1 (num4 a0 a1 a2 a3)) (dig32 2 (num4 a0 a1 a2 a3)) (dig32 3 (num4 a0 a1 a2 a3)) (dig32 4 (num4 a0 a1 a2 a3)) (dig32 5 (num4 a0 a1 a2 a3)) (dig32 6 (num4 a0 a1 a2 a3)) (dig32 7 (num4 a0 a1 a2 a3)) * num4 b0 b1 b2 b3 = P at *
      have hx := dig32_H 2 (num4 a0 a1 a2 a3)
      have hy := dig32_H 0 (num4 b0 b1 b2 b3)
      generalize dig32 2 (num4 a0 a1 a2 a3) = x at *
      generalize dig32 0 (num4 b0 b1 b2 b3) = y0, dig32 1 (num4 b0 b1 b2 b3) = y1, dig32 2 (num4 b0 b1 b2 b3) = y2, dig32 3 (num4 b0 b1 b2 b3) = y3, dig32 4 (num4 b0 b1 b2 b3) = y4, dig32 5 (num4 b0 b1 b2 b3) = y5, dig32 6 (num4 b0 b1 b2 b3) = y6, dig32 7 (num4 b0 b1 b2 b3) = y7 at *
      obtain ⟨t, ht⟩ : ∃ t, t = ((w2 + x * y0 % 18446744073709551616) % 18446744073709551616 + c) % 18446744073709551616 := ⟨_, rfl⟩
      rw [← ht]
      obtain ⟨m0, m1, m2, m3⟩ := mac32 hx hy k2 kc ht rfl rfl
      rw [mask32 m0, shr32]
      generalize t % 4294967296 = l at *
      generalize t / 4294967296 = h at *
      refine ⟨⟨k0, k1, m1, k3, k4, k5, k6, k7, k8, k9, k10, k11, k12, k13, k14, k15⟩, m2, kt, ?_⟩
      rw [show (8 - 8 : Nat) = 0 from rfl, ypart0] at ke
      rw [show (8 - 7 : Nat) = 1 from rfl, ypart1]
      simp only [ph, v16] at ke ⊢
      clear ht m0
      omega
    | 7, _ =>
      obtain ⟨⟨w0, w1, w2, w3, w4, w5, w6, w7, w8, w9, w10, w11, w12, w13, w14, w15⟩, c⟩ := d
      cbv
      cases hA; subst hN; subst hI
      refine ⟨?_, by first | trivial | exact ⟨rfl, trivial⟩⟩
      obtain ⟨⟨k0, k1, k2, k3, k4, k5, k6, k7, k8, k9, k10, k11, k12, k13, k14, k15⟩, kc, kt, ke⟩ := hd
      simp only [apStd, iopadd, iopmul]
      simp only at ke kt kc
      generalize part8 2 (dig32 0 (num4 a0 a1 a2 a3)) (dig32 1 (num4 a0 a1 a2 a3)) (dig32 2 (num4 a0 a1 a2 a3)) (dig32 3 (num4 a0 a1 a2 a3)) (dig32 4 (num4 a0 a1 a2 a3)) (dig32 5 (num4 a0 a1 a2 a3)) (dig32 6 (num4 a0 a1 a2 a3)) (dig32 7 (num4 a0 a1 a2 a3)) * num4 b0 b1 b2 b3 = P at *
      have hx := dig32_H 2 (num4 a0 a1 a2 a3)
      have hy := dig32_H 1 (num4 b0 b1 b2 b3)
      generalize dig32 2 (num4 a0 a1 a2 a3) = x at *
      generalize dig32 0 (num4 b0 b1 b2 b3) = y0, dig32 1 (num4 b0 b1 b2 b3) = y1, dig32 2 (num4 b0 b1 b2 b3) = y2, dig32 3 (num4 b0 b1 b2 b3) = y3, dig32 4 (num4 b0 b1 b2 b3) = y4, dig32 5 (num4 b0 b1 b2 b3) = y5, dig32 6 (num4 b0 b1 b2 b3) = y6, dig32 7 (num4 b0 b1 b2 b3) = y7 at *
      obtain ⟨t, ht⟩ : ∃ t, t = ((w3 + x * y1 % 18446744073709551616) % 18446744073709551616 + c) % 18446744073709551616 := ⟨_, rfl⟩
      rw [← ht]
      obtain ⟨m0, m1, m2, m3⟩ := mac32 hx hy k3 kc ht rfl rfl
      rw [mask32 m0, shr32]
      generalize t % 4294967296 = l at *
      generalize t / 4294967296 = h at *
      refine ⟨⟨k0, k1, k2, m1, k4, k5, k6, k7, k8, k9, k10, k11, k12, k13, k14, k15⟩, m2, kt, ?_⟩
      rw [show (8 - 7 : Nat) = 1 from rfl, ypart1] at ke
      rw [show (8 - 6 : Nat) = 2 from rfl, ypart2]
      simp only [ph, v16] at ke ⊢
      clear ht m0
      omega
    | 6, _ =>
      obtain ⟨⟨w0, w1, w2, w3, w4, w5, w6, w7, w8, w9, w10, w11, w12, w13, w14, w15⟩, c⟩ := d
      cbv
      cases hA; subst hN; subst hI
      refine ⟨?_, by first | trivial | exact ⟨rfl, trivial⟩⟩
      obtain ⟨⟨k0, k1, k2, k3, k4, k5, k6, k7, k8, k9, k10, k11, k12, k13, k14, k15⟩, kc, kt, ke⟩ := hd
      simp only [apStd, iopadd, iopmul]
      simp only at ke kt kc
      generalize part8 2 (dig32 0 (num4 a0 a1 a2 a3)) (dig32 1 (num4 a0 a1 a2 a3)) (dig32 2 (num4 a0 a1 a2 a3)) (dig32 3 (num4 a0 a1 a2 a3)) (dig32 4 (num4 a0 a1 a2 a3)) (dig32 5 (num4 a0 a1 a2 a3)) (dig32 6 (num4 a0 a1 a2 a3)) (dig32 7 (num4 a0 a1 a2 a3)) * num4 b0 b1 b2 b3 = P at *
      have hx := dig32_H 2 (num4 a0 a1 a2 a3)
      have hy := dig32_H 2 (num4 b0 b1 b2 b3)
      generalize dig32 2 (num4 a0 a1 a2 a3) = x at *
      generalize dig32 0 (num4 b0 b1 b2 b3) = y0, dig32 1 (num4 b0 b1 b2 b3) = y1, dig32 2 (num4 b0 b1 b2 b3) = y2, dig32 3 (num4 b0 b1 b2 b3) = y3, dig32 4 (num4 b0 b1 b2 b3) = y4, dig32 5 (num4 b0 b1 b2 b3) = y5, dig32 6 (num4 b0 b1 b2 b3) = y6, dig32 7 (num4 b0 b1 b2 b3) = y7 at *
      obtain ⟨t, ht⟩ : ∃ t, t = ((w4 + x * y2 % 18446744073709551616) % 18446744073709551616 + c) % 18446744073709551616 := ⟨_, rfl⟩
      rw [← ht]
      obtain ⟨m0, m1, m2, m3⟩ := mac32 hx hy k4 kc ht rfl rfl
      rw [mask32 m0, shr32]
      generalize t % 4294967296 = l at *
      generalize t / 4294967296 = h at *
      refine ⟨⟨k0, k1, k2, k3, m1, k5, k6, k7, k8, k9, k10, k11, k12, k13, k14, k15⟩, m2, kt, ?_⟩
      rw [show (8 - 6 : Nat) = 2 from rfl, ypart2] at ke
      rw [show (8 - 5 : Nat) = 3 from rfl, ypart3]
      simp only [ph, v16] at ke ⊢
      clear ht m0
      omega
    | 5, _ =>
      obtain ⟨⟨w0, w1, w2, w3, w4, w5, w6, w7, w8, w9, w10, w11, w12, w13, w14, w15⟩, c⟩ := d
      cbv
      cases hA; subst hN; subst hI
      refine ⟨?_, by first | trivial | exact ⟨rfl, trivial⟩⟩
      obtain ⟨⟨k0, k1, k2, k3, k4, k5, k6, k7, k8, k9, k10, k11, k12, k13, k14, k15⟩, kc, kt, ke⟩ := hd
      simp only [apStd, iopadd, iopmul]
      simp only at ke kt kc
      generalize part8 2 (dig32 0 (num4 a0 a1 a2 a3)) (dig32 1 (num4 a0 a1 a2 a3)) (dig32 2 (num4 a0 a1 a2 a3)) (dig32 3 (num4 a0 a1 a2 a3)) (dig32 4 (num4 a0 a1 a2 a3)) (dig32 5 (num4 a0 a1 a2 a3)) (dig32 6 (num4 a0 a1 a2 a3)) (dig32 7 (num4 a0 a1 a2 a3)) * num4 b0 b1 b2 b3 = P at *
      have hx := dig32_H 2 (num4 a0 a1 a2 a3)
      have hy := dig32_H 3 (num4 b0 b1 b2 b3)
      generalize dig32 2 (num4 a0 a1 a2 a3) = x at *
      generalize dig32 0 (num4 b0 b1 b2 b3) = y0, dig32 1 (num4 b0 b1 b2 b3) = y1, dig32 2 (num4 b0 b1 b2 b3) = y2, dig32 3 (num4 b0 b1 b2 b3) = y3, dig32 4 (num4 b0 b1 b2 b3) = y4, dig32 5 (num4 b0 b1 b2 b3) = y5, dig32 6 (num4 b0 b1 b2 b3) = y6, dig32 7 (num4 b0 b1 b2 b3) = y7 at *
      obtain ⟨t, ht⟩ : ∃ t, t = ((w5 + x * y3 % 18446744073709551616) % 18446744073709551616 + c) % 18446744073709551616 := ⟨_, rfl⟩
      rw [← ht]
      obtain ⟨m0, m1, m2, m3⟩ := mac32 hx hy k5 kc ht rfl rfl
      rw [mask32 m0, shr32]
      generalize t % 4294967296 = l at *
      generalize t / 4294967296 = h at *
      refine ⟨⟨k0, k1, k2, k3, k4, m1, k6, k7, k8, k9, k10, k11, k12, k13, k14, k15⟩, m2, kt, ?_⟩
      rw [show (8 - 5 : Nat) = 3 from rfl, ypart3] at ke
      rw [show (8 - 4 : Nat) = 4 from rfl, ypart4]
      simp only [ph, v16] at ke ⊢
      clear ht m0
      omega
    | 4, _ =>
      obtain ⟨⟨w0, w1, w2, w3, w4, w5, w6, w7, w8, w9, w10, w11, w12, w13, w14, w15⟩, c⟩ := d
      cbv
      cases hA; subst hN; subst hI
      refine ⟨?_, by first | trivial | exact ⟨rfl, trivial⟩⟩
      obtain ⟨⟨k0, k1, k2, k3, k4, k5, k6, k7, k8, k9, k10, k11, k12, k13, k14, k15⟩, kc, kt, ke⟩ := hd
      simp only [apStd, iopadd, iopmul]
      simp only at ke kt kc
      generalize part8 2 (dig32 0 (num4 a0 a1 a2 a3)) (dig32 1 (num4 a0 a1 a2 a3)) (dig32 2 (num4 a0 a1 a2 a3)) (dig32 3 (num4 a0 a1 a2 a3)) (dig32 4 (num4 a0 a1 a2 a3)) (dig32 5 (num4 a0 a1 a2 a3)) (dig32 6 (num4 a0 a1 a2 a3)) (dig32 7 (num4 a0 a1 a2 a3)) * num4 b0 b1 b2 b3 = P at *
      have hx := dig32_H 2 (num4 a0 a1 a2 a3)
      have hy := dig32_H 4 (num4 b0 b1 b2 b3)
      generalize dig32 2 (num4 a0 a1 a2 a3) = x at *
      generalize dig32 0 (num4 b0 b1 b2 b3) = y0, dig32 1 (num4 b0 b1 b2 b3) = y1, dig32 2 (num4 b0 b1 b2 b3) = y2, dig32 3 (num4 b0 b1 b2 b3) = y3, dig32 4 (num4 b0 b1 b2 b3) = y4, dig32 5 (num4 b0 b1 b2 b3) = y5, dig32 6 (num4 b0 b1 b2 b3) = y6, dig32 7 (num4 b0 b1 b2 b3) = y7 at *
      obtain ⟨t, ht⟩ : ∃ t, t = ((w6 + x * y4 % 18446744073709551616) % 18446744073709551616 + c) % 18446744073709551616 := ⟨_, rfl⟩
      rw [← ht]
      obtain ⟨m0, m1, m2, m3⟩ := mac32 hx hy k6 kc ht rfl rfl
      rw [mask32 m0, shr32]
      generalize t % 4294967296 = l at *
      generalize t / 4294967296 = h at *
      refine ⟨⟨k0, k1, k2, k3, k4, k5, m1, k7, k8, k9, k10, k11, k12, k13, k14, k15⟩, m2, kt, ?_⟩
      rw [show (8 - 4 : Nat) = 4 from rfl, ypart4] at ke
      rw [show (8 - 3 : Nat) = 5 from rfl, ypart5]
      simp only [ph, v16] at ke ⊢
      clear ht m0
      omega
    | 3, _ =>
      obtain ⟨⟨w0, w1, w2, w3, w4, w5, w6, w7, w8, w9, w10, w11, w12, w13, w14, w15⟩, c⟩ := d
      cbv
      cases hA; subst hN; subst hI
      refine ⟨?_, by first | trivial | exact ⟨rfl, trivial⟩⟩
      obtain ⟨⟨k0, k1, k2, k3, k4, k5, k6, k7, k8, k9, k10, k11, k12, k13, k14, k15⟩, kc, kt, ke⟩ := hd
      simp only [apStd, iopadd, iopmul]
      simp only at ke kt kc
      generalize part8 2 (dig32 0 (num4 a0 a1 a2 a3)) (dig32 1 (num4 a0 a1 a2 a3)) (dig32 2 (num4 a0 a1 a2 a3)) (dig32 3 (num4 a0 a1 a2 a3)) (dig32 4 (num4 a0 a1 a2 a3)) (dig32 5 (num4 a0 a1 a2 a3)) (dig32 6 (num4 a0 a1 a2 a3)) (dig32 7 (num4 a0 a1 a2 a3)) * num4 b0 b1 b2 b3 = P at *
      have hx := dig32_H 2 (num4 a0 a1 a2 a3)
      have hy := dig32_H 5 (num4 b0 b1 b2 b3)
      generalize dig32 2 (num4 a0 a1 a2 a3) = x at *
      generalize dig32 0 (num4 b0 b1 b2 b3) = y0, dig32 1 (num4 b0 b1 b2 b3) = y1, dig32 2 (num4 b0 b1 b2 b3) = y2, dig32 3 (num4 b0 b1 b2 b3) = y3, dig32 4 (num4 b0 b1 b2 b3) = y4, dig32 5 (num4 b0 b1 b2 b3) = y5, dig32 6 (num4 b0 b1 b2 b3) = y6, dig32 7 (num4 b0 b1 b2 b3) = y7 at *
      obtain ⟨t, ht⟩ : ∃ t, t = ((w7 + x * y5 % 18446744073709551616) % 18446744073709551616 + c) % 18446744073709551616 := ⟨_, rfl⟩
      rw [← ht]
      obtain ⟨m0, m1, m2, m3⟩ := mac32 hx hy k7 kc ht rfl rfl
      rw [mask32 m0, shr32]
      generalize t % 4294967296 = l at *
      generalize t / 4294967296 = h at *
      refine ⟨⟨k0, k1, k2, k3, k4, k5, k6, m1, k8, k9, k10, k11, k12, k13, k14, k15⟩, m2, kt, ?_⟩
      rw [show (8 - 3 : Nat) = 5 from rfl, ypart5] at ke
      rw [show (8 - 2 : Nat) = 6 from rfl, ypart6]
      simp only [ph, v16] at ke ⊢
      clear ht m0
      omega
    | 2, _ =>
      obtain ⟨⟨w0, w1, w2, w3, w4, w5, w6, w7, w8, w9, w10, w11, w12, w13, w14, w15⟩, c⟩ := d
      cbv
      cases hA; subst hN; subst hI
      refine ⟨?_, by first | trivial | exact ⟨rfl, trivial⟩⟩
      obtain ⟨⟨k0, k1, k2, k3, k4, k5, k6, k7, k8, k9, k10, k11, k12, k13, k14, k15⟩, kc, kt, ke⟩ := hd
      simp only [apStd, iopadd, iopmul]
      simp only at ke kt kc
      generalize part8 2 (dig32 0 (num4 a0 a1 a2 a3)) (dig32 1 (num4 a0 a1 a2 a3)) (dig32 2 (num4 a0 a1 a2 a3)) (dig32 3 (num4 a0 a1 a2 a3)) (dig32 4 (num4 a0 a1 a2 a3)) (dig32 5 (num4 a0 a1 a2 a3)) (dig32 6 (num4 a0 a1 a2 a3)) (dig32 7 (num4 a0 a1 a2 a3)) * num4 b0 b1 b2 b3 = P at *
      have hx := dig32_H 2 (num4 a0 a1 a2 a3)
      have hy := dig32_H 6 (num4 b0 b1 b2 b3)
      generalize dig32 2 (num4 a0 a1 a2 a3) = x at *
      generalize dig32 0 (num4 b0 b1 b2 b3) = y0, dig32 1 (num4 b0 b1 b2 b3) = y1, dig32 2 (num4 b0 b1 b2 b3) = y2, dig32 3 (num4 b0 b1 b2 b3) = y3, dig32 4 (num4 b0 b1 b2 b3) = y4, dig32 5 (num4 b0 b1 b2 b3) = y5, dig32 6 (num4 b0 b1 b2 b3) = y6, dig32 7 (num4 b0 b1 b2 b3) = y7 at *
      obtain ⟨t, ht⟩ : ∃ t, t = ((w8 + x * y6 % 18446744073709551616) % 18446744073709551616 + c) % 18446744073709551616 := ⟨_, rfl⟩
      rw [← ht]
      obtain ⟨m0, m1, m2, m3⟩ := mac32 hx hy k8 kc ht rfl rfl
      rw [mask32 m0, shr32]
      generalize t % 4294967296 = l at *
      generalize t / 4294967296 = h at *
      refine ⟨⟨k0, k1, k2, k3, k4, k5, k6, k7, m1, k9, k10, k11, k12, k13, k14, k15⟩, m2, kt, ?_⟩
      rw [show (8 - 2 : Nat) = 6 from rfl, ypart6] at ke
      rw [show (8 - 1 : Nat) = 7 from rfl, ypart7]
      simp only [ph, v16] at ke ⊢
      clear ht m0
      omega
    | 1, _ =>
      obtain ⟨⟨w0, w1, w2, w3, w4, w5, w6, w7, w8, w9, w10, w11, w12, w13, w14, w15⟩, c⟩ := d
      cbv
      cases hA; subst hN; subst hI
      refine ⟨?_, by first | trivial | exact ⟨rfl, trivial⟩⟩
      obtain ⟨⟨k0, k1, k2, k3, k4, k5, k6, k7, k8, k9, k10, k11, k12, k13, k14, k15⟩, kc, kt, ke⟩ := hd
      simp only [apStd, iopadd, iopmul]
      simp only at ke kt kc
      generalize part8 2 (dig32 0 (num4 a0 a1 a2 a3)) (dig32 1 (num4 a0 a1 a2 a3)) (dig32 2 (num4 a0 a1 a2 a3)) (dig32 3 (num4 a0 a1 a2 a3)) (dig32 4 (num4 a0 a1 a2 a3)) (dig32 5 (num4 a0 a1 a2 a3)) (dig32 6 (num4 a0 a1 a2 a3)) (dig32 7 (num4 a0 a1 a2 a3)) * num4 b0 b1 b2 b3 = P at *
      have hx := dig32_H 2 (num4 a0 a1 a2 a3)
      have hy := dig32_H 7 (num4 b0 b1 b2 b3)
      generalize dig32 2 (num4 a0 a1 a2 a3) = x at *
      generalize dig32 0 (num4 b0 b1 b2 b3) = y0, dig32 1 (num4 b0 b1 b2 b3) = y1, dig32 2 (num4 b0 b1 b2 b3) = y2, dig32 3 (num4 b0 b1 b2 b3) = y3, dig32 4 (num4 b0 b1 b2 b3) = y4, dig32 5 (num4 b0 b1 b2 b3) = y5, dig32 6 (num4 b0 b1 b2 b3) = y6, dig32 7 (num4 b0 b1 b2 b3) = y7 at *
      obtain ⟨t, ht⟩ : ∃ t, t = ((w9 + x * y7 % 18446744073709551616) % 18446744073709551616 + c) % 18446744073709551616 := ⟨_, rfl⟩
      rw [← ht]
      obtain ⟨m0, m1, m2, m3⟩ := mac32 hx hy k9 kc ht rfl rfl
      rw [mask32 m0, shr32]
      generalize t % 4294967296 = l at *
      generalize t / 4294967296 = h at *
      refine ⟨⟨k0, k1, k2, k3, k4, k5, k6, k7, k8, m1, k10, k11, k12, k13, k14, k15⟩, m2, kt, ?_⟩
      rw [show (8 - 1 : Nat) = 7 from rfl, ypart7] at ke
      rw [show (8 - 0 : Nat) = 8 from rfl, ypart8]
      simp only [ph, v16] at ke ⊢
      clear ht m0
      omega
    | 0, _ =>
      obtain ⟨⟨w0, w1, w2, w3, w4, w5, w6, w7, w8, w9, w10, w11, w12, w13, w14, w15⟩, c⟩ := d
      cbv
      subst hO; subst hI
      refine ⟨?_, by first | trivial | exact ⟨rfl, trivial⟩⟩
      obtain ⟨⟨k0, k1, k2, k3, k4, k5, k6, k7, k8, k9, k10, k11, k12, k13, k14, k15⟩, kc, kt, ke⟩ := hd
      simp only at ke kt kc
      refine ⟨⟨k0, k1, k2, k3, k4, k5, k6, k7, k8, k9, kc, k11, k12, k13, k14, k15⟩, kt.2, ?_⟩
      rw [show (8 - 0 : Nat) = 8 from rfl, halves_v hb] at ke
      rw [show (8 - 5 : Nat) = 3 from rfl, Int.mul_comm, ypart3]
      rw [Int.mul_comm (part8 2 (dig32 0 (num4 a0 a1 a2 a3)) (dig32 1 (num4 a0 a1 a2 a3)) (dig32 2 (num4 a0 a1 a2 a3)) (dig32 3 (num4 a0 a1 a2 a3)) (dig32 4 (num4 a0 a1 a2 a3)) (dig32 5 (num4 a0 a1 a2 a3)) (dig32 6 (num4 a0 a1 a2 a3)) (dig32 7 (num4 a0 a1 a2 a3))), ypart2, Int.mul_comm (dig32 2 (num4 a0 a1 a2 a3))] at ke
      simp only [tail16] at kt
      simp only [ph, v16] at ke ⊢
      omega
  | 5, _ =>
    obtain ⟨w0, w1, w2, w3, w4, w5, w6, w7, w8, w9, w10, w11, w12, w13, w14, w15⟩ := d
    cbv
    obtain ⟨okI, hI⟩ : ∃ f, f = wideOkI 3 (part8 3 (dig32 0 (num4 a0 a1 a2 a3)) (dig32 1 (num4 a0 a1 a2 a3)) (dig32 2 (num4 a0 a1 a2 a3)) (dig32 3 (num4 a0 a1 a2 a3)) (dig32 4 (num4 a0 a1 a2 a3)) (dig32 5 (num4 a0 a1 a2 a3)) (dig32 6 (num4 a0 a1 a2 a3)) (dig32 7 (num4 a0 a1 a2 a3)) * num4 b0 b1 b2 b3) (dig32 3 (num4 a0 a1 a2 a3)) (dig32 0 (num4 b0 b1 b2 b3)) (dig32 1 (num4 b0 b1 b2 b3)) (dig32 2 (num4 b0 b1 b2 b3)) (dig32 3 (num4 b0 b1 b2 b3)) (dig32 4 (num4 b0 b1 b2 b3)) (dig32 5 (num4 b0 b1 b2 b3)) (dig32 6 (num4 b0 b1 b2 b3)) (dig32 7 (num4 b0 b1 b2 b3)) := ⟨_, rfl⟩
    refine lp_ex hL 8 wideEx (wideI 3 a0 a1 a2 a3 b0 b1 b2 b3 (dg N 0 a0 a1 a2 a3) (dg N 1 a0 a1 a2 a3) (dg N 2 a0 a1 a2 a3) (dg N 3 a0 a1 a2 a3) (dg N 4 a0 a1 a2 a3) (dg N 5 a0 a1 a2 a3) (dg N 6 a0 a1 a2 a3) (dg N 7 a0 a1 a2 a3) (dg N 0 b0 b1 b2 b3) (dg N 1 b0 b1 b2 b3) (dg N 2 b0 b1 b2 b3) (dg N 3 b0 b1 b2 b3) (dg N 4 b0 b1 b2 b3) (dg N 5 b0 b1 b2 b3) (dg N 6 b0 b1 b2 b3) (dg N 7 b0 b1 b2 b3)) okI ?_ ?_ hL (.inr rfl)
    · cbv
      subst hO; subst hI
      simp only [wideOkO, wideOkI] at hd ⊢
      refine ⟨⟨hd.1, by unfold H; omega, hd.2.1, ?_⟩, trivial⟩
      rw [show (8 - 8 : Nat) = 0 from rfl, ypart0, hd.2.2]
    clear hd
    intro n hn d hd
    match n, hn with
    | 8, _ =>
      obtain ⟨⟨w0, w1, w2, w3, w4, w5, w6, w7, w8, w9, w10, w11, w12, w13, w14, w15⟩, c⟩ := d
      cbv
      cases hA; subst hN; subst hI
      refine ⟨?_, by first | trivial | exact ⟨rfl, trivial⟩⟩
      obtain ⟨⟨k0, k1, k2, k3, k4, k5, k6, k7, k8, k9, k10, k11, k12, k13, k14, k15⟩, kc, kt, ke⟩ := hd
      simp only [apStd, iopadd, iopmul]
      simp only at ke kt kc
      generalize part8 3 (dig32 0 (num4 a0 a1 a2 a3)) (dig32 1 (num4 a0 a1 a2 a3)) (dig32 2 (num4 a0 a1 a2 a3)) (dig32 3 (num4 a0 a1 a2 a3)) (dig32 4 (num4 a0 a1 a2 a3)) (dig32 5 (num4 a0 a1 a2 a3)) (dig32 6 (num4 a0 a1 a2 a3)) (dig32 7 (num4 a0 a1 a2 a3)) * num4 b0 b1 b2 b3 = P at *
      have hx := dig32_H 3 (num4 a0 a1 a2 a3)
      have hy := dig32_H 0 (num4 b0 b1 b2 b3)
      generalize dig32 3 (num4 a0 a1 a2 a3) = x at *
      generalize dig32 0 (num4 b0 b1 b2 b3) = y0, dig32 1 (num4 b0 b1 b2 b3) = y1, dig32 2 (num4 b0 b1 b2 b3) = y2, dig32 3 (num4 b0 b1 b2 b3) = y3, dig32 4 (num4 b0 b1 b2 b3) = y4, dig32 5 (num4 b0 b1 b2 b3) = y5, dig32 6 (num4 b0 b1 b2 b3) = y6, dig32 7 (num4 b0 b1 b2 b3) = y7 at *
      obtain ⟨t, ht⟩ : ∃ t, t = ((w3 + x * y0 % 18446744073709551616) % 18446744073709551616 + c) % 18446744073709551616 := ⟨_, rfl⟩
      rw [← ht]
      obtain ⟨m0, m1, m2, m3⟩ := mac32 hx hy k3 kc ht rfl rfl
      rw [mask32 m0, shr32]
      generalize t % 4294967296 = l at *
      generalize t / 4294967296 = h at *
      refine ⟨⟨k0, k1, k2, m1, k4, k5, k6, k7, k8, k9, k10, k11, k12, k13, k14, k15⟩, m2, kt, ?_⟩
      rw [show (8 - 8 : Nat) = 0 from rfl, ypart0] at ke
      rw [show (8 - 7 : Nat) = 1 from rfl, ypart1]
      simp only [ph, v16] at ke ⊢
      clear ht m0
      omega
    | 7, _ =>
      obtain ⟨⟨w0, w1, w2, w3, w4, w5, w6, w7, w8, w9, w10, w11, w12, w13, w14, w15⟩, c⟩ := d
      cbv
      cases hA; subst hN; subst hI
      refine ⟨?_, by first | trivial | exact ⟨rfl, trivial⟩⟩
      obtain ⟨⟨k0, k1, k2, k3, k4, k5, k6, k7, k8, k9, k10, k11, k12, k13, k14, k15⟩, kc, kt, ke⟩ := hd
      simp only [apStd, iopadd, iopmul]
      simp only at ke kt kc
      generalize part8 3 (dig32 0 (num4 a0 a1 a2 a3)) (dig32 1 (num4 a0 a1 a2 a3)) (dig32 2 (num4 a0 a1 a2 a3)) (dig32 3 (num4 a0 a1 a2 a3)) (dig32 4 (num4 a0 a1 a2 a3)) (dig32 5 (num4 a0 a1 a2 a3)) (dig32 6 (num4 a0 a1 a2 a3)) (dig32 7 (num4 a0 a1 a2 a3)) * num4 b0 b1 b2 b3 = P at *
      have hx := dig32_H 3 (num4 a0 a1 a2 a3)
      have hy := dig32_H 1 (num4 b0 b1 b2 b3)
      generalize dig32 3 (num4 a0 a1 a2 a3) = x at *
      generalize dig32 0 (num4 b0 b1 b2 b3) = y0, dig32 1 (num4 b0 b1 b2 b3) = y1, dig32 2 (num4 b0 b1 b2 b3) = y2, dig32 3 (num4 b0 b1 b2 b3) = y3, dig32 4 (num4 b0 b1 b2 b3) = y4, dig32 5 (num4 b0 b1 b2 b3) = y5, dig32 6 (num4 b0 b1 b2 b3) = y6, dig32 7 (num4 b0 b1 b2 b3) = y7 at *
      obtain ⟨t, ht⟩ : ∃ t, t = ((w4 + x * y1 % 18446744073709551616) % 18446744073709551616 + c) % 18446744073709551616 := ⟨_, rfl⟩
      rw [← ht]
      obtain ⟨m0, m1, m2, m3⟩ := mac32 hx hy k4 kc ht rfl rfl
      rw [mask32 m0, shr32]
      generalize t % 4294967296 = l at *
      generalize t / 4294967296 = h at *
      refine ⟨⟨k0, k1, k2, k3, m1, k5, k6, k7, k8, k9, k10, k11, k12, k13, k14, k15⟩, m2, kt, ?_⟩
      rw [show (8 - 7 : Nat) = 1 from rfl, ypart1] at ke
      rw [show (8 - 6 : Nat) = 2 from rfl, ypart2]
      simp only [ph, v16] at ke ⊢
      clear ht m0
      omega
    | 6, _ =>
      obtain ⟨⟨w0, w1, w2, w3, w4, w5, w6, w7, w8, w9, w10, w11, w12, w13, w14, w15⟩, c⟩ := d
      cbv
      cases hA; subst hN; subst hI
      refine ⟨?_, by first | trivial | exact ⟨rfl, trivial⟩⟩
      obtain ⟨⟨k0, k1, k2, k3, k4, k5, k6, k7, k8, k9, k10, k11, k12, k13, k14, k15⟩, kc, kt, ke⟩ := hd
      simp only [apStd, iopadd, iopmul]
      simp only at ke kt kc
      generalize part8 3 (dig32 0 (num4 a0 a1 a2 a3)) (dig32 1 (num4 a0 a1 a2 a3)) (dig32 2 (num4 a0 a1 a2 a3)) (dig32 3 (num4 a0 a1 a2 a3)) (dig32 4 (num4 a0 a1 a2 a3)) (dig32 5 (num4 a0 a1 a2 a3)) (dig32 6 (num4 a0 a1 a2 a3)) (dig32 7 (num4 a0 a1 a2 a3)) * num4 b0 b1 b2 b3 = P at *
      have hx := dig32_H 3 (num4 a0 a1 a2 a3)
      have hy := dig32_H 2 (num4 b0 b1 b2 b3)
      generalize dig32 3 (num4 a0 a1 a2 a3) = x at *
      generalize dig32 0 (num4 b0 b1 b2 b3) = y0, dig32 1 (num4 b0 b1 b2 b3) = y1, dig32 2 (num4 b0 b1 b2 b3) = y2, dig32 3 (num4 b0 b1 b2 b3) = y3, dig32 4 (num4 b0 b1 b2 b3) = y4, dig32 5 (num4 b0 b1 b2 b3) = y5, dig32 6 (num4 b0 b1 b2 b3) = y6, dig32 7 (num4 b0 b1 b2 b3) = y7 at *
      obtain ⟨t, ht⟩ : ∃ t, t = ((w5 + x * y2 % 18446744073709551616) % 18446744073709551616 + c) % 18446744073709551616 := ⟨_, rfl⟩
      rw [← ht]
      obtain ⟨m0, m1, m2, m3⟩ := mac32 hx hy k5 kc ht rfl rfl
      rw [mask32 m0, shr32]
      generalize t % 4294967296 = l at *
      generalize t / 4294967296 = h at *
      refine ⟨⟨k0, k1, k2, k3, k4, m1, k6, k7, k8, k9, k10, k11, k12, k13, k14, k15⟩, m2, kt, ?_⟩
      rw [show (8 - 6 : Nat) = 2 from rfl, ypart2] at ke
      rw [show (8 - 5 : Nat) = 3 from rfl, ypart3]
      simp only [ph, v16] at ke ⊢
      clear ht m0
      omega
    | 5, _ =>
      obtain ⟨⟨w0, w1, w2, w3, w4, w5, w6, w7, w8, w9, w10, w11, w12, w13, w14, w15⟩, c⟩ := d
      cbv
      cases hA; subst hN; subst hI
      refine ⟨?_, by first | trivial | exact ⟨rfl, trivial⟩⟩
      obtain ⟨⟨k0, k1, k2, k3, k4, k5, k6, k7, k8, k9, k10, k11, k12, k13, k14, k15⟩, kc, kt, ke⟩ := hd
      simp only [apStd, iopadd, iopmul]
      simp only at ke kt kc
      generalize part8 3 (dig32 0 (num4 a0 a1 a2 a3)) (dig32 1 (num4 a0 a1 a2 a3)) (dig32 2 (num4 a0 a1 a2 a3)) (dig32 3 (num4 a0 a1 a2 a3)) (dig32 4 (num4 a0 a1 a2 a3)) (dig32 5 (num4 a0 a1 a2 a3)) (dig32 6 (num4 a0 a1 a2 a3)) (dig32 7 (num4 a0 a1 a2 a3)) * num4 b0 b1 b2 b3 = P at *
      have hx := dig32_H 3 (num4 a0 a1 a2 a3)
      have hy := dig32_H 3 (num4 b0 b1 b2 b3)
      generalize dig32 3 (num4 a0 a1 a2 a3) = x at *
      generalize dig32 0 (num4 b0 b1 b2 b3) = y0, dig32 1 (num4 b0 b1 b2 b3) = y1, dig32 2 (num4 b0 b1 b2 b3) = y2, dig32 3 (num4 b0 b1 b2 b3) = y3, dig32 4 (num4 b0 b1 b2 b3) = y4, dig32 5 (num4 b0 b1 b2 b3) = y5, dig32 6 (num4 b0 b1 b2 b3) = y6, dig32 7 (num4 b0 b1 b2 b3) = y7 at *
      obtain ⟨t, ht⟩ : ∃ t, t = ((w6 + x * y3 % 18446744073709551616) % 18446744073709551616 + c) % 18446744073709551616 := ⟨_, rfl⟩
      rw [← ht]
      obtain ⟨m0, m1, m2, m3⟩ := mac32 hx hy k6 kc ht rfl rfl
      rw [mask32 m0, shr32]
      generalize t % 4294967296 = l at *
      generalize t / 4294967296 = h at *
      refine ⟨⟨k0, k1, k2, k3, k4, k5, m1, k7, k8, k9, k10, k11, k12, k13, k14, k15⟩, m2, kt, ?_⟩
      rw [show (8 - 5 : Nat) = 3 from rfl, ypart3] at ke
      rw [show (8 - 4 : Nat) = 4 from rfl, ypart4]
      simp only [ph, v16] at ke ⊢
      clear ht m0
      omega
    | 4, _ =>
      obtain ⟨⟨w0, w1, w2, w3, w4, w5, w6, w7, w8, w9, w10, w11, w12, w13, w14, w15⟩, c⟩ := d
      cbv
      cases hA; subst hN; subst hI
      refine ⟨?_, by first | trivial | exact ⟨rfl, trivial⟩⟩
      obtain ⟨⟨k0, k1, k2, k3, k4, k5, k6, k7, k8, k9, k10, k11, k12, k13, k14, k15⟩, kc, kt, ke⟩ := hd
      simp only [apStd, iopadd, iopmul]
      simp only at ke kt kc
      generalize part8 3 (dig32 0 (num4 a0 a1 a2 a3)) (dig32 1 (num4 a0 a1 a2 a3)) (dig32 2 (num4 a0 a1 a2 a3)) (dig32 3 (num4 a0 a1 a2 a3)) (dig32 4 (num4 a0 a1 a2 a3)) (dig32 5 (num4 a0 a1 a2 a3)) (dig32 6 (num4 a0 a1 a2 a3)) (dig32 7 (num4 a0 a1 a2 a3)) * num4 b0 b1 b2 b3 = P at *
      have hx := dig32_H 3 (num4 a0 a1 a2 a3)
      have hy := dig32_H 4 (num4 b0 b1 b2 b3)
      generalize dig32 3 (num4 a0 a1 a2 a3) = x at *
      generalize dig32 0 (num4 b0 b1 b2 b3) = y0, dig32 1 (num4 b0 b1 b2 b3) = y1, dig32 2 (num4 b0 b1 b2 b3) = y2, dig32 3 (num4 b0 b1 b2 b3) = y3, dig32 4 (num4 b0 b1 b2 b3) = y4, dig32 5 (num4 b0 b1 b2 b3) = y5, dig32 6 (num4 b0 b1 b2 b3) = y6, dig32 7 (num4 b0 b1 b2 b3) = y7 at *
      obtain ⟨t, ht⟩ : ∃ t, t = ((w7 + x * y4 % 18446744073709551616) % 18446744073709551616 + c) % 18446744073709551616 := ⟨_, rfl⟩
      rw [← ht]
      obtain ⟨m0, m1, m2, m3⟩ := mac32 hx hy k7 kc ht rfl rfl
      rw [mask32 m0, shr32]
      generalize t % 4294967296 = l at *
      generalize t / 4294967296 = h at *
      refine ⟨⟨k0, k1, k2, k3, k4, k5, k6, m1, k8, k9, k10, k11, k12, k13, k14, k15⟩, m2, kt, ?_⟩
      rw [show (8 - 4 : Nat) = 4 from rfl, ypart4] at ke
      rw [show (8 - 3 : Nat) = 5 from rfl, ypart5]
      simp only [ph, v16] at ke ⊢
      clear ht m0
      omega
    | 3, _ =>
      obtain ⟨⟨w0, w1, w2, w3, w4, w5, w6, w7, w8, w9, w10, w11, w12, w13, w14, w15⟩, c⟩ := d
      cbv
      cases hA; subst hN; subst hI
      refine ⟨?_, by first | trivial | exact ⟨rfl, trivial⟩⟩
      obtain ⟨⟨k0, k1, k2, k3, k4, k5, k6, k7, k8, k9, k10, k11, k12, k13, k14, k15⟩, kc, kt, ke⟩ := hd
      simp only [apStd, iopadd, iopmul]
      simp only at ke kt kc
      generalize part8 3 (dig32 0 (num4 a0 a1 a2 a3)) (dig32 1 (num4 a0 a1 a2 a3)) (dig32 2 (num4 a0 a1 a2 a3)) (dig32 3 (num4 a0 a1 a2 a3)) (dig32 4 (num4 a0 a1 a2 a3)) (dig32 5 (num4 a0 a1 a2 a3)) (dig32 6 (num4 a0 a1 a2 a3)) (dig32 7 (num4 a0 a1 a2 a3)) * num4 b0 b1 b2 b3 = P at *
      have hx := dig32_H 3 (num4 a0 a1 a2 a3)
      have hy := dig32_H 5 (num4 b0 b1 b2 b3)
      generalize dig32 3 (num4 a0 a1 a2 a3) = x at *
      generalize dig32 0 (num4 b0 b1 b2 b3) = y0, dig32 1 (num4 b0 b1 b2 b3) = y1, dig32 2 (num4 b0 b1 b2 b3) = y2, dig32 3 (num4 b0 b1 b2 b3) = y3, dig32 4 (num4 b0 b1 b2 b3) = y4, dig32 5 (num4 b0 b1 b2 b3) = y5, dig32 6 (num4 b0 b1 b2 b3) = y6, dig32 7 (num4 b0 b1 b2 b3) = y7 at *
      obtain ⟨t, ht⟩ : ∃ t, t = ((w8 + x * y5 % 18446744073709551616) % 18446744073709551616 + c) % 18446744073709551616 := ⟨_, rfl⟩
      rw [← ht]
      obtain ⟨m0, m1, m2, m3⟩ := mac32 hx hy k8 kc ht rfl rfl
      rw [mask32 m0, shr32]
      generalize t % 4294967296 = l at *
      generalize t / 4294967296 = h at *
      refine ⟨⟨k0, k1, k2, k3, k4, k5, k6, k7, m1, k9, k10, k11, k12, k13, k14, k15⟩, m2, kt, ?_⟩
      rw [show (8 - 3 : Nat) = 5 from rfl, ypart5] at ke
      rw [show (8 - 2 : Nat) = 6 from rfl, ypart6]
      simp only [ph, v16] at ke ⊢
      clear ht m0
      omega
    | 2, _ =>
      obtain ⟨⟨w0, w1, w2, w3, w4, w5, w6, w7, w8, w9, w10, w11, w12, w13, w14, w15⟩, c⟩ := d
      cbv
      cases hA; subst hN; subst hI
      refine ⟨?_, by first | trivial | exact ⟨rfl, trivial⟩⟩
      obtain ⟨⟨k0, k1, k2, k3, k4, k5, k6, k7, k8, k9, k10, k11, k12, k13, k14, k15⟩, kc, kt, ke⟩ := hd
      simp only [apStd, iopadd, iopmul]
      simp only at ke kt kc
      generalize part8 3 (dig32 0 (num4 a0 a1 a2 a3)) (dig32 1 (num4 a0 a1 a2 a3)) (dig32 2 (num4 a0 a1 a2 a3)) (dig32 3 (num4 a0 a1 a2 a3)) (dig32 4 (num4 a0 a1 a2 a3)) (dig32 5 (num4 a0 a1 a2 a3)) (dig32 6 (num4 a0 a1 a2 a3)) (dig32 7 (num4 a0 a1 a2 a3)) * num4 b0 b1 b2 b3 = P at *
      have hx := dig32_H 3 (num4 a0 a1 a2 a3)
      have hy := dig32_H 6 (num4 b0 b1 b2 b3)
      generalize dig32 3 (num4 a0 a1 a2 a3) = x at *
      generalize dig32 0 (num4 b0 b1 b2 b3) = y0, dig32 1 (num4 b0 b1 b2 b3) = y1, dig32 2 (num4 b0 b1 b2 b3) = y2, dig32 3 (num4 b0 b1 b2 b3) = y3, dig32 4 (num4 b0 b1 b2 b3) = y4, dig32 5 (num4 b0 b1 b2 b3) = y5, dig32 6 (num4 b0 b1 b2 b3) = y6, dig32 7 (num4 b0 b1 b2 b3) = y7 at *
      obtain ⟨t, ht⟩ : ∃ t, t = ((w9 + x * y6 % 18446744073709551616) % 18446744073709551616 + c) % 18446744073709551616 := ⟨_, rfl⟩
      rw [← ht]
      obtain ⟨m0, m1, m2, m3⟩ := mac32 hx hy k9 kc ht rfl rfl
      rw [mask32 m0, shr32]
      generalize t % 4294967296 = l at *
      generalize t / 4294967296 = h at *
      refine ⟨⟨k0, k1, k2, k3, k4, k5, k6, k7, k8, m1, k10, k11, k12, k13, k14, k15⟩, m2, kt, ?_⟩
      rw [show (8 - 2 : Nat) = 6 from rfl, ypart6] at ke
      rw [show (8 - 1 : Nat) = 7 from rfl, ypart7]
      simp only [ph, v16] at ke ⊢
      clear ht m0
      omega
    | 1, _ =>
      obtain ⟨⟨w0, w1, w2, w3, w4, w5, w6, w7, w8, w9, w10, w11, w12, w13, w14, w15⟩, c⟩ := d
      cbv
      cases hA; subst hN; subst hI
      refine ⟨?_, by first | trivial | exact ⟨rfl, trivial⟩⟩
      obtain ⟨⟨k0, k1, k2, k3, k4, k5, k6, k7, k8, k9, k10, k11, k12, k13, k14, k15⟩, kc, kt, ke⟩ := hd
      simp only [apStd, iopadd, iopmul]
      simp only at ke kt kc
      generalize part8 3 (dig32 0 (num4 a0 a1 a2 a3)) (dig32 1 (num4 a0 a1 a2 a3)) (dig32 2 (num4 a0 a1 a2 a3)) (dig32 3 (num4 a0 a1 a2 a3)) (dig32 4 (num4 a0 a1 a2 a3)) (dig32 5 (num4 a0 a1 a2 a3)) (dig32 6 (num4 a0 a1 a2 a3)) (dig32 7 (num4 a0 a1 a2 a3)) * num4 b0 b1 b2 b3 = P at *
      have hx := dig32_H 3 (num4 a0 a1 a2 a3)
      have hy := dig32_H 7 (num4 b0 b1 b2 b3)
      generalize dig32 3 (num4 a0 a1 a2 a3) = x at *
      generalize dig32 0 (num4 b0 b1 b2 b3) = y0, dig32 1 (num4 b0 b1 b2 b3) = y1, dig32 2 (num4 b0 b1 b2 b3) = y2, dig32 3 (num4 b0 b1 b2 b3) = y3, dig32 4 (num4 b0 b1 b2 b3) = y4, dig32 5 (num4 b0 b1 b2 b3) = y5, dig32 6 (num4 b0 b1 b2 b3) = y6, dig32 7 (num4 b0 b1 b2 b3) = y7 at *
      obtain ⟨t, ht⟩ : ∃ t, t = ((w10 + x * y7 % 18446744073709551616) % 18446744073709551616 + c) % 18446744073709551616 := ⟨_, rfl⟩
      rw [← ht]
      obtain ⟨m0, m1, m2, m3⟩ := mac32 hx hy k10 kc ht rfl rfl
      rw [mask32 m0, shr32]
      generalize t % 4294967296 = l at *
      generalize t / 4294967296 = h at *
      refine ⟨⟨k0, k1, k2, k3, k4, k5, k6, k7, k8, k9, m1, k11, k12, k13, k14, k15⟩, m2, kt, ?_⟩
      rw [show (8 - 1 : Nat) = 7 from rfl, ypart7] at ke
      rw [show (8 - 0 : Nat) = 8 from rfl, ypart8]
      simp only [ph, v16] at ke ⊢
      clear ht m0
      omega
    | 0, _ =>
      obtain ⟨⟨w0, w1, w2, w3, w4, w5, w6, w7, w8, w9, w10, w11, w12, w13, w14, w15⟩, c⟩ := d
      cbv
      subst hO; subst hI
      refine ⟨?_, by first | trivial | exact ⟨rfl, trivial⟩⟩
      obtain ⟨⟨k0, k1, k2, k3, k4, k5, k6, k7, k8, k9, k10, k11, k12, k13, k14, k15⟩, kc, kt, ke⟩ := hd
      simp only at ke kt kc
      refine ⟨⟨k0, k1, k2, k3, k4, k5, k6, k7, k8, k9, k10, kc, k12, k13, k14, k15⟩, kt.2, ?_⟩
      rw [show (8 - 0 : Nat) = 8 from rfl, halves_v hb] at ke
      rw [show (8 - 4 : Nat) = 4 from rfl, Int.mul_comm, ypart4]
      rw [Int.mul_comm (part8 3 (dig32 0 (num4 a0 a1 a2 a3)) (dig32 1 (num4 a0 a1 a2 a3)) (dig32 2 (num4 a0 a1 a2 a3)) (dig32 3 (num4 a0 a1 a2 a3)) (dig32 4 (num4 a0 a1 a2 a3)) (dig32 5 (num4 a0 a1 a2 a3)) (dig32 6 (num4 a0 a1 a2 a3)) (dig32 7 (num4 a0 a1 a2 a3))), ypart3, Int.mul_comm (dig32 3 (num4 a0 a1 a2 a3))] at ke
      simp only [tail16] at kt
      simp only [ph, v16] at ke ⊢
      omega
  | 4, _ =>
    obtain ⟨w0, w1, w2, w3, w4, w5, w6, w7, w8, w9, w10, w11, w12, w13, w14, w15⟩ := d
    cbv
    obtain ⟨okI, hI⟩ : ∃ f, f = wideOkI 4 (part8 4 (dig32 0 (num4 a0 a1 a2 a3)) (dig32 1 (num4 a0 a1 a2 a3)) (dig32 2 (num4 a0 a1 a2 a3)) (dig32 3 (num4 a0 a1 a2 a3)) (dig32 4 (num4 a0 a1 a2 a3)) (dig32 5 (num4 a0 a1 a2 a3)) (dig32 6 (num4 a0 a1 a2 a3)) (dig32 7 (num4 a0 a1 a2 a3)) * num4 b0 b1 b2 b3) (dig32 4 (num4 a0 a1 a2 a3)) (dig32 0 (num4 b0 b1 b2 b3)) (dig32 1 (num4 b0 b1 b2 b3)) (dig32 2 (num4 b0 b1 b2 b3)) (dig32 3 (num4 b0 b1 b2 b3)) (dig32 4 (num4 b0 b1 b2 b3)) (dig32 5 (num4 b0 b1 b2 b3)) (dig32 6 (num4 b0 b1 b2 b3)) (dig32 7 (num4 b0 b1 b2 b3)) := ⟨_, rfl⟩
    refine lp_ex hL 8 wideEx (wideI 4 a0 a1 a2 a3 b0 b1 b2 b3 (dg N 0 a0 a1 a2 a3) (dg N 1 a0 a1 a2 a3) (dg N 2 a0 a1 a2 a3) (dg N 3 a0 a1 a2 a3) (dg N 4 a0 a1 a2 a3) (dg N 5 a0 a1 a2 a3) (dg N 6 a0 a1 a2 a3) (dg N 7 a0 a1 a2 a3) (dg N 0 b0 b1 b2 b3) (dg N 1 b0 b1 b2 b3) (dg N 2 b0 b1 b2 b3) (dg N 3 b0 b1 b2 b3) (dg N 4 b0 b1 b2 b3) (dg N 5 b0 b1 b2 b3) (dg N 6 b0 b1 b2 b3) (dg N 7 b0 b1 b2 b3)) okI ?_ ?_ hL (.inr rfl)
    · cbv
      subst hO; subst hI
      simp only [wideOkO, wideOkI] at hd ⊢
      refine ⟨⟨hd.1, by unfold H; omega, hd.2.1, ?_⟩, trivial⟩
      rw [show (8 - 8 : Nat) = 0 from rfl, ypart0, hd.2.2]
    clear hd
    intro n hn d hd
    match n, hn with
    | 8, _ =>
      obtain ⟨⟨w0, w1, w2, w3, w4, w5, w6, w7, w8, w9, w10, w11, w12, w13, w14, w15⟩, c⟩ := d
      cbv
      cases hA; subst hN; subst hI
      refine ⟨?_, by first | trivial | exact ⟨rfl, trivial⟩⟩
      obtain ⟨⟨k0, k1, k2, k3, k4, k5, k6, k7, k8, k9, k10, k11, k12, k13, k14, k15⟩, kc, kt, ke⟩ := hd
      simp only [apStd, iopadd, iopmul]
      simp only at ke kt kc
      generalize part8 4 (dig32 0 (num4 a0 a1 a2 a3)) (dig32 1 (num4 a0 a1 a2 a3)) (dig32 2 (num4 a0 a1 a2 a3)) (dig32 3 (num4 a0 a1 a2 a3)) (dig32 4 (num4 a0 a1 a2 a3)) (dig32 5 (num4 a0 a1 a2 a3)) (dig32 6 (num4 a0 a1 a2 a3)) (dig32 7 (num4 a0 a1 a2 a3)) * num4 b0 b1 b2 b3 = P at *
      have hx := dig32_H 4 (num4 a0 a1 a2 a3)
      have hy := dig32_H 0 (num4 b0 b1 b2 b3)
      generalize dig32 4 (num4 a0 a1 a2 a3) = x at *
      generalize dig32 0 (num4 b0 b1 b2 b3) = y0, dig32 1 (num4 b0 b1 b2 b3) = y1, dig32 2 (num4 b0 b1 b2 b3) = y2, dig32 3 (num4 b0 b1 b2 b3) = y3, dig32 4 (num4 b0 b1 b2 b3) = y4, dig32 5 (num4 b0 b1 b2 b3) = y5, dig32 6 (num4 b0 b1 b2 b3) = y6, dig32 7 (num4 b0 b1 b2 b3) = y7 at *
      obtain ⟨t, ht⟩ : ∃ t, t = ((w4 + x * y0 % 18446744073709551616) % 18446744073709551616 + c) % 18446744073709551616 := ⟨_, rfl⟩
      rw [← ht]
      obtain ⟨m0, m1, m2, m3⟩ := mac32 hx hy k4 kc ht rfl rfl
      rw [mask32 m0, shr32]
      generalize t % 4294967296 = l at *
      generalize t / 4294967296 = h at *
      refine ⟨⟨k0, k1, k2, k3, m1, k5, k6, k7, k8, k9, k10, k11, k12, k13, k14, k15⟩, m2, kt, ?_⟩
      rw [show (8 - 8 : Nat) = 0 from rfl, ypart0] at ke
      rw [show (8 - 7 : Nat) = 1 from rfl, ypart1]
      simp only [ph, v16] at ke ⊢
      clear ht m0
      omega
    | 7, _ =>
      obtain ⟨⟨w0, w1, w2, w3, w4, w5, w6, w7, w8, w9, w10, w11, w12, w13, w14, w15⟩, c⟩ := d
      cbv
      cases hA; subst hN; subst hI
      refine ⟨?_, by first | trivial | exact ⟨rfl, trivial⟩⟩
      obtain ⟨⟨k0, k1, k2, k3, k4, k5, k6, k7, k8, k9, k10, k11, k12, k13, k14, k15⟩, kc, kt, ke⟩ := hd
      simp only [apStd, iopadd, iopmul]
      simp only at ke kt kc
      generalize part8 4 (dig32 0 (num4 a0 a1 a2 a3)) (dig32 1 (num4 a0 a1 a2 a3)) (dig32 2 (num4 a0 a1 a2 a3)) (dig32 3 (num4 a0 a1 a2 a3)) (dig32 4 (num4 a0 a1 a2 a3)) (dig32 5 (num4 a0 a1 a2 a3)) (dig32 6 (num4 a0 a1 a2 a3)) (dig32 7 (num4 a0 a1 a2 a3)) * num4 b0 b1 b2 b3 = P at *
      have hx := dig32_H 4 (num4 a0 a1 a2 a3)
      have hy := dig32_H 1 (num4 b0 b1 b2 b3)
      generalize dig32 4 (num4 a0 a1 a2 a3) = x at *
      generalize dig32 0 (num4 b0 b1 b2 b3) = y0, dig32 1 (num4 b0 b1 b2 b3) = y1, dig32 2 (num4 b0 b1 b2 b3) = y2, dig32 3 (num4 b0 b1 b2 b3) = y3, dig32 4 (num4 b0 b1 b2 b3) = y4, dig32 5 (num4 b0 b1 b2 b3) = y5, dig32 6 (num4 b0 b1 b2 b3) = y6, dig32 7 (num4 b0 b1 b2 b3) = y7 at *
      obtain ⟨t, ht⟩ : ∃ t, t = ((w5 + x * y1 % 18446744073709551616) % 18446744073709551616 + c) % 18446744073709551616 := ⟨_, rfl⟩
      rw [← ht]
      obtain ⟨m0, m1, m2, m3⟩ := mac32 hx hy k5 kc ht rfl rfl
      rw [mask32 m0, shr32]
      generalize t % 4294967296 = l at *
      generalize t / 4294967296 = h at *
      refine ⟨⟨k0, k1, k2, k3, k4, m1, k6, k7, k8, k9, k10, k11, k12, k13, k14, k15⟩, m2, kt, ?_⟩
      rw [show (8 - 7 : Nat) = 1 from rfl, ypart1] at ke
      rw [show (8 - 6 : Nat) = 2 from rfl, ypart2]
      simp only [ph, v16] at ke ⊢
      clear ht m0
      omega
    | 6, _ =>
      obtain ⟨⟨w0, w1, w2, w3, w4, w5, w6, w7, w8, w9, w10, w11, w12, w13, w14, w15⟩, c⟩ := d
      cbv
      cases hA; subst hN; subst hI
      refine ⟨?_, by first | trivial | exact ⟨rfl, trivial⟩⟩
      obtain ⟨⟨k0, k1, k2, k3, k4, k5, k6, k7, k8, k9, k10, k11, k12, k13, k14, k15⟩, kc, kt, ke⟩ := hd
      simp only [apStd, iopadd, iopmul]
      simp only at ke kt kc
      generalize part8 4 (dig32 0 (num4 a0 a1 a2 a3)) (dig32 1 (num4 a0 a1 a2 a3)) (dig32 2 (num4 a0 a1 a2 a3)) (dig32 3 (num4 a0 a1 a2 a3)) (dig32 4 (num4 a0 a1 a2 a3)) (dig32 5 (num4 a0 a1 a2 a3)) (dig32 6 (num4 a0 a1 a2 a3)) (dig32 7 (num4 a0 a1 a2 a3)) * num4 b0 b1 b2 b3 = P at *
      have hx := dig32_H 4 (num4 a0 a1 a2 a3)
      have hy := dig32_H 2 (num4 b0 b1 b2 b3)
      generalize dig32 4 (num4 a0 a1 a2 a3) = x at *
      generalize dig32 0 (num4 b0 b1 b2 b3) = y0, dig32 1 (num4 b0 b1 b2 b3) = y1, dig32 2 (num4 b0 b1 b2 b3) = y2, dig32 3 (num4 b0 b1 b2 b3) = y3, dig32 4 (num4 b0 b1 b2 b3) = y4, dig32 5 (num4 b0 b1 b2 b3) = y5, dig32 6 (num4 b0 b1 b2 b3) = y6, dig32 7 (num4 b0 b1 b2 b3) = y7 at *
      obtain ⟨t, ht⟩ : ∃ t, t = ((w6 + x * y2 % 18446744073709551616) % 18446744073709551616 + c) % 18446744073709551616 := ⟨_, rfl⟩
      rw [← ht]
      obtain ⟨m0, m1, m2, m3⟩ := mac32 hx hy k6 kc ht rfl rfl
      rw [mask32 m0, shr32]
      generalize t % 4294967296 = l at *
      generalize t / 4294967296 = h at *
      refine ⟨⟨k0, k1, k2, k3, k4, k5, m1, k7, k8, k9, k10, k11, k12, k13, k14, k15⟩, m2, kt, ?_⟩
      rw [show (8 - 6 : Nat) = 2 from rfl, ypart2] at ke
      rw [show (8 - 5 : Nat) = 3 from rfl, ypart3]
      simp only [ph, v16] at ke ⊢
      clear ht m0
      omega
    | 5, _ =>
      obtain ⟨⟨w0, w1, w2, w3, w4, w5, w6, w7, w8, w9, w10, w11, w12, w13, w14, w15⟩, c⟩ := d
      cbv
      cases hA; subst hN; subst hI
      refine ⟨?_, by first | trivial | exact ⟨rfl, trivial⟩⟩
      obtain ⟨⟨k0, k1, k2, k3, k4, k5, k6, k7, k8, k9, k10, k11, k12, k13, k14, k15⟩, kc, kt, ke⟩ := hd
      simp only [apStd, iopadd, iopmul]
      simp only at ke kt kc
      generalize part8 4 (dig32 0 (num4 a0 a1 a2 a3)) (dig32 1 (num4 a0 a1 a2 a3)) (dig32 2 (num4 a0 a1 a2 a3)) (dig32 3 (num4 a0 a1 a2 a3)) (dig32 4 (num4 a0 a1 a2 a3)) (dig32 5 (num4 a0 a1 a2 a3)) (dig32 6 (num4 a0 a1 a2 a3)) (dig32 7 (num4 a0 a1 a2 a3)) * num4 b0 b1 b2 b3 = P at *
      have hx := dig32_H 4 (num4 a0 a1 a2 a3)
      have hy := dig32_H 3 (num4 b0 b1 b2 b3)
      generalize dig32 4 (num4 a0 a1 a2 a3) = x at *
      generalize dig32 0 (num4 b0 b1 b2 b3) = y0, dig32 1 (num4 b0 b1 b2 b3) = y1, dig32 2 (num4 b0 b1 b2 b3) = y2, dig32 3 (num4 b0 b1 b2 b3) = y3, dig32 4 (num4 b0 b1 b2 b3) = y4, dig32 5 (num4 b0 b1 b2 b3) = y5, dig32 6 (num4 b0 b1 b2 b3) = y6, dig32 7 (num4 b0 b1 b2 b3) = y7 at *
      obtain ⟨t, ht⟩ : ∃ t, t = ((w7 + x * y3 % 18446744073709551616) % 18446744073709551616 + c) % 18446744073709551616 := ⟨_, rfl⟩
      rw [← ht]
      obtain ⟨m0, m1, m2, m3⟩ := mac32 hx hy k7 kc ht rfl rfl
      rw [mask32 m0, shr32]
      generalize t % 4294967296 = l at *
      generalize t / 4294967296 = h at *
      refine ⟨⟨k0, k1, k2, k3, k4, k5, k6, m1, k8, k9, k10, k11, k12, k13, k14, k15⟩, m2, kt, ?_⟩
      rw [show (8 - 5 : Nat) = 3 from rfl, ypart3] at ke
      rw [show (8 - 4 : Nat) = 4 from rfl, ypart4]
      simp only [ph, v16] at ke ⊢
      clear ht m0
      omega
    | 4, _ =>
      obtain ⟨⟨w0, w1, w2, w3, w4, w5, w6, w7, w8, w9, w10, w11, w12, w13, w14, w15⟩, c⟩ := d
      cbv
      cases hA; subst hN; subst hI
      refine ⟨?_, by first | trivial | exact ⟨rfl, trivial⟩⟩
      obtain ⟨⟨k0, k1, k2, k3, k4, k5, k6, k7, k8, k9, k10, k11, k12, k13, k14, k15⟩, kc, kt, ke⟩ := hd
      simp only [apStd, iopadd, iopmul]
      simp only at ke kt kc
      generalize part8 4 (dig32 0 (num4 a0 a1 a2 a3)) (dig32 1 (num4 a0 a1 a2 a3)) (dig32 2 (num4 a0 a1 a2 a3)) (dig32 3 (num4 a0 a1 a2 a3)) (dig32 4 (num4 a0 a1 a2 a3)) (dig32 5 (num4 a0 a1 a2 a3)) (dig32 6 (num4 a0 a1 a2 a3)) (dig32 7 (num4 a0 a1 a2 a3)) * num4 b0 b1 b2 b3 = P at *
      have hx := dig32_H 4 (num4 a0 a1 a2 a3)
      have hy := dig32_H 4 (num4 b0 b1 b2 b3)
      generalize dig32 4 (num4 a0 a1 a2 a3) = x at *
      generalize dig32 0 (num4 b0 b1 b2 b3) = y0, dig32 1 (num4 b0 b1 b2 b3) = y1, dig32 2 (num4 b0 b1 b2 b3) = y2, dig32 3 (num4 b0 b1 b2 b3) = y3, dig32 4 (num4 b0 b1 b2 b3) = y4, dig32 5 (num4 b0 b1 b2 b3) = y5, dig32 6 (num4 b0 b1 b2 b3) = y6, dig32 7 (num4 b0 b1 b2 b3) = y7 at *
      obtain ⟨t, ht⟩ : ∃ t, t = ((w8 + x * y4 % 18446744073709551616) % 18446744073709551616 + c) % 18446744073709551616 := ⟨_, rfl⟩
      rw [← ht]
      obtain ⟨m0, m1, m2, m3⟩ := mac32 hx hy k8 kc ht rfl rfl
      rw [mask32 m0, shr32]
      generalize t % 4294967296 = l at *
      generalize t / 4294967296 = h at *
      refine ⟨⟨k0, k1, k2, k3, k4, k5, k6, k7, m1, k9, k10, k11, k12, k13, k14, k15⟩, m2, kt, ?_⟩
      rw [show (8 - 4 : Nat) = 4 from rfl, ypart4] at ke
      rw [show (8 - 3 : Nat) = 5 from rfl, ypart5]
      simp only [ph, v16] at ke ⊢
      clear ht m0
      omega
    | 3, _ =>
      obtain ⟨⟨w0, w1, w2, w3, w4, w5, w6, w7, w8, w9, w10, w11, w12, w13, w14, w15⟩, c⟩ := d
      cbv
      cases hA; subst hN; subst hI
      refine ⟨?_, by first | trivial | exact ⟨rfl, trivial⟩⟩
      obtain ⟨⟨k0, k1, k2, k3, k4, k5, k6, k7, k8, k9, k10, k11, k12, k13, k14, k15⟩, kc, kt, ke⟩ := hd
      simp only [apStd, iopadd, iopmul]
      simp only at ke kt kc
      generalize part8 4 (dig32 0 (num4 a0 a1 a2 a3)) (dig32 1 (num4 a0 a1 a2 a3)) (dig32 2 (num4 a0 a1 a2 a3)) (dig32 3 (num4 a0 a1 a2 a3)) (dig32 4 (num4 a0 a1 a2 a3)) (dig32 5 (num4 a0 a1 a2 a3)) (dig32 6 (num4 a0 a1 a2 a3)) (dig32 7 (num4 a0 a1 a2 a3)) * num4 b0 b1 b2 b3 = P at *
      have hx := dig32_H 4 (num4 a0 a1 a2 a3)
      have hy := dig32_H 5 (num4 b0 b1 b2 b3)
      generalize dig32 4 (num4 a0 a1 a2 a3) = x at *
      generalize dig32 0 (num4 b0 b1 b2 b3) = y0, dig32 1 (num4 b0 b1 b2 b3) = y1, dig32 2 (num4 b0 b1 b2 b3) = y2, dig32 3 (num4 b0 b1 b2 b3) = y3, dig32 4 (num4 b0 b1 b2 b3) = y4, dig32 5 (num4 b0 b1 b2 b3) = y5, dig32 6 (num4 b0 b1 b2 b3) = y6, dig32 7 (num4 b0 b1 b2 b3) = y7 at *
      obtain ⟨t, ht⟩ : ∃ t, t = ((w9 + x * y5 % 18446744073709551616) % 18446744073709551616 + c) % 18446744073709551616 := ⟨_, rfl⟩
      rw [← ht]
      obtain ⟨m0, m1, m2, m3⟩ := mac32 hx hy k9 kc ht rfl rfl
      rw [mask32 m0, shr32]
      generalize t % 4294967296 = l at *
      generalize t / 4294967296 = h at *
      refine ⟨⟨k0, k1, k2, k3, k4, k5, k6, k7, k8, m1, k10, k11, k12, k13, k14, k15⟩, m2, kt, ?_⟩
      rw [show (8 - 3 : Nat) = 5 from rfl, ypart5] at ke
      rw [show (8 - 2 : Nat) = 6 from rfl, ypart6]
      simp only [ph, v16] at ke ⊢
      clear ht m0
      omega
    | 2, _ =>
      obtain ⟨⟨w0, w1, w2, w3, w4, w5, w6, w7, w8, w9, w10, w11, w12, w13, w14, w15⟩, c⟩ := d
      cbv
      cases hA; subst hN; subst hI
      refine ⟨?_, by first | trivial | exact ⟨rfl, trivial⟩⟩
      obtain ⟨⟨k0, k1, k2, k3, k4, k5, k6, k7, k8, k9, k10, k11, k12, k13, k14, k15⟩, kc, kt, ke⟩ := hd
      simp only [apStd, iopadd, iopmul]
      simp only at ke kt kc
      generalize part8 4 (dig32 0 (num4 a0 a1 a2 a3)) (dig32 1 (num4 a0 a1 a2 a3)) (dig32 2 (num4 a0 a1 a2 a3)) (dig32 3 (num4 a0 a1 a2 a3)) (dig32 4 (num4 a0 a1 a2 a3)) (dig32 5 (num4 a0 a1 a2 a3)) (dig32 6 (num4 a0 a1 a2 a3)) (dig32 7 (num4 a0 a1 a2 a3)) * num4 b0 b1 b2 b3 = P at *
      have hx := dig32_H 4 (num4 a0 a1 a2 a3)
      have hy := dig32_H 6 (num4 b0 b1 b2 b3)
      generalize dig32 4 (num4 a0 a1 a2 a3) = x at *
      generalize dig32 0 (num4 b0 b1 b2 b3) = y0, dig32 1 (num4 b0 b1 b2 b3) = y1, dig32 2 (num4 b0 b1 b2 b3) = y2, dig32 3 (num4 b0 b1 b2 b3) = y3, dig32 4 (num4 b0 b1 b2 b3) = y4, dig32 5 (num4 b0 b1 b2 b3) = y5, dig32 6 (num4 b0 b1 b2 b3) = y6, dig32 7 (num4 b0 b1 b2 b3) = y7 at *
      obtain ⟨t, ht⟩ : ∃ t, t = ((w10 + x * y6 % 18446744073709551616) % 18446744073709551616 + c) % 18446744073709551616 := ⟨_, rfl⟩
      rw [← ht]
      obtain ⟨m0, m1, m2, m3⟩ := mac32 hx hy k10 kc ht rfl rfl
      rw [mask32 m0, shr32]
      generalize t % 4294967296 = l at *
      generalize t / 4294967296 = h at *
      refine ⟨⟨k0, k1, k2, k3, k4, k5, k6, k7, k8, k9, m1, k11, k12, k13, k14, k15⟩, m2, kt, ?_⟩
      rw [show (8 - 2 : Nat) = 6 from rfl, ypart6] at ke
      rw [show (8 - 1 : Nat) = 7 from rfl, ypart7]
      simp only [ph, v16] at ke ⊢
      clear ht m0
      omega
    | 1, _ =>
      obtain ⟨⟨w0, w1, w2, w3, w4, w5, w6, w7, w8, w9, w10, w11, w12, w13, w14, w15⟩, c⟩ := d
      cbv
      cases hA; subst hN; subst hI
      refine ⟨?_, by first | trivial | exact ⟨rfl, trivial⟩⟩
      obtain ⟨⟨k0, k1, k2, k3, k4, k5, k6, k7, k8, k9, k10, k11, k12, k13, k14, k15⟩, kc, kt, ke⟩ := hd
      simp only [apStd, iopadd, iopmul]
      simp only at ke kt kc
      generalize part8 4 (dig32 0 (num4 a0 a1 a2 a3)) (dig32 1 (num4 a0 a1 a2 a3)) (dig32 2 (num4 a0 a1 a2 a3)) (dig32 3 (num4 a0 a1 a2 a3)) (dig32 4 (num4 a0 a1 a2 a3)) (dig32 5 (num4 a0 a1 a2 a3)) (dig32 6 (num4 a0 a1 a2 a3)) (dig32 7 (num4 a0 a1 a2 a3)) * num4 b0 b1 b2 b3 = P at *
      have hx := dig32_H 4 (num4 a0 a1 a2 a3)
      have hy := dig32_H 7 (num4 b0 b1 b2 b3)
      generalize dig32 4 (num4 a0 a1 a2 a3) = x at *
      generalize dig32 0 (num4 b0 b1 b2 b3) = y0, dig32 1 (num4 b0 b1 b2 b3) = y1, dig32 2 (num4 b0 b1 b2 b3) = y2, dig32 3 (num4 b0 b1 b2 b3) = y3, dig32 4 (num4 b0 b1 b2 b3) = y4, dig32 5 (num4 b0 b1 b2 b3) = y5, dig32 6 (num4 b0 b1 b2 b3) = y6, dig32 7 (num4 b0 b1 b2 b3) = y7 at *
      obtain ⟨t, ht⟩ : ∃ t, t = ((w11 + x * y7 % 18446744073709551616) % 18446744073709551616 + c) % 18446744073709551616 := ⟨_, rfl⟩
      rw [← ht]
      obtain ⟨m0, m1, m2, m3⟩ := mac32 hx hy k11 kc ht rfl rfl
      rw [mask32 m0, shr32]
      generalize t % 4294967296 = l at *
      generalize t / 4294967296 = h at *
      refine ⟨⟨k0, k1, k2, k3, k4, k5, k6, k7, k8, k9, k10, m1, k12, k13, k14, k15⟩, m2, kt, ?_⟩
      rw [show (8 - 1 : Nat) = 7 from rfl, ypart7] at ke
      rw [show (8 - 0 : Nat) = 8 from rfl, ypart8]
      simp only [ph, v16] at ke ⊢
      clear ht m0
      omega
    | 0, _ =>
      obtain ⟨⟨w0, w1, w2, w3, w4, w5, w6, w7, w8, w9, w10, w11, w12, w13, w14, w15⟩, c⟩ := d
      cbv
      subst hO; subst hI
      refine ⟨?_, by first | trivial | exact ⟨rfl, trivial⟩⟩
      obtain ⟨⟨k0, k1, k2, k3, k4, k5, k6, k7, k8, k9, k10, k11, k12, k13, k14, k15⟩, kc, kt, ke⟩ := hd
      simp only at ke kt kc
      refine ⟨⟨k0, k1, k2, k3, k4, k5, k6, k7, k8, k9, k10, k11, kc, k13, k14, k15⟩, kt.2, ?_⟩
      rw [show (8 - 0 : Nat) = 8 from rfl, halves_v hb] at ke
      rw [show (8 - 3 : Nat) = 5 from rfl, Int.mul_comm, ypart5]
      rw [Int.mul_comm (part8 4 (dig32 0 (num4 a0 a1 a2 a3)) (dig32 1 (num4 a0 a1 a2 a3)) (dig32 2 (num4 a0 a1 a2 a3)) (dig32 3 (num4 a0 a1 a2 a3)) (dig32 4 (num4 a0 a1 a2 a3)) (dig32 5 (num4 a0 a1 a2 a3)) (dig32 6 (num4 a0 a1 a2 a3)) (dig32 7 (num4 a0 a1 a2 a3))), ypart4, Int.mul_comm (dig32 4 (num4 a0 a1 a2 a3))] at ke
      simp only [tail16] at kt
      simp only [ph, v16] at ke ⊢
      omega
  | 3, _ =>
    obtain ⟨w0, w1, w2, w3, w4, w5, w6, w7, w8, w9, w10, w11, w12, w13, w14, w15⟩ := d
    cbv
    obtain ⟨okI, hI⟩ : ∃ f, f = wideOkI 5 (part8 5 (dig32 0 (num4 a0 a1 a2 a3)) (dig32 1 (num4 a0 a1 a2 a3)) (dig32 2 (num4 a0 a1 a2 a3)) (dig32 3 (num4 a0 a1 a2 a3)) (dig32 4 (num4 a0 a1 a2 a3)) (dig32 5 (num4 a0 a1 a2 a3)) (dig32 6 (num4 a0 a1 a2 a3)) (dig32 7 (num4 a0 a1 a2 a3)) * num4 b0 b1 b2 b3) (dig32 5 (num4 a0 a1 a2 a3)) (dig32 0 (num4 b0 b1 b2 b3)) (dig32 1 (num4 b0 b1 b2 b3)) (dig32 2 (num4 b0 b1 b2 b3)) (dig32 3 (num4 b0 b1 b2 b3)) (dig32 4 (num4 b0 b1 b2 b3)) (dig32 5 (num4 b0 b1 b2 b3)) (dig32 6 (num4 b0 b1 b2 b3)) (dig32 7 (num4 b0 b1 b2 b3)) := ⟨_, rfl⟩
    refine lp_ex hL 8 wideEx (wideI 5 a0 a1 a2 a3 b0 b1 b2 b3 (dg N 0 a0 a1 a2 a3) (dg N 1 a0 a1 a2 a3) (dg N 2 a0 a1 a2 a3) (dg N 3 a0 a1 a2 a3) (dg N 4 a0 a1 a2 a3) (dg N 5 a0 a1 a2 a3) (dg N 6 a0 a1 a2 a3) (dg N 7 a0 a1 a2 a3) (dg N 0 b0 b1 b2 b3) (dg N 1 b0 b1 b2 b3) (dg N 2 b0 b1 b2 b3) (dg N 3 b0 b1 b2 b3) (dg N 4 b0 b1 b2 b3) (dg N 5 b0 b1 b2 b3) (dg N 6 b0 b1 b2 b3) (dg N 7 b0 b1 b2 b3)) okI ?_ ?_ hL (.inr rfl)
    · cbv
      subst hO; subst hI
      simp only [wideOkO, wideOkI] at hd ⊢
      refine ⟨⟨hd.1, by unfold H; omega, hd.2.1, ?_⟩, trivial⟩
      rw [show (8 - 8 : Nat) = 0 from rfl, ypart0, hd.2.2]
    clear hd
    intro n hn d hd
    match n, hn with
    | 8, _ =>
      obtain ⟨⟨w0, w1, w2, w3, w4, w5, w6, w7, w8, w9, w10, w11, w12, w13, w14, w15⟩, c⟩ := d
      cbv
      cases hA; subst hN; subst hI
      refine ⟨?_, by first | trivial | exact ⟨rfl, trivial⟩⟩
      obtain ⟨⟨k0, k1, k2, k3, k4, k5, k6, k7, k8, k9, k10, k11, k12, k13, k14, k15⟩, kc, kt, ke⟩ := hd
      simp only [apStd, iopadd, iopmul]
      simp only at ke kt kc
      generalize part8 5 (dig32 0 (num4 a0 a1 a2 a3)) (dig32 1 (num4 a0 a1 a2 a3)) (dig32 2 (num4 a0 a1 a2 a3)) (dig32 3 (num4 a0 a1 a2 a3)) (dig32 4 (num4 a0 a1 a2 a3)) (dig32 5 (num4 a0 a1 a2 a3)) (dig32 6 (num4 a0 a1 a2 a3)) (dig32 7 (num4 a0 a1 a2 a3)) * num4 b0 b1 b2 b3 = P at *
      have hx := dig32_H 5 (num4 a0 a1 a2 a3)
      have hy := dig32_H 0 (num4 b0 b1 b2 b3)
      generalize dig32 5 (num4 a0 a1 a2 a3) = x at *
      generalize dig32 0 (num4 b0 b1 b2 b3) = y0, dig32 1 (num4 b0 b1 b2 b3) = y1, dig32 2 (num4 b0 b1 b2 b3) = y2, dig32 3 (num4 b0 b1 b2 b3) = y3, dig32 4 (num4 b0 b1 b2 b3) = y4, dig32 5 (num4 b0 b1 b2 b3) = y5, dig32 6 (num4 b0 b1 b2 b3) = y6, dig32 7 (num4 b0 b1 b2 b3) = y7 at *
      obtain ⟨t, ht⟩ : ∃ t, t = ((w5 + x * y0 % 18446744073709551616) % 18446744073709551616 + c) % 18446744073709551616 := ⟨_, rfl⟩
      rw [← ht]
      obtain ⟨m0, m1, m2, m3⟩ := mac32 hx hy k5 kc ht rfl rfl
      rw [mask32 m0, shr32]
      generalize t % 4294967296 = l at *
      generalize t / 4294967296 = h at *
      refine ⟨⟨k0, k1, k2, k3, k4, m1, k6, k7, k8, k9, k10, k11, k12, k13, k14, k15⟩, m2, kt, ?_⟩
      rw [show (8 - 8 : Nat) = 0 from rfl, ypart0] at ke
      rw [show (8 - 7 : Nat) = 1 from rfl, ypart1]
      simp only [ph, v16] at ke ⊢
      clear ht m0
      omega
    | 7, _ =>
      obtain ⟨⟨w0, w1, w2, w3, w4, w5, w6, w7, w8, w9, w10, w11, w12, w13, w14, w15⟩, c⟩ := d
      cbv
      cases hA; subst hN; subst hI
      refine ⟨?_, by first | trivial | exact ⟨rfl, trivial⟩⟩
      obtain ⟨⟨k0, k1, k2, k3, k4, k5, k6, k7, k8, k9, k10, k11, k12, k13, k14, k15⟩, kc, kt, ke⟩ := hd
      simp only [apStd, iopadd, iopmul]
      simp only at ke kt kc
      generalize part8 5 (dig32 0 (num4 a0 a1 a2 a3)) (dig32 1 (num4 a0 a1 a2 a3)) (dig32 2 (num4 a0 a1 a2 a3)) (dig32 3 (num4 a0 a1 a2 a3)) (dig32 4 (num4 a0 a1 a2 a3)) (dig32 5 (num4 a0 a1 a2 a3)) (dig32 6 (num4 a0 a1 a2 a3)) (dig32 7 (num4 a0 a1 a2 a3)) * num4 b0 b1 b2 b3 = P at *
      have hx := dig32_H 5 (num4 a0 a1 a2 a3)
      have hy := dig32_H 1 (num4 b0 b1 b2 b3)
      generalize dig32 5 (num4 a0 a1 a2 a3) = x at *
      generalize dig32 0 (num4 b0 b1 b2 b3) = y0, dig32 1 (num4 b0 b1 b2 b3) = y1, dig32 2 (num4 b0 b1 b2 b3) = y2, dig32 3 (num4 b0 b1 b2 b3) = y3, dig32 4 (num4 b0 b1 b2 b3) = y4, dig32 5 (num4 b0 b1 b2 b3) = y5, dig32 6 (num4 b0 b1 b2 b3) = y6, dig32 7 (num4 b0 b1 b2 b3) = y7 at *
      obtain ⟨t, ht⟩ : ∃ t, t = ((w6 + x * y1 % 18446744073709551616) % 18446744073709551616 + c) % 18446744073709551616 := ⟨_, rfl⟩
      rw [← ht]
      obtain ⟨m0, m1, m2, m3⟩ := mac32 hx hy k6 kc ht rfl rfl
      rw [mask32 m0, shr32]
      generalize t % 4294967296 = l at *
      generalize t / 4294967296 = h at *
      refine ⟨⟨k0, k1, k2, k3, k4, k5, m1, k7, k8, k9, k10, k11, k12, k13, k14, k15⟩, m2, kt, ?_⟩
      rw [show (8 - 7 : Nat) = 1 from rfl, ypart1] at ke
      rw [show (8 - 6 : Nat) = 2 from rfl, ypart2]
      simp only [ph, v16] at ke ⊢
      clear ht m0
      omega
    | 6, _ =>
      obtain ⟨⟨w0, w1, w2, w3, w4, w5, w6, w7, w8, w9, w10, w11, w12, w13, w14, w15⟩, c⟩ := d
      cbv
      cases hA; subst hN; subst hI
      refine ⟨?_, by first | trivial | exact ⟨rfl, trivial⟩⟩
      obtain ⟨⟨k0, k1, k2, k3, k4, k5, k6, k7, k8, k9, k10, k11, k12, k13, k14, k15⟩, kc, kt, ke⟩ := hd
      simp only [apStd, iopadd, iopmul]
      simp only at ke kt kc
      generalize part8 5 (dig32 0 (num4 a0 a1 a2 a3)) (dig32 1 (num4 a0 a1 a2 a3)) (dig32 2 (num4 a0 a1 a2 a3)) (dig32 3 (num4 a0 a1 a2 a3)) (dig32 4 (num4 a0 a1 a2 a3)) (dig32 5 (num4 a0 a1 a2 a3)) (dig32 6 (num4 a0 a1 a2 a3)) (dig32 7 (num4 a0 a1 a2 a3)) * num4 b0 b1 b2 b3 = P at *
      have hx := dig32_H 5 (num4 a0 a1 a2 a3)
      have hy := dig32_H 2 (num4 b0 b1 b2 b3)
      generalize dig32 5 (num4 a0 a1 a2 a3) = x at *
      generalize dig32 0 (num4 b0 b1 b2 b3) = y0, dig32 1 (num4 b0 b1 b2 b3) = y1, dig32 2 (num4 b0 b1 b2 b3) = y2, dig32 3 (num4 b0 b1 b2 b3) = y3, dig32 4 (num4 b0 b1 b2 b3) = y4, dig32 5 (num4 b0 b1 b2 b3) = y5, dig32 6 (num4 b0 b1 b2 b3) = y6, dig32 7 (num4 b0 b1 b2 b3) = y7 at *
      obtain ⟨t, ht⟩ : ∃ t, t = ((w7 + x * y2 % 18446744073709551616) % 18446744073709551616 + c) % 18446744073709551616 := ⟨_, rfl⟩
      rw [← ht]
      obtain ⟨m0, m1, m2, m3⟩ := mac32 hx hy k7 kc ht rfl rfl
      rw [mask32 m0, shr32]
      generalize t % 4294967296 = l at *
      generalize t / 4294967296 = h at *
      refine ⟨⟨k0, k1, k2, k3, k4, k5, k6, m1, k8, k9, k10, k11, k12, k13, k14, k15⟩, m2, kt, ?_⟩
      rw [show (8 - 6 : Nat) = 2 from rfl, ypart2] at ke
      rw [show (8 - 5 : Nat) = 3 from rfl, ypart3]
      simp only [ph, v16] at ke ⊢
      clear ht m0
      omega
    | 5, _ =>
      obtain ⟨⟨w0, w1, w2, w3, w4, w5, w6, w7, w8, w9, w10, w11, w12, w13, w14, w15⟩, c⟩ := d
      cbv
      cases hA; subst hN; subst hI
      refine ⟨?_, by first | trivial | exact ⟨rfl, trivial⟩⟩
      obtain ⟨⟨k0, k1, k2, k3, k4, k5, k6, k7, k8, k9, k10, k11, k12, k13, k14, k15⟩, kc, kt, ke⟩ := hd
      simp only [apStd, iopadd, iopmul]
      simp only at ke kt kc
      generalize part8 5 (dig32 0 (num4 a0 a1 a2 a3)) (dig32 1 (num4 a0 a1 a2 a3)) (dig32 2 (num4 a0 a1 a2 a3)) (dig32 3 (num4 a0 a1 a2 a3)) (dig32 4 (num4 a0 a1 a2 a3)) (dig32 5 (num4 a0 a1 a2 a3)) (dig32 6 (num4 a0 a1 a2 a3)) (dig32 7 (num4 a0 a1 a2 a3)) * num4 b0 b1 b2 b3 = P at *
      have hx := dig32_H 5 (num4 a0 a1 a2 a3)
      have hy := dig32_H 3 (num4 b0 b1 b2 b3)
      generalize dig32 5 (num4 a0 a1 a2 a3) = x at *
      generalize dig32 0 (num4 b0 b1 b2 b3) = y0, dig32 1 (num4 b0 b1 b2 b3) = y1, dig32 2 (num4 b0 b1 b2 b3) = y2, dig32 3 (num4 b0 b1 b2 b3) = y3, dig32 4 (num4 b0 b1 b2 b3) = y4, dig32 5 (num4 b0 b1 b2 b3) = y5, dig32 6 (num4 b0 b1 b2 b3) = y6, dig32 7 (num4 b0 b1 b2 b3) = y7 at *
      obtain ⟨t, ht⟩ : ∃ t, t = ((w8 + x * y3 % 18446744073709551616) % 18446744073709551616 + c) % 18446744073709551616 := ⟨_, rfl⟩
      rw [← ht]
      obtain ⟨m0, m1, m2, m3⟩ := mac32 hx hy k8 kc ht rfl rfl
      rw [mask32 m0, shr32]
      generalize t % 4294967296 = l at *
      generalize t / 4294967296 = h at *
      refine ⟨⟨k0, k1, k2, k3, k4, k5, k6, k7, m1, k9, k10, k11, k12, k13, k14, k15⟩, m2, kt, ?_⟩
      rw [show (8 - 5 : Nat) = 3 from rfl, ypart3] at ke
      rw [show (8 - 4 : Nat) = 4 from rfl, ypart4]
      simp only [ph, v16] at ke ⊢
      clear ht m0
      omega
    | 4, _ =>
      obtain ⟨⟨w0, w1, w2, w3, w4, w5, w6, w7, w8, w9, w10, w11, w12, w13, w14, w15⟩, c⟩ := d
      cbv
      cases hA; subst hN; subst hI
      refine ⟨?_, by first | trivial | exact ⟨rfl, trivial⟩⟩
      obtain ⟨⟨k0, k1, k2, k3, k4, k5, k6, k7, k8, k9, k10, k11, k12, k13, k14, k15⟩, kc, kt, ke⟩ := hd
      simp only [apStd, iopadd, iopmul]
      simp only at ke kt kc
      generalize part8 5 (dig32 0 (num4 a0 a1 a2 a3)) (dig32 1 (num4 a0 a1 a2 a3)) (dig32 2 (num4 a0 a1 a2 a3)) (dig32 3 (num4 a0 a1 a2 a3)) (dig32 4 (num4 a0 a1 a2 a3)) (dig32 5 (num4 a0 a1 a2 a3)) (dig32 6 (num4 a0 a1 a2 a3)) (dig32 7 (num4 a0 a1 a2 a3)) * num4 b0 b1 b2 b3 = P at *
      have hx := dig32_H 5 (num4 a0 a1 a2 a3)
      have hy := dig32_H 4 (num4 b0 b1 b2 b3)
      generalize dig32 5 (num4 a0 a1 a2 a3) = x at *
      generalize dig32 0 (num4 b0 b1 b2 b3) = y0, dig32 1 (num4 b0 b1 b2 b3) = y1, dig32 2 (num4 b0 b1 b2 b3) = y2, dig32 3 (num4 b0 b1 b2 b3) = y3, dig32 4 (num4 b0 b1 b2 b3) = y4, dig32 5 (num4 b0 b1 b2 b3) = y5, dig32 6 (num4 b0 b1 b2 b3) = y6, dig32 7 (num4 b0 b1 b2 b3) = y7 at *
      obtain ⟨t, ht⟩ : ∃ t, t = ((w9 + x * y4 % 18446744073709551616) % 18446744073709551616 + c) % 18446744073709551616 := ⟨_, rfl⟩
      rw [← ht]
      obtain ⟨m0, m1, m2, m3⟩ := mac32 hx hy k9 kc ht rfl rfl
      rw [mask32 m0, shr32]
      generalize t % 4294967296 = l at *
      generalize t / 4294967296 = h at *
      refine ⟨⟨k0, k1, k2, k3, k4, k5, k6, k7, k8, m1, k10, k11, k12, k13, k14, k15⟩, m2, kt, ?_⟩
      rw [show (8 - 4 : Nat) = 4 from rfl, ypart4] at ke
      rw [show (8 - 3 : Nat) = 5 from rfl, ypart5]
      simp only [ph, v16] at ke ⊢
      clear ht m0
      omega
    | 3, _ =>
      obtain ⟨⟨w0, w1, w2, w3, w4, w5, w6, w7, w8, w9, w10, w11, w12, w13, w14, w15⟩, c⟩ := d
      cbv
      cases hA; subst hN; subst hI
      refine ⟨?_, by first | trivial | exact ⟨rfl, trivial⟩⟩
      obtain ⟨⟨k0, k1, k2, k3, k4, k5, k6, k7, k8, k9, k10, k11, k12, k13, k14, k15⟩, kc, kt, ke⟩ := hd
      simp only [apStd, iopadd, iopmul]
      simp only at ke kt kc
      generalize part8 5 (dig32 0 (num4 a0 a1 a2 a3)) (dig32 1 (num4 a0 a1 a2 a3)) (dig32 2 (num4 a0 a1 a2 a3)) (dig32 3 (num4 a0 a1 a2 a3)) (dig32 4 (num4 a0 a1 a2 a3)) (dig32 5 (num4 a0 a1 a2 a3)) (dig32 6 (num4 a0 a1 a2 a3)) (dig32 7 (num4 a0 a1 a2 a3)) * num4 b0 b1 b2 b3 = P at *
      have hx := dig32_H 5 (num4 a0 a1 a2 a3)
      have hy := dig32_H 5 (num4 b0 b1 b2 b3)
      generalize dig32 5 (num4 a0 a1 a2 a3) = x at *
      generalize dig32 0 (num4 b0 b1 b2 b3) = y0, dig32 1 (num4 b0 b1 b2 b3) = y1, dig32 2 (num4 b0 b1 b2 b3) = y2, dig32 3 (num4 b0 b1 b2 b3) = y3, dig32 4 (num4 b0 b1 b2 b3) = y4, dig32 5 (num4 b0 b1 b2 b3) = y5, dig32 6 (num4 b0 b1 b2 b3) = y6, dig32 7 (num4 b0 b1 b2 b3) = y7 at *
      obtain ⟨t, ht⟩ : ∃ t, t = ((w10 + x * y5 % 18446744073709551616) % 18446744073709551616 + c) % 18446744073709551616 := ⟨_, rfl⟩
      rw [← ht]
      obtain ⟨m0, m1, m2, m3⟩ := mac32 hx hy k10 kc ht rfl rfl
      rw [mask32 m0, shr32]
      generalize t % 4294967296 = l at *
      generalize t / 4294967296 = h at *
      refine ⟨⟨k0, k1, k2, k3, k4, k5, k6, k7, k8, k9, m1, k11, k12, k13, k14, k15⟩, m2, kt, ?_⟩
      rw [show (8 - 3 : Nat) = 5 from rfl, ypart5] at ke
      rw [show (8 - 2 : Nat) = 6 from rfl, ypart6]
      simp only [ph, v16] at ke ⊢
      clear ht m0
      omega
    | 2, _ =>
      obtain ⟨⟨w0, w1, w2, w3, w4, w5, w6, w7, w8, w9, w10, w11, w12, w13, w14, w15⟩, c⟩ := d
      cbv
      cases hA; subst hN; subst hI
      refine ⟨?_, by first | trivial | exact ⟨rfl, trivial⟩⟩
      obtain ⟨⟨k0, k1, k2, k3, k4, k5, k6, k7, k8, k9, k10, k11, k12, k13, k14, k15⟩, kc, kt, ke⟩ := hd
      simp only [apStd, iopadd, iopmul]
      simp only at ke kt kc
      generalize part8 5 (dig32 0 (num4 a0 a1 a2 a3)) (dig32 1 (num4 a0 a1 a2 a3)) (dig32 2 (num4 a0 a1 a2 a3)) (dig32 3 (num4 a0 a1 a2 a3)) (dig32 4 (num4 a0 a1 a2 a3)) (dig32 5 (num4 a0 a1 a2 a3)) (dig32 6 (num4 a0 a1 a2 a3)) (dig32 7 (num4 a0 a1 a2 a3)) * num4 b0 b1 b2 b3 = P at *
      have hx := dig32_H 5 (num4 a0 a1 a2 a3)
      have hy := dig32_H 6 (num4 b0 b1 b2 b3)
      generalize dig32 5 (num4 a0 a1 a2 a3) = x at *
      generalize dig32 0 (num4 b0 b1 b2 b3) = y0, dig32 1 (num4 b0 b1 b2 b3) = y1, dig32 2 (num4 b0 b1 b2 b3) = y2, dig32 3 (num4 b0 b1 b2 b3) = y3, dig32 4 (num4 b0 b1 b2 b3) = y4, dig32 5 (num4 b0 b1 b2 b3) = y5, dig32 6 (num4 b0 b1 b2 b3) = y6, dig32 7 (num4 b0 b1 b2 b3) = y7 at *
      obtain ⟨t, ht⟩ : ∃ t, t = ((w11 + x * y6 % 18446744073709551616) % 18446744073709551616 + c) % 18446744073709551616 := ⟨_, rfl⟩
      rw [← ht]
      obtain ⟨m0, m1, m2, m3⟩ := mac32 hx hy k11 kc ht rfl rfl
      rw [mask32 m0, shr32]
      generalize t % 4294967296 = l at *
      generalize t / 4294967296 = h at *
      refine ⟨⟨k0, k1, k2, k3, k4, k5, k6, k7, k8, k9, k10, m1, k12, k13, k14, k15⟩, m2, kt, ?_⟩
      rw [show (8 - 2 : Nat) = 6 from rfl, ypart6] at ke
      rw [show (8 - 1 : Nat) = 7 from rfl, ypart7]
      simp only [ph, v16] at ke ⊢
      clear ht m0
      omega
    | 1, _ =>
      obtain ⟨⟨w0, w1, w2, w3, w4, w5, w6, w7, w8, w9, w10, w11, w12, w13, w14, w15⟩, c⟩ := d
      cbv
      cases hA; subst hN; subst hI
      refine ⟨?_, by first | trivial | exact ⟨rfl, trivial⟩⟩
      obtain ⟨⟨k0, k1, k2, k3, k4, k5, k6, k7, k8, k9, k10, k11, k12, k13, k14, k15⟩, kc, kt, ke⟩ := hd
      simp only [apStd, iopadd, iopmul]
      simp only at ke kt kc
      generalize part8 5 (dig32 0 (num4 a0 a1 a2 a3)) (dig32 1 (num4 a0 a1 a2 a3)) (dig32 2 (num4 a0 a1 a2 a3)) (dig32 3 (num4 a0 a1 a2 a3)) (dig32 4 (num4 a0 a1 a2 a3)) (dig32 5 (num4 a0 a1 a2 a3)) (dig32 6 (num4 a0 a1 a2 a3)) (dig32 7 (num4 a0 a1 a2 a3)) * num4 b0 b1 b2 b3 = P at *
      have hx := dig32_H 5 (num4 a0 a1 a2 a3)
      have hy := dig32_H 7 (num4 b0 b1 b2 b3)
      generalize dig32 5 (num4 a0 a1 a2 a3) = x at *
      generalize dig32 0 (num4 b0 b1 b2 b3) = y0, dig32 1 (num4 b0 b1 b2 b3) = y1, dig32 2 (num4 b0 b1 b2 b3) = y2, dig32 3 (num4 b0 b1 b2 b3) = y3, dig32 4 (num4 b0 b1 b2 b3) = y4, dig32 5 (num4 b0 b1 b2 b3) = y5, dig32 6 (num4 b0 b1 b2 b3) = y6, dig32 7 (num4 b0 b1 b2 b3) = y7 at *
      obtain ⟨t, ht⟩ : ∃ t, t = ((w12 + x * y7 % 18446744073709551616) % 18446744073709551616 + c) % 18446744073709551616 := ⟨_, rfl⟩
      rw [← ht]
      obtain ⟨m0, m1, m2, m3⟩ := mac32 hx hy k12 kc ht rfl rfl
      rw [mask32 m0, shr32]
      generalize t % 4294967296 = l at *
      generalize t / 4294967296 = h at *
      refine ⟨⟨k0, k1, k2, k3, k4, k5, k6, k7, k8, k9, k10, k11, m1, k13, k14, k15⟩, m2, kt, ?_⟩
      rw [show (8 - 1 : Nat) = 7 from rfl, ypart7] at ke
      rw [show (8 - 0 : Nat) = 8 from rfl, ypart8]
      simp only [ph, v16] at ke ⊢
      clear ht m0
      omega
    | 0, _ =>
      obtain ⟨⟨w0, w1, w2, w3, w4, w5, w6, w7, w8, w9, w10, w11, w12, w13, w14, w15⟩, c⟩ := d
      cbv
      subst hO; subst hI
      refine ⟨?_, by first | trivial | exact ⟨rfl, trivial⟩⟩
      obtain ⟨⟨k0, k1, k2, k3, k4, k5, k6, k7, k8, k9, k10, k11, k12, k13, k14, k15⟩, kc, kt, ke⟩ := hd
      simp only at ke kt kc
      refine ⟨⟨k0, k1, k2, k3, k4, k5, k6, k7, k8, k9, k10, k11, k12, kc, k14, k15⟩, kt.2, ?_⟩
      rw [show (8 - 0 : Nat) = 8 from rfl, halves_v hb] at ke
      rw [show (8 - 2 : Nat) = 6 from rfl, Int.mul_comm, ypart6]
      rw [Int.mul_comm (part8 5 (dig32 0 (num4 a0 a1 a2 a3)) (dig32 1 (num4 a0 a1 a2 a3)) (dig32 2 (num4 a0 a1 a2 a3)) (dig32 3 (num4 a0 a1 a2 a3)) (dig32 4 (num4 a0 a1 a2 a3)) (dig32 5 (num4 a0 a1 a2 a3)) (dig32 6 (num4 a0 a1 a2 a3)) (dig32 7 (num4 a0 a1 a2 a3))), ypart5, Int.mul_comm (dig32 5 (num4 a0 a1 a2 a3))] at ke
      simp only [tail16] at kt
      simp only [ph, v16] at ke ⊢
      omega
  | 2, _ =>
    obtain ⟨w0, w1, w2, w3, w4, w5, w6, w7, w8, w9, w10, w11, w12, w13, w14, w15⟩ := d
    cbv
    obtain ⟨okI, hI⟩ : ∃ f, f = wideOkI 6 (part8 6 (dig32 0 (num4 a0 a1 a2 a3)) (dig32 1 (num4 a0 a1 a2 a3)) (dig32 2 (num4 a0 a1 a2 a3)) (dig32 3 (num4 a0 a1 a2 a3)) (dig32 4 (num4 a0 a1 a2 a3)) (dig32 5 (num4 a0 a1 a2 a3)) (dig32 6 (num4 a0 a1 a2 a3)) (dig32 7 (num4 a0 a1 a2 a3)) * num4 b0 b1 b2 b3) (dig32 6 (num4 a0 a1 a2 a3)) (dig32 0 (num4 b0 b1 b2 b3)) (dig32 1 (num4 b0 b1 b2 b3)) (dig32 2 (num4 b0 b1 b2 b3)) (dig32 3 (num4 b0 b1 b2 b3)) (dig32 4 (num4 b0 b1 b2 b3)) (dig32 5 (num4 b0 b1 b2 b3)) (dig32 6 (num4 b0 b1 b2 b3)) (dig32 7 (num4 b0 b1 b2 b3)) := ⟨_, rfl⟩
    refine lp_ex hL 8 wideEx (wideI 6 a0 a1 a2 a3 b0 b1 b2 b3 (dg N 0 a0 a1 a2 a3) (dg N 1 a0 a1 a2 a3) (dg N 2 a0 a1 a2 a3) (dg N 3 a0 a1 a2 a3) (dg N 4 a0 a1 a2 a3) (dg N 5 a0 a1 a2 a3) (dg N 6 a0 a1 a2 a3) (dg N 7 a0 a1 a2 a3) (dg N 0 b0 b1 b2 b3) (dg N 1 b0 b1 b2 b3) (dg N 2 b0 b1 b2 b3) (dg N 3 b0 b1 b2 b3) (dg N 4 b0 b1 b2 b3) (dg N 5 b0 b1 b2 b3) (dg N 6 b0 b1 b2 b3) (dg N 7 b0 b1 b2 b3)) okI ?_ ?_ hL (.inr rfl)
    · cbv
      subst hO; subst hI
      simp only [wideOkO, wideOkI] at hd ⊢
      refine ⟨⟨hd.1, by unfold H; omega, hd.2.1, ?_⟩, trivial⟩
      rw [show (8 - 8 : Nat) = 0 from rfl, ypart0, hd.2.2]
    clear hd
    intro n hn d hd
    match n, hn with
    | 8, _ =>
      obtain ⟨⟨w0, w1, w2, w3, w4, w5, w6, w7, w8, w9, w10, w11, w12, w13, w14, w15⟩, c⟩ := d
      cbv
      cases hA; subst hN; subst hI
      refine ⟨?_, by first | trivial | exact ⟨rfl, trivial⟩⟩
      obtain ⟨⟨k0, k1, k2, k3, k4, k5, k6, k7, k8, k9, k10, k11, k12, k13, k14, k15⟩, kc, kt, ke⟩ := hd
      simp only [apStd, iopadd, iopmul]
      simp only at ke kt kc
      generalize part8 6 (dig32 0 (num4 a0 a1 a2 a3)) (dig32 1 (num4 a0 a1 a2 a3)) (dig32 2 (num4 a0 a1 a2 a3)) (dig32 3 (num4 a0 a1 a2 a3)) (dig32 4 (num4 a0 a1 a2 a3)) (dig32 5 (num4 a0 a1 a2 a3)) (dig32 6 (num4 a0 a1 a2 a3)) (dig32 7 (num4 a0 a1 a2 a3)) * num4 b0 b1 b2 b3 = P at *
      have hx := dig32_H 6 (num4 a0 a1 a2 a3)
      have hy := dig32_H 0 (num4 b0 b1 b2 b3)
      generalize dig32 6 (num4 a0 a1 a2 a3) = x at *
      generalize dig32 0 (num4 b0 b1 b2 b3) = y0, dig32 1 (num4 b0 b1 b2 b3) = y1, dig32 2 (num4 b0 b1 b2 b3) = y2, dig32 3 (num4 b0 b1 b2 b3) = y3, dig32 4 (num4 b0 b1 b2 b3) = y4, dig32 5 (num4 b0 b1 b2 b3) = y5, dig32 6 (num4 b0 b1 b2 b3) = y6, dig32 7 (num4 b0 b1 b2 b3) = y7 at *
      obtain ⟨t, ht⟩ : ∃ t, t = ((w6 + x * y0 % 18446744073709551616) % 18446744073709551616 + c) % 18446744073709551616 := ⟨_, rfl⟩
      rw [← ht]
      obtain ⟨m0, m1, m2, m3⟩ := mac32 hx hy k6 kc ht rfl rfl
      rw [mask32 m0, shr32]
      generalize t % 4294967296 = l at *
      generalize t / 4294967296 = h at *
      refine ⟨⟨k0, k1, k2, k3, k4, k5, m1, k7, k8, k9, k10, k11, k12, k13, k14, k15⟩, m2, kt, ?_⟩
      rw [show (8 - 8 : Nat) = 0 from rfl, ypart0] at ke
      rw [show (8 - 7 : Nat) = 1 from rfl, ypart1]
      simp only [ph, v16] at ke ⊢
      clear ht m0
      omega
    | 7, _ =>
      obtain ⟨⟨w0, w1, w2, w3, w4, w5, w6, w7, w8, w9, w10, w11, w12, w13, w14, w15⟩, c⟩ := d
      cbv
      cases hA; subst hN; subst hI
      refine ⟨?_, by first | trivial | exact ⟨rfl, trivial⟩⟩
      obtain ⟨⟨k0, k1, k2, k3, k4, k5, k6, k7, k8, k9, k10, k11, k12, k13, k14, k15⟩, kc, kt, ke⟩ := hd
      simp only [apStd, iopadd, iopmul]
      simp only at ke kt kc
      generalize part8 6 (dig32 0 (num4 a0 a1 a2 a3)) (dig32 1 (num4 a0 a1 a2 a3)) (dig32 2 (num4 a0 a1 a2 a3)) (dig32 3 (num4 a0 a1 a2 a3)) (dig32 4 (num4 a0 a1 a2 a3)) (dig32 5 (num4 a0 a1 a2 a3)) (dig32 6 (num4 a0 a1 a2 a3)) (dig32 7 (num4 a0 a1 a2 a3)) * num4 b0 b1 b2 b3 = P at *
      have hx := dig32_H 6 (num4 a0 a1 a2 a3)
      have hy := dig32_H 1 (num4 b0 b1 b2 b3)
      generalize dig32 6 (num4 a0 a1 a2 a3) = x at *
      generalize dig32 0 (num4 b0 b1 b2 b3) = y0, dig32 1 (num4 b0 b1 b2 b3) = y1, dig32 2 (num4 b0 b1 b2 b3) = y2, dig32 3 (num4 b0 b1 b2 b3) = y3, dig32 4 (num4 b0 b1 b2 b3) = y4, dig32 5 (num4 b0 b1 b2 b3) = y5, dig32 6 (num4 b0 b1 b2 b3) = y6, dig32 7 (num4 b0 b1 b2 b3) = y7 at *
      obtain ⟨t, ht⟩ : ∃ t, t = ((w7 + x * y1 % 18446744073709551616) % 18446744073709551616 + c) % 18446744073709551616 := ⟨_, rfl⟩
      rw [← ht]
      obtain ⟨m0, m1, m2, m3⟩ := mac32 hx hy k7 kc ht rfl rfl
      rw [mask32 m0, shr32]
      generalize t % 4294967296 = l at *
      generalize t / 4294967296 = h at *
      refine ⟨⟨k0, k1, k2, k3, k4, k5, k6, m1, k8, k9, k10, k11, k12, k13, k14, k15⟩, m2, kt, ?_⟩
      rw [show (8 - 7 : Nat) = 1 from rfl, ypart1] at ke
      rw [show (8 - 6 : Nat) = 2 from rfl, ypart2]
      simp only [ph, v16] at ke ⊢
      clear ht m0
      omega
    | 6, _ =>
      obtain ⟨⟨w0, w1, w2, w3, w4, w5, w6, w7, w8, w9, w10, w11, w12, w13, w14, w15⟩, c⟩ := d
      cbv
      cases hA; subst hN; subst hI
      refine ⟨?_, by first | trivial | exact ⟨rfl, trivial⟩⟩
      obtain ⟨⟨k0, k1, k2, k3, k4, k5, k6, k7, k8, k9, k10, k11, k12, k13, k14, k15⟩, kc, kt, ke⟩ := hd
      simp only [apStd, iopadd, iopmul]
      simp only at ke kt kc
      generalize part8 6 (dig32 0 (num4 a0 a1 a2 a3)) (dig32 1 (num4 a0 a1 a2 a3)) (dig32 2 (num4 a0 a1 a2 a3)) (dig32 3 (num4 a0 a1 a2 a3)) (dig32 4 (num4 a0 a1 a2 a3)) (dig32 5 (num4 a0 a1 a2 a3)) (dig32 6 (num4 a0 a1 a2 a3)) (dig32 7 (num4 a0 a1 a2 a3)) * num4 b0 b1 b2 b3 = P at *
      have hx := dig32_H 6 (num4 a0 a1 a2 a3)
      have hy := dig32_H 2 (num4 b0 b1 b2 b3)
      generalize dig32 6 (num4 a0 a1 a2 a3) = x at *
      generalize dig32 0 (num4 b0 b1 b2 b3) = y0, dig32 1 (num4 b0 b1 b2 b3) = y1, dig32 2 (num4 b0 b1 b2 b3) = y2, dig32 3 (num4 b0 b1 b2 b3) = y3, dig32 4 (num4 b0 b1 b2 b3) = y4, dig32 5 (num4 b0 b1 b2 b3) = y5, dig32 6 (num4 b0 b1 b2 b3) = y6, dig32 7 (num4 b0 b1 b2 b3) = y7 at *
      obtain ⟨t, ht⟩ : ∃ t, t = ((w8 + x * y2 % 18446744073709551616) % 18446744073709551616 + c) % 18446744073709551616 := ⟨_, rfl⟩
      rw [← ht]
      obtain ⟨m0, m1, m2, m3⟩ := mac32 hx hy k8 kc ht rfl rfl
      rw [mask32 m0, shr32]
      generalize t % 4294967296 = l at *
      generalize t / 4294967296 = h at *
      refine ⟨⟨k0, k1, k2, k3, k4, k5, k6, k7, m1, k9, k10, k11, k12, k13, k14, k15⟩, m2, kt, ?_⟩
      rw [show (8 - 6 : Nat) = 2 from rfl, ypart2] at ke
      rw [show (8 - 5 : Nat) = 3 from rfl, ypart3]
      simp only [ph, v16] at ke ⊢
      clear ht m0
      omega
    | 5, _ =>
      obtain ⟨⟨w0, w1, w2, w3, w4, w5, w6, w7, w8, w9, w10, w11, w12, w13, w14, w15⟩, c⟩ := d
      cbv
      cases hA; subst hN; subst hI
      refine ⟨?_, by first | trivial | exact ⟨rfl, trivial⟩⟩
      obtain ⟨⟨k0, k1, k2, k3, k4, k5, k6, k7, k8, k9, k10, k11, k12, k13, k14, k15⟩, kc, kt, ke⟩ := hd
      simp only [apStd, iopadd, iopmul]
      simp only at ke kt kc
      generalize part8 6 (dig32 0 (num4 a0 a1 a2 a3)) (dig32 1 (num4 a0 a1 a2 a3)) (dig32 2 (num4 a0 a1 a2 a3)) (dig32 3 (num4 a0 a1 a2 a3)) (dig32 4 (num4 a0 a1 a2 a3)) (dig32 5 (num4 a0 a1 a2 a3)) (dig32 6 (num4 a0 a1 a2 a3)) (dig32 7 (num4 a0 a1 a2 a3)) * num4 b0 b1 b2 b3 = P at *
      have hx := dig32_H 6 (num4 a0 a1 a2 a3)
      have hy := dig32_H 3 (num4 b0 b1 b2 b3)
      generalize dig32 6 (num4 a0 a1 a2 a3) = x at *
      generalize dig32 0 (num4 b0 b1 b2 b3) = y0, dig32 1 (num4 b0 b1 b2 b3) = y1, dig32 2 (num4 b0 b1 b2 b3) = y2, dig32 3 (num4 b0 b1 b2 b3) = y3, dig32 4 (num4 b0 b1 b2 b3) = y4, dig32 5 (num4 b0 b1 b2 b3) = y5, dig32 6 (num4 b0 b1 b2 b3) = y6, dig32 7 (num4 b0 b1 b2 b3) = y7 at *
      obtain ⟨t, ht⟩ : ∃ t, t = ((w9 + x * y3 % 18446744073709551616) % 18446744073709551616 + c) % 18446744073709551616 := ⟨_, rfl⟩
      rw [← ht]
      obtain ⟨m0, m1, m2, m3⟩ := mac32 hx hy k9 kc ht rfl rfl
      rw [mask32 m0, shr32]
      generalize t % 4294967296 = l at *
      generalize t / 4294967296 = h at *
      refine ⟨⟨k0, k1, k2, k3, k4, k5, k6, k7, k8, m1, k10, k11, k12, k13, k14, k15⟩, m2, kt, ?_⟩
      rw [show (8 - 5 : Nat) = 3 from rfl, ypart3] at ke
      rw [show (8 - 4 : Nat) = 4 from rfl, ypart4]
      simp only [ph, v16] at ke ⊢
      clear ht m0
      omega
    | 4, _ =>
      obtain ⟨⟨w0, w1, w2, w3, w4, w5, w6, w7, w8, w9, w10, w11, w12, w13, w14, w15⟩, c⟩ := d
      cbv
      cases hA; subst hN; subst hI
      refine ⟨?_, by first | trivial | exact ⟨rfl, trivial⟩⟩
      obtain ⟨⟨k0, k1, k2, k3, k4, k5, k6, k7, k8, k9, k10, k11, k12, k13, k14, k15⟩, kc, kt, ke⟩ := hd
      simp only [apStd, iopadd, iopmul]
      simp only at ke kt kc
      generalize part8 6 (dig32 0 (num4 a0 a1 a2 a3)) (dig32 1 (num4 a0 a1 a2 a3)) (dig32 2 (num4 a0 a1 a2 a3)) (dig32 3 (num4 a0 a1 a2 a3)) (dig32 4 (num4 a0 a1 a2 a3)) (dig32 5 (num4 a0 a1 a2 a3)) (dig32 6 (num4 a0 a1 a2 a3)) (dig32 7 (num4 a0 a1 a2 a3)) * num4 b0 b1 b2 b3 = P at *
      have hx := dig32_H 6 (num4 a0 a1 a2 a3)
      have hy := dig32_H 4 (num4 b0 b1 b2 b3)
      generalize dig32 6 (num4 a0 a1 a2 a3) = x at *
      generalize dig32 0 (num4 b0 b1 b2 b3) = y0, dig32 1 (num4 b0 b1 b2 b3) = y1, dig32 2 (num4 b0 b1 b2 b3) = y2, dig32 3 (num4 b0 b1 b2 b3) = y3, dig32 4 (num4 b0 b1 b2 b3) = y4, dig32 5 (num4 b0 b1 b2 b3) = y5, dig32 6 (num4 b0 b1 b2 b3) = y6, dig32 7 (num4 b0 b1 b2 b3) = y7 at *
      obtain ⟨t, ht⟩ : ∃ t, t = ((w10 + x * y4 % 18446744073709551616) % 18446744073709551616 + c) % 18446744073709551616 := ⟨_, rfl⟩
      rw [← ht]
      obtain ⟨m0, m1, m2, m3⟩ := mac32 hx hy k10 kc ht rfl rfl
      rw [mask32 m0, shr32]
      generalize t % 4294967296 = l at *
      generalize t / 4294967296 = h at *
      refine ⟨⟨k0, k1, k2, k3, k4, k5, k6, k7, k8, k9, m1, k11, k12, k13, k14, k15⟩, m2, kt, ?_⟩
      rw [show (8 - 4 : Nat) = 4 from rfl, ypart4] at ke
      rw [show (8 - 3 : Nat) = 5 from rfl, ypart5]
      simp only [ph, v16] at ke ⊢
      clear ht m0
      omega
    | 3, _ =>
      obtain ⟨⟨w0, w1, w2, w3, w4, w5, w6, w7, w8, w9, w10, w11, w12, w13, w14, w15⟩, c⟩ := d
      cbv
      cases hA; subst hN; subst hI
      refine ⟨?_, by first | trivial | exact ⟨rfl, trivial⟩⟩
      obtain ⟨⟨k0, k1, k2, k3, k4, k5, k6, k7, k8, k9, k10, k11, k12, k13, k14, k15⟩, kc, kt, ke⟩ := hd
      simp only [apStd, iopadd, iopmul]
      simp only at ke kt kc
      generalize part8 6 (dig32 0 (num4 a0 a1 a2 a3)) (dig32 1 (num4 a0 a1 a2 a3)) (dig32 2 (num4 a0 a1 a2 a3)) (dig32 3 (num4 a0 a1 a2 a3)) (dig32 4 (num4 a0 a1 a2 a3)) (dig32 5 (num4 a0 a1 a2 a3)) (dig32 6 (num4 a0 a1 a2 a3)) (dig32 7 (num4 a0 a1 a2 a3)) * num4 b0 b1 b2 b3 = P at *
      have hx := dig32_H 6 (num4 a0 a1 a2 a3)
      have hy := dig32_H 5 (num4 b0 b1 b2 b3)
      generalize dig32 6 (num4 a0 a1 a2 a3) = x at *
      generalize dig32 0 (num4 b0 b1 b2 b3) = y0, dig32 1 (num4 b0 b1 b2 b3) = y1, dig32 2 (num4 b0 b1 b2 b3) = y2, dig32 3 (num4 b0 b1 b2 b3) = y3, dig32 4 (num4 b0 b1 b2 b3) = y4, dig32 5 (num4 b0 b1 b2 b3) = y5, dig32 6 (num4 b0 b1 b2 b3) = y6, dig32 7 (num4 b0 b1 b2 b3) = y7 at *
      obtain ⟨t, ht⟩ : ∃ t, t = ((w11 + x * y5 % 18446744073709551616) % 18446744073709551616 + c) % 18446744073709551616 := ⟨_, rfl⟩
      rw [← ht]
      obtain ⟨m0, m1, m2, m3⟩ := mac32 hx hy k11 kc ht rfl rfl
      rw [mask32 m0, shr32]
      generalize t % 4294967296 = l at *
      generalize t / 4294967296 = h at *
      refine ⟨⟨k0, k1, k2, k3, k4, k5, k6, k7, k8, k9, k10, m1, k12, k13, k14, k15⟩, m2, kt, ?_⟩
      rw [show (8 - 3 : Nat) = 5 from rfl, ypart5] at ke
      rw [show (8 - 2 : Nat) = 6 from rfl, ypart6]
      simp only [ph, v16] at ke ⊢
      clear ht m0
      omega
    | 2, _ =>
      obtain ⟨⟨w0, w1, w2, w3, w4, w5, w6, w7, w8, w9, w10, w11, w12, w13, w14, w15⟩, c⟩ := d
      cbv
      cases hA; subst hN; subst hI
      refine ⟨?_, by first | trivial | exact ⟨rfl, trivial⟩⟩
      obtain ⟨⟨k0, k1, k2, k3, k4, k5, k6, k7, k8, k9, k10, k11, k12, k13, k14, k15⟩, kc, kt, ke⟩ := hd
      simp only [apStd, iopadd, iopmul]
      simp only at ke kt kc
      generalize part8 6 (dig32 0 (num4 a0 a1 a2 a3)) (dig32 1 (num4 a0 a1 a2 a3)) (dig32 2 (num4 a0 a1 a2 a3)) (dig32 3 (num4 a0 a1 a2 a3)) (dig32 4 (num4 a0 a1 a2 a3)) (dig32 5 (num4 a0 a1 a2 a3)) (dig32 6 (num4 a0 a1 a2 a3)) (dig32 7 (num4 a0 a1 a2 a3)) * num4 b0 b1 b2 b3 = P at *
      have hx := dig32_H 6 (num4 a0 a1 a2 a3)
      have hy := dig32_H 6 (num4 b0 b1 b2 b3)
      generalize dig32 6 (num4 a0 a1 a2 a3) = x at *
      generalize dig32 0 (num4 b0 b1 b2 b3) = y0, dig32 1 (num4 b0 b1 b2 b3) = y1, dig32 2 (num4 b0 b1 b2 b3) = y2, dig32 3 (num4 b0 b1 b2 b3) = y3, dig32 4 (num4 b0 b1 b2 b3) = y4, dig32 5 (num4 b0 b1 b2 b3) = y5, dig32 6 (num4 b0 b1 b2 b3) = y6, dig32 7 (num4 b0 b1 b2 b3) = y7 at *
      obtain ⟨t, ht⟩ : ∃ t, t = ((w12 + x * y6 % 18446744073709551616) % 18446744073709551616 + c) % 18446744073709551616 := ⟨_, rfl⟩
      rw [← ht]
      obtain ⟨m0, m1, m2, m3⟩ := mac32 hx hy k12 kc ht rfl rfl
      rw [mask32 m0, shr32]
      generalize t % 4294967296 = l at *
      generalize t / 4294967296 = h at *
      refine ⟨⟨k0, k1, k2, k3, k4, k5, k6, k7, k8, k9, k10, k11, m1, k13, k14, k15⟩, m2, kt, ?_⟩
      rw [show (8 - 2 : Nat) = 6 from rfl, ypart6] at ke
      rw [show (8 - 1 : Nat) = 7 from rfl, ypart7]
      simp only [ph, v16] at ke ⊢
      clear ht m0
      omega
    | 1, _ =>
      obtain ⟨⟨w0, w1, w2, w3, w4, w5, w6, w7, w8, w9, w10, w11, w12, w13, w14, w15⟩, c⟩ := d
      cbv
      cases hA; subst hN; subst hI
      refine ⟨?_, by first | trivial | exact ⟨rfl, trivial⟩⟩
      obtain ⟨⟨k0, k1, k2, k3, k4, k5, k6, k7, k8, k9, k10, k11, k12, k13, k14, k15⟩, kc, kt, ke⟩ := hd
      simp only [apStd, iopadd, iopmul]
      simp only at ke kt kc
      generalize part8 6 (dig32 0 (num4 a0 a1 a2 a3)) (dig32 1 (num4 a0 a1 a2 a3)) (dig32 2 (num4 a0 a1 a2 a3)) (dig32 3 (num4 a0 a1 a2 a3)) (dig32 4 (num4 a0 a1 a2 a3)) (dig32 5 (num4 a0 a1 a2 a3)) (dig32 6 (num4 a0 a1 a2 a3)) (dig32 7 (num4 a0 a1 a2 a3)) * num4 b0 b1 b2 b3 = P at *
      have hx := dig32_H 6 (num4 a0 a1 a2 a3)
      have hy := dig32_H 7 (num4 b0 b1 b2 b3)
      generalize dig32 6 (num4 a0 a1 a2 a3) = x at *
      generalize dig32 0 (num4 b0 b1 b2 b3) = y0, dig32 1 (num4 b0 b1 b2 b3) = y1, dig32 2 (num4 b0 b1 b2 b3) = y2, dig32 3 (num4 b0 b1 b2 b3) = y3, dig32 4 (num4 b0 b1 b2 b3) = y4, dig32 5 (num4 b0 b1 b2 b3) = y5, dig32 6 (num4 b0 b1 b2 b3) = y6, dig32 7 (num4 b0 b1 b2 b3) = y7 at *
      obtain ⟨t, ht⟩ : ∃ t, t = ((w13 + x * y7 % 18446744073709551616) % 18446744073709551616 + c) % 18446744073709551616 := ⟨_, rfl⟩
      rw [← ht]
      obtain ⟨m0, m1, m2, m3⟩ := mac32 hx hy k13 kc ht rfl rfl
      rw [mask32 m0, shr32]
      generalize t % 4294967296 = l at *
      generalize t / 4294967296 = h at *
      refine ⟨⟨k0, k1, k2, k3, k4, k5, k6, k7, k8, k9, k10, k11, k12, m1, k14, k15⟩, m2, kt, ?_⟩
      rw [show (8 - 1 : Nat) = 7 from rfl, ypart7] at ke
      rw [show (8 - 0 : Nat) = 8 from rfl, ypart8]
      simp only [ph, v16] at ke ⊢
      clear ht m0
      omega
    | 0, _ =>
      obtain ⟨⟨w0, w1, w2, w3, w4, w5, w6, w7, w8, w9, w10, w11, w12, w13, w14, w15⟩, c⟩ := d
      cbv
      subst hO; subst hI
      refine ⟨?_, by first | trivial | exact ⟨rfl, trivial⟩⟩
      obtain ⟨⟨k0, k1, k2, k3, k4, k5, k6, k7, k8, k9, k10, k11, k12, k13, k14, k15⟩, kc, kt, ke⟩ := hd
      simp only at ke kt kc
      refine ⟨⟨k0, k1, k2, k3, k4, k5, k6, k7, k8, k9, k10, k11, k12, k13, kc, k15⟩, kt.2, ?_⟩
      rw [show (8 - 0 : Nat) = 8 from rfl, halves_v hb] at ke
      rw [show (8 - 1 : Nat) = 7 from rfl, Int.mul_comm, ypart7]
      rw [Int.mul_comm (part8 6 (dig32 0 (num4 a0 a1 a2 a3)) (dig32 1 (num4 a0 a1 a2 a3)) (dig32 2 (num4 a0 a1 a2 a3)) (dig32 3 (num4 a0 a1 a2 a3)) (dig32 4 (num4 a0 a1 a2 a3)) (dig32 5 (num4 a0 a1 a2 a3)) (dig32 6 (num4 a0 a1 a2 a3)) (dig32 7 (num4 a0 a1 a2 a3))), ypart6, Int.mul_comm (dig32 6 (num4 a0 a1 a2 a3))] at ke
      simp only [tail16] at kt
      simp only [ph, v16] at ke ⊢
      omega
  | 1, _ =>
    obtain ⟨w0, w1, w2, w3, w4, w5, w6, w7, w8, w9, w10, w11, w12, w13, w14, w15⟩ := d
    cbv
    obtain ⟨okI, hI⟩ : ∃ f, f = wideOkI 7 (part8 7 (dig32 0 (num4 a0 a1 a2 a3)) (dig32 1 (num4 a0 a1 a2 a3)) (dig32 2 (num4 a0 a1 a2 a3)) (dig32 3 (num4 a0 a1 a2 a3)) (dig32 4 (num4 a0 a1 a2 a3)) (dig32 5 (num4 a0 a1 a2 a3)) (dig32 6 (num4 a0 a1 a2 a3)) (dig32 7 (num4 a0 a1 a2 a3)) * num4 b0 b1 b2 b3) (dig32 7 (num4 a0 a1 a2 a3)) (dig32 0 (num4 b0 b1 b2 b3)) (dig32 1 (num4 b0 b1 b2 b3)) (dig32 2 (num4 b0 b1 b2 b3)) (dig32 3 (num4 b0 b1 b2 b3)) (dig32 4 (num4 b0 b1 b2 b3)) (dig32 5 (num4 b0 b1 b2 b3)) (dig32 6 (num4 b0 b1 b2 b3)) (dig32 7 (num4 b0 b1 b2 b3)) := ⟨_, rfl⟩
    refine lp_ex hL 8 wideEx (wideI 7 a0 a1 a2 a3 b0 b1 b2 b3 (dg N 0 a0 a1 a2 a3) (dg N 1 a0 a1 a2 a3) (dg N 2 a0 a1 a2 a3) (dg N 3 a0 a1 a2 a3) (dg N 4 a0 a1 a2 a3) (dg N 5 a0 a1 a2 a3) (dg N 6 a0 a1 a2 a3) (dg N 7 a0 a1 a2 a3) (dg N 0 b0 b1 b2 b3) (dg N 1 b0 b1 b2 b3) (dg N 2 b0 b1 b2 b3) (dg N 3 b0 b1 b2 b3) (dg N 4 b0 b1 b2 b3) (dg N 5 b0 b1 b2 b3) (dg N 6 b0 b1 b2 b3) (dg N 7 b0 b1 b2 b3)) okI ?_ ?_ hL (.inr rfl)
    · cbv
      subst hO; subst hI
      simp only [wideOkO, wideOkI] at hd ⊢
      refine ⟨⟨hd.1, by unfold H; omega, hd.2.1, ?_⟩, trivial⟩
      rw [show (8 - 8 : Nat) = 0 from rfl, ypart0, hd.2.2]
    clear hd
    intro n hn d hd
    match n, hn with
    | 8, _ =>
      obtain ⟨⟨w0, w1, w2, w3, w4, w5, w6, w7, w8, w9, w10, w11, w12, w13, w14, w15⟩, c⟩ := d
      cbv
      cases hA; subst hN; subst hI
      refine ⟨?_, by first | trivial | exact ⟨rfl, trivial⟩⟩
      obtain ⟨⟨k0, k1, k2, k3, k4, k5, k6, k7, k8, k9, k10, k11, k12, k13, k14, k15⟩, kc, kt, ke⟩ := hd
      simp only [apStd, iopadd, iopmul]
      simp only at ke kt kc
      generalize part8 7 (dig32 0 (num4 a0 a1 a2 a3)) (dig32 1 (num4 a0 a1 a2 a3)) (dig32 2 (num4 a0 a1 a2 a3)) (dig32 3 (num4 a0 a1 a2 a3)) (dig32 4 (num4 a0 a1 a2 a3)) (dig32 5 (num4 a0 a1 a2 a3)) (dig32 6 (num4 a0 a1 a2 a3)) (dig32 7 (num4 a0 a1 a2 a3)) * num4 b0 b1 b2 b3 = P at *
      have hx := dig32_H 7 (num4 a0 a1 a2 a3)
      have hy := dig32_H 0 (num4 b0 b1 b2 b3)
      generalize dig32 7 (num4 a0 a1 a2 a3) = x at *
      generalize dig32 0 (num4 b0 b1 b2 b3) = y0, dig32 1 (num4 b0 b1 b2 b3) = y1, dig32 2 (num4 b0 b1 b2 b3) = y2, dig32 3 (num4 b0 b1 b2 b3) = y3, dig32 4 (num4 b0 b1 b2 b3) = y4, dig32 5 (num4 b0 b1 b2 b3) = y5, dig32 6 (num4 b0 b1 b2 b3) = y6, dig32 7 (num4 b0 b1 b2 b3) = y7 at *
      obtain ⟨t, ht⟩ : ∃ t, t = ((w7 + x * y0 % 18446744073709551616) % 18446744073709551616 + c) % 18446744073709551616 := ⟨_, rfl⟩
      rw [← ht]
      obtain ⟨m0, m1, m2, m3⟩ := mac32 hx hy k7 kc ht rfl rfl
      rw [mask32 m0, shr32]
      generalize t % 4294967296 = l at *
      generalize t / 4294967296 = h at *
      refine ⟨⟨k0, k1, k2, k3, k4, k5, k6, m1, k8, k9, k10, k11, k12, k13, k14, k15⟩, m2, kt, ?_⟩
      rw [show (8 - 8 : Nat) = 0 from rfl, ypart0] at ke
      rw [show (8 - 7 : Nat) = 1 from rfl, ypart1]
      simp only [ph, v16] at ke ⊢
      clear ht m0
      omega
    | 7, _ =>
      obtain ⟨⟨w0, w1, w2, w3, w4, w5, w6, w7, w8, w9, w10, w11, w12, w13, w14, w15⟩, c⟩ := d
      cbv
      cases hA; subst hN; subst hI
      refine ⟨?_, by first | trivial | exact ⟨rfl, trivial⟩⟩
      obtain ⟨⟨k0, k1, k2, k3, k4, k5, k6, k7, k8, k9, k10, k11, k12, k13, k14, k15⟩, kc, kt, ke⟩ := hd
      simp only [apStd, iopadd, iopmul]
      simp only at ke kt kc
      generalize part8 7 (dig32 0 (num4 a0 a1 a2 a3)) (dig32 1 (num4 a0 a1 a2 a3)) (dig32 2 (num4 a0 a1 a2 a3)) (dig32 3 (num4 a0 a1 a2 a3)) (dig32 4 (num4 a0 a1 a2 a3)) (dig32 5 (num4 a0 a1 a2 a3)) (dig32 6 (num4 a0 a1 a2 a3)) (dig32 7 (num4 a0 a1 a2 a3)) * num4 b0 b1 b2 b3 = P at *
      have hx := dig32_H 7 (num4 a0 a1 a2 a3)
      have hy := dig32_H 1 (num4 b0 b1 b2 b3)
      generalize dig32 7 (num4 a0 a1 a2 a3) = x at *
      generalize dig32 0 (num4 b0 b1 b2 b3) = y0, dig32 1 (num4 b0 b1 b2 b3) = y1, dig32 2 (num4 b0 b1 b2 b3) = y2, dig32 3 (num4 b0 b1 b2 b3) = y3, dig32 4 (num4 b0 b1 b2 b3) = y4, dig32 5 (num4 b0 b1 b2 b3) = y5, dig32 6 (num4 b0 b1 b2 b3) = y6, dig32 7 (num4 b0 b1 b2 b3) = y7 at *
      obtain ⟨t, ht⟩ : ∃ t, t = ((w8 + x * y1 % 18446744073709551616) % 18446744073709551616 + c) % 18446744073709551616 := ⟨_, rfl⟩
      rw [← ht]
      obtain ⟨m0, m1, m2, m3⟩ := mac32 hx hy k8 kc ht rfl rfl
      rw [mask32 m0, shr32]
      generalize t % 4294967296 = l at *
      generalize t / 4294967296 = h at *
      refine ⟨⟨k0, k1, k2, k3, k4, k5, k6, k7, m1, k9, k10, k11, k12, k13, k14, k15⟩, m2, kt, ?_⟩
      rw [show (8 - 7 : Nat) = 1 from rfl, ypart1] at ke
      rw [show (8 - 6 : Nat) = 2 from rfl, ypart2]
      simp only [ph, v16] at ke ⊢
      clear ht m0
      omega
    | 6, _ =>
      obtain ⟨⟨w0, w1, w2, w3, w4, w5, w6, w7, w8, w9, w10, w11, w12, w13, w14, w15⟩, c⟩ := d
      cbv
      cases hA; subst hN; subst hI
      refine ⟨?_, by first | trivial | exact ⟨rfl, trivial⟩⟩
      obtain ⟨⟨k0, k1, k2, k3, k4, k5, k6, k7, k8, k9, k10, k11, k12, k13, k14, k15⟩, kc, kt, ke⟩ := hd
      simp only [apStd, iopadd, iopmul]
      simp only at ke kt kc
      generalize part8 7 (dig32 0 (num4 a0 a1 a2 a3)) (dig32 1 (num4 a0 a1 a2 a3)) (dig32 2 (num4 a0 a1 a2 a3)) (dig32 3 (num4 a0 a1 a2 a3)) (dig32 4 (num4 a0 a1 a2 a3)) (dig32 5 (num4 a0 a1 a2 a3)) (dig32 6 (num4 a0 a1 a2 a3)) (dig32 7 (num4 a0 a1 a2 a3)) * num4 b0 b1 b2 b3 = P at *
      have hx := dig32_H 7 (num4 a0 a1 a2 a3)
      have hy := dig32_H 2 (num4 b0 b1 b2 b3)
      generalize dig32 7 (num4 a0 a1 a2 a3) = x at *
      generalize dig32 0 (num4 b0 b1 b2 b3) = y0, dig32 1 (num4 b0 b1 b2 b3) = y1, dig32 2 (num4 b0 b1 b2 b3) = y2, dig32 3 (num4 b0 b1 b2 b3) = y3, dig32 4 (num4 b0 b1 b2 b3) = y4, dig32 5 (num4 b0 b1 b2 b3) = y5, dig32 6 (num4 b0 b1 b2 b3) = y6, dig32 7 (num4 b0 b1 b2 b3) = y7 at *
      obtain ⟨t, ht⟩ : ∃ t, t = ((w9 + x * y2 % 18446744073709551616) % 18446744073709551616 + c) % 18446744073709551616 := ⟨_, rfl⟩
      rw [← ht]
      obtain ⟨m0, m1, m2, m3⟩ := mac32 hx hy k9 kc ht rfl rfl
      rw [mask32 m0, shr32]
      generalize t % 4294967296 = l at *
      generalize t / 4294967296 = h at *
      refine ⟨⟨k0, k1, k2, k3, k4, k5, k6, k7, k8, m1, k10, k11, k12, k13, k14, k15⟩, m2, kt, ?_⟩
      rw [show (8 - 6 : Nat) = 2 from rfl, ypart2] at ke
      rw [show (8 - 5 : Nat) = 3 from rfl, ypart3]
      simp only [ph, v16] at ke ⊢
      clear ht m0
      omega
    | 5, _ =>
      obtain ⟨⟨w0, w1, w2, w3, w4, w5, w6, w7, w8, w9, w10, w11, w12, w13, w14, w15⟩, c⟩ := d
      cbv
      cases hA; subst hN; subst hI
      refine ⟨?_, by first | trivial | exact ⟨rfl, trivial⟩⟩
      obtain ⟨⟨k0, k1, k2, k3, k4, k5, k6, k7, k8, k9, k10, k11, k12, k13, k14, k15⟩, kc, kt, ke⟩ := hd
      simp only [apStd, iopadd, iopmul]
      simp only at ke kt kc
      generalize part8 7 (dig32 0 (num4 a0 a1 a2 a3)) (dig32 1 (num4 a0 a1 a2 a3)) (dig32 2 (num4 a0 a1 a2 a3)) (dig32 3 (num4 a0 a1 a2 a3)) (dig32 4 (num4 a0 a1 a2 a3)) (dig32 5 (num4 a0 a1 a2 a3)) (dig32 6 (num4 a0 a1 a2 a3)) (dig32 7 (num4 a0 a1 a2 a3)) * num4 b0 b1 b2 b3 = P at *
      have hx := dig32_H 7 (num4 a0 a1 a2 a3)
      have hy := dig32_H 3 (num4 b0 b1 b2 b3)
      generalize dig32 7 (num4 a0 a1 a2 a3) = x at *
      generalize dig32 0 (num4 b0 b1 b2 b3) = y0, dig32 1 (num4 b0 b1 b2 b3) = y1, dig32 2 (num4 b0 b1 b2 b3) = y2, dig32 3 (num4 b0 b1 b2 b3) = y3, dig32 4 (num4 b0 b1 b2 b3) = y4, dig32 5 (num4 b0 b1 b2 b3) = y5, dig32 6 (num4 b0 b1 b2 b3) = y6, dig32 7 (num4 b0 b1 b2 b3) = y7 at *
      obtain ⟨t, ht⟩ : ∃ t, t = ((w10 + x * y3 % 18446744073709551616) % 18446744073709551616 + c) % 18446744073709551616 := ⟨_, rfl⟩
      rw [← ht]
      obtain ⟨m0, m1, m2, m3⟩ := mac32 hx hy k10 kc ht rfl rfl
      rw [mask32 m0, shr32]
      generalize t % 4294967296 = l at *
      generalize t / 4294967296 = h at *
      refine ⟨⟨k0, k1, k2, k3, k4, k5, k6, k7, k8, k9, m1, k11, k12, k13, k14, k15⟩, m2, kt, ?_⟩
      rw [show (8 - 5 : Nat) = 3 from rfl, ypart3] at ke
      rw [show (8 - 4 : Nat) = 4 from rfl, ypart4]
      simp only [ph, v16] at ke ⊢
      clear ht m0
      omega
    | 4, _ =>
      obtain ⟨⟨w0, w1, w2, w3, w4, w5, w6, w7, w8, w9, w10, w11, w12, w13, w14, w15⟩, c⟩ := d
      cbv
      cases hA; subst hN; subst hI
      refine ⟨?_, by first | trivial | exact ⟨rfl, trivial⟩⟩
      obtain ⟨⟨k0, k1, k2, k3, k4, k5, k6, k7, k8, k9, k10, k11, k12, k13, k14, k15⟩, kc, kt, ke⟩ := hd
      simp only [apStd, iopadd, iopmul]
      simp only at ke kt kc
      generalize part8 7 (dig32 0 (num4 a0 a1 a2 a3)) (dig32 1 (num4 a0 a1 a2 a3)) (dig32 2 (num4 a0 a1 a2 a3)) (dig32 3 (num4 a0 a1 a2 a3)) (dig32 4 (num4 a0 a1 a2 a3)) (dig32 5 (num4 a0 a1 a2 a3)) (dig32 6 (num4 a0 a1 a2 a3)) (dig32 7 (num4 a0 a1 a2 a3)) * num4 b0 b1 b2 b3 = P at *
      have hx := dig32_H 7 (num4 a0 a1 a2 a3)
      have hy := dig32_H 4 (num4 b0 b1 b2 b3)
      generalize dig32 7 (num4 a0 a1 a2 a3) = x at *
      generalize dig32 0 (num4 b0 b1 b2 b3) = y0, dig32 1 (num4 b0 b1 b2 b3) = y1, dig32 2 (num4 b0 b1 b2 b3) = y2, dig32 3 (num4 b0 b1 b2 b3) = y3, dig32 4 (num4 b0 b1 b2 b3) = y4, dig32 5 (num4 b0 b1 b2 b3) = y5, dig32 6 (num4 b0 b1 b2 b3) = y6, dig32 7 (num4 b0 b1 b2 b3) = y7 at *
      obtain ⟨t, ht⟩ : ∃ t, t = ((w11 + x * y4 % 18446744073709551616) % 18446744073709551616 + c) % 18446744073709551616 := ⟨_, rfl⟩
      rw [← ht]
      obtain ⟨m0, m1, m2, m3⟩ := mac32 hx hy k11 kc ht rfl rfl
      rw [mask32 m0, shr32]
      generalize t % 4294967296 = l at *
      generalize t / 4294967296 = h at *
      refine ⟨⟨k0, k1, k2, k3, k4, k5, k6, k7, k8, k9, k10, m1, k12, k13, k14, k15⟩, m2, kt, ?_⟩
      rw [show (8 - 4 : Nat) = 4 from rfl, ypart4] at ke
      rw [show (8 - 3 : Nat) = 5 from rfl, ypart5]
      simp only [ph, v16] at ke ⊢
      clear ht m0
      omega
    | 3, _ =>
      obtain ⟨⟨w0, w1, w2, w3, w4, w5, w6, w7, w8, w9, w10, w11, w12, w13, w14, w15⟩, c⟩ := d
      cbv
      cases hA; subst hN; subst hI
      refine ⟨?_, by first | trivial | exact ⟨rfl, trivial⟩⟩
      obtain ⟨⟨k0, k1, k2, k3, k4, k5, k6, k7, k8, k9, k10, k11, k12, k13, k14, k15⟩, kc, kt, ke⟩ := hd
      simp only [apStd, iopadd, iopmul]
      simp only at ke kt kc
      generalize part8 7 (dig32 0 (num4 a0 a1 a2 a3)) (dig32 1 (num4 a0 a1 a2 a3)) (dig32 2 (num4 a0 a1 a2 a3)) (dig32 3 (num4 a0 a1 a2 a3)) (dig32 4 (num4 a0 a1 a2 a3)) (dig32 5 (num4 a0 a1 a2 a3)) (dig32 6 (num4 a0 a1 a2 a3)) (dig32 7 (num4 a0 a1 a2 a3)) * num4 b0 b1 b2 b3 = P at *
      have hx := dig32_H 7 (num4 a0 a1 a2 a3)
      have hy := dig32_H 5 (num4 b0 b1 b2 b3)
      generalize dig32 7 (num4 a0 a1 a2 a3) = x at *
      generalize dig32 0 (num4 b0 b1 b2 b3) = y0, dig32 1 (num4 b0 b1 b2 b3) = y1, dig32 2 (num4 b0 b1 b2 b3) = y2, dig32 3 (num4 b0 b1 b2 b3) = y3, dig32 4 (num4 b0 b1 b2 b3) = y4, dig32 5 (num4 b0 b1 b2 b3) = y5, dig32 6 (num4 b0 b1 b2 b3) = y6, dig32 7 (num4 b0 b1 b2 b3) = y7 at *
      obtain ⟨t, ht⟩ : ∃ t, t = ((w12 + x * y5 % 18446744073709551616) % 18446744073709551616 + c) % 18446744073709551616 := ⟨_, rfl⟩
      rw [← ht]
      obtain ⟨m0, m1, m2, m3⟩ := mac32 hx hy k12 kc ht rfl rfl
      rw [mask32 m0, shr32]
      generalize t % 4294967296 = l at *
      generalize t / 4294967296 = h at *
      refine ⟨⟨k0, k1, k2, k3, k4, k5, k6, k7, k8, k9, k10, k11, m1, k13, k14, k15⟩, m2, kt, ?_⟩
      rw [show (8 - 3 : Nat) = 5 from rfl, ypart5] at ke
      rw [show (8 - 2 : Nat) = 6 from rfl, ypart6]
      simp only [ph, v16] at ke ⊢
      clear ht m0
      omega
    | 2, _ =>
      obtain ⟨⟨w0, w1, w2, w3, w4, w5, w6, w7, w8, w9, w10, w11, w12, w13, w14, w15⟩, c⟩ := d
      cbv
      cases hA; subst hN; subst hI
      refine ⟨?_, by first | trivial | exact ⟨rfl, trivial⟩⟩
      obtain ⟨⟨k0, k1, k2, k3, k4, k5, k6, k7, k8, k9, k10, k11, k12, k13, k14, k15⟩, kc, kt, ke⟩ := hd
      simp only [apStd, iopadd, iopmul]
      simp only at ke kt kc
      generalize part8 7 (dig32 0 (num4 a0 a1 a2 a3)) (dig32 1 (num4 a0 a1 a2 a3)) (dig32 2 (num4 a0 a1 a2 a3)) (dig32 3 (num4 a0 a1 a2 a3)) (dig32 4 (num4 a0 a1 a2 a3)) (dig32 5 (num4 a0 a1 a2 a3)) (dig32 6 (num4 a0 a1 a2 a3)) (dig32 7 (num4 a0 a1 a2 a3)) * num4 b0 b1 b2 b3 = P at *
      have hx := dig32_H 7 (num4 a0 a1 a2 a3)
      have hy := dig32_H 6 (num4 b0 b1 b2 b3)
      generalize dig32 7 (num4 a0 a1 a2 a3) = x at *
      generalize dig32 0 (num4 b0 b1 b2 b3) = y0, dig32 1 (num4 b0 b1 b2 b3) = y1, dig32 2 (num4 b0 b1 b2 b3) = y2, dig32 3 (num4 b0 b1 b2 b3) = y3, dig32 4 (num4 b0 b1 b2 b3) = y4, dig32 5 (num4 b0 b1 b2 b3) = y5, dig32 6 (num4 b0 b1 b2 b3) = y6, dig32 7 (num4 b0 b1 b2 b3) = y7 at *
      obtain ⟨t, ht⟩ : ∃ t, t = ((w13 + x * y6 % 18446744073709551616) % 18446744073709551616 + c) % 18446744073709551616 := ⟨_, rfl⟩
      rw [← ht]
      obtain ⟨m0, m1, m2, m3⟩ := mac32 hx hy k13 kc ht rfl rfl
      rw [mask32 m0, shr32]
      generalize t % 4294967296 = l at *
      generalize t / 4294967296 = h at *
      refine ⟨⟨k0, k1, k2, k3, k4, k5, k6, k7, k8, k9, k10, k11, k12, m1, k14, k15⟩, m2, kt, ?_⟩
      rw [show (8 - 2 : Nat) = 6 from rfl, ypart6] at ke
      rw [show (8 - 1 : Nat) = 7 from rfl, ypart7]
      simp only [ph, v16] at ke ⊢
      clear ht m0
      omega
    | 1, _ =>
      obtain ⟨⟨w0, w1, w2, w3, w4, w5, w6, w7, w8, w9, w10, w11, w12, w13, w14, w15⟩, c⟩ := d
      cbv
      cases hA; subst hN; subst hI
      refine ⟨?_, by first | trivial | exact ⟨rfl, trivial⟩⟩
      obtain ⟨⟨k0, k1, k2, k3, k4, k5, k6, k7, k8, k9, k10, k11, k12, k13, k14, k15⟩, kc, kt, ke⟩ := hd
      simp only [apStd, iopadd, iopmul]
      simp only at ke kt kc
      generalize part8 7 (dig32 0 (num4 a0 a1 a2 a3)) (dig32 1 (num4 a0 a1 a2 a3)) (dig32 2 (num4 a0 a1 a2 a3)) (dig32 3 (num4 a0 a1 a2 a3)) (dig32 4 (num4 a0 a1 a2 a3)) (dig32 5 (num4 a0 a1 a2 a3)) (dig32 6 (num4 a0 a1 a2 a3)) (dig32 7 (num4 a0 a1 a2 a3)) * num4 b0 b1 b2 b3 = P at *
      have hx := dig32_H 7 (num4 a0 a1 a2 a3)
      have hy := dig32_H 7 (num4 b0 b1 b2 b3)
      generalize dig32 7 (num4 a0 a1 a2 a3) = x at *
      generalize dig32 0 (num4 b0 b1 b2 b3) = y0, dig32 1 (num4 b0 b1 b2 b3) = y1, dig32 2 (num4 b0 b1 b2 b3) = y2, dig32 3 (num4 b0 b1 b2 b3) = y3, dig32 4 (num4 b0 b1 b2 b3) = y4, dig32 5 (num4 b0 b1 b2 b3) = y5, dig32 6 (num4 b0 b1 b2 b3) = y6, dig32 7 (num4 b0 b1 b2 b3) = y7 at *
      obtain ⟨t, ht⟩ : ∃ t, t = ((w14 + x * y7 % 18446744073709551616) % 18446744073709551616 + c) % 18446744073709551616 := ⟨_, rfl⟩
      rw [← ht]
      obtain ⟨m0, m1, m2, m3⟩ := mac32 hx hy k14 kc ht rfl rfl
      rw [mask32 m0, shr32]
      generalize t % 4294967296 = l at *
      generalize t / 4294967296 = h at *
      refine ⟨⟨k0, k1, k2, k3, k4, k5, k6, k7, k8, k9, k10, k11, k12, k13, m1, k15⟩, m2, kt, ?_⟩
      rw [show (8 - 1 : Nat) = 7 from rfl, ypart7] at ke
      rw [show (8 - 0 : Nat) = 8 from rfl, ypart8]
      simp only [ph, v16] at ke ⊢
      clear ht m0
      omega
    | 0, _ =>
      obtain ⟨⟨w0, w1, w2, w3, w4, w5, w6, w7, w8, w9, w10, w11, w12, w13, w14, w15⟩, c⟩ := d
      cbv
      subst hO; subst hI
      refine ⟨?_, by first | trivial | exact ⟨rfl, trivial⟩⟩
      obtain ⟨⟨k0, k1, k2, k3, k4, k5, k6, k7, k8, k9, k10, k11, k12, k13, k14, k15⟩, kc, kt, ke⟩ := hd
      simp only at ke kt kc
      refine ⟨⟨k0, k1, k2, k3, k4, k5, k6, k7, k8, k9, k10, k11, k12, k13, k14, kc⟩, trivial, ?_⟩
      rw [show (8 - 0 : Nat) = 8 from rfl, halves_v hb] at ke
      rw [show (8 - 0 : Nat) = 8 from rfl, Int.mul_comm, ypart8]
      rw [Int.mul_comm (part8 7 (dig32 0 (num4 a0 a1 a2 a3)) (dig32 1 (num4 a0 a1 a2 a3)) (dig32 2 (num4 a0 a1 a2 a3)) (dig32 3 (num4 a0 a1 a2 a3)) (dig32 4 (num4 a0 a1 a2 a3)) (dig32 5 (num4 a0 a1 a2 a3)) (dig32 6 (num4 a0 a1 a2 a3)) (dig32 7 (num4 a0 a1 a2 a3))), ypart7, Int.mul_comm (dig32 7 (num4 a0 a1 a2 a3))] at ke
      simp only [tail16] at kt
      simp only [ph, v16] at ke ⊢
      omega
  | 0, _ =>
    obtain ⟨w0, w1, w2, w3, w4, w5, w6, w7, w8, w9, w10, w11, w12, w13, w14, w15⟩ := d
    cbv
    cases hA; subst hN; subst hO; subst hv
    refine fin_of hK rfl rfl ?_
    obtain ⟨h1, h2, h3⟩ := hd
    rw [show (8 - 0 : Nat) = 8 from rfl, halves_v ha] at h3
    obtain ⟨e0, e1, e2, e3, e4, e5, e6, e7, e8, e9, e10, e11, e12, e13, e14, e15⟩ := dig32_of h1 h3
    simp only [oneTup, SV.num16, ap2, apStd, e0, e1, e2, e3, e4, e5, e6, e7, e8, e9, e10, e11, e12, e13, e14, e15]

theorem con_wide : Con Try.prog 81 (wideF apStd) := by
  refine con_of Try.func81 rfl (by kernel_rfl) (fun args v us hF hv => ?_) (fun args v hF => wideF_ids hF)
  unfold wideF at hF
  split at hF
  · rename_i x y
    split at hF
    · rename_i a b ha hb
      simp only [Prod.mk.injEq, true_and] at hF
      obtain ⟨a0, a1, a2, a3, b0, b1, b2, b3, wa, wb, rfl, rfl, hus⟩ := args_two ha hb hv
      exact ⟨_, _, (good (l := [(90, halvesF apStd)]) (by intro p hp; simp at hp; subst hp; exact con_halves)), rfl, by kernel_rfl, hus, Nat.le_of_ble_eq_true rfl, wide_vc _ _ _ _ _ _ _ _ _ _ _ rfl rfl rfl wa wb v _ rfl hF.symm⟩
    · cases hF
  · cases hF

end Go.Proofs.Ytnhobbdijdbbeaa
