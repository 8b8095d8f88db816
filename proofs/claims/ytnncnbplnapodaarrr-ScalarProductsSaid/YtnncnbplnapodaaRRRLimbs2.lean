/- Walks through the functions of the limbs package. It has no conditions. -/
import Derived.Test.YtnncnbplnapodaaRRRLimbs1
namespace Go.Proofs.YtnncnbplnapodaaRRR
open Go.Eng Go.RowKit
set_option maxRecDepth 1000000
set_option maxHeartbeats 4000000
set_option linter.unusedSimpArgs false
set_option linter.unusedVariables false

theorem iopadd (x y : Int) : iop .add .u64 x y = (x + y) % 18446744073709551616 := IntKind.wrap_u64 _
theorem iopmul (x y : Int) : iop .mul .u64 x y = (x * y) % 18446744073709551616 := IntKind.wrap_u64 _

theorem mul64_vc (A : Ar) (L : LP) (a b : Int) (hL : L = ALoop 0) (hA : A = std) (ha : W a) (hb : W b) (v : SV) (K : Bool → SV → List Blk → Prop) (hK : K = FinP v)
    (hv : v = .tup [.int .u64 (hi64 a b), .int .u64 (lo64 a b)]) :
    afun (cx A L []) Try.f62 [.int .u64 a, .int .u64 b] [] K := by
  obtain ⟨fi, fc, fw, fb, fn, fo, fs, fa, fe, fz, fy, ff, fl⟩ := A
  cbv
  cases hA
  subst hv
  refine fin_sb hK rfl rfl ?_
  have m := fun x (h : W x) => and_mask h 32 (by omega)
  have s := fun x => shr_lit x 32 (by omega)
  simp only [SV.sb, SV.sbs, oneTup, kn, Nat.beq]
  have e1 : ∀ x y, iop .mul .u64 x y = x * y % 18446744073709551616 := fun x y => IntKind.wrap_u64 _
  have e2 : ∀ x y, iop .add .u64 x y = (x + y) % 18446744073709551616 := fun x y => IntKind.wrap_u64 _
  have s' : ∀ x, iop .shr .u64 x 32 = x / 4294967296 := s
  have m' : ∀ x, W x → iop .and .u64 x 4294967295 = x % 4294967296 := m
  have w : ∀ x, W (x % 18446744073709551616) := fun x => by unfold W; omega
  have h := mul64_spec ha hb
  simp only at h
  simp only [s', e1, e2, m' _ ha, m' _ hb, m' _ (w _)]
  exact ⟨⟨trivial, h.symm⟩, ⟨trivial, rfl⟩, trivial⟩

theorem con_mul64 : Con Try.prog 62 (mul64F apStd) := by
  refine con_of Try.func62 rfl (by kernel_rfl) (fun args v us hF hv => ?_) (fun args v hF => mul64F_ids hF)
  unfold mul64F at hF
  split at hF
  · rename_i x y
    split at hF
    · rename_i a b ha hb
      simp only [Prod.mk.injEq, true_and] at hF
      obtain ⟨u, t, rfl, hu, ht⟩ := vals_two hv
      obtain ⟨rfl, wa⟩ := u64_of ha hu
      obtain ⟨rfl, wb⟩ := u64_of hb ht
      exact ⟨_, [.int .u64 a, .int .u64 b], (good (l := []) (by intro p hp; simp at hp)), rfl, by kernel_rfl, by simp [SV.vals, SV.val, W_u64 wa, W_u64 wb], Nat.le_of_ble_eq_true rfl, mul64_vc _ _ _ _ rfl rfl wa wb v _ rfl hF.symm⟩
    · cases hF
  · cases hF

def lit4 : Nat → Int
  | 4 => 0
  | 3 => 1
  | 2 => 2
  | 1 => 3
  | _ => 4

def mulO (a0 a1 a2 a3 b0 b1 b2 b3 : Int) : Nat → D8 → St
  | n, (w0, w1, w2, w3, w4, w5, w6, w7) => ⟨[(2, .ptr 0 0), (3, .ptr 1 0), (4, .ptr 2 0), (5, .ptr 3 0), (6, .ptr 4 0), (16, .agg [.int .u64 a0, .int .u64 a1, .int .u64 a2, .int .u64 a3]), (17, .num .i64 (lit4 n))],
    [⟨.lit [.int .u64 a0, .int .u64 a1, .int .u64 a2, .int .u64 a3], .var⟩, ⟨.lit [.int .u64 b0, .int .u64 b1, .int .u64 b2, .int .u64 b3], .var⟩, ⟨.lit [.num .u64 0, .num .u64 0, .num .u64 0, .num .u64 0], .var⟩,
      ⟨.lit [.num .u64 0, .num .u64 0, .num .u64 0, .num .u64 0], .var⟩, ⟨.lit [.int .u64 w0, .int .u64 w1, .int .u64 w2, .int .u64 w3, .int .u64 w4, .int .u64 w5, .int .u64 w6, .int .u64 w7], .var⟩], true⟩

def mulI (i x a0 a1 a2 a3 b0 b1 b2 b3 : Int) : Nat → D8 × Int → St
  | n, ((w0, w1, w2, w3, w4, w5, w6, w7), c) => ⟨[(2, .ptr 0 0), (3, .ptr 1 0), (4, .ptr 2 0), (5, .ptr 3 0), (6, .ptr 4 0), (16, .agg [.int .u64 a0, .int .u64 a1, .int .u64 a2, .int .u64 a3]), (17, .num .i64 i),
      (7, .num .i64 i), (8, .int .u64 x), (9, .int .u64 c), (21, .agg [.int .u64 b0, .int .u64 b1, .int .u64 b2, .int .u64 b3]), (22, .num .i64 (lit4 n))],
    [⟨.lit [.int .u64 a0, .int .u64 a1, .int .u64 a2, .int .u64 a3], .var⟩, ⟨.lit [.int .u64 b0, .int .u64 b1, .int .u64 b2, .int .u64 b3], .var⟩, ⟨.lit [.num .u64 0, .num .u64 0, .num .u64 0, .num .u64 0], .var⟩,
      ⟨.lit [.num .u64 0, .num .u64 0, .num .u64 0, .num .u64 0], .var⟩, ⟨.lit [.int .u64 w0, .int .u64 w1, .int .u64 w2, .int .u64 w3, .int .u64 w4, .int .u64 w5, .int .u64 w6, .int .u64 w7], .var⟩], true⟩

def ex8 (id : Nat) (S : St) : D8 := (cellI S id 0, cellI S id 1, cellI S id 2, cellI S id 3, cellI S id 4, cellI S id 5, cellI S id 6, cellI S id 7)
def mulEx (S : St) : D8 × Int := (ex8 4 S, slotI S 9)

theorem limbsMul_vc (A : Ar) (L : LP) (N : Ap) (a0 a1 a2 a3 b0 b1 b2 b3 : Int) (hL : L = ALoop 0) (hA : A = std) (hN : N = apStd) (ha : W a0 ∧ W a1 ∧ W a2 ∧ W a3) (hb : W b0 ∧ W b1 ∧ W b2 ∧ W b3) (v : SV) (K : Bool → SV → List Blk → Prop) (hK : K = FinP v)
    (hv : v = .tup [numV apStd (mulm (num4 a0 a1 a2 a3) (num4 b0 b1 b2 b3)), numV apStd (mulh (num4 a0 a1 a2 a3) (num4 b0 b1 b2 b3))]) :
    afun (cx A L [(62, mul64F N), (59, add64F A N)] (dyl [(17, [(73, 4), (75, 4), (77, 4), (79, 4)])])) Try.f25 [wordsV a0 a1 a2 a3, wordsV b0 b1 b2 b3] [] K := by
  obtain ⟨fi, fc, fw, fb, fn, fo, fs, fa, fe, fz, fy, ff, fl⟩ := A
  cbv
  obtain ⟨okO, hO⟩ : ∃ f, f = mulOkO a0 a1 a2 a3 (num4 b0 b1 b2 b3) := ⟨_, rfl⟩
  obtain ⟨ha0, ha1, ha2, ha3⟩ := ha
  obtain ⟨hb0, hb1, hb2, hb3⟩ := hb
  refine lp_ex hL 4 (ex8 4) (mulO a0 a1 a2 a3 b0 b1 b2 b3) okO ?_ ?_ hL (.inr rfl)
  · cbv
    subst hO
    simp [mulOkO, W8, W, tail0, v8, part4]
  intro n hn d hd
  match n, hn with
  | 4, _ =>
    obtain ⟨w0, w1, w2, w3, w4, w5, w6, w7⟩ := d
    cbv
    obtain ⟨okI, hI⟩ : ∃ f, f = mulOkI 0 (part4 0 a0 a1 a2 a3 * num4 b0 b1 b2 b3) a0 b0 b1 b2 b3 := ⟨_, rfl⟩
    refine lp_ex hL 4 mulEx (mulI 0 a0 a0 a1 a2 a3 b0 b1 b2 b3) okI ?_ ?_ hL (.inr rfl)
    · cbv
      subst hO; subst hI
      simp only [mulOkO, mulOkI] at hd ⊢
      refine ⟨⟨hd.1, by unfold W; omega, hd.2.1, ?_⟩, trivial⟩
      rw [show (4 - 4 : Nat) = 0 from rfl, xpart0, hd.2.2]
    clear hd
    intro n hn d hd
    match n, hn with
    | 4, _ =>
      obtain ⟨⟨w0, w1, w2, w3, w4, w5, w6, w7⟩, c⟩ := d
      cbv
      cases hA; subst hN; subst hI
      refine ⟨?_, rfl, trivial⟩
      obtain ⟨⟨k0, k1, k2, k3, k4, k5, k6, k7⟩, kc, kt, ke⟩ := hd
      obtain ⟨l, hl⟩ : ∃ l, l = sum64 (sum64 (lo64 a0 b0) w0 0) c 0 := ⟨_, rfl⟩
      obtain ⟨h, hh⟩ : ∃ h, h = ((hi64 a0 b0 + car64 (lo64 a0 b0) w0 0) % 18446744073709551616 + car64 (sum64 (lo64 a0 b0) w0 0) c 0) % 18446744073709551616 := ⟨_, rfl⟩
      obtain ⟨m1, m2, m3⟩ := mac ha0 hb0 k0 kc hl hh
      simp only [apStd, iopadd]
      rw [← hl, ← hh]
      simp only at ke kt kc
      generalize part4 0 a0 a1 a2 a3 * num4 b0 b1 b2 b3 = P at *
      refine ⟨⟨m1, k1, k2, k3, k4, k5, k6, k7⟩, m2, kt, ?_⟩
      rw [show (4 - 4 : Nat) = 0 from rfl, xpart0] at ke
      rw [show (4 - 3 : Nat) = 1 from rfl, xpart1]
      simp only [pw, v8] at ke ⊢
      clear hl hh
      omega
    | 3, _ =>
      obtain ⟨⟨w0, w1, w2, w3, w4, w5, w6, w7⟩, c⟩ := d
      cbv
      cases hA; subst hN; subst hI
      refine ⟨?_, rfl, trivial⟩
      obtain ⟨⟨k0, k1, k2, k3, k4, k5, k6, k7⟩, kc, kt, ke⟩ := hd
      obtain ⟨l, hl⟩ : ∃ l, l = sum64 (sum64 (lo64 a0 b1) w1 0) c 0 := ⟨_, rfl⟩
      obtain ⟨h, hh⟩ : ∃ h, h = ((hi64 a0 b1 + car64 (lo64 a0 b1) w1 0) % 18446744073709551616 + car64 (sum64 (lo64 a0 b1) w1 0) c 0) % 18446744073709551616 := ⟨_, rfl⟩
      obtain ⟨m1, m2, m3⟩ := mac ha0 hb1 k1 kc hl hh
      simp only [apStd, iopadd]
      rw [← hl, ← hh]
      simp only at ke kt kc
      generalize part4 0 a0 a1 a2 a3 * num4 b0 b1 b2 b3 = P at *
      refine ⟨⟨k0, m1, k2, k3, k4, k5, k6, k7⟩, m2, kt, ?_⟩
      rw [show (4 - 3 : Nat) = 1 from rfl, xpart1] at ke
      rw [show (4 - 2 : Nat) = 2 from rfl, xpart2]
      simp only [pw, v8] at ke ⊢
      clear hl hh
      omega
    | 2, _ =>
      obtain ⟨⟨w0, w1, w2, w3, w4, w5, w6, w7⟩, c⟩ := d
      cbv
      cases hA; subst hN; subst hI
      refine ⟨?_, rfl, trivial⟩
      obtain ⟨⟨k0, k1, k2, k3, k4, k5, k6, k7⟩, kc, kt, ke⟩ := hd
      obtain ⟨l, hl⟩ : ∃ l, l = sum64 (sum64 (lo64 a0 b2) w2 0) c 0 := ⟨_, rfl⟩
      obtain ⟨h, hh⟩ : ∃ h, h = ((hi64 a0 b2 + car64 (lo64 a0 b2) w2 0) % 18446744073709551616 + car64 (sum64 (lo64 a0 b2) w2 0) c 0) % 18446744073709551616 := ⟨_, rfl⟩
      obtain ⟨m1, m2, m3⟩ := mac ha0 hb2 k2 kc hl hh
      simp only [apStd, iopadd]
      rw [← hl, ← hh]
      simp only at ke kt kc
      generalize part4 0 a0 a1 a2 a3 * num4 b0 b1 b2 b3 = P at *
      refine ⟨⟨k0, k1, m1, k3, k4, k5, k6, k7⟩, m2, kt, ?_⟩
      rw [show (4 - 2 : Nat) = 2 from rfl, xpart2] at ke
      rw [show (4 - 1 : Nat) = 3 from rfl, xpart3]
      simp only [pw, v8] at ke ⊢
      clear hl hh
      omega
    | 1, _ =>
      obtain ⟨⟨w0, w1, w2, w3, w4, w5, w6, w7⟩, c⟩ := d
      cbv
      cases hA; subst hN; subst hI
      refine ⟨?_, rfl, trivial⟩
      obtain ⟨⟨k0, k1, k2, k3, k4, k5, k6, k7⟩, kc, kt, ke⟩ := hd
      obtain ⟨l, hl⟩ : ∃ l, l = sum64 (sum64 (lo64 a0 b3) w3 0) c 0 := ⟨_, rfl⟩
      obtain ⟨h, hh⟩ : ∃ h, h = ((hi64 a0 b3 + car64 (lo64 a0 b3) w3 0) % 18446744073709551616 + car64 (sum64 (lo64 a0 b3) w3 0) c 0) % 18446744073709551616 := ⟨_, rfl⟩
      obtain ⟨m1, m2, m3⟩ := mac ha0 hb3 k3 kc hl hh
      simp only [apStd, iopadd]
      rw [← hl, ← hh]
      simp only at ke kt kc
      generalize part4 0 a0 a1 a2 a3 * num4 b0 b1 b2 b3 = P at *
      refine ⟨⟨k0, k1, k2, m1, k4, k5, k6, k7⟩, m2, kt, ?_⟩
      rw [show (4 - 1 : Nat) = 3 from rfl, xpart3] at ke
      rw [show (4 - 0 : Nat) = 4 from rfl, xpart4]
      simp only [pw, v8] at ke ⊢
      clear hl hh
      omega
    | 0, _ =>
      obtain ⟨⟨w0, w1, w2, w3, w4, w5, w6, w7⟩, c⟩ := d
      cbv
      subst hO; subst hI
      refine ⟨?_, trivial⟩
      obtain ⟨⟨k0, k1, k2, k3, k4, k5, k6, k7⟩, kc, kt, ke⟩ := hd
      simp only at ke kt kc
      refine ⟨⟨k0, k1, k2, k3, kc, k5, k6, k7⟩, kt.2, ?_⟩
      rw [show (4 - 0 : Nat) = 4 from rfl] at ke
      rw [show (4 - 3 : Nat) = 1 from rfl, Int.mul_comm, xpart1]
      rw [Int.mul_comm (part4 0 a0 a1 a2 a3), xpart0, show part4 4 b0 b1 b2 b3 = num4 b0 b1 b2 b3 from rfl, Int.mul_comm a0] at ke
      simp only [tail0] at kt
      simp only [pw, v8] at ke ⊢
      omega
  | 3, _ =>
    obtain ⟨w0, w1, w2, w3, w4, w5, w6, w7⟩ := d
    cbv
    obtain ⟨okI, hI⟩ : ∃ f, f = mulOkI 1 (part4 1 a0 a1 a2 a3 * num4 b0 b1 b2 b3) a1 b0 b1 b2 b3 := ⟨_, rfl⟩
    refine lp_ex hL 4 mulEx (mulI 1 a1 a0 a1 a2 a3 b0 b1 b2 b3) okI ?_ ?_ hL (.inr rfl)
    · cbv
      subst hO; subst hI
      simp only [mulOkO, mulOkI] at hd ⊢
      refine ⟨⟨hd.1, by unfold W; omega, hd.2.1, ?_⟩, trivial⟩
      rw [show (4 - 4 : Nat) = 0 from rfl, xpart0, hd.2.2]
    clear hd
    intro n hn d hd
    match n, hn with
    | 4, _ =>
      obtain ⟨⟨w0, w1, w2, w3, w4, w5, w6, w7⟩, c⟩ := d
      cbv
      cases hA; subst hN; subst hI
      refine ⟨?_, rfl, trivial⟩
      obtain ⟨⟨k0, k1, k2, k3, k4, k5, k6, k7⟩, kc, kt, ke⟩ := hd
      obtain ⟨l, hl⟩ : ∃ l, l = sum64 (sum64 (lo64 a1 b0) w1 0) c 0 := ⟨_, rfl⟩
      obtain ⟨h, hh⟩ : ∃ h, h = ((hi64 a1 b0 + car64 (lo64 a1 b0) w1 0) % 18446744073709551616 + car64 (sum64 (lo64 a1 b0) w1 0) c 0) % 18446744073709551616 := ⟨_, rfl⟩
      obtain ⟨m1, m2, m3⟩ := mac ha1 hb0 k1 kc hl hh
      simp only [apStd, iopadd]
      rw [← hl, ← hh]
      simp only at ke kt kc
      generalize part4 1 a0 a1 a2 a3 * num4 b0 b1 b2 b3 = P at *
      refine ⟨⟨k0, m1, k2, k3, k4, k5, k6, k7⟩, m2, kt, ?_⟩
      rw [show (4 - 4 : Nat) = 0 from rfl, xpart0] at ke
      rw [show (4 - 3 : Nat) = 1 from rfl, xpart1]
      simp only [pw, v8] at ke ⊢
      clear hl hh
      omega
    | 3, _ =>
      obtain ⟨⟨w0, w1, w2, w3, w4, w5, w6, w7⟩, c⟩ := d
      cbv
      cases hA; subst hN; subst hI
      refine ⟨?_, rfl, trivial⟩
      obtain ⟨⟨k0, k1, k2, k3, k4, k5, k6, k7⟩, kc, kt, ke⟩ := hd
      obtain ⟨l, hl⟩ : ∃ l, l = sum64 (sum64 (lo64 a1 b1) w2 0) c 0 := ⟨_, rfl⟩
      obtain ⟨h, hh⟩ : ∃ h, h = ((hi64 a1 b1 + car64 (lo64 a1 b1) w2 0) % 18446744073709551616 + car64 (sum64 (lo64 a1 b1) w2 0) c 0) % 18446744073709551616 := ⟨_, rfl⟩
      obtain ⟨m1, m2, m3⟩ := mac ha1 hb1 k2 kc hl hh
      simp only [apStd, iopadd]
      rw [← hl, ← hh]
      simp only at ke kt kc
      generalize part4 1 a0 a1 a2 a3 * num4 b0 b1 b2 b3 = P at *
      refine ⟨⟨k0, k1, m1, k3, k4, k5, k6, k7⟩, m2, kt, ?_⟩
      rw [show (4 - 3 : Nat) = 1 from rfl, xpart1] at ke
      rw [show (4 - 2 : Nat) = 2 from rfl, xpart2]
      simp only [pw, v8] at ke ⊢
      clear hl hh
      omega
    | 2, _ =>
      obtain ⟨⟨w0, w1, w2, w3, w4, w5, w6, w7⟩, c⟩ := d
      cbv
      cases hA; subst hN; subst hI
      refine ⟨?_, rfl, trivial⟩
      obtain ⟨⟨k0, k1, k2, k3, k4, k5, k6, k7⟩, kc, kt, ke⟩ := hd
      obtain ⟨l, hl⟩ : ∃ l, l = sum64 (sum64 (lo64 a1 b2) w3 0) c 0 := ⟨_, rfl⟩
      obtain ⟨h, hh⟩ : ∃ h, h = ((hi64 a1 b2 + car64 (lo64 a1 b2) w3 0) % 18446744073709551616 + car64 (sum64 (lo64 a1 b2) w3 0) c 0) % 18446744073709551616 := ⟨_, rfl⟩
      obtain ⟨m1, m2, m3⟩ := mac ha1 hb2 k3 kc hl hh
      simp only [apStd, iopadd]
      rw [← hl, ← hh]
      simp only at ke kt kc
      generalize part4 1 a0 a1 a2 a3 * num4 b0 b1 b2 b3 = P at *
      refine ⟨⟨k0, k1, k2, m1, k4, k5, k6, k7⟩, m2, kt, ?_⟩
      rw [show (4 - 2 : Nat) = 2 from rfl, xpart2] at ke
      rw [show (4 - 1 : Nat) = 3 from rfl, xpart3]
      simp only [pw, v8] at ke ⊢
      clear hl hh
      omega
    | 1, _ =>
      obtain ⟨⟨w0, w1, w2, w3, w4, w5, w6, w7⟩, c⟩ := d
      cbv
      cases hA; subst hN; subst hI
      refine ⟨?_, rfl, trivial⟩
      obtain ⟨⟨k0, k1, k2, k3, k4, k5, k6, k7⟩, kc, kt, ke⟩ := hd
      obtain ⟨l, hl⟩ : ∃ l, l = sum64 (sum64 (lo64 a1 b3) w4 0) c 0 := ⟨_, rfl⟩
      obtain ⟨h, hh⟩ : ∃ h, h = ((hi64 a1 b3 + car64 (lo64 a1 b3) w4 0) % 18446744073709551616 + car64 (sum64 (lo64 a1 b3) w4 0) c 0) % 18446744073709551616 := ⟨_, rfl⟩
      obtain ⟨m1, m2, m3⟩ := mac ha1 hb3 k4 kc hl hh
      simp only [apStd, iopadd]
      rw [← hl, ← hh]
      simp only at ke kt kc
      generalize part4 1 a0 a1 a2 a3 * num4 b0 b1 b2 b3 = P at *
      refine ⟨⟨k0, k1, k2, k3, m1, k5, k6, k7⟩, m2, kt, ?_⟩
      rw [show (4 - 1 : Nat) = 3 from rfl, xpart3] at ke
      rw [show (4 - 0 : Nat) = 4 from rfl, xpart4]
      simp only [pw, v8] at ke ⊢
      clear hl hh
      omega
    | 0, _ =>
      obtain ⟨⟨w0, w1, w2, w3, w4, w5, w6, w7⟩, c⟩ := d
      cbv
      subst hO; subst hI
      refine ⟨?_, trivial⟩
      obtain ⟨⟨k0, k1, k2, k3, k4, k5, k6, k7⟩, kc, kt, ke⟩ := hd
      simp only at ke kt kc
      refine ⟨⟨k0, k1, k2, k3, k4, kc, k6, k7⟩, kt.2, ?_⟩
      rw [show (4 - 0 : Nat) = 4 from rfl] at ke
      rw [show (4 - 2 : Nat) = 2 from rfl, Int.mul_comm, xpart2]
      rw [Int.mul_comm (part4 1 a0 a1 a2 a3), xpart1, show part4 4 b0 b1 b2 b3 = num4 b0 b1 b2 b3 from rfl, Int.mul_comm a1] at ke
      simp only [tail0] at kt
      simp only [pw, v8] at ke ⊢
      omega
  | 2, _ =>
    obtain ⟨w0, w1, w2, w3, w4, w5, w6, w7⟩ := d
    cbv
    obtain ⟨okI, hI⟩ : ∃ f, f = mulOkI 2 (part4 2 a0 a1 a2 a3 * num4 b0 b1 b2 b3) a2 b0 b1 b2 b3 := ⟨_, rfl⟩
    refine lp_ex hL 4 mulEx (mulI 2 a2 a0 a1 a2 a3 b0 b1 b2 b3) okI ?_ ?_ hL (.inr rfl)
    · cbv
      subst hO; subst hI
      simp only [mulOkO, mulOkI] at hd ⊢
      refine ⟨⟨hd.1, by unfold W; omega, hd.2.1, ?_⟩, trivial⟩
      rw [show (4 - 4 : Nat) = 0 from rfl, xpart0, hd.2.2]
    clear hd
    intro n hn d hd
    match n, hn with
    | 4, _ =>
      obtain ⟨⟨w0, w1, w2, w3, w4, w5, w6, w7⟩, c⟩ := d
      cbv
      cases hA; subst hN; subst hI
      refine ⟨?_, rfl, trivial⟩
      obtain ⟨⟨k0, k1, k2, k3, k4, k5, k6, k7⟩, kc, kt, ke⟩ := hd
      obtain ⟨l, hl⟩ : ∃ l, l = sum64 (sum64 (lo64 a2 b0) w2 0) c 0 := ⟨_, rfl⟩
      obtain ⟨h, hh⟩ : ∃ h, h = ((hi64 a2 b0 + car64 (lo64 a2 b0) w2 0) % 18446744073709551616 + car64 (sum64 (lo64 a2 b0) w2 0) c 0) % 18446744073709551616 := ⟨_, rfl⟩
      obtain ⟨m1, m2, m3⟩ := mac ha2 hb0 k2 kc hl hh
      simp only [apStd, iopadd]
      rw [← hl, ← hh]
      simp only at ke kt kc
      generalize part4 2 a0 a1 a2 a3 * num4 b0 b1 b2 b3 = P at *
      refine ⟨⟨k0, k1, m1, k3, k4, k5, k6, k7⟩, m2, kt, ?_⟩
      rw [show (4 - 4 : Nat) = 0 from rfl, xpart0] at ke
      rw [show (4 - 3 : Nat) = 1 from rfl, xpart1]
      simp only [pw, v8] at ke ⊢
      clear hl hh
      omega
    | 3, _ =>
      obtain ⟨⟨w0, w1, w2, w3, w4, w5, w6, w7⟩, c⟩ := d
      cbv
      cases hA; subst hN; subst hI
      refine ⟨?_, rfl, trivial⟩
      obtain ⟨⟨k0, k1, k2, k3, k4, k5, k6, k7⟩, kc, kt, ke⟩ := hd
      obtain ⟨l, hl⟩ : ∃ l, l = sum64 (sum64 (lo64 a2 b1) w3 0) c 0 := ⟨_, rfl⟩
      obtain ⟨h, hh⟩ : ∃ h, h = ((hi64 a2 b1 + car64 (lo64 a2 b1) w3 0) % 18446744073709551616 + car64 (sum64 (lo64 a2 b1) w3 0) c 0) % 18446744073709551616 := ⟨_, rfl⟩
      obtain ⟨m1, m2, m3⟩ := mac ha2 hb1 k3 kc hl hh
      simp only [apStd, iopadd]
      rw [← hl, ← hh]
      simp only at ke kt kc
      generalize part4 2 a0 a1 a2 a3 * num4 b0 b1 b2 b3 = P at *
      refine ⟨⟨k0, k1, k2, m1, k4, k5, k6, k7⟩, m2, kt, ?_⟩
      rw [show (4 - 3 : Nat) = 1 from rfl, xpart1] at ke
      rw [show (4 - 2 : Nat) = 2 from rfl, xpart2]
      simp only [pw, v8] at ke ⊢
      clear hl hh
      omega
    | 2, _ =>
      obtain ⟨⟨w0, w1, w2, w3, w4, w5, w6, w7⟩, c⟩ := d
      cbv
      cases hA; subst hN; subst hI
      refine ⟨?_, rfl, trivial⟩
      obtain ⟨⟨k0, k1, k2, k3, k4, k5, k6, k7⟩, kc, kt, ke⟩ := hd
      obtain ⟨l, hl⟩ : ∃ l, l = sum64 (sum64 (lo64 a2 b2) w4 0) c 0 := ⟨_, rfl⟩
      obtain ⟨h, hh⟩ : ∃ h, h = ((hi64 a2 b2 + car64 (lo64 a2 b2) w4 0) % 18446744073709551616 + car64 (sum64 (lo64 a2 b2) w4 0) c 0) % 18446744073709551616 := ⟨_, rfl⟩
      obtain ⟨m1, m2, m3⟩ := mac ha2 hb2 k4 kc hl hh
      simp only [apStd, iopadd]
      rw [← hl, ← hh]
      simp only at ke kt kc
      generalize part4 2 a0 a1 a2 a3 * num4 b0 b1 b2 b3 = P at *
      refine ⟨⟨k0, k1, k2, k3, m1, k5, k6, k7⟩, m2, kt, ?_⟩
      rw [show (4 - 2 : Nat) = 2 from rfl, xpart2] at ke
      rw [show (4 - 1 : Nat) = 3 from rfl, xpart3]
      simp only [pw, v8] at ke ⊢
      clear hl hh
      omega
    | 1, _ =>
      obtain ⟨⟨w0, w1, w2, w3, w4, w5, w6, w7⟩, c⟩ := d
      cbv
      cases hA; subst hN; subst hI
      refine ⟨?_, rfl, trivial⟩
      obtain ⟨⟨k0, k1, k2, k3, k4, k5, k6, k7⟩, kc, kt, ke⟩ := hd
      obtain ⟨l, hl⟩ : ∃ l, l = sum64 (sum64 (lo64 a2 b3) w5 0) c 0 := ⟨_, rfl⟩
      obtain ⟨h, hh⟩ : ∃ h, h = ((hi64 a2 b3 + car64 (lo64 a2 b3) w5 0) % 18446744073709551616 + car64 (sum64 (lo64 a2 b3) w5 0) c 0) % 18446744073709551616 := ⟨_, rfl⟩
      obtain ⟨m1, m2, m3⟩ := mac ha2 hb3 k5 kc hl hh
      simp only [apStd, iopadd]
      rw [← hl, ← hh]
      simp only at ke kt kc
      generalize part4 2 a0 a1 a2 a3 * num4 b0 b1 b2 b3 = P at *
      refine ⟨⟨k0, k1, k2, k3, k4, m1, k6, k7⟩, m2, kt, ?_⟩
      rw [show (4 - 1 : Nat) = 3 from rfl, xpart3] at ke
      rw [show (4 - 0 : Nat) = 4 from rfl, xpart4]
      simp only [pw, v8] at ke ⊢
      clear hl hh
      omega
    | 0, _ =>
      obtain ⟨⟨w0, w1, w2, w3, w4, w5, w6, w7⟩, c⟩ := d
      cbv
      subst hO; subst hI
      refine ⟨?_, trivial⟩
      obtain ⟨⟨k0, k1, k2, k3, k4, k5, k6, k7⟩, kc, kt, ke⟩ := hd
      simp only at ke kt kc
      refine ⟨⟨k0, k1, k2, k3, k4, k5, kc, k7⟩, kt.2, ?_⟩
      rw [show (4 - 0 : Nat) = 4 from rfl] at ke
      rw [show (4 - 1 : Nat) = 3 from rfl, Int.mul_comm, xpart3]
      rw [Int.mul_comm (part4 2 a0 a1 a2 a3), xpart2, show part4 4 b0 b1 b2 b3 = num4 b0 b1 b2 b3 from rfl, Int.mul_comm a2] at ke
      simp only [tail0] at kt
      simp only [pw, v8] at ke ⊢
      omega
  | 1, _ =>
    obtain ⟨w0, w1, w2, w3, w4, w5, w6, w7⟩ := d
    cbv
    obtain ⟨okI, hI⟩ : ∃ f, f = mulOkI 3 (part4 3 a0 a1 a2 a3 * num4 b0 b1 b2 b3) a3 b0 b1 b2 b3 := ⟨_, rfl⟩
    refine lp_ex hL 4 mulEx (mulI 3 a3 a0 a1 a2 a3 b0 b1 b2 b3) okI ?_ ?_ hL (.inr rfl)
    · cbv
      subst hO; subst hI
      simp only [mulOkO, mulOkI] at hd ⊢
      refine ⟨⟨hd.1, by unfold W; omega, hd.2.1, ?_⟩, trivial⟩
      rw [show (4 - 4 : Nat) = 0 from rfl, xpart0, hd.2.2]
    clear hd
    intro n hn d hd
    match n, hn with
    | 4, _ =>
      obtain ⟨⟨w0, w1, w2, w3, w4, w5, w6, w7⟩, c⟩ := d
      cbv
      cases hA; subst hN; subst hI
      refine ⟨?_, rfl, trivial⟩
      obtain ⟨⟨k0, k1, k2, k3, k4, k5, k6, k7⟩, kc, kt, ke⟩ := hd
      obtain ⟨l, hl⟩ : ∃ l, l = sum64 (sum64 (lo64 a3 b0) w3 0) c 0 := ⟨_, rfl⟩
      obtain ⟨h, hh⟩ : ∃ h, h = ((hi64 a3 b0 + car64 (lo64 a3 b0) w3 0) % 18446744073709551616 + car64 (sum64 (lo64 a3 b0) w3 0) c 0) % 18446744073709551616 := ⟨_, rfl⟩
      obtain ⟨m1, m2, m3⟩ := mac ha3 hb0 k3 kc hl hh
      simp only [apStd, iopadd]
      rw [← hl, ← hh]
      simp only at ke kt kc
      generalize part4 3 a0 a1 a2 a3 * num4 b0 b1 b2 b3 = P at *
      refine ⟨⟨k0, k1, k2, m1, k4, k5, k6, k7⟩, m2, kt, ?_⟩
      rw [show (4 - 4 : Nat) = 0 from rfl, xpart0] at ke
      rw [show (4 - 3 : Nat) = 1 from rfl, xpart1]
      simp only [pw, v8] at ke ⊢
      clear hl hh
      omega
    | 3, _ =>
      obtain ⟨⟨w0, w1, w2, w3, w4, w5, w6, w7⟩, c⟩ := d
      cbv
      cases hA; subst hN; subst hI
      refine ⟨?_, rfl, trivial⟩
      obtain ⟨⟨k0, k1, k2, k3, k4, k5, k6, k7⟩, kc, kt, ke⟩ := hd
      obtain ⟨l, hl⟩ : ∃ l, l = sum64 (sum64 (lo64 a3 b1) w4 0) c 0 := ⟨_, rfl⟩
      obtain ⟨h, hh⟩ : ∃ h, h = ((hi64 a3 b1 + car64 (lo64 a3 b1) w4 0) % 18446744073709551616 + car64 (sum64 (lo64 a3 b1) w4 0) c 0) % 18446744073709551616 := ⟨_, rfl⟩
      obtain ⟨m1, m2, m3⟩ := mac ha3 hb1 k4 kc hl hh
      simp only [apStd, iopadd]
      rw [← hl, ← hh]
      simp only at ke kt kc
      generalize part4 3 a0 a1 a2 a3 * num4 b0 b1 b2 b3 = P at *
      refine ⟨⟨k0, k1, k2, k3, m1, k5, k6, k7⟩, m2, kt, ?_⟩
      rw [show (4 - 3 : Nat) = 1 from rfl, xpart1] at ke
      rw [show (4 - 2 : Nat) = 2 from rfl, xpart2]
      simp only [pw, v8] at ke ⊢
      clear hl hh
      omega
    | 2, _ =>
      obtain ⟨⟨w0, w1, w2, w3, w4, w5, w6, w7⟩, c⟩ := d
      cbv
      cases hA; subst hN; subst hI
      refine ⟨?_, rfl, trivial⟩
      obtain ⟨⟨k0, k1, k2, k3, k4, k5, k6, k7⟩, kc, kt, ke⟩ := hd
      obtain ⟨l, hl⟩ : ∃ l, l = sum64 (sum64 (lo64 a3 b2) w5 0) c 0 := ⟨_, rfl⟩
      obtain ⟨h, hh⟩ : ∃ h, h = ((hi64 a3 b2 + car64 (lo64 a3 b2) w5 0) % 18446744073709551616 + car64 (sum64 (lo64 a3 b2) w5 0) c 0) % 18446744073709551616 := ⟨_, rfl⟩
      obtain ⟨m1, m2, m3⟩ := mac ha3 hb2 k5 kc hl hh
      simp only [apStd, iopadd]
      rw [← hl, ← hh]
      simp only at ke kt kc
      generalize part4 3 a0 a1 a2 a3 * num4 b0 b1 b2 b3 = P at *
      refine ⟨⟨k0, k1, k2, k3, k4, m1, k6, k7⟩, m2, kt, ?_⟩
      rw [show (4 - 2 : Nat) = 2 from rfl, xpart2] at ke
      rw [show (4 - 1 : Nat) = 3 from rfl, xpart3]
      simp only [pw, v8] at ke ⊢
      clear hl hh
      omega
    | 1, _ =>
      obtain ⟨⟨w0, w1, w2, w3, w4, w5, w6, w7⟩, c⟩ := d
      cbv
      cases hA; subst hN; subst hI
      refine ⟨?_, rfl, trivial⟩
      obtain ⟨⟨k0, k1, k2, k3, k4, k5, k6, k7⟩, kc, kt, ke⟩ := hd
      obtain ⟨l, hl⟩ : ∃ l, l = sum64 (sum64 (lo64 a3 b3) w6 0) c 0 := ⟨_, rfl⟩
      obtain ⟨h, hh⟩ : ∃ h, h = ((hi64 a3 b3 + car64 (lo64 a3 b3) w6 0) % 18446744073709551616 + car64 (sum64 (lo64 a3 b3) w6 0) c 0) % 18446744073709551616 := ⟨_, rfl⟩
      obtain ⟨m1, m2, m3⟩ := mac ha3 hb3 k6 kc hl hh
      simp only [apStd, iopadd]
      rw [← hl, ← hh]
      simp only at ke kt kc
      generalize part4 3 a0 a1 a2 a3 * num4 b0 b1 b2 b3 = P at *
      refine ⟨⟨k0, k1, k2, k3, k4, k5, m1, k7⟩, m2, kt, ?_⟩
      rw [show (4 - 1 : Nat) = 3 from rfl, xpart3] at ke
      rw [show (4 - 0 : Nat) = 4 from rfl, xpart4]
      simp only [pw, v8] at ke ⊢
      clear hl hh
      omega
    | 0, _ =>
      obtain ⟨⟨w0, w1, w2, w3, w4, w5, w6, w7⟩, c⟩ := d
      cbv
      subst hO; subst hI
      refine ⟨?_, trivial⟩
      obtain ⟨⟨k0, k1, k2, k3, k4, k5, k6, k7⟩, kc, kt, ke⟩ := hd
      simp only at ke kt kc
      refine ⟨⟨k0, k1, k2, k3, k4, k5, k6, kc⟩, trivial, ?_⟩
      rw [show (4 - 0 : Nat) = 4 from rfl] at ke
      rw [show (4 - 0 : Nat) = 4 from rfl, Int.mul_comm, xpart4]
      rw [Int.mul_comm (part4 3 a0 a1 a2 a3), xpart3, show part4 4 b0 b1 b2 b3 = num4 b0 b1 b2 b3 from rfl, Int.mul_comm a3] at ke
      simp only [tail0] at kt
      simp only [pw, v8] at ke ⊢
      omega
  | 0, _ =>
    obtain ⟨w0, w1, w2, w3, w4, w5, w6, w7⟩ := d
    cbv
    cases hA; subst hN; subst hO; subst hv
    refine fin_of hK rfl rfl ?_
    obtain ⟨h1, h2, h3⟩ := hd
    obtain ⟨⟨e0, e1, e2, e3⟩, e4, e5, e6, e7⟩ := mul_out h1 h3
    have e : part4 (4 - 0) a0 a1 a2 a3 = num4 a0 a1 a2 a3 := rfl
    rw [e] at e0 e1 e2 e3 e4 e5 e6 e7
    simp only [oneTup, numV, ap1, apStd, e0, e1, e2, e3, e4, e5, e6, e7]

theorem con_limbsMul : Con Try.prog 25 (mulF apStd) := by
  refine con_of Try.func25 rfl (by kernel_rfl) (fun args v us hF hv => ?_) (fun args v hF => mulF_ids hF)
  unfold mulF at hF
  split at hF
  · rename_i x y
    split at hF
    · rename_i a b ha hb
      simp only [Prod.mk.injEq, true_and] at hF
      obtain ⟨a0, a1, a2, a3, b0, b1, b2, b3, wa, wb, rfl, rfl, hus⟩ := args_two ha hb hv
      exact ⟨_, _, (goodd (l := [(62, mul64F apStd), (59, add64F std apStd)]) (dyl [(17, [(73, 4), (75, 4), (77, 4), (79, 4)])]) (by intro p hp; simp at hp; rcases hp with rfl | rfl <;> first | exact con_mul64 | exact con_add64)), rfl, by kernel_rfl, hus, Nat.le_of_ble_eq_true rfl, limbsMul_vc _ _ _ _ _ _ _ _ _ _ _ rfl rfl rfl wa wb v _ rfl hF.symm⟩
    · cases hF
  · cases hF

end Go.Proofs.YtnncnbplnapodaaRRR
