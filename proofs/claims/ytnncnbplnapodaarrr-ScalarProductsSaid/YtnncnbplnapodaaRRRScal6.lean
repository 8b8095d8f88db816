/- Walks through the reference's number of 64 bytes modulo the order. It has no conditions. -/
import Derived.Test.YtnncnbplnapodaaRRRScal4
import Derived.Test.YtnncnbplnapodaaRRRNum7
namespace Go.Proofs.YtnncnbplnapodaaRRR
open Go.Eng Go.RowKit
set_option maxRecDepth 1000000
set_option maxHeartbeats 4000000
set_option exponentiation.threshold 600
set_option linter.unusedSimpArgs false
set_option linter.unusedVariables false

theorem pow2_pos (n : Nat) : (0 : Int) < 2 ^ n := Int.pow_pos (by decide)

theorem low_bit (m : Int) (j : Nat) (hj : j < 64) : m % 18446744073709551616 / 2 ^ j % 2 = m / 2 ^ j % 2 := by
  have e : (18446744073709551616 : Int) = 2 ^ j * (2 * 2 ^ (63 - j)) := by
    rw [← Int.mul_assoc, ← Int.pow_succ, ← Int.pow_add, show j + 1 + (63 - j) = 64 by omega]; rfl
  have h := Int.emod_add_mul_ediv m 18446744073709551616
  have h2 : m = m % 18446744073709551616 + 2 ^ j * (2 * (2 ^ (63 - j) * (m / 18446744073709551616))) := by
    rw [← Int.mul_assoc 2, ← Int.mul_assoc (2 ^ j), ← e]; exact h.symm
  have h3 : m / 2 ^ j = m % 18446744073709551616 / 2 ^ j + 2 * (2 ^ (63 - j) * (m / 18446744073709551616)) := by
    conv => lhs; rw [h2]
    rw [Int.add_mul_ediv_left _ _ (by have := pow2_pos j; omega)]
  rw [h3, Int.add_mul_emod_self_left]

theorem bit_num (n : Int) (i : Nat) (hi : i < 256) : bitB n (i : Int) = decide (n / 2 ^ i % 2 = 1) := by
  unfold bitB
  have h0 : decide ((0 : Int) ≤ (i : Int)) = true := by simp
  have h1 : decide ((i : Int) < 256) = true := by simp; omega
  rw [h0, h1, Bool.true_and, Bool.true_and, Int.toNat_natCast]
  have hd := Nat.div_add_mod i 64
  have hm := Nat.mod_lt i (show 64 > 0 by decide)
  have key : ∀ k : Nat, i / 64 = k → n / 2 ^ i = n / 2 ^ (64 * k) / 2 ^ (i % 64) := fun k hk => by
    rw [Int.ediv_ediv_of_nonneg (by have := pow2_pos (64 * k); omega), ← Int.pow_add]
    congr 2; omega
  have : i / 64 = 0 ∨ i / 64 = 1 ∨ i / 64 = 2 ∨ i / 64 = 3 := by omega
  rcases this with h | h | h | h
  · rw [key 0 h, h]; show decide (l0 n / 2 ^ (i % 64) % 2 = 1) = _
    unfold l0; rw [low_bit _ _ hm, Nat.mul_zero, Int.pow_zero, Int.ediv_one]
  · rw [key 1 h, h]; show decide (l1 n / 2 ^ (i % 64) % 2 = 1) = _
    unfold l1; rw [low_bit _ _ hm]; rfl
  · rw [key 2 h, h]; show decide (l2 n / 2 ^ (i % 64) % 2 = 1) = _
    unfold l2; rw [low_bit _ _ hm]; rfl
  · rw [key 3 h, h]; show decide (l3 n / 2 ^ (i % 64) % 2 = 1) = _
    unfold l3; rw [low_bit _ _ hm]; rfl

theorem wide_low {b c : Int} (n : Nat) (hn : n < 256) : (b + M256 * c) / 2 ^ n % 2 = b / 2 ^ n % 2 := by
  have e : M256 = 2 ^ n * (2 * 2 ^ (255 - n)) := by
    rw [← Int.mul_assoc, ← Int.pow_succ, ← Int.pow_add, show n + 1 + (255 - n) = 256 by omega]; rfl
  rw [e, Int.mul_assoc, Int.add_mul_ediv_left _ _ (by have := pow2_pos n; omega), Int.mul_assoc, Int.add_mul_emod_self_left]

theorem wide_high {b c : Int} (hb : 0 ≤ b ∧ b < M256) (n : Nat) (hn : 256 ≤ n) : (b + M256 * c) / 2 ^ n = c / 2 ^ (n - 256) := by
  have e : (2 : Int) ^ n = M256 * 2 ^ (n - 256) := by
    have : (M256 : Int) = 2 ^ 256 := rfl
    rw [this, ← Int.pow_add]; congr 1; omega
  rw [e, ← Int.ediv_ediv_of_nonneg (by decide), Int.add_mul_ediv_left _ _ (by decide), Int.ediv_eq_zero_of_lt hb.1 hb.2, Int.zero_add]

theorem wide_step {x r t s : Int} {n : Nat} (hr : r = x / 2 ^ (n + 1) % qN) (hr0 : 0 ≤ r ∧ r < M256) (ht : t = saddN qN r r) (b : Bool) (hb : b = decide (x / 2 ^ n % 2 = 1)) (hs : s = if b then saddN qN t 1 else t) : s = x / 2 ^ n % qN := by
  have e : x / 2 ^ n = 2 * (x / 2 ^ (n + 1)) + x / 2 ^ n % 2 := by
    rw [Int.pow_succ, ← Int.ediv_ediv_of_nonneg (by have := pow2_pos n; omega)]
    omega
  have q0 : (0 : Int) < qN := by decide
  have h1 : t = (2 * (x / 2 ^ (n + 1))) % qN := by
    rw [ht, sadd_eq (.inl rfl) hr0 hr0, hr, ← Int.add_emod, Int.two_mul]
  have rt : 0 ≤ t ∧ t < M256 := by
    have h2 := Int.emod_nonneg (2 * (x / 2 ^ (n + 1))) (show qN ≠ 0 by decide)
    have h3 := Int.emod_lt_of_pos (2 * (x / 2 ^ (n + 1))) q0
    have h4 : qN < M256 := by decide
    rw [h1]; exact ⟨h2, by omega⟩
  have hm : x / 2 ^ n % 2 = 0 ∨ x / 2 ^ n % 2 = 1 := by omega
  rcases hm with hm | hm
  · have hb' : b = false := by rw [hb, hm]; rfl
    rw [hs, hb', e, hm, Int.add_zero]; exact h1
  · have hb' : b = true := by rw [hb, hm]; rfl
    rw [hs, hb', if_pos rfl, sadd_eq (.inl rfl) rt (by decide), h1, e, hm, Int.emod_add_emod]

def wideH (b0 b1 b2 b3 c0 c1 c2 c3 : Int) : Nat → (Int × Int × Int × Int) × Int → St
  | _, ((r0, r1, r2, r3), i) => ⟨[(2, .ptr 0 0), (3, .ptr 1 0), (4, .ptr 2 0), (5, .ptr 3 0), (6, .int .i64 i)],
    [⟨.lit [.int .u64 b0, .int .u64 b1, .int .u64 b2, .int .u64 b3], .var⟩, ⟨.lit [.int .u64 c0, .int .u64 c1, .int .u64 c2, .int .u64 c3], .var⟩, ⟨.lit [.num .u64 0, .num .u64 0, .num .u64 0, .num .u64 0], .var⟩,
      ⟨.lit [.int .u64 r0, .int .u64 r1, .int .u64 r2, .int .u64 r3], .var⟩], true⟩
def wideEx2 (S : St) : (Int × Int × Int × Int) × Int := ((cellI S 3 0, cellI S 3 1, cellI S 3 2, cellI S 3 3), slotI S 6)

def wideOk (x : Int) (n : Nat) (d : (Int × Int × Int × Int) × Int) : Prop := (match d.1 with
  | (r0, r1, r2, r3) => (W r0 ∧ W r1 ∧ W r2 ∧ W r3) ∧ num4 r0 r1 r2 r3 = x / 2 ^ n % qN) ∧ d.2 = (n : Int) - 1

theorem rwide_vc (A : Ar) (L : LP) (N : Ap) (Q : Int) (b0 b1 b2 b3 c0 c1 c2 c3 : Int) (hL : L = ALoop 0) (hA : A = std) (hN : N = apStd) (hQ : Q = qN) (hb : W b0 ∧ W b1 ∧ W b2 ∧ W b3) (hc : W c0 ∧ W c1 ∧ W c2 ∧ W c3) (v : SV) (K : Bool → SV → List Blk → Prop) (hK : K = FinP v)
    (hv : v = numV apStd ((num4 b0 b1 b2 b3 + M256 * num4 c0 c1 c2 c3) % qN)) :
    Shut (afun (cx A L [(42, sadd N Q), (32, bitF N), (72, smallF N)]) Try.f67 [wordsV b0 b1 b2 b3, wordsV c0 c1 c2 c3] [] K) := by
  obtain ⟨fi, fc, fw, fb, fn, fo, fs, fa, fe, fz, fy, ff, fl⟩ := A
  obtain ⟨ok, hk⟩ : ∃ f, f = wideOk (num4 b0 b1 b2 b3 + M256 * num4 c0 c1 c2 c3) := ⟨_, rfl⟩
  have rb := num4_range hb.1 hb.2.1 hb.2.2.1 hb.2.2.2
  have rc := num4_range hc.1 hc.2.1 hc.2.2.1 hc.2.2.2
  have rx : 0 ≤ num4 b0 b1 b2 b3 + M256 * num4 c0 c1 c2 c3 ∧ num4 b0 b1 b2 b3 + M256 * num4 c0 c1 c2 c3 < 2 ^ 512 := by
    have h := mul_range (x := M256) (y := num4 c0 c1 c2 c3) (a := M256) (b := M256 - 1) (by decide) ⟨rc.1, by omega⟩
    have h2 : M256 * (M256 - 1) + M256 = 2 ^ 512 := by decide
    omega
  apply Shut.mk
  cbv
  refine lp_ex hL 512 wideEx2 (wideH b0 b1 b2 b3 c0 c1 c2 c3) ok ?_ ?_ hL (.inr rfl)
  · cbv
    subst hk
    have z : W 0 := by unfold W; omega
    refine ⟨⟨⟨⟨z, z, z, z⟩, ?_⟩, rfl⟩, trivial⟩
    show num4 0 0 0 0 = (num4 b0 b1 b2 b3 + M256 * num4 c0 c1 c2 c3) / 2 ^ 512 % qN
    rw [Int.ediv_eq_zero_of_lt rx.1 rx.2]; rfl
  · intro n hn d hd
    obtain ⟨⟨r0, r1, r2, r3⟩, i⟩ := d
    have hd' : wideOk (num4 b0 b1 b2 b3 + M256 * num4 c0 c1 c2 c3) n ((r0, r1, r2, r3), i) := by rw [← hk]; exact hd
    obtain ⟨⟨wr, er⟩, hi⟩ := hd'
    simp only at wr er hi
    clear hd
    cases n with
    | zero =>
      have hge : fc .geq i 0 = false := by cases hA; simp [icmp]; omega
      cbv
      simp only [hge]
      cbv
      refine fin_of hK rfl rfl ?_
      rw [hv]
      rw [Int.pow_zero, Int.ediv_one] at er
      rw [← er, words_num wr]; rfl
    | succ n =>
      have hge : fc .geq i 0 = true := by cases hA; simp [icmp]; omega
      have hdec : fi .sub .i64 i 1 = (n : Int) - 1 := by
        cases hA
        show IntKind.i64.wrap (i - 1) = _
        rw [IntKind.wrap_i64]; omega
      obtain ⟨t, et⟩ : ∃ t, ap2 N (saddN Q) (ap4 N num4 r0 r1 r2 r3) (ap4 N num4 r0 r1 r2 r3) = t := ⟨_, rfl⟩
      obtain ⟨s, es⟩ : ∃ s, ap2 N (saddN Q) (ap4 N num4 (ap1 N l0 t) (ap1 N l1 t) (ap1 N l2 t) (ap1 N l3 t)) (ap4 N num4 1 0 0 0) = s := ⟨_, rfl⟩
      have et' : t = saddN qN (num4 r0 r1 r2 r3) (num4 r0 r1 r2 r3) := by rw [← et, hQ]; subst hN; rfl
      have rt : 0 ≤ t ∧ t < M256 := by rw [et']; exact sadd_in _ _ _
      have es' : s = saddN qN t 1 := by
        rw [← es, hQ]; subst hN
        show saddN qN (num4 (l0 t) (l1 t) (l2 t) (l3 t)) (num4 1 0 0 0) = _
        rw [num4_mod rt]; rfl
      have rs : 0 ≤ s ∧ s < M256 := by rw [es']; exact sadd_in _ _ _
      have rr := num4_range wr.1 wr.2.1 wr.2.2.1 wr.2.2.2
      have go : ∀ b : Bool, b = decide ((num4 b0 b1 b2 b3 + M256 * num4 c0 c1 c2 c3) / 2 ^ n % 2 = 1) → ∀ z, z = (if b then s else t) → ∀ i', i' = (n : Int) - 1 → wideOk (num4 b0 b1 b2 b3 + M256 * num4 c0 c1 c2 c3) n ((l0 z, l1 z, l2 z, l3 z), i') := by
        intro b hb z hz i' hi'
        have hz0 : 0 ≤ z ∧ z < M256 := by rw [hz]; cases b <;> simp [rs, rt]
        refine ⟨⟨⟨l0_w z, l1_w z, l2_w z, l3_w z⟩, ?_⟩, hi'⟩
        rw [num4_mod hz0]
        exact wide_step er rr et' b hb (by rw [hz, es'])
      by_cases hn2 : 256 ≤ n
      · have h1 : fc .geq i 256 = true := by cases hA; simp [icmp]; omega
        have h2 : fc .lss i 256 = false := by cases hA; simp [icmp]; omega
        have hsub : fi .sub .i64 i 256 = ((n - 256 : Nat) : Int) := by
          cases hA
          show IntKind.i64.wrap (i - 256) = _
          rw [IntKind.wrap_i64]; omega
        obtain ⟨b, eb⟩ : ∃ b, ap2 N bitB (ap4 N num4 c0 c1 c2 c3) (fi .sub .i64 i 256) = b := ⟨_, rfl⟩
        have eb' : b = decide ((num4 b0 b1 b2 b3 + M256 * num4 c0 c1 c2 c3) / 2 ^ n % 2 = 1) := by
          rw [wide_high rb n hn2, ← bit_num _ _ (by omega), ← eb, hsub]; subst hN; rfl
        have go := go b eb'
        clear er et' es' eb' hsub
        simp only [ap1, ap2, ap4] at et es eb
        cases b
        · cbv
          repeat (simp only [hge, h1, h2, et, eb]; cbv)
          cases hA; subst hN; subst hk
          exact ⟨go t rfl _ hdec, trivial⟩
        · cbv
          repeat (simp only [hge, h1, h2, et, eb, es]; cbv)
          cases hA; subst hN; subst hk
          exact ⟨go s rfl _ hdec, trivial⟩
      · have h1 : fc .geq i 256 = false := by cases hA; simp [icmp]; omega
        have h2 : fc .lss i 256 = true := by cases hA; simp [icmp]; omega
        have hi2 : i = ((n : Nat) : Int) := by omega
        obtain ⟨b, eb⟩ : ∃ b, ap2 N bitB (ap4 N num4 b0 b1 b2 b3) i = b := ⟨_, rfl⟩
        have eb' : b = decide ((num4 b0 b1 b2 b3 + M256 * num4 c0 c1 c2 c3) / 2 ^ n % 2 = 1) := by
          rw [wide_low n (by omega), ← bit_num _ _ (by omega), ← eb, hi2]; subst hN; rfl
        have go := go b eb'
        clear er et' es' eb' hi2
        simp only [ap1, ap2, ap4] at et es eb
        cases b
        · cbv
          repeat (simp only [hge, h1, h2, et, eb]; cbv)
          cases hA; subst hN; subst hk
          exact ⟨go t rfl _ hdec, trivial⟩
        · cbv
          repeat (simp only [hge, h1, h2, et, eb, es]; cbv)
          cases hA; subst hN; subst hk
          exact ⟨go s rfl _ hdec, trivial⟩

def wide2 (a b : Int) : Int := (a + M256 * b) % qN
abbrev rwideF (N : Ap) := num2F N (fun a b => numV N (ap2 N wide2 a b))

theorem con_rwide : Con Try.prog 67 (rwideF apStd) := by
  refine con_shut Try.func67 rfl (by kernel_rfl) (fun args v us hF hv => ?_) (fun args v hF => num2F_ids hF)
  unfold rwideF num2F at hF
  split at hF
  · split at hF
    · rename_i a b ha hb
      simp only [Prod.mk.injEq, true_and, ap2_std] at hF
      obtain ⟨a0, a1, a2, a3, b0, b1, b2, b3, wa, wb, rfl, rfl, hus⟩ := args_two ha hb hv
      exact ⟨_, _, good (l := [(42, sadd apStd qN), (32, bitF apStd), (72, smallF apStd)]) (by intro p hp; simp only [List.mem_cons, List.not_mem_nil, or_false] at hp; rcases hp with rfl | rfl | rfl; exact con_srAdd; exact con_refBit; exact con_small), rfl, by kernel_rfl, hus, Nat.le_of_ble_eq_true rfl,
        rwide_vc std (ALoop 0) apStd qN a0 a1 a2 a3 b0 b1 b2 b3 rfl rfl rfl rfl wa wb v (FinP v) rfl hF.symm⟩
    · cases hF
  · cases hF

theorem rWide_vc (A : Ar) (L : LP) (N : Ap) (s : ByteArray) (hL : L = ALoop 0) (hA : A = std) (hN : N = apStd) (hs : s.size ≤ 9223372036854775807) (v : SV) (K : Bool → SV → List Blk → Prop) (hK : K = FinP v)
    (hv : v = .tup [numV apStd (swide s), .int .i64 (swideE s)]) :
    Shut (afun (cx A L [(28, fromF A N), (67, rwideF N)]) Try.f40 [.str s] [] K) := by
  obtain ⟨fi, fc, fw, fb, fn, fo, fs, fa, fe, fz⟩ := A
  apply Shut.mk
  cbv
  split <;> rename_i e <;> cbv
  · cases hA
    have e : s.size ≠ 64 := by simp [icmp] at e; omega
    refine fin_sb hK ?_ ?_ ?_
    · have hs' : (s.size : Int) ≤ 9223372036854775807 := by omega
      simp [icmp, hs']
    · rw [hv]; rfl
    · rw [hv]
      simp [oneTup, numV, ap1, apStd, swide, swideE, e, SV.sb, SV.sbs, kn, l0, l1, l2, l3]
  · cases hA; subst hN
    have e : s.size = 64 := by simp [icmp] at e; omega
    have z1 : (s.extract 0 32).size = 32 := by rw [ByteArray.size_extract]; omega
    have z2 : (s.extract 32 64).size = 32 := by rw [ByteArray.size_extract]; omega
    refine fin_sb hK ?_ ?_ ?_
    · simp only [e, z1, z2, apStd]
      simp [icmp, z1, z2]
    · rw [hv]; rfl
    · rw [hv]
      have es : swide s = wide2 (fromN (s.extract 32 64)) (fromN (s.extract 0 32)) := by unfold swide wide2; rw [if_pos e]
      simp only [e, es, apStd, num4_mod (from_range _), oneTup, numV, ap1, SV.sb, SV.sbs, kn, swideE, if_true]
      simp

theorem con_rWide : Con Try.prog 40 (swideF std apStd) := by
  refine con_shut Try.func40 rfl (by kernel_rfl) (fun args v us hF hv => ?_) (fun args v hF => swideF_ids hF)
  unfold swideF at hF
  split at hF
  · rename_i s
    simp only [Prod.mk.injEq, ap1_std] at hF
    obtain ⟨h1, h2⟩ := hF
    have hs : s.size ≤ 9223372036854775807 := by simp [std, icmp] at h1; omega
    exact ⟨_, _, good (l := [(28, fromF std apStd), (67, rwideF apStd)])
      (by intro p hp; simp only [List.mem_cons, List.not_mem_nil, or_false] at hp; rcases hp with rfl | rfl; exact con_refFrom; exact con_rwide), rfl, by kernel_rfl, hv, Nat.le_of_ble_eq_true rfl,
      rWide_vc std (ALoop 0) apStd s rfl rfl rfl hs v (FinP v) rfl h2.symm⟩
  · cases hF

end Go.Proofs.YtnncnbplnapodaaRRR
