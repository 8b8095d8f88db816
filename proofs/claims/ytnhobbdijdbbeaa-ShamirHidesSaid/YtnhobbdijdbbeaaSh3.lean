/- Contracts of functions on numbers that this seat has. It has no conditions. -/
import Derived.Test.YtnhobbdijdbbeaaNum2
import Derived.Test.YtnhobbdijdbbeaaBase
import Derived.Test.YtnhobbdijdbbeaaSh2
import Derived.Test.YtnhobbdijdbbeaaNum5
import Derived.Test.YtnhobbdijdbbeaaNum3
import Derived.Test.YtnhobbdijdbbeaaNum6
import Derived.Test.YtnhobbdijdbbeaaNum7
import Derived.Test.YtnhobbdijdbbeaaNum4
namespace Go.Proofs.Ytnhobbdijdbbeaa
open Go.Eng Go.RowKit
set_option maxRecDepth 1000000
set_option maxHeartbeats 4000000
set_option exponentiation.threshold 600
set_option linter.unusedSimpArgs false
set_option linter.unusedVariables false

theorem refBit_vc (A : Ar) (L : LP) (a0 a1 a2 a3 i : Int) (hL : L = ALoop 0) (hA : A = std) (ha : W a0 ∧ W a1 ∧ W a2 ∧ W a3) (v : SV) (K : Bool → SV → List Blk → Prop) (hK : K = FinP v)
    (hv : v = .bool (bitB (num4 a0 a1 a2 a3) i)) :
    afun (cx A L []) Try.f82 [wordsV a0 a1 a2 a3, .int .i64 i] [] K := by
  obtain ⟨fi, fc, fw, fb, fn, fo, fs, fa, fe, fz⟩ := A
  cbv
  cases h1 : fc .geq i 0 <;> cbv
  · cases hA
    refine fin_of hK ?_ rfl ?_
    · rfl
    · rw [hv]
      simp [icmp] at h1
      simp [oneTup, bitB]; omega
  · cases h2 : fc .lss i 256 <;> cbv
    · cases hA
      refine fin_of hK ?_ rfl ?_
      · rfl
      · rw [hv]
        simp [icmp] at h1 h2
        simp [oneTup, bitB]; omega
    · cases hA
      simp [icmp] at h1 h2
      obtain ⟨e0, e1, e2, e3⟩ := l_num4 ha.1 ha.2.1 ha.2.2.1 ha.2.2.2
      obtain ⟨n, rfl⟩ := Int.eq_ofNat_of_zero_le h1
      have q : iop .quo .i64 (n : Int) 64 = ((n / 64 : Nat) : Int) := by
        show IntKind.i64.wrap (Int.tdiv (n : Int) 64) = _
        rw [IntKind.wrap_i64]
        have : Int.tdiv (n : Int) 64 = ((n / 64 : Nat) : Int) := rfl
        rw [this]; omega
      have rm : iop .rem .i64 (n : Int) 64 = ((n % 64 : Nat) : Int) := rfl
      have wr : IntKind.u64.wrap ((n % 64 : Nat) : Int) = ((n % 64 : Nat) : Int) := by rw [IntKind.wrap_u64]; omega
      refine fin_of hK ?_ rfl ?_
      · simp only [std, q, rm, wr]
        simp [icmp, show (0 : Int) ≤ (n : Int) % 64 by omega, show (n : Int) / 64 ≤ 3 by omega, show (0 : Int) ≤ (n : Int) / 64 by omega, show (n : Int) / 64 < 4 by omega]
      · rw [hv]
        simp only [oneTup, bitB, std, icmp, q, rm, wr, e0, e1, e2, e3, Int.toNat_natCast, List.getD_eq_getElem?_getD]
        rw [bit_of (word_at ha.1 ha.2.1 ha.2.2.1 ha.2.2.2 _) _ (by omega)]
        simp [h2]

theorem con_refBit : Con Try.prog 82 (bitF apStd) := by
  refine con_of Try.func82 rfl (by kernel_rfl) (fun args v us hF hv => ?_) (fun args v hF => bitF_ids hF)
  unfold bitF at hF
  split at hF
  · rename_i x y
    split at hF
    · rename_i a i ha hi
      simp only [Prod.mk.injEq, true_and] at hF
      obtain ⟨a0, a1, a2, a3, wa, rfl, hus⟩ := args_num_int ha hi hv
      simp only [ap2, apStd] at hF
      exact ⟨_, _, good (l := []) (by simp), rfl, by kernel_rfl, hus, Nat.le_of_ble_eq_true rfl, refBit_vc std (ALoop 0) a0 a1 a2 a3 i rfl rfl wa v (FinP v) rfl hF.symm⟩
    · cases hF
  · cases hF

def imul (a b : Int) : Int := a * b

def wide2F (N : Ap) : List SV → Bool × SV
  | [x, y] => match x.num256 N, y.num256 N with
    | some a, some b => (true, .agg (SV.num16 N (ap2 N imul a b)))
    | _, _ => (false, .bad)
  | _ => (false, .bad)

theorem con_wide2 : Con Try.prog 81 (wide2F apStd) := con_wide

theorem dig_word {p : Int} {k : Nat} : iop .or .u64 (dig32 k p) (iop .shl .u64 (dig32 (k + 1) p) 32) = dig32 k p + dig32 (k + 1) p * 4294967296 := by
  have h0 := dig32_H k p
  have h1 := dig32_H (k + 1) p
  unfold H at h0 h1
  have := or_high (x := dig32 k p) (b := dig32 (k + 1) p) 32 (by omega) (by omega) (by omega)
  exact this

theorem dig_low (p : Int) : l0 (p % M256) = dig32 0 p + dig32 1 p * 4294967296 ∧ l1 (p % M256) = dig32 2 p + dig32 3 p * 4294967296 ∧ l2 (p % M256) = dig32 4 p + dig32 5 p * 4294967296 ∧ l3 (p % M256) = dig32 6 p + dig32 7 p * 4294967296 := by
  unfold l0 l1 l2 l3 dig32 M256
  simp only [Nat.reduceMul, Int.reducePow, Int.ediv_one]
  refine ⟨?_, ?_, ?_, ?_⟩ <;> omega

theorem dig_high (p : Int) : l0 (p / M256) = dig32 8 p + dig32 9 p * 4294967296 ∧ l1 (p / M256) = dig32 10 p + dig32 11 p * 4294967296 ∧ l2 (p / M256) = dig32 12 p + dig32 13 p * 4294967296 ∧ l3 (p / M256) = dig32 14 p + dig32 15 p * 4294967296 := by
  unfold l0 l1 l2 l3 dig32 M256
  simp only [Nat.reduceMul, Int.reducePow, Int.ediv_one]
  refine ⟨?_, ?_, ?_, ?_⟩ <;> omega

theorem refMul_vc (A : Ar) (L : LP) (N : Ap) (a0 a1 a2 a3 b0 b1 b2 b3 : Int) (hL : L = ALoop 0) (hA : A = std) (hN : N = apStd) (v : SV) (K : Bool → SV → List Blk → Prop) (hK : K = FinP v)
    (hv : v = .tup [numV apStd (mulm (num4 a0 a1 a2 a3) (num4 b0 b1 b2 b3)), numV apStd (mulh (num4 a0 a1 a2 a3) (num4 b0 b1 b2 b3))]) :
    Shut (afun (cx A L [(81, wide2F N)] (dyl [(8, [(7, 5), (8, 4)])])) Try.f67 [wordsV a0 a1 a2 a3, wordsV b0 b1 b2 b3] [] K) := by
  obtain ⟨P, eP⟩ : ∃ P, ap2 N imul (ap4 N num4 a0 a1 a2 a3) (ap4 N num4 b0 b1 b2 b3) = P := ⟨_, rfl⟩
  have eP' : P = num4 a0 a1 a2 a3 * num4 b0 b1 b2 b3 := by rw [← eP]; subst hN; rfl
  simp only [ap2, ap4] at eP
  apply Shut.mk
  cbv
  refine lp_rounds hL 5 hL (.inr rfl) ?_
  cbv
  simp only [eP]
  obtain ⟨d0, d1, d2, d3⟩ := dig_low P
  obtain ⟨d4, d5, d6, d7⟩ := dig_high P
  subst hA; subst hN
  refine fin_of hK ?_ rfl ?_
  · simp [std, icmp]
  · rw [hv]
    unfold mulm mulh
    rw [← eP']
    have w := fun k => dig_word (p := P) (k := k)
    simp only [oneTup, numV, ap1, apStd, std, d0, d1, d2, d3, d4, d5, d6, d7, w 0, w 2, w 4, w 6, w 8, w 10, w 12, w 14]

theorem con_refMul : Con Try.prog 67 (mulF apStd) := by
  refine con_shut Try.func67 rfl (by kernel_rfl) (fun args v us hF hv => ?_) (fun args v hF => mulF_ids hF)
  unfold mulF at hF
  split at hF
  · split at hF
    · rename_i a b ha hb
      simp only [Prod.mk.injEq, true_and] at hF
      obtain ⟨a0, a1, a2, a3, b0, b1, b2, b3, wa, wb, rfl, rfl, hus⟩ := args_two ha hb hv
      have hF' : v = .tup [numV apStd (mulm (num4 a0 a1 a2 a3) (num4 b0 b1 b2 b3)), numV apStd (mulh (num4 a0 a1 a2 a3) (num4 b0 b1 b2 b3))] := hF.symm
      exact ⟨_, _, goodd (l := [(81, wide2F apStd)]) (dyl [(8, [(7, 5), (8, 4)])]) (by intro p hp; simp at hp; subst hp; exact con_wide2), rfl, by kernel_rfl, hus, Nat.le_of_ble_eq_true rfl, refMul_vc std (ALoop 0) apStd a0 a1 a2 a3 b0 b1 b2 b3 rfl rfl rfl v (FinP v) rfl hF'⟩
    · cases hF
  · cases hF

theorem words_num {a0 a1 a2 a3 : Int} (ha : W a0 ∧ W a1 ∧ W a2 ∧ W a3) : numV apStd (num4 a0 a1 a2 a3) = wordsV a0 a1 a2 a3 := by
  obtain ⟨e0, e1, e2, e3⟩ := limbs_of (n := num4 a0 a1 a2 a3) (k := 0) ha.1 ha.2.1 ha.2.2.1 ha.2.2.2 (by omega)
  simp [numV, ap1, apStd, wordsV, e0, e1, e2, e3]

theorem ap1_std {α β : Type} (f : α → β) (a : α) : ap1 apStd f a = f a := rfl

theorem ap2_std {α β γ : Type} (f : α → β → γ) (a : α) (b : β) : ap2 apStd f a b = f a b := rfl

theorem ap3_std {α β γ δ : Type} (f : α → β → γ → δ) (a : α) (b : β) (c : γ) : ap3 apStd f a b c = f a b c := rfl

theorem not_of {b p : Bool} (h : (match b with | true => false | false => true) = p) : b = !p := by cases b <;> cases p <;> simp_all

theorem cut_vc (A : Ar) (L : LP) (N : Ap) (m0 m1 m2 m3 n r0 r1 r2 r3 a0 a1 a2 a3 : Int) (hL : L = ALoop 0) (hA : A = std) (hN : N = apStd) (ha : W a0 ∧ W a1 ∧ W a2 ∧ W a3) (v : SV) (K : Bool → SV → List Blk → Prop) (hK : K = FinP v)
    (hv : v = numV apStd (cutN (num4 m0 m1 m2 m3) (num4 a0 a1 a2 a3))) :
    Shut (afun (cx A L [(79, subF N)]) Try.f63 [modV m0 m1 m2 m3 n r0 r1 r2 r3, wordsV a0 a1 a2 a3] [] K) := by
  apply Shut.mk
  cbv
  split <;> cbv
  · rename_i e
    subst hN; subst hv
    have e : ltb (num4 a0 a1 a2 a3) (num4 m0 m1 m2 m3) = false := not_of e
    refine fin_of hK rfl rfl ?_
    simp only [cutN, e, Bool.false_eq_true, if_false]; rfl
  · rename_i e
    subst hN; subst hv
    have e : ltb (num4 a0 a1 a2 a3) (num4 m0 m1 m2 m3) = true := not_of e
    refine fin_of hK rfl rfl ?_
    simp only [cutN, e, if_true, words_num ha]; rfl

theorem madd_vc (A : Ar) (L : LP) (N : Ap) (m0 m1 m2 m3 n r0 r1 r2 r3 a0 a1 a2 a3 b0 b1 b2 b3 : Int) (hL : L = ALoop 0) (hA : A = std) (hN : N = apStd) (v : SV) (K : Bool → SV → List Blk → Prop) (hK : K = FinP v)
    (hv : v = numV apStd (maddN (num4 m0 m1 m2 m3) (num4 a0 a1 a2 a3) (num4 b0 b1 b2 b3))) :
    Shut (afun (cx A L [(79, subF N), (78, addF N)]) Try.f62 [modV m0 m1 m2 m3 n r0 r1 r2 r3, wordsV a0 a1 a2 a3, wordsV b0 b1 b2 b3] [] K) := by
  have hl : num4 (l0 (addm (num4 a0 a1 a2 a3) (num4 b0 b1 b2 b3))) (l1 (addm (num4 a0 a1 a2 a3) (num4 b0 b1 b2 b3))) (l2 (addm (num4 a0 a1 a2 a3) (num4 b0 b1 b2 b3))) (l3 (addm (num4 a0 a1 a2 a3) (num4 b0 b1 b2 b3))) = addm (num4 a0 a1 a2 a3) (num4 b0 b1 b2 b3) := by
    rw [num4_limbs]; unfold addm M256; omega
  obtain ⟨s, hs⟩ : ∃ s, ap2 N addm (ap4 N num4 a0 a1 a2 a3) (ap4 N num4 b0 b1 b2 b3) = s := ⟨_, rfl⟩
  obtain ⟨p, hp⟩ : ∃ p, ap2 N addc (ap4 N num4 a0 a1 a2 a3) (ap4 N num4 b0 b1 b2 b3) = p := ⟨_, rfl⟩
  obtain ⟨q, hq⟩ : ∃ q, ap2 N ltb (ap4 N num4 (ap1 N l0 s) (ap1 N l1 s) (ap1 N l2 s) (ap1 N l3 s)) (ap4 N num4 m0 m1 m2 m3) = q := ⟨_, rfl⟩
  have hp' := hp
  have hq' := hq
  simp only [ap1, ap2, ap4] at hs hp hq
  obtain ⟨w, hw⟩ : ∃ w : SV, w = numV apStd (if p || !q then subm s (num4 m0 m1 m2 m3) else s) := ⟨_, rfl⟩
  have fin : ∀ r : SV, r = w → v = r := by
    intro r hr
    subst hN; subst hv
    rw [hr, hw]
    have e1 : addc (num4 a0 a1 a2 a3) (num4 b0 b1 b2 b3) = p := hp'
    have e3 : addm (num4 a0 a1 a2 a3) (num4 b0 b1 b2 b3) = s := hs
    rw [e3] at hl
    have e2 : ltb s (num4 m0 m1 m2 m3) = q := by rw [← hl]; exact hq'
    unfold maddN
    rw [e3, e1, e2]
  have hl' : num4 (l0 s) (l1 s) (l2 s) (l3 s) = s := by subst hN; rw [← hs]; exact hl
  clear hp' hq'
  apply Shut.mk
  cbv
  cases p
  · cases q
    · repeat (simp only [hs, hp, hq]; cbv)
      refine fin_of hK rfl rfl (fin _ ?_)
      cbv
      rw [hw]; subst hN
      simp [numV, ap1, apStd, hl']
    · repeat (simp only [hs, hp, hq]; cbv)
      refine fin_of hK rfl rfl (fin _ ?_)
      cbv
      rw [hw]; subst hN
      simp [numV, ap1, apStd, hl']
  · repeat (simp only [hs, hp]; cbv)
    refine fin_of hK rfl rfl (fin _ ?_)
    cbv
    rw [hw]; subst hN
    simp [numV, ap1, apStd, hl']

theorem msub_vc (A : Ar) (L : LP) (N : Ap) (m0 m1 m2 m3 n r0 r1 r2 r3 a0 a1 a2 a3 b0 b1 b2 b3 : Int) (hL : L = ALoop 0) (hA : A = std) (hN : N = apStd) (v : SV) (K : Bool → SV → List Blk → Prop) (hK : K = FinP v)
    (hv : v = numV apStd (msubN (num4 m0 m1 m2 m3) (num4 a0 a1 a2 a3) (num4 b0 b1 b2 b3))) :
    Shut (afun (cx A L [(79, subF N), (78, addF N)]) Try.f69 [modV m0 m1 m2 m3 n r0 r1 r2 r3, wordsV a0 a1 a2 a3, wordsV b0 b1 b2 b3] [] K) := by
  apply Shut.mk
  cbv
  have hl : num4 (l0 (subm (num4 a0 a1 a2 a3) (num4 b0 b1 b2 b3))) (l1 (subm (num4 a0 a1 a2 a3) (num4 b0 b1 b2 b3))) (l2 (subm (num4 a0 a1 a2 a3) (num4 b0 b1 b2 b3))) (l3 (subm (num4 a0 a1 a2 a3) (num4 b0 b1 b2 b3))) = subm (num4 a0 a1 a2 a3) (num4 b0 b1 b2 b3) := by
    rw [num4_limbs]; unfold subm M256; omega
  split <;> cbv
  · rename_i e
    subst hN; subst hv
    have e : ltb (num4 a0 a1 a2 a3) (num4 b0 b1 b2 b3) = true := by simpa [apStd] using e
    refine fin_of hK rfl rfl ?_
    simp only [msubN, e, if_true]
    simp only [apStd, hl]; rfl
  · rename_i e
    subst hN; subst hv
    have e : ltb (num4 a0 a1 a2 a3) (num4 b0 b1 b2 b3) = false := by simpa [apStd] using e
    refine fin_of hK rfl rfl ?_
    simp only [msubN, e, Bool.false_eq_true, if_false]; rfl

theorem half_or {x y : Int} (hx : W x) : iop .or .u64 (iop .shr .u64 x 1) (iop .shl .u64 y 63) = x / 2 + y % 2 * 9223372036854775808 := by
  have e1 : iop .shr .u64 x 1 = x / 2 := shr_lit x 1 (by omega)
  have e2 : iop .shl .u64 y 63 = y % 2 * 2 ^ 63 := by
    have h := shl_lit y 63 (by omega)
    rw [show ((63 : Nat) : Int) = 63 from rfl] at h
    rw [h]; omega
  rw [e1, e2, or_disj 63 (by unfold W at hx; omega) (by omega) (by omega)]
  omega

theorem half_vc (A : Ar) (L : LP) (a0 a1 a2 a3 : Int) (t : Bool) (hL : L = ALoop 0) (hA : A = std) (ha : W a0 ∧ W a1 ∧ W a2 ∧ W a3) (v : SV) (K : Bool → SV → List Blk → Prop) (hK : K = FinP v)
    (hv : v = numV apStd (halfN (num4 a0 a1 a2 a3) t)) :
    Shut (afun (cx A L []) Try.f83 [wordsV a0 a1 a2 a3, .bool t] [] K) := by
  obtain ⟨h0, h1, h2, h3⟩ := ha
  cases t
  · obtain ⟨e0, e1, e2, e3⟩ := half_words h0 h1 h2 h3 false
    apply Shut.mk
    cbv
    refine lp_rounds hL 5 hL (.inr rfl) ?_
    cbv
    subst hA; subst hv
    refine fin_of hK (by simp [std, icmp]) rfl ?_
    have k : iop .or .u64 (iop .shr .u64 a3 1) 0 = a3 / 2 := by
      have := half_or (y := 0) h3
      have e : iop .shl .u64 0 63 = 0 := rfl
      rw [e] at this; rw [this]; omega
    simp [oneTup, numV, ap1, apStd, e0, e1, e2, e3, std, half_or h0, half_or h1, half_or h2, k]
  · obtain ⟨e0, e1, e2, e3⟩ := half_words h0 h1 h2 h3 true
    apply Shut.mk
    cbv
    refine lp_rounds hL 5 hL (.inr rfl) ?_
    cbv
    subst hA; subst hv
    refine fin_of hK (by simp [std, icmp]) rfl ?_
    have k : iop .or .u64 (iop .shr .u64 a3 1) 9223372036854775808 = a3 / 2 + 9223372036854775808 := half_or (y := 1) h3
    simp [oneTup, numV, ap1, apStd, e0, e1, e2, e3, std, half_or h0, half_or h1, half_or h2, k]

theorem halved_vc (A : Ar) (L : LP) (N : Ap) (m0 m1 m2 m3 n r0 r1 r2 r3 a0 a1 a2 a3 : Int) (hL : L = ALoop 0) (hA : A = std) (hN : N = apStd) (ha : W a0 ∧ W a1 ∧ W a2 ∧ W a3) (v : SV) (K : Bool → SV → List Blk → Prop) (hK : K = FinP v)
    (hv : v = numV apStd (halvedN (num4 m0 m1 m2 m3) (num4 a0 a1 a2 a3))) :
    Shut (afun (cx A L [(83, halfF N), (78, addF N)]) Try.f84 [modV m0 m1 m2 m3 n r0 r1 r2 r3, wordsV a0 a1 a2 a3] [] K) := by
  obtain ⟨fi, fc, fw, fb, fn, fo, fs, fa, fe, fz, fy, ff, fl⟩ := A
  have hl : num4 (l0 (addm (num4 a0 a1 a2 a3) (num4 m0 m1 m2 m3))) (l1 (addm (num4 a0 a1 a2 a3) (num4 m0 m1 m2 m3))) (l2 (addm (num4 a0 a1 a2 a3) (num4 m0 m1 m2 m3))) (l3 (addm (num4 a0 a1 a2 a3) (num4 m0 m1 m2 m3))) = addm (num4 a0 a1 a2 a3) (num4 m0 m1 m2 m3) := by
    rw [num4_limbs]; unfold addm M256; omega
  have par : iop .and .u64 a0 1 = num4 a0 a1 a2 a3 % 2 := by
    have := and_mask ha.1 1 (by omega)
    rw [show ((2 : Int) ^ 1 - 1) = 1 from rfl, show ((2 : Int) ^ 1) = 2 from rfl] at this
    rw [this]; unfold num4; omega
  apply Shut.mk
  cbv
  split <;> cbv
  · rename_i e
    cases hA; subst hN; subst hv
    have e : num4 a0 a1 a2 a3 % 2 = 0 := by simpa [icmp, par] using e
    refine fin_of hK rfl rfl ?_
    simp only [halvedN, e, if_true]; rfl
  · rename_i e
    cases hA; subst hN; subst hv
    have e : ¬ num4 a0 a1 a2 a3 % 2 = 0 := by simpa [icmp, par] using e
    refine fin_of hK rfl rfl ?_
    simp only [halvedN, e, if_false]
    simp only [apStd, hl]; rfl

theorem step_vc (A : Ar) (L : LP) (N : Ap) (t0 t1 t2 t3 t4 t5 x b0 b1 b2 b3 : Int) (hL : L = ALoop 0) (hA : A = std) (hN : N = apStd) (ht : W t0 ∧ W t1 ∧ W t2 ∧ W t3 ∧ W t4 ∧ W t5) (hx : W x) (hb : W b0 ∧ W b1 ∧ W b2 ∧ W b3) (v : SV) (K : Bool → SV → List Blk → Prop) (hK : K = FinP v)
    (hv : v = numV6 apStd (stepn (num6 t0 t1 t2 t3 t4 t5) x (num4 b0 b1 b2 b3))) :
    Shut (afun (cx A L [(89, mul64F N), (87, add64F A N)]) Try.f80 [words6 t0 t1 t2 t3 t4 t5, .int .u64 x, wordsV b0 b1 b2 b3] [] K) := by
  apply Shut.mk
  cbv
  refine lp_rounds hL 5 hL (.inr rfl) ?_
  cbv
  subst hA; subst hN; subst hv
  have h := step_words ht hx hb rfl rfl rfl rfl rfl rfl rfl rfl rfl rfl
  simp only at h
  refine fin_of hK (by simp [std, icmp]) rfl ?_
  simp only [numV6, ap1, apStd, h.1, h.2.1, h.2.2.1, h.2.2.2.1, h.2.2.2.2.1, h.2.2.2.2.2, oneTup, std, iopadd]

/-! The contracts. -/

theorem con_cut : Con Try.prog 63 (cutF apStd) := by
  refine con_shut Try.func63 rfl (by kernel_rfl) (fun args v us hF hv => ?_) (fun args v hF => mod1F_ids hF)
  unfold cutF mod1F at hF
  split at hF
  · split at hF
    · rename_i M n r a hm ha
      simp only [Prod.mk.injEq, true_and, ap1_std, ap2_std, ap3_std] at hF
      obtain ⟨m0, m1, m2, m3, r0, r1, r2, r3, a0, a1, a2, a3, wm, wn, wr, wa, rfl, rfl, rfl, hus⟩ := args_mod_one hm ha hv
      exact ⟨_, _, good (l := [(79, subF apStd)]) (by intro p hp; simp at hp; subst hp; exact con_limbsSub), rfl, by kernel_rfl, hus, Nat.le_of_ble_eq_true rfl, cut_vc std (ALoop 0) apStd m0 m1 m2 m3 n r0 r1 r2 r3 a0 a1 a2 a3 rfl rfl rfl wa v (FinP v) rfl hF.symm⟩
    · cases hF
  · cases hF

theorem con_madd : Con Try.prog 62 (maddF apStd) := by
  refine con_shut Try.func62 rfl (by kernel_rfl) (fun args v us hF hv => ?_) (fun args v hF => mod2F_ids hF)
  unfold maddF mod2F at hF
  split at hF
  · split at hF
    · rename_i M n r a b hm ha hb
      simp only [Prod.mk.injEq, true_and, ap1_std, ap2_std, ap3_std] at hF
      obtain ⟨m0, m1, m2, m3, r0, r1, r2, r3, a0, a1, a2, a3, b0, b1, b2, b3, wm, wn, wr, wa, wb, rfl, rfl, rfl, rfl, hus⟩ := args_mod_two hm ha hb hv
      exact ⟨_, _, good (l := [(79, subF apStd), (78, addF apStd)]) (by intro p hp; simp at hp; rcases hp with rfl | rfl; exact con_limbsSub; exact con_limbsAdd), rfl, by kernel_rfl, hus, Nat.le_of_ble_eq_true rfl, madd_vc std (ALoop 0) apStd m0 m1 m2 m3 n r0 r1 r2 r3 a0 a1 a2 a3 b0 b1 b2 b3 rfl rfl rfl v (FinP v) rfl hF.symm⟩
    · cases hF
  · cases hF

theorem con_msub : Con Try.prog 69 (msubF apStd) := by
  refine con_shut Try.func69 rfl (by kernel_rfl) (fun args v us hF hv => ?_) (fun args v hF => mod2F_ids hF)
  unfold msubF mod2F at hF
  split at hF
  · split at hF
    · rename_i M n r a b hm ha hb
      simp only [Prod.mk.injEq, true_and, ap1_std, ap2_std, ap3_std] at hF
      obtain ⟨m0, m1, m2, m3, r0, r1, r2, r3, a0, a1, a2, a3, b0, b1, b2, b3, wm, wn, wr, wa, wb, rfl, rfl, rfl, rfl, hus⟩ := args_mod_two hm ha hb hv
      exact ⟨_, _, good (l := [(79, subF apStd), (78, addF apStd)]) (by intro p hp; simp at hp; rcases hp with rfl | rfl; exact con_limbsSub; exact con_limbsAdd), rfl, by kernel_rfl, hus, Nat.le_of_ble_eq_true rfl, msub_vc std (ALoop 0) apStd m0 m1 m2 m3 n r0 r1 r2 r3 a0 a1 a2 a3 b0 b1 b2 b3 rfl rfl rfl v (FinP v) rfl hF.symm⟩
    · cases hF
  · cases hF

theorem con_half : Con Try.prog 83 (halfF apStd) := by
  refine con_shut Try.func83 rfl (by kernel_rfl) (fun args v us hF hv => ?_) (fun args v hF => halfF_ids hF)
  unfold halfF at hF
  split at hF
  · split at hF
    · rename_i t _ a ha
      simp only [Prod.mk.injEq, true_and, ap1_std, ap2_std, ap3_std] at hF
      obtain ⟨a0, a1, a2, a3, wa, rfl, hus⟩ := args_num_bool ha hv
      exact ⟨_, _, good (l := []) (by simp), rfl, by kernel_rfl, hus, Nat.le_of_ble_eq_true rfl, half_vc std (ALoop 0) a0 a1 a2 a3 _ rfl rfl wa v (FinP v) rfl hF.symm⟩
    · cases hF
  · cases hF

theorem con_halved : Con Try.prog 84 (halvedF apStd) := by
  refine con_shut Try.func84 rfl (by kernel_rfl) (fun args v us hF hv => ?_) (fun args v hF => mod1F_ids hF)
  unfold halvedF mod1F at hF
  split at hF
  · split at hF
    · rename_i M n r a hm ha
      simp only [Prod.mk.injEq, true_and, ap1_std, ap2_std, ap3_std] at hF
      obtain ⟨m0, m1, m2, m3, r0, r1, r2, r3, a0, a1, a2, a3, wm, wn, wr, wa, rfl, rfl, rfl, hus⟩ := args_mod_one hm ha hv
      exact ⟨_, _, good (l := [(83, halfF apStd), (78, addF apStd)]) (by intro p hp; simp at hp; rcases hp with rfl | rfl; exact con_half; exact con_limbsAdd), rfl, by kernel_rfl, hus, Nat.le_of_ble_eq_true rfl, halved_vc std (ALoop 0) apStd m0 m1 m2 m3 n r0 r1 r2 r3 a0 a1 a2 a3 rfl rfl rfl wa v (FinP v) rfl hF.symm⟩
    · cases hF
  · cases hF

theorem con_step : Con Try.prog 80 (stepF apStd) := by
  refine con_shut Try.func80 rfl (by kernel_rfl) (fun args v us hF hv => ?_) (fun args v hF => stepF_ids hF)
  unfold stepF at hF
  split at hF
  · split at hF
    · rename_i t x a ht hx ha
      simp only [Prod.mk.injEq, true_and, ap1_std, ap2_std, ap3_std] at hF
      obtain ⟨t0, t1, t2, t3, t4, t5, b0, b1, b2, b3, wt, wx, wb, rfl, rfl, hus⟩ := args_step ht hx ha hv
      exact ⟨_, _, good (l := [(89, mul64F apStd), (87, add64F std apStd)]) (by intro p hp; simp at hp; rcases hp with rfl | rfl; exact con_mul64; exact con_add64), rfl, by kernel_rfl, hus, Nat.le_of_ble_eq_true rfl, step_vc std (ALoop 0) apStd t0 t1 t2 t3 t4 t5 x b0 b1 b2 b3 rfl rfl rfl wt wx wb v (FinP v) rfl hF.symm⟩
    · cases hF
  · cases hF

theorem mont_all {M n a b x0 x1 x2 x3 n1 n2 n3 n4 n5 n6 n7 n8 : Int} (hok : okMod M n = true) (hc : mcond M a b = true) (ha : a = num4 x0 x1 x2 x3) (hx : W x0 ∧ W x1 ∧ W x2 ∧ W x3) (hb : 0 ≤ b ∧ b < M256)
    (e1 : n1 = stepn (num6 0 0 0 0 0 0) x0 b) (e2 : n2 = stepn (num6 (l0 n1) (l1 n1) (l2 n1) (l3 n1) (l4 n1) (l5 n1)) (l0 n1 * n % 18446744073709551616) M)
    (e3 : n3 = stepn (num6 (l1 n2) (l2 n2) (l3 n2) (l4 n2) (l5 n2) 0) x1 b) (e4 : n4 = stepn (num6 (l0 n3) (l1 n3) (l2 n3) (l3 n3) (l4 n3) (l5 n3)) (l0 n3 * n % 18446744073709551616) M)
    (e5 : n5 = stepn (num6 (l1 n4) (l2 n4) (l3 n4) (l4 n4) (l5 n4) 0) x2 b) (e6 : n6 = stepn (num6 (l0 n5) (l1 n5) (l2 n5) (l3 n5) (l4 n5) (l5 n5)) (l0 n5 * n % 18446744073709551616) M)
    (e7 : n7 = stepn (num6 (l1 n6) (l2 n6) (l3 n6) (l4 n6) (l5 n6) 0) x3 b) (e8 : n8 = stepn (num6 (l0 n7) (l1 n7) (l2 n7) (l3 n7) (l4 n7) (l5 n7)) (l0 n7 * n % 18446744073709551616) M) :
    (if (!(decide (l5 n8 = 0)) || !(ltb (num4 (l1 n8) (l2 n8) (l3 n8) (l4 n8)) M)) = true then subm (num4 (l1 n8) (l2 n8) (l3 n8) (l4 n8)) M else num4 (l1 n8) (l2 n8) (l3 n8) (l4 n8)) = mmul M a b := by
  obtain ⟨⟨k, hk⟩, _, hM1, hM2, _⟩ := okMod_spec hok
  obtain ⟨w0, w1, w2, w3⟩ := hx
  have hM : 0 < M := by omega
  have z0 : num6 0 0 0 0 0 0 = 0 := by decide
  obtain ⟨f1, g1, h1⟩ := mont_round hk hM hM2 hb.1 hb.2 w0 (T := num6 0 0 0 0 0 0) (by rw [z0]; exact Int.le_refl 0) (by rw [z0]; omega) e1 e2 rfl
  obtain ⟨f2, g2, h2⟩ := mont_round hk hM hM2 hb.1 hb.2 w1 g1 h1 e3 e4 rfl
  obtain ⟨f3, g3, h3⟩ := mont_round hk hM hM2 hb.1 hb.2 w2 g2 h2 e5 e6 rfl
  obtain ⟨f4, g4, h4⟩ := mont_round hk hM hM2 hb.1 hb.2 w3 g3 h3 e7 e8 rfl
  have q : ∀ z : Int, 0 ≤ z % 18446744073709551616 ∧ z % 18446744073709551616 < 18446744073709551616 := fun z => by omega
  rw [z0] at f1
  have hc' : a < M ∨ b < M := by simpa [mcond] using hc
  obtain ⟨v1, v2⟩ := mont_val hok ha ⟨w0, w1, w2, w3⟩ hb.1 hb.2 hc' (q _) (q _) (q _) (q _) f1 f2 f3 f4 h4 g4
  rw [← v2]
  have l5r := l5_w n8
  have r := num4_range (l1_w n8) (l2_w n8) (l3_w n8) (l4_w n8)
  have e : num6 (l1 n8) (l2 n8) (l3 n8) (l4 n8) (l5 n8) 0 = num4 (l1 n8) (l2 n8) (l3 n8) (l4 n8) + M256 * l5 n8 := by unfold num6 M256; omega
  rw [e] at v1 g4 ⊢
  clear e e1 e2 e3 e4 e5 e6 e7 e8 f1 f2 f3 f4 g1 g2 g3 h1 h2 h3 h4 v2
  generalize num4 (l1 n8) (l2 n8) (l3 n8) (l4 n8) = o at *
  generalize l5 n8 = t at *
  unfold W at l5r
  unfold M256 at *
  by_cases ht : t = 0
  · subst ht
    rw [Int.mul_zero, Int.add_zero] at *
    by_cases ho : o < M
    · simp only [ltb, ho, decide_true, Bool.not_true, Bool.or_false, Bool.false_eq_true, if_false]
      exact (Int.emod_eq_of_lt r.1 ho).symm
    · simp only [ltb, ho, decide_true, decide_false, Bool.not_true, Bool.not_false, Bool.or_true, if_true]
      rw [← Int.sub_emod_right o M, Int.emod_eq_of_lt (by omega) (by omega)]
      unfold subm M256; omega
  · simp only [ht, decide_false, Bool.not_false, Bool.true_or, if_true]
    rw [← Int.sub_emod_right (o + _) M, Int.emod_eq_of_lt (by omega) (by omega)]
    unfold subm M256; omega

theorem mmul_vc (A : Ar) (L : LP) (N : Ap) (m0 m1 m2 m3 n r0 r1 r2 r3 a0 a1 a2 a3 b0 b1 b2 b3 : Int) (hL : L = ALoop 0) (hA : A = std) (hN : N = apStd) (hm : W m0 ∧ W m1 ∧ W m2 ∧ W m3) (ha : W a0 ∧ W a1 ∧ W a2 ∧ W a3) (hb : W b0 ∧ W b1 ∧ W b2 ∧ W b3)
    (hok : okMod (num4 m0 m1 m2 m3) n = true) (hc : mcond (num4 m0 m1 m2 m3) (num4 a0 a1 a2 a3) (num4 b0 b1 b2 b3) = true) (v : SV) (K : Bool → SV → List Blk → Prop) (hK : K = FinP v)
    (hv : v = numV apStd (mmul (num4 m0 m1 m2 m3) (num4 a0 a1 a2 a3) (num4 b0 b1 b2 b3))) :
    Shut (afun (cx A L [(80, stepF N), (79, subF N)]) Try.f64 [modV m0 m1 m2 m3 n r0 r1 r2 r3, wordsV a0 a1 a2 a3, wordsV b0 b1 b2 b3] [] K) := by
  obtain ⟨B, eB⟩ : ∃ B, ap4 N num4 b0 b1 b2 b3 = B := ⟨_, rfl⟩
  obtain ⟨M, eM⟩ : ∃ M, ap4 N num4 m0 m1 m2 m3 = M := ⟨_, rfl⟩
  obtain ⟨n1, e1⟩ : ∃ n1, ap3 N stepn (ap6 N num6 0 0 0 0 0 0) a0 B = n1 := ⟨_, rfl⟩
  obtain ⟨n2, e2⟩ : ∃ n2, ap3 N stepn (ap6 N num6 (ap1 N l0 n1) (ap1 N l1 n1) (ap1 N l2 n1) (ap1 N l3 n1) (ap1 N l4 n1) (ap1 N l5 n1)) (A.iop .mul .u64 (ap1 N l0 n1) n) M = n2 := ⟨_, rfl⟩
  obtain ⟨n3, e3⟩ : ∃ n3, ap3 N stepn (ap6 N num6 (ap1 N l1 n2) (ap1 N l2 n2) (ap1 N l3 n2) (ap1 N l4 n2) (ap1 N l5 n2) 0) a1 B = n3 := ⟨_, rfl⟩
  obtain ⟨n4, e4⟩ : ∃ n4, ap3 N stepn (ap6 N num6 (ap1 N l0 n3) (ap1 N l1 n3) (ap1 N l2 n3) (ap1 N l3 n3) (ap1 N l4 n3) (ap1 N l5 n3)) (A.iop .mul .u64 (ap1 N l0 n3) n) M = n4 := ⟨_, rfl⟩
  obtain ⟨n5, e5⟩ : ∃ n5, ap3 N stepn (ap6 N num6 (ap1 N l1 n4) (ap1 N l2 n4) (ap1 N l3 n4) (ap1 N l4 n4) (ap1 N l5 n4) 0) a2 B = n5 := ⟨_, rfl⟩
  obtain ⟨n6, e6⟩ : ∃ n6, ap3 N stepn (ap6 N num6 (ap1 N l0 n5) (ap1 N l1 n5) (ap1 N l2 n5) (ap1 N l3 n5) (ap1 N l4 n5) (ap1 N l5 n5)) (A.iop .mul .u64 (ap1 N l0 n5) n) M = n6 := ⟨_, rfl⟩
  obtain ⟨n7, e7⟩ : ∃ n7, ap3 N stepn (ap6 N num6 (ap1 N l1 n6) (ap1 N l2 n6) (ap1 N l3 n6) (ap1 N l4 n6) (ap1 N l5 n6) 0) a3 B = n7 := ⟨_, rfl⟩
  obtain ⟨n8, e8⟩ : ∃ n8, ap3 N stepn (ap6 N num6 (ap1 N l0 n7) (ap1 N l1 n7) (ap1 N l2 n7) (ap1 N l3 n7) (ap1 N l4 n7) (ap1 N l5 n7)) (A.iop .mul .u64 (ap1 N l0 n7) n) M = n8 := ⟨_, rfl⟩
  obtain ⟨p, hp⟩ : ∃ p, A.icmp .neq (ap1 N l5 n8) 0 = p := ⟨_, rfl⟩
  obtain ⟨q, hq⟩ : ∃ q, ap2 N ltb (ap4 N num4 (ap1 N l1 n8) (ap1 N l2 n8) (ap1 N l3 n8) (ap1 N l4 n8)) M = q := ⟨_, rfl⟩
  obtain ⟨w, hw⟩ : ∃ w : SV, w = numV apStd (if p || !q then subm (num4 (l1 n8) (l2 n8) (l3 n8) (l4 n8)) M else num4 (l1 n8) (l2 n8) (l3 n8) (l4 n8)) := ⟨_, rfl⟩
  have fin : ∀ r : SV, r = w → v = r := by
    intro r hr
    rw [hr, hw, hv]
    subst hN; subst hA
    have := mont_all hok hc rfl ha (num4_range hb.1 hb.2.1 hb.2.2.1 hb.2.2.2) (n1 := n1) (n2 := n2) (n3 := n3) (n4 := n4) (n5 := n5) (n6 := n6) (n7 := n7) (n8 := n8) (by rw [← e1, ← eB]; rfl) (by rw [← e2, ← eM]; simp only [std, iopmul]; rfl) (by rw [← e3, ← eB]; rfl) (by rw [← e4, ← eM]; simp only [std, iopmul]; rfl)
      (by rw [← e5, ← eB]; rfl) (by rw [← e6, ← eM]; simp only [std, iopmul]; rfl) (by rw [← e7, ← eB]; rfl) (by rw [← e8, ← eM]; simp only [std, iopmul]; rfl)
    rw [← this]
    have hM : num4 m0 m1 m2 m3 = M := eM
    have hp' : (!(decide (l5 n8 = 0))) = p := by
      rw [← hp]
      by_cases h : l5 n8 = 0 <;> simp [std, icmp, ap1, apStd, h]
    have hq' : ltb (num4 (l1 n8) (l2 n8) (l3 n8) (l4 n8)) M = q := hq
    rw [hM, hp', hq']
  have hf : A.icmp .leq (A.ofNat 5) 9223372036854775807 = true := by subst hA; rfl
  simp only [ap1, ap2, ap3, ap4, ap6] at eB eM e1 e2 e3 e4 e5 e6 e7 e8 hp hq
  obtain ⟨fi, fc, fw, fb, fn, fo, fs, fa, fe, fz, fy, ff, fl⟩ := A
  (try dsimp only at hp)
  dsimp only at hf
  apply Shut.mk
  cbv
  refine lp_rounds hL 5 hL (.inr rfl) ?_
  cbv
  simp only [eB, eM, e1, e2, e3, e4, e5, e6, e7, e8, hf, and_true, true_and]
  cases p
  · cases q
    · repeat (simp only [eB, eM, hp, hq]; cbv)
      refine fin_of hK ?_ rfl (fin _ ?_)
      · cbv
      · cbv
        rw [hw]; subst hN
        obtain ⟨z0, z1, z2, z3⟩ := limbs_of (n := num4 (l1 n8) (l2 n8) (l3 n8) (l4 n8)) (k := 0) (l1_w n8) (l2_w n8) (l3_w n8) (l4_w n8) (by omega)
        simp [numV, ap1, apStd, z0, z1, z2, z3]
    · repeat (simp only [eB, eM, hp, hq]; cbv)
      refine fin_of hK ?_ rfl (fin _ ?_)
      · cbv
      · cbv
        rw [hw]; subst hN
        obtain ⟨z0, z1, z2, z3⟩ := limbs_of (n := num4 (l1 n8) (l2 n8) (l3 n8) (l4 n8)) (k := 0) (l1_w n8) (l2_w n8) (l3_w n8) (l4_w n8) (by omega)
        simp [numV, ap1, apStd, z0, z1, z2, z3]
  · repeat (simp only [eB, eM, hp]; cbv)
    refine fin_of hK ?_ rfl (fin _ ?_)
    · cbv
    · cbv
      rw [hw]; subst hN
      simp [numV, ap1, apStd]

theorem con_mmul : Con Try.prog 64 (mmulF apStd) := by
  refine con_shut Try.func64 rfl (by kernel_rfl) (fun args v us hF hv => ?_) (fun args v hF => mod2F_ids hF)
  unfold mmulF mod2F at hF
  split at hF
  · split at hF
    · rename_i M n r a b hm ha hb
      simp only [Prod.mk.injEq, Bool.and_eq_true, ap2_std, ap3_std] at hF
      obtain ⟨⟨hok, hc⟩, hF⟩ := hF
      obtain ⟨m0, m1, m2, m3, r0, r1, r2, r3, a0, a1, a2, a3, b0, b1, b2, b3, wm, wn, wr, wa, wb, rfl, rfl, rfl, rfl, hus⟩ := args_mod_two hm ha hb hv
      exact ⟨_, _, good (l := [(80, stepF apStd), (79, subF apStd)]) (by intro p hp; simp at hp; rcases hp with rfl | rfl; exact con_step; exact con_limbsSub), rfl, by kernel_rfl, hus, Nat.le_of_ble_eq_true rfl, mmul_vc std (ALoop 0) apStd m0 m1 m2 m3 n r0 r1 r2 r3 a0 a1 a2 a3 b0 b1 b2 b3 rfl rfl rfl wm wa wb hok hc v (FinP v) rfl hF.symm⟩
    · cases hF
  · cases hF

theorem min_vc (A : Ar) (L : LP) (N : Ap) (m0 m1 m2 m3 n r0 r1 r2 r3 a0 a1 a2 a3 : Int) (hL : L = ALoop 0) (hA : A = std) (hN : N = apStd)
    (hok : okMod (num4 m0 m1 m2 m3) n = true) (hc : mcond (num4 m0 m1 m2 m3) (num4 a0 a1 a2 a3) (num4 r0 r1 r2 r3) = true) (v : SV) (K : Bool → SV → List Blk → Prop) (hK : K = FinP v)
    (hv : v = numV apStd (mmul (num4 m0 m1 m2 m3) (num4 a0 a1 a2 a3) (num4 r0 r1 r2 r3))) :
    Shut (afun (cx A L [(64, mmulF N)]) Try.f65 [modV m0 m1 m2 m3 n r0 r1 r2 r3, wordsV a0 a1 a2 a3] [] K) := by
  have h1 : ap2 N okMod (ap4 N num4 m0 m1 m2 m3) n = true := by subst hN; exact hok
  have h2 : ap3 N mcond (ap4 N num4 m0 m1 m2 m3) (ap4 N num4 a0 a1 a2 a3) (ap4 N num4 r0 r1 r2 r3) = true := by subst hN; exact hc
  simp only [ap2, ap3, ap4] at h1 h2
  apply Shut.mk
  cbv
  subst hN; subst hv
  refine fin_of hK ?_ rfl rfl
  simp [h1, h2]

theorem con_min : Con Try.prog 65 (minF apStd) := by
  refine con_shut Try.func65 rfl (by kernel_rfl) (fun args v us hF hv => ?_) (fun args v hF => mod1F_ids hF)
  unfold minF mod1F at hF
  split at hF
  · split at hF
    · rename_i M n r a hm ha
      simp only [Prod.mk.injEq, Bool.and_eq_true, ap2_std, ap3_std] at hF
      obtain ⟨⟨hok, hc⟩, hF⟩ := hF
      obtain ⟨m0, m1, m2, m3, r0, r1, r2, r3, a0, a1, a2, a3, wm, wn, wr, wa, rfl, rfl, rfl, hus⟩ := args_mod_one hm ha hv
      exact ⟨_, _, good (l := [(64, mmulF apStd)]) (by intro p hp; simp at hp; subst hp; exact con_mmul), rfl, by kernel_rfl, hus, Nat.le_of_ble_eq_true rfl, min_vc std (ALoop 0) apStd m0 m1 m2 m3 n r0 r1 r2 r3 a0 a1 a2 a3 rfl rfl rfl hok hc v (FinP v) rfl hF.symm⟩
    · cases hF
  · cases hF

/-! The inverse. -/

def four (l : Int → Int → Int → Int → Prop) : D16 → Prop
  | (a, b, c, d, _) => l a b c d

def invH (m0 m1 m2 m3 n r0 r1 r2 r3 a0 a1 a2 a3 : Int) : Nat → D16 → St
  | _, (u0, u1, u2, u3, v0, v1, v2, v3, x0, x1, x2, x3, y0, y1, y2, y3) => ⟨[(2, .ptr 0 0), (3, .ptr 1 0), (4, .ptr 2 0), (5, .ptr 3 0), (6, .ptr 4 0), (7, .ptr 5 0), (8, .ptr 6 0), (9, .ptr 7 0)],
    [⟨.lit [.int .u64 m0, .int .u64 m1, .int .u64 m2, .int .u64 m3, .int .u64 n, .int .u64 r0, .int .u64 r1, .int .u64 r2, .int .u64 r3], .var⟩, ⟨.lit [.int .u64 a0, .int .u64 a1, .int .u64 a2, .int .u64 a3], .var⟩,
      ⟨.lit [.num .u64 0, .num .u64 0, .num .u64 0, .num .u64 0], .var⟩, ⟨.lit [.num .u64 1, .num .u64 0, .num .u64 0, .num .u64 0], .var⟩, ⟨.lit [.int .u64 u0, .int .u64 u1, .int .u64 u2, .int .u64 u3], .var⟩, ⟨.lit [.int .u64 v0, .int .u64 v1, .int .u64 v2, .int .u64 v3], .var⟩,
      ⟨.lit [.int .u64 x0, .int .u64 x1, .int .u64 x2, .int .u64 x3], .var⟩, ⟨.lit [.int .u64 y0, .int .u64 y1, .int .u64 y2, .int .u64 y3], .var⟩], true⟩

def invEx (S : St) : D16 := (cellI S 4 0, cellI S 4 1, cellI S 4 2, cellI S 4 3, cellI S 5 0, cellI S 5 1, cellI S 5 2, cellI S 5 3, cellI S 6 0, cellI S 6 1, cellI S 6 2, cellI S 6 3, cellI S 7 0, cellI S 7 1, cellI S 7 2, cellI S 7 3)

def invOk (M r : Int) : Nat → D16 → Prop
  | n, (u0, u1, u2, u3, v0, v1, v2, v3, x0, x1, x2, x3, y0, y1, y2, y3) => ((W u0 ∧ W u1 ∧ W u2 ∧ W u3) ∧ (W v0 ∧ W v1 ∧ W v2 ∧ W v3) ∧ (W x0 ∧ W x1 ∧ W x2 ∧ W x3) ∧ (W y0 ∧ W y1 ∧ W y2 ∧ W y3)) ∧
    invS M n (num4 u0 u1 u2 u3) (num4 v0 v1 v2 v3) (num4 x0 x1 x2 x3) (num4 y0 y1 y2 y3) = r

theorem and4_of {a b c d p : Bool} (h : (match a with | false => false | true => match b with | false => false | true => match c with | false => false | true => match d with | false => false | true => true) = p) : (a && (b && (c && d))) = p := by
  cases a <;> cases b <;> cases c <;> cases d <;> cases p <;> simp_all

theorem num4_is {u0 u1 u2 u3 : Int} (hu : W u0 ∧ W u1 ∧ W u2 ∧ W u3) {z : Int} (hz : z = 0 ∨ z = 1) {p : Bool} (h : (icmp .eql u0 z && (icmp .eql u1 0 && (icmp .eql u2 0 && icmp .eql u3 0))) = p) : p = decide (num4 u0 u1 u2 u3 = z) := by
  obtain ⟨h0, h1, h2, h3⟩ := hu
  rw [← h, Bool.eq_iff_iff]
  simp only [icmp, Bool.and_eq_true, beq_iff_eq, decide_eq_true_eq]
  unfold W at *
  unfold num4
  rcases hz with rfl | rfl
  · exact ⟨fun h => by omega, fun h => ⟨by omega, by omega, by omega, by omega⟩⟩
  · exact ⟨fun h => by omega, fun h => ⟨by omega, by omega, by omega, by omega⟩⟩

theorem num4_odd {u0 u1 u2 u3 : Int} (hu : W u0 ∧ W u1 ∧ W u2 ∧ W u3) {p : Bool} (h : icmp .eql (iop .and .u64 u0 1) 0 = p) : p = decide (num4 u0 u1 u2 u3 % 2 = 0) := by
  have := and_mask hu.1 1 (by omega)
  rw [show ((2 : Int) ^ 1 - 1) = 1 from rfl, show ((2 : Int) ^ 1) = 2 from rfl] at this
  rw [this] at h
  rw [← h, Bool.eq_iff_iff]
  simp only [icmp, beq_iff_eq, decide_eq_true_eq]
  unfold num4; omega

theorem half_in {a : Int} (h : 0 ≤ a ∧ a < M256) : 0 ≤ halfN a false ∧ halfN a false < M256 := by
  unfold halfN M256 at *; simp only [Bool.false_eq_true, if_false]; omega

theorem halved_in {M a : Int} (hM : 0 ≤ M ∧ M < M256) (h : 0 ≤ a ∧ a < M256) : 0 ≤ halvedN M a ∧ halvedN M a < M256 := by
  unfold halvedN halfN addm addc M256 at *
  split
  · simp only [Bool.false_eq_true, if_false]; omega
  · split <;> omega

theorem msub_in (M a b : Int) : 0 ≤ msubN M a b ∧ msubN M a b < M256 := by
  unfold msubN
  split
  · exact addm_range _ _
  · exact subm_range _ _

theorem madd_in (M a b : Int) : 0 ≤ maddN M a b ∧ maddN M a b < M256 := by
  unfold maddN
  split
  · exact subm_range _ _
  · exact addm_range _ _

theorem cut_in {M a : Int} (h : 0 ≤ a ∧ a < M256) : 0 ≤ cutN M a ∧ cutN M a < M256 := by
  unfold cutN
  split
  · exact h
  · exact subm_range _ _

theorem inv_next {M r : Int} {k : Nat} {u0 u1 u2 u3 v0 v1 v2 v3 x0 x1 x2 x3 y0 y1 y2 y3 : Int} (hM : 0 ≤ M ∧ M < M256) (hd : invOk M r (k + 1) (u0, u1, u2, u3, v0, v1, v2, v3, x0, x1, x2, x3, y0, y1, y2, y3))
    (n1 : num4 u0 u1 u2 u3 ≠ 1) (n2 : num4 v0 v1 v2 v3 ≠ 1) :
    (num4 u0 u1 u2 u3 % 2 = 0 → ∀ h x', h = halfN (num4 u0 u1 u2 u3) false → x' = halvedN M (num4 x0 x1 x2 x3) → invOk M r k (l0 h, l1 h, l2 h, l3 h, v0, v1, v2, v3, l0 x', l1 x', l2 x', l3 x', y0, y1, y2, y3)) ∧
    (¬ num4 u0 u1 u2 u3 % 2 = 0 → num4 v0 v1 v2 v3 % 2 = 0 → ∀ h y', h = halfN (num4 v0 v1 v2 v3) false → y' = halvedN M (num4 y0 y1 y2 y3) → invOk M r k (u0, u1, u2, u3, l0 h, l1 h, l2 h, l3 h, x0, x1, x2, x3, l0 y', l1 y', l2 y', l3 y')) ∧
    (¬ num4 u0 u1 u2 u3 % 2 = 0 → ¬ num4 v0 v1 v2 v3 % 2 = 0 → 0 ≤ cmpI (num4 u0 u1 u2 u3) (num4 v0 v1 v2 v3) → ∀ h x', h = subm (num4 u0 u1 u2 u3) (num4 v0 v1 v2 v3) → x' = msubN M (num4 x0 x1 x2 x3) (num4 y0 y1 y2 y3) →
      invOk M r k (l0 h, l1 h, l2 h, l3 h, v0, v1, v2, v3, l0 x', l1 x', l2 x', l3 x', y0, y1, y2, y3)) ∧
    (¬ num4 u0 u1 u2 u3 % 2 = 0 → ¬ num4 v0 v1 v2 v3 % 2 = 0 → ¬ 0 ≤ cmpI (num4 u0 u1 u2 u3) (num4 v0 v1 v2 v3) → ∀ h y', h = subm (num4 v0 v1 v2 v3) (num4 u0 u1 u2 u3) → y' = msubN M (num4 y0 y1 y2 y3) (num4 x0 x1 x2 x3) →
      invOk M r k (u0, u1, u2, u3, l0 h, l1 h, l2 h, l3 h, x0, x1, x2, x3, l0 y', l1 y', l2 y', l3 y')) := by
  simp only [invOk] at hd ⊢
  obtain ⟨⟨wu, wv, wx, wy⟩, he⟩ := hd
  have ru := num4_range wu.1 wu.2.1 wu.2.2.1 wu.2.2.2
  have rv := num4_range wv.1 wv.2.1 wv.2.2.1 wv.2.2.2
  have rx := num4_range wx.1 wx.2.1 wx.2.2.1 wx.2.2.2
  have ry := num4_range wy.1 wy.2.1 wy.2.2.1 wy.2.2.2
  have wl : ∀ z, W (l0 z) ∧ W (l1 z) ∧ W (l2 z) ∧ W (l3 z) := fun z => ⟨l0_w z, l1_w z, l2_w z, l3_w z⟩
  simp only [invS] at he
  rw [if_neg n1, if_neg n2] at he
  refine ⟨fun c h x' eh ex => ?_, fun c c2 h y' eh ey => ?_, fun c c2 c3 h x' eh ex => ?_, fun c c2 c3 h y' eh ey => ?_⟩
  · rw [if_pos c] at he
    refine ⟨⟨wl h, wv, wl x', wy⟩, ?_⟩
    rw [num4_mod (by rw [eh]; exact half_in ru), num4_mod (by rw [ex]; exact halved_in hM rx), eh, ex]
    exact he
  · rw [if_neg c, if_pos c2] at he
    refine ⟨⟨wu, wl h, wx, wl y'⟩, ?_⟩
    rw [num4_mod (by rw [eh]; exact half_in rv), num4_mod (by rw [ey]; exact halved_in hM ry), eh, ey]
    exact he
  · rw [if_neg c, if_neg c2, if_pos c3] at he
    refine ⟨⟨wl h, wv, wl x', wy⟩, ?_⟩
    rw [num4_mod (by rw [eh]; exact subm_range _ _), num4_mod (by rw [ex]; exact msub_in _ _ _), eh, ex]
    exact he
  · rw [if_neg c, if_neg c2, if_neg c3] at he
    refine ⟨⟨wu, wl h, wx, wl y'⟩, ?_⟩
    rw [num4_mod (by rw [eh]; exact subm_range _ _), num4_mod (by rw [ey]; exact msub_in _ _ _), eh, ey]
    exact he

theorem inv_end {M r : Int} {k : Nat} {u0 u1 u2 u3 v0 v1 v2 v3 x0 x1 x2 x3 y0 y1 y2 y3 : Int} (hd : invOk M r (k + 1) (u0, u1, u2, u3, v0, v1, v2, v3, x0, x1, x2, x3, y0, y1, y2, y3)) :
    (num4 u0 u1 u2 u3 = 1 → numV apStd r = wordsV x0 x1 x2 x3) ∧ (num4 u0 u1 u2 u3 ≠ 1 → num4 v0 v1 v2 v3 = 1 → numV apStd r = wordsV y0 y1 y2 y3) := by
  simp only [invOk] at hd
  obtain ⟨⟨wu, wv, wx, wy⟩, he⟩ := hd
  simp only [invS] at he
  refine ⟨fun h => ?_, fun h h' => ?_⟩
  · rw [if_pos h] at he
    rw [← he]; exact words_num wx
  · rw [if_neg h, if_pos h'] at he
    rw [← he]; exact words_num wy

theorem minv_vc (A : Ar) (L : LP) (N : Ap) (m0 m1 m2 m3 n r0 r1 r2 r3 a0 a1 a2 a3 : Int) (hL : L = ALoop 0) (hA : A = std) (hN : N = apStd) (hm : W m0 ∧ W m1 ∧ W m2 ∧ W m3) (ha : W a0 ∧ W a1 ∧ W a2 ∧ W a3)
    (hok : 0 ≤ invT (num4 m0 m1 m2 m3) (num4 a0 a1 a2 a3)) (v : SV) (K : Bool → SV → List Blk → Prop) (hK : K = FinP v) (hv : v = numV apStd (invT (num4 m0 m1 m2 m3) (num4 a0 a1 a2 a3))) :
    Shut (afun (cx A L [(83, halfF N), (84, halvedF N), (85, cmpF N), (79, subF N), (69, msubF N)]) Try.f70 [modV m0 m1 m2 m3 n r0 r1 r2 r3, wordsV a0 a1 a2 a3] [] K) := by
  obtain ⟨fi, fc, fw, fb, fn, fo, fs, fa, fe, fz, fy, ff, fl⟩ := A
  obtain ⟨ok, hk⟩ : ∃ f, f = invOk (num4 m0 m1 m2 m3) (invT (num4 m0 m1 m2 m3) (num4 a0 a1 a2 a3)) := ⟨_, rfl⟩
  have hM := num4_range hm.1 hm.2.1 hm.2.2.1 hm.2.2.2
  apply Shut.mk
  cbv
  split <;> cbv
  · rename_i e
    have e := and4_of e
    cases hA
    have e := num4_is ha (.inl rfl) e
    have e : num4 a0 a1 a2 a3 = 0 := by simpa using e.symm
    refine fin_of hK rfl rfl ?_
    have h2 : invT (num4 m0 m1 m2 m3) (num4 a0 a1 a2 a3) = num4 a0 a1 a2 a3 := by unfold invT; rw [if_pos e, e]
    rw [hv, h2, words_num ha]; rfl
  · rename_i e
    refine lp_ex hL 2000 invEx (invH m0 m1 m2 m3 n r0 r1 r2 r3 a0 a1 a2 a3) ok ?_ ?_ hL (.inr rfl)
    · cbv
      have e := and4_of e
      cases hA
      have e := num4_is ha (.inl rfl) e
      have e : num4 a0 a1 a2 a3 ≠ 0 := by simpa using e.symm
      subst hk
      have z : W 0 := by unfold W; omega
      have o : W 1 := by unfold W; omega
      refine ⟨⟨⟨ha, hm, ⟨o, z, z, z⟩, ⟨z, z, z, z⟩⟩, ?_⟩, trivial⟩
      unfold invT
      rw [if_neg e]; rfl
    · intro k hk2 d hd
      obtain ⟨u0, u1, u2, u3, v0, v1, v2, v3, x0, x1, x2, x3, y0, y1, y2, y3⟩ := d
      have hd' : invOk (num4 m0 m1 m2 m3) (invT (num4 m0 m1 m2 m3) (num4 a0 a1 a2 a3)) k (u0, u1, u2, u3, v0, v1, v2, v3, x0, x1, x2, x3, y0, y1, y2, y3) := by rw [← hk]; exact hd
      have hwu := hd'.1.1
      have hwv := hd'.1.2.1
      cases k with
      | zero =>
        have := hd'.2
        simp only [invS] at this
        omega
      | succ k =>
        have nx := inv_next hM hd'
        have en := inv_end hd'
        clear hd' hd
        cbv
        split <;> rename_i e2 <;> simp only [e2] <;> cbv
        · have i2 := and4_of (not_of e2)
          split <;> rename_i e3 <;> simp only [e3] <;> cbv
          · have i3 := and4_of (not_of e3)
            split <;> rename_i e4 <;> (try simp only [e4]) <;> cbv
            · cases hA; subst hN; subst hk
              have i2 : num4 u0 u1 u2 u3 ≠ 1 := by simpa using (num4_is hwu (.inr rfl) i2).symm
              have i3 : num4 v0 v1 v2 v3 ≠ 1 := by simpa using (num4_is hwv (.inr rfl) i3).symm
              have i4 : num4 u0 u1 u2 u3 % 2 = 0 := by simpa using (num4_odd hwu e4).symm
              exact ⟨(nx i2 i3).1 i4 _ _ rfl rfl, trivial⟩
            · split <;> rename_i e5 <;> (try simp only [e5]) <;> cbv
              · cases hA; subst hN; subst hk
                have i2 : num4 u0 u1 u2 u3 ≠ 1 := by simpa using (num4_is hwu (.inr rfl) i2).symm
                have i3 : num4 v0 v1 v2 v3 ≠ 1 := by simpa using (num4_is hwv (.inr rfl) i3).symm
                have i4 : ¬ num4 u0 u1 u2 u3 % 2 = 0 := by simpa using (num4_odd hwu e4).symm
                have i5 : num4 v0 v1 v2 v3 % 2 = 0 := by simpa using (num4_odd hwv e5).symm
                exact ⟨(nx i2 i3).2.1 i4 i5 _ _ rfl rfl, trivial⟩
              · split <;> rename_i e6 <;> (try simp only [e6]) <;> cbv
                · cases hA; subst hN; subst hk
                  have i2 : num4 u0 u1 u2 u3 ≠ 1 := by simpa using (num4_is hwu (.inr rfl) i2).symm
                  have i3 : num4 v0 v1 v2 v3 ≠ 1 := by simpa using (num4_is hwv (.inr rfl) i3).symm
                  have i4 : ¬ num4 u0 u1 u2 u3 % 2 = 0 := by simpa using (num4_odd hwu e4).symm
                  have i5 : ¬ num4 v0 v1 v2 v3 % 2 = 0 := by simpa using (num4_odd hwv e5).symm
                  have i6 : 0 ≤ cmpI (num4 u0 u1 u2 u3) (num4 v0 v1 v2 v3) := by simpa [icmp, apStd] using e6
                  exact ⟨(nx i2 i3).2.2.1 i4 i5 i6 _ _ rfl rfl, trivial⟩
                · cases hA; subst hN; subst hk
                  have i2 : num4 u0 u1 u2 u3 ≠ 1 := by simpa using (num4_is hwu (.inr rfl) i2).symm
                  have i3 : num4 v0 v1 v2 v3 ≠ 1 := by simpa using (num4_is hwv (.inr rfl) i3).symm
                  have i4 : ¬ num4 u0 u1 u2 u3 % 2 = 0 := by simpa using (num4_odd hwu e4).symm
                  have i5 : ¬ num4 v0 v1 v2 v3 % 2 = 0 := by simpa using (num4_odd hwv e5).symm
                  have i6 : ¬ 0 ≤ cmpI (num4 u0 u1 u2 u3) (num4 v0 v1 v2 v3) := by simpa [icmp, apStd] using e6
                  exact ⟨(nx i2 i3).2.2.2 i4 i5 i6 _ _ rfl rfl, trivial⟩
          · have i3 := and4_of (not_of e3)
            have q := not_of e2
            simp only [Bool.not_true] at q
            simp only [q]
            cbv
            cases hA; subst hN; subst hk
            have i2 : num4 u0 u1 u2 u3 ≠ 1 := by simpa using (num4_is hwu (.inr rfl) i2).symm
            have i3 : num4 v0 v1 v2 v3 = 1 := by simpa using (num4_is hwv (.inr rfl) i3).symm
            refine fin_of hK rfl rfl ?_
            rw [hv, en.2 i2 i3]; rfl
        · have i2 := and4_of (not_of e2)
          have q := not_of e2
          simp only [Bool.not_false] at q
          simp only [q]
          cbv
          cases hA; subst hN; subst hk
          have i2 : num4 u0 u1 u2 u3 = 1 := by simpa using (num4_is hwu (.inr rfl) i2).symm
          refine fin_of hK rfl rfl ?_
          rw [hv, en.1 i2]; rfl

theorem con_minv : Con Try.prog 70 (minvF apStd) := by
  refine con_shut Try.func70 rfl (by kernel_rfl) (fun args v us hF hv => ?_) (fun args v hF => mod1F_ids hF)
  unfold minvF mod1F at hF
  split at hF
  · split at hF
    · rename_i M n r a hm ha
      simp only [Prod.mk.injEq, ap2_std, decide_eq_true_eq] at hF
      obtain ⟨hok, hF⟩ := hF
      obtain ⟨m0, m1, m2, m3, r0, r1, r2, r3, a0, a1, a2, a3, wm, wn, wr, wa, rfl, rfl, rfl, hus⟩ := args_mod_one hm ha hv
      exact ⟨_, _, good (l := [(83, halfF apStd), (84, halvedF apStd), (85, cmpF apStd), (79, subF apStd), (69, msubF apStd)])
        (by intro p hp; simp only [List.mem_cons, List.not_mem_nil, or_false] at hp; rcases hp with rfl | rfl | rfl | rfl | rfl; exact con_half; exact con_halved; exact con_limbsCmp; exact con_limbsSub; exact con_msub), rfl, by kernel_rfl, hus, Nat.le_of_ble_eq_true rfl,
        minv_vc std (ALoop 0) apStd m0 m1 m2 m3 n r0 r1 r2 r3 a0 a1 a2 a3 rfl rfl rfl wm wa hok v (FinP v) rfl hF.symm⟩
    · cases hF
  · cases hF

def smV : SV := .agg [.num .u64 17562291160714782033, .num .u64 13611842547513532036, .num .u64 18446744073709551615, .num .u64 18446744069414584320, .num .u64 14758798090332847183, .num .u64 9449762124159643298, .num .u64 5087230966250696614, .num .u64 2901921493521525849, .num .u64 7413256579398063648]

def sqV : SV := .agg [.num .u64 17562291160714782033, .num .u64 13611842547513532036, .num .u64 18446744073709551615, .num .u64 18446744069414584320]

theorem slit : num4 17562291160714782033 13611842547513532036 18446744073709551615 18446744069414584320 = qN := by decide

theorem srr : num4 9449762124159643298 5087230966250696614 2901921493521525849 7413256579398063648 = rrOf qN := by decide

theorem sMod_vc (A : Ar) (L : LP) (v : SV) (K : Bool → SV → List Blk → Prop) (hK : K = FinP v) (hv : v = smV) : Shut (afun (cx A L []) Try.f61 [] [] K) := by
  apply Shut.mk
  cbv
  exact fin_of hK rfl rfl hv

theorem con_sMod : Con Try.prog 61 (nul0F smV) := by
  refine con_shut Try.func61 rfl (by kernel_rfl) (fun args v us hF hv => ?_) (fun args v hF => nul0F_ids hF)
  unfold nul0F at hF
  split at hF
  · simp only [Prod.mk.injEq, true_and] at hF
    exact ⟨_, _, good (l := []) (by simp), rfl, by kernel_rfl, hv, Nat.zero_le _, sMod_vc std (ALoop 0) v (FinP v) rfl hF.symm⟩
  · cases hF

theorem srOrder_vc (A : Ar) (L : LP) (v : SV) (K : Bool → SV → List Blk → Prop) (hK : K = FinP v) (hv : v = sqV) : Shut (afun (cx A L []) Try.f38 [] [] K) := by
  apply Shut.mk
  cbv
  exact fin_of hK rfl rfl hv

theorem con_srOrder : Con Try.prog 38 (nul0F sqV) := by
  refine con_shut Try.func38 rfl (by kernel_rfl) (fun args v us hF hv => ?_) (fun args v hF => nul0F_ids hF)
  unfold nul0F at hF
  split at hF
  · simp only [Prod.mk.injEq, true_and] at hF
    exact ⟨_, _, good (l := []) (by simp), rfl, by kernel_rfl, hv, Nat.zero_le _, srOrder_vc std (ALoop 0) v (FinP v) rfl hF.symm⟩
  · cases hF

theorem sAdd_vc (A : Ar) (L : LP) (N : Ap) (a0 a1 a2 a3 b0 b1 b2 b3 : Int) (hL : L = ALoop 0) (hA : A = std) (hN : N = apStd) (ha : W a0 ∧ W a1 ∧ W a2 ∧ W a3) (hb : W b0 ∧ W b1 ∧ W b2 ∧ W b3) (v : SV) (K : Bool → SV → List Blk → Prop) (hK : K = FinP v) (hv : v = numV apStd (saddN qN (num4 a0 a1 a2 a3) (num4 b0 b1 b2 b3))) :
    Shut (afun (cx A L [(61, nul0F smV), (63, cutF N), (62, maddF N)]) Try.f39 [wordsV a0 a1 a2 a3, wordsV b0 b1 b2 b3] [] K) := by
  apply Shut.mk
  cbv
  subst hN; subst hv
  refine fin_of hK rfl rfl ?_
  simp only [apStd, slit, num4_mod (cut_in (num4_range ha.1 ha.2.1 ha.2.2.1 ha.2.2.2)), num4_mod (cut_in (num4_range hb.1 hb.2.1 hb.2.2.1 hb.2.2.2))]
  rfl

theorem con_sAdd : Con Try.prog 39 (sadd apStd qN) := by
  refine con_shut Try.func39 rfl (by kernel_rfl) (fun args v us hF hv => ?_) (fun args v hF => num2F_ids hF)
  unfold sadd num2F at hF
  split at hF
  · split at hF
    · rename_i a b ha hb
      simp only [Prod.mk.injEq, true_and, ap2_std] at hF
      obtain ⟨a0, a1, a2, a3, b0, b1, b2, b3, wa, wb, rfl, rfl, hus⟩ := args_two ha hb hv
      exact ⟨_, _, good (l := [(61, nul0F smV), (63, cutF apStd), (62, maddF apStd)]) (by intro p hp; simp only [List.mem_cons, List.not_mem_nil, or_false] at hp; rcases hp with rfl | rfl | rfl; exact con_sMod; exact con_cut; exact con_madd), rfl, by kernel_rfl, hus, Nat.le_of_ble_eq_true rfl, sAdd_vc std (ALoop 0) apStd a0 a1 a2 a3 b0 b1 b2 b3 rfl rfl rfl wa wb v (FinP v) rfl hF.symm⟩
    · cases hF
  · cases hF

theorem sSub_vc (A : Ar) (L : LP) (N : Ap) (a0 a1 a2 a3 b0 b1 b2 b3 : Int) (hL : L = ALoop 0) (hA : A = std) (hN : N = apStd) (ha : W a0 ∧ W a1 ∧ W a2 ∧ W a3) (hb : W b0 ∧ W b1 ∧ W b2 ∧ W b3) (v : SV) (K : Bool → SV → List Blk → Prop) (hK : K = FinP v) (hv : v = numV apStd (ssubN qN (num4 a0 a1 a2 a3) (num4 b0 b1 b2 b3))) :
    Shut (afun (cx A L [(61, nul0F smV), (63, cutF N), (69, msubF N)]) Try.f46 [wordsV a0 a1 a2 a3, wordsV b0 b1 b2 b3] [] K) := by
  apply Shut.mk
  cbv
  subst hN; subst hv
  refine fin_of hK rfl rfl ?_
  simp only [apStd, slit, num4_mod (cut_in (num4_range ha.1 ha.2.1 ha.2.2.1 ha.2.2.2)), num4_mod (cut_in (num4_range hb.1 hb.2.1 hb.2.2.1 hb.2.2.2))]
  rfl

theorem con_sSub : Con Try.prog 46 (ssub apStd qN) := by
  refine con_shut Try.func46 rfl (by kernel_rfl) (fun args v us hF hv => ?_) (fun args v hF => num2F_ids hF)
  unfold ssub num2F at hF
  split at hF
  · split at hF
    · rename_i a b ha hb
      simp only [Prod.mk.injEq, true_and, ap2_std] at hF
      obtain ⟨a0, a1, a2, a3, b0, b1, b2, b3, wa, wb, rfl, rfl, hus⟩ := args_two ha hb hv
      exact ⟨_, _, good (l := [(61, nul0F smV), (63, cutF apStd), (69, msubF apStd)]) (by intro p hp; simp only [List.mem_cons, List.not_mem_nil, or_false] at hp; rcases hp with rfl | rfl | rfl; exact con_sMod; exact con_cut; exact con_msub), rfl, by kernel_rfl, hus, Nat.le_of_ble_eq_true rfl, sSub_vc std (ALoop 0) apStd a0 a1 a2 a3 b0 b1 b2 b3 rfl rfl rfl wa wb v (FinP v) rfl hF.symm⟩
    · cases hF
  · cases hF

theorem sMul_vc (A : Ar) (L : LP) (N : Ap) (a0 a1 a2 a3 b0 b1 b2 b3 : Int) (hL : L = ALoop 0) (hA : A = std) (hN : N = apStd) (ha : W a0 ∧ W a1 ∧ W a2 ∧ W a3) (hb : W b0 ∧ W b1 ∧ W b2 ∧ W b3) (v : SV) (K : Bool → SV → List Blk → Prop) (hK : K = FinP v) (hv : v = numV apStd (smulN qN (num4 a0 a1 a2 a3) (num4 b0 b1 b2 b3))) :
    Shut (afun (cx A L [(61, nul0F smV), (65, minF N), (64, mmulF N)]) Try.f40 [wordsV a0 a1 a2 a3, wordsV b0 b1 b2 b3] [] K) := by
  obtain ⟨g1, g2, g3, g4, g5⟩ := qp_range (M := qN) (.inl rfl)
  have hr : ∀ x y, 0 ≤ mmul qN x y ∧ mmul qN x y < qN := mmul_range (by omega)
  have hr2 : ∀ x y, 0 ≤ mmul qN x y ∧ mmul qN x y < M256 := fun x y => ⟨(hr x y).1, by have := (hr x y).2; omega⟩
  apply Shut.mk
  cbv
  subst hN; subst hv
  refine fin_of hK ?_ rfl ?_
  · simp only [apStd, slit, srr, num4_mod (hr2 _ _)]
    have k1 : mcond qN (num4 a0 a1 a2 a3) (rrOf qN) = true := by simp [mcond, g5]
    have k2 : ∀ y, mcond qN (mmul qN (num4 a0 a1 a2 a3) (rrOf qN)) y = true := fun y => by simp [mcond, (hr _ _).2]
    have k3 : okMod qN 14758798090332847183 = true := by decide
    simp only [k1, k2, k3]
    rfl
  · simp only [apStd, slit, srr, num4_mod (hr2 _ _), ← mmul_in (.inl rfl)]
    rfl

theorem con_sMul : Con Try.prog 40 (smul apStd qN) := by
  refine con_shut Try.func40 rfl (by kernel_rfl) (fun args v us hF hv => ?_) (fun args v hF => num2F_ids hF)
  unfold smul num2F at hF
  split at hF
  · split at hF
    · rename_i a b ha hb
      simp only [Prod.mk.injEq, true_and, ap2_std] at hF
      obtain ⟨a0, a1, a2, a3, b0, b1, b2, b3, wa, wb, rfl, rfl, hus⟩ := args_two ha hb hv
      exact ⟨_, _, good (l := [(61, nul0F smV), (65, minF apStd), (64, mmulF apStd)]) (by intro p hp; simp only [List.mem_cons, List.not_mem_nil, or_false] at hp; rcases hp with rfl | rfl | rfl; exact con_sMod; exact con_min; exact con_mmul), rfl, by kernel_rfl, hus, Nat.le_of_ble_eq_true rfl, sMul_vc std (ALoop 0) apStd a0 a1 a2 a3 b0 b1 b2 b3 rfl rfl rfl wa wb v (FinP v) rfl hF.symm⟩
    · cases hF
  · cases hF

theorem sInv_vc (A : Ar) (L : LP) (N : Ap) (a0 a1 a2 a3 : Int) (hL : L = ALoop 0) (hA : A = std) (hN : N = apStd) (ha : W a0 ∧ W a1 ∧ W a2 ∧ W a3) (hok : sinvOk qN (num4 a0 a1 a2 a3) = true) (v : SV) (K : Bool → SV → List Blk → Prop) (hK : K = FinP v) (hv : v = numV apStd (sinvN qN (num4 a0 a1 a2 a3))) :
    Shut (afun (cx A L [(61, nul0F smV), (63, cutF N), (70, minvF N)]) Try.f47 [wordsV a0 a1 a2 a3] [] K) := by
  apply Shut.mk
  cbv
  subst hN; subst hv
  refine fin_of hK ?_ rfl ?_
  · simp only [apStd, slit, num4_mod (cut_in (num4_range ha.1 ha.2.1 ha.2.2.1 ha.2.2.2))]
    simp only [sinvOk, sinvN] at hok
    have k : ∀ b : Bool, b = true → (match b with | false => false | true => true) = true := fun b h => by rw [h]
    exact k _ hok
  · simp only [apStd, slit, num4_mod (cut_in (num4_range ha.1 ha.2.1 ha.2.2.1 ha.2.2.2))]
    rfl

theorem con_sInv : Con Try.prog 47 (sinv apStd qN) := by
  refine con_shut Try.func47 rfl (by kernel_rfl) (fun args v us hF hv => ?_) (fun args v hF => num1F_ids hF)
  unfold sinv num1F at hF
  split at hF
  · split at hF
    · rename_i a ha
      simp only [Prod.mk.injEq, true_and, ap1_std] at hF
      obtain ⟨hok, hF⟩ := hF
      obtain ⟨a0, a1, a2, a3, wa, rfl, hus⟩ := args_one ha hv
      exact ⟨_, _, good (l := [(61, nul0F smV), (63, cutF apStd), (70, minvF apStd)]) (by intro p hp; simp only [List.mem_cons, List.not_mem_nil, or_false] at hp; rcases hp with rfl | rfl | rfl; exact con_sMod; exact con_cut; exact con_minv), rfl, by kernel_rfl, hus, Nat.le_of_ble_eq_true rfl, sInv_vc std (ALoop 0) apStd a0 a1 a2 a3 rfl rfl rfl wa hok v (FinP v) rfl hF.symm⟩
    · cases hF
  · cases hF

theorem srValid_vc (A : Ar) (L : LP) (N : Ap) (a0 a1 a2 a3 : Int) (hL : L = ALoop 0) (hA : A = std) (hN : N = apStd) (ha : W a0 ∧ W a1 ∧ W a2 ∧ W a3) (v : SV) (K : Bool → SV → List Blk → Prop) (hK : K = FinP v) (hv : v = .bool (ltb (num4 a0 a1 a2 a3) qN)) :
    Shut (afun (cx A L [(38, nul0F sqV), (53, cmpF N)]) Try.f25 [wordsV a0 a1 a2 a3] [] K) := by
  apply Shut.mk
  cbv
  subst hN; subst hv; subst hA
  refine fin_of hK rfl rfl ?_
  simp only [apStd, slit, ← cmp_ltb]
  rfl

theorem con_srValid : Con Try.prog 25 (sval apStd qN) := by
  refine con_shut Try.func25 rfl (by kernel_rfl) (fun args v us hF hv => ?_) (fun args v hF => num1F_ids hF)
  unfold sval num1F at hF
  split at hF
  · split at hF
    · rename_i a ha
      simp only [Prod.mk.injEq, true_and, ap1_std] at hF
      obtain ⟨a0, a1, a2, a3, wa, rfl, hus⟩ := args_one ha hv
      exact ⟨_, _, good (l := [(38, nul0F sqV), (53, cmpF apStd)]) (by intro p hp; simp only [List.mem_cons, List.not_mem_nil, or_false] at hp; rcases hp with rfl | rfl; exact con_srOrder; exact con_refCmp), rfl, by kernel_rfl, hus, Nat.le_of_ble_eq_true rfl, srValid_vc std (ALoop 0) apStd a0 a1 a2 a3 rfl rfl rfl wa v (FinP v) rfl hF.symm⟩
    · cases hF
  · cases hF

theorem srMod_vc (A : Ar) (L : LP) (N : Ap) (a0 a1 a2 a3 : Int) (hL : L = ALoop 0) (hA : A = std) (hN : N = apStd) (ha : W a0 ∧ W a1 ∧ W a2 ∧ W a3) (v : SV) (K : Bool → SV → List Blk → Prop) (hK : K = FinP v) (hv : v = numV apStd (cutN qN (num4 a0 a1 a2 a3))) :
    Shut (afun (cx A L [(38, nul0F sqV), (25, sval N qN), (37, subF N)]) Try.f24 [wordsV a0 a1 a2 a3] [] K) := by
  apply Shut.mk
  cbv
  split <;> rename_i e <;> cbv
  · subst hN; subst hv
    have e : ltb (num4 a0 a1 a2 a3) qN = true := e
    refine fin_of hK rfl rfl ?_
    simp only [cutN, e, if_true, words_num ha]; rfl
  · subst hN; subst hv
    have e : ltb (num4 a0 a1 a2 a3) qN = false := e
    refine fin_of hK rfl rfl ?_
    simp only [cutN, e, Bool.false_eq_true, if_false, apStd, slit]; rfl

theorem con_srMod : Con Try.prog 24 (scut apStd qN) := by
  refine con_shut Try.func24 rfl (by kernel_rfl) (fun args v us hF hv => ?_) (fun args v hF => num1F_ids hF)
  unfold scut num1F at hF
  split at hF
  · split at hF
    · rename_i a ha
      simp only [Prod.mk.injEq, true_and, ap1_std] at hF
      obtain ⟨a0, a1, a2, a3, wa, rfl, hus⟩ := args_one ha hv
      exact ⟨_, _, good (l := [(38, nul0F sqV), (25, sval apStd qN), (37, subF apStd)]) (by intro p hp; simp only [List.mem_cons, List.not_mem_nil, or_false] at hp; rcases hp with rfl | rfl | rfl; exact con_srOrder; exact con_srValid; exact con_refSub), rfl, by kernel_rfl, hus, Nat.le_of_ble_eq_true rfl, srMod_vc std (ALoop 0) apStd a0 a1 a2 a3 rfl rfl rfl wa v (FinP v) rfl hF.symm⟩
    · cases hF
  · cases hF

theorem srAdd_vc (A : Ar) (L : LP) (N : Ap) (a0 a1 a2 a3 b0 b1 b2 b3 : Int) (hL : L = ALoop 0) (hA : A = std) (hN : N = apStd) (ha : W a0 ∧ W a1 ∧ W a2 ∧ W a3) (hb : W b0 ∧ W b1 ∧ W b2 ∧ W b3) (Q : Int) (hQ : Q = qN) (v : SV) (K : Bool → SV → List Blk → Prop) (hK : K = FinP v) (hv : v = numV apStd (saddN qN (num4 a0 a1 a2 a3) (num4 b0 b1 b2 b3))) :
    Shut (afun (cx A L [(38, nul0F sqV), (24, scut N Q), (66, addF N), (37, subF N)]) Try.f42 [wordsV a0 a1 a2 a3, wordsV b0 b1 b2 b3] [] K) := by
  have ca := num4_mod (cut_in (M := Q) (num4_range ha.1 ha.2.1 ha.2.2.1 ha.2.2.2))
  have cb := num4_mod (cut_in (M := Q) (num4_range hb.1 hb.2.1 hb.2.2.1 hb.2.2.2))
  have cs := num4_mod (addm_range (cutN Q (num4 a0 a1 a2 a3)) (cutN Q (num4 b0 b1 b2 b3)))
  have lit' : num4 17562291160714782033 13611842547513532036 18446744073709551615 18446744069414584320 = Q := by rw [hQ]; exact slit
  rw [← hQ] at hv
  apply Shut.mk
  cbv
  split <;> rename_i e <;> cbv
  · subst hN; subst hv
    have e : addc (num4 (l0 (cutN Q (num4 a0 a1 a2 a3))) (l1 (cutN Q (num4 a0 a1 a2 a3))) (l2 (cutN Q (num4 a0 a1 a2 a3))) (l3 (cutN Q (num4 a0 a1 a2 a3)))) (num4 (l0 (cutN Q (num4 b0 b1 b2 b3))) (l1 (cutN Q (num4 b0 b1 b2 b3))) (l2 (cutN Q (num4 b0 b1 b2 b3))) (l3 (cutN Q (num4 b0 b1 b2 b3)))) = true := e
    rw [ca, cb] at e
    refine fin_of hK rfl rfl ?_
    simp only [saddN, maddN, e, Bool.true_or, if_true, apStd, lit', ca, cb, cs]; rfl
  · subst hN; subst hv
    have e : addc (num4 (l0 (cutN Q (num4 a0 a1 a2 a3))) (l1 (cutN Q (num4 a0 a1 a2 a3))) (l2 (cutN Q (num4 a0 a1 a2 a3))) (l3 (cutN Q (num4 a0 a1 a2 a3)))) (num4 (l0 (cutN Q (num4 b0 b1 b2 b3))) (l1 (cutN Q (num4 b0 b1 b2 b3))) (l2 (cutN Q (num4 b0 b1 b2 b3))) (l3 (cutN Q (num4 b0 b1 b2 b3)))) = false := e
    rw [ca, cb] at e
    refine fin_of hK rfl rfl ?_
    have ec : ∀ s, (if (false || !(ltb s Q)) = true then subm s Q else s) = cutN Q s := fun s => by unfold cutN; cases ltb s Q <;> rfl
    simp only [saddN, maddN, e, ec, apStd, ca, cb, cs]; rfl

theorem con_srAdd : Con Try.prog 42 (sadd apStd qN) := by
  refine con_shut Try.func42 rfl (by kernel_rfl) (fun args v us hF hv => ?_) (fun args v hF => num2F_ids hF)
  unfold sadd num2F at hF
  split at hF
  · split at hF
    · rename_i a b ha hb
      simp only [Prod.mk.injEq, true_and, ap2_std] at hF
      obtain ⟨a0, a1, a2, a3, b0, b1, b2, b3, wa, wb, rfl, rfl, hus⟩ := args_two ha hb hv
      exact ⟨_, _, good (l := [(38, nul0F sqV), (24, scut apStd qN), (66, addF apStd), (37, subF apStd)]) (by intro p hp; simp only [List.mem_cons, List.not_mem_nil, or_false] at hp; rcases hp with rfl | rfl | rfl | rfl; exact con_srOrder; exact con_srMod; exact con_refAdd; exact con_refSub), rfl, by kernel_rfl, hus, Nat.le_of_ble_eq_true rfl, srAdd_vc std (ALoop 0) apStd a0 a1 a2 a3 b0 b1 b2 b3 rfl rfl rfl wa wb qN rfl v (FinP v) rfl hF.symm⟩
    · cases hF
  · cases hF

theorem srSub_vc (A : Ar) (L : LP) (N : Ap) (a0 a1 a2 a3 b0 b1 b2 b3 : Int) (hL : L = ALoop 0) (hA : A = std) (hN : N = apStd) (ha : W a0 ∧ W a1 ∧ W a2 ∧ W a3) (hb : W b0 ∧ W b1 ∧ W b2 ∧ W b3) (Q : Int) (hQ : Q = qN) (v : SV) (K : Bool → SV → List Blk → Prop) (hK : K = FinP v) (hv : v = numV apStd (ssubN qN (num4 a0 a1 a2 a3) (num4 b0 b1 b2 b3))) :
    Shut (afun (cx A L [(38, nul0F sqV), (24, scut N Q), (66, addF N), (37, subF N)]) Try.f49 [wordsV a0 a1 a2 a3, wordsV b0 b1 b2 b3] [] K) := by
  have ca := num4_mod (cut_in (M := Q) (num4_range ha.1 ha.2.1 ha.2.2.1 ha.2.2.2))
  have cb := num4_mod (cut_in (M := Q) (num4_range hb.1 hb.2.1 hb.2.2.1 hb.2.2.2))
  have cs := num4_mod (subm_range (cutN Q (num4 a0 a1 a2 a3)) (cutN Q (num4 b0 b1 b2 b3)))
  have lit' : num4 17562291160714782033 13611842547513532036 18446744073709551615 18446744069414584320 = Q := by rw [hQ]; exact slit
  rw [← hQ] at hv
  apply Shut.mk
  cbv
  split <;> rename_i e <;> cbv
  · subst hN; subst hv
    have e : ltb (num4 (l0 (cutN Q (num4 a0 a1 a2 a3))) (l1 (cutN Q (num4 a0 a1 a2 a3))) (l2 (cutN Q (num4 a0 a1 a2 a3))) (l3 (cutN Q (num4 a0 a1 a2 a3)))) (num4 (l0 (cutN Q (num4 b0 b1 b2 b3))) (l1 (cutN Q (num4 b0 b1 b2 b3))) (l2 (cutN Q (num4 b0 b1 b2 b3))) (l3 (cutN Q (num4 b0 b1 b2 b3)))) = true := e
    rw [ca, cb] at e
    refine fin_of hK rfl rfl ?_
    simp only [ssubN, msubN, e, if_true, apStd, lit', ca, cb, cs]; rfl
  · subst hN; subst hv
    have e : ltb (num4 (l0 (cutN Q (num4 a0 a1 a2 a3))) (l1 (cutN Q (num4 a0 a1 a2 a3))) (l2 (cutN Q (num4 a0 a1 a2 a3))) (l3 (cutN Q (num4 a0 a1 a2 a3)))) (num4 (l0 (cutN Q (num4 b0 b1 b2 b3))) (l1 (cutN Q (num4 b0 b1 b2 b3))) (l2 (cutN Q (num4 b0 b1 b2 b3))) (l3 (cutN Q (num4 b0 b1 b2 b3)))) = false := e
    rw [ca, cb] at e
    refine fin_of hK rfl rfl ?_
    simp only [ssubN, msubN, e, Bool.false_eq_true, if_false, apStd, ca, cb]; rfl

theorem con_srSub : Con Try.prog 49 (ssub apStd qN) := by
  refine con_shut Try.func49 rfl (by kernel_rfl) (fun args v us hF hv => ?_) (fun args v hF => num2F_ids hF)
  unfold ssub num2F at hF
  split at hF
  · split at hF
    · rename_i a b ha hb
      simp only [Prod.mk.injEq, true_and, ap2_std] at hF
      obtain ⟨a0, a1, a2, a3, b0, b1, b2, b3, wa, wb, rfl, rfl, hus⟩ := args_two ha hb hv
      exact ⟨_, _, good (l := [(38, nul0F sqV), (24, scut apStd qN), (66, addF apStd), (37, subF apStd)]) (by intro p hp; simp only [List.mem_cons, List.not_mem_nil, or_false] at hp; rcases hp with rfl | rfl | rfl | rfl; exact con_srOrder; exact con_srMod; exact con_refAdd; exact con_refSub), rfl, by kernel_rfl, hus, Nat.le_of_ble_eq_true rfl, srSub_vc std (ALoop 0) apStd a0 a1 a2 a3 b0 b1 b2 b3 rfl rfl rfl wa wb qN rfl v (FinP v) rfl hF.symm⟩
    · cases hF
  · cases hF

theorem mkb_byts (x : ByteArray) : mkb (byts x) = x := by
  have h := mkb_list (byts x) ByteArray.empty
  have e : (mkb (byts x)).data.toList = x.data.toList := by
    unfold mkb
    rw [h]
    simp only [byts, List.map_map]
    have : (fun n : Int => UInt8.ofNat n.toNat) ∘ (fun b : UInt8 => (b.toNat : Int)) = id := by
      funext b; simp
    rw [this]; simp
  have e2 : (mkb (byts x)).data = x.data := Array.toList_inj.1 e
  cases hm : mkb (byts x)
  cases x
  rw [hm] at e2
  simp only at e2
  rw [e2]

def swide (s : ByteArray) : Int := if s.size = 64 then (fromN (s.extract 32 64) + M256 * fromN (s.extract 0 32)) % qN else 0

def swideE (s : ByteArray) : Int := if s.size = 64 then 0 else 2

def swideF (A : Ar) (N : Ap) : List SV → Bool × SV
  | [.str s] => (A.icmp .leq (A.ofNat (A.size s)) 9223372036854775807, .tup [numV N (ap1 N swide s), .int .i64 (ap1 N swideE s)])
  | _ => (false, .bad)

theorem swideF_ids {A : Ar} {N : Ap} {args : List SV} {v : SV} (hF : swideF A N args = (true, v)) : SV.idsLts 0 args = true := by
  unfold swideF at hF
  split at hF
  · rfl
  · cases hF

theorem from_range (s : ByteArray) : 0 ≤ fromN s ∧ fromN s < M256 := by
  unfold fromN
  split
  · exact num4_range (wd_w s 24) (wd_w s 16) (wd_w s 8) (wd_w s 0)
  · decide

theorem swide_eq {s : ByteArray} (h : s.size = 64) : maddN qN (mmul qN (fromN (s.extract 0 32)) (rrOf qN)) (cutN qN (fromN (s.extract 32 64))) = swide s := by
  obtain ⟨g1, g2, g3, g4, g5⟩ := qp_range (M := qN) (.inl rfl)
  have r1 := mmul_range (show 0 < qN by omega) (fromN (s.extract 0 32)) (rrOf qN)
  obtain ⟨c1, c2, c3⟩ := cut_range g1 g2 (from_range (s.extract 32 64))
  rw [(madd_range g1 g2 r1 ⟨c1, c2⟩).2.2, c3, mmul_in1 (.inl rfl)]
  unfold swide
  rw [if_pos h, ← Int.add_emod, Int.add_comm]

def smallF (N : Ap) : List SV → Bool × SV
  | [x] => match x.u64 with
    | some x => (true, .agg [.int .u64 x, .num .u64 0, .num .u64 0, .num .u64 0])
    | _ => (false, .bad)
  | _ => (false, .bad)

theorem smallF_ids {N : Ap} {args : List SV} {v : SV} (hF : smallF N args = (true, v)) : SV.idsLts 0 args = true := by
  unfold smallF at hF
  split at hF
  · split at hF
    · rename_i ha
      simp [SV.idsLts, u64_ids ha]
    · cases hF
  · cases hF

theorem small_vc (A : Ar) (L : LP) (N : Ap) (x : Int) (v : SV) (K : Bool → SV → List Blk → Prop) (hK : K = FinP v) (hv : v = .agg [.int .u64 x, .num .u64 0, .num .u64 0, .num .u64 0]) :
    Shut (afun (cx A L []) Try.f48 [.int .u64 x] [] K) := by
  apply Shut.mk
  cbv
  exact fin_of hK rfl rfl hv

theorem con_small : Con Try.prog 48 (smallF apStd) := by
  refine con_shut Try.func48 rfl (by kernel_rfl) (fun args v us hF hv => ?_) (fun args v hF => smallF_ids hF)
  unfold smallF at hF
  split at hF
  · split at hF
    · rename_i x n hx
      simp only [Prod.mk.injEq, true_and] at hF
      obtain ⟨u, rfl, hu⟩ := vals_sole hv
      obtain ⟨rfl, wa⟩ := u64_of hx hu
      exact ⟨_, [.int .u64 n], good (l := []) (by simp), rfl, by kernel_rfl, by simp [SV.vals, SV.val, W_u64 wa], Nat.le_of_ble_eq_true rfl, small_vc std (ALoop 0) apStd n v (FinP v) rfl hF.symm⟩
    · cases hF
  · cases hF

theorem rhalf_vc (A : Ar) (L : LP) (a0 a1 a2 a3 : Int) (t : Bool) (hL : L = ALoop 0) (hA : A = std) (ha : W a0 ∧ W a1 ∧ W a2 ∧ W a3) (v : SV) (K : Bool → SV → List Blk → Prop) (hK : K = FinP v)
    (hv : v = numV apStd (halfN (num4 a0 a1 a2 a3) t)) :
    Shut (afun (cx A L []) Try.f71 [wordsV a0 a1 a2 a3, .bool t] [] K) := by
  obtain ⟨h0, h1, h2, h3⟩ := ha
  cases t
  · obtain ⟨e0, e1, e2, e3⟩ := half_words h0 h1 h2 h3 false
    apply Shut.mk
    cbv
    refine lp_rounds hL 5 hL (.inr rfl) ?_
    cbv
    subst hA; subst hv
    refine fin_of hK (by simp [std, icmp]) rfl ?_
    have k : iop .shr .u64 a3 1 = a3 / 2 := shr_lit a3 1 (by omega)
    simp [oneTup, numV, ap1, apStd, e0, e1, e2, e3, std, half_or h0, half_or h1, half_or h2, k]
  · obtain ⟨e0, e1, e2, e3⟩ := half_words h0 h1 h2 h3 true
    apply Shut.mk
    cbv
    refine lp_rounds hL 5 hL (.inr rfl) ?_
    cbv
    subst hA; subst hv
    refine fin_of hK (by simp [std, icmp]) rfl ?_
    have k : iop .or .u64 (iop .shr .u64 a3 1) 9223372036854775808 = a3 / 2 + 9223372036854775808 := half_or (y := 1) h3
    simp [oneTup, numV, ap1, apStd, e0, e1, e2, e3, std, half_or h0, half_or h1, half_or h2, k]

theorem con_rhalf : Con Try.prog 71 (halfF apStd) := by
  refine con_shut Try.func71 rfl (by kernel_rfl) (fun args v us hF hv => ?_) (fun args v hF => halfF_ids hF)
  unfold halfF at hF
  split at hF
  · split at hF
    · rename_i t _ a ha
      simp only [Prod.mk.injEq, true_and, ap2_std] at hF
      obtain ⟨a0, a1, a2, a3, wa, rfl, hus⟩ := args_num_bool ha hv
      exact ⟨_, _, good (l := []) (by simp), rfl, by kernel_rfl, hus, Nat.le_of_ble_eq_true rfl, rhalf_vc std (ALoop 0) a0 a1 a2 a3 _ rfl rfl wa v (FinP v) rfl hF.symm⟩
    · cases hF
  · cases hF

theorem rem2 (a : Int) (ha : W a) : iop .rem .u64 a 2 = a % 2 := by
  have h1 : iop .rem .u64 a 2 = Int.tmod a 2 := rfl
  rw [h1, Int.tmod_eq_emod_of_nonneg ha.1]

theorem rhalved_vc (A : Ar) (L : LP) (N : Ap) (Q : Int) (a0 a1 a2 a3 : Int) (hL : L = ALoop 0) (hA : A = std) (hN : N = apStd) (hQ : Q = qN) (ha : W a0 ∧ W a1 ∧ W a2 ∧ W a3) (v : SV) (K : Bool → SV → List Blk → Prop) (hK : K = FinP v)
    (hv : v = numV apStd (halvedN Q (num4 a0 a1 a2 a3))) :
    Shut (afun (cx A L [(71, halfF N), (66, addF N), (38, nul0F sqV)]) Try.f72 [wordsV a0 a1 a2 a3] [] K) := by
  obtain ⟨fi, fc, fw, fb, fn, fo, fs, fa, fe, fz, fy, ff, fl⟩ := A
  have lit' : num4 17562291160714782033 13611842547513532036 18446744073709551615 18446744069414584320 = Q := by rw [hQ]; exact slit
  have hl := num4_mod (addm_range (num4 a0 a1 a2 a3) Q)
  have par : iop .rem .u64 a0 2 = num4 a0 a1 a2 a3 % 2 := by rw [rem2 a0 ha.1]; unfold num4; omega
  apply Shut.mk
  cbv
  split <;> cbv
  · rename_i e
    cases hA; subst hN; subst hv
    have e : num4 a0 a1 a2 a3 % 2 = 0 := by simpa [icmp, par] using e
    refine fin_of hK rfl rfl ?_
    simp only [halvedN, e, if_true]; rfl
  · rename_i e
    cases hA; subst hN; subst hv
    have e : ¬ num4 a0 a1 a2 a3 % 2 = 0 := by simpa [icmp, par] using e
    refine fin_of hK rfl rfl ?_
    simp only [halvedN, e, if_false]
    simp only [apStd, lit', hl]; rfl

theorem con_rhalved : Con Try.prog 72 (shalf apStd qN) := by
  refine con_shut Try.func72 rfl (by kernel_rfl) (fun args v us hF hv => ?_) (fun args v hF => num1F_ids hF)
  unfold shalf num1F at hF
  split at hF
  · split at hF
    · rename_i a ha
      simp only [Prod.mk.injEq, true_and, ap1_std] at hF
      obtain ⟨a0, a1, a2, a3, wa, rfl, hus⟩ := args_one ha hv
      exact ⟨_, _, good (l := [(71, halfF apStd), (66, addF apStd), (38, nul0F sqV)]) (by intro p hp; simp only [List.mem_cons, List.not_mem_nil, or_false] at hp; rcases hp with rfl | rfl | rfl; exact con_rhalf; exact con_refAdd; exact con_srOrder), rfl, by kernel_rfl, hus, Nat.le_of_ble_eq_true rfl,
        rhalved_vc std (ALoop 0) apStd qN a0 a1 a2 a3 rfl rfl rfl rfl wa v (FinP v) rfl hF.symm⟩
    · cases hF
  · cases hF

def rinvH (a0 a1 a2 a3 : Int) : Nat → D16 × Int → St
  | _, ((u0, u1, u2, u3, v0, v1, v2, v3, x0, x1, x2, x3, y0, y1, y2, y3), i) => ⟨[(1, .ptr 0 0), (2, .ptr 1 0), (3, .ptr 2 0), (4, .ptr 3 0), (5, .ptr 4 0), (6, .ptr 5 0), (7, .ptr 6 0), (8, .int .i64 i)],
    [⟨.lit [.int .u64 a0, .int .u64 a1, .int .u64 a2, .int .u64 a3], .var⟩, ⟨.lit [.num .u64 0, .num .u64 0, .num .u64 0, .num .u64 0], .var⟩,
      ⟨.lit [.int .u64 u0, .int .u64 u1, .int .u64 u2, .int .u64 u3], .var⟩, ⟨.lit [.int .u64 v0, .int .u64 v1, .int .u64 v2, .int .u64 v3], .var⟩,
      ⟨.lit [.int .u64 x0, .int .u64 x1, .int .u64 x2, .int .u64 x3], .var⟩, ⟨.lit [.int .u64 y0, .int .u64 y1, .int .u64 y2, .int .u64 y3], .var⟩, ⟨.lit [.int .u64 1, .num .u64 0, .num .u64 0, .num .u64 0], .var⟩], true⟩

def rinvEx (S : St) : D16 × Int := ((cellI S 2 0, cellI S 2 1, cellI S 2 2, cellI S 2 3, cellI S 3 0, cellI S 3 1, cellI S 3 2, cellI S 3 3, cellI S 4 0, cellI S 4 1, cellI S 4 2, cellI S 4 3, cellI S 5 0, cellI S 5 1, cellI S 5 2, cellI S 5 3), slotI S 8)

def rinvOk (M r : Int) (n : Nat) (d : D16 × Int) : Prop := (match d.1 with
  | (_, _, _, _, _, _, _, _, x0, x1, x2, x3, y0, y1, y2, y3) => num4 x0 x1 x2 x3 < M ∧ num4 y0 y1 y2 y3 < M) ∧ d.2 = 2000 - n ∧ invOk M r n d.1

theorem cut_id {M a : Int} (h : a < M) : cutN M a = a := by unfold cutN ltb; simp [h]

theorem rinv_next {M r : Int} {k : Nat} {u0 u1 u2 u3 v0 v1 v2 v3 x0 x1 x2 x3 y0 y1 y2 y3 i : Int} (hM : M = qN ∨ M = pN) (hd : rinvOk M r (k + 1) ((u0, u1, u2, u3, v0, v1, v2, v3, x0, x1, x2, x3, y0, y1, y2, y3), i))
    (n1 : num4 u0 u1 u2 u3 ≠ 1) (n2 : num4 v0 v1 v2 v3 ≠ 1) {i' : Int} (hi : i' = i + 1) :
    (num4 u0 u1 u2 u3 % 2 = 0 → ∀ h x', h = halfN (num4 u0 u1 u2 u3) false → x' = halvedN M (num4 x0 x1 x2 x3) → rinvOk M r k ((l0 h, l1 h, l2 h, l3 h, v0, v1, v2, v3, l0 x', l1 x', l2 x', l3 x', y0, y1, y2, y3), i')) ∧
    (¬ num4 u0 u1 u2 u3 % 2 = 0 → num4 v0 v1 v2 v3 % 2 = 0 → ∀ h y', h = halfN (num4 v0 v1 v2 v3) false → y' = halvedN M (num4 y0 y1 y2 y3) → rinvOk M r k ((u0, u1, u2, u3, l0 h, l1 h, l2 h, l3 h, x0, x1, x2, x3, l0 y', l1 y', l2 y', l3 y'), i')) ∧
    (¬ num4 u0 u1 u2 u3 % 2 = 0 → ¬ num4 v0 v1 v2 v3 % 2 = 0 → 0 ≤ cmpI (num4 u0 u1 u2 u3) (num4 v0 v1 v2 v3) → ∀ h x', h = subm (num4 u0 u1 u2 u3) (num4 v0 v1 v2 v3) → x' = ssubN M (num4 x0 x1 x2 x3) (num4 y0 y1 y2 y3) →
      rinvOk M r k ((l0 h, l1 h, l2 h, l3 h, v0, v1, v2, v3, l0 x', l1 x', l2 x', l3 x', y0, y1, y2, y3), i')) ∧
    (¬ num4 u0 u1 u2 u3 % 2 = 0 → ¬ num4 v0 v1 v2 v3 % 2 = 0 → ¬ 0 ≤ cmpI (num4 u0 u1 u2 u3) (num4 v0 v1 v2 v3) → ∀ h y', h = subm (num4 v0 v1 v2 v3) (num4 u0 u1 u2 u3) → y' = ssubN M (num4 y0 y1 y2 y3) (num4 x0 x1 x2 x3) →
      rinvOk M r k ((u0, u1, u2, u3, l0 h, l1 h, l2 h, l3 h, x0, x1, x2, x3, l0 y', l1 y', l2 y', l3 y'), i')) := by
  obtain ⟨g1, g2, g3, _⟩ := qp_range hM
  obtain ⟨⟨hx, hy⟩, hi0, hd⟩ := hd
  have nx := inv_next (M := M) ⟨by omega, by omega⟩ hd n1 n2
  obtain ⟨⟨wu, wv, wx, wy⟩, _⟩ := hd
  have rx := num4_range wx.1 wx.2.1 wx.2.2.1 wx.2.2.2
  have ry := num4_range wy.1 wy.2.1 wy.2.2.1 wy.2.2.2
  have hi2 : i' = 2000 - (k : Int) := by simp only at hi0; omega
  have hX := halved_range g1 g2 g3 ⟨rx.1, hx⟩
  have hY := halved_range g1 g2 g3 ⟨ry.1, hy⟩
  have sX := msub_range g1 g2 ⟨rx.1, hx⟩ ⟨ry.1, hy⟩
  have sY := msub_range g1 g2 ⟨ry.1, hy⟩ ⟨rx.1, hx⟩
  have c1 : ssubN M (num4 x0 x1 x2 x3) (num4 y0 y1 y2 y3) = msubN M (num4 x0 x1 x2 x3) (num4 y0 y1 y2 y3) := by unfold ssubN; rw [cut_id hx, cut_id hy]
  have c2 : ssubN M (num4 y0 y1 y2 y3) (num4 x0 x1 x2 x3) = msubN M (num4 y0 y1 y2 y3) (num4 x0 x1 x2 x3) := by unfold ssubN; rw [cut_id hx, cut_id hy]
  have w : ∀ z, 0 ≤ z → z < M → num4 (l0 z) (l1 z) (l2 z) (l3 z) < M := fun z h0 h1 => by rw [num4_mod ⟨h0, by omega⟩]; exact h1
  refine ⟨fun c h x' eh ex => ⟨⟨?_, hy⟩, hi2, nx.1 c h x' eh ex⟩, fun c c2 h y' eh ey => ⟨⟨hx, ?_⟩, hi2, nx.2.1 c c2 h y' eh ey⟩, fun c c2 c3 h x' eh ex => ?_, fun c c2' c3 h y' eh ey => ?_⟩
  · rw [ex]; exact w _ hX.1 hX.2.1
  · rw [ey]; exact w _ hY.1 hY.2.1
  · rw [c1] at ex
    exact ⟨⟨by rw [ex]; exact w _ sX.1 sX.2.1, hy⟩, hi2, nx.2.2.1 c c2 c3 h x' eh ex⟩
  · rw [c2] at ey
    exact ⟨⟨hx, by rw [ey]; exact w _ sY.1 sY.2.1⟩, hi2, nx.2.2.2 c c2' c3 h y' eh ey⟩

theorem num4_rem {u0 u1 u2 u3 : Int} (hu : W u0 ∧ W u1 ∧ W u2 ∧ W u3) {p : Bool} (h : icmp .eql (iop .rem .u64 u0 2) 0 = p) : p = decide (num4 u0 u1 u2 u3 % 2 = 0) := by
  rw [rem2 _ hu.1] at h
  rw [← h, Bool.eq_iff_iff]
  simp only [icmp, beq_iff_eq, decide_eq_true_eq]
  unfold num4; omega

theorem rinv_vc (A : Ar) (L : LP) (N : Ap) (Q : Int) (a0 a1 a2 a3 : Int) (hL : L = ALoop 0) (hA : A = std) (hN : N = apStd) (hQ : Q = qN) (ha : W a0 ∧ W a1 ∧ W a2 ∧ W a3)
    (hok : 0 ≤ sinvN Q (num4 a0 a1 a2 a3)) (v : SV) (K : Bool → SV → List Blk → Prop) (hK : K = FinP v) (hv : v = numV apStd (sinvN Q (num4 a0 a1 a2 a3))) :
    Shut (afun (cx A L [(24, scut N Q), (38, nul0F sqV), (48, smallF N), (71, halfF N), (72, shalf N Q), (53, cmpF N), (37, subF N), (49, ssub N Q)]) Try.f50 [wordsV a0 a1 a2 a3] [] K) := by
  obtain ⟨fi, fc, fw, fb, fn, fo, fs, fa, fe, fz, fy, ff, fl⟩ := A
  obtain ⟨ok, hk⟩ : ∃ f, f = rinvOk Q (sinvN Q (num4 a0 a1 a2 a3)) := ⟨_, rfl⟩
  have lit' : num4 17562291160714782033 13611842547513532036 18446744073709551615 18446744069414584320 = Q := by rw [hQ]; exact slit
  have hq : Q = qN ∨ Q = pN := .inl hQ
  obtain ⟨c, hc⟩ : ∃ c, ap1 N (cutN Q) (ap4 N num4 a0 a1 a2 a3) = c := ⟨_, rfl⟩
  have hc' : cutN Q (num4 a0 a1 a2 a3) = c := by subst hN; exact hc
  have rc : 0 ≤ c ∧ c < M256 := by rw [← hc']; exact cut_in (num4_range ha.1 ha.2.1 ha.2.2.1 ha.2.2.2)
  have wc : W (l0 c) ∧ W (l1 c) ∧ W (l2 c) ∧ W (l3 c) := ⟨l0_w c, l1_w c, l2_w c, l3_w c⟩
  simp only [ap1, ap4] at hc
  apply Shut.mk
  cbv
  simp only [hc]
  split <;> cbv
  · rename_i e
    have e := and4_of e
    cases hA; subst hN
    have e := num4_is wc (.inl rfl) e
    rw [num4_mod rc] at e
    have e : c = 0 := by simpa using e.symm
    refine fin_of hK rfl rfl ?_
    have h2 : sinvN Q (num4 a0 a1 a2 a3) = c := by unfold sinvN invT; rw [hc', if_pos e, e]
    rw [hv, h2]; rfl
  · rename_i e
    refine lp_ex hL 2000 rinvEx (rinvH a0 a1 a2 a3) ok ?_ ?_ hL (.inr rfl)
    · cbv
      have e := and4_of e
      cases hA; subst hN
      have e := num4_is wc (.inl rfl) e
      rw [num4_mod rc] at e
      have e : c ≠ 0 := by simpa using e.symm
      subst hk
      have z : W 0 := by unfold W; omega
      have o : W 1 := by unfold W; omega
      have wq : W 17562291160714782033 ∧ W 13611842547513532036 ∧ W 18446744073709551615 ∧ W 18446744069414584320 := by unfold W; omega
      refine ⟨⟨⟨?_, ?_⟩, rfl, ⟨wc, wq, ⟨o, z, z, z⟩, ⟨z, z, z, z⟩⟩, ?_⟩, trivial⟩
      · rw [hQ]; decide
      · rw [hQ]; decide
      · show invS Q 2000 (num4 (l0 c) (l1 c) (l2 c) (l3 c)) (num4 17562291160714782033 13611842547513532036 18446744073709551615 18446744069414584320) (num4 1 0 0 0) (num4 0 0 0 0) = _
        rw [num4_mod rc, lit']
        unfold sinvN invT
        rw [hc', if_neg e]; rfl
    · intro k hk2 d hd
      obtain ⟨⟨u0, u1, u2, u3, v0, v1, v2, v3, x0, x1, x2, x3, y0, y1, y2, y3⟩, i⟩ := d
      have hd' : rinvOk Q (sinvN Q (num4 a0 a1 a2 a3)) k ((u0, u1, u2, u3, v0, v1, v2, v3, x0, x1, x2, x3, y0, y1, y2, y3), i) := by rw [← hk]; exact hd
      have hwu := hd'.2.2.1.1
      have hwv := hd'.2.2.1.2.1
      have hi : i = 2000 - (k : Int) := hd'.2.1
      cases k with
      | zero =>
        have := hd'.2.2.2
        simp only [invS] at this
        omega
      | succ k =>
        have en := inv_end hd'.2.2
        have hlt : fc .lss i 2000 = true := by cases hA; simp [icmp]; omega
        have hadd : fi .add .i64 i 1 = i + 1 := by
          cases hA
          show IntKind.i64.wrap (i + 1) = _
          rw [IntKind.wrap_i64]; omega
        have nx := fun n1 n2 => rinv_next hq hd' n1 n2 hadd
        clear hd' hd
        cbv
        simp only [hlt]
        cbv
        split <;> rename_i e2 <;> simp only [e2] <;> cbv
        · have i2 := and4_of (not_of e2)
          split <;> rename_i e3 <;> simp only [e3] <;> cbv
          · have i3 := and4_of (not_of e3)
            split <;> rename_i e4 <;> (try simp only [e4]) <;> cbv
            · cases hA; subst hN; subst hk
              have i2 : num4 u0 u1 u2 u3 ≠ 1 := by simpa using (num4_is hwu (.inr rfl) i2).symm
              have i3 : num4 v0 v1 v2 v3 ≠ 1 := by simpa using (num4_is hwv (.inr rfl) i3).symm
              have i4 : num4 u0 u1 u2 u3 % 2 = 0 := by simpa using (num4_rem hwu e4).symm
              exact ⟨(nx i2 i3).1 i4 _ _ rfl rfl, rfl, trivial⟩
            · split <;> rename_i e5 <;> (try simp only [e5]) <;> cbv
              · cases hA; subst hN; subst hk
                have i2 : num4 u0 u1 u2 u3 ≠ 1 := by simpa using (num4_is hwu (.inr rfl) i2).symm
                have i3 : num4 v0 v1 v2 v3 ≠ 1 := by simpa using (num4_is hwv (.inr rfl) i3).symm
                have i4 : ¬ num4 u0 u1 u2 u3 % 2 = 0 := by simpa using (num4_rem hwu e4).symm
                have i5 : num4 v0 v1 v2 v3 % 2 = 0 := by simpa using (num4_rem hwv e5).symm
                exact ⟨(nx i2 i3).2.1 i4 i5 _ _ rfl rfl, rfl, trivial⟩
              · split <;> rename_i e6 <;> (try simp only [e6]) <;> cbv
                · cases hA; subst hN; subst hk
                  have i2 : num4 u0 u1 u2 u3 ≠ 1 := by simpa using (num4_is hwu (.inr rfl) i2).symm
                  have i3 : num4 v0 v1 v2 v3 ≠ 1 := by simpa using (num4_is hwv (.inr rfl) i3).symm
                  have i4 : ¬ num4 u0 u1 u2 u3 % 2 = 0 := by simpa using (num4_rem hwu e4).symm
                  have i5 : ¬ num4 v0 v1 v2 v3 % 2 = 0 := by simpa using (num4_rem hwv e5).symm
                  have i6 : 0 ≤ cmpI (num4 u0 u1 u2 u3) (num4 v0 v1 v2 v3) := by simpa [icmp, apStd] using e6
                  exact ⟨(nx i2 i3).2.2.1 i4 i5 i6 _ _ rfl rfl, rfl, trivial⟩
                · cases hA; subst hN; subst hk
                  have i2 : num4 u0 u1 u2 u3 ≠ 1 := by simpa using (num4_is hwu (.inr rfl) i2).symm
                  have i3 : num4 v0 v1 v2 v3 ≠ 1 := by simpa using (num4_is hwv (.inr rfl) i3).symm
                  have i4 : ¬ num4 u0 u1 u2 u3 % 2 = 0 := by simpa using (num4_rem hwu e4).symm
                  have i5 : ¬ num4 v0 v1 v2 v3 % 2 = 0 := by simpa using (num4_rem hwv e5).symm
                  have i6 : ¬ 0 ≤ cmpI (num4 u0 u1 u2 u3) (num4 v0 v1 v2 v3) := by simpa [icmp, apStd] using e6
                  exact ⟨(nx i2 i3).2.2.2 i4 i5 i6 _ _ rfl rfl, rfl, trivial⟩
          · have i3 := and4_of (not_of e3)
            have q := not_of e2
            simp only [Bool.not_true] at q
            simp only [q]
            cbv
            cases hA; subst hN; subst hk
            have i2 : num4 u0 u1 u2 u3 ≠ 1 := by simpa using (num4_is hwu (.inr rfl) i2).symm
            have i3 : num4 v0 v1 v2 v3 = 1 := by simpa using (num4_is hwv (.inr rfl) i3).symm
            refine fin_of hK rfl rfl ?_
            rw [hv, en.2 i2 i3]; rfl
        · have i2 := and4_of (not_of e2)
          have q := not_of e2
          simp only [Bool.not_false] at q
          simp only [q]
          cbv
          cases hA; subst hN; subst hk
          have i2 : num4 u0 u1 u2 u3 = 1 := by simpa using (num4_is hwu (.inr rfl) i2).symm
          refine fin_of hK rfl rfl ?_
          rw [hv, en.1 i2]; rfl

theorem con_rInv : Con Try.prog 50 (sinv apStd qN) := by
  refine con_shut Try.func50 rfl (by kernel_rfl) (fun args v us hF hv => ?_) (fun args v hF => num1F_ids hF)
  unfold sinv num1F at hF
  split at hF
  · split at hF
    · rename_i a ha
      simp only [Prod.mk.injEq, ap1_std, sinvOk, decide_eq_true_eq] at hF
      obtain ⟨hok, hF⟩ := hF
      obtain ⟨a0, a1, a2, a3, wa, rfl, hus⟩ := args_one ha hv
      exact ⟨_, _, good (l := [(24, scut apStd qN), (38, nul0F sqV), (48, smallF apStd), (71, halfF apStd), (72, shalf apStd qN), (53, cmpF apStd), (37, subF apStd), (49, ssub apStd qN)])
        (by intro p hp; simp only [List.mem_cons, List.not_mem_nil, or_false] at hp; rcases hp with rfl | rfl | rfl | rfl | rfl | rfl | rfl | rfl; exact con_srMod; exact con_srOrder; exact con_small; exact con_rhalf; exact con_rhalved; exact con_refCmp; exact con_refSub; exact con_srSub), rfl, by kernel_rfl, hus, Nat.le_of_ble_eq_true rfl,
        rinv_vc std (ALoop 0) apStd qN a0 a1 a2 a3 rfl rfl rfl rfl wa hok v (FinP v) rfl hF.symm⟩
    · cases hF
  · cases hF

theorem pow2_pos (n : Nat) : (0 : Int) < 2 ^ n := Int.pow_pos (by decide)

theorem low_bit (m : Int) (j : Nat) (hj : j < 64) : m % 18446744073709551616 / 2 ^ j % 2 = m / 2 ^ j % 2 := by
  have e : (18446744073709551616 : Int) = 2 ^ j * (2 * 2 ^ (63 - j)) := by
    rw [← Int.mul_assoc, ← Int.pow_succ, ← Int.pow_add, show j + 1 + (63 - j) = 64 by omega]; rfl
  have h := Int.emod_add_mul_ediv m 18446744073709551616
  have h2 : m = m % 18446744073709551616 + 2 ^ j * (2 * (2 ^ (63 - j) * (m / 18446744073709551616))) := by
    rw [← Int.mul_assoc 2, ← Int.mul_assoc (2 ^ j), ← e]; exact h.symm
  have h3 : m / 2 ^ j = m % 18446744073709551616 / 2 ^ j + 2 * (2 ^ (63 - j) * (m / 18446744073709551616)) := by
    conv => lhs; rw [h2]
    rw [Int.add_mul_ediv_left _ _ (by have := pow2_pos j; omega)]
  rw [h3, Int.add_mul_emod_self_left]

theorem bit_num (n : Int) (i : Nat) (hi : i < 256) : bitB n (i : Int) = decide (n / 2 ^ i % 2 = 1) := by
  unfold bitB
  have h0 : decide ((0 : Int) ≤ (i : Int)) = true := by simp
  have h1 : decide ((i : Int) < 256) = true := by simp; omega
  rw [h0, h1, Bool.true_and, Bool.true_and, Int.toNat_natCast]
  have hd := Nat.div_add_mod i 64
  have hm := Nat.mod_lt i (show 64 > 0 by decide)
  have key : ∀ k : Nat, i / 64 = k → n / 2 ^ i = n / 2 ^ (64 * k) / 2 ^ (i % 64) := fun k hk => by
    rw [Int.ediv_ediv_of_nonneg (by have := pow2_pos (64 * k); omega), ← Int.pow_add]
    congr 2; omega
  have : i / 64 = 0 ∨ i / 64 = 1 ∨ i / 64 = 2 ∨ i / 64 = 3 := by omega
  rcases this with h | h | h | h
  · rw [key 0 h, h]; show decide (l0 n / 2 ^ (i % 64) % 2 = 1) = _
    unfold l0; rw [low_bit _ _ hm, Nat.mul_zero, Int.pow_zero, Int.ediv_one]
  · rw [key 1 h, h]; show decide (l1 n / 2 ^ (i % 64) % 2 = 1) = _
    unfold l1; rw [low_bit _ _ hm]; rfl
  · rw [key 2 h, h]; show decide (l2 n / 2 ^ (i % 64) % 2 = 1) = _
    unfold l2; rw [low_bit _ _ hm]; rfl
  · rw [key 3 h, h]; show decide (l3 n / 2 ^ (i % 64) % 2 = 1) = _
    unfold l3; rw [low_bit _ _ hm]; rfl

theorem wide_low {b c : Int} (n : Nat) (hn : n < 256) : (b + M256 * c) / 2 ^ n % 2 = b / 2 ^ n % 2 := by
  have e : M256 = 2 ^ n * (2 * 2 ^ (255 - n)) := by
    rw [← Int.mul_assoc, ← Int.pow_succ, ← Int.pow_add, show n + 1 + (255 - n) = 256 by omega]; rfl
  rw [e, Int.mul_assoc, Int.add_mul_ediv_left _ _ (by have := pow2_pos n; omega), Int.mul_assoc, Int.add_mul_emod_self_left]

theorem wide_high {b c : Int} (hb : 0 ≤ b ∧ b < M256) (n : Nat) (hn : 256 ≤ n) : (b + M256 * c) / 2 ^ n = c / 2 ^ (n - 256) := by
  have e : (2 : Int) ^ n = M256 * 2 ^ (n - 256) := by
    have : (M256 : Int) = 2 ^ 256 := rfl
    rw [this, ← Int.pow_add]; congr 1; omega
  rw [e, ← Int.ediv_ediv_of_nonneg (by decide), Int.add_mul_ediv_left _ _ (by decide), Int.ediv_eq_zero_of_lt hb.1 hb.2, Int.zero_add]

theorem wide_step {x r t s : Int} {n : Nat} (hr : r = x / 2 ^ (n + 1) % qN) (hr0 : 0 ≤ r ∧ r < M256) (ht : t = saddN qN r r) (b : Bool) (hb : b = decide (x / 2 ^ n % 2 = 1)) (hs : s = if b then saddN qN t 1 else t) : s = x / 2 ^ n % qN := by
  have e : x / 2 ^ n = 2 * (x / 2 ^ (n + 1)) + x / 2 ^ n % 2 := by
    rw [Int.pow_succ, ← Int.ediv_ediv_of_nonneg (by have := pow2_pos n; omega)]
    omega
  have q0 : (0 : Int) < qN := by decide
  have h1 : t = (2 * (x / 2 ^ (n + 1))) % qN := by
    rw [ht, sadd_eq (.inl rfl) hr0 hr0, hr, ← Int.add_emod, Int.two_mul]
  have rt : 0 ≤ t ∧ t < M256 := by
    have h2 := Int.emod_nonneg (2 * (x / 2 ^ (n + 1))) (show qN ≠ 0 by decide)
    have h3 := Int.emod_lt_of_pos (2 * (x / 2 ^ (n + 1))) q0
    have h4 : qN < M256 := by decide
    rw [h1]; exact ⟨h2, by omega⟩
  have hm : x / 2 ^ n % 2 = 0 ∨ x / 2 ^ n % 2 = 1 := by omega
  rcases hm with hm | hm
  · have hb' : b = false := by rw [hb, hm]; rfl
    rw [hs, hb', e, hm, Int.add_zero]; exact h1
  · have hb' : b = true := by rw [hb, hm]; rfl
    rw [hs, hb', if_pos rfl, sadd_eq (.inl rfl) rt (by decide), h1, e, hm, Int.emod_add_emod]

def wideH (b0 b1 b2 b3 c0 c1 c2 c3 : Int) : Nat → (Int × Int × Int × Int) × Int → St
  | _, ((r0, r1, r2, r3), i) => ⟨[(2, .ptr 0 0), (3, .ptr 1 0), (4, .ptr 2 0), (5, .ptr 3 0), (6, .int .i64 i)],
    [⟨.lit [.int .u64 b0, .int .u64 b1, .int .u64 b2, .int .u64 b3], .var⟩, ⟨.lit [.int .u64 c0, .int .u64 c1, .int .u64 c2, .int .u64 c3], .var⟩, ⟨.lit [.num .u64 0, .num .u64 0, .num .u64 0, .num .u64 0], .var⟩,
      ⟨.lit [.int .u64 r0, .int .u64 r1, .int .u64 r2, .int .u64 r3], .var⟩], true⟩

def wideEx2 (S : St) : (Int × Int × Int × Int) × Int := ((cellI S 3 0, cellI S 3 1, cellI S 3 2, cellI S 3 3), slotI S 6)

def wideOk (x : Int) (n : Nat) (d : (Int × Int × Int × Int) × Int) : Prop := (match d.1 with
  | (r0, r1, r2, r3) => (W r0 ∧ W r1 ∧ W r2 ∧ W r3) ∧ num4 r0 r1 r2 r3 = x / 2 ^ n % qN) ∧ d.2 = (n : Int) - 1

theorem rwide_vc (A : Ar) (L : LP) (N : Ap) (Q : Int) (b0 b1 b2 b3 c0 c1 c2 c3 : Int) (hL : L = ALoop 0) (hA : A = std) (hN : N = apStd) (hQ : Q = qN) (hb : W b0 ∧ W b1 ∧ W b2 ∧ W b3) (hc : W c0 ∧ W c1 ∧ W c2 ∧ W c3) (v : SV) (K : Bool → SV → List Blk → Prop) (hK : K = FinP v)
    (hv : v = numV apStd ((num4 b0 b1 b2 b3 + M256 * num4 c0 c1 c2 c3) % qN)) :
    Shut (afun (cx A L [(42, sadd N Q), (82, bitF N), (48, smallF N)]) Try.f68 [wordsV b0 b1 b2 b3, wordsV c0 c1 c2 c3] [] K) := by
  obtain ⟨fi, fc, fw, fb, fn, fo, fs, fa, fe, fz, fy, ff, fl⟩ := A
  obtain ⟨ok, hk⟩ : ∃ f, f = wideOk (num4 b0 b1 b2 b3 + M256 * num4 c0 c1 c2 c3) := ⟨_, rfl⟩
  have rb := num4_range hb.1 hb.2.1 hb.2.2.1 hb.2.2.2
  have rc := num4_range hc.1 hc.2.1 hc.2.2.1 hc.2.2.2
  have rx : 0 ≤ num4 b0 b1 b2 b3 + M256 * num4 c0 c1 c2 c3 ∧ num4 b0 b1 b2 b3 + M256 * num4 c0 c1 c2 c3 < 2 ^ 512 := by
    have h := mul_range (x := M256) (y := num4 c0 c1 c2 c3) (a := M256) (b := M256 - 1) (by decide) ⟨rc.1, by omega⟩
    have h2 : M256 * (M256 - 1) + M256 = 2 ^ 512 := by decide
    omega
  apply Shut.mk
  cbv
  refine lp_ex hL 512 wideEx2 (wideH b0 b1 b2 b3 c0 c1 c2 c3) ok ?_ ?_ hL (.inr rfl)
  · cbv
    subst hk
    have z : W 0 := by unfold W; omega
    refine ⟨⟨⟨⟨z, z, z, z⟩, ?_⟩, rfl⟩, trivial⟩
    show num4 0 0 0 0 = (num4 b0 b1 b2 b3 + M256 * num4 c0 c1 c2 c3) / 2 ^ 512 % qN
    rw [Int.ediv_eq_zero_of_lt rx.1 rx.2]; rfl
  · intro n hn d hd
    obtain ⟨⟨r0, r1, r2, r3⟩, i⟩ := d
    have hd' : wideOk (num4 b0 b1 b2 b3 + M256 * num4 c0 c1 c2 c3) n ((r0, r1, r2, r3), i) := by rw [← hk]; exact hd
    obtain ⟨⟨wr, er⟩, hi⟩ := hd'
    simp only at wr er hi
    clear hd
    cases n with
    | zero =>
      have hge : fc .geq i 0 = false := by cases hA; simp [icmp]; omega
      cbv
      simp only [hge]
      cbv
      refine fin_of hK rfl rfl ?_
      rw [hv]
      rw [Int.pow_zero, Int.ediv_one] at er
      rw [← er, words_num wr]; rfl
    | succ n =>
      have hge : fc .geq i 0 = true := by cases hA; simp [icmp]; omega
      have hdec : fi .sub .i64 i 1 = (n : Int) - 1 := by
        cases hA
        show IntKind.i64.wrap (i - 1) = _
        rw [IntKind.wrap_i64]; omega
      obtain ⟨t, et⟩ : ∃ t, ap2 N (saddN Q) (ap4 N num4 r0 r1 r2 r3) (ap4 N num4 r0 r1 r2 r3) = t := ⟨_, rfl⟩
      obtain ⟨s, es⟩ : ∃ s, ap2 N (saddN Q) (ap4 N num4 (ap1 N l0 t) (ap1 N l1 t) (ap1 N l2 t) (ap1 N l3 t)) (ap4 N num4 1 0 0 0) = s := ⟨_, rfl⟩
      have et' : t = saddN qN (num4 r0 r1 r2 r3) (num4 r0 r1 r2 r3) := by rw [← et, hQ]; subst hN; rfl
      have rt : 0 ≤ t ∧ t < M256 := by rw [et']; exact sadd_in _ _ _
      have es' : s = saddN qN t 1 := by
        rw [← es, hQ]; subst hN
        show saddN qN (num4 (l0 t) (l1 t) (l2 t) (l3 t)) (num4 1 0 0 0) = _
        rw [num4_mod rt]; rfl
      have rs : 0 ≤ s ∧ s < M256 := by rw [es']; exact sadd_in _ _ _
      have rr := num4_range wr.1 wr.2.1 wr.2.2.1 wr.2.2.2
      have go : ∀ b : Bool, b = decide ((num4 b0 b1 b2 b3 + M256 * num4 c0 c1 c2 c3) / 2 ^ n % 2 = 1) → ∀ z, z = (if b then s else t) → ∀ i', i' = (n : Int) - 1 → wideOk (num4 b0 b1 b2 b3 + M256 * num4 c0 c1 c2 c3) n ((l0 z, l1 z, l2 z, l3 z), i') := by
        intro b hb z hz i' hi'
        have hz0 : 0 ≤ z ∧ z < M256 := by rw [hz]; cases b <;> simp [rs, rt]
        refine ⟨⟨⟨l0_w z, l1_w z, l2_w z, l3_w z⟩, ?_⟩, hi'⟩
        rw [num4_mod hz0]
        exact wide_step er rr et' b hb (by rw [hz, es'])
      by_cases hn2 : 256 ≤ n
      · have h1 : fc .geq i 256 = true := by cases hA; simp [icmp]; omega
        have h2 : fc .lss i 256 = false := by cases hA; simp [icmp]; omega
        have hsub : fi .sub .i64 i 256 = ((n - 256 : Nat) : Int) := by
          cases hA
          show IntKind.i64.wrap (i - 256) = _
          rw [IntKind.wrap_i64]; omega
        obtain ⟨b, eb⟩ : ∃ b, ap2 N bitB (ap4 N num4 c0 c1 c2 c3) (fi .sub .i64 i 256) = b := ⟨_, rfl⟩
        have eb' : b = decide ((num4 b0 b1 b2 b3 + M256 * num4 c0 c1 c2 c3) / 2 ^ n % 2 = 1) := by
          rw [wide_high rb n hn2, ← bit_num _ _ (by omega), ← eb, hsub]; subst hN; rfl
        have go := go b eb'
        clear er et' es' eb' hsub
        simp only [ap1, ap2, ap4] at et es eb
        cases b
        · cbv
          repeat (simp only [hge, h1, h2, et, eb]; cbv)
          cases hA; subst hN; subst hk
          exact ⟨go t rfl _ hdec, trivial⟩
        · cbv
          repeat (simp only [hge, h1, h2, et, eb, es]; cbv)
          cases hA; subst hN; subst hk
          exact ⟨go s rfl _ hdec, trivial⟩
      · have h1 : fc .geq i 256 = false := by cases hA; simp [icmp]; omega
        have h2 : fc .lss i 256 = true := by cases hA; simp [icmp]; omega
        have hi2 : i = ((n : Nat) : Int) := by omega
        obtain ⟨b, eb⟩ : ∃ b, ap2 N bitB (ap4 N num4 b0 b1 b2 b3) i = b := ⟨_, rfl⟩
        have eb' : b = decide ((num4 b0 b1 b2 b3 + M256 * num4 c0 c1 c2 c3) / 2 ^ n % 2 = 1) := by
          rw [wide_low n (by omega), ← bit_num _ _ (by omega), ← eb, hi2]; subst hN; rfl
        have go := go b eb'
        clear er et' es' eb' hi2
        simp only [ap1, ap2, ap4] at et es eb
        cases b
        · cbv
          repeat (simp only [hge, h1, h2, et, eb]; cbv)
          cases hA; subst hN; subst hk
          exact ⟨go t rfl _ hdec, trivial⟩
        · cbv
          repeat (simp only [hge, h1, h2, et, eb, es]; cbv)
          cases hA; subst hN; subst hk
          exact ⟨go s rfl _ hdec, trivial⟩

def wide2 (a b : Int) : Int := (a + M256 * b) % qN

abbrev rwideF (N : Ap) := num2F N (fun a b => numV N (ap2 N wide2 a b))

theorem con_rwide : Con Try.prog 68 (rwideF apStd) := by
  refine con_shut Try.func68 rfl (by kernel_rfl) (fun args v us hF hv => ?_) (fun args v hF => num2F_ids hF)
  unfold rwideF num2F at hF
  split at hF
  · split at hF
    · rename_i a b ha hb
      simp only [Prod.mk.injEq, true_and, ap2_std] at hF
      obtain ⟨a0, a1, a2, a3, b0, b1, b2, b3, wa, wb, rfl, rfl, hus⟩ := args_two ha hb hv
      exact ⟨_, _, good (l := [(42, sadd apStd qN), (82, bitF apStd), (48, smallF apStd)]) (by intro p hp; simp only [List.mem_cons, List.not_mem_nil, or_false] at hp; rcases hp with rfl | rfl | rfl; exact con_srAdd; exact con_refBit; exact con_small), rfl, by kernel_rfl, hus, Nat.le_of_ble_eq_true rfl,
        rwide_vc std (ALoop 0) apStd qN a0 a1 a2 a3 b0 b1 b2 b3 rfl rfl rfl rfl wa wb v (FinP v) rfl hF.symm⟩
    · cases hF
  · cases hF

theorem mul_parts (a b : Int) : wide2 (mulm a b) (mulh a b) = smulN qN a b := by
  unfold wide2 smulN mulm mulh
  rw [Int.emod_add_mul_ediv]

theorem srMul_vc (A : Ar) (L : LP) (N : Ap) (a0 a1 a2 a3 b0 b1 b2 b3 : Int) (hL : L = ALoop 0) (hA : A = std) (hN : N = apStd) (ha : W a0 ∧ W a1 ∧ W a2 ∧ W a3) (hb : W b0 ∧ W b1 ∧ W b2 ∧ W b3) (v : SV) (K : Bool → SV → List Blk → Prop) (hK : K = FinP v)
    (hv : v = numV apStd (smulN qN (num4 a0 a1 a2 a3) (num4 b0 b1 b2 b3))) :
    Shut (afun (cx A L [(67, mulF N), (68, rwideF N)]) Try.f43 [wordsV a0 a1 a2 a3, wordsV b0 b1 b2 b3] [] K) := by
  have ra := num4_range ha.1 ha.2.1 ha.2.2.1 ha.2.2.2
  have rb := num4_range hb.1 hb.2.1 hb.2.2.1 hb.2.2.2
  have m1 := num4_mod (mulm_range (num4 a0 a1 a2 a3) (num4 b0 b1 b2 b3))
  have m2 := num4_mod (mulh_range ra rb)
  apply Shut.mk
  cbv
  subst hN; subst hv
  refine fin_of hK rfl rfl ?_
  simp only [apStd, m1, m2, mul_parts]
  rfl

theorem con_srMul : Con Try.prog 43 (smul apStd qN) := by
  refine con_shut Try.func43 rfl (by kernel_rfl) (fun args v us hF hv => ?_) (fun args v hF => num2F_ids hF)
  unfold smul num2F at hF
  split at hF
  · split at hF
    · rename_i a b ha hb
      simp only [Prod.mk.injEq, true_and, ap2_std] at hF
      obtain ⟨a0, a1, a2, a3, b0, b1, b2, b3, wa, wb, rfl, rfl, hus⟩ := args_two ha hb hv
      exact ⟨_, _, good (l := [(67, mulF apStd), (68, rwideF apStd)]) (by intro p hp; simp only [List.mem_cons, List.not_mem_nil, or_false] at hp; rcases hp with rfl | rfl; exact con_refMul; exact con_rwide), rfl, by kernel_rfl, hus, Nat.le_of_ble_eq_true rfl,
        srMul_vc std (ALoop 0) apStd a0 a1 a2 a3 b0 b1 b2 b3 rfl rfl rfl wa wb v (FinP v) rfl hF.symm⟩
    · cases hF
  · cases hF

end Go.Proofs.Ytnhobbdijdbbeaa
