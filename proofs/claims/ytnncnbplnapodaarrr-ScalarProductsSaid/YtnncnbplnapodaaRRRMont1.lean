/- Walks through the functions on numbers modulo an odd one: sums, differences, halves. It has no conditions. -/
import Derived.Test.YtnncnbplnapodaaRRRLimbs2
import Derived.Test.YtnncnbplnapodaaRRRNum5
namespace Go.Proofs.YtnncnbplnapodaaRRR
open Go.Eng Go.RowKit
set_option maxRecDepth 1000000
set_option maxHeartbeats 4000000
set_option linter.unusedSimpArgs false
set_option linter.unusedVariables false

theorem words_num {a0 a1 a2 a3 : Int} (ha : W a0 ∧ W a1 ∧ W a2 ∧ W a3) : numV apStd (num4 a0 a1 a2 a3) = wordsV a0 a1 a2 a3 := by
  obtain ⟨e0, e1, e2, e3⟩ := limbs_of (n := num4 a0 a1 a2 a3) (k := 0) ha.1 ha.2.1 ha.2.2.1 ha.2.2.2 (by omega)
  simp [numV, ap1, apStd, wordsV, e0, e1, e2, e3]

theorem ap1_std {α β : Type} (f : α → β) (a : α) : ap1 apStd f a = f a := rfl
theorem ap2_std {α β γ : Type} (f : α → β → γ) (a : α) (b : β) : ap2 apStd f a b = f a b := rfl
theorem ap3_std {α β γ δ : Type} (f : α → β → γ → δ) (a : α) (b : β) (c : γ) : ap3 apStd f a b c = f a b c := rfl

theorem not_of {b p : Bool} (h : (match b with | true => false | false => true) = p) : b = !p := by cases b <;> cases p <;> simp_all

theorem valid_vc (A : Ar) (L : LP) (N : Ap) (m0 m1 m2 m3 n r0 r1 r2 r3 a0 a1 a2 a3 : Int) (hL : L = ALoop 0) (hA : A = std) (hN : N = apStd) (v : SV) (K : Bool → SV → List Blk → Prop) (hK : K = FinP v)
    (hv : v = .bool (ltb (num4 a0 a1 a2 a3) (num4 m0 m1 m2 m3))) :
    Shut (afun (cx A L [(19, subF N)]) Try.f76 [modV m0 m1 m2 m3 n r0 r1 r2 r3, wordsV a0 a1 a2 a3] [] K) := by
  apply Shut.mk
  cbv
  subst hN; subst hv
  exact fin_of hK rfl rfl rfl

theorem cut_vc (A : Ar) (L : LP) (N : Ap) (m0 m1 m2 m3 n r0 r1 r2 r3 a0 a1 a2 a3 : Int) (hL : L = ALoop 0) (hA : A = std) (hN : N = apStd) (ha : W a0 ∧ W a1 ∧ W a2 ∧ W a3) (v : SV) (K : Bool → SV → List Blk → Prop) (hK : K = FinP v)
    (hv : v = numV apStd (cutN (num4 m0 m1 m2 m3) (num4 a0 a1 a2 a3))) :
    Shut (afun (cx A L [(19, subF N)]) Try.f69 [modV m0 m1 m2 m3 n r0 r1 r2 r3, wordsV a0 a1 a2 a3] [] K) := by
  apply Shut.mk
  cbv
  split <;> cbv
  · rename_i e
    subst hN; subst hv
    have e : ltb (num4 a0 a1 a2 a3) (num4 m0 m1 m2 m3) = false := not_of e
    refine fin_of hK rfl rfl ?_
    simp only [cutN, e, Bool.false_eq_true, if_false]; rfl
  · rename_i e
    subst hN; subst hv
    have e : ltb (num4 a0 a1 a2 a3) (num4 m0 m1 m2 m3) = true := not_of e
    refine fin_of hK rfl rfl ?_
    simp only [cutN, e, if_true, words_num ha]; rfl

theorem madd_vc (A : Ar) (L : LP) (N : Ap) (m0 m1 m2 m3 n r0 r1 r2 r3 a0 a1 a2 a3 b0 b1 b2 b3 : Int) (hL : L = ALoop 0) (hA : A = std) (hN : N = apStd) (v : SV) (K : Bool → SV → List Blk → Prop) (hK : K = FinP v)
    (hv : v = numV apStd (maddN (num4 m0 m1 m2 m3) (num4 a0 a1 a2 a3) (num4 b0 b1 b2 b3))) :
    Shut (afun (cx A L [(19, subF N), (17, addF N)]) Try.f70 [modV m0 m1 m2 m3 n r0 r1 r2 r3, wordsV a0 a1 a2 a3, wordsV b0 b1 b2 b3] [] K) := by
  have hl : num4 (l0 (addm (num4 a0 a1 a2 a3) (num4 b0 b1 b2 b3))) (l1 (addm (num4 a0 a1 a2 a3) (num4 b0 b1 b2 b3))) (l2 (addm (num4 a0 a1 a2 a3) (num4 b0 b1 b2 b3))) (l3 (addm (num4 a0 a1 a2 a3) (num4 b0 b1 b2 b3))) = addm (num4 a0 a1 a2 a3) (num4 b0 b1 b2 b3) := by
    rw [num4_limbs]; unfold addm M256; omega
  obtain ⟨s, hs⟩ : ∃ s, ap2 N addm (ap4 N num4 a0 a1 a2 a3) (ap4 N num4 b0 b1 b2 b3) = s := ⟨_, rfl⟩
  obtain ⟨p, hp⟩ : ∃ p, ap2 N addc (ap4 N num4 a0 a1 a2 a3) (ap4 N num4 b0 b1 b2 b3) = p := ⟨_, rfl⟩
  obtain ⟨q, hq⟩ : ∃ q, ap2 N ltb (ap4 N num4 (ap1 N l0 s) (ap1 N l1 s) (ap1 N l2 s) (ap1 N l3 s)) (ap4 N num4 m0 m1 m2 m3) = q := ⟨_, rfl⟩
  have hp' := hp
  have hq' := hq
  simp only [ap1, ap2, ap4] at hs hp hq
  obtain ⟨w, hw⟩ : ∃ w : SV, w = numV apStd (if p || !q then subm s (num4 m0 m1 m2 m3) else s) := ⟨_, rfl⟩
  have fin : ∀ r : SV, r = w → v = r := by
    intro r hr
    subst hN; subst hv
    rw [hr, hw]
    have e1 : addc (num4 a0 a1 a2 a3) (num4 b0 b1 b2 b3) = p := hp'
    have e3 : addm (num4 a0 a1 a2 a3) (num4 b0 b1 b2 b3) = s := hs
    rw [e3] at hl
    have e2 : ltb s (num4 m0 m1 m2 m3) = q := by rw [← hl]; exact hq'
    unfold maddN
    rw [e3, e1, e2]
  have hl' : num4 (l0 s) (l1 s) (l2 s) (l3 s) = s := by subst hN; rw [← hs]; exact hl
  clear hp' hq'
  apply Shut.mk
  cbv
  cases p
  · cases q
    · repeat (simp only [hs, hp, hq]; cbv)
      refine fin_of hK rfl rfl (fin _ ?_)
      cbv
      rw [hw]; subst hN
      simp [numV, ap1, apStd, hl']
    · repeat (simp only [hs, hp, hq]; cbv)
      refine fin_of hK rfl rfl (fin _ ?_)
      cbv
      rw [hw]; subst hN
      simp [numV, ap1, apStd, hl']
  · repeat (simp only [hs, hp]; cbv)
    refine fin_of hK rfl rfl (fin _ ?_)
    cbv
    rw [hw]; subst hN
    simp [numV, ap1, apStd, hl']

theorem msub_vc (A : Ar) (L : LP) (N : Ap) (m0 m1 m2 m3 n r0 r1 r2 r3 a0 a1 a2 a3 b0 b1 b2 b3 : Int) (hL : L = ALoop 0) (hA : A = std) (hN : N = apStd) (v : SV) (K : Bool → SV → List Blk → Prop) (hK : K = FinP v)
    (hv : v = numV apStd (msubN (num4 m0 m1 m2 m3) (num4 a0 a1 a2 a3) (num4 b0 b1 b2 b3))) :
    Shut (afun (cx A L [(19, subF N), (17, addF N)]) Try.f75 [modV m0 m1 m2 m3 n r0 r1 r2 r3, wordsV a0 a1 a2 a3, wordsV b0 b1 b2 b3] [] K) := by
  apply Shut.mk
  cbv
  have hl : num4 (l0 (subm (num4 a0 a1 a2 a3) (num4 b0 b1 b2 b3))) (l1 (subm (num4 a0 a1 a2 a3) (num4 b0 b1 b2 b3))) (l2 (subm (num4 a0 a1 a2 a3) (num4 b0 b1 b2 b3))) (l3 (subm (num4 a0 a1 a2 a3) (num4 b0 b1 b2 b3))) = subm (num4 a0 a1 a2 a3) (num4 b0 b1 b2 b3) := by
    rw [num4_limbs]; unfold subm M256; omega
  split <;> cbv
  · rename_i e
    subst hN; subst hv
    have e : ltb (num4 a0 a1 a2 a3) (num4 b0 b1 b2 b3) = true := by simpa [apStd] using e
    refine fin_of hK rfl rfl ?_
    simp only [msubN, e, if_true]
    simp only [apStd, hl]; rfl
  · rename_i e
    subst hN; subst hv
    have e : ltb (num4 a0 a1 a2 a3) (num4 b0 b1 b2 b3) = false := by simpa [apStd] using e
    refine fin_of hK rfl rfl ?_
    simp only [msubN, e, Bool.false_eq_true, if_false]; rfl

theorem half_or {x y : Int} (hx : W x) : iop .or .u64 (iop .shr .u64 x 1) (iop .shl .u64 y 63) = x / 2 + y % 2 * 9223372036854775808 := by
  have e1 : iop .shr .u64 x 1 = x / 2 := shr_lit x 1 (by omega)
  have e2 : iop .shl .u64 y 63 = y % 2 * 2 ^ 63 := by
    have h := shl_lit y 63 (by omega)
    rw [show ((63 : Nat) : Int) = 63 from rfl] at h
    rw [h]; omega
  rw [e1, e2, or_disj 63 (by unfold W at hx; omega) (by omega) (by omega)]
  omega

theorem half_vc (A : Ar) (L : LP) (a0 a1 a2 a3 : Int) (t : Bool) (hL : L = ALoop 0) (hA : A = std) (ha : W a0 ∧ W a1 ∧ W a2 ∧ W a3) (v : SV) (K : Bool → SV → List Blk → Prop) (hK : K = FinP v)
    (hv : v = numV apStd (halfN (num4 a0 a1 a2 a3) t)) :
    Shut (afun (cx A L []) Try.f84 [wordsV a0 a1 a2 a3, .bool t] [] K) := by
  obtain ⟨h0, h1, h2, h3⟩ := ha
  cases t
  · obtain ⟨e0, e1, e2, e3⟩ := half_words h0 h1 h2 h3 false
    apply Shut.mk
    cbv
    refine lp_rounds hL 5 hL (.inr rfl) ?_
    cbv
    subst hA; subst hv
    refine fin_of hK (by simp [std, icmp]) rfl ?_
    have k : iop .or .u64 (iop .shr .u64 a3 1) 0 = a3 / 2 := by
      have := half_or (y := 0) h3
      have e : iop .shl .u64 0 63 = 0 := rfl
      rw [e] at this; rw [this]; omega
    simp [oneTup, numV, ap1, apStd, e0, e1, e2, e3, std, half_or h0, half_or h1, half_or h2, k]
  · obtain ⟨e0, e1, e2, e3⟩ := half_words h0 h1 h2 h3 true
    apply Shut.mk
    cbv
    refine lp_rounds hL 5 hL (.inr rfl) ?_
    cbv
    subst hA; subst hv
    refine fin_of hK (by simp [std, icmp]) rfl ?_
    have k : iop .or .u64 (iop .shr .u64 a3 1) 9223372036854775808 = a3 / 2 + 9223372036854775808 := half_or (y := 1) h3
    simp [oneTup, numV, ap1, apStd, e0, e1, e2, e3, std, half_or h0, half_or h1, half_or h2, k]

theorem halved_vc (A : Ar) (L : LP) (N : Ap) (m0 m1 m2 m3 n r0 r1 r2 r3 a0 a1 a2 a3 : Int) (hL : L = ALoop 0) (hA : A = std) (hN : N = apStd) (ha : W a0 ∧ W a1 ∧ W a2 ∧ W a3) (v : SV) (K : Bool → SV → List Blk → Prop) (hK : K = FinP v)
    (hv : v = numV apStd (halvedN (num4 m0 m1 m2 m3) (num4 a0 a1 a2 a3))) :
    Shut (afun (cx A L [(84, halfF N), (17, addF N)]) Try.f85 [modV m0 m1 m2 m3 n r0 r1 r2 r3, wordsV a0 a1 a2 a3] [] K) := by
  obtain ⟨fi, fc, fw, fb, fn, fo, fs, fa, fe, fz, fy, ff, fl⟩ := A
  have hl : num4 (l0 (addm (num4 a0 a1 a2 a3) (num4 m0 m1 m2 m3))) (l1 (addm (num4 a0 a1 a2 a3) (num4 m0 m1 m2 m3))) (l2 (addm (num4 a0 a1 a2 a3) (num4 m0 m1 m2 m3))) (l3 (addm (num4 a0 a1 a2 a3) (num4 m0 m1 m2 m3))) = addm (num4 a0 a1 a2 a3) (num4 m0 m1 m2 m3) := by
    rw [num4_limbs]; unfold addm M256; omega
  have par : iop .and .u64 a0 1 = num4 a0 a1 a2 a3 % 2 := by
    have := and_mask ha.1 1 (by omega)
    rw [show ((2 : Int) ^ 1 - 1) = 1 from rfl, show ((2 : Int) ^ 1) = 2 from rfl] at this
    rw [this]; unfold num4; omega
  apply Shut.mk
  cbv
  split <;> cbv
  · rename_i e
    cases hA; subst hN; subst hv
    have e : num4 a0 a1 a2 a3 % 2 = 0 := by simpa [icmp, par] using e
    refine fin_of hK rfl rfl ?_
    simp only [halvedN, e, if_true]; rfl
  · rename_i e
    cases hA; subst hN; subst hv
    have e : ¬ num4 a0 a1 a2 a3 % 2 = 0 := by simpa [icmp, par] using e
    refine fin_of hK rfl rfl ?_
    simp only [halvedN, e, if_false]
    simp only [apStd, hl]; rfl

theorem step_vc (A : Ar) (L : LP) (N : Ap) (t0 t1 t2 t3 t4 t5 x b0 b1 b2 b3 : Int) (hL : L = ALoop 0) (hA : A = std) (hN : N = apStd) (ht : W t0 ∧ W t1 ∧ W t2 ∧ W t3 ∧ W t4 ∧ W t5) (hx : W x) (hb : W b0 ∧ W b1 ∧ W b2 ∧ W b3) (v : SV) (K : Bool → SV → List Blk → Prop) (hK : K = FinP v)
    (hv : v = numV6 apStd (stepn (num6 t0 t1 t2 t3 t4 t5) x (num4 b0 b1 b2 b3))) :
    Shut (afun (cx A L [(62, mul64F N), (59, add64F A N)]) Try.f83 [words6 t0 t1 t2 t3 t4 t5, .int .u64 x, wordsV b0 b1 b2 b3] [] K) := by
  apply Shut.mk
  cbv
  refine lp_rounds hL 5 hL (.inr rfl) ?_
  cbv
  subst hA; subst hN; subst hv
  have h := step_words ht hx hb rfl rfl rfl rfl rfl rfl rfl rfl rfl rfl
  simp only at h
  refine fin_of hK (by simp [std, icmp]) rfl ?_
  simp only [numV6, ap1, apStd, h.1, h.2.1, h.2.2.1, h.2.2.2.1, h.2.2.2.2.1, h.2.2.2.2.2, oneTup, std, iopadd]

/-! The contracts. -/

theorem con_valid : Con Try.prog 76 (validF apStd) := by
  refine con_shut Try.func76 rfl (by kernel_rfl) (fun args v us hF hv => ?_) (fun args v hF => mod1F_ids hF)
  unfold validF mod1F at hF
  split at hF
  · split at hF
    · rename_i M n r a hm ha
      simp only [Prod.mk.injEq, true_and, ap1_std, ap2_std, ap3_std] at hF
      obtain ⟨m0, m1, m2, m3, r0, r1, r2, r3, a0, a1, a2, a3, wm, wn, wr, wa, rfl, rfl, rfl, hus⟩ := args_mod_one hm ha hv
      exact ⟨_, _, good (l := [(19, subF apStd)]) (by intro p hp; simp at hp; subst hp; exact con_limbsSub), rfl, by kernel_rfl, hus, Nat.le_of_ble_eq_true rfl, valid_vc std (ALoop 0) apStd m0 m1 m2 m3 n r0 r1 r2 r3 a0 a1 a2 a3 rfl rfl rfl v (FinP v) rfl hF.symm⟩
    · cases hF
  · cases hF

theorem con_cut : Con Try.prog 69 (cutF apStd) := by
  refine con_shut Try.func69 rfl (by kernel_rfl) (fun args v us hF hv => ?_) (fun args v hF => mod1F_ids hF)
  unfold cutF mod1F at hF
  split at hF
  · split at hF
    · rename_i M n r a hm ha
      simp only [Prod.mk.injEq, true_and, ap1_std, ap2_std, ap3_std] at hF
      obtain ⟨m0, m1, m2, m3, r0, r1, r2, r3, a0, a1, a2, a3, wm, wn, wr, wa, rfl, rfl, rfl, hus⟩ := args_mod_one hm ha hv
      exact ⟨_, _, good (l := [(19, subF apStd)]) (by intro p hp; simp at hp; subst hp; exact con_limbsSub), rfl, by kernel_rfl, hus, Nat.le_of_ble_eq_true rfl, cut_vc std (ALoop 0) apStd m0 m1 m2 m3 n r0 r1 r2 r3 a0 a1 a2 a3 rfl rfl rfl wa v (FinP v) rfl hF.symm⟩
    · cases hF
  · cases hF

theorem con_madd : Con Try.prog 70 (maddF apStd) := by
  refine con_shut Try.func70 rfl (by kernel_rfl) (fun args v us hF hv => ?_) (fun args v hF => mod2F_ids hF)
  unfold maddF mod2F at hF
  split at hF
  · split at hF
    · rename_i M n r a b hm ha hb
      simp only [Prod.mk.injEq, true_and, ap1_std, ap2_std, ap3_std] at hF
      obtain ⟨m0, m1, m2, m3, r0, r1, r2, r3, a0, a1, a2, a3, b0, b1, b2, b3, wm, wn, wr, wa, wb, rfl, rfl, rfl, rfl, hus⟩ := args_mod_two hm ha hb hv
      exact ⟨_, _, good (l := [(19, subF apStd), (17, addF apStd)]) (by intro p hp; simp at hp; rcases hp with rfl | rfl; exact con_limbsSub; exact con_limbsAdd), rfl, by kernel_rfl, hus, Nat.le_of_ble_eq_true rfl, madd_vc std (ALoop 0) apStd m0 m1 m2 m3 n r0 r1 r2 r3 a0 a1 a2 a3 b0 b1 b2 b3 rfl rfl rfl v (FinP v) rfl hF.symm⟩
    · cases hF
  · cases hF

theorem con_msub : Con Try.prog 75 (msubF apStd) := by
  refine con_shut Try.func75 rfl (by kernel_rfl) (fun args v us hF hv => ?_) (fun args v hF => mod2F_ids hF)
  unfold msubF mod2F at hF
  split at hF
  · split at hF
    · rename_i M n r a b hm ha hb
      simp only [Prod.mk.injEq, true_and, ap1_std, ap2_std, ap3_std] at hF
      obtain ⟨m0, m1, m2, m3, r0, r1, r2, r3, a0, a1, a2, a3, b0, b1, b2, b3, wm, wn, wr, wa, wb, rfl, rfl, rfl, rfl, hus⟩ := args_mod_two hm ha hb hv
      exact ⟨_, _, good (l := [(19, subF apStd), (17, addF apStd)]) (by intro p hp; simp at hp; rcases hp with rfl | rfl; exact con_limbsSub; exact con_limbsAdd), rfl, by kernel_rfl, hus, Nat.le_of_ble_eq_true rfl, msub_vc std (ALoop 0) apStd m0 m1 m2 m3 n r0 r1 r2 r3 a0 a1 a2 a3 b0 b1 b2 b3 rfl rfl rfl v (FinP v) rfl hF.symm⟩
    · cases hF
  · cases hF

theorem con_half : Con Try.prog 84 (halfF apStd) := by
  refine con_shut Try.func84 rfl (by kernel_rfl) (fun args v us hF hv => ?_) (fun args v hF => halfF_ids hF)
  unfold halfF at hF
  split at hF
  · split at hF
    · rename_i t _ a ha
      simp only [Prod.mk.injEq, true_and, ap1_std, ap2_std, ap3_std] at hF
      obtain ⟨a0, a1, a2, a3, wa, rfl, hus⟩ := args_num_bool ha hv
      exact ⟨_, _, good (l := []) (by simp), rfl, by kernel_rfl, hus, Nat.le_of_ble_eq_true rfl, half_vc std (ALoop 0) a0 a1 a2 a3 _ rfl rfl wa v (FinP v) rfl hF.symm⟩
    · cases hF
  · cases hF

theorem con_halved : Con Try.prog 85 (halvedF apStd) := by
  refine con_shut Try.func85 rfl (by kernel_rfl) (fun args v us hF hv => ?_) (fun args v hF => mod1F_ids hF)
  unfold halvedF mod1F at hF
  split at hF
  · split at hF
    · rename_i M n r a hm ha
      simp only [Prod.mk.injEq, true_and, ap1_std, ap2_std, ap3_std] at hF
      obtain ⟨m0, m1, m2, m3, r0, r1, r2, r3, a0, a1, a2, a3, wm, wn, wr, wa, rfl, rfl, rfl, hus⟩ := args_mod_one hm ha hv
      exact ⟨_, _, good (l := [(84, halfF apStd), (17, addF apStd)]) (by intro p hp; simp at hp; rcases hp with rfl | rfl; exact con_half; exact con_limbsAdd), rfl, by kernel_rfl, hus, Nat.le_of_ble_eq_true rfl, halved_vc std (ALoop 0) apStd m0 m1 m2 m3 n r0 r1 r2 r3 a0 a1 a2 a3 rfl rfl rfl wa v (FinP v) rfl hF.symm⟩
    · cases hF
  · cases hF

theorem con_step : Con Try.prog 83 (stepF apStd) := by
  refine con_shut Try.func83 rfl (by kernel_rfl) (fun args v us hF hv => ?_) (fun args v hF => stepF_ids hF)
  unfold stepF at hF
  split at hF
  · split at hF
    · rename_i t x a ht hx ha
      simp only [Prod.mk.injEq, true_and, ap1_std, ap2_std, ap3_std] at hF
      obtain ⟨t0, t1, t2, t3, t4, t5, b0, b1, b2, b3, wt, wx, wb, rfl, rfl, hus⟩ := args_step ht hx ha hv
      exact ⟨_, _, good (l := [(62, mul64F apStd), (59, add64F std apStd)]) (by intro p hp; simp at hp; rcases hp with rfl | rfl; exact con_mul64; exact con_add64), rfl, by kernel_rfl, hus, Nat.le_of_ble_eq_true rfl, step_vc std (ALoop 0) apStd t0 t1 t2 t3 t4 t5 x b0 b1 b2 b3 rfl rfl rfl wt wx wb v (FinP v) rfl hF.symm⟩
    · cases hF
  · cases hF

end Go.Proofs.YtnncnbplnapodaaRRR
