/- Walks through the product of numbers modulo an odd one, in Montgomery's way. It has no conditions. -/
import Derived.Test.YtnncnbplnapodaaRRRMont1
namespace Go.Proofs.YtnncnbplnapodaaRRR
open Go.Eng Go.RowKit
set_option maxRecDepth 1000000
set_option maxHeartbeats 4000000
set_option linter.unusedSimpArgs false
set_option linter.unusedVariables false

theorem mont_all {M n a b x0 x1 x2 x3 n1 n2 n3 n4 n5 n6 n7 n8 : Int} (hok : okMod M n = true) (hc : mcond M a b = true) (ha : a = num4 x0 x1 x2 x3) (hx : W x0 ∧ W x1 ∧ W x2 ∧ W x3) (hb : 0 ≤ b ∧ b < M256)
    (e1 : n1 = stepn (num6 0 0 0 0 0 0) x0 b) (e2 : n2 = stepn (num6 (l0 n1) (l1 n1) (l2 n1) (l3 n1) (l4 n1) (l5 n1)) (l0 n1 * n % 18446744073709551616) M)
    (e3 : n3 = stepn (num6 (l1 n2) (l2 n2) (l3 n2) (l4 n2) (l5 n2) 0) x1 b) (e4 : n4 = stepn (num6 (l0 n3) (l1 n3) (l2 n3) (l3 n3) (l4 n3) (l5 n3)) (l0 n3 * n % 18446744073709551616) M)
    (e5 : n5 = stepn (num6 (l1 n4) (l2 n4) (l3 n4) (l4 n4) (l5 n4) 0) x2 b) (e6 : n6 = stepn (num6 (l0 n5) (l1 n5) (l2 n5) (l3 n5) (l4 n5) (l5 n5)) (l0 n5 * n % 18446744073709551616) M)
    (e7 : n7 = stepn (num6 (l1 n6) (l2 n6) (l3 n6) (l4 n6) (l5 n6) 0) x3 b) (e8 : n8 = stepn (num6 (l0 n7) (l1 n7) (l2 n7) (l3 n7) (l4 n7) (l5 n7)) (l0 n7 * n % 18446744073709551616) M) :
    (if (!(decide (l5 n8 = 0)) || !(ltb (num4 (l1 n8) (l2 n8) (l3 n8) (l4 n8)) M)) = true then subm (num4 (l1 n8) (l2 n8) (l3 n8) (l4 n8)) M else num4 (l1 n8) (l2 n8) (l3 n8) (l4 n8)) = mmul M a b := by
  obtain ⟨⟨k, hk⟩, _, hM1, hM2, _⟩ := okMod_spec hok
  obtain ⟨w0, w1, w2, w3⟩ := hx
  have hM : 0 < M := by omega
  have z0 : num6 0 0 0 0 0 0 = 0 := by decide
  obtain ⟨f1, g1, h1⟩ := mont_round hk hM hM2 hb.1 hb.2 w0 (T := num6 0 0 0 0 0 0) (by rw [z0]; exact Int.le_refl 0) (by rw [z0]; omega) e1 e2 rfl
  obtain ⟨f2, g2, h2⟩ := mont_round hk hM hM2 hb.1 hb.2 w1 g1 h1 e3 e4 rfl
  obtain ⟨f3, g3, h3⟩ := mont_round hk hM hM2 hb.1 hb.2 w2 g2 h2 e5 e6 rfl
  obtain ⟨f4, g4, h4⟩ := mont_round hk hM hM2 hb.1 hb.2 w3 g3 h3 e7 e8 rfl
  have q : ∀ z : Int, 0 ≤ z % 18446744073709551616 ∧ z % 18446744073709551616 < 18446744073709551616 := fun z => by omega
  rw [z0] at f1
  have hc' : a < M ∨ b < M := by simpa [mcond] using hc
  obtain ⟨v1, v2⟩ := mont_val hok ha ⟨w0, w1, w2, w3⟩ hb.1 hb.2 hc' (q _) (q _) (q _) (q _) f1 f2 f3 f4 h4 g4
  rw [← v2]
  have l5r := l5_w n8
  have r := num4_range (l1_w n8) (l2_w n8) (l3_w n8) (l4_w n8)
  have e : num6 (l1 n8) (l2 n8) (l3 n8) (l4 n8) (l5 n8) 0 = num4 (l1 n8) (l2 n8) (l3 n8) (l4 n8) + M256 * l5 n8 := by unfold num6 M256; omega
  rw [e] at v1 g4 ⊢
  clear e e1 e2 e3 e4 e5 e6 e7 e8 f1 f2 f3 f4 g1 g2 g3 h1 h2 h3 h4 v2
  generalize num4 (l1 n8) (l2 n8) (l3 n8) (l4 n8) = o at *
  generalize l5 n8 = t at *
  unfold W at l5r
  unfold M256 at *
  by_cases ht : t = 0
  · subst ht
    rw [Int.mul_zero, Int.add_zero] at *
    by_cases ho : o < M
    · simp only [ltb, ho, decide_true, Bool.not_true, Bool.or_false, Bool.false_eq_true, if_false]
      exact (Int.emod_eq_of_lt r.1 ho).symm
    · simp only [ltb, ho, decide_true, decide_false, Bool.not_true, Bool.not_false, Bool.or_true, if_true]
      rw [← Int.sub_emod_right o M, Int.emod_eq_of_lt (by omega) (by omega)]
      unfold subm M256; omega
  · simp only [ht, decide_false, Bool.not_false, Bool.true_or, if_true]
    rw [← Int.sub_emod_right (o + _) M, Int.emod_eq_of_lt (by omega) (by omega)]
    unfold subm M256; omega

theorem mmul_vc (A : Ar) (L : LP) (N : Ap) (m0 m1 m2 m3 n r0 r1 r2 r3 a0 a1 a2 a3 b0 b1 b2 b3 : Int) (hL : L = ALoop 0) (hA : A = std) (hN : N = apStd) (hm : W m0 ∧ W m1 ∧ W m2 ∧ W m3) (ha : W a0 ∧ W a1 ∧ W a2 ∧ W a3) (hb : W b0 ∧ W b1 ∧ W b2 ∧ W b3)
    (hok : okMod (num4 m0 m1 m2 m3) n = true) (hc : mcond (num4 m0 m1 m2 m3) (num4 a0 a1 a2 a3) (num4 b0 b1 b2 b3) = true) (v : SV) (K : Bool → SV → List Blk → Prop) (hK : K = FinP v)
    (hv : v = numV apStd (mmul (num4 m0 m1 m2 m3) (num4 a0 a1 a2 a3) (num4 b0 b1 b2 b3))) :
    Shut (afun (cx A L [(83, stepF N), (19, subF N)]) Try.f65 [modV m0 m1 m2 m3 n r0 r1 r2 r3, wordsV a0 a1 a2 a3, wordsV b0 b1 b2 b3] [] K) := by
  obtain ⟨B, eB⟩ : ∃ B, ap4 N num4 b0 b1 b2 b3 = B := ⟨_, rfl⟩
  obtain ⟨M, eM⟩ : ∃ M, ap4 N num4 m0 m1 m2 m3 = M := ⟨_, rfl⟩
  obtain ⟨n1, e1⟩ : ∃ n1, ap3 N stepn (ap6 N num6 0 0 0 0 0 0) a0 B = n1 := ⟨_, rfl⟩
  obtain ⟨n2, e2⟩ : ∃ n2, ap3 N stepn (ap6 N num6 (ap1 N l0 n1) (ap1 N l1 n1) (ap1 N l2 n1) (ap1 N l3 n1) (ap1 N l4 n1) (ap1 N l5 n1)) (A.iop .mul .u64 (ap1 N l0 n1) n) M = n2 := ⟨_, rfl⟩
  obtain ⟨n3, e3⟩ : ∃ n3, ap3 N stepn (ap6 N num6 (ap1 N l1 n2) (ap1 N l2 n2) (ap1 N l3 n2) (ap1 N l4 n2) (ap1 N l5 n2) 0) a1 B = n3 := ⟨_, rfl⟩
  obtain ⟨n4, e4⟩ : ∃ n4, ap3 N stepn (ap6 N num6 (ap1 N l0 n3) (ap1 N l1 n3) (ap1 N l2 n3) (ap1 N l3 n3) (ap1 N l4 n3) (ap1 N l5 n3)) (A.iop .mul .u64 (ap1 N l0 n3) n) M = n4 := ⟨_, rfl⟩
  obtain ⟨n5, e5⟩ : ∃ n5, ap3 N stepn (ap6 N num6 (ap1 N l1 n4) (ap1 N l2 n4) (ap1 N l3 n4) (ap1 N l4 n4) (ap1 N l5 n4) 0) a2 B = n5 := ⟨_, rfl⟩
  obtain ⟨n6, e6⟩ : ∃ n6, ap3 N stepn (ap6 N num6 (ap1 N l0 n5) (ap1 N l1 n5) (ap1 N l2 n5) (ap1 N l3 n5) (ap1 N l4 n5) (ap1 N l5 n5)) (A.iop .mul .u64 (ap1 N l0 n5) n) M = n6 := ⟨_, rfl⟩
  obtain ⟨n7, e7⟩ : ∃ n7, ap3 N stepn (ap6 N num6 (ap1 N l1 n6) (ap1 N l2 n6) (ap1 N l3 n6) (ap1 N l4 n6) (ap1 N l5 n6) 0) a3 B = n7 := ⟨_, rfl⟩
  obtain ⟨n8, e8⟩ : ∃ n8, ap3 N stepn (ap6 N num6 (ap1 N l0 n7) (ap1 N l1 n7) (ap1 N l2 n7) (ap1 N l3 n7) (ap1 N l4 n7) (ap1 N l5 n7)) (A.iop .mul .u64 (ap1 N l0 n7) n) M = n8 := ⟨_, rfl⟩
  obtain ⟨p, hp⟩ : ∃ p, A.icmp .neq (ap1 N l5 n8) 0 = p := ⟨_, rfl⟩
  obtain ⟨q, hq⟩ : ∃ q, ap2 N ltb (ap4 N num4 (ap1 N l1 n8) (ap1 N l2 n8) (ap1 N l3 n8) (ap1 N l4 n8)) M = q := ⟨_, rfl⟩
  obtain ⟨w, hw⟩ : ∃ w : SV, w = numV apStd (if p || !q then subm (num4 (l1 n8) (l2 n8) (l3 n8) (l4 n8)) M else num4 (l1 n8) (l2 n8) (l3 n8) (l4 n8)) := ⟨_, rfl⟩
  have fin : ∀ r : SV, r = w → v = r := by
    intro r hr
    rw [hr, hw, hv]
    subst hN; subst hA
    have := mont_all hok hc rfl ha (num4_range hb.1 hb.2.1 hb.2.2.1 hb.2.2.2) (n1 := n1) (n2 := n2) (n3 := n3) (n4 := n4) (n5 := n5) (n6 := n6) (n7 := n7) (n8 := n8) (by rw [← e1, ← eB]; rfl) (by rw [← e2, ← eM]; simp only [std, iopmul]; rfl) (by rw [← e3, ← eB]; rfl) (by rw [← e4, ← eM]; simp only [std, iopmul]; rfl)
      (by rw [← e5, ← eB]; rfl) (by rw [← e6, ← eM]; simp only [std, iopmul]; rfl) (by rw [← e7, ← eB]; rfl) (by rw [← e8, ← eM]; simp only [std, iopmul]; rfl)
    rw [← this]
    have hM : num4 m0 m1 m2 m3 = M := eM
    have hp' : (!(decide (l5 n8 = 0))) = p := by
      rw [← hp]
      by_cases h : l5 n8 = 0 <;> simp [std, icmp, ap1, apStd, h]
    have hq' : ltb (num4 (l1 n8) (l2 n8) (l3 n8) (l4 n8)) M = q := hq
    rw [hM, hp', hq']
  have hf : A.icmp .leq (A.ofNat 5) 9223372036854775807 = true := by subst hA; rfl
  simp only [ap1, ap2, ap3, ap4, ap6] at eB eM e1 e2 e3 e4 e5 e6 e7 e8 hp hq
  obtain ⟨fi, fc, fw, fb, fn, fo, fs, fa, fe, fz, fy, ff, fl⟩ := A
  (try dsimp only at hp)
  dsimp only at hf
  apply Shut.mk
  cbv
  refine lp_rounds hL 5 hL (.inr rfl) ?_
  cbv
  simp only [eB, eM, e1, e2, e3, e4, e5, e6, e7, e8, hf, and_true, true_and]
  cases p
  · cases q
    · repeat (simp only [eB, eM, hp, hq]; cbv)
      refine fin_of hK ?_ rfl (fin _ ?_)
      · cbv
      · cbv
        rw [hw]; subst hN
        obtain ⟨z0, z1, z2, z3⟩ := limbs_of (n := num4 (l1 n8) (l2 n8) (l3 n8) (l4 n8)) (k := 0) (l1_w n8) (l2_w n8) (l3_w n8) (l4_w n8) (by omega)
        simp [numV, ap1, apStd, z0, z1, z2, z3]
    · repeat (simp only [eB, eM, hp, hq]; cbv)
      refine fin_of hK ?_ rfl (fin _ ?_)
      · cbv
      · cbv
        rw [hw]; subst hN
        obtain ⟨z0, z1, z2, z3⟩ := limbs_of (n := num4 (l1 n8) (l2 n8) (l3 n8) (l4 n8)) (k := 0) (l1_w n8) (l2_w n8) (l3_w n8) (l4_w n8) (by omega)
        simp [numV, ap1, apStd, z0, z1, z2, z3]
  · repeat (simp only [eB, eM, hp]; cbv)
    refine fin_of hK ?_ rfl (fin _ ?_)
    · cbv
    · cbv
      rw [hw]; subst hN
      simp [numV, ap1, apStd]

theorem con_mmul : Con Try.prog 65 (mmulF apStd) := by
  refine con_shut Try.func65 rfl (by kernel_rfl) (fun args v us hF hv => ?_) (fun args v hF => mod2F_ids hF)
  unfold mmulF mod2F at hF
  split at hF
  · split at hF
    · rename_i M n r a b hm ha hb
      simp only [Prod.mk.injEq, Bool.and_eq_true, ap2_std, ap3_std] at hF
      obtain ⟨⟨hok, hc⟩, hF⟩ := hF
      obtain ⟨m0, m1, m2, m3, r0, r1, r2, r3, a0, a1, a2, a3, b0, b1, b2, b3, wm, wn, wr, wa, wb, rfl, rfl, rfl, rfl, hus⟩ := args_mod_two hm ha hb hv
      exact ⟨_, _, good (l := [(83, stepF apStd), (19, subF apStd)]) (by intro p hp; simp at hp; rcases hp with rfl | rfl; exact con_step; exact con_limbsSub), rfl, by kernel_rfl, hus, Nat.le_of_ble_eq_true rfl, mmul_vc std (ALoop 0) apStd m0 m1 m2 m3 n r0 r1 r2 r3 a0 a1 a2 a3 b0 b1 b2 b3 rfl rfl rfl wm wa wb hok hc v (FinP v) rfl hF.symm⟩
    · cases hF
  · cases hF

end Go.Proofs.YtnncnbplnapodaaRRR
