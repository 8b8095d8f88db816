/- Walks through the inverse of a number modulo an odd one. It has no conditions. -/
import Derived.Test.YtnncnbplnapodaaRRRMont2
import Derived.Test.YtnncnbplnapodaaRRRNum3
namespace Go.Proofs.YtnncnbplnapodaaRRR
open Go.Eng Go.RowKit
set_option maxRecDepth 1000000
set_option maxHeartbeats 4000000
set_option linter.unusedSimpArgs false
set_option linter.unusedVariables false

theorem min_vc (A : Ar) (L : LP) (N : Ap) (m0 m1 m2 m3 n r0 r1 r2 r3 a0 a1 a2 a3 : Int) (hL : L = ALoop 0) (hA : A = std) (hN : N = apStd)
    (hok : okMod (num4 m0 m1 m2 m3) n = true) (hc : mcond (num4 m0 m1 m2 m3) (num4 a0 a1 a2 a3) (num4 r0 r1 r2 r3) = true) (v : SV) (K : Bool → SV → List Blk → Prop) (hK : K = FinP v)
    (hv : v = numV apStd (mmul (num4 m0 m1 m2 m3) (num4 a0 a1 a2 a3) (num4 r0 r1 r2 r3))) :
    Shut (afun (cx A L [(65, mmulF N)]) Try.f66 [modV m0 m1 m2 m3 n r0 r1 r2 r3, wordsV a0 a1 a2 a3] [] K) := by
  have h1 : ap2 N okMod (ap4 N num4 m0 m1 m2 m3) n = true := by subst hN; exact hok
  have h2 : ap3 N mcond (ap4 N num4 m0 m1 m2 m3) (ap4 N num4 a0 a1 a2 a3) (ap4 N num4 r0 r1 r2 r3) = true := by subst hN; exact hc
  simp only [ap2, ap3, ap4] at h1 h2
  apply Shut.mk
  cbv
  subst hN; subst hv
  refine fin_of hK ?_ rfl rfl
  simp [h1, h2]

theorem con_min : Con Try.prog 66 (minF apStd) := by
  refine con_shut Try.func66 rfl (by kernel_rfl) (fun args v us hF hv => ?_) (fun args v hF => mod1F_ids hF)
  unfold minF mod1F at hF
  split at hF
  · split at hF
    · rename_i M n r a hm ha
      simp only [Prod.mk.injEq, Bool.and_eq_true, ap2_std, ap3_std] at hF
      obtain ⟨⟨hok, hc⟩, hF⟩ := hF
      obtain ⟨m0, m1, m2, m3, r0, r1, r2, r3, a0, a1, a2, a3, wm, wn, wr, wa, rfl, rfl, rfl, hus⟩ := args_mod_one hm ha hv
      exact ⟨_, _, good (l := [(65, mmulF apStd)]) (by intro p hp; simp at hp; subst hp; exact con_mmul), rfl, by kernel_rfl, hus, Nat.le_of_ble_eq_true rfl, min_vc std (ALoop 0) apStd m0 m1 m2 m3 n r0 r1 r2 r3 a0 a1 a2 a3 rfl rfl rfl hok hc v (FinP v) rfl hF.symm⟩
    · cases hF
  · cases hF

theorem mout_vc (A : Ar) (L : LP) (N : Ap) (m0 m1 m2 m3 n r0 r1 r2 r3 a0 a1 a2 a3 : Int) (hL : L = ALoop 0) (hA : A = std) (hN : N = apStd)
    (hok : okMod (num4 m0 m1 m2 m3) n = true) (hc : mcond (num4 m0 m1 m2 m3) (num4 a0 a1 a2 a3) 1 = true) (v : SV) (K : Bool → SV → List Blk → Prop) (hK : K = FinP v)
    (hv : v = numV apStd (mmul (num4 m0 m1 m2 m3) (num4 a0 a1 a2 a3) 1)) :
    Shut (afun (cx A L [(65, mmulF N)]) Try.f81 [modV m0 m1 m2 m3 n r0 r1 r2 r3, wordsV a0 a1 a2 a3] [] K) := by
  have one : num4 1 0 0 0 = 1 := by decide
  rw [← one] at hc hv
  have h1 : ap2 N okMod (ap4 N num4 m0 m1 m2 m3) n = true := by subst hN; exact hok
  have h2 : ap3 N mcond (ap4 N num4 m0 m1 m2 m3) (ap4 N num4 a0 a1 a2 a3) (ap4 N num4 1 0 0 0) = true := by subst hN; exact hc
  simp only [ap2, ap3, ap4] at h1 h2
  apply Shut.mk
  cbv
  subst hN; subst hv
  refine fin_of hK ?_ rfl rfl
  simp [h1, h2]

theorem con_mout : Con Try.prog 81 (moutF apStd) := by
  refine con_shut Try.func81 rfl (by kernel_rfl) (fun args v us hF hv => ?_) (fun args v hF => mod1F_ids hF)
  unfold moutF mod1F at hF
  split at hF
  · split at hF
    · rename_i M n r a hm ha
      simp only [Prod.mk.injEq, Bool.and_eq_true, ap2_std, ap3_std] at hF
      obtain ⟨⟨hok, hc⟩, hF⟩ := hF
      obtain ⟨m0, m1, m2, m3, r0, r1, r2, r3, a0, a1, a2, a3, wm, wn, wr, wa, rfl, rfl, rfl, hus⟩ := args_mod_one hm ha hv
      exact ⟨_, _, good (l := [(65, mmulF apStd)]) (by intro p hp; simp at hp; subst hp; exact con_mmul), rfl, by kernel_rfl, hus, Nat.le_of_ble_eq_true rfl, mout_vc std (ALoop 0) apStd m0 m1 m2 m3 n r0 r1 r2 r3 a0 a1 a2 a3 rfl rfl rfl hok hc v (FinP v) rfl hF.symm⟩
    · cases hF
  · cases hF

/-! The inverse. -/

def four (l : Int → Int → Int → Int → Prop) : D16 → Prop
  | (a, b, c, d, _) => l a b c d

def invH (m0 m1 m2 m3 n r0 r1 r2 r3 a0 a1 a2 a3 : Int) : Nat → D16 → St
  | _, (u0, u1, u2, u3, v0, v1, v2, v3, x0, x1, x2, x3, y0, y1, y2, y3) => ⟨[(2, .ptr 0 0), (3, .ptr 1 0), (4, .ptr 2 0), (5, .ptr 3 0), (6, .ptr 4 0), (7, .ptr 5 0), (8, .ptr 6 0), (9, .ptr 7 0)],
    [⟨.lit [.int .u64 m0, .int .u64 m1, .int .u64 m2, .int .u64 m3, .int .u64 n, .int .u64 r0, .int .u64 r1, .int .u64 r2, .int .u64 r3], .var⟩, ⟨.lit [.int .u64 a0, .int .u64 a1, .int .u64 a2, .int .u64 a3], .var⟩,
      ⟨.lit [.num .u64 0, .num .u64 0, .num .u64 0, .num .u64 0], .var⟩, ⟨.lit [.num .u64 1, .num .u64 0, .num .u64 0, .num .u64 0], .var⟩, ⟨.lit [.int .u64 u0, .int .u64 u1, .int .u64 u2, .int .u64 u3], .var⟩, ⟨.lit [.int .u64 v0, .int .u64 v1, .int .u64 v2, .int .u64 v3], .var⟩,
      ⟨.lit [.int .u64 x0, .int .u64 x1, .int .u64 x2, .int .u64 x3], .var⟩, ⟨.lit [.int .u64 y0, .int .u64 y1, .int .u64 y2, .int .u64 y3], .var⟩], true⟩

def invEx (S : St) : D16 := (cellI S 4 0, cellI S 4 1, cellI S 4 2, cellI S 4 3, cellI S 5 0, cellI S 5 1, cellI S 5 2, cellI S 5 3, cellI S 6 0, cellI S 6 1, cellI S 6 2, cellI S 6 3, cellI S 7 0, cellI S 7 1, cellI S 7 2, cellI S 7 3)

def invOk (M r : Int) : Nat → D16 → Prop
  | n, (u0, u1, u2, u3, v0, v1, v2, v3, x0, x1, x2, x3, y0, y1, y2, y3) => ((W u0 ∧ W u1 ∧ W u2 ∧ W u3) ∧ (W v0 ∧ W v1 ∧ W v2 ∧ W v3) ∧ (W x0 ∧ W x1 ∧ W x2 ∧ W x3) ∧ (W y0 ∧ W y1 ∧ W y2 ∧ W y3)) ∧
    invS M n (num4 u0 u1 u2 u3) (num4 v0 v1 v2 v3) (num4 x0 x1 x2 x3) (num4 y0 y1 y2 y3) = r

theorem and4_of {a b c d p : Bool} (h : (match a with | false => false | true => match b with | false => false | true => match c with | false => false | true => match d with | false => false | true => true) = p) : (a && (b && (c && d))) = p := by
  cases a <;> cases b <;> cases c <;> cases d <;> cases p <;> simp_all

theorem num4_is {u0 u1 u2 u3 : Int} (hu : W u0 ∧ W u1 ∧ W u2 ∧ W u3) {z : Int} (hz : z = 0 ∨ z = 1) {p : Bool} (h : (icmp .eql u0 z && (icmp .eql u1 0 && (icmp .eql u2 0 && icmp .eql u3 0))) = p) : p = decide (num4 u0 u1 u2 u3 = z) := by
  obtain ⟨h0, h1, h2, h3⟩ := hu
  rw [← h, Bool.eq_iff_iff]
  simp only [icmp, Bool.and_eq_true, beq_iff_eq, decide_eq_true_eq]
  unfold W at *
  unfold num4
  rcases hz with rfl | rfl
  · exact ⟨fun h => by omega, fun h => ⟨by omega, by omega, by omega, by omega⟩⟩
  · exact ⟨fun h => by omega, fun h => ⟨by omega, by omega, by omega, by omega⟩⟩

theorem num4_odd {u0 u1 u2 u3 : Int} (hu : W u0 ∧ W u1 ∧ W u2 ∧ W u3) {p : Bool} (h : icmp .eql (iop .and .u64 u0 1) 0 = p) : p = decide (num4 u0 u1 u2 u3 % 2 = 0) := by
  have := and_mask hu.1 1 (by omega)
  rw [show ((2 : Int) ^ 1 - 1) = 1 from rfl, show ((2 : Int) ^ 1) = 2 from rfl] at this
  rw [this] at h
  rw [← h, Bool.eq_iff_iff]
  simp only [icmp, beq_iff_eq, decide_eq_true_eq]
  unfold num4; omega

theorem half_in {a : Int} (h : 0 ≤ a ∧ a < M256) : 0 ≤ halfN a false ∧ halfN a false < M256 := by
  unfold halfN M256 at *; simp only [Bool.false_eq_true, if_false]; omega
theorem halved_in {M a : Int} (hM : 0 ≤ M ∧ M < M256) (h : 0 ≤ a ∧ a < M256) : 0 ≤ halvedN M a ∧ halvedN M a < M256 := by
  unfold halvedN halfN addm addc M256 at *
  split
  · simp only [Bool.false_eq_true, if_false]; omega
  · split <;> omega
theorem msub_in (M a b : Int) : 0 ≤ msubN M a b ∧ msubN M a b < M256 := by
  unfold msubN
  split
  · exact addm_range _ _
  · exact subm_range _ _
theorem madd_in (M a b : Int) : 0 ≤ maddN M a b ∧ maddN M a b < M256 := by
  unfold maddN
  split
  · exact subm_range _ _
  · exact addm_range _ _
theorem cut_in {M a : Int} (h : 0 ≤ a ∧ a < M256) : 0 ≤ cutN M a ∧ cutN M a < M256 := by
  unfold cutN
  split
  · exact h
  · exact subm_range _ _

theorem inv_next {M r : Int} {k : Nat} {u0 u1 u2 u3 v0 v1 v2 v3 x0 x1 x2 x3 y0 y1 y2 y3 : Int} (hM : 0 ≤ M ∧ M < M256) (hd : invOk M r (k + 1) (u0, u1, u2, u3, v0, v1, v2, v3, x0, x1, x2, x3, y0, y1, y2, y3))
    (n1 : num4 u0 u1 u2 u3 ≠ 1) (n2 : num4 v0 v1 v2 v3 ≠ 1) :
    (num4 u0 u1 u2 u3 % 2 = 0 → ∀ h x', h = halfN (num4 u0 u1 u2 u3) false → x' = halvedN M (num4 x0 x1 x2 x3) → invOk M r k (l0 h, l1 h, l2 h, l3 h, v0, v1, v2, v3, l0 x', l1 x', l2 x', l3 x', y0, y1, y2, y3)) ∧
    (¬ num4 u0 u1 u2 u3 % 2 = 0 → num4 v0 v1 v2 v3 % 2 = 0 → ∀ h y', h = halfN (num4 v0 v1 v2 v3) false → y' = halvedN M (num4 y0 y1 y2 y3) → invOk M r k (u0, u1, u2, u3, l0 h, l1 h, l2 h, l3 h, x0, x1, x2, x3, l0 y', l1 y', l2 y', l3 y')) ∧
    (¬ num4 u0 u1 u2 u3 % 2 = 0 → ¬ num4 v0 v1 v2 v3 % 2 = 0 → 0 ≤ cmpI (num4 u0 u1 u2 u3) (num4 v0 v1 v2 v3) → ∀ h x', h = subm (num4 u0 u1 u2 u3) (num4 v0 v1 v2 v3) → x' = msubN M (num4 x0 x1 x2 x3) (num4 y0 y1 y2 y3) →
      invOk M r k (l0 h, l1 h, l2 h, l3 h, v0, v1, v2, v3, l0 x', l1 x', l2 x', l3 x', y0, y1, y2, y3)) ∧
    (¬ num4 u0 u1 u2 u3 % 2 = 0 → ¬ num4 v0 v1 v2 v3 % 2 = 0 → ¬ 0 ≤ cmpI (num4 u0 u1 u2 u3) (num4 v0 v1 v2 v3) → ∀ h y', h = subm (num4 v0 v1 v2 v3) (num4 u0 u1 u2 u3) → y' = msubN M (num4 y0 y1 y2 y3) (num4 x0 x1 x2 x3) →
      invOk M r k (u0, u1, u2, u3, l0 h, l1 h, l2 h, l3 h, x0, x1, x2, x3, l0 y', l1 y', l2 y', l3 y')) := by
  simp only [invOk] at hd ⊢
  obtain ⟨⟨wu, wv, wx, wy⟩, he⟩ := hd
  have ru := num4_range wu.1 wu.2.1 wu.2.2.1 wu.2.2.2
  have rv := num4_range wv.1 wv.2.1 wv.2.2.1 wv.2.2.2
  have rx := num4_range wx.1 wx.2.1 wx.2.2.1 wx.2.2.2
  have ry := num4_range wy.1 wy.2.1 wy.2.2.1 wy.2.2.2
  have wl : ∀ z, W (l0 z) ∧ W (l1 z) ∧ W (l2 z) ∧ W (l3 z) := fun z => ⟨l0_w z, l1_w z, l2_w z, l3_w z⟩
  simp only [invS] at he
  rw [if_neg n1, if_neg n2] at he
  refine ⟨fun c h x' eh ex => ?_, fun c c2 h y' eh ey => ?_, fun c c2 c3 h x' eh ex => ?_, fun c c2 c3 h y' eh ey => ?_⟩
  · rw [if_pos c] at he
    refine ⟨⟨wl h, wv, wl x', wy⟩, ?_⟩
    rw [num4_mod (by rw [eh]; exact half_in ru), num4_mod (by rw [ex]; exact halved_in hM rx), eh, ex]
    exact he
  · rw [if_neg c, if_pos c2] at he
    refine ⟨⟨wu, wl h, wx, wl y'⟩, ?_⟩
    rw [num4_mod (by rw [eh]; exact half_in rv), num4_mod (by rw [ey]; exact halved_in hM ry), eh, ey]
    exact he
  · rw [if_neg c, if_neg c2, if_pos c3] at he
    refine ⟨⟨wl h, wv, wl x', wy⟩, ?_⟩
    rw [num4_mod (by rw [eh]; exact subm_range _ _), num4_mod (by rw [ex]; exact msub_in _ _ _), eh, ex]
    exact he
  · rw [if_neg c, if_neg c2, if_neg c3] at he
    refine ⟨⟨wu, wl h, wx, wl y'⟩, ?_⟩
    rw [num4_mod (by rw [eh]; exact subm_range _ _), num4_mod (by rw [ey]; exact msub_in _ _ _), eh, ey]
    exact he

theorem inv_end {M r : Int} {k : Nat} {u0 u1 u2 u3 v0 v1 v2 v3 x0 x1 x2 x3 y0 y1 y2 y3 : Int} (hd : invOk M r (k + 1) (u0, u1, u2, u3, v0, v1, v2, v3, x0, x1, x2, x3, y0, y1, y2, y3)) :
    (num4 u0 u1 u2 u3 = 1 → numV apStd r = wordsV x0 x1 x2 x3) ∧ (num4 u0 u1 u2 u3 ≠ 1 → num4 v0 v1 v2 v3 = 1 → numV apStd r = wordsV y0 y1 y2 y3) := by
  simp only [invOk] at hd
  obtain ⟨⟨wu, wv, wx, wy⟩, he⟩ := hd
  simp only [invS] at he
  refine ⟨fun h => ?_, fun h h' => ?_⟩
  · rw [if_pos h] at he
    rw [← he]; exact words_num wx
  · rw [if_neg h, if_pos h'] at he
    rw [← he]; exact words_num wy

theorem minv_vc (A : Ar) (L : LP) (N : Ap) (m0 m1 m2 m3 n r0 r1 r2 r3 a0 a1 a2 a3 : Int) (hL : L = ALoop 0) (hA : A = std) (hN : N = apStd) (hm : W m0 ∧ W m1 ∧ W m2 ∧ W m3) (ha : W a0 ∧ W a1 ∧ W a2 ∧ W a3)
    (hok : 0 ≤ invT (num4 m0 m1 m2 m3) (num4 a0 a1 a2 a3)) (v : SV) (K : Bool → SV → List Blk → Prop) (hK : K = FinP v) (hv : v = numV apStd (invT (num4 m0 m1 m2 m3) (num4 a0 a1 a2 a3))) :
    Shut (afun (cx A L [(84, halfF N), (85, halvedF N), (21, cmpF N), (19, subF N), (75, msubF N)]) Try.f68 [modV m0 m1 m2 m3 n r0 r1 r2 r3, wordsV a0 a1 a2 a3] [] K) := by
  obtain ⟨fi, fc, fw, fb, fn, fo, fs, fa, fe, fz, fy, ff, fl⟩ := A
  obtain ⟨ok, hk⟩ : ∃ f, f = invOk (num4 m0 m1 m2 m3) (invT (num4 m0 m1 m2 m3) (num4 a0 a1 a2 a3)) := ⟨_, rfl⟩
  have hM := num4_range hm.1 hm.2.1 hm.2.2.1 hm.2.2.2
  apply Shut.mk
  cbv
  split <;> cbv
  · rename_i e
    have e := and4_of e
    cases hA
    have e := num4_is ha (.inl rfl) e
    have e : num4 a0 a1 a2 a3 = 0 := by simpa using e.symm
    refine fin_of hK rfl rfl ?_
    have h2 : invT (num4 m0 m1 m2 m3) (num4 a0 a1 a2 a3) = num4 a0 a1 a2 a3 := by unfold invT; rw [if_pos e, e]
    rw [hv, h2, words_num ha]; rfl
  · rename_i e
    refine lp_ex hL 2000 invEx (invH m0 m1 m2 m3 n r0 r1 r2 r3 a0 a1 a2 a3) ok ?_ ?_ hL (.inr rfl)
    · cbv
      have e := and4_of e
      cases hA
      have e := num4_is ha (.inl rfl) e
      have e : num4 a0 a1 a2 a3 ≠ 0 := by simpa using e.symm
      subst hk
      have z : W 0 := by unfold W; omega
      have o : W 1 := by unfold W; omega
      refine ⟨⟨⟨ha, hm, ⟨o, z, z, z⟩, ⟨z, z, z, z⟩⟩, ?_⟩, trivial⟩
      unfold invT
      rw [if_neg e]; rfl
    · intro k hk2 d hd
      obtain ⟨u0, u1, u2, u3, v0, v1, v2, v3, x0, x1, x2, x3, y0, y1, y2, y3⟩ := d
      have hd' : invOk (num4 m0 m1 m2 m3) (invT (num4 m0 m1 m2 m3) (num4 a0 a1 a2 a3)) k (u0, u1, u2, u3, v0, v1, v2, v3, x0, x1, x2, x3, y0, y1, y2, y3) := by rw [← hk]; exact hd
      have hwu := hd'.1.1
      have hwv := hd'.1.2.1
      cases k with
      | zero =>
        have := hd'.2
        simp only [invS] at this
        omega
      | succ k =>
        have nx := inv_next hM hd'
        have en := inv_end hd'
        clear hd' hd
        cbv
        split <;> rename_i e2 <;> simp only [e2] <;> cbv
        · have i2 := and4_of (not_of e2)
          split <;> rename_i e3 <;> simp only [e3] <;> cbv
          · have i3 := and4_of (not_of e3)
            split <;> rename_i e4 <;> (try simp only [e4]) <;> cbv
            · cases hA; subst hN; subst hk
              have i2 : num4 u0 u1 u2 u3 ≠ 1 := by simpa using (num4_is hwu (.inr rfl) i2).symm
              have i3 : num4 v0 v1 v2 v3 ≠ 1 := by simpa using (num4_is hwv (.inr rfl) i3).symm
              have i4 : num4 u0 u1 u2 u3 % 2 = 0 := by simpa using (num4_odd hwu e4).symm
              exact ⟨(nx i2 i3).1 i4 _ _ rfl rfl, trivial⟩
            · split <;> rename_i e5 <;> (try simp only [e5]) <;> cbv
              · cases hA; subst hN; subst hk
                have i2 : num4 u0 u1 u2 u3 ≠ 1 := by simpa using (num4_is hwu (.inr rfl) i2).symm
                have i3 : num4 v0 v1 v2 v3 ≠ 1 := by simpa using (num4_is hwv (.inr rfl) i3).symm
                have i4 : ¬ num4 u0 u1 u2 u3 % 2 = 0 := by simpa using (num4_odd hwu e4).symm
                have i5 : num4 v0 v1 v2 v3 % 2 = 0 := by simpa using (num4_odd hwv e5).symm
                exact ⟨(nx i2 i3).2.1 i4 i5 _ _ rfl rfl, trivial⟩
              · split <;> rename_i e6 <;> (try simp only [e6]) <;> cbv
                · cases hA; subst hN; subst hk
                  have i2 : num4 u0 u1 u2 u3 ≠ 1 := by simpa using (num4_is hwu (.inr rfl) i2).symm
                  have i3 : num4 v0 v1 v2 v3 ≠ 1 := by simpa using (num4_is hwv (.inr rfl) i3).symm
                  have i4 : ¬ num4 u0 u1 u2 u3 % 2 = 0 := by simpa using (num4_odd hwu e4).symm
                  have i5 : ¬ num4 v0 v1 v2 v3 % 2 = 0 := by simpa using (num4_odd hwv e5).symm
                  have i6 : 0 ≤ cmpI (num4 u0 u1 u2 u3) (num4 v0 v1 v2 v3) := by simpa [icmp, apStd] using e6
                  exact ⟨(nx i2 i3).2.2.1 i4 i5 i6 _ _ rfl rfl, trivial⟩
                · cases hA; subst hN; subst hk
                  have i2 : num4 u0 u1 u2 u3 ≠ 1 := by simpa using (num4_is hwu (.inr rfl) i2).symm
                  have i3 : num4 v0 v1 v2 v3 ≠ 1 := by simpa using (num4_is hwv (.inr rfl) i3).symm
                  have i4 : ¬ num4 u0 u1 u2 u3 % 2 = 0 := by simpa using (num4_odd hwu e4).symm
                  have i5 : ¬ num4 v0 v1 v2 v3 % 2 = 0 := by simpa using (num4_odd hwv e5).symm
                  have i6 : ¬ 0 ≤ cmpI (num4 u0 u1 u2 u3) (num4 v0 v1 v2 v3) := by simpa [icmp, apStd] using e6
                  exact ⟨(nx i2 i3).2.2.2 i4 i5 i6 _ _ rfl rfl, trivial⟩
          · have i3 := and4_of (not_of e3)
            have q := not_of e2
            simp only [Bool.not_true] at q
            simp only [q]
            cbv
            cases hA; subst hN; subst hk
            have i2 : num4 u0 u1 u2 u3 ≠ 1 := by simpa using (num4_is hwu (.inr rfl) i2).symm
            have i3 : num4 v0 v1 v2 v3 = 1 := by simpa using (num4_is hwv (.inr rfl) i3).symm
            refine fin_of hK rfl rfl ?_
            rw [hv, en.2 i2 i3]; rfl
        · have i2 := and4_of (not_of e2)
          have q := not_of e2
          simp only [Bool.not_false] at q
          simp only [q]
          cbv
          cases hA; subst hN; subst hk
          have i2 : num4 u0 u1 u2 u3 = 1 := by simpa using (num4_is hwu (.inr rfl) i2).symm
          refine fin_of hK rfl rfl ?_
          rw [hv, en.1 i2]; rfl

theorem con_minv : Con Try.prog 68 (minvF apStd) := by
  refine con_shut Try.func68 rfl (by kernel_rfl) (fun args v us hF hv => ?_) (fun args v hF => mod1F_ids hF)
  unfold minvF mod1F at hF
  split at hF
  · split at hF
    · rename_i M n r a hm ha
      simp only [Prod.mk.injEq, ap2_std, decide_eq_true_eq] at hF
      obtain ⟨hok, hF⟩ := hF
      obtain ⟨m0, m1, m2, m3, r0, r1, r2, r3, a0, a1, a2, a3, wm, wn, wr, wa, rfl, rfl, rfl, hus⟩ := args_mod_one hm ha hv
      exact ⟨_, _, good (l := [(84, halfF apStd), (85, halvedF apStd), (21, cmpF apStd), (19, subF apStd), (75, msubF apStd)])
        (by intro p hp; simp only [List.mem_cons, List.not_mem_nil, or_false] at hp; rcases hp with rfl | rfl | rfl | rfl | rfl; exact con_half; exact con_halved; exact con_limbsCmp; exact con_limbsSub; exact con_msub), rfl, by kernel_rfl, hus, Nat.le_of_ble_eq_true rfl,
        minv_vc std (ALoop 0) apStd m0 m1 m2 m3 n r0 r1 r2 r3 a0 a1 a2 a3 rfl rfl rfl wm wa hok v (FinP v) rfl hF.symm⟩
    · cases hF
  · cases hF

end Go.Proofs.YtnncnbplnapodaaRRR
