/- Walks through the reference's inverse modulo the order. It has no conditions. -/
import Derived.Test.YtnncnbplnapodaaRRRScal4
namespace Go.Proofs.YtnncnbplnapodaaRRR
open Go.Eng Go.RowKit
set_option maxRecDepth 1000000
set_option maxHeartbeats 4000000
set_option linter.unusedSimpArgs false
set_option linter.unusedVariables false

def rinvH (a0 a1 a2 a3 : Int) : Nat → D16 × Int → St
  | _, ((u0, u1, u2, u3, v0, v1, v2, v3, x0, x1, x2, x3, y0, y1, y2, y3), i) => ⟨[(1, .ptr 0 0), (2, .ptr 1 0), (3, .ptr 2 0), (4, .ptr 3 0), (5, .ptr 4 0), (6, .ptr 5 0), (7, .ptr 6 0), (8, .int .i64 i)],
    [⟨.lit [.int .u64 a0, .int .u64 a1, .int .u64 a2, .int .u64 a3], .var⟩, ⟨.lit [.num .u64 0, .num .u64 0, .num .u64 0, .num .u64 0], .var⟩,
      ⟨.lit [.int .u64 u0, .int .u64 u1, .int .u64 u2, .int .u64 u3], .var⟩, ⟨.lit [.int .u64 v0, .int .u64 v1, .int .u64 v2, .int .u64 v3], .var⟩,
      ⟨.lit [.int .u64 x0, .int .u64 x1, .int .u64 x2, .int .u64 x3], .var⟩, ⟨.lit [.int .u64 y0, .int .u64 y1, .int .u64 y2, .int .u64 y3], .var⟩, ⟨.lit [.int .u64 1, .num .u64 0, .num .u64 0, .num .u64 0], .var⟩], true⟩

def rinvEx (S : St) : D16 × Int := ((cellI S 2 0, cellI S 2 1, cellI S 2 2, cellI S 2 3, cellI S 3 0, cellI S 3 1, cellI S 3 2, cellI S 3 3, cellI S 4 0, cellI S 4 1, cellI S 4 2, cellI S 4 3, cellI S 5 0, cellI S 5 1, cellI S 5 2, cellI S 5 3), slotI S 8)

def rinvOk (M r : Int) (n : Nat) (d : D16 × Int) : Prop := (match d.1 with
  | (_, _, _, _, _, _, _, _, x0, x1, x2, x3, y0, y1, y2, y3) => num4 x0 x1 x2 x3 < M ∧ num4 y0 y1 y2 y3 < M) ∧ d.2 = 2000 - n ∧ invOk M r n d.1

theorem cut_id {M a : Int} (h : a < M) : cutN M a = a := by unfold cutN ltb; simp [h]

theorem rinv_next {M r : Int} {k : Nat} {u0 u1 u2 u3 v0 v1 v2 v3 x0 x1 x2 x3 y0 y1 y2 y3 i : Int} (hM : M = qN ∨ M = pN) (hd : rinvOk M r (k + 1) ((u0, u1, u2, u3, v0, v1, v2, v3, x0, x1, x2, x3, y0, y1, y2, y3), i))
    (n1 : num4 u0 u1 u2 u3 ≠ 1) (n2 : num4 v0 v1 v2 v3 ≠ 1) {i' : Int} (hi : i' = i + 1) :
    (num4 u0 u1 u2 u3 % 2 = 0 → ∀ h x', h = halfN (num4 u0 u1 u2 u3) false → x' = halvedN M (num4 x0 x1 x2 x3) → rinvOk M r k ((l0 h, l1 h, l2 h, l3 h, v0, v1, v2, v3, l0 x', l1 x', l2 x', l3 x', y0, y1, y2, y3), i')) ∧
    (¬ num4 u0 u1 u2 u3 % 2 = 0 → num4 v0 v1 v2 v3 % 2 = 0 → ∀ h y', h = halfN (num4 v0 v1 v2 v3) false → y' = halvedN M (num4 y0 y1 y2 y3) → rinvOk M r k ((u0, u1, u2, u3, l0 h, l1 h, l2 h, l3 h, x0, x1, x2, x3, l0 y', l1 y', l2 y', l3 y'), i')) ∧
    (¬ num4 u0 u1 u2 u3 % 2 = 0 → ¬ num4 v0 v1 v2 v3 % 2 = 0 → 0 ≤ cmpI (num4 u0 u1 u2 u3) (num4 v0 v1 v2 v3) → ∀ h x', h = subm (num4 u0 u1 u2 u3) (num4 v0 v1 v2 v3) → x' = ssubN M (num4 x0 x1 x2 x3) (num4 y0 y1 y2 y3) →
      rinvOk M r k ((l0 h, l1 h, l2 h, l3 h, v0, v1, v2, v3, l0 x', l1 x', l2 x', l3 x', y0, y1, y2, y3), i')) ∧
    (¬ num4 u0 u1 u2 u3 % 2 = 0 → ¬ num4 v0 v1 v2 v3 % 2 = 0 → ¬ 0 ≤ cmpI (num4 u0 u1 u2 u3) (num4 v0 v1 v2 v3) → ∀ h y', h = subm (num4 v0 v1 v2 v3) (num4 u0 u1 u2 u3) → y' = ssubN M (num4 y0 y1 y2 y3) (num4 x0 x1 x2 x3) →
      rinvOk M r k ((u0, u1, u2, u3, l0 h, l1 h, l2 h, l3 h, x0, x1, x2, x3, l0 y', l1 y', l2 y', l3 y'), i')) := by
  obtain ⟨g1, g2, g3, _⟩ := qp_range hM
  obtain ⟨⟨hx, hy⟩, hi0, hd⟩ := hd
  have nx := inv_next (M := M) ⟨by omega, by omega⟩ hd n1 n2
  obtain ⟨⟨wu, wv, wx, wy⟩, _⟩ := hd
  have rx := num4_range wx.1 wx.2.1 wx.2.2.1 wx.2.2.2
  have ry := num4_range wy.1 wy.2.1 wy.2.2.1 wy.2.2.2
  have hi2 : i' = 2000 - (k : Int) := by simp only at hi0; omega
  have hX := halved_range g1 g2 g3 ⟨rx.1, hx⟩
  have hY := halved_range g1 g2 g3 ⟨ry.1, hy⟩
  have sX := msub_range g1 g2 ⟨rx.1, hx⟩ ⟨ry.1, hy⟩
  have sY := msub_range g1 g2 ⟨ry.1, hy⟩ ⟨rx.1, hx⟩
  have c1 : ssubN M (num4 x0 x1 x2 x3) (num4 y0 y1 y2 y3) = msubN M (num4 x0 x1 x2 x3) (num4 y0 y1 y2 y3) := by unfold ssubN; rw [cut_id hx, cut_id hy]
  have c2 : ssubN M (num4 y0 y1 y2 y3) (num4 x0 x1 x2 x3) = msubN M (num4 y0 y1 y2 y3) (num4 x0 x1 x2 x3) := by unfold ssubN; rw [cut_id hx, cut_id hy]
  have w : ∀ z, 0 ≤ z → z < M → num4 (l0 z) (l1 z) (l2 z) (l3 z) < M := fun z h0 h1 => by rw [num4_mod ⟨h0, by omega⟩]; exact h1
  refine ⟨fun c h x' eh ex => ⟨⟨?_, hy⟩, hi2, nx.1 c h x' eh ex⟩, fun c c2 h y' eh ey => ⟨⟨hx, ?_⟩, hi2, nx.2.1 c c2 h y' eh ey⟩, fun c c2 c3 h x' eh ex => ?_, fun c c2' c3 h y' eh ey => ?_⟩
  · rw [ex]; exact w _ hX.1 hX.2.1
  · rw [ey]; exact w _ hY.1 hY.2.1
  · rw [c1] at ex
    exact ⟨⟨by rw [ex]; exact w _ sX.1 sX.2.1, hy⟩, hi2, nx.2.2.1 c c2 c3 h x' eh ex⟩
  · rw [c2] at ey
    exact ⟨⟨hx, by rw [ey]; exact w _ sY.1 sY.2.1⟩, hi2, nx.2.2.2 c c2' c3 h y' eh ey⟩

theorem num4_rem {u0 u1 u2 u3 : Int} (hu : W u0 ∧ W u1 ∧ W u2 ∧ W u3) {p : Bool} (h : icmp .eql (iop .rem .u64 u0 2) 0 = p) : p = decide (num4 u0 u1 u2 u3 % 2 = 0) := by
  rw [rem2 _ hu.1] at h
  rw [← h, Bool.eq_iff_iff]
  simp only [icmp, beq_iff_eq, decide_eq_true_eq]
  unfold num4; omega

theorem rinv_vc (A : Ar) (L : LP) (N : Ap) (Q : Int) (a0 a1 a2 a3 : Int) (hL : L = ALoop 0) (hA : A = std) (hN : N = apStd) (hQ : Q = qN) (ha : W a0 ∧ W a1 ∧ W a2 ∧ W a3)
    (hok : 0 ≤ sinvN Q (num4 a0 a1 a2 a3)) (v : SV) (K : Bool → SV → List Blk → Prop) (hK : K = FinP v) (hv : v = numV apStd (sinvN Q (num4 a0 a1 a2 a3))) :
    Shut (afun (cx A L [(71, scut N Q), (41, nul0F sqV), (72, smallF N), (73, halfF N), (74, shalf N Q), (22, cmpF N), (20, subF N), (44, ssub N Q)]) Try.f38 [wordsV a0 a1 a2 a3] [] K) := by
  obtain ⟨fi, fc, fw, fb, fn, fo, fs, fa, fe, fz, fy, ff, fl⟩ := A
  obtain ⟨ok, hk⟩ : ∃ f, f = rinvOk Q (sinvN Q (num4 a0 a1 a2 a3)) := ⟨_, rfl⟩
  have lit' : num4 17562291160714782033 13611842547513532036 18446744073709551615 18446744069414584320 = Q := by rw [hQ]; exact slit
  have hq : Q = qN ∨ Q = pN := .inl hQ
  obtain ⟨c, hc⟩ : ∃ c, ap1 N (cutN Q) (ap4 N num4 a0 a1 a2 a3) = c := ⟨_, rfl⟩
  have hc' : cutN Q (num4 a0 a1 a2 a3) = c := by subst hN; exact hc
  have rc : 0 ≤ c ∧ c < M256 := by rw [← hc']; exact cut_in (num4_range ha.1 ha.2.1 ha.2.2.1 ha.2.2.2)
  have wc : W (l0 c) ∧ W (l1 c) ∧ W (l2 c) ∧ W (l3 c) := ⟨l0_w c, l1_w c, l2_w c, l3_w c⟩
  simp only [ap1, ap4] at hc
  apply Shut.mk
  cbv
  simp only [hc]
  split <;> cbv
  · rename_i e
    have e := and4_of e
    cases hA; subst hN
    have e := num4_is wc (.inl rfl) e
    rw [num4_mod rc] at e
    have e : c = 0 := by simpa using e.symm
    refine fin_of hK rfl rfl ?_
    have h2 : sinvN Q (num4 a0 a1 a2 a3) = c := by unfold sinvN invT; rw [hc', if_pos e, e]
    rw [hv, h2]; rfl
  · rename_i e
    refine lp_ex hL 2000 rinvEx (rinvH a0 a1 a2 a3) ok ?_ ?_ hL (.inr rfl)
    · cbv
      have e := and4_of e
      cases hA; subst hN
      have e := num4_is wc (.inl rfl) e
      rw [num4_mod rc] at e
      have e : c ≠ 0 := by simpa using e.symm
      subst hk
      have z : W 0 := by unfold W; omega
      have o : W 1 := by unfold W; omega
      have wq : W 17562291160714782033 ∧ W 13611842547513532036 ∧ W 18446744073709551615 ∧ W 18446744069414584320 := by unfold W; omega
      refine ⟨⟨⟨?_, ?_⟩, rfl, ⟨wc, wq, ⟨o, z, z, z⟩, ⟨z, z, z, z⟩⟩, ?_⟩, trivial⟩
      · rw [hQ]; decide
      · rw [hQ]; decide
      · show invS Q 2000 (num4 (l0 c) (l1 c) (l2 c) (l3 c)) (num4 17562291160714782033 13611842547513532036 18446744073709551615 18446744069414584320) (num4 1 0 0 0) (num4 0 0 0 0) = _
        rw [num4_mod rc, lit']
        unfold sinvN invT
        rw [hc', if_neg e]; rfl
    · intro k hk2 d hd
      obtain ⟨⟨u0, u1, u2, u3, v0, v1, v2, v3, x0, x1, x2, x3, y0, y1, y2, y3⟩, i⟩ := d
      have hd' : rinvOk Q (sinvN Q (num4 a0 a1 a2 a3)) k ((u0, u1, u2, u3, v0, v1, v2, v3, x0, x1, x2, x3, y0, y1, y2, y3), i) := by rw [← hk]; exact hd
      have hwu := hd'.2.2.1.1
      have hwv := hd'.2.2.1.2.1
      have hi : i = 2000 - (k : Int) := hd'.2.1
      cases k with
      | zero =>
        have := hd'.2.2.2
        simp only [invS] at this
        omega
      | succ k =>
        have en := inv_end hd'.2.2
        have hlt : fc .lss i 2000 = true := by cases hA; simp [icmp]; omega
        have hadd : fi .add .i64 i 1 = i + 1 := by
          cases hA
          show IntKind.i64.wrap (i + 1) = _
          rw [IntKind.wrap_i64]; omega
        have nx := fun n1 n2 => rinv_next hq hd' n1 n2 hadd
        clear hd' hd
        cbv
        simp only [hlt]
        cbv
        split <;> rename_i e2 <;> simp only [e2] <;> cbv
        · have i2 := and4_of (not_of e2)
          split <;> rename_i e3 <;> simp only [e3] <;> cbv
          · have i3 := and4_of (not_of e3)
            split <;> rename_i e4 <;> (try simp only [e4]) <;> cbv
            · cases hA; subst hN; subst hk
              have i2 : num4 u0 u1 u2 u3 ≠ 1 := by simpa using (num4_is hwu (.inr rfl) i2).symm
              have i3 : num4 v0 v1 v2 v3 ≠ 1 := by simpa using (num4_is hwv (.inr rfl) i3).symm
              have i4 : num4 u0 u1 u2 u3 % 2 = 0 := by simpa using (num4_rem hwu e4).symm
              exact ⟨(nx i2 i3).1 i4 _ _ rfl rfl, rfl, trivial⟩
            · split <;> rename_i e5 <;> (try simp only [e5]) <;> cbv
              · cases hA; subst hN; subst hk
                have i2 : num4 u0 u1 u2 u3 ≠ 1 := by simpa using (num4_is hwu (.inr rfl) i2).symm
                have i3 : num4 v0 v1 v2 v3 ≠ 1 := by simpa using (num4_is hwv (.inr rfl) i3).symm
                have i4 : ¬ num4 u0 u1 u2 u3 % 2 = 0 := by simpa using (num4_rem hwu e4).symm
                have i5 : num4 v0 v1 v2 v3 % 2 = 0 := by simpa using (num4_rem hwv e5).symm
                exact ⟨(nx i2 i3).2.1 i4 i5 _ _ rfl rfl, rfl, trivial⟩
              · split <;> rename_i e6 <;> (try simp only [e6]) <;> cbv
                · cases hA; subst hN; subst hk
                  have i2 : num4 u0 u1 u2 u3 ≠ 1 := by simpa using (num4_is hwu (.inr rfl) i2).symm
                  have i3 : num4 v0 v1 v2 v3 ≠ 1 := by simpa using (num4_is hwv (.inr rfl) i3).symm
                  have i4 : ¬ num4 u0 u1 u2 u3 % 2 = 0 := by simpa using (num4_rem hwu e4).symm
                  have i5 : ¬ num4 v0 v1 v2 v3 % 2 = 0 := by simpa using (num4_rem hwv e5).symm
                  have i6 : 0 ≤ cmpI (num4 u0 u1 u2 u3) (num4 v0 v1 v2 v3) := by simpa [icmp, apStd] using e6
                  exact ⟨(nx i2 i3).2.2.1 i4 i5 i6 _ _ rfl rfl, rfl, trivial⟩
                · cases hA; subst hN; subst hk
                  have i2 : num4 u0 u1 u2 u3 ≠ 1 := by simpa using (num4_is hwu (.inr rfl) i2).symm
                  have i3 : num4 v0 v1 v2 v3 ≠ 1 := by simpa using (num4_is hwv (.inr rfl) i3).symm
                  have i4 : ¬ num4 u0 u1 u2 u3 % 2 = 0 := by simpa using (num4_rem hwu e4).symm
                  have i5 : ¬ num4 v0 v1 v2 v3 % 2 = 0 := by simpa using (num4_rem hwv e5).symm
                  have i6 : ¬ 0 ≤ cmpI (num4 u0 u1 u2 u3) (num4 v0 v1 v2 v3) := by simpa [icmp, apStd] using e6
                  exact ⟨(nx i2 i3).2.2.2 i4 i5 i6 _ _ rfl rfl, rfl, trivial⟩
          · have i3 := and4_of (not_of e3)
            have q := not_of e2
            simp only [Bool.not_true] at q
            simp only [q]
            cbv
            cases hA; subst hN; subst hk
            have i2 : num4 u0 u1 u2 u3 ≠ 1 := by simpa using (num4_is hwu (.inr rfl) i2).symm
            have i3 : num4 v0 v1 v2 v3 = 1 := by simpa using (num4_is hwv (.inr rfl) i3).symm
            refine fin_of hK rfl rfl ?_
            rw [hv, en.2 i2 i3]; rfl
        · have i2 := and4_of (not_of e2)
          have q := not_of e2
          simp only [Bool.not_false] at q
          simp only [q]
          cbv
          cases hA; subst hN; subst hk
          have i2 : num4 u0 u1 u2 u3 = 1 := by simpa using (num4_is hwu (.inr rfl) i2).symm
          refine fin_of hK rfl rfl ?_
          rw [hv, en.1 i2]; rfl

theorem con_rInv : Con Try.prog 38 (sinv apStd qN) := by
  refine con_shut Try.func38 rfl (by kernel_rfl) (fun args v us hF hv => ?_) (fun args v hF => num1F_ids hF)
  unfold sinv num1F at hF
  split at hF
  · split at hF
    · rename_i a ha
      simp only [Prod.mk.injEq, ap1_std, sinvOk, decide_eq_true_eq] at hF
      obtain ⟨hok, hF⟩ := hF
      obtain ⟨a0, a1, a2, a3, wa, rfl, hus⟩ := args_one ha hv
      exact ⟨_, _, good (l := [(71, scut apStd qN), (41, nul0F sqV), (72, smallF apStd), (73, halfF apStd), (74, shalf apStd qN), (22, cmpF apStd), (20, subF apStd), (44, ssub apStd qN)])
        (by intro p hp; simp only [List.mem_cons, List.not_mem_nil, or_false] at hp; rcases hp with rfl | rfl | rfl | rfl | rfl | rfl | rfl | rfl; exact con_srMod; exact con_srOrder; exact con_small; exact con_rhalf; exact con_rhalved; exact con_refCmp; exact con_refSub; exact con_srSub), rfl, by kernel_rfl, hus, Nat.le_of_ble_eq_true rfl,
        rinv_vc std (ALoop 0) apStd qN a0 a1 a2 a3 rfl rfl rfl rfl wa hok v (FinP v) rfl hF.symm⟩
    · cases hF
  · cases hF

end Go.Proofs.YtnncnbplnapodaaRRR
