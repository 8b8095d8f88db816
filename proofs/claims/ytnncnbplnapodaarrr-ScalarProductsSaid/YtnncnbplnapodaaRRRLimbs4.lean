/- Walks through the functions on bytes and bits of the limbs package. It has no conditions. -/
import Derived.Test.YtnncnbplnapodaaRRRNum2
import Derived.Test.YtnncnbplnapodaaRRRBase
namespace Go.Proofs.YtnncnbplnapodaaRRR
open Go.Eng Go.RowKit
set_option maxRecDepth 1000000
set_option maxHeartbeats 4000000
set_option linter.unusedSimpArgs false
set_option linter.unusedVariables false

theorem limbsBytes_vc (A : Ar) (L : LP) (a0 a1 a2 a3 : Int) (hL : L = ALoop 0) (hA : A = std) (ha : W a0 ∧ W a1 ∧ W a2 ∧ W a3) (v : SV) (K : Bool → SV → List Blk → Prop) (hK : K = FinP v)
    (hv : v = .str (bytesN (num4 a0 a1 a2 a3))) :
    afun (cx A L []) Try.f29 [wordsV a0 a1 a2 a3] [] K := by
  cbv
  refine lp_rounds hL 33 hL (.inr rfl) ?_
  cbv
  subst hA
  refine fin_of hK ?_ rfl ?_
  · simp [std, icmp]
  · obtain ⟨e0, e1, e2, e3⟩ := l_num4 ha.1 ha.2.1 ha.2.2.1 ha.2.2.2
    rw [hv]
    simp only [oneTup, bytesN, bl, wb, e0, e1, e2, e3, std, wrap8, sh0, sh8, sh16, sh24, sh32, sh40, sh48, sh56, List.cons_append, List.nil_append]

theorem refBytes_vc (A : Ar) (L : LP) (a0 a1 a2 a3 : Int) (hL : L = ALoop 0) (hA : A = std) (ha : W a0 ∧ W a1 ∧ W a2 ∧ W a3) (v : SV) (K : Bool → SV → List Blk → Prop) (hK : K = FinP v)
    (hv : v = .str (bytesN (num4 a0 a1 a2 a3))) :
    afun (cx A L []) Try.f30 [wordsV a0 a1 a2 a3] [] K := by
  cbv
  refine lp_rounds hL 5 hL (.inr rfl) ?_
  cbv
  refine lp_rounds hL 9 hL (.inr rfl) ?_
  cbv
  refine lp_rounds hL 9 hL (.inr rfl) ?_
  cbv
  refine lp_rounds hL 9 hL (.inr rfl) ?_
  cbv
  refine lp_rounds hL 9 hL (.inr rfl) ?_
  cbv
  subst hA
  refine fin_of hK ?_ rfl ?_
  · simp [std, icmp]
  · obtain ⟨e0, e1, e2, e3⟩ := l_num4 ha.1 ha.2.1 ha.2.2.1 ha.2.2.2
    rw [hv]
    simp only [oneTup, bytesN, bl, wb, e0, e1, e2, e3, std, wrap8, sh0, sh8, sh16, sh24, sh32, sh40, sh48, sh56, List.cons_append, List.nil_append]

theorem limbsFrom_vc (A : Ar) (L : LP) (s : ByteArray) (hL : L = ALoop 0) (hA : A = std) (hs : s.size ≤ 9223372036854775807) (v : SV) (K : Bool → SV → List Blk → Prop) (hK : K = FinP v)
    (hv : v = .tup [numV apStd (fromN s), .int .i64 (fromE s)]) :
    afun (cx A L []) Try.f27 [.str s] [] K := by
  obtain ⟨fi, fc, fw, fb, fn, fo, fs, fa, fe, fz⟩ := A
  cbv
  cases h : fc .neq (fo (fz s)) 32 <;> cbv
  · refine lp_rounds hL 33 hL (.inr rfl) ?_
    cbv
    cases hA
    have e : s.size = 32 := by simp [icmp] at h; omega
    refine fin_sb hK ?_ ?_ ?_
    · simp [std, icmp, e]
    · rw [hv]; rfl
    · obtain ⟨e0, e1, e2, e3⟩ := l_num4 (wd_w s 24) (wd_w s 16) (wd_w s 8) (wd_w s 0)
      rw [hv]
      have hb : ∀ i, ((s.data.getD i 0).toNat : Int) = bt s i := fun i => rfl
      have hw : ∀ i, IntKind.u64.wrap (bt s i) = bt s i := fun i => byte_word rfl
      have r := bt_range s
      simp only [oneTup, numV, ap1, apStd, fromN, fromE, e, if_true, e0, e1, e2, e3, hb, hw, word_up (r _) (r _) (r _) (r _) (r _) (r _) (r _) (r _)]
      simp [wd, SV.sb, SV.sbs, kn]
  · cases hA
    have e : s.size ≠ 32 := by simp [icmp] at h; omega
    refine fin_sb hK ?_ ?_ ?_
    · have hs' : (s.size : Int) ≤ 9223372036854775807 := by omega
      simp [std, icmp, hs']
    · rw [hv]; rfl
    · rw [hv]
      simp [oneTup, numV, ap1, apStd, fromN, fromE, e, SV.sb, SV.sbs, kn, l0, l1, l2, l3]

theorem refFrom_vc (A : Ar) (L : LP) (s : ByteArray) (hL : L = ALoop 0) (hA : A = std) (hs : s.size ≤ 9223372036854775807) (v : SV) (K : Bool → SV → List Blk → Prop) (hK : K = FinP v)
    (hv : v = .tup [numV apStd (fromN s), .int .i64 (fromE s)]) :
    afun (cx A L []) Try.f28 [.str s] [] K := by
  obtain ⟨fi, fc, fw, fb, fn, fo, fs, fa, fe, fz⟩ := A
  cbv
  cases h : fc .neq (fo (fz s)) 32 <;> cbv
  · refine lp_rounds hL 33 hL (.inr rfl) ?_
    cbv
    cases hA
    have e : s.size = 32 := by simp [icmp] at h; omega
    refine fin_sb hK ?_ ?_ ?_
    · simp [std, icmp, e]
    · rw [hv]; rfl
    · obtain ⟨e0, e1, e2, e3⟩ := l_num4 (wd_w s 24) (wd_w s 16) (wd_w s 8) (wd_w s 0)
      rw [hv]
      have hb : ∀ i, ((s.data.getD i 0).toNat : Int) = bt s i := fun i => rfl
      have hw : ∀ i, IntKind.u64.wrap (bt s i) = bt s i := fun i => byte_word rfl
      have r := bt_range s
      simp only [oneTup, numV, ap1, apStd, fromN, fromE, e, if_true, e0, e1, e2, e3, hb, hw, word_down (r _) (r _) (r _) (r _) (r _) (r _) (r _) (r _)]
      simp [wd, SV.sb, SV.sbs, kn]
  · cases hA
    have e : s.size ≠ 32 := by simp [icmp] at h; omega
    refine fin_sb hK ?_ ?_ ?_
    · have hs' : (s.size : Int) ≤ 9223372036854775807 := by omega
      simp [std, icmp, hs']
    · rw [hv]; rfl
    · rw [hv]
      simp [oneTup, numV, ap1, apStd, fromN, fromE, e, SV.sb, SV.sbs, kn, l0, l1, l2, l3]

theorem limbsBit_vc (A : Ar) (L : LP) (a0 a1 a2 a3 i : Int) (hL : L = ALoop 0) (hA : A = std) (ha : W a0 ∧ W a1 ∧ W a2 ∧ W a3) (v : SV) (K : Bool → SV → List Blk → Prop) (hK : K = FinP v)
    (hv : v = .bool (bitB (num4 a0 a1 a2 a3) i)) :
    afun (cx A L []) Try.f31 [wordsV a0 a1 a2 a3, .int .i64 i] [] K := by
  obtain ⟨fi, fc, fw, fb, fn, fo, fs, fa, fe, fz⟩ := A
  cbv
  cases h1 : fc .geq i 0 <;> cbv
  · cases hA
    refine fin_of hK ?_ rfl ?_
    · rfl
    · rw [hv]
      simp [icmp] at h1
      simp [oneTup, bitB]; omega
  · cases h2 : fc .lss i 256 <;> cbv
    · cases hA
      refine fin_of hK ?_ rfl ?_
      · rfl
      · rw [hv]
        simp [icmp] at h1 h2
        simp [oneTup, bitB]; omega
    · cases hA
      simp [icmp] at h1 h2
      obtain ⟨e0, e1, e2, e3⟩ := l_num4 ha.1 ha.2.1 ha.2.2.1 ha.2.2.2
      obtain ⟨n, rfl⟩ := Int.eq_ofNat_of_zero_le h1
      have q : iop .quo .i64 (n : Int) 64 = ((n / 64 : Nat) : Int) := by
        show IntKind.i64.wrap (Int.tdiv (n : Int) 64) = _
        rw [IntKind.wrap_i64]
        have : Int.tdiv (n : Int) 64 = ((n / 64 : Nat) : Int) := rfl
        rw [this]; omega
      have rm : iop .rem .i64 (n : Int) 64 = ((n % 64 : Nat) : Int) := rfl
      have wr : IntKind.u64.wrap ((n % 64 : Nat) : Int) = ((n % 64 : Nat) : Int) := by rw [IntKind.wrap_u64]; omega
      refine fin_of hK ?_ rfl ?_
      · simp only [std, q, rm, wr]
        simp [icmp, show (0 : Int) ≤ (n : Int) % 64 by omega, show (n : Int) / 64 ≤ 3 by omega, show (0 : Int) ≤ (n : Int) / 64 by omega, show (n : Int) / 64 < 4 by omega]
      · rw [hv]
        simp only [oneTup, bitB, std, icmp, q, rm, wr, e0, e1, e2, e3, Int.toNat_natCast, List.getD_eq_getElem?_getD]
        rw [bit_of (word_at ha.1 ha.2.1 ha.2.2.1 ha.2.2.2 _) _ (by omega)]
        simp [h2]

theorem refBit_vc (A : Ar) (L : LP) (a0 a1 a2 a3 i : Int) (hL : L = ALoop 0) (hA : A = std) (ha : W a0 ∧ W a1 ∧ W a2 ∧ W a3) (v : SV) (K : Bool → SV → List Blk → Prop) (hK : K = FinP v)
    (hv : v = .bool (bitB (num4 a0 a1 a2 a3) i)) :
    afun (cx A L []) Try.f32 [wordsV a0 a1 a2 a3, .int .i64 i] [] K := by
  obtain ⟨fi, fc, fw, fb, fn, fo, fs, fa, fe, fz⟩ := A
  cbv
  cases h1 : fc .geq i 0 <;> cbv
  · cases hA
    refine fin_of hK ?_ rfl ?_
    · rfl
    · rw [hv]
      simp [icmp] at h1
      simp [oneTup, bitB]; omega
  · cases h2 : fc .lss i 256 <;> cbv
    · cases hA
      refine fin_of hK ?_ rfl ?_
      · rfl
      · rw [hv]
        simp [icmp] at h1 h2
        simp [oneTup, bitB]; omega
    · cases hA
      simp [icmp] at h1 h2
      obtain ⟨e0, e1, e2, e3⟩ := l_num4 ha.1 ha.2.1 ha.2.2.1 ha.2.2.2
      obtain ⟨n, rfl⟩ := Int.eq_ofNat_of_zero_le h1
      have q : iop .quo .i64 (n : Int) 64 = ((n / 64 : Nat) : Int) := by
        show IntKind.i64.wrap (Int.tdiv (n : Int) 64) = _
        rw [IntKind.wrap_i64]
        have : Int.tdiv (n : Int) 64 = ((n / 64 : Nat) : Int) := rfl
        rw [this]; omega
      have rm : iop .rem .i64 (n : Int) 64 = ((n % 64 : Nat) : Int) := rfl
      have wr : IntKind.u64.wrap ((n % 64 : Nat) : Int) = ((n % 64 : Nat) : Int) := by rw [IntKind.wrap_u64]; omega
      refine fin_of hK ?_ rfl ?_
      · simp only [std, q, rm, wr]
        simp [icmp, show (0 : Int) ≤ (n : Int) % 64 by omega, show (n : Int) / 64 ≤ 3 by omega, show (0 : Int) ≤ (n : Int) / 64 by omega, show (n : Int) / 64 < 4 by omega]
      · rw [hv]
        simp only [oneTup, bitB, std, icmp, q, rm, wr, e0, e1, e2, e3, Int.toNat_natCast, List.getD_eq_getElem?_getD]
        rw [bit_of (word_at ha.1 ha.2.1 ha.2.2.1 ha.2.2.2 _) _ (by omega)]
        simp [h2]

theorem con_limbsBytes : Con Try.prog 29 (bytesF apStd) := by
  refine con_of Try.func29 rfl (by kernel_rfl) (fun args v us hF hv => ?_) (fun args v hF => bytesF_ids hF)
  unfold bytesF at hF
  split at hF
  · rename_i x
    split at hF
    · rename_i a ha
      simp only [Prod.mk.injEq, true_and] at hF
      obtain ⟨a0, a1, a2, a3, wa, rfl, hus⟩ := args_one ha hv
      simp only [ap1, apStd] at hF
      exact ⟨_, _, good (l := []) (by simp), rfl, by kernel_rfl, hus, Nat.le_of_ble_eq_true rfl, limbsBytes_vc std (ALoop 0) a0 a1 a2 a3 rfl rfl wa v (FinP v) rfl hF.symm⟩
    · cases hF
  · cases hF

theorem con_refBytes : Con Try.prog 30 (bytesF apStd) := by
  refine con_of Try.func30 rfl (by kernel_rfl) (fun args v us hF hv => ?_) (fun args v hF => bytesF_ids hF)
  unfold bytesF at hF
  split at hF
  · rename_i x
    split at hF
    · rename_i a ha
      simp only [Prod.mk.injEq, true_and] at hF
      obtain ⟨a0, a1, a2, a3, wa, rfl, hus⟩ := args_one ha hv
      simp only [ap1, apStd] at hF
      exact ⟨_, _, good (l := []) (by simp), rfl, by kernel_rfl, hus, Nat.le_of_ble_eq_true rfl, refBytes_vc std (ALoop 0) a0 a1 a2 a3 rfl rfl wa v (FinP v) rfl hF.symm⟩
    · cases hF
  · cases hF

theorem con_limbsFrom : Con Try.prog 27 (fromF std apStd) := by
  refine con_of Try.func27 rfl (by kernel_rfl) (fun args v us hF hv => ?_) (fun args v hF => fromF_ids hF)
  unfold fromF at hF
  split at hF
  · rename_i s
    simp only [Prod.mk.injEq] at hF
    obtain ⟨h1, h2⟩ := hF
    rw [show ap1 apStd fromN s = fromN s from rfl, show ap1 apStd fromE s = fromE s from rfl] at h2
    have hs : s.size ≤ 9223372036854775807 := by simp [std, icmp] at h1; omega
    exact ⟨_, _, good (l := []) (by simp), rfl, by kernel_rfl, hv, Nat.le_of_ble_eq_true rfl, limbsFrom_vc std (ALoop 0) s rfl rfl hs v (FinP v) rfl h2.symm⟩
  · cases hF

theorem con_refFrom : Con Try.prog 28 (fromF std apStd) := by
  refine con_of Try.func28 rfl (by kernel_rfl) (fun args v us hF hv => ?_) (fun args v hF => fromF_ids hF)
  unfold fromF at hF
  split at hF
  · rename_i s
    simp only [Prod.mk.injEq] at hF
    obtain ⟨h1, h2⟩ := hF
    rw [show ap1 apStd fromN s = fromN s from rfl, show ap1 apStd fromE s = fromE s from rfl] at h2
    have hs : s.size ≤ 9223372036854775807 := by simp [std, icmp] at h1; omega
    exact ⟨_, _, good (l := []) (by simp), rfl, by kernel_rfl, hv, Nat.le_of_ble_eq_true rfl, refFrom_vc std (ALoop 0) s rfl rfl hs v (FinP v) rfl h2.symm⟩
  · cases hF

theorem con_limbsBit : Con Try.prog 31 (bitF apStd) := by
  refine con_of Try.func31 rfl (by kernel_rfl) (fun args v us hF hv => ?_) (fun args v hF => bitF_ids hF)
  unfold bitF at hF
  split at hF
  · rename_i x y
    split at hF
    · rename_i a i ha hi
      simp only [Prod.mk.injEq, true_and] at hF
      obtain ⟨a0, a1, a2, a3, wa, rfl, hus⟩ := args_num_int ha hi hv
      simp only [ap2, apStd] at hF
      exact ⟨_, _, good (l := []) (by simp), rfl, by kernel_rfl, hus, Nat.le_of_ble_eq_true rfl, limbsBit_vc std (ALoop 0) a0 a1 a2 a3 i rfl rfl wa v (FinP v) rfl hF.symm⟩
    · cases hF
  · cases hF

theorem con_refBit : Con Try.prog 32 (bitF apStd) := by
  refine con_of Try.func32 rfl (by kernel_rfl) (fun args v us hF hv => ?_) (fun args v hF => bitF_ids hF)
  unfold bitF at hF
  split at hF
  · rename_i x y
    split at hF
    · rename_i a i ha hi
      simp only [Prod.mk.injEq, true_and] at hF
      obtain ⟨a0, a1, a2, a3, wa, rfl, hus⟩ := args_num_int ha hi hv
      simp only [ap2, apStd] at hF
      exact ⟨_, _, good (l := []) (by simp), rfl, by kernel_rfl, hus, Nat.le_of_ble_eq_true rfl, refBit_vc std (ALoop 0) a0 a1 a2 a3 i rfl rfl wa v (FinP v) rfl hF.symm⟩
    · cases hF
  · cases hF

end Go.Proofs.YtnncnbplnapodaaRRR
