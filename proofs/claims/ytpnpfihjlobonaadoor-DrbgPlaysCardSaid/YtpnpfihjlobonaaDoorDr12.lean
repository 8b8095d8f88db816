/- The examples of the chapter on random numbers. It has no conditions. -/
import Derived.Test.YtpnpfihjlobonaaDoorDr11
namespace Go.Proofs.YtpnpfihjlobonaaDoor
open Go.Eng Go.RowKit
set_option maxRecDepth 1000000
set_option maxHeartbeats 4000000
set_option linter.unusedSimpArgs false
set_option linter.unusedVariables false

theorem bytS_size {k v : List Int} {n : Int} (hv : v.length = 32) (h0 : 0 ≤ n) (h1 : n ≤ 4096) : (bytS k v n).size = n.toNat := by
  unfold bytS
  rw [if_neg (by unfold byBad; omega), size_mkb, List.drop_zero, List.length_take, oL_len]
  unfold cN
  omega

/-- A scalar is 1 to q - 1. -/
theorem scR_X (m : Nat) : ∀ (k v : List Int) (a : Int), 0 < (scR m k v a).2.2.2 ∧ (scR m k v a).2.2.2 < qN := by
  induction m with
  | zero =>
    intro k v a
    rw [scR]
    dsimp only
    decide
  | succ m ih =>
    intro k v a
    by_cases h : 0 < fromN (bytS k v 32) ∧ fromN (bytS k v 32) < qN
    · rw [scR_yes m k v a h]; dsimp only; exact h
    · rw [scR_no m k v a h]; exact ih _ _ _
theorem scX_range (k v : List Int) (a : Int) : 0 < scX k v a ∧ scX k v a < qN := by
  unfold scX; exact scR_X 64 k v a
theorem apStd_app {α β : Type} (f : α → β) (a : α) : apStd α β f a = f a := rfl
theorem newV_size (s : ByteArray) : (newV s).size = 32 := updV_size _ _ _
theorem newK_size (s : ByteArray) : (newK s).size = 32 := updK_size _ _ _
theorem qN_le : qN ≤ M256 := by decide

def drbgD (A : Ar) (N : Ap) : Heap := [(21, dnewH A N), (22, bytesH A N), (23, scalarH A N), (24, askH A N), (25, polyH A N)]

theorem awake29_vc (A : Ar) (N : Ap) (L : LP) (F R : List Int) (hA : A = std) (hN : N = apStd) (hF : F = firstL) (hR : R = roundsL) (K : Bool → SV → List Blk → Prop) (hK : K = FinH 2 (.bool true) [] [] (uniR 2 (.bool true) [] [])) :
    Shut (afun (cxg A L [] (drbgD A N)) Tryd.f20 [] [⟨.ints .u32 F, .ro⟩, ⟨.ints .u32 R, .ro⟩] K) := by
  obtain ⟨fi, fc, fw, fb, fn, fo, fs, fa, fe, fz, fy, ff, fl, fq, gadd, gsub, gmul, gmin, hlen', hget, hset, happ, hisub, irep, iput', rlen, rint', rbool', rstr', rset, rapp, rsub, rrep, hmkb, hbyts⟩ := A
  have hNF : N (List Int) Bool isFirst F = true := by subst hN; exact decide_eq_true hF
  have hNR : N (List Int) Bool isRounds R = true := by subst hN; exact decide_eq_true hR
  have hc0 : fc .eql 0 0 = true := by cases hA; rfl
  have hc1 : fc .eql 1 1 = true := by cases hA; rfl
  have h40 : fc .eql (fo 40) 40 = true := by cases hA; rfl
  have h72 : fc .eql 72 72 = true := by cases hA; rfl
  have h2 : fc .eql (fo 2) 2 = true := by cases hA; rfl
  have hs : ∀ x, fs .eql x x = true := by cases hA; intro x; simp [std, scmp]
  have hp : N Int Nat polC 2 = 2 := by subst hN; rfl
  have hb0 : N Int Int bytE 40 = 0 := by subst hN; simp only [apStd]; decide
  have hb1 : N Int Int bytE (-1) = 1 := by subst hN; simp only [apStd]; decide
  have hz : ∀ s, fz (N Int ByteArray (N (List Int) (Int → ByteArray) (N (List Int) (List Int → Int → ByteArray) bytS (hbyts (N ByteArray ByteArray newK s))) (hbyts (N ByteArray ByteArray newV s))) 40) = 40 := by
    cases hA; subst hN; intro s; simp only [apStd]
    exact bytS_size (by rw [byts_length]; exact newV_size s) (by decide) (by decide)
  have hne : fs .neq (N Int ByteArray (N (List Int) (Int → ByteArray) (N (List Int) (List Int → Int → ByteArray) bytS (hbyts (N ByteArray ByteArray newK { data := { toList := [120] } }))) (hbyts (N ByteArray ByteArray newV { data := { toList := [120] } }))) 40)
      (N Int ByteArray (N (List Int) (Int → ByteArray) (N (List Int) (List Int → Int → ByteArray) bytS (hbyts (N ByteArray ByteArray newK { data := { toList := [121] } }))) (hbyts (N ByteArray ByteArray newV { data := { toList := [121] } }))) 40) = true := by
    cases hA; subst hN
    simp only [apStd_app]
    exact a29_ne
  obtain ⟨K1, hK1⟩ : ∃ x, ap3 N bytK (hbyts (N ByteArray ByteArray newK { data := { toList := [120] } })) (hbyts (N ByteArray ByteArray newV { data := { toList := [120] } })) 40 = x := ⟨_, rfl⟩
  obtain ⟨V1, hV1⟩ : ∃ x, ap3 N bytV (hbyts (N ByteArray ByteArray newK { data := { toList := [120] } })) (hbyts (N ByteArray ByteArray newV { data := { toList := [120] } })) 40 = x := ⟨_, rfl⟩
  obtain ⟨K2, hK2⟩ : ∃ x, ap3 N bytK K1 V1 (-1) = x := ⟨_, rfl⟩
  obtain ⟨V2, hV2⟩ : ∃ x, ap3 N bytV K1 V1 (-1) = x := ⟨_, rfl⟩
  obtain ⟨A2, hA2⟩ : ∃ x, ap2 N bytA (ap2 N bytA 0 40) (-1) = x := ⟨_, rfl⟩
  obtain ⟨X, hX⟩ : ∃ x, ap3 N scX K2 V2 A2 = x := ⟨_, rfl⟩
  have h72' : ap3 N scA K2 V2 A2 = 72 := by
    rw [← hK2, ← hV2, ← hA2, ← hK1, ← hV1]
    cases hA; subst hN
    rw [apStd_app newK, apStd_app newV, ap3_std, ap3_std, ap3_std, ap3_std, ap3_std, ap2_std, ap2_std]
    exact a29_sc
  have hXr : 0 < X ∧ X < qN := by rw [← hX]; subst hN; simp only [ap3, apStd]; exact scX_range _ _ _
  have hX4 : ∀ p, (match fc .eql (N Int Int l0 X) 0 with | false => false | true => match fc .eql (N Int Int l1 X) 0 with | false => false | true => match fc .eql (N Int Int l2 X) 0 with | false => false | true => match fc .eql (N Int Int l3 X) 0 with | false => false | true => true) = p → p = false := by
    intro p e
    have e2 := and4_of e
    have e3 : decide (X = 0) = p := by
      cases hA; subst hN; simp only [apStd] at e2
      exact (zero4 ⟨by omega, by have := qN_le; omega⟩).symm.trans e2
    rw [← e3]
    exact decide_eq_false (by omega)
  have hKl : ∀ s, (hbyts (N ByteArray ByteArray newK s)).length = 32 := by
    cases hA; subst hN; intro s; simp only [apStd]
    rw [byts_length]; exact newK_size s
  have hVl : ∀ s, (hbyts (N ByteArray ByteArray newV s)).length = 32 := by
    cases hA; subst hN; intro s; simp only [apStd]
    rw [byts_length]; exact newV_size s
  have f32 : ∀ l : List Int, l.length = 32 → fq (hlen' l) 32 = true := by cases hA; intro l h; exact decide_eq_true h
  have lK1 : K1.length = 32 := by rw [← hK1]; have := hKl { data := { toList := [120] } }; subst hN; rw [ap3_std]; exact bytK_len this
  have lV1 : V1.length = 32 := by rw [← hV1]; have := hVl { data := { toList := [120] } }; subst hN; rw [ap3_std]; exact bytV_len this
  have lK2 : K2.length = 32 := by rw [← hK2]; subst hN; rw [ap3_std]; exact bytK_len lK1
  have lV2 : V2.length = 32 := by rw [← hV2]; subst hN; rw [ap3_std]; exact bytV_len lV1
  have hKl3 : fq (hlen' (ap3 N scK K2 V2 A2)) 32 = true := by
    refine f32 _ ?_
    subst hN; rw [ap3_std]; exact scK_len lK2 lV2
  have hVl3 : fq (hlen' (ap3 N scV K2 V2 A2)) 32 = true := by
    refine f32 _ ?_
    subst hN; rw [ap3_std]; exact scV_len lK2 lV2
  have m2 : fc .leq (fo 2) 9223372036854775807 = true := by cases hA; rfl
  have m40 : fc .leq (fo 40) 9223372036854775807 = true := by cases hA; rfl
  have mx : fl (fz { data := { toList := [120] } }) 17592186044416 = true := by cases hA; rfl
  have my : fl (fz { data := { toList := [121] } }) 17592186044416 = true := by cases hA; rfl
  have hKl0 := fun s => f32 _ (hKl s)
  have hVl0 := fun s => f32 _ (hVl s)
  have hKl1 := f32 _ lK1
  have hVl1 := f32 _ lV1
  have hKl2 := f32 _ lK2
  have hVl2 := f32 _ lV2
  simp only [ap2, ap3] at hK1 hV1 hK2 hV2 hA2 hX h72' hKl3 hVl3
  apply Shut.mk
  cbv
  repeat (simp only [hc0, hc1, h40, h72, h2, hs, hp, hb0, hb1, hz, hne, hK1, hV1, hK2, hV2, hA2, hX]; cbv)
  split <;> rename_i e
  · have e1 := hX4 _ (not_of e)
    simp only [e]
    cbv
    repeat (simp only [e, hc0, hc1, h40, h72, h2, hs, hp, hb0, hb1, hz, hne, hK1, hV1, hK2, hV2, hA2, hX, h72']; cbv)
    refine finH0 hK ?_ rfl rfl
    rw [Bool.and_eq_true]
    refine ⟨by cbv, ?_⟩
    simp (maxSteps := 10000000) only [hNF, hNR, hKl0, hVl0, hKl1, hVl1, hKl2, hVl2, hz, hp, m2, m40, mx, my, hKl3, hVl3]
  · have e1 := hX4 _ (not_of e)
    cases e1

theorem drbgD_ok : ∀ p ∈ drbgD std apStd, HCon Tryd.prog [0, 1] p.1 p.2 := by
  intro p hp
  simp only [drbgD, List.mem_cons, List.not_mem_nil, or_false] at hp
  rcases hp with rfl | rfl | rfl | rfl | rfl
  · exact hcon_dnew
  · exact hcon_bytes
  · exact hcon_scalar
  · exact hcon_ask
  · exact hcon_poly

theorem hcon_awake29 : HCon Tryd.prog [0, 1] 20 (trueH apStd) := by
  refine hcon_shut Tryd.func20 rfl (by kernel_rfl) (fun args h v ch nw hF m us w H hv => ?_)
  unfold trueH at hF
  split at hF
  · rename_i kf F bf kr R br
    simp only [HR.mk.injEq, Bool.and_eq_true] at hF
    obtain ⟨⟨h1, h2, h3, h4, h5, h6⟩, rfl, rfl, rfl⟩ := hF
    have h1 := kn_eq h1
    have h2 := kn_eq h2
    subst h1; subst h2
    have h5 : F = firstL := of_decide_eq_true h5
    have h6 : R = roundsL := of_decide_eq_true h6
    refine ⟨_, [], _, goodg (base := 2) (l := []) (d := drbgD std apStd) dy0 (by decide) (by simp) drbgD_ok,
      rfl, by kernel_rfl, hv, Nat.zero_le _, ?_, ?_, by simp,
      awake29_vc std apStd (ALoop 2) F R rfl rfl h5 h6 _ rfl⟩
    · exact ⟨⟨kOk_ro h3, rfl, rfl⟩, ⟨kOk_ro h4, rfl, rfl⟩, trivial⟩
    · rfl
  · simp at hF

end Go.Proofs.YtpnpfihjlobonaaDoor
