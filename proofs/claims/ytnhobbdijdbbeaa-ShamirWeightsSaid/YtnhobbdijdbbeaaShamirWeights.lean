/- The law ShamirWeights hands back true, whatever the input. It has no conditions. -/
import Derived.Test.YtnhobbdijdbbeaaSh12
import Derived.Test.YtnhobbdijdbbeaaLawS
namespace Go.Proofs.Ytnhobbdijdbbeaa
open Go.Eng Go.ChangeShapes Go.WideShapes Go.ChangeAt Go.RowKit
set_option maxRecDepth 1000000
set_option maxHeartbeats 4000000
set_option linter.unusedSimpArgs false
set_option linter.unusedVariables false

def shamirWeightsL (A : Ar) (N : Ap) : Pure := []
def shamirWeightsD (A : Ar) (N : Ap) : Heap := [(18, weightsH A N), (19, weightsH A N), (20, sameH k4 A N), (12, shTrueH)]

theorem shamirWeightsL_ok : ∀ p ∈ shamirWeightsL std apStd, Con Try.prog p.1 p.2 := by
  intro p hp
  cases hp
theorem shamirWeightsD_ok : ∀ p ∈ shamirWeightsD std apStd, HCon Try.prog [] p.1 p.2 := by
  intro p hp
  simp only [shamirWeightsD, List.mem_cons, List.not_mem_nil, or_false] at hp
  rcases hp with rfl | rfl | rfl | rfl
  · exact hcon_weights
  · exact hcon_rweights
  · exact hcon_nums
  · exact hcon_shAwake

def shamirWeightsPl : List (Nat × PT) := []

theorem shamirWeights_vc (A : Ar) (N : Ap) (L : LP) (a : List Int) (an : Nat) (hL : L = ALoop 1) (hA : A = std) (hN : N = apStd) (ha : ∀ x ∈ a, IntKind.i64.wrap x = x) (hal : a.length ≤ maxLen) (han : a.length = an) (K : Bool → SV → List Blk → Prop) (hK : K = FinH 1 (.bool true) [] [] (uniR 1 (.bool true) [] [])) :
    Hides (afun (cxhp A L noJ (shamirWeightsL A N) (shamirWeightsD A N) [] [12, 20] dy0 (pll shamirWeightsPl)) Try.f4 [.row 0 an] [⟨.ints .i64 a, .ro⟩] K) := by
  have he : ∀ x, A.icmp .eql x x = true := fun x => by subst hA; simp [std, icmp]
  have hs : ∀ x, A.scmp .eql x x = true := fun x => by subst hA; simp [std, scmp]
  obtain ⟨fi, fc, fw, fb, fn, fo, fs, fa, fe, fz, fy, ff, fl, fq, gadd, gsub, gmul, gmin, hlen', hget, hset, happ, hisub, irep, iput', rlen, rint', rbool', rstr', rset, rapp, rsub, rrep, hmkb, hbyts, imn, imx⟩ := A
  simp only at he hs
  have hm : fc .leq (fo an) 9223372036854775807 = true := by
    cases hA
    have h : a.length ≤ 9223372036854775807 := hal
    exact decide_eq_true (by show (an : Int) ≤ _; omega)
  apply Hides.mk
  cbv
  cases h1 : fc .gtr (fo an) 12 <;> cbv
  · skip
    have h12 : an ≤ 12 := by
      have : ¬ ((an : Int) > 12) := by cases hA; exact of_decide_eq_false h1
      omega
    have hl : fl an 1000000 = true := by cases hA; exact decide_eq_true (by omega)
    have ha1 : fq (hlen' a) an = true := by cases hA; exact decide_eq_true han
    obtain ⟨V, hV⟩ : ∃ y, ap1 N wtL a = y := ⟨_, rfl⟩
    obtain ⟨c, hc⟩ : ∃ y, ap1 N wtC a = y := ⟨_, rfl⟩
    obtain ⟨E, hE⟩ : ∃ y, ap1 N wtE a = y := ⟨_, rfl⟩
    have eV : V.length = c := by rw [← hV, ← hc]; subst hN; rw [ap1_std, ap1_std]; rfl
    have cl : c ≤ an := by rw [← hc]; subst hN; rw [ap1_std]; unfold wtC wtL; split <;> simp [han]
    have gV : fq (rlen V) c = true := by cases hA; exact decide_eq_true eV
    have gc : fl c 1000000 = true := by cases hA; exact decide_eq_true (by omega)
    have hrr : ap2 N rowsEq V V = true := by subst hN; rw [ap2_std]; exact rowsEq_refl V
    simp only [ap1, ap2] at hV hc hE hrr
    repeat (simp only [hV, hc, hE, he]; cbv)
    refine finH0 hK ?_ rfl rfl
    rw [Bool.and_eq_true]
    refine ⟨by cbv, ?_⟩
    simp (maxSteps := 10000000) only [hm, ha1, hl, hV, hc, hE, gV, gc, hrr]
  · refine finH0 hK ?_ rfl rfl
    rw [Bool.and_eq_true]
    refine ⟨by cbv, ?_⟩
    simp (maxSteps := 10000000) only [hm]


theorem shamirWeights_step (ss : List SV) (bs : List Blk) (h0 : PS.fits 0 [.ints .i64] ss bs) : ∃ C, Eng.Good Try.prog C (0 + bs.length) ∧ C.gl = [] ∧ codeOk C Try.f4.ntmps (Try.f4.body.getD .skip) = true ∧ ss.length ≤ Try.f4.ntmps ∧
    Hides (afun C Try.f4 ss ([] ++ bs) (FinH (0 + bs.length) (.bool true) [] [] (uniR (0 + bs.length) (.bool true) [] []))) := by
  obtain ⟨a, ss0, bs0, rfl, rfl, wa, la, h1⟩ := fits_ints h0
  obtain ⟨rfl, rfl⟩ := fits_nil h1
  exact ⟨_, ⟨good0p rfl shamirWeightsL_ok shamirWeightsD_ok, rfl, .inr rfl, Nat.zero_le _⟩, rfl, by kernel_rfl, Nat.le_of_ble_eq_true rfl, shamirWeights_vc std apStd (ALoop 1) a _ rfl rfl rfl wa la rfl _ rfl⟩

theorem shamirWeights_lifted (os : Os) (started : os.Started) (H : Type) (enc : TypeId × Value → H) :
    ReturnsInHanded {} Try.checked os 4 .any (Rows.shamirWeightsSpec.pre6 enc Try.prog Try.f4 Rows.shamirWeightsRow.domain false) (Rows.shamirWeightsSpec.post enc Try.prog Try.f4 false true false false) :=
  lifted_of Rows.shamirWeightsSpec Rows.shamirWeightsRow Try.func4 (tb := 4) (by kernel_rfl) Try.underlying4 rfl
    (by
      intro H ds h
      match ds, h with
      | [d], _ => rfl) (by kernel_rfl) os started H enc (by kernel_rfl)
    (ChangeSpec.witness6 (enc := enc) (C := Try.checked) false ⟨#[], #[.slice none 0 0], []⟩ 8 (by kernel_rfl) (by kernel_rfl) (by kernel_rfl) (by kernel_rfl))
    (fun W base args ds ps hval hA => walk_genS Try.func4 (c := Try.f4.body.getD .skip) (by kernel_rfl) [.ints .i64] (ts := [32]) (by kernel_rfl) (by kernel_rfl) (m0 := ([] : List Pl)) (h0 := ([] : List Blk)) (gl := [])
      shamirWeights_step (fun b hb => by cases hb) (fun i g hg => by simp at hg) W base args ds ps hval hA ⟨rfl, by simp, by simp⟩)

theorem shamirWeights_row : Rows.ShamirWeightsSaid :=
  OpenClaim.holds_of_wide 4 Try.f4 rfl rfl rfl rfl rfl rfl rfl ⟨rfl, rfl, rfl, rfl, rfl⟩ rfl rfl rfl rfl rfl (by kernel_rfl) Try.func4 (by kernel_rfl)
    (of_decide_eq_true (by kernel_rfl)) (by unfold Func.isWrapper; first | (rw [if_pos (by decide +kernel)]; kernel_rfl) | (rw [if_neg (by decide +kernel)]; exact ⟨rfl, rfl⟩))
    (fun os started H enc _ => shamirWeights_lifted os started H enc)

theorem ShamirWeights_proved : Rows.ShamirWeightsSaid := shamirWeights_row

end Go.Proofs.Ytnhobbdijdbbeaa
