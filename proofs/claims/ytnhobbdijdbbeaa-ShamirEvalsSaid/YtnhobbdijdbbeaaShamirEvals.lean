/- The law ShamirEvals hands back true, whatever the input. It has no conditions. -/
import Derived.Test.YtnhobbdijdbbeaaSh12
import Derived.Test.YtnhobbdijdbbeaaLawS
namespace Go.Proofs.Ytnhobbdijdbbeaa
open Go.Eng Go.ChangeShapes Go.WideShapes Go.ChangeAt Go.RowKit
set_option maxRecDepth 1000000
set_option maxHeartbeats 4000000
set_option linter.unusedSimpArgs false
set_option linter.unusedVariables false

def shamirEvalsL (A : Ar) (N : Ap) : Pure := []
def shamirEvalsD (A : Ar) (N : Ap) : Heap := [(13, evalH A N), (14, evalH A N), (16, sharesH A N), (17, sharesH A N), (15, sameH kS A N), (12, shTrueH)]

theorem shamirEvalsL_ok : ∀ p ∈ shamirEvalsL std apStd, Con Try.prog p.1 p.2 := by
  intro p hp
  cases hp
theorem shamirEvalsD_ok : ∀ p ∈ shamirEvalsD std apStd, HCon Try.prog [] p.1 p.2 := by
  intro p hp
  simp only [shamirEvalsD, List.mem_cons, List.not_mem_nil, or_false] at hp
  rcases hp with rfl | rfl | rfl | rfl | rfl | rfl
  · exact hcon_hev
  · exact hcon_rev
  · exact hcon_hshares
  · exact hcon_rshares
  · exact hcon_same
  · exact hcon_shAwake

theorem rowsW_ok {a : List (List Sc)} (h : ∀ c ∈ a, rowOk k4 c) : rowsW a = true := by
  refine decide_eq_true (fun r hr => ?_)
  obtain ⟨x0, r0, rfl, w0, z0⟩ := rowOk_int (h r hr)
  obtain ⟨x1, r1, rfl, w1, z1⟩ := rowOk_int z0
  obtain ⟨x2, r2, rfl, w2, z2⟩ := rowOk_int z1
  obtain ⟨x3, r3, rfl, w3, z3⟩ := rowOk_int z2
  exact ⟨u64_W w0, u64_W w1, u64_W w2, u64_W w3⟩

def shamirEvalsPl : List (Nat × PT) := []

theorem shamirEvals_vc (A : Ar) (N : Ap) (L : LP) (a : List (List Sc)) (an : Nat) (b : Int) (c : Int) (hL : L = ALoop 1) (hA : A = std) (hN : N = apStd) (ha : ∀ c ∈ a, rowOk [.int .u64, .int .u64, .int .u64, .int .u64] c) (hal : a.length ≤ maxLen) (han : a.length = an) (hb : IntKind.i64.wrap b = b) (hc : IntKind.i64.wrap c = c) (K : Bool → SV → List Blk → Prop) (hK : K = FinH 1 (.bool true) [] [] (uniR 1 (.bool true) [] [])) :
    Hides (afun (cxhp A L noJ (shamirEvalsL A N) (shamirEvalsD A N) [] [12, 13, 14, 15] dy0 (pll shamirEvalsPl)) Try.f3 [.row 0 an, .int .i64 b, .int .i64 c] [⟨.recs [.int .u64, .int .u64, .int .u64, .int .u64] a, .ro⟩] K) := by
  have he : ∀ x, A.icmp .eql x x = true := fun x => by subst hA; simp [std, icmp]
  have hs : ∀ x, A.scmp .eql x x = true := fun x => by subst hA; simp [std, scmp]
  obtain ⟨fi, fc, fw, fb, fn, fo, fs, fa, fe, fz, fy, ff, fl, fq, gadd, gsub, gmul, gmin, hlen', hget, hset, happ, hisub, irep, iput', rlen, rint', rbool', rstr', rset, rapp, rsub, rrep, hmkb, hbyts, imn, imx⟩ := A
  simp only at he hs
  have hm : fc .leq (fo an) 9223372036854775807 = true := by
    cases hA
    have h : a.length ≤ 9223372036854775807 := hal
    exact decide_eq_true (by show (an : Int) ≤ _; omega)
  apply Hides.mk
  cbv
  cases h1 : fc .gtr (fo an) 20 <;> cbv
  · skip
    have h12 : an ≤ 20 := by
      have : ¬ ((an : Int) > 20) := by cases hA; exact of_decide_eq_false h1
      omega
    have hl : fl an 1000000 = true := by cases hA; exact decide_eq_true (by omega)
    have ha1 : fq (rlen a) an = true := by cases hA; exact decide_eq_true han
    have gw : ap1 N rowsW a = true := by subst hN; rw [ap1_std]; exact rowsW_ok ha
    obtain ⟨V, hV⟩ : ∃ y, ap2 N evL a b = y := ⟨_, rfl⟩
    obtain ⟨R, hR⟩ : ∃ y, ap2 N shR a c = y := ⟨_, rfl⟩
    obtain ⟨k, hk⟩ : ∃ y, ap1 N shC c = y := ⟨_, rfl⟩
    have eR : R.length = k := by rw [← hR, ← hk]; subst hN; rw [ap1_std, ap2_std]; exact shL_len _ _
    have gR : fq (rlen R) k = true := by cases hA; exact decide_eq_true eR
    have hk7 : fl k 1000000 = true := by
      have h : k ≤ 7 := by rw [← hk]; subst hN; rw [ap1_std]; unfold shC; omega
      cases hA; exact decide_eq_true (by omega)
    have hrr : ap2 N rowsEq R R = true := by subst hN; rw [ap2_std]; exact rowsEq_refl R
    simp only [ap1, ap2] at hV hR hk gw hrr
    repeat (simp only [hV, hR, hk, he]; cbv)
    refine finH0 hK ?_ rfl rfl
    rw [Bool.and_eq_true]
    refine ⟨by cbv, ?_⟩
    simp (maxSteps := 10000000) only [hm, ha1, hl, gw, hV, hR, hk, gR, hk7, hrr]
  · refine finH0 hK ?_ rfl rfl
    rw [Bool.and_eq_true]
    refine ⟨by cbv, ?_⟩
    simp (maxSteps := 10000000) only [hm]


theorem shamirEvals_step (ss : List SV) (bs : List Blk) (h0 : PS.fits 0 [.rows [.int .u64, .int .u64, .int .u64, .int .u64], .one [.int .i64] false, .one [.int .i64] false] ss bs) : ∃ C, Eng.Good Try.prog C (0 + bs.length) ∧ C.gl = [] ∧ codeOk C Try.f3.ntmps (Try.f3.body.getD .skip) = true ∧ ss.length ≤ Try.f3.ntmps ∧
    Hides (afun C Try.f3 ss ([] ++ bs) (FinH (0 + bs.length) (.bool true) [] [] (uniR (0 + bs.length) (.bool true) [] []))) := by
  obtain ⟨a, ss0, bs0, rfl, rfl, wa, la, h1⟩ := fits_rows h0
  obtain ⟨c1, ss1, rfl, hc1, h2⟩ := fits_one h1
  obtain ⟨b, r1, rfl, wb, z1⟩ := rowOk_int hc1; obtain rfl := rowOk_nil z1
  obtain ⟨c2, ss2, rfl, hc2, h3⟩ := fits_one h2
  obtain ⟨c, r2, rfl, wc, z2⟩ := rowOk_int hc2; obtain rfl := rowOk_nil z2
  obtain ⟨rfl, rfl⟩ := fits_nil h3
  exact ⟨_, ⟨good0p rfl shamirEvalsL_ok shamirEvalsD_ok, rfl, .inr rfl, Nat.zero_le _⟩, rfl, by kernel_rfl, Nat.le_of_ble_eq_true rfl, shamirEvals_vc std apStd (ALoop 1) a _ b c rfl rfl rfl wa la rfl wb wc _ rfl⟩

theorem shamirEvals_lifted (os : Os) (started : os.Started) (H : Type) (enc : TypeId × Value → H) :
    ReturnsInHanded {} Try.checked os 3 .any (Rows.shamirEvalsSpec.pre6 enc Try.prog Try.f3 Rows.shamirEvalsRow.domain false) (Rows.shamirEvalsSpec.post enc Try.prog Try.f3 false true false false) :=
  lifted_of Rows.shamirEvalsSpec Rows.shamirEvalsRow Try.func3 (tb := 4) (by kernel_rfl) Try.underlying4 rfl
    (by
      intro H ds h
      match ds, h with
      | [d1, d2, d3], _ => rfl) (by kernel_rfl) os started H enc (by kernel_rfl)
    (ChangeSpec.witness6 (enc := enc) (C := Try.checked) false ⟨#[], #[.slice none 0 0, .int .i64 0, .int .i64 0], []⟩ 8 (by kernel_rfl) (by kernel_rfl) (by kernel_rfl) (by kernel_rfl))
    (fun W base args ds ps hval hA => walk_genS Try.func3 (c := Try.f3.body.getD .skip) (by kernel_rfl) [.rows [.int .u64, .int .u64, .int .u64, .int .u64], .one [.int .i64] false, .one [.int .i64] false] (ts := [22, 3, 3]) (by kernel_rfl) (by kernel_rfl) (m0 := ([] : List Pl)) (h0 := ([] : List Blk)) (gl := [])
      shamirEvals_step (fun b hb => by cases hb) (fun i g hg => by simp at hg) W base args ds ps hval hA ⟨rfl, by simp, by simp⟩)

theorem shamirEvals_row : Rows.ShamirEvalsSaid :=
  OpenClaim.holds_of_wide 3 Try.f3 rfl rfl rfl rfl rfl rfl rfl ⟨rfl, rfl, rfl, rfl, rfl⟩ rfl rfl rfl rfl rfl (by kernel_rfl) Try.func3 (by kernel_rfl)
    (of_decide_eq_true (by kernel_rfl)) (by unfold Func.isWrapper; first | (rw [if_pos (by decide +kernel)]; kernel_rfl) | (rw [if_neg (by decide +kernel)]; exact ⟨rfl, rfl⟩))
    (fun os started H enc _ => shamirEvals_lifted os started H enc)

theorem ShamirEvals_proved : Rows.ShamirEvalsSaid := shamirEvals_row

end Go.Proofs.Ytnhobbdijdbbeaa
