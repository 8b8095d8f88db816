/- The law ShamirJoins hands back true, whatever the input. It has no conditions. -/
import Derived.Test.YtnhobbdijdbbeaaSh12
import Derived.Test.YtnhobbdijdbbeaaLawS
namespace Go.Proofs.Ytnhobbdijdbbeaa
open Go.Eng Go.ChangeShapes Go.WideShapes Go.ChangeAt Go.RowKit
set_option maxRecDepth 1000000
set_option maxHeartbeats 4000000
set_option linter.unusedSimpArgs false
set_option linter.unusedVariables false

def shamirJoinsL (A : Ar) (N : Ap) : Pure := []
def shamirJoinsD (A : Ar) (N : Ap) : Heap := [(21, joinH A N), (22, joinH A N), (12, shTrueH)]

theorem shamirJoinsL_ok : ∀ p ∈ shamirJoinsL std apStd, Con Try.prog p.1 p.2 := by
  intro p hp
  cases hp
theorem shamirJoinsD_ok : ∀ p ∈ shamirJoinsD std apStd, HCon Try.prog [] p.1 p.2 := by
  intro p hp
  simp only [shamirJoinsD, List.mem_cons, List.not_mem_nil, or_false] at hp
  rcases hp with rfl | rfl | rfl
  · exact hcon_join
  · exact hcon_rjoin
  · exact hcon_shAwake

def shamirJoinsPl : List (Nat × PT) := []

theorem shamirJoins_vc (A : Ar) (N : Ap) (L : LP) (a : List (List Sc)) (an : Nat) (hL : L = ALoop 1) (hA : A = std) (hN : N = apStd) (ha : ∀ c ∈ a, rowOk [.int .i64, .int .u64, .int .u64, .int .u64, .int .u64] c) (hal : a.length ≤ maxLen) (han : a.length = an) (K : Bool → SV → List Blk → Prop) (hK : K = FinH 1 (.bool true) [] [] (uniR 1 (.bool true) [] [])) :
    Hides (afun (cxhp A L noJ (shamirJoinsL A N) (shamirJoinsD A N) [] [12] dy0 (pll shamirJoinsPl)) Try.f5 [.row 0 an] [⟨.recs [.int .i64, .int .u64, .int .u64, .int .u64, .int .u64] a, .ro⟩] K) := by
  have he : ∀ x, A.icmp .eql x x = true := fun x => by subst hA; simp [std, icmp]
  have hs : ∀ x, A.scmp .eql x x = true := fun x => by subst hA; simp [std, scmp]
  obtain ⟨fi, fc, fw, fb, fn, fo, fs, fa, fe, fz, fy, ff, fl, fq, gadd, gsub, gmul, gmin, hlen', hget, hset, happ, hisub, irep, iput', rlen, rint', rbool', rstr', rset, rapp, rsub, rrep, hmkb, hbyts, imn, imx⟩ := A
  simp only at he hs
  have hm : fc .leq (fo an) 9223372036854775807 = true := by
    cases hA
    have h : a.length ≤ 9223372036854775807 := hal
    exact decide_eq_true (by show (an : Int) ≤ _; omega)
  apply Hides.mk
  cbv
  cases h1 : fc .gtr (fo an) 12 <;> cbv
  · skip
    have h12 : an ≤ 12 := by
      have : ¬ ((an : Int) > 12) := by cases hA; exact of_decide_eq_false h1
      omega
    have hl : fl an 1000000 = true := by cases hA; exact decide_eq_true (by omega)
    have ha1 : fq (rlen a) an = true := by cases hA; exact decide_eq_true han
    obtain ⟨V, hV⟩ : ∃ y, ap1 N joK a = y := ⟨_, rfl⟩
    obtain ⟨E, hE⟩ : ∃ y, ap1 N joE a = y := ⟨_, rfl⟩
    simp only [ap1, ap2] at hV hE
    repeat (simp only [hV, hE, he]; cbv)
    refine finH0 hK ?_ rfl rfl
    rw [Bool.and_eq_true]
    refine ⟨by cbv, ?_⟩
    simp (maxSteps := 10000000) only [hm, ha1, hl, hV, hE]
  · refine finH0 hK ?_ rfl rfl
    rw [Bool.and_eq_true]
    refine ⟨by cbv, ?_⟩
    simp (maxSteps := 10000000) only [hm]


theorem shamirJoins_step (ss : List SV) (bs : List Blk) (h0 : PS.fits 0 [.rows [.int .i64, .int .u64, .int .u64, .int .u64, .int .u64]] ss bs) : ∃ C, Eng.Good Try.prog C (0 + bs.length) ∧ C.gl = [] ∧ codeOk C Try.f5.ntmps (Try.f5.body.getD .skip) = true ∧ ss.length ≤ Try.f5.ntmps ∧
    Hides (afun C Try.f5 ss ([] ++ bs) (FinH (0 + bs.length) (.bool true) [] [] (uniR (0 + bs.length) (.bool true) [] []))) := by
  obtain ⟨a, ss0, bs0, rfl, rfl, wa, la, h1⟩ := fits_rows h0
  obtain ⟨rfl, rfl⟩ := fits_nil h1
  exact ⟨_, ⟨good0p rfl shamirJoinsL_ok shamirJoinsD_ok, rfl, .inr rfl, Nat.zero_le _⟩, rfl, by kernel_rfl, Nat.le_of_ble_eq_true rfl, shamirJoins_vc std apStd (ALoop 1) a _ rfl rfl rfl wa la rfl _ rfl⟩

theorem shamirJoins_lifted (os : Os) (started : os.Started) (H : Type) (enc : TypeId × Value → H) :
    ReturnsInHanded {} Try.checked os 5 .any (Rows.shamirJoinsSpec.pre6 enc Try.prog Try.f5 Rows.shamirJoinsRow.domain false) (Rows.shamirJoinsSpec.post enc Try.prog Try.f5 false true false false) :=
  lifted_of Rows.shamirJoinsSpec Rows.shamirJoinsRow Try.func5 (tb := 4) (by kernel_rfl) Try.underlying4 rfl
    (by
      intro H ds h
      match ds, h with
      | [d], _ => rfl) (by kernel_rfl) os started H enc (by kernel_rfl)
    (ChangeSpec.witness6 (enc := enc) (C := Try.checked) false ⟨#[], #[.slice none 0 0], []⟩ 8 (by kernel_rfl) (by kernel_rfl) (by kernel_rfl) (by kernel_rfl))
    (fun W base args ds ps hval hA => walk_genS Try.func5 (c := Try.f5.body.getD .skip) (by kernel_rfl) [.rows [.int .i64, .int .u64, .int .u64, .int .u64, .int .u64]] (ts := [29]) (by kernel_rfl) (by kernel_rfl) (m0 := ([] : List Pl)) (h0 := ([] : List Blk)) (gl := [])
      shamirJoins_step (fun b hb => by cases hb) (fun i g hg => by simp at hg) W base args ds ps hval hA ⟨rfl, by simp, by simp⟩)

theorem shamirJoins_row : Rows.ShamirJoinsSaid :=
  OpenClaim.holds_of_wide 5 Try.f5 rfl rfl rfl rfl rfl rfl rfl ⟨rfl, rfl, rfl, rfl, rfl⟩ rfl rfl rfl rfl rfl (by kernel_rfl) Try.func5 (by kernel_rfl)
    (of_decide_eq_true (by kernel_rfl)) (by unfold Func.isWrapper; first | (rw [if_pos (by decide +kernel)]; kernel_rfl) | (rw [if_neg (by decide +kernel)]; exact ⟨rfl, rfl⟩))
    (fun os started H enc _ => shamirJoins_lifted os started H enc)

theorem ShamirJoins_proved : Rows.ShamirJoinsSaid := shamirJoins_row

end Go.Proofs.Ytnhobbdijdbbeaa
