/- The examples of the chapter on sums by a key. It has no conditions. -/
import Derived.Test.YtpnpfihjlobonaaDoorHm3
namespace Go.Proofs.YtpnpfihjlobonaaDoor
open Go.Eng Go.RowKit
set_option maxRecDepth 1000000
set_option maxHeartbeats 4000000
set_option linter.unusedSimpArgs false
set_option linter.unusedVariables false

theorem awake8_vc (A : Ar) (N : Ap) (L : LP) (F R : List Int) (hA : A = std) (hN : N = apStd) (hF : F = firstL) (hR : R = roundsL) (K : Bool → SV → List Blk → Prop) (hK : K = FinH 2 (.bool true) [] [] (uniR 2 (.bool true) [] [])) :
    Shut (afun (cxg A L [] [(13, macH A N), (15, macH A N), (17, expandH A N)]) Tryd.f12 [] [⟨.ints .u32 F, .ro⟩, ⟨.ints .u32 R, .ro⟩] K) := by
  obtain ⟨fi, fc, fw, fb, fn, fo, fs, fa, fe, fz, fy, ff, fl, fq, gadd, gsub, gmul, gmin, hlen'⟩ := A
  have hNF : N (List Int) Bool isFirst F = true := by subst hN; exact decide_eq_true hF
  have hNR : N (List Int) Bool isRounds R = true := by subst hN; exact decide_eq_true hR
  have hz : ∀ x y, fz (N ByteArray ByteArray (N ByteArray (ByteArray → ByteArray) macN x) y) = 32 := by cases hA; subst hN; intro x y; simp only [apStd]; exact macN_size x y
  have h32 : fc .eql (fo 32) 32 = true := by cases hA; rfl
  have h40 : fc .eql (fo 40) 40 = true := by cases hA; rfl
  have b0 : N Int Int expE 40 = 0 := by subst hN; simp only [apStd]; decide +kernel
  have b1 : N Int Int expE 8161 = 1 := by subst hN; simp only [apStd]; decide +kernel
  have c0 : fc .eql 0 0 = true := by cases hA; rfl
  have c1 : fc .eql 1 1 = true := by cases hA; rfl
  have x40 : fz (N Int ByteArray (N ByteArray (Int → ByteArray) (N ByteArray (ByteArray → Int → ByteArray) expN { data := { toList := [107] } }) { data := { toList := [] } }) 40) = 40 := by
    cases hA; subst hN; simp only [apStd]
    exact expN_len (by decide) (by decide)
  have s1 : fs .eql (fe (N ByteArray ByteArray (N ByteArray (ByteArray → ByteArray) macN { data := { toList := [74, 101, 102, 101] } }) { data := { toList := [119, 104, 97, 116, 32, 100, 111, 32, 121, 97, 32, 119, 97, 110, 116, 32, 102, 111, 114, 32, 110, 111, 116, 104, 105, 110, 103, 63] } }) 0 4) { data := { toList := [91, 220, 193, 70] } } = true := by
    cases hA; subst hN
    simp only [apStd]
    show scmp .eql ((macN { data := { toList := [74, 101, 102, 101] } } { data := { toList := [119, 104, 97, 116, 32, 100, 111, 32, 121, 97, 32, 119, 97, 110, 116, 32, 102, 111, 114, 32, 110, 111, 116, 104, 105, 110, 103, 63] } }).extract 0 4) { data := { toList := [91, 220, 193, 70] } } = true
    decide +kernel
  have s2 : fs .eql (N ByteArray ByteArray (N ByteArray (ByteArray → ByteArray) macN { data := { toList := [] } }) { data := { toList := [120] } }) (N ByteArray ByteArray (N ByteArray (ByteArray → ByteArray) macN { data := { toList := [0] } }) { data := { toList := [120] } }) = true := by
    cases hA; subst hN
    simp only [apStd]
    show scmp .eql (macN { data := { toList := [] } } { data := { toList := [120] } }) (macN { data := { toList := [0] } } { data := { toList := [120] } }) = true
    decide +kernel
  apply Shut.mk
  cbv
  repeat (simp only [hz, h32, h40, b0, b1, c0, c1, x40, s1, s2]; cbv)
  refine finH0 hK ?_ rfl rfl
  rw [Bool.and_eq_true]
  refine ⟨by cbv, ?_⟩
  have hle : fl = fun a b => decide (a ≤ b) := by cases hA; rfl
  have sz : ∀ l : List UInt8, fz { data := { toList := l } } = l.length := by cases hA; intro l; rfl
  have m32 : fc .leq (fo 32) 9223372036854775807 = true := by cases hA; rfl
  have m40 : fc .leq (fo 40) 9223372036854775807 = true := by cases hA; rfl
  simp (maxSteps := 10000000) only [hz, x40, hNF, hNR, sz, m32, m40]
  simp only [hle]
  rfl

theorem hcon_awake8 : HCon Tryd.prog [0, 1] 12 (trueH apStd) := by
  refine hcon_shut Tryd.func12 rfl (by kernel_rfl) (fun args h v ch nw hF m us w H hv => ?_)
  unfold trueH at hF
  split at hF
  · rename_i kf F bf kr R br
    simp only [HR.mk.injEq, Bool.and_eq_true] at hF
    obtain ⟨⟨h1, h2, h3, h4, h5, h6⟩, rfl, rfl, rfl⟩ := hF
    have h1 := kn_eq h1
    have h2 := kn_eq h2
    subst h1; subst h2
    have h5 : F = firstL := of_decide_eq_true h5
    have h6 : R = roundsL := of_decide_eq_true h6
    refine ⟨_, [], _, goodg (base := 2) (l := []) (d := [(13, macH std apStd), (15, macH std apStd), (17, expandH std apStd)]) dy0 (by decide) (by simp)
        (by intro p hp; simp at hp; rcases hp with rfl | rfl | rfl; exact hcon_mac; exact hcon_ext; exact hcon_expand),
      rfl, by kernel_rfl, hv, Nat.zero_le _, ?_, ?_, by simp,
      awake8_vc std apStd (ALoop 2) F R rfl rfl h5 h6 _ rfl⟩
    · exact ⟨⟨kOk_ro h3, rfl, rfl⟩, ⟨kOk_ro h4, rfl, rfl⟩, trivial⟩
    · rfl
  · simp at hF

end Go.Proofs.YtpnpfihjlobonaaDoor
