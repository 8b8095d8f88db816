/- The law LimbsBytes of the limbs package hands back true, whatever the input. It has no conditions. -/
import Derived.Test.YtnncnbplnapodaaRRRLimbs5
import Derived.Test.YtnncnbplnapodaaRRRLaw2
namespace Go.Proofs.YtnncnbplnapodaaRRR
open Go.Eng Go.ChangeShapes Go.WideShapes Go.ChangeAt Go.RowKit
set_option maxRecDepth 1000000
set_option maxHeartbeats 4000000
set_option linter.unusedSimpArgs false
set_option linter.unusedVariables false

def bytesL (A : Ar) (N : Ap) : Pure := [(27, fromF A N), (28, fromF A N), (29, bytesF N), (30, bytesF N), (31, bitF N), (32, bitF N), (23, trueF), (24, trueF)]

theorem bytesL_ok : ∀ p ∈ bytesL std apStd, Con Try.prog p.1 p.2 := by
  intro p hp
  simp only [bytesL, List.mem_cons, List.not_mem_nil, or_false] at hp
  rcases hp with rfl | rfl | rfl | rfl | rfl | rfl | rfl | rfl
  · exact con_limbsFrom
  · exact con_refFrom
  · exact con_limbsBytes
  · exact con_refBytes
  · exact con_limbsBit
  · exact con_refBit
  · exact con_long
  · exact con_awake

theorem bytes_vc (A : Ar) (N : Ap) (L : LP) (a0 a1 a2 a3 i : Int) (s : ByteArray) (hA : A = std) (hN : N = apStd) (hl : A.icmp .leq (A.ofNat (A.size s)) 9223372036854775807 = true) (K : Bool → SV → List Blk → Prop) (hK : K = FinP (.bool true)) :
    Hides (afun (cx A L (bytesL A N)) Try.f5 [wordsV a0 a1 a2 a3, .str s, .int .i64 i] [] K) := by
  apply Hides.mk
  have he : ∀ x, A.icmp .eql x x = true := fun x => by subst hA; simp [std, icmp]
  have hs : ∀ x, A.scmp .eql x x = true := fun x => by subst hA; simp [std, scmp]
  have hw : A.wrap .i64 (ap1 N fromE s) = ap1 N fromE s := by subst hA; subst hN; simp only [std, ap1, apStd, fromE]; split <;> rfl
  simp only [ap1] at hw
  clear hA hN
  obtain ⟨fi, fc, fw, fb, fn, fo, fs, fa, fe, fz⟩ := A
  simp only at he hs hw hl
  cbv
  repeat (simp only [he, hs, hw, hl, beq_self_eq_true]; cbv)
  refine fin_of hK ?_ ?_ ?_ <;> cbv

theorem bytes_step (ss : List SV) (h : PK.fits [.num, .str, .i64] ss) : ∃ C, Eng.Good Try.prog C 0 ∧ C.gl = [] ∧ codeOk C Try.f5.ntmps (Try.f5.body.getD .skip) = true ∧ ss.length ≤ Try.f5.ntmps ∧
    Hides (afun C Try.f5 ss [] (FinP (.bool true))) := by
  obtain ⟨_, _, _, _, _, _, rfl, ⟨a0, a1, a2, a3, rfl, _, _⟩, ⟨s, rfl, _, hs⟩, ⟨i, rfl, _, _⟩⟩ := PK.fits3 h
  have hl : std.icmp .leq (std.ofNat (std.size s)) 9223372036854775807 = true := by
    have : (s.size : Int) ≤ 9223372036854775807 := by have : s.size ≤ 9223372036854775807 := hs; omega
    simp [std, icmp, this]
  exact ⟨_, good bytesL_ok, rfl, by kernel_rfl, Nat.le_of_ble_eq_true rfl, bytes_vc std apStd (ALoop 0) a0 a1 a2 a3 i s rfl rfl hl (FinP (.bool true)) rfl⟩

theorem bytes_lifted (os : Os) (started : os.Started) (H : Type) (enc : TypeId × Value → H) :
    ReturnsInHanded {} Try.checked os 5 .any (Rows.limbsBytesSpec.pre6 enc Try.prog Try.f5 Rows.limbsBytesRow.domain false) (Rows.limbsBytesSpec.post enc Try.prog Try.f5 false true false false) :=
  lifted_of Rows.limbsBytesSpec Rows.limbsBytesRow Try.func5 (tb := 4) (by kernel_rfl) Try.underlying4 rfl
    (by
      intro H ds h
      match ds, h with
      | [d1, d2, d3], _ => rfl) (by kernel_rfl) os started H enc (by kernel_rfl)
    (ChangeSpec.witness6 (enc := enc) (C := Try.checked) false ⟨#[], #[.agg #[.int .u64 0, .int .u64 0, .int .u64 0, .int .u64 0], .string ByteArray.empty, .int .i64 0], []⟩ 8 (by kernel_rfl) (by kernel_rfl) (by kernel_rfl) (by kernel_rfl))
    (fun W base args ds ps hval hA => walk_gen Try.func5 (c := Try.f5.body.getD .skip) (by kernel_rfl) [.num, .str, .i64] (ts := [24, 9, 3]) (by kernel_rfl)
      ⟨⟨_, Try.underlying24, by kernel_rfl, by kernel_rfl, by kernel_rfl⟩, Try.underlying9, Try.underlying3, trivial⟩ bytes_step W base args ds ps hval hA)

theorem LimbsBytes_proved : Rows.LimbsBytesSaid :=
  OpenClaim.holds_of_wide 5 Try.f5 rfl rfl rfl rfl rfl rfl rfl ⟨rfl, rfl, rfl, rfl, rfl⟩ rfl rfl rfl rfl rfl (by kernel_rfl) Try.func5 (by kernel_rfl)
    (of_decide_eq_true (by kernel_rfl)) (by unfold Func.isWrapper; first | (rw [if_pos (by decide +kernel)]; kernel_rfl) | (rw [if_neg (by decide +kernel)]; exact ⟨rfl, rfl⟩))
    (fun os started H enc _ => bytes_lifted os started H enc)

end Go.Proofs.YtnncnbplnapodaaRRR
