/- The law ScalarWides hands back true, whatever the input. It has no conditions. -/
import Derived.Test.YtnncnbplnapodaaRRRScal3
import Derived.Test.YtnncnbplnapodaaRRRScal6
import Derived.Test.YtnncnbplnapodaaRRRLaw2
namespace Go.Proofs.YtnncnbplnapodaaRRR
open Go.Eng Go.ChangeShapes Go.WideShapes Go.ChangeAt Go.RowKit
set_option maxRecDepth 1000000
set_option maxHeartbeats 4000000
set_option linter.unusedSimpArgs false
set_option linter.unusedVariables false

def scalarWidesL (A : Ar) (N : Ap) (Q : Int) : Pure := [(39, swideF A N), (40, swideF A N), (35, nul0F (.bool true))]

theorem scalarWidesL_ok : ∀ p ∈ scalarWidesL std apStd qN, Con Try.prog p.1 p.2 := by
  intro p hp
  simp only [scalarWidesL, List.mem_cons, List.not_mem_nil, or_false] at hp
  rcases hp with rfl | rfl | rfl
  · exact con_sWide
  · exact con_rWide
  · exact con_sAwake

theorem scalarWides_vc (A : Ar) (N : Ap) (L : LP) (Q : Int) (a : ByteArray) (hA : A = std) (hN : N = apStd) (hQ : Q = qN) (ha : a.size ≤ maxLen) (K : Bool → SV → List Blk → Prop) (hK : K = FinP (.bool true)) :
    Hides (afun (cx A L (scalarWidesL A N Q)) Try.f10 [.str a] [] K) := by
  have he : ∀ x, A.icmp .eql x x = true := fun x => by subst hA; simp [std, icmp]
  have hne : ∀ x, A.icmp .neq x x = false := fun x => by subst hA; simp [std, icmp]
  have e1 : A.icmp .leq (A.ofNat (A.size a)) 9223372036854775807 = true := by
    subst hA
    have h0 : maxLen ≤ 9223372036854775807 := by decide
    have : (a.size : Int) ≤ 9223372036854775807 := by omega
    simpa [std, icmp] using this
  obtain ⟨fi, fc, fw, fq, fn, fo, fs, ft, fu, fz⟩ := A
  simp only at he hne e1
  apply Hides.mk
  cbv
  repeat (simp only [he, hne, e1, beq_self_eq_true]; cbv)
  refine fin_of hK ?_ ?_ ?_ <;> (try simp only [e1]) <;> cbv

theorem scalarWides_step (ss : List SV) (h : PK.fits [.str] ss) : ∃ C, Eng.Good Try.prog C 0 ∧ C.gl = [] ∧ codeOk C Try.f10.ntmps (Try.f10.body.getD .skip) = true ∧ ss.length ≤ Try.f10.ntmps ∧
    Hides (afun C Try.f10 ss [] (FinP (.bool true))) := by
  obtain ⟨_, _, rfl, ⟨a, rfl, _, wa⟩⟩ := PK.fits1 h
  exact ⟨_, good scalarWidesL_ok, rfl, by kernel_rfl, Nat.le_of_ble_eq_true rfl, scalarWides_vc std apStd (ALoop 0) qN a rfl rfl rfl wa (FinP (.bool true)) rfl⟩

theorem scalarWides_lifted (os : Os) (started : os.Started) (H : Type) (enc : TypeId × Value → H) :
    ReturnsInHanded {} Try.checked os 10 .any (Rows.scalarWidesSpec.pre6 enc Try.prog Try.f10 Rows.scalarWidesRow.domain false) (Rows.scalarWidesSpec.post enc Try.prog Try.f10 false true false false) :=
  lifted_of Rows.scalarWidesSpec Rows.scalarWidesRow Try.func10 (tb := 4) (by kernel_rfl) Try.underlying4 rfl
    (by
      intro H ds h
      match ds, h with
      | [d1], _ => rfl) (by kernel_rfl) os started H enc (by kernel_rfl)
    (ChangeSpec.witness6 (enc := enc) (C := Try.checked) false ⟨#[], #[.string ByteArray.empty], []⟩ 8 (by kernel_rfl) (by kernel_rfl) (by kernel_rfl) (by kernel_rfl))
    (fun W base args ds ps hval hA => walk_gen Try.func10 (c := Try.f10.body.getD .skip) (by kernel_rfl) [.str] (ts := [9]) (by kernel_rfl)
      ⟨Try.underlying9, trivial⟩ scalarWides_step W base args ds ps hval hA)

theorem ScalarWides_proved : Rows.ScalarWidesSaid :=
  OpenClaim.holds_of_wide 10 Try.f10 rfl rfl rfl rfl rfl rfl rfl ⟨rfl, rfl, rfl, rfl, rfl⟩ rfl rfl rfl rfl rfl (by kernel_rfl) Try.func10 (by kernel_rfl)
    (of_decide_eq_true (by kernel_rfl)) (by unfold Func.isWrapper; first | (rw [if_pos (by decide +kernel)]; kernel_rfl) | (rw [if_neg (by decide +kernel)]; exact ⟨rfl, rfl⟩))
    (fun os started H enc _ => scalarWides_lifted os started H enc)

end Go.Proofs.YtnncnbplnapodaaRRR
