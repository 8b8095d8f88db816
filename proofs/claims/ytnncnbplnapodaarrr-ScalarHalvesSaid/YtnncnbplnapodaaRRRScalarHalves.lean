/- The law ScalarHalves hands back true, whatever the input. It has no conditions. -/
import Derived.Test.YtnncnbplnapodaaRRRScal3
import Derived.Test.YtnncnbplnapodaaRRRLaw2
import Derived.Test.YtnncnbplnapodaaRRRNum7
namespace Go.Proofs.YtnncnbplnapodaaRRR
open Go.Eng Go.ChangeShapes Go.WideShapes Go.ChangeAt Go.RowKit
set_option maxRecDepth 1000000
set_option maxHeartbeats 4000000
set_option linter.unusedSimpArgs false
set_option linter.unusedVariables false

def scalarHalvesL (A : Ar) (N : Ap) (Q : Int) : Pure := [(39, swideF A N), (30, bytesF N), (20, subF N), (41, nul0F sqV), (37, sadd N Q), (33, smul N Q), (35, nul0F (.bool true))]

theorem scalarHalvesL_ok : ∀ p ∈ scalarHalvesL std apStd qN, Con Try.prog p.1 p.2 := by
  intro p hp
  simp only [scalarHalvesL, List.mem_cons, List.not_mem_nil, or_false] at hp
  rcases hp with rfl | rfl | rfl | rfl | rfl | rfl | rfl
  · exact con_sWide
  · exact con_refBytes
  · exact con_refSub
  · exact con_srOrder
  · exact con_sAdd
  · exact con_sMul
  · exact con_sAwake

theorem cat_bytes {x y : ByteArray} (hx : x.size = 32) (hy : y.size = 32) : (x ++ y).size = 64 ∧ (x ++ y).extract 0 32 = x ∧ (x ++ y).extract 32 64 = y := by
  have hs : (x ++ y).size = 64 := by rw [ByteArray.size_append]; omega
  refine ⟨hs, ?_, ?_⟩
  · apply ByteArray.ext
    apply Array.toList_inj.1
    have h1 : x.data.toList.length = 32 := by simpa using hx
    simp only [ByteArray.data_extract, ByteArray.data_append, Array.toList_extract, Array.toList_append, List.extract_eq_take_drop]
    rw [List.drop_zero, List.take_append_of_le_length (by omega), List.take_of_length_le (by omega)]
  · apply ByteArray.ext
    apply Array.toList_inj.1
    have h1 : x.data.toList.length = 32 := by simpa using hx
    have h2 : y.data.toList.length = 32 := by simpa using hy
    simp only [ByteArray.data_extract, ByteArray.data_append, Array.toList_extract, Array.toList_append, List.extract_eq_take_drop]
    rw [List.drop_append_of_le_length (by omega), List.drop_of_length_le (by omega), List.nil_append, List.take_of_length_le (by omega)]

theorem halves_laws {a b : Int} (ha : 0 ≤ a ∧ a < M256) (hb : 0 ≤ b ∧ b < M256) :
    swideE (bytesN a ++ bytesN b) = 0 ∧ swide (bytesN a ++ bytesN b) = saddN qN (smulN qN a (subm (num4 0 0 0 0) qN)) b ∧ (bytesN a ++ bytesN b).size = 64 := by
  obtain ⟨h1, h2, h3⟩ := cat_bytes (size_bytesN a) (size_bytesN b)
  have z : num4 0 0 0 0 = 0 := by decide
  refine ⟨by unfold swideE; rw [if_pos h1], ?_, h1⟩
  unfold swide
  rw [if_pos h1, h2, h3, from_bytes ha, from_bytes hb, sadd_eq (.inl rfl) (smul_in (.inl rfl) _ _) hb]
  unfold smulN
  have e : subm (num4 0 0 0 0) qN = M256 - qN := by rw [z]; decide
  rw [e, Int.mul_sub, Int.sub_mul_emod_self_right, Int.add_comm, Int.mul_comm M256, Int.emod_add_emod]

theorem scalarHalves_vc (A : Ar) (N : Ap) (L : LP) (Q : Int) (a0 a1 a2 a3 b0 b1 b2 b3 : Int) (hA : A = std) (hN : N = apStd) (hQ : Q = qN) (ha : W a0 ∧ W a1 ∧ W a2 ∧ W a3) (hb : W b0 ∧ W b1 ∧ W b2 ∧ W b3) (K : Bool → SV → List Blk → Prop) (hK : K = FinP (.bool true)) :
    Hides (afun (cx A L (scalarHalvesL A N Q)) Try.f11 [wordsV a0 a1 a2 a3, wordsV b0 b1 b2 b3] [] K) := by
  have he : ∀ x, A.icmp .eql x x = true := fun x => by subst hA; simp [std, icmp]
  have hne : ∀ x, A.icmp .neq x x = false := fun x => by subst hA; simp [std, icmp]
  have ra := num4_range ha.1 ha.2.1 ha.2.2.1 ha.2.2.2
  have rb := num4_range hb.1 hb.2.1 hb.2.2.1 hb.2.2.2
  have hq : Q = qN ∨ Q = pN := by rw [hQ]; exact .inl rfl
  obtain ⟨i1, i2, i3⟩ := halves_laws ra rb
  have e1 : ap1 N swideE (A.cat (ap1 N bytesN (n4 N a0 a1 a2 a3)) (ap1 N bytesN (n4 N b0 b1 b2 b3))) = 0 := by
    subst hN; subst hA
    simp only [ap1_std, n4_std, std]
    exact i1
  have e2 : ap1 N swide (A.cat (ap1 N bytesN (n4 N a0 a1 a2 a3)) (ap1 N bytesN (n4 N b0 b1 b2 b3))) = ap2 N (saddN Q) (n4l N (ap2 N (smulN Q) (n4 N a0 a1 a2 a3) (n4l N (ap2 N subm (n4 N 0 0 0 0) (n4 N 17562291160714782033 13611842547513532036 18446744073709551615 18446744069414584320))))) (n4 N b0 b1 b2 b3) := by
    subst hN; subst hA
    simp only [n4_std, n4l_std (subm_range _ _), n4l_std (smul_in hq _ _), ap1_std, ap2_std, std]
    rw [hQ, slit]
    exact i2
  have e3 : A.fits (ap1 N bytesN (n4 N a0 a1 a2 a3)) (ap1 N bytesN (n4 N b0 b1 b2 b3)) = true := by
    subst hN; subst hA
    simp only [std, ap1_std, n4_std, size_bytesN]
    decide
  have e4 : A.icmp .leq (A.ofNat (A.size (A.cat (ap1 N bytesN (n4 N a0 a1 a2 a3)) (ap1 N bytesN (n4 N b0 b1 b2 b3))))) 9223372036854775807 = true := by
    subst hN; subst hA
    simp only [std, icmp, ap1_std, n4_std, i3]
    decide
  simp only [n4, n4l, ap1, ap2, ap4] at e1 e2 e3 e4
  obtain ⟨fi, fc, fw, fq, fn, fo, fs, ft, fu, fz⟩ := A
  simp only at he hne e1 e2 e3 e4
  apply Hides.mk
  cbv
  repeat (simp only [he, hne, e1, e2, e3, e4, beq_self_eq_true]; cbv)
  refine fin_of hK ?_ ?_ ?_ <;> (try simp only [e3, e4]) <;> cbv

theorem scalarHalves_step (ss : List SV) (h : PK.fits [.num, .num] ss) : ∃ C, Eng.Good Try.prog C 0 ∧ C.gl = [] ∧ codeOk C Try.f11.ntmps (Try.f11.body.getD .skip) = true ∧ ss.length ≤ Try.f11.ntmps ∧
    Hides (afun C Try.f11 ss [] (FinP (.bool true))) := by
  obtain ⟨_, _, _, _, rfl, ⟨a0, a1, a2, a3, rfl, _, wa⟩, ⟨b0, b1, b2, b3, rfl, _, wb⟩⟩ := PK.fits2 h
  exact ⟨_, good scalarHalvesL_ok, rfl, by kernel_rfl, Nat.le_of_ble_eq_true rfl, scalarHalves_vc std apStd (ALoop 0) qN a0 a1 a2 a3 b0 b1 b2 b3 rfl rfl rfl wa wb (FinP (.bool true)) rfl⟩

theorem scalarHalves_lifted (os : Os) (started : os.Started) (H : Type) (enc : TypeId × Value → H) :
    ReturnsInHanded {} Try.checked os 11 .any (Rows.scalarHalvesSpec.pre6 enc Try.prog Try.f11 Rows.scalarHalvesRow.domain false) (Rows.scalarHalvesSpec.post enc Try.prog Try.f11 false true false false) :=
  lifted_of Rows.scalarHalvesSpec Rows.scalarHalvesRow Try.func11 (tb := 4) (by kernel_rfl) Try.underlying4 rfl
    (by
      intro H ds h
      match ds, h with
      | [d1, d2], _ => rfl) (by kernel_rfl) os started H enc (by kernel_rfl)
    (ChangeSpec.witness6 (enc := enc) (C := Try.checked) false ⟨#[], #[.agg #[.int .u64 0, .int .u64 0, .int .u64 0, .int .u64 0], .agg #[.int .u64 0, .int .u64 0, .int .u64 0, .int .u64 0]], []⟩ 8 (by kernel_rfl) (by kernel_rfl) (by kernel_rfl) (by kernel_rfl))
    (fun W base args ds ps hval hA => walk_gen Try.func11 (c := Try.f11.body.getD .skip) (by kernel_rfl) [.num, .num] (ts := [24, 24]) (by kernel_rfl)
      ⟨⟨_, Try.underlying24, by kernel_rfl, by kernel_rfl, by kernel_rfl⟩, ⟨_, Try.underlying24, by kernel_rfl, by kernel_rfl, by kernel_rfl⟩, trivial⟩ scalarHalves_step W base args ds ps hval hA)

theorem ScalarHalves_proved : Rows.ScalarHalvesSaid :=
  OpenClaim.holds_of_wide 11 Try.f11 rfl rfl rfl rfl rfl rfl rfl ⟨rfl, rfl, rfl, rfl, rfl⟩ rfl rfl rfl rfl rfl (by kernel_rfl) Try.func11 (by kernel_rfl)
    (of_decide_eq_true (by kernel_rfl)) (by unfold Func.isWrapper; first | (rw [if_pos (by decide +kernel)]; kernel_rfl) | (rw [if_neg (by decide +kernel)]; exact ⟨rfl, rfl⟩))
    (fun os started H enc _ => scalarHalves_lifted os started H enc)

end Go.Proofs.YtnncnbplnapodaaRRR
