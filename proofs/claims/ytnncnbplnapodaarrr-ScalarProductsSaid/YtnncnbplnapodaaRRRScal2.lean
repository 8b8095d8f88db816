/- Walks through the scalar of 64 bytes, and the reference's halves and inverse. It has no conditions. -/
import Derived.Test.YtnncnbplnapodaaRRRScal1
import Derived.Test.YtnncnbplnapodaaRRRLimbs4
namespace Go.Proofs.YtnncnbplnapodaaRRR
open Go.Eng Go.RowKit
set_option maxRecDepth 1000000
set_option maxHeartbeats 4000000
set_option linter.unusedSimpArgs false
set_option linter.unusedVariables false

theorem mkb_byts (x : ByteArray) : mkb (byts x) = x := by
  have h := mkb_list (byts x) ByteArray.empty
  have e : (mkb (byts x)).data.toList = x.data.toList := by
    unfold mkb
    rw [h]
    simp only [byts, List.map_map]
    have : (fun n : Int => UInt8.ofNat n.toNat) ∘ (fun b : UInt8 => (b.toNat : Int)) = id := by
      funext b; simp
    rw [this]; simp
  have e2 : (mkb (byts x)).data = x.data := Array.toList_inj.1 e
  cases hm : mkb (byts x)
  cases x
  rw [hm] at e2
  simp only at e2
  rw [e2]

def swide (s : ByteArray) : Int := if s.size = 64 then (fromN (s.extract 32 64) + M256 * fromN (s.extract 0 32)) % qN else 0
def swideE (s : ByteArray) : Int := if s.size = 64 then 0 else 2

def swideF (A : Ar) (N : Ap) : List SV → Bool × SV
  | [.str s] => (A.icmp .leq (A.ofNat (A.size s)) 9223372036854775807, .tup [numV N (ap1 N swide s), .int .i64 (ap1 N swideE s)])
  | _ => (false, .bad)

theorem swideF_ids {A : Ar} {N : Ap} {args : List SV} {v : SV} (hF : swideF A N args = (true, v)) : SV.idsLts 0 args = true := by
  unfold swideF at hF
  split at hF
  · rfl
  · cases hF

theorem from_range (s : ByteArray) : 0 ≤ fromN s ∧ fromN s < M256 := by
  unfold fromN
  split
  · exact num4_range (wd_w s 24) (wd_w s 16) (wd_w s 8) (wd_w s 0)
  · decide

theorem swide_eq {s : ByteArray} (h : s.size = 64) : maddN qN (mmul qN (fromN (s.extract 0 32)) (rrOf qN)) (cutN qN (fromN (s.extract 32 64))) = swide s := by
  obtain ⟨g1, g2, g3, g4, g5⟩ := qp_range (M := qN) (.inl rfl)
  have r1 := mmul_range (show 0 < qN by omega) (fromN (s.extract 0 32)) (rrOf qN)
  obtain ⟨c1, c2, c3⟩ := cut_range g1 g2 (from_range (s.extract 32 64))
  rw [(madd_range g1 g2 r1 ⟨c1, c2⟩).2.2, c3, mmul_in1 (.inl rfl)]
  unfold swide
  rw [if_pos h, ← Int.add_emod, Int.add_comm]

theorem sWide_vc (A : Ar) (L : LP) (N : Ap) (s : ByteArray) (hL : L = ALoop 0) (hA : A = std) (hN : N = apStd) (hs : s.size ≤ 9223372036854775807) (v : SV) (K : Bool → SV → List Blk → Prop) (hK : K = FinP v)
    (hv : v = .tup [numV apStd (swide s), .int .i64 (swideE s)]) :
    Shut (afun (cx A L [(64, nul0F smV), (27, fromF A N), (66, minF N), (69, cutF N), (70, maddF N)]) Try.f39 [.str s] [] K) := by
  obtain ⟨fi, fc, fw, fb, fn, fo, fs, fa, fe, fz⟩ := A
  apply Shut.mk
  cbv
  split <;> rename_i e <;> cbv
  · cases hA
    have e : s.size ≠ 64 := by simp [icmp] at e; omega
    refine fin_sb hK ?_ ?_ ?_
    · have hs' : (s.size : Int) ≤ 9223372036854775807 := by omega
      simp [icmp, hs']
    · rw [hv]; rfl
    · rw [hv]
      simp [oneTup, numV, ap1, apStd, swide, swideE, e, SV.sb, SV.sbs, kn, l0, l1, l2, l3]
  · cases hA; subst hN
    have e : s.size = 64 := by simp [icmp] at e; omega
    have z1 : (s.extract 0 32).size = 32 := by rw [ByteArray.size_extract]; omega
    have z2 : (s.extract 32 64).size = 32 := by rw [ByteArray.size_extract]; omega
    have low : ∀ x : ByteArray, mkb (((byts x).drop 0).take x.size) = x := fun x => by
      rw [List.drop_zero, List.take_of_length_le (by rw [byts_length]; exact Nat.le_refl _), mkb_byts]
    obtain ⟨g1, g2, g3, g4, g5⟩ := qp_range (M := qN) (.inl rfl)
    have hr : ∀ x y, 0 ≤ mmul qN x y ∧ mmul qN x y < M256 := fun x y => ⟨(mmul_range (by omega) x y).1, by have := (mmul_range (show 0 < qN by omega) x y).2; omega⟩
    have k1 : ∀ a, mcond qN a (rrOf qN) = true := fun a => by simp [mcond, g5]
    have k3 : okMod qN 14758798090332847183 = true := by decide
    refine fin_sb hK ?_ ?_ ?_
    · simp only [std, e, z1, z2, low, apStd, slit, srr, k1, k3]
      have low2 : mkb (List.take 32 (byts (s.extract 32 64))) = s.extract 32 64 := by
        have := low (s.extract 32 64)
        rw [z2, List.drop_zero] at this
        exact this
      simp [icmp, z1, z2, byts_length, low2]
    · rw [hv]; rfl
    · rw [hv, ← swide_eq e]
      simp only [std, e, low, apStd, slit, srr, num4_mod (from_range _), num4_mod (hr _ _), num4_mod (cut_in (from_range _)), oneTup, numV, ap1, SV.sb, SV.sbs, kn, swideE, if_true]
      simp

theorem con_sWide : Con Try.prog 39 (swideF std apStd) := by
  refine con_shut Try.func39 rfl (by kernel_rfl) (fun args v us hF hv => ?_) (fun args v hF => swideF_ids hF)
  unfold swideF at hF
  split at hF
  · rename_i s
    simp only [Prod.mk.injEq, ap1_std] at hF
    obtain ⟨h1, h2⟩ := hF
    have hs : s.size ≤ 9223372036854775807 := by simp [std, icmp] at h1; omega
    exact ⟨_, _, good (l := [(64, nul0F smV), (27, fromF std apStd), (66, minF apStd), (69, cutF apStd), (70, maddF apStd)])
      (by intro p hp; simp only [List.mem_cons, List.not_mem_nil, or_false] at hp; rcases hp with rfl | rfl | rfl | rfl | rfl; exact con_sMod; exact con_limbsFrom; exact con_min; exact con_cut; exact con_madd), rfl, by kernel_rfl, hv, Nat.le_of_ble_eq_true rfl,
      sWide_vc std (ALoop 0) apStd s rfl rfl rfl hs v (FinP v) rfl h2.symm⟩
  · cases hF

end Go.Proofs.YtnncnbplnapodaaRRR
