/- Walks through the laws of shamir: whether places are some that may be, of places written out. It has no conditions. -/
import Derived.Test.YtnhobbdijdbbeaaSh16
namespace Go.Proofs.Ytnhobbdijdbbeaa
open Go.Eng Go.RowKit
set_option maxRecDepth 1000000
set_option maxHeartbeats 4000000
set_option linter.unusedSimpArgs false
set_option linter.unusedVariables false

def lplacesR (A : Ar) (N : Ap) : HF := fun args h => match args, h with
  | [.row 0 n, y], [⟨.lit l, b⟩] => (match y.i64, asInts .i64 l with
    | some a, some L => ⟨liveK b && (A.neq (A.ilen L) n && A.nle n 9223372036854775807), .bool (ap2 N lpB L a), [], []⟩
    | _, _ => ⟨false, .bad, [], []⟩)
  | _, _ => ⟨false, .bad, [], []⟩

theorem hcon_lplacesR : HCon Try.prog [] 23 (lplacesR std apStd) := by
  refine hcon_shut Try.func23 rfl (by kernel_rfl) (fun args h x ch nw hF m us w H hv => ?_)
  unfold lplacesR at hF
  split at hF
  · rename_i n y l b
    split at hF
    · rename_i a L hy hl
      simp only [HR.mk.injEq, Bool.and_eq_true] at hF
      obtain ⟨⟨h1, h3, h4⟩, rfl, rfl, rfl⟩ := hF
      have h3 : L.length = n := by simpa [std] using h3
      have h4 : n ≤ 9223372036854775807 := by simpa [std] using h4
      simp only [SV.vals, Option.bind_eq_some_iff, Option.map_eq_some_iff] at hv
      obtain ⟨u1, hu1, us1, ⟨u2, hu2, us2, e2, rfl⟩, rfl⟩ := hv
      obtain ⟨hu2', wa⟩ := i64_val hy hu2
      refine ⟨_, [.row 0 n, .int .i64 a], [⟨.ints .i64 L, .ro⟩], goods (base := 1) (l := []) (d := [(19, weightsH std apStd)]) (by simp) (by intro p hp; simp at hp; subst hp; exact hcon_rweights),
        rfl, by kernel_rfl, by simp [SV.vals, hu1, hu2', e2], Nat.le_of_ble_eq_true rfl, ?_, rfl, by simp, lplaces_vc std apStd (ALoop 1) L n a rfl rfl rfl h3 h4 _ rfl _ rfl⟩
      refine ⟨⟨kOk_ro h1, ?_⟩, trivial⟩
      show (match asInts .i64 l with | some xs' => L = xs' | none => False)
      rw [hl]
    · simp at hF
  · simp at hF

end Go.Proofs.Ytnhobbdijdbbeaa
