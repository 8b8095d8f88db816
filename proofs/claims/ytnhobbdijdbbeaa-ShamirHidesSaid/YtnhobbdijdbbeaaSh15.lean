/- The first coefficient from shares, plain. It has no program in sight. -/
import Derived.Test.YtnhobbdijdbbeaaSh14
namespace Go.Proofs.Ytnhobbdijdbbeaa
open Go.Eng Go.RowKit
set_option maxRecDepth 100000
set_option linter.unusedSimpArgs false
set_option linter.unusedVariables false

theorem distinct_of : ∀ (L : List Int), (∀ i j, i < L.length → j < i → L.getD j 0 ≠ L.getD i 0) → Go.Eng.distinct L
  | [], _ => trivial
  | x :: r, h => by
    refine ⟨fun y hy e => ?_, distinct_of r (fun i j hi hj => ?_)⟩
    · obtain ⟨i, hi, rfl⟩ := List.mem_iff_getElem.1 hy
      have := h (i + 1) 0 (by simpa using hi) (Nat.succ_pos i)
      apply this
      show x = r.getD i 0
      rw [e]
      simp [List.getD, List.getElem?_eq_getElem hi]
    · exact h (i + 1) (j + 1) (by simpa using hi) (Nat.succ_lt_succ hj)

theorem plB_ex {L : List Int} (h : plB L = true) : L ≠ [] ∧ (∀ x ∈ L, placeOk x) ∧ Go.Eng.distinct L := by
  unfold plB at h
  rw [Bool.and_eq_true] at h
  have h1 := of_decide_eq_true h.1
  have h2 := of_decide_eq_true h.2
  refine ⟨fun e => by rw [e] at h1; exact Nat.lt_irrefl _ h1, fun x hx => ?_, distinct_of L (fun i j hi hj => (h2 i hi).2 j hj)⟩
  obtain ⟨i, hi, rfl⟩ := List.mem_iff_getElem.1 hx
  have := (h2 i hi).1
  simpa [List.getD, List.getElem?_eq_getElem hi] using this

/-- The shares of a polynomial at places. -/
def shAt (c : List (List Sc)) (at' : List Int) : List (List Sc) := at'.map fun a => shRow a (evL c a)
theorem shAt_at (c : List (List Sc)) (ats : List Int) : atL (shAt c ats) = ats := by
  unfold atL shAt
  rw [List.map_map]
  exact List.map_id'' (fun a => rfl) ats
theorem shAt_P {c : List (List Sc)} (hc : rowsW c = true) (ats : List Int) : (shAt c ats).map shP = ats.map fun a => (a, evI (numsL c) a) := by
  unfold shAt
  rw [List.map_map]
  refine List.map_congr_left (fun a _ => ?_)
  show (a, num4 (l0 (evL c a)) (l1 (evL c a)) (l2 (evL c a)) (l3 (evL c a))) = _
  rw [limb_num (x := evL c a) (toM (evI_range a (nums_range hc)))]
  rfl

theorem back_join {c : List (List Sc)} {ats : List Int} (hc : rowsW c = true) (hp : plB ats = true) (hl : c.length ≤ ats.length) (h0 : 0 < c.length) :
    joE (shAt c ats) = 0 ∧ joK (shAt c ats) = cutN qN (rN c 0 0) := by
  obtain ⟨h1, h2, h3⟩ := plB_ex hp
  refine ⟨?_, ?_⟩
  · unfold joE wtE
    rw [shAt_at, if_pos hp]
  · rw [joK_join _ (by rw [shAt_at]; exact hp), shAt_P hc, back_law qn_q (numsL c) ats h2 h3 (nums_range hc) (by rw [numsL_len]; exact hl) (fun e => by
      have := numsL_len c
      rw [e] at this
      simp at this
      omega)]
    cases c with
    | nil => simp at h0
    | cons r c => rfl

end Go.Proofs.Ytnhobbdijdbbeaa
