/- What is put together from shares: the spec of the walk is the sum of products. It has no program in sight. -/
import Derived.Test.YtnhobbdijdbbeaaSh13
namespace Go.Proofs.Ytnhobbdijdbbeaa
open Go.Eng Go.RowKit
set_option maxRecDepth 100000
set_option linter.unusedSimpArgs false
set_option linter.unusedVariables false

theorem jnI_app (ats : List Int) : ∀ (l r : List (Int × Int)) (s : Int), jnI ats (l ++ r) s = jnI ats r (jnI ats l s)
  | [], r, s => rfl
  | p :: l, r, s => by
    show jnI ats (l ++ r) _ = _
    rw [jnI_app ats l r]
    rfl

/-- So many products, added one by one. -/
theorem totK_jn (ats : List Int) (l : List (Int × Int)) (w v : Nat → Int) : ∀ k, k ≤ l.length → (∀ i (h : i < l.length), w i = wI ats (l[i]'h).1 ∧ v i = (l[i]'h).2) → totK w v k = jnI ats (l.take k) 0
  | 0, _, _ => rfl
  | k + 1, hk, h => by
    have hk' : k < l.length := hk
    rw [List.take_add_one, List.getElem?_eq_getElem hk', Option.toList_some, jnI_app, ← totK_jn ats l w v k (Nat.le_of_succ_le hk) h]
    show saddN qN _ (smulN qN (w k) (v k)) = saddN qN _ (smulN qN (wI ats (l[k]'hk').1) (l[k]'hk').2)
    rw [(h k hk').1, (h k hk').2]

def shP (r : List Sc) : Int × Int := (Sc.toInt r[0]?, num4 (Sc.toInt r[1]?) (Sc.toInt r[2]?) (Sc.toInt r[3]?) (Sc.toInt r[4]?))
theorem shP_at (L : List (List Sc)) : (L.map shP).map (·.1) = atL L := by
  simp [atL, shP, Function.comp_def]

theorem rN_num (x : Int) (hx : 0 ≤ x ∧ x < M256) : num4 (Sc.toInt (numR x)[0]?) (Sc.toInt (numR x)[1]?) (Sc.toInt (numR x)[2]?) (Sc.toInt (numR x)[3]?) = x := limb_num hx

theorem joK_join (L : List (List Sc)) (h : plB (atL L) = true) : joK L = joinI (L.map shP) := by
  unfold joK joinI
  rw [if_pos h, shP_at]
  unfold totR
  have hw : wtL (atL L) = (atL L).map (fun a => numR (wI (atL L) a)) := by unfold wtL; rw [if_pos h]
  have := totK_jn (atL L) (L.map shP) (fun i => rN (wtL (atL L)) i 0) (fun i => rN L i 1) (L.map shP).length (Nat.le_refl _) (fun i hi => ?_)
  · rw [List.take_length] at this
    rw [← this, List.length_map]
  · have hi' : i < L.length := by simpa using hi
    refine ⟨?_, ?_⟩
    · simp only [List.getElem_map]
      have hwr : ∀ a, 0 ≤ wI (atL L) a ∧ wI (atL L) a < qN := fun a => smulN_range _ _
      have e : ∀ f, rint (wtL (atL L)) i f = Sc.toInt (numR (wI (atL L) (shP (L[i]'hi')).1))[f]? := by
        intro f
        rw [hw, rint_toInt, List.getElem?_map, atL, List.getElem?_map, List.getElem?_eq_getElem hi']
        rfl
      unfold rN
      rw [e, e, e, e]
      exact rN_num _ (toM (hwr _))
    · simp only [List.getElem_map]
      unfold rN
      simp only [rint_toInt, List.getElem?_eq_getElem hi', Option.bind_some]
      rfl

end Go.Proofs.Ytnhobbdijdbbeaa
