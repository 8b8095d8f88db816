/- Plain laws on numbers of 256 bits: a number's bytes are that number; a sum less a part. It has no conditions. -/
import Derived.Test.YtnhobbdijdbbeaaNum2
namespace Go.Eng
set_option linter.unusedSimpArgs false
set_option linter.unusedVariables false
set_option exponentiation.threshold 600
set_option maxRecDepth 100000

theorem mkb_list : ∀ (l : List Int) (r : ByteArray), (l.foldl (fun r n => r.push (UInt8.ofNat n.toNat)) r).data.toList = r.data.toList ++ l.map fun n => UInt8.ofNat n.toNat
  | [], r => by simp
  | x :: l, r => by
    simp only [List.foldl_cons, List.map_cons]
    rw [mkb_list l]
    simp [ByteArray.push]

theorem bt_mkb {l : List Int} (hl : ∀ x ∈ l, 0 ≤ x ∧ x < 256) (i : Nat) : bt (mkb l) i = l[i]?.getD 0 := by
  unfold bt mkb
  have h := mkb_list l ByteArray.empty
  have e : (l.foldl (fun r n => r.push (UInt8.ofNat n.toNat)) ByteArray.empty).data.getD i 0 = (l.map fun n => UInt8.ofNat n.toNat)[i]?.getD 0 := by
    rw [Array.getD_eq_getD_getElem?, ← Array.getElem?_toList, h]
    rfl
  rw [e, List.getElem?_map]
  cases hx : l[i]? with
  | none => rfl
  | some x =>
    have := hl x (List.mem_of_getElem? hx)
    simp only [Option.map_some, Option.getD_some, UInt8.toNat_ofNat']
    omega

theorem size_mkb (l : List Int) : (mkb l).size = l.length := by
  have h := mkb_list l ByteArray.empty
  have : (mkb l).data.toList.length = l.length := by
    unfold mkb
    rw [h]; simp
  simpa using this

theorem wb_range (a : Int) : ∀ x ∈ wb a, 0 ≤ x ∧ x < 256 := by
  intro x hx
  simp only [wb, List.mem_cons, List.not_mem_nil, or_false] at hx
  rcases hx with rfl | rfl | rfl | rfl | rfl | rfl | rfl | rfl <;> omega

theorem bl_range (n : Int) : ∀ x ∈ bl n, 0 ≤ x ∧ x < 256 := by
  intro x hx
  simp only [bl, List.mem_append] at hx
  rcases hx with h | h | h | h <;> exact wb_range _ x h

theorem size_bytesN (n : Int) : (bytesN n).size = 32 := by
  unfold bytesN
  rw [size_mkb]
  rfl

theorem wd_bytes (n : Int) : wd (bytesN n) 24 = l0 n ∧ wd (bytesN n) 16 = l1 n ∧ wd (bytesN n) 8 = l2 n ∧ wd (bytesN n) 0 = l3 n := by
  have h : ∀ i, bt (bytesN n) i = (bl n)[i]?.getD 0 := bt_mkb (bl_range n)
  have w0 := l0_w n
  have w1 := l1_w n
  have w2 := l2_w n
  have w3 := l3_w n
  unfold W at w0 w1 w2 w3
  simp only [wd, h]
  simp only [bl, wb, List.cons_append, List.nil_append]
  generalize l0 n = x0 at *
  generalize l1 n = x1 at *
  generalize l2 n = x2 at *
  generalize l3 n = x3 at *
  simp
  refine ⟨?_, ?_, ?_, ?_⟩ <;> omega

theorem from_bytes {n : Int} (hn : 0 ≤ n ∧ n < M256) : fromN (bytesN n) = n := by
  obtain ⟨e0, e1, e2, e3⟩ := wd_bytes n
  unfold fromN
  rw [if_pos (size_bytesN n), e0, e1, e2, e3, num4_limbs]
  exact Int.emod_eq_of_lt hn.1 hn.2

theorem fromE_bytes (n : Int) : fromE (bytesN n) = 0 := by
  unfold fromE
  rw [if_pos (size_bytesN n)]

theorem num4_mod {n : Int} (hn : 0 ≤ n ∧ n < M256) : num4 (l0 n) (l1 n) (l2 n) (l3 n) = n := by
  rw [num4_limbs]
  exact Int.emod_eq_of_lt hn.1 hn.2

theorem addm_range (a b : Int) : 0 ≤ addm a b ∧ addm a b < M256 := by unfold addm M256; omega
theorem subm_range (a b : Int) : 0 ≤ subm a b ∧ subm a b < M256 := by unfold subm M256; omega

theorem sum_less {a b : Int} (ha : 0 ≤ a ∧ a < M256) (hb : 0 ≤ b ∧ b < M256) : subm (addm a b) b = a ∧ ltb (addm a b) b = addc a b ∧ decide (cmpI (addm a b) a < 0) = addc a b := by
  unfold subm addm ltb addc cmpI M256 at *
  refine ⟨by omega, ?_, ?_⟩
  · rw [decide_eq_decide]; omega
  · rw [decide_eq_decide]; split <;> (try split) <;> omega

end Go.Eng
