/- The sum of a text: plain facts of its blocks. It has no conditions. -/
import Derived.Test.YtpnpfihjlobonaaDoorSha4
import Derived.Test.YtpnpfihjlobonaaDoorNum3
namespace Go.Proofs.YtpnpfihjlobonaaDoor
open Go.Eng Go.RowKit
set_option maxRecDepth 1000000
set_option linter.unusedSimpArgs false
set_option linter.unusedVariables false

theorem mkb_of_byts (x : ByteArray) : mkb (byts x) = x := by
  have h : (mkb (byts x)).data.toList = x.data.toList := by
    unfold mkb byts
    rw [mkb_list]
    simp only [List.map_map]
    have : (fun n : Int => UInt8.ofNat n.toNat) ∘ (fun b : UInt8 => (b.toNat : Int)) = id := by
      funext b
      simp
    rw [this]
    show ByteArray.empty.data.toList ++ _ = _
    rw [show ByteArray.empty.data.toList = [] from rfl, List.nil_append, List.map_id]
  cases x with
  | mk d =>
    cases hm : mkb (byts ⟨d⟩) with
    | mk e =>
      rw [hm] at h
      congr 1
      exact Array.ext' h

/-- A byte. -/
def By (x : Int) : Prop := 0 ≤ x ∧ x < 256

theorem byts_mkb {l : List Int} (hl : ∀ x ∈ l, By x) : byts (mkb l) = l := by
  unfold byts mkb
  rw [mkb_list]
  have : ByteArray.empty.data.toList = [] := rfl
  rw [this, List.nil_append, List.map_map]
  apply List.ext_getElem
  · simp
  · intro i h1 h2
    simp only [List.getElem_map, Function.comp]
    obtain ⟨a, b⟩ := hl l[i] (List.getElem_mem _)
    have : l[i].toNat < 256 := by omega
    simp only [UInt8.toNat_ofNat']
    omega

theorem byts_by (s : ByteArray) : ∀ x ∈ byts s, By x := by
  intro x hx
  unfold byts at hx
  obtain ⟨b, _, rfl⟩ := List.mem_map.1 hx
  have := b.toNat_lt
  exact ⟨by omega, by omega⟩

theorem wrap8_by (n : Int) : By (IntKind.u8.wrap n) := by
  rw [IntKind.wrap_u8]; constructor <;> omega

theorem by_append {l r : List Int} (h : ∀ x ∈ l, By x) (h' : ∀ x ∈ r, By x) : ∀ x ∈ l ++ r, By x := by
  intro x hx
  rcases List.mem_append.1 hx with h1 | h1
  · exact h x h1
  · exact h' x h1

/-! Blocks. -/

theorem wLo_congr {l l' : List Int} (h : ∀ i, i < 64 → l.getD i 0 = l'.getD i 0) {k : Nat} (hk : k < 16) : wLo l (k : Int) = wLo l' (k : Int) := by
  have m4 : iop .mul .i64 4 (k : Int) = ((4 * k : Nat) : Int) := mul_nat (c := 4) (by omega) (by omega)
  have p1 : iop .add .i64 ((4 * k : Nat) : Int) 1 = ((4 * k + 1 : Nat) : Int) := add_nat (c := 1) (by omega) (by omega)
  have p2 : iop .add .i64 ((4 * k : Nat) : Int) 2 = ((4 * k + 2 : Nat) : Int) := add_nat (c := 2) (by omega) (by omega)
  have p3 : iop .add .i64 ((4 * k : Nat) : Int) 3 = ((4 * k + 3 : Nat) : Int) := add_nat (c := 3) (by omega) (by omega)
  unfold wLo
  simp only [m4, p1, p2, p3, Int.toNat_natCast, h (4 * k) (by omega), h (4 * k + 1) (by omega), h (4 * k + 2) (by omega), h (4 * k + 3) (by omega)]

theorem wAt_congr {l l' : List Int} (h : ∀ i, i < 64 → l.getD i 0 = l'.getD i 0) : ∀ k, wAt l k = wAt l' k
  | 0 => rfl
  | k + 1 => by
    unfold wAt wStep
    rw [wAt_congr h k]
    by_cases hk : k < 16
    · have : (k : Int) < 16 := by omega
      rw [if_pos this, if_pos this, wLo_congr h hk]
    · have : ¬ (k : Int) < 16 := by omega
      rw [if_neg this, if_neg this]

theorem blockN_congr {l l' : List Int} (H : List Int) (h : ∀ i, i < 64 → l.getD i 0 = l'.getD i 0) : blockN H l = blockN H l' := by
  unfold blockN wordsN
  rw [wAt_congr h]

theorem blockN_app {L : List Int} (h : 64 ≤ L.length) (P H : List Int) : blockN H (L ++ P) = blockN H L := by
  apply blockN_congr
  intro i hi
  simp only [List.getD_eq_getElem?_getD]
  rw [List.getElem?_append_left (by omega)]

theorem blockN_take (L H : List Int) : blockN H (L.take 64) = blockN H L := by
  apply blockN_congr
  intro i hi
  simp only [List.getD_eq_getElem?_getD]
  rw [List.getElem?_take]
  simp [hi]

theorem eat_append : ∀ (n : Nat) (L P H : List Int), L.length ≤ n → eatH (eatH H L) (eatR L ++ P) = eatH H (L ++ P) ∧ eatR (eatR L ++ P) = eatR (L ++ P)
  | n, L, P, H, hn => by
    by_cases h : 64 ≤ L.length
    · cases n with
      | zero => omega
      | succ n =>
      obtain ⟨e1, e2⟩ := eat_step h H
      have h' : 64 ≤ (L ++ P).length := by rw [List.length_append]; omega
      obtain ⟨e3, e4⟩ := eat_step h' H
      have hb : blockN H (L ++ P) = blockN H L := blockN_app h P H
      have hd : (L ++ P).drop 64 = L.drop 64 ++ P := List.drop_append_of_le_length h
      rw [hd, hb] at e3
      rw [hd] at e4
      obtain ⟨i1, i2⟩ := eat_append n (L.drop 64) P (blockN H L) (by rw [List.length_drop]; omega)
      exact ⟨by rw [e1, e2, e3, i1], by rw [e2, e4, i2]⟩
    · obtain ⟨e1, e2⟩ := eat_end h H
      rw [e1, e2]; exact ⟨rfl, rfl⟩

theorem eatR_len2 (L : List Int) : (eatR L).length = L.length % 64 := by
  unfold eatR; rw [List.length_drop]; omega

/-! What is laid behind a text; what is told of a state. -/

def be8 (m : Int) : List Int :=
  [IntKind.u8.wrap (iop .shr .u64 m 56), IntKind.u8.wrap (iop .shr .u64 m 48), IntKind.u8.wrap (iop .shr .u64 m 40), IntKind.u8.wrap (iop .shr .u64 m 32),
   IntKind.u8.wrap (iop .shr .u64 m 24), IntKind.u8.wrap (iop .shr .u64 m 16), IntKind.u8.wrap (iop .shr .u64 m 8), IntKind.u8.wrap (iop .shr .u64 m 0)]
def padN (len : Nat) (n : Int) : List Int := 128 :: (List.replicate ((119 - len) % 64) 0 ++ be8 (iop .shl .u64 n 3))
def out4 (v : Int) : List Int := [IntKind.u8.wrap (iop .shr .u32 v 24), IntKind.u8.wrap (iop .shr .u32 v 16), IntKind.u8.wrap (iop .shr .u32 v 8), IntKind.u8.wrap v]
def outN (X : List Int) : List Int := out4 (gi 0 X) ++ (out4 (gi 1 X) ++ (out4 (gi 2 X) ++ (out4 (gi 3 X) ++ (out4 (gi 4 X) ++ (out4 (gi 5 X) ++ (out4 (gi 6 X) ++ out4 (gi 7 X)))))))
def endN (H l : List Int) (n : Int) : ByteArray := mkb (outN (eatH H (l ++ padN l.length n)))
def bitsN (s : ByteArray) : Int := iop .add .u64 0 (IntKind.u64.wrap (s.size : Int))
def sumN (s : ByteArray) : ByteArray := endN (eatH firstL (byts s)) (eatR (byts s)) (bitsN s)
/-- The same, at once. -/
def sumP (s : ByteArray) : ByteArray := mkb (outN (eatH firstL (byts s ++ padN (s.size % 64) (bitsN s))))

theorem sumN_P (s : ByteArray) : sumN s = sumP s := by
  unfold sumN sumP endN
  rw [(eat_append _ (byts s) _ firstL (Nat.le_refl _)).1, eatR_len2, byts_length]

theorem be8_by (m : Int) : ∀ x ∈ be8 m, By x := by
  intro x hx
  unfold be8 at hx
  simp only [List.mem_cons, List.not_mem_nil, or_false] at hx
  rcases hx with rfl | rfl | rfl | rfl | rfl | rfl | rfl | rfl <;> exact wrap8_by _

theorem padN_by (len : Nat) (n : Int) : ∀ x ∈ padN len n, By x := by
  intro x hx
  unfold padN at hx
  rcases List.mem_cons.1 hx with rfl | hx
  · exact ⟨by omega, by omega⟩
  · rcases List.mem_append.1 hx with hx | hx
    · obtain ⟨_, rfl⟩ := List.mem_replicate.1 hx
      exact ⟨by omega, by omega⟩
    · exact be8_by _ x hx

theorem padN_len (len : Nat) (n : Int) : (padN len n).length = 9 + (119 - len) % 64 := by
  unfold padN be8
  simp; omega

theorem out4_by (v : Int) : ∀ x ∈ out4 v, By x := by
  intro x hx
  unfold out4 at hx
  simp only [List.mem_cons, List.not_mem_nil, or_false] at hx
  rcases hx with rfl | rfl | rfl | rfl <;> exact wrap8_by _

theorem outN_by (X : List Int) : ∀ x ∈ outN X, By x :=
  by_append (out4_by _) (by_append (out4_by _) (by_append (out4_by _) (by_append (out4_by _) (by_append (out4_by _) (by_append (out4_by _) (by_append (out4_by _) (out4_by _)))))))

theorem outN_len (X : List Int) : (outN X).length = 32 := rfl
theorem endN_size (H l : List Int) (n : Int) : (endN H l n).size = 32 := by unfold endN; rw [size_mkb, outN_len]
theorem sumN_size (s : ByteArray) : (sumN s).size = 32 := endN_size _ _ _
theorem sumP_size (s : ByteArray) : (sumP s).size = 32 := by rw [← sumN_P]; exact sumN_size s

end Go.Proofs.YtpnpfihjlobonaaDoor
