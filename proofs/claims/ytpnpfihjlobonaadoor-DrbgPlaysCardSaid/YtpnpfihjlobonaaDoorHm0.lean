/- Sums by a key: plain facts. It has no conditions. -/
import Derived.Test.YtpnpfihjlobonaaDoorSha5
namespace Go.Proofs.YtpnpfihjlobonaaDoor
open Go.Eng Go.RowKit
set_option maxRecDepth 1000000
set_option linter.unusedSimpArgs false
set_option linter.unusedVariables false

theorem byts_app (a b : ByteArray) : byts (a ++ b) = byts a ++ byts b := by
  unfold byts
  simp
theorem mkb_app (a b : ByteArray) : mkb (byts a ++ byts b) = a ++ b := by rw [← byts_app, mkb_of_byts]
theorem size_app (a b : ByteArray) : (a ++ b).size = a.size + b.size := by
  rw [← byts_length, byts_app, List.length_append, byts_length, byts_length]
theorem byts_inj {a b : ByteArray} (h : byts a = byts b) : a = b := by rw [← mkb_of_byts a, h, mkb_of_byts]

def padL (l : List Int) (b : Int) : List Int := (l ++ List.replicate (64 - l.length) 0).map (fun x => iop .xor .u8 x b)
def pdN (key : ByteArray) (b : Int) : ByteArray := mkb (padL (byts key) b)
def kyN (key : ByteArray) : ByteArray := if key.size > 64 then sumN key else key
def kH (key : ByteArray) (b : Int) : List Int := eatH firstL (byts (pdN (kyN key) b))
/-- The sum of a text behind a block. -/
def stS (X : List Int) (t : ByteArray) : ByteArray := endN (eatH X (byts t)) (eatR (byts t)) (iop .add .u64 64 (IntKind.u64.wrap (t.size : Int)))
def macN (key t : ByteArray) : ByteArray := stS (kH key 92) (stS (kH key 54) t)
/-- The same by the reference. -/
def rmacN (key t : ByteArray) : ByteArray := sumP (pdN (kyN key) 92 ++ sumP (pdN (kyN key) 54 ++ t))

theorem kyN_le (key : ByteArray) : (kyN key).size ≤ 64 := by
  unfold kyN
  split
  · rw [sumN_size]; omega
  · omega
theorem padL_len (l : List Int) (b : Int) (h : l.length ≤ 64) : (padL l b).length = 64 := by
  unfold padL
  rw [List.length_map, List.length_append, List.length_replicate]; omega
theorem pdN_size (key : ByteArray) (b : Int) (h : key.size ≤ 64) : (pdN key b).size = 64 := by
  unfold pdN
  rw [size_mkb, padL_len]
  rw [byts_length]; exact h
theorem kH_len (key : ByteArray) (b : Int) : (kH key b).length = 8 := eatH_len (H := firstL) rfl _
theorem xor8_by (x b : Int) : By (iop .xor .u8 x b) := wrap8_by _
theorem padL_by (l : List Int) (b : Int) : ∀ x ∈ padL l b, By x := by
  intro x hx
  unfold padL at hx
  obtain ⟨y, _, rfl⟩ := List.mem_map.1 hx
  exact xor8_by _ _

theorem sum_behind (P t : ByteArray) (h : P.size = 64) : sumP (P ++ t) = stS (eatH firstL (byts P)) t := by
  rw [← sumN_P]
  unfold sumN stS
  have hr : eatR (byts P) = [] := by
    apply List.eq_nil_of_length_eq_zero
    rw [eatR_len2, byts_length, h]
  obtain ⟨e1, e2⟩ := eat_append _ (byts P) (byts t) firstL (Nat.le_refl _)
  rw [hr, List.nil_append] at e1 e2
  rw [byts_app, ← e1, ← e2]
  congr 1
  unfold bitsN
  rw [size_app, h]
  show IntKind.u64.wrap (0 + _) = IntKind.u64.wrap (64 + _)
  simp only [IntKind.wrap_u64]
  omega

theorem mac_eq (key t : ByteArray) : macN key t = rmacN key t := by
  unfold macN rmacN kH
  rw [sum_behind _ t (pdN_size _ _ (kyN_le key)), sum_behind _ _ (pdN_size _ _ (kyN_le key))]

theorem stS_size (X : List Int) (t : ByteArray) : (stS X t).size = 32 := endN_size _ _ _
theorem macN_size (key t : ByteArray) : (macN key t).size = 32 := stS_size _ _
theorem rmacN_size (key t : ByteArray) : (rmacN key t).size = 32 := sumP_size _

/-! So many bytes of a key. -/

def tlN (info last : ByteArray) (i : Nat) : ByteArray := last ++ info ++ mkb [IntKind.u8.wrap (i : Int)]
def exT (key info : ByteArray) : Nat → ByteArray
  | 0 => ByteArray.empty
  | i + 1 => macN key (tlN info (exT key info i) (i + 1))
def exO (key info : ByteArray) : Nat → List Int
  | 0 => []
  | i + 1 => exO key info i ++ byts (exT key info (i + 1))
def exM (n : Int) : Nat := ((n + 31) / 32).toNat
def expN (key info : ByteArray) (n : Int) : ByteArray := if n < 0 ∨ n > 8160 then ByteArray.empty else mkb ((exO key info (exM n)).take n.toNat)
def expE (n : Int) : Int := if n < 0 ∨ n > 8160 then 1 else 0

theorem exO_len (key info : ByteArray) : ∀ i, (exO key info i).length = 32 * i
  | 0 => rfl
  | i + 1 => by
    show (exO key info i ++ byts (exT key info (i + 1))).length = _
    rw [List.length_append, exO_len key info i, byts_length]
    show 32 * i + (macN _ _).size = _
    rw [macN_size]; omega
theorem exT_size (key info : ByteArray) (i : Nat) : (exT key info i).size ≤ 32 := by
  cases i with
  | zero => exact Nat.zero_le _
  | succ i =>
    show (macN _ _).size ≤ 32
    rw [macN_size]; exact Nat.le_refl _
theorem exO_by (key info : ByteArray) : ∀ i, ∀ x ∈ exO key info i, By x
  | 0, x, h => by cases h
  | i + 1, x, h => by
    rcases List.mem_append.1 h with h | h
    · exact exO_by key info i x h
    · exact byts_by _ x h
theorem exO_pre (key info : ByteArray) {i j : Nat} (h : i ≤ j) : exO key info i = (exO key info j).take (32 * i) := by
  induction h with
  | refl => rw [List.take_of_length_le (by rw [exO_len]; exact Nat.le_refl _)]
  | step h ih =>
    rename_i m
    show _ = List.take _ (exO key info m ++ byts _)
    rw [List.take_append_of_le_length (by rw [exO_len]; have : i ≤ m := h; omega)]
    exact ih
theorem expN_len {key info : ByteArray} {n : Int} (h0 : 0 ≤ n) (h1 : n ≤ 8160) : (expN key info n).size = n.toNat := by
  unfold expN
  rw [if_neg (by omega), size_mkb, List.length_take, exO_len]
  unfold exM; omega
theorem expN_shorter {key info : ByteArray} {n m : Int} (h0 : 0 ≤ n) (h1 : n ≤ m) (h2 : m ≤ 8160) : (expN key info m).extract 0 n.toNat = expN key info n := by
  apply byts_inj
  have e : ∀ (s : ByteArray) (k : Nat), byts (s.extract 0 k) = (byts s).take k := fun s k => by
    unfold byts
    rw [← List.map_take]
    congr 1
    simp [ByteArray.data_extract]
  rw [e]
  unfold expN
  rw [if_neg (by omega), if_neg (by omega), byts_mkb, byts_mkb, List.take_take]
  · have hm : exM n ≤ exM m := by unfold exM; omega
    rw [exO_pre key info hm, List.take_take]
    congr 1
    unfold exM; omega
  · intro x hx; exact exO_by key info _ x (List.mem_of_mem_take hx)
  · intro x hx; exact exO_by key info _ x (List.mem_of_mem_take hx)

theorem pdN_zeros (key : ByteArray) (k : Nat) (b : Int) (h : key.size + k ≤ 64) : pdN (key ++ mkb (List.replicate k 0)) b = pdN key b := by
  unfold pdN padL
  congr 2
  rw [byts_app, byts_mkb (by intro x hx; obtain ⟨_, rfl⟩ := List.mem_replicate.1 hx; exact ⟨by omega, by omega⟩)]
  rw [List.append_assoc, ← List.replicate_append_replicate.symm]
  · congr 2
    rw [List.length_append, List.length_replicate, byts_length]
    omega

end Go.Proofs.YtpnpfihjlobonaaDoor
