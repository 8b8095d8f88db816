/- Bytes and bits of numbers of 256 bits, and what the functions on them hand back. It has no conditions. -/
import Derived.Test.YtnhobbdijdbbeaaNum
namespace Go.Eng
set_option linter.unusedSimpArgs false
set_option linter.unusedVariables false
set_option exponentiation.threshold 600
set_option maxRecDepth 100000

def wb (a : Int) : List Int := [a / 72057594037927936 % 256, a / 281474976710656 % 256, a / 1099511627776 % 256, a / 4294967296 % 256, a / 16777216 % 256, a / 65536 % 256, a / 256 % 256, a % 256]
/-- A number's bytes, the highest first. -/
def bl (n : Int) : List Int := wb (l3 n) ++ (wb (l2 n) ++ (wb (l1 n) ++ wb (l0 n)))
def bytesN (n : Int) : ByteArray := mkb (bl n)
/-- A text's byte. -/
def bt (s : ByteArray) (i : Nat) : Int := ((s.data.getD i 0).toNat : Int)
/-- A word of eight bytes. -/
def wd (s : ByteArray) (i : Nat) : Int := bt s (i + 7) + 256 * bt s (i + 6) + 65536 * bt s (i + 5) + 16777216 * bt s (i + 4) + 4294967296 * bt s (i + 3) + 1099511627776 * bt s (i + 2) + 281474976710656 * bt s (i + 1) + 72057594037927936 * bt s i
def fromN (s : ByteArray) : Int := if s.size = 32 then num4 (wd s 24) (wd s 16) (wd s 8) (wd s 0) else 0
def fromE (s : ByteArray) : Int := if s.size = 32 then 0 else 2
def bitB (n i : Int) : Bool := decide (0 ≤ i) && (decide (i < 256) && decide (([l0 n, l1 n, l2 n, l3 n].getD (i.toNat / 64) 0) / 2 ^ (i.toNat % 64) % 2 = 1))

theorem bt_range (s : ByteArray) (i : Nat) : 0 ≤ bt s i ∧ bt s i < 256 := by
  unfold bt
  have := (s.data.getD i 0).toNat_lt
  omega

theorem wd_w (s : ByteArray) (i : Nat) : W (wd s i) := by
  have h0 := bt_range s i
  have h1 := bt_range s (i + 1)
  have h2 := bt_range s (i + 2)
  have h3 := bt_range s (i + 3)
  have h4 := bt_range s (i + 4)
  have h5 := bt_range s (i + 5)
  have h6 := bt_range s (i + 6)
  have h7 := bt_range s (i + 7)
  unfold W wd
  omega

theorem or_comm64 (x y : Int) : iop .or .u64 x y = iop .or .u64 y x := by
  show IntKind.u64.wrap _ = IntKind.u64.wrap _
  rw [BitVec.or_comm]

theorem shl_lit (x : Int) (k : Nat) (hk : k ≤ 64) : iop .shl .u64 x (k : Int) = x * 2 ^ k % 18446744073709551616 := by
  show IntKind.u64.wrap (x * 2 ^ min (k : Int).toNat 64) = _
  rw [Int.toNat_natCast, Nat.min_eq_left hk, IntKind.wrap_u64]

/-- A byte laid above others. -/
theorem or_high {x b : Int} (k : Nat) (hx : 0 ≤ x ∧ x < 2 ^ k) (hb : 0 ≤ b ∧ b * 2 ^ k < 18446744073709551616) (hk : k ≤ 64) : iop .or .u64 x (iop .shl .u64 b (k : Int)) = x + b * 2 ^ k := by
  rw [shl_lit b k hk, Int.emod_eq_of_lt (Int.mul_nonneg hb.1 (Int.le_of_lt (Int.pow_pos (by omega)))) hb.2]
  exact or_disj k hx hb hk

/-- A byte laid below others. -/
theorem or_low {x b : Int} (hx : 0 ≤ x ∧ x < 72057594037927936) (hb : 0 ≤ b ∧ b < 256) : iop .or .u64 (iop .shl .u64 x 8) b = b + x * 256 := by
  rw [or_comm64]
  exact or_high 8 hb ⟨hx.1, by omega⟩ (by omega)

theorem byte_word {s : ByteArray} {i : Nat} (h : bt s i = bt s i) : IntKind.u64.wrap (bt s i) = bt s i := W_u64 ⟨(bt_range s i).1, by have := bt_range s i; omega⟩

/-- Eight bytes, the lowest first, make a word. -/
theorem word_up {b0 b1 b2 b3 b4 b5 b6 b7 : Int} (h0 : 0 ≤ b0 ∧ b0 < 256) (h1 : 0 ≤ b1 ∧ b1 < 256) (h2 : 0 ≤ b2 ∧ b2 < 256) (h3 : 0 ≤ b3 ∧ b3 < 256) (h4 : 0 ≤ b4 ∧ b4 < 256) (h5 : 0 ≤ b5 ∧ b5 < 256) (h6 : 0 ≤ b6 ∧ b6 < 256) (h7 : 0 ≤ b7 ∧ b7 < 256) :
    iop .or .u64 (iop .or .u64 (iop .or .u64 (iop .or .u64 (iop .or .u64 (iop .or .u64 (iop .or .u64 (iop .or .u64 0 (iop .shl .u64 b0 0)) (iop .shl .u64 b1 8)) (iop .shl .u64 b2 16)) (iop .shl .u64 b3 24)) (iop .shl .u64 b4 32)) (iop .shl .u64 b5 40)) (iop .shl .u64 b6 48)) (iop .shl .u64 b7 56)
      = b0 + 256 * b1 + 65536 * b2 + 16777216 * b3 + 4294967296 * b4 + 1099511627776 * b5 + 281474976710656 * b6 + 72057594037927936 * b7 := by
  have e0 : iop .or .u64 0 (iop .shl .u64 b0 0) = 0 + b0 * 1 := or_high 0 (by omega) (by omega) (by omega)
  have e1 : iop .or .u64 (0 + b0 * 1) (iop .shl .u64 b1 8) = (0 + b0 * 1) + b1 * 256 := or_high 8 (by omega) (by omega) (by omega)
  have e2 : iop .or .u64 ((0 + b0 * 1) + b1 * 256) (iop .shl .u64 b2 16) = ((0 + b0 * 1) + b1 * 256) + b2 * 65536 := or_high 16 (by omega) (by omega) (by omega)
  have e3 : iop .or .u64 (((0 + b0 * 1) + b1 * 256) + b2 * 65536) (iop .shl .u64 b3 24) = (((0 + b0 * 1) + b1 * 256) + b2 * 65536) + b3 * 16777216 := or_high 24 (by omega) (by omega) (by omega)
  have e4 : iop .or .u64 ((((0 + b0 * 1) + b1 * 256) + b2 * 65536) + b3 * 16777216) (iop .shl .u64 b4 32) = ((((0 + b0 * 1) + b1 * 256) + b2 * 65536) + b3 * 16777216) + b4 * 4294967296 := or_high 32 (by omega) (by omega) (by omega)
  have e5 : iop .or .u64 (((((0 + b0 * 1) + b1 * 256) + b2 * 65536) + b3 * 16777216) + b4 * 4294967296) (iop .shl .u64 b5 40) = (((((0 + b0 * 1) + b1 * 256) + b2 * 65536) + b3 * 16777216) + b4 * 4294967296) + b5 * 1099511627776 := or_high 40 (by omega) (by omega) (by omega)
  have e6 : iop .or .u64 ((((((0 + b0 * 1) + b1 * 256) + b2 * 65536) + b3 * 16777216) + b4 * 4294967296) + b5 * 1099511627776) (iop .shl .u64 b6 48) = ((((((0 + b0 * 1) + b1 * 256) + b2 * 65536) + b3 * 16777216) + b4 * 4294967296) + b5 * 1099511627776) + b6 * 281474976710656 := or_high 48 (by omega) (by omega) (by omega)
  have e7 : iop .or .u64 (((((((0 + b0 * 1) + b1 * 256) + b2 * 65536) + b3 * 16777216) + b4 * 4294967296) + b5 * 1099511627776) + b6 * 281474976710656) (iop .shl .u64 b7 56) = (((((((0 + b0 * 1) + b1 * 256) + b2 * 65536) + b3 * 16777216) + b4 * 4294967296) + b5 * 1099511627776) + b6 * 281474976710656) + b7 * 72057594037927936 := or_high 56 (by omega) (by omega) (by omega)
  rw [e0, e1, e2, e3, e4, e5, e6, e7]
  omega

/-- Eight bytes, the highest first, make a word. -/
theorem word_down {b0 b1 b2 b3 b4 b5 b6 b7 : Int} (h0 : 0 ≤ b0 ∧ b0 < 256) (h1 : 0 ≤ b1 ∧ b1 < 256) (h2 : 0 ≤ b2 ∧ b2 < 256) (h3 : 0 ≤ b3 ∧ b3 < 256) (h4 : 0 ≤ b4 ∧ b4 < 256) (h5 : 0 ≤ b5 ∧ b5 < 256) (h6 : 0 ≤ b6 ∧ b6 < 256) (h7 : 0 ≤ b7 ∧ b7 < 256) :
    iop .or .u64 (iop .shl .u64 (iop .or .u64 (iop .shl .u64 (iop .or .u64 (iop .shl .u64 (iop .or .u64 (iop .shl .u64 (iop .or .u64 (iop .shl .u64 (iop .or .u64 (iop .shl .u64 (iop .or .u64 (iop .shl .u64 (iop .or .u64 0 b7) 8) b6) 8) b5) 8) b4) 8) b3) 8) b2) 8) b1) 8) b0
      = b0 + 256 * b1 + 65536 * b2 + 16777216 * b3 + 4294967296 * b4 + 1099511627776 * b5 + 281474976710656 * b6 + 72057594037927936 * b7 := by
  have e7 : iop .or .u64 0 b7 = b7 := by
    have := or_disj (x := 0) (y := b7) 0 (by omega) (by omega) (by omega)
    simpa using this
  rw [e7, or_low (by omega) h6, or_low (by omega) h5, or_low (by omega) h4, or_low (by omega) h3, or_low (by omega) h2, or_low (by omega) h1, or_low (by omega) h0]
  omega

theorem wrap8 (x : Int) : IntKind.u8.wrap x = x % 256 := IntKind.wrap_u8 x
theorem sh0 (x : Int) : iop .shr .u64 x 0 = x := by have := shr_lit x 0 (by omega); simpa using this
theorem sh8 (x : Int) : iop .shr .u64 x 8 = x / 256 := shr_lit x 8 (by omega)
theorem sh16 (x : Int) : iop .shr .u64 x 16 = x / 65536 := shr_lit x 16 (by omega)
theorem sh24 (x : Int) : iop .shr .u64 x 24 = x / 16777216 := shr_lit x 24 (by omega)
theorem sh32 (x : Int) : iop .shr .u64 x 32 = x / 4294967296 := shr_lit x 32 (by omega)
theorem sh40 (x : Int) : iop .shr .u64 x 40 = x / 1099511627776 := shr_lit x 40 (by omega)
theorem sh48 (x : Int) : iop .shr .u64 x 48 = x / 281474976710656 := shr_lit x 48 (by omega)
theorem sh56 (x : Int) : iop .shr .u64 x 56 = x / 72057594037927936 := shr_lit x 56 (by omega)

theorem l_num4 {a b c d : Int} (ha : W a) (hb : W b) (hc : W c) (hd : W d) : l0 (num4 a b c d) = a ∧ l1 (num4 a b c d) = b ∧ l2 (num4 a b c d) = c ∧ l3 (num4 a b c d) = d :=
  limbs_of (k := 0) ha hb hc hd (by simp)

theorem div_w {x : Int} (hx : W x) (k : Nat) : W (x / 2 ^ k) := by
  have hp : (0 : Int) < 2 ^ k := Int.pow_pos (by omega)
  have h1 := Int.ediv_nonneg hx.1 (Int.le_of_lt hp)
  have h2 : x / 2 ^ k ≤ x := Int.ediv_le_self _ hx.1
  exact ⟨h1, Int.lt_of_le_of_lt h2 hx.2⟩

theorem bit_of {x : Int} (hx : W x) (k : Nat) (hk : k ≤ 64) : (iop .and .u64 (iop .shr .u64 x (k : Int)) 1 == 1) = decide (x / 2 ^ k % 2 = 1) := by
  have h := and_mask (div_w hx k) 1 (by omega)
  have h' : iop .and .u64 (x / 2 ^ k) 1 = x / 2 ^ k % 2 := h
  rw [shr_lit x k hk, h']
  rfl

theorem word_at {a0 a1 a2 a3 : Int} (h0 : W a0) (h1 : W a1) (h2 : W a2) (h3 : W a3) (n : Nat) : W ([a0, a1, a2, a3][n]?.getD 0) := by
  have z : W 0 := by unfold W; omega
  match n with
  | 0 => exact h0
  | 1 => exact h1
  | 2 => exact h2
  | 3 => exact h3
  | n + 4 => simpa using z

def SV.i64 : SV → Option Int
  | .int .i64 n => some n
  | .num .i64 n => some n
  | _ => none

def bytesF (N : Ap) : List SV → Bool × SV
  | [x] => match x.num256 N with
    | some a => (true, .str (ap1 N bytesN a))
    | _ => (false, .bad)
  | _ => (false, .bad)

def fromF (A : Ar) (N : Ap) : List SV → Bool × SV
  | [.str s] => (A.icmp .leq (A.ofNat (A.size s)) 9223372036854775807, .tup [numV N (ap1 N fromN s), .int .i64 (ap1 N fromE s)])
  | _ => (false, .bad)

def bitF (N : Ap) : List SV → Bool × SV
  | [x, y] => match x.num256 N, y.i64 with
    | some a, some i => (true, .bool (ap2 N bitB a i))
    | _, _ => (false, .bad)
  | _ => (false, .bad)

theorem i64_of {x : SV} {n : Int} (h : x.i64 = some n) {u : Value} {m : List Pl} (hv : x.val m = some u) : u = .int .i64 n ∧ IntKind.i64.wrap n = n := by
  unfold SV.i64 at h
  split at h <;> first | (cases h; done) | skip
  all_goals
    simp only [Option.some.injEq] at h
    subst h
    simp only [SV.val] at hv
    split at hv <;> first | (cases hv; done) | skip
    rename_i hw
    simp only [Option.some.injEq] at hv
    exact ⟨hv.symm, by simpa using hw⟩

theorem i64_ids {x : SV} {n : Int} (h : x.i64 = some n) (k : Nat) : x.idsLt k = true := by
  unfold SV.i64 at h
  split at h <;> first | (cases h; done) | rfl

theorem bytesF_ids {N : Ap} {args : List SV} {v : SV} (hF : bytesF N args = (true, v)) : SV.idsLts 0 args = true := by
  unfold bytesF at hF
  split at hF
  · split at hF
    · rename_i ha
      simp [SV.idsLts, num256_ids ha]
    · cases hF
  · cases hF
theorem fromF_ids {A : Ar} {N : Ap} {args : List SV} {v : SV} (hF : fromF A N args = (true, v)) : SV.idsLts 0 args = true := by
  unfold fromF at hF
  split at hF
  · rfl
  · cases hF
theorem bitF_ids {N : Ap} {args : List SV} {v : SV} (hF : bitF N args = (true, v)) : SV.idsLts 0 args = true := by
  unfold bitF at hF
  split at hF
  · split at hF
    · rename_i ha hb
      simp [SV.idsLts, num256_ids ha, i64_ids hb]
    · cases hF
  · cases hF

theorem args_one {x : SV} {a : Int} (hx : x.num256 apStd = some a) {us : List Value} {m : List Pl} (h : SV.vals m [x] = some us) :
    ∃ a0 a1 a2 a3, (W a0 ∧ W a1 ∧ W a2 ∧ W a3) ∧ a = num4 a0 a1 a2 a3 ∧ SV.vals [] [wordsV a0 a1 a2 a3] = some us := by
  obtain ⟨u, rfl, hu⟩ := vals_sole h
  obtain ⟨a0, a1, a2, a3, h1, h2, h3, h4, e, f⟩ := num256_of hx hu
  exact ⟨a0, a1, a2, a3, ⟨h1, h2, h3, h4⟩, e, by simp [SV.vals, f]⟩

theorem args_num_int {x y : SV} {a i : Int} (hx : x.num256 apStd = some a) (hy : y.i64 = some i) {us : List Value} {m : List Pl} (h : SV.vals m [x, y] = some us) :
    ∃ a0 a1 a2 a3, (W a0 ∧ W a1 ∧ W a2 ∧ W a3) ∧ a = num4 a0 a1 a2 a3 ∧ SV.vals [] [wordsV a0 a1 a2 a3, .int .i64 i] = some us := by
  obtain ⟨u, v, rfl, hu, hv⟩ := vals_two h
  obtain ⟨a0, a1, a2, a3, h1, h2, h3, h4, e, f⟩ := num256_of hx hu
  obtain ⟨rfl, hw⟩ := i64_of hy hv
  exact ⟨a0, a1, a2, a3, ⟨h1, h2, h3, h4⟩, e, by simp [SV.vals, f, SV.val, hw]⟩

end Go.Eng
