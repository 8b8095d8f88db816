/- Walks through the functions of the sha package: a block's words. It has no conditions. -/
import Derived.Test.YtpnpfihjlobonaaDoorSha1
namespace Go.Proofs.YtpnpfihjlobonaaDoor
open Go.Eng Go.RowKit
set_option maxRecDepth 1000000
set_option maxHeartbeats 4000000
set_option linter.unusedSimpArgs false
set_option linter.unusedVariables false

def gi (i : Nat) (l : List Int) : Int := l.getD i 0
def getI (N : Ap) (L : List Int) : Nat → Nat → List SV
  | 0, _ => []
  | n + 1, i => .int .u32 (ap2 N gi i L) :: getI N L n (i + 1)

def wLo (l : List Int) (t : Int) : Int :=
  iop .or .u32 (iop .or .u32 (iop .or .u32 (iop .shl .u32 (IntKind.u32.wrap (l.getD (iop .mul .i64 4 t).toNat 0)) 24) (iop .shl .u32 (IntKind.u32.wrap (l.getD (iop .add .i64 (iop .mul .i64 4 t) 1).toNat 0)) 16))
    (iop .shl .u32 (IntKind.u32.wrap (l.getD (iop .add .i64 (iop .mul .i64 4 t) 2).toNat 0)) 8)) (IntKind.u32.wrap (l.getD (iop .add .i64 (iop .mul .i64 4 t) 3).toNat 0))
def wHi (L : List Int) (t : Int) : Int :=
  iop .add .u32 (iop .add .u32 (iop .add .u32 (L.getD (iop .sub .i64 t 16).toNat 0) (L.getD (iop .sub .i64 t 7).toNat 0))
    (iop .xor .u32 (iop .xor .u32 (rotr 7 (L.getD (iop .sub .i64 t 15).toNat 0)) (rotr 18 (L.getD (iop .sub .i64 t 15).toNat 0))) (iop .shr .u32 (L.getD (iop .sub .i64 t 15).toNat 0) 3)))
    (iop .xor .u32 (iop .xor .u32 (rotr 17 (L.getD (iop .sub .i64 t 2).toNat 0)) (rotr 19 (L.getD (iop .sub .i64 t 2).toNat 0))) (iop .shr .u32 (L.getD (iop .sub .i64 t 2).toNat 0) 10))
def wStep (l L : List Int) (t : Int) : List Int := if t < 16 then L.set t.toNat (wLo l t) else L.set t.toNat (wHi L t)
def wAt (l : List Int) : Nat → List Int
  | 0 => List.replicate 64 0
  | k + 1 => wStep l (wAt l k) (k : Int)
def wordsN (l : List Int) : List Int := wAt l 64

theorem wAt_len (l : List Int) : ∀ k, (wAt l k).length = 64
  | 0 => by simp [wAt]
  | k + 1 => by unfold wAt wStep; split <;> simp [wAt_len l k]

def cellL (S : St) (id : Nat) : List Int := match (blkAt S.h id).c with
  | .ints _ l => l
  | .lit l => (asInts .u32 l).getD []
  | _ => []

def zeros32 : List SV := repL [.num .u32 0] 64

def woHd (l : List Int) (len : Nat) : Nat → List Int × Int → St
  | _, (L, t) => ⟨[(0, .row 2 len), (2, .ptr 3 0), (3, .ptr 4 0), (7, .int .i64 t)], [.nil, .nil, ⟨.ints .u8 l, .ro⟩, ⟨.lit zeros32, .var⟩, ⟨.ints .u32 L, .var⟩], true⟩
def woEx (S : St) : List Int × Int := (cellL S 4, slotI S 7)
def woOk (l : List Int) (n : Nat) (d : List Int × Int) : Prop := n ≤ 64 ∧ d.2 = ((64 - n : Nat) : Int) ∧ d.1 = wAt l (64 - n)

theorem i64_nat (k : Nat) (h : k < 9223372036854775808) : IntKind.i64.wrap (k : Int) = k := by rw [IntKind.wrap_i64]; omega
theorem sub_nat {k c : Nat} (hk : k < 1000000) (h : c ≤ k) : iop .sub .i64 (k : Int) (c : Int) = ((k - c : Nat) : Int) := by
  show IntKind.i64.wrap _ = _; rw [IntKind.wrap_i64]; omega
theorem add_nat {k c : Nat} (hk : k < 1000000) (h : c < 1000000) : iop .add .i64 (k : Int) (c : Int) = ((k + c : Nat) : Int) := by
  show IntKind.i64.wrap _ = _; rw [IntKind.wrap_i64]; omega
theorem mul_nat {k c : Nat} (hk : k < 1000000) (h : c < 1000) : iop .mul .i64 (c : Int) (k : Int) = ((c * k : Nat) : Int) := by
  have h1 : c * k ≤ 1000 * k := Nat.mul_le_mul_right _ (by omega)
  have : ((c * k : Nat) : Int) = (c : Int) * (k : Int) := by simp
  show IntKind.i64.wrap ((c : Int) * (k : Int)) = _
  rw [← this, i64_nat _ (by omega)]

theorem words_vc (A : Ar) (N : Ap) (L : LP) (l : List Int) (len : Nat) (hL : L = ALoop 3) (hA : A = std) (hN : N = apStd) (hlen : 64 ≤ len) (hl : 64 ≤ l.length) (v : SV) (K : Bool → SV → List Blk → Prop) (hK : K = FinH 3 v [] [] (uniR 3 v [] []))
    (hv : v = .agg (getI N (ap1 N wordsN l) 64 0)) : Shut (afun (cxg A L [(70, rightF N)] []) Tryd.f69 [.row 2 len] [.nil, .nil, ⟨.ints .u8 l, .ro⟩] K) := by
  obtain ⟨fi, fc, fw, fb, fn, fo, fs, fa, fe, fz, fy, ff, fl, fq, gadd, gsub, gmul, gmin, hlen', hget, hset⟩ := A
  obtain ⟨ok, hok⟩ : ∃ f, f = woOk l := ⟨_, rfl⟩
  apply Shut.mk
  cbv
  refine lp_ex hL 64 woEx (woHd l len) ok ?_ ?_ hL (.inr rfl)
  · cbv
    subst hok
    refine ⟨⟨Nat.le_refl _, rfl, rfl⟩, trivial⟩
  intro n hn d hd
  obtain ⟨W, t⟩ := d
  cbv
  cases h : fc .lss t 64 <;> cbv
  · have eW : W = wAt l 64 := by
      subst hok
      obtain ⟨h1, h2, h3⟩ := hd
      simp only at h2 h3
      cases hA
      simp [icmp] at h
      have : 64 - n = 64 := by omega
      rw [h3, this]
    have e1 : hlen' W = 64 := by cases hA; rw [eW]; exact wAt_len l 64
    have e2 : fl = fun a b => decide (a ≤ b) := by cases hA; rfl
    have e3 : gadd = fun a b => a + b := by cases hA; rfl
    have e4 : ∀ i, hget W i = N (List Int) Int (N Nat (List Int → Int) gi i) (N (List Int) (List Int) wordsN l) := by
      have ew : wordsN l = W := by rw [eW]; unfold wordsN; rfl
      cases hA; subst hN; simp only [apStd]; rw [ew]; intro i; rfl
    simp only [e1, e2, e3, e4]
    rw [hv] at hK
    rw [hK]
    clear hd
    cbv
  · have hn0 : ∃ n', n = n' + 1 := by
      subst hok
      obtain ⟨h1, h2, h3⟩ := hd
      simp only at h2 h3
      cases hA
      simp [icmp] at h
      exact ⟨n - 1, by omega⟩
    obtain ⟨n', rfl⟩ := hn0
    obtain ⟨k, hk, ht, hW⟩ : ∃ k : Nat, k + n' = 63 ∧ t = (k : Int) ∧ W = wAt l k := by
      subst hok
      obtain ⟨h1, h2, h3⟩ := hd
      simp only at h2 h3
      exact ⟨63 - n', by omega, by rw [h2]; congr 1; omega, by rw [h3]; congr 1; omega⟩
    have hl64 : W.length = 64 := by rw [hW]; exact wAt_len l k
    have hk' : 64 - n' = k + 1 := by omega
    have a1 : iop .add .i64 (k : Int) 1 = ((k + 1 : Nat) : Int) := add_nat (c := 1) (by omega) (by omega)
    cases h2 : fc .lss t 16
    · have hk2 : 16 ≤ k := by cases hA; simp [icmp, ht] at h2; omega
      have s15 : iop .sub .i64 (k : Int) 15 = ((k - 15 : Nat) : Int) := sub_nat (c := 15) (by omega) (by omega)
      have s2 : iop .sub .i64 (k : Int) 2 = ((k - 2 : Nat) : Int) := sub_nat (c := 2) (by omega) (by omega)
      have s16 : iop .sub .i64 (k : Int) 16 = ((k - 16 : Nat) : Int) := sub_nat (c := 16) (by omega) (by omega)
      have s7 : iop .sub .i64 (k : Int) 7 = ((k - 7 : Nat) : Int) := sub_nat (c := 7) (by omega) (by omega)
      have b : ∀ j : Nat, j ≤ k → (decide ((0 : Int) ≤ (j : Int)) && decide ((j : Int) < ((64 : Nat) : Int))) = true ∧ decide (j + 1 ≤ 64) = true := fun j hj => by
        simp; omega
      have hn : ¬ (k : Int) < 16 := by omega
      have b7 := b (k - 7) (by omega)
      have b16 := b (k - 16) (by omega)
      have b2 := b (k - 2) (by omega)
      have b15 := b (k - 15) (by omega)
      have b0 := b k (by omega)
      have ew : wStep l W (k : Int) = wAt l (64 - n') := by rw [hk', hW]; rfl
      have hn' : n' ≤ 64 := by omega
      clear b
      cbv
      cases hA; subst hN; subst hok; subst ht
      refine ⟨⟨hn', by rw [a1, hk'], ?_⟩, ?_, trivial⟩
      · simp only
        rw [← ew]
        unfold wStep
        rw [if_neg hn]
        simp only [apStd]
        unfold wHi
        rfl
      · simp only [s15, s2, s16, s7, Int.toNat_natCast, hl64, b7, b16, b2, b15, b0]
        rfl
    · have hk2 : k < 16 := by cases hA; simp [icmp, ht] at h2; omega
      have m4 : iop .mul .i64 4 (k : Int) = ((4 * k : Nat) : Int) := mul_nat (c := 4) (by omega) (by omega)
      have p1 : iop .add .i64 ((4 * k : Nat) : Int) 1 = ((4 * k + 1 : Nat) : Int) := add_nat (c := 1) (by omega) (by omega)
      have p2 : iop .add .i64 ((4 * k : Nat) : Int) 2 = ((4 * k + 2 : Nat) : Int) := add_nat (c := 2) (by omega) (by omega)
      have p3 : iop .add .i64 ((4 * k : Nat) : Int) 3 = ((4 * k + 3 : Nat) : Int) := add_nat (c := 3) (by omega) (by omega)
      have b : ∀ j : Nat, j < 64 → (decide ((0 : Int) ≤ (j : Int)) && decide ((j : Int) < (len : Int))) = true ∧ decide (j + 1 ≤ l.length) = true := fun j hj => by
        simp; omega
      have b0 := b (4 * k) (by omega)
      have b1 := b (4 * k + 1) (by omega)
      have b2 := b (4 * k + 2) (by omega)
      have b3 := b (4 * k + 3) (by omega)
      have bk : (decide ((0 : Int) ≤ (k : Int)) && decide ((k : Int) < ((64 : Nat) : Int))) = true ∧ decide (k + 1 ≤ 64) = true := by simp; omega
      have hn : (k : Int) < 16 := by omega
      have ew : wStep l W (k : Int) = wAt l (64 - n') := by rw [hk', hW]; rfl
      have hn' : n' ≤ 64 := by omega
      clear b
      cbv
      cases hA; subst hN; subst hok; subst ht
      refine ⟨⟨hn', by rw [a1, hk'], ?_⟩, ?_, trivial⟩
      · simp only
        rw [← ew]
        unfold wStep
        rw [if_pos hn]
        unfold wLo
        rfl
      · simp only [m4, p1, p2, p3, Int.toNat_natCast, hl64, b0, b1, b2, b3, bk]
        rfl

/-! The contract. -/

def liveK : BK → Bool
  | .dead => false
  | _ => true

def wordsH (A : Ar) (N : Ap) : HF := fun args h => match args, h with
  | [.row id len], [_, _, ⟨.ints k l, bk⟩] => ⟨Nat.beq id 2 && (Nat.beq (kn k) (kn .u8) && (A.nle 64 len && (A.nle 64 (A.ilen l) && liveK bk))), .agg (getI N (ap1 N wordsN l) 64 0), [], []⟩
  | _, _ => ⟨false, .bad, [], []⟩

theorem kOk_ro {k : BK} (h : liveK k = true) : kOk .ro k = true := by cases k <;> simp [liveK] at h <;> rfl

theorem hcon_words : HCon Tryd.prog [0, 1] 69 (wordsH std apStd) := by
  refine hcon_shut Tryd.func69 rfl (by kernel_rfl) (fun args h v ch nw hF m us w H hv => ?_)
  unfold wordsH at hF
  split at hF
  · rename_i id len b0 b1 k l bk
    simp only [HR.mk.injEq, Bool.and_eq_true] at hF
    obtain ⟨⟨h1, h2, h3, h4, h5⟩, rfl, rfl, rfl⟩ := hF
    have h1 : id = 2 := by simpa using h1
    subst h1
    have h2 := kn_eq h2
    subst h2
    have h3 : 64 ≤ len := by simpa [std] using h3
    have h4 : 64 ≤ l.length := by simpa [std] using h4
    refine ⟨_, [.row 2 len], [.nil, .nil, ⟨.ints .u8 l, .ro⟩], goodg (base := 3) (l := [(70, rightF apStd)]) (d := []) dy0 (by decide) (by intro p hp; simp at hp; subst hp; exact con_right) (by simp), rfl, by kernel_rfl, hv, Nat.le_of_ble_eq_true rfl, ?_, rfl, by simp, words_vc std apStd (ALoop 3) l len rfl rfl rfl h3 h4 _ _ rfl rfl⟩
    exact ⟨trivial, trivial, ⟨kOk_ro h5, rfl, rfl⟩, trivial⟩
  · simp at hF

end Go.Proofs.YtpnpfihjlobonaaDoor
