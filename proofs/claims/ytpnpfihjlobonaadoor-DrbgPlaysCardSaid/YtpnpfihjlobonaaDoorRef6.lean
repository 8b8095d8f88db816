/- Walks through the reference of the sha package: a block is taken. It has no conditions. -/
import Derived.Test.YtpnpfihjlobonaaDoorRef1
namespace Go.Proofs.YtpnpfihjlobonaaDoor
open Go.Eng Go.RowKit
set_option maxRecDepth 1000000
set_option maxHeartbeats 4000000
set_option linter.unusedSimpArgs false
set_option linter.unusedVariables false

/-! Bits and sums of 32 bits. -/

def b32 (x : Int) : BitVec 32 := BitVec.ofInt 32 x
theorem b32_nat (b : BitVec 32) : b32 (IntKind.u32.wrap (b.toNat : Int)) = b := by
  unfold b32
  rw [IntKind.wrap_u32]
  have h := b.isLt
  apply BitVec.eq_of_toNat_eq
  rw [BitVec.toNat_ofInt]
  omega
theorem and32 (x y : Int) : b32 (iop .and .u32 x y) = b32 x &&& b32 y := b32_nat _
theorem or32 (x y : Int) : b32 (iop .or .u32 x y) = b32 x ||| b32 y := b32_nat _
theorem xor32 (x y : Int) : b32 (iop .xor .u32 x y) = b32 x ^^^ b32 y := b32_nat _
theorem xor_eq (x y : Int) : iop .xor .u32 x y = IntKind.u32.wrap ((b32 x ^^^ b32 y).toNat : Int) := rfl
theorem or_eq (x y : Int) : iop .or .u32 x y = IntKind.u32.wrap ((b32 x ||| b32 y).toNat : Int) := rfl

theorem ch_eq (e f g : Int) : iop .xor .u32 (iop .and .u32 e f) (iop .and .u32 (iop .xor .u32 e 4294967295) g) = iop .xor .u32 g (iop .and .u32 e (iop .xor .u32 f g)) := by
  rw [xor_eq (iop .and .u32 e f), xor_eq g]
  congr 3
  rw [and32, and32, xor32, and32, xor32]
  have : b32 4294967295 = BitVec.allOnes 32 := by decide
  rw [this]
  generalize b32 e = e; generalize b32 f = f; generalize b32 g = g
  apply BitVec.eq_of_getLsbD_eq
  intro i hi
  simp only [BitVec.getLsbD_xor, BitVec.getLsbD_and, BitVec.getLsbD_allOnes, hi, decide_true]
  cases e.getLsbD i <;> cases f.getLsbD i <;> cases g.getLsbD i <;> rfl

theorem maj_eq (a b c : Int) : iop .xor .u32 (iop .xor .u32 (iop .and .u32 a b) (iop .and .u32 a c)) (iop .and .u32 b c) = iop .or .u32 (iop .and .u32 a b) (iop .and .u32 c (iop .or .u32 a b)) := by
  rw [xor_eq, or_eq]
  congr 3
  rw [xor32, and32, and32, and32, and32, or32]
  generalize b32 a = e; generalize b32 b = f; generalize b32 c = g
  apply BitVec.eq_of_getLsbD_eq
  intro i hi
  simp only [BitVec.getLsbD_xor, BitVec.getLsbD_and, BitVec.getLsbD_or]
  cases e.getLsbD i <;> cases f.getLsbD i <;> cases g.getLsbD i <;> rfl

theorem add32 (x y : Int) : iop .add .u32 x y = (x + y) % 4294967296 := by
  show IntKind.u32.wrap (x + y) = _
  rw [IntKind.wrap_u32]

theorem wsum_eq (a b c d : Int) : iop .add .u32 (iop .add .u32 (iop .add .u32 a b) c) d = iop .add .u32 (iop .add .u32 (iop .add .u32 d b) c) a := by
  simp only [add32]; omega

theorem wHi_eq (y7 w7 x16 s0 s1 : Int) (h : True) : iop .add .u32 (iop .add .u32 (iop .add .u32 s1 w7) s0) x16 = iop .add .u32 (iop .add .u32 (iop .add .u32 x16 w7) s0) s1 := wsum_eq _ _ _ _

/-! The walk. -/

def o8l : O8 → List Int
  | (a, b, c, d, e, f, g, h) => [a, b, c, d, e, f, g, h]

def zeros64 : List Int := List.replicate 64 0
def vIdL (S : St) : List Int := match Eng.look S.t 12 with
  | .row w _ => cellL S w
  | .slice w _ _ _ => cellL S w
  | _ => []

/-- At the first loop's head. -/
def baHd (H R l : List Int) : Nat → List Int × Int → St
  | _, (W, t) => ⟨[(0, .row 0 8), (1, .row 1 64), (2, .row 2 64), (7, .ptr 3 0), (8, .int .i64 t)], [⟨.ints .u32 H, .ro⟩, ⟨.ints .u32 R, .ro⟩, ⟨.ints .u8 l, .ro⟩, ⟨.ints .u32 W, .var⟩], true⟩
def baEx (S : St) : List Int × Int := (cellL S 3, slotI S 8)
def baOk (l : List Int) (n : Nat) (d : List Int × Int) : Prop := n ≤ 16 ∧ d.2 = ((16 - n : Nat) : Int) ∧ d.1 = wAt l (16 - n)
def bbHd (H R l : List Int) : Nat → List Int × Int → St
  | _, (W, t) => ⟨[(0, .row 0 8), (1, .row 1 64), (2, .row 2 64), (7, .ptr 3 0), (9, .int .i64 t)], [⟨.ints .u32 H, .ro⟩, ⟨.ints .u32 R, .ro⟩, ⟨.ints .u8 l, .ro⟩, ⟨.ints .u32 W, .var⟩], true⟩
def bbEx (S : St) : List Int × Int := (cellL S 3, slotI S 9)
def bbOk (l : List Int) (n : Nat) (d : List Int × Int) : Prop := n ≤ 48 ∧ d.2 = ((64 - n : Nat) : Int) ∧ d.1 = wAt l (64 - n)
def bcHd (H R l W : List Int) : Nat → List Int × Int → St
  | _, (V, t) => ⟨[(0, .row 0 8), (1, .row 1 64), (7, .ptr 3 0), (12, .row 4 8), (13, .int .i64 t)], [⟨.ints .u32 H, .ro⟩, ⟨.ints .u32 R, .ro⟩, .nil, ⟨.ints .u32 W, .var⟩, ⟨.ints .u32 V, .ro⟩], true⟩
def bcEx (S : St) : List Int × Int := (vIdL S, slotI S 13)
def bcOk (R W : List Int) (x : O8) (n : Nat) (d : List Int × Int) : Prop := n ≤ 64 ∧ d.2 = ((64 - n : Nat) : Int) ∧ d.1 = o8l (rdAt R W x (64 - n))

theorem rblock_vc (A : Ar) (N : Ap) (L : LP) (H R l : List Int) (hL : L = ALoop 3) (hA : A = std) (hN : N = apStd) (hH : H.length = 8) (hR : R = roundsL) (hl : 64 ≤ l.length) (nw : List Blk) (hnw : nw = [⟨.ints .u32 (ap2 N blockN H l), .ro⟩])
    (K : Bool → SV → List Blk → Prop) (hK : K = FinH 3 (.row 3 8) [] nw (uniR 3 (.row 3 8) [] nw)) :
    Shut (afun (cxh A L noJ [(67, rightF N)] [] [] dy0) Tryd.f59 [.row 0 8, .row 1 64, .row 2 64] [⟨.ints .u32 H, .ro⟩, ⟨.ints .u32 R, .ro⟩, ⟨.ints .u8 l, .ro⟩] K) := by
  have hA' := hA
  obtain ⟨fi, fc, fw, fb, fn, fo, fs, fa, fe, fz, fy, ff, fl, fq, gadd, gsub, gmul, gmin, hlen', hget, hset, happ, hisub, irep, iput', rlen, rint', rbool', rstr', rset, rapp, rsub, rrep, hmkb, hbyts⟩ := A
  have hq : ∀ a, fq a a = true := by cases hA; intro a; simp [std]
  have f1 : fl 1 8 = true := by cases hA; rfl
  have u0 : fl (gadd 0 1) (hlen' H) = true := by cases hA; exact decide_eq_true (by show 0 + 1 ≤ H.length; omega)
  have f2 : fl 2 8 = true := by cases hA; rfl
  have u1 : fl (gadd 1 1) (hlen' H) = true := by cases hA; exact decide_eq_true (by show 1 + 1 ≤ H.length; omega)
  have f3 : fl 3 8 = true := by cases hA; rfl
  have u2 : fl (gadd 2 1) (hlen' H) = true := by cases hA; exact decide_eq_true (by show 2 + 1 ≤ H.length; omega)
  have f4 : fl 4 8 = true := by cases hA; rfl
  have u3 : fl (gadd 3 1) (hlen' H) = true := by cases hA; exact decide_eq_true (by show 3 + 1 ≤ H.length; omega)
  have f5 : fl 5 8 = true := by cases hA; rfl
  have u4 : fl (gadd 4 1) (hlen' H) = true := by cases hA; exact decide_eq_true (by show 4 + 1 ≤ H.length; omega)
  have f6 : fl 6 8 = true := by cases hA; rfl
  have u5 : fl (gadd 5 1) (hlen' H) = true := by cases hA; exact decide_eq_true (by show 5 + 1 ≤ H.length; omega)
  have f7 : fl 7 8 = true := by cases hA; rfl
  have u6 : fl (gadd 6 1) (hlen' H) = true := by cases hA; exact decide_eq_true (by show 6 + 1 ≤ H.length; omega)
  have f8 : fl 8 8 = true := by cases hA; rfl
  have u7 : fl (gadd 7 1) (hlen' H) = true := by cases hA; exact decide_eq_true (by show 7 + 1 ≤ H.length; omega)
  have hg0 : gadd 0 8 = 8 := by cases hA; rfl
  have g8 : 8 = gadd 0 8 := hg0.symm
  have hH8 : hlen' H = 8 := by cases hA; exact hH
  have h88 : fl 8 8 = true := by cases hA; rfl
  have hg84 : fl (gmul 8 4) 140737488355328 = true := by cases hA; rfl
  obtain ⟨oka, hoka⟩ : ∃ f, f = baOk l := ⟨_, rfl⟩
  apply Shut.mk
  cbv
  refine lp_ex hL 16 baEx (baHd H R l) oka ?_ ?_ hL (.inr rfl)
  · cbv
    subst hoka
    refine ⟨⟨Nat.le_refl _, rfl, rfl⟩, trivial⟩
  intro n hn d hd
  obtain ⟨W, t⟩ := d
  cbv
  cases h : fc .lss t 16 <;> cbv
  · have eW : W = wAt l 16 := by
      subst hoka
      obtain ⟨h1, h2, h3⟩ := hd
      simp only at h2 h3
      cases hA
      simp [icmp] at h
      have : 16 - n = 16 := by omega
      rw [h3, this]
    clear hd hoka oka
    obtain ⟨okb, hokb⟩ : ∃ f, f = bbOk l := ⟨_, rfl⟩
    refine lp_ex hL 48 bbEx (bbHd H R l) okb ?_ ?_ hL (.inr rfl)
    · cbv
      subst hokb
      exact ⟨⟨Nat.le_refl _, rfl, eW⟩, trivial⟩
    clear eW h
    clear W t
    intro n hn d hd
    obtain ⟨W, t⟩ := d
    cbv
    cases h : fc .lss t 64 <;> cbv
    · have eW : W = wordsN l := by
        subst hokb
        obtain ⟨h1, h2, h3⟩ := hd
        simp only at h2 h3
        cases hA
        simp [icmp] at h
        have : 64 - n = 64 := by omega
        rw [h3, this]; rfl
      clear hd hokb okb
      have hsub : hisub H 0 8 = H := by cases hA; show (H.drop 0).take 8 = H; rw [List.drop_zero, List.take_of_length_le (by omega)]
      simp only [hsub]
      obtain ⟨okc, hokc⟩ : ∃ f, f = bcOk R W (tup8 H) := ⟨_, rfl⟩
      refine lp_ex hL 64 bcEx (bcHd H R l W) okc ?_ ?_ hL (.inr rfl)
      · cbv
        rw [hokc]
        refine ⟨⟨Nat.le_refl _, rfl, (list8 hH).symm⟩, ?_, ⟨g8, trivial⟩, trivial⟩
        simp only [hg0, hH8, h88, hg84]
      clear h
      clear t
      intro n hn d hd
      obtain ⟨V, t⟩ := d
      cbv
      cases h : fc .lss t 64 <;> cbv
      · refine lp_rounds hL 9 hL (.inr rfl) ?_
        cbv
        have hV : V = o8l (rdAt R W (tup8 H) 64) := by
          subst hokc
          obtain ⟨h1, h2, h3⟩ := hd
          simp only at h2 h3
          cases hA
          simp [icmp] at h
          have : 64 - n = 64 := by omega
          rw [h3, this]
        have hV8 : ∀ k, k < 8 → fl (gadd k 1) (hlen' V) = true := by
          cases hA; intro k hk
          exact decide_eq_true (by show k + 1 ≤ V.length; rw [hV]; exact hk)
        have v0 := hV8 0 (by omega)
        have v1 := hV8 1 (by omega)
        have v2 := hV8 2 (by omega)
        have v3 := hV8 3 (by omega)
        have v4 := hV8 4 (by omega)
        have v5 := hV8 5 (by omega)
        have v6 := hV8 6 (by omega)
        have v7 := hV8 7 (by omega)
        clear hV8
        obtain ⟨B, hB⟩ : ∃ B, B = N (List Int) (List Int) (N (List Int) (List Int → List Int) blockN H) l := ⟨_, rfl⟩
        simp only [ap2, ← hB] at hnw
        rw [hnw] at hK
        rw [hK]
        cbv
        refine ⟨?_, ?_, trivial⟩
        · simp only [hq, u0, u1, u2, u3, u4, u5, u6, u7, v0, v1, v2, v3, v4, v5, v6, v7, f1, f2, f3, f4, f5, f6, f7, f8]
        · rw [hB, hV]
          cases hA; subst hN
          show blockN H l = _
          unfold blockN
          rw [eW, hR]
          rfl
      · have hn0 : n ≠ 0 := by
          intro h0
          subst hokc
          obtain ⟨h1, h2, h3⟩ := hd
          simp only at h2 h3
          cases hA
          simp [icmp] at h
          omega
        obtain ⟨n', rfl⟩ : ∃ n', n = n' + 1 := ⟨n - 1, by omega⟩
        obtain ⟨k, hk, ht, hV⟩ : ∃ k : Nat, k + n' = 63 ∧ t = (k : Int) ∧ V = o8l (rdAt R W (tup8 H) k) := by
          subst hokc
          obtain ⟨h1, h2, h3⟩ := hd
          simp only at h2 h3
          exact ⟨63 - n', by omega, by rw [h2]; congr 1; omega, by rw [h3]; congr 2; omega⟩
        obtain ⟨⟨a, b, c, d, e, f, g, hh⟩, hX⟩ : ∃ X : O8, X = rdAt R W (tup8 H) k := ⟨_, rfl⟩
        rw [← hX] at hV
        have hk' : 64 - n' = k + 1 := by omega
        have a1 : fi .add .i64 t 1 = ((k + 1 : Nat) : Int) := by cases hA; rw [ht]; exact add_nat (c := 1) (by omega) (by omega)
        have hft : fn t = k := by cases hA; rw [ht]; exact Int.toNat_natCast k
        have w1 : fl (gadd (fn t) 1) (hlen' W) = true := by
          rw [hft]; cases hA; exact decide_eq_true (by show k + 1 ≤ W.length; rw [eW, wordsN_len]; omega)
        have w2 : fl (gadd (fn t) 1) (hlen' R) = true := by
          rw [hft]; cases hA; exact decide_eq_true (by show k + 1 ≤ R.length; rw [hR]; show k + 1 ≤ 64; omega)
        have w3 : fb t 64 = true := by
          cases hA; rw [ht]
          show (decide ((0 : Int) ≤ (k : Int)) && decide ((k : Int) < ((64 : Nat) : Int))) = true
          simp only [Bool.and_eq_true, decide_eq_true_eq]
          exact ⟨Int.natCast_nonneg k, Int.ofNat_lt.2 (by omega)⟩
        have w4 : fl (gadd k 1) 64 = true := by cases hA; exact decide_eq_true (by show k + 1 ≤ 64; omega)
        have hV8 : ∀ k, k < 8 → fl (gadd k 1) (hlen' V) = true := by
          cases hA; intro k hk
          exact decide_eq_true (by show k + 1 ≤ V.length; rw [hV]; exact hk)
        have v0 := hV8 0 (by omega)
        have v1 := hV8 1 (by omega)
        have v2 := hV8 2 (by omega)
        have v3 := hV8 3 (by omega)
        have v4 := hV8 4 (by omega)
        have v5 := hV8 5 (by omega)
        have v6 := hV8 6 (by omega)
        have v7 := hV8 7 (by omega)
        clear hV8
        clear hd
        cbv
        refine ⟨?_, ?_, trivial⟩
        · rw [hokc]
          refine ⟨by omega, by rw [a1, hk'], ?_⟩
          rw [hk']
          show _ = o8l (rdStep (R.getD k 0) (W.getD k 0) (rdAt R W (tup8 H) k))
          rw [← hX, hV, hft]
          cases hA; subst hN
          simp only [apStd, rdStep, rOne, rTwo, o8l, ch_eq, maj_eq]
          simp only [std, List.getD_cons_zero, List.getD_cons_succ, ch_eq, maj_eq]
        · simp only [v0, v1, v2, v3, v4, v5, v6, v7, f1, f2, f3, f4, f5, f6, f7, f8, w1, w2, w3, w4]
    · have hn0 : n ≠ 0 := by
        intro h0
        subst hokb
        obtain ⟨h1, h2, h3⟩ := hd
        simp only at h2 h3
        cases hA
        simp [icmp] at h
        omega
      obtain ⟨n', rfl⟩ : ∃ n', n = n' + 1 := ⟨n - 1, by omega⟩
      obtain ⟨k, hk, hk2, ht, hW⟩ : ∃ k : Nat, k + n' = 63 ∧ 16 ≤ k ∧ t = (k : Int) ∧ W = wAt l k := by
        subst hokb
        obtain ⟨h1, h2, h3⟩ := hd
        simp only at h2 h3
        exact ⟨63 - n', by omega, by omega, by rw [h2]; congr 1; omega, by rw [h3]; congr 1; omega⟩
      have hl64 : W.length = 64 := by rw [hW]; exact wAt_len l k
      have hk' : 64 - n' = k + 1 := by omega
      have a1 : iop .add .i64 (k : Int) 1 = ((k + 1 : Nat) : Int) := add_nat (c := 1) (by omega) (by omega)
      have s15 : iop .sub .i64 (k : Int) 15 = ((k - 15 : Nat) : Int) := sub_nat (c := 15) (by omega) (by omega)
      have s2 : iop .sub .i64 (k : Int) 2 = ((k - 2 : Nat) : Int) := sub_nat (c := 2) (by omega) (by omega)
      have s16 : iop .sub .i64 (k : Int) 16 = ((k - 16 : Nat) : Int) := sub_nat (c := 16) (by omega) (by omega)
      have s7 : iop .sub .i64 (k : Int) 7 = ((k - 7 : Nat) : Int) := sub_nat (c := 7) (by omega) (by omega)
      have b : ∀ j : Nat, j ≤ k → (decide ((0 : Int) ≤ (j : Int)) && decide ((j : Int) < ((64 : Nat) : Int))) = true ∧ decide (j + 1 ≤ 64) = true := fun j hj => by
        simp; omega
      have hn : ¬ (k : Int) < 16 := by omega
      have b7 := b (k - 7) (by omega)
      have b16 := b (k - 16) (by omega)
      have b2 := b (k - 2) (by omega)
      have b15 := b (k - 15) (by omega)
      have b0 := b k (by omega)
      have ew : wStep l W (k : Int) = wAt l (64 - n') := by rw [hk', hW]; rfl
      have hn' : n' ≤ 48 := by omega
      clear b
      cbv
      cases hA; subst hN; subst hokb; subst ht
      refine ⟨⟨hn', by rw [a1, hk'], ?_⟩, ?_, trivial⟩
      · simp only
        rw [← ew]
        unfold wStep
        rw [if_neg hn]
        simp only [apStd]
        rw [wsum_eq]
        unfold wHi
        rfl
      · simp only [s15, s2, s16, s7, Int.toNat_natCast, hl64, b7, b16, b2, b15, b0]
        rfl
  · have hn0 : n ≠ 0 := by
      intro h0
      subst hoka
      obtain ⟨h1, h2, h3⟩ := hd
      simp only at h2 h3
      cases hA
      simp [icmp] at h
      omega
    obtain ⟨n', rfl⟩ : ∃ n', n = n' + 1 := ⟨n - 1, by omega⟩
    obtain ⟨k, hk, ht, hW⟩ : ∃ k : Nat, k + n' = 15 ∧ t = (k : Int) ∧ W = wAt l k := by
      subst hoka
      obtain ⟨h1, h2, h3⟩ := hd
      simp only at h2 h3
      exact ⟨15 - n', by omega, by rw [h2]; congr 1; omega, by rw [h3]; congr 1; omega⟩
    have hl64 : W.length = 64 := by rw [hW]; exact wAt_len l k
    have hk' : 16 - n' = k + 1 := by omega
    have a1 : iop .add .i64 (k : Int) 1 = ((k + 1 : Nat) : Int) := add_nat (c := 1) (by omega) (by omega)
    have m4 : iop .mul .i64 4 (k : Int) = ((4 * k : Nat) : Int) := mul_nat (c := 4) (by omega) (by omega)
    have p1 : iop .add .i64 ((4 * k : Nat) : Int) 1 = ((4 * k + 1 : Nat) : Int) := add_nat (c := 1) (by omega) (by omega)
    have p2 : iop .add .i64 ((4 * k : Nat) : Int) 2 = ((4 * k + 2 : Nat) : Int) := add_nat (c := 2) (by omega) (by omega)
    have p3 : iop .add .i64 ((4 * k : Nat) : Int) 3 = ((4 * k + 3 : Nat) : Int) := add_nat (c := 3) (by omega) (by omega)
    have b : ∀ j : Nat, j < 64 → (decide ((0 : Int) ≤ (j : Int)) && decide ((j : Int) < ((64 : Nat) : Int))) = true ∧ decide (j + 1 ≤ l.length) = true := fun j hj => by
      simp; omega
    have b0 := b (4 * k) (by omega)
    have b1 := b (4 * k + 1) (by omega)
    have b2 := b (4 * k + 2) (by omega)
    have b3 := b (4 * k + 3) (by omega)
    have bk : (decide ((0 : Int) ≤ (k : Int)) && decide ((k : Int) < ((64 : Nat) : Int))) = true ∧ decide (k + 1 ≤ 64) = true := by simp; omega
    have hn : (k : Int) < 16 := by omega
    have ew : wStep l W (k : Int) = wAt l (16 - n') := by rw [hk', hW]; rfl
    have hn' : n' ≤ 16 := by omega
    clear b
    cbv
    cases hA; subst hN; subst hoka; subst ht
    refine ⟨⟨hn', by rw [a1, hk'], ?_⟩, ?_, trivial⟩
    · simp only
      rw [← ew]
      unfold wStep
      rw [if_pos hn]
      unfold wLo
      rfl
    · simp only [m4, p1, p2, p3, Int.toNat_natCast, hl64, b0, b1, b2, b3, bk]
      rfl

def rblockH (A : Ar) (N : Ap) : HF := fun args h => match args, h with
  | [.row i 8, .row j 64, .row k n], [⟨.ints ki H, bi⟩, ⟨.ints kj R, bj⟩, ⟨.ints kk l, bk⟩] =>
    ⟨Nat.beq i 0 && (Nat.beq j 1 && (Nat.beq k 2 && (Nat.beq (kn ki) (kn .u32) && (Nat.beq (kn kj) (kn .u32) && (Nat.beq (kn kk) (kn .u8) && (liveK bi && (liveK bj && (liveK bk && (A.neq (A.ilen H) 8 && (ap1 N isRounds R && (A.neq n 64 && A.nle 64 (A.ilen l)))))))))))),
      .row 3 8, [], [⟨.ints .u32 (ap2 N blockN H l), .ro⟩]⟩
  | _, _ => ⟨false, .bad, [], []⟩

theorem hcon_rblock : HCon Tryd.prog [] 59 (rblockH std apStd) := by
  refine hcon_shut Tryd.func59 rfl (by kernel_rfl) (fun args h v ch nw hF m us w HT hv => ?_)
  unfold rblockH at hF
  split at hF
  · rename_i i j k n ki H bi kj R bj kk l bk
    simp only [HR.mk.injEq, Bool.and_eq_true] at hF
    obtain ⟨⟨h1, h2, h3, h4, h5, h6, h7, h8, h9, h10, h11, h12, h13⟩, rfl, rfl, rfl⟩ := hF
    have h1 : i = 0 := by simpa using h1
    have h2 : j = 1 := by simpa using h2
    have h3 : k = 2 := by simpa using h3
    have h4 := kn_eq h4
    have h5 := kn_eq h5
    have h6 := kn_eq h6
    subst h1; subst h2; subst h3; subst h4; subst h5; subst h6
    have h10 : H.length = 8 := by simpa [std] using h10
    have h11 : R = roundsL := of_decide_eq_true h11
    have h12 : n = 64 := by simpa [std] using h12
    subst h12
    have h13 : 64 ≤ l.length := by simpa [std] using h13
    refine ⟨_, [.row 0 8, .row 1 64, .row 2 64], _, goodh (base := 3) (l := [(67, rightF apStd)]) (d := []) (by intro p hp; simp at hp; subst hp; exact con_turn) (by simp), rfl, by kernel_rfl, hv, Nat.le_of_ble_eq_true rfl, ?_, rfl, by simp,
      rblock_vc std apStd (ALoop 3) H R l rfl rfl rfl h10 h11 h13 _ rfl _ rfl⟩
    exact ⟨⟨kOk_ro h7, rfl, rfl⟩, ⟨kOk_ro h8, rfl, rfl⟩, ⟨kOk_ro h9, rfl, rfl⟩, trivial⟩
  · simp at hF

end Go.Proofs.YtpnpfihjlobonaaDoor
