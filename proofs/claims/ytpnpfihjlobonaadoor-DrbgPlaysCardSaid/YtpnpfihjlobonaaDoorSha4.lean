/- Walks through the functions of the sha package: bytes are taken. It has no conditions. -/
import Derived.Test.YtpnpfihjlobonaaDoorSha3
namespace Go.Proofs.YtpnpfihjlobonaaDoor
open Go.Eng Go.RowKit
set_option maxRecDepth 1000000
set_option maxHeartbeats 4000000
set_option linter.unusedSimpArgs false
set_option linter.unusedVariables false

/-! Block after block. -/

def eatN : Nat → List Int → List Int → List Int × List Int
  | 0, H, L => (H, L)
  | k + 1, H, L => if 64 ≤ L.length then eatN k (blockN H L) (L.drop 64) else (H, L)
def eatH (H L : List Int) : List Int := (eatN (L.length / 64) H L).1
def eatR (L : List Int) : List Int := L.drop (L.length / 64 * 64)

theorem add8_len (H : List Int) (x : O8) : (add8 H x).length = 8 := by
  obtain ⟨a, b, c, d, e, f, g, h⟩ := x; rfl
theorem blockN_len (H l : List Int) : (blockN H l).length = 8 := add8_len _ _

theorem eat_step {L : List Int} (h : 64 ≤ L.length) (H : List Int) : eatH H L = eatH (blockN H L) (L.drop 64) ∧ eatR L = eatR (L.drop 64) := by
  have hk : L.length / 64 = (L.drop 64).length / 64 + 1 := by rw [List.length_drop]; omega
  constructor
  · unfold eatH
    rw [hk]
    show (if 64 ≤ L.length then _ else _ : List Int × List Int).1 = _
    rw [if_pos h]
  · unfold eatR
    rw [hk, List.drop_drop]
    congr 1; omega

theorem eat_end {L : List Int} (h : ¬ 64 ≤ L.length) (H : List Int) : eatH H L = H ∧ eatR L = L := by
  have hk : L.length / 64 = 0 := by omega
  constructor
  · unfold eatH; rw [hk]; rfl
  · unfold eatR; rw [hk]; simp

theorem eatN_len : ∀ (k : Nat) (H L : List Int), H.length = 8 → (eatN k H L).1.length = 8
  | 0, H, L, h => h
  | k + 1, H, L, h => by
    unfold eatN
    split
    · exact eatN_len k _ _ (blockN_len _ _)
    · exact h
theorem eatH_len {H : List Int} (h : H.length = 8) (L : List Int) : (eatH H L).length = 8 := eatN_len _ _ _ h
theorem eatR_len (L : List Int) : (eatR L).length < 64 := by unfold eatR; rw [List.length_drop]; omega

def exSt (S : St) : List Int × List Int × Nat := match (blkAt S.h 2).c with
  | .cat _ (.ints _ H) (.lit (.row w len :: _)) => (H, cellL S w, len)
  | _ => ([], [], 0)

def wrHd (R : List Int) (n : Int) : List Int × List Int × Nat → St
  | (H, l, len) => ⟨[(0, .ptr 2 0)], [.nil, ⟨.ints .u32 R, .ro⟩, ⟨.cat 8 (.ints .u32 H) (.lit [.row 4 len, .int .u64 n]), .var⟩, .nil, ⟨.ints .u8 l, .ro⟩], true⟩
def wrOk (X Y : List Int) (d : List Int × List Int × Nat) : Prop := d.2.2 = d.2.1.length ∧ d.1.length = 8 ∧ d.2.1.length ≤ 70368744177664 ∧ X = eatH d.1 d.2.1 ∧ Y = eatR d.2.1

theorem write_vc (A : Ar) (N : Ap) (L : LP) (R H l : List Int) (wl : Nat) (n : Int) (t : ByteArray) (hL : L = ALoop 4) (hA : A = std) (hN : N = apStd) (hR : R = roundsL) (hH : H.length = 8) (hwl : wl = l.length) (hlt : l.length + t.size ≤ 70368744177664)
    (ch : List (Option Blk)) (nw : List Blk) (hch : ch = [none, none, some ⟨.cat 8 (.ints .u32 (ap2 N eatH H (A.iapp l (A.byts t)))) (.lit [.row 4 (A.ilen (ap1 N eatR (A.iapp l (A.byts t)))), .int .u64 (A.iop .add .u64 n (A.wrap .u64 (A.ofNat (A.size t))))]), .var⟩])
    (hnw : nw = [⟨.ints .u8 (ap1 N eatR (A.iapp l (A.byts t))), .ro⟩]) (K : Bool → SV → List Blk → Prop) (hK : K = FinH 4 (.tup []) ch nw (uniR 4 (.tup []) ch nw)) :
    Shut (afun (cxg A L [] [(64, blockH A N)]) Tryd.f51 [.ptr 2 0, .str t]
      [.nil, ⟨.ints .u32 R, .ro⟩, ⟨.cat 8 (.ints .u32 H) (.lit [.row 3 wl, .int .u64 n]), .var⟩, ⟨.ints .u8 l, .ro⟩] K) := by
  have hA' := hA
  obtain ⟨X, hX⟩ : ∃ X, X = ap2 N eatH H (A.iapp l (A.byts t)) := ⟨_, rfl⟩
  obtain ⟨Y, hY⟩ : ∃ Y, Y = ap1 N eatR (A.iapp l (A.byts t)) := ⟨_, rfl⟩
  obtain ⟨n', hn'⟩ : ∃ n', n' = A.iop .add .u64 n (A.wrap .u64 (A.ofNat (A.size t))) := ⟨_, rfl⟩
  obtain ⟨L0, hL0⟩ : ∃ L0, L0 = A.iapp l (A.byts t) := ⟨_, rfl⟩
  rw [← hX, ← hY, ← hn'] at hch
  rw [← hY] at hnw
  have hb : (byts t).length = t.size := byts_length t
  have hX' : X = eatH H L0 := by rw [hX, hL0]; subst hN; rfl
  have hY' : Y = eatR L0 := by rw [hY, hL0]; subst hN; rfl
  have hl0 : L0.length = l.length + t.size := by rw [hL0]; cases hA; show (l ++ byts t).length = _; rw [List.length_append, hb]
  have hsub : A.isub l 0 wl = l := by cases hA; rw [hwl]; simp [std]
  have hnf : ∀ x, A.nat (A.ofNat x) = x := by cases hA; intro x; rfl
  have hle : ∀ a b : Nat, a ≤ b → A.nle a b = true := by cases hA; intro a b h; simpa [std] using h
  have hadd : ∀ a b : Nat, A.nadd a b = a + b := by cases hA; intro a b; rfl
  have hmul : ∀ a b : Nat, A.nmul a b = a * b := by cases hA; intro a b; rfl
  have hieq : ∀ a : Nat, A.neq a a = true := by cases hA; intro a; simp [std]
  have hi0 : ∀ x : Nat, A.icmp .leq 0 (A.ofNat x) = true := by cases hA; intro x; simp [std, icmp]
  have him : ∀ x : Nat, x ≤ 70368744177664 → A.icmp .leq (A.ofNat x) 9223372036854775807 = true := by cases hA; intro x hx; simp [std, icmp]; omega
  have hil : ∀ x : List Int, A.ilen x = x.length := by cases hA; intro x; rfl
  have hge : ∀ x : Nat, A.icmp .geq (A.ofNat x) 64 = decide (64 ≤ x) := by
    cases hA; intro x
    simp only [std, icmp]
    congr 1
    apply propext
    show (64 : Int) ≤ (x : Int) ↔ _
    omega
  have hns : ∀ a b : Nat, A.nsub a b = a - b := by cases hA; intro a b; rfl
  have hd64 : ∀ x : List Int, A.isub x 64 (x.length - 64) = x.drop 64 := by
    cases hA; intro x
    show ((x.drop 64).take (x.length - 64)) = _
    rw [List.take_of_length_le (by rw [List.length_drop]; exact Nat.le_refl _)]
  have hbl : ∀ H l : List Int, N (List Int) (List Int) (N (List Int) (List Int → List Int) blockN H) l = blockN H l := by subst hN; intro H l; rfl
  have hRo : N (List Int) Bool isRounds R = true := by subst hN; exact decide_eq_true hR
  have i1 := hi0 wl
  have i2 := him wl (by omega)
  have i3 : A.nle (A.nadd 0 wl) (A.ilen l) = true := by rw [hadd, hil]; exact hle _ _ (by omega)
  have i4 := hnf wl
  have i5 := hle wl wl (Nat.le_refl _)
  have i6 := him t.size (by omega)
  have i7 : A.size t = t.size := by cases hA; rfl
  have i8 : A.neq (A.ilen l) wl = true := by rw [hil, ← hwl]; exact hieq _
  have i8' := hieq wl
  have i9 : A.nle (A.nmul (A.nadd wl (A.size t)) 1) 140737488355328 = true := by rw [hadd, hmul, i7]; exact hle _ _ (by omega)
  have i10 : A.nadd wl (A.size t) = l.length + t.size := by rw [hadd, i7, hwl]
  rw [← i7] at i6
  obtain ⟨fi, fc, fw, fb, fn, fo, fs, fa, fe, fz, fy, ff, fl, fq, gadd, gsub, gmul, gmin, hlen', hget, hset, happ, hisub, irep, iput', rlen, rint', rbool', rstr', rset, rapp, rsub, rrep, hmkb, hbyts⟩ := A
  dsimp only at *
  obtain ⟨ok, hok⟩ : ∃ f, f = wrOk X Y := ⟨_, rfl⟩
  apply Shut.mk
  cbv
  simp only [i1, i2, i3, i4, i5, i6, i8, i8', i9, hsub]
  cbv
  obtain ⟨μ, hμ⟩ : ∃ f : List Int × List Int × Nat → Nat, f = fun d => d.2.1.length := ⟨_, rfl⟩
  refine lp_mu hL exSt (wrHd R n') ok μ ?_ ?_ hL (.inr rfl)
  · cbv
    simp only [i8, ← hL0, i10, ← hn']
    subst hok
    exact ⟨⟨hl0.symm, hH, by rw [hl0]; exact hlt, hX', hY'⟩, ⟨trivial, trivial⟩, trivial⟩
  rintro ⟨H1, l1, len⟩ hd
  have hd' := hd
  rw [hok] at hd'
  obtain ⟨d1, d2, d3, d4, d5⟩ := hd'
  simp only at d1 d2 d3 d4 d5
  have j1 := hi0 len
  have j2 := him len (by omega)
  have j3 := hge len
  by_cases h64 : 64 ≤ len
  · rw [decide_eq_true h64] at j3
    have j4 := hle 64 len h64
    have j5 := hle 64 64 (Nat.le_refl _)
    have j6 : fl 64 (hlen' l1) = true := by rw [hil]; exact hle _ _ (by omega)
    have j7 : fq (hlen' H1) 8 = true := by rw [hil, d2]; exact hieq _
    have j8 := hle len len (Nat.le_refl _)
    have j9 : fl (gadd 64 (gsub len 64)) (hlen' l1) = true := by rw [hil, hadd, hns]; exact hle _ _ (by omega)
    have j10 : hisub l1 64 (gsub len 64) = l1.drop 64 := by rw [hns, d1]; exact hd64 l1
    have j11 : gsub len 64 = len - 64 := hns len 64
    have j12 := hbl H1 l1
    cbv
    simp only [j1, j2, j3, j4, j5, j6, j7, j8, j9, j10, hRo]
    cbv
    simp only [j1, j2, j3, j4, j5, j6, j7, j8, j9, j10, hRo]
    rw [j12, j11, hok, hμ]
    obtain ⟨e1, e2⟩ := eat_step (show 64 ≤ l1.length by omega) H1
    refine ⟨?_, ⟨?_, blockN_len _ _, ?_, by rw [d4, e1], by rw [d5, e2]⟩, trivial, trivial⟩
    · show (l1.drop 64).length + 1 ≤ l1.length
      rw [List.length_drop]; omega
    · show len - 64 = (l1.drop 64).length
      rw [List.length_drop]; omega
    · show (l1.drop 64).length ≤ _
      rw [List.length_drop]; omega
  · rw [decide_eq_false h64] at j3
    cbv
    simp only [j1, j2, j3]
    rw [hch, hnw] at hK
    rw [hK]
    cbv
    obtain ⟨e1, e2⟩ := eat_end (show ¬ 64 ≤ l1.length by omega) H1
    refine ⟨⟨by rw [d4, e1], by rw [hil, d5, e2, d1], trivial⟩, by rw [d5, e2], trivial⟩

/-! The contract. -/

def writeH (A : Ar) (N : Ap) : HF := fun args h => match args, h with
  | [.ptr id 0, .str t], [_, ⟨.ints kr R, br⟩, ⟨st, .var⟩, ⟨.ints k l, bk⟩] => match stOf st with
    | some (H, .row id2 wl, nv) => match nv.u64 with
      | some n => ⟨Nat.beq id 2 && (Nat.beq id2 3 && (Nat.beq (kn k) (kn .u8) && (Nat.beq (kn kr) (kn .u32) && (A.neq wl (A.ilen l) && (A.nle (A.nadd (A.ilen l) (A.size t)) 70368744177664 && (liveK bk && (liveK br && (ap1 N isRounds R && A.neq (A.ilen H) 8)))))))),
        .tup [], [none, none, some ⟨.cat 8 (.ints .u32 (ap2 N eatH H (A.iapp l (A.byts t)))) (.lit [.row 4 (A.ilen (ap1 N eatR (A.iapp l (A.byts t)))), .int .u64 (A.iop .add .u64 n (A.wrap .u64 (A.ofNat (A.size t))))]), .var⟩],
          [⟨.ints .u8 (ap1 N eatR (A.iapp l (A.byts t))), .ro⟩]⟩
      | none => ⟨false, .bad, [], []⟩
    | _ => ⟨false, .bad, [], []⟩
  | _, _ => ⟨false, .bad, [], []⟩

theorem stOf_cat {st : Cs} {H : List Int} {w n : SV} (h : stOf st = some (H, w, n)) {ρ : List RE} {w' n' : SV} (hw : w'.sb ρ w) (hn : n'.sb ρ n) :
    (Cs.cat 8 (.ints .u32 H) (.lit [w', n'])).sb ρ st := by
  unfold stOf at h
  split at h
  · simp only [Option.some.injEq, Prod.mk.injEq] at h
    obtain ⟨rfl, rfl, rfl⟩ := h
    exact ⟨rfl, ⟨rfl, rfl⟩, ⟨hw, hn, trivial⟩⟩
  · rename_i a b c d e f g i w' n'
    split at h
    · rename_i xs hxs
      simp only [Option.some.injEq, Prod.mk.injEq] at h
      obtain ⟨rfl, rfl, rfl⟩ := h
      refine ⟨rfl, ?_, ⟨hw, hn, trivial⟩⟩
      show (match asInts .u32 [a, b, c, d, e, f, g, i] with | some xs' => xs = xs' | none => False)
      rw [hxs]
    · cases h
  · cases h

theorem u64_sb {v : SV} {n : Int} (h : v.u64 = some n) {ρ : List RE} : (SV.int .u64 n).sb ρ v := by
  unfold SV.u64 at h
  split at h
  · cases h; exact ⟨rfl, rfl⟩
  · cases h; exact ⟨rfl, rfl⟩
  · cases h

theorem hcon_write : HCon Tryd.prog [0, 1] 51 (writeH std apStd) := by
  refine hcon_shut Tryd.func51 rfl (by kernel_rfl) (fun args h v ch nw hF m us w H hv => ?_)
  unfold writeH at hF
  split at hF
  · rename_i id t b0 kr R br st k l bk
    split at hF
    · rename_i Hs id2 wl nv hst
      split at hF
      · rename_i n hn
        simp only [HR.mk.injEq, Bool.and_eq_true] at hF
        obtain ⟨⟨h1, h2, h3, h4, h5, h6, h7, h8, h9, h10⟩, rfl, rfl, rfl⟩ := hF
        have h1 : id = 2 := by simpa using h1
        have h2 : id2 = 3 := by simpa using h2
        subst h1; subst h2
        have h3 := kn_eq h3
        have h4 := kn_eq h4
        subst h3; subst h4
        have h5 : wl = l.length := by simpa [std] using h5
        have h6 : l.length + t.size ≤ 70368744177664 := by simpa [std] using h6
        have h9 : R = roundsL := of_decide_eq_true h9
        have h10 : Hs.length = 8 := by simpa [std] using h10
        refine ⟨_, [.ptr 2 0, .str t], _, goodg (base := 4) (l := []) (d := [(64, blockH std apStd)]) dy0 (by decide) (by simp) (by intro p hp; simp at hp; subst hp; exact hcon_block),
          rfl, by kernel_rfl, hv, Nat.le_of_ble_eq_true rfl, ?_, ?_, by simp,
          write_vc std apStd (ALoop 4) R Hs l wl n t rfl rfl rfl h9 h10 h5 h6 _ _ rfl rfl _ rfl⟩
        · exact ⟨trivial, ⟨kOk_ro h8, rfl, rfl⟩, ⟨rfl, stOf_cat hst ⟨rfl, rfl⟩ (u64_sb hn)⟩, ⟨kOk_ro h7, rfl, rfl⟩, trivial⟩
        · rfl
      · simp at hF
    · simp at hF
  · simp at hF

end Go.Proofs.YtpnpfihjlobonaaDoor
