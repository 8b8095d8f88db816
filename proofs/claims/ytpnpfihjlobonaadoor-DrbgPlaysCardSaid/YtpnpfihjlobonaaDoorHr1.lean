/- Walks through the reference of the hmac package. It has no conditions. -/
import Derived.Test.YtpnpfihjlobonaaDoorRef7
import Derived.Test.YtpnpfihjlobonaaDoorHm1
namespace Go.Proofs.YtpnpfihjlobonaaDoor
open Go.Eng Go.RowKit
set_option maxRecDepth 1000000
set_option maxHeartbeats 4000000
set_option linter.unusedSimpArgs false
set_option linter.unusedVariables false

def pdK (key : ByteArray) (b : Int) : ByteArray := pdN (kyN key) b

def rpHd (b : Int) (l : Nat) : Nat → List Int × Int → St
  | _, (B, i) => ⟨[(2, .int .u8 b), (7, .row 2 l), (8, .int .i64 i)], [.nil, .nil, ⟨.ints .u8 B, .row 1⟩], true⟩
def rpEx (S : St) : List Int × Int := (rowL S 7, slotI S 8)

theorem rpad_rest (A : Ar) (N : Ap) (key kk : ByteArray) (b : Int) (hA : A = std) (hN : N = apStd) (hky : kk = kyN key) :
    A.nadd (A.size kk) (A.nat (A.iop .sub .i64 64 (A.ofNat (A.size kk)))) = 64 ∧ A.iapp (A.byts kk) (A.irep (A.nat (A.iop .sub .i64 64 (A.ofNat (A.size kk)))) 0) = byts kk ++ List.replicate (64 - (byts kk).length) 0 ∧
    A.icmp .leq 0 (A.iop .sub .i64 64 (A.ofNat (A.size kk))) = true ∧ A.icmp .leq (A.ofNat (A.size kk)) 9223372036854775807 = true ∧ A.neq (A.ilen (A.byts kk)) (A.size kk) = true := by
  have hkl : kk.size ≤ 64 := by rw [hky]; exact kyN_le key
  cases hA
  have q : iop .sub .i64 64 (kk.size : Int) = ((64 - kk.size : Nat) : Int) := sub_nat (k := 64) (by omega) (by omega)
  refine ⟨?_, ?_, ?_, ?_, ?_⟩
  · show kk.size + (iop .sub .i64 64 (kk.size : Int)).toNat = 64
    rw [q, Int.toNat_natCast]; omega
  · show byts kk ++ List.replicate (iop .sub .i64 64 (kk.size : Int)).toNat 0 = _
    rw [q, Int.toNat_natCast, byts_length]
  · show decide ((0 : Int) ≤ iop .sub .i64 64 (kk.size : Int)) = true
    rw [q]; exact decide_eq_true (Int.natCast_nonneg _)
  · exact decide_eq_true (by show (kk.size : Int) ≤ _; omega)
  · exact decide_eq_true (byts_length kk)

def rpOk (l : List Int) (b : Int) (n : Nat) (d : List Int × Int) : Prop := n ≤ 64 ∧ d.2 = ((64 - n : Nat) : Int) ∧ d.1 = pAt l b (64 - n)

theorem rpad_vc (A : Ar) (N : Ap) (L : LP) (H R : List Int) (key : ByteArray) (b : Int) (hL : L = ALoop 2) (hA : A = std) (hN : N = apStd) (hH : H = firstL) (hR : R = roundsL) (hk : key.size ≤ 17592186044416) (v : SV) (hv : v = .str (ap2 N pdK key b)) (K : Bool → SV → List Blk → Prop) (hK : K = FinH 2 v [] [] (uniR 2 v [] [])) :
    Shut (afun (cxh A L noJ [] [(39, withH A N)] [] dy0) Tryd.f55 [.agg [.row 0 8, .row 1 64], .str key, .int .u8 b] [⟨.ints .u32 H, .ro⟩, ⟨.ints .u32 R, .ro⟩] K) := by
  have rest := fun kk => rpad_rest A N key kk b hA hN
  obtain ⟨fi, fc, fw, fb, fn, fo, fs, fa, fe, fz, fy, ff, fl, fq, gadd, gsub, gmul, gmin, hlen', hget, hset, happ, hisub, irep, iput', rlen, rint', rbool', rstr', rset, rapp, rsub, rrep, hmkb, hbyts⟩ := A
  simp only at rest
  have hNF : N (List Int) Bool isFirst H = true := by subst hN; exact decide_eq_true hH
  have hNR : N (List Int) Bool isRounds R = true := by subst hN; exact decide_eq_true hR
  have kmx : fc .leq (fo (fz key)) 9223372036854775807 = true := by cases hA; exact decide_eq_true (by show (key.size : Int) ≤ _; omega)
  have kbig : fl (fz key) 35184372088832 = true := by cases hA; exact decide_eq_true (by show key.size ≤ _; omega)
  have g1 : fl (gmul 64 1) 140737488355328 = true := by cases hA; rfl
  have loop : ∀ (kk : ByteArray), kk = kyN key → ∀ (l0 : List Int), l0 = byts kk ++ List.replicate (64 - (byts kk).length) 0 → l0.length = 64 ∧ pdK key b = mkb (pAt l0 b 64) := fun kk hky l0 hl0 => by
    have hkl : kk.size ≤ 64 := by rw [hky]; exact kyN_le key
    have h64 : l0.length = 64 := by rw [hl0, List.length_append, List.length_replicate, byts_length]; omega
    refine ⟨h64, ?_⟩
    unfold pdK
    rw [← hky]
    unfold pdN padL pAt
    rw [List.take_of_length_le (by omega), List.drop_of_length_le (by omega), List.append_nil, hl0]
  apply Shut.mk
  cbv
  cases h : fc .gtr (fo (fz key)) 64 <;> cbv
  · obtain ⟨kk, hkk⟩ : ∃ kk, kk = key := ⟨_, rfl⟩
    have hky : kk = kyN key := by
      rw [hkk]
      cases hA
      have h : ¬ ((key.size : Int) > 64) := of_decide_eq_false h
      unfold kyN
      rw [if_neg (by omega)]
    obtain ⟨r1, r2, r3, r4, r5⟩ := rest kk hky
    simp (maxSteps := 10000000) only [← hkk]
    obtain ⟨l0, hl0⟩ : ∃ l0, l0 = byts kk ++ List.replicate (64 - (byts kk).length) 0 := ⟨_, rfl⟩
    rw [← hl0] at r2
    obtain ⟨h64, hpd⟩ := loop kk hky l0 hl0
    simp (maxSteps := 10000000) only [r1, r2]
    obtain ⟨ok, hok⟩ : ∃ f, f = rpOk l0 b := ⟨_, rfl⟩
    refine lp_ex hL 64 rpEx (rpHd b 64) ok ?_ ?_ hL (.inr rfl)
    · cbv
      refine ⟨?_, ?_, trivial⟩
      · rw [hok]
        exact ⟨Nat.le_refl _, rfl, rfl⟩
      · subst hkk
        simp (maxSteps := 10000000) only [r1, r3, r4, r5, g1, kmx, hNF, hNR, kbig]
    intro n hn d hd
    obtain ⟨B, i⟩ := d
    obtain ⟨j, hj, hi, hB⟩ : ∃ j : Nat, j + n = 64 ∧ i = (j : Int) ∧ B = pAt l0 b j := by
      rw [hok] at hd
      obtain ⟨h1, h2, h3⟩ := hd
      simp only at h2 h3
      exact ⟨64 - n, by omega, h2, h3⟩
    have hB64 : B.length = 64 := by rw [hB, pAt_len, h64]
    cbv
    cases h5 : fc .lss i 64 <;> cbv
    · have hj64 : j = 64 := by
        cases hA
        rw [hi] at h5
        have h5 : ¬ ((j : Int) < 64) := of_decide_eq_false h5
        omega
      have k1 : fl (gadd 0 64) (hlen' B) = true := by cases hA; exact decide_eq_true (by show 0 + 64 ≤ B.length; omega)
      refine finH0 hK ?_ (by rw [hv]; exact rfl) ?_
      · cbv
        simp only [k1]
      · rw [hv]
        cbv
        cases hA; subst hN
        show pdK key b = mkb ((B.drop 0).take 64)
        rw [List.drop_zero, List.take_of_length_le (by omega), hB, hj64, hpd]
    · have hn0 : n ≠ 0 := by
        intro h0
        cases hA
        rw [hi] at h5
        have h5 : (j : Int) < 64 := of_decide_eq_true h5
        omega
      obtain ⟨n', rfl⟩ : ∃ n', n = n' + 1 := ⟨n - 1, by omega⟩
      have a1 : fi .add .i64 i 1 = ((j + 1 : Nat) : Int) := by cases hA; rw [hi]; exact add_nat (c := 1) (by omega) (by omega)
      have hfi : fn i = j := by cases hA; rw [hi]; exact Int.toNat_natCast j
      have k1 : fb i 64 = true := by
        cases hA; rw [hi]
        show (decide ((0 : Int) ≤ (j : Int)) && decide ((j : Int) < ((64 : Nat) : Int))) = true
        simp only [Bool.and_eq_true, decide_eq_true_eq]
        exact ⟨Int.natCast_nonneg j, Int.ofNat_lt.2 (by omega)⟩
      have k2 : fl (gadd (fn i) 1) (hlen' B) = true := by rw [hfi]; cases hA; exact decide_eq_true (by show j + 1 ≤ B.length; omega)
      cbv
      refine ⟨?_, ?_, trivial⟩
      · rw [hok, a1, hfi]
        have hjn : 64 - n' = j + 1 := by omega
        refine ⟨by omega, by rw [hjn], ?_⟩
        rw [hjn, ← pAt_step (by omega), ← hB]
        cases hA
        rfl
      · simp only [k1, k2]
  · obtain ⟨kk, hkk⟩ : ∃ kk, kk = N ByteArray ByteArray sumP key := ⟨_, rfl⟩
    have hky : kk = kyN key := by
      rw [hkk]
      cases hA; subst hN
      have h : ((key.size : Int) > 64) := of_decide_eq_true h
      unfold kyN
      rw [if_pos (by omega), sumN_P]
      simp only [apStd]
    obtain ⟨r1, r2, r3, r4, r5⟩ := rest kk hky
    simp (maxSteps := 10000000) only [← hkk]
    obtain ⟨l0, hl0⟩ : ∃ l0, l0 = byts kk ++ List.replicate (64 - (byts kk).length) 0 := ⟨_, rfl⟩
    rw [← hl0] at r2
    obtain ⟨h64, hpd⟩ := loop kk hky l0 hl0
    simp (maxSteps := 10000000) only [r1, r2]
    obtain ⟨ok, hok⟩ : ∃ f, f = rpOk l0 b := ⟨_, rfl⟩
    refine lp_ex hL 64 rpEx (rpHd b 64) ok ?_ ?_ hL (.inr rfl)
    · cbv
      refine ⟨?_, ?_, trivial⟩
      · rw [hok]
        exact ⟨Nat.le_refl _, rfl, rfl⟩
      · subst hkk
        simp (maxSteps := 10000000) only [r1, r3, r4, r5, g1, kmx, hNF, hNR, kbig]
    intro n hn d hd
    obtain ⟨B, i⟩ := d
    obtain ⟨j, hj, hi, hB⟩ : ∃ j : Nat, j + n = 64 ∧ i = (j : Int) ∧ B = pAt l0 b j := by
      rw [hok] at hd
      obtain ⟨h1, h2, h3⟩ := hd
      simp only at h2 h3
      exact ⟨64 - n, by omega, h2, h3⟩
    have hB64 : B.length = 64 := by rw [hB, pAt_len, h64]
    cbv
    cases h5 : fc .lss i 64 <;> cbv
    · have hj64 : j = 64 := by
        cases hA
        rw [hi] at h5
        have h5 : ¬ ((j : Int) < 64) := of_decide_eq_false h5
        omega
      have k1 : fl (gadd 0 64) (hlen' B) = true := by cases hA; exact decide_eq_true (by show 0 + 64 ≤ B.length; omega)
      refine finH0 hK ?_ (by rw [hv]; exact rfl) ?_
      · cbv
        simp only [k1]
      · rw [hv]
        cbv
        cases hA; subst hN
        show pdK key b = mkb ((B.drop 0).take 64)
        rw [List.drop_zero, List.take_of_length_le (by omega), hB, hj64, hpd]
    · have hn0 : n ≠ 0 := by
        intro h0
        cases hA
        rw [hi] at h5
        have h5 : (j : Int) < 64 := of_decide_eq_true h5
        omega
      obtain ⟨n', rfl⟩ : ∃ n', n = n' + 1 := ⟨n - 1, by omega⟩
      have a1 : fi .add .i64 i 1 = ((j + 1 : Nat) : Int) := by cases hA; rw [hi]; exact add_nat (c := 1) (by omega) (by omega)
      have hfi : fn i = j := by cases hA; rw [hi]; exact Int.toNat_natCast j
      have k1 : fb i 64 = true := by
        cases hA; rw [hi]
        show (decide ((0 : Int) ≤ (j : Int)) && decide ((j : Int) < ((64 : Nat) : Int))) = true
        simp only [Bool.and_eq_true, decide_eq_true_eq]
        exact ⟨Int.natCast_nonneg j, Int.ofNat_lt.2 (by omega)⟩
      have k2 : fl (gadd (fn i) 1) (hlen' B) = true := by rw [hfi]; cases hA; exact decide_eq_true (by show j + 1 ≤ B.length; omega)
      cbv
      refine ⟨?_, ?_, trivial⟩
      · rw [hok, a1, hfi]
        have hjn : 64 - n' = j + 1 := by omega
        refine ⟨by omega, by rw [hjn], ?_⟩
        rw [hjn, ← pAt_step (by omega), ← hB]
        cases hA
        rfl
      · simp only [k1, k2]

def rpadH (A : Ar) (N : Ap) : HF := fun args h => match args, h with
  | [.agg [.row i 8, .row j 64], .str key, x], [⟨.ints ki H, bi⟩, ⟨.ints kj R, bj⟩] => match SV.u8 x with
    | some b => ⟨Nat.beq i 0 && (Nat.beq j 1 && (Nat.beq (kn ki) (kn .u32) && (Nat.beq (kn kj) (kn .u32) && (liveK bi && (liveK bj && (ap1 N isFirst H && (ap1 N isRounds R && A.nle (A.size key) 17592186044416))))))), .str (ap2 N pdK key b), [], []⟩
    | none => ⟨false, .bad, [], []⟩
  | _, _ => ⟨false, .bad, [], []⟩

theorem hcon_rpad : HCon Tryd.prog [] 55 (rpadH std apStd) := by
  refine hcon_shut Tryd.func55 rfl (by kernel_rfl) (fun args h v ch nw hF m us w HT hv => ?_)
  unfold rpadH at hF
  split at hF
  · rename_i i j key x ki H bi kj R bj
    split at hF
    · rename_i b hx
      simp only [HR.mk.injEq, Bool.and_eq_true] at hF
      obtain ⟨⟨h1, h2, h3, h4, h5, h6, h7, h8, h9⟩, rfl, rfl, rfl⟩ := hF
      have h1 : i = 0 := by simpa using h1
      have h2 : j = 1 := by simpa using h2
      have h3 := kn_eq h3
      have h4 := kn_eq h4
      subst h1; subst h2; subst h3; subst h4
      have h7 : H = firstL := of_decide_eq_true h7
      have h8 : R = roundsL := of_decide_eq_true h8
      have h9 : key.size ≤ 17592186044416 := by simpa [std] using h9
      have hv' : SV.vals m [.agg [.row 0 8, .row 1 64], .str key, .int .u8 b] = some us := by
        simp only [SV.vals, Option.bind_eq_some_iff, Option.map_eq_some_iff] at hv ⊢
        obtain ⟨u, hu, r, ⟨u2, hu2, r2, ⟨u3, hu3, r3, hr3, rfl⟩, rfl⟩, rfl⟩ := hv
        exact ⟨u, hu, _, ⟨u2, hu2, _, ⟨u3, (u8_of hx hu3).1, r3, hr3, rfl⟩, rfl⟩, rfl⟩
      refine ⟨_, [.agg [.row 0 8, .row 1 64], .str key, .int .u8 b], _, goodh (base := 2) (l := []) (d := [(39, withH std apStd)]) (by simp) (by intro p hp; simp at hp; subst hp; exact hcon_with), rfl, by kernel_rfl, hv', Nat.le_of_ble_eq_true rfl, ?_, rfl, by simp,
        rpad_vc std apStd (ALoop 2) H R key b rfl rfl rfl h7 h8 h9 _ rfl _ rfl⟩
      exact ⟨⟨kOk_ro h5, rfl, rfl⟩, ⟨kOk_ro h6, rfl, rfl⟩, trivial⟩
    · simp at hF
  · simp at hF

end Go.Proofs.YtpnpfihjlobonaaDoor
