/- Walks through the hmac package: the sum of a text by a key, so many bytes of a key. It has no conditions. -/
import Derived.Test.YtpnpfihjlobonaaDoorHm2
namespace Go.Proofs.YtpnpfihjlobonaaDoor
open Go.Eng Go.RowKit
set_option maxRecDepth 1000000
set_option maxHeartbeats 4000000
set_option linter.unusedSimpArgs false
set_option linter.unusedVariables false

def macH (A : Ar) (N : Ap) : HF := fun args h => match args, h with
  | [.str key, .str s], [⟨.ints kf F, bf⟩, ⟨.ints kr R, br⟩] => ⟨Nat.beq (kn kf) (kn .u32) && (Nat.beq (kn kr) (kn .u32) && (liveK bf && (liveK br && (ap1 N isFirst F && (ap1 N isRounds R && (A.nle (A.size key) 17592186044416 && A.nle (A.size s) 17592186044416)))))),
      .str (ap2 N macN key s), [], []⟩
  | _, _ => ⟨false, .bad, [], []⟩

/-- What the steps of a walk by a key ask. -/
theorem key8 {N : Ap} (hN : N = apStd) (key : ByteArray) (b : Int) : [N (List Int) Int (N Nat (List Int → Int) gi 0) (N Int (List Int) (N ByteArray (Int → List Int) kH key) b), N (List Int) Int (N Nat (List Int → Int) gi 1) (N Int (List Int) (N ByteArray (Int → List Int) kH key) b),
    N (List Int) Int (N Nat (List Int → Int) gi 2) (N Int (List Int) (N ByteArray (Int → List Int) kH key) b), N (List Int) Int (N Nat (List Int → Int) gi 3) (N Int (List Int) (N ByteArray (Int → List Int) kH key) b),
    N (List Int) Int (N Nat (List Int → Int) gi 4) (N Int (List Int) (N ByteArray (Int → List Int) kH key) b), N (List Int) Int (N Nat (List Int → Int) gi 5) (N Int (List Int) (N ByteArray (Int → List Int) kH key) b),
    N (List Int) Int (N Nat (List Int → Int) gi 6) (N Int (List Int) (N ByteArray (Int → List Int) kH key) b), N (List Int) Int (N Nat (List Int → Int) gi 7) (N Int (List Int) (N ByteArray (Int → List Int) kH key) b)] = N Int (List Int) (N ByteArray (Int → List Int) kH key) b := by
  subst hN
  exact list8 (kH_len key b)

theorem mac_two {N : Ap} (hN : N = apStd) (key s : ByteArray) : N ByteArray ByteArray (N (List Int) (ByteArray → ByteArray) stS (N Int (List Int) (N ByteArray (Int → List Int) kH key) 92)) (N ByteArray ByteArray (N (List Int) (ByteArray → ByteArray) stS (N Int (List Int) (N ByteArray (Int → List Int) kH key) 54)) s) = N ByteArray ByteArray (N ByteArray (ByteArray → ByteArray) macN key) s := by
  subst hN
  simp only [apStd]
  rfl

theorem mac_vc (A : Ar) (N : Ap) (L : LP) (F R : List Int) (key s : ByteArray) (hA : A = std) (hN : N = apStd) (hF : F = firstL) (hR : R = roundsL) (hk : A.nle (A.size key) 17592186044416 = true) (hs : A.nle (A.size s) 17592186044416 = true) (v : SV) (hv : v = .str (ap2 N macN key s))
    (K : Bool → SV → List Blk → Prop) (hK : K = FinH 2 v [] [] (uniR 2 v [] [])) :
    Shut (afun (cxg A L [] [(35, hnewH A N), (36, ksumH A N)]) Tryd.f13 [.str key, .str s] [⟨.ints .u32 F, .ro⟩, ⟨.ints .u32 R, .ro⟩] K) := by
  obtain ⟨fi, fc, fw, fb, fn, fo, fs, fa, fe, fz, fy, ff, fl, fq, gadd, gsub, gmul, gmin, hlen', hget, hset, happ, hisub, irep, iput', rlen, rint', rbool', rstr', rset, rapp, rsub, rrep, hmkb, hbyts⟩ := A
  simp only at hk hs
  have hNF : N (List Int) Bool isFirst F = true := by subst hN; exact decide_eq_true hF
  have hNR : N (List Int) Bool isRounds R = true := by subst hN; exact decide_eq_true hR
  have k54 := key8 hN key 54
  have k92 := key8 hN key 92
  have km := mac_two hN key s
  have l0 : fq (hlen' []) 0 = true := by cases hA; rfl
  have l64 : fc .eql 64 64 = true := by cases hA; rfl
  apply Shut.mk
  cbv
  simp (maxSteps := 10000000) only [k54, k92, km]
  refine finH0 hK ?_ (by rw [hv]; exact rfl) ?_
  · rw [Bool.and_eq_true]
    refine ⟨by cbv, ?_⟩
    simp (maxSteps := 10000000) only [hNF, hNR, l0, l64, hk, hs]
  · rw [hv]
    cbv

theorem hcon_mac : HCon Tryd.prog [0, 1] 13 (macH std apStd) := by
  refine hcon_shut Tryd.func13 rfl (by kernel_rfl) (fun args h v ch nw hF m us w H hv => ?_)
  unfold macH at hF
  split at hF
  · rename_i key s kf F bf kr R br
    simp only [HR.mk.injEq, Bool.and_eq_true] at hF
    obtain ⟨⟨h1, h2, h3, h4, h5, h6, h7, h8⟩, rfl, rfl, rfl⟩ := hF
    have h1 := kn_eq h1
    have h2 := kn_eq h2
    subst h1; subst h2
    have h5 : F = firstL := of_decide_eq_true h5
    have h6 : R = roundsL := of_decide_eq_true h6
    refine ⟨_, [.str key, .str s], _, goodg (base := 2) (l := []) (d := [(35, hnewH std apStd), (36, ksumH std apStd)]) dy0 (by decide) (by simp) (by intro p hp; simp at hp; rcases hp with rfl | rfl; exact hcon_hnew; exact hcon_ksum),
      rfl, by kernel_rfl, hv, Nat.le_of_ble_eq_true rfl, ?_, ?_, by simp,
      mac_vc std apStd (ALoop 2) F R key s rfl rfl h5 h6 h7 h8 _ rfl _ rfl⟩
    · exact ⟨⟨kOk_ro h3, rfl, rfl⟩, ⟨kOk_ro h4, rfl, rfl⟩, trivial⟩
    · rfl
  · simp at hF

theorem ext_vc (A : Ar) (N : Ap) (L : LP) (F R : List Int) (key s : ByteArray) (hA : A = std) (hN : N = apStd) (hF : F = firstL) (hR : R = roundsL) (hk : A.nle (A.size key) 17592186044416 = true) (hs : A.nle (A.size s) 17592186044416 = true) (v : SV) (hv : v = .str (ap2 N macN key s))
    (K : Bool → SV → List Blk → Prop) (hK : K = FinH 2 v [] [] (uniR 2 v [] [])) :
    Shut (afun (cxg A L [] [(13, macH A N)]) Tryd.f15 [.str key, .str s] [⟨.ints .u32 F, .ro⟩, ⟨.ints .u32 R, .ro⟩] K) := by
  obtain ⟨fi, fc, fw, fb, fn, fo, fs, fa, fe, fz, fy, ff, fl, fq, gadd, gsub, gmul, gmin, hlen', hget, hset, happ, hisub, irep, iput', rlen, rint', rbool', rstr', rset, rapp, rsub, rrep, hmkb, hbyts⟩ := A
  simp only at hk hs
  have hNF : N (List Int) Bool isFirst F = true := by subst hN; exact decide_eq_true hF
  have hNR : N (List Int) Bool isRounds R = true := by subst hN; exact decide_eq_true hR
  apply Shut.mk
  cbv
  refine finH0 hK ?_ (by rw [hv]; exact rfl) ?_
  · rw [Bool.and_eq_true]
    refine ⟨by cbv, ?_⟩
    simp (maxSteps := 10000000) only [hNF, hNR, hk, hs]
  · rw [hv]
    cbv

theorem hcon_ext : HCon Tryd.prog [0, 1] 15 (macH std apStd) := by
  refine hcon_shut Tryd.func15 rfl (by kernel_rfl) (fun args h v ch nw hF m us w H hv => ?_)
  unfold macH at hF
  split at hF
  · rename_i key s kf F bf kr R br
    simp only [HR.mk.injEq, Bool.and_eq_true] at hF
    obtain ⟨⟨h1, h2, h3, h4, h5, h6, h7, h8⟩, rfl, rfl, rfl⟩ := hF
    have h1 := kn_eq h1
    have h2 := kn_eq h2
    subst h1; subst h2
    have h5 : F = firstL := of_decide_eq_true h5
    have h6 : R = roundsL := of_decide_eq_true h6
    refine ⟨_, [.str key, .str s], _, goodg (base := 2) (l := []) (d := [(13, macH std apStd)]) dy0 (by decide) (by simp) (by intro p hp; simp at hp; subst hp; exact hcon_mac),
      rfl, by kernel_rfl, hv, Nat.le_of_ble_eq_true rfl, ?_, ?_, by simp,
      ext_vc std apStd (ALoop 2) F R key s rfl rfl h5 h6 h7 h8 _ rfl _ rfl⟩
    · exact ⟨⟨kOk_ro h3, rfl, rfl⟩, ⟨kOk_ro h4, rfl, rfl⟩, trivial⟩
    · rfl
  · simp at hF

/-! So many bytes of a key. -/

def rowN' (S : St) (i : Nat) : Nat := match Eng.look S.t i with
  | .row _ n => n
  | _ => 0
def rowL' (S : St) (i : Nat) : List Int := match Eng.look S.t i with
  | .row w _ => cellL S w
  | _ => []
def slotS (S : St) (i : Nat) : ByteArray := match Eng.look S.t i with
  | .str s => s
  | _ => ByteArray.empty

def keyL (N : Ap) (key : ByteArray) (i j : Nat) : List SV := st8 N (ap2 N kH key 54) ++ (.row i 0 :: .int .u64 64 :: (st8 N (ap2 N kH key 92) ++ [.row j 0, .int .u64 64]))
def eHd (N : Ap) (F R : List Int) (key info : ByteArray) (n : Int) : Nat → List Int × Nat × ByteArray × Int → St
  | _, (O, len, last, i) => ⟨[(1, .str info), (2, .int .i64 n), (8, .ptr 4 0), (9, .row 5 len), (10, .str last), (11, .int .i64 i)],
    [⟨.ints .u32 F, .ro⟩, ⟨.ints .u32 R, .ro⟩, ⟨.ints .u8 [], .ro⟩, ⟨.ints .u8 [], .ro⟩, ⟨.lit (keyL N key 2 3), .var⟩, ⟨.ints .u8 O, .row 1⟩], true⟩
def eEx (S : St) : List Int × Nat × ByteArray × Int := (rowL' S 9, rowN' S 9, slotS S 10, slotI S 11)
def eOk (key info : ByteArray) (M : Nat) (n : Nat) (d : List Int × Nat × ByteArray × Int) : Prop :=
  n ≤ M ∧ d.1 = exO key info (M - n) ∧ d.2.1 = 32 * (M - n) ∧ d.2.2.1 = exT key info (M - n) ∧ d.2.2.2 = ((M - n + 1 : Nat) : Int)

theorem expand_vc (A : Ar) (N : Ap) (L : LP) (F R : List Int) (key info : ByteArray) (n : Int) (hL : L = ALoop 2) (hA : A = std) (hN : N = apStd) (hF : F = firstL) (hR : R = roundsL) (hk : key.size ≤ 17592186044416) (hi : info.size ≤ 17592186044416 - 100) (v : SV) (hv : v = .tup [.str (ap3 N expN key info n), .int .i64 (ap1 N expE n)])
    (K : Bool → SV → List Blk → Prop) (hK : K = FinH 2 v [] [] (uniR 2 v [] [])) :
    Shut (afun (cxg A L [] [(35, hnewH A N), (36, ksumH A N)]) Tryd.f17 [.str key, .str info, .int .i64 n] [⟨.ints .u32 F, .ro⟩, ⟨.ints .u32 R, .ro⟩] K) := by
  have hA' := hA
  obtain ⟨fi, fc, fw, fb, fn, fo, fs, fa, fe, fz, fy, ff, fl, fq, gadd, gsub, gmul, gmin, hlen', hget, hset, happ, hisub, irep, iput', rlen, rint', rbool', rstr', rset, rapp, rsub, rrep, hmkb, hbyts⟩ := A
  have hNF : N (List Int) Bool isFirst F = true := by subst hN; exact decide_eq_true hF
  have hNR : N (List Int) Bool isRounds R = true := by subst hN; exact decide_eq_true hR
  apply Shut.mk
  cbv
  cases h1 : fc .lss n 0 <;> cbv
  · cases h2 : fc .gtr n 8160 <;> cbv
    · have hn0 : 0 ≤ n ∧ n ≤ 8160 := by
        cases hA
        have h1 := of_decide_eq_false h1
        have h2 := of_decide_eq_false h2
        omega
      have k54 := key8 hN key 54
      have k92 := key8 hN key 92
      have km := fun s => mac_two hN key s
      have l0 : fq (hlen' []) 0 = true := by cases hA; rfl
      have l64 : fc .eql 64 64 = true := by cases hA; rfl
      have hkk : fl (fz key) 17592186044416 = true := by cases hA; exact decide_eq_true hk
      have hq : ∀ a, fq a a = true := by cases hA; intro a; simp [std]
      have hle : fl = fun a b => decide (a ≤ b) := by cases hA; rfl
      have hm1 : ∀ a, gmul a 1 = a := by cases hA; intro a; exact Nat.mul_one a
      have hlf : ∀ a : Nat, fc .lss (fo a) n = decide (a < n.toNat) := by
        cases hA; intro a
        show decide ((a : Int) < n) = _
        exact decide_eq_decide.2 (by omega)
      obtain ⟨M, hM⟩ : ∃ M, M = exM n := ⟨_, rfl⟩
      have hMn : M = (n.toNat + 31) / 32 := by rw [hM]; unfold exM; omega
      obtain ⟨ok, hok⟩ : ∃ f, f = eOk key info M := ⟨_, rfl⟩
      refine lp_ex hL M eEx (eHd N F R key info n) ok ?_ ?_ hL (.inr rfl)
      · cbv
        refine ⟨?_, ?_, trivial⟩
        · rw [hok]
          refine ⟨Nat.le_refl _, ?_, ?_, ?_, ?_⟩ <;> rw [Nat.sub_self] <;> rfl
        · simp only [hNF, hNR, hkk]
      intro m hm d hd
      obtain ⟨O, len, last, i⟩ := d
      obtain ⟨j, hj, hO, hlen, hlast, hi'⟩ : ∃ j : Nat, j + m = M ∧ O = exO key info j ∧ len = 32 * j ∧ last = exT key info j ∧ i = ((j + 1 : Nat) : Int) := by
        rw [hok] at hd
        obtain ⟨g1, g2, g3, g4, g5⟩ := hd
        simp only at g2 g3 g4 g5
        exact ⟨M - m, by omega, g2, g3, g4, g5⟩
      have hM255 : M ≤ 255 := by rw [hM]; unfold exM; omega
      have hOl : O.length = len := by rw [hO, exO_len, hlen]
      have hqO : fq (hlen' O) len = true := by cases hA; exact decide_eq_true hOl
      have hmx : fc .leq (fo len) 9223372036854775807 = true := by cases hA; exact decide_eq_true (by show (len : Int) ≤ _; omega)
      cbv
      cases h5 : fc .lss (fo len) n <;> cbv
      · have hjn : n.toNat ≤ len := by
          rw [hlf] at h5
          have := of_decide_eq_false h5
          omega
        have hjM : j = M := by omega
        have k1 : fc .leq 0 n = true := by cases hA; exact decide_eq_true hn0.1
        have k2 : fl (fn n) len = true := by cases hA; exact decide_eq_true hjn
        have k3 : fl (gadd 0 (fn n)) (hlen' O) = true := by cases hA; exact decide_eq_true (by show 0 + n.toNat ≤ O.length; omega)
        refine finH0 hK ?_ (by rw [hv]; exact rfl) ?_
        · cbv
          simp only [k1, k2, k3, hmx]
        · rw [hv]
          cbv
          refine ⟨?_, ?_, trivial⟩
          · cases hA; subst hN
            show expN key info n = mkb ((O.drop 0).take n.toNat)
            unfold expN
            rw [if_neg (by omega), List.drop_zero, hO, hjM, hM]
          · subst hN
            show expE n = 0
            unfold expE
            exact if_neg (by omega)
      · have hm0 : m ≠ 0 := by
          intro h0
          rw [hlf] at h5
          have h5 := of_decide_eq_true h5
          omega
        obtain ⟨m', rfl⟩ : ∃ m', m = m' + 1 := ⟨m - 1, by omega⟩
        have hT : N ByteArray ByteArray (N ByteArray (ByteArray → ByteArray) macN key) (fa (fa last info) (hmkb [fw .u8 i])) = exT key info (j + 1) := by
          cases hA; subst hN
          simp only [apStd]
          have e : exT key info (j + 1) = macN key (tlN info (exT key info j) (j + 1)) := rfl
          rw [e, hlast, hi']
          exact congrArg (macN key) rfl
        have a1 : fi .add .i64 i 1 = ((j + 1 + 1 : Nat) : Int) := by cases hA; rw [hi']; exact add_nat (c := 1) (by omega) (by omega)
        have hT32 : (exT key info (j + 1)).size = 32 := macN_size _ _
        have t1 : gadd len (fz (exT key info (j + 1))) = 32 * (j + 1) := by
          cases hA; show len + (exT key info (j + 1)).size = _
          rw [hT32]; omega
        have t2 : fl (32 * (j + 1)) 140737488355328 = true := by rw [hle]; exact decide_eq_true (by omega)
        have t3 : fl (fz last) 17592186044416 = true := by cases hA; exact decide_eq_true (by show last.size ≤ _; rw [hlast]; have := exT_size key info j; omega)
        have t4 : fl (fz info) 17592186044416 = true := by cases hA; exact decide_eq_true (by show info.size ≤ _; omega)
        have t5 : fl (fz (hmkb [fw .u8 i])) 17592186044416 = true := by cases hA; exact decide_eq_true (by show (mkb _).size ≤ _; rw [size_mkb]; show 1 ≤ _; omega)
        have t6 : happ O (hbyts (exT key info (j + 1))) = exO key info (j + 1) := by cases hA; rw [hO]; rfl
        clear hd
        cbv
        simp (maxSteps := 10000000) only [k54, k92, km]
        simp (maxSteps := 10000000) only [hT, t1, t6]
        refine ⟨?_, ?_, trivial⟩
        · rw [hok, a1]
          have hjn : M - m' = j + 1 := by omega
          refine ⟨by omega, ?_, ?_, ?_, ?_⟩ <;> rw [hjn]
        · simp (maxSteps := 10000000) only [hq, hm1, hqO, t2, t3, t4, t5, l0, l64, hNR, hmx]
    · refine finH0 hK rfl (by rw [hv]; exact rfl) ?_
      rw [hv]
      have h2' : n > 8160 := by cases hA; exact of_decide_eq_true h2
      cbv
      refine ⟨?_, ?_, trivial⟩
      · subst hN
        show expN key info n = _
        unfold expN
        exact if_pos (by omega)
      · subst hN
        show expE n = 1
        unfold expE
        exact if_pos (by omega)
  · refine finH0 hK rfl (by rw [hv]; exact rfl) ?_
    rw [hv]
    have h1' : n < 0 := by cases hA; exact of_decide_eq_true h1
    cbv
    refine ⟨?_, ?_, trivial⟩
    · subst hN
      show expN key info n = _
      unfold expN
      exact if_pos (by omega)
    · subst hN
      show expE n = 1
      unfold expE
      exact if_pos (by omega)

def expandH (A : Ar) (N : Ap) : HF := fun args h => match args, h with
  | [.str key, .str info, x], [⟨.ints kf F, bf⟩, ⟨.ints kr R, br⟩] => match SV.i64 x with
    | some n => ⟨Nat.beq (kn kf) (kn .u32) && (Nat.beq (kn kr) (kn .u32) && (liveK bf && (liveK br && (ap1 N isFirst F && (ap1 N isRounds R && (A.nle (A.size key) 17592186044416 && A.nle (A.size info) 17592186044316)))))),
      .tup [.str (ap3 N expN key info n), .int .i64 (ap1 N expE n)], [], []⟩
    | none => ⟨false, .bad, [], []⟩
  | _, _ => ⟨false, .bad, [], []⟩

theorem hcon_expand : HCon Tryd.prog [0, 1] 17 (expandH std apStd) := by
  refine hcon_shut Tryd.func17 rfl (by kernel_rfl) (fun args h v ch nw hF m us w H hv => ?_)
  unfold expandH at hF
  split at hF
  · rename_i key info x kf F bf kr R br
    split at hF
    · rename_i n hx
      simp only [HR.mk.injEq, Bool.and_eq_true] at hF
      obtain ⟨⟨h1, h2, h3, h4, h5, h6, h7, h8⟩, rfl, rfl, rfl⟩ := hF
      have h1 := kn_eq h1
      have h2 := kn_eq h2
      subst h1; subst h2
      have h5 : F = firstL := of_decide_eq_true h5
      have h6 : R = roundsL := of_decide_eq_true h6
      have h7 : key.size ≤ 17592186044416 := by simpa [std] using h7
      have h8 : info.size ≤ 17592186044416 - 100 := by simpa [std] using h8
      have hv' : SV.vals m [.str key, .str info, .int .i64 n] = some us :=
        sameV_vals (l := [.str key, .str info, x]) ⟨fun _ h => h, fun _ h => h, fun u hu => (i64_of hx hu).1, trivial⟩ hv
      refine ⟨_, [.str key, .str info, .int .i64 n], _, goodg (base := 2) (l := []) (d := [(35, hnewH std apStd), (36, ksumH std apStd)]) dy0 (by decide) (by simp) (by intro p hp; simp at hp; rcases hp with rfl | rfl; exact hcon_hnew; exact hcon_ksum),
        rfl, by kernel_rfl, hv', Nat.le_of_ble_eq_true rfl, ?_, ?_, by simp,
        expand_vc std apStd (ALoop 2) F R key info n rfl rfl rfl h5 h6 h7 h8 _ rfl _ rfl⟩
      · exact ⟨⟨kOk_ro h3, rfl, rfl⟩, ⟨kOk_ro h4, rfl, rfl⟩, trivial⟩
      · rfl
    · simp at hF
  · simp at hF

end Go.Proofs.YtpnpfihjlobonaaDoor
