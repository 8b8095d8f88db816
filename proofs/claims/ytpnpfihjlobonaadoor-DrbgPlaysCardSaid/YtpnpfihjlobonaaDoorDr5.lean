/- Walks through the drbg package: so many bytes. It has no conditions. -/
import Derived.Test.YtpnpfihjlobonaaDoorDr4
namespace Go.Proofs.YtpnpfihjlobonaaDoor
open Go.Eng Go.RowKit
set_option maxRecDepth 1000000
set_option maxHeartbeats 4000000
set_option linter.unusedSimpArgs false
set_option linter.unusedVariables false

/-- The values one behind the other, and all that they tell. -/
def vL (k v : List Int) : Nat → List Int
  | 0 => v
  | i + 1 => byts (macN (mkb k) (mkb (vL k v i)))
def oL (k v : List Int) : Nat → List Int
  | 0 => []
  | i + 1 => oL k v i ++ vL k v (i + 1)
def cN (n : Int) : Nat := (n.toNat + 31) / 32
def byBad (n : Int) : Prop := n < 0 ∨ n > 4096
instance (n : Int) : Decidable (byBad n) := by unfold byBad; infer_instance
def bytS (k v : List Int) (n : Int) : ByteArray := if byBad n then ByteArray.empty else mkb (((oL k v (cN n)).drop 0).take n.toNat)
def bytK (k v : List Int) (n : Int) : List Int := if byBad n then k else byts (updK (mkb k) (mkb (vL k v (cN n))) ByteArray.empty)
def bytV (k v : List Int) (n : Int) : List Int := if byBad n then v else byts (updV (mkb k) (mkb (vL k v (cN n))) ByteArray.empty)
def bytA (a n : Int) : Int := if byBad n then a else iop .add .i64 a n
def bytE (n : Int) : Int := if byBad n then 1 else 0

theorem vL_len {k v : List Int} (hv : v.length = 32) (i : Nat) : (vL k v i).length = 32 := by
  cases i with
  | zero => exact hv
  | succ i => show (byts _).length = 32; rw [byts_length, macN_size]
theorem oL_len (k v : List Int) (i : Nat) : (oL k v i).length = 32 * i := by
  induction i with
  | zero => rfl
  | succ i ih => show (oL k v i ++ vL k v (i + 1)).length = _; rw [List.length_append, ih]; show 32 * i + (byts _).length = _; rw [byts_length, macN_size]; omega

def bytesH (A : Ar) (N : Ap) : HF := fun args h => match args with
  | [.nilp, x] => nilH h (SV.i64 x).isSome (.tup [.str ByteArray.empty, .num .i64 1])
  | _ => drH A N args h fun xs k v a => match xs with
    | [x] => (match SV.i64 x with
      | some n => ⟨true, .tup [.str (ap3 N bytS k v n), .int .i64 (ap1 N bytE n)], [none, none, some ⟨drC (ap3 N bytK k v n) (ap3 N bytV k v n) (.int .i64 (ap2 N bytA a n)), .var⟩], []⟩
      | none => ⟨false, .bad, [], []⟩)
    | _ => ⟨false, .bad, [], []⟩

def bHd (F R k : List Int) (n a : Int) : Nat → List Int × Nat × List Int → St
  | _, (O, len, v) => ⟨[(0, .ptr 2 0), (1, .int .i64 n), (6, .row 3 len)], [⟨.ints .u32 F, .ro⟩, ⟨.ints .u32 R, .ro⟩, ⟨drC k v (.int .i64 a), .var⟩, ⟨.ints .u8 O, .row 1⟩], true⟩
def drVof (S : St) : List Int := match drOf (blkAt S.h 2).c with
  | some (_, v, _) => v
  | none => []
def bEx (S : St) : List Int × Nat × List Int := (rowL' S 6, rowN' S 6, drVof S)
def bOk (k v : List Int) (M : Nat) (n : Nat) (d : List Int × Nat × List Int) : Prop :=
  n ≤ M ∧ d.1 = oL k v (M - n) ∧ d.2.1 = 32 * (M - n) ∧ d.2.2 = vL k v (M - n)

theorem bytes_vc (A : Ar) (N : Ap) (L : LP) (F R k v : List Int) (a n : Int) (hL : L = ALoop 3) (hA : A = std) (hN : N = apStd) (hF : F = firstL) (hR : R = roundsL) (hk : k.length = 32) (hv : v.length = 32)
    (x : SV) (hx : x = .tup [.str (ap3 N bytS k v n), .int .i64 (ap1 N bytE n)]) (ch : List (Option Blk)) (hch : ch = [none, none, some ⟨drC (ap3 N bytK k v n) (ap3 N bytV k v n) (.int .i64 (ap2 N bytA a n)), .var⟩])
    (K : Bool → SV → List Blk → Prop) (hK : K = FinH 3 x ch [] (uniR 3 x ch [])) :
    Shut (afun (cxg A L [] [(41, turnH A N), (40, updH A N)]) Tryd.f22 [.ptr 2 0, .int .i64 n] [⟨.ints .u32 F, .ro⟩, ⟨.ints .u32 R, .ro⟩, ⟨drC k v (.int .i64 a), .var⟩] K) := by
  obtain ⟨fi, fc, fw, fb, fn, fo, fs, fa, fe, fz, fy, ff, fl, fq, gadd, gsub, gmul, gmin, hlen', hget, hset, happ, hisub, irep, iput', rlen, rint', rbool', rstr', rset, rapp, rsub, rrep, hmkb, hbyts⟩ := A
  have hNF : N (List Int) Bool isFirst F = true := by subst hN; exact decide_eq_true hF
  have hNR : N (List Int) Bool isRounds R = true := by subst hN; exact decide_eq_true hR
  have fk : fq (hlen' k) 32 = true := by cases hA; exact decide_eq_true hk
  have bad : byBad n → K = FinH 3 (.tup [.str ByteArray.empty, .int .i64 1]) [none, none, some ⟨drC k v (.int .i64 a), .var⟩] [] (uniR 3 (.tup [.str ByteArray.empty, .int .i64 1]) [none, none, some ⟨drC k v (.int .i64 a), .var⟩] []) := by
    intro hb
    have e1 : ap3 N bytS k v n = ByteArray.empty := by subst hN; simp only [apStd, ap3]; exact if_pos hb
    have e2 : ap3 N bytK k v n = k := by subst hN; simp only [apStd, ap3]; exact if_pos hb
    have e3 : ap3 N bytV k v n = v := by subst hN; simp only [apStd, ap3]; exact if_pos hb
    have e4 : ap2 N bytA a n = a := by subst hN; simp only [apStd, ap2]; exact if_pos hb
    have e5 : ap1 N bytE n = 1 := by subst hN; simp only [apStd, ap1]; exact if_pos hb
    rw [hK, hx, hch, e1, e2, e3, e4, e5]
  apply Shut.mk
  cbv
  cases h1 : fc .lss n 0 <;> cbv
  · cases h2 : fc .gtr n 4096 <;> cbv
    · have hn0 : 0 ≤ n ∧ n ≤ 4096 := by
        cases hA
        have h1 := of_decide_eq_false h1
        have h2 := of_decide_eq_false h2
        omega
      have g1 : fc .leq 0 (fi .add .i64 n 32) = true := by
        cases hA
        have e : iop .add .i64 n 32 = n + 32 := by show IntKind.i64.wrap _ = _; rw [IntKind.wrap_i64]; omega
        exact decide_eq_true (by show 0 ≤ iop .add .i64 n 32; rw [e]; omega)
      have g2 : fc .leq (fi .add .i64 n 32) (Int.ofNat 140737488355328) = true := by
        cases hA
        have e : iop .add .i64 n 32 = n + 32 := by show IntKind.i64.wrap _ = _; rw [IntKind.wrap_i64]; omega
        exact decide_eq_true (by show iop .add .i64 n 32 ≤ 140737488355328; rw [e]; omega)
      have hq : ∀ a, fq a a = true := by cases hA; intro a; simp [std]
      have hle : fl = fun a b => decide (a ≤ b) := by cases hA; rfl
      have hm1 : ∀ a, gmul a 1 = a := by cases hA; intro a; exact Nat.mul_one a
      have hlf : ∀ a : Nat, fc .lss (fo a) n = decide (a < n.toNat) := by
        cases hA; intro a
        show decide ((a : Int) < n) = _
        exact decide_eq_decide.2 (by omega)
      obtain ⟨M, hM⟩ : ∃ M, M = cN n := ⟨_, rfl⟩
      have hMn : M = (n.toNat + 31) / 32 := hM
      obtain ⟨ok, hok⟩ : ∃ f, f = bOk k v M := ⟨_, rfl⟩
      refine lp_ex hL M bEx (bHd F R k n a) ok ?_ ?_ hL (.inr rfl)
      · cbv
        refine ⟨?_, ?_, trivial⟩
        · rw [hok]
          refine ⟨Nat.le_refl _, ?_, ?_, ?_⟩ <;> rw [Nat.sub_self] <;> rfl
        · simp only [g1, g2]
      intro m hm d hd
      obtain ⟨O, len, v'⟩ := d
      obtain ⟨j, hj, hO, hlen, hv'⟩ : ∃ j : Nat, j + m = M ∧ O = oL k v j ∧ len = 32 * j ∧ v' = vL k v j := by
        rw [hok] at hd
        obtain ⟨g1, g2, g3, g4⟩ := hd
        simp only at g2 g3 g4
        exact ⟨M - m, by omega, g2, g3, g4⟩
      have hOl : O.length = len := by rw [hO, oL_len, hlen]
      have hvl : v'.length = 32 := by rw [hv']; exact vL_len hv j
      have hqO : fq (hlen' O) len = true := by cases hA; exact decide_eq_true hOl
      have fv : fq (hlen' v') 32 = true := by cases hA; exact decide_eq_true hvl
      have hmx : fc .leq (fo len) 9223372036854775807 = true := by cases hA; exact decide_eq_true (by show (len : Int) ≤ _; omega)
      cbv
      cases h5 : fc .lss (fo len) n <;> cbv
      · have hjn : n.toNat ≤ len := by
          rw [hlf] at h5
          have := of_decide_eq_false h5
          omega
        have hjM : j = M := by omega
        have hnb : ¬ byBad n := by unfold byBad; omega
        have k1 : fc .leq 0 n = true := by cases hA; exact decide_eq_true hn0.1
        have k2 : fl (fn n) len = true := by cases hA; exact decide_eq_true hjn
        have k3 : fl (gadd 0 (fn n)) (hlen' O) = true := by cases hA; exact decide_eq_true (by show 0 + n.toNat ≤ O.length; omega)
        have k4 : fl (fz ⟨⟨[]⟩⟩) 17592186044416 = true := by cases hA; rfl
        have e1 : ap3 N bytS k v n = hmkb (hisub O 0 (fn n)) := by
          cases hA; subst hN; simp only [apStd, ap3]
          rw [hO, hjM, hM]; exact if_neg hnb
        have e2 : ap3 N bytK k v n = hbyts (ap3 N updK (hmkb k) (hmkb v') ByteArray.empty) := by
          cases hA; subst hN; simp only [apStd, ap3]
          rw [hv', hjM, hM]; exact if_neg hnb
        have e3 : ap3 N bytV k v n = hbyts (ap3 N updV (hmkb k) (hmkb v') ByteArray.empty) := by
          cases hA; subst hN; simp only [apStd, ap3]
          rw [hv', hjM, hM]; exact if_neg hnb
        have e4 : ap2 N bytA a n = fi .add .i64 a n := by cases hA; subst hN; simp only [apStd, ap2]; exact if_neg hnb
        have e5 : ap1 N bytE n = 0 := by subst hN; simp only [apStd, ap1]; exact if_neg hnb
        rw [hx, hch, e1, e2, e3, e4, e5] at hK
        rw [hK]
        cbv
        simp (maxSteps := 10000000) only [hNF, hNR, fk, fv, k1, k2, k3, k4, hmx]
        exact ⟨trivial, ⟨rfl, rfl, trivial⟩, trivial⟩
      · have hm0 : m ≠ 0 := by
          intro h0
          rw [hlf] at h5
          have h5 := of_decide_eq_true h5
          omega
        obtain ⟨m', rfl⟩ : ∃ m', m = m' + 1 := ⟨m - 1, by omega⟩
        have hT : hbyts (N ByteArray ByteArray (N ByteArray (ByteArray → ByteArray) macN (hmkb k)) (hmkb v')) = vL k v (j + 1) := by
          cases hA; subst hN
          simp only [apStd]
          rw [hv']; rfl
        have hTl := vL_len (k := k) hv (j + 1)
        have t0 : hisub (vL k v (j + 1)) 0 32 = vL k v (j + 1) := by cases hA; show ((vL k v (j + 1)).drop 0).take 32 = _; rw [List.drop_zero, List.take_of_length_le (by omega)]
        have t1 : gadd len 32 = 32 * (j + 1) := by cases hA; show len + 32 = _; omega
        have t2 : fl (32 * (j + 1)) 140737488355328 = true := by rw [hle]; exact decide_eq_true (by omega)
        have t3 : fl (gadd 0 32) (hlen' (vL k v (j + 1))) = true := by cases hA; exact decide_eq_true (by show 0 + 32 ≤ (vL k v (j + 1)).length; omega)
        have t6 : happ O (vL k v (j + 1)) = oL k v (j + 1) := by cases hA; rw [hO]; rfl
        clear hd
        cbv
        simp (maxSteps := 10000000) only [hT, t0, t1, t6]
        refine ⟨?_, ?_, trivial⟩
        · rw [hok]
          have hjn : M - m' = j + 1 := by omega
          refine ⟨by omega, ?_, ?_, ?_⟩ <;> rw [hjn]
        · simp (maxSteps := 10000000) only [hq, hm1, hqO, t2, t3, fk, fv, hNF, hNR, hmx]
    · have hb : byBad n := by cases hA; exact .inr (of_decide_eq_true h2)
      rw [bad hb]
      cbv
  · have hb : byBad n := by cases hA; exact .inl (of_decide_eq_true h1)
    rw [bad hb]
    cbv

theorem bytes0_vc (A : Ar) (N : Ap) (L : LP) (F R : List Int) (n : Int) (x : SV) (hx : x = .tup [.str ByteArray.empty, .num .i64 1]) (K : Bool → SV → List Blk → Prop) (hK : K = FinH 2 x [] [] (uniR 2 x [] [])) :
    Shut (afun (cxg A L [] [(41, turnH A N), (40, updH A N)]) Tryd.f22 [.nilp, .int .i64 n] [⟨.ints .u32 F, .ro⟩, ⟨.ints .u32 R, .ro⟩] K) := by
  obtain ⟨fi, fc, fw, fb, fn, fo, fs, fa, fe, fz, fy, ff, fl, fq, gadd, gsub, gmul, gmin, hlen', hget, hset, happ, hisub, irep, iput', rlen, rint', rbool', rstr', rset, rapp, rsub, rrep, hmkb, hbyts⟩ := A
  apply Shut.mk
  cbv
  rw [hx] at hK
  rw [hK]
  cbv

theorem hcon_bytes : HCon Tryd.prog [0, 1] 22 (bytesH std apStd) := by
  refine hcon_shut Tryd.func22 rfl (by kernel_rfl) (fun args h x ch nw hF m us w H hv => ?_)
  unfold bytesH at hF
  split at hF
  · rename_i y
    obtain ⟨F, bf, R, br, rfl, h4, h5, h6, rfl, rfl, rfl⟩ := nilH_inv hF
    cases hy : SV.i64 y with
    | none => rw [hy] at h6; cases h6
    | some n =>
    have hv' : SV.vals m [.nilp, .int .i64 n] = some us :=
      sameV_vals (l := [.nilp, y]) ⟨fun _ h => h, fun u hu => (i64_of hy hu).1, trivial⟩ hv
    refine ⟨_, [.nilp, .int .i64 n], _, goodg (base := 2) (l := []) (d := [(41, turnH std apStd), (40, updH std apStd)]) dy0 (by decide) (by simp) (by intro p hp; simp at hp; rcases hp with rfl | rfl; exact hcon_drturn; exact hcon_drupd),
      rfl, by kernel_rfl, hv', Nat.le_of_ble_eq_true rfl, ?_, ?_, by simp, bytes0_vc std apStd (ALoop 2) F R n _ rfl _ rfl⟩
    · exact ⟨⟨kOk_ro h4, rfl, rfl⟩, ⟨kOk_ro h5, rfl, rfl⟩, trivial⟩
    · rfl
  · obtain ⟨xs, F, bf, R, br, st, k, v, nv, a, rfl, rfl, hst, hn, h4, h5, h6, h7, h8, h9, hr⟩ := drH_inv hF
    split at hr
    · rename_i y _
      split at hr
      · rename_i n hy
        simp only [HR.mk.injEq, true_and] at hr
        obtain ⟨rfl, rfl, rfl⟩ := hr
        have hv' : SV.vals m [.ptr 2 0, .int .i64 n] = some us :=
          sameV_vals (l := [.ptr 2 0, y]) ⟨fun _ h => h, fun u hu => (i64_of hy hu).1, trivial⟩ hv
        refine ⟨_, [.ptr 2 0, .int .i64 n], _, goodg (base := 3) (l := []) (d := [(41, turnH std apStd), (40, updH std apStd)]) dy0 (by decide) (by simp) (by intro p hp; simp at hp; rcases hp with rfl | rfl; exact hcon_drturn; exact hcon_drupd),
          rfl, by kernel_rfl, hv', Nat.le_of_ble_eq_true rfl, ?_, ?_, by simp, bytes_vc std apStd (ALoop 3) F R k v a n rfl rfl rfl h6 h7 h8 h9 _ rfl _ rfl _ rfl⟩
        · exact ⟨⟨kOk_ro h4, rfl, rfl⟩, ⟨kOk_ro h5, rfl, rfl⟩, ⟨rfl, drOf_cat hst (i64_sb hn)⟩, trivial⟩
        · rfl
      · simp at hr
    · simp at hr

end Go.Proofs.YtpnpfihjlobonaaDoor
