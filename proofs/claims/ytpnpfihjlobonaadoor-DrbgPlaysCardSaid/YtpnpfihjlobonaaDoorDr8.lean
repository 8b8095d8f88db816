/- Walks through the reference of the drbg package: so many bytes. It has no conditions. -/
import Derived.Test.YtpnpfihjlobonaaDoorDr7
namespace Go.Proofs.YtpnpfihjlobonaaDoor
open Go.Eng Go.RowKit
set_option maxRecDepth 1000000
set_option maxHeartbeats 4000000
set_option linter.unusedSimpArgs false
set_option linter.unusedVariables false

def rvN (k v : ByteArray) : Nat → ByteArray
  | 0 => v
  | i + 1 => macN k (rvN k v i)
def roN (k v : ByteArray) : Nat → ByteArray
  | 0 => ByteArray.empty
  | i + 1 => roN k v i ++ rvN k v (i + 1)
def rbS (k v : ByteArray) (n : Int) : ByteArray := if byBad n then ByteArray.empty else (roN k v (cN n)).extract 0 n.toNat
def rbK (k v : ByteArray) (n : Int) : ByteArray := if byBad n then k else updK k (rvN k v (cN n)) ByteArray.empty
def rbV (k v : ByteArray) (n : Int) : ByteArray := if byBad n then v else updV k (rvN k v (cN n)) ByteArray.empty

theorem roN_size (k v : ByteArray) (i : Nat) : (roN k v i).size = 32 * i := by
  induction i with
  | zero => rfl
  | succ i ih => show (roN k v i ++ rvN k v (i + 1)).size = _; rw [size_app, ih]; show 32 * i + (macN _ _).size = _; rw [macN_size]; omega
theorem vL_rv (k v : ByteArray) (i : Nat) : vL (byts k) (byts v) i = byts (rvN k v i) := by
  induction i with
  | zero => rfl
  | succ i ih =>
    show byts (macN (mkb (byts k)) (mkb (vL (byts k) (byts v) i))) = byts (macN k (rvN k v i))
    rw [ih, mkb_of_byts, mkb_of_byts]
theorem oL_ro (k v : ByteArray) (i : Nat) : oL (byts k) (byts v) i = byts (roN k v i) := by
  induction i with
  | zero => rfl
  | succ i ih =>
    show oL (byts k) (byts v) i ++ vL (byts k) (byts v) (i + 1) = byts (roN k v i ++ rvN k v (i + 1))
    rw [ih, vL_rv, byts_app]
theorem bytK_rb (k v : ByteArray) (n : Int) : bytK (byts k) (byts v) n = byts (rbK k v n) := by
  unfold bytK rbK
  split
  · rfl
  · rw [vL_rv, mkb_of_byts, mkb_of_byts]
theorem bytV_rb (k v : ByteArray) (n : Int) : bytV (byts k) (byts v) n = byts (rbV k v n) := by
  unfold bytV rbV
  split
  · rfl
  · rw [vL_rv, mkb_of_byts, mkb_of_byts]

def rbytF (A : Ar) (N : Ap) : List SV → Bool × SV
  | [.agg [.str k, .str v, x], y] => match SV.i64 x with
    | some a => (match SV.i64 y with
      | some n => (A.nle (A.size k) 64 && A.nle (A.size v) 64, .tup [rD (ap3 N rbK k v n) (ap3 N rbV k v n) (ap2 N bytA a n), .str (ap3 N rbS k v n), .int .i64 (ap1 N bytE n)])
      | none => (false, .bad))
    | none => (false, .bad)
  | _ => (false, .bad)

def rbHd (k : ByteArray) (a n : Int) : Nat → ByteArray × ByteArray → St
  | _, (v, O) => ⟨[(1, .int .i64 n), (2, .ptr 0 0), (4, .ptr 1 0), (7, .str O)], [⟨.lit [.str k, .str v, .int .i64 a], .var⟩, ⟨.lit [.str ByteArray.empty, .str ByteArray.empty, .num .i64 0], .var⟩], true⟩
def rbVof (S : St) : ByteArray := match (blkAt S.h 0).c with
  | .lit [_, .str v, _] => v
  | _ => ByteArray.empty
def rbEx (S : St) : ByteArray × ByteArray := (rbVof S, slotS S 7)
def rbOk (k v : ByteArray) (M : Nat) (n : Nat) (d : ByteArray × ByteArray) : Prop :=
  n ≤ M ∧ d.1 = rvN k v (M - n) ∧ d.2 = roN k v (M - n)

theorem rvN_size {k v : ByteArray} (hv : v.size ≤ 64) (i : Nat) : (rvN k v i).size ≤ 64 := by
  cases i with
  | zero => exact hv
  | succ i => show (macN _ _).size ≤ 64; rw [macN_size]; omega

theorem rbyt_vc (A : Ar) (N : Ap) (L : LP) (k v : ByteArray) (a n : Int) (hL : L = ALoop 0) (hA : A = std) (hN : N = apStd) (hk : k.size ≤ 64) (hv : v.size ≤ 64)
    (x : SV) (hx : x = .tup [rD (ap3 N rbK k v n) (ap3 N rbV k v n) (ap2 N bytA a n), .str (ap3 N rbS k v n), .int .i64 (ap1 N bytE n)]) (K : Bool → SV → List Blk → Prop) (hK : K = FinP x) :
    Shut (afun (cx A L [(14, rmacF A N), (46, rupdF A N)]) Tryd.f29 [.agg [.str k, .str v, .int .i64 a], .int .i64 n] [] K) := by
  obtain ⟨fi, fc, fw, fb, fn, fo, fs, fa, fe, fz, fy, ff, fl, fq, gadd, gsub, gmul, gmin, hlen', hget, hset, happ, hisub, irep, iput', rlen, rint', rbool', rstr', rset, rapp, rsub, rrep, hmkb, hbyts⟩ := A
  have bad : byBad n → x = .tup [rD k v a, .str ByteArray.empty, .int .i64 1] := by
    intro hb
    have e1 : ap3 N rbS k v n = ByteArray.empty := by subst hN; simp only [apStd, ap3]; exact if_pos hb
    have e2 : ap3 N rbK k v n = k := by subst hN; simp only [apStd, ap3]; exact if_pos hb
    have e3 : ap3 N rbV k v n = v := by subst hN; simp only [apStd, ap3]; exact if_pos hb
    have e4 : ap2 N bytA a n = a := by subst hN; simp only [apStd, ap2]; exact if_pos hb
    have e5 : ap1 N bytE n = 1 := by subst hN; simp only [apStd, ap1]; exact if_pos hb
    rw [hx, e1, e2, e3, e4, e5]
  apply Shut.mk
  cbv
  cases h1 : fc .lss n 0 <;> cbv
  · cases h2 : fc .gtr n 4096 <;> cbv
    · have hn0 : 0 ≤ n ∧ n ≤ 4096 := by
        cases hA
        have h1 := of_decide_eq_false h1
        have h2 := of_decide_eq_false h2
        omega
      have hq : ∀ a, fq a a = true := by cases hA; intro a; simp [std]
      have hlf : ∀ a : Nat, fc .lss (fo a) n = decide (a < n.toNat) := by
        cases hA; intro a
        show decide ((a : Int) < n) = _
        exact decide_eq_decide.2 (by omega)
      have zk : fl (fz k) 17592186044416 = true := by cases hA; exact decide_eq_true (by show k.size ≤ _; omega)
      obtain ⟨M, hM⟩ : ∃ M, M = cN n := ⟨_, rfl⟩
      have hMn : M = (n.toNat + 31) / 32 := hM
      obtain ⟨ok, hok⟩ : ∃ f, f = rbOk k v M := ⟨_, rfl⟩
      refine lp_ex hL M rbEx (rbHd k a n) ok ?_ ?_ hL (.inr rfl)
      · cbv
        refine ⟨?_, trivial⟩
        rw [hok]
        refine ⟨Nat.le_refl _, ?_, ?_⟩ <;> rw [Nat.sub_self] <;> rfl
      intro m hm d hd
      obtain ⟨v', O⟩ := d
      obtain ⟨j, hj, hv', hO⟩ : ∃ j : Nat, j + m = M ∧ v' = rvN k v j ∧ O = roN k v j := by
        rw [hok] at hd
        obtain ⟨g1, g2, g3⟩ := hd
        simp only at g2 g3
        exact ⟨M - m, by omega, g2, g3⟩
      have hOl : O.size = 32 * j := by rw [hO, roN_size]
      have hvl : v'.size ≤ 64 := by rw [hv']; exact rvN_size hv j
      have zv : fl (fz v') 17592186044416 = true := by cases hA; exact decide_eq_true (by show v'.size ≤ _; omega)
      have hmx : fc .leq (fo (fz O)) 9223372036854775807 = true := by cases hA; exact decide_eq_true (by show (O.size : Int) ≤ _; omega)
      cbv
      cases h5 : fc .lss (fo (fz O)) n <;> cbv
      · have hjn : n.toNat ≤ O.size := by
          have h6 := hlf (fz O)
          rw [h5] at h6
          have h7 := of_decide_eq_false h6.symm
          cases hA
          exact Nat.le_of_not_lt h7
        have hjM : j = M := by omega
        have hnb : ¬ byBad n := by unfold byBad; omega
        have k1 : fc .leq 0 n = true := by cases hA; exact decide_eq_true hn0.1
        have k2 : fl 0 (fn n) = true := by cases hA; exact decide_eq_true (Nat.zero_le _)
        have k3 : fl (fn n) (fz O) = true := by cases hA; exact decide_eq_true hjn
        have k4 : fl (fz k) 64 = true := by cases hA; exact decide_eq_true hk
        have k5 : fl (fz v') 64 = true := by cases hA; exact decide_eq_true hvl
        have k6 : fl (fz ⟨⟨[]⟩⟩) 17592186044316 = true := by cases hA; rfl
        have e1 : ap3 N rbS k v n = fe O 0 (fn n) := by
          cases hA; subst hN; simp only [apStd, ap3]
          rw [hO, hjM, hM]; exact if_neg hnb
        have e2 : ap3 N rbK k v n = ap3 N updK k v' ByteArray.empty := by
          subst hN; simp only [apStd, ap3]
          rw [hv', hjM, hM]; exact if_neg hnb
        have e3 : ap3 N rbV k v n = ap3 N updV k v' ByteArray.empty := by
          subst hN; simp only [apStd, ap3]
          rw [hv', hjM, hM]; exact if_neg hnb
        have e4 : ap2 N bytA a n = fi .add .i64 a n := by cases hA; subst hN; simp only [apStd, ap2]; exact if_neg hnb
        have e5 : ap1 N bytE n = 0 := by subst hN; simp only [apStd, ap1]; exact if_neg hnb
        have hx' : x = .tup [rD (ap3 N updK k v' ByteArray.empty) (ap3 N updV k v' ByteArray.empty) (fi .add .i64 a n), .str (fe O 0 (fn n)), .int .i64 0] := by
          rw [hx, e1, e2, e3, e4, e5]
        refine fin_sb hK ?_ (by rw [hx']; exact rfl) ?_
        · cbv
          simp (maxSteps := 10000000) only [k1, k2, k3, k4, k5, k6, hmx]
        · rw [hx']
          cbv
      · have hm0 : m ≠ 0 := by
          intro h0
          have h6 := hlf (fz O)
          rw [h5] at h6
          have h7 := of_decide_eq_true h6.symm
          have h8 : O.size < n.toNat := by cases hA; exact h7
          omega
        obtain ⟨m', rfl⟩ : ∃ m', m = m' + 1 := ⟨m - 1, by omega⟩
        have hT : N ByteArray ByteArray (N ByteArray (ByteArray → ByteArray) rmacN k) v' = rvN k v (j + 1) := by
          subst hN
          simp only [apStd]
          rw [hv', ← mac_eq]; rfl
        have hTl : (rvN k v (j + 1)).size = 32 := macN_size _ _
        have t6 : fa O (rvN k v (j + 1)) = roN k v (j + 1) := by cases hA; rw [hO]; rfl
        have t7 : ff O (rvN k v (j + 1)) = true := by cases hA; exact decide_eq_true (by show ((O.size + (rvN k v (j + 1)).size : Nat) : Int) ≤ 9223372036854775807; omega)
        clear hd
        cbv
        simp (maxSteps := 10000000) only [hT, t6]
        refine ⟨?_, ?_, trivial⟩
        · rw [hok]
          have hjn : M - m' = j + 1 := by omega
          refine ⟨by omega, ?_, ?_⟩ <;> rw [hjn]
        · simp (maxSteps := 10000000) only [zk, zv, t7, hmx]
    · have hb : byBad n := by cases hA; exact .inr (of_decide_eq_true h2)
      refine fin_sb hK rfl (by rw [bad hb]; exact rfl) ?_
      rw [bad hb]
      cbv
  · have hb : byBad n := by cases hA; exact .inl (of_decide_eq_true h1)
    refine fin_sb hK rfl (by rw [bad hb]; exact rfl) ?_
    rw [bad hb]
    cbv

theorem con_rbyt : Con Tryd.prog 29 (rbytF std apStd) := by
  refine con_shut Tryd.func29 rfl (by kernel_rfl) (fun args x us hF hv => ?_) (fun args x hF => ?_)
  · unfold rbytF at hF
    split at hF
    · rename_i k v y z
      split at hF
      · rename_i a hy
        split at hF
        · rename_i n hz
          simp only [Prod.mk.injEq, Bool.and_eq_true] at hF
          obtain ⟨⟨h1, h2⟩, hF⟩ := hF
          have h1 : k.size ≤ 64 := by simpa [std] using h1
          have h2 : v.size ≤ 64 := by simpa [std] using h2
          have hv' : SV.vals [] [.agg [.str k, .str v, .int .i64 a], .int .i64 n] = some us := by
            have hv2 : SV.vals [] [.agg [.str k, .str v, .int .i64 a], z] = some us := by
              unfold SV.i64 at hy
              split at hy <;> first | (cases hy; exact hv) | cases hy
            exact sameV_vals (l := [.agg [.str k, .str v, .int .i64 a], z]) ⟨fun _ h => h, fun u hu => (i64_of hz hu).1, trivial⟩ hv2
          exact ⟨_, _, good (by intro p hp; simp at hp; rcases hp with rfl | rfl; exact con_rmac; exact con_rupd), rfl, by kernel_rfl, hv', Nat.le_of_ble_eq_true rfl, rbyt_vc std apStd (ALoop 0) k v a n rfl rfl rfl h1 h2 x hF.symm (FinP x) rfl⟩
        · cases hF
      · cases hF
    · cases hF
  · unfold rbytF at hF
    split at hF
    · rename_i k v y z
      split at hF
      · rename_i a hy
        split at hF
        · rename_i n hz
          have h1 : y.idsLt 0 = true := by unfold SV.i64 at hy; split at hy <;> first | rfl | cases hy
          have h2 : z.idsLt 0 = true := by unfold SV.i64 at hz; split at hz <;> first | rfl | cases hz
          simp [SV.idsLts, h1, h2, SV.idsLt]
        · cases hF
      · cases hF
    · cases hF

end Go.Proofs.YtpnpfihjlobonaaDoor
