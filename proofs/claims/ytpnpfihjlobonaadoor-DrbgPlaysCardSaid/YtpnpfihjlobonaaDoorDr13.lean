/- Walks through the reference of the drbg package: a scalar. It has no conditions. -/
import Derived.Test.YtpnpfihjlobonaaDoorDr8
import Derived.Test.YtpnpfihjlobonaaDoorDr12
namespace Go.Proofs.YtpnpfihjlobonaaDoor
open Go.Eng Go.RowKit
set_option maxRecDepth 1000000
set_option maxHeartbeats 4000000
set_option linter.unusedSimpArgs false
set_option linter.unusedVariables false

theorem byts_ext' (s : ByteArray) (k : Nat) : byts (s.extract 0 k) = (byts s).take k := by
  unfold byts
  rw [← List.map_take]
  congr 1
  simp [ByteArray.data_extract]
theorem ap4_std {α β γ δ ε : Type} (f : α → β → γ → δ → ε) (a : α) (b : β) (c : γ) (d : δ) : ap4 apStd f a b c d = f a b c d := rfl

theorem bytS_rb (k v : ByteArray) (n : Int) : bytS (byts k) (byts v) n = rbS k v n := by
  unfold bytS rbS
  split
  · rfl
  · rw [oL_ro, List.drop_zero, ← byts_ext', mkb_of_byts]

/-- The reference's generator behind a scalar. -/
def rsK (k v : ByteArray) (a : Int) : ByteArray := mkb (scK (byts k) (byts v) a)
def rsV (k v : ByteArray) (a : Int) : ByteArray := mkb (scV (byts k) (byts v) a)
def rsA (k v : ByteArray) (a : Int) : Int := scA (byts k) (byts v) a
def rsX (k v : ByteArray) (a : Int) : Int := scX (byts k) (byts v) a

def rscalF (A : Ar) (N : Ap) : List SV → Bool × SV
  | [.agg [.str k, .str v, x]] => match SV.i64 x with
    | some a => (A.nle (A.size k) 64 && A.nle (A.size v) 64, .tup [rD (ap3 N rsK k v a) (ap3 N rsV k v a) (ap3 N rsA k v a), numV N (ap3 N rsX k v a)])
    | none => (false, .bad)
  | _ => (false, .bad)

def rsHd : Nat → ByteArray × ByteArray × Int × Int → St
  | _, (k, v, a, i) => ⟨[(1, .ptr 0 0), (2, .ptr 1 0), (3, .ptr 2 0), (4, .int .i64 i)], [⟨.lit [.str k, .str v, .int .i64 a], .var⟩, ⟨.lit [.str ByteArray.empty, .str ByteArray.empty, .num .i64 0], .var⟩, ⟨.lit [.num .u64 0, .num .u64 0, .num .u64 0, .num .u64 0], .var⟩], true⟩
def litS (S : St) (id j : Nat) : ByteArray := match (blkAt S.h id).c.get j with
  | .str s => s
  | _ => ByteArray.empty
def rsEx (S : St) : ByteArray × ByteArray × Int × Int := (litS S 0 0, litS S 0 1, cellI S 0 2, slotI S 4)
def rsOk (T : List Int × List Int × Int × Int) (n : Nat) (d : ByteArray × ByteArray × Int × Int) : Prop :=
  n ≤ 64 ∧ (0 ≤ d.2.2.2 ∧ d.2.2.2.toNat + n = 64) ∧ d.1.size ≤ 64 ∧ d.2.1.size ≤ 64 ∧ scR n (byts d.1) (byts d.2.1) d.2.2.1 = T
theorem rsOk_mk {T : List Int × List Int × Int × Int} {n : Nat} {K V : ByteArray} {a i : Int} (h : n ≤ 64) (h1 : 0 ≤ i) (h2 : i.toNat + n = 64) (h3 : K.size ≤ 64) (h4 : V.size ≤ 64) (h5 : scR n (byts K) (byts V) a = T) : rsOk T n (K, V, a, i) := ⟨h, ⟨h1, h2⟩, h3, h4, h5⟩
theorem rsOk_ex {T : List Int × List Int × Int × Int} {n : Nat} {K V : ByteArray} {a i : Int} (h : rsOk T n (K, V, a, i)) : n ≤ 64 ∧ (0 ≤ i ∧ i.toNat + n = 64) ∧ K.size ≤ 64 ∧ V.size ≤ 64 ∧ scR n (byts K) (byts V) a = T := h

def rscalPl : List (Nat × PT) := [(8, .step 0 (.alt 1 (.step 2 (.step 3 .done)) (.alt 2 (.step 1 (.step 3 .done)) .nil)))]

theorem rbS32 (k v : ByteArray) : (rbS k v 32).size = 32 := by
  unfold rbS
  rw [if_neg (by unfold byBad; omega), show cN 32 = 1 from rfl]
  have := roN_size k v 1
  generalize roN k v 1 = r at this ⊢
  rw [ByteArray.size_extract]
  omega
theorem rbK32 (k v : ByteArray) : (rbK k v 32).size = 32 := by
  unfold rbK
  rw [if_neg (by unfold byBad; omega), updK_size]
theorem rbV32 (k v : ByteArray) : (rbV k v 32).size = 32 := by
  unfold rbV
  rw [if_neg (by unfold byBad; omega), updV_size]
theorem scR_yes' (m : Nat) (k v : ByteArray) (a : Int) (h : 0 < fromN (rbS k v 32) ∧ fromN (rbS k v 32) < qN) : scR (m + 1) (byts k) (byts v) a = (byts (rbK k v 32), byts (rbV k v 32), bytA a 32, fromN (rbS k v 32)) := by
  have := scR_yes m (byts k) (byts v) a
  rw [bytS_rb, bytK_rb, bytV_rb] at this
  exact this h
theorem scR_no' (m : Nat) (k v : ByteArray) (a : Int) (h : ¬ (0 < fromN (rbS k v 32) ∧ fromN (rbS k v 32) < qN)) : scR (m + 1) (byts k) (byts v) a = scR m (byts (rbK k v 32)) (byts (rbV k v 32)) (bytA a 32) := by
  have := scR_no m (byts k) (byts v) a
  rw [bytS_rb, bytK_rb, bytV_rb] at this
  exact this h

theorem rscal_vc (A : Ar) (N : Ap) (L : LP) (k v : ByteArray) (a Q : Int) (hL : L = ALoop 0) (hA : A = std) (hN : N = apStd) (hQ : Q = qN) (hk : k.size ≤ 64) (hv : v.size ≤ 64)
    (x : SV) (hx : x = .tup [rD (ap3 N rsK k v a) (ap3 N rsV k v a) (ap3 N rsA k v a), numV N (ap3 N rsX k v a)]) (K : Bool → SV → List Blk → Prop) (hK : K = FinP x) :
    Shut (afun (cxhp A L noJ [(29, rbytF A N), (48, fromF A N), (26, sval N Q)] [] [] [] dy0 (pll rscalPl)) Tryd.f30 [.agg [.str k, .str v, .int .i64 a]] [] K) := by
  obtain ⟨fi, fc, fw, fb, fn, fo, fs, fa, fe, fz, fy, ff, fl, fq, gadd, gsub, gmul, gmin, hlen', hget, hset, happ, hisub, irep, iput', rlen, rint', rbool', rstr', rset, rapp, rsub, rrep, hmkb, hbyts⟩ := A
  obtain ⟨T, hT⟩ : ∃ T, T = scR 64 (byts k) (byts v) a := ⟨_, rfl⟩
  have tX : ap3 N rsX k v a = T.2.2.2 := by subst hN; rw [ap3_std]; unfold rsX scX; rw [← hT]
  have tK : ap3 N rsK k v a = mkb T.1 := by subst hN; rw [ap3_std]; unfold rsK scK; rw [← hT]
  have tV : ap3 N rsV k v a = mkb T.2.1 := by subst hN; rw [ap3_std]; unfold rsV scV; rw [← hT]
  have tA : ap3 N rsA k v a = T.2.2.1 := by subst hN; rw [ap3_std]; unfold rsA scA; rw [← hT]
  obtain ⟨ok, hok⟩ : ∃ f, f = rsOk T := ⟨_, rfl⟩
  apply Shut.mk
  cbv
  refine lp_ex hL 64 rsEx rsHd ok ?_ ?_ hL (.inr rfl)
  · cbv
    refine ⟨?_, trivial⟩
    rw [hok]
    exact rsOk_mk (Nat.le_refl _) (Int.le_refl _) rfl hk hv hT.symm
  intro m hm d hd
  obtain ⟨k', v', a', i⟩ := d
  obtain ⟨i0, i1, i2, i3, i4⟩ : m ≤ 64 ∧ (0 ≤ i ∧ i.toNat + m = 64) ∧ k'.size ≤ 64 ∧ v'.size ≤ 64 ∧ scR m (byts k') (byts v') a' = T := by
    rw [hok] at hd
    exact rsOk_ex hd
  clear hd
  cbv
  have hnum : ∀ x, 0 ≤ x ∧ x < M256 → N Int Int (N Int (Int → Int) (N Int (Int → Int → Int) (N Int (Int → Int → Int → Int) num4 (N Int Int l0 x)) (N Int Int l1 x)) (N Int Int l2 x)) (N Int Int l3 x) = x := by
    subst hN; intro x h; simp only [apStd_app]
    rw [num4_limbs]
    exact Int.emod_eq_of_lt h.1 h.2
  cases h1 : fc .lss i 64 <;> cbv
  · have hm0 : m = 0 := by
      have : ¬ i < 64 := by cases hA; exact of_decide_eq_false h1
      have h2 := i1.2
      omega
    subst hm0
    have i5 : (byts k', byts v', a', (1 : Int)) = T := i4
    have e1 : ap3 N rsX k v a = 1 := by rw [tX, ← i5]
    have e2 : ap3 N rsK k v a = k' := by rw [tK, ← i5]; dsimp only; rw [mkb_of_byts]
    have e3 : ap3 N rsV k v a = v' := by rw [tV, ← i5]; dsimp only; rw [mkb_of_byts]
    have e4 : ap3 N rsA k v a = a' := by rw [tA, ← i5]
    have ex : x = .tup [rD k' v' a', .agg [.int .u64 1, .int .u64 0, .int .u64 0, .int .u64 0]] := by rw [hx, e1, e2, e3, e4]; subst hN; rfl
    refine fin_sb hK rfl (by rw [ex]; exact rfl) ?_
    rw [ex]
    cbv
  · have hmz : m ≠ 0 := by
      have : i < 64 := by cases hA; exact of_decide_eq_true h1
      omega
    have hi64 : i < 64 := by cases hA; exact of_decide_eq_true h1
    obtain ⟨m', rfl⟩ : ∃ m', m = m' + 1 := ⟨m - 1, by omega⟩
    obtain ⟨S, hS⟩ : ∃ s, ap3 N rbS k' v' 32 = s := ⟨_, rfl⟩
    have hSe : S = rbS k' v' 32 := by rw [← hS]; subst hN; rw [ap3_std]
    have hS32 : S.size = 32 := by rw [hSe]; exact rbS32 k' v'
    obtain ⟨X, hX⟩ : ∃ X, ap1 N fromN S = X := ⟨_, rfl⟩
    have hXr : 0 ≤ X ∧ X < M256 := by rw [← hX]; subst hN; rw [ap1_std]; exact from_range _
    have hXe : X = fromN (rbS k' v' 32) := by rw [← hX, hSe]; subst hN; rw [ap1_std]
    have hnX := hnum X hXr
    have hq : N Int Bool (fun a => ltb a Q) X = decide (X < qN) := by subst hN; rw [hQ]; rfl
    have yes := scR_yes' m' k' v' a'
    have no := scR_no' m' k' v' a'
    rw [← hXe] at yes no
    have zk : fl (fz k') 64 = true := by cases hA; exact decide_eq_true i2
    have zv : fl (fz v') 64 = true := by cases hA; exact decide_eq_true i3
    have hmx : fc .leq (fo (fz S)) 9223372036854775807 = true := by cases hA; exact decide_eq_true (by show (S.size : Int) ≤ _; omega)
    have ei : ∀ j : Int, 0 ≤ j → j < 64 → fi .add .i64 j 1 = j + 1 := by
      cases hA; intro j h0 h1; show IntKind.i64.wrap _ = _; rw [IntKind.wrap_i64]; omega
    obtain ⟨K2, hK2⟩ : ∃ s, ap3 N rbK k' v' 32 = s := ⟨_, rfl⟩
    obtain ⟨V2, hV2⟩ : ∃ s, ap3 N rbV k' v' 32 = s := ⟨_, rfl⟩
    obtain ⟨A2, hA2⟩ : ∃ s, ap2 N bytA a' 32 = s := ⟨_, rfl⟩
    have eK2 : K2 = rbK k' v' 32 := by rw [← hK2]; subst hN; rw [ap3_std]
    have eV2 : V2 = rbV k' v' 32 := by rw [← hV2]; subst hN; rw [ap3_std]
    have eA2 : A2 = bytA a' 32 := by rw [← hA2]; subst hN; rw [ap2_std]
    rw [← eK2, ← eV2, ← eA2] at yes no
    have sK2 : K2.size = 32 := by rw [eK2]; exact rbK32 _ _
    have sV2 : V2.size = 32 := by rw [eV2]; exact rbV32 _ _
    have again : ¬ (0 < X ∧ X < qN) → ok m' (K2, V2, A2, fi BinOp.add IntKind.i64 i 1) := by
      intro hn
      rw [hok, ei i i1.1 hi64]
      exact rsOk_mk (by omega) (by omega) (by omega) (by omega) (by omega) ((no hn).symm.trans i4)
    have done : 0 < X ∧ X < qN → x = .tup [rD K2 V2 A2, numV N X] := by
      intro hy
      have i5 := (yes hy).symm.trans i4
      have e1 : ap3 N rsX k v a = X := by rw [tX, ← i5]
      have e2 : ap3 N rsK k v a = K2 := by rw [tK, ← i5]; dsimp only; rw [mkb_of_byts]
      have e3 : ap3 N rsV k v a = V2 := by rw [tV, ← i5]; dsimp only; rw [mkb_of_byts]
      have e4 : ap3 N rsA k v a = A2 := by rw [tA, ← i5]
      rw [hx, e1, e2, e3, e4]
    simp only [ap1, ap2, ap3] at hS hX hK2 hV2 hA2
    simp (maxSteps := 10000000) only [hS, hX, hnX]
    cases h2 : N Int Bool (fun a => ltb a Q) X <;> cbv
    · simp (maxSteps := 10000000) only [hK2, hV2, hA2, hS, hX]
      refine ⟨again (fun hh => ?_), ?_, trivial⟩
      · rw [hq] at h2
        exact of_decide_eq_false h2 hh.2
      · simp only [zk, zv, hmx]
    · split <;> rename_i e
      · have e2 := and4_of (not_of e)
        have e3 : decide (X = 0) = false := by
          cases hA; subst hN; simp only [apStd] at e2
          exact (zero4 hXr).symm.trans e2
        have e4 := of_decide_eq_false e3
        rw [hq] at h2
        have e5 := of_decide_eq_true h2
        have dn := done ⟨by omega, e5⟩
        simp only [e]
        cbv
        repeat (simp (maxSteps := 10000000) only [e, hK2, hV2, hA2, hS, hX, hnX, zk, zv, hmx]; cbv)
        refine fin_sb hK ?_ (by rw [dn]; exact rfl) ?_
        · cbv
        · rw [dn]
          cbv
      · have e2 := and4_of (not_of e)
        have e3 : decide (X = 0) = true := by
          cases hA; subst hN; simp only [apStd] at e2
          exact (zero4 hXr).symm.trans e2
        have e4 := of_decide_eq_true e3
        simp only [e]
        cbv
        simp (maxSteps := 10000000) only [hK2, hV2, hA2, hS, hX, hnX]
        refine ⟨again (fun hh => by omega), ?_, trivial⟩
        simp only [zk, zv, hmx]

theorem con_rscal : Con Tryd.prog 30 (rscalF std apStd) := by
  refine con_shut Tryd.func30 rfl (by kernel_rfl) (fun args x us hF hv => ?_) (fun args x hF => ?_)
  · unfold rscalF at hF
    split at hF
    · rename_i k v y
      split at hF
      · rename_i a hy
        simp only [Prod.mk.injEq, Bool.and_eq_true] at hF
        obtain ⟨⟨h1, h2⟩, hF⟩ := hF
        have h1 : k.size ≤ 64 := by simpa [std] using h1
        have h2 : v.size ≤ 64 := by simpa [std] using h2
        have hv' : SV.vals [] [.agg [.str k, .str v, .int .i64 a]] = some us := by
          unfold SV.i64 at hy
          split at hy <;> first | (cases hy; exact hv) | cases hy
        exact ⟨_, _, ⟨good0p rfl (by intro p hp; simp at hp; rcases hp with rfl | rfl | rfl; exact con_rbyt; exact con_refFrom; exact con_srValid) (by simp), rfl, .inr rfl, Nat.zero_le _⟩, rfl, by kernel_rfl, hv', Nat.le_of_ble_eq_true rfl, rscal_vc std apStd (ALoop 0) k v a qN rfl rfl rfl rfl h1 h2 x hF.symm (FinP x) rfl⟩
      · cases hF
    · cases hF
  · unfold rscalF at hF
    split at hF
    · rename_i k v y
      split at hF
      · rename_i a hy
        have : y.idsLt 0 = true := by unfold SV.i64 at hy; split at hy <;> first | rfl | cases hy
        simp [SV.idsLts, this, SV.idsLt]
      · cases hF
    · cases hF

end Go.Proofs.YtpnpfihjlobonaaDoor
