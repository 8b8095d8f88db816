/- Walks through the drbg package: a scalar. It has no conditions. -/
import Derived.Test.YtpnpfihjlobonaaDoorDr8
import Derived.Test.YtpnpfihjlobonaaDoorSc0
namespace Go.Proofs.YtpnpfihjlobonaaDoor
open Go.Eng Go.RowKit
set_option maxRecDepth 1000000
set_option maxHeartbeats 4000000
set_option linter.unusedSimpArgs false
set_option linter.unusedVariables false

/-- A generator's tries for a number: the key, the value, how many bytes were told, the number. -/
def scR : Nat → List Int → List Int → Int → List Int × List Int × Int × Int
  | 0, k, v, a => (k, v, a, 1)
  | t + 1, k, v, a => if 0 < fromN (bytS k v 32) ∧ fromN (bytS k v 32) < qN then (bytK k v 32, bytV k v 32, bytA a 32, fromN (bytS k v 32)) else scR t (bytK k v 32) (bytV k v 32) (bytA a 32)

theorem from_range (s : ByteArray) : 0 ≤ fromN s ∧ fromN s < M256 := by
  unfold fromN
  split
  · exact num4_range (wd_w s 24) (wd_w s 16) (wd_w s 8) (wd_w s 0)
  · decide

def scK (k v : List Int) (a : Int) : List Int := (scR 64 k v a).1
def scV (k v : List Int) (a : Int) : List Int := (scR 64 k v a).2.1
def scA (k v : List Int) (a : Int) : Int := (scR 64 k v a).2.2.1
def scX (k v : List Int) (a : Int) : Int := (scR 64 k v a).2.2.2

def scalarH (A : Ar) (N : Ap) : HF := fun args h => match args with
  | [.nilp] => nilH h true (.agg [.num .u64 0, .num .u64 0, .num .u64 0, .num .u64 0])
  | _ => drH A N args h fun xs k v a => match xs with
    | [] => ⟨true, numV N (ap3 N scX k v a), [none, none, some ⟨drC (ap3 N scK k v a) (ap3 N scV k v a) (.int .i64 (ap3 N scA k v a)), .var⟩], []⟩
    | _ => ⟨false, .bad, [], []⟩

def scHd (F R : List Int) : Nat → List Int × List Int × Int × Int → St
  | _, (k, v, a, i) => ⟨[(0, .ptr 2 0), (2, .ptr 3 0), (10, .int .i64 i)], [⟨.ints .u32 F, .ro⟩, ⟨.ints .u32 R, .ro⟩, ⟨drC k v (.int .i64 a), .var⟩, ⟨.lit [.num .u64 0, .num .u64 0, .num .u64 0, .num .u64 0], .var⟩], true⟩
def drPof (S : St) : List Int × List Int × Int := match drOf (blkAt S.h 2).c with
  | some (k, v, n) => (k, v, n.toI)
  | none => ([], [], 0)
def scEx (S : St) : List Int × List Int × Int × Int := ((drPof S).1, (drPof S).2.1, (drPof S).2.2, slotI S 10)
def scOk (T : List Int × List Int × Int × Int) (n : Nat) (d : List Int × List Int × Int × Int) : Prop :=
  n ≤ 64 ∧ (0 ≤ d.2.2.2 ∧ d.2.2.2.toNat + n = 64) ∧ d.1.length = 32 ∧ d.2.1.length = 32 ∧ scR n d.1 d.2.1 d.2.2.1 = T
theorem scOk_mk {T : List Int × List Int × Int × Int} {n : Nat} {K V : List Int} {a i : Int} (h : n ≤ 64) (h1 : 0 ≤ i) (h2 : i.toNat + n = 64) (h3 : K.length = 32) (h4 : V.length = 32) (h5 : scR n K V a = T) : scOk T n (K, V, a, i) := ⟨h, ⟨h1, h2⟩, h3, h4, h5⟩

theorem zero4 {X : Int} (h : 0 ≤ X ∧ X < M256) : (std.icmp .eql (l0 X) 0 && (std.icmp .eql (l1 X) 0 && (std.icmp .eql (l2 X) 0 && std.icmp .eql (l3 X) 0))) = decide (X = 0) := by
  have h4 := num4_limbs X
  rw [Int.emod_eq_of_lt h.1 h.2] at h4
  by_cases hX : X = 0
  · subst hX; rfl
  · rw [decide_eq_false hX]
    cases hb : (std.icmp .eql (l0 X) 0 && (std.icmp .eql (l1 X) 0 && (std.icmp .eql (l2 X) 0 && std.icmp .eql (l3 X) 0))) with
    | false => rfl
    | true =>
      exfalso
      simp only [Bool.and_eq_true, std, icmp, beq_iff_eq] at hb
      obtain ⟨q0, q1, q2, q3⟩ := hb
      rw [q0, q1, q2, q3] at h4
      exact hX h4.symm

theorem and4_of {a b c d p : Bool} (h : (match a with | false => false | true => match b with | false => false | true => match c with | false => false | true => match d with | false => false | true => true) = p) : (a && (b && (c && d))) = p := by
  cases a <;> cases b <;> cases c <;> cases d <;> cases p <;> simp_all

theorem bytS32 (k v : List Int) (hv : v.length = 32) : (bytS k v 32).size = 32 := by
  unfold bytS
  rw [if_neg (by unfold byBad; omega), size_mkb]
  have h1 := oL_len k v (cN 32)
  have h2 : cN 32 = 1 := rfl
  rw [h2] at h1
  rw [h2, List.drop_zero, List.length_take, h1]
  rfl
theorem bytK_len {k v : List Int} {n : Int} (h : k.length = 32) : (bytK k v n).length = 32 := by
  unfold bytK
  split
  · exact h
  · rw [byts_length, updK_size]
theorem bytV_len {k v : List Int} {n : Int} (h : v.length = 32) : (bytV k v n).length = 32 := by
  unfold bytV
  split
  · exact h
  · rw [byts_length, updV_size]

theorem scR_yes (m : Nat) (k v : List Int) (a : Int) (h : 0 < fromN (bytS k v 32) ∧ fromN (bytS k v 32) < qN) : scR (m + 1) k v a = (bytK k v 32, bytV k v 32, bytA a 32, fromN (bytS k v 32)) := by
  rw [scR, if_pos h]
theorem scR_no (m : Nat) (k v : List Int) (a : Int) (h : ¬ (0 < fromN (bytS k v 32) ∧ fromN (bytS k v 32) < qN)) : scR (m + 1) k v a = scR m (bytK k v 32) (bytV k v 32) (bytA a 32) := by
  rw [scR, if_neg h]

theorem scalar_vc (A : Ar) (N : Ap) (L : LP) (F R k v : List Int) (a Q : Int) (hL : L = ALoop 3) (hA : A = std) (hN : N = apStd) (hQ : Q = qN) (hF : F = firstL) (hR : R = roundsL) (hk : k.length = 32) (hv : v.length = 32)
    (x : SV) (hx : x = numV N (ap3 N scX k v a)) (ch : List (Option Blk)) (hch : ch = [none, none, some ⟨drC (ap3 N scK k v a) (ap3 N scV k v a) (.int .i64 (ap3 N scA k v a)), .var⟩])
    (K : Bool → SV → List Blk → Prop) (hK : K = FinH 3 x ch [] (uniR 3 x ch [])) :
    Shut (afun (cxg A L [(42, fromF A N), (43, sval N Q)] [(22, bytesH A N)]) Tryd.f23 [.ptr 2 0] [⟨.ints .u32 F, .ro⟩, ⟨.ints .u32 R, .ro⟩, ⟨drC k v (.int .i64 a), .var⟩] K) := by
  obtain ⟨fi, fc, fw, fb, fn, fo, fs, fa, fe, fz, fy, ff, fl, fq, gadd, gsub, gmul, gmin, hlen', hget, hset, happ, hisub, irep, iput', rlen, rint', rbool', rstr', rset, rapp, rsub, rrep, hmkb, hbyts⟩ := A
  have hNF : N (List Int) Bool isFirst F = true := by subst hN; exact decide_eq_true hF
  have hNR : N (List Int) Bool isRounds R = true := by subst hN; exact decide_eq_true hR
  apply Shut.mk
  cbv
  obtain ⟨T, hT⟩ : ∃ T, T = scR 64 k v a := ⟨_, rfl⟩
  have tX : ap3 N scX k v a = T.2.2.2 := by subst hN; simp only [apStd, ap3]; unfold scX; rw [← hT]
  have tK : ap3 N scK k v a = T.1 := by subst hN; simp only [apStd, ap3]; unfold scK; rw [← hT]
  have tV : ap3 N scV k v a = T.2.1 := by subst hN; simp only [apStd, ap3]; unfold scV; rw [← hT]
  have tA : ap3 N scA k v a = T.2.2.1 := by subst hN; simp only [apStd, ap3]; unfold scA; rw [← hT]
  obtain ⟨ok, hok⟩ : ∃ f, f = scOk T := ⟨_, rfl⟩
  refine lp_ex hL 64 scEx (scHd F R) ok ?_ ?_ hL (.inr rfl)
  · cbv
    refine ⟨?_, trivial⟩
    rw [hok]
    exact scOk_mk (Nat.le_refl _) (Int.le_refl _) rfl hk hv hT.symm
  intro m hm d hd
  obtain ⟨k', v', a', i⟩ := d
  obtain ⟨i1, i2, i3, i4⟩ : (0 ≤ i ∧ i.toNat + m = 64) ∧ k'.length = 32 ∧ v'.length = 32 ∧ scR m k' v' a' = T := by
    rw [hok] at hd
    exact hd.2
  clear hd
  have hnum : ∀ s, N Int Int (N Int (Int → Int) (N Int (Int → Int → Int) (N Int (Int → Int → Int → Int) num4 (N Int Int l0 (N ByteArray Int fromN s))) (N Int Int l1 (N ByteArray Int fromN s))) (N Int Int l2 (N ByteArray Int fromN s))) (N Int Int l3 (N ByteArray Int fromN s)) = N ByteArray Int fromN s := by
    subst hN; intro s; simp only [apStd]
    rw [num4_limbs]
    have := from_range s
    exact Int.emod_eq_of_lt this.1 this.2
  cbv
  cases h1 : fc .lss i 64 <;> cbv
  · have hm0 : m = 0 := by
      have : ¬ i < 64 := by cases hA; exact of_decide_eq_false h1
      have h2 := i1.2
      omega
    subst hm0
    have i5 : (k', v', a', (1 : Int)) = T := i4
    have e1 : ap3 N scX k v a = 1 := by rw [tX, ← i5]
    have e2 : ap3 N scK k v a = k' := by rw [tK, ← i5]
    have e3 : ap3 N scV k v a = v' := by rw [tV, ← i5]
    have e4 : ap3 N scA k v a = a' := by rw [tA, ← i5]
    have ex : x = .agg [.int .u64 1, .int .u64 0, .int .u64 0, .int .u64 0] := by rw [hx, e1]; subst hN; rfl
    rw [ex, hch, e2, e3, e4] at hK
    rw [hK]
    cbv
  · simp (maxSteps := 10000000) only [hnum]
    obtain ⟨X, hX⟩ : ∃ X, X = N ByteArray Int fromN (N Int ByteArray (N (List Int) (Int → ByteArray) (N (List Int) (List Int → Int → ByteArray) bytS k') v') 32) := ⟨_, rfl⟩
    simp (maxSteps := 10000000) only [← hX]
    have hXr : 0 ≤ X ∧ X < M256 := by rw [hX]; subst hN; simp only [apStd]; exact from_range _
    have hXe : X = fromN (bytS k' v' 32) := by rw [hX]; subst hN; simp only [apStd]
    have hq : N Int Bool (fun a => ltb a Q) X = decide (X < qN) := by subst hN; rw [hQ]; rfl
    have hmz : m ≠ 0 := by
      have : i < 64 := by cases hA; exact of_decide_eq_true h1
      omega
    obtain ⟨m', rfl⟩ : ∃ m', m = m' + 1 := ⟨m - 1, by omega⟩
    have yes := scR_yes m' k' v' a'
    have no := scR_no m' k' v' a'
    rw [← hXe] at yes no
    have fk : fq (hlen' k') 32 = true := by cases hA; exact decide_eq_true i2
    have fv : fq (hlen' v') 32 = true := by cases hA; exact decide_eq_true i3
    have hz : ∀ s : ByteArray, s.size = 32 → fc .leq (fo (fz s)) 9223372036854775807 = true := by
      cases hA; intro s hs; exact decide_eq_true (by show (s.size : Int) ≤ _; omega)
    have hzS : (N Int ByteArray (N (List Int) (Int → ByteArray) (N (List Int) (List Int → Int → ByteArray) bytS k') v') 32).size = 32 := by
      subst hN; simp only [apStd]; exact bytS32 k' v' i3
    have hmx := hz _ hzS
    have ei : ∀ j : Int, 0 ≤ j → j < 64 → fi .add .i64 j 1 = j + 1 := by
      cases hA; intro j h0 h1; show IntKind.i64.wrap _ = _; rw [IntKind.wrap_i64]; omega
    have hi64 : i < 64 := by cases hA; exact of_decide_eq_true h1
    have again : ¬ (0 < X ∧ X < qN) → ok m' (N Int (List Int) (N (List Int) (Int → List Int) (N (List Int) (List Int → Int → List Int) bytK k') v') 32,
        N Int (List Int) (N (List Int) (Int → List Int) (N (List Int) (List Int → Int → List Int) bytV k') v') 32,
        N Int Int (N Int (Int → Int) bytA a') 32, fi BinOp.add IntKind.i64 i 1) := by
      intro hn
      rw [hok, ei i i1.1 hi64]
      subst hN; simp only [apStd]
      exact scOk_mk (by omega) (by omega) (by omega) (bytK_len i2) (bytV_len i3) ((no hn).symm.trans i4)
    have done : 0 < X ∧ X < qN → K = FinH 3 (numV N X) [none, none, some ⟨drC (ap3 N bytK k' v' 32) (ap3 N bytV k' v' 32) (.int .i64 (ap2 N bytA a' 32)), .var⟩] [] (uniR 3 (numV N X) [none, none, some ⟨drC (ap3 N bytK k' v' 32) (ap3 N bytV k' v' 32) (.int .i64 (ap2 N bytA a' 32)), .var⟩] []) := by
      intro hy
      have i5 := (yes hy).symm.trans i4
      have e1 : ap3 N scX k v a = X := by rw [tX, ← i5]
      have e2 : ap3 N scK k v a = ap3 N bytK k' v' 32 := by rw [tK, ← i5]; subst hN; simp only [apStd, ap3]
      have e3 : ap3 N scV k v a = ap3 N bytV k' v' 32 := by rw [tV, ← i5]; subst hN; simp only [apStd, ap3]
      have e4 : ap3 N scA k v a = ap2 N bytA a' 32 := by rw [tA, ← i5]; subst hN; simp only [apStd, ap2]
      rw [hK, hx, hch, e1, e2, e3, e4]
    cases h2 : N Int Bool (fun a => ltb a Q) X <;> cbv
    · refine ⟨again (fun hh => ?_), ?_, trivial⟩
      · rw [hq] at h2
        exact of_decide_eq_false h2 hh.2
      · simp only [hNF, hNR, fk, fv, hmx]
    · split <;> rename_i e
      · have e2 := and4_of (not_of e)
        have e3 : decide (X = 0) = false := by
          cases hA; subst hN; simp only [apStd] at e2
          exact (zero4 hXr).symm.trans e2
        clear e e2
        have e4 := of_decide_eq_false e3
        rw [hq] at h2
        have e5 := of_decide_eq_true h2
        rw [done ⟨by omega, e5⟩]
        cbv
        simp only [hNF, hNR, fk, fv, hmx]
        exact ⟨trivial, trivial⟩
      · have e2 := and4_of (not_of e)
        have e3 : decide (X = 0) = true := by
          cases hA; subst hN; simp only [apStd] at e2
          exact (zero4 hXr).symm.trans e2
        clear e e2
        have e4 := of_decide_eq_true e3
        cbv
        refine ⟨again (fun hh => by omega), ?_, trivial⟩
        simp only [hNF, hNR, fk, fv, hmx]

theorem scalar0_vc (A : Ar) (N : Ap) (L : LP) (F R : List Int) (Q : Int) (x : SV) (hx : x = .agg [.num .u64 0, .num .u64 0, .num .u64 0, .num .u64 0]) (K : Bool → SV → List Blk → Prop) (hK : K = FinH 2 x [] [] (uniR 2 x [] [])) :
    Shut (afun (cxg A L [(42, fromF A N), (43, sval N Q)] [(22, bytesH A N)]) Tryd.f23 [.nilp] [⟨.ints .u32 F, .ro⟩, ⟨.ints .u32 R, .ro⟩] K) := by
  obtain ⟨fi, fc, fw, fb, fn, fo, fs, fa, fe, fz, fy, ff, fl, fq, gadd, gsub, gmul, gmin, hlen', hget, hset, happ, hisub, irep, iput', rlen, rint', rbool', rstr', rset, rapp, rsub, rrep, hmkb, hbyts⟩ := A
  apply Shut.mk
  cbv
  rw [hx] at hK
  rw [hK]
  cbv

theorem scalarP_ok : ∀ p ∈ ([(42, fromF std apStd), (43, sval apStd qN)] : Pure), Con Tryd.prog p.1 p.2 := by
  intro p hp
  simp only [List.mem_cons, List.not_mem_nil, or_false] at hp
  rcases hp with rfl | rfl
  · exact con_limbsFrom
  · exact con_sValid

theorem hcon_scalar : HCon Tryd.prog [0, 1] 23 (scalarH std apStd) := by
  refine hcon_shut Tryd.func23 rfl (by kernel_rfl) (fun args h x ch nw hF m us w H hv => ?_)
  unfold scalarH at hF
  split at hF
  · obtain ⟨F, bf, R, br, rfl, h4, h5, _, rfl, rfl, rfl⟩ := nilH_inv hF
    refine ⟨_, [.nilp], _, goodg (base := 2) (l := [(42, fromF std apStd), (43, sval apStd qN)]) (d := [(22, bytesH std apStd)]) dy0 (by decide) scalarP_ok (by intro p hp; simp at hp; subst hp; exact hcon_bytes),
      rfl, by kernel_rfl, hv, Nat.le_of_ble_eq_true rfl, ?_, ?_, by simp, scalar0_vc std apStd (ALoop 2) F R qN _ rfl _ rfl⟩
    · exact ⟨⟨kOk_ro h4, rfl, rfl⟩, ⟨kOk_ro h5, rfl, rfl⟩, trivial⟩
    · rfl
  · obtain ⟨xs, F, bf, R, br, st, k, v, nv, n, rfl, rfl, hst, hn, h4, h5, h6, h7, h8, h9, hr⟩ := drH_inv hF
    cases xs with
    | cons _ _ => simp at hr
    | nil =>
      simp only [HR.mk.injEq, true_and] at hr
      obtain ⟨rfl, rfl, rfl⟩ := hr
      refine ⟨_, [.ptr 2 0], _, goodg (base := 3) (l := [(42, fromF std apStd), (43, sval apStd qN)]) (d := [(22, bytesH std apStd)]) dy0 (by decide) scalarP_ok (by intro p hp; simp at hp; subst hp; exact hcon_bytes),
        rfl, by kernel_rfl, hv, Nat.le_of_ble_eq_true rfl, ?_, ?_, by simp, scalar_vc std apStd (ALoop 3) F R k v n qN rfl rfl rfl rfl h6 h7 h8 h9 _ rfl _ rfl _ rfl⟩
      · exact ⟨⟨kOk_ro h4, rfl, rfl⟩, ⟨kOk_ro h5, rfl, rfl⟩, ⟨rfl, drOf_cat hst (i64_sb hn)⟩, trivial⟩
      · rfl

end Go.Proofs.YtpnpfihjlobonaaDoor
