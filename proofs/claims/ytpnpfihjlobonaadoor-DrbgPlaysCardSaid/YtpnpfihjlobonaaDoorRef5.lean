/- The numbers that sums and rounds begin with, by the reference: walks. It has no conditions. -/
import Derived.Test.YtpnpfihjlobonaaDoorRef4
namespace Go.Proofs.YtpnpfihjlobonaaDoor
open Go.Eng Go.RowKit
set_option maxRecDepth 1000000
set_option maxHeartbeats 4000000
set_option linter.unusedSimpArgs false
set_option linter.unusedVariables false

def kF (N : Ap) : List SV → Bool × SV
  | [] => (true, .agg (getI N (ap1 N kTab 0) 64 0))
  | _ => (false, .bad)

def kHd (PL : List Int) (q : Nat) : Nat → List Int × Int → St
  | _, (W, i) => ⟨[(0, .ptr 0 0), (1, .ptr 1 0), (2, .row 2 q), (3, .int .i64 i)], [⟨.lit zeros32, .var⟩, ⟨.ints .u32 W, .var⟩, ⟨.ints .u64 PL, .row 1⟩], true⟩
def kEx (S : St) : List Int × Int := (cellL S 1, slotI S 3)
def kOkd (n : Nat) (d : List Int × Int) : Prop := n ≤ 64 ∧ d.2 = ((64 - n : Nat) : Int) ∧ d.1 = kAt (64 - n)

theorem k_vc (A : Ar) (N : Ap) (L : LP) (hL : L = ALoop 0) (hA : A = std) (hN : N = apStd) (v : SV) (K : Bool → SV → List Blk → Prop) (hK : K = FinP v) (hv : v = .agg (getI N (ap1 N kTab 0) 64 0)) :
    Shut (afun (cxh A L noJ [(57, rootF A N)] [(56, primesH A N)] [] dy0) Tryd.f58 [] [] K) := by
  obtain ⟨fi, fc, fw, fb, fn, fo, fs, fa, fe, fz, fy, ff, fl, fq, gadd, gsub, gmul, gmin, hlen', hget, hset⟩ := A
  obtain ⟨ok, hok⟩ : ∃ f, f = kOkd := ⟨_, rfl⟩
  obtain ⟨PL, hPL⟩ : ∃ PL, PL = N Int (List Int) primesN 64 := ⟨_, rfl⟩
  apply Shut.mk
  cbv
  simp only [← hPL]
  refine lp_ex hL 64 kEx (kHd PL (fn 64)) ok ?_ ?_ hL (.inr rfl)
  · cbv
    subst hok
    refine ⟨⟨Nat.le_refl _, rfl, rfl⟩, trivial⟩
  intro n hn d hd
  obtain ⟨W, t⟩ := d
  cbv
  cases h : fc .lss t 64 <;> cbv
  · have eW : W = roundsL := by
      subst hok
      obtain ⟨h1, h2, h3⟩ := hd
      simp only at h2 h3
      cases hA
      simp [icmp] at h
      have : 64 - n = 64 := by omega
      rw [h3, this, kAt_64]
    have e1 : hlen' W = 64 := by cases hA; rw [eW]; rfl
    have e2 : fl = fun a b => decide (a ≤ b) := by cases hA; rfl
    have e3 : gadd = fun a b => a + b := by cases hA; rfl
    have e4 : ∀ i, hget W i = N (List Int) Int (N Nat (List Int → Int) gi i) (N Int (List Int) kTab 0) := by
      have ew : kTab 0 = W := by rw [eW]; rfl
      cases hA; subst hN; simp only [apStd]; rw [ew]; intro i; rfl
    simp only [e1, e2, e3, e4]
    rw [hv] at hK
    rw [hK]
    clear hd
    cbv
  · have hn0 : n ≠ 0 := by
      intro h0
      subst hok
      obtain ⟨h1, h2, h3⟩ := hd
      simp only at h2 h3
      cases hA
      simp [icmp] at h
      omega
    obtain ⟨n', rfl⟩ : ∃ n', n = n' + 1 := ⟨n - 1, by omega⟩
    obtain ⟨k, hk, ht, hW⟩ : ∃ k : Nat, k + n' = 63 ∧ t = (k : Int) ∧ W = kAt k := by
      subst hok
      obtain ⟨h1, h2, h3⟩ := hd
      simp only at h2 h3
      exact ⟨63 - n', by omega, by rw [h2]; congr 1; omega, by rw [h3]; congr 1; omega⟩
    have hl64 : W.length = 64 := by rw [hW]; exact kAt_len k
    have hP64 : PL.length = 64 := by rw [hPL]; subst hN; exact primesN_len (.inr rfl)
    have hk' : 64 - n' = k + 1 := by omega
    have a1 : fi .add .i64 t 1 = ((k + 1 : Nat) : Int) := by cases hA; rw [ht]; exact add_nat (c := 1) (by omega) (by omega)
    have hft : fn t = k := by cases hA; rw [ht]; exact Int.toNat_natCast k
    have hf64 : fn 64 = 64 := by cases hA; rfl
    have b1 : fb t (fn 64) = true := by
      cases hA; rw [ht]
      show (decide ((0 : Int) ≤ (k : Int)) && decide ((k : Int) < ((64 : Nat) : Int))) = true
      simp only [Bool.and_eq_true, decide_eq_true_eq]
      exact ⟨Int.natCast_nonneg k, Int.ofNat_lt.2 (by omega)⟩
    have b2 : fb t 64 = true := by rw [← b1, hf64]
    have c1 : fl (gadd (fn t) 1) (hlen' PL) = true := by rw [hft]; cases hA; exact decide_eq_true (by show k + 1 ≤ PL.length; omega)
    have c2 : fl (gadd (fn t) 1) (hlen' W) = true := by rw [hft]; cases hA; exact decide_eq_true (by show k + 1 ≤ W.length; omega)
    have c3 : fc .eql 3 3 = true := by cases hA; rfl
    clear hd
    cbv
    refine ⟨?_, ?_, trivial⟩
    · rw [hok, a1, hft]
      refine ⟨by omega, by rw [hk'], ?_⟩
      rw [hk', hW]
      show _ = (kAt k).set k (rootN 3 ((primesN 64).getD k 0))
      have eP : primesN 64 = PL := by rw [hPL]; subst hN; rfl
      rw [eP]
      cases hA; subst hN; rfl
    · simp only [b1, b2, c1, c2]

theorem con_K : Con Tryd.prog 58 (kF apStd) := by
  refine con_shut Tryd.func58 rfl (by kernel_rfl) (fun args v us hF hv => ?_) (fun args v hF => ?_)
  · unfold kF at hF
    split at hF
    · simp only [Prod.mk.injEq, true_and] at hF
      have hg : Eng.Good Tryd.prog (cxh std (ALoop 0) noJ [(57, rootF std apStd)] [(56, primesH std apStd)] [] dy0) 0 :=
        goodh (by intro p hp; simp at hp; subst hp; exact con_root) (by intro p hp; simp at hp; subst hp; exact hcon_primes)
      exact ⟨_, _, hg, rfl, by kernel_rfl, hv, Nat.le_of_ble_eq_true rfl, k_vc std apStd (ALoop 0) rfl rfl rfl v (FinP v) rfl hF.symm⟩
    · cases hF
  · unfold kF at hF
    split at hF
    · rfl
    · cases hF

/-! Both tables. -/

def tableH (N : Ap) : HF := fun args h => match args, h with
  | [], [] => ⟨true, .agg [.row 0 8, .row 1 64], [], [⟨.ints .u32 (ap1 N hTab 0), .ro⟩, ⟨.ints .u32 (ap1 N kTab 0), .ro⟩]⟩
  | _, _ => ⟨false, .bad, [], []⟩

theorem table_vc (A : Ar) (N : Ap) (L : LP) (hL : L = ALoop 0) (hA : A = std) (hN : N = apStd) (nw : List Blk) (hnw : nw = [⟨.ints .u32 (ap1 N hTab 0), .ro⟩, ⟨.ints .u32 (ap1 N kTab 0), .ro⟩]) (K : Bool → SV → List Blk → Prop) (hK : K = FinH 0 (.agg [.row 0 8, .row 1 64]) [] nw (uniR 0 (.agg [.row 0 8, .row 1 64]) [] nw)) :
    Shut (afun (cxh A L noJ [(57, rootF A N), (58, kF N)] [(56, primesH A N)] [] dy0) Tryd.f38 [] [] K) := by
  obtain ⟨fi, fc, fw, fb, fn, fo, fs, fa, fe, fz, fy, ff, fl, fq, gadd, gsub, gmul, gmin, hlen', hget, hset⟩ := A
  obtain ⟨PL, hPL⟩ : ∃ PL, PL = N Int (List Int) primesN 8 := ⟨_, rfl⟩
  have hP8 : PL.length = 8 := by rw [hPL]; subst hN; exact primesN_len (.inl rfl)
  have hq : ∀ a, fq a a = true := by cases hA; intro a; simp [std]
  have c0 : fl (gadd 0 1) (hlen' PL) = true := by cases hA; exact decide_eq_true (by show 0 + 1 ≤ PL.length; omega)
  have f1 : fl 1 (fn 8) = true := by cases hA; rfl
  have c1 : fl (gadd 1 1) (hlen' PL) = true := by cases hA; exact decide_eq_true (by show 1 + 1 ≤ PL.length; omega)
  have f2 : fl 2 (fn 8) = true := by cases hA; rfl
  have c2 : fl (gadd 2 1) (hlen' PL) = true := by cases hA; exact decide_eq_true (by show 2 + 1 ≤ PL.length; omega)
  have f3 : fl 3 (fn 8) = true := by cases hA; rfl
  have c3 : fl (gadd 3 1) (hlen' PL) = true := by cases hA; exact decide_eq_true (by show 3 + 1 ≤ PL.length; omega)
  have f4 : fl 4 (fn 8) = true := by cases hA; rfl
  have c4 : fl (gadd 4 1) (hlen' PL) = true := by cases hA; exact decide_eq_true (by show 4 + 1 ≤ PL.length; omega)
  have f5 : fl 5 (fn 8) = true := by cases hA; rfl
  have c5 : fl (gadd 5 1) (hlen' PL) = true := by cases hA; exact decide_eq_true (by show 5 + 1 ≤ PL.length; omega)
  have f6 : fl 6 (fn 8) = true := by cases hA; rfl
  have c6 : fl (gadd 6 1) (hlen' PL) = true := by cases hA; exact decide_eq_true (by show 6 + 1 ≤ PL.length; omega)
  have f7 : fl 7 (fn 8) = true := by cases hA; rfl
  have c7 : fl (gadd 7 1) (hlen' PL) = true := by cases hA; exact decide_eq_true (by show 7 + 1 ≤ PL.length; omega)
  have f8 : fl 8 (fn 8) = true := by cases hA; rfl
  apply Shut.mk
  cbv
  simp only [← hPL]
  refine lp_rounds hL 9 hL (.inr rfl) ?_
  cbv
  rw [hnw] at hK
  rw [hK]
  cbv
  simp only [hq, c0, c1, c2, c3, c4, c5, c6, c7, f1, f2, f3, f4, f5, f6, f7, f8]
  refine ⟨trivial, ?_, ?_, trivial⟩
  · have ePL : PL = [2, 3, 5, 7, 11, 13, 17, 19] := by rw [hPL]; subst hN; exact primes8
    cases hA; subst hN
    show firstL = _
    rw [← roots2, ePL]
    rfl
  · subst hN
    exact (list_n 64 roundsL rfl).symm

theorem hcon_table : HCon Tryd.prog [] 38 (tableH apStd) := by
  refine hcon_shut Tryd.func38 rfl (by kernel_rfl) (fun args h v ch nw hF m us w H hv => ?_)
  unfold tableH at hF
  split at hF
  · simp only [HR.mk.injEq, true_and] at hF
    obtain ⟨rfl, rfl, rfl⟩ := hF
    exact ⟨_, [], [], goodh (base := 0) (l := [(57, rootF std apStd), (58, kF apStd)]) (d := [(56, primesH std apStd)])
        (by intro p hp; simp at hp; rcases hp with rfl | rfl; exact con_root; exact con_K) (by intro p hp; simp at hp; subst hp; exact hcon_primes),
      rfl, by kernel_rfl, hv, Nat.zero_le _, trivial, rfl, by simp, table_vc std apStd (ALoop 0) rfl rfl rfl _ rfl _ rfl⟩
  · simp at hF

end Go.Proofs.YtpnpfihjlobonaaDoor
