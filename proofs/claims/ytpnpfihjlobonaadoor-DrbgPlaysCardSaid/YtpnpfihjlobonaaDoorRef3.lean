/- Walks through the reference of the sha package: the first primes, the numbers that rounds begin with. It has no conditions. -/
import Derived.Test.YtpnpfihjlobonaaDoorRef2
namespace Go.Proofs.YtpnpfihjlobonaaDoor
open Go.Eng Go.RowKit
set_option maxRecDepth 1000000
set_option maxHeartbeats 4000000
set_option linter.unusedSimpArgs false
set_option linter.unusedVariables false

/-! The first primes. -/

def dvd1 (x p : Int) : Bool := icmp .eql (iop .rem .u64 x p) 0
/-- Does none of the first j divide x? -/
def prB (l : List Int) (x : Int) : Nat → Bool
  | 0 => true
  | j + 1 => if dvd1 x (l.getD j 0) then false else prB l x j
def prStep (s : List Int × Int) : List Int × Int := (if prB s.1 s.2 s.1.length then s.1 ++ [s.2] else s.1, s.2 + 1)
def pr : Nat → List Int × Int
  | 0 => ([], 2)
  | k + 1 => prStep (pr k)
def prLast (n : Int) : Nat := if n = 8 then 18 else 310
def primesN (n : Int) : List Int := (pr (prLast n)).1

theorem pr_snd : ∀ k, (pr k).2 = (k : Int) + 2
  | 0 => rfl
  | k + 1 => by
    show (pr k).2 + 1 = _
    rw [pr_snd k]; omega
theorem pr_pos : ∀ k, ∀ x ∈ (pr k).1, 2 ≤ x
  | 0, x, h => by simp [pr] at h
  | k + 1, x, h => by
    have hs := pr_snd k
    simp only [pr, prStep] at h
    split at h
    · rcases List.mem_append.1 h with h | h
      · exact pr_pos k x h
      · have : x = (pr k).2 := by simpa using h
        omega
    · exact pr_pos k x h
theorem pr_len_le : ∀ k, (pr k).1.length ≤ (pr (k + 1)).1.length := fun k => by
  show _ ≤ (prStep (pr k)).1.length
  unfold prStep
  dsimp only
  split <;> simp
theorem pr_mono {j k : Nat} (h : j ≤ k) : (pr j).1.length ≤ (pr k).1.length := by
  induction h with
  | refl => exact Nat.le_refl _
  | step _ ih => exact Nat.le_trans ih (pr_len_le _)
theorem pr_8 : (pr 17).1.length = 7 ∧ (pr 18).1.length = 8 := by decide +kernel
theorem pr_64 : (pr 309).1.length = 63 ∧ (pr 310).1.length = 64 := by decide +kernel

def pExL (S : St) : List Int := match Eng.look S.t 3 with
  | .row w _ => cellL S w
  | _ => []
def pExN (S : St) : Nat := match Eng.look S.t 3 with
  | .row _ n => n
  | _ => 0
def pHd (n : Int) : Nat → List Int × Nat × Int → St
  | _, (l, len, x) => ⟨[(0, .num .i64 n), (3, .row 0 len), (4, .int .u64 x)], [⟨.ints .u64 l, .row 1⟩], true⟩
def pEx (S : St) : List Int × Nat × Int := (pExL S, pExN S, slotI S 4)
def pOk (M : Nat) (m : Nat) (d : List Int × Nat × Int) : Prop := m ≤ M ∧ d.1 = (pr (M - m)).1 ∧ d.2.1 = (pr (M - m)).1.length ∧ d.2.2 = (pr (M - m)).2

def slotB (S : St) (i : Nat) : Bool := match Eng.look S.t i with
  | .bool b => b
  | _ => false
def qHd (n : Int) (l : List Int) (len : Nat) (x : Int) : Nat → Bool × Int → St
  | _, (b, i) => ⟨[(0, .num .i64 n), (3, .row 0 len), (4, .int .u64 x), (5, .bool b), (6, .int .i64 i)], [⟨.ints .u64 l, .row 1⟩], true⟩
def qEx (S : St) : Bool × Int := (slotB S 5, slotI S 6)
def qOk (l : List Int) (len : Nat) (x : Int) (m : Nat) (d : Bool × Int) : Prop := m ≤ len ∧ d.2 = ((len - m : Nat) : Int) ∧ d.1 = prB l x (len - m)

def primesH (A : Ar) (N : Ap) : HF := fun args h => match args, h with
  | [.num .i64 n], [] => ⟨icmp .eql n 8 || icmp .eql n 64, .row 0 (A.nat n), [], [⟨.ints .u64 (ap1 N primesN n), .row 1⟩]⟩
  | _, _ => ⟨false, .bad, [], []⟩

theorem primes_vc (A : Ar) (N : Ap) (L : LP) (n : Int) (M T : Nat) (hL : L = ALoop 0) (hA : A = std) (hN : N = apStd) (hn : n = (T : Int)) (hT : T ≤ 64) (hM : M = prLast n) (hM2 : M ≤ 310) (hlo : ∀ k, k < M → (pr k).1.length < T) (hhi : (pr M).1.length = T)
    (nw : List Blk) (hnw : nw = [⟨.ints .u64 (ap1 N primesN n), .row 1⟩]) (v : SV) (hv : v = .row 0 (A.nat n)) (K : Bool → SV → List Blk → Prop) (hK : K = FinH 0 v [] nw (uniR 0 v [] nw)) :
    Shut (afun (cxh A L noJ [] [] [] dy0) Tryd.f56 [.num .i64 n] [] K) := by
  have hA' := hA
  obtain ⟨fi, fc, fw, fb, fn, fo, fs, fa, fe, fz, fy, ff, fl, fq, gadd, gsub, gmul, gmin, hlen', hget, hset, happ⟩ := A
  have ho : ∀ a : Nat, fo a = (a : Int) := by cases hA; intro a; rfl
  have hls : ∀ a b : Int, fc .lss a b = decide (a < b) := by cases hA; intro a b; rfl
  have hlt' : ∀ a : Nat, fc .lss (fo a) n = decide (a < T) := by cases hA; intro a; rw [hn]; exact decide_eq_decide.2 Int.ofNat_lt
  have hlj : ∀ (i : Int) (j a : Nat), i = (j : Int) → fc .lss i (fo a) = decide (j < a) := by cases hA; intro i j a hi; rw [hi]; exact decide_eq_decide.2 Int.ofNat_lt
  have hle : fl = fun a b => decide (a ≤ b) := by cases hA; rfl
  have hmx : ∀ a : Nat, a ≤ 1000 → fc .leq (fo a) 9223372036854775807 = true := by cases hA; intro a ha; exact decide_eq_true (by show (a : Int) ≤ _; omega)
  obtain ⟨ok, hok⟩ : ∃ f, f = pOk M := ⟨_, rfl⟩
  apply Shut.mk
  cbv
  refine lp_ex hL M pEx (pHd n) ok ?_ ?_ hL (.inr rfl)
  · cbv
    subst hok
    refine ⟨⟨Nat.le_refl _, ?_, ?_, ?_⟩, trivial⟩ <;> simp [pr]
  intro m hm d hd
  obtain ⟨l, len, x⟩ := d
  cbv
  obtain ⟨k, hk, hl, hlen, hx⟩ : ∃ k : Nat, k + m = M ∧ l = (pr k).1 ∧ len = (pr k).1.length ∧ x = (pr k).2 := by
    subst hok
    obtain ⟨h1, h2, h3, h4⟩ := hd
    simp only at h2 h3 h4
    exact ⟨M - m, by omega, h2, h3, h4⟩
  have hlenT : len ≤ T := by
    rw [hlen, ← hhi]; exact pr_mono (by omega)
  have hll : len = l.length := by rw [hlen, hl]
  cases h : fc .lss (fo len) n <;> cbv
  · have hk' : k = M := by
      rcases Nat.lt_or_ge k M with hlt | hge
      · have := hlo k hlt
        rw [hlt'] at h
        have h := of_decide_eq_false h
        omega
      · omega
    have eL : N Int (List Int) primesN n = l := by
      subst hN
      show (pr (prLast n)).1 = l
      rw [← hM, hl, hk']
    have eT : fn n = len := by
      cases hA
      rw [hn, hlen, hk', hhi]
      rfl
    rw [hv, hnw] at hK
    rw [hK]
    simp only [ap1, eL, eT]
    simp only [hmx len (by omega)]
    trivial
  · have hm0 : m ≠ 0 := by
      intro h0
      have : k = M := by omega
      rw [hlt', hlen, this, hhi] at h
      have h := of_decide_eq_true h
      omega
    obtain ⟨m', rfl⟩ : ∃ m', m = m' + 1 := ⟨m - 1, by omega⟩
    have hmxl := hmx len (by omega)
    have hpos : ∀ j : Nat, j < len → 2 ≤ l.getD j 0 := fun j hj => by
      rw [hl]
      refine pr_pos k _ ?_
      rw [List.getD_eq_getElem?_getD, List.getElem?_eq_getElem (by omega)]
      exact List.getElem_mem _
    obtain ⟨ok2, hok2⟩ : ∃ f, f = qOk l len x := ⟨_, rfl⟩
    refine lp_ex hL len qEx (qHd n l len x) ok2 ?_ ?_ hL (.inr rfl)
    · cbv
      subst hok2
      simp only [hmxl]
      exact ⟨⟨Nat.le_refl _, by simp, by simp [prB]⟩, trivial, trivial⟩
    intro q hq d2 hd2
    obtain ⟨b, i⟩ := d2
    cbv
    obtain ⟨j, hj, hi, hb⟩ : ∃ j : Nat, j + q = len ∧ i = (j : Int) ∧ b = prB l x j := by
      subst hok2
      obtain ⟨h1, h2, h3⟩ := hd2
      simp only at h2 h3
      exact ⟨len - q, by omega, h2, h3⟩
    cases h5 : fc .lss i (fo len) <;> cbv
    · have hjq : j = len := by
        rw [hlj i j len hi] at h5
        have h5 := of_decide_eq_false h5
        omega
      have hpk : pr (k + 1) = (if b = true then l ++ [x] else l, x + 1) := by
        show prStep (pr k) = _
        unfold prStep
        rw [← hl, ← hx, ← hll, hb, hjq]
      have hxa : fi .add .u64 x 1 = x + 1 := by
        have hxk := pr_snd k
        cases hA
        show IntKind.u64.wrap (x + 1) = _
        rw [IntKind.wrap_u64, hx, hxk]; omega
      have hMm : M - m' = k + 1 := by omega
      have hapl : ∀ z, happ l z = l ++ z := by cases hA; intro z; rfl
      have hga : gadd len 1 = len + 1 := by cases hA; rfl
      have hgm : fl (gmul (gadd len 1) 8) 140737488355328 = true := by rw [hle]; exact decide_eq_true (by cases hA; show (len + 1) * 8 ≤ _; omega)
      have hql : fq (hlen' l) len = true := by cases hA; exact decide_eq_true hll.symm
      cases b <;> cbv
      · refine ⟨?_, ?_, trivial⟩
        · rw [hok, hxa]
          refine ⟨by omega, ?_, ?_, ?_⟩ <;> rw [hMm, hpk]
          · rfl
          · exact hll
        · simp only [hmxl]
      · refine ⟨?_, ?_, trivial⟩
        · rw [hok, hxa, hapl, hga]
          refine ⟨by omega, ?_, ?_, ?_⟩ <;> rw [hMm, hpk]
          · rfl
          · simp [hll]
        · simp only [hql, hgm, hmxl]
    · have hq0 : q ≠ 0 := by
        intro h0
        rw [hlj i j len hi] at h5
        have h5 := of_decide_eq_true h5
        omega
      obtain ⟨q', rfl⟩ : ∃ q', q = q' + 1 := ⟨q - 1, by omega⟩
      have hjl : j < len := by omega
      have hia : fi .add .i64 i 1 = ((j + 1 : Nat) : Int) := by
        cases hA; rw [hi]; exact add_nat (c := 1) (by omega) (by omega)
      have hfi : fn i = j := by cases hA; rw [hi]; exact Int.toNat_natCast j
      have hlq : len - q' = j + 1 := by omega
      have hg1 : fc .neq (hget l (fn i)) 0 = true := by
        have := hpos j hjl
        rw [hfi]
        cases hA
        show (l.getD j 0 != 0) = true
        simp only [bne_iff_ne, ne_eq]
        omega
      have hg2 : fl (gadd (fn i) 1) (hlen' l) = true := by
        rw [hfi, hle]; exact decide_eq_true (by cases hA; show j + 1 ≤ l.length; omega)
      have hg3 : fb i len = true := by
        cases hA; rw [hi]
        show (decide ((0 : Int) ≤ (j : Int)) && decide ((j : Int) < (len : Int))) = true
        simp only [Bool.and_eq_true, decide_eq_true_eq]
        exact ⟨Int.natCast_nonneg j, Int.ofNat_lt.2 hjl⟩
      have hdv : fc .eql (fi .rem .u64 x (hget l (fn i))) 0 = dvd1 x (l.getD j 0) := by rw [hfi]; cases hA; rfl
      cases h6 : fc .eql (fi .rem .u64 x (hget l (fn i))) 0 <;> cbv
      · rw [hdv] at h6
        refine ⟨?_, ?_, trivial⟩
        · rw [hok2, hia]
          refine ⟨by omega, ?_, ?_⟩ <;> rw [hlq]
          show b = prB l x (j + 1)
          unfold prB
          rw [h6, hb]; rfl
        · simp only [hg1, hg2, hg3, hmxl]
      · rw [hdv] at h6
        refine ⟨?_, ?_, trivial⟩
        · rw [hok2, hia]
          refine ⟨by omega, ?_, ?_⟩ <;> rw [hlq]
          show false = prB l x (j + 1)
          unfold prB
          rw [h6]; rfl
        · simp only [hg1, hg2, hg3, hmxl]

theorem primesN_len {n : Int} (h : n = 8 ∨ n = 64) : (primesN n).length = n.toNat := by
  rcases h with rfl | rfl
  · exact pr_8.2
  · exact pr_64.2

theorem hcon_primes : HCon Tryd.prog [] 56 (primesH std apStd) := by
  refine hcon_shut Tryd.func56 rfl (by kernel_rfl) (fun args h v ch nw hF m us w H hv => ?_)
  unfold primesH at hF
  split at hF
  · rename_i n
    simp only [HR.mk.injEq, Bool.or_eq_true] at hF
    obtain ⟨hn, rfl, rfl, rfl⟩ := hF
    have lo8 : ∀ k, k < 18 → (pr k).1.length < 8 := fun k hk => by
      have := pr_mono (show k ≤ 17 by omega)
      rw [pr_8.1] at this; omega
    have lo64 : ∀ k, k < 310 → (pr k).1.length < 64 := fun k hk => by
      have := pr_mono (show k ≤ 309 by omega)
      rw [pr_64.1] at this; omega
    rcases hn with hn | hn
    · have hn : n = 8 := by simpa [icmp] using hn
      subst hn
      exact ⟨_, _, [], goodh (base := 0) (l := []) (d := []) (by simp) (by simp), rfl, by kernel_rfl, hv, Nat.le_of_ble_eq_true rfl, trivial, rfl, by simp,
        primes_vc std apStd (ALoop 0) 8 18 8 rfl rfl rfl rfl (by omega) rfl (by omega) lo8 pr_8.2 _ rfl _ rfl _ rfl⟩
    · have hn : n = 64 := by simpa [icmp] using hn
      subst hn
      exact ⟨_, _, [], goodh (base := 0) (l := []) (d := []) (by simp) (by simp), rfl, by kernel_rfl, hv, Nat.le_of_ble_eq_true rfl, trivial, rfl, by simp,
        primes_vc std apStd (ALoop 0) 64 310 64 rfl rfl rfl rfl (by omega) rfl (by omega) lo64 pr_64.2 _ rfl _ rfl _ rfl⟩
  · simp at hF

end Go.Proofs.YtpnpfihjlobonaaDoor
