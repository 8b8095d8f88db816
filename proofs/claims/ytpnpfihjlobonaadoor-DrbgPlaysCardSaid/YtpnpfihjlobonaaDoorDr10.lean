/- Walks through the drbg package: some scalars. It has no conditions. -/
import Derived.Test.YtpnpfihjlobonaaDoorDr9
namespace Go.Proofs.YtpnpfihjlobonaaDoor
open Go.Eng Go.RowKit
set_option maxRecDepth 1000000
set_option maxHeartbeats 4000000
set_option linter.unusedSimpArgs false
set_option linter.unusedVariables false

/-- A number as a record. -/
def numR (x : Int) : List Sc := [.int .u64 (l0 x), .int .u64 (l1 x), .int .u64 (l2 x), .int .u64 (l3 x)]
/-- A generator behind so many scalars. -/
def polT : Nat → List Int → List Int → Int → List Int × List Int × Int
  | 0, k, v, a => (k, v, a)
  | c + 1, k, v, a => match polT c k v a with
    | (k', v', a') => (scK k' v' a', scV k' v' a', scA k' v' a')
/-- The scalar behind so many. -/
def polX (c : Nat) (k v : List Int) (a : Int) : Int := match polT c k v a with
  | (k', v', a') => scX k' v' a'
def polL : Nat → List Int → List Int → Int → List (List Sc)
  | 0, _, _, _ => []
  | c + 1, k, v, a => polL c k v a ++ [numR (polX c k v a)]
def polC (n : Int) : Nat := (min (max n 0) 8).toNat
def polK (k v : List Int) (a n : Int) : List Int := (polT (polC n) k v a).1
def polV (k v : List Int) (a n : Int) : List Int := (polT (polC n) k v a).2.1
def polA (k v : List Int) (a n : Int) : Int := (polT (polC n) k v a).2.2
def polR (k v : List Int) (a n : Int) : List (List Sc) := polL (polC n) k v a
abbrev k4 : List CK := [.int .u64, .int .u64, .int .u64, .int .u64]

theorem polL_len (c : Nat) (k v : List Int) (a : Int) : (polL c k v a).length = c := by
  induction c with
  | zero => rfl
  | succ c ih => show (polL c k v a ++ _).length = _; rw [List.length_append, ih]; rfl

theorem scT_len (m : Nat) : ∀ {k v : List Int} {a : Int}, k.length = 32 → v.length = 32 → (scR m k v a).1.length = 32 ∧ (scR m k v a).2.1.length = 32 := by
  induction m with
  | zero =>
    intro k v a hk hv
    rw [scR]
    dsimp only
    exact And.intro hk hv
  | succ m ih =>
    intro k v a hk hv
    have h1 := bytK_len (v := v) (n := 32) hk
    have h2 := bytV_len (k := k) (n := 32) hv
    by_cases h : 0 < fromN (bytS k v 32) ∧ fromN (bytS k v 32) < qN
    · rw [scR_yes m k v a h]; dsimp only; exact And.intro h1 h2
    · rw [scR_no m k v a h]; exact ih h1 h2
theorem scK_len {k v : List Int} {a : Int} (hk : k.length = 32) (hv : v.length = 32) : (scK k v a).length = 32 := by
  unfold scK; exact (scT_len 64 hk hv).1
theorem scV_len {k v : List Int} {a : Int} (hk : k.length = 32) (hv : v.length = 32) : (scV k v a).length = 32 := by
  unfold scV; exact (scT_len 64 hk hv).2
theorem polT_len (c : Nat) {k v : List Int} {a : Int} (hk : k.length = 32) (hv : v.length = 32) : (polT c k v a).1.length = 32 ∧ (polT c k v a).2.1.length = 32 := by
  induction c with
  | zero => rw [polT]; dsimp only; exact And.intro hk hv
  | succ c ih =>
    obtain ⟨h1, h2⟩ := ih
    rw [polT]
    generalize polT c k v a = t at h1 h2 ⊢
    obtain ⟨k', v', a'⟩ := t
    dsimp only at h1 h2 ⊢
    exact And.intro (scK_len h1 h2) (scV_len h1 h2)

def polyH (A : Ar) (N : Ap) : HF := fun args h => match args with
  | [.nilp, x] => nilH h (SV.i64 x).isSome .nils
  | _ => drH A N args h fun xs k v a => match xs with
    | [x] => (match SV.i64 x with
      | some n => ⟨true, .row 3 (ap1 N polC n), [none, none, some ⟨drC (ap4 N polK k v a n) (ap4 N polV k v a n) (.int .i64 (ap4 N polA k v a n)), .var⟩], [⟨.recs k4 (ap4 N polR k v a n), .row 4⟩]⟩
      | none => ⟨false, .bad, [], []⟩)
    | _ => ⟨false, .bad, [], []⟩

def plHd (F R : List Int) (b : Int) : Nat → List Int × List Int × Int × Nat × List (List Sc) × Int → St
  | _, (k, v, a, len, O, i) => ⟨[(0, .ptr 2 0), (5, .row 3 len), (10, .int .i64 b), (11, .int .i64 i)], [⟨.ints .u32 F, .ro⟩, ⟨.ints .u32 R, .ro⟩, ⟨drC k v (.int .i64 a), .var⟩, ⟨.recs k4 O, .row 4⟩], true⟩
def recsAt (S : St) (i : Nat) : List (List Sc) := match Eng.look S.t i with
  | .row w _ => (match (blkAt S.h w).c with
    | .recs _ l => l
    | .lit l => (chunk k4 l.length l).getD []
    | _ => [])
  | _ => []
def plEx (S : St) : List Int × List Int × Int × Nat × List (List Sc) × Int := ((drPof S).1, (drPof S).2.1, (drPof S).2.2, rowN' S 5, recsAt S 5, slotI S 11)
def plOk (k v : List Int) (a : Int) (M : Nat) (n : Nat) (d : List Int × List Int × Int × Nat × List (List Sc) × Int) : Prop :=
  n ≤ M ∧ (d.1, d.2.1, d.2.2.1) = polT (M - n) k v a ∧ d.2.2.2.1 = M - n ∧ d.2.2.2.2.1 = polL (M - n) k v a ∧ (d.2.2.2.2.2.toNat = M - n ∧ 0 ≤ d.2.2.2.2.2)

theorem polT_succ {j : Nat} {k v : List Int} {a : Int} {k' v' : List Int} {a' : Int} (h : polT j k v a = (k', v', a')) : (scK k' v' a', scV k' v' a', scA k' v' a') = polT (j + 1) k v a := by
  rw [polT, h]
theorem polL_succ {j : Nat} {k v : List Int} {a : Int} {k' v' : List Int} {a' : Int} {O : List (List Sc)} (h : polT j k v a = (k', v', a')) (hO : O = polL j k v a) :
    O ++ [[Sc.int IntKind.u64 (l0 (scX k' v' a')), Sc.int IntKind.u64 (l1 (scX k' v' a')), Sc.int IntKind.u64 (l2 (scX k' v' a')), Sc.int IntKind.u64 (l3 (scX k' v' a'))]] = polL (j + 1) k v a := by
  rw [polL, hO]
  unfold polX
  rw [h]
  rfl
theorem plOk_mk {k v : List Int} {a : Int} {M n j : Nat} {k' v' : List Int} {a' : Int} {len : Nat} {O : List (List Sc)} {i : Int} (h : j + n = M) (h1 : (k', v', a') = polT j k v a) (h2 : len = j) (h3 : O = polL j k v a) (h4 : i.toNat = j ∧ 0 ≤ i) : plOk k v a M n (k', v', a', len, O, i) := by
  have e : M - n = j := by omega
  unfold plOk
  rw [e]
  exact ⟨by omega, h1, h2, h3, h4⟩
theorem plOk_ex {k v : List Int} {a : Int} {M n : Nat} {k' v' : List Int} {a' : Int} {len : Nat} {O : List (List Sc)} {i : Int} (h : plOk k v a M n (k', v', a', len, O, i)) : ∃ j : Nat, j + n = M ∧ (k', v', a') = polT j k v a ∧ len = j ∧ O = polL j k v a ∧ (i.toNat = j ∧ 0 ≤ i) := by
  unfold plOk at h
  obtain ⟨h0, h1, h2, h3, h4⟩ := h
  exact ⟨M - n, by omega, h1, h2, h3, h4⟩

theorem poly_vc (A : Ar) (N : Ap) (L : LP) (F R k v : List Int) (a n : Int) (hL : L = ALoop 3) (hA : A = std) (hN : N = apStd) (hF : F = firstL) (hR : R = roundsL) (hk : k.length = 32) (hv : v.length = 32)
    (x : SV) (hx : x = .row 3 (ap1 N polC n)) (ch : List (Option Blk)) (hch : ch = [none, none, some ⟨drC (ap4 N polK k v a n) (ap4 N polV k v a n) (.int .i64 (ap4 N polA k v a n)), .var⟩])
    (nw : List Blk) (hnw : nw = [⟨.recs k4 (ap4 N polR k v a n), .row 4⟩])
    (K : Bool → SV → List Blk → Prop) (hK : K = FinH 3 x ch nw (uniR 3 x ch nw)) :
    Shut (afun (cxg A L [] [(23, scalarH A N)]) Tryd.f25 [.ptr 2 0, .int .i64 n] [⟨.ints .u32 F, .ro⟩, ⟨.ints .u32 R, .ro⟩, ⟨drC k v (.int .i64 a), .var⟩] K) := by
  have hmin : ∀ b, b = A.imin (A.imax n 0) 8 → b.toNat = polC n ∧ 0 ≤ b := by
    subst hA; intro b hb; rw [hb]; unfold polC; simp only [std]; split <;> split <;> omega
  obtain ⟨fi, fc, fw, fb, fn, fo, fs, fa, fe, fz, fy, ff, fl, fq, gadd, gsub, gmul, gmin, hlen', hget, hset, happ, hisub, irep, iput', rlen, rint', rbool', rstr', rset, rapp, rsub, rrep, hmkb, hbyts, imn, imx⟩ := A
  have hNF : N (List Int) Bool isFirst F = true := by subst hN; exact decide_eq_true hF
  have hNR : N (List Int) Bool isRounds R = true := by subst hN; exact decide_eq_true hR
  simp only at hmin
  obtain ⟨b, hb⟩ : ∃ b, b = imn (imx n 0) 8 := ⟨_, rfl⟩
  have hbM := hmin b hb
  obtain ⟨M, hM⟩ : ∃ M, M = polC n := ⟨_, rfl⟩
  have hM8 : M ≤ 8 := by rw [hM]; unfold polC; omega
  rw [← hM] at hbM
  obtain ⟨hb1, hb2⟩ := hbM
  obtain ⟨ok, hok⟩ : ∃ f, f = plOk k v a M := ⟨_, rfl⟩
  apply Shut.mk
  cbv
  simp only [← hb]
  have hnn : 0 ≤ M := Nat.zero_le _
  refine lp_ex hL M plEx (plHd F R b) ok ?_ ?_ hL (.inr rfl)
  · cbv
    refine ⟨?_, trivial⟩
    rw [hok]
    exact plOk_mk (Nat.zero_add M) rfl rfl rfl ⟨rfl, Int.le_refl _⟩
  intro m hm d hd
  obtain ⟨k', v', a', len, O, i⟩ := d
  obtain ⟨j, hj, hT, hlen, hO, hi, hi0⟩ : ∃ j : Nat, j + m = M ∧ (k', v', a') = polT j k v a ∧ len = j ∧ O = polL j k v a ∧ (i.toNat = j ∧ 0 ≤ i) := by
    rw [hok] at hd
    exact plOk_ex hd
  clear hd
  have hl := polT_len j (a := a) hk hv
  rw [← hT] at hl
  have hk' : k'.length = 32 := hl.1
  have hv' : v'.length = 32 := hl.2
  have hOl : O.length = len := by rw [hO, polL_len, hlen]
  have fk : fq (hlen' k') 32 = true := by cases hA; exact decide_eq_true hk'
  have fv : fq (hlen' v') 32 = true := by cases hA; exact decide_eq_true hv'
  have fO : fq (rlen O) len = true := by cases hA; exact decide_eq_true hOl
  cbv
  cases h1 : fc .lss i b <;> cbv
  · have hjM : j = M := by
      have : ¬ i < b := by cases hA; exact of_decide_eq_false h1
      omega
    have e0 : ap1 N polC n = len := by subst hN; simp only [apStd, ap1]; omega
    have hT' : polT (polC n) k v a = (k', v', a') := by rw [← hM, ← hjM, hT]
    have e1 : ap4 N polK k v a n = k' := by subst hN; simp only [apStd, ap4]; unfold polK; rw [hT']
    have e2 : ap4 N polV k v a n = v' := by subst hN; simp only [apStd, ap4]; unfold polV; rw [hT']
    have e3 : ap4 N polA k v a n = a' := by subst hN; simp only [apStd, ap4]; unfold polA; rw [hT']
    have e4 : ap4 N polR k v a n = O := by subst hN; simp only [apStd, ap4]; unfold polR; rw [← hM, ← hjM, hO]
    rw [hx, hch, hnw, e0, e1, e2, e3, e4] at hK
    rw [hK]
    cbv
  · have hjM : j < M := by
      have : i < b := by cases hA; exact of_decide_eq_true h1
      omega
    obtain ⟨m', rfl⟩ : ∃ m', m = m' + 1 := ⟨m - 1, by omega⟩
    have ei : ∀ j : Int, 0 ≤ j → j < 64 → fi .add .i64 j 1 = j + 1 := by
      cases hA; intro j h0 h1; show IntKind.i64.wrap _ = _; rw [IntKind.wrap_i64]; omega
    have ho : ok m' (N Int (List Int) (N (List Int) (Int → List Int) (N (List Int) (List Int → Int → List Int) scK k') v') a',
        N Int (List Int) (N (List Int) (Int → List Int) (N (List Int) (List Int → Int → List Int) scV k') v') a',
        N Int Int (N (List Int) (Int → Int) (N (List Int) (List Int → Int → Int) scA k') v') a', gadd len 1,
        rapp O
          [[Sc.int IntKind.u64 (N Int Int l0 (N Int Int (N (List Int) (Int → Int) (N (List Int) (List Int → Int → Int) scX k') v') a')),
            Sc.int IntKind.u64 (N Int Int l1 (N Int Int (N (List Int) (Int → Int) (N (List Int) (List Int → Int → Int) scX k') v') a')),
            Sc.int IntKind.u64 (N Int Int l2 (N Int Int (N (List Int) (Int → Int) (N (List Int) (List Int → Int → Int) scX k') v') a')),
            Sc.int IntKind.u64 (N Int Int l3 (N Int Int (N (List Int) (Int → Int) (N (List Int) (List Int → Int → Int) scX k') v') a'))]],
        fi BinOp.add IntKind.i64 i 1) := by
      rw [hok, ei i hi0 (by omega)]
      cases hA; subst hN
      simp only [apStd]
      exact plOk_mk (j := j + 1) (by omega) (polT_succ hT.symm) (by show len + 1 = j + 1; omega) (polL_succ hT.symm hO) ⟨by omega, by omega⟩
    have g1 : fl (gmul (gadd len 1) 32) 140737488355328 = true := by cases hA; exact decide_eq_true (by show (len + 1) * 32 ≤ _; omega)
    clear hK
    cbv
    refine ⟨ho, ?_, trivial⟩
    simp only [hNF, hNR, fk, fv, fO, g1]

theorem poly0_vc (A : Ar) (N : Ap) (L : LP) (F R : List Int) (n : Int) (x : SV) (hx : x = .nils) (K : Bool → SV → List Blk → Prop) (hK : K = FinH 2 x [] [] (uniR 2 x [] [])) :
    Shut (afun (cxg A L [] [(23, scalarH A N)]) Tryd.f25 [.nilp, .int .i64 n] [⟨.ints .u32 F, .ro⟩, ⟨.ints .u32 R, .ro⟩] K) := by
  obtain ⟨fi, fc, fw, fb, fn, fo, fs, fa, fe, fz, fy, ff, fl, fq, gadd, gsub, gmul, gmin, hlen', hget, hset, happ, hisub, irep, iput', rlen, rint', rbool', rstr', rset, rapp, rsub, rrep, hmkb, hbyts⟩ := A
  apply Shut.mk
  cbv
  rw [hx] at hK
  rw [hK]
  cbv

theorem hcon_poly : HCon Tryd.prog [0, 1] 25 (polyH std apStd) := by
  refine hcon_shut Tryd.func25 rfl (by kernel_rfl) (fun args h x ch nw hF m us w H hv => ?_)
  unfold polyH at hF
  split at hF
  · rename_i y
    obtain ⟨F, bf, R, br, rfl, h4, h5, h6, rfl, rfl, rfl⟩ := nilH_inv hF
    cases hy : SV.i64 y with
    | none => rw [hy] at h6; cases h6
    | some n =>
    have hv' : SV.vals m [.nilp, .int .i64 n] = some us :=
      sameV_vals (l := [.nilp, y]) ⟨fun _ h => h, fun u hu => (i64_of hy hu).1, trivial⟩ hv
    refine ⟨_, [.nilp, .int .i64 n], _, goodg (base := 2) (l := []) (d := [(23, scalarH std apStd)]) dy0 (by decide) (by simp) (by intro p hp; simp at hp; subst hp; exact hcon_scalar),
      rfl, by kernel_rfl, hv', Nat.le_of_ble_eq_true rfl, ?_, ?_, by simp, poly0_vc std apStd (ALoop 2) F R n _ rfl _ rfl⟩
    · exact ⟨⟨kOk_ro h4, rfl, rfl⟩, ⟨kOk_ro h5, rfl, rfl⟩, trivial⟩
    · rfl
  · obtain ⟨xs, F, bf, R, br, st, k, v, nv, a, rfl, rfl, hst, hn, h4, h5, h6, h7, h8, h9, hr⟩ := drH_inv hF
    split at hr
    · rename_i y _
      split at hr
      · rename_i n hy
        simp only [HR.mk.injEq, true_and] at hr
        obtain ⟨rfl, rfl, rfl⟩ := hr
        have hv' : SV.vals m [.ptr 2 0, .int .i64 n] = some us :=
          sameV_vals (l := [.ptr 2 0, y]) ⟨fun _ h => h, fun u hu => (i64_of hy hu).1, trivial⟩ hv
        refine ⟨_, [.ptr 2 0, .int .i64 n], _, goodg (base := 3) (l := []) (d := [(23, scalarH std apStd)]) dy0 (by decide) (by simp) (by intro p hp; simp at hp; subst hp; exact hcon_scalar),
          rfl, by kernel_rfl, hv', Nat.le_of_ble_eq_true rfl, ?_, ?_, by simp, poly_vc std apStd (ALoop 3) F R k v a n rfl rfl rfl h6 h7 h8 h9 _ rfl _ rfl _ rfl _ rfl⟩
        · exact ⟨⟨kOk_ro h4, rfl, rfl⟩, ⟨kOk_ro h5, rfl, rfl⟩, ⟨rfl, drOf_cat hst (i64_sb hn)⟩, trivial⟩
        · rfl
      · simp at hr
    · simp at hr

end Go.Proofs.YtpnpfihjlobonaaDoor
