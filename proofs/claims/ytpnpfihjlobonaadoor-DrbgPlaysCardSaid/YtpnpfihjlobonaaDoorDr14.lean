/- Walks through the reference of the drbg package: some scalars; whether two lists of numbers are the same. It has no conditions. -/
import Derived.Test.YtpnpfihjlobonaaDoorDr13
namespace Go.Proofs.YtpnpfihjlobonaaDoor
open Go.Eng Go.RowKit
set_option maxRecDepth 1000000
set_option maxHeartbeats 4000000
set_option linter.unusedSimpArgs false
set_option linter.unusedVariables false

def rpK (k v : ByteArray) (a n : Int) : ByteArray := mkb (polK (byts k) (byts v) a n)
def rpV (k v : ByteArray) (a n : Int) : ByteArray := mkb (polV (byts k) (byts v) a n)
def rpA (k v : ByteArray) (a n : Int) : Int := polA (byts k) (byts v) a n
def rpR (k v : ByteArray) (a n : Int) : List (List Sc) := polR (byts k) (byts v) a n

def rpolyH (A : Ar) (N : Ap) : HF := fun args h => match args, h with
  | [.agg [.str k, .str v, x], y], [⟨.ints kf F, bf⟩, ⟨.ints kr R, br⟩] => (match SV.i64 x with
    | some a => (match SV.i64 y with
      | some n => ⟨Nat.beq (kn kf) (kn .u32) && (Nat.beq (kn kr) (kn .u32) && (liveK bf && (liveK br && (A.nle (A.size k) 64 && A.nle (A.size v) 64)))),
          .tup [rD (ap4 N rpK k v a n) (ap4 N rpV k v a n) (ap4 N rpA k v a n), .row 2 (ap1 N polC n)], [], [⟨.recs k4 (ap4 N rpR k v a n), .row 4⟩]⟩
      | none => ⟨false, .bad, [], []⟩)
    | none => ⟨false, .bad, [], []⟩)
  | _, _ => ⟨false, .bad, [], []⟩

def rqHd (F R : List Int) (n : Int) : Nat → ByteArray × ByteArray × Int × Nat × List (List Sc) × Int → St
  | _, (k, v, a, len, O, i) => ⟨[(1, .int .i64 n), (2, .ptr 2 0), (4, .ptr 3 0), (6, .row 4 len), (7, .int .i64 i)], [⟨.ints .u32 F, .ro⟩, ⟨.ints .u32 R, .ro⟩, ⟨.lit [.str k, .str v, .int .i64 a], .var⟩, ⟨.lit [.str ByteArray.empty, .str ByteArray.empty, .num .i64 0], .var⟩, ⟨.recs k4 O, .row 4⟩], true⟩
def rqEx (S : St) : ByteArray × ByteArray × Int × Nat × List (List Sc) × Int := (litS S 2 0, litS S 2 1, cellI S 2 2, rowN' S 6, recsAt S 6, slotI S 7)
def rqOk (k v : List Int) (a : Int) (M : Nat) (n : Nat) (d : ByteArray × ByteArray × Int × Nat × List (List Sc) × Int) : Prop :=
  d.1.size ≤ 64 ∧ d.2.1.size ≤ 64 ∧ plOk k v a M n (byts d.1, byts d.2.1, d.2.2.1, d.2.2.2.1, d.2.2.2.2.1, d.2.2.2.2.2)
theorem rqOk_mk {k v : List Int} {a : Int} {M n j : Nat} {k' v' : ByteArray} {a' : Int} {len : Nat} {O : List (List Sc)} {i : Int} (s1 : k'.size ≤ 64) (s2 : v'.size ≤ 64) (h : j + n = M) (h1 : (byts k', byts v', a') = polT j k v a) (h2 : len = j) (h3 : O = polL j k v a) (h4 : i.toNat = j ∧ 0 ≤ i) : rqOk k v a M n (k', v', a', len, O, i) :=
  ⟨s1, s2, plOk_mk h h1 h2 h3 h4⟩
theorem rqOk_ex {k v : List Int} {a : Int} {M n : Nat} {k' v' : ByteArray} {a' : Int} {len : Nat} {O : List (List Sc)} {i : Int} (h : rqOk k v a M n (k', v', a', len, O, i)) : k'.size ≤ 64 ∧ v'.size ≤ 64 ∧ ∃ j : Nat, j + n = M ∧ (byts k', byts v', a') = polT j k v a ∧ len = j ∧ O = polL j k v a ∧ (i.toNat = j ∧ 0 ≤ i) :=
  ⟨h.1, h.2.1, plOk_ex h.2.2⟩

theorem scT_by (m : Nat) : ∀ {k v : List Int} {a : Int}, (∃ s, k = byts s) → (∃ s, v = byts s) → (∃ s, (scR m k v a).1 = byts s) ∧ (∃ s, (scR m k v a).2.1 = byts s) := by
  induction m with
  | zero =>
    intro k v a hk hv
    rw [scR]
    dsimp only
    exact And.intro hk hv
  | succ m ih =>
    rintro k v a ⟨sk, rfl⟩ ⟨sv, rfl⟩
    by_cases h : 0 < fromN (rbS sk sv 32) ∧ fromN (rbS sk sv 32) < qN
    · rw [scR_yes' m sk sv a h]; dsimp only; exact And.intro ⟨_, rfl⟩ ⟨_, rfl⟩
    · rw [scR_no' m sk sv a h]; exact ih ⟨_, rfl⟩ ⟨_, rfl⟩
theorem scK_by (k v : ByteArray) (a : Int) : byts (rsK k v a) = scK (byts k) (byts v) a := by
  obtain ⟨s, hs⟩ := (scT_by 64 (k := byts k) (v := byts v) (a := a) ⟨_, rfl⟩ ⟨_, rfl⟩).1
  unfold rsK scK
  rw [hs, mkb_of_byts]
theorem scV_by (k v : ByteArray) (a : Int) : byts (rsV k v a) = scV (byts k) (byts v) a := by
  obtain ⟨s, hs⟩ := (scT_by 64 (k := byts k) (v := byts v) (a := a) ⟨_, rfl⟩ ⟨_, rfl⟩).2
  unfold rsV scV
  rw [hs, mkb_of_byts]
theorem scT_size (m : Nat) : ∀ {k v : ByteArray} {a : Int}, k.size ≤ 64 → v.size ≤ 64 → (scR m (byts k) (byts v) a).1.length ≤ 64 ∧ (scR m (byts k) (byts v) a).2.1.length ≤ 64 := by
  induction m with
  | zero =>
    intro k v a hk hv
    rw [scR]
    dsimp only
    rw [byts_length, byts_length]
    exact And.intro hk hv
  | succ m ih =>
    intro k v a hk hv
    have e1 := rbK32 k v
    have e2 := rbV32 k v
    by_cases h : 0 < fromN (rbS k v 32) ∧ fromN (rbS k v 32) < qN
    · rw [scR_yes' m k v a h]; dsimp only; rw [byts_length, byts_length]; omega
    · rw [scR_no' m k v a h]; exact ih (by omega) (by omega)
theorem rsK_size {k v : ByteArray} (a : Int) (hk : k.size ≤ 64) (hv : v.size ≤ 64) : (rsK k v a).size ≤ 64 := by
  rw [← byts_length, scK_by]; unfold scK; exact (scT_size 64 hk hv).1
theorem rsV_size {k v : ByteArray} (a : Int) (hk : k.size ≤ 64) (hv : v.size ≤ 64) : (rsV k v a).size ≤ 64 := by
  rw [← byts_length, scV_by]; unfold scV; exact (scT_size 64 hk hv).2

theorem rpoly_vc (A : Ar) (N : Ap) (L : LP) (F R : List Int) (k v : ByteArray) (a n : Int) (hL : L = ALoop 2) (hA : A = std) (hN : N = apStd) (hk : k.size ≤ 64) (hv : v.size ≤ 64)
    (x : SV) (hx : x = .tup [rD (ap4 N rpK k v a n) (ap4 N rpV k v a n) (ap4 N rpA k v a n), .row 2 (ap1 N polC n)]) (nw : List Blk) (hnw : nw = [⟨.recs k4 (ap4 N rpR k v a n), .row 4⟩])
    (K : Bool → SV → List Blk → Prop) (hK : K = FinH 2 x [] nw (uniR 2 x [] nw)) :
    Shut (afun (cxg A L [(30, rscalF A N)] []) Tryd.f31 [.agg [.str k, .str v, .int .i64 a], .int .i64 n] [⟨.ints .u32 F, .ro⟩, ⟨.ints .u32 R, .ro⟩] K) := by
  obtain ⟨fi, fc, fw, fb, fn, fo, fs, fa, fe, fz, fy, ff, fl, fq, gadd, gsub, gmul, gmin, hlen', hget, hset, happ, hisub, irep, iput', rlen, rint', rbool', rstr', rset, rapp, rsub, rrep, hmkb, hbyts, imn, imx⟩ := A
  obtain ⟨M, hM⟩ : ∃ M, M = polC n := ⟨_, rfl⟩
  have hM8 : M ≤ 8 := by rw [hM]; unfold polC; omega
  have hMn : (n ≤ 0 ∧ M = 0) ∨ (0 < n ∧ n ≤ 8 ∧ n.toNat = M) ∨ (8 < n ∧ M = 8) := by rw [hM]; unfold polC; omega
  obtain ⟨ok, hok⟩ : ∃ f, f = rqOk (byts k) (byts v) a M := ⟨_, rfl⟩
  apply Shut.mk
  cbv
  refine lp_ex hL M rqEx (rqHd F R n) ok ?_ ?_ hL (.inr rfl)
  · cbv
    refine ⟨?_, trivial⟩
    rw [hok]
    exact rqOk_mk hk hv (Nat.zero_add M) rfl rfl rfl ⟨rfl, Int.le_refl _⟩
  intro m hm d hd
  obtain ⟨k', v', a', len, O, i⟩ := d
  obtain ⟨s1, s2, j, hj, hT, hlen, hO, hi, hi0⟩ : k'.size ≤ 64 ∧ v'.size ≤ 64 ∧ ∃ j : Nat, j + m = M ∧ (byts k', byts v', a') = polT j (byts k) (byts v) a ∧ len = j ∧ O = polL j (byts k) (byts v) a ∧ (i.toNat = j ∧ 0 ≤ i) := by
    rw [hok] at hd
    exact rqOk_ex hd
  clear hd
  have hOl : O.length = len := by rw [hO, polL_len, hlen]
  have fO : fq (rlen O) len = true := by cases hA; exact decide_eq_true hOl
  have zk : fl (fz k') 64 = true := by cases hA; exact decide_eq_true s1
  have zv : fl (fz v') 64 = true := by cases hA; exact decide_eq_true s2
  have fin : j = M → K = FinH 2 (.tup [rD k' v' a', .row 2 len]) [] [⟨.recs k4 O, .row 4⟩] (uniR 2 (.tup [rD k' v' a', .row 2 len]) [] [⟨.recs k4 O, .row 4⟩]) := by
    intro hjM
    have e0 : ap1 N polC n = len := by subst hN; rw [ap1_std]; omega
    have hT' : polT (polC n) (byts k) (byts v) a = (byts k', byts v', a') := by rw [← hM, ← hjM, hT]
    have e1 : ap4 N rpK k v a n = k' := by subst hN; rw [ap4_std]; unfold rpK polK; rw [hT']; dsimp only; rw [mkb_of_byts]
    have e2 : ap4 N rpV k v a n = v' := by subst hN; rw [ap4_std]; unfold rpV polV; rw [hT']; dsimp only; rw [mkb_of_byts]
    have e3 : ap4 N rpA k v a n = a' := by subst hN; rw [ap4_std]; unfold rpA polA; rw [hT']
    have e4 : ap4 N rpR k v a n = O := by subst hN; rw [ap4_std]; unfold rpR polR; rw [← hM, ← hjM, hO]
    rw [hK, hx, hnw, e0, e1, e2, e3, e4]
  cbv
  cases h1 : fc .lss i n <;> cbv
  · have hjM : j = M := by
      have : ¬ i < n := by cases hA; exact of_decide_eq_false h1
      omega
    rw [fin hjM]
    cbv
  · cases h2 : fc .lss i 8 <;> cbv
    · have hjM : j = M := by
        have : ¬ i < 8 := by cases hA; exact of_decide_eq_false h2
        have : i < n := by cases hA; exact of_decide_eq_true h1
        omega
      rw [fin hjM]
      cbv
    · have hjM : j < M := by
        have : i < 8 := by cases hA; exact of_decide_eq_true h2
        have : i < n := by cases hA; exact of_decide_eq_true h1
        omega
      obtain ⟨m', rfl⟩ : ∃ m', m = m' + 1 := ⟨m - 1, by omega⟩
      have ei : ∀ j : Int, 0 ≤ j → j < 64 → fi .add .i64 j 1 = j + 1 := by
        cases hA; intro j h0 h1; show IntKind.i64.wrap _ = _; rw [IntKind.wrap_i64]; omega
      obtain ⟨X, hX⟩ : ∃ s, ap3 N rsX k' v' a' = s := ⟨_, rfl⟩
      have eX : X = scX (byts k') (byts v') a' := by rw [← hX]; subst hN; rw [ap3_std]; unfold rsX; rfl
      have ho : ok m' (ap3 N rsK k' v' a', ap3 N rsV k' v' a', ap3 N rsA k' v' a', gadd len 1,
          rapp O [[Sc.int IntKind.u64 (N Int Int l0 X), Sc.int IntKind.u64 (N Int Int l1 X), Sc.int IntKind.u64 (N Int Int l2 X), Sc.int IntKind.u64 (N Int Int l3 X)]],
          fi BinOp.add IntKind.i64 i 1) := by
        rw [hok, ei i hi0 (by omega), eX]
        cases hA; subst hN
        rw [ap3_std, ap3_std, ap3_std]
        simp only [apStd_app]
        refine rqOk_mk (j := j + 1) (rsK_size a' s1 s2) (rsV_size a' s1 s2) (by omega) ?_ (by show len + 1 = j + 1; omega) (polL_succ hT.symm hO) ⟨by omega, by omega⟩
        rw [scK_by, scV_by]
        exact polT_succ hT.symm
      have g1 : fl (gmul (gadd len 1) 32) 140737488355328 = true := by cases hA; exact decide_eq_true (by show (len + 1) * 32 ≤ _; omega)
      simp only [ap3] at hX ho
      clear hK fin
      cbv
      simp (maxSteps := 10000000) only [hX]
      refine ⟨ho, ?_, trivial⟩
      simp only [zk, zv, fO, g1]

theorem hcon_rpoly : HCon Tryd.prog [0, 1] 31 (rpolyH std apStd) := by
  refine hcon_shut Tryd.func31 rfl (by kernel_rfl) (fun args h x ch nw hF m us w H hv => ?_)
  unfold rpolyH at hF
  split at hF
  · rename_i k v y z kf F bf kr R br
    split at hF
    · rename_i a hy
      split at hF
      · rename_i n hz
        simp only [HR.mk.injEq, Bool.and_eq_true] at hF
        obtain ⟨⟨h1, h2, h3, h4, h5, h6⟩, rfl, rfl, rfl⟩ := hF
        have h1 := kn_eq h1
        have h2 := kn_eq h2
        subst h1; subst h2
        have h5 : k.size ≤ 64 := by simpa [std] using h5
        have h6 : v.size ≤ 64 := by simpa [std] using h6
        have hv' : SV.vals m [.agg [.str k, .str v, .int .i64 a], .int .i64 n] = some us := by
          have hv2 : SV.vals m [.agg [.str k, .str v, .int .i64 a], z] = some us := by
            unfold SV.i64 at hy
            split at hy <;> first | (cases hy; exact hv) | cases hy
          exact sameV_vals (l := [.agg [.str k, .str v, .int .i64 a], z]) ⟨fun _ h => h, fun u hu => (i64_of hz hu).1, trivial⟩ hv2
        refine ⟨_, [.agg [.str k, .str v, .int .i64 a], .int .i64 n], _, goodg (base := 2) (l := [(30, rscalF std apStd)]) (d := []) dy0 (by decide) (by intro p hp; simp at hp; subst hp; exact con_rscal) (by simp),
          rfl, by kernel_rfl, hv', Nat.le_of_ble_eq_true rfl, ?_, ?_, by simp, rpoly_vc std apStd (ALoop 2) F R k v a n rfl rfl rfl h5 h6 _ rfl _ rfl _ rfl⟩
        · exact ⟨⟨kOk_ro h3, rfl, rfl⟩, ⟨kOk_ro h4, rfl, rfl⟩, trivial⟩
        · rfl
      · simp at hF
    · simp at hF
  · simp at hF

/-! Whether two lists of numbers are the same. -/

def scEq : Sc → Sc → Bool
  | .int k n, .int k' n' => Nat.beq (kn k) (kn k') && decide (n = n')
  | .bool b, .bool b' => b == b'
  | .str s, .str s' => decide (s = s')
  | _, _ => false
def rowEq : List Sc → List Sc → Bool
  | [], [] => true
  | x :: r, y :: s => scEq x y && rowEq r s
  | _, _ => false
def rowsEq : List (List Sc) → List (List Sc) → Bool
  | [], [] => true
  | x :: r, y :: s => rowEq x y && rowsEq r s
  | _, _ => false
theorem scEq_eq : ∀ {x y : Sc}, scEq x y = true → x = y
  | .int k n, .int k' n', h => by simp only [scEq, Bool.and_eq_true] at h; rw [kn_eq h.1, of_decide_eq_true h.2]
  | .bool b, .bool b', h => by simp only [scEq, beq_iff_eq] at h; rw [h]
  | .str s, .str s', h => by simp only [scEq] at h; rw [of_decide_eq_true h]
  | .int _ _, .bool _, h => by cases h
  | .int _ _, .str _, h => by cases h
  | .bool _, .int _ _, h => by cases h
  | .bool _, .str _, h => by cases h
  | .str _, .int _ _, h => by cases h
  | .str _, .bool _, h => by cases h
theorem scEq_refl : ∀ x : Sc, scEq x x = true
  | .int k n => by simp [scEq]
  | .bool b => by simp [scEq]
  | .str s => by simp [scEq]
theorem rowEq_eq : ∀ {x y : List Sc}, rowEq x y = true → x = y
  | [], [], _ => rfl
  | x :: r, y :: s, h => by simp only [rowEq, Bool.and_eq_true] at h; rw [scEq_eq h.1, rowEq_eq h.2]
  | [], _ :: _, h => by cases h
  | _ :: _, [], h => by cases h
theorem rowEq_refl : ∀ x : List Sc, rowEq x x = true
  | [] => rfl
  | x :: r => by simp [rowEq, scEq_refl, rowEq_refl r]
theorem rowsEq_eq : ∀ {x y : List (List Sc)}, rowsEq x y = true → x = y
  | [], [], _ => rfl
  | x :: r, y :: s, h => by simp only [rowsEq, Bool.and_eq_true] at h; rw [rowEq_eq h.1, rowsEq_eq h.2]
  | [], _ :: _, h => by cases h
  | _ :: _, [], h => by cases h
theorem rowsEq_refl : ∀ x : List (List Sc), rowsEq x x = true
  | [] => rfl
  | x :: r => by simp [rowsEq, rowEq_refl, rowsEq_refl r]

/-- Two lists of numbers that are the same: so it says. -/
def numsH (A : Ar) (N : Ap) : HF := fun args h => match args, h with
  | [.row 2 l1, .row 3 l2], [⟨.ints kf F, bf⟩, ⟨.ints kr R, br⟩, ⟨.recs ks L1, b1⟩, ⟨.recs ks' L2, b2⟩] =>
    ⟨Nat.beq (kn kf) (kn .u32) && (Nat.beq (kn kr) (kn .u32) && (liveK bf && (liveK br && (liveK b1 && (liveK b2 && (ckeq ks k4 && (ckeq ks' k4 && (A.neq (A.rlen L1) l1 && (A.neq (A.rlen L2) l2 && (ap2 N rowsEq L1 L2 && A.nle l1 1000000)))))))))), .bool true, [], []⟩
  | _, _ => ⟨false, .bad, [], []⟩

def nuHd (F R : List Int) (O : List (List Sc)) (len : Nat) : Nat → Int → St
  | _, i => ⟨[(0, .row 2 len), (1, .row 3 len), (5, .int .i64 i)], [⟨.ints .u32 F, .ro⟩, ⟨.ints .u32 R, .ro⟩, ⟨.recs k4 O, .ro⟩, ⟨.recs k4 O, .ro⟩], true⟩
def nuEx (S : St) : Int := slotI S 5
def nuOk (M : Nat) (n : Nat) (i : Int) : Prop := 0 ≤ i ∧ i.toNat + n = M

theorem nums_vc (A : Ar) (N : Ap) (L : LP) (F R : List Int) (O : List (List Sc)) (len : Nat) (hL : L = ALoop 4) (hA : A = std) (hO : O.length = len) (hl : len ≤ 1000000)
    (K : Bool → SV → List Blk → Prop) (hK : K = FinH 4 (.bool true) [] [] (uniR 4 (.bool true) [] [])) :
    Shut (afun (cxg A L [] []) Tryd.f32 [.row 2 len, .row 3 len] [⟨.ints .u32 F, .ro⟩, ⟨.ints .u32 R, .ro⟩, ⟨.recs k4 O, .ro⟩, ⟨.recs k4 O, .ro⟩] K) := by
  have he : ∀ x, A.icmp .eql x x = true := fun x => by subst hA; simp [std, icmp]
  have hne : ∀ x, A.icmp .neq x x = false := fun x => by subst hA; simp [std, icmp]
  have hmM : A.icmp .leq (A.ofNat len) 9223372036854775807 = true := by subst hA; exact decide_eq_true (by show (len : Int) ≤ _; omega)
  obtain ⟨fi, fc, fw, fb, fn, fo, fs, fa, fe, fz, fy, ff, fl, fq, gadd, gsub, gmul, gmin, hlen', hget, hset, happ, hisub, irep, iput', rlen, rint', rbool', rstr', rset, rapp, rsub, rrep, hmkb, hbyts, imn, imx⟩ := A
  simp only at he hne hmM
  obtain ⟨ok, hok⟩ : ∃ f, f = nuOk len := ⟨_, rfl⟩
  apply Shut.mk
  cbv
  simp only [hne]
  cbv
  refine lp_ex hL len nuEx (nuHd F R O len) ok ?_ ?_ hL (.inr rfl)
  · cbv
    refine ⟨?_, ?_⟩
    · rw [hok]; exact ⟨Int.le_refl _, Nat.zero_add _⟩
    · exact ⟨by simp only [hmM], trivial⟩
  intro m hm i hd
  obtain ⟨i0, i1⟩ : 0 ≤ i ∧ i.toNat + m = len := by rw [hok] at hd; exact hd
  clear hd
  cbv
  cases h1 : fc .lss i (fo len) <;> cbv
  · refine finH0 hK ?_ rfl rfl
    rw [Bool.and_eq_true]
    refine ⟨by cbv, ?_⟩
    simp only [hmM]
  · have hlt : i.toNat < len := by
      have : i < (len : Int) := by cases hA; exact of_decide_eq_true h1
      omega
    have gb : fb i len = true := by
      cases hA
      show (decide (0 ≤ i) && decide (i < (len : Int))) = true
      rw [decide_eq_true (by omega), decide_eq_true (by omega)]; rfl
    have gl : fl (gadd (fn i) 1) (rlen O) = true := by
      cases hA
      exact decide_eq_true (by show i.toNat + 1 ≤ O.length; omega)
    obtain ⟨m', rfl⟩ : ∃ m', m = m' + 1 := ⟨m - 1, by omega⟩
    have ei : ∀ j : Int, 0 ≤ j → j < 1000001 → fi .add .i64 j 1 = j + 1 := by
      cases hA; intro j h0 h1; show IntKind.i64.wrap _ = _; rw [IntKind.wrap_i64]; omega
    repeat (simp only [he, gb, gl, hmM]; cbv)
    refine ⟨?_, trivial⟩
    rw [hok, ei i i0 (by omega)]
    exact ⟨by omega, by omega⟩

theorem hcon_nums : HCon Tryd.prog [0, 1] 32 (numsH std apStd) := by
  refine hcon_shut Tryd.func32 rfl (by kernel_rfl) (fun args h x ch nw hF m us w H hv => ?_)
  unfold numsH at hF
  split at hF
  · rename_i l1 l2 kf F bf kr R br ks L1 b1 ks' L2 b2
    simp only [HR.mk.injEq, Bool.and_eq_true] at hF
    obtain ⟨⟨h1, h2, h3, h4, h5, h6, h7, h8, h9, h10, h11, h12⟩, rfl, rfl, rfl⟩ := hF
    have h1 := kn_eq h1
    have h2 := kn_eq h2
    have h7 := ckeq_eq h7
    have h8 := ckeq_eq h8
    have h11 : L1 = L2 := rowsEq_eq h11
    subst h1; subst h2; subst h7; subst h8; subst h11
    have h9 : L1.length = l1 := by simpa [std] using h9
    have h10 : L1.length = l2 := by simpa [std] using h10
    have h12 : l1 ≤ 1000000 := by simpa [std] using h12
    have e : l2 = l1 := by omega
    subst e
    refine ⟨_, [.row 2 l2, .row 3 l2], _, goodg (base := 4) (l := []) (d := []) dy0 (by decide) (by simp) (by simp),
      rfl, by kernel_rfl, hv, Nat.le_of_ble_eq_true rfl, ?_, ?_, by simp, nums_vc std apStd (ALoop 4) F R L1 l2 rfl rfl h9 h12 _ rfl⟩
    · exact ⟨⟨kOk_ro h3, rfl, rfl⟩, ⟨kOk_ro h4, rfl, rfl⟩, ⟨kOk_ro h5, rfl, rfl⟩, ⟨kOk_ro h6, rfl, rfl⟩, trivial⟩
    · rfl
  · simp at hF

/-! Whether asks are not too many, and not too great. -/

def askOk (L : List (List Sc)) (j : Nat) : Prop := (rstr L j 2).size ≤ 1000 ∧ ¬ (rint L j 0 = 0 ∧ (500 < rint L j 1 ∧ rint L j 1 ≤ 4096))
instance (L : List (List Sc)) (j : Nat) : Decidable (askOk L j) := by unfold askOk; infer_instance
def fewB (s : ByteArray) (L : List (List Sc)) : Bool := decide (s.size ≤ 1000) && (decide (L.length ≤ 12) && decide (∀ j, j < L.length → askOk L j))
def strOkB (L : List (List Sc)) : Bool := decide (∀ j, j < L.length → (rstr L j 2).size ≤ 9223372036854775807)
abbrev kAsk : List CK := [.int .i64, .int .i64, .str]

def fewH (A : Ar) (N : Ap) : HF := fun args h => match args, h with
  | [.str s, .row 2 l1], [⟨.ints kf F, bf⟩, ⟨.ints kr R, br⟩, ⟨.recs ks L1, b1⟩] =>
    ⟨Nat.beq (kn kf) (kn .u32) && (Nat.beq (kn kr) (kn .u32) && (liveK bf && (liveK br && (liveK b1 && (ckeq ks kAsk && (A.neq (A.rlen L1) l1 && (A.icmp .leq (A.ofNat l1) 9223372036854775807 && (A.icmp .leq (A.ofNat (A.size s)) 9223372036854775807 && ap1 N strOkB L1)))))))), .bool (ap2 N fewB s L1), [], []⟩
  | _, _ => ⟨false, .bad, [], []⟩

def feHd (F R : List Int) (O : List (List Sc)) (len : Nat) : Nat → Int → St
  | _, i => ⟨[(1, .row 2 len), (5, .int .i64 i)], [⟨.ints .u32 F, .ro⟩, ⟨.ints .u32 R, .ro⟩, ⟨.recs kAsk O, .ro⟩], true⟩
def feOk (O : List (List Sc)) (M : Nat) (n : Nat) (i : Int) : Prop := 0 ≤ i ∧ i.toNat + n = M ∧ ∀ j, j < i.toNat → askOk O j

theorem few_vc (A : Ar) (N : Ap) (L : LP) (F R : List Int) (s : ByteArray) (O : List (List Sc)) (len : Nat) (hL : L = ALoop 3) (hA : A = std) (hN : N = apStd) (hO : O.length = len) (hl : A.icmp .leq (A.ofNat len) 9223372036854775807 = true) (hs : A.icmp .leq (A.ofNat (A.size s)) 9223372036854775807 = true) (hst : strOkB O = true)
    (x : SV) (hx : x = .bool (ap2 N fewB s O)) (K : Bool → SV → List Blk → Prop) (hK : K = FinH 3 x [] [] (uniR 3 x [] [])) :
    Shut (afun (cxg A L [] []) Tryd.f27 [.str s, .row 2 len] [⟨.ints .u32 F, .ro⟩, ⟨.ints .u32 R, .ro⟩, ⟨.recs kAsk O, .ro⟩] K) := by
  obtain ⟨fi, fc, fw, fb, fn, fo, fs, fa, fe, fz, fy, ff, fl, fq, gadd, gsub, gmul, gmin, hlen', hget, hset, happ, hisub, irep, iput', rlen, rint', rbool', rstr', rset, rapp, rsub, rrep, hmkb, hbyts, imn, imx⟩ := A
  simp only at hl hs
  obtain ⟨b, hb⟩ : ∃ b, b = ap2 N fewB s O := ⟨_, rfl⟩
  have hbe : b = fewB s O := by rw [hb]; subst hN; rw [ap2_std]
  rw [← hb] at hx
  have no1 : ¬ s.size ≤ 1000 → b = false := by intro h; rw [hbe]; unfold fewB; rw [decide_eq_false h]; rfl
  have no2 : ¬ len ≤ 12 → b = false := by intro h; rw [hbe]; unfold fewB; rw [hO, decide_eq_false h]; simp
  have no3 : ∀ j, j < len → ¬ askOk O j → b = false := by
    intro j hj h; rw [hbe]; unfold fewB
    rw [decide_eq_false (p := ∀ j, j < O.length → askOk O j) (fun hh => h (hh j (by omega)))]; simp
  have yes : s.size ≤ 1000 → len ≤ 12 → (∀ j, j < len → askOk O j) → b = true := by
    intro h1 h2 h3; rw [hbe]; unfold fewB; rw [hO, decide_eq_true h1, decide_eq_true h2, decide_eq_true h3]; rfl
  obtain ⟨ok, hok⟩ : ∃ f, f = feOk O len := ⟨_, rfl⟩
  apply Shut.mk
  cbv
  cases h1 : fc .gtr (fo (fz s)) 1000 <;> cbv
  · have z1 : s.size ≤ 1000 := by
      cases hA
      have h1 : ¬ ((s.size : Int) > 1000) := of_decide_eq_false h1
      omega
    cases h2 : fc .gtr (fo len) 12 <;> cbv
    · have z2 : len ≤ 12 := by
        cases hA
        have h2 : ¬ ((len : Int) > 12) := of_decide_eq_false h2
        omega
      refine lp_ex hL len nuEx (feHd F R O len) ok ?_ ?_ hL (.inr rfl)
      · cbv
        refine ⟨?_, ?_⟩
        · rw [hok]; exact ⟨Int.le_refl _, Nat.zero_add _, fun j hj => absurd hj (Nat.not_lt_zero _)⟩
        · simp only [hs, hl]; exact ⟨trivial, trivial⟩
      intro m hm i hd
      obtain ⟨i0, i1, i2⟩ : 0 ≤ i ∧ i.toNat + m = len ∧ ∀ j, j < i.toNat → askOk O j := by rw [hok] at hd; exact hd
      clear hd
      cbv
      cases h3 : fc .lss i (fo len) <;> cbv
      · have hj : i.toNat = len := by
          have : ¬ i < (len : Int) := by cases hA; exact of_decide_eq_false h3
          omega
        rw [yes z1 z2 (fun j hj' => i2 j (by omega))] at hx
        subst hx
        refine finH0 hK ?_ rfl rfl
        rw [Bool.and_eq_true]
        refine ⟨by cbv, ?_⟩
        simp only [hs, hl]
      · have hlt : i.toNat < len := by
          have : i < (len : Int) := by cases hA; exact of_decide_eq_true h3
          omega
        have gb : fb i len = true := by
          cases hA
          show (decide (0 ≤ i) && decide (i < (len : Int))) = true
          rw [decide_eq_true (by omega), decide_eq_true (by omega)]; rfl
        have gl : fl (gadd (fn i) 1) (rlen O) = true := by
          cases hA
          exact decide_eq_true (by show i.toNat + 1 ≤ O.length; omega)
        have gst : (rstr O i.toNat 2).size ≤ 9223372036854775807 := (of_decide_eq_true hst) i.toNat (by omega)
        have gs : fc .leq (fo (fz (rstr' O (fn i) 2))) 9223372036854775807 = true := by
          cases hA; exact decide_eq_true (by show ((rstr O i.toNat 2).size : Int) ≤ _; omega)
        have ei : ∀ j : Int, 0 ≤ j → j < 64 → fi .add .i64 j 1 = j + 1 := by
          cases hA; intro j h0 h1; show IntKind.i64.wrap _ = _; rw [IntKind.wrap_i64]; omega
        obtain ⟨m', rfl⟩ : ∃ m', m = m' + 1 := ⟨m - 1, by omega⟩
        have next : askOk O i.toNat → ok m' (fi .add .i64 i 1) := by
          intro h
          rw [hok, ei i i0 (by omega)]
          refine ⟨by omega, by omega, fun j hj => ?_⟩
          rcases Nat.lt_or_ge j i.toNat with hj' | hj'
          · exact i2 j hj'
          · have : j = i.toNat := by omega
            rw [this]; exact h
        have q0 : ∀ f, rint' O (fn i) f = rint O i.toNat f := by cases hA; intro f; rfl
        have q2 : fc .gtr (fo (fz (rstr' O (fn i) 2))) 1000 = decide (1000 < (rstr O i.toNat 2).size) := by
          cases hA
          show decide (((rstr O i.toNat 2).size : Int) > 1000) = _
          exact decide_eq_decide.2 (by omega)
        have bad : ¬ askOk O i.toNat → K = FinH 3 (.bool false) [] [] (uniR 3 (.bool false) [] []) := by
          intro h
          rw [hK, hx, no3 i.toNat hlt h]
        cases h4 : fc .gtr (fo (fz (rstr' O (fn i) 2))) 1000 <;> cbv
        · have w1 : (rstr O i.toNat 2).size ≤ 1000 := by
            rw [q2] at h4
            have := of_decide_eq_false h4
            omega
          cases h5 : fc .eql (rint' O (fn i) 0) 0 <;> cbv
          · have w2 : rint O i.toNat 0 ≠ 0 := by
              rw [q0] at h5
              cases hA
              simpa [icmp] using h5
            refine ⟨next ⟨w1, fun hh => w2 hh.1⟩, ?_, trivial⟩
            simp only [gb, gl, gs, hl, hs]
          · have w2 : rint O i.toNat 0 = 0 := by
              rw [q0] at h5
              cases hA
              simpa [icmp] using h5
            cases h6 : fc .gtr (rint' O (fn i) 1) 500 <;> cbv
            · have w3 : ¬ 500 < rint O i.toNat 1 := by
                rw [q0] at h6
                cases hA
                exact of_decide_eq_false h6
              refine ⟨next ⟨w1, fun hh => w3 hh.2.1⟩, ?_, trivial⟩
              simp only [gb, gl, gs, hl, hs]
            · have w3 : 500 < rint O i.toNat 1 := by
                rw [q0] at h6
                cases hA
                exact of_decide_eq_true h6
              cases h7 : fc .leq (rint' O (fn i) 1) 4096 <;> cbv
              · have w4 : ¬ rint O i.toNat 1 ≤ 4096 := by
                  rw [q0] at h7
                  cases hA
                  exact of_decide_eq_false h7
                refine ⟨next ⟨w1, fun hh => w4 hh.2.2⟩, ?_, trivial⟩
                simp only [gb, gl, gs, hl, hs]
              · have w4 : rint O i.toNat 1 ≤ 4096 := by
                  rw [q0] at h7
                  cases hA
                  exact of_decide_eq_true h7
                rw [bad (fun hh => hh.2 ⟨w2, w3, w4⟩)]
                refine finH0 rfl ?_ rfl rfl
                rw [Bool.and_eq_true]
                refine ⟨by cbv, ?_⟩
                simp only [gb, gl, gs, hl, hs]
        · have w1 : ¬ (rstr O i.toNat 2).size ≤ 1000 := by
            rw [q2] at h4
            have := of_decide_eq_true h4
            omega
          rw [bad (fun hh => w1 hh.1)]
          refine finH0 rfl ?_ rfl rfl
          rw [Bool.and_eq_true]
          refine ⟨by cbv, ?_⟩
          simp only [gb, gl, gs, hl, hs]
    · have z2 : ¬ len ≤ 12 := by
        cases hA
        have h2 : ((len : Int) > 12) := of_decide_eq_true h2
        omega
      rw [no2 z2] at hx
      subst hx
      refine finH0 hK ?_ rfl rfl
      rw [Bool.and_eq_true]
      refine ⟨by cbv, ?_⟩
      simp only [hs, hl]
  · have z1 : ¬ s.size ≤ 1000 := by
      cases hA
      have h1 : ((s.size : Int) > 1000) := of_decide_eq_true h1
      omega
    rw [no1 z1] at hx
    subst hx
    refine finH0 hK ?_ rfl rfl
    rw [Bool.and_eq_true]
    refine ⟨by cbv, ?_⟩
    simp only [hs, hl]

theorem hcon_few : HCon Tryd.prog [0, 1] 27 (fewH std apStd) := by
  refine hcon_shut Tryd.func27 rfl (by kernel_rfl) (fun args h x ch nw hF m us w H hv => ?_)
  unfold fewH at hF
  split at hF
  · rename_i s l1 kf F bf kr R br ks L1 b1
    simp only [HR.mk.injEq, Bool.and_eq_true] at hF
    obtain ⟨⟨h1, h2, h3, h4, h5, h6, h7, h8, h9, h10⟩, rfl, rfl, rfl⟩ := hF
    have h1 := kn_eq h1
    have h2 := kn_eq h2
    have h6 := ckeq_eq h6
    subst h1; subst h2; subst h6
    have h7 : L1.length = l1 := by simpa [std] using h7
    refine ⟨_, [.str s, .row 2 l1], _, goodg (base := 3) (l := []) (d := []) dy0 (by decide) (by simp) (by simp),
      rfl, by kernel_rfl, hv, Nat.le_of_ble_eq_true rfl, ?_, ?_, by simp, few_vc std apStd (ALoop 3) F R s L1 l1 rfl rfl rfl h7 h8 h9 h10 _ rfl _ rfl⟩
    · exact ⟨⟨kOk_ro h3, rfl, rfl⟩, ⟨kOk_ro h4, rfl, rfl⟩, ⟨kOk_ro h5, rfl, rfl⟩, trivial⟩
    · rfl
  · simp at hF

end Go.Proofs.YtpnpfihjlobonaaDoor
