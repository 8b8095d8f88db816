/- Walks through shamir and its reference: shares; whether two lists are the same. It has no conditions. -/
import Derived.Test.YtnhobbdijdbbeaaSh4
import Derived.Test.YtnhobbdijdbbeaaNorm
namespace Go.Proofs.Ytnhobbdijdbbeaa
open Go.Eng Go.RowKit
set_option maxRecDepth 1000000
set_option maxHeartbeats 4000000
set_option linter.unusedSimpArgs false
set_option linter.unusedVariables false

abbrev kS : List CK := [.int .i64, .int .u64, .int .u64, .int .u64, .int .u64]
def shRow (a v : Int) : List Sc := [.int .i64 a, .int .u64 (l0 v), .int .u64 (l1 v), .int .u64 (l2 v), .int .u64 (l3 v)]
def shL (L : List (List Sc)) : Nat → List (List Sc)
  | 0 => []
  | j + 1 => shL L j ++ [shRow ((j + 1 : Nat) : Int) (evL L ((j + 1 : Nat) : Int))]
def shC (n : Int) : Nat := (min n 7).toNat
def shR (L : List (List Sc)) (n : Int) : List (List Sc) := shL L (shC n)
theorem shL_len (L : List (List Sc)) : ∀ j, (shL L j).length = j
  | 0 => rfl
  | j + 1 => by simp [shL, shL_len L j]

def sharesH (A : Ar) (N : Ap) : HF := fun args h => match args, h with
  | [.row 0 n, y], [⟨.recs ks L, b⟩] => (match y.i64 with
    | some a => ⟨liveK b && (ckeq ks k4 && (A.neq (A.rlen L) n && (A.nle n 1000000 && ap1 N rowsW L))), .row 1 (ap1 N shC a), [], [⟨.recs kS (ap2 N shR L a), .row 5⟩]⟩
    | none => ⟨false, .bad, [], []⟩)
  | _, _ => ⟨false, .bad, [], []⟩

def shHd (O : List (List Sc)) (len : Nat) (n : Int) : Nat → Nat × List (List Sc) × Int → St
  | _, (l, R, i) => ⟨[(0, .row 0 len), (1, .int .i64 n), (5, .row 1 l), (6, .int .i64 i)], [⟨.recs k4 O, .ro⟩, ⟨.recs kS R, .row 5⟩], true⟩
def rowN' (S : St) (i : Nat) : Nat := match Eng.look S.t i with
  | .row _ n => n
  | _ => 0
def recsAt (ks : List CK) (S : St) (i : Nat) : List (List Sc) := match Eng.look S.t i with
  | .row w _ => (match (blkAt S.h w).c with
    | .recs _ l => l
    | .lit l => (chunk ks l.length l).getD []
    | _ => [])
  | _ => []
def shEx (S : St) : Nat × List (List Sc) × Int := (rowN' S 5, recsAt kS S 5, slotI S 6)
def shOk (O : List (List Sc)) (M : Nat) (n : Nat) (d : Nat × List (List Sc) × Int) : Prop :=
  n ≤ M ∧ d.1 = M - n ∧ d.2.1 = shL O (M - n) ∧ 1 ≤ d.2.2 ∧ d.2.2.toNat = M - n + 1
theorem shOk_mk {O : List (List Sc)} {M n j : Nat} {l : Nat} {R : List (List Sc)} {i : Int} (h : j + n = M) (h1 : l = j) (h2 : R = shL O j) (h3 : 1 ≤ i) (h4 : i.toNat = j + 1) : shOk O M n (l, R, i) := by
  have e : M - n = j := by omega
  unfold shOk
  rw [e]
  exact ⟨by omega, h1, h2, h3, h4⟩
theorem shOk_ex {O : List (List Sc)} {M n : Nat} {l : Nat} {R : List (List Sc)} {i : Int} (h : shOk O M n (l, R, i)) : ∃ j, j + n = M ∧ l = j ∧ R = shL O j ∧ 1 ≤ i ∧ i.toNat = j + 1 := by
  unfold shOk at h
  obtain ⟨h0, h1, h2, h3, h4⟩ := h
  exact ⟨M - n, by omega, h1, h2, h3, h4⟩

theorem hshares_vc (A : Ar) (N : Ap) (L : LP) (O : List (List Sc)) (len : Nat) (n : Int) (hL : L = ALoop 1) (hA : A = std) (hN : N = apStd) (hO : O.length = len) (hl : len ≤ 1000000) (hW : rowsW O = true)
    (x : SV) (hx : x = .row 1 (ap1 N shC n)) (nw : List Blk) (hnw : nw = [⟨.recs kS (ap2 N shR O n), .row 5⟩]) (K : Bool → SV → List Blk → Prop) (hK : K = FinH 1 x [] nw (uniR 1 x [] nw)) :
    Shut (afun (cxs A L [] [(13, evalH A N)]) Try.f16 [.row 0 len, .int .i64 n] [⟨.recs k4 O, .ro⟩] K) := by
  obtain ⟨fi, fc, fw, fb, fn, fo, fs, fa, fe, fz, fy, ff, fl, fq, gadd, gsub, gmul, gmin, hlen', hget, hset, happ, hisub, irep, iput', rlen, rint', rbool', rstr', rset, rapp, rsub, rrep, hmkb, hbyts, imn, imx⟩ := A
  obtain ⟨M, hM⟩ : ∃ M, shC n = M := ⟨_, rfl⟩
  have hM7 : M = (min n 7).toNat := by rw [← hM]; rfl
  have gO : fq (rlen O) len = true := by cases hA; exact decide_eq_true hO
  have hln : fl len 1000000 = true := by cases hA; exact decide_eq_true hl
  have gw : N (List (List Sc)) Bool rowsW O = true := by subst hN; rw [apStd_app]; exact hW
  obtain ⟨ok, hok⟩ : ∃ f, f = shOk O M := ⟨_, rfl⟩
  apply Shut.mk
  cbv
  refine lp_ex hL M shEx (shHd O len n) ok ?_ ?_ hL (.inr rfl)
  · cbv
    refine ⟨?_, trivial⟩
    rw [hok]
    exact shOk_mk (Nat.zero_add M) rfl rfl (Int.le_refl _) rfl
  intro m hm d hd
  obtain ⟨l, R, i⟩ := d
  obtain ⟨j, hj, hl1, hR, i1, i2⟩ : ∃ j, j + m = M ∧ l = j ∧ R = shL O j ∧ 1 ≤ i ∧ i.toNat = j + 1 := by
    rw [hok] at hd
    exact shOk_ex hd
  clear hd
  have hRl : R.length = l := by rw [hR, shL_len, hl1]
  have gR : fq (rlen R) l = true := by cases hA; exact decide_eq_true hRl
  have fin : j = M → K = FinH 1 (.row 1 l) [] [⟨.recs kS R, .row 5⟩] (uniR 1 (.row 1 l) [] [⟨.recs kS R, .row 5⟩]) := by
    intro hjM
    have e0 : ap1 N shC n = l := by subst hN; rw [ap1_std, hM]; omega
    have e1 : ap2 N shR O n = R := by subst hN; rw [ap2_std]; unfold shR; rw [hM, ← hjM, hR]
    rw [hK, hx, hnw, e0, e1]
  cbv
  obtain ⟨B, hB⟩ : ∃ B, imn n 7 = B := ⟨_, rfl⟩
  have eB : B = min n 7 := by rw [← hB]; cases hA; simp only [std]; split <;> omega
  simp only [hB]
  cases h1 : fc .leq i B <;> cbv
  · have : ¬ i ≤ B := by cases hA; exact of_decide_eq_false h1
    rw [fin (by omega)]
    cbv
  · have q0 : i ≤ B := by cases hA; exact of_decide_eq_true h1
    have q1 : i ≤ n := by omega
    have q2 : i ≤ 7 := by omega
    have hjM : j < M := by omega
    obtain ⟨m', rfl⟩ : ∃ m', m = m' + 1 := ⟨m - 1, by omega⟩
    have ei : fi .add .i64 i 1 = i + 1 := by
      cases hA; show IntKind.i64.wrap (i + 1) = _; rw [IntKind.wrap_i64]; omega
    obtain ⟨X, hX⟩ : ∃ X, ap2 N evL O i = X := ⟨_, rfl⟩
    have eX : X = evL O i := by rw [← hX]; subst hN; rw [ap2_std]
    have next : ok m' (gadd l 1, rapp R [[.int .i64 i, .int .u64 (ap1 N l0 X), .int .u64 (ap1 N l1 X), .int .u64 (ap1 N l2 X), .int .u64 (ap1 N l3 X)]], fi .add .i64 i 1) := by
      rw [hok, ei]
      cases hA; subst hN
      rw [ap1_std, ap1_std, ap1_std, ap1_std]
      have e1 : ((j + 1 : Nat) : Int) = i := by omega
      refine shOk_mk (j := j + 1) (by omega) (by show l + 1 = j + 1; omega) ?_ (by omega) (by omega)
      rw [shL, e1, ← eX, hR]
      rfl
    have g1 : fl (gmul (gadd l 1) 40) 140737488355328 = true := by cases hA; exact decide_eq_true (by show (l + 1) * 40 ≤ _; omega)
    simp only [ap1, ap2] at hX next
    clear hK fin
    cbv
    repeat (simp only [hX, gO, gR, gw, hln, g1]; cbv)
    exact ⟨next, trivial⟩

theorem hcon_hshares : HCon Try.prog [] 16 (sharesH std apStd) := by
  refine hcon_shut Try.func16 rfl (by kernel_rfl) (fun args h x ch nw hF m us w H hv => ?_)
  unfold sharesH at hF
  split at hF
  · rename_i n y ks O b
    split at hF
    · rename_i a hy
      simp only [HR.mk.injEq, Bool.and_eq_true] at hF
      obtain ⟨⟨h1, h2, h3, h4, h5⟩, rfl, rfl, rfl⟩ := hF
      have h2 := ckeq_eq h2
      subst h2
      have h3 : O.length = n := by simpa [std] using h3
      have h4 : n ≤ 1000000 := by simpa [std] using h4
      simp only [SV.vals, Option.bind_eq_some_iff, Option.map_eq_some_iff] at hv
      obtain ⟨u1, hu1, us1, ⟨u2, hu2, us2, e2, rfl⟩, rfl⟩ := hv
      obtain ⟨hu2', wa⟩ := i64_val hy hu2
      refine ⟨_, [.row 0 n, .int .i64 a], _, goods (base := 1) (l := []) (d := [(13, evalH std apStd)]) (by simp) (by intro p hp; simp at hp; subst hp; exact hcon_hev),
        rfl, by kernel_rfl, by simp [SV.vals, hu1, hu2', e2], Nat.le_of_ble_eq_true rfl, ?_, rfl, by simp, hshares_vc std apStd (ALoop 1) O n a rfl rfl rfl h3 h4 h5 _ rfl _ rfl _ rfl⟩
      exact ⟨⟨kOk_ro h1, rfl, rfl⟩, trivial⟩
    · simp at hF
  · simp at hF

theorem rshares_vc (A : Ar) (N : Ap) (L : LP) (O : List (List Sc)) (len : Nat) (n : Int) (hL : L = ALoop 1) (hA : A = std) (hN : N = apStd) (hO : O.length = len) (hl : len ≤ 1000000) (hW : rowsW O = true)
    (x : SV) (hx : x = .row 1 (ap1 N shC n)) (nw : List Blk) (hnw : nw = [⟨.recs kS (ap2 N shR O n), .row 5⟩]) (K : Bool → SV → List Blk → Prop) (hK : K = FinH 1 x [] nw (uniR 1 x [] nw)) :
    Shut (afun (cxs A L [] [(14, evalH A N)]) Try.f17 [.row 0 len, .int .i64 n] [⟨.recs k4 O, .ro⟩] K) := by
  obtain ⟨fi, fc, fw, fb, fn, fo, fs, fa, fe, fz, fy, ff, fl, fq, gadd, gsub, gmul, gmin, hlen', hget, hset, happ, hisub, irep, iput', rlen, rint', rbool', rstr', rset, rapp, rsub, rrep, hmkb, hbyts, imn, imx⟩ := A
  obtain ⟨M, hM⟩ : ∃ M, shC n = M := ⟨_, rfl⟩
  have hM7 : M = (min n 7).toNat := by rw [← hM]; rfl
  have gO : fq (rlen O) len = true := by cases hA; exact decide_eq_true hO
  have hln : fl len 1000000 = true := by cases hA; exact decide_eq_true hl
  have gw : N (List (List Sc)) Bool rowsW O = true := by subst hN; rw [apStd_app]; exact hW
  obtain ⟨ok, hok⟩ : ∃ f, f = shOk O M := ⟨_, rfl⟩
  apply Shut.mk
  cbv
  refine lp_ex hL M shEx (shHd O len n) ok ?_ ?_ hL (.inr rfl)
  · cbv
    refine ⟨?_, trivial⟩
    rw [hok]
    exact shOk_mk (Nat.zero_add M) rfl rfl (Int.le_refl _) rfl
  intro m hm d hd
  obtain ⟨l, R, i⟩ := d
  obtain ⟨j, hj, hl1, hR, i1, i2⟩ : ∃ j, j + m = M ∧ l = j ∧ R = shL O j ∧ 1 ≤ i ∧ i.toNat = j + 1 := by
    rw [hok] at hd
    exact shOk_ex hd
  clear hd
  have hRl : R.length = l := by rw [hR, shL_len, hl1]
  have gR : fq (rlen R) l = true := by cases hA; exact decide_eq_true hRl
  have fin : j = M → K = FinH 1 (.row 1 l) [] [⟨.recs kS R, .row 5⟩] (uniR 1 (.row 1 l) [] [⟨.recs kS R, .row 5⟩]) := by
    intro hjM
    have e0 : ap1 N shC n = l := by subst hN; rw [ap1_std, hM]; omega
    have e1 : ap2 N shR O n = R := by subst hN; rw [ap2_std]; unfold shR; rw [hM, ← hjM, hR]
    rw [hK, hx, hnw, e0, e1]
  cbv
  cases h1 : fc .leq i n <;> cbv
  · have : ¬ i ≤ n := by cases hA; exact of_decide_eq_false h1
    rw [fin (by omega)]
    cbv
  · have q1 : i ≤ n := by cases hA; exact of_decide_eq_true h1
    cases h2 : fc .leq i 7 <;> cbv
    · have : ¬ i ≤ 7 := by cases hA; exact of_decide_eq_false h2
      rw [fin (by omega)]
      cbv
    · have q2 : i ≤ 7 := by cases hA; exact of_decide_eq_true h2
      have hjM : j < M := by omega
      obtain ⟨m', rfl⟩ : ∃ m', m = m' + 1 := ⟨m - 1, by omega⟩
      have ei : fi .add .i64 i 1 = i + 1 := by
        cases hA; show IntKind.i64.wrap (i + 1) = _; rw [IntKind.wrap_i64]; omega
      obtain ⟨X, hX⟩ : ∃ X, ap2 N evL O i = X := ⟨_, rfl⟩
      have eX : X = evL O i := by rw [← hX]; subst hN; rw [ap2_std]
      have next : ok m' (gadd l 1, rapp R [[.int .i64 i, .int .u64 (ap1 N l0 X), .int .u64 (ap1 N l1 X), .int .u64 (ap1 N l2 X), .int .u64 (ap1 N l3 X)]], fi .add .i64 i 1) := by
        rw [hok, ei]
        cases hA; subst hN
        rw [ap1_std, ap1_std, ap1_std, ap1_std]
        have e1 : ((j + 1 : Nat) : Int) = i := by omega
        refine shOk_mk (j := j + 1) (by omega) (by show l + 1 = j + 1; omega) ?_ (by omega) (by omega)
        rw [shL, e1, ← eX, hR]
        rfl
      have g1 : fl (gmul (gadd l 1) 40) 140737488355328 = true := by cases hA; exact decide_eq_true (by show (l + 1) * 40 ≤ _; omega)
      simp only [ap1, ap2] at hX next
      clear hK fin
      cbv
      repeat (simp only [hX, gO, gR, gw, hln, g1]; cbv)
      exact ⟨next, trivial⟩

theorem hcon_rshares : HCon Try.prog [] 17 (sharesH std apStd) := by
  refine hcon_shut Try.func17 rfl (by kernel_rfl) (fun args h x ch nw hF m us w H hv => ?_)
  unfold sharesH at hF
  split at hF
  · rename_i n y ks O b
    split at hF
    · rename_i a hy
      simp only [HR.mk.injEq, Bool.and_eq_true] at hF
      obtain ⟨⟨h1, h2, h3, h4, h5⟩, rfl, rfl, rfl⟩ := hF
      have h2 := ckeq_eq h2
      subst h2
      have h3 : O.length = n := by simpa [std] using h3
      have h4 : n ≤ 1000000 := by simpa [std] using h4
      simp only [SV.vals, Option.bind_eq_some_iff, Option.map_eq_some_iff] at hv
      obtain ⟨u1, hu1, us1, ⟨u2, hu2, us2, e2, rfl⟩, rfl⟩ := hv
      obtain ⟨hu2', wa⟩ := i64_val hy hu2
      refine ⟨_, [.row 0 n, .int .i64 a], _, goods (base := 1) (l := []) (d := [(14, evalH std apStd)]) (by simp) (by intro p hp; simp at hp; subst hp; exact hcon_rev),
        rfl, by kernel_rfl, by simp [SV.vals, hu1, hu2', e2], Nat.le_of_ble_eq_true rfl, ?_, rfl, by simp, rshares_vc std apStd (ALoop 1) O n a rfl rfl rfl h3 h4 h5 _ rfl _ rfl _ rfl⟩
      exact ⟨⟨kOk_ro h1, rfl, rfl⟩, trivial⟩
    · simp at hF
  · simp at hF

/-! Whether two lists are the same. -/

def scEq : Sc → Sc → Bool
  | .int k n, .int k' n' => Nat.beq (kn k) (kn k') && decide (n = n')
  | .bool b, .bool b' => b == b'
  | .str s, .str s' => decide (s = s')
  | _, _ => false
def rowEq : List Sc → List Sc → Bool
  | [], [] => true
  | x :: r, y :: s => scEq x y && rowEq r s
  | _, _ => false
def rowsEq : List (List Sc) → List (List Sc) → Bool
  | [], [] => true
  | x :: r, y :: s => rowEq x y && rowsEq r s
  | _, _ => false
theorem scEq_eq : ∀ {x y : Sc}, scEq x y = true → x = y
  | .int k n, .int k' n', h => by simp only [scEq, Bool.and_eq_true] at h; rw [kn_eq h.1, of_decide_eq_true h.2]
  | .bool b, .bool b', h => by simp only [scEq, beq_iff_eq] at h; rw [h]
  | .str s, .str s', h => by simp only [scEq] at h; rw [of_decide_eq_true h]
  | .int _ _, .bool _, h => by cases h
  | .int _ _, .str _, h => by cases h
  | .bool _, .int _ _, h => by cases h
  | .bool _, .str _, h => by cases h
  | .str _, .int _ _, h => by cases h
  | .str _, .bool _, h => by cases h
theorem scEq_refl : ∀ x : Sc, scEq x x = true
  | .int k n => by simp [scEq]
  | .bool b => by simp [scEq]
  | .str s => by simp [scEq]
theorem rowEq_eq : ∀ {x y : List Sc}, rowEq x y = true → x = y
  | [], [], _ => rfl
  | x :: r, y :: s, h => by simp only [rowEq, Bool.and_eq_true] at h; rw [scEq_eq h.1, rowEq_eq h.2]
  | [], _ :: _, h => by cases h
  | _ :: _, [], h => by cases h
theorem rowEq_refl : ∀ x : List Sc, rowEq x x = true
  | [] => rfl
  | x :: r => by simp [rowEq, scEq_refl, rowEq_refl r]
theorem rowsEq_eq : ∀ {x y : List (List Sc)}, rowsEq x y = true → x = y
  | [], [], _ => rfl
  | x :: r, y :: s, h => by simp only [rowsEq, Bool.and_eq_true] at h; rw [rowEq_eq h.1, rowsEq_eq h.2]
  | [], _ :: _, h => by cases h
  | _ :: _, [], h => by cases h
theorem rowsEq_refl : ∀ x : List (List Sc), rowsEq x x = true
  | [] => rfl
  | x :: r => by simp [rowsEq, rowEq_refl, rowsEq_refl r]

/-- Two lists that are the same: so it says. -/
def sameH (ks0 : List CK) (A : Ar) (N : Ap) : HF := fun args h => match args, h with
  | [.row 0 n1, .row 1 n2], [⟨.recs ks L1, b1⟩, ⟨.recs ks' L2, b2⟩] =>
    ⟨liveK b1 && (liveK b2 && (ckeq ks ks0 && (ckeq ks' ks0 && (A.neq (A.rlen L1) n1 && (A.neq (A.rlen L2) n2 && (ap2 N rowsEq L1 L2 && A.nle n1 1000000)))))), .bool true, [], []⟩
  | _, _ => ⟨false, .bad, [], []⟩
def nuEx (S : St) : Int := slotI S 5
def nuOk (M : Nat) (n : Nat) (i : Int) : Prop := 0 ≤ i ∧ i.toNat + n = M
def nuHd (ks : List CK) (O : List (List Sc)) (len : Nat) : Nat → Int → St
  | _, i => ⟨[(0, .row 0 len), (1, .row 1 len), (5, .int .i64 i)], [⟨.recs ks O, .ro⟩, ⟨.recs ks O, .ro⟩], true⟩

theorem same_vc (A : Ar) (N : Ap) (L : LP) (O : List (List Sc)) (len : Nat) (hL : L = ALoop 2) (hA : A = std) (hO : O.length = len) (hl : len ≤ 1000000)
    (K : Bool → SV → List Blk → Prop) (hK : K = FinH 2 (.bool true) [] [] (uniR 2 (.bool true) [] [])) :
    Shut (afun (cxs A L [] []) Try.f15 [.row 0 len, .row 1 len] [⟨.recs kS O, .ro⟩, ⟨.recs kS O, .ro⟩] K) := by
  have he : ∀ x, A.icmp .eql x x = true := fun x => by subst hA; simp [std, icmp]
  have hne : ∀ x, A.icmp .neq x x = false := fun x => by subst hA; simp [std, icmp]
  have hmM : A.icmp .leq (A.ofNat len) 9223372036854775807 = true := by subst hA; exact decide_eq_true (by show (len : Int) ≤ _; omega)
  obtain ⟨fi, fc, fw, fb, fn, fo, fs, fa, fe, fz, fy, ff, fl, fq, gadd, gsub, gmul, gmin, hlen', hget, hset, happ, hisub, irep, iput', rlen, rint', rbool', rstr', rset, rapp, rsub, rrep, hmkb, hbyts, imn, imx⟩ := A
  simp only at he hne hmM
  obtain ⟨ok, hok⟩ : ∃ f, f = nuOk len := ⟨_, rfl⟩
  apply Shut.mk
  cbv
  simp only [hne]
  cbv
  refine lp_ex hL len nuEx (nuHd kS O len) ok ?_ ?_ hL (.inr rfl)
  · cbv
    refine ⟨?_, ?_⟩
    · rw [hok]; exact ⟨Int.le_refl _, Nat.zero_add _⟩
    · exact ⟨by simp only [hmM], trivial⟩
  intro m hm i hd
  obtain ⟨i0, i1⟩ : 0 ≤ i ∧ i.toNat + m = len := by rw [hok] at hd; exact hd
  clear hd
  cbv
  cases h1 : fc .lss i (fo len) <;> cbv
  · refine finH0 hK ?_ rfl rfl
    rw [Bool.and_eq_true]
    refine ⟨by cbv, ?_⟩
    simp only [hmM]
  · have hlt : i.toNat < len := by
      have : i < (len : Int) := by cases hA; exact of_decide_eq_true h1
      omega
    have gb : fb i len = true := by
      cases hA
      show (decide (0 ≤ i) && decide (i < (len : Int))) = true
      rw [decide_eq_true (by omega), decide_eq_true (by omega)]; rfl
    have gl : fl (gadd (fn i) 1) (rlen O) = true := by
      cases hA
      exact decide_eq_true (by show i.toNat + 1 ≤ O.length; omega)
    obtain ⟨m', rfl⟩ : ∃ m', m = m' + 1 := ⟨m - 1, by omega⟩
    have ei : ∀ j : Int, 0 ≤ j → j < 1000001 → fi .add .i64 j 1 = j + 1 := by
      cases hA; intro j h0 h1; show IntKind.i64.wrap (j + 1) = _; rw [IntKind.wrap_i64]; omega
    repeat (simp only [he, gb, gl, hmM]; cbv)
    refine ⟨?_, trivial⟩
    rw [hok, ei i i0 (by omega)]
    exact ⟨by omega, by omega⟩

theorem hcon_same : HCon Try.prog [] 15 (sameH kS std apStd) := by
  refine hcon_shut Try.func15 rfl (by kernel_rfl) (fun args h x ch nw hF m us w H hv => ?_)
  unfold sameH at hF
  split at hF
  · rename_i l1 l2 ks L1 b1 ks' L2 b2
    simp only [HR.mk.injEq, Bool.and_eq_true] at hF
    obtain ⟨⟨h5, h6, h7, h8, h9, h10, h11, h12⟩, rfl, rfl, rfl⟩ := hF
    have h7 := ckeq_eq h7
    have h8 := ckeq_eq h8
    have h11 : L1 = L2 := rowsEq_eq h11
    subst h7; subst h8; subst h11
    have h9 : L1.length = l1 := by simpa [std] using h9
    have h10 : L1.length = l2 := by simpa [std] using h10
    have h12 : l1 ≤ 1000000 := by simpa [std] using h12
    have e : l2 = l1 := by omega
    subst e
    refine ⟨_, [.row 0 l2, .row 1 l2], _, goods (base := 2) (l := []) (d := []) (by simp) (by simp),
      rfl, by kernel_rfl, hv, Nat.le_of_ble_eq_true rfl, ?_, rfl, by simp, same_vc std apStd (ALoop 2) L1 l2 rfl rfl h9 h12 _ rfl⟩
    exact ⟨⟨kOk_ro h5, rfl, rfl⟩, ⟨kOk_ro h6, rfl, rfl⟩, trivial⟩
  · simp at hF

theorem nums_vc (A : Ar) (N : Ap) (L : LP) (O : List (List Sc)) (len : Nat) (hL : L = ALoop 2) (hA : A = std) (hO : O.length = len) (hl : len ≤ 1000000)
    (K : Bool → SV → List Blk → Prop) (hK : K = FinH 2 (.bool true) [] [] (uniR 2 (.bool true) [] [])) :
    Shut (afun (cxs A L [] []) Try.f20 [.row 0 len, .row 1 len] [⟨.recs k4 O, .ro⟩, ⟨.recs k4 O, .ro⟩] K) := by
  have he : ∀ x, A.icmp .eql x x = true := fun x => by subst hA; simp [std, icmp]
  have hne : ∀ x, A.icmp .neq x x = false := fun x => by subst hA; simp [std, icmp]
  have hmM : A.icmp .leq (A.ofNat len) 9223372036854775807 = true := by subst hA; exact decide_eq_true (by show (len : Int) ≤ _; omega)
  obtain ⟨fi, fc, fw, fb, fn, fo, fs, fa, fe, fz, fy, ff, fl, fq, gadd, gsub, gmul, gmin, hlen', hget, hset, happ, hisub, irep, iput', rlen, rint', rbool', rstr', rset, rapp, rsub, rrep, hmkb, hbyts, imn, imx⟩ := A
  simp only at he hne hmM
  obtain ⟨ok, hok⟩ : ∃ f, f = nuOk len := ⟨_, rfl⟩
  apply Shut.mk
  cbv
  simp only [hne]
  cbv
  refine lp_ex hL len nuEx (nuHd k4 O len) ok ?_ ?_ hL (.inr rfl)
  · cbv
    refine ⟨?_, ?_⟩
    · rw [hok]; exact ⟨Int.le_refl _, Nat.zero_add _⟩
    · exact ⟨by simp only [hmM], trivial⟩
  intro m hm i hd
  obtain ⟨i0, i1⟩ : 0 ≤ i ∧ i.toNat + m = len := by rw [hok] at hd; exact hd
  clear hd
  cbv
  cases h1 : fc .lss i (fo len) <;> cbv
  · refine finH0 hK ?_ rfl rfl
    rw [Bool.and_eq_true]
    refine ⟨by cbv, ?_⟩
    simp only [hmM]
  · have hlt : i.toNat < len := by
      have : i < (len : Int) := by cases hA; exact of_decide_eq_true h1
      omega
    have gb : fb i len = true := by
      cases hA
      show (decide (0 ≤ i) && decide (i < (len : Int))) = true
      rw [decide_eq_true (by omega), decide_eq_true (by omega)]; rfl
    have gl : fl (gadd (fn i) 1) (rlen O) = true := by
      cases hA
      exact decide_eq_true (by show i.toNat + 1 ≤ O.length; omega)
    obtain ⟨m', rfl⟩ : ∃ m', m = m' + 1 := ⟨m - 1, by omega⟩
    have ei : ∀ j : Int, 0 ≤ j → j < 1000001 → fi .add .i64 j 1 = j + 1 := by
      cases hA; intro j h0 h1; show IntKind.i64.wrap (j + 1) = _; rw [IntKind.wrap_i64]; omega
    repeat (simp only [he, gb, gl, hmM]; cbv)
    refine ⟨?_, trivial⟩
    rw [hok, ei i i0 (by omega)]
    exact ⟨by omega, by omega⟩

theorem hcon_nums : HCon Try.prog [] 20 (sameH k4 std apStd) := by
  refine hcon_shut Try.func20 rfl (by kernel_rfl) (fun args h x ch nw hF m us w H hv => ?_)
  unfold sameH at hF
  split at hF
  · rename_i l1 l2 ks L1 b1 ks' L2 b2
    simp only [HR.mk.injEq, Bool.and_eq_true] at hF
    obtain ⟨⟨h5, h6, h7, h8, h9, h10, h11, h12⟩, rfl, rfl, rfl⟩ := hF
    have h7 := ckeq_eq h7
    have h8 := ckeq_eq h8
    have h11 : L1 = L2 := rowsEq_eq h11
    subst h7; subst h8; subst h11
    have h9 : L1.length = l1 := by simpa [std] using h9
    have h10 : L1.length = l2 := by simpa [std] using h10
    have h12 : l1 ≤ 1000000 := by simpa [std] using h12
    have e : l2 = l1 := by omega
    subst e
    refine ⟨_, [.row 0 l2, .row 1 l2], _, goods (base := 2) (l := []) (d := []) (by simp) (by simp),
      rfl, by kernel_rfl, hv, Nat.le_of_ble_eq_true rfl, ?_, rfl, by simp, nums_vc std apStd (ALoop 2) L1 l2 rfl rfl h9 h12 _ rfl⟩
    exact ⟨⟨kOk_ro h5, rfl, rfl⟩, ⟨kOk_ro h6, rfl, rfl⟩, trivial⟩
  · simp at hF

end Go.Proofs.Ytnhobbdijdbbeaa
