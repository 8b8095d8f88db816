/- Walks through shamir: what is told of each, and their sum. It has no conditions. -/
import Derived.Test.YtnhobbdijdbbeaaSh8
namespace Go.Proofs.Ytnhobbdijdbbeaa
open Go.Eng Go.RowKit
set_option maxRecDepth 1000000
set_option maxHeartbeats 4000000
set_option linter.unusedSimpArgs false
set_option linter.unusedVariables false

/-- The number in a row, from a field on. -/
def rN (W : List (List Sc)) (i f : Nat) : Int := num4 (rint W i f) (rint W i (f + 1)) (rint W i (f + 2)) (rint W i (f + 3))
def onceH (A : Ar) (N : Ap) (Q : Int) : HF := fun args h => match args, h with
  | [.int .i64 i, .agg [.int .i64 a, .int .u64 w0, .int .u64 w1, .int .u64 w2, .int .u64 w3], .ptr 0 0], [⟨.lit [.row 1 c], b1⟩, ⟨.recs ks W, b2⟩] =>
    ⟨liveK b1 && (liveK b2 && (ckeq ks k4 && (A.neq (A.rlen W) c && (A.nle c 1000000 && A.inb i c)))), numV N (ap2 N (smulN Q) (ap4 N num4 (A.rint W (A.nat i) 0) (A.rint W (A.nat i) 1) (A.rint W (A.nat i) 2) (A.rint W (A.nat i) 3)) (ap4 N num4 w0 w1 w2 w3)), [], []⟩
  | _, _ => ⟨false, .bad, [], []⟩

theorem once_vc (A : Ar) (N : Ap) (L0 : LP) (W : List (List Sc)) (c : Nat) (i a w0 w1 w2 w3 Q : Int) (hL : L0 = ALoop 2) (hA : A = std) (hN : N = apStd) (hO : W.length = c) (hl : c ≤ 1000000) (hi : A.inb i c = true)
    (x : SV) (hx : x = numV N (ap2 N (smulN Q) (ap4 N num4 (A.rint W (A.nat i) 0) (A.rint W (A.nat i) 1) (A.rint W (A.nat i) 2) (A.rint W (A.nat i) 3)) (ap4 N num4 w0 w1 w2 w3))) (K : Bool → SV → List Blk → Prop) (hK : K = FinH 2 x [] [] (uniR 2 x [] [])) :
    Shut (afun (cxs A L0 [(40, smul N Q)] []) Try.f52 [.int .i64 i, .agg [.int .i64 a, .int .u64 w0, .int .u64 w1, .int .u64 w2, .int .u64 w3], .ptr 0 0] [⟨.lit [.row 1 c], .ro⟩, ⟨.recs k4 W, .ro⟩] K) := by
  obtain ⟨fi, fc, fw, fb, fn, fo, fs, fa, fe, fz, fy, ff, fl, fq, gadd, gsub, gmul, gmin, hlen', hget, hset, happ, hisub, irep, iput', rlen, rint', rbool', rstr', rset, rapp, rsub, rrep, hmkb, hbyts, imn, imx⟩ := A
  simp only at hi hx
  have gl : fl (gadd (fn i) 1) (rlen W) = true := by
    cases hA
    have h : (decide (0 ≤ i) && decide (i < (c : Int))) = true := hi
    rw [Bool.and_eq_true] at h
    have h1 := of_decide_eq_true h.1
    have h2 := of_decide_eq_true h.2
    exact decide_eq_true (by show i.toNat + 1 ≤ W.length; omega)
  rw [hx] at hK
  rw [hK]
  apply Shut.mk
  cbv
  simp only [gl, hi]
  exact ⟨trivial, trivial⟩

theorem hcon_once : HCon Try.prog [] 52 (onceH std apStd qN) := by
  refine hcon_shut Try.func52 rfl (by kernel_rfl) (fun args h x ch nw hF m us w H hv => ?_)
  unfold onceH at hF
  split at hF
  · rename_i i a w0 w1 w2 w3 c b1 ks W b2
    simp only [HR.mk.injEq, Bool.and_eq_true] at hF
    obtain ⟨⟨h1, h2, h3, h4, h5, h6⟩, rfl, rfl, rfl⟩ := hF
    have h3 := ckeq_eq h3
    subst h3
    have h4 : W.length = c := by simpa [std] using h4
    have h5 : c ≤ 1000000 := by simpa [std] using h5
    refine ⟨_, [.int .i64 i, .agg [.int .i64 a, .int .u64 w0, .int .u64 w1, .int .u64 w2, .int .u64 w3], .ptr 0 0], _, goods (base := 2) (l := [(40, smul apStd qN)]) (d := [])
      (by intro p hp; simp at hp; subst hp; exact con_sMul) (by simp),
      rfl, by kernel_rfl, hv, Nat.le_of_ble_eq_true rfl, ?_, rfl, by simp, once_vc std apStd (ALoop 2) W c i a w0 w1 w2 w3 qN rfl rfl rfl h4 h5 h6 _ rfl _ rfl⟩
    exact ⟨⟨kOk_ro h1, ⟨rfl, rfl⟩, trivial⟩, ⟨kOk_ro h2, rfl, rfl⟩, trivial⟩
  · simp at hF

/-- So many products, added. -/
def totK (w v : Nat → Int) : Nat → Int
  | 0 => 0
  | k + 1 => saddN qN (totK w v k) (smulN qN (w k) (v k))
theorem totK_range (w v : Nat → Int) : ∀ k, 0 ≤ totK w v k ∧ totK w v k < qN
  | 0 => ⟨Int.le_refl _, qN_pos⟩
  | k + 1 => saddN_range (toM (totK_range w v k)) (toM (smulN_range _ _))
def totR (W L : List (List Sc)) (k : Nat) : Int := totK (fun i => rN W i 0) (fun i => rN L i 1) k
def totalH (A : Ar) (N : Ap) : HF := fun args h => match args, h with
  | [.row 0 n, .fn f [.ptr 1 0]], [⟨.recs ks L, b⟩, ⟨.lit [.row 2 c], b1⟩, ⟨.recs ks' W, b2⟩] =>
    ⟨Nat.beq f 52 && (liveK b && (liveK b1 && (liveK b2 && (ckeq ks kS && (ckeq ks' k4 && (A.neq (A.rlen L) n && (A.neq (A.rlen W) c && (A.neq n c && A.nle n 1000000)))))))), numV N (N Nat Int (N (List (List Sc)) (Nat → Int) (N (List (List Sc)) (List (List Sc) → Nat → Int) totR W) L) n), [], []⟩
  | _, _ => ⟨false, .bad, [], []⟩

def tlHd (L W : List (List Sc)) (n : Nat) (ln : Int) : Nat → Int × Int × Int × Int × Int → St
  | _, (w0, w1, w2, w3, i) => ⟨[(0, .row 0 n), (1, .fn 52 [.ptr 1 0]), (4, .ptr 3 0), (5, .ptr 4 0), (9, .row 0 n), (10, .int .i64 ln), (11, .int .i64 i)],
      [⟨.recs kS L, .ro⟩, ⟨.lit [.row 2 n], .ro⟩, ⟨.recs k4 W, .ro⟩, ⟨.lit [.num .u64 0, .num .u64 0, .num .u64 0, .num .u64 0], .var⟩, ⟨.lit [.int .u64 w0, .int .u64 w1, .int .u64 w2, .int .u64 w3], .var⟩], true⟩
def tlEx (S : St) : Int × Int × Int × Int × Int := (cellI S 4 0, cellI S 4 1, cellI S 4 2, cellI S 4 3, slotI S 11)
def tlOk (W L : List (List Sc)) (c : Nat) (n : Nat) : Int × Int × Int × Int × Int → Prop
  | (w0, w1, w2, w3, i) => (Go.Eng.W w0 ∧ Go.Eng.W w1 ∧ Go.Eng.W w2 ∧ Go.Eng.W w3) ∧ num4 w0 w1 w2 w3 = totR W L i.toNat ∧ 0 ≤ i ∧ i.toNat + n = c
theorem tlOk_mk {W L : List (List Sc)} {c n : Nat} {w0 w1 w2 w3 i : Int} (h : Go.Eng.W w0 ∧ Go.Eng.W w1 ∧ Go.Eng.W w2 ∧ Go.Eng.W w3) (h1 : num4 w0 w1 w2 w3 = totR W L i.toNat) (h2 : 0 ≤ i) (h3 : i.toNat + n = c) : tlOk W L c n (w0, w1, w2, w3, i) := ⟨h, h1, h2, h3⟩
theorem tlOk_ex {W L : List (List Sc)} {c n : Nat} {w0 w1 w2 w3 i : Int} (h : tlOk W L c n (w0, w1, w2, w3, i)) : (Go.Eng.W w0 ∧ Go.Eng.W w1 ∧ Go.Eng.W w2 ∧ Go.Eng.W w3) ∧ num4 w0 w1 w2 w3 = totR W L i.toNat ∧ 0 ≤ i ∧ i.toNat + n = c := h

def totalPl : List (Nat × PT) := [(5, .step 1 (.step 2 (.step 3 (.alt 0 (.step 4 (.step 5 (.step 6 .done))) (.alt 4 (.step 0 (.step 5 (.step 6 .done))) .nil)))))]

theorem total_vc (A : Ar) (N : Ap) (L0 : LP) (L W : List (List Sc)) (n : Nat) (Q : Int) (hL : L0 = ALoop 3) (hA : A = std) (hN : N = apStd) (hQ : Q = qN) (hO : L.length = n) (hW : W.length = n) (hl : n ≤ 1000000)
    (x : SV) (hx : x = numV N (totR W L n)) (K : Bool → SV → List Blk → Prop) (hK : K = FinH 3 x [] [] (uniR 3 x [] [])) :
    Shut (afun (cxs A L0 [(39, sadd N Q)] [(52, onceH A N Q)] [] totalPl) Try.f51 [.row 0 n, .fn 52 [.ptr 1 0]] [⟨.recs kS L, .ro⟩, ⟨.lit [.row 2 n], .ro⟩, ⟨.recs k4 W, .ro⟩] K) := by
  obtain ⟨fi, fc, fw, fb, fn, fo, fs, fa, fe, fz, fy, ff, fl, fq, gadd, gsub, gmul, gmin, hlen', hget, hset, happ, hisub, irep, iput', rlen, rint', rbool', rstr', rset, rapp, rsub, rrep, hmkb, hbyts, imn, imx⟩ := A
  have hml : fc .leq (fo n) 9223372036854775807 = true := by cases hA; exact decide_eq_true (by show (n : Int) ≤ _; omega)
  have hln : fl n 1000000 = true := by cases hA; exact decide_eq_true hl
  have gw : fq (rlen W) n = true := by cases hA; exact decide_eq_true hW
  obtain ⟨ln, hlnn⟩ : ∃ l, fo n = l := ⟨_, rfl⟩
  have eln : 0 ≤ ln ∧ ln.toNat = n := by rw [← hlnn]; cases hA; exact ⟨Int.natCast_nonneg _, rfl⟩
  rw [hlnn] at hml
  obtain ⟨ok, hok⟩ : ∃ f, f = tlOk W L n := ⟨_, rfl⟩
  apply Shut.mk
  cbv
  simp only [hlnn]
  refine lp_ex hL n tlEx (tlHd L W n ln) ok ?_ ?_ hL (.inr rfl)
  · cbv
    refine ⟨?_, ?_, trivial⟩
    · rw [hok]; exact tlOk_mk (by decide) (by show num4 0 0 0 0 = 0; decide) (Int.le_refl _) (Nat.zero_add _)
    · simp only [hml]
  intro m hm d hd
  obtain ⟨w0, w1, w2, w3, i⟩ := d
  obtain ⟨hw, hv, i0, i1⟩ : (Go.Eng.W w0 ∧ Go.Eng.W w1 ∧ Go.Eng.W w2 ∧ Go.Eng.W w3) ∧ num4 w0 w1 w2 w3 = totR W L i.toNat ∧ 0 ≤ i ∧ i.toNat + m = n := by rw [hok] at hd; exact tlOk_ex hd
  clear hd
  cbv
  cases h1 : fc .lss i ln <;> cbv
  · have hj : i.toNat = n := by
      have : ¬ i < ln := by cases hA; exact of_decide_eq_false h1
      omega
    obtain ⟨q0, q1, q2, q3⟩ := l_num4 hw
    have ex : x = .agg [.int .u64 w0, .int .u64 w1, .int .u64 w2, .int .u64 w3] := by
      rw [hx, ← hj, ← hv]
      subst hN
      unfold numV
      rw [ap1_std, ap1_std, ap1_std, ap1_std, q0, q1, q2, q3]
    rw [ex] at hK
    rw [hK]
    cbv
  · have hlt : i.toNat < n := by
      have : i < ln := by cases hA; exact of_decide_eq_true h1
      omega
    have gb : fb i n = true := by
      cases hA
      show (decide (0 ≤ i) && decide (i < (n : Int))) = true
      rw [decide_eq_true (by omega), decide_eq_true (by omega)]; rfl
    have gl : fl (gadd (fn i) 1) (rlen L) = true := by
      cases hA
      exact decide_eq_true (by show i.toNat + 1 ≤ L.length; omega)
    obtain ⟨m', rfl⟩ : ∃ m', m = m' + 1 := ⟨m - 1, by omega⟩
    have ei : fi .add .i64 i 1 = i + 1 := by
      cases hA; show IntKind.i64.wrap (i + 1) = _; rw [IntKind.wrap_i64]; omega
    have nN : ∀ y, (0 ≤ y ∧ y < M256) → ap4 N num4 (ap1 N l0 y) (ap1 N l1 y) (ap1 N l2 y) (ap1 N l3 y) = y := by
      intro y hy; subst hN; rw [ap1_std, ap1_std, ap1_std, ap1_std, ap4_std]; exact limb_num hy
    obtain ⟨S, hS⟩ : ∃ y, num4 w0 w1 w2 w3 = y := ⟨_, rfl⟩
    have nS : ap4 N num4 w0 w1 w2 w3 = S := by subst hN; rw [ap4_std]; exact hS
    obtain ⟨V, hV⟩ : ∃ y, ap4 N num4 (rint' L (fn i) 1) (rint' L (fn i) 2) (rint' L (fn i) 3) (rint' L (fn i) 4) = y := ⟨_, rfl⟩
    obtain ⟨C, hC⟩ : ∃ y, ap4 N num4 (rint' W (fn i) 0) (rint' W (fn i) 1) (rint' W (fn i) 2) (rint' W (fn i) 3) = y := ⟨_, rfl⟩
    obtain ⟨X, hX⟩ : ∃ y, ap2 N (smulN Q) C V = y := ⟨_, rfl⟩
    obtain ⟨Y, hY⟩ : ∃ y, ap2 N (saddN Q) S X = y := ⟨_, rfl⟩
    have eV : V = rN L i.toNat 1 := by rw [← hV]; cases hA; subst hN; rw [ap4_std]; rfl
    have eC : C = rN W i.toNat 0 := by rw [← hC]; cases hA; subst hN; rw [ap4_std]; rfl
    have eX : X = smulN qN C V := by rw [← hX]; subst hN; rw [ap2_std, hQ]
    have eY : Y = saddN qN S X := by rw [← hY]; subst hN; rw [ap2_std, hQ]
    have rX : 0 ≤ X ∧ X < qN := by rw [eX]; exact smulN_range _ _
    have rS : 0 ≤ S ∧ S < qN := by rw [← hS, hv]; exact totK_range _ _ _
    have rY : 0 ≤ Y ∧ Y < qN := by rw [eY]; exact saddN_range (toM rS) (toM rX)
    have nX := nN X (toM rX)
    have next : ok m' (ap1 N l0 Y, ap1 N l1 Y, ap1 N l2 Y, ap1 N l3 Y, fi .add .i64 i 1) := by
      rw [hok, ei]
      subst hN
      simp only [ap1_std]
      refine tlOk_mk (limb_W Y) ?_ (by omega) (by omega)
      have e1 : (i + 1).toNat = i.toNat + 1 := by omega
      rw [limb_num (toM rY), e1, eY, eX, eC, eV, ← hS, hv]
      rfl
    simp only [ap1, ap2, ap4] at hV hC hX hY nS nX next
    clear hK
    cbv
    repeat (simp only [gb, gl, gw, hln, nS, hV, hC, hX, nX, hY, hml]; cbv)
    exact ⟨next, trivial⟩

theorem hcon_total : HCon Try.prog [] 51 (totalH std apStd) := by
  refine hcon_shut Try.func51 rfl (by kernel_rfl) (fun args h x ch nw hF m us w H hv => ?_)
  unfold totalH at hF
  split at hF
  · rename_i n f ks L b c b1 ks' W b2
    simp only [HR.mk.injEq, Bool.and_eq_true] at hF
    obtain ⟨⟨h0, h1, h2, h3, h4, h5, h6, h7, h8, h9⟩, rfl, rfl, rfl⟩ := hF
    have h0 := Nat.eq_of_beq_eq_true h0
    subst h0
    have h4 := ckeq_eq h4
    subst h4
    have h5 := ckeq_eq h5
    subst h5
    have h6 : L.length = n := by simpa [std] using h6
    have h7 : W.length = c := by simpa [std] using h7
    have h8 : n = c := by simpa [std] using h8
    subst h8
    have h9 : n ≤ 1000000 := by simpa [std] using h9
    refine ⟨_, [.row 0 n, .fn 52 [.ptr 1 0]], _, goods (base := 3) (l := [(39, sadd apStd qN)]) (d := [(52, onceH std apStd qN)]) (q := []) (pl := totalPl)
      (by intro p hp; simp at hp; subst hp; exact con_sAdd) (by intro p hp; simp at hp; subst hp; exact hcon_once),
      rfl, by kernel_rfl, hv, Nat.le_of_ble_eq_true rfl, ?_, rfl, by simp, total_vc std apStd (ALoop 3) L W n qN rfl rfl rfl rfl h6 h7 h9 _ (by simp only [apStd_app]) _ rfl⟩
    exact ⟨⟨kOk_ro h1, rfl, rfl⟩, ⟨kOk_ro h2, ⟨rfl, rfl⟩, trivial⟩, ⟨kOk_ro h3, rfl, rfl⟩, trivial⟩
  · simp at hF

end Go.Proofs.Ytnhobbdijdbbeaa
