/- Walks through the reference of shamir: what a polynomial is at 0. It has no conditions. -/
import Derived.Test.YtnhobbdijdbbeaaSh10
namespace Go.Proofs.Ytnhobbdijdbbeaa
open Go.Eng Go.RowKit
set_option maxRecDepth 1000000
set_option maxHeartbeats 4000000
set_option linter.unusedSimpArgs false
set_option linter.unusedVariables false

def rjHd (L : List (List Sc)) (n : Nat) : Nat → Nat × List Int × Int → St
  | _, (l, R, i) => ⟨[(0, .row 0 n), (2, .ptr 1 0), (3, .int .i64 0), (4, .row 2 l), (5, .int .i64 i)],
      [⟨.recs kS L, .ro⟩, ⟨.lit [.num .u64 0, .num .u64 0, .num .u64 0, .num .u64 0], .var⟩, ⟨.ints .i64 R, .row 1⟩], true⟩
def rjEx (S : St) : Nat × List Int × Int := (rowN' S 4, intsAt S 4, slotI S 5)
def rjOk (L : List (List Sc)) (n : Nat) (d : Nat × List Int × Int) : Prop := 0 ≤ d.2.2 ∧ d.2.2.toNat + n = L.length ∧ d.1 = d.2.2.toNat ∧ d.2.1 = (atL L).take d.2.2.toNat
theorem rjOk_mk {L : List (List Sc)} {n l : Nat} {R : List Int} {i : Int} (h : 0 ≤ i) (h1 : i.toNat + n = L.length) (h2 : l = i.toNat) (h3 : R = (atL L).take i.toNat) : rjOk L n (l, R, i) := ⟨h, h1, h2, h3⟩
theorem rjOk_ex {L : List (List Sc)} {n l : Nat} {R : List Int} {i : Int} (h : rjOk L n (l, R, i)) : 0 ≤ i ∧ i.toNat + n = L.length ∧ l = i.toNat ∧ R = (atL L).take i.toNat := h
def rkHd (L W : List (List Sc)) (R : List Int) (n C : Nat) (E : Int) : Nat → Int × Int × Int × Int × Int → St
  | _, (w0, w1, w2, w3, i) => ⟨[(0, .row 0 n), (2, .ptr 1 0), (4, .row 2 n), (6, .row 3 C), (7, .int .i64 E), (8, .ptr 4 0), (9, .int .i64 i)],
      [⟨.recs kS L, .ro⟩, ⟨.lit [.num .u64 0, .num .u64 0, .num .u64 0, .num .u64 0], .var⟩, ⟨.ints .i64 R, .row 1⟩, ⟨.recs k4 W, .row 4⟩, ⟨.lit [.int .u64 w0, .int .u64 w1, .int .u64 w2, .int .u64 w3], .var⟩], true⟩
def rkEx (S : St) : Int × Int × Int × Int × Int := (cellI S 4 0, cellI S 4 1, cellI S 4 2, cellI S 4 3, slotI S 9)

theorem rjoin_vc (A : Ar) (N : Ap) (L0 : LP) (L : List (List Sc)) (n : Nat) (Q : Int) (hL : L0 = ALoop 1) (hA : A = std) (hN : N = apStd) (hQ : Q = qN) (hO : L.length = n) (hl : n ≤ 1000000)
    (x : SV) (hx : x = .tup [numV N (ap1 N joK L), .int .i64 (ap1 N joE L)]) (K : Bool → SV → List Blk → Prop) (hK : K = FinH 1 x [] [] (uniR 1 x [] [])) :
    Shut (afun (cxs A L0 [(43, smul N Q), (42, sadd N Q)] [(19, weightsH A N)]) Try.f22 [.row 0 n] [⟨.recs kS L, .ro⟩] K) := by
  obtain ⟨fi, fc, fw, fb, fn, fo, fs, fa, fe, fz, fy, ff, fl, fq, gadd, gsub, gmul, gmin, hlen', hget, hset, happ, hisub, irep, iput', rlen, rint', rbool', rstr', rset, rapp, rsub, rrep, hmkb, hbyts, imn, imx⟩ := A
  have hml : fc .leq (fo n) 9223372036854775807 = true := by cases hA; exact decide_eq_true (by show (n : Int) ≤ _; omega)
  have hln : fl n 1000000 = true := by cases hA; exact decide_eq_true hl
  have ei : ∀ j : Int, 0 ≤ j → j < 1000001 → fi .add .i64 j 1 = j + 1 := by
    cases hA; intro j h0 h1; show IntKind.i64.wrap (j + 1) = _; rw [IntKind.wrap_i64]; omega
  obtain ⟨ok, hok⟩ : ∃ f, f = rjOk L := ⟨_, rfl⟩
  apply Shut.mk
  cbv
  refine lp_ex hL n rjEx (rjHd L n) ok ?_ ?_ hL (.inr rfl)
  · cbv
    refine ⟨?_, trivial⟩
    rw [hok]
    exact rjOk_mk (Int.le_refl _) (by rw [hO]; exact Nat.zero_add _) rfl rfl
  intro m hm d hd
  obtain ⟨l, R, i⟩ := d
  obtain ⟨i0, i1, i2, i3⟩ : 0 ≤ i ∧ i.toNat + m = n ∧ l = i.toNat ∧ R = (atL L).take i.toNat := by rw [hok] at hd; rw [← hO]; exact rjOk_ex hd
  clear hd
  have hRl : R.length = l := by rw [i3, List.length_take, atL_len, hO, i2]; omega
  have gR : fq (hlen' R) l = true := by cases hA; exact decide_eq_true hRl
  cbv
  cases h1 : fc .lss i (fo n) <;> cbv
  · have hj : i.toNat = n := by
      have : ¬ i < (n : Int) := by cases hA; exact of_decide_eq_false h1
      omega
    have eR : R = atL L := by rw [i3, hj, List.take_of_length_le (by rw [atL_len]; omega)]
    have eln : l = n := by omega
    subst eln
    obtain ⟨E, hE⟩ : ∃ y, ap1 N wtE R = y := ⟨_, rfl⟩
    obtain ⟨C, hC⟩ : ∃ y, ap1 N wtC R = y := ⟨_, rfl⟩
    obtain ⟨V, hV⟩ : ∃ y, ap1 N wtL R = y := ⟨_, rfl⟩
    have eE : E = wtE (atL L) := by rw [← hE, eR]; subst hN; rw [ap1_std]
    have eC : C = wtC (atL L) := by rw [← hC, eR]; subst hN; rw [ap1_std]
    have eV : V = wtL (atL L) := by rw [← hV, eR]; subst hN; rw [ap1_std]
    have eVC : V.length = C := by rw [eV, eC]; rfl
    have eJ : ap1 N joE L = E := by subst hN; rw [ap1_std, eE]; rfl
    have cC : C ≤ l := by rw [eC]; unfold wtC wtL; split <;> simp [atL_len, hO]
    have eT : ap1 N joK L = totR V L C := by
      subst hN; rw [ap1_std]; unfold joK
      rw [← eV]
      by_cases hp : plB (atL L) = true
      · rw [if_pos hp, show L.length = C by rw [eC]; unfold wtC wtL; rw [if_pos hp]; simp [atL_len]]
      · rw [if_neg hp, show C = 0 by rw [eC]; unfold wtC wtL; rw [if_neg hp]; rfl]; rfl
    rw [eJ, eT] at hx
    have gVC : fq (rlen V) C = true := by cases hA; exact decide_eq_true eVC
    have hmC : fc .leq (fo C) 9223372036854775807 = true := by cases hA; exact decide_eq_true (by show (C : Int) ≤ _; omega)
    simp only [ap1] at hE hC hV
    simp only [hE, hC, hV]
    obtain ⟨ok2, hok2⟩ : ∃ f, f = tlOk V L C := ⟨_, rfl⟩
    refine lp_ex hL C rkEx (rkHd L V R l C E) ok2 ?_ ?_ hL (.inr rfl)
    · cbv
      refine ⟨?_, ?_, trivial⟩
      · rw [hok2]; exact tlOk_mk (by decide) (by show num4 0 0 0 0 = 0; decide) (Int.le_refl _) (Nat.zero_add _)
      · simp only [hml, gR, hln]
    intro m2 hm2 d hd
    obtain ⟨w0, w1, w2, w3, i⟩ := d
    obtain ⟨hw, hv, i0, i1⟩ : (Go.Eng.W w0 ∧ Go.Eng.W w1 ∧ Go.Eng.W w2 ∧ Go.Eng.W w3) ∧ num4 w0 w1 w2 w3 = totR V L i.toNat ∧ 0 ≤ i ∧ i.toNat + m2 = C := by rw [hok2] at hd; exact tlOk_ex hd
    clear hd
    cbv
    cases h2 : fc .lss i (fo C) <;> cbv
    · have hj : i.toNat = C := by
        have : ¬ i < (C : Int) := by cases hA; exact of_decide_eq_false h2
        omega
      obtain ⟨q0, q1, q2, q3⟩ := l_num4 hw
      have ex : x = .tup [.agg [.int .u64 w0, .int .u64 w1, .int .u64 w2, .int .u64 w3], .int .i64 E] := by
        rw [hx, ← hj, ← hv]
        subst hN
        unfold numV
        rw [ap1_std, ap1_std, ap1_std, ap1_std, q0, q1, q2, q3]
      rw [ex] at hK
      rw [hK]
      repeat (simp only [hmC]; cbv)
    · have hlt : i.toNat < C := by
        have : i < (C : Int) := by cases hA; exact of_decide_eq_true h2
        omega
      have gb : fb i C = true := by
        cases hA
        show (decide (0 ≤ i) && decide (i < (C : Int))) = true
        rw [decide_eq_true (by omega), decide_eq_true (by omega)]; rfl
      have gb2 : fb i l = true := by
        cases hA
        show (decide (0 ≤ i) && decide (i < (l : Int))) = true
        rw [decide_eq_true (by omega), decide_eq_true (by omega)]; rfl
      have gl : fl (gadd (fn i) 1) (rlen L) = true := by
        cases hA
        exact decide_eq_true (by show i.toNat + 1 ≤ L.length; omega)
      have gl2 : fl (gadd (fn i) 1) (rlen V) = true := by
        cases hA
        exact decide_eq_true (by show i.toNat + 1 ≤ V.length; omega)
      obtain ⟨m', rfl⟩ : ∃ m', m2 = m' + 1 := ⟨m2 - 1, by omega⟩
      have nN : ∀ y, (0 ≤ y ∧ y < M256) → ap4 N num4 (ap1 N l0 y) (ap1 N l1 y) (ap1 N l2 y) (ap1 N l3 y) = y := by
        intro y hy; subst hN; rw [ap1_std, ap1_std, ap1_std, ap1_std, ap4_std]; exact limb_num hy
      obtain ⟨S, hS⟩ : ∃ y, num4 w0 w1 w2 w3 = y := ⟨_, rfl⟩
      have nS : ap4 N num4 w0 w1 w2 w3 = S := by subst hN; rw [ap4_std]; exact hS
      obtain ⟨U, hU⟩ : ∃ y, ap4 N num4 (rint' L (fn i) 1) (rint' L (fn i) 2) (rint' L (fn i) 3) (rint' L (fn i) 4) = y := ⟨_, rfl⟩
      obtain ⟨D, hD⟩ : ∃ y, ap4 N num4 (rint' V (fn i) 0) (rint' V (fn i) 1) (rint' V (fn i) 2) (rint' V (fn i) 3) = y := ⟨_, rfl⟩
      obtain ⟨X, hX⟩ : ∃ y, ap2 N (smulN Q) D U = y := ⟨_, rfl⟩
      obtain ⟨Y, hY⟩ : ∃ y, ap2 N (saddN Q) S X = y := ⟨_, rfl⟩
      have eU : U = rN L i.toNat 1 := by rw [← hU]; cases hA; subst hN; rw [ap4_std]; rfl
      have eD : D = rN V i.toNat 0 := by rw [← hD]; cases hA; subst hN; rw [ap4_std]; rfl
      have eX : X = smulN qN D U := by rw [← hX]; subst hN; rw [ap2_std, hQ]
      have eY : Y = saddN qN S X := by rw [← hY]; subst hN; rw [ap2_std, hQ]
      have rX : 0 ≤ X ∧ X < qN := by rw [eX]; exact smulN_range _ _
      have rS : 0 ≤ S ∧ S < qN := by rw [← hS, hv]; exact totK_range _ _ _
      have rY : 0 ≤ Y ∧ Y < qN := by rw [eY]; exact saddN_range (toM rS) (toM rX)
      have nX := nN X (toM rX)
      have next : ok2 m' (ap1 N l0 Y, ap1 N l1 Y, ap1 N l2 Y, ap1 N l3 Y, fi .add .i64 i 1) := by
        rw [hok2, ei i i0 (by omega)]
        subst hN
        simp only [ap1_std]
        refine tlOk_mk (limb_W Y) ?_ (by omega) (by omega)
        have e1 : (i + 1).toNat = i.toNat + 1 := by omega
        rw [limb_num (toM rY), e1, eY, eX, eD, eU, ← hS, hv]
        rfl
      simp only [ap1, ap2, ap4] at hU hD hX hY nS nX next
      clear hK
      cbv
      repeat (simp only [gb, gb2, gl, gl2, nS, hU, hD, hX, nX, hY, hmC]; cbv)
      exact ⟨next, trivial⟩
  · have hlt : i.toNat < n := by
      have : i < (n : Int) := by cases hA; exact of_decide_eq_true h1
      omega
    have gb : fb i n = true := by
      cases hA
      show (decide (0 ≤ i) && decide (i < (n : Int))) = true
      rw [decide_eq_true (by omega), decide_eq_true (by omega)]; rfl
    have gl : fl (gadd (fn i) 1) (rlen L) = true := by
      cases hA
      exact decide_eq_true (by show i.toNat + 1 ≤ L.length; omega)
    obtain ⟨m', rfl⟩ : ∃ m', m = m' + 1 := ⟨m - 1, by omega⟩
    have next : ok m' (gadd l 1, happ R [rint' L (fn i) 0], fi .add .i64 i 1) := by
      rw [hok, ei i i0 (by omega)]
      cases hA
      refine rjOk_mk (by omega) (by rw [hO]; omega) (by show l + 1 = _; omega) ?_
      have e1 : (i + 1).toNat = i.toNat + 1 := by omega
      rw [e1, List.take_add_one, ← i3, atL, List.getElem?_map, List.getElem?_eq_getElem (show i.toNat < L.length by omega)]
      show R ++ [rint L i.toNat 0] = _
      simp only [rint_toInt, List.getElem?_eq_getElem (show i.toNat < L.length by omega), Option.bind_some, Option.map_some, Option.toList_some]
    have g1 : fl (gmul (gadd l 1) 8) 140737488355328 = true := by cases hA; exact decide_eq_true (by show (l + 1) * 8 ≤ _; omega)
    clear hK
    repeat (simp only [gb, gl, gR, g1, hml]; cbv)
    exact ⟨next, trivial⟩

theorem hcon_rjoin : HCon Try.prog [] 22 (joinH std apStd) := by
  refine hcon_shut Try.func22 rfl (by kernel_rfl) (fun args h x ch nw hF m us w H hv => ?_)
  unfold joinH at hF
  split at hF
  · rename_i n ks L b
    simp only [HR.mk.injEq, Bool.and_eq_true] at hF
    obtain ⟨⟨h1, h2, h3, h4⟩, rfl, rfl, rfl⟩ := hF
    have h2 := ckeq_eq h2
    subst h2
    have h3 : L.length = n := by simpa [std] using h3
    have h4 : n ≤ 1000000 := by simpa [std] using h4
    refine ⟨_, [.row 0 n], _, goods (base := 1) (l := [(43, smul apStd qN), (42, sadd apStd qN)]) (d := [(19, weightsH std apStd)])
      (by intro p hp; simp only [List.mem_cons, List.not_mem_nil, or_false] at hp; rcases hp with rfl | rfl; exact con_srMul; exact con_srAdd) (by intro p hp; simp at hp; subst hp; exact hcon_rweights),
      rfl, by kernel_rfl, hv, Nat.le_of_ble_eq_true rfl, ?_, rfl, by simp, rjoin_vc std apStd (ALoop 1) L n qN rfl rfl rfl rfl h3 h4 _ rfl _ rfl⟩
    exact ⟨⟨kOk_ro h1, rfl, rfl⟩, trivial⟩
  · simp at hF

end Go.Proofs.Ytnhobbdijdbbeaa
