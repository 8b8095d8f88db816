/- Walks through the reference of shamir: the weights of places. It has no conditions. -/
import Derived.Test.YtnhobbdijdbbeaaSh7
namespace Go.Proofs.Ytnhobbdijdbbeaa
open Go.Eng Go.RowKit
set_option maxRecDepth 1000000
set_option maxHeartbeats 4000000
set_option linter.unusedSimpArgs false
set_option linter.unusedVariables false

theorem plTo_inj {L : List Int} {m i j : Nat} (h : plTo L m) (hi : i < m) (hj : j < m) (e : L.getD i 0 = L.getD j 0) : i = j := by
  rcases Nat.lt_trichotomy i j with h1 | h1 | h1
  · exact absurd e ((h j hj).2 i h1)
  · exact h1
  · exact absurd e.symm ((h i hi).2 j h1)

def raHd (L : List Int) (len : Nat) : Nat → Int → St
  | _, i => ⟨[(0, .row 0 len), (4, .int .i64 i)], [⟨.ints .i64 L, .ro⟩], true⟩
def raEx (S : St) : Int := slotI S 4
def rbHd (L : List Int) (len : Nat) (i : Int) : Nat → Int → St
  | _, k => ⟨[(0, .row 0 len), (4, .int .i64 i), (5, .int .i64 k)], [⟨.ints .i64 L, .ro⟩], true⟩
def rbEx (S : St) : Int := slotI S 5
def rcHd (L : List Int) (len : Nat) : Nat → Nat × List (List Sc) × Int → St
  | _, (l, R, i) => ⟨[(0, .row 0 len), (6, .row 1 l), (7, .int .i64 i)], [⟨.ints .i64 L, .ro⟩, ⟨.recs k4 R, .row 4⟩], true⟩
def rcEx (S : St) : Nat × List (List Sc) × Int := (rowN' S 6, recsAt k4 S 6, slotI S 7)
def rcOk (L : List Int) (n : Nat) (d : Nat × List (List Sc) × Int) : Prop := 0 ≤ d.2.2 ∧ d.2.2.toNat + n = L.length ∧ d.1 = d.2.2.toNat ∧ d.2.1 = (L.take d.2.2.toNat).map (fun a => numR (wI L a))
theorem rcOk_mk {L : List Int} {n l : Nat} {R : List (List Sc)} {i : Int} (h : 0 ≤ i) (h1 : i.toNat + n = L.length) (h2 : l = i.toNat) (h3 : R = (L.take i.toNat).map (fun a => numR (wI L a))) : rcOk L n (l, R, i) := ⟨h, h1, h2, h3⟩
theorem rcOk_ex {L : List Int} {n l : Nat} {R : List (List Sc)} {i : Int} (h : rcOk L n (l, R, i)) : 0 ≤ i ∧ i.toNat + n = L.length ∧ l = i.toNat ∧ R = (L.take i.toNat).map (fun a => numR (wI L a)) := h
def rdHd (L : List Int) (len l : Nat) (R : List (List Sc)) (i : Int) : Nat → D8 → St
  | _, (u0, u1, u2, u3, d0, d1, d2, d3, k) => ⟨[(0, .row 0 len), (6, .row 1 l), (7, .int .i64 i), (8, .ptr 2 0), (9, .ptr 3 0), (10, .int .i64 k)],
      [⟨.ints .i64 L, .ro⟩, ⟨.recs k4 R, .row 4⟩, ⟨.lit [.int .u64 u0, .int .u64 u1, .int .u64 u2, .int .u64 u3], .var⟩, ⟨.lit [.int .u64 d0, .int .u64 d1, .int .u64 d2, .int .u64 d3], .var⟩], true⟩
def rdEx (S : St) : D8 := (cellI S 2 0, cellI S 2 1, cellI S 2 2, cellI S 2 3, cellI S 3 0, cellI S 3 1, cellI S 3 2, cellI S 3 3, slotI S 10)
theorem take_map_succ {L : List Int} {f : Int → List Sc} {k : Nat} (hk : k < L.length) : (L.take (k + 1)).map f = (L.take k).map f ++ [f (L.getD k 0)] := by
  have e : L.take (k + 1) = L.take k ++ [L.getD k 0] := by rw [List.take_add_one, List.getElem?_eq_getElem hk]; simp [List.getD, List.getElem?_eq_getElem hk]
  rw [e, List.map_append]
  rfl

theorem rweights_vc (A : Ar) (N : Ap) (L0 : LP) (L : List Int) (len : Nat) (Q : Int) (hL : L0 = ALoop 1) (hA : A = std) (hN : N = apStd) (hQ : Q = qN) (hO : L.length = len) (hl : len ≤ 1000000)
    (x : SV) (hx : x = .tup [.row 1 (ap1 N wtC L), .int .i64 (ap1 N wtE L)]) (nw : List Blk) (hnw : nw = [⟨.recs k4 (ap1 N wtL L), .row 4⟩]) (K : Bool → SV → List Blk → Prop) (hK : K = FinH 1 x [] nw (uniR 1 x [] nw)) :
    Shut (afun (cxs A L0 [(44, numF N), (43, smul N Q), (49, ssub N Q), (50, sinv N Q), (48, smallF N)] []) Try.f19 [.row 0 len] [⟨.ints .i64 L, .ro⟩] K) := by
  obtain ⟨fi, fc, fw, fb, fn, fo, fs, fa, fe, fz, fy, ff, fl, fq, gadd, gsub, gmul, gmin, hlen', hget, hset, happ, hisub, irep, iput', rlen, rint', rbool', rstr', rset, rapp, rsub, rrep, hmkb, hbyts, imn, imx⟩ := A
  have hml : fc .leq (fo len) 9223372036854775807 = true := by cases hA; exact decide_eq_true (by show (len : Int) ≤ _; omega)
  obtain ⟨ln, hln⟩ : ∃ l, fo len = l := ⟨_, rfl⟩
  have eln : 0 ≤ ln ∧ ln.toNat = len := by rw [← hln]; cases hA; exact ⟨Int.natCast_nonneg _, rfl⟩
  have hml' : fc .leq ln 9223372036854775807 = true := by rw [← hln]; exact hml
  have ei : ∀ j : Int, 0 ≤ j → j < 1000001 → fi .add .i64 j 1 = j + 1 := by
    cases hA; intro j h0 h1; show IntKind.i64.wrap (j + 1) = _; rw [IntKind.wrap_i64]; omega
  have bad : plB L = false → K = FinH 1 (.tup [.row 1 0, .int .i64 1]) [] [⟨.recs k4 [], .row 4⟩] (uniR 1 (.tup [.row 1 0, .int .i64 1]) [] [⟨.recs k4 [], .row 4⟩]) := by
    intro hb
    have e1 : ap1 N wtL L = [] := by subst hN; rw [ap1_std]; unfold wtL; rw [hb]; rfl
    have e2 : ap1 N wtC L = 0 := by subst hN; rw [ap1_std]; unfold wtC wtL; rw [hb]; rfl
    have e3 : ap1 N wtE L = 1 := by subst hN; rw [ap1_std]; unfold wtE; rw [hb]; rfl
    rw [hK, hx, hnw, e1, e2, e3]
  have no : ∀ m, m < len → ¬ plTo L (m + 1) → plB L = false := by
    intro m hm h
    unfold plB
    rw [hO, decide_eq_false (p := plTo L len) (fun hh => h (fun i hi => hh i (by omega)))]
    simp
  have gbl : ∀ i : Int, 0 ≤ i → i.toNat < len → fb i len = true ∧ fl (gadd (fn i) 1) (hlen' L) = true ∧ hget L (fn i) = L.getD i.toNat 0 := by
    cases hA
    intro i h0 h1
    refine ⟨?_, decide_eq_true (by show i.toNat + 1 ≤ L.length; omega), rfl⟩
    show (decide (0 ≤ i) && decide (i < (len : Int))) = true
    rw [decide_eq_true (by omega), decide_eq_true (by omega)]; rfl
  apply Shut.mk
  cbv
  simp only [hln]
  cases h0 : fc .eql ln 0 <;> cbv
  · have hlen0 : 0 < len := by
      have : ln ≠ 0 := by cases hA; simpa [icmp] using h0
      omega
    obtain ⟨ok, hok⟩ : ∃ f, f = pcOk L := ⟨_, rfl⟩
    refine lp_ex hL len raEx (raHd L len) ok ?_ ?_ hL (.inr rfl)
    · cbv
      refine ⟨?_, ?_⟩
      · rw [hok]; exact ⟨Int.le_refl _, by rw [hO]; exact Nat.zero_add _, fun i hi => absurd hi (Nat.not_lt_zero _)⟩
      · simp only [hln, hml']; exact ⟨trivial, trivial⟩
    intro m hm i hd
    obtain ⟨i0, i1, i2⟩ : 0 ≤ i ∧ i.toNat + m = len ∧ plTo L i.toNat := by rw [hok] at hd; rw [← hO]; exact hd
    clear hd
    cbv
    simp only [hln]
    cases h1 : fc .lss i ln <;> cbv
    · have hj : i.toNat = len := by
        have : ¬ i < ln := by cases hA; exact of_decide_eq_false h1
        omega
      have hpl : plTo L len := by rw [← hj]; exact i2
      have hgood : plB L = true := by unfold plB; rw [hO, decide_eq_true hlen0, decide_eq_true hpl]; rfl
      obtain ⟨ok3, hok3⟩ : ∃ f, f = rcOk L := ⟨_, rfl⟩
      refine lp_ex hL len rcEx (rcHd L len) ok3 ?_ ?_ hL (.inr rfl)
      · cbv
        refine ⟨?_, ?_⟩
        · rw [hok3]; exact rcOk_mk (Int.le_refl _) (by rw [hO]; exact Nat.zero_add _) rfl rfl
        · simp only [hml']; exact ⟨trivial, trivial⟩
      clear h1 i0 i1 i2 hj hm i m
      intro m hm d hd
      obtain ⟨l, R, i⟩ := d
      obtain ⟨i0, i1, hl', hR⟩ : 0 ≤ i ∧ i.toNat + m = len ∧ l = i.toNat ∧ R = (L.take i.toNat).map (fun a => numR (wI L a)) := by rw [hok3] at hd; rw [← hO]; exact rcOk_ex hd
      clear hd
      have hRl : R.length = l := by rw [hR, hl']; simp; omega
      have gR : fq (rlen R) l = true := by cases hA; exact decide_eq_true hRl
      cbv
      simp only [hln]
      cases h1 : fc .lss i ln <;> cbv
      · have hj : i.toNat = len := by
          have : ¬ i < ln := by cases hA; exact of_decide_eq_false h1
          omega
        have eR : R = L.map (fun a => numR (wI L a)) := by rw [hR, List.take_of_length_le (by omega)]
        have e1 : ap1 N wtL L = R := by subst hN; rw [ap1_std]; unfold wtL; rw [hgood, eR]; rfl
        have e2 : ap1 N wtC L = l := by subst hN; rw [ap1_std]; unfold wtC wtL; rw [hgood]; simp; omega
        have e3 : ap1 N wtE L = 0 := by subst hN; rw [ap1_std]; unfold wtE; rw [hgood]; rfl
        rw [hx, hnw, e1, e2, e3] at hK
        rw [hK]
        cbv
        simp only [hln, hml']
        first | exact ⟨trivial, trivial⟩ | exact trivial | skip
      · have hlt : i.toNat < len := by
          have : i < ln := by cases hA; exact of_decide_eq_true h1
          omega
        obtain ⟨gb, gl, ga⟩ := gbl i i0 hlt
        obtain ⟨a, ha⟩ : ∃ a, L.getD i.toNat 0 = a := ⟨_, rfl⟩
        rw [ha] at ga
        have pa : placeOk a := by rw [← ha]; exact (hpl i.toNat hlt).1
        obtain ⟨ok4, hok4⟩ : ∃ f, f = whOk L a := ⟨_, rfl⟩
        refine lp_ex hL len rdEx (rdHd L len l R i) ok4 ?_ ?_ hL (.inr rfl)
        · cbv
          refine ⟨?_, ?_⟩
          · rw [hok4]
            exact whOk_mk (by decide) (by decide) one4 one4 (Int.le_refl _) (by rw [hO]; exact Nat.zero_add _)
          · simp only [hln, hml']
            first | exact ⟨trivial, trivial⟩ | exact trivial | skip
        intro m2 hm2 d2 hd2
        obtain ⟨u0, u1, u2, u3, d0, d1, d2, d3, k⟩ := d2
        obtain ⟨hu, hd, eu, ed, k0, k1⟩ : (W u0 ∧ W u1 ∧ W u2 ∧ W u3) ∧ (W d0 ∧ W d1 ∧ W d2 ∧ W d3) ∧ num4 u0 u1 u2 u3 = upI (L.take k.toNat) a 1 ∧ num4 d0 d1 d2 d3 = dnI (L.take k.toNat) a 1 ∧ 0 ≤ k ∧ k.toNat + m2 = len := by rw [hok4] at hd2; rw [← hO]; exact whOk_ex hd2
        clear hd2
        have nN : ∀ y, (0 ≤ y ∧ y < M256) → ap4 N num4 (ap1 N l0 y) (ap1 N l1 y) (ap1 N l2 y) (ap1 N l3 y) = y := by
          intro y hy; subst hN; rw [ap1_std, ap1_std, ap1_std, ap1_std, ap4_std]; exact limb_num hy
        obtain ⟨U, hU⟩ : ∃ y, num4 u0 u1 u2 u3 = y := ⟨_, rfl⟩
        obtain ⟨D, hD⟩ : ∃ y, num4 d0 d1 d2 d3 = y := ⟨_, rfl⟩
        have nU : ap4 N num4 u0 u1 u2 u3 = U := by subst hN; rw [ap4_std]; exact hU
        have nD : ap4 N num4 d0 d1 d2 d3 = D := by subst hN; rw [ap4_std]; exact hD
        rw [hU] at eu
        rw [hD] at ed
        have rU : 0 ≤ U ∧ U < qN := by rw [eu]; exact upI_range _ _ _ one_q
        have rD : 0 ≤ D ∧ D < qN := by rw [ed]; exact dnI_range _ _ _ one_q
        cbv
        simp only [hln]
        cases h2 : fc .lss k ln <;> cbv
        · have hk : k.toNat = len := by
            have : ¬ k < ln := by cases hA; exact of_decide_eq_false h2
            omega
          have etk : L.take k.toNat = L := List.take_of_length_le (by omega)
          rw [etk] at eu ed
          obtain ⟨m', rfl⟩ : ∃ m', m = m' + 1 := ⟨m - 1, by omega⟩
          obtain ⟨I, hI⟩ : ∃ y, ap1 N (sinvN Q) D = y := ⟨_, rfl⟩
          obtain ⟨X, hX⟩ : ∃ y, ap2 N (smulN Q) U I = y := ⟨_, rfl⟩
          have eI : I = sinvN qN D := by rw [← hI]; subst hN; rw [ap1_std, hQ]
          have rI : 0 ≤ I ∧ I < qN := by rw [eI]; exact sinvN_range (toM rD)
          have hokI : ap1 N (sinvOk Q) D = true := by subst hN; rw [ap1_std, hQ]; exact decide_eq_true (sinvN_range (toM rD)).1
          have eX : X = wI L a := by rw [← hX]; subst hN; rw [ap2_std, hQ, eI, eu, ed]; rfl
          have nI' := nN I (toM rI)
          have next : ok3 m' (gadd l 1, rapp R [[.int .u64 (ap1 N l0 X), .int .u64 (ap1 N l1 X), .int .u64 (ap1 N l2 X), .int .u64 (ap1 N l3 X)]], fi .add .i64 i 1) := by
            rw [hok3, ei i i0 (by omega)]
            cases hA; subst hN
            rw [ap1_std, ap1_std, ap1_std, ap1_std]
            have e1 : (i + 1).toNat = i.toNat + 1 := by omega
            refine rcOk_mk (by omega) (by rw [hO]; omega) (by show l + 1 = _; omega) ?_
            show R ++ _ = _
            rw [e1, take_map_succ (by omega), ← hR, ha, ← eX]
            rfl
          have g1 : fl (gmul (gadd l 1) 32) 140737488355328 = true := by cases hA; exact decide_eq_true (by show (l + 1) * 32 ≤ _; omega)
          simp only [ap1, ap2, ap4] at hI hX hokI nI' nU nD next
          clear hK bad
          cbv
          repeat (simp only [nU, nD, hI, hX, hokI, nI', gR, g1, hln, hml']; cbv)
          exact ⟨next, trivial⟩
        · have hk : k.toNat < len := by
            have : k < ln := by cases hA; exact of_decide_eq_true h2
            omega
          obtain ⟨m', rfl⟩ : ∃ m', m2 = m' + 1 := ⟨m2 - 1, by omega⟩
          obtain ⟨gb2, gl2, gc⟩ := gbl k k0 hk
          obtain ⟨c, hc⟩ : ∃ c, L.getD k.toNat 0 = c := ⟨_, rfl⟩
          rw [hc] at gc
          have e1 : (k + 1).toNat = k.toNat + 1 := by omega
          have tu := upI_take (L := L) (a := a) (k := k.toNat) (by omega) 1
          have td := dnI_take (L := L) (a := a) (k := k.toNat) (by omega) 1
          rw [hc, ← eu] at tu
          rw [hc, ← ed] at td
          cases h3 : fc .neq k i <;> cbv
          · have hki : k = i := by cases hA; simpa [icmp] using h3
            have hca : c = a := by rw [← hc, ← ha, hki]
            rw [if_pos hca] at tu td
            refine ⟨?_, ?_⟩
            · rw [hok4, ei k k0 (by omega)]
              refine whOk_mk hu hd ?_ ?_ (by omega) (by rw [hO]; omega)
              · rw [e1, tu, hU]
              · rw [e1, td, hD]
            · simp only [hln, hml']
              first | exact ⟨trivial, trivial⟩ | exact trivial | skip
          · have hki : k ≠ i := by cases hA; simpa [icmp] using h3
            have hca : c ≠ a := by
              intro e
              have := plTo_inj hpl hk hlt (by rw [hc, ha, e])
              exact hki (by omega)
            rw [if_neg hca] at tu td
            have pc : placeOk c := by rw [← hc]; exact (hpl k.toNat hk).1
            obtain ⟨TC, hTC⟩ : ∃ y, ap1 N nI c = y := ⟨_, rfl⟩
            obtain ⟨TA, hTA⟩ : ∃ y, ap1 N nI a = y := ⟨_, rfl⟩
            obtain ⟨S, hS⟩ : ∃ y, ap2 N (ssubN Q) TC TA = y := ⟨_, rfl⟩
            obtain ⟨PU, hPU⟩ : ∃ y, ap2 N (smulN Q) U TC = y := ⟨_, rfl⟩
            obtain ⟨PD, hPD⟩ : ∃ y, ap2 N (smulN Q) D S = y := ⟨_, rfl⟩
            have eTC : TC = nI c := by rw [← hTC]; subst hN; rw [ap1_std]
            have eTA : TA = nI a := by rw [← hTA]; subst hN; rw [ap1_std]
            have rTC : 0 ≤ TC ∧ TC < qN := by rw [eTC]; exact place_q pc
            have rTA : 0 ≤ TA ∧ TA < qN := by rw [eTA]; exact place_q pa
            have eS : S = ssubN qN (nI c) (nI a) := by rw [← hS]; subst hN; rw [ap2_std, hQ, eTC, eTA]
            have rS : 0 ≤ S ∧ S < qN := by rw [eS, ← eTC, ← eTA]; exact ssubN_range (toM rTC) (toM rTA)
            have ePU : PU = smulN qN U (nI c) := by rw [← hPU]; subst hN; rw [ap2_std, hQ, eTC]
            have ePD : PD = smulN qN D (ssubN qN (nI c) (nI a)) := by rw [← hPD]; subst hN; rw [ap2_std, hQ, eS]
            have rPU : 0 ≤ PU ∧ PU < qN := by rw [ePU]; exact smulN_range _ _
            have rPD : 0 ≤ PD ∧ PD < qN := by rw [ePD]; exact smulN_range _ _
            have nTC := nN TC (toM rTC)
            have nTA := nN TA (toM rTA)
            have nS := nN S (toM rS)
            have next : ok4 m' (ap1 N l0 PU, ap1 N l1 PU, ap1 N l2 PU, ap1 N l3 PU, ap1 N l0 PD, ap1 N l1 PD, ap1 N l2 PD, ap1 N l3 PD, fi .add .i64 k 1) := by
              rw [hok4, ei k k0 (by omega)]
              subst hN
              simp only [ap1_std]
              refine whOk_mk (limb_W PU) (limb_W PD) ?_ ?_ (by omega) (by rw [hO]; omega)
              · rw [limb_num (toM rPU), e1, tu, ePU]
              · rw [limb_num (toM rPD), e1, td, ePD]
            simp only [ap1, ap2, ap4] at hTC hTA hS hPU hPD nTC nTA nS nU nD next
            simp only [ga, gc, nU, nD, hTC, hTA, nTC, nTA, hS, nS, hPU, hPD]
            refine ⟨next, ?_, trivial⟩
            simp only [gb, gl, gb2, gl2, hln, hml']
    · have hlt : i.toNat < len := by
        have : i < ln := by cases hA; exact of_decide_eq_true h1
        omega
      obtain ⟨gb, gl, ga⟩ := gbl i i0 hlt
      obtain ⟨a, ha⟩ : ∃ a, L.getD i.toNat 0 = a := ⟨_, rfl⟩
      rw [ha] at ga
      simp only [ga]
      cases h2 : fc .lss a 1 <;> cbv
      · have a1 : 1 ≤ a := by
          have : ¬ a < 1 := by cases hA; exact of_decide_eq_false h2
          omega
        simp only [ga]
        cases h3 : fc .gtr a 2147483648 <;> cbv
        · have a2 : a ≤ 2147483648 := by
            have : ¬ a > 2147483648 := by cases hA; exact of_decide_eq_false h3
            omega
          obtain ⟨I, hI⟩ : ∃ I, i.toNat = I := ⟨_, rfl⟩
          obtain ⟨ok2, hok2⟩ : ∃ f, f = pdOk L I := ⟨_, rfl⟩
          refine lp_ex hL I rbEx (rbHd L len i) ok2 ?_ ?_ hL (.inr rfl)
          · cbv
            refine ⟨?_, ?_⟩
            · rw [hok2]; exact ⟨Int.le_refl _, Nat.zero_add _, fun x hx => absurd hx (Nat.not_lt_zero _)⟩
            · simp only [gb, gl, hln, hml']; exact ⟨trivial, trivial⟩
          intro m2 hm2 j hd2
          obtain ⟨j0, j1, j2⟩ : 0 ≤ j ∧ j.toNat + m2 = I ∧ ∀ x, x < j.toNat → L.getD x 0 ≠ L.getD I 0 := by rw [hok2] at hd2; exact hd2
          clear hd2
          cbv
          cases h4 : fc .lss j i <;> cbv
          · have hjk : j.toNat = I := by
              have : ¬ j < i := by cases hA; exact of_decide_eq_false h4
              omega
            obtain ⟨m', rfl⟩ : ∃ m', m = m' + 1 := ⟨m - 1, by omega⟩
            cbv
            refine ⟨?_, trivial⟩
            rw [hok, ei i i0 (by omega)]
            have e1 : (i + 1).toNat = i.toNat + 1 := by omega
            refine ⟨by omega, by rw [hO]; omega, ?_⟩
            rw [e1]
            refine plTo_succ i2 ⟨by rw [ha]; exact a1, by rw [ha]; exact a2⟩ (fun x hx => ?_)
            rw [hI]
            exact j2 x (by omega)
          · have hjk : j.toNat < I := by
              have : j < i := by cases hA; exact of_decide_eq_true h4
              omega
            obtain ⟨gb2, gl2, gc⟩ := gbl j j0 (by omega)
            obtain ⟨c, hc⟩ : ∃ c, L.getD j.toNat 0 = c := ⟨_, rfl⟩
            rw [hc] at gc
            obtain ⟨m', rfl⟩ : ∃ m', m2 = m' + 1 := ⟨m2 - 1, by omega⟩
            simp only [ga, gc]
            cases h5 : fc .eql c a <;> cbv
            · have hne : c ≠ a := by cases hA; simpa [icmp] using h5
              refine ⟨?_, ?_⟩
              · rw [hok2, ei j j0 (by omega)]
                refine ⟨by omega, by omega, fun x hx => ?_⟩
                rcases Nat.lt_or_ge x j.toNat with h6 | h6
                · exact j2 x h6
                · have : x = j.toNat := by omega
                  rw [this, hc, ← hI, ha]
                  exact hne
              · simp only [gb, gl, gb2, gl2]
                exact ⟨trivial, trivial⟩
            · have heq : c = a := by cases hA; simpa [icmp] using h5
              rw [bad (no i.toNat hlt (fun hh => by
                have := (hh i.toNat (by omega)).2 j.toNat (by omega)
                rw [ha, hc] at this
                exact this heq))]
              cbv
              simp only [gb, gl, gb2, gl2, hln, hml']
              first | exact ⟨trivial, trivial⟩ | exact trivial | skip
        · rw [bad (no i.toNat hlt (fun hh => by
            have := (hh i.toNat (by omega)).1
            rw [ha] at this
            have : a > 2147483648 := by cases hA; exact of_decide_eq_true h3
            unfold placeOk at *
            omega))]
          cbv
          simp only [gb, gl, hln, hml']
          first | exact ⟨trivial, trivial⟩ | exact trivial | skip
      · rw [bad (no i.toNat hlt (fun hh => by
          have := (hh i.toNat (by omega)).1
          rw [ha] at this
          have : a < 1 := by cases hA; exact of_decide_eq_true h2
          unfold placeOk at *
          omega))]
        cbv
        simp only [gb, gl, hln, hml']
        first | exact ⟨trivial, trivial⟩ | exact trivial | skip
  · have hlen0 : len = 0 := by
      have : ln = 0 := by cases hA; simpa [icmp] using h0
      omega
    rw [bad (by unfold plB; rw [hO, hlen0]; rfl)]
    cbv
    simp only [hln, hml']
    first | exact ⟨trivial, trivial⟩ | exact trivial | skip

theorem hcon_rweights : HCon Try.prog [] 19 (weightsH std apStd) := by
  refine hcon_shut Try.func19 rfl (by kernel_rfl) (fun args h x ch nw hF m us w H hv => ?_)
  unfold weightsH at hF
  split at hF
  · rename_i n k L b
    simp only [HR.mk.injEq, Bool.and_eq_true] at hF
    obtain ⟨⟨h1, h2, h3, h4⟩, rfl, rfl, rfl⟩ := hF
    have h2 := kn_eq h2
    subst h2
    have h3 : L.length = n := by simpa [std] using h3
    have h4 : n ≤ 1000000 := by simpa [std] using h4
    refine ⟨_, [.row 0 n], _, goods (base := 1) (l := [(44, numF apStd), (43, smul apStd qN), (49, ssub apStd qN), (50, sinv apStd qN), (48, smallF apStd)]) (d := [])
      (by intro p hp; simp only [List.mem_cons, List.not_mem_nil, or_false] at hp; rcases hp with rfl | rfl | rfl | rfl | rfl; exact con_rnum; exact con_srMul; exact con_srSub; exact con_rInv; exact con_small) (by simp),
      rfl, by kernel_rfl, hv, Nat.le_of_ble_eq_true rfl, ?_, rfl, by simp, rweights_vc std apStd (ALoop 1) L n qN rfl rfl rfl rfl h3 h4 _ rfl _ rfl _ rfl⟩
    exact ⟨⟨kOk_ro h1, rfl, rfl⟩, trivial⟩
  · simp at hF

end Go.Proofs.Ytnhobbdijdbbeaa
