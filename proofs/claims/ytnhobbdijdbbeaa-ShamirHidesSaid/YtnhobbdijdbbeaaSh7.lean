/- Walks through shamir: the weights of places. It has no conditions. -/
import Derived.Test.YtnhobbdijdbbeaaSh6
namespace Go.Proofs.Ytnhobbdijdbbeaa
open Go.Eng Go.RowKit
set_option maxRecDepth 1000000
set_option maxHeartbeats 4000000
set_option linter.unusedSimpArgs false
set_option linter.unusedVariables false

def numR (x : Int) : List Sc := [.int .u64 (l0 x), .int .u64 (l1 x), .int .u64 (l2 x), .int .u64 (l3 x)]
def zeroR : List Sc := [.int .u64 0, .int .u64 0, .int .u64 0, .int .u64 0]
def wtL (L : List Int) : List (List Sc) := if plB L then L.map (fun a => numR (wI L a)) else []
def wtC (L : List Int) : Nat := (wtL L).length
def wtE (L : List Int) : Int := if plB L then 0 else 1

def weightsH (A : Ar) (N : Ap) : HF := fun args h => match args, h with
  | [.row 0 n], [⟨.ints k L, b⟩] => ⟨liveK b && (Nat.beq (kn k) (kn .i64) && (A.neq (A.ilen L) n && A.nle n 1000000)), .tup [.row 1 (ap1 N wtC L), .int .i64 (ap1 N wtE L)], [], [⟨.recs k4 (ap1 N wtL L), .row 4⟩]⟩
  | _, _ => ⟨false, .bad, [], []⟩

theorem one4 : num4 1 0 0 0 = 1 := by decide
theorem upI_take {L : List Int} {a : Int} {k : Nat} (hk : k < L.length) (u : Int) : upI (L.take (k + 1)) a u = if L.getD k 0 = a then upI (L.take k) a u else smulN qN (upI (L.take k) a u) (nI (L.getD k 0)) := by
  have e : L.take (k + 1) = L.take k ++ [L.getD k 0] := by rw [List.take_add_one, List.getElem?_eq_getElem hk]; simp [List.getD, List.getElem?_eq_getElem hk]
  rw [e]
  unfold upI
  rw [List.foldl_append]
  rfl
theorem dnI_take {L : List Int} {a : Int} {k : Nat} (hk : k < L.length) (u : Int) : dnI (L.take (k + 1)) a u = if L.getD k 0 = a then dnI (L.take k) a u else smulN qN (dnI (L.take k) a u) (ssubN qN (nI (L.getD k 0)) (nI a)) := by
  have e : L.take (k + 1) = L.take k ++ [L.getD k 0] := by rw [List.take_add_one, List.getElem?_eq_getElem hk]; simp [List.getD, List.getElem?_eq_getElem hk]
  rw [e]
  unfold dnI
  rw [List.foldl_append]
  rfl

def wgHd (L : List Int) (len : Nat) (ln : Int) : Nat → List (List Sc) × Int → St
  | _, (R, i) => ⟨[(0, .row 0 len), (4, .row 1 len), (17, .row 0 len), (18, .int .i64 ln), (19, .int .i64 i)], [⟨.ints .i64 L, .ro⟩, ⟨.recs k4 R, .row 4⟩], true⟩
def wgEx (S : St) : List (List Sc) × Int := (recsAt k4 S 4, slotI S 19)
def wgOk (L : List Int) (n : Nat) (d : List (List Sc) × Int) : Prop := d.1.length = L.length ∧ 0 ≤ d.2 ∧ d.2.toNat + n = L.length ∧ ∀ x, x < d.2.toNat → d.1[x]? = some (numR (wI L (L.getD x 0)))
theorem wgOk_mk {L : List Int} {n : Nat} {R : List (List Sc)} {i : Int} (h : R.length = L.length) (h1 : 0 ≤ i) (h2 : i.toNat + n = L.length) (h3 : ∀ x, x < i.toNat → R[x]? = some (numR (wI L (L.getD x 0)))) : wgOk L n (R, i) := ⟨h, h1, h2, h3⟩
theorem wgOk_ex {L : List Int} {n : Nat} {R : List (List Sc)} {i : Int} (h : wgOk L n (R, i)) : R.length = L.length ∧ 0 ≤ i ∧ i.toNat + n = L.length ∧ ∀ x, x < i.toNat → R[x]? = some (numR (wI L (L.getD x 0))) := h

abbrev D8 := Int × Int × Int × Int × Int × Int × Int × Int × Int
def whHd (L : List Int) (len : Nat) (ln : Int) (R : List (List Sc)) (i a : Int) : Nat → D8 → St
  | _, (u0, u1, u2, u3, d0, d1, d2, d3, k) => ⟨[(0, .row 0 len), (4, .row 1 len), (5, .int .i64 i), (6, .int .i64 a), (7, .ptr 2 0), (8, .ptr 3 0), (17, .row 0 len), (18, .int .i64 ln), (19, .int .i64 i), (26, .row 0 len), (27, .int .i64 ln), (28, .int .i64 k)],
      [⟨.ints .i64 L, .ro⟩, ⟨.recs k4 R, .row 4⟩, ⟨.lit [.int .u64 u0, .int .u64 u1, .int .u64 u2, .int .u64 u3], .var⟩, ⟨.lit [.int .u64 d0, .int .u64 d1, .int .u64 d2, .int .u64 d3], .var⟩], true⟩
def whEx (S : St) : D8 := (cellI S 2 0, cellI S 2 1, cellI S 2 2, cellI S 2 3, cellI S 3 0, cellI S 3 1, cellI S 3 2, cellI S 3 3, slotI S 28)
def whOk (L : List Int) (a : Int) (n : Nat) : D8 → Prop
  | (u0, u1, u2, u3, d0, d1, d2, d3, k) => (W u0 ∧ W u1 ∧ W u2 ∧ W u3) ∧ (W d0 ∧ W d1 ∧ W d2 ∧ W d3) ∧ num4 u0 u1 u2 u3 = upI (L.take k.toNat) a 1 ∧ num4 d0 d1 d2 d3 = dnI (L.take k.toNat) a 1 ∧ 0 ≤ k ∧ k.toNat + n = L.length
theorem whOk_mk {L : List Int} {a : Int} {n : Nat} {u0 u1 u2 u3 d0 d1 d2 d3 k : Int} (h : W u0 ∧ W u1 ∧ W u2 ∧ W u3) (h' : W d0 ∧ W d1 ∧ W d2 ∧ W d3) (h1 : num4 u0 u1 u2 u3 = upI (L.take k.toNat) a 1) (h2 : num4 d0 d1 d2 d3 = dnI (L.take k.toNat) a 1) (h3 : 0 ≤ k) (h4 : k.toNat + n = L.length) :
    whOk L a n (u0, u1, u2, u3, d0, d1, d2, d3, k) := ⟨h, h', h1, h2, h3, h4⟩
theorem whOk_ex {L : List Int} {a : Int} {n : Nat} {u0 u1 u2 u3 d0 d1 d2 d3 k : Int} (h : whOk L a n (u0, u1, u2, u3, d0, d1, d2, d3, k)) : (W u0 ∧ W u1 ∧ W u2 ∧ W u3) ∧ (W d0 ∧ W d1 ∧ W d2 ∧ W d3) ∧ num4 u0 u1 u2 u3 = upI (L.take k.toNat) a 1 ∧ num4 d0 d1 d2 d3 = dnI (L.take k.toNat) a 1 ∧ 0 ≤ k ∧ k.toNat + n = L.length := h

theorem weights_vc (A : Ar) (N : Ap) (L0 : LP) (L : List Int) (len : Nat) (Q : Int) (hL : L0 = ALoop 1) (hA : A = std) (hN : N = apStd) (hQ : Q = qN) (hO : L.length = len) (hl : len ≤ 1000000)
    (x : SV) (hx : x = .tup [.row 1 (ap1 N wtC L), .int .i64 (ap1 N wtE L)]) (nw : List Blk) (hnw : nw = [⟨.recs k4 (ap1 N wtL L), .row 4⟩]) (K : Bool → SV → List Blk → Prop) (hK : K = FinH 1 x [] nw (uniR 1 x [] nw)) :
    Shut (afun (cxs A L0 [(41, numF N), (40, smul N Q), (46, ssub N Q), (47, sinv N Q)] [(45, placesH A N)]) Try.f18 [.row 0 len] [⟨.ints .i64 L, .ro⟩] K) := by
  obtain ⟨fi, fc, fw, fb, fn, fo, fs, fa, fe, fz, fy, ff, fl, fq, gadd, gsub, gmul, gmin, hlen', hget, hset, happ, hisub, irep, iput', rlen, rint', rbool', rstr', rset, rapp, rsub, rrep, hmkb, hbyts, imn, imx⟩ := A
  obtain ⟨b, hb⟩ : ∃ b, ap1 N plB L = b := ⟨_, rfl⟩
  have hbe : plB L = b := by rw [← hb]; subst hN; rw [ap1_std]
  have hql : fq (hlen' L) len = true := by cases hA; exact decide_eq_true hO
  have hln : fl len 1000000 = true := by cases hA; exact decide_eq_true hl
  have hml : fc .leq (fo len) 9223372036854775807 = true := by cases hA; exact decide_eq_true (by show (len : Int) ≤ _; omega)
  obtain ⟨ln, hlnn⟩ : ∃ l, fo len = l := ⟨_, rfl⟩
  have eln : 0 ≤ ln ∧ ln.toNat = len := by rw [← hlnn]; cases hA; exact ⟨Int.natCast_nonneg _, rfl⟩
  have hfn : fn ln = len := by rw [← eln.2]; cases hA; rfl
  simp only [ap1] at hb
  apply Shut.mk
  cbv
  simp only [hb]
  cases b <;> cbv
  · have e1 : ap1 N wtL L = [] := by subst hN; rw [ap1_std]; unfold wtL; rw [hbe]; rfl
    have e2 : ap1 N wtC L = 0 := by subst hN; rw [ap1_std]; unfold wtC wtL; rw [hbe]; rfl
    have e3 : ap1 N wtE L = 1 := by subst hN; rw [ap1_std]; unfold wtE; rw [hbe]; rfl
    rw [hx, hnw, e1, e2, e3] at hK
    rw [hK]
    cbv
    simp only [hql, hln]
    exact ⟨trivial, trivial⟩
  · simp only [hlnn] at hml ⊢
    cbv
    simp only [hfn]
    have c1 : fc .leq 0 ln = true := by cases hA; exact decide_eq_true eln.1
    have c2 : fc .leq ln ln = true := by cases hA; exact decide_eq_true (Int.le_refl _)
    have c3 : fc .leq ln (Int.ofNat 8529544748807) = true := by cases hA; exact decide_eq_true (by show ln ≤ 8529544748807; omega)
    have ei : ∀ j : Int, 0 ≤ j → j < 1000001 → fi .add .i64 j 1 = j + 1 := by
      cases hA; intro j h0 h1; show IntKind.i64.wrap (j + 1) = _; rw [IntKind.wrap_i64]; omega
    obtain ⟨ok, hok⟩ : ∃ f, f = wgOk L := ⟨_, rfl⟩
    refine lp_ex hL len wgEx (wgHd L len ln) ok ?_ ?_ hL (.inr rfl)
    · cbv
      refine ⟨?_, ?_, trivial⟩
      · rw [hok]
        refine wgOk_mk ?_ (Int.le_refl _) (by rw [hO]; exact Nat.zero_add _) (fun x hx => absurd hx (Nat.not_lt_zero _))
        cases hA
        show (List.replicate len _).length = _
        rw [List.length_replicate, hO]
      · simp only [hml, c1, c2, c3, hql, hln]
    intro m hm d hd
    obtain ⟨R, i⟩ := d
    obtain ⟨hR, i0, i1, i2⟩ : R.length = len ∧ 0 ≤ i ∧ i.toNat + m = len ∧ ∀ x, x < i.toNat → R[x]? = some (numR (wI L (L.getD x 0))) := by rw [hok] at hd; rw [← hO]; exact wgOk_ex hd
    clear hd
    cbv
    cases h1 : fc .lss i ln <;> cbv
    · have hj : i.toNat = len := by
        have : ¬ i < ln := by cases hA; exact of_decide_eq_false h1
        omega
      have eR : R = L.map (fun a => numR (wI L a)) := by
        apply List.ext_getElem?
        intro x
        by_cases hx' : x < len
        · rw [i2 x (by omega), List.getElem?_map, List.getElem?_eq_getElem (by omega), Option.map_some]
          simp [List.getD, List.getElem?_eq_getElem (show x < L.length by omega)]
        · rw [List.getElem?_eq_none (by omega), List.getElem?_eq_none (by simp; omega)]
      have e1 : ap1 N wtL L = R := by subst hN; rw [ap1_std]; unfold wtL; rw [hbe, eR]; rfl
      have e2 : ap1 N wtC L = len := by subst hN; rw [ap1_std]; unfold wtC wtL; rw [hbe]; simp [hO]
      have e3 : ap1 N wtE L = 0 := by subst hN; rw [ap1_std]; unfold wtE; rw [hbe]; rfl
      rw [hx, hnw, e1, e2, e3] at hK
      rw [hK]
      cbv
    · have hlt : i.toNat < len := by
        have : i < ln := by cases hA; exact of_decide_eq_true h1
        omega
      have gb : fb i len = true := by
        cases hA
        show (decide (0 ≤ i) && decide (i < (len : Int))) = true
        rw [decide_eq_true (by omega), decide_eq_true (by omega)]; rfl
      have gl : fl (gadd (fn i) 1) (hlen' L) = true := by
        cases hA
        exact decide_eq_true (by show i.toNat + 1 ≤ L.length; omega)
      obtain ⟨a, ha⟩ : ∃ a, hget L (fn i) = a := ⟨_, rfl⟩
      have ea : a = L.getD i.toNat 0 := by rw [← ha]; cases hA; rfl
      simp only [ha]
      obtain ⟨ok2, hok2⟩ : ∃ f, f = whOk L a := ⟨_, rfl⟩
      simp only [hlnn]
      refine lp_ex hL len whEx (whHd L len ln R i a) ok2 ?_ ?_ hL (.inr rfl)
      · cbv
        refine ⟨?_, ?_, trivial⟩
        · rw [hok2]
          exact whOk_mk (by decide) (by decide) one4 one4 (Int.le_refl _) (by rw [hO]; exact Nat.zero_add _)
        · simp only [hml, gl, gb]
      intro m2 hm2 d2 hd2
      obtain ⟨u0, u1, u2, u3, d0, d1, d2, d3, k⟩ := d2
      obtain ⟨hu, hd, eu, ed, k0, k1⟩ : (W u0 ∧ W u1 ∧ W u2 ∧ W u3) ∧ (W d0 ∧ W d1 ∧ W d2 ∧ W d3) ∧ num4 u0 u1 u2 u3 = upI (L.take k.toNat) a 1 ∧ num4 d0 d1 d2 d3 = dnI (L.take k.toNat) a 1 ∧ 0 ≤ k ∧ k.toNat + m2 = len := by rw [hok2] at hd2; rw [← hO]; exact whOk_ex hd2
      clear hd2
      cbv
      have nN : ∀ y, (0 ≤ y ∧ y < M256) → ap4 N num4 (ap1 N l0 y) (ap1 N l1 y) (ap1 N l2 y) (ap1 N l3 y) = y := by
        intro y hy; subst hN; rw [ap1_std, ap1_std, ap1_std, ap1_std, ap4_std]; exact limb_num hy
      obtain ⟨U, hU⟩ : ∃ y, num4 u0 u1 u2 u3 = y := ⟨_, rfl⟩
      obtain ⟨D, hD⟩ : ∃ y, num4 d0 d1 d2 d3 = y := ⟨_, rfl⟩
      have nU : ap4 N num4 u0 u1 u2 u3 = U := by subst hN; rw [ap4_std]; exact hU
      have nD : ap4 N num4 d0 d1 d2 d3 = D := by subst hN; rw [ap4_std]; exact hD
      rw [hU] at eu
      rw [hD] at ed
      have rU : 0 ≤ U ∧ U < qN := by rw [eu]; exact upI_range _ _ _ one_q
      have rD : 0 ≤ D ∧ D < qN := by rw [ed]; exact dnI_range _ _ _ one_q
      cases h2 : fc .lss k ln <;> cbv
      · have hk : k.toNat = len := by
          have : ¬ k < ln := by cases hA; exact of_decide_eq_false h2
          omega
        have etk : L.take k.toNat = L := List.take_of_length_le (by omega)
        rw [etk] at eu ed
        obtain ⟨m', rfl⟩ : ∃ m', m = m' + 1 := ⟨m - 1, by omega⟩
        obtain ⟨I, hI⟩ : ∃ y, ap1 N (sinvN Q) D = y := ⟨_, rfl⟩
        obtain ⟨X, hX⟩ : ∃ y, ap2 N (smulN Q) U I = y := ⟨_, rfl⟩
        have eI : I = sinvN qN D := by rw [← hI]; subst hN; rw [ap1_std, hQ]
        have rI : 0 ≤ I ∧ I < qN := by rw [eI]; exact sinvN_range (toM rD)
        have hokI : ap1 N (sinvOk Q) D = true := by subst hN; rw [ap1_std, hQ]; exact decide_eq_true (sinvN_range (toM rD)).1
        have eX : X = wI L a := by rw [← hX]; subst hN; rw [ap2_std, hQ, eI, eu, ed]; rfl
        have nI' := nN I (toM rI)
        have glR : fl (gadd (fn i) 1) (rlen R) = true := by
          cases hA
          exact decide_eq_true (by show i.toNat + 1 ≤ R.length; omega)
        have next : ok m' (rset R (fn i) [.int .u64 (ap1 N l0 X), .int .u64 (ap1 N l1 X), .int .u64 (ap1 N l2 X), .int .u64 (ap1 N l3 X)], fi .add .i64 i 1) := by
          rw [hok, ei i i0 (by omega)]
          cases hA; subst hN
          rw [ap1_std, ap1_std, ap1_std, ap1_std]
          refine wgOk_mk ?_ (by omega) (by rw [hO]; omega) (fun x hx' => ?_)
          · show (R.set i.toNat _).length = _
            rw [List.length_set, hR, hO]
          · show (R.set i.toNat _)[x]? = _
            rw [List.getElem?_set]
            by_cases hxi : i.toNat = x
            · rw [if_pos hxi, if_pos (by omega), ← hxi, ← ea, ← eX]
              rfl
            · rw [if_neg hxi]
              exact i2 x (by omega)
        simp only [ap1, ap2, ap4] at hI hX hokI nI' nU nD next
        clear hK
        cbv
        repeat (simp only [nU, nD, hI, hX, hokI, nI', gb, gl, glR, hml]; cbv)
        exact ⟨next, trivial⟩
      · have hk : k.toNat < len := by
          have : k < ln := by cases hA; exact of_decide_eq_true h2
          omega
        obtain ⟨m', rfl⟩ : ∃ m', m2 = m' + 1 := ⟨m2 - 1, by omega⟩
        have gb2 : fb k len = true := by
          cases hA
          show (decide (0 ≤ k) && decide (k < (len : Int))) = true
          rw [decide_eq_true (by omega), decide_eq_true (by omega)]; rfl
        have gl2 : fl (gadd (fn k) 1) (hlen' L) = true := by
          cases hA
          exact decide_eq_true (by show k.toNat + 1 ≤ L.length; omega)
        obtain ⟨c, hc⟩ : ∃ c, hget L (fn k) = c := ⟨_, rfl⟩
        have ec : c = L.getD k.toNat 0 := by rw [← hc]; cases hA; rfl
        have e1 : (k + 1).toNat = k.toNat + 1 := by omega
        have tu := upI_take (L := L) (a := a) (k := k.toNat) (by omega) 1
        have td := dnI_take (L := L) (a := a) (k := k.toNat) (by omega) 1
        rw [← ec, ← eu] at tu
        rw [← ec, ← ed] at td
        simp only [hc]
        cases h3 : fc .neq c a <;> cbv
        · have hca : c = a := by cases hA; simpa [icmp] using h3
          rw [if_pos hca] at tu td
          refine ⟨?_, ?_⟩
          · rw [hok2, ei k k0 (by omega)]
            refine whOk_mk hu hd ?_ ?_ (by omega) (by rw [hO]; omega)
            · rw [e1, tu, hU]
            · rw [e1, td, hD]
          · simp only [gb2, gl2]
            exact ⟨trivial, trivial⟩
        · have hca : c ≠ a := by cases hA; simpa [icmp] using h3
          rw [if_neg hca] at tu td
          have hpl : plTo L len := by
            have h := hbe
            unfold plB at h
            rw [Bool.and_eq_true] at h
            rw [← hO]
            exact of_decide_eq_true h.2
          have pc : placeOk c := by rw [ec]; exact (hpl k.toNat hk).1
          have pa : placeOk a := by rw [ea]; exact (hpl i.toNat hlt).1
          obtain ⟨TC, hTC⟩ : ∃ y, ap1 N nI c = y := ⟨_, rfl⟩
          obtain ⟨TA, hTA⟩ : ∃ y, ap1 N nI a = y := ⟨_, rfl⟩
          obtain ⟨S, hS⟩ : ∃ y, ap2 N (ssubN Q) TC TA = y := ⟨_, rfl⟩
          obtain ⟨PU, hPU⟩ : ∃ y, ap2 N (smulN Q) U TC = y := ⟨_, rfl⟩
          obtain ⟨PD, hPD⟩ : ∃ y, ap2 N (smulN Q) D S = y := ⟨_, rfl⟩
          have eTC : TC = nI c := by rw [← hTC]; subst hN; rw [ap1_std]
          have eTA : TA = nI a := by rw [← hTA]; subst hN; rw [ap1_std]
          have rTC : 0 ≤ TC ∧ TC < qN := by rw [eTC]; exact place_q pc
          have rTA : 0 ≤ TA ∧ TA < qN := by rw [eTA]; exact place_q pa
          have eS : S = ssubN qN (nI c) (nI a) := by rw [← hS]; subst hN; rw [ap2_std, hQ, eTC, eTA]
          have rS : 0 ≤ S ∧ S < qN := by rw [eS, ← eTC, ← eTA]; exact ssubN_range (toM rTC) (toM rTA)
          have ePU : PU = smulN qN U (nI c) := by rw [← hPU]; subst hN; rw [ap2_std, hQ, eTC]
          have ePD : PD = smulN qN D (ssubN qN (nI c) (nI a)) := by rw [← hPD]; subst hN; rw [ap2_std, hQ, eS]
          have rPU : 0 ≤ PU ∧ PU < qN := by rw [ePU]; exact smulN_range _ _
          have rPD : 0 ≤ PD ∧ PD < qN := by rw [ePD]; exact smulN_range _ _
          have nTC := nN TC (toM rTC)
          have nTA := nN TA (toM rTA)
          have nS := nN S (toM rS)
          have next : ok2 m' (ap1 N l0 PU, ap1 N l1 PU, ap1 N l2 PU, ap1 N l3 PU, ap1 N l0 PD, ap1 N l1 PD, ap1 N l2 PD, ap1 N l3 PD, fi .add .i64 k 1) := by
            rw [hok2, ei k k0 (by omega)]
            subst hN
            simp only [ap1_std]
            refine whOk_mk (limb_W PU) (limb_W PD) ?_ ?_ (by omega) (by rw [hO]; omega)
            · rw [limb_num (toM rPU), e1, tu, ePU]
            · rw [limb_num (toM rPD), e1, td, ePD]
          simp only [ap1, ap2, ap4] at hTC hTA hS hPU hPD nTC nTA nS nU nD next
          simp only [nU, nD, hTC, hTA, nTC, nTA, hS, nS, hPU, hPD]
          refine ⟨next, ?_, trivial⟩
          simp only [gb2, gl2]

theorem hcon_weights : HCon Try.prog [] 18 (weightsH std apStd) := by
  refine hcon_shut Try.func18 rfl (by kernel_rfl) (fun args h x ch nw hF m us w H hv => ?_)
  unfold weightsH at hF
  split at hF
  · rename_i n k L b
    simp only [HR.mk.injEq, Bool.and_eq_true] at hF
    obtain ⟨⟨h1, h2, h3, h4⟩, rfl, rfl, rfl⟩ := hF
    have h2 := kn_eq h2
    subst h2
    have h3 : L.length = n := by simpa [std] using h3
    have h4 : n ≤ 1000000 := by simpa [std] using h4
    refine ⟨_, [.row 0 n], _, goods (base := 1) (l := [(41, numF apStd), (40, smul apStd qN), (46, ssub apStd qN), (47, sinv apStd qN)]) (d := [(45, placesH std apStd)])
      (by intro p hp; simp only [List.mem_cons, List.not_mem_nil, or_false] at hp; rcases hp with rfl | rfl | rfl | rfl; exact con_hnum; exact con_sMul; exact con_sSub; exact con_sInv) (by intro p hp; simp at hp; subst hp; exact hcon_places),
      rfl, by kernel_rfl, hv, Nat.le_of_ble_eq_true rfl, ?_, rfl, by simp, weights_vc std apStd (ALoop 1) L n qN rfl rfl rfl rfl h3 h4 _ rfl _ rfl _ rfl⟩
    exact ⟨⟨kOk_ro h1, rfl, rfl⟩, trivial⟩
  · simp at hF

end Go.Proofs.Ytnhobbdijdbbeaa
