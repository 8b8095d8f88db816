/- The law ShamirHides hands back true, whatever the input. It has no conditions. -/
import Derived.Test.YtnhobbdijdbbeaaSh17
import Derived.Test.YtnhobbdijdbbeaaLawS
namespace Go.Proofs.Ytnhobbdijdbbeaa
open Go.Eng Go.ChangeShapes Go.WideShapes Go.ChangeAt Go.RowKit
set_option maxRecDepth 1000000
set_option maxHeartbeats 4000000
set_option linter.unusedSimpArgs false
set_option linter.unusedVariables false

def shamirHidesL (A : Ar) (N : Ap) (Q : Int) : Pure := [(25, sval N Q)]
def shamirHidesD (A : Ar) (N : Ap) : Heap := [(23, lplacesR A N), (26, throughH A N), (13, evalH A N), (12, shTrueH)]

theorem shamirHidesL_ok : ∀ p ∈ shamirHidesL std apStd qN, Con Try.prog p.1 p.2 := by
  intro p hp
  simp only [shamirHidesL, List.mem_cons, List.not_mem_nil, or_false] at hp
  rcases hp with rfl
  · exact con_srValid
theorem shamirHidesD_ok : ∀ p ∈ shamirHidesD std apStd, HCon Try.prog [] p.1 p.2 := by
  intro p hp
  simp only [shamirHidesD, List.mem_cons, List.not_mem_nil, or_false] at hp
  rcases hp with rfl | rfl | rfl | rfl
  · exact hcon_lplacesR
  · exact hcon_through
  · exact hcon_hev
  · exact hcon_shAwake

theorem sh_row {r : List Sc} (h : rowOk kS r) : ∃ a w1 w2 w3 w4, r = [.int .i64 a, .int .u64 w1, .int .u64 w2, .int .u64 w3, .int .u64 w4] ∧ Go.Eng.W w1 ∧ Go.Eng.W w2 ∧ Go.Eng.W w3 ∧ Go.Eng.W w4 := by
  obtain ⟨x0, r0, rfl, w0, z0⟩ := rowOk_int h
  obtain ⟨x1, r1, rfl, w1, z1⟩ := rowOk_int z0
  obtain ⟨x2, r2, rfl, w2, z2⟩ := rowOk_int z1
  obtain ⟨x3, r3, rfl, w3, z3⟩ := rowOk_int z2
  obtain ⟨x4, r4, rfl, w4, z4⟩ := rowOk_int z3
  obtain rfl := rowOk_nil z4
  exact ⟨x0, x1, x2, x3, x4, rfl, u64_W w1, u64_W w2, u64_W w3, u64_W w4⟩
theorem rowsV_ok {l : List (List Sc)} (h : ∀ c ∈ l, rowOk kS c) : rowsV l = true := by
  refine decide_eq_true (fun r hr => ?_)
  obtain ⟨a, w1, w2, w3, w4, rfl, h1, h2, h3, h4⟩ := sh_row (h r hr)
  exact ⟨h1, h2, h3, h4⟩
theorem nums_thr {l : List (List Sc)} {s : Int} (hs : 0 ≤ s ∧ s < qN) : numsL (thrL l s) = s :: thrI l.length s (l.map shP) := by
  unfold numsL thrL
  rw [List.map_map]
  refine (List.map_congr_left (g := id) (fun x hx => ?_)).trans (List.map_id _)
  have hx' : 0 ≤ x ∧ x < qN := by
    rcases List.mem_cons.1 hx with rfl | hx
    · exact hs
    · exact thrI_range _ _ _ x hx
  exact limb_num (toM hx')
theorem thr_rowsW (l : List (List Sc)) (s : Int) : rowsW (thrL l s) = true := by
  refine decide_eq_true (fun r hr => ?_)
  obtain ⟨x, _, rfl⟩ := List.mem_map.1 hr
  exact limb_W x
theorem thr_len (l : List (List Sc)) (s : Int) : (thrL l s).length = l.length + 1 := by
  unfold thrL
  rw [List.length_map, List.length_cons, thrI_len]
theorem hides_all {l : List (List Sc)} {s : Int} (hrow : ∀ c ∈ l, rowOk kS c) (hB : thB l = true) (hv : ∀ i, i < l.length → num4 (rint l i 1) (rint l i 2) (rint l i 3) (rint l i 4) < qN) (hs : 0 ≤ s ∧ s < qN) :
    (∀ i, i < l.length → evL (thrL l s) (rint l i 0) = num4 (rint l i 1) (rint l i 2) (rint l i 3) (rint l i 4)) ∧ evL (thrL l s) 0 = s := by
  have hat : ∀ i (h : i < l.length), shP (l[i]'h) = (rint l i 0, num4 (rint l i 1) (rint l i 2) (rint l i 3) (rint l i 4)) := fun i h => by
    simp only [rint_toInt, List.getElem?_eq_getElem h]
    rfl
  have hpl : (∀ p ∈ l.map shP, placeOk p.1) ∧ Go.Eng.distinct ((l.map shP).map (·.1)) := by
    rw [shP_at]
    rcases Nat.eq_zero_or_pos l.length with h0 | h0
    · rw [List.length_eq_zero_iff] at h0
      subst h0
      exact ⟨fun p hp => by simp at hp, trivial⟩
    · obtain ⟨_, h2, h3⟩ := plB_ex (thB_pl hB h0)
      refine ⟨fun p hp => h2 p.1 ?_, h3⟩
      obtain ⟨r, hr, rfl⟩ := List.mem_map.1 hp
      exact List.mem_map.2 ⟨r, hr, rfl⟩
  have hvs : ∀ p ∈ l.map shP, 0 ≤ p.2 ∧ p.2 < qN := fun p hp => by
    obtain ⟨i, hi, rfl⟩ := List.mem_iff_getElem.1 hp
    have hi' : i < l.length := by simpa using hi
    rw [List.getElem_map, hat i hi']
    have hw := rowsV_at (rowsV_ok hrow) i
    exact ⟨(num4_range hw.1 hw.2.1 hw.2.2.1 hw.2.2.2).1, hv i hi'⟩
  have := hides_law qn_q (l.map shP) s hpl.1 hpl.2 hvs hs
  rw [List.length_map, ← nums_thr hs] at this
  refine ⟨fun i hi => ?_, this.2⟩
  have h1 := this.1 (shP (l[i]'hi)) (List.mem_map.2 ⟨l[i]'hi, List.getElem_mem hi, rfl⟩)
  rw [hat i hi] at h1
  exact h1
theorem ltb_lt {a b : Int} (h : ltb a b = true) : a < b := of_decide_eq_true h
theorem len1 {α : Type} {l : List α} (h : l.length = 1) : ∃ a, l = [a] := by
  match l, h with
  | [a], _ => exact ⟨a, rfl⟩
theorem len2 {α : Type} {l : List α} (h : l.length = 2) : ∃ a b, l = [a, b] := by
  match l, h with
  | [a, b], _ => exact ⟨a, b, rfl⟩
theorem len3 {α : Type} {l : List α} (h : l.length = 3) : ∃ a b c, l = [a, b, c] := by
  match l, h with
  | [a, b, c], _ => exact ⟨a, b, c, rfl⟩

def shamirHidesPl : List (Nat × PT) := []

theorem shamirHides_vc (A : Ar) (N : Ap) (L : LP) (Q : Int) (hQ : Q = qN) (l : List (List Sc)) (ln : Nat) (s0 : Int) (s1 : Int) (s2 : Int) (s3 : Int) (hL : L = ALoop 1) (hA : A = std) (hN : N = apStd) (hl : ∀ c ∈ l, rowOk [.int .i64, .int .u64, .int .u64, .int .u64, .int .u64] c) (hll : l.length ≤ maxLen) (hln : l.length = ln) (hs0 : IntKind.u64.wrap s0 = s0) (hs1 : IntKind.u64.wrap s1 = s1) (hs2 : IntKind.u64.wrap s2 = s2) (hs3 : IntKind.u64.wrap s3 = s3) (K : Bool → SV → List Blk → Prop) (hK : K = FinH 1 (.bool true) [] [] (uniR 1 (.bool true) [] [])) :
    Hides (afun (cxhp A L noJ (shamirHidesL A N Q) (shamirHidesD A N) [] [12, 23, 13] dy0 (pll shamirHidesPl)) Try.f7 [.row 0 ln, .agg [.int .u64 s0, .int .u64 s1, .int .u64 s2, .int .u64 s3]] [⟨.recs [.int .i64, .int .u64, .int .u64, .int .u64, .int .u64] l, .ro⟩] K) := by
  have he : ∀ x, A.icmp .eql x x = true := fun x => by subst hA; simp [std, icmp]
  have hs : ∀ x, A.scmp .eql x x = true := fun x => by subst hA; simp [std, scmp]
  obtain ⟨fi, fc, fw, fb, fn, fo, fs, fa, fe, fz, fy, ff, fl, fq, gadd, gsub, gmul, gmin, hlen', hget, hset, happ, hisub, irep, iput', rlen, rint', rbool', rstr', rset, rapp, rsub, rrep, hmkb, hbyts, imn, imx⟩ := A
  simp only at he hs
  have hm : fc .leq (fo ln) 9223372036854775807 = true := by
    cases hA
    have h : l.length ≤ 9223372036854775807 := hll
    exact decide_eq_true (by show (ln : Int) ≤ _; omega)
  obtain ⟨s, hS⟩ : ∃ y, ap4 N num4 s0 s1 s2 s3 = y := ⟨_, rfl⟩
  obtain ⟨B0, hB0⟩ : ∃ y, ap1 N (fun a => ltb a Q) s = y := ⟨_, rfl⟩
  simp only [ap1, ap4] at hS hB0
  apply Hides.mk
  cbv
  cases h1 : fc .gtr (fo ln) 3 <;> cbv
  · have h3 : ln ≤ 3 := by
      have : ¬ ((ln : Int) > 3) := by cases hA; exact of_decide_eq_false h1
      omega
    simp only [hS, hB0]
    cases B0 <;> cbv
    · refine finH0 hK ?_ rfl rfl
      rw [Bool.and_eq_true]
      refine ⟨by cbv, ?_⟩
      simp (maxSteps := 10000000) only [hm, hS, hB0]
    · rcases (by omega : ln = 0 ∨ ln = 1 ∨ ln = 2 ∨ ln = 3) with rfl | rfl | rfl | rfl
      · have hO : l.length = 0 := hln
        have gO : fq (rlen l) 0 = true := by cases hA; exact decide_eq_true hO
        have k0 : fl 0 3 = true := by cases hA; rfl
        have k8 : fl 0 9223372036854775807 = true := by cases hA; rfl
        have t0 : fc .lss 0 (fo 0) = false := by cases hA; rfl
        skip
        refine lp_rounds hL 1 hL (.inr rfl) ?_
        cbv
        repeat (simp only [gO, k0, k8, t0]; cbv)
        have eS : num4 s0 s1 s2 s3 = s := by rw [← hS]; subst hN; rfl
        have rs : 0 ≤ s ∧ s < qN := by
          have := num4_range (u64_W hs0) (u64_W hs1) (u64_W hs2) (u64_W hs3)
          rw [eS] at this
          exact ⟨this.1, by subst hN; subst hQ; exact ltb_lt hB0⟩
        have tB : thB l = true := by unfold thB; rw [hO]; rfl
        obtain ⟨hev, hev0⟩ := hides_all hl tB (fun i hi => by
          rw [hO] at hi
          omega) rs
        have gB : ap1 N thB l = true := by subst hN; rw [ap1_std]; exact tB
        have gV : ap1 N rowsV l = true := by subst hN; rw [ap1_std]; exact rowsV_ok hl
        obtain ⟨T, hT⟩ : ∃ y, ap2 N thrL l s = y := ⟨_, rfl⟩
        have eT : T = thrL l s := by rw [← hT]; subst hN; rw [ap2_std]
        have gT : fq (rlen T) (gadd 0 1) = true := by cases hA; exact decide_eq_true (by show T.length = 0 + 1; rw [eT, thr_len, hO])
        have gT6 : fl (gadd 0 1) 1000000 = true := by cases hA; rfl
        have gW : ap1 N rowsW T = true := by subst hN; rw [ap1_std, eT]; exact thr_rowsW l s
        have gc : fc .leq (fo (gadd 0 1)) (fi .add .i64 (fo 0) 1) = true := by cases hA; rfl
        have gm1 : fc .leq (fo (gadd 0 1)) 9223372036854775807 = true := by cases hA; rfl
        have hE : ap2 N evL T 0 = s := by subst hN; rw [ap2_std, eT]; exact hev0
        obtain ⟨q0, q1, q2, q3⟩ := l_num4 ⟨u64_W hs0, u64_W hs1, u64_W hs2, u64_W hs3⟩
        rw [eS] at q0 q1 q2 q3
        have gs0 : ap1 N l0 s = s0 := by subst hN; rw [ap1_std]; exact q0
        have gs1 : ap1 N l1 s = s1 := by subst hN; rw [ap1_std]; exact q1
        have gs2 : ap1 N l2 s = s2 := by subst hN; rw [ap1_std]; exact q2
        have gs3 : ap1 N l3 s = s3 := by subst hN; rw [ap1_std]; exact q3
        simp only [ap1, ap2] at gB gV hT gW hE gs0 gs1 gs2 gs3
        refine lp_rounds hL 1 hL (.inr rfl) ?_
        cbv
        repeat (simp only [gO, k0, k8, t0, hm, hS, hB0, he, gB, gV, hT, gT, gT6, gW, gc, gm1, hE, gs0, gs1, gs2, gs3]; cbv)
        refine finH0 hK ?_ rfl rfl
        rw [Bool.and_eq_true]
        refine ⟨by cbv, ?_⟩
        first | rfl | simp (maxSteps := 10000000) only [gO, k0, k8, t0, hm, hS, hB0, he, gB, gV, hT, gT, gT6, gW, gc, gm1, hE, gs0, gs1, gs2, gs3]
      · have hO : l.length = 1 := hln
        have gO : fq (rlen l) 1 = true := by cases hA; exact decide_eq_true hO
        have k0 : fl 1 3 = true := by cases hA; rfl
        have k8 : fl 1 9223372036854775807 = true := by cases hA; rfl
        have t0 : fc .lss 0 (fo 1) = true := by cases hA; rfl
        have b0 : fl 1 1 = true := by cases hA; rfl
        have r0 : fl (gadd 0 1) (rlen l) = true := by cases hA; exact decide_eq_true (by show 0 + 1 ≤ l.length; omega)
        have t1 : fc .lss 1 (fo 1) = false := by cases hA; rfl
        obtain ⟨V0, hV0⟩ : ∃ y, ap4 N num4 (rint' l 0 1) (rint' l 0 2) (rint' l 0 3) (rint' l 0 4) = y := ⟨_, rfl⟩
        obtain ⟨B1, hB1⟩ : ∃ y, ap1 N (fun a => ltb a Q) V0 = y := ⟨_, rfl⟩
        simp only [ap1, ap4] at hV0 hB1
        obtain ⟨a0, ha0⟩ : ∃ y, rint' l 0 0 = y := ⟨_, rfl⟩
        have c0 : fc .gtr (fo 1) 0 = true := by cases hA; rfl
        obtain ⟨BP, hBP⟩ : ∃ y, ap2 N lpB [a0] 0 = y := ⟨_, rfl⟩
        simp only [ap2] at hBP
        have gj1 : fq 1 1 = true := by cases hA; rfl
        have gh : fq (hlen' [a0]) 1 = true := by cases hA; rfl
        refine lp_rounds hL 2 hL (.inr rfl) ?_
        cbv
        repeat (simp only [gO, k0, k8, t0, b0, r0, t1, hV0, hB1, ha0, c0, hBP, gj1, gh]; cbv)
        cases B1 <;> cbv
        · refine finH0 hK ?_ rfl rfl
          rw [Bool.and_eq_true]
          refine ⟨by cbv, ?_⟩
          simp (maxSteps := 10000000) only [hm, hS, hB0, gO, k0, k8, t0, b0, r0, t1, hV0, hB1, ha0, c0, hBP, gj1, gh]
        · skip
          repeat (simp only [gO, k0, k8, t0, b0, r0, t1, hV0, hB1, ha0, c0, hBP, gj1, gh]; cbv)
          cases BP <;> cbv
          · refine finH0 hK ?_ rfl rfl
            rw [Bool.and_eq_true]
            refine ⟨by cbv, ?_⟩
            simp (maxSteps := 10000000) only [hm, hS, hB0, gO, k0, k8, t0, b0, r0, t1, hV0, hB1, ha0, c0, hBP, gj1, gh]
          · skip
            repeat (simp only [gO, k0, k8, t0, b0, r0, t1, hV0, hB1, ha0, c0, hBP, gj1, gh]; cbv)
            have eS : num4 s0 s1 s2 s3 = s := by rw [← hS]; subst hN; rfl
            have rs : 0 ≤ s ∧ s < qN := by
              have := num4_range (u64_W hs0) (u64_W hs1) (u64_W hs2) (u64_W hs3)
              rw [eS] at this
              exact ⟨this.1, by subst hN; subst hQ; exact ltb_lt hB0⟩
            have eV0 : num4 (rint l 0 1) (rint l 0 2) (rint l 0 3) (rint l 0 4) = V0 := by rw [← hV0]; cases hA; subst hN; rfl
            have ea0 : rint l 0 0 = a0 := by rw [← ha0]; cases hA; rfl
            have lt0 : V0 < qN := by subst hN; subst hQ; exact ltb_lt hB1
            have eat : atL l = [a0] := by
              obtain ⟨r0, rfl⟩ : ∃ r0, l = [r0] := len1 hO
              rw [← ea0]
              rfl
            have tB : thB l = true := by
              have h : lpB [a0] 0 = true := by rw [← hBP]; subst hN; rfl
              obtain ⟨_, _, _, h4⟩ := of_decide_eq_true h
              unfold thB
              rw [eat, h4, Bool.or_true]
            obtain ⟨hev, hev0⟩ := hides_all hl tB (fun i hi => by
              rw [hO] at hi
              by_cases e0 : i = 0
              · rw [e0, eV0]; exact lt0
              omega) rs
            have gB : ap1 N thB l = true := by subst hN; rw [ap1_std]; exact tB
            have gV : ap1 N rowsV l = true := by subst hN; rw [ap1_std]; exact rowsV_ok hl
            obtain ⟨T, hT⟩ : ∃ y, ap2 N thrL l s = y := ⟨_, rfl⟩
            have eT : T = thrL l s := by rw [← hT]; subst hN; rw [ap2_std]
            have gT : fq (rlen T) (gadd 1 1) = true := by cases hA; exact decide_eq_true (by show T.length = 1 + 1; rw [eT, thr_len, hO])
            have gT6 : fl (gadd 1 1) 1000000 = true := by cases hA; rfl
            have gW : ap1 N rowsW T = true := by subst hN; rw [ap1_std, eT]; exact thr_rowsW l s
            have gc : fc .leq (fo (gadd 1 1)) (fi .add .i64 (fo 1) 1) = true := by cases hA; rfl
            have gm1 : fc .leq (fo (gadd 1 1)) 9223372036854775807 = true := by cases hA; rfl
            have hE : ap2 N evL T 0 = s := by subst hN; rw [ap2_std, eT]; exact hev0
            obtain ⟨q0, q1, q2, q3⟩ := l_num4 ⟨u64_W hs0, u64_W hs1, u64_W hs2, u64_W hs3⟩
            rw [eS] at q0 q1 q2 q3
            have gs0 : ap1 N l0 s = s0 := by subst hN; rw [ap1_std]; exact q0
            have gs1 : ap1 N l1 s = s1 := by subst hN; rw [ap1_std]; exact q1
            have gs2 : ap1 N l2 s = s2 := by subst hN; rw [ap1_std]; exact q2
            have gs3 : ap1 N l3 s = s3 := by subst hN; rw [ap1_std]; exact q3
            have hE0 : ap2 N evL T a0 = V0 := by subst hN; rw [ap2_std, eT, ← ea0, ← eV0]; exact hev 0 (by omega)
            obtain ⟨q0, q1, q2, q3⟩ := l_num4 (rowsV_at (rowsV_ok hl) 0)
            rw [eV0] at q0 q1 q2 q3
            have gv00 : ap1 N l0 V0 = rint' l 0 1 := by subst hN; rw [ap1_std, q0]; cases hA; rfl
            have gv01 : ap1 N l1 V0 = rint' l 0 2 := by subst hN; rw [ap1_std, q1]; cases hA; rfl
            have gv02 : ap1 N l2 V0 = rint' l 0 3 := by subst hN; rw [ap1_std, q2]; cases hA; rfl
            have gv03 : ap1 N l3 V0 = rint' l 0 4 := by subst hN; rw [ap1_std, q3]; cases hA; rfl
            simp only [ap1, ap2] at gB gV hT gW hE gs0 gs1 gs2 gs3 hE0 gv00 gv01 gv02 gv03
            refine lp_rounds hL 2 hL (.inr rfl) ?_
            cbv
            repeat (simp only [gO, k0, k8, t0, b0, r0, t1, hV0, hB1, ha0, c0, hBP, gj1, gh, hm, hS, hB0, he, gB, gV, hT, gT, gT6, gW, gc, gm1, hE, gs0, gs1, gs2, gs3, hE0, gv00, gv01, gv02, gv03]; cbv)
            refine finH0 hK ?_ rfl rfl
            rw [Bool.and_eq_true]
            refine ⟨by cbv, ?_⟩
            first | rfl | simp (maxSteps := 10000000) only [gO, k0, k8, t0, b0, r0, t1, hV0, hB1, ha0, c0, hBP, gj1, gh, hm, hS, hB0, he, gB, gV, hT, gT, gT6, gW, gc, gm1, hE, gs0, gs1, gs2, gs3, hE0, gv00, gv01, gv02, gv03]
      · have hO : l.length = 2 := hln
        have gO : fq (rlen l) 2 = true := by cases hA; exact decide_eq_true hO
        have k0 : fl 2 3 = true := by cases hA; rfl
        have k8 : fl 2 9223372036854775807 = true := by cases hA; rfl
        have t0 : fc .lss 0 (fo 2) = true := by cases hA; rfl
        have b0 : fl 1 2 = true := by cases hA; rfl
        have r0 : fl (gadd 0 1) (rlen l) = true := by cases hA; exact decide_eq_true (by show 0 + 1 ≤ l.length; omega)
        have t1 : fc .lss 1 (fo 2) = true := by cases hA; rfl
        have b1 : fl 2 2 = true := by cases hA; rfl
        have r1 : fl (gadd 1 1) (rlen l) = true := by cases hA; exact decide_eq_true (by show 1 + 1 ≤ l.length; omega)
        have t2 : fc .lss 2 (fo 2) = false := by cases hA; rfl
        obtain ⟨V0, hV0⟩ : ∃ y, ap4 N num4 (rint' l 0 1) (rint' l 0 2) (rint' l 0 3) (rint' l 0 4) = y := ⟨_, rfl⟩
        obtain ⟨B1, hB1⟩ : ∃ y, ap1 N (fun a => ltb a Q) V0 = y := ⟨_, rfl⟩
        obtain ⟨V1, hV1⟩ : ∃ y, ap4 N num4 (rint' l 1 1) (rint' l 1 2) (rint' l 1 3) (rint' l 1 4) = y := ⟨_, rfl⟩
        obtain ⟨B2, hB2⟩ : ∃ y, ap1 N (fun a => ltb a Q) V1 = y := ⟨_, rfl⟩
        simp only [ap1, ap4] at hV0 hB1 hV1 hB2
        obtain ⟨a0, ha0⟩ : ∃ y, rint' l 0 0 = y := ⟨_, rfl⟩
        obtain ⟨a1, ha1⟩ : ∃ y, rint' l 1 0 = y := ⟨_, rfl⟩
        have c0 : fc .gtr (fo 2) 0 = true := by cases hA; rfl
        obtain ⟨BP, hBP⟩ : ∃ y, ap2 N lpB [a0, a1] 0 = y := ⟨_, rfl⟩
        simp only [ap2] at hBP
        have gj1 : fq 1 1 = true := by cases hA; rfl
        have gj2 : fq 2 2 = true := by cases hA; rfl
        have gh : fq (hlen' [a0, a1]) 2 = true := by cases hA; rfl
        refine lp_rounds hL 3 hL (.inr rfl) ?_
        cbv
        repeat (simp only [gO, k0, k8, t0, b0, r0, t1, b1, r1, t2, hV0, hB1, hV1, hB2, ha0, ha1, c0, hBP, gj1, gj2, gh]; cbv)
        cases B1 <;> cbv
        · refine finH0 hK ?_ rfl rfl
          rw [Bool.and_eq_true]
          refine ⟨by cbv, ?_⟩
          simp (maxSteps := 10000000) only [hm, hS, hB0, gO, k0, k8, t0, b0, r0, t1, b1, r1, t2, hV0, hB1, hV1, hB2, ha0, ha1, c0, hBP, gj1, gj2, gh]
        · skip
          repeat (simp only [gO, k0, k8, t0, b0, r0, t1, b1, r1, t2, hV0, hB1, hV1, hB2, ha0, ha1, c0, hBP, gj1, gj2, gh]; cbv)
          cases B2 <;> cbv
          · refine finH0 hK ?_ rfl rfl
            rw [Bool.and_eq_true]
            refine ⟨by cbv, ?_⟩
            simp (maxSteps := 10000000) only [hm, hS, hB0, gO, k0, k8, t0, b0, r0, t1, b1, r1, t2, hV0, hB1, hV1, hB2, ha0, ha1, c0, hBP, gj1, gj2, gh]
          · skip
            repeat (simp only [gO, k0, k8, t0, b0, r0, t1, b1, r1, t2, hV0, hB1, hV1, hB2, ha0, ha1, c0, hBP, gj1, gj2, gh]; cbv)
            cases BP <;> cbv
            · refine finH0 hK ?_ rfl rfl
              rw [Bool.and_eq_true]
              refine ⟨by cbv, ?_⟩
              simp (maxSteps := 10000000) only [hm, hS, hB0, gO, k0, k8, t0, b0, r0, t1, b1, r1, t2, hV0, hB1, hV1, hB2, ha0, ha1, c0, hBP, gj1, gj2, gh]
            · skip
              repeat (simp only [gO, k0, k8, t0, b0, r0, t1, b1, r1, t2, hV0, hB1, hV1, hB2, ha0, ha1, c0, hBP, gj1, gj2, gh]; cbv)
              have eS : num4 s0 s1 s2 s3 = s := by rw [← hS]; subst hN; rfl
              have rs : 0 ≤ s ∧ s < qN := by
                have := num4_range (u64_W hs0) (u64_W hs1) (u64_W hs2) (u64_W hs3)
                rw [eS] at this
                exact ⟨this.1, by subst hN; subst hQ; exact ltb_lt hB0⟩
              have eV0 : num4 (rint l 0 1) (rint l 0 2) (rint l 0 3) (rint l 0 4) = V0 := by rw [← hV0]; cases hA; subst hN; rfl
              have ea0 : rint l 0 0 = a0 := by rw [← ha0]; cases hA; rfl
              have lt0 : V0 < qN := by subst hN; subst hQ; exact ltb_lt hB1
              have eV1 : num4 (rint l 1 1) (rint l 1 2) (rint l 1 3) (rint l 1 4) = V1 := by rw [← hV1]; cases hA; subst hN; rfl
              have ea1 : rint l 1 0 = a1 := by rw [← ha1]; cases hA; rfl
              have lt1 : V1 < qN := by subst hN; subst hQ; exact ltb_lt hB2
              have eat : atL l = [a0, a1] := by
                obtain ⟨r0, r1, rfl⟩ : ∃ r0 r1, l = [r0, r1] := len2 hO
                rw [← ea0, ← ea1]
                rfl
              have tB : thB l = true := by
                have h : lpB [a0, a1] 0 = true := by rw [← hBP]; subst hN; rfl
                obtain ⟨_, _, _, h4⟩ := of_decide_eq_true h
                unfold thB
                rw [eat, h4, Bool.or_true]
              obtain ⟨hev, hev0⟩ := hides_all hl tB (fun i hi => by
                rw [hO] at hi
                by_cases e0 : i = 0
                · rw [e0, eV0]; exact lt0
                by_cases e1 : i = 1
                · rw [e1, eV1]; exact lt1
                omega) rs
              have gB : ap1 N thB l = true := by subst hN; rw [ap1_std]; exact tB
              have gV : ap1 N rowsV l = true := by subst hN; rw [ap1_std]; exact rowsV_ok hl
              obtain ⟨T, hT⟩ : ∃ y, ap2 N thrL l s = y := ⟨_, rfl⟩
              have eT : T = thrL l s := by rw [← hT]; subst hN; rw [ap2_std]
              have gT : fq (rlen T) (gadd 2 1) = true := by cases hA; exact decide_eq_true (by show T.length = 2 + 1; rw [eT, thr_len, hO])
              have gT6 : fl (gadd 2 1) 1000000 = true := by cases hA; rfl
              have gW : ap1 N rowsW T = true := by subst hN; rw [ap1_std, eT]; exact thr_rowsW l s
              have gc : fc .leq (fo (gadd 2 1)) (fi .add .i64 (fo 2) 1) = true := by cases hA; rfl
              have gm1 : fc .leq (fo (gadd 2 1)) 9223372036854775807 = true := by cases hA; rfl
              have hE : ap2 N evL T 0 = s := by subst hN; rw [ap2_std, eT]; exact hev0
              obtain ⟨q0, q1, q2, q3⟩ := l_num4 ⟨u64_W hs0, u64_W hs1, u64_W hs2, u64_W hs3⟩
              rw [eS] at q0 q1 q2 q3
              have gs0 : ap1 N l0 s = s0 := by subst hN; rw [ap1_std]; exact q0
              have gs1 : ap1 N l1 s = s1 := by subst hN; rw [ap1_std]; exact q1
              have gs2 : ap1 N l2 s = s2 := by subst hN; rw [ap1_std]; exact q2
              have gs3 : ap1 N l3 s = s3 := by subst hN; rw [ap1_std]; exact q3
              have hE0 : ap2 N evL T a0 = V0 := by subst hN; rw [ap2_std, eT, ← ea0, ← eV0]; exact hev 0 (by omega)
              obtain ⟨q0, q1, q2, q3⟩ := l_num4 (rowsV_at (rowsV_ok hl) 0)
              rw [eV0] at q0 q1 q2 q3
              have gv00 : ap1 N l0 V0 = rint' l 0 1 := by subst hN; rw [ap1_std, q0]; cases hA; rfl
              have gv01 : ap1 N l1 V0 = rint' l 0 2 := by subst hN; rw [ap1_std, q1]; cases hA; rfl
              have gv02 : ap1 N l2 V0 = rint' l 0 3 := by subst hN; rw [ap1_std, q2]; cases hA; rfl
              have gv03 : ap1 N l3 V0 = rint' l 0 4 := by subst hN; rw [ap1_std, q3]; cases hA; rfl
              have hE1 : ap2 N evL T a1 = V1 := by subst hN; rw [ap2_std, eT, ← ea1, ← eV1]; exact hev 1 (by omega)
              obtain ⟨q0, q1, q2, q3⟩ := l_num4 (rowsV_at (rowsV_ok hl) 1)
              rw [eV1] at q0 q1 q2 q3
              have gv10 : ap1 N l0 V1 = rint' l 1 1 := by subst hN; rw [ap1_std, q0]; cases hA; rfl
              have gv11 : ap1 N l1 V1 = rint' l 1 2 := by subst hN; rw [ap1_std, q1]; cases hA; rfl
              have gv12 : ap1 N l2 V1 = rint' l 1 3 := by subst hN; rw [ap1_std, q2]; cases hA; rfl
              have gv13 : ap1 N l3 V1 = rint' l 1 4 := by subst hN; rw [ap1_std, q3]; cases hA; rfl
              simp only [ap1, ap2] at gB gV hT gW hE gs0 gs1 gs2 gs3 hE0 gv00 gv01 gv02 gv03 hE1 gv10 gv11 gv12 gv13
              refine lp_rounds hL 3 hL (.inr rfl) ?_
              cbv
              repeat (simp only [gO, k0, k8, t0, b0, r0, t1, b1, r1, t2, hV0, hB1, hV1, hB2, ha0, ha1, c0, hBP, gj1, gj2, gh, hm, hS, hB0, he, gB, gV, hT, gT, gT6, gW, gc, gm1, hE, gs0, gs1, gs2, gs3, hE0, gv00, gv01, gv02, gv03, hE1, gv10, gv11, gv12, gv13]; cbv)
              refine finH0 hK ?_ rfl rfl
              rw [Bool.and_eq_true]
              refine ⟨by cbv, ?_⟩
              first | rfl | simp (maxSteps := 10000000) only [gO, k0, k8, t0, b0, r0, t1, b1, r1, t2, hV0, hB1, hV1, hB2, ha0, ha1, c0, hBP, gj1, gj2, gh, hm, hS, hB0, he, gB, gV, hT, gT, gT6, gW, gc, gm1, hE, gs0, gs1, gs2, gs3, hE0, gv00, gv01, gv02, gv03, hE1, gv10, gv11, gv12, gv13]
      · have hO : l.length = 3 := hln
        have gO : fq (rlen l) 3 = true := by cases hA; exact decide_eq_true hO
        have k0 : fl 3 3 = true := by cases hA; rfl
        have k8 : fl 3 9223372036854775807 = true := by cases hA; rfl
        have t0 : fc .lss 0 (fo 3) = true := by cases hA; rfl
        have b0 : fl 1 3 = true := by cases hA; rfl
        have r0 : fl (gadd 0 1) (rlen l) = true := by cases hA; exact decide_eq_true (by show 0 + 1 ≤ l.length; omega)
        have t1 : fc .lss 1 (fo 3) = true := by cases hA; rfl
        have b1 : fl 2 3 = true := by cases hA; rfl
        have r1 : fl (gadd 1 1) (rlen l) = true := by cases hA; exact decide_eq_true (by show 1 + 1 ≤ l.length; omega)
        have t2 : fc .lss 2 (fo 3) = true := by cases hA; rfl
        have b2 : fl 3 3 = true := by cases hA; rfl
        have r2 : fl (gadd 2 1) (rlen l) = true := by cases hA; exact decide_eq_true (by show 2 + 1 ≤ l.length; omega)
        have t3 : fc .lss 3 (fo 3) = false := by cases hA; rfl
        obtain ⟨V0, hV0⟩ : ∃ y, ap4 N num4 (rint' l 0 1) (rint' l 0 2) (rint' l 0 3) (rint' l 0 4) = y := ⟨_, rfl⟩
        obtain ⟨B1, hB1⟩ : ∃ y, ap1 N (fun a => ltb a Q) V0 = y := ⟨_, rfl⟩
        obtain ⟨V1, hV1⟩ : ∃ y, ap4 N num4 (rint' l 1 1) (rint' l 1 2) (rint' l 1 3) (rint' l 1 4) = y := ⟨_, rfl⟩
        obtain ⟨B2, hB2⟩ : ∃ y, ap1 N (fun a => ltb a Q) V1 = y := ⟨_, rfl⟩
        obtain ⟨V2, hV2⟩ : ∃ y, ap4 N num4 (rint' l 2 1) (rint' l 2 2) (rint' l 2 3) (rint' l 2 4) = y := ⟨_, rfl⟩
        obtain ⟨B3, hB3⟩ : ∃ y, ap1 N (fun a => ltb a Q) V2 = y := ⟨_, rfl⟩
        simp only [ap1, ap4] at hV0 hB1 hV1 hB2 hV2 hB3
        obtain ⟨a0, ha0⟩ : ∃ y, rint' l 0 0 = y := ⟨_, rfl⟩
        obtain ⟨a1, ha1⟩ : ∃ y, rint' l 1 0 = y := ⟨_, rfl⟩
        obtain ⟨a2, ha2⟩ : ∃ y, rint' l 2 0 = y := ⟨_, rfl⟩
        have c0 : fc .gtr (fo 3) 0 = true := by cases hA; rfl
        obtain ⟨BP, hBP⟩ : ∃ y, ap2 N lpB [a0, a1, a2] 0 = y := ⟨_, rfl⟩
        simp only [ap2] at hBP
        have gj1 : fq 1 1 = true := by cases hA; rfl
        have gj2 : fq 2 2 = true := by cases hA; rfl
        have gj3 : fq 3 3 = true := by cases hA; rfl
        have gh : fq (hlen' [a0, a1, a2]) 3 = true := by cases hA; rfl
        refine lp_rounds hL 4 hL (.inr rfl) ?_
        cbv
        repeat (simp only [gO, k0, k8, t0, b0, r0, t1, b1, r1, t2, b2, r2, t3, hV0, hB1, hV1, hB2, hV2, hB3, ha0, ha1, ha2, c0, hBP, gj1, gj2, gj3, gh]; cbv)
        cases B1 <;> cbv
        · refine finH0 hK ?_ rfl rfl
          rw [Bool.and_eq_true]
          refine ⟨by cbv, ?_⟩
          simp (maxSteps := 10000000) only [hm, hS, hB0, gO, k0, k8, t0, b0, r0, t1, b1, r1, t2, b2, r2, t3, hV0, hB1, hV1, hB2, hV2, hB3, ha0, ha1, ha2, c0, hBP, gj1, gj2, gj3, gh]
        · skip
          repeat (simp only [gO, k0, k8, t0, b0, r0, t1, b1, r1, t2, b2, r2, t3, hV0, hB1, hV1, hB2, hV2, hB3, ha0, ha1, ha2, c0, hBP, gj1, gj2, gj3, gh]; cbv)
          cases B2 <;> cbv
          · refine finH0 hK ?_ rfl rfl
            rw [Bool.and_eq_true]
            refine ⟨by cbv, ?_⟩
            simp (maxSteps := 10000000) only [hm, hS, hB0, gO, k0, k8, t0, b0, r0, t1, b1, r1, t2, b2, r2, t3, hV0, hB1, hV1, hB2, hV2, hB3, ha0, ha1, ha2, c0, hBP, gj1, gj2, gj3, gh]
          · skip
            repeat (simp only [gO, k0, k8, t0, b0, r0, t1, b1, r1, t2, b2, r2, t3, hV0, hB1, hV1, hB2, hV2, hB3, ha0, ha1, ha2, c0, hBP, gj1, gj2, gj3, gh]; cbv)
            cases B3 <;> cbv
            · refine finH0 hK ?_ rfl rfl
              rw [Bool.and_eq_true]
              refine ⟨by cbv, ?_⟩
              simp (maxSteps := 10000000) only [hm, hS, hB0, gO, k0, k8, t0, b0, r0, t1, b1, r1, t2, b2, r2, t3, hV0, hB1, hV1, hB2, hV2, hB3, ha0, ha1, ha2, c0, hBP, gj1, gj2, gj3, gh]
            · skip
              repeat (simp only [gO, k0, k8, t0, b0, r0, t1, b1, r1, t2, b2, r2, t3, hV0, hB1, hV1, hB2, hV2, hB3, ha0, ha1, ha2, c0, hBP, gj1, gj2, gj3, gh]; cbv)
              cases BP <;> cbv
              · refine finH0 hK ?_ rfl rfl
                rw [Bool.and_eq_true]
                refine ⟨by cbv, ?_⟩
                simp (maxSteps := 10000000) only [hm, hS, hB0, gO, k0, k8, t0, b0, r0, t1, b1, r1, t2, b2, r2, t3, hV0, hB1, hV1, hB2, hV2, hB3, ha0, ha1, ha2, c0, hBP, gj1, gj2, gj3, gh]
              · skip
                repeat (simp only [gO, k0, k8, t0, b0, r0, t1, b1, r1, t2, b2, r2, t3, hV0, hB1, hV1, hB2, hV2, hB3, ha0, ha1, ha2, c0, hBP, gj1, gj2, gj3, gh]; cbv)
                have eS : num4 s0 s1 s2 s3 = s := by rw [← hS]; subst hN; rfl
                have rs : 0 ≤ s ∧ s < qN := by
                  have := num4_range (u64_W hs0) (u64_W hs1) (u64_W hs2) (u64_W hs3)
                  rw [eS] at this
                  exact ⟨this.1, by subst hN; subst hQ; exact ltb_lt hB0⟩
                have eV0 : num4 (rint l 0 1) (rint l 0 2) (rint l 0 3) (rint l 0 4) = V0 := by rw [← hV0]; cases hA; subst hN; rfl
                have ea0 : rint l 0 0 = a0 := by rw [← ha0]; cases hA; rfl
                have lt0 : V0 < qN := by subst hN; subst hQ; exact ltb_lt hB1
                have eV1 : num4 (rint l 1 1) (rint l 1 2) (rint l 1 3) (rint l 1 4) = V1 := by rw [← hV1]; cases hA; subst hN; rfl
                have ea1 : rint l 1 0 = a1 := by rw [← ha1]; cases hA; rfl
                have lt1 : V1 < qN := by subst hN; subst hQ; exact ltb_lt hB2
                have eV2 : num4 (rint l 2 1) (rint l 2 2) (rint l 2 3) (rint l 2 4) = V2 := by rw [← hV2]; cases hA; subst hN; rfl
                have ea2 : rint l 2 0 = a2 := by rw [← ha2]; cases hA; rfl
                have lt2 : V2 < qN := by subst hN; subst hQ; exact ltb_lt hB3
                have eat : atL l = [a0, a1, a2] := by
                  obtain ⟨r0, r1, r2, rfl⟩ : ∃ r0 r1 r2, l = [r0, r1, r2] := len3 hO
                  rw [← ea0, ← ea1, ← ea2]
                  rfl
                have tB : thB l = true := by
                  have h : lpB [a0, a1, a2] 0 = true := by rw [← hBP]; subst hN; rfl
                  obtain ⟨_, _, _, h4⟩ := of_decide_eq_true h
                  unfold thB
                  rw [eat, h4, Bool.or_true]
                obtain ⟨hev, hev0⟩ := hides_all hl tB (fun i hi => by
                  rw [hO] at hi
                  by_cases e0 : i = 0
                  · rw [e0, eV0]; exact lt0
                  by_cases e1 : i = 1
                  · rw [e1, eV1]; exact lt1
                  by_cases e2 : i = 2
                  · rw [e2, eV2]; exact lt2
                  omega) rs
                have gB : ap1 N thB l = true := by subst hN; rw [ap1_std]; exact tB
                have gV : ap1 N rowsV l = true := by subst hN; rw [ap1_std]; exact rowsV_ok hl
                obtain ⟨T, hT⟩ : ∃ y, ap2 N thrL l s = y := ⟨_, rfl⟩
                have eT : T = thrL l s := by rw [← hT]; subst hN; rw [ap2_std]
                have gT : fq (rlen T) (gadd 3 1) = true := by cases hA; exact decide_eq_true (by show T.length = 3 + 1; rw [eT, thr_len, hO])
                have gT6 : fl (gadd 3 1) 1000000 = true := by cases hA; rfl
                have gW : ap1 N rowsW T = true := by subst hN; rw [ap1_std, eT]; exact thr_rowsW l s
                have gc : fc .leq (fo (gadd 3 1)) (fi .add .i64 (fo 3) 1) = true := by cases hA; rfl
                have gm1 : fc .leq (fo (gadd 3 1)) 9223372036854775807 = true := by cases hA; rfl
                have hE : ap2 N evL T 0 = s := by subst hN; rw [ap2_std, eT]; exact hev0
                obtain ⟨q0, q1, q2, q3⟩ := l_num4 ⟨u64_W hs0, u64_W hs1, u64_W hs2, u64_W hs3⟩
                rw [eS] at q0 q1 q2 q3
                have gs0 : ap1 N l0 s = s0 := by subst hN; rw [ap1_std]; exact q0
                have gs1 : ap1 N l1 s = s1 := by subst hN; rw [ap1_std]; exact q1
                have gs2 : ap1 N l2 s = s2 := by subst hN; rw [ap1_std]; exact q2
                have gs3 : ap1 N l3 s = s3 := by subst hN; rw [ap1_std]; exact q3
                have hE0 : ap2 N evL T a0 = V0 := by subst hN; rw [ap2_std, eT, ← ea0, ← eV0]; exact hev 0 (by omega)
                obtain ⟨q0, q1, q2, q3⟩ := l_num4 (rowsV_at (rowsV_ok hl) 0)
                rw [eV0] at q0 q1 q2 q3
                have gv00 : ap1 N l0 V0 = rint' l 0 1 := by subst hN; rw [ap1_std, q0]; cases hA; rfl
                have gv01 : ap1 N l1 V0 = rint' l 0 2 := by subst hN; rw [ap1_std, q1]; cases hA; rfl
                have gv02 : ap1 N l2 V0 = rint' l 0 3 := by subst hN; rw [ap1_std, q2]; cases hA; rfl
                have gv03 : ap1 N l3 V0 = rint' l 0 4 := by subst hN; rw [ap1_std, q3]; cases hA; rfl
                have hE1 : ap2 N evL T a1 = V1 := by subst hN; rw [ap2_std, eT, ← ea1, ← eV1]; exact hev 1 (by omega)
                obtain ⟨q0, q1, q2, q3⟩ := l_num4 (rowsV_at (rowsV_ok hl) 1)
                rw [eV1] at q0 q1 q2 q3
                have gv10 : ap1 N l0 V1 = rint' l 1 1 := by subst hN; rw [ap1_std, q0]; cases hA; rfl
                have gv11 : ap1 N l1 V1 = rint' l 1 2 := by subst hN; rw [ap1_std, q1]; cases hA; rfl
                have gv12 : ap1 N l2 V1 = rint' l 1 3 := by subst hN; rw [ap1_std, q2]; cases hA; rfl
                have gv13 : ap1 N l3 V1 = rint' l 1 4 := by subst hN; rw [ap1_std, q3]; cases hA; rfl
                have hE2 : ap2 N evL T a2 = V2 := by subst hN; rw [ap2_std, eT, ← ea2, ← eV2]; exact hev 2 (by omega)
                obtain ⟨q0, q1, q2, q3⟩ := l_num4 (rowsV_at (rowsV_ok hl) 2)
                rw [eV2] at q0 q1 q2 q3
                have gv20 : ap1 N l0 V2 = rint' l 2 1 := by subst hN; rw [ap1_std, q0]; cases hA; rfl
                have gv21 : ap1 N l1 V2 = rint' l 2 2 := by subst hN; rw [ap1_std, q1]; cases hA; rfl
                have gv22 : ap1 N l2 V2 = rint' l 2 3 := by subst hN; rw [ap1_std, q2]; cases hA; rfl
                have gv23 : ap1 N l3 V2 = rint' l 2 4 := by subst hN; rw [ap1_std, q3]; cases hA; rfl
                simp only [ap1, ap2] at gB gV hT gW hE gs0 gs1 gs2 gs3 hE0 gv00 gv01 gv02 gv03 hE1 gv10 gv11 gv12 gv13 hE2 gv20 gv21 gv22 gv23
                refine lp_rounds hL 4 hL (.inr rfl) ?_
                cbv
                repeat (simp only [gO, k0, k8, t0, b0, r0, t1, b1, r1, t2, b2, r2, t3, hV0, hB1, hV1, hB2, hV2, hB3, ha0, ha1, ha2, c0, hBP, gj1, gj2, gj3, gh, hm, hS, hB0, he, gB, gV, hT, gT, gT6, gW, gc, gm1, hE, gs0, gs1, gs2, gs3, hE0, gv00, gv01, gv02, gv03, hE1, gv10, gv11, gv12, gv13, hE2, gv20, gv21, gv22, gv23]; cbv)
                refine finH0 hK ?_ rfl rfl
                rw [Bool.and_eq_true]
                refine ⟨by cbv, ?_⟩
                first | rfl | simp (maxSteps := 10000000) only [gO, k0, k8, t0, b0, r0, t1, b1, r1, t2, b2, r2, t3, hV0, hB1, hV1, hB2, hV2, hB3, ha0, ha1, ha2, c0, hBP, gj1, gj2, gj3, gh, hm, hS, hB0, he, gB, gV, hT, gT, gT6, gW, gc, gm1, hE, gs0, gs1, gs2, gs3, hE0, gv00, gv01, gv02, gv03, hE1, gv10, gv11, gv12, gv13, hE2, gv20, gv21, gv22, gv23]
  · refine finH0 hK ?_ rfl rfl
    rw [Bool.and_eq_true]
    refine ⟨by cbv, ?_⟩
    simp (maxSteps := 10000000) only [hm, hS, hB0]


theorem shamirHides_step (ss : List SV) (bs : List Blk) (h0 : PS.fits 0 [.rows [.int .i64, .int .u64, .int .u64, .int .u64, .int .u64], .one [.int .u64, .int .u64, .int .u64, .int .u64] true] ss bs) : ∃ C, Eng.Good Try.prog C (0 + bs.length) ∧ C.gl = [] ∧ codeOk C Try.f7.ntmps (Try.f7.body.getD .skip) = true ∧ ss.length ≤ Try.f7.ntmps ∧
    Hides (afun C Try.f7 ss ([] ++ bs) (FinH (0 + bs.length) (.bool true) [] [] (uniR (0 + bs.length) (.bool true) [] []))) := by
  obtain ⟨l, ss0, bs0, rfl, rfl, wl, ll, h1⟩ := fits_rows h0
  obtain ⟨c1, ss1, rfl, hc1, h2⟩ := fits_one h1
  obtain ⟨s0, r1_0, rfl, ws0, z1_0⟩ := rowOk_int hc1; obtain ⟨s1, r1_1, rfl, ws1, z1_1⟩ := rowOk_int z1_0; obtain ⟨s2, r1_2, rfl, ws2, z1_2⟩ := rowOk_int z1_1; obtain ⟨s3, r1_3, rfl, ws3, z1_3⟩ := rowOk_int z1_2; obtain rfl := rowOk_nil z1_3
  obtain ⟨rfl, rfl⟩ := fits_nil h2
  exact ⟨_, ⟨good0p rfl shamirHidesL_ok shamirHidesD_ok, rfl, .inr rfl, Nat.zero_le _⟩, rfl, by kernel_rfl, Nat.le_of_ble_eq_true rfl, shamirHides_vc std apStd (ALoop 1) qN rfl l _ s0 s1 s2 s3 rfl rfl rfl wl ll rfl ws0 ws1 ws2 ws3 _ rfl⟩

theorem shamirHides_lifted (os : Os) (started : os.Started) (H : Type) (enc : TypeId × Value → H) :
    ReturnsInHanded {} Try.checked os 7 .any (Rows.shamirHidesSpec.pre6 enc Try.prog Try.f7 Rows.shamirHidesRow.domain false) (Rows.shamirHidesSpec.post enc Try.prog Try.f7 false true false false) :=
  lifted_of Rows.shamirHidesSpec Rows.shamirHidesRow Try.func7 (tb := 4) (by kernel_rfl) Try.underlying4 rfl
    (by
      intro H ds h
      match ds, h with
      | [d1, d2], _ => rfl) (by kernel_rfl) os started H enc (by kernel_rfl)
    (ChangeSpec.witness6 (enc := enc) (C := Try.checked) false ⟨#[], #[.slice none 0 0, .agg #[.int .u64 0, .int .u64 0, .int .u64 0, .int .u64 0]], []⟩ 8 (by kernel_rfl) (by kernel_rfl) (by kernel_rfl) (by kernel_rfl))
    (fun W base args ds ps hval hA => walk_genS Try.func7 (c := Try.f7.body.getD .skip) (by kernel_rfl) [.rows [.int .i64, .int .u64, .int .u64, .int .u64, .int .u64], .one [.int .u64, .int .u64, .int .u64, .int .u64] true] (ts := [29, 26]) (by kernel_rfl) (by kernel_rfl) (m0 := ([] : List Pl)) (h0 := ([] : List Blk)) (gl := [])
      shamirHides_step (fun b hb => by cases hb) (fun i g hg => by simp at hg) W base args ds ps hval hA ⟨rfl, by simp, by simp⟩)

theorem shamirHides_row : Rows.ShamirHidesSaid :=
  OpenClaim.holds_of_wide 7 Try.f7 rfl rfl rfl rfl rfl rfl rfl ⟨rfl, rfl, rfl, rfl, rfl⟩ rfl rfl rfl rfl rfl (by kernel_rfl) Try.func7 (by kernel_rfl)
    (of_decide_eq_true (by kernel_rfl)) (by unfold Func.isWrapper; first | (rw [if_pos (by decide +kernel)]; kernel_rfl) | (rw [if_neg (by decide +kernel)]; exact ⟨rfl, rfl⟩))
    (fun os started H enc _ => shamirHides_lifted os started H enc)

theorem ShamirHides_proved : Rows.ShamirHidesSaid := shamirHides_row

end Go.Proofs.Ytnhobbdijdbbeaa
