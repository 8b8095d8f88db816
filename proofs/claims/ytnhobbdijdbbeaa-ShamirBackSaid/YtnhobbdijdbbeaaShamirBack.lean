/- The law ShamirBack hands back true, whatever the input. It has no conditions. -/
import Derived.Test.YtnhobbdijdbbeaaSh15
import Derived.Test.YtnhobbdijdbbeaaLawS
namespace Go.Proofs.Ytnhobbdijdbbeaa
open Go.Eng Go.ChangeShapes Go.WideShapes Go.ChangeAt Go.RowKit
set_option maxRecDepth 1000000
set_option maxHeartbeats 4000000
set_option linter.unusedSimpArgs false
set_option linter.unusedVariables false

def shamirBackL (A : Ar) (N : Ap) : Pure := [(24, scut N qN)]
def shamirBackD (A : Ar) (N : Ap) : Heap := [(23, lplacesH A N), (13, evalH A N), (21, joinH A N), (12, shTrueH)]

theorem shamirBackL_ok : ∀ p ∈ shamirBackL std apStd, Con Try.prog p.1 p.2 := by
  intro p hp
  simp only [shamirBackL, List.mem_cons, List.not_mem_nil, or_false] at hp
  rcases hp with rfl
  · exact con_srMod
theorem shamirBackD_ok : ∀ p ∈ shamirBackD std apStd, HCon Try.prog [] p.1 p.2 := by
  intro p hp
  simp only [shamirBackD, List.mem_cons, List.not_mem_nil, or_false] at hp
  rcases hp with rfl | rfl | rfl | rfl
  · exact hcon_lplaces
  · exact hcon_hev
  · exact hcon_join
  · exact hcon_shAwake

theorem rowsW_ok {a : List (List Sc)} (h : ∀ c ∈ a, rowOk k4 c) : rowsW a = true := by
  refine decide_eq_true (fun r hr => ?_)
  obtain ⟨x0, r0, rfl, w0, z0⟩ := rowOk_int (h r hr)
  obtain ⟨x1, r1, rfl, w1, z1⟩ := rowOk_int z0
  obtain ⟨x2, r2, rfl, w2, z2⟩ := rowOk_int z1
  obtain ⟨x3, r3, rfl, w3, z3⟩ := rowOk_int z2
  exact ⟨u64_W w0, u64_W w1, u64_W w2, u64_W w3⟩
def bkHd (c : List (List Sc)) (a : List Int) (cn an : Nat) : Nat → Nat × List (List Sc) × Int → St
  | _, (l, R, i) => ⟨[(0, .row 0 cn), (1, .row 1 an), (5, .row 2 l), (6, .int .i64 i)], [⟨.recs k4 c, .ro⟩, ⟨.ints .i64 a, .ro⟩, ⟨.recs kS R, .row 5⟩], true⟩
def bkEx (S : St) : Nat × List (List Sc) × Int := (rowN' S 5, recsAt kS S 5, slotI S 6)
def bkOk (c : List (List Sc)) (a : List Int) (n : Nat) (d : Nat × List (List Sc) × Int) : Prop := 0 ≤ d.2.2 ∧ d.2.2.toNat + n = a.length ∧ d.1 = d.2.2.toNat ∧ d.2.1 = shAt c (a.take d.2.2.toNat)
theorem bkOk_mk {c : List (List Sc)} {a : List Int} {n l : Nat} {R : List (List Sc)} {i : Int} (h : 0 ≤ i) (h1 : i.toNat + n = a.length) (h2 : l = i.toNat) (h3 : R = shAt c (a.take i.toNat)) : bkOk c a n (l, R, i) := ⟨h, h1, h2, h3⟩
theorem bkOk_ex {c : List (List Sc)} {a : List Int} {n l : Nat} {R : List (List Sc)} {i : Int} (h : bkOk c a n (l, R, i)) : 0 ≤ i ∧ i.toNat + n = a.length ∧ l = i.toNat ∧ R = shAt c (a.take i.toNat) := h

def shamirBackPl : List (Nat × PT) := []

theorem shamirBack_vc (A : Ar) (N : Ap) (L : LP) (d : List (List Sc)) (dn : Nat) (a : List Int) (an : Nat) (hL : L = ALoop 2) (hA : A = std) (hN : N = apStd) (hd : ∀ c ∈ d, rowOk [.int .u64, .int .u64, .int .u64, .int .u64] c) (hdl : d.length ≤ maxLen) (hdn : d.length = dn) (ha : ∀ x ∈ a, IntKind.i64.wrap x = x) (hal : a.length ≤ maxLen) (han : a.length = an) (K : Bool → SV → List Blk → Prop) (hK : K = FinH 2 (.bool true) [] [] (uniR 2 (.bool true) [] [])) :
    Hides (afun (cxhp A L noJ (shamirBackL A N) (shamirBackD A N) [] [12, 23, 13] dy0 (pll shamirBackPl)) Try.f6 [.row 0 dn, .row 1 an] [⟨.recs [.int .u64, .int .u64, .int .u64, .int .u64] d, .ro⟩, ⟨.ints .i64 a, .ro⟩] K) := by
  have he : ∀ x, A.icmp .eql x x = true := fun x => by subst hA; simp [std, icmp]
  have hs : ∀ x, A.scmp .eql x x = true := fun x => by subst hA; simp [std, scmp]
  obtain ⟨fi, fc, fw, fb, fn, fo, fs, fa, fe, fz, fy, ff, fl, fq, gadd, gsub, gmul, gmin, hlen', hget, hset, happ, hisub, irep, iput', rlen, rint', rbool', rstr', rset, rapp, rsub, rrep, hmkb, hbyts, imn, imx⟩ := A
  simp only at he hs
  have hm : fc .leq (fo dn) 9223372036854775807 = true := by
    cases hA
    have h : d.length ≤ 9223372036854775807 := hdl
    exact decide_eq_true (by show (dn : Int) ≤ _; omega)
  have hma : fc .leq (fo an) 9223372036854775807 = true := by
    cases hA
    have h : a.length ≤ 9223372036854775807 := hal
    exact decide_eq_true (by show (an : Int) ≤ _; omega)
  have hc1 : fq (rlen d) dn = true := by cases hA; exact decide_eq_true hdn
  have ha1 : fq (hlen' a) an = true := by cases hA; exact decide_eq_true han
  have han' : fl an 9223372036854775807 = true := by
    cases hA
    have h : a.length ≤ 9223372036854775807 := hal
    exact decide_eq_true (by omega)
  have gw : ap1 N rowsW d = true := by subst hN; rw [ap1_std]; exact rowsW_ok hd
  have gwc : rowsW d = true := rowsW_ok hd
  have n0 : fc .eql (fo dn) 0 = false → 0 < dn := by
    cases hA; intro h
    rcases Nat.eq_zero_or_pos dn with e | e
    · rw [e] at h; cases h
    · exact e
  obtain ⟨B, hB⟩ : ∃ y, ap2 N lpB a (fo dn) = y := ⟨_, rfl⟩
  have eB : B = lpB a (dn : Int) := by rw [← hB]; cases hA; subst hN; rw [ap2_std]
  have bx : B = true → dn ≤ an ∧ an ≤ 8 ∧ dn ≤ 8 ∧ plB a = true := by
    intro h
    rw [eB] at h
    obtain ⟨b1, b2, b3, b4⟩ := of_decide_eq_true h
    exact ⟨by omega, by omega, by omega, b4⟩
  simp only [ap1, ap2] at gw hB
  apply Hides.mk
  cbv
  cases h1 : fc .eql (fo dn) 0 <;> cbv
  · simp only [hB]
    cases hb : B <;> cbv
    · refine finH0 hK ?_ rfl rfl
      rw [Bool.and_eq_true]
      refine ⟨by cbv, ?_⟩
      simp (maxSteps := 10000000) only [hm, hma, ha1, han', hB]
    · obtain ⟨b1, b2, b3, b4⟩ := bx hb
      have pd := n0 h1
      have hln : fl dn 1000000 = true := by cases hA; exact decide_eq_true (by omega)
      obtain ⟨ok, hok⟩ : ∃ f, f = bkOk d a := ⟨_, rfl⟩
      refine lp_ex hL an bkEx (bkHd d a dn an) ok ?_ ?_ hL (.inr rfl)
      · cbv
        refine ⟨?_, ?_⟩
        · rw [hok]
          exact bkOk_mk (Int.le_refl _) (by rw [han]; exact Nat.zero_add _) rfl rfl
        · simp only [hm, hma, ha1, han', hB]
          exact ⟨trivial, trivial⟩
      intro m hm0 x hx
      obtain ⟨l, R, i⟩ := x
      obtain ⟨i0, i1, i2, i3⟩ : 0 ≤ i ∧ i.toNat + m = an ∧ l = i.toNat ∧ R = shAt d (a.take i.toNat) := by rw [hok] at hx; rw [← han]; exact bkOk_ex hx
      clear hx
      have hRl : R.length = l := by rw [i3]; unfold shAt; rw [List.length_map, List.length_take, han, i2]; omega
      have gR : fq (rlen R) l = true := by cases hA; exact decide_eq_true hRl
      cbv
      cases h2 : fc .lss i (fo an) <;> cbv
      · have hj : i.toNat = an := by
          have : ¬ i < (an : Int) := by cases hA; exact of_decide_eq_false h2
          omega
        have eR : R = shAt d a := by rw [i3, hj, List.take_of_length_le (by omega)]
        obtain ⟨bE, bK⟩ := back_join gwc b4 (by omega) (by omega : 0 < d.length)
        have hE : ap1 N joE R = 0 := by subst hN; rw [ap1_std, eR]; exact bE
        obtain ⟨X, hX⟩ : ∃ X, ap1 N joK R = X := ⟨_, rfl⟩
        have hZ : ap1 N (cutN 115792089210356248762697446949407573529996955224135760342422259061068512044369) (ap4 N num4 (rint' d 0 0) (rint' d 0 1) (rint' d 0 2) (rint' d 0 3)) = X := by
          rw [← hX]
          cases hA; subst hN
          rw [ap1_std, ap4_std, ap1_std, eR, bK]
          rfl
        simp only [ap1, ap2, ap4] at hE hX hZ
        repeat (simp only [hE, hX, hZ, he]; cbv)
        refine finH0 hK ?_ rfl rfl
        rw [Bool.and_eq_true]
        refine ⟨by cbv, ?_⟩
        have g01 : fl (gadd 0 1) (rlen d) = true := by cases hA; exact decide_eq_true (by show 0 + 1 ≤ d.length; omega)
        have g1d : fl 1 dn = true := by cases hA; exact decide_eq_true (by omega)
        have gl6 : fl l 1000000 = true := by cases hA; exact decide_eq_true (by omega)
        simp (maxSteps := 10000000) only [hm, hma, ha1, han', hB, hE, hX, hZ, he, g01, g1d, gR, gl6]
      · obtain ⟨m', rfl⟩ : ∃ m', m = m' + 1 := ⟨m - 1, by
          have : i < (an : Int) := by cases hA; exact of_decide_eq_true h2
          omega⟩
        have hlt : i.toNat < an := by omega
        have gl : fl (gadd (fn i) 1) (hlen' a) = true := by cases hA; exact decide_eq_true (by show i.toNat + 1 ≤ a.length; omega)
        have gb : fb i an = true := by
          have : i < (an : Int) := by omega
          cases hA
          show (decide (0 ≤ i) && decide (i < (an : Int))) = true
          rw [decide_eq_true (by omega), decide_eq_true (by omega)]; rfl
        have ei : fi .add .i64 i 1 = i + 1 := by
          cases hA; show IntKind.i64.wrap (i + 1) = _; rw [IntKind.wrap_i64]; omega
        have g1 : fl (gmul (gadd l 1) 40) 140737488355328 = true := by cases hA; exact decide_eq_true (by show (l + 1) * 40 ≤ _; omega)
        obtain ⟨T, hT⟩ : ∃ T, hget a (fn i) = T := ⟨_, rfl⟩
        have eT : T = a.getD i.toNat 0 := by rw [← hT]; cases hA; rfl
        obtain ⟨X, hX⟩ : ∃ X, ap2 N evL d T = X := ⟨_, rfl⟩
        have eX : X = evL d T := by rw [← hX]; subst hN; rw [ap2_std]
        have next : ok m' (gadd l 1, rapp R [[.int .i64 T, .int .u64 (ap1 N l0 X), .int .u64 (ap1 N l1 X), .int .u64 (ap1 N l2 X), .int .u64 (ap1 N l3 X)]], fi .add .i64 i 1) := by
          rw [hok, ei]
          cases hA; subst hN
          rw [ap1_std, ap1_std, ap1_std, ap1_std]
          have e1 : (i + 1).toNat = i.toNat + 1 := by omega
          refine bkOk_mk (by omega) (by rw [e1]; omega) (by show l + 1 = _; omega) ?_
          rw [e1, List.take_add_one, List.getElem?_eq_getElem (by omega), Option.toList_some]
          have eT' : a[i.toNat]'(by omega) = T := by rw [eT, List.getD_eq_getElem?_getD, List.getElem?_eq_getElem (by omega)]; rfl
          unfold shAt at i3 ⊢
          rw [List.map_append, ← i3, eT', eX]
          rfl
        simp only [ap1, ap2] at hX next
        clear hK
        cbv
        repeat (simp only [hT, hX, gl, gb, gR, hc1, hln, gw, g1, hma]; cbv)
        exact ⟨next, trivial⟩
  · refine finH0 hK ?_ rfl rfl
    rw [Bool.and_eq_true]
    refine ⟨by cbv, ?_⟩
    simp (maxSteps := 10000000) only [hm]


theorem shamirBack_step (ss : List SV) (bs : List Blk) (h0 : PS.fits 0 [.rows [.int .u64, .int .u64, .int .u64, .int .u64], .ints .i64] ss bs) : ∃ C, Eng.Good Try.prog C (0 + bs.length) ∧ C.gl = [] ∧ codeOk C Try.f6.ntmps (Try.f6.body.getD .skip) = true ∧ ss.length ≤ Try.f6.ntmps ∧
    Hides (afun C Try.f6 ss ([] ++ bs) (FinH (0 + bs.length) (.bool true) [] [] (uniR (0 + bs.length) (.bool true) [] []))) := by
  obtain ⟨d, ss0, bs0, rfl, rfl, wd, ld, h1⟩ := fits_rows h0
  obtain ⟨a, ss1, bs1, rfl, rfl, wa, la, h2⟩ := fits_ints h1
  obtain ⟨rfl, rfl⟩ := fits_nil h2
  exact ⟨_, ⟨good0p rfl shamirBackL_ok shamirBackD_ok, rfl, .inr rfl, Nat.zero_le _⟩, rfl, by kernel_rfl, Nat.le_of_ble_eq_true rfl, shamirBack_vc std apStd (ALoop 2) d _ a _ rfl rfl rfl wd ld rfl wa la rfl _ rfl⟩

theorem shamirBack_lifted (os : Os) (started : os.Started) (H : Type) (enc : TypeId × Value → H) :
    ReturnsInHanded {} Try.checked os 6 .any (Rows.shamirBackSpec.pre6 enc Try.prog Try.f6 Rows.shamirBackRow.domain false) (Rows.shamirBackSpec.post enc Try.prog Try.f6 false true false false) :=
  lifted_of Rows.shamirBackSpec Rows.shamirBackRow Try.func6 (tb := 4) (by kernel_rfl) Try.underlying4 rfl
    (by
      intro H ds h
      match ds, h with
      | [d1, d2], _ => rfl) (by kernel_rfl) os started H enc (by kernel_rfl)
    (ChangeSpec.witness6 (enc := enc) (C := Try.checked) false ⟨#[], #[.slice none 0 0, .slice none 0 0], []⟩ 8 (by kernel_rfl) (by kernel_rfl) (by kernel_rfl) (by kernel_rfl))
    (fun W base args ds ps hval hA => walk_genS Try.func6 (c := Try.f6.body.getD .skip) (by kernel_rfl) [.rows [.int .u64, .int .u64, .int .u64, .int .u64], .ints .i64] (ts := [22, 32]) (by kernel_rfl) (by kernel_rfl) (m0 := ([] : List Pl)) (h0 := ([] : List Blk)) (gl := [])
      shamirBack_step (fun b hb => by cases hb) (fun i g hg => by simp at hg) W base args ds ps hval hA ⟨rfl, by simp, by simp⟩)

theorem shamirBack_row : Rows.ShamirBackSaid :=
  OpenClaim.holds_of_wide 6 Try.f6 rfl rfl rfl rfl rfl rfl rfl ⟨rfl, rfl, rfl, rfl, rfl⟩ rfl rfl rfl rfl rfl (by kernel_rfl) Try.func6 (by kernel_rfl)
    (of_decide_eq_true (by kernel_rfl)) (by unfold Func.isWrapper; first | (rw [if_pos (by decide +kernel)]; kernel_rfl) | (rw [if_neg (by decide +kernel)]; exact ⟨rfl, rfl⟩))
    (fun os started H enc _ => shamirBack_lifted os started H enc)

theorem ShamirBack_proved : Rows.ShamirBackSaid := shamirBack_row

end Go.Proofs.Ytnhobbdijdbbeaa
