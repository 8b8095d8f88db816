/- The law DrbgPlays hands back true, whatever the input. It has no conditions (the tables of the sha package are as the program lays them: the card ties them to its text). -/
import Derived.Test.YtpnpfihjlobonaaDoorDr14
import Derived.Test.YtpnpfihjlobonaaDoorLawS
import Derived.Test.YtpnpfihjlobonaaDoorLawG
import Derived.Test.YtpnpfihjlobonaaDoorTie
import Derived.Test.YtpnpfihjlobonaaDoorCards
import Derived.SevenTiedAt
namespace Go.Proofs.YtpnpfihjlobonaaDoor
open Go.Eng Go.ChangeShapes Go.WideShapes Go.ChangeAt Go.RowKit
set_option maxRecDepth 1000000
set_option maxHeartbeats 4000000
set_option linter.unusedSimpArgs false
set_option linter.unusedVariables false

def drbgPlaysL (A : Ar) (N : Ap) : Pure := [(28, rnewF A N), (29, rbytF A N), (30, rscalF A N), (33, rupdF A N)]
def drbgPlaysD (A : Ar) (N : Ap) : Heap := [(27, fewH A N), (21, dnewH A N), (22, bytesH A N), (23, scalarH A N), (25, polyH A N), (34, reseedH A N), (24, askH A N), (20, trueH N), (31, rpolyH A N), (32, numsH A N)]

theorem drbgPlaysL_ok : ∀ p ∈ drbgPlaysL std apStd, Con Tryd.prog p.1 p.2 := by
  intro p hp
  simp only [drbgPlaysL, List.mem_cons, List.not_mem_nil, or_false] at hp
  rcases hp with rfl | rfl | rfl | rfl
  · exact con_rnew
  · exact con_rbyt
  · exact con_rscal
  · exact con_rres
theorem drbgPlaysD_ok : ∀ p ∈ drbgPlaysD std apStd, HCon Tryd.prog [0, 1] p.1 p.2 := by
  intro p hp
  simp only [drbgPlaysD, List.mem_cons, List.not_mem_nil, or_false] at hp
  rcases hp with rfl | rfl | rfl | rfl | rfl | rfl | rfl | rfl | rfl | rfl
  · exact hcon_few
  · exact hcon_dnew
  · exact hcon_bytes
  · exact hcon_scalar
  · exact hcon_poly
  · exact hcon_reseed
  · exact hcon_ask
  · exact hcon_awake29
  · exact hcon_rpoly
  · exact hcon_nums

theorem polT_by (c : Nat) (k v : ByteArray) (a : Int) : ∃ k' v' a', polT c (byts k) (byts v) a = (byts k', byts v', a') := by
  induction c with
  | zero => exact ⟨k, v, a, rfl⟩
  | succ c ih =>
    obtain ⟨k', v', a', h⟩ := ih
    refine ⟨rsK k' v' a', rsV k' v' a', scA (byts k') (byts v') a', ?_⟩
    rw [polT, h, scK_by, scV_by]
theorem polK_by (k v : ByteArray) (a n : Int) : polK (byts k) (byts v) a n = byts (rpK k v a n) := by
  obtain ⟨k', v', a', h⟩ := polT_by (polC n) k v a
  unfold rpK polK
  rw [h]
  dsimp only
  rw [mkb_of_byts]
theorem polV_by (k v : ByteArray) (a n : Int) : polV (byts k) (byts v) a n = byts (rpV k v a n) := by
  obtain ⟨k', v', a', h⟩ := polT_by (polC n) k v a
  unfold rpV polV
  rw [h]
  dsimp only
  rw [mkb_of_byts]
theorem rbK_size {k v : ByteArray} (n : Int) (h : k.size = 32) : (rbK k v n).size = 32 := by
  unfold rbK
  split
  · exact h
  · exact updK_size _ _ _
theorem rbV_size {k v : ByteArray} (n : Int) (h : v.size = 32) : (rbV k v n).size = 32 := by
  unfold rbV
  split
  · exact h
  · exact updV_size _ _ _
theorem rsK_32 {k v : ByteArray} (a : Int) (h : k.size = 32) (h' : v.size = 32) : (rsK k v a).size = 32 := by
  rw [← byts_length, scK_by]; exact scK_len (by rw [byts_length]; exact h) (by rw [byts_length]; exact h')
theorem rsV_32 {k v : ByteArray} (a : Int) (h : k.size = 32) (h' : v.size = 32) : (rsV k v a).size = 32 := by
  rw [← byts_length, scV_by]; exact scV_len (by rw [byts_length]; exact h) (by rw [byts_length]; exact h')
theorem rpK_32 {k v : ByteArray} (a n : Int) (h : k.size = 32) (h' : v.size = 32) : (rpK k v a n).size = 32 := by
  rw [← byts_length, ← polK_by]; unfold polK; exact (polT_len (polC n) (by rw [byts_length]; exact h) (by rw [byts_length]; exact h')).1
theorem rpV_32 {k v : ByteArray} (a n : Int) (h : k.size = 32) (h' : v.size = 32) : (rpV k v a n).size = 32 := by
  rw [← byts_length, ← polV_by]; unfold polV; exact (polT_len (polC n) (by rw [byts_length]; exact h) (by rw [byts_length]; exact h')).2
theorem polC_le (n : Int) : polC n ≤ 8 := by unfold polC; omega
def dpHd (F R : List Int) (B : ByteArray → List Int) (O : List (List Sc)) (len : Nat) : Nat → ByteArray × ByteArray × Int × Int → St
  | _, (k, v, a, i) => ⟨[(1, .row 2 len), (5, .ptr 3 0), (6, .ptr 4 0), (7, .int .i64 i)], [⟨.ints .u32 F, .ro⟩, ⟨.ints .u32 R, .ro⟩, ⟨.recs kAsk O, .ro⟩, ⟨drC (B k) (B v) (.int .i64 a), .var⟩, ⟨.lit [.str k, .str v, .int .i64 a], .var⟩], true⟩
def dpEx (S : St) : ByteArray × ByteArray × Int × Int := (litS S 4 0, litS S 4 1, cellI S 4 2, slotI S 7)
def dpOk (M : Nat) (n : Nat) (d : ByteArray × ByteArray × Int × Int) : Prop := d.1.size = 32 ∧ d.2.1.size = 32 ∧ 0 ≤ d.2.2.2 ∧ d.2.2.2.toNat + n = M
theorem dpOk_mk {M n : Nat} {k v : ByteArray} {a i : Int} (h1 : k.size = 32) (h2 : v.size = 32) (h3 : 0 ≤ i) (h4 : i.toNat + n = M) : dpOk M n (k, v, a, i) := ⟨h1, h2, h3, h4⟩
theorem dpOk_ex {M n : Nat} {k v : ByteArray} {a i : Int} (h : dpOk M n (k, v, a, i)) : k.size = 32 ∧ v.size = 32 ∧ 0 ≤ i ∧ i.toNat + n = M := h

theorem rows_str {L : List (List Sc)} (h : ∀ c ∈ L, rowOk kAsk c) (j : Nat) (hj : j < L.length) : (rstr L j 2).size ≤ 9223372036854775807 := by
  have hc := h _ (List.getElem_mem hj)
  obtain ⟨x0, r0, e0, _, z0⟩ := rowOk_int hc
  obtain ⟨x1, r1, e1, _, z1⟩ := rowOk_int z0
  obtain ⟨x2, r2, e2, w2, z2⟩ := rowOk_str z1
  unfold rstr rget
  rw [List.getElem?_eq_getElem hj, e0, e1, e2]
  exact w2

def drbgPlaysPl : List (Nat × PT) := [(20, .step 0 (.alt 1 (.step 2 (.step 3 .done)) (.alt 2 (.step 1 (.step 3 .done)) .nil))), (25, .step 0 (.step 1 (.step 2 (.step 3 (.step 4 (.step 5 (.step 6 .done))))))), (27, .step 0 (.step 2 (.alt 1 (.step 3 (.step 4 .done)) (.alt 3 (.step 1 (.step 4 .done)) .nil))))]

theorem drbgPlays_vc (A : Ar) (N : Ap) (L : LP) (F R : List Int) (a : ByteArray) (l : List (List Sc)) (ln : Nat) (hL : L = ALoop 3) (hA : A = std) (hN : N = apStd) (hF : F = firstL) (hR : R = roundsL) (ha : a.size ≤ maxLen) (hl : ∀ c ∈ l, rowOk [.int .i64, .int .i64, .str] c) (hll : l.length ≤ maxLen) (hln : l.length = ln) (K : Bool → SV → List Blk → Prop) (hK : K = FinH 3 (.bool true) [] [] (uniR 3 (.bool true) [] [])) :
    Hides (afun (cxhp A L noJ (drbgPlaysL A N) (drbgPlaysD A N) [0, 1] [27, 20, 32] dy0 (pll drbgPlaysPl)) Tryd.f10 [.str a, .row 2 ln] [⟨.ints .u32 F, .ro⟩, ⟨.ints .u32 R, .ro⟩, ⟨.recs [.int .i64, .int .i64, .str] l, .ro⟩] K) := by
  have he : ∀ x, A.icmp .eql x x = true := fun x => by subst hA; simp [std, icmp]
  have hs : ∀ x, A.scmp .eql x x = true := fun x => by subst hA; simp [std, scmp]
  have hNF : N (List Int) Bool isFirst F = true := by subst hN; exact decide_eq_true hF
  have hNR : N (List Int) Bool isRounds R = true := by subst hN; exact decide_eq_true hR
  have hne : ∀ x, A.icmp .neq x x = false := fun x => by subst hA; simp [std, icmp]
  have hsne : ∀ x, A.scmp .neq x x = false := fun x => by subst hA; simp [std, scmp]
  obtain ⟨fi, fc, fw, fb, fn, fo, fs, fa, fe, fz, fy, ff, fl, fq, gadd, gsub, gmul, gmin, hlen', hget, hset, happ, hisub, irep, iput', rlen, rint', rbool', rstr', rset, rapp, rsub, rrep, hmkb, hbyts, imn, imx⟩ := A
  simp only at he hs hne hsne
  have hm : ∀ x : ByteArray, x.size ≤ maxLen → fc .leq (fo (fz x)) 9223372036854775807 = true := by
    cases hA; intro x hx
    have hx' : x.size ≤ 9223372036854775807 := hx
    exact decide_eq_true (by show (x.size : Int) ≤ _; omega)
  have hz1 : ∀ x : ByteArray, fc .gtr (fo (fz x)) 1000 = false → fl (fz x) 17592186044416 = true := by
    cases hA; intro x h
    have h : ¬ ((x.size : Int) > 1000) := of_decide_eq_false h
    exact decide_eq_true (by show x.size ≤ _; omega)
  have f32 : ∀ l : List Int, l.length = 32 → fq (hlen' l) 32 = true := by cases hA; intro l h; exact decide_eq_true h
  have hKn : ∀ s, (hbyts (N ByteArray ByteArray newK s)).length = 32 := by
    cases hA; subst hN; intro s; simp only [apStd_app]
    rw [byts_length]; exact newK_size s
  have hVn : ∀ s, (hbyts (N ByteArray ByteArray newV s)).length = 32 := by
    cases hA; subst hN; intro s; simp only [apStd_app]
    rw [byts_length]; exact newV_size s
  have bk : ∀ k v : List Int, ∀ n, k.length = 32 → (ap3 N bytK k v n).length = 32 := by
    intro k v n h; subst hN; rw [ap3_std]; exact bytK_len h
  have bv : ∀ k v : List Int, ∀ n, v.length = 32 → (ap3 N bytV k v n).length = 32 := by
    intro k v n h; subst hN; rw [ap3_std]; exact bytV_len h
  have sk : ∀ k v : List Int, ∀ n, k.length = 32 → v.length = 32 → (ap3 N scK k v n).length = 32 := by
    intro k v n h h'; subst hN; rw [ap3_std]; exact scK_len h h'
  have sv : ∀ k v : List Int, ∀ n, k.length = 32 → v.length = 32 → (ap3 N scV k v n).length = 32 := by
    intro k v n h h'; subst hN; rw [ap3_std]; exact scV_len h h'
  have ma := hm a ha
  have f1 : ∀ k v n, ap3 N bytK (hbyts k) (hbyts v) n = hbyts (ap3 N rbK k v n) := by cases hA; subst hN; intro k v n; rw [ap3_std, ap3_std]; exact bytK_rb k v n
  have f2 : ∀ k v n, ap3 N bytV (hbyts k) (hbyts v) n = hbyts (ap3 N rbV k v n) := by cases hA; subst hN; intro k v n; rw [ap3_std, ap3_std]; exact bytV_rb k v n
  have f3 : ∀ k v n, ap3 N bytS (hbyts k) (hbyts v) n = ap3 N rbS k v n := by cases hA; subst hN; intro k v n; rw [ap3_std, ap3_std]; exact bytS_rb k v n
  have f4 : ∀ k v n, ap3 N scK (hbyts k) (hbyts v) n = hbyts (ap3 N rsK k v n) := by cases hA; subst hN; intro k v n; rw [ap3_std, ap3_std]; exact (scK_by k v n).symm
  have f5 : ∀ k v n, ap3 N scV (hbyts k) (hbyts v) n = hbyts (ap3 N rsV k v n) := by cases hA; subst hN; intro k v n; rw [ap3_std, ap3_std]; exact (scV_by k v n).symm
  have f6 : ∀ k v n, ap3 N scA (hbyts k) (hbyts v) n = ap3 N rsA k v n := by cases hA; subst hN; intro k v n; rw [ap3_std, ap3_std]; unfold rsA; rfl
  have f7 : ∀ k v n, ap3 N scX (hbyts k) (hbyts v) n = ap3 N rsX k v n := by cases hA; subst hN; intro k v n; rw [ap3_std, ap3_std]; unfold rsX; rfl
  have g1 : ∀ k v a n, ap4 N polK (hbyts k) (hbyts v) a n = hbyts (ap4 N rpK k v a n) := by cases hA; subst hN; intro k v a n; rw [ap4_std, ap4_std]; exact polK_by k v a n
  have g2 : ∀ k v a n, ap4 N polV (hbyts k) (hbyts v) a n = hbyts (ap4 N rpV k v a n) := by cases hA; subst hN; intro k v a n; rw [ap4_std, ap4_std]; exact polV_by k v a n
  have g3 : ∀ k v a n, ap4 N polA (hbyts k) (hbyts v) a n = ap4 N rpA k v a n := by cases hA; subst hN; intro k v a n; rw [ap4_std, ap4_std]; unfold rpA; rfl
  have g4 : ∀ k v a n, ap4 N polR (hbyts k) (hbyts v) a n = ap4 N rpR k v a n := by cases hA; subst hN; intro k v a n; rw [ap4_std, ap4_std]; unfold rpR; rfl
  have f8 : ∀ k, hmkb (hbyts k) = k := by cases hA; intro k; exact mkb_of_byts k
  have bw : ∀ n, fw .i64 (N Int Int bytE n) = N Int Int bytE n := by
    cases hA; subst hN; intro n; rw [apStd_app]
    show IntKind.i64.wrap (bytE n) = bytE n
    unfold bytE; split <;> rfl
  have rr : ∀ L, ap2 N rowsEq L L = true := by subst hN; intro L; rw [ap2_std]; exact rowsEq_refl L
  have l32 : ∀ k : ByteArray, k.size = 32 → fq (hlen' (hbyts k)) 32 = true := by
    intro k hk; refine f32 _ ?_; cases hA; exact (byts_length k).trans hk
  have s64 : ∀ k : ByteArray, k.size = 32 → fl (fz k) 64 = true := by cases hA; intro k hk; exact decide_eq_true (by show k.size ≤ 64; omega)
  have zK : (N ByteArray ByteArray newK a).size = 32 := by subst hN; rw [apStd_app]; exact newK_size a
  have zV : (N ByteArray ByteArray newV a).size = 32 := by subst hN; rw [apStd_app]; exact newV_size a
  have lK := l32 _ zK
  have lV := l32 _ zV
  have hn0 : fq (rlen l) ln = true := by cases hA; exact decide_eq_true hln
  have hlm : ln ≤ 9223372036854775807 := by rw [← hln]; exact hll
  have hn1 : fc .leq (fo ln) 9223372036854775807 = true := by cases hA; exact decide_eq_true (by show (ln : Int) ≤ _; omega)
  have hst : N (List (List Sc)) Bool strOkB l = true := by
    subst hN; rw [apStd_app]
    exact decide_eq_true (fun j hj => rows_str hl j hj)
  obtain ⟨b, hb⟩ : ∃ b, ap2 N fewB a l = b := ⟨_, rfl⟩
  have hbe : fewB a l = b := by rw [← hb]; subst hN; rw [ap2_std]
  simp only [ap2, ap3, ap4] at f1 f2 f3 f4 f5 f6 f7 g1 g2 g3 g4 rr hb
  apply Hides.mk
  cbv
  simp only [hb]
  cases b <;> cbv
  · refine finH0 hK ?_ rfl rfl
    rw [Bool.and_eq_true]
    refine ⟨by cbv, ?_⟩
    simp (maxSteps := 10000000) only [hNF, hNR, ma, hn0, hn1, hst]
  · obtain ⟨z1, z2, z3⟩ : a.size ≤ 1000 ∧ l.length ≤ 12 ∧ ∀ j, j < l.length → askOk l j := by
      unfold fewB at hbe
      simpa using hbe
    have a1 : fl (fz a) 17592186044416 = true := by cases hA; exact decide_eq_true (by show a.size ≤ _; omega)
    have a2 : fl (fz a) 17592186044316 = true := by cases hA; exact decide_eq_true (by show a.size ≤ _; omega)
    obtain ⟨ok, hok⟩ : ∃ f, f = dpOk ln := ⟨_, rfl⟩
    refine lp_ex hL ln dpEx (dpHd F R hbyts l ln) ok ?_ ?_ hL (.inr rfl)
    · cbv
      refine ⟨?_, ?_⟩
      · rw [hok]; exact dpOk_mk zK zV (Int.le_refl _) (Nat.zero_add _)
      · simp only [hNF, hNR, a1, a2, ma, hn0, hn1, hst]
        exact ⟨trivial, trivial⟩
    intro m hm' d hd
    obtain ⟨k', v', a', i⟩ := d
    obtain ⟨hk', hv', i0, i1⟩ : k'.size = 32 ∧ v'.size = 32 ∧ 0 ≤ i ∧ i.toNat + m = ln := by rw [hok] at hd; exact dpOk_ex hd
    clear hd
    cbv
    cases h1 : fc .lss i (fo ln) <;> cbv
    · refine finH0 hK ?_ rfl rfl
      rw [Bool.and_eq_true]
      refine ⟨by cbv, ?_⟩
      simp (maxSteps := 10000000) only [hNF, hNR, ma, hn0, hn1, hst, a1, a2]
    · have hlt : i.toNat < ln := by
        have : i < (ln : Int) := by cases hA; exact of_decide_eq_true h1
        omega
      have gb : fb i ln = true := by
        cases hA
        show (decide (0 ≤ i) && decide (i < (ln : Int))) = true
        rw [decide_eq_true (by omega), decide_eq_true (by omega)]; rfl
      have gl : fl (gadd (fn i) 1) (rlen l) = true := by
        cases hA
        exact decide_eq_true (by show i.toNat + 1 ≤ l.length; omega)
      have ei : ∀ j : Int, 0 ≤ j → j < 64 → fi .add .i64 j 1 = j + 1 := by
        cases hA; intro j h0 h1; show IntKind.i64.wrap _ = _; rw [IntKind.wrap_i64]; omega
      have ask := (z3 i.toNat (by omega)).1
      obtain ⟨T, hT⟩ : ∃ t, rstr' l (fn i) 2 = t := ⟨_, rfl⟩
      have sT : T.size ≤ 1000 := by rw [← hT]; cases hA; exact ask
      obtain ⟨Q, hQ⟩ : ∃ t, rint' l (fn i) 1 = t := ⟨_, rfl⟩
      obtain ⟨k, hk⟩ : ∃ t, rint' l (fn i) 0 = t := ⟨_, rfl⟩
      obtain ⟨m', rfl⟩ : ∃ m', m = m' + 1 := ⟨m - 1, by omega⟩
      have next : ∀ (k v : ByteArray) (a : Int), k.size = 32 → v.size = 32 → ok m' (k, v, a, fi .add .i64 i 1) := by
        intro k v a h h'
        rw [hok, ei i i0 (by omega)]
        exact dpOk_mk h h' (by omega) (by omega)
      have lk := l32 _ hk'
      have lv := l32 _ hv'
      have uk := s64 _ hk'
      have uv := s64 _ hv'
      simp only [hT, hQ, hk]
      have sbk := l32 _ (show (ap3 N rbK k' v' Q).size = 32 by subst hN; rw [ap3_std]; exact rbK_size Q hk')
      have sbv := l32 _ (show (ap3 N rbV k' v' Q).size = 32 by subst hN; rw [ap3_std]; exact rbV_size Q hv')
      have tbk : (ap3 N rbK k' v' Q).size = 32 := by subst hN; rw [ap3_std]; exact rbK_size Q hk'
      have tbv : (ap3 N rbV k' v' Q).size = 32 := by subst hN; rw [ap3_std]; exact rbV_size Q hv'
      have tsk : (ap3 N rsK k' v' a').size = 32 := by subst hN; rw [ap3_std]; exact rsK_32 a' hk' hv'
      have tsv : (ap3 N rsV k' v' a').size = 32 := by subst hN; rw [ap3_std]; exact rsV_32 a' hk' hv'
      have tpk : (ap4 N rpK k' v' a' Q).size = 32 := by subst hN; rw [ap4_std]; exact rpK_32 a' Q hk' hv'
      have tpv : (ap4 N rpV k' v' a' Q).size = 32 := by subst hN; rw [ap4_std]; exact rpV_32 a' Q hk' hv'
      have tuk : (ap3 N updK k' v' T).size = 32 := by subst hN; rw [ap3_std]; exact updK_size _ _ _
      have tuv : (ap3 N updV k' v' T).size = 32 := by subst hN; rw [ap3_std]; exact updV_size _ _ _
      have ssk := l32 _ tsk
      have ssv := l32 _ tsv
      have spk := l32 _ tpk
      have spv := l32 _ tpv
      have suk := l32 _ tuk
      have suv := l32 _ tuv
      have spr : fq (rlen (ap4 N rpR k' v' a' Q)) (ap1 N polC Q) = true := by cases hA; subst hN; rw [ap4_std, ap1_std]; exact decide_eq_true (polL_len _ _ _ _)
      have spc : fl (ap1 N polC Q) 1000000 = true := by cases hA; subst hN; rw [ap1_std]; exact decide_eq_true (by have := polC_le Q; omega)
      have sT1 : fl (fz T) 17592186044416 = true := by cases hA; exact decide_eq_true (by show T.size ≤ _; omega)
      have sT2 : fl (fz T) 17592186044316 = true := by cases hA; exact decide_eq_true (by show T.size ≤ _; omega)
      simp only [ap1, ap3, ap4] at sbk sbv ssk ssv spk spv spr spc suk suv tbk tbv tsk tsv tpk tpv tuk tuv
      cases c0 : fc .eql k 0 <;> cbv
      · cases c1 : fc .eql k 1 <;> cbv
        · cases c2 : fc .eql k 2 <;> cbv
          · repeat (simp only [f1, f2, f3, f4, f5, f6, f7, f8, g1, g2, g3, g4, rr, bw, he, hs, hne, hsne, hT, hQ, hk, hNF, hNR, lk, lv, uk, uv, gb, gl, hn0, hn1, sbk, sbv, ssk, ssv, spk, spv, spr, spc, sT1, sT2, suk, suv]; cbv)
            exact ⟨next _ _ _ tuk tuv, trivial⟩
          · repeat (simp only [f1, f2, f3, f4, f5, f6, f7, f8, g1, g2, g3, g4, rr, bw, he, hs, hne, hsne, hT, hQ, hk, hNF, hNR, lk, lv, uk, uv, gb, gl, hn0, hn1, sbk, sbv, ssk, ssv, spk, spv, spr, spc, sT1, sT2, suk, suv]; cbv)
            exact ⟨next _ _ _ tpk tpv, trivial⟩
        · repeat (simp only [f1, f2, f3, f4, f5, f6, f7, f8, g1, g2, g3, g4, rr, bw, he, hs, hne, hsne, hT, hQ, hk, hNF, hNR, lk, lv, uk, uv, gb, gl, hn0, hn1, sbk, sbv, ssk, ssv, spk, spv, spr, spc, sT1, sT2, suk, suv]; cbv)
          exact ⟨next _ _ _ tsk tsv, trivial⟩
      · repeat (simp only [f1, f2, f3, f4, f5, f6, f7, f8, g1, g2, g3, g4, rr, bw, he, hs, hne, hsne, hT, hQ, hk, hNF, hNR, lk, lv, uk, uv, gb, gl, hn0, hn1, sbk, sbv, ssk, ssv, spk, spv, spr, spc, sT1, sT2, suk, suv]; cbv)
        exact ⟨next _ _ _ tbk tbv, trivial⟩


theorem drbgPlays_step (ss : List SV) (bs : List Blk) (h0 : PS.fits 2 [.one [.str] false, .rows [.int .i64, .int .i64, .str]] ss bs) : ∃ C, Eng.Good Tryd.prog C (2 + bs.length) ∧ C.gl = [0, 1] ∧ codeOk C Tryd.f10.ntmps (Tryd.f10.body.getD .skip) = true ∧ ss.length ≤ Tryd.f10.ntmps ∧
    Hides (afun C Tryd.f10 ss (tabH ++ bs) (FinH (2 + bs.length) (.bool true) [] [] (uniR (2 + bs.length) (.bool true) [] []))) := by
  obtain ⟨c0, ss0, rfl, hc0, h1⟩ := fits_one h0
  obtain ⟨a, r0, rfl, wa, z0⟩ := rowOk_str hc0; obtain rfl := rowOk_nil z0
  obtain ⟨l, ss1, bs1, rfl, rfl, wl, ll, h2⟩ := fits_rows h1
  obtain ⟨rfl, rfl⟩ := fits_nil h2
  exact ⟨_, ⟨good0p rfl drbgPlaysL_ok drbgPlaysD_ok, rfl, .inr rfl, Nat.le_add_right 2 _⟩, rfl, by kernel_rfl, Nat.le_of_ble_eq_true rfl, drbgPlays_vc std apStd (ALoop 3) firstL roundsL a l _ rfl rfl rfl rfl rfl wa wl ll rfl _ rfl⟩

theorem drbgPlays_lifted (os : Os) (started : os.Started) (H : Type) (enc : TypeId × Value → H) :
    ReturnsInHanded {} Tryd.checked os 10 .any (fun w args => (Rows.drbgPlaysSpec.pre enc Tryd.prog Tryd.f10 [] false w args ∧ laidMetH Tryd.prog tabD w) ∧ sizedMet enc Tryd.prog Tryd.f10 (OpenSpec.ofChange Rows.drbgPlaysSpec) false w args) (Rows.drbgPlaysSpec.post enc Tryd.prog Tryd.f10 false true false false) :=
  liftedG_of Rows.drbgPlaysSpec Tryd.func10 (tb := 4) (by kernel_rfl) Tryd.underlying4 rfl
    (by
      intro H ds h
      match ds, h with
      | [d1, d2], _ => rfl) (by kernel_rfl) os started H enc (by kernel_rfl)
    (ChangeSpec.witness_shaped (enc := enc) (C := Tryd.checked) (os := os) (X := fun w _ => laidMetH Tryd.prog tabD w) false (World.doorLaid Tryd.prog 400 os) #[.string ByteArray.empty, .slice none 0 0] 8 rfl (World.shaped_of_RefB (by kernel_rfl) (by kernel_rfl)) (by kernel_rfl) (by kernel_rfl) (by kernel_rfl) (door_met os _))
    (fun W base args ds ps hval hA hT => walk_genS Tryd.func10 (c := Tryd.f10.body.getD .skip) (by kernel_rfl) [.one [.str] false, .rows [.int .i64, .int .i64, .str]] (ts := [9, 49]) (by kernel_rfl) (by kernel_rfl) (m0 := tabM) (h0 := tabH) (gl := [0, 1])
      drbgPlays_step (fun b hb => by
        simp only [tabH, List.mem_cons, List.not_mem_nil, or_false] at hb
        rcases hb with rfl | rfl <;> rfl) tab_gok W base args ds ps hval hA hT)

theorem drbgPlays_row : Rows.DrbgPlaysSaid :=
  OpenClaim.holds_of_wide 10 Tryd.f10 rfl rfl rfl rfl rfl rfl rfl ⟨rfl, rfl, rfl, rfl, rfl⟩ rfl rfl rfl rfl rfl (by kernel_rfl) Tryd.func10 (by kernel_rfl)
    (of_decide_eq_true (by kernel_rfl)) (by unfold Func.isWrapper; first | (rw [if_pos (by decide +kernel)]; kernel_rfl) | (rw [if_neg (by decide +kernel)]; exact ⟨rfl, rfl⟩))
    (fun os started H enc _ => drbgPlays_lifted os started H enc)

theorem DrbgPlays_proved : Rows.DrbgPlaysCardSaid := by
  unfold Rows.DrbgPlaysCardSaid Rows.drbgPlaysCard
  exact Claim7.holds_tied_plain_at .later [] [.data, .data] true _ false
    drbgPlays_row (fun _ h => by cases h) (by kernel_rfl) (fun _ h => by cases h) drbgPlays_row_tie rfl ⟨rfl, rfl⟩ (by kernel_rfl) rfl
    (fun f fn hf hfn => by
      obtain rfl : f = 10 := Option.some.inj ((show Tryd.prog.funcNamed "sandglass/sandglasslaw29.DrbgPlays" = some 10 by kernel_rfl).symm.trans hf) |>.symm
      obtain rfl : fn = Tryd.f10 := (Option.some.inj (Tryd.func10.symm.trans hfn)).symm
      exact ⟨by kernel_rfl, fun j t ht => by
        have hp : Tryd.f10.params = #[9, 49] := by kernel_rfl
        rw [hp] at ht
        have hm : t ∈ [9, 49] := by simpa using Array.mem_of_getElem? ht
        have hall : ([9, 49].all fun u => !Tryd.prog.wantsStandIn u) = true := by kernel_rfl
        exact (show Tryd.prog.wantsStandIn t = false by simpa using List.all_eq_true.1 hall t hm)⟩)
    (by kernel_rfl)

end Go.Proofs.YtpnpfihjlobonaaDoor
