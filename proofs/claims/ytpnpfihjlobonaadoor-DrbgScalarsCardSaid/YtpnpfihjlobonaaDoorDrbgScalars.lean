/- The law DrbgScalars hands back true, whatever the input. It has no conditions (the tables of the sha package are as the program lays them: the card ties them to its text). -/
import Derived.Test.YtpnpfihjlobonaaDoorDr12
import Derived.Test.YtpnpfihjlobonaaDoorLawG
import Derived.Test.YtpnpfihjlobonaaDoorTie
import Derived.Test.YtpnpfihjlobonaaDoorCards
import Derived.SevenTiedAt
namespace Go.Proofs.YtpnpfihjlobonaaDoor
open Go.Eng Go.ChangeShapes Go.WideShapes Go.ChangeAt Go.RowKit
set_option maxRecDepth 1000000
set_option maxHeartbeats 1000000
set_option linter.unusedSimpArgs false
set_option linter.unusedVariables false

def drbgScalarsL (A : Ar) (N : Ap) : Pure := [(26, sval N qN)]
def drbgScalarsD (A : Ar) (N : Ap) : Heap := [(21, dnewH A N), (25, polyH A N), (23, scalarH A N), (20, trueH N)]

theorem drbgScalarsL_ok : ∀ p ∈ drbgScalarsL std apStd, Con Tryd.prog p.1 p.2 := by
  intro p hp
  simp only [drbgScalarsL, List.mem_cons, List.not_mem_nil, or_false] at hp
  rcases hp with rfl
  · exact con_srValid
theorem drbgScalarsD_ok : ∀ p ∈ drbgScalarsD std apStd, HCon Tryd.prog [0, 1] p.1 p.2 := by
  intro p hp
  simp only [drbgScalarsD, List.mem_cons, List.not_mem_nil, or_false] at hp
  rcases hp with rfl | rfl | rfl | rfl
  · exact hcon_dnew
  · exact hcon_poly
  · exact hcon_scalar
  · exact hcon_awake29

theorem polL_get {j : Nat} {k v : List Int} {a : Int} : ∀ {M : Nat}, j < M → (polL M k v a)[j]? = some (numR (polX j k v a))
  | 0, h => absurd h (Nat.not_lt_zero _)
  | M + 1, h => by
    rw [polL]
    by_cases hj : j < M
    · rw [List.getElem?_append_left (by rw [polL_len]; exact hj)]
      exact polL_get hj
    · have e : j = M := by omega
      subst e
      rw [List.getElem?_append_right (by rw [polL_len]; exact Nat.le_refl _), polL_len, Nat.sub_self]
      rfl
theorem polL_word {j M : Nat} {k v : List Int} {a : Int} (h : j < M) : rint (polL M k v a) j 0 = l0 (polX j k v a) ∧ rint (polL M k v a) j 1 = l1 (polX j k v a) ∧ rint (polL M k v a) j 2 = l2 (polX j k v a) ∧ rint (polL M k v a) j 3 = l3 (polX j k v a) := by
  unfold rint rget
  rw [polL_get h]
  exact ⟨rfl, rfl, rfl, rfl⟩

def dsHd (F R : List Int) (O : List (List Sc)) (len : Nat) : Nat → List Int × List Int × Int × Int → St
  | _, (k, v, a, i) => ⟨[(6, .ptr 3 0), (7, .row 4 len), (8, .int .i64 i)], [⟨.ints .u32 F, .ro⟩, ⟨.ints .u32 R, .ro⟩, Blk.nil, ⟨drC k v (.int .i64 a), .var⟩, ⟨.recs k4 O, .row 4⟩], true⟩
def drAt (S : St) (id : Nat) : List Int × List Int × Int := match drOf (blkAt S.h id).c with
  | some (k, v, n) => (k, v, n.toI)
  | none => ([], [], 0)
def dsEx (S : St) : List Int × List Int × Int × Int := ((drAt S 3).1, (drAt S 3).2.1, (drAt S 3).2.2, slotI S 8)
def dsOk (K V : List Int) (M : Nat) (n : Nat) (d : List Int × List Int × Int × Int) : Prop :=
  n ≤ M ∧ (d.1, d.2.1, d.2.2.1) = polT (M - n) K V 0 ∧ d.2.2.2.toNat = M - n ∧ 0 ≤ d.2.2.2
theorem dsOk_mk {K V : List Int} {M n j : Nat} {k v : List Int} {a i : Int} (h : j + n = M) (h1 : (k, v, a) = polT j K V 0) (h2 : i.toNat = j) (h3 : 0 ≤ i) : dsOk K V M n (k, v, a, i) := by
  have e : M - n = j := by omega
  unfold dsOk
  rw [e]
  exact ⟨by omega, h1, h2, h3⟩
theorem dsOk_ex {K V : List Int} {M n : Nat} {k v : List Int} {a i : Int} (h : dsOk K V M n (k, v, a, i)) : ∃ j : Nat, j + n = M ∧ (k, v, a) = polT j K V 0 ∧ i.toNat = j ∧ 0 ≤ i := by
  unfold dsOk at h
  obtain ⟨h0, h1, h2, h3⟩ := h
  exact ⟨M - n, by omega, h1, h2, h3⟩

def drbgScalarsPl : List (Nat × PT) := [(10, .step 0 (.step 1 (.step 2 (.step 4 (.alt 3 (.step 5 (.step 6 (.step 7 (.step 8 (.step 9 (.step 10 (.step 11 (.step 12 (.step 13 (.step 14 (.step 15 (.step 16 (.step 17 (.step 18 (.step 19 (.step 20 (.step 21 (.step 22 .done)))))))))))))))))) (.alt 5 (.step 3 (.step 6 (.step 7 (.step 8 (.step 9 (.step 10 (.step 11 (.step 12 (.step 13 (.step 14 (.step 15 (.step 16 (.step 17 (.step 18 (.step 19 (.step 20 (.step 21 (.step 22 .done)))))))))))))))))) .nil))))))]

theorem drbgScalars_vc (A : Ar) (N : Ap) (L : LP) (F R : List Int) (a : ByteArray) (b : Int) (hL : L = ALoop 2) (hA : A = std) (hN : N = apStd) (hF : F = firstL) (hR : R = roundsL) (ha : a.size ≤ maxLen) (hb : IntKind.i64.wrap b = b) (K : Bool → SV → List Blk → Prop) (hK : K = FinH 2 (.bool true) [] [] (uniR 2 (.bool true) [] [])) :
    Hides (afun (cxhp A L noJ (drbgScalarsL A N) (drbgScalarsD A N) [0, 1] [20] dy0 (pll drbgScalarsPl)) Tryd.f8 [.str a, .int .i64 b] [⟨.ints .u32 F, .ro⟩, ⟨.ints .u32 R, .ro⟩] K) := by
  have he : ∀ x, A.icmp .eql x x = true := fun x => by subst hA; simp [std, icmp]
  have hs : ∀ x, A.scmp .eql x x = true := fun x => by subst hA; simp [std, scmp]
  have hNF : N (List Int) Bool isFirst F = true := by subst hN; exact decide_eq_true hF
  have hNR : N (List Int) Bool isRounds R = true := by subst hN; exact decide_eq_true hR
  obtain ⟨Q, hQ⟩ : ∃ q, q = qN := ⟨_, rfl⟩
  unfold drbgScalarsL
  rw [← hQ]
  obtain ⟨fi, fc, fw, fb, fn, fo, fs, fa, fe, fz, fy, ff, fl, fq, gadd, gsub, gmul, gmin, hlen', hget, hset, happ, hisub, irep, iput', rlen, rint', rbool', rstr', rset, rapp, rsub, rrep, hmkb, hbyts, imn, imx⟩ := A
  simp only at he hs
  have hm : ∀ x : ByteArray, x.size ≤ maxLen → fc .leq (fo (fz x)) 9223372036854775807 = true := by
    cases hA; intro x hx
    have hx' : x.size ≤ 9223372036854775807 := hx
    exact decide_eq_true (by show (x.size : Int) ≤ _; omega)
  have hz1 : ∀ x : ByteArray, fc .gtr (fo (fz x)) 1000 = false → fl (fz x) 17592186044416 = true := by
    cases hA; intro x h
    have h : ¬ ((x.size : Int) > 1000) := of_decide_eq_false h
    exact decide_eq_true (by show x.size ≤ _; omega)
  have f32 : ∀ l : List Int, l.length = 32 → fq (hlen' l) 32 = true := by cases hA; intro l h; exact decide_eq_true h
  have hKn : ∀ s, (hbyts (N ByteArray ByteArray newK s)).length = 32 := by
    cases hA; subst hN; intro s; simp only [apStd_app]
    rw [byts_length]; exact newK_size s
  have hVn : ∀ s, (hbyts (N ByteArray ByteArray newV s)).length = 32 := by
    cases hA; subst hN; intro s; simp only [apStd_app]
    rw [byts_length]; exact newV_size s
  have bk : ∀ k v : List Int, ∀ n, k.length = 32 → (ap3 N bytK k v n).length = 32 := by
    intro k v n h; subst hN; rw [ap3_std]; exact bytK_len h
  have bv : ∀ k v : List Int, ∀ n, v.length = 32 → (ap3 N bytV k v n).length = 32 := by
    intro k v n h; subst hN; rw [ap3_std]; exact bytV_len h
  have sk : ∀ k v : List Int, ∀ n, k.length = 32 → v.length = 32 → (ap3 N scK k v n).length = 32 := by
    intro k v n h h'; subst hN; rw [ap3_std]; exact scK_len h h'
  have sv : ∀ k v : List Int, ∀ n, k.length = 32 → v.length = 32 → (ap3 N scV k v n).length = 32 := by
    intro k v n h h'; subst hN; rw [ap3_std]; exact scV_len h h'
  have ma := hm a ha
  obtain ⟨K0, hK0⟩ : ∃ x, x = hbyts (N ByteArray ByteArray newK a) := ⟨_, rfl⟩
  obtain ⟨V0, hV0⟩ : ∃ x, x = hbyts (N ByteArray ByteArray newV a) := ⟨_, rfl⟩
  have lK0 : K0.length = 32 := by rw [hK0]; exact hKn a
  have lV0 : V0.length = 32 := by rw [hV0]; exact hVn a
  obtain ⟨M, hM⟩ : ∃ x, x = polC b := ⟨_, rfl⟩
  have hM8 : M ≤ 8 := by rw [hM]; unfold polC; omega
  have eM : N Int Nat polC b = M := by rw [hM]; subst hN; rfl
  obtain ⟨O, hO⟩ : ∃ x, x = polL M K0 V0 0 := ⟨_, rfl⟩
  have lO : O.length = M := by rw [hO]; exact polL_len M K0 V0 0
  have eO : ap4 N polR K0 V0 0 b = O := by rw [hO, hM]; subst hN; rfl
  simp only [ap4] at eO
  have hnum : ∀ x, 0 < x ∧ x < qN → N Int Int (N Int (Int → Int) (N Int (Int → Int → Int) (N Int (Int → Int → Int → Int) num4 (N Int Int l0 x)) (N Int Int l1 x)) (N Int Int l2 x)) (N Int Int l3 x) = x := by
    subst hN; intro x h; simp only [apStd]
    rw [num4_limbs]
    exact Int.emod_eq_of_lt (by omega) (by have := qN_le; omega)
  have hF0 := f32 _ lK0
  have hV00 := f32 _ lV0
  apply Hides.mk
  cbv
  cases h1 : fc .gtr (fo (fz a)) 1000 <;> cbv
  · have a1 := hz1 a h1
    obtain ⟨B, hBe⟩ : ∃ x, x = imn (imx b 0) 8 := ⟨_, rfl⟩
    have hB : fo M = B := by
      rw [hM, hBe]
      cases hA
      show (((polC b) : Nat) : Int) = _
      unfold polC; simp only [std]; split <;> split <;> omega
    have hB0 : 0 ≤ B ∧ B.toNat = M := by rw [← hB]; cases hA; exact ⟨Int.natCast_nonneg _, rfl⟩
    have hne : ∀ x, fc .neq x x = false := by cases hA; intro x; simp [std, icmp]
    repeat (simp only [← hK0, ← hV0, eM, eO, ← hBe, hB, hne]; cbv)
    obtain ⟨ok, hok⟩ : ∃ f, f = dsOk K0 V0 M := ⟨_, rfl⟩
    have mM : fc .leq (fo M) 9223372036854775807 = true := by cases hA; exact decide_eq_true (by show (M : Int) ≤ _; omega)
    have mB : fc .leq B 9223372036854775807 = true := by cases hA; exact decide_eq_true (by omega)
    refine lp_ex hL M dsEx (dsHd F R O M) ok ?_ ?_ hL (.inr rfl)
    · cbv
      refine ⟨?_, ?_, trivial⟩
      · rw [hok]
        exact dsOk_mk (Nat.zero_add M) rfl rfl (Int.le_refl _)
      · simp (maxSteps := 10000000) only [hNF, hNR, ma, a1, hF0, hV00, mB]
    intro m hm' d hd
    obtain ⟨k', v', a', i⟩ := d
    obtain ⟨j, hj, hT, hi, hi0⟩ : ∃ j : Nat, j + m = M ∧ (k', v', a') = polT j K0 V0 0 ∧ i.toNat = j ∧ 0 ≤ i := by
      rw [hok] at hd
      exact dsOk_ex hd
    clear hd
    have hl := polT_len j (a := 0) lK0 lV0
    rw [← hT] at hl
    have hk' : k'.length = 32 := hl.1
    have hv' : v'.length = 32 := hl.2
    have fk := f32 _ hk'
    have fv := f32 _ hv'
    cbv
    cases h2 : fc .lss i (fo M) <;> cbv
    · refine finH0 hK ?_ rfl rfl
      rw [Bool.and_eq_true]
      refine ⟨by cbv, ?_⟩
      simp (maxSteps := 10000000) only [hNF, hNR, ma, mM]
    · have hjM : j < M := by
        have e2 : fo M = (M : Int) := by cases hA; rfl
        rw [e2] at h2
        have : i < (M : Int) := by cases hA; exact of_decide_eq_true h2
        omega
      obtain ⟨m', rfl⟩ : ∃ m', m = m' + 1 := ⟨m - 1, by omega⟩
      obtain ⟨X, hX⟩ : ∃ x, ap3 N scX k' v' a' = x := ⟨_, rfl⟩
      have hXr : 0 < X ∧ X < qN := by rw [← hX]; subst hN; rw [ap3_std]; exact scX_range _ _ _
      have hXp : polX j K0 V0 0 = X := by rw [← hX]; subst hN; rw [ap3_std]; unfold polX; rw [← hT]
      have hw := polL_word (k := K0) (v := V0) (a := 0) hjM
      rw [← hO, hXp] at hw
      have r0 : rint' O (fn i) 0 = N Int Int l0 X := by cases hA; subst hN; rw [apStd_app]; show rint O i.toNat 0 = _; rw [hi]; exact hw.1
      have r1 : rint' O (fn i) 1 = N Int Int l1 X := by cases hA; subst hN; rw [apStd_app]; show rint O i.toNat 1 = _; rw [hi]; exact hw.2.1
      have r2 : rint' O (fn i) 2 = N Int Int l2 X := by cases hA; subst hN; rw [apStd_app]; show rint O i.toNat 2 = _; rw [hi]; exact hw.2.2.1
      have r3 : rint' O (fn i) 3 = N Int Int l3 X := by cases hA; subst hN; rw [apStd_app]; show rint O i.toNat 3 = _; rw [hi]; exact hw.2.2.2
      have hval : N Int Bool (fun a => ltb a Q) X = true := by subst hN; rw [apStd_app, hQ]; exact decide_eq_true hXr.2
      have hnX := hnum X hXr
      have hX4 : ∀ p, (match fc .eql (N Int Int l0 X) 0 with | false => false | true => match fc .eql (N Int Int l1 X) 0 with | false => false | true => match fc .eql (N Int Int l2 X) 0 with | false => false | true => match fc .eql (N Int Int l3 X) 0 with | false => false | true => true) = p → p = false := by
        intro p e
        have e2 := and4_of e
        have e3 : decide (X = 0) = p := by
          cases hA; subst hN; simp only [apStd] at e2
          exact (zero4 ⟨by omega, by have := qN_le; omega⟩).symm.trans e2
        rw [← e3]
        exact decide_eq_false (by omega)
      simp only [ap3] at hX
      cbv
      repeat (simp only [hX, r0, r1, r2, r3, he, hval, hnX]; cbv)
      have ei : ∀ j : Int, 0 ≤ j → j < 64 → fi .add .i64 j 1 = j + 1 := by
        cases hA; intro j h0 h1; show IntKind.i64.wrap _ = _; rw [IntKind.wrap_i64]; omega
      have gb : fb i M = true := by
        cases hA
        show (decide (0 ≤ i) && decide (i < (M : Int))) = true
        rw [decide_eq_true (by omega), decide_eq_true (by omega)]; rfl
      have gl : fl (gadd (fn i) 1) (rlen O) = true := by
        cases hA
        exact decide_eq_true (by show i.toNat + 1 ≤ O.length; omega)
      split <;> rename_i e
      · cases hX4 _ e
      · have e1 := hX4 _ e
        simp only [e]
        cbv
        repeat (simp (maxSteps := 10000000) only [e, hX, r0, r1, r2, r3, he, hval, hnX, gb, gl, mM, hNF, hNR, fk, fv]; cbv)
        refine ⟨?_, trivial⟩
        rw [hok, ei i hi0 (by omega)]
        subst hN
        simp only [apStd_app]
        exact dsOk_mk (j := j + 1) (by omega) (polT_succ hT.symm) (by omega) (by omega)
  · refine finH0 hK ?_ rfl rfl
    rw [Bool.and_eq_true]
    refine ⟨by cbv, ?_⟩
    simp (maxSteps := 10000000) only [hNF, hNR, ma]


theorem drbgScalars_step (ss : List SV) (h : PK.fits [.str, .i64] ss) : ∃ C, Eng.Good Tryd.prog C 2 ∧ C.gl = [0, 1] ∧ codeOk C Tryd.f8.ntmps (Tryd.f8.body.getD .skip) = true ∧ ss.length ≤ Tryd.f8.ntmps ∧
    Hides (afun C Tryd.f8 ss tabH (FinH 2 (.bool true) [] [] (uniR 2 (.bool true) [] []))) := by
  obtain ⟨_, _, _, _, rfl, ⟨a, rfl, _, wa⟩, ⟨b, rfl, _, wb⟩⟩ := PK.fits2 h
  exact ⟨_, goodgp [20] (pll drbgScalarsPl) (by decide) drbgScalarsL_ok drbgScalarsD_ok, rfl, by kernel_rfl, Nat.le_of_ble_eq_true rfl, drbgScalars_vc std apStd (ALoop 2) firstL roundsL a b rfl rfl rfl rfl rfl wa wb _ rfl⟩

theorem drbgScalars_lifted (os : Os) (started : os.Started) (H : Type) (enc : TypeId × Value → H) :
    ReturnsInHanded {} Tryd.checked os 8 .any (fun w args => (Rows.drbgScalarsSpec.pre enc Tryd.prog Tryd.f8 [] false w args ∧ laidMetH Tryd.prog tabD w) ∧ sizedMet enc Tryd.prog Tryd.f8 (OpenSpec.ofChange Rows.drbgScalarsSpec) false w args) (Rows.drbgScalarsSpec.post enc Tryd.prog Tryd.f8 false true false false) :=
  liftedG_of Rows.drbgScalarsSpec Tryd.func8 (tb := 4) (by kernel_rfl) Tryd.underlying4 rfl
    (by
      intro H ds h
      match ds, h with
      | [d1, d2], _ => rfl) (by kernel_rfl) os started H enc (by kernel_rfl)
    (ChangeSpec.witness_shaped (enc := enc) (C := Tryd.checked) (os := os) (X := fun w _ => laidMetH Tryd.prog tabD w) false (World.doorLaid Tryd.prog 400 os) #[.string ByteArray.empty, .int .i64 0] 8 rfl (World.shaped_of_RefB (by kernel_rfl) (by kernel_rfl)) (by kernel_rfl) (by kernel_rfl) (by kernel_rfl) (door_met os _))
    (fun W base args ds ps hval hA hT => walk_genG Tryd.func8 (c := Tryd.f8.body.getD .skip) (by kernel_rfl) [.str, .i64] (ts := [9, 3]) (by kernel_rfl)
      ⟨Tryd.underlying9, Tryd.underlying3, trivial⟩ drbgScalars_step W base args ds ps hval hA hT)

theorem drbgScalars_row : Rows.DrbgScalarsSaid :=
  OpenClaim.holds_of_wide 8 Tryd.f8 rfl rfl rfl rfl rfl rfl rfl ⟨rfl, rfl, rfl, rfl, rfl⟩ rfl rfl rfl rfl rfl (by kernel_rfl) Tryd.func8 (by kernel_rfl)
    (of_decide_eq_true (by kernel_rfl)) (by unfold Func.isWrapper; first | (rw [if_pos (by decide +kernel)]; kernel_rfl) | (rw [if_neg (by decide +kernel)]; exact ⟨rfl, rfl⟩))
    (fun os started H enc _ => drbgScalars_lifted os started H enc)

theorem DrbgScalars_proved : Rows.DrbgScalarsCardSaid := by
  unfold Rows.DrbgScalarsCardSaid Rows.drbgScalarsCard
  exact Claim7.holds_tied_plain_at .later [] [.data, .data] true _ false
    drbgScalars_row (fun _ h => by cases h) (by kernel_rfl) (fun _ h => by cases h) drbgScalars_row_tie rfl ⟨rfl, rfl⟩ (by kernel_rfl) rfl
    (fun f fn hf hfn => by
      obtain rfl : f = 8 := Option.some.inj ((show Tryd.prog.funcNamed "sandglass/sandglasslaw29.DrbgScalars" = some 8 by kernel_rfl).symm.trans hf) |>.symm
      obtain rfl : fn = Tryd.f8 := (Option.some.inj (Tryd.func8.symm.trans hfn)).symm
      exact ⟨by kernel_rfl, fun j t ht => by
        have hp : Tryd.f8.params = #[9, 3] := by kernel_rfl
        rw [hp] at ht
        have hm : t ∈ [9, 3] := by simpa using Array.mem_of_getElem? ht
        have hall : ([9, 3].all fun u => !Tryd.prog.wantsStandIn u) = true := by kernel_rfl
        exact (show Tryd.prog.wantsStandIn t = false by simpa using List.all_eq_true.1 hall t hm)⟩)
    (by kernel_rfl)

end Go.Proofs.YtpnpfihjlobonaaDoor
