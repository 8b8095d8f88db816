/- Walks through the functions of the sha package: a sum of nothing, the sum of what was taken, a text's sum. It has no conditions. -/
import Derived.Test.YtpnpfihjlobonaaDoorSha5
import Derived.Test.YtpnpfihjlobonaaDoorFin
namespace Go.Proofs.YtpnpfihjlobonaaDoor
open Go.Eng Go.RowKit
set_option maxRecDepth 1000000
set_option maxHeartbeats 4000000
set_option linter.unusedSimpArgs false
set_option linter.unusedVariables false

/-! A sum of nothing. -/

def newH (A : Ar) (N : Ap) : HF := fun args h => match args, h with
  | [], [⟨.ints kr R, br⟩, _] => ⟨Nat.beq (kn kr) (kn .u32) && (liveK br && ap1 N isFirst R), .ptr 2 0, [], [⟨.cat 8 (.ints .u32 firstL) (.lit [.row 3 0, .int .u64 0]), .var⟩, ⟨.ints .u8 [], .ro⟩]⟩
  | _, _ => ⟨false, .bad, [], []⟩

theorem new_vc (A : Ar) (N : Ap) (L : LP) (R : List Int) (hA : A = std) (hR : R = firstL) (FL : List Int) (hFL : FL = firstL) (nw : List Blk) (hnw : nw = [⟨.cat 8 (.ints .u32 FL) (.lit [.row 3 0, .int .u64 0]), .var⟩, ⟨.ints .u8 [], .ro⟩])
    (K : Bool → SV → List Blk → Prop) (hK : K = FinH 2 (.ptr 2 0) [] nw (uniR 2 (.ptr 2 0) [] nw)) :
    Shut (afun (cxg A L [] []) Tryd.f50 [] [⟨.ints .u32 R, .ro⟩, .nil] K) := by
  obtain ⟨fi, fc, fw, fb, fn, fo, fs, fa, fe, fz, fy, ff, fl, fq, gadd, gsub, gmul, gmin, hlen', hget, hset⟩ := A
  have e2 : fl = fun a b => decide (a ≤ b) := by cases hA; rfl
  have e3 : gadd = fun a b => a + b := by cases hA; rfl
  have eR : hlen' R = 8 := by cases hA; rw [hR]; rfl
  have eF : [hget R 0, hget R 1, hget R 2, hget R 3, hget R 4, hget R 5, hget R 6, hget R 7] = FL := by cases hA; rw [hR, hFL]; rfl
  apply Shut.mk
  cbv
  simp only [e3, eR, e2]
  rw [hnw] at hK
  rw [hK]
  cbv
  simp only [eF]
  trivial

theorem hcon_new : HCon Tryd.prog [0, 1] 50 (newH std apStd) := by
  refine hcon_shut Tryd.func50 rfl (by kernel_rfl) (fun args h v ch nw hF m us w H hv => ?_)
  unfold newH at hF
  split at hF
  · rename_i kr R br b1
    simp only [HR.mk.injEq, Bool.and_eq_true] at hF
    obtain ⟨⟨h1, h2, h3⟩, rfl, rfl, rfl⟩ := hF
    have h1 := kn_eq h1
    subst h1
    have h3 : R = firstL := of_decide_eq_true h3
    refine ⟨_, [], _, goodg (base := 2) (l := []) (d := []) dy0 (by decide) (by simp) (by simp), rfl, by kernel_rfl, hv, Nat.zero_le _,
      ?_, rfl, by simp, new_vc std apStd (ALoop 2) R rfl h3 firstL rfl _ rfl _ rfl⟩
    exact ⟨⟨kOk_ro h2, rfl, rfl⟩, trivial, trivial⟩
  · simp at hF

/-! The sum of what was taken. -/

def endH (A : Ar) (N : Ap) : HF := fun args h => match args, h with
  | [.ptr id 0], [_, ⟨.ints kr R, br⟩, ⟨st, bs⟩, ⟨.ints k l, bk⟩] => match stOf st with
    | some (H, .row id2 wl, nv) => match nv.u64 with
      | some n => ⟨Nat.beq id 2 && (Nat.beq id2 3 && (Nat.beq (kn k) (kn .u8) && (Nat.beq (kn kr) (kn .u32) && (A.neq wl (A.ilen l) && (A.nle (A.ilen l) 63 && (liveK bk && (liveK br && (liveK bs && (ap1 N isRounds R && A.neq (A.ilen H) 8))))))))),
        .str (ap3 N endN H l n), [], []⟩
      | none => ⟨false, .bad, [], []⟩
    | _ => ⟨false, .bad, [], []⟩
  | _, _ => ⟨false, .bad, [], []⟩

theorem end_vc (A : Ar) (N : Ap) (L : LP) (R H l : List Int) (wl : Nat) (n : Int) (hL : L = ALoop 4) (hA : A = std) (hN : N = apStd) (hR : R = roundsL) (hH : H.length = 8) (hwl : wl = l.length) (hll : l.length ≤ 63)
    (v : SV) (hv : v = .str (ap3 N endN H l n)) (K : Bool → SV → List Blk → Prop) (hK : K = FinH 4 v [] [] (uniR 4 v [] [])) :
    Shut (afun (cxg A L [] [(51, writeH A N)]) Tryd.f54 [.ptr 2 0]
      [.nil, ⟨.ints .u32 R, .ro⟩, ⟨.cat 8 (.ints .u32 H) (.lit [.row 3 wl, .int .u64 n]), .ro⟩, ⟨.ints .u8 l, .ro⟩] K) := by
  obtain ⟨fi, fc, fw, fb, fn, fo, fs, fa, fe, fz, fy, ff, fl, fq, gadd, gsub, gmul, gmin, hlen', hget, hset, happ, hisub, irep, iput', rlen, rint', rbool', rstr', rset, rapp, rsub, rrep, hmkb, hbyts⟩ := A
  have e1 : gadd 0 wl = wl := by cases hA; exact Nat.zero_add _
  have e2 : hisub l 0 wl = l := by cases hA; rw [hwl]; simp [std]
  have e3 : [hget H 0, hget H 1, hget H 2, hget H 3, hget H 4, hget H 5, hget H 6, hget H 7] = H := by cases hA; exact list_n 8 H hH
  have hq : ∀ a, fq a a = true := by cases hA; intro a; simp [std]
  have g0 : fc .geq 0 0 = true := by cases hA; rfl
  have g8 : fc .geq 8 0 = true := by cases hA; rfl
  have g16 : fc .geq 16 0 = true := by cases hA; rfl
  have g24 : fc .geq 24 0 = true := by cases hA; rfl
  have g32 : fc .geq 32 0 = true := by cases hA; rfl
  have g40 : fc .geq 40 0 = true := by cases hA; rfl
  have g48 : fc .geq 48 0 = true := by cases hA; rfl
  have g56 : fc .geq 56 0 = true := by cases hA; rfl
  obtain ⟨z, hz⟩ : ∃ z, z = fn (fi .rem .i64 (fi .sub .i64 119 (fo wl)) 64) := ⟨_, rfl⟩
  have hzr : z = (119 - l.length) % 64 := by
    rw [hz]; cases hA
    have q : iop .sub .i64 119 (wl : Int) = ((119 - l.length : Nat) : Int) := by rw [hwl]; exact sub_nat (k := 119) (by omega) (by omega)
    show (Int.tmod (iop .sub .i64 119 (wl : Int)) 64).toNat = _
    rw [q]; rfl
  obtain ⟨m, hm⟩ : ∃ m, m = fi .shl .u64 n 3 := ⟨_, rfl⟩
  obtain ⟨pl, hpl⟩ : ∃ pl, pl = happ (happ (happ (happ (happ (happ (happ (happ (happ [128] (irep z 0)) [fw .u8 (fi .shr .u64 m 56)]) [fw .u8 (fi .shr .u64 m 48)]) [fw .u8 (fi .shr .u64 m 40)]) [fw .u8 (fi .shr .u64 m 32)]) [fw .u8 (fi .shr .u64 m 24)]) [fw .u8 (fi .shr .u64 m 16)]) [fw .u8 (fi .shr .u64 m 8)]) [fw .u8 (fi .shr .u64 m 0)] := ⟨_, rfl⟩
  have hpl' : pl = padN l.length n := by
    rw [hpl, hm]; cases hA
    rw [hzr]
    simp only [padN, be8, List.append_assoc, List.cons_append, List.nil_append]
  have hpn : gadd (gadd (gadd (gadd (gadd (gadd (gadd (gadd (gadd 1 z) 1) 1) 1) 1) 1) 1) 1) 1 = pl.length := by
    rw [hpl', padN_len]; cases hA; rw [hzr]; show 1 + _ + 1 + 1 + 1 + 1 + 1 + 1 + 1 + 1 = _; omega
  have e4 : hisub pl 0 pl.length = pl := by cases hA; simp [std]
  have e5 : hbyts (hmkb pl) = pl := by cases hA; exact byts_mkb (by rw [hpl']; exact padN_by _ _)
  have g3 : fc .geq 3 0 = true := by cases hA; rfl
  have he : fl = fun a b => decide (a ≤ b) := by cases hA; rfl
  have ha : ∀ a b, gadd a b = a + b := by cases hA; intro a b; rfl
  have hm1 : ∀ a, gmul a 1 = a := by cases hA; intro a; exact Nat.mul_one a
  have hlapp : ∀ x y, hlen' (happ x y) = gadd (hlen' x) (hlen' y) := by cases hA; intro x y; exact List.length_append
  have hlirep : ∀ n x, hlen' (irep n x) = n := by cases hA; intro n x; exact List.length_replicate
  have hl1 : ∀ x, hlen' [x] = 1 := by cases hA; intro x; rfl
  have hlL : hlen' l = wl := by cases hA; exact hwl.symm
  have hlH : hlen' H = 8 := by cases hA; exact hH
  have hlP : hlen' pl = pl.length := by cases hA; rfl
  have hpL : pl.length ≤ 72 := by rw [hpl', padN_len]; omega
  have d1 : fl (gadd wl pl.length) 70368744177664 = true := by rw [he]; exact decide_eq_true (by simp only [ha]; omega)
  have d2 : fl pl.length 140737488355328 = true := by rw [he]; exact decide_eq_true (by omega)
  have x1 : fl 1 8 = true := by cases hA; rfl
  have x2 : fc .leq 0 (fi .rem .i64 (fi .sub .i64 119 (fo wl)) 64) = true := by
    cases hA
    have q : iop .sub .i64 119 (wl : Int) = ((119 - l.length : Nat) : Int) := by rw [hwl]; exact sub_nat (k := 119) (by omega) (by omega)
    show decide ((0 : Int) ≤ Int.tmod (iop .sub .i64 119 (wl : Int)) 64) = true
    rw [q]
    exact decide_eq_true (Int.natCast_nonneg _)
  have x3 : fc .neq 64 0 = true := by cases hA; rfl
  have x4 : fc .leq (fo wl) 9223372036854775807 = true := by cases hA; exact decide_eq_true (by show (wl : Int) ≤ _; omega)
  have x5 : fl wl 140737488355328 = true := by rw [he]; exact decide_eq_true (by omega)
  have hg0 : ∀ a, gadd 0 a = a := by cases hA; intro a; exact Nat.zero_add a
  have hlr : ∀ a, fl a a = true := by cases hA; intro a; simp [std]
  have c0 : fl (gadd 0 1) 8 = true := by cases hA; rfl
  have c1 : fl (gadd 1 1) 8 = true := by cases hA; rfl
  have c2 : fl (gadd 2 1) 8 = true := by cases hA; rfl
  have c3 : fl (gadd 3 1) 8 = true := by cases hA; rfl
  have c4 : fl (gadd 4 1) 8 = true := by cases hA; rfl
  have c5 : fl (gadd 5 1) 8 = true := by cases hA; rfl
  have c6 : fl (gadd 6 1) 8 = true := by cases hA; rfl
  have c7 : fl (gadd 7 1) 8 = true := by cases hA; rfl
  have hlpl : fz (hmkb pl) = pl.length := by cases hA; exact size_mkb pl
  have hlE : ∀ x, hlen' (N (List Int) (List Int) (N (List Int) (List Int → List Int) eatH H) x) = 8 := by cases hA; subst hN; intro x; exact eatH_len hH x
  have hNR : N (List Int) Bool isRounds R = true := by subst hN; exact decide_eq_true hR
  have hz64 : z ≤ 63 := by omega
  have b0 : fl (gadd 1 z) 140737488355328 = true := by rw [he]; exact decide_eq_true (by simp only [ha]; omega)
  have b1 : fl (gadd (gadd 1 z) 1) 140737488355328 = true := by rw [he]; exact decide_eq_true (by simp only [ha]; omega)
  have b2 : fl (gadd (gadd (gadd 1 z) 1) 1) 140737488355328 = true := by rw [he]; exact decide_eq_true (by simp only [ha]; omega)
  have b3 : fl (gadd (gadd (gadd (gadd 1 z) 1) 1) 1) 140737488355328 = true := by rw [he]; exact decide_eq_true (by simp only [ha]; omega)
  have b4 : fl (gadd (gadd (gadd (gadd (gadd 1 z) 1) 1) 1) 1) 140737488355328 = true := by rw [he]; exact decide_eq_true (by simp only [ha]; omega)
  have b5 : fl (gadd (gadd (gadd (gadd (gadd (gadd 1 z) 1) 1) 1) 1) 1) 140737488355328 = true := by rw [he]; exact decide_eq_true (by simp only [ha]; omega)
  have b6 : fl (gadd (gadd (gadd (gadd (gadd (gadd (gadd 1 z) 1) 1) 1) 1) 1) 1) 140737488355328 = true := by rw [he]; exact decide_eq_true (by simp only [ha]; omega)
  have b7 : fl (gadd (gadd (gadd (gadd (gadd (gadd (gadd (gadd 1 z) 1) 1) 1) 1) 1) 1) 1) 140737488355328 = true := by rw [he]; exact decide_eq_true (by simp only [ha]; omega)
  have b8 : fl (gadd (gadd (gadd (gadd (gadd (gadd (gadd (gadd (gadd 1 z) 1) 1) 1) 1) 1) 1) 1) 1) 140737488355328 = true := by rw [he]; exact decide_eq_true (by simp only [ha]; omega)
  apply Shut.mk
  cbv
  simp only [e1, e2, e3, ← hz]
  refine lp_rounds hL 9 hL (.inr rfl) ?_
  cbv
  simp (maxSteps := 10000000) only [e1, e2, e3, ← hz, ← hm]
  simp (maxSteps := 10000000) only [← hpl, hpn, e4, e5]
  refine lp_rounds hL 9 hL (.inr rfl) ?_
  cbv
  refine finH0 hK ?_ (by rw [hv]; exact rfl) ?_
  · rw [Bool.and_eq_true]
    refine ⟨by cbv, ?_⟩
    simp (maxSteps := 10000000) only [hq, g0, g3, g8, g16, g24, g32, g40, g48, g56, hm1, hlapp, hlirep, hl1, hlL, hlH, hlP, hlpl, hlE, b0, b1, b2, b3, b4, b5, b6, b7, b8, c0, c1, c2, c3, c4, c5, c6, c7, d1, d2, hg0, hlr, hNR, x1, x2, x3, x4, x5]
  · obtain ⟨E, hE⟩ : ∃ E, E = ap3 N endN H l n := ⟨_, rfl⟩
    rw [hv, ← hE]
    cbv
    rw [hE, hpl']
    cases hA; subst hN
    simp only [ap3, apStd]
    unfold endN
    rfl

theorem u64_val {nv : SV} {n : Int} (h : nv.u64 = some n) {ρ : List RE} : (SV.int .u64 n).sb ρ nv := u64_sb h

theorem kn_live {k : BK} (h : liveK k = true) : kOk .ro k = true := kOk_ro h

theorem hcon_end : HCon Tryd.prog [0, 1] 54 (endH std apStd) := by
  refine hcon_shut Tryd.func54 rfl (by kernel_rfl) (fun args h v ch nw hF m us w H hv => ?_)
  unfold endH at hF
  split at hF
  · rename_i id b0 kr R br st bs k l bk
    split at hF
    · rename_i Hs id2 wl nv hst
      split at hF
      · rename_i n hn
        simp only [HR.mk.injEq, Bool.and_eq_true] at hF
        obtain ⟨⟨h1, h2, h3, h4, h5, h6, h7, h8, h9, h10, h11⟩, rfl, rfl, rfl⟩ := hF
        have h1 : id = 2 := by simpa using h1
        have h2 : id2 = 3 := by simpa using h2
        subst h1; subst h2
        have h3 := kn_eq h3
        have h4 := kn_eq h4
        subst h3; subst h4
        have h5 : wl = l.length := by simpa [std] using h5
        have h6 : l.length ≤ 63 := by simpa [std] using h6
        have h10 : R = roundsL := of_decide_eq_true h10
        have h11 : Hs.length = 8 := by simpa [std] using h11
        refine ⟨_, [.ptr 2 0], _, goodg (base := 4) (l := []) (d := [(51, writeH std apStd)]) dy0 (by decide) (by simp) (by intro p hp; simp at hp; subst hp; exact hcon_write),
          rfl, by kernel_rfl, hv, Nat.le_of_ble_eq_true rfl, ?_, ?_, by simp,
          end_vc std apStd (ALoop 4) R Hs l wl n rfl rfl rfl h10 h11 h5 h6 _ rfl _ rfl⟩
        · exact ⟨trivial, ⟨kOk_ro h8, rfl, rfl⟩, ⟨kOk_ro h9, stOf_cat hst ⟨rfl, rfl⟩ (u64_sb hn)⟩, ⟨kOk_ro h7, rfl, rfl⟩, trivial⟩
        · rfl
      · simp at hF
    · simp at hF
  · simp at hF

/-! A text's sum. -/

def sumH (A : Ar) (N : Ap) : HF := fun args h => match args, h with
  | [.str t], [⟨.ints kf F, bf⟩, ⟨.ints kr R, br⟩] => ⟨Nat.beq (kn kf) (kn .u32) && (Nat.beq (kn kr) (kn .u32) && (liveK bf && (liveK br && (ap1 N isFirst F && (ap1 N isRounds R && A.nle (A.size t) 35184372088832))))), .str (ap1 N sumN t), [], []⟩
  | _, _ => ⟨false, .bad, [], []⟩

theorem sum_vc (A : Ar) (N : Ap) (L : LP) (F R FL : List Int) (t : ByteArray) (hA : A = std) (hN : N = apStd) (hF : F = FL) (hFL : FL = firstL) (hR : R = roundsL) (ht : t.size ≤ 35184372088832)
    (v : SV) (hv : v = .str (ap1 N sumN t)) (K : Bool → SV → List Blk → Prop) (hK : K = FinH 2 v [] [] (uniR 2 v [] [])) :
    Shut (afun (cxg A L [] [(50, newH A N), (51, writeH A N), (54, endH A N)]) Tryd.f49 [.str t] [⟨.ints .u32 F, .ro⟩, ⟨.ints .u32 R, .ro⟩] K) := by
  obtain ⟨fi, fc, fw, fb, fn, fo, fs, fa, fe, fz, fy, ff, fl, fq, gadd, gsub, gmul, gmin, hlen', hget, hset, happ, hisub, irep, iput', rlen, rint', rbool', rstr', rset, rapp, rsub, rrep, hmkb, hbyts⟩ := A
  have he : fl = fun a b => decide (a ≤ b) := by cases hA; rfl
  have hq : ∀ a, fq a a = true := by cases hA; intro a; simp [std]
  have hNF : N (List Int) Bool isFirst F = true := by subst hN; exact decide_eq_true (hF.trans hFL)
  have hNR : N (List Int) Bool isRounds R = true := by subst hN; exact decide_eq_true hR
  obtain ⟨E, hE⟩ : ∃ E, E = ap1 N sumN t := ⟨_, rfl⟩
  have l1 : hlen' [] = 0 := by cases hA; rfl
  have l2 : ∀ x, hlen' (N (List Int) (List Int) (N (List Int) (List Int → List Int) eatH [1779033703, 3144134277, 1013904242, 2773480762, 1359893119, 2600822924, 528734635, 1541459225]) x) = 8 := by
    cases hA; subst hN; intro x; exact eatH_len (H := firstL) rfl x
  have l3 : fl (hlen' (N (List Int) (List Int) eatR (happ [] (hbyts t)))) 63 = true := by
    cases hA; subst hN
    exact decide_eq_true (Nat.le_of_lt_succ (eatR_len _))
  have l4 : fl (gadd 0 (fz t)) 70368744177664 = true := by cases hA; exact decide_eq_true (by show 0 + t.size ≤ _; omega)
  have l5 : fq 0 0 = true := hq 0
  have l6 : hlen' [1779033703, 3144134277, 1013904242, 2773480762, 1359893119, 2600822924, 528734635, 1541459225] = 8 := by cases hA; rfl
  apply Shut.mk
  cbv
  refine finH0 hK ?_ (by rw [hv]; exact rfl) ?_
  · rw [Bool.and_eq_true]
    refine ⟨by cbv, ?_⟩
    simp (maxSteps := 10000000) only [hq, hNF, hNR, l1, l2, l3, l4, l5, l6]
  · rw [hv, ← hE]
    cbv
    rw [hE]
    cases hA; subst hN
    simp only [ap1, apStd]
    unfold sumN
    rfl

theorem hcon_sum : HCon Tryd.prog [0, 1] 49 (sumH std apStd) := by
  refine hcon_shut Tryd.func49 rfl (by kernel_rfl) (fun args h v ch nw hF m us w H hv => ?_)
  unfold sumH at hF
  split at hF
  · rename_i t kf F bf kr R br
    simp only [HR.mk.injEq, Bool.and_eq_true] at hF
    obtain ⟨⟨h1, h2, h3, h4, h5, h6, h7⟩, rfl, rfl, rfl⟩ := hF
    have h1 := kn_eq h1
    have h2 := kn_eq h2
    subst h1; subst h2
    have h5 : F = firstL := of_decide_eq_true h5
    have h6 : R = roundsL := of_decide_eq_true h6
    have h7 : t.size ≤ 35184372088832 := by simpa [std] using h7
    refine ⟨_, [.str t], _, goodg (base := 2) (l := []) (d := [(50, newH std apStd), (51, writeH std apStd), (54, endH std apStd)]) dy0 (by decide) (by simp)
        (by intro p hp; simp at hp; rcases hp with rfl | rfl | rfl; exact hcon_new; exact hcon_write; exact hcon_end),
      rfl, by kernel_rfl, hv, Nat.le_of_ble_eq_true rfl, ?_, ?_, by simp,
      sum_vc std apStd (ALoop 2) F R firstL t rfl rfl h5 rfl h6 h7 _ rfl _ rfl⟩
    · exact ⟨⟨kOk_ro h3, rfl, rfl⟩, ⟨kOk_ro h4, rfl, rfl⟩, trivial⟩
    · rfl
  · simp at hF

/-- What hands back true, where the two tables are as they are laid. -/
def trueH (N : Ap) : HF := fun args h => match args, h with
  | [], [⟨.ints kf F, bf⟩, ⟨.ints kr R, br⟩] => ⟨Nat.beq (kn kf) (kn .u32) && (Nat.beq (kn kr) (kn .u32) && (liveK bf && (liveK br && (ap1 N isFirst F && ap1 N isRounds R)))), .bool true, [], []⟩
  | _, _ => ⟨false, .bad, [], []⟩

def SV.i64 : SV → Option Int
  | .int .i64 n => some n
  | .num .i64 n => some n
  | _ => none

theorem i64_of {x : SV} {n : Int} (h : SV.i64 x = some n) {u : Value} {m : List Pl} (hv : x.val m = some u) : (SV.int .i64 n).val m = some u ∧ x.idsLt 0 = true := by
  unfold SV.i64 at h
  split at h
  · cases h; exact ⟨hv, rfl⟩
  · cases h; exact ⟨hv, rfl⟩
  · cases h

theorem args_i64 {x : SV} {a : Int} (hx : SV.i64 x = some a) {us : List Value} (hv : SV.vals [] [x] = some us) : SV.vals [] [.int .i64 a] = some us := by
  simp only [SV.vals, Option.bind_eq_some_iff, Option.map_eq_some_iff] at hv ⊢
  obtain ⟨u, hu, r, hr, rfl⟩ := hv
  exact ⟨u, (i64_of hx hu).1, r, hr, rfl⟩

end Go.Proofs.YtpnpfihjlobonaaDoor
