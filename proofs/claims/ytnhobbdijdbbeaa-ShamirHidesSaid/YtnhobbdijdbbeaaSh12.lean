/- The examples of the chapter on shares. It has no conditions. -/
import Derived.Test.YtnhobbdijdbbeaaSh11
import Derived.Test.YtnhobbdijdbbeaaNorm2
namespace Go.Proofs.Ytnhobbdijdbbeaa
open Go.Eng Go.RowKit
set_option maxRecDepth 1000000
set_option maxHeartbeats 4000000
set_option linter.unusedSimpArgs false
set_option linter.unusedVariables false

/-- A contract for rows serves a slice that is nil. -/
def nilsF (ks : List CK) (F : HF) : HF := fun args h => match args, h with
  | [.nils], [] => (match F [.row 0 0] [⟨.recs ks [], .ro⟩] with
    | ⟨ok, v, [], []⟩ => ⟨ok && v.idsLt 0, v, [], []⟩
    | _ => ⟨false, .bad, [], []⟩)
  | _, _ => F args h

theorem hcon_nils {P : Program} {f : FuncId} {F : HF} (ks : List CK) (hF : HCon P [] f F) : HCon P [] f (nilsF ks F) := by
  intro args h v ch nw hE m us w H hv hg
  unfold nilsF at hE
  split at hE
  · split at hE
    · rename_i ok v' hF'
      simp only [HR.mk.injEq, Bool.and_eq_true] at hE
      obtain ⟨⟨rfl, h0⟩, rfl, rfl, rfl⟩ := hE
      have hm : m = [] := by have := H.len; exact List.length_eq_zero_iff.1 this
      subst hm
      have T : HTie [nilPl] [⟨.recs ks [], .ro⟩] w := by
        refine ⟨rfl, fun i p b hp hb hd => ?_, fun i j p q b c hne hp hq hb hc h1 h2 h3 h4 h5 => ?_⟩
        · cases i with
          | succ i => simp at hp
          | zero =>
            simp only [List.getElem?_cons_zero, Option.some.injEq] at hp hb
            subst hp; subst hb
            have hz : (Cs.recs ks []).size = 0 := by simp [Cs.size]
            exact ⟨trivial, fun _ => ⟨hz, rfl, by simp⟩, fun e => by simp [nilPl] at e, fun i hi => by rw [hz] at hi; omega, fun e => by simp [BK.wr] at e, fun e => by simp [BK.wr] at e, fun es e => by simp at e, fun es e => by simp at e⟩
        · cases i with
          | succ i => simp at hp
          | zero =>
            simp only [List.getElem?_cons_zero, Option.some.injEq] at hp
            subst hp
            simp [nilPl] at h3
      have hv' : SV.vals [nilPl] [.row 0 0] = some us := by
        simp only [SV.vals, SV.val] at hv ⊢
        exact hv
      obtain ⟨fn, c1, c2, c3, c4⟩ := hF _ _ _ _ _ hF' [nilPl] us w T hv' (fun i g hx => by simp at hx)
      refine ⟨fn, c1, c2, c3, c4.mono ?_⟩
      rintro e w' ⟨u, m2, rfl, e1, e2⟩
      have hm2 : m2 = [] := by
        have := e2.tie.len
        simpa [actB] using this
      subst hm2
      refine ⟨u, [], rfl, val_free h0 e1, ⟨⟨rfl, fun i p b hp hb hd => by simp at hp, fun i j p q b c hne hp => by simp at hp⟩, e2.os, e2.tape, e2.output, e2.size, fun b hb' hk => ?_, fun j q c hq => by simp at hq, fun j q c hq => by simp at hq⟩⟩
      exact e2.kept b hb' (fun k p c hk1 => by simp at hk1)
    · simp at hE
  · exact hF args h v ch nw hE m us w H hv hg

abbrev shr (a v : Int) : List Sc := [.int .i64 a, .int .u64 v, .int .u64 0, .int .u64 0, .int .u64 0]
abbrev nmr (v : Int) : List Sc := [.int .u64 v, .int .u64 0, .int .u64 0, .int .u64 0]
theorem a_joK : joK [shr 2 11, shr 1 8] = 5 := by decide +kernel
theorem a_joE : joE [shr 2 11, shr 1 8] = 0 := by decide +kernel
theorem a_wtC : wtC [1, 2] = 2 := by decide +kernel
theorem a_wtE : wtE [1, 2] = 0 := by decide +kernel
theorem a_shC : shC 3 = 3 := by decide +kernel
theorem a_ev : evL [nmr 5, nmr 3] (-4) = 5 := by decide +kernel
theorem a_shR : rowsEq (shR [nmr 5, nmr 3] 3) [shr 1 8, shr 2 11, shr 3 14] = true := by decide +kernel
theorem a_wtL : rowsEq (wtL [1, 2]) [nmr 2, numR (qN - 1)] = true := by decide +kernel
theorem a_m : subm (num4 17562291160714782033 13611842547513532036 18446744073709551615 18446744069414584320) (num4 1 0 0 0) = qN - 1 := by decide +kernel
theorem a_rW : rowsW [nmr 5, nmr 3] = true := by decide +kernel

def shAwL (N : Ap) : Pure := [(37, subF N), (38, nul0F sqV)]
def shAwD (A : Ar) (N : Ap) : Heap := [(16, norm1 0 k4 (sharesH A N)), (21, nilsF kS (norm1 0 kS (joinH A N))), (18, normI 0 .i64 (weightsH A N)), (13, norm1 0 k4 (evalH A N)),
  (15, norm1 1 kS (sameH kS A N)), (20, norm1 1 k4 (sameH k4 A N))]

theorem shAwake_vc (A : Ar) (N : Ap) (L : LP) (hA : A = std) (hN : N = apStd) (K : Bool → SV → List Blk → Prop) (hK : K = FinH 0 (.bool true) [] [] (uniR 0 (.bool true) [] [])) :
    Shut (afun (cxs A L (shAwL N) (shAwD A N) [15, 20, 13]) Try.f12 [] [] K) := by
  obtain ⟨fi, fc, fw, fb, fn, fo, fs, fa, fe, fz, fy, ff, fl, fq, gadd, gsub, gmul, gmin, hlen', hget, hset, happ, hisub, irep, iput', rlen, rint', rbool', rstr', rset, rapp, rsub, rrep, hmkb, hbyts, imn, imx⟩ := A
  have f1 : ap1 N joK [shr 2 11, shr 1 8] = 5 := by subst hN; rw [ap1_std]; exact a_joK
  have f2 : ap1 N joE [shr 2 11, shr 1 8] = 0 := by subst hN; rw [ap1_std]; exact a_joE
  have f3 : ap1 N wtC [1, 2] = 2 := by subst hN; rw [ap1_std]; exact a_wtC
  have f4 : ap1 N wtE [1, 2] = 0 := by subst hN; rw [ap1_std]; exact a_wtE
  have f5 : ap1 N shC 3 = 3 := by subst hN; rw [ap1_std]; exact a_shC
  have f6 : ap2 N evL [nmr 5, nmr 3] (-4) = 5 := by subst hN; rw [ap2_std]; exact a_ev
  have f7 : ap2 N shR [nmr 5, nmr 3] 3 = [shr 1 8, shr 2 11, shr 3 14] := by subst hN; rw [ap2_std]; exact rowsEq_eq a_shR
  obtain ⟨M, hM⟩ : ∃ y, ap2 N subm (ap4 N num4 17562291160714782033 13611842547513532036 18446744073709551615 18446744069414584320) (ap4 N num4 1 0 0 0) = y := ⟨_, rfl⟩
  have eM : M = qN - 1 := by rw [← hM]; subst hN; rw [ap2_std, ap4_std, ap4_std]; exact a_m
  have f8 : ap1 N wtL [1, 2] = [nmr 2, [.int .u64 (ap1 N l0 M), .int .u64 (ap1 N l1 M), .int .u64 (ap1 N l2 M), .int .u64 (ap1 N l3 M)]] := by subst hN; rw [ap1_std, ap1_std, ap1_std, ap1_std, ap1_std, eM]; exact rowsEq_eq a_wtL
  have hrr : ∀ X, ap2 N rowsEq X X = true := by intro X; subst hN; rw [ap2_std]; exact rowsEq_refl X
  have f9 : ap1 N rowsW [nmr 5, nmr 3] = true := by subst hN; rw [ap1_std]; exact a_rW
  have f10 : ap1 N joK [] = 0 := by subst hN; rfl
  have f11 : ap1 N joE [] = 1 := by subst hN; rfl
  have g0 : N Int Int l0 5 = 5 := by subst hN; rfl
  have g1 : N Int Int l1 5 = 0 := by subst hN; rfl
  have g2 : N Int Int l2 5 = 0 := by subst hN; rfl
  have g3 : N Int Int l3 5 = 0 := by subst hN; rfl
  have c0 : fc .eql 0 0 = true := by cases hA; rfl
  have c1 : fc .eql 1 1 = true := by cases hA; rfl
  have c5 : fc .eql 5 5 = true := by cases hA; rfl
  have lr : ∀ n, fl n 1000000 = decide (n ≤ 1000000) := by cases hA; intro n; rfl
  have qr : ∀ a b, fq a b = decide (a = b) := by cases hA; intro a b; rfl
  have hh : ∀ l, hlen' l = l.length := by cases hA; intro l; rfl
  have hr : ∀ l, rlen l = l.length := by cases hA; intro l; rfl
  simp only [ap1, ap2, ap4, shr, nmr] at f1 f2 f3 f4 f5 f6 f7 f8 f9 f10 f11 hM hrr
  apply Shut.mk
  cbv
  repeat (simp only [f1, f2, f3, f4, f5, f6, f7, f8, f9, f10, f11, hM, hrr, g0, g1, g2, g3, c0, c1, c5]; cbv)
  refine finH0 hK ?_ rfl rfl
  rw [Bool.and_eq_true]
  refine ⟨by cbv, ?_⟩
  simp only [f1, f2, f3, f4, f5, f6, f7, f8, f9, f10, f11, hM, hrr, lr, qr, hh, hr]
  rfl

theorem shAwL_ok : ∀ p ∈ shAwL apStd, Con Try.prog p.1 p.2 := by
  intro p hp
  simp only [shAwL, List.mem_cons, List.not_mem_nil, or_false] at hp
  rcases hp with rfl | rfl
  · exact con_refSub
  · exact con_srOrder
theorem shAwD_ok : ∀ p ∈ shAwD std apStd, HCon Try.prog [] p.1 p.2 := by
  intro p hp
  simp only [shAwD, List.mem_cons, List.not_mem_nil, or_false] at hp
  rcases hp with rfl | rfl | rfl | rfl | rfl | rfl
  · exact hcon_norm1 0 k4 hcon_hshares
  · exact hcon_nils kS (hcon_norm1 0 kS hcon_join)
  · exact hcon_normI 0 .i64 hcon_weights
  · exact hcon_norm1 0 k4 hcon_hev
  · exact hcon_norm1 1 kS hcon_same
  · exact hcon_norm1 1 k4 hcon_nums

/-- The examples are so: no block is looked at. -/
def shTrueH : HF := fun args h => match args, h with
  | [], [] => ⟨true, .bool true, [], []⟩
  | _, _ => ⟨false, .bad, [], []⟩
theorem hcon_shAwake : HCon Try.prog [] 12 shTrueH := by
  refine hcon_shut Try.func12 rfl (by kernel_rfl) (fun args h x ch nw hF m us w H hv => ?_)
  unfold shTrueH at hF
  split at hF
  · simp only [HR.mk.injEq] at hF
    obtain ⟨-, rfl, rfl, rfl⟩ := hF
    exact ⟨_, [], [], goods (base := 0) shAwL_ok shAwD_ok (q := [15, 20, 13]),
      rfl, by kernel_rfl, hv, Nat.zero_le _, trivial, rfl, by simp, shAwake_vc std apStd (ALoop 0) rfl rfl _ rfl⟩
  · simp at hF

end Go.Proofs.Ytnhobbdijdbbeaa
