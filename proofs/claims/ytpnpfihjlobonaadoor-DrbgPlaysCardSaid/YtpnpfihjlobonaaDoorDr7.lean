/- Walks through the reference of the drbg package: a new one, a text more. It has no conditions. -/
import Derived.Test.YtpnpfihjlobonaaDoorDr6
namespace Go.Proofs.YtpnpfihjlobonaaDoor
open Go.Eng Go.RowKit
set_option maxRecDepth 1000000
set_option maxHeartbeats 4000000
set_option linter.unusedSimpArgs false
set_option linter.unusedVariables false

def agN (b : Int) : ByteArray := mkb (List.replicate 32 b)

def againF (A : Ar) (N : Ap) : List SV → Bool × SV
  | [x, y] => match SV.u8 x with
    | some b => (match SV.i64 y with
      | some n => (A.icmp .eql n 32, .str (ap1 N agN b))
      | none => (false, .bad))
    | none => (false, .bad)
  | _ => (false, .bad)

theorem again_vc (A : Ar) (N : Ap) (L : LP) (b : Int) (hL : L = ALoop 0) (hA : A = std) (hN : N = apStd) (x : SV) (hx : x = .str (ap1 N agN b)) (K : Bool → SV → List Blk → Prop) (hK : K = FinP x) :
    Shut (afun (cx A L []) Tryd.f47 [.int .u8 b, .num .i64 32] [] K) := by
  obtain ⟨fi, fc, fw, fb, fn, fo, fs, fa, fe, fz, fy, ff, fl, fq, gadd, gsub, gmul, gmin, hlen', hget, hset, happ, hisub, irep, iput', rlen, rint', rbool', rstr', rset, rapp, rsub, rrep, hmkb, hbyts⟩ := A
  have hx' : x = .str (hmkb [b, b, b, b, b, b, b, b, b, b, b, b, b, b, b, b, b, b, b, b, b, b, b, b, b, b, b, b, b, b, b, b]) := by
    rw [hx]; cases hA; subst hN; simp only [apStd, ap1]; unfold agN; rfl
  apply Shut.mk
  cbv
  refine lp_rounds hL 33 hL (.inr rfl) ?_
  cbv
  refine fin_of hK ?_ ?_ ?_
  · cbv
    cases hA
    rfl
  · cbv
  · rw [hx']
    cbv

theorem con_again : Con Tryd.prog 47 (againF std apStd) := by
  refine con_shut Tryd.func47 rfl (by kernel_rfl) (fun args x us hF hv => ?_) (fun args x hF => ?_)
  · unfold againF at hF
    split at hF
    · rename_i x y
      split at hF
      · rename_i b hb
        split at hF
        · rename_i n hn
          simp only [Prod.mk.injEq] at hF
          obtain ⟨h1, hF⟩ := hF
          have h1 : n = 32 := by simpa [std, icmp] using h1
          subst h1
          have hv' : SV.vals [] [.int .u8 b, .num .i64 32] = some us :=
            sameV_vals (l := [x, y]) ⟨fun u hu => (u8_of hb hu).1, fun u hu => (i64_of hn hu).1, trivial⟩ hv
          exact ⟨_, _, good (by simp), rfl, by kernel_rfl, hv', Nat.le_of_ble_eq_true rfl, again_vc std apStd (ALoop 0) b rfl rfl rfl _ hF.symm (FinP _) rfl⟩
        · cases hF
      · cases hF
    · cases hF
  · unfold againF at hF
    split at hF
    · rename_i x y
      split at hF
      · rename_i b hb
        split at hF
        · rename_i n hn
          have h1 : x.idsLt 0 = true := by unfold SV.u8 at hb; split at hb <;> first | rfl | cases hb
          have h2 : y.idsLt 0 = true := by unfold SV.i64 at hn; split at hn <;> first | rfl | cases hn
          simp [SV.idsLts, h1, h2]
        · cases hF
      · cases hF
    · cases hF

def rnewF (A : Ar) (N : Ap) : List SV → Bool × SV
  | [.str s] => (A.nle (A.size s) 17592186044316, rD (ap1 N newK s) (ap1 N newV s) 0)
  | _ => (false, .bad)

theorem rnew_vc (A : Ar) (N : Ap) (L : LP) (s : ByteArray) (hA : A = std) (hN : N = apStd) (hs : s.size ≤ 17592186044316) (x : SV) (hx : x = rD (ap1 N newK s) (ap1 N newV s) 0) (K : Bool → SV → List Blk → Prop) (hK : K = FinP x) :
    Shut (afun (cx A L [(47, againF A N), (46, rupdF A N)]) Tryd.f28 [.str s] [] K) := by
  obtain ⟨K2, hK2⟩ : ∃ x, x = ap1 N newK s := ⟨_, rfl⟩
  obtain ⟨V2, hV2⟩ : ∃ x, x = ap1 N newV s := ⟨_, rfl⟩
  have hx' : x = rD K2 V2 0 := by rw [hx, hK2, hV2]
  have e1 : ap3 N updK (ap1 N agN 0) (ap1 N agN 1) s = K2 := by rw [hK2]; subst hN; simp only [apStd, ap1, ap3]; rfl
  have e2 : ap3 N updV (ap1 N agN 0) (ap1 N agN 1) s = V2 := by rw [hV2]; subst hN; simp only [apStd, ap1, ap3]; rfl
  have z : ∀ b, (ap1 N agN b).size = 32 := by intro b; subst hN; simp only [apStd, ap1]; unfold agN; rw [size_mkb, List.length_replicate]
  obtain ⟨fi, fc, fw, fb, fn, fo, fs, fa, fe, fz, fy, ff, fl, fq, gadd, gsub, gmul, gmin, hlen', hget, hset, happ, hisub, irep, iput', rlen, rint', rbool', rstr', rset, rapp, rsub, rrep, hmkb, hbyts⟩ := A
  have c1 : fc .eql 32 32 = true := by cases hA; rfl
  have c2 : ∀ b, fl (fz (ap1 N agN b)) 64 = true := by intro b; have := z b; generalize ap1 N agN b = y at this ⊢; cases hA; exact decide_eq_true (by show y.size ≤ _; omega)
  have c3 : fl (fz s) 17592186044316 = true := by cases hA; exact decide_eq_true hs
  simp only [ap1, ap3] at e1 e2 c2
  apply Shut.mk
  cbv
  simp (maxSteps := 10000000) only [e1, e2]
  refine fin_of hK ?_ ?_ ?_
  · cbv
    simp (maxSteps := 10000000) only [e1, e2, c1, c2, c3]
  · cbv
  · rw [hx']
    cbv

theorem con_rnew : Con Tryd.prog 28 (rnewF std apStd) := by
  refine con_shut Tryd.func28 rfl (by kernel_rfl) (fun args x us hF hv => ?_) (fun args x hF => ?_)
  · unfold rnewF at hF
    split at hF
    · rename_i s
      simp only [Prod.mk.injEq] at hF
      obtain ⟨h1, hF⟩ := hF
      have h1 : s.size ≤ 17592186044316 := by simpa [std] using h1
      exact ⟨_, _, good (by intro p hp; simp at hp; rcases hp with rfl | rfl; exact con_again; exact con_rupd), rfl, by kernel_rfl, hv, Nat.le_of_ble_eq_true rfl, rnew_vc std apStd (ALoop 0) s rfl rfl h1 _ hF.symm (FinP _) rfl⟩
    · cases hF
  · unfold rnewF at hF
    split at hF
    · rfl
    · cases hF

theorem rres_vc (A : Ar) (N : Ap) (L : LP) (k v s : ByteArray) (a : Int) (hk : A.nle (A.size k) 64 = true) (hv : A.nle (A.size v) 64 = true) (hs : A.nle (A.size s) 17592186044316 = true)
    (x : SV) (hx : x = rD (ap3 N updK k v s) (ap3 N updV k v s) a) (K : Bool → SV → List Blk → Prop) (hK : K = FinP x) :
    Shut (afun (cx A L [(46, rupdF A N)]) Tryd.f33 [.agg [.str k, .str v, .int .i64 a], .str s] [] K) := by
  obtain ⟨fi, fc, fw, fb, fn, fo, fs, fa, fe, fz, fy, ff, fl, fq, gadd, gsub, gmul, gmin, hlen', hget, hset, happ, hisub, irep, iput', rlen, rint', rbool', rstr', rset, rapp, rsub, rrep, hmkb, hbyts⟩ := A
  dsimp only at hk hv hs
  apply Shut.mk
  cbv
  refine fin_of hK ?_ ?_ ?_
  · cbv
    simp (maxSteps := 10000000) only [hk, hv, hs]
  · cbv
  · rw [hx]
    cbv

theorem con_rres : Con Tryd.prog 33 (rupdF std apStd) := by
  refine con_shut Tryd.func33 rfl (by kernel_rfl) (fun args x us hF hv => ?_) (fun args x hF => ?_)
  · unfold rupdF at hF
    split at hF
    · rename_i k v y s
      split at hF
      · rename_i a hy
        simp only [Prod.mk.injEq, Bool.and_eq_true] at hF
        obtain ⟨⟨h1, h2, h3⟩, hF⟩ := hF
        have hv' : SV.vals [] [.agg [.str k, .str v, .int .i64 a], .str s] = some us := by
          unfold SV.i64 at hy
          split at hy <;> first | (cases hy; exact hv) | cases hy
        exact ⟨_, _, good (by intro p hp; simp at hp; subst hp; exact con_rupd), rfl, by kernel_rfl, hv', Nat.le_of_ble_eq_true rfl, rres_vc std apStd (ALoop 0) k v s a h1 h2 h3 x hF.symm (FinP x) rfl⟩
      · cases hF
    · cases hF
  · unfold rupdF at hF
    split at hF
    · rename_i k v y s
      split at hF
      · rename_i a hy
        have : y.idsLt 0 = true := by unfold SV.i64 at hy; split at hy <;> first | rfl | cases hy
        simp [SV.idsLts, this, SV.idsLt]
      · cases hF
    · cases hF

end Go.Proofs.YtpnpfihjlobonaaDoor
