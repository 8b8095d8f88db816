/- Walks through the reference of the drbg package: update, a new one, a text more. It has no conditions. -/
import Derived.Test.YtpnpfihjlobonaaDoorDr5
import Derived.Test.YtpnpfihjlobonaaDoorHr2
namespace Go.Proofs.YtpnpfihjlobonaaDoor
open Go.Eng Go.RowKit
set_option maxRecDepth 1000000
set_option maxHeartbeats 4000000
set_option linter.unusedSimpArgs false
set_option linter.unusedVariables false

/-- A generator of the reference. -/
def rD (k v : ByteArray) (a : Int) : SV := .agg [.str k, .str v, .int .i64 a]

def rupdF (A : Ar) (N : Ap) : List SV → Bool × SV
  | [.agg [.str k, .str v, x], .str s] => match SV.i64 x with
    | some a => (A.nle (A.size k) 64 && (A.nle (A.size v) 64 && A.nle (A.size s) 17592186044316), rD (ap3 N updK k v s) (ap3 N updV k v s) a)
    | none => (false, .bad)
  | _ => (false, .bad)

theorem rupd_vc (A : Ar) (N : Ap) (L : LP) (k v s : ByteArray) (a : Int) (hA : A = std) (hN : N = apStd) (hk : k.size ≤ 64) (hv : v.size ≤ 64) (hs : s.size ≤ 17592186044316)
    (x : SV) (hx : x = rD (ap3 N updK k v s) (ap3 N updV k v s) a) (K : Bool → SV → List Blk → Prop) (hK : K = FinP x) :
    Shut (afun (cx A L [(14, rmacF A N)]) Tryd.f46 [.agg [.str k, .str v, .int .i64 a], .str s] [] K) := by
  have hne : ∀ s, A.scmp .neq s ⟨⟨[]⟩⟩ = true → s ≠ ByteArray.empty := by subst hA; exact fun s h => neq_t h
  have hne' : ∀ s, A.scmp .neq s ⟨⟨[]⟩⟩ = false → s = ByteArray.empty := by subst hA; exact fun s h => neq_f h
  obtain ⟨K2, hK2⟩ : ∃ x, x = ap3 N updK k v s := ⟨_, rfl⟩
  obtain ⟨V2, hV2⟩ : ∃ x, x = ap3 N updV k v s := ⟨_, rfl⟩
  obtain ⟨fi, fc, fw, fb, fn, fo, fs, fa, fe, fz, fy, ff, fl, fq, gadd, gsub, gmul, gmin, hlen', hget, hset, happ, hisub, irep, iput', rlen, rint', rbool', rstr', rset, rapp, rsub, rrep, hmkb, hbyts⟩ := A
  dsimp only at hne hne'
  have hx' : x = rD K2 V2 a := by rw [hx, hK2, hV2]
  obtain ⟨K1, hK1⟩ : ∃ x, x = ap4 N mixN k v 0 s := ⟨_, rfl⟩
  obtain ⟨V1, hV1⟩ : ∃ x, x = ap2 N macN K1 v := ⟨_, rfl⟩
  have sK : K1.size = 32 := by rw [hK1]; subst hN; simp only [apStd, ap4]; unfold mixN; exact macN_size _ _
  have sV : V1.size = 32 := by rw [hV1]; subst hN; simp only [apStd, ap2]; exact macN_size _ _
  have m0 : ∀ k v, N ByteArray ByteArray (N ByteArray (ByteArray → ByteArray) rmacN k) (fa (fa v ⟨⟨[0]⟩⟩) s) = ap4 N mixN k v 0 s := by
    cases hA; subst hN; intro k v; simp only [apStd, ap4]; unfold mixN; rw [mac_eq]; rfl
  have m1 : ∀ k v, N ByteArray ByteArray (N ByteArray (ByteArray → ByteArray) rmacN k) (fa (fa v ⟨⟨[1]⟩⟩) s) = ap4 N mixN k v 1 s := by
    cases hA; subst hN; intro k v; simp only [apStd, ap4]; unfold mixN; rw [mac_eq]; rfl
  have m2 : ∀ k v, N ByteArray ByteArray (N ByteArray (ByteArray → ByteArray) rmacN k) v = ap2 N macN k v := by
    subst hN; intro k v; simp only [apStd, ap2]; exact (mac_eq k v).symm
  have e1 := (m0 k v).trans hK1.symm
  have e2 := (m2 K1 v).trans hV1.symm
  have c1 : fl (fz k) 17592186044416 = true := by cases hA; exact decide_eq_true (by show k.size ≤ _; omega)
  have c2 : fl (fz v) 17592186044416 = true := by cases hA; exact decide_eq_true (by show v.size ≤ _; omega)
  have c3 : fl (fz (fa (fa v ⟨⟨[0]⟩⟩) s)) 17592186044416 = true := by cases hA; exact decide_eq_true (by show (v ++ (⟨⟨[0]⟩⟩ : ByteArray) ++ s).size ≤ _; rw [size_app, size_app]; show v.size + 1 + s.size ≤ _; omega)
  have c4 : fl (fz (fa (fa V1 ⟨⟨[1]⟩⟩) s)) 17592186044416 = true := by cases hA; exact decide_eq_true (by show (V1 ++ (⟨⟨[1]⟩⟩ : ByteArray) ++ s).size ≤ _; rw [size_app, size_app]; show V1.size + 1 + s.size ≤ _; omega)
  have c5 : fl (fz K1) 17592186044416 = true := by cases hA; exact decide_eq_true (by show K1.size ≤ _; omega)
  have c6 : fl (fz V1) 17592186044416 = true := by cases hA; exact decide_eq_true (by show V1.size ≤ _; omega)
  have f1 : ff v ⟨⟨[0]⟩⟩ = true := by cases hA; exact decide_eq_true (by show ((v.size + 1 : Nat) : Int) ≤ 9223372036854775807; omega)
  have f2 : ff (fa v ⟨⟨[0]⟩⟩) s = true := by cases hA; exact decide_eq_true (by show (((v ++ (⟨⟨[0]⟩⟩ : ByteArray)).size + s.size : Nat) : Int) ≤ 9223372036854775807; rw [size_app]; show ((v.size + 1 + s.size : Nat) : Int) ≤ _; omega)
  have f3 : ff V1 ⟨⟨[1]⟩⟩ = true := by cases hA; exact decide_eq_true (by show ((V1.size + 1 : Nat) : Int) ≤ 9223372036854775807; omega)
  have f4 : ff (fa V1 ⟨⟨[1]⟩⟩) s = true := by cases hA; exact decide_eq_true (by show (((V1 ++ (⟨⟨[1]⟩⟩ : ByteArray)).size + s.size : Nat) : Int) ≤ 9223372036854775807; rw [size_app]; show ((V1.size + 1 + s.size : Nat) : Int) ≤ _; omega)
  apply Shut.mk
  cbv
  simp (maxSteps := 10000000) only [e1, e2]
  cases h1 : fs .neq s ⟨⟨[]⟩⟩ <;> cbv
  · have h2 := hne' s h1
    have p1 : K2 = K1 := by rw [hK2, hK1]; subst hN; simp only [apStd, ap3, ap4]; exact if_pos h2
    have p2 : V2 = V1 := by rw [hV2, hV1, hK1]; subst hN; simp only [apStd, ap2, ap3, ap4]; exact if_pos h2
    simp (maxSteps := 10000000) only [e1, e2]
    refine fin_of hK ?_ ?_ ?_
    · cbv
      simp (maxSteps := 10000000) only [e1, e2, c1, c2, c3, c4, c5, c6, f1, f2, f3, f4]
    · cbv
    · rw [hx', p1, p2]
      cbv
  · have h2 := hne s h1
    have p1 : K2 = ap4 N mixN K1 V1 1 s := by rw [hK2, hV1, hK1]; subst hN; simp only [apStd, ap2, ap3, ap4]; exact if_neg h2
    have p2 : V2 = ap2 N macN K2 V1 := by rw [hV2, p1, hV1, hK1]; subst hN; simp only [apStd, ap2, ap3, ap4]; exact if_neg h2
    have e3 := (m1 K1 V1).trans p1.symm
    have e4 := (m2 K2 V1).trans p2.symm
    have sK2 : K2.size = 32 := by rw [hK2]; subst hN; simp only [apStd, ap3]; exact updK_size _ _ _
    have c7 : fl (fz K2) 17592186044416 = true := by cases hA; exact decide_eq_true (by show K2.size ≤ _; omega)
    simp (maxSteps := 10000000) only [e1, e2, e3, e4]
    refine fin_of hK ?_ ?_ ?_
    · cbv
      simp (maxSteps := 10000000) only [e1, e2, e3, e4, c1, c2, c3, c4, c5, c6, c7, f1, f2, f3, f4]
    · cbv
    · rw [hx']
      cbv

theorem con_rupd : Con Tryd.prog 46 (rupdF std apStd) := by
  refine con_shut Tryd.func46 rfl (by kernel_rfl) (fun args x us hF hv => ?_) (fun args x hF => ?_)
  · unfold rupdF at hF
    split at hF
    · rename_i k v y s
      split at hF
      · rename_i a hy
        simp only [Prod.mk.injEq, Bool.and_eq_true] at hF
        obtain ⟨⟨h1, h2, h3⟩, hF⟩ := hF
        have h1 : k.size ≤ 64 := by simpa [std] using h1
        have h2 : v.size ≤ 64 := by simpa [std] using h2
        have h3 : s.size ≤ 17592186044316 := by simpa [std] using h3
        have hv' : SV.vals [] [.agg [.str k, .str v, .int .i64 a], .str s] = some us := by
          unfold SV.i64 at hy
          split at hy <;> first | (cases hy; exact hv) | cases hy
        exact ⟨_, _, good (by intro p hp; simp at hp; subst hp; exact con_rmac), rfl, by kernel_rfl, hv', Nat.le_of_ble_eq_true rfl, rupd_vc std apStd (ALoop 0) k v s a rfl rfl h1 h2 h3 x hF.symm (FinP x) rfl⟩
      · cases hF
    · cases hF
  · unfold rupdF at hF
    split at hF
    · rename_i k v y s
      split at hF
      · rename_i a hy
        have : y.idsLt 0 = true := by unfold SV.i64 at hy; split at hy <;> first | rfl | cases hy
        simp [SV.idsLts, this, SV.idsLt]
      · cases hF
    · cases hF

end Go.Proofs.YtpnpfihjlobonaaDoor
