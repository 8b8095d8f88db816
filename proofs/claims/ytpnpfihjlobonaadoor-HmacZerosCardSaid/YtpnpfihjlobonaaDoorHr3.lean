/- Walks through the reference of the hmac package: so many bytes of a key. It has no conditions. -/
import Derived.Test.YtpnpfihjlobonaaDoorHr2
import Derived.Test.YtpnpfihjlobonaaDoorHm3
namespace Go.Proofs.YtpnpfihjlobonaaDoor
open Go.Eng Go.RowKit
set_option maxRecDepth 1000000
set_option maxHeartbeats 4000000
set_option linter.unusedSimpArgs false
set_option linter.unusedVariables false

theorem byts_ext (s : ByteArray) (k : Nat) : byts (s.extract 0 k) = (byts s).take k := by
  unfold byts
  rw [← List.map_take]
  congr 1
  simp [ByteArray.data_extract]

def xHd (N : Ap) (key info : ByteArray) (n : Int) : Nat → ByteArray × ByteArray × Int → St
  | _, (out, last, i) => ⟨[(0, .str key), (1, .str info), (2, .int .i64 n), (8, .ptr 2 0), (9, .str out), (10, .str last), (11, .int .i64 i)],
    [⟨.ints .u32 (ap1 N hTab 0), .ro⟩, ⟨.ints .u32 (ap1 N kTab 0), .ro⟩, ⟨.lit [.row 0 8, .row 1 64], .var⟩], true⟩
def xEx (S : St) : ByteArray × ByteArray × Int := (slotS S 9, slotS S 10, slotI S 11)
def xOk (key info : ByteArray) (M : Nat) (n : Nat) (d : ByteArray × ByteArray × Int) : Prop :=
  n ≤ M ∧ byts d.1 = exO key info (M - n) ∧ d.2.1 = exT key info (M - n) ∧ d.2.2 = ((M - n + 1 : Nat) : Int)

theorem rexpand_vc (A : Ar) (N : Ap) (L : LP) (key info : ByteArray) (n : Int) (hL : L = ALoop 0) (hA : A = std) (hN : N = apStd) (hk : key.size ≤ 17592186044416) (hi : info.size ≤ 17592186044416 - 100) (v : SV) (hv : v = .tup [.str (ap3 N expN key info n), .int .i64 (ap1 N expE n)])
    (K : Bool → SV → List Blk → Prop) (hK : K = FinP v) :
    Shut (afun (cxh A L noJ [] [(38, tableH N), (37, rwith2H A N)] [] dy0) Tryd.f18 [.str key, .str info, .int .i64 n] [] K) := by
  have hA' := hA
  obtain ⟨fi, fc, fw, fb, fn, fo, fs, fa, fe, fz, fy, ff, fl, fq, gadd, gsub, gmul, gmin, hlen', hget, hset, happ, hisub, irep, iput', rlen, rint', rbool', rstr', rset, rapp, rsub, rrep, hmkb, hbyts⟩ := A
  have k1 : N (List Int) Bool isFirst (N Int (List Int) hTab 0) = true := by subst hN; exact decide_eq_true (show firstL = firstL from rfl)
  have k2 : N (List Int) Bool isRounds (N Int (List Int) kTab 0) = true := by subst hN; exact decide_eq_true (show roundsL = roundsL from rfl)
  apply Shut.mk
  cbv
  cases h1 : fc .lss n 0 <;> cbv
  · cases h2 : fc .gtr n 8160 <;> cbv
    · have hn0 : 0 ≤ n ∧ n ≤ 8160 := by
        cases hA
        have h1 := of_decide_eq_false h1
        have h2 := of_decide_eq_false h2
        omega
      have hkk : fl (fz key) 17592186044416 = true := by cases hA; exact decide_eq_true hk
      have hle : fl = fun a b => decide (a ≤ b) := by cases hA; rfl
      have hca : ∀ x y, fz (fa x y) = fz x + fz y := by cases hA; intro x y; exact size_app x y
      have hff : ∀ x y, fz x + fz y ≤ 1000000000000000 → ff x y = true := by
        cases hA; intro x y hxy
        exact decide_eq_true (by
          show ((x.size + y.size : Nat) : Int) ≤ 9223372036854775807
          have : x.size + y.size ≤ 1000000000000000 := hxy
          omega)
      have hlf : ∀ a : Nat, fc .lss (fo a) n = decide (a < n.toNat) := by
        cases hA; intro a
        show decide ((a : Int) < n) = _
        exact decide_eq_decide.2 (by omega)
      have hzi : fz info ≤ 17592186044316 := by cases hA; exact hi
      have hz1 : ∀ x, fz (hmkb [x]) = 1 := by cases hA; intro x; exact size_mkb [x]
      obtain ⟨M, hM⟩ : ∃ M, M = exM n := ⟨_, rfl⟩
      have hMn : M = (n.toNat + 31) / 32 := by rw [hM]; unfold exM; omega
      obtain ⟨ok, hok⟩ : ∃ f, f = xOk key info M := ⟨_, rfl⟩
      refine lp_ex hL M xEx (xHd N key info n) ok ?_ ?_ hL (.inr rfl)
      · cbv
        refine ⟨?_, trivial⟩
        rw [hok]
        refine ⟨Nat.le_refl _, ?_, ?_, ?_⟩ <;> rw [Nat.sub_self] <;> rfl
      intro m hm d hd
      obtain ⟨out, last, i⟩ := d
      obtain ⟨j, hj, hO, hlast, hi'⟩ : ∃ j : Nat, j + m = M ∧ byts out = exO key info j ∧ last = exT key info j ∧ i = ((j + 1 : Nat) : Int) := by
        rw [hok] at hd
        obtain ⟨g1, g2, g3, g4⟩ := hd
        simp only at g2 g3 g4
        exact ⟨M - m, by omega, g2, g3, g4⟩
      have hM255 : M ≤ 255 := by omega
      have hOl : fz out = 32 * j := by cases hA; show out.size = _; rw [← byts_length, hO, exO_len]
      have hmx : fc .leq (fo (fz out)) 9223372036854775807 = true := by rw [hOl]; cases hA; exact decide_eq_true (by show ((32 * j : Nat) : Int) ≤ _; omega)
      cbv
      cases h5 : fc .lss (fo (fz out)) n <;> cbv
      · have hjn : n.toNat ≤ 32 * j := by
          rw [hlf, hOl] at h5
          have := of_decide_eq_false h5
          omega
        have hjM : j = M := by omega
        have c1 : fc .leq 0 n = true := by cases hA; exact decide_eq_true hn0.1
        have c2 : fl 0 (fn n) = true := by rw [hle]; exact decide_eq_true (Nat.zero_le _)
        have c3 : fl (fn n) (fz out) = true := by rw [hOl]; cases hA; exact decide_eq_true hjn
        refine fin_sb hK ?_ (by rw [hv]; exact rfl) ?_
        · cbv
          simp only [c1, c2, c3, hmx]
        · obtain ⟨E, hE⟩ : ∃ E, E = ap3 N expN key info n := ⟨_, rfl⟩
          obtain ⟨E2, hE2⟩ : ∃ E, E = ap1 N expE n := ⟨_, rfl⟩
          rw [hv, ← hE, ← hE2]
          cbv
          refine ⟨?_, ?_, trivial⟩
          · rw [hE]
            cases hA; subst hN
            simp only [ap3, apStd]
            apply byts_inj
            show byts (expN key info n) = byts (out.extract 0 n.toNat)
            rw [byts_ext, hO, hjM, hM]
            unfold expN
            rw [if_neg (by omega), byts_mkb]
            intro x hx; exact exO_by key info _ x (List.mem_of_mem_take hx)
          · rw [hE2]
            subst hN
            show expE n = 0
            unfold expE
            exact if_neg (by omega)
      · have hm0 : m ≠ 0 := by
          intro h0
          rw [hlf, hOl] at h5
          have h5 := of_decide_eq_true h5
          omega
        obtain ⟨m', rfl⟩ : ∃ m', m = m' + 1 := ⟨m - 1, by omega⟩
        have hT : N ByteArray ByteArray (N ByteArray (ByteArray → ByteArray) rmacN key) (fa (fa last info) (hmkb [fw .u8 i])) = exT key info (j + 1) := by
          cases hA; subst hN
          simp only [apStd]
          have e : exT key info (j + 1) = macN key (tlN info (exT key info j) (j + 1)) := rfl
          rw [e, mac_eq, hlast, hi']
          exact congrArg (rmacN key) rfl
        have a1 : fi .add .i64 i 1 = ((j + 1 + 1 : Nat) : Int) := by cases hA; rw [hi']; exact add_nat (c := 1) (by omega) (by omega)
        have hT32 : fz (exT key info (j + 1)) = 32 := by cases hA; exact macN_size _ _
        have hl32 : fz last ≤ 32 := by cases hA; rw [hlast]; exact exT_size key info j
        have t1 : byts (fa out (exT key info (j + 1))) = exO key info (j + 1) := by
          cases hA
          show byts (out ++ exT key info (j + 1)) = _
          rw [byts_app, hO]; rfl
        have t2 : fl (fz (fa (fa last info) (hmkb [fw .u8 i]))) 17592186044416 = true := by
          rw [hle, hca, hca, hz1]; exact decide_eq_true (by omega)
        have t3 : ff last info = true := hff _ _ (by omega)
        have t4 : ff (fa last info) (hmkb [fw .u8 i]) = true := hff _ _ (by rw [hca, hz1]; omega)
        have t5 : ff out (exT key info (j + 1)) = true := hff _ _ (by rw [hOl, hT32]; omega)
        have u1 : fl 1 1 = true := by cases hA; rfl
        clear hd
        cbv
        simp (maxSteps := 10000000) only [hT]
        refine ⟨?_, ?_, trivial⟩
        · rw [hok, a1]
          have hjn : M - m' = j + 1 := by omega
          refine ⟨by omega, ?_, ?_, ?_⟩ <;> rw [hjn]
          exact t1
        · simp (maxSteps := 10000000) only [t2, t3, t4, t5, u1, hkk, k1, k2, hmx]
    · refine fin_sb hK rfl (by rw [hv]; exact rfl) ?_
      have h2' : n > 8160 := by cases hA; exact of_decide_eq_true h2
      obtain ⟨E, hE⟩ : ∃ E, E = ap3 N expN key info n := ⟨_, rfl⟩
      obtain ⟨E2, hE2⟩ : ∃ E, E = ap1 N expE n := ⟨_, rfl⟩
      rw [hv, ← hE, ← hE2]
      cbv
      refine ⟨?_, ?_, trivial⟩
      · rw [hE]
        subst hN
        show expN key info n = _
        unfold expN
        exact if_pos (by omega)
      · rw [hE2]
        subst hN
        show expE n = 1
        unfold expE
        exact if_pos (by omega)
  · refine fin_sb hK rfl (by rw [hv]; exact rfl) ?_
    have h1' : n < 0 := by cases hA; exact of_decide_eq_true h1
    obtain ⟨E, hE⟩ : ∃ E, E = ap3 N expN key info n := ⟨_, rfl⟩
    obtain ⟨E2, hE2⟩ : ∃ E, E = ap1 N expE n := ⟨_, rfl⟩
    rw [hv, ← hE, ← hE2]
    cbv
    refine ⟨?_, ?_, trivial⟩
    · rw [hE]
      subst hN
      show expN key info n = _
      unfold expN
      exact if_pos (by omega)
    · rw [hE2]
      subst hN
      show expE n = 1
      unfold expE
      exact if_pos (by omega)

def rexpF (A : Ar) (N : Ap) : List SV → Bool × SV
  | [.str key, .str info, x] => match SV.i64 x with
    | some n => (A.nle (A.size key) 17592186044416 && A.nle (A.size info) 17592186044316, .tup [.str (ap3 N expN key info n), .int .i64 (ap1 N expE n)])
    | none => (false, .bad)
  | _ => (false, .bad)

theorem con_rexp : Con Tryd.prog 18 (rexpF std apStd) := by
  refine con_shut Tryd.func18 rfl (by kernel_rfl) (fun args v us hF hv => ?_) (fun args v hF => ?_)
  · unfold rexpF at hF
    split at hF
    · rename_i key info x
      split at hF
      · rename_i n hx
        simp only [Prod.mk.injEq, Bool.and_eq_true] at hF
        obtain ⟨⟨h1, h2⟩, hF⟩ := hF
        have h1 : key.size ≤ 17592186044416 := by simpa [std] using h1
        have h2 : info.size ≤ 17592186044416 - 100 := by simpa [std] using h2
        have hv' : SV.vals [] [.str key, .str info, .int .i64 n] = some us :=
          sameV_vals (l := [.str key, .str info, x]) ⟨fun _ h => h, fun _ h => h, fun u hu => (i64_of hx hu).1, trivial⟩ hv
        have hg : Eng.Good Tryd.prog (cxh std (ALoop 0) noJ [] [(38, tableH apStd), (37, rwith2H std apStd)] [] dy0) 0 :=
          goodh (by simp) (by intro p hp; simp at hp; rcases hp with rfl | rfl; exact hcon_table; exact hcon_rwith2)
        exact ⟨_, _, hg, rfl, by kernel_rfl, hv', Nat.le_of_ble_eq_true rfl, rexpand_vc std apStd (ALoop 0) key info n rfl rfl rfl h1 h2 v hF.symm (FinP v) rfl⟩
      · cases hF
    · cases hF
  · unfold rexpF at hF
    split at hF
    · rename_i key info x
      split at hF
      · rename_i n hx
        have : x.idsLt 0 = true := by unfold SV.i64 at hx; split at hx <;> first | rfl | cases hx
        simp [SV.idsLts, this, SV.idsLt]
      · cases hF
    · cases hF

end Go.Proofs.YtpnpfihjlobonaaDoor
