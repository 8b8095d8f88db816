/- Walks through the reference of the hmac package: sums by a key. It has no conditions. -/
import Derived.Test.YtpnpfihjlobonaaDoorHr1
namespace Go.Proofs.YtpnpfihjlobonaaDoor
open Go.Eng Go.RowKit
set_option maxRecDepth 1000000
set_option maxHeartbeats 4000000
set_option linter.unusedSimpArgs false
set_option linter.unusedVariables false

theorem goodhq {base : Nat} {l : Pure} {d : Heap} (q : List Nat) (h : ∀ p ∈ l, Con Tryd.prog p.1 p.2) (h' : ∀ p ∈ d, HCon Tryd.prog [] p.1 p.2) : Eng.Good Tryd.prog (cxhq std (ALoop base) noJ l d [] q dy0) base :=
  ⟨good0q rfl h h', rfl, .inr rfl, Nat.zero_le _⟩

def rwithQ : List Nat := [55, 39]

theorem rwith_vc (A : Ar) (N : Ap) (L : LP) (H R : List Int) (key s : ByteArray) (hL : L = ALoop 2) (hA : A = std) (hN : N = apStd) (hH : H = firstL) (hR : R = roundsL) (hk : key.size ≤ 17592186044416) (hs : s.size ≤ 17592186044416) (v : SV) (hv : v = .str (ap2 N rmacN key s)) (K : Bool → SV → List Blk → Prop) (hK : K = FinH 2 v [] [] (uniR 2 v [] [])) :
    Shut (afun (cxhq A L noJ [] [(55, rpadH A N), (39, withH A N)] [] rwithQ dy0) Tryd.f37 [.agg [.row 0 8, .row 1 64], .str key, .str s] [⟨.ints .u32 H, .ro⟩, ⟨.ints .u32 R, .ro⟩] K) := by
  obtain ⟨fi, fc, fw, fb, fn, fo, fs, fa, fe, fz, fy, ff, fl, fq, gadd, gsub, gmul, gmin, hlen', hget, hset, happ, hisub, irep, iput', rlen, rint', rbool', rstr', rset, rapp, rsub, rrep, hmkb, hbyts⟩ := A
  have hNF : N (List Int) Bool isFirst H = true := by subst hN; exact decide_eq_true hH
  have hNR : N (List Int) Bool isRounds R = true := by subst hN; exact decide_eq_true hR
  have hkk : fl (fz key) 17592186044416 = true := by cases hA; exact decide_eq_true hk
  have hP : ∀ b, (pdK key b).size = 64 := fun b => pdN_size _ _ (kyN_le key)
  have hle : fl = fun a b => decide (a ≤ b) := by cases hA; rfl
  have hca : ∀ x y, fz (fa x y) = fz x + fz y := by cases hA; intro x y; exact size_app x y
  have hff : ∀ x y, fz x + fz y ≤ 1000000000000000 → ff x y = true := by
    cases hA; intro x y hxy
    exact decide_eq_true (by
      show ((x.size + y.size : Nat) : Int) ≤ 9223372036854775807
      have : x.size + y.size ≤ 1000000000000000 := hxy
      omega)
  have hzP : ∀ b, fz (N Int ByteArray (N ByteArray (Int → ByteArray) pdK key) b) = 64 := by cases hA; subst hN; intro b; simp only [apStd]; exact hP b
  have hzS : ∀ x, fz (N ByteArray ByteArray sumP x) = 32 := by cases hA; subst hN; intro x; simp only [apStd]; exact sumP_size x
  have hzs : fz s ≤ 17592186044416 := by cases hA; exact hs
  have e1 : fl (fz (fa (N Int ByteArray (N ByteArray (Int → ByteArray) pdK key) 54) s)) 35184372088832 = true := by
    rw [hle, hca, hzP]; exact decide_eq_true (by omega)
  have e2 : fl (fz (fa (N Int ByteArray (N ByteArray (Int → ByteArray) pdK key) 92) (N ByteArray ByteArray sumP (fa (N Int ByteArray (N ByteArray (Int → ByteArray) pdK key) 54) s)))) 35184372088832 = true := by
    rw [hle, hca, hzP, hzS]; exact decide_eq_true (by omega)
  have e3 : ff (N Int ByteArray (N ByteArray (Int → ByteArray) pdK key) 54) s = true := hff _ _ (by rw [hzP]; omega)
  have e4 : ff (N Int ByteArray (N ByteArray (Int → ByteArray) pdK key) 92) (N ByteArray ByteArray sumP (fa (N Int ByteArray (N ByteArray (Int → ByteArray) pdK key) 54) s)) = true := hff _ _ (by rw [hzP, hzS]; omega)
  apply Shut.mk
  cbv
  refine finH0 hK ?_ (by rw [hv]; exact rfl) ?_
  · rw [Bool.and_eq_true]
    refine ⟨by cbv, ?_⟩
    simp (maxSteps := 10000000) only [hNF, hNR, hkk, e1, e2, e3, e4]
  · obtain ⟨E, hE⟩ : ∃ E, E = ap2 N rmacN key s := ⟨_, rfl⟩
    rw [hv, ← hE]
    obtain ⟨D, hD⟩ : ∃ D, D = N ByteArray ByteArray sumP (fa (N Int ByteArray (N ByteArray (Int → ByteArray) pdK key) 92) (N ByteArray ByteArray sumP (fa (N Int ByteArray (N ByteArray (Int → ByteArray) pdK key) 54) s))) := ⟨_, rfl⟩
    simp (maxSteps := 10000000) only [← hD]
    cbv
    rw [hE, hD]
    cases hA; subst hN
    simp only [ap2, apStd]
    unfold rmacN pdK
    rfl

def rwith2H (A : Ar) (N : Ap) : HF := fun args h => match args, h with
  | [.agg [.row i 8, .row j 64], .str key, .str s], [⟨.ints ki H, bi⟩, ⟨.ints kj R, bj⟩] =>
    ⟨Nat.beq i 0 && (Nat.beq j 1 && (Nat.beq (kn ki) (kn .u32) && (Nat.beq (kn kj) (kn .u32) && (liveK bi && (liveK bj && (ap1 N isFirst H && (ap1 N isRounds R && (A.nle (A.size key) 17592186044416 && A.nle (A.size s) 17592186044416)))))))), .str (ap2 N rmacN key s), [], []⟩
  | _, _ => ⟨false, .bad, [], []⟩

theorem hcon_rwith2 : HCon Tryd.prog [] 37 (rwith2H std apStd) := by
  refine hcon_shut Tryd.func37 rfl (by kernel_rfl) (fun args h v ch nw hF m us w HT hv => ?_)
  unfold rwith2H at hF
  split at hF
  · rename_i i j key s ki H bi kj R bj
    simp only [HR.mk.injEq, Bool.and_eq_true] at hF
    obtain ⟨⟨h1, h2, h3, h4, h5, h6, h7, h8, h9, h10⟩, rfl, rfl, rfl⟩ := hF
    have h1 : i = 0 := by simpa using h1
    have h2 : j = 1 := by simpa using h2
    have h3 := kn_eq h3
    have h4 := kn_eq h4
    subst h1; subst h2; subst h3; subst h4
    have h7 : H = firstL := of_decide_eq_true h7
    have h8 : R = roundsL := of_decide_eq_true h8
    have h9 : key.size ≤ 17592186044416 := by simpa [std] using h9
    have h10 : s.size ≤ 17592186044416 := by simpa [std] using h10
    refine ⟨_, [.agg [.row 0 8, .row 1 64], .str key, .str s], _, goodhq (base := 2) (l := []) (d := [(55, rpadH std apStd), (39, withH std apStd)]) rwithQ (by simp) (by intro p hp; simp at hp; rcases hp with rfl | rfl; exact hcon_rpad; exact hcon_with), rfl, by kernel_rfl, hv, Nat.le_of_ble_eq_true rfl, ?_, rfl, by simp,
      rwith_vc std apStd (ALoop 2) H R key s rfl rfl rfl h7 h8 h9 h10 _ rfl _ rfl⟩
    exact ⟨⟨kOk_ro h5, rfl, rfl⟩, ⟨kOk_ro h6, rfl, rfl⟩, trivial⟩
  · simp at hF

def rmacF (A : Ar) (N : Ap) : List SV → Bool × SV
  | [.str key, .str s] => (A.nle (A.size key) 17592186044416 && A.nle (A.size s) 17592186044416, .str (ap2 N rmacN key s))
  | _ => (false, .bad)

theorem rmacF_ids {args : List SV} {v : SV} (hF : rmacF std apStd args = (true, v)) : SV.idsLts 0 args = true := by
  unfold rmacF at hF
  split at hF
  · rfl
  · cases hF

theorem rmac_vc (A : Ar) (N : Ap) (L : LP) (key s : ByteArray) (hA : A = std) (hN : N = apStd) (hk : A.nle (A.size key) 17592186044416 = true) (hs : A.nle (A.size s) 17592186044416 = true) (v : SV) (hv : v = .str (ap2 N rmacN key s)) (K : Bool → SV → List Blk → Prop) (hK : K = FinP v) :
    Shut (afun (cxh A L noJ [] [(38, tableH N), (37, rwith2H A N)] [] dy0) Tryd.f14 [.str key, .str s] [] K) := by
  have k1 : N (List Int) Bool isFirst (N Int (List Int) hTab 0) = true := by subst hN; exact decide_eq_true (show firstL = firstL from rfl)
  have k2 : N (List Int) Bool isRounds (N Int (List Int) kTab 0) = true := by subst hN; exact decide_eq_true (show roundsL = roundsL from rfl)
  clear hA hN
  obtain ⟨fi, fc, fw, fb, fn, fo, fs, fa, fe, fz, fy, ff, fl, fq, gadd, gsub, gmul, gmin, hlen', hget, hset⟩ := A
  dsimp only at hk hs
  apply Shut.mk
  cbv
  refine fin_of hK ?_ ?_ ?_
  · cbv
    simp only [k1, k2, hk, hs]
  · cbv
  · rw [hv]
    cbv

theorem con_rmac : Con Tryd.prog 14 (rmacF std apStd) := by
  refine con_shut Tryd.func14 rfl (by kernel_rfl) (fun args v us hF hv => ?_) (fun args v hF => rmacF_ids hF)
  unfold rmacF at hF
  split at hF
  · rename_i key s
    simp only [Prod.mk.injEq, Bool.and_eq_true] at hF
    obtain ⟨⟨h1, h2⟩, hF⟩ := hF
    have hg : Eng.Good Tryd.prog (cxh std (ALoop 0) noJ [] [(38, tableH apStd), (37, rwith2H std apStd)] [] dy0) 0 :=
      goodh (by simp) (by intro p hp; simp at hp; rcases hp with rfl | rfl; exact hcon_table; exact hcon_rwith2)
    exact ⟨_, _, hg, rfl, by kernel_rfl, hv, Nat.le_of_ble_eq_true rfl, rmac_vc std apStd (ALoop 0) key s rfl rfl h1 h2 v hF.symm (FinP v) rfl⟩
  · cases hF

theorem rext_vc (A : Ar) (N : Ap) (L : LP) (key s : ByteArray) (hA : A = std) (hN : N = apStd) (hk : A.nle (A.size key) 17592186044416 = true) (hs : A.nle (A.size s) 17592186044416 = true) (v : SV) (hv : v = .str (ap2 N rmacN key s)) (K : Bool → SV → List Blk → Prop) (hK : K = FinP v) :
    Shut (afun (cx A L [(14, rmacF A N)]) Tryd.f16 [.str key, .str s] [] K) := by
  clear hA hN
  obtain ⟨fi, fc, fw, fb, fn, fo, fs, fa, fe, fz, fy, ff, fl, fq, gadd, gsub, gmul, gmin, hlen', hget, hset⟩ := A
  dsimp only at hk hs
  apply Shut.mk
  cbv
  refine fin_of hK ?_ ?_ ?_
  · cbv
    simp only [hk, hs]
  · cbv
  · rw [hv]
    cbv

theorem con_rext : Con Tryd.prog 16 (rmacF std apStd) := by
  refine con_shut Tryd.func16 rfl (by kernel_rfl) (fun args v us hF hv => ?_) (fun args v hF => rmacF_ids hF)
  unfold rmacF at hF
  split at hF
  · rename_i key s
    simp only [Prod.mk.injEq, Bool.and_eq_true] at hF
    obtain ⟨⟨h1, h2⟩, hF⟩ := hF
    exact ⟨_, _, good (l := [(14, rmacF std apStd)]) (by intro p hp; simp at hp; subst hp; exact con_rmac), rfl, by kernel_rfl, hv, Nat.le_of_ble_eq_true rfl, rext_vc std apStd (ALoop 0) key s rfl rfl h1 h2 v hF.symm (FinP v) rfl⟩
  · cases hF

end Go.Proofs.YtpnpfihjlobonaaDoor
