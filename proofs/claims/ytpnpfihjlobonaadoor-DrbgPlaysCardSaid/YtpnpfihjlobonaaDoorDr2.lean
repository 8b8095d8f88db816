/- Walks through the drbg package: another key, what SP 800-90A calls update. It has no conditions. -/
import Derived.Test.YtpnpfihjlobonaaDoorDr1
namespace Go.Proofs.YtpnpfihjlobonaaDoor
open Go.Eng Go.RowKit
set_option maxRecDepth 1000000
set_option maxHeartbeats 4000000
set_option linter.unusedSimpArgs false
set_option linter.unusedVariables false

/-- Another key, of a byte and a text. -/
def mixN (K V : ByteArray) (b : Int) (s : ByteArray) : ByteArray := macN K (V ++ mkb [b] ++ s)

def mixH (A : Ar) (N : Ap) : HF := fun args h => drH A N args h fun xs k v n => match xs with
  | [x, .str s] => (match SV.u8 x with
    | some b => ⟨A.nle (A.size s) 17592186044416, .tup [], [none, none, some ⟨drC (A.byts (ap4 N mixN (A.mkb k) (A.mkb v) b s)) (A.byts (ap2 N macN (ap4 N mixN (A.mkb k) (A.mkb v) b s) (A.mkb v))) (.int .i64 n), .var⟩], []⟩
    | none => ⟨false, .bad, [], []⟩)
  | _ => ⟨false, .bad, [], []⟩

def mixPl : List (Nat × PT) := [(0, .step 0 (.step 1 (.step 2 (.step 3 (.step 4 (.step 6 (.step 7 (.step 8 (.step 9 (.step 11 (.step 14 (.alt 5 (.alt 10 (.step 12 (.step 13 (.step 15 (.step 16 (.step 17 .done))))) (.alt 12 (.step 10 (.step 13 (.step 15 (.step 16 (.step 17 .done))))) .nil)) (.alt 10 (.alt 5 (.step 12 (.step 13 (.step 15 (.step 16 (.step 17 .done))))) (.alt 12 (.alt 5 (.step 13 (.step 15 (.step 16 (.step 17 .done)))) (.alt 13 (.alt 5 (.step 15 (.step 16 (.step 17 .done))) (.alt 15 (.step 5 (.step 16 (.step 17 .done))) .nil)) .nil)) .nil)) (.alt 12 (.alt 5 (.step 10 (.step 13 (.step 15 (.step 16 (.step 17 .done))))) (.alt 10 (.alt 5 (.step 13 (.step 15 (.step 16 (.step 17 .done)))) (.alt 13 (.alt 5 (.step 15 (.step 16 (.step 17 .done))) (.alt 15 (.step 5 (.step 16 (.step 17 .done))) .nil)) .nil)) (.alt 13 (.alt 5 (.step 10 (.step 15 (.step 16 (.step 17 .done)))) (.alt 10 (.alt 5 (.step 15 (.step 16 (.step 17 .done))) (.alt 15 (.step 5 (.step 16 (.step 17 .done))) .nil)) .nil)) .nil))) .nil))))))))))))))]

theorem drmix_vc (A : Ar) (N : Ap) (L : LP) (F R k v : List Int) (n b : Int) (s : ByteArray) (hA : A = std) (hN : N = apStd) (hF : F = firstL) (hR : R = roundsL) (hk : k.length = 32) (hv : v.length = 32) (hs : s.size ≤ 17592186044416)
    (ch : List (Option Blk)) (hch : ch = [none, none, some ⟨drC (A.byts (ap4 N mixN (A.mkb k) (A.mkb v) b s)) (A.byts (ap2 N macN (ap4 N mixN (A.mkb k) (A.mkb v) b s) (A.mkb v))) (.int .i64 n), .var⟩])
    (K : Bool → SV → List Blk → Prop) (hK : K = FinH 3 (.tup []) ch [] (uniR 3 (.tup []) ch [])) :
    Shut (afun (cxhp A L noJ [] [(61, keyH A N), (36, ksumH A N), (41, turnH A N)] [0, 1] [] dy0 (pll mixPl)) Tryd.f60 [.ptr 2 0, .int .u8 b, .str s] [⟨.ints .u32 F, .ro⟩, ⟨.ints .u32 R, .ro⟩, ⟨drC k v (.int .i64 n), .var⟩] K) := by
  obtain ⟨fi, fc, fw, fb, fn, fo, fs, fa, fe, fz, fy, ff, fl, fq, gadd, gsub, gmul, gmin, hlen', hget, hset, happ, hisub, irep, iput', rlen, rint', rbool', rstr', rset, rapp, rsub, rrep, hmkb, hbyts⟩ := A
  have hNF : N (List Int) Bool isFirst F = true := by subst hN; exact decide_eq_true hF
  have hNR : N (List Int) Bool isRounds R = true := by subst hN; exact decide_eq_true hR
  have hsk : hisub k 0 32 = k := by cases hA; show (k.drop 0).take 32 = k; rw [List.drop_zero, List.take_of_length_le (by omega)]
  have hsv : hisub v 0 32 = v := by cases hA; show (v.drop 0).take 32 = v; rw [List.drop_zero, List.take_of_length_le (by omega)]
  have fk : fq (hlen' k) 32 = true := by cases hA; exact decide_eq_true hk
  have fv : fq (hlen' v) 32 = true := by cases hA; exact decide_eq_true hv
  have gk : fl (gadd 0 32) (hlen' k) = true := by cases hA; exact decide_eq_true (by show 0 + 32 ≤ k.length; omega)
  have gv : fl (gadd 0 32) (hlen' v) = true := by cases hA; exact decide_eq_true (by show 0 + 32 ≤ v.length; omega)
  have zk : fl (fz (hmkb k)) 17592186044416 = true := by cases hA; exact decide_eq_true (by show (mkb k).size ≤ _; rw [size_mkb]; omega)
  have zv : fl (fz (hmkb v)) 17592186044416 = true := by cases hA; exact decide_eq_true (by show (mkb v).size ≤ _; rw [size_mkb]; omega)
  have zs : fl (fz s) 17592186044416 = true := by cases hA; exact decide_eq_true hs
  have l0 : fq (hlen' []) 0 = true := by cases hA; rfl
  have l64 : fc .eql 64 64 = true := by cases hA; rfl
  have k54 := key8 hN (hmkb k) 54
  have k92 := key8 hN (hmkb k) 92
  have km := mac_two hN (hmkb k) (fa (fa (hmkb v) (hmkb [b])) s)
  obtain ⟨M, hMe⟩ : ∃ M, M = ap4 N mixN (hmkb k) (hmkb v) b s := ⟨_, rfl⟩
  have hM : M.size = 32 := by
    rw [hMe]; subst hN; simp only [apStd, ap4]; unfold mixN; exact macN_size _ _
  have km' : N ByteArray ByteArray (N ByteArray (ByteArray → ByteArray) macN (hmkb k)) (fa (fa (hmkb v) (hmkb [b])) s) = M := by
    rw [hMe]; cases hA; subst hN
    simp only [apStd, ap4]
    unfold mixN
    rfl
  have km2 := km.trans km'
  obtain ⟨M2, hM2e⟩ : ∃ M2, M2 = ap2 N macN M (hmkb v) := ⟨_, rfl⟩
  have km3 : N ByteArray ByteArray (N ByteArray (ByteArray → ByteArray) macN M) (hmkb v) = M2 := hM2e.symm
  have hmb : ∀ x, hmkb (hbyts x) = x := by cases hA; intro x; exact mkb_of_byts x
  have fM : fq (hlen' (hbyts M)) 32 = true := by cases hA; exact decide_eq_true (by show (byts M).length = 32; rw [byts_length, hM])
  have hch' : ch = [none, none, some ⟨drC (hbyts M) (hbyts M2) (.int .i64 n), .var⟩] := by rw [hch, hM2e, hMe]
  have q1 : fl 32 (hlen' k) = true := by cases hA; exact decide_eq_true (by show 32 ≤ k.length; omega)
  have q2 : fc .leq (fo (fz M)) 9223372036854775807 = true := by cases hA; exact decide_eq_true (by show (M.size : Int) ≤ _; omega)
  have q3 : iput' k 0 (hisub (hbyts M) 0 32) = hbyts M := by
    cases hA
    exact iput_all hk hM
  have z1 : fl (fz (hmkb [b])) 17592186044416 = true := by cases hA; exact decide_eq_true (by show (mkb [b]).size ≤ _; rw [size_mkb]; show 1 ≤ _; omega)
  apply Shut.mk
  cbv
  repeat (simp (maxSteps := 10000000) only [hsk, hsv, k54, k92, km2, km', km3, hNF, hNR, fk, fv, gk, gv, zk, zv, zs, l0, l64, q1, q2, q3, z1, hmb, fM]; cbv)
  rw [hch'] at hK
  rw [hK]
  cbv

theorem hcon_drmix : HCon Tryd.prog [0, 1] 60 (mixH std apStd) := by
  refine hcon_shut Tryd.func60 rfl (by kernel_rfl) (fun args h x ch nw hF m us w H hv => ?_)
  obtain ⟨xs, F, bf, R, br, st, k, v, nv, n, rfl, rfl, hst, hn, h4, h5, h6, h7, h8, h9, hr⟩ := drH_inv hF
  split at hr
  · rename_i y s
    split at hr
    · rename_i b hb
      simp only [HR.mk.injEq] at hr
      obtain ⟨h1, rfl, rfl, rfl⟩ := hr
      have h1 : s.size ≤ 17592186044416 := by simpa [std] using h1
      have hv' : SV.vals m [.ptr 2 0, .int .u8 b, .str s] = some us :=
        sameV_vals (l := [.ptr 2 0, y, .str s]) ⟨fun _ h => h, fun u hu => (u8_of hb hu).1, fun _ h => h, trivial⟩ hv
      refine ⟨_, [.ptr 2 0, .int .u8 b, .str s], _, goodgp (base := 3) (l := []) (d := [(61, keyH std apStd), (36, ksumH std apStd), (41, turnH std apStd)]) [] (pll mixPl) (by decide) (by simp) (by intro p hp; simp at hp; rcases hp with rfl | rfl | rfl; exact hcon_drkey; exact hcon_ksum; exact hcon_drturn),
        rfl, by kernel_rfl, hv', Nat.le_of_ble_eq_true rfl, ?_, ?_, by simp, drmix_vc std apStd (ALoop 3) F R k v n b s rfl rfl h6 h7 h8 h9 h1 _ rfl _ rfl⟩
      · exact ⟨⟨kOk_ro h4, rfl, rfl⟩, ⟨kOk_ro h5, rfl, rfl⟩, ⟨rfl, drOf_cat hst (i64_sb hn)⟩, trivial⟩
      · rfl
    · simp at hr
  · simp at hr

end Go.Proofs.YtpnpfihjlobonaaDoor
