/- Walks through the drbg package: a text more, how many bytes were told. It has no conditions. -/
import Derived.Test.YtpnpfihjlobonaaDoorDr3
namespace Go.Proofs.YtpnpfihjlobonaaDoor
open Go.Eng Go.RowKit
set_option maxRecDepth 1000000
set_option maxHeartbeats 4000000
set_option linter.unusedSimpArgs false
set_option linter.unusedVariables false

/-- The contract of one that has no generator. -/
def nilH (h : List Blk) (ok : Bool) (v : SV) : HR := match h with
  | [⟨.ints kf F, bf⟩, ⟨.ints kr R, br⟩] => ⟨Nat.beq (kn kf) (kn .u32) && (Nat.beq (kn kr) (kn .u32) && (liveK bf && (liveK br && ok))), v, [], []⟩
  | _ => ⟨false, .bad, [], []⟩

theorem nilH_inv {h : List Blk} {ok : Bool} {v x : SV} {ch : List (Option Blk)} {nw : List Blk} (hF : nilH h ok v = ⟨true, x, ch, nw⟩) :
    ∃ F bf R br, h = [⟨.ints .u32 F, bf⟩, ⟨.ints .u32 R, br⟩] ∧ liveK bf = true ∧ liveK br = true ∧ ok = true ∧ x = v ∧ ch = [] ∧ nw = [] := by
  unfold nilH at hF
  split at hF
  · rename_i kf F bf kr R br
    simp only [HR.mk.injEq, Bool.and_eq_true] at hF
    obtain ⟨⟨h1, h2, h3, h4, h5⟩, rfl, rfl, rfl⟩ := hF
    have h1 := kn_eq h1
    have h2 := kn_eq h2
    subst h1; subst h2
    exact ⟨F, bf, R, br, rfl, h3, h4, h5, rfl, rfl, rfl⟩
  · simp at hF

def askH (A : Ar) (N : Ap) : HF := fun args h => match args with
  | [.nilp] => nilH h true (.num .i64 0)
  | _ => drH A N args h fun xs k v n => match xs with
    | [] => ⟨true, .int .i64 n, [none, none, some ⟨drC k v (.int .i64 n), .var⟩], []⟩
    | _ => ⟨false, .bad, [], []⟩

theorem ask_vc (A : Ar) (N : Ap) (L : LP) (F R k v : List Int) (n : Int) (hA : A = std) (hk : k.length = 32) (hv : v.length = 32) (x : SV) (hx : x = .int .i64 n) (ch : List (Option Blk)) (hch : ch = [none, none, some ⟨drC k v (.int .i64 n), .var⟩])
    (K : Bool → SV → List Blk → Prop) (hK : K = FinH 3 x ch [] (uniR 3 x ch [])) :
    Shut (afun (cxg A L [] []) Tryd.f24 [.ptr 2 0] [⟨.ints .u32 F, .ro⟩, ⟨.ints .u32 R, .ro⟩, ⟨drC k v (.int .i64 n), .var⟩] K) := by
  obtain ⟨fi, fc, fw, fb, fn, fo, fs, fa, fe, fz, fy, ff, fl, fq, gadd, gsub, gmul, gmin, hlen', hget, hset, happ, hisub, irep, iput', rlen, rint', rbool', rstr', rset, rapp, rsub, rrep, hmkb, hbyts⟩ := A
  apply Shut.mk
  cbv
  rw [hx, hch] at hK
  rw [hK]
  cbv

theorem ask0_vc (A : Ar) (L : LP) (F R : List Int) (x : SV) (hx : x = .num .i64 0) (K : Bool → SV → List Blk → Prop) (hK : K = FinH 2 x [] [] (uniR 2 x [] [])) :
    Shut (afun (cxg A L [] []) Tryd.f24 [.nilp] [⟨.ints .u32 F, .ro⟩, ⟨.ints .u32 R, .ro⟩] K) := by
  obtain ⟨fi, fc, fw, fb, fn, fo, fs, fa, fe, fz, fy, ff, fl, fq, gadd, gsub, gmul, gmin, hlen', hget, hset, happ, hisub, irep, iput', rlen, rint', rbool', rstr', rset, rapp, rsub, rrep, hmkb, hbyts⟩ := A
  apply Shut.mk
  cbv
  rw [hx] at hK
  rw [hK]
  cbv

theorem hcon_ask : HCon Tryd.prog [0, 1] 24 (askH std apStd) := by
  refine hcon_shut Tryd.func24 rfl (by kernel_rfl) (fun args h x ch nw hF m us w H hv => ?_)
  unfold askH at hF
  split at hF
  · obtain ⟨F, bf, R, br, rfl, h4, h5, _, rfl, rfl, rfl⟩ := nilH_inv hF
    refine ⟨_, [.nilp], _, goodg (base := 2) (l := []) (d := []) dy0 (by decide) (by simp) (by simp),
      rfl, by kernel_rfl, hv, Nat.le_of_ble_eq_true rfl, ?_, ?_, by simp, ask0_vc std (ALoop 2) F R _ rfl _ rfl⟩
    · exact ⟨⟨kOk_ro h4, rfl, rfl⟩, ⟨kOk_ro h5, rfl, rfl⟩, trivial⟩
    · rfl
  · obtain ⟨xs, F, bf, R, br, st, k, v, nv, n, rfl, rfl, hst, hn, h4, h5, h6, h7, h8, h9, hr⟩ := drH_inv hF
    cases xs with
    | cons _ _ => simp at hr
    | nil =>
      simp only [HR.mk.injEq, true_and] at hr
      obtain ⟨rfl, rfl, rfl⟩ := hr
      refine ⟨_, [.ptr 2 0], _, goodg (base := 3) (l := []) (d := []) dy0 (by decide) (by simp) (by simp),
        rfl, by kernel_rfl, hv, Nat.le_of_ble_eq_true rfl, ?_, ?_, by simp, ask_vc std apStd (ALoop 3) F R k v n rfl h8 h9 _ rfl _ rfl _ rfl⟩
      · exact ⟨⟨kOk_ro h4, rfl, rfl⟩, ⟨kOk_ro h5, rfl, rfl⟩, ⟨rfl, drOf_cat hst (i64_sb hn)⟩, trivial⟩
      · rfl

def reseedH (A : Ar) (N : Ap) : HF := fun args h => match args with
  | [.nilp, .str s] => nilH h true (.tup [])
  | _ => updH A N args h

theorem reseed_vc (A : Ar) (N : Ap) (L : LP) (F R k v : List Int) (n : Int) (s : ByteArray) (hA : A = std) (hN : N = apStd) (hF : F = firstL) (hR : R = roundsL) (hk : k.length = 32) (hv : v.length = 32) (hs : s.size ≤ 17592186044416)
    (ch : List (Option Blk)) (hch : ch = [none, none, some ⟨drC (A.byts (ap3 N updK (A.mkb k) (A.mkb v) s)) (A.byts (ap3 N updV (A.mkb k) (A.mkb v) s)) (.int .i64 n), .var⟩])
    (K : Bool → SV → List Blk → Prop) (hK : K = FinH 3 (.tup []) ch [] (uniR 3 (.tup []) ch [])) :
    Shut (afun (cxg A L [] [(40, updH A N)]) Tryd.f34 [.ptr 2 0, .str s] [⟨.ints .u32 F, .ro⟩, ⟨.ints .u32 R, .ro⟩, ⟨drC k v (.int .i64 n), .var⟩] K) := by
  obtain ⟨fi, fc, fw, fb, fn, fo, fs, fa, fe, fz, fy, ff, fl, fq, gadd, gsub, gmul, gmin, hlen', hget, hset, happ, hisub, irep, iput', rlen, rint', rbool', rstr', rset, rapp, rsub, rrep, hmkb, hbyts⟩ := A
  have hNF : N (List Int) Bool isFirst F = true := by subst hN; exact decide_eq_true hF
  have hNR : N (List Int) Bool isRounds R = true := by subst hN; exact decide_eq_true hR
  have fk : fq (hlen' k) 32 = true := by cases hA; exact decide_eq_true hk
  have fv : fq (hlen' v) 32 = true := by cases hA; exact decide_eq_true hv
  have zs : fl (fz s) 17592186044416 = true := by cases hA; exact decide_eq_true hs
  apply Shut.mk
  cbv
  rw [hch] at hK
  rw [hK]
  cbv
  simp (maxSteps := 10000000) only [hNF, hNR, fk, fv, zs]
  exact ⟨trivial, trivial⟩

theorem reseed0_vc (A : Ar) (N : Ap) (L : LP) (F R : List Int) (s : ByteArray) (x : SV) (hx : x = .tup []) (K : Bool → SV → List Blk → Prop) (hK : K = FinH 2 x [] [] (uniR 2 x [] [])) :
    Shut (afun (cxg A L [] [(40, updH A N)]) Tryd.f34 [.nilp, .str s] [⟨.ints .u32 F, .ro⟩, ⟨.ints .u32 R, .ro⟩] K) := by
  obtain ⟨fi, fc, fw, fb, fn, fo, fs, fa, fe, fz, fy, ff, fl, fq, gadd, gsub, gmul, gmin, hlen', hget, hset, happ, hisub, irep, iput', rlen, rint', rbool', rstr', rset, rapp, rsub, rrep, hmkb, hbyts⟩ := A
  apply Shut.mk
  cbv
  rw [hx] at hK
  rw [hK]
  cbv

theorem hcon_reseed : HCon Tryd.prog [0, 1] 34 (reseedH std apStd) := by
  refine hcon_shut Tryd.func34 rfl (by kernel_rfl) (fun args h x ch nw hF m us w H hv => ?_)
  unfold reseedH at hF
  split at hF
  · rename_i s
    obtain ⟨F, bf, R, br, rfl, h4, h5, _, rfl, rfl, rfl⟩ := nilH_inv hF
    refine ⟨_, [.nilp, .str s], _, goodg (base := 2) (l := []) (d := [(40, updH std apStd)]) dy0 (by decide) (by simp) (by intro p hp; simp at hp; subst hp; exact hcon_drupd),
      rfl, by kernel_rfl, hv, Nat.le_of_ble_eq_true rfl, ?_, ?_, by simp, reseed0_vc std apStd (ALoop 2) F R s _ rfl _ rfl⟩
    · exact ⟨⟨kOk_ro h4, rfl, rfl⟩, ⟨kOk_ro h5, rfl, rfl⟩, trivial⟩
    · rfl
  · unfold updH at hF
    obtain ⟨xs, F, bf, R, br, st, k, v, nv, n, rfl, rfl, hst, hn, h4, h5, h6, h7, h8, h9, hr⟩ := drH_inv hF
    split at hr
    · rename_i s _
      simp only [HR.mk.injEq] at hr
      obtain ⟨h1, rfl, rfl, rfl⟩ := hr
      have h1 : s.size ≤ 17592186044416 := by simpa [std] using h1
      refine ⟨_, [.ptr 2 0, .str s], _, goodg (base := 3) (l := []) (d := [(40, updH std apStd)]) dy0 (by decide) (by simp) (by intro p hp; simp at hp; subst hp; exact hcon_drupd),
        rfl, by kernel_rfl, hv, Nat.le_of_ble_eq_true rfl, ?_, ?_, by simp, reseed_vc std apStd (ALoop 3) F R k v n s rfl rfl h6 h7 h8 h9 h1 _ rfl _ rfl⟩
      · exact ⟨⟨kOk_ro h4, rfl, rfl⟩, ⟨kOk_ro h5, rfl, rfl⟩, ⟨rfl, drOf_cat hst (i64_sb hn)⟩, trivial⟩
      · rfl
    · simp at hr

end Go.Proofs.YtpnpfihjlobonaaDoor
