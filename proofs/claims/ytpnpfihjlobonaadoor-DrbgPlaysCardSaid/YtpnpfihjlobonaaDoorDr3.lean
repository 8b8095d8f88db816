/- Walks through the drbg package: update, a new generator, a text more, how many bytes were told. It has no conditions. -/
import Derived.Test.YtpnpfihjlobonaaDoorDr2
namespace Go.Proofs.YtpnpfihjlobonaaDoor
open Go.Eng Go.RowKit
set_option maxRecDepth 1000000
set_option maxHeartbeats 4000000
set_option linter.unusedSimpArgs false
set_option linter.unusedVariables false

/-- The key and the value after a text. -/
def updK (K V s : ByteArray) : ByteArray :=
  if s = ByteArray.empty then mixN K V 0 s else mixN (mixN K V 0 s) (macN (mixN K V 0 s) V) 1 s
def updV (K V s : ByteArray) : ByteArray :=
  if s = ByteArray.empty then macN (mixN K V 0 s) V else macN (mixN (mixN K V 0 s) (macN (mixN K V 0 s) V) 1 s) (macN (mixN K V 0 s) V)

theorem updK_size (K V s : ByteArray) : (updK K V s).size = 32 := by unfold updK; split <;> exact macN_size _ _
theorem updV_size (K V s : ByteArray) : (updV K V s).size = 32 := by unfold updV; split <;> exact macN_size _ _

def updH (A : Ar) (N : Ap) : HF := fun args h => drH A N args h fun xs k v n => match xs with
  | [.str s] => ⟨A.nle (A.size s) 17592186044416, .tup [], [none, none, some ⟨drC (A.byts (ap3 N updK (A.mkb k) (A.mkb v) s)) (A.byts (ap3 N updV (A.mkb k) (A.mkb v) s)) (.int .i64 n), .var⟩], []⟩
  | _ => ⟨false, .bad, [], []⟩

theorem neq_t {s : ByteArray} (h : std.scmp .neq s ⟨⟨[]⟩⟩ = true) : s ≠ ByteArray.empty := by
  intro e
  subst e
  have h : (!(ByteArray.empty.toList == ByteArray.empty.toList)) = true := h
  simp at h
theorem neq_f {s : ByteArray} (h : std.scmp .neq s ⟨⟨[]⟩⟩ = false) : s = ByteArray.empty := by
  have h : (!(s.toList == ByteArray.empty.toList)) = false := h
  have h : s.toList = ByteArray.empty.toList := by simpa only [Bool.not_eq_false', beq_iff_eq] using h
  rw [ByteArray.toList_eq, ByteArray.toList_eq] at h
  exact Go.WideShapes.bytes_inj h

theorem drupd_vc (A : Ar) (N : Ap) (L : LP) (F R k v : List Int) (n : Int) (s : ByteArray) (hA : A = std) (hN : N = apStd) (hF : F = firstL) (hR : R = roundsL) (hk : k.length = 32) (hv : v.length = 32) (hs : s.size ≤ 17592186044416)
    (ch : List (Option Blk)) (hch : ch = [none, none, some ⟨drC (A.byts (ap3 N updK (A.mkb k) (A.mkb v) s)) (A.byts (ap3 N updV (A.mkb k) (A.mkb v) s)) (.int .i64 n), .var⟩])
    (K : Bool → SV → List Blk → Prop) (hK : K = FinH 3 (.tup []) ch [] (uniR 3 (.tup []) ch [])) :
    Shut (afun (cxg A L [] [(60, mixH A N)]) Tryd.f40 [.ptr 2 0, .str s] [⟨.ints .u32 F, .ro⟩, ⟨.ints .u32 R, .ro⟩, ⟨drC k v (.int .i64 n), .var⟩] K) := by
  obtain ⟨K2, hK2⟩ : ∃ x, x = ap3 N updK (A.mkb k) (A.mkb v) s := ⟨_, rfl⟩
  obtain ⟨V2, hV2⟩ : ∃ x, x = ap3 N updV (A.mkb k) (A.mkb v) s := ⟨_, rfl⟩
  have hne : ∀ s, A.scmp .neq s ⟨⟨[]⟩⟩ = true → s ≠ ByteArray.empty := by subst hA; exact fun s h => neq_t h
  have hne' : ∀ s, A.scmp .neq s ⟨⟨[]⟩⟩ = false → s = ByteArray.empty := by subst hA; exact fun s h => neq_f h
  obtain ⟨fi, fc, fw, fb, fn, fo, fs, fa, fe, fz, fy, ff, fl, fq, gadd, gsub, gmul, gmin, hlen', hget, hset, happ, hisub, irep, iput', rlen, rint', rbool', rstr', rset, rapp, rsub, rrep, hmkb, hbyts⟩ := A
  dsimp only at hne hne' hK2 hV2
  have hNF : N (List Int) Bool isFirst F = true := by subst hN; exact decide_eq_true hF
  have hNR : N (List Int) Bool isRounds R = true := by subst hN; exact decide_eq_true hR
  have fk : fq (hlen' k) 32 = true := by cases hA; exact decide_eq_true hk
  have fv : fq (hlen' v) 32 = true := by cases hA; exact decide_eq_true hv
  have zs : fl (fz s) 17592186044416 = true := by cases hA; exact decide_eq_true hs
  have hmb : ∀ x, hmkb (hbyts x) = x := by cases hA; intro x; exact mkb_of_byts x
  obtain ⟨K1, hK1⟩ : ∃ x, x = ap4 N mixN (hmkb k) (hmkb v) 0 s := ⟨_, rfl⟩
  obtain ⟨V1, hV1⟩ : ∃ x, x = ap2 N macN K1 (hmkb v) := ⟨_, rfl⟩
  have sK : K1.size = 32 := by rw [hK1]; subst hN; simp only [apStd, ap4]; unfold mixN; exact macN_size _ _
  have sV : V1.size = 32 := by rw [hV1]; subst hN; simp only [apStd, ap2]; exact macN_size _ _
  have fK1 : fq (hlen' (hbyts K1)) 32 = true := by cases hA; exact decide_eq_true (by show (byts K1).length = 32; rw [byts_length, sK])
  have fV1 : fq (hlen' (hbyts V1)) 32 = true := by cases hA; exact decide_eq_true (by show (byts V1).length = 32; rw [byts_length, sV])
  have e1 : N Int (ByteArray → ByteArray) (N ByteArray (Int → ByteArray → ByteArray) (N ByteArray (ByteArray → Int → ByteArray → ByteArray) mixN (hmkb k)) (hmkb v)) 0 = N Int (ByteArray → ByteArray) (N ByteArray (Int → ByteArray → ByteArray) (N ByteArray (ByteArray → Int → ByteArray → ByteArray) mixN (hmkb k)) (hmkb v)) 0 := rfl
  have eK1 : N ByteArray ByteArray (N Int (ByteArray → ByteArray) (N ByteArray (Int → ByteArray → ByteArray) (N ByteArray (ByteArray → Int → ByteArray → ByteArray) mixN (hmkb k)) (hmkb v)) 0) s = K1 := hK1.symm
  have eV1 : N ByteArray ByteArray (N ByteArray (ByteArray → ByteArray) macN K1) (hmkb v) = V1 := hV1.symm
  have hch' : ch = [none, none, some ⟨drC (hbyts K2) (hbyts V2) (.int .i64 n), .var⟩] := by rw [hch, hK2, hV2]
  apply Shut.mk
  cbv
  repeat (simp (maxSteps := 10000000) only [eK1, eV1, hNF, hNR, fk, fv, zs, hmb, fK1, fV1]; cbv)
  cases h1 : fs .neq s ⟨⟨[]⟩⟩ <;> cbv
  · have h2 := hne' s h1
    have p1 : K2 = K1 := by rw [hK2, hK1]; subst hN; simp only [apStd, ap3, ap4]; exact if_pos h2
    have p2 : V2 = V1 := by rw [hV2, hV1, hK1]; subst hN; simp only [apStd, ap2, ap3, ap4]; exact if_pos h2
    rw [hch', p1, p2] at hK
    rw [hK]
    cbv
  · have h2 := hne s h1
    have p1 : K2 = ap4 N mixN K1 V1 1 s := by rw [hK2, hV1, hK1]; subst hN; simp only [apStd, ap2, ap3, ap4]; exact if_neg h2
    have p2 : V2 = ap2 N macN K2 V1 := by rw [hV2, p1, hV1, hK1]; subst hN; simp only [apStd, ap2, ap3, ap4]; exact if_neg h2
    have eK2 : N ByteArray ByteArray (N Int (ByteArray → ByteArray) (N ByteArray (Int → ByteArray → ByteArray) (N ByteArray (ByteArray → Int → ByteArray → ByteArray) mixN K1) V1) 1) s = K2 := p1.symm
    have eV2 : N ByteArray ByteArray (N ByteArray (ByteArray → ByteArray) macN K2) V1 = V2 := p2.symm
    repeat (simp (maxSteps := 10000000) only [eK2, eV2, hNF, hNR, fk, fv, zs, hmb, fK1, fV1]; cbv)
    rw [hch'] at hK
    rw [hK]
    cbv

theorem hcon_drupd : HCon Tryd.prog [0, 1] 40 (updH std apStd) := by
  refine hcon_shut Tryd.func40 rfl (by kernel_rfl) (fun args h x ch nw hF m us w H hv => ?_)
  obtain ⟨xs, F, bf, R, br, st, k, v, nv, n, rfl, rfl, hst, hn, h4, h5, h6, h7, h8, h9, hr⟩ := drH_inv hF
  split at hr
  · rename_i s
    simp only [HR.mk.injEq] at hr
    obtain ⟨h1, rfl, rfl, rfl⟩ := hr
    have h1 : s.size ≤ 17592186044416 := by simpa [std] using h1
    refine ⟨_, [.ptr 2 0, .str s], _, goodg (base := 3) (l := []) (d := [(60, mixH std apStd)]) dy0 (by decide) (by simp) (by intro p hp; simp at hp; subst hp; exact hcon_drmix),
      rfl, by kernel_rfl, hv, Nat.le_of_ble_eq_true rfl, ?_, ?_, by simp, drupd_vc std apStd (ALoop 3) F R k v n s rfl rfl h6 h7 h8 h9 h1 _ rfl _ rfl⟩
    · exact ⟨⟨kOk_ro h4, rfl, rfl⟩, ⟨kOk_ro h5, rfl, rfl⟩, ⟨rfl, drOf_cat hst (i64_sb hn)⟩, trivial⟩
    · rfl
  · simp at hr

/-! A new one. -/

def ones : ByteArray := mkb (List.replicate 32 1)
def zers : ByteArray := mkb (List.replicate 32 0)
def newK (s : ByteArray) : ByteArray := updK zers ones s
def newV (s : ByteArray) : ByteArray := updV zers ones s

def dnewH (A : Ar) (N : Ap) : HF := fun args h => match args, h with
  | [.str s], [⟨.ints kf F, bf⟩, ⟨.ints kr R, br⟩] => ⟨Nat.beq (kn kf) (kn .u32) && (Nat.beq (kn kr) (kn .u32) && (liveK bf && (liveK br && (ap1 N isFirst F && (ap1 N isRounds R && A.nle (A.size s) 17592186044416))))),
      .ptr 2 0, [], [⟨drC (A.byts (ap1 N newK s)) (A.byts (ap1 N newV s)) (.int .i64 0), .var⟩]⟩
  | _, _ => ⟨false, .bad, [], []⟩

theorem dnew_vc (A : Ar) (N : Ap) (L : LP) (F R : List Int) (s : ByteArray) (hL : L = ALoop 2) (hA : A = std) (hN : N = apStd) (hF : F = firstL) (hR : R = roundsL) (hs : s.size ≤ 17592186044416)
    (nw : List Blk) (hnw : nw = [⟨drC (A.byts (ap1 N newK s)) (A.byts (ap1 N newV s)) (.int .i64 0), .var⟩])
    (K : Bool → SV → List Blk → Prop) (hK : K = FinH 2 (.ptr 2 0) [] nw (uniR 2 (.ptr 2 0) [] nw)) :
    Shut (afun (cxg A L [] [(40, updH A N)]) Tryd.f21 [.str s] [⟨.ints .u32 F, .ro⟩, ⟨.ints .u32 R, .ro⟩] K) := by
  obtain ⟨K2, hK2⟩ : ∃ x, x = ap1 N newK s := ⟨_, rfl⟩
  obtain ⟨V2, hV2⟩ : ∃ x, x = ap1 N newV s := ⟨_, rfl⟩
  obtain ⟨fi, fc, fw, fb, fn, fo, fs, fa, fe, fz, fy, ff, fl, fq, gadd, gsub, gmul, gmin, hlen', hget, hset, happ, hisub, irep, iput', rlen, rint', rbool', rstr', rset, rapp, rsub, rrep, hmkb, hbyts⟩ := A
  have hNF : N (List Int) Bool isFirst F = true := by subst hN; exact decide_eq_true hF
  have hNR : N (List Int) Bool isRounds R = true := by subst hN; exact decide_eq_true hR
  have zs : fl (fz s) 17592186044416 = true := by cases hA; exact decide_eq_true hs
  have eK : ap3 N updK (hmkb [0, 0, 0, 0, 0, 0, 0, 0, 0, 0, 0, 0, 0, 0, 0, 0, 0, 0, 0, 0, 0, 0, 0, 0, 0, 0, 0, 0, 0, 0, 0, 0]) (hmkb [1, 1, 1, 1, 1, 1, 1, 1, 1, 1, 1, 1, 1, 1, 1, 1, 1, 1, 1, 1, 1, 1, 1, 1, 1, 1, 1, 1, 1, 1, 1, 1]) s = K2 := by
    rw [hK2]; cases hA; subst hN
    simp only [apStd, ap1, ap3]
    unfold newK zers ones; rfl
  have eV : ap3 N updV (hmkb [0, 0, 0, 0, 0, 0, 0, 0, 0, 0, 0, 0, 0, 0, 0, 0, 0, 0, 0, 0, 0, 0, 0, 0, 0, 0, 0, 0, 0, 0, 0, 0]) (hmkb [1, 1, 1, 1, 1, 1, 1, 1, 1, 1, 1, 1, 1, 1, 1, 1, 1, 1, 1, 1, 1, 1, 1, 1, 1, 1, 1, 1, 1, 1, 1, 1]) s = V2 := by
    rw [hV2]; cases hA; subst hN
    simp only [apStd, ap1, ap3]
    unfold newV zers ones; rfl
  simp only [ap3] at eK eV
  have q1 : fq (hlen' [0, 0, 0, 0, 0, 0, 0, 0, 0, 0, 0, 0, 0, 0, 0, 0, 0, 0, 0, 0, 0, 0, 0, 0, 0, 0, 0, 0, 0, 0, 0, 0]) 32 = true := by cases hA; rfl
  have q2 : fq (hlen' [1, 1, 1, 1, 1, 1, 1, 1, 1, 1, 1, 1, 1, 1, 1, 1, 1, 1, 1, 1, 1, 1, 1, 1, 1, 1, 1, 1, 1, 1, 1, 1]) 32 = true := by cases hA; rfl
  apply Shut.mk
  cbv
  refine lp_rounds hL 33 hL (.inr rfl) ?_
  cbv
  repeat (simp (maxSteps := 10000000) only [eK, eV, hNF, hNR, zs, q1, q2]; cbv)
  rw [hnw, ← hK2, ← hV2] at hK
  rw [hK]
  cbv

theorem hcon_dnew : HCon Tryd.prog [0, 1] 21 (dnewH std apStd) := by
  refine hcon_shut Tryd.func21 rfl (by kernel_rfl) (fun args h v ch nw hF m us w H hv => ?_)
  unfold dnewH at hF
  split at hF
  · rename_i s kf F bf kr R br
    simp only [HR.mk.injEq, Bool.and_eq_true] at hF
    obtain ⟨⟨h1, h2, h3, h4, h5, h6, h7⟩, rfl, rfl, rfl⟩ := hF
    have h1 := kn_eq h1
    have h2 := kn_eq h2
    subst h1; subst h2
    have h7 : s.size ≤ 17592186044416 := by simpa [std] using h7
    refine ⟨_, [.str s], _, goodg (base := 2) (l := []) (d := [(40, updH std apStd)]) dy0 (by decide) (by simp) (by intro p hp; simp at hp; subst hp; exact hcon_drupd),
      rfl, by kernel_rfl, hv, Nat.le_of_ble_eq_true rfl, ?_, ?_, by simp, dnew_vc std apStd (ALoop 2) F R s rfl rfl rfl (of_decide_eq_true h5) (of_decide_eq_true h6) h7 _ rfl _ rfl⟩
    · exact ⟨⟨kOk_ro h3, rfl, rfl⟩, ⟨kOk_ro h4, rfl, rfl⟩, trivial⟩
    · rfl
  · simp at hF

end Go.Proofs.YtpnpfihjlobonaaDoor
