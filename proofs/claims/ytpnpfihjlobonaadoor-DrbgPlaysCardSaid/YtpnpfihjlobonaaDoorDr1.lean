/- Walks through the drbg package: its key, its next value. It has no conditions. -/
import Derived.Test.YtpnpfihjlobonaaDoorHm3
namespace Go.Proofs.YtpnpfihjlobonaaDoor
open Go.Eng Go.RowKit
set_option maxRecDepth 1000000
set_option maxHeartbeats 4000000
set_option linter.unusedSimpArgs false
set_option linter.unusedVariables false

/-- What a generator holds: its key, its value, how many bytes were told. -/
def drOf : Cs → Option (List Int × List Int × SV)
  | .cat 32 (.ints .u8 k) (.cat 32 (.ints .u8 v) (.lit [n])) => some (k, v, n)
  | .lit l => match asInts .u8 (l.take 32) with
    | none => none
    | some k => match asInts .u8 ((l.drop 32).take 32) with
      | none => none
      | some v => match (l.drop 32).drop 32 with
        | [n] => some (k, v, n)
        | _ => none
  | _ => none

def drC (k v : List Int) (n : SV) : Cs := .cat 32 (.ints .u8 k) (.cat 32 (.ints .u8 v) (.lit [n]))

theorem drOf_cat {st : Cs} {k v : List Int} {n : SV} (h : drOf st = some (k, v, n)) {ρ : List RE} {n' : SV} (hn : n'.sb ρ n) : (drC k v n').sb ρ st := by
  unfold drOf at h
  split at h
  · simp only [Option.some.injEq, Prod.mk.injEq] at h
    obtain ⟨rfl, rfl, rfl⟩ := h
    exact ⟨rfl, ⟨rfl, rfl⟩, rfl, ⟨rfl, rfl⟩, ⟨hn, trivial⟩⟩
  · rename_i l
    split at h
    · cases h
    rename_i k' hk
    split at h
    · cases h
    rename_i v' hv
    split at h
    · rename_i n'' hn''
      simp only [Option.some.injEq, Prod.mk.injEq] at h
      obtain ⟨rfl, rfl, rfl⟩ := h
      have hl : ((l.drop 32).drop 32).length = 1 := by rw [hn'']; rfl
      rw [List.length_drop, List.length_drop] at hl
      refine ⟨Nat.ble_eq_true_of_le (by omega), ?_, Nat.ble_eq_true_of_le (by rw [List.length_drop]; omega), ?_, ?_⟩
      · show (match asInts .u8 (l.take 32) with | some xs' => k' = xs' | none => False)
        rw [hk]
      · show (match asInts .u8 ((l.drop 32).take 32) with | some xs' => v' = xs' | none => False)
        rw [hv]
      · show SV.sbs ρ [n'] ((l.drop 32).drop 32)
        rw [hn'']
        exact ⟨hn, trivial⟩
    · cases h
  · cases h

theorem i64_sb {v : SV} {n : Int} (h : SV.i64 v = some n) {ρ : List RE} : (SV.int .i64 n).sb ρ v := by
  unfold SV.i64 at h
  split at h
  · cases h; exact ⟨rfl, rfl⟩
  · cases h; exact ⟨rfl, rfl⟩
  · cases h

/-- A contract of one that has a generator: what it hands back, the generator behind it, new blocks. -/
def drH (A : Ar) (N : Ap) (args : List SV) (h : List Blk) (rest : List SV → List Int → List Int → Int → HR) : HR := match args, h with
  | .ptr id 0 :: xs, [⟨.ints kf F, bf⟩, ⟨.ints kr R, br⟩, ⟨st, .var⟩] => match drOf st with
    | some (k, v, nv) => (match SV.i64 nv with
      | some n => (match rest xs k v n with
        | ⟨ok, r, ch, nw⟩ => ⟨Nat.beq id 2 && (Nat.beq (kn kf) (kn .u32) && (Nat.beq (kn kr) (kn .u32) && (liveK bf && (liveK br && (ap1 N isFirst F && (ap1 N isRounds R && (A.neq (A.ilen k) 32 && (A.neq (A.ilen v) 32 && ok)))))))),
          r, ch, nw⟩)
      | none => ⟨false, .bad, [], []⟩)
    | none => ⟨false, .bad, [], []⟩
  | _, _ => ⟨false, .bad, [], []⟩

def keyH (A : Ar) (N : Ap) : HF := fun args h => drH A N args h fun xs k v n => match xs with
  | [] => ⟨true, keyV N (A.mkb k) 3 4, [none, none, some ⟨drC k v (.int .i64 n), .var⟩], [⟨.ints .u8 [], .ro⟩, ⟨.ints .u8 [], .ro⟩]⟩
  | _ => ⟨false, .bad, [], []⟩

def turnH (A : Ar) (N : Ap) : HF := fun args h => drH A N args h fun xs k v n => match xs with
  | [] => ⟨true, .tup [], [none, none, some ⟨drC k (A.byts (ap2 N macN (A.mkb k) (A.mkb v))) (.int .i64 n), .var⟩], []⟩
  | _ => ⟨false, .bad, [], []⟩

theorem drH_inv {args : List SV} {h : List Blk} {rest : List SV → List Int → List Int → Int → HR} {x : SV} {ch : List (Option Blk)} {nw : List Blk} (hF : drH std apStd args h rest = ⟨true, x, ch, nw⟩) :
    ∃ xs F bf R br st k v nv n, args = .ptr 2 0 :: xs ∧ h = [⟨.ints .u32 F, bf⟩, ⟨.ints .u32 R, br⟩, ⟨st, .var⟩] ∧ drOf st = some (k, v, nv) ∧ SV.i64 nv = some n ∧ liveK bf = true ∧ liveK br = true ∧ F = firstL ∧ R = roundsL ∧
      k.length = 32 ∧ v.length = 32 ∧ rest xs k v n = ⟨true, x, ch, nw⟩ := by
  unfold drH at hF
  split at hF
  · rename_i id xs kf F bf kr R br st
    split at hF
    · rename_i k v nv hst
      split at hF
      · rename_i n hn
        cases hr : rest xs k v n with
        | mk ok r c w =>
          rw [hr] at hF
          simp only [HR.mk.injEq, Bool.and_eq_true] at hF
          obtain ⟨⟨h1, h2, h3, h4, h5, h6, h7, h8, h9, h10⟩, rfl, rfl, rfl⟩ := hF
          have h1 : id = 2 := by simpa using h1
          have h2 := kn_eq h2
          have h3 := kn_eq h3
          subst h1; subst h2; subst h3; subst h10
          exact ⟨xs, F, bf, R, br, st, k, v, nv, n, rfl, rfl, hst, hn, h4, h5, of_decide_eq_true h6, of_decide_eq_true h7, by simpa [std] using h8, by simpa [std] using h9, hr⟩
      · simp at hF
    · simp at hF
  · simp at hF

theorem iput_all {v : List Int} {M : ByteArray} (hv : v.length = 32) (hM : M.size = 32) : iput v 0 (((byts M).drop 0).take 32) = byts M := by
  have hl : (byts M).length = 32 := by rw [byts_length, hM]
  rw [List.drop_zero, List.take_of_length_le (by omega)]
  unfold iput
  rw [List.take_zero, List.nil_append, List.take_of_length_le (by omega), List.drop_of_length_le (by omega), List.append_nil]

theorem drkey_vc (A : Ar) (N : Ap) (L : LP) (F R k v : List Int) (n : Int) (hA : A = std) (hN : N = apStd) (hF : F = firstL) (hR : R = roundsL) (hk : k.length = 32) (hv : v.length = 32)
    (x : SV) (hx : x = keyV N (A.mkb k) 3 4) (ch : List (Option Blk)) (hch : ch = [none, none, some ⟨drC k v (.int .i64 n), .var⟩]) (nw : List Blk) (hnw : nw = [⟨.ints .u8 [], .ro⟩, ⟨.ints .u8 [], .ro⟩])
    (K : Bool → SV → List Blk → Prop) (hK : K = FinH 3 x ch nw (uniR 3 x ch nw)) :
    Shut (afun (cxg A L [] [(35, hnewH A N)]) Tryd.f61 [.ptr 2 0] [⟨.ints .u32 F, .ro⟩, ⟨.ints .u32 R, .ro⟩, ⟨drC k v (.int .i64 n), .var⟩] K) := by
  obtain ⟨fi, fc, fw, fb, fn, fo, fs, fa, fe, fz, fy, ff, fl, fq, gadd, gsub, gmul, gmin, hlen', hget, hset, happ, hisub, irep, iput', rlen, rint', rbool', rstr', rset, rapp, rsub, rrep, hmkb, hbyts⟩ := A
  have hNF : N (List Int) Bool isFirst F = true := by subst hN; exact decide_eq_true hF
  have hNR : N (List Int) Bool isRounds R = true := by subst hN; exact decide_eq_true hR
  have hsk : hisub k 0 32 = k := by cases hA; show (k.drop 0).take 32 = k; rw [List.drop_zero, List.take_of_length_le (by omega)]
  have hsv : hisub v 0 32 = v := by cases hA; show (v.drop 0).take 32 = v; rw [List.drop_zero, List.take_of_length_le (by omega)]
  have fk : fq (hlen' k) 32 = true := by cases hA; exact decide_eq_true hk
  have fv : fq (hlen' v) 32 = true := by cases hA; exact decide_eq_true hv
  have gk : fl (gadd 0 32) (hlen' k) = true := by cases hA; exact decide_eq_true (by show 0 + 32 ≤ k.length; omega)
  have gv : fl (gadd 0 32) (hlen' v) = true := by cases hA; exact decide_eq_true (by show 0 + 32 ≤ v.length; omega)
  have zk : fl (fz (hmkb k)) 17592186044416 = true := by cases hA; exact decide_eq_true (by show (mkb k).size ≤ _; rw [size_mkb]; omega)
  have zv : fl (fz (hmkb v)) 17592186044416 = true := by cases hA; exact decide_eq_true (by show (mkb v).size ≤ _; rw [size_mkb]; omega)
  apply Shut.mk
  cbv
  simp (maxSteps := 10000000) only [hsk]
  rw [hx, hch, hnw] at hK
  rw [hK]
  cbv
  simp (maxSteps := 10000000) only [hNF, hNR, fk, fv, gk, gv, zk, zv]
  exact ⟨trivial, trivial⟩

theorem hcon_drkey : HCon Tryd.prog [0, 1] 61 (keyH std apStd) := by
  refine hcon_shut Tryd.func61 rfl (by kernel_rfl) (fun args h x ch nw hF m us w H hv => ?_)
  obtain ⟨xs, F, bf, R, br, st, k, v, nv, n, rfl, rfl, hst, hn, h4, h5, h6, h7, h8, h9, hr⟩ := drH_inv hF
  cases xs with
  | cons _ _ => simp at hr
  | nil =>
    simp only [HR.mk.injEq, true_and] at hr
    obtain ⟨rfl, rfl, rfl⟩ := hr
    refine ⟨_, [.ptr 2 0], _, goodg (base := 3) (l := []) (d := [(35, hnewH std apStd)]) dy0 (by decide) (by simp) (by intro p hp; simp at hp; subst hp; exact hcon_hnew),
      rfl, by kernel_rfl, hv, Nat.le_of_ble_eq_true rfl, ?_, ?_, by simp, drkey_vc std apStd (ALoop 3) F R k v n rfl rfl h6 h7 h8 h9 _ rfl _ rfl _ rfl _ rfl⟩
    · exact ⟨⟨kOk_ro h4, rfl, rfl⟩, ⟨kOk_ro h5, rfl, rfl⟩, ⟨rfl, drOf_cat hst (i64_sb hn)⟩, trivial⟩
    · rfl

theorem goodgp {base : Nat} {l : Pure} {d : Heap} (q : List Nat) (pl : Nat → PT) (hb : 2 ≤ base) (h : ∀ p ∈ l, Con Tryd.prog p.1 p.2) (h' : ∀ p ∈ d, HCon Tryd.prog [0, 1] p.1 p.2) : Eng.Good Tryd.prog (cxhp std (ALoop base) noJ l d [0, 1] q dy0 pl) base :=
  ⟨good0p rfl h h', rfl, .inr rfl, hb⟩

def turnPl : List (Nat × PT) := [(0, .step 0 (.step 1 (.step 2 (.step 3 (.step 4 (.step 6 (.step 7 (.step 8 (.step 9 (.alt 5 (.step 10 (.step 11 (.step 12 (.step 13 .done)))) (.alt 10 (.alt 5 (.step 11 (.step 12 (.step 13 .done))) (.alt 11 (.step 5 (.step 12 (.step 13 .done))) .nil)) .nil)))))))))))]

theorem drturn_vc (A : Ar) (N : Ap) (L : LP) (F R k v : List Int) (n : Int) (hA : A = std) (hN : N = apStd) (hF : F = firstL) (hR : R = roundsL) (hk : k.length = 32) (hv : v.length = 32)
    (ch : List (Option Blk)) (hch : ch = [none, none, some ⟨drC k (A.byts (ap2 N macN (A.mkb k) (A.mkb v))) (.int .i64 n), .var⟩])
    (K : Bool → SV → List Blk → Prop) (hK : K = FinH 3 (.tup []) ch [] (uniR 3 (.tup []) ch [])) :
    Shut (afun (cxhp A L noJ [] [(61, keyH A N), (36, ksumH A N)] [0, 1] [] dy0 (pll turnPl)) Tryd.f41 [.ptr 2 0] [⟨.ints .u32 F, .ro⟩, ⟨.ints .u32 R, .ro⟩, ⟨drC k v (.int .i64 n), .var⟩] K) := by
  obtain ⟨fi, fc, fw, fb, fn, fo, fs, fa, fe, fz, fy, ff, fl, fq, gadd, gsub, gmul, gmin, hlen', hget, hset, happ, hisub, irep, iput', rlen, rint', rbool', rstr', rset, rapp, rsub, rrep, hmkb, hbyts⟩ := A
  have hNF : N (List Int) Bool isFirst F = true := by subst hN; exact decide_eq_true hF
  have hNR : N (List Int) Bool isRounds R = true := by subst hN; exact decide_eq_true hR
  have hsk : hisub k 0 32 = k := by cases hA; show (k.drop 0).take 32 = k; rw [List.drop_zero, List.take_of_length_le (by omega)]
  have hsv : hisub v 0 32 = v := by cases hA; show (v.drop 0).take 32 = v; rw [List.drop_zero, List.take_of_length_le (by omega)]
  have fk : fq (hlen' k) 32 = true := by cases hA; exact decide_eq_true hk
  have fv : fq (hlen' v) 32 = true := by cases hA; exact decide_eq_true hv
  have gk : fl (gadd 0 32) (hlen' k) = true := by cases hA; exact decide_eq_true (by show 0 + 32 ≤ k.length; omega)
  have gv : fl (gadd 0 32) (hlen' v) = true := by cases hA; exact decide_eq_true (by show 0 + 32 ≤ v.length; omega)
  have zk : fl (fz (hmkb k)) 17592186044416 = true := by cases hA; exact decide_eq_true (by show (mkb k).size ≤ _; rw [size_mkb]; omega)
  have zv : fl (fz (hmkb v)) 17592186044416 = true := by cases hA; exact decide_eq_true (by show (mkb v).size ≤ _; rw [size_mkb]; omega)
  have l0 : fq (hlen' []) 0 = true := by cases hA; rfl
  have l64 : fc .eql 64 64 = true := by cases hA; rfl
  have k54 := key8 hN (hmkb k) 54
  have k92 := key8 hN (hmkb k) 92
  have km := mac_two hN (hmkb k) (hmkb v)
  have hM : (N ByteArray ByteArray (N ByteArray (ByteArray → ByteArray) macN (hmkb k)) (hmkb v)).size = 32 := by subst hN; simp only [apStd]; exact macN_size _ _
  obtain ⟨M, hMe⟩ : ∃ M, M = N ByteArray ByteArray (N ByteArray (ByteArray → ByteArray) macN (hmkb k)) (hmkb v) := ⟨_, rfl⟩
  have hch' : ch = [none, none, some ⟨drC k (hbyts M) (.int .i64 n), .var⟩] := by rw [hch, hMe]; rfl
  rw [← hMe] at hM
  have km' := km.trans hMe.symm
  have q1 : fl 32 (hlen' v) = true := by cases hA; exact decide_eq_true (by show 32 ≤ v.length; omega)
  have q2 : fc .leq (fo (fz M)) 9223372036854775807 = true := by cases hA; exact decide_eq_true (by show (M.size : Int) ≤ _; omega)
  have q3 : iput' v 0 (hisub (hbyts M) 0 32) = hbyts M := by
    cases hA
    exact iput_all hv hM
  apply Shut.mk
  cbv
  repeat (simp (maxSteps := 10000000) only [hsk, hsv, k54, k92, km', hNF, hNR, fk, fv, gk, gv, zk, zv, l0, l64, q1, q2, q3]; cbv)
  rw [hch'] at hK
  rw [hK]
  cbv

theorem hcon_drturn : HCon Tryd.prog [0, 1] 41 (turnH std apStd) := by
  refine hcon_shut Tryd.func41 rfl (by kernel_rfl) (fun args h x ch nw hF m us w H hv => ?_)
  obtain ⟨xs, F, bf, R, br, st, k, v, nv, n, rfl, rfl, hst, hn, h4, h5, h6, h7, h8, h9, hr⟩ := drH_inv hF
  cases xs with
  | cons _ _ => simp at hr
  | nil =>
    simp only [HR.mk.injEq, true_and] at hr
    obtain ⟨rfl, rfl, rfl⟩ := hr
    refine ⟨_, [.ptr 2 0], _, goodgp (base := 3) (l := []) (d := [(61, keyH std apStd), (36, ksumH std apStd)]) [] (pll turnPl) (by decide) (by simp) (by intro p hp; simp at hp; rcases hp with rfl | rfl; exact hcon_drkey; exact hcon_ksum),
      rfl, by kernel_rfl, hv, Nat.le_of_ble_eq_true rfl, ?_, ?_, by simp, drturn_vc std apStd (ALoop 3) F R k v n rfl rfl h6 h7 h8 h9 _ rfl _ rfl⟩
    · exact ⟨⟨kOk_ro h4, rfl, rfl⟩, ⟨kOk_ro h5, rfl, rfl⟩, ⟨rfl, drOf_cat hst (i64_sb hn)⟩, trivial⟩
    · rfl

end Go.Proofs.YtpnpfihjlobonaaDoor
