/- Walks through the reference of the sha package: a text's sum. It has no conditions. -/
import Derived.Test.YtpnpfihjlobonaaDoorRef5
import Derived.Test.YtpnpfihjlobonaaDoorRef6
import Derived.Test.YtpnpfihjlobonaaDoorSha5
namespace Go.Proofs.YtpnpfihjlobonaaDoor
open Go.Eng Go.RowKit
set_option maxRecDepth 1000000
set_option maxHeartbeats 4000000
set_option linter.unusedSimpArgs false
set_option linter.unusedVariables false

def rowN (S : St) (i : Nat) : Nat := match Eng.look S.t i with
  | .row _ n => n
  | _ => 0
def rowL (S : St) (i : Nat) : List Int := match Eng.look S.t i with
  | .row w _ => cellL S w
  | _ => []

def zN (s : ByteArray) : Nat := (119 - s.size % 64) % 64

/-- At the head of the loop that fills with zeros. -/
def waHd (H R : List Int) (s : ByteArray) : Nat → List Int × Nat → St
  | _, (B, len) => ⟨[(1, .str s), (2, .ptr 2 0), (5, .row 3 len)], [⟨.ints .u32 H, .ro⟩, ⟨.ints .u32 R, .ro⟩, ⟨.lit [.row 0 8, .row 1 64], .var⟩, ⟨.ints .u8 B, .row 1⟩], true⟩
def waEx (S : St) : List Int × Nat := (rowL S 5, rowN S 5)
def waOk (s : ByteArray) (z : Nat) (n : Nat) (d : List Int × Nat) : Prop := n ≤ z ∧ d.1 = byts s ++ 128 :: List.replicate (z - n) 0 ∧ d.2 = d.1.length
/-- At the head of the loop over the blocks. -/
def wbHd (H R B : List Int) (len : Nat) : Nat → List Int × Int → St
  | _, (V, i) => ⟨[(2, .ptr 2 0), (5, .row 3 len), (8, .row 4 8), (9, .int .i64 i)], [⟨.ints .u32 H, .ro⟩, ⟨.ints .u32 R, .ro⟩, ⟨.lit [.row 0 8, .row 1 64], .var⟩, ⟨.ints .u8 B, .ro⟩, ⟨.ints .u32 V, .ro⟩], true⟩
def wbEx (S : St) : List Int × Int := (rowL S 8, slotI S 9)
def wbOk (B Y : List Int) (q : Nat) (n : Nat) (d : List Int × Int) : Prop := n ≤ q ∧ d.2 = ((64 * (q - n) : Nat) : Int) ∧ eatH d.1 (B.drop (64 * (q - n))) = Y ∧ d.1.length = 8

theorem pad_bits {s : ByteArray} (h : s.size ≤ 35184372088832) : iop .mul .u64 (IntKind.u64.wrap (s.size : Int)) 8 = iop .shl .u64 (bitsN s) 3 := by
  have e1 : IntKind.u64.wrap (s.size : Int) = s.size := by rw [IntKind.wrap_u64]; omega
  have e2 : bitsN s = s.size := by
    unfold bitsN
    show IntKind.u64.wrap (0 + _) = _
    rw [e1, IntKind.wrap_u64]; omega
  rw [e2, e1]
  rfl

theorem with_vc (A : Ar) (N : Ap) (L : LP) (H R : List Int) (s : ByteArray) (hL : L = ALoop 2) (hA : A = std) (hN : N = apStd) (hH : H = firstL) (hR : R = roundsL) (hs : s.size ≤ 35184372088832) (v : SV) (hv : v = .str (ap1 N sumP s))
    (K : Bool → SV → List Blk → Prop) (hK : K = FinH 2 v [] [] (uniR 2 v [] [])) :
    Shut (afun (cxh A L noJ [] [(59, rblockH A N)] [] dy0) Tryd.f39 [.agg [.row 0 8, .row 1 64], .str s] [⟨.ints .u32 H, .ro⟩, ⟨.ints .u32 R, .ro⟩] K) := by
  have hA' := hA
  obtain ⟨fi, fc, fw, fb, fn, fo, fs, fa, fe, fz, fy, ff, fl, fq, gadd, gsub, gmul, gmin, hlen', hget, hset, happ, hisub, irep, iput', rlen, rint', rbool', rstr', rset, rapp, rsub, rrep, hmkb, hbyts⟩ := A
  have ho : ∀ a : Nat, fo a = (a : Int) := by cases hA; intro a; rfl
  have hq : ∀ a, fq a a = true := by cases hA; intro a; simp [std]
  have hle : fl = fun a b => decide (a ≤ b) := by cases hA; rfl
  have ha : ∀ a b, gadd a b = a + b := by cases hA; intro a b; rfl
  have hm1 : ∀ a, gmul a 1 = a := by cases hA; intro a; exact Nat.mul_one a
  have hfz : fz s = s.size := by cases hA; rfl
  have hby : hbyts s = byts s := by cases hA; rfl
  have hil : ∀ x, hlen' x = x.length := by cases hA; intro x; rfl
  have hap : ∀ x y, happ x y = x ++ y := by cases hA; intro x y; rfl
  have hbl : (byts s).length = s.size := byts_length s
  have hmx : ∀ a : Nat, a ≤ 70368744177664 → fc .leq (fo a) 9223372036854775807 = true := by cases hA; intro a ha; exact decide_eq_true (by show (a : Int) ≤ _; omega)
  have hrem : ∀ a : Nat, fi .rem .i64 (fo a) 64 = ((a % 64 : Nat) : Int) := by cases hA; intro a; rfl
  have hne : ∀ a : Nat, fc .neq (a : Int) 56 = !(decide (a = 56)) := by
    cases hA; intro a
    show (((a : Int) != 56) = _)
    by_cases h : a = 56
    · subst h; rfl
    · rw [decide_eq_false h]
      simp only [bne_iff_ne, ne_eq, Bool.not_false]
      omega
  obtain ⟨z, hz⟩ : ∃ z, z = (119 - s.size % 64) % 64 := ⟨_, rfl⟩
  obtain ⟨oka, hoka⟩ : ∃ f, f = waOk s z := ⟨_, rfl⟩
  have i1 : fq (hlen' (hbyts s)) (fz s) = true := by rw [hil, hby, hfz, hbl]; exact hq _
  have i2 : fl (gmul (gadd (fz s) 1) 1) 140737488355328 = true := by rw [hm1, ha, hfz, hle]; exact decide_eq_true (by omega)
  have i3 := hmx s.size (by omega)
  apply Shut.mk
  cbv
  refine lp_ex hL z waEx (waHd H R s) oka ?_ ?_ hL (.inr rfl)
  · cbv
    simp only [i1, i2]
    refine ⟨?_, trivial, trivial⟩
    rw [hoka, hap, hby, ha, hfz]
    refine ⟨Nat.le_refl _, ?_, ?_⟩
    · rw [Nat.sub_self]; rfl
    · show s.size + 1 = (byts s ++ [128]).length
      rw [List.length_append, hbl]; rfl
  intro n hn d hd
  obtain ⟨B, len⟩ := d
  obtain ⟨j, hj, hB, hlen⟩ : ∃ j : Nat, j + n = z ∧ B = byts s ++ 128 :: List.replicate j 0 ∧ len = s.size + 1 + j := by
    rw [hoka] at hd
    obtain ⟨h1, h2, h3⟩ := hd
    simp only at h2 h3
    refine ⟨z - n, by omega, h2, ?_⟩
    rw [h3, h2, List.length_append, List.length_cons, List.length_replicate, hbl]; omega
  have hBl : B.length = len := by rw [hB, List.length_append, List.length_cons, List.length_replicate, hbl]; omega
  have j1 := hmx len (by omega)
  cbv
  cases h : fc .neq (fi .rem .i64 (fo len) 64) 56 <;> cbv
  · have hjz : j = z := by
      rw [hrem, hne] at h
      have h' : len % 64 = 56 := by simpa using h
      omega
    obtain ⟨m, hm⟩ : ∃ m, m = fi .mul .u64 (fw .u64 (fo (fz s))) 8 := ⟨_, rfl⟩
    have hm' : m = iop .shl .u64 (bitsN s) 3 := by
      rw [hm, ← pad_bits hs]; cases hA; rfl
    obtain ⟨Bf, hBf⟩ : ∃ Bf, Bf = happ (happ (happ (happ (happ (happ (happ (happ B [fw .u8 (fi .shr .u64 m 56)]) [fw .u8 (fi .shr .u64 m 48)]) [fw .u8 (fi .shr .u64 m 40)]) [fw .u8 (fi .shr .u64 m 32)]) [fw .u8 (fi .shr .u64 m 24)]) [fw .u8 (fi .shr .u64 m 16)]) [fw .u8 (fi .shr .u64 m 8)]) [fw .u8 (fi .shr .u64 m 0)] := ⟨_, rfl⟩
    have hBf' : Bf = byts s ++ padN (s.size % 64) (bitsN s) := by
      rw [hBf]
      simp only [hap]
      rw [hB, hjz, hm', hz]
      cases hA
      simp only [padN, be8, List.append_assoc, List.cons_append, List.nil_append]
    obtain ⟨Lf, hLf⟩ : ∃ Lf, Lf = Bf.length := ⟨_, rfl⟩
    have hBfl : gadd (gadd (gadd (gadd (gadd (gadd (gadd (gadd len 1) 1) 1) 1) 1) 1) 1) 1 = Lf := by
      rw [hLf, hBf]; simp only [hap, ha, List.length_append, List.length_cons, List.length_nil, hBl]
    have hBlen : Lf = len + 8 := by rw [← hBfl]; simp only [ha]
    obtain ⟨q, hq64⟩ : ∃ q, Lf = 64 * q := ⟨(len + 8) / 64, by rw [hBlen]; omega⟩
    refine lp_rounds hL 9 hL (.inr rfl) ?_
    cbv
    simp (maxSteps := 10000000) only [← hm]
    simp (maxSteps := 10000000) only [← hBf, hBfl]
    obtain ⟨Y, hY⟩ : ∃ Y, Y = eatH H Bf := ⟨_, rfl⟩
    obtain ⟨okb, hokb⟩ : ∃ f, f = wbOk Bf Y q := ⟨_, rfl⟩
    have b0 : fl (gadd len 1) 140737488355328 = true := by rw [hle]; exact decide_eq_true (by simp only [ha]; omega)
    have b1 : fl (gadd (gadd len 1) 1) 140737488355328 = true := by rw [hle]; exact decide_eq_true (by simp only [ha]; omega)
    have b2 : fl (gadd (gadd (gadd len 1) 1) 1) 140737488355328 = true := by rw [hle]; exact decide_eq_true (by simp only [ha]; omega)
    have b3 : fl (gadd (gadd (gadd (gadd len 1) 1) 1) 1) 140737488355328 = true := by rw [hle]; exact decide_eq_true (by simp only [ha]; omega)
    have b4 : fl (gadd (gadd (gadd (gadd (gadd len 1) 1) 1) 1) 1) 140737488355328 = true := by rw [hle]; exact decide_eq_true (by simp only [ha]; omega)
    have b5 : fl (gadd (gadd (gadd (gadd (gadd (gadd len 1) 1) 1) 1) 1) 1) 140737488355328 = true := by rw [hle]; exact decide_eq_true (by simp only [ha]; omega)
    have b6 : fl (gadd (gadd (gadd (gadd (gadd (gadd (gadd len 1) 1) 1) 1) 1) 1) 1) 140737488355328 = true := by rw [hle]; exact decide_eq_true (by simp only [ha]; omega)
    have b7 : fl (gadd (gadd (gadd (gadd (gadd (gadd (gadd (gadd len 1) 1) 1) 1) 1) 1) 1) 1) 140737488355328 = true := by rw [hle]; exact decide_eq_true (by simp only [ha]; omega)
    have b9 : fl Lf 140737488355328 = true := by rw [hle]; exact decide_eq_true (by omega)
    have hlB : hlen' B = len := by rw [hil]; exact hBl
    have hlapp : ∀ x y, hlen' (happ x y) = gadd (hlen' x) (hlen' y) := by cases hA; intro x y; exact List.length_append
    have hl1 : ∀ x, hlen' [x] = 1 := by cases hA; intro x; rfl
    have x64 : fc .neq 64 0 = true := by cases hA; rfl
    have i3' : fc .leq (fo (fz s)) 9223372036854775807 = true := by rw [hfz]; exact i3
    have g0 : fc .geq 0 0 = true := by cases hA; rfl
    have g8 : fc .geq 8 0 = true := by cases hA; rfl
    have g16 : fc .geq 16 0 = true := by cases hA; rfl
    have g24 : fc .geq 24 0 = true := by cases hA; rfl
    have g32 : fc .geq 32 0 = true := by cases hA; rfl
    have g40 : fc .geq 40 0 = true := by cases hA; rfl
    have g48 : fc .geq 48 0 = true := by cases hA; rfl
    have g56 : fc .geq 56 0 = true := by cases hA; rfl
    refine lp_ex hL q wbEx (wbHd H R Bf Lf) okb ?_ ?_ hL (.inr rfl)
    · cbv
      refine ⟨?_, ?_, trivial⟩
      · rw [hokb]
        refine ⟨Nat.le_refl _, ?_, ?_, ?_⟩
        · rw [Nat.sub_self]; rfl
        · rw [Nat.sub_self]; exact hY.symm
        · rw [hH]; rfl
      · simp only [hq, hm1, hlapp, hl1, hlB, b0, b1, b2, b3, b4, b5, b6, b7, b9, g0, g8, g16, g24, g32, g40, g48, g56, x64, i3', j1]
    clear b0 b1 b2 b3 b4 b5 b6 b7 h hd j1 hB hBl hlB
    intro n hn d hd
    obtain ⟨V, i⟩ := d
    obtain ⟨k, hk, hi, hV, hV8⟩ : ∃ k : Nat, k + n = q ∧ i = ((64 * k : Nat) : Int) ∧ eatH V (Bf.drop (64 * k)) = Y ∧ V.length = 8 := by
      rw [hokb] at hd
      obtain ⟨h1, h2, h3, h4⟩ := hd
      simp only at h2 h3 h4
      exact ⟨q - n, by omega, h2, h3, h4⟩
    have hlf : fc .lss i (fo Lf) = decide (k < q) := by
      rw [ho, hi, hq64]; cases hA
      show decide (((64 * k : Nat) : Int) < ((64 * q : Nat) : Int)) = _
      exact decide_eq_decide.2 (by omega)
    have j2 := hmx Lf (by omega)
    cbv
    cases h5 : fc .lss i (fo Lf) <;> cbv
    · refine lp_rounds hL 9 hL (.inr rfl) ?_
      cbv
      have hkq : k = q := by
        rw [hlf] at h5
        have := of_decide_eq_false h5
        omega
      have hVY : V = Y := by
        rw [← hV]
        have : Bf.drop (64 * k) = [] := List.drop_of_length_le (by omega)
        rw [this]
        exact (eat_end (by simp) V).1.symm
      have f1 : fl 1 8 = true := by cases hA; rfl
      have f2 : fl 2 8 = true := by cases hA; rfl
      have f3 : fl 3 8 = true := by cases hA; rfl
      have f4 : fl 4 8 = true := by cases hA; rfl
      have f5 : fl 5 8 = true := by cases hA; rfl
      have f6 : fl 6 8 = true := by cases hA; rfl
      have f7 : fl 7 8 = true := by cases hA; rfl
      have f8 : fl 8 8 = true := by cases hA; rfl
      have u : ∀ k, k < 8 → fl (gadd k 1) (hlen' V) = true := by
        intro k hk
        rw [hil, ha, hle]; exact decide_eq_true (by omega)
      have u0 := u 0 (by omega)
      have u1 := u 1 (by omega)
      have u2 := u 2 (by omega)
      have u3 := u 3 (by omega)
      have u4 := u 4 (by omega)
      have u5 := u 5 (by omega)
      have u6 := u 6 (by omega)
      have u7 := u 7 (by omega)
      clear u
      refine finH0 hK ?_ (by rw [hv]; exact rfl) ?_
      · rw [Bool.and_eq_true]
        refine ⟨by cbv, ?_⟩
        simp (maxSteps := 10000000) only [hq, u0, u1, u2, u3, u4, u5, u6, u7, g8, g16, g24, j2, f1, f2, f3, f4, f5, f6, f7, f8]
      · obtain ⟨E, hE⟩ : ∃ E, E = ap1 N sumP s := ⟨_, rfl⟩
        rw [hv, ← hE]
        cbv
        rw [hE, hVY, hY, hBf', hH]
        cases hA; subst hN
        simp only [ap1, apStd]
        unfold sumP
        rfl
    · have hkq : k < q := by
        rw [hlf] at h5
        exact of_decide_eq_true h5
      obtain ⟨n', rfl⟩ : ∃ n', n = n' + 1 := ⟨n - 1, by omega⟩
      have hLn : Lf ≤ 35184372088832 + 100 := by omega
      have hi64 : fi .add .i64 i 64 = ((64 * (k + 1) : Nat) : Int) := by
        rw [hi]; cases hA
        show IntKind.i64.wrap (((64 * k : Nat) : Int) + 64) = _
        rw [IntKind.wrap_i64]; omega
      have hfi : fn i = 64 * k := by rw [hi]; cases hA; exact Int.toNat_natCast _
      have hfj : fn (fi .add .i64 i 64) = 64 * (k + 1) := by rw [hi64]; cases hA; exact Int.toNat_natCast _
      have hgs : gsub (64 * (k + 1)) (64 * k) = 64 := by cases hA; show 64 * (k + 1) - 64 * k = 64; omega
      have hpc : hisub Bf (64 * k) 64 = (Bf.drop (64 * k)).take 64 := by cases hA; rfl
      have hdl : 64 ≤ (Bf.drop (64 * k)).length := by rw [List.length_drop]; omega
      have k1 : fq (hlen' V) 8 = true := by rw [hil, hV8]; exact hq _
      have k2 : N (List Int) Bool isRounds R = true := by subst hN; exact decide_eq_true hR
      have k3 : fl 64 (hlen' (hisub Bf (64 * k) 64)) = true := by
        rw [hpc, hil, List.length_take, hle]; exact decide_eq_true (by omega)
      have k4 : fc .leq 0 i = true := by rw [hi]; cases hA; exact decide_eq_true (Int.natCast_nonneg (64 * k))
      have k5 : fc .leq 0 ((64 * (k + 1) : Nat) : Int) = true := by cases hA; exact decide_eq_true (Int.natCast_nonneg (64 * (k + 1)))
      have k6 : fl (64 * k) (64 * (k + 1)) = true := by rw [hle]; exact decide_eq_true (by omega)
      have k7 : fl (64 * (k + 1)) Lf = true := by rw [hle]; exact decide_eq_true (by omega)
      have k8 : fl (gadd (64 * k) 64) (hlen' Bf) = true := by rw [hil, ha, hle]; exact decide_eq_true (by omega)
      cbv
      rw [hfj, hfi, hi64, hgs]
      refine ⟨?_, ?_, trivial⟩
      · rw [hokb, hpc]
        have hqn : q - n' = k + 1 := by omega
        refine ⟨by omega, by rw [hqn], ?_, ?_⟩
        · subst hN
          show eatH (blockN V ((Bf.drop (64 * k)).take 64)) (Bf.drop (64 * (q - n'))) = Y
          rw [hqn, blockN_take, ← hV, (eat_step hdl V).1, List.drop_drop]
          rfl
        · subst hN
          exact blockN_len _ _
      · simp only [hq, k1, k2, k3, k4, k5, k6, k7, k8, j2]
  · have hn0 : n ≠ 0 := by
      intro h0
      rw [hrem, hne] at h
      have h' : len % 64 ≠ 56 := by simpa using h
      omega
    obtain ⟨n', rfl⟩ : ∃ n', n = n' + 1 := ⟨n - 1, by omega⟩
    have hlB : fq (hlen' B) len = true := by rw [hil, hBl]; exact hq _
    have b0 : fl (gmul (gadd len 1) 1) 140737488355328 = true := by rw [hm1, hle]; exact decide_eq_true (by simp only [ha]; omega)
    have x64 : fc .neq 64 0 = true := by cases hA; rfl
    cbv
    refine ⟨?_, ?_, trivial⟩
    · rw [hoka, hap, ha]
      have hjn : z - n' = j + 1 := by omega
      refine ⟨by omega, ?_, ?_⟩
      · rw [hjn]
        show B ++ [0] = _
        rw [hB, List.replicate_succ']
        simp
      · show len + 1 = (B ++ [0]).length
        rw [List.length_append, hBl]; rfl
    · simp only [hlB, b0, x64, j1]

def withH (A : Ar) (N : Ap) : HF := fun args h => match args, h with
  | [.agg [.row i 8, .row j 64], .str s], [⟨.ints ki H, bi⟩, ⟨.ints kj R, bj⟩] =>
    ⟨Nat.beq i 0 && (Nat.beq j 1 && (Nat.beq (kn ki) (kn .u32) && (Nat.beq (kn kj) (kn .u32) && (liveK bi && (liveK bj && (ap1 N isFirst H && (ap1 N isRounds R && A.nle (A.size s) 35184372088832))))))), .str (ap1 N sumP s), [], []⟩
  | _, _ => ⟨false, .bad, [], []⟩

theorem hcon_with : HCon Tryd.prog [] 39 (withH std apStd) := by
  refine hcon_shut Tryd.func39 rfl (by kernel_rfl) (fun args h v ch nw hF m us w HT hv => ?_)
  unfold withH at hF
  split at hF
  · rename_i i j s ki H bi kj R bj
    simp only [HR.mk.injEq, Bool.and_eq_true] at hF
    obtain ⟨⟨h1, h2, h3, h4, h5, h6, h7, h8, h9⟩, rfl, rfl, rfl⟩ := hF
    have h1 : i = 0 := by simpa using h1
    have h2 : j = 1 := by simpa using h2
    have h3 := kn_eq h3
    have h4 := kn_eq h4
    subst h1; subst h2; subst h3; subst h4
    have h7 : H = firstL := of_decide_eq_true h7
    have h8 : R = roundsL := of_decide_eq_true h8
    have h9 : s.size ≤ 35184372088832 := by simpa [std] using h9
    refine ⟨_, [.agg [.row 0 8, .row 1 64], .str s], _, goodh (base := 2) (l := []) (d := [(59, rblockH std apStd)]) (by simp) (by intro p hp; simp at hp; subst hp; exact hcon_rblock), rfl, by kernel_rfl, hv, Nat.le_of_ble_eq_true rfl, ?_, rfl, by simp,
      with_vc std apStd (ALoop 2) H R s rfl rfl rfl h7 h8 h9 _ rfl _ rfl⟩
    exact ⟨⟨kOk_ro h5, rfl, rfl⟩, ⟨kOk_ro h6, rfl, rfl⟩, trivial⟩
  · simp at hF

/-! A text's sum. -/

def rsumF (A : Ar) (N : Ap) : List SV → Bool × SV
  | [.str s] => (A.nle (A.size s) 35184372088832, .str (ap1 N sumP s))
  | _ => (false, .bad)

theorem rsum_vc (A : Ar) (N : Ap) (L : LP) (s : ByteArray) (hA : A = std) (hN : N = apStd) (hs : A.nle (A.size s) 35184372088832 = true) (v : SV) (hv : v = .str (ap1 N sumP s)) (K : Bool → SV → List Blk → Prop) (hK : K = FinP v) :
    Shut (afun (cxh A L noJ [] [(38, tableH N), (39, withH A N)] [] dy0) Tryd.f19 [.str s] [] K) := by
  have k1 : N (List Int) Bool isFirst (N Int (List Int) hTab 0) = true := by subst hN; exact decide_eq_true (show firstL = firstL from rfl)
  have k2 : N (List Int) Bool isRounds (N Int (List Int) kTab 0) = true := by subst hN; exact decide_eq_true (show roundsL = roundsL from rfl)
  clear hA hN
  obtain ⟨fi, fc, fw, fb, fn, fo, fs, fa, fe, fz, fy, ff, fl, fq, gadd, gsub, gmul, gmin, hlen', hget, hset⟩ := A
  dsimp only at hs
  apply Shut.mk
  cbv
  refine fin_of hK ?_ ?_ ?_
  · cbv
    simp only [k1, k2, hs]
  · cbv
  · rw [hv]
    cbv

theorem con_rsum : Con Tryd.prog 19 (rsumF std apStd) := by
  refine con_shut Tryd.func19 rfl (by kernel_rfl) (fun args v us hF hv => ?_) (fun args v hF => ?_)
  · unfold rsumF at hF
    split at hF
    · rename_i s
      simp only [Prod.mk.injEq] at hF
      obtain ⟨h1, hF⟩ := hF
      have hg : Eng.Good Tryd.prog (cxh std (ALoop 0) noJ [] [(38, tableH apStd), (39, withH std apStd)] [] dy0) 0 :=
        goodh (by simp) (by intro p hp; simp at hp; rcases hp with rfl | rfl; exact hcon_table; exact hcon_with)
      exact ⟨_, _, hg, rfl, by kernel_rfl, hv, Nat.le_of_ble_eq_true rfl, rsum_vc std apStd (ALoop 0) s rfl rfl h1 v hF.symm (FinP v) rfl⟩
    · cases hF
  · unfold rsumF at hF
    split at hF
    · rfl
    · cases hF

end Go.Proofs.YtpnpfihjlobonaaDoor
