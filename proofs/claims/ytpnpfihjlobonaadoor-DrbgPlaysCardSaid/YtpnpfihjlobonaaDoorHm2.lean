/- Walks through the hmac package: a key, the sum of texts by a key. It has no conditions. -/
import Derived.Test.YtpnpfihjlobonaaDoorHm1
namespace Go.Proofs.YtpnpfihjlobonaaDoor
open Go.Eng Go.RowKit
set_option maxRecDepth 1000000
set_option maxHeartbeats 4000000
set_option linter.unusedSimpArgs false
set_option linter.unusedVariables false

/-- A state's eight numbers. -/
def st8 (N : Ap) (X : List Int) : List SV := getI N X 8 0

def keyV (N : Ap) (key : ByteArray) (i j : Nat) : SV :=
  .agg (st8 N (ap2 N kH key 54) ++ (.row i 0 :: .int .u64 64 :: (st8 N (ap2 N kH key 92) ++ [.row j 0, .int .u64 64])))

def hnewH (A : Ar) (N : Ap) : HF := fun args h => match args, h with
  | [.str key], [⟨.ints kf F, bf⟩, ⟨.ints kr R, br⟩] => ⟨Nat.beq (kn kf) (kn .u32) && (Nat.beq (kn kr) (kn .u32) && (liveK bf && (liveK br && (ap1 N isFirst F && (ap1 N isRounds R && A.nle (A.size key) 17592186044416))))),
      keyV N key 2 3, [], [⟨.ints .u8 [], .ro⟩, ⟨.ints .u8 [], .ro⟩]⟩
  | _, _ => ⟨false, .bad, [], []⟩

theorem hnew_vc (A : Ar) (N : Ap) (L : LP) (F R : List Int) (key : ByteArray) (hA : A = std) (hN : N = apStd) (hF : F = firstL) (hR : R = roundsL) (hk : key.size ≤ 17592186044416) (v : SV) (hv : v = keyV N key 2 3) (nw : List Blk) (hnw : nw = [⟨.ints .u8 [], .ro⟩, ⟨.ints .u8 [], .ro⟩])
    (K : Bool → SV → List Blk → Prop) (hK : K = FinH 2 v [] nw (uniR 2 v [] nw)) :
    Shut (afun (cxg A L [(52, padF A N)] [(49, sumH A N), (50, newH A N), (51, writeH A N)]) Tryd.f35 [.str key] [⟨.ints .u32 F, .ro⟩, ⟨.ints .u32 R, .ro⟩] K) := by
  obtain ⟨fi, fc, fw, fb, fn, fo, fs, fa, fe, fz, fy, ff, fl, fq, gadd, gsub, gmul, gmin, hlen', hget, hset, happ, hisub, irep, iput', rlen, rint', rbool', rstr', rset, rapp, rsub, rrep, hmkb, hbyts⟩ := A
  have hNF : N (List Int) Bool isFirst F = true := by subst hN; exact decide_eq_true hF
  have hNR : N (List Int) Bool isRounds R = true := by subst hN; exact decide_eq_true hR
  have hNF' : N (List Int) Bool isFirst [1779033703, 3144134277, 1013904242, 2773480762, 1359893119, 2600822924, 528734635, 1541459225] = true := by subst hN; exact decide_eq_true (show firstL = firstL from rfl)
  have hq : ∀ a, fq a a = true := by cases hA; intro a; simp [std]
  have hgi : ∀ (X : List Int) (i : Nat), hget X i = N (List Int) Int (N Nat (List Int → Int) gi i) X := by cases hA; subst hN; intro X i; rfl
  have eX : ∀ (k : ByteArray) (b : Int), k = kyN key → N (List Int) (List Int) (N (List Int) (List Int → List Int) eatH [1779033703, 3144134277, 1013904242, 2773480762, 1359893119, 2600822924, 528734635, 1541459225]) (happ [] (hbyts (N Int ByteArray (N ByteArray (Int → ByteArray) pdN k) b))) = N Int (List Int) (N ByteArray (Int → List Int) kH key) b := by
    cases hA; subst hN; intro k b hk
    show eatH firstL (byts (pdN k b)) = kH key b
    rw [hk]; rfl
  have eR : ∀ (k : ByteArray) (b : Int), k = kyN key → N (List Int) (List Int) eatR (happ [] (hbyts (N Int ByteArray (N ByteArray (Int → ByteArray) pdN k) b))) = [] := by
    cases hA; subst hN; intro k b hk
    show eatR (byts (pdN k b)) = []
    apply List.eq_nil_of_length_eq_zero
    rw [eatR_len2, byts_length, pdN_size _ _ (by rw [hk]; exact kyN_le key)]
  have e64 : ∀ (k : ByteArray) (b : Int), k = kyN key → fi .add .u64 0 (fw .u64 (fo (fz (N Int ByteArray (N ByteArray (Int → ByteArray) pdN k) b)))) = 64 := by
    cases hA; subst hN; intro k b hk
    show iop .add .u64 0 (IntKind.u64.wrap ((pdN k b).size : Int)) = 64
    rw [pdN_size _ _ (by rw [hk]; exact kyN_le key)]
    rfl
  have z64 : ∀ (k : ByteArray) (b : Int), k = kyN key → fl (gadd 0 (fz (N Int ByteArray (N ByteArray (Int → ByteArray) pdN k) b))) 70368744177664 = true := by
    cases hA; subst hN; intro k b hk
    exact decide_eq_true (by
      show 0 + (pdN k b).size ≤ _
      rw [pdN_size _ _ (by rw [hk]; exact kyN_le key)]
      omega)
  have l0 : hlen' [] = 0 := by cases hA; rfl
  have l8 : hlen' [1779033703, 3144134277, 1013904242, 2773480762, 1359893119, 2600822924, 528734635, 1541459225] = 8 := by cases hA; rfl
  have lK : ∀ b, hlen' (N Int (List Int) (N ByteArray (Int → List Int) kH key) b) = 8 := by cases hA; subst hN; intro b; exact kH_len key b
  have kle : ∀ k, k = kyN key → fl (fz k) 64 = true := by cases hA; intro k hk; exact decide_eq_true (by show k.size ≤ 64; rw [hk]; exact kyN_le key)
  have kmx : fc .leq (fo (fz key)) 9223372036854775807 = true := by cases hA; exact decide_eq_true (by show (key.size : Int) ≤ _; omega)
  have kbig : fl (fz key) 35184372088832 = true := by cases hA; exact decide_eq_true (by show key.size ≤ _; omega)
  have c8 : ∀ k : Nat, k < 8 → fl (gadd k 1) 8 = true := by cases hA; intro k hk; exact decide_eq_true (by show k + 1 ≤ 8; omega)
  have c80 := c8 0 (by omega)
  have c81 := c8 1 (by omega)
  have c82 := c8 2 (by omega)
  have c83 := c8 3 (by omega)
  have c84 := c8 4 (by omega)
  have c85 := c8 5 (by omega)
  have c86 := c8 6 (by omega)
  have c87 := c8 7 (by omega)
  clear c8
  apply Shut.mk
  cbv
  cases h : fc .gtr (fo (fz key)) 64 <;> cbv
  · have hky : key = kyN key := by
      cases hA
      have h : ¬ ((key.size : Int) > 64) := of_decide_eq_false h
      unfold kyN
      rw [if_neg (by omega)]
    rw [hv, hnw] at hK
    rw [hK]
    simp (maxSteps := 10000000) only [eX key 54 hky, eX key 92 hky, eR key 54 hky, eR key 92 hky, e64 key 54 hky, e64 key 92 hky, hgi]
    cbv
    simp only [lK, c80, c81, c82, c83, c84, c85, c86, c87, l0, l8, z64 _ 54 hky, z64 _ 92 hky, hNF, hNF', hNR, kle _ hky, kmx, kbig, hq]
    trivial
  · have hky : N ByteArray ByteArray sumN key = kyN key := by
      cases hA; subst hN
      have h : ((key.size : Int) > 64) := of_decide_eq_true h
      unfold kyN
      rw [if_pos (by omega)]
      simp only [apStd]
    rw [hv, hnw] at hK
    rw [hK]
    simp (maxSteps := 10000000) only [eX _ 54 hky, eX _ 92 hky, eR _ 54 hky, eR _ 92 hky, e64 _ 54 hky, e64 _ 92 hky, hgi]
    cbv
    simp only [lK, c80, c81, c82, c83, c84, c85, c86, c87, l0, l8, z64 _ 54 hky, z64 _ 92 hky, hNF, hNF', hNR, kle _ hky, kmx, kbig, hq]
    trivial

theorem hcon_hnew : HCon Tryd.prog [0, 1] 35 (hnewH std apStd) := by
  refine hcon_shut Tryd.func35 rfl (by kernel_rfl) (fun args h v ch nw hF m us w H hv => ?_)
  unfold hnewH at hF
  split at hF
  · rename_i key kf F bf kr R br
    simp only [HR.mk.injEq, Bool.and_eq_true] at hF
    obtain ⟨⟨h1, h2, h3, h4, h5, h6, h7⟩, rfl, rfl, rfl⟩ := hF
    have h1 := kn_eq h1
    have h2 := kn_eq h2
    subst h1; subst h2
    have h5 : F = firstL := of_decide_eq_true h5
    have h6 : R = roundsL := of_decide_eq_true h6
    have h7 : key.size ≤ 17592186044416 := by simpa [std] using h7
    refine ⟨_, [.str key], _, goodg (base := 2) (l := [(52, padF std apStd)]) (d := [(49, sumH std apStd), (50, newH std apStd), (51, writeH std apStd)]) dy0 (by decide) (by intro p hp; simp at hp; subst hp; exact con_pad)
        (by intro p hp; simp at hp; rcases hp with rfl | rfl | rfl; exact hcon_sum; exact hcon_new; exact hcon_write),
      rfl, by kernel_rfl, hv, Nat.le_of_ble_eq_true rfl, ?_, ?_, by simp,
      hnew_vc std apStd (ALoop 2) F R key rfl rfl h5 h6 h7 _ rfl _ rfl _ rfl⟩
    · exact ⟨⟨kOk_ro h3, rfl, rfl⟩, ⟨kOk_ro h4, rfl, rfl⟩, trivial⟩
    · rfl
  · simp at hF

/-! The sum of texts by a key. -/

/-- Values that are the same in memory. -/
def SameV (m : List Pl) : List SV → List SV → Prop
  | [], [] => True
  | a :: l, b :: r => (∀ u, a.val m = some u → b.val m = some u) ∧ SameV m l r
  | _, _ => False
theorem sameV_vals {m : List Pl} : ∀ {l r : List SV} {us : List Value}, SameV m l r → SV.vals m l = some us → SV.vals m r = some us
  | [], [], us, _, h => h
  | a :: l, b :: r, us, ⟨h1, h2⟩, h => by
    simp only [SV.vals, Option.bind_eq_some_iff, Option.map_eq_some_iff] at h ⊢
    obtain ⟨u, hu, x, hx, rfl⟩ := h
    exact ⟨u, h1 u hu, x, sameV_vals h2 hx, rfl⟩
  | [], _ :: _, _, h, _ => h.elim
  | _ :: _, [], _, h, _ => h.elim
theorem sameV_refl (m : List Pl) : ∀ l, SameV m l l
  | [] => trivial
  | _ :: l => ⟨fun _ h => h, sameV_refl m l⟩

theorem asInt1_val {k : IntKind} {a : SV} {x : Int} (h : asInt1 k a = some x) {m : List Pl} : ∀ u, a.val m = some u → (SV.int k x).val m = some u := by
  intro u hu
  unfold asInt1 at h
  split at h
  · split at h
    · rename_i hk; cases h; have := kn_eq hk; subst this; exact hu
    · cases h
  · split at h
    · rename_i hk; cases h; have := kn_eq hk; subst this; exact hu
    · cases h
  · cases h

theorem asInts_cons {k : IntKind} {v : SV} {r : List SV} {xs : List Int} (hh : asInts k (v :: r) = some xs) : ∃ x ys, xs = x :: ys ∧ asInt1 k v = some x ∧ asInts k r = some ys := by
  simp only [asInts] at hh
  split at hh
  · cases hh
  · rename_i x hx
    split at hh
    · cases hh
    · rename_i ys hys
      simp only [Option.some.injEq] at hh
      exact ⟨x, ys, hh.symm, hx, hys⟩

theorem u64_same {a : SV} {x : Int} (h : a.u64 = some x) {m : List Pl} : ∀ u, a.val m = some u → (SV.int .u64 x).val m = some u := by
  intro u hu
  unfold SV.u64 at h
  split at h
  · cases h; exact hu
  · cases h; exact hu
  · cases h

def ksV (x0 x1 x2 x3 x4 x5 x6 x7 y0 y1 y2 y3 y4 y5 y6 y7 : Int) : SV :=
  .agg [.int .u32 x0, .int .u32 x1, .int .u32 x2, .int .u32 x3, .int .u32 x4, .int .u32 x5, .int .u32 x6, .int .u32 x7, .row 2 0, .int .u64 64,
    .int .u32 y0, .int .u32 y1, .int .u32 y2, .int .u32 y3, .int .u32 y4, .int .u32 y5, .int .u32 y6, .int .u32 y7, .row 3 0, .int .u64 64]

def strsOf (A : Ar) : List SV → Option (Bool × Nat × ByteArray)
  | [.str a] => some (A.nle (A.size a) 17592186044416, 1, a)
  | [.str a, .str b, .str c] => some (A.nle (A.size a) 17592186044416 && (A.nle (A.size b) 17592186044416 && A.nle (A.size c) 17592186044416), 3, A.cat (A.cat a b) c)
  | _ => none

def ksumH (A : Ar) (N : Ap) : HF := fun args h => match args, h with
  | [.agg [a0, a1, a2, a3, a4, a5, a6, a7, .row i 0, n1, b0, b1, b2, b3, b4, b5, b6, b7, .row j 0, n2], .slice k 0 q q'], [_, ⟨.ints kr R, br⟩, ⟨.ints ki w1, bi⟩, ⟨.ints kj w2, bj⟩, ⟨.lit ss, bk⟩] =>
    match asInts .u32 [a0, a1, a2, a3, a4, a5, a6, a7] with
    | none => ⟨false, .bad, [], []⟩
    | some X1 => match asInts .u32 [b0, b1, b2, b3, b4, b5, b6, b7] with
      | none => ⟨false, .bad, [], []⟩
      | some X2 => match n1.u64 with
        | none => ⟨false, .bad, [], []⟩
        | some m1 => match n2.u64 with
          | none => ⟨false, .bad, [], []⟩
          | some m2 => match strsOf A ss with
            | none => ⟨false, .bad, [], []⟩
            | some (ok, c, t) => ⟨Nat.beq i 2 && (Nat.beq j 3 && (Nat.beq k 4 && (Nat.beq q c && (Nat.beq q' c && (Nat.beq (kn kr) (kn .u32) && (Nat.beq (kn ki) (kn .u8) && (Nat.beq (kn kj) (kn .u8) && (liveK br && (liveK bi && (liveK bj && (liveK bk &&
                (ap1 N isRounds R && (A.neq (A.ilen w1) 0 && (A.neq (A.ilen w2) 0 && (A.icmp .eql m1 64 && (A.icmp .eql m2 64 && ok)))))))))))))))),
              .str (ap2 N stS X2 (ap2 N stS X1 t)), [], []⟩
  | _, _ => ⟨false, .bad, [], []⟩

theorem ksum1_vc (A : Ar) (N : Ap) (L : LP) (R : List Int) (x0 x1 x2 x3 x4 x5 x6 x7 y0 y1 y2 y3 y4 y5 y6 y7 : Int) (t : ByteArray) (hA : A = std) (hN : N = apStd) (hR : R = roundsL) (ht : t.size ≤ 17592186044416)
    (v : SV) (hv : v = .str (ap2 N stS [y0, y1, y2, y3, y4, y5, y6, y7] (ap2 N stS [x0, x1, x2, x3, x4, x5, x6, x7] t))) (K : Bool → SV → List Blk → Prop) (hK : K = FinH 5 v [] [] (uniR 5 v [] [])) :
    Shut (afun (cxg A L [] [(53, joinH A), (51, writeH A N), (54, endH A N)]) Tryd.f36 [ksV x0 x1 x2 x3 x4 x5 x6 x7 y0 y1 y2 y3 y4 y5 y6 y7, .slice 4 0 1 1]
      [.nil, ⟨.ints .u32 R, .ro⟩, ⟨.ints .u8 [], .ro⟩, ⟨.ints .u8 [], .ro⟩, ⟨.lit [.str t], .ro⟩] K) := by
  obtain ⟨fi, fc, fw, fb, fn, fo, fs, fa, fe, fz, fy, ff, fl, fq, gadd, gsub, gmul, gmin, hlen', hget, hset, happ, hisub, irep, iput', rlen, rint', rbool', rstr', rset, rapp, rsub, rrep, hmkb, hbyts⟩ := A
  have e1 : ∀ (X : List Int) (s : ByteArray), N Int ByteArray (N (List Int) (Int → ByteArray) (N (List Int) (List Int → Int → ByteArray) endN (N (List Int) (List Int) (N (List Int) (List Int → List Int) eatH X) (happ [] (hbyts s)))) (N (List Int) (List Int) eatR (happ [] (hbyts s)))) (fi .add .u64 64 (fw .u64 (fo (fz s)))) = N ByteArray ByteArray (N (List Int) (ByteArray → ByteArray) stS X) s := by
    cases hA; subst hN; intro X s; simp only [apStd]; rfl
  have hz : ∀ X s, fz (N ByteArray ByteArray (N (List Int) (ByteArray → ByteArray) stS X) s) = 32 := by cases hA; subst hN; intro X s; simp only [apStd]; exact stS_size X s
  have hq : ∀ a, fq a a = true := by cases hA; intro a; simp [std]
  have l0 : hlen' [] = 0 := by cases hA; rfl
  have hg0 : ∀ a, gadd 0 a = a := by cases hA; intro a; exact Nat.zero_add a
  have hNR : N (List Int) Bool isRounds R = true := by subst hN; exact decide_eq_true hR
  have l63 : ∀ x, fl (hlen' (N (List Int) (List Int) eatR x)) 63 = true := by
    cases hA; subst hN; intro x
    exact decide_eq_true (Nat.le_of_lt_succ (eatR_len _))
  have l8 : ∀ a b c d e f g h x, hlen' (N (List Int) (List Int) (N (List Int) (List Int → List Int) eatH [a, b, c, d, e, f, g, h]) x) = 8 := by
    cases hA; subst hN; intro a b c d e f g h x; exact eatH_len (H := [a, b, c, d, e, f, g, h]) rfl x
  have l8' : ∀ a b c d e f g h : Int, hlen' [a, b, c, d, e, f, g, h] = 8 := by cases hA; intro a b c d e f g h; rfl
  have m32 : fl 32 70368744177664 = true := by cases hA; rfl
  have htz : fz t ≤ 52776558133248 := by cases hA; show t.size ≤ _; omega
  have j1 : fl (fz t) 17592186044416 = true := by cases hA; exact decide_eq_true ht
  have mt : fl (fz t) 70368744177664 = true := by
    have hle : fl = fun a b => decide (a ≤ b) := by cases hA; rfl
    rw [hle]; exact decide_eq_true (by omega)
  obtain ⟨E, hE⟩ : ∃ E, E = N ByteArray ByteArray (N (List Int) (ByteArray → ByteArray) stS [y0, y1, y2, y3, y4, y5, y6, y7]) (N ByteArray ByteArray (N (List Int) (ByteArray → ByteArray) stS [x0, x1, x2, x3, x4, x5, x6, x7]) t) := ⟨_, rfl⟩
  have hv' : v = .str E := by rw [hv, hE]; rfl
  apply Shut.mk
  cbv
  simp (maxSteps := 10000000) only [e1]
  refine finH0 hK ?_ (by rw [hv']; exact rfl) ?_
  · rw [Bool.and_eq_true]
    refine ⟨by cbv, ?_⟩
    simp (maxSteps := 10000000) only [hz, hq, l0, hg0, hNR, l63, l8, l8', m32, mt, j1]
  · rw [hv', hE]
    cbv

theorem ksum3_vc (A : Ar) (N : Ap) (L : LP) (R : List Int) (x0 x1 x2 x3 x4 x5 x6 x7 y0 y1 y2 y3 y4 y5 y6 y7 : Int) (a b c : ByteArray) (hA : A = std) (hN : N = apStd) (hR : R = roundsL) (ha : a.size ≤ 17592186044416) (hb : b.size ≤ 17592186044416) (hc : c.size ≤ 17592186044416)
    (v : SV) (hv : v = .str (ap2 N stS [y0, y1, y2, y3, y4, y5, y6, y7] (ap2 N stS [x0, x1, x2, x3, x4, x5, x6, x7] (A.cat (A.cat a b) c)))) (K : Bool → SV → List Blk → Prop) (hK : K = FinH 5 v [] [] (uniR 5 v [] [])) :
    Shut (afun (cxg A L [] [(53, joinH A), (51, writeH A N), (54, endH A N)]) Tryd.f36 [ksV x0 x1 x2 x3 x4 x5 x6 x7 y0 y1 y2 y3 y4 y5 y6 y7, .slice 4 0 3 3]
      [.nil, ⟨.ints .u32 R, .ro⟩, ⟨.ints .u8 [], .ro⟩, ⟨.ints .u8 [], .ro⟩, ⟨.lit [.str a, .str b, .str c], .ro⟩] K) := by
  obtain ⟨fi, fc, fw, fb, fn, fo, fs, fa, fe, fz, fy, ff, fl, fq, gadd, gsub, gmul, gmin, hlen', hget, hset, happ, hisub, irep, iput', rlen, rint', rbool', rstr', rset, rapp, rsub, rrep, hmkb, hbyts⟩ := A
  have e1 : ∀ (X : List Int) (s : ByteArray), N Int ByteArray (N (List Int) (Int → ByteArray) (N (List Int) (List Int → Int → ByteArray) endN (N (List Int) (List Int) (N (List Int) (List Int → List Int) eatH X) (happ [] (hbyts s)))) (N (List Int) (List Int) eatR (happ [] (hbyts s)))) (fi .add .u64 64 (fw .u64 (fo (fz s)))) = N ByteArray ByteArray (N (List Int) (ByteArray → ByteArray) stS X) s := by
    cases hA; subst hN; intro X s; simp only [apStd]; rfl
  have hz : ∀ X s, fz (N ByteArray ByteArray (N (List Int) (ByteArray → ByteArray) stS X) s) = 32 := by cases hA; subst hN; intro X s; simp only [apStd]; exact stS_size X s
  have hq : ∀ a, fq a a = true := by cases hA; intro a; simp [std]
  have l0 : hlen' [] = 0 := by cases hA; rfl
  have hg0 : ∀ a, gadd 0 a = a := by cases hA; intro a; exact Nat.zero_add a
  have hNR : N (List Int) Bool isRounds R = true := by subst hN; exact decide_eq_true hR
  have l63 : ∀ x, fl (hlen' (N (List Int) (List Int) eatR x)) 63 = true := by
    cases hA; subst hN; intro x
    exact decide_eq_true (Nat.le_of_lt_succ (eatR_len _))
  have l8 : ∀ a b c d e f g h x, hlen' (N (List Int) (List Int) (N (List Int) (List Int → List Int) eatH [a, b, c, d, e, f, g, h]) x) = 8 := by
    cases hA; subst hN; intro a b c d e f g h x; exact eatH_len (H := [a, b, c, d, e, f, g, h]) rfl x
  have l8' : ∀ a b c d e f g h : Int, hlen' [a, b, c, d, e, f, g, h] = 8 := by cases hA; intro a b c d e f g h; rfl
  have m32 : fl 32 70368744177664 = true := by cases hA; rfl
  have htz : fz (fa (fa a b) c) ≤ 52776558133248 := by cases hA; show (a ++ b ++ c).size ≤ _; rw [size_app, size_app]; omega
  have j1 : fl (fz a) 17592186044416 = true := by cases hA; exact decide_eq_true ha
  have j2 : fl (fz b) 17592186044416 = true := by cases hA; exact decide_eq_true hb
  have j3 : fl (fz c) 17592186044416 = true := by cases hA; exact decide_eq_true hc
  have mt : fl (fz (fa (fa a b) c)) 70368744177664 = true := by
    have hle : fl = fun a b => decide (a ≤ b) := by cases hA; rfl
    rw [hle]; exact decide_eq_true (by omega)
  obtain ⟨E, hE⟩ : ∃ E, E = N ByteArray ByteArray (N (List Int) (ByteArray → ByteArray) stS [y0, y1, y2, y3, y4, y5, y6, y7]) (N ByteArray ByteArray (N (List Int) (ByteArray → ByteArray) stS [x0, x1, x2, x3, x4, x5, x6, x7]) (fa (fa a b) c)) := ⟨_, rfl⟩
  have hv' : v = .str E := by rw [hv, hE]; rfl
  apply Shut.mk
  cbv
  simp (maxSteps := 10000000) only [e1]
  refine finH0 hK ?_ (by rw [hv']; exact rfl) ?_
  · rw [Bool.and_eq_true]
    refine ⟨by cbv, ?_⟩
    simp (maxSteps := 10000000) only [hz, hq, l0, hg0, hNR, l63, l8, l8', m32, mt, j1, j2, j3]
  · rw [hv', hE]
    cbv

theorem hcon_ksum : HCon Tryd.prog [0, 1] 36 (ksumH std apStd) := by
  refine hcon_shut Tryd.func36 rfl (by kernel_rfl) (fun args h v ch nw hF m us w H hv => ?_)
  unfold ksumH at hF
  split at hF
  · rename_i a0 a1 a2 a3 a4 a5 a6 a7 i n1 b0 b1 b2 b3 b4 b5 b6 b7 j n2 k q q' bb0 kr R br ki w1 bi kj w2 bj ss bk
    split at hF
    · simp at hF
    rename_i X1 hX1
    split at hF
    · simp at hF
    rename_i X2 hX2
    split at hF
    · simp at hF
    rename_i m1 hm1
    split at hF
    · simp at hF
    rename_i m2 hm2
    split at hF
    · simp at hF
    rename_i ok c t hss
    simp only [HR.mk.injEq, Bool.and_eq_true] at hF
    obtain ⟨⟨h1, h2, h3, h4, h5, h6, h7, h8, h9, h10, h11, h12, h13, h14, h15, h16, h17, h18⟩, rfl, rfl, rfl⟩ := hF
    have h1 : i = 2 := by simpa using h1
    have h2 : j = 3 := by simpa using h2
    have h3 : k = 4 := by simpa using h3
    have h4 : q = c := by simpa using h4
    have h5 : q' = c := by simpa using h5
    subst h1; subst h2; subst h3; subst h4; subst h5
    have h6 := kn_eq h6
    have h7 := kn_eq h7
    have h8 := kn_eq h8
    subst h6; subst h7; subst h8
    have h13 : R = roundsL := of_decide_eq_true h13
    have h14 : w1 = [] := List.eq_nil_of_length_eq_zero (by simpa [std] using h14)
    have h15 : w2 = [] := List.eq_nil_of_length_eq_zero (by simpa [std] using h15)
    have h16 : m1 = 64 := by simpa [std, icmp] using h16
    have h17 : m2 = 64 := by simpa [std, icmp] using h17
    subst h14; subst h15; subst h16; subst h17
    obtain ⟨x0, _, rfl, e0, hX1⟩ := asInts_cons hX1
    obtain ⟨x1, _, rfl, e1, hX1⟩ := asInts_cons hX1
    obtain ⟨x2, _, rfl, e2, hX1⟩ := asInts_cons hX1
    obtain ⟨x3, _, rfl, e3, hX1⟩ := asInts_cons hX1
    obtain ⟨x4, _, rfl, e4, hX1⟩ := asInts_cons hX1
    obtain ⟨x5, _, rfl, e5, hX1⟩ := asInts_cons hX1
    obtain ⟨x6, _, rfl, e6, hX1⟩ := asInts_cons hX1
    obtain ⟨x7, _, rfl, e7, hX1⟩ := asInts_cons hX1
    obtain ⟨y0, _, rfl, f0, hX2⟩ := asInts_cons hX2
    obtain ⟨y1, _, rfl, f1, hX2⟩ := asInts_cons hX2
    obtain ⟨y2, _, rfl, f2, hX2⟩ := asInts_cons hX2
    obtain ⟨y3, _, rfl, f3, hX2⟩ := asInts_cons hX2
    obtain ⟨y4, _, rfl, f4, hX2⟩ := asInts_cons hX2
    obtain ⟨y5, _, rfl, f5, hX2⟩ := asInts_cons hX2
    obtain ⟨y6, _, rfl, f6, hX2⟩ := asInts_cons hX2
    obtain ⟨y7, _, rfl, f7, hX2⟩ := asInts_cons hX2
    have hX1 : _ = [] := (Option.some.inj hX1).symm
    have hX2 : _ = [] := (Option.some.inj hX2).symm
    subst hX1; subst hX2
    have hv' : SV.vals m [ksV x0 x1 x2 x3 x4 x5 x6 x7 y0 y1 y2 y3 y4 y5 y6 y7, .slice 4 0 q' q'] = some us := by
      refine sameV_vals ?_ hv
      refine ⟨fun u hu => ?_, fun _ h => h, trivial⟩
      simp only [SV.val, ksV, Option.map_eq_some_iff] at hu ⊢
      obtain ⟨l, hl, rfl⟩ := hu
      refine ⟨l, ?_, rfl⟩
      refine sameV_vals ?_ hl
      exact ⟨asInt1_val e0, asInt1_val e1, asInt1_val e2, asInt1_val e3, asInt1_val e4, asInt1_val e5, asInt1_val e6, asInt1_val e7, fun _ h => h, u64_same hm1,
        asInt1_val f0, asInt1_val f1, asInt1_val f2, asInt1_val f3, asInt1_val f4, asInt1_val f5, asInt1_val f6, asInt1_val f7, fun _ h => h, u64_same hm2, trivial⟩
    have hd : ∀ p ∈ ([(53, joinH std), (51, writeH std apStd), (54, endH std apStd)] : Heap), HCon Tryd.prog [0, 1] p.1 p.2 := by
      intro p hp; simp at hp; rcases hp with rfl | rfl | rfl; exact hcon_join; exact hcon_write; exact hcon_end
    unfold strsOf at hss
    split at hss
    · rename_i a
      simp only [Option.some.injEq, Prod.mk.injEq] at hss
      obtain ⟨rfl, rfl, rfl⟩ := hss
      have h18 : a.size ≤ 17592186044416 := by simpa [std] using h18
      refine ⟨_, _, _, goodg (base := 5) (l := []) dy0 (by decide) (by simp) hd, rfl, by kernel_rfl, hv', Nat.le_of_ble_eq_true rfl, ?_, rfl, by simp,
        ksum1_vc std apStd (ALoop 5) R x0 x1 x2 x3 x4 x5 x6 x7 y0 y1 y2 y3 y4 y5 y6 y7 a rfl rfl h13 h18 _ rfl _ rfl⟩
      exact ⟨trivial, ⟨kOk_ro h9, rfl, rfl⟩, ⟨kOk_ro h10, rfl, rfl⟩, ⟨kOk_ro h11, rfl, rfl⟩, ⟨kOk_ro h12, rfl, trivial⟩, trivial⟩
    · rename_i a b c
      simp only [Option.some.injEq, Prod.mk.injEq] at hss
      obtain ⟨rfl, rfl, rfl⟩ := hss
      simp only [std, Bool.and_eq_true, decide_eq_true_eq] at h18
      obtain ⟨ha, hb, hc⟩ := h18
      refine ⟨_, _, _, goodg (base := 5) (l := []) dy0 (by decide) (by simp) hd, rfl, by kernel_rfl, hv', Nat.le_of_ble_eq_true rfl, ?_, rfl, by simp,
        ksum3_vc std apStd (ALoop 5) R x0 x1 x2 x3 x4 x5 x6 x7 y0 y1 y2 y3 y4 y5 y6 y7 a b c rfl rfl h13 ha hb hc _ rfl _ rfl⟩
      exact ⟨trivial, ⟨kOk_ro h9, rfl, rfl⟩, ⟨kOk_ro h10, rfl, rfl⟩, ⟨kOk_ro h11, rfl, rfl⟩, ⟨kOk_ro h12, rfl, rfl, rfl, trivial⟩, trivial⟩
    · cases hss
  · simp at hF

end Go.Proofs.YtpnpfihjlobonaaDoor
