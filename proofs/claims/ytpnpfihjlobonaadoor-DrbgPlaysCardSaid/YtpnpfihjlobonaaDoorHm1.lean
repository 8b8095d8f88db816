/- Walks through the hmac package: texts joined, a key as long as a block. It has no conditions. -/
import Derived.Test.YtpnpfihjlobonaaDoorSha6
import Derived.Test.YtpnpfihjlobonaaDoorHm0
namespace Go.Proofs.YtpnpfihjlobonaaDoor
open Go.Eng Go.RowKit
set_option maxRecDepth 1000000
set_option maxHeartbeats 4000000
set_option linter.unusedSimpArgs false
set_option linter.unusedVariables false

/-! Texts joined. -/

def joinH (A : Ar) : HF := fun args h => match args, h with
  | [.slice i 0 1 1], [_, _, ⟨.lit [.str a], k⟩] => ⟨Nat.beq i 2 && (liveK k && A.nle (A.size a) 17592186044416), .str a, [], []⟩
  | [.slice i 0 3 3], [_, _, ⟨.lit [.str a, .str b, .str c], k⟩] => ⟨Nat.beq i 2 && (liveK k && (A.nle (A.size a) 17592186044416 && (A.nle (A.size b) 17592186044416 && A.nle (A.size c) 17592186044416))), .str (A.cat (A.cat a b) c), [], []⟩
  | _, _ => ⟨false, .bad, [], []⟩

theorem join1_vc (A : Ar) (L : LP) (a : ByteArray) (hL : L = ALoop 3) (hA : A = std) (ha : a.size ≤ 17592186044416) (v : SV) (hv : v = .str a) (K : Bool → SV → List Blk → Prop) (hK : K = FinH 3 v [] [] (uniR 3 v [] [])) :
    Shut (afun (cxg A L [] []) Tryd.f53 [.slice 2 0 1 1] [.nil, .nil, ⟨.lit [.str a], .ro⟩] K) := by
  obtain ⟨fi, fc, fw, fb, fn, fo, fs, fa, fe, fz, fy, ff, fl, fq, gadd, gsub, gmul, gmin, hlen', hget, hset, happ, hisub, irep, iput', rlen, rint', rbool', rstr', rset, rapp, rsub, rrep, hmkb, hbyts⟩ := A
  have hg0 : ∀ a, gadd 0 a = a := by cases hA; intro a; exact Nat.zero_add a
  have hm1 : ∀ a, gmul a 1 = a := by cases hA; intro a; exact Nat.mul_one a
  have hlb : ∀ x, hlen' (hbyts x) = fz x := by cases hA; intro x; exact byts_length x
  have hlr : ∀ a, fl a a = true := by cases hA; intro a; simp [std]
  have c1 : fl (fz a) 140737488355328 = true := by cases hA; exact decide_eq_true (by show a.size ≤ _; omega)
  apply Shut.mk
  cbv
  refine lp_rounds hL 2 hL (.inr rfl) ?_
  cbv
  refine finH0 hK ?_ (by rw [hv]; exact rfl) ?_
  · cbv
    simp only [hg0, hm1, hlb, hlr, c1]
  · rw [hv]
    cbv
    rw [hg0]
    cases hA
    show a = mkb (((byts a).drop 0).take a.size)
    rw [List.drop_zero, List.take_of_length_le (by rw [byts_length]; exact Nat.le_refl _), mkb_of_byts]

theorem join3_vc (A : Ar) (L : LP) (a b c : ByteArray) (hL : L = ALoop 3) (hA : A = std) (ha : a.size ≤ 17592186044416) (hb : b.size ≤ 17592186044416) (hc : c.size ≤ 17592186044416) (v : SV) (hv : v = .str (A.cat (A.cat a b) c)) (K : Bool → SV → List Blk → Prop) (hK : K = FinH 3 v [] [] (uniR 3 v [] [])) :
    Shut (afun (cxg A L [] []) Tryd.f53 [.slice 2 0 3 3] [.nil, .nil, ⟨.lit [.str a, .str b, .str c], .ro⟩] K) := by
  obtain ⟨fi, fc, fw, fb, fn, fo, fs, fa, fe, fz, fy, ff, fl, fq, gadd, gsub, gmul, gmin, hlen', hget, hset, happ, hisub, irep, iput', rlen, rint', rbool', rstr', rset, rapp, rsub, rrep, hmkb, hbyts⟩ := A
  have hg0 : ∀ a, gadd 0 a = a := by cases hA; intro a; exact Nat.zero_add a
  have hm1 : ∀ a, gmul a 1 = a := by cases hA; intro a; exact Nat.mul_one a
  have hlb : ∀ x, hlen' (hbyts x) = fz x := by cases hA; intro x; exact byts_length x
  have hla : ∀ x y, hlen' (happ x y) = gadd (hlen' x) (hlen' y) := by cases hA; intro x y; exact List.length_append
  have hlr : ∀ a, fl a a = true := by cases hA; intro a; simp [std]
  have hq : ∀ a, fq a a = true := by cases hA; intro a; simp [std]
  have c1 : fl (fz a) 140737488355328 = true := by cases hA; exact decide_eq_true (by show a.size ≤ _; omega)
  have c2 : fl (gadd (fz a) (fz b)) 140737488355328 = true := by cases hA; exact decide_eq_true (by show a.size + b.size ≤ _; omega)
  have c3 : fl (gadd (gadd (fz a) (fz b)) (fz c)) 140737488355328 = true := by cases hA; exact decide_eq_true (by show a.size + b.size + c.size ≤ _; omega)
  have c4 : fl 1 3 = true := by cases hA; rfl
  have c5 : fl 2 3 = true := by cases hA; rfl
  have c6 : fl 3 3 = true := by cases hA; rfl
  apply Shut.mk
  cbv
  refine lp_rounds hL 4 hL (.inr rfl) ?_
  cbv
  refine finH0 hK ?_ (by rw [hv]; exact rfl) ?_
  · cbv
    simp only [hg0, hm1, hlb, hla, hlr, hq, c1, c2, c3, c4, c5, c6]
  · rw [hv]
    cbv
    rw [hg0]
    cases hA
    show a ++ b ++ c = mkb (((byts a ++ byts b ++ byts c).drop 0).take (a.size + b.size + c.size))
    rw [List.drop_zero, List.take_of_length_le (by simp only [List.length_append, byts_length]; exact Nat.le_refl _), ← byts_app, ← byts_app, mkb_of_byts]

theorem hcon_join : HCon Tryd.prog [0, 1] 53 (joinH std) := by
  refine hcon_shut Tryd.func53 rfl (by kernel_rfl) (fun args h v ch nw hF m us w H hv => ?_)
  unfold joinH at hF
  split at hF
  · rename_i i b0 b1 a k
    simp only [HR.mk.injEq, Bool.and_eq_true] at hF
    obtain ⟨⟨h1, h2, h3⟩, rfl, rfl, rfl⟩ := hF
    have h1 : i = 2 := by simpa using h1
    subst h1
    have h3 : a.size ≤ 17592186044416 := by simpa [std] using h3
    refine ⟨_, [.slice 2 0 1 1], _, goodg (base := 3) (l := []) (d := []) dy0 (by decide) (by simp) (by simp), rfl, by kernel_rfl, hv, Nat.le_of_ble_eq_true rfl, ?_, rfl, by simp,
      join1_vc std (ALoop 3) a rfl rfl h3 _ rfl _ rfl⟩
    exact ⟨trivial, trivial, ⟨kOk_ro h2, rfl, trivial⟩, trivial⟩
  · rename_i i b0 b1 a b c k
    simp only [HR.mk.injEq, Bool.and_eq_true] at hF
    obtain ⟨⟨h1, h2, h3, h4, h5⟩, rfl, rfl, rfl⟩ := hF
    have h1 : i = 2 := by simpa using h1
    subst h1
    have h3 : a.size ≤ 17592186044416 := by simpa [std] using h3
    have h4 : b.size ≤ 17592186044416 := by simpa [std] using h4
    have h5 : c.size ≤ 17592186044416 := by simpa [std] using h5
    refine ⟨_, [.slice 2 0 3 3], _, goodg (base := 3) (l := []) (d := []) dy0 (by decide) (by simp) (by simp), rfl, by kernel_rfl, hv, Nat.le_of_ble_eq_true rfl, ?_, rfl, by simp,
      join3_vc std (ALoop 3) a b c rfl rfl h3 h4 h5 _ rfl _ rfl⟩
    exact ⟨trivial, trivial, ⟨kOk_ro h2, rfl, rfl, rfl, trivial⟩, trivial⟩
  · simp at hF

/-! A key as long as a block. -/

def SV.u8 : SV → Option Int
  | .int .u8 n => some n
  | .num .u8 n => some n
  | _ => none

theorem u8_of {x : SV} {n : Int} (h : SV.u8 x = some n) {u : Value} {m : List Pl} (hv : x.val m = some u) : (SV.int .u8 n).val m = some u ∧ x.idsLt 0 = true := by
  unfold SV.u8 at h
  split at h
  · cases h; exact ⟨hv, rfl⟩
  · cases h; exact ⟨hv, rfl⟩
  · cases h

/-- The first j turned. -/
def pAt (l : List Int) (b : Int) (j : Nat) : List Int := (l.take j).map (fun x => iop .xor .u8 x b) ++ l.drop j
theorem pAt_step {l : List Int} {b : Int} {j : Nat} (h : j < l.length) : (pAt l b j).set j (iop .xor .u8 ((pAt l b j).getD j 0) b) = pAt l b (j + 1) := by
  have hd : l.drop j = l[j] :: l.drop (j + 1) := List.drop_eq_getElem_cons h
  have ht : l.take (j + 1) = l.take j ++ [l[j]] := List.take_succ_eq_append_getElem h
  have hl : ((l.take j).map (fun x => iop .xor .u8 x b)).length = j := by rw [List.length_map, List.length_take]; omega
  have hg : (pAt l b j).getD j 0 = l[j] := by
    unfold pAt
    rw [List.getD_eq_getElem?_getD, List.getElem?_append_right (by omega), hl, hd, Nat.sub_self]
    rfl
  rw [hg]
  unfold pAt
  rw [List.set_append_right _ _ (by omega), hl, Nat.sub_self, hd, ht, List.map_append, List.append_assoc]
  rfl
theorem pAt_len (l : List Int) (b : Int) (j : Nat) : (pAt l b j).length = l.length := by
  unfold pAt
  rw [List.length_append, List.length_map, List.length_take, List.length_drop]; omega

def pdHd (b : Int) : Nat → List Int × Int → St
  | _, (B, i) => ⟨[(1, .int .u8 b), (5, .ptr 0 0), (10, .int .i64 i)], [⟨.ints .u8 B, .var⟩], true⟩
def pdEx (S : St) : List Int × Int := (cellL S 0, slotI S 10)
def pdOk (l : List Int) (b : Int) (n : Nat) (d : List Int × Int) : Prop := n ≤ 64 ∧ d.2 = ((64 - n : Nat) : Int) ∧ d.1 = pAt l b (64 - n)

def padF (A : Ar) (N : Ap) : List SV → Bool × SV
  | [.str key, x] => match SV.u8 x with
    | some b => (A.nle (A.size key) 64, .str (ap2 N pdN key b))
    | none => (false, .bad)
  | _ => (false, .bad)

theorem pad_vc (A : Ar) (N : Ap) (L : LP) (key : ByteArray) (b : Int) (hL : L = ALoop 0) (hA : A = std) (hN : N = apStd) (hk : key.size ≤ 64) (v : SV) (hv : v = .str (ap2 N pdN key b)) (K : Bool → SV → List Blk → Prop) (hK : K = FinP v) :
    Shut (afun (cx A L []) Tryd.f52 [.str key, .int .u8 b] [] K) := by
  obtain ⟨fi, fc, fw, fb, fn, fo, fs, fa, fe, fz, fy, ff, fl, fq, gadd, gsub, gmul, gmin, hlen', hget, hset, happ, hisub, irep, iput', rlen, rint', rbool', rstr', rset, rapp, rsub, rrep, hmkb, hbyts⟩ := A
  obtain ⟨l0, hl0⟩ : ∃ l0, l0 = byts key ++ List.replicate (64 - (byts key).length) 0 := ⟨_, rfl⟩
  have hbk : (byts key).length = key.size := byts_length key
  have h64 : l0.length = 64 := by rw [hl0, List.length_append, List.length_replicate]; omega
  obtain ⟨ok, hok⟩ : ∃ f, f = pdOk l0 b := ⟨_, rfl⟩
  have i1 : fc .leq (fo (fz key)) 9223372036854775807 = true := by cases hA; exact decide_eq_true (by show (key.size : Int) ≤ _; omega)
  apply Shut.mk
  cbv
  refine lp_ex hL 64 pdEx (pdHd b) ok ?_ ?_ hL (.inr rfl)
  · cbv
    simp only [i1]
    refine ⟨?_, trivial, trivial⟩
    rw [hok]
    refine ⟨Nat.le_refl _, rfl, ?_⟩
    show _ = pAt l0 b 0
    cases hA
    show Eng.iput (List.replicate 64 0) 0 (byts key) = _
    unfold Eng.iput pAt
    rw [hl0]
    simp only [List.take_zero, List.nil_append, List.length_replicate, Nat.sub_zero, Nat.zero_add, List.map_nil, List.drop_zero]
    rw [List.take_of_length_le (by omega), List.drop_replicate]
  intro n hn d hd
  obtain ⟨B, i⟩ := d
  obtain ⟨j, hj, hi, hB⟩ : ∃ j : Nat, j + n = 64 ∧ i = (j : Int) ∧ B = pAt l0 b j := by
    rw [hok] at hd
    obtain ⟨h1, h2, h3⟩ := hd
    simp only at h2 h3
    exact ⟨64 - n, by omega, h2, h3⟩
  have hB64 : B.length = 64 := by rw [hB, pAt_len, h64]
  cbv
  cases h : fc .lss i 64 <;> cbv
  · have hj64 : j = 64 := by
      cases hA
      rw [hi] at h
      have h : ¬ ((j : Int) < 64) := of_decide_eq_false h
      omega
    have k1 : fl (gadd 0 64) (hlen' B) = true := by cases hA; exact decide_eq_true (by show 0 + 64 ≤ B.length; omega)
    refine fin_of hK ?_ (by cbv) ?_
    · cbv
      simp only [k1]
    · rw [hv]
      cbv
      cases hA; subst hN
      show SV.str (pdN key b) = SV.str (mkb ((B.drop 0).take 64))
      rw [List.drop_zero, List.take_of_length_le (by omega), hB, hj64]
      unfold pdN padL pAt
      rw [List.take_of_length_le (by omega), List.drop_of_length_le (by omega), List.append_nil, hl0]
  · have hn0 : n ≠ 0 := by
      intro h0
      cases hA
      rw [hi] at h
      have h : (j : Int) < 64 := of_decide_eq_true h
      omega
    obtain ⟨n', rfl⟩ : ∃ n', n = n' + 1 := ⟨n - 1, by omega⟩
    have a1 : fi .add .i64 i 1 = ((j + 1 : Nat) : Int) := by cases hA; rw [hi]; exact add_nat (c := 1) (by omega) (by omega)
    have hfi : fn i = j := by cases hA; rw [hi]; exact Int.toNat_natCast j
    have k1 : fb i 64 = true := by
      cases hA; rw [hi]
      show (decide ((0 : Int) ≤ (j : Int)) && decide ((j : Int) < ((64 : Nat) : Int))) = true
      simp only [Bool.and_eq_true, decide_eq_true_eq]
      exact ⟨Int.natCast_nonneg j, Int.ofNat_lt.2 (by omega)⟩
    have k2 : fl (gadd (fn i) 1) (hlen' B) = true := by rw [hfi]; cases hA; exact decide_eq_true (by show j + 1 ≤ B.length; omega)
    cbv
    refine ⟨?_, ?_, trivial⟩
    · rw [hok, a1, hfi]
      have hjn : 64 - n' = j + 1 := by omega
      refine ⟨by omega, by rw [hjn], ?_⟩
      rw [hjn, ← pAt_step (by omega), ← hB]
      cases hA
      rfl
    · simp only [k1, k2]

theorem con_pad : Con Tryd.prog 52 (padF std apStd) := by
  refine con_shut Tryd.func52 rfl (by kernel_rfl) (fun args v us hF hv => ?_) (fun args v hF => ?_)
  · unfold padF at hF
    split at hF
    · rename_i key x
      split at hF
      · rename_i b hx
        simp only [Prod.mk.injEq] at hF
        obtain ⟨h1, hF⟩ := hF
        have h1 : key.size ≤ 64 := by simpa [std] using h1
        have hv' : SV.vals [] [.str key, .int .u8 b] = some us := by
          simp only [SV.vals, Option.bind_eq_some_iff, Option.map_eq_some_iff] at hv ⊢
          obtain ⟨u, hu, r, ⟨u2, hu2, r2, hr2, rfl⟩, rfl⟩ := hv
          exact ⟨u, hu, _, ⟨u2, (u8_of hx hu2).1, r2, hr2, rfl⟩, rfl⟩
        exact ⟨_, _, good (l := []) (by simp), rfl, by kernel_rfl, hv', Nat.le_of_ble_eq_true rfl, pad_vc std apStd (ALoop 0) key b rfl rfl rfl h1 v hF.symm (FinP v) rfl⟩
      · cases hF
    · cases hF
  · unfold padF at hF
    split at hF
    · rename_i key x
      split at hF
      · rename_i b hx
        have : x.idsLt 0 = true := by unfold SV.u8 at hx; split at hx <;> first | rfl | cases hx
        simp [SV.idsLts, this, SV.idsLt]
      · cases hF
    · cases hF

end Go.Proofs.YtpnpfihjlobonaaDoor
