/- Walks through the reference of the sha package: a root's first bits. It has no conditions. -/
import Derived.Test.YtpnpfihjlobonaaDoorRef1
namespace Go.Proofs.YtpnpfihjlobonaaDoor
open Go.Eng Go.RowKit
set_option maxRecDepth 1000000
set_option maxHeartbeats 4000000
set_option linter.unusedSimpArgs false
set_option linter.unusedVariables false

def rtT (k r : Int) : Int := iop .or .u64 r (iop .shl .u64 1 (IntKind.u64.wrap k))
def rtW (t : Int) : List Int := [iop .and .u64 t 4294967295, iop .shr .u64 t 32]
def rtQ (p : Int) (w : List Int) : List Int := if p = 3 then mulZ (mulZ w w) w else mulZ w w
def rtStep (p x k r : Int) : Int := if aboveL (rtQ p (rtW (rtT k r))) x p then r else rtT k r
def rtGo (p x : Int) : Nat → Int → Int
  | 0, r => r
  | n + 1, r => rtGo p x n (rtStep p x n r)
def rootN (p x : Int) : Int := IntKind.u32.wrap (rtGo p x 40 0)

theorem mrow_len : ∀ (os ys : List Int) (x c : Int), os.length = ys.length → (mrow os x ys c).length = ys.length + 1
  | [], [], _, _, _ => rfl
  | o :: os, y :: ys, x, c, h => by
    simp only [mrow, List.length_cons]
    rw [mrow_len os ys _ _ (by simpa using h)]
  | [], _ :: _, _, _, h => by simp at h
  | _ :: _, [], _, _, h => by simp at h
theorem mulL_len : ∀ (xs ys o : List Int), o.length = ys.length → (mulL xs ys o).length = xs.length + ys.length
  | [], ys, o, h => by simp [mulL, h]
  | x :: xs, ys, o, h => by
    have hr := mrow_len o ys x 0 h
    unfold mulL
    cases hm : mrow o x ys 0 with
    | nil => rw [hm] at hr; simp at hr
    | cons r rs =>
      rw [hm] at hr
      simp only [List.length_cons]
      rw [mulL_len xs ys rs (by simpa using hr)]
      omega
theorem mulZ_len (X Y : List Int) : (mulZ X Y).length = X.length + Y.length := by
  unfold mulZ
  exact mulL_len _ _ _ (by simp)

def rtHd (x p : Int) : Nat → Int × Int → St
  | _, (r, k) => ⟨[(0, .int .u64 x), (1, .num .i64 p), (5, .int .u64 r), (6, .int .i64 k)], [], true⟩
def rtEx (S : St) : Int × Int := (slotI S 5, slotI S 6)
def rtOk (p x Y : Int) (n : Nat) (d : Int × Int) : Prop := d.2 = (n : Int) - 1 ∧ rtGo p x n d.1 = Y ∧ n ≤ 40

theorem root2_vc (A : Ar) (N : Ap) (L : LP) (x : Int) (hL : L = ALoop 0) (hA : A = std) (hN : N = apStd) (v : SV) (K : Bool → SV → List Blk → Prop) (hK : K = FinP v)
    (hv : v = .int .u32 (ap2 N rootN 2 x)) : Shut (afun (cxh A L noJ [] [(65, mulH A N), (66, aboveH A N)] [] dy0) Tryd.f57 [.int .u64 x, .num .i64 2] [] K) := by
  obtain ⟨fi, fc, fw, fb, fn, fo, fs, fa, fe, fz, fy, ff, fl, fq, gadd, gsub, gmul, gmin, hlen', hget, hset⟩ := A
  obtain ⟨Y, hY⟩ : ∃ Y, Y = rtGo 2 x 40 0 := ⟨_, rfl⟩
  obtain ⟨ok, hok⟩ : ∃ f, f = rtOk 2 x Y := ⟨_, rfl⟩
  have q2 : ∀ a b : Int, fq (hlen' [a, b]) 2 = true := by cases hA; intro a b; rfl
  have q4 : ∀ a b : Int, fq (hlen' (N (List Int) (List Int) (N (List Int) (List Int → List Int) mulZ [a, b]) [a, b])) 4 = true := by
    cases hA; subst hN; intro a b; exact decide_eq_true (mulZ_len _ _)
  have q6 : ∀ a b : Int, fq (hlen' (N (List Int) (List Int) (N (List Int) (List Int → List Int) mulZ (N (List Int) (List Int) (N (List Int) (List Int → List Int) mulZ [a, b]) [a, b])) [a, b])) 6 = true := by
    cases hA; subst hN; intro a b; exact decide_eq_true ((mulZ_len _ _).trans (by show (mulZ [a, b] [a, b]).length + 2 = 6; rw [mulZ_len]; rfl))
  apply Shut.mk
  cbv
  refine lp_ex hL 40 rtEx (rtHd x 2) ok ?_ ?_ hL (.inr rfl)
  · cbv
    subst hok
    exact ⟨⟨rfl, hY.symm, Nat.le_refl _⟩, trivial⟩
  intro n hn d hd
  obtain ⟨r, k⟩ := d
  cbv
  cases h : fc .geq k 0 <;> cbv
  · have hr : r = Y := by
      subst hok
      obtain ⟨h1, h2, h3⟩ := hd
      simp only at h1 h2
      cases hA
      simp [icmp] at h
      have : n = 0 := by omega
      subst this
      exact h2
    refine fin_of hK rfl rfl ?_
    rw [hv, hr, hY]
    cases hA; subst hN
    rfl
  · cases n with
    | zero =>
      exfalso
      subst hok
      obtain ⟨h1, h2, h3⟩ := hd
      simp only at h1
      cases hA
      simp [icmp] at h
      omega
    | succ n' =>
    obtain ⟨hk, hgo, hn40⟩ : k = (n' : Int) ∧ rtGo 2 x (n' + 1) r = Y ∧ n' + 1 ≤ 40 := by
      subst hok
      obtain ⟨h1, h2, h3⟩ := hd
      simp only at h1 h2
      exact ⟨by omega, h2, h3⟩
    have hk1 : fi .sub .i64 k 1 = (n' : Int) - 1 := by
      cases hA; subst hk
      show IntKind.i64.wrap _ = _
      rw [IntKind.wrap_i64]; omega
    have g32 : fc .geq 32 0 = true := by cases hA; rfl
    have gk : fc .geq (fw .u64 k) 0 = true := by
      cases hA; subst hk
      show decide (IntKind.u64.wrap (n' : Int) ≥ 0) = true
      exact decide_eq_true (by rw [IntKind.wrap_u64]; omega)
    have hst : rtStep 2 x (n' : Int) r = if N Int Bool (N Int (Int → Bool) (N (List Int) (Int → Int → Bool) aboveL (N (List Int) (List Int) (N (List Int) (List Int → List Int) mulZ [fi .and .u64 (fi .or .u64 r (fi .shl .u64 1 (fw .u64 k))) 4294967295, fi .shr .u64 (fi .or .u64 r (fi .shl .u64 1 (fw .u64 k))) 32]) [fi .and .u64 (fi .or .u64 r (fi .shl .u64 1 (fw .u64 k))) 4294967295, fi .shr .u64 (fi .or .u64 r (fi .shl .u64 1 (fw .u64 k))) 32])) x) 2 then r else (fi .or .u64 r (fi .shl .u64 1 (fw .u64 k))) := by
      cases hA; subst hN; subst hk; rfl
    have hgo' : rtGo 2 x n' (rtStep 2 x (n' : Int) r) = Y := hgo
    cases hb : N Int Bool (N Int (Int → Bool) (N (List Int) (Int → Int → Bool) aboveL (N (List Int) (List Int) (N (List Int) (List Int → List Int) mulZ [fi .and .u64 (fi .or .u64 r (fi .shl .u64 1 (fw .u64 k))) 4294967295, fi .shr .u64 (fi .or .u64 r (fi .shl .u64 1 (fw .u64 k))) 32]) [fi .and .u64 (fi .or .u64 r (fi .shl .u64 1 (fw .u64 k))) 4294967295, fi .shr .u64 (fi .or .u64 r (fi .shl .u64 1 (fw .u64 k))) 32])) x) 2 <;> cbv
    all_goals
      rw [hb] at hst
      simp only [Bool.false_eq_true, if_true, if_false] at hst
      rw [hst] at hgo'
      refine ⟨?_, ?_, trivial⟩
      · rw [hok]
        exact ⟨hk1, hgo', by omega⟩
      · simp only [q2, q4, q6, g32, gk]

theorem root3_vc (A : Ar) (N : Ap) (L : LP) (x : Int) (hL : L = ALoop 0) (hA : A = std) (hN : N = apStd) (v : SV) (K : Bool → SV → List Blk → Prop) (hK : K = FinP v)
    (hv : v = .int .u32 (ap2 N rootN 3 x)) : Shut (afun (cxh A L noJ [] [(65, mulH A N), (66, aboveH A N)] [] dy0) Tryd.f57 [.int .u64 x, .num .i64 3] [] K) := by
  obtain ⟨fi, fc, fw, fb, fn, fo, fs, fa, fe, fz, fy, ff, fl, fq, gadd, gsub, gmul, gmin, hlen', hget, hset⟩ := A
  obtain ⟨Y, hY⟩ : ∃ Y, Y = rtGo 3 x 40 0 := ⟨_, rfl⟩
  obtain ⟨ok, hok⟩ : ∃ f, f = rtOk 3 x Y := ⟨_, rfl⟩
  have q2 : ∀ a b : Int, fq (hlen' [a, b]) 2 = true := by cases hA; intro a b; rfl
  have q4 : ∀ a b : Int, fq (hlen' (N (List Int) (List Int) (N (List Int) (List Int → List Int) mulZ [a, b]) [a, b])) 4 = true := by
    cases hA; subst hN; intro a b; exact decide_eq_true (mulZ_len _ _)
  have q6 : ∀ a b : Int, fq (hlen' (N (List Int) (List Int) (N (List Int) (List Int → List Int) mulZ (N (List Int) (List Int) (N (List Int) (List Int → List Int) mulZ [a, b]) [a, b])) [a, b])) 6 = true := by
    cases hA; subst hN; intro a b; exact decide_eq_true ((mulZ_len _ _).trans (by show (mulZ [a, b] [a, b]).length + 2 = 6; rw [mulZ_len]; rfl))
  apply Shut.mk
  cbv
  refine lp_ex hL 40 rtEx (rtHd x 3) ok ?_ ?_ hL (.inr rfl)
  · cbv
    subst hok
    exact ⟨⟨rfl, hY.symm, Nat.le_refl _⟩, trivial⟩
  intro n hn d hd
  obtain ⟨r, k⟩ := d
  cbv
  cases h : fc .geq k 0 <;> cbv
  · have hr : r = Y := by
      subst hok
      obtain ⟨h1, h2, h3⟩ := hd
      simp only at h1 h2
      cases hA
      simp [icmp] at h
      have : n = 0 := by omega
      subst this
      exact h2
    refine fin_of hK rfl rfl ?_
    rw [hv, hr, hY]
    cases hA; subst hN
    rfl
  · cases n with
    | zero =>
      exfalso
      subst hok
      obtain ⟨h1, h2, h3⟩ := hd
      simp only at h1
      cases hA
      simp [icmp] at h
      omega
    | succ n' =>
    obtain ⟨hk, hgo, hn40⟩ : k = (n' : Int) ∧ rtGo 3 x (n' + 1) r = Y ∧ n' + 1 ≤ 40 := by
      subst hok
      obtain ⟨h1, h2, h3⟩ := hd
      simp only at h1 h2
      exact ⟨by omega, h2, h3⟩
    have hk1 : fi .sub .i64 k 1 = (n' : Int) - 1 := by
      cases hA; subst hk
      show IntKind.i64.wrap _ = _
      rw [IntKind.wrap_i64]; omega
    have g32 : fc .geq 32 0 = true := by cases hA; rfl
    have gk : fc .geq (fw .u64 k) 0 = true := by
      cases hA; subst hk
      show decide (IntKind.u64.wrap (n' : Int) ≥ 0) = true
      exact decide_eq_true (by rw [IntKind.wrap_u64]; omega)
    have hst : rtStep 3 x (n' : Int) r = if N Int Bool (N Int (Int → Bool) (N (List Int) (Int → Int → Bool) aboveL (N (List Int) (List Int) (N (List Int) (List Int → List Int) mulZ (N (List Int) (List Int) (N (List Int) (List Int → List Int) mulZ [fi .and .u64 (fi .or .u64 r (fi .shl .u64 1 (fw .u64 k))) 4294967295, fi .shr .u64 (fi .or .u64 r (fi .shl .u64 1 (fw .u64 k))) 32]) [fi .and .u64 (fi .or .u64 r (fi .shl .u64 1 (fw .u64 k))) 4294967295, fi .shr .u64 (fi .or .u64 r (fi .shl .u64 1 (fw .u64 k))) 32])) [fi .and .u64 (fi .or .u64 r (fi .shl .u64 1 (fw .u64 k))) 4294967295, fi .shr .u64 (fi .or .u64 r (fi .shl .u64 1 (fw .u64 k))) 32])) x) 3 then r else (fi .or .u64 r (fi .shl .u64 1 (fw .u64 k))) := by
      cases hA; subst hN; subst hk; rfl
    have hgo' : rtGo 3 x n' (rtStep 3 x (n' : Int) r) = Y := hgo
    cases hb : N Int Bool (N Int (Int → Bool) (N (List Int) (Int → Int → Bool) aboveL (N (List Int) (List Int) (N (List Int) (List Int → List Int) mulZ (N (List Int) (List Int) (N (List Int) (List Int → List Int) mulZ [fi .and .u64 (fi .or .u64 r (fi .shl .u64 1 (fw .u64 k))) 4294967295, fi .shr .u64 (fi .or .u64 r (fi .shl .u64 1 (fw .u64 k))) 32]) [fi .and .u64 (fi .or .u64 r (fi .shl .u64 1 (fw .u64 k))) 4294967295, fi .shr .u64 (fi .or .u64 r (fi .shl .u64 1 (fw .u64 k))) 32])) [fi .and .u64 (fi .or .u64 r (fi .shl .u64 1 (fw .u64 k))) 4294967295, fi .shr .u64 (fi .or .u64 r (fi .shl .u64 1 (fw .u64 k))) 32])) x) 3 <;> cbv
    all_goals
      rw [hb] at hst
      simp only [Bool.false_eq_true, if_true, if_false] at hst
      rw [hst] at hgo'
      refine ⟨?_, ?_, trivial⟩
      · rw [hok]
        exact ⟨hk1, hgo', by omega⟩
      · simp only [q2, q4, q6, g32, gk]

def rootF (A : Ar) (N : Ap) : List SV → Bool × SV
  | [x, .num .i64 p] => match x.u64 with
    | some x => (icmp .eql p 2 || icmp .eql p 3, .int .u32 (ap2 N rootN p x))
    | none => (false, .bad)
  | _ => (false, .bad)

theorem u64_of {x : SV} {n : Int} (h : SV.u64 x = some n) {u : Value} {m : List Pl} (hv : x.val m = some u) : (SV.int .u64 n).val m = some u ∧ x.idsLt 0 = true := by
  unfold SV.u64 at h
  split at h
  · cases h; exact ⟨hv, rfl⟩
  · cases h; exact ⟨hv, rfl⟩
  · cases h

theorem rootF_ids {args : List SV} {v : SV} (hF : rootF std apStd args = (true, v)) : SV.idsLts 0 args = true := by
  unfold rootF at hF
  split at hF
  · rename_i x p
    split at hF
    · rename_i a hx
      have : x.idsLt 0 = true := by unfold SV.u64 at hx; split at hx <;> first | rfl | cases hx
      simp [SV.idsLts, this, SV.idsLt]
    · cases hF
  · cases hF

theorem con_root : Con Tryd.prog 57 (rootF std apStd) := by
  refine con_shut Tryd.func57 rfl (by kernel_rfl) (fun args v us hF hv => ?_) (fun args v hF => rootF_ids hF)
  unfold rootF at hF
  split at hF
  · rename_i x p
    split at hF
    · rename_i a hx
      simp only [Prod.mk.injEq, Bool.or_eq_true] at hF
      obtain ⟨hp, hF⟩ := hF
      have hv' : SV.vals [] [.int .u64 a, .num .i64 p] = some us := by
        simp only [SV.vals, Option.bind_eq_some_iff, Option.map_eq_some_iff] at hv ⊢
        obtain ⟨u, hu, r, hr, rfl⟩ := hv
        exact ⟨u, (u64_of hx hu).1, r, hr, rfl⟩
      have hg : Eng.Good Tryd.prog (cxh std (ALoop 0) noJ [] [(65, mulH std apStd), (66, aboveH std apStd)] [] dy0) 0 :=
        goodh (by simp) (by intro p hp; simp at hp; rcases hp with rfl | rfl; exact hcon_mul; exact hcon_above)
      rcases hp with hp | hp
      · have hp : p = 2 := by simpa [icmp] using hp
        subst hp
        exact ⟨_, _, hg, rfl, by kernel_rfl, hv', Nat.le_of_ble_eq_true rfl, root2_vc std apStd (ALoop 0) a rfl rfl rfl v (FinP v) rfl hF.symm⟩
      · have hp : p = 3 := by simpa [icmp] using hp
        subst hp
        exact ⟨_, _, hg, rfl, by kernel_rfl, hv', Nat.le_of_ble_eq_true rfl, root3_vc std apStd (ALoop 0) a rfl rfl rfl v (FinP v) rfl hF.symm⟩
    · cases hF
  · cases hF

end Go.Proofs.YtpnpfihjlobonaaDoor
