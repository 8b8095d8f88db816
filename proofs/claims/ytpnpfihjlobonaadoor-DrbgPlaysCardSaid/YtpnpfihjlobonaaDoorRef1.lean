/- Walks through the reference of the sha package: a word turned, a product of words, what is above. It has no conditions. -/
import Derived.Test.YtpnpfihjlobonaaDoorSha3
import Derived.Test.YtpnpfihjlobonaaDoorFin
namespace Go.Proofs.YtpnpfihjlobonaaDoor
open Go.Eng Go.RowKit
set_option maxRecDepth 1000000
set_option maxHeartbeats 4000000
set_option linter.unusedSimpArgs false
set_option linter.unusedVariables false

theorem goodh {base : Nat} {l : Pure} {d : Heap} (h : ∀ p ∈ l, Con Tryd.prog p.1 p.2) (h' : ∀ p ∈ d, HCon Tryd.prog [] p.1 p.2) : Eng.Good Tryd.prog (cxh std (ALoop base) noJ l d [] dy0) base :=
  ⟨good0 rfl h h', rfl, .inr rfl, Nat.zero_le _⟩

/-! A word turned. -/

theorem or_comm32 (a b : Int) : iop .or .u32 a b = iop .or .u32 b a := by
  show IntKind.u32.wrap _ = IntKind.u32.wrap _
  rw [BitVec.or_comm]

theorem turn_vc (A : Ar) (N : Ap) (L : LP) (x k : Int) (hA : A = std) (hN : N = apStd) (hk : k = 2 ∨ k = 6 ∨ k = 7 ∨ k = 11 ∨ k = 13 ∨ k = 17 ∨ k = 18 ∨ k = 19 ∨ k = 22 ∨ k = 25) (v : SV) (K : Bool → SV → List Blk → Prop) (hK : K = FinP v)
    (hv : v = .int .u32 (ap2 N rotr k x)) : Shut (afun (cx A L []) Tryd.f67 [.int .u32 x, .num .i64 k] [] K) := by
  apply Shut.mk
  rcases hk with rfl | rfl | rfl | rfl | rfl | rfl | rfl | rfl | rfl | rfl
  all_goals
    cbv
    cases hA; cases hN
    refine fin_of hK rfl rfl ?_
    rw [hv]
    simp only [ap2, apStd, rotr]
    rw [or_comm32]
    rfl

theorem con_turn : Con Tryd.prog 67 (rightF apStd) := by
  refine con_shut Tryd.func67 rfl (by kernel_rfl) (fun args v us hF hv => ?_) (fun args v hF => rightF_ids hF)
  unfold rightF at hF
  split at hF
  · rename_i x k
    split at hF
    · rename_i a hx hk
      simp only [Prod.mk.injEq, true_and] at hF
      exact ⟨_, _, good (l := []) (by simp), rfl, by kernel_rfl, args_turn hx hv, Nat.le_of_ble_eq_true rfl, turn_vc std apStd (ALoop 0) a k rfl rfl (turns_of hk) v (FinP v) rfl hF.symm⟩
    · cases hF
  · cases hF

/-! A product of words. -/

def mAdd (o a b c : Int) : Int := iop .add .u64 (iop .add .u64 o (iop .mul .u64 a b)) c
def mLo (t : Int) : Int := iop .and .u64 t 4294967295
def mHi (t : Int) : Int := iop .shr .u64 t 32
def mrow : List Int → Int → List Int → Int → List Int
  | o :: os, x, y :: ys, c => mLo (mAdd o x y c) :: mrow os x ys (mHi (mAdd o x y c))
  | _, _, _, c => [c]
def mulL : List Int → List Int → List Int → List Int
  | [], _, o => o
  | x :: xs, ys, o => match mrow o x ys 0 with
    | r :: rs => r :: mulL xs ys rs
    | [] => []
def mulZ (X Y : List Int) : List Int := mulL X Y (List.replicate Y.length 0)

theorem list2 {X : List Int} (h : X.length = 2) : X = [gi 0 X, gi 1 X] := (list_n 2 X h).symm
theorem list4 {X : List Int} (h : X.length = 4) : X = [gi 0 X, gi 1 X, gi 2 X, gi 3 X] := (list_n 4 X h).symm
theorem list6 {X : List Int} (h : X.length = 6) : X = [gi 0 X, gi 1 X, gi 2 X, gi 3 X, gi 4 X, gi 5 X] := (list_n 6 X h).symm

/-- Whole numbers of 64 bits. -/
def asU64 : Cs → Option (List Int)
  | .ints k l => match Nat.beq (kn k) (kn .u64) with
    | true => some l
    | false => none
  | .lit l => asInts .u64 l
  | _ => none

theorem asU64_sb {c : Cs} {X : List Int} (h : asU64 c = some X) {ρ : List RE} : (Cs.ints .u64 X).sb ρ c := by
  unfold asU64 at h
  split at h
  · split at h
    · rename_i hk
      cases h
      have := kn_eq hk
      subst this
      exact ⟨rfl, rfl⟩
    · cases h
  · rename_i l
    show (match asInts .u64 l with | some xs => X = xs | none => False)
    rw [h]
  · cases h

def mulH (A : Ar) (N : Ap) : HF := fun args h => match args, h with
  | [.slice i 0 2 2, .slice j 0 2 2], [⟨c, k⟩] => match asU64 c with
    | some X => ⟨Nat.beq i 0 && (Nat.beq j 0 && (liveK k && A.neq (A.ilen X) 2)), .slice 1 0 4 4, [], [⟨.ints .u64 (ap2 N mulZ X X), .var⟩]⟩
    | none => ⟨false, .bad, [], []⟩
  | [.slice i 0 4 4, .slice j 0 2 2], [⟨c, k⟩, ⟨c', k'⟩] => match asU64 c with
    | some X => match asU64 c' with
      | some Y => ⟨Nat.beq i 0 && (Nat.beq j 1 && (liveK k && (liveK k' && (A.neq (A.ilen X) 4 && A.neq (A.ilen Y) 2)))), .slice 2 0 6 6, [], [⟨.ints .u64 (ap2 N mulZ X Y), .var⟩]⟩
      | none => ⟨false, .bad, [], []⟩
    | none => ⟨false, .bad, [], []⟩
  | _, _ => ⟨false, .bad, [], []⟩

theorem mul22_vc (A : Ar) (N : Ap) (L : LP) (X : List Int) (hL : L = ALoop 1) (hA : A = std) (hN : N = apStd) (hX : X.length = 2) (nw : List Blk) (hnw : nw = [⟨.ints .u64 (ap2 N mulZ X X), .var⟩]) (K : Bool → SV → List Blk → Prop) (hK : K = FinH 1 (.slice 1 0 4 4) [] nw (uniR 1 (.slice 1 0 4 4) [] nw)) :
    Shut (afun (cxh A L noJ [] [] [] dy0) Tryd.f65 [.slice 0 0 2 2, .slice 0 0 2 2] [⟨.ints .u64 X, .ro⟩] K) := by
  obtain ⟨fi, fc, fw, fb, fn, fo, fs, fa, fe, fz, fy, ff, fl, fq, gadd, gsub, gmul, gmin, hlen', hget, hset⟩ := A
  obtain ⟨P, hP⟩ : ∃ P, P = ap2 N mulZ X X := ⟨_, rfl⟩
  rw [← hP] at hnw
  have e1 : ∀ i : Nat, i < 2 → fl (gadd i 1) (hlen' X) = true := by cases hA; intro i hi; exact decide_eq_true (by show i + 1 ≤ X.length; omega)
  have e10 := e1 0 (by omega)
  have e11 := e1 1 (by omega)
  clear e1
  apply Shut.mk
  cbv
  refine lp_rounds hL 3 hL (.inr rfl) ?_
  cbv
  refine lp_rounds hL 3 hL (.inr rfl) ?_
  cbv
  refine lp_rounds hL 3 hL (.inr rfl) ?_
  cbv
  rw [hnw] at hK
  rw [hK]
  simp (maxSteps := 10000000) only [e10, e11]
  cbv
  rw [hP]
  have hl := list2 hX
  cases hA; subst hN
  simp only [ap2, apStd]
  conv => rhs; rw [hl]
  trivial

theorem mul42_vc (A : Ar) (N : Ap) (L : LP) (X Y : List Int) (hL : L = ALoop 2) (hA : A = std) (hN : N = apStd) (hX : X.length = 4) (hY : Y.length = 2) (nw : List Blk) (hnw : nw = [⟨.ints .u64 (ap2 N mulZ X Y), .var⟩]) (K : Bool → SV → List Blk → Prop) (hK : K = FinH 2 (.slice 2 0 6 6) [] nw (uniR 2 (.slice 2 0 6 6) [] nw)) :
    Shut (afun (cxh A L noJ [] [] [] dy0) Tryd.f65 [.slice 0 0 4 4, .slice 1 0 2 2] [⟨.ints .u64 X, .ro⟩, ⟨.ints .u64 Y, .ro⟩] K) := by
  obtain ⟨fi, fc, fw, fb, fn, fo, fs, fa, fe, fz, fy, ff, fl, fq, gadd, gsub, gmul, gmin, hlen', hget, hset⟩ := A
  obtain ⟨P, hP⟩ : ∃ P, P = ap2 N mulZ X Y := ⟨_, rfl⟩
  rw [← hP] at hnw
  have e1 : ∀ i : Nat, i < 4 → fl (gadd i 1) (hlen' X) = true := by cases hA; intro i hi; exact decide_eq_true (by show i + 1 ≤ X.length; omega)
  have e2 : ∀ i : Nat, i < 2 → fl (gadd i 1) (hlen' Y) = true := by cases hA; intro i hi; exact decide_eq_true (by show i + 1 ≤ Y.length; omega)
  have e10 := e1 0 (by omega)
  have e11 := e1 1 (by omega)
  have e12 := e1 2 (by omega)
  have e13 := e1 3 (by omega)
  have e20 := e2 0 (by omega)
  have e21 := e2 1 (by omega)
  clear e1 e2
  apply Shut.mk
  cbv
  refine lp_rounds hL 5 hL (.inr rfl) ?_
  cbv
  refine lp_rounds hL 3 hL (.inr rfl) ?_
  cbv
  refine lp_rounds hL 3 hL (.inr rfl) ?_
  cbv
  refine lp_rounds hL 3 hL (.inr rfl) ?_
  cbv
  refine lp_rounds hL 3 hL (.inr rfl) ?_
  cbv
  rw [hnw] at hK
  rw [hK]
  simp (maxSteps := 10000000) only [e10, e11, e12, e13, e20, e21]
  cbv
  rw [hP]
  have hl := list4 hX
  have hl2 := list2 hY
  cases hA; subst hN
  simp only [ap2, apStd]
  conv => rhs; rw [hl, hl2]
  trivial

theorem hcon_mul : HCon Tryd.prog [] 65 (mulH std apStd) := by
  refine hcon_shut Tryd.func65 rfl (by kernel_rfl) (fun args h v ch nw hF m us w H hv => ?_)
  unfold mulH at hF
  split at hF
  · rename_i i j c k
    split at hF
    · rename_i X hX
      simp only [HR.mk.injEq, Bool.and_eq_true] at hF
      obtain ⟨⟨h1, h2, h3, h4⟩, rfl, rfl, rfl⟩ := hF
      have h1 : i = 0 := by simpa using h1
      have h2 : j = 0 := by simpa using h2
      subst h1; subst h2
      have h4 : X.length = 2 := by simpa [std] using h4
      refine ⟨_, [.slice 0 0 2 2, .slice 0 0 2 2], _, goodh (base := 1) (l := []) (d := []) (by simp) (by simp), rfl, by kernel_rfl, hv, Nat.le_of_ble_eq_true rfl, ?_, ?_, by simp,
        mul22_vc std apStd (ALoop 1) X rfl rfl rfl h4 _ rfl _ rfl⟩
      · exact ⟨⟨kOk_ro h3, asU64_sb hX⟩, trivial⟩
      · rfl
    · simp at hF
  · rename_i i j c k c' k'
    split at hF
    · rename_i X hX
      split at hF
      · rename_i Y hY
        simp only [HR.mk.injEq, Bool.and_eq_true] at hF
        obtain ⟨⟨h1, h2, h3, h4, h5, h6⟩, rfl, rfl, rfl⟩ := hF
        have h1 : i = 0 := by simpa using h1
        have h2 : j = 1 := by simpa using h2
        subst h1; subst h2
        have h5 : X.length = 4 := by simpa [std] using h5
        have h6 : Y.length = 2 := by simpa [std] using h6
        refine ⟨_, [.slice 0 0 4 4, .slice 1 0 2 2], _, goodh (base := 2) (l := []) (d := []) (by simp) (by simp), rfl, by kernel_rfl, hv, Nat.le_of_ble_eq_true rfl, ?_, ?_, by simp,
          mul42_vc std apStd (ALoop 2) X Y rfl rfl rfl h5 h6 _ rfl _ rfl⟩
        · exact ⟨⟨kOk_ro h3, asU64_sb hX⟩, ⟨kOk_ro h4, asU64_sb hY⟩, trivial⟩
        · rfl
      · simp at hF
    · simp at hF
  · simp at hF

/-! Is it above? -/

def anyPos : List Int → Bool
  | [] => false
  | a :: r => if icmp .gtr a 0 then true else anyPos r
def aboveL (a : List Int) (x n : Int) : Bool :=
  if anyPos (a.drop (n.toNat + 1)).reverse then true else if icmp .neq (a.getD n.toNat 0) x then icmp .gtr (a.getD n.toNat 0) x else anyPos (a.take n.toNat)

def aboveH (A : Ar) (N : Ap) : HF := fun args h => match args, h with
  | [.slice i 0 4 4, .int .u64 x, .num .i64 n], [⟨c, k⟩] => match asU64 c with
    | some X => ⟨Nat.beq i 0 && (icmp .eql n 2 && (liveK k && A.neq (A.ilen X) 4)), .bool (ap3 N aboveL X x n), [], []⟩
    | none => ⟨false, .bad, [], []⟩
  | [.slice i 0 6 6, .int .u64 x, .num .i64 n], [⟨c, k⟩] => match asU64 c with
    | some X => ⟨Nat.beq i 0 && (icmp .eql n 3 && (liveK k && A.neq (A.ilen X) 6)), .bool (ap3 N aboveL X x n), [], []⟩
    | none => ⟨false, .bad, [], []⟩
  | _, _ => ⟨false, .bad, [], []⟩

theorem above4_vc (A : Ar) (N : Ap) (L : LP) (X : List Int) (x : Int) (hL : L = ALoop 1) (hA : A = std) (hN : N = apStd) (hX : X.length = 4) (v : SV) (hv : v = .bool (ap3 N aboveL X x 2)) (K : Bool → SV → List Blk → Prop) (hK : K = FinH 1 v [] [] (uniR 1 v [] [])) :
    Shut (afun (cxh A L noJ [] [] [] dy0) Tryd.f66 [.slice 0 0 4 4, .int .u64 x, .num .i64 2] [⟨.ints .u64 X, .ro⟩] K) := by
  obtain ⟨fi, fc, fw, fb, fn, fo, fs, fa, fe, fz, fy, ff, fl, fq, gadd, gsub, gmul, gmin, hlen', hget, hset⟩ := A
  have e1 : ∀ i : Nat, i < 4 → fl (gadd i 1) (hlen' X) = true := by cases hA; intro i hi; exact decide_eq_true (by show i + 1 ≤ X.length; omega)
  have e10 := e1 0 (by omega)
  have e11 := e1 1 (by omega)
  have e12 := e1 2 (by omega)
  have e13 := e1 3 (by omega)
  clear e1
  have el : fl = fun a b => decide (a ≤ b) := by cases hA; rfl
  obtain ⟨R, hR⟩ : ∃ R, R = ap3 N aboveL X x 2 := ⟨_, rfl⟩
  have hR' : R = if (if fc .gtr (hget X 3) 0 then true else false) then true else if fc .neq (hget X 2) x then fc .gtr (hget X 2) x else (if fc .gtr (hget X 0) 0 then true else if fc .gtr (hget X 1) 0 then true else false) := by
    rw [hR]; cases hA; subst hN
    show aboveL X x 2 = _
    rw [list4 hX]; rfl
  rw [← hR] at hv
  apply Shut.mk
  cbv
  refine lp_rounds hL 3 hL (.inr rfl) ?_
  cbv
  cases h3 : fc .gtr (hget X 3) 0 <;> cbv
  · cases hm : fc .neq (hget X 2) x <;> cbv
    · refine lp_rounds hL 3 hL (.inr rfl) ?_
      cbv
      cases h0 : fc .gtr (hget X 0) 0 <;> cbv
      · cases h1 : fc .gtr (hget X 1) 0 <;> cbv
        · refine finH0 hK ?_ (by rw [hv]; exact rfl) ?_
          · simp only [e10, e11, e12, e13]
            first | rfl | (simp only [el]; rfl)
          · rw [hv, hR']; simp only [h3, hm, h0, h1]
            rfl
        · refine finH0 hK ?_ (by rw [hv]; exact rfl) ?_
          · simp only [e10, e11, e12, e13]
            first | rfl | (simp only [el]; rfl)
          · rw [hv, hR']; simp only [h3, hm, h0, h1]
            rfl
      · refine finH0 hK ?_ (by rw [hv]; exact rfl) ?_
        · simp only [e10, e11, e12, e13]
          first | rfl | (simp only [el]; rfl)
        · rw [hv, hR']; simp only [h3, hm, h0]
          rfl
    · refine finH0 hK ?_ (by rw [hv]; exact rfl) ?_
      · simp only [e10, e11, e12, e13]
        first | rfl | (simp only [el]; rfl)
      · rw [hv, hR']; simp only [h3, hm]
        rfl
  · refine finH0 hK ?_ (by rw [hv]; exact rfl) ?_
    · simp only [e10, e11, e12, e13]
      first | rfl | (simp only [el]; rfl)
    · rw [hv, hR']; simp only [h3]
      rfl

theorem above6_vc (A : Ar) (N : Ap) (L : LP) (X : List Int) (x : Int) (hL : L = ALoop 1) (hA : A = std) (hN : N = apStd) (hX : X.length = 6) (v : SV) (hv : v = .bool (ap3 N aboveL X x 3)) (K : Bool → SV → List Blk → Prop) (hK : K = FinH 1 v [] [] (uniR 1 v [] [])) :
    Shut (afun (cxh A L noJ [] [] [] dy0) Tryd.f66 [.slice 0 0 6 6, .int .u64 x, .num .i64 3] [⟨.ints .u64 X, .ro⟩] K) := by
  obtain ⟨fi, fc, fw, fb, fn, fo, fs, fa, fe, fz, fy, ff, fl, fq, gadd, gsub, gmul, gmin, hlen', hget, hset⟩ := A
  have e1 : ∀ i : Nat, i < 6 → fl (gadd i 1) (hlen' X) = true := by cases hA; intro i hi; exact decide_eq_true (by show i + 1 ≤ X.length; omega)
  have e10 := e1 0 (by omega)
  have e11 := e1 1 (by omega)
  have e12 := e1 2 (by omega)
  have e13 := e1 3 (by omega)
  have e14 := e1 4 (by omega)
  have e15 := e1 5 (by omega)
  clear e1
  have el : fl = fun a b => decide (a ≤ b) := by cases hA; rfl
  obtain ⟨R, hR⟩ : ∃ R, R = ap3 N aboveL X x 3 := ⟨_, rfl⟩
  have hR' : R = if (if fc .gtr (hget X 5) 0 then true else if fc .gtr (hget X 4) 0 then true else false) then true else if fc .neq (hget X 3) x then fc .gtr (hget X 3) x else (if fc .gtr (hget X 0) 0 then true else if fc .gtr (hget X 1) 0 then true else if fc .gtr (hget X 2) 0 then true else false) := by
    rw [hR]; cases hA; subst hN
    show aboveL X x 3 = _
    rw [list6 hX]; rfl
  rw [← hR] at hv
  apply Shut.mk
  cbv
  refine lp_rounds hL 4 hL (.inr rfl) ?_
  cbv
  cases h5 : fc .gtr (hget X 5) 0 <;> cbv
  · cases h4 : fc .gtr (hget X 4) 0 <;> cbv
    · cases hm : fc .neq (hget X 3) x <;> cbv
      · refine lp_rounds hL 4 hL (.inr rfl) ?_
        cbv
        cases h0 : fc .gtr (hget X 0) 0 <;> cbv
        · cases h1 : fc .gtr (hget X 1) 0 <;> cbv
          · cases h2 : fc .gtr (hget X 2) 0 <;> cbv
            · refine finH0 hK ?_ (by rw [hv]; exact rfl) ?_
              · simp only [e10, e11, e12, e13, e14, e15]
                first | rfl | (simp only [el]; rfl)
              · rw [hv, hR']; simp only [h5, h4, hm, h0, h1, h2]
                rfl
            · refine finH0 hK ?_ (by rw [hv]; exact rfl) ?_
              · simp only [e10, e11, e12, e13, e14, e15]
                first | rfl | (simp only [el]; rfl)
              · rw [hv, hR']; simp only [h5, h4, hm, h0, h1, h2]
                rfl
          · refine finH0 hK ?_ (by rw [hv]; exact rfl) ?_
            · simp only [e10, e11, e12, e13, e14, e15]
              first | rfl | (simp only [el]; rfl)
            · rw [hv, hR']; simp only [h5, h4, hm, h0, h1]
              rfl
        · refine finH0 hK ?_ (by rw [hv]; exact rfl) ?_
          · simp only [e10, e11, e12, e13, e14, e15]
            first | rfl | (simp only [el]; rfl)
          · rw [hv, hR']; simp only [h5, h4, hm, h0]
            rfl
      · refine finH0 hK ?_ (by rw [hv]; exact rfl) ?_
        · simp only [e10, e11, e12, e13, e14, e15]
          first | rfl | (simp only [el]; rfl)
        · rw [hv, hR']; simp only [h5, h4, hm]
          rfl
    · refine finH0 hK ?_ (by rw [hv]; exact rfl) ?_
      · simp only [e10, e11, e12, e13, e14, e15]
        first | rfl | (simp only [el]; rfl)
      · rw [hv, hR']; simp only [h5, h4]
        rfl
  · refine finH0 hK ?_ (by rw [hv]; exact rfl) ?_
    · simp only [e10, e11, e12, e13, e14, e15]
      first | rfl | (simp only [el]; rfl)
    · rw [hv, hR']; simp only [h5]
      rfl

theorem hcon_above : HCon Tryd.prog [] 66 (aboveH std apStd) := by
  refine hcon_shut Tryd.func66 rfl (by kernel_rfl) (fun args h v ch nw hF m us w H hv => ?_)
  unfold aboveH at hF
  split at hF
  · rename_i i x n c k
    split at hF
    · rename_i X hX
      simp only [HR.mk.injEq, Bool.and_eq_true] at hF
      obtain ⟨⟨h1, h2, h3, h4⟩, rfl, rfl, rfl⟩ := hF
      have h1 : i = 0 := by simpa using h1
      have h2 : n = 2 := by simpa [icmp] using h2
      subst h1; subst h2
      have h4 : X.length = 4 := by simpa [std] using h4
      refine ⟨_, [.slice 0 0 4 4, .int .u64 x, .num .i64 2], _, goodh (base := 1) (l := []) (d := []) (by simp) (by simp), rfl, by kernel_rfl, hv, Nat.le_of_ble_eq_true rfl, ?_, ?_, by simp,
        above4_vc std apStd (ALoop 1) X x rfl rfl rfl h4 _ rfl _ rfl⟩
      · exact ⟨⟨kOk_ro h3, asU64_sb hX⟩, trivial⟩
      · rfl
    · simp at hF
  · rename_i i x n c k
    split at hF
    · rename_i X hX
      simp only [HR.mk.injEq, Bool.and_eq_true] at hF
      obtain ⟨⟨h1, h2, h3, h4⟩, rfl, rfl, rfl⟩ := hF
      have h1 : i = 0 := by simpa using h1
      have h2 : n = 3 := by simpa [icmp] using h2
      subst h1; subst h2
      have h4 : X.length = 6 := by simpa [std] using h4
      refine ⟨_, [.slice 0 0 6 6, .int .u64 x, .num .i64 3], _, goodh (base := 1) (l := []) (d := []) (by simp) (by simp), rfl, by kernel_rfl, hv, Nat.le_of_ble_eq_true rfl, ?_, ?_, by simp,
        above6_vc std apStd (ALoop 1) X x rfl rfl rfl h4 _ rfl _ rfl⟩
      · exact ⟨⟨kOk_ro h3, asU64_sb hX⟩, trivial⟩
      · rfl
    · simp at hF
  · simp at hF

end Go.Proofs.YtpnpfihjlobonaaDoor
