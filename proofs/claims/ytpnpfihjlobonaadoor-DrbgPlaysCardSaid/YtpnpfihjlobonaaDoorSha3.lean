/- Walks through the functions of the sha package: a block is taken. It has no conditions. -/
import Derived.Test.YtpnpfihjlobonaaDoorSha2
namespace Go.Proofs.YtpnpfihjlobonaaDoor
open Go.Eng Go.RowKit
set_option maxRecDepth 1000000
set_option maxHeartbeats 4000000
set_option linter.unusedSimpArgs false
set_option linter.unusedVariables false

def roundsL : List Int := [1116352408, 1899447441, 3049323471, 3921009573, 961987163, 1508970993, 2453635748, 2870763221, 3624381080, 310598401, 607225278, 1426881987, 1925078388, 2162078206, 2614888103, 3248222580, 3835390401, 4022224774, 264347078, 604807628, 770255983, 1249150122, 1555081692, 1996064986, 2554220882, 2821834349, 2952996808, 3210313671, 3336571891, 3584528711, 113926993, 338241895, 666307205, 773529912, 1294757372, 1396182291, 1695183700, 1986661051, 2177026350, 2456956037, 2730485921, 2820302411, 3259730800, 3345764771, 3516065817, 3600352804, 4094571909, 275423344, 430227734, 506948616, 659060556, 883997877, 958139571, 1322822218, 1537002063, 1747873779, 1955562222, 2024104815, 2227730452, 2361852424, 2428436474, 2756734187, 3204031479, 3329325298]
def firstL : List Int := [1779033703, 3144134277, 1013904242, 2773480762, 1359893119, 2600822924, 528734635, 1541459225]
def isRounds (l : List Int) : Bool := decide (l = roundsL)
def isFirst (l : List Int) : Bool := decide (l = firstL)

abbrev O8 := Int × Int × Int × Int × Int × Int × Int × Int

def rOne (k w e f g h : Int) : Int :=
  iop .add .u32 (iop .add .u32 (iop .add .u32 (iop .add .u32 h (iop .xor .u32 (iop .xor .u32 (rotr 6 e) (rotr 11 e)) (rotr 25 e))) (iop .xor .u32 g (iop .and .u32 e (iop .xor .u32 f g)))) k) w
def rTwo (a b c : Int) : Int :=
  iop .add .u32 (iop .xor .u32 (iop .xor .u32 (rotr 2 a) (rotr 13 a)) (rotr 22 a)) (iop .or .u32 (iop .and .u32 a b) (iop .and .u32 c (iop .or .u32 a b)))
def rdStep (k w : Int) : O8 → O8
  | (a, b, c, d, e, f, g, h) => (iop .add .u32 (rOne k w e f g h) (rTwo a b c), a, b, c, iop .add .u32 d (rOne k w e f g h), e, f, g)
def rdAt (R W : List Int) (x : O8) : Nat → O8
  | 0 => x
  | k + 1 => rdStep (R.getD k 0) (W.getD k 0) (rdAt R W x k)
def tup8 (H : List Int) : O8 := (gi 0 H, gi 1 H, gi 2 H, gi 3 H, gi 4 H, gi 5 H, gi 6 H, gi 7 H)
def add8 (H : List Int) : O8 → List Int
  | (a, b, c, d, e, f, g, h) => [iop .add .u32 (gi 0 H) a, iop .add .u32 (gi 1 H) b, iop .add .u32 (gi 2 H) c, iop .add .u32 (gi 3 H) d, iop .add .u32 (gi 4 H) e, iop .add .u32 (gi 5 H) f, iop .add .u32 (gi 6 H) g, iop .add .u32 (gi 7 H) h]
def blockN (H l : List Int) : List Int := add8 H (rdAt roundsL (wordsN l) (tup8 H) 64)

theorem list_n (n : Nat) (X : List Int) (h : X.length = n) : (List.range n).map (fun i => X.getD i 0) = X := by
  apply List.ext_getElem
  · simp [h]
  · intro i h1 h2
    simp [List.getD_eq_getElem?_getD, List.getElem?_eq_getElem h2]

theorem list8 {X : List Int} (h : X.length = 8) : [gi 0 X, gi 1 X, gi 2 X, gi 3 X, gi 4 X, gi 5 X, gi 6 X, gi 7 X] = X := list_n 8 X h
theorem wordsN_len (l : List Int) : (wordsN l).length = 64 := wAt_len l 64

def getG (g : List Int → Nat → Int) (R : List Int) : Nat → Nat → List SV
  | 0, _ => []
  | n + 1, i => .int .u32 (g R i) :: getG g R n (i + 1)

def blHd (R : List Int) (l : List Int) (wl : Nat) (n : Int) (h0 h1 h2 h3 h4 h5 h6 h7 : Int) (gg : List Int → Nat → Int) : Nat → O8 × List Int × Int → St
  | _, ((a, b, c, d, e, f, g, h), W, t) => ⟨[(0, .ptr 2 0), (4, .ptr 4 0), (5, .int .u32 a), (6, .int .u32 b), (7, .int .u32 c), (8, .int .u32 d), (9, .int .u32 e), (10, .int .u32 f), (11, .int .u32 g), (12, .int .u32 h),
      (61, .agg (getG gg R 64 0)), (62, .int .i64 t)],
    [.nil, ⟨.ints .u32 R, .ro⟩, ⟨.lit [.int .u32 h0, .int .u32 h1, .int .u32 h2, .int .u32 h3, .int .u32 h4, .int .u32 h5, .int .u32 h6, .int .u32 h7, .row 3 wl, .int .u64 n], .var⟩, ⟨.ints .u8 l, .ro⟩, ⟨.ints .u32 W, .var⟩], true⟩
def blEx (S : St) : O8 × List Int × Int := ((slotI S 5, slotI S 6, slotI S 7, slotI S 8, slotI S 9, slotI S 10, slotI S 11, slotI S 12), cellL S 4, slotI S 62)
def blOk (R W0 : List Int) (x : O8) (n : Nat) (d : O8 × List Int × Int) : Prop := n ≤ 64 ∧ d.2.2 = ((64 - n : Nat) : Int) ∧ d.2.1 = W0 ∧ d.1 = rdAt R W0 x (64 - n)

theorem block_vc (A : Ar) (N : Ap) (L : LP) (R l : List Int) (len wl : Nat) (n h0 h1 h2 h3 h4 h5 h6 h7 : Int) (hL : L = ALoop 4) (hA : A = std) (hN : N = apStd) (hlen : 64 ≤ len) (hl : 64 ≤ l.length) (hR : R = roundsL)
    (H : List Int) (hH : H = [h0, h1, h2, h3, h4, h5, h6, h7]) (ch : List (Option Blk)) (hch : ch = [none, none, some ⟨.cat 8 (.ints .u32 (ap2 N blockN H l)) (.lit [.row 3 wl, .int .u64 n]), .var⟩]) (K : Bool → SV → List Blk → Prop) (hK : K = FinH 4 (.tup []) ch [] (uniR 4 (.tup []) ch [])) :
    Shut (afun (cxg A L [(70, rightF N)] [(69, wordsH A N)]) Tryd.f64 [.ptr 2 0, .row 3 len]
      [.nil, ⟨.ints .u32 R, .ro⟩, ⟨.lit [.int .u32 h0, .int .u32 h1, .int .u32 h2, .int .u32 h3, .int .u32 h4, .int .u32 h5, .int .u32 h6, .int .u32 h7, .row 3 wl, .int .u64 n], .var⟩, ⟨.ints .u8 l, .ro⟩] K) := by
  have hA' := hA
  obtain ⟨fi, fc, fw, fb, fn, fo, fs, fa, fe, fz, fy, ff, fl, fq, gadd, gsub, gmul, gmin, hlen', hget, hset⟩ := A
  obtain ⟨WN, hWN⟩ : ∃ X, X = wordsN l := ⟨_, rfl⟩
  have hWl : WN.length = 64 := by rw [hWN]; exact wordsN_len l
  obtain ⟨ok, hok⟩ : ∃ f, f = blOk R WN (h0, h1, h2, h3, h4, h5, h6, h7) := ⟨_, rfl⟩
  have e2 : fl = fun a b => decide (a ≤ b) := by cases hA; rfl
  have e3 : gadd = fun a b => a + b := by cases hA; rfl
  have eR : hlen' R = 64 := by cases hA; rw [hR]; rfl
  have el : fl 64 (hlen' l) = true := by cases hA; simpa using hl
  have ell : fl 64 len = true := by cases hA; simpa using hlen
  have gN : ∀ i : Nat, N (List Int) Int (N Nat (List Int → Int) gi i) (N (List Int) (List Int) wordsN l) = gi i WN := by subst hN; intro i; simp only [apStd]; rw [hWN]
  apply Shut.mk
  cbv
  simp only [e3, eR, el, ell]
  simp only [e2]
  cbv
  refine lp_ex hL 64 blEx (blHd R l wl n h0 h1 h2 h3 h4 h5 h6 h7 hget) ok ?_ ?_ hL (.inr rfl)
  · cbv
    subst hok
    refine ⟨⟨Nat.le_refl _, rfl, ?_, rfl⟩, trivial⟩
    simp only [gN]
    exact list_n 64 WN hWl
  intro q hq d hd
  obtain ⟨⟨a, b, c, d, e, f, g, h⟩, W, t⟩ := d
  cbv
  cases hb : fc .lss t 64 <;> cbv
  · have hd' : W = WN ∧ (a, b, c, d, e, f, g, h) = rdAt R WN (h0, h1, h2, h3, h4, h5, h6, h7) 64 := by
      subst hok
      obtain ⟨g1, g2, g3, g4⟩ := hd
      simp only at g2 g3 g4
      cases hA
      simp [icmp] at hb
      have : 64 - q = 64 := by omega
      rw [this] at g4
      exact ⟨g3, g4⟩
    obtain ⟨B, hB⟩ : ∃ B, B = N (List Int) (List Int) (N (List Int) (List Int → List Int) blockN H) l := ⟨_, rfl⟩
    refine lp_rounds hL 9 hL (.inr rfl) ?_
    cbv
    simp only [ap2, ← hB] at hch
    rw [hch] at hK
    rw [hK]
    cbv
    refine ⟨⟨?_, trivial⟩, trivial⟩
    obtain ⟨hW, hx⟩ := hd'
    have et : tup8 H = (h0, h1, h2, h3, h4, h5, h6, h7) := by rw [hH]; rfl
    rw [hB]
    cases hA; subst hN
    simp only [apStd]
    unfold blockN
    rw [← hWN, ← hR, et, ← hx, hH]
    rfl
  · cases q with
    | zero =>
      exfalso
      subst hok
      obtain ⟨g1, g2, g3, g4⟩ := hd
      simp only at g2
      cases hA
      rw [g2] at hb
      simp [icmp] at hb
    | succ q =>
    obtain ⟨k, hk, ht, hW, hx⟩ : ∃ k : Nat, k + q = 63 ∧ t = (k : Int) ∧ W = WN ∧ (a, b, c, d, e, f, g, h) = rdAt R WN (h0, h1, h2, h3, h4, h5, h6, h7) k := by
      subst hok
      obtain ⟨g1, g2, g3, g4⟩ := hd
      simp only at g2 g3 g4
      exact ⟨63 - q, by omega, by rw [g2]; congr 1; omega, g3, by rw [g4]; congr 1; omega⟩
    have hk' : 64 - q = k + 1 := by omega
    have a1 : iop .add .i64 (k : Int) 1 = ((k + 1 : Nat) : Int) := add_nat (c := 1) (by omega) (by omega)
    have hRl : R.length = 64 := by rw [hR]; rfl
    have eL := list_n 64 R hRl
    dsimp only [List.range, List.range.loop, List.map] at eL
    have ew : rdAt R WN (h0, h1, h2, h3, h4, h5, h6, h7) (64 - q) = rdStep (R.getD k 0) (WN.getD k 0) (a, b, c, d, e, f, g, h) := by rw [hk', hx]; rfl
    have hn' : q ≤ 64 := by omega
    have bk : (decide ((0 : Int) ≤ (k : Int)) && decide ((k : Int) < ((64 : Nat) : Int))) = true := by simp; omega
    have g2 : Nat.le k.succ 64 := by show k + 1 ≤ 64; omega
    have hWl' : W.length = 64 := by rw [hW]; exact hWl
    cbv
    cases hA; subst hN; subst hok; subst ht
    refine ⟨⟨hn', by rw [a1, hk'], hW, ?_⟩, ?_, trivial⟩
    · simp only [apStd, Int.toNat_natCast, eL]
      rw [ew, hW]
      unfold rdStep rOne rTwo
      rfl
    · have g1 : Nat.le k.succ W.length := by rw [hWl']; exact g2
      simp only [Int.toNat_natCast, bk, g1, g2, decide_true]

/-! The contract. -/

/-- What a state holds: its numbers, what waits, how many bytes there were. -/
def stOf : Cs → Option (List Int × SV × SV)
  | .cat 8 (.ints .u32 H) (.lit [w, n]) => some (H, w, n)
  | .lit [a, b, c, d, e, f, g, h, w, n] => match asInts .u32 [a, b, c, d, e, f, g, h] with
    | some xs => some (xs, w, n)
    | none => none
  | _ => none

def blockH (A : Ar) (N : Ap) : HF := fun args h => match args, h with
  | [.ptr id 0, .row id' len], [_, ⟨.ints kr R, br⟩, ⟨st, .var⟩, ⟨.ints k l, bk⟩] => match stOf st with
    | some (H, .row id2 wl, .int .u64 n) => ⟨Nat.beq id 2 && (Nat.beq id' 3 && (Nat.beq id2 3 && (Nat.beq (kn k) (kn .u8) && (Nat.beq (kn kr) (kn .u32) && (A.nle 64 len && (A.nle 64 (A.ilen l) && (liveK bk && (liveK br && (ap1 N isRounds R && A.neq (A.ilen H) 8))))))))),
        .tup [], [none, none, some ⟨.cat 8 (.ints .u32 (ap2 N blockN H l)) (.lit [.row 3 wl, .int .u64 n]), .var⟩], []⟩
    | _ => ⟨false, .bad, [], []⟩
  | _, _ => ⟨false, .bad, [], []⟩

theorem stOf_sb {st : Cs} {H : List Int} {w n : SV} (h : stOf st = some (H, w, n)) (hl : H.length = 8) {ρ : List RE} (hw : w.sb ρ w) (hn : n.sb ρ n) :
    (Cs.lit [.int .u32 (gi 0 H), .int .u32 (gi 1 H), .int .u32 (gi 2 H), .int .u32 (gi 3 H), .int .u32 (gi 4 H), .int .u32 (gi 5 H), .int .u32 (gi 6 H), .int .u32 (gi 7 H), w, n]).sb ρ st := by
  unfold stOf at h
  split at h
  · rename_i H' w' n'
    simp only [Option.some.injEq, Prod.mk.injEq] at h
    obtain ⟨rfl, rfl, rfl⟩ := h
    refine ⟨rfl, ?_, ⟨hw, hn, trivial⟩⟩
    exact list_n 8 H' hl
  · rename_i a b c d e f g i w' n'
    split at h
    · rename_i xs hxs
      simp only [Option.some.injEq, Prod.mk.injEq] at h
      obtain ⟨rfl, rfl, rfl⟩ := h
      have one : ∀ (v : SV) (x : Int), asInt1 .u32 v = some x → (SV.int .u32 x).sb ρ v := fun v x hv => by
        unfold asInt1 at hv
        split at hv
        · rename_i k' y
          split at hv
          · rename_i hk
            simp only [Option.some.injEq] at hv
            exact ⟨hk, hv.symm⟩
          · cases hv
        · rename_i k' y
          split at hv
          · rename_i hk
            simp only [Option.some.injEq] at hv
            exact ⟨hk, hv.symm⟩
          · cases hv
        · cases hv
      have step : ∀ (v : SV) (r : List SV) (xs : List Int), asInts .u32 (v :: r) = some xs → ∃ x ys, xs = x :: ys ∧ asInt1 .u32 v = some x ∧ asInts .u32 r = some ys := fun v r xs hh => by
        simp only [asInts] at hh
        split at hh
        · cases hh
        · rename_i x hx
          split at hh
          · cases hh
          · rename_i ys hys
            simp only [Option.some.injEq] at hh
            exact ⟨x, ys, hh.symm, hx, hys⟩
      obtain ⟨x0, y0, rfl, e0, hxs⟩ := step _ _ _ hxs
      obtain ⟨x1, y1, rfl, e1, hxs⟩ := step _ _ _ hxs
      obtain ⟨x2, y2, rfl, e2, hxs⟩ := step _ _ _ hxs
      obtain ⟨x3, y3, rfl, e3, hxs⟩ := step _ _ _ hxs
      obtain ⟨x4, y4, rfl, e4, hxs⟩ := step _ _ _ hxs
      obtain ⟨x5, y5, rfl, e5, hxs⟩ := step _ _ _ hxs
      obtain ⟨x6, y6, rfl, e6, hxs⟩ := step _ _ _ hxs
      obtain ⟨x7, y7, rfl, e7, hxs⟩ := step _ _ _ hxs
      exact ⟨one _ _ e0, one _ _ e1, one _ _ e2, one _ _ e3, one _ _ e4, one _ _ e5, one _ _ e6, one _ _ e7, hw, hn, trivial⟩
    · cases h
  · cases h

theorem hcon_block : HCon Tryd.prog [0, 1] 64 (blockH std apStd) := by
  refine hcon_shut Tryd.func64 rfl (by kernel_rfl) (fun args h v ch nw hF m us w H hv => ?_)
  unfold blockH at hF
  split at hF
  · rename_i id id' len b0 kr R br st k l bk
    split at hF
    · rename_i Hs id2 wl n hst
      simp only [HR.mk.injEq, Bool.and_eq_true] at hF
      obtain ⟨⟨h1, h2, h3, h4, h5, h6, h7, h8, h9, h10, h11⟩, rfl, rfl, rfl⟩ := hF
      have h1 : id = 2 := by simpa using h1
      have h2 : id' = 3 := by simpa using h2
      have h3 : id2 = 3 := by simpa using h3
      subst h1; subst h2; subst h3
      have h4 := kn_eq h4
      have h5 := kn_eq h5
      subst h4; subst h5
      have h6 : 64 ≤ len := by simpa [std] using h6
      have h7 : 64 ≤ l.length := by simpa [std] using h7
      have h11 : Hs.length = 8 := by simpa [std] using h11
      have h10 : R = roundsL := of_decide_eq_true h10
      refine ⟨_, [.ptr 2 0, .row 3 len], _, goodg (base := 4) (l := [(70, rightF apStd)]) (d := [(69, wordsH std apStd)]) dy0 (by decide) (by intro p hp; simp at hp; subst hp; exact con_right) (by intro p hp; simp at hp; subst hp; exact hcon_words),
        rfl, by kernel_rfl, hv, Nat.le_of_ble_eq_true rfl, ?_, ?_, by simp,
        block_vc std apStd (ALoop 4) R l len wl n (gi 0 Hs) (gi 1 Hs) (gi 2 Hs) (gi 3 Hs) (gi 4 Hs) (gi 5 Hs) (gi 6 Hs) (gi 7 Hs) rfl rfl rfl h6 h7 h10 Hs (list_n 8 Hs h11).symm _ rfl _ rfl⟩
      · refine ⟨trivial, ⟨kOk_ro h9, rfl, rfl⟩, ⟨rfl, stOf_sb hst h11 ⟨rfl, rfl⟩ ⟨rfl, rfl⟩⟩, ⟨kOk_ro h8, rfl, rfl⟩, trivial⟩
      · rfl
    · simp at hF
  · simp at hF

end Go.Proofs.YtpnpfihjlobonaaDoor
