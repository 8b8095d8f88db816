/- The law HmacZeros hands back true, whatever the input. It has no conditions (the tables of the sha package are as the program lays them: the card ties them to its text). -/
import Derived.Test.YtpnpfihjlobonaaDoorHr3
import Derived.Test.YtpnpfihjlobonaaDoorHl1
import Derived.Test.YtpnpfihjlobonaaDoorLawG
import Derived.Test.YtpnpfihjlobonaaDoorTie
import Derived.Test.YtpnpfihjlobonaaDoorCards
import Derived.SevenTiedAt
namespace Go.Proofs.YtpnpfihjlobonaaDoor
open Go.Eng Go.ChangeShapes Go.WideShapes Go.ChangeAt Go.RowKit
set_option maxRecDepth 1000000
set_option maxHeartbeats 8000000
set_option linter.unusedSimpArgs false
set_option linter.unusedVariables false

def hmacZerosL (A : Ar) (N : Ap) : Pure := [(19, rsumF A N)]
def hmacZerosD (A : Ar) (N : Ap) : Heap := [(13, macH A N), (12, trueH N)]

theorem hmacZerosL_ok : ∀ p ∈ hmacZerosL std apStd, Con Tryd.prog p.1 p.2 := by
  intro p hp
  simp only [hmacZerosL, List.mem_cons, List.not_mem_nil, or_false] at hp
  rcases hp with rfl
  · exact con_rsum
theorem hmacZerosD_ok : ∀ p ∈ hmacZerosD std apStd, HCon Tryd.prog [0, 1] p.1 p.2 := by
  intro p hp
  simp only [hmacZerosD, List.mem_cons, List.not_mem_nil, or_false] at hp
  rcases hp with rfl | rfl
  · exact hcon_mac
  · exact hcon_awake8

theorem kyN_short {key : ByteArray} (h : key.size ≤ 64) : kyN key = key := by unfold kyN; rw [if_neg (by omega)]
theorem mac_sum (a b : ByteArray) (h : 64 < a.size) : macN (sumP a) b = macN a b := by
  have e : kyN (sumP a) = kyN a := by
    rw [kyN_short (by rw [sumP_size]; omega)]
    unfold kyN; rw [if_pos (by omega), sumN_P]
  unfold macN kH; rw [e]
theorem mac_zeros (a b : ByteArray) (k : Nat) (h : a.size + k ≤ 64) : macN (a ++ mkb (List.replicate k 0)) b = macN a b := by
  have e1 : kyN a = a := kyN_short (by omega)
  have e2 : kyN (a ++ mkb (List.replicate k 0)) = a ++ mkb (List.replicate k 0) := kyN_short (by rw [ByteArray.size_append, size_mkb, List.length_replicate]; omega)
  unfold macN kH
  rw [e1, e2, pdN_zeros _ _ _ h, pdN_zeros _ _ _ h]
theorem mac_zeros' (a b : ByteArray) (k : Int) (h : a.size + k.toNat ≤ 64) : macN (a ++ mkb (((List.replicate k.toNat (0 : Int)).drop 0).take k.toNat)) b = macN a b := by
  rw [List.drop_zero, List.take_of_length_le (by simp)]
  exact mac_zeros a b k.toNat h
theorem zerosK {n : Nat} (h : n ≤ 64) (c k : Int) (e : k = IntKind.i64.wrap (iop .rem .u64 (IntKind.u64.wrap c) (IntKind.u64.wrap (iop .sub .i64 65 (n : Int)))))   : 0 ≤ k ∧ k ≤ 64 ∧ n + k.toNat ≤ 64 := by
  have h1 : iop .sub .i64 65 (n : Int) = 65 - (n : Int) := by
    show IntKind.i64.wrap _ = _
    rw [IntKind.wrap_i64]; omega
  have h2 : IntKind.u64.wrap (65 - (n : Int)) = 65 - (n : Int) := by rw [IntKind.wrap_u64]; omega
  have h3 : 0 ≤ IntKind.u64.wrap c := by rw [IntKind.wrap_u64]; omega
  rw [h1, h2] at e
  have h4 : iop .rem .u64 (IntKind.u64.wrap c) (65 - (n : Int)) = (IntKind.u64.wrap c) % (65 - (n : Int)) := Int.tmod_eq_emod_of_nonneg h3
  rw [h4, IntKind.wrap_i64] at e
  have h5 := Int.emod_lt_of_pos (IntKind.u64.wrap c) (show 0 < 65 - (n : Int) by omega)
  have h6 := Int.emod_nonneg (IntKind.u64.wrap c) (show 65 - (n : Int) ≠ 0 by omega)
  omega
theorem zerosNe {n : Nat} (h : n ≤ 64) : IntKind.u64.wrap (iop .sub .i64 65 (n : Int)) ≠ 0 := by
  have h1 : iop .sub .i64 65 (n : Int) = 65 - (n : Int) := by
    show IntKind.i64.wrap _ = _
    rw [IntKind.wrap_i64]; omega
  rw [h1, IntKind.wrap_u64]; omega
theorem scmp_eq {x y : ByteArray} (h : x = y) : std.scmp .eql x y = true := by subst h; simp [std, scmp]
theorem goodgp {base : Nat} {l : Pure} {d : Heap} (q : List Nat) (pl : Nat → PT) (hb : 2 ≤ base) (h : ∀ p ∈ l, Con Tryd.prog p.1 p.2) (h' : ∀ p ∈ d, HCon Tryd.prog [0, 1] p.1 p.2) : Eng.Good Tryd.prog (cxhp std (ALoop base) noJ l d [0, 1] q dy0 pl) base :=
  ⟨good0p rfl h h', rfl, .inr rfl, hb⟩

def hmacZerosPl : List (Nat × PT) := [(6, .step 0 (.step 1 (.step 3 (.step 4 (.step 8 (.alt 2 (.step 5 (.step 6 (.step 7 (.step 9 (.step 10 (.step 11 (.step 12 (.step 13 (.step 14 .done))))))))) (.alt 5 (.alt 2 (.step 6 (.step 7 (.step 9 (.step 10 (.step 11 (.step 12 (.step 13 (.step 14 .done)))))))) (.alt 6 (.step 2 (.step 7 (.step 9 (.step 10 (.step 11 (.step 12 (.step 13 (.step 14 .done)))))))) .nil)) .nil)))))))]

theorem hmacZeros_vc (A : Ar) (N : Ap) (L : LP) (F R : List Int) (a : ByteArray) (b : ByteArray) (c : Int) (hL : L = ALoop 2) (hA : A = std) (hN : N = apStd) (hF : F = firstL) (hR : R = roundsL) (ha : a.size ≤ maxLen) (hb : b.size ≤ maxLen) (hc : IntKind.i64.wrap c = c) (K : Bool → SV → List Blk → Prop) (hK : K = FinH 2 (.bool true) [] [] (uniR 2 (.bool true) [] [])) :
    Hides (afun (cxhp A L noJ (hmacZerosL A N) (hmacZerosD A N) [0, 1] [13, 12] dy0 (pll hmacZerosPl)) Tryd.f5 [.str a, .str b, .int .i64 c] [⟨.ints .u32 F, .ro⟩, ⟨.ints .u32 R, .ro⟩] K) := by
  have he : ∀ x, A.icmp .eql x x = true := fun x => by subst hA; simp [std, icmp]
  have hs : ∀ x, A.scmp .eql x x = true := fun x => by subst hA; simp [std, scmp]
  have hNF : N (List Int) Bool isFirst F = true := by subst hN; exact decide_eq_true hF
  have hNR : N (List Int) Bool isRounds R = true := by subst hN; exact decide_eq_true hR
  obtain ⟨fi, fc, fw, fb, fn, fo, fs, fa, fe, fz, fy, ff, fl, fq, gadd, gsub, gmul, gmin, hlen', hget, hset, happ, hisub, irep, iput', rlen, rint', rbool', rstr', rset, rapp, rsub, rrep, hmkb, hbyts⟩ := A
  simp only at he hs
  have hm : ∀ x : ByteArray, x.size ≤ maxLen → fc .leq (fo (fz x)) 9223372036854775807 = true := by
    cases hA; intro x hx
    have hx' : x.size ≤ 9223372036854775807 := hx
    exact decide_eq_true (by show (x.size : Int) ≤ _; omega)
  have hz1 : ∀ x : ByteArray, fc .gtr (fo (fz x)) 2000 = false → fl (fz x) 17592186044416 = true := by
    cases hA; intro x h
    have h : ¬ ((x.size : Int) > 2000) := of_decide_eq_false h
    exact decide_eq_true (by show x.size ≤ _; omega)
  have hz2 : ∀ x : ByteArray, fc .gtr (fo (fz x)) 2000 = false → fl (fz x) 17592186044316 = true := by
    cases hA; intro x h
    have h : ¬ ((x.size : Int) > 2000) := of_decide_eq_false h
    exact decide_eq_true (by show x.size ≤ _; omega)
  have zs : ∀ k, fc .gtr (fo (fz a)) 64 = false → k = fw .i64 (fi .rem .u64 (fw .u64 c) (fw .u64 (fi .sub .i64 65 (fo (fz a))))) → a.size ≤ 64 ∧ 0 ≤ k ∧ k ≤ 64 ∧ a.size + k.toNat ≤ 64 := by
    cases hA; intro k h e
    have h : ¬ ((a.size : Int) > 64) := of_decide_eq_false h
    exact ⟨by omega, zerosK (by omega) c k e⟩
  have hE : ∀ k, fc .gtr (fo (fz a)) 64 = false → k = fw .i64 (fi .rem .u64 (fw .u64 c) (fw .u64 (fi .sub .i64 65 (fo (fz a))))) →
      fs .eql (N ByteArray ByteArray (N ByteArray (ByteArray → ByteArray) macN a) b) (N ByteArray ByteArray (N ByteArray (ByteArray → ByteArray) macN (fa a (hmkb (hisub (irep (fn k) 0) 0 (fn k))))) b) = true := by
    intro k h e
    obtain ⟨p1, p2, p3, p4⟩ := zs k h e
    cases hA; subst hN
    simp only [apStd]
    exact scmp_eq (mac_zeros' a b k (by omega)).symm
  have hzz : ∀ k, fc .gtr (fo (fz a)) 64 = false → k = fw .i64 (fi .rem .u64 (fw .u64 c) (fw .u64 (fi .sub .i64 65 (fo (fz a))))) → fl (fz (fa a (hmkb (hisub (irep (fn k) 0) 0 (fn k))))) 17592186044416 = true := by
    intro k h e
    obtain ⟨p1, p2, p3, p4⟩ := zs k h e
    cases hA
    refine decide_eq_true ?_
    show (a ++ mkb (((List.replicate k.toNat (0 : Int)).drop 0).take k.toNat)).size ≤ _
    rw [List.drop_zero, List.take_of_length_le (by simp), ByteArray.size_append, size_mkb, List.length_replicate]
    omega
  have hS : fc .gtr (fo (fz a)) 64 = true → fs .eql (N ByteArray ByteArray (N ByteArray (ByteArray → ByteArray) macN a) b) (N ByteArray ByteArray (N ByteArray (ByteArray → ByteArray) macN (N ByteArray ByteArray sumP a)) b) = true := by
    intro h
    cases hA; subst hN
    have h : ((a.size : Int) > 64) := of_decide_eq_true h
    simp only [apStd]
    exact scmp_eq (mac_sum a b (by omega)).symm
  have hS2 : fl (fz (N ByteArray ByteArray sumP a)) 17592186044416 = true := by
    obtain ⟨x, hx⟩ : ∃ x, x = N ByteArray ByteArray sumP a := ⟨_, rfl⟩
    have hx' : x.size = 32 := by rw [hx]; subst hN; simp only [apStd]; exact sumP_size a
    rw [← hx]
    cases hA
    exact decide_eq_true (by show x.size ≤ _; omega)
  have hz3 : fl (fz a) 17592186044416 = true → fl (fz a) 35184372088832 = true := by
    cases hA; intro h
    have h : a.size ≤ 17592186044416 := of_decide_eq_true h
    exact decide_eq_true (by show a.size ≤ _; omega)
  have ma := hm a ha
  have mb := hm b hb
  apply Hides.mk
  cbv
  cases h1 : fc .gtr (fo (fz a)) 2000 <;> cbv
  · cases h2 : fc .gtr (fo (fz b)) 2000 <;> cbv
    · have a1 := hz1 a h1
      have a2 := hz1 b h2
      cases h3 : fc .gtr (fo (fz a)) 64 <;> cbv
      · obtain ⟨k, hk⟩ : ∃ k, k = fw .i64 (fi .rem .u64 (fw .u64 c) (fw .u64 (fi .sub .i64 65 (fo (fz a))))) := ⟨_, rfl⟩
        have e1 := hE k h3 hk
        have e2 := hzz k h3 hk
        have hne : fc .neq (fw .u64 (fi .sub .i64 65 (fo (fz a)))) 0 = true := by
          obtain ⟨p1, p2, p3, p4⟩ := zs k h3 hk
          clear hk hE hzz hS
          cases hA
          show icmp .neq (IntKind.u64.wrap (iop .sub .i64 65 (a.size : Int))) 0 = true
          simp [icmp, zerosNe p1]
        have k1 : fc .leq 0 k = true := by
          obtain ⟨p1, p2, p3, p4⟩ := zs k h3 hk
          clear hk hE hzz hS
          cases hA; exact decide_eq_true p2
        have k2 : fc .leq k k = true := by clear hk; cases hA; exact decide_eq_true (Int.le_refl _)
        have k64 : k ≤ 64 := by
          obtain ⟨p1, p2, p3, p4⟩ := zs k h3 hk
          omega
        have k3 : fc .leq k (Int.ofNat 140737488355328) = true := by
          clear hk hE hzz hS
          cases hA; exact decide_eq_true (by show k ≤ 140737488355328; omega)
        have k4 : fl (gadd 0 (fn k)) (hlen' (irep (fn k) 0)) = true := by
          clear hk
          cases hA; exact decide_eq_true (by show 0 + k.toNat ≤ (List.replicate k.toNat (0 : Int)).length; rw [List.length_replicate]; omega)
        have k5 : ff a (hmkb (hisub (irep (fn k) 0) 0 (fn k))) = true := by
          obtain ⟨p1, p2, p3, p4⟩ := zs k h3 hk
          clear hk hE hzz hS
          cases hA
          refine decide_eq_true ?_
          show (((a.size + (mkb (((List.replicate k.toNat (0 : Int)).drop 0).take k.toNat)).size : Nat) : Int)) ≤ 9223372036854775807
          rw [List.drop_zero, List.take_of_length_le (by simp), size_mkb, List.length_replicate]
          omega
        repeat (simp only [← hk, hne, k1, k2, k3, k4, k5, a1, a2, e2, hNF, hNR, ma, mb, e1, hs]; cbv)
        refine finH0 hK ?_ rfl rfl
        rw [Bool.and_eq_true]
        refine ⟨by cbv, ?_⟩
        simp only [hNF, hNR, a1, a2, ma, mb, k1, k2, k3, k4, k5, e1, e2, hne]
      · have e1 := hS h3
        have a3 := hz3 a1
        repeat (simp only [ma, mb, a1, a2, a3, hS2, hNF, hNR, e1, hs]; cbv)
        refine finH0 hK ?_ rfl rfl
        rw [Bool.and_eq_true]
        refine ⟨by cbv, ?_⟩
        simp only [hNF, hNR, a1, a2, a3, hS2, ma, mb, e1]
    · refine finH0 hK ?_ rfl rfl
      rw [Bool.and_eq_true]
      refine ⟨by cbv, ?_⟩
      simp only [hNF, hNR, ma, mb]
  · refine finH0 hK ?_ rfl rfl
    rw [Bool.and_eq_true]
    refine ⟨by cbv, ?_⟩
    simp only [hNF, hNR, ma, mb]


theorem hmacZeros_step (ss : List SV) (h : PK.fits [.str, .str, .i64] ss) : ∃ C, Eng.Good Tryd.prog C 2 ∧ C.gl = [0, 1] ∧ codeOk C Tryd.f5.ntmps (Tryd.f5.body.getD .skip) = true ∧ ss.length ≤ Tryd.f5.ntmps ∧
    Hides (afun C Tryd.f5 ss tabH (FinH 2 (.bool true) [] [] (uniR 2 (.bool true) [] []))) := by
  obtain ⟨_, _, _, _, _, _, rfl, ⟨a, rfl, _, wa⟩, ⟨b, rfl, _, wb⟩, ⟨c, rfl, _, wc⟩⟩ := PK.fits3 h
  exact ⟨_, goodgp [13, 12] (pll hmacZerosPl) (by decide) hmacZerosL_ok hmacZerosD_ok, rfl, by kernel_rfl, Nat.le_of_ble_eq_true rfl, hmacZeros_vc std apStd (ALoop 2) firstL roundsL a b c rfl rfl rfl rfl rfl wa wb wc _ rfl⟩

theorem hmacZeros_lifted (os : Os) (started : os.Started) (H : Type) (enc : TypeId × Value → H) :
    ReturnsInHanded {} Tryd.checked os 5 .any (fun w args => (Rows.hmacZerosSpec.pre enc Tryd.prog Tryd.f5 [] false w args ∧ laidMetH Tryd.prog tabD w) ∧ sizedMet enc Tryd.prog Tryd.f5 (OpenSpec.ofChange Rows.hmacZerosSpec) false w args) (Rows.hmacZerosSpec.post enc Tryd.prog Tryd.f5 false true false false) :=
  liftedG_of Rows.hmacZerosSpec Tryd.func5 (tb := 4) (by kernel_rfl) Tryd.underlying4 rfl
    (by
      intro H ds h
      match ds, h with
      | [d1, d2, d3], _ => rfl) (by kernel_rfl) os started H enc (by kernel_rfl)
    (ChangeSpec.witness_shaped (enc := enc) (C := Tryd.checked) (os := os) (X := fun w _ => laidMetH Tryd.prog tabD w) false (World.doorLaid Tryd.prog 400 os) #[.string ByteArray.empty, .string ByteArray.empty, .int .i64 0] 8 rfl (World.shaped_of_RefB (by kernel_rfl) (by kernel_rfl)) (by kernel_rfl) (by kernel_rfl) (by kernel_rfl) (door_met os _))
    (fun W base args ds ps hval hA hT => walk_genG Tryd.func5 (c := Tryd.f5.body.getD .skip) (by kernel_rfl) [.str, .str, .i64] (ts := [9, 9, 3]) (by kernel_rfl)
      ⟨Tryd.underlying9, Tryd.underlying9, Tryd.underlying3, trivial⟩ hmacZeros_step W base args ds ps hval hA hT)

theorem hmacZeros_row : Rows.HmacZerosSaid :=
  OpenClaim.holds_of_wide 5 Tryd.f5 rfl rfl rfl rfl rfl rfl rfl ⟨rfl, rfl, rfl, rfl, rfl⟩ rfl rfl rfl rfl rfl (by kernel_rfl) Tryd.func5 (by kernel_rfl)
    (of_decide_eq_true (by kernel_rfl)) (by unfold Func.isWrapper; first | (rw [if_pos (by decide +kernel)]; kernel_rfl) | (rw [if_neg (by decide +kernel)]; exact ⟨rfl, rfl⟩))
    (fun os started H enc _ => hmacZeros_lifted os started H enc)

theorem HmacZeros_proved : Rows.HmacZerosCardSaid := by
  unfold Rows.HmacZerosCardSaid Rows.hmacZerosCard
  exact Claim7.holds_tied_plain_at .later [] [.data, .data] true _ false
    hmacZeros_row (fun _ h => by cases h) (by kernel_rfl) (fun _ h => by cases h) hmacZeros_row_tie rfl ⟨rfl, rfl⟩ (by kernel_rfl) rfl
    (fun f fn hf hfn => by
      obtain rfl : f = 5 := Option.some.inj ((show Tryd.prog.funcNamed "sandglass/sandglasslaw08.HmacZeros" = some 5 by kernel_rfl).symm.trans hf) |>.symm
      obtain rfl : fn = Tryd.f5 := (Option.some.inj (Tryd.func5.symm.trans hfn)).symm
      exact ⟨by kernel_rfl, fun j t ht => by
        have hp : Tryd.f5.params = #[9, 9, 3] := by kernel_rfl
        rw [hp] at ht
        have hm : t ∈ [9, 9, 3] := by simpa using Array.mem_of_getElem? ht
        have hall : ([9, 9, 3].all fun u => !Tryd.prog.wantsStandIn u) = true := by kernel_rfl
        exact (show Tryd.prog.wantsStandIn t = false by simpa using List.all_eq_true.1 hall t hm)⟩)
    (by kernel_rfl)

end Go.Proofs.YtpnpfihjlobonaaDoor
