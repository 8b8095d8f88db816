/- The law HmacShorter hands back true, whatever the input. It has no conditions (the tables of the sha package are as the program lays them: the card ties them to its text). -/
import Derived.Test.YtpnpfihjlobonaaDoorHr3
import Derived.Test.YtpnpfihjlobonaaDoorHl1
import Derived.Test.YtpnpfihjlobonaaDoorLaw3
import Derived.Test.YtpnpfihjlobonaaDoorTie
import Derived.Test.YtpnpfihjlobonaaDoorCards
import Derived.SevenTiedAt
namespace Go.Proofs.YtpnpfihjlobonaaDoor
open Go.Eng Go.ChangeShapes Go.WideShapes Go.ChangeAt Go.RowKit
set_option maxRecDepth 1000000
set_option maxHeartbeats 1000000
set_option linter.unusedSimpArgs false
set_option linter.unusedVariables false

def hmacShorterL (A : Ar) (N : Ap) : Pure := []
def hmacShorterD (A : Ar) (N : Ap) : Heap := [(17, expandH A N), (12, trueH N)]

theorem hmacShorterL_ok : ∀ p ∈ hmacShorterL std apStd, Con Tryd.prog p.1 p.2 := by
  intro p hp
  cases hp
theorem hmacShorterD_ok : ∀ p ∈ hmacShorterD std apStd, HCon Tryd.prog [0, 1] p.1 p.2 := by
  intro p hp
  simp only [hmacShorterD, List.mem_cons, List.not_mem_nil, or_false] at hp
  rcases hp with rfl | rfl
  · exact hcon_expand
  · exact hcon_awake8

theorem hmacShorter_vc (A : Ar) (N : Ap) (L : LP) (F R : List Int) (a : ByteArray) (b : ByteArray) (c0 c1 : Int) (hL : L = ALoop 2) (hA : A = std) (hN : N = apStd) (hF : F = firstL) (hR : R = roundsL) (ha : a.size ≤ maxLen) (hb : b.size ≤ maxLen) (hc : IntKind.i64.wrap c0 = c0 ∧ IntKind.i64.wrap c1 = c1) (K : Bool → SV → List Blk → Prop) (hK : K = FinH 2 (.bool true) [] [] (uniR 2 (.bool true) [] [])) :
    Hides (afun (cxg A L (hmacShorterL A N) (hmacShorterD A N)) Tryd.f6 [.str a, .str b, .agg [.int .i64 c0, .int .i64 c1]] [⟨.ints .u32 F, .ro⟩, ⟨.ints .u32 R, .ro⟩] K) := by
  have he : ∀ x, A.icmp .eql x x = true := fun x => by subst hA; simp [std, icmp]
  have hs : ∀ x, A.scmp .eql x x = true := fun x => by subst hA; simp [std, scmp]
  have hNF : N (List Int) Bool isFirst F = true := by subst hN; exact decide_eq_true hF
  have hNR : N (List Int) Bool isRounds R = true := by subst hN; exact decide_eq_true hR
  obtain ⟨fi, fc, fw, fb, fn, fo, fs, fa, fe, fz, fy, ff, fl, fq, gadd, gsub, gmul, gmin, hlen'⟩ := A
  simp only at he hs
  have hm : ∀ x : ByteArray, x.size ≤ maxLen → fc .leq (fo (fz x)) 9223372036854775807 = true := by
    cases hA; intro x hx
    have hx' : x.size ≤ 9223372036854775807 := hx
    exact decide_eq_true (by show (x.size : Int) ≤ _; omega)
  have hz1 : ∀ x : ByteArray, fc .gtr (fo (fz x)) 2000 = false → fl (fz x) 17592186044416 = true := by
    cases hA; intro x h
    have h : ¬ ((x.size : Int) > 2000) := of_decide_eq_false h
    exact decide_eq_true (by show x.size ≤ _; omega)
  have hz2 : ∀ x : ByteArray, fc .gtr (fo (fz x)) 2000 = false → fl (fz x) 17592186044316 = true := by
    cases hA; intro x h
    have h : ¬ ((x.size : Int) > 2000) := of_decide_eq_false h
    exact decide_eq_true (by show x.size ≤ _; omega)
  have ma := hm a ha
  have mb := hm b hb
  apply Hides.mk
  cbv
  cases h1 : fc .gtr (fo (fz a)) 2000 <;> cbv
  · cases h2 : fc .gtr (fo (fz b)) 2000 <;> cbv
    · have a1 := hz1 a h1
      have a2 := hz2 b h2
      cases h3 : fc .lss c0 0 <;> cbv
      · cases h4 : fc .lss c1 c0 <;> cbv
        · cases h5 : fc .gtr c1 1000 <;> cbv
          · have hc : 0 ≤ c0 ∧ c0 ≤ c1 ∧ c1 ≤ 1000 := by
              cases hA
              have h3 := of_decide_eq_false h3
              have h4 := of_decide_eq_false h4
              have h5 := of_decide_eq_false h5
              omega
            obtain ⟨p1, p2, p3⟩ := hc
            have e0 : N Int Int expE c0 = 0 := by
              subst hN; show expE c0 = 0
              unfold expE; exact if_neg (by omega)
            have e1 : N Int Int expE c1 = 0 := by
              subst hN; show expE c1 = 0
              unfold expE; exact if_neg (by omega)
            have z0 : fo (fz (N Int ByteArray (N ByteArray (Int → ByteArray) (N ByteArray (ByteArray → Int → ByteArray) expN a) b) c0)) = c0 := by
              cases hA; subst hN
              simp only [apStd]
              show (((expN a b c0).size : Nat) : Int) = c0
              rw [expN_len p1 (by omega)]; omega
            have z1 : fo (fz (N Int ByteArray (N ByteArray (Int → ByteArray) (N ByteArray (ByteArray → Int → ByteArray) expN a) b) c1)) = c1 := by
              cases hA; subst hN
              simp only [apStd]
              show (((expN a b c1).size : Nat) : Int) = c1
              rw [expN_len (by omega) (by omega)]; omega
            have sh : fe (N Int ByteArray (N ByteArray (Int → ByteArray) (N ByteArray (ByteArray → Int → ByteArray) expN a) b) c1) 0 (fn c0) = N Int ByteArray (N ByteArray (Int → ByteArray) (N ByteArray (ByteArray → Int → ByteArray) expN a) b) c0 := by
              cases hA; subst hN
              simp only [apStd]
              exact expN_shorter p1 p2 (by omega)
            have k1 : fc .leq 0 c0 = true := by cases hA; exact decide_eq_true p1
            have k2 : fl 0 (fn c0) = true := by cases hA; exact decide_eq_true (Nat.zero_le _)
            have k3 : fl (fn c0) (fz (N Int ByteArray (N ByteArray (Int → ByteArray) (N ByteArray (ByteArray → Int → ByteArray) expN a) b) c1)) = true := by
              cases hA; subst hN
              simp only [apStd]
              exact decide_eq_true (by show c0.toNat ≤ (expN a b c1).size; rw [expN_len (by omega) (by omega)]; omega)
            have k4 : fc .leq c0 9223372036854775807 = true := by cases hA; exact decide_eq_true (by omega)
            have k5 : fc .leq c1 9223372036854775807 = true := by cases hA; exact decide_eq_true (by omega)
            repeat (simp only [e0, e1, z0, z1, sh, he, hs]; cbv)
            refine finH0 hK ?_ rfl rfl
            rw [Bool.and_eq_true]
            refine ⟨by cbv, ?_⟩
            simp only [hNF, hNR, a1, a2, ma, mb, k1, k2, k3, k4, k5, z0, z1]
          · refine finH0 hK ?_ rfl rfl
            rw [Bool.and_eq_true]
            refine ⟨by cbv, ?_⟩
            simp only [hNF, hNR, ma, mb]
        · refine finH0 hK ?_ rfl rfl
          rw [Bool.and_eq_true]
          refine ⟨by cbv, ?_⟩
          simp only [hNF, hNR, ma, mb]
      · refine finH0 hK ?_ rfl rfl
        rw [Bool.and_eq_true]
        refine ⟨by cbv, ?_⟩
        simp only [hNF, hNR, ma, mb]
    · refine finH0 hK ?_ rfl rfl
      rw [Bool.and_eq_true]
      refine ⟨by cbv, ?_⟩
      simp only [hNF, hNR, ma, mb]
  · refine finH0 hK ?_ rfl rfl
    rw [Bool.and_eq_true]
    refine ⟨by cbv, ?_⟩
    simp only [hNF, hNR, ma, mb]


theorem hmacShorter_step (ss : List SV) (h : PX.fits [.pk .str, .pk .str, .two] ss) : ∃ C, Eng.Good Tryd.prog C 2 ∧ C.gl = [0, 1] ∧ codeOk C Tryd.f6.ntmps (Tryd.f6.body.getD .skip) = true ∧ ss.length ≤ Tryd.f6.ntmps ∧
    Hides (afun C Tryd.f6 ss tabH (FinH 2 (.bool true) [] [] (uniR 2 (.bool true) [] []))) := by
  obtain ⟨_, _, _, _, _, _, rfl, ⟨a, rfl, _, wa⟩, ⟨b, rfl, _, wb⟩, ⟨c0, c1, rfl, _, wc⟩⟩ := PX.fits3 h
  exact ⟨_, goodg dy0 (by decide) hmacShorterL_ok hmacShorterD_ok, rfl, by kernel_rfl, Nat.le_of_ble_eq_true rfl, hmacShorter_vc std apStd (ALoop 2) firstL roundsL a b c0 c1 rfl rfl rfl rfl rfl wa wb wc _ rfl⟩

theorem hmacShorter_lifted (os : Os) (started : os.Started) (H : Type) (enc : TypeId × Value → H) :
    ReturnsInHanded {} Tryd.checked os 6 .any (fun w args => (Rows.hmacShorterSpec.pre enc Tryd.prog Tryd.f6 [] false w args ∧ laidMetH Tryd.prog tabD w) ∧ sizedMet enc Tryd.prog Tryd.f6 (OpenSpec.ofChange Rows.hmacShorterSpec) false w args) (Rows.hmacShorterSpec.post enc Tryd.prog Tryd.f6 false true false false) :=
  liftedG_of Rows.hmacShorterSpec Tryd.func6 (tb := 4) (by kernel_rfl) Tryd.underlying4 rfl
    (by
      intro H ds h
      match ds, h with
      | [d1, d2, d3], _ => rfl) (by kernel_rfl) os started H enc (by kernel_rfl)
    (ChangeSpec.witness_shaped (enc := enc) (C := Tryd.checked) (os := os) (X := fun w _ => laidMetH Tryd.prog tabD w) false (World.doorLaid Tryd.prog 400 os) #[.string ByteArray.empty, .string ByteArray.empty, .agg #[.int .i64 0, .int .i64 0]] 8 rfl (World.shaped_of_RefB (by kernel_rfl) (by kernel_rfl)) (by kernel_rfl) (by kernel_rfl) (by kernel_rfl) (door_met os _))
    (fun W base args ds ps hval hA hT => walk_genX Tryd.func6 (c := Tryd.f6.body.getD .skip) (by kernel_rfl) [.pk .str, .pk .str, .two] (ts := [9, 9, 34]) (by kernel_rfl)
      ⟨Tryd.underlying9, Tryd.underlying9, ⟨_, Tryd.underlying34, by kernel_rfl, by kernel_rfl, by kernel_rfl⟩, trivial⟩ hmacShorter_step W base args ds ps hval hA hT)

theorem hmacShorter_row : Rows.HmacShorterSaid :=
  OpenClaim.holds_of_wide 6 Tryd.f6 rfl rfl rfl rfl rfl rfl rfl ⟨rfl, rfl, rfl, rfl, rfl⟩ rfl rfl rfl rfl rfl (by kernel_rfl) Tryd.func6 (by kernel_rfl)
    (of_decide_eq_true (by kernel_rfl)) (by unfold Func.isWrapper; first | (rw [if_pos (by decide +kernel)]; kernel_rfl) | (rw [if_neg (by decide +kernel)]; exact ⟨rfl, rfl⟩))
    (fun os started H enc _ => hmacShorter_lifted os started H enc)

theorem HmacShorter_proved : Rows.HmacShorterCardSaid := by
  unfold Rows.HmacShorterCardSaid Rows.hmacShorterCard
  exact Claim7.holds_tied_plain_at .later [] [.data, .data] true _ false
    hmacShorter_row (fun _ h => by cases h) (by kernel_rfl) (fun _ h => by cases h) hmacShorter_row_tie rfl ⟨rfl, rfl⟩ (by kernel_rfl) rfl
    (fun f fn hf hfn => by
      obtain rfl : f = 6 := Option.some.inj ((show Tryd.prog.funcNamed "sandglass/sandglasslaw08.HmacShorter" = some 6 by kernel_rfl).symm.trans hf) |>.symm
      obtain rfl : fn = Tryd.f6 := (Option.some.inj (Tryd.func6.symm.trans hfn)).symm
      exact ⟨by kernel_rfl, fun j t ht => by
        have hp : Tryd.f6.params = #[9, 9, 34] := by kernel_rfl
        rw [hp] at ht
        have hm : t ∈ [9, 9, 34] := by simpa using Array.mem_of_getElem? ht
        have hall : ([9, 9, 34].all fun u => !Tryd.prog.wantsStandIn u) = true := by kernel_rfl
        exact (show Tryd.prog.wantsStandIn t = false by simpa using List.all_eq_true.1 hall t hm)⟩)
    (by kernel_rfl)

end Go.Proofs.YtpnpfihjlobonaaDoor
