/- The law HmacExpands hands back true, whatever the input. It has no conditions (the tables of the sha package are as the program lays them: the card ties them to its text). -/
import Derived.Test.YtpnpfihjlobonaaDoorHr3
import Derived.Test.YtpnpfihjlobonaaDoorHl1
import Derived.Test.YtpnpfihjlobonaaDoorLawG
import Derived.Test.YtpnpfihjlobonaaDoorTie
import Derived.Test.YtpnpfihjlobonaaDoorCards
import Derived.SevenTiedAt
namespace Go.Proofs.YtpnpfihjlobonaaDoor
open Go.Eng Go.ChangeShapes Go.WideShapes Go.ChangeAt Go.RowKit
set_option maxRecDepth 1000000
set_option maxHeartbeats 1000000
set_option linter.unusedSimpArgs false
set_option linter.unusedVariables false

def hmacExpandsL (A : Ar) (N : Ap) : Pure := [(18, rexpF A N)]
def hmacExpandsD (A : Ar) (N : Ap) : Heap := [(17, expandH A N), (12, trueH N)]

theorem hmacExpandsL_ok : ∀ p ∈ hmacExpandsL std apStd, Con Tryd.prog p.1 p.2 := by
  intro p hp
  simp only [hmacExpandsL, List.mem_cons, List.not_mem_nil, or_false] at hp
  rcases hp with rfl
  · exact con_rexp
theorem hmacExpandsD_ok : ∀ p ∈ hmacExpandsD std apStd, HCon Tryd.prog [0, 1] p.1 p.2 := by
  intro p hp
  simp only [hmacExpandsD, List.mem_cons, List.not_mem_nil, or_false] at hp
  rcases hp with rfl | rfl
  · exact hcon_expand
  · exact hcon_awake8

theorem hmacExpands_vc (A : Ar) (N : Ap) (L : LP) (F R : List Int) (a : ByteArray) (b : ByteArray) (c : Int) (hL : L = ALoop 2) (hA : A = std) (hN : N = apStd) (hF : F = firstL) (hR : R = roundsL) (ha : a.size ≤ maxLen) (hb : b.size ≤ maxLen) (hc : IntKind.i64.wrap c = c) (K : Bool → SV → List Blk → Prop) (hK : K = FinH 2 (.bool true) [] [] (uniR 2 (.bool true) [] [])) :
    Hides (afun (cxg A L (hmacExpandsL A N) (hmacExpandsD A N)) Tryd.f4 [.str a, .str b, .int .i64 c] [⟨.ints .u32 F, .ro⟩, ⟨.ints .u32 R, .ro⟩] K) := by
  have he : ∀ x, A.icmp .eql x x = true := fun x => by subst hA; simp [std, icmp]
  have hs : ∀ x, A.scmp .eql x x = true := fun x => by subst hA; simp [std, scmp]
  have hNF : N (List Int) Bool isFirst F = true := by subst hN; exact decide_eq_true hF
  have hNR : N (List Int) Bool isRounds R = true := by subst hN; exact decide_eq_true hR
  obtain ⟨fi, fc, fw, fb, fn, fo, fs, fa, fe, fz, fy, ff, fl, fq, gadd, gsub, gmul, gmin, hlen'⟩ := A
  simp only at he hs
  have hm : ∀ x : ByteArray, x.size ≤ maxLen → fc .leq (fo (fz x)) 9223372036854775807 = true := by
    cases hA; intro x hx
    have hx' : x.size ≤ 9223372036854775807 := hx
    exact decide_eq_true (by show (x.size : Int) ≤ _; omega)
  have hz1 : ∀ x : ByteArray, fc .gtr (fo (fz x)) 2000 = false → fl (fz x) 17592186044416 = true := by
    cases hA; intro x h
    have h : ¬ ((x.size : Int) > 2000) := of_decide_eq_false h
    exact decide_eq_true (by show x.size ≤ _; omega)
  have hz2 : ∀ x : ByteArray, fc .gtr (fo (fz x)) 2000 = false → fl (fz x) 17592186044316 = true := by
    cases hA; intro x h
    have h : ¬ ((x.size : Int) > 2000) := of_decide_eq_false h
    exact decide_eq_true (by show x.size ≤ _; omega)
  have hw : fw .i64 (N Int Int expE c) = N Int Int expE c := by
    cases hA; subst hN
    show IntKind.i64.wrap (expE c) = expE c
    unfold expE
    split <;> rfl
  have ma := hm a ha
  have mb := hm b hb
  apply Hides.mk
  cbv
  cases h1 : fc .gtr (fo (fz a)) 2000 <;> cbv
  · cases h2 : fc .gtr (fo (fz b)) 2000 <;> cbv
    · have a1 := hz1 a h1
      have a2 := hz2 b h2
      have main : True := trivial
      cases h3 : fc .gtr c 2000 <;> cbv
      · repeat (simp only [hw, he, hs]; cbv)
        refine finH0 hK ?_ rfl rfl
        rw [Bool.and_eq_true]
        refine ⟨by cbv, ?_⟩
        simp only [hNF, hNR, a1, a2, ma, mb]
      · cases h4 : fc .leq c 8160 <;> cbv
        · repeat (simp only [hw, he, hs]; cbv)
          refine finH0 hK ?_ rfl rfl
          rw [Bool.and_eq_true]
          refine ⟨by cbv, ?_⟩
          simp only [hNF, hNR, a1, a2, ma, mb]
        · refine finH0 hK ?_ rfl rfl
          rw [Bool.and_eq_true]
          refine ⟨by cbv, ?_⟩
          simp only [hNF, hNR, ma, mb]
    · refine finH0 hK ?_ rfl rfl
      rw [Bool.and_eq_true]
      refine ⟨by cbv, ?_⟩
      simp only [hNF, hNR, ma, mb]
  · refine finH0 hK ?_ rfl rfl
    rw [Bool.and_eq_true]
    refine ⟨by cbv, ?_⟩
    simp only [hNF, hNR, ma, mb]


theorem hmacExpands_step (ss : List SV) (h : PK.fits [.str, .str, .i64] ss) : ∃ C, Eng.Good Tryd.prog C 2 ∧ C.gl = [0, 1] ∧ codeOk C Tryd.f4.ntmps (Tryd.f4.body.getD .skip) = true ∧ ss.length ≤ Tryd.f4.ntmps ∧
    Hides (afun C Tryd.f4 ss tabH (FinH 2 (.bool true) [] [] (uniR 2 (.bool true) [] []))) := by
  obtain ⟨_, _, _, _, _, _, rfl, ⟨a, rfl, _, wa⟩, ⟨b, rfl, _, wb⟩, ⟨c, rfl, _, wc⟩⟩ := PK.fits3 h
  exact ⟨_, goodg dy0 (by decide) hmacExpandsL_ok hmacExpandsD_ok, rfl, by kernel_rfl, Nat.le_of_ble_eq_true rfl, hmacExpands_vc std apStd (ALoop 2) firstL roundsL a b c rfl rfl rfl rfl rfl wa wb wc _ rfl⟩

theorem hmacExpands_lifted (os : Os) (started : os.Started) (H : Type) (enc : TypeId × Value → H) :
    ReturnsInHanded {} Tryd.checked os 4 .any (fun w args => (Rows.hmacExpandsSpec.pre enc Tryd.prog Tryd.f4 [] false w args ∧ laidMetH Tryd.prog tabD w) ∧ sizedMet enc Tryd.prog Tryd.f4 (OpenSpec.ofChange Rows.hmacExpandsSpec) false w args) (Rows.hmacExpandsSpec.post enc Tryd.prog Tryd.f4 false true false false) :=
  liftedG_of Rows.hmacExpandsSpec Tryd.func4 (tb := 4) (by kernel_rfl) Tryd.underlying4 rfl
    (by
      intro H ds h
      match ds, h with
      | [d1, d2, d3], _ => rfl) (by kernel_rfl) os started H enc (by kernel_rfl)
    (ChangeSpec.witness_shaped (enc := enc) (C := Tryd.checked) (os := os) (X := fun w _ => laidMetH Tryd.prog tabD w) false (World.doorLaid Tryd.prog 400 os) #[.string ByteArray.empty, .string ByteArray.empty, .int .i64 0] 8 rfl (World.shaped_of_RefB (by kernel_rfl) (by kernel_rfl)) (by kernel_rfl) (by kernel_rfl) (by kernel_rfl) (door_met os _))
    (fun W base args ds ps hval hA hT => walk_genG Tryd.func4 (c := Tryd.f4.body.getD .skip) (by kernel_rfl) [.str, .str, .i64] (ts := [9, 9, 3]) (by kernel_rfl)
      ⟨Tryd.underlying9, Tryd.underlying9, Tryd.underlying3, trivial⟩ hmacExpands_step W base args ds ps hval hA hT)

theorem hmacExpands_row : Rows.HmacExpandsSaid :=
  OpenClaim.holds_of_wide 4 Tryd.f4 rfl rfl rfl rfl rfl rfl rfl ⟨rfl, rfl, rfl, rfl, rfl⟩ rfl rfl rfl rfl rfl (by kernel_rfl) Tryd.func4 (by kernel_rfl)
    (of_decide_eq_true (by kernel_rfl)) (by unfold Func.isWrapper; first | (rw [if_pos (by decide +kernel)]; kernel_rfl) | (rw [if_neg (by decide +kernel)]; exact ⟨rfl, rfl⟩))
    (fun os started H enc _ => hmacExpands_lifted os started H enc)

theorem HmacExpands_proved : Rows.HmacExpandsCardSaid := by
  unfold Rows.HmacExpandsCardSaid Rows.hmacExpandsCard
  exact Claim7.holds_tied_plain_at .later [] [.data, .data] true _ false
    hmacExpands_row (fun _ h => by cases h) (by kernel_rfl) (fun _ h => by cases h) hmacExpands_row_tie rfl ⟨rfl, rfl⟩ (by kernel_rfl) rfl
    (fun f fn hf hfn => by
      obtain rfl : f = 4 := Option.some.inj ((show Tryd.prog.funcNamed "sandglass/sandglasslaw08.HmacExpands" = some 4 by kernel_rfl).symm.trans hf) |>.symm
      obtain rfl : fn = Tryd.f4 := (Option.some.inj (Tryd.func4.symm.trans hfn)).symm
      exact ⟨by kernel_rfl, fun j t ht => by
        have hp : Tryd.f4.params = #[9, 9, 3] := by kernel_rfl
        rw [hp] at ht
        have hm : t ∈ [9, 9, 3] := by simpa using Array.mem_of_getElem? ht
        have hall : ([9, 9, 3].all fun u => !Tryd.prog.wantsStandIn u) = true := by kernel_rfl
        exact (show Tryd.prog.wantsStandIn t = false by simpa using List.all_eq_true.1 hall t hm)⟩)
    (by kernel_rfl)

end Go.Proofs.YtpnpfihjlobonaaDoor
