/- The law ShaSums hands back true, whatever the input. It has no conditions (the tables of the sha package are as the program lays them: the card ties them to its text). -/
import Derived.Test.YtcgolnihdbeegaaDoorRef7
import Derived.Test.YtcgolnihdbeegaaDoorLawG
import Derived.Test.YtcgolnihdbeegaaDoorTie
import Derived.Test.YtcgolnihdbeegaaDoorCards
import Derived.SevenTiedAt
namespace Go.Proofs.YtcgolnihdbeegaaDoor
open Go.Eng Go.ChangeShapes Go.WideShapes Go.ChangeAt Go.RowKit
set_option maxRecDepth 1000000
set_option maxHeartbeats 1000000
set_option linter.unusedSimpArgs false
set_option linter.unusedVariables false

def shaSumsL (A : Ar) (N : Ap) : Pure := [(8, rsumF A N)]
def shaSumsD (A : Ar) (N : Ap) : Heap := [(7, sumH A N), (9, trueH N)]

theorem shaSumsL_ok : ∀ p ∈ shaSumsL std apStd, Con Tryd.prog p.1 p.2 := by
  intro p hp
  simp only [shaSumsL, List.mem_cons, List.not_mem_nil, or_false] at hp
  rcases hp with rfl
  · exact con_rsum
theorem shaSumsD_ok : ∀ p ∈ shaSumsD std apStd, HCon Tryd.prog [0, 1] p.1 p.2 := by
  intro p hp
  simp only [shaSumsD, List.mem_cons, List.not_mem_nil, or_false] at hp
  rcases hp with rfl | rfl
  · exact hcon_sum
  · exact hcon_awake

theorem shaSums_vc (A : Ar) (N : Ap) (L : LP) (F R : List Int) (a : ByteArray) (hL : L = ALoop 2) (hA : A = std) (hN : N = apStd) (hF : F = firstL) (hR : R = roundsL) (ha : a.size ≤ maxLen) (K : Bool → SV → List Blk → Prop) (hK : K = FinH 2 (.bool true) [] [] (uniR 2 (.bool true) [] [])) :
    Hides (afun (cxg A L (shaSumsL A N) (shaSumsD A N)) Tryd.f3 [.str a] [⟨.ints .u32 F, .ro⟩, ⟨.ints .u32 R, .ro⟩] K) := by
  have he : ∀ x, A.icmp .eql x x = true := fun x => by subst hA; simp [std, icmp]
  have hs : ∀ x, A.scmp .eql x x = true := fun x => by subst hA; simp [std, scmp]
  have hNF : N (List Int) Bool isFirst F = true := by subst hN; exact decide_eq_true hF
  have hNR : N (List Int) Bool isRounds R = true := by subst hN; exact decide_eq_true hR
  obtain ⟨fi, fc, fw, fb, fn, fo, fs, fa, fe, fz, fy, ff, fl, fq, gadd, gsub, gmul, gmin, hlen'⟩ := A
  simp only at he hs
  have hsum : N ByteArray ByteArray sumN a = N ByteArray ByteArray sumP a := by subst hN; simp only [apStd]; exact sumN_P a
  apply Hides.mk
  cbv
  cases h : fc .gtr (fo (fz a)) 5000 <;> cbv
  · have hsz : fl (fz a) 35184372088832 = true := by
      cases hA
      have h := of_decide_eq_false h
      exact decide_eq_true (by
        have h : ¬ ((a.size : Int) > 5000) := h
        show a.size ≤ _
        omega)
    have hmx : fc .leq (fo (fz a)) 9223372036854775807 = true := by
      cases hA
      have h : ¬ ((a.size : Int) > 5000) := of_decide_eq_false h
      exact decide_eq_true (by show (a.size : Int) ≤ _; omega)
    simp only [hsum, hs]
    cbv
    refine finH0 hK ?_ rfl rfl
    rw [Bool.and_eq_true]
    refine ⟨by cbv, ?_⟩
    simp only [hsz, hNF, hNR, hmx]
  · refine finH0 hK ?_ rfl rfl
    have hmx : fc .leq (fo (fz a)) 9223372036854775807 = true := by
      cases hA
      have ha' : a.size ≤ 9223372036854775807 := ha
      exact decide_eq_true (by show (a.size : Int) ≤ _; omega)
    cbv
    simp only [hmx]

theorem shaSums_step (ss : List SV) (h : PK.fits [.str] ss) : ∃ C, Eng.Good Tryd.prog C 2 ∧ C.gl = [0, 1] ∧ codeOk C Tryd.f3.ntmps (Tryd.f3.body.getD .skip) = true ∧ ss.length ≤ Tryd.f3.ntmps ∧
    Hides (afun C Tryd.f3 ss tabH (FinH 2 (.bool true) [] [] (uniR 2 (.bool true) [] []))) := by
  obtain ⟨_, _, rfl, ⟨a, rfl, _, wa⟩⟩ := PK.fits1 h
  exact ⟨_, goodg dy0 (by decide) shaSumsL_ok shaSumsD_ok, rfl, by kernel_rfl, Nat.le_of_ble_eq_true rfl, shaSums_vc std apStd (ALoop 2) firstL roundsL a rfl rfl rfl rfl rfl wa _ rfl⟩

theorem shaSums_lifted (os : Os) (started : os.Started) (H : Type) (enc : TypeId × Value → H) :
    ReturnsInHanded {} Tryd.checked os 3 .any (fun w args => (Rows.shaSumsSpec.pre enc Tryd.prog Tryd.f3 [] false w args ∧ laidMetH Tryd.prog tabD w) ∧ sizedMet enc Tryd.prog Tryd.f3 (OpenSpec.ofChange Rows.shaSumsSpec) false w args) (Rows.shaSumsSpec.post enc Tryd.prog Tryd.f3 false true false false) :=
  liftedG_of Rows.shaSumsSpec Tryd.func3 (tb := 4) (by kernel_rfl) Tryd.underlying4 rfl
    (by
      intro H ds h
      match ds, h with
      | [d], _ => rfl) (by kernel_rfl) os started H enc (by kernel_rfl)
    (ChangeSpec.witness_shaped (enc := enc) (C := Tryd.checked) (os := os) (X := fun w _ => laidMetH Tryd.prog tabD w) false (World.doorLaid Tryd.prog 400 os) #[.string ByteArray.empty] 8 rfl (World.shaped_of_RefB (by kernel_rfl) (by kernel_rfl)) (by kernel_rfl) (by kernel_rfl) (by kernel_rfl) (door_met os _))
    (fun W base args ds ps hval hA hT => walk_genG Tryd.func3 (c := Tryd.f3.body.getD .skip) (by kernel_rfl) [.str] (ts := [9]) (by kernel_rfl)
      ⟨Tryd.underlying9, trivial⟩ shaSums_step W base args ds ps hval hA hT)

theorem shaSums_row : Rows.ShaSumsSaid :=
  OpenClaim.holds_of_wide 3 Tryd.f3 rfl rfl rfl rfl rfl rfl rfl ⟨rfl, rfl, rfl, rfl, rfl⟩ rfl rfl rfl rfl rfl (by kernel_rfl) Tryd.func3 (by kernel_rfl)
    (of_decide_eq_true (by kernel_rfl)) (by unfold Func.isWrapper; first | (rw [if_pos (by decide +kernel)]; kernel_rfl) | (rw [if_neg (by decide +kernel)]; exact ⟨rfl, rfl⟩))
    (fun os started H enc _ => shaSums_lifted os started H enc)

theorem ShaSums_proved : Rows.ShaSumsCardSaid := by
  unfold Rows.ShaSumsCardSaid Rows.shaSumsCard
  exact Claim7.holds_tied_plain_at .later [] [.data, .data] true _ false
    shaSums_row (fun _ h => by cases h) (by kernel_rfl) (fun _ h => by cases h) shaSums_row_tie rfl ⟨rfl, rfl⟩ (by kernel_rfl) rfl
    (fun f fn hf hfn => by
      obtain rfl : f = 3 := Option.some.inj ((show Tryd.prog.funcNamed "sandglass/sandglasslaw07.ShaSums" = some 3 by kernel_rfl).symm.trans hf) |>.symm
      obtain rfl : fn = Tryd.f3 := (Option.some.inj (Tryd.func3.symm.trans hfn)).symm
      exact ⟨by kernel_rfl, fun j t ht => by
        have hp : Tryd.f3.params = #[9] := by kernel_rfl
        rw [hp] at ht
        have hm : t ∈ [9] := by simpa using Array.mem_of_getElem? ht
        have hall : ([9].all fun u => !Tryd.prog.wantsStandIn u) = true := by kernel_rfl
        exact (show Tryd.prog.wantsStandIn t = false by simpa using List.all_eq_true.1 hall t hm)⟩)
    (by kernel_rfl)

end Go.Proofs.YtcgolnihdbeegaaDoor
