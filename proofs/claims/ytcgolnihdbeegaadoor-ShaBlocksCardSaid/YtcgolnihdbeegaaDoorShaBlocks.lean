/- The law ShaBlocks hands back true, whatever the input. It has no conditions (the tables of the sha package are as the program lays them: the card ties them to its text). -/
import Derived.Test.YtcgolnihdbeegaaDoorSha7
import Derived.Test.YtcgolnihdbeegaaDoorLawG
import Derived.Test.YtcgolnihdbeegaaDoorTie
import Derived.Test.YtcgolnihdbeegaaDoorCards
import Derived.SevenTiedAt
namespace Go.Proofs.YtcgolnihdbeegaaDoor
open Go.Eng Go.ChangeShapes Go.WideShapes Go.ChangeAt Go.RowKit
set_option maxRecDepth 1000000
set_option maxHeartbeats 1000000
set_option linter.unusedSimpArgs false
set_option linter.unusedVariables false

def shaBlocksL (A : Ar) (N : Ap) : Pure := [(10, blksF N), (11, blksF N)]
def shaBlocksD (A : Ar) (N : Ap) : Heap := [(9, trueH N)]

theorem shaBlocksL_ok : ∀ p ∈ shaBlocksL std apStd, Con Tryd.prog p.1 p.2 := by
  intro p hp
  simp only [shaBlocksL, List.mem_cons, List.not_mem_nil, or_false] at hp
  rcases hp with rfl | rfl
  · exact con_blks
  · exact con_rblks
theorem shaBlocksD_ok : ∀ p ∈ shaBlocksD std apStd, HCon Tryd.prog [0, 1] p.1 p.2 := by
  intro p hp
  simp only [shaBlocksD, List.mem_cons, List.not_mem_nil, or_false] at hp
  rcases hp with rfl
  · exact hcon_awake

theorem shaBlocks_vc (A : Ar) (N : Ap) (L : LP) (F R : List Int) (a : Int) (hL : L = ALoop 2) (hA : A = std) (hN : N = apStd) (hF : F = firstL) (hR : R = roundsL) (ha : IntKind.i64.wrap a = a) (K : Bool → SV → List Blk → Prop) (hK : K = FinH 2 (.bool true) [] [] (uniR 2 (.bool true) [] [])) :
    Hides (afun (cxg A L (shaBlocksL A N) (shaBlocksD A N)) Tryd.f4 [.int .i64 a] [⟨.ints .u32 F, .ro⟩, ⟨.ints .u32 R, .ro⟩] K) := by
  have he : ∀ x, A.icmp .eql x x = true := fun x => by subst hA; simp [std, icmp]
  have hs : ∀ x, A.scmp .eql x x = true := fun x => by subst hA; simp [std, scmp]
  have hNF : N (List Int) Bool isFirst F = true := by subst hN; exact decide_eq_true hF
  have hNR : N (List Int) Bool isRounds R = true := by subst hN; exact decide_eq_true hR
  obtain ⟨fi, fc, fw, fb, fn, fo, fs, fa, fe, fz, fy, ff, fl, fq, gadd, gsub, gmul, gmin, hlen'⟩ := A
  simp only at he hs
  apply Hides.mk
  cbv
  simp only [he]
  cbv
  refine finH0 hK ?_ rfl rfl
  rw [Bool.and_eq_true]
  refine ⟨by cbv, ?_⟩
  simp only [hNF, hNR]

theorem shaBlocks_step (ss : List SV) (h : PK.fits [.i64] ss) : ∃ C, Eng.Good Tryd.prog C 2 ∧ C.gl = [0, 1] ∧ codeOk C Tryd.f4.ntmps (Tryd.f4.body.getD .skip) = true ∧ ss.length ≤ Tryd.f4.ntmps ∧
    Hides (afun C Tryd.f4 ss tabH (FinH 2 (.bool true) [] [] (uniR 2 (.bool true) [] []))) := by
  obtain ⟨_, _, rfl, ⟨a, rfl, _, wa⟩⟩ := PK.fits1 h
  exact ⟨_, goodg dy0 (by decide) shaBlocksL_ok shaBlocksD_ok, rfl, by kernel_rfl, Nat.le_of_ble_eq_true rfl, shaBlocks_vc std apStd (ALoop 2) firstL roundsL a rfl rfl rfl rfl rfl wa _ rfl⟩

theorem shaBlocks_lifted (os : Os) (started : os.Started) (H : Type) (enc : TypeId × Value → H) :
    ReturnsInHanded {} Tryd.checked os 4 .any (fun w args => (Rows.shaBlocksSpec.pre enc Tryd.prog Tryd.f4 [] false w args ∧ laidMetH Tryd.prog tabD w) ∧ sizedMet enc Tryd.prog Tryd.f4 (OpenSpec.ofChange Rows.shaBlocksSpec) false w args) (Rows.shaBlocksSpec.post enc Tryd.prog Tryd.f4 false true false false) :=
  liftedG_of Rows.shaBlocksSpec Tryd.func4 (tb := 4) (by kernel_rfl) Tryd.underlying4 rfl
    (by
      intro H ds h
      match ds, h with
      | [d], _ => rfl) (by kernel_rfl) os started H enc (by kernel_rfl)
    (ChangeSpec.witness_shaped (enc := enc) (C := Tryd.checked) (os := os) (X := fun w _ => laidMetH Tryd.prog tabD w) false (World.doorLaid Tryd.prog 400 os) #[.int .i64 0] 8 rfl (World.shaped_of_RefB (by kernel_rfl) (by kernel_rfl)) (by kernel_rfl) (by kernel_rfl) (by kernel_rfl) (door_met os _))
    (fun W base args ds ps hval hA hT => walk_genG Tryd.func4 (c := Tryd.f4.body.getD .skip) (by kernel_rfl) [.i64] (ts := [3]) (by kernel_rfl)
      ⟨Tryd.underlying3, trivial⟩ shaBlocks_step W base args ds ps hval hA hT)

theorem shaBlocks_row : Rows.ShaBlocksSaid :=
  OpenClaim.holds_of_wide 4 Tryd.f4 rfl rfl rfl rfl rfl rfl rfl ⟨rfl, rfl, rfl, rfl, rfl⟩ rfl rfl rfl rfl rfl (by kernel_rfl) Tryd.func4 (by kernel_rfl)
    (of_decide_eq_true (by kernel_rfl)) (by unfold Func.isWrapper; first | (rw [if_pos (by decide +kernel)]; kernel_rfl) | (rw [if_neg (by decide +kernel)]; exact ⟨rfl, rfl⟩))
    (fun os started H enc _ => shaBlocks_lifted os started H enc)

theorem ShaBlocks_proved : Rows.ShaBlocksCardSaid := by
  unfold Rows.ShaBlocksCardSaid Rows.shaBlocksCard
  exact Claim7.holds_tied_plain_at .later [] [.data, .data] true _ false
    shaBlocks_row (fun _ h => by cases h) (by kernel_rfl) (fun _ h => by cases h) shaBlocks_row_tie rfl ⟨rfl, rfl⟩ (by kernel_rfl) rfl
    (fun f fn hf hfn => by
      obtain rfl : f = 4 := Option.some.inj ((show Tryd.prog.funcNamed "sandglass/sandglasslaw07.ShaBlocks" = some 4 by kernel_rfl).symm.trans hf) |>.symm
      obtain rfl : fn = Tryd.f4 := (Option.some.inj (Tryd.func4.symm.trans hfn)).symm
      exact ⟨by kernel_rfl, fun j t ht => by
        have hp : Tryd.f4.params = #[3] := by kernel_rfl
        rw [hp] at ht
        have hm : t ∈ [3] := by simpa using Array.mem_of_getElem? ht
        have hall : ([3].all fun u => !Tryd.prog.wantsStandIn u) = true := by kernel_rfl
        exact (show Tryd.prog.wantsStandIn t = false by simpa using List.all_eq_true.1 hall t hm)⟩)
    (by kernel_rfl)

end Go.Proofs.YtcgolnihdbeegaaDoor
