/- The law ShaEach hands back true, whatever the input. It has no conditions (the tables of the sha package are as the program lays them: the card ties them to its text). -/
import Derived.Test.YtcgolnihdbeegaaDoorSha7
import Derived.Test.YtcgolnihdbeegaaDoorLawG
import Derived.Test.YtcgolnihdbeegaaDoorTie
import Derived.Test.YtcgolnihdbeegaaDoorCards
import Derived.SevenTiedAt
namespace Go.Proofs.YtcgolnihdbeegaaDoor
open Go.Eng Go.ChangeShapes Go.WideShapes Go.ChangeAt Go.RowKit
set_option maxRecDepth 1000000
set_option maxHeartbeats 1000000
set_option linter.unusedSimpArgs false
set_option linter.unusedVariables false

def shaEachL (A : Ar) (N : Ap) : Pure := [(10, blksF N)]
def shaEachD (A : Ar) (N : Ap) : Heap := [(9, trueH N)]

theorem shaEachL_ok : ∀ p ∈ shaEachL std apStd, Con Tryd.prog p.1 p.2 := by
  intro p hp
  simp only [shaEachL, List.mem_cons, List.not_mem_nil, or_false] at hp
  rcases hp with rfl
  · exact con_blks
theorem shaEachD_ok : ∀ p ∈ shaEachD std apStd, HCon Tryd.prog [0, 1] p.1 p.2 := by
  intro p hp
  simp only [shaEachD, List.mem_cons, List.not_mem_nil, or_false] at hp
  rcases hp with rfl
  · exact hcon_awake

theorem shaEach_vc (A : Ar) (N : Ap) (L : LP) (F R : List Int) (a : Int) (hL : L = ALoop 2) (hA : A = std) (hN : N = apStd) (hF : F = firstL) (hR : R = roundsL) (ha : IntKind.i64.wrap a = a) (K : Bool → SV → List Blk → Prop) (hK : K = FinH 2 (.bool true) [] [] (uniR 2 (.bool true) [] [])) :
    Hides (afun (cxg A L (shaEachL A N) (shaEachD A N)) Tryd.f5 [.int .i64 a] [⟨.ints .u32 F, .ro⟩, ⟨.ints .u32 R, .ro⟩] K) := by
  have he : ∀ x, A.icmp .eql x x = true := fun x => by subst hA; simp [std, icmp]
  have hs : ∀ x, A.scmp .eql x x = true := fun x => by subst hA; simp [std, scmp]
  have hNF : N (List Int) Bool isFirst F = true := by subst hN; exact decide_eq_true hF
  have hNR : N (List Int) Bool isRounds R = true := by subst hN; exact decide_eq_true hR
  obtain ⟨fi, fc, fw, fb, fn, fo, fs, fa, fe, fz, fy, ff, fl, fq, gadd, gsub, gmul, gmin, hlen'⟩ := A
  simp only at he hs
  obtain ⟨k, hk⟩ : ∃ k, k = N Int Int blksN a := ⟨_, rfl⟩
  have hk' : k = blksN a := by rw [hk]; subst hN; rfl
  apply Hides.mk
  cbv
  simp only [← hk]
  cases h1 : fc .lss a 0 <;> cbv
  · cases h2 : fc .gtr a 1152921504606846976 <;> cbv
    · have hb : k = (a + 72) / 64 ∧ 0 ≤ a ∧ a ≤ 1152921504606846976 := by
        cases hA
        have h1 := of_decide_eq_false h1
        have h2 := of_decide_eq_false h2
        unfold blksN at hk'
        rw [if_neg (by omega)] at hk'
        exact ⟨hk', by omega, by omega⟩
      obtain ⟨hb1, hb2, hb3⟩ := hb
      have c1 : fc .geq k 1 = true := by cases hA; exact decide_eq_true (by omega)
      have c2 : fc .geq (fi .sub .i64 (fi .mul .i64 64 k) 9) a = true := by
        cases hA
        have : iop .sub .i64 (iop .mul .i64 64 k) 9 = 64 * k - 9 := by
          simp only [iop, IntKind.wrap_i64]; omega
        rw [this]
        exact decide_eq_true (by omega)
      have c3 : fc .lss (fi .sub .i64 (fi .mul .i64 64 (fi .sub .i64 k 1)) 9) a = true := by
        cases hA
        have : iop .sub .i64 (iop .mul .i64 64 (iop .sub .i64 k 1)) 9 = 64 * (k - 1) - 9 := by
          simp only [iop, IntKind.wrap_i64]; omega
        rw [this]
        exact decide_eq_true (by omega)
      simp only [c1]
      cbv
      simp only [c2]
      cbv
      simp only [c3]
      cbv
      refine finH0 hK ?_ rfl rfl
      rw [Bool.and_eq_true]
      refine ⟨by cbv, ?_⟩
      simp only [hNF, hNR]
    · have hb : k = 0 := by
        cases hA
        have h2 := of_decide_eq_true h2
        unfold blksN at hk'
        rw [if_pos (by omega)] at hk'
        exact hk'
      have c1 : fc .eql k 0 = true := by rw [hb]; exact he 0
      simp only [c1]
      cbv
      refine finH0 hK ?_ rfl rfl
      rw [Bool.and_eq_true]
      refine ⟨by cbv, ?_⟩
      simp only [hNF, hNR]
  · have hb : k = 0 := by
      cases hA
      have h1 := of_decide_eq_true h1
      unfold blksN at hk'
      rw [if_pos (by omega)] at hk'
      exact hk'
    have c1 : fc .eql k 0 = true := by rw [hb]; exact he 0
    simp only [c1]
    cbv
    refine finH0 hK ?_ rfl rfl
    rw [Bool.and_eq_true]
    refine ⟨by cbv, ?_⟩
    simp only [hNF, hNR]

theorem shaEach_step (ss : List SV) (h : PK.fits [.i64] ss) : ∃ C, Eng.Good Tryd.prog C 2 ∧ C.gl = [0, 1] ∧ codeOk C Tryd.f5.ntmps (Tryd.f5.body.getD .skip) = true ∧ ss.length ≤ Tryd.f5.ntmps ∧
    Hides (afun C Tryd.f5 ss tabH (FinH 2 (.bool true) [] [] (uniR 2 (.bool true) [] []))) := by
  obtain ⟨_, _, rfl, ⟨a, rfl, _, wa⟩⟩ := PK.fits1 h
  exact ⟨_, goodg dy0 (by decide) shaEachL_ok shaEachD_ok, rfl, by kernel_rfl, Nat.le_of_ble_eq_true rfl, shaEach_vc std apStd (ALoop 2) firstL roundsL a rfl rfl rfl rfl rfl wa _ rfl⟩

theorem shaEach_lifted (os : Os) (started : os.Started) (H : Type) (enc : TypeId × Value → H) :
    ReturnsInHanded {} Tryd.checked os 5 .any (fun w args => (Rows.shaEachSpec.pre enc Tryd.prog Tryd.f5 [] false w args ∧ laidMetH Tryd.prog tabD w) ∧ sizedMet enc Tryd.prog Tryd.f5 (OpenSpec.ofChange Rows.shaEachSpec) false w args) (Rows.shaEachSpec.post enc Tryd.prog Tryd.f5 false true false false) :=
  liftedG_of Rows.shaEachSpec Tryd.func5 (tb := 4) (by kernel_rfl) Tryd.underlying4 rfl
    (by
      intro H ds h
      match ds, h with
      | [d], _ => rfl) (by kernel_rfl) os started H enc (by kernel_rfl)
    (ChangeSpec.witness_shaped (enc := enc) (C := Tryd.checked) (os := os) (X := fun w _ => laidMetH Tryd.prog tabD w) false (World.doorLaid Tryd.prog 400 os) #[.int .i64 0] 8 rfl (World.shaped_of_RefB (by kernel_rfl) (by kernel_rfl)) (by kernel_rfl) (by kernel_rfl) (by kernel_rfl) (door_met os _))
    (fun W base args ds ps hval hA hT => walk_genG Tryd.func5 (c := Tryd.f5.body.getD .skip) (by kernel_rfl) [.i64] (ts := [3]) (by kernel_rfl)
      ⟨Tryd.underlying3, trivial⟩ shaEach_step W base args ds ps hval hA hT)

theorem shaEach_row : Rows.ShaEachSaid :=
  OpenClaim.holds_of_wide 5 Tryd.f5 rfl rfl rfl rfl rfl rfl rfl ⟨rfl, rfl, rfl, rfl, rfl⟩ rfl rfl rfl rfl rfl (by kernel_rfl) Tryd.func5 (by kernel_rfl)
    (of_decide_eq_true (by kernel_rfl)) (by unfold Func.isWrapper; first | (rw [if_pos (by decide +kernel)]; kernel_rfl) | (rw [if_neg (by decide +kernel)]; exact ⟨rfl, rfl⟩))
    (fun os started H enc _ => shaEach_lifted os started H enc)

theorem ShaEach_proved : Rows.ShaEachCardSaid := by
  unfold Rows.ShaEachCardSaid Rows.shaEachCard
  exact Claim7.holds_tied_plain_at .later [] [.data, .data] true _ false
    shaEach_row (fun _ h => by cases h) (by kernel_rfl) (fun _ h => by cases h) shaEach_row_tie rfl ⟨rfl, rfl⟩ (by kernel_rfl) rfl
    (fun f fn hf hfn => by
      obtain rfl : f = 5 := Option.some.inj ((show Tryd.prog.funcNamed "sandglass/sandglasslaw07.ShaEach" = some 5 by kernel_rfl).symm.trans hf) |>.symm
      obtain rfl : fn = Tryd.f5 := (Option.some.inj (Tryd.func5.symm.trans hfn)).symm
      exact ⟨by kernel_rfl, fun j t ht => by
        have hp : Tryd.f5.params = #[3] := by kernel_rfl
        rw [hp] at ht
        have hm : t ∈ [3] := by simpa using Array.mem_of_getElem? ht
        have hall : ([3].all fun u => !Tryd.prog.wantsStandIn u) = true := by kernel_rfl
        exact (show Tryd.prog.wantsStandIn t = false by simpa using List.all_eq_true.1 hall t hm)⟩)
    (by kernel_rfl)

end Go.Proofs.YtcgolnihdbeegaaDoor
