/- The law ShaAlike hands back true, whatever the input. It has no conditions (the tables of the sha package are as the program lays them: the card ties them to its text). -/
import Derived.Test.YtcgolnihdbeegaaDoorSha7
import Derived.Test.YtcgolnihdbeegaaDoorLawG
import Derived.Test.YtcgolnihdbeegaaDoorTie
import Derived.Test.YtcgolnihdbeegaaDoorCards
import Derived.SevenTiedAt
namespace Go.Proofs.YtcgolnihdbeegaaDoor
open Go.Eng Go.ChangeShapes Go.WideShapes Go.ChangeAt Go.RowKit
set_option maxRecDepth 1000000
set_option maxHeartbeats 1000000
set_option linter.unusedSimpArgs false
set_option linter.unusedVariables false

def shaAlikeL (A : Ar) (N : Ap) : Pure := []
def shaAlikeD (A : Ar) (N : Ap) : Heap := [(7, sumH A N), (9, trueH N)]

theorem shaAlikeL_ok : ∀ p ∈ shaAlikeL std apStd, Con Tryd.prog p.1 p.2 := by
  intro p hp
  cases hp
theorem shaAlikeD_ok : ∀ p ∈ shaAlikeD std apStd, HCon Tryd.prog [0, 1] p.1 p.2 := by
  intro p hp
  simp only [shaAlikeD, List.mem_cons, List.not_mem_nil, or_false] at hp
  rcases hp with rfl | rfl
  · exact hcon_sum
  · exact hcon_awake

theorem shaAlike_vc (A : Ar) (N : Ap) (L : LP) (F R : List Int) (a : ByteArray) (b : ByteArray) (hL : L = ALoop 2) (hA : A = std) (hN : N = apStd) (hF : F = firstL) (hR : R = roundsL) (ha : a.size ≤ maxLen) (hb : b.size ≤ maxLen) (K : Bool → SV → List Blk → Prop) (hK : K = FinH 2 (.bool true) [] [] (uniR 2 (.bool true) [] [])) :
    Hides (afun (cxg A L (shaAlikeL A N) (shaAlikeD A N)) Tryd.f6 [.str a, .str b] [⟨.ints .u32 F, .ro⟩, ⟨.ints .u32 R, .ro⟩] K) := by
  have he : ∀ x, A.icmp .eql x x = true := fun x => by subst hA; simp [std, icmp]
  have hs : ∀ x, A.scmp .eql x x = true := fun x => by subst hA; simp [std, scmp]
  have hNF : N (List Int) Bool isFirst F = true := by subst hN; exact decide_eq_true hF
  have hNR : N (List Int) Bool isRounds R = true := by subst hN; exact decide_eq_true hR
  obtain ⟨fi, fc, fw, fb, fn, fo, fs, fa, fe, fz, fy, ff, fl, fq, gadd, gsub, gmul, gmin, hlen'⟩ := A
  simp only at he hs
  have hz : ∀ x, fz (N ByteArray ByteArray sumN x) = 32 := by cases hA; subst hN; intro x; simp only [apStd]; exact sumN_size x
  have h32 : fc .eql (fo 32) 32 = true := by cases hA; rfl
  have hm : ∀ x : ByteArray, x.size ≤ maxLen → fc .leq (fo (fz x)) 9223372036854775807 = true := by
    cases hA; intro x hx
    have hx' : x.size ≤ 9223372036854775807 := hx
    exact decide_eq_true (by show (x.size : Int) ≤ _; omega)
  have hsz : ∀ x : ByteArray, fc .gtr (fo (fz x)) 5000 = false → fl (fz x) 35184372088832 = true := by
    cases hA; intro x h
    have h : ¬ ((x.size : Int) > 5000) := of_decide_eq_false h
    exact decide_eq_true (by show x.size ≤ _; omega)
  have ma := hm a ha
  have mb := hm b hb
  have m32 : fc .leq (fo 32) 9223372036854775807 = true := by cases hA; rfl
  apply Hides.mk
  cbv
  cases h1 : fc .gtr (fo (fz a)) 5000 <;> cbv
  · cases h2 : fc .gtr (fo (fz b)) 5000 <;> cbv
    · have s1 := hsz a h1
      have s2 := hsz b h2
      simp only [hz, h32]
      cbv
      simp only [hz, h32]
      cbv
      cases h3 : fs .eql (N ByteArray ByteArray sumN a) (N ByteArray ByteArray sumN b) <;> cbv
      · have h4 : fs .neq a b = true := by
          cases h5 : fs .neq a b with
          | true => rfl
          | false =>
            exfalso
            have hab : a = b := by
              cases hA
              have : (!(a.toList == b.toList)) = false := h5
              have this : a.toList = b.toList := by simpa using this
              rw [ByteArray.toList_eq, ByteArray.toList_eq] at this
              exact Go.WideShapes.bytes_inj this
            rw [hab, hs] at h3
            cases h3
        simp only [h4]
        cbv
        refine finH0 hK ?_ rfl rfl
        rw [Bool.and_eq_true]
        refine ⟨by cbv, ?_⟩
        simp only [hNF, hNR, s1, s2, ma, mb, m32, hz]
      · refine finH0 hK ?_ rfl rfl
        rw [Bool.and_eq_true]
        refine ⟨by cbv, ?_⟩
        simp only [hNF, hNR, s1, s2, ma, mb, m32, hz]
    · refine finH0 hK ?_ rfl rfl
      rw [Bool.and_eq_true]
      refine ⟨by cbv, ?_⟩
      simp only [hNF, hNR, ma, mb]
  · refine finH0 hK ?_ rfl rfl
    rw [Bool.and_eq_true]
    refine ⟨by cbv, ?_⟩
    simp only [hNF, hNR, ma, mb]

theorem shaAlike_step (ss : List SV) (h : PK.fits [.str, .str] ss) : ∃ C, Eng.Good Tryd.prog C 2 ∧ C.gl = [0, 1] ∧ codeOk C Tryd.f6.ntmps (Tryd.f6.body.getD .skip) = true ∧ ss.length ≤ Tryd.f6.ntmps ∧
    Hides (afun C Tryd.f6 ss tabH (FinH 2 (.bool true) [] [] (uniR 2 (.bool true) [] []))) := by
  obtain ⟨_, _, _, _, rfl, ⟨a, rfl, _, wa⟩, ⟨b, rfl, _, wb⟩⟩ := PK.fits2 h
  exact ⟨_, goodg dy0 (by decide) shaAlikeL_ok shaAlikeD_ok, rfl, by kernel_rfl, Nat.le_of_ble_eq_true rfl, shaAlike_vc std apStd (ALoop 2) firstL roundsL a b rfl rfl rfl rfl rfl wa wb _ rfl⟩

theorem shaAlike_lifted (os : Os) (started : os.Started) (H : Type) (enc : TypeId × Value → H) :
    ReturnsInHanded {} Tryd.checked os 6 .any (fun w args => (Rows.shaAlikeSpec.pre enc Tryd.prog Tryd.f6 [] false w args ∧ laidMetH Tryd.prog tabD w) ∧ sizedMet enc Tryd.prog Tryd.f6 (OpenSpec.ofChange Rows.shaAlikeSpec) false w args) (Rows.shaAlikeSpec.post enc Tryd.prog Tryd.f6 false true false false) :=
  liftedG_of Rows.shaAlikeSpec Tryd.func6 (tb := 4) (by kernel_rfl) Tryd.underlying4 rfl
    (by
      intro H ds h
      match ds, h with
      | [d1, d2], _ => rfl) (by kernel_rfl) os started H enc (by kernel_rfl)
    (ChangeSpec.witness_shaped (enc := enc) (C := Tryd.checked) (os := os) (X := fun w _ => laidMetH Tryd.prog tabD w) false (World.doorLaid Tryd.prog 400 os) #[.string ByteArray.empty, .string ByteArray.empty] 8 rfl (World.shaped_of_RefB (by kernel_rfl) (by kernel_rfl)) (by kernel_rfl) (by kernel_rfl) (by kernel_rfl) (door_met os _))
    (fun W base args ds ps hval hA hT => walk_genG Tryd.func6 (c := Tryd.f6.body.getD .skip) (by kernel_rfl) [.str, .str] (ts := [9, 9]) (by kernel_rfl)
      ⟨Tryd.underlying9, Tryd.underlying9, trivial⟩ shaAlike_step W base args ds ps hval hA hT)

theorem shaAlike_row : Rows.ShaAlikeSaid :=
  OpenClaim.holds_of_wide 6 Tryd.f6 rfl rfl rfl rfl rfl rfl rfl ⟨rfl, rfl, rfl, rfl, rfl⟩ rfl rfl rfl rfl rfl (by kernel_rfl) Tryd.func6 (by kernel_rfl)
    (of_decide_eq_true (by kernel_rfl)) (by unfold Func.isWrapper; first | (rw [if_pos (by decide +kernel)]; kernel_rfl) | (rw [if_neg (by decide +kernel)]; exact ⟨rfl, rfl⟩))
    (fun os started H enc _ => shaAlike_lifted os started H enc)

theorem ShaAlike_proved : Rows.ShaAlikeCardSaid := by
  unfold Rows.ShaAlikeCardSaid Rows.shaAlikeCard
  exact Claim7.holds_tied_plain_at .later [] [.data, .data] true _ false
    shaAlike_row (fun _ h => by cases h) (by kernel_rfl) (fun _ h => by cases h) shaAlike_row_tie rfl ⟨rfl, rfl⟩ (by kernel_rfl) rfl
    (fun f fn hf hfn => by
      obtain rfl : f = 6 := Option.some.inj ((show Tryd.prog.funcNamed "sandglass/sandglasslaw07.ShaAlike" = some 6 by kernel_rfl).symm.trans hf) |>.symm
      obtain rfl : fn = Tryd.f6 := (Option.some.inj (Tryd.func6.symm.trans hfn)).symm
      exact ⟨by kernel_rfl, fun j t ht => by
        have hp : Tryd.f6.params = #[9, 9] := by kernel_rfl
        rw [hp] at ht
        have hm : t ∈ [9, 9] := by simpa using Array.mem_of_getElem? ht
        have hall : ([9, 9].all fun u => !Tryd.prog.wantsStandIn u) = true := by kernel_rfl
        exact (show Tryd.prog.wantsStandIn t = false by simpa using List.all_eq_true.1 hall t hm)⟩)
    (by kernel_rfl)

end Go.Proofs.YtcgolnihdbeegaaDoor
