/- The law DrbgNone hands back true, whatever the input. It has no conditions (the tables of the sha package are as the program lays them: the card ties them to its text). -/
import Derived.Test.YtpnpfihjlobonaaDoorDr12
import Derived.Test.YtpnpfihjlobonaaDoorLawG
import Derived.Test.YtpnpfihjlobonaaDoorTie
import Derived.Test.YtpnpfihjlobonaaDoorCards
import Derived.SevenTiedAt
namespace Go.Proofs.YtpnpfihjlobonaaDoor
open Go.Eng Go.ChangeShapes Go.WideShapes Go.ChangeAt Go.RowKit
set_option maxRecDepth 1000000
set_option maxHeartbeats 1000000
set_option linter.unusedSimpArgs false
set_option linter.unusedVariables false

def drbgNoneL (A : Ar) (N : Ap) : Pure := []
def drbgNoneD (A : Ar) (N : Ap) : Heap := [(34, reseedH A N), (22, bytesH A N), (23, scalarH A N), (25, polyH A N), (24, askH A N), (20, trueH N)]

theorem drbgNoneL_ok : ∀ p ∈ drbgNoneL std apStd, Con Tryd.prog p.1 p.2 := by
  intro p hp
  cases hp
theorem drbgNoneD_ok : ∀ p ∈ drbgNoneD std apStd, HCon Tryd.prog [0, 1] p.1 p.2 := by
  intro p hp
  simp only [drbgNoneD, List.mem_cons, List.not_mem_nil, or_false] at hp
  rcases hp with rfl | rfl | rfl | rfl | rfl | rfl
  · exact hcon_reseed
  · exact hcon_bytes
  · exact hcon_scalar
  · exact hcon_poly
  · exact hcon_ask
  · exact hcon_awake29

theorem drbgNone_vc (A : Ar) (N : Ap) (L : LP) (F R : List Int) (a : Int) (b : ByteArray) (hL : L = ALoop 2) (hA : A = std) (hN : N = apStd) (hF : F = firstL) (hR : R = roundsL) (ha : IntKind.i64.wrap a = a) (hb : b.size ≤ maxLen) (K : Bool → SV → List Blk → Prop) (hK : K = FinH 2 (.bool true) [] [] (uniR 2 (.bool true) [] [])) :
    Hides (afun (cxg A L (drbgNoneL A N) (drbgNoneD A N)) Tryd.f11 [.int .i64 a, .str b] [⟨.ints .u32 F, .ro⟩, ⟨.ints .u32 R, .ro⟩] K) := by
  have he : ∀ x, A.icmp .eql x x = true := fun x => by subst hA; simp [std, icmp]
  have hs : ∀ x, A.scmp .eql x x = true := fun x => by subst hA; simp [std, scmp]
  have hNF : N (List Int) Bool isFirst F = true := by subst hN; exact decide_eq_true hF
  have hNR : N (List Int) Bool isRounds R = true := by subst hN; exact decide_eq_true hR
  obtain ⟨fi, fc, fw, fb, fn, fo, fs, fa, fe, fz, fy, ff, fl, fq, gadd, gsub, gmul, gmin, hlen', hget, hset, happ, hisub, irep, iput', rlen, rint', rbool', rstr', rset, rapp, rsub, rrep, hmkb, hbyts⟩ := A
  simp only at he hs
  have hm : ∀ x : ByteArray, x.size ≤ maxLen → fc .leq (fo (fz x)) 9223372036854775807 = true := by
    cases hA; intro x hx
    have hx' : x.size ≤ 9223372036854775807 := hx
    exact decide_eq_true (by show (x.size : Int) ≤ _; omega)
  have hz1 : ∀ x : ByteArray, fc .gtr (fo (fz x)) 1000 = false → fl (fz x) 17592186044416 = true := by
    cases hA; intro x h
    have h : ¬ ((x.size : Int) > 1000) := of_decide_eq_false h
    exact decide_eq_true (by show x.size ≤ _; omega)
  have f32 : ∀ l : List Int, l.length = 32 → fq (hlen' l) 32 = true := by cases hA; intro l h; exact decide_eq_true h
  have hKn : ∀ s, (hbyts (N ByteArray ByteArray newK s)).length = 32 := by
    cases hA; subst hN; intro s; simp only [apStd_app]
    rw [byts_length]; exact newK_size s
  have hVn : ∀ s, (hbyts (N ByteArray ByteArray newV s)).length = 32 := by
    cases hA; subst hN; intro s; simp only [apStd_app]
    rw [byts_length]; exact newV_size s
  have mb := hm b hb
  have m0 : fc .leq (fo 0) 9223372036854775807 = true := by cases hA; rfl
  apply Hides.mk
  cbv
  repeat (simp only [he, hs]; cbv)
  refine finH0 hK ?_ rfl rfl
  rw [Bool.and_eq_true]
  refine ⟨by cbv, ?_⟩
  simp (maxSteps := 10000000) only [hNF, hNR, mb, m0]


theorem drbgNone_step (ss : List SV) (h : PK.fits [.i64, .str] ss) : ∃ C, Eng.Good Tryd.prog C 2 ∧ C.gl = [0, 1] ∧ codeOk C Tryd.f11.ntmps (Tryd.f11.body.getD .skip) = true ∧ ss.length ≤ Tryd.f11.ntmps ∧
    Hides (afun C Tryd.f11 ss tabH (FinH 2 (.bool true) [] [] (uniR 2 (.bool true) [] []))) := by
  obtain ⟨_, _, _, _, rfl, ⟨a, rfl, _, wa⟩, ⟨b, rfl, _, wb⟩⟩ := PK.fits2 h
  exact ⟨_, goodg dy0 (by decide) drbgNoneL_ok drbgNoneD_ok, rfl, by kernel_rfl, Nat.le_of_ble_eq_true rfl, drbgNone_vc std apStd (ALoop 2) firstL roundsL a b rfl rfl rfl rfl rfl wa wb _ rfl⟩

theorem drbgNone_lifted (os : Os) (started : os.Started) (H : Type) (enc : TypeId × Value → H) :
    ReturnsInHanded {} Tryd.checked os 11 .any (fun w args => (Rows.drbgNoneSpec.pre enc Tryd.prog Tryd.f11 [] false w args ∧ laidMetH Tryd.prog tabD w) ∧ sizedMet enc Tryd.prog Tryd.f11 (OpenSpec.ofChange Rows.drbgNoneSpec) false w args) (Rows.drbgNoneSpec.post enc Tryd.prog Tryd.f11 false true false false) :=
  liftedG_of Rows.drbgNoneSpec Tryd.func11 (tb := 4) (by kernel_rfl) Tryd.underlying4 rfl
    (by
      intro H ds h
      match ds, h with
      | [d1, d2], _ => rfl) (by kernel_rfl) os started H enc (by kernel_rfl)
    (ChangeSpec.witness_shaped (enc := enc) (C := Tryd.checked) (os := os) (X := fun w _ => laidMetH Tryd.prog tabD w) false (World.doorLaid Tryd.prog 400 os) #[.int .i64 0, .string ByteArray.empty] 8 rfl (World.shaped_of_RefB (by kernel_rfl) (by kernel_rfl)) (by kernel_rfl) (by kernel_rfl) (by kernel_rfl) (door_met os _))
    (fun W base args ds ps hval hA hT => walk_genG Tryd.func11 (c := Tryd.f11.body.getD .skip) (by kernel_rfl) [.i64, .str] (ts := [3, 9]) (by kernel_rfl)
      ⟨Tryd.underlying3, Tryd.underlying9, trivial⟩ drbgNone_step W base args ds ps hval hA hT)

theorem drbgNone_row : Rows.DrbgNoneSaid :=
  OpenClaim.holds_of_wide 11 Tryd.f11 rfl rfl rfl rfl rfl rfl rfl ⟨rfl, rfl, rfl, rfl, rfl⟩ rfl rfl rfl rfl rfl (by kernel_rfl) Tryd.func11 (by kernel_rfl)
    (of_decide_eq_true (by kernel_rfl)) (by unfold Func.isWrapper; first | (rw [if_pos (by decide +kernel)]; kernel_rfl) | (rw [if_neg (by decide +kernel)]; exact ⟨rfl, rfl⟩))
    (fun os started H enc _ => drbgNone_lifted os started H enc)

theorem DrbgNone_proved : Rows.DrbgNoneCardSaid := by
  unfold Rows.DrbgNoneCardSaid Rows.drbgNoneCard
  exact Claim7.holds_tied_plain_at .later [] [.data, .data] true _ false
    drbgNone_row (fun _ h => by cases h) (by kernel_rfl) (fun _ h => by cases h) drbgNone_row_tie rfl ⟨rfl, rfl⟩ (by kernel_rfl) rfl
    (fun f fn hf hfn => by
      obtain rfl : f = 11 := Option.some.inj ((show Tryd.prog.funcNamed "sandglass/sandglasslaw29.DrbgNone" = some 11 by kernel_rfl).symm.trans hf) |>.symm
      obtain rfl : fn = Tryd.f11 := (Option.some.inj (Tryd.func11.symm.trans hfn)).symm
      exact ⟨by kernel_rfl, fun j t ht => by
        have hp : Tryd.f11.params = #[3, 9] := by kernel_rfl
        rw [hp] at ht
        have hm : t ∈ [3, 9] := by simpa using Array.mem_of_getElem? ht
        have hall : ([3, 9].all fun u => !Tryd.prog.wantsStandIn u) = true := by kernel_rfl
        exact (show Tryd.prog.wantsStandIn t = false by simpa using List.all_eq_true.1 hall t hm)⟩)
    (by kernel_rfl)

end Go.Proofs.YtpnpfihjlobonaaDoor
