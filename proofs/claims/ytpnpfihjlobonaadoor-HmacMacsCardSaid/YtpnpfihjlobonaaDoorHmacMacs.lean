/- The law HmacMacs hands back true, whatever the input. It has no conditions (the tables of the sha package are as the program lays them: the card ties them to its text). -/
import Derived.Test.YtpnpfihjlobonaaDoorHr3
import Derived.Test.YtpnpfihjlobonaaDoorHl1
import Derived.Test.YtpnpfihjlobonaaDoorLawG
import Derived.Test.YtpnpfihjlobonaaDoorTie
import Derived.Test.YtpnpfihjlobonaaDoorCards
import Derived.SevenTiedAt
namespace Go.Proofs.YtpnpfihjlobonaaDoor
open Go.Eng Go.ChangeShapes Go.WideShapes Go.ChangeAt Go.RowKit
set_option maxRecDepth 1000000
set_option maxHeartbeats 1000000
set_option linter.unusedSimpArgs false
set_option linter.unusedVariables false

def hmacMacsL (A : Ar) (N : Ap) : Pure := [(14, rmacF A N), (16, rmacF A N)]
def hmacMacsD (A : Ar) (N : Ap) : Heap := [(13, macH A N), (15, macH A N), (12, trueH N)]

theorem hmacMacsL_ok : ∀ p ∈ hmacMacsL std apStd, Con Tryd.prog p.1 p.2 := by
  intro p hp
  simp only [hmacMacsL, List.mem_cons, List.not_mem_nil, or_false] at hp
  rcases hp with rfl | rfl
  · exact con_rmac
  · exact con_rext
theorem hmacMacsD_ok : ∀ p ∈ hmacMacsD std apStd, HCon Tryd.prog [0, 1] p.1 p.2 := by
  intro p hp
  simp only [hmacMacsD, List.mem_cons, List.not_mem_nil, or_false] at hp
  rcases hp with rfl | rfl | rfl
  · exact hcon_mac
  · exact hcon_ext
  · exact hcon_awake8

theorem hmacMacs_vc (A : Ar) (N : Ap) (L : LP) (F R : List Int) (a : ByteArray) (b : ByteArray) (hL : L = ALoop 2) (hA : A = std) (hN : N = apStd) (hF : F = firstL) (hR : R = roundsL) (ha : a.size ≤ maxLen) (hb : b.size ≤ maxLen) (K : Bool → SV → List Blk → Prop) (hK : K = FinH 2 (.bool true) [] [] (uniR 2 (.bool true) [] [])) :
    Hides (afun (cxg A L (hmacMacsL A N) (hmacMacsD A N)) Tryd.f3 [.str a, .str b] [⟨.ints .u32 F, .ro⟩, ⟨.ints .u32 R, .ro⟩] K) := by
  have he : ∀ x, A.icmp .eql x x = true := fun x => by subst hA; simp [std, icmp]
  have hs : ∀ x, A.scmp .eql x x = true := fun x => by subst hA; simp [std, scmp]
  have hNF : N (List Int) Bool isFirst F = true := by subst hN; exact decide_eq_true hF
  have hNR : N (List Int) Bool isRounds R = true := by subst hN; exact decide_eq_true hR
  obtain ⟨fi, fc, fw, fb, fn, fo, fs, fa, fe, fz, fy, ff, fl, fq, gadd, gsub, gmul, gmin, hlen'⟩ := A
  simp only at he hs
  have hm : ∀ x : ByteArray, x.size ≤ maxLen → fc .leq (fo (fz x)) 9223372036854775807 = true := by
    cases hA; intro x hx
    have hx' : x.size ≤ 9223372036854775807 := hx
    exact decide_eq_true (by show (x.size : Int) ≤ _; omega)
  have hz1 : ∀ x : ByteArray, fc .gtr (fo (fz x)) 2000 = false → fl (fz x) 17592186044416 = true := by
    cases hA; intro x h
    have h : ¬ ((x.size : Int) > 2000) := of_decide_eq_false h
    exact decide_eq_true (by show x.size ≤ _; omega)
  have hz2 : ∀ x : ByteArray, fc .gtr (fo (fz x)) 2000 = false → fl (fz x) 17592186044316 = true := by
    cases hA; intro x h
    have h : ¬ ((x.size : Int) > 2000) := of_decide_eq_false h
    exact decide_eq_true (by show x.size ≤ _; omega)
  have hmac : N ByteArray ByteArray (N ByteArray (ByteArray → ByteArray) macN a) b = N ByteArray ByteArray (N ByteArray (ByteArray → ByteArray) rmacN a) b := by subst hN; simp only [apStd]; exact mac_eq a b
  have ma := hm a ha
  have mb := hm b hb
  apply Hides.mk
  cbv
  cases h1 : fc .gtr (fo (fz a)) 2000 <;> cbv
  · cases h2 : fc .gtr (fo (fz b)) 2000 <;> cbv
    · have a1 := hz1 a h1
      have a2 := hz1 b h2
      repeat (simp only [hmac, hs]; cbv)
      refine finH0 hK ?_ rfl rfl
      rw [Bool.and_eq_true]
      refine ⟨by cbv, ?_⟩
      simp only [hNF, hNR, a1, a2, ma, mb]
    · refine finH0 hK ?_ rfl rfl
      rw [Bool.and_eq_true]
      refine ⟨by cbv, ?_⟩
      simp only [hNF, hNR, ma, mb]
  · refine finH0 hK ?_ rfl rfl
    rw [Bool.and_eq_true]
    refine ⟨by cbv, ?_⟩
    simp only [hNF, hNR, ma, mb]


theorem hmacMacs_step (ss : List SV) (h : PK.fits [.str, .str] ss) : ∃ C, Eng.Good Tryd.prog C 2 ∧ C.gl = [0, 1] ∧ codeOk C Tryd.f3.ntmps (Tryd.f3.body.getD .skip) = true ∧ ss.length ≤ Tryd.f3.ntmps ∧
    Hides (afun C Tryd.f3 ss tabH (FinH 2 (.bool true) [] [] (uniR 2 (.bool true) [] []))) := by
  obtain ⟨_, _, _, _, rfl, ⟨a, rfl, _, wa⟩, ⟨b, rfl, _, wb⟩⟩ := PK.fits2 h
  exact ⟨_, goodg dy0 (by decide) hmacMacsL_ok hmacMacsD_ok, rfl, by kernel_rfl, Nat.le_of_ble_eq_true rfl, hmacMacs_vc std apStd (ALoop 2) firstL roundsL a b rfl rfl rfl rfl rfl wa wb _ rfl⟩

theorem hmacMacs_lifted (os : Os) (started : os.Started) (H : Type) (enc : TypeId × Value → H) :
    ReturnsInHanded {} Tryd.checked os 3 .any (fun w args => (Rows.hmacMacsSpec.pre enc Tryd.prog Tryd.f3 [] false w args ∧ laidMetH Tryd.prog tabD w) ∧ sizedMet enc Tryd.prog Tryd.f3 (OpenSpec.ofChange Rows.hmacMacsSpec) false w args) (Rows.hmacMacsSpec.post enc Tryd.prog Tryd.f3 false true false false) :=
  liftedG_of Rows.hmacMacsSpec Tryd.func3 (tb := 4) (by kernel_rfl) Tryd.underlying4 rfl
    (by
      intro H ds h
      match ds, h with
      | [d1, d2], _ => rfl) (by kernel_rfl) os started H enc (by kernel_rfl)
    (ChangeSpec.witness_shaped (enc := enc) (C := Tryd.checked) (os := os) (X := fun w _ => laidMetH Tryd.prog tabD w) false (World.doorLaid Tryd.prog 400 os) #[.string ByteArray.empty, .string ByteArray.empty] 8 rfl (World.shaped_of_RefB (by kernel_rfl) (by kernel_rfl)) (by kernel_rfl) (by kernel_rfl) (by kernel_rfl) (door_met os _))
    (fun W base args ds ps hval hA hT => walk_genG Tryd.func3 (c := Tryd.f3.body.getD .skip) (by kernel_rfl) [.str, .str] (ts := [9, 9]) (by kernel_rfl)
      ⟨Tryd.underlying9, Tryd.underlying9, trivial⟩ hmacMacs_step W base args ds ps hval hA hT)

theorem hmacMacs_row : Rows.HmacMacsSaid :=
  OpenClaim.holds_of_wide 3 Tryd.f3 rfl rfl rfl rfl rfl rfl rfl ⟨rfl, rfl, rfl, rfl, rfl⟩ rfl rfl rfl rfl rfl (by kernel_rfl) Tryd.func3 (by kernel_rfl)
    (of_decide_eq_true (by kernel_rfl)) (by unfold Func.isWrapper; first | (rw [if_pos (by decide +kernel)]; kernel_rfl) | (rw [if_neg (by decide +kernel)]; exact ⟨rfl, rfl⟩))
    (fun os started H enc _ => hmacMacs_lifted os started H enc)

theorem HmacMacs_proved : Rows.HmacMacsCardSaid := by
  unfold Rows.HmacMacsCardSaid Rows.hmacMacsCard
  exact Claim7.holds_tied_plain_at .later [] [.data, .data] true _ false
    hmacMacs_row (fun _ h => by cases h) (by kernel_rfl) (fun _ h => by cases h) hmacMacs_row_tie rfl ⟨rfl, rfl⟩ (by kernel_rfl) rfl
    (fun f fn hf hfn => by
      obtain rfl : f = 3 := Option.some.inj ((show Tryd.prog.funcNamed "sandglass/sandglasslaw08.HmacMacs" = some 3 by kernel_rfl).symm.trans hf) |>.symm
      obtain rfl : fn = Tryd.f3 := (Option.some.inj (Tryd.func3.symm.trans hfn)).symm
      exact ⟨by kernel_rfl, fun j t ht => by
        have hp : Tryd.f3.params = #[9, 9] := by kernel_rfl
        rw [hp] at ht
        have hm : t ∈ [9, 9] := by simpa using Array.mem_of_getElem? ht
        have hall : ([9, 9].all fun u => !Tryd.prog.wantsStandIn u) = true := by kernel_rfl
        exact (show Tryd.prog.wantsStandIn t = false by simpa using List.all_eq_true.1 hall t hm)⟩)
    (by kernel_rfl)

end Go.Proofs.YtpnpfihjlobonaaDoor
