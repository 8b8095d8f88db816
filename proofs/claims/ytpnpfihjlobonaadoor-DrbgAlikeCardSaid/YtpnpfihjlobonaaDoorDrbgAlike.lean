/- The law DrbgAlike hands back true, whatever the input. It has no conditions (the tables of the sha package are as the program lays them: the card ties them to its text). -/
import Derived.Test.YtpnpfihjlobonaaDoorDr12
import Derived.Test.YtpnpfihjlobonaaDoorLaw3
import Derived.Test.YtpnpfihjlobonaaDoorTie
import Derived.Test.YtpnpfihjlobonaaDoorCards
import Derived.SevenTiedAt
namespace Go.Proofs.YtpnpfihjlobonaaDoor
open Go.Eng Go.ChangeShapes Go.WideShapes Go.ChangeAt Go.RowKit
set_option maxRecDepth 1000000
set_option maxHeartbeats 1000000
set_option linter.unusedSimpArgs false
set_option linter.unusedVariables false

def drbgAlikeL (A : Ar) (N : Ap) : Pure := []
def drbgAlikeD (A : Ar) (N : Ap) : Heap := [(21, dnewH A N), (22, bytesH A N), (23, scalarH A N), (24, askH A N), (20, trueH N)]

theorem drbgAlikeL_ok : ∀ p ∈ drbgAlikeL std apStd, Con Tryd.prog p.1 p.2 := by
  intro p hp
  cases hp
theorem drbgAlikeD_ok : ∀ p ∈ drbgAlikeD std apStd, HCon Tryd.prog [0, 1] p.1 p.2 := by
  intro p hp
  simp only [drbgAlikeD, List.mem_cons, List.not_mem_nil, or_false] at hp
  rcases hp with rfl | rfl | rfl | rfl | rfl
  · exact hcon_dnew
  · exact hcon_bytes
  · exact hcon_scalar
  · exact hcon_ask
  · exact hcon_awake29

theorem drbgAlike_vc (A : Ar) (N : Ap) (L : LP) (F R : List Int) (a : ByteArray) (b0 b1 : Int) (hL : L = ALoop 2) (hA : A = std) (hN : N = apStd) (hF : F = firstL) (hR : R = roundsL) (ha : a.size ≤ maxLen) (hb : IntKind.i64.wrap b0 = b0 ∧ IntKind.i64.wrap b1 = b1) (K : Bool → SV → List Blk → Prop) (hK : K = FinH 2 (.bool true) [] [] (uniR 2 (.bool true) [] [])) :
    Hides (afun (cxg A L (drbgAlikeL A N) (drbgAlikeD A N)) Tryd.f7 [.str a, .agg [.int .i64 b0, .int .i64 b1]] [⟨.ints .u32 F, .ro⟩, ⟨.ints .u32 R, .ro⟩] K) := by
  have he : ∀ x, A.icmp .eql x x = true := fun x => by subst hA; simp [std, icmp]
  have hs : ∀ x, A.scmp .eql x x = true := fun x => by subst hA; simp [std, scmp]
  have hNF : N (List Int) Bool isFirst F = true := by subst hN; exact decide_eq_true hF
  have hNR : N (List Int) Bool isRounds R = true := by subst hN; exact decide_eq_true hR
  obtain ⟨fi, fc, fw, fb, fn, fo, fs, fa, fe, fz, fy, ff, fl, fq, gadd, gsub, gmul, gmin, hlen', hget, hset, happ, hisub, irep, iput', rlen, rint', rbool', rstr', rset, rapp, rsub, rrep, hmkb, hbyts⟩ := A
  simp only at he hs
  have hm : ∀ x : ByteArray, x.size ≤ maxLen → fc .leq (fo (fz x)) 9223372036854775807 = true := by
    cases hA; intro x hx
    have hx' : x.size ≤ 9223372036854775807 := hx
    exact decide_eq_true (by show (x.size : Int) ≤ _; omega)
  have hz1 : ∀ x : ByteArray, fc .gtr (fo (fz x)) 1000 = false → fl (fz x) 17592186044416 = true := by
    cases hA; intro x h
    have h : ¬ ((x.size : Int) > 1000) := of_decide_eq_false h
    exact decide_eq_true (by show x.size ≤ _; omega)
  have f32 : ∀ l : List Int, l.length = 32 → fq (hlen' l) 32 = true := by cases hA; intro l h; exact decide_eq_true h
  have hKn : ∀ s, (hbyts (N ByteArray ByteArray newK s)).length = 32 := by
    cases hA; subst hN; intro s; simp only [apStd_app]
    rw [byts_length]; exact newK_size s
  have hVn : ∀ s, (hbyts (N ByteArray ByteArray newV s)).length = 32 := by
    cases hA; subst hN; intro s; simp only [apStd_app]
    rw [byts_length]; exact newV_size s
  have bk : ∀ k v : List Int, ∀ n, k.length = 32 → (ap3 N bytK k v n).length = 32 := by
    intro k v n h; subst hN; rw [ap3_std]; exact bytK_len h
  have bv : ∀ k v : List Int, ∀ n, v.length = 32 → (ap3 N bytV k v n).length = 32 := by
    intro k v n h; subst hN; rw [ap3_std]; exact bytV_len h
  have sk : ∀ k v : List Int, ∀ n, k.length = 32 → v.length = 32 → (ap3 N scK k v n).length = 32 := by
    intro k v n h h'; subst hN; rw [ap3_std]; exact scK_len h h'
  have sv : ∀ k v : List Int, ∀ n, k.length = 32 → v.length = 32 → (ap3 N scV k v n).length = 32 := by
    intro k v n h h'; subst hN; rw [ap3_std]; exact scV_len h h'
  have ma := hm a ha
  apply Hides.mk
  cbv
  cases h1 : fc .gtr (fo (fz a)) 1000 <;> cbv
  · cases h2 : fc .gtr b0 500 <;> cbv
    · cases h3 : fc .gtr b1 500 <;> cbv
      · have a1 := hz1 a h1
        have K0 := bk _ (hbyts (N ByteArray ByteArray newV a)) b0 (hKn a)
        have V0 := bv (hbyts (N ByteArray ByteArray newK a)) _ b0 (hVn a)
        have K1 := f32 _ K0
        have V1 := f32 _ V0
        have K2 := fun n => f32 _ (sk _ _ n K0 V0)
        have V2 := fun n => f32 _ (sv _ _ n K0 V0)
        have F1 := f32 _ (hKn a)
        have F2 := f32 _ (hVn a)
        simp only [ap3] at K1 V1 K2 V2
        repeat (simp only [he, hs]; cbv)
        refine finH0 hK ?_ rfl rfl
        rw [Bool.and_eq_true]
        refine ⟨by cbv, ?_⟩
        simp (maxSteps := 10000000) only [hNF, hNR, ma, a1, F1, F2, K1, V1, K2, V2]
      · refine finH0 hK ?_ rfl rfl
        rw [Bool.and_eq_true]
        refine ⟨by cbv, ?_⟩
        simp (maxSteps := 10000000) only [hNF, hNR, ma]
    · refine finH0 hK ?_ rfl rfl
      rw [Bool.and_eq_true]
      refine ⟨by cbv, ?_⟩
      simp (maxSteps := 10000000) only [hNF, hNR, ma]
  · refine finH0 hK ?_ rfl rfl
    rw [Bool.and_eq_true]
    refine ⟨by cbv, ?_⟩
    simp (maxSteps := 10000000) only [hNF, hNR, ma]


theorem drbgAlike_step (ss : List SV) (h : PX.fits [.pk .str, .two] ss) : ∃ C, Eng.Good Tryd.prog C 2 ∧ C.gl = [0, 1] ∧ codeOk C Tryd.f7.ntmps (Tryd.f7.body.getD .skip) = true ∧ ss.length ≤ Tryd.f7.ntmps ∧
    Hides (afun C Tryd.f7 ss tabH (FinH 2 (.bool true) [] [] (uniR 2 (.bool true) [] []))) := by
  obtain ⟨_, _, _, _, rfl, ⟨a, rfl, _, wa⟩, ⟨b0, b1, rfl, _, wb⟩⟩ := PX.fits2 h
  exact ⟨_, goodg dy0 (by decide) drbgAlikeL_ok drbgAlikeD_ok, rfl, by kernel_rfl, Nat.le_of_ble_eq_true rfl, drbgAlike_vc std apStd (ALoop 2) firstL roundsL a b0 b1 rfl rfl rfl rfl rfl wa wb _ rfl⟩

theorem drbgAlike_lifted (os : Os) (started : os.Started) (H : Type) (enc : TypeId × Value → H) :
    ReturnsInHanded {} Tryd.checked os 7 .any (fun w args => (Rows.drbgAlikeSpec.pre enc Tryd.prog Tryd.f7 [] false w args ∧ laidMetH Tryd.prog tabD w) ∧ sizedMet enc Tryd.prog Tryd.f7 (OpenSpec.ofChange Rows.drbgAlikeSpec) false w args) (Rows.drbgAlikeSpec.post enc Tryd.prog Tryd.f7 false true false false) :=
  liftedG_of Rows.drbgAlikeSpec Tryd.func7 (tb := 4) (by kernel_rfl) Tryd.underlying4 rfl
    (by
      intro H ds h
      match ds, h with
      | [d1, d2], _ => rfl) (by kernel_rfl) os started H enc (by kernel_rfl)
    (ChangeSpec.witness_shaped (enc := enc) (C := Tryd.checked) (os := os) (X := fun w _ => laidMetH Tryd.prog tabD w) false (World.doorLaid Tryd.prog 400 os) #[.string ByteArray.empty, .agg #[.int .i64 0, .int .i64 0]] 8 rfl (World.shaped_of_RefB (by kernel_rfl) (by kernel_rfl)) (by kernel_rfl) (by kernel_rfl) (by kernel_rfl) (door_met os _))
    (fun W base args ds ps hval hA hT => walk_genX Tryd.func7 (c := Tryd.f7.body.getD .skip) (by kernel_rfl) [.pk .str, .two] (ts := [9, 34]) (by kernel_rfl)
      ⟨Tryd.underlying9, ⟨_, Tryd.underlying34, by kernel_rfl, by kernel_rfl, by kernel_rfl⟩, trivial⟩ drbgAlike_step W base args ds ps hval hA hT)

theorem drbgAlike_row : Rows.DrbgAlikeSaid :=
  OpenClaim.holds_of_wide 7 Tryd.f7 rfl rfl rfl rfl rfl rfl rfl ⟨rfl, rfl, rfl, rfl, rfl⟩ rfl rfl rfl rfl rfl (by kernel_rfl) Tryd.func7 (by kernel_rfl)
    (of_decide_eq_true (by kernel_rfl)) (by unfold Func.isWrapper; first | (rw [if_pos (by decide +kernel)]; kernel_rfl) | (rw [if_neg (by decide +kernel)]; exact ⟨rfl, rfl⟩))
    (fun os started H enc _ => drbgAlike_lifted os started H enc)

theorem DrbgAlike_proved : Rows.DrbgAlikeCardSaid := by
  unfold Rows.DrbgAlikeCardSaid Rows.drbgAlikeCard
  exact Claim7.holds_tied_plain_at .later [] [.data, .data] true _ false
    drbgAlike_row (fun _ h => by cases h) (by kernel_rfl) (fun _ h => by cases h) drbgAlike_row_tie rfl ⟨rfl, rfl⟩ (by kernel_rfl) rfl
    (fun f fn hf hfn => by
      obtain rfl : f = 7 := Option.some.inj ((show Tryd.prog.funcNamed "sandglass/sandglasslaw29.DrbgAlike" = some 7 by kernel_rfl).symm.trans hf) |>.symm
      obtain rfl : fn = Tryd.f7 := (Option.some.inj (Tryd.func7.symm.trans hfn)).symm
      exact ⟨by kernel_rfl, fun j t ht => by
        have hp : Tryd.f7.params = #[9, 34] := by kernel_rfl
        rw [hp] at ht
        have hm : t ∈ [9, 34] := by simpa using Array.mem_of_getElem? ht
        have hall : ([9, 34].all fun u => !Tryd.prog.wantsStandIn u) = true := by kernel_rfl
        exact (show Tryd.prog.wantsStandIn t = false by simpa using List.all_eq_true.1 hall t hm)⟩)
    (by kernel_rfl)

end Go.Proofs.YtpnpfihjlobonaaDoor
