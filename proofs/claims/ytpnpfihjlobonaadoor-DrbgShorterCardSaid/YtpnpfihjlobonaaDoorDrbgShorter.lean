/- The law DrbgShorter hands back true, whatever the input. It has no conditions (the tables of the sha package are as the program lays them: the card ties them to its text). -/
import Derived.Test.YtpnpfihjlobonaaDoorDr12
import Derived.Test.YtpnpfihjlobonaaDoorLawG
import Derived.Test.YtpnpfihjlobonaaDoorTie
import Derived.Test.YtpnpfihjlobonaaDoorCards
import Derived.SevenTiedAt
namespace Go.Proofs.YtpnpfihjlobonaaDoor
open Go.Eng Go.ChangeShapes Go.WideShapes Go.ChangeAt Go.RowKit
set_option maxRecDepth 1000000
set_option maxHeartbeats 1000000
set_option linter.unusedSimpArgs false
set_option linter.unusedVariables false

def drbgShorterL (A : Ar) (N : Ap) : Pure := []
def drbgShorterD (A : Ar) (N : Ap) : Heap := [(21, dnewH A N), (22, bytesH A N), (20, trueH N)]

theorem drbgShorterL_ok : ∀ p ∈ drbgShorterL std apStd, Con Tryd.prog p.1 p.2 := by
  intro p hp
  cases hp
theorem drbgShorterD_ok : ∀ p ∈ drbgShorterD std apStd, HCon Tryd.prog [0, 1] p.1 p.2 := by
  intro p hp
  simp only [drbgShorterD, List.mem_cons, List.not_mem_nil, or_false] at hp
  rcases hp with rfl | rfl | rfl
  · exact hcon_dnew
  · exact hcon_bytes
  · exact hcon_awake29

theorem cN_one {n : Int} (h : 1 ≤ n) (h' : n ≤ 32) : cN n = 1 := by unfold cN; omega
theorem mkb_data (l : List Int) : (mkb l).data.toList = l.map fun n => UInt8.ofNat n.toNat := by
  unfold mkb
  rw [mkb_list]
  rfl
theorem mkb_ext (l : List Int) (k : Nat) : (mkb l).extract 0 k = mkb (l.take k) := by
  apply byts_inj
  have e : ∀ (s : ByteArray) (k : Nat), byts (s.extract 0 k) = (byts s).take k := fun s k => by
    unfold byts
    rw [← List.map_take]
    congr 1
    simp [ByteArray.data_extract]
  rw [e]
  unfold byts
  rw [mkb_data, mkb_data, List.map_take, List.map_take]
theorem bytS_shorter (k v : List Int) {n m : Int} (h : 1 ≤ n) (h1 : n ≤ m) (h2 : m ≤ 32) : (bytS k v m).extract 0 n.toNat = bytS k v n := by
  unfold bytS
  rw [if_neg (by unfold byBad; omega), if_neg (by unfold byBad; omega), cN_one h (by omega), cN_one (by omega) h2, mkb_ext, List.drop_zero, List.take_take, Nat.min_eq_left (by omega)]
theorem bytK_same (k v : List Int) {n m : Int} (h : 1 ≤ n) (h1 : n ≤ m) (h2 : m ≤ 32) : bytK k v m = bytK k v n := by
  unfold bytK
  rw [if_neg (by unfold byBad; omega), if_neg (by unfold byBad; omega), cN_one h (by omega), cN_one (by omega) h2]
theorem bytV_same (k v : List Int) {n m : Int} (h : 1 ≤ n) (h1 : n ≤ m) (h2 : m ≤ 32) : bytV k v m = bytV k v n := by
  unfold bytV
  rw [if_neg (by unfold byBad; omega), if_neg (by unfold byBad; omega), cN_one h (by omega), cN_one (by omega) h2]

theorem drbgShorter_vc (A : Ar) (N : Ap) (L : LP) (F R : List Int) (a : ByteArray) (b : Int) (c : Int) (hL : L = ALoop 2) (hA : A = std) (hN : N = apStd) (hF : F = firstL) (hR : R = roundsL) (ha : a.size ≤ maxLen) (hb : IntKind.i64.wrap b = b) (hc : IntKind.i64.wrap c = c) (K : Bool → SV → List Blk → Prop) (hK : K = FinH 2 (.bool true) [] [] (uniR 2 (.bool true) [] [])) :
    Hides (afun (cxg A L (drbgShorterL A N) (drbgShorterD A N)) Tryd.f9 [.str a, .int .i64 b, .int .i64 c] [⟨.ints .u32 F, .ro⟩, ⟨.ints .u32 R, .ro⟩] K) := by
  have he : ∀ x, A.icmp .eql x x = true := fun x => by subst hA; simp [std, icmp]
  have hs : ∀ x, A.scmp .eql x x = true := fun x => by subst hA; simp [std, scmp]
  have hNF : N (List Int) Bool isFirst F = true := by subst hN; exact decide_eq_true hF
  have hNR : N (List Int) Bool isRounds R = true := by subst hN; exact decide_eq_true hR
  obtain ⟨fi, fc, fw, fb, fn, fo, fs, fa, fe, fz, fy, ff, fl, fq, gadd, gsub, gmul, gmin, hlen', hget, hset, happ, hisub, irep, iput', rlen, rint', rbool', rstr', rset, rapp, rsub, rrep, hmkb, hbyts⟩ := A
  simp only at he hs
  have hm : ∀ x : ByteArray, x.size ≤ maxLen → fc .leq (fo (fz x)) 9223372036854775807 = true := by
    cases hA; intro x hx
    have hx' : x.size ≤ 9223372036854775807 := hx
    exact decide_eq_true (by show (x.size : Int) ≤ _; omega)
  have hz1 : ∀ x : ByteArray, fc .gtr (fo (fz x)) 1000 = false → fl (fz x) 17592186044416 = true := by
    cases hA; intro x h
    have h : ¬ ((x.size : Int) > 1000) := of_decide_eq_false h
    exact decide_eq_true (by show x.size ≤ _; omega)
  have f32 : ∀ l : List Int, l.length = 32 → fq (hlen' l) 32 = true := by cases hA; intro l h; exact decide_eq_true h
  have hKn : ∀ s, (hbyts (N ByteArray ByteArray newK s)).length = 32 := by
    cases hA; subst hN; intro s; simp only [apStd_app]
    rw [byts_length]; exact newK_size s
  have hVn : ∀ s, (hbyts (N ByteArray ByteArray newV s)).length = 32 := by
    cases hA; subst hN; intro s; simp only [apStd_app]
    rw [byts_length]; exact newV_size s
  have bk : ∀ k v : List Int, ∀ n, k.length = 32 → (ap3 N bytK k v n).length = 32 := by
    intro k v n h; subst hN; rw [ap3_std]; exact bytK_len h
  have bv : ∀ k v : List Int, ∀ n, v.length = 32 → (ap3 N bytV k v n).length = 32 := by
    intro k v n h; subst hN; rw [ap3_std]; exact bytV_len h
  have sk : ∀ k v : List Int, ∀ n, k.length = 32 → v.length = 32 → (ap3 N scK k v n).length = 32 := by
    intro k v n h h'; subst hN; rw [ap3_std]; exact scK_len h h'
  have sv : ∀ k v : List Int, ∀ n, k.length = 32 → v.length = 32 → (ap3 N scV k v n).length = 32 := by
    intro k v n h h'; subst hN; rw [ap3_std]; exact scV_len h h'
  have ma := hm a ha
  apply Hides.mk
  cbv
  cases h1 : fc .gtr (fo (fz a)) 1000 <;> cbv
  · cases h2 : fc .lss b 1 <;> cbv
    · cases h3 : fc .lss c b <;> cbv
      · cases h4 : fc .gtr c 32 <;> cbv
        · have a1 := hz1 a h1
          have hc : 1 ≤ b ∧ b ≤ c ∧ c ≤ 32 := by
            cases hA
            have h2 := of_decide_eq_false h2
            have h3 := of_decide_eq_false h3
            have h4 := of_decide_eq_false h4
            omega
          obtain ⟨p1, p2, p3⟩ := hc
          have zb : ∀ n, 1 ≤ n → n ≤ 32 → fo (fz (ap3 N bytS (hbyts (N ByteArray ByteArray newK a)) (hbyts (N ByteArray ByteArray newV a)) n)) = n := by
            intro n q1 q2
            have l := hVn a
            generalize hbyts (N ByteArray ByteArray newV a) = V at l ⊢
            generalize hbyts (N ByteArray ByteArray newK a) = Kx at l ⊢
            cases hA; subst hN
            rw [ap3_std]
            show (((bytS Kx V n).size : Nat) : Int) = n
            rw [bytS_size l (by omega) (by omega)]
            omega
          have z1 := zb b p1 (by omega)
          have z2 := zb c (by omega) p3
          have sh : fe (ap3 N bytS (hbyts (N ByteArray ByteArray newK a)) (hbyts (N ByteArray ByteArray newV a)) c) 0 (fn b) = ap3 N bytS (hbyts (N ByteArray ByteArray newK a)) (hbyts (N ByteArray ByteArray newV a)) b := by
            have l := hVn a
            generalize hbyts (N ByteArray ByteArray newV a) = V at l ⊢
            generalize hbyts (N ByteArray ByteArray newK a) = Kx at l ⊢
            cases hA; subst hN
            rw [ap3_std, ap3_std]
            exact bytS_shorter Kx V p1 p2 p3
          have kk : ap3 N bytK (hbyts (N ByteArray ByteArray newK a)) (hbyts (N ByteArray ByteArray newV a)) c = ap3 N bytK (hbyts (N ByteArray ByteArray newK a)) (hbyts (N ByteArray ByteArray newV a)) b := by
            generalize hbyts (N ByteArray ByteArray newV a) = V
            generalize hbyts (N ByteArray ByteArray newK a) = Kx
            subst hN
            rw [ap3_std, ap3_std]
            exact bytK_same Kx V p1 p2 p3
          have vv : ap3 N bytV (hbyts (N ByteArray ByteArray newK a)) (hbyts (N ByteArray ByteArray newV a)) c = ap3 N bytV (hbyts (N ByteArray ByteArray newK a)) (hbyts (N ByteArray ByteArray newV a)) b := by
            generalize hbyts (N ByteArray ByteArray newV a) = V
            generalize hbyts (N ByteArray ByteArray newK a) = Kx
            subst hN
            rw [ap3_std, ap3_std]
            exact bytV_same Kx V p1 p2 p3
          have k1 : fc .leq 0 b = true := by cases hA; exact decide_eq_true (show (0 : Int) ≤ b by omega)
          have k2 : fl 0 (fn b) = true := by cases hA; exact decide_eq_true (Nat.zero_le _)
          have k3 : fl (fn b) (fz (ap3 N bytS (hbyts (N ByteArray ByteArray newK a)) (hbyts (N ByteArray ByteArray newV a)) c)) = true := by
            have l := hVn a
            generalize hbyts (N ByteArray ByteArray newV a) = V at l ⊢
            generalize hbyts (N ByteArray ByteArray newK a) = Kx at l ⊢
            cases hA; subst hN
            rw [ap3_std]
            exact decide_eq_true (by show b.toNat ≤ (bytS Kx V c).size; rw [bytS_size l (by omega) (by omega)]; omega)
          have k4 : fc .leq b 9223372036854775807 = true := by cases hA; exact decide_eq_true (by omega)
          have k5 : fc .leq c 9223372036854775807 = true := by cases hA; exact decide_eq_true (by omega)
          have K0 := bk _ (hbyts (N ByteArray ByteArray newV a)) b (hKn a)
          have V0 := bv (hbyts (N ByteArray ByteArray newK a)) _ b (hVn a)
          have K1 := f32 _ K0
          have V1 := f32 _ V0
          have F1 := f32 _ (hKn a)
          have F2 := f32 _ (hVn a)
          simp only [ap3] at K1 V1 z1 z2 sh kk vv k3
          repeat (simp only [he, hs, z1, z2, sh, kk, vv]; cbv)
          refine finH0 hK ?_ rfl rfl
          rw [Bool.and_eq_true]
          refine ⟨by cbv, ?_⟩
          simp (maxSteps := 10000000) only [hNF, hNR, ma, a1, F1, F2, K1, V1, k1, k2, k3, k4, k5, z1, z2]
        · refine finH0 hK ?_ rfl rfl
          rw [Bool.and_eq_true]
          refine ⟨by cbv, ?_⟩
          simp (maxSteps := 10000000) only [hNF, hNR, ma]
      · refine finH0 hK ?_ rfl rfl
        rw [Bool.and_eq_true]
        refine ⟨by cbv, ?_⟩
        simp (maxSteps := 10000000) only [hNF, hNR, ma]
    · refine finH0 hK ?_ rfl rfl
      rw [Bool.and_eq_true]
      refine ⟨by cbv, ?_⟩
      simp (maxSteps := 10000000) only [hNF, hNR, ma]
  · refine finH0 hK ?_ rfl rfl
    rw [Bool.and_eq_true]
    refine ⟨by cbv, ?_⟩
    simp (maxSteps := 10000000) only [hNF, hNR, ma]


theorem drbgShorter_step (ss : List SV) (h : PK.fits [.str, .i64, .i64] ss) : ∃ C, Eng.Good Tryd.prog C 2 ∧ C.gl = [0, 1] ∧ codeOk C Tryd.f9.ntmps (Tryd.f9.body.getD .skip) = true ∧ ss.length ≤ Tryd.f9.ntmps ∧
    Hides (afun C Tryd.f9 ss tabH (FinH 2 (.bool true) [] [] (uniR 2 (.bool true) [] []))) := by
  obtain ⟨_, _, _, _, _, _, rfl, ⟨a, rfl, _, wa⟩, ⟨b, rfl, _, wb⟩, ⟨c, rfl, _, wc⟩⟩ := PK.fits3 h
  exact ⟨_, goodg dy0 (by decide) drbgShorterL_ok drbgShorterD_ok, rfl, by kernel_rfl, Nat.le_of_ble_eq_true rfl, drbgShorter_vc std apStd (ALoop 2) firstL roundsL a b c rfl rfl rfl rfl rfl wa wb wc _ rfl⟩

theorem drbgShorter_lifted (os : Os) (started : os.Started) (H : Type) (enc : TypeId × Value → H) :
    ReturnsInHanded {} Tryd.checked os 9 .any (fun w args => (Rows.drbgShorterSpec.pre enc Tryd.prog Tryd.f9 [] false w args ∧ laidMetH Tryd.prog tabD w) ∧ sizedMet enc Tryd.prog Tryd.f9 (OpenSpec.ofChange Rows.drbgShorterSpec) false w args) (Rows.drbgShorterSpec.post enc Tryd.prog Tryd.f9 false true false false) :=
  liftedG_of Rows.drbgShorterSpec Tryd.func9 (tb := 4) (by kernel_rfl) Tryd.underlying4 rfl
    (by
      intro H ds h
      match ds, h with
      | [d1, d2, d3], _ => rfl) (by kernel_rfl) os started H enc (by kernel_rfl)
    (ChangeSpec.witness_shaped (enc := enc) (C := Tryd.checked) (os := os) (X := fun w _ => laidMetH Tryd.prog tabD w) false (World.doorLaid Tryd.prog 400 os) #[.string ByteArray.empty, .int .i64 0, .int .i64 0] 8 rfl (World.shaped_of_RefB (by kernel_rfl) (by kernel_rfl)) (by kernel_rfl) (by kernel_rfl) (by kernel_rfl) (door_met os _))
    (fun W base args ds ps hval hA hT => walk_genG Tryd.func9 (c := Tryd.f9.body.getD .skip) (by kernel_rfl) [.str, .i64, .i64] (ts := [9, 3, 3]) (by kernel_rfl)
      ⟨Tryd.underlying9, Tryd.underlying3, Tryd.underlying3, trivial⟩ drbgShorter_step W base args ds ps hval hA hT)

theorem drbgShorter_row : Rows.DrbgShorterSaid :=
  OpenClaim.holds_of_wide 9 Tryd.f9 rfl rfl rfl rfl rfl rfl rfl ⟨rfl, rfl, rfl, rfl, rfl⟩ rfl rfl rfl rfl rfl (by kernel_rfl) Tryd.func9 (by kernel_rfl)
    (of_decide_eq_true (by kernel_rfl)) (by unfold Func.isWrapper; first | (rw [if_pos (by decide +kernel)]; kernel_rfl) | (rw [if_neg (by decide +kernel)]; exact ⟨rfl, rfl⟩))
    (fun os started H enc _ => drbgShorter_lifted os started H enc)

theorem DrbgShorter_proved : Rows.DrbgShorterCardSaid := by
  unfold Rows.DrbgShorterCardSaid Rows.drbgShorterCard
  exact Claim7.holds_tied_plain_at .later [] [.data, .data] true _ false
    drbgShorter_row (fun _ h => by cases h) (by kernel_rfl) (fun _ h => by cases h) drbgShorter_row_tie rfl ⟨rfl, rfl⟩ (by kernel_rfl) rfl
    (fun f fn hf hfn => by
      obtain rfl : f = 9 := Option.some.inj ((show Tryd.prog.funcNamed "sandglass/sandglasslaw29.DrbgShorter" = some 9 by kernel_rfl).symm.trans hf) |>.symm
      obtain rfl : fn = Tryd.f9 := (Option.some.inj (Tryd.func9.symm.trans hfn)).symm
      exact ⟨by kernel_rfl, fun j t ht => by
        have hp : Tryd.f9.params = #[9, 3, 3] := by kernel_rfl
        rw [hp] at ht
        have hm : t ∈ [9, 3, 3] := by simpa using Array.mem_of_getElem? ht
        have hall : ([9, 3, 3].all fun u => !Tryd.prog.wantsStandIn u) = true := by kernel_rfl
        exact (show Tryd.prog.wantsStandIn t = false by simpa using List.all_eq_true.1 hall t hm)⟩)
    (by kernel_rfl)

end Go.Proofs.YtpnpfihjlobonaaDoor
