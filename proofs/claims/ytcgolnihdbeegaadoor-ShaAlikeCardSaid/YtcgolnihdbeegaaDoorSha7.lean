/- The sum of a text by the sha package is its sum by the reference; how many blocks there are; the examples of the chapter. It has no conditions. -/
import Derived.Test.YtcgolnihdbeegaaDoorSha6
namespace Go.Proofs.YtcgolnihdbeegaaDoor
open Go.Eng Go.RowKit
set_option maxRecDepth 1000000
set_option maxHeartbeats 1000000
set_option linter.unusedSimpArgs false
set_option linter.unusedVariables false

def SV.i64 : SV → Option Int
  | .int .i64 n => some n
  | .num .i64 n => some n
  | _ => none

theorem i64_of {x : SV} {n : Int} (h : SV.i64 x = some n) {u : Value} {m : List Pl} (hv : x.val m = some u) : (SV.int .i64 n).val m = some u ∧ x.idsLt 0 = true := by
  unfold SV.i64 at h
  split at h
  · cases h; exact ⟨hv, rfl⟩
  · cases h; exact ⟨hv, rfl⟩
  · cases h

def blksN (n : Int) : Int := if n < 0 ∨ n > 1152921504606846976 then 0 else (n + 72) / 64

def blksF (N : Ap) : List SV → Bool × SV
  | [x] => match SV.i64 x with
    | some n => (true, .int .i64 (ap1 N blksN n))
    | none => (false, .bad)
  | _ => (false, .bad)

theorem blksF_ids {args : List SV} {v : SV} (hF : blksF apStd args = (true, v)) : SV.idsLts 0 args = true := by
  unfold blksF at hF
  split at hF
  · rename_i x
    split at hF
    · rename_i a hx
      have : x.idsLt 0 = true := by unfold SV.i64 at hx; split at hx <;> first | rfl | cases hx
      simp [SV.idsLts, this]
    · cases hF
  · cases hF

theorem blks_vc (A : Ar) (N : Ap) (L : LP) (n : Int) (hA : A = std) (hN : N = apStd) (v : SV) (hv : v = .int .i64 (ap1 N blksN n)) (K : Bool → SV → List Blk → Prop) (hK : K = FinP v) :
    Shut (afun (cx A L []) Tryd.f10 [.int .i64 n] [] K) := by
  obtain ⟨fi, fc, fw, fb, fn, fo, fs, fa, fe, fz⟩ := A
  apply Shut.mk
  cbv
  cases h1 : fc .lss n 0 <;> cbv
  · cases h2 : fc .gtr n 1152921504606846976 <;> cbv
    · refine fin_of hK (by cases hA; rfl) rfl ?_
      rw [hv]
      cases hA; subst hN
      have h1 := of_decide_eq_false h1
      have h2 := of_decide_eq_false h2
      simp only [ap1, apStd, blksN]
      rw [if_neg (by omega)]
      show SV.int .i64 _ = SV.int .i64 (iop .quo .i64 (iop .sub .i64 (iop .add .i64 (iop .add .i64 (iop .add .i64 n 1) 8) 64) 1) 64)
      have e : iop .sub .i64 (iop .add .i64 (iop .add .i64 (iop .add .i64 n 1) 8) 64) 1 = n + 72 := by
        simp only [iop, IntKind.wrap_i64]; omega
      rw [e]
      congr 1
      show _ = IntKind.i64.wrap (Int.tdiv (n + 72) 64)
      rw [Int.tdiv_eq_ediv_of_nonneg (by omega), IntKind.wrap_i64]
      omega
    · refine fin_sb hK rfl (by rw [hv]; rfl) ?_
      rw [hv]
      cases hA; subst hN
      have h2 := of_decide_eq_true h2
      refine ⟨rfl, ?_⟩
      show blksN n = 0
      unfold blksN
      exact if_pos (by omega)
  · refine fin_sb hK rfl (by rw [hv]; rfl) ?_
    rw [hv]
    cases hA; subst hN
    have h1 := of_decide_eq_true h1
    refine ⟨rfl, ?_⟩
    show blksN n = 0
    unfold blksN
    exact if_pos (by omega)

theorem rblks_vc (A : Ar) (N : Ap) (L : LP) (n : Int) (hA : A = std) (hN : N = apStd) (v : SV) (hv : v = .int .i64 (ap1 N blksN n)) (K : Bool → SV → List Blk → Prop) (hK : K = FinP v) :
    Shut (afun (cx A L []) Tryd.f11 [.int .i64 n] [] K) := by
  obtain ⟨fi, fc, fw, fb, fn, fo, fs, fa, fe, fz⟩ := A
  apply Shut.mk
  cbv
  cases h1 : fc .lss n 0 <;> cbv
  · cases h2 : fc .gtr n 1152921504606846976 <;> cbv
    · refine fin_of hK (by cases hA; rfl) rfl ?_
      rw [hv]
      cases hA; subst hN
      have h1 := of_decide_eq_false h1
      have h2 := of_decide_eq_false h2
      simp only [ap1, apStd, blksN]
      rw [if_neg (by omega)]
      show SV.int .i64 _ = SV.int .i64 (iop .add .i64 (iop .quo .i64 (iop .add .i64 n 8) 64) 1)
      have e : iop .add .i64 n 8 = n + 8 := by
        simp only [iop, IntKind.wrap_i64]; omega
      rw [e]
      congr 1
      show _ = IntKind.i64.wrap (IntKind.i64.wrap (Int.tdiv (n + 8) 64) + 1)
      rw [Int.tdiv_eq_ediv_of_nonneg (by omega), IntKind.wrap_i64, IntKind.wrap_i64]
      omega
    · refine fin_sb hK rfl (by rw [hv]; rfl) ?_
      rw [hv]
      cases hA; subst hN
      have h2 := of_decide_eq_true h2
      refine ⟨rfl, ?_⟩
      show blksN n = 0
      unfold blksN
      exact if_pos (by omega)
  · refine fin_sb hK rfl (by rw [hv]; rfl) ?_
    rw [hv]
    cases hA; subst hN
    have h1 := of_decide_eq_true h1
    refine ⟨rfl, ?_⟩
    show blksN n = 0
    unfold blksN
    exact if_pos (by omega)

theorem args_i64 {x : SV} {a : Int} (hx : SV.i64 x = some a) {us : List Value} (hv : SV.vals [] [x] = some us) : SV.vals [] [.int .i64 a] = some us := by
  simp only [SV.vals, Option.bind_eq_some_iff, Option.map_eq_some_iff] at hv ⊢
  obtain ⟨u, hu, r, hr, rfl⟩ := hv
  exact ⟨u, (i64_of hx hu).1, r, hr, rfl⟩

theorem con_blks : Con Tryd.prog 10 (blksF apStd) := by
  refine con_shut Tryd.func10 rfl (by kernel_rfl) (fun args v us hF hv => ?_) (fun args v hF => blksF_ids hF)
  unfold blksF at hF
  split at hF
  · split at hF
    · rename_i x a hx
      simp only [Prod.mk.injEq, true_and] at hF
      exact ⟨_, _, good (l := []) (by simp), rfl, by kernel_rfl, args_i64 hx hv, Nat.le_of_ble_eq_true rfl, blks_vc std apStd (ALoop 0) a rfl rfl v hF.symm (FinP v) rfl⟩
    · cases hF
  · cases hF

theorem con_rblks : Con Tryd.prog 11 (blksF apStd) := by
  refine con_shut Tryd.func11 rfl (by kernel_rfl) (fun args v us hF hv => ?_) (fun args v hF => blksF_ids hF)
  unfold blksF at hF
  split at hF
  · split at hF
    · rename_i x a hx
      simp only [Prod.mk.injEq, true_and] at hF
      exact ⟨_, _, good (l := []) (by simp), rfl, by kernel_rfl, args_i64 hx hv, Nat.le_of_ble_eq_true rfl, rblks_vc std apStd (ALoop 0) a rfl rfl v hF.symm (FinP v) rfl⟩
    · cases hF
  · cases hF

/-! The examples. -/

def isTabs (F R : List Int) : Bool := isFirst F && isRounds R

/-- What hands back true, where the two tables are as they are laid. -/
def trueH (N : Ap) : HF := fun args h => match args, h with
  | [], [⟨.ints kf F, bf⟩, ⟨.ints kr R, br⟩] => ⟨Nat.beq (kn kf) (kn .u32) && (Nat.beq (kn kr) (kn .u32) && (liveK bf && (liveK br && (ap1 N isFirst F && ap1 N isRounds R)))), .bool true, [], []⟩
  | _, _ => ⟨false, .bad, [], []⟩

theorem awake_vc (A : Ar) (N : Ap) (L : LP) (F R : List Int) (hA : A = std) (hN : N = apStd) (hF : F = firstL) (hR : R = roundsL) (K : Bool → SV → List Blk → Prop) (hK : K = FinH 2 (.bool true) [] [] (uniR 2 (.bool true) [] [])) :
    Shut (afun (cxg A L [(10, blksF N)] [(7, sumH A N)]) Tryd.f9 [] [⟨.ints .u32 F, .ro⟩, ⟨.ints .u32 R, .ro⟩] K) := by
  obtain ⟨fi, fc, fw, fb, fn, fo, fs, fa, fe, fz, fy, ff, fl, fq, gadd, gsub, gmul, gmin, hlen'⟩ := A
  have hNF : N (List Int) Bool isFirst F = true := by subst hN; exact decide_eq_true hF
  have hNR : N (List Int) Bool isRounds R = true := by subst hN; exact decide_eq_true hR
  have hz : ∀ x, fz (N ByteArray ByteArray sumN x) = 32 := by cases hA; subst hN; intro x; simp only [apStd]; exact sumN_size x
  have h32 : fc .eql (fo 32) 32 = true := by cases hA; rfl
  have b1 : fc .eql (N Int Int blksN 55) 1 = true := by
    cases hA; subst hN
    show icmp .eql (blksN 55) 1 = true
    decide +kernel
  have b2 : fc .eql (N Int Int blksN 56) 2 = true := by
    cases hA; subst hN
    show icmp .eql (blksN 56) 2 = true
    decide +kernel
  have s1 : fs .eql (fe (N ByteArray ByteArray sumN { data := { toList := [97, 98, 99] } }) 0 4) { data := { toList := [186, 120, 22, 191] } } = true := by
    cases hA; subst hN
    simp only [apStd]
    show scmp .eql ((sumN { data := { toList := [97, 98, 99] } }).extract 0 4) { data := { toList := [186, 120, 22, 191] } } = true
    decide +kernel
  have s2 : fs .eql (fe (N ByteArray ByteArray sumN { data := { toList := [97, 98, 99] } }) 28 32) { data := { toList := [242, 0, 21, 173] } } = true := by
    cases hA; subst hN
    simp only [apStd]
    show scmp .eql ((sumN { data := { toList := [97, 98, 99] } }).extract 28 32) { data := { toList := [242, 0, 21, 173] } } = true
    decide +kernel
  have s3 : fs .eql (fe (N ByteArray ByteArray sumN { data := { toList := [] } }) 0 4) { data := { toList := [227, 176, 196, 66] } } = true := by
    cases hA; subst hN
    simp only [apStd]
    show scmp .eql ((sumN { data := { toList := [] } }).extract 0 4) { data := { toList := [227, 176, 196, 66] } } = true
    decide +kernel
  have z0 : fz { data := { toList := [] } } = 0 := by cases hA; rfl
  have z3 : fz { data := { toList := [97, 98, 99] } } = 3 := by cases hA; rfl
  have l1 : fl 0 35184372088832 = true := by cases hA; rfl
  have l2 : fl 3 35184372088832 = true := by cases hA; rfl
  have l3 : fl 0 4 = true := by cases hA; rfl
  have l5 : fc .leq (fo 32) 9223372036854775807 = true := by cases hA; rfl
  have l6 : fl 28 32 = true := by cases hA; rfl
  have l7 : fl 32 32 = true := by cases hA; rfl
  have l4 : fl 4 32 = true := by cases hA; rfl
  apply Shut.mk
  cbv
  simp only [hz, h32]
  cbv
  simp only [hz, h32, s1]
  cbv
  simp only [hz, h32, s1, s2]
  cbv
  simp only [hz, h32, s1, s2]
  cbv
  simp only [hz, h32, s1, s2, s3]
  cbv
  simp only [hz, h32, s1, s2, s3, b1]
  cbv
  simp only [hz, h32, s1, s2, s3, b1, b2]
  cbv
  refine finH0 hK ?_ rfl rfl
  rw [Bool.and_eq_true]
  refine ⟨by cbv, ?_⟩
  simp (maxSteps := 10000000) only [hz, h32, hNF, hNR, z0, z3, l1, l2, l3, l4, l5, l6, l7]

theorem hcon_awake : HCon Tryd.prog [0, 1] 9 (trueH apStd) := by
  refine hcon_shut Tryd.func9 rfl (by kernel_rfl) (fun args h v ch nw hF m us w H hv => ?_)
  unfold trueH at hF
  split at hF
  · rename_i kf F bf kr R br
    simp only [HR.mk.injEq, Bool.and_eq_true] at hF
    obtain ⟨⟨h1, h2, h3, h4, h5, h6⟩, rfl, rfl, rfl⟩ := hF
    have h1 := kn_eq h1
    have h2 := kn_eq h2
    subst h1; subst h2
    have h5 : F = firstL := of_decide_eq_true h5
    have h6 : R = roundsL := of_decide_eq_true h6
    refine ⟨_, [], _, goodg (base := 2) (l := [(10, blksF apStd)]) (d := [(7, sumH std apStd)]) dy0 (by decide) (by intro p hp; simp at hp; subst hp; exact con_blks) (by intro p hp; simp at hp; subst hp; exact hcon_sum),
      rfl, by kernel_rfl, hv, Nat.zero_le _, ?_, ?_, by simp,
      awake_vc std apStd (ALoop 2) F R rfl rfl h5 h6 _ rfl⟩
    · exact ⟨⟨kOk_ro h3, rfl, rfl⟩, ⟨kOk_ro h4, rfl, rfl⟩, trivial⟩
    · rfl
  · simp at hF

end Go.Proofs.YtcgolnihdbeegaaDoor
