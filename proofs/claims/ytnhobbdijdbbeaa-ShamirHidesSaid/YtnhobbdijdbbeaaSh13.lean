/- Walks through the laws of shamir: whether places are some that may be, and enough. It has no conditions. -/
import Derived.Test.YtnhobbdijdbbeaaSh12
namespace Go.Proofs.Ytnhobbdijdbbeaa
open Go.Eng Go.RowKit
set_option maxRecDepth 1000000
set_option maxHeartbeats 4000000
set_option linter.unusedSimpArgs false
set_option linter.unusedVariables false

/-- As many places as so many at least, at most 8, and they may be. -/
def lpB (L : List Int) (k : Int) : Bool := decide (¬ ((L.length : Int) < k) ∧ ¬ ((L.length : Int) > 8) ∧ ¬ (k > 8) ∧ plB L = true)
def lplacesH (A : Ar) (N : Ap) : HF := fun args h => match args, h with
  | [.row 0 n, y], [⟨.ints k L, b⟩] => (match y.i64 with
    | some a => ⟨liveK b && (Nat.beq (kn k) (kn .i64) && (A.neq (A.ilen L) n && A.nle n 9223372036854775807)), .bool (ap2 N lpB L a), [], []⟩
    | none => ⟨false, .bad, [], []⟩)
  | _, _ => ⟨false, .bad, [], []⟩

theorem lplaces_vc (A : Ar) (N : Ap) (L0 : LP) (L : List Int) (n : Nat) (k : Int) (hL : L0 = ALoop 1) (hA : A = std) (hN : N = apStd) (hO : L.length = n) (hl : n ≤ 9223372036854775807)
    (x : SV) (hx : x = .bool (ap2 N lpB L k)) (K : Bool → SV → List Blk → Prop) (hK : K = FinH 1 x [] [] (uniR 1 x [] [])) :
    Shut (afun (cxs A L0 [] [(19, weightsH A N)]) Try.f23 [.row 0 n, .int .i64 k] [⟨.ints .i64 L, .ro⟩] K) := by
  obtain ⟨fi, fc, fw, fb, fn, fo, fs, fa, fe, fz, fy, ff, fl, fq, gadd, gsub, gmul, gmin, hlen', hget, hset, happ, hisub, irep, iput', rlen, rint', rbool', rstr', rset, rapp, rsub, rrep, hmkb, hbyts, imn, imx⟩ := A
  have hml : fc .leq (fo n) 9223372036854775807 = true := by cases hA; exact decide_eq_true (by show (n : Int) ≤ _; omega)
  obtain ⟨B, hB⟩ : ∃ y, ap2 N lpB L k = y := ⟨_, rfl⟩
  have eB : B = lpB L k := by rw [← hB]; subst hN; rw [ap2_std]
  rw [hB] at hx
  have gq : fq (hlen' L) n = true := by cases hA; exact decide_eq_true hO
  have s1 : ∀ c, fc .lss (fo n) k = c → c = decide ((L.length : Int) < k) := by cases hA; intro c hc; rw [← hc, hO]; rfl
  have s2 : ∀ c, fc .gtr (fo n) 8 = c → c = decide ((L.length : Int) > 8) := by cases hA; intro c hc; rw [← hc, hO]; rfl
  have s3 : ∀ c, fc .gtr k 8 = c → c = decide (k > 8) := by cases hA; intro c hc; rw [← hc]; rfl
  have n8 : fc .gtr (fo n) 8 = false → n ≤ 8 := by
    cases hA; intro h
    have h : ¬ ((n : Int) > 8) := of_decide_eq_false h
    omega
  have no : ∀ p : Prop, p → (p → ¬ (¬ ((L.length : Int) < k) ∧ ¬ ((L.length : Int) > 8) ∧ ¬ (k > 8) ∧ plB L = true)) → x = .bool false := by
    intro p hp h
    rw [hx, eB]
    unfold lpB
    rw [decide_eq_false (h hp)]
  apply Shut.mk
  cbv
  cases h1 : fc .lss (fo n) k <;> cbv
  · have h1' := of_decide_eq_false (s1 _ h1).symm
    cases h2 : fc .gtr (fo n) 8 <;> cbv
    · have h2' := of_decide_eq_false (s2 _ h2).symm
      cases h3 : fc .gtr k 8 <;> cbv
      · have h3' := of_decide_eq_false (s3 _ h3).symm
        have hl8 : fl n 1000000 = true := by
          have : n ≤ 8 := n8 h2
          cases hA; exact decide_eq_true (by omega)
        obtain ⟨E, hE⟩ : ∃ y, ap1 N wtE L = y := ⟨_, rfl⟩
        have eE : E = wtE L := by rw [← hE]; subst hN; rw [ap1_std]
        have hc : fc .eql E 0 = B := by
          have e0 : B = plB L := by
            rw [eB]; unfold lpB
            cases hp : plB L
            · exact decide_eq_false (by simp)
            · exact decide_eq_true ⟨h1', h2', h3', rfl⟩
          rw [e0, eE]
          cases hA
          unfold wtE
          cases plB L <;> rfl
        simp only [ap1] at hE
        rw [hx] at hK
        simp only [hE, hc]
        refine finH0 hK ?_ rfl rfl
        rw [Bool.and_eq_true]
        refine ⟨by cbv, ?_⟩
        simp only [hml, gq, hl8]
      · rw [no _ (of_decide_eq_true (s3 _ h3).symm) (fun h q => q.2.2.1 h)] at hK
        refine finH0 hK ?_ rfl rfl
        rw [Bool.and_eq_true]
        refine ⟨by cbv, ?_⟩
        simp only [hml]
    · rw [no _ (of_decide_eq_true (s2 _ h2).symm) (fun h q => q.2.1 h)] at hK
      refine finH0 hK ?_ rfl rfl
      rw [Bool.and_eq_true]
      refine ⟨by cbv, ?_⟩
      simp only [hml]
  · rw [no _ (of_decide_eq_true (s1 _ h1).symm) (fun h q => q.1 h)] at hK
    refine finH0 hK ?_ rfl rfl
    rw [Bool.and_eq_true]
    refine ⟨by cbv, ?_⟩
    simp only [hml]

theorem hcon_lplaces : HCon Try.prog [] 23 (lplacesH std apStd) := by
  refine hcon_shut Try.func23 rfl (by kernel_rfl) (fun args h x ch nw hF m us w H hv => ?_)
  unfold lplacesH at hF
  split at hF
  · rename_i n y k L b
    split at hF
    · rename_i a hy
      simp only [HR.mk.injEq, Bool.and_eq_true] at hF
      obtain ⟨⟨h1, h2, h3, h4⟩, rfl, rfl, rfl⟩ := hF
      have h2 := kn_eq h2
      subst h2
      have h3 : L.length = n := by simpa [std] using h3
      have h4 : n ≤ 9223372036854775807 := by simpa [std] using h4
      simp only [SV.vals, Option.bind_eq_some_iff, Option.map_eq_some_iff] at hv
      obtain ⟨u1, hu1, us1, ⟨u2, hu2, us2, e2, rfl⟩, rfl⟩ := hv
      obtain ⟨hu2', wa⟩ := i64_val hy hu2
      refine ⟨_, [.row 0 n, .int .i64 a], _, goods (base := 1) (l := []) (d := [(19, weightsH std apStd)]) (by simp) (by intro p hp; simp at hp; subst hp; exact hcon_rweights),
        rfl, by kernel_rfl, by simp [SV.vals, hu1, hu2', e2], Nat.le_of_ble_eq_true rfl, ?_, rfl, by simp, lplaces_vc std apStd (ALoop 1) L n a rfl rfl rfl h3 h4 _ rfl _ rfl⟩
      exact ⟨⟨kOk_ro h1, rfl, rfl⟩, trivial⟩
    · simp at hF
  · simp at hF

end Go.Proofs.Ytnhobbdijdbbeaa
