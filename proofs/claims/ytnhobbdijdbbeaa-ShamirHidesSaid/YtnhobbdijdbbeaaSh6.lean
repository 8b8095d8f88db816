/- Walks through shamir: whether places are some that may be. It has no conditions. -/
import Derived.Test.YtnhobbdijdbbeaaSh5
namespace Go.Proofs.Ytnhobbdijdbbeaa
open Go.Eng Go.RowKit
set_option maxRecDepth 1000000
set_option maxHeartbeats 4000000
set_option linter.unusedSimpArgs false
set_option linter.unusedVariables false

/-- The first places are some that may be, and none is twice. -/
def plTo (L : List Int) (m : Nat) : Prop := ∀ i, i < m → placeOk (L.getD i 0) ∧ ∀ j, j < i → L.getD j 0 ≠ L.getD i 0
instance (L : List Int) (m : Nat) : Decidable (plTo L m) := by unfold plTo; infer_instance
def plB (L : List Int) : Bool := decide (0 < L.length) && decide (plTo L L.length)
theorem plTo_succ {L : List Int} {m : Nat} (h : plTo L m) (h1 : placeOk (L.getD m 0)) (h2 : ∀ j, j < m → L.getD j 0 ≠ L.getD m 0) : plTo L (m + 1) := by
  intro i hi
  rcases Nat.lt_or_ge i m with h3 | h3
  · exact h i h3
  · have : i = m := by omega
    subst this
    exact ⟨h1, h2⟩

def placesH (A : Ar) (N : Ap) : HF := fun args h => match args, h with
  | [.row 0 n], [⟨.ints k L, b⟩] => ⟨liveK b && (Nat.beq (kn k) (kn .i64) && (A.neq (A.ilen L) n && A.nle n 1000000)), .bool (ap1 N plB L), [], []⟩
  | _, _ => ⟨false, .bad, [], []⟩

def pcHd (L : List Int) (len : Nat) (ln : Int) : Nat → Int → St
  | _, i => ⟨[(0, .row 0 len), (7, .row 0 len), (8, .int .i64 ln), (9, .int .i64 i)], [⟨.ints .i64 L, .ro⟩], true⟩
def pcEx (S : St) : Int := slotI S 9
def pcOk (L : List Int) (n : Nat) (i : Int) : Prop := 0 ≤ i ∧ i.toNat + n = L.length ∧ plTo L i.toNat
def pdHd (L : List Int) (len k : Nat) (ln i a kn' : Int) : Nat → Int → St
  | _, j => ⟨[(0, .row 0 len), (3, .int .i64 i), (4, .int .i64 a), (7, .row 0 len), (8, .int .i64 ln), (9, .int .i64 i), (22, .row 0 k), (23, .int .i64 kn'), (24, .int .i64 j)], [⟨.ints .i64 L, .ro⟩], true⟩
def pdEx (S : St) : Int := slotI S 24
def pdOk (L : List Int) (m : Nat) (n : Nat) (j : Int) : Prop := 0 ≤ j ∧ j.toNat + n = m ∧ ∀ x, x < j.toNat → L.getD x 0 ≠ L.getD m 0

theorem places_vc (A : Ar) (N : Ap) (L0 : LP) (L : List Int) (len : Nat) (hL : L0 = ALoop 1) (hA : A = std) (hN : N = apStd) (hO : L.length = len) (hl : len ≤ 1000000)
    (x : SV) (hx : x = .bool (ap1 N plB L)) (K : Bool → SV → List Blk → Prop) (hK : K = FinH 1 x [] [] (uniR 1 x [] [])) :
    Shut (afun (cxs A L0 [] []) Try.f45 [.row 0 len] [⟨.ints .i64 L, .ro⟩] K) := by
  obtain ⟨fi, fc, fw, fb, fn, fo, fs, fa, fe, fz, fy, ff, fl, fq, gadd, gsub, gmul, gmin, hlen', hget, hset, happ, hisub, irep, iput', rlen, rint', rbool', rstr', rset, rapp, rsub, rrep, hmkb, hbyts, imn, imx⟩ := A
  obtain ⟨b, hb⟩ : ∃ b, b = ap1 N plB L := ⟨_, rfl⟩
  have hbe : b = plB L := by rw [hb]; subst hN; rw [ap1_std]
  rw [← hb] at hx
  have hml : fc .leq (fo len) 9223372036854775807 = true := by cases hA; exact decide_eq_true (by show (len : Int) ≤ _; omega)
  have no : ∀ m, m < len → ¬ plTo L (m + 1) → x = .bool false := by
    intro m hm h
    rw [hx, hbe]
    unfold plB
    rw [hO, decide_eq_false (p := plTo L len) (fun hh => h (fun i hi => hh i (by omega)))]
    simp
  have ei : ∀ j : Int, 0 ≤ j → j < 1000001 → fi .add .i64 j 1 = j + 1 := by
    cases hA; intro j h0 h1; show IntKind.i64.wrap (j + 1) = _; rw [IntKind.wrap_i64]; omega
  obtain ⟨ln, hln⟩ : ∃ l, fo len = l := ⟨_, rfl⟩
  have eln : 0 ≤ ln ∧ ln.toNat = len := by rw [← hln]; cases hA; exact ⟨Int.natCast_nonneg _, rfl⟩
  obtain ⟨ok, hok⟩ : ∃ f, f = pcOk L := ⟨_, rfl⟩
  apply Shut.mk
  cbv
  simp only [hln] at hml ⊢
  refine lp_ex hL len pcEx (pcHd L len ln) ok ?_ ?_ hL (.inr rfl)
  · cbv
    refine ⟨?_, ?_, trivial⟩
    · rw [hok]; exact ⟨Int.le_refl _, by rw [hO]; exact Nat.zero_add _, fun i hi => absurd hi (Nat.not_lt_zero _)⟩
    · simp only [hml]
  intro m hm i hd
  obtain ⟨i0, i1, i2⟩ : 0 ≤ i ∧ i.toNat + m = len ∧ plTo L i.toNat := by rw [hok] at hd; rw [← hO]; exact hd
  clear hd
  cbv
  cases h1 : fc .lss i ln <;> cbv
  · have hj : i.toNat = len := by
      have : ¬ i < ln := by cases hA; exact of_decide_eq_false h1
      omega
    have ex : ∀ c, fc .gtr (fo len) 0 = c → x = .bool c := by
      intro c hc
      rw [hln] at hc
      rw [hx, hbe]
      have e1 : plTo L len := by rw [← hj]; exact i2
      unfold plB
      rw [hO, decide_eq_true e1, Bool.and_true, ← hc]
      cases hA
      congr 1
      exact decide_eq_decide.2 (by show 0 < len ↔ ln > 0; omega)
    have ex' := ex _ rfl
    subst ex'
    refine finH0 hK ?_ rfl rfl
    rw [Bool.and_eq_true]
    refine ⟨by cbv, ?_⟩
    simp only [hln, hml]
  · have hlt : i.toNat < len := by
      have : i < ln := by cases hA; exact of_decide_eq_true h1
      omega
    have gb : fb i len = true := by
      cases hA
      show (decide (0 ≤ i) && decide (i < (len : Int))) = true
      rw [decide_eq_true (by omega), decide_eq_true (by omega)]; rfl
    have gl : fl (gadd (fn i) 1) (hlen' L) = true := by
      cases hA
      exact decide_eq_true (by show i.toNat + 1 ≤ L.length; omega)
    obtain ⟨a, ha⟩ : ∃ a, hget L (fn i) = a := ⟨_, rfl⟩
    have ea : a = L.getD i.toNat 0 := by rw [← ha]; cases hA; rfl
    simp only [ha]
    have bad : ¬ plTo L (i.toNat + 1) → x = .bool false := no i.toNat hlt
    cases h2 : fc .lss a 1 <;> cbv
    · have a1 : 1 ≤ a := by
        have : ¬ a < 1 := by cases hA; exact of_decide_eq_false h2
        omega
      cases h3 : fc .gtr a 2147483648 <;> cbv
      · have a2 : a ≤ 2147483648 := by
          have : ¬ a > 2147483648 := by cases hA; exact of_decide_eq_false h3
          omega
        obtain ⟨k, hk⟩ : ∃ c, fn i = c := ⟨_, rfl⟩
        have ek : k = i.toNat := by rw [← hk]; cases hA; rfl
        obtain ⟨kn', hkn⟩ : ∃ c, fo k = c := ⟨_, rfl⟩
        have ekn : 0 ≤ kn' ∧ kn'.toNat = k := by rw [← hkn]; cases hA; exact ⟨Int.natCast_nonneg _, rfl⟩
        have c0 : fc .leq 0 i = true := by cases hA; exact decide_eq_true i0
        have c1 : fl k len = true := by cases hA; exact decide_eq_true (by omega)
        have c2 : fc .leq kn' 9223372036854775807 = true := by cases hA; exact decide_eq_true (by omega)
        simp only [hk] at gl
        simp only [hk, hkn]
        obtain ⟨ok2, hok2⟩ : ∃ f, f = pdOk L k := ⟨_, rfl⟩
        refine lp_ex hL k pdEx (pdHd L len k ln i a kn') ok2 ?_ ?_ hL (.inr rfl)
        · cbv
          refine ⟨?_, ?_, trivial⟩
          · rw [hok2]; exact ⟨Int.le_refl _, Nat.zero_add _, fun x hx => absurd hx (Nat.not_lt_zero _)⟩
          · simp only [c0, c1, c2, gl, gb]
        intro m2 hm2 j hd2
        obtain ⟨j0, j1, j2⟩ : 0 ≤ j ∧ j.toNat + m2 = k ∧ ∀ x, x < j.toNat → L.getD x 0 ≠ L.getD k 0 := by rw [hok2] at hd2; exact hd2
        clear hd2
        cbv
        cases h4 : fc .lss j kn' <;> cbv
        · have hjk : j.toNat = k := by
            have : ¬ j < kn' := by cases hA; exact of_decide_eq_false h4
            omega
          obtain ⟨m', rfl⟩ : ∃ m', m = m' + 1 := ⟨m - 1, by omega⟩
          cbv
          refine ⟨?_, trivial⟩
          rw [hok, ei i i0 (by omega)]
          have e1 : (i + 1).toNat = i.toNat + 1 := by omega
          refine ⟨by omega, by rw [hO]; omega, ?_⟩
          rw [e1]
          refine plTo_succ i2 ⟨by rw [← ea]; exact a1, by rw [← ea]; exact a2⟩ (fun x hx => ?_)
          rw [← ek]
          exact j2 x (by omega)
        · have hjk : j.toNat < k := by
            have : j < kn' := by cases hA; exact of_decide_eq_true h4
            omega
          have gb2 : fb j k = true := by
            cases hA
            show (decide (0 ≤ j) && decide (j < (k : Int))) = true
            rw [decide_eq_true (by omega), decide_eq_true (by omega)]; rfl
          have gl2 : fl (gadd (fn j) 1) (hlen' L) = true := by
            cases hA
            exact decide_eq_true (by show j.toNat + 1 ≤ L.length; omega)
          obtain ⟨c, hc⟩ : ∃ c, hget L (fn j) = c := ⟨_, rfl⟩
          have ec : c = L.getD j.toNat 0 := by rw [← hc]; cases hA; rfl
          obtain ⟨m', rfl⟩ : ∃ m', m2 = m' + 1 := ⟨m2 - 1, by omega⟩
          simp only [hc]
          cases h5 : fc .eql c a <;> cbv
          · have hne : c ≠ a := by cases hA; simpa [icmp] using h5
            refine ⟨?_, ?_⟩
            · rw [hok2, ei j j0 (by omega)]
              refine ⟨by omega, by omega, fun x hx => ?_⟩
              rcases Nat.lt_or_ge x j.toNat with h6 | h6
              · exact j2 x h6
              · have : x = j.toNat := by omega
                rw [this, ← ec, ek, ← ea]
                exact hne
            · simp only [gb2, gl2]
              exact ⟨trivial, trivial⟩
          · have heq : c = a := by cases hA; simpa [icmp] using h5
            have ex' := bad (fun hh => by
              have := (hh i.toNat (by omega)).2 j.toNat (by omega)
              rw [← ea, ← ec] at this
              exact this heq)
            subst ex'
            refine finH0 hK ?_ rfl rfl
            rw [Bool.and_eq_true]
            refine ⟨by cbv, ?_⟩
            simp only [hml, gb, gl, gb2, gl2, c0, c1, c2]
      · have ex' := bad (fun hh => by
          have := (hh i.toNat (by omega)).1
          rw [← ea] at this
          have : a > 2147483648 := by cases hA; exact of_decide_eq_true h3
          unfold placeOk at *
          omega)
        subst ex'
        refine finH0 hK ?_ rfl rfl
        rw [Bool.and_eq_true]
        refine ⟨by cbv, ?_⟩
        simp only [hml, gb, gl]
    · have ex' := bad (fun hh => by
        have := (hh i.toNat (by omega)).1
        rw [← ea] at this
        have : a < 1 := by cases hA; exact of_decide_eq_true h2
        unfold placeOk at *
        omega)
      subst ex'
      refine finH0 hK ?_ rfl rfl
      rw [Bool.and_eq_true]
      refine ⟨by cbv, ?_⟩
      simp only [hml, gb, gl]

theorem hcon_places : HCon Try.prog [] 45 (placesH std apStd) := by
  refine hcon_shut Try.func45 rfl (by kernel_rfl) (fun args h x ch nw hF m us w H hv => ?_)
  unfold placesH at hF
  split at hF
  · rename_i n k L b
    simp only [HR.mk.injEq, Bool.and_eq_true] at hF
    obtain ⟨⟨h1, h2, h3, h4⟩, rfl, rfl, rfl⟩ := hF
    have h2 := kn_eq h2
    subst h2
    have h3 : L.length = n := by simpa [std] using h3
    have h4 : n ≤ 1000000 := by simpa [std] using h4
    refine ⟨_, [.row 0 n], _, goods (base := 1) (l := []) (d := []) (by simp) (by simp),
      rfl, by kernel_rfl, hv, Nat.le_of_ble_eq_true rfl, ?_, rfl, by simp, places_vc std apStd (ALoop 1) L n rfl rfl rfl h3 h4 _ rfl _ rfl⟩
    exact ⟨⟨kOk_ro h1, rfl, rfl⟩, trivial⟩
  · simp at hF

end Go.Proofs.Ytnhobbdijdbbeaa
