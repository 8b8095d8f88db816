/- Walks through shamir: what a polynomial is at 0. It has no conditions. -/
import Derived.Test.YtnhobbdijdbbeaaSh9
namespace Go.Proofs.Ytnhobbdijdbbeaa
open Go.Eng Go.RowKit
set_option maxRecDepth 1000000
set_option maxHeartbeats 4000000
set_option linter.unusedSimpArgs false
set_option linter.unusedVariables false

def atL (L : List (List Sc)) : List Int := L.map fun r => Sc.toInt r[0]?
def joK (L : List (List Sc)) : Int := if plB (atL L) then totR (wtL (atL L)) L L.length else 0
def joE (L : List (List Sc)) : Int := wtE (atL L)
theorem atL_len (L : List (List Sc)) : (atL L).length = L.length := by simp [atL]

def joinH (A : Ar) (N : Ap) : HF := fun args h => match args, h with
  | [.row 0 n], [⟨.recs ks L, b⟩] =>
    ⟨liveK b && (ckeq ks kS && (A.neq (A.rlen L) n && A.nle n 1000000)), .tup [numV N (ap1 N joK L), .int .i64 (ap1 N joE L)], [], []⟩
  | _, _ => ⟨false, .bad, [], []⟩

def jaHd (L : List (List Sc)) (n : Nat) (ln : Int) : Nat → List Int × Int → St
  | _, (R, i) => ⟨[(0, .row 0 n), (2, .ptr 1 0), (3, .int .i64 0), (4, .row 2 n), (12, .row 0 n), (13, .int .i64 ln), (14, .int .i64 i)],
      [⟨.recs kS L, .ro⟩, ⟨.lit [.num .u64 0, .num .u64 0, .num .u64 0, .num .u64 0], .var⟩, ⟨.ints .i64 R, .row 1⟩], true⟩
def intsAt (S : St) (i : Nat) : List Int := match Eng.look S.t i with
  | .row w _ => (match (blkAt S.h w).c with
    | .ints _ l => l
    | _ => [])
  | _ => []
def jaEx (S : St) : List Int × Int := (intsAt S 4, slotI S 14)
def jaOk (L : List (List Sc)) (n : Nat) (d : List Int × Int) : Prop := d.1.length = L.length ∧ 0 ≤ d.2 ∧ d.2.toNat + n = L.length ∧ ∀ x, x < d.2.toNat → d.1[x]? = some (rint L x 0)
theorem jaOk_mk {L : List (List Sc)} {n : Nat} {R : List Int} {i : Int} (h : R.length = L.length) (h1 : 0 ≤ i) (h2 : i.toNat + n = L.length) (h3 : ∀ x, x < i.toNat → R[x]? = some (rint L x 0)) : jaOk L n (R, i) := ⟨h, h1, h2, h3⟩

theorem join_vc (A : Ar) (N : Ap) (L0 : LP) (L : List (List Sc)) (n : Nat) (Q : Int) (hL : L0 = ALoop 1) (hA : A = std) (hN : N = apStd) (hQ : Q = qN) (hO : L.length = n) (hl : n ≤ 1000000)
    (x : SV) (hx : x = .tup [numV N (ap1 N joK L), .int .i64 (ap1 N joE L)]) (K : Bool → SV → List Blk → Prop) (hK : K = FinH 1 x [] [] (uniR 1 x [] [])) :
    Shut (afun (cxs A L0 [] [(18, weightsH A N), (51, totalH A N)]) Try.f21 [.row 0 n] [⟨.recs kS L, .ro⟩] K) := by
  obtain ⟨fi, fc, fw, fb, fn, fo, fs, fa, fe, fz, fy, ff, fl, fq, gadd, gsub, gmul, gmin, hlen', hget, hset, happ, hisub, irep, iput', rlen, rint', rbool', rstr', rset, rapp, rsub, rrep, hmkb, hbyts, imn, imx⟩ := A
  have hml : fc .leq (fo n) 9223372036854775807 = true := by cases hA; exact decide_eq_true (by show (n : Int) ≤ _; omega)
  have hln : fl n 1000000 = true := by cases hA; exact decide_eq_true hl
  obtain ⟨ln, hlnn⟩ : ∃ l, fo n = l := ⟨_, rfl⟩
  have eln : 0 ≤ ln ∧ ln.toNat = n := by rw [← hlnn]; cases hA; exact ⟨Int.natCast_nonneg _, rfl⟩
  have hfn : fn ln = n := by rw [← eln.2]; cases hA; rfl
  rw [hlnn] at hml
  have c1 : fc .leq 0 ln = true := by cases hA; exact decide_eq_true eln.1
  have c2 : fc .leq ln ln = true := by cases hA; exact decide_eq_true (Int.le_refl _)
  obtain ⟨ok, hok⟩ : ∃ f, f = jaOk L := ⟨_, rfl⟩
  apply Shut.mk
  cbv
  simp only [hlnn]
  cbv
  simp only [hfn]
  refine lp_ex hL n jaEx (jaHd L n ln) ok ?_ ?_ hL (.inr rfl)
  · cbv
    have c3 : fc .leq ln (Int.ofNat 31274997412295) = true := by cases hA; exact decide_eq_true (by show ln ≤ 31274997412295; omega)
    refine ⟨?_, ?_, trivial⟩
    · rw [hok]
      refine jaOk_mk ?_ (Int.le_refl _) (by rw [hO]; exact Nat.zero_add _) (fun x hx => absurd hx (Nat.not_lt_zero _))
      cases hA
      show (List.replicate n _).length = _
      rw [List.length_replicate, hO]
    · simp only [hml, c1, c2, c3]
  intro m hm d hd
  obtain ⟨R, i⟩ := d
  obtain ⟨hR, i0, i1, i2⟩ : R.length = n ∧ 0 ≤ i ∧ i.toNat + m = n ∧ ∀ x, x < i.toNat → R[x]? = some (rint L x 0) := by rw [hok] at hd; rw [← hO]; exact hd
  clear hd
  cbv
  cases h1 : fc .lss i ln <;> cbv
  · have hj : i.toNat = n := by
      have : ¬ i < ln := by cases hA; exact of_decide_eq_false h1
      omega
    have eR : R = atL L := by
      apply List.ext_getElem?
      intro x
      by_cases hx' : x < n
      · rw [i2 x (by omega)]
        simp only [atL, List.getElem?_map, rint_toInt, List.getElem?_eq_getElem (show x < L.length by omega), Option.map_some, Option.bind_some]
      · rw [List.getElem?_eq_none (by omega), List.getElem?_eq_none (by rw [atL_len]; omega)]
    have gR : fq (hlen' R) n = true := by cases hA; exact decide_eq_true hR
    have gL : fq (rlen L) n = true := by cases hA; exact decide_eq_true hO
    obtain ⟨E, hE⟩ : ∃ y, ap1 N wtE R = y := ⟨_, rfl⟩
    obtain ⟨C, hC⟩ : ∃ y, ap1 N wtC R = y := ⟨_, rfl⟩
    obtain ⟨V, hV⟩ : ∃ y, ap1 N wtL R = y := ⟨_, rfl⟩
    have eE : E = wtE (atL L) := by rw [← hE, eR]; subst hN; rw [ap1_std]
    have eC : C = wtC (atL L) := by rw [← hC, eR]; subst hN; rw [ap1_std]
    have eV : V = wtL (atL L) := by rw [← hV, eR]; subst hN; rw [ap1_std]
    have eJ : ap1 N joE L = E := by subst hN; rw [ap1_std, eE]; rfl
    rw [eJ] at hx
    cases hp : plB (atL L)
    · have e1 : E = 1 := by rw [eE]; unfold wtE; rw [hp]; rfl
      have e0 : ap1 N joK L = 0 := by subst hN; rw [ap1_std]; unfold joK; rw [hp]; rfl
      rw [e0, e1] at hx
      subst e1
      have b1 : fc .neq 1 0 = true := by cases hA; rfl
      simp only [ap1] at hE hC hV
      simp only [hE, hC, hV, gR, hln, b1]
      cbv
      have z : ∀ _a _b : Nat, numV N 0 = .agg [.int .u64 0, .int .u64 0, .int .u64 0, .int .u64 0] := by
        intro a b; subst hN; rfl
      rw [z 0 0] at hx
      rw [hx] at hK
      rw [hK]
      repeat (simp only [hE, hC, hV, gR, hln, b1]; cbv)
    · have e1 : E = 0 := by rw [eE]; unfold wtE; rw [hp]; rfl
      have eC' : C = n := by rw [eC]; unfold wtC wtL; rw [hp]; simp [atL_len, hO]
      have eT : ap1 N joK L = totR V L n := by subst hN; rw [ap1_std]; unfold joK; rw [hp, eV, hO]; rfl
      subst e1
      have b1 : fc .neq 0 0 = false := by cases hA; rfl
      have gV : fq (rlen V) n = true := by cases hA; exact decide_eq_true (by show V.length = n; rw [eV, ← eC', eC]; rfl)
      have gn : fq n n = true := by cases hA; exact decide_eq_true rfl
      rw [eT] at hx
      rw [eC'] at hC
      simp only [ap1] at hE hC hV
      simp only [hE, hC, hV, gR, hln, b1]
      cbv
      obtain ⟨T, hT⟩ : ∃ y, N Nat Int (N (List (List Sc)) (Nat → Int) (N (List (List Sc)) (List (List Sc) → Nat → Int) totR V) L) n = y := ⟨_, rfl⟩
      have eT' : totR V L n = T := by rw [← hT]; subst hN; rfl
      rw [eT'] at hx
      rw [hx] at hK
      rw [hK]
      repeat (simp only [hE, hC, hV, hT, gR, gL, gV, gn, hln, b1]; cbv)
  · have hlt : i.toNat < n := by
      have : i < ln := by cases hA; exact of_decide_eq_true h1
      omega
    have gb : fb i n = true := by
      cases hA
      show (decide (0 ≤ i) && decide (i < (n : Int))) = true
      rw [decide_eq_true (by omega), decide_eq_true (by omega)]; rfl
    have gl : fl (gadd (fn i) 1) (rlen L) = true := by
      cases hA
      exact decide_eq_true (by show i.toNat + 1 ≤ L.length; omega)
    have gl2 : fl (gadd (fn i) 1) (hlen' R) = true := by
      cases hA
      exact decide_eq_true (by show i.toNat + 1 ≤ R.length; omega)
    obtain ⟨m', rfl⟩ : ∃ m', m = m' + 1 := ⟨m - 1, by omega⟩
    have ei : fi .add .i64 i 1 = i + 1 := by
      cases hA; show IntKind.i64.wrap (i + 1) = _; rw [IntKind.wrap_i64]; omega
    have next : ok m' (hset R (fn i) (rint' L (fn i) 0), fi .add .i64 i 1) := by
      rw [hok, ei]
      cases hA
      refine jaOk_mk ?_ (by omega) (by rw [hO]; omega) (fun x hx' => ?_)
      · show (R.set i.toNat _).length = _
        rw [List.length_set, hR, hO]
      · show (R.set i.toNat _)[x]? = _
        rw [List.getElem?_set]
        by_cases hxi : i.toNat = x
        · rw [if_pos hxi, if_pos (by omega), ← hxi]
        · rw [if_neg hxi]
          exact i2 x (by omega)
    clear hK
    repeat (simp only [gb, gl, gl2, hml]; cbv)
    exact ⟨next, trivial⟩

theorem hcon_join : HCon Try.prog [] 21 (joinH std apStd) := by
  refine hcon_shut Try.func21 rfl (by kernel_rfl) (fun args h x ch nw hF m us w H hv => ?_)
  unfold joinH at hF
  split at hF
  · rename_i n ks L b
    simp only [HR.mk.injEq, Bool.and_eq_true] at hF
    obtain ⟨⟨h1, h2, h3, h4⟩, rfl, rfl, rfl⟩ := hF
    have h2 := ckeq_eq h2
    subst h2
    have h3 : L.length = n := by simpa [std] using h3
    have h4 : n ≤ 1000000 := by simpa [std] using h4
    refine ⟨_, [.row 0 n], _, goods (base := 1) (l := []) (d := [(18, weightsH std apStd), (51, totalH std apStd)])
      (by simp) (by intro p hp; simp only [List.mem_cons, List.not_mem_nil, or_false] at hp; rcases hp with rfl | rfl; exact hcon_weights; exact hcon_total),
      rfl, by kernel_rfl, hv, Nat.le_of_ble_eq_true rfl, ?_, rfl, by simp, join_vc std apStd (ALoop 1) L n qN rfl rfl rfl rfl h3 h4 _ rfl _ rfl⟩
    exact ⟨⟨kOk_ro h1, rfl, rfl⟩, trivial⟩
  · simp at hF

end Go.Proofs.Ytnhobbdijdbbeaa
