/- Walks through the laws of shamir: the coefficients of a polynomial through shares. It has no conditions. -/
import Derived.Test.YtnhobbdijdbbeaaSh15
namespace Go.Proofs.Ytnhobbdijdbbeaa
open Go.Eng Go.RowKit
set_option maxRecDepth 1000000
set_option maxHeartbeats 4000000
set_option linter.unusedSimpArgs false
set_option linter.unusedVariables false

/-- No shares, or of places that may be. -/
def thB (L : List (List Sc)) : Bool := decide (L.length = 0) || plB (atL L)
/-- What the shares less a number are by their places. -/
def lessV (f : Int) (r : List Sc) : Int := smulN qN (ssubN qN (shP r).2 f) (sinvN qN (nI (shP r).1))
def lessR (f : Int) (L : List (List Sc)) : List (List Sc) := L.map fun r => shRow (shP r).1 (lessV f r)
def thrL (L : List (List Sc)) (s : Int) : List (List Sc) := (s :: thrI L.length s (L.map shP)).map numR
/-- The words of the shares' numbers are words. -/
def rowV (r : List Sc) : Prop := Go.Eng.W (Sc.toInt r[1]?) ∧ Go.Eng.W (Sc.toInt r[2]?) ∧ Go.Eng.W (Sc.toInt r[3]?) ∧ Go.Eng.W (Sc.toInt r[4]?)
instance (r : List Sc) : Decidable (rowV r) := by unfold rowV; infer_instance
def rowsV (L : List (List Sc)) : Bool := decide (∀ r ∈ L, rowV r)
theorem rowsV_at {L : List (List Sc)} (h : rowsV L = true) (k : Nat) : Go.Eng.W (rint L k 1) ∧ Go.Eng.W (rint L k 2) ∧ Go.Eng.W (rint L k 3) ∧ Go.Eng.W (rint L k 4) := by
  simp only [rint_toInt]
  rcases Nat.lt_or_ge k L.length with hk | hk
  · rw [List.getElem?_eq_getElem hk]
    exact (of_decide_eq_true h) L[k] (List.getElem_mem hk)
  · rw [List.getElem?_eq_none hk]
    decide
def throughH (A : Ar) (N : Ap) : HF := fun args h => match args, h with
  | [.row 0 n, .agg [.int .u64 w0, .int .u64 w1, .int .u64 w2, .int .u64 w3]], [⟨.recs ks L, b⟩] =>
    ⟨liveK b && (ckeq ks kS && (A.neq (A.rlen L) n && (A.nle n 3 && (ap1 N thB L && ap1 N rowsV L)))), .row 1 (A.nadd n 1), [], [⟨.recs k4 (ap2 N thrL L (ap4 N num4 w0 w1 w2 w3)), .ro⟩]⟩
  | _, _ => ⟨false, .bad, [], []⟩

theorem lessR_len (f : Int) (L : List (List Sc)) : (lessR f L).length = L.length := by simp [lessR]
theorem lessR_at (f : Int) (L : List (List Sc)) : atL (lessR f L) = atL L := by
  unfold atL lessR
  rw [List.map_map]
  exact List.map_congr_left (fun r _ => rfl)
theorem lessR_P (f : Int) (L : List (List Sc)) : (lessR f L).map shP = lessI f (L.map shP) := by
  unfold lessR lessI
  rw [List.map_map, List.map_map]
  refine List.map_congr_left (fun r _ => ?_)
  show ((shP r).1, num4 (l0 (lessV f r)) (l1 (lessV f r)) (l2 (lessV f r)) (l3 (lessV f r))) = _
  rw [limb_num (x := lessV f r) (toM (smulN_range _ _))]
  rfl
theorem plTo_take {L : List Int} {m k : Nat} (h : plTo L k) (hm : m ≤ k) (hk : k ≤ L.length) : plTo (L.take m) m := by
  intro i hi
  have e : ∀ j, j < m → (L.take m).getD j 0 = L.getD j 0 := fun j hj => by
    rw [List.getD_eq_getElem?_getD, List.getD_eq_getElem?_getD, List.getElem?_take, if_pos hj]
  obtain ⟨h1, h2⟩ := h i (Nat.lt_of_lt_of_le hi hm)
  rw [e i hi]
  exact ⟨h1, fun j hj => by rw [e j (Nat.lt_trans hj hi)]; exact h2 j hj⟩
theorem plB_take {L : List Int} {m : Nat} (h : plB L = true) (h0 : 0 < m) (hm : m ≤ L.length) : plB (L.take m) = true := by
  unfold plB at h ⊢
  rw [Bool.and_eq_true] at h
  have h2 := of_decide_eq_true h.2
  have hl : (L.take m).length = m := by rw [List.length_take]; omega
  rw [hl, decide_eq_true h0, decide_eq_true (plTo_take h2 hm (Nat.le_refl _))]
  rfl

abbrev D4 := Int × Int × Int × Int
/-- The outer rounds: how many coefficients, these, how many shares are left, these, the last coefficient. -/
abbrev TD := Nat × List (List Sc) × Nat × List (List Sc) × D4
def thHd (L : List (List Sc)) (n : Nat) (s0 s1 s2 s3 : Int) : Nat → TD → St
  | _, (cn, C, rn, R, f0, f1, f2, f3) => ⟨[(0, .row 0 n), (3, .ptr 1 0), (5, .row 2 cn), (6, .row 3 rn), (7, .ptr 4 0)],
      [⟨.recs kS L, .ro⟩, ⟨.lit [.int .u64 s0, .int .u64 s1, .int .u64 s2, .int .u64 s3], .ro⟩, ⟨.recs k4 C, .row 4⟩, ⟨.recs kS R, .ro⟩, ⟨.lit [.int .u64 f0, .int .u64 f1, .int .u64 f2, .int .u64 f3], .var⟩], true⟩
def rowN2 (S : St) (i : Nat) : Nat := match Eng.look S.t i with
  | .row _ n => n
  | .slice _ _ n _ => n
  | _ => 0
def recsAt2 (ks : List CK) (S : St) (i : Nat) : List (List Sc) := match Eng.look S.t i with
  | .row w _ => (match (blkAt S.h w).c with
    | .recs _ l => l
    | .lit l => (chunk ks l.length l).getD []
    | _ => [])
  | .slice w _ _ _ => (match (blkAt S.h w).c with
    | .recs _ l => l
    | .lit l => (chunk ks l.length l).getD []
    | _ => [])
  | _ => []
def thEx (S : St) : TD := (rowN2 S 5, recsAt2 k4 S 5, rowN' S 6, recsAt kS S 6, cellI S 4 0, cellI S 4 1, cellI S 4 2, cellI S 4 3)
structure ThOk (L : List (List Sc)) (s : Int) (m : Nat) (cn : Nat) (C : List (List Sc)) (rn : Nat) (R : List (List Sc)) (f0 f1 f2 f3 : Int) : Prop where
  rl : rn = m
  rlen : m ≤ R.length
  ml : m ≤ L.length
  ats : atL (R.take m) = (atL L).take m
  w : Go.Eng.W f0 ∧ Go.Eng.W f1 ∧ Go.Eng.W f2 ∧ Go.Eng.W f3
  rv : rowsV R = true
  cl : C.length = cn
  cm : cn + m = L.length + 1
  c : C ++ (thrI m (num4 f0 f1 f2 f3) ((R.take m).map shP)).map numR = thrL L s
def thOk (L : List (List Sc)) (s : Int) (m : Nat) : TD → Prop
  | (cn, C, rn, R, f0, f1, f2, f3) => ThOk L s m cn C rn R f0 f1 f2 f3
theorem thOk_mk {L : List (List Sc)} {s : Int} {m cn : Nat} {C : List (List Sc)} {rn : Nat} {R : List (List Sc)} {f0 f1 f2 f3 : Int} (h : ThOk L s m cn C rn R f0 f1 f2 f3) : thOk L s m (cn, C, rn, R, f0, f1, f2, f3) := h
theorem thOk_ex {L : List (List Sc)} {s : Int} {m cn : Nat} {C : List (List Sc)} {rn : Nat} {R : List (List Sc)} {f0 f1 f2 f3 : Int} (h : thOk L s m (cn, C, rn, R, f0, f1, f2, f3)) : ThOk L s m cn C rn R f0 f1 f2 f3 := h
/-- The inner rounds: how many are laid, these, the index. -/
def tiHd (L : List (List Sc)) (n : Nat) (s0 s1 s2 s3 : Int) (cn : Nat) (C : List (List Sc)) (rn : Nat) (R : List (List Sc)) (f0 f1 f2 f3 : Int) : Nat → Nat × List (List Sc) × Int → St
  | _, (l, M, i) => ⟨[(0, .row 0 n), (3, .ptr 1 0), (5, .row 2 cn), (6, .row 3 rn), (7, .ptr 4 0), (8, .row 5 l), (9, .int .i64 i)],
      [⟨.recs kS L, .ro⟩, ⟨.lit [.int .u64 s0, .int .u64 s1, .int .u64 s2, .int .u64 s3], .ro⟩, ⟨.recs k4 C, .row 4⟩, ⟨.recs kS R, .ro⟩, ⟨.lit [.int .u64 f0, .int .u64 f1, .int .u64 f2, .int .u64 f3], .var⟩, ⟨.recs kS M, .row 5⟩], true⟩
/-- The same in the first round. -/
def tiHd0 (L : List (List Sc)) (n : Nat) (s0 s1 s2 s3 : Int) (rn : Nat) (R : List (List Sc)) (f0 f1 f2 f3 : Int) : Nat → Nat × List (List Sc) × Int → St
  | _, (l, M, i) => ⟨[(0, .row 0 n), (3, .ptr 1 0), (5, .slice 2 0 1 1), (6, .row 3 rn), (7, .ptr 4 0), (8, .row 5 l), (9, .int .i64 i)],
      [⟨.recs kS L, .ro⟩, ⟨.lit [.int .u64 s0, .int .u64 s1, .int .u64 s2, .int .u64 s3], .ro⟩, ⟨.lit [.int .u64 s0, .int .u64 s1, .int .u64 s2, .int .u64 s3], .var⟩, ⟨.recs kS R, .ro⟩, ⟨.lit [.int .u64 f0, .int .u64 f1, .int .u64 f2, .int .u64 f3], .var⟩, ⟨.recs kS M, .row 5⟩], true⟩
def tiEx (S : St) : Nat × List (List Sc) × Int := (rowN' S 8, recsAt kS S 8, slotI S 9)
def tiOk (R : List (List Sc)) (k : Nat) (f : Int) (m : Nat) (d : Nat × List (List Sc) × Int) : Prop := 0 ≤ d.2.2 ∧ d.2.2.toNat + m = k ∧ d.1 = d.2.2.toNat ∧ d.2.1 = lessR f (R.take d.2.2.toNat)
theorem tiOk_mk {R : List (List Sc)} {k : Nat} {f : Int} {m l : Nat} {M : List (List Sc)} {i : Int} (h : 0 ≤ i) (h1 : i.toNat + m = k) (h2 : l = i.toNat) (h3 : M = lessR f (R.take i.toNat)) : tiOk R k f m (l, M, i) := ⟨h, h1, h2, h3⟩
theorem tiOk_ex {R : List (List Sc)} {k : Nat} {f : Int} {m l : Nat} {M : List (List Sc)} {i : Int} (h : tiOk R k f m (l, M, i)) : 0 ≤ i ∧ i.toNat + m = k ∧ l = i.toNat ∧ M = lessR f (R.take i.toNat) := h
theorem lessR_succ (f : Int) {R : List (List Sc)} {i : Nat} (hi : i < R.length) : lessR f (R.take (i + 1)) = lessR f (R.take i) ++ [shRow (shP R[i]).1 (lessV f R[i])] := by
  unfold lessR
  rw [List.take_add_one, List.getElem?_eq_getElem hi, Option.toList_some, List.map_append]
  rfl
theorem at_place {L R : List (List Sc)} {m i : Nat} (hB : plB (atL L) = true) (h : atL (R.take m) = (atL L).take m) (hi : i < m) (hm : m ≤ R.length) (hmL : m ≤ L.length) : placeOk (shP (R[i]'(Nat.lt_of_lt_of_le hi hm))).1 := by
  obtain ⟨h1, h2, h3⟩ := plB_ex hB
  apply h2
  have hi' : i < R.length := Nat.lt_of_lt_of_le hi hm
  have e1 : (atL (R.take m))[i]? = some (shP R[i]).1 := by
    unfold atL
    rw [List.getElem?_map, List.getElem?_take, if_pos hi, List.getElem?_eq_getElem hi']
    rfl
  rw [h, List.getElem?_take, if_pos hi] at e1
  exact List.mem_of_getElem? e1
theorem joK_less {L R : List (List Sc)} {m : Nat} {f : Int} (hB : plB (atL L) = true) (h : atL (R.take m) = (atL L).take m) (h0 : 0 < m) (hmL : m ≤ L.length) : joK (lessR f (R.take m)) = joinI (lessI f ((R.take m).map shP)) := by
  rw [joK_join _ (by rw [lessR_at, h]; exact plB_take hB h0 (by rw [atL_len]; exact hmL)), lessR_P]
theorem numR_words {s0 s1 s2 s3 s : Int} (hs : Go.Eng.W s0 ∧ Go.Eng.W s1 ∧ Go.Eng.W s2 ∧ Go.Eng.W s3) (h : num4 s0 s1 s2 s3 = s) : numR s = [.int .u64 s0, .int .u64 s1, .int .u64 s2, .int .u64 s3] := by
  obtain ⟨e0, e1, e2, e3⟩ := l_num4 hs
  rw [← h]
  unfold numR
  rw [e0, e1, e2, e3]
theorem lessR_rowsV (f : Int) (L : List (List Sc)) : rowsV (lessR f L) = true := by
  refine decide_eq_true (fun r hr => ?_)
  obtain ⟨x, _, rfl⟩ := List.mem_map.1 hr
  exact limb_W _
theorem atL_take (L : List (List Sc)) (k : Nat) : atL (L.take k) = (atL L).take k := by unfold atL; rw [List.map_take]
theorem take_drop_last {R : List (List Sc)} {f : Int} {m : Nat} (hm : m + 1 ≤ R.length) : ((lessR f (R.take (m + 1))).take m).map shP = (lessI f ((R.take (m + 1)).map shP)).dropLast := by
  rw [← lessR_P, List.dropLast_eq_take, List.map_take, List.length_map, lessR_len, List.length_take, Nat.min_eq_left hm]
  rfl
theorem thrI_one (f : Int) (l : List (Int × Int)) : thrI 1 f l = [joinI (lessI f l)] := rfl
theorem th_first {L : List (List Sc)} {n : Nat} {s0 s1 s2 s3 s : Int} (hO : L.length = n) (hs : Go.Eng.W s0 ∧ Go.Eng.W s1 ∧ Go.Eng.W s2 ∧ Go.Eng.W s3) (h : num4 s0 s1 s2 s3 = s) (hV : rowsV L = true) : ThOk L s n 1 [[.int .u64 s0, .int .u64 s1, .int .u64 s2, .int .u64 s3]] n L s0 s1 s2 s3 := by
  refine ⟨rfl, by omega, by omega, atL_take L n, hs, hV, rfl, by omega, ?_⟩
  rw [List.take_of_length_le (by omega), h, ← numR_words hs h, ← hO]
  rfl
theorem th_next {L : List (List Sc)} {s : Int} {q cn rn : Nat} {C R M : List (List Sc)} {f0 f1 f2 f3 F X : Int} (t : ThOk L s (q + 2) cn C rn R f0 f1 f2 f3) (hF : num4 f0 f1 f2 f3 = F) (eM : M = lessR F (R.take (q + 2)))
    (eX : X = joinI (lessI F ((R.take (q + 2)).map shP))) : ThOk L s (q + 1) (cn + 1) (C ++ [numR X]) (q + 1) M (l0 X) (l1 X) (l2 X) (l3 X) := by
  have hMl : M.length = q + 2 := by
    have := t.rlen
    rw [eM, lessR_len, List.length_take]; omega
  have rX : 0 ≤ X ∧ X < qN := by rw [eX]; exact joinI_range _
  refine ⟨rfl, by omega, Nat.le_of_succ_le t.ml, ?_, limb_W X, by rw [eM]; exact lessR_rowsV _ _, by simp [t.cl], by have := t.cm; omega, ?_⟩
  · rw [atL_take, eM, lessR_at, t.ats, List.take_take, Nat.min_eq_left (by omega)]
  · rw [limb_num (toM rX), ← t.c, hF, List.append_assoc]
    congr 1
    show numR X :: _ = numR (joinI _) :: _
    rw [← eX, eM]
    congr 1
    rw [take_drop_last (by have := t.rlen; omega)]
    rfl
theorem th_last {L : List (List Sc)} {s : Int} {cn rn : Nat} {C R : List (List Sc)} {f0 f1 f2 f3 F X : Int} (t : ThOk L s 1 cn C rn R f0 f1 f2 f3) (hF : num4 f0 f1 f2 f3 = F)
    (eX : X = joinI (lessI F ((R.take 1).map shP))) : C ++ [numR X] = thrL L s := by
  rw [← t.c, hF, thrI_one, ← eX]
  rfl
theorem th_end {L : List (List Sc)} {s : Int} {cn rn : Nat} {C R : List (List Sc)} {f0 f1 f2 f3 : Int} (t : ThOk L s 0 cn C rn R f0 f1 f2 f3) : C = thrL L s := by
  rw [← t.c]
  exact (List.append_nil C).symm
theorem thB_pl {L : List (List Sc)} (h : thB L = true) (h0 : 0 < L.length) : plB (atL L) = true := by
  unfold thB at h
  rw [decide_eq_false (by omega)] at h
  exact h
/-- A loop: its first round by itself, the others by their head's data. -/
theorem lp_peel {C : Cx} {L : LP} {base : Nat} (hL : L = ALoop base) {c : Code} {S : St} {Q : AX → St → Prop} {D : Type} (N : Nat) (ex : St → D) (hd : Nat → D → St)
    (ok : Nat → D → Prop) (h0 : awp C c S fun e T => match e with
      | .normal => atHead base hd ok N (ex T) T
      | e => Q e T)
    (h : ∀ n, n ≤ N → ∀ d, ok n d → awp C c (hd n d) fun e T => match e with
      | .normal => (match n with
        | 0 => False
        | n' + 1 => atHead base hd ok n' (ex T) T)
      | e => Q e T) (hC : C.lp = ALoop base) (hs : C.sc = AScope base (awp C.flat) ∨ C.sc = fun _ _ _ => False) : L (awp C c) S Q := by
  subst hL
  refine ⟨fun n S' => (n = N + 1 ∧ S' = S) ∨ (n ≤ N ∧ ∃ d, S' = hd n d ∧ ok n d), ⟨N + 1, S, .inl rfl, .inl ⟨rfl, rfl⟩⟩, ?_⟩
  rintro n S' (⟨rfl, rfl⟩ | ⟨hn, d, rfl, hk⟩)
  · refine awp_mono hC hs c _ _ _ (fun e T hT => ?_) h0
    cases e <;> try exact hT
    simp only at hT ⊢
    exact ⟨N, hd N _, Nat.lt_succ_self N, (atHead_sub hT).1, .inr ⟨Nat.le_refl N, _, rfl, (atHead_sub hT).2⟩⟩
  · refine awp_mono hC hs c _ _ _ (fun e T hT => ?_) (h n hn d hk)
    cases e <;> try exact hT
    simp only at hT ⊢
    cases n with
    | zero => exact hT.elim
    | succ n' => exact ⟨n', hd n' _, Nat.lt_succ_self n', (atHead_sub hT).1, .inr ⟨by omega, _, rfl, (atHead_sub hT).2⟩⟩

theorem through_vc (A : Ar) (N : Ap) (L0 : LP) (L : List (List Sc)) (n : Nat) (s0 s1 s2 s3 : Int) (Q : Int) (hL : L0 = ALoop 1) (hA : A = std) (hN : N = apStd) (hQ : Q = qN) (hO : L.length = n) (hl : n ≤ 3) (hB : thB L = true) (hV : rowsV L = true) (hs : Go.Eng.W s0 ∧ Go.Eng.W s1 ∧ Go.Eng.W s2 ∧ Go.Eng.W s3)
    (x : SV) (hx : x = .row 1 (A.nadd n 1)) (nw : List Blk) (hnw : nw = [⟨.recs k4 (thrL L (num4 s0 s1 s2 s3)), .ro⟩]) (K : Bool → SV → List Blk → Prop) (hK : K = FinH 1 x [] nw (uniR 1 x [] nw)) :
    Shut (afun (cxs A L0 [(49, ssub N Q), (50, sinv N Q), (43, smul N Q)] [(22, joinH A N)]) Try.f26 [.row 0 n, .agg [.int .u64 s0, .int .u64 s1, .int .u64 s2, .int .u64 s3]] [⟨.recs kS L, .ro⟩] K) := by
  obtain ⟨fi, fc, fw, fb, fn, fo, fs, fa, fe, fz, fy, ff, fl, fq, gadd, gsub, gmul, gmin, hlen', hget, hset, happ, hisub, irep, iput', rlen, rint', rbool', rstr', rset, rapp, rsub, rrep, hmkb, hbyts, imn, imx⟩ := A
  have hml : fc .leq (fo n) 9223372036854775807 = true := by cases hA; exact decide_eq_true (by show (n : Int) ≤ _; omega)
  obtain ⟨s, hS⟩ : ∃ y, num4 s0 s1 s2 s3 = y := ⟨_, rfl⟩
  simp only at hx
  rw [hS] at hnw
  obtain ⟨ok, hok⟩ : ∃ f, f = thOk L s := ⟨_, rfl⟩
  apply Shut.mk
  cbv
  obtain ⟨RR, hRR⟩ : ∃ y, rsub L 0 n = y := ⟨_, rfl⟩
  obtain ⟨rr, hrr⟩ : ∃ y, gadd 0 n = y := ⟨_, rfl⟩
  have eRR : RR = L := by rw [← hRR]; cases hA; show (L.drop 0).take n = L; rw [List.drop_zero, List.take_of_length_le (by omega)]
  have err : rr = n := by rw [← hrr]; cases hA; exact Nat.zero_add n
  have fin : ∀ (l : Nat) (C : List (List Sc)), l = n + 1 → C = thrL L s → K = FinH 1 (.row 1 l) [] [⟨.recs k4 C, .ro⟩] (uniR 1 (.row 1 l) [] [⟨.recs k4 C, .ro⟩]) := by
    intro l C h1 h2
    have e : gadd n 1 = l := by rw [h1]; cases hA; rfl
    rw [hK, hx, hnw, e, h2]
  have mrr : fc .leq (fo rr) 9223372036854775807 = true := by rw [err]; exact hml
  have g0a' : fl rr (rlen L) = true := by cases hA; exact decide_eq_true (by show rr ≤ L.length; omega)
  have g0b' : fl (gmul rr 40) 140737488355328 = true := by cases hA; exact decide_eq_true (by show rr * 40 ≤ _; omega)
  simp only [hRR, hrr]
  obtain ⟨n1, hn1⟩ : ∃ y, n - 1 = y := ⟨_, rfl⟩
  refine lp_peel hL n1 thEx (thHd L n s0 s1 s2 s3) ok ?_ ?_ hL (.inr rfl)
  · cbv
    cases h1 : fc .gtr (fo rr) 0 <;> cbv
    · have n0 : n = 0 := by
        have : ¬ (rr : Int) > 0 := by cases hA; exact of_decide_eq_false h1
        omega
      rw [fin 1 [[.int .u64 s0, .int .u64 s1, .int .u64 s2, .int .u64 s3]] (by omega) (by
        subst n0
        have := th_first hO hs hS hV
        exact th_end this)]
      cbv
      simp only [mrr, g0a', g0b']
      first | exact ⟨trivial, trivial⟩ | exact trivial | skip
    · have n0 : 0 < n := by
        have : (rr : Int) > 0 := by cases hA; exact of_decide_eq_true h1
        omega
      have pB := thB_pl hB (by omega : 0 < L.length)
      have hats : atL (RR.take n) = (atL L).take n := by rw [eRR, List.take_of_length_le (by omega), List.take_of_length_le (by rw [atL_len]; omega)]
      have hmR : n ≤ RR.length := by rw [eRR]; omega
      have hmL : n ≤ L.length := by omega
      have hF := hS
      have hfW := hs
      have hRV : rowsV RR = true := by rw [eRR]; exact hV
      have th : ThOk L s n 1 [[.int .u64 s0, .int .u64 s1, .int .u64 s2, .int .u64 s3]] n RR s0 s1 s2 s3 := by rw [eRR]; exact th_first hO hs hS hV
      have hRW : ∀ k, Go.Eng.W (rint' RR k 1) ∧ Go.Eng.W (rint' RR k 2) ∧ Go.Eng.W (rint' RR k 3) ∧ Go.Eng.W (rint' RR k 4) := by cases hA; exact rowsV_at hRV
      have mrn := mrr
      have g0a := g0a'
      have g0b := g0b'
      obtain ⟨ok2, hok2⟩ : ∃ f, f = tiOk RR n s := ⟨_, rfl⟩
      refine lp_ex hL n tiEx (tiHd0 L n s0 s1 s2 s3 rr RR s0 s1 s2 s3) ok2 ?_ ?_ hL (.inr rfl)
      · cbv
        refine ⟨?_, ?_⟩
        · rw [hok2]; exact tiOk_mk (Int.le_refl _) (Nat.zero_add _) rfl rfl
        · simp only [mrn, g0a, g0b]
          first | exact ⟨trivial, trivial⟩ | exact trivial | skip
      intro m2 hm2 d hd
      obtain ⟨l, M, i⟩ := d
      obtain ⟨i0, i1, i2, i3⟩ : 0 ≤ i ∧ i.toNat + m2 = n ∧ l = i.toNat ∧ M = lessR s (RR.take i.toNat) := by rw [hok2] at hd; exact tiOk_ex hd
      clear hd
      have hMl : M.length = l := by rw [i3, lessR_len, List.length_take, i2]; omega
      have gM : fq (rlen M) l = true := by cases hA; exact decide_eq_true hMl
      have gl6 : fl l 1000000 = true := by cases hA; exact decide_eq_true (by omega)
      have mll : fc .leq (fo l) 9223372036854775807 = true := by cases hA; exact decide_eq_true (by show (l : Int) ≤ _; omega)
      cbv
      cases h2 : fc .lss i (fo rr) <;> cbv
      · have hj : i.toNat = n := by
          have : ¬ i < (rr : Int) := by cases hA; exact of_decide_eq_false h2
          omega
        have elm : l = n := by omega
        have eM : M = lessR s (RR.take n) := by rw [i3, hj]
        obtain ⟨X, hX⟩ : ∃ y, ap1 N joK M = y := ⟨_, rfl⟩
        have eX : X = joinI (lessI s ((RR.take n).map shP)) := by rw [← hX]; subst hN; rw [ap1_std, eM]; exact joK_less pB hats (by omega) hmL
        have rX : 0 ≤ X ∧ X < qN := by rw [eX]; exact joinI_range _
        simp only [ap1] at hX
        simp only [hX]
        cases h3 : fc .eql (fo l) 1 <;> cbv
        · have hl1 : l ≠ 1 := by
            have : ¬ (l : Int) = 1 := by cases hA; exact of_decide_eq_false h3
            omega
          obtain ⟨q, hq⟩ : ∃ q, n = q + 2 := ⟨n - 2, by omega⟩
          obtain ⟨z, hz⟩ : ∃ y, fn (fi .sub .i64 (fo l) 1) = y := ⟨_, rfl⟩
          have esub : fi .sub .i64 (fo l) 1 = (l : Int) - 1 := by
            cases hA; show IntKind.i64.wrap ((l : Int) - 1) = _; rw [IntKind.wrap_i64]; omega
          have ez : z = q + 1 := by
            rw [← hz, esub]; cases hA; show ((l : Int) - 1).toNat = _; omega
          have c1 : fc .leq 0 (fi .sub .i64 (fo l) 1) = true := by rw [esub]; cases hA; exact decide_eq_true (by show (0 : Int) ≤ (l : Int) - 1; omega)
          have c2 : fl z l = true := by cases hA; exact decide_eq_true (by omega)
          have next : ok (q + 1) (2, [[.int .u64 s0, .int .u64 s1, .int .u64 s2, .int .u64 s3], [.int .u64 (ap1 N l0 X), .int .u64 (ap1 N l1 X), .int .u64 (ap1 N l2 X), .int .u64 (ap1 N l3 X)]], z, M, ap1 N l0 X, ap1 N l1 X, ap1 N l2 X, ap1 N l3 X) := by
            rw [hq] at th eM eX
            rw [hok, ez]
            subst hN
            exact thOk_mk (th_next th hS eM eX)
          have en1 : n1 = q + 1 := by omega
          simp only [ap1] at next
          clear hK fin
          simp only [hz, c1, c2, mll, gM, gl6, mrn, en1]
          first | exact ⟨next, trivial, trivial⟩ | exact ⟨next, trivial⟩ | exact next
        · have hl1 : n = 1 := by
            have : (l : Int) = 1 := by cases hA; exact of_decide_eq_true h3
            omega
          have hCl : True := trivial
          have g2 : True := trivial
          rw [fin 2 [[.int .u64 s0, .int .u64 s1, .int .u64 s2, .int .u64 s3], [.int .u64 (ap1 N l0 X), .int .u64 (ap1 N l1 X), .int .u64 (ap1 N l2 X), .int .u64 (ap1 N l3 X)]] (by omega) (by
            rw [hl1] at th eX
            subst hN
            exact th_last th hS eX)]
          cbv
          simp only [mll, gM, gl6, mrn, hCl, g2, ap1]
          first | exact ⟨trivial, trivial, trivial⟩ | exact ⟨trivial, rfl, trivial⟩ | exact ⟨trivial, trivial⟩ | exact trivial | skip
      · have hlt : i.toNat < n := by
          have : i < (rr : Int) := by cases hA; exact of_decide_eq_true h2
          omega
        obtain ⟨m', rfl⟩ : ∃ m', m2 = m' + 1 := ⟨m2 - 1, by omega⟩
        have hiR : i.toNat < RR.length := by omega
        have gb : fb i rr = true := by
          cases hA
          show (decide (0 ≤ i) && decide (i < (rr : Int))) = true
          rw [decide_eq_true (by omega), decide_eq_true (by omega)]; rfl
        have gl : fl (gadd (fn i) 1) (rlen RR) = true := by
          cases hA
          exact decide_eq_true (by show i.toNat + 1 ≤ RR.length; omega)
        have g1 : fl (gmul (gadd l 1) 40) 140737488355328 = true := by cases hA; exact decide_eq_true (by show (l + 1) * 40 ≤ _; omega)
        have ei : fi .add .i64 i 1 = i + 1 := by
          cases hA; show IntKind.i64.wrap (i + 1) = _; rw [IntKind.wrap_i64]; omega
        obtain ⟨a, ha⟩ : ∃ y, rint' RR (fn i) 0 = y := ⟨_, rfl⟩
        have ea : a = (shP RR[i.toNat]).1 := by
          rw [← ha]; cases hA
          show rint RR i.toNat 0 = _
          rw [rint_toInt, List.getElem?_eq_getElem hiR]
          rfl
        have pa : placeOk a := by rw [ea]; exact at_place pB hats hlt hmR hmL
        have ew : fw .u64 a = a := by
          unfold placeOk at pa
          cases hA; show IntKind.u64.wrap a = a; rw [IntKind.wrap_u64]; omega
        obtain ⟨V, hV⟩ : ∃ y, ap4 N num4 (rint' RR (fn i) 1) (rint' RR (fn i) 2) (rint' RR (fn i) 3) (rint' RR (fn i) 4) = y := ⟨_, rfl⟩
        have eV : V = (shP RR[i.toNat]).2 := by
          rw [← hV]; cases hA; subst hN
          rw [ap4_std]
          show num4 (rint RR i.toNat 1) (rint RR i.toNat 2) (rint RR i.toNat 3) (rint RR i.toNat 4) = _
          simp only [rint_toInt, List.getElem?_eq_getElem hiR]
          rfl
        have hF' : ap4 N num4 s0 s1 s2 s3 = s := by subst hN; rw [ap4_std]; exact hF
        have hT : ap4 N num4 a 0 0 0 = a := by subst hN; rw [ap4_std]; unfold num4; omega
        obtain ⟨S, hS'⟩ : ∃ y, ap2 N (ssubN Q) V s = y := ⟨_, rfl⟩
        obtain ⟨I, hI⟩ : ∃ y, ap1 N (sinvN Q) a = y := ⟨_, rfl⟩
        obtain ⟨P, hP⟩ : ∃ y, ap2 N (smulN Q) S I = y := ⟨_, rfl⟩
        have eS : S = ssubN qN V s := by rw [← hS']; subst hN; rw [ap2_std, hQ]
        have eI : I = sinvN qN (nI a) := by
          have : nI a = a := by unfold nI placeOk at *; omega
          rw [← hI, this]; subst hN; rw [ap1_std, hQ]
        have eP : P = lessV s RR[i.toNat] := by
          rw [← hP]; subst hN; rw [ap2_std, hQ, eS, eI, eV, ea]
          rfl
        have rF : 0 ≤ s ∧ s < M256 := by rw [← hF]; exact num4_range hfW.1 hfW.2.1 hfW.2.2.1 hfW.2.2.2
        have rV : 0 ≤ V ∧ V < M256 := by
          rw [← hV]; subst hN; rw [ap4_std]
          have hw := hRW (fn i)
          exact num4_range hw.1 hw.2.1 hw.2.2.1 hw.2.2.2
        have rS : 0 ≤ S ∧ S < qN := by rw [eS]; exact ssubN_range rV rF
        have rI : 0 ≤ I ∧ I < qN := by rw [eI]; exact sinvN_range (toM (place_q pa))
        have rP : 0 ≤ P ∧ P < qN := by rw [eP]; exact smulN_range _ _
        have hokI : ap1 N (sinvOk Q) a = true := by
          have e : sinvOk Q a = true := by
            rw [hQ]
            have := rI.1
            have e2 : nI a = a := by unfold nI placeOk at *; omega
            rw [eI, e2] at this
            exact decide_eq_true this
          subst hN; rw [ap1_std]; exact e
        have nN : ∀ y, (0 ≤ y ∧ y < M256) → ap4 N num4 (ap1 N l0 y) (ap1 N l1 y) (ap1 N l2 y) (ap1 N l3 y) = y := by
          intro y hy; subst hN; rw [ap1_std, ap1_std, ap1_std, ap1_std, ap4_std]; exact limb_num hy
        have nS := nN S (toM rS)
        have nI' := nN I (toM rI)
        have next : ok2 m' (gadd l 1, rapp M [[.int .i64 a, .int .u64 (ap1 N l0 P), .int .u64 (ap1 N l1 P), .int .u64 (ap1 N l2 P), .int .u64 (ap1 N l3 P)]], fi .add .i64 i 1) := by
          rw [hok2, ei]
          subst hN
          rw [ap1_std, ap1_std, ap1_std, ap1_std]
          have e1 : (i + 1).toNat = i.toNat + 1 := by omega
          refine tiOk_mk (by omega) (by omega) (by cases hA; show l + 1 = _; omega) ?_
          rw [e1, lessR_succ _ hiR, ← i3, ← ea, ← eP]
          cases hA
          rfl
        simp only [ap1, ap2, ap4] at hV hF' hT hS' hI hP nS nI' hokI next
        clear hK
        cbv
        repeat (simp only [ha, ew, hV, hF', hT, hS', hI, hP, nS, nI', hokI, gb, gl, gM, g1, gl6, mrn]; cbv)
        exact ⟨next, trivial⟩
  intro m hm d hd
  obtain ⟨cn, C, rn, R, f0, f1, f2, f3⟩ := d
  have th : ThOk L s m cn C rn R f0 f1 f2 f3 := by rw [hok] at hd; exact thOk_ex hd
  have th' := th
  obtain ⟨t1, hmR, hmL, hats, hfW, hRV, t6, t7, t8⟩ := th'
  clear hd
  obtain ⟨F, hF⟩ : ∃ y, num4 f0 f1 f2 f3 = y := ⟨_, rfl⟩
  have hCl : fq (rlen C) cn = true := by cases hA; exact decide_eq_true t6
  have mrn : fc .leq (fo rn) 9223372036854775807 = true := by cases hA; exact decide_eq_true (by show (rn : Int) ≤ _; omega)
  cbv
  cases h1 : fc .gtr (fo rn) 0 <;> cbv
  · have m0 : m = 0 := by
      have : ¬ (rn : Int) > 0 := by cases hA; exact of_decide_eq_false h1
      omega
    rw [fin cn C (by omega) (by subst m0; exact th_end th)]
    cbv
    simp only [mrn]
    first | exact ⟨trivial, trivial⟩ | exact trivial | skip
  · have m0 : 0 < m := by
      have : (rn : Int) > 0 := by cases hA; exact of_decide_eq_true h1
      omega
    have pB := thB_pl hB (by omega : 0 < L.length)
    have g0a := mrn
    have g0b := mrn
    have hRW : ∀ k, Go.Eng.W (rint' R k 1) ∧ Go.Eng.W (rint' R k 2) ∧ Go.Eng.W (rint' R k 3) ∧ Go.Eng.W (rint' R k 4) := by cases hA; exact rowsV_at hRV
    obtain ⟨ok2, hok2⟩ : ∃ f, f = tiOk R m F := ⟨_, rfl⟩
    refine lp_ex hL m tiEx (tiHd L n s0 s1 s2 s3 cn C rn R f0 f1 f2 f3) ok2 ?_ ?_ hL (.inr rfl)
    · cbv
      refine ⟨?_, ?_⟩
      · rw [hok2]; exact tiOk_mk (Int.le_refl _) (Nat.zero_add _) rfl rfl
      · simp only [mrn, g0a, g0b]
        first | exact ⟨trivial, trivial⟩ | exact trivial | skip
    intro m2 hm2 d hd
    obtain ⟨l, M, i⟩ := d
    obtain ⟨i0, i1, i2, i3⟩ : 0 ≤ i ∧ i.toNat + m2 = m ∧ l = i.toNat ∧ M = lessR F (R.take i.toNat) := by rw [hok2] at hd; exact tiOk_ex hd
    clear hd
    have hMl : M.length = l := by rw [i3, lessR_len, List.length_take, i2]; omega
    have gM : fq (rlen M) l = true := by cases hA; exact decide_eq_true hMl
    have gl6 : fl l 1000000 = true := by cases hA; exact decide_eq_true (by omega)
    have mll : fc .leq (fo l) 9223372036854775807 = true := by cases hA; exact decide_eq_true (by show (l : Int) ≤ _; omega)
    cbv
    cases h2 : fc .lss i (fo rn) <;> cbv
    · have hj : i.toNat = m := by
        have : ¬ i < (rn : Int) := by cases hA; exact of_decide_eq_false h2
        omega
      have elm : l = m := by omega
      have eM : M = lessR F (R.take m) := by rw [i3, hj]
      obtain ⟨X, hX⟩ : ∃ y, ap1 N joK M = y := ⟨_, rfl⟩
      have eX : X = joinI (lessI F ((R.take m).map shP)) := by rw [← hX]; subst hN; rw [ap1_std, eM]; exact joK_less pB hats (by omega) hmL
      have rX : 0 ≤ X ∧ X < qN := by rw [eX]; exact joinI_range _
      simp only [ap1] at hX
      simp only [hX]
      cases h3 : fc .eql (fo l) 1 <;> cbv
      · have hl1 : l ≠ 1 := by
          have : ¬ (l : Int) = 1 := by cases hA; exact of_decide_eq_false h3
          omega
        obtain ⟨q, hq⟩ : ∃ q, m = q + 2 := ⟨m - 2, by omega⟩
        obtain ⟨z, hz⟩ : ∃ y, fn (fi .sub .i64 (fo l) 1) = y := ⟨_, rfl⟩
        have esub : fi .sub .i64 (fo l) 1 = (l : Int) - 1 := by
          cases hA; show IntKind.i64.wrap ((l : Int) - 1) = _; rw [IntKind.wrap_i64]; omega
        have ez : z = q + 1 := by
          rw [← hz, esub]; cases hA; show ((l : Int) - 1).toNat = _; omega
        have c1 : fc .leq 0 (fi .sub .i64 (fo l) 1) = true := by rw [esub]; cases hA; exact decide_eq_true (by show (0 : Int) ≤ (l : Int) - 1; omega)
        have c2 : fl z l = true := by cases hA; exact decide_eq_true (by omega)
        have g2 : fl (gmul (gadd cn 1) 32) 140737488355328 = true := by cases hA; exact decide_eq_true (by show (cn + 1) * 32 ≤ _; omega)
        have next : ok (q + 1) (gadd cn 1, rapp C [[.int .u64 (ap1 N l0 X), .int .u64 (ap1 N l1 X), .int .u64 (ap1 N l2 X), .int .u64 (ap1 N l3 X)]], z, M, ap1 N l0 X, ap1 N l1 X, ap1 N l2 X, ap1 N l3 X) := by
          rw [hq] at th eM eX
          rw [hok, ez]
          subst hN
          cases hA
          exact thOk_mk (th_next th hF eM eX)
        subst hq
        simp only [ap1] at next
        clear hK fin
        cbv
        simp only [hz, c1, c2, mll, gM, gl6, mrn, hCl, g2]
        first | exact ⟨next, trivial, trivial⟩ | exact ⟨next, trivial⟩ | exact next
      · have hl1 : m = 1 := by
          have : (l : Int) = 1 := by cases hA; exact of_decide_eq_true h3
          omega
        have g2 : fl (gmul (gadd cn 1) 32) 140737488355328 = true := by cases hA; exact decide_eq_true (by show (cn + 1) * 32 ≤ _; omega)
        rw [fin (gadd cn 1) (rapp C [[.int .u64 (ap1 N l0 X), .int .u64 (ap1 N l1 X), .int .u64 (ap1 N l2 X), .int .u64 (ap1 N l3 X)]]) (by cases hA; show cn + 1 = n + 1; omega) (by
          rw [hl1] at th eX
          subst hN
          cases hA
          exact th_last th hF eX)]
        cbv
        simp only [mll, gM, gl6, mrn, hCl, g2, ap1]
        first | exact ⟨trivial, trivial, trivial⟩ | exact ⟨trivial, rfl, trivial⟩ | exact ⟨trivial, trivial⟩ | exact trivial | skip
    · have hlt : i.toNat < m := by
        have : i < (rn : Int) := by cases hA; exact of_decide_eq_true h2
        omega
      obtain ⟨m', rfl⟩ : ∃ m', m2 = m' + 1 := ⟨m2 - 1, by omega⟩
      have hiR : i.toNat < R.length := by omega
      have gb : fb i rn = true := by
        cases hA
        show (decide (0 ≤ i) && decide (i < (rn : Int))) = true
        rw [decide_eq_true (by omega), decide_eq_true (by omega)]; rfl
      have gl : fl (gadd (fn i) 1) (rlen R) = true := by
        cases hA
        exact decide_eq_true (by show i.toNat + 1 ≤ R.length; omega)
      have g1 : fl (gmul (gadd l 1) 40) 140737488355328 = true := by cases hA; exact decide_eq_true (by show (l + 1) * 40 ≤ _; omega)
      have ei : fi .add .i64 i 1 = i + 1 := by
        cases hA; show IntKind.i64.wrap (i + 1) = _; rw [IntKind.wrap_i64]; omega
      obtain ⟨a, ha⟩ : ∃ y, rint' R (fn i) 0 = y := ⟨_, rfl⟩
      have ea : a = (shP R[i.toNat]).1 := by
        rw [← ha]; cases hA
        show rint R i.toNat 0 = _
        rw [rint_toInt, List.getElem?_eq_getElem hiR]
        rfl
      have pa : placeOk a := by rw [ea]; exact at_place pB hats hlt hmR hmL
      have ew : fw .u64 a = a := by
        unfold placeOk at pa
        cases hA; show IntKind.u64.wrap a = a; rw [IntKind.wrap_u64]; omega
      obtain ⟨V, hV⟩ : ∃ y, ap4 N num4 (rint' R (fn i) 1) (rint' R (fn i) 2) (rint' R (fn i) 3) (rint' R (fn i) 4) = y := ⟨_, rfl⟩
      have eV : V = (shP R[i.toNat]).2 := by
        rw [← hV]; cases hA; subst hN
        rw [ap4_std]
        show num4 (rint R i.toNat 1) (rint R i.toNat 2) (rint R i.toNat 3) (rint R i.toNat 4) = _
        simp only [rint_toInt, List.getElem?_eq_getElem hiR]
        rfl
      have hF' : ap4 N num4 f0 f1 f2 f3 = F := by subst hN; rw [ap4_std]; exact hF
      have hT : ap4 N num4 a 0 0 0 = a := by subst hN; rw [ap4_std]; unfold num4; omega
      obtain ⟨S, hS'⟩ : ∃ y, ap2 N (ssubN Q) V F = y := ⟨_, rfl⟩
      obtain ⟨I, hI⟩ : ∃ y, ap1 N (sinvN Q) a = y := ⟨_, rfl⟩
      obtain ⟨P, hP⟩ : ∃ y, ap2 N (smulN Q) S I = y := ⟨_, rfl⟩
      have eS : S = ssubN qN V F := by rw [← hS']; subst hN; rw [ap2_std, hQ]
      have eI : I = sinvN qN (nI a) := by
        have : nI a = a := by unfold nI placeOk at *; omega
        rw [← hI, this]; subst hN; rw [ap1_std, hQ]
      have eP : P = lessV F R[i.toNat] := by
        rw [← hP]; subst hN; rw [ap2_std, hQ, eS, eI, eV, ea]
        rfl
      have rF : 0 ≤ F ∧ F < M256 := by rw [← hF]; exact num4_range hfW.1 hfW.2.1 hfW.2.2.1 hfW.2.2.2
      have rV : 0 ≤ V ∧ V < M256 := by
        rw [← hV]; subst hN; rw [ap4_std]
        have hw := hRW (fn i)
        exact num4_range hw.1 hw.2.1 hw.2.2.1 hw.2.2.2
      have rS : 0 ≤ S ∧ S < qN := by rw [eS]; exact ssubN_range rV rF
      have rI : 0 ≤ I ∧ I < qN := by rw [eI]; exact sinvN_range (toM (place_q pa))
      have rP : 0 ≤ P ∧ P < qN := by rw [eP]; exact smulN_range _ _
      have hokI : ap1 N (sinvOk Q) a = true := by
        have e : sinvOk Q a = true := by
          rw [hQ]
          have := rI.1
          have e2 : nI a = a := by unfold nI placeOk at *; omega
          rw [eI, e2] at this
          exact decide_eq_true this
        subst hN; rw [ap1_std]; exact e
      have nN : ∀ y, (0 ≤ y ∧ y < M256) → ap4 N num4 (ap1 N l0 y) (ap1 N l1 y) (ap1 N l2 y) (ap1 N l3 y) = y := by
        intro y hy; subst hN; rw [ap1_std, ap1_std, ap1_std, ap1_std, ap4_std]; exact limb_num hy
      have nS := nN S (toM rS)
      have nI' := nN I (toM rI)
      have next : ok2 m' (gadd l 1, rapp M [[.int .i64 a, .int .u64 (ap1 N l0 P), .int .u64 (ap1 N l1 P), .int .u64 (ap1 N l2 P), .int .u64 (ap1 N l3 P)]], fi .add .i64 i 1) := by
        rw [hok2, ei]
        subst hN
        rw [ap1_std, ap1_std, ap1_std, ap1_std]
        have e1 : (i + 1).toNat = i.toNat + 1 := by omega
        refine tiOk_mk (by omega) (by omega) (by cases hA; show l + 1 = _; omega) ?_
        rw [e1, lessR_succ _ hiR, ← i3, ← ea, ← eP]
        cases hA
        rfl
      simp only [ap1, ap2, ap4] at hV hF' hT hS' hI hP nS nI' hokI next
      clear hK
      cbv
      repeat (simp only [ha, ew, hV, hF', hT, hS', hI, hP, nS, nI', hokI, gb, gl, gM, g1, gl6, mrn]; cbv)
      exact ⟨next, trivial⟩

theorem hcon_through : HCon Try.prog [] 26 (throughH std apStd) := by
  refine hcon_shut Try.func26 rfl (by kernel_rfl) (fun args h x ch nw hF m us w H hv => ?_)
  unfold throughH at hF
  split at hF
  · rename_i n w0 w1 w2 w3 ks L b
    simp only [HR.mk.injEq, Bool.and_eq_true] at hF
    obtain ⟨⟨h1, h2, h3, h4, h5, h6⟩, rfl, rfl, rfl⟩ := hF
    have h2 := ckeq_eq h2
    subst h2
    have h3 : L.length = n := by simpa [std] using h3
    have h4 : n ≤ 3 := by simpa [std] using h4
    have hw : Go.Eng.W w0 ∧ Go.Eng.W w1 ∧ Go.Eng.W w2 ∧ Go.Eng.W w3 := by
      obtain ⟨u, v, _, _, hv2⟩ := vals_two hv
      simp only [SV.val, SV.vals, Option.map_eq_some_iff, Option.bind_eq_some_iff] at hv2
      obtain ⟨vs, ⟨u1, g1, t1, ⟨u2, g2, t2, ⟨u3, g3, t3, ⟨u4, g4, t4, e4, rfl⟩, rfl⟩, rfl⟩, rfl⟩, rfl⟩ := hv2
      exact ⟨(u64_of (x := .int .u64 w0) rfl (m := m) g1).2, (u64_of (x := .int .u64 w1) rfl (m := m) g2).2, (u64_of (x := .int .u64 w2) rfl (m := m) g3).2, (u64_of (x := .int .u64 w3) rfl (m := m) g4).2⟩
    refine ⟨_, [.row 0 n, .agg [.int .u64 w0, .int .u64 w1, .int .u64 w2, .int .u64 w3]], _, goods (base := 1) (l := [(49, ssub apStd qN), (50, sinv apStd qN), (43, smul apStd qN)]) (d := [(22, joinH std apStd)])
      (by intro p hp; simp only [List.mem_cons, List.not_mem_nil, or_false] at hp; rcases hp with rfl | rfl | rfl <;> first | exact con_srSub | exact con_rInv | exact con_srMul) (by intro p hp; simp at hp; subst hp; exact hcon_rjoin),
      rfl, by kernel_rfl, hv, Nat.le_of_ble_eq_true rfl, ?_, rfl, by simp, through_vc std apStd (ALoop 1) L n w0 w1 w2 w3 qN rfl rfl rfl rfl h3 h4 h5 h6 hw _ rfl _ (by simp only [ap2_std, ap4_std]) _ rfl⟩
    exact ⟨⟨kOk_ro h1, rfl, rfl⟩, trivial⟩
  · simp at hF

end Go.Proofs.Ytnhobbdijdbbeaa
