/- A law's walk, from its parameters: values of scalars, and slices of them. It has no conditions. -/
import Derived.Test.YtnhobbdijdbbeaaLaw
import Derived.Test.YtnhobbdijdbbeaaFin
import Derived.Deep.Slices
namespace Go.Proofs.Ytnhobbdijdbbeaa
set_option maxRecDepth 100000
open Go.Eng Go.ChangeShapes Go.WideShapes Go.ChangeAt Go.RowKit

/-! ### Values of scalars -/

def scVal : Sc → Value
  | .int k n => .int k n
  | .bool b => .bool b
  | .str s => .string s

/-- A row of scalars is of these kinds. -/
def rowOk : List CK → List Sc → Prop
  | [], [] => True
  | .int k :: ks, .int k' n :: r => k' = k ∧ k.wrap n = n ∧ rowOk ks r
  | .bool :: ks, .bool _ :: r => rowOk ks r
  | .str :: ks, .str s :: r => s.size ≤ maxLen ∧ rowOk ks r
  | _, _ => False

theorem rowOk_len : ∀ {ks : List CK} {r : List Sc}, rowOk ks r → r.length = ks.length
  | [], [], _ => rfl
  | k :: ks, x :: r, h => by
    cases k <;> cases x <;> simp only [rowOk] at h
    · simp [rowOk_len h.2.2]
    · simp [rowOk_len h]
    · simp [rowOk_len h.2]
  | [], _ :: _, h => by simp [rowOk] at h
  | _ :: _, [], h => by rename_i k ks; cases k <;> simp [rowOk] at h

theorem rowOk_app : ∀ {ks : List CK} {r : List Sc} {ks' : List CK} {r' : List Sc}, rowOk ks r → rowOk ks' r' → rowOk (ks ++ ks') (r ++ r')
  | [], [], _, _, _, h' => h'
  | k :: ks, x :: r, ks', r', h, h' => by
    cases k <;> cases x <;> simp only [rowOk] at h
    · exact ⟨h.1, h.2.1, rowOk_app h.2.2 h'⟩
    · exact rowOk_app (ks := ks) h h'
    · exact ⟨h.1, rowOk_app h.2 h'⟩
  | [], _ :: _, _, _, h, _ => by simp [rowOk] at h
  | _ :: _, [], _, _, h, _ => by rename_i k ks; cases k <;> simp [rowOk] at h

theorem rowOk_get : ∀ {ks : List CK} {r : List Sc}, rowOk ks r → ∀ i, i < ks.length → ∃ s, r[i]? = some s ∧ ((∃ k n, ks[i]? = some (.int k) ∧ s = .int k n ∧ k.wrap n = n) ∨ (∃ b, ks[i]? = some .bool ∧ s = .bool b) ∨ (∃ t, ks[i]? = some .str ∧ s = .str t))
  | [], [], _, i, hi => by simp at hi
  | k :: ks, x :: r, h, 0, _ => by
    cases k <;> cases x <;> simp only [rowOk] at h
    · exact ⟨_, rfl, .inl ⟨_, _, rfl, by rw [h.1], h.2.1⟩⟩
    · exact ⟨_, rfl, .inr (.inl ⟨_, rfl, rfl⟩)⟩
    · exact ⟨_, rfl, .inr (.inr ⟨_, rfl, rfl⟩)⟩
  | k :: ks, x :: r, h, i + 1, hi => by
    have h' : rowOk ks r := by
      cases k <;> cases x <;> simp only [rowOk] at h
      · exact h.2.2
      · exact h
      · exact h.2
    obtain ⟨s, h1, h2⟩ := rowOk_get h' i (by simpa using hi)
    exact ⟨s, by simpa using h1, by simpa using h2⟩
  | [], _ :: _, h, _, _ => by simp [rowOk] at h
  | _ :: _, [], h, _, _ => by rename_i k ks _ _; cases k <;> simp [rowOk] at h

theorem rowOk_nil {r : List Sc} (h : rowOk [] r) : r = [] := by
  cases r with
  | nil => rfl
  | cons _ _ => simp [rowOk] at h
theorem rowOk_int {k : IntKind} {ks : List CK} {r : List Sc} (h : rowOk (.int k :: ks) r) : ∃ n r', r = .int k n :: r' ∧ k.wrap n = n ∧ rowOk ks r' := by
  match r, h with
  | .int _ n :: r', h => exact ⟨n, r', by rw [h.1], h.2.1, h.2.2⟩
theorem rowOk_bool {ks : List CK} {r : List Sc} (h : rowOk (.bool :: ks) r) : ∃ b r', r = .bool b :: r' ∧ rowOk ks r' := by
  match r, h with
  | .bool b :: r', h => exact ⟨b, r', rfl, h⟩
theorem rowOk_str {ks : List CK} {r : List Sc} (h : rowOk (.str :: ks) r) : ∃ s r', r = .str s :: r' ∧ s.size ≤ maxLen ∧ rowOk ks r' := by
  match r, h with
  | .str s :: r', h => exact ⟨s, r', rfl, h.1, h.2⟩

/-! ### Types of scalars -/

/-- The fields, one behind the other. -/
def fieldsOk (P : Program) (F : TypeId → Option (List CK)) : Nat → List Field → Option (List CK)
  | _, [] => some []
  | o, f :: fs => match F f.type with
    | none => none
    | some ks => if f.offset = o ∧ P.cellsOf f.type = ks.length then (fieldsOk P F (o + ks.length) fs).map (ks ++ ·) else none

def flat (P : Program) : Nat → TypeId → Option (List CK)
  | 0, _ => none
  | f + 1, t => match P.underlying t with
    | some (.int k) => some [.int k]
    | some .bool => some [.bool]
    | some .string => some [.str]
    | some (.array n e) => match flat P f e with
      | some ks => if P.cellsOf e = ks.length ∧ P.cellsOf t = n * ks.length then some (List.replicate n ks).flatten else none
      | none => none
    | some (.struct fs) => match fieldsOk P (flat P f) 0 fs.toList with
      | some ks => if P.cellsOf t = ks.length then some ks else none
      | none => none
    | _ => none

section
variable {P : Program} {H : Type} {enc : TypeId × Value → H} {w : World} {base : Nat} {sp : Nat → Bool} {held : Bool}

theorem parts_rows {c : Nat} {ks : List CK} (hc : ks.length = c) : ∀ (n : Nat) (cs : List Value), cs.length = n * c → (∀ i, i < n → ∃ r, rowOk ks r ∧ (cs.drop (i * c)).take c = r.map scVal) →
    ∃ r, rowOk (List.replicate n ks).flatten r ∧ cs = r.map scVal
  | 0, cs, hl, _ => by
    have : cs = [] := List.eq_nil_of_length_eq_zero (by simpa using hl)
    subst this
    exact ⟨[], trivial, rfl⟩
  | n + 1, cs, hl, h => by
    obtain ⟨r0, h0, e0⟩ := h 0 (Nat.succ_pos n)
    obtain ⟨r1, h1, e1⟩ := parts_rows hc n (cs.drop c) (by rw [List.length_drop, hl, Nat.succ_mul]; omega) (fun i hi => by
      obtain ⟨r, h2, e2⟩ := h (i + 1) (Nat.succ_lt_succ hi)
      refine ⟨r, h2, ?_⟩
      rw [List.drop_drop, ← e2]
      congr 2
      rw [Nat.succ_mul]; omega)
    refine ⟨r0 ++ r1, ?_, ?_⟩
    · rw [List.replicate_succ, List.flatten_cons]
      exact rowOk_app h0 h1
    · rw [List.map_append, ← e0, ← e1]
      simp

theorem fields_rows {F : TypeId → Option (List CK)} : ∀ (fs : List Field) (o : Nat) (ks : List CK) (cs : List Value), fieldsOk P F o fs = some ks → cs.length = o + ks.length →
    (∀ f ∈ fs, ∀ kf, F f.type = some kf → ∃ r, rowOk kf r ∧ (cs.drop f.offset).take (P.cellsOf f.type) = r.map scVal) → ∃ r, rowOk ks r ∧ cs.drop o = r.map scVal
  | [], o, ks, cs, hk, hl, _ => by
    simp only [fieldsOk, Option.some.injEq] at hk
    subst hk
    refine ⟨[], trivial, ?_⟩
    rw [List.drop_of_length_le (by simpa using Nat.le_of_eq hl)]; rfl
  | f :: fs, o, ks, cs, hk, hl, h => by
    simp only [fieldsOk] at hk
    split at hk
    · cases hk
    rename_i kf hf
    split at hk
    · rename_i hc
      simp only [Option.map_eq_some_iff] at hk
      obtain ⟨ks', hk', rfl⟩ := hk
      obtain ⟨r0, h0, e0⟩ := h f (by simp) kf hf
      obtain ⟨r1, h1, e1⟩ := fields_rows fs (o + kf.length) ks' cs hk' (by rw [hl, List.length_append]; omega) (fun g hg => h g (by simp [hg]))
      refine ⟨r0 ++ r1, rowOk_app h0 h1, ?_⟩
      rw [List.map_append, ← e0, ← e1, hc.1, hc.2]
      rw [← List.drop_drop, List.take_append_drop]
    · cases hk

/-- What is read by such a type. -/
theorem flat_row : ∀ (f : Nat) (t : TypeId) (ks : List CK), flat P f t = some ks → ∀ {fuel : Nat} {cs : List Value} {x : DataW H × List MemPlace}, DataW.trod enc P w base sp held fuel t cs = some x → ∃ r, rowOk ks r ∧ cs = r.map scVal
  | 0, _, _, h, _, _, _, _ => by cases h
  | f + 1, t, ks, h, fuel, cs, x, hd => by
    unfold flat at h
    split at h
    · rename_i k ht
      simp only [Option.some.injEq] at h; subst h
      obtain ⟨n, rfl, _, hw⟩ := DataW.trod_int ht hd
      exact ⟨[.int k n], ⟨rfl, by simpa [Lit.wf, wrap_eq_iff] using hw, trivial⟩, rfl⟩
    · rename_i ht
      simp only [Option.some.injEq] at h; subst h
      obtain ⟨b, rfl, _⟩ := DataW.trod_bool ht hd
      exact ⟨[.bool b], trivial, rfl⟩
    · rename_i ht
      simp only [Option.some.injEq] at h; subst h
      obtain ⟨s, rfl, _, hs⟩ := DataW.trod_string ht hd
      exact ⟨[.str s], ⟨hs, trivial⟩, rfl⟩
    · rename_i n e ht
      split at h
      · rename_i kf hf
        split at h
        · rename_i hc
          simp only [Option.some.injEq] at h; subst h
          obtain ⟨ys, m, _, _, hl, hn, hy⟩ := DataW.trod_array ht hd
          refine parts_rows hc.1.symm n cs (by rw [hl, hc.2, hc.1]) (fun i hi => ?_)
          have hi' := hy i hi
          rw [List.getElem?_eq_getElem (by omega)] at hi'
          exact flat_row f e kf hf hi'
        · cases h
      · cases h
    · rename_i fs ht
      split at h
      · rename_i kf hf
        split at h
        · rename_i hc
          simp only [Option.some.injEq] at h; subst h
          obtain ⟨ys, m, _, _, hl, hn, hy⟩ := DataW.trod_struct ht hd
          have := fields_rows (P := P) fs.toList 0 kf cs hf (by rw [hl, hc]; omega) (fun g hg kg hkg => by
            obtain ⟨i, hi⟩ := List.mem_iff_getElem?.1 hg
            have hi2 : fs[i]? = some g := by rw [← Array.getElem?_toList]; exact hi
            have hi' := hy i g hi2
            have hlt : i < ys.length := by
              rw [hn]
              exact (Array.getElem?_eq_some_iff.1 hi2).1
            rw [List.getElem?_eq_getElem hlt] at hi'
            exact flat_row f g.type kg hkg hi')
          simpa using this
        · cases h
      · cases h
    · cases h

end

/-! ### Parameters -/

/-- A parameter: a value of so many scalars (an array or a struct of them, or one); a slice of such. -/
inductive PS where
  | one (ks : List CK) (agg : Bool)
  | rows (ks : List CK)
  | ints (k : IntKind)

def cellOf : CK → Sc → SV
  | .int k, s => .int k (Sc.toInt (some s))
  | .bool, s => .bool (Sc.toBool (some s))
  | .str, s => .str (Sc.toStr (some s))

def cellsOf : List CK → List Sc → List SV
  | k :: ks, s :: r => cellOf k s :: cellsOf ks r
  | _, _ => []

def svOf (ks : List CK) (agg : Bool) (r : List Sc) : SV := match agg with
  | true => .agg (cellsOf ks r)
  | false => (cellsOf ks r).getD 0 .bad

theorem cellsOf_val {m : List Pl} : ∀ {ks : List CK} {r : List Sc}, rowOk ks r → SV.vals m (cellsOf ks r) = some (r.map scVal)
  | [], [], _ => rfl
  | k :: ks, x :: r, h => by
    cases k <;> cases x <;> simp only [rowOk] at h
    · obtain ⟨rfl, h2, h3⟩ := h
      simp [cellsOf, cellOf, Sc.toInt, SV.vals, SV.val, h2, cellsOf_val h3, scVal]
    · simp [cellsOf, cellOf, Sc.toBool, SV.vals, SV.val, cellsOf_val h, scVal]
    · simp [cellsOf, cellOf, Sc.toStr, SV.vals, SV.val, cellsOf_val h.2, scVal]
  | [], _ :: _, h => by simp [rowOk] at h
  | _ :: _, [], h => by rename_i k ks; cases k <;> simp [rowOk] at h

def isAggT (P : Program) (t : TypeId) : Bool := match P.underlying t with
  | some (.array _ _) => true
  | some (.struct _) => true
  | _ => false

def ckEqs : List CK → List CK → Bool
  | [], [] => true
  | .int k :: r, .int k' :: s => Nat.beq (kn k) (kn k') && ckEqs r s
  | .bool :: r, .bool :: s => ckEqs r s
  | .str :: r, .str :: s => ckEqs r s
  | _, _ => false

theorem ckEqs_eq : ∀ {a b : List CK}, ckEqs a b = true → a = b
  | [], [], _ => rfl
  | x :: r, y :: s, h => by
    cases x <;> cases y <;> simp only [ckEqs, Bool.and_eq_true] at h <;> try (cases h; done)
    · rw [kn_eq h.1, ckEqs_eq h.2]
    · rw [ckEqs_eq h]
    · rw [ckEqs_eq h]
  | [], _ :: _, h => by simp [ckEqs] at h
  | _ :: _, [], h => by rename_i x r; cases x <;> simp [ckEqs] at h

def rowsTy (P : Program) (ks : List CK) (t : TypeId) : Bool := match P.underlying t with
  | some (.slice e) => (match flat P 8 e with | some ks' => ckEqs ks' ks | none => false) && (Nat.beq (P.cellsOf e) ks.length && !(Nat.beq ks.length 0))
  | _ => false

def PS.ty (P : Program) : PS → TypeId → Bool
  | .one ks agg, t => (match flat P 8 t with | some ks' => ckEqs ks' ks | none => false) && (isAggT P t == agg) && (agg || Nat.beq ks.length 1)
  | .rows ks, t => rowsTy P ks t
  | .ints k, t => rowsTy P [.int k] t

def PS.tys (P : Program) : List PS → List TypeId → Bool
  | [], [] => true
  | k :: ks, t :: ts => k.ty P t && PS.tys P ks ts
  | _, _ => false

/-- The arguments: their values, and the blocks of the slices, from the n-th. -/
def PS.fits : Nat → List PS → List SV → List Blk → Prop
  | _, [], [], [] => True
  | n, .one ks agg :: r, s :: ss, bs => (∃ c, rowOk ks c ∧ s = svOf ks agg c) ∧ PS.fits n r ss bs
  | n, .rows ks :: r, s :: ss, b :: bs => (∃ L, (∀ c ∈ L, rowOk ks c) ∧ L.length ≤ maxLen ∧ s = .row n L.length ∧ b = ⟨.recs ks L, .ro⟩) ∧ PS.fits (n + 1) r ss bs
  | n, .ints k :: r, s :: ss, b :: bs => (∃ L : List Int, (∀ x ∈ L, k.wrap x = x) ∧ L.length ≤ maxLen ∧ s = .row n L.length ∧ b = ⟨.ints k L, .ro⟩) ∧ PS.fits (n + 1) r ss bs
  | _, _, _, _ => False

theorem fits_nil {n : Nat} {ss : List SV} {bs : List Blk} (h : PS.fits n [] ss bs) : ss = [] ∧ bs = [] := by
  cases ss with
  | nil =>
    cases bs with
    | nil => exact ⟨rfl, rfl⟩
    | cons _ _ => exact h.elim
  | cons _ _ => exact h.elim
theorem fits_one {n : Nat} {ks : List CK} {agg : Bool} {r : List PS} {ss : List SV} {bs : List Blk} (h : PS.fits n (.one ks agg :: r) ss bs) : ∃ c ss', ss = svOf ks agg c :: ss' ∧ rowOk ks c ∧ PS.fits n r ss' bs := by
  cases ss with
  | nil => exact h.elim
  | cons s ss' =>
    obtain ⟨⟨c, h1, rfl⟩, h2⟩ := h
    exact ⟨c, ss', rfl, h1, h2⟩
theorem fits_rows {n : Nat} {ks : List CK} {r : List PS} {ss : List SV} {bs : List Blk} (h : PS.fits n (.rows ks :: r) ss bs) : ∃ L ss' bs', ss = .row n L.length :: ss' ∧ bs = ⟨.recs ks L, .ro⟩ :: bs' ∧ (∀ c ∈ L, rowOk ks c) ∧ L.length ≤ maxLen ∧ PS.fits (n + 1) r ss' bs' := by
  cases ss with
  | nil => exact h.elim
  | cons s ss' =>
    cases bs with
    | nil => exact h.elim
    | cons b bs' =>
      obtain ⟨⟨L, h1, h2, rfl, rfl⟩, h3⟩ := h
      exact ⟨L, ss', bs', rfl, rfl, h1, h2, h3⟩

theorem fits_ints {n : Nat} {k : IntKind} {r : List PS} {ss : List SV} {bs : List Blk} (h : PS.fits n (.ints k :: r) ss bs) : ∃ L ss' bs', ss = .row n L.length :: ss' ∧ bs = ⟨.ints k L, .ro⟩ :: bs' ∧ (∀ x ∈ L, k.wrap x = x) ∧ L.length ≤ maxLen ∧ PS.fits (n + 1) r ss' bs' := by
  cases ss with
  | nil => exact h.elim
  | cons s ss' =>
    cases bs with
    | nil => exact h.elim
    | cons b bs' =>
      obtain ⟨⟨L, h1, h2, rfl, rfl⟩, h3⟩ := h
      exact ⟨L, ss', bs', rfl, rfl, h1, h2, h3⟩

theorem trod_one {P : Program} {H : Type} {enc : TypeId × Value → H} {w : World} {base : Nat} {sp : Nat → Bool} {held : Bool} {r : Reach} {b0 : Nat} {t : TypeId} {v : Value} {d : DataW H} {ps : List MemPlace} {ks : List CK} {agg : Bool}
    (hk : PS.ty P (.one ks agg) t = true) (hval : Value.okWide P w r b0 t v) (hd : DataW.Trod enc P w base sp held t v d ps) : ∃ c, rowOk ks c ∧ ∀ m : List Pl, (svOf ks agg c).val m = some v := by
  simp only [PS.ty, Bool.and_eq_true] at hk
  obtain ⟨⟨h1, h2⟩, h3⟩ := hk
  split at h1
  · rename_i ks' hf
    have h1 := ckEqs_eq h1
    subst h1
    obtain ⟨fuel, hf'⟩ := hd
    obtain ⟨c, hc, hcs⟩ := flat_row 8 t ks' hf hf'
    refine ⟨c, hc, fun m => ?_⟩
    have hag : isAggT P t = agg := by simpa using h2
    cases agg with
    | true =>
      have hv : ∃ xs : Array Value, v = .agg xs := by
        unfold isAggT at hag
        split at hag
        · rename_i ht
          simp only [Value.okWide, ht] at hval
          obtain ⟨cs, h1, _⟩ := hval
          exact ⟨cs, h1⟩
        · rename_i ht
          simp only [Value.okWide, ht] at hval
          obtain ⟨cs, h1, _⟩ := hval
          exact ⟨cs, h1⟩
        · cases hag
      obtain ⟨xs, rfl⟩ := hv
      have e : xs.toList = c.map scVal := by simpa [Value.cells] using hcs
      show (SV.vals m (cellsOf ks' c)).map (fun vs => Value.agg vs.toArray) = some (.agg xs)
      rw [cellsOf_val hc, ← e]
      simp
    | false =>
      have hd' : DataW.Trod enc P w base sp held t v d ps := ⟨fuel, hf'⟩
      unfold flat at hf
      unfold isAggT at hag
      split at hf
      · rename_i k ht
        simp only [Option.some.injEq] at hf; subst hf
        obtain ⟨n, rfl, _, _, hw⟩ := open_int ht hval hd'
        match c, hc, hcs with
        | [.int k' n'], hc, hcs =>
          simp [Value.cells, scVal] at hcs
          obtain ⟨rfl, rfl⟩ := hcs
          show (SV.int k n).val m = _
          simp [SV.val, hc.2.1]
      · rename_i ht
        simp only [Option.some.injEq] at hf; subst hf
        obtain ⟨n, rfl, _, _⟩ := open_bool ht hval hd'
        match c, hc, hcs with
        | [.bool b'], hc, hcs =>
          simp [Value.cells, scVal] at hcs
          subst hcs
          rfl
      · rename_i ht
        simp only [Option.some.injEq] at hf; subst hf
        obtain ⟨n, rfl, _, _, hl⟩ := Go.ChangeMaps.open_string ht hval hd'
        match c, hc, hcs with
        | [.str b'], hc, hcs =>
          simp [Value.cells, scVal] at hcs
          subst hcs
          rfl
      · rename_i ht
        rw [ht] at hag
        cases hag
      · rename_i ht
        rw [ht] at hag
        cases hag
      · cases hf
  · cases h1

theorem trod_rows {P : Program} {H : Type} {enc : TypeId × Value → H} {w : World} {r : Reach} {b0 : Nat} {t : TypeId} {v : Value} {d : DataW H} {ps : List MemPlace} {ks : List CK}
    (hk : rowsTy P ks t = true) (hval : Value.okWide P w r b0 t v) (hd : DataW.Trod enc P w 0 (fun _ => true) true t v d ps) :
    ∃ (L : List (List Sc)) (p : Pl), (∀ c ∈ L, rowOk ks c) ∧ L.length ≤ maxLen ∧ p.row L.length = some v ∧ ∀ m, Eng.Holds m w p ⟨.recs ks L, .ro⟩ := by
  unfold rowsTy at hk
  split at hk
  · rename_i e ht
    simp only [Bool.and_eq_true] at hk
    obtain ⟨h1, h2, h3⟩ := hk
    split at h1
    · rename_i ks' hf
      have h1 := ckEqs_eq h1
      subst h1
      have hce : P.cellsOf e = ks'.length := by simpa using h2
      have hpos : 0 < ks'.length := by
        rcases Nat.eq_zero_or_pos ks'.length with h0 | h0
        · rw [h0] at h3; simp at h3
        · exact h0
      obtain ⟨fuel, hf'⟩ := hd
      obtain ⟨va, vl, vc, rfl⟩ := okWide_slice ht hval
      rcases Go.Deep.open_slice ht hf' with ⟨h0, _⟩ | ⟨a, len, cap, mm, n, D, Pl', hcs, _, hlc, hcm, hmm, _, hx⟩
      · simp only [Value.cells, List.cons.injEq, Value.slice.injEq, and_true] at h0
        obtain ⟨rfl, rfl, rfl⟩ := h0
        exact ⟨[], ⟨0, 0, 0, true⟩, by simp, Nat.zero_le _, rfl, fun m => ⟨trivial, fun _ => ⟨by simp [Cs.size], rfl, by simp⟩, fun h => by simp at h, fun i hi => by simp [Cs.size] at hi, fun h => by simp [BK.wr] at h, fun h => by simp [BK.wr] at h, fun es h => by simp at h, fun es h => by simp at h⟩⟩
      · simp only [Value.cells, List.cons.injEq, Value.slice.injEq, and_true] at hcs
        obtain ⟨rfl, rfl, rfl⟩ := hcs
        simp only [if_true] at hmm
        subst hmm
        have hspot : a.spot = none ∧ ∃ x, w.shape? a.block = some x := by
          simp only [Value.okWide, ht, Cell.okWide, Cell.ok] at hval
          obtain ⟨_, _, _, hs, row, cells, hsh, _⟩ := hval
          exact ⟨hs, _, hsh⟩
        obtain ⟨ab, ao, asp⟩ := a
        simp only at hspot
        obtain ⟨rfl, sx, hsh⟩ := hspot
        have hblk : ab < w.heap.size := by
          rcases Nat.lt_or_ge ab w.heap.size with h | h
          · exact h
          · unfold World.shape? at hsh
            rw [Array.getElem?_eq_none h] at hsh
            simp at hsh
        have each : ∀ i, i < mm → ∃ c, rowOk ks' c ∧ w.cells? 0 ((⟨ab, ao, none⟩ : Addr).add (i * ks'.length)) ks'.length = some (c.map scVal) := by
          intro i hi
          obtain ⟨cs', g1, g2⟩ := hx i hi
          obtain ⟨c, hc, rfl⟩ := flat_row 8 e ks' hf g2
          exact ⟨c, hc, by rw [← hce]; exact g1⟩
        obtain ⟨C, hC⟩ := Go.Deep.choose_lt (α := List Sc) each
        have hLl : ((List.range vl).map C).length = vl := by simp
        refine ⟨(List.range vl).map C, ⟨ab, ao, mm, false⟩, ?_, by rw [hLl]; exact Nat.le_trans hlc hcm, ?_, fun m => ?_⟩
        · intro c hc
          obtain ⟨i, hi, rfl⟩ := List.mem_map.1 hc
          exact (hC i (Nat.lt_of_lt_of_le (List.mem_range.1 hi) hlc)).1
        · rw [hLl]
          simp [Pl.row, hlc]
        · refine ⟨trivial, fun h => by simp at h, fun _ => hblk, fun i hi => ?_, fun h => by simp [BK.wr] at h, fun h => by simp [BK.wr] at h, fun es h => by simp at h, fun es h => by simp at h⟩
          simp only [Cs.size, hLl] at hi
          have hj : i / ks'.length < vl := (Nat.div_lt_iff_lt_mul hpos).2 hi
          have hr : i % ks'.length < ks'.length := Nat.mod_lt _ hpos
          obtain ⟨hc, hcell⟩ := hC (i / ks'.length) (Nat.lt_of_lt_of_le hj hlc)
          obtain ⟨s, hs, hkind⟩ := rowOk_get hc (i % ks'.length) hr
          have hrow : ((List.range vl).map C)[i / ks'.length]? = some (C (i / ks'.length)) := by
            rw [List.getElem?_map, List.getElem?_range hj]; rfl
          have hcv := (World.cells?_some hcell).2.2 (i % ks'.length) hr
          have hadd : ((⟨ab, ao, none⟩ : Addr).add (i / ks'.length * ks'.length)).add (i % ks'.length) = ⟨ab, ao + i, none⟩ := by
            rw [Go.Deep.add_add]
            have hdm : i / ks'.length * ks'.length + i % ks'.length = i := by
              have := Nat.div_add_mod i ks'.length
              rw [Nat.mul_comm] at this; exact this
            rw [hdm]
            unfold Addr.add
            split
            · rename_i h0; subst h0; rfl
            · rfl
          rw [hadd] at hcv
          have hsv : (List.map scVal (C (i / ks'.length)))[i % ks'.length]? = some (scVal s) := by rw [List.getElem?_map, hs]; rfl
          refine ⟨scVal s, ?_, ?_, by rw [hcv, hsv]⟩
          · show (cellK ((List.range vl).map C) (i / ks'.length) (i % ks'.length) ks'[i % ks'.length]?).val m = _
            have hg : rget ((List.range vl).map C) (i / ks'.length) (i % ks'.length) = some s := by
              unfold rget; rw [hrow]; exact hs
            rcases hkind with ⟨k, n', h4, rfl, h5⟩ | ⟨b, h4, rfl⟩ | ⟨u, h4, rfl⟩ <;> rw [h4] <;> simp only [cellK, rint, rbool, rstr, hg, Sc.toInt, Sc.toBool, Sc.toStr, SV.val, scVal]
            · simp [h5]
          · rcases hkind with ⟨k, n', _, rfl, _⟩ | ⟨b, _, rfl⟩ | ⟨u, _, rfl⟩ <;> rfl
    · cases h1
  · cases hk

theorem tie_push {m : List Pl} {h : List Blk} {w : World} (hT : HTie m h w) (hro : ∀ b ∈ h, b.k.wr = false) {p : Pl} {c : Cs} (hh : ∀ m, Eng.Holds m w p ⟨c, .ro⟩) : HTie (m ++ [p]) (h ++ [⟨c, .ro⟩]) w := by
    refine ⟨by simp [hT.len], fun i q b hq hb hd => ?_, fun i j q q' b c' hij hq hq' hb hc hbd hcd hqn hqn' hw => ?_⟩
    · rcases Nat.lt_or_ge i h.length with hi | hi
      · rw [List.getElem?_append_left hi] at hb
        rw [List.getElem?_append_left (by rw [hT.len]; exact hi)] at hq
        have g := hT.holds i q b hq hb hd
        exact ⟨g.wf, g.nl, g.lt, fun i hi => by
          obtain ⟨x, g1, g2, g3⟩ := g.cells i hi
          exact ⟨x, SV.val_mono (List.prefix_append _ _) _ g1, g2, g3⟩, g.wr, g.z, g.fu, g.sp⟩
      · have hi' : i = h.length := by
          have := (List.getElem?_eq_some_iff.1 hb).1
          simp at this; omega
        subst hi'
        have e1 : (h ++ [(⟨c, .ro⟩ : Blk)])[h.length]? = some ⟨c, .ro⟩ := by simp
        have e2 : (m ++ [p])[h.length]? = some p := by rw [← hT.len]; simp
        rw [e1] at hb; rw [e2] at hq
        cases hb; cases hq
        exact hh _
    · exfalso
      have key : ∀ b ∈ h ++ [(⟨c, .ro⟩ : Blk)], b.k.wr = false := by
        intro b hb
        rcases List.mem_append.1 hb with hb | hb
        · exact hro b hb
        · simp at hb; subst hb; rfl
      rw [key b (List.mem_of_getElem? hb), key c' (List.mem_of_getElem? hc)] at hw
      rcases hw with hw | hw <;> cases hw

theorem trod_ints {P : Program} {H : Type} {enc : TypeId × Value → H} {w : World} {r : Reach} {b0 : Nat} {t : TypeId} {v : Value} {d : DataW H} {ps : List MemPlace} {k : IntKind}
    (hk : rowsTy P [.int k] t = true) (hval : Value.okWide P w r b0 t v) (hd : DataW.Trod enc P w 0 (fun _ => true) true t v d ps) :
    ∃ (L : List Int) (p : Pl), (∀ x ∈ L, k.wrap x = x) ∧ L.length ≤ maxLen ∧ p.row L.length = some v ∧ ∀ m, Eng.Holds m w p ⟨.ints k L, .ro⟩ := by
  obtain ⟨R, p, h1, h2, h3, h4⟩ := trod_rows hk hval hd
  have hl : (R.map fun c => Sc.toInt c[0]?).length = R.length := by simp
  refine ⟨R.map fun c => Sc.toInt c[0]?, p, ?_, by rw [hl]; exact h2, by rw [hl]; exact h3, fun m => ?_⟩
  · intro x hx
    obtain ⟨c, hc, rfl⟩ := List.mem_map.1 hx
    obtain ⟨n, r', e, e2, _⟩ := rowOk_int (h1 c hc)
    subst e
    exact e2
  · have H := h4 m
    have hs : (Cs.recs [.int k] R).size = (Cs.ints k (R.map fun c => Sc.toInt c[0]?)).size := by simp [Cs.size]
    refine ⟨trivial, fun e => by rw [← hs]; exact H.nl e, H.lt, fun i hi => ?_, fun e => by simp [BK.wr] at e, fun e => by simp [BK.wr] at e, fun es e => by simp at e, fun es e => by simp at e⟩
    simp only at hi
    rw [← hs] at hi
    obtain ⟨x, x1, x2, x3⟩ := H.cells i hi
    refine ⟨x, ?_, x2, x3⟩
    rw [← x1]
    simp only [Cs.get, List.length_singleton, Nat.div_one, Nat.mod_one, List.getElem?_cons_zero, cellK, rint, rget]
    congr 2
    simp only [List.getD_eq_getElem?_getD, List.getElem?_map]
    cases R[i]? <;> rfl

theorem open_allS {P : Program} {H : Type} {enc : TypeId × Value → H} {w : World} {r : Reach} {b0 : Nat} : ∀ {ks : List PS} {ts : List TypeId} {vs : List Value} {ds : List (DataW H)} {ps : List MemPlace} {m : List Pl} {h : List Blk},
    PS.tys P ks ts = true → (∀ (j : Nat) t v, ts[j]? = some t → vs[j]? = some v → Value.okWide P w r b0 t v) → DataW.TrodAll enc P w 0 (fun _ => true) true ts vs ds ps → HTie m h w → (∀ b ∈ h, b.k.wr = false) →
    ∃ ss bs mm, SV.vals (m ++ mm) ss = some vs ∧ PS.fits m.length ks ss bs ∧ HTie (m ++ mm) (h ++ bs) w ∧ (∀ b ∈ h ++ bs, b.k.wr = false)
  | [], [], vs, ds, ps, m, h, _, _, hA, hT, hro => by
    obtain ⟨rfl, rfl, rfl⟩ := trodAll_nil hA
    exact ⟨[], [], [], rfl, trivial, by simpa using hT, by simpa using hro⟩
  | .one kk agg :: ks, t :: ts, vs, ds, ps, m, h, hk, hval, hA, hT, hro => by
    simp only [PS.tys, Bool.and_eq_true] at hk
    obtain ⟨v0, vs0, d0, ds0, p0, q0, rfl, rfl, rfl, h0, r0⟩ := trodAll_cons hA
    obtain ⟨c, hc, hsv⟩ := trod_one hk.1 (hval 0 t v0 rfl rfl) h0
    obtain ⟨ss, bs, mm, h1, h2, h3, h4⟩ := open_allS hk.2 (fun j t v ht hv => hval (j + 1) t v (by simpa using ht) (by simpa using hv)) r0 hT hro
    exact ⟨_ :: ss, bs, mm, by simp [SV.vals, hsv, h1], ⟨⟨c, hc, rfl⟩, h2⟩, h3, h4⟩
  | .rows kk :: ks, t :: ts, vs, ds, ps, m, h, hk, hval, hA, hT, hro => by
    simp only [PS.tys, Bool.and_eq_true] at hk
    obtain ⟨v0, vs0, d0, ds0, p0, q0, rfl, rfl, rfl, h0, r0⟩ := trodAll_cons hA
    obtain ⟨L, p, hL, hLm, hv, hh⟩ := trod_rows hk.1 (hval 0 t v0 rfl rfl) h0
    have hT2 := tie_push hT hro (c := .recs kk L) hh
    obtain ⟨ss, bs, mm, h1, h2, h3, h4⟩ := open_allS (m := m ++ [p]) (h := h ++ [⟨.recs kk L, .ro⟩]) hk.2 (fun j t v ht hv => hval (j + 1) t v (by simpa using ht) (by simpa using hv)) r0 hT2 (by
      intro b hb
      rcases List.mem_append.1 hb with hb | hb
      · exact hro b hb
      · simp at hb; subst hb; rfl)
    refine ⟨.row m.length L.length :: ss, ⟨.recs kk L, .ro⟩ :: bs, p :: mm, ?_, ⟨⟨L, hL, hLm, rfl, rfl⟩, by simpa using h2⟩, by simpa using h3, by simpa using h4⟩
    have e0 : (SV.row m.length L.length).val (m ++ p :: mm) = some v0 := by
      simp only [SV.val]
      rw [List.getElem?_append_right (Nat.le_refl _), Nat.sub_self]
      exact hv
    have e1 : SV.vals (m ++ p :: mm) ss = some vs0 := by simpa using h1
    simp [SV.vals, e0, e1]
  | .ints kk :: ks, t :: ts, vs, ds, ps, m, h, hk, hval, hA, hT, hro => by
    simp only [PS.tys, Bool.and_eq_true] at hk
    obtain ⟨v0, vs0, d0, ds0, p0, q0, rfl, rfl, rfl, h0, r0⟩ := trodAll_cons hA
    obtain ⟨L, p, hL, hLm, hv, hh⟩ := trod_ints hk.1 (hval 0 t v0 rfl rfl) h0
    have hT2 := tie_push hT hro (c := .ints kk L) hh
    obtain ⟨ss, bs, mm, h1, h2, h3, h4⟩ := open_allS (m := m ++ [p]) (h := h ++ [⟨.ints kk L, .ro⟩]) hk.2 (fun j t v ht hv => hval (j + 1) t v (by simpa using ht) (by simpa using hv)) r0 hT2 (by
      intro b hb
      rcases List.mem_append.1 hb with hb | hb
      · exact hro b hb
      · simp at hb; subst hb; rfl)
    refine ⟨.row m.length L.length :: ss, ⟨.ints kk L, .ro⟩ :: bs, p :: mm, ?_, ⟨⟨L, hL, hLm, rfl, rfl⟩, by simpa using h2⟩, by simpa using h3, by simpa using h4⟩
    have e0 : (SV.row m.length L.length).val (m ++ p :: mm) = some v0 := by
      simp only [SV.val]
      rw [List.getElem?_append_right (Nat.le_refl _), Nat.sub_self]
      exact hv
    have e1 : SV.vals (m ++ p :: mm) ss = some vs0 := by simpa using h1
    simp [SV.vals, e0, e1]
  | [], _ :: _, _, _, _, _, _, h, _, _, _, _ => by simp [PS.tys] at h
  | _ :: _, [], _, _, _, _, _, h, _, _, _, _ => by simp [PS.tys] at h

/-- What a function hands back that starts with blocks that are read alone. -/
theorem run_ofS {P : Program} {f : FuncId} {fn : Func} {c : Code} (hf : P.funcs[f]? = some fn) (hb : fn.body = some c) {us : List Value} {v : SV} {C : Cx} {args' : List SV} {m : List Pl} {h0 : List Blk} (G : Eng.Good P C m.length) (hc : codeOk C fn.ntmps c = true)
    (hv1 : SV.vals m args' = some us) (hn : args'.length ≤ fn.ntmps) {w : World} (H : HTie m h0 w) (hgl : GOk C.gl m) (hro : ∀ b ∈ h0, b.k.wr = false) (hc0 : v.idsLt 0 = true)
    (hfun : afun C fn args' h0 (FinH m.length v [] [] (uniR m.length v [] []))) {u : Value} (hu : v.val [] = some u) :
    Calls P f us.toArray w fun e w' => e = .returned u ∧ Below w.heap.size w w' := by
  have hcall := calls_of_afun G hf hb hc H hgl rfl (may := fun _ => False) (from_ := fun _ => True) (fun i p b _ hh hw _ => by
      have := hro b (List.mem_of_getElem? hh)
      rw [this] at hw; cases hw) (fun _ _ _ _ _ _ _ => trivial) hv1 hn
    (R := fun r hT => distB (idents 0 m.length ++ uniR m.length v [] [] r hT) (actN m.length [] ++ []) = true ∧ (v.sb (idents 0 m.length ++ uniR m.length v [] [] r hT) r ∧ sbH (idents 0 m.length ++ uniR m.length v [] [] r hT) (idents 0 m.length ++ uniR m.length v [] [] r hT) (actN m.length [] ++ []) hT)) hfun
  refine hcall.mono ?_
  rintro e w' ⟨r, u', mf, S, a, ⟨_, h2, _⟩, h3, he, hg, T⟩
  have : v.val [] = some u' := by
    have := SV.sb_val (ρ := []) (m := mf) v r (SV.sb_any v r hc0 h2) h3
    simpa using this
  rw [hu] at this
  cases this
  exact ⟨he, ⟨T.os, T.tape, T.output, T.grown, fun b hb => T.kept b hb (by simp)⟩⟩

theorem GOk.app {gl : List Nat} {m : List Pl} (h : GOk gl m) (mm : List Pl) : GOk gl (m ++ mm) := fun i g hg => by
  obtain ⟨p, h1, h2⟩ := h i g hg
  exact ⟨p, by rw [List.getElem?_append_left (List.getElem?_eq_some_iff.1 h1).1]; exact h1, h2⟩

/-- A law's walk. -/
theorem walk_genS {P : Program} {f : FuncId} {fn : Func} {c : Code} (hf : P.funcs[f]? = some fn) (hb : fn.body = some c) (ks : List PS) {ts : List TypeId} (hp : fn.params.toList = ts) (hk : PS.tys P ks ts = true) {m0 : List Pl} {h0 : List Blk} {gl : List Nat}
    (h : ∀ ss bs, PS.fits m0.length ks ss bs → ∃ C, Eng.Good P C (m0.length + bs.length) ∧ C.gl = gl ∧ codeOk C fn.ntmps c = true ∧ ss.length ≤ fn.ntmps ∧ Hides (afun C fn ss (h0 ++ bs) (FinH (m0.length + bs.length) (.bool true) [] [] (uniR (m0.length + bs.length) (.bool true) [] []))))
    (hro : ∀ b ∈ h0, b.k.wr = false) (hg : GOk gl m0)
    (w : World) (base : Nat) (args : Array Value) {H : Type} {enc : TypeId × Value → H} (ds : List (DataW H)) (ps : List MemPlace)
    (hval : ∀ (j : Nat) t v, fn.params[j]? = some t → args[j]? = some v → Value.okWide P w .any base t v) (hA : DataW.TrodAll enc P w 0 (fun _ => true) true fn.params.toList args.toList ds ps) (hT : HTie m0 h0 w) :
    Calls P f args w fun e w' => e = .returned (.bool true) ∧ Below w.heap.size w w' := by
  rw [hp] at hA
  obtain ⟨ss, bs, mm, h1, h2, h3, h4⟩ := open_allS hk (fun j t v ht hv => hval j t v (by rw [← Array.getElem?_toList, hp]; exact ht) (by rw [← Array.getElem?_toList]; exact hv)) hA hT hro
  obtain ⟨C, hG, hgl, hco, hn, ⟨hfun⟩⟩ := h ss bs h2
  have hlen : m0.length + bs.length = (m0 ++ mm).length := by
    have e1 := h3.len
    have e2 := hT.len
    simp only [List.length_append] at e1 ⊢
    omega
  rw [hlen] at hG hfun
  have := run_ofS (m := m0 ++ mm) hf hb hG hco h1 hn h3 (by rw [hgl]; exact GOk.app hg mm) h4 (v := .bool true) rfl hfun (u := .bool true) rfl
  simpa using this

end Go.Proofs.Ytnhobbdijdbbeaa
