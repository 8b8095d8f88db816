/- The value at 0 of a polynomial, from its values at as many places as it has coefficients; over the remainders by a number. It has no conditions. -/
import Derived.Test.YtnhobbdijdbbeaaNum8
namespace Go.Eng
set_option linter.unusedSimpArgs false
set_option linter.unusedVariables false
set_option linter.unusedSectionVars false

section
variable {n : Nat} [NeZero n]

/-- A polynomial by its coefficients, the first one first. -/
def ev : List (Fin n) → Fin n → Fin n
  | [], _ => 0
  | c :: r, x => c + x * ev r x

def up : List (Fin n) → Fin n → Fin n
  | [], _ => 1
  | y :: r, x => if y = x then up r x else y * up r x
def down : List (Fin n) → Fin n → Fin n
  | [], _ => 1
  | y :: r, x => if y = x then down r x else (y - x) * down r x

variable (i : Fin n → Fin n)

/-- The weight of a place. -/
def wt (l : List (Fin n)) (x : Fin n) : Fin n := up l x * i (down l x)

def sm (f : Fin n → Fin n) : List (Fin n) → Fin n
  | [] => 0
  | x :: r => f x + sm f r

def nodup : List (Fin n) → Prop
  | [] => True
  | x :: r => (∀ y ∈ r, x ≠ y) ∧ nodup r

theorem sm_congr {f g : Fin n → Fin n} : ∀ {l : List (Fin n)}, (∀ x ∈ l, f x = g x) → sm f l = sm g l
  | [], _ => rfl
  | x :: r, h => by
    simp only [sm]
    rw [h x (by simp), sm_congr (fun y hy => h y (by simp [hy]))]

theorem sm_mul (a : Fin n) (f : Fin n → Fin n) : ∀ l : List (Fin n), sm (fun x => a * f x) l = a * sm f l
  | [] => by simp only [sm]; grind
  | x :: r => by
    simp only [sm]
    rw [sm_mul a f r]
    grind

theorem sm_add (f g : Fin n → Fin n) : ∀ l : List (Fin n), sm (fun x => f x + g x) l = sm f l + sm g l
  | [] => by simp only [sm]; grind
  | x :: r => by
    simp only [sm]
    rw [sm_add f g r]
    grind

variable {i} (hi : ∀ a : Fin n, a ≠ 0 → a * i a = 1) (h1 : (1 : Fin n) ≠ 0)
include hi h1

theorem i_mul {a b : Fin n} (ha : a ≠ 0) (hb : b ≠ 0) : a * b ≠ 0 ∧ i (a * b) = i a * i b := by
  have e1 := hi a ha
  have e2 := hi b hb
  have hab : a * b ≠ 0 := by
    intro h
    apply h1
    grind
  have e3 := hi (a * b) hab
  refine ⟨hab, ?_⟩
  grind

theorem down_ne : ∀ (l : List (Fin n)) (x : Fin n), down l x ≠ 0
  | [], x => h1
  | y :: r, x => by
    simp only [down]
    split
    · exact down_ne r x
    · rename_i h
      exact (i_mul hi h1 (fun e => h (by grind)) (down_ne r x)).1

/-- A place more. -/
theorem wt_cons (a : Fin n) (r : List (Fin n)) (x : Fin n) (h : a ≠ x) : wt i (a :: r) x * (x - a) = (0 - a) * wt i r x := by
  unfold wt
  simp only [up, down, if_neg h]
  have hax : a - x ≠ 0 := fun e => h (by grind)
  obtain ⟨_, e⟩ := i_mul hi h1 hax (down_ne hi h1 r x)
  rw [e]
  have e2 := hi (a - x) hax
  grind

theorem wt_self (a : Fin n) (r : List (Fin n)) : wt i (a :: r) a = wt i r a := by
  unfold wt
  simp only [up, down, if_true]

theorem sm_wt : ∀ (k : Nat) (l : List (Fin n)), l.length = k → l ≠ [] → nodup l → sm (wt i l) l = 1
  | 0, l, hk, hl, _ => absurd (List.eq_nil_of_length_eq_zero hk) hl
  | 1, [a], _, _, _ => by
    simp only [sm, wt, up, down, if_true]
    have := hi 1 h1
    grind
  | k + 2, a :: b :: r, hk, _, hn => by
    have hk' : r.length = k := by simpa using hk
    obtain ⟨ha, hb, hr⟩ := hn
    have hab : a ≠ b := ha b (by simp)
    have har : ∀ y ∈ r, a ≠ y := fun y hy => ha y (by simp [hy])
    have ih1 := sm_wt (k + 1) (a :: r) (by simp [hk']) (by simp) ⟨har, hr⟩
    have ih2 := sm_wt (k + 1) (b :: r) (by simp [hk']) (by simp) ⟨hb, hr⟩
    have hba : b - a ≠ 0 := fun e => hab (by grind)
    have e0 := hi (b - a) hba
    -- every weight by the two lists
    have key : ∀ x ∈ r, (b - a) * wt i (a :: b :: r) x = b * wt i (a :: r) x + (0 - a) * wt i (b :: r) x := by
      intro x hx
      have hax := har x hx
      have hbx := hb x hx
      have hax' : a - x ≠ 0 := fun e => hax (by grind)
      have hbx' : b - x ≠ 0 := fun e => hbx (by grind)
      have hd := down_ne hi h1 r x
      obtain ⟨z1, z2⟩ := i_mul hi h1 hbx' hd
      obtain ⟨_, z3⟩ := i_mul hi h1 hax' z1
      obtain ⟨_, z4⟩ := i_mul hi h1 hax' hd
      unfold wt
      simp only [up, down, if_neg hax, if_neg hbx]
      rw [z3, z2, z4]
      have e1 := hi (a - x) hax'
      have e2 := hi (b - x) hbx'
      grind
    have ka : (b - a) * wt i (a :: b :: r) a = b * wt i (a :: r) a := by
      unfold wt
      simp only [up, down, if_true, if_neg (fun e : b = a => hab e.symm)]
      obtain ⟨_, z⟩ := i_mul hi h1 hba (down_ne hi h1 r a)
      rw [z]
      grind
    have kb : (b - a) * wt i (a :: b :: r) b = (0 - a) * wt i (b :: r) b := by
      have hab' : a - b ≠ 0 := fun e => hab (by grind)
      unfold wt
      simp only [up, down, if_true, if_neg hab]
      obtain ⟨_, z⟩ := i_mul hi h1 hab' (down_ne hi h1 r b)
      rw [z]
      have e1 := hi (a - b) hab'
      grind
    have total : (b - a) * sm (wt i (a :: b :: r)) (a :: b :: r) = b * sm (wt i (a :: r)) (a :: r) + (0 - a) * sm (wt i (b :: r)) (b :: r) := by
      simp only [sm]
      have e1 : (b - a) * sm (wt i (a :: b :: r)) r = b * sm (wt i (a :: r)) r + (0 - a) * sm (wt i (b :: r)) r := by
        rw [← sm_mul, ← sm_mul, ← sm_mul, ← sm_add]
        exact sm_congr key
      grind
    rw [ih1, ih2] at total
    grind
  | _ + 1, [], hk, _, _ => by simp at hk
  | k + 2, [_], hk, _, _ => by simp at hk
  | 1, _ :: _ :: _, hk, _, _ => by simp at hk

omit hi h1

def addl : List (Fin n) → List (Fin n) → List (Fin n)
  | [], r => r
  | x :: l, [] => x :: l
  | x :: l, y :: r => (x + y) :: addl l r
theorem ev_addl : ∀ (l r : List (Fin n)) (x : Fin n), ev (addl l r) x = ev l x + ev r x
  | [], r, x => by simp only [addl, ev]; grind
  | a :: l, [], x => by simp only [addl, ev]; grind
  | a :: l, b :: r, x => by
    simp only [addl, ev]
    rw [ev_addl l r x]
    grind
theorem addl_len : ∀ (l r : List (Fin n)), (addl l r).length = max l.length r.length
  | [], r => by simp [addl]
  | a :: l, [] => by simp [addl]
  | a :: l, b :: r => by simp only [addl, List.length_cons]; rw [addl_len l r]; omega
theorem ev_scale (a : Fin n) : ∀ (l : List (Fin n)) (x : Fin n), ev (l.map (a * ·)) x = a * ev l x
  | [], x => by simp only [List.map_nil, ev]; grind
  | b :: l, x => by
    simp only [List.map_cons, ev]
    rw [ev_scale a l x]
    grind

/-- A polynomial less its value at a place, by what is less that place. -/
def dv (a : Fin n) : List (Fin n) → List (Fin n)
  | [] => []
  | _ :: r => addl r ((dv a r).map (a * ·))
theorem dv_len (a : Fin n) : ∀ c : List (Fin n), (dv a c).length = c.length - 1
  | [] => rfl
  | c :: r => by
    simp only [dv, addl_len, List.length_map, dv_len a r, List.length_cons]
    omega
theorem ev_dv (a : Fin n) : ∀ (c : List (Fin n)) (x : Fin n), ev c x = ev c a + (x - a) * ev (dv a c) x
  | [], x => by simp only [ev, dv]; grind
  | c :: r, x => by
    simp only [ev, dv]
    rw [ev_addl, ev_scale]
    have := ev_dv a r x
    grind

include hi h1

/-- The value at 0. -/
theorem lagrange : ∀ (l : List (Fin n)) (c : List (Fin n)), nodup l → c.length ≤ l.length → sm (fun x => wt i l x * ev c x) l = ev c 0
  | [], c, _, hc => by
    have : c = [] := List.eq_nil_of_length_eq_zero (by simpa using hc)
    subst this
    rfl
  | a :: r, c, hn, hc => by
    have e1 := sm_wt hi h1 (r.length + 1) (a :: r) rfl (by simp) hn
    have ih := lagrange r (dv a c) hn.2 (by rw [dv_len]; simp at hc; omega)
    have e2 : sm (fun x => wt i (a :: r) x * ev c x) (a :: r) = ev c a * sm (wt i (a :: r)) (a :: r) + sm (fun x => wt i (a :: r) x * (x - a) * ev (dv a c) x) (a :: r) := by
      rw [← sm_mul, ← sm_add]
      refine sm_congr fun x _ => ?_
      rw [ev_dv a c x]
      grind
    have e3 : sm (fun x => wt i (a :: r) x * (x - a) * ev (dv a c) x) (a :: r) = (0 - a) * sm (fun x => wt i r x * ev (dv a c) x) r := by
      simp only [sm]
      rw [← sm_mul]
      have e4 : sm (fun x => wt i (a :: r) x * (x - a) * ev (dv a c) x) r = sm (fun x => (0 - a) * (wt i r x * ev (dv a c) x)) r := by
        refine sm_congr fun x hx => ?_
        have := wt_cons hi h1 a r x (hn.1 x hx)
        grind
      rw [e4]
      grind
    rw [e2, e1, e3, ih, ev_dv a c 0]
    grind

/-! ### A polynomial through places -/

omit hi h1

/-- A sum of values by weights. -/
def smv (w : Fin n → Fin n) : List (Fin n × Fin n) → Fin n
  | [] => 0
  | p :: r => w p.1 * p.2 + smv w r

variable (i)
/-- The value at 0, from places and values. -/
def joinF (l : List (Fin n × Fin n)) : Fin n := smv (wt i (l.map (·.1))) l
def lessF (f : Fin n) (l : List (Fin n × Fin n)) : List (Fin n × Fin n) := l.map fun p => (p.1, (p.2 - f) * i p.1)
/-- The coefficients behind the first one. -/
def thr : Nat → Fin n → List (Fin n × Fin n) → List (Fin n)
  | 0, _, _ => []
  | k + 1, f, l => joinF i (lessF i f l) :: thr k (joinF i (lessF i f l)) (lessF i f l).dropLast

variable {i}
theorem smv_app (w : Fin n → Fin n) : ∀ (l r : List (Fin n × Fin n)), smv w (l ++ r) = smv w l + smv w r
  | [], r => by simp only [List.nil_append, smv]; grind
  | p :: l, r => by
    simp only [List.cons_append, smv]
    rw [smv_app w l r]
    grind
theorem smv_sm (w p : Fin n → Fin n) : ∀ (l : List (Fin n × Fin n)), (∀ q ∈ l, p q.1 = q.2) → smv w l = sm (fun x => w x * p x) (l.map (·.1))
  | [], _ => rfl
  | q :: l, h => by
    simp only [List.map_cons, smv, sm]
    rw [smv_sm w p l (fun x hx => h x (by simp [hx])), h q (by simp)]
theorem sm_app (f : Fin n → Fin n) : ∀ (l r : List (Fin n)), sm f (l ++ r) = sm f l + sm f r
  | [], r => by simp only [List.nil_append, sm]; grind
  | p :: l, r => by
    simp only [List.cons_append, sm]
    rw [sm_app f l r]
    grind
theorem thr_len : ∀ (k : Nat) (f : Fin n) (l : List (Fin n × Fin n)), (thr i k f l).length = k
  | 0, _, _ => rfl
  | k + 1, f, l => by simp only [thr, List.length_cons]; rw [thr_len k]

include hi h1
theorem up_ne : ∀ (l : List (Fin n)) (x : Fin n), (∀ y ∈ l, y ≠ 0) → up l x ≠ 0
  | [], x, _ => h1
  | y :: r, x, h => by
    simp only [up]
    split
    · exact up_ne r x (fun z hz => h z (by simp [hz]))
    · exact (i_mul hi h1 (h y (by simp)) (up_ne r x (fun z hz => h z (by simp [hz])))).1
theorem i_ne {a : Fin n} (ha : a ≠ 0) : i a ≠ 0 := by
  intro e
  have := hi a ha
  apply h1
  grind
theorem wt_ne (l : List (Fin n)) (x : Fin n) (h : ∀ y ∈ l, y ≠ 0) : wt i l x ≠ 0 :=
  (i_mul hi h1 (up_ne hi h1 l x h) (i_ne hi h1 (down_ne hi h1 l x))).1

theorem through : ∀ (k : Nat) (f : Fin n) (l : List (Fin n × Fin n)), l.length = k → nodup (l.map (·.1)) → (∀ q ∈ l, q.1 ≠ 0) → ∀ q ∈ l, ev (f :: thr i k f l) q.1 = q.2
  | 0, f, l, hk, _, _, q, hq => by
    have : l = [] := List.eq_nil_of_length_eq_zero hk
    subst this
    simp at hq
  | k + 1, f, l, hk, hn, h0, q, hq => by
    -- the values less the first coefficient, by the places
    obtain ⟨L, hL⟩ : ∃ L, L = lessF i f l := ⟨_, rfl⟩
    have hLl : L.length = k + 1 := by rw [hL]; simp [lessF, hk]
    have hLx : L.map (·.1) = l.map (·.1) := by rw [hL]; simp [lessF, Function.comp_def]
    obtain ⟨p, hp⟩ : ∃ p, p = joinF i L :: thr i k (joinF i L) L.dropLast := ⟨_, rfl⟩
    have key : ∀ q ∈ L, ev p q.1 = q.2 := by
      have hne : L ≠ [] := by intro e; rw [e] at hLl; simp at hLl
      have hsplit : L = L.dropLast ++ [L.getLast hne] := (List.dropLast_concat_getLast hne).symm
      obtain ⟨D, hD⟩ : ∃ D, D = L.dropLast := ⟨_, rfl⟩
      obtain ⟨z, hz⟩ : ∃ z, z = L.getLast hne := ⟨_, rfl⟩
      rw [← hD, ← hz] at hsplit
      have hDn : nodup (D.map (·.1)) := by
        have hn' : nodup ((D ++ [z]).map (·.1)) := by rw [← hsplit, hLx]; exact hn
        clear hsplit hD hz hp
        induction D with
        | nil => trivial
        | cons d D ih =>
          simp only [List.cons_append, List.map_cons, nodup] at hn' ⊢
          exact ⟨fun y hy => hn'.1 y (by simp only [List.map_append, List.mem_append]; exact .inl hy), ih hn'.2⟩
      have hx0 : ∀ y ∈ L.map (·.1), y ≠ 0 := by
        rw [hLx]
        intro y hy
        obtain ⟨q, hq, rfl⟩ := List.mem_map.1 hy
        exact h0 q hq
      have ih := through k (joinF i L) D (by rw [hD, List.length_dropLast, hLl]; rfl) hDn (by
        intro q hq
        exact hx0 q.1 (by rw [hsplit]; simp only [List.map_append, List.mem_append, List.mem_map]; exact .inl ⟨q, hq, rfl⟩))
      rw [hD] at ih
      rw [← hp] at ih
      -- the last place: by the value at 0
      have hlag := lagrange hi h1 (L.map (·.1)) p (by rw [hLx]; exact hn) (by rw [hp]; simp [thr_len, hLl])
      have hp0 : ev p 0 = joinF i L := by rw [hp]; simp only [ev]; grind
      have hlast : ev p z.1 = z.2 := by
        have hw := wt_ne hi h1 (L.map (·.1)) z.1 hx0
        have e1 : joinF i L = smv (wt i (L.map (·.1))) L := rfl
        rw [hp0, e1] at hlag
        have e2 : smv (wt i (L.map (·.1))) L = smv (wt i (L.map (·.1))) D + wt i (L.map (·.1)) z.1 * z.2 := by
          conv => lhs; rw [hsplit]
          rw [smv_app]
          simp only [smv]
          rw [← hsplit]
          grind
        have e3 : sm (fun x => wt i (L.map (·.1)) x * ev p x) (L.map (·.1)) = sm (fun x => wt i (L.map (·.1)) x * ev p x) (D.map (·.1)) + wt i (L.map (·.1)) z.1 * ev p z.1 := by
          have e4 : L.map (·.1) = D.map (·.1) ++ [z.1] := by
            conv => lhs; rw [hsplit]
            rw [List.map_append]
            rfl
          conv => lhs; rw [e4]
          rw [sm_app]
          simp only [sm]
          rw [← e4]
          grind
        have e5 := smv_sm (wt i (L.map (·.1))) (ev p) D (by rw [hD]; exact ih)
        have e6 := hi _ hw
        rw [e2, e3, e5] at hlag
        grind
      intro q hq
      rw [hsplit] at hq
      rcases List.mem_append.1 hq with hq | hq
      · exact ih q (by rw [← hD]; exact hq)
      · simp only [List.mem_singleton] at hq
        rw [hq]; exact hlast
    have e1 : ev (f :: thr i (k + 1) f l) q.1 = f + q.1 * ev p q.1 := by
      simp only [thr]
      rw [hp, hL]
      rfl
    have hq' : (q.1, (q.2 - f) * i q.1) ∈ L := by rw [hL]; exact List.mem_map.2 ⟨q, hq, rfl⟩
    have e2 : ev p q.1 = (q.2 - f) * i q.1 := key (q.1, (q.2 - f) * i q.1) hq'
    have e3 := hi q.1 (h0 q hq)
    rw [e1, e2]
    grind

end

end Go.Eng
