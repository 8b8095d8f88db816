/- Shares: what the functions hand back, in whole numbers; and the two laws of shares (T5, T6). It has no conditions. -/
import Derived.Test.YtnhobbdijdbbeaaLag
namespace Go.Eng
set_option linter.unusedSimpArgs false
set_option linter.unusedVariables false
set_option linter.unusedSectionVars false

/-! ### In whole numbers -/

def nI (a : Int) : Int := max a 0
def evI : List Int → Int → Int
  | [], _ => 0
  | c :: r, a => saddN qN (smulN qN (evI r a) (nI a)) c
def upI (l : List Int) (a u : Int) : Int := l.foldl (fun u o => if o = a then u else smulN qN u (nI o)) u
def dnI (l : List Int) (a u : Int) : Int := l.foldl (fun u o => if o = a then u else smulN qN u (ssubN qN (nI o) (nI a))) u
def wI (l : List Int) (a : Int) : Int := smulN qN (upI l a 1) (sinvN qN (dnI l a 1))
def jnI (ats : List Int) : List (Int × Int) → Int → Int
  | [], s => s
  | p :: r, s => jnI ats r (saddN qN s (smulN qN (wI ats p.1) p.2))
def joinI (l : List (Int × Int)) : Int := jnI (l.map (·.1)) l 0
def placeOk (a : Int) : Prop := 1 ≤ a ∧ a ≤ 2147483648
instance (a : Int) : Decidable (placeOk a) := by unfold placeOk; infer_instance
def distinct : List Int → Prop
  | [] => True
  | x :: r => (∀ y ∈ r, x ≠ y) ∧ distinct r

theorem Q1 : qN = qN ∨ qN = pN := .inl rfl
theorem qN_pos : 0 < qN := by decide
theorem qN_M : qN < M256 := by decide

theorem smulN_range (a b : Int) : 0 ≤ smulN qN a b ∧ smulN qN a b < qN := by
  unfold smulN
  exact ⟨Int.emod_nonneg _ (by decide), Int.emod_lt_of_pos _ qN_pos⟩
theorem saddN_range {a b : Int} (ha : 0 ≤ a ∧ a < M256) (hb : 0 ≤ b ∧ b < M256) : 0 ≤ saddN qN a b ∧ saddN qN a b < qN := by
  rw [sadd_eq Q1 ha hb]
  exact ⟨Int.emod_nonneg _ (by decide), Int.emod_lt_of_pos _ qN_pos⟩
theorem ssubN_range {a b : Int} (ha : 0 ≤ a ∧ a < M256) (hb : 0 ≤ b ∧ b < M256) : 0 ≤ ssubN qN a b ∧ ssubN qN a b < qN := by
  rw [ssub_eq Q1 ha hb]
  exact ⟨Int.emod_nonneg _ (by decide), Int.emod_lt_of_pos _ qN_pos⟩
theorem toM {a : Int} (h : 0 ≤ a ∧ a < qN) : 0 ≤ a ∧ a < M256 := ⟨h.1, Int.lt_trans h.2 qN_M⟩
theorem sinvN_range {a : Int} (ha : 0 ≤ a ∧ a < M256) : 0 ≤ sinvN qN a ∧ sinvN qN a < qN := by
  obtain ⟨h1, h2⟩ := inv_laws Q1 ha
  by_cases h : cutN qN a = 0
  · rw [h1 h]; exact ⟨Int.le_refl _, qN_pos⟩
  · exact ⟨(h2 h).1, (h2 h).2.1⟩
theorem evI_range {c : List Int} (a : Int) (h : ∀ x ∈ c, 0 ≤ x ∧ x < M256) : 0 ≤ evI c a ∧ evI c a < qN := by
  cases c with
  | nil => exact ⟨Int.le_refl _, qN_pos⟩
  | cons x r => exact saddN_range (toM (smulN_range _ _)) (h x (by simp))
theorem upI_range (l : List Int) (a : Int) : ∀ u, 0 ≤ u ∧ u < qN → 0 ≤ upI l a u ∧ upI l a u < qN := by
  induction l with
  | nil => intro u h; exact h
  | cons o r ih =>
    intro u h
    have e : upI (o :: r) a u = upI r a (if o = a then u else smulN qN u (nI o)) := rfl
    rw [e]
    by_cases ho : o = a
    · rw [if_pos ho]; exact ih u h
    · rw [if_neg ho]; exact ih _ (smulN_range _ _)
theorem dnI_range (l : List Int) (a : Int) : ∀ u, 0 ≤ u ∧ u < qN → 0 ≤ dnI l a u ∧ dnI l a u < qN := by
  induction l with
  | nil => intro u h; exact h
  | cons o r ih =>
    intro u h
    have e : dnI (o :: r) a u = dnI r a (if o = a then u else smulN qN u (ssubN qN (nI o) (nI a))) := rfl
    rw [e]
    by_cases ho : o = a
    · rw [if_pos ho]; exact ih u h
    · rw [if_neg ho]; exact ih _ (smulN_range _ _)
theorem one_q : 0 ≤ (1 : Int) ∧ (1 : Int) < qN := by decide
theorem jnI_range (ats : List Int) : ∀ (l : List (Int × Int)) (s : Int), (0 ≤ s ∧ s < qN) → 0 ≤ jnI ats l s ∧ jnI ats l s < qN
  | [], s, h => h
  | p :: r, s, h => jnI_range ats r _ (saddN_range (toM h) (toM (smulN_range _ _)))
theorem joinI_range (l : List (Int × Int)) : 0 ≤ joinI l ∧ joinI l < qN := jnI_range _ l 0 ⟨Int.le_refl _, qN_pos⟩

/-! ### Remainders -/

section
variable {n : Nat} [NeZero n]

def φ (a : Int) : Fin n := Fin.ofNat n (a % n).toNat

theorem φ_val (hn : (n : Int) = qN) (a : Int) : ((φ a : Fin n).val : Int) = a % n := by
  have h1 : (0 : Int) ≤ a % n := Int.emod_nonneg _ (by rw [hn]; decide)
  have h2 : a % (n : Int) < n := Int.emod_lt_of_pos _ (by rw [hn]; decide)
  show (((a % n).toNat % n : Nat) : Int) = a % n
  rw [Nat.mod_eq_of_lt (by omega)]
  omega

theorem φ_ext (hn : (n : Int) = qN) {x y : Fin n} (h : (x.val : Int) = y.val) : x = y := Fin.ext (by omega)

theorem φ_mod (hn : (n : Int) = qN) (a : Int) : (φ (a % n) : Fin n) = φ a := by
  apply φ_ext hn
  rw [φ_val hn, φ_val hn, Int.emod_emod_of_dvd _ (Int.dvd_refl _)]
theorem φ_add (hn : (n : Int) = qN) (a b : Int) : (φ (a + b) : Fin n) = φ a + φ b := by
  apply φ_ext hn
  rw [φ_val hn, Fin.val_add, Int.natCast_emod, Int.natCast_add, φ_val hn, φ_val hn, ← Int.add_emod]
theorem φ_mul (hn : (n : Int) = qN) (a b : Int) : (φ (a * b) : Fin n) = φ a * φ b := by
  apply φ_ext hn
  rw [φ_val hn, Fin.val_mul, Int.natCast_emod, Int.natCast_mul, φ_val hn, φ_val hn, ← Int.mul_emod]
theorem φ_sub (hn : (n : Int) = qN) (a b : Int) : (φ (a - b) : Fin n) = φ a - φ b := by
  have := φ_add hn (a - b) b
  rw [show a - b + b = a by omega] at this
  grind
theorem φ_inj (hn : (n : Int) = qN) {a b : Int} (ha : 0 ≤ a ∧ a < qN) (hb : 0 ≤ b ∧ b < qN) (h : (φ a : Fin n) = φ b) : a = b := by
  have e1 := φ_val hn a
  have e2 := φ_val hn b
  rw [h, e2] at e1
  rw [hn, Int.emod_eq_of_lt ha.1 ha.2, Int.emod_eq_of_lt hb.1 hb.2] at e1
  exact e1.symm
theorem φ_zero (hn : (n : Int) = qN) : (φ 0 : Fin n) = 0 := by
  have := φ_add hn 0 0
  rw [Int.add_zero] at this
  grind
theorem φ_one (hn : (n : Int) = qN) : (φ 1 : Fin n) = 1 := by
  apply φ_ext hn
  rw [φ_val hn]
  have h1 : (1 : Int) < n := by rw [hn]; decide
  rw [Int.emod_eq_of_lt (by decide) h1]
  have h2 : ((1 : Fin n).val) = 1 % n := rfl
  rw [h2, Nat.mod_eq_of_lt (by omega)]
  rfl
theorem one_ne (hn : (n : Int) = qN) : (1 : Fin n) ≠ 0 := by
  rw [← φ_one hn, ← φ_zero hn]
  intro h
  have := φ_inj hn one_q ⟨Int.le_refl _, qN_pos⟩ h
  omega

/-- The inverse. -/
def iF (x : Fin n) : Fin n := φ (sinvN qN x.val)
theorem iF_spec (hn : (n : Int) = qN) (x : Fin n) (hx : x ≠ 0) : x * iF x = 1 := by
  have hv : 0 ≤ (x.val : Int) ∧ (x.val : Int) < qN := by rw [← hn]; have := x.isLt; omega
  have hx0 : (x.val : Int) ≠ 0 := by
    intro e
    apply hx
    rw [← φ_zero hn]
    apply φ_ext hn
    rw [φ_val hn, e]
    rfl
  obtain ⟨g1, g2, g3, _⟩ := qp_range Q1
  obtain ⟨c0, c1, c2⟩ := cut_range g1 g2 (toM hv)
  have hc : cutN qN (x.val : Int) = x.val := by rw [c2, Int.emod_eq_of_lt hv.1 hv.2]
  obtain ⟨_, _, h3, _⟩ := (inv_laws Q1 (toM hv)).2 (by rw [hc]; exact hx0)
  have e : x = φ (x.val : Int) := by
    apply φ_ext hn
    rw [φ_val hn, hn, Int.emod_eq_of_lt hv.1 hv.2]
  unfold smulN at h3
  have e2 : (φ ((x.val : Int) * sinvN qN x.val) : Fin n) = φ 1 := by
    rw [← φ_mod hn, hn, h3]
  rw [φ_mul hn, ← e, φ_one hn] at e2
  exact e2
theorem φ_inv (hn : (n : Int) = qN) {a : Int} (ha : 0 ≤ a ∧ a < M256) : (φ (sinvN qN a) : Fin n) = iF (φ a) := by
  unfold iF
  rw [φ_val hn, hn]
  congr 1
  obtain ⟨g1, g2, g3, _⟩ := qp_range Q1
  obtain ⟨c0, c1, c2⟩ := cut_range g1 g2 ha
  have hr : 0 ≤ a % qN ∧ a % qN < qN := ⟨Int.emod_nonneg _ (by decide), Int.emod_lt_of_pos _ qN_pos⟩
  obtain ⟨_, _, d2⟩ := cut_range g1 g2 (toM hr)
  show invT qN (cutN qN a) = invT qN (cutN qN (a % qN))
  rw [c2, d2, Int.emod_emod_of_dvd _ (Int.dvd_refl _)]
theorem φ_smul (hn : (n : Int) = qN) (a b : Int) : (φ (smulN qN a b) : Fin n) = φ a * φ b := by
  unfold smulN
  rw [← hn, φ_mod hn, φ_mul hn]
theorem φ_sadd (hn : (n : Int) = qN) {a b : Int} (ha : 0 ≤ a ∧ a < M256) (hb : 0 ≤ b ∧ b < M256) : (φ (saddN qN a b) : Fin n) = φ a + φ b := by
  rw [sadd_eq Q1 ha hb, ← hn, φ_mod hn, φ_add hn]
theorem φ_ssub (hn : (n : Int) = qN) {a b : Int} (ha : 0 ≤ a ∧ a < M256) (hb : 0 ≤ b ∧ b < M256) : (φ (ssubN qN a b) : Fin n) = φ a - φ b := by
  rw [ssub_eq Q1 ha hb, ← hn, φ_mod hn, φ_sub hn]

theorem φ_ev (hn : (n : Int) = qN) (a : Int) : ∀ (c : List Int), (∀ x ∈ c, 0 ≤ x ∧ x < M256) → (φ (evI c a) : Fin n) = ev (c.map φ) (φ (nI a))
  | [], _ => φ_zero hn
  | x :: r, h => by
    simp only [evI, List.map_cons, ev]
    rw [φ_sadd hn (toM (smulN_range _ _)) (h x (by simp)), φ_smul hn, φ_ev hn a r (fun y hy => h y (by simp [hy]))]
    grind

theorem place_q {a : Int} (h : placeOk a) : 0 ≤ nI a ∧ nI a < qN := by
  have : (2147483648 : Int) < qN := by decide
  unfold placeOk at h
  unfold nI
  omega
theorem place_inj (hn : (n : Int) = qN) {a b : Int} (ha : placeOk a) (hb : placeOk b) : (φ (nI a) : Fin n) = φ (nI b) ↔ a = b := by
  refine ⟨fun h => ?_, fun h => by rw [h]⟩
  have := φ_inj hn (place_q ha) (place_q hb) h
  unfold placeOk at ha hb
  unfold nI at this
  omega
theorem place_ne (hn : (n : Int) = qN) {a : Int} (ha : placeOk a) : (φ (nI a) : Fin n) ≠ 0 := by
  rw [← φ_zero hn]
  intro h
  have := φ_inj hn (place_q ha) ⟨Int.le_refl _, qN_pos⟩ h
  unfold placeOk at ha
  unfold nI at this
  omega

/-- A place. -/
def pl (a : Int) : Fin n := φ (nI a)

theorem φ_up (hn : (n : Int) = qN) {a : Int} (ha : placeOk a) : ∀ (l : List Int) (u : Int), (∀ x ∈ l, placeOk x) → (φ (upI l a u) : Fin n) = φ u * up (l.map pl) (pl a)
  | [], u, _ => by
    simp only [upI, List.foldl_nil, List.map_nil, up]
    grind
  | o :: r, u, h => by
    have ho := h o (by simp)
    have hr : ∀ x ∈ r, placeOk x := fun x hx => h x (by simp [hx])
    have e : upI (o :: r) a u = upI r a (if o = a then u else smulN qN u (nI o)) := rfl
    rw [e, φ_up hn ha r _ hr]
    simp only [List.map_cons, up]
    by_cases hoa : o = a
    · rw [if_pos hoa, if_pos (by unfold pl; rw [hoa])]
    · have hne : ¬ (pl o : Fin n) = pl a := fun e => hoa ((place_inj hn ho ha).1 e)
      rw [if_neg hoa, if_neg hne, φ_smul hn]
      show _ = φ u * (pl o * _)
      unfold pl
      grind
theorem φ_dn (hn : (n : Int) = qN) {a : Int} (ha : placeOk a) : ∀ (l : List Int) (u : Int), (∀ x ∈ l, placeOk x) → (φ (dnI l a u) : Fin n) = φ u * down (l.map pl) (pl a)
  | [], u, _ => by
    simp only [dnI, List.foldl_nil, List.map_nil, down]
    grind
  | o :: r, u, h => by
    have ho := h o (by simp)
    have hr : ∀ x ∈ r, placeOk x := fun x hx => h x (by simp [hx])
    have e : dnI (o :: r) a u = dnI r a (if o = a then u else smulN qN u (ssubN qN (nI o) (nI a))) := rfl
    rw [e, φ_dn hn ha r _ hr]
    simp only [List.map_cons, down]
    by_cases hoa : o = a
    · rw [if_pos hoa, if_pos (by unfold pl; rw [hoa])]
    · have hne : ¬ (pl o : Fin n) = pl a := fun e => hoa ((place_inj hn ho ha).1 e)
      rw [if_neg hoa, if_neg hne, φ_smul hn, φ_ssub hn (toM (place_q ho)) (toM (place_q ha))]
      show _ = φ u * ((pl o - pl a) * _)
      unfold pl
      grind
theorem φ_w (hn : (n : Int) = qN) {a : Int} (ha : placeOk a) (l : List Int) (h : ∀ x ∈ l, placeOk x) : (φ (wI l a) : Fin n) = wt iF (l.map pl) (pl a) := by
  have h1 := φ_up hn ha l 1 h
  have h2 := φ_dn hn ha l 1 h
  have h3 := dnI_range l a 1 one_q
  have e1 : ∀ x : Fin n, 1 * x = x := by intro x; grind
  rw [φ_one hn, e1] at h1 h2
  generalize hu : upI l a 1 = U at h1
  generalize hd : dnI l a 1 = D at h2 h3
  have e2 : wI l a = smulN qN U (sinvN qN D) := by unfold wI; rw [hu, hd]
  rw [e2, φ_smul hn, φ_inv hn (toM h3), h1, h2]
  rfl

def φp (p : Int × Int) : Fin n × Fin n := (pl p.1, φ p.2)
theorem φ_jn (hn : (n : Int) = qN) (ats : List Int) (h : ∀ x ∈ ats, placeOk x) : ∀ (l : List (Int × Int)) (s : Int), (∀ p ∈ l, placeOk p.1) → (0 ≤ s ∧ s < qN) → (φ (jnI ats l s) : Fin n) = φ s + smv (wt iF (ats.map pl)) (l.map φp)
  | [], s, _, _ => by simp only [jnI, List.map_nil, smv]; grind
  | p :: r, s, hl, hs => by
    simp only [jnI, List.map_cons, smv]
    rw [φ_jn hn ats h r _ (fun q hq => hl q (by simp [hq])) (saddN_range (toM hs) (toM (smulN_range _ _))), φ_sadd hn (toM hs) (toM (smulN_range _ _)), φ_smul hn, φ_w hn (hl p (by simp)) ats h]
    show _ = φ s + (wt iF (ats.map pl) (pl p.1) * φ p.2 + _)
    grind
theorem map_φp (l : List (Int × Int)) : (l.map (φp : Int × Int → Fin n × Fin n)).map (·.1) = (l.map (·.1)).map pl := by
  simp [φp, Function.comp_def]
theorem φ_join (hn : (n : Int) = qN) (l : List (Int × Int)) (hl : ∀ p ∈ l, placeOk p.1) : (φ (joinI l) : Fin n) = joinF iF (l.map φp) := by
  unfold joinI joinF
  rw [φ_jn hn _ (by intro x hx; obtain ⟨p, hp, rfl⟩ := List.mem_map.1 hx; exact hl p hp) l 0 hl ⟨Int.le_refl _, qN_pos⟩, φ_zero hn, map_φp]
  grind
theorem φ_nodup (hn : (n : Int) = qN) : ∀ (l : List Int), (∀ x ∈ l, placeOk x) → distinct l → nodup (l.map (pl : Int → Fin n))
  | [], _, _ => trivial
  | x :: r, h, hd => by
    refine ⟨fun y hy => ?_, φ_nodup hn r (fun z hz => h z (by simp [hz])) hd.2⟩
    obtain ⟨z, hz, rfl⟩ := List.mem_map.1 hy
    intro e
    exact hd.1 z hz ((place_inj hn (h x (by simp)) (h z (by simp [hz]))).1 e)

/-- T5. -/
theorem back_law (hn : (n : Int) = qN) (c : List Int) (ats : List Int) (h : ∀ x ∈ ats, placeOk x) (hd : distinct ats) (hc : ∀ x ∈ c, 0 ≤ x ∧ x < M256) (hl : c.length ≤ ats.length) (h0 : c ≠ []) :
    joinI (ats.map fun a => (a, evI c a)) = cutN qN (c.headD 0) := by
  obtain ⟨g1, g2, g3, _⟩ := qp_range Q1
  cases c with
  | nil => exact absurd rfl h0
  | cons x r =>
  have hx := hc x (by simp)
  obtain ⟨c0, c1, c2⟩ := cut_range g1 g2 hx
  refine φ_inj hn (joinI_range _) ⟨c0, c1⟩ ?_
  show _ = (φ (cutN qN x) : Fin n)
  rw [c2, ← hn, φ_mod hn]
  rw [φ_join hn _ (by intro p hp; obtain ⟨a, ha, rfl⟩ := List.mem_map.1 hp; exact h a ha)]
  unfold joinF
  have e0 : ((ats.map fun a => (a, evI (x :: r) a)).map (φp : Int × Int → Fin n × Fin n)).map (·.1) = ats.map pl := by
    rw [map_φp]; simp [Function.comp_def]
  rw [e0]
  have e1 := smv_sm (wt iF (ats.map pl)) (ev ((x :: r).map φ)) ((ats.map fun a => (a, evI (x :: r) a)).map (φp : Int × Int → Fin n × Fin n)) (by
    intro q hq
    obtain ⟨p, hp, rfl⟩ := List.mem_map.1 hq
    obtain ⟨a, ha, rfl⟩ := List.mem_map.1 hp
    exact (φ_ev hn a (x :: r) hc).symm)
  rw [e0] at e1
  rw [e1, lagrange (iF_spec hn) (one_ne hn) _ _ (φ_nodup hn ats h hd) (by simpa using hl)]
  simp only [List.map_cons, ev]
  grind

/-! ### T6 -/

def lessI (f : Int) (l : List (Int × Int)) : List (Int × Int) := l.map fun p => (p.1, smulN qN (ssubN qN p.2 f) (sinvN qN (nI p.1)))
def thrI : Nat → Int → List (Int × Int) → List Int
  | 0, _, _ => []
  | k + 1, f, l => joinI (lessI f l) :: thrI k (joinI (lessI f l)) (lessI f l).dropLast
theorem thrI_len : ∀ (k : Nat) (f : Int) (l : List (Int × Int)), (thrI k f l).length = k
  | 0, _, _ => rfl
  | k + 1, f, l => by simp only [thrI, List.length_cons]; rw [thrI_len k]
theorem thrI_range : ∀ (k : Nat) (f : Int) (l : List (Int × Int)), ∀ x ∈ thrI k f l, 0 ≤ x ∧ x < qN
  | 0, _, _, x, hx => by simp [thrI] at hx
  | k + 1, f, l, x, hx => by
    simp only [thrI, List.mem_cons] at hx
    rcases hx with rfl | hx
    · exact joinI_range _
    · exact thrI_range k _ _ x hx
theorem lessI_place (f : Int) (l : List (Int × Int)) (h : ∀ p ∈ l, placeOk p.1) : ∀ p ∈ lessI f l, placeOk p.1 := by
  intro p hp
  obtain ⟨q, hq, rfl⟩ := List.mem_map.1 hp
  exact h q hq
theorem φ_less (hn : (n : Int) = qN) (f : Int) (hf : 0 ≤ f ∧ f < M256) (l : List (Int × Int)) (h : ∀ p ∈ l, placeOk p.1) (hv : ∀ p ∈ l, 0 ≤ p.2 ∧ p.2 < M256) : (lessI f l).map (φp : Int × Int → Fin n × Fin n) = lessF iF (φ f) (l.map φp) := by
  unfold lessI lessF
  rw [List.map_map, List.map_map]
  refine List.map_congr_left fun p hp => ?_
  show (pl p.1, φ (smulN qN (ssubN qN p.2 f) (sinvN qN (nI p.1)))) = (pl p.1, (φ p.2 - φ f) * iF (pl p.1))
  rw [φ_smul hn, φ_ssub hn (hv p hp) hf, φ_inv hn (toM (place_q (h p hp)))]
  rfl
theorem φ_thr (hn : (n : Int) = qN) : ∀ (k : Nat) (f : Int) (l : List (Int × Int)), (0 ≤ f ∧ f < M256) → (∀ p ∈ l, placeOk p.1) → (∀ p ∈ l, 0 ≤ p.2 ∧ p.2 < M256) → (thrI k f l).map (φ : Int → Fin n) = thr iF k (φ f) (l.map φp)
  | 0, _, _, _, _, _ => rfl
  | k + 1, f, l, hf, h, hv => by
    have hp := lessI_place f l h
    simp only [thrI, thr, List.map_cons]
    rw [φ_join hn _ hp, φ_less hn f hf l h hv]
    congr 1
    have hd : ∀ p ∈ (lessI f l).dropLast, p ∈ lessI f l := fun p hp => (List.dropLast_sublist _).subset hp
    rw [φ_thr hn k _ _ (toM (joinI_range _)) (fun p hp' => hp p (hd p hp')) (fun p hp' => by
      obtain ⟨q, hq, rfl⟩ := List.mem_map.1 (hd p hp')
      exact toM (smulN_range _ _)), φ_join hn _ hp, φ_less hn f hf l h hv, List.map_dropLast, φ_less hn f hf l h hv]

/-- T6. -/
theorem hides_law (hn : (n : Int) = qN) (l : List (Int × Int)) (s : Int) (h : ∀ p ∈ l, placeOk p.1) (hd : distinct (l.map (·.1))) (hv : ∀ p ∈ l, 0 ≤ p.2 ∧ p.2 < qN) (hs : 0 ≤ s ∧ s < qN) :
    (∀ p ∈ l, evI (s :: thrI l.length s l) p.1 = p.2) ∧ evI (s :: thrI l.length s l) 0 = s := by
  have hr : ∀ x ∈ s :: thrI l.length s l, 0 ≤ x ∧ x < M256 := by
    intro x hx
    rcases List.mem_cons.1 hx with rfl | hx
    · exact toM hs
    · exact toM (thrI_range _ _ _ x hx)
  refine ⟨fun p hp => φ_inj hn (evI_range _ hr) (hv p hp) ?_, φ_inj hn (evI_range _ hr) hs ?_⟩
  · rw [φ_ev hn _ _ hr, List.map_cons, φ_thr hn _ _ _ (toM hs) h (fun q hq => toM (hv q hq))]
    have hx : ((l.map (φp : Int × Int → Fin n × Fin n)).map (·.1)) = (l.map (·.1)).map pl := map_φp l
    exact through (iF_spec hn) (one_ne hn) l.length (φ s) (l.map φp) (by simp) (by rw [hx]; exact φ_nodup hn _ (by intro x hx; obtain ⟨q, hq, rfl⟩ := List.mem_map.1 hx; exact h q hq) hd)
      (by intro q hq; obtain ⟨r, hr', rfl⟩ := List.mem_map.1 hq; exact place_ne hn (h r hr')) (φp p) (List.mem_map.2 ⟨p, hp, rfl⟩)
  · rw [φ_ev hn _ _ hr]
    have e0 : nI 0 = 0 := rfl
    rw [e0, φ_zero hn]
    simp only [List.map_cons, ev]
    grind

end

def qn : Nat := qN.toNat
instance : NeZero qn := ⟨by decide⟩
theorem qn_q : (qn : Int) = qN := by decide

end Go.Eng
