/- Two prime numbers. It has no conditions. -/
import Derived.Test.YtnhobbdijdbbeaaNum
namespace Go.Eng
set_option linter.unusedSimpArgs false
set_option linter.unusedVariables false
set_option exponentiation.threshold 600
set_option maxRecDepth 100000

/-! ### Primes -/

def Prm (p : Nat) : Prop := 2 ≤ p ∧ ∀ d, d ∣ p → d = 1 ∨ d = p

theorem Prm.euclid {p a b : Nat} (h : Prm p) (hd : p ∣ a * b) : p ∣ a ∨ p ∣ b := by
  rcases h.2 (Nat.gcd p a) (Nat.gcd_dvd_left p a) with e | e
  · exact .inr (Nat.Coprime.dvd_of_dvd_mul_left (show Nat.Coprime p a from e) hd)
  · exact .inl (e ▸ Nat.gcd_dvd_right p a)

theorem prime_factor : ∀ (n : Nat), 2 ≤ n → ∃ p, Prm p ∧ p ∣ n := by
  intro n
  induction n using Nat.strongRecOn with
  | _ n ih =>
    intro hn
    by_cases h : ∃ d, d ∣ n ∧ d ≠ 1 ∧ d ≠ n
    · obtain ⟨d, hd, h1, h2⟩ := h
      have hle := Nat.le_of_dvd (by omega) hd
      have h0 : d ≠ 0 := by rintro rfl; rw [Nat.zero_dvd] at hd; omega
      obtain ⟨p, hp, hpd⟩ := ih d (by omega) (by omega)
      exact ⟨p, hp, Nat.dvd_trans hpd hd⟩
    · refine ⟨n, ⟨hn, fun d hd => ?_⟩, Nat.dvd_refl n⟩
      by_cases h1 : d = 1
      · exact .inl h1
      · by_cases h2 : d = n
        · exact .inr h2
        · exact absurd ⟨d, hd, h1, h2⟩ h

def prod (l : List Nat) : Nat := l.foldr (· * ·) 1

theorem mem_of_dvd {p : Nat} (hp : Prm p) : ∀ (l : List Nat), (∀ x ∈ l, Prm x) → p ∣ prod l → p ∈ l
  | [], _, h => by
    have := Nat.le_of_dvd (by decide) h
    have := hp.1
    simp [prod] at *; omega
  | x :: r, hl, h => by
    rcases hp.euclid (show p ∣ x * prod r from h) with h | h
    · rcases (hl x List.mem_cons_self).2 p h with e | e
      · have := hp.1; omega
      · rw [e]; exact List.mem_cons_self
    · exact List.mem_cons_of_mem _ (mem_of_dvd hp r (fun y hy => hl y (List.mem_cons_of_mem _ hy)) h)

theorem pow_red {g N e : Nat} (hN : 1 < N) (h : g ^ e % N = 1) (q r : Nat) : g ^ (e * q + r) % N = g ^ r % N := by
  rw [Nat.pow_add, Nat.pow_mul, Nat.mul_mod, Nat.pow_mod, h, Nat.one_pow, Nat.mod_eq_of_lt hN, Nat.one_mul, Nat.mod_mod]

theorem pow_gcd {g N : Nat} (hN : 1 < N) : ∀ (m n : Nat), g ^ m % N = 1 → g ^ n % N = 1 → g ^ (Nat.gcd m n) % N = 1 := by
  intro m
  induction m using Nat.strongRecOn with
  | _ m ih =>
    intro n hm hn
    by_cases h0 : m = 0
    · subst h0; rw [Nat.gcd_zero_left]; exact hn
    · rw [Nat.gcd_rec]
      refine ih (n % m) (Nat.mod_lt _ (by omega)) m ?_ hm
      have := pow_red hN hm (n / m) (n % m)
      rw [Nat.div_add_mod] at this
      rw [← this]; exact hn

theorem surj : ∀ (n : Nat) (f : Nat → Nat), (∀ i, i < n → f i < n) → (∀ i j, i < n → j < n → f i = f j → i = j) → ∀ y, y < n → ∃ i, i < n ∧ f i = y
  | 0, _, _, _, y, hy => absurd hy (by omega)
  | n + 1, f, hm, hi, y, hy => by
    have H := surj n (fun i => if f i = n then f n else f i) (fun i hin => by
      have h1 := hm i (by omega)
      have h2 := hm n (by omega)
      (try simp only)
      split
      · rename_i h
        have : f n ≠ n := fun e => by have := hi i n (by omega) (by omega) (by rw [h, e]); omega
        omega
      · omega) (fun i j hin hjn e => by
      (try simp only at e)
      split at e <;> split at e
      · rename_i h1 h2; exact hi i j (by omega) (by omega) (by rw [h1, h2])
      · have := hi n j (by omega) (by omega) e; omega
      · have := hi i n (by omega) (by omega) e; omega
      · exact hi i j (by omega) (by omega) e)
    by_cases h1 : y = f n
    · exact ⟨n, by omega, h1.symm⟩
    · have h2 := hm n (by omega)
      by_cases h3 : y = n
      · obtain ⟨i, hin, e⟩ := H (f n) (by omega)
        (try simp only at e)
        split at e
        · rename_i h; exact ⟨i, by omega, by rw [h, h3]⟩
        · have := hi i n (by omega) (by omega) e; omega
      · obtain ⟨i, hin, e⟩ := H y (by omega)
        (try simp only at e)
        split at e
        · exact absurd e.symm h1
        · exact ⟨i, by omega, e⟩

/-- A number is prime, and all beneath it are powers of one, if that one's order is as great as may be. -/
theorem lucas {N g : Nat} (ps : List Nat) (hN : 2 < N) (hps : ∀ p ∈ ps, Prm p) (hprod : prod ps = N - 1) (h1 : g ^ (N - 1) % N = 1) (h2 : ∀ p ∈ ps, g ^ ((N - 1) / p) % N ≠ 1) :
    Prm N ∧ ∀ a, 0 < a → a < N → ∃ i, a = g ^ i % N := by
  have order : ∀ d, 0 < d → d < N - 1 → g ^ d % N ≠ 1 := by
    intro d h0 hlt h
    have he := pow_gcd (by omega) d (N - 1) h h1
    have hd := Nat.gcd_dvd_right d (N - 1)
    have hle := Nat.le_of_dvd h0 (Nat.gcd_dvd_left d (N - 1))
    generalize Nat.gcd d (N - 1) = e at *
    obtain ⟨c, hc⟩ := hd
    have hc2 : 2 ≤ c := by
      match c, hc with
      | 0, hc => omega
      | 1, hc => omega
      | c + 2, _ => omega
    obtain ⟨p, hp, k, hk⟩ := prime_factor c hc2
    have hpm := mem_of_dvd hp ps hps ⟨e * k, by rw [hprod, hc, hk, Nat.mul_left_comm]⟩
    refine h2 p hpm ?_
    have e2 : (N - 1) / p = e * k + 0 := by
      rw [hc, hk, Nat.mul_left_comm, Nat.mul_div_cancel_left _ (by have := hp.1; omega), Nat.add_zero]
    rw [e2, pow_red (by omega) he k 0, Nat.pow_zero, Nat.mod_eq_of_lt (by omega)]
  have nz : ∀ i, i < N - 1 → g ^ i % N ≠ 0 := by
    intro i hi h
    have : g ^ (N - 1) % N = 0 := by
      rw [show N - 1 = i + (N - 1 - i) by omega, Nat.pow_add, Nat.mul_mod, h, Nat.zero_mul, Nat.zero_mod]
    omega
  have inj : ∀ i j, i < j → j < N - 1 → g ^ i % N ≠ g ^ j % N := by
    intro i j hij hj h
    refine order (j - i) (by omega) (by omega) ?_
    have e1 : g ^ (N - 1) % N = g ^ (j - i) * g ^ (N - 1) % N := by
      rw [show g ^ (j - i) * g ^ (N - 1) = g ^ j * g ^ (N - 1 - i) by rw [← Nat.pow_add, ← Nat.pow_add]; congr 1; omega, Nat.mul_mod, ← h, ← Nat.mul_mod, ← Nat.pow_add]
      congr 2; omega
    rw [Nat.mul_mod, h1, Nat.mul_one, Nat.mod_mod] at e1
    exact e1.symm
  have all := surj (N - 1) (fun i => g ^ i % N - 1) (fun i hi => by have := Nat.mod_lt (g ^ i) (show N > 0 by omega); have := nz i hi; (try simp only); omega) (fun i j hi hj e => by
    have a1 := nz i hi; have a2 := nz j hj
    (try simp only at e)
    rcases Nat.lt_trichotomy i j with h | h | h
    · exact absurd (by omega) (inj i j h hj)
    · exact h
    · exact absurd (by omega) (inj j i h hi))
  have gen : ∀ a, 0 < a → a < N → ∃ i, i < N - 1 ∧ a = g ^ i % N := by
    intro a h0 hlt
    obtain ⟨i, hi, e⟩ := all (a - 1) (by omega)
    have := nz i hi
    exact ⟨i, hi, by (try simp only at e); omega⟩
  refine ⟨⟨by omega, fun d hd => ?_⟩, fun a h0 hlt => by obtain ⟨i, _, e⟩ := gen a h0 hlt; exact ⟨i, e⟩⟩
  have hle := Nat.le_of_dvd (by omega) hd
  have h0 : d ≠ 0 := by rintro rfl; rw [Nat.zero_dvd] at hd; omega
  by_cases hdN : d = N
  · exact .inr hdN
  · refine .inl ?_
    obtain ⟨i, hi, e⟩ := gen d (by omega) (by omega)
    have d1 : d ∣ g ^ i := by
      have := Nat.div_add_mod (g ^ i) N
      rw [← this, ← e]
      exact Nat.dvd_add (Nat.dvd_trans hd (Nat.dvd_mul_right _ _)) (Nat.dvd_refl d)
    have d2 : d ∣ g ^ (N - 1) := by
      rw [show N - 1 = i + (N - 1 - i) by omega, Nat.pow_add]
      exact Nat.dvd_trans d1 (Nat.dvd_mul_right _ _)
    have d3 : d ∣ 1 := by
      have := Nat.div_add_mod (g ^ (N - 1)) N
      rw [h1] at this
      exact (Nat.dvd_add_right (Nat.dvd_trans hd (Nat.dvd_mul_right N (g ^ (N - 1) / N)))).1 (by rw [this]; exact d2)
    exact Nat.dvd_one.1 d3

theorem fermat {N g : Nat} (hN : 1 < N) (h1 : g ^ (N - 1) % N = 1) (H : ∀ a, 0 < a → a < N → ∃ i, a = g ^ i % N) {a : Nat} (h0 : 0 < a) (hlt : a < N) : a ^ (N - 1) % N = 1 := by
  obtain ⟨i, e⟩ := H a h0 hlt
  rw [e, ← Nat.pow_mod, ← Nat.pow_mul, Nat.mul_comm, Nat.pow_mul, Nat.pow_mod, h1, Nat.one_pow, Nat.mod_eq_of_lt hN]

def pm (N : Nat) : Nat → Nat → Nat → Nat → Nat
  | 0, _, _, acc => acc
  | f + 1, b, e, acc => pm N f (b * b % N) (e / 2) (if e % 2 = 1 then acc * b % N else acc)

theorem pm_spec (N : Nat) : ∀ (f b e acc : Nat), e < 2 ^ f → pm N f b e acc % N = acc * b ^ e % N
  | 0, b, e, acc, h => by
    have : e = 0 := by simpa using h
    subst this; simp [pm]
  | f + 1, b, e, acc, h => by
    rw [pm, pm_spec N f _ _ _ (by rw [Nat.pow_succ] at h; omega)]
    have e1 : b ^ e = (b * b) ^ (e / 2) * b ^ (e % 2) := by
      rw [← Nat.pow_two, ← Nat.pow_mul, ← Nat.pow_add]; congr 1; omega
    rw [e1, Nat.mul_mod, ← Nat.pow_mod]
    split
    · rename_i h2
      rw [h2, Nat.pow_one, Nat.mod_mod, ← Nat.mul_mod, Nat.mul_assoc, Nat.mul_comm b]
    · have h2 : e % 2 = 0 := by omega
      rw [h2, Nat.pow_zero, Nat.mul_one, ← Nat.mul_mod]

theorem pm_one {N f b e : Nat} (hN : 1 < N) (h : e < 2 ^ f) : b ^ e % N = pm N f b e 1 % N := by rw [pm_spec N f b e 1 h, Nat.one_mul]

/-- The check of a certificate. -/
def cert (N g : Nat) (ps : List Nat) : Bool :=
  decide (2 < N) && (decide (N < 2 ^ 256) && (prod ps == N - 1 && (pm N 256 g (N - 1) 1 % N == 1 && ps.all fun p => !(pm N 256 g ((N - 1) / p) 1 % N == 1))))

theorem cert_spec {N g : Nat} {ps : List Nat} (h : cert N g ps = true) (hps : ∀ p ∈ ps, Prm p) : Prm N ∧ (∀ a, 0 < a → a < N → a ^ (N - 1) % N = 1) := by
  simp only [cert, Bool.and_eq_true, decide_eq_true_eq, beq_iff_eq, List.all_eq_true, Bool.not_eq_true', beq_eq_false_iff_ne] at h
  obtain ⟨h1, h2, h3, h4, h5⟩ := h
  have e1 : g ^ (N - 1) % N = 1 := by rw [pm_one (f := 256) (by omega) (by omega)]; exact h4
  have := lucas ps h1 hps h3 e1 fun p hp => by
    rw [pm_one (f := 256) (by omega) (Nat.lt_of_le_of_lt (Nat.div_le_self _ _) (by omega))]; exact h5 p hp
  exact ⟨this.1, fun a h0 hlt => fermat (by omega) e1 this.2 h0 hlt⟩

def smallB (p : Nat) : Bool := decide (2 ≤ p) && (decide (p < 10000) && (List.range 100).all fun k => decide (k < 2) || (decide (p ≤ k) || !(p % k == 0)))

theorem small_spec {p : Nat} (h : smallB p = true) : Prm p := by
  simp only [smallB, Bool.and_eq_true, decide_eq_true_eq, List.all_eq_true, List.mem_range, Bool.or_eq_true, Bool.not_eq_true', beq_eq_false_iff_ne] at h
  obtain ⟨h1, h2, h3⟩ := h
  refine ⟨h1, fun d hd => ?_⟩
  obtain ⟨e, rfl⟩ := hd
  have hd0 : d ≠ 0 := by rintro rfl; omega
  have he0 : e ≠ 0 := by rintro rfl; omega
  by_cases c : d < 100
  · rcases h3 d c with h | h | h
    · left; omega
    · right
      have := Nat.le_mul_of_pos_right d (Nat.pos_of_ne_zero he0)
      omega
    · exact absurd (Nat.mul_mod_right d e) h
  · have c2 : e < 100 := by
      rcases Nat.lt_or_ge e 100 with h | h
      · exact h
      · have := Nat.mul_le_mul (show 100 ≤ d by omega) h; omega
    rcases h3 e c2 with h | h | h
    · right
      have : e = 1 := by omega
      rw [this, Nat.mul_one]
    · left
      have : d * e ≤ 1 * e := by omega
      have := Nat.le_of_mul_le_mul_right this (Nat.pos_of_ne_zero he0)
      omega
    · exact absurd (Nat.mul_mod_left d e) h

theorem smalls {l : List Nat} (h : l.all smallB = true) : ∀ p ∈ l, Prm p := fun p hp => small_spec (List.all_eq_true.1 h p hp)
theorem pr_17449 : Prm 17449 ∧ ∀ a, 0 < a → a < 17449 → a ^ (17449 - 1) % 17449 = 1 := by
  refine cert_spec (g := 14) (ps := [2, 2, 2, 3, 727]) (by decide +kernel) fun p hp => ?_
  simp only [List.mem_cons, List.not_mem_nil, or_false] at hp
  have h := smalls (l := [2, 3, 727]) (by decide +kernel)
  simp only [List.mem_cons, List.not_mem_nil, or_false] at h
  rcases hp with rfl | rfl | rfl | rfl | rfl <;> first  | exact h _ (by simp)

theorem pr_38189 : Prm 38189 ∧ ∀ a, 0 < a → a < 38189 → a ^ (38189 - 1) % 38189 = 1 := by
  refine cert_spec (g := 2) (ps := [2, 2, 9547]) (by decide +kernel) fun p hp => ?_
  simp only [List.mem_cons, List.not_mem_nil, or_false] at hp
  have h := smalls (l := [2, 9547]) (by decide +kernel)
  simp only [List.mem_cons, List.not_mem_nil, or_false] at h
  rcases hp with rfl | rfl | rfl <;> first  | exact h _ (by simp)

theorem pr_126241 : Prm 126241 ∧ ∀ a, 0 < a → a < 126241 → a ^ (126241 - 1) % 126241 = 1 := by
  refine cert_spec (g := 7) (ps := [2, 2, 2, 2, 2, 3, 5, 263]) (by decide +kernel) fun p hp => ?_
  simp only [List.mem_cons, List.not_mem_nil, or_false] at hp
  have h := smalls (l := [2, 3, 5, 263]) (by decide +kernel)
  simp only [List.mem_cons, List.not_mem_nil, or_false] at h
  rcases hp with rfl | rfl | rfl | rfl | rfl | rfl | rfl | rfl <;> first  | exact h _ (by simp)

theorem pr_104471 : Prm 104471 ∧ ∀ a, 0 < a → a < 104471 → a ^ (104471 - 1) % 104471 = 1 := by
  refine cert_spec (g := 11) (ps := [2, 5, 31, 337]) (by decide +kernel) fun p hp => ?_
  simp only [List.mem_cons, List.not_mem_nil, or_false] at hp
  have h := smalls (l := [2, 5, 31, 337]) (by decide +kernel)
  simp only [List.mem_cons, List.not_mem_nil, or_false] at h
  rcases hp with rfl | rfl | rfl | rfl <;> first  | exact h _ (by simp)

theorem pr_3969899 : Prm 3969899 ∧ ∀ a, 0 < a → a < 3969899 → a ^ (3969899 - 1) % 3969899 = 1 := by
  refine cert_spec (g := 2) (ps := [2, 19, 104471]) (by decide +kernel) fun p hp => ?_
  simp only [List.mem_cons, List.not_mem_nil, or_false] at hp
  have h := smalls (l := [2, 19]) (by decide +kernel)
  simp only [List.mem_cons, List.not_mem_nil, or_false] at h
  rcases hp with rfl | rfl | rfl <;> first | exact (pr_104471).1  | exact h _ (by simp)

theorem pr_1002328039319 : Prm 1002328039319 ∧ ∀ a, 0 < a → a < 1002328039319 → a ^ (1002328039319 - 1) % 1002328039319 = 1 := by
  refine cert_spec (g := 19) (ps := [2, 126241, 3969899]) (by decide +kernel) fun p hp => ?_
  simp only [List.mem_cons, List.not_mem_nil, or_false] at hp
  have h := smalls (l := [2]) (by decide +kernel)
  simp only [List.mem_cons, List.not_mem_nil, or_false] at h
  rcases hp with rfl | rfl | rfl <;> first | exact (pr_126241).1 | exact (pr_3969899).1  | exact h _ (by simp)

theorem pr_16879 : Prm 16879 ∧ ∀ a, 0 < a → a < 16879 → a ^ (16879 - 1) % 16879 = 1 := by
  refine cert_spec (g := 3) (ps := [2, 3, 29, 97]) (by decide +kernel) fun p hp => ?_
  simp only [List.mem_cons, List.not_mem_nil, or_false] at hp
  have h := smalls (l := [2, 3, 29, 97]) (by decide +kernel)
  simp only [List.mem_cons, List.not_mem_nil, or_false] at h
  rcases hp with rfl | rfl | rfl | rfl <;> first  | exact h _ (by simp)

theorem pr_155317 : Prm 155317 ∧ ∀ a, 0 < a → a < 155317 → a ^ (155317 - 1) % 155317 = 1 := by
  refine cert_spec (g := 5) (ps := [2, 2, 3, 7, 43, 43]) (by decide +kernel) fun p hp => ?_
  simp only [List.mem_cons, List.not_mem_nil, or_false] at hp
  have h := smalls (l := [2, 3, 7, 43]) (by decide +kernel)
  simp only [List.mem_cons, List.not_mem_nil, or_false] at h
  rcases hp with rfl | rfl | rfl | rfl | rfl | rfl <;> first  | exact h _ (by simp)

theorem pr_191039911 : Prm 191039911 ∧ ∀ a, 0 < a → a < 191039911 → a ^ (191039911 - 1) % 191039911 = 1 := by
  refine cert_spec (g := 3) (ps := [2, 3, 5, 41, 155317]) (by decide +kernel) fun p hp => ?_
  simp only [List.mem_cons, List.not_mem_nil, or_false] at hp
  have h := smalls (l := [2, 3, 5, 41]) (by decide +kernel)
  simp only [List.mem_cons, List.not_mem_nil, or_false] at h
  rcases hp with rfl | rfl | rfl | rfl | rfl <;> first | exact (pr_155317).1  | exact h _ (by simp)

theorem pr_208150935158385979 : Prm 208150935158385979 ∧ ∀ a, 0 < a → a < 208150935158385979 → a ^ (208150935158385979 - 1) % 208150935158385979 = 1 := by
  refine cert_spec (g := 2) (ps := [2, 3, 11, 43, 127, 3023, 191039911]) (by decide +kernel) fun p hp => ?_
  simp only [List.mem_cons, List.not_mem_nil, or_false] at hp
  have h := smalls (l := [2, 3, 11, 43, 127, 3023]) (by decide +kernel)
  simp only [List.mem_cons, List.not_mem_nil, or_false] at h
  rcases hp with rfl | rfl | rfl | rfl | rfl | rfl | rfl <;> first | exact (pr_191039911).1  | exact h _ (by simp)

theorem pr_2624747550333869278416773953 : Prm 2624747550333869278416773953 ∧ ∀ a, 0 < a → a < 2624747550333869278416773953 → a ^ (2624747550333869278416773953 - 1) % 2624747550333869278416773953 = 1 := by
  refine cert_spec (g := 7) (ps := [2, 2, 2, 2, 2, 2, 3, 3, 1297, 16879, 208150935158385979]) (by decide +kernel) fun p hp => ?_
  simp only [List.mem_cons, List.not_mem_nil, or_false] at hp
  have h := smalls (l := [2, 3, 1297]) (by decide +kernel)
  simp only [List.mem_cons, List.not_mem_nil, or_false] at h
  rcases hp with rfl | rfl | rfl | rfl | rfl | rfl | rfl | rfl | rfl | rfl | rfl <;> first | exact (pr_16879).1 | exact (pr_208150935158385979).1  | exact h _ (by simp)

theorem pr_311245691 : Prm 311245691 ∧ ∀ a, 0 < a → a < 311245691 → a ^ (311245691 - 1) % 311245691 = 1 := by
  refine cert_spec (g := 2) (ps := [2, 5, 7, 17, 29, 29, 311]) (by decide +kernel) fun p hp => ?_
  simp only [List.mem_cons, List.not_mem_nil, or_false] at hp
  have h := smalls (l := [2, 5, 7, 17, 29, 311]) (by decide +kernel)
  simp only [List.mem_cons, List.not_mem_nil, or_false] at h
  rcases hp with rfl | rfl | rfl | rfl | rfl | rfl | rfl <;> first  | exact h _ (by simp)

theorem pr_622491383 : Prm 622491383 ∧ ∀ a, 0 < a → a < 622491383 → a ^ (622491383 - 1) % 622491383 = 1 := by
  refine cert_spec (g := 5) (ps := [2, 311245691]) (by decide +kernel) fun p hp => ?_
  simp only [List.mem_cons, List.not_mem_nil, or_false] at hp
  have h := smalls (l := [2]) (by decide +kernel)
  simp only [List.mem_cons, List.not_mem_nil, or_false] at h
  rcases hp with rfl | rfl <;> first | exact (pr_311245691).1  | exact h _ (by simp)

theorem pr_9350987 : Prm 9350987 ∧ ∀ a, 0 < a → a < 9350987 → a ^ (9350987 - 1) % 9350987 = 1 := by
  refine cert_spec (g := 2) (ps := [2, 17, 229, 1201]) (by decide +kernel) fun p hp => ?_
  simp only [List.mem_cons, List.not_mem_nil, or_false] at hp
  have h := smalls (l := [2, 17, 229, 1201]) (by decide +kernel)
  simp only [List.mem_cons, List.not_mem_nil, or_false] at h
  rcases hp with rfl | rfl | rfl | rfl <;> first  | exact h _ (by simp)

theorem pr_187019741 : Prm 187019741 ∧ ∀ a, 0 < a → a < 187019741 → a ^ (187019741 - 1) % 187019741 = 1 := by
  refine cert_spec (g := 2) (ps := [2, 2, 5, 9350987]) (by decide +kernel) fun p hp => ?_
  simp only [List.mem_cons, List.not_mem_nil, or_false] at hp
  have h := smalls (l := [2, 5]) (by decide +kernel)
  simp only [List.mem_cons, List.not_mem_nil, or_false] at h
  rcases hp with rfl | rfl | rfl | rfl <;> first | exact (pr_9350987).1  | exact h _ (by simp)

theorem pr_115792089210356248762697446949407573529996955224135760342422259061068512044369 : Prm 115792089210356248762697446949407573529996955224135760342422259061068512044369 ∧ ∀ a, 0 < a → a < 115792089210356248762697446949407573529996955224135760342422259061068512044369 → a ^ (115792089210356248762697446949407573529996955224135760342422259061068512044369 - 1) % 115792089210356248762697446949407573529996955224135760342422259061068512044369 = 1 := by
  refine cert_spec (g := 7) (ps := [2, 2, 2, 2, 3, 71, 131, 373, 3407, 17449, 38189, 187019741, 622491383, 1002328039319, 2624747550333869278416773953]) (by decide +kernel) fun p hp => ?_
  simp only [List.mem_cons, List.not_mem_nil, or_false] at hp
  have h := smalls (l := [2, 3, 71, 131, 373, 3407]) (by decide +kernel)
  simp only [List.mem_cons, List.not_mem_nil, or_false] at h
  rcases hp with rfl | rfl | rfl | rfl | rfl | rfl | rfl | rfl | rfl | rfl | rfl | rfl | rfl | rfl | rfl <;> first | exact (pr_17449).1 | exact (pr_38189).1 | exact (pr_187019741).1 | exact (pr_622491383).1 | exact (pr_1002328039319).1 | exact (pr_2624747550333869278416773953).1  | exact h _ (by simp)

theorem pr_65537 : Prm 65537 ∧ ∀ a, 0 < a → a < 65537 → a ^ (65537 - 1) % 65537 = 1 := by
  refine cert_spec (g := 3) (ps := [2, 2, 2, 2, 2, 2, 2, 2, 2, 2, 2, 2, 2, 2, 2, 2]) (by decide +kernel) fun p hp => ?_
  simp only [List.mem_cons, List.not_mem_nil, or_false] at hp
  have h := smalls (l := [2]) (by decide +kernel)
  simp only [List.mem_cons, List.not_mem_nil, or_false] at h
  rcases hp with rfl | rfl | rfl | rfl | rfl | rfl | rfl | rfl | rfl | rfl | rfl | rfl | rfl | rfl | rfl | rfl <;> first  | exact h _ (by simp)

theorem pr_6700417 : Prm 6700417 ∧ ∀ a, 0 < a → a < 6700417 → a ^ (6700417 - 1) % 6700417 = 1 := by
  refine cert_spec (g := 5) (ps := [2, 2, 2, 2, 2, 2, 2, 3, 17449]) (by decide +kernel) fun p hp => ?_
  simp only [List.mem_cons, List.not_mem_nil, or_false] at hp
  have h := smalls (l := [2, 3]) (by decide +kernel)
  simp only [List.mem_cons, List.not_mem_nil, or_false] at h
  rcases hp with rfl | rfl | rfl | rfl | rfl | rfl | rfl | rfl | rfl <;> first | exact (pr_17449).1  | exact h _ (by simp)

theorem pr_66417393611 : Prm 66417393611 ∧ ∀ a, 0 < a → a < 66417393611 → a ^ (66417393611 - 1) % 66417393611 = 1 := by
  refine cert_spec (g := 6) (ps := [2, 5, 53, 173, 197, 3677]) (by decide +kernel) fun p hp => ?_
  simp only [List.mem_cons, List.not_mem_nil, or_false] at hp
  have h := smalls (l := [2, 5, 53, 173, 197, 3677]) (by decide +kernel)
  simp only [List.mem_cons, List.not_mem_nil, or_false] at h
  rcases hp with rfl | rfl | rfl | rfl | rfl | rfl <;> first  | exact h _ (by simp)

theorem pr_11290956913871 : Prm 11290956913871 ∧ ∀ a, 0 < a → a < 11290956913871 → a ^ (11290956913871 - 1) % 11290956913871 = 1 := by
  refine cert_spec (g := 13) (ps := [2, 5, 17, 66417393611]) (by decide +kernel) fun p hp => ?_
  simp only [List.mem_cons, List.not_mem_nil, or_false] at hp
  have h := smalls (l := [2, 5, 17]) (by decide +kernel)
  simp only [List.mem_cons, List.not_mem_nil, or_false] at h
  rcases hp with rfl | rfl | rfl | rfl <;> first | exact (pr_66417393611).1  | exact h _ (by simp)

theorem pr_78283 : Prm 78283 ∧ ∀ a, 0 < a → a < 78283 → a ^ (78283 - 1) % 78283 = 1 := by
  refine cert_spec (g := 3) (ps := [2, 3, 3, 4349]) (by decide +kernel) fun p hp => ?_
  simp only [List.mem_cons, List.not_mem_nil, or_false] at hp
  have h := smalls (l := [2, 3, 4349]) (by decide +kernel)
  simp only [List.mem_cons, List.not_mem_nil, or_false] at h
  rcases hp with rfl | rfl | rfl | rfl <;> first  | exact h _ (by simp)

theorem pr_18169 : Prm 18169 ∧ ∀ a, 0 < a → a < 18169 → a ^ (18169 - 1) % 18169 = 1 := by
  refine cert_spec (g := 11) (ps := [2, 2, 2, 3, 757]) (by decide +kernel) fun p hp => ?_
  simp only [List.mem_cons, List.not_mem_nil, or_false] at hp
  have h := smalls (l := [2, 3, 757]) (by decide +kernel)
  simp only [List.mem_cons, List.not_mem_nil, or_false] at h
  rcases hp with rfl | rfl | rfl | rfl | rfl <;> first  | exact h _ (by simp)

theorem pr_704251 : Prm 704251 ∧ ∀ a, 0 < a → a < 704251 → a ^ (704251 - 1) % 704251 = 1 := by
  refine cert_spec (g := 2) (ps := [2, 3, 3, 5, 5, 5, 313]) (by decide +kernel) fun p hp => ?_
  simp only [List.mem_cons, List.not_mem_nil, or_false] at hp
  have h := smalls (l := [2, 3, 5, 313]) (by decide +kernel)
  simp only [List.mem_cons, List.not_mem_nil, or_false] at h
  rcases hp with rfl | rfl | rfl | rfl | rfl | rfl | rfl <;> first  | exact h _ (by simp)

theorem pr_46076956964474543 : Prm 46076956964474543 ∧ ∀ a, 0 < a → a < 46076956964474543 → a ^ (46076956964474543 - 1) % 46076956964474543 = 1 := by
  refine cert_spec (g := 5) (ps := [2, 23, 18169, 78283, 704251]) (by decide +kernel) fun p hp => ?_
  simp only [List.mem_cons, List.not_mem_nil, or_false] at hp
  have h := smalls (l := [2, 23]) (by decide +kernel)
  simp only [List.mem_cons, List.not_mem_nil, or_false] at h
  rcases hp with rfl | rfl | rfl | rfl | rfl <;> first | exact (pr_18169).1 | exact (pr_78283).1 | exact (pr_704251).1  | exact h _ (by simp)

theorem pr_204061199 : Prm 204061199 ∧ ∀ a, 0 < a → a < 204061199 → a ^ (204061199 - 1) % 204061199 = 1 := by
  refine cert_spec (g := 11) (ps := [2, 11, 23, 107, 3769]) (by decide +kernel) fun p hp => ?_
  simp only [List.mem_cons, List.not_mem_nil, or_false] at hp
  have h := smalls (l := [2, 11, 23, 107, 3769]) (by decide +kernel)
  simp only [List.mem_cons, List.not_mem_nil, or_false] at h
  rcases hp with rfl | rfl | rfl | rfl | rfl <;> first  | exact h _ (by simp)

theorem pr_34282281433 : Prm 34282281433 ∧ ∀ a, 0 < a → a < 34282281433 → a ^ (34282281433 - 1) % 34282281433 = 1 := by
  refine cert_spec (g := 17) (ps := [2, 2, 2, 3, 7, 204061199]) (by decide +kernel) fun p hp => ?_
  simp only [List.mem_cons, List.not_mem_nil, or_false] at hp
  have h := smalls (l := [2, 3, 7]) (by decide +kernel)
  simp only [List.mem_cons, List.not_mem_nil, or_false] at h
  rcases hp with rfl | rfl | rfl | rfl | rfl | rfl <;> first | exact (pr_204061199).1  | exact h _ (by simp)

theorem pr_774023187263532362759620327192479577272145303 : Prm 774023187263532362759620327192479577272145303 ∧ ∀ a, 0 < a → a < 774023187263532362759620327192479577272145303 → a ^ (774023187263532362759620327192479577272145303 - 1) % 774023187263532362759620327192479577272145303 = 1 := by
  refine cert_spec (g := 3) (ps := [2, 3, 3, 2411, 34282281433, 11290956913871, 46076956964474543]) (by decide +kernel) fun p hp => ?_
  simp only [List.mem_cons, List.not_mem_nil, or_false] at hp
  have h := smalls (l := [2, 3, 2411]) (by decide +kernel)
  simp only [List.mem_cons, List.not_mem_nil, or_false] at h
  rcases hp with rfl | rfl | rfl | rfl | rfl | rfl | rfl <;> first | exact (pr_34282281433).1 | exact (pr_11290956913871).1 | exact (pr_46076956964474543).1  | exact h _ (by simp)

theorem pr_835945042244614951780389953367877943453916927241 : Prm 835945042244614951780389953367877943453916927241 ∧ ∀ a, 0 < a → a < 835945042244614951780389953367877943453916927241 → a ^ (835945042244614951780389953367877943453916927241 - 1) % 835945042244614951780389953367877943453916927241 = 1 := by
  refine cert_spec (g := 11) (ps := [2, 2, 2, 3, 3, 3, 5, 774023187263532362759620327192479577272145303]) (by decide +kernel) fun p hp => ?_
  simp only [List.mem_cons, List.not_mem_nil, or_false] at hp
  have h := smalls (l := [2, 3, 5]) (by decide +kernel)
  simp only [List.mem_cons, List.not_mem_nil, or_false] at h
  rcases hp with rfl | rfl | rfl | rfl | rfl | rfl | rfl | rfl <;> first | exact (pr_774023187263532362759620327192479577272145303).1  | exact h _ (by simp)

theorem pr_490463 : Prm 490463 ∧ ∀ a, 0 < a → a < 490463 → a ^ (490463 - 1) % 490463 = 1 := by
  refine cert_spec (g := 14) (ps := [2, 7, 53, 661]) (by decide +kernel) fun p hp => ?_
  simp only [List.mem_cons, List.not_mem_nil, or_false] at hp
  have h := smalls (l := [2, 7, 53, 661]) (by decide +kernel)
  simp only [List.mem_cons, List.not_mem_nil, or_false] at h
  rcases hp with rfl | rfl | rfl | rfl <;> first  | exact h _ (by simp)

theorem pr_115792089210356248762697446949407573530086143415290314195533631308867097853951 : Prm 115792089210356248762697446949407573530086143415290314195533631308867097853951 ∧ ∀ a, 0 < a → a < 115792089210356248762697446949407573530086143415290314195533631308867097853951 → a ^ (115792089210356248762697446949407573530086143415290314195533631308867097853951 - 1) % 115792089210356248762697446949407573530086143415290314195533631308867097853951 = 1 := by
  refine cert_spec (g := 6) (ps := [2, 3, 5, 5, 17, 257, 641, 1531, 65537, 490463, 6700417, 835945042244614951780389953367877943453916927241]) (by decide +kernel) fun p hp => ?_
  simp only [List.mem_cons, List.not_mem_nil, or_false] at hp
  have h := smalls (l := [2, 3, 5, 17, 257, 641, 1531]) (by decide +kernel)
  simp only [List.mem_cons, List.not_mem_nil, or_false] at h
  rcases hp with rfl | rfl | rfl | rfl | rfl | rfl | rfl | rfl | rfl | rfl | rfl | rfl <;> first | exact (pr_65537).1 | exact (pr_490463).1 | exact (pr_6700417).1 | exact (pr_835945042244614951780389953367877943453916927241).1  | exact h _ (by simp)


end Go.Eng
