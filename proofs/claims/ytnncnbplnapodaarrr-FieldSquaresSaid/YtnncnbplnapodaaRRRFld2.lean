/- Walks through the roots of the package field. It has no conditions. -/
import Derived.Test.YtnncnbplnapodaaRRRFld1
import Derived.Test.YtnncnbplnapodaaRRRNum9
namespace Go.Proofs.YtnncnbplnapodaaRRR
open Go.Eng Go.RowKit
set_option maxRecDepth 1000000
set_option maxHeartbeats 4000000
set_option linter.unusedSimpArgs false
set_option linter.unusedVariables false

def squaresF (N : Ap) : List SV → Bool × SV
  | [m, a, k] => match m.modn N, a.num256 N, k.i64 with
    | some (M, n, _), some a, some k => (ap2 N okMod M n && (ap2 N ltb a M && ap1 N (fun k => decide (0 ≤ k)) k), numV N (ap3 N sqk M a k))
    | _, _, _ => (false, .bad)
  | _ => (false, .bad)

theorem squaresF_ids {N : Ap} {args : List SV} {v : SV} (hF : squaresF N args = (true, v)) : SV.idsLts 0 args = true := by
  unfold squaresF at hF
  split at hF
  · split at hF
    · rename_i ha hb hc
      simp [SV.idsLts, modn_ids ha, num256_ids hb, i64_ids hc]
    · cases hF
  · cases hF

def sqH (m0 m1 m2 m3 n r0 r1 r2 r3 : Int) : (Int × Int × Int × Int) × Int → St
  | ((a0, a1, a2, a3), k) => ⟨[(2, .int .i64 k), (3, .ptr 0 0), (4, .ptr 1 0), (6, .ptr 2 0)],
    [⟨.lit [.int .u64 m0, .int .u64 m1, .int .u64 m2, .int .u64 m3, .int .u64 n, .int .u64 r0, .int .u64 r1, .int .u64 r2, .int .u64 r3], .var⟩, ⟨.lit [.int .u64 a0, .int .u64 a1, .int .u64 a2, .int .u64 a3], .var⟩,
      ⟨.lit [.num .u64 0, .num .u64 0, .num .u64 0, .num .u64 0], .var⟩], true⟩
def sqEx (S : St) : (Int × Int × Int × Int) × Int := ((cellI S 1 0, cellI S 1 1, cellI S 1 2, cellI S 1 3), slotI S 2)
def sqOk (M r : Int) (d : (Int × Int × Int × Int) × Int) : Prop := (match d.1 with
  | (a0, a1, a2, a3) => (W a0 ∧ W a1 ∧ W a2 ∧ W a3) ∧ num4 a0 a1 a2 a3 < M ∧ sqk M (num4 a0 a1 a2 a3) d.2 = r) ∧ 0 ≤ d.2 ∧ d.2 < 9223372036854775808

abbrev sqL (N : Ap) : Pure := [(65, mmulF N)]

theorem sq_next {M r a0 a1 a2 a3 k n : Int} (hok : okMod M n = true) (h : sqOk M r ((a0, a1, a2, a3), k)) :
    (k = 0 → numV apStd r = wordsV a0 a1 a2 a3) ∧ (k ≠ 0 → ∀ z k', z = mmul M (num4 a0 a1 a2 a3) (num4 a0 a1 a2 a3) → k' = k - 1 → sqOk M r ((l0 z, l1 z, l2 z, l3 z), k') ∧ k'.toNat < k.toNat) := by
  obtain ⟨⟨wa, hl, hr⟩, h0, h1⟩ := h
  simp only at wa hl hr h0 h1
  obtain ⟨_, _, g1, g2, _⟩ := okMod_spec hok
  refine ⟨fun hz => ?_, fun hz z k' ez ek => ?_⟩
  · subst hz
    rw [← hr]; exact words_num wa
  · have hz0 := mmul_range (show 0 < M by omega) (num4 a0 a1 a2 a3) (num4 a0 a1 a2 a3)
    rw [← ez] at hz0
    refine ⟨⟨⟨⟨l0_w z, l1_w z, l2_w z, l3_w z⟩, ?_, ?_⟩, by simp only; omega, by simp only; omega⟩, by omega⟩
    · rw [num4_mod ⟨hz0.1, by omega⟩]; exact hz0.2
    · simp only
      rw [num4_mod ⟨hz0.1, by omega⟩, ← hr]
      unfold sqk
      have : k.toNat = k'.toNat + 1 := by omega
      rw [this, ez]; rfl

theorem squares_vc (A : Ar) (L : LP) (S' : SCP) (N : Ap) (m0 m1 m2 m3 n r0 r1 r2 r3 a0 a1 a2 a3 k : Int) (hL : L = ALoop 0) (hS : S' = AScope 0 (awp (cx A L (sqL N)))) (hA : A = std) (hN : N = apStd) (ha : W a0 ∧ W a1 ∧ W a2 ∧ W a3)
    (hok : okMod (num4 m0 m1 m2 m3) n = true) (hlt : num4 a0 a1 a2 a3 < num4 m0 m1 m2 m3) (hk0 : 0 ≤ k) (hk1 : k < 9223372036854775808) (v : SV) (K : Bool → SV → List Blk → Prop) (hK : K = FinP v) (hv : v = numV apStd (sqk (num4 m0 m1 m2 m3) (num4 a0 a1 a2 a3) k)) :
    Shut (afun (cxh A L S' (sqL N) [] [] dy0) Try.f80 [modV m0 m1 m2 m3 n r0 r1 r2 r3, wordsV a0 a1 a2 a3, .int .i64 k] [] K) := by
  obtain ⟨ok, hk⟩ : ∃ f, f = sqOk (num4 m0 m1 m2 m3) (sqk (num4 m0 m1 m2 m3) (num4 a0 a1 a2 a3) k) := ⟨_, rfl⟩
  have c1 : ap2 N okMod (ap4 N num4 m0 m1 m2 m3) n = true := by subst hN; exact hok
  have key : ∀ x0 x1 x2 x3 j, sqOk (num4 m0 m1 m2 m3) (sqk (num4 m0 m1 m2 m3) (num4 a0 a1 a2 a3) k) ((x0, x1, x2, x3), j) → ap3 N mcond (ap4 N num4 m0 m1 m2 m3) (ap4 N num4 x0 x1 x2 x3) (ap4 N num4 x0 x1 x2 x3) = true ∧ (j ≠ 0 → A.iop .sub .i64 j 1 = j - 1) := by
    intro x0 x1 x2 x3 j h
    obtain ⟨⟨_, hl, _⟩, h0, h1⟩ := h
    simp only at hl h0 h1
    refine ⟨?_, fun hj => ?_⟩
    · subst hN
      have h : mcond (num4 m0 m1 m2 m3) (num4 x0 x1 x2 x3) (num4 x0 x1 x2 x3) = true := by simp [mcond, hl]
      exact h
    · subst hA
      show IntKind.i64.wrap (j - 1) = _
      rw [IntKind.wrap_i64]; omega
  have st : sqOk (num4 m0 m1 m2 m3) (sqk (num4 m0 m1 m2 m3) (num4 a0 a1 a2 a3) k) ((a0, a1, a2, a3), k) := ⟨⟨ha, hlt, rfl⟩, hk0, hk1⟩
  simp only [ap2, ap3, ap4] at c1 key
  obtain ⟨fi, fc, fw, fb, fn, fo, fs, fa, fe, fz, fy, ff, fl⟩ := A
  dsimp only at key
  apply Shut.mk
  cbv
  refine sc_mu (C := cx _ L (sqL N)) hS 0 _ rfl sqEx (sqH m0 m1 m2 m3 n r0 r1 r2 r3) ok (fun d => d.2.toNat) ?_ ?_ hL
  · obtain ⟨k1, k2⟩ := key _ _ _ _ _ st
    obtain ⟨n1, n2⟩ := sq_next hok st
    obtain ⟨p, hp⟩ : ∃ p, fc .eql k 0 = p := ⟨_, rfl⟩
    cases p
    · cbv
      repeat (simp only [hp, c1, k1]; cbv)
      cases hA; subst hN; subst hk
      have hz : k ≠ 0 := by simpa [icmp] using hp
      exact ⟨(n2 hz _ _ rfl (k2 hz)).1, trivial⟩
    · cbv
      repeat (simp only [hp, c1, k1]; cbv)
      cases hA; subst hN; subst hk
      have hz : k = 0 := by simpa [icmp] using hp
      refine fin_of hK rfl rfl ?_
      rw [hv, n1 hz]; rfl
  · intro d hd
    obtain ⟨⟨x0, x1, x2, x3⟩, j⟩ := d
    rw [hk] at hd
    obtain ⟨k1, k2⟩ := key _ _ _ _ _ hd
    obtain ⟨n1, n2⟩ := sq_next hok hd
    obtain ⟨p, hp⟩ : ∃ p, fc .eql j 0 = p := ⟨_, rfl⟩
    cases p
    · cbv
      repeat (simp only [hp, c1, k1]; cbv)
      cases hA; subst hN; subst hk
      have hz : j ≠ 0 := by simpa [icmp] using hp
      exact ⟨(n2 hz _ _ rfl (k2 hz)).2, (n2 hz _ _ rfl (k2 hz)).1, trivial⟩
    · cbv
      repeat (simp only [hp, c1, k1]; cbv)
      cases hA; subst hN; subst hk
      have hz : j = 0 := by simpa [icmp] using hp
      refine fin_of hK rfl rfl ?_
      rw [hv, n1 hz]; rfl

theorem args_squares {x y z : SV} {M n r a k : Int} (hx : x.modn apStd = some (M, n, r)) (hy : y.num256 apStd = some a) (hz : z.i64 = some k) {us : List Value} {m : List Pl} (h : SV.vals m [x, y, z] = some us) :
    ∃ m0 m1 m2 m3 r0 r1 r2 r3 a0 a1 a2 a3, (W m0 ∧ W m1 ∧ W m2 ∧ W m3) ∧ W n ∧ (W a0 ∧ W a1 ∧ W a2 ∧ W a3) ∧ IntKind.i64.wrap k = k ∧ M = num4 m0 m1 m2 m3 ∧ a = num4 a0 a1 a2 a3 ∧
      SV.vals [] [modV m0 m1 m2 m3 n r0 r1 r2 r3, wordsV a0 a1 a2 a3, .int .i64 k] = some us := by
  obtain ⟨u, v, w, rfl, hu, hv, hw⟩ := vals_three h
  obtain ⟨m0, m1, m2, m3, r0, r1, r2, r3, wm, wn, wr, e, e', f⟩ := modn_of hx hu
  obtain ⟨a0, a1, a2, a3, g1, g2, g3, g4, e2, f2⟩ := num256_of hy hv
  obtain ⟨rfl, hk⟩ := i64_of hz hw
  exact ⟨m0, m1, m2, m3, r0, r1, r2, r3, a0, a1, a2, a3, wm, wn, ⟨g1, g2, g3, g4⟩, hk, e, e2, by simp [SV.vals, f, f2, SV.val, hk]⟩

theorem goodj {l : Pure} (h : ∀ p ∈ l, Con Try.prog p.1 p.2) : Eng.Good Try.prog (cxh std (ALoop 0) (AScope 0 (awp (cx std (ALoop 0) l))) l [] [] dy0) 0 :=
  ⟨good0 rfl h (by simp), rfl, .inl rfl, by exact Nat.zero_le _⟩

theorem con_squares : Con Try.prog 80 (squaresF apStd) := by
  refine con_shut Try.func80 rfl (by kernel_rfl) (fun args v us hF hv => ?_) (fun args v hF => squaresF_ids hF)
  unfold squaresF at hF
  split at hF
  · split at hF
    · rename_i M n r a k hm ha hk
      simp only [Prod.mk.injEq, Bool.and_eq_true, ap1_std, ap2_std, ap3_std, decide_eq_true_eq] at hF
      obtain ⟨⟨hok, hl, h0⟩, hF⟩ := hF
      obtain ⟨m0, m1, m2, m3, r0, r1, r2, r3, a0, a1, a2, a3, wm, wn, wa, wk, rfl, rfl, hus⟩ := args_squares hm ha hk hv
      have hl : num4 a0 a1 a2 a3 < num4 m0 m1 m2 m3 := by simpa [ltb] using hl
      have h1 : k < 9223372036854775808 := by rw [IntKind.wrap_i64] at wk; omega
      exact ⟨_, _, goodj (l := sqL apStd) (by intro p hp; simp at hp; subst hp; exact con_mmul), rfl, by kernel_rfl, hus, Nat.le_of_ble_eq_true rfl, squares_vc std (ALoop 0) _ apStd m0 m1 m2 m3 n r0 r1 r2 r3 a0 a1 a2 a3 k rfl rfl rfl rfl wa hok hl h0 h1 v (FinP v) rfl hF.symm⟩
    · cases hF
  · cases hF

/-! The root. -/

def sqrtF (N : Ap) : List SV → Bool × SV
  | [a] => match a.num256 N with
    | some a => (true, .tup [numV N (ap1 N rootV a), .bool (ap1 N rootB a)])
    | _ => (false, .bad)
  | _ => (false, .bad)

theorem sqrtF_ids {N : Ap} {args : List SV} {v : SV} (hF : sqrtF N args = (true, v)) : SV.idsLts 0 args = true := by
  unfold sqrtF at hF
  split at hF
  · split at hF
    · rename_i ha
      simp [SV.idsLts, num256_ids ha]
    · cases hF
  · cases hF

theorem sqk_range {M a : Int} (hM : 0 < M) (n : Int) (h : 0 ≤ a ∧ a < M) : 0 ≤ sqk M a n ∧ sqk M a n < M := by
  have : ∀ (k : Nat) (a : Int), 0 ≤ a ∧ a < M → 0 ≤ sqs M k a ∧ sqs M k a < M := by
    intro k
    induction k with
    | zero => exact fun a h => h
    | succ k ih => exact fun a _ => ih _ (mmul_range hM a a)
  exact this _ _ h

theorem sqrt_vc (A : Ar) (L : LP) (N : Ap) (Q : Int) (a0 a1 a2 a3 : Int) (hL : L = ALoop 0) (hA : A = std) (hN : N = apStd) (hQ : Q = pN) (ha : W a0 ∧ W a1 ∧ W a2 ∧ W a3) (v : SV) (K : Bool → SV → List Blk → Prop) (hK : K = FinP v)
    (hv : v = .tup [numV apStd (rootV (num4 a0 a1 a2 a3)), .bool (rootB (num4 a0 a1 a2 a3))]) :
    Shut (afun (cx A L [(77, nul0F fmV), (66, minF N), (80, squaresF N), (65, mmulF N), (81, moutF N), (57, smul N Q), (69, cutF N), (75, msubF N)]) Try.f58 [wordsV a0 a1 a2 a3] [] K) := by
  obtain ⟨P, eP⟩ : ∃ P, ap4 N num4 18446744073709551615 4294967295 0 18446744069414584321 = P := ⟨_, rfl⟩
  have hP : P = pN := by rw [← eP]; subst hN; exact flit
  obtain ⟨RR, eR⟩ : ∃ RR, ap4 N num4 3 18446744056529682431 18446744073709551614 21474836477 = RR := ⟨_, rfl⟩
  have hR : RR = rrOf pN := by rw [← eR]; subst hN; exact frr
  have z1 : ap4 N num4 0 0 0 0 = 0 := by subst hN; rfl
  have ok0 : ap2 N okMod P 1 = true := by rw [hP]; subst hN; decide
  have r0 : ∀ x y, 0 ≤ mmul pN x y ∧ mmul pN x y < pN := mmul_range (by decide)
  have lt : ∀ z, 0 ≤ z ∧ z < pN → ap4 N num4 (ap1 N l0 z) (ap1 N l1 z) (ap1 N l2 z) (ap1 N l3 z) = z := fun z h => by
    subst hN
    have : pN < M256 := by decide
    exact num4_mod ⟨h.1, by omega⟩
  have mc : ∀ x y, 0 ≤ x ∧ x < pN → ap3 N mcond P x y = true := fun x y h => by
    rw [hP]; subst hN
    show mcond pN x y = true
    simp [mcond, h.2]
  have lb : ∀ x, 0 ≤ x ∧ x < pN → ap2 N ltb x P = true := fun x h => by
    rw [hP]; subst hN
    show ltb x pN = true
    simp [ltb, h.2]
  have kk : ∀ k : Int, 0 ≤ k → ap1 N (fun k : Int => decide (0 ≤ k)) k = true := fun k h => by subst hN; simp [ap1_std, h]
  -- the chain, one number behind the other
  obtain ⟨x, ex⟩ : ∃ x, ap3 N mmul P (ap4 N num4 a0 a1 a2 a3) RR = x := ⟨_, rfl⟩
  have ex' : x = chX (num4 a0 a1 a2 a3) := by rw [← ex, hP, hR]; subst hN; rfl
  have rx : 0 ≤ x ∧ x < pN := by rw [ex']; exact r0 _ _
  have c0 : ap3 N mcond P (ap4 N num4 a0 a1 a2 a3) RR = true := by
    rw [hP, hR]; subst hN; show mcond pN _ _ = true
    simp [mcond, show rrOf pN < pN by decide]
  have lx := lt x rx
  have lbx := lb x rx
  obtain ⟨stwo, estwo⟩ : ∃ z, ap3 N sqk P x 1 = z := ⟨_, rfl⟩
  have estwo' : stwo = sqk pN x 1 := by rw [← estwo, hP]; subst hN; rfl
  have rstwo : 0 ≤ stwo ∧ stwo < pN := by rw [estwo']; exact sqk_range (by decide) _ rx
  obtain ⟨two, etwo⟩ : ∃ z, ap3 N mmul P stwo x = z := ⟨_, rfl⟩
  have etwo' : two = chStep x x 1 := by rw [← etwo, hP, estwo']; subst hN; rfl
  have rtwo : 0 ≤ two ∧ two < pN := by rw [etwo']; exact r0 _ _
  have ltwo := lt two rtwo
  have lstwo := lt stwo rstwo
  have lbtwo := lb two rtwo
  have ktwo := kk 1 (by decide)
  have ctwo := mc stwo x rstwo
  obtain ⟨sfour, esfour⟩ : ∃ z, ap3 N sqk P two 2 = z := ⟨_, rfl⟩
  have esfour' : sfour = sqk pN two 2 := by rw [← esfour, hP]; subst hN; rfl
  have rsfour : 0 ≤ sfour ∧ sfour < pN := by rw [esfour']; exact sqk_range (by decide) _ rtwo
  obtain ⟨four, efour⟩ : ∃ z, ap3 N mmul P sfour two = z := ⟨_, rfl⟩
  have efour' : four = chStep two two 2 := by rw [← efour, hP, esfour']; subst hN; rfl
  have rfour : 0 ≤ four ∧ four < pN := by rw [efour']; exact r0 _ _
  have lfour := lt four rfour
  have lsfour := lt sfour rsfour
  have lbfour := lb four rfour
  have kfour := kk 2 (by decide)
  have cfour := mc sfour two rsfour
  obtain ⟨seight, eseight⟩ : ∃ z, ap3 N sqk P four 4 = z := ⟨_, rfl⟩
  have eseight' : seight = sqk pN four 4 := by rw [← eseight, hP]; subst hN; rfl
  have rseight : 0 ≤ seight ∧ seight < pN := by rw [eseight']; exact sqk_range (by decide) _ rfour
  obtain ⟨eight, eeight⟩ : ∃ z, ap3 N mmul P seight four = z := ⟨_, rfl⟩
  have eeight' : eight = chStep four four 4 := by rw [← eeight, hP, eseight']; subst hN; rfl
  have reight : 0 ≤ eight ∧ eight < pN := by rw [eeight']; exact r0 _ _
  have leight := lt eight reight
  have lseight := lt seight rseight
  have lbeight := lb eight reight
  have keight := kk 4 (by decide)
  have ceight := mc seight four rseight
  obtain ⟨ssixteen, essixteen⟩ : ∃ z, ap3 N sqk P eight 8 = z := ⟨_, rfl⟩
  have essixteen' : ssixteen = sqk pN eight 8 := by rw [← essixteen, hP]; subst hN; rfl
  have rssixteen : 0 ≤ ssixteen ∧ ssixteen < pN := by rw [essixteen']; exact sqk_range (by decide) _ reight
  obtain ⟨sixteen, esixteen⟩ : ∃ z, ap3 N mmul P ssixteen eight = z := ⟨_, rfl⟩
  have esixteen' : sixteen = chStep eight eight 8 := by rw [← esixteen, hP, essixteen']; subst hN; rfl
  have rsixteen : 0 ≤ sixteen ∧ sixteen < pN := by rw [esixteen']; exact r0 _ _
  have lsixteen := lt sixteen rsixteen
  have lssixteen := lt ssixteen rssixteen
  have lbsixteen := lb sixteen rsixteen
  have ksixteen := kk 8 (by decide)
  have csixteen := mc ssixteen eight rssixteen
  obtain ⟨shalf, eshalf⟩ : ∃ z, ap3 N sqk P sixteen 16 = z := ⟨_, rfl⟩
  have eshalf' : shalf = sqk pN sixteen 16 := by rw [← eshalf, hP]; subst hN; rfl
  have rshalf : 0 ≤ shalf ∧ shalf < pN := by rw [eshalf']; exact sqk_range (by decide) _ rsixteen
  obtain ⟨half, ehalf⟩ : ∃ z, ap3 N mmul P shalf sixteen = z := ⟨_, rfl⟩
  have ehalf' : half = chStep sixteen sixteen 16 := by rw [← ehalf, hP, eshalf']; subst hN; rfl
  have rhalf : 0 ≤ half ∧ half < pN := by rw [ehalf']; exact r0 _ _
  have lhalf := lt half rhalf
  have lshalf := lt shalf rshalf
  have lbhalf := lb half rhalf
  have khalf := kk 16 (by decide)
  have chalf := mc shalf sixteen rshalf
  obtain ⟨srA, esrA⟩ : ∃ z, ap3 N sqk P half 32 = z := ⟨_, rfl⟩
  have esrA' : srA = sqk pN half 32 := by rw [← esrA, hP]; subst hN; rfl
  have rsrA : 0 ≤ srA ∧ srA < pN := by rw [esrA']; exact sqk_range (by decide) _ rhalf
  obtain ⟨rA, erA⟩ : ∃ z, ap3 N mmul P srA x = z := ⟨_, rfl⟩
  have erA' : rA = chStep half x 32 := by rw [← erA, hP, esrA']; subst hN; rfl
  have rrA : 0 ≤ rA ∧ rA < pN := by rw [erA']; exact r0 _ _
  have lrA := lt rA rrA
  have lsrA := lt srA rsrA
  have lbrA := lb rA rrA
  have krA := kk 32 (by decide)
  have crA := mc srA x rsrA
  obtain ⟨srB, esrB⟩ : ∃ z, ap3 N sqk P rA 96 = z := ⟨_, rfl⟩
  have esrB' : srB = sqk pN rA 96 := by rw [← esrB, hP]; subst hN; rfl
  have rsrB : 0 ≤ srB ∧ srB < pN := by rw [esrB']; exact sqk_range (by decide) _ rrA
  obtain ⟨rB, erB⟩ : ∃ z, ap3 N mmul P srB x = z := ⟨_, rfl⟩
  have erB' : rB = chStep rA x 96 := by rw [← erB, hP, esrB']; subst hN; rfl
  have rrB : 0 ≤ rB ∧ rB < pN := by rw [erB']; exact r0 _ _
  have lrB := lt rB rrB
  have lsrB := lt srB rsrB
  have lbrB := lb rB rrB
  have krB := kk 96 (by decide)
  have crB := mc srB x rsrB
  obtain ⟨sC, esC⟩ : ∃ z, ap3 N sqk P rB 94 = z := ⟨_, rfl⟩
  have esC' : sC = sqk pN rB 94 := by rw [← esC, hP]; subst hN; rfl
  have rsC : 0 ≤ sC ∧ sC < pN := by rw [esC']; exact sqk_range (by decide) _ rrB
  obtain ⟨r, er⟩ : ∃ z, ap3 N mmul P sC 1 = z := ⟨_, rfl⟩
  have er' : r = rootR (num4 a0 a1 a2 a3) := by
    unfold rootR
    rw [← ex', ← er, hP, esC', erB', erA', ehalf', esixteen', eeight', efour', etwo']; subst hN; rfl
  have rr : 0 ≤ r ∧ r < pN := by rw [← er, hP]; subst hN; exact r0 _ _
  have lsC := lt sC rsC
  have lr := lt r rr
  have kC := kk 94 (by decide)
  have cC := mc sC 1 rsC
  obtain ⟨m, em⟩ : ∃ m, ap2 N (smulN Q) r r = m := ⟨_, rfl⟩
  have em' : m = smulN pN r r := by rw [← em, hQ]; subst hN; rfl
  obtain ⟨c, ec⟩ : ∃ c, ap2 N cutN P (ap4 N num4 a0 a1 a2 a3) = c := ⟨_, rfl⟩
  have ec' : c = cutN pN (num4 a0 a1 a2 a3) := by rw [← ec, hP]; subst hN; rfl
  have rm : 0 ≤ m ∧ m < M256 := by rw [em']; exact smul_in (.inr rfl) _ _
  have rc : 0 ≤ c ∧ c < M256 := by rw [ec']; exact cut_in (num4_range ha.1 ha.2.1 ha.2.2.1 ha.2.2.2)
  obtain ⟨d, ed⟩ : ∃ d, ap3 N msubN P 0 r = d := ⟨_, rfl⟩
  have ed' : d = msubN pN 0 r := by rw [← ed, hP]; subst hN; rfl
  have hb : rootB (num4 a0 a1 a2 a3) = decide (m = c) := by unfold rootB; rw [← er', ← em', ← ec']
  have fin : ∀ q : Bool, q = decide (m = c) → ∀ o : Bool, o = decide (r % 2 = 1) → v = .tup [numV apStd (if q then (if o then d else r) else 0), .bool q] := by
    intro q hq o ho
    rw [hv, hb, ← hq]
    have : rootV (num4 a0 a1 a2 a3) = if q then (if o then d else r) else 0 := by
      unfold rootV
      rw [hb, ← hq, ← er', ← ed', ho]
      by_cases h : r % 2 = 1 <;> simp [h]
    rw [this]
  have q4 : ∀ p : Bool, (A.icmp .eql (ap1 N l0 m) (ap1 N l0 c) && (A.icmp .eql (ap1 N l1 m) (ap1 N l1 c) && (A.icmp .eql (ap1 N l2 m) (ap1 N l2 c) && A.icmp .eql (ap1 N l3 m) (ap1 N l3 c)))) = p → p = decide (m = c) := by
    intro p h
    subst hA; subst hN
    rw [← h, Bool.eq_iff_iff]
    simp only [std, icmp, ap1_std, Bool.and_eq_true, beq_iff_eq, decide_eq_true_eq]
    refine ⟨fun ⟨h0, h1, h2, h3⟩ => ?_, fun h => by rw [h]; exact ⟨rfl, rfl, rfl, rfl⟩⟩
    rw [← num4_mod rm, ← num4_mod rc, h0, h1, h2, h3]
  have q1 : ∀ p : Bool, A.icmp .eql (A.iop .and .u64 (ap1 N l0 r) 1) 1 = p → p = decide (r % 2 = 1) := by
    intro p h
    subst hA; subst hN
    have e : iop .and .u64 (l0 r) 1 = r % 2 := by
      have := and_mask (l0_w r) 1 (by omega)
      rw [show ((2 : Int) ^ 1 - 1) = 1 from rfl, show ((2 : Int) ^ 1) = 2 from rfl] at this
      rw [this]; unfold l0; omega
    rw [← h, Bool.eq_iff_iff]
    simp only [std, icmp, ap1_std, e, beq_iff_eq, decide_eq_true_eq]
  clear r0 lt mc lb kk hv hb em' ec' ed' er'
  simp only [ap1, ap2, ap3, ap4] at eP eR z1 ok0 ex lx c0 lbx estwo etwo ltwo lstwo lbtwo ktwo ctwo esfour efour lfour lsfour lbfour kfour cfour eseight eeight leight lseight lbeight keight ceight essixteen esixteen lsixteen lssixteen lbsixteen ksixteen csixteen eshalf ehalf lhalf lshalf lbhalf khalf chalf esrA erA lrA lsrA lbrA krA crA esrB erB lrB lsrB lbrB krB crB esC er lsC lr kC cC em ec ed
  simp only [ap1] at q4 q1
  obtain ⟨fi, fc, fw, fb, fn, fo, fs, fa, fe, fz, fy, ff, fl⟩ := A
  dsimp only at q4 q1
  apply Shut.mk
  cbv
  repeat (simp only [eP, eR, z1, ok0, ex, lx, c0, lbx, estwo, etwo, ltwo, lstwo, lbtwo, ktwo, ctwo, esfour, efour, lfour, lsfour, lbfour, kfour, cfour, eseight, eeight, leight, lseight, lbeight, keight, ceight, essixteen, esixteen, lsixteen, lssixteen, lbsixteen, ksixteen, csixteen, eshalf, ehalf, lhalf, lshalf, lbhalf, khalf, chalf, esrA, erA, lrA, lsrA, lbrA, krA, crA, esrB, erB, lrB, lsrB, lbrB, krB, crB, esC, er, lsC, lr, kC, cC, em, ec, ed]; cbv)
  split <;> rename_i e <;> (try simp only [e]) <;> cbv
  · have e1 := q4 _ (and4_of (not_of e))
    obtain ⟨o, ho⟩ : ∃ o, o = decide (r % 2 = 1) := ⟨_, rfl⟩
    have hv := fin _ e1 o ho
    simp only [Bool.not_true, Bool.false_eq_true, if_false] at hv
    rw [hv] at hK
    refine fin_sb hK ?_ ?_ ?_ <;> cbv
  · have e1 := q4 _ (and4_of (not_of e))
    split <;> rename_i e2 <;> (try simp only [e2]) <;> cbv <;> (try (repeat (simp only [eP, eR, z1, ok0, ex, lx, c0, lbx, estwo, etwo, ltwo, lstwo, lbtwo, ktwo, ctwo, esfour, efour, lfour, lsfour, lbfour, kfour, cfour, eseight, eeight, leight, lseight, lbeight, keight, ceight, essixteen, esixteen, lsixteen, lssixteen, lbsixteen, ksixteen, csixteen, eshalf, ehalf, lhalf, lshalf, lbhalf, khalf, chalf, esrA, erA, lrA, lsrA, lbrA, krA, crA, esrB, erB, lrB, lsrB, lbrB, krB, crB, esC, er, lsC, lr, kC, cC, em, ec, ed]; cbv)))
    · have hv := fin _ e1 _ (q1 _ e2)
      simp only [Bool.not_false, if_true] at hv
      obtain ⟨w, hw⟩ : ∃ w : SV, w = .tup [numV apStd d, .bool true] := ⟨_, rfl⟩
      rw [← hw] at hv
      refine fin_of hK ?_ rfl (hv.trans ?_)
      · cbv
      · cbv
        rw [hw]; subst hN
        simp [numV, ap1, apStd]
    · have hv := fin _ e1 _ (q1 _ e2)
      simp only [Bool.not_false, if_true, Bool.false_eq_true, if_false] at hv
      obtain ⟨w, hw⟩ : ∃ w : SV, w = .tup [numV apStd r, .bool true] := ⟨_, rfl⟩
      rw [← hw] at hv
      refine fin_of hK ?_ rfl (hv.trans ?_)
      · cbv
      · cbv
        rw [hw]; subst hN
        simp [numV, ap1, apStd]

def sqrtL : Pure := [(77, nul0F fmV), (66, minF apStd), (80, squaresF apStd), (65, mmulF apStd), (81, moutF apStd), (57, smul apStd pN), (69, cutF apStd), (75, msubF apStd)]
theorem sqrtL_ok : ∀ p ∈ sqrtL, Con Try.prog p.1 p.2 := by
  intro p hp
  simp only [sqrtL, List.mem_cons, List.not_mem_nil, or_false] at hp
  rcases hp with rfl | rfl | rfl | rfl | rfl | rfl | rfl | rfl
  · exact con_fMod
  · exact con_min
  · exact con_squares
  · exact con_mmul
  · exact con_mout
  · exact con_fMul
  · exact con_cut
  · exact con_msub

theorem con_fSqrt : Con Try.prog 58 (sqrtF apStd) := by
  refine con_shut Try.func58 rfl (by kernel_rfl) (fun args v us hF hv => ?_) (fun args v hF => sqrtF_ids hF)
  unfold sqrtF at hF
  split at hF
  · split at hF
    · rename_i a ha
      simp only [Prod.mk.injEq, true_and, ap1_std] at hF
      obtain ⟨a0, a1, a2, a3, wa, rfl, hus⟩ := args_one ha hv
      exact ⟨_, _, good (l := sqrtL) sqrtL_ok, rfl, by kernel_rfl, hus, Nat.le_of_ble_eq_true rfl,
        sqrt_vc std (ALoop 0) apStd pN a0 a1 a2 a3 rfl rfl rfl rfl wa v (FinP v) rfl hF.symm⟩
    · cases hF
  · cases hF

end Go.Proofs.YtnncnbplnapodaaRRR
