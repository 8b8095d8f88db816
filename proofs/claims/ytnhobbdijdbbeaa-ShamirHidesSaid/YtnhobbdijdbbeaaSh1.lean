/- Contracts of functions on numbers that this seat has. It has no conditions. -/
import Derived.Test.YtnhobbdijdbbeaaBase
import Derived.Test.YtnhobbdijdbbeaaNum
import Derived.Laws.Externs
namespace Go.Proofs.Ytnhobbdijdbbeaa
open Go.Eng Go.RowKit
set_option maxRecDepth 1000000
set_option maxHeartbeats 4000000
set_option linter.unusedSimpArgs false
set_option linter.unusedVariables false

theorem con_add64 : Con Try.prog 87 (add64F std apStd) := by
  intro args v hF m us w hv
  unfold add64F at hF
  split at hF
  · rename_i x y c
    split at hF
    · rename_i x' y' c' hx hy hc
      simp only [Prod.mk.injEq] at hF
      obtain ⟨hle, rfl⟩ := hF
      simp only [SV.vals, Option.map_eq_some_iff, Option.bind_eq_some_iff] at hv
      obtain ⟨u1, h1, t1, ⟨u2, h2, t2, ⟨u3, h3, t3, e3, rfl⟩, rfl⟩, rfl⟩ := hv
      simp only [Option.some.injEq] at e3
      subst e3
      obtain ⟨rfl, w1⟩ := u64_of hx h1
      obtain ⟨rfl, w2⟩ := u64_of hy h2
      obtain ⟨rfl, w3⟩ := u64_of hc h3
      have hle : c' ≤ 1 := by simpa [std, icmp] using hle
      refine ⟨.tuple #[.int .u64 (sum64 x' y' c'), .int .u64 (car64 x' y' c')], ?_, .inr ?_⟩
      · have k := car64_le w1 w2 ⟨w3.1, hle⟩
        have k1 : W (car64 x' y' c') := ⟨k.1, by omega⟩
        simp [SV.val, SV.vals, ap3, apStd, W_u64 (sum64_w x' y' c'), W_u64 k1]
      · rw [run_callFunc_extern Try.func87 (by kernel_rfl) (by kernel_rfl) (by kernel_rfl) (e := add64Entry) (by kernel_rfl)]
        rw [run_add64 x' y' c' w1.1 w2.1 w3.1 hle]
        rfl
    · cases hF
  · cases hF

def sub64Entry : Array Value → Sem Value := fun args => do
  let (x, y, b) ← Extern.MathBitsCarry.three "Sub64" args
  pure (Extern.MathBitsCarry.pair ((x + Extern.MathBitsCarry.m64 - y - b) % Extern.MathBitsCarry.m64) (if x < y + b then 1 else 0))

theorem run_sub64 {P : Program} (x y b : Nat) (hb : b ≤ 1) (w : World) : (sub64Entry #[.int .u64 x, .int .u64 y, .int .u64 b]).run P w =
    .ok (.tuple #[.int .u64 (((x + 18446744073709551616 - y - b) % 18446744073709551616 : Nat) : Int), .int .u64 ((if x < y + b then 1 else 0 : Nat) : Int)]) w := by
  have : b = 0 ∨ b = 1 := by omega
  rcases this with rfl | rfl <;> rfl

theorem con_sub64 : Con Try.prog 88 (sub64F std apStd) := by
  intro args v hF m us w hv
  unfold sub64F at hF
  split at hF
  · rename_i x y c
    split at hF
    · rename_i x' y' c' hx hy hc
      simp only [Prod.mk.injEq] at hF
      obtain ⟨hle, rfl⟩ := hF
      simp only [SV.vals, Option.map_eq_some_iff, Option.bind_eq_some_iff] at hv
      obtain ⟨u1, h1, t1, ⟨u2, h2, t2, ⟨u3, h3, t3, e3, rfl⟩, rfl⟩, rfl⟩ := hv
      simp only [Option.some.injEq] at e3
      subst e3
      obtain ⟨rfl, w1⟩ := u64_of hx h1
      obtain ⟨rfl, w2⟩ := u64_of hy h2
      obtain ⟨rfl, w3⟩ := u64_of hc h3
      have hle : c' ≤ 1 := by simpa [std, icmp] using hle
      refine ⟨.tuple #[.int .u64 (dif64 x' y' c'), .int .u64 (bor64 x' y' c')], ?_, .inr ?_⟩
      · have k := bor64_le x' y' c'
        have k1 : W (bor64 x' y' c') := ⟨k.1, by omega⟩
        simp [SV.val, SV.vals, ap3, apStd, W_u64 (dif64_w x' y' c'), W_u64 k1]
      · obtain ⟨X, rfl⟩ := Int.eq_ofNat_of_zero_le w1.1
        obtain ⟨Y, rfl⟩ := Int.eq_ofNat_of_zero_le w2.1
        obtain ⟨Z, rfl⟩ := Int.eq_ofNat_of_zero_le w3.1
        rw [run_callFunc_extern Try.func88 (by kernel_rfl) (by kernel_rfl) (by kernel_rfl) (e := sub64Entry) (by kernel_rfl)]
        rw [run_sub64 X Y Z (by omega)]
        have e1 : (((X + 18446744073709551616 - Y - Z) % 18446744073709551616 : Nat) : Int) = dif64 X Y Z := by
          unfold W at *; unfold dif64; omega
        have e2 : ((if X < Y + Z then 1 else 0 : Nat) : Int) = bor64 X Y Z := by
          unfold bor64; split <;> split <;> first | rfl | omega
        rw [e1, e2]
        rfl
    · cases hF
  · cases hF

theorem limbsAdd_vc (A : Ar) (L : LP) (N : Ap) (a0 a1 a2 a3 b0 b1 b2 b3 : Int) (hL : L = ALoop 0) (hA : A = std) (hN : N = apStd) (ha : W a0 ∧ W a1 ∧ W a2 ∧ W a3) (hb : W b0 ∧ W b1 ∧ W b2 ∧ W b3) (v : SV) (K : Bool → SV → List Blk → Prop) (hK : K = FinP v)
    (hv : v = .tup [numV apStd (addm (num4 a0 a1 a2 a3) (num4 b0 b1 b2 b3)), .bool (addc (num4 a0 a1 a2 a3) (num4 b0 b1 b2 b3))]) :
    afun (cx A L [(87, add64F A N)]) Try.f78 [wordsV a0 a1 a2 a3, wordsV b0 b1 b2 b3] [] K := by
  cbv
  refine lp_rounds hL 5 hL (.inr rfl) ?_
  cbv
  subst hA; subst hN; subst hv
  have h := add_spec ha hb
  have k0 := car64_le ha.1 hb.1 (c := 0) (by omega)
  have k1 := car64_le ha.2.1 hb.2.1 k0
  have k2 := car64_le ha.2.2.1 hb.2.2.1 k1
  refine fin_of hK ?_ rfl ?_
  · simp [std, icmp, apStd, k0.2, k1.2, k2.2]
  · simp [oneTup, numV, ap1, apStd, h.1, h.2.1, h.2.2.1, h.2.2.2.1, h.2.2.2.2, std, icmp]

theorem addF_ids {N : Ap} {args : List SV} {v : SV} (hF : addF N args = (true, v)) : SV.idsLts 0 args = true := by
  unfold addF at hF
  split at hF
  · split at hF
    · rename_i ha hb
      simp [SV.idsLts, num256_ids ha, num256_ids hb]
    · cases hF
  · cases hF

theorem subF_ids {N : Ap} {args : List SV} {v : SV} (hF : subF N args = (true, v)) : SV.idsLts 0 args = true := by
  unfold subF at hF
  split at hF
  · split at hF
    · rename_i ha hb
      simp [SV.idsLts, num256_ids ha, num256_ids hb]
    · cases hF
  · cases hF

theorem con_limbsAdd : Con Try.prog 78 (addF apStd) := by
  refine con_of Try.func78 rfl (by kernel_rfl) (fun args v us hF hv => ?_) (fun args v hF => addF_ids hF)
  unfold addF at hF
  split at hF
  · rename_i x y
    split at hF
    · rename_i a b ha hb
      simp only [Prod.mk.injEq, true_and] at hF
      obtain ⟨a0, a1, a2, a3, b0, b1, b2, b3, wa, wb, rfl, rfl, hus⟩ := args_two ha hb hv
      exact ⟨_, _, (good (l := [(87, add64F std apStd)]) (by intro p hp; simp at hp; subst hp; exact con_add64)), rfl, by kernel_rfl, hus, Nat.le_of_ble_eq_true rfl, limbsAdd_vc _ _ _ _ _ _ _ _ _ _ _ rfl rfl rfl wa wb v _ rfl hF.symm⟩
    · cases hF
  · cases hF

theorem limbsSub_vc (A : Ar) (L : LP) (N : Ap) (a0 a1 a2 a3 b0 b1 b2 b3 : Int) (hL : L = ALoop 0) (hA : A = std) (hN : N = apStd) (ha : W a0 ∧ W a1 ∧ W a2 ∧ W a3) (hb : W b0 ∧ W b1 ∧ W b2 ∧ W b3) (v : SV) (K : Bool → SV → List Blk → Prop) (hK : K = FinP v)
    (hv : v = .tup [numV apStd (subm (num4 a0 a1 a2 a3) (num4 b0 b1 b2 b3)), .bool (ltb (num4 a0 a1 a2 a3) (num4 b0 b1 b2 b3))]) :
    afun (cx A L [(88, sub64F A N)]) Try.f79 [wordsV a0 a1 a2 a3, wordsV b0 b1 b2 b3] [] K := by
  cbv
  refine lp_rounds hL 5 hL (.inr rfl) ?_
  cbv
  subst hA; subst hN; subst hv
  have h := sub_spec ha hb
  refine fin_of hK ?_ rfl ?_
  · simp [std, icmp, apStd, (bor64_le _ _ _).2]
  · simp [oneTup, numV, ap1, apStd, h.1, h.2.1, h.2.2.1, h.2.2.2.1, h.2.2.2.2, std, icmp]

theorem con_limbsSub : Con Try.prog 79 (subF apStd) := by
  refine con_of Try.func79 rfl (by kernel_rfl) (fun args v us hF hv => ?_) (fun args v hF => subF_ids hF)
  unfold subF at hF
  split at hF
  · rename_i x y
    split at hF
    · rename_i a b ha hb
      simp only [Prod.mk.injEq, true_and] at hF
      obtain ⟨a0, a1, a2, a3, b0, b1, b2, b3, wa, wb, rfl, rfl, hus⟩ := args_two ha hb hv
      exact ⟨_, _, (good (l := [(88, sub64F std apStd)]) (by intro p hp; simp at hp; subst hp; exact con_sub64)), rfl, by kernel_rfl, hus, Nat.le_of_ble_eq_true rfl, limbsSub_vc _ _ _ _ _ _ _ _ _ _ _ rfl rfl rfl wa wb v _ rfl hF.symm⟩
    · cases hF
  · cases hF

def raSt (a0 a1 a2 a3 b0 b1 b2 b3 : Int) (i c o0 o1 o2 o3 : Int) : St := ⟨[(2, .ptr 0 0), (3, .ptr 1 0), (4, .ptr 2 0), (5, .bool false), (6, .ptr 3 0), (7, .int .u64 c), (8, .num .i64 i)],
  [⟨.lit [.int .u64 a0, .int .u64 a1, .int .u64 a2, .int .u64 a3], .var⟩, ⟨.lit [.int .u64 b0, .int .u64 b1, .int .u64 b2, .int .u64 b3], .var⟩, ⟨.lit [.num .u64 0, .num .u64 0, .num .u64 0, .num .u64 0], .var⟩,
    ⟨.lit [.int .u64 o0, .int .u64 o1, .int .u64 o2, .int .u64 o3], .var⟩], true⟩

def raHead (N : Ap) (fc fs : Int → Int → Int → Int) (a0 a1 a2 a3 b0 b1 b2 b3 : Int) : Nat → St
  | 4 => raSt a0 a1 a2 a3 b0 b1 b2 b3 0 0 0 0 0 0
  | 3 => raSt a0 a1 a2 a3 b0 b1 b2 b3 1 (ap3 N fc a0 b0 0) (ap3 N fs a0 b0 0) 0 0 0
  | 2 => raSt a0 a1 a2 a3 b0 b1 b2 b3 2 (ap3 N fc a1 b1 (ap3 N fc a0 b0 0)) (ap3 N fs a0 b0 0) (ap3 N fs a1 b1 (ap3 N fc a0 b0 0)) 0 0
  | 1 => raSt a0 a1 a2 a3 b0 b1 b2 b3 3 (ap3 N fc a2 b2 (ap3 N fc a1 b1 (ap3 N fc a0 b0 0))) (ap3 N fs a0 b0 0) (ap3 N fs a1 b1 (ap3 N fc a0 b0 0)) (ap3 N fs a2 b2 (ap3 N fc a1 b1 (ap3 N fc a0 b0 0))) 0
  | _ => raSt a0 a1 a2 a3 b0 b1 b2 b3 4 (ap3 N fc a3 b3 (ap3 N fc a2 b2 (ap3 N fc a1 b1 (ap3 N fc a0 b0 0)))) (ap3 N fs a0 b0 0) (ap3 N fs a1 b1 (ap3 N fc a0 b0 0)) (ap3 N fs a2 b2 (ap3 N fc a1 b1 (ap3 N fc a0 b0 0))) (ap3 N fs a3 b3 (ap3 N fc a2 b2 (ap3 N fc a1 b1 (ap3 N fc a0 b0 0))))

theorem refAdd_vc (A : Ar) (L : LP) (N : Ap) (a0 a1 a2 a3 b0 b1 b2 b3 : Int) (hL : L = ALoop 0) (hA : A = std) (hN : N = apStd) (ha : W a0 ∧ W a1 ∧ W a2 ∧ W a3) (hb : W b0 ∧ W b1 ∧ W b2 ∧ W b3) (v : SV) (K : Bool → SV → List Blk → Prop) (hK : K = FinP v)
    (hv : v = .tup [numV apStd (addm (num4 a0 a1 a2 a3) (num4 b0 b1 b2 b3)), .bool (addc (num4 a0 a1 a2 a3) (num4 b0 b1 b2 b3))]) :
    afun (cx A L []) Try.f66 [wordsV a0 a1 a2 a3, wordsV b0 b1 b2 b3] [] K := by
  cbv
  obtain ⟨ha0, ha1, ha2, ha3⟩ := ha
  obtain ⟨hb0, hb1, hb2, hb3⟩ := hb
  have h := add_spec ⟨ha0, ha1, ha2, ha3⟩ ⟨hb0, hb1, hb2, hb3⟩
  have k0 : (0 : Int) ≤ 0 ∧ (0 : Int) ≤ 1 := by omega
  have k1 := car64_le ha0 hb0 k0
  have k2 := car64_le ha1 hb1 k1
  have k3 := car64_le ha2 hb2 k2
  refine lp_head hL 4 (raHead N car64 sum64 a0 a1 a2 a3 b0 b1 b2 b3) ?_ ?_ hL (.inr rfl)
  · cbv
  · intro n hn
    match n, hn with
    | 4, _ =>
      clear hv
      have h0 := ha0; have h1 := hb0; have h2 := k0
      cbv
      split <;> cbv <;> split <;> cbv <;>
        (rename_i e1 _ e2
         subst hA; subst hN
         simp only [std, icmp, iop, apStd, IntKind.wrap_u64, decide_eq_true_eq, decide_eq_false_iff_not, and_true] at e1 e2 ⊢
         unfold W at h0 h1; unfold car64 sum64
         refine ⟨?_, ?_⟩ <;> omega)
    | 3, _ =>
      clear hv
      have h0 := ha1; have h1 := hb1; have h2 := k1
      cbv
      split <;> cbv <;> split <;> cbv <;>
        (rename_i e1 _ e2
         subst hA; subst hN
         simp only [std, icmp, iop, apStd, IntKind.wrap_u64, decide_eq_true_eq, decide_eq_false_iff_not, and_true] at e1 e2 ⊢
         generalize car64 a0 b0 _ = c at *
         unfold W at h0 h1; unfold car64 sum64
         refine ⟨?_, ?_⟩ <;> omega)
    | 2, _ =>
      clear hv
      have h0 := ha2; have h1 := hb2; have h2 := k2
      cbv
      split <;> cbv <;> split <;> cbv <;>
        (rename_i e1 _ e2
         subst hA; subst hN
         simp only [std, icmp, iop, apStd, IntKind.wrap_u64, decide_eq_true_eq, decide_eq_false_iff_not, and_true] at e1 e2 ⊢
         generalize car64 a1 b1 _ = c at *
         unfold W at h0 h1; unfold car64 sum64
         refine ⟨?_, ?_⟩ <;> omega)
    | 1, _ =>
      clear hv
      have h0 := ha3; have h1 := hb3; have h2 := k3
      cbv
      split <;> cbv <;> split <;> cbv <;>
        (rename_i e1 _ e2
         subst hA; subst hN
         simp only [std, icmp, iop, apStd, IntKind.wrap_u64, decide_eq_true_eq, decide_eq_false_iff_not, and_true] at e1 e2 ⊢
         generalize car64 a2 b2 _ = c at *
         unfold W at h0 h1; unfold car64 sum64
         refine ⟨?_, ?_⟩ <;> omega)
    | 0, _ =>
      cbv
      subst hN; subst hA; subst hv
      refine fin_of hK rfl rfl ?_
      simp [oneTup, numV, ap1, apStd, h.1, h.2.1, h.2.2.1, h.2.2.2.1, h.2.2.2.2, std, icmp]

theorem con_refAdd : Con Try.prog 66 (addF apStd) := by
  refine con_of Try.func66 rfl (by kernel_rfl) (fun args v us hF hv => ?_) (fun args v hF => addF_ids hF)
  unfold addF at hF
  split at hF
  · rename_i x y
    split at hF
    · rename_i a b ha hb
      simp only [Prod.mk.injEq, true_and] at hF
      obtain ⟨a0, a1, a2, a3, b0, b1, b2, b3, wa, wb, rfl, rfl, hus⟩ := args_two ha hb hv
      exact ⟨_, _, (good (l := []) (by intro p hp; simp at hp)), rfl, by kernel_rfl, hus, Nat.le_of_ble_eq_true rfl, refAdd_vc _ _ _ _ _ _ _ _ _ _ _ rfl rfl rfl wa wb v _ rfl hF.symm⟩
    · cases hF
  · cases hF

theorem refSub_vc (A : Ar) (L : LP) (N : Ap) (a0 a1 a2 a3 b0 b1 b2 b3 : Int) (hL : L = ALoop 0) (hA : A = std) (hN : N = apStd) (ha : W a0 ∧ W a1 ∧ W a2 ∧ W a3) (hb : W b0 ∧ W b1 ∧ W b2 ∧ W b3) (v : SV) (K : Bool → SV → List Blk → Prop) (hK : K = FinP v)
    (hv : v = .tup [numV apStd (subm (num4 a0 a1 a2 a3) (num4 b0 b1 b2 b3)), .bool (ltb (num4 a0 a1 a2 a3) (num4 b0 b1 b2 b3))]) :
    afun (cx A L []) Try.f37 [wordsV a0 a1 a2 a3, wordsV b0 b1 b2 b3] [] K := by
  obtain ⟨fi, fc, fw, fb, fn, fo, fs, fa, fe, fz, fy, ff, fl⟩ := A
  cbv
  obtain ⟨ha0, ha1, ha2, ha3⟩ := ha
  obtain ⟨hb0, hb1, hb2, hb3⟩ := hb
  have h := sub_spec ⟨ha0, ha1, ha2, ha3⟩ ⟨hb0, hb1, hb2, hb3⟩
  have k0 : (0 : Int) ≤ 0 ∧ (0 : Int) ≤ 1 := by omega
  have k1 := bor64_le a0 b0 0
  have k2 := bor64_le a1 b1 (bor64 a0 b0 0)
  have k3 := bor64_le a2 b2 (bor64 a1 b1 (bor64 a0 b0 0))
  refine lp_head hL 4 (raHead N bor64 dif64 a0 a1 a2 a3 b0 b1 b2 b3) ?_ ?_ hL (.inr rfl)
  · cbv
  · intro n hn
    match n, hn with
    | 4, _ =>
      clear hv
      have h0 := ha0; have h1 := hb0; have h2 := k0
      cbv
      split <;> rename_i e1 <;> (try simp only [e1]) <;> cbv <;> (try (split <;> rename_i e2 <;> cbv)) <;>
      (cases hA; subst hN
       simp only [icmp, iop, apStd, IntKind.wrap_u64, decide_eq_true_eq, decide_eq_false_iff_not, and_true] at *
       unfold W at h0 h1; unfold bor64 dif64
       refine ⟨?_, ?_⟩ <;> (try split) <;> omega)
    | 3, _ =>
      clear hv
      have h0 := ha1; have h1 := hb1; have h2 := k1
      cbv
      split <;> rename_i e1 <;> (try simp only [e1]) <;> cbv <;> (try (split <;> rename_i e2 <;> cbv)) <;>
      (cases hA; subst hN
       simp only [icmp, iop, apStd, IntKind.wrap_u64, decide_eq_true_eq, decide_eq_false_iff_not, and_true] at *
       generalize bor64 a0 b0 _ = c at *
       unfold W at h0 h1; unfold bor64 dif64
       refine ⟨?_, ?_⟩ <;> (try split) <;> omega)
    | 2, _ =>
      clear hv
      have h0 := ha2; have h1 := hb2; have h2 := k2
      cbv
      split <;> rename_i e1 <;> (try simp only [e1]) <;> cbv <;> (try (split <;> rename_i e2 <;> cbv)) <;>
      (cases hA; subst hN
       simp only [icmp, iop, apStd, IntKind.wrap_u64, decide_eq_true_eq, decide_eq_false_iff_not, and_true] at *
       generalize bor64 a1 b1 _ = c at *
       unfold W at h0 h1; unfold bor64 dif64
       refine ⟨?_, ?_⟩ <;> (try split) <;> omega)
    | 1, _ =>
      clear hv
      have h0 := ha3; have h1 := hb3; have h2 := k3
      cbv
      split <;> rename_i e1 <;> (try simp only [e1]) <;> cbv <;> (try (split <;> rename_i e2 <;> cbv)) <;>
      (cases hA; subst hN
       simp only [icmp, iop, apStd, IntKind.wrap_u64, decide_eq_true_eq, decide_eq_false_iff_not, and_true] at *
       generalize bor64 a2 b2 _ = c at *
       unfold W at h0 h1; unfold bor64 dif64
       refine ⟨?_, ?_⟩ <;> (try split) <;> omega)
    | 0, _ =>
      cbv
      subst hN; cases hA; subst hv
      refine fin_of hK rfl rfl ?_
      simp [oneTup, numV, ap1, apStd, h.1, h.2.1, h.2.2.1, h.2.2.2.1, h.2.2.2.2, std, icmp]

theorem con_refSub : Con Try.prog 37 (subF apStd) := by
  refine con_of Try.func37 rfl (by kernel_rfl) (fun args v us hF hv => ?_) (fun args v hF => subF_ids hF)
  unfold subF at hF
  split at hF
  · rename_i x y
    split at hF
    · rename_i a b ha hb
      simp only [Prod.mk.injEq, true_and] at hF
      obtain ⟨a0, a1, a2, a3, b0, b1, b2, b3, wa, wb, rfl, rfl, hus⟩ := args_two ha hb hv
      exact ⟨_, _, (good (l := []) (by intro p hp; simp at hp)), rfl, by kernel_rfl, hus, Nat.le_of_ble_eq_true rfl, refSub_vc _ _ _ _ _ _ _ _ _ _ _ rfl rfl rfl wa wb v _ rfl hF.symm⟩
    · cases hF
  · cases hF

theorem refCmp_vc (A : Ar) (L : LP) (N : Ap) (a0 a1 a2 a3 b0 b1 b2 b3 : Int) (hL : L = ALoop 0) (hA : A = std) (hN : N = apStd) (ha : W a0 ∧ W a1 ∧ W a2 ∧ W a3) (hb : W b0 ∧ W b1 ∧ W b2 ∧ W b3) (v : SV) (K : Bool → SV → List Blk → Prop) (hK : K = FinP v)
    (hv : v = .int .i64 (cmpI (num4 a0 a1 a2 a3) (num4 b0 b1 b2 b3))) :
    afun (cx A L []) Try.f53 [wordsV a0 a1 a2 a3, wordsV b0 b1 b2 b3] [] K := by
  cbv
  refine lp_rounds hL 5 hL (.inr rfl) ?_
  cbv
  repeat' (split <;> cbv)
  all_goals
    subst hA; subst hv
    simp only [std, icmp, decide_eq_true_eq, decide_eq_false_iff_not] at *
    refine fin_sb hK rfl rfl ?_
    simp only [SV.sb, oneTup, kn, Nat.beq]
    obtain ⟨ha0, ha1, ha2, ha3⟩ := ha
    obtain ⟨hb0, hb1, hb2, hb3⟩ := hb
    unfold W at ha0 ha1 ha2 ha3 hb0 hb1 hb2 hb3
    unfold cmpI num4
    refine ⟨trivial, ?_⟩
    split <;> (try split) <;> omega

theorem limbsCmp_vc (A : Ar) (L : LP) (N : Ap) (a0 a1 a2 a3 b0 b1 b2 b3 : Int) (hL : L = ALoop 0) (hA : A = std) (hN : N = apStd) (ha : W a0 ∧ W a1 ∧ W a2 ∧ W a3) (hb : W b0 ∧ W b1 ∧ W b2 ∧ W b3) (v : SV) (K : Bool → SV → List Blk → Prop) (hK : K = FinP v)
    (hv : v = .int .i64 (cmpI (num4 a0 a1 a2 a3) (num4 b0 b1 b2 b3))) :
    afun (cx A L [(79, subF N)]) Try.f85 [wordsV a0 a1 a2 a3, wordsV b0 b1 b2 b3] [] K := by
  have key : ∀ p : Bool, ((A.icmp BinOp.eql a0 b0) && ((A.icmp BinOp.eql a1 b1) && ((A.icmp BinOp.eql a2 b2) && ((A.icmp BinOp.eql a3 b3) && true)))) = p → p = decide (num4 a0 a1 a2 a3 = num4 b0 b1 b2 b3) := by
    intro p h
    subst hA
    obtain ⟨ha0, ha1, ha2, ha3⟩ := ha
    obtain ⟨hb0, hb1, hb2, hb3⟩ := hb
    rw [← h, Bool.eq_iff_iff]
    simp only [std, icmp, Bool.and_eq_true, beq_iff_eq, and_true, decide_eq_true_eq]
    unfold W at ha0 ha1 ha2 ha3 hb0 hb1 hb2 hb3
    unfold num4
    refine ⟨fun h => by omega, fun h => ⟨?_, ?_, ?_, ?_⟩⟩ <;> omega
  cbv
  split <;> cbv
  · rename_i e
    have e := key _ e
    subst hv
    refine fin_sb hK rfl rfl ?_
    simp only [SV.sb, oneTup, kn, Nat.beq, cmpI]
    simp at e
    simp [e]
  · rename_i e
    have e := key _ e
    simp at e
    split <;> cbv
    · rename_i e2
      subst hv; subst hN
      have e2 : ltb (num4 a0 a1 a2 a3) (num4 b0 b1 b2 b3) = true := e2
      simp only [ltb, decide_eq_true_eq] at e2
      refine fin_sb hK rfl rfl ?_
      simp [SV.sb, oneTup, kn, Nat.beq, cmpI, e2]
    · rename_i e2
      subst hv; subst hN
      have e2 : ltb (num4 a0 a1 a2 a3) (num4 b0 b1 b2 b3) = false := e2
      simp only [ltb, decide_eq_false_iff_not] at e2
      refine fin_sb hK rfl rfl ?_
      simp [SV.sb, oneTup, kn, Nat.beq, cmpI, e, e2]

theorem cmpF_ids {N : Ap} {args : List SV} {v : SV} (hF : cmpF N args = (true, v)) : SV.idsLts 0 args = true := by
  unfold cmpF at hF
  split at hF
  · split at hF
    · rename_i ha hb
      simp [SV.idsLts, num256_ids ha, num256_ids hb]
    · cases hF
  · cases hF

theorem con_refCmp : Con Try.prog 53 (cmpF apStd) := by
  refine con_of Try.func53 rfl (by kernel_rfl) (fun args v us hF hv => ?_) (fun args v hF => cmpF_ids hF)
  unfold cmpF at hF
  split at hF
  · rename_i x y
    split at hF
    · rename_i a b ha hb
      simp only [Prod.mk.injEq, true_and] at hF
      obtain ⟨a0, a1, a2, a3, b0, b1, b2, b3, wa, wb, rfl, rfl, hus⟩ := args_two ha hb hv
      exact ⟨_, _, (good (l := []) (by intro p hp; simp at hp)), rfl, by kernel_rfl, hus, Nat.le_of_ble_eq_true rfl, refCmp_vc _ _ _ _ _ _ _ _ _ _ _ rfl rfl rfl wa wb v _ rfl hF.symm⟩
    · cases hF
  · cases hF

theorem con_limbsCmp : Con Try.prog 85 (cmpF apStd) := by
  refine con_of Try.func85 rfl (by kernel_rfl) (fun args v us hF hv => ?_) (fun args v hF => cmpF_ids hF)
  unfold cmpF at hF
  split at hF
  · rename_i x y
    split at hF
    · rename_i a b ha hb
      simp only [Prod.mk.injEq, true_and] at hF
      obtain ⟨a0, a1, a2, a3, b0, b1, b2, b3, wa, wb, rfl, rfl, hus⟩ := args_two ha hb hv
      exact ⟨_, _, (good (l := [(79, subF apStd)]) (by intro p hp; simp at hp; subst hp; exact con_limbsSub)), rfl, by kernel_rfl, hus, Nat.le_of_ble_eq_true rfl, limbsCmp_vc _ _ _ _ _ _ _ _ _ _ _ rfl rfl rfl wa wb v _ rfl hF.symm⟩
    · cases hF
  · cases hF

theorem iopadd (x y : Int) : iop .add .u64 x y = (x + y) % 18446744073709551616 := IntKind.wrap_u64 _

theorem iopmul (x y : Int) : iop .mul .u64 x y = (x * y) % 18446744073709551616 := IntKind.wrap_u64 _

theorem mul64_vc (A : Ar) (L : LP) (a b : Int) (hL : L = ALoop 0) (hA : A = std) (ha : W a) (hb : W b) (v : SV) (K : Bool → SV → List Blk → Prop) (hK : K = FinP v)
    (hv : v = .tup [.int .u64 (hi64 a b), .int .u64 (lo64 a b)]) :
    afun (cx A L []) Try.f89 [.int .u64 a, .int .u64 b] [] K := by
  obtain ⟨fi, fc, fw, fb, fn, fo, fs, fa, fe, fz, fy, ff, fl⟩ := A
  cbv
  cases hA
  subst hv
  refine fin_sb hK rfl rfl ?_
  have m := fun x (h : W x) => and_mask h 32 (by omega)
  have s := fun x => shr_lit x 32 (by omega)
  simp only [SV.sb, SV.sbs, oneTup, kn, Nat.beq]
  have e1 : ∀ x y, iop .mul .u64 x y = x * y % 18446744073709551616 := fun x y => IntKind.wrap_u64 _
  have e2 : ∀ x y, iop .add .u64 x y = (x + y) % 18446744073709551616 := fun x y => IntKind.wrap_u64 _
  have s' : ∀ x, iop .shr .u64 x 32 = x / 4294967296 := s
  have m' : ∀ x, W x → iop .and .u64 x 4294967295 = x % 4294967296 := m
  have w : ∀ x, W (x % 18446744073709551616) := fun x => by unfold W; omega
  have h := mul64_spec ha hb
  simp only at h
  simp only [s', e1, e2, m' _ ha, m' _ hb, m' _ (w _)]
  exact ⟨⟨trivial, h.symm⟩, ⟨trivial, rfl⟩, trivial⟩

theorem con_mul64 : Con Try.prog 89 (mul64F apStd) := by
  refine con_of Try.func89 rfl (by kernel_rfl) (fun args v us hF hv => ?_) (fun args v hF => mul64F_ids hF)
  unfold mul64F at hF
  split at hF
  · rename_i x y
    split at hF
    · rename_i a b ha hb
      simp only [Prod.mk.injEq, true_and] at hF
      obtain ⟨u, t, rfl, hu, ht⟩ := vals_two hv
      obtain ⟨rfl, wa⟩ := u64_of ha hu
      obtain ⟨rfl, wb⟩ := u64_of hb ht
      exact ⟨_, [.int .u64 a, .int .u64 b], (good (l := []) (by intro p hp; simp at hp)), rfl, by kernel_rfl, by simp [SV.vals, SV.val, W_u64 wa, W_u64 wb], Nat.le_of_ble_eq_true rfl, mul64_vc _ _ _ _ rfl rfl wa wb v _ rfl hF.symm⟩
    · cases hF
  · cases hF

def lit4 : Nat → Int
  | 4 => 0
  | 3 => 1
  | 2 => 2
  | 1 => 3
  | _ => 4

def mulO (a0 a1 a2 a3 b0 b1 b2 b3 : Int) : Nat → D8 → St
  | n, (w0, w1, w2, w3, w4, w5, w6, w7) => ⟨[(2, .ptr 0 0), (3, .ptr 1 0), (4, .ptr 2 0), (5, .ptr 3 0), (6, .ptr 4 0), (16, .agg [.int .u64 a0, .int .u64 a1, .int .u64 a2, .int .u64 a3]), (17, .num .i64 (lit4 n))],
    [⟨.lit [.int .u64 a0, .int .u64 a1, .int .u64 a2, .int .u64 a3], .var⟩, ⟨.lit [.int .u64 b0, .int .u64 b1, .int .u64 b2, .int .u64 b3], .var⟩, ⟨.lit [.num .u64 0, .num .u64 0, .num .u64 0, .num .u64 0], .var⟩,
      ⟨.lit [.num .u64 0, .num .u64 0, .num .u64 0, .num .u64 0], .var⟩, ⟨.lit [.int .u64 w0, .int .u64 w1, .int .u64 w2, .int .u64 w3, .int .u64 w4, .int .u64 w5, .int .u64 w6, .int .u64 w7], .var⟩], true⟩

def mulI (i x a0 a1 a2 a3 b0 b1 b2 b3 : Int) : Nat → D8 × Int → St
  | n, ((w0, w1, w2, w3, w4, w5, w6, w7), c) => ⟨[(2, .ptr 0 0), (3, .ptr 1 0), (4, .ptr 2 0), (5, .ptr 3 0), (6, .ptr 4 0), (16, .agg [.int .u64 a0, .int .u64 a1, .int .u64 a2, .int .u64 a3]), (17, .num .i64 i),
      (7, .num .i64 i), (8, .int .u64 x), (9, .int .u64 c), (21, .agg [.int .u64 b0, .int .u64 b1, .int .u64 b2, .int .u64 b3]), (22, .num .i64 (lit4 n))],
    [⟨.lit [.int .u64 a0, .int .u64 a1, .int .u64 a2, .int .u64 a3], .var⟩, ⟨.lit [.int .u64 b0, .int .u64 b1, .int .u64 b2, .int .u64 b3], .var⟩, ⟨.lit [.num .u64 0, .num .u64 0, .num .u64 0, .num .u64 0], .var⟩,
      ⟨.lit [.num .u64 0, .num .u64 0, .num .u64 0, .num .u64 0], .var⟩, ⟨.lit [.int .u64 w0, .int .u64 w1, .int .u64 w2, .int .u64 w3, .int .u64 w4, .int .u64 w5, .int .u64 w6, .int .u64 w7], .var⟩], true⟩

def ex8 (id : Nat) (S : St) : D8 := (cellI S id 0, cellI S id 1, cellI S id 2, cellI S id 3, cellI S id 4, cellI S id 5, cellI S id 6, cellI S id 7)

def mulEx (S : St) : D8 × Int := (ex8 4 S, slotI S 9)

end Go.Proofs.Ytnhobbdijdbbeaa
