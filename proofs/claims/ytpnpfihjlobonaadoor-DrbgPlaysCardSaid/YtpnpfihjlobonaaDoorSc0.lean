/- Contracts of functions on numbers that this seat has. It has no conditions. -/
import Derived.Test.YtpnpfihjlobonaaDoorBase
import Derived.Test.YtpnpfihjlobonaaDoorNum
import Derived.Laws.Externs
import Derived.Test.YtpnpfihjlobonaaDoorNum2
import Derived.Test.YtpnpfihjlobonaaDoorNum5
import Derived.Test.YtpnpfihjlobonaaDoorNum3
import Derived.Test.YtpnpfihjlobonaaDoorNum6
namespace Go.Proofs.YtpnpfihjlobonaaDoor
open Go.Eng Go.RowKit
set_option maxRecDepth 1000000
set_option maxHeartbeats 4000000
set_option linter.unusedSimpArgs false
set_option linter.unusedVariables false

def sub64Entry : Array Value → Sem Value := fun args => do
  let (x, y, b) ← Extern.MathBitsCarry.three "Sub64" args
  pure (Extern.MathBitsCarry.pair ((x + Extern.MathBitsCarry.m64 - y - b) % Extern.MathBitsCarry.m64) (if x < y + b then 1 else 0))

theorem run_sub64 {P : Program} (x y b : Nat) (hb : b ≤ 1) (w : World) : (sub64Entry #[.int .u64 x, .int .u64 y, .int .u64 b]).run P w =
    .ok (.tuple #[.int .u64 (((x + 18446744073709551616 - y - b) % 18446744073709551616 : Nat) : Int), .int .u64 ((if x < y + b then 1 else 0 : Nat) : Int)]) w := by
  have : b = 0 ∨ b = 1 := by omega
  rcases this with rfl | rfl <;> rfl

theorem con_sub64 : Con Tryd.prog 71 (sub64F std apStd) := by
  intro args v hF m us w hv
  unfold sub64F at hF
  split at hF
  · rename_i x y c
    split at hF
    · rename_i x' y' c' hx hy hc
      simp only [Prod.mk.injEq] at hF
      obtain ⟨hle, rfl⟩ := hF
      simp only [SV.vals, Option.map_eq_some_iff, Option.bind_eq_some_iff] at hv
      obtain ⟨u1, h1, t1, ⟨u2, h2, t2, ⟨u3, h3, t3, e3, rfl⟩, rfl⟩, rfl⟩ := hv
      simp only [Option.some.injEq] at e3
      subst e3
      obtain ⟨rfl, w1⟩ := u64_of hx h1
      obtain ⟨rfl, w2⟩ := u64_of hy h2
      obtain ⟨rfl, w3⟩ := u64_of hc h3
      have hle : c' ≤ 1 := by simpa [std, icmp] using hle
      refine ⟨.tuple #[.int .u64 (dif64 x' y' c'), .int .u64 (bor64 x' y' c')], ?_, .inr ?_⟩
      · have k := bor64_le x' y' c'
        have k1 : W (bor64 x' y' c') := ⟨k.1, by omega⟩
        simp [SV.val, SV.vals, ap3, apStd, W_u64 (dif64_w x' y' c'), W_u64 k1]
      · obtain ⟨X, rfl⟩ := Int.eq_ofNat_of_zero_le w1.1
        obtain ⟨Y, rfl⟩ := Int.eq_ofNat_of_zero_le w2.1
        obtain ⟨Z, rfl⟩ := Int.eq_ofNat_of_zero_le w3.1
        rw [run_callFunc_extern Tryd.func71 (by kernel_rfl) (by kernel_rfl) (by kernel_rfl) (e := sub64Entry) (by kernel_rfl)]
        rw [run_sub64 X Y Z (by omega)]
        have e1 : (((X + 18446744073709551616 - Y - Z) % 18446744073709551616 : Nat) : Int) = dif64 X Y Z := by
          unfold W at *; unfold dif64; omega
        have e2 : ((if X < Y + Z then 1 else 0 : Nat) : Int) = bor64 X Y Z := by
          unfold bor64; split <;> split <;> first | rfl | omega
        rw [e1, e2]
        rfl
    · cases hF
  · cases hF

theorem addF_ids {N : Ap} {args : List SV} {v : SV} (hF : addF N args = (true, v)) : SV.idsLts 0 args = true := by
  unfold addF at hF
  split at hF
  · split at hF
    · rename_i ha hb
      simp [SV.idsLts, num256_ids ha, num256_ids hb]
    · cases hF
  · cases hF

theorem subF_ids {N : Ap} {args : List SV} {v : SV} (hF : subF N args = (true, v)) : SV.idsLts 0 args = true := by
  unfold subF at hF
  split at hF
  · split at hF
    · rename_i ha hb
      simp [SV.idsLts, num256_ids ha, num256_ids hb]
    · cases hF
  · cases hF

theorem limbsSub_vc (A : Ar) (L : LP) (N : Ap) (a0 a1 a2 a3 b0 b1 b2 b3 : Int) (hL : L = ALoop 0) (hA : A = std) (hN : N = apStd) (ha : W a0 ∧ W a1 ∧ W a2 ∧ W a3) (hb : W b0 ∧ W b1 ∧ W b2 ∧ W b3) (v : SV) (K : Bool → SV → List Blk → Prop) (hK : K = FinP v)
    (hv : v = .tup [numV apStd (subm (num4 a0 a1 a2 a3) (num4 b0 b1 b2 b3)), .bool (ltb (num4 a0 a1 a2 a3) (num4 b0 b1 b2 b3))]) :
    afun (cx A L [(71, sub64F A N)]) Tryd.f68 [wordsV a0 a1 a2 a3, wordsV b0 b1 b2 b3] [] K := by
  cbv
  refine lp_rounds hL 5 hL (.inr rfl) ?_
  cbv
  subst hA; subst hN; subst hv
  have h := sub_spec ha hb
  refine fin_of hK ?_ rfl ?_
  · simp [std, icmp, apStd, (bor64_le _ _ _).2]
  · simp [oneTup, numV, ap1, apStd, h.1, h.2.1, h.2.2.1, h.2.2.2.1, h.2.2.2.2, std, icmp]

theorem con_limbsSub : Con Tryd.prog 68 (subF apStd) := by
  refine con_of Tryd.func68 rfl (by kernel_rfl) (fun args v us hF hv => ?_) (fun args v hF => subF_ids hF)
  unfold subF at hF
  split at hF
  · rename_i x y
    split at hF
    · rename_i a b ha hb
      simp only [Prod.mk.injEq, true_and] at hF
      obtain ⟨a0, a1, a2, a3, b0, b1, b2, b3, wa, wb, rfl, rfl, hus⟩ := args_two ha hb hv
      exact ⟨_, _, (good (l := [(71, sub64F std apStd)]) (by intro p hp; simp at hp; subst hp; exact con_sub64)), rfl, by kernel_rfl, hus, Nat.le_of_ble_eq_true rfl, limbsSub_vc _ _ _ _ _ _ _ _ _ _ _ rfl rfl rfl wa wb v _ rfl hF.symm⟩
    · cases hF
  · cases hF

def raSt (a0 a1 a2 a3 b0 b1 b2 b3 : Int) (i c o0 o1 o2 o3 : Int) : St := ⟨[(2, .ptr 0 0), (3, .ptr 1 0), (4, .ptr 2 0), (5, .bool false), (6, .ptr 3 0), (7, .int .u64 c), (8, .num .i64 i)],
  [⟨.lit [.int .u64 a0, .int .u64 a1, .int .u64 a2, .int .u64 a3], .var⟩, ⟨.lit [.int .u64 b0, .int .u64 b1, .int .u64 b2, .int .u64 b3], .var⟩, ⟨.lit [.num .u64 0, .num .u64 0, .num .u64 0, .num .u64 0], .var⟩,
    ⟨.lit [.int .u64 o0, .int .u64 o1, .int .u64 o2, .int .u64 o3], .var⟩], true⟩

def raHead (N : Ap) (fc fs : Int → Int → Int → Int) (a0 a1 a2 a3 b0 b1 b2 b3 : Int) : Nat → St
  | 4 => raSt a0 a1 a2 a3 b0 b1 b2 b3 0 0 0 0 0 0
  | 3 => raSt a0 a1 a2 a3 b0 b1 b2 b3 1 (ap3 N fc a0 b0 0) (ap3 N fs a0 b0 0) 0 0 0
  | 2 => raSt a0 a1 a2 a3 b0 b1 b2 b3 2 (ap3 N fc a1 b1 (ap3 N fc a0 b0 0)) (ap3 N fs a0 b0 0) (ap3 N fs a1 b1 (ap3 N fc a0 b0 0)) 0 0
  | 1 => raSt a0 a1 a2 a3 b0 b1 b2 b3 3 (ap3 N fc a2 b2 (ap3 N fc a1 b1 (ap3 N fc a0 b0 0))) (ap3 N fs a0 b0 0) (ap3 N fs a1 b1 (ap3 N fc a0 b0 0)) (ap3 N fs a2 b2 (ap3 N fc a1 b1 (ap3 N fc a0 b0 0))) 0
  | _ => raSt a0 a1 a2 a3 b0 b1 b2 b3 4 (ap3 N fc a3 b3 (ap3 N fc a2 b2 (ap3 N fc a1 b1 (ap3 N fc a0 b0 0)))) (ap3 N fs a0 b0 0) (ap3 N fs a1 b1 (ap3 N fc a0 b0 0)) (ap3 N fs a2 b2 (ap3 N fc a1 b1 (ap3 N fc a0 b0 0))) (ap3 N fs a3 b3 (ap3 N fc a2 b2 (ap3 N fc a1 b1 (ap3 N fc a0 b0 0))))

theorem refCmp_vc (A : Ar) (L : LP) (N : Ap) (a0 a1 a2 a3 b0 b1 b2 b3 : Int) (hL : L = ALoop 0) (hA : A = std) (hN : N = apStd) (ha : W a0 ∧ W a1 ∧ W a2 ∧ W a3) (hb : W b0 ∧ W b1 ∧ W b2 ∧ W b3) (v : SV) (K : Bool → SV → List Blk → Prop) (hK : K = FinP v)
    (hv : v = .int .i64 (cmpI (num4 a0 a1 a2 a3) (num4 b0 b1 b2 b3))) :
    afun (cx A L []) Tryd.f44 [wordsV a0 a1 a2 a3, wordsV b0 b1 b2 b3] [] K := by
  cbv
  refine lp_rounds hL 5 hL (.inr rfl) ?_
  cbv
  repeat' (split <;> cbv)
  all_goals
    subst hA; subst hv
    simp only [std, icmp, decide_eq_true_eq, decide_eq_false_iff_not] at *
    refine fin_sb hK rfl rfl ?_
    simp only [SV.sb, oneTup, kn, Nat.beq]
    obtain ⟨ha0, ha1, ha2, ha3⟩ := ha
    obtain ⟨hb0, hb1, hb2, hb3⟩ := hb
    unfold W at ha0 ha1 ha2 ha3 hb0 hb1 hb2 hb3
    unfold cmpI num4
    refine ⟨trivial, ?_⟩
    split <;> (try split) <;> omega

theorem cmpF_ids {N : Ap} {args : List SV} {v : SV} (hF : cmpF N args = (true, v)) : SV.idsLts 0 args = true := by
  unfold cmpF at hF
  split at hF
  · split at hF
    · rename_i ha hb
      simp [SV.idsLts, num256_ids ha, num256_ids hb]
    · cases hF
  · cases hF

theorem con_refCmp : Con Tryd.prog 44 (cmpF apStd) := by
  refine con_of Tryd.func44 rfl (by kernel_rfl) (fun args v us hF hv => ?_) (fun args v hF => cmpF_ids hF)
  unfold cmpF at hF
  split at hF
  · rename_i x y
    split at hF
    · rename_i a b ha hb
      simp only [Prod.mk.injEq, true_and] at hF
      obtain ⟨a0, a1, a2, a3, b0, b1, b2, b3, wa, wb, rfl, rfl, hus⟩ := args_two ha hb hv
      exact ⟨_, _, (good (l := []) (by intro p hp; simp at hp)), rfl, by kernel_rfl, hus, Nat.le_of_ble_eq_true rfl, refCmp_vc _ _ _ _ _ _ _ _ _ _ _ rfl rfl rfl wa wb v _ rfl hF.symm⟩
    · cases hF
  · cases hF

theorem limbsFrom_vc (A : Ar) (L : LP) (s : ByteArray) (hL : L = ALoop 0) (hA : A = std) (hs : s.size ≤ 9223372036854775807) (v : SV) (K : Bool → SV → List Blk → Prop) (hK : K = FinP v)
    (hv : v = .tup [numV apStd (fromN s), .int .i64 (fromE s)]) :
    afun (cx A L []) Tryd.f42 [.str s] [] K := by
  obtain ⟨fi, fc, fw, fb, fn, fo, fs, fa, fe, fz⟩ := A
  cbv
  cases h : fc .neq (fo (fz s)) 32 <;> cbv
  · refine lp_rounds hL 33 hL (.inr rfl) ?_
    cbv
    cases hA
    have e : s.size = 32 := by simp [icmp] at h; omega
    refine fin_sb hK ?_ ?_ ?_
    · simp [std, icmp, e]
    · rw [hv]; rfl
    · obtain ⟨e0, e1, e2, e3⟩ := l_num4 (wd_w s 24) (wd_w s 16) (wd_w s 8) (wd_w s 0)
      rw [hv]
      have hb : ∀ i, ((s.data.getD i 0).toNat : Int) = bt s i := fun i => rfl
      have hw : ∀ i, IntKind.u64.wrap (bt s i) = bt s i := fun i => byte_word rfl
      have r := bt_range s
      simp only [oneTup, numV, ap1, apStd, fromN, fromE, e, if_true, e0, e1, e2, e3, hb, hw, word_up (r _) (r _) (r _) (r _) (r _) (r _) (r _) (r _)]
      simp [wd, SV.sb, SV.sbs, kn]
  · cases hA
    have e : s.size ≠ 32 := by simp [icmp] at h; omega
    refine fin_sb hK ?_ ?_ ?_
    · have hs' : (s.size : Int) ≤ 9223372036854775807 := by omega
      simp [std, icmp, hs']
    · rw [hv]; rfl
    · rw [hv]
      simp [oneTup, numV, ap1, apStd, fromN, fromE, e, SV.sb, SV.sbs, kn, l0, l1, l2, l3]

theorem refFrom_vc (A : Ar) (L : LP) (s : ByteArray) (hL : L = ALoop 0) (hA : A = std) (hs : s.size ≤ 9223372036854775807) (v : SV) (K : Bool → SV → List Blk → Prop) (hK : K = FinP v)
    (hv : v = .tup [numV apStd (fromN s), .int .i64 (fromE s)]) :
    afun (cx A L []) Tryd.f48 [.str s] [] K := by
  obtain ⟨fi, fc, fw, fb, fn, fo, fs, fa, fe, fz⟩ := A
  cbv
  cases h : fc .neq (fo (fz s)) 32 <;> cbv
  · refine lp_rounds hL 33 hL (.inr rfl) ?_
    cbv
    cases hA
    have e : s.size = 32 := by simp [icmp] at h; omega
    refine fin_sb hK ?_ ?_ ?_
    · simp [std, icmp, e]
    · rw [hv]; rfl
    · obtain ⟨e0, e1, e2, e3⟩ := l_num4 (wd_w s 24) (wd_w s 16) (wd_w s 8) (wd_w s 0)
      rw [hv]
      have hb : ∀ i, ((s.data.getD i 0).toNat : Int) = bt s i := fun i => rfl
      have hw : ∀ i, IntKind.u64.wrap (bt s i) = bt s i := fun i => byte_word rfl
      have r := bt_range s
      simp only [oneTup, numV, ap1, apStd, fromN, fromE, e, if_true, e0, e1, e2, e3, hb, hw, word_down (r _) (r _) (r _) (r _) (r _) (r _) (r _) (r _)]
      simp [wd, SV.sb, SV.sbs, kn]
  · cases hA
    have e : s.size ≠ 32 := by simp [icmp] at h; omega
    refine fin_sb hK ?_ ?_ ?_
    · have hs' : (s.size : Int) ≤ 9223372036854775807 := by omega
      simp [std, icmp, hs']
    · rw [hv]; rfl
    · rw [hv]
      simp [oneTup, numV, ap1, apStd, fromN, fromE, e, SV.sb, SV.sbs, kn, l0, l1, l2, l3]

theorem con_limbsFrom : Con Tryd.prog 42 (fromF std apStd) := by
  refine con_of Tryd.func42 rfl (by kernel_rfl) (fun args v us hF hv => ?_) (fun args v hF => fromF_ids hF)
  unfold fromF at hF
  split at hF
  · rename_i s
    simp only [Prod.mk.injEq] at hF
    obtain ⟨h1, h2⟩ := hF
    rw [show ap1 apStd fromN s = fromN s from rfl, show ap1 apStd fromE s = fromE s from rfl] at h2
    have hs : s.size ≤ 9223372036854775807 := by simp [std, icmp] at h1; omega
    exact ⟨_, _, good (l := []) (by simp), rfl, by kernel_rfl, hv, Nat.le_of_ble_eq_true rfl, limbsFrom_vc std (ALoop 0) s rfl rfl hs v (FinP v) rfl h2.symm⟩
  · cases hF

theorem con_refFrom : Con Tryd.prog 48 (fromF std apStd) := by
  refine con_of Tryd.func48 rfl (by kernel_rfl) (fun args v us hF hv => ?_) (fun args v hF => fromF_ids hF)
  unfold fromF at hF
  split at hF
  · rename_i s
    simp only [Prod.mk.injEq] at hF
    obtain ⟨h1, h2⟩ := hF
    rw [show ap1 apStd fromN s = fromN s from rfl, show ap1 apStd fromE s = fromE s from rfl] at h2
    have hs : s.size ≤ 9223372036854775807 := by simp [std, icmp] at h1; omega
    exact ⟨_, _, good (l := []) (by simp), rfl, by kernel_rfl, hv, Nat.le_of_ble_eq_true rfl, refFrom_vc std (ALoop 0) s rfl rfl hs v (FinP v) rfl h2.symm⟩
  · cases hF

theorem words_num {a0 a1 a2 a3 : Int} (ha : W a0 ∧ W a1 ∧ W a2 ∧ W a3) : numV apStd (num4 a0 a1 a2 a3) = wordsV a0 a1 a2 a3 := by
  obtain ⟨e0, e1, e2, e3⟩ := limbs_of (n := num4 a0 a1 a2 a3) (k := 0) ha.1 ha.2.1 ha.2.2.1 ha.2.2.2 (by omega)
  simp [numV, ap1, apStd, wordsV, e0, e1, e2, e3]

theorem ap1_std {α β : Type} (f : α → β) (a : α) : ap1 apStd f a = f a := rfl

theorem ap2_std {α β γ : Type} (f : α → β → γ) (a : α) (b : β) : ap2 apStd f a b = f a b := rfl

theorem ap3_std {α β γ δ : Type} (f : α → β → γ → δ) (a : α) (b : β) (c : γ) : ap3 apStd f a b c = f a b c := rfl

theorem not_of {b p : Bool} (h : (match b with | true => false | false => true) = p) : b = !p := by cases b <;> cases p <;> simp_all

theorem valid_vc (A : Ar) (L : LP) (N : Ap) (m0 m1 m2 m3 n r0 r1 r2 r3 a0 a1 a2 a3 : Int) (hL : L = ALoop 0) (hA : A = std) (hN : N = apStd) (v : SV) (K : Bool → SV → List Blk → Prop) (hK : K = FinP v)
    (hv : v = .bool (ltb (num4 a0 a1 a2 a3) (num4 m0 m1 m2 m3))) :
    Shut (afun (cx A L [(68, subF N)]) Tryd.f63 [modV m0 m1 m2 m3 n r0 r1 r2 r3, wordsV a0 a1 a2 a3] [] K) := by
  apply Shut.mk
  cbv
  subst hN; subst hv
  exact fin_of hK rfl rfl rfl

theorem half_or {x y : Int} (hx : W x) : iop .or .u64 (iop .shr .u64 x 1) (iop .shl .u64 y 63) = x / 2 + y % 2 * 9223372036854775808 := by
  have e1 : iop .shr .u64 x 1 = x / 2 := shr_lit x 1 (by omega)
  have e2 : iop .shl .u64 y 63 = y % 2 * 2 ^ 63 := by
    have h := shl_lit y 63 (by omega)
    rw [show ((63 : Nat) : Int) = 63 from rfl] at h
    rw [h]; omega
  rw [e1, e2, or_disj 63 (by unfold W at hx; omega) (by omega) (by omega)]
  omega

/-! The contracts. -/

theorem con_valid : Con Tryd.prog 63 (validF apStd) := by
  refine con_shut Tryd.func63 rfl (by kernel_rfl) (fun args v us hF hv => ?_) (fun args v hF => mod1F_ids hF)
  unfold validF mod1F at hF
  split at hF
  · split at hF
    · rename_i M n r a hm ha
      simp only [Prod.mk.injEq, true_and, ap1_std, ap2_std, ap3_std] at hF
      obtain ⟨m0, m1, m2, m3, r0, r1, r2, r3, a0, a1, a2, a3, wm, wn, wr, wa, rfl, rfl, rfl, hus⟩ := args_mod_one hm ha hv
      exact ⟨_, _, good (l := [(68, subF apStd)]) (by intro p hp; simp at hp; subst hp; exact con_limbsSub), rfl, by kernel_rfl, hus, Nat.le_of_ble_eq_true rfl, valid_vc std (ALoop 0) apStd m0 m1 m2 m3 n r0 r1 r2 r3 a0 a1 a2 a3 rfl rfl rfl v (FinP v) rfl hF.symm⟩
    · cases hF
  · cases hF

def smV : SV := .agg [.num .u64 17562291160714782033, .num .u64 13611842547513532036, .num .u64 18446744073709551615, .num .u64 18446744069414584320, .num .u64 14758798090332847183, .num .u64 9449762124159643298, .num .u64 5087230966250696614, .num .u64 2901921493521525849, .num .u64 7413256579398063648]

def sqV : SV := .agg [.num .u64 17562291160714782033, .num .u64 13611842547513532036, .num .u64 18446744073709551615, .num .u64 18446744069414584320]

theorem slit : num4 17562291160714782033 13611842547513532036 18446744073709551615 18446744069414584320 = qN := by decide

theorem srr : num4 9449762124159643298 5087230966250696614 2901921493521525849 7413256579398063648 = rrOf qN := by decide

theorem sMod_vc (A : Ar) (L : LP) (v : SV) (K : Bool → SV → List Blk → Prop) (hK : K = FinP v) (hv : v = smV) : Shut (afun (cx A L []) Tryd.f62 [] [] K) := by
  apply Shut.mk
  cbv
  exact fin_of hK rfl rfl hv

theorem con_sMod : Con Tryd.prog 62 (nul0F smV) := by
  refine con_shut Tryd.func62 rfl (by kernel_rfl) (fun args v us hF hv => ?_) (fun args v hF => nul0F_ids hF)
  unfold nul0F at hF
  split at hF
  · simp only [Prod.mk.injEq, true_and] at hF
    exact ⟨_, _, good (l := []) (by simp), rfl, by kernel_rfl, hv, Nat.zero_le _, sMod_vc std (ALoop 0) v (FinP v) rfl hF.symm⟩
  · cases hF

theorem srOrder_vc (A : Ar) (L : LP) (v : SV) (K : Bool → SV → List Blk → Prop) (hK : K = FinP v) (hv : v = sqV) : Shut (afun (cx A L []) Tryd.f45 [] [] K) := by
  apply Shut.mk
  cbv
  exact fin_of hK rfl rfl hv

theorem con_srOrder : Con Tryd.prog 45 (nul0F sqV) := by
  refine con_shut Tryd.func45 rfl (by kernel_rfl) (fun args v us hF hv => ?_) (fun args v hF => nul0F_ids hF)
  unfold nul0F at hF
  split at hF
  · simp only [Prod.mk.injEq, true_and] at hF
    exact ⟨_, _, good (l := []) (by simp), rfl, by kernel_rfl, hv, Nat.zero_le _, srOrder_vc std (ALoop 0) v (FinP v) rfl hF.symm⟩
  · cases hF

theorem sValid_vc (A : Ar) (L : LP) (N : Ap) (a0 a1 a2 a3 : Int) (hL : L = ALoop 0) (hA : A = std) (hN : N = apStd) (ha : W a0 ∧ W a1 ∧ W a2 ∧ W a3) (v : SV) (K : Bool → SV → List Blk → Prop) (hK : K = FinP v) (hv : v = .bool (ltb (num4 a0 a1 a2 a3) qN)) :
    Shut (afun (cx A L [(62, nul0F smV), (63, validF N)]) Tryd.f43 [wordsV a0 a1 a2 a3] [] K) := by
  apply Shut.mk
  cbv
  subst hN; subst hv
  refine fin_of hK rfl rfl ?_
  simp only [apStd, slit]
  rfl

theorem con_sValid : Con Tryd.prog 43 (sval apStd qN) := by
  refine con_shut Tryd.func43 rfl (by kernel_rfl) (fun args v us hF hv => ?_) (fun args v hF => num1F_ids hF)
  unfold sval num1F at hF
  split at hF
  · split at hF
    · rename_i a ha
      simp only [Prod.mk.injEq, true_and, ap1_std] at hF
      obtain ⟨a0, a1, a2, a3, wa, rfl, hus⟩ := args_one ha hv
      exact ⟨_, _, good (l := [(62, nul0F smV), (63, validF apStd)]) (by intro p hp; simp only [List.mem_cons, List.not_mem_nil, or_false] at hp; rcases hp with rfl | rfl; exact con_sMod; exact con_valid), rfl, by kernel_rfl, hus, Nat.le_of_ble_eq_true rfl, sValid_vc std (ALoop 0) apStd a0 a1 a2 a3 rfl rfl rfl wa v (FinP v) rfl hF.symm⟩
    · cases hF
  · cases hF

theorem srValid_vc (A : Ar) (L : LP) (N : Ap) (a0 a1 a2 a3 : Int) (hL : L = ALoop 0) (hA : A = std) (hN : N = apStd) (ha : W a0 ∧ W a1 ∧ W a2 ∧ W a3) (v : SV) (K : Bool → SV → List Blk → Prop) (hK : K = FinP v) (hv : v = .bool (ltb (num4 a0 a1 a2 a3) qN)) :
    Shut (afun (cx A L [(45, nul0F sqV), (44, cmpF N)]) Tryd.f26 [wordsV a0 a1 a2 a3] [] K) := by
  apply Shut.mk
  cbv
  subst hN; subst hv; subst hA
  refine fin_of hK rfl rfl ?_
  simp only [apStd, slit, ← cmp_ltb]
  rfl

theorem con_srValid : Con Tryd.prog 26 (sval apStd qN) := by
  refine con_shut Tryd.func26 rfl (by kernel_rfl) (fun args v us hF hv => ?_) (fun args v hF => num1F_ids hF)
  unfold sval num1F at hF
  split at hF
  · split at hF
    · rename_i a ha
      simp only [Prod.mk.injEq, true_and, ap1_std] at hF
      obtain ⟨a0, a1, a2, a3, wa, rfl, hus⟩ := args_one ha hv
      exact ⟨_, _, good (l := [(45, nul0F sqV), (44, cmpF apStd)]) (by intro p hp; simp only [List.mem_cons, List.not_mem_nil, or_false] at hp; rcases hp with rfl | rfl; exact con_srOrder; exact con_refCmp), rfl, by kernel_rfl, hus, Nat.le_of_ble_eq_true rfl, srValid_vc std (ALoop 0) apStd a0 a1 a2 a3 rfl rfl rfl wa v (FinP v) rfl hF.symm⟩
    · cases hF
  · cases hF

end Go.Proofs.YtpnpfihjlobonaaDoor
