/- Walks through the functions of the sha package: a word turned, a block's words. It has no conditions. -/
import Derived.Test.YtpnpfihjlobonaaDoorNum5
import Derived.Test.YtpnpfihjlobonaaDoorBase
namespace Go.Proofs.YtpnpfihjlobonaaDoor
open Go.Eng Go.RowKit
set_option maxRecDepth 1000000
set_option maxHeartbeats 4000000
set_option linter.unusedSimpArgs false
set_option linter.unusedVariables false

/-- A contract of a function with blocks, shut. -/
theorem hcon_shut {P : Program} {G : List Nat} {f : FuncId} {fn : Func} {c : Code} (hf : P.funcs[f]? = some fn) (hb : fn.body = some c) (hname : (fn.name == "runtime.NumGoroutine") = false) {F : HF}
    (h : ∀ (args : List SV) (h : List Blk) (v : SV) (ch : List (Option Blk)) (nw : List Blk), F args h = ⟨true, v, ch, nw⟩ → ∀ (m : List Pl) (us : List Value) (w : World), HTie m h w → SV.vals m args = some us →
      ∃ (C : Cx) (args' : List SV) (h0 : List Blk), Eng.Good P C h.length ∧ C.gl = G ∧ codeOk C fn.ntmps c = true ∧ SV.vals m args' = some us ∧ args'.length ≤ fn.ntmps ∧
        sbH (idents 0 h.length) (idents 0 h.length) h0 h ∧ startOk ch h0 = true ∧ ch.length ≤ h.length ∧ Shut (afun C fn args' h0 (FinH h.length v ch nw (uniR h.length v ch nw)))) : HCon P G f F :=
  hcon_of hf hb hname fun args hh v ch nw hF m us w H hv => by
    obtain ⟨C, args', h0, h1, h2, h3, h4, h5, h6, h7, h8, h9⟩ := h args hh v ch nw hF m us w H hv
    exact ⟨C, args', h0, _, h1, h2, h3, h4, h5, h6, h7, h8, h9.out⟩

def cxg (A : Ar) (L : LP) (l : Pure) (d : Heap) (dy : Nat → List (Nat × Nat) := dy0) : Cx := cxh A L noJ l d [0, 1] dy

theorem goodg {base : Nat} {l : Pure} {d : Heap} (dy : Nat → List (Nat × Nat)) (hb : 2 ≤ base) (h : ∀ p ∈ l, Con Tryd.prog p.1 p.2) (h' : ∀ p ∈ d, HCon Tryd.prog [0, 1] p.1 p.2) : Eng.Good Tryd.prog (cxg std (ALoop base) l d dy) base :=
  ⟨good0 rfl h h', rfl, .inr rfl, hb⟩

/-! A word turned. -/

def SV.u32 : SV → Option Int
  | .int .u32 n => some n
  | .num .u32 n => some n
  | _ => none

theorem u32_of {x : SV} {n : Int} (h : SV.u32 x = some n) {u : Value} {m : List Pl} (hv : x.val m = some u) : (SV.int .u32 n).val m = some u ∧ x.idsLt 0 = true := by
  unfold SV.u32 at h
  split at h
  · cases h; exact ⟨hv, rfl⟩
  · cases h; exact ⟨hv, rfl⟩
  · cases h

def rotr (n x : Int) : Int := iop .or .u32 (iop .shl .u32 x (32 - n)) (iop .shr .u32 x n)

def turns32 : List Int := [2, 6, 7, 11, 13, 17, 18, 19, 22, 25]

def rotlF (N : Ap) : List SV → Bool × SV
  | [x, .num .i64 k] => match SV.u32 x, turns32.any (fun n => icmp .eql k (-n)) with
    | some x, true => (true, .int .u32 (ap2 N rotr (-k) x))
    | _, _ => (false, .bad)
  | _ => (false, .bad)

def rightF (N : Ap) : List SV → Bool × SV
  | [x, .num .i64 k] => match SV.u32 x, turns32.any (fun n => icmp .eql k n) with
    | some x, true => (true, .int .u32 (ap2 N rotr k x))
    | _, _ => (false, .bad)
  | _ => (false, .bad)

theorem rotlF_ids {N : Ap} {args : List SV} {v : SV} (hF : rotlF N args = (true, v)) : SV.idsLts 0 args = true := by
  unfold rotlF at hF
  split at hF
  · rename_i x k
    split at hF
    · rename_i hx _
      have : x.idsLt 0 = true := by unfold SV.u32 at hx; split at hx <;> first | rfl | cases hx
      simp [SV.idsLts, this, SV.idsLt]
    · cases hF
  · cases hF
theorem rightF_ids {N : Ap} {args : List SV} {v : SV} (hF : rightF N args = (true, v)) : SV.idsLts 0 args = true := by
  unfold rightF at hF
  split at hF
  · rename_i x k
    split at hF
    · rename_i hx _
      have : x.idsLt 0 = true := by unfold SV.u32 at hx; split at hx <;> first | rfl | cases hx
      simp [SV.idsLts, this, SV.idsLt]
    · cases hF
  · cases hF

theorem turns_of {k : Int} (h : turns32.any (fun n => icmp .eql k n) = true) : k = 2 ∨ k = 6 ∨ k = 7 ∨ k = 11 ∨ k = 13 ∨ k = 17 ∨ k = 18 ∨ k = 19 ∨ k = 22 ∨ k = 25 := by
  simpa [turns32, icmp] using h
theorem turns_neg {k : Int} (h : turns32.any (fun n => icmp .eql k (-n)) = true) : k = -2 ∨ k = -6 ∨ k = -7 ∨ k = -11 ∨ k = -13 ∨ k = -17 ∨ k = -18 ∨ k = -19 ∨ k = -22 ∨ k = -25 := by
  simpa [turns32, icmp] using h

theorem rotl_vc (A : Ar) (N : Ap) (L : LP) (x k : Int) (hA : A = std) (hN : N = apStd) (hk : k = -2 ∨ k = -6 ∨ k = -7 ∨ k = -11 ∨ k = -13 ∨ k = -17 ∨ k = -18 ∨ k = -19 ∨ k = -22 ∨ k = -25) (v : SV) (K : Bool → SV → List Blk → Prop) (hK : K = FinP v)
    (hv : v = .int .u32 (ap2 N rotr (-k) x)) : Shut (afun (cx A L []) Tryd.f72 [.int .u32 x, .num .i64 k] [] K) := by
  apply Shut.mk
  rcases hk with rfl | rfl | rfl | rfl | rfl | rfl | rfl | rfl | rfl | rfl
  all_goals
    cbv
    cases hA; cases hN
    exact fin_of hK rfl rfl hv

theorem right_vc (N : Ap) (L : LP) (x k : Int) (hN : N = apStd) (hk : k = 2 ∨ k = 6 ∨ k = 7 ∨ k = 11 ∨ k = 13 ∨ k = 17 ∨ k = 18 ∨ k = 19 ∨ k = 22 ∨ k = 25) (v : SV) (K : Bool → SV → List Blk → Prop) (hK : K = FinP v)
    (hv : v = .int .u32 (ap2 N rotr k x)) : Shut (afun (cx std L [(72, rotlF N)]) Tryd.f70 [.int .u32 x, .num .i64 k] [] K) := by
  apply Shut.mk
  rcases hk with rfl | rfl | rfl | rfl | rfl | rfl | rfl | rfl | rfl | rfl
  all_goals
    cbv
    cases hN
    exact fin_of hK rfl rfl hv

theorem args_turn {x : SV} {a k : Int} (hx : SV.u32 x = some a) {us : List Value} (hv : SV.vals [] [x, .num .i64 k] = some us) : SV.vals [] [.int .u32 a, .num .i64 k] = some us := by
  simp only [SV.vals, Option.bind_eq_some_iff, Option.map_eq_some_iff] at hv ⊢
  obtain ⟨u, hu, r, hr, rfl⟩ := hv
  exact ⟨u, (u32_of hx hu).1, r, hr, rfl⟩

theorem con_rotl : Con Tryd.prog 72 (rotlF apStd) := by
  refine con_shut Tryd.func72 rfl (by kernel_rfl) (fun args v us hF hv => ?_) (fun args v hF => rotlF_ids hF)
  unfold rotlF at hF
  split at hF
  · rename_i x k
    split at hF
    · rename_i a hx hk
      simp only [Prod.mk.injEq, true_and] at hF
      exact ⟨_, _, good (l := []) (by simp), rfl, by kernel_rfl, args_turn hx hv, Nat.le_of_ble_eq_true rfl, rotl_vc std apStd (ALoop 0) a k rfl rfl (turns_neg hk) v (FinP v) rfl hF.symm⟩
    · cases hF
  · cases hF

theorem con_right : Con Tryd.prog 70 (rightF apStd) := by
  refine con_shut Tryd.func70 rfl (by kernel_rfl) (fun args v us hF hv => ?_) (fun args v hF => rightF_ids hF)
  unfold rightF at hF
  split at hF
  · rename_i x k
    split at hF
    · rename_i a hx hk
      simp only [Prod.mk.injEq, true_and] at hF
      exact ⟨_, _, good (l := [(72, rotlF apStd)]) (by intro p hp; simp at hp; subst hp; exact con_rotl), rfl, by kernel_rfl, args_turn hx hv, Nat.le_of_ble_eq_true rfl, right_vc apStd (ALoop 0) a k rfl (turns_of hk) v (FinP v) rfl hF.symm⟩
    · cases hF
  · cases hF

end Go.Proofs.YtpnpfihjlobonaaDoor
