/- A law's walk, from its parameters' kinds. It has no conditions. -/
import Derived.Test.YtpnpfihjlobonaaDoorLaw
namespace Go.Proofs.YtpnpfihjlobonaaDoor
set_option maxRecDepth 100000
open Go.Eng Go.ChangeShapes Go.WideShapes Go.ChangeAt Go.RowKit

/-- What a parameter is: a number of 256 bits, a text, a whole number, a bool. -/
inductive PK where
  | num | str | i64 | bool

def PK.Is : PK → SV → Value → Prop
  | .num, s, v => ∃ a0 a1 a2 a3, s = wordsV a0 a1 a2 a3 ∧ v = .agg #[.int .u64 a0, .int .u64 a1, .int .u64 a2, .int .u64 a3] ∧ W a0 ∧ W a1 ∧ W a2 ∧ W a3
  | .str, s, v => ∃ x : ByteArray, s = .str x ∧ v = .string x ∧ x.size ≤ maxLen
  | .i64, s, v => ∃ n, s = .int .i64 n ∧ v = .int .i64 n ∧ IntKind.i64.wrap n = n
  | .bool, s, v => ∃ b, s = .bool b ∧ v = .bool b

theorem PK.Is.val {k : PK} {s : SV} {v : Value} (h : k.Is s v) : s.val [] = some v := by
  cases k with
  | num =>
    obtain ⟨a0, a1, a2, a3, rfl, rfl, h0, h1, h2, h3⟩ := h
    simp [SV.val, SV.vals, wordsV, W_u64 h0, W_u64 h1, W_u64 h2, W_u64 h3]
  | str =>
    obtain ⟨x, rfl, rfl, _⟩ := h
    rfl
  | i64 =>
    obtain ⟨n, rfl, rfl, h⟩ := h
    simp [SV.val, h]
  | bool =>
    obtain ⟨n, rfl, rfl⟩ := h
    rfl

def PK.ty (P : Program) : PK → TypeId → Prop
  | .num, t => ∃ e, P.underlying t = some (.array 4 e) ∧ P.underlying e = some (.int .u64) ∧ P.cellsOf e = 1 ∧ P.cellsOf t = 4
  | .str, t => P.underlying t = some .string
  | .i64, t => P.underlying t = some (.int .i64)
  | .bool, t => P.underlying t = some .bool

def PK.tys (P : Program) : List PK → List TypeId → Prop
  | [], [] => True
  | k :: ks, t :: ts => k.ty P t ∧ PK.tys P ks ts
  | _, _ => False

def PK.fits : List PK → List SV → Prop
  | [], [] => True
  | k :: ks, s :: ss => (∃ v, k.Is s v) ∧ PK.fits ks ss
  | _, _ => False

theorem PK.fits1 {k0 : PK} {ss : List SV} (h : PK.fits [k0] ss) : ∃ s0 v0, ss = [s0] ∧ k0.Is s0 v0 := by
  match ss, h with
  | [s0], ⟨⟨v0, h0⟩, _⟩ => exact ⟨s0, v0, rfl, h0⟩
theorem PK.fits2 {k0 k1 : PK} {ss : List SV} (h : PK.fits [k0, k1] ss) : ∃ s0 s1 v0 v1, ss = [s0, s1] ∧ k0.Is s0 v0 ∧ k1.Is s1 v1 := by
  match ss, h with
  | [s0, s1], ⟨⟨v0, h0⟩, ⟨v1, h1⟩, _⟩ => exact ⟨s0, s1, v0, v1, rfl, h0, h1⟩
theorem PK.fits3 {k0 k1 k2 : PK} {ss : List SV} (h : PK.fits [k0, k1, k2] ss) : ∃ s0 s1 s2 v0 v1 v2, ss = [s0, s1, s2] ∧ k0.Is s0 v0 ∧ k1.Is s1 v1 ∧ k2.Is s2 v2 := by
  match ss, h with
  | [s0, s1, s2], ⟨⟨v0, h0⟩, ⟨v1, h1⟩, ⟨v2, h2⟩, _⟩ => exact ⟨s0, s1, s2, v0, v1, v2, rfl, h0, h1, h2⟩

theorem open_one {P : Program} {H : Type} {enc : TypeId × Value → H} {w : World} {base : Nat} {sp : Nat → Bool} {held : Bool} {r : Reach} {b0 : Nat} {t : TypeId} {v : Value} {d : DataW H} {ps : List MemPlace} {k : PK}
    (hk : k.ty P t) (hval : Value.okWide P w r b0 t v) (hd : DataW.Trod enc P w base sp held t v d ps) : ∃ s, k.Is s v := by
  cases k with
  | num =>
    obtain ⟨e, ht, he, hc, hc4⟩ := hk
    obtain ⟨a0, a1, a2, a3, rfl, wa⟩ := open_num ht he hc hc4 hval hd
    exact ⟨_, a0, a1, a2, a3, rfl, rfl, wa⟩
  | str =>
    obtain ⟨s, rfl, _, _, hl⟩ := Go.ChangeMaps.open_string hk hval hd
    exact ⟨_, s, rfl, rfl, hl⟩
  | i64 =>
    obtain ⟨n, rfl, _, _, hw⟩ := open_int hk hval hd
    exact ⟨_, n, rfl, rfl, by simpa [Lit.wf, wrap_eq_iff] using hw⟩
  | bool =>
    obtain ⟨n, rfl, _, _⟩ := open_bool hk hval hd
    exact ⟨_, n, rfl, rfl⟩

theorem open_all {P : Program} {H : Type} {enc : TypeId × Value → H} {w : World} {base : Nat} {sp : Nat → Bool} {held : Bool} {r : Reach} {b0 : Nat} : ∀ {ks : List PK} {ts : List TypeId} {vs : List Value} {ds : List (DataW H)} {ps : List MemPlace},
    PK.tys P ks ts → (∀ (j : Nat) t v, ts[j]? = some t → vs[j]? = some v → Value.okWide P w r b0 t v) → DataW.TrodAll enc P w base sp held ts vs ds ps → ∃ ss, SV.vals [] ss = some vs ∧ PK.fits ks ss
  | [], [], vs, ds, ps, _, _, hA => by
    obtain ⟨rfl, rfl, rfl⟩ := trodAll_nil hA
    exact ⟨[], rfl, trivial⟩
  | k :: ks, t :: ts, vs, ds, ps, hk, hval, hA => by
    obtain ⟨v0, vs0, d0, ds0, p0, q0, rfl, rfl, rfl, h0, r0⟩ := trodAll_cons hA
    obtain ⟨s, hs⟩ := open_one hk.1 (hval 0 t v0 rfl rfl) h0
    obtain ⟨ss, h1, h2⟩ := open_all hk.2 (fun j t v ht hv => hval (j + 1) t v (by simpa using ht) (by simpa using hv)) r0
    exact ⟨s :: ss, by simp [SV.vals, hs.val, h1], ⟨v0, hs⟩, h2⟩
  | [], _ :: _, _, _, _, h, _, _ => h.elim
  | _ :: _, [], _, _, _, h, _, _ => h.elim

/-- A law's walk. -/
theorem walk_gen {P : Program} {f : FuncId} {fn : Func} {c : Code} (hf : P.funcs[f]? = some fn) (hb : fn.body = some c) (ks : List PK) {ts : List TypeId} (hp : fn.params.toList = ts) (hk : PK.tys P ks ts)
    (h : ∀ ss, PK.fits ks ss → ∃ C, Eng.Good P C 0 ∧ C.gl = [] ∧ codeOk C fn.ntmps c = true ∧ ss.length ≤ fn.ntmps ∧ Hides (afun C fn ss [] (FinP (.bool true))))
    (w : World) (base : Nat) (args : Array Value) {H : Type} {enc : TypeId × Value → H} (ds : List (DataW H)) (ps : List MemPlace)
    (hval : ∀ (j : Nat) t v, fn.params[j]? = some t → args[j]? = some v → Value.okWide P w .any base t v) (hA : DataW.TrodAll enc P w 0 (fun _ => true) true fn.params.toList args.toList ds ps) :
    Calls P f args w fun e w' => e = .returned (.bool true) ∧ Below w.heap.size w w' := by
  rw [hp] at hA
  obtain ⟨ss, h1, h2⟩ := open_all hk (fun j t v ht hv => hval j t v (by rw [← Array.getElem?_toList, hp]; exact ht) (by rw [← Array.getElem?_toList]; exact hv)) hA
  obtain ⟨C, hG, hgl, hco, hn, ⟨hfun⟩⟩ := h ss h2
  have := run_of hf hb hG hgl hco h1 hn hfun (u := .bool true) rfl w
  simpa using this

end Go.Proofs.YtpnpfihjlobonaaDoor
