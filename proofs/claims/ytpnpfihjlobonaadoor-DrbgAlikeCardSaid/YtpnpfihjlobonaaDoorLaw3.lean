/- A law's walk, from its parameters' kinds; pairs of whole numbers among them. It has no conditions. -/
import Derived.Test.YtpnpfihjlobonaaDoorLawG
namespace Go.Proofs.YtpnpfihjlobonaaDoor
set_option maxRecDepth 100000
open Go.Eng Go.ChangeShapes Go.WideShapes Go.ChangeAt Go.RowKit

/-- What a parameter is: one of those of a kind above, or two whole numbers. -/
inductive PX where
  | pk (k : PK) | two

def PX.Is : PX → SV → Value → Prop
  | .pk k, s, v => k.Is s v
  | .two, s, v => ∃ a b, s = .agg [.int .i64 a, .int .i64 b] ∧ v = .agg #[.int .i64 a, .int .i64 b] ∧ IntKind.i64.wrap a = a ∧ IntKind.i64.wrap b = b

theorem PX.Is.val {k : PX} {s : SV} {v : Value} (h : k.Is s v) : s.val [] = some v := by
  cases k with
  | pk k => exact PK.Is.val h
  | two =>
    obtain ⟨a, b, rfl, rfl, h0, h1⟩ := h
    simp [SV.val, SV.vals, h0, h1]

def PX.ty (P : Program) : PX → TypeId → Prop
  | .pk k, t => k.ty P t
  | .two, t => ∃ e, P.underlying t = some (.array 2 e) ∧ P.underlying e = some (.int .i64) ∧ P.cellsOf e = 1 ∧ P.cellsOf t = 2

def PX.tys (P : Program) : List PX → List TypeId → Prop
  | [], [] => True
  | k :: ks, t :: ts => k.ty P t ∧ PX.tys P ks ts
  | _, _ => False

def PX.fits : List PX → List SV → Prop
  | [], [] => True
  | k :: ks, s :: ss => (∃ v, k.Is s v) ∧ PX.fits ks ss
  | _, _ => False

theorem PX.fits1 {k0 : PX} {ss : List SV} (h : PX.fits [k0] ss) : ∃ s0 v0, ss = [s0] ∧ k0.Is s0 v0 := by
  match ss, h with
  | [s0], ⟨⟨v0, h0⟩, _⟩ => exact ⟨s0, v0, rfl, h0⟩
theorem PX.fits2 {k0 k1 : PX} {ss : List SV} (h : PX.fits [k0, k1] ss) : ∃ s0 s1 v0 v1, ss = [s0, s1] ∧ k0.Is s0 v0 ∧ k1.Is s1 v1 := by
  match ss, h with
  | [s0, s1], ⟨⟨v0, h0⟩, ⟨v1, h1⟩, _⟩ => exact ⟨s0, s1, v0, v1, rfl, h0, h1⟩
theorem PX.fits3 {k0 k1 k2 : PX} {ss : List SV} (h : PX.fits [k0, k1, k2] ss) : ∃ s0 s1 s2 v0 v1 v2, ss = [s0, s1, s2] ∧ k0.Is s0 v0 ∧ k1.Is s1 v1 ∧ k2.Is s2 v2 := by
  match ss, h with
  | [s0, s1, s2], ⟨⟨v0, h0⟩, ⟨v1, h1⟩, ⟨v2, h2⟩, _⟩ => exact ⟨s0, s1, s2, v0, v1, v2, rfl, h0, h1, h2⟩

theorem open_two {P : Program} {H : Type} {enc : TypeId × Value → H} {w : World} {base : Nat} {sp : Nat → Bool} {held : Bool} {r : Reach} {b0 : Nat} {t e : TypeId} {v : Value} {d : DataW H} {ps : List MemPlace}
    (ht : P.underlying t = some (.array 2 e)) (he : P.underlying e = some (.int .i64)) (hc : P.cellsOf e = 1) (hc2 : P.cellsOf t = 2) (hval : Value.okWide P w r b0 t v) (hd : DataW.Trod enc P w base sp held t v d ps) :
    ∃ a b, v = .agg #[.int .i64 a, .int .i64 b] ∧ IntKind.i64.wrap a = a ∧ IntKind.i64.wrap b = b := by
  have hv : ∃ xs : Array Value, v = .agg xs := by
    simp only [Value.okWide, ht] at hval
    obtain ⟨cs, h1, _⟩ := hval
    exact ⟨cs, h1⟩
  obtain ⟨xs, rfl⟩ := hv
  obtain ⟨fuel, hf⟩ := hd
  obtain ⟨ys, m, rfl, hx, hl, hn, hy⟩ := DataW.trod_array ht hf
  have h4 : xs.toList.length = 2 := by simpa [Value.cells, hc2] using hl
  have key : ∀ i, i < 2 → ∃ n, (xs.toList.drop i).take 1 = [.int .i64 n] ∧ IntKind.i64.wrap n = n := fun i hi => by
    have h := hy i hi
    rw [hc, Nat.mul_one] at h
    obtain ⟨y, e2⟩ : ∃ y, ys[i]? = some y := by
      cases hq : ys[i]? with
      | some y => exact ⟨y, rfl⟩
      | none => rw [List.getElem?_eq_none_iff] at hq; omega
    rw [e2] at h
    obtain ⟨n, e3, _, hw⟩ := DataW.trod_int he h
    refine ⟨n, by simpa [Value.cells] using e3, ?_⟩
    simpa [Lit.wf, wrap_eq_iff] using hw
  obtain ⟨l⟩ := xs
  simp only at h4 key
  match l, h4, key with
  | [x0, x1], _, key =>
    obtain ⟨a0, e0, w0⟩ := key 0 (by omega)
    obtain ⟨a1, e1, w1⟩ := key 1 (by omega)
    simp at e0 e1
    subst e0; subst e1
    exact ⟨a0, a1, rfl, w0, w1⟩

theorem openX {P : Program} {H : Type} {enc : TypeId × Value → H} {w : World} {base : Nat} {sp : Nat → Bool} {held : Bool} {r : Reach} {b0 : Nat} {t : TypeId} {v : Value} {d : DataW H} {ps : List MemPlace} {k : PX}
    (hk : k.ty P t) (hval : Value.okWide P w r b0 t v) (hd : DataW.Trod enc P w base sp held t v d ps) : ∃ s, k.Is s v := by
  cases k with
  | pk k => exact open_one hk hval hd
  | two =>
    obtain ⟨e, ht, he, hc, hc2⟩ := hk
    obtain ⟨a, b, rfl, wa, wb⟩ := open_two ht he hc hc2 hval hd
    exact ⟨_, a, b, rfl, rfl, wa, wb⟩

theorem openX_all {P : Program} {H : Type} {enc : TypeId × Value → H} {w : World} {base : Nat} {sp : Nat → Bool} {held : Bool} {r : Reach} {b0 : Nat} : ∀ {ks : List PX} {ts : List TypeId} {vs : List Value} {ds : List (DataW H)} {ps : List MemPlace},
    PX.tys P ks ts → (∀ (j : Nat) t v, ts[j]? = some t → vs[j]? = some v → Value.okWide P w r b0 t v) → DataW.TrodAll enc P w base sp held ts vs ds ps → ∃ ss, SV.vals [] ss = some vs ∧ PX.fits ks ss
  | [], [], vs, ds, ps, _, _, hA => by
    obtain ⟨rfl, rfl, rfl⟩ := trodAll_nil hA
    exact ⟨[], rfl, trivial⟩
  | k :: ks, t :: ts, vs, ds, ps, hk, hval, hA => by
    obtain ⟨v0, vs0, d0, ds0, p0, q0, rfl, rfl, rfl, h0, r0⟩ := trodAll_cons hA
    obtain ⟨s, hs⟩ := openX hk.1 (hval 0 t v0 rfl rfl) h0
    obtain ⟨ss, h1, h2⟩ := openX_all hk.2 (fun j t v ht hv => hval (j + 1) t v (by simpa using ht) (by simpa using hv)) r0
    exact ⟨s :: ss, by simp [SV.vals, hs.val, h1], ⟨v0, hs⟩, h2⟩
  | [], _ :: _, _, _, _, h, _, _ => h.elim
  | _ :: _, [], _, _, _, h, _, _ => h.elim

theorem walk_genX {P : Program} {f : FuncId} {fn : Func} {c : Code} (hf : P.funcs[f]? = some fn) (hb : fn.body = some c) (ks : List PX) {ts : List TypeId} (hp : fn.params.toList = ts) (hk : PX.tys P ks ts)
    (h : ∀ ss, PX.fits ks ss → ∃ C, Eng.Good P C 2 ∧ C.gl = [0, 1] ∧ codeOk C fn.ntmps c = true ∧ ss.length ≤ fn.ntmps ∧ Hides (afun C fn ss tabH (FinH 2 (.bool true) [] [] (uniR 2 (.bool true) [] []))))
    (w : World) (base : Nat) (args : Array Value) {H : Type} {enc : TypeId × Value → H} (ds : List (DataW H)) (ps : List MemPlace)
    (hval : ∀ (j : Nat) t v, fn.params[j]? = some t → args[j]? = some v → Value.okWide P w .any base t v) (hA : DataW.TrodAll enc P w 0 (fun _ => true) true fn.params.toList args.toList ds ps) (hT : HTie tabM tabH w) :
    Calls P f args w fun e w' => e = .returned (.bool true) ∧ Below w.heap.size w w' := by
  rw [hp] at hA
  obtain ⟨ss, h1, h2⟩ := openX_all hk (fun j t v ht hv => hval j t v (by rw [← Array.getElem?_toList, hp]; exact ht) (by rw [← Array.getElem?_toList]; exact hv)) hA
  obtain ⟨C, hG, hgl, hco, hn, ⟨hfun⟩⟩ := h ss h2
  have := run_ofG (m := tabM) hf hb hG hco (SV.vals_mono (List.nil_prefix) ss h1) hn hT (by rw [hgl]; exact tab_gok) (fun b hb => by
    simp only [tabH, List.mem_cons, List.not_mem_nil, or_false] at hb
    rcases hb with rfl | rfl <;> rfl) (v := .bool true) rfl hfun (u := .bool true) rfl
  simpa using this

end Go.Proofs.YtpnpfihjlobonaaDoor
