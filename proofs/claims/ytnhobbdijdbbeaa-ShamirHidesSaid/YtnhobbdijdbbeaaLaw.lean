/- What a law's row asks, from a walk that hands back true. It has no conditions. -/
import Derived.Test.YtnhobbdijdbbeaaRows
import Derived.Test.YtnhobbdijdbbeaaNum
import Derived.Test.YtnhobbdijdbbeaaBase
import Derived.WalkKit
import Derived.ProofKit
import Derived.OpenShut
import Derived.Carry
import Derived.WideKeyArgs
import Derived.ChangeCalls
namespace Go.Proofs.Ytnhobbdijdbbeaa
set_option maxRecDepth 100000
open Go.Eng Go.ChangeShapes Go.WideShapes Go.ChangeAt Go.RowKit

theorem own : ownKnob Try.prog.godebug = none := by kernel_rfl
theorem laidOut : laidOutB Try.prog = true := by kernel_rfl

/-- What a function without blocks hands back, in every world. -/
theorem run_of {P : Program} {f : FuncId} {fn : Func} {c : Code} (hf : P.funcs[f]? = some fn) (hb : fn.body = some c) {us : List Value} {v : SV} {C : Cx} {args' : List SV} (G : Eng.Good P C 0) (hgl : C.gl = []) (hc : codeOk C fn.ntmps c = true)
    (hv1 : SV.vals [] args' = some us) (hn : args'.length ≤ fn.ntmps) (hfun : afun C fn args' [] (FinP v)) {u : Value} (hu : v.val [] = some u) (w : World) :
    Calls P f us.toArray w fun e w' => e = .returned u ∧ Below w.heap.size w w' := by
  have hcall := calls_of_afun G hf hb hc (m := []) (h := []) (w := w) ⟨rfl, by simp, by simp⟩ (by rw [hgl]; intro i g hg; simp at hg) rfl (may := fun _ => False) (from_ := fun _ => False) (by simp) (by simp) hv1 hn (R := fun r _ => v.idsLt 0 = true ∧ v.sb [] r) hfun
  refine hcall.mono ?_
  rintro e w' ⟨r, u', mf, S, a, ⟨h1, h2⟩, h3, he, hg, T⟩
  have : v.val [] = some u' := by
    have := SV.sb_val (ρ := []) (m := mf) v r h2 h3
    simpa using this
  rw [hu] at this
  cases this
  exact ⟨he, ⟨T.os, T.tape, T.output, T.grown, fun b hb => T.kept b hb (by simp)⟩⟩

theorem run_ex {P : Program} {f : FuncId} {fn : Func} {c : Code} (hf : P.funcs[f]? = some fn) (hb : fn.body = some c) {us : List Value} {v : SV} {u : Value} (hu : v.val [] = some u)
    (h : ∃ (C : Cx) (args' : List SV), Eng.Good P C 0 ∧ C.gl = [] ∧ codeOk C fn.ntmps c = true ∧ SV.vals [] args' = some us ∧ args'.length ≤ fn.ntmps ∧ afun C fn args' [] (FinP v)) (w : World) :
    Calls P f us.toArray w fun e w' => e = .returned u ∧ Below w.heap.size w w' := by
  obtain ⟨C, args', G, hgl, hc, hv1, hn, hfun⟩ := h
  exact run_of hf hb G hgl hc hv1 hn hfun hu w

theorem trodAll_stays {P : Program} (hl : laidOutB P = true) {H : Type} {enc : TypeId × Value → H} {W W' : World} {sp : Nat → Bool} (hb : Below W.heap.size W W') : ∀ {ts : List TypeId} {vs : List Value} {ds : List (DataW H)} {ps : List MemPlace},
    DataW.TrodAll enc P W 0 (fun _ => true) true ts vs ds ps → ts.all (fun t => P.readableRec t && decide (t < P.types.size)) = true →
    (∀ x ∈ ps, x.block < W.heap.size) → (∀ x ∈ ps, sp x.block = true) → DataW.TrodAll enc P W' 0 sp true ts vs ds ps
  | [], [], [], _, h, _, _, _ => h
  | t :: ts, v :: vs, d :: ds, ps, h, hr, hlt, hsp => by
    obtain ⟨p, q, h1, h2, rfl⟩ := h
    simp only [List.all_cons, Bool.and_eq_true, decide_eq_true_eq] at hr
    exact ⟨p, q, Go.WideElems.Trod_stays hl hr.1.1 hr.1.2 h1 (fun x hx => hb.same (hlt x (by simp [hx]))) (fun x hx => hsp x (by simp [hx])),
      trodAll_stays hl hb h2 (by simpa using hr.2) (fun x hx => hlt x (by simp [hx])) (fun x hx => hsp x (by simp [hx])), rfl⟩
  | [], [], _ :: _, _, h, _, _, _ => by simp [DataW.TrodAll] at h
  | [], _ :: _, _, _, h, _, _, _ => by simp [DataW.TrodAll] at h
  | _ :: _, [], _, _, h, _, _, _ => by simp [DataW.TrodAll] at h
  | _ :: _, _ :: _, [], _, h, _, _, _ => by simp [DataW.TrodAll] at h

/-- A call's answer where no old block has turned. -/
theorem post_below {H : Type} {enc : TypeId × Value → H} {P : Program} {f : Func} {s : ChangeSpec} {apart fresh handsOn again : Bool} {W W' : World} {args : Array Value} {v : Value} {ds gs : List (DataW H)} {before pa pv : List MemPlace}
    (hW : DataW.Whole enc P f.params.toList s.vars apart W args.toList ds gs before)
    (hres : ∀ (b : Nat) (sp : Nat → Bool) (hd : Bool), DataW.TrodAll enc P W' b sp hd f.resultTypes.toList (v.resultList f.resultTypes.size) (s.fn H (ds ++ gs)).results [])
    (hargs : ∀ sp : Nat → Bool, (∀ p ∈ before, sp p.block = true) → DataW.TrodAll enc P W' 0 sp true f.params.toList args.toList (s.fn H (ds ++ gs)).args pa)
    (hvars : ∀ sp : Nat → Bool, (∀ p ∈ before, sp p.block = true) → DataW.TrodVars enc P W' sp s.vars (s.fn H (ds ++ gs)).vars pv)
    (hps : before = pa ++ pv) (hb : Below W.heap.size W W')
    (hok : ∀ (j : Nat) (t : TypeId) (r : Value), f.resultTypes[j]? = some t → (v.resultList f.resultTypes.size)[j]? = some r → Value.okWide P W' .any 0 t r) :
    s.post enc P f apart fresh handsOn again W args v W' := by
  have hlt := hW.lt
  have hold : ∀ p ∈ before, (fun b => decide (b < W.heap.size)) p.block = true := fun p hp => by simpa using hlt p hp
  refine ⟨ds, gs, before, [], pa, pv, hW, hres _ _ _, hargs _ hold, hvars _ hold, World.keptBut_mono (fun p hp => ⟨hp, ?_⟩) (hb.frame _), fun _ => ?_⟩
  · rw [hps, List.mem_append] at hp
    exact Or.inr hp
  · obtain ⟨_, _, _, _, _, hz, hn⟩ := hW
    refine ⟨hok, _, _, ([] ++ pa) ++ pv, ⟨[] ++ pa, pv, trodAll_append (hargs _ (fun _ _ => rfl)) (hres _ _ _), hvars _ (fun _ _ => rfl), rfl, ?_, ?_⟩, ?_⟩
    · intro b off hp
      have hp' : MemPlace.cell b off ∈ before := by rw [hps]; simpa using hp
      rw [hb.frozen (show b < W.heap.size from hlt _ hp')]
      exact hz b off hp'
    · intro ha
      have := hn ha
      rw [hps] at this
      simpa using this
    · intro p hp _
      rw [hps]
      simpa using hp

/-- A law's row, from the walk. -/
theorem lifted_of (spec : ChangeSpec) (row : OpenClaim) {f : FuncId} {fn : Func} (hf : Try.prog.funcs[f]? = some fn) {tb : TypeId} (hres : fn.resultTypes = #[tb]) (htb : Try.prog.underlying tb = some .bool)
    (hvars : spec.vars = []) (hfn : ∀ (H : Type) (ds : List (DataW H)), ds.length = fn.params.toList.length → spec.fn H ds = { results := [.lit (.bool true)], args := ds })
    (hread : fn.params.toList.all (fun t => Try.prog.readableRec t && decide (t < Try.prog.types.size)) = true)
    (os : Os) (started : os.Started) (H : Type) (enc : TypeId × Value → H) (hin : Try.checked.prog.inits.idxOf? f = none)
    (wit : ∃ (w : World) (tape : Tape) (i : Input), w.os = os ∧ (w.forCall tape i).Shaped Try.checked.prog ∧ i.vars = [] ∧ Input.okWide Try.checked.prog (w.forCall tape i) .any w.heap.size f i ∧
      spec.pre6 enc Try.checked.prog fn row.domain false (w.forCall tape i).memory i.args ∧ ({} : Assume).holds Try.checked.prog (lone (Frame.enter Try.checked.prog f i.args .normal) [] (w.forCall tape i)))
    (walk : ∀ (W : World) (base : Nat) (args : Array Value) (ds : List (DataW H)) (ps : List MemPlace),
      (∀ (j : Nat) t v, fn.params[j]? = some t → args[j]? = some v → Value.okWide Try.prog W .any base t v) → DataW.TrodAll enc Try.prog W 0 (fun _ => true) true fn.params.toList args.toList ds ps →
      Calls Try.prog f args W fun e w' => e = .returned (.bool true) ∧ Below W.heap.size W w') :
    ReturnsInHanded {} Try.checked os f .any (spec.pre6 enc Try.prog fn row.domain false) (spec.post enc Try.prog fn false true false false) := by
  refine returnsInHanded_of_change (C := Try.checked) own started hin hf wit ?_
  intro W base args ds gs before hval0 hW hcnd _
  have hW' := hW
  have hlt : ∀ x ∈ before, x.block < W.heap.size := fun x hx => by simpa using hW'.lt x hx
  obtain ⟨p, q, hA, hV, rfl, hfz, hnd⟩ := hW
  rw [hvars] at hV
  obtain ⟨rfl, rfl⟩ := trodVars_none hV
  have hlen : ds.length = fn.params.toList.length := (trodAll_length hA).2
  refine (walk W base args ds p hval0 hA).mono fun e W' ⟨he, hg⟩ => ?_
  subst he
  rw [List.append_nil] at hW' hlt
  have hd : ds ++ [] = ds := List.append_nil _
  refine ⟨_, rfl, post_below (pa := p) (pv := []) hW' ?_ ?_ ?_ (List.append_nil _).symm hg ?_⟩
  · intro b sp hd'
    rw [hd, hfn H ds hlen, hres]
    exact trodAll_cons_mk (shut_bool htb _) trodAll_mk0
  · intro sp hsp
    rw [hd, hfn H ds hlen]
    exact trodAll_stays laidOut hg hA hread hlt hsp
  · intro sp _
    rw [hd, hfn H ds hlen, hvars]
    rfl
  · exact ok_one hres rfl (okWide_bool_mk htb _)

/-- A number as an argument: its words. -/
theorem open_num {P : Program} {H : Type} {enc : TypeId × Value → H} {w : World} {base : Nat} {sp : Nat → Bool} {held : Bool} {r : Reach} {b0 : Nat} {t e : TypeId} {v : Value} {d : DataW H} {ps : List MemPlace}
    (ht : P.underlying t = some (.array 4 e)) (he : P.underlying e = some (.int .u64)) (hc : P.cellsOf e = 1) (hc4 : P.cellsOf t = 4) (hval : Value.okWide P w r b0 t v) (hd : DataW.Trod enc P w base sp held t v d ps) :
    ∃ a0 a1 a2 a3, v = .agg #[.int .u64 a0, .int .u64 a1, .int .u64 a2, .int .u64 a3] ∧ W a0 ∧ W a1 ∧ W a2 ∧ W a3 := by
  have hv : ∃ xs : Array Value, v = .agg xs := by
    simp only [Value.okWide, ht] at hval
    obtain ⟨cs, h1, _⟩ := hval
    exact ⟨cs, h1⟩
  obtain ⟨xs, rfl⟩ := hv
  obtain ⟨fuel, hf⟩ := hd
  obtain ⟨ys, m, rfl, hx, hl, hn, hy⟩ := DataW.trod_array ht hf
  have h4 : xs.toList.length = 4 := by simpa [Value.cells, hc4] using hl
  have key : ∀ i, i < 4 → ∃ n, (xs.toList.drop i).take 1 = [.int .u64 n] ∧ W n := fun i hi => by
    have h := hy i hi
    rw [hc, Nat.mul_one] at h
    obtain ⟨y, e2⟩ : ∃ y, ys[i]? = some y := by
      cases hq : ys[i]? with
      | some y => exact ⟨y, rfl⟩
      | none => rw [List.getElem?_eq_none_iff] at hq; omega
    rw [e2] at h
    obtain ⟨n, e3, _, hw⟩ := DataW.trod_int he h
    refine ⟨n, by simpa [Value.cells] using e3, u64_W ?_⟩
    simpa [Lit.wf, wrap_eq_iff] using hw
  obtain ⟨l⟩ := xs
  simp only at h4 key
  match l, h4, key with
  | [x0, x1, x2, x3], _, key =>
    obtain ⟨a0, e0, w0⟩ := key 0 (by omega)
    obtain ⟨a1, e1, w1⟩ := key 1 (by omega)
    obtain ⟨a2, e2, w2⟩ := key 2 (by omega)
    obtain ⟨a3, e3, w3⟩ := key 3 (by omega)
    simp at e0 e1 e2 e3
    subst e0; subst e1; subst e2; subst e3
    exact ⟨a0, a1, a2, a3, rfl, w0, w1, w2, w3⟩

/-- A statement, shut: so that nothing reckons it while it is handed on. -/
inductive Hides (p : Prop) : Prop where
  | mk (h : p) : Hides p

/-- A law of two numbers. -/
theorem walk_two {P : Program} {f : FuncId} {fn : Func} {c : Code} (hf : P.funcs[f]? = some fn) (hb : fn.body = some c) {t e : TypeId} (hp : fn.params = #[t, t])
    (ht : P.underlying t = some (.array 4 e)) (he : P.underlying e = some (.int .u64)) (hc : P.cellsOf e = 1) (hc4 : P.cellsOf t = 4)
    (h : ∀ a0 a1 a2 a3 b0 b1 b2 b3, (W a0 ∧ W a1 ∧ W a2 ∧ W a3) → (W b0 ∧ W b1 ∧ W b2 ∧ W b3) → ∃ C, Eng.Good P C 0 ∧ C.gl = [] ∧ codeOk C fn.ntmps c = true ∧ 2 ≤ fn.ntmps ∧ Hides (afun C fn [wordsV a0 a1 a2 a3, wordsV b0 b1 b2 b3] [] (FinP (.bool true))))
    (w : World) (base : Nat) (args : Array Value) {H : Type} {enc : TypeId × Value → H} (ds : List (DataW H)) (ps : List MemPlace)
    (hval : ∀ (j : Nat) t v, fn.params[j]? = some t → args[j]? = some v → Value.okWide P w .any base t v) (hA : DataW.TrodAll enc P w 0 (fun _ => true) true fn.params.toList args.toList ds ps) :
    Calls P f args w fun e w' => e = .returned (.bool true) ∧ Below w.heap.size w w' := by
  rw [hp] at hA hval
  obtain ⟨v0, vs0, d0, ds0, p0, q0, hargs, rfl, rfl, h0, r0⟩ := trodAll_cons hA
  obtain ⟨v1, vs1, d1, ds1, p1, q1, rfl, rfl, rfl, h1, r1⟩ := trodAll_cons r0
  obtain ⟨rfl, rfl, rfl⟩ := trodAll_nil r1
  obtain rfl : args = #[v0, v1] := Array.ext' hargs
  obtain ⟨a0, a1, a2, a3, rfl, wa⟩ := open_num ht he hc hc4 (hval 0 t v0 rfl rfl) h0
  obtain ⟨b0, b1, b2, b3, rfl, wb⟩ := open_num ht he hc hc4 (hval 1 t v1 rfl rfl) h1
  obtain ⟨C, hG, hgl, hco, hn, ⟨hfun⟩⟩ := h a0 a1 a2 a3 b0 b1 b2 b3 wa wb
  have hus : SV.vals [] [wordsV a0 a1 a2 a3, wordsV b0 b1 b2 b3] = some [.agg #[.int .u64 a0, .int .u64 a1, .int .u64 a2, .int .u64 a3], .agg #[.int .u64 b0, .int .u64 b1, .int .u64 b2, .int .u64 b3]] := by
    simp [SV.vals, SV.val, wordsV, W_u64 wa.1, W_u64 wa.2.1, W_u64 wa.2.2.1, W_u64 wa.2.2.2, W_u64 wb.1, W_u64 wb.2.1, W_u64 wb.2.2.1, W_u64 wb.2.2.2]
  exact run_of hf hb hG hgl hco hus hn hfun (u := .bool true) rfl w

end Go.Proofs.Ytnhobbdijdbbeaa
