/- What a law's row asks, from a walk that hands back true, where the program's tables are as they are laid. It has no conditions. -/
import Derived.Test.YtpnpfihjlobonaaDoorLaw2
import Derived.Test.YtpnpfihjlobonaaDoorSha6
import Derived.LaidMore
namespace Go.Proofs.YtpnpfihjlobonaaDoor
set_option maxRecDepth 100000
open Go.Eng Go.ChangeShapes Go.WideShapes Go.ChangeAt Go.RowKit

/-- What a function hands back that starts with blocks that are read alone. -/
theorem run_ofG {P : Program} {f : FuncId} {fn : Func} {c : Code} (hf : P.funcs[f]? = some fn) (hb : fn.body = some c) {us : List Value} {v : SV} {C : Cx} {args' : List SV} {m : List Pl} {h0 : List Blk} (G : Eng.Good P C m.length) (hc : codeOk C fn.ntmps c = true)
    (hv1 : SV.vals m args' = some us) (hn : args'.length ≤ fn.ntmps) {w : World} (H : HTie m h0 w) (hgl : GOk C.gl m) (hro : ∀ b ∈ h0, b.k.wr = false) (hc0 : v.idsLt 0 = true)
    (hfun : afun C fn args' h0 (FinH m.length v [] [] (uniR m.length v [] []))) {u : Value} (hu : v.val [] = some u) :
    Calls P f us.toArray w fun e w' => e = .returned u ∧ Below w.heap.size w w' := by
  have hcall := calls_of_afun G hf hb hc H hgl rfl (may := fun _ => False) (from_ := fun _ => True) (fun i p b _ hh hw _ => by
      have := hro b (List.mem_of_getElem? hh)
      rw [this] at hw; cases hw) (fun _ _ _ _ _ _ _ => trivial) hv1 hn
    (R := fun r hT => distB (idents 0 m.length ++ uniR m.length v [] [] r hT) (actN m.length [] ++ []) = true ∧ (v.sb (idents 0 m.length ++ uniR m.length v [] [] r hT) r ∧ sbH (idents 0 m.length ++ uniR m.length v [] [] r hT) (idents 0 m.length ++ uniR m.length v [] [] r hT) (actN m.length [] ++ []) hT)) hfun
  refine hcall.mono ?_
  rintro e w' ⟨r, u', mf, S, a, ⟨_, h2, _⟩, h3, he, hg, T⟩
  have : v.val [] = some u' := by
    have := SV.sb_val (ρ := []) (m := mf) v r (SV.sb_any v r hc0 h2) h3
    simpa using this
  rw [hu] at this
  cases this
  exact ⟨he, ⟨T.os, T.tape, T.output, T.grown, fun b hb => T.kept b hb (by simp)⟩⟩

theorem agg_get {H : Type} : ∀ {xs : List (DataW H × List MemPlace)} {X : List Int}, xs.map (·.1) = X.map (fun x => DataW.lit (.int .u32 x)) → ∀ i, i < X.length → ∃ y, xs[i]? = some (DataW.lit (.int .u32 (X.getD i 0)), y)
  | [], [], _, i, h => by simp at h
  | x :: xs, k :: X, e, 0, _ => by
    simp only [List.map_cons, List.cons.injEq] at e
    exact ⟨x.2, by rw [List.getElem?_cons_zero, List.getD_cons_zero, ← e.1]⟩
  | x :: xs, k :: X, e, i + 1, h => by
    simp only [List.map_cons, List.cons.injEq] at e
    obtain ⟨y, hy⟩ := agg_get e.2 i (by simpa using h)
    exact ⟨y, by rw [List.getElem?_cons_succ, hy, List.getD_cons_succ]⟩
  | [], _ :: _, e, _, _ => by simp at e
  | _ :: _, [], e, _, _ => by simp at e

/-- A table's cells. -/
theorem arr_cells {P : Program} {H : Type} {enc : TypeId × Value → H} {w : World} {sp : Nat → Bool} {fuel : Nat} {t e : TypeId} {n : Nat} {cs : List Value} {X : List Int} {q : List MemPlace} {b : Bool}
    (ht : P.underlying t = some (.array n e)) (he : P.underlying e = some (.int .u32)) (hc : P.cellsOf e = 1) (hX : X.length = n)
    (hd : DataW.trod enc P w 0 sp b fuel t cs = some (.agg (X.map fun x => .lit (.int .u32 x)), q)) : ∀ i, i < n → cs[i]? = some (.int .u32 (X.getD i 0)) ∧ IntKind.u32.wrap (X.getD i 0) = X.getD i 0 := by
  obtain ⟨xs, m, rfl, hx, hl, hn, hel⟩ := DataW.trod_array ht hd
  simp only [Prod.mk.injEq, DataW.agg.injEq] at hx
  intro i hi
  have h := hel i hi
  obtain ⟨y, e2⟩ := agg_get hx.1.symm i (by omega)
  rw [e2, hc, Nat.mul_one] at h
  obtain ⟨k, e3, e4, hw⟩ := DataW.trod_int he h
  simp only [Prod.mk.injEq, DataW.lit.injEq, Lit.int.injEq, true_and] at e4
  rw [e4.1]
  refine ⟨?_, by simpa [Lit.wf, wrap_eq_iff] using hw⟩
  have : ((cs.drop i).take 1)[0]? = some (.int .u32 k) := by rw [e3]; rfl
  rw [List.getElem?_take_of_lt (by omega), List.getElem?_drop] at this
  simpa using this

/-! The program's tables. -/

def tabM : List Pl := [⟨0, 0, 0, false⟩, ⟨1, 0, 0, false⟩]
def tabH : List Blk := [⟨.ints .u32 firstL, .ro⟩, ⟨.ints .u32 roundsL, .ro⟩]
def tabD : List (String × DataW Unit) := [("sandglass/sha.first", Rows.laid_sandglass_sha_first), ("sandglass/sha.rounds", Rows.laid_sandglass_sha_rounds)]

theorem gFirst : Tryd.prog.globalNamed "sandglass/sha.first" = some 0 := by kernel_rfl
theorem gRounds : Tryd.prog.globalNamed "sandglass/sha.rounds" = some 1 := by kernel_rfl
theorem tFirst : (Tryd.prog.globals[0]?).map (·.type) = some 67 := by kernel_rfl
theorem tRounds : (Tryd.prog.globals[1]?).map (·.type) = some 98 := by kernel_rfl

theorem holds_tab {W : World} {g : Nat} {X : List Int} {m : List Pl} (h : ∀ i, i < X.length → W.cell? ⟨g, i, none⟩ = some (.int .u32 (X.getD i 0)) ∧ IntKind.u32.wrap (X.getD i 0) = X.getD i 0) (h0 : 0 < X.length) : Eng.Holds m W ⟨g, 0, 0, false⟩ ⟨.ints .u32 X, .ro⟩ where
  wf := trivial
  nl := fun e => by cases e
  lt := fun _ => by
    have := (h 0 h0).1
    rcases Nat.lt_or_ge g W.heap.size with hl | hge
    · exact hl
    · unfold World.cell? at this
      rw [Array.getElem?_eq_none hge] at this
      cases this
  cells := fun i hi => by
    obtain ⟨h1, h2⟩ := h i hi
    refine ⟨.int .u32 (X.getD i 0), ?_, rfl, by rw [← h1]; simp⟩
    exact val_int_of h2
  wr := fun e => by cases e
  z := fun e => by cases e
  fu := fun es e => by cases e
  sp := fun es e => by cases e

theorem laid_tie {W : World} (h : laidMetH Tryd.prog tabD W) : HTie tabM tabH W := by
  rw [MakeChecks.laidMetH_plain _ _ _ (by kernel_rfl)] at h
  obtain ⟨ps, ⟨g0, t0, cs0, f0, p0, q0, hg0, ht0, hv0, hd0, ⟨g1, t1, cs1, f1, p1, q1, hg1, ht1, hv1, hd1, _, _⟩, _⟩, _, _⟩ := h
  obtain rfl := Option.some.inj (gFirst.symm.trans hg0)
  obtain rfl := Option.some.inj (gRounds.symm.trans hg1)
  obtain rfl := Option.some.inj (tFirst.symm.trans ht0)
  obtain rfl := Option.some.inj (tRounds.symm.trans ht1)
  have k0 := arr_cells (X := firstL) Tryd.underlying67 Tryd.underlying66 (by kernel_rfl) rfl hd0
  have k1 := arr_cells (X := roundsL) Tryd.underlying98 Tryd.underlying66 (by kernel_rfl) rfl hd1
  have b0 : Eng.Holds tabM W ⟨0, 0, 0, false⟩ ⟨.ints .u32 firstL, .ro⟩ := holds_tab (fun i hi => by
    rw [World.var?_cell hg0 hv0 i, ← Array.getElem?_toList]
    exact k0 i hi) (by decide)
  have b1 : Eng.Holds tabM W ⟨1, 0, 0, false⟩ ⟨.ints .u32 roundsL, .ro⟩ := holds_tab (fun i hi => by
    rw [World.var?_cell hg1 hv1 i, ← Array.getElem?_toList]
    exact k1 i hi) (by decide)
  refine ⟨rfl, fun i p b hp hb _ => ?_, fun i j p q b c _ _ _ hb hc _ _ _ _ hw => ?_⟩
  · match i, hp, hb with
    | 0, hp, hb => cases hp; cases hb; exact b0
    | 1, hp, hb => cases hp; cases hb; exact b1
    | i + 2, hp, _ => cases hp
  · exfalso
    have key : ∀ (i : Nat) (b : Blk), tabH[i]? = some b → b.k.wr = false := fun i b hb => by
      match i, hb with
      | 0, hb => cases hb; rfl
      | 1, hb => cases hb; rfl
      | i + 2, hb => cases hb
    rw [key i b hb, key j c hc] at hw
    rcases hw with hw | hw <;> cases hw

theorem tab_gok : GOk [0, 1] tabM := fun i g hg => by
  match i, hg with
  | 0, hg => cases hg; exact ⟨_, rfl, rfl, rfl, rfl⟩
  | 1, hg => cases hg; exact ⟨_, rfl, rfl, rfl, rfl⟩
  | i + 2, hg => cases hg

theorem door_met (os : Os) (args : Array Value) : laidMetH Tryd.prog tabD ((World.doorLaid Tryd.prog 400 os).forCall (fun _ _ => 0) ⟨#[], args, []⟩).memory :=
  laidMetH_of_parts3 (fuel := 8) (laidMet_of_run' 8 (by kernel_rfl) (by kernel_rfl)) (by kernel_rfl) (by kernel_rfl)

/-- A law's row, from the walk. -/
theorem liftedG_of (spec : ChangeSpec) {f : FuncId} {fn : Func} (hf : Tryd.prog.funcs[f]? = some fn) {tb : TypeId} (hres : fn.resultTypes = #[tb]) (htb : Tryd.prog.underlying tb = some .bool)
    (hvars : spec.vars = []) (hfn : ∀ (H : Type) (ds : List (DataW H)), ds.length = fn.params.toList.length → spec.fn H ds = { results := [.lit (.bool true)], args := ds })
    (hread : fn.params.toList.all (fun t => Tryd.prog.readableRec t && decide (t < Tryd.prog.types.size)) = true)
    (os : Os) (started : os.Started) (H : Type) (enc : TypeId × Value → H) (hin : Tryd.checked.prog.inits.idxOf? f = none)
    (wit : ∃ (w : World) (tape : Tape) (i : Input), w.os = os ∧ (w.forCall tape i).Shaped Tryd.checked.prog ∧ i.vars = [] ∧ Input.okWide Tryd.checked.prog (w.forCall tape i) .any w.heap.size f i ∧
      ((spec.pre enc Tryd.checked.prog fn [] false (w.forCall tape i).memory i.args ∧ laidMetH Tryd.prog tabD (w.forCall tape i).memory) ∧ sizedMet enc Tryd.checked.prog fn (OpenSpec.ofChange spec) false (w.forCall tape i).memory i.args) ∧ ({} : Assume).holds Tryd.checked.prog (lone (Frame.enter Tryd.checked.prog f i.args .normal) [] (w.forCall tape i)))
    (walk : ∀ (W : World) (base : Nat) (args : Array Value) (ds : List (DataW H)) (ps : List MemPlace),
      (∀ (j : Nat) t v, fn.params[j]? = some t → args[j]? = some v → Value.okWide Tryd.prog W .any base t v) → DataW.TrodAll enc Tryd.prog W 0 (fun _ => true) true fn.params.toList args.toList ds ps → HTie tabM tabH W →
      Calls Tryd.prog f args W fun e w' => e = .returned (.bool true) ∧ Below W.heap.size W w') :
    ReturnsInHanded {} Tryd.checked os f .any (fun w args => (spec.pre enc Tryd.prog fn [] false w args ∧ laidMetH Tryd.prog tabD w) ∧ sizedMet enc Tryd.prog fn (OpenSpec.ofChange spec) false w args) (spec.post enc Tryd.prog fn false true false false) := by
  refine returnsInHanded_of_change_and (C := Tryd.checked) (X := fun w _ => laidMetH Tryd.prog tabD w) (fun _ _ _ hh h => h.of_heap hh) own started hin hf wit ?_
  intro W base args ds gs before hval0 hW _ _ hL _
  have hW' := hW
  have hlt : ∀ x ∈ before, x.block < W.heap.size := fun x hx => by simpa using hW'.lt x hx
  obtain ⟨p, q, hA, hV, rfl, hfz, hnd⟩ := hW
  rw [hvars] at hV
  obtain ⟨rfl, rfl⟩ := trodVars_none hV
  have hlen : ds.length = fn.params.toList.length := (trodAll_length hA).2
  refine (walk W base args ds p hval0 hA (laid_tie hL)).mono fun e W' ⟨he, hg⟩ => ?_
  subst he
  rw [List.append_nil] at hW' hlt
  have hd : ds ++ [] = ds := List.append_nil _
  refine ⟨_, rfl, post_below (pa := p) (pv := []) hW' ?_ ?_ ?_ (List.append_nil _).symm hg ?_⟩
  · intro b sp hd'
    rw [hd, hfn H ds hlen, hres]
    exact trodAll_cons_mk (shut_bool htb _) trodAll_mk0
  · intro sp hsp
    rw [hd, hfn H ds hlen]
    exact trodAll_stays laidOut hg hA hread hlt hsp
  · intro sp _
    rw [hd, hfn H ds hlen, hvars]
    rfl
  · exact ok_one hres rfl (okWide_bool_mk htb _)

/-- A law's walk. -/
theorem walk_genG {P : Program} {f : FuncId} {fn : Func} {c : Code} (hf : P.funcs[f]? = some fn) (hb : fn.body = some c) (ks : List PK) {ts : List TypeId} (hp : fn.params.toList = ts) (hk : PK.tys P ks ts)
    (h : ∀ ss, PK.fits ks ss → ∃ C, Eng.Good P C 2 ∧ C.gl = [0, 1] ∧ codeOk C fn.ntmps c = true ∧ ss.length ≤ fn.ntmps ∧ Hides (afun C fn ss tabH (FinH 2 (.bool true) [] [] (uniR 2 (.bool true) [] []))))
    (w : World) (base : Nat) (args : Array Value) {H : Type} {enc : TypeId × Value → H} (ds : List (DataW H)) (ps : List MemPlace)
    (hval : ∀ (j : Nat) t v, fn.params[j]? = some t → args[j]? = some v → Value.okWide P w .any base t v) (hA : DataW.TrodAll enc P w 0 (fun _ => true) true fn.params.toList args.toList ds ps) (hT : HTie tabM tabH w) :
    Calls P f args w fun e w' => e = .returned (.bool true) ∧ Below w.heap.size w w' := by
  rw [hp] at hA
  obtain ⟨ss, h1, h2⟩ := open_all hk (fun j t v ht hv => hval j t v (by rw [← Array.getElem?_toList, hp]; exact ht) (by rw [← Array.getElem?_toList]; exact hv)) hA
  obtain ⟨C, hG, hgl, hco, hn, ⟨hfun⟩⟩ := h ss h2
  have := run_ofG (m := tabM) hf hb hG hco (SV.vals_mono (List.nil_prefix) ss h1) hn hT (by rw [hgl]; exact tab_gok) (fun b hb => by
    simp only [tabH, List.mem_cons, List.not_mem_nil, or_false] at hb
    rcases hb with rfl | rfl <;> rfl) (v := .bool true) rfl hfun (u := .bool true) rfl
  simpa using this

end Go.Proofs.YtpnpfihjlobonaaDoor
