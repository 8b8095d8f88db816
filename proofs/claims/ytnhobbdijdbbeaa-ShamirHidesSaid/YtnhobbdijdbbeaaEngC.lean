/- The engine's third part: code, loops, contracts. It has no conditions. -/
import Derived.Test.YtnhobbdijdbbeaaEngB
namespace Go.Eng
open Go.RowKit
set_option linter.unusedSimpArgs false
set_option linter.unusedVariables false

/-- In which orders a region's operations are walked: one that may come first; or each that is ready. -/
inductive PT where
  | done
  | step (i : Nat) (p : PT)
  | alt (i : Nat) (p q : PT)
  | nil

def PT.none : PT → Bool
  | .nil => true
  | _ => false

def PT.idx : PT → List Nat
  | .alt i _ q => i :: q.idx
  | _ => []

inductive AX where
  | normal | exit (id : Nat) | goto (l : Nat) | ret

def rounds (B : St → (AX → St → Prop) → Prop) (Q : AX → St → Prop) : Nat → St → Prop
  | 0, _ => False
  | n + 1, S => B S fun e T => match e with
    | .normal => rounds B Q n T
    | e => Q e T


/-- What is known of a program: its types, the functions that are called, the types of which '==' is known. -/
structure Cx where
  A : Ar
  τ : Types
  Γ : Cons
  Δ : HCons
  ε : TypeId → Option (List CK)
  lp : (St → (AX → St → Prop) → Prop) → St → (AX → St → Prop) → Prop
  sc : Code → St → (AX → St → Prop) → Prop
  dy : Nat → List (Nat × Nat)
  gl : List Nat
  qt : List Nat := []
  pl : Nat → PT := fun _ => .nil

def builtinO (A : Ar) (τ : Types) (b : Builtin) (args : List SV) (ats : List TypeId) (h : List Blk) : R :=
  match b with
  | .len => match args, ats with
    | [x], [t] => Rof (lenO A τ t x h) h
    | _, _ => .fail
  | .append => match args, ats with
    | [s, x], [t, tx] => match isIntT τ tx with
      | true => appendZO A τ t s x h
      | false => appendO A τ t tx s x h
    | _, _ => .fail
  | .copy => match args, ats with
    | [s, x], [t, tx] => copyO A τ t tx s x h
    | _, _ => .fail
  | .clear => match args, ats with
    | [x], [t] => clearO A τ t x h
    | _, _ => .fail
  | .min => match args.all SV.good with
    | true => Rof (minmaxO A true args) h
    | false => .fail
  | .max => match args.all SV.good with
    | true => Rof (minmaxO A false args) h
    | false => .fail
  | _ => .fail

def makeFuncO (f : Fn) (first : List Operand) (cs : List SV) : VR := match f, first with
  | .func f, [] => (cs.all SV.good, .fn f cs)
  | _, _ => failV

/-- What an operation does. -/
def aexec (C : Cx) (o : Oper) (S : St) : R :=
  match o.op with
  | .move x => ⟨true, S.ev C.gl x, S.h⟩
  | .assign x => ⟨true, S.ev C.gl x, S.h⟩
  | .pick c a b => Rof (pickA (S.ev C.gl c) (S.ev C.gl a) (S.ev C.gl b)) S.h
  | .alloc t => match C.τ t with
    | some i => newO i.zero.cells S.h
    | none => .fail
  | .box _ x => newO (S.ev C.gl x).cells S.h
  | .build t ps => match (ps.toList.map fun p => S.ev C.gl p.2).all (fun v => v.cells.all SV.one) with
    | true => Rof (buildO C.τ t (ps.toList.map fun p => (p.1, S.ev C.gl p.2))) S.h
    | false => .fail
  | .buildSlice t len ps => match (ps.toList.map fun p => S.ev C.gl p.2).all (fun v => v.cells.all SV.one) with
    | true => buildSliceO C.τ t len (ps.toList.map fun p => (p.1, S.ev C.gl p.2)) S.h
    | false => .fail
  | .load t x => loadO C.A C.τ t (S.ev C.gl x) S.h
  | .store t x y => storeO C.A C.τ t (S.ev C.gl x) (S.ev C.gl y) S.h
  | .nilCheck x => Rof (nilCheckO (S.ev C.gl x)) S.h
  | .binOp op t x y _ => Rof (binA C.A C.τ C.ε op t (S.ev C.gl x) (S.ev C.gl y)) S.h
  | .unOp op _ x => Rof (unA C.A op (S.ev C.gl x)) S.h
  | .convert src dst x => convO C.A C.τ src dst (S.ev C.gl x) S.h
  | .makeSlice t x y => makeSliceO C.A C.τ t (S.ev C.gl x) (S.ev C.gl y) S.h
  | .makeFunc f first cs => Rof (makeFuncO f first.toList (cs.toList.map (S.ev C.gl))) S.h
  | .slice t x lo hi mx => sliceO C.A C.τ t (S.ev C.gl x) (bnd C.A (S.ev C.gl) lo) (bnd C.A (S.ev C.gl) hi) (bnd C.A (S.ev C.gl) mx) S.h
  | .fieldAddr s x f => Rof (fieldAddrO C.τ s (S.ev C.gl x) f) S.h
  | .field s x f => Rof (fieldO C.τ s (S.ev C.gl x) f) S.h
  | .indexAddr t x ix => Rof (indexAddrO C.A C.τ t (S.ev C.gl x) (S.ev C.gl ix)) S.h
  | .index t x ix => Rof (indexO C.A C.τ t (S.ev C.gl x) (S.ev C.gl ix)) S.h
  | .extract x i => Rof (extractO (S.ev C.gl x) i) S.h
  | .call c => match c.callee with
    | .value f => match (c.args.toList.map (S.ev C.gl)).all SV.good with
      | true => callO C.gl.length C.Γ C.Δ C.qt f (S.ev C.gl f) (c.args.toList.map (S.ev C.gl)) S.h
      | false => .fail
    | .builtin b => builtinO C.A C.τ b (c.args.toList.map (S.ev C.gl)) c.argTypes.toList S.h
    | _ => .fail
  | _ => .fail

/-! ### Regions and code -/

def gdB : Bool → Prop → Prop
  | true, p => p
  | false, _ => False

/-- Is the operation wanted? By the slot of the one that guards it. -/
def wantA (ops : List Oper) (o : Oper) (S : St) : Option Bool :=
  match o.guard with
  | none => some true
  | some (j, want) => match (ops[j]?).bind (·.dst) with
    | some d => match look S.t d with
      | .bool b => match want with
        | true => some b
        | false => some (!b)
      | .tup [] => some false
      | _ => none
    | none => none

def skipA (o : Oper) (S : St) : St := { S with t := putO S.t o.dst (.tup []) }

def doneA (o : Oper) (S : St) : R → St
  | ⟨ok, v, h⟩ => ⟨putO S.t o.dst v, h, ok && S.g⟩

def wantB (ops : List Oper) (o : Oper) (S : St) : Option (Bool × Bool) :=
  match o.guard with
  | none => some (true, true)
  | some (j, want) => match (ops[j]?).bind (·.dst) with
    | some d => match look S.t d with
      | .bool b => some (b, want)
      | .tup [] => some (false, true)
      | _ => none
    | none => none

theorem wantB_spec (ops : List Oper) (o : Oper) (S : St) : wantA ops o S = (wantB ops o S).map fun p => match p.2 with
    | true => p.1
    | false => !p.1 := by
  unfold wantA wantB
  cases o.guard with
  | none => rfl
  | some q =>
    obtain ⟨j, want⟩ := q
    simp only
    cases (ops[j]?).bind (·.dst) with
    | none => rfl
    | some d =>
      simp only
      split
      · cases want <;> rfl
      · rfl
      · rfl

def aops (C : Cx) (ops : List Oper) : List Oper → St → (St → Prop) → Prop
  | [], S, K => K S
  | o :: rest, S, K => match wantB ops o S with
    | none => False
    | some (b, w) => match b with
      | true => (match w with
        | true => aops C ops rest (doneA o S (aexec C o S)) K
        | false => aops C ops rest (skipA o S) K)
      | false => (match w with
        | true => aops C ops rest (skipA o S) K
        | false => aops C ops rest (doneA o S (aexec C o S)) K)

theorem aops_cons (C : Cx) (ops : List Oper) (o : Oper) (rest : List Oper) (S : St) (K : St → Prop) : aops C ops (o :: rest) S K = match wantA ops o S with
    | none => False
    | some b => match b with
      | true => aops C ops rest (doneA o S (aexec C o S)) K
      | false => aops C ops rest (skipA o S) K := by
  rw [wantB_spec]
  simp only [aops]
  cases wantB ops o S with
  | none => rfl
  | some p =>
    obtain ⟨b, w⟩ := p
    cases b <;> cases w <;> rfl


structure Good0 (P : Program) (C : Cx) : Prop where
  A : C.A = std
  τ : TOk P C.τ
  Γ : COk P C.Γ
  Δ : DOk P C.gl C.Δ
  ε : EOk P C.ε
  mixed : P.follows .mixedOrders = true

theorem toList1 {α : Type} {xs : Array α} {x : α} (h : xs.toList = [x]) : xs = #[x] := by apply Array.ext'; rw [h]
theorem toList2 {α : Type} {xs : Array α} {x y : α} (h : xs.toList = [x, y]) : xs = #[x, y] := by apply Array.ext'; rw [h]
theorem map1 {α β : Type} {f : α → β} {l : List α} {y : β} (h : l.map f = [y]) : ∃ x, l = [x] ∧ f x = y := by
  cases l with
  | nil => simp at h
  | cons x r =>
    cases r with
    | nil => simp at h; exact ⟨x, rfl, h⟩
    | cons _ _ => simp at h
theorem map2 {α β : Type} {f : α → β} {l : List α} {y z : β} (h : l.map f = [y, z]) : ∃ x x', l = [x, x'] ∧ f x = y ∧ f x' = z := by
  cases l with
  | nil => simp at h
  | cons x r =>
    simp only [List.map_cons, List.cons.injEq] at h
    obtain ⟨h1, h2⟩ := h
    obtain ⟨x', rfl, h3⟩ := map1 h2
    exact ⟨x, x', rfl, h1, h3⟩

theorem ok_makeFunc {P : Program} {C : Cx} {m : List Pl} {S : St} {a : Act} {w : World} (T : TTie C.gl m S.t a) (H : HTie m S.h w) {o : Oper} {f : Fn} {first cs : Array Operand} (ho : o.op = .makeFunc f first cs)
    (hok : (makeFuncO f first.toList (cs.toList.map (S.ev C.gl))).1 = true) : OpOk P o a w m S.h (Rof (makeFuncO f first.toList (cs.toList.map (S.ev C.gl))) S.h) := by
  unfold makeFuncO at hok ⊢
  split at hok
  · rename_i g hfi
    have hvs := evs T cs.toList (fun x hx e => by
      have := List.all_eq_true.1 hok (S.ev C.gl x) (List.mem_map.2 ⟨x, hx, rfl⟩)
      rw [e] at this; cases this)
    have hfirst : first = #[] := by apply Array.ext'; rw [hfi]
    subst hfirst
    refine OpOk.value H (u := .func (.func g) #[] (cs.toList.map a.eval).toArray) ?_ (.inr (by simp [SV.val, hvs]))
    have : (cs.toList.map a.eval).toArray = cs.map a.eval := by apply Array.ext'; simp
    rw [this]
    simp [execOp, ho, Instr.makeFunc]
  · simp at hok

theorem aexec_sound {P : Program} {C : Cx} (G : Good0 P C) {m : List Pl} {S : St} {a : Act} {w : World} (T : TTie C.gl m S.t a) (H : HTie m S.h w) (o : Oper)
    (hok : (aexec C o S).ok = true) : OpOk P o a w m S.h (aexec C o S) := by
  obtain ⟨hA, hτ, hΓ, hΔ, hε, _⟩ := G
  unfold aexec at hok ⊢
  rw [hA] at hok ⊢
  cases ho : o.op <;> simp only [ho] at hok ⊢
  case move x => exact ok_move T H (.inl ho)
  case assign x => exact ok_move T H (.inr ho)
  case pick c x y => exact ok_pick T H ho hok
  case alloc t =>
    cases hi : C.τ t with
    | none => simp [hi] at hok
    | some i => simp only [hi] at hok ⊢; exact ok_alloc hτ H ho hi hok
  case box t x => exact ok_box T H ho hok
  case build t ps =>
    split at hok
    · rename_i hg; exact ok_build hτ T H ho hg hok
    · simp at hok
  case buildSlice t len ps =>
    split at hok
    · rename_i hg; exact ok_buildSlice hτ T H ho hg hok
    · simp at hok
  case load t x => exact ok_load hτ T H ho hok
  case store t x y => exact ok_store hτ T H ho hok
  case nilCheck x => exact ok_nilCheck T H ho hok
  case binOp op t x y yt => exact ok_bin hτ hε T H ho hok
  case unOp op t x => exact ok_un T H ho hok
  case convert src dst x => exact ok_conv hτ T H ho hok
  case makeSlice t x y => exact ok_makeSlice hτ T H ho hok
  case makeFunc f first cs => exact ok_makeFunc T H ho hok
  case slice t x lo hi mx => exact ok_slice hτ T H ho hok
  case fieldAddr s x f => exact ok_fieldAddr hτ T H ho hok
  case field s x f => exact ok_field hτ T H ho hok
  case indexAddr t x ix => exact ok_indexAddr hτ T H ho hok
  case index t x ix => exact ok_index hτ T H ho hok
  case extract x i => exact ok_extract T H ho hok
  case call c =>
    obtain ⟨callee, args, ats⟩ := c
    cases callee <;> simp only at hok ⊢
    case value f =>
      split at hok
      · rename_i hg; exact ok_call hΓ hΔ T H ho hg hok
      · simp at hok
    case builtin b =>
      unfold builtinO at hok ⊢
      cases b <;> simp only at hok ⊢
      case len =>
        split at hok
        · rename_i v t hv ht
          obtain ⟨x, hx, rfl⟩ := map1 hv
          have := toList1 hx
          subst this
          have := toList1 ht
          subst this
          exact ok_len hτ T H ho rfl rfl rfl hok
        · simp at hok
      case append =>
        split at hok
        · rename_i v v' t t' hv ht
          obtain ⟨x, x', hx, rfl, rfl⟩ := map2 hv
          have := toList2 hx
          subst this
          have := toList2 ht
          subst this
          split at hok
          · rename_i hz; exact ok_appendZ hτ T H ho hz hok
          · exact ok_append hτ T H ho hok
        · simp at hok
      case copy =>
        split at hok
        · rename_i v v' t t' hv ht
          obtain ⟨x, x', hx, rfl, rfl⟩ := map2 hv
          have := toList2 hx
          subst this
          have := toList2 ht
          subst this
          exact ok_copy hτ T H ho hok
        · simp at hok
      case clear =>
        split at hok
        · rename_i v t hv ht
          obtain ⟨x, hx, rfl⟩ := map1 hv
          have := toList1 hx
          subst this
          have := toList1 ht
          subst this
          exact ok_clear hτ T H ho hok
        · simp at hok
      case min =>
        split at hok
        · rename_i hg; exact ok_minmax (mn := true) T H ho rfl hg hok
        · simp at hok
      case max =>
        split at hok
        · rename_i hg; exact ok_minmax (mn := false) T H ho rfl hg hok
        · simp at hok
      all_goals simp at hok
    all_goals simp at hok
  all_goals simp at hok


structure Env where
  G : List Nat
  n : Nat
  w0 : World
  may : Nat → Prop
  from_ : Nat → Prop
  m0 : List Pl

/-- All that is kept between the two machines. -/
structure Tie (E : Env) (m : List Pl) (S : St) (a : Act) (w : World) : Prop where
  size : a.tmps.size = E.n
  defers : a.defers = []
  tmps : TTie E.G m S.t a
  heap : HTie m S.h w
  wr : ∀ (i : Nat) (p : Pl) (c : Blk), m[i]? = some p → S.h[i]? = some c → c.k.wr = true → p.nil = false → E.may p.blk ∨ E.w0.heap.size ≤ p.blk
  src : ∀ (i : Nat) (p : Pl) (c : Blk), m[i]? = some p → S.h[i]? = some c → c.k ≠ .dead → p.nil = false → E.from_ p.blk ∨ E.w0.heap.size ≤ p.blk
  os : w.os = E.w0.os
  tape : w.tape = E.w0.tape
  output : w.output = E.w0.output
  grown : E.w0.heap.size ≤ w.heap.size
  kept : ∀ b, b < E.w0.heap.size → ¬ E.may b → w.heap[b]? = E.w0.heap[b]?
  pre : E.m0 <+: m

theorem Act.size_put (a : Act) (d : Option Tmp) (v : Value) : (a.put d v).tmps.size = a.tmps.size := by
  cases d <;> simp [Act.put]
theorem Act.defers_put (a : Act) (d : Option Tmp) (v : Value) : (a.put d v).defers = a.defers := by
  cases d <;> rfl

theorem Tie.step {E : Env} {m m' : List Pl} {S : St} {a : Act} {w w' : World} (T : Tie E m S a w) {h' : List Blk} (X : Ext m m' S.h h' w w') (H : HTie m' h' w') {v : SV} {u : Value} (hv : v = .bad ∨ v.val m' = some u)
    (d : Option Tmp) (hd : ∀ x, d = some x → x < E.n) (g : Bool) : Tie E m' ⟨putO S.t d v, h', g⟩ (a.put d u) w' := by
  refine ⟨by rw [Act.size_put]; exact T.size, by rw [Act.defers_put]; exact T.defers, (T.tmps.mono X.pre).put hv d (fun x hx => by rw [T.size]; exact hd x hx), H, fun i p c hp hc hk hkd => ?_, fun i p c hp hc hk hkd => ?_,
    X.os.trans T.os, X.tape.trans T.tape, X.output.trans T.output, Nat.le_trans T.grown X.size, fun b hb hm => ?_, T.pre.trans X.pre⟩
  · rcases X.kinds i p c hp hc hk hkd with ⟨j, q, c0, hq, hc0, hk0, hd0, e⟩ | h
    · rw [← e]; exact T.wr j q c0 hq hc0 hk0 hd0
    · exact .inr (Nat.le_trans T.grown h)
  · rcases X.src i p c hp hc hk hkd with ⟨j, q, c0, hq, hc0, hk0, hd0, e⟩ | h
    · rw [← e]; exact T.src j q c0 hq hc0 hk0 hd0
    · exact .inr (Nat.le_trans T.grown h)
  · rw [X.kept b (Nat.lt_of_lt_of_le hb T.grown) (fun i p c hp hc hk hkd e => ?_)]
    · exact T.kept b hb hm
    · rcases T.wr i p c hp hc hk hkd with h | h
      · exact hm (e ▸ h)
      · omega

theorem Tie.skip {E : Env} {m : List Pl} {S : St} {a : Act} {w : World} (T : Tie E m S a w) (o : Oper) (hd : ∀ x, o.dst = some x → x < E.n) : Tie E m (skipA o S) (a.put o.dst undef) w :=
  T.step (Ext.refl _ _ _) T.heap (.inr (by simp [SV.val, SV.vals, undef])) _ hd _

/-- Two states that are looked at alike. -/
structure Sq (S S' : St) : Prop where
  t : ∀ i, look S.t i = look S'.t i
  h : S.h = S'.h
  g : S.g = S'.g

theorem Sq.refl (S : St) : Sq S S := ⟨fun _ => rfl, rfl, rfl⟩
theorem Sq.symm {S S' : St} (q : Sq S S') : Sq S' S := ⟨fun i => (q.t i).symm, q.h.symm, q.g.symm⟩
theorem Sq.trans {S S' S'' : St} (q : Sq S S') (r : Sq S' S'') : Sq S S'' := ⟨fun i => (q.t i).trans (r.t i), q.h.trans r.h, q.g.trans r.g⟩

theorem Tie.sq {E : Env} {m : List Pl} {S S' : St} {a : Act} {w : World} (T : Tie E m S a w) (q : Sq S S') : Tie E m S' a w :=
  ⟨T.size, T.defers, ⟨fun i => by rw [← q.t i]; exact T.tmps.slot i, T.tmps.glob⟩, by rw [← q.h]; exact T.heap, by rw [← q.h]; exact T.wr, by rw [← q.h]; exact T.src, T.os, T.tape, T.output, T.grown, T.kept, T.pre⟩

theorem Sq.eval {S S' : St} (q : Sq S S') (G : List Nat) (x : Operand) : S.ev G x = S'.ev G x := by
  cases x <;> simp [St.ev, q.t]

theorem bnd_congr {A : Ar} {f g : Operand → SV} {o : Option Operand} (h : ∀ x, o = some x → f x = g x) : bnd A f o = bnd A g o := by
  cases o with
  | none => rfl
  | some x => simp only [bnd, h x rfl]

theorem aexec_congr (C : Cx) (o : Oper) {S S' : St} (h : ∀ x ∈ o.op.operands, S.ev C.gl x = S'.ev C.gl x) (hh : S.h = S'.h) : aexec C o S = aexec C o S' := by
  unfold aexec
  cases ho : o.op <;> simp only [ho, Op.operands] at h ⊢
  case move x => rw [h x (by simp), hh]
  case assign x => rw [h x (by simp), hh]
  case pick c x y => rw [h c (by simp), h x (by simp), h y (by simp), hh]
  case alloc t => rw [hh]
  case box t x => rw [h x (by simp), hh]
  case build t ps =>
    have e : ps.toList.map (fun p => S.ev C.gl p.2) = ps.toList.map (fun p => S'.ev C.gl p.2) := List.map_congr_left fun p hp => h p.2 (by simp; exact ⟨p.1, by simpa using hp⟩)
    have e' : ps.toList.map (fun p => (p.1, S.ev C.gl p.2)) = ps.toList.map (fun p => (p.1, S'.ev C.gl p.2)) := List.map_congr_left fun p hp => by rw [h p.2 (by simp; exact ⟨p.1, by simpa using hp⟩)]
    rw [e, e', hh]
  case buildSlice t len ps =>
    have e : ps.toList.map (fun p => S.ev C.gl p.2) = ps.toList.map (fun p => S'.ev C.gl p.2) := List.map_congr_left fun p hp => h p.2 (by simp; exact ⟨p.1, by simpa using hp⟩)
    have e' : ps.toList.map (fun p => (p.1, S.ev C.gl p.2)) = ps.toList.map (fun p => (p.1, S'.ev C.gl p.2)) := List.map_congr_left fun p hp => by rw [h p.2 (by simp; exact ⟨p.1, by simpa using hp⟩)]
    rw [e, e', hh]
  case load t x => rw [h x (by simp), hh]
  case store t x y => rw [h x (by simp), h y (by simp), hh]
  case nilCheck x => rw [h x (by simp), hh]
  case binOp op t x y yt => rw [h x (by simp), h y (by simp), hh]
  case unOp op t x => rw [h x (by simp), hh]
  case convert src dst x => rw [h x (by simp), hh]
  case makeSlice t x y => rw [h x (by simp), h y (by simp), hh]
  case makeFunc f first cs =>
    have e : cs.toList.map (S.ev C.gl) = cs.toList.map (S'.ev C.gl) := List.map_congr_left fun x hx => h x (by simp; exact .inr (by simpa using hx))
    rw [e, hh]
  case slice t x lo hi mx =>
    rw [h x (by simp), bnd_congr (o := lo) (fun y hy => h y (by simp [hy])), bnd_congr (o := hi) (fun y hy => h y (by simp [hy])), bnd_congr (o := mx) (fun y hy => h y (by simp [hy])), hh]
  case fieldAddr s x f => rw [h x (by simp), hh]
  case field s x f => rw [h x (by simp), hh]
  case indexAddr t x ix => rw [h x (by simp), h ix (by simp), hh]
  case index t x ix => rw [h x (by simp), h ix (by simp), hh]
  case extract x i => rw [h x (by simp), hh]
  case call c =>
    have ha : ∀ x ∈ c.args, S.ev C.gl x = S'.ev C.gl x := fun x hx => h x (by simp [Call.operands, hx])
    have e : c.args.toList.map (S.ev C.gl) = c.args.toList.map (S'.ev C.gl) := List.map_congr_left fun x hx => ha x (by simpa using hx)
    cases hc : c.callee <;> first | rfl | skip
    case value f => simp only; rw [e, h f (by simp [Call.operands, hc]), hh]
    case builtin b => simp only; rw [e, hh]

def intT (τ : Types) (t : TypeId) : Bool := match τ t with
  | some ⟨.int _, _, _, _⟩ => true
  | _ => false
def strT (τ : Types) (t : TypeId) : Bool := match τ t with
  | some ⟨.str, _, _, _⟩ => true
  | _ => false

/-- What is cut without a look at memory: a text, or an array by its address. -/
def flatT (τ : Types) (t : TypeId) : Bool := match τ t with
  | some ⟨.str, _, _, _⟩ => true
  | some ⟨.arr _ _, _, _, _⟩ => true
  | _ => false

/-- Does it look at memory? Does it turn it? -/
def touches (C : Cx) (o : Oper) : Bool := match o.op with
  | .alloc _ => true | .box _ _ => true | .load _ _ => true | .store _ _ _ => true
  | .makeSlice _ _ _ => true | .buildSlice _ _ _ => true
  | .slice t _ _ _ _ => !(flatT C.τ t)
  | .convert _ t _ => !(intT C.τ t)
  | .call c => (match c.callee with | .value f => !(isPureC C.Γ f) | .builtin .min => false | .builtin .max => false | _ => true)
  | _ => false
def turns (C : Cx) (o : Oper) : Bool := match o.op with
  | .alloc _ => true | .box _ _ => true | .store _ _ _ => true
  | .makeSlice _ _ _ => true | .buildSlice _ _ _ => true
  | .slice t _ _ _ _ => !(flatT C.τ t)
  | .convert _ t _ => !(intT C.τ t || strT C.τ t)
  | .call c => (match c.callee with | .value f => !(isPureC C.Γ f || isQuiet C.qt f) | .builtin .len => false | .builtin .min => false | .builtin .max => false | _ => true)
  | _ => false

theorem slice_str {A : Ar} {τ : Types} {t : TypeId} (h : flatT τ t = true) (x : SV) (lo hi mx : Option (Option (Bool × Nm))) (b b' : List Blk) (hok : (sliceO A τ t x lo hi mx b).ok = true) :
    (sliceO A τ t x lo hi mx b).h = b ∧ sliceO A τ t x lo hi mx b' = { sliceO A τ t x lo hi mx b with h := b' } := by
  have hs : ∃ i, τ t = some i ∧ (i.d = .str ∨ ∃ n e, i.d = .arr n e) := by
    unfold flatT at h
    split at h
    · rename_i hi; exact ⟨_, hi, .inl rfl⟩
    · rename_i hi; exact ⟨_, hi, .inr ⟨_, _, rfl⟩⟩
    · cases h
  obtain ⟨⟨d, s, y, z⟩, hi, hd⟩ := hs
  simp only at hd
  have key : ∀ (lo hi mx : Option (Bool × Nm)), (sliceO1 A τ t x lo hi mx b).ok = true → (sliceO1 A τ t x lo hi mx b).h = b ∧ sliceO1 A τ t x lo hi mx b' = { sliceO1 A τ t x lo hi mx b with h := b' } := fun lo hi' mx hok => by
    rcases hd with rfl | ⟨n, e, rfl⟩
    · unfold sliceO1 at hok ⊢
      simp only [hi] at hok ⊢
      split at hok <;> first | exact ⟨rfl, rfl⟩ | simp at hok
    · unfold sliceO1 at hok ⊢
      simp only [hi] at hok ⊢
      split at hok <;> first | exact ⟨rfl, rfl⟩ | simp at hok
  unfold sliceO at hok ⊢
  split at hok
  · rename_i lo hi mx
    cases hi with
    | some _ => exact key lo _ mx hok
    | none =>
      cases mx with
      | none => exact key lo _ _ hok
      | some _ => simp at hok
  · simp at hok

theorem conv_int {A : Ar} {τ : Types} {src dst : TypeId} (h : intT τ dst = true) (x : SV) (b b' : List Blk) (hok : (convO A τ src dst x b).ok = true) :
    (convO A τ src dst x b).h = b ∧ convO A τ src dst x b' = { convO A τ src dst x b with h := b' } := by
  have hs : ∃ i k, τ dst = some i ∧ i.d = .int k := by
    unfold intT at h
    split at h
    · rename_i hi; exact ⟨_, _, hi, rfl⟩
    · cases h
  obtain ⟨⟨d, s, y, z⟩, k, hi, hd⟩ := hs
  simp only at hd
  subst hd
  unfold convO at hok ⊢
  simp only [hi] at hok ⊢
  cases hsrc : τ src with
  | none => rw [hsrc] at hok; simp at hok
  | some i =>
    rw [hsrc] at hok
    simp only at hok ⊢
    cases x <;> first | exact ⟨rfl, rfl⟩ | (simp at hok; done)

theorem conv_str {A : Ar} {τ : Types} {src dst : TypeId} (h : strT τ dst = true) (x : SV) (b : List Blk) (hok : (convO A τ src dst x b).ok = true) :
    (convO A τ src dst x b).h = b := by
  have hs : ∃ i, τ dst = some i ∧ i.d = .str := by
    unfold strT at h
    split at h
    · rename_i hi; exact ⟨_, hi, rfl⟩
    · cases h
  obtain ⟨⟨d, s, y, z⟩, hi, hd⟩ := hs
  simp only at hd
  subst hd
  unfold convO at hok ⊢
  simp only [hi] at hok ⊢
  cases hsrc : τ src with
  | none => rw [hsrc] at hok; simp at hok
  | some i =>
    obtain ⟨d, s', y', z'⟩ := i
    rw [hsrc] at hok
    cases d <;> simp only at hok ⊢ <;> first | (simp at hok; done) | skip
    · split at hok <;> first | rfl | simp at hok
    · split at hok
      · rfl
      · split at hok
        · simp at hok
        · split at hok
          · rename_i he1 _ _ _ he2
            simp only [he1, he2]
          · simp at hok

theorem bt_h {A : Ar} {τ : Types} {b : Builtin} {args : List SV} {ats : List TypeId} (hb : b = .len ∨ b = .min ∨ b = .max) (h : List Blk) (hok : (builtinO A τ b args ats h).ok = true) : (builtinO A τ b args ats h).h = h := by
  unfold builtinO at hok ⊢
  rcases hb with rfl | rfl | rfl
  all_goals
    dsimp only at hok ⊢
    split at hok <;> first | rfl | simp at hok

theorem loadO_h {A : Ar} {τ : Types} {t : TypeId} {x : SV} {h : List Blk} (hok : (loadO A τ t x h).ok = true) : (loadO A τ t x h).h = h := by
  unfold loadO at hok ⊢
  cases h1 : τ t with
  | none => rw [h1] at hok; simp at hok
  | some i =>
    cases h2 : ptrOf x with
    | none => rw [h1, h2] at hok; simp at hok
    | some q =>
      obtain ⟨id, p⟩ := q
      dsimp only
      split <;> rfl

theorem callO_pure {ng : Nat} {Γ : Cons} {Δ : HCons} {q : List Nat} {x : Operand} (hp : isPureC Γ x = true) {f : SV} {args : List SV} {h : List Blk} (hok : (callO ng Γ Δ q x f args h).ok = true) (h' : List Blk) :
    (callO ng Γ Δ q x f args h).h = h ∧ callO ng Γ Δ q x f args h' = { callO ng Γ Δ q x f args h with h := h' } := by
  unfold callO at hok ⊢
  rw [hp] at hok ⊢
  cases f <;> dsimp only at hok ⊢ <;> first | (simp at hok; done) | skip
  rename_i g cs
  cases cs with
  | cons _ _ => simp at hok
  | nil =>
    dsimp only at hok ⊢
    cases hg : Γ g with
    | none => rw [hg] at hok; simp at hok
    | some F => exact ⟨rfl, rfl⟩

theorem callO_quiet {ng : Nat} {Γ : Cons} {Δ : HCons} {q : List Nat} {x : Operand} (hp : isPureC Γ x = false) (hq : isQuiet q x = true) {f : SV} {args : List SV} {h : List Blk} (hok : (callO ng Γ Δ q x f args h).ok = true) :
    (callO ng Γ Δ q x f args h).h = h := by
  unfold callO at hok ⊢
  rw [hp, hq] at hok ⊢
  cases f <;> dsimp only at hok ⊢ <;> first | (simp at hok; done) | skip
  rename_i g cs
  cases hg : Δ g with
  | none => rw [hg] at hok; simp at hok
  | some F => rfl

theorem aexec_h (C : Cx) (o : Oper) (S : St) (h : turns C o = false) (hok : (aexec C o S).ok = true) : (aexec C o S).h = S.h := by
  unfold aexec at hok ⊢
  unfold turns at h
  cases ho : o.op <;> simp only [ho] at hok h ⊢ <;> first | (cases h; done) | rfl | (simp at hok; done) | skip
  case build t ps => split <;> first | rfl | (rename_i hg; simp [hg] at hok)
  case load t x => exact loadO_h hok
  case convert src dst x =>
    cases hi : intT C.τ dst with
    | true => exact (conv_int hi _ _ S.h hok).1
    | false => exact conv_str (by simpa [hi] using h) _ _ hok
  case slice t x lo hi mx => exact (slice_str (by simpa using h) _ _ _ _ _ S.h hok).1
  case call c =>
    obtain ⟨callee, args, ats⟩ := c
    cases callee <;> simp only at hok h ⊢ <;> first | (cases h; done) | skip
    case value f =>
      split <;> first | (rename_i hg; simp [hg] at hok; done) | skip
      rename_i hg
      simp only [hg] at hok
      cases hp : isPureC C.Γ f with
      | true => exact (callO_pure hp hok S.h).1
      | false =>
        have hq : isQuiet C.qt f = true := by simpa [hp] using h
        exact callO_quiet hp hq hok
    case builtin b =>
      cases b <;> simp only at h <;> first | (cases h; done) | skip
      · exact bt_h (.inl rfl) _ hok
      · exact bt_h (.inr (.inr rfl)) _ hok
      · exact bt_h (.inr (.inl rfl)) _ hok
    all_goals (simp at hok)

/-- The same operation over other blocks. -/
theorem aexec_free (C : Cx) (o : Oper) (S : St) (h : touches C o = false) (hok : (aexec C o S).ok = true) (h' : List Blk) :
    aexec C o { S with h := h' } = { aexec C o S with h := h' } := by
  have he : ∀ x, ({ S with h := h' } : St).ev C.gl x = S.ev C.gl x := fun x => by cases x <;> rfl
  have he' : ({ S with h := h' } : St).ev C.gl = S.ev C.gl := funext he
  unfold aexec at hok ⊢
  unfold touches at h
  cases ho : o.op <;> simp only [ho, he, he'] at hok h ⊢ <;> first | (cases h; done) | rfl | (simp at hok; done) | skip
  case build t ps => split <;> first | rfl | (rename_i hg; simp [hg] at hok)
  case convert src dst x => exact (conv_int (by simpa using h) _ _ h' hok).2
  case slice t x lo hi mx => exact (slice_str (by simpa using h) _ _ _ _ _ h' hok).2
  case call c =>
    obtain ⟨callee, args, ats⟩ := c
    cases callee <;> simp only at hok h ⊢ <;> first | (cases h; done) | skip
    case value f =>
      split <;> first | (rename_i hg; simp [hg] at hok; done) | skip
      rename_i hg
      simp only [hg] at hok
      have hp : isPureC C.Γ f = true := by simpa using h
      exact (callO_pure hp hok h').2
    case builtin b =>
      cases b <;> simp only at h <;> first | (cases h; done) | skip
      all_goals
        unfold builtinO at hok ⊢
        simp only at hok ⊢
        split at hok <;> first | rfl | simp at hok

/-- Do these pairs of slots speak of different blocks? -/
def dynOk : List (Nat × Nat) → St → Bool
  | [], _ => true
  | (q, p) :: r, T => (match ptrOf (look T.t q), ptrOf (look T.t p) with
    | some (a, _), some (b, _) => (match Nat.beq a b with
      | true => false
      | false => dynOk r T)
    | _, _ => false)

/-! ### Every order of a region comes to one end -/

theorem gdB_iff {b : Bool} {p : Prop} : gdB b p ↔ b = true ∧ p := by cases b <;> simp [gdB]

/-- The value and the blocks behind an operation, or that it is passed over. -/
def eff (C : Cx) (ops : List Oper) (o : Oper) (S : St) : Option (SV × List Blk) :=
  match wantA ops o S with
  | none => none
  | some true => if (aexec C o S).ok = true then some ((aexec C o S).v, (aexec C o S).h) else none
  | some false => some (.tup [], S.h)

def stepO (C : Cx) (ops : List Oper) (o : Oper) (S : St) : Option St :=
  (eff C ops o S).map fun p => ⟨putO S.t o.dst p.1, p.2, S.g⟩

def trun (C : Cx) (ops : List Oper) : List Oper → St → Option St
  | [], S => some S
  | o :: r, S => (stepO C ops o S).bind (trun C ops r)

theorem aops_g {C : Cx} {ops : List Oper} {K : St → Prop} (hK : ∀ T, K T → T.g = true) : ∀ (l : List Oper) (S : St), aops C ops l S K → S.g = true
  | [], S, h => hK S h
  | o :: r, S, h => by
    rw [aops_cons] at h
    split at h
    · exact h.elim
    · split at h
      · have := aops_g hK r _ h
        simp only [doneA, Bool.and_eq_true] at this
        exact this.2
      · have := aops_g hK r _ h
        exact this

theorem trun_of_aops {C : Cx} {ops : List Oper} {K : St → Prop} (hK : ∀ T, K T → T.g = true) : ∀ (l : List Oper) (S : St), aops C ops l S K → ∃ S', trun C ops l S = some S' ∧ K S'
  | [], S, h => ⟨S, rfl, h⟩
  | o :: r, S, h => by
    rw [aops_cons] at h
    split at h
    · exact h.elim
    · rename_i b hb
      split at h
      · have hg := aops_g hK r _ h
        simp only [doneA, Bool.and_eq_true] at hg
        obtain ⟨S', h1, h2⟩ := trun_of_aops hK r _ h
        refine ⟨S', ?_, h2⟩
        simp only [trun, stepO, eff, hb, hg.1, if_true, Option.map_some, Option.bind_some]
        simp only [doneA, hg.1, Bool.true_and] at h1
        exact h1
      · obtain ⟨S', h1, h2⟩ := trun_of_aops hK r _ h
        exact ⟨S', by simp only [trun, stepO, eff, hb, Option.map_some, Option.bind_some]; exact h1, h2⟩

/-- Whatever operation comes next. -/
def absAny (C : Cx) (ops : Array Oper) (K : St → Prop) : Nat → Array Bool → St → Prop
  | 0, listed, S => Region.ready .any ops listed = [] ∧ K S
  | fuel + 1, listed, S => (Region.ready .any ops listed = [] → K S) ∧
    ∀ i ∈ Region.ready .any ops listed, ∃ o S', ops[i]? = some o ∧ stepO C ops.toList o S = some S' ∧ absAny C ops K fuel (listed.setIfInBounds i true) S'

theorem wantA_sq {ops : List Oper} {o : Oper} {S S' : St} (q : ∀ i, look S.t i = look S'.t i) : wantA ops o S = wantA ops o S' := by
  unfold wantA
  split
  · rfl
  · split
    · rw [q]
    · rfl

theorem look_putO (t : List (Nat × SV)) (d : Option Tmp) (v : SV) (j : Nat) : look (putO t d v) j = if d = some j then v else look t j := by
  cases d with
  | none => simp [putO]
  | some d =>
    simp only [putO, look_put, Option.some.injEq]
    by_cases h : d = j
    · subst h; simp
    · rw [if_neg h, if_neg (Ne.symm h)]

theorem eff_sq {C : Cx} {ops : List Oper} {o : Oper} {S S' : St} (q : Sq S S') : eff C ops o S = eff C ops o S' := by
  have he : aexec C o S = aexec C o S' := aexec_congr C o (fun x _ => q.eval _ x) q.h
  unfold eff
  rw [← wantA_sq q.t, ← he, q.h]

theorem stepO_sq {C : Cx} {ops : List Oper} {o : Oper} {S S' T : St} (q : Sq S S') (h : stepO C ops o S = some T) : ∃ T', stepO C ops o S' = some T' ∧ Sq T T' := by
  unfold stepO at h ⊢
  rw [← eff_sq q]
  simp only [Option.map_eq_some_iff] at h
  obtain ⟨p, hp, rfl⟩ := h
  exact ⟨⟨putO S'.t o.dst p.1, p.2, S'.g⟩, by rw [hp]; rfl, ⟨fun i => by simp only [look_putO, q.t], rfl, q.g⟩⟩

theorem absAny_sq {C : Cx} {ops : Array Oper} {K : St → Prop} (hK : ∀ S S', Sq S S' → K S → K S') : ∀ (fuel : Nat) (listed : Array Bool) (S S' : St), Sq S S' → absAny C ops K fuel listed S → absAny C ops K fuel listed S'
  | 0, _, _, _, q, h => ⟨h.1, hK _ _ q h.2⟩
  | fuel + 1, _, _, _, q, h => ⟨fun h0 => hK _ _ q (h.1 h0), fun i hi => by
    obtain ⟨o, T, h1, h2, h3⟩ := h.2 i hi
    obtain ⟨T', h4, h5⟩ := stepO_sq q h2
    exact ⟨o, T', h1, h4, absAny_sq hK fuel _ _ _ h5 h3⟩⟩

def apartA (C : Cx) (ops : Array Oper) (x y : Oper) : Bool :=
  x.apart ops y && (!(turns C x && touches C y) && !(touches C x && turns C y))

theorem mem_looksAt {ops : Array Oper} {o : Oper} {t : Tmp} (hx : Operand.tmp t ∈ o.op.operands) : t ∈ o.looksAt ops := by
  unfold Oper.looksAt
  exact List.mem_append_left _ (List.mem_filterMap.2 ⟨.tmp t, by simpa using hx, rfl⟩)

theorem eff_put {C : Cx} {ops : Array Oper} {o : Oper} {t : List (Nat × SV)} {h : List Blk} {g g' : Bool} {d : Option Tmp} {v : SV} (hd : ∀ k, d = some k → k ∉ o.looksAt ops) :
    eff C ops.toList o ⟨putO t d v, h, g⟩ = eff C ops.toList o ⟨t, h, g'⟩ := by
  have he : aexec C o ⟨putO t d v, h, g⟩ = aexec C o ⟨t, h, g'⟩ := aexec_congr C o (fun x hx => by
    cases x with
    | tmp k =>
      simp only [St.ev, look_putO]
      rw [if_neg]
      intro e
      exact hd k e (mem_looksAt hx)
    | _ => rfl) rfl
  have hw : wantA ops.toList o ⟨putO t d v, h, g⟩ = wantA ops.toList o ⟨t, h, g'⟩ := by
    unfold wantA
    split
    · rfl
    · rename_i j want hg
      split
      · rename_i d' hd'
        simp only [look_putO]
        rw [if_neg]
        intro e
        refine hd d' e ?_
        unfold Oper.looksAt
        refine List.mem_append_right _ ?_
        simp only [hg]
        rw [Array.getElem?_toList] at hd'
        simp [hd']
      · rfl
  unfold eff
  rw [he, hw]

theorem eff_noturn {C : Cx} {ops : List Oper} {o : Oper} {S : St} {p : SV × List Blk} (h : eff C ops o S = some p) (ht : turns C o = false) : p.2 = S.h := by
  unfold eff at h
  split at h
  · cases h
  · split at h
    · rename_i hok
      simp only [Option.some.injEq] at h
      subst h
      exact aexec_h C o S ht hok
    · cases h
  · simp only [Option.some.injEq] at h
    subst h; rfl

theorem eff_free {C : Cx} {ops : List Oper} {o : Oper} {t : List (Nat × SV)} {h : List Blk} {g : Bool} {p : SV × List Blk} (he : eff C ops o ⟨t, h, g⟩ = some p) (ht : touches C o = false) (h' : List Blk) :
    eff C ops o ⟨t, h', g⟩ = some (p.1, h') := by
  have hw : wantA ops o ⟨t, h', g⟩ = wantA ops o ⟨t, h, g⟩ := wantA_sq fun _ => rfl
  unfold eff at he ⊢
  rw [hw]
  split at he
  · cases he
  · split at he
    · rename_i hok
      simp only [Option.some.injEq] at he
      subst he
      have := aexec_free C o ⟨t, h, g⟩ ht hok h'
      simp only at this
      simp only [this, hok, if_true]
    · cases he
  · simp only [Option.some.injEq] at he
    subst he; rfl

theorem turns_touches {C : Cx} {o : Oper} (h : turns C o = true) : touches C o = true := by
  unfold turns at h
  unfold touches
  cases ho : o.op <;> simp only [ho] at h ⊢ <;> first | (cases h; done) | exact h | skip
  case convert s t x =>
    cases hi : intT C.τ t with
    | true => simp [hi] at h
    | false => rfl
  rename_i c
  cases hc : c.callee <;> simp only [hc] at h ⊢ <;> first | exact h | skip
  · rename_i f
    cases hp : isPureC C.Γ f with
    | true => rw [hp] at h; cases h
    | false => rfl
  · rename_i b
    cases b <;> first | exact h | rfl

/-- Two operations that are apart: one behind the other, or the other way round. -/
theorem diamond {C : Cx} {ops : Array Oper} {oi oj : Oper} (hap : apartA C ops oi oj = true) {S Si Sij : St} (h1 : stepO C ops.toList oi S = some Si) (h2 : stepO C ops.toList oj Si = some Sij) :
    ∃ Sj Sji, stepO C ops.toList oj S = some Sj ∧ stepO C ops.toList oi Sj = some Sji ∧ Sq Sij Sji := by
  simp only [apartA, Bool.and_eq_true, Bool.not_eq_true', Bool.and_eq_false_iff] at hap
  obtain ⟨hap, hw1, hw2⟩ := hap
  obtain ⟨a1, a2, a3⟩ := Oper.apart_spec hap
  obtain ⟨t, h, g⟩ := S
  have swap : ∀ (u v : SV) (k : Nat), look (putO (putO t oi.dst u) oj.dst v) k = look (putO (putO t oj.dst v) oi.dst u) k := fun u v k => by
    simp only [look_putO]
    by_cases e1 : oj.dst = some k
    · by_cases e2 : oi.dst = some k
      · exact absurd e1 (a2 k e2)
      · rw [if_pos e1, if_neg e2, if_pos e1]
    · rw [if_neg e1, if_neg e1]
  unfold stepO at h1 h2 ⊢
  simp only [Option.map_eq_some_iff] at h1
  obtain ⟨⟨vi, hi⟩, e1, rfl⟩ := h1
  simp only [Option.map_eq_some_iff] at h2
  obtain ⟨⟨vj, hij⟩, e2, rfl⟩ := h2
  rw [eff_put (g' := g) a1] at e2
  cases hti : turns C oi with
  | true =>
    have htj : touches C oj = false := by
      rcases hw1 with hh | hh
      · rw [hti] at hh; cases hh
      · exact hh
    have f := eff_free e2 htj h
    have f2 := eff_free e2 htj hi
    rw [e2] at f2
    simp only [Option.some.injEq, Prod.mk.injEq, true_and] at f2
    exact ⟨⟨putO t oj.dst vj, h, g⟩, ⟨putO (putO t oj.dst vj) oi.dst vi, hi, g⟩, by rw [f]; rfl, by rw [eff_put (g' := g) a3, e1]; rfl, ⟨swap vi vj, f2, rfl⟩⟩
  | false =>
    have h0 : hi = h := eff_noturn e1 hti
    subst h0
    cases htj : turns C oj with
    | true =>
      have hti' : touches C oi = false := by
        rcases hw2 with hh | hh
        · exact hh
        · rw [htj] at hh; cases hh
      have f := eff_free e1 hti' hij
      exact ⟨⟨putO t oj.dst vj, hij, g⟩, ⟨putO (putO t oj.dst vj) oi.dst vi, hij, g⟩, by rw [e2]; rfl, by rw [eff_put (g' := g) a3, f]; rfl, ⟨swap vi vj, rfl, rfl⟩⟩
    | false =>
      have h0 : hij = hi := eff_noturn e2 htj
      subst h0
      exact ⟨⟨putO t oj.dst vj, hij, g⟩, ⟨putO (putO t oj.dst vj) oi.dst vi, hij, g⟩, by rw [e2]; rfl, by rw [eff_put (g' := g) a3, e1]; rfl, ⟨swap vi vj, rfl, rfl⟩⟩

/-! Which operations wait for which. -/

inductive Reach (ops : Array Oper) : Nat → Nat → Prop
  | one {j : Nat} {o : Oper} {e : Edge} : ops[j]? = some o → e ∈ o.after → Region.binds .any e = true → Reach ops j e.on
  | more {j k : Nat} {o : Oper} {e : Edge} : ops[j]? = some o → e ∈ o.after → Region.binds .any e = true → Reach ops e.on k → Reach ops j k

def ancOf (acc : List Nat) (o : Oper) : Nat :=
  o.after.toList.foldl (fun n e => if Region.binds .any e then n ||| (1 <<< e.on) ||| acc.getD e.on 0 else n) 0
def ancs (l : List Oper) : List Nat := l.foldl (fun acc o => acc ++ [ancOf acc o]) []

theorem ancOf_spec {ops : Array Oper} {acc : List Nat} (H : ∀ j k, (acc.getD j 0).testBit k = true → Reach ops j k) {i : Nat} {o : Oper} (hi : ops[i]? = some o) {k : Nat} (h : (ancOf acc o).testBit k = true) : Reach ops i k := by
  unfold ancOf at h
  have key : ∀ (l : List Edge) (n : Nat), (∀ e ∈ l, e ∈ o.after) → (n.testBit k = true → Reach ops i k) →
      (l.foldl (fun n e => if Region.binds .any e then n ||| (1 <<< e.on) ||| acc.getD e.on 0 else n) n).testBit k = true → Reach ops i k := by
    intro l
    induction l with
    | nil => intro n _ hn h; exact hn h
    | cons e r ih =>
      intro n hl hn h
      refine ih _ (fun x hx => hl x (List.mem_cons_of_mem _ hx)) (fun h => ?_) h
      simp only at h
      split at h
      · rename_i hb
        simp only [Nat.testBit_or, Bool.or_eq_true] at h
        rcases h with (h | h) | h
        · exact hn h
        · rw [Nat.testBit_shiftLeft] at h
          simp only [Bool.and_eq_true, decide_eq_true_eq] at h
          have : e.on = k := by
            have h2 := h.2
            cases hd : k - e.on with
            | zero => omega
            | succ m => rw [hd] at h2; simp [Nat.testBit_succ] at h2
          subst this
          exact .one hi (hl e List.mem_cons_self) hb
        · exact .more hi (hl e List.mem_cons_self) hb (H _ _ h)
      · exact hn h
  exact key _ 0 (fun e he => by simpa using he) (by simp) h

theorem ancs_go {ops : Array Oper} : ∀ (l : List Oper) (acc : List Nat), (∀ (n : Nat) (o : Oper), l[n]? = some o → ops[acc.length + n]? = some o) → (∀ j k, (acc.getD j 0).testBit k = true → Reach ops j k) →
    ∀ j k, ((l.foldl (fun acc o => acc ++ [ancOf acc o]) acc).getD j 0).testBit k = true → Reach ops j k
  | [], acc, _, H => H
  | o :: r, acc, hl, H => by
    simp only [List.foldl_cons]
    refine ancs_go r (acc ++ [ancOf acc o]) (fun n x hx => ?_) fun j k h => ?_
    · have := hl (n + 1) x (by simpa using hx)
      simpa [Nat.add_assoc, Nat.add_comm 1 n] using this
    · rcases Nat.lt_trichotomy j acc.length with hj | hj | hj
      · rw [List.getD_eq_getElem?_getD, List.getElem?_append_left hj, ← List.getD_eq_getElem?_getD] at h
        exact H j k h
      · subst hj
        have h0 : ops[acc.length]? = some o := by simpa using hl 0 o rfl
        simp only [List.getD_eq_getElem?_getD, List.getElem?_concat_length, Option.getD_some] at h
        exact ancOf_spec H h0 h
      · rw [List.getD_eq_getElem?_getD, List.getElem?_eq_none (by simp; omega)] at h
        simp at h

theorem ancs_spec {ops : Array Oper} {j k : Nat} (h : ((ancs ops.toList).getD j 0).testBit k = true) : Reach ops j k :=
  ancs_go ops.toList [] (fun n o h => by simpa using h) (by simp) j k h

def Closed (ops : Array Oper) (listed : Array Bool) : Prop := ∀ (j : Nat) (o : Oper), ops[j]? = some o → listed.getD j true = true → ∀ e ∈ o.after, Region.binds .any e = true → listed.getD e.on true = true

theorem Closed.reach {ops : Array Oper} {listed : Array Bool} (hc : Closed ops listed) {j k : Nat} (r : Reach ops j k) : listed.getD j true = true → listed.getD k true = true := by
  induction r with
  | one h1 h2 h3 => exact fun h => hc _ _ h1 h _ h2 h3
  | more h1 h2 h3 _ ih => exact fun h => ih (hc _ _ h1 h _ h2 h3)

theorem ready_out {ops : Array Oper} {listed : Array Bool} {j : Nat} (hj : j ∈ Region.ready .any ops listed) : ∃ o, ops[j]? = some o ∧ listed.getD j true = false ∧ ∀ e ∈ o.after, Region.binds .any e = true → listed.getD e.on true = true := by
  obtain ⟨h1, o, ho, h2⟩ := mem_ready.1 hj
  refine ⟨o, ho, ?_, fun e he hb => ?_⟩
  · rcases Nat.lt_or_ge j listed.size with h' | h'
    · simp [h'] at h1 ⊢; exact h1
    · simp [Array.getElem?_eq_none h'] at h1
  · have h1 := h2 e he hb
    rcases Nat.lt_or_ge e.on listed.size with h' | h'
    · simp [h'] at h1 ⊢; exact h1
    · simp [Array.getElem?_eq_none h']

theorem Closed.ready {ops : Array Oper} {listed : Array Bool} (hc : Closed ops listed) {j k : Nat} (hj : j ∈ Region.ready .any ops listed) (r : Reach ops j k) : listed.getD k true = true := by
  obtain ⟨o, ho, _, hall⟩ := ready_out hj
  cases r with
  | one h1 h2 h3 =>
    rw [ho] at h1; obtain rfl := Option.some.inj h1
    exact hall _ h2 h3
  | more h1 h2 h3 r' =>
    rw [ho] at h1; obtain rfl := Option.some.inj h1
    exact hc.reach r' (hall _ h2 h3)

theorem getD_set_true {listed : Array Bool} (j k : Nat) (h : listed.getD k true = true) : (listed.setIfInBounds j true).getD k true = true := by
  by_cases hjk : j = k
  · subst hjk
    rcases Nat.lt_or_ge j listed.size with h' | h'
    · simp [h']
    · simp [h']
  · rw [getD_set_ne true hjk]; exact h

theorem Closed.set {ops : Array Oper} {listed : Array Bool} (hc : Closed ops listed) {j : Nat} (hj : j ∈ Region.ready .any ops listed) : Closed ops (listed.setIfInBounds j true) := by
  obtain ⟨o, ho, _, hall⟩ := ready_out hj
  intro k ok hk hl e he hb
  by_cases hjk : j = k
  · subst hjk
    rw [ho] at hk; obtain rfl := Option.some.inj hk
    exact getD_set_true _ _ (hall e he hb)
  · rw [getD_set_ne true hjk] at hl
    exact getD_set_true _ _ (hc k ok hk hl e he hb)

/-! Loads beside what makes blocks, and beside what writes another block. -/

def isNew (o : Oper) : Bool := match o.op with
  | .alloc _ => true | .box _ _ => true
  | _ => false
def isLoad (o : Oper) : Bool := match o.op with
  | .load _ _ => true
  | _ => false

def isNilS : Operand → Bool
  | .const (.slice none 0 0) => true
  | _ => false

/-- What leaves each block's cells as they are, and readable: it makes blocks, or cuts. -/
def isGrow (o : Oper) : Bool := match o.op with
  | .alloc _ => true | .box _ _ => true
  | .buildSlice _ _ _ => true | .makeSlice _ _ _ => true
  | .slice _ _ _ _ _ => true | .convert _ _ _ => true
  | .call c => (match c.callee with
    | .builtin .append => (match c.args.toList with
      | s :: _ => isNilS s
      | [] => false)
    | _ => false)
  | _ => false

def Grows (h h' : List Blk) : Prop := ∀ id, (blkAt h id).live = true → (blkAt h' id).c = (blkAt h id).c ∧ (blkAt h' id).live = true

def apartB (C : Cx) (ops : Array Oper) (x y : Oper) : Bool :=
  x.apart ops y && (!(turns C x && touches C y) && (!(touches C x && turns C y) || (isLoad x && isGrow y)))

/-- The unlisted do not write the slot. -/
def Unwritten (ops : Array Oper) (listed : Array Bool) (q : Nat) : Prop := ∀ (m : Nat) (om : Oper), ops[m]? = some om → listed.getD m true = false → om.dst ≠ some q

def Apart (C : Cx) (ops : Array Oper) (listed : Array Bool) (S : St) (x : Oper) (j : Nat) (y : Oper) : Prop :=
  apartB C ops x y = true ∨ (∃ t q t' p v k ok, x.op = .load t (.tmp q) ∧ y.op = .store t' (.tmp p) v ∧ x.apart ops y = true ∧ Unwritten ops listed q ∧
    ops[k]? = some ok ∧ listed.getD k true = false ∧ isNew ok = true ∧ ok.guard = none ∧ ok.dst = some p ∧ Reach ops j k ∧ (∀ (m : Nat) (om : Oper), ops[m]? = some om → listed.getD m true = false → m ≠ k → om.dst ≠ some p) ∧
    ∃ a oa, ptrOf (look S.t q) = some (a, oa) ∧ a < S.h.length) ∨ ∃ t q t' p v, x.op = .load t (.tmp q) ∧ y.op = .store t' (.tmp p) v ∧ x.apart ops y = true ∧ Unwritten ops listed q ∧ Unwritten ops listed p ∧
    ∃ a oa b ob, ptrOf (look S.t q) = some (a, oa) ∧ ptrOf (look S.t p) = some (b, ob) ∧ a ≠ b

theorem eff_new {C : Cx} {ops : List Oper} {o : Oper} {S : St} {p : SV × List Blk} (h : eff C ops o S = some p) (hn : isNew o = true) : ∃ x, p.2 = S.h ++ x := by
  unfold eff at h
  split at h
  · cases h
  · split at h
    · rename_i hok
      simp only [Option.some.injEq] at h
      subst h
      unfold isNew at hn
      unfold aexec at hok ⊢
      cases ho : o.op <;> simp only [ho] at hn hok ⊢ <;> try (cases hn; done)
      · split
        · exact ⟨_, rfl⟩
        · rename_i hg; simp [hg, R.fail] at hok
      · exact ⟨_, rfl⟩
    · cases h
  · simp only [Option.some.injEq] at h
    subst h; exact ⟨[], by simp⟩

theorem Grows.refl (h : List Blk) : Grows h h := fun _ hl => ⟨rfl, hl⟩

theorem Grows.app (h x : List Blk) : Grows h (h ++ x) := fun id hlive => by
  unfold blkAt at hlive ⊢
  rcases Nat.lt_or_ge id h.length with hlt | hge
  · rw [List.getD_eq_getElem?_getD, List.getElem?_append_left hlt, ← List.getD_eq_getElem?_getD]
    exact ⟨rfl, hlive⟩
  · rw [List.getD_eq_getElem?_getD, List.getElem?_eq_none hge] at hlive
    simp [Blk.nil, Blk.live] at hlive

theorem Grows.trans {h h' h'' : List Blk} (a : Grows h h') (b : Grows h' h'') : Grows h h'' := fun id hl => by
  obtain ⟨a1, a2⟩ := a id hl
  obtain ⟨b1, b2⟩ := b id a2
  exact ⟨b1.trans a1, b2⟩

theorem frz_live {b : Blk} (h : b.live = true) : b.frz.live = true := by
  obtain ⟨c, k⟩ := b
  cases k <;> simp [Blk.live] at h <;> rfl

theorem Grows.frz (h : List Blk) (id : Nat) (hl : (blkAt h id).live = true) : Grows h (h.set id (blkAt h id).frz) := fun j hj => by
  by_cases e : id = j
  · subst e
    have hlt : id < h.length := by
      rcases Nat.lt_or_ge id h.length with hlt | hge
      · exact hlt
      · unfold blkAt at hl
        rw [List.getD_eq_getElem?_getD, List.getElem?_eq_none hge] at hl
        simp [Blk.nil, Blk.live] at hl
    have : blkAt (h.set id (blkAt h id).frz) id = (blkAt h id).frz := by
      conv => lhs; unfold blkAt
      rw [List.getD_eq_getElem?_getD, List.getElem?_set_self hlt]; rfl
    rw [this]
    exact ⟨frz_c _, frz_live hj⟩
  · rw [blkAt_set e]
    exact ⟨rfl, hj⟩

theorem grown_grows {A : Ar} {i : TI} {ok : Bool} {len n : Nm} {c d : Cs} {h : List Blk} {k : BK} {r : R} (hr : grown A i ok len c n d h k = r) : r.ok = true → Grows h r.h := by
  unfold grown at hr
  split at hr <;> subst hr <;> intro hok <;> first | (simp at hok; done) | exact Grows.app h _

theorem pieceO_grows {A : Ar} {id off es : Nat} {len : Nm} {lo hi : Option (Bool × Nm)} {h : List Blk} (hok : (pieceO A id off es len lo hi h).ok = true) : Grows h (pieceO A id off es len lo hi h).h := by
  unfold pieceO at hok ⊢
  dsimp only at hok ⊢
  simp only [Bool.and_eq_true] at hok
  exact (Grows.frz h id hok.1).trans (Grows.app _ _)

theorem sliceO1_grows {A : Ar} {τ : Types} {t : TypeId} {x : SV} {lo hi mx : Option (Bool × Nm)} {h : List Blk} {r : R} (hr : sliceO1 A τ t x lo hi mx h = r) : r.ok = true → Grows h r.h := by
  have bad : ∀ {r : R}, R.fail = r → r.ok = true → Grows h r.h := fun e hok => by subst e; simp at hok
  unfold sliceO1 at hr
  split at hr
  · split at hr
    · subst hr; intro _; exact Grows.refl h
    · exact bad hr
  · split at hr
    · subst hr; intro _; exact Grows.refl h
    · exact bad hr
  · split at hr
    · exact bad hr
    · split at hr
      · subst hr; intro _; exact Grows.refl h
      · split at hr
        · subst hr; intro _; exact Grows.refl h
        · split at hr
          · subst hr; intro hok; exact pieceO_grows hok
          · exact bad hr
      · split at hr
        · split at hr
          · subst hr; intro _; exact Grows.refl h
          · subst hr; intro hok; exact pieceO_grows hok
        · split at hr
          · subst hr; intro hok
            dsimp only at hok ⊢
            simp only [Bool.and_eq_true] at hok
            exact (Grows.frz h _ hok.1).trans (Grows.app _ _)
          · exact bad hr
      · exact bad hr
  · exact bad hr

theorem sliceO_grows {A : Ar} {τ : Types} {t : TypeId} {x : SV} {lo hi mx : Option (Option (Bool × Nm))} {h : List Blk} {r : R} (hr : sliceO A τ t x lo hi mx h = r) : r.ok = true → Grows h r.h := by
  unfold sliceO at hr
  split at hr
  · split at hr
    · subst hr; intro hok; simp at hok
    · exact sliceO1_grows hr
  · subst hr; intro hok; simp at hok

theorem convO_grows {A : Ar} {τ : Types} {t t' : TypeId} {x : SV} {h : List Blk} {r : R} (hr : convO A τ t t' x h = r) : r.ok = true → Grows h r.h := by
  have bad : ∀ {r : R}, R.fail = r → r.ok = true → Grows h r.h := fun e hok => by subst e; simp at hok
  have same : ∀ {o : Bool} {v : SV} {r : R}, (⟨o, v, h⟩ : R) = r → r.ok = true → Grows h r.h := fun e _ => by subst e; exact Grows.refl h
  unfold convO at hr
  split at hr
  · split at hr <;> first | exact same hr | exact bad hr
  · split at hr <;> first | exact same hr | exact bad hr
  · split at hr
    · subst hr; intro _; exact Grows.app h _
    · exact bad hr
  · split at hr
    · exact same hr
    · split at hr
      · exact bad hr
      · split at hr <;> first | exact same hr | exact bad hr
  · exact bad hr

theorem makeSliceO_grows {A : Ar} {τ : Types} {t : TypeId} {x y : SV} {h : List Blk} {r : R} (hr : makeSliceO A τ t x y h = r) : r.ok = true → Grows h r.h := by
  have bad : ∀ {r : R}, R.fail = r → r.ok = true → Grows h r.h := fun e hok => by subst e; simp at hok
  unfold makeSliceO at hr
  split at hr
  · split at hr
    · subst hr; intro _; exact Grows.app h _
    · subst hr; intro _; exact Grows.app h _
    · split at hr
      · subst hr; intro _; exact Grows.app h _
      · exact bad hr
    · exact bad hr
  · exact bad hr

theorem buildSliceO_grows {τ : Types} {t : TypeId} {len : Nat} {ps : List (Nat × SV)} {h : List Blk} {r : R} (hr : buildSliceO τ t len ps h = r) : r.ok = true → Grows h r.h := by
  unfold buildSliceO at hr
  split at hr <;> subst hr <;> intro hok <;> first | (simp at hok; done) | exact Grows.app h _

theorem appendO_nil_grows {A : Ar} {τ : Types} {t tx : TypeId} {x : SV} {h : List Blk} {r : R} (hr : appendO A τ t tx .nils x h = r) : r.ok = true → Grows h r.h := by
  have bad : ∀ {r : R}, R.fail = r → r.ok = true → Grows h r.h := fun e hok => by subst e; simp at hok
  unfold appendO at hr
  split at hr
  · exact bad hr
  · split at hr
    · exact bad hr
    · exact grown_grows hr

theorem appendZO_nil_grows {A : Ar} {τ : Types} {t : TypeId} {x : SV} {h : List Blk} {r : R} (hr : appendZO A τ t .nils x h = r) : r.ok = true → Grows h r.h := by
  have bad : ∀ {r : R}, R.fail = r → r.ok = true → Grows h r.h := fun e hok => by subst e; simp at hok
  unfold appendZO at hr
  split at hr
  · exact bad hr
  · split at hr <;> exact bad hr

theorem newO_grows (l : List SV) (h : List Blk) : Grows h (newO l h).h := Grows.app h _

theorem ev_nilS {S : St} {G : List Nat} {s : Operand} (hn : isNilS s = true) : S.ev G s = .nils := by
  unfold isNilS at hn
  split at hn
  · rfl
  · cases hn

theorem eff_grow {C : Cx} {ops : List Oper} {o : Oper} {S : St} {p : SV × List Blk} (h : eff C ops o S = some p) (hn : isGrow o = true) : Grows S.h p.2 := by
  unfold eff at h
  split at h
  · cases h
  · split at h
    · rename_i hok
      simp only [Option.some.injEq] at h
      subst h
      unfold isGrow at hn
      unfold aexec at hok ⊢
      cases ho : o.op <;> simp only [ho] at hn hok ⊢ <;> try (cases hn; done)
      case alloc t =>
        split
        · exact newO_grows _ _
        · rename_i hg; simp [hg, R.fail] at hok
      case box t x => exact newO_grows _ _
      case buildSlice t len ps =>
        split
        · rename_i hg; rw [hg] at hok; exact buildSliceO_grows rfl hok
        · rename_i hg; rw [hg] at hok; simp at hok
      case convert s t x => exact convO_grows rfl hok
      case makeSlice t x y => exact makeSliceO_grows rfl hok
      case slice t x lo hi mx => exact sliceO_grows rfl hok
      case call c =>
        obtain ⟨callee, args, ats⟩ := c
        cases callee <;> simp only at hok hn ⊢ <;> try (cases hn; done)
        case builtin b =>
          cases b <;> simp only at hok hn ⊢ <;> try (cases hn; done)
          obtain ⟨al⟩ := args
          match al, hn, hok with
          | s :: r, hn, hok =>
            have hs : S.ev C.gl s = .nils := ev_nilS hn
            dsimp only [List.map] at hok ⊢
            rw [hs] at hok ⊢
            unfold builtinO at hok ⊢
            dsimp only at hok ⊢
            split at hok
            · rename_i s' x' t' tx' e1 e2
              simp only [List.cons.injEq] at e1
              obtain ⟨e1, e3⟩ := e1
              subst e1
              split at hok
              · exact appendZO_nil_grows rfl hok
              · exact appendO_nil_grows rfl hok
            · simp at hok
    · cases h
  · simp only [Option.some.injEq] at h
    subst h; exact Grows.refl _

theorem loadO_heap {A : Ar} {τ : Types} {t : TypeId} {x : SV} {h h' : List Blk} (hok : (loadO A τ t x h).ok = true) (hb : ∀ id p, ptrOf x = some (id, p) → (blkAt h id).live = true → (blkAt h' id).c = (blkAt h id).c ∧ (blkAt h' id).live = true) :
    (loadO A τ t x h').ok = true ∧ (loadO A τ t x h').v = (loadO A τ t x h).v ∧ (loadO A τ t x h').h = h' := by
  unfold loadO at hok ⊢
  cases h1 : τ t with
  | none => rw [h1] at hok; simp at hok
  | some i =>
    cases h2 : ptrOf x with
    | none => rw [h1, h2] at hok; simp at hok
    | some q =>
      obtain ⟨id, p⟩ := q
      rw [h1, h2] at hok
      dsimp only at hok ⊢
      have hlive : (blkAt h id).live = true := by
        split at hok <;> simp only [Bool.and_eq_true] at hok <;> exact hok.1
      obtain ⟨hbc, hbl⟩ := hb id p h2 hlive
      rw [hbc, hbl]
      rw [hlive] at hok ⊢
      split
      · rename_i hag
        rw [hag] at hok
        exact ⟨hok, rfl, rfl⟩
      · rename_i hag
        rw [hag] at hok
        exact ⟨hok, rfl, rfl⟩

theorem eff_load_heap {C : Cx} {ops : List Oper} {o : Oper} {t : List (Nat × SV)} {h : List Blk} {g : Bool} {p : SV × List Blk} (he : eff C ops o ⟨t, h, g⟩ = some p) {ty : TypeId} {x : Operand} (hl : o.op = .load ty x) {h' : List Blk}
    (hb : ∀ id q, ptrOf (St.ev ⟨t, h, g⟩ C.gl x) = some (id, q) → (blkAt h id).live = true → (blkAt h' id).c = (blkAt h id).c ∧ (blkAt h' id).live = true) : eff C ops o ⟨t, h', g⟩ = some (p.1, h') := by
  have hw : wantA ops o ⟨t, h', g⟩ = wantA ops o ⟨t, h, g⟩ := wantA_sq fun _ => rfl
  unfold eff at he ⊢
  rw [hw]
  split at he
  · cases he
  · split at he
    · rename_i hok
      simp only [Option.some.injEq] at he
      subst he
      have e1 : aexec C o ⟨t, h, g⟩ = loadO C.A C.τ ty (St.ev ⟨t, h, g⟩ C.gl x) h := by unfold aexec; simp only [hl]
      have e2 : aexec C o ⟨t, h', g⟩ = loadO C.A C.τ ty (St.ev ⟨t, h, g⟩ C.gl x) h' := by
        have : St.ev ⟨t, h', g⟩ C.gl x = St.ev ⟨t, h, g⟩ C.gl x := by cases x <;> rfl
        unfold aexec; simp only [hl, this]
      rw [e1] at hok
      obtain ⟨k1, k2, k3⟩ := loadO_heap hok hb
      simp only [e1, e2, k1, k2, k3, if_true]
    · cases he
  · simp only [Option.some.injEq] at he
    subst he; rfl

theorem eff_store {C : Cx} {ops : List Oper} {o : Oper} {S : St} {p : SV × List Blk} (h : eff C ops o S = some p) {ty : TypeId} {x y : Operand} (hs : o.op = .store ty x y) {b : Nat} {ob : Pos} (hx : ptrOf (S.ev C.gl x) = some (b, ob)) :
    ∀ a, a ≠ b → blkAt p.2 a = blkAt S.h a := by
  intro a hab
  unfold eff at h
  split at h
  · cases h
  · split at h
    · rename_i hok
      simp only [Option.some.injEq] at h
      subst h
      have e1 : aexec C o S = storeO C.A C.τ ty (S.ev C.gl x) (S.ev C.gl y) S.h := by unfold aexec; simp only [hs]
      rw [e1] at hok ⊢
      unfold storeO at hok ⊢
      rw [hx] at hok ⊢
      cases h1 : C.τ ty with
      | none => rw [h1] at hok; simp at hok
      | some i =>
        dsimp only
        simp only [blkAt, List.getD_eq_getElem?_getD]
        rw [List.getElem?_set_ne (Ne.symm hab)]
    · cases h
  · simp only [Option.some.injEq] at h
    subst h; rfl

theorem newO_len (l : List SV) (h : List Blk) : h.length ≤ (newO l h).h.length := by simp [newO]

theorem storeO_len {A : Ar} {τ : Types} {t : TypeId} {x y : SV} {h : List Blk} {r : R} (hr : storeO A τ t x y h = r) : r.ok = true → h.length ≤ r.h.length := by
  unfold storeO at hr
  split at hr <;> subst hr <;> intro hok <;> first | (simp at hok; done) | simp

theorem buildSliceO_len {τ : Types} {t : TypeId} {len : Nat} {ps : List (Nat × SV)} {h : List Blk} {r : R} (hr : buildSliceO τ t len ps h = r) : r.ok = true → h.length ≤ r.h.length := by
  unfold buildSliceO at hr
  split at hr <;> subst hr <;> intro hok <;> first | (simp at hok; done) | simp

theorem makeSliceO_len {A : Ar} {τ : Types} {t : TypeId} {x y : SV} {h : List Blk} {r : R} (hr : makeSliceO A τ t x y h = r) : r.ok = true → h.length ≤ r.h.length := by
  unfold makeSliceO at hr
  split at hr
  · split at hr
    · subst hr; intro hok; simp
    · subst hr; intro hok; simp
    · split at hr <;> subst hr <;> intro hok <;> first | (simp at hok; done) | simp
    · subst hr; intro hok; simp at hok
  · subst hr; intro hok; simp at hok

theorem convO_len {A : Ar} {τ : Types} {t t' : TypeId} {x : SV} {h : List Blk} {r : R} (hr : convO A τ t t' x h = r) : r.ok = true → h.length ≤ r.h.length := by
  unfold convO at hr
  split at hr
  · split at hr <;> subst hr <;> intro hok <;> first | (simp at hok; done) | simp
  · split at hr <;> subst hr <;> intro hok <;> first | (simp at hok; done) | simp
  · split at hr <;> subst hr <;> intro hok <;> first | (simp at hok; done) | simp
  · split at hr
    · subst hr; intro hok; simp
    · split at hr
      · subst hr; intro hok; simp at hok
      · split at hr <;> subst hr <;> intro hok <;> first | (simp at hok; done) | simp
  · subst hr; intro hok; simp at hok

theorem pieceO_len {A : Ar} {id off es : Nat} {len : Nm} {lo hi : Option (Bool × Nm)} {h : List Blk} : h.length ≤ (pieceO A id off es len lo hi h).h.length := by
  unfold pieceO; simp

theorem sliceO1_len {A : Ar} {τ : Types} {t : TypeId} {x : SV} {lo hi mx : Option (Bool × Nm)} {h : List Blk} {r : R} (hr : sliceO1 A τ t x lo hi mx h = r) : r.ok = true → h.length ≤ r.h.length := by
  unfold sliceO1 at hr
  split at hr
  · split at hr <;> subst hr <;> intro hok <;> first | (simp at hok; done) | simp
  · split at hr <;> subst hr <;> intro hok <;> first | (simp at hok; done) | simp [Rof]
  · split at hr
    · subst hr; intro hok; simp at hok
    · split at hr
      · subst hr; intro hok; simp
      · split at hr
        · subst hr; intro hok; simp [Rof]
        · split at hr
          · subst hr; intro _; exact pieceO_len
          · subst hr; intro hok; simp at hok
      · split at hr
        · split at hr
          · subst hr; intro hok; simp
          · subst hr; intro _; exact pieceO_len
        · split at hr <;> subst hr <;> intro hok <;> first | (simp at hok; done) | simp
      · subst hr; intro hok; simp at hok
  · subst hr; intro hok; simp at hok

theorem sliceO_len {A : Ar} {τ : Types} {t : TypeId} {x : SV} {lo hi mx : Option (Option (Bool × Nm))} {h : List Blk} {r : R} (hr : sliceO A τ t x lo hi mx h = r) : r.ok = true → h.length ≤ r.h.length := by
  unfold sliceO at hr
  split at hr
  · split at hr
    · subst hr; intro hok; simp at hok
    · exact sliceO1_len hr
  · subst hr; intro hok; simp at hok

theorem grown_len {A : Ar} {i : TI} {ok : Bool} {len n : Nm} {c d : Cs} {h h' : List Blk} {k : BK} (hl : h'.length = h.length) {r : R} (hr : grown A i ok len c n d h' k = r) : r.ok = true → h.length ≤ r.h.length := by
  unfold grown at hr
  split at hr <;> subst hr <;> intro hok <;> first | (simp at hok; done) | (simp [hl])

theorem appendO_len {A : Ar} {τ : Types} {t tx : TypeId} {x y : SV} {h : List Blk} {r : R} (hr : appendO A τ t tx x y h = r) : r.ok = true → h.length ≤ r.h.length := by
  have bad : ∀ {r : R}, R.fail = r → r.ok = true → h.length ≤ r.h.length := fun e hok => by subst e; simp at hok
  unfold appendO at hr
  split at hr
  · exact bad hr
  · split at hr
    · exact bad hr
    · split at hr
      · exact grown_len rfl hr
      · split at hr
        · exact bad hr
        · split at hr
          · exact grown_len (by simp) hr
          · exact grown_len rfl hr
          · exact bad hr
      · split at hr
        · split at hr
          · subst hr; intro _; simp
          · exact bad hr
        · split at hr
          split at hr
          · exact grown_len rfl hr
          · split at hr
            · exact grown_len (by simp) hr
            · split at hr
              · exact grown_len (by simp) hr
              · exact bad hr
      · exact bad hr

theorem copyO_len {A : Ar} {τ : Types} {t tx : TypeId} {x y : SV} {h : List Blk} {r : R} (hr : copyO A τ t tx x y h = r) : r.ok = true → h.length ≤ r.h.length := by
  have bad : ∀ {r : R}, R.fail = r → r.ok = true → h.length ≤ r.h.length := fun e hok => by subst e; simp at hok
  unfold copyO at hr
  split at hr
  · exact bad hr
  · split at hr
    · split at hr
      · subst hr; intro _; simp
      · exact bad hr
    · exact bad hr

theorem clearO_len {A : Ar} {τ : Types} {t : TypeId} {x : SV} {h : List Blk} {r : R} (hr : clearO A τ t x h = r) : r.ok = true → h.length ≤ r.h.length := by
  have bad : ∀ {r : R}, R.fail = r → r.ok = true → h.length ≤ r.h.length := fun e hok => by subst e; simp at hok
  unfold clearO at hr
  split at hr
  · exact bad hr
  · split at hr
    · subst hr; intro _; simp
    · split at hr
      · exact bad hr
      · split at hr
        · subst hr; intro _; simp
        · exact bad hr
    · exact bad hr

theorem callO_len {ng : Nat} {Γ : Cons} {Δ : HCons} {q : List Nat} {x : Operand} {f : SV} {args : List SV} {h : List Blk} {r : R} (hr : callO ng Γ Δ q x f args h = r) : r.ok = true → h.length ≤ r.h.length := by
  have bad : ∀ {r : R}, R.fail = r → r.ok = true → h.length ≤ r.h.length := fun e hok => by subst e; simp at hok
  unfold callO at hr
  split at hr
  · split at hr
    · split at hr
      · subst hr; intro _; simp
      · exact bad hr
    · exact bad hr
  · split at hr
    · split at hr
      · split at hr
        · subst hr; intro _; exact Nat.le_refl _
        · unfold callH at hr
          split at hr
          · exact bad hr
          · dsimp only at hr
            subst hr; intro _; simp [putCh_length]
      · exact bad hr
    · exact bad hr

theorem builtinO_len {A : Ar} {τ : Types} {b : Builtin} {args : List SV} {ats : List TypeId} {h : List Blk} {r : R} (hr : builtinO A τ b args ats h = r) : r.ok = true → h.length ≤ r.h.length := by
  have bad : ∀ {r : R}, R.fail = r → r.ok = true → h.length ≤ r.h.length := fun e hok => by subst e; simp at hok
  unfold builtinO at hr
  cases b <;> dsimp only at hr <;> first | exact bad hr | skip
  all_goals split at hr <;> first | exact bad hr | (split at hr <;> first | exact appendZO_len hr | exact appendO_len hr) | exact copyO_len hr | exact clearO_len hr | (subst hr; intro _; simp [Rof])

theorem eff_len {C : Cx} {ops : List Oper} {o : Oper} {S : St} {p : SV × List Blk} (h : eff C ops o S = some p) : S.h.length ≤ p.2.length := by
  cases ht : turns C o with
  | false => rw [eff_noturn h ht]; exact Nat.le_refl _
  | true =>
    unfold eff at h
    split at h
    · cases h
    · split at h
      · rename_i hok
        simp only [Option.some.injEq] at h
        subst h
        unfold turns at ht
        unfold aexec at hok ⊢
        cases ho : o.op <;> simp only [ho] at ht hok ⊢ <;> try (first | (cases ht; done) | (simp at hok; done))
        case alloc t =>
          split
          · exact newO_len _ _
          · rename_i hn; rw [hn] at hok; simp at hok
        case box t x => exact newO_len _ _
        case buildSlice t len ps =>
          split
          · rename_i hg; rw [hg] at hok; exact buildSliceO_len rfl hok
          · rename_i hg; rw [hg] at hok; simp at hok
        case store t x y => exact storeO_len rfl hok
        case convert s t x => exact convO_len rfl hok
        case makeSlice t x y => exact makeSliceO_len rfl hok
        case slice t x lo hi mx => exact sliceO_len rfl hok
        case call c =>
          obtain ⟨callee, args, ats⟩ := c
          cases callee <;> simp only at hok ht ⊢ <;> try (simp at hok; done)
          case value f =>
            split
            · rename_i hg; rw [hg] at hok; exact callO_len rfl hok
            · rename_i hg; rw [hg] at hok; simp at hok
          case builtin b => exact builtinO_len rfl hok
      · cases h
    · simp only [Option.some.injEq] at h
      subst h; exact Nat.le_refl _

theorem eff_new_ptr {C : Cx} {ops : List Oper} {o : Oper} {S : St} {p : SV × List Blk} (h : eff C ops o S = some p) (hn : isNew o = true) (hg : o.guard = none) : p.1 = .ptr S.h.length 0 := by
  unfold eff at h
  have hw : wantA ops o S = some true := by unfold wantA; rw [hg]
  rw [hw] at h
  simp only at h
  split at h
  · rename_i hok
    simp only [Option.some.injEq] at h
    subst h
    unfold isNew at hn
    unfold aexec at hok ⊢
    cases ho : o.op <;> simp only [ho] at hn hok ⊢ <;> try (cases hn; done)
    · split
      · rfl
      · rename_i hg'; simp [hg', R.fail] at hok
    · rfl
  · cases h

theorem diamondX {C : Cx} {ops : Array Oper} {j : Nat} {oi oj : Oper} {listed : Array Bool} {S Si Sij : St} (hap : Apart C ops listed S oi j oj) (hnk : ∀ k, Reach ops j k → listed.getD k true = true)
    (h1 : stepO C ops.toList oi S = some Si) (h2 : stepO C ops.toList oj Si = some Sij) :
    ∃ Sj Sji, stepO C ops.toList oj S = some Sj ∧ stepO C ops.toList oi Sj = some Sji ∧ Sq Sij Sji := by
  have swapAll : ∀ (hh : oi.apart ops oj = true) {t : List (Nat × SV)} {h : List Blk} {g : Bool} {vi vj : SV} {hij : List Blk}, S = ⟨t, h, g⟩ → eff C ops.toList oi ⟨t, h, g⟩ = some (vi, h) → eff C ops.toList oj ⟨t, h, g⟩ = some (vj, hij) →
      eff C ops.toList oi ⟨t, hij, g⟩ = some (vi, hij) → Sij = ⟨putO (putO t oi.dst vi) oj.dst vj, hij, g⟩ → ∃ Sj Sji, stepO C ops.toList oj S = some Sj ∧ stepO C ops.toList oi Sj = some Sji ∧ Sq Sij Sji := by
    intro hh t h g vi vj hij e0 e1 e2 e3 e4
    subst e0; subst e4
    obtain ⟨a1, a2, a3⟩ := Oper.apart_spec hh
    refine ⟨⟨putO t oj.dst vj, hij, g⟩, ⟨putO (putO t oj.dst vj) oi.dst vi, hij, g⟩, by unfold stepO; rw [e2]; rfl, by unfold stepO; rw [eff_put (g' := g) a3, e3]; rfl, ⟨fun k => ?_, rfl, rfl⟩⟩
    simp only [look_putO]
    by_cases f1 : oj.dst = some k
    · by_cases f2 : oi.dst = some k
      · exact absurd f1 (a2 k f2)
      · rw [if_pos f1, if_neg f2, if_pos f1]
    · rw [if_neg f1, if_neg f1]
  rcases hap with hap | ⟨_, _, _, _, _, k, _, _, _, _, _, _, hkun, _, _, _, hrk, _⟩ | ⟨ty, q, ty', p, v, hl, hs, hap, hq, hp, a, oa, b, ob, ea, eb, hab⟩
  rotate_left
  · rw [hnk k hrk] at hkun; cases hkun
  rotate_left
  · simp only [apartB, Bool.and_eq_true, Bool.or_eq_true] at hap
    obtain ⟨hap, hw1, hw2 | ⟨hil, hin⟩⟩ := hap
    · exact diamond (by simp only [apartA, Bool.and_eq_true]; exact ⟨hap, hw1, hw2⟩) h1 h2
    · obtain ⟨a1, a2, a3⟩ := Oper.apart_spec hap
      obtain ⟨t, h, g⟩ := S
      obtain ⟨ty, x, hl⟩ : ∃ ty x, oi.op = .load ty x := by
        unfold isLoad at hil
        cases ho : oi.op <;> simp only [ho] at hil <;> try (cases hil; done)
        exact ⟨_, _, rfl⟩
      have h1' := h1
      unfold stepO at h1' h2
      simp only [Option.map_eq_some_iff] at h1'
      obtain ⟨⟨vi, hi⟩, e1, rfl⟩ := h1'
      simp only [Option.map_eq_some_iff] at h2
      obtain ⟨⟨vj, hij⟩, e2, rfl⟩ := h2
      have h0 : hi = h := eff_noturn e1 (by unfold turns; rw [hl])
      subst h0
      rw [eff_put (g' := g) a1] at e2
      have hgr := eff_grow e2 hin
      exact swapAll hap rfl e1 e2 (eff_load_heap e1 hl fun id _ _ hlive => hgr id hlive) rfl
  · obtain ⟨a1, a2, a3⟩ := Oper.apart_spec hap
    obtain ⟨t, h, g⟩ := S
    have h1' := h1
    unfold stepO at h1' h2
    simp only [Option.map_eq_some_iff] at h1'
    obtain ⟨⟨vi, hi⟩, e1, rfl⟩ := h1'
    simp only [Option.map_eq_some_iff] at h2
    obtain ⟨⟨vj, hij⟩, e2, rfl⟩ := h2
    have h0 : hi = h := eff_noturn e1 (by unfold turns; rw [hl])
    subst h0
    rw [eff_put (g' := g) a1] at e2
    have e3 := eff_store e2 hs (b := b) (ob := ob) eb
    refine swapAll hap rfl e1 e2 (eff_load_heap e1 hl fun id off hx hlive => ?_) rfl
    have hx' : some (a, oa) = some (id, off) := by rw [← ea]; exact hx
    simp only [Option.some.injEq, Prod.mk.injEq] at hx'
    have : blkAt hij id = blkAt hi id := e3 id (by rw [← hx'.1]; exact hab)
    rw [this]
    exact ⟨rfl, hlive⟩

theorem Apart.step {C : Cx} {ops : Array Oper} {listed : Array Bool} {S S' : St} {x y : Oper} {i : Nat} (h : Apart C ops listed S x i y) {j : Nat} {oj : Oper} (hoj : ops[j]? = some oj) (hjun : listed.getD j true = false)
    (hs : stepO C ops.toList oj S = some S') : Apart C ops (listed.setIfInBounds j true) S' x i y := by
  have keep : ∀ k, Unwritten ops listed k → look S'.t k = look S.t k := fun k hk => by
    unfold stepO at hs
    simp only [Option.map_eq_some_iff] at hs
    obtain ⟨r, _, rfl⟩ := hs
    simp only [look_putO]
    rw [if_neg (hk j oj hoj hjun)]
  have un1 : ∀ m, (listed.setIfInBounds j true).getD m true = false → listed.getD m true = false := fun m hun => by
    by_cases hjm : j = m
    · subst hjm; exact hjun
    · rw [getD_set_ne true hjm] at hun; exact hun
  have un : ∀ k, Unwritten ops listed k → Unwritten ops (listed.setIfInBounds j true) k := fun k hk m om hm hun => hk m om hm (un1 m hun)
  rcases h with h | ⟨t, q, t', p, v, k, ok, hl, hst, hap, hq, hok, hkun, hnew, hgu, hdst, hrk, hoth, a, oa, ea, hlt⟩ | ⟨ty, q, ty', p, v, hl, hst, hap, hq, hp, a, oa, b, ob, ea, eb, hab⟩
  · exact .inl h
  · have hlen : S.h.length ≤ S'.h.length := by
      unfold stepO at hs
      simp only [Option.map_eq_some_iff] at hs
      obtain ⟨r, hr, rfl⟩ := hs
      exact eff_len hr
    by_cases hjk : j = k
    · subst hjk
      rw [hoj] at hok; obtain rfl := Option.some.inj hok
      have hun : Unwritten ops (listed.setIfInBounds j true) p := fun m om hm hmu => by
        have hne : m ≠ j := fun e => by
          subst e
          rcases Nat.lt_or_ge m listed.size with h' | h'
          · simp [h'] at hmu
          · simp [h'] at hmu
        exact hoth m om hm (un1 m hmu) hne
      refine .inr (.inr ⟨t, q, t', p, v, hl, hst, hap, un q hq, hun, a, oa, S.h.length, .at_ 0, by rw [keep q hq]; exact ea, ?_, Nat.ne_of_lt hlt⟩)
      unfold stepO at hs
      simp only [Option.map_eq_some_iff] at hs
      obtain ⟨r, hr, rfl⟩ := hs
      simp only [look_putO, hdst, if_true]
      rw [eff_new_ptr hr hnew hgu]; rfl
    · exact .inr (.inl ⟨t, q, t', p, v, k, ok, hl, hst, hap, un q hq, hok, by rw [getD_set_ne true hjk]; exact hkun, hnew, hgu, hdst, hrk, fun m om hm hmu => hoth m om hm (un1 m hmu), a, oa, by rw [keep q hq]; exact ea, by omega⟩)
  · exact .inr (.inr ⟨ty, q, ty', p, v, hl, hst, hap, un q hq, un p hp, a, oa, b, ob, by rw [keep q hq]; exact ea, by rw [keep p hp]; exact eb, hab⟩)

theorem absAny_first {C : Cx} {ops : Array Oper} {K : St → Prop} (hK : ∀ S S', Sq S S' → K S → K S') {i : Nat} {oi : Oper} (hi : ops[i]? = some oi) :
    ∀ (fuel : Nat) (listed : Array Bool) (S Si : St), Closed ops listed →
      (∀ (j : Nat) (oj : Oper), ops[j]? = some oj → j ≠ i → listed.getD j true = false → ¬ Reach ops j i → Apart C ops listed S oi j oj) →
      i ∈ Region.ready .any ops listed → stepO C ops.toList oi S = some Si →
      absAny C ops K fuel (listed.setIfInBounds i true) Si → absAny C ops K (fuel + 1) listed S := by
  intro fuel
  induction fuel with
  | zero =>
    intro listed S Si _ _ hr hs H
    refine ⟨fun h => (by rw [h] at hr; cases hr), fun j hj => ?_⟩
    by_cases hji : j = i
    · subst hji; exact ⟨oi, Si, hi, hs, H⟩
    · have := ready_mono hj hji
      rw [H.1] at this
      cases this
  | succ fuel ih =>
    intro listed S Si hcl hfree hr hs H
    refine ⟨fun h => (by rw [h] at hr; cases hr), fun j hj => ?_⟩
    by_cases hji : j = i
    · subst hji; exact ⟨oi, Si, hi, hs, H⟩
    · obtain ⟨oj, Sij, hoj, hsj, Hj⟩ := H.2 j (ready_mono hj hji)
      obtain ⟨oj', hoj', hjun, hall⟩ := ready_out hj
      have : oj' = oj := by rw [hoj] at hoj'; exact (Option.some.inj hoj').symm
      subst this
      obtain ⟨_, _, hiun, _⟩ := ready_out hr
      have hnot : ¬ Reach ops j i := fun r => by
        have := hcl.ready hj r
        rw [hiun] at this; cases this
      obtain ⟨Sj, Sji, g1, g2, gq⟩ := diamondX (hfree j oj' hoj hji hjun hnot) (fun k hk => hcl.ready hj hk) hs hsj
      refine ⟨oj', Sj, hoj, g1, ih (listed.setIfInBounds j true) Sj Sji (hcl.set hj) (fun k ok hk hki hun hno => ?_) (ready_mono hr (Ne.symm hji)) g2 ?_⟩
      · have hun' : listed.getD k true = false := by
          by_cases hjk : j = k
          · subst hjk; exact hjun
          · rw [getD_set_ne true hjk] at hun; exact hun
        exact (hfree k ok hk hki hun' hno).step hoj hjun g1
      · rw [Array.setIfInBounds_comm _ _ hji]
        exact absAny_sq hK _ _ _ _ gq Hj

/-- Does no operation that has not come up write the slot? -/
def unwritten (ops : Array Oper) (listed : Array Bool) (q : Nat) : Bool :=
  (List.range ops.size).all fun m => listed.getD m true || (match ops[m]? with
    | none => true
    | some om => (match om.dst with
      | none => true
      | some d => !(Nat.beq d q)))

def pairOk (C : Cx) (ops : Array Oper) (listed : Array Bool) (prs : List (Nat × Nat)) (x y : Oper) : Bool :=
  match x.op, y.op with
  | .load _ (.tmp q), .store _ (.tmp p) _ => prs.any (fun r => Nat.beq r.1 q && Nat.beq r.2 p) && (x.apart ops y && (unwritten ops listed q && unwritten ops listed p))
  | _, _ => false

def isDst (o : Oper) (p : Nat) : Bool := match o.dst with
  | some d => Nat.beq d p
  | none => false

theorem isDst_iff {o : Oper} {p : Nat} : isDst o p = true ↔ o.dst = some p := by
  unfold isDst
  split
  · rename_i d h; rw [h]; simp
  · rename_i h; rw [h]; simp

def isFresh (ops : Array Oper) (listed : Array Bool) (p k : Nat) : Bool := match ops[k]? with
  | none => false
  | some ok => isNew ok && (ok.guard.isNone && (isDst ok p && (List.range ops.size).all fun m => Nat.beq m k || (listed.getD m true || (match ops[m]? with
    | none => true
    | some om => !isDst om p))))

def freshOk (C : Cx) (ops : Array Oper) (an : List Nat) (listed : Array Bool) (x : Oper) (j : Nat) (y : Oper) : Bool :=
  match x.op, y.op, x.guard with
  | .load _ (.tmp q), .store _ (.tmp p) _, none => x.apart ops y && (unwritten ops listed q && (List.range ops.size).any fun k => (!listed.getD k true) && ((an.getD j 0).testBit k && isFresh ops listed p k))
  | _, _, _ => false

/-- May operation k be taken first: every other one that has not come up waits for it or is apart from it. -/
def freeA (C : Cx) (ops : Array Oper) (an : List Nat) (prs : List (Nat × Nat)) (listed : Array Bool) (k : Nat) : Bool :=
  match ops[k]? with
  | none => false
  | some ok => (List.range ops.size).all fun j => Nat.beq j k || (listed.getD j true || (match ops[j]? with
    | none => true
    | some oj => (an.getD j 0).testBit k || (apartB C ops ok oj || (freshOk C ops an listed ok j oj || pairOk C ops listed prs ok oj))))

def lexA (C : Cx) (ops : Array Oper) (an : List Nat) (prs : List (Nat × Nat)) : Nat → Nat → Array Bool → Bool
  | 0, _, listed => (Region.ready .any ops listed).isEmpty
  | fuel + 1, k, listed => (Region.ready .any ops listed).contains k && (freeA C ops an prs listed k && lexA C ops an prs fuel (k + 1) (listed.setIfInBounds k true))

theorem unwritten_spec {ops : Array Oper} {listed : Array Bool} {q : Nat} (h : unwritten ops listed q = true) : Unwritten ops listed q := by
  intro m om hm hun e
  have := List.all_eq_true.1 h m (List.mem_range.2 (Array.getElem?_eq_some_iff.1 hm).1)
  rw [hun, hm] at this
  simp [e] at this

theorem dynOk_spec {S : St} : ∀ {l : List (Nat × Nat)}, dynOk l S = true → ∀ r ∈ l, ∃ a oa b ob, ptrOf (look S.t r.1) = some (a, oa) ∧ ptrOf (look S.t r.2) = some (b, ob) ∧ a ≠ b
  | [], _, r, hr => by cases hr
  | (q, p) :: l, h, r, hr => by
    simp only [dynOk] at h
    split at h
    · rename_i a oa b ob ea eb
      split at h
      · cases h
      · rename_i hab
        rcases List.mem_cons.1 hr with rfl | hr
        · exact ⟨a, oa, b, ob, ea, eb, Nat.ne_of_beq_eq_false hab⟩
        · exact dynOk_spec h r hr
    · cases h

theorem freeA_spec {C : Cx} {ops : Array Oper} {prs : List (Nat × Nat)} {k : Nat} {ok : Oper} {listed : Array Bool} {S : St} (hk : ops[k]? = some ok) (h : freeA C ops (ancs ops.toList) prs listed k = true)
    (hx : ∀ t q, ok.op = .load t (.tmp q) → ok.guard = none → ∃ a oa, ptrOf (look S.t q) = some (a, oa) ∧ a < S.h.length)
    (hd : ∀ r ∈ prs, Unwritten ops listed r.1 → Unwritten ops listed r.2 → ∃ a oa b ob, ptrOf (look S.t r.1) = some (a, oa) ∧ ptrOf (look S.t r.2) = some (b, ob) ∧ a ≠ b) (j : Nat) (oj : Oper) (hj : ops[j]? = some oj) (hne : j ≠ k)
    (hun : listed.getD j true = false) (hno : ¬ Reach ops j k) : Apart C ops listed S ok j oj := by
  unfold freeA at h
  rw [hk] at h
  have := List.all_eq_true.1 h j (List.mem_range.2 (Array.getElem?_eq_some_iff.1 hj).1)
  rw [hj, hun] at this
  simp only [Bool.or_eq_true, Nat.beq_eq, hne, Bool.false_eq_true, false_or] at this
  rcases this with h1 | h1 | h1 | h1
  · exact absurd (ancs_spec h1) hno
  · exact .inl h1
  · unfold freshOk at h1
    split at h1
    · rename_i t q t' p v e1 e2 e3
      simp only [Bool.and_eq_true] at h1
      obtain ⟨h2, h3, h4⟩ := h1
      obtain ⟨m, _, h5⟩ := List.any_eq_true.1 h4
      simp only [Bool.and_eq_true, Bool.not_eq_true'] at h5
      obtain ⟨h6, h7, h8⟩ := h5
      unfold isFresh at h8
      split at h8
      · cases h8
      · rename_i om hom
        simp only [Bool.and_eq_true] at h8
        obtain ⟨h9, h10, h11, h12⟩ := h8
        obtain ⟨a, oa, ea, hlt⟩ := hx t q e1 e3
        refine .inr (.inl ⟨t, q, t', p, v, m, om, e1, e2, h2, unwritten_spec h3, hom, h6, h9, by simpa using h10, isDst_iff.1 h11, ancs_spec h7, fun m' om' hm' hmu hne e => ?_, a, oa, ea, hlt⟩)
        have := List.all_eq_true.1 h12 m' (List.mem_range.2 (Array.getElem?_eq_some_iff.1 hm').1)
        simp [hmu, hm', isDst_iff.2 e, hne] at this
    · cases h1
  · unfold pairOk at h1
    split at h1
    · rename_i t q t' p v e1 e2
      simp only [Bool.and_eq_true] at h1
      obtain ⟨h2, h3, h4, h5⟩ := h1
      obtain ⟨r, hr, hb⟩ := List.any_eq_true.1 h2
      simp only [Bool.and_eq_true, Nat.beq_eq] at hb
      obtain ⟨rfl, rfl⟩ := hb
      exact .inr (.inr ⟨t, r.1, t', r.2, v, e1, e2, h3, unwritten_spec h4, unwritten_spec h5, hd r hr (unwritten_spec h4) (unwritten_spec h5)⟩)
    · cases h1

theorem trun_keep {C : Cx} {ops : List Oper} {q : Nat} : ∀ (l : List Oper) (S S' : St), (∀ o ∈ l, o.dst ≠ some q) → trun C ops l S = some S' → look S'.t q = look S.t q
  | [], S, S', _, h => by
    simp only [trun, Option.some.injEq] at h
    rw [h]
  | o :: l, S, S', hl, h => by
    simp only [trun, Option.bind_eq_some_iff] at h
    obtain ⟨S1, h1, h2⟩ := h
    rw [trun_keep l S1 S' (fun x hx => hl x (List.mem_cons_of_mem _ hx)) h2]
    unfold stepO at h1
    simp only [Option.map_eq_some_iff] at h1
    obtain ⟨r, _, rfl⟩ := h1
    simp only [look_putO]
    rw [if_neg (hl o List.mem_cons_self)]

theorem absAny_lex {C : Cx} {ops : Array Oper} {prs : List (Nat × Nat)} {K : St → Prop} (hK : ∀ S S', Sq S S' → K S → K S') : ∀ (l : List Oper) (k : Nat) (listed : Array Bool) (S S' : St), (∀ j, l[j]? = ops[k + j]?) →
    (∀ j, j < ops.size → k ≤ j → listed.getD j true = false) → Closed ops listed → dynOk prs S' = true →
    lexA C ops (ancs ops.toList) prs l.length k listed = true → trun C ops.toList l S = some S' → K S' → absAny C ops K l.length listed S
  | [], k, listed, S, S', hl, _, _, _, hB, h, hk => by
    simp only [trun, Option.some.injEq] at h
    subst h
    exact ⟨by simpa [lexA] using hB, hk⟩
  | o :: l, k, listed, S, S', hl, hli, hcl, hdy, hB, h, hk => by
    have h0 : ops[k]? = some o := by simpa using (hl 0).symm
    simp only [List.length_cons, lexA, Bool.and_eq_true] at hB
    obtain ⟨hr, hf, hB'⟩ := hB
    have h' := h
    simp only [trun, Option.bind_eq_some_iff] at h
    obtain ⟨Sk, hs, h⟩ := h
    have hr' : k ∈ Region.ready .any ops listed := by simpa using hr
    have keep : ∀ q, Unwritten ops listed q → look S'.t q = look S.t q := fun q hq => trun_keep (o :: l) S S' (fun x hx => by
      obtain ⟨j, hj, rfl⟩ := List.mem_iff_getElem.1 hx
      have e : ops[k + j]? = some (o :: l)[j] := by rw [← hl j, List.getElem?_eq_getElem hj]
      exact hq (k + j) _ e (hli _ (Array.getElem?_eq_some_iff.1 e).1 (by omega))) h'
    refine absAny_first hK h0 l.length listed S Sk hcl (freeA_spec h0 hf (fun t q hop hg => ?_) fun r hr h1 h2 => ?_) hr' hs
      (absAny_lex hK l (k + 1) _ _ _ (fun j => by have := hl (j + 1); simpa [Nat.add_assoc, Nat.add_comm 1 j] using this) (fun j hj hkj => ?_) (hcl.set hr') hdy hB' h hk)
    · unfold stepO at hs
      simp only [Option.map_eq_some_iff] at hs
      obtain ⟨r, hr, _⟩ := hs
      unfold eff at hr
      have hw : wantA ops.toList o S = some true := by unfold wantA; rw [hg]
      rw [hw] at hr
      simp only at hr
      split at hr
      · rename_i hok
        unfold aexec at hok
        simp only [hop] at hok
        unfold loadO at hok
        split at hok
        · rename_i i id off _ e
          refine ⟨id, off, e, ?_⟩
          have hlive : (blkAt S.h id).live = true := by
            split at hok <;> simp only [Bool.and_eq_true] at hok <;> exact hok.1
          rcases Nat.lt_or_ge id S.h.length with h' | h'
          · exact h'
          · unfold blkAt at hlive
            rw [List.getD_eq_getElem?_getD, List.getElem?_eq_none h'] at hlive
            simp [Blk.nil, Blk.live] at hlive
        · simp [R.fail] at hok
      · cases hr
    · obtain ⟨a, oa, b, ob, e1, e2, e3⟩ := dynOk_spec hdy r hr
      exact ⟨a, oa, b, ob, by rw [← keep _ h1]; exact e1, by rw [← keep _ h2]; exact e2, e3⟩
    · rw [getD_set_ne true (by omega)]
      exact hli j hj (by omega)

/-! ### Steps of the two machines -/

def dstOk (n : Nat) (o : Oper) : Bool := match o.dst with
  | some d => Nat.blt d n
  | none => true

theorem dstOk_spec {n : Nat} {o : Oper} (h : dstOk n o = true) (x : Nat) (hx : o.dst = some x) : x < n := by
  unfold dstOk at h
  rw [hx] at h
  exact Nat.lt_of_succ_le (by simpa [Nat.blt] using h)

theorem yielded_want {E : Env} {m : List Pl} {S : St} {a : Act} {w : World} (T : Tie E m S a w) {ops : Array Oper} {o : Oper} {b : Bool} (h : wantA ops.toList o S = some b) :
    Region.wanted o (yielded ops a.tmps) = b := by
  unfold wantA at h
  unfold Region.wanted
  split at h
  · rename_i hg
    rw [hg]
    simpa using h
  · rename_i j want hg
    rw [hg]
    simp only
    split at h
    · rename_i d hd
      rw [Array.getElem?_toList] at hd
      have hy : yielded ops a.tmps j = match a.tmps[d]? with | some (.bool b) => some b | _ => none := by
        unfold yielded
        rw [hd]; rfl
      have ht := T.tmps.slot d
      have hget : ∀ v u, look S.t d = v → v ≠ .bad → v.val m = some u → a.tmps[d]? = some u ∨ u = undef := fun v u e hb hv => by
        rcases ht with ht | ht
        · exact absurd (e.symm.trans ht) hb
        · rw [e, hv] at ht
          have ht := Option.some.inj ht
          rw [Array.getD_eq_getD_getElem?] at ht
          cases hq : a.tmps[d]? with
          | none => rw [hq] at ht; exact .inr ht
          | some x => rw [hq] at ht; exact .inl (by rw [ht]; rfl)
      split at h
      · rename_i c hc
        have := hget _ (.bool c) hc (by simp) rfl
        rcases this with h1 | h1
        · rw [hy, h1]
          cases want <;> cases c <;> simp at h ⊢ <;> exact h
        · simp [undef] at h1
      · rename_i hc
        simp only [Option.some.injEq] at h
        subst h
        have := hget _ undef hc (by simp) (by simp [SV.val, SV.vals, undef])
        rw [hy]
        rcases this with h1 | h1
        · rw [h1]; simp [undef]
        · cases hq : a.tmps[d]? with
          | none => simp
          | some x =>
            rcases ht with ht | ht
            · rw [hc] at ht; cases ht
            · rw [hc] at ht
              simp [SV.val, SV.vals, Array.getD_eq_getD_getElem?, hq] at ht
              rw [← ht]; simp
      · cases h
    · cases h

section two
variable {P : Program} {C : Cx} (G : Good0 P C) {E : Env} (hG : E.G = C.gl)
include G hG

/-- One operation. -/
theorem step_sound {m : List Pl} {S S' : St} {a : Act} {w : World} (T : Tie E m S a w) {ops : Array Oper} {o : Oper} (hd : dstOk E.n o = true) (h : stepO C ops.toList o S = some S')
    {K : Act → World → Prop} {Q : Exit → Act → World → Prop} (hK : ∀ m' a' w', Tie E m' S' a' w' → K a' w') :
    if Region.wanted o (yielded ops a.tmps) then o.wp P a w K Q ∨ (o.asks P a w ∧ LetsOut Q) else K (a.put o.dst undef) w := by
  unfold stepO at h
  simp only [Option.map_eq_some_iff] at h
  obtain ⟨⟨v, h1⟩, he, rfl⟩ := h
  unfold eff at he
  split at he
  · cases he
  · rename_i hw
    rw [yielded_want T hw]
    split at he
    · rename_i hok
      simp only [Option.some.injEq, Prod.mk.injEq] at he
      obtain ⟨rfl, rfl⟩ := he
      refine .inl ?_
      exact aexec_sound G (hG ▸ T.tmps) T.heap o hok K Q fun m' u w' X H hv => hK m' _ _ (T.step X H hv _ (dstOk_spec hd) _)
    · cases he
  · rename_i hw
    rw [yielded_want T hw]
    simp only [Option.some.injEq, Prod.mk.injEq] at he
    obtain ⟨rfl, rfl⟩ := he
    exact hK m _ _ (T.skip o (dstOk_spec hd))

theorem list_sound {ops : Array Oper} {Q : Exit → Act → World → Prop} {S' : St} (hQ : ∀ m a w, Tie E m S' a w → Q .normal a w) : ∀ (l : List Oper) (m : List Pl) (S : St) (a : Act) (w : World), Tie E m S a w →
    l.all (dstOk E.n) = true → trun C ops.toList l S = some S' → wpList P ops Q l a w
  | [], m, S, a, w, T, _, h => by
    simp only [trun, Option.some.injEq] at h
    subst h
    exact hQ _ _ _ T
  | o :: r, m, S, a, w, T, hd, h => by
    simp only [List.all_cons, Bool.and_eq_true] at hd
    simp only [trun, Option.bind_eq_some_iff] at h
    obtain ⟨S1, h1, h2⟩ := h
    exact step_sound G hG T hd.1 h1 fun m' a' w' T' => list_sound hQ r m' S1 a' w' T' hd.2 h2

theorem any_sound {ops : Array Oper} (hd : ops.all (dstOk E.n) = true) {Q : Exit → Act → World → Prop} {K : St → Prop} (hQ : ∀ m S a w, Tie E m S a w → K S → Q .normal a w) : ∀ (fuel : Nat) (listed : Array Bool) (m : List Pl) (S : St) (a : Act) (w : World), Tie E m S a w →
    absAny C ops K fuel listed S → wpAny P .any ops Q fuel listed a w
  | 0, listed, m, S, a, w, T, h => ⟨h.1, hQ _ _ _ _ T h.2⟩
  | fuel + 1, listed, m, S, a, w, T, h => ⟨fun h0 => hQ _ _ _ _ T (h.1 h0), fun i hi => by
    obtain ⟨o, S', ho, hs, H⟩ := h.2 i hi
    unfold wpOp
    rw [ho]
    simp only
    have hdo : dstOk E.n o = true := by
      obtain ⟨hlt, rfl⟩ := Array.getElem?_eq_some_iff.1 ho
      exact Array.all_eq_true.1 hd i hlt
    exact step_sound G hG T hdo hs fun m' a' w' T' => any_sound hd hQ fuel _ m' S' a' w' T' H⟩

theorem region_sound {id : Nat} {ops : Array Oper} {draw : Bool} (hd : ops.all (dstOk E.n) = true) {prs : List (Nat × Nat)} (hdraw : draw = true → lexA C ops (ancs ops.toList) prs ops.size 0 (Array.replicate ops.size false) = true)
    {m : List Pl} {S : St} {a : Act} {w : World} (T : Tie E m S a w) {K : St → Prop} (hg : ∀ T, K T → T.g = true) (h : aops C ops.toList ops.toList S fun T => gdB (dynOk prs T) (K T))
    {Q : Exit → Act → World → Prop} (hQ : ∀ m S a w, Tie E m S a w → K S → Q .normal a w) : (Code.region id ops draw).wp P Q a w := by
  obtain ⟨S', h1, h3⟩ := trun_of_aops (fun T hT => hg T (gdB_iff.1 hT).2) _ _ h
  obtain ⟨hdy, h2⟩ := gdB_iff.1 h3
  cases draw with
  | false =>
    exact wp_region_list (list_sound G hG (fun m a w T' => hQ m S' a w T' h2) _ m S a w T (by rw [Array.all_toList]; exact hd) h1)
  | true =>
    refine wp_region_any G.mixed ?_
    have H := absAny_lex (C := C) (K := fun S => Sq S' S) (fun S S' q k => k.trans q) ops.toList 0 (Array.replicate ops.size false) S S' (by simp) (fun j hj _ => by simp [hj])
      (fun j o hj hl => by have := (Array.getElem?_eq_some_iff.1 hj).1; simp [this] at hl) hdy (by simpa using hdraw rfl) h1 (Sq.refl _)
    rw [Array.length_toList] at H
    have T0 : Tie E m S a { w with drawn := w.drawn + 1 } :=
      ⟨T.size, T.defers, T.tmps, T.heap.drew, T.wr, T.src, T.os, T.tape, T.output, T.grown, T.kept, T.pre⟩
    exact any_sound G hG hd (fun m S a w T' q => hQ m S' a w (T'.sq q.symm) h2) _ _ m S a _ T0 H
end two

/-! ### A state that tells no more than another, its blocks by other numbers -/

/-- Where a block of the one lies in the other: a block; nowhere; a slice's block, of so many elements. -/
inductive RE where
  | id (k : Nat) | nil | sl (k cap : Nat)

def RE.pl (m : List Pl) : RE → Pl
  | .id k => m.getD k nilPl
  | .nil => nilPl
  | .sl k cap => match (m.getD k nilPl).nil with
    | true => nilPl
    | false => ⟨(m.getD k nilPl).blk, (m.getD k nilPl).off, cap, false⟩

def sbI (ρ : List RE) (id id' : Nat) : Bool := match ρ[id]? with
  | some (.id k) => Nat.beq k id'
  | _ => false
def sbS (ρ : List RE) (id id' cap : Nat) : Bool := match ρ[id]? with
  | some (.sl k c) => Nat.beq k id' && Nat.beq c cap
  | _ => false
def sbN (ρ : List RE) (id : Nat) : Bool := match ρ[id]? with
  | some .nil => true
  | _ => false

mutual
/-- By equations alone. -/
def SV.sb (ρ : List RE) : SV → SV → Prop
  | .int k x, u => match u with
    | .int k' y => Nat.beq (kn k) (kn k') = true ∧ x = y
    | .num k' y => Nat.beq (kn k) (kn k') = true ∧ x = y
    | _ => False
  | .num k x, u => match u with
    | .int k' y => Nat.beq (kn k) (kn k') = true ∧ x = y
    | .num k' y => Nat.beq (kn k) (kn k') = true ∧ x = y
    | _ => False
  | .bool x, u => match u with
    | .bool y => x = y
    | _ => False
  | .str x, u => match u with
    | .str y => x = y
    | _ => False
  | .ptr id o, u => match u with
    | .ptr id' o' => sbI ρ id id' = true ∧ o = o'
    | _ => False
  | .elt id j sz o, u => match u with
    | .elt id' j' sz' o' => sbI ρ id id' = true ∧ j = j' ∧ sz = sz' ∧ o = o'
    | _ => False
  | .slice id o l c, u => match u with
    | .slice id' o' l' c' => sbI ρ id id' = true ∧ o = o' ∧ l = l' ∧ c = c'
    | _ => False
  | .row id l, u => match u with
    | .row id' l' => sbI ρ id id' = true ∧ l = l'
    | .nils => sbN ρ id = true ∧ l = 0
    | .slice id' o l' c => (sbS ρ id id' c && Nat.beq o 0) = true ∧ l = l'
    | _ => False
  | .nilp, u => match u with
    | .nilp => True
    | _ => False
  | .nils, u => match u with
    | .nils => True
    | _ => False
  | .fn f cs, u => match u with
    | .fn g ds => Nat.beq f g = true ∧ SV.sbs ρ cs ds
    | _ => False
  | .agg l, u => match u with
    | .agg r => SV.sbs ρ l r
    | _ => False
  | .tup l, u => match u with
    | .tup r => SV.sbs ρ l r
    | _ => False
  | .bad, _ => False
def SV.sbs (ρ : List RE) : List SV → List SV → Prop
  | [], u => match u with
    | [] => True
    | _ => False
  | v :: r, u => match u with
    | w :: s => v.sb ρ w ∧ SV.sbs ρ r s
    | _ => False
end

theorem sbI_pl {ρ : List RE} {id id' : Nat} (h : sbI ρ id id' = true) {m : List Pl} {p : Pl} (hp : m[id']? = some p) : (ρ.map (RE.pl m))[id]? = some p := by
  unfold sbI at h
  split at h
  · rename_i k hk
    have : k = id' := by simpa using h
    subst this
    rw [List.getElem?_map, hk]
    simp [RE.pl, List.getD_eq_getElem?_getD, hp]
  · cases h

mutual
theorem SV.sb_val {ρ : List RE} {m : List Pl} : ∀ (v u : SV) {x : Value}, v.sb ρ u → u.val m = some x → v.val (ρ.map (RE.pl m)) = some x
  | .int k a, u, x, h, hx => by
    cases u <;> simp only [SV.sb] at h <;> obtain ⟨h1, rfl⟩ := h <;> have := kn_eq h1 <;> subst this <;> exact hx
  | .num k a, u, x, h, hx => by
    cases u <;> simp only [SV.sb] at h <;> obtain ⟨h1, rfl⟩ := h <;> have := kn_eq h1 <;> subst this <;> exact hx
  | .bool a, u, x, h, hx => by cases u <;> simp only [SV.sb] at h; subst h; exact hx
  | .str a, u, x, h, hx => by cases u <;> simp only [SV.sb] at h; subst h; exact hx
  | .ptr id o, u, x, h, hx => by
    cases u <;> simp only [SV.sb] at h
    obtain ⟨h1, rfl⟩ := h
    obtain ⟨p, hp, hn, rfl⟩ := v_ptr hx
    simp [SV.val, sbI_pl h1 hp, Pl.ptr, hn]
  | .elt id j sz o, u, x, h, hx => by
    cases u <;> simp only [SV.sb] at h
    obtain ⟨h1, rfl, rfl, rfl⟩ := h
    obtain ⟨p, hp, hn, rfl⟩ := v_elt hx
    simp [SV.val, sbI_pl h1 hp, Pl.ptr, hn]
  | .slice id o l c, u, x, h, hx => by
    cases u <;> simp only [SV.sb] at h
    obtain ⟨h1, rfl, rfl, rfl⟩ := h
    obtain ⟨p, hp, hn, hl, rfl⟩ := v_slice hx
    simp [SV.val, sbI_pl h1 hp, Pl.sl, hn, hl]
  | .row id l, u, x, h, hx => by
    cases u <;> simp only [SV.sb] at h
    · rename_i id' o l' c
      obtain ⟨h1, rfl⟩ := h
      simp only [Bool.and_eq_true] at h1
      obtain ⟨h1, h2⟩ := h1
      have : o = 0 := by simpa using h2
      subst this
      obtain ⟨p, hp, hn, hl, rfl⟩ := v_slice hx
      unfold sbS at h1
      split at h1
      · rename_i k c' hk
        simp only [Bool.and_eq_true] at h1
        have e1 : k = id' := by simpa using h1.1
        have e2 : c' = c := by simpa using h1.2
        subst e1; subst e2
        have hq : (ρ.map (RE.pl m))[id]? = some ⟨p.blk, p.off, c', false⟩ := by
          rw [List.getElem?_map, hk]
          simp [RE.pl, List.getD_eq_getElem?_getD, hp, hn]
        simp [SV.val, hq, Pl.row, hl]
      · cases h1
    · obtain ⟨h1, rfl⟩ := h
      obtain ⟨p, hp, h2⟩ := v_row hx
      simp only [SV.val, sbI_pl h1 hp, Option.bind_some]
      rcases h2 with ⟨hn, hl, rfl⟩ | ⟨hn, h0, rfl⟩
      · simp [Pl.row, hn, hl]
      · simp [Pl.row, hn, h0]
    · obtain ⟨h1, rfl⟩ := h
      have := v_nils hx
      subst this
      unfold sbN at h1
      split at h1
      · rename_i hk
        have hq : (ρ.map (RE.pl m))[id]? = some nilPl := by rw [List.getElem?_map, hk]; rfl
        simp [SV.val, hq, Pl.row, nilPl]
      · cases h1
  | .nilp, u, x, h, hx => by cases u <;> simp only [SV.sb] at h; exact hx
  | .nils, u, x, h, hx => by cases u <;> simp only [SV.sb] at h; exact hx
  | .fn f cs, u, x, h, hx => by
    cases u <;> simp only [SV.sb] at h
    obtain ⟨h1, h2⟩ := h
    have : f = _ := Nat.eq_of_beq_eq_true h1
    subst this
    obtain ⟨vs, hvs, rfl⟩ := v_fn hx
    simp [SV.val, SV.sbs_val cs _ h2 hvs]
  | .agg l, u, x, h, hx => by
    cases u <;> simp only [SV.sb] at h
    obtain ⟨vs, hvs, rfl⟩ := v_agg hx
    simp [SV.val, SV.sbs_val l _ h hvs]
  | .tup l, u, x, h, hx => by
    cases u <;> simp only [SV.sb] at h
    obtain ⟨vs, hvs, rfl⟩ := v_tup hx
    simp [SV.val, SV.sbs_val l _ h hvs]
  | .bad, _, _, h, _ => h.elim
theorem SV.sbs_val {ρ : List RE} {m : List Pl} : ∀ (v u : List SV) {x : List Value}, SV.sbs ρ v u → SV.vals m u = some x → SV.vals (ρ.map (RE.pl m)) v = some x
  | [], u, x, h, hx => by cases u <;> simp only [SV.sbs] at h; exact hx
  | v :: r, u, x, h, hx => by
    cases u <;> simp only [SV.sbs] at h
    obtain ⟨h1, h2⟩ := h
    simp only [SV.vals, Option.bind_eq_some_iff, Option.map_eq_some_iff] at hx ⊢
    obtain ⟨a, ha, b, hb, rfl⟩ := hx
    exact ⟨a, SV.sb_val v _ h1 ha, b, SV.sbs_val r _ h2 hb, rfl⟩
end

def ckeq : List CK → List CK → Bool
  | [], [] => true
  | .int k :: r, .int k' :: s => Nat.beq (kn k) (kn k') && ckeq r s
  | .bool :: r, .bool :: s => ckeq r s
  | .str :: r, .str :: s => ckeq r s
  | _, _ => false

theorem ckeq_eq : ∀ {r s : List CK}, ckeq r s = true → r = s
  | [], [], _ => rfl
  | .int k :: r, .int k' :: s, h => by
    simp only [ckeq, Bool.and_eq_true] at h
    rw [kn_eq h.1, ckeq_eq h.2]
  | .bool :: r, .bool :: s, h => by rw [ckeq_eq (r := r) (s := s) (by simpa [ckeq] using h)]
  | .str :: r, .str :: s, h => by rw [ckeq_eq (r := r) (s := s) (by simpa [ckeq] using h)]
  | [], _ :: _, h => by simp [ckeq] at h
  | _ :: _, [], h => by simp [ckeq] at h
  | .int _ :: _, .bool :: _, h => by simp [ckeq] at h
  | .int _ :: _, .str :: _, h => by simp [ckeq] at h
  | .bool :: _, .int _ :: _, h => by simp [ckeq] at h
  | .bool :: _, .str :: _, h => by simp [ckeq] at h
  | .str :: _, .int _ :: _, h => by simp [ckeq] at h
  | .str :: _, .bool :: _, h => by simp [ckeq] at h

/-- Written-out cells, by a content. -/
def Cs.sbL (ρ : List RE) : Cs → List SV → Prop
  | .lit l, l0 => SV.sbs ρ l0 l
  | .ints k l, l0 => match asInts k l0 with
    | some xs => xs = l
    | none => False
  | .recs ks l, l0 => match chunk ks l0.length l0 with
    | some xs => xs = l
    | none => False
  | .cat n a b, l0 => Nat.ble n l0.length = true ∧ (a.sbL ρ (l0.take n) ∧ b.sbL ρ (l0.drop n))

def Cs.sb (ρ : List RE) : Cs → Cs → Prop
  | .lit l0, c => c.sbL ρ l0
  | .ints k l0, c => match c with
    | .ints k' l => Nat.beq (kn k) (kn k') = true ∧ l0 = l
    | .lit l => (match asInts k l with
      | some xs => l0 = xs
      | none => False)
    | _ => False
  | .recs ks l0, c => match c with
    | .recs ks' l => ckeq ks ks' = true ∧ l0 = l
    | .lit l => (match chunk ks l.length l with
      | some xs => l0 = xs
      | none => False)
    | _ => False
  | .cat n a0 b0, c => match c with
    | .cat n' a b => Nat.beq n n' = true ∧ (a0.sb ρ a ∧ b0.sb ρ b)
    | .lit l => Nat.ble n l.length = true ∧ (a0.sb ρ (.lit (l.take n)) ∧ b0.sb ρ (.lit (l.drop n)))
    | _ => False

/-- What is shown of two contents. -/
structure SbOk (m0 m : List Pl) (c0 c : Cs) : Prop where
  wf : c0.wf
  size : c0.size = c.size
  get : ∀ i, i < c.size → ∀ x, (c.get i).val m = some x → (c0.get i).val m0 = some x

theorem SbOk.ofSame {m0 m : List Pl} {c0 c : Cs} (hw : c0.wf) (hs : c0.size = c.size) (h : ∀ i, i < c.size → (c0.get i).same (c.get i)) (hb : ∀ i v x, i < c.size → v = c0.get i → v.val m = some x → v.val m0 = some x) : SbOk m0 m c0 c :=
  ⟨hw, hs, fun i hi x hx => hb i _ x hi rfl (by rw [h i hi m]; exact hx)⟩

theorem val_free {v : SV} (h : v.idsLt 0 = true) {m m0 : List Pl} {x : Value} (hx : v.val m = some x) : v.val m0 = some x := by
  have h1 := SV.val_take (m := m) v h
  have h2 := SV.val_take (m := m0) v h
  rw [List.take_zero] at h1 h2
  rw [← h2, h1]; exact hx

theorem cellK_free (l : List (List Sc)) (j f : Nat) (x : Option CK) : (cellK l j f x).idsLt 0 = true := by unfold cellK; split <;> rfl

theorem sbs_length {ρ : List RE} : ∀ {l r : List SV}, SV.sbs ρ l r → l.length = r.length
  | [], r, h => by cases r <;> simp only [SV.sbs] at h; rfl
  | v :: l, r, h => by
    cases r <;> simp only [SV.sbs] at h
    simp [sbs_length h.2]

theorem sbs_get {ρ : List RE} : ∀ {l r : List SV}, SV.sbs ρ l r → ∀ i, i < l.length → (l.getD i .bad).sb ρ (r.getD i .bad)
  | [], r, h, i, hi => by simp at hi
  | v :: l, r, h, i, hi => by
    cases r <;> simp only [SV.sbs] at h
    cases i with
    | zero => simpa using h.1
    | succ i => simpa using sbs_get h.2 i (by simpa using hi)

theorem cat_ok {m0 m : List Pl} {n : Nat} {a0 b0 : Cs} {c : Cs} {ca cb : Cs} (hn : ca.size = n) (ha : SbOk m0 m a0 ca) (hb : SbOk m0 m b0 cb) (hs : c.size = n + cb.size) (h1 : ∀ i, i < n → c.get i = ca.get i) (h2 : ∀ i, n ≤ i → i < n + cb.size → c.get i = cb.get (i - n)) :
    SbOk m0 m (.cat n a0 b0) c := by
  refine ⟨⟨by rw [ha.size, hn], ha.wf, hb.wf⟩, by simp only [Cs.size, hb.size, hs], fun i hi x hx => ?_⟩
  simp only [Cs.get]
  by_cases hin : i < n
  · rw [if_pos hin]; rw [h1 i hin] at hx; exact ha.get i (by omega) x hx
  · rw [if_neg hin]; rw [h2 i (by omega) (by omega)] at hx; exact hb.get _ (by omega) x hx

theorem Cs.sbL_ok {ρ : List RE} {m : List Pl} : ∀ {c : Cs} {l0 : List SV}, c.sbL ρ l0 → c.wf → SbOk (ρ.map (RE.pl m)) m (.lit l0) c
  | .lit l, l0, h, _ => by
    have hl := sbs_length (show SV.sbs ρ l0 l from h)
    refine ⟨trivial, hl, fun i hi x hx => ?_⟩
    exact SV.sb_val _ _ (sbs_get h i (by rw [hl]; exact hi)) hx
  | .ints k l, l0, h, _ => by
    simp only [Cs.sbL] at h
    split at h
    · rename_i xs hx
      subst h
      obtain ⟨h1, h2⟩ := asInts_spec hx
      refine SbOk.ofSame trivial h1.symm (fun i hi => ?_) (fun i v x hi hv hx => ?_)
      · intro m'; exact (h2 i (by simp only [Cs.size] at hi; omega) m').symm
      · subst hv
        have h3 := h2 i (by simp only [Cs.size] at hi; omega)
        have e1 : (SV.int k (xs.getD i 0)).val m = some x := (h3 m).trans hx
        rw [show (Cs.lit l0).get i = l0.getD i .bad from rfl, ← h3 (ρ.map (RE.pl m))]
        exact val_free rfl e1
    · exact h.elim
  | .recs ks l, l0, h, _ => by
    simp only [Cs.sbL] at h
    split at h
    · rename_i xs hx
      subst h
      obtain ⟨h1, h2⟩ := chunk_spec hx
      refine SbOk.ofSame trivial h1 (fun i hi => ?_) (fun i v x hi hv hx => ?_)
      · intro m'; exact (h2 i (by simp only [Cs.size] at hi; omega) m').symm
      · subst hv
        have h3 := h2 i (by simp only [Cs.size] at hi; omega)
        rw [show (Cs.lit l0).get i = l0.getD i .bad from rfl, ← h3 (ρ.map (RE.pl m))]
        exact val_free (cellK_free _ _ _ _) ((h3 m).trans hx)
    · exact h.elim
  | .cat n a b, l0, h, hw => by
    obtain ⟨h1, h2, h3⟩ := h
    obtain ⟨w1, w2, w3⟩ := hw
    have h1 : n ≤ l0.length := by simpa using h1
    have ka := Cs.sbL_ok (m := m) h2 w2
    have kb := Cs.sbL_ok (m := m) h3 w3
    have s1 := ka.size
    have s2 := kb.size
    simp only [Cs.size, List.length_take, List.length_drop] at s1 s2
    refine ⟨trivial, by simp only [Cs.size]; omega, fun i hi x hx => ?_⟩
    simp only [Cs.size] at hi
    simp only [Cs.get] at hx ⊢
    by_cases hin : i < n
    · rw [if_pos hin] at hx
      have := ka.get i (by omega) x hx
      simp only [Cs.get, List.getD_eq_getElem?_getD, List.getElem?_take, if_pos hin] at this
      rw [List.getD_eq_getElem?_getD]; exact this
    · rw [if_neg hin] at hx
      have := kb.get (i - n) (by omega) x hx
      simp only [Cs.get, List.getD_eq_getElem?_getD, List.getElem?_drop] at this
      rw [show n + (i - n) = i by omega] at this
      rw [List.getD_eq_getElem?_getD]; exact this

theorem Cs.sb_ok {ρ : List RE} {m : List Pl} : ∀ {c0 c : Cs}, c0.sb ρ c → c.wf → SbOk (ρ.map (RE.pl m)) m c0 c
  | .lit l0, c, h, hw => Cs.sbL_ok h hw
  | .ints k l0, c, h, hw => by
    cases c <;> simp only [Cs.sb] at h
    · split at h
      · rename_i xs hx
        subst h
        obtain ⟨h1, h2⟩ := asInts_spec hx
        refine SbOk.ofSame trivial h1 h2 (fun i v x _ hv hx => ?_)
        subst hv; exact val_free rfl hx
      · exact h.elim
    · obtain ⟨h1, rfl⟩ := h
      have := kn_eq h1
      subst this
      refine SbOk.ofSame trivial rfl (fun i hi => SV.same.refl _) (fun i v x _ hv hx => ?_)
      subst hv; exact val_free rfl hx
  | .recs ks l0, c, h, hw => by
    cases c <;> simp only [Cs.sb] at h
    · split at h
      · rename_i xs hx
        subst h
        obtain ⟨h1, h2⟩ := chunk_spec hx
        refine SbOk.ofSame trivial h1.symm (fun i hi => h2 i hi) (fun i v x _ hv hx => ?_)
        subst hv; exact val_free (cellK_free _ _ _ _) hx
      · exact h.elim
    · obtain ⟨h1, rfl⟩ := h
      have := ckeq_eq h1
      subst this
      refine SbOk.ofSame trivial rfl (fun i hi => SV.same.refl _) (fun i v x _ hv hx => ?_)
      subst hv; exact val_free (cellK_free _ _ _ _) hx
  | .cat n a0 b0, c, h, hw => by
    cases c <;> simp only [Cs.sb] at h
    · rename_i l
      obtain ⟨h1, h2, h3⟩ := h
      have h1 : n ≤ l.length := by simpa using h1
      have ka := Cs.sb_ok (c0 := a0) (m := m) h2 trivial
      have kb := Cs.sb_ok (c0 := b0) (m := m) h3 trivial
      refine cat_ok (by simp [Cs.size]; omega) ka kb (by simp only [Cs.size, List.length_drop]; omega) (fun i hi => ?_) (fun i hi _ => ?_)
      · simp only [Cs.get, List.getD_eq_getElem?_getD, List.getElem?_take, if_pos hi]
      · simp only [Cs.get, List.getD_eq_getElem?_getD, List.getElem?_drop]
        rw [show n + (i - n) = i by omega]
    · obtain ⟨h1, h2, h3⟩ := h
      have := Nat.eq_of_beq_eq_true h1
      subst this
      obtain ⟨w1, w2, w3⟩ := hw
      exact cat_ok w1 (Cs.sb_ok h2 w2) (Cs.sb_ok h3 w3) rfl (fun i hi => by simp only [Cs.get]; rw [if_pos hi]) (fun i hi _ => by simp only [Cs.get]; rw [if_neg (by omega)])

def kOk : BK → BK → Bool
  | .var, .var => true
  | .row e, .row e' => Nat.beq e e'
  | .ro, .dead => false
  | .ro, _ => true
  | .full e, .full e' => Nat.beq e e'
  | _, _ => false

def isVarK : BK → Bool
  | .var => true
  | _ => false
def isRoK : BK → Bool
  | .ro => true
  | _ => false

def sbB (ρ : List RE) (e : RE) (b0 : Blk) (h : List Blk) : Prop := match b0.k with
  | .dead => True
  | k0 => match e with
    | .id k => kOk k0 (blkAt h k).k = true ∧ b0.c.sb ρ (blkAt h k).c
    | .nil => isVarK k0 = false ∧ b0.c.sb ρ (.lit [])
    | .sl k _ => (isRoK k0 && (blkAt h k).live) = true ∧ b0.c.sb ρ (blkAt h k).c

def headOf : RE → Option Nat
  | .id k => some k
  | .sl k _ => some k
  | .nil => none

def d2 (k : Nat) (w : Bool) : List RE → List Blk → Bool
  | e :: r, b :: q => (match headOf e with
    | some k' => !(Nat.beq k k') || (!b.live || !(w || b.may))
    | none => true) && d2 k w r q
  | _, _ => true

def distB : List RE → List Blk → Bool
  | e :: r, b :: q => (match headOf e with
    | some k => !b.live || d2 k b.may r q
    | none => true) && distB r q
  | _, _ => true

def preB : Nat → Nat → List RE → Bool
  | _, 0, _ => true
  | i, n + 1, e :: r => (match e with
    | .id k => Nat.beq k i && preB (i + 1) n r
    | _ => false)
  | _, _ + 1, [] => false

def sbT (ρ : List RE) : List (Nat × SV) → List (Nat × SV) → Prop
  | [], _ => True
  | (i, v) :: r, t => v.sb ρ (look t i) ∧ sbT ρ r t

def sbH (ρ : List RE) : List RE → List Blk → List Blk → Prop
  | e :: r, b :: q, h => sbB ρ e b h ∧ sbH ρ r q h
  | [], [], _ => True
  | _, _, _ => False

/-- S0 tells no more than S does. -/
def subP (base : Nat) (ρ : List RE) (S0 S : St) : Prop := S.g = true ∧ ((preB 0 base ρ && distB ρ S0.h) = true ∧ (sbT ρ S0.t S.t ∧ sbH ρ ρ S0.h S.h))

theorem sbT_spec {ρ : List RE} : ∀ {t0 t : List (Nat × SV)}, sbT ρ t0 t → ∀ i, look t0 i = .bad ∨ (look t0 i).sb ρ (look t i)
  | [], t, _, i => .inl rfl
  | (k, v) :: r, t, h, i => by
    simp only [look]
    cases hb : Nat.beq k i with
    | true =>
      have : k = i := by simpa using hb
      subst this
      exact .inr h.1
    | false => exact sbT_spec h.2 i

theorem sbH_spec {ρ : List RE} {h : List Blk} : ∀ {es : List RE} {h0 : List Blk}, sbH ρ es h0 h → es.length = h0.length ∧ ∀ (i : Nat) (e : RE) (b : Blk), es[i]? = some e → h0[i]? = some b → sbB ρ e b h
  | [], [], _ => ⟨rfl, by simp⟩
  | [], _ :: _, hh => hh.elim
  | _ :: _, [], hh => hh.elim
  | e :: r, b :: q, hh => by
    obtain ⟨h1, h2⟩ := sbH_spec hh.2
    refine ⟨by simp [h1], fun i e' b' he hb => ?_⟩
    cases i with
    | zero => simp at he hb; subst he; subst hb; exact hh.1
    | succ i => exact h2 i e' b' (by simpa using he) (by simpa using hb)

theorem d2_spec {k : Nat} {w : Bool} : ∀ {es : List RE} {h : List Blk}, d2 k w es h = true → ∀ (i : Nat) (e : RE) (b : Blk), es[i]? = some e → h[i]? = some b → headOf e = some k → b.live = true → w = true ∨ b.may = true → False
  | [], h, _, i, e, b, he, _, _, _, _ => by simp at he
  | _ :: _, [], _, i, e, b, _, hb, _, _, _ => by simp at hb
  | e0 :: r, b0 :: q, h, i, e, b, he, hb, h1, h2, h3 => by
    simp only [d2, Bool.and_eq_true] at h
    cases i with
    | zero =>
      simp at he hb
      subst he; subst hb
      rw [h1] at h
      have := h.1
      simp only [Bool.or_eq_true, Bool.not_eq_true', Bool.or_eq_false_iff] at this
      rcases this with this | this | ⟨h4, h5⟩
      · simp at this
      · rw [h2] at this; cases this
      · rcases h3 with h3 | h3
        · rw [h3] at h4; cases h4
        · rw [h3] at h5; cases h5
    | succ i => exact d2_spec h.2 i e b (by simpa using he) (by simpa using hb) h1 h2 h3

theorem distB_spec : ∀ {es : List RE} {h : List Blk}, distB es h = true → ∀ (i j : Nat) (e f : RE) (b c : Blk) (k : Nat), i < j → es[i]? = some e → es[j]? = some f → h[i]? = some b → h[j]? = some c → headOf e = some k → headOf f = some k → b.live = true → c.live = true → b.may = true ∨ c.may = true → False
  | [], h, _, i, j, e, f, b, c, k, _, he, _, _, _, _, _, _, _, _ => by simp at he
  | _ :: _, [], _, i, j, e, f, b, c, k, _, _, _, hb, _, _, _, _, _, _ => by simp at hb
  | e0 :: r, b0 :: q, h, i, j, e, f, b, c, k, hij, he, hf, hb, hc, h1, h2, h3, h4, h5 => by
    simp only [distB, Bool.and_eq_true] at h
    cases j with
    | zero => omega
    | succ j =>
      cases i with
      | zero =>
        simp at he hb
        subst he; subst hb
        rw [h1] at h
        have := h.1
        simp only [Bool.or_eq_true, Bool.not_eq_true'] at this
        rcases this with this | this
        · rw [h3] at this; cases this
        · exact d2_spec this j f c (by simpa using hf) (by simpa using hc) h2 h4 h5
      | succ i => exact distB_spec h.2 i j e f b c k (by omega) (by simpa using he) (by simpa using hf) (by simpa using hb) (by simpa using hc) h1 h2 h3 h4 h5

theorem preB_spec {m : List Pl} : ∀ {n i : Nat} {ρ : List RE}, preB i n ρ = true → i + n ≤ m.length → (m.drop i).take n <+: ρ.map (RE.pl m)
  | 0, i, ρ, _, _ => by simp
  | n + 1, i, [], h, _ => by simp [preB] at h
  | n + 1, i, e :: r, h, hl => by
    simp only [preB] at h
    split at h
    · rename_i k
      simp only [Bool.and_eq_true] at h
      have : k = i := by simpa using h.1
      subst this
      have hk : k < m.length := by omega
      rw [List.drop_eq_getElem_cons hk, List.take_succ_cons, List.map_cons]
      have e1 : RE.pl m (.id k) = m[k] := by simp [RE.pl, List.getD_eq_getElem?_getD, List.getElem?_eq_getElem hk]
      rw [e1]
      exact (List.prefix_cons_inj _).2 (preB_spec h.2 (by omega))
    · cases h

theorem live_of {b : Blk} (h : b.k ≠ .dead) : b.live = true := by
  unfold Blk.live
  cases hk : b.k <;> first | rfl | exact absurd hk h
theorem wr_may {b : Blk} (h : b.k.wr = true) : b.may = true := by
  unfold Blk.may
  cases hk : b.k <;> rw [hk] at h <;> first | rfl | cases h

theorem kOk_spec {a b : BK} (h : kOk a b = true) (ha : a ≠ .dead) : b ≠ .dead ∧ (a.wr = true → b.wr = true) := by
  cases a <;> cases b <;> simp [kOk, BK.wr] at h ha ⊢

/-- A block, by what is told of it there. -/
theorem holds_sb {m m0 : List Pl} {w : World} {p : Pl} {b c : Blk} (hh : Holds m w p c) (hk : kOk b.k c.k = true) (hd : b.k ≠ .dead) (hs : SbOk m0 m b.c c.c) : Holds m0 w p b := by
  refine ⟨hs.wf, fun e => ?_, hh.lt, fun i hi => ?_, fun e i hi => hh.wr ((kOk_spec hk hd).2 e) i (by rw [← hs.size]; exact hi), fun e => hh.z ((kOk_spec hk hd).2 e), fun es e e' => ?_, fun es e e' => ?_⟩
  · obtain ⟨h1, h2, h3⟩ := hh.nl e
    refine ⟨by rw [hs.size]; exact h1, h2, fun e' => ?_⟩
    rw [e'] at hk
    cases hc : c.k with
    | var => exact h3 hc
    | _ => rw [hc] at hk; cases hk
  · rw [hs.size] at hi
    obtain ⟨v, h1, h2, h3⟩ := hh.cells i hi
    exact ⟨v, hs.get i hi v h1, h2, h3⟩
  · rw [e] at hk
    cases hc : c.k with
    | full es' =>
      rw [hc] at hk
      have : es = es' := by simpa [kOk] using hk
      subst this
      rw [hs.size]; exact hh.fu es hc e'
    | _ => rw [hc] at hk; cases hk
  · rw [e] at hk
    cases hc : c.k with
    | row es' =>
      rw [hc] at hk
      have : es = es' := by simpa [kOk] using hk
      subst this
      rw [hs.size]; exact hh.sp es hc e'
    | _ => rw [hc] at hk; cases hk

theorem Tie.sub {E : Env} {m : List Pl} {S0 S : St} {a : Act} {w : World} {ρ : List RE} (T : Tie E m S a w) (s : subP E.m0.length ρ S0 S) (hG : E.G.length ≤ E.m0.length) : Tie E (ρ.map (RE.pl m)) S0 a w := by
  obtain ⟨_, hpd, ht, hh⟩ := s
  simp only [Bool.and_eq_true] at hpd
  obtain ⟨hpre, hdist⟩ := hpd
  have ht := sbT_spec ht
  obtain ⟨hlen, hh⟩ := sbH_spec hh
  have hml : m.length = S.h.length := T.heap.len
  have hm0 : E.m0.length ≤ m.length := T.pre.length_le
  have hpre' : E.m0 <+: ρ.map (RE.pl m) := by
    have := preB_spec (m := m) hpre (by omega)
    rw [List.drop_zero] at this
    have e : m.take E.m0.length = E.m0 := (List.prefix_iff_eq_take.1 T.pre).symm
    rw [e] at this
    exact this
  have key : ∀ (i : Nat) (p : Pl) (b : Blk), (ρ.map (RE.pl m))[i]? = some p → S0.h[i]? = some b → b.k ≠ .dead → ∃ e, ρ[i]? = some e ∧ p = RE.pl m e ∧ sbB ρ e b S.h := fun i p b hp hb hd => by
    rw [List.getElem?_map] at hp
    simp only [Option.map_eq_some_iff] at hp
    obtain ⟨e, he, rfl⟩ := hp
    exact ⟨e, he, rfl, hh i e b he hb⟩
  -- what stands behind a block that lies somewhere
  have some_ : ∀ (i : Nat) (p : Pl) (b : Blk), (ρ.map (RE.pl m))[i]? = some p → S0.h[i]? = some b → b.k ≠ .dead → p.nil = false →
      ∃ (e : RE) (k : Nat) (q : Pl) (c : Blk), ρ[i]? = some e ∧ headOf e = some k ∧ m[k]? = some q ∧ S.h[k]? = some c ∧ c.k ≠ .dead ∧ q.nil = false ∧ q.blk = p.blk ∧ (b.k.wr = true → c.k.wr = true) := fun i p b hp hb hd hn => by
    obtain ⟨e, he, rfl, hs⟩ := key i p b hp hb hd
    have getm : ∀ {k : Nat}, (blkAt S.h k).k ≠ .dead → ∃ q, m[k]? = some q ∧ m.getD k nilPl = q ∧ S.h[k]? = some (blkAt S.h k) := fun {k} hk => by
      have hb' := blkAt_some (live_of hk)
      have hlt : k < m.length := by rw [hml]; exact (List.getElem?_eq_some_iff.1 hb').1
      exact ⟨m[k], List.getElem?_eq_getElem hlt, by rw [List.getD_eq_getElem?_getD, List.getElem?_eq_getElem hlt]; rfl, hb'⟩
    unfold sbB at hs
    split at hs
    · rename_i hbk; exact absurd hbk hd
    · rename_i hbk
      cases e with
      | id k =>
        simp only at hs
        have hk := kOk_spec hs.1 hd
        obtain ⟨q, h1, h2, h3⟩ := getm hk.1
        refine ⟨_, k, q, _, he, rfl, h1, h3, hk.1, ?_, ?_, hk.2⟩
        · have : RE.pl m (.id k) = q := h2
          rw [this] at hn; exact hn
        · show q.blk = (m.getD k nilPl).blk; rw [h2]
      | nil => simp [RE.pl, nilPl] at hn
      | sl k c =>
        simp only [Bool.and_eq_true] at hs
        obtain ⟨⟨hr, hl⟩, _⟩ := hs
        obtain ⟨q, h1, h2, h3⟩ := getm (live_kind hl)
        refine ⟨_, k, q, _, he, rfl, h1, h3, live_kind hl, ?_, ?_, fun e => ?_⟩
        · simp only [RE.pl] at hn; rw [h2] at hn
          cases hqn : q.nil with
          | false => rfl
          | true => rw [hqn] at hn; simp [nilPl] at hn
        · simp only [RE.pl]; rw [h2]
          cases hqn : q.nil with
          | false => rfl
          | true => simp only [RE.pl] at hn; rw [h2, hqn] at hn; simp [nilPl] at hn
        · cases hbk' : b.k <;> rw [hbk'] at hr e <;> first | (cases hr; done) | (cases e; done)
  refine ⟨T.size, T.defers, ⟨fun i => ?_, fun i g hg => ?_⟩, ⟨by simp [hlen], fun i p b hp hb hd => ?_, fun i j p q b c hij hp hq hb hc hbd hcd hpn hqn hw => ?_⟩, fun i p c hp hc hk hn => ?_, fun i p c hp hc hk hn => ?_, T.os, T.tape, T.output, T.grown, T.kept, hpre'⟩
  · rcases ht i with h | h
    · exact .inl h
    · rcases T.tmps.slot i with h1 | h1
      · rw [h1] at h
        cases hq : look S0.t i with
        | bad => exact .inl rfl
        | _ => rw [hq] at h; first | exact (h : False).elim | (simp [SV.sb] at h)
      · exact .inr (SV.sb_val _ _ h h1)
  · obtain ⟨p, h1, h2, h3, h4⟩ := T.tmps.glob i g hg
    have hi : i < E.m0.length := Nat.lt_of_lt_of_le (List.getElem?_eq_some_iff.1 hg).1 hG
    have e1 : E.m0[i]? = some p := by
      obtain ⟨r, hr⟩ := T.pre
      rw [← hr, List.getElem?_append_left hi] at h1; exact h1
    exact ⟨p, getElem?_pre hpre' e1, h2, h3, h4⟩
  · obtain ⟨e, he, rfl, hs⟩ := key i p b hp hb hd
    unfold sbB at hs
    split at hs
    · rename_i hbk; exact absurd hbk hd
    · cases e with
      | id k =>
        simp only at hs
        have hk := kOk_spec hs.1 hd
        have hb' := blkAt_some (live_of hk.1)
        have hlt : k < m.length := by rw [hml]; exact (List.getElem?_eq_some_iff.1 hb').1
        have hm : m[k]? = some (RE.pl m (.id k)) := by rw [List.getElem?_eq_getElem hlt]; simp [RE.pl, List.getD_eq_getElem?_getD, List.getElem?_eq_getElem hlt]
        have hh' := T.heap.holds k _ _ hm hb' hk.1
        exact holds_sb hh' hs.1 hd (Cs.sb_ok hs.2 hh'.wf)
      | nil =>
        simp only at hs
        have h1 := Cs.sb_ok (m := m) hs.2 trivial
        refine ⟨h1.wf, fun _ => ⟨h1.size, rfl, fun e => by rw [e] at hs; cases hs.1⟩, fun e => absurd e (by simp [RE.pl, nilPl]), fun j hj => absurd hj (by rw [h1.size]; simp [Cs.size]), fun _ j hj => absurd hj (by rw [h1.size]; simp [Cs.size]), fun _ e => absurd e (by simp [RE.pl, nilPl]), fun _ _ e => absurd e (by simp [RE.pl, nilPl]), fun _ _ e => absurd e (by simp [RE.pl, nilPl])⟩
      | sl k cap =>
        simp only [Bool.and_eq_true] at hs
        obtain ⟨⟨hr, hl⟩, hsb⟩ := hs
        have hb' := blkAt_some hl
        have hlt : k < m.length := by rw [hml]; exact (List.getElem?_eq_some_iff.1 hb').1
        have hm : m[k]? = some (m.getD k nilPl) := by rw [List.getElem?_eq_getElem hlt]; simp [List.getD_eq_getElem?_getD, List.getElem?_eq_getElem hlt]
        have hh' := T.heap.holds k _ _ hm hb' (live_kind hl)
        have h1 := Cs.sb_ok (m := m) hsb hh'.wf
        have hro : b.k = .ro := by cases hbk : b.k <;> rw [hbk] at hr <;> first | rfl | cases hr
        have hrw : ∀ {q : Prop}, b.k.wr = true → q := fun e => by rw [hro] at e; cases e
        cases hqn : (m.getD k nilPl).nil with
        | true =>
          have e1 : RE.pl m (.sl k cap) = nilPl := by simp only [RE.pl]; rw [hqn]
          rw [e1]
          have h0 : b.c.size = 0 := by rw [h1.size]; exact (hh'.nl hqn).1
          exact ⟨h1.wf, fun _ => ⟨h0, rfl, by rw [hro]; simp⟩, fun e => absurd e (by simp [nilPl]), fun j hj => absurd hj (by omega), fun e => hrw e, fun e => hrw e, fun es e => by (rw [hro] at e; cases e), fun es e => by (rw [hro] at e; cases e)⟩
        | false =>
          have e1 : RE.pl m (.sl k cap) = ⟨(m.getD k nilPl).blk, (m.getD k nilPl).off, cap, false⟩ := by simp only [RE.pl]; rw [hqn]
          rw [e1]
          refine ⟨h1.wf, fun e => absurd e (by simp), fun _ => hh'.lt hqn, fun j hj => ?_, fun e => hrw e, fun e => hrw e, fun es e => by (rw [hro] at e; cases e), fun es e => by (rw [hro] at e; cases e)⟩
          rw [h1.size] at hj
          obtain ⟨v, g1, g2, g3⟩ := hh'.cells j hj
          exact ⟨v, h1.get j hj v g1, g2, g3⟩
  · obtain ⟨e, k, p', c', h1, h2, h3, h4, h5, h6, h7, h8⟩ := some_ i p b hp hb hbd hpn
    obtain ⟨f, k', q', d', g1, g2, g3, g4, g5, g6, g7, g8⟩ := some_ j q c hq hc hcd hqn
    rw [← h7, ← g7]
    have hne : k ≠ k' := by
      intro e'
      subst e'
      rcases Nat.lt_or_gt_of_ne hij with hlt | hgt
      · exact distB_spec hdist i j e f b c k hlt h1 g1 hb hc h2 g2 (live_of hbd) (live_of hcd) (hw.imp wr_may wr_may)
      · exact distB_spec hdist j i f e c b k hgt g1 h1 hc hb g2 h2 (live_of hcd) (live_of hbd) (hw.symm.imp wr_may wr_may)
    exact T.heap.apart k k' p' q' c' d' hne h3 g3 h4 g4 h5 g5 h6 g6 (hw.imp h8 g8)
  · have hd : c.k ≠ .dead := by intro e; rw [e] at hk; cases hk
    obtain ⟨e, k, p', c', h1, h2, h3, h4, h5, h6, h7, h8⟩ := some_ i p c hp hc hd hn
    rw [← h7]; exact T.wr k p' c' h3 h4 (h8 hk) h6
  · obtain ⟨e, k, p', c', h1, h2, h3, h4, h5, h6, h7, h8⟩ := some_ i p c hp hc hk hn
    rw [← h7]; exact T.src k p' c' h3 h4 h5 h6

/-! Which block is which, found by looking. -/

def uniAdd (acc : List (Nat × RE)) (id : Nat) (e : RE) : List (Nat × RE) := match has acc id with
  | true => acc
  | false => (id, e) :: acc
where has : List (Nat × RE) → Nat → Bool
  | [], _ => false
  | (i, _) :: r, id => match Nat.beq i id with
    | true => true
    | false => has r id

mutual
def uniV (acc : List (Nat × RE)) : SV → SV → List (Nat × RE)
  | .ptr id _, u => match u with
    | .ptr id' _ => uniAdd acc id (.id id')
    | _ => acc
  | .elt id _ _ _, u => match u with
    | .elt id' _ _ _ => uniAdd acc id (.id id')
    | _ => acc
  | .slice id _ _ _, u => match u with
    | .slice id' _ _ _ => uniAdd acc id (.id id')
    | _ => acc
  | .row id _, u => match u with
    | .row id' _ => uniAdd acc id (.id id')
    | .nils => uniAdd acc id .nil
    | .slice id' _ _ c => uniAdd acc id (.sl id' c)
    | _ => acc
  | .fn _ cs, u => match u with
    | .fn _ ds => uniL acc cs ds
    | _ => acc
  | .agg l, u => match u with
    | .agg r => uniL acc l r
    | _ => acc
  | .tup l, u => match u with
    | .tup r => uniL acc l r
    | _ => acc
  | _, _ => acc
def uniL (acc : List (Nat × RE)) : List SV → List SV → List (Nat × RE)
  | v :: r, u => match u with
    | w :: s => uniL (uniV acc v w) r s
    | [] => acc
  | [], _ => acc
end

def uniC (acc : List (Nat × RE)) (c c' : Cs) : List (Nat × RE) := match c.svs with
  | [] => acc
  | l => uniL acc l c'.svs

def uniLook : List (Nat × RE) → Nat → RE
  | [], _ => .nil
  | (i, e) :: r, id => match Nat.beq i id with
    | true => e
    | false => uniLook r id

/-- Through the blocks, by their numbers. -/
def uniH (h : List Blk) : List (Nat × RE) → Nat → List Blk → List (Nat × RE)
  | acc, _, [] => acc
  | acc, i, b :: r => match b.k with
    | .dead => uniH h acc (i + 1) r
    | _ => match uniLook acc i with
      | .id k => uniH h (uniC acc b.c (blkAt h k).c) (i + 1) r
      | .sl k _ => uniH h (uniC acc b.c (blkAt h k).c) (i + 1) r
      | .nil => uniH h acc (i + 1) r

def uniT (acc : List (Nat × RE)) (t : List (Nat × SV)) : List (Nat × SV) → List (Nat × RE)
  | [] => acc
  | (i, v) :: r => uniT (uniV acc v (look t i)) t r

def uniId : Nat → Nat → List (Nat × RE)
  | _, 0 => []
  | i, n + 1 => (i, .id i) :: uniId (i + 1) n

def uniOut (acc : List (Nat × RE)) : Nat → Nat → List RE
  | _, 0 => []
  | i, n + 1 => uniLook acc i :: uniOut acc (i + 1) n

/-- Of a state, and of what is to be told of it. -/
def uni (base : Nat) (S0 S : St) : List RE :=
  uniOut (uniH S.h (uniH S.h (uniT (uniId 0 base) S.t S0.t) 0 S0.h) 0 S0.h) 0 S0.h.length


/-! ### Two new blocks in a region whose order is drawn: both orders are walked, and their ends must be alike -/

def isCut (C : Cx) (o : Oper) : Bool := match o.op with
  | .slice t _ _ _ _ => !(flatT C.τ t)
  | _ => false
def plainNew (C : Cx) (o : Oper) : Bool := (isNew o || isCut C o) && o.guard.isNone

def runLen (C : Cx) (k : Nat) : List Oper → Nat
  | x :: r => match plainNew C x && !(x.after.toList.any fun e => Nat.ble k e.on) with
    | true => runLen C k r + 1
    | false => 0
  | [] => 0

/-- Where new blocks stand side by side, and how many. -/
def newsAt (C : Cx) : List Oper → Nat → Option (Nat × Nat)
  | x :: r, k => match plainNew C x with
    | true => match runLen C k r with
      | 0 => newsAt C r (k + 1)
      | n + 1 => some (k, n + 2)
    | false => newsAt C r (k + 1)
  | [], _ => none

def rm (i : Nat) : List Nat → List Nat
  | [] => []
  | j :: r => match Nat.beq j i with
    | true => rm i r
    | false => j :: rm i r

def each (g : Nat → List Nat → Prop) (R : List Nat) : List Nat → Prop
  | [] => True
  | i :: r => g i (rm i R) ∧ each g R r

/-- New blocks in every order, then the rest. -/
def permRun (C : Cx) (ops : Array Oper) (lr : List Oper) : Nat → List Nat → St → (St → Prop) → Prop
  | 0, _, S, K => aops C ops.toList lr S K
  | f + 1, R, S, K => each (fun i R' => match ops[i]? with
    | some o => aops C ops.toList [o] S fun S' => gdB S'.g (permRun C ops lr f R' S' K)
    | none => False) R R

/-- The region's operations, one behind the other; with new blocks side by side in every order. -/
def rops (C : Cx) (ops : Array Oper) (draw : Bool) (prs : List (Nat × Nat)) (S : St) (K : St → Prop) : Prop :=
  match draw with
  | false => aops C ops.toList ops.toList S fun T => gdB (dynOk prs T) (K T)
  | true => match newsAt C ops.toList 0 with
    | none => aops C ops.toList ops.toList S fun T => gdB (dynOk prs T) (K T)
    | some (k, n) => aops C ops.toList ops.toList S fun T => gdB (dynOk prs T)
        (aops C ops.toList (ops.toList.take k) S (fun S' => gdB S'.g (permRun C ops (ops.toList.drop (k + n)) n (List.range' k n) S' fun T2 => gdB (dynOk prs T2) (subP S.h.length (uni S.h.length T T2) T T2))) ∧ K T)

def lexL (C : Cx) (ops : Array Oper) (an : List Nat) (prs : List (Nat × Nat)) : List Nat → Array Bool → Bool
  | [], listed => (Region.ready .any ops listed).isEmpty
  | k :: r, listed => (Region.ready .any ops listed).contains k && (freeA C ops an prs listed k && lexL C ops an prs r (listed.setIfInBounds k true))

def lexN (C : Cx) (ops : Array Oper) (an : List Nat) (prs : List (Nat × Nat)) (rest : List Nat) : Nat → List Nat → Array Bool → Bool
  | 0, R, listed => R.isEmpty && lexL C ops an prs rest listed
  | f + 1, R, listed => (!R.isEmpty && (Region.ready .any ops listed) == R) && R.all fun i => lexN C ops an prs rest f (rm i R) (listed.setIfInBounds i true)

def lexP (C : Cx) (ops : Array Oper) (an : List Nat) (prs : List (Nat × Nat)) (n : Nat) (R rest : List Nat) : List Nat → Array Bool → Bool
  | [], listed => lexN C ops an prs rest n R listed
  | i :: r, listed => (Region.ready .any ops listed).contains i && (freeA C ops an prs listed i && lexP C ops an prs n R rest r (listed.setIfInBounds i true))

def regOk (C : Cx) (ops : Array Oper) (prs : List (Nat × Nat)) : Bool :=
  match newsAt C ops.toList 0 with
  | none => lexA C ops (ancs ops.toList) prs ops.size 0 (Array.replicate ops.size false)
  | some (k, n) => Nat.ble (k + n) ops.size && lexP C ops (ancs ops.toList) prs n (List.range' k n) (List.range' (k + n) (ops.size - (k + n))) (List.range' 0 k) (Array.replicate ops.size false)

/-- The orders by a plan. -/
def planRun (C : Cx) (ops : Array Oper) : PT → St → (St → Prop) → Prop
  | .done, S, K => K S
  | .step i p, S, K => match ops[i]? with
    | some o => aops C ops.toList [o] S fun S' => gdB S'.g (planRun C ops p S' K)
    | none => False
  | .alt i p q, S, K => (match ops[i]? with
    | some o => aops C ops.toList [o] S fun S' => gdB S'.g (planRun C ops p S' K)
    | none => False) ∧ planRun C ops q S K
  | .nil, _, _ => True

def planOk (C : Cx) (ops : Array Oper) (an : List Nat) : PT → Bool → Nat → Array Bool → Bool
  | .done, b, f, listed => !b && (Nat.beq f 0 && (Region.ready .any ops listed).isEmpty)
  | .step i p, b, f, listed => !b && (match f with
    | 0 => false
    | f + 1 => (Region.ready .any ops listed).contains i && (freeA C ops an [] listed i && planOk C ops an p false f (listed.setIfInBounds i true)))
  | .alt i p q, b, f, listed => match f with
    | 0 => false
    | f + 1 => (b || (Region.ready .any ops listed) == (i :: q.idx)) && ((Region.ready .any ops listed).contains i && (planOk C ops an p false f (listed.setIfInBounds i true) && planOk C ops an q true (f + 1) listed))
  | .nil, b, _, _ => b

def ropsP (C : Cx) (ops : Array Oper) (draw : Bool) (prs : List (Nat × Nat)) (pt : PT) (S : St) (K : St → Prop) : Prop :=
  match pt.none with
  | true => rops C ops draw prs S K
  | false => aops C ops.toList ops.toList S fun T => gdB (dynOk prs T) (planRun C ops pt S (fun T2 => gdB (dynOk prs T2) (subP S.h.length (uni S.h.length T T2) T T2)) ∧ K T)

def regOkP (C : Cx) (ops : Array Oper) (prs : List (Nat × Nat)) (pt : PT) : Bool :=
  match pt.none with
  | true => regOk C ops prs
  | false => prs.isEmpty && planOk C ops (ancs ops.toList) pt false ops.size (Array.replicate ops.size false)

def Picks (ops : Array Oper) : List Nat → List Oper → Prop
  | [], [] => True
  | i :: r, o :: l => ops[i]? = some o ∧ Picks ops r l
  | _, _ => False

theorem Picks.mem {ops : Array Oper} : ∀ {il : List Nat} {l : List Oper}, Picks ops il l → ∀ o ∈ l, ∃ i ∈ il, ops[i]? = some o
  | [], [], _, o, ho => by cases ho
  | i :: r, x :: l, h, o, ho => by
    rcases List.mem_cons.1 ho with rfl | ho
    · exact ⟨i, List.mem_cons_self, h.1⟩
    · obtain ⟨k, hk, e⟩ := Picks.mem h.2 o ho
      exact ⟨k, List.mem_cons_of_mem _ hk, e⟩
  | [], _ :: _, h, _, _ => h.elim
  | _ :: _, [], h, _, _ => h.elim

theorem picks_range {ops : Array Oper} : ∀ (n s : Nat) (l : List Oper), l.length = n → (∀ j, j < n → l[j]? = ops[s + j]?) → Picks ops (List.range' s n) l
  | 0, _, l, hl, _ => by
    have : l = [] := List.length_eq_zero_iff.1 hl
    subst this; exact trivial
  | n + 1, s, o :: l, hl, h => by
    rw [List.range'_succ]
    refine ⟨by simpa using (h 0 (by omega)).symm, picks_range n (s + 1) l (by simpa using hl) fun j hj => ?_⟩
    have := h (j + 1) (by omega)
    simpa [Nat.add_assoc, Nat.add_comm 1 j] using this

theorem free_use {C : Cx} {ops : Array Oper} {prs : List (Nat × Nat)} {k : Nat} {ok : Oper} {listed : Array Bool} {S Sk S' : St} (h0 : ops[k]? = some ok) (hf : freeA C ops (ancs ops.toList) prs listed k = true)
    (hs : stepO C ops.toList ok S = some Sk) (hdy : dynOk prs S' = true) (keep : ∀ q, Unwritten ops listed q → look S'.t q = look S.t q) :
    ∀ (j : Nat) (oj : Oper), ops[j]? = some oj → j ≠ k → listed.getD j true = false → ¬ Reach ops j k → Apart C ops listed S ok j oj := by
  refine freeA_spec h0 hf (fun t q hop hg => ?_) fun r hr h1 h2 => ?_
  · unfold stepO at hs
    simp only [Option.map_eq_some_iff] at hs
    obtain ⟨r, hr, _⟩ := hs
    unfold eff at hr
    have hw : wantA ops.toList ok S = some true := by unfold wantA; rw [hg]
    rw [hw] at hr
    simp only at hr
    split at hr
    · rename_i hok
      unfold aexec at hok
      simp only [hop] at hok
      unfold loadO at hok
      split at hok
      · rename_i i id off _ e
        refine ⟨id, off, e, ?_⟩
        have hlive : (blkAt S.h id).live = true := by
          split at hok <;> simp only [Bool.and_eq_true] at hok <;> exact hok.1
        rcases Nat.lt_or_ge id S.h.length with h' | h'
        · exact h'
        · unfold blkAt at hlive
          rw [List.getD_eq_getElem?_getD, List.getElem?_eq_none h'] at hlive
          simp [Blk.nil, Blk.live] at hlive
      · simp [R.fail] at hok
    · cases hr
  · obtain ⟨a, oa, b, ob, e1, e2, e3⟩ := dynOk_spec hdy r hr
    exact ⟨a, oa, b, ob, by rw [← keep _ h1]; exact e1, by rw [← keep _ h2]; exact e2, e3⟩

theorem absAny_lexL {C : Cx} {ops : Array Oper} {prs : List (Nat × Nat)} {K : St → Prop} (hK : ∀ S S', Sq S S' → K S → K S') : ∀ (il : List Nat) (l : List Oper) (listed : Array Bool) (S S' : St), Picks ops il l →
    il.Nodup → (∀ i ∈ il, listed.getD i true = false) → Closed ops listed → dynOk prs S' = true → lexL C ops (ancs ops.toList) prs il listed = true → trun C ops.toList l S = some S' → K S' → absAny C ops K il.length listed S
  | [], [], listed, S, S', _, _, _, _, _, hB, h, hk => by
    simp only [trun, Option.some.injEq] at h
    subst h
    exact ⟨by simpa [lexL] using hB, hk⟩
  | k :: il, o :: l, listed, S, S', hp, hnd, hun, hcl, hdy, hB, h, hk => by
    have h0 := hp.1
    simp only [lexL, Bool.and_eq_true] at hB
    obtain ⟨hr, hf, hB'⟩ := hB
    have h' := h
    simp only [trun, Option.bind_eq_some_iff] at h
    obtain ⟨Sk, hs, h⟩ := h
    have hr' : k ∈ Region.ready .any ops listed := by simpa using hr
    have keep : ∀ q, Unwritten ops listed q → look S'.t q = look S.t q := fun q hq => trun_keep (o :: l) S S' (fun x hx => by
      obtain ⟨i, hi, e⟩ := Picks.mem hp x hx
      exact hq i x e (hun i hi)) h'
    simp only [List.nodup_cons] at hnd
    refine absAny_first hK h0 il.length listed S Sk hcl (free_use h0 hf hs hdy keep) hr' hs (absAny_lexL hK il l _ Sk S' hp.2 hnd.2 (fun i hi => ?_) (hcl.set hr') hdy hB' h hk)
    rw [getD_set_ne true (fun e => hnd.1 (by rw [e]; exact hi))]
    exact hun i (List.mem_cons_of_mem _ hi)
  | [], _ :: _, _, _, _, hp, _, _, _, _, _, _, _ => hp.elim
  | _ :: _, [], _, _, _, hp, _, _, _, _, _, _, _ => hp.elim

theorem aops_mono {C : Cx} {ops : List Oper} {K K' : St → Prop} (hK : ∀ T, K T → K' T) : ∀ (l : List Oper) (S : St), aops C ops l S K → aops C ops l S K'
  | [], S, h => hK S h
  | o :: r, S, h => by
    rw [aops_cons] at h ⊢
    split at h
    · exact h.elim
    · split at h
      · exact aops_mono hK r _ h
      · exact aops_mono hK r _ h

theorem mem_rm {i j : Nat} : ∀ {R : List Nat}, j ∈ rm i R → j ∈ R ∧ j ≠ i
  | [], h => by simp [rm] at h
  | k :: r, h => by
    simp only [rm] at h
    split at h
    · obtain ⟨h1, h2⟩ := mem_rm h
      exact ⟨List.mem_cons_of_mem _ h1, h2⟩
    · rename_i hk
      rcases List.mem_cons.1 h with rfl | h
      · exact ⟨List.mem_cons_self, fun e => by subst e; simp at hk⟩
      · obtain ⟨h1, h2⟩ := mem_rm h
        exact ⟨List.mem_cons_of_mem _ h1, h2⟩

theorem each_mem {g : Nat → List Nat → Prop} {R : List Nat} : ∀ {r : List Nat}, each g R r → ∀ i ∈ r, g i (rm i R)
  | [], _, i, hi => by cases hi
  | k :: r, h, i, hi => by
    rcases List.mem_cons.1 hi with rfl | hi
    · exact h.1
    · exact each_mem h.2 i hi

theorem absAny_tree {C : Cx} {ops : Array Oper} {prs : List (Nat × Nat)} {K : St → Prop} (hK : ∀ S S', Sq S S' → K S → K S') {rest : List Nat} {lr : List Oper} (hpr : Picks ops rest lr) (hnd : rest.Nodup) :
    ∀ (f : Nat) (R : List Nat) (listed : Array Bool) (S : St), (∀ i ∈ R, i ∉ rest) → (∀ i ∈ R, listed.getD i true = false) → (∀ i ∈ rest, listed.getD i true = false) → Closed ops listed →
      lexN C ops (ancs ops.toList) prs rest f R listed = true → permRun C ops lr f R S (fun T => T.g = true ∧ dynOk prs T = true ∧ K T) → absAny C ops K (rest.length + f) listed S
  | 0, R, listed, S, _, _, hur, hcl, hB, h => by
    simp only [lexN, Bool.and_eq_true] at hB
    obtain ⟨T, h1, _, h2, h3⟩ := trun_of_aops (fun T hT => hT.1) _ _ h
    exact absAny_lexL hK rest lr listed S T hpr hnd hur hcl h2 hB.2 h1 h3
  | f + 1, R, listed, S, hdis, hun, hur, hcl, hB, h => by
    simp only [lexN, Bool.and_eq_true, beq_iff_eq, List.all_eq_true, Bool.not_eq_true', List.isEmpty_eq_false_iff] at hB
    obtain ⟨⟨hne, hr⟩, hB⟩ := hB
    have step : ∀ i ∈ R, ∃ o S', ops[i]? = some o ∧ stepO C ops.toList o S = some S' ∧ absAny C ops K (rest.length + f) (listed.setIfInBounds i true) S' := by
      intro i hi
      have hm : i ∈ Region.ready .any ops listed := by rw [hr]; exact hi
      have hg := each_mem h i hi
      split at hg
      · rename_i o ho
        obtain ⟨S', h1, hK'⟩ := trun_of_aops (fun T hT => (gdB_iff.1 hT).1) _ _ hg
        have h2 := (gdB_iff.1 hK').2
        have h1 : stepO C ops.toList o S = some S' := by
          simp only [trun, Option.bind_eq_some_iff] at h1
          obtain ⟨x, hx, e⟩ := h1
          simp only [Option.some.injEq] at e
          rw [← e]; exact hx
        refine ⟨o, S', ho, h1, absAny_tree hK hpr hnd f (rm i R) _ S' (fun j hj => hdis j (mem_rm hj).1) (fun j hj => ?_) (fun j hj => ?_) (hcl.set hm) (hB i hi) h2⟩
        · rw [getD_set_ne true (Ne.symm (mem_rm hj).2)]; exact hun j (mem_rm hj).1
        · rw [getD_set_ne true (fun e => hdis i hi (by rw [e]; exact hj))]; exact hur j hj
      · exact hg.elim
    exact ⟨fun h0 => absurd (hr.symm.trans h0) hne, fun i hi => step i (by rw [hr] at hi; exact hi)⟩

theorem absAny_P {C : Cx} {ops : Array Oper} {prs : List (Nat × Nat)} {K : St → Prop} (hK : ∀ S S', Sq S S' → K S → K S') {n : Nat} {R rest : List Nat} {lr lt : List Oper} (hpr : Picks ops rest lr) (hpt : Picks ops (R ++ rest) lt) (hnd : rest.Nodup) (hdis : ∀ i ∈ R, i ∉ rest) {T1 : St}
    (hd1 : dynOk prs T1 = true) : ∀ (pre : List Nat) (lp : List Oper) (listed : Array Bool) (S : St), Picks ops pre lp → pre.Nodup → (∀ i ∈ pre, i ∉ R ++ rest) → (∀ i ∈ pre ++ (R ++ rest), listed.getD i true = false) →
    Closed ops listed → lexP C ops (ancs ops.toList) prs n R rest pre listed = true → trun C ops.toList (lp ++ lt) S = some T1 → ∀ S1, trun C ops.toList lp S = some S1 → permRun C ops lr n R S1 (fun T => T.g = true ∧ dynOk prs T = true ∧ K T) →
    absAny C ops K (rest.length + n + pre.length) listed S
  | [], [], listed, S, _, _, _, hun, hcl, hB, h1, S1, h2, h3 => by
    simp only [trun, Option.some.injEq] at h2
    subst h2
    exact absAny_tree hK hpr hnd n R listed S hdis (fun i hi => hun i (by simp [hi])) (fun i hi => hun i (by simp [hi])) hcl hB h3
  | i :: pre, o :: lp, listed, S, hp, hndp, hpd, hun, hcl, hB, h1, S1, h2, h3 => by
    have h0 := hp.1
    simp only [lexP, Bool.and_eq_true] at hB
    obtain ⟨hr, hf, hB'⟩ := hB
    have h' := h1
    simp only [List.cons_append, trun, Option.bind_eq_some_iff] at h1 h2
    obtain ⟨Sk, hs, h1⟩ := h1
    obtain ⟨Sk', hs', h2⟩ := h2
    rw [hs] at hs'
    obtain rfl := Option.some.inj hs'
    have hr' : i ∈ Region.ready .any ops listed := by simpa using hr
    have keep : ∀ q, Unwritten ops listed q → look T1.t q = look S.t q := fun q hq => trun_keep _ S T1 (fun z hz => by
      simp only [List.cons_append, List.mem_cons, List.mem_append] at hz
      rcases hz with rfl | hz | hz
      · exact hq i z h0 (hun i (by simp))
      · obtain ⟨j, hj, e⟩ := Picks.mem hp.2 z hz
        exact hq j z e (hun j (by simp [hj]))
      · obtain ⟨j, hj, e⟩ := Picks.mem hpt z hz
        exact hq j z e (hun j (List.mem_append_right _ hj))) h'
    simp only [List.nodup_cons] at hndp
    refine absAny_first hK h0 (rest.length + n + pre.length) listed S Sk hcl (free_use h0 hf hs hd1 keep) hr' hs (absAny_P hK hpr hpt hnd hdis hd1 pre lp _ Sk hp.2 hndp.2 (fun j hj => hpd j (List.mem_cons_of_mem _ hj)) (fun j hj => ?_) (hcl.set hr') hB' h1 S1 h2 h3)
    rw [getD_set_ne true (fun e => by
      rcases List.mem_append.1 hj with hj | hj
      · exact hndp.1 (by rw [e]; exact hj)
      · exact hpd i List.mem_cons_self (by rw [e]; exact hj))]
    exact hun j (by simp only [List.cons_append]; exact List.mem_cons_of_mem _ hj)
  | [], _ :: _, _, _, hp, _, _, _, _, _, _, _, _, _ => hp.elim
  | _ :: _, [], _, _, hp, _, _, _, _, _, _, _, _, _ => hp.elim

theorem trun_append {C : Cx} {ops : List Oper} : ∀ (l l' : List Oper) (S T : St), trun C ops (l ++ l') S = some T → ∃ S1, trun C ops l S = some S1 ∧ trun C ops l' S1 = some T
  | [], l', S, T, h => ⟨S, rfl, h⟩
  | o :: l, l', S, T, h => by
    simp only [List.cons_append, trun, Option.bind_eq_some_iff] at h ⊢
    obtain ⟨S2, h1, h2⟩ := h
    obtain ⟨S1, h3, h4⟩ := trun_append l l' S2 T h2
    exact ⟨S1, ⟨S2, h1, h3⟩, h4⟩

theorem permRun_mono {C : Cx} {ops : Array Oper} {lr : List Oper} {K K' : St → Prop} (hK : ∀ T, K T → K' T) : ∀ (f : Nat) (R : List Nat) (S : St), permRun C ops lr f R S K → permRun C ops lr f R S K'
  | 0, _, S, h => aops_mono hK _ _ h
  | f + 1, R, S, h => by
    have key : ∀ r, each (fun i R' => match ops[i]? with
        | some o => aops C ops.toList [o] S fun S' => gdB S'.g (permRun C ops lr f R' S' K)
        | none => False) R r → each (fun i R' => match ops[i]? with
        | some o => aops C ops.toList [o] S fun S' => gdB S'.g (permRun C ops lr f R' S' K')
        | none => False) R r := by
      intro r
      induction r with
      | nil => exact fun h => h
      | cons i r ih =>
        intro h
        refine ⟨?_, ih h.2⟩
        have h1 := h.1
        dsimp only at h1 ⊢
        cases ho : ops[i]? with
        | none => simp only [ho] at h1
        | some o =>
          simp only [ho] at h1 ⊢
          exact aops_mono (fun T hT => gdB_iff.2 ⟨(gdB_iff.1 hT).1, permRun_mono hK f _ _ (gdB_iff.1 hT).2⟩) _ _ h1
    exact key R h

theorem preB_mono : ∀ {n n' i : Nat} {ρ : List RE}, preB i n ρ = true → n' ≤ n → preB i n' ρ = true
  | _, 0, _, _, _, _ => by simp [preB]
  | n + 1, n' + 1, i, [], h, _ => by simp [preB] at h
  | n + 1, n' + 1, i, e :: r, h, hle => by
    cases e <;> simp only [preB, Bool.and_eq_true] at h ⊢ <;> first | exact ⟨h.1, preB_mono h.2 (by omega)⟩ | (simp at h; done)
  | 0, n' + 1, _, _, _, hle => by omega

theorem planRun_mono {C : Cx} {ops : Array Oper} {K K' : St → Prop} (hK : ∀ T, K T → K' T) : ∀ (p : PT) (S : St), planRun C ops p S K → planRun C ops p S K'
  | .done, S, h => hK S h
  | .nil, _, _ => trivial
  | .step i p, S, h => by
    simp only [planRun] at h ⊢
    cases ho : ops[i]? with
    | none => simp only [ho] at h
    | some o =>
      simp only [ho] at h ⊢
      exact aops_mono (fun T hT => gdB_iff.2 ⟨(gdB_iff.1 hT).1, planRun_mono hK p _ (gdB_iff.1 hT).2⟩) _ _ h
  | .alt i p q, S, h => by
    simp only [planRun] at h ⊢
    refine ⟨?_, planRun_mono hK q S h.2⟩
    have h := h.1
    cases ho : ops[i]? with
    | none => simp only [ho] at h
    | some o =>
      simp only [ho] at h ⊢
      exact aops_mono (fun T hT => gdB_iff.2 ⟨(gdB_iff.1 hT).1, planRun_mono hK p _ (gdB_iff.1 hT).2⟩) _ _ h

theorem plan_step {C : Cx} {ops : Array Oper} {p : PT} {K : St → Prop} {i : Nat} {S : St} (h : match ops[i]? with
    | some o => aops C ops.toList [o] S fun S' => gdB S'.g (planRun C ops p S' K)
    | none => False) : ∃ o S', ops[i]? = some o ∧ stepO C ops.toList o S = some S' ∧ planRun C ops p S' K := by
  cases ho : ops[i]? with
  | none => rw [ho] at h; exact h.elim
  | some o =>
    rw [ho] at h
    obtain ⟨S', h1, hK'⟩ := trun_of_aops (fun T hT => (gdB_iff.1 hT).1) _ _ h
    refine ⟨o, S', rfl, ?_, (gdB_iff.1 hK').2⟩
    simp only [trun, Option.bind_eq_some_iff] at h1
    obtain ⟨x, hx, e⟩ := h1
    simp only [Option.some.injEq] at e
    rw [← e]; exact hx

theorem absAny_plan {C : Cx} {ops : Array Oper} {K : St → Prop} (hK : ∀ S S', Sq S S' → K S → K S') : ∀ (p : PT) (b : Bool) (f : Nat) (listed : Array Bool) (S : St), Closed ops listed → planOk C ops (ancs ops.toList) p b f listed = true → planRun C ops p S K →
    (b = false → absAny C ops K f listed S) ∧ (b = true → ∀ i ∈ p.idx, ∃ o S' f', f = f' + 1 ∧ ops[i]? = some o ∧ stepO C ops.toList o S = some S' ∧ absAny C ops K f' (listed.setIfInBounds i true) S')
  | .done, b, f, listed, S, hcl, hB, h => by
    simp only [planOk, Bool.and_eq_true, Bool.not_eq_true'] at hB
    obtain ⟨rfl, h1, h2⟩ := hB
    have h1 : f = 0 := by simpa using h1
    subst h1
    refine ⟨fun _ => ⟨by simpa using h2, h⟩, fun e => (by cases e)⟩
  | .nil, b, f, listed, S, hcl, hB, h => by
    simp only [planOk] at hB
    subst hB
    exact ⟨fun e => (by cases e), fun _ i hi => (by simp [PT.idx] at hi)⟩
  | .step i p, b, f, listed, S, hcl, hB, h => by
    simp only [planOk, Bool.and_eq_true, Bool.not_eq_true'] at hB
    obtain ⟨rfl, hB⟩ := hB
    cases f with
    | zero => simp at hB
    | succ f =>
    simp only [Bool.and_eq_true] at hB
    obtain ⟨hr, hf, hB'⟩ := hB
    have hr' : i ∈ Region.ready .any ops listed := by simpa using hr
    obtain ⟨o, S', ho, hs, hp⟩ := plan_step (p := p) (K := K) h
    refine ⟨fun _ => absAny_first hK ho f listed S S' hcl (free_use (prs := []) (S' := S) ho hf hs rfl (fun _ _ => rfl)) hr' hs ((absAny_plan hK p false f _ S' (hcl.set hr') hB' hp).1 rfl), fun e => (by cases e)⟩
  | .alt i p q, b, f, listed, S, hcl, hB, h => by
    cases f with
    | zero => simp [planOk] at hB
    | succ f =>
    simp only [planOk, Bool.and_eq_true, Bool.or_eq_true, beq_iff_eq] at hB
    obtain ⟨hb, hr, hp, hq⟩ := hB
    have hr' : i ∈ Region.ready .any ops listed := by simpa using hr
    obtain ⟨o, S', ho, hs, hpr⟩ := plan_step (p := p) (K := K) h.1
    have h1 := (absAny_plan hK p false f _ S' (hcl.set hr') hp hpr).1 rfl
    have h2 := (absAny_plan hK q true (f + 1) listed S hcl hq h.2).2 rfl
    have hall : ∀ j ∈ i :: q.idx, ∃ o S' f', f + 1 = f' + 1 ∧ ops[j]? = some o ∧ stepO C ops.toList o S = some S' ∧ absAny C ops K f' (listed.setIfInBounds j true) S' := fun j hj => by
      rcases List.mem_cons.1 hj with rfl | hj
      · exact ⟨o, S', f, rfl, ho, hs, h1⟩
      · exact h2 j hj
    refine ⟨fun e => ?_, fun _ => hall⟩
    subst e
    have hb : Region.ready .any ops listed = i :: q.idx := by simpa using hb
    refine ⟨fun e => (by rw [hb] at e; cases e), fun j hj => ?_⟩
    rw [hb] at hj
    obtain ⟨o, S', f', hf', g1, g2, g3⟩ := hall j hj
    have : f' = f := by omega
    subst this
    exact ⟨o, S', g1, g2, g3⟩

section two
variable {P : Program} {C : Cx} (G : Good0 P C) {E : Env} (hG : E.G = C.gl)
include G hG

theorem region_sound2 {id : Nat} {ops : Array Oper} {draw : Bool} (hgl : C.gl.length ≤ E.m0.length) (hd : ops.all (dstOk E.n) = true) {prs : List (Nat × Nat)} (hdraw : draw = true → regOk C ops prs = true)
    {m : List Pl} {S : St} {a : Act} {w : World} (T : Tie E m S a w) {K : St → Prop} (hg : ∀ T, K T → T.g = true) (h : rops C ops draw prs S K)
    {Q : Exit → Act → World → Prop} (hQ : ∀ m S a w, Tie E m S a w → K S → Q .normal a w) : (Code.region id ops draw).wp P Q a w := by
  unfold rops at h
  cases draw with
  | false => exact region_sound G hG hd (prs := prs) (by simp) T hg h hQ
  | true =>
    have hr := hdraw rfl
    unfold regOk at hr
    simp only at h
    cases ht : newsAt C ops.toList 0 with
    | none =>
      rw [ht] at h hr
      exact region_sound G hG hd (fun _ => hr) T hg h hQ
    | some kn =>
      obtain ⟨k, n⟩ := kn
      rw [ht] at h hr
      simp only [Bool.and_eq_true, Nat.ble_eq] at h hr
      obtain ⟨hle, hr⟩ := hr
      obtain ⟨T1, r1, h1⟩ := trun_of_aops (fun T hT => hg T (gdB_iff.1 hT).2.2) _ _ h
      obtain ⟨d1, hperm, hk⟩ := gdB_iff.1 h1
      obtain ⟨S1, ra, hS1⟩ := trun_of_aops (fun T hT => (gdB_iff.1 hT).1) _ _ hperm
      have hS1 := permRun_mono (K' := fun T => T.g = true ∧ dynOk prs T = true ∧ ∃ T2, Sq T2 T ∧ subP S.h.length (uni S.h.length T1 T2) T1 T2) (fun T hT => ⟨(gdB_iff.1 hT).2.1, (gdB_iff.1 hT).1, T, Sq.refl _, (gdB_iff.1 hT).2⟩) _ _ _ (gdB_iff.1 hS1).2
      refine wp_region_any G.mixed ?_
      have hsz : ops.toList.length = ops.size := Array.length_toList
      have hrange : List.range' k n ++ List.range' (k + n) (ops.size - (k + n)) = List.range' k (ops.size - k) := by
        have := List.range'_append (s := k) (m := n) (n := ops.size - (k + n)) (step := 1)
        rw [Nat.one_mul] at this
        rw [this]; congr 1; omega
      have hdr : ∀ d j, (ops.toList.drop d)[j]? = ops[d + j]? := fun d j => by rw [List.getElem?_drop, Array.getElem?_toList]
      have H := absAny_P (C := C) (K := fun S' => ∃ T2, Sq T2 S' ∧ subP S.h.length (uni S.h.length T1 T2) T1 T2) (fun S S' q ⟨T2, h1, h2⟩ => ⟨T2, h1.trans q, h2⟩) (n := n) (R := List.range' k n) (rest := List.range' (k + n) (ops.size - (k + n))) (lr := ops.toList.drop (k + n)) (lt := ops.toList.drop k)
        (picks_range _ _ _ (by rw [List.length_drop, hsz]) fun j _ => hdr _ j)
        (by rw [hrange]; exact picks_range _ _ _ (by rw [List.length_drop, hsz]) fun j _ => hdr _ j)
        List.nodup_range' (fun i hi hi' => by simp only [List.mem_range'_1] at hi hi'; omega) d1 (List.range' 0 k) (ops.toList.take k) (Array.replicate ops.size false) S
        (picks_range _ _ _ (by rw [List.length_take, hsz]; omega) fun j hj => by rw [Nat.zero_add, List.getElem?_take_of_lt hj, Array.getElem?_toList])
        List.nodup_range' (fun i hi hi' => by rw [hrange] at hi'; simp only [List.mem_range'_1] at hi hi'; omega)
        (fun i hi => by
          have hlt : i < ops.size := by
            rw [hrange] at hi
            simp only [List.mem_append, List.mem_range'_1] at hi
            omega
          simp [hlt])
        (fun j o hj hl => by have := (Array.getElem?_eq_some_iff.1 hj).1; simp [this] at hl)
        hr (by rw [List.take_append_drop]; exact r1) S1 ra hS1
      have hf : (List.range' (k + n) (ops.size - (k + n))).length + n + (List.range' 0 k).length = ops.size := by simp; omega
      rw [hf] at H
      have T0 : Tie E m S a { w with drawn := w.drawn + 1 } :=
        ⟨T.size, T.defers, T.tmps, T.heap.drew, T.wr, T.src, T.os, T.tape, T.output, T.grown, T.kept, T.pre⟩
      refine any_sound G hG hd (fun m S' a w T' q => ?_) _ _ m S a _ T0 H
      obtain ⟨T2, q, hsub⟩ := q
      have hle : E.m0.length ≤ S.h.length := by rw [← T.heap.len]; exact T.pre.length_le
      obtain ⟨g1, g2, g3⟩ := hsub
      simp only [Bool.and_eq_true] at g2
      exact hQ _ T1 a w ((T'.sq q.symm).sub (ρ := uni S.h.length T1 T2) ⟨g1, by simp only [Bool.and_eq_true]; exact ⟨preB_mono g2.1 hle, g2.2⟩, g3⟩ (by rw [hG]; exact hgl)) hk

theorem region_sound3 {id : Nat} {ops : Array Oper} {draw : Bool} (hgl : C.gl.length ≤ E.m0.length) (hd : ops.all (dstOk E.n) = true) {prs : List (Nat × Nat)} {pt : PT} (hdraw : draw = true → regOkP C ops prs pt = true)
    {m : List Pl} {S : St} {a : Act} {w : World} (T : Tie E m S a w) {K : St → Prop} (hg : ∀ T, K T → T.g = true) (h : ropsP C ops draw prs pt S K)
    {Q : Exit → Act → World → Prop} (hQ : ∀ m S a w, Tie E m S a w → K S → Q .normal a w) : (Code.region id ops draw).wp P Q a w := by
  unfold ropsP at h
  unfold regOkP at hdraw
  cases hn : pt.none with
  | true =>
    rw [hn] at h hdraw
    exact region_sound2 G hG hgl hd hdraw T hg h hQ
  | false =>
    rw [hn] at h hdraw
    simp only at h hdraw
    cases draw with
    | false =>
      refine region_sound2 (draw := false) (prs := prs) G hG hgl hd (fun e => by cases e) T hg ?_ hQ
      exact aops_mono (fun T hT => gdB_iff.2 ⟨(gdB_iff.1 hT).1, (gdB_iff.1 hT).2.2⟩) _ _ h
    | true =>
      have hr := hdraw rfl
      simp only [Bool.and_eq_true] at hr
      obtain ⟨hp0, hr⟩ := hr
      obtain ⟨T1, r1, h1⟩ := trun_of_aops (fun T hT => hg T (gdB_iff.1 hT).2.2) _ _ h
      obtain ⟨d1, hplan, hk⟩ := gdB_iff.1 h1
      refine wp_region_any G.mixed ?_
      have hplan' := planRun_mono (K' := fun S' => ∃ T2, Sq T2 S' ∧ subP S.h.length (uni S.h.length T1 T2) T1 T2) (fun T hT => ⟨T, Sq.refl _, (gdB_iff.1 hT).2⟩) _ _ hplan
      have H := (absAny_plan (C := C) (K := fun S' => ∃ T2, Sq T2 S' ∧ subP S.h.length (uni S.h.length T1 T2) T1 T2) (fun S S' q ⟨T2, h1, h2⟩ => ⟨T2, h1.trans q, h2⟩) pt false ops.size (Array.replicate ops.size false) S
        (fun j o hj hl => by have := (Array.getElem?_eq_some_iff.1 hj).1; simp [this] at hl) hr hplan').1 rfl
      have T0 : Tie E m S a { w with drawn := w.drawn + 1 } :=
        ⟨T.size, T.defers, T.tmps, T.heap.drew, T.wr, T.src, T.os, T.tape, T.output, T.grown, T.kept, T.pre⟩
      refine any_sound G hG hd (fun m S' a w T' q => ?_) _ _ m S a _ T0 H
      obtain ⟨T2, q, hsub⟩ := q
      have hle : E.m0.length ≤ S.h.length := by rw [← T.heap.len]; exact T.pre.length_le
      obtain ⟨g1, g2, g3⟩ := hsub
      simp only [Bool.and_eq_true] at g2
      exact hQ _ T1 a w ((T'.sq q.symm).sub (ρ := uni S.h.length T1 T2) ⟨g1, by simp only [Bool.and_eq_true]; exact ⟨preB_mono g2.1 hle, g2.2⟩, g3⟩ (by rw [hG]; exact hgl)) hk
end two

/-! ### Code -/

/-- The same state, or one that tells no more. -/
def subE (base : Nat) (S0 S : St) : Prop := S0 = S ∨ ∃ ρ, subP base ρ S0 S

def ALoop (base : Nat) (B : St → (AX → St → Prop) → Prop) (S : St) (Q : AX → St → Prop) : Prop :=
  ∃ I : Nat → St → Prop, (∃ n S0, subE base S0 S ∧ I n S0) ∧
    ∀ n S, I n S → B S fun e T => match e with
      | .normal => ∃ n' S0, n' < n ∧ subE base S0 T ∧ I n' S0
      | e => Q e T

/-- A piece of code to one label of which the run comes back. -/
def AScope (base : Nat) (W : Code → St → (AX → St → Prop) → Prop) (c : Code) (S : St) (Q : AX → St → Prop) : Prop :=
  ∃ (l : Nat) (rest : Code) (I : Nat → St → Prop), findLabel c l = some rest ∧
    (W c S fun e T => match e with
      | .goto l' => l' = l ∧ ∃ n S0, subE base S0 T ∧ I n S0
      | e => Q e T) ∧
    ∀ n S, I n S → W rest S fun e T => match e with
      | .goto l' => l' = l ∧ ∃ n' S0, n' < n ∧ subE base S0 T ∧ I n' S0
      | e => Q e T

def awp (C : Cx) : Code → St → (AX → St → Prop) → Prop
  | .skip, S, Q => Q .normal S
  | .region id ops draw, S, Q => ropsP C ops draw (C.dy id) (C.pl id) S (Q .normal)
  | .seq a b, S, Q => awp C a S fun e T => match e with
    | .normal => awp C b T Q
    | e => Q e T
  | .cond c x y, S, Q => match S.ev C.gl c with
    | .bool b => match b with
      | true => awp C x S Q
      | false => awp C y S Q
    | _ => False
  | .block id c, S, Q => awp C c S fun e T => match e with
    | .exit j => match Nat.beq j id with
      | true => Q .normal T
      | false => Q (.exit j) T
    | e => Q e T
  | .loop c, S, Q => C.lp (awp C c) S Q
  | .scope c, S, Q => C.sc c S Q
  | .exit id, S, Q => Q (.exit id) S
  | .label _, S, Q => Q .normal S
  | .goto l, S, Q => Q (.goto l) S
  | .ret, S, Q => Q .ret S
  | _, _, _ => False

def AX.out : AX → Exit
  | .normal => .normal
  | .exit id => .exit id
  | .goto l => .goto l
  | .ret => .ret

/-- What holds at a way out. -/
def Post (E : Env) (Q : AX → St → Prop) (e : Exit) (a : Act) (w : World) : Prop := ∃ x S m, e = AX.out x ∧ Q x S ∧ Tie E m S a w

def codeOk (C : Cx) (n : Nat) : Code → Bool
  | .region id ops draw => ops.all (dstOk n) && (!draw || regOkP C ops (C.dy id) (C.pl id))
  | .seq a b => codeOk C n a && codeOk C n b
  | .cond _ x y => codeOk C n x && codeOk C n y
  | .block _ c => codeOk C n c
  | .loop c => codeOk C n c
  | .scope c => codeOk C n c
  | _ => true

theorem codeOk_label {C : Cx} {n l : Nat} : ∀ {c rest : Code}, codeOk C n c = true → findLabel c l = some rest → codeOk C n rest = true
  | .seq a b, rest, h, hf => by
    simp only [codeOk, Bool.and_eq_true] at h
    simp only [findLabel] at hf
    split at hf
    · rename_i r hr
      simp only [Option.some.injEq] at hf
      subst hf
      simp only [codeOk, Bool.and_eq_true]
      exact ⟨codeOk_label h.1 hr, h.2⟩
    · exact codeOk_label h.2 hf
  | .label l', rest, _, hf => by
    simp only [findLabel] at hf
    split at hf
    · simp only [Option.some.injEq] at hf; subst hf; rfl
    · cases hf
  | .skip, _, _, hf => by simp [findLabel] at hf
  | .region _ _ _, _, _, hf => by simp [findLabel] at hf
  | .cond _ _ _, _, _, hf => by simp [findLabel] at hf
  | .block _ _, _, _, hf => by simp [findLabel] at hf
  | .loop _, _, _, hf => by simp [findLabel] at hf
  | .rangeFunc _ _ _ _, _, _, hf => by simp [findLabel] at hf
  | .exit _, _, _, hf => by simp [findLabel] at hf
  | .scope _, _, _, hf => by simp [findLabel] at hf
  | .goto _, _, _, hf => by simp [findLabel] at hf
  | .ret, _, _, hf => by simp [findLabel] at hf
  | .refuse _, _, _, hf => by simp [findLabel] at hf

/-- The context without a scope. -/
def Cx.flat (C : Cx) : Cx := { C with sc := fun _ _ _ => False }

structure Good (P : Program) (C : Cx) (base : Nat) : Prop where
  g0 : Good0 P C
  lp : C.lp = ALoop base
  sc : C.sc = AScope base (awp C.flat) ∨ C.sc = fun _ _ _ => False
  gl : C.gl.length ≤ base

theorem rops_mono {C : Cx} {ops : Array Oper} {draw : Bool} {prs : List (Nat × Nat)} {S : St} {K K' : St → Prop} (hK : ∀ T, K T → K' T) (h : rops C ops draw prs S K) : rops C ops draw prs S K' := by
  unfold rops at h ⊢
  cases draw with
  | false => exact aops_mono (fun T hT => gdB_iff.2 ⟨(gdB_iff.1 hT).1, hK T (gdB_iff.1 hT).2⟩) _ _ h
  | true =>
    cases ht : newsAt C ops.toList 0 with
    | none =>
      simp only [ht] at h ⊢
      exact aops_mono (fun T hT => gdB_iff.2 ⟨(gdB_iff.1 hT).1, hK T (gdB_iff.1 hT).2⟩) _ _ h
    | some kn =>
      simp only [ht] at h ⊢
      exact aops_mono (fun T hT => gdB_iff.2 ⟨(gdB_iff.1 hT).1, (gdB_iff.1 hT).2.1, hK T (gdB_iff.1 hT).2.2⟩) _ _ h

theorem rops_g {C : Cx} {ops : Array Oper} {draw : Bool} {prs : List (Nat × Nat)} {S : St} {K : St → Prop} (hK : ∀ T, K T → T.g = true) (h : rops C ops draw prs S K) : S.g = true := by
  unfold rops at h
  cases draw with
  | false => exact aops_g (fun T hT => hK T (gdB_iff.1 hT).2) _ _ h
  | true =>
    cases ht : newsAt C ops.toList 0 with
    | none =>
      simp only [ht] at h
      exact aops_g (fun T hT => hK T (gdB_iff.1 hT).2) _ _ h
    | some kn =>
      simp only [ht] at h
      exact aops_g (fun T hT => hK T (gdB_iff.1 hT).2.2) _ _ h

theorem ropsP_mono {C : Cx} {ops : Array Oper} {draw : Bool} {prs : List (Nat × Nat)} {pt : PT} {S : St} {K K' : St → Prop} (hK : ∀ T, K T → K' T) (h : ropsP C ops draw prs pt S K) : ropsP C ops draw prs pt S K' := by
  unfold ropsP at h ⊢
  cases hn : pt.none with
  | true => rw [hn] at h; exact rops_mono hK h
  | false =>
    rw [hn] at h
    exact aops_mono (fun T hT => gdB_iff.2 ⟨(gdB_iff.1 hT).1, (gdB_iff.1 hT).2.1, hK T (gdB_iff.1 hT).2.2⟩) _ _ h

theorem ropsP_g {C : Cx} {ops : Array Oper} {draw : Bool} {prs : List (Nat × Nat)} {pt : PT} {S : St} {K : St → Prop} (hK : ∀ T, K T → T.g = true) (h : ropsP C ops draw prs pt S K) : S.g = true := by
  unfold ropsP at h
  cases hn : pt.none with
  | true => rw [hn] at h; exact rops_g hK h
  | false =>
    rw [hn] at h
    exact aops_g (fun T hT => hK T (gdB_iff.1 hT).2.2) _ _ h

section
variable {C : Cx} {base : Nat}

theorem awp_mono0 (hl : C.lp = ALoop base) (hs : ∀ c S (Q Q' : AX → St → Prop), (∀ e T, Q e T → Q' e T) → C.sc c S Q → C.sc c S Q') : ∀ (c : Code) (S : St) (Q Q' : AX → St → Prop), (∀ e T, Q e T → Q' e T) → awp C c S Q → awp C c S Q'
  | .skip, S, Q, Q', hQ, h => hQ _ _ h
  | .region _ ops _, S, Q, Q', hQ, h => ropsP_mono (fun T hT => hQ _ T hT) h
  | .seq a b, S, Q, Q', hQ, h => awp_mono0 hl hs a S _ _ (fun e T h => by
      cases e with
      | normal => exact awp_mono0 hl hs b T Q Q' hQ h
      | exit id => exact hQ _ _ h
      | goto l => exact hQ _ _ h
      | ret => exact hQ _ _ h) h
  | .cond c x y, S, Q, Q', hQ, h => by
    simp only [awp] at h ⊢
    split at h
    · split at h
      · exact awp_mono0 hl hs x S Q Q' hQ h
      · exact awp_mono0 hl hs y S Q Q' hQ h
    · exact h.elim
  | .block id c, S, Q, Q', hQ, h => awp_mono0 hl hs c S _ _ (fun e T h => by
      cases e with
      | normal => exact hQ _ _ h
      | exit j =>
        simp only at h ⊢
        split at h
        · exact hQ _ _ h
        · exact hQ _ _ h
      | goto l => exact hQ _ _ h
      | ret => exact hQ _ _ h) h
  | .loop c, S, Q, Q', hQ, h => by
    simp only [awp, hl] at h ⊢
    obtain ⟨I, h0, round⟩ := h
    refine ⟨I, h0, fun n S hI => awp_mono0 hl hs c S _ _ (fun e T h => ?_) (round n S hI)⟩
    cases e with
    | normal => exact h
    | exit id => exact hQ _ _ h
    | goto l => exact hQ _ _ h
    | ret => exact hQ _ _ h
  | .exit id, S, Q, Q', hQ, h => hQ _ _ h
  | .label _, S, Q, Q', hQ, h => hQ _ _ h
  | .goto l, S, Q, Q', hQ, h => hQ _ _ h
  | .ret, S, Q, Q', hQ, h => hQ _ _ h
  | .rangeFunc _ _ _ _, S, Q, Q', hQ, h => h.elim
  | .scope c, S, Q, Q', hQ, h => hs c S Q Q' hQ h
  | .refuse _, S, Q, Q', hQ, h => h.elim

theorem sc_mono (hl : C.lp = ALoop base) (hs : C.sc = AScope base (awp C.flat) ∨ C.sc = fun _ _ _ => False) (c : Code) (S : St) (Q Q' : AX → St → Prop) (hQ : ∀ e T, Q e T → Q' e T) (h : C.sc c S Q) : C.sc c S Q' := by
  rcases hs with hs | hs <;> rw [hs] at h ⊢
  · obtain ⟨l, rest, I, h1, h2, h3⟩ := h
    have m0 := awp_mono0 (C := C.flat) hl (fun _ _ _ _ _ h => h)
    refine ⟨l, rest, I, h1, m0 c S _ _ (fun e T h => ?_) h2, fun n S hI => m0 rest S _ _ (fun e T h => ?_) (h3 n S hI)⟩
    all_goals cases e <;> first | exact h | exact hQ _ _ h
  · exact h.elim

theorem awp_mono (hl : C.lp = ALoop base) (hs : C.sc = AScope base (awp C.flat) ∨ C.sc = fun _ _ _ => False) (c : Code) (S : St) (Q Q' : AX → St → Prop) (hQ : ∀ e T, Q e T → Q' e T) (h : awp C c S Q) : awp C c S Q' :=
  awp_mono0 hl (sc_mono hl hs) c S Q Q' hQ h

theorem awp_g0 (hl : C.lp = ALoop base) (hs : ∀ c S (Q : AX → St → Prop), (∀ e T, Q e T → T.g = true) → C.sc c S Q → S.g = true) : ∀ (c : Code) (S : St) (Q : AX → St → Prop), (∀ e T, Q e T → T.g = true) → awp C c S Q → S.g = true
  | .skip, S, Q, hQ, h => hQ _ _ h
  | .region _ ops _, S, Q, hQ, h => ropsP_g (fun T hT => hQ _ T hT) h
  | .seq a b, S, Q, hQ, h => awp_g0 hl hs a S _ (fun e T h => by
      cases e with
      | normal => exact awp_g0 hl hs b T Q hQ h
      | exit id => exact hQ _ _ h
      | goto l => exact hQ _ _ h
      | ret => exact hQ _ _ h) h
  | .cond c x y, S, Q, hQ, h => by
    simp only [awp] at h
    split at h
    · split at h
      · exact awp_g0 hl hs x S Q hQ h
      · exact awp_g0 hl hs y S Q hQ h
    · exact h.elim
  | .block id c, S, Q, hQ, h => awp_g0 hl hs c S _ (fun e T h => by
      cases e with
      | normal => exact hQ _ _ h
      | exit j =>
        simp only at h
        split at h
        · exact hQ _ _ h
        · exact hQ _ _ h
      | goto l => exact hQ _ _ h
      | ret => exact hQ _ _ h) h
  | .loop c, S, Q, hQ, h => by
    simp only [awp, hl] at h
    obtain ⟨I, ⟨n0, S0, hs0, hI0⟩, round⟩ := h
    have key : ∀ (n : Nat) (S : St), I n S → S.g = true := by
      intro n
      induction n using Nat.strongRecOn with
      | _ n ih =>
        intro S hI
        refine awp_g0 hl hs c S _ (fun e T h => ?_) (round n S hI)
        cases e with
        | normal =>
          obtain ⟨n', S1, hlt, hs1, hI1⟩ := h
          rcases hs1 with rfl | ⟨ρ, hs1⟩
          · exact ih n' hlt _ hI1
          · exact hs1.1
        | exit id => exact hQ _ _ h
        | goto l => exact hQ _ _ h
        | ret => exact hQ _ _ h
    rcases hs0 with rfl | ⟨ρ, hs0⟩
    · exact key n0 _ hI0
    · exact hs0.1
  | .exit id, S, Q, hQ, h => hQ _ _ h
  | .label _, S, Q, hQ, h => hQ _ _ h
  | .goto l, S, Q, hQ, h => hQ _ _ h
  | .ret, S, Q, hQ, h => hQ _ _ h
  | .rangeFunc _ _ _ _, S, Q, hQ, h => h.elim
  | .scope c, S, Q, hQ, h => hs c S Q hQ h
  | .refuse _, S, Q, hQ, h => h.elim

theorem sc_keys (hl : C.lp = ALoop base) {l : Nat} {rest : Code} {Q : AX → St → Prop} (hQ : ∀ e T, Q e T → T.g = true) {I : Nat → St → Prop} (h3 : ∀ n S, I n S → awp C.flat rest S fun e T => match e with
      | .goto l' => l' = l ∧ ∃ n' S0, n' < n ∧ subE base S0 T ∧ I n' S0
      | e => Q e T) : ∀ (n : Nat) (S : St), I n S → S.g = true := by
  intro n
  induction n using Nat.strongRecOn with
  | _ n ih =>
    intro S hI
    refine awp_g0 (C := C.flat) hl (fun _ _ _ _ h => h.elim) rest S _ (fun e T h => ?_) (h3 n S hI)
    cases e with
    | goto l' =>
      obtain ⟨_, n', S1, hlt, hs1, hI1⟩ := h
      rcases hs1 with rfl | ⟨ρ, hs1⟩
      · exact ih n' hlt _ hI1
      · exact hs1.1
    | normal => exact hQ _ _ h
    | exit id => exact hQ _ _ h
    | ret => exact hQ _ _ h

theorem sc_g (hl : C.lp = ALoop base) (hs : C.sc = AScope base (awp C.flat) ∨ C.sc = fun _ _ _ => False) (c : Code) (S : St) (Q : AX → St → Prop) (hQ : ∀ e T, Q e T → T.g = true) (h : C.sc c S Q) : S.g = true := by
  rcases hs with hs | hs <;> rw [hs] at h
  · obtain ⟨l, rest, I, h1, h2, h3⟩ := h
    have key := sc_keys hl hQ h3
    refine awp_g0 (C := C.flat) hl (fun _ _ _ _ h => h.elim) c S _ (fun e T h => ?_) h2
    cases e with
    | goto l' =>
      obtain ⟨_, n, S0, hp, hI⟩ := h
      rcases hp with rfl | ⟨ρ, hp⟩
      · exact key n _ hI
      · exact hp.1
    | normal => exact hQ _ _ h
    | exit id => exact hQ _ _ h
    | ret => exact hQ _ _ h
  · exact h.elim
end

theorem least {p : Nat → Prop} (h : ∃ n, p n) : ∃ n, p n ∧ ∀ k, k < n → ¬ p k := by
  obtain ⟨n, hn⟩ := h
  induction n using Nat.strongRecOn with
  | _ n ih =>
    by_cases hk : ∃ k, k < n ∧ p k
    · obtain ⟨k, h1, h2⟩ := hk; exact ih k h1 h2
    · exact ⟨n, hn, fun k h1 h2 => hk ⟨k, h1, h2⟩⟩

section sound
variable {P : Program} {C : Cx} {base : Nat} {E : Env}

theorem awp_sound0 (G : Good0 P C) (hl : C.lp = ALoop base) (hgl : C.gl.length ≤ base) (hE : E.m0.length = base) (hG : E.G = C.gl)
    (hsg : ∀ c S (Q : AX → St → Prop), (∀ e T, Q e T → T.g = true) → C.sc c S Q → S.g = true)
    (hsc : ∀ c, codeOk C E.n c = true → ∀ (S : St) (Q : AX → St → Prop), (∀ e T, Q e T → T.g = true) → C.sc c S Q → ∀ (m : List Pl) (a : Act) (w : World), Tie E m S a w → (Code.scope c).wp P (Post E Q) a w) :
    ∀ (c : Code), codeOk C E.n c = true → ∀ (S : St) (Q : AX → St → Prop), (∀ e T, Q e T → T.g = true) → awp C c S Q →
    ∀ (m : List Pl) (a : Act) (w : World), Tie E m S a w → c.wp P (Post E Q) a w
  | .skip, _, S, Q, hQ, h, m, a, w, T => wp_skip ⟨.normal, S, m, rfl, h, T⟩
  | .region id ops draw, hc, S, Q, hQ, h, m, a, w, T => by
    simp only [codeOk, Bool.and_eq_true, Bool.or_eq_true, Bool.not_eq_true'] at hc
    exact region_sound3 G hG (by rw [hE]; exact hgl) hc.1 (fun hd => hc.2.resolve_left (by rw [hd]; simp)) T (hQ _) h (fun m S a w T hk => ⟨.normal, S, m, rfl, hk, T⟩)
  | .seq x y, hc, S, Q, hQ, h, m, a, w, T => by
    simp only [codeOk, Bool.and_eq_true] at hc
    refine wp_seq (wp_mono (awp_sound0 G hl hgl hE hG hsg hsc x hc.1 S _ (fun e T h => ?_) h m a w T) ?_)
    · cases e with
      | normal => exact awp_g0 hl hsg y T Q hQ h
      | exit id => exact hQ _ _ h
      | goto l => exact hQ _ _ h
      | ret => exact hQ _ _ h
    · rintro e a' w' ⟨x', S', m', rfl, h', T'⟩
      cases x' with
      | normal => exact awp_sound0 G hl hgl hE hG hsg hsc y hc.2 S' Q hQ h' m' a' w' T'
      | exit id => exact ⟨.exit id, S', m', rfl, h', T'⟩
      | goto l => exact ⟨.goto l, S', m', rfl, h', T'⟩
      | ret => exact ⟨.ret, S', m', rfl, h', T'⟩
  | .cond c x y, hc, S, Q, hQ, h, m, a, w, T => by
    simp only [codeOk, Bool.and_eq_true] at hc
    simp only [awp] at h
    split at h
    · rename_i b hb
      have he := ev_bool (G := C.gl) (hG ▸ T.tmps) hb
      split at h
      · exact wp_cond_true he (awp_sound0 G hl hgl hE hG hsg hsc x hc.1 S Q hQ h m a w T)
      · exact wp_cond_false he (awp_sound0 G hl hgl hE hG hsg hsc y hc.2 S Q hQ h m a w T)
    · exact h.elim
  | .block id c, hc, S, Q, hQ, h, m, a, w, T => by
    simp only [codeOk] at hc
    refine wp_block (wp_mono (awp_sound0 G hl hgl hE hG hsg hsc c hc S _ (fun e T h => ?_) h m a w T) ?_)
    · cases e with
      | normal => exact hQ _ _ h
      | exit j =>
        simp only at h
        split at h
        · exact hQ _ _ h
        · exact hQ _ _ h
      | goto l => exact hQ _ _ h
      | ret => exact hQ _ _ h
    · rintro e a' w' ⟨x', S', m', rfl, h', T'⟩
      cases x' with
      | normal => exact ⟨.normal, S', m', rfl, h', T'⟩
      | exit j =>
        simp only [AX.out, Exit.inBlock]
        simp only at h'
        split at h'
        · rename_i hj
          rw [if_pos (by simpa using hj)]
          exact ⟨.normal, S', m', rfl, h', T'⟩
        · rename_i hj
          rw [if_neg (by intro e; subst e; simp at hj)]
          exact ⟨.exit j, S', m', rfl, h', T'⟩
      | goto l => exact ⟨.goto l, S', m', rfl, h', T'⟩
      | ret => exact ⟨.ret, S', m', rfl, h', T'⟩
  | .loop c, hc, S, Q, hQ, h, m, a, w, T => by
    simp only [codeOk] at hc
    simp only [awp, hl] at h
    obtain ⟨I, ⟨n0, S0, hs, hI⟩, round⟩ := h
    have hsub : ∀ {m S0 S a w}, Tie E m S a w → subE base S0 S → ∃ m', Tie E m' S0 a w := fun T h => by
      rcases h with rfl | ⟨ρ, h⟩
      · exact ⟨_, T⟩
      · exact ⟨_, T.sub (by rw [hE]; exact h) (by rw [hE, hG]; exact hgl)⟩
    have key : ∀ (n : Nat) (S : St), I n S → S.g = true := by
      intro n
      induction n using Nat.strongRecOn with
      | _ n ih =>
        intro S hI
        refine awp_g0 hl hsg c S _ (fun e T h => ?_) (round n S hI)
        cases e with
        | normal =>
          obtain ⟨n', S1, hlt, hs1, hI1⟩ := h
          rcases hs1 with rfl | ⟨ρ, hs1⟩
          · exact ih n' hlt _ hI1
          · exact hs1.1
        | exit id => exact hQ _ _ h
        | goto l => exact hQ _ _ h
        | ret => exact hQ _ _ h
    obtain ⟨m1, T1⟩ := hsub T hs
    refine wp_loop_ghost (fun n a w => ∃ S m, I n S ∧ Tie E m S a w) n0 ⟨S0, _, hI, T1⟩ ?_
    rintro n a w ⟨S, m, hI, T⟩
    refine wp_mono (awp_sound0 G hl hgl hE hG hsg hsc c hc S _ (fun e T h => ?_) (round n S hI) m a w T) ?_
    · cases e with
      | normal =>
        obtain ⟨n', S1, hlt, hs1, hI1⟩ := h
        rcases hs1 with rfl | ⟨ρ, hs1⟩
        · exact key n' _ hI1
        · exact hs1.1
      | exit id => exact hQ _ _ h
      | goto l => exact hQ _ _ h
      | ret => exact hQ _ _ h
    · rintro e a' w' ⟨x', S', m', rfl, h', T'⟩
      cases x' with
      | normal =>
        obtain ⟨n', S1, hlt, hs1, hI1⟩ := h'
        obtain ⟨m2, T2⟩ := hsub T' hs1
        exact ⟨n', hlt, S1, _, hI1, T2⟩
      | exit id => exact ⟨.exit id, S', m', rfl, h', T'⟩
      | goto l => exact ⟨.goto l, S', m', rfl, h', T'⟩
      | ret => exact ⟨.ret, S', m', rfl, h', T'⟩
  | .exit id, _, S, Q, hQ, h, m, a, w, T => wp_exit ⟨.exit id, S, m, rfl, h, T⟩
  | .label _, _, S, Q, hQ, h, m, a, w, T => wp_label ⟨.normal, S, m, rfl, h, T⟩
  | .goto l, _, S, Q, hQ, h, m, a, w, T => wp_goto ⟨.goto l, S, m, rfl, h, T⟩
  | .ret, _, S, Q, hQ, h, m, a, w, T => wp_ret ⟨.ret, S, m, rfl, h, T⟩
  | .rangeFunc _ _ _ _, _, S, Q, hQ, h, m, a, w, T => h.elim
  | .scope c, hc, S, Q, hQ, h, m, a, w, T => hsc c hc S Q hQ h m a w T
  | .refuse _, _, S, Q, hQ, h, m, a, w, T => h.elim

theorem freeA_flat (ops : Array Oper) (an : List Nat) (prs : List (Nat × Nat)) (listed : Array Bool) (k : Nat) : freeA C.flat ops an prs listed k = freeA C ops an prs listed k := rfl

theorem lexA_flat (ops : Array Oper) (an : List Nat) (prs : List (Nat × Nat)) : ∀ (n k : Nat) (listed : Array Bool), lexA C.flat ops an prs n k listed = lexA C ops an prs n k listed
  | 0, _, _ => rfl
  | n + 1, k, listed => by simp only [lexA]; rw [lexA_flat ops an prs n, freeA_flat]

theorem lexL_flat (ops : Array Oper) (an : List Nat) (prs : List (Nat × Nat)) : ∀ (il : List Nat) (listed : Array Bool), lexL C.flat ops an prs il listed = lexL C ops an prs il listed
  | [], _ => rfl
  | k :: r, listed => by simp only [lexL]; rw [lexL_flat ops an prs r, freeA_flat]

theorem lexN_flat (ops : Array Oper) (an : List Nat) (prs : List (Nat × Nat)) (rest : List Nat) : ∀ (f : Nat) (R : List Nat) (listed : Array Bool), lexN C.flat ops an prs rest f R listed = lexN C ops an prs rest f R listed
  | 0, R, _ => by simp only [lexN]; rw [lexL_flat]
  | f + 1, R, listed => by
    simp only [lexN]
    congr 1
    exact congrArg R.all (funext fun i => lexN_flat ops an prs rest f _ _)

theorem lexP_flat (ops : Array Oper) (an : List Nat) (prs : List (Nat × Nat)) (n : Nat) (R rest : List Nat) : ∀ (il : List Nat) (listed : Array Bool), lexP C.flat ops an prs n R rest il listed = lexP C ops an prs n R rest il listed
  | [], _ => by simp only [lexP]; rw [lexN_flat]
  | i :: r, listed => by simp only [lexP]; rw [lexP_flat ops an prs n R rest r, freeA_flat]

theorem runLen_flat (k : Nat) : ∀ (l : List Oper), runLen C.flat k l = runLen C k l
  | [] => rfl
  | x :: r => by simp only [runLen]; rw [runLen_flat k r]; rfl

theorem newsAt_flat : ∀ (l : List Oper) (k : Nat), newsAt C.flat l k = newsAt C l k
  | [], _ => rfl
  | x :: r, k => by simp only [newsAt]; rw [newsAt_flat r, runLen_flat]; rfl

theorem regOk_flat (ops : Array Oper) (prs : List (Nat × Nat)) : regOk C.flat ops prs = regOk C ops prs := by
  unfold regOk
  have hn : newsAt C.flat ops.toList 0 = newsAt C ops.toList 0 := newsAt_flat _ _
  rw [hn]
  cases newsAt C ops.toList 0 with
  | none => exact lexA_flat _ _ _ _ _ _
  | some kn => simp only; rw [lexP_flat]

theorem planOk_flat (ops : Array Oper) (an : List Nat) : ∀ (p : PT) (b : Bool) (f : Nat) (listed : Array Bool), planOk C.flat ops an p b f listed = planOk C ops an p b f listed
  | .done, b, f, listed => rfl
  | .nil, b, f, listed => rfl
  | .step i p, b, f, listed => by
    cases f with
    | zero => rfl
    | succ f => simp only [planOk]; rw [planOk_flat ops an p]; rfl
  | .alt i p q, b, f, listed => by
    cases f with
    | zero => rfl
    | succ f => simp only [planOk]; rw [planOk_flat ops an p, planOk_flat ops an q]

theorem regOkP_flat (ops : Array Oper) (prs : List (Nat × Nat)) (pt : PT) : regOkP C.flat ops prs pt = regOkP C ops prs pt := by
  unfold regOkP
  rw [regOk_flat, planOk_flat]

theorem codeOk_flat {n : Nat} : ∀ (c : Code), codeOk C.flat n c = codeOk C n c
  | .region _ ops _ => by simp only [codeOk]; rw [regOkP_flat]; rfl
  | .seq a b => by simp only [codeOk]; rw [codeOk_flat a, codeOk_flat b]
  | .cond _ x y => by simp only [codeOk]; rw [codeOk_flat x, codeOk_flat y]
  | .block _ c => by simp only [codeOk]; exact codeOk_flat c
  | .loop c => by simp only [codeOk]; exact codeOk_flat c
  | .scope c => by simp only [codeOk]; exact codeOk_flat c
  | .skip => rfl
  | .exit _ => rfl
  | .label _ => rfl
  | .goto _ => rfl
  | .ret => rfl
  | .rangeFunc _ _ _ _ => rfl
  | .refuse _ => rfl

theorem awp_sound (G : Good P C base) (hE : E.m0.length = base) (hG : E.G = C.gl) (c : Code) (hc : codeOk C E.n c = true) (S : St) (Q : AX → St → Prop) (hQ : ∀ e T, Q e T → T.g = true) (h : awp C c S Q)
    (m : List Pl) (a : Act) (w : World) (T : Tie E m S a w) : c.wp P (Post E Q) a w := by
  have flat : ∀ (c : Code), codeOk C E.n c = true → ∀ (S : St) (Q : AX → St → Prop), (∀ e T, Q e T → T.g = true) → awp C.flat c S Q → ∀ (m : List Pl) (a : Act) (w : World), Tie E m S a w → c.wp P (Post E Q) a w := fun c hc =>
    awp_sound0 (C := C.flat) ⟨G.g0.A, G.g0.τ, G.g0.Γ, G.g0.Δ, G.g0.ε, G.g0.mixed⟩ G.lp G.gl hE hG (fun _ _ _ _ h => h.elim) (fun _ _ _ _ _ h => h.elim) c (by rw [codeOk_flat]; exact hc)
  refine awp_sound0 G.g0 G.lp G.gl hE hG (sc_g G.lp G.sc) (fun c hc S Q hQ h m a w T => ?_) c hc S Q hQ h m a w T
  rcases G.sc with hs | hs <;> rw [hs] at h
  case inr => exact h.elim
  obtain ⟨l, rest, I, h1, h2, h3⟩ := h
  have hr := codeOk_label hc h1
  have hsub : ∀ {m S0 S a w}, Tie E m S a w → subE base S0 S → ∃ m', Tie E m' S0 a w := fun T h => by
    rcases h with rfl | ⟨ρ, h⟩
    · exact ⟨_, T⟩
    · exact ⟨_, T.sub (by rw [hE]; exact h) (by rw [hE, hG]; exact G.gl)⟩
  have key := sc_keys G.lp hQ h3
  let R : Nat → Act → World → Prop := fun n a w => ∃ S m, I n S ∧ Tie E m S a w
  have hμ : ∃ μ : Act → World → Nat, ∀ a w, (∃ n, R n a w) → R (μ a w) a w ∧ ∀ k, k < μ a w → ¬ R k a w := by
    have ex : ∀ a w, ∃ n, (∃ n, R n a w) → R n a w ∧ ∀ k, k < n → ¬ R k a w := fun a w => by
      by_cases h : ∃ n, R n a w
      · obtain ⟨n, h1⟩ := least h
        exact ⟨n, fun _ => h1⟩
      · exact ⟨0, fun h' => absurd h' h⟩
    exact ⟨fun a w => Classical.choose (ex a w), fun a w => Classical.choose_spec (ex a w)⟩
  obtain ⟨μ, hμ⟩ := hμ
  refine wp_scope_jumps l (fun a w => ∃ n, R n a w) μ h1 ?_ ?_
  · refine wp_mono (flat c hc S _ (fun e T h => ?_) h2 m a w T) ?_
    · cases e with
      | goto l' =>
        obtain ⟨_, n, S0, hp, hI⟩ := h
        rcases hp with rfl | ⟨ρ, hp⟩
        · exact key n _ hI
        · exact hp.1
      | normal => exact hQ _ _ h
      | exit id => exact hQ _ _ h
      | ret => exact hQ _ _ h
    · rintro e a' w' ⟨x', S', m', rfl, h', T'⟩
      cases x' with
      | goto l' =>
        obtain ⟨rfl, n, S0, hp, hI⟩ := h'
        obtain ⟨m2, T2⟩ := hsub T' hp
        exact ⟨rfl, n, S0, _, hI, T2⟩
      | normal => exact ⟨.normal, S', m', rfl, h', T'⟩
      | exit id => exact ⟨.exit id, S', m', rfl, h', T'⟩
      | ret => exact ⟨.ret, S', m', rfl, h', T'⟩
  · intro a w hJ
    obtain ⟨⟨S, m, hI, T⟩, hmin⟩ := hμ a w hJ
    refine wp_mono (flat rest hr S _ (fun e T h => ?_) (h3 _ S hI) m a w T) ?_
    · cases e with
      | goto l' =>
        obtain ⟨_, n, S0, _, hp, hI⟩ := h
        rcases hp with rfl | ⟨ρ, hp⟩
        · exact key n _ hI
        · exact hp.1
      | normal => exact hQ _ _ h
      | exit id => exact hQ _ _ h
      | ret => exact hQ _ _ h
    · rintro e a' w' ⟨x', S', m', rfl, h', T'⟩
      cases x' with
      | goto l' =>
        obtain ⟨rfl, n, S0, hlt, hp, hI'⟩ := h'
        obtain ⟨m2, T2⟩ := hsub T' hp
        have hR : R n a' w' := ⟨S0, _, hI', T2⟩
        refine ⟨rfl, ⟨n, hR⟩, ?_⟩
        obtain ⟨_, hm2⟩ := hμ a' w' ⟨n, hR⟩
        rcases Nat.lt_or_ge n (μ a' w') with h4 | h4
        · exact absurd hR (hm2 n h4)
        · omega
      | normal => exact ⟨.normal, S', m', rfl, h', T'⟩
      | exit id => exact ⟨.exit id, S', m', rfl, h', T'⟩
      | ret => exact ⟨.ret, S', m', rfl, h', T'⟩
end sound

/-! ### Functions -/

def resA (C : Cx) (rs : List ResultVar) (S : St) : Bool × List SV :=
  match rs with
  | [] => (true, [])
  | .tmp t :: r => match resA C r S with
    | (ok, l) => ((look S.t t).good && ok, look S.t t :: l)
  | .cell a t :: r => match loadO C.A C.τ t (look S.t a) S.h, resA C r S with
    | ⟨ok, v, _⟩, (ok', l) => (ok && (v.good && ok'), v :: l)

def oneTup : List SV → SV
  | [v] => v
  | l => .tup l

def start (args : List SV) : List (Nat × SV) := go 0 args
where go : Nat → List SV → List (Nat × SV)
  | _, [] => []
  | i, v :: r => (i, v) :: go (i + 1) r

/-- A function's body, from its arguments: what is asked of what it hands back. -/
def afun (C : Cx) (fn : Func) (args : List SV) (h : List Blk) (K : Bool → SV → List Blk → Prop) : Prop :=
  match fn.body with
  | none => False
  | some c => awp C c ⟨start args, h, true⟩ fun e T =>
    match e with
    | .normal => (match resA C fn.results.toList T with | (ok, l) => K (ok && T.g) (oneTup l) T.h)
    | .ret => (match resA C fn.results.toList T with | (ok, l) => K (ok && T.g) (oneTup l) T.h)
    | _ => False

/-- How one result is read. -/
def resF (a : Act) : ResultVar → Sem Value
  | .tmp t => pure (a.tmps.getD t undef)
  | .cell b t => do loadVar t (← asAddr (a.tmps.getD b undef))

theorem run_asAddr (P : Program) (x : Addr) (w : World) : (asAddr (.pointer (some x))).run P w = .ok x w := rfl

theorem resA_sound {P : Program} {C : Cx} (G : Good0 P C) {E : Env} {m : List Pl} {S : St} {a : Act} {w : World} (T : Tie E m S a w) : ∀ (rs : List ResultVar) (l : List SV), resA C rs S = (true, l) →
    ∃ us : List Value, (rs.mapM (resF a)).run P w = .ok us w ∧ SV.vals m l = some us
  | [], l, h => by
    simp [resA] at h
    subst h
    exact ⟨[], by simp, rfl⟩
  | .tmp t :: r, l, h => by
    simp only [resA] at h
    cases hr : resA C r S with
    | mk ok l' =>
    rw [hr] at h
    simp only [Prod.mk.injEq, Bool.and_eq_true] at h
    obtain ⟨⟨h1, rfl⟩, rfl⟩ := h
    obtain ⟨us, h2, h3⟩ := resA_sound G T r l' hr
    have hv : (look S.t t).val m = some (a.tmps.getD t undef) := (T.tmps.slot t).resolve_left (by intro e; rw [e] at h1; cases h1)
    refine ⟨a.tmps.getD t undef :: us, ?_, by simp only [SV.vals, hv, h3, Option.bind_some, Option.map_some]⟩
    have h0 : (resF a (.tmp t)).run P w = .ok (a.tmps.getD t undef) w := rfl
    rw [List.mapM_cons]
    simp only [Sem.run_bind, h0, Result.andThen_ok, h2, Sem.run_pure]
  | .cell b t :: r, l, h => by
    simp only [resA] at h
    cases hl : loadO C.A C.τ t (look S.t b) S.h with
    | mk ok v h' =>
    cases hr : resA C r S with
    | mk ok' l' =>
    rw [hl, hr] at h
    simp only [Prod.mk.injEq, Bool.and_eq_true] at h
    obtain ⟨⟨rfl, hg, rfl⟩, rfl⟩ := h
    obtain ⟨us, h2, h3⟩ := resA_sound G T r l' hr
    rw [G.A] at hl
    have hex : ∃ u, (resF a (.cell b t)).run P w = .ok u w ∧ v.val m = some u := by
      unfold loadO at hl
      cases hi : C.τ t with
      | none => rw [hi] at hl; simp [R.fail] at hl
      | some i =>
        cases hx : ptrOf (look S.t b) with
        | none => rw [hi, hx] at hl; simp [R.fail] at hl
        | some q =>
          obtain ⟨id, p⟩ := q
          obtain ⟨q, hq, hn, he⟩ := ev_at (x := .tmp b) T.tmps hx
          have he : a.tmps.getD b undef = .pointer (some ⟨q.blk, q.off + p.cell, none⟩) := he
          have hlv : ∃ u, (loadVar t ⟨q.blk, q.off + p.cell, none⟩).run P w = .ok u w ∧ v.val m = some u := by
            rw [hi, hx] at hl
            dsimp only at hl
            have f := G.τ t i hi
            split at hl
            · rename_i hag
              cases hrd : (blkAt S.h id).c.rds std p i.size with
              | mk ok l0 =>
              rw [hrd] at hl
              simp only [R.mk.injEq, Bool.and_eq_true] at hl
              obtain ⟨⟨hlv, rfl⟩, rfl, rfl⟩ := hl
              have hh := T.heap.holds id q _ hq (blkAt_some hlv) (live_kind hlv)
              obtain ⟨g1, g2, g3⟩ := Cs.rds_spec hh.wf _ hrd
              have hex : ∃ vs : List Value, vs.length = i.size ∧ ∀ (j : Nat) (v : Value), vs[j]? = some v → ((blkAt S.h id).c.get (p.cell + j)).val m = some v ∧ v.oneCell' = true ∧ w.cell? ⟨q.blk, q.off + p.cell + j, none⟩ = some v := by
                rcases Nat.eq_zero_or_pos i.size with h0 | h0
                · exact ⟨[], by simp [h0], by simp⟩
                · exact hh.read (g2 h0)
              obtain ⟨vs, hvl, hvs⟩ := hex
              have hld := run_loadCells_list (P := P) w ⟨q.blk, q.off + p.cell, none⟩ vs (fun j v hj => by rw [addr_add]; exact (hvs j v hj).2.2)
              rw [hvl] at hld
              have hv : SV.vals m l0 = some vs := vals_same (by omega) (fun j v hj => by
                have hjl : j < i.size := by rw [← hvl]; exact (List.getElem?_eq_some_iff.1 hj).1
                rw [g3 j hjl m]; exact (hvs j v hj).1)
              exact ⟨.agg vs.toArray, by simp [loadVar, f.run_isAgg, hag, f.run_sizeOf, hld], by simp [SV.val, hv]⟩
            · rename_i hag
              cases hrd : (blkAt S.h id).c.rd std p with
              | mk ok v0 =>
              rw [hrd] at hl
              simp only [R.mk.injEq, Bool.and_eq_true] at hl
              obtain ⟨⟨hlv, rfl⟩, rfl, rfl⟩ := hl
              have hh := T.heap.holds id q _ hq (blkAt_some hlv) (live_kind hlv)
              obtain ⟨g1, g2⟩ := Cs.rd_spec rfl hh.wf hrd
              obtain ⟨u, hu, _, hc⟩ := hh.cells _ g1
              have hc' : w.cell? ⟨q.blk, q.off + p.cell, none⟩ = some u := hc
              exact ⟨u, by simp [loadVar, f.run_isAgg, hag, hc'], (g2 m).trans hu⟩
          obtain ⟨u, hu, hv⟩ := hlv
          exact ⟨u, by simp only [resF, he, Sem.run_bind, run_asAddr, Result.andThen_ok, hu], hv⟩
    obtain ⟨u, hu, hv⟩ := hex
    refine ⟨u :: us, ?_, by simp only [SV.vals, hv, h3, Option.bind_some, Option.map_some]⟩
    rw [List.mapM_cons]
    simp only [Sem.run_bind, hu, Result.andThen_ok, h2, Sem.run_pure]

theorem results_eq (fn : Func) (a : Act) : results fn a.tmps = (do
    let vs ← fn.results.mapM (resF a)
    pure (if h : vs.size = 1 then vs[0] else .tuple vs) : Sem Value) := rfl

theorem results_sound {P : Program} {C : Cx} (G : Good0 P C) {E : Env} {m : List Pl} {S : St} {a : Act} {w : World} (T : Tie E m S a w) {fn : Func} {l : List SV} (h : resA C fn.results.toList S = (true, l)) :
    ∃ u, (results fn a.tmps).run P w = .ok u w ∧ (oneTup l).val m = some u := by
  obtain ⟨us, h1, h2⟩ := resA_sound G T _ _ h
  refine ⟨if h : us.toArray.size = 1 then us.toArray[0] else .tuple us.toArray, ?_, ?_⟩
  · rw [results_eq, Array.mapM_eq_mapM_toList]
    simp only [Sem.run_bind, Sem.run_map, h1, Result.andThen_ok, Sem.run_pure]
  · match l, us, h2 with
    | [], us, h2 => simp [SV.vals] at h2; subst h2; simp [oneTup, SV.val, SV.vals]
    | [v], us, h2 =>
      simp only [SV.vals, Option.bind_eq_some_iff, Option.map_eq_some_iff] at h2
      obtain ⟨u, hu, b, hb, rfl⟩ := h2
      simp at hb; subst hb
      simpa [oneTup] using hu
    | v :: v' :: r, us, h2 =>
      have hl := vals_length h2
      have : ¬ us.toArray.size = 1 := by simp [hl]
      rw [dif_neg this]
      simp [oneTup, SV.val, h2]

theorem look_start (args : List SV) : ∀ (k i : Nat), look (start.go k args) i = if k ≤ i then args.getD (i - k) .bad else .bad := by
  induction args with
  | nil => intro k i; simp [start.go, look]
  | cons v r ih =>
    intro k i
    simp only [start.go, look]
    cases hb : Nat.beq k i with
    | true =>
      have : k = i := by simpa using hb
      subst this
      simp
    | false =>
      have hne : k ≠ i := by intro e; subst e; simp at hb
      simp only [ih]
      by_cases h : k + 1 ≤ i
      · rw [if_pos h, if_pos (by omega)]
        rw [show i - k = (i - (k + 1)) + 1 by omega]
        simp
      · rw [if_neg h, if_neg (by omega)]

/-- A call, out of its body. -/
theorem calls_of_afun {P : Program} {C : Cx} {base : Nat} (G : Good P C base) {f : FuncId} {fn : Func} {c : Code} (hf : P.funcs[f]? = some fn) (hb : fn.body = some c) (hc : codeOk C fn.ntmps c = true) {m : List Pl} {h : List Blk} {w : World} (H : HTie m h w)
    (hgl : GOk C.gl m) (hbase : m.length = base) {may from_ : Nat → Prop} (hmay : ∀ (i : Nat) (p : Pl) (b : Blk), m[i]? = some p → h[i]? = some b → b.k.wr = true → p.nil = false → may p.blk)
    (hfrom : ∀ (i : Nat) (p : Pl) (b : Blk), m[i]? = some p → h[i]? = some b → b.k ≠ .dead → p.nil = false → from_ p.blk)
    {args : List SV} {us : List Value} (hv : SV.vals m args = some us) (hn : args.length ≤ fn.ntmps) {R : SV → List Blk → Prop} (hfun : afun C fn args h (fun ok r hT => ok = true ∧ R r hT)) :
    Calls P f us.toArray w fun e w' => ∃ r u mf S a, R r S.h ∧ r.val mf = some u ∧ e = .returned u ∧ S.g = true ∧ Tie ⟨C.gl, fn.ntmps, w, may, from_, m⟩ mf S a w' := by
  have hul := vals_length hv
  unfold afun at hfun
  rw [hb] at hfun
  refine calls_of_wp hf hb ?_
  refine wp_mono (awp_sound G (E := ⟨C.gl, fn.ntmps, w, may, from_, m⟩) hbase rfl c hc ⟨start args, h, true⟩ _ (fun e T hq => ?_) hfun m _ w ?_) ?_
  · cases e <;> simp only at hq
    case normal =>
      simp only [Bool.and_eq_true] at hq
      exact hq.1.2
    case ret =>
      simp only [Bool.and_eq_true] at hq
      exact hq.1.2
    all_goals exact hq.elim
  · refine ⟨by simp; omega, rfl, ⟨fun i => ?_, hgl⟩, H, fun i p b h1 h2 h3 h4 => .inl (hmay i p b h1 h2 h3 h4), fun i p b h1 h2 h3 h4 => .inl (hfrom i p b h1 h2 h3 h4), rfl, rfl, rfl, Nat.le_refl _, fun _ _ _ => rfl, List.prefix_rfl⟩
    simp only [start, look_start, Nat.zero_le, if_true, Nat.sub_zero, List.getD_eq_getElem?_getD]
    cases hi : args[i]? with
    | none => exact .inl rfl
    | some v =>
      obtain ⟨u, hu, hvu⟩ := vals_get hv hi
      right
      simp only [Option.getD_some, hvu, Array.getD_eq_getD_getElem?]
      rw [Array.getElem?_append_left (by simp; exact (List.getElem?_eq_some_iff.1 hu).1)]
      simp [hu]
  · rintro e a' w' ⟨x, S', m', rfl, hq, T⟩
    have fin : ∀ l ok, resA C fn.results.toList S' = (ok, l) → (ok && S'.g) = true → R (oneTup l) S'.h → a'.defers = [] ∧ ∃ v, (results fn a'.tmps).run P w' = .ok v w' ∧ ∃ r u mf S a, R r S.h ∧ r.val mf = some u ∧ Ending.returned v = .returned u ∧ S.g = true ∧ Tie ⟨C.gl, fn.ntmps, w, may, from_, m⟩ mf S a w' := fun l ok h1 h2 h3 => by
      simp only [Bool.and_eq_true] at h2
      obtain ⟨rfl, hg⟩ := h2
      obtain ⟨u, hu, hvu⟩ := results_sound G.g0 T h1
      exact ⟨T.defers, u, hu, _, u, m', S', a', h3, hvu, rfl, hg, T⟩
    cases x <;> simp only at hq
    case normal => exact fin _ _ rfl hq.1 hq.2
    case ret => exact fin _ _ rfl hq.1 hq.2
    all_goals exact hq.elim

/-- What is known of a function that is called without blocks: it hands back this. -/
def Con (P : Program) (f : FuncId) (F : List SV → Bool × SV) : Prop := ∀ (args : List SV) (v : SV), F args = (true, v) → ∀ (m : List Pl) (us : List Value) (w : World), SV.vals m args = some us →
  ∃ u, v.val [] = some u ∧ ((∃ fn, P.funcs[f]? = some fn ∧ fn.body.isSome = true ∧ (fn.name == "runtime.NumGoroutine") = false ∧ Calls P f us.toArray w fun e w' => e = .returned u ∧ Below w.heap.size w w') ∨
    (callFunc f us.toArray).run P w = .ok (.value u) w)

def gam : List (FuncId × (List SV → Bool × SV)) → Cons
  | [], _ => none
  | (g, F) :: r, f => match Nat.beq g f with
    | true => some F
    | false => gam r f

theorem gam_ok {P : Program} : ∀ {l : List (FuncId × (List SV → Bool × SV))}, (∀ p ∈ l, Con P p.1 p.2) → COk P (gam l)
  | [], _ => fun f F h => by simp [gam] at h
  | (g, F0) :: r, hl => fun f F h => by
    simp only [gam] at h
    cases hb : Nat.beq g f with
    | true =>
      rw [hb] at h
      have : g = f := by simpa using hb
      subst this
      simp only [Option.some.injEq] at h
      subst h
      exact hl (g, F0) (by simp)
    | false =>
      rw [hb] at h
      exact gam_ok (fun p hp => hl p (by simp [hp])) f F h

def dlt : List (FuncId × HF) → HCons
  | [], _ => none
  | (g, F) :: r, f => match Nat.beq g f with
    | true => some F
    | false => dlt r f

theorem dlt_ok {P : Program} {G : List Nat} : ∀ {l : List (FuncId × HF)}, (∀ p ∈ l, HCon P G p.1 p.2) → DOk P G (dlt l)
  | [], _ => fun f F h => by simp [dlt] at h
  | (g, F0) :: r, hl => fun f F h => by
    simp only [dlt] at h
    cases hb : Nat.beq g f with
    | true =>
      rw [hb] at h
      have : g = f := by simpa using hb
      subst this
      simp only [Option.some.injEq] at h
      subst h
      exact hl (g, F0) (by simp)
    | false =>
      rw [hb] at h
      exact dlt_ok (fun p hp => hl p (by simp [hp])) f F h

/-- How a walk ends: this value, told by equations; no pointer in it. -/
def FinP (v : SV) (ok : Bool) (r : SV) (_ : List Blk) : Prop := ok = true ∧ (v.idsLt 0 = true ∧ v.sb [] r)

/-- A contract of a function without blocks, out of its body. -/
theorem con_of {P : Program} {f : FuncId} {fn : Func} {c : Code} (hf : P.funcs[f]? = some fn) (hb : fn.body = some c) (hname : (fn.name == "runtime.NumGoroutine") = false) {F : List SV → Bool × SV}
    (h : ∀ (args : List SV) (v : SV) (us : List Value), F args = (true, v) → SV.vals [] args = some us → ∃ (C : Cx) (args' : List SV), Good P C 0 ∧ C.gl = [] ∧ codeOk C fn.ntmps c = true ∧ SV.vals [] args' = some us ∧ args'.length ≤ fn.ntmps ∧ afun C fn args' [] (FinP v))
    (hid : ∀ (args : List SV) (v : SV), F args = (true, v) → SV.idsLts 0 args = true) : Con P f F := by
  intro args v hF m us w hvs
  have hi := hid args v hF
  have hv0 : SV.vals [] args = some us := by
    have := SV.vals_take (m := m) args hi
    rw [List.take_zero] at this
    rw [this, hvs]
  obtain ⟨C, args', G, hgl, hc, hv1, hn, hfun⟩ := h args v us hF hv0
  have hcall := fun w => calls_of_afun G hf hb hc (m := []) (h := []) (w := w) ⟨rfl, by simp, by simp⟩ (by rw [hgl]; intro i g hg; simp at hg) rfl (may := fun _ => False) (from_ := fun _ => False) (by simp) (by simp) hv1 hn (R := fun r _ => v.idsLt 0 = true ∧ v.sb [] r) hfun
  have conv : ∀ {r : SV} {mf : List Pl} {u : Value}, v.idsLt 0 = true → v.sb [] r → r.val mf = some u → v.val [] = some u := fun {r mf u} _ h2 h3 => by
    have := SV.sb_val (ρ := []) (m := mf) v r h2 h3
    simpa using this
  have hsome : ∃ u, v.val [] = some u := by
    obtain ⟨e, w', fr, ⟨r, u, mf, S, a, ⟨h1, h2⟩, h3, _⟩, _⟩ := hcall w []
    exact ⟨u, conv h1 h2 h3⟩
  obtain ⟨u, hu⟩ := hsome
  refine ⟨u, hu, .inl ⟨fn, hf, by simp [hb], hname, (hcall w).mono ?_⟩⟩
  rintro e w' ⟨r, u', mf, S, a, ⟨h1, h2⟩, h3, he, hg, T⟩
  have := conv h1 h2 h3
  rw [hu] at this
  cases this
  exact ⟨he, ⟨T.os, T.tape, T.output, T.grown, fun b hb => T.kept b hb (by simp)⟩⟩

/-- n blocks, each by its own number. -/
def idents : Nat → Nat → List RE
  | _, 0 => []
  | i, n + 1 => .id i :: idents (i + 1) n

/-- What is told of those that turned, and of no others. -/
def actN : Nat → List (Option Blk) → List Blk
  | 0, _ => []
  | n + 1, [] => .nil :: actN n []
  | n + 1, some b :: q => b :: actN n q
  | n + 1, none :: q => .nil :: actN n q

theorem actN_eq : ∀ (h : List Blk) (ch : List (Option Blk)), actN h.length ch = actB h ch
  | [], _ => by simp [actN, actB]
  | _ :: r, [] => by simp [actN, actB, actN_eq r]
  | _ :: r, some b :: q => by simp [actN, actB, actN_eq r]
  | _ :: r, none :: q => by simp [actN, actB, actN_eq r]

/-- How a walk with blocks ends. -/
def FinH (n : Nat) (v : SV) (ch : List (Option Blk)) (nw : List Blk) (ρ : SV → List Blk → List RE) (ok : Bool) (r : SV) (hT : List Blk) : Prop :=
  ok = true ∧ (distB (idents 0 n ++ ρ r hT) (actN n ch ++ nw) = true ∧ (v.sb (idents 0 n ++ ρ r hT) r ∧ sbH (idents 0 n ++ ρ r hT) (idents 0 n ++ ρ r hT) (actN n ch ++ nw) hT))

/-- The blocks that a walk starts with tell no more than those that there are; those that do not turn are read alone. -/
def startOk : List (Option Blk) → List Blk → Bool
  | _, [] => true
  | some _ :: q, _ :: r => startOk q r
  | none :: q, b :: r => !b.may && startOk q r
  | [], b :: r => !b.may && startOk [] r

theorem idents_get : ∀ {n i k : Nat}, k < n → (idents i n)[k]? = some (.id (i + k))
  | n + 1, i, 0, _ => by simp [idents]
  | n + 1, i, k + 1, h => by
    simp only [idents, List.getElem?_cons_succ]
    rw [idents_get (by omega)]; congr 2; omega
theorem idents_length : ∀ {n i : Nat}, (idents i n).length = n
  | 0, _ => rfl
  | n + 1, i => by simp [idents, idents_length]

theorem idents_pl {m mf : List Pl} (h : m <+: mf) : (idents 0 m.length).map (RE.pl mf) = m := by
  apply List.ext_getElem?
  intro k
  rw [List.getElem?_map]
  rcases Nat.lt_or_ge k m.length with hk | hk
  · rw [idents_get hk]
    have := getElem?_pre h (List.getElem?_eq_getElem hk)
    rw [List.getElem?_eq_getElem hk]
    simp [RE.pl, List.getD_eq_getElem?_getD, this]
  · rw [List.getElem?_eq_none (by rw [idents_length]; exact hk), List.getElem?_eq_none hk]; rfl

theorem preB_idents (ρ : List RE) : ∀ {n i : Nat}, preB i n (idents i n ++ ρ) = true
  | 0, _ => by cases ρ <;> rfl
  | n + 1, i => by simp [idents, preB, preB_idents ρ (n := n)]

theorem startOk_spec : ∀ {ch : List (Option Blk)} {h : List Blk}, startOk ch h = true → ∀ (k : Nat) (b : Blk), h[k]? = some b → b.k.wr = true → ∃ c, ch[k]? = some (some c)
  | _, [], _, k, b, hb, _ => by simp at hb
  | some c :: q, _ :: r, h, k, b, hb, hw => by
    cases k with
    | zero => exact ⟨c, by simp⟩
    | succ k => simpa using startOk_spec (ch := q) (by simpa [startOk] using h) k b (by simpa using hb) hw
  | none :: q, x :: r, h, k, b, hb, hw => by
    simp only [startOk, Bool.and_eq_true, Bool.not_eq_true'] at h
    cases k with
    | zero =>
      simp at hb; subst hb
      rw [wr_may hw] at h; cases h.1
    | succ k => simpa using startOk_spec (ch := q) h.2 k b (by simpa using hb) hw
  | [], x :: r, h, k, b, hb, hw => by
    simp only [startOk, Bool.and_eq_true, Bool.not_eq_true'] at h
    cases k with
    | zero =>
      simp at hb; subst hb
      rw [wr_may hw] at h; cases h.1
    | succ k => obtain ⟨c, hc⟩ := startOk_spec (ch := []) h.2 k b (by simpa using hb) hw; simp at hc

/-- A tie to fewer facts. -/
theorem HTie.weak {m : List Pl} {h h0 : List Blk} {w : World} (H : HTie m h w) (hs : sbH (idents 0 h.length) (idents 0 h.length) h0 h) : HTie m h0 w ∧ (∀ (i : Nat) (b : Blk), h0[i]? = some b → b.k ≠ .dead → ∃ c : Blk, h[i]? = some c ∧ c.k ≠ .dead ∧ (b.k.wr = true → c.k.wr = true)) := by
  obtain ⟨hlen, hh⟩ := sbH_spec hs
  rw [idents_length] at hlen
  have hml := H.len
  have key : ∀ (i : Nat) (b : Blk), h0[i]? = some b → b.k ≠ .dead → ∃ c : Blk, h[i]? = some c ∧ c.k ≠ .dead ∧ (b.k.wr = true → c.k.wr = true) ∧ kOk b.k c.k = true ∧ b.c.sb (idents 0 h.length) c.c := fun i b hb hd => by
    have hi : i < h.length := by rw [hlen]; exact (List.getElem?_eq_some_iff.1 hb).1
    have := hh i _ b (idents_get (i := 0) hi) hb
    unfold sbB at this
    split at this
    · rename_i hk; exact absurd hk hd
    · simp only [Nat.zero_add] at this
      have hk := kOk_spec this.1 hd
      exact ⟨_, blkAt_some (live_of hk.1), hk.1, hk.2, this.1, this.2⟩
  have hpl : (idents 0 h.length).map (RE.pl m) = m := by rw [← hml]; exact idents_pl List.prefix_rfl
  refine ⟨⟨by omega, fun i p b hp hb hd => ?_, fun i j p q b c hij hp hq hb hc hbd hcd hpn hqn hw => ?_⟩, fun i b hb hd => ?_⟩
  · obtain ⟨c, h1, h2, _, h4, h5⟩ := key i b hb hd
    have hh' := H.holds i p c hp h1 h2
    have := Cs.sb_ok (m := m) h5 hh'.wf
    rw [hpl] at this
    exact holds_sb hh' h4 hd this
  · obtain ⟨b', h1, h2, h3, _⟩ := key i b hb hbd
    obtain ⟨c', g1, g2, g3, _⟩ := key j c hc hcd
    exact H.apart i j p q b' c' hij hp hq h1 g1 h2 g2 hpn hqn (hw.imp h3 g3)
  · obtain ⟨c, h1, h2, h3, _⟩ := key i b hb hd
    exact ⟨c, h1, h2, h3⟩

/-- A contract of a function with blocks, out of its body. -/
theorem hcon_of {P : Program} {G : List Nat} {f : FuncId} {fn : Func} {c : Code} (hf : P.funcs[f]? = some fn) (hb : fn.body = some c) (hname : (fn.name == "runtime.NumGoroutine") = false) {F : HF}
    (h : ∀ (args : List SV) (h : List Blk) (v : SV) (ch : List (Option Blk)) (nw : List Blk), F args h = ⟨true, v, ch, nw⟩ → ∀ (m : List Pl) (us : List Value) (w : World), HTie m h w → SV.vals m args = some us →
      ∃ (C : Cx) (args' : List SV) (h0 : List Blk) (ρ : SV → List Blk → List RE), Good P C h.length ∧ C.gl = G ∧ codeOk C fn.ntmps c = true ∧ SV.vals m args' = some us ∧ args'.length ≤ fn.ntmps ∧
        sbH (idents 0 h.length) (idents 0 h.length) h0 h ∧ startOk ch h0 = true ∧ ch.length ≤ h.length ∧ afun C fn args' h0 (FinH h.length v ch nw ρ)) : HCon P G f F := by
  intro args hl v ch nw hF m us w H hv hgl
  obtain ⟨C, args', h0, ρ, Gd, hG, hc, hv1, hn, hweak, hst, hchl, hfun⟩ := h args hl v ch nw hF m us w H hv
  obtain ⟨H0, hlow⟩ := H.weak hweak
  refine ⟨fn, hf, by simp [hb], hname, (calls_of_afun Gd hf hb hc H0 (by rw [hG]; exact hgl) H.len
    (may := fun b => ∃ (k : Nat) (p : Pl) (c : Blk), ch[k]? = some (some c) ∧ m[k]? = some p ∧ p.nil = false ∧ p.blk = b) (from_ := fun b => ∃ (k : Nat) (p : Pl) (c : Blk), m[k]? = some p ∧ hl[k]? = some c ∧ c.k ≠ .dead ∧ p.nil = false ∧ p.blk = b)
    (fun i p b h1 h2 h3 h4 => ?_) (fun i p b h1 h2 h3 h4 => ?_) hv1 hn
    (R := fun r hT => distB (idents 0 hl.length ++ ρ r hT) (actN hl.length ch ++ nw) = true ∧ (v.sb (idents 0 hl.length ++ ρ r hT) r ∧ sbH (idents 0 hl.length ++ ρ r hT) (idents 0 hl.length ++ ρ r hT) (actN hl.length ch ++ nw) hT)) hfun).mono ?_⟩
  · obtain ⟨c, hc⟩ := startOk_spec hst i b h2 h3
    exact ⟨i, p, c, hc, h1, h4, rfl⟩
  · obtain ⟨c, g1, g2, _⟩ := hlow i b h2 h3
    exact ⟨i, p, c, h1, g1, g2, h4, rfl⟩
  · rintro e w' ⟨r, u, mf, S, a, ⟨k1, k2, k3⟩, hr, he, hg, T⟩
    obtain ⟨R, hR⟩ : ∃ R, R = ρ r S.h := ⟨_, rfl⟩
    rw [← hR] at k1 k2 k3
    have hsub : subP m.length (idents 0 hl.length ++ R) ⟨[], actN hl.length ch ++ nw, true⟩ S := ⟨hg, by rw [← H.len] at k1 ⊢; simp only [Bool.and_eq_true]; exact ⟨preB_idents R, k1⟩, trivial, k3⟩
    have T2 := T.sub hsub (by show C.gl.length ≤ m.length; rw [H.len]; exact Gd.gl)
    have hpl : (idents 0 hl.length ++ R).map (RE.pl mf) = m ++ R.map (RE.pl mf) := by
      rw [List.map_append, ← H.len, idents_pl T.pre]
    rw [hpl] at T2
    rw [actN_eq] at T2
    have hval := SV.sb_val (m := mf) v r k2 hr
    rw [hpl] at hval
    refine ⟨u, R.map (RE.pl mf), he, hval, T2.heap, T2.os, T2.tape, T2.output, T2.grown, fun b hb hno => T2.kept b hb (fun ⟨k, p, c, h1, h2, h3, h4⟩ => hno k p c h1 h2 h3 h4), fun j p c hp hc hk hn' => ?_, fun j p c hp hc hk hn' => ?_⟩
    · have e1 : (m ++ R.map (RE.pl mf))[m.length + j]? = some p := by rw [List.getElem?_append_right (by omega), Nat.add_sub_cancel_left]; exact hp
      have e2 : (actB hl ch ++ nw)[m.length + j]? = some c := by rw [List.getElem?_append_right (by rw [actB_length, H.len]; omega), actB_length, H.len, Nat.add_sub_cancel_left]; exact hc
      rcases T2.wr _ p c e1 e2 hk hn' with ⟨k, q, c0, h1, h2, h3, h4⟩ | h
      · exact .inl ⟨k, q, c0, h1, h2, h3, h4⟩
      · exact .inr h
    · have e1 : (m ++ R.map (RE.pl mf))[m.length + j]? = some p := by rw [List.getElem?_append_right (by omega), Nat.add_sub_cancel_left]; exact hp
      have e2 : (actB hl ch ++ nw)[m.length + j]? = some c := by rw [List.getElem?_append_right (by rw [actB_length, H.len]; omega), actB_length, H.len, Nat.add_sub_cancel_left]; exact hc
      rcases T2.src _ p c e1 e2 hk hn' with ⟨k, q, c0, h1, h2, h3, h4, h5⟩ | h
      · exact .inl ⟨k, q, c0, h1, h2, h3, h4, h5⟩
      · exact .inr h

/-- Of what is handed back. -/
def uniR (n : Nat) (v : SV) (ch : List (Option Blk)) (nw : List Blk) (r : SV) (h : List Blk) : List RE :=
  uniOut (uniH h (uniH h (uniV (uniId 0 n) v r) 0 (actN n ch ++ nw)) 0 (actN n ch ++ nw)) n nw.length

/-! ### What is known of a program, by closed checks -/

mutual
def SV.fits : SV → Value → Bool
  | .num k n, .int k' n' => Nat.beq (kn k) (kn k') && (decide (n = n') && decide (k.wrap n = n))
  | .bool b, .bool b' => b == b'
  | .str s, .string s' => s.toList == s'.toList && (s.size == 0 && s'.size == 0)
  | .nilp, .pointer none => true
  | .nils, .slice none 0 0 => true
  | .agg l, .agg cs => SV.fitsL l cs.toList
  | _, _ => false
def SV.fitsL : List SV → List Value → Bool
  | [], [] => true
  | v :: r, u :: s => v.fits u && SV.fitsL r s
  | _, _ => false
end

theorem size0 {s s' : ByteArray} (h : s.size = 0) (h' : s'.size = 0) : s = s' := by
  rw [ByteArray.size_eq_zero_iff.1 h, ByteArray.size_eq_zero_iff.1 h']

mutual
theorem SV.fits_val : ∀ (v : SV) (u : Value), v.fits u = true → v.val [] = some u
  | v, u, h => by
    unfold SV.fits at h
    split at h
    · rename_i k n k' n'
      simp only [Bool.and_eq_true, decide_eq_true_eq] at h
      obtain ⟨h1, rfl, h2⟩ := h
      have := kn_eq h1
      subst this
      exact val_num_of h2
    · rename_i b b'
      have : b = b' := by simpa using h
      subst this; rfl
    · rename_i s s'
      simp only [Bool.and_eq_true, beq_iff_eq] at h
      rw [size0 h.2.1 h.2.2]; rfl
    · rfl
    · rfl
    · rename_i l cs
      have := SV.fitsL_val l cs.toList h
      simp [SV.val, this]
    · cases h
theorem SV.fitsL_val : ∀ (l : List SV) (us : List Value), SV.fitsL l us = true → SV.vals [] l = some us
  | [], us, h => by cases us <;> simp [SV.fitsL] at h; rfl
  | v :: r, us, h => by
    cases us with
    | nil => simp [SV.fitsL] at h
    | cons u s =>
      simp only [SV.fitsL, Bool.and_eq_true] at h
      simp [SV.vals, SV.fits_val v u h.1, SV.fitsL_val r s h.2]
end

def tchk (P : Program) (t : TypeId) (i : TI) : Bool :=
  match P.info? t, P.underlying t with
  | some ti, some d => (match ti.zero with
    | some z => i.zero.fits z
    | none => false) && ti.size == i.size && ti.bytes == i.bytes && i.zero.cells.all SV.one && i.zero.cells.length == i.size && i.d.fits d
  | _, _ => false

theorem tchk_ok {P : Program} {t : TypeId} {i : TI} (h : tchk P t i = true) : TFact P t i := by
  unfold tchk at h
  split at h
  · rename_i ti d h1 h2
    simp only [Bool.and_eq_true, beq_iff_eq] at h
    obtain ⟨⟨⟨⟨⟨hz, hs⟩, hb⟩, h3⟩, h4⟩, h5⟩ := h
    split at hz
    · rename_i z hz'
      exact ⟨⟨ti, z, h1, hs, hb, hz', SV.fits_val _ _ hz, h3, h4⟩, d, h2, h5⟩
    · cases hz
  · cases h

/-- The types, as a list. -/
def tyl : List (TypeId × TI) → Types
  | [], _ => none
  | (g, i) :: r, t => match Nat.beq g t with
    | true => some i
    | false => tyl r t

theorem tyl_ok {P : Program} : ∀ {l : List (TypeId × TI)}, l.all (fun p => tchk P p.1 p.2) = true → TOk P (tyl l)
  | [], _ => fun t i h => by simp [tyl] at h
  | (g, i0) :: r, hl => fun t i h => by
    simp only [List.all_cons, Bool.and_eq_true] at hl
    simp only [tyl] at h
    cases hb : Nat.beq g t with
    | true =>
      rw [hb] at h
      have : g = t := by simpa using hb
      subst this
      simp only [Option.some.injEq] at h
      subst h
      exact tchk_ok hl.1
    | false =>
      rw [hb] at h
      exact tyl_ok hl.2 t i h

/-! '==' of aggregates. -/

def valOf : SV → Value
  | .num k n => .int k n
  | .int k n => .int k n
  | .bool b => .bool b
  | .str s => .string s
  | _ => undef
def litOf : SV → Lit
  | .num k n => .int k n
  | .int k n => .int k n
  | .bool b => .bool b
  | .str s => .string s.data.toList
  | _ => .nil

theorem toList_inj (a b : ByteArray) : a.toList = b.toList ↔ a.data.toList = b.data.toList := by
  constructor
  · intro h
    have h1 : (a.toList == b.toList) = true := by simp [h]
    rw [← beq_toListBytes] at h1
    have : a = b := by
      obtain ⟨⟨x⟩⟩ := a
      obtain ⟨⟨y⟩⟩ := b
      have h2 : ((⟨x⟩ : Array UInt8) == ⟨y⟩) = true := h1
      simp at h2
      rw [h2]
    rw [this]
  · intro h
    have : a = b := by
      cases a; cases b
      simp at h
      rw [h]
    rw [this]

theorem eq1_lit {k : CK} {x y : SV} (hx : k.ok std x = true) (hy : k.ok std y = true) {b : Bool} (h : eq1 std x y = (true, b)) : (b = true ↔ litOf x = litOf y) := by
  cases k <;> cases x <;> simp only [CK.ok] at hx <;> first | (cases hx; done) | skip
  all_goals cases y <;> simp only [CK.ok] at hy <;> first | (cases hy; done) | skip
  all_goals simp only [eq1, Prod.mk.injEq] at h
  all_goals obtain ⟨h1, rfl⟩ := h
  case str.str.str a b =>
    simp only [std, scmp, litOf, Lit.string.injEq]
    exact (beq_iff_eq.trans (toList_inj a b))
  case bool.bool.bool => simp [litOf]
  all_goals (have e := kn_eq h1; subst e; simp [icmp, std, litOf])

theorem eqs_lits : ∀ {ks : List CK} {xs ys : List SV} {b : Bool}, kindsOk std ks xs = true → kindsOk std ks ys = true → eqs std xs ys = (true, b) → (b = true ↔ xs.map litOf = ys.map litOf)
  | [], [], [], b, _, _, h => by simp [eqs] at h; simp [← h]
  | [], x :: xs, ys, b, h, _, _ => by simp [kindsOk] at h
  | [], [], y :: ys, b, _, h, _ => by simp [kindsOk] at h
  | k :: ks, [], ys, b, h, _, _ => by simp [kindsOk] at h
  | k :: ks, x :: xs, [], b, _, h, _ => by simp [kindsOk] at h
  | k :: ks, x :: xs, y :: ys, b, hx, hy, h => by
    simp only [kindsOk, Bool.and_eq_true] at hx hy
    simp only [eqs] at h
    cases h1 : eq1 std x y with
    | mk o1 b1 =>
    cases h2 : eqs std xs ys with
    | mk o2 b2 =>
    rw [h1, h2] at h
    simp only [Prod.mk.injEq, Bool.and_eq_true] at h
    obtain ⟨⟨rfl, rfl⟩, rfl⟩ := h
    have e1 := eq1_lit hx.1 hy.1 h1
    have e2 := eqs_lits hx.2 hy.2 h2
    simp only [Bool.and_eq_true, e1, e2, List.map_cons, List.cons.injEq]

/-- A cell with its place, for the walk over a type. -/
def kl (P : Program) : Nat → TypeId → List (Nat × CK) → Option (List (Nat × CK))
  | 0, _, _ => none
  | d + 1, t, cs =>
    match P.underlying t, cs with
    | some .bool, [(i, .bool)] => some [(i, .bool)]
    | some (.int q), [(i, .int q')] => if q' = q then some [(i, .int q)] else none
    | some .string, [(i, .str)] => some [(i, .str)]
    | some (.array n e), cs =>
      if cs.length = P.cellsOf t then ((List.range n).mapM fun i => kl P d e ((cs.drop (i * P.cellsOf e)).take (P.cellsOf e))).map List.flatten else none
    | some (.struct fs), cs =>
      if cs.length = P.cellsOf t ∧ fs.all (·.name != "_") = true then (fs.toList.mapM fun f => kl P d f.type ((cs.drop f.offset).take (P.cellsOf f.type))).map List.flatten else none
    | _, _ => none

theorem mapM_map {α β γ δ : Type} {f : α → Option (List β)} {g : α → Option (List γ)} {h : β → γ} (hfg : ∀ x r, f x = some r → g x = some (r.map h)) : ∀ (l : List α) (rs : List (List β)), l.mapM f = some rs → l.mapM g = some (rs.map (List.map h))
  | [], rs, e => by simp at e; subst e; simp
  | x :: r, rs, e => by
    rw [List.mapM_cons] at e ⊢
    simp only [bind, Option.bind_eq_some_iff, pure, Option.some.injEq] at e ⊢
    obtain ⟨a, h1, b, h2, rfl⟩ := e
    exact ⟨a.map h, hfg x a h1, b.map (List.map h), mapM_map (δ := δ) hfg r b h2, rfl⟩

theorem kl_lits {P : Program} (val : Nat × CK → Value) (lit : Nat × CK → Lit)
    (hb : ∀ i, ∃ b, val (i, .bool) = .bool b ∧ lit (i, .bool) = .bool b) (hi : ∀ i q, ∃ n, val (i, .int q) = .int q n ∧ lit (i, .int q) = .int q n ∧ (Lit.int q n).wf = true)
    (hs : ∀ i, ∃ s : ByteArray, val (i, .str) = .string s ∧ lit (i, .str) = .string s.data.toList ∧ s.size ≤ maxLen) :
    ∀ (d : Nat) (t : TypeId) (cs rs : List (Nat × CK)), kl P d t cs = some rs → P.keyLits d t (cs.map val) = some (rs.map lit)
  | 0, t, cs, rs, h => by simp [kl] at h
  | d + 1, t, cs, rs, h => by
    unfold kl at h
    unfold Program.keyLits
    split at h
    · rename_i i hu
      simp only [Option.some.injEq] at h; subst h
      obtain ⟨b, e1, e2⟩ := hb i
      simp only [List.map_cons, List.map_nil, e1, e2, hu]
    · rename_i q i q' hu
      split at h
      · rename_i hq
        subst hq
        simp only [Option.some.injEq] at h; subst h
        obtain ⟨n, e1, e2, e3⟩ := hi i q'
        simp only [List.map_cons, List.map_nil, e1, e2, hu, e3, and_self, if_true]
      · cases h
    · rename_i i hu
      simp only [Option.some.injEq] at h; subst h
      obtain ⟨s, e1, e2, e3⟩ := hs i
      simp only [List.map_cons, List.map_nil, e1, e2, hu, e3, if_true]
    · rename_i csA _ _ n e hu
      split at h
      · rename_i hl
        simp only [Option.map_eq_some_iff] at h
        obtain ⟨as, ha, rfl⟩ := h
        have := mapM_map (δ := Unit) (g := fun i => P.keyLits d e (((csA.map val).drop (i * P.cellsOf e)).take (P.cellsOf e))) (h := lit) (fun i r hr => by
          have := kl_lits val lit hb hi hs d e _ r hr
          rwa [List.map_take, List.map_drop] at this) _ _ ha
        simp only [hu, List.length_map, hl, if_true, this]
        simp [List.map_flatten]
      · cases h
    · rename_i csA _ _ fs hu
      split at h
      · rename_i hl
        simp only [Option.map_eq_some_iff] at h
        obtain ⟨as, ha, rfl⟩ := h
        have := mapM_map (δ := Unit) (g := fun (f : Field) => P.keyLits d f.type (((csA.map val).drop f.offset).take (P.cellsOf f.type))) (h := lit) (fun f r hr => by
          have := kl_lits val lit hb hi hs d f.type _ r hr
          rwa [List.map_take, List.map_drop] at this) _ _ ha
        simp only [hu, List.length_map, hl, and_self, if_true, this]
        simp [List.map_flatten]
      · cases h
    · cases h

def isArrT (P : Program) (t : TypeId) (n : Nat) : Bool := match P.underlying t with
  | some (.array _ _) => P.cellsOf t == n
  | some (.struct _) => P.cellsOf t == n
  | _ => false

def CK.beq : CK → CK → Bool
  | .int k, .int k' => Nat.beq (kn k) (kn k')
  | .bool, .bool => true
  | .str, .str => true
  | _, _ => false

def sameLab : List (Nat × CK) → List (Nat × CK) → Bool
  | [], [] => true
  | (i, k) :: r, (j, l) :: s => i == j && k.beq l && sameLab r s
  | _, _ => false

theorem sameLab_eq : ∀ {l r : List (Nat × CK)}, sameLab l r = true → l = r
  | [], [], _ => rfl
  | [], _ :: _, h => by simp [sameLab] at h
  | _ :: _, [], h => by simp [sameLab] at h
  | (i, k) :: r, (j, l) :: s, h => by
    simp only [sameLab, Bool.and_eq_true, beq_iff_eq] at h
    obtain ⟨⟨rfl, h2⟩, h3⟩ := h
    have : k = l := by
      cases k <;> cases l <;> simp [CK.beq] at h2 <;> first | rfl | (rename_i a b; have := kn_eq (a := a) (b := b) (by simpa using h2); rw [this])
    rw [this, sameLab_eq h3]

def label (ks : List CK) : List (Nat × CK) := ks.zipIdx.map fun p => (p.2, p.1)

/-- The closed check of '==' at a type. -/
def echk (P : Program) (t : TypeId) (ks : List CK) : Bool :=
  isArrT P t ks.length && (P.keyTypeAt 8 t && (!(P.eqGuardType P.depth t) && (match kl P 8 t (label ks) with
    | some l => sameLab l (label ks)
    | none => false)))

theorem kindsOk_get : ∀ {ks : List CK} {xs : List SV}, kindsOk std ks xs = true → ∀ (i : Nat) (k : CK), ks[i]? = some k → ∃ x, xs[i]? = some x ∧ k.ok std x = true
  | [], xs, h, i, k, hk => by simp at hk
  | c :: ks, [], h, i, k, hk => by simp [kindsOk] at h
  | c :: ks, x :: xs, h, i, k, hk => by
    simp only [kindsOk, Bool.and_eq_true] at h
    cases i with
    | zero => simp at hk; subst hk; exact ⟨x, by simp, h.1⟩
    | succ i => simp at hk; simpa using kindsOk_get h.2 i k hk

theorem kindsOk_len : ∀ {ks : List CK} {xs : List SV}, kindsOk std ks xs = true → ks.length = xs.length
  | [], [], _ => rfl
  | [], x :: xs, h => by simp [kindsOk] at h
  | c :: ks, [], h => by simp [kindsOk] at h
  | c :: ks, x :: xs, h => by
    simp only [kindsOk, Bool.and_eq_true] at h
    simp [kindsOk_len h.2]

theorem ok_vals : ∀ {ks : List CK} {xs : List SV} {us : List Value} {m : List Pl}, kindsOk std ks xs = true → SV.vals m xs = some us → us = xs.map valOf ∧ ∀ x ∈ xs, ∀ k n, (x = .int k n ∨ x = .num k n) → k.wrap n = n
  | ks, [], us, m, _, h => by simp [SV.vals] at h; subst h; simp
  | [], x :: xs, us, m, h, _ => by simp [kindsOk] at h
  | k :: ks, x :: xs, us, m, hk, h => by
    simp only [kindsOk, Bool.and_eq_true] at hk
    simp only [SV.vals, Option.bind_eq_some_iff, Option.map_eq_some_iff] at h
    obtain ⟨u, hu, b, hb, rfl⟩ := h
    obtain ⟨e, h2⟩ := ok_vals hk.2 hb
    have h1 : u = valOf x ∧ ∀ k n, (x = .int k n ∨ x = .num k n) → k.wrap n = n := by
      cases k <;> cases x <;> simp only [CK.ok] at hk <;> first | (cases hk.1; done) | skip
      all_goals simp [SV.val, valOf] at hu ⊢
      all_goals first | exact ⟨hu.2.symm, hu.1⟩ | exact hu.symm
    refine ⟨by rw [h1.1, e]; rfl, fun y hy => ?_⟩
    rcases List.mem_cons.1 hy with rfl | hy
    · exact h1.2
    · exact h2 y hy

theorem echk_ok {P : Program} {t : TypeId} {ks : List CK} (h : echk P t ks = true) : EqF P t ks := by
  simp only [echk, Bool.and_eq_true, Bool.not_eq_true'] at h
  obtain ⟨h1, h2, h3, h4⟩ := h
  split at h4
  · rename_i l hl
    have := sameLab_eq h4
    subst this
    refine ⟨fun xs ys us vs m b w hx hy hu hv he => ?_, h3⟩
    have key : ∀ (zs : List SV) (ws : List Value), kindsOk std ks zs = true → SV.vals m zs = some ws → P.keyLits 8 t ws = some (zs.map litOf) ∧ (Value.agg ws.toArray).formed P t = true := fun zs ws hz hw => by
      obtain ⟨e, hwf⟩ := ok_vals hz hw
      have hlen := kindsOk_len hz
      let val : Nat × CK → Value := fun p => match zs[p.1]? with
        | some z => if p.2.ok std z = true then valOf z else (match p.2 with | .int q => .int q 0 | .bool => .bool true | .str => .string ByteArray.empty)
        | none => (match p.2 with | .int q => .int q 0 | .bool => .bool true | .str => .string ByteArray.empty)
      let lit : Nat × CK → Lit := fun p => match zs[p.1]? with
        | some z => if p.2.ok std z = true then litOf z else (match p.2 with | .int q => .int q 0 | .bool => .bool true | .str => .string [])
        | none => (match p.2 with | .int q => .int q 0 | .bool => .bool true | .str => .string [])
      have h0 : ∀ q : IntKind, (Lit.int q 0).wf = true := fun q => by cases q <;> decide
      have hall := kl_lits (P := P) val lit (fun i => by
          show ∃ b, val (i, .bool) = .bool b ∧ lit (i, .bool) = .bool b
          simp only [val, lit]
          cases hz' : zs[i]? with
          | none => exact ⟨true, rfl, rfl⟩
          | some z =>
            by_cases hok : CK.bool.ok std z = true
            · simp only [hok, if_true]
              cases z <;> simp only [CK.ok] at hok <;> first | (cases hok; done) | exact ⟨_, rfl, rfl⟩
            · simp only [hok]; exact ⟨true, rfl, rfl⟩) (fun i q => by
          show ∃ n, val (i, .int q) = .int q n ∧ lit (i, .int q) = .int q n ∧ _
          simp only [val, lit]
          cases hz' : zs[i]? with
          | none => exact ⟨0, rfl, rfl, h0 q⟩
          | some z =>
            by_cases hok : (CK.int q).ok std z = true
            · simp only [hok, if_true]
              have hmem := List.mem_of_getElem? hz'
              have hw := hwf z hmem
              cases z <;> simp only [CK.ok] at hok <;> first | (cases hok; done) | skip
              all_goals (have e := kn_eq hok; subst e; refine ⟨_, rfl, rfl, ?_⟩)
              all_goals
                have := hw _ _ (by first | exact .inl rfl | exact .inr rfl)
                rw [wrap_eq_iff] at this
                simp [Lit.wf, this]
            · simp only [hok]; exact ⟨0, rfl, rfl, h0 q⟩) (fun i => by
          show ∃ s : ByteArray, val (i, .str) = .string s ∧ lit (i, .str) = .string s.data.toList ∧ _
          simp only [val, lit]
          cases hz' : zs[i]? with
          | none => exact ⟨ByteArray.empty, rfl, rfl, Nat.zero_le _⟩
          | some z =>
            by_cases hok : CK.str.ok std z = true
            · simp only [hok, if_true]
              cases z <;> simp only [CK.ok] at hok <;> first | (cases hok; done) | skip
              exact ⟨_, rfl, rfl, by simpa [std] using hok⟩
            · simp only [hok]; exact ⟨ByteArray.empty, rfl, rfl, Nat.zero_le _⟩) 8 t _ _ hl
      have hval : (label ks).map val = zs.map valOf := by
        apply List.ext_getElem?
        intro i
        simp only [label, List.map_map, List.getElem?_map, List.getElem?_zipIdx]
        cases hk : ks[i]? with
        | none =>
          have : zs[i]? = none := by
            rw [List.getElem?_eq_none_iff] at hk ⊢; omega
          simp [this]
        | some k =>
          obtain ⟨z, hz1, hz2⟩ := kindsOk_get hz i k hk
          simp [val, hz1, hz2]
      have hlit : (label ks).map lit = zs.map litOf := by
        apply List.ext_getElem?
        intro i
        simp only [label, List.map_map, List.getElem?_map, List.getElem?_zipIdx]
        cases hk : ks[i]? with
        | none =>
          have : zs[i]? = none := by
            rw [List.getElem?_eq_none_iff] at hk ⊢; omega
          simp [this]
        | some k =>
          obtain ⟨z, hz1, hz2⟩ := kindsOk_get hz i k hk
          simp [lit, hz1, hz2]
      refine ⟨by rw [e, ← hval, hall, hlit], ?_⟩
      unfold isArrT at h1
      have hwl := vals_length hw
      unfold Value.formed
      split at h1 <;> rename_i hu' <;> first | (cases h1; done) | skip
      all_goals
        simp only [beq_iff_eq] at h1
        simp [hu', h1, hwl, hlen]
    obtain ⟨kx, fx⟩ := key xs us hx hu
    obtain ⟨ky, fy⟩ := key ys vs hy hv
    obtain ⟨r, hr, hiff⟩ := run_equalIn_deep 9992 8 t h2 w 8 8 _ _ _ _ fx fy (by simpa [Value.cells] using kx) (by simpa [Value.cells] using ky)
    have hb := eqs_lits hx hy he
    have : r = b := by
      cases r <;> cases b <;> simp_all
    subst this
    exact hr
  · cases h4

def eql : List (TypeId × List CK) → TypeId → Option (List CK)
  | [], _ => none
  | (g, ks) :: r, t => match Nat.beq g t with
    | true => some ks
    | false => eql r t

theorem eql_ok {P : Program} : ∀ {l : List (TypeId × List CK)}, l.all (fun p => echk P p.1 p.2) = true → EOk P (eql l)
  | [], _ => fun t i h => by simp [eql] at h
  | (g, i0) :: r, hl => fun t i h => by
    simp only [List.all_cons, Bool.and_eq_true] at hl
    simp only [eql] at h
    cases hb : Nat.beq g t with
    | true =>
      rw [hb] at h
      have : g = t := by simpa using hb
      subst this
      simp only [Option.some.injEq] at h
      subst h
      exact echk_ok hl.1
    | false =>
      rw [hb] at h
      exact eql_ok hl.2 t i h

/-! ### Loops, for the walk -/

abbrev LP := (St → (AX → St → Prop) → Prop) → St → (AX → St → Prop) → Prop
abbrev SCP := Code → St → (AX → St → Prop) → Prop

theorem lp_rounds {C : Cx} {L : LP} {base : Nat} (hL : L = ALoop base) {c : Code} {S : St} {Q : AX → St → Prop} (n : Nat) (hC : C.lp = ALoop base) (hs : C.sc = AScope base (awp C.flat) ∨ C.sc = fun _ _ _ => False)
    (h : Eng.rounds (awp C c) Q n S) : L (awp C c) S Q := by
  subst hL
  refine ⟨Eng.rounds (awp C c) Q, ⟨n, S, .inl rfl, h⟩, fun n S hI => ?_⟩
  cases n with
  | zero => exact hI.elim
  | succ n =>
    refine awp_mono hC hs c S _ _ (fun e T h => ?_) hI
    cases e with
    | normal => exact ⟨n, T, Nat.lt_succ_self n, .inl rfl, h⟩
    | exit id => exact h
    | goto l => exact h
    | ret => exact h

/-- What is asked of the data (their values are reckoned ahead). -/
def okAt {D : Type} (ok : Nat → D → Prop) (n : Nat) (d : D) : Prop := ok n d

/-- What is asked at a loop's head: what holds of its data, and that they are the state's. -/
def atHead {D : Type} (base : Nat) (hd : Nat → D → St) (ok : Nat → D → Prop) (n : Nat) (d : D) (S : St) : Prop := okAt ok n d ∧ subP base (uni base (hd n d) S) (hd n d) S

theorem atHead_sub {D : Type} {base : Nat} {hd : Nat → D → St} {ok : Nat → D → Prop} {n : Nat} {d : D} {S : St} (h : atHead base hd ok n d S) : subE base (hd n d) S ∧ ok n d := ⟨.inr ⟨_, h.2⟩, h.1⟩

/-- A loop by its head's data, read from the state that came there: so many rounds at most. -/
theorem lp_ex {C : Cx} {L : LP} {base : Nat} (hL : L = ALoop base) {c : Code} {S : St} {Q : AX → St → Prop} {D : Type} (N : Nat) (ex : St → D) (hd : Nat → D → St)
    (ok : Nat → D → Prop) (h0 : atHead base hd ok N (ex S) S)
    (h : ∀ n, n ≤ N → ∀ d, ok n d → awp C c (hd n d) fun e T => match e with
      | .normal => (match n with
        | 0 => False
        | n' + 1 => atHead base hd ok n' (ex T) T)
      | e => Q e T) (hC : C.lp = ALoop base) (hs : C.sc = AScope base (awp C.flat) ∨ C.sc = fun _ _ _ => False) : L (awp C c) S Q := by
  subst hL
  refine ⟨fun n S => n ≤ N ∧ ∃ d, S = hd n d ∧ ok n d, ⟨N, _, (atHead_sub h0).1, Nat.le_refl N, _, rfl, (atHead_sub h0).2⟩, ?_⟩
  rintro n _ ⟨hn, d, rfl, hk⟩
  refine awp_mono hC hs c _ _ _ (fun e T hT => ?_) (h n hn d hk)
  cases e <;> try exact hT
  simp only at hT ⊢
  cases n with
  | zero => exact hT.elim
  | succ n' => exact ⟨n', hd n' _, Nat.lt_succ_self n', (atHead_sub hT).1, by omega, _, rfl, (atHead_sub hT).2⟩

/-- A loop by its head's data and a count that falls. -/
theorem lp_mu {C : Cx} {L : LP} {base : Nat} (hL : L = ALoop base) {c : Code} {S : St} {Q : AX → St → Prop} {D : Type} (ex : St → D) (hd : D → St) (ok : D → Prop) (μ : D → Nat)
    (h0 : atHead base (fun _ => hd) (fun _ => ok) 0 (ex S) S)
    (h : ∀ d, ok d → awp C c (hd d) fun e T => match e with
      | .normal => okAt (fun _ d' => μ d' < μ d) 0 (ex T) ∧ atHead base (fun _ => hd) (fun _ => ok) 0 (ex T) T
      | e => Q e T) (hC : C.lp = ALoop base) (hs : C.sc = AScope base (awp C.flat) ∨ C.sc = fun _ _ _ => False) : L (awp C c) S Q := by
  subst hL
  refine ⟨fun n S => ∃ d, S = hd d ∧ ok d ∧ n = μ d, ⟨_, _, (atHead_sub h0).1, _, rfl, (atHead_sub h0).2, rfl⟩, ?_⟩
  rintro n _ ⟨d, rfl, hk, rfl⟩
  refine awp_mono hC hs c _ _ _ (fun e T hT => ?_) (h d hk)
  cases e <;> try exact hT
  simp only at hT ⊢
  exact ⟨_, _, hT.1, (atHead_sub hT.2).1, _, rfl, (atHead_sub hT.2).2, rfl⟩

/-- Jumps back to a label, by its head's data and a count that falls. -/
theorem sc_mu {C : Cx} {K : SCP} {base : Nat} (hK : K = AScope base (awp C.flat)) {c : Code} {S : St} {Q : AX → St → Prop} {D : Type} (l : Nat) (rest : Code) (hl : findLabel c l = some rest) (ex : St → D) (hd : D → St) (ok : D → Prop) (μ : D → Nat)
    (h0 : awp C.flat c S fun e T => match e with
      | .goto l' => l' = l ∧ atHead base (fun _ => hd) (fun _ => ok) 0 (ex T) T
      | e => Q e T)
    (h : ∀ d, ok d → awp C.flat rest (hd d) fun e T => match e with
      | .goto l' => l' = l ∧ (okAt (fun _ d' => μ d' < μ d) 0 (ex T) ∧ atHead base (fun _ => hd) (fun _ => ok) 0 (ex T) T)
      | e => Q e T) (hC : C.lp = ALoop base) : K c S Q := by
  subst hK
  have hs : (C.flat).sc = AScope base (awp C.flat.flat) ∨ (C.flat).sc = fun _ _ _ => False := .inr rfl
  refine ⟨l, rest, fun n S => ∃ d, S = hd d ∧ ok d ∧ n = μ d, hl, awp_mono (C := C.flat) hC hs c S _ _ (fun e T hT => ?_) h0, ?_⟩
  · cases e <;> try exact hT
    simp only at hT ⊢
    exact ⟨hT.1, _, _, (atHead_sub hT.2).1, _, rfl, (atHead_sub hT.2).2, rfl⟩
  · rintro n _ ⟨d, rfl, hk, rfl⟩
    refine awp_mono (C := C.flat) hC hs rest _ _ _ (fun e T hT => ?_) (h d hk)
    cases e <;> try exact hT
    simp only at hT ⊢
    exact ⟨hT.1, _, _, hT.2.1, (atHead_sub hT.2.2).1, _, rfl, (atHead_sub hT.2.2).2, rfl⟩

def SV.toI : SV → Int
  | .int _ n => n
  | .num _ n => n
  | _ => 0

def slotI (S : St) (i : Nat) : Int := (look S.t i).toI
def cellI (S : St) (id j : Nat) : Int := ((blkAt S.h id).c.get j).toI
end Go.Eng
