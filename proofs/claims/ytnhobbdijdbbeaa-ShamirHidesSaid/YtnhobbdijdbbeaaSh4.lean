/- Walks through shamir and its reference: a place as a number, a polynomial at a place. It has no conditions. -/
import Derived.Test.YtnhobbdijdbbeaaSh3
import Derived.Test.YtnhobbdijdbbeaaLag2
import Derived.Test.YtnhobbdijdbbeaaFin
namespace Go.Proofs.Ytnhobbdijdbbeaa
open Go.Eng Go.RowKit
set_option maxRecDepth 1000000
set_option maxHeartbeats 4000000
set_option linter.unusedSimpArgs false
set_option linter.unusedVariables false

def liveK : BK → Bool
  | .dead => false
  | _ => true
theorem kOk_ro {k : BK} (h : liveK k = true) : kOk .ro k = true := by cases k <;> simp [liveK] at h <;> rfl
abbrev k4 : List CK := [.int .u64, .int .u64, .int .u64, .int .u64]
theorem apStd_app {α β : Type} (f : α → β) (a : α) : apStd α β f a = f a := rfl
theorem ap4_std {α β γ δ ε : Type} (f : α → β → γ → δ → ε) (a : α) (b : β) (c : γ) (d : δ) : ap4 apStd f a b c d = f a b c d := rfl

theorem hcon_shut {P : Program} {G : List Nat} {f : FuncId} {fn : Func} {c : Code} (hf : P.funcs[f]? = some fn) (hb : fn.body = some c) (hname : (fn.name == "runtime.NumGoroutine") = false) {F : HF}
    (h : ∀ (args : List SV) (h : List Blk) (v : SV) (ch : List (Option Blk)) (nw : List Blk), F args h = ⟨true, v, ch, nw⟩ → ∀ (m : List Pl) (us : List Value) (w : World), HTie m h w → SV.vals m args = some us →
      ∃ (C : Cx) (args' : List SV) (h0 : List Blk), Eng.Good P C h.length ∧ C.gl = G ∧ codeOk C fn.ntmps c = true ∧ SV.vals m args' = some us ∧ args'.length ≤ fn.ntmps ∧
        sbH (idents 0 h.length) (idents 0 h.length) h0 h ∧ startOk ch h0 = true ∧ ch.length ≤ h.length ∧ Shut (afun C fn args' h0 (FinH h.length v ch nw (uniR h.length v ch nw)))) : HCon P G f F :=
  hcon_of hf hb hname fun args hh v ch nw hF m us w H hv => by
    obtain ⟨C, args', h0, h1, h2, h3, h4, h5, h6, h7, h8, h9⟩ := h args hh v ch nw hF m us w H hv
    exact ⟨C, args', h0, _, h1, h2, h3, h4, h5, h6, h7, h8, h9.out⟩

/-- The context of a walk without tables. -/
def cxs (A : Ar) (L : LP) (l : Pure) (d : Heap) (q : List Nat := []) (pl : List (Nat × PT) := []) : Cx := cxhp A L noJ l d [] q dy0 (pll pl)
theorem goods {base : Nat} {l : Pure} {d : Heap} {q : List Nat} {pl : List (Nat × PT)} (h : ∀ p ∈ l, Con Try.prog p.1 p.2) (h' : ∀ p ∈ d, HCon Try.prog [] p.1 p.2) : Eng.Good Try.prog (cxs std (ALoop base) l d q pl) base :=
  ⟨good0p rfl h h', rfl, .inr rfl, Nat.zero_le _⟩

theorem i64_val {x : SV} {a : Int} (hx : x.i64 = some a) {m : List Pl} {u : Value} (h : x.val m = some u) : (SV.int .i64 a).val m = some u ∧ IntKind.i64.wrap a = a := by
  obtain ⟨rfl, h2⟩ := i64_of hx h
  exact ⟨by simp [SV.val, h2], h2⟩
theorem i64_ids {x : SV} {a : Int} (hx : x.i64 = some a) (k : Nat) : x.idsLt k = true := by
  unfold SV.i64 at hx
  split at hx <;> first | rfl | cases hx

/-! A place as a number. -/

def numF (N : Ap) : List SV → Bool × SV
  | [x] => match x.i64 with
    | some a => (true, numV N (ap1 N nI a))
    | _ => (false, .bad)
  | _ => (false, .bad)
theorem numF_ids {N : Ap} {args : List SV} {v : SV} (hF : numF N args = (true, v)) : SV.idsLts 0 args = true := by
  unfold numF at hF
  split at hF
  · split at hF
    · rename_i ha
      simp [SV.idsLts, i64_ids ha]
    · cases hF
  · cases hF

theorem nI_words {a : Int} (h : IntKind.i64.wrap a = a) : l0 (nI a) = IntKind.u64.wrap (nI a) ∧ l1 (nI a) = 0 ∧ l2 (nI a) = 0 ∧ l3 (nI a) = 0 := by
  rw [IntKind.wrap_i64] at h
  rw [IntKind.wrap_u64]
  have h2 : 0 ≤ nI a ∧ nI a < 9223372036854775808 := by unfold nI; omega
  unfold l0 l1 l2 l3
  omega

theorem hnum_vc (A : Ar) (N : Ap) (L : LP) (a : Int) (hA : A = std) (hN : N = apStd) (ha : IntKind.i64.wrap a = a) (v : SV) (hv : v = numV N (ap1 N nI a)) (K : Bool → SV → List Blk → Prop) (hK : K = FinP v) :
    Shut (afun (cx A L []) Try.f41 [.int .i64 a] [] K) := by
  have hx : A.imax a 0 = nI a := by subst hA; unfold nI; simp only [std]; split <;> omega
  obtain ⟨w0, w1, w2, w3⟩ := nI_words ha
  have hv' : v = .agg [.int .u64 (A.wrap .u64 (A.imax a 0)), .num .u64 0, .num .u64 0, .num .u64 0] ∨ True := .inr trivial
  obtain ⟨fi, fc, fw, fb, fn, fo, fs, fa, fe, fz, fy, ff, fl, fq, gadd, gsub, gmul, gmin, hlen', hget, hset, happ, hisub, irep, iput', rlen, rint', rbool', rstr', rset, rapp, rsub, rrep, hmkb, hbyts, imn, imx⟩ := A
  simp only at hx
  obtain ⟨X, hX⟩ : ∃ X, X = fw .u64 (imx a 0) := ⟨_, rfl⟩
  have e0 : X = l0 (nI a) := by rw [hX, hx, w0]; cases hA; rfl
  apply Shut.mk
  cbv
  simp only [← hX]
  refine fin_sb hK rfl (by rw [hv]; exact rfl) ?_
  rw [hv, e0]
  subst hN
  rw [ap1_std]
  refine ⟨⟨rfl, rfl⟩, ⟨rfl, ?_⟩, ⟨rfl, ?_⟩, ⟨rfl, ?_⟩, trivial⟩
  · exact w1
  · exact w2
  · exact w3

theorem con_hnum : Con Try.prog 41 (numF apStd) := by
  refine con_shut Try.func41 rfl (by kernel_rfl) (fun args v us hF hv => ?_) (fun args v hF => numF_ids hF)
  unfold numF at hF
  split at hF
  · split at hF
    · rename_i x a hx
      simp only [Prod.mk.injEq, true_and] at hF
      obtain ⟨u, rfl, hu⟩ := vals_sole hv
      obtain ⟨hu', wa⟩ := i64_val hx hu
      exact ⟨_, [.int .i64 a], good (l := []) (by simp), rfl, by kernel_rfl, by simp [SV.vals, hu'], Nat.le_of_ble_eq_true rfl, hnum_vc std apStd (ALoop 0) a rfl rfl wa v hF.symm (FinP v) rfl⟩
    · cases hF
  · cases hF

theorem rnum_vc (A : Ar) (N : Ap) (L : LP) (a : Int) (hA : A = std) (hN : N = apStd) (ha : IntKind.i64.wrap a = a) (v : SV) (hv : v = numV N (ap1 N nI a)) (K : Bool → SV → List Blk → Prop) (hK : K = FinP v) :
    Shut (afun (cx A L [(48, smallF N)]) Try.f44 [.int .i64 a] [] K) := by
  have hx : A.imax a 0 = nI a := by subst hA; unfold nI; simp only [std]; split <;> omega
  obtain ⟨w0, w1, w2, w3⟩ := nI_words ha
  have hv' : v = .agg [.int .u64 (A.wrap .u64 (A.imax a 0)), .num .u64 0, .num .u64 0, .num .u64 0] ∨ True := .inr trivial
  obtain ⟨fi, fc, fw, fb, fn, fo, fs, fa, fe, fz, fy, ff, fl, fq, gadd, gsub, gmul, gmin, hlen', hget, hset, happ, hisub, irep, iput', rlen, rint', rbool', rstr', rset, rapp, rsub, rrep, hmkb, hbyts, imn, imx⟩ := A
  simp only at hx
  obtain ⟨X, hX⟩ : ∃ X, X = fw .u64 (imx a 0) := ⟨_, rfl⟩
  have e0 : X = l0 (nI a) := by rw [hX, hx, w0]; cases hA; rfl
  apply Shut.mk
  cbv
  simp only [← hX]
  refine fin_sb hK rfl (by rw [hv]; exact rfl) ?_
  rw [hv, e0]
  subst hN
  rw [ap1_std]
  refine ⟨⟨rfl, rfl⟩, ⟨rfl, ?_⟩, ⟨rfl, ?_⟩, ⟨rfl, ?_⟩, trivial⟩
  · exact w1
  · exact w2
  · exact w3

theorem con_rnum : Con Try.prog 44 (numF apStd) := by
  refine con_shut Try.func44 rfl (by kernel_rfl) (fun args v us hF hv => ?_) (fun args v hF => numF_ids hF)
  unfold numF at hF
  split at hF
  · split at hF
    · rename_i x a hx
      simp only [Prod.mk.injEq, true_and] at hF
      obtain ⟨u, rfl, hu⟩ := vals_sole hv
      obtain ⟨hu', wa⟩ := i64_val hx hu
      exact ⟨_, [.int .i64 a], good (l := [(48, smallF apStd)]) (by intro p hp; simp at hp; subst hp; exact con_small), rfl, by kernel_rfl, by simp [SV.vals, hu'], Nat.le_of_ble_eq_true rfl, rnum_vc std apStd (ALoop 0) a rfl rfl wa v hF.symm (FinP v) rfl⟩
    · cases hF
  · cases hF

/-! A polynomial at a place. -/

def rowNum (r : List Sc) : Int := num4 (Sc.toInt r[0]?) (Sc.toInt r[1]?) (Sc.toInt r[2]?) (Sc.toInt r[3]?)
def numsL (L : List (List Sc)) : List Int := L.map rowNum
def evL (L : List (List Sc)) (a : Int) : Int := evI (numsL L) a
/-- All words are words. -/
def rowW (r : List Sc) : Prop := W (Sc.toInt r[0]?) ∧ W (Sc.toInt r[1]?) ∧ W (Sc.toInt r[2]?) ∧ W (Sc.toInt r[3]?)
instance (x : Int) : Decidable (W x) := by unfold W; infer_instance
instance (r : List Sc) : Decidable (rowW r) := by unfold rowW; infer_instance
def rowsW (L : List (List Sc)) : Bool := decide (∀ r ∈ L, rowW r)
theorem numsL_len (L : List (List Sc)) : (numsL L).length = L.length := by simp [numsL]
theorem rint_toInt (L : List (List Sc)) (j f : Nat) : rint L j f = Sc.toInt ((L[j]?).bind fun r => r[f]?) := rfl
theorem nums_at {L : List (List Sc)} {j : Nat} (h : j < L.length) : (numsL L)[j]? = some (num4 (rint L j 0) (rint L j 1) (rint L j 2) (rint L j 3)) := by
  simp only [numsL, List.getElem?_map, rint_toInt, List.getElem?_eq_getElem h, Option.map_some, Option.bind_some]
  rfl
theorem words_at {L : List (List Sc)} (hW : rowsW L = true) {j : Nat} (h : j < L.length) : W (rint L j 0) ∧ W (rint L j 1) ∧ W (rint L j 2) ∧ W (rint L j 3) := by
  have := (of_decide_eq_true hW) L[j] (List.getElem_mem h)
  simp only [rint_toInt, List.getElem?_eq_getElem h, Option.bind_some]
  exact this
theorem nums_range {L : List (List Sc)} (hW : rowsW L = true) : ∀ x ∈ numsL L, 0 ≤ x ∧ x < M256 := by
  intro x hx
  obtain ⟨r, hr, rfl⟩ := List.mem_map.1 hx
  have h := (of_decide_eq_true hW) r hr
  exact num4_range h.1 h.2.1 h.2.2.1 h.2.2.2
theorem drop_at {l : List Int} {j : Nat} {x : Int} (h : l[j]? = some x) : l.drop j = x :: l.drop (j + 1) := by
  have hj := (List.getElem?_eq_some_iff.1 h)
  obtain ⟨h1, h2⟩ := hj
  rw [List.drop_eq_getElem_cons h1, h2]

def evalH (A : Ar) (N : Ap) : HF := fun args h => match args, h with
  | [.row 0 n, y], [⟨.recs ks L, b⟩] => (match y.i64 with
    | some a => ⟨liveK b && (ckeq ks k4 && (A.neq (A.rlen L) n && (A.nle n 1000000 && ap1 N rowsW L))), numV N (ap2 N evL L a), [], []⟩
    | none => ⟨false, .bad, [], []⟩)
  | _, _ => ⟨false, .bad, [], []⟩

def evHd (O : List (List Sc)) (len : Nat) (a : Int) : Nat → Int × Int × Int × Int × Int → St
  | _, (w0, w1, w2, w3, i) => ⟨[(0, .row 0 len), (1, .int .i64 a), (4, .ptr 1 0), (5, .ptr 2 0), (6, .int .i64 i)], [⟨.recs k4 O, .ro⟩, ⟨.lit [.num .u64 0, .num .u64 0, .num .u64 0, .num .u64 0], .var⟩, ⟨.lit [.int .u64 w0, .int .u64 w1, .int .u64 w2, .int .u64 w3], .var⟩], true⟩
def evEx (S : St) : Int × Int × Int × Int × Int := (cellI S 2 0, cellI S 2 1, cellI S 2 2, cellI S 2 3, slotI S 6)
def evOk (l : List Int) (a : Int) (n : Nat) (d : Int × Int × Int × Int × Int) : Prop :=
  (W d.1 ∧ W d.2.1 ∧ W d.2.2.1 ∧ W d.2.2.2.1) ∧ num4 d.1 d.2.1 d.2.2.1 d.2.2.2.1 = evI (l.drop n) a ∧ -1 ≤ d.2.2.2.2 ∧ (d.2.2.2.2 + 1).toNat = n ∧ n ≤ l.length
theorem evOk_mk {l : List Int} {a : Int} {n : Nat} {w0 w1 w2 w3 i : Int} (h : W w0 ∧ W w1 ∧ W w2 ∧ W w3) (h1 : num4 w0 w1 w2 w3 = evI (l.drop n) a) (h2 : -1 ≤ i) (h3 : (i + 1).toNat = n) (h4 : n ≤ l.length) : evOk l a n (w0, w1, w2, w3, i) := ⟨h, h1, h2, h3, h4⟩
theorem evOk_ex {l : List Int} {a : Int} {n : Nat} {w0 w1 w2 w3 i : Int} (h : evOk l a n (w0, w1, w2, w3, i)) : (W w0 ∧ W w1 ∧ W w2 ∧ W w3) ∧ num4 w0 w1 w2 w3 = evI (l.drop n) a ∧ -1 ≤ i ∧ (i + 1).toNat = n ∧ n ≤ l.length := h
theorem limb_W (n : Int) : W (l0 n) ∧ W (l1 n) ∧ W (l2 n) ∧ W (l3 n) := by
  unfold W l0 l1 l2 l3
  omega
theorem l_num4 {w0 w1 w2 w3 : Int} (h : W w0 ∧ W w1 ∧ W w2 ∧ W w3) : l0 (num4 w0 w1 w2 w3) = w0 ∧ l1 (num4 w0 w1 w2 w3) = w1 ∧ l2 (num4 w0 w1 w2 w3) = w2 ∧ l3 (num4 w0 w1 w2 w3) = w3 := by
  obtain ⟨h0, h1, h2, h3⟩ := h
  unfold W at *
  unfold num4 l0 l1 l2 l3
  omega
theorem limb_num {x : Int} (h : 0 ≤ x ∧ x < M256) : num4 (l0 x) (l1 x) (l2 x) (l3 x) = x := by
  rw [num4_limbs]
  exact Int.emod_eq_of_lt h.1 h.2
theorem nI_M (a : Int) (h : IntKind.i64.wrap a = a) : nI a < M256 := by
  rw [IntKind.wrap_i64] at h
  have : (9223372036854775808 : Int) < M256 := by decide
  unfold nI
  omega

theorem hev_vc (A : Ar) (N : Ap) (L : LP) (O : List (List Sc)) (len : Nat) (a Q : Int) (hL : L = ALoop 1) (hA : A = std) (hN : N = apStd) (hQ : Q = qN) (hO : O.length = len) (hl : len ≤ 1000000) (hW : rowsW O = true)
    (x : SV) (hx : x = numV N (ap2 N evL O a)) (K : Bool → SV → List Blk → Prop) (hK : K = FinH 1 x [] [] (uniR 1 x [] [])) (ha : IntKind.i64.wrap a = a) :
    Shut (afun (cxs A L [(41, numF N), (40, smul N Q), (39, sadd N Q)] []) Try.f13 [.row 0 len, .int .i64 a] [⟨.recs k4 O, .ro⟩] K) := by
  obtain ⟨fi, fc, fw, fb, fn, fo, fs, fa, fe, fz, fy, ff, fl, fq, gadd, gsub, gmul, gmin, hlen', hget, hset, happ, hisub, irep, iput', rlen, rint', rbool', rstr', rset, rapp, rsub, rrep, hmkb, hbyts, imn, imx⟩ := A
  have hNl : (numsL O).length = len := by rw [numsL_len, hO]
  have hml : fc .leq (fo len) 9223372036854775807 = true := by cases hA; exact decide_eq_true (by show (len : Int) ≤ _; omega)
  obtain ⟨ok, hok⟩ : ∃ f, f = evOk (numsL O) a := ⟨_, rfl⟩
  apply Shut.mk
  cbv
  refine lp_ex hL len evEx (evHd O len a) ok ?_ ?_ hL (.inr rfl)
  · cbv
    refine ⟨?_, ?_, trivial⟩
    · rw [hok]
      have e : fi .sub .i64 (fo len) 1 = (len : Int) - 1 := by cases hA; show IntKind.i64.wrap ((len : Int) - 1) = _; rw [IntKind.wrap_i64]; omega
      rw [e]
      refine evOk_mk (by decide) ?_ (by omega) (by omega) (by omega)
      rw [List.drop_of_length_le (by omega)]
      rfl
    · simp only [hml]
  intro m hm d hd
  obtain ⟨w0, w1, w2, w3, i⟩ := d
  obtain ⟨hw, hv, i0, i1, i2⟩ : (W w0 ∧ W w1 ∧ W w2 ∧ W w3) ∧ num4 w0 w1 w2 w3 = evI ((numsL O).drop m) a ∧ -1 ≤ i ∧ (i + 1).toNat = m ∧ m ≤ (numsL O).length := by
    rw [hok] at hd
    exact evOk_ex hd
  clear hd
  cbv
  cases h1 : fc .geq i 0 <;> cbv
  · have hm0 : m = 0 := by
      have : ¬ i ≥ 0 := by cases hA; exact of_decide_eq_false h1
      omega
    subst hm0
    have e1 : num4 w0 w1 w2 w3 = evL O a := by rw [hv]; rfl
    obtain ⟨q0, q1, q2, q3⟩ := l_num4 hw
    have ex : x = .agg [.int .u64 w0, .int .u64 w1, .int .u64 w2, .int .u64 w3] := by
      rw [hx]
      subst hN
      rw [ap2_std, ← e1]
      unfold numV
      rw [ap1_std, ap1_std, ap1_std, ap1_std, q0, q1, q2, q3]
    rw [ex] at hK
    rw [hK]
    cbv
  · have hi : 0 ≤ i := by cases hA; exact of_decide_eq_true h1
    obtain ⟨m', rfl⟩ : ∃ m', m = m' + 1 := ⟨m - 1, by omega⟩
    have him : i.toNat = m' := by omega
    have hlt : m' < O.length := by omega
    obtain ⟨V, hV⟩ : ∃ V, num4 w0 w1 w2 w3 = V := ⟨_, rfl⟩
    obtain ⟨C, hC⟩ : ∃ C, num4 (rint O m' 0) (rint O m' 1) (rint O m' 2) (rint O m' 3) = C := ⟨_, rfl⟩
    have hCr : 0 ≤ C ∧ C < M256 := by
      have h := words_at hW hlt
      rw [← hC]; exact num4_range h.1 h.2.1 h.2.2.1 h.2.2.2
    have nV : ap4 N num4 w0 w1 w2 w3 = V := by subst hN; exact hV
    have nC : ap4 N num4 (rint' O (fn i) 0) (rint' O (fn i) 1) (rint' O (fn i) 2) (rint' O (fn i) 3) = C := by
      cases hA; subst hN
      rw [ap4_std, ← hC, ← him]
    have nN : ∀ y, (0 ≤ y ∧ y < M256) → ap4 N num4 (ap1 N l0 y) (ap1 N l1 y) (ap1 N l2 y) (ap1 N l3 y) = y := by
      intro y hy; subst hN; rw [ap1_std, ap1_std, ap1_std, ap1_std, ap4_std]; exact limb_num hy
    obtain ⟨T, hT⟩ : ∃ T, ap1 N nI a = T := ⟨_, rfl⟩
    obtain ⟨X, hX⟩ : ∃ X, ap2 N (smulN Q) V T = X := ⟨_, rfl⟩
    obtain ⟨Y, hY⟩ : ∃ Y, ap2 N (saddN Q) X C = Y := ⟨_, rfl⟩
    have eT : T = nI a := by rw [← hT]; subst hN; rw [ap1_std]
    have eX : X = smulN qN V (nI a) := by rw [← hX, eT]; subst hN; rw [ap2_std, hQ]
    have eY : Y = saddN qN X C := by rw [← hY]; subst hN; rw [ap2_std, hQ]
    have rX : 0 ≤ X ∧ X < qN := by rw [eX]; exact smulN_range _ _
    have rY : 0 ≤ Y ∧ Y < qN := by rw [eY]; exact saddN_range (toM rX) hCr
    have nT := nN T (by rw [eT]; exact ⟨by unfold nI; omega, nI_M a ha⟩)
    have nX := nN X (toM rX)
    have gb : fb i len = true := by
      cases hA
      show (decide (0 ≤ i) && decide (i < (len : Int))) = true
      rw [decide_eq_true (by omega), decide_eq_true (by omega)]; rfl
    have gl : fl (gadd (fn i) 1) (rlen O) = true := by
      cases hA
      exact decide_eq_true (by show i.toNat + 1 ≤ O.length; omega)
    have ei : fi .sub .i64 i 1 = i - 1 := by
      cases hA; show IntKind.i64.wrap _ = _; rw [IntKind.wrap_i64]; omega
    have next : ok m' (ap1 N l0 Y, ap1 N l1 Y, ap1 N l2 Y, ap1 N l3 Y, fi .sub .i64 i 1) := by
      rw [hok, ei]
      subst hN
      rw [ap1_std, ap1_std, ap1_std, ap1_std]
      refine evOk_mk (limb_W Y) ?_ (by omega) (by omega) (by omega)
      rw [limb_num (toM rY), drop_at (nums_at hlt), hC]
      show Y = saddN qN (smulN qN (evI ((numsL O).drop (m' + 1)) a) (nI a)) C
      rw [eY, eX, ← hv, hV]
    simp only [ap1, ap2, ap4] at hT hX hY nV nC nT nX next
    clear hK
    cbv
    repeat (simp only [hT, hX, hY, nV, nC, nT, nX, gb, gl, hml]; cbv)
    exact ⟨next, trivial⟩

theorem hcon_hev : HCon Try.prog [] 13 (evalH std apStd) := by
  refine hcon_shut Try.func13 rfl (by kernel_rfl) (fun args h x ch nw hF m us w H hv => ?_)
  unfold evalH at hF
  split at hF
  · rename_i n y ks O b
    split at hF
    · rename_i a hy
      simp only [HR.mk.injEq, Bool.and_eq_true] at hF
      obtain ⟨⟨h1, h2, h3, h4, h5⟩, rfl, rfl, rfl⟩ := hF
      have h2 := ckeq_eq h2
      subst h2
      have h3 : O.length = n := by simpa [std] using h3
      have h4 : n ≤ 1000000 := by simpa [std] using h4
      simp only [SV.vals, Option.bind_eq_some_iff, Option.map_eq_some_iff] at hv
      obtain ⟨u1, hu1, us1, ⟨u2, hu2, us2, e2, rfl⟩, rfl⟩ := hv
      obtain ⟨hu2', wa⟩ := i64_val hy hu2
      refine ⟨_, [.row 0 n, .int .i64 a], _, goods (base := 1) (l := [(41, numF apStd), (40, smul apStd qN), (39, sadd apStd qN)]) (d := [])
        (by intro p hp; simp only [List.mem_cons, List.not_mem_nil, or_false] at hp; rcases hp with rfl | rfl | rfl; exact con_hnum; exact con_sMul; exact con_sAdd) (by simp),
        rfl, by kernel_rfl, by simp [SV.vals, hu1, hu2', e2], Nat.le_of_ble_eq_true rfl, ?_, rfl, by simp, hev_vc std apStd (ALoop 1) O n a qN rfl rfl rfl rfl h3 h4 h5 _ rfl _ rfl wa⟩
      exact ⟨⟨kOk_ro h1, rfl, rfl⟩, trivial⟩
    · simp at hF
  · simp at hF

theorem rev_vc (A : Ar) (N : Ap) (L : LP) (O : List (List Sc)) (len : Nat) (a Q : Int) (hL : L = ALoop 1) (hA : A = std) (hN : N = apStd) (hQ : Q = qN) (hO : O.length = len) (hl : len ≤ 1000000) (hW : rowsW O = true)
    (x : SV) (hx : x = numV N (ap2 N evL O a)) (K : Bool → SV → List Blk → Prop) (hK : K = FinH 1 x [] [] (uniR 1 x [] [])) (ha : IntKind.i64.wrap a = a) :
    Shut (afun (cxs A L [(44, numF N), (43, smul N Q), (42, sadd N Q)] []) Try.f14 [.row 0 len, .int .i64 a] [⟨.recs k4 O, .ro⟩] K) := by
  obtain ⟨fi, fc, fw, fb, fn, fo, fs, fa, fe, fz, fy, ff, fl, fq, gadd, gsub, gmul, gmin, hlen', hget, hset, happ, hisub, irep, iput', rlen, rint', rbool', rstr', rset, rapp, rsub, rrep, hmkb, hbyts, imn, imx⟩ := A
  have hNl : (numsL O).length = len := by rw [numsL_len, hO]
  have hml : fc .leq (fo len) 9223372036854775807 = true := by cases hA; exact decide_eq_true (by show (len : Int) ≤ _; omega)
  obtain ⟨ok, hok⟩ : ∃ f, f = evOk (numsL O) a := ⟨_, rfl⟩
  apply Shut.mk
  cbv
  refine lp_ex hL len evEx (evHd O len a) ok ?_ ?_ hL (.inr rfl)
  · cbv
    refine ⟨?_, ?_, trivial⟩
    · rw [hok]
      have e : fi .sub .i64 (fo len) 1 = (len : Int) - 1 := by cases hA; show IntKind.i64.wrap ((len : Int) - 1) = _; rw [IntKind.wrap_i64]; omega
      rw [e]
      refine evOk_mk (by decide) ?_ (by omega) (by omega) (by omega)
      rw [List.drop_of_length_le (by omega)]
      rfl
    · simp only [hml]
  intro m hm d hd
  obtain ⟨w0, w1, w2, w3, i⟩ := d
  obtain ⟨hw, hv, i0, i1, i2⟩ : (W w0 ∧ W w1 ∧ W w2 ∧ W w3) ∧ num4 w0 w1 w2 w3 = evI ((numsL O).drop m) a ∧ -1 ≤ i ∧ (i + 1).toNat = m ∧ m ≤ (numsL O).length := by
    rw [hok] at hd
    exact evOk_ex hd
  clear hd
  cbv
  cases h1 : fc .geq i 0 <;> cbv
  · have hm0 : m = 0 := by
      have : ¬ i ≥ 0 := by cases hA; exact of_decide_eq_false h1
      omega
    subst hm0
    have e1 : num4 w0 w1 w2 w3 = evL O a := by rw [hv]; rfl
    obtain ⟨q0, q1, q2, q3⟩ := l_num4 hw
    have ex : x = .agg [.int .u64 w0, .int .u64 w1, .int .u64 w2, .int .u64 w3] := by
      rw [hx]
      subst hN
      rw [ap2_std, ← e1]
      unfold numV
      rw [ap1_std, ap1_std, ap1_std, ap1_std, q0, q1, q2, q3]
    rw [ex] at hK
    rw [hK]
    cbv
  · have hi : 0 ≤ i := by cases hA; exact of_decide_eq_true h1
    obtain ⟨m', rfl⟩ : ∃ m', m = m' + 1 := ⟨m - 1, by omega⟩
    have him : i.toNat = m' := by omega
    have hlt : m' < O.length := by omega
    obtain ⟨V, hV⟩ : ∃ V, num4 w0 w1 w2 w3 = V := ⟨_, rfl⟩
    obtain ⟨C, hC⟩ : ∃ C, num4 (rint O m' 0) (rint O m' 1) (rint O m' 2) (rint O m' 3) = C := ⟨_, rfl⟩
    have hCr : 0 ≤ C ∧ C < M256 := by
      have h := words_at hW hlt
      rw [← hC]; exact num4_range h.1 h.2.1 h.2.2.1 h.2.2.2
    have nV : ap4 N num4 w0 w1 w2 w3 = V := by subst hN; exact hV
    have nC : ap4 N num4 (rint' O (fn i) 0) (rint' O (fn i) 1) (rint' O (fn i) 2) (rint' O (fn i) 3) = C := by
      cases hA; subst hN
      rw [ap4_std, ← hC, ← him]
    have nN : ∀ y, (0 ≤ y ∧ y < M256) → ap4 N num4 (ap1 N l0 y) (ap1 N l1 y) (ap1 N l2 y) (ap1 N l3 y) = y := by
      intro y hy; subst hN; rw [ap1_std, ap1_std, ap1_std, ap1_std, ap4_std]; exact limb_num hy
    obtain ⟨T, hT⟩ : ∃ T, ap1 N nI a = T := ⟨_, rfl⟩
    obtain ⟨X, hX⟩ : ∃ X, ap2 N (smulN Q) V T = X := ⟨_, rfl⟩
    obtain ⟨Y, hY⟩ : ∃ Y, ap2 N (saddN Q) X C = Y := ⟨_, rfl⟩
    have eT : T = nI a := by rw [← hT]; subst hN; rw [ap1_std]
    have eX : X = smulN qN V (nI a) := by rw [← hX, eT]; subst hN; rw [ap2_std, hQ]
    have eY : Y = saddN qN X C := by rw [← hY]; subst hN; rw [ap2_std, hQ]
    have rX : 0 ≤ X ∧ X < qN := by rw [eX]; exact smulN_range _ _
    have rY : 0 ≤ Y ∧ Y < qN := by rw [eY]; exact saddN_range (toM rX) hCr
    have nT := nN T (by rw [eT]; exact ⟨by unfold nI; omega, nI_M a ha⟩)
    have nX := nN X (toM rX)
    have gb : fb i len = true := by
      cases hA
      show (decide (0 ≤ i) && decide (i < (len : Int))) = true
      rw [decide_eq_true (by omega), decide_eq_true (by omega)]; rfl
    have gl : fl (gadd (fn i) 1) (rlen O) = true := by
      cases hA
      exact decide_eq_true (by show i.toNat + 1 ≤ O.length; omega)
    have ei : fi .sub .i64 i 1 = i - 1 := by
      cases hA; show IntKind.i64.wrap _ = _; rw [IntKind.wrap_i64]; omega
    have next : ok m' (ap1 N l0 Y, ap1 N l1 Y, ap1 N l2 Y, ap1 N l3 Y, fi .sub .i64 i 1) := by
      rw [hok, ei]
      subst hN
      rw [ap1_std, ap1_std, ap1_std, ap1_std]
      refine evOk_mk (limb_W Y) ?_ (by omega) (by omega) (by omega)
      rw [limb_num (toM rY), drop_at (nums_at hlt), hC]
      show Y = saddN qN (smulN qN (evI ((numsL O).drop (m' + 1)) a) (nI a)) C
      rw [eY, eX, ← hv, hV]
    simp only [ap1, ap2, ap4] at hT hX hY nV nC nT nX next
    clear hK
    cbv
    repeat (simp only [hT, hX, hY, nV, nC, nT, nX, gb, gl, hml]; cbv)
    exact ⟨next, trivial⟩

theorem hcon_rev : HCon Try.prog [] 14 (evalH std apStd) := by
  refine hcon_shut Try.func14 rfl (by kernel_rfl) (fun args h x ch nw hF m us w H hv => ?_)
  unfold evalH at hF
  split at hF
  · rename_i n y ks O b
    split at hF
    · rename_i a hy
      simp only [HR.mk.injEq, Bool.and_eq_true] at hF
      obtain ⟨⟨h1, h2, h3, h4, h5⟩, rfl, rfl, rfl⟩ := hF
      have h2 := ckeq_eq h2
      subst h2
      have h3 : O.length = n := by simpa [std] using h3
      have h4 : n ≤ 1000000 := by simpa [std] using h4
      simp only [SV.vals, Option.bind_eq_some_iff, Option.map_eq_some_iff] at hv
      obtain ⟨u1, hu1, us1, ⟨u2, hu2, us2, e2, rfl⟩, rfl⟩ := hv
      obtain ⟨hu2', wa⟩ := i64_val hy hu2
      refine ⟨_, [.row 0 n, .int .i64 a], _, goods (base := 1) (l := [(44, numF apStd), (43, smul apStd qN), (42, sadd apStd qN)]) (d := [])
        (by intro p hp; simp only [List.mem_cons, List.not_mem_nil, or_false] at hp; rcases hp with rfl | rfl | rfl; exact con_rnum; exact con_srMul; exact con_srAdd) (by simp),
        rfl, by kernel_rfl, by simp [SV.vals, hu1, hu2', e2], Nat.le_of_ble_eq_true rfl, ?_, rfl, by simp, rev_vc std apStd (ALoop 1) O n a qN rfl rfl rfl rfl h3 h4 h5 _ rfl _ rfl wa⟩
      exact ⟨⟨kOk_ro h1, rfl, rfl⟩, trivial⟩
    · simp at hF
  · simp at hF

end Go.Proofs.Ytnhobbdijdbbeaa
