/- The engine's second part: slices, strings, calls. It has no conditions. -/
import Derived.Test.YtnhobbdijdbbeaaEngA
namespace Go.Eng
open Go.RowKit
set_option linter.unusedSimpArgs false
set_option linter.unusedVariables false

section globs
variable {G : List Nat}

section slc
variable {P : Program} {τ : Types} {m : List Pl} {w : World} {S : St} {a : Act}

/-- A bound, and its value. -/
def Bd (a : Act) : Option Operand → Option (Bool × Nm) → Prop
  | none, none => True
  | some x, some (ok, n) => ok = true → ∃ k i, a.eval x = .int k i ∧ 0 ≤ i ∧ i.toNat = n.n
  | _, _ => False

theorem bnd_spec (T : TTie G m S.t a) {lo : Option Operand} {p : Option (Bool × Nm)} (h : bnd std (S.ev G) lo = some p) : Bd a lo p := by
  cases lo with
  | none => simp [bnd] at h; subst h; trivial
  | some x =>
    simp only [bnd] at h
    split at h
    · rename_i q hq
      simp only [Option.some.injEq] at h
      subst h
      obtain ⟨ok, n⟩ := q
      intro hok
      have hb : S.ev G x ≠ .bad := by intro e; rw [e] at hq; simp [numO] at hq
      exact numO_spec ((St.eval_or T x).resolve_left hb) hq hok
    · cases h

theorem run_bound (k : IntKind) (i : Int) (y : Nat) (code : BoundsCode) (h0 : 0 ≤ i) (h : i.toNat ≤ y) : (Instr.sliceBound (.int k i) y code).run P w = .ok i.toNat w := by
  have : i ≤ y := by omega
  simp [Instr.sliceBound, asIntOf, h0, this]

theorem run_sliceBounds {lo hi mx : Option Operand} {pl ph pm : Option (Bool × Nm)} (hl : Bd a lo pl) (hh : Bd a hi ph) (hm : Bd a mx pm) (o1 : okNm pl = true) (o2 : okNm ph = true) (o3 : okNm pm = true)
    (b : Bool) (len cap l u x : Nat) (el : (valNm pl ⟨true, 0⟩).n = l) (eu : (valNm ph ⟨true, len⟩).n = u) (em : (valNm pm ⟨true, cap⟩).n = x) (h1 : l ≤ u) (h2 : u ≤ x) (h3 : x ≤ cap) (hmx : pm.isSome = true → ph.isSome = true) :
    (Instr.sliceBounds b len cap (lo.map a.eval) (hi.map a.eval) (mx.map a.eval)).run P w = .ok (l, u, x) w := by
  have bd : ∀ {o : Option Operand} {q : Option (Bool × Nm)}, Bd a o q → okNm q = true → (o = none ∧ q = none) ∨ ∃ y ok n, o = some y ∧ q = some (ok, n) ∧ ∃ k i, a.eval y = .int k i ∧ 0 ≤ i ∧ i.toNat = n.n := fun {o q} hb ho => by
    cases o <;> cases q
    · exact .inl ⟨rfl, rfl⟩
    · exact hb.elim
    · exact hb.elim
    · rename_i y q
      obtain ⟨ok, n⟩ := q
      exact .inr ⟨y, ok, n, rfl, rfl, hb ho⟩
  rcases bd hl o1 with ⟨rfl, rfl⟩ | ⟨yl, ol, nl, rfl, rfl, kl, il, e1, g1, f1⟩ <;>
  rcases bd hh o2 with ⟨rfl, rfl⟩ | ⟨yh, oh, nh, rfl, rfl, kh, ih, e2, g2, f2⟩ <;>
  rcases bd hm o3 with ⟨rfl, rfl⟩ | ⟨ym, om, nm, rfl, rfl, km, im, e3, g3, f3⟩ <;>
  simp only [valNm] at el eu em <;> (try (simp at hmx; done)) <;>
  subst el <;> subst eu <;> subst em <;>
  (try simp only [Option.map_some, Option.map_none, e1]) <;> (try simp only [e2]) <;> (try simp only [e3]) <;>
  simp (disch := omega) [Instr.sliceBounds, run_bound, *]

theorem litNm_spec {p : Option (Bool × Nm)} {d l : Nat} {o : Bool} (h : litNm p d = some (o, l)) (ho : o = true) (c : Bool) : okNm p = true ∧ (valNm p ⟨c, d⟩).n = l := by
  subst ho
  cases p with
  | none => simp [litNm] at h; exact ⟨rfl, h⟩
  | some q =>
    obtain ⟨ok, lit, n⟩ := q
    cases lit <;> simp only [litNm] at h
    · cases h
    · simp only [Option.some.injEq, Prod.mk.injEq] at h
      obtain ⟨rfl, rfl⟩ := h
      exact ⟨rfl, rfl⟩

theorem zeroNm_spec {p : Option (Bool × Nm)} (h : zeroNm p = true) : okNm p = true ∧ ∀ c, (valNm p ⟨c, 0⟩).n = 0 := by
  cases p with
  | none => exact ⟨rfl, fun _ => rfl⟩
  | some q =>
    obtain ⟨ok, lit, n⟩ := q
    cases lit <;> simp only [zeroNm] at h
    · cases h
    · simp only [Bool.and_eq_true] at h
      exact ⟨h.1, fun _ => by simpa [valNm] using h.2⟩

theorem frz_set {h : List Blk} {id : Nat} (hl : (blkAt h id).live = true) (H : HTie m h w) : HTie m (h.set id (blkAt h id).frz) w := by
  have hb := blkAt_some hl
  have hd := live_kind hl
  have key : ∀ k, ((blkAt h id).frz = ⟨(blkAt h id).c, .ro⟩ → k = 0) → True := fun _ _ => trivial
  cases hk : (blkAt h id).k with
  | var =>
    have : (blkAt h id).frz = ⟨(blkAt h id).c, .ro⟩ := by simp [Blk.frz, hk]
    rw [this]; exact H.freeze hb (.inr ⟨rfl, hd⟩)
  | row es =>
    have : (blkAt h id).frz = ⟨(blkAt h id).c, .ro⟩ := by simp [Blk.frz, hk]
    rw [this]; exact H.freeze hb (.inr ⟨rfl, hd⟩)
  | _ =>
    have : (blkAt h id).frz = blkAt h id := by simp [Blk.frz, hk]
    rw [this]
    have e : h.set id (blkAt h id) = h := by
      apply List.ext_getElem?
      intro j
      rw [List.getElem?_set]
      by_cases hj : id = j
      · subst hj; rw [if_pos rfl, if_pos (List.getElem?_eq_some_iff.1 hb).1, hb]
      · rw [if_neg hj]
    rw [e]; exact H

theorem frz_wr (b : Blk) : b.frz.k.wr = false := by
  unfold Blk.frz
  cases hk : b.k <;> simp [hk, BK.wr]
theorem frz_c (b : Blk) : b.frz.c = b.c := by
  unfold Blk.frz
  cases hk : b.k <;> rfl

theorem set_wr {h : List Blk} {id : Nat} {x : Blk} (hx : x.k.wr = false) : ∀ (i : Nat) (c : Blk), (h.set id x)[i]? = some c → c.k.wr = true → ∃ c0 : Blk, h[i]? = some c0 ∧ c0.k.wr = true := fun i c hc hk => by
  rw [List.getElem?_set] at hc
  by_cases hj : id = i
  · subst hj
    rw [if_pos rfl] at hc
    split at hc
    · simp only [Option.some.injEq] at hc; subst hc; rw [hx] at hk; cases hk
    · cases hc
  · rw [if_neg hj] at hc; exact ⟨c, hc, hk⟩

theorem set_live {h : List Blk} {id : Nat} {x : Blk} (hx : x.k ≠ .dead → ∃ c0 : Blk, h[id]? = some c0 ∧ c0.k ≠ .dead) : ∀ (i : Nat) (c : Blk), (h.set id x)[i]? = some c → c.k ≠ .dead → ∃ c0 : Blk, h[i]? = some c0 ∧ c0.k ≠ .dead := fun i c hc hk => by
  rw [List.getElem?_set] at hc
  by_cases hj : id = i
  · subst hj
    rw [if_pos rfl] at hc
    split at hc
    · simp only [Option.some.injEq] at hc; subst hc; exact hx hk
    · cases hc
  · rw [if_neg hj] at hc; exact ⟨c, hc, hk⟩

/-- A piece of a block, read alone. -/
theorem opOk_piece {o : Oper} {h : List Blk} {id : Nat} {p p' : Pl} {c : Cs} {k : BK} {ok : Bool} {v : SV} {u : Value} (H : HTie m h w) (hp : m[id]? = some p) (hl : (blkAt h id).live = true) (hkw : k.wr = false)
    (hr : (execOp a.eval o).run P w = .ok (.value u) w) (hv : v.val (m ++ [p']) = some u) (hb : p'.nil = p.nil ∧ p'.blk = p.blk) (hh : Holds (m ++ [p']) w p' ⟨c, k⟩) : OpOk P o a w m h ⟨ok, v, h.set id (blkAt h id).frz ++ [⟨c, k⟩]⟩ := by
  have hbs := blkAt_some hl
  refine OpOk.ofRun hr (Ext.gen H rfl rfl rfl (Nat.le_refl _) (by simp) (fun _ _ _ => rfl) (set_wr (frz_wr _)) (set_live fun _ => ⟨_, hbs, live_kind hl⟩) (fun hn => .inr ⟨id, p, _, hp, hbs, live_kind hl, by rw [← hb.1]; exact hn, hb.2.symm, fun e => by simp only at e; rw [hkw] at e; cases e⟩))
    ((frz_set hl H).push2 (fun _ _ _ _ _ _ _ => rfl) (fun _ => hh) (fun _ hn j q d hq hd hdd hqn hw => ?_)) (.inr hv)
  have hdw : d.k.wr = true := hw.resolve_left (by simp only; rw [hkw]; simp)
  obtain ⟨d0, h1, h2⟩ := set_wr (frz_wr _) j d hd hdw
  have hne : j ≠ id := by
    intro e; subst e
    rw [List.getElem?_set, if_pos rfl] at hd
    split at hd
    · simp only [Option.some.injEq] at hd; subst hd; rw [frz_wr] at hdw; cases hdw
    · cases hd
  rw [hb.2]
  exact H.apart j id q p d0 _ hne hq hp h1 hbs (by intro e; rw [e] at h2; cases h2) (live_kind hl) hqn (by rw [← hb.1]; exact hn) (.inl h2)

theorem difNm_n (u l : Nm) : (difNm std u l).n = u.n - l.n := by unfold difNm; split <;> rfl
theorem valNm_nm (p : Option (Bool × Nm)) (c : Cs) (n : Nm) : (valNm p (c.nm n)).n = (valNm p n).n := by cases p <;> simp [valNm, Cs.nm_n]

/-- A piece of a slice. -/
theorem ok_piece (T : TTie G m S.t a) (H : HTie m S.h w) {o : Oper} {t e : TypeId} {x : Operand} {lo hi : Option Operand} {pl ph : Option (Bool × Nm)} {i : TI} {id off : Nat} {len : Nm} (ho : o.op = .slice t x lo hi none)
    (hd : P.underlying t = some (.slice e)) (hi' : TFact P e i) (hsl : sliceOf (S.ev G x) = some (id, off, len)) (h1 : Bd a lo pl) (h2 : Bd a hi ph)
    (hok : (pieceO std id off i.size len pl ph S.h).ok = true) : OpOk P o a w m S.h (pieceO std id off i.size len pl ph S.h) := by
  unfold pieceO at hok ⊢
  cases hr : (blkAt S.h id).c.sub std off i.size (valNm pl ⟨true, 0⟩) (difNm std (valNm ph ((blkAt S.h id).c.nm len)) (valNm pl ⟨true, 0⟩)) with
  | mk ok c =>
  rw [hr] at hok
  simp only [Bool.and_eq_true] at hok ⊢
  obtain ⟨hl, o1, o2, h3, h4, rfl⟩ := hok
  simp only [std, decide_eq_true_eq] at h3 h4
  obtain ⟨l, hle⟩ : ∃ l, l = (valNm pl ⟨true, 0⟩).n := ⟨_, rfl⟩
  obtain ⟨u, hue⟩ : ∃ u, u = (valNm ph len).n := ⟨_, rfl⟩
  rw [← hle, ← hue] at h3
  rw [← hue] at h4
  have hn : (difNm std (valNm ph ((blkAt S.h id).c.nm len)) (valNm pl ⟨true, 0⟩)).n = u - l := by rw [difNm_n, valNm_nm, ← hle, ← hue]
  have hval : ∃ p, m[id]? = some p ∧ ((p.nil = false ∧ ∃ cap, len.n ≤ cap ∧ a.eval x = .slice (some ⟨p.blk, p.off + off, none⟩) len.n cap) ∨ (p.nil = true ∧ len.n = 0 ∧ a.eval x = .slice none 0 0)) := by
    cases he : S.ev G x <;> rw [he] at hsl <;> simp only [sliceOf, Option.some.injEq, Prod.mk.injEq] at hsl <;> try (cases hsl; done)
    · obtain ⟨rfl, rfl, rfl⟩ := hsl
      obtain ⟨p, hp, hn, hlc, e⟩ := ev_slice T he
      exact ⟨p, hp, .inl ⟨hn, _, hlc, e⟩⟩
    · obtain ⟨rfl, rfl, rfl⟩ := hsl
      obtain ⟨p, hp, e⟩ := ev_row T he
      rcases e with ⟨hn, hle', e⟩ | ⟨hn, h0, e⟩
      · exact ⟨p, hp, .inl ⟨hn, _, hle', e⟩⟩
      · exact ⟨p, hp, .inr ⟨hn, h0, e⟩⟩
  obtain ⟨p, hp, hval⟩ := hval
  have hh := H.holds id p _ hp (blkAt_some hl) (live_kind hl)
  obtain ⟨h5, h6⟩ := Cs.sub_spec hh.wf hr
  rw [hn, ← hle] at h5
  rw [hn, ← hle] at h6
  rw [hn]
  rcases hval with ⟨hpn, cap, hlc, he⟩ | ⟨hpn, h0, he⟩
  · have hb := run_sliceBounds (P := P) (w := w) h1 h2 (mx := none) (pm := none) trivial o1 o2 rfl true len.n cap l u cap hle.symm (by rw [hue]; cases ph <;> rfl) rfl h3 (by omega) (Nat.le_refl _) (by simp)
    simp only [Option.map_none] at hb
    refine opOk_piece (p' := ⟨p.blk, p.off + off + (if cap = l then 0 else l * i.size), cap - l, false⟩) (u := .slice (some ⟨p.blk, p.off + off + (if cap = l then 0 else l * i.size), none⟩) (u - l) (cap - l)) H hp hl rfl ?_ ?_ ⟨hpn.symm, rfl⟩ ?_
    · simp only [execOp, ho, Instr.sliceAt, Sem.run_bind, run_underlying hd, Result.andThen_ok, Instr.slice, he, hb, hi'.run_sizeOf, Sem.run_pure, Option.map_none]
      split
      · rfl
      · simp [addr_add]
    · simp only [SV.val]
      rw [← H.len, get_push]
      simp [Pl.row]
      omega
    · refine ⟨h6.wf, fun e => absurd e (by simp), fun _ => hh.lt hpn, fun j hj => ?_, fun e => absurd e (by simp [BK.wr]), fun e => absurd e (by simp [BK.wr]), fun es e => absurd e (by simp), fun es e => absurd e (by simp)⟩
      simp only [h6.size] at hj
      obtain ⟨v, g1, g2, g3⟩ := hh.cells (off + l * i.size + j) (by rw [Nat.add_mul] at h5; omega)
      refine ⟨v, ?_, g2, ?_⟩
      · simp only
        rw [h6.get j hj]; exact SV.val_mono (List.prefix_append _ _) _ g1
      · simp only
        have hul : 0 < u - l := by
          rcases Nat.eq_zero_or_pos (u - l) with h0 | h0
          · rw [h0] at hj; omega
          · exact h0
        rw [if_neg (by omega)]
        rw [← g3]; congr 2; omega
  · have hb := run_sliceBounds (P := P) (w := w) h1 h2 (mx := none) (pm := none) trivial o1 o2 rfl true 0 0 l u 0 hle.symm (by rw [hue]; cases ph with | none => simp [valNm, h0] | some q => rfl) rfl h3 (by omega) (Nat.le_refl _) (by simp)
    simp only [Option.map_none] at hb
    have hl0 : l = 0 := by omega
    have hu0 : u = 0 := by omega
    subst hl0; subst hu0
    refine opOk_piece (p' := ⟨p.blk, 0, 0, true⟩) (u := .slice none 0 0) H hp hl rfl ?_ ?_ ⟨hpn.symm, rfl⟩ ?_
    · simp only [execOp, ho, Instr.sliceAt, Sem.run_bind, run_underlying hd, Result.andThen_ok, Instr.slice, he, hb, hi'.run_sizeOf, Sem.run_pure, Option.map_none]
      rfl
    · simp only [SV.val]
      rw [← H.len, get_push]
      simp [Pl.row]
    · refine ⟨h6.wf, fun _ => ⟨by simp [h6.size], rfl, by simp⟩, fun e => absurd e (by simp), fun j hj => ?_, fun e => absurd e (by simp [BK.wr]), fun e => absurd e (by simp [BK.wr]), fun es e => absurd e (by simp), fun es e => absurd e (by simp)⟩
      simp [h6.size] at hj

end slc

section slc2
variable {P : Program} {τ : Types} {m : List Pl} {w : World} {S : St} {a : Act}

theorem run_sliceAt_slice {t e : TypeId} {i : TI} (hd : P.underlying t = some (.slice e)) (hi : TFact P e i) {x : Value} {lo hi' mx : Option Value} {b : Option Addr} {len cap l u q : Nat} (hx : x = .slice b len cap)
    (hb : (Instr.sliceBounds true len cap lo hi' mx).run P w = .ok (l, u, q) w) : (Instr.sliceAt t x lo hi' mx).run P w = .ok (.slice (if q = l then b else b.map (·.add (l * i.size))) (u - l) (q - l)) w := by
  subst hx
  simp only [Instr.sliceAt, Sem.run_bind, run_underlying hd, Result.andThen_ok, Instr.slice, hb, hi.run_sizeOf, Sem.run_pure]

theorem valNm_lit (p : Option (Bool × Nm)) (c d : Bool) (n : Nat) : (valNm p ⟨c, n⟩).n = (valNm p ⟨d, n⟩).n := by cases p <;> rfl

theorem ok_slice (hτ : TOk P τ) (T : TTie G m S.t a) (H : HTie m S.h w) {o : Oper} {t : TypeId} {x : Operand} {lo hi mx : Option Operand} (ho : o.op = .slice t x lo hi mx)
    (hok : (sliceO std τ t (S.ev G x) (bnd std (S.ev G) lo) (bnd std (S.ev G) hi) (bnd std (S.ev G) mx) S.h).ok = true) :
    OpOk P o a w m S.h (sliceO std τ t (S.ev G x) (bnd std (S.ev G) lo) (bnd std (S.ev G) hi) (bnd std (S.ev G) mx) S.h) := by
  unfold sliceO at hok ⊢
  split at hok
  case h_2 => simp at hok
  rename_i pl ph pm el eh em
  have b1 := bnd_spec T el
  have b2 := bnd_spec T eh
  have b3 := bnd_spec T em
  have hmx : pm.isSome = true → ph.isSome = true := by
    intro h
    cases ph with
    | some _ => rfl
    | none =>
      cases pm with
      | none => cases h
      | some _ => simp at hok
  have key : (sliceO1 std τ t (S.ev G x) pl ph pm S.h).ok = true → OpOk P o a w m S.h (sliceO1 std τ t (S.ev G x) pl ph pm S.h) := by
    clear hok
    intro hok
    unfold sliceO1 at hok ⊢
    split at hok
    · -- a string
      rename_i hi1
      obtain ⟨d, hd, hfit⟩ := (hτ t _ hi1).desc
      cases d <;> simp [TD.fits] at hfit
      split at hok
      · rename_i s hx
        simp only [std, Bool.and_eq_true, decide_eq_true_eq] at hok
        obtain ⟨o1, o2, h1, h2⟩ := hok
        have hb := run_sliceBounds (P := P) (w := w) b1 b2 b3 o1 o2 rfl false s.size s.size _ _ s.size rfl (valNm_lit ph true false s.size) rfl h1 h2 (Nat.le_refl _) hmx
        have hmn : mx = none := by
          cases mx with
          | none => rfl
          | some y => simp [Bd] at b3
        subst hmn
        simp only [Option.map_none] at hb
        refine OpOk.value H (u := .string (s.extract (valNm pl ⟨true, 0⟩).n (valNm ph ⟨false, s.size⟩).n)) ?_ (.inr rfl)
        simp only [execOp, ho, Instr.sliceAt, Sem.run_bind, run_underlying hd, Result.andThen_ok, Instr.slice, ev_str T hx, Option.map_none, Option.isSome_none, Bool.false_eq_true, if_false, hb, Sem.run_pure]
      · simp at hok
    · -- an array
      rename_i n e _ _ _ hi1
      obtain ⟨d, hd, hfit⟩ := (hτ t _ hi1).desc
      cases d <;> simp [TD.fits] at hfit
      obtain ⟨rfl, rfl⟩ := hfit
      split at hok
      · rename_i id off i o1 l o2 u o3 q hx hi2 e1 e2 e3
        simp only [Rof, offO, Bool.and_eq_true] at hok
        obtain ⟨⟨rfl, rfl, rfl, h3⟩, h1, h2⟩ := hok
        have h1 : l ≤ u := by simpa using h1
        have h2 : u ≤ q := by simpa using h2
        have h3 : q ≤ n := by simpa using h3
        obtain ⟨p, hp, hn, he⟩ := ev_ptr T hx
        have hb := run_sliceBounds (P := P) (w := w) b1 b2 b3 (litNm_spec e1 rfl true).1 (litNm_spec e2 rfl true).1 (litNm_spec e3 rfl true).1 false n n l u q (litNm_spec e1 rfl true).2 (litNm_spec e2 rfl true).2 (litNm_spec e3 rfl true).2 h1 h2 h3 hmx
        refine OpOk.value H (u := .slice (some (if q = l then ⟨p.blk, p.off + off, none⟩ else (⟨p.blk, p.off + off, none⟩ : Addr).add (l * i.size))) (u - l) (q - l)) ?_ (.inr ?_)
        · simp only [execOp, ho, Instr.sliceAt, Sem.run_bind, run_underlying hd, Result.andThen_ok, he, Instr.sureAddr, hb, (hτ e i hi2).run_sizeOf, Sem.run_pure]
        · simp only [offO, SV.val, hp, Option.bind_some, Pl.sl, hn, Bool.false_eq_true, if_false]
          rw [if_pos (show u - l ≤ q - l by omega)]
          by_cases hql : q = l
          · subst hql; simp
          · have : Nat.beq q l = false := by rw [← Bool.not_eq_true, Nat.beq_eq]; exact hql
            simp only [if_neg hql, this, addr_add, Nat.add_assoc]
      · simp at hok
    · -- a slice
      rename_i e _ _ _ hi1
      obtain ⟨d, hd, hfit⟩ := (hτ t _ hi1).desc
      cases d <;> simp [TD.fits] at hfit
      subst hfit
      split at hok
      · simp at hok
      · rename_i i hi2
        have f := hτ e i hi2
        split at hok
        · rename_i hx
          simp only [Bool.and_eq_true] at hok
          obtain ⟨z1, z2, z3⟩ := hok
          have z1 := zeroNm_spec z1
          have z2 := zeroNm_spec z2
          have z3 := zeroNm_spec z3
          have hb := run_sliceBounds (P := P) (w := w) b1 b2 b3 z1.1 z2.1 z3.1 true 0 0 0 0 0 (z1.2 _) (z2.2 _) (z3.2 _) (Nat.le_refl _) (Nat.le_refl _) (Nat.le_refl _) hmx
          refine OpOk.value H (u := .slice none 0 0) ?_ (.inr rfl)
          simp only [execOp, ho, Sem.run_bind, run_sliceAt_slice hd f (ev_nils T hx) hb, Result.andThen_ok, Sem.run_pure]
          rfl
        · rename_i id off len cap hx
          obtain ⟨p, hp, hn, hlc, he⟩ := ev_slice T hx
          split at hok
          · rename_i o1 l o2 u o3 q e1 e2 e3
            simp only [Rof, offO, Bool.and_eq_true] at hok
            obtain ⟨⟨rfl, rfl, rfl, h3⟩, h1, h2⟩ := hok
            have h1 : l ≤ u := by simpa using h1
            have h2 : u ≤ q := by simpa using h2
            have h3 : q ≤ cap := by simpa using h3
            have hb := run_sliceBounds (P := P) (w := w) b1 b2 b3 (litNm_spec e1 rfl true).1 (litNm_spec e2 rfl true).1 (litNm_spec e3 rfl true).1 true len cap l u q (litNm_spec e1 rfl true).2 (litNm_spec e2 rfl true).2 (litNm_spec e3 rfl true).2 h1 h2 h3 hmx
            refine OpOk.value H (u := .slice (if q = l then some ⟨p.blk, p.off + off, none⟩ else (some (⟨p.blk, p.off + off, none⟩ : Addr)).map (·.add (l * i.size))) (u - l) (q - l)) ?_ (.inr ?_)
            · simp only [execOp, ho, Sem.run_bind, run_sliceAt_slice hd f he hb, Result.andThen_ok, Sem.run_pure]
            · simp only [offO, SV.val, hp, Option.bind_some, Pl.sl, hn, Bool.false_eq_true, if_false]
              rw [if_pos (show u - l ≤ q - l by omega)]
              by_cases hql : q = l
              · subst hql; simp
              · have : Nat.beq q l = false := by rw [← Bool.not_eq_true, Nat.beq_eq]; exact hql
                simp only [if_neg hql, this, addr_add, Nat.add_assoc, Option.map_some]
          · split at hok
            · have hmn : mx = none := by
                cases mx with
                | none => rfl
                | some y => simp [Bd] at b3
              subst hmn
              exact ok_piece T H ho hd f (by rw [hx]; rfl) b1 b2 hok
            · simp at hok
        · rename_i id len hx
          obtain ⟨p, hp, he⟩ := ev_row T hx
          split at hok
          · have hmn : mx = none := by
              cases mx with
              | none => rfl
              | some y => simp [Bd] at b3
            subst hmn
            split at hok
            · rename_i hz
              have z1 := zeroNm_spec hz
              simp only [std, Bool.and_eq_true, decide_eq_true_eq] at hok
              obtain ⟨o2, h2⟩ := hok
              rcases he with ⟨hn, hle, he⟩ | ⟨hn, h0, he⟩
              · have hb := run_sliceBounds (P := P) (w := w) b1 b2 b3 z1.1 o2 rfl true len p.cap 0 _ p.cap (z1.2 _) (valNm_lit ph true false len) rfl (Nat.zero_le _) (Nat.le_trans h2 hle) (Nat.le_refl _) hmx
                refine OpOk.value H (u := .slice (some ⟨p.blk, p.off, none⟩) (valNm ph ⟨false, len⟩).n p.cap) ?_ (.inr ?_)
                · simp only [execOp, ho, Sem.run_bind, run_sliceAt_slice hd f he hb, Result.andThen_ok, Sem.run_pure]
                  simp [Addr.add]
                · simp only [SV.val, hp, Option.bind_some, Pl.row, hn, Bool.false_eq_true, if_false]
                  rw [if_pos (Nat.le_trans h2 hle)]
              · subst h0
                have hb := run_sliceBounds (P := P) (w := w) b1 b2 b3 z1.1 o2 rfl true 0 0 0 _ 0 (z1.2 _) (valNm_lit ph true false 0) rfl (Nat.zero_le _) h2 (Nat.le_refl _) hmx
                have hu0 : (valNm ph ⟨false, 0⟩).n = 0 := by omega
                refine OpOk.value H (u := .slice none 0 0) ?_ (.inr ?_)
                · simp only [execOp, ho, Sem.run_bind, run_sliceAt_slice hd f he hb, Result.andThen_ok, Sem.run_pure, hu0]
                  rfl
                · simp only [SV.val, hp, Option.bind_some, Pl.row, hn, if_true, hu0]
            · exact ok_piece T H ho hd f (by rw [hx]; rfl) b1 b2 hok
          · rename_i o3 q
            split at hok
            · rename_i o2 u hz
              have z1 := zeroNm_spec hz
              cases hr : (blkAt S.h id).c.sub std 0 i.size ⟨true, 0⟩ ((blkAt S.h id).c.nm u) with
              | mk ok c =>
              rw [hr] at hok
              simp only [Bool.and_eq_true, std, decide_eq_true_eq] at hok ⊢
              obtain ⟨hl, rfl, rfl, h3, h4, rfl⟩ := hok
              have hh := H.holds id p _ hp (blkAt_some hl) (live_kind hl)
              obtain ⟨h5, h6⟩ := Cs.sub_spec hh.wf hr
              simp only [Cs.nm_n, Nat.zero_add, Nat.zero_mul, Nat.add_zero] at h5 h6
              rcases he with ⟨hn, hle, he⟩ | ⟨hn, h0, he⟩
              · have hb := run_sliceBounds (P := P) (w := w) b1 b2 b3 z1.1 rfl rfl true len p.cap 0 u.n q.n (z1.2 _) rfl rfl (Nat.zero_le _) (by omega) (by omega) hmx
                refine opOk_piece (p' := ⟨p.blk, p.off, u.n, false⟩) (u := .slice (some ⟨p.blk, p.off, none⟩) u.n u.n) H hp hl rfl ?_ ?_ ⟨hn.symm, rfl⟩ ?_
                · simp only [execOp, ho, Sem.run_bind, run_sliceAt_slice hd f he hb, Result.andThen_ok, Sem.run_pure, h3]
                  simp [Addr.add]
                · simp only [SV.val]
                  rw [← H.len, get_push]
                  simp [Pl.row]
                · refine ⟨h6.wf, fun e => absurd e (by simp), fun _ => hh.lt hn, fun j hj => ?_, fun e => absurd e (by simp [BK.wr]), fun e => absurd e (by simp [BK.wr]), fun es e _ => ?_, fun es e => absurd e (by simp)⟩
                  · simp only [h6.size] at hj
                    obtain ⟨v, g1, g2, g3⟩ := hh.cells j (by omega)
                    refine ⟨v, ?_, g2, g3⟩
                    simp only
                    rw [h6.get j hj]; exact SV.val_mono (List.prefix_append _ _) _ g1
                  · simp only [BK.full.injEq] at e
                    subst e
                    exact h6.size.symm
              · subst h0
                have hu0 : u.n = 0 := by omega
                have hq0 : q.n = 0 := by omega
                have hb := run_sliceBounds (P := P) (w := w) b1 b2 b3 z1.1 rfl rfl true 0 0 0 u.n q.n (z1.2 _) rfl rfl (Nat.zero_le _) (by omega) (by omega) hmx
                refine opOk_piece (p' := ⟨p.blk, 0, 0, true⟩) (u := .slice none 0 0) H hp hl rfl ?_ ?_ ⟨hn.symm, rfl⟩ ?_
                · simp only [execOp, ho, Sem.run_bind, run_sliceAt_slice hd f he hb, Result.andThen_ok, Sem.run_pure, hu0, hq0]
                  rfl
                · simp only [SV.val]
                  rw [← H.len, get_push]
                  simp [Pl.row, hu0]
                · refine ⟨h6.wf, fun _ => ⟨by simp [h6.size, hu0], rfl, by simp⟩, fun e => absurd e (by simp), fun j hj => ?_, fun e => absurd e (by simp [BK.wr]), fun e => absurd e (by simp [BK.wr]), fun es e e' => absurd e' (by simp), fun es e => absurd e (by simp)⟩
                  simp [h6.size, hu0] at hj
            · simp at hok
        · simp at hok
    · simp at hok
  cases ph with
  | some _ => exact key hok
  | none =>
    cases pm with
    | none => exact key hok
    | some _ => simp at hok

end slc2

section grow
variable {P : Program} {τ : Types} {m : List Pl} {w : World} {S : St} {a : Act}

theorem repL_length (l : List SV) : ∀ n, (repL l n).length = n * l.length
  | 0 => by simp [repL]
  | n + 1 => by simp only [repL, List.length_append, repL_length l n, Nat.add_mul]; omega

theorem repL_get (l : List SV) : ∀ (n i : Nat), i < n * l.length → (repL l n)[i]? = l[i % l.length]?
  | 0, i, h => by omega
  | n + 1, i, h => by
    have hpos : 0 < l.length := by
      rcases Nat.eq_zero_or_pos l.length with h0 | h0
      · rw [h0] at h; omega
      · exact h0
    simp only [repL]
    by_cases hi : i < l.length
    · rw [List.getElem?_append_left hi, Nat.mod_eq_of_lt hi]
    · rw [List.getElem?_append_right (by omega), repL_get l n (i - l.length) (by rw [Nat.add_mul] at h; omega), ← Nat.mod_eq_sub_mod (by omega)]

theorem made_get (z : Array Value) (n i : Nat) (h : i < n) : (madeCells z n).toList[i]? = some z[i % z.size]! := by
  simp [madeCells, h]

theorem scZ_spec : ∀ {l : List SV} {ks : List CK} {xs : List Sc}, scZ l = some (ks, xs) → ks.length = l.length ∧ xs.length = l.length ∧ ∀ i, i < l.length → ∀ (R : List (List Sc)) (j : Nat), R[j]? = some xs → (cellK R j i ks[i]?).same (l.getD i .bad)
  | [], ks, xs, h => by simp [scZ] at h; obtain ⟨rfl, rfl⟩ := h; simp
  | v :: r, ks, xs, h => by
    simp only [scZ] at h
    split at h
    · cases h
    · rename_i ks' xs' hr
      obtain ⟨h1, h2, h3⟩ := scZ_spec hr
      have step : ∀ (i : Nat), i + 1 < (v :: r).length → ∀ (k : CK) (x : Sc) (R : List (List Sc)) (j : Nat), R[j]? = some (x :: xs') → (cellK R j (i + 1) ks'[i]?).same (r.getD i .bad) := fun i hi k x R j hR => by
        have := h3 i (by simpa using hi) (R.map fun q => q.drop 1) j (by simp [hR])
        have e : ∀ y : Option CK, cellK (R.map fun q => q.drop 1) j i y = cellK R j (i + 1) y := fun y => by
          have hg : rget (R.map fun q => q.drop 1) j i = rget R j (i + 1) := by simp [rget, hR]
          cases y with
          | none => rfl
          | some y => cases y <;> simp only [cellK, rint, rbool, rstr, hg]
        rw [e] at this
        exact this
      cases v <;> simp only at h <;> try (cases h; done)
      all_goals
        simp only [Option.some.injEq, Prod.mk.injEq] at h
        obtain ⟨rfl, rfl⟩ := h
        refine ⟨by simp [h1], by simp [h2], fun i hi R j hR => ?_⟩
        cases i with
        | zero => simp [cellK, rint, rbool, rstr, rget, hR, Sc.toInt, Sc.toBool, Sc.toStr, SV.same, SV.val]
        | succ i => simpa using step i hi (.bool) _ R j hR

/-- Zeros, so many elements. -/
theorem zerosO_spec {n : Nat} {l : List SV} {c : Cs} (h : zerosO std n l = some c) : Laid c (n * l.length) (fun i => (repL l n).getD i .bad) := by
  unfold zerosO at h
  split at h
  · rename_i k x
    simp only [Option.some.injEq, std] at h
    subst h
    refine ⟨trivial, by simp [Cs.size], fun i hi => ?_⟩
    have hi' : i < n := by simpa using hi
    simp only [Cs.get, List.getD_eq_getElem?_getD]
    rw [repL_get _ _ _ hi, List.getElem?_replicate, if_pos hi']
    simp [Nat.mod_one]
    intro m; simp [SV.val]
  · split at h
    · rename_i ks xs hs
      simp only [Option.some.injEq, std] at h
      subst h
      obtain ⟨h1, h2, h3⟩ := scZ_spec hs
      refine ⟨trivial, by simp [Cs.size, h1], fun i hi => ?_⟩
      have hpos : 0 < l.length := by
        rcases Nat.eq_zero_or_pos l.length with h0 | h0
        · rw [h0] at hi; omega
        · exact h0
      have hm : i % l.length < l.length := Nat.mod_lt _ hpos
      have hdiv : i / l.length < n := Nat.div_lt_of_lt_mul (by rw [Nat.mul_comm]; exact hi)
      simp only [Cs.get, h1, List.getD_eq_getElem?_getD]
      rw [repL_get _ _ _ hi]
      have := h3 (i % l.length) hm (List.replicate n xs) (i / l.length) (by rw [List.getElem?_replicate, if_pos hdiv])
      simpa only [List.getD_eq_getElem?_getD] using this
    · cases h

/-- Cells that are a content's. -/
structure Reads (m : List Pl) (c : Cs) (vs : List Value) : Prop where
  wf : c.wf
  len : vs.length = c.size
  get : ∀ (j : Nat) (v : Value), vs[j]? = some v → (c.get j).val m = some v ∧ v.oneCell' = true

theorem Reads.mono {m' : List Pl} {c : Cs} {vs : List Value} (h : Reads m c vs) (hm : m <+: m') : Reads m' c vs :=
  ⟨h.wf, h.len, fun j v hj => ⟨SV.val_mono hm _ (h.get j v hj).1, (h.get j v hj).2⟩⟩

theorem Reads.one {c : Cs} {vs : List Value} (h : Reads m c vs) : ∀ v ∈ vs, v.oneCell' = true := fun v hv => by
  obtain ⟨i, hi⟩ := List.mem_iff_getElem?.1 hv
  exact (h.get i v hi).2

theorem Reads.app {c d e : Cs} {us vs : List Value} (h : Reads m c us) (h' : Reads m d vs) (he : c.app std d = some e) : Reads m e (us ++ vs) := by
  have hl := Cs.app_spec h.wf h'.wf h.len.symm he
  refine ⟨hl.wf, by rw [List.length_append, hl.size, h'.len], fun j v hj => ?_⟩
  have hjl : j < us.length + d.size := by
    have := (List.getElem?_eq_some_iff.1 hj).1
    rw [List.length_append, h'.len] at this; exact this
  rw [hl.get j hjl m, beside]
  by_cases hlt : j < us.length
  · rw [List.getElem?_append_left hlt] at hj
    rw [if_pos hlt]; exact h.get j v hj
  · rw [List.getElem?_append_right (by omega)] at hj
    rw [if_neg hlt]; exact h'.get _ v hj

theorem Holds.newC {c : Cs} {vs : List Value} (hr : Reads m c vs) (w : World) {w' : World} {e : TypeId} (more : List Value) {k : BK} (hk : ∀ es, k ≠ .full es) {cap : Nat} {fr : Nat × Nat} (hfr0 : ∀ i, i < (vs ++ more).length → ¬ (fr.1 ≤ i ∧ i < fr.2))
    (hw : w'.heap = w.heap.push (.cells (vs ++ more).toArray e fr)) (hce : ∀ es, k = .row es → c.size ≤ cap * es ∧ cap * es ≤ (vs ++ more).length) : Holds m w' ⟨w.heap.size, 0, cap, false⟩ ⟨c, k⟩ := by
  have hlen : ((List.range c.size).map c.get).length = c.size := by simp
  refine Holds.new (l := (List.range c.size).map c.get) (vals_same (by rw [hlen, hr.len]) (fun j v hj => ?_)) hr.one w more hk hfr0 hw (fun es he => by rw [hlen]; exact hce es he) ⟨hr.wf, hlen.symm, fun i hi => ?_⟩
  · have hjl : j < c.size := by rw [← hr.len]; exact (List.getElem?_eq_some_iff.1 hj).1
    rw [getD_of_lt (by simpa using hjl)]
    simpa using (hr.get j v hj).1
  · rw [hlen] at hi
    rw [getD_of_lt (by simpa using hi)]
    simp; exact SV.same.refl _

/-- A block that is read. -/
theorem Holds.reads {p : Pl} {b : Blk} (hh : Holds m w p b) : ∃ vs, Reads m b.c vs ∧ ∀ (j : Nat) (v : Value), vs[j]? = some v → w.cell? ⟨p.blk, p.off + j, none⟩ = some v := by
  obtain ⟨vs, h1, h2⟩ := hh.read (off := 0) (n := b.c.size) (by omega)
  refine ⟨vs, ⟨hh.wf, h1, fun j v hj => ?_⟩, fun j v hj => ?_⟩
  · have := h2 j v hj; rw [Nat.zero_add] at this; exact ⟨this.1, this.2.1⟩
  · have := h2 j v hj; simpa using this.2.2

/-- What is appended or copied. -/
theorem srcO_spec' (hτ : TOk P τ) (T : TTie G m S.t a) (H : HTie m S.h w) {x : Operand} {tx : TypeId} {es : Nat} {d : Cs} {n : Nm} (ht : srcT τ tx (S.ev G x) = true) (h : srcO std es (S.ev G x) S.h = some (true, d, n)) :
    ∃ news, Src P es tx (a.eval x) n.n news w ∧ Reads m d news ∧ d.size = n.n * es ∧ ∀ k, k ≤ n.n → (Builtin.firstCells es k (a.eval x)).run P w = .ok (news.take (k * es)).toArray w := by
  have kind : (∃ e', P.underlying tx = some (.slice e')) ∨ P.underlying tx = some .string := by
    unfold srcT at ht
    split at ht
    · rename_i hi
      obtain ⟨d, hd, hfit⟩ := (hτ tx _ hi).desc
      cases d <;> simp [TD.fits] at hfit
      exact .inr hd
    · rename_i hi
      obtain ⟨d, hd, hfit⟩ := (hτ tx _ hi).desc
      cases d <;> simp [TD.fits] at hfit
      exact .inl ⟨_, hd⟩
    · cases ht
  have ksl : (∀ s, S.ev G x ≠ .str s) → ∃ e', P.underlying tx = some (.slice e') := fun hne => by
    unfold srcT at ht
    split at ht
    · split at ht
      · rename_i s hs; exact absurd hs (hne s)
      · cases ht
    · rename_i hi
      obtain ⟨d, hd, hfit⟩ := (hτ tx _ hi).desc
      cases d <;> simp [TD.fits] at hfit
      exact ⟨_, hd⟩
    · cases ht
  unfold srcO at h
  split at h
  · rename_i s hs
    simp only [Option.some.injEq, Prod.mk.injEq] at h
    obtain ⟨h1, rfl, rfl⟩ := h
    have : es = 1 := by simpa using h1
    subst this
    have hk : P.underlying tx = some .string := by
      unfold srcT at ht
      split at ht
      · rename_i hi
        obtain ⟨d, hd, hfit⟩ := (hτ tx _ hi).desc
        cases d <;> simp [TD.fits] at hfit
        exact hd
      · rw [hs] at ht; simp at ht
      · cases ht
    refine ⟨byteCells s, ?_, ⟨trivial, by simp [Cs.size, std, byts_cells], fun j v hj => ?_⟩, by simp [Cs.size, std, byts_length], fun k hkn => ?_⟩
    · rw [ev_str T hs]; exact Src.ofString w hk s
    · rw [byts_cells] at hj
      refine ⟨ints_in (byts_in s) j v hj, ?_⟩
      obtain ⟨_, _, rfl⟩ := List.mem_map.1 (List.mem_of_getElem? hj); rfl
    · rw [ev_str T hs]
      simp only [Builtin.firstCells, Sem.run_pure, Nat.mul_one]
      congr 1
      apply Array.ext'
      simp [byteCells, ByteArray.data_extract, List.map_take]
  · rename_i hs
    simp only [Option.some.injEq, Prod.mk.injEq, true_and] at h
    obtain ⟨rfl, rfl⟩ := h
    obtain ⟨e', hk⟩ := ksl (by rw [hs]; simp)
    refine ⟨[], ?_, ⟨trivial, rfl, by simp⟩, by simp [Cs.size], fun k hkn => ?_⟩
    · rw [ev_nils T hs]; exact Src.ofNil w hk 0
    · rw [ev_nils T hs, run_firstCells_none]; simp
  · rename_i hns _
    split at h
    · cases h
    · rename_i id off len hsl
      cases hr : (blkAt S.h id).c.sub std off es ⟨true, 0⟩ ((blkAt S.h id).c.nm len) with
      | mk ok c =>
      rw [hr] at h
      simp only [Option.some.injEq, Prod.mk.injEq, Bool.and_eq_true] at h
      obtain ⟨⟨rfl, hl⟩, rfl, rfl⟩ := h
      obtain ⟨e', hk⟩ := ksl (fun s => hns s)
      obtain ⟨p, hp, vs, h1, h2, h3, h4⟩ := read_slice T H hsl hl (Cs.nm_n _ _) hr
      rw [Cs.nm_n]
      refine ⟨vs, ?_, ⟨h3.wf, by rw [h1, h3.size], h2⟩, h3.size, fun k hkn => ?_⟩
      all_goals rcases h4 with ⟨hn, ⟨cap, he⟩, _, hc⟩ | ⟨hn, he, h0, hnil⟩
      · rw [he]; exact Src.ofSlice w hk _ _ cap vs h1 (fun j u hj => by rw [addr_add]; exact hc j u hj) (fun u hu => by
          obtain ⟨i, hi⟩ := List.mem_iff_getElem?.1 hu
          exact (h2 i u hi).2)
      · rw [he, h0, hnil]; exact Src.ofNil w hk 0
      · rw [he]
        have hle : k * es ≤ len.n * es := Nat.mul_le_mul_right _ hkn
        exact run_firstCells_some _ _ _ _ _ _ _ (by simp; omega) (fun j u hj => by
          rw [List.getElem?_take] at hj
          split at hj
          · rw [addr_add]; exact hc j u hj
          · cases hj)
      · rw [he, hnil, run_firstCells_none]; simp

theorem srcO_spec (hτ : TOk P τ) (T : TTie G m S.t a) (H : HTie m S.h w) {x : Operand} {tx : TypeId} {es : Nat} {d : Cs} {n : Nm} (ht : srcT τ tx (S.ev G x) = true) (h : srcO std es (S.ev G x) S.h = some (true, d, n)) :
    ∃ news, Src P es tx (a.eval x) n.n news w ∧ Reads m d news ∧ d.size = n.n * es :=
  let ⟨news, h1, h2, h3, _⟩ := srcO_spec' hτ T H ht h
  ⟨news, h1, h2, h3⟩

end grow

section grow2
variable {P : Program} {τ : Types} {m : List Pl} {w : World} {S : St} {a : Act}

theorem tzero {e : TypeId} {i : TI} (f : TFact P e i) : ∃ ti z, P.info? e = some ti ∧ ti.zero = some z ∧ ti.size = i.size ∧ ti.bytes = i.bytes ∧ z.cells.size = i.size ∧ i.zero.cells.length = i.size ∧ ∀ m : List Pl, SV.vals m i.zero.cells = some z.cells.toList ∧ (∀ v ∈ z.cells.toList, v.oneCell' = true) := by
  obtain ⟨ti, z, h1, h2, h3, h4, h5, h6, h7⟩ := f.info
  have hv := cells_val h5 h6
  have hl := vals_length hv
  refine ⟨ti, z, h1, h4, h2, h3, by simp at hl; omega, h7, fun m => ?_⟩
  have hv' := SV.vals_mono (List.nil_prefix (l := m)) _ hv
  exact ⟨hv', vals_one hv' h6⟩

theorem made_reads {e : TypeId} {i : TI} (f : TFact P e i) {z : Value} (hz : SV.vals m i.zero.cells = some z.cells.toList) (h1 : ∀ v ∈ z.cells.toList, v.oneCell' = true) (hzs : z.cells.size = i.size) (hl : i.zero.cells.length = i.size) (n k : Nat) (hk : k * i.size ≤ n)
    {c : Cs} (hc : Laid c (k * i.size) (fun j => (repL i.zero.cells k).getD j .bad)) : Reads m c ((madeCells z.cells n).toList.take (k * i.size)) := by
  refine ⟨hc.wf, by simp [size_madeCells, hc.size]; omega, fun j v hj => ?_⟩
  rw [List.getElem?_take] at hj
  split at hj
  · rename_i hjk
    rw [made_get _ _ _ (by omega)] at hj
    simp only [Option.some.injEq] at hj
    have hpos : 0 < i.size := by
      rcases Nat.eq_zero_or_pos i.size with h0 | h0
      · rw [h0] at hjk; omega
      · exact h0
    have hm : j % i.size < i.size := Nat.mod_lt _ hpos
    have hv : z.cells.toList[j % i.size]? = some v := by
      rw [hzs] at hj
      rw [← hj, getElem!_pos z.cells (j % i.size) (by omega)]
      simp [hzs, hm]
    refine ⟨?_, h1 v (List.mem_of_getElem? hv)⟩
    rw [hc.get j hjk m, List.getD_eq_getElem?_getD, repL_get _ _ _ (by rw [hl]; exact hjk), hl]
    obtain ⟨u, hu, hu'⟩ := vals_get hz (i := j % i.size) (List.getElem?_eq_getElem (by omega))
    rw [hv] at hu; cases hu
    rw [List.getElem?_eq_getElem (by omega)]; exact hu'
  · cases hj

theorem laid_rep {i : TI} (hl : i.zero.cells.length = i.size) (k : Nat) : Laid (.lit (repL i.zero.cells k)) (k * i.size) (fun j => (repL i.zero.cells k).getD j .bad) :=
  ⟨trivial, by simp only [Cs.size, repL_length, hl], fun _ _ => SV.same.refl _⟩

theorem opOk_made {o : Oper} {t e : TypeId} {i : TI} (H : HTie m S.h w) (hd : P.underlying t = some (.slice e)) (f : TFact P e i) {x y : Operand} (ho : o.op = .makeSlice t x y) {kl kc : IntKind} {l q : Int} (ex : a.eval x = .int kl l) (ey : a.eval y = .int kc q)
    (h0 : 0 ≤ l) (hlq : l ≤ q) (hb : (i.bytes : Int) * q ≤ 281474976710656) (h63 : q ≤ 9223372036854775807) {c : Cs} {k : BK} {v : SV} {ok : Bool} (n : Nat) (hn : n ≤ q.toNat) (hk : k = .var ∨ k = .row i.size)
    (hc : Laid c (n * i.size) (fun j => (repL i.zero.cells n).getD j .bad)) (hv : ∀ p, m.length < (m ++ [(p : Pl)]).length → p = ⟨w.heap.size, 0, q.toNat, false⟩ → v.val (m ++ [p]) = some (.slice (some ⟨w.heap.size, 0, none⟩) l.toNat q.toNat)) :
    OpOk P o a w m S.h ⟨ok, v, S.h ++ [⟨c, k⟩]⟩ := by
  obtain ⟨ti, z, h1, h2, h3, h4, h5, h6, h7⟩ := tzero f
  have hrun := run_make (P := P) w t e ti z hd h1 h2 kl kc l q h0 hlq (by rw [h4]; exact hb) h63
  rw [h3] at hrun
  have hz := h7 (m ++ [⟨w.heap.size, 0, q.toNat, false⟩])
  have hle : n * i.size ≤ q.toNat * i.size := Nat.mul_le_mul_right _ hn
  refine opOk_push (p := ⟨w.heap.size, 0, q.toNat, false⟩) (u := .slice (some ⟨w.heap.size, 0, none⟩) l.toNat q.toNat) (w' := w.alloc (.cells (madeCells z.cells (q.toNat * i.size)) e)) H ?_ rfl rfl rfl (by simp) (fun j hj => Below.heap_alloc _ _ _ hj) (fun _ => Nat.le_refl _)
    (Holds.newC (made_reads f hz.1 hz.2 h5 h6 (q.toNat * i.size) n hle hc) w ((madeCells z.cells (q.toNat * i.size)).toList.drop (n * i.size)) (fun es he => by rcases hk with rfl | rfl <;> simp at he) (e := e) (fr := (0, 0)) (fun j _ => by simp) (by rw [List.take_append_drop, Array.toArray_toList]; rfl)
      (fun es he => ?_)) (hv _ (by simp) rfl)
  · simp only [execOp, ho, ex, ey, Sem.run_bind, hrun, Result.andThen_ok, Sem.run_pure]
  · rcases hk with rfl | rfl
    · cases he
    · simp only [BK.row.injEq] at he
      subst he
      rw [hc.size, List.take_append_drop]
      simp [size_madeCells]; exact hle

theorem ok_makeSlice (hτ : TOk P τ) (T : TTie G m S.t a) (H : HTie m S.h w) {o : Oper} {t : TypeId} {x y : Operand} (ho : o.op = .makeSlice t x y)
    (hok : (makeSliceO std τ t (S.ev G x) (S.ev G y) S.h).ok = true) : OpOk P o a w m S.h (makeSliceO std τ t (S.ev G x) (S.ev G y) S.h) := by
  unfold makeSliceO at hok ⊢
  split at hok
  · rename_i i hi
    obtain ⟨e, hd, f⟩ := elemT_spec hτ hi
    obtain ⟨_, _, _, _, _, _, _, hzl, _⟩ := tzero f
    have bnd : ∀ {c : Int}, 0 ≤ c → c ≤ 281474976710656 / ((i.bytes : Int) + 1) → (i.bytes : Int) * c ≤ 281474976710656 ∧ c ≤ 9223372036854775807 := fun {c} h0 h => by
      have h1 : c * ((i.bytes : Int) + 1) ≤ 281474976710656 := by
        have := Int.mul_le_mul_of_nonneg_right h (show (0 : Int) ≤ (i.bytes : Int) + 1 by omega)
        have := Int.ediv_mul_le (281474976710656 : Int) (b := (i.bytes : Int) + 1) (by omega)
        omega
      rw [Int.mul_add, Int.mul_one] at h1
      have h2 : 0 ≤ c * (i.bytes : Int) := Int.mul_nonneg h0 (by omega)
      rw [Int.mul_comm]
      omega
    split at hok
    · rename_i k n k' c hx hy
      simp only [Bool.and_eq_true, icmp, decide_eq_true_eq] at hok
      obtain ⟨h0, h1, h2, h3⟩ := hok
      refine opOk_made H hd f ho (ev_num T hx) (ev_num T hy) h0 h1 h2 (by omega) c.toNat (by omega) (.inl rfl) (laid_rep hzl _) (fun p _ hp => ?_)
      subst hp
      simp only [SV.val]
      rw [← H.len, get_push]
      simp [Pl.sl]
      omega
    · rename_i k n k' c hx hy
      simp only [Bool.and_eq_true, icmp, std, decide_eq_true_eq] at hok
      obtain ⟨h0, h1, h2⟩ := hok
      obtain ⟨h3, h4⟩ := bnd (by omega) h2
      refine opOk_made H hd f ho (ev_num T hx) (ev_int T hy) h0 h1 h3 h4 n.toNat (by omega) (.inr rfl) (laid_rep hzl _) (fun p _ hp => ?_)
      subst hp
      simp only [SV.val]
      rw [← H.len, get_push]
      simp [Pl.row]
      omega
    · rename_i k n k' c hx hy
      split at hok
      · rename_i c' hc'
        simp only [Bool.and_eq_true, icmp, std, decide_eq_true_eq] at hok
        obtain ⟨h0, h1, h2⟩ := hok
        obtain ⟨h3, h4⟩ := bnd (by omega) h2
        have hl := zerosO_spec hc'
        rw [hzl] at hl
        refine opOk_made H hd f ho (ev_int T hx) (ev_int T hy) h0 h1 h3 h4 n.toNat (by omega) (.inr rfl) hl (fun p _ hp => ?_)
        subst hp
        simp only [SV.val]
        rw [← H.len, get_push]
        simp [Pl.row, std]
        omega
      · simp at hok
    · simp at hok
  · simp at hok

theorem ok_buildSlice (hτ : TOk P τ) (T : TTie G m S.t a) (H : HTie m S.h w) {o : Oper} {t : TypeId} {len : Nat} {ps : Array (Nat × Operand)} (ho : o.op = .buildSlice t len ps)
    (hg : (ps.toList.map fun p => S.ev G p.2).all (fun v => v.cells.all SV.one) = true)
    (hok : (buildSliceO τ t len (ps.toList.map fun p => (p.1, S.ev G p.2)) S.h).ok = true) : OpOk P o a w m S.h (buildSliceO τ t len (ps.toList.map fun p => (p.1, S.ev G p.2)) S.h) := by
  have hparts : ∀ (i : Nat) (p : Nat × SV) (q : Nat × Value), (ps.toList.map fun p => (p.1, S.ev G p.2))[i]? = some p → (ps.toList.map fun p => (p.1, a.eval p.2))[i]? = some q →
      SV.vals m p.2.cells = some q.2.cells.toList := fun i p q h1 h2 => by
    simp only [List.getElem?_map, Option.map_eq_some_iff] at h1 h2
    obtain ⟨x, hx, rfl⟩ := h1
    obtain ⟨y, hy, rfl⟩ := h2
    rw [hx] at hy; cases hy
    have h1 : (S.ev G x.2).cells.all SV.one = true := List.all_eq_true.1 hg _ (List.mem_map.2 ⟨x, List.mem_of_getElem? hx, rfl⟩)
    have hb : S.ev G x.2 ≠ .bad := by
      intro e; rw [e] at h1; simp [SV.cells, SV.cells1, SV.one] at h1
    exact cells_val ((St.eval_or T x.2).resolve_left hb) h1
  have hmap : (ps.map fun (p : Nat × Operand) => (p.1, a.eval p.2)).toList = ps.toList.map fun p => (p.1, a.eval p.2) := by simp
  unfold buildSliceO at hok ⊢
  split at hok
  · rename_i i hi
    obtain ⟨e, hd, f⟩ := elemT_spec hτ hi
    obtain ⟨ti, z, h1, h2, h3, h4, h5, h6, h7⟩ := tzero f
    cases hr : fillO (fun j => some (j * i.size, i.size)) (repL i.zero.cells len) (ps.toList.map fun p => (p.1, S.ev G p.2)) with
    | mk ok l =>
    rw [hr] at hok
    simp only [Bool.and_eq_true] at hok ⊢
    obtain ⟨rfl, hle, hone⟩ := hok
    have hle : len * i.size ≤ 16777216 := by simpa using hle
    have hrd := made_reads f (h7 m).1 (h7 m).2 h5 h6 (len * i.size) len (Nat.le_refl _) (laid_rep h6 len)
    rw [List.take_of_length_le (by simp [size_madeCells])] at hrd
    have hz : SV.vals m (repL i.zero.cells len) = some (madeCells z.cells (len * i.size)).toList := vals_same (by simp [size_madeCells, repL_length, h6]) (fun j v hj => (hrd.get j v hj).1)
    obtain ⟨res, hf, hres⟩ := run_fill _ (ps.toList.map fun p => (p.1, a.eval p.2)) _ _ hr hz (by simp) hparts
    have hres1 := vals_one hres hone
    have hrun : (execOp a.eval o).run P w = .ok (.value (.slice (some ⟨w.heap.size, 0, none⟩) len len)) (w.alloc (.cells res e)) := by
      have hnot : ¬ (len * i.size > 16777216) := by omega
      have hmade : (if len * i.size = 0 then (#[] : Array Value) else z.cells) = (if len * i.size = 0 then #[] else z.cells) := rfl
      by_cases h0 : len * i.size = 0
      · have hm0 : madeCells z.cells (len * i.size) = #[] := by rw [h0]; simp [madeCells]
        rw [hm0] at hf
        have hr0 : Array.range 0 = (#[] : Array Nat) := rfl
        simp [execOp, ho, Instr.buildSlice, run_underlying hd, f.run_sizeOf, h0, hr0, hf, newRow]
      · have hf' : Instr.fill (fun i_1 => some (i_1 * i.size, i.size)) (Array.map (fun x => z.cells[x % z.cells.size]!) (Array.range (len * i.size))) (ps.toList.map fun p => (p.1, a.eval p.2)) = some res := hf
        obtain ⟨z', hz', hzv⟩ := f.run_zero w
        have : z' = z := by
          obtain ⟨ti', hz1⟩ : ∃ x, x = ti := ⟨_, rfl⟩
          have e1 : (zeroValue e).run P w = .ok z w := by simp [zeroValue, typeInfo, h1, h2]
          rw [hz'] at e1; cases e1; rfl
        subst this
        simp [execOp, ho, Instr.buildSlice, run_underlying hd, f.run_sizeOf, h0, hnot, hz', hmap, hf', newRow]
    have hres' := SV.vals_mono (List.prefix_append m [⟨w.heap.size, 0, len, false⟩]) l hres
    refine opOk_push (p := ⟨w.heap.size, 0, len, false⟩) H hrun rfl rfl rfl (by simp) (fun k hk => Below.heap_alloc _ _ _ hk) (fun _ => Nat.le_refl _)
      (Holds.new (l := l) hres' hres1 w (w' := w.alloc (.cells res e)) (e := e) [] (fun _ => by simp) (fr := (0, 0)) (fun i _ => by simp) (by rw [List.append_nil, Array.toArray_toList]; rfl) (fun es e => absurd e (by simp)) (laid_lit l)) ?_
    simp only [SV.val]
    rw [← H.len, get_push]
    simp [Pl.sl]
  · simp at hok

end grow2

section app
variable {P : Program} {τ : Types} {m : List Pl} {w : World} {S : St} {a : Act}

theorem run_call_builtin {o : Oper} {b : Builtin} {args : Array Operand} {ats : Array TypeId} (ho : o.op = .call ⟨.builtin b, args, ats⟩) {v : Value} {w' : World}
    (h : (match b with | .append => Builtin.append_ ats o.type (args.map a.eval) | .copy => Builtin.copy_ ats o.type (args.map a.eval) | .clear => Builtin.clear_ ats o.type (args.map a.eval) | _ => pure v).run P w = .ok v w') (hb : b = .append ∨ b = .copy ∨ b = .clear) :
    (execOp a.eval o).run P w = .ok (.value v) w' := by
  rcases hb with rfl | rfl | rfl <;> simp only at h <;> simp [execOp, ho, resolve, invoke, builtin, h]

theorem sumNm_n (x y : Nm) : (sumNm std x y).n = x.n + y.n := by unfold sumNm; split <;> rfl

/-- What comes of an append, by what it is that is appended to. -/
theorem opOk_grown (hτ : TOk P τ) (H : HTie m S.h w) {o : Oper} {t tx e : TypeId} {i : TI} {s x : Operand} (ho : o.op = .call ⟨.builtin .append, #[s, x], #[t, tx]⟩) (hd : P.underlying t = some (.slice e)) (f : TFact P e i)
    {ok : Bool} {len n : Nm} {c d : Cs} {h' : List Blk} {k : BK} (hok : (grown std i ok len c n d h' k).ok = true)
    {base : Option Addr} {cap : Nat} (es : a.eval s = .slice base len.n cap) {olds news : List Value} (hold : (Builtin.firstCells i.size len.n (.slice base len.n cap)).run P w.drew = .ok olds.toArray w.drew) (hro : Reads m c olds) (hsz : c.size = len.n * i.size)
    (hsrc : Src P i.size tx (a.eval x) n.n news w) (hrn : Reads m d news) (hk : k = .row i.size ∨ k = .ro) (hH : HTie m h' w) (hlen : h'.length = S.h.length) (hlow : ∀ (j : Nat) (b : Blk), h'[j]? = some b → b.k.wr = true → ∃ b0 : Blk, S.h[j]? = some b0 ∧ b0.k.wr = true) (hliv : ∀ (j : Nat) (b : Blk), h'[j]? = some b → b.k ≠ .dead → ∃ b0 : Blk, S.h[j]? = some b0 ∧ b0.k ≠ .dead)
    (stay : ok = true → len.n + n.n ≤ cap → ∀ en : Cs, c.app std d = some en → ∃ (p' : Pl) (w' : World), (Builtin.append_ #[t, tx] o.type #[a.eval s, a.eval x]).run P w = .ok (.slice base (len.n + n.n) cap) w' ∧
      Ext m (m ++ [p']) S.h (h' ++ [⟨en, k⟩]) w w' ∧ HTie (m ++ [p']) (h' ++ [⟨en, k⟩]) w' ∧ p'.row (len.n + n.n) = some (.slice base (len.n + n.n) cap)) :
    OpOk P o a w m S.h (grown std i ok len c n d h' k) := by
  unfold grown at hok ⊢
  cases he : c.app std d with
  | none => rw [he] at hok; simp at hok
  | some en =>
    rw [he] at hok
    simp only [Bool.and_eq_true] at hok ⊢
    obtain ⟨rfl, hroom, hb1, hs1⟩ := hok
    have hb1 : 1 ≤ i.bytes := by simpa using hb1
    have hs1 : 1 ≤ i.size := by simpa using hs1
    have hroom : (len.n + n.n) * i.bytes ≤ 140737488355328 := by
      unfold roomO at hroom
      rw [sumNm_n] at hroom
      split at hroom
      · simpa using hroom
      · simpa [std] using hroom
    rw [sumNm_n]
    by_cases hle : len.n + n.n ≤ cap
    · obtain ⟨p', w', hr, hX, hT, hv⟩ := stay rfl hle en he
      refine OpOk.ofRun (run_call_builtin (a := a) ho (v := .slice base (len.n + n.n) cap) (w' := w') ?_ (.inl rfl)) hX hT (.inr ?_)
      · simpa using hr
      · simp only [SV.val]
        rw [hlen, ← H.len, get_push]
        exact hv
    · obtain ⟨ti, z, h1, h2, h3, h4, h5, h6, h7⟩ := tzero f
      have hlt : cap < len.n + n.n := by omega
      have h63 : ((len.n + n.n : Nat) : Int) ≤ 9223372036854775807 := by
        have : len.n + n.n ≤ (len.n + n.n) * i.bytes := Nat.le_mul_of_pos_right _ hb1
        omega
      have hfit := growslice_fits (need := len.n + n.n) (old := cap) (bytes := ti.bytes) hlt (by rw [h4]; exact hroom)
      have hg := run_append_grow_src (P := P) w t tx o.type e ti z hd h1 h2 base len.n cap olds (by rw [h3]; exact hold) (a.eval x) n.n news (by rw [h3]; exact hsrc) hlt h63 hfit
      have hge := grownCap_ge w (len.n + n.n) cap e
      obtain ⟨q, hq⟩ : ∃ q, q = grownCap w (len.n + n.n) cap e := ⟨_, rfl⟩
      rw [← hq] at hg hge
      have hrapp := (hro.app hrn he).mono (List.prefix_append m [⟨w.heap.size, 0, q, false⟩])
      have hel : en.size = (len.n + n.n) * i.size := by
        rw [(Cs.app_spec hro.wf hrn.wf hsz he).size, ← hrn.len, hsrc.newsLen, Nat.add_mul]
      have hcells : ((olds ++ news).toArray ++ Builtin.zeroCells z.cells (q - (len.n + n.n))) = ((olds ++ news) ++ (Builtin.zeroCells z.cells (q - (len.n + n.n))).toList).toArray := by
        apply Array.ext'; simp
      have hzl : (Builtin.zeroCells z.cells (q - (len.n + n.n))).toList.length = (q - (len.n + n.n)) * i.size := by rw [Array.length_toList, size_zeroCells, h5]
      refine OpOk.ofRun (m' := m ++ [⟨w.heap.size, 0, q, false⟩]) (run_call_builtin (a := a) ho (v := .slice (some ⟨w.heap.size, 0, none⟩) (len.n + n.n) q) (w' := w.drew.alloc (.cells ((olds ++ news).toArray ++ Builtin.zeroCells z.cells (q - (len.n + n.n))) e)) ?_ (.inl rfl)) ?_ ?_ (.inr ?_)
      · simp only [List.map_toArray, List.map_cons, List.map_nil, es]; exact hg
      · exact Ext.gen H rfl rfl rfl (by simp) hlen (fun k hk _ => Below.heap_alloc w.drew _ _ hk) hlow hliv (fun _ => .inl (Nat.le_refl _))
      · refine hH.push (fun k hk => Below.heap_alloc w.drew _ _ hk) (fun _ => Holds.newC hrapp w (Builtin.zeroCells z.cells (q - (len.n + n.n))).toList (fun es he => by rcases hk with rfl | rfl <;> simp at he) (e := e) (fr := (0, 0)) (fun j _ => by simp) (by rw [← hcells]; rfl) (fun es he => ?_)) (fun _ _ => Nat.le_refl _)
        rcases hk with rfl | rfl
        · simp only [BK.row.injEq] at he
          subst he
          rw [List.length_append, hzl, hrapp.len, hel, ← Nat.add_mul]
          exact ⟨Nat.mul_le_mul_right _ hge, Nat.mul_le_mul_right _ (by omega)⟩
        · cases he
      · simp only [SV.val]
        rw [hlen, ← H.len, get_push]
        simp [Pl.row, hge]

/-- A slice that stays where it is: nothing is appended. -/
theorem stay_same (H : HTie m S.h w) {id : Nat} {p : Pl} (hp : m[id]? = some p) (hl : (blkAt S.h id).live = true) (hn : p.nil = false) {off cap len es : Nat} {en : Cs} {olds : List Value} {h' : List Blk} {k : BK} (hk : k = .ro ∨ (k = .row es ∧ (blkAt S.h id).k.wr = true ∧ p.off + off = 0 ∧ en.size ≤ cap * es ∧ cap * es ≤ (blkAt S.h id).c.size ∧ off = 0))
    (hro : Reads m en olds) (hcell : ∀ (j : Nat) (v : Value), olds[j]? = some v → w.cell? ⟨p.blk, p.off + off + j, none⟩ = some v) (hcap : len ≤ cap) (hH : HTie m h' w) (hlen : h'.length = S.h.length)
    (hlow : ∀ (j : Nat) (b : Blk), h'[j]? = some b → b.k.wr = true → ∃ b0 : Blk, S.h[j]? = some b0 ∧ b0.k.wr = true) (hliv : ∀ (j : Nat) (b : Blk), h'[j]? = some b → b.k ≠ .dead → ∃ b0 : Blk, S.h[j]? = some b0 ∧ b0.k ≠ .dead)
    (hset : ∀ b : Blk, h'[id]? = some b → b.k ≠ .dead → b.k.wr = false ∧ k = .ro) (hsame : ∀ j, j ≠ id → h'[j]? = S.h[j]?) :
    ∃ p' : Pl, Ext m (m ++ [p']) S.h (h' ++ [⟨en, k⟩]) w w ∧ HTie (m ++ [p']) (h' ++ [⟨en, k⟩]) w ∧ p'.row len = some (.slice (some ⟨p.blk, p.off + off, none⟩) len cap) := by
  have hb := blkAt_some hl
  have hh := H.holds id p _ hp hb (live_kind hl)
  have hkw : k.wr = true → (blkAt S.h id).k.wr = true := fun e => by
    rcases hk with rfl | ⟨rfl, h1, _⟩
    · cases e
    · exact h1
  refine ⟨⟨p.blk, p.off + off, cap, false⟩, Ext.gen H rfl rfl rfl (Nat.le_refl _) hlen (fun _ _ _ => rfl) hlow hliv (fun _ => .inr ⟨id, p, _, hp, hb, live_kind hl, hn, rfl, hkw⟩), hH.push2 (fun _ _ _ _ _ _ _ => rfl) (fun _ => ?_) (fun _ _ j q d hq hd hdd hqn hw => ?_), by simp [Pl.row, hcap]⟩
  · have hro' := hro.mono (List.prefix_append m [(⟨p.blk, p.off + off, cap, false⟩ : Pl)])
    have hfr : ∀ j, k.wr = true → p.off + off + j < p.off + off + en.size → w.frozen? ⟨p.blk, p.off + off + j, none⟩ = false := fun j e hj => by
      rcases hk with rfl | ⟨rfl, h1, h2, h3, h4, h5⟩
      · cases e
      · have := hh.wr h1 j (by omega)
        rw [h5, Nat.add_zero]; exact this
    refine ⟨hro'.wf, fun e => absurd e (by simp), fun _ => hh.lt hn, fun j hj => ?_, fun e j hj => hfr j e (by simp only at hj; omega), fun e _ => ?_, fun es' e => ?_, fun es' e _ => ?_⟩
    · have hj' : j < olds.length := by rw [hro.len]; exact hj
      have := hro'.get j olds[j] (List.getElem?_eq_getElem hj')
      exact ⟨olds[j], this.1, this.2, hcell j _ (List.getElem?_eq_getElem hj')⟩
    · rcases hk with rfl | ⟨rfl, h1, h2, _⟩
      · cases e
      · exact h2
    · rcases hk with rfl | ⟨rfl, _⟩ <;> cases e
    · rcases hk with rfl | ⟨rfl, h1, h2, h3, h4, h5⟩
      · cases e
      · simp only [BK.row.injEq] at e
        subst e
        refine ⟨h3, fun i hi => ?_⟩
        simp only at hi
        obtain ⟨v, _, _, g3⟩ := hh.cells i (by omega)
        have := hh.wr h1 i (by omega)
        have e0 : p.off = 0 := by omega
        rw [e0, Nat.zero_add] at g3 this
        rw [g3, this]; exact ⟨rfl, rfl⟩
  · by_cases hj : j = id
    · subst hj
      obtain ⟨h1, h2⟩ := hset d hd hdd
      rcases hw with hw | hw
      · simp only at hw; rw [h2] at hw; cases hw
      · rw [h1] at hw; cases hw
    · rw [hsame j hj] at hd
      exact H.apart j id q p d _ hj hq hp hd hb hdd (live_kind hl) hqn hn (hw.symm.imp (fun x => x) hkw)

/-- The same, of a slice that is none. -/
theorem stay_nil (H : HTie m S.h w) {en : Cs} {h' : List Blk} {k : BK} (hk : k ≠ .var) (hwf : en.wf) (he : en.size = 0) (hH : HTie m h' w) (hlen : h'.length = S.h.length)
    (hlow : ∀ (j : Nat) (b : Blk), h'[j]? = some b → b.k.wr = true → ∃ b0 : Blk, S.h[j]? = some b0 ∧ b0.k.wr = true) (hliv : ∀ (j : Nat) (b : Blk), h'[j]? = some b → b.k ≠ .dead → ∃ b0 : Blk, S.h[j]? = some b0 ∧ b0.k ≠ .dead) :
    ∃ p' : Pl, Ext m (m ++ [p']) S.h (h' ++ [⟨en, k⟩]) w w ∧ HTie (m ++ [p']) (h' ++ [⟨en, k⟩]) w ∧ p'.row 0 = some (.slice none 0 0) := by
  refine ⟨⟨0, 0, 0, true⟩, Ext.gen H rfl rfl rfl (Nat.le_refl _) hlen (fun _ _ _ => rfl) hlow hliv (fun e => absurd e (by simp)), hH.push2 (fun _ _ _ _ _ _ _ => rfl) (fun _ => ?_) (fun _ e => absurd e (by simp)), by simp [Pl.row]⟩
  exact ⟨hwf, fun _ => ⟨he, rfl, hk⟩, fun e => absurd e (by simp), fun j hj => absurd hj (by simp [he]), fun _ j hj => absurd hj (by simp [he]), fun _ e => absurd e (by simp), fun _ _ e => absurd e (by simp), fun _ _ e => absurd e (by simp)⟩

/-- A row that has room. -/
theorem stay_room {n : Nat} (H : HTie m S.h w) {id : Nat} {p : Pl} (hp : m[id]? = some p) {es len : Nat} {cap : Nat} (hwr : (blkAt S.h id).k.wr = true) (hsp : ∀ i, i < cap * es → (w.cell? ⟨p.blk, i, none⟩).isSome = true ∧ w.frozen? ⟨p.blk, i, none⟩ = false) (hn : p.nil = false) {en : Cs} {olds news : List Value} (hre : Reads m en (olds ++ news)) (h1 : ∀ v ∈ news, v.oneCell' = true)
    (hcell : ∀ (j : Nat) (v : Value), olds[j]? = some v → w.cell? ⟨p.blk, p.off + j, none⟩ = some v) (hlo : olds.length = len * es) (hroom : len * es + news.length ≤ cap * es) (hcap : len + n ≤ cap) :
    (∀ j, j < news.length → (w.cell? ⟨p.blk, p.off + len * es + j, none⟩).isSome = true) ∧ (∀ j, j < news.length → w.frozen? ⟨p.blk, p.off + len * es + j, none⟩ = false) ∧
    ∃ p' : Pl, Ext m (m ++ [p']) S.h (S.h.set id ⟨(blkAt S.h id).c, .dead⟩ ++ [⟨en, .row es⟩]) w (w.setCells p.blk (p.off + len * es) news) ∧ HTie (m ++ [p']) (S.h.set id ⟨(blkAt S.h id).c, .dead⟩ ++ [⟨en, .row es⟩]) (w.setCells p.blk (p.off + len * es) news) ∧
      p'.row (len + n) = some (.slice (some ⟨p.blk, p.off, none⟩) (len + n) cap) := by
  have hl := wr_live hwr
  have hb := blkAt_some hl
  have hh := H.holds id p _ hp hb (live_kind hl)
  have hz := hh.z hwr hn
  have hsome : ∀ j, j < news.length → (w.cell? ⟨p.blk, p.off + len * es + j, none⟩).isSome = true := fun j hj => by
    rw [hz, Nat.zero_add]; exact (hsp _ (by omega)).1
  have hfrz : ∀ j, j < news.length → w.frozen? ⟨p.blk, p.off + len * es + j, none⟩ = false := fun j hj => by
    rw [hz, Nat.zero_add]; exact (hsp _ (by omega)).2
  have hrest := setCells_rest (b := p.blk) news (p.off + len * es) w
  have hother : ∀ k, k ≠ p.blk → (w.setCells p.blk (p.off + len * es) news).heap[k]? = w.heap[k]? := fun k hk => setCells_heap _ _ _ hk
  refine ⟨hsome, hfrz, ⟨p.blk, p.off, cap, false⟩, Ext.gen H hrest.1 hrest.2.1 hrest.2.2.1 (by rw [hrest.2.2.2]; exact Nat.le_refl _) (by simp) (fun k _ hno => hother k (Ne.symm (hno id p _ hp hb hwr hn))) (set_wr rfl) (set_live fun e => (e rfl).elim) (fun _ => .inr ⟨id, p, _, hp, hb, live_kind hl, hn, rfl, fun _ => hwr⟩),
    (H.freeze hb (.inl rfl)).push2 (fun j q c hq hc hd hqn => ?_) (fun _ => ?_) (fun _ _ j q c hq hc hd hqn _ => ?_), by simp [Pl.row, hcap]⟩
  · have hj : j ≠ id := by
      intro e; subst e
      rw [List.getElem?_set, if_pos rfl] at hc
      split at hc
      · simp only [Option.some.injEq] at hc; subst hc; exact hd rfl
      · cases hc
    rw [List.getElem?_set, if_neg (Ne.symm hj)] at hc
    exact hother _ (H.apart j id q p c _ hj hq hp hc hb hd (live_kind hl) hqn hn (.inr hwr))
  · have hre' := hre.mono (List.prefix_append m [(⟨p.blk, p.off, cap, false⟩ : Pl)])
    have hel : en.size = len * es + news.length := by rw [← hre.len, List.length_append, hlo]
    refine ⟨hre'.wf, fun e => absurd e (by simp), fun _ => by rw [hrest.2.2.2]; exact hh.lt hn, fun j hj => ?_, fun _ j hj => ?_, fun _ _ => hz, fun es' e => absurd e (by simp), fun es' e _ => ?_⟩
    · simp only at hj
      have hj' : j < (olds ++ news).length := by rw [hre.len]; exact hj
      have := hre'.get j (olds ++ news)[j] (List.getElem?_eq_getElem hj')
      refine ⟨_, this.1, this.2, ?_⟩
      simp only
      by_cases hlt : j < olds.length
      · rw [World.cell?_setCells_out _ _ _ _ _ (fun _ _ => .inl (by simp only; omega))]
        rw [List.getElem_append_left hlt]
        exact hcell j _ (List.getElem?_eq_getElem hlt)
      · have hin := World.cell?_setCells_in p.blk news (p.off + len * es) w hsome (j - len * es) (by omega)
        rw [show p.off + len * es + (j - len * es) = p.off + j by omega] at hin
        rw [hin, List.getElem_append_right (by omega)]
        simp only [hlo]
    · simp only at hj ⊢
      rw [World.frozen?_setCells, hz, Nat.zero_add]
      exact (hsp _ (by omega)).2
    · simp only [BK.row.injEq] at e
      subst e
      refine ⟨by simp only; omega, fun j hj => ?_⟩
      simp only at hj ⊢
      obtain ⟨g1, g2⟩ := hsp j hj
      rw [World.frozen?_setCells]
      refine ⟨?_, g2⟩
      by_cases hin : p.off + len * es ≤ j ∧ j < p.off + len * es + news.length
      · have := World.cell?_setCells_in p.blk news (p.off + len * es) w hsome (j - (p.off + len * es)) (by omega)
        rw [show p.off + len * es + (j - (p.off + len * es)) = j by omega] at this
        rw [this]; rfl
      · rw [World.cell?_setCells_out _ _ _ _ _ (fun _ _ => by simp only; omega)]; exact g1
  · have hj : j ≠ id := by
      intro e; subst e
      rw [List.getElem?_set, if_pos rfl] at hc
      split at hc
      · simp only [Option.some.injEq] at hc; subst hc; exact absurd rfl hd
      · cases hc
    rw [List.getElem?_set, if_neg (Ne.symm hj)] at hc
    exact H.apart j id q p c _ hj hq hp hc hb hd (live_kind hl) hqn hn (.inr hwr)

end app

section app2
variable {P : Program} {τ : Types} {m : List Pl} {w : World} {S : St} {a : Act}

theorem cnt_spec {c : Cs} {es : Nat} {q : Nm} (h : c.cnt std es = some q) : c.size = q.n * es := by
  cases c with
  | lit l =>
    simp only [Cs.cnt] at h
    split at h
    · cases h
    · split at h
      · rename_i hb
        simp only [Option.some.injEq] at h
        subst h
        have := Nat.eq_of_beq_eq_true hb
        simp only [Cs.size, Nat.succ_eq_add_one]; exact this.symm
      · cases h
  | ints k l =>
    simp only [Cs.cnt] at h
    split at h
    · rename_i hb
      simp only [Option.some.injEq] at h
      subst h
      have : es = 1 := by simpa using hb
      simp [Cs.size, std, this]
    · cases h
  | recs ks l =>
    simp only [Cs.cnt] at h
    split at h
    · rename_i hb
      simp only [Option.some.injEq] at h
      subst h
      have : es = ks.length := by simpa using hb
      simp [Cs.size, std, this]
    · cases h
  | cat _ _ _ => simp [Cs.cnt] at h

theorem live_wr {b : Blk} (h : b.k = .dead) : b.live = false := by unfold Blk.live; rw [h]

theorem frz_dead {h : List Blk} {id : Nat} (hl : (blkAt h id).live = true) : ∀ b : Blk, (h.set id (blkAt h id).frz)[id]? = some b → b.k.wr = false := fun b hb => by
  rw [List.getElem?_set, if_pos rfl] at hb
  split at hb
  · simp only [Option.some.injEq] at hb; subst hb; exact frz_wr _
  · cases hb

theorem set_ne {h : List Blk} {id : Nat} {x : Blk} : ∀ j, j ≠ id → (h.set id x)[j]? = h[j]? := fun j hj => by
  rw [List.getElem?_set, if_neg (Ne.symm hj)]

theorem grown_ok {i : TI} {ok : Bool} {len n : Nm} {c d : Cs} {h : List Blk} {k : BK} (h' : (grown std i ok len c n d h k).ok = true) : ok = true ∧ 1 ≤ i.size := by
  unfold grown at h'
  split at h'
  · simp at h'
  · simp only [Bool.and_eq_true] at h'
    exact ⟨h'.1, by simpa using h'.2.2.2⟩

theorem run_append_zero {t tx ty e : TypeId} {i : TI} (hd : P.underlying t = some (.slice e)) (f : TFact P e i) {base : Option Addr} {len cap : Nat} {x : Value} (hs : Src P i.size tx x 0 [] w) (hle : len ≤ cap) :
    (Builtin.append_ #[t, tx] ty #[.slice base len cap, x]).run P w = .ok (.slice base (len + 0) cap) w := by
  obtain ⟨ti, z, h1, h2, h3, h4, h5, h6, h7⟩ := tzero f
  rcases hs.kind with ⟨e', hk⟩ | hk
  all_goals
    have hc := hs.cells
    rw [← h3] at hc
    cases base <;> simp [Builtin.append_, run_underlying hd, run_underlying hk, sizeOf, typeInfo, h1, hs.len, hle, hc, storeCells]

theorem ok_append (hτ : TOk P τ) (T : TTie G m S.t a) (H : HTie m S.h w) {o : Oper} {t tx : TypeId} {s x : Operand} (ho : o.op = .call ⟨.builtin .append, #[s, x], #[t, tx]⟩)
    (hok : (appendO std τ t tx (S.ev G s) (S.ev G x) S.h).ok = true) : OpOk P o a w m S.h (appendO std τ t tx (S.ev G s) (S.ev G x) S.h) := by
  unfold appendO at hok ⊢
  split at hok
  · simp at hok
  rename_i i hi
  obtain ⟨e, hd, f⟩ := elemT_spec hτ hi
  split at hok
  · simp at hok
  rename_i ok0 d n hsrc
  have src : srcT τ tx (S.ev G x) = true → ok0 = true → ∃ news, Src P i.size tx (a.eval x) n.n news w ∧ Reads m d news ∧ d.size = n.n * i.size := fun h1 h2 => srcO_spec hτ T H h1 (by rw [hsrc, h2])
  have lowS : ∀ (j : Nat) (b : Blk), S.h[j]? = some b → b.k.wr = true → ∃ b0 : Blk, S.h[j]? = some b0 ∧ b0.k.wr = true := fun j b h1 h2 => ⟨b, h1, h2⟩
  have livS : ∀ (j : Nat) (b : Blk), S.h[j]? = some b → b.k ≠ .dead → ∃ b0 : Blk, S.h[j]? = some b0 ∧ b0.k ≠ .dead := fun j b h1 h2 => ⟨b, h1, h2⟩
  split at hok
  · -- none
    rename_i hs
    obtain ⟨h1, hs1⟩ := grown_ok hok
    simp only [Bool.and_eq_true] at h1
    obtain ⟨news, g1, g2, g3⟩ := src h1.1 h1.2
    refine opOk_grown hτ H ho hd f hok (base := none) (cap := 0) (olds := []) (ev_nils T hs) (run_firstCells_none _ _ _ _ _) ⟨trivial, rfl, by simp⟩ (by simp [Cs.size]) g1 g2 (.inl rfl) H rfl lowS livS (fun _ hle en hen => ?_)
    have hn0 : n.n = 0 := by simp only at hle; omega
    have hnews : news = [] := List.eq_nil_of_length_eq_zero (by rw [g1.newsLen, hn0, Nat.zero_mul])
    subst hnews
    rw [hn0] at g1 ⊢
    have hsz : en.size = 0 := by
      have := (Cs.app_spec (c := .lit []) (n := 0) trivial g2.wf rfl hen).size
      rw [this, g3, hn0]; simp
    obtain ⟨p', hX, hT, hv⟩ := stay_nil (k := .row i.size) H (by simp) (Cs.app_spec (c := .lit []) (n := 0) trivial g2.wf rfl hen).wf hsz H rfl lowS livS
    exact ⟨p', w, by rw [ev_nils T hs]; exact run_append_zero hd f g1 (Nat.le_refl _), hX, hT, hv⟩
  · -- a row
    rename_i id len hs
    obtain ⟨p, hp, hev⟩ := ev_row T hs
    split at hok
    · simp at hok
    rename_i q hq
    have hcs := cnt_spec hq
    split at hok
    · rename_i es hkd
      obtain ⟨h1, hs1⟩ := grown_ok hok
      simp only [Bool.and_eq_true, std, decide_eq_true_eq] at h1
      obtain ⟨h1, h2, h3, h4⟩ := h1
      have h4 : es = i.size := by simpa using h4
      subst h4
      obtain ⟨news, g1, g2, g3⟩ := src h1 h2
      have hwr : (blkAt S.h id).k.wr = true := by rw [hkd]; rfl
      have hl := wr_live hwr
      have hb := blkAt_some hl
      have hh := H.holds id p _ hp hb (live_kind hl)
      obtain ⟨olds, r1, r2⟩ := hh.reads
      have hHd : HTie m (S.h.set id ⟨(blkAt S.h id).c, .dead⟩) w := H.freeze hb (.inl rfl)
      have hvac : ∀ b : Blk, (S.h.set id ⟨(blkAt S.h id).c, .dead⟩)[id]? = some b → b.k ≠ .dead → b.k.wr = false ∧ (BK.row i.size) = .ro := fun b hb hd => by
        rw [List.getElem?_set, if_pos rfl] at hb
        split at hb
        · simp only [Option.some.injEq] at hb; subst hb; exact absurd rfl hd
        · cases hb
      rw [h3] at hcs
      have hlo : olds.length = len * i.size := by rw [r1.len, hcs]
      rcases hev with ⟨hn, hle, he⟩ | ⟨hn, h0, he⟩
      · have hz := hh.z hwr hn
        refine opOk_grown hτ H ho hd f hok (base := some ⟨p.blk, p.off, none⟩) (cap := p.cap) (olds := olds) he (run_firstCells_some _ _ _ _ _ _ olds hlo (fun j v hj => by rw [addr_add]; exact r2 j v hj)) r1 hcs g1 g2 (.inl rfl) hHd (by simp) (set_wr rfl) (set_live fun e => (e rfl).elim) (fun _ hroom en hen => ?_)
        have hre := r1.app g2 hen
        have hrm : len * i.size + news.length ≤ p.cap * i.size := by
          rw [g1.newsLen, ← Nat.add_mul]; exact Nat.mul_le_mul_right _ hroom
        obtain ⟨k1, k2, p', hX, hT, hv⟩ := stay_room (n := n.n) H hp hwr (hh.sp _ hkd hn).2 hn hre g1.one r2 hlo hrm hroom
        obtain ⟨ti, z, y1, y2, y3, y4, y5, y6, y7⟩ := tzero f
        have hrun := run_append_room_src (P := P) w t tx o.type e ti hd y1 p.blk p.off len p.cap (a.eval x) n.n news (by rw [y3]; exact g1) hroom (by rw [y3]; exact k1) (by rw [y3]; exact k2)
        rw [y3] at hrun
        exact ⟨p', _, by rw [he]; exact hrun, hX, hT, hv⟩
      · subst h0
        have holds : olds = [] := List.eq_nil_of_length_eq_zero (by rw [hlo, Nat.zero_mul])
        subst holds
        refine opOk_grown hτ H ho hd f hok (base := none) (cap := 0) (olds := []) he (run_firstCells_none _ _ _ _ _) r1 hcs g1 g2 (.inl rfl) hHd (by simp) (set_wr rfl) (set_live fun e => (e rfl).elim) (fun _ hle en hen => ?_)
        have hn0 : n.n = 0 := by simp only at hle; omega
        have hnews : news = [] := List.eq_nil_of_length_eq_zero (by rw [g1.newsLen, hn0, Nat.zero_mul])
        subst hnews
        rw [hn0] at g1 ⊢
        have hre := r1.app g2 hen
        obtain ⟨p', hX, hT, hv⟩ := stay_nil (k := .row i.size) H (by simp) hre.wf (by rw [← hre.len]; rfl) hHd (by simp) (set_wr rfl) (set_live fun e => (e rfl).elim)
        exact ⟨p', w, by rw [he]; exact run_append_zero hd f g1 (Nat.le_refl _), hX, hT, hv⟩
    · rename_i es hkd
      obtain ⟨h1, hs1⟩ := grown_ok hok
      simp only [Bool.and_eq_true, std, decide_eq_true_eq] at h1
      obtain ⟨h1, h2, h3, h4⟩ := h1
      have h4 : es = i.size := by simpa using h4
      subst h4
      obtain ⟨news, g1, g2, g3⟩ := src h1 h2
      have hl : (blkAt S.h id).live = true := by unfold Blk.live; rw [hkd]
      have hb := blkAt_some hl
      have hh := H.holds id p _ hp hb (live_kind hl)
      obtain ⟨olds, r1, r2⟩ := hh.reads
      rw [h3] at hcs
      have hlo : olds.length = len * i.size := by rw [r1.len, hcs]
      have hset : ∀ b : Blk, S.h[id]? = some b → b.k ≠ .dead → b.k.wr = false ∧ (BK.ro) = .ro := fun b hb' _ => by
        rw [hb] at hb'; simp only [Option.some.injEq] at hb'; subst hb'; rw [hkd]; exact ⟨rfl, rfl⟩
      rcases hev with ⟨hn, hle, he⟩ | ⟨hn, h0, he⟩
      · have hfu := hh.fu _ hkd hn
        have hcl : p.cap = len := by
          rw [hcs] at hfu
          exact Nat.eq_of_mul_eq_mul_right (by omega) hfu
        refine opOk_grown hτ H ho hd f hok (base := some ⟨p.blk, p.off, none⟩) (cap := p.cap) (olds := olds) he (run_firstCells_some _ _ _ _ _ _ olds hlo (fun j v hj => by rw [addr_add]; exact r2 j v hj)) r1 hcs g1 g2 (.inr rfl) H rfl lowS livS (fun _ hroom en hen => ?_)
        have hn0 : n.n = 0 := by simp only at hroom; omega
        have hnews : news = [] := List.eq_nil_of_length_eq_zero (by rw [g1.newsLen, hn0, Nat.zero_mul])
        subst hnews
        rw [hn0] at g1 ⊢
        have hre := r1.app g2 hen
        rw [List.append_nil] at hre
        obtain ⟨p', hX, hT, hv⟩ := stay_same (es := 0) (off := 0) (cap := p.cap) (len := len + 0) H hp hl hn (.inl rfl) hre (fun j v hj => by simpa using r2 j v hj) hle H rfl lowS livS hset (fun _ _ => rfl)
        exact ⟨p', w, by rw [he]; exact run_append_zero hd f g1 hle, hX, hT, by simpa using hv⟩
      · subst h0
        have holds : olds = [] := List.eq_nil_of_length_eq_zero (by rw [hlo, Nat.zero_mul])
        subst holds
        refine opOk_grown hτ H ho hd f hok (base := none) (cap := 0) (olds := []) he (run_firstCells_none _ _ _ _ _) r1 hcs g1 g2 (.inr rfl) H rfl lowS livS (fun _ hle en hen => ?_)
        have hn0 : n.n = 0 := by simp only at hle; omega
        have hnews : news = [] := List.eq_nil_of_length_eq_zero (by rw [g1.newsLen, hn0, Nat.zero_mul])
        subst hnews
        rw [hn0] at g1 ⊢
        have hre := r1.app g2 hen
        obtain ⟨p', hX, hT, hv⟩ := stay_nil (k := .ro) H (by simp) hre.wf (by rw [← hre.len]; rfl) H rfl lowS livS
        exact ⟨p', w, by rw [he]; exact run_append_zero hd f g1 (Nat.le_refl _), hX, hT, hv⟩
    · simp at hok
  · -- a slice
    rename_i id off len cap hs
    obtain ⟨p, hp, hn, hlc, he⟩ := ev_slice T hs
    split at hok
    · -- in place
      rename_i hroom
      simp only [Bool.and_eq_true] at hroom
      have hroom : len + n.n ≤ cap := by simpa using hroom.2
      split at hok
      · rename_i l
        cases hst : (blkAt S.h id).c.st std (.at_ (off + len * i.size)) l with
        | mk ok c' =>
        rw [hst] at hok
        simp only [Bool.and_eq_true] at hok ⊢
        obtain ⟨h1, rfl, rfl, hm, h1', h4⟩ := hok
        obtain ⟨news, g1, g2, g3⟩ := src h1 rfl
        have hk := may_wr hm
        have hb := blkAt_some (wr_live hk)
        have hh := H.holds id p _ hp hb (live_kind (wr_live hk))
        obtain ⟨h2, h3⟩ := Cs.st_spec rfl hh.wf hst
        have h2 : off + len * i.size + l.length ≤ (blkAt S.h id).c.size := h2
        have hv : SV.vals m l = some news := vals_same g2.len (fun j v hj => (g2.get j v hj).1)
        have hnl : news.length = l.length := g2.len
        have hrest := setCells_rest (b := p.blk) news (p.off + (off + len * i.size)) w
        obtain ⟨ti, z, y1, y2, y3, y4, y5, y6, y7⟩ := tzero f
        have hrun := run_append_room_src (P := P) w t tx o.type e ti hd y1 p.blk (p.off + off) len cap (a.eval x) n.n news (by rw [y3]; exact g1) hroom (fun j hj => by
            obtain ⟨v, _, _, h5⟩ := hh.cells (off + len * i.size + j) (by omega)
            rw [y3, show p.off + off + len * i.size + j = p.off + (off + len * i.size + j) by omega, h5]; rfl)
          (fun j hj => by
            have := hh.wr hk (off + len * i.size + j) (by omega)
            rw [y3, show p.off + off + len * i.size + j = p.off + (off + len * i.size + j) by omega]; exact this)
        rw [y3, show p.off + off + len * i.size = p.off + (off + len * i.size) by omega] at hrun
        refine OpOk.ofRun (m' := m) (run_call_builtin (a := a) ho (v := .slice (some ⟨p.blk, p.off + off, none⟩) (len + n.n) cap) (w' := w.setCells p.blk (p.off + (off + len * i.size)) news) ?_ (.inl rfl))
          (Ext.upd hp hb hk hn hrest.1 hrest.2.1 hrest.2.2.1 (by rw [hrest.2.2.2]; exact Nat.le_refl _) (fun k hk => setCells_heap _ _ _ hk))
          (H.upd hp hb hk hn (fun k hk => setCells_heap _ _ _ hk) (hh.laid hk hv g1.one h2 h3 hn)) (.inr ?_)
        · simp only [List.map_toArray, List.map_cons, List.map_nil, he]; exact hrun
        · simp [SV.val, hp, Pl.sl, hn, hroom]
      · simp at hok
    · cases hr : (blkAt S.h id).c.sub std off i.size ⟨true, 0⟩ ⟨true, len⟩ with
      | mk ok c =>
      rw [hr] at hok
      simp only at hok ⊢
      have pre : ∀ {o2 : Bool} {h' : List Blk} {k : BK}, (grown std i (srcT τ tx (S.ev G x) && (ok0 && (ok && o2))) ⟨true, len⟩ c n d h' k).ok = true → (blkAt S.h id).live = true →
          ∃ news, Src P i.size tx (a.eval x) n.n news w ∧ Reads m d news ∧ d.size = n.n * i.size ∧ 1 ≤ i.size ∧ ∃ olds, Reads m c olds ∧ (∀ (j : Nat) (v : Value), olds[j]? = some v → w.cell? ⟨p.blk, p.off + off + j, none⟩ = some v) ∧ olds.length = len * i.size ∧ c.size = len * i.size ∧ o2 = true ∧ off + len * i.size ≤ (blkAt S.h id).c.size := fun {o2 h' k} hg hl => by
        obtain ⟨h1, hs1⟩ := grown_ok hg
        simp only [Bool.and_eq_true] at h1
        obtain ⟨h1, h2, rfl, h3⟩ := h1
        obtain ⟨news, g1, g2, g3⟩ := src h1 h2
        have hb := blkAt_some hl
        have hh := H.holds id p _ hp hb (live_kind hl)
        obtain ⟨h5, h6⟩ := Cs.sub_spec hh.wf hr
        simp only [Nat.zero_add, Nat.zero_mul, Nat.add_zero] at h5 h6
        obtain ⟨vs, k1, k2⟩ := hh.read (off := off) (n := len * i.size) h5
        refine ⟨news, g1, g2, g3, hs1, vs, ⟨h6.wf, by rw [k1, h6.size], fun j v hj => ?_⟩, fun j v hj => (k2 j v hj).2.2, k1, h6.size, h3, h5⟩
        have hjl : j < len * i.size := by rw [← k1]; exact (List.getElem?_eq_some_iff.1 hj).1
        rw [h6.get j hjl m]; exact ⟨(k2 j v hj).1, (k2 j v hj).2.1⟩
      have fc : ∀ {olds : List Value}, (∀ (j : Nat) (v : Value), olds[j]? = some v → w.cell? ⟨p.blk, p.off + off + j, none⟩ = some v) → olds.length = len * i.size → (Builtin.firstCells i.size len (.slice (some ⟨p.blk, p.off + off, none⟩) len cap)).run P w.drew = .ok olds.toArray w.drew :=
        fun {olds} h1 h2 => run_firstCells_some _ _ _ _ _ _ olds h2 (fun j v hj => by rw [addr_add]; exact h1 j v hj)
      split at hok
      · -- more than there is room for
        rename_i hlit _ hnl
        have hlive : (blkAt S.h id).live = true := by
          have := (grown_ok hok).1
          simp only [Bool.and_eq_true] at this
          exact this.2.2.2
        obtain ⟨news, g1, g2, g3, hs1, olds, r1, r2, hlo, hcs, _, _⟩ := pre hok hlive
        have hgt : ¬ len + n.n ≤ cap := fun hle => by
          have : (n.lit && Nat.ble (len + n.n) cap) = true := by rw [hnl]; simpa using hle
          rw [this] at hlit; cases hlit
        exact opOk_grown hτ H ho hd f hok (base := some ⟨p.blk, p.off + off, none⟩) (cap := cap) (olds := olds) he (fc r2 hlo) r1 hcs g1 g2 (.inl rfl) H rfl lowS livS (fun _ hroom _ _ => absurd hroom hgt)
      · split at hok
        · -- none is left behind it
          rename_i hbe
          have hbe : len = cap := by simpa using hbe
          have hlive : (blkAt S.h id).live = true := by
            have := (grown_ok hok).1
            simp only [Bool.and_eq_true] at this
            exact this.2.2.2
          obtain ⟨news, g1, g2, g3, hs1, olds, r1, r2, hlo, hcs, _, _⟩ := pre hok hlive
          refine opOk_grown hτ H ho hd f hok (base := some ⟨p.blk, p.off + off, none⟩) (cap := cap) (olds := olds) he (fc r2 hlo) r1 hcs g1 g2 (.inr rfl) (frz_set hlive H) (by simp) (set_wr (frz_wr _)) (set_live fun _ => ⟨_, blkAt_some hlive, live_kind hlive⟩) (fun _ hroom en hen => ?_)
          have hn0 : n.n = 0 := by simp only at hroom; omega
          have hnews : news = [] := List.eq_nil_of_length_eq_zero (by rw [g1.newsLen, hn0, Nat.zero_mul])
          subst hnews
          rw [hn0] at g1 ⊢
          have hre := r1.app g2 hen
          rw [List.append_nil] at hre
          obtain ⟨p', hX, hT, hv⟩ := stay_same (es := 0) (off := off) (cap := cap) (len := len + 0) H hp hlive hn (.inl rfl) hre r2 hlc (frz_set hlive H) (by simp) (set_wr (frz_wr _)) (set_live fun _ => ⟨_, blkAt_some hlive, live_kind hlive⟩) (fun b hb' _ => ⟨frz_dead hlive b hb', rfl⟩) set_ne
          exact ⟨p', w, by rw [he]; exact run_append_zero hd f g1 hlc, hX, hT, hv⟩
        · split at hok
          · rename_i hoff
            have hoff : off = 0 := by simpa using hoff
            subst hoff
            have hmay : (blkAt S.h id).may = true := by
              have := (grown_ok hok).1
              simp only [Bool.and_eq_true] at this
              exact this.2.2.2.2
            have hwr := may_wr hmay
            have hlive := wr_live hwr
            obtain ⟨news, g1, g2, g3, hs1, olds, r1, r2, hlo, hcs, ho2, _⟩ := pre hok hlive
            simp only [Bool.and_eq_true] at ho2
            have hcz : cap * i.size = (blkAt S.h id).c.size := by simpa using ho2.1
            have hb := blkAt_some hlive
            have hh := H.holds id p _ hp hb (live_kind hlive)
            have hz := hh.z hwr hn
            have hsp : ∀ i_1, i_1 < cap * i.size → (w.cell? ⟨p.blk, i_1, none⟩).isSome = true ∧ w.frozen? ⟨p.blk, i_1, none⟩ = false := fun j hj => by
              obtain ⟨v, _, _, g⟩ := hh.cells j (by omega)
              have g' := hh.wr hwr j (by omega)
              rw [hz, Nat.zero_add] at g g'
              rw [g, g']; exact ⟨rfl, rfl⟩
            refine opOk_grown hτ H ho hd f hok (base := some ⟨p.blk, p.off + 0, none⟩) (cap := cap) (olds := olds) he (fc r2 hlo) r1 hcs g1 g2 (.inl rfl) (H.freeze hb (.inl rfl)) (by simp) (set_wr rfl) (set_live fun e => (e rfl).elim) (fun _ hroom en hen => ?_)
            have hre := r1.app g2 hen
            have hrm : len * i.size + news.length ≤ cap * i.size := by
              rw [g1.newsLen, ← Nat.add_mul]; exact Nat.mul_le_mul_right _ hroom
            obtain ⟨k1, k2, p', hX, hT, hv⟩ := stay_room (n := n.n) H hp hwr hsp hn hre g1.one (fun j v hj => by have := r2 j v hj; rwa [Nat.add_zero] at this) hlo hrm hroom
            obtain ⟨ti, z, y1, y2, y3, y4, y5, y6, y7⟩ := tzero f
            have hrun := run_append_room_src (P := P) w t tx o.type e ti hd y1 p.blk p.off len cap (a.eval x) n.n news (by rw [y3]; exact g1) hroom (by rw [y3]; exact k1) (by rw [y3]; exact k2)
            rw [y3] at hrun
            exact ⟨p', _, by rw [he]; exact hrun, hX, hT, hv⟩
          · simp at hok
  · simp at hok

end app2

section cpy
variable {P : Program} {τ : Types} {m : List Pl} {w : World} {S : St} {a : Act}

theorem getInts_spec {l : List Int} {k : IntKind} : ∀ (n j : Nat), (getInts std l k n j).length = n ∧ ∀ i, i < n → (getInts std l k n j).getD i .bad = .int k (l.getD (j + i) 0)
  | 0, j => ⟨rfl, fun i h => by omega⟩
  | n + 1, j => by
    obtain ⟨h1, h2⟩ := getInts_spec (l := l) (k := k) n (j + 1)
    refine ⟨by simp [getInts, h1], fun i hi => ?_⟩
    cases i with
    | zero => simp [getInts, std]
    | succ i => simp only [getInts, List.getD_cons_succ]; rw [h2 i (by omega)]; congr 2; omega

/-- What is laid over a piece: as many cells as there are of both. -/
structure Lays (c c' : Cs) (off n : Nat) (d : Cs) (q : Nat) : Prop where
  cnt : q = min d.size n
  fits : off + q ≤ c.size
  laid : Laid c' c.size (fun i => if off ≤ i ∧ i < off + q then d.get (i - off) else c.get i)

theorem lays_iput {c : Cs} {k : IntKind} {l r : List Int} {off : Nat} (hs : l.length = c.size) (hc : ∀ i, i < c.size → (SV.int k (l.getD i 0)).same (c.get i)) (hle : off + r.length ≤ c.size) {d : Cs} (hd : ∀ i, i < r.length → (SV.int k (r.getD i 0)).same (d.get i)) :
    Laid (.ints k (iput l off r)) c.size (fun i => if off ≤ i ∧ i < off + r.length then d.get (i - off) else c.get i) := by
  have hlen : (iput l off r).length = l.length := by simp [iput]; omega
  refine ⟨trivial, by simp [Cs.size, hlen, hs], fun i hi => ?_⟩
  simp only [Cs.get, iput, List.getD_eq_getElem?_getD]
  by_cases hj : off ≤ i ∧ i < off + r.length
  · rw [if_pos hj, List.getElem?_append_left (by simp; omega), List.getElem?_append_right (by simp; omega)]
    have := hd (i - off) (by omega)
    rw [List.getElem?_take, if_pos (by simp; omega)]
    simp only [List.length_take, List.getD_eq_getElem?_getD] at this ⊢
    rw [show i - min off l.length = i - off by omega]
    exact this
  · rw [if_neg hj]
    have := hc i hi
    rw [List.getD_eq_getElem?_getD] at this
    by_cases hlt : i < off
    · rw [List.append_assoc, List.getElem?_append_left (by simp; omega), List.getElem?_take, if_pos hlt]
      exact this
    · rw [List.getElem?_append_right (by simp; omega), List.getElem?_drop]
      simp only [List.length_append, List.length_take]
      rw [show off + r.length + (i - (min off l.length + min (l.length - off) r.length)) = i by omega]
      exact this

theorem Cs.lay_spec : ∀ {c c' : Cs} {off n : Nat} {d : Cs} {q : Nm}, c.wf → d.wf → c.lay std off n d = some (true, c', q) → Lays c c' off n d q.n
  | .lit l, c', off, n, d, q, _, hd, h => by
    cases d with
    | lit r =>
      simp only [Cs.lay, Option.some.injEq, Prod.mk.injEq] at h
      obtain ⟨h1, rfl, rfl⟩ := h
      have h1 : off + n ≤ l.length := by simpa using h1
      obtain ⟨h2, h3⟩ := setL_spec l off (r.take n) (by simp; omega)
      refine ⟨by simp [Cs.size, Nat.min_comm], by simp only [Cs.size]; omega, trivial, h2, fun i hi => ?_⟩
      simp only [Cs.get]
      rw [h3]
      simp only [List.length_take]
      by_cases hc : off ≤ i ∧ i < off + min n r.length
      · rw [if_pos hc, if_pos hc, List.getD_eq_getElem?_getD, List.getElem?_take, if_pos (by omega), ← List.getD_eq_getElem?_getD]
        exact SV.same.refl _
      · rw [if_neg hc, if_neg hc]; exact SV.same.refl _
    | ints k r =>
      simp only [Cs.lay] at h
      split at h
      · rename_i xs hx
        split at hx
        · rename_i hb
          simp only [Bool.and_eq_true] at hb
          have ho : off = 0 := by simpa using hb.1
          have hn : n = l.length := by simpa using hb.2
          subst ho; subst hn
          simp only [Option.some.injEq, Prod.mk.injEq, true_and, std] at h
          obtain ⟨rfl, rfl⟩ := h
          obtain ⟨h1, h2⟩ := asInts_spec hx
          have hq : min (Cs.ints k r).size l.length = min r.length l.length := rfl
          refine ⟨rfl, (show 0 + min r.length l.length ≤ l.length by omega), ?_⟩
          have hcut : iput xs 0 r = iput xs 0 (r.take l.length) := by
            simp only [iput, Nat.sub_zero, Nat.zero_add, List.take_take, h1, Nat.min_self, List.length_take]
            congr 1
            by_cases hle : r.length ≤ l.length
            · rw [Nat.min_eq_right hle]
            · rw [List.drop_eq_nil_of_le (by omega), List.drop_eq_nil_of_le (by rw [h1]; exact Nat.le_min.2 ⟨Nat.le_refl _, by omega⟩)]
          rw [hcut]
          have := lays_iput (c := .lit l) (k := k) (l := xs) (r := r.take l.length) (off := 0) h1 h2 (by simp [Cs.size]; omega) (d := .ints k r) (fun i hi => by
            simp only [List.length_take] at hi
            simp only [Cs.get, List.getD_eq_getElem?_getD, List.getElem?_take, if_pos (show i < l.length by omega)]; exact SV.same.refl _)
          simp only [List.length_take] at this
          have e : Nat.min r.length l.length = min l.length r.length := Nat.min_comm _ _
          rw [e]; exact this
        · cases hx
      · simp only [Option.some.injEq, Prod.mk.injEq, Bool.and_eq_true] at h
        obtain ⟨⟨h1, h2⟩, rfl, rfl⟩ := h
        have h1 : off + n ≤ l.length := by simpa using h1
        have h2 : n ≤ r.length := of_decide_eq_true h2
        obtain ⟨g1, g2⟩ := getInts_spec (l := r) (k := k) n 0
        obtain ⟨h3, h4⟩ := setL_spec l off (getInts std r k n 0) (by rw [g1]; exact h1)
        refine ⟨by simp only [Cs.size]; omega, by simp only [Cs.size]; omega, trivial, h3, fun i hi => ?_⟩
        simp only [Cs.get]
        have h4 := h4 i
        rw [g1] at h4
        rw [h4]
        by_cases hc : off ≤ i ∧ i < off + n
        · rw [if_pos hc, if_pos hc, g2 _ (by omega), Nat.zero_add]; exact SV.same.refl _
        · rw [if_neg hc, if_neg hc]; exact SV.same.refl _
    | recs ks r => simp [Cs.lay] at h
    | cat _ _ _ => simp [Cs.lay] at h
  | .ints k l, c', off, n, d, q, _, hd, h => by
    have key : ∀ {r : List Int}, r.length = d.size → (∀ i, i < d.size → (SV.int k (r.getD i 0)).same (d.get i)) → (true, c', q) = (std.nle (off + n) (std.ilen l), Cs.ints k (std.iput l off (std.isub r 0 n)), (⟨false, std.nmin (std.ilen r) n⟩ : Nm)) → Lays (.ints k l) c' off n d q.n := fun {r} hr hg he => by
      simp only [std, Prod.mk.injEq] at he
      obtain ⟨h1, rfl, rfl⟩ := he
      have h1 : off + n ≤ l.length := by simpa using h1.symm
      have hm : Nat.min r.length n = min d.size n := by rw [hr]
      have := lays_iput (c := .ints k l) (k := k) (l := l) (r := (r.drop 0).take n) (off := off) rfl (fun i _ => SV.same.refl _) (by simp [Cs.size]; omega) (d := d) (fun i hi => by
        simp only [List.length_take, List.drop_zero] at hi
        simp only [List.drop_zero, List.getD_eq_getElem?_getD, List.getElem?_take, if_pos (show i < n by omega)]
        have := hg i (by omega)
        rwa [List.getD_eq_getElem?_getD] at this)
      refine ⟨hm, by simp only [Cs.size]; rw [hm]; omega, ?_⟩
      simp only [List.length_take, List.drop_zero] at this
      have e : Nat.min r.length n = min n r.length := Nat.min_comm _ _
      simp only
      rw [e]; simpa using this
    cases d with
    | lit r =>
      simp only [Cs.lay] at h
      split at h
      · rename_i xs hx
        obtain ⟨h1, h2⟩ := asInts_spec hx
        exact key h1 h2 (by simpa using h.symm)
      · cases h
    | ints k' r =>
      simp only [Cs.lay] at h
      split at h
      · rename_i xs hx
        split at hx
        · rename_i hk
          have := kn_eq hk
          subst this
          simp only [Option.some.injEq] at hx
          subst hx
          exact key rfl (fun i _ => SV.same.refl _) (by simpa using h.symm)
        · cases hx
      · cases h
    | recs ks r => simp [Cs.lay] at h
    | cat _ _ _ => simp [Cs.lay] at h
  | .recs _ _, c', off, n, d, q, _, hd, h => by cases d <;> simp [Cs.lay] at h
  | .cat k a b, c', off, n, d, q, hw, hd, h => by
    obtain ⟨h1, h2, h3⟩ := hw
    have h' : (match Nat.ble (off + n) k with
      | true => match a.lay std off n d with
        | some (ok, a', m) => some (ok, Cs.cat k a' b, m)
        | none => none
      | false => match Nat.ble k off with
        | true => match b.lay std (off - k) n d with
          | some (ok, b', m) => some (ok, Cs.cat k a b', m)
          | none => none
        | false => none) = some (true, c', q) := by cases d <;> exact h
    clear h
    split at h'
    · rename_i hb
      have hb : off + n ≤ k := by simpa using hb
      split at h'
      · rename_i ok a' mm ha
        simp only [Option.some.injEq, Prod.mk.injEq] at h'
        obtain ⟨rfl, rfl, rfl⟩ := h'
        obtain ⟨g1, g2, g3, g4, g5⟩ := Cs.lay_spec h2 hd ha
        refine ⟨g1, by simp only [Cs.size]; omega, ⟨by rw [g4]; exact h1, g3, h3⟩, rfl, fun i hi => ?_⟩
        simp only [Cs.get]
        by_cases hin : i < k
        · rw [if_pos hin, if_pos hin]; exact g5 i (by omega)
        · have : min d.size n ≤ n := Nat.min_le_right _ _
          rw [if_neg hin, if_neg hin, if_neg (by omega)]; exact SV.same.refl _
      · cases h'
    · split at h'
      · rename_i hb2
        have hb2 : k ≤ off := by simpa using hb2
        split at h'
        · rename_i ok b' mm ha
          simp only [Option.some.injEq, Prod.mk.injEq] at h'
          obtain ⟨rfl, rfl, rfl⟩ := h'
          obtain ⟨g1, g2, g3, g4, g5⟩ := Cs.lay_spec h3 hd ha
          refine ⟨g1, by simp only [Cs.size]; omega, ⟨h1, h2, g3⟩, by simp only [Cs.size, g4], fun i hi => ?_⟩
          simp only [Cs.size] at hi
          simp only [Cs.get]
          by_cases hin : i < k
          · rw [if_pos hin, if_neg (by omega), if_pos hin]; exact SV.same.refl _
          · rw [if_neg hin, if_neg hin]
            have := g5 (i - k) (by omega)
            by_cases hc : off ≤ i ∧ i < off + mm.n
            · rw [if_pos hc]; rw [if_pos (by omega)] at this; rw [show i - off = i - k - (off - k) by omega]; exact this
            · rw [if_neg hc]; rw [if_neg (by omega)] at this; exact this
        · cases h'
      · cases h'

theorem ok_copy (hτ : TOk P τ) (T : TTie G m S.t a) (H : HTie m S.h w) {o : Oper} {t tx : TypeId} {s x : Operand} (ho : o.op = .call ⟨.builtin .copy, #[s, x], #[t, tx]⟩)
    (hok : (copyO std τ t tx (S.ev G s) (S.ev G x) S.h).ok = true) : OpOk P o a w m S.h (copyO std τ t tx (S.ev G s) (S.ev G x) S.h) := by
  unfold copyO at hok ⊢
  split at hok
  · simp at hok
  rename_i i hi
  obtain ⟨e, hd, f⟩ := elemT_spec hτ hi
  split at hok
  · rename_i ok0 d n id off len cap hsrc hs
    obtain ⟨p, hp, hn, hlc, he⟩ := ev_slice T hs
    split at hok
    · rename_i ok c' mm hlay
      simp only [Bool.and_eq_true] at hok ⊢
      obtain ⟨h1, rfl, rfl, h2, hm, h3⟩ := hok
      have h2 : i.size = 1 := by simpa using h2
      have h3 : (n.n : Int) ≤ 9223372036854775807 := of_decide_eq_true h3
      obtain ⟨news, g1, g2, g3, g4⟩ := srcO_spec' hτ T H h1 hsrc
      have hk := may_wr hm
      have hb := blkAt_some (wr_live hk)
      have hh := H.holds id p _ hp hb (live_kind (wr_live hk))
      obtain ⟨k1, k2, k3⟩ := Cs.lay_spec hh.wf g2.wf hlay
      rw [h2, Nat.mul_one] at g3
      have hq : mm.n = min n.n len := by rw [k1, g3]
      obtain ⟨ti, z, y1, y2, y3, y4, y5, y6, y7⟩ := tzero f
      have hnl : news.length = n.n := by rw [g2.len, g3]
      -- the first ones of them
      have hfirst : (Builtin.firstCells i.size (Nat.min n.n len) (a.eval x)).run P w = .ok (news.take mm.n).toArray w := by
        have hm' : Nat.min n.n len = mm.n := by rw [hq]
        rw [hm', g4 mm.n (by omega), h2, Nat.mul_one]
      have hv : SV.vals m ((List.range mm.n).map d.get) = some (news.take mm.n) := vals_same (by simp <;> omega) (fun j v hj => by
        rw [List.getElem?_take] at hj
        split at hj
        · rename_i hlt
          rw [getD_of_lt (by simpa using hlt)]
          simpa using (g2.get j v hj).1
        · cases hj)
      have h1' : ∀ v ∈ news.take mm.n, v.oneCell' = true := fun v hv => g1.one v (List.mem_of_mem_take hv)
      have hlaid : Laid c' (blkAt S.h id).c.size (over (blkAt S.h id).c off ((List.range mm.n).map d.get)) := ⟨k3.wf, k3.size, fun j hj => by
        refine (k3.get j hj).trans ?_
        simp only [over, List.length_map, List.length_range]
        by_cases hc : off ≤ j ∧ j < off + mm.n
        · rw [if_pos hc, if_pos hc, getD_of_lt (by simp; omega)]; simp; exact SV.same.refl _
        · rw [if_neg hc, if_neg hc]; exact SV.same.refl _⟩
      have hlaid2 := hh.laid hk hv h1' (by simp <;> omega) hlaid hn
      have hrest := setCells_rest (b := p.blk) (news.take mm.n) (p.off + off) w
      have hlt : (news.take mm.n).length = mm.n := by simp; omega
      have hst := run_storeCells_cells (P := P) p.blk (p.off + off) (news.take mm.n) 0 w (fun j hj => by
          obtain ⟨v, _, _, h5⟩ := hh.cells (off + j) (by omega)
          rw [show p.off + off + 0 + j = p.off + (off + j) by omega, h5]; rfl)
        (fun j hj => by
          have := hh.wr hk (off + j) (by omega)
          rw [show p.off + off + 0 + j = p.off + (off + j) by omega]; exact this) h1'
      simp only [Nat.add_zero] at hst
      have hmin : ((Nat.min n.n len : Nat) : Int) = (mm.n : Int) := by rw [hq]
      have hin := IntWalk.i64_in (mm.n : Int) (by omega)
      refine OpOk.ofRun (m' := m) (run_call_builtin (a := a) ho (v := .int .i64 mm.n) (w' := w.setCells p.blk (p.off + off) (news.take mm.n)) ?_ (.inr (.inl rfl)))
        (Ext.upd hp hb hk hn hrest.1 hrest.2.1 hrest.2.2.1 (by rw [hrest.2.2.2]; exact Nat.le_refl _) (fun k hk => setCells_heap _ _ _ hk))
        (H.upd hp hb hk hn (fun k hk => setCells_heap _ _ _ hk) hlaid2) (.inr ?_)
      · simp [Builtin.copy_, run_underlying hd, he, g1.len, sizeOf, typeInfo, y1, y3, hfirst, hst, goInt, hmin]
      · unfold nmSV; split
        · exact val_num_of hin
        · exact val_int_of hin
    · simp at hok
  · simp at hok

end cpy

/-! ### Calls -/

abbrev Cons := FuncId → Option (List SV → Bool × SV)

/-- What a call comes to: its value, what becomes of the blocks that were handed in (none: it is as it was), the blocks that are new. -/
structure HR where
  ok : Bool
  v : SV
  ch : List (Option Blk)
  nw : List Blk

abbrev HF := List SV → List Blk → HR
abbrev HCons := FuncId → Option HF

def memB (id : Nat) : List Nat → Bool
  | [] => false
  | x :: r => match Nat.beq x id with
    | true => true
    | false => memB id r

/-- The cells that speak of blocks. -/
def Cs.svs : Cs → List SV
  | .lit l => l
  | .cat _ a b => a.svs ++ b.svs
  | _ => []

/-- The blocks that values speak of, and those that these speak of. -/
def gat (h : List Blk) : Nat → List SV → List Nat → Option (List Nat)
  | 0, _, _ => none
  | _ + 1, [], acc => some acc
  | n + 1, v :: r, acc => match v with
    | .ptr id _ => (match memB id acc with
      | true => gat h n r acc
      | false => gat h n ((blkAt h id).c.svs ++ r) (acc ++ [id]))
    | .elt id _ _ _ => (match memB id acc with
      | true => gat h n r acc
      | false => gat h n ((blkAt h id).c.svs ++ r) (acc ++ [id]))
    | .slice id _ _ _ => (match memB id acc with
      | true => gat h n r acc
      | false => gat h n ((blkAt h id).c.svs ++ r) (acc ++ [id]))
    | .row id _ => (match memB id acc with
      | true => gat h n r acc
      | false => gat h n ((blkAt h id).c.svs ++ r) (acc ++ [id]))
    | .fn _ cs => gat h n (cs ++ r) acc
    | .agg l => gat h n (l ++ r) acc
    | .tup l => gat h n (l ++ r) acc
    | _ => gat h n r acc

def posn : List Nat → Nat → Nat
  | [], _ => 0
  | x :: r, id => match Nat.beq x id with
    | true => 0
    | false => posn r id + 1

def nodupB : List Nat → Bool
  | [] => true
  | x :: r => match memB x r with
    | true => false
    | false => nodupB r

def Cs.idsB (n : Nat) : Cs → Bool
  | .lit l => SV.idsLts n l
  | .cat _ a b => a.idsB n && b.idsB n
  | _ => true

/-- The numbers back. -/
def back (ids : List Nat) (hl k : Nat) : Nat := match Nat.ble (k + 1) ids.length with
  | true => ids.getD k 0
  | false => hl + (k - ids.length)

/-- The caller's blocks behind the call: those that turned; if something is handed back that is read alone, those that did not turn are read alone too. -/
def putCh (g : Nat → Nat) (fr : Bool) : List Nat → List (Option Blk) → List Blk → List Blk
  | [], _, h => h
  | id :: r, [], h => match fr with
    | true => putCh g fr r [] (h.set id (blkAt h id).frz)
    | false => putCh g fr r [] h
  | id :: r, some b :: q, h => putCh g fr r q (h.set id (b.ren g))
  | id :: r, none :: q, h => match fr with
    | true => putCh g fr r q (h.set id (blkAt h id).frz)
    | false => putCh g fr r q h

/-- May those that turn be written? -/
def mayCh (h : List Blk) : List Nat → List (Option Blk) → Bool
  | _, [] => true
  | [], some _ :: _ => false
  | [], none :: q => mayCh h [] q
  | id :: r, some _ :: q => (blkAt h id).may && mayCh h r q
  | _ :: r, none :: q => mayCh h r q

/-- The first blocks first. -/
def preN : Nat → Nat → List Nat → Bool
  | _, 0, _ => true
  | i, n + 1, x :: r => Nat.beq x i && preN (i + 1) n r
  | _, _ + 1, [] => false

def fstN : Nat → Nat → List Nat
  | _, 0 => []
  | i, n + 1 => i :: fstN (i + 1) n

def callH (ng : Nat) (F : HF) (args : List SV) (h : List Blk) : R :=
  match gat h 5000 args (fstN 0 ng) with
  | none => .fail
  | some ids => match SV.rens (posn ids) args, ids.map (fun id => (blkAt h id).ren (posn ids)) with
    | args', h' => match F args' h' with
      | ⟨ok, v, ch, nw⟩ =>
        ⟨ok && (preN 0 ng ids && (nodupB ids && (ids.all (fun id => Nat.ble (id + 1) h.length) && (SV.idsLts ids.length args' && (h'.all (fun b => b.c.idsB ids.length) && mayCh h ids ch))))),
          v.ren (back ids h.length), putCh (back ids h.length) (nw.any (fun b => !b.may)) ids ch h ++ nw.map (fun b => b.ren (back ids h.length))⟩

def isPureC (Γ : Cons) : Operand → Bool
  | .func f => (Γ f).isSome
  | _ => false

def isQuiet (q : List Nat) : Operand → Bool
  | .func f => memB f q
  | _ => false

/-- A contract by which no block turns, and none is new. -/
def qF (F : HF) : HF := fun args h => match F args h with
  | ⟨ok, v, [], []⟩ => ⟨ok, v, [], []⟩
  | _ => ⟨false, .bad, [], []⟩

def quietR (h : List Blk) (r : R) : R := ⟨r.ok, r.v, h⟩

def callO (ng : Nat) (Γ : Cons) (Δ : HCons) (q : List Nat) (x : Operand) (f : SV) (args : List SV) (h : List Blk) : R :=
  match isPureC Γ x with
  | true => match f with
    | .fn f [] => match Γ f with
      | some F => match F args with
        | (ok, v) => ⟨ok, v, h⟩
      | none => .fail
    | _ => .fail
  | false => match f with
    | .fn f cs => match Δ f with
      | some F => match isQuiet q x with
        | true => quietR h (callH ng (qF F) (args ++ cs) h)
        | false => callH ng F (args ++ cs) h
      | none => .fail
    | _ => .fail

def COk (P : Program) (Γ : Cons) : Prop := ∀ f F, Γ f = some F → ∀ (args : List SV) (v : SV), F args = (true, v) → ∀ (m : List Pl) (us : List Value) (w : World), SV.vals m args = some us →
  ∃ u, v.val [] = some u ∧ ((∃ fn, P.funcs[f]? = some fn ∧ fn.body.isSome = true ∧ (fn.name == "runtime.NumGoroutine") = false ∧ Calls P f us.toArray w fun e w' => e = .returned u ∧ Below w.heap.size w w') ∨
    (callFunc f us.toArray).run P w = .ok (.value u) w)

/-- The blocks that turned, and no others. -/
def actB : List Blk → List (Option Blk) → List Blk
  | [], _ => []
  | _ :: r, [] => .nil :: actB r []
  | _ :: r, some b :: q => b :: actB r q
  | _ :: r, none :: q => .nil :: actB r q

theorem actB_length : ∀ (h : List Blk) (ch : List (Option Blk)), (actB h ch).length = h.length
  | [], _ => by simp [actB]
  | _ :: r, [] => by simp [actB, actB_length r []]
  | _ :: r, some b :: q => by simp [actB, actB_length r q]
  | _ :: r, none :: q => by simp [actB, actB_length r q]

theorem actB_get : ∀ (h : List Blk) (ch : List (Option Blk)) (k : Nat) (b : Blk), (actB h ch)[k]? = some b → b.k ≠ .dead → ch[k]? = some (some b)
  | [], _, k, b, hb, _ => by simp [actB] at hb
  | _ :: r, [], 0, b, hb, hd => by simp [actB] at hb; subst hb; exact absurd rfl hd
  | _ :: r, [], k + 1, b, hb, hd => by
    have := actB_get r [] k b (by simpa [actB] using hb) hd
    simp at this
  | _ :: r, some c :: q, 0, b, hb, hd => by simp [actB] at hb; subst hb; simp
  | _ :: r, some c :: q, k + 1, b, hb, hd => by
    have := actB_get r q k b (by simpa [actB] using hb) hd
    simpa using this
  | _ :: r, none :: q, 0, b, hb, hd => by simp [actB] at hb; subst hb; exact absurd rfl hd
  | _ :: r, none :: q, k + 1, b, hb, hd => by
    have := actB_get r q k b (by simpa [actB] using hb) hd
    simpa using this

theorem actB_of : ∀ (h : List Blk) (ch : List (Option Blk)) (k : Nat) (b : Blk), ch[k]? = some (some b) → k < h.length → (actB h ch)[k]? = some b
  | [], _, k, b, _, hk => by simp at hk
  | _ :: r, [], k, b, h, _ => by simp at h
  | _ :: r, some c :: q, 0, b, h, _ => by simp at h; subst h; simp [actB]
  | _ :: r, some c :: q, k + 1, b, h, hk => by simp only [actB, List.getElem?_cons_succ]; exact actB_of r q k b (by simpa using h) (by simpa using hk)
  | _ :: r, none :: q, 0, b, h, _ => by simp at h
  | _ :: r, none :: q, k + 1, b, h, hk => by simp only [actB, List.getElem?_cons_succ]; exact actB_of r q k b (by simpa using h) (by simpa using hk)

/-- Behind a call. -/
structure HPost (m m2 : List Pl) (h : List Blk) (ch : List (Option Blk)) (nw : List Blk) (w w' : World) : Prop where
  tie : HTie (m ++ m2) (actB h ch ++ nw) w'
  os : w'.os = w.os
  tape : w'.tape = w.tape
  output : w'.output = w.output
  size : w.heap.size ≤ w'.heap.size
  kept : ∀ b, b < w.heap.size → (∀ (k : Nat) (p : Pl) (c : Blk), ch[k]? = some (some c) → m[k]? = some p → p.nil = false → p.blk ≠ b) → w'.heap[b]? = w.heap[b]?
  kinds : ∀ (j : Nat) (p : Pl) (c : Blk), m2[j]? = some p → nw[j]? = some c → c.k.wr = true → p.nil = false →
    (∃ (k : Nat) (q : Pl) (c0 : Blk), ch[k]? = some (some c0) ∧ m[k]? = some q ∧ q.nil = false ∧ q.blk = p.blk) ∨ w.heap.size ≤ p.blk
  src : ∀ (j : Nat) (p : Pl) (c : Blk), m2[j]? = some p → nw[j]? = some c → c.k ≠ .dead → p.nil = false → (∃ (k : Nat) (q : Pl) (c0 : Blk), m[k]? = some q ∧ h[k]? = some c0 ∧ c0.k ≠ .dead ∧ q.nil = false ∧ q.blk = p.blk) ∨ w.heap.size ≤ p.blk

/-- What is known of a function that is called with blocks. -/
def GOk (G : List Nat) (m : List Pl) : Prop := ∀ (i g : Nat), G[i]? = some g → ∃ p, m[i]? = some p ∧ p.nil = false ∧ p.blk = g ∧ p.off = 0

def HCon (P : Program) (G : List Nat) (f : FuncId) (F : HF) : Prop := ∀ (args : List SV) (h : List Blk) (v : SV) (ch : List (Option Blk)) (nw : List Blk), F args h = ⟨true, v, ch, nw⟩ →
  ∀ (m : List Pl) (us : List Value) (w : World), HTie m h w → SV.vals m args = some us → GOk G m →
    ∃ fn, P.funcs[f]? = some fn ∧ fn.body.isSome = true ∧ (fn.name == "runtime.NumGoroutine") = false ∧
      Calls P f us.toArray w fun e w' => ∃ u m2, e = .returned u ∧ v.val (m ++ m2) = some u ∧ HPost m m2 h ch nw w w'

def DOk (P : Program) (G : List Nat) (Δ : HCons) : Prop := ∀ f F, Δ f = some F → HCon P G f F

theorem memB_iff {x : Nat} : ∀ {l : List Nat}, memB x l = true ↔ x ∈ l
  | [] => by simp [memB]
  | y :: r => by
    simp only [memB, List.mem_cons]
    cases hb : Nat.beq y x with
    | true =>
      have : y = x := by simpa using hb
      subst this; simp
    | false =>
      have : x ≠ y := by intro e; subst e; simp at hb
      simp [this, memB_iff (l := r)]

theorem nodupB_spec : ∀ {l : List Nat}, nodupB l = true → l.Nodup
  | [], _ => List.nodup_nil
  | x :: r, h => by
    simp only [nodupB] at h
    split at h
    · cases h
    · rename_i hm
      refine List.nodup_cons.2 ⟨fun e => ?_, nodupB_spec h⟩
      rw [memB_iff.2 e] at hm; cases hm

theorem posn_get : ∀ {l : List Nat} {x : Nat}, posn l x < l.length → l[posn l x]? = some x
  | [], x, h => by simp [posn] at h
  | y :: r, x, h => by
    simp only [posn] at h ⊢
    cases hb : Nat.beq y x with
    | true =>
      have : y = x := by simpa using hb
      subst this; simp
    | false =>
      rw [hb] at h
      simp only at h ⊢
      rw [List.getElem?_cons_succ]
      exact posn_get (by simpa using h)

theorem Cs.idsB_get {n : Nat} : ∀ {c : Cs}, c.idsB n = true → ∀ i, (c.get i).idsLt n = true
  | .lit l, h, i => by
    simp only [Cs.idsB] at h
    simp only [Cs.get]
    induction l generalizing i with
    | nil => simp [SV.idsLt]
    | cons v r ih =>
      obtain ⟨h1, h2⟩ := idsLts_cons.1 h
      cases i with
      | zero => simpa using h1
      | succ i => simpa using ih h2 i
  | .ints _ _, _, i => rfl
  | .recs ks l, _, i => by simp only [Cs.get]; unfold cellK; split <;> rfl
  | .cat n' a b, h, i => by
    simp only [Cs.idsB, Bool.and_eq_true] at h
    simp only [Cs.get]
    split
    · exact Cs.idsB_get h.1 i
    · exact Cs.idsB_get h.2 _

theorem Cs.wf_ren (f : Nat → Nat) : ∀ {c : Cs}, c.wf → (c.ren f).wf
  | .lit _, _ => trivial
  | .ints _ _, _ => trivial
  | .recs _ _, _ => trivial
  | .cat n a b, h => ⟨by rw [Cs.size_ren]; exact h.1, Cs.wf_ren f h.2.1, Cs.wf_ren f h.2.2⟩

/-- A block's facts, by other numbers. -/
theorem Holds.ren {m m' : List Pl} {w : World} {p : Pl} {b : Blk} (hh : Holds m w p b) {f : Nat → Nat} (h : ∀ i v, i < b.c.size → (b.c.get i).val m = some v → ((b.c.get i).ren f).val m' = some v) : Holds m' w p (b.ren f) := by
  have hs : (b.ren f).c.size = b.c.size := Cs.size_ren f b.c
  have hk : (b.ren f).k = b.k := rfl
  refine ⟨Cs.wf_ren f hh.wf, fun e => by rw [hs, hk]; exact hh.nl e, hh.lt, fun i hi => ?_, fun e i hi => hh.wr e i (by rw [← hs]; exact hi), hh.z, fun es e e' => by rw [hs]; exact hh.fu es e e', fun es e e' => by rw [hs]; exact hh.sp es e e'⟩
  rw [hs] at hi
  obtain ⟨v, h1, h2, h3⟩ := hh.cells i hi
  exact ⟨v, by simp only [Blk.ren, Cs.get_ren]; exact h i v hi h1, h2, h3⟩

theorem putCh_length (g : Nat → Nat) (fr : Bool) : ∀ (ids : List Nat) (ch : List (Option Blk)) (h : List Blk), (putCh g fr ids ch h).length = h.length
  | [], _, h => by simp [putCh]
  | id :: r, [], h => by simp only [putCh]; split <;> rw [putCh_length g _ r] <;> simp
  | id :: r, some b :: q, h => by simp only [putCh]; rw [putCh_length g fr r]; simp
  | id :: r, none :: q, h => by simp only [putCh]; split <;> rw [putCh_length g _ r] <;> simp

theorem putCh_out (g : Nat → Nat) (fr : Bool) {j : Nat} : ∀ (ids : List Nat) (ch : List (Option Blk)) (h : List Blk), j ∉ ids → (putCh g fr ids ch h)[j]? = h[j]?
  | [], _, h, _ => by simp [putCh]
  | id :: r, ch, h, hj => by
    have hne : id ≠ j := fun e => hj (by simp [e])
    have hr : j ∉ r := fun e => hj (by simp [e])
    have hset : ∀ x : Blk, (h.set id x)[j]? = h[j]? := fun x => by rw [List.getElem?_set, if_neg hne]
    match ch with
    | [] => simp only [putCh]; split <;> rw [putCh_out g _ r _ _ hr] <;> first | exact hset _ | rfl
    | some b :: q => simp only [putCh]; rw [putCh_out g fr r _ _ hr]; exact hset _
    | none :: q => simp only [putCh]; split <;> rw [putCh_out g _ r _ _ hr] <;> first | exact hset _ | rfl

theorem blkAt_set {h : List Blk} {i j : Nat} {x : Blk} (hne : i ≠ j) : blkAt (h.set i x) j = blkAt h j := by
  unfold blkAt; rw [List.getD_eq_getElem?_getD, List.getD_eq_getElem?_getD, List.getElem?_set, if_neg hne]

theorem putCh_in (g : Nat → Nat) (fr : Bool) {j : Nat} : ∀ (ids : List Nat) (ch : List (Option Blk)) (h : List Blk), ids.Nodup → (∀ id ∈ ids, id < h.length) → ∀ (k : Nat), ids[k]? = some j →
    (putCh g fr ids ch h)[j]? = some (match ch[k]? with
      | some (some b) => Blk.ren g b
      | _ => match fr with
        | true => (blkAt h j).frz
        | false => blkAt h j)
  | [], _, h, _, _, k, hk => by simp at hk
  | id :: r, ch, h, hn, hl, k, hk => by
    obtain ⟨hn1, hn2⟩ := List.nodup_cons.1 hn
    have hid := hl id (by simp)
    cases k with
    | zero =>
      have : id = j := by simpa using hk
      subst this
      match ch with
      | [] =>
        simp only [putCh]
        split
        · rw [putCh_out g _ r _ _ hn1, List.getElem?_set, if_pos rfl, if_pos hid]; rfl
        · rw [putCh_out g _ r _ _ hn1]
          have : h[id]? = some (blkAt h id) := by unfold blkAt; rw [List.getD_eq_getElem?_getD, List.getElem?_eq_getElem hid]; rfl
          rw [this]; rfl
      | some b :: q => simp only [putCh]; rw [putCh_out g fr r _ _ hn1, List.getElem?_set, if_pos rfl, if_pos hid]; rfl
      | none :: q =>
        simp only [putCh]
        split
        · rw [putCh_out g _ r _ _ hn1, List.getElem?_set, if_pos rfl, if_pos hid]; rfl
        · rw [putCh_out g _ r _ _ hn1]
          have : h[id]? = some (blkAt h id) := by unfold blkAt; rw [List.getD_eq_getElem?_getD, List.getElem?_eq_getElem hid]; rfl
          rw [this]; rfl
    | succ k =>
      have hk' : r[k]? = some j := by simpa using hk
      have hne : id ≠ j := fun e => hn1 (by rw [e]; exact List.mem_of_getElem? hk')
      have hl1 : ∀ (x : Blk), ∀ id' ∈ r, id' < (h.set id x).length := fun x id' hi => by rw [List.length_set]; exact hl id' (by simp [hi])
      have hl2 : ∀ id' ∈ r, id' < h.length := fun id' hi => hl id' (by simp [hi])
      match ch with
      | [] =>
        simp only [putCh]
        split
        · have := putCh_in g true r [] (h.set id (blkAt h id).frz) hn2 (hl1 _) k hk'
          rw [this, blkAt_set hne]; simp
        · have := putCh_in g false r [] h hn2 hl2 k hk'
          rw [this]; simp
      | some b :: q =>
        simp only [putCh, List.getElem?_cons_succ]
        rw [putCh_in g fr r q _ hn2 (hl1 _) k hk', blkAt_set hne]
      | none :: q =>
        simp only [putCh, List.getElem?_cons_succ]
        split
        · rw [putCh_in g true r q _ hn2 (hl1 _) k hk', blkAt_set hne]
        · rw [putCh_in g false r q _ hn2 hl2 k hk']

theorem mayCh_spec {h : List Blk} : ∀ {ids : List Nat} {ch : List (Option Blk)}, mayCh h ids ch = true → ∀ (k : Nat) (b : Blk), ch[k]? = some (some b) → ∃ id, ids[k]? = some id ∧ (blkAt h id).may = true
  | _, [], _, k, b, hb => by simp at hb
  | [], some _ :: _, h, k, b, hb => by simp [mayCh] at h
  | [], none :: q, h, k, b, hb => by
    cases k with
    | zero => simp at hb
    | succ k =>
      obtain ⟨id, h1, _⟩ := mayCh_spec (ids := []) (by simpa [mayCh] using h) k b (by simpa using hb)
      simp at h1
  | id :: r, some c :: q, h, k, b, hb => by
    simp only [mayCh, Bool.and_eq_true] at h
    cases k with
    | zero => exact ⟨id, by simp, h.1⟩
    | succ k => simpa using mayCh_spec h.2 k b (by simpa using hb)
  | id :: r, none :: q, h, k, b, hb => by
    simp only [mayCh] at h
    cases k with
    | zero => simp at hb
    | succ k => simpa using mayCh_spec h k b (by simpa using hb)

theorem nodup_inj : ∀ {l : List Nat}, l.Nodup → ∀ {k k' x : Nat}, l[k]? = some x → l[k']? = some x → k = k'
  | [], _, k, k', x, h, _ => by simp at h
  | y :: r, hn, k, k', x, h, h' => by
    obtain ⟨h1, h2⟩ := List.nodup_cons.1 hn
    cases k with
    | zero =>
      cases k' with
      | zero => rfl
      | succ k' =>
        simp at h h'
        subst h
        exact absurd (List.mem_of_getElem? h') h1
    | succ k =>
      cases k' with
      | zero =>
        simp at h h'
        subst h'
        exact absurd (List.mem_of_getElem? h) h1
      | succ k' =>
        simp at h h'
        rw [nodup_inj h2 h h']

def nilPl : Pl := ⟨0, 0, 0, true⟩

/-- What is handed in, by itself. -/
theorem tie_local {M : List Pl} {h : List Blk} {w : World} (H : HTie M h w) {ids : List Nat} (hn : ids.Nodup) (hl : ∀ id ∈ ids, id < h.length) (hids : ∀ id ∈ ids, ((blkAt h id).ren (posn ids)).c.idsB ids.length = true) :
    HTie (ids.map fun id => M.getD id nilPl) (ids.map fun id => (blkAt h id).ren (posn ids)) w ∧
      (∀ (k : Nat) (p : Pl), (ids.map fun id => M.getD id nilPl)[k]? = some p → ∃ id, ids[k]? = some id ∧ M[id]? = some p) ∧
      (∀ i, posn ids i < ids.length → (ids.map fun id => M.getD id nilPl)[posn ids i]? = M[i]?) := by
  have hM : ∀ id ∈ ids, M[id]? = some (M.getD id nilPl) := fun id hi => by
    have : id < M.length := by rw [H.len]; exact hl id hi
    rw [List.getD_eq_getElem?_getD, List.getElem?_eq_getElem this]; rfl
  have hB : ∀ id ∈ ids, h[id]? = some (blkAt h id) := fun id hi => by
    unfold blkAt; rw [List.getD_eq_getElem?_getD, List.getElem?_eq_getElem (hl id hi)]; rfl
  have e1 : ∀ (k : Nat) (p : Pl), (ids.map fun id => M.getD id nilPl)[k]? = some p → ∃ id, ids[k]? = some id ∧ M[id]? = some p := fun k p hp => by
    rw [List.getElem?_map] at hp
    simp only [Option.map_eq_some_iff] at hp
    obtain ⟨id, h1, h2⟩ := hp
    exact ⟨id, h1, by rw [← h2]; exact hM id (List.mem_of_getElem? h1)⟩
  have e2 : ∀ i, posn ids i < ids.length → (ids.map fun id => M.getD id nilPl)[posn ids i]? = M[i]? := fun i hi => by
    have := posn_get hi
    rw [List.getElem?_map, this]
    simp only [Option.map_some]
    exact (hM i (List.mem_of_getElem? this)).symm
  have e3 : ∀ (k : Nat) (b : Blk), (ids.map fun id => (blkAt h id).ren (posn ids))[k]? = some b → ∃ id, ids[k]? = some id ∧ id ∈ ids ∧ h[id]? = some (blkAt h id) ∧ b = (blkAt h id).ren (posn ids) := fun k b hb => by
    rw [List.getElem?_map] at hb
    simp only [Option.map_eq_some_iff] at hb
    obtain ⟨id, h1, h2⟩ := hb
    exact ⟨id, h1, List.mem_of_getElem? h1, hB id (List.mem_of_getElem? h1), h2.symm⟩
  refine ⟨⟨by simp, fun k p b hp hb hd => ?_, fun k k' p q b c hkk hp hq hb hc hbd hcd hpn hqn hw => ?_⟩, e1, e2⟩
  · obtain ⟨id, h1, h2⟩ := e1 k p hp
    obtain ⟨id', h3, h4, h5, rfl⟩ := e3 k b hb
    rw [h1] at h3; cases h3
    refine (H.holds id p _ h2 h5 hd).ren (fun i v hi hv => ?_)
    have hlt := Cs.idsB_get (hids id h4) i
    simp only [Blk.ren, Cs.get_ren] at hlt
    rw [SV.ren_val (m := M) (n := ids.length) e2 _ hlt]; exact hv
  · obtain ⟨id, h1, h2⟩ := e1 k p hp
    obtain ⟨id', h3, h4, h5, rfl⟩ := e3 k b hb
    rw [h1] at h3; cases h3
    obtain ⟨jd, g1, g2⟩ := e1 k' q hq
    obtain ⟨jd', g3, g4, g5, rfl⟩ := e3 k' c hc
    rw [g1] at g3; cases g3
    refine H.apart id jd p q _ _ (fun e => hkk ?_) h2 g2 h5 g5 hbd hcd hpn hqn hw
    exact nodup_inj hn h1 (e ▸ g1)

theorem back_lt {ids : List Nat} {hl k : Nat} (h : k < ids.length) : ids[k]? = some (back ids hl k) := by
  unfold back
  have : Nat.ble (k + 1) ids.length = true := by rw [Nat.ble_eq]; exact h
  rw [this]
  simp only
  rw [List.getD_eq_getElem?_getD, List.getElem?_eq_getElem h]; rfl
theorem back_ge {ids : List Nat} {hl k : Nat} (h : ids.length ≤ k) : back ids hl k = hl + (k - ids.length) := by
  unfold back
  have : Nat.ble (k + 1) ids.length = false := by
    cases hb : Nat.ble (k + 1) ids.length with
    | false => rfl
    | true => have := Nat.le_of_ble_eq_true hb; omega
  rw [this]

/-- A call's blocks, back among the caller's. -/
theorem call_back {M m2 : List Pl} {h : List Blk} {w w' : World} (H : HTie M h w) {ids : List Nat} {ch : List (Option Blk)} {nw : List Blk} (hn : ids.Nodup) (hl : ∀ id ∈ ids, id < h.length) (hmay : mayCh h ids ch = true)
    (hp : HPost (ids.map fun id => M.getD id nilPl) m2 (ids.map fun id => (blkAt h id).ren (posn ids)) ch nw w w') :
    HTie (M ++ m2) (putCh (back ids h.length) (nw.any fun b => !b.may) ids ch h ++ nw.map (fun b => b.ren (back ids h.length))) w' ∧
      Ext M (M ++ m2) h (putCh (back ids h.length) (nw.any fun b => !b.may) ids ch h ++ nw.map (fun b => b.ren (back ids h.length))) w w' ∧
      (∀ (v : SV) (u : Value), v.val ((ids.map fun id => M.getD id nilPl) ++ m2) = some u → (v.ren (back ids h.length)).val (M ++ m2) = some u) := by
  have hM : ∀ id ∈ ids, M[id]? = some (M.getD id nilPl) := fun id hi => by
    have : id < M.length := by rw [H.len]; exact hl id hi
    rw [List.getD_eq_getElem?_getD, List.getElem?_eq_getElem this]; rfl
  have hB : ∀ id ∈ ids, h[id]? = some (blkAt h id) := fun id hi => by
    unfold blkAt; rw [List.getD_eq_getElem?_getD, List.getElem?_eq_getElem (hl id hi)]; rfl
  have e1 : ∀ (k : Nat) (p : Pl), (ids.map fun id => M.getD id nilPl)[k]? = some p → ∃ id, ids[k]? = some id ∧ M[id]? = some p := fun k p hp => by
    rw [List.getElem?_map] at hp
    simp only [Option.map_eq_some_iff] at hp
    obtain ⟨id, h1, h2⟩ := hp
    exact ⟨id, h1, by rw [← h2]; exact hM id (List.mem_of_getElem? h1)⟩
  have e1' : ∀ (k id : Nat) (p : Pl), ids[k]? = some id → M[id]? = some p → (ids.map fun id => M.getD id nilPl)[k]? = some p := fun k id p h1 h2 => by
    rw [List.getElem?_map, h1]
    simp only [Option.map_some]
    rw [← hM id (List.mem_of_getElem? h1)]; exact h2
  -- the numbers back
  have hg : ∀ (k : Nat) (p : Pl), ((ids.map fun id => M.getD id nilPl) ++ m2)[k]? = some p → (M ++ m2)[back ids h.length k]? = some p := fun k p hk => by
    rcases Nat.lt_or_ge k ids.length with hlt | hge
    · rw [List.getElem?_append_left (by simpa using hlt)] at hk
      obtain ⟨id, h1, h2⟩ := e1 k p hk
      have := back_lt (hl := h.length) hlt
      rw [h1] at this
      simp only [Option.some.injEq] at this
      rw [← this]
      exact getElem?_pre (List.prefix_append _ _) h2
    · rw [List.getElem?_append_right (by simpa using hge)] at hk
      rw [back_ge hge, List.getElem?_append_right (by rw [H.len]; omega), H.len, Nat.add_sub_cancel_left]
      simpa using hk
  have hval : ∀ (v : SV) (u : Value), v.val ((ids.map fun id => M.getD id nilPl) ++ m2) = some u → (v.ren (back ids h.length)).val (M ++ m2) = some u := fun v u hv => SV.val_ren hg v hv
  obtain ⟨fr, hfr⟩ : ∃ fr, fr = (nw.any fun b => !b.may) := ⟨_, rfl⟩
  rw [← hfr]
  have hml : m2.length = nw.length := by
    have := hp.tie.len
    simp [actB_length] at this
    exact this
  -- what a block of the caller's is behind the call
  have old : ∀ (i : Nat) (b : Blk), (putCh (back ids h.length) fr ids ch h)[i]? = some b →
      (∃ (k : Nat) (c : Blk), ids[k]? = some i ∧ ch[k]? = some (some c) ∧ b = c.ren (back ids h.length)) ∨
      ((∀ (k : Nat) (c : Blk), ids[k]? = some i → ch[k]? ≠ some (some c)) ∧ ∃ b0, h[i]? = some b0 ∧ (b = b0 ∨ b = b0.frz) ∧ (fr = true → i ∈ ids → b = b0.frz)) := fun i b hb => by
    by_cases hi : i ∈ ids
    · obtain ⟨k, hk⟩ := List.mem_iff_getElem?.1 hi
      rw [putCh_in _ _ ids ch h hn hl k hk] at hb
      simp only [Option.some.injEq] at hb
      cases hc : ch[k]? with
      | none =>
        rw [hc] at hb
        right
        refine ⟨fun k' c h1 h2 => ?_, blkAt h i, hB i hi, ?_, fun e _ => ?_⟩
        · rw [nodup_inj hn h1 hk] at h2; rw [hc] at h2; cases h2
        · cases hf : fr <;> rw [hf] at hb <;> simp only at hb
          · exact .inl hb.symm
          · exact .inr hb.symm
        · rw [e] at hb; exact hb.symm
      | some o =>
        cases o with
        | some c => rw [hc] at hb; exact .inl ⟨k, c, hk, hc, hb.symm⟩
        | none =>
          rw [hc] at hb
          right
          refine ⟨fun k' c h1 h2 => ?_, blkAt h i, hB i hi, ?_, fun e _ => ?_⟩
          · rw [nodup_inj hn h1 hk] at h2; rw [hc] at h2; cases h2
          · cases hf : fr <;> rw [hf] at hb <;> simp only at hb
            · exact .inl hb.symm
            · exact .inr hb.symm
          · rw [e] at hb; exact hb.symm
    · rw [putCh_out _ _ ids ch h hi] at hb
      exact .inr ⟨fun k c h1 _ => hi (List.mem_of_getElem? h1), b, hb, .inl rfl, fun _ h' => absurd h' hi⟩
  -- those that turned could be written
  have chg : ∀ (k : Nat) (c : Blk) (p : Pl), ch[k]? = some (some c) → (ids.map fun id => M.getD id nilPl)[k]? = some p → ∃ id, ids[k]? = some id ∧ M[id]? = some p ∧ h[id]? = some (blkAt h id) ∧ (blkAt h id).k.wr = true := fun k c p h1 h2 => by
    obtain ⟨id, g1, g2⟩ := mayCh_spec hmay k c h1
    obtain ⟨id', g3, g4⟩ := e1 k p h2
    rw [g1] at g3; cases g3
    exact ⟨id, g1, g4, hB id (List.mem_of_getElem? g1), may_wr g2⟩
  have frzwr : ∀ {b b0 : Blk}, (b = b0 ∨ b = b0.frz) → b.k.wr = true → b0.k.wr = true := fun hb hw => by
    rcases hb with rfl | rfl
    · exact hw
    · rw [frz_wr] at hw; cases hw
  have frzlive : ∀ {b b0 : Blk}, (b = b0 ∨ b = b0.frz) → b.k ≠ .dead → b0.k ≠ .dead := fun hb hd e => by
    rcases hb with rfl | rfl
    · exact hd e
    · apply hd; unfold Blk.frz; rw [e]; exact e
  -- a block that did not turn lies where nothing was written
  have still : ∀ (i : Nat) (p : Pl) (b0 : Blk), M[i]? = some p → h[i]? = some b0 → b0.k ≠ .dead → p.nil = false → (∀ (k : Nat) (c : Blk), ids[k]? = some i → ch[k]? ≠ some (some c)) → w'.heap[p.blk]? = w.heap[p.blk]? := fun i p b0 h1 h2 h3 h4 h5 => by
    refine hp.kept _ ((H.holds i p b0 h1 h2 h3).lt h4) (fun k q c g1 g2 g3 e => ?_)
    obtain ⟨id, f1, f2, f3, f4⟩ := chg k c q g1 g2
    have hne : id ≠ i := fun e' => h5 k c (e' ▸ f1) g1
    exact H.apart id i q p _ b0 hne f2 h1 f3 h2 (by intro e; rw [e] at f4; cases f4) h3 g3 h4 (.inl f4) e
  -- where a block lies that turned, or is new
  have act : ∀ (i : Nat) (p : Pl) (b : Blk), (M ++ m2)[i]? = some p → (putCh (back ids h.length) fr ids ch h ++ nw.map (fun b => b.ren (back ids h.length)))[i]? = some b → b.k ≠ .dead →
      (∃ (k : Nat) (c : Blk), back ids h.length k = i ∧ ((ids.map fun id => M.getD id nilPl) ++ m2)[k]? = some p ∧ (actB (ids.map fun id => (blkAt h id).ren (posn ids)) ch ++ nw)[k]? = some c ∧ b = c.ren (back ids h.length) ∧
        ((∃ id, ids[k]? = some id ∧ i = id ∧ M[id]? = some p ∧ ch[k]? = some (some c)) ∨ (ids.length ≤ k ∧ i = h.length + (k - ids.length) ∧ m2[k - ids.length]? = some p ∧ nw[k - ids.length]? = some c))) ∨
      (i < h.length ∧ M[i]? = some p ∧ (∀ (k : Nat) (c : Blk), ids[k]? = some i → ch[k]? ≠ some (some c)) ∧ ∃ b0, h[i]? = some b0 ∧ (b = b0 ∨ b = b0.frz) ∧ (fr = true → i ∈ ids → b = b0.frz)) := fun i p b hp' hb hd => by
    rcases Nat.lt_or_ge i h.length with hi | hi
    · rw [List.getElem?_append_left (by rw [putCh_length]; exact hi)] at hb
      rw [List.getElem?_append_left (by rw [H.len]; exact hi)] at hp'
      rcases old i b hb with ⟨k, c, h1, h2, rfl⟩ | ⟨h1, h2⟩
      · left
        have hk := (List.getElem?_eq_some_iff.1 h1).1
        have hbk := back_lt (hl := h.length) hk
        rw [h1] at hbk
        simp only [Option.some.injEq] at hbk
        refine ⟨k, c, hbk.symm, ?_, ?_, rfl, .inl ⟨i, h1, rfl, hp', h2⟩⟩
        · rw [List.getElem?_append_left (by simpa using hk)]; exact e1' k i p h1 hp'
        · rw [List.getElem?_append_left (by rw [actB_length]; simpa using hk)]
          exact actB_of _ _ k c h2 (by simpa using hk)
      · exact .inr ⟨hi, hp', h1, h2⟩
    · left
      rw [List.getElem?_append_right (by rw [putCh_length]; exact hi), putCh_length, List.getElem?_map] at hb
      simp only [Option.map_eq_some_iff] at hb
      obtain ⟨c, hc, rfl⟩ := hb
      rw [List.getElem?_append_right (by rw [H.len]; exact hi), H.len] at hp'
      refine ⟨ids.length + (i - h.length), c, ?_, ?_, ?_, rfl, .inr ⟨by omega, by omega, ?_, ?_⟩⟩
      · rw [back_ge (by omega)]; omega
      · rw [List.getElem?_append_right (by simp)]; simpa using hp'
      · rw [List.getElem?_append_right (by simp [actB_length]), actB_length]; simpa using hc
      · rw [Nat.add_sub_cancel_left]; exact hp'
      · rw [Nat.add_sub_cancel_left]; exact hc
  refine ⟨⟨by simp [putCh_length, hml, H.len], fun i p b hp' hb hd => ?_, fun i j p q b c hij hp' hq hb hc hbd hcd hpn hqn hw => ?_⟩, ?_, hval⟩
  · rcases act i p b hp' hb hd with ⟨k, c, hbk, h1, h2, rfl, _⟩ | ⟨hi, h1, h2, b0, h3, h4, _⟩
    · exact (hp.tie.holds k p c h1 h2 hd).ren (fun j v _ hv => hval _ v hv)
    · have hh := H.holds i p b0 h1 h3 (frzlive h4 hd)
      have hs := (hh.mono (List.prefix_append M m2)).same (fun hn' => still i p b0 h1 h3 (frzlive h4 hd) hn' h2)
      rcases h4 with rfl | rfl
      · exact hs
      · unfold Blk.frz
        cases hk : b0.k with
        | var => exact ⟨hs.wf, fun e => ⟨(hs.nl e).1, (hs.nl e).2.1, by simp⟩, hs.lt, hs.cells, fun e => absurd e (by simp [BK.wr]), fun e => absurd e (by simp [BK.wr]), fun es e => absurd e (by simp), fun es e => absurd e (by simp)⟩
        | row es => exact ⟨hs.wf, fun e => ⟨(hs.nl e).1, (hs.nl e).2.1, by simp⟩, hs.lt, hs.cells, fun e => absurd e (by simp [BK.wr]), fun e => absurd e (by simp [BK.wr]), fun es e => absurd e (by simp), fun es e => absurd e (by simp)⟩
        | _ => simp only; exact hs
  · -- two of them
    have mixed : ∀ (i j : Nat) (p q : Pl) (b c : Blk), i ≠ j → p.nil = false → q.nil = false → b.k ≠ .dead → c.k ≠ .dead → (b.k.wr = true ∨ c.k.wr = true) →
        (∃ (k : Nat) (d : Blk), b = d.ren (back ids h.length) ∧ ((∃ id, ids[k]? = some id ∧ i = id ∧ M[id]? = some p ∧ ch[k]? = some (some d)) ∨ (ids.length ≤ k ∧ i = h.length + (k - ids.length) ∧ m2[k - ids.length]? = some p ∧ nw[k - ids.length]? = some d))) →
        (j < h.length ∧ M[j]? = some q ∧ (∀ (k : Nat) (c : Blk), ids[k]? = some j → ch[k]? ≠ some (some c)) ∧ ∃ b0, h[j]? = some b0 ∧ (c = b0 ∨ c = b0.frz) ∧ (fr = true → j ∈ ids → c = b0.frz)) → p.blk ≠ q.blk := fun i j p q b c hij hpn hqn hbd hcd hw ⟨k, d, hbe, ha⟩ ⟨hj, g1, g2, b0, g3, g4, g5⟩ => by
      have hb0 := frzlive g4 hcd
      rcases ha with ⟨id, f1, rfl, f3, f4⟩ | ⟨f1, f2, f3, f4⟩
      · obtain ⟨id', k1, k2, k3, k4⟩ := chg k d p f4 (e1' k i p f1 f3)
        rw [f1] at k1; cases k1
        exact H.apart i j p q _ b0 hij k2 g1 k3 g3 (by intro e; rw [e] at k4; cases k4) hb0 hpn hqn (.inl k4)
      · have hlt := (H.holds j q b0 g1 g3 hb0).lt hqn
        have dk : d.k = b.k := by rw [hbe]; rfl
        by_cases hdw : d.k.wr = true
        · rcases hp.kinds _ p d f3 f4 hdw hpn with ⟨k', q', c0, k1, k2, k3, k4⟩ | k1
          · obtain ⟨id', l1, l2, l3, l4⟩ := chg k' c0 q' k1 k2
            have hne : id' ≠ j := fun e => g2 k' c0 (e ▸ l1) k1
            rw [← k4]
            exact H.apart id' j q' q _ b0 hne l2 g1 l3 g3 (by intro e; rw [e] at l4; cases l4) hb0 k3 hqn (.inl l4)
          · omega
        · have hcw : c.k.wr = true := hw.resolve_left (by rw [← dk]; exact hdw)
          have hb0w := frzwr g4 hcw
          have hfrt : fr = true := by
            rw [hfr]
            refine List.any_eq_true.2 ⟨d, List.mem_of_getElem? f4, ?_⟩
            have : d.may = false := by
              cases hm : d.may with
              | false => rfl
              | true => exact absurd (may_wr hm) hdw
            rw [this]; rfl
          rcases hp.src _ p d f3 f4 (by rw [dk]; exact hbd) hpn with ⟨k', q', d0, k1, k0, k00, k2, k3⟩ | k1
          · obtain ⟨id', l1, l2⟩ := e1 k' q' k1
            have hdl : (blkAt h id').k ≠ .dead := by
              rw [List.getElem?_map, l1] at k0
              simp only [Option.map_some, Option.some.injEq] at k0
              rw [← k0] at k00
              exact k00
            by_cases hne : id' = j
            · subst hne
              have := g5 hfrt (List.mem_of_getElem? l1)
              rw [this, frz_wr] at hcw; cases hcw
            · rw [← k3]
              intro e
              have hb' := hB id' (List.mem_of_getElem? l1)
              exact H.apart id' j q' q _ b0 hne l2 g1 hb' g3 hdl hb0 k2 hqn (.inr hb0w) e
          · omega
    rcases act i p b hp' hb hbd with ⟨k, d, hbk, h1, h2, rfl, h3⟩ | hs1 <;> rcases act j q c hq hc hcd with ⟨k', d', hbk', h1', h2', rfl, h3'⟩ | hs2
    · exact hp.tie.apart k k' p q d d' (fun e => hij (by rw [← hbk, ← hbk', e])) h1 h1' h2 h2' hbd hcd hpn hqn hw
    · exact mixed i j p q _ c hij hpn hqn hbd hcd hw ⟨k, d, rfl, h3⟩ hs2
    · exact (mixed j i q p _ b (Ne.symm hij) hqn hpn hcd hbd hw.symm ⟨k', d', rfl, h3'⟩ hs1).symm
    · obtain ⟨hi, g1, g2, b0, g3, g4, g5⟩ := hs1
      obtain ⟨hj, k1, k2, c0, k3, k4, k5⟩ := hs2
      exact H.apart i j p q b0 c0 hij g1 k1 g3 k3 (frzlive g4 hbd) (frzlive k4 hcd) hpn hqn (hw.imp (frzwr g4) (frzwr k4))
  · refine ⟨List.prefix_append _ _, hp.os, hp.tape, hp.output, hp.size, fun b hb hno => hp.kept b hb (fun k p c h1 h2 h3 => ?_), fun i p c hp' hc hk hn' => ?_, fun i p c hp' hc hk hn' => ?_⟩
    · obtain ⟨id, g1, g2, g3, g4⟩ := chg k c p h1 h2
      exact hno id p _ g2 g3 g4 h3
    · have hcd : c.k ≠ .dead := by intro e; rw [e] at hk; cases hk
      rcases act i p c hp' hc hcd with ⟨k, d, _, h1, h2, rfl, h3⟩ | ⟨hi, g1, g2, b0, g3, g4, _⟩
      · rcases h3 with ⟨id, f1, rfl, f3, f4⟩ | ⟨f1, f2, f3, f4⟩
        · obtain ⟨id', k1, k2, k3, k4⟩ := chg k d p f4 (e1' k i p f1 f3)
          rw [f1] at k1; cases k1
          exact .inl ⟨i, p, _, k2, k3, k4, hn', rfl⟩
        · rcases hp.kinds _ p d f3 f4 hk hn' with ⟨k', q', c0, k1, k2, k3, k4⟩ | k1
          · obtain ⟨id', l1, l2, l3, l4⟩ := chg k' c0 q' k1 k2
            exact .inl ⟨id', q', _, l2, l3, l4, k3, k4⟩
          · exact .inr k1
      · exact .inl ⟨i, p, b0, g1, g3, frzwr g4 hk, hn', rfl⟩
    · rcases act i p c hp' hc hk with ⟨k, d, _, h1, h2, rfl, h3⟩ | ⟨hi, g1, g2, b0, g3, g4, _⟩
      · rcases h3 with ⟨id, f1, rfl, f3, f4⟩ | ⟨f1, f2, f3, f4⟩
        · obtain ⟨id', k1, k2, k3, k4⟩ := chg k d p f4 (e1' k i p f1 f3)
          rw [f1] at k1; cases k1
          exact .inl ⟨i, p, _, k2, k3, (by intro e; rw [e] at k4; cases k4), hn', rfl⟩
        · rcases hp.src _ p d f3 f4 hk hn' with ⟨k', q', c0, k1, k0, k00, k2, k3⟩ | k1
          · obtain ⟨id', l1, l2⟩ := e1 k' q' k1
            rw [List.getElem?_map, l1] at k0
            simp only [Option.map_some, Option.some.injEq] at k0
            rw [← k0] at k00
            exact .inl ⟨id', q', _, l2, hB id' (List.mem_of_getElem? l1), k00, k2, k3⟩
          · exact .inr k1
      · exact .inl ⟨i, p, b0, g1, g3, frzlive g4 hk, hn', rfl⟩

section calls
variable {P : Program} {m : List Pl} {S : St} {a : Act} {w : World}

theorem vals_ne_bad : ∀ {l : List SV} {us : List Value}, SV.vals m l = some us → ∀ v ∈ l, v ≠ .bad
  | x :: r, us, e, v, hv => by
    simp only [SV.vals, Option.bind_eq_some_iff, Option.map_eq_some_iff] at e
    obtain ⟨u, hu, b, hb, rfl⟩ := e
    rcases List.mem_cons.1 hv with rfl | hv
    · intro e; subst e; simp [SV.val] at hu
    · exact vals_ne_bad hb v hv

theorem run_enter {o : Oper} {args : Array Operand} {ats : Array TypeId} {f : Operand} (ho : o.op = .call ⟨.value f, args, ats⟩) {g : FuncId} {cs : Array Value} (hf : a.eval f = .func (.func g) #[] cs) :
    (execOp a.eval o).run P w = (callFunc g (args.map a.eval ++ cs)).run P w := by
  simp [execOp, ho, resolve, hf, Deferred.ofValue, invoke]

theorem callFunc_enter {g : FuncId} {us : Array Value} {fn : Func} (h1 : P.funcs[g]? = some fn) (h2 : fn.body.isSome = true) (h3 : (fn.name == "runtime.NumGoroutine") = false) : (callFunc g us).run P w = .ok (.enter g us) w := by
  have h2' : fn.body.isNone = false := by
    cases hb : fn.body with
    | none => simp [hb] at h2
    | some c => rfl
  simp only [callFunc, Sem.run_bind, run_program, Result.andThen_ok, h1, h3, h2']
  simp

theorem preN_spec : ∀ {i n : Nat} {l : List Nat}, preN i n l = true → ∀ k, k < n → l[k]? = some (i + k)
  | _, 0, _, _, k, hk => by omega
  | i, n + 1, [], h, k, _ => by simp [preN] at h
  | i, n + 1, x :: r, h, k, hk => by
    simp only [preN, Bool.and_eq_true] at h
    cases k with
    | zero => have : x = i := by simpa using h.1
              simp [this]
    | succ k =>
      have := preN_spec h.2 k (by omega)
      rw [List.getElem?_cons_succ, this]; congr 1; omega

theorem qF_con {f : FuncId} {F : HF} (h : HCon P G f F) : HCon P G f (qF F) := by
  intro args hb v ch nw hq
  unfold qF at hq
  split at hq
  · rename_i ok v' hF
    simp only [HR.mk.injEq] at hq
    obtain ⟨rfl, rfl, rfl, rfl⟩ := hq
    exact h args hb _ _ _ hF
  · simp at hq

theorem putCh_none (g : Nat → Nat) : ∀ (ids : List Nat) (h : List Blk), putCh g false ids [] h = h
  | [], h => rfl
  | _ :: r, h => by simp only [putCh]; exact putCh_none g r h

theorem quietR_eq {h : List Blk} {r : R} (hh : r.h = h) : quietR h r = r := by
  cases r; cases hh; rfl

theorem callH_quiet {ng : Nat} {F : HF} {args : List SV} {h : List Blk} (hok : (callH ng (qF F) args h).ok = true) : (callH ng (qF F) args h).h = h := by
  unfold callH at hok ⊢
  split at hok
  · simp at hok
  · rename_i ids _
    dsimp only at hok ⊢
    generalize hA : SV.rens (posn ids) args = A' at hok ⊢
    generalize hB : ids.map (fun id => (blkAt h id).ren (posn ids)) = B' at hok ⊢
    unfold qF at hok ⊢
    cases hr : F A' B' with
    | mk ok v ch nw =>
    rw [hr] at hok
    cases ch with
    | nil =>
      cases nw with
      | nil => simp [putCh_none]
      | cons _ _ => simp at hok
    | cons _ _ => simp at hok

theorem ok_call {Γ : Cons} {Δ : HCons} {qt : List Nat} (hΓ : COk P Γ) (hΔ : DOk P G Δ) (T : TTie G m S.t a) (H : HTie m S.h w) {o : Oper} {args : Array Operand} {ats : Array TypeId} {f : Operand} (ho : o.op = .call ⟨.value f, args, ats⟩)
    (hg : (args.toList.map (S.ev G)).all (fun v => v.good) = true) (hok : (callO G.length Γ Δ qt f (S.ev G f) (args.toList.map (S.ev G)) S.h).ok = true) : OpOk P o a w m S.h (callO G.length Γ Δ qt f (S.ev G f) (args.toList.map (S.ev G)) S.h) := by
  have hvs := evs T args.toList (fun x hx e => by
    have := List.all_eq_true.1 hg (S.ev G x) (List.mem_map.2 ⟨x, hx, rfl⟩)
    rw [e] at this; cases this)
  have earr : (args.toList.map a.eval).toArray = args.map a.eval := by
    apply Array.ext'; rw [Array.toList_map]
  unfold callO at hok ⊢
  split at hok
  · split at hok
    · rename_i f' hf
      obtain ⟨cs, hcs, ef⟩ := v_fn (St.eval_of T hf (by simp))
      have hc0 : cs = [] := by simpa [SV.vals] using hcs.symm
      subst hc0
      split at hok
      · rename_i F hF
        cases hr : F (args.toList.map (S.ev G)) with
        | mk ok v =>
        rw [hr] at hok
        simp only at hok ⊢
        subst hok
        obtain ⟨u, hu, hcall⟩ := hΓ f' F hF _ v hr m _ w hvs
        rw [earr] at hcall
        have hex := run_enter (P := P) (w := w) ho ef
        simp only [List.append_toArray, Array.append_empty] at hex
        have hex' : (execOp a.eval o).run P w = (callFunc f' (args.map a.eval)).run P w := by rw [hex]
        rcases hcall with ⟨fn, h1, h2, h3, hcall⟩ | hrun
        · intro K Q hK
          unfold Oper.wp
          rw [hex', callFunc_enter h1 h2 h3, Oper.upon_enter]
          refine hcall.mono fun e w' ⟨he, hb⟩ => ?_
          subst he
          exact hK m u w' (Ext.of_below hb) (H.below hb) (.inr (vals_nil_of hu m))
        · exact OpOk.value H (u := u) (by rw [hex']; exact hrun) (.inr (vals_nil_of hu m))
      · simp at hok
    · simp at hok
  · split at hok
    · rename_i f' cs hf
      obtain ⟨vs, hcs, ef⟩ := v_fn (St.eval_of T hf (by simp))
      split at hok
      · rename_i F hF
        have core : ∀ F0 : HF, HCon P G f' F0 → (callH G.length F0 (args.toList.map (S.ev G) ++ cs) S.h).ok = true → OpOk P o a w m S.h (callH G.length F0 (args.toList.map (S.ev G) ++ cs) S.h) := by
          intro F0 hF0 hok
          have hall := vals_append hvs hcs
          unfold callH at hok ⊢
          split at hok
          · simp at hok
          · rename_i ids _
            dsimp only at hok ⊢
            generalize hA : SV.rens (posn ids) (args.toList.map (S.ev G) ++ cs) = A' at hok ⊢
            generalize hB : ids.map (fun id => (blkAt S.h id).ren (posn ids)) = B' at hok ⊢
            cases hr : F0 A' B' with
            | mk ok v ch nw =>
            rw [hr] at hok
            simp only [Bool.and_eq_true] at hok ⊢
            obtain ⟨rfl, hpn, hn, hl, hi, hb, hm⟩ := hok
            have hn := nodupB_spec hn
            have hl : ∀ id ∈ ids, id < S.h.length := fun id h => Nat.le_of_ble_eq_true (List.all_eq_true.1 hl id h)
            have hb' : ∀ id ∈ ids, ((blkAt S.h id).ren (posn ids)).c.idsB ids.length = true := fun id h => by
              rw [← hB] at hb
              exact List.all_eq_true.1 hb _ (List.mem_map.2 ⟨id, h, rfl⟩)
            obtain ⟨ht, _, e2⟩ := tie_local H hn hl hb'
            rw [hB] at ht
            have hav : SV.vals (ids.map fun id => m.getD id nilPl) A' = some (args.toList.map a.eval ++ vs) := by
              rw [← hA, SV.rens_val (m := m) (n := ids.length) e2 _ (by rw [hA]; exact hi)]; exact hall
            obtain ⟨fn, h1, h2, h3, hcall⟩ := hF0 A' B' v ch nw hr _ _ w ht hav (fun i g hg => by
              obtain ⟨p, q1, q2, q3, q4⟩ := T.glob i g hg
              have hids := preN_spec hpn i (List.getElem?_eq_some_iff.1 hg).1
              rw [Nat.zero_add] at hids
              refine ⟨p, ?_, q2, q3, q4⟩
              rw [List.getElem?_map, hids]
              simp [List.getD_eq_getElem?_getD, q1])
            have hex := run_enter (P := P) (w := w) ho ef
            have hex' : (execOp a.eval o).run P w = (callFunc f' (args.toList.map a.eval ++ vs).toArray).run P w := by
              rw [hex]; congr 2; apply Array.ext'; simp
            intro K Q hK
            unfold Oper.wp
            rw [hex', callFunc_enter h1 h2 h3, Oper.upon_enter]
            refine hcall.mono fun e w' ⟨u, m2, he, hv, hp⟩ => ?_
            subst he
            rw [← hB] at hp
            obtain ⟨g1, g2, g3⟩ := call_back H hn hl hm hp
            exact hK (m ++ m2) u w' g2 g1 (.inr (g3 v u hv))
        split at hok
        · have hc := core (qF F) (qF_con (hΔ f' F hF)) hok
          have hh := callH_quiet hok
          have e : quietR S.h (callH G.length (qF F) (args.toList.map (S.ev G) ++ cs) S.h) = callH G.length (qF F) (args.toList.map (S.ev G) ++ cs) S.h := by
            exact quietR_eq hh
          rw [e]
          exact hc
        · exact core F (hΔ f' F hF) hok
      · simp at hok
    · simp at hok

end calls

theorem set_kind {h : List Blk} {id : Nat} {b : Blk} {c' : Cs} (hb : h[id]? = some b) : ∀ (j : Nat) (c : Blk), (h.set id ⟨c', b.k⟩)[j]? = some c → ∃ c0 : Blk, h[j]? = some c0 ∧ c0.k = c.k := fun j c hc => by
  have hidlt : id < h.length := (List.getElem?_eq_some_iff.1 hb).1
  rw [List.getElem?_set] at hc
  by_cases hj : id = j
  · subst hj
    rw [if_pos rfl, if_pos hidlt] at hc
    simp only [Option.some.injEq] at hc
    subst hc
    exact ⟨b, hb, rfl⟩
  · rw [if_neg hj] at hc; exact ⟨c, hc, rfl⟩

theorem ext_nil {m : List Pl} {h : List Blk} {w : World} (H : HTie m h w) {id : Nat} {p : Pl} {b : Blk} (hp : m[id]? = some p) (hb : h[id]? = some b) (hn : p.nil = true) {c' : Cs} : Ext m m h (h.set id ⟨c', b.k⟩) w w := by
  refine ⟨List.prefix_rfl, rfl, rfl, rfl, Nat.le_refl _, fun _ _ _ => rfl, fun i q c hq hc hk hqn => ?_, fun i q c hq hc hk hqn => ?_⟩
  all_goals
    obtain ⟨c0, h1, h2⟩ := set_kind hb i c hc
    exact .inl ⟨i, q, c0, hq, h1, by rw [h2]; exact hk, hqn, rfl⟩

theorem tie_nil {m : List Pl} {h : List Blk} {w : World} (H : HTie m h w) {id : Nat} {p : Pl} {b : Blk} (hp : m[id]? = some p) (hb : h[id]? = some b) (hn : p.nil = true) {c' : Cs} (hw : c'.wf) (hs : c'.size = 0) : HTie m (h.set id ⟨c', b.k⟩) w := by
  refine ⟨by simp [H.len], fun j q c hq hc hd => ?_, fun i j q r c d hij hq hr hc hd hcd hdd hqn hrn hw => ?_⟩
  · have hc' := hc
    rw [List.getElem?_set] at hc
    by_cases hj : id = j
    · subst hj
      rw [if_pos rfl, if_pos (List.getElem?_eq_some_iff.1 hb).1] at hc
      simp only [Option.some.injEq] at hc
      subst hc
      rw [hp] at hq; simp only [Option.some.injEq] at hq; subst hq
      have hh := H.holds id p b hp hb hd
      exact ⟨hw, fun e => ⟨hs, (hh.nl e).2.1, (hh.nl e).2.2⟩, fun e => absurd e (by rw [hn]; simp), fun i hi => absurd hi (by simp [hs]), fun _ i hi => absurd hi (by simp [hs]), fun _ e => absurd e (by rw [hn]; simp), fun _ _ e => absurd e (by rw [hn]; simp), fun _ _ e => absurd e (by rw [hn]; simp)⟩
    · rw [if_neg hj] at hc; exact H.holds j q c hq hc hd
  · obtain ⟨c0, h1, h2⟩ := set_kind hb i c hc
    obtain ⟨d0, h3, h4⟩ := set_kind hb j d hd
    exact H.apart i j q r c0 d0 hij hq hr h1 h3 (by rw [h2]; exact hcd) (by rw [h4]; exact hdd) hqn hrn (by rw [h2, h4]; exact hw)

def clearO (A : Ar) (τ : Types) (t : TypeId) (x : SV) (h : List Blk) : R :=
  match elemT τ t with
  | none => .fail
  | some i => match x with
    | .nils => ⟨true, .tup [], h⟩
    | .row id len => match zerosO A len i.zero.cells with
      | none => .fail
      | some d => match (blkAt h id).c.lay A 0 len d with
        | some (ok, c', _) => ⟨ok && (Nat.beq i.size 1 && (blkAt h id).may), .tup [], h.set id ⟨c', (blkAt h id).k⟩⟩
        | none => .fail
    | _ => .fail

theorem ok_clear {P : Program} {τ : Types} {m : List Pl} {w : World} {S : St} {a : Act} (hτ : TOk P τ) (T : TTie G m S.t a) (H : HTie m S.h w) {o : Oper} {t : TypeId} {x : Operand} (ho : o.op = .call ⟨.builtin .clear, #[x], #[t]⟩)
    (hok : (clearO std τ t (S.ev G x) S.h).ok = true) : OpOk P o a w m S.h (clearO std τ t (S.ev G x) S.h) := by
  unfold clearO at hok ⊢
  split at hok
  · simp at hok
  rename_i i hi
  obtain ⟨e, hd, f⟩ := elemT_spec hτ hi
  split at hok
  · rename_i hx
    refine OpOk.value H (u := .tuple #[]) (run_call_builtin (a := a) ho ?_ (.inr (.inr rfl))) (.inr (by simp [SV.val, SV.vals]))
    simp [Builtin.clear_, run_underlying hd, ev_nils T hx]
  · rename_i id len hx
    obtain ⟨p, hp, hev⟩ := ev_row T hx
    split at hok
    · simp at hok
    rename_i d hz
    split at hok
    · rename_i ok c' q hlay
      simp only [Bool.and_eq_true] at hok ⊢
      obtain ⟨rfl, h2, hm⟩ := hok
      have h2 : i.size = 1 := by simpa using h2
      obtain ⟨ti, z, y1, y2, y3, y4, y5, y6, y7⟩ := tzero f
      have hzl := zerosO_spec hz
      rw [y6, h2, Nat.mul_one] at hzl
      have hk := may_wr hm
      have hb := blkAt_some (wr_live hk)
      have hh := H.holds id p _ hp hb (live_kind (wr_live hk))
      obtain ⟨k1, k2, k3⟩ := Cs.lay_spec hh.wf hzl.wf hlay
      have hq : q.n = len := by rw [k1, hzl.size]; simp
      rw [hq] at k2 k3
      obtain ⟨zl, hzl1⟩ : ∃ v, z.cells = #[v] := by
        have hs1 : z.cells.size = 1 := by rw [y5, h2]
        refine ⟨z.cells[0], ?_⟩
        apply Array.ext
        · simp [hs1]
        · intro j h3 h4
          have : j = 0 := by simp at h4; omega
          subst this; simp
      have hzc : (Builtin.zeroCells z.cells len).toList = List.replicate len zl := by
        apply List.ext_getElem?
        intro j
        simp only [Builtin.zeroCells, hzl1]
        rw [List.getElem?_replicate]
        by_cases hj : j < len
        · rw [if_pos hj]; simp [hj, Nat.mod_one]
        · rw [if_neg hj, List.getElem?_eq_none (by simp; omega)]
      have hvz := y7 m
      rw [hzl1] at hvz
      have hone : zl.oneCell' = true := hvz.2 zl (by simp)
      rcases hev with ⟨hn, hle, he⟩ | ⟨hn, h0, he⟩
      · have hv : SV.vals m ((List.range len).map d.get) = some (List.replicate len zl) := vals_same (by simp) (fun j v hj => by
          rw [List.getElem?_replicate] at hj
          split at hj
          · rename_i hlt
            simp only [Option.some.injEq] at hj
            subst hj
            rw [getD_of_lt (by simpa using hlt)]
            simp only [List.getElem_map, List.getElem_range]
            rw [hzl.get j hlt m, List.getD_eq_getElem?_getD, repL_get _ _ _ (by rw [y6, h2]; simpa using hlt), y6, h2, Nat.mod_one]
            obtain ⟨u, hu, hu'⟩ := vals_get hvz.1 (i := 0) (v := i.zero.cells[0]'(by omega)) (List.getElem?_eq_getElem (by omega))
            simp at hu
            subst hu
            rw [List.getElem?_eq_getElem (by omega)]; exact hu'
          · cases hj)
        have h1' : ∀ v ∈ List.replicate len zl, v.oneCell' = true := fun v hv => by rw [(List.mem_replicate.1 hv).2]; exact hone
        have hlaid : Laid c' (blkAt S.h id).c.size (over (blkAt S.h id).c 0 ((List.range len).map d.get)) := ⟨k3.wf, k3.size, fun j hj => by
          refine (k3.get j hj).trans ?_
          simp only [over, List.length_map, List.length_range]
          by_cases hc : 0 ≤ j ∧ j < 0 + len
          · rw [if_pos hc, if_pos hc, getD_of_lt (by simp; omega)]; simp; exact SV.same.refl _
          · rw [if_neg hc, if_neg hc]; exact SV.same.refl _⟩
        have hlaid2 := hh.laid hk hv h1' (by simpa using k2) hlaid hn
        have hrest := setCells_rest (b := p.blk) (List.replicate len zl) (p.off + 0) w
        have hst := run_storeCells_cells (P := P) p.blk p.off (List.replicate len zl) 0 w (fun j hj => by
            simp at hj
            obtain ⟨v, _, _, h5⟩ := hh.cells j (by omega)
            rw [Nat.add_zero, h5]; rfl)
          (fun j hj => by
            simp at hj
            have := hh.wr hk j (by omega)
            rw [Nat.add_zero]; exact this) h1'
        refine OpOk.ofRun (m' := m) (run_call_builtin (a := a) ho (v := .tuple #[]) (w' := w.setCells p.blk (p.off + 0) (List.replicate len zl)) ?_ (.inr (.inr rfl)))
          (Ext.upd hp hb hk hn hrest.1 hrest.2.1 hrest.2.2.1 (by rw [hrest.2.2.2]; exact Nat.le_refl _) (fun k hk => setCells_heap _ _ _ hk))
          (H.upd hp hb hk hn (fun k hk => setCells_heap _ _ _ hk) hlaid2) (.inr (by simp [SV.val, SV.vals]))
        by_cases hl0 : len = 0
        · subst hl0
          simp [Builtin.clear_, run_underlying hd, he, World.setCells]
        · have hz' : (zeroValue e).run P w = .ok z w := by simp [zeroValue, typeInfo, y1, y2]
          simp [Builtin.clear_, run_underlying hd, he, hl0, hz', hzc, hst]
      · subst h0
        have hc0 : (blkAt S.h id).c.size = 0 := (hh.nl hn).1
        refine OpOk.ofRun (m' := m) (run_call_builtin (a := a) ho (v := .tuple #[]) (w' := w) ?_ (.inr (.inr rfl))) ?_ ?_ (.inr (by simp [SV.val, SV.vals]))
        · simp [Builtin.clear_, run_underlying hd, he]
        · exact ext_nil H hp hb hn
        · exact tie_nil H hp hb hn k3.wf (by rw [k3.size]; exact hc0)
    · simp at hok
  · simp at hok

end globs

/-! ### append(s, make([]T, n)...) -/

def isIntT (τ : Types) (t : TypeId) : Bool := match τ t with
  | some ⟨.int _, _, _, _⟩ => true
  | _ => false

def appendZO (A : Ar) (τ : Types) (t : TypeId) (s x : SV) (h : List Blk) : R :=
  match elemT τ t with
  | none => .fail
  | some i => match x with
    | .int k n => match s with
      | .slice id off len cap => match zerosO A (A.nat n) i.zero.cells with
        | some d => match (blkAt h id).c.sub A off i.size ⟨true, 0⟩ ⟨true, len⟩ with
          | (ok, c) => grown A i (A.icmp .leq 0 n && (Nat.beq (kn k) (kn .i64) && (Nat.beq off 0 && (ok && (Nat.beq (cap * i.size) (blkAt h id).c.size && (blkAt h id).may))))) ⟨true, len⟩ c ⟨false, A.nat n⟩ d (h.set id ⟨(blkAt h id).c, .dead⟩) (.row i.size)
        | none => .fail
      | .row id len => match zerosO A (A.nat n) i.zero.cells with
        | some d => match (blkAt h id).c.cnt A i.size with
          | some q => match (blkAt h id).k with
            | .row es => grown A i (A.icmp .leq 0 n && (Nat.beq (kn k) (kn .i64) && (A.neq q.n len && Nat.beq es i.size))) ⟨q.lit, len⟩ (blkAt h id).c ⟨false, A.nat n⟩ d (h.set id ⟨(blkAt h id).c, .dead⟩) (.row i.size)
            | _ => .fail
          | none => .fail
        | none => .fail
      | _ => .fail
    | _ => .fail

section appz
variable {G : List Nat}
variable {P : Program} {τ : Types} {m : List Pl} {w : World} {S : St} {a : Act}

theorem zeroCells_made (z : Array Value) (k : Nat) : Builtin.zeroCells z k = madeCells z (k * z.size) := by
  simp [Builtin.zeroCells, madeCells]

theorem run_append_room_zeros (w : World) (t tn ty e : TypeId) (i : TypeInfo) (z : Value) (kq kn : IntKind) (ht : P.underlying t = some (.slice e)) (htn : P.underlying tn = some (.int kn)) (hi : P.info? e = some i) (hz : i.zero = some z) (hzs : z.cells.size = i.size)
    (b off sLen sCap k : Nat) (hroom : sLen + k ≤ sCap) (hs : 0 < i.size) (h63 : (k : Int) ≤ 9223372036854775807) (h48 : k * i.bytes ≤ 281474976710656)
    (hc : ∀ j, j < k * i.size → (w.cell? ⟨b, off + sLen * i.size + j, none⟩).isSome = true) (hf : ∀ j, j < k * i.size → w.frozen? ⟨b, off + sLen * i.size + j, none⟩ = false) (h1 : ∀ v ∈ (Builtin.zeroCells z.cells k).toList, v.oneCell' = true) :
    (Builtin.append_ #[t, tn] ty #[.slice (some ⟨b, off, none⟩) sLen sCap, .int kq k]).run P w = .ok (.slice (some ⟨b, off, none⟩) (sLen + k) sCap) (w.setCells b (off + sLen * i.size) (Builtin.zeroCells z.cells k).toList) := by
  have hl : (Builtin.zeroCells z.cells k).toList.length = k * i.size := by rw [Array.length_toList, size_zeroCells, hzs]
  have hst := run_storeCells_cells (P := P) b (off + sLen * i.size) (Builtin.zeroCells z.cells k).toList 0 w (by rw [hl]; simpa using hc) (by rw [hl]; simpa using hf) h1
  simp only [Nat.add_zero] at hst
  have hw : IntKind.i64.wrap (k : Int) = k := by rw [IntKind.wrap_i64]; omega
  have h48i : ¬ (281474976710656 < (k : Int) * (i.bytes : Int)) := by
    rw [← Int.natCast_mul]
    omega
  have hneg : ¬ ((k : Int) < 0) := by omega
  by_cases hk : k = 0
  · subst hk
    have e0 : (Builtin.zeroCells z.cells 0).toList = [] := List.eq_nil_of_length_eq_zero (by rw [hl]; simp)
    rw [e0] at hst ⊢
    have hr0 : sLen ≤ sCap := by omega
    have hw0 : IntKind.i64.wrap 0 = 0 := by decide
    simp [Builtin.append_, run_underlying ht, run_underlying htn, sizeOf, typeInfo, zeroValue, hi, hz, asInt, asIntOf, hw0, hr0, Addr.add_lit, hst]
  · have hns : ¬ (k * i.size = 0) := Nat.mul_ne_zero hk (by omega)
    simp [Builtin.append_, run_underlying ht, run_underlying htn, sizeOf, typeInfo, zeroValue, hi, hz, asInt, asIntOf, hw, hk, hneg, hns, h48i, hroom, Addr.add_lit, hst]

theorem ok_appendZ (hτ : TOk P τ) (T : TTie G m S.t a) (H : HTie m S.h w) {o : Oper} {t tx : TypeId} {s x : Operand} (ho : o.op = .call ⟨.builtin .append, #[s, x], #[t, tx]⟩) (hx : isIntT τ tx = true)
    (hok : (appendZO std τ t (S.ev G s) (S.ev G x) S.h).ok = true) : OpOk P o a w m S.h (appendZO std τ t (S.ev G s) (S.ev G x) S.h) := by
  have htn : ∃ kn, P.underlying tx = some (.int kn) := by
    unfold isIntT at hx
    split at hx
    · rename_i k _ _ _ hi
      obtain ⟨d, hd, hf⟩ := (hτ tx _ hi).desc
      cases d <;> simp [TD.fits] at hf
      exact ⟨_, hd⟩
    · cases hx
  obtain ⟨kn', htn⟩ := htn
  unfold appendZO at hok ⊢
  split at hok
  · simp at hok
  rename_i i hi
  obtain ⟨e, hd, f⟩ := elemT_spec hτ hi
  split at hok <;> try (simp at hok; done)
  rename_i k n hxe
  have hxv := ev_int T hxe
  split at hok <;> try (simp at hok; done)
  · rename_i id off len cap hs
    obtain ⟨p, hp, hn, hlc, he⟩ := ev_slice T hs
    split at hok <;> try (simp at hok; done)
    rename_i d hz0
    cases hr : (blkAt S.h id).c.sub std off i.size ⟨true, 0⟩ ⟨true, len⟩ with
    | mk ok c =>
    rw [hr] at hok
    simp only at hok ⊢
    unfold grown at hok ⊢
    cases hap : c.app std d with
    | none => rw [hap] at hok; simp at hok
    | some en =>
    rw [hap] at hok
    simp only [Bool.and_eq_true] at hok ⊢
    obtain ⟨⟨g0, gk, goff, rfl, gsz, gmay⟩, hroom, hb1, hs1⟩ := hok
    have g0 : 0 ≤ n := by simpa [std, icmp] using g0
    have gk := kn_eq gk
    subst gk
    have goff : off = 0 := by simpa using goff
    subst goff
    have gsz : cap * i.size = (blkAt S.h id).c.size := by simpa using gsz
    have hb1 : 1 ≤ i.bytes := by simpa using hb1
    have hs1 : 1 ≤ i.size := by simpa using hs1
    obtain ⟨q, rfl⟩ := Int.eq_ofNat_of_zero_le g0
    have hnat : std.nat (q : Int) = q := by simp [std]
    rw [hnat] at hroom hz0 ⊢
    have hroom : (len + q) * i.bytes ≤ 140737488355328 := by
      unfold roomO at hroom
      rw [sumNm_n] at hroom
      simp only [sumNm, Bool.and_false] at hroom
      simpa [std] using hroom
    rw [sumNm_n]
    have hwr := may_wr gmay
    have hlive := wr_live hwr
    have hb := blkAt_some hlive
    have hh := H.holds id p _ hp hb (live_kind hlive)
    have hz := hh.z hwr hn
    obtain ⟨h5, h6⟩ := Cs.sub_spec hh.wf hr
    simp only [Nat.zero_add, Nat.zero_mul, Nat.add_zero] at h5 h6
    obtain ⟨olds, k1, k2⟩ := hh.read (off := 0) (n := len * i.size) (by omega)
    have hro : Reads m c olds := ⟨h6.wf, by rw [k1, h6.size], fun j v hj => by
      have hjl : j < len * i.size := by rw [← k1]; exact (List.getElem?_eq_some_iff.1 hj).1
      have := k2 j v hj
      rw [Nat.zero_add] at this
      rw [h6.get j hjl m]; exact ⟨this.1, this.2.1⟩⟩
    have hlo : olds.length = len * i.size := k1
    have r2 : ∀ (j : Nat) (v : Value), olds[j]? = some v → w.cell? ⟨p.blk, p.off + j, none⟩ = some v := fun j v hj => by
      have := (k2 j v hj).2.2
      rwa [Nat.add_zero] at this
    obtain ⟨ti, z, y1, y2, y3, y4, y5, y6, y7⟩ := tzero f
    have hzl : (Builtin.zeroCells z.cells q).toList.length = q * i.size := by rw [Array.length_toList, size_zeroCells, y5]
    have hlz := zerosO_spec hz0
    rw [y6] at hlz
    have hrn : Reads m d (Builtin.zeroCells z.cells q).toList := by
      have := made_reads f (y7 m).1 (y7 m).2 y5 y6 (q * i.size) q (Nat.le_refl _) hlz
      rw [zeroCells_made, y5]
      rwa [List.take_of_length_le (by rw [Array.length_toList, size_madeCells]; exact Nat.le_refl _)] at this
    have hone : ∀ v ∈ (Builtin.zeroCells z.cells q).toList, v.oneCell' = true := hrn.one
    have hre := hro.app hrn hap
    have hq1 : q ≤ q * i.bytes := Nat.le_mul_of_pos_right _ hb1
    have hq2 : q * i.bytes ≤ (len + q) * i.bytes := Nat.mul_le_mul_right _ (by omega)
    have hlq : len + q ≤ (len + q) * i.bytes := Nat.le_mul_of_pos_right _ hb1
    have hHd : HTie m (S.h.set id ⟨(blkAt S.h id).c, .dead⟩) w := H.freeze hb (.inl rfl)
    by_cases hle : len + q ≤ cap
    · have hsp : ∀ i_1, i_1 < cap * i.size → (w.cell? ⟨p.blk, i_1, none⟩).isSome = true ∧ w.frozen? ⟨p.blk, i_1, none⟩ = false := fun j hj => by
        obtain ⟨v, _, _, g⟩ := hh.cells j (by omega)
        have g' := hh.wr hwr j (by omega)
        rw [hz, Nat.zero_add] at g g'
        rw [g, g']; exact ⟨rfl, rfl⟩
      have hrm : len * i.size + (Builtin.zeroCells z.cells q).toList.length ≤ cap * i.size := by
        rw [hzl, ← Nat.add_mul]; exact Nat.mul_le_mul_right _ hle
      obtain ⟨k1', k2', p', hX, hT, hv⟩ := stay_room (n := q) H hp hwr hsp hn hre hone r2 hlo hrm hle
      have hrun := run_append_room_zeros (P := P) w t tx o.type e ti z .i64 kn' hd htn y1 y2 (by rw [y5, y3]) p.blk p.off len cap q hle (by omega) (by omega) (by rw [y4]; omega)
        (by rw [y3, ← hzl]; exact k1') (by rw [y3, ← hzl]; exact k2') hone
      rw [y3] at hrun
      refine OpOk.ofRun (run_call_builtin (a := a) ho (v := .slice (some ⟨p.blk, p.off, none⟩) (len + q) cap) (w' := _) ?_ (.inl rfl)) hX hT (.inr ?_)
      · simp only [List.map_toArray, List.map_cons, List.map_nil, he, hxv, Nat.add_zero]; exact hrun
      · simp only [SV.val, List.length_set]
        rw [← H.len, get_push]
        exact hv
    · have hlt : cap < len + q := by omega
      have hq0 : 0 < q := by omega
      have h63 : ((len + q : Nat) : Int) ≤ 9223372036854775807 := by omega
      have hfit := growslice_fits (need := len + q) (old := cap) (bytes := ti.bytes) hlt (by rw [y4]; exact hroom)
      have hold : (Builtin.firstCells ti.size len (.slice (some ⟨p.blk, p.off, none⟩) len cap)).run P w.drew = .ok olds.toArray w.drew :=
        run_firstCells_some _ _ _ _ _ _ olds (by rw [y3]; exact hlo) (fun j v hj => by rw [addr_add]; exact r2 j v hj)
      have hg := Lib.run_append_grow_zeros (P := P) w t tx o.type e ti z .i64 kn' hd htn y1 y2 (some ⟨p.blk, p.off, none⟩) len cap olds hold q hq0 (by omega) hlt h63 (by rw [y4]; omega) hfit
      have hge := grownCap_ge w (len + q) cap e
      obtain ⟨g, hgq⟩ : ∃ g, g = grownCap w (len + q) cap e := ⟨_, rfl⟩
      rw [← hgq] at hg hge
      have hrapp := hre.mono (List.prefix_append m [(⟨w.heap.size, 0, g, false⟩ : Pl)])
      have hel : en.size = (len + q) * i.size := by
        rw [(Cs.app_spec hro.wf hrn.wf h6.size hap).size, ← hrn.len, hzl, Nat.add_mul]
      have hcells : (olds.toArray ++ Builtin.zeroCells z.cells q ++ Builtin.zeroCells z.cells (g - (len + q))) = ((olds ++ (Builtin.zeroCells z.cells q).toList) ++ (Builtin.zeroCells z.cells (g - (len + q))).toList).toArray := by
        apply Array.ext'; simp
      have hzl2 : (Builtin.zeroCells z.cells (g - (len + q))).toList.length = (g - (len + q)) * i.size := by rw [Array.length_toList, size_zeroCells, y5]
      refine OpOk.ofRun (m' := m ++ [⟨w.heap.size, 0, g, false⟩]) (run_call_builtin (a := a) ho (v := .slice (some ⟨w.heap.size, 0, none⟩) (len + q) g) (w' := w.drew.alloc (.cells (olds.toArray ++ Builtin.zeroCells z.cells q ++ Builtin.zeroCells z.cells (g - (len + q))) e)) ?_ (.inl rfl)) ?_ ?_ (.inr ?_)
      · simp only [List.map_toArray, List.map_cons, List.map_nil, he, hxv, Nat.add_zero]; exact hg
      · exact Ext.gen H rfl rfl rfl (by simp) (by simp) (fun k hk _ => Below.heap_alloc w.drew _ _ hk) (set_wr rfl) (set_live fun e => (e rfl).elim) (fun _ => .inl (Nat.le_refl _))
      · refine hHd.push (fun k hk => Below.heap_alloc w.drew _ _ hk) (fun _ => Holds.newC hrapp w (Builtin.zeroCells z.cells (g - (len + q))).toList (fun es he => by cases he) (e := e) (fr := (0, 0)) (fun j _ => by simp) (by rw [← hcells]; rfl) (fun es he => ?_)) (fun _ _ => Nat.le_refl _)
        simp only [BK.row.injEq] at he
        subst he
        rw [List.length_append, hzl2, hrapp.len, hel, ← Nat.add_mul]
        exact ⟨Nat.mul_le_mul_right _ hge, Nat.mul_le_mul_right _ (by omega)⟩
      · simp only [SV.val, List.length_set]
        rw [← H.len, get_push]
        simp [Pl.row, hge]
  · rename_i id len hs
    obtain ⟨p, hp, hev⟩ := ev_row T hs
    split at hok <;> try (simp at hok; done)
    rename_i d hz0
    split at hok <;> try (simp at hok; done)
    rename_i q0 hq0'
    have hcs := cnt_spec hq0'
    split at hok <;> try (simp at hok; done)
    rename_i es hkd
    unfold grown at hok ⊢
    cases hap : (blkAt S.h id).c.app std d with
    | none => rw [hap] at hok; simp at hok
    | some en =>
    rw [hap] at hok
    simp only [Bool.and_eq_true] at hok ⊢
    obtain ⟨⟨g0, gk, gq, ges⟩, hroom, hb1, hs1⟩ := hok
    have g0 : 0 ≤ n := by simpa [std, icmp] using g0
    have gk := kn_eq gk
    subst gk
    have gq : q0.n = len := by simpa [std] using gq
    have ges : es = i.size := by simpa using ges
    subst ges
    have hb1 : 1 ≤ i.bytes := by simpa using hb1
    have hs1 : 1 ≤ i.size := by simpa using hs1
    obtain ⟨q, rfl⟩ := Int.eq_ofNat_of_zero_le g0
    have hnat : std.nat (q : Int) = q := by simp [std]
    rw [hnat] at hroom hz0 ⊢
    have hroom : (len + q) * i.bytes ≤ 140737488355328 := by
      unfold roomO at hroom
      rw [sumNm_n] at hroom
      simp only [sumNm, Bool.and_false] at hroom
      simpa [std] using hroom
    rw [sumNm_n]
    have hwr : (blkAt S.h id).k.wr = true := by rw [hkd]; rfl
    have hlive := wr_live hwr
    have hb := blkAt_some hlive
    have hh := H.holds id p _ hp hb (live_kind hlive)
    obtain ⟨olds, hro, r2⟩ := hh.reads
    rw [gq] at hcs
    have hlo : olds.length = len * i.size := by rw [hro.len, hcs]
    obtain ⟨ti, z, y1, y2, y3, y4, y5, y6, y7⟩ := tzero f
    have hzl : (Builtin.zeroCells z.cells q).toList.length = q * i.size := by rw [Array.length_toList, size_zeroCells, y5]
    have hlz := zerosO_spec hz0
    rw [y6] at hlz
    have hrn : Reads m d (Builtin.zeroCells z.cells q).toList := by
      have := made_reads f (y7 m).1 (y7 m).2 y5 y6 (q * i.size) q (Nat.le_refl _) hlz
      rw [zeroCells_made, y5]
      rwa [List.take_of_length_le (by rw [Array.length_toList, size_madeCells]; exact Nat.le_refl _)] at this
    have hone : ∀ v ∈ (Builtin.zeroCells z.cells q).toList, v.oneCell' = true := hrn.one
    have hre := hro.app hrn hap
    have hq1 : q ≤ q * i.bytes := Nat.le_mul_of_pos_right _ hb1
    have hq2 : q * i.bytes ≤ (len + q) * i.bytes := Nat.mul_le_mul_right _ (by omega)
    have hlq : len + q ≤ (len + q) * i.bytes := Nat.le_mul_of_pos_right _ hb1
    have hHd : HTie m (S.h.set id ⟨(blkAt S.h id).c, .dead⟩) w := H.freeze hb (.inl rfl)
    have hel : en.size = (len + q) * i.size := by
      rw [← hre.len, List.length_append, hlo, hzl, Nat.add_mul]
    have fresh : ∀ (base : Option Addr) (cap : Nat), a.eval s = .slice base len cap → (Builtin.firstCells ti.size len (.slice base len cap)).run P w.drew = .ok olds.toArray w.drew → cap < len + q → 0 < q →
        OpOk P o a w m S.h (⟨true, .row (S.h.set id ⟨(blkAt S.h id).c, .dead⟩).length (len + q), (S.h.set id ⟨(blkAt S.h id).c, .dead⟩) ++ [⟨en, .row i.size⟩]⟩ : R) := by
      intro base cap he hold hlt hqp
      have h63 : ((len + q : Nat) : Int) ≤ 9223372036854775807 := by omega
      have hfit := growslice_fits (need := len + q) (old := cap) (bytes := ti.bytes) hlt (by rw [y4]; exact hroom)
      have hg := Lib.run_append_grow_zeros (P := P) w t tx o.type e ti z .i64 kn' hd htn y1 y2 base len cap olds hold q hqp (by omega) hlt h63 (by rw [y4]; omega) hfit
      have hge := grownCap_ge w (len + q) cap e
      obtain ⟨g, hgq⟩ : ∃ g, g = grownCap w (len + q) cap e := ⟨_, rfl⟩
      rw [← hgq] at hg hge
      have hrapp := hre.mono (List.prefix_append m [(⟨w.heap.size, 0, g, false⟩ : Pl)])
      have hcells : (olds.toArray ++ Builtin.zeroCells z.cells q ++ Builtin.zeroCells z.cells (g - (len + q))) = ((olds ++ (Builtin.zeroCells z.cells q).toList) ++ (Builtin.zeroCells z.cells (g - (len + q))).toList).toArray := by
        apply Array.ext'; simp
      have hzl2 : (Builtin.zeroCells z.cells (g - (len + q))).toList.length = (g - (len + q)) * i.size := by rw [Array.length_toList, size_zeroCells, y5]
      refine OpOk.ofRun (m' := m ++ [⟨w.heap.size, 0, g, false⟩]) (run_call_builtin (a := a) ho (v := .slice (some ⟨w.heap.size, 0, none⟩) (len + q) g) (w' := w.drew.alloc (.cells (olds.toArray ++ Builtin.zeroCells z.cells q ++ Builtin.zeroCells z.cells (g - (len + q))) e)) ?_ (.inl rfl)) ?_ ?_ (.inr ?_)
      · simp only [List.map_toArray, List.map_cons, List.map_nil, he, hxv, Nat.add_zero]; exact hg
      · exact Ext.gen H rfl rfl rfl (by simp) (by simp) (fun k hk _ => Below.heap_alloc w.drew _ _ hk) (set_wr rfl) (set_live fun e => (e rfl).elim) (fun _ => .inl (Nat.le_refl _))
      · refine hHd.push (fun k hk => Below.heap_alloc w.drew _ _ hk) (fun _ => Holds.newC hrapp w (Builtin.zeroCells z.cells (g - (len + q))).toList (fun es he => by cases he) (e := e) (fr := (0, 0)) (fun j _ => by simp) (by rw [← hcells]; rfl) (fun es he => ?_)) (fun _ _ => Nat.le_refl _)
        simp only [BK.row.injEq] at he
        subst he
        rw [List.length_append, hzl2, hrapp.len, hel, ← Nat.add_mul]
        exact ⟨Nat.mul_le_mul_right _ hge, Nat.mul_le_mul_right _ (by omega)⟩
      · simp only [SV.val, List.length_set]
        rw [← H.len, get_push]
        simp [Pl.row, hge]
    rcases hev with ⟨hn, hle, he⟩ | ⟨hn, h0, he⟩
    · have hz := hh.z hwr hn
      by_cases hle2 : len + q ≤ p.cap
      · have hsp := (hh.sp _ hkd hn).2
        have hrm : len * i.size + (Builtin.zeroCells z.cells q).toList.length ≤ p.cap * i.size := by
          rw [hzl, ← Nat.add_mul]; exact Nat.mul_le_mul_right _ hle2
        obtain ⟨k1', k2', p', hX, hT, hv⟩ := stay_room (n := q) H hp hwr hsp hn hre hone r2 hlo hrm hle2
        have hrun := run_append_room_zeros (P := P) w t tx o.type e ti z .i64 kn' hd htn y1 y2 (by rw [y5, y3]) p.blk p.off len p.cap q hle2 (by omega) (by omega) (by rw [y4]; omega)
          (by rw [y3, ← hzl]; exact k1') (by rw [y3, ← hzl]; exact k2') hone
        rw [y3] at hrun
        refine OpOk.ofRun (run_call_builtin (a := a) ho (v := .slice (some ⟨p.blk, p.off, none⟩) (len + q) p.cap) (w' := _) ?_ (.inl rfl)) hX hT (.inr ?_)
        · simp only [List.map_toArray, List.map_cons, List.map_nil, he, hxv, Nat.add_zero]; exact hrun
        · simp only [SV.val, List.length_set]
          rw [← H.len, get_push]
          exact hv
      · refine fresh (some ⟨p.blk, p.off, none⟩) p.cap he ?_ (by omega) (by omega)
        exact run_firstCells_some _ _ _ _ _ _ olds (by rw [y3]; exact hlo) (fun j v hj => by rw [addr_add]; exact r2 j v hj)
    · subst h0
      have holds : olds = [] := List.eq_nil_of_length_eq_zero (by rw [hlo, Nat.zero_mul])
      by_cases hq : q = 0
      · subst hq
        have e0 : (Builtin.zeroCells z.cells 0).toList = [] := List.eq_nil_of_length_eq_zero (by rw [hzl]; simp)
        obtain ⟨p', hX, hT, hv⟩ := stay_nil (k := .row i.size) H (by simp) hre.wf (by rw [hel]; simp) hHd (by simp) (set_wr rfl) (set_live fun e => (e rfl).elim)
        refine OpOk.ofRun (run_call_builtin (a := a) ho (v := .slice none 0 0) (w' := w) ?_ (.inl rfl)) hX hT (.inr ?_)
        · simp only [List.map_toArray, List.map_cons, List.map_nil, he, hxv]
          have hw0 : IntKind.i64.wrap 0 = 0 := by decide
          simp [Builtin.append_, run_underlying hd, run_underlying htn, sizeOf, typeInfo, zeroValue, y1, y2, asInt, asIntOf, hw0, e0, storeCells]
        · simp only [SV.val, List.length_set]
          rw [← H.len, get_push]
          exact hv
      · refine fresh none 0 he ?_ (by omega) (by omega)
        rw [holds]
        exact run_firstCells_none _ _ _ _ _

theorem grown_len0 {A : Ar} {i : TI} {ok : Bool} {len n : Nm} {c d : Cs} {h h' : List Blk} {k : BK} (hl : h'.length = h.length) (hok : (grown A i ok len c n d h' k).ok = true) : h.length ≤ (grown A i ok len c n d h' k).h.length := by
  unfold grown at hok ⊢
  cases hap : c.app A d with
  | none => rw [hap] at hok; simp at hok
  | some e => simp [hl]

theorem appendZO_len {A : Ar} {τ : Types} {t : TypeId} {x y : SV} {h : List Blk} {r : R} (hr : appendZO A τ t x y h = r) : r.ok = true → h.length ≤ r.h.length := by
  subst hr
  unfold appendZO
  intro hok
  split at hok <;> try (simp at hok; done)
  split at hok <;> try (simp at hok; done)
  split at hok <;> try (simp at hok; done)
  · split at hok <;> try (simp at hok; done)
    split at hok
    exact grown_len0 (by simp) hok
  · split at hok <;> try (simp at hok; done)
    split at hok <;> try (simp at hok; done)
    split at hok <;> try (simp at hok; done)
    exact grown_len0 (by simp) hok

end appz
end Go.Eng
