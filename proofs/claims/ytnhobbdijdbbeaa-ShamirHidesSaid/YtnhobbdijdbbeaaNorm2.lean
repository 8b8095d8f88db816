/- A contract for a slice of whole numbers serves a slice that was written out, too. It has no conditions. -/
import Derived.Test.YtnhobbdijdbbeaaNorm
namespace Go.Eng
open Go.RowKit
set_option linter.unusedSimpArgs false
set_option linter.unusedVariables false

/-- Whole numbers of one kind. -/
def intsO (k : IntKind) : List SV → Option (List Int)
  | [] => some []
  | .int k' x :: r => match Nat.beq (kn k) (kn k') with
    | true => (match intsO k r with
      | some l => some (x :: l)
      | none => none)
    | false => none
  | .num k' x :: r => match Nat.beq (kn k) (kn k') with
    | true => (match intsO k r with
      | some l => some (x :: l)
      | none => none)
    | false => none
  | _ => none
theorem intsO_spec {k : IntKind} : ∀ {l : List SV} {L : List Int}, intsO k l = some L → L.length = l.length ∧ ∀ i, i < l.length → ∀ m, (SV.int k (L.getD i 0)).val m = (l.getD i .bad).val m
  | [], L, h => by cases h; exact ⟨rfl, fun i hi => absurd hi (Nat.not_lt_zero _)⟩
  | x :: r, L, h => by
    unfold intsO at h
    split at h
    · rename_i he; cases he
    · rename_i k' y r' he
      cases he
      split at h
      · rename_i hk
        have := kn_eq hk
        subst this
        split at h
        · rename_i l hl
          cases h
          obtain ⟨h1, h2⟩ := intsO_spec hl
          refine ⟨by simp [h1], fun i hi m => ?_⟩
          cases i with
          | zero => rfl
          | succ i => exact h2 i (by simpa using hi) m
        · cases h
      · cases h
    · rename_i k' y r' he
      cases he
      split at h
      · rename_i hk
        have := kn_eq hk
        subst this
        split at h
        · rename_i l hl
          cases h
          obtain ⟨h1, h2⟩ := intsO_spec hl
          refine ⟨by simp [h1], fun i hi m => ?_⟩
          cases i with
          | zero => simp [SV.val]
          | succ i => exact h2 i (by simpa using hi) m
        · cases h
      · cases h
    · cases h

/-- The contract at an argument that is a slice of whole numbers written out. -/
def normI (pos : Nat) (ki : IntKind) (F : HF) : HF := fun args h => match args[pos]? with
  | some (.slice i 0 len cap) => (match h[i]? with
    | some ⟨.lit l, k⟩ => (match intsO ki l with
      | some L => (match F (args.set pos (.row i len)) (h.set i ⟨.ints ki L, .ro⟩) with
        | ⟨ok, v, [], nw⟩ => ⟨ok && (isLive k && (Nat.beq L.length len && (othersOk (notB i) pos args && (h.all (fun b => b.c.idsP (notB i)) && (v.idsP (fromB h.length) && nw.all (fun b => b.c.idsP (fromB h.length))))))), v, [], nw⟩
        | _ => ⟨false, .bad, [], []⟩)
      | none => ⟨false, .bad, [], []⟩)
    | _ => F args h)
  | _ => F args h

theorem hcon_normI {P : Program} {G : List Nat} {f : FuncId} {F : HF} (pos : Nat) (ki : IntKind) (hF : HCon P G f F) : HCon P G f (normI pos ki F) := by
  intro args h v ch nw hE m us w H hv hg
  unfold normI at hE
  split at hE
  · rename_i i len cap ha
    split at hE
    · rename_i l k hb
      split at hE
      · rename_i L hL
        split at hE
        · rename_i ok v' nw' hF'
          simp only [HR.mk.injEq, Bool.and_eq_true] at hE
          obtain ⟨⟨rfl, g1, g2, g3, g4, g5, g6⟩, rfl, rfl, rfl⟩ := hE
          have hkd : k ≠ .dead := by intro e; subst e; cases g1
          have hlen : L.length = len := by simpa using g2
          obtain ⟨u0, hu0, hux⟩ := vals_get hv ha
          simp only [SV.val, Option.bind_eq_some_iff] at hux
          obtain ⟨p, hp, hsl⟩ := hux
          obtain ⟨hpn, hlc, rfl⟩ := sl_some hsl
          have hil : i < m.length := (List.getElem?_eq_some_iff.1 hp).1
          have hih : i < h.length := (List.getElem?_eq_some_iff.1 hb).1
          obtain ⟨hcl, hcg⟩ := intsO_spec hL
          have H0 := H.holds i p _ hp hb hkd
          obtain ⟨m', hm'⟩ : ∃ m', m' = m.set i ⟨p.blk, p.off, cap, false⟩ := ⟨_, rfl⟩
          have hmi : m'[i]? = some ⟨p.blk, p.off, cap, false⟩ := by rw [hm', List.getElem?_set, if_pos rfl, if_pos hil]
          have hmn : ∀ j, j ≠ i → m'[j]? = m[j]? := by intro j hj; rw [hm', List.getElem?_set, if_neg (fun e => hj e.symm)]
          have hml : m'.length = m.length := by rw [hm', List.length_set]
          have hmB : ∀ j, notB i j = true → m'[j]? = m[j]? := by
            intro j hj
            refine hmn j (fun e => ?_)
            subst e
            simp [notB] at hj
          have hhi : (h.set i (⟨.ints ki L, .ro⟩ : Blk))[i]? = some ⟨.ints ki L, .ro⟩ := by rw [List.getElem?_set, if_pos rfl, if_pos hih]
          have hhn : ∀ j, j ≠ i → (h.set i (⟨.ints ki L, .ro⟩ : Blk))[j]? = h[j]? := by intro j hj; rw [List.getElem?_set, if_neg (fun e => hj e.symm)]
          have T' : HTie m' (h.set i ⟨.ints ki L, .ro⟩) w := by
            refine ⟨by rw [hml, List.length_set, H.len], fun j q b hq hb' hd => ?_, fun j j' q q' b c hne hq hq' hb1 hb2 hd1 hd2 hn1 hn2 hw => ?_⟩
            · by_cases hj : j = i
              · subst hj
                rw [hmi] at hq; rw [hhi] at hb'
                cases hq; cases hb'
                refine ⟨trivial, fun e => by simp at e, fun _ => H0.lt hpn, fun x hx => ?_, fun e => by simp [BK.wr] at e, fun e => by simp [BK.wr] at e, fun es e => by simp at e, fun es e => by simp at e⟩
                simp only [Cs.size] at hx
                rw [hcl] at hx
                obtain ⟨y, y1, y2, y3⟩ := H0.cells x hx
                refine ⟨y, ?_, y2, y3⟩
                show (SV.int ki (L.getD x 0)).val m' = some y
                have hid : (SV.int ki (L.getD x 0)).idsLt 0 = true := rfl
                have hs2 := hcg x hx m
                rw [val_free hid (m := m) (m0 := m') (x := y) (by rw [hs2]; exact y1)]
              · rw [hmn j hj] at hq; rw [hhn j hj] at hb'
                exact holds_idsP hmB (List.all_eq_true.1 g4 b (List.mem_of_getElem? hb')) (H.holds j q b hq hb' hd)
            · by_cases hj : j = i
              · subst hj
                have hj' : j' ≠ j := fun e => hne e.symm
                rw [hmi] at hq; rw [hhi] at hb1; rw [hmn j' hj'] at hq'; rw [hhn j' hj'] at hb2
                cases hq; cases hb1
                have hcw : c.k.wr = true := by
                  rcases hw with hw | hw
                  · cases hw
                  · exact hw
                exact H.apart j j' p q' _ c hne hp hq' hb hb2 hkd hd2 hpn hn2 (.inr hcw)
              · rw [hmn j hj] at hq; rw [hhn j hj] at hb1
                by_cases hj2 : j' = i
                · subst hj2
                  rw [hmi] at hq'; rw [hhi] at hb2
                  cases hq'; cases hb2
                  have hcw : b.k.wr = true := by
                    rcases hw with hw | hw
                    · exact hw
                    · cases hw
                  exact H.apart j j' q p b _ hne hq hp hb1 hb hd1 hkd hn1 hpn (.inl hcw)
                · rw [hmn j' hj2] at hq'; rw [hhn j' hj2] at hb2
                  exact H.apart j j' q q' b c hne hq hq' hb1 hb2 hd1 hd2 hn1 hn2 hw
          have hv' : SV.vals m' (args.set pos (.row i len)) = some us := by
            refine vals_setN hmB hv ha g3 (fun u hu => ?_)
            simp only [SV.val, hp, Option.bind_some, Pl.sl, hpn, Bool.false_eq_true, if_false, if_pos hlc, Option.some.injEq] at hu
            subst hu
            simp only [SV.val, hmi, Option.bind_some, Pl.row, Bool.false_eq_true, if_false, if_pos hlc, Nat.add_zero]
          have hg' : GOk G m' := fun x g hx => by
            obtain ⟨q, q1, q2, q3, q4⟩ := hg x g hx
            by_cases hj : x = i
            · subst hj
              rw [hp] at q1; cases q1
              exact ⟨_, hmi, rfl, q3, q4⟩
            · exact ⟨q, by rw [hmn x hj]; exact q1, q2, q3, q4⟩
          obtain ⟨fn, c1, c2, c3, c4⟩ := hF _ _ _ _ _ hF' m' us w T' hv' hg'
          refine ⟨fn, c1, c2, c3, c4.mono ?_⟩
          rintro e w' ⟨u, m2, rfl, e1, e2⟩
          have hmF : ∀ j, fromB h.length j = true → (m ++ m2)[j]? = (m' ++ m2)[j]? := by
            intro j hj
            have hj : h.length ≤ j := by simpa [fromB] using hj
            rw [List.getElem?_append_right (by rw [H.len]; exact hj), List.getElem?_append_right (by rw [hml, H.len]; exact hj), hml]
          refine ⟨u, m2, rfl, by rw [SV.val_idsP hmF _ g5]; exact e1, ?_⟩
          have hact : ∀ (hh : List Blk) (j : Nat) (b : Blk), (actB hh [])[j]? = some b → b.k = .dead := by
            intro hh j b hb
            by_cases hd : b.k = .dead
            · exact hd
            · have := actB_get hh [] j b hb hd
              simp at this
          have hlen2 : (actB h []).length = h.length := actB_length h []
          have hlen3 : (actB (h.set i (⟨.ints ki L, .ro⟩ : Blk)) []).length = h.length := by rw [actB_length, List.length_set]
          have key : ∀ (j : Nat) (q : Pl) (b : Blk), (m ++ m2)[j]? = some q → (actB h [] ++ nw')[j]? = some b → b.k ≠ .dead → (m' ++ m2)[j]? = some q ∧ (actB (h.set i (⟨.ints ki L, .ro⟩ : Blk)) [] ++ nw')[j]? = some b ∧ b ∈ nw' := by
            intro j q b hq hb' hd
            rcases Nat.lt_or_ge j h.length with hj | hj
            · rw [List.getElem?_append_left (by rw [hlen2]; exact hj)] at hb'
              exact absurd (hact _ _ _ hb') hd
            · rw [List.getElem?_append_right (by rw [hlen2]; exact hj), hlen2] at hb'
              refine ⟨by rw [← hmF j (by simp [fromB]; exact hj)]; exact hq, ?_, List.mem_of_getElem? hb'⟩
              rw [List.getElem?_append_right (by rw [hlen3]; exact hj), hlen3]
              exact hb'
          refine ⟨⟨?_, fun j q b hq hb' hd => ?_, fun j j' q q' b c hne hq hq' hb1 hb2 hd1 hd2 hn1 hn2 hw => ?_⟩, e2.os, e2.tape, e2.output, e2.size, fun b hb' hk => ?_, fun j q c hq hc hw hn => ?_, fun j q c hq hc hd hn => ?_⟩
          · have := e2.tie.len
            simp only [List.length_append, hlen3, hml] at this
            simp only [List.length_append, hlen2]
            omega
          · obtain ⟨k1, k2, k3⟩ := key j q b hq hb' hd
            exact holds_idsP hmF (List.all_eq_true.1 g6 b k3) (e2.tie.holds j q b k1 k2 hd)
          · obtain ⟨k1, k2, _⟩ := key j q b hq hb1 hd1
            obtain ⟨k3, k4, _⟩ := key j' q' c hq' hb2 hd2
            exact e2.tie.apart j j' q q' b c hne k1 k3 k2 k4 hd1 hd2 hn1 hn2 hw
          · exact e2.kept b hb' (fun k p c hk1 => by simp at hk1)
          · rcases e2.kinds j q c hq hc hw hn with ⟨k, q0, c0, hk1, _⟩ | hk
            · simp at hk1
            · exact .inr hk
          · rcases e2.src j q c hq hc hd hn with ⟨k, q0, c0, k1, k2, k3, k4, k5⟩ | hk
            · by_cases hj : k = i
              · subst hj
                rw [hmi] at k1; cases k1
                exact .inl ⟨k, p, _, hp, hb, hkd, hpn, k5⟩
              · rw [hmn k hj] at k1; rw [hhn k hj] at k2
                exact .inl ⟨k, q0, c0, k1, k2, k3, k4, k5⟩
            · exact .inr hk
        · simp at hE
      · simp at hE
    · exact hF args h v ch nw hE m us w H hv hg
  · exact hF args h v ch nw hE m us w H hv hg

end Go.Eng
