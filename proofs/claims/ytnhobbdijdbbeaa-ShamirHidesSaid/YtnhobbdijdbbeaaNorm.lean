/- A contract for a slice of records serves a slice that was written out, too. It has no conditions. -/
import Derived.Test.YtnhobbdijdbbeaaEngC
namespace Go.Eng
open Go.RowKit
set_option linter.unusedSimpArgs false
set_option linter.unusedVariables false

mutual
/-- All the blocks that a value names are such. -/
def SV.idsP (p : Nat → Bool) : SV → Bool
  | .ptr id _ => p id
  | .elt id _ _ _ => p id
  | .slice id _ _ _ => p id
  | .row id _ => p id
  | .fn _ cs => SV.idsPs p cs
  | .agg l => SV.idsPs p l
  | .tup l => SV.idsPs p l
  | .int _ _ => true
  | .num _ _ => true
  | .bool _ => true
  | .str _ => true
  | .nilp => true
  | .nils => true
  | .bad => true
def SV.idsPs (p : Nat → Bool) : List SV → Bool
  | [] => true
  | v :: r => match v.idsP p with
    | true => SV.idsPs p r
    | false => false
end

mutual
theorem SV.val_idsP {p : Nat → Bool} {m m' : List Pl} (h : ∀ j, p j = true → m'[j]? = m[j]?) : ∀ (v : SV), v.idsP p = true → v.val m' = v.val m
  | .int k x, _ => by simp [SV.val]
  | .num k x, _ => by simp [SV.val]
  | .bool b, _ => by simp [SV.val]
  | .str s, _ => by simp [SV.val]
  | .ptr id off, e => by simp only [SV.idsP] at e; simp only [SV.val, h id e]
  | .elt id j sz off, e => by simp only [SV.idsP] at e; simp only [SV.val, h id e]
  | .nilp, _ => by simp [SV.val]
  | .slice id off len cap, e => by simp only [SV.idsP] at e; simp only [SV.val, h id e]
  | .row id len, e => by simp only [SV.idsP] at e; simp only [SV.val, h id e]
  | .nils, _ => by simp [SV.val]
  | .fn g cs, e => by simp only [SV.val]; rw [SV.vals_idsP h cs (by simpa [SV.idsP] using e)]
  | .agg l, e => by simp only [SV.val]; rw [SV.vals_idsP h l (by simpa [SV.idsP] using e)]
  | .tup l, e => by simp only [SV.val]; rw [SV.vals_idsP h l (by simpa [SV.idsP] using e)]
  | .bad, _ => by simp [SV.val]
theorem SV.vals_idsP {p : Nat → Bool} {m m' : List Pl} (h : ∀ j, p j = true → m'[j]? = m[j]?) : ∀ (l : List SV), SV.idsPs p l = true → SV.vals m' l = SV.vals m l
  | [], _ => by simp [SV.vals]
  | v :: r, e => by
    have e' : v.idsP p = true ∧ SV.idsPs p r = true := by
      simp only [SV.idsPs] at e
      split at e
      · rename_i h1; exact ⟨h1, e⟩
      · cases e
    simp only [SV.vals]
    rw [SV.val_idsP h v e'.1, SV.vals_idsP h r e'.2]
end

theorem idsPs_get {p : Nat → Bool} : ∀ {l : List SV}, SV.idsPs p l = true → ∀ i, (l.getD i .bad).idsP p = true
  | [], _, i => by simp [SV.idsP]
  | v :: r, e, i => by
    have e' : v.idsP p = true ∧ SV.idsPs p r = true := by
      simp only [SV.idsPs] at e
      split at e
      · rename_i h1; exact ⟨h1, e⟩
      · cases e
    cases i with
    | zero => exact e'.1
    | succ i => exact idsPs_get e'.2 i

def Cs.idsP (p : Nat → Bool) : Cs → Bool
  | .lit l => SV.idsPs p l
  | .cat _ a b => a.idsP p && b.idsP p
  | .ints _ _ => true
  | .recs _ _ => true

theorem Cs.get_idsP {p : Nat → Bool} : ∀ {c : Cs}, c.idsP p = true → ∀ i, (c.get i).idsP p = true
  | .lit l, h, i => idsPs_get h i
  | .ints k l, _, i => rfl
  | .recs ks l, _, i => by
    show (cellK l (i / ks.length) (i % ks.length) ks[i % ks.length]?).idsP p = true
    unfold cellK; split <;> rfl
  | .cat n a b, h, i => by
    simp only [Cs.idsP, Bool.and_eq_true] at h
    simp only [Cs.get]
    split
    · exact Cs.get_idsP h.1 i
    · exact Cs.get_idsP h.2 _

theorem holds_idsP {p : Nat → Bool} {m m' : List Pl} (h : ∀ j, p j = true → m'[j]? = m[j]?) {w : World} {q : Pl} {b : Blk} (hb : b.c.idsP p = true) (H : Holds m w q b) : Holds m' w q b :=
  ⟨H.wf, H.nl, H.lt, fun i hi => by
    obtain ⟨v, h1, h2, h3⟩ := H.cells i hi
    exact ⟨v, by rw [SV.val_idsP h _ (Cs.get_idsP hb i)]; exact h1, h2, h3⟩, H.wr, H.z, H.fu, H.sp⟩

def isLive : BK → Bool
  | .dead => false
  | _ => true

def notB (i : Nat) (j : Nat) : Bool := !(Nat.beq j i)
def fromB (n : Nat) (j : Nat) : Bool := Nat.ble n j

def othersOk (p : Nat → Bool) : Nat → List SV → Bool
  | _, [] => true
  | 0, _ :: r => SV.idsPs p r
  | n + 1, v :: r => v.idsP p && othersOk p n r

/-- The contract at an argument that is a slice written out. -/
def norm1 (pos : Nat) (ks : List CK) (F : HF) : HF := fun args h => match args[pos]? with
  | some (.slice i 0 len cap) => (match h[i]? with
    | some ⟨.lit l, k⟩ => (match chunk ks l.length l with
      | some L => (match F (args.set pos (.row i len)) (h.set i ⟨.recs ks L, .ro⟩) with
        | ⟨ok, v, [], nw⟩ => ⟨ok && (isLive k && (Nat.beq L.length len && (othersOk (notB i) pos args && (h.all (fun b => b.c.idsP (notB i)) && (v.idsP (fromB h.length) && nw.all (fun b => b.c.idsP (fromB h.length))))))), v, [], nw⟩
        | _ => ⟨false, .bad, [], []⟩)
      | none => ⟨false, .bad, [], []⟩)
    | _ => F args h)
  | _ => F args h

theorem vals_setN {m m' : List Pl} {p : Nat → Bool} (hm : ∀ j, p j = true → m'[j]? = m[j]?) : ∀ {pos : Nat} {args : List SV} {us : List Value} {x y : SV}, SV.vals m args = some us → args[pos]? = some x → othersOk p pos args = true → (∀ u, x.val m = some u → y.val m' = some u) → SV.vals m' (args.set pos y) = some us
  | 0, a :: r, us, x, y, hv, hx, ho, hy => by
    simp only [List.getElem?_cons_zero, Option.some.injEq] at hx
    subst hx
    simp only [SV.vals, Option.bind_eq_some_iff, Option.map_eq_some_iff] at hv
    obtain ⟨u, hu, us', hus, rfl⟩ := hv
    simp only [List.set_cons_zero, SV.vals, hy u hu, Option.bind_some]
    rw [SV.vals_idsP hm r ho, hus]
    rfl
  | pos + 1, a :: r, us, x, y, hv, hx, ho, hy => by
    simp only [List.getElem?_cons_succ] at hx
    simp only [othersOk, Bool.and_eq_true] at ho
    simp only [SV.vals, Option.bind_eq_some_iff, Option.map_eq_some_iff] at hv
    obtain ⟨u, hu, us', hus, rfl⟩ := hv
    simp only [List.set_cons_succ, SV.vals]
    rw [SV.val_idsP hm a ho.1, hu]
    simp only [Option.bind_some]
    rw [vals_setN hm hus hx ho.2 hy]
    rfl
  | _, [], _, _, _, _, hx, _, _ => by simp at hx

theorem hcon_norm1 {P : Program} {G : List Nat} {f : FuncId} {F : HF} (pos : Nat) (ks : List CK) (hF : HCon P G f F) : HCon P G f (norm1 pos ks F) := by
  intro args h v ch nw hE m us w H hv hg
  unfold norm1 at hE
  split at hE
  · rename_i i len cap ha
    split at hE
    · rename_i l k hb
      split at hE
      · rename_i L hL
        split at hE
        · rename_i ok v' nw' hF'
          simp only [HR.mk.injEq, Bool.and_eq_true] at hE
          obtain ⟨⟨rfl, g1, g2, g3, g4, g5, g6⟩, rfl, rfl, rfl⟩ := hE
          have hkd : k ≠ .dead := by intro e; subst e; cases g1
          have hlen : L.length = len := by simpa using g2
          obtain ⟨u0, hu0, hux⟩ := vals_get hv ha
          simp only [SV.val, Option.bind_eq_some_iff] at hux
          obtain ⟨p, hp, hsl⟩ := hux
          obtain ⟨hpn, hlc, rfl⟩ := sl_some hsl
          have hil : i < m.length := (List.getElem?_eq_some_iff.1 hp).1
          have hih : i < h.length := (List.getElem?_eq_some_iff.1 hb).1
          obtain ⟨hcl, hcg⟩ := chunk_spec hL
          have H0 := H.holds i p _ hp hb hkd
          obtain ⟨m', hm'⟩ : ∃ m', m' = m.set i ⟨p.blk, p.off, cap, false⟩ := ⟨_, rfl⟩
          have hmi : m'[i]? = some ⟨p.blk, p.off, cap, false⟩ := by rw [hm', List.getElem?_set, if_pos rfl, if_pos hil]
          have hmn : ∀ j, j ≠ i → m'[j]? = m[j]? := by intro j hj; rw [hm', List.getElem?_set, if_neg (fun e => hj e.symm)]
          have hml : m'.length = m.length := by rw [hm', List.length_set]
          have hmB : ∀ j, notB i j = true → m'[j]? = m[j]? := by
            intro j hj
            refine hmn j (fun e => ?_)
            subst e
            simp [notB] at hj
          have hhi : (h.set i (⟨.recs ks L, .ro⟩ : Blk))[i]? = some ⟨.recs ks L, .ro⟩ := by rw [List.getElem?_set, if_pos rfl, if_pos hih]
          have hhn : ∀ j, j ≠ i → (h.set i (⟨.recs ks L, .ro⟩ : Blk))[j]? = h[j]? := by intro j hj; rw [List.getElem?_set, if_neg (fun e => hj e.symm)]
          have T' : HTie m' (h.set i ⟨.recs ks L, .ro⟩) w := by
            refine ⟨by rw [hml, List.length_set, H.len], fun j q b hq hb' hd => ?_, fun j j' q q' b c hne hq hq' hb1 hb2 hd1 hd2 hn1 hn2 hw => ?_⟩
            · by_cases hj : j = i
              · subst hj
                rw [hmi] at hq; rw [hhi] at hb'
                cases hq; cases hb'
                refine ⟨trivial, fun e => by simp at e, fun _ => H0.lt hpn, fun x hx => ?_, fun e => by simp [BK.wr] at e, fun e => by simp [BK.wr] at e, fun es e => by simp at e, fun es e => by simp at e⟩
                simp only [Cs.size] at hx
                rw [← hcl] at hx
                obtain ⟨y, y1, y2, y3⟩ := H0.cells x hx
                refine ⟨y, ?_, y2, y3⟩
                have hsame := hcg x hx m'
                show (cellK L (x / ks.length) (x % ks.length) ks[x % ks.length]?).val m' = some y
                have hid : (cellK L (x / ks.length) (x % ks.length) ks[x % ks.length]?).idsLt 0 = true := cellK_free _ _ _ _
                have hs2 := hcg x hx m
                rw [val_free hid (m := m) (m0 := m') (x := y) (by rw [hs2]; exact y1)]
              · rw [hmn j hj] at hq; rw [hhn j hj] at hb'
                exact holds_idsP hmB (List.all_eq_true.1 g4 b (List.mem_of_getElem? hb')) (H.holds j q b hq hb' hd)
            · by_cases hj : j = i
              · subst hj
                have hj' : j' ≠ j := fun e => hne e.symm
                rw [hmi] at hq; rw [hhi] at hb1; rw [hmn j' hj'] at hq'; rw [hhn j' hj'] at hb2
                cases hq; cases hb1
                have hcw : c.k.wr = true := by
                  rcases hw with hw | hw
                  · cases hw
                  · exact hw
                exact H.apart j j' p q' _ c hne hp hq' hb hb2 hkd hd2 hpn hn2 (.inr hcw)
              · rw [hmn j hj] at hq; rw [hhn j hj] at hb1
                by_cases hj2 : j' = i
                · subst hj2
                  rw [hmi] at hq'; rw [hhi] at hb2
                  cases hq'; cases hb2
                  have hcw : b.k.wr = true := by
                    rcases hw with hw | hw
                    · exact hw
                    · cases hw
                  exact H.apart j j' q p b _ hne hq hp hb1 hb hd1 hkd hn1 hpn (.inl hcw)
                · rw [hmn j' hj2] at hq'; rw [hhn j' hj2] at hb2
                  exact H.apart j j' q q' b c hne hq hq' hb1 hb2 hd1 hd2 hn1 hn2 hw
          have hv' : SV.vals m' (args.set pos (.row i len)) = some us := by
            refine vals_setN hmB hv ha g3 (fun u hu => ?_)
            simp only [SV.val, hp, Option.bind_some, Pl.sl, hpn, Bool.false_eq_true, if_false, if_pos hlc, Option.some.injEq] at hu
            subst hu
            simp only [SV.val, hmi, Option.bind_some, Pl.row, Bool.false_eq_true, if_false, if_pos hlc, Nat.add_zero]
          have hg' : GOk G m' := fun x g hx => by
            obtain ⟨q, q1, q2, q3, q4⟩ := hg x g hx
            by_cases hj : x = i
            · subst hj
              rw [hp] at q1; cases q1
              exact ⟨_, hmi, rfl, q3, q4⟩
            · exact ⟨q, by rw [hmn x hj]; exact q1, q2, q3, q4⟩
          obtain ⟨fn, c1, c2, c3, c4⟩ := hF _ _ _ _ _ hF' m' us w T' hv' hg'
          refine ⟨fn, c1, c2, c3, c4.mono ?_⟩
          rintro e w' ⟨u, m2, rfl, e1, e2⟩
          have hmF : ∀ j, fromB h.length j = true → (m ++ m2)[j]? = (m' ++ m2)[j]? := by
            intro j hj
            have hj : h.length ≤ j := by simpa [fromB] using hj
            rw [List.getElem?_append_right (by rw [H.len]; exact hj), List.getElem?_append_right (by rw [hml, H.len]; exact hj), hml]
          refine ⟨u, m2, rfl, by rw [SV.val_idsP hmF _ g5]; exact e1, ?_⟩
          have hact : ∀ (hh : List Blk) (j : Nat) (b : Blk), (actB hh [])[j]? = some b → b.k = .dead := by
            intro hh j b hb
            by_cases hd : b.k = .dead
            · exact hd
            · have := actB_get hh [] j b hb hd
              simp at this
          have hlen2 : (actB h []).length = h.length := actB_length h []
          have hlen3 : (actB (h.set i (⟨.recs ks L, .ro⟩ : Blk)) []).length = h.length := by rw [actB_length, List.length_set]
          have key : ∀ (j : Nat) (q : Pl) (b : Blk), (m ++ m2)[j]? = some q → (actB h [] ++ nw')[j]? = some b → b.k ≠ .dead → (m' ++ m2)[j]? = some q ∧ (actB (h.set i (⟨.recs ks L, .ro⟩ : Blk)) [] ++ nw')[j]? = some b ∧ b ∈ nw' := by
            intro j q b hq hb' hd
            rcases Nat.lt_or_ge j h.length with hj | hj
            · rw [List.getElem?_append_left (by rw [hlen2]; exact hj)] at hb'
              exact absurd (hact _ _ _ hb') hd
            · rw [List.getElem?_append_right (by rw [hlen2]; exact hj), hlen2] at hb'
              refine ⟨by rw [← hmF j (by simp [fromB]; exact hj)]; exact hq, ?_, List.mem_of_getElem? hb'⟩
              rw [List.getElem?_append_right (by rw [hlen3]; exact hj), hlen3]
              exact hb'
          refine ⟨⟨?_, fun j q b hq hb' hd => ?_, fun j j' q q' b c hne hq hq' hb1 hb2 hd1 hd2 hn1 hn2 hw => ?_⟩, e2.os, e2.tape, e2.output, e2.size, fun b hb' hk => ?_, fun j q c hq hc hw hn => ?_, fun j q c hq hc hd hn => ?_⟩
          · have := e2.tie.len
            simp only [List.length_append, hlen3, hml] at this
            simp only [List.length_append, hlen2]
            omega
          · obtain ⟨k1, k2, k3⟩ := key j q b hq hb' hd
            exact holds_idsP hmF (List.all_eq_true.1 g6 b k3) (e2.tie.holds j q b k1 k2 hd)
          · obtain ⟨k1, k2, _⟩ := key j q b hq hb1 hd1
            obtain ⟨k3, k4, _⟩ := key j' q' c hq' hb2 hd2
            exact e2.tie.apart j j' q q' b c hne k1 k3 k2 k4 hd1 hd2 hn1 hn2 hw
          · exact e2.kept b hb' (fun k p c hk1 => by simp at hk1)
          · rcases e2.kinds j q c hq hc hw hn with ⟨k, q0, c0, hk1, _⟩ | hk
            · simp at hk1
            · exact .inr hk
          · rcases e2.src j q c hq hc hd hn with ⟨k, q0, c0, k1, k2, k3, k4, k5⟩ | hk
            · by_cases hj : k = i
              · subst hj
                rw [hmi] at k1; cases k1
                exact .inl ⟨k, p, _, hp, hb, hkd, hpn, k5⟩
              · rw [hmn k hj] at k1; rw [hhn k hj] at k2
                exact .inl ⟨k, q0, c0, k1, k2, k3, k4, k5⟩
            · exact .inr hk
        · simp at hE
      · simp at hE
    · exact hF args h v ch nw hE m us w H hv hg
  · exact hF args h v ch nw hE m us w H hv hg

end Go.Eng
