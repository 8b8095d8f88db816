/- How a walk with blocks ends that hands back no block. It has no conditions. -/
import Derived.Test.YtnhobbdijdbbeaaEngC
namespace Go.Eng
open Go.RowKit

mutual
theorem SV.sb_any {ρ ρ' : List RE} : ∀ (v r : SV), v.idsLt 0 = true → v.sb ρ r → v.sb ρ' r
  | .int k x, r, _, h => by cases r <;> exact h
  | .num k x, r, _, h => by cases r <;> exact h
  | .bool x, r, _, h => by cases r <;> exact h
  | .str x, r, _, h => by cases r <;> exact h
  | .ptr id off, r, h0, _ => by cases h0
  | .elt id j sz off, r, h0, _ => by cases h0
  | .slice id off len cap, r, h0, _ => by cases h0
  | .row id len, r, h0, _ => by cases h0
  | .nilp, r, _, h => by cases r <;> exact h
  | .nils, r, _, h => by cases r <;> exact h
  | .fn f cs, r, h0, h => by
    cases r <;> try exact h
    exact ⟨h.1, SV.sbs_any cs _ h0 h.2⟩
  | .agg l, r, h0, h => by
    cases r <;> try exact h
    exact SV.sbs_any l _ h0 h
  | .tup l, r, h0, h => by
    cases r <;> try exact h
    exact SV.sbs_any l _ h0 h
  | .bad, r, _, h => h
theorem SV.sbs_any {ρ ρ' : List RE} : ∀ (l r : List SV), SV.idsLts 0 l = true → SV.sbs ρ l r → SV.sbs ρ' l r
  | [], r, _, h => by cases r <;> exact h
  | v :: l, r, h0, h => by
    cases r with
    | nil => exact h
    | cons w s =>
      obtain ⟨a, b⟩ := idsLts_cons.1 h0
      exact ⟨SV.sb_any v w a h.1, SV.sbs_any l s b h.2⟩
end

theorem actN_nil : ∀ n, actN n [] = List.replicate n Blk.nil
  | 0 => rfl
  | n + 1 => by
    show Blk.nil :: actN n [] = _
    rw [actN_nil n]; rfl

theorem distB_nil : ∀ (n : Nat) (ρ : List RE), distB ρ (List.replicate n Blk.nil) = true
  | 0, [] => rfl
  | 0, _ :: _ => rfl
  | n + 1, [] => rfl
  | n + 1, e :: r => by
    show ((match headOf e with | some k => !Blk.nil.live || d2 k Blk.nil.may r (List.replicate n Blk.nil) | none => true) && distB r (List.replicate n Blk.nil)) = true
    rw [distB_nil n r]
    cases headOf e <;> rfl

theorem sbH_nil {ρ : List RE} {h : List Blk} : ∀ (n i : Nat), sbH ρ (idents i n) (List.replicate n Blk.nil) h
  | 0, _ => trivial
  | n + 1, i => ⟨trivial, sbH_nil n (i + 1)⟩

/-- No block is handed back, none turned. -/
theorem finH0 {n : Nat} {v : SV} {ok : Bool} {r : SV} {h : List Blk} {K : Bool → SV → List Blk → Prop} (hK : K = FinH n v [] [] (uniR n v [] [])) (ho : ok = true) (hc : v.idsLt 0 = true) (hs : v.sb [] r) : K ok r h := by
  rw [hK]
  refine ⟨ho, ?_, SV.sb_any v r hc hs, ?_⟩
  · rw [actN_nil, List.append_nil]
    exact distB_nil n _
  · rw [actN_nil, List.append_nil]
    show sbH (idents 0 n ++ []) (idents 0 n ++ []) _ h
    rw [List.append_nil]
    exact sbH_nil n 0

/-- The same, the value told by an equation. -/
theorem finH_eq {n : Nat} {v : SV} {ok : Bool} {r : SV} {h : List Blk} {K : Bool → SV → List Blk → Prop} (hK : K = FinH n v [] [] (uniR n v [] [])) (ho : ok = true) (hc : v.idsLt 0 = true) (hs : FinP v ok r h) : K ok r h := finH0 hK ho hc hs.2.2

end Go.Eng
