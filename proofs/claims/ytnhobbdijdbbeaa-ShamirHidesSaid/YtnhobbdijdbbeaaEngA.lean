/- An engine that walks through the operations of a function; this part: values, memory, the operations. It has no conditions. -/
import Derived.WalkKit
import Derived.Deep.Quiet
import Derived.ScopeJumps
import Derived.LoopN
import Derived.Deep.LoopGhost
import Derived.Deep.AppendSrc
import Derived.Lib.AppendZerosOnto
import Derived.Laws.BytesString
import Derived.Laws.MakeOwn
import Derived.Laws.IdiomCopy
namespace Go.Eng
open Go.RowKit

/-- Where an abstract block lies: its block, its first cell, how many elements a slice of it may have; or nowhere (the block of a nil slice). -/
structure Pl where
  blk : Nat
  off : Nat
  cap : Nat
  nil : Bool

/-- A scalar of one cell, without a pointer. -/
inductive Sc where
  | int (k : IntKind) (n : Int)
  | bool (b : Bool)
  | str (s : ByteArray)

/-- The kinds of a value's cells. -/
inductive CK where
  | int (k : IntKind) | bool | str

inductive SV where
  | int (k : IntKind) (n : Int)
  | num (k : IntKind) (n : Int)
  | bool (b : Bool)
  | str (s : ByteArray)
  | ptr (id off : Nat)
  | elt (id j sz off : Nat)
  | nilp
  | slice (id off len cap : Nat)
  | row (id len : Nat)
  | nils
  | fn (f : FuncId) (cs : List SV)
  | agg (l : List SV)
  | tup (l : List SV)
  | bad

instance : Inhabited SV := ⟨.bad⟩

def Pl.ptr (p : Pl) (off : Nat) : Option Value := if p.nil = true then none else some (.pointer (some ⟨p.blk, p.off + off, none⟩))
def Pl.sl (p : Pl) (off len cap : Nat) : Option Value := if p.nil = true then none else if len ≤ cap then some (.slice (some ⟨p.blk, p.off + off, none⟩) len cap) else none
def Pl.row (p : Pl) (len : Nat) : Option Value := if p.nil = true then (if len = 0 then some (.slice none 0 0) else none) else if len ≤ p.cap then some (.slice (some ⟨p.blk, p.off, none⟩) len p.cap) else none

mutual
def SV.val (m : List Pl) : SV → Option Value
  | .int k n => if k.wrap n = n then some (.int k n) else none
  | .num k n => if k.wrap n = n then some (.int k n) else none
  | .bool b => some (.bool b)
  | .str s => some (.string s)
  | .ptr id off => (m[id]?).bind fun p => p.ptr off
  | .elt id j sz off => (m[id]?).bind fun p => p.ptr (j * sz + off)
  | .nilp => some (.pointer none)
  | .slice id off len cap => (m[id]?).bind fun p => p.sl off len cap
  | .row id len => (m[id]?).bind fun p => p.row len
  | .nils => some (.slice none 0 0)
  | .fn f cs => (SV.vals m cs).map fun vs => .func (.func f) #[] vs.toArray
  | .agg l => (SV.vals m l).map fun vs => .agg vs.toArray
  | .tup l => (SV.vals m l).map fun vs => .tuple vs.toArray
  | .bad => none
def SV.vals (m : List Pl) : List SV → Option (List Value)
  | [] => some []
  | v :: r => (v.val m).bind fun a => (SV.vals m r).map fun b => a :: b
end

mutual
def SV.idsLt (n : Nat) : SV → Bool
  | .ptr id _ => Nat.ble (id + 1) n
  | .elt id _ _ _ => Nat.ble (id + 1) n
  | .slice id _ _ _ => Nat.ble (id + 1) n
  | .row id _ => Nat.ble (id + 1) n
  | .fn _ cs => SV.idsLts n cs
  | .agg l => SV.idsLts n l
  | .tup l => SV.idsLts n l
  | .int _ _ => true
  | .num _ _ => true
  | .bool _ => true
  | .str _ => true
  | .nilp => true
  | .nils => true
  | .bad => true
def SV.idsLts (n : Nat) : List SV → Bool
  | [] => true
  | v :: r => match v.idsLt n with
    | true => SV.idsLts n r
    | false => false
end

mutual
/-- The blocks by other numbers. -/
def SV.ren (f : Nat → Nat) : SV → SV
  | .ptr id off => .ptr (f id) off
  | .elt id j sz off => .elt (f id) j sz off
  | .slice id off len cap => .slice (f id) off len cap
  | .row id len => .row (f id) len
  | .fn g cs => .fn g (SV.rens f cs)
  | .agg l => .agg (SV.rens f l)
  | .tup l => .tup (SV.rens f l)
  | .int k n => .int k n
  | .num k n => .num k n
  | .bool b => .bool b
  | .str s => .str s
  | .nilp => .nilp
  | .nils => .nils
  | .bad => .bad
def SV.rens (f : Nat → Nat) : List SV → List SV
  | [] => []
  | v :: r => v.ren f :: SV.rens f r
end

theorem rens_map (f : Nat → Nat) : ∀ l, SV.rens f l = l.map (SV.ren f)
  | [] => rfl
  | v :: r => by simp [SV.rens, rens_map f r]

theorem getElem?_pre {m m' : List Pl} (h : m <+: m') {i : Nat} {p : Pl} (hp : m[i]? = some p) : m'[i]? = some p := by
  obtain ⟨t, rfl⟩ := h
  rw [List.getElem?_append_left (List.getElem?_eq_some_iff.1 hp).1, hp]

mutual
/-- What a value comes to, by another list of places. -/
theorem SV.val_ren {m m' : List Pl} {f : Nat → Nat} (h : ∀ (i : Nat) (p : Pl), m[i]? = some p → m'[f i]? = some p) : ∀ (v : SV) {u : Value}, v.val m = some u → (v.ren f).val m' = some u
  | .int k n, u, e => by simpa [SV.val, SV.ren] using e
  | .num k n, u, e => by simpa [SV.val, SV.ren] using e
  | .bool b, u, e => by simpa [SV.val, SV.ren] using e
  | .str s, u, e => by simpa [SV.val, SV.ren] using e
  | .ptr id off, u, e => by
    simp only [SV.val, SV.ren, Option.bind_eq_some_iff] at e ⊢
    obtain ⟨p, hp, e⟩ := e
    exact ⟨p, h _ _ hp, e⟩
  | .elt id j sz off, u, e => by
    simp only [SV.val, SV.ren, Option.bind_eq_some_iff] at e ⊢
    obtain ⟨p, hp, e⟩ := e
    exact ⟨p, h _ _ hp, e⟩
  | .nilp, u, e => by simpa [SV.val, SV.ren] using e
  | .slice id off len cap, u, e => by
    simp only [SV.val, SV.ren, Option.bind_eq_some_iff] at e ⊢
    obtain ⟨p, hp, e⟩ := e
    exact ⟨p, h _ _ hp, e⟩
  | .row id len, u, e => by
    simp only [SV.val, SV.ren, Option.bind_eq_some_iff] at e ⊢
    obtain ⟨p, hp, e⟩ := e
    exact ⟨p, h _ _ hp, e⟩
  | .nils, u, e => by simpa [SV.val, SV.ren] using e
  | .fn g cs, u, e => by
    simp only [SV.val, SV.ren, Option.map_eq_some_iff] at e ⊢
    obtain ⟨p, hp, e⟩ := e
    exact ⟨p, SV.vals_ren h cs hp, e⟩
  | .agg l, u, e => by
    simp only [SV.val, SV.ren, Option.map_eq_some_iff] at e ⊢
    obtain ⟨p, hp, e⟩ := e
    exact ⟨p, SV.vals_ren h l hp, e⟩
  | .tup l, u, e => by
    simp only [SV.val, SV.ren, Option.map_eq_some_iff] at e ⊢
    obtain ⟨p, hp, e⟩ := e
    exact ⟨p, SV.vals_ren h l hp, e⟩
  | .bad, u, e => by simp [SV.val] at e
theorem SV.vals_ren {m m' : List Pl} {f : Nat → Nat} (h : ∀ (i : Nat) (p : Pl), m[i]? = some p → m'[f i]? = some p) : ∀ (l : List SV) {us : List Value}, SV.vals m l = some us → SV.vals m' (SV.rens f l) = some us
  | [], us, e => by simpa [SV.vals, SV.rens] using e
  | v :: r, us, e => by
    simp only [SV.vals, SV.rens, Option.bind_eq_some_iff, Option.map_eq_some_iff] at e ⊢
    obtain ⟨a, ha, b, hb, e⟩ := e
    exact ⟨a, SV.val_ren h v ha, b, SV.vals_ren h r hb, e⟩
end

mutual
theorem SV.ren_id : ∀ (v : SV), v.ren (fun i => i) = v
  | .int k n => rfl
  | .num k n => rfl
  | .bool b => rfl
  | .str s => rfl
  | .ptr id off => rfl
  | .elt id j sz off => rfl
  | .nilp => rfl
  | .slice id off len cap => rfl
  | .row id len => rfl
  | .nils => rfl
  | .fn g cs => by simp only [SV.ren]; rw [SV.rens_id cs]
  | .agg l => by simp only [SV.ren]; rw [SV.rens_id l]
  | .tup l => by simp only [SV.ren]; rw [SV.rens_id l]
  | .bad => rfl
theorem SV.rens_id : ∀ (l : List SV), SV.rens (fun i => i) l = l
  | [] => rfl
  | v :: r => by simp only [SV.rens]; rw [SV.ren_id v, SV.rens_id r]
end

theorem SV.val_mono {m m' : List Pl} (h : m <+: m') (v : SV) {u : Value} (e : v.val m = some u) : v.val m' = some u := by
  have := SV.val_ren (m := m) (m' := m') (f := fun i => i) (fun i p hp => getElem?_pre h hp) v e
  rwa [SV.ren_id] at this
theorem SV.vals_mono {m m' : List Pl} (h : m <+: m') (l : List SV) {us : List Value} (e : SV.vals m l = some us) : SV.vals m' l = some us := by
  have := SV.vals_ren (m := m) (m' := m') (f := fun i => i) (fun i p hp => getElem?_pre h hp) l e
  rwa [SV.rens_id] at this

mutual
/-- The other way: by numbers that are all told of. -/
theorem SV.ren_val {m m' : List Pl} {f : Nat → Nat} {n : Nat} (h : ∀ i, f i < n → m'[f i]? = m[i]?) : ∀ (v : SV), (v.ren f).idsLt n = true → (v.ren f).val m' = v.val m
  | .int k x, _ => by simp [SV.val, SV.ren]
  | .num k x, _ => by simp [SV.val, SV.ren]
  | .bool b, _ => by simp [SV.val, SV.ren]
  | .str s, _ => by simp [SV.val, SV.ren]
  | .ptr id off, e => by simp only [SV.ren, SV.idsLt, Nat.ble_eq] at e; simp only [SV.ren, SV.val, h id e]
  | .elt id j sz off, e => by simp only [SV.ren, SV.idsLt, Nat.ble_eq] at e; simp only [SV.ren, SV.val, h id e]
  | .nilp, _ => by simp [SV.val, SV.ren]
  | .slice id off len cap, e => by simp only [SV.ren, SV.idsLt, Nat.ble_eq] at e; simp only [SV.ren, SV.val, h id e]
  | .row id len, e => by simp only [SV.ren, SV.idsLt, Nat.ble_eq] at e; simp only [SV.ren, SV.val, h id e]
  | .nils, _ => by simp [SV.val, SV.ren]
  | .fn g cs, e => by simp only [SV.ren, SV.val]; rw [SV.rens_val h cs (by simpa [SV.ren, SV.idsLt] using e)]
  | .agg l, e => by simp only [SV.ren, SV.val]; rw [SV.rens_val h l (by simpa [SV.ren, SV.idsLt] using e)]
  | .tup l, e => by simp only [SV.ren, SV.val]; rw [SV.rens_val h l (by simpa [SV.ren, SV.idsLt] using e)]
  | .bad, _ => by simp [SV.val, SV.ren]
theorem SV.rens_val {m m' : List Pl} {f : Nat → Nat} {n : Nat} (h : ∀ i, f i < n → m'[f i]? = m[i]?) : ∀ (l : List SV), SV.idsLts n (SV.rens f l) = true → SV.vals m' (SV.rens f l) = SV.vals m l
  | [], _ => by simp [SV.vals, SV.rens]
  | v :: r, e => by
    have e' : (v.ren f).idsLt n = true ∧ SV.idsLts n (SV.rens f r) = true := by
      simp only [SV.rens, SV.idsLts] at e
      split at e
      · rename_i h1; exact ⟨h1, e⟩
      · cases e
    simp only [SV.vals, SV.rens]
    rw [SV.ren_val h v e'.1, SV.rens_val h r e'.2]
end

theorem idsLts_cons {n : Nat} {v : SV} {r : List SV} : SV.idsLts n (v :: r) = true ↔ v.idsLt n = true ∧ SV.idsLts n r = true := by
  simp only [SV.idsLts]
  cases v.idsLt n <;> simp

theorem getElem?_take_of {m : List Pl} {n i : Nat} (hi : i < n) : (m.take n)[i]? = m[i]? := by
  rw [List.getElem?_take]; simp [hi]

theorem SV.val_take {m : List Pl} {n : Nat} (v : SV) (h : v.idsLt n = true) : v.val (m.take n) = v.val m := by
  have := SV.ren_val (m := m) (m' := m.take n) (f := fun i => i) (n := n) (fun i hi => getElem?_take_of hi) v (by rwa [SV.ren_id])
  rwa [SV.ren_id] at this
theorem SV.vals_take {m : List Pl} {n : Nat} (l : List SV) (h : SV.idsLts n l = true) : SV.vals (m.take n) l = SV.vals m l := by
  have := SV.rens_val (m := m) (m' := m.take n) (f := fun i => i) (n := n) (fun i hi => getElem?_take_of hi) l (by rwa [SV.rens_id])
  rwa [SV.rens_id] at this

theorem val_int_of {m : List Pl} {k : IntKind} {n : Int} (h : k.wrap n = n) : (SV.int k n).val m = some (.int k n) := by simp [SV.val, h]
theorem val_num_of {m : List Pl} {k : IntKind} {n : Int} (h : k.wrap n = n) : (SV.num k n).val m = some (.int k n) := by simp [SV.val, h]

theorem vals_length {m : List Pl} : ∀ {l : List SV} {us : List Value}, SV.vals m l = some us → us.length = l.length
  | [], us, e => by simp [SV.vals] at e; subst e; rfl
  | v :: r, us, e => by
    simp only [SV.vals, Option.bind_eq_some_iff, Option.map_eq_some_iff] at e
    obtain ⟨a, ha, b, hb, rfl⟩ := e
    simp [vals_length hb]

theorem vals_get {m : List Pl} : ∀ {l : List SV} {us : List Value}, SV.vals m l = some us → ∀ {i : Nat} {v : SV}, l[i]? = some v → ∃ u, us[i]? = some u ∧ v.val m = some u
  | [], us, e, i, v, h => by simp at h
  | x :: r, us, e, i, v, h => by
    simp only [SV.vals, Option.bind_eq_some_iff, Option.map_eq_some_iff] at e
    obtain ⟨a, ha, b, hb, rfl⟩ := e
    cases i with
    | zero => simp at h; subst h; exact ⟨a, by simp, ha⟩
    | succ i => simp at h; obtain ⟨u, h1, h2⟩ := vals_get hb h; exact ⟨u, by simpa using h1, h2⟩

theorem vals_of_get {m : List Pl} : ∀ {l : List SV} {us : List Value}, us.length = l.length → (∀ (i : Nat) (v : SV) (u : Value), l[i]? = some v → us[i]? = some u → v.val m = some u) → SV.vals m l = some us
  | [], us, hl, _ => by simp at hl; subst hl; rfl
  | x :: r, [], hl, _ => by simp at hl
  | x :: r, a :: b, hl, h => by
    simp only [SV.vals, Option.bind_eq_some_iff, Option.map_eq_some_iff]
    exact ⟨a, h 0 x a (by simp) (by simp), b, vals_of_get (by simpa using hl) (fun i v u h1 h2 => h (i + 1) v u (by simpa using h1) (by simpa using h2)), rfl⟩

theorem vals_append {m : List Pl} {l r : List SV} {us vs : List Value} (h : SV.vals m l = some us) (h' : SV.vals m r = some vs) : SV.vals m (l ++ r) = some (us ++ vs) := by
  induction l generalizing us with
  | nil => simp [SV.vals] at h; subst h; simpa using h'
  | cons x l ih =>
    simp only [SV.vals, Option.bind_eq_some_iff, Option.map_eq_some_iff] at h
    obtain ⟨a, ha, b, hb, rfl⟩ := h
    simp only [List.cons_append, SV.vals, ha, ih hb, Option.bind_some, Option.map_some]

theorem ptr_some {p : Pl} {off : Nat} {u : Value} (h : p.ptr off = some u) : p.nil = false ∧ u = .pointer (some ⟨p.blk, p.off + off, none⟩) := by
  unfold Pl.ptr at h
  cases hn : p.nil <;> simp [hn] at h
  exact ⟨rfl, h.symm⟩
theorem sl_some {p : Pl} {off len cap : Nat} {u : Value} (h : p.sl off len cap = some u) : p.nil = false ∧ len ≤ cap ∧ u = .slice (some ⟨p.blk, p.off + off, none⟩) len cap := by
  unfold Pl.sl at h
  cases hn : p.nil with
  | true => simp [hn] at h
  | false =>
    simp only [hn, Bool.false_eq_true, if_false] at h
    split at h
    · rename_i hle; exact ⟨rfl, hle, by simpa using h.symm⟩
    · cases h
theorem row_some {p : Pl} {len : Nat} {u : Value} (h : p.row len = some u) : (p.nil = false ∧ len ≤ p.cap ∧ u = .slice (some ⟨p.blk, p.off, none⟩) len p.cap) ∨ (p.nil = true ∧ len = 0 ∧ u = .slice none 0 0) := by
  unfold Pl.row at h
  cases hn : p.nil with
  | true =>
    simp only [hn, if_true] at h
    split at h
    · rename_i h0; exact .inr ⟨rfl, h0, by simpa using h.symm⟩
    · cases h
  | false =>
    simp only [hn, Bool.false_eq_true, if_false] at h
    split at h
    · rename_i hle; exact .inl ⟨rfl, hle, by simpa using h.symm⟩
    · cases h

/-- One cell's worth. -/
def SV.one : SV → Bool
  | .agg _ => false
  | .tup _ => false
  | .bad => false
  | _ => true

theorem SV.one_spec {m : List Pl} {v : SV} {u : Value} (h : v.val m = some u) (h1 : v.one = true) : u.oneCell' = true := by
  cases v <;> simp only [SV.val, SV.one, Option.bind_eq_some_iff, Option.map_eq_some_iff] at h h1 <;> try (cases h1; done)
  case int => split at h <;> simp at h; subst h; rfl
  case num => split at h <;> simp at h; subst h; rfl
  case bool => cases h; rfl
  case str => cases h; rfl
  case ptr => obtain ⟨p, _, h⟩ := h; obtain ⟨_, rfl⟩ := ptr_some h; rfl
  case elt => obtain ⟨p, _, h⟩ := h; obtain ⟨_, rfl⟩ := ptr_some h; rfl
  case nilp => cases h; rfl
  case slice => obtain ⟨p, _, h⟩ := h; obtain ⟨_, _, rfl⟩ := sl_some h; rfl
  case row => obtain ⟨p, _, h⟩ := h; rcases row_some h with ⟨_, _, rfl⟩ | ⟨_, _, rfl⟩ <;> rfl
  case nils => cases h; rfl
  case fn => obtain ⟨p, _, rfl⟩ := h; rfl

/-! ### Blocks -/

def Sc.toInt : Option Sc → Int
  | some (.int _ n) => n
  | _ => 0
def Sc.toBool : Option Sc → Bool
  | some (.bool b) => b
  | _ => false
def Sc.toStr : Option Sc → ByteArray
  | some (.str s) => s
  | _ => ByteArray.empty

def rget (l : List (List Sc)) (j f : Nat) : Option Sc := (l[j]?).bind fun r => r[f]?
def rint (l : List (List Sc)) (j f : Nat) : Int := Sc.toInt (rget l j f)
def rbool (l : List (List Sc)) (j f : Nat) : Bool := Sc.toBool (rget l j f)
def rstr (l : List (List Sc)) (j f : Nat) : ByteArray := Sc.toStr (rget l j f)

/-- What a block's cells are: written out; whole numbers of a kind; records of scalars; one such behind so many cells of another. -/
inductive Cs where
  | lit (l : List SV)
  | ints (k : IntKind) (l : List Int)
  | recs (ks : List CK) (l : List (List Sc))
  | cat (n : Nat) (a b : Cs)

def Cs.size : Cs → Nat
  | .lit l => l.length
  | .ints _ l => l.length
  | .recs ks l => l.length * ks.length
  | .cat n _ b => n + b.size

/-- All parts but the last are as long as they say. -/
def Cs.wf : Cs → Prop
  | .cat n a b => a.size = n ∧ a.wf ∧ b.wf
  | _ => True

def cellK (l : List (List Sc)) (j f : Nat) : Option CK → SV
  | some (.int k) => .int k (rint l j f)
  | some .bool => .bool (rbool l j f)
  | some .str => .str (rstr l j f)
  | none => .bad

def Cs.get : Cs → Nat → SV
  | .lit l, i => l.getD i .bad
  | .ints k l, i => .int k (l.getD i 0)
  | .recs ks l, i => cellK l (i / ks.length) (i % ks.length) (ks[i % ks.length]?)
  | .cat n a b, i => if i < n then a.get i else b.get (i - n)

def Cs.ren (f : Nat → Nat) : Cs → Cs
  | .lit l => .lit (SV.rens f l)
  | .cat n a b => .cat n (a.ren f) (b.ren f)
  | c => c

theorem Cs.size_ren (f : Nat → Nat) : ∀ c : Cs, (c.ren f).size = c.size
  | .lit l => by simp [Cs.ren, Cs.size, rens_map]
  | .ints _ _ => rfl
  | .recs _ _ => rfl
  | .cat n a b => by simp [Cs.ren, Cs.size, Cs.size_ren f b]

theorem cellK_ren (f : Nat → Nat) (l : List (List Sc)) (j q : Nat) (x : Option CK) : (cellK l j q x).ren f = cellK l j q x := by
  unfold cellK; split <;> rfl

theorem Cs.get_ren (f : Nat → Nat) : ∀ (c : Cs) (i : Nat), (c.ren f).get i = (c.get i).ren f
  | .lit l, i => by
    simp only [Cs.ren, Cs.get, rens_map, List.getD_eq_getElem?_getD, List.getElem?_map]
    cases l[i]? <;> rfl
  | .ints _ _, i => rfl
  | .recs _ _, i => by simp only [Cs.ren, Cs.get, cellK_ren]
  | .cat n a b, i => by
    simp only [Cs.ren, Cs.get]
    split
    · exact Cs.get_ren f a i
    · exact Cs.get_ren f b _

/-- A variable; a slice's own row of elements of so many cells, which may be appended to; one that is not written any more; the same, without room behind it; one of which nothing is known any more. -/
inductive BK where
  | var | row (es : Nat) | ro | full (es : Nat) | dead
  deriving DecidableEq

/-- May it be written? -/
def BK.wr : BK → Bool
  | .var => true
  | .row _ => true
  | _ => false

structure Blk where
  c : Cs
  k : BK

def Blk.ren (f : Nat → Nat) (b : Blk) : Blk := ⟨b.c.ren f, b.k⟩

structure Holds (m : List Pl) (w : World) (p : Pl) (b : Blk) : Prop where
  wf : b.c.wf
  nl : p.nil = true → b.c.size = 0 ∧ p.cap = 0 ∧ b.k ≠ .var
  lt : p.nil = false → p.blk < w.heap.size
  cells : ∀ i, i < b.c.size → ∃ v, (b.c.get i).val m = some v ∧ v.oneCell' = true ∧ w.cell? ⟨p.blk, p.off + i, none⟩ = some v
  wr : b.k.wr = true → ∀ i, i < b.c.size → w.frozen? ⟨p.blk, p.off + i, none⟩ = false
  z : b.k.wr = true → p.nil = false → p.off = 0
  fu : ∀ es, b.k = .full es → p.nil = false → p.cap * es = b.c.size
  sp : ∀ es, b.k = .row es → p.nil = false → b.c.size ≤ p.cap * es ∧ ∀ i, i < p.cap * es → (w.cell? ⟨p.blk, i, none⟩).isSome = true ∧ w.frozen? ⟨p.blk, i, none⟩ = false

structure HTie (m : List Pl) (h : List Blk) (w : World) : Prop where
  len : m.length = h.length
  holds : ∀ (i : Nat) (p : Pl) (b : Blk), m[i]? = some p → h[i]? = some b → b.k ≠ .dead → Holds m w p b
  apart : ∀ (i j : Nat) (p q : Pl) (b c : Blk), i ≠ j → m[i]? = some p → m[j]? = some q → h[i]? = some b → h[j]? = some c →
    b.k ≠ .dead → c.k ≠ .dead → p.nil = false → q.nil = false → (b.k.wr = true ∨ c.k.wr = true) → p.blk ≠ q.blk

theorem Holds.mono {m m' : List Pl} {w : World} {p : Pl} {b : Blk} (h : Holds m w p b) (hm : m <+: m') : Holds m' w p b :=
  ⟨h.wf, h.nl, h.lt, fun i hi => let ⟨v, h1, h2, h3⟩ := h.cells i hi; ⟨v, SV.val_mono hm _ h1, h2, h3⟩, h.wr, h.z, h.fu, h.sp⟩

theorem Holds.notnil {m : List Pl} {w : World} {p : Pl} {b : Blk} (h : Holds m w p b) {i : Nat} (hi : i < b.c.size) : p.nil = false := by
  cases hn : p.nil with
  | false => rfl
  | true => have := (h.nl hn).1; omega

theorem Holds.same {m : List Pl} {w w' : World} {p : Pl} {b : Blk} (h : Holds m w p b) (hs : p.nil = false → w'.heap[p.blk]? = w.heap[p.blk]?) : Holds m w' p b := by
  cases hn : p.nil with
  | true =>
    have h0 := (h.nl hn).1
    exact ⟨h.wf, h.nl, fun e => by rw [hn] at e; (cases e), fun i hi => by omega, fun _ i hi => by omega, fun _ e => by rw [hn] at e; (cases e), fun _ _ e => by rw [hn] at e; (cases e), fun _ _ e => by rw [hn] at e; (cases e)⟩
  | false =>
    have hs := hs hn
    have hlt : p.blk < w'.heap.size := by
      have h1 := h.lt hn
      rcases Nat.lt_or_ge p.blk w'.heap.size with h' | h'
      · exact h'
      · rw [Array.getElem?_eq_none h', Array.getElem?_eq_getElem h1] at hs; cases hs
    have hc : ∀ o, w'.cell? ⟨p.blk, o, none⟩ = w.cell? ⟨p.blk, o, none⟩ := fun o => World.cell?_of_block (w := w) hs
    have hf : ∀ o, w'.frozen? ⟨p.blk, o, none⟩ = w.frozen? ⟨p.blk, o, none⟩ := fun o => World.frozen?_of_block (w := w) hs
    exact ⟨h.wf, h.nl, fun _ => hlt, fun i hi => by rw [hc]; exact h.cells i hi, fun hk i hi => by rw [hf]; exact h.wr hk i hi, h.z, h.fu,
      fun es hk hn => ⟨(h.sp es hk hn).1, fun i hi => by rw [hc, hf]; exact (h.sp es hk hn).2 i hi⟩⟩

theorem HTie.same {m : List Pl} {h : List Blk} {w w' : World} (t : HTie m h w) (hs : ∀ b, b < w.heap.size → w'.heap[b]? = w.heap[b]?) : HTie m h w' :=
  ⟨t.len, fun i p b hp hb hk => (t.holds i p b hp hb hk).same (fun hn => hs _ ((t.holds i p b hp hb hk).lt hn)), t.apart⟩

theorem HTie.drew {m : List Pl} {h : List Blk} {w : World} (t : HTie m h w) : HTie m h w.drew := t.same fun _ _ => rfl

/-- One block more. -/
theorem HTie.push2 {m : List Pl} {h : List Blk} {w w' : World} (t : HTie m h w) {p : Pl} {b : Blk}
    (hs : ∀ (j : Nat) (q : Pl) (c : Blk), m[j]? = some q → h[j]? = some c → c.k ≠ .dead → q.nil = false → w'.heap[q.blk]? = w.heap[q.blk]?)
    (hh : b.k ≠ .dead → Holds (m ++ [p]) w' p b)
    (hp : b.k ≠ .dead → p.nil = false → ∀ (j : Nat) (q : Pl) (c : Blk), m[j]? = some q → h[j]? = some c → c.k ≠ .dead → q.nil = false → (b.k.wr = true ∨ c.k.wr = true) → q.blk ≠ p.blk) : HTie (m ++ [p]) (h ++ [b]) w' := by
  have hpre : m <+: m ++ [p] := List.prefix_append _ _
  have old : ∀ {i : Nat} {q : Pl} {c : Blk}, (m ++ [p])[i]? = some q → (h ++ [b])[i]? = some c → i < m.length → m[i]? = some q ∧ h[i]? = some c := fun hq hc hi => by
    rw [List.getElem?_append_left hi] at hq
    rw [List.getElem?_append_left (by rw [← t.len]; exact hi)] at hc
    exact ⟨hq, hc⟩
  have new : ∀ {i : Nat} {q : Pl} {c : Blk}, (m ++ [p])[i]? = some q → (h ++ [b])[i]? = some c → ¬ i < m.length → i = m.length ∧ q = p ∧ c = b := fun {i} {q} {c} hq hc hi => by
    have h' := (List.getElem?_eq_some_iff.1 hq).1
    simp at h'
    have : i = m.length := by omega
    subst this
    rw [List.getElem?_append_right (Nat.le_refl _)] at hq
    rw [List.getElem?_append_right (by rw [t.len]; exact Nat.le_refl _)] at hc
    simp at hq
    rw [t.len] at hc
    simp at hc
    exact ⟨rfl, hq.symm, hc.symm⟩
  refine ⟨by simp [t.len], fun i q c hq hc hd => ?_, fun i j q r c d hij hq hr hc hd hck hdk hqn hrn hw => ?_⟩
  · by_cases hi : i < m.length
    · obtain ⟨h1, h2⟩ := old hq hc hi
      have := t.holds i q c h1 h2 hd
      exact (this.mono hpre).same (fun hn => hs i q c h1 h2 hd hn)
    · obtain ⟨_, rfl, rfl⟩ := new hq hc hi
      exact hh hd
  · by_cases hi : i < m.length <;> by_cases hj : j < m.length
    · obtain ⟨h1, h2⟩ := old hq hc hi
      obtain ⟨h3, h4⟩ := old hr hd hj
      exact t.apart i j q r c d hij h1 h3 h2 h4 hck hdk hqn hrn hw
    · obtain ⟨h1, h2⟩ := old hq hc hi
      obtain ⟨_, rfl, rfl⟩ := new hr hd hj
      exact hp hdk hrn i q c h1 h2 hck hqn hw.symm
    · obtain ⟨h1, h2⟩ := old hr hd hj
      obtain ⟨_, rfl, rfl⟩ := new hq hc hi
      exact (hp hck hqn j r d h1 h2 hdk hrn hw).symm
    · have := (new hq hc hi).1
      have := (new hr hd hj).1
      omega

/-- One block more: it lies nowhere, or in a new block of the heap. -/
theorem HTie.push {m : List Pl} {h : List Blk} {w w' : World} (t : HTie m h w) {p : Pl} {b : Blk} (hs : ∀ k, k < w.heap.size → w'.heap[k]? = w.heap[k]?)
    (hh : b.k ≠ .dead → Holds (m ++ [p]) w' p b) (hp : b.k ≠ .dead → p.nil = false → w.heap.size ≤ p.blk) : HTie (m ++ [p]) (h ++ [b]) w' := by
  refine t.push2 (fun j q c hq hc hd hn => hs _ ((t.holds j q c hq hc hd).lt hn)) hh (fun hd hn j q c hq hc hcd hqn _ => ?_)
  have := (t.holds j q c hq hc hcd).lt hqn
  have := hp hd hn
  omega

theorem addr_add (b o n : Nat) : (⟨b, o, none⟩ : Addr).add n = ⟨b, o + n, none⟩ := by
  unfold Addr.add; split <;> simp_all

/-- The block's cells turn. -/
theorem HTie.upd {m : List Pl} {h : List Blk} {w w' : World} (t : HTie m h w) {id : Nat} {p : Pl} {b : Blk} {c' : Cs}
    (hp : m[id]? = some p) (hb : h[id]? = some b) (hk : b.k.wr = true) (hn : p.nil = false) (ho : ∀ k, k ≠ p.blk → w'.heap[k]? = w.heap[k]?)
    (hh : Holds m w' p ⟨c', b.k⟩) : HTie m (h.set id ⟨c', b.k⟩) w' := by
  have hd : b.k ≠ .dead := by intro e; rw [e] at hk; cases hk
  have hidlt : id < h.length := (List.getElem?_eq_some_iff.1 hb).1
  refine ⟨by simp [t.len], fun j q c hq hc hdc => ?_, fun j j' q q' c c2 hij hq hq' hc hc' hdc hdc' hqn hqn' hro => ?_⟩
  · rw [List.getElem?_set] at hc
    by_cases hj : id = j
    · subst hj
      rw [if_pos rfl, if_pos hidlt] at hc
      simp only [Option.some.injEq] at hc
      subst hc
      rw [hp] at hq
      simp only [Option.some.injEq] at hq
      subst hq
      exact hh
    · rw [if_neg hj] at hc
      have hq' := t.holds j q c hq hc hdc
      refine hq'.same (fun hqn => ho _ ?_)
      exact t.apart j id q p c b (Ne.symm hj) hq hp hc hb hdc hd hqn hn (.inr hk)
  · have back : ∀ (j : Nat) (c : Blk), (h.set id ⟨c', b.k⟩)[j]? = some c → ∃ c0 : Blk, h[j]? = some c0 ∧ c0.k = c.k := fun j c hc => by
      rw [List.getElem?_set] at hc
      by_cases hj : id = j
      · subst hj
        rw [if_pos rfl, if_pos hidlt] at hc
        simp only [Option.some.injEq] at hc
        subst hc
        exact ⟨b, hb, rfl⟩
      · rw [if_neg hj] at hc; exact ⟨c, hc, rfl⟩
    obtain ⟨c0, hc0', e0⟩ := back j c hc
    obtain ⟨c1, hc1', e1⟩ := back j' c2 hc'
    exact t.apart j j' q q' c0 c1 hij hq hq' hc0' hc1' (by rw [e0]; exact hdc) (by rw [e1]; exact hdc') hqn hqn' (by rw [e0, e1]; exact hro)

/-- A block that is not written any more: or of which nothing is known any more. -/
theorem HTie.freeze {m : List Pl} {h : List Blk} {w : World} (t : HTie m h w) {id : Nat} {b : Blk} (hb : h[id]? = some b) {k : BK}
    (hk : k = .dead ∨ (k = .ro ∧ b.k ≠ .dead)) : HTie m (h.set id ⟨b.c, k⟩) w := by
  have hidlt : id < h.length := (List.getElem?_eq_some_iff.1 hb).1
  have back : ∀ (j : Nat) (c : Blk), (h.set id ⟨b.c, k⟩)[j]? = some c → c.k ≠ .dead → ∃ c0 : Blk, h[j]? = some c0 ∧ c0.k ≠ .dead ∧ c0.c = c.c ∧ (c = c0 ∨ c.k = .ro) := fun j c hc hd => by
    rw [List.getElem?_set] at hc
    by_cases hj : id = j
    · subst hj
      rw [if_pos rfl, if_pos hidlt] at hc
      simp only [Option.some.injEq] at hc
      subst hc
      rcases hk with hk | ⟨hk, hbd⟩
      · exact absurd hk hd
      · exact ⟨b, hb, hbd, rfl, .inr hk⟩
    · rw [if_neg hj] at hc; exact ⟨c, hc, hd, rfl, .inl rfl⟩
  refine ⟨by simp [t.len], fun i p c hp hc hd => ?_, fun i j p q c d hij hp hq hc hd hck hdk hpn hqn hw => ?_⟩
  · obtain ⟨c0, h1, h2, h3, h4⟩ := back i c hc hd
    have hh := t.holds i p c0 hp h1 h2
    rcases h4 with rfl | h4
    · exact hh
    · refine ⟨h3 ▸ hh.wf, fun hn => ?_, hh.lt, by rw [← h3]; exact hh.cells, fun e => by rw [h4] at e; (cases e), fun e => by rw [h4] at e; (cases e), fun _ e => by rw [h4] at e; (cases e), fun _ e => by rw [h4] at e; (cases e)⟩
      have := hh.nl hn
      rw [← h3]
      exact ⟨this.1, this.2.1, by intro e; rw [e] at h4; cases h4⟩
  · obtain ⟨c0, h1, h2, h3, h4⟩ := back i c hc hck
    obtain ⟨d0, h5, h6, h7, h8⟩ := back j d hd hdk
    refine t.apart i j p q c0 d0 hij hp hq h1 h5 h2 h6 hpn hqn ?_
    rcases hw with hw | hw
    · rcases h4 with rfl | h4
      · exact .inl hw
      · rw [h4] at hw; cases hw
    · rcases h8 with rfl | h8
      · exact .inr hw
      · rw [h8] at hw; cases hw

/-! ### Data functions, closed to evaluation behind a variable -/

def iop (op : BinOp) (k : IntKind) (x y : Int) : Int :=
  match op with
  | .add => k.wrap (x + y)
  | .sub => k.wrap (x - y)
  | .mul => k.wrap (x * y)
  | .quo => k.wrap (x.tdiv y)
  | .rem => x.tmod y
  | .and => k.wrap (BitVec.ofInt k.bits x &&& BitVec.ofInt k.bits y).toNat
  | .or => k.wrap (BitVec.ofInt k.bits x ||| BitVec.ofInt k.bits y).toNat
  | .xor => k.wrap (BitVec.ofInt k.bits x ^^^ BitVec.ofInt k.bits y).toNat
  | .andNot => k.wrap (BitVec.ofInt k.bits x &&& ~~~(BitVec.ofInt k.bits y)).toNat
  | .shl => k.wrap (x * 2 ^ min y.toNat k.bits)
  | .shr => x.fdiv (2 ^ min y.toNat k.bits)
  | _ => 0

def icmp (op : BinOp) (x y : Int) : Bool :=
  match op with
  | .eql => x == y
  | .neq => x != y
  | .lss => decide (x < y)
  | .leq => decide (x ≤ y)
  | .gtr => decide (x > y)
  | .geq => decide (x ≥ y)
  | _ => false

def scmp (op : BinOp) (x y : ByteArray) : Bool :=
  match op with
  | .eql => x.toList == y.toList
  | .neq => !(x.toList == y.toList)
  | .lss => Op.bytesLess x.toList y.toList
  | .leq => Op.bytesLess x.toList y.toList || x.toList == y.toList
  | .gtr => !(Op.bytesLess x.toList y.toList || x.toList == y.toList)
  | .geq => !(Op.bytesLess x.toList y.toList)
  | _ => false

/-- A string of these bytes; the bytes of a string. -/
def mkb (l : List Int) : ByteArray := l.foldl (fun r n => r.push (UInt8.ofNat n.toNat)) ByteArray.empty
def byts (s : ByteArray) : List Int := s.data.toList.map fun b => (b.toNat : Int)

structure Ar where
  iop : BinOp → IntKind → Int → Int → Int
  icmp : BinOp → Int → Int → Bool
  wrap : IntKind → Int → Int
  inb : Int → Nat → Bool
  nat : Int → Nat
  ofNat : Nat → Int
  scmp : BinOp → ByteArray → ByteArray → Bool
  cat : ByteArray → ByteArray → ByteArray
  ext : ByteArray → Nat → Nat → ByteArray
  size : ByteArray → Nat
  byte : ByteArray → Nat → Int
  fits : ByteArray → ByteArray → Bool
  nle : Nat → Nat → Bool
  neq : Nat → Nat → Bool
  nadd : Nat → Nat → Nat
  nsub : Nat → Nat → Nat
  nmul : Nat → Nat → Nat
  nmin : Nat → Nat → Nat
  ilen : List Int → Nat
  iget : List Int → Nat → Int
  iset : List Int → Nat → Int → List Int
  iapp : List Int → List Int → List Int
  isub : List Int → Nat → Nat → List Int
  irep : Nat → Int → List Int
  iput : List Int → Nat → List Int → List Int
  rlen : List (List Sc) → Nat
  rint : List (List Sc) → Nat → Nat → Int
  rbool : List (List Sc) → Nat → Nat → Bool
  rstr : List (List Sc) → Nat → Nat → ByteArray
  rset : List (List Sc) → Nat → List Sc → List (List Sc)
  rapp : List (List Sc) → List (List Sc) → List (List Sc)
  rsub : List (List Sc) → Nat → Nat → List (List Sc)
  rrep : Nat → List Sc → List (List Sc)
  mkb : List Int → ByteArray
  byts : ByteArray → List Int
  imin : Int → Int → Int
  imax : Int → Int → Int

/-- vs laid over l, from the i-th place on. -/
def iput (l : List Int) (i : Nat) (vs : List Int) : List Int := l.take i ++ vs.take (l.length - i) ++ l.drop (i + vs.length)

def std : Ar where
  iop := iop
  icmp := icmp
  wrap := IntKind.wrap
  inb i n := decide (0 ≤ i) && decide (i < n)
  nat := Int.toNat
  ofNat n := (n : Int)
  scmp := scmp
  cat x y := x ++ y
  ext s l h := s.extract l h
  size s := s.size
  byte s i := (s.data.getD i 0).toNat
  fits x y := decide (((x.size + y.size : Nat) : Int) ≤ IntKind.i64.max)
  nle a b := decide (a ≤ b)
  neq a b := decide (a = b)
  nadd a b := a + b
  nsub a b := a - b
  nmul a b := a * b
  nmin a b := Nat.min a b
  ilen l := l.length
  iget l i := l.getD i 0
  iset l i x := l.set i x
  iapp l r := l ++ r
  isub l i n := (l.drop i).take n
  irep n x := List.replicate n x
  iput := iput
  rlen l := l.length
  rint := rint
  rbool := rbool
  rstr := rstr
  rset l i x := l.set i x
  rapp l r := l ++ r
  rsub l i n := (l.drop i).take n
  rrep n x := List.replicate n x
  mkb := mkb
  byts := byts
  imin x y := if y < x then y else x
  imax x y := if y > x then y else x

/-! ### Types -/

inductive TD where
  | int (k : IntKind) | bool | str
  | arr (n : Nat) (e : TypeId)
  | strct (fs : List (Nat × TypeId))
  | slice (e : TypeId)
  | ptr (e : TypeId)
  | other

def TD.isAgg : TD → Bool
  | .arr _ _ => true
  | .strct _ => true
  | _ => false

def TD.fits : TD → TypeDesc → Bool
  | .int k, .int k' => k == k'
  | .bool, .bool => true
  | .str, .string => true
  | .arr n e, .array n' e' => n == n' && e == e'
  | .strct fs, .struct fs' => fs == fs'.toList.map (fun f => (f.offset, f.type))
  | .slice e, .slice e' => e == e'
  | .ptr e, .pointer e' => e == e'
  | .other, .array _ _ => false
  | .other, .struct _ => false
  | .other, .slice _ => false
  | .other, .string => false
  | .other, .int _ => false
  | .other, .bool => false
  | .other, .pointer _ => false
  | .other, _ => true
  | _, _ => false

structure TI where
  d : TD
  size : Nat
  bytes : Nat
  zero : SV

abbrev Types := TypeId → Option TI

def SV.cells1 : SV → List SV
  | .agg l => l
  | v => [v]
def SV.cells (v : SV) : List SV := v.cells1

structure TFact (P : Program) (t : TypeId) (i : TI) : Prop where
  info : ∃ ti z, P.info? t = some ti ∧ ti.size = i.size ∧ ti.bytes = i.bytes ∧ ti.zero = some z ∧ i.zero.val [] = some z ∧ i.zero.cells.all SV.one = true ∧ i.zero.cells.length = i.size
  desc : ∃ d, P.underlying t = some d ∧ i.d.fits d = true

def TOk (P : Program) (τ : Types) : Prop := ∀ (t : TypeId) (i : TI), τ t = some i → TFact P t i

/-! ### States -/

structure St where
  t : List (Nat × SV)
  h : List Blk
  g : Bool

def look : List (Nat × SV) → Nat → SV
  | [], _ => .bad
  | (i, v) :: r, n => match Nat.beq i n with
    | true => v
    | false => look r n

def put : List (Nat × SV) → Nat → SV → List (Nat × SV)
  | [], n, v => [(n, v)]
  | (i, u) :: r, n, v => match Nat.beq i n with
    | true => (i, v) :: r
    | false => (i, u) :: put r n v

theorem look_put (t : List (Nat × SV)) (n : Nat) (v : SV) (j : Nat) : look (put t n v) j = if j = n then v else look t j := by
  induction t with
  | nil =>
    simp only [put, look]
    by_cases h : j = n
    · subst h; simp
    · rw [if_neg h]
      have : Nat.beq n j = false := by
        rw [← Bool.not_eq_true, Nat.beq_eq]; exact fun e => h e.symm
      rw [this]
  | cons x r ih =>
    obtain ⟨i, u⟩ := x
    simp only [put]
    cases hb : Nat.beq i n with
    | true =>
      have hin : i = n := by simpa using hb
      subst hin
      simp only [look]
      by_cases h : j = i
      · subst h; simp
      · rw [if_neg h]
        have : Nat.beq i j = false := by
          rw [← Bool.not_eq_true, Nat.beq_eq]; exact fun e => h e.symm
        rw [this]
    | false =>
      have hin : i ≠ n := by
        intro e; subst e; simp at hb
      simp only [look]
      cases hc : Nat.beq i j with
      | true =>
        have hij : i = j := by simpa using hc
        subst hij
        simp [hin]
      | false => exact ih

def SV.ofValue : Value → SV
  | .int k n => if k.wrap n = n then .num k n else .bad
  | .bool b => .bool b
  | .string s => .str s
  | .pointer none => .nilp
  | .slice none 0 0 => .nils
  | _ => .bad

def gpos : List Nat → Nat → Option Nat
  | [], _ => none
  | x :: r, g => match Nat.beq x g with
    | true => some 0
    | false => match gpos r g with
      | some k => some (k + 1)
      | none => none

/-- An operand's value; the package-level variables that are told of lie in the first blocks. -/
def St.ev (S : St) (G : List Nat) : Operand → SV
  | .tmp t => look S.t t
  | .const v => .ofValue v
  | .func f => .fn f []
  | .global g => match gpos G g with
    | some k => .ptr k 0
    | none => .bad

def putO (t : List (Nat × SV)) : Option Tmp → SV → List (Nat × SV)
  | some d, v => put t d v
  | none, _ => t

/-- What an operation comes to: whether it may be carried out, its value, the blocks behind it. -/
structure R where
  ok : Bool
  v : SV
  h : List Blk

def R.fail : R := ⟨false, .bad, []⟩

def Blk.nil : Blk := ⟨.lit [], .dead⟩

def Blk.live (b : Blk) : Bool := match b.k with | .dead => false | _ => true
def Blk.may (b : Blk) : Bool := match b.k with | .var => true | .row _ => true | _ => false

def kn : IntKind → Nat
  | .i8 => 0 | .i16 => 1 | .i32 => 2 | .i64 => 3 | .u8 => 4 | .u16 => 5 | .u32 => 6 | .u64 => 7

theorem kn_eq {a b : IntKind} (h : Nat.beq (kn a) (kn b) = true) : a = b := by
  cases a <;> cases b <;> first | rfl | (simp [kn] at h)

def isShift : BinOp → Bool
  | .shl => true | .shr => true | _ => false
def isCmp : BinOp → Bool
  | .eql => true | .neq => true | .lss => true | .leq => true | .gtr => true | .geq => true | _ => false
def isDiv : BinOp → Bool
  | .quo => true | .rem => true | _ => false
def isEq : BinOp → Bool
  | .eql => true | .neq => true | _ => false

/-! ### Cells -/

/-- Whole numbers of one kind. -/
def asInt1 (k : IntKind) : SV → Option Int
  | .int k' n => match Nat.beq (kn k) (kn k') with
    | true => some n
    | false => none
  | .num k' n => match Nat.beq (kn k) (kn k') with
    | true => some n
    | false => none
  | _ => none

def asInts (k : IntKind) : List SV → Option (List Int)
  | [] => some []
  | v :: r => match asInt1 k v with
    | none => none
    | some n => match asInts k r with
      | none => none
      | some l => some (n :: l)

def kindOf : SV → Option IntKind
  | .int k _ => some k
  | .num k _ => some k
  | _ => none

def kindOfL : List SV → Option IntKind
  | [] => none
  | v :: _ => kindOf v

def cellA (A : Ar) (l : List (List Sc)) (j f : Nat) : Option CK → SV
  | some (.int k) => .int k (A.rint l j f)
  | some .bool => .bool (A.rbool l j f)
  | some .str => .str (A.rstr l j f)
  | none => .bad

/-- A place in a block: a cell's number; or the cell 'off' behind the j-th element, the elements of so many cells. -/
inductive Pos where
  | at_ (off : Nat)
  | el (j sz off : Nat)

def Pos.cell : Pos → Nat
  | .at_ off => off
  | .el j sz off => j * sz + off

def Pos.plus (n : Nat) : Pos → Pos
  | .at_ off => .at_ (off + n)
  | .el j sz off => .el j sz (off + n)

/-- The cell's number, of cells that are elements themselves. -/
def Pos.flat (A : Ar) : Pos → Option Nat
  | .at_ off => some off
  | .el j sz off => match Nat.beq sz 1 with
    | true => match off with
      | 0 => some j
      | n + 1 => some (A.nadd j (n + 1))
    | false => none

/-- Record and field. -/
def Pos.rc (n : Nat) : Pos → Option (Nat × Nat)
  | .at_ off => match n with
    | 0 => none
    | n + 1 => some (off / (n + 1), off % (n + 1))
  | .el j sz off => match Nat.beq sz n with
    | true => match Nat.ble (off + 1) sz with
      | true => some (j, off)
      | false => none
    | false => none

/-- The cells at off, off + sz, off + 2 sz, ... -/
def stride (sz : Nat) : Nat → Nat → List SV → List SV
  | 0, _, _ => []
  | fuel + 1, off, l => match l.drop off with
    | [] => []
    | v :: r => v :: stride sz fuel (sz - 1) r

/-- One cell. -/
def Cs.rd (A : Ar) : Cs → Pos → Bool × SV
  | .lit l, p => match p with
    | .at_ off => (Nat.ble (off + 1) l.length, l.getD off .bad)
    | .el j sz off => match sz with
      | 0 => (false, .bad)
      | sz + 1 => match kindOfL (l.drop off) with
        | none => (false, .bad)
        | some k => match asInts k (stride (sz + 1) l.length off l) with
          | none => (false, .bad)
          | some xs => (A.nle (A.nadd j 1) xs.length, .int k (A.iget xs j))
  | .ints k l, p => match p.flat A with
    | none => (false, .bad)
    | some i => (A.nle (A.nadd i 1) (A.ilen l), .int k (A.iget l i))
  | .recs ks l, p => match p.rc ks.length with
    | none => (false, .bad)
    | some (j, f) => (A.nle (A.nadd j 1) (A.rlen l), cellA A l j f ks[f]?)
  | .cat n a b, p => match p with
    | .at_ off => match Nat.ble (off + 1) n with
      | true => a.rd A (.at_ off)
      | false => b.rd A (.at_ (off - n))
    | .el j sz off => match Nat.ble (off + 1) n with
      | true => a.rd A (.el j sz off)
      | false => b.rd A (.el j sz (off - n))

/-- So many. -/
def Cs.rds (A : Ar) (c : Cs) (p : Pos) : Nat → Bool × List SV
  | 0 => (true, [])
  | n + 1 => match c.rd A p, Cs.rds A c (p.plus 1) n with
    | (ok, v), (ok', l) => (ok && ok', v :: l)

def setL : List SV → Nat → List SV → List SV
  | l, 0, vs => go l vs
  | [], _ + 1, _ => []
  | v :: r, n + 1, vs => v :: setL r n vs
where go : List SV → List SV → List SV
  | l, [] => l
  | [], _ :: _ => []
  | _ :: r, v :: vs => v :: go r vs

def asSc (k : CK) (v : SV) : Option Sc :=
  match k with
  | .int k => match asInt1 k v with
    | some n => some (.int k n)
    | none => none
  | .bool => match v with
    | .bool b => some (.bool b)
    | _ => none
  | .str => match v with
    | .str s => some (.str s)
    | _ => none

def asScs : List CK → List SV → Option (List Sc)
  | [], [] => some []
  | k :: ks, v :: vs => match asSc k v, asScs ks vs with
    | some x, some r => some (x :: r)
    | _, _ => none
  | _, _ => none

def Cs.nil : Cs := .lit []

/-- Cells one behind the other. -/
def Cs.st (A : Ar) : Cs → Pos → List SV → Bool × Cs
  | .lit l, p, vs => match p with
    | .at_ off => (Nat.ble (off + vs.length) l.length, .lit (setL l off vs))
    | .el j sz off => match Nat.beq sz 1, vs with
      | true, [v] => match kindOf v with
        | none => (false, .nil)
        | some k => match asInt1 k v, asInts k l with
          | some x, some xs => (A.nle (A.nadd j (off + 1)) xs.length, .ints k (A.iset xs (A.nadd j off) x))
          | _, _ => (false, .nil)
      | _, _ => (false, .nil)
  | .ints k l, p, vs => match p.flat A with
    | none => (false, .nil)
    | some i => match vs with
      | [v] => match asInt1 k v with
        | none => (false, .nil)
        | some x => (A.nle (A.nadd i 1) (A.ilen l), .ints k (A.iset l i x))
      | _ => match asInts k vs with
        | none => (false, .nil)
        | some xs => (A.nle (A.nadd i xs.length) (A.ilen l), .ints k (A.iput l i xs))
  | .recs ks l, p, vs => match p.rc ks.length with
    | some (j, 0) => match asScs ks vs with
      | some xs => (A.nle (A.nadd j 1) (A.rlen l), .recs ks (A.rset l j xs))
      | none => (false, .nil)
    | _ => (false, .nil)
  | .cat n a b, p, vs => match p with
    | .at_ off => match Nat.ble (off + vs.length) n with
      | true => match a.st A (.at_ off) vs with
        | (ok, a') => (ok, .cat n a' b)
      | false => match Nat.ble n off with
        | true => match b.st A (.at_ (off - n)) vs with
          | (ok, b') => (ok, .cat n a b')
        | false => (false, .nil)
    | .el j sz off => match Nat.ble (off + 1) n with
      | true => match a.st A (.el j sz off) vs with
        | (ok, a') => (ok, .cat n a' b)
      | false => match b.st A (.el j sz (off - n)) vs with
        | (ok, b') => (ok, .cat n a b')

/-- A number: written out, or not. -/
structure Nm where
  lit : Bool
  n : Nat

/-- Of elements of es cells: n of them, from the lo-th on, the first cell off. -/
def Cs.sub (A : Ar) : Cs → (off es : Nat) → Nm → Nm → Bool × Cs
  | .lit l, off, es, lo, n => match lo.lit && n.lit with
    | true => (Nat.ble (off + (lo.n + n.n) * es) l.length, .lit ((l.drop (off + lo.n * es)).take (n.n * es)))
    | false => match Nat.beq es 1 && Nat.ble off l.length, kindOfL l with
      | true, some k => match asInts k (l.drop off) with
        | some xs => (A.nle (A.nadd lo.n n.n) xs.length, .ints k (A.isub xs lo.n n.n))
        | none => (false, .nil)
      | _, _ => (false, .nil)
  | .ints k l, off, es, lo, n => match Nat.beq es 1 with
    | true => match off with
      | 0 => (A.nle (A.nadd lo.n n.n) (A.ilen l), .ints k (A.isub l lo.n n.n))
      | off + 1 => (A.nle (A.nadd (A.nadd (off + 1) lo.n) n.n) (A.ilen l), .ints k (A.isub l (A.nadd (off + 1) lo.n) n.n))
    | false => (false, .nil)
  | .recs ks l, off, es, lo, n => match Nat.beq es ks.length, Nat.beq off 0 with
    | true, true => (A.nle (A.nadd lo.n n.n) (A.rlen l), .recs ks (A.rsub l lo.n n.n))
    | _, _ => (false, .nil)
  | .cat q a b, off, es, lo, n => match Nat.ble q off with
    | true => b.sub A (off - q) es lo n
    | false => a.sub A off es lo n

/-- Records out of cells. -/
def chunk (ks : List CK) : Nat → List SV → Option (List (List Sc))
  | _, [] => some []
  | 0, _ :: _ => none
  | fuel + 1, l => match asScs ks (l.take ks.length) with
    | none => none
    | some r => match chunk ks fuel (l.drop ks.length) with
      | none => none
      | some rs => some (r :: rs)

/-- One content behind the other. -/
def Cs.app (A : Ar) : Cs → Cs → Option Cs
  | .lit [], c => some c
  | c, .lit [] => some c
  | .lit l, .lit r => some (.lit (l ++ r))
  | .lit l, .ints k r => match asInts k l with
    | some xs => some (.ints k (A.iapp xs r))
    | none => none
  | .ints k l, .lit r => match asInts k r with
    | some xs => some (.ints k (A.iapp l xs))
    | none => none
  | .ints k l, .ints k' r => match Nat.beq (kn k) (kn k') with
    | true => some (.ints k (A.iapp l r))
    | false => none
  | .recs ks l, .lit r => match chunk ks r.length r with
    | some xs => some (.recs ks (A.rapp l xs))
    | none => none
  | .lit l, .recs ks r => match chunk ks l.length l with
    | some xs => some (.recs ks (A.rapp xs r))
    | none => none
  | _, _ => none

def blkAt (h : List Blk) (id : Nat) : Blk := h.getD id .nil

/-! ### Cells: what is shown of them -/

def SV.same (v u : SV) : Prop := ∀ m, v.val m = u.val m
theorem SV.same.refl (v : SV) : v.same v := fun _ => rfl
theorem SV.same.trans {u v w : SV} (h : u.same v) (h' : v.same w) : u.same w := fun m => (h m).trans (h' m)

theorem asInt1_spec {k : IntKind} {v : SV} {n : Int} (h : asInt1 k v = some n) : (SV.int k n).same v := by
  cases v <;> simp only [asInt1] at h <;> try (cases h; done)
  all_goals
    split at h
    · rename_i hk
      have := kn_eq hk
      subst this
      simp only [Option.some.injEq] at h
      subst h
      intro m
      simp only [SV.val]
    · cases h

theorem asInts_spec {k : IntKind} : ∀ {l : List SV} {xs : List Int}, asInts k l = some xs → xs.length = l.length ∧ ∀ i, i < l.length → (SV.int k (xs.getD i 0)).same (l.getD i .bad)
  | [], xs, h => by simp [asInts] at h; subst h; simp
  | v :: r, xs, h => by
    simp only [asInts] at h
    split at h
    · cases h
    · rename_i n hn
      split at h
      · cases h
      · rename_i l' hl
        simp only [Option.some.injEq] at h
        subst h
        obtain ⟨h1, h2⟩ := asInts_spec hl
        refine ⟨by simp [h1], fun i hi => ?_⟩
        cases i with
        | zero => simpa using asInt1_spec hn
        | succ i => simpa using h2 i (by simpa using hi)

theorem stride_spec (sz : Nat) (hsz : 0 < sz) : ∀ (fuel off : Nat) (l : List SV), l.length ≤ fuel + off → ∀ j, j < (stride sz fuel off l).length → off + j * sz < l.length ∧ (stride sz fuel off l).getD j .bad = l.getD (off + j * sz) .bad
  | 0, off, l, _, j, h => by simp [stride] at h
  | fuel + 1, off, l, hf, j, h => by
    simp only [stride] at h ⊢
    split at h
    · simp at h
    · rename_i v r hd
      have hlen : off < l.length := by
        rcases Nat.lt_or_ge off l.length with h' | h'
        · exact h'
        · rw [List.drop_eq_nil_of_le h'] at hd; cases hd
      have hv : l.getD off .bad = v ∧ r = l.drop (off + 1) := by
        rw [List.drop_eq_getElem_cons hlen] at hd
        injection hd with h1 h2
        exact ⟨by rw [List.getD_eq_getElem?_getD, List.getElem?_eq_getElem hlen]; simpa using h1, h2.symm⟩
      cases j with
      | zero => exact ⟨by simpa using hlen, by simpa using hv.1.symm⟩
      | succ j =>
        have hr : r.length = l.length - (off + 1) := by rw [hv.2]; simp
        obtain ⟨h1, h2⟩ := stride_spec sz hsz fuel (sz - 1) r (by omega) j (by simpa using h)
        have he : off + (j + 1) * sz = off + 1 + (sz - 1 + j * sz) := by rw [Nat.add_mul]; omega
        refine ⟨by rw [he]; omega, ?_⟩
        rw [List.getD_cons_succ, h2, hv.2, he, List.getD_eq_getElem?_getD, List.getD_eq_getElem?_getD, List.getElem?_drop]

theorem Pos.flat_spec {p : Pos} {i : Nat} (h : p.flat std = some i) : p.cell = i := by
  cases p with
  | at_ off => simp [Pos.flat] at h; exact h
  | el j sz off =>
    simp only [Pos.flat] at h
    split at h
    · rename_i hs
      have : sz = 1 := by simpa using hs
      subst this
      split at h
      · simp at h; simp [Pos.cell, h]
      · simp [std] at h; simp [Pos.cell, h]
    · cases h

theorem Pos.rc_spec {p : Pos} {n j f : Nat} (h : p.rc n = some (j, f)) : p.cell = j * n + f ∧ f < n := by
  cases p with
  | at_ off =>
    simp only [Pos.rc] at h
    split at h
    · cases h
    · rename_i n
      simp only [Option.some.injEq, Prod.mk.injEq] at h
      obtain ⟨rfl, rfl⟩ := h
      exact ⟨by simp only [Pos.cell]; rw [Nat.mul_comm]; exact (Nat.div_add_mod off (n + 1)).symm, Nat.mod_lt _ (by omega)⟩
  | el j' sz off =>
    simp only [Pos.rc] at h
    split at h
    · rename_i hs
      have : sz = n := by simpa using hs
      subst this
      split at h
      · rename_i hb
        simp only [Option.some.injEq, Prod.mk.injEq] at h
        obtain ⟨rfl, rfl⟩ := h
        exact ⟨rfl, Nat.le_of_ble_eq_true hb⟩
      · cases h
    · cases h

theorem rec_cell {n j f : Nat} (hf : f < n) : (j * n + f) / n = j ∧ (j * n + f) % n = f := by
  have hn : 0 < n := by omega
  rw [Nat.mul_comm]
  exact ⟨by rw [Nat.mul_add_div hn, Nat.div_eq_of_lt hf, Nat.add_zero], by rw [Nat.mul_add_mod, Nat.mod_eq_of_lt hf]⟩

theorem cellA_std (l : List (List Sc)) (j f : Nat) (x : Option CK) : cellA std l j f x = cellK l j f x := rfl

theorem rec_lt {n j f s : Nat} (hf : f < n) (hj : j < s) : j * n + f < s * n := by
  have : (j + 1) * n ≤ s * n := Nat.mul_le_mul_right _ hj
  rw [Nat.add_mul] at this
  omega

theorem ble_lt {a b : Nat} (h : Nat.ble (a + 1) b = true) : a < b := Nat.le_of_ble_eq_true h
theorem ble_not {a b : Nat} (h : Nat.ble (a + 1) b = false) : ¬ a < b := fun e => by
  have : Nat.ble (a + 1) b = true := by rw [Nat.ble_eq]; exact e
  rw [this] at h; cases h

theorem Cs.rd_spec : ∀ {c : Cs} {p : Pos} {v : SV} {q : Nat}, p.cell = q → c.wf → c.rd std p = (true, v) → q < c.size ∧ v.same (c.get q)
  | .lit l, .at_ off, v, q, hq, _, h => by
    have hq : off = q := hq
    subst hq
    simp only [Cs.rd, Prod.mk.injEq] at h
    obtain ⟨h1, rfl⟩ := h
    exact ⟨ble_lt h1, SV.same.refl _⟩
  | .lit l, .el j sz off, v, q, hq, _, h => by
    have hq : j * sz + off = q := hq
    subst hq
    simp only [Cs.rd] at h
    split at h
    · cases h
    · rename_i sz'
      split at h
      · cases h
      · rename_i k _
        split at h
        · cases h
        · rename_i xs hx
          simp only [std, Prod.mk.injEq, decide_eq_true_eq] at h
          obtain ⟨h1, rfl⟩ := h
          obtain ⟨h2, h3⟩ := asInts_spec hx
          obtain ⟨h4, h5⟩ := stride_spec (sz' + 1) (by omega) l.length off l (by omega) j (by omega)
          refine ⟨by simp only [Cs.size, Nat.succ_eq_add_one]; omega, ?_⟩
          have := h3 j (by omega)
          rw [h5] at this
          simp only [Cs.get, Nat.succ_eq_add_one]
          rw [Nat.add_comm (j * (sz' + 1)) off]
          exact this
  | .ints k l, p, v, q, hq, _, h => by
    simp only [Cs.rd] at h
    split at h
    · cases h
    · rename_i i hi
      simp only [std, Prod.mk.injEq, decide_eq_true_eq] at h
      obtain ⟨h1, rfl⟩ := h
      rw [← hq, Pos.flat_spec hi]
      exact ⟨h1, SV.same.refl _⟩
  | .recs ks l, p, v, q, hq, _, h => by
    simp only [Cs.rd] at h
    split at h
    · cases h
    · rename_i j f hi
      obtain ⟨h2, h3⟩ := Pos.rc_spec hi
      simp only [Prod.mk.injEq, cellA_std] at h
      obtain ⟨h1, rfl⟩ := h
      simp only [std, decide_eq_true_eq] at h1
      obtain ⟨h4, h5⟩ := rec_cell (j := j) h3
      refine ⟨by rw [← hq, h2]; exact rec_lt h3 h1, ?_⟩
      rw [← hq, h2]
      simp only [Cs.get, h4, h5]
      exact SV.same.refl _
  | .cat n a b, .at_ off, v, q, hq, hw, h => by
    have hq : off = q := hq
    subst hq
    obtain ⟨h1, h2, h3⟩ := hw
    simp only [Cs.rd] at h
    split at h
    · rename_i hb
      have hb := ble_lt hb
      obtain ⟨h4, h5⟩ := Cs.rd_spec rfl h2 h
      refine ⟨by simp only [Cs.size]; omega, ?_⟩
      simp only [Cs.get]; rw [if_pos hb]; exact h5
    · rename_i hb
      have hb := ble_not hb
      obtain ⟨h4, h5⟩ := Cs.rd_spec rfl h3 h
      refine ⟨by simp only [Cs.size]; simp only [Pos.cell] at h4; omega, ?_⟩
      simp only [Cs.get]; rw [if_neg hb]; exact h5
  | .cat n a b, .el j sz off, v, q, hq, hw, h => by
    have hq : j * sz + off = q := hq
    subst hq
    obtain ⟨h1, h2, h3⟩ := hw
    simp only [Cs.rd] at h
    split at h
    · rename_i hb
      obtain ⟨h4, h5⟩ := Cs.rd_spec (q := j * sz + off) rfl h2 h
      refine ⟨by simp only [Cs.size]; omega, ?_⟩
      simp only [Cs.get]; rw [if_pos (show j * sz + off < n by omega)]; exact h5
    · rename_i hb
      have hb := ble_not hb
      obtain ⟨h4, h5⟩ := Cs.rd_spec (q := j * sz + (off - n)) rfl h3 h
      refine ⟨by simp only [Cs.size]; omega, ?_⟩
      simp only [Cs.get]; rw [if_neg (show ¬ j * sz + off < n by omega)]
      rw [show j * sz + off - n = j * sz + (off - n) by omega]
      exact h5

theorem Pos.cell_plus (p : Pos) (n : Nat) : (p.plus n).cell = p.cell + n := by
  cases p <;> simp [Pos.plus, Pos.cell] <;> omega

theorem Cs.rds_spec {c : Cs} (hw : c.wf) : ∀ (n : Nat) {p : Pos} {l : List SV}, c.rds std p n = (true, l) → l.length = n ∧ (0 < n → p.cell + n ≤ c.size) ∧ ∀ i, i < n → (l.getD i .bad).same (c.get (p.cell + i))
  | 0, p, l, h => by simp [Cs.rds] at h; subst h; simp
  | n + 1, p, l, h => by
    simp only [Cs.rds] at h
    cases h1 : c.rd std p with
    | mk ok v =>
    cases h2 : c.rds std (p.plus 1) n with
    | mk ok' r =>
    rw [h1, h2] at h
    simp only [Prod.mk.injEq, Bool.and_eq_true] at h
    obtain ⟨⟨rfl, rfl⟩, rfl⟩ := h
    obtain ⟨h3, h4⟩ := Cs.rd_spec rfl hw h1
    obtain ⟨h5, h6, h7⟩ := Cs.rds_spec hw n h2
    rw [Pos.cell_plus] at h6 h7
    refine ⟨by simp [h5], fun _ => ?_, fun i hi => ?_⟩
    · rcases Nat.eq_zero_or_pos n with h0 | h0
      · subst h0; omega
      · have := h6 h0; omega
    · cases i with
      | zero => simpa using h4
      | succ i => have := h7 i (by omega); rw [show p.cell + 1 + i = p.cell + (i + 1) by omega] at this; simpa using this

theorem setL_go_spec : ∀ (l vs : List SV), vs.length ≤ l.length → (setL.go l vs).length = l.length ∧ ∀ i, (setL.go l vs).getD i .bad = if i < vs.length then vs.getD i .bad else l.getD i .bad
  | l, [], _ => by cases l <;> simp [setL.go]
  | [], v :: vs, h => by simp at h
  | x :: r, v :: vs, h => by
    obtain ⟨h1, h2⟩ := setL_go_spec r vs (by simpa using h)
    refine ⟨by simp [setL.go, h1], fun i => ?_⟩
    cases i with
    | zero => simp [setL.go]
    | succ i => simpa [setL.go] using h2 i

theorem setL_spec : ∀ (l : List SV) (off : Nat) (vs : List SV), off + vs.length ≤ l.length → (setL l off vs).length = l.length ∧ ∀ i, (setL l off vs).getD i .bad = if off ≤ i ∧ i < off + vs.length then vs.getD (i - off) .bad else l.getD i .bad
  | l, 0, vs, h => by
    have := setL_go_spec l vs (by omega)
    cases l <;> simp [setL] <;> simpa using this
  | [], off + 1, vs, h => by simp at h
  | x :: r, off + 1, vs, h => by
    obtain ⟨h1, h2⟩ := setL_spec r off vs (by simp at h; omega)
    refine ⟨by simp [setL, h1], fun i => ?_⟩
    cases i with
    | zero => simp [setL]
    | succ i =>
      simp only [setL, List.getD_cons_succ, h2 i]
      by_cases hc : off ≤ i ∧ i < off + vs.length
      · rw [if_pos hc, if_pos (by omega)]; congr 1; omega
      · rw [if_neg hc, if_neg (by omega)]

theorem asSc_spec {k : CK} {v : SV} {s : Sc} (h : asSc k v = some s) (l : List (List Sc)) (j f : Nat) (hg : rget l j f = some s) : (cellK l j f (some k)).same v := by
  unfold asSc at h
  cases k with
  | int k =>
    simp only at h
    split at h
    · rename_i n hn
      simp only [Option.some.injEq] at h
      subst h
      simp only [cellK, rint, hg, Sc.toInt]
      exact asInt1_spec hn
    · cases h
  | bool =>
    cases v <;> simp only at h <;> try (cases h; done)
    simp only [Option.some.injEq] at h
    subst h
    simp only [cellK, rbool, hg, Sc.toBool]; exact SV.same.refl _
  | str =>
    cases v <;> simp only at h <;> try (cases h; done)
    simp only [Option.some.injEq] at h
    subst h
    simp only [cellK, rstr, hg, Sc.toStr]; exact SV.same.refl _

theorem asScs_spec : ∀ {ks : List CK} {vs : List SV} {xs : List Sc}, asScs ks vs = some xs → xs.length = ks.length ∧ vs.length = ks.length ∧ ∀ (i : Nat) (k : CK) (s : Sc), ks[i]? = some k → xs[i]? = some s → asSc k (vs.getD i .bad) = some s
  | [], [], xs, h => by simp [asScs] at h; subst h; simp
  | [], _ :: _, xs, h => by simp [asScs] at h
  | _ :: _, [], xs, h => by simp [asScs] at h
  | k :: ks, v :: vs, xs, h => by
    simp only [asScs] at h
    split at h
    · rename_i x r hx hr
      simp only [Option.some.injEq] at h
      subst h
      obtain ⟨h1, h2, h3⟩ := asScs_spec hr
      refine ⟨by simp [h1], by simp [h2], fun i k' s hk hs => ?_⟩
      cases i with
      | zero => simp at hk hs; subst hk; subst hs; simpa using hx
      | succ i => simpa using h3 i k' s (by simpa using hk) (by simpa using hs)
    · cases h

/-- A record's cells. -/
theorem rec_same {ks : List CK} {vs : List SV} {xs : List Sc} (h : asScs ks vs = some xs) {l : List (List Sc)} {j : Nat} (hl : l[j]? = some xs) {f : Nat} (hf : f < ks.length) : (cellK l j f ks[f]?).same (vs.getD f .bad) := by
  obtain ⟨h1, h2, h3⟩ := asScs_spec h
  have hk : ks[f]? = some ks[f] := List.getElem?_eq_getElem hf
  have hx : xs[f]? = some xs[f] := List.getElem?_eq_getElem (by omega)
  rw [hk]
  exact asSc_spec (h3 f _ _ hk hx) l j f (by simp [rget, hl, hx])

theorem rget_congr {l l' : List (List Sc)} {j f : Nat} (h : l[j]? = l'[j]?) (x : Option CK) : cellK l j f x = cellK l' j f x := by
  have hg : rget l j f = rget l' j f := by simp [rget, h]
  cases x with
  | none => rfl
  | some x => cases x <;> simp only [cellK, rint, rbool, rstr, hg]

theorem rget_congr2 {l l' : List (List Sc)} {j j' f : Nat} (h : l[j]? = l'[j']?) (x : Option CK) : cellK l j f x = cellK l' j' f x := by
  have hg : rget l j f = rget l' j' f := by simp [rget, h]
  cases x with
  | none => rfl
  | some x => cases x <;> simp only [cellK, rint, rbool, rstr, hg]

/-- What a content is to be, and is. -/
structure Laid (c : Cs) (n : Nat) (f : Nat → SV) : Prop where
  wf : c.wf
  size : c.size = n
  get : ∀ i, i < n → (c.get i).same (f i)

def over (c : Cs) (p : Nat) (vs : List SV) (i : Nat) : SV := if p ≤ i ∧ i < p + vs.length then vs.getD (i - p) .bad else c.get i

theorem getD_of_lt {α : Type} {l : List α} {i : Nat} {d : α} (h : i < l.length) : l.getD i d = l[i] := by
  rw [List.getD_eq_getElem?_getD, List.getElem?_eq_getElem h]; rfl

theorem Cs.st_spec : ∀ {c c' : Cs} {p : Pos} {vs : List SV} {q : Nat}, p.cell = q → c.wf → c.st std p vs = (true, c') → q + vs.length ≤ c.size ∧ Laid c' c.size (over c q vs)
  | .lit l, c', .at_ off, vs, q, hq, _, h => by
    have hq : off = q := hq
    subst hq
    simp only [Cs.st, Prod.mk.injEq] at h
    obtain ⟨h1, rfl⟩ := h
    have h1 : off + vs.length ≤ l.length := by simpa using h1
    obtain ⟨h2, h3⟩ := setL_spec l off vs h1
    refine ⟨h1, trivial, h2, fun i hi => ?_⟩
    simp only [Cs.get, h3, over]
    exact SV.same.refl _
  | .lit l, c', .el j sz off, vs, q, hq, _, h => by
    have hq : j * sz + off = q := hq
    subst hq
    simp only [Cs.st] at h
    split at h
    · rename_i v hs
      have : sz = 1 := by simpa using hs
      subst this
      split at h
      · cases h
      · rename_i k _
        split at h
        · rename_i x xs hx hxs
          simp only [std, Prod.mk.injEq, decide_eq_true_eq] at h
          obtain ⟨h1, rfl⟩ := h
          obtain ⟨h2, h3⟩ := asInts_spec hxs
          refine ⟨by simp only [Cs.size, List.length_singleton]; omega, trivial, by simp [Cs.size, h2], fun i hi => ?_⟩
          simp only [Cs.get, over, Nat.mul_one, List.length_singleton, List.getD_eq_getElem?_getD, List.getElem?_set]
          by_cases hj : j + off = i
          · rw [if_pos hj, if_pos (by simp only [Cs.size] at hi; omega), if_pos (by omega)]
            subst hj
            simpa using asInt1_spec hx
          · rw [if_neg hj, if_neg (by omega)]
            have := h3 i hi
            simpa only [List.getD_eq_getElem?_getD] using this
        · cases h
    · cases h
  | .ints k l, c', p, vs, q, hq, _, h => by
    simp only [Cs.st] at h
    split at h
    · cases h
    · rename_i i0 hi0
      have hq : i0 = q := (Pos.flat_spec hi0).symm.trans hq
      subst hq
      split at h
      · rename_i v
        split at h
        · cases h
        · rename_i x hx
          simp only [std, Prod.mk.injEq, decide_eq_true_eq] at h
          obtain ⟨h1, rfl⟩ := h
          refine ⟨by simpa [Cs.size] using h1, trivial, by simp [Cs.size], fun i hi => ?_⟩
          simp only [Cs.get, over, List.length_singleton, List.getD_eq_getElem?_getD, List.getElem?_set]
          by_cases hj : i0 = i
          · subst hj
            rw [if_pos rfl, if_pos (by simpa [Cs.size] using hi), if_pos (by omega)]
            simpa using asInt1_spec hx
          · rw [if_neg hj, if_neg (by omega)]
            exact SV.same.refl _
      · split at h
        · cases h
        · rename_i xs hx
          simp only [std, Prod.mk.injEq, decide_eq_true_eq] at h
          obtain ⟨h1, rfl⟩ := h
          obtain ⟨h2, h3⟩ := asInts_spec hx
          have hlen : (iput l i0 xs).length = l.length := by simp [iput]; omega
          refine ⟨by simp only [Cs.size]; omega, trivial, by simp [Cs.size, hlen], fun i hi => ?_⟩
          simp only [Cs.size] at hi
          simp only [Cs.get, over, iput, List.getD_eq_getElem?_getD]
          by_cases hj : i0 ≤ i ∧ i < i0 + vs.length
          · rw [if_pos hj, List.getElem?_append_left (by simp; omega), List.getElem?_append_right (by simp; omega)]
            have := h3 (i - i0) (by omega)
            rw [List.getElem?_take, if_pos (by simp; omega)]
            simp only [List.length_take, List.getD_eq_getElem?_getD] at this ⊢
            rw [show i - min i0 l.length = i - i0 by omega]
            exact this
          · rw [if_neg hj]
            by_cases hlt : i < i0
            · rw [List.append_assoc, List.getElem?_append_left (by simp; omega), List.getElem?_take, if_pos hlt]
              exact SV.same.refl _
            · rw [List.getElem?_append_right (by simp; omega), List.getElem?_drop]
              simp only [List.length_append, List.length_take]
              rw [show i0 + xs.length + (i - (min i0 l.length + min (l.length - i0) xs.length)) = i by omega]
              exact SV.same.refl _
  | .recs ks l, c', p, vs, q, hq, _, h => by
    simp only [Cs.st] at h
    split at h
    · rename_i j hj
      obtain ⟨h1, h2⟩ := Pos.rc_spec hj
      have hq : q = j * ks.length := by omega
      subst hq
      split at h
      · rename_i xs hx
        simp only [std, Prod.mk.injEq, decide_eq_true_eq] at h
        obtain ⟨h3, rfl⟩ := h
        obtain ⟨h4, h5, h6⟩ := asScs_spec hx
        have hle : j * ks.length + ks.length ≤ l.length * ks.length := by
          have : (j + 1) * ks.length ≤ l.length * ks.length := Nat.mul_le_mul_right _ h3
          rwa [Nat.add_mul, Nat.one_mul] at this
        refine ⟨by simp only [Cs.size]; omega, trivial, by simp [Cs.size], fun i hi => ?_⟩
        simp only [Cs.get, over, h5]
        have hmod : i % ks.length < ks.length := Nat.mod_lt _ h2
        have hdm : i / ks.length * ks.length + i % ks.length = i := by rw [Nat.mul_comm]; exact Nat.div_add_mod i ks.length
        by_cases hij : j = i / ks.length
        · subst hij
          rw [if_pos (by omega)]
          have hl : (l.set (i / ks.length) xs)[i / ks.length]? = some xs := by rw [List.getElem?_set, if_pos rfl, if_pos (show _ < _ from h3)]
          have := rec_same hx hl hmod
          rw [show i - i / ks.length * ks.length = i % ks.length by omega]
          exact this
        · have hl : (l.set j xs)[i / ks.length]? = l[i / ks.length]? := by rw [List.getElem?_set, if_neg hij]
          rw [rget_congr hl]
          rw [if_neg]
          · exact SV.same.refl _
          · rintro ⟨ha, hb⟩
            apply hij
            have : i = j * ks.length + (i - j * ks.length) := by omega
            rw [this]
            exact (rec_cell (by omega)).1.symm
      · cases h
    · cases h
  | .cat n a b, c', .at_ off, vs, q, hq, hw, h => by
    have hq : off = q := hq
    subst hq
    obtain ⟨h1, h2, h3⟩ := hw
    simp only [Cs.st] at h
    split at h
    · rename_i hb
      have hb : off + vs.length ≤ n := by simpa using hb
      cases hr : a.st std (.at_ off) vs with
      | mk ok a' =>
      rw [hr] at h
      simp only [Prod.mk.injEq] at h
      obtain ⟨rfl, rfl⟩ := h
      obtain ⟨h4, h5, h6, h7⟩ := Cs.st_spec (q := off) rfl h2 hr
      refine ⟨by simp only [Cs.size]; omega, ⟨h6.trans h1, h5, h3⟩, rfl, fun i hi => ?_⟩
      simp only [Cs.get, over]
      by_cases hin : i < n
      · rw [if_pos hin, if_pos hin]; exact h7 i (by omega)
      · rw [if_neg hin, if_neg hin, if_neg (by omega)]; exact SV.same.refl _
    · rename_i hb
      split at h
      · rename_i hb2
        have hb2 : n ≤ off := by simpa using hb2
        cases hr : b.st std (.at_ (off - n)) vs with
        | mk ok b' =>
        rw [hr] at h
        simp only [Prod.mk.injEq] at h
        obtain ⟨rfl, rfl⟩ := h
        obtain ⟨h4, h5, h6, h7⟩ := Cs.st_spec (q := off - n) rfl h3 hr
        refine ⟨by simp only [Cs.size]; omega, ⟨h1, h2, h5⟩, by simp [Cs.size, h6], fun i hi => ?_⟩
        simp only [Cs.size] at hi
        simp only [Cs.get, over]
        by_cases hin : i < n
        · rw [if_pos hin, if_neg (by omega), if_pos hin]; exact SV.same.refl _
        · rw [if_neg hin, if_neg hin]
          have := h7 (i - n) (by omega)
          simp only [over] at this
          by_cases hc : off ≤ i ∧ i < off + vs.length
          · rw [if_pos hc]; rw [if_pos (by omega)] at this; rw [show i - off = i - n - (off - n) by omega]; exact this
          · rw [if_neg hc]; rw [if_neg (by omega)] at this; exact this
      · cases h
  | .cat n a b, c', .el j sz off, vs, q, hq, hw, h => by
    have hq : j * sz + off = q := hq
    subst hq
    obtain ⟨h1, h2, h3⟩ := hw
    simp only [Cs.st] at h
    split at h
    · rename_i hb
      cases hr : a.st std (.el j sz off) vs with
      | mk ok a' =>
      rw [hr] at h
      simp only [Prod.mk.injEq] at h
      obtain ⟨rfl, rfl⟩ := h
      obtain ⟨h4, h5, h6, h7⟩ := Cs.st_spec (q := j * sz + off) rfl h2 hr
      refine ⟨by simp only [Cs.size]; omega, ⟨h6.trans h1, h5, h3⟩, rfl, fun i hi => ?_⟩
      simp only [Cs.get, over]
      by_cases hin : i < n
      · rw [if_pos hin, if_pos hin]; exact h7 i (by omega)
      · rw [if_neg hin, if_neg hin, if_neg (by omega)]; exact SV.same.refl _
    · rename_i hb
      have hb := ble_not hb
      cases hr : b.st std (.el j sz (off - n)) vs with
      | mk ok b' =>
      rw [hr] at h
      simp only [Prod.mk.injEq] at h
      obtain ⟨rfl, rfl⟩ := h
      obtain ⟨h4, h5, h6, h7⟩ := Cs.st_spec (q := j * sz + (off - n)) rfl h3 hr
      refine ⟨by simp only [Cs.size]; omega, ⟨h1, h2, h5⟩, by simp [Cs.size, h6], fun i hi => ?_⟩
      simp only [Cs.size] at hi
      simp only [Cs.get, over]
      by_cases hin : i < n
      · rw [if_pos hin, if_neg (by omega), if_pos hin]; exact SV.same.refl _
      · rw [if_neg hin, if_neg hin]
        have := h7 (i - n) (by omega)
        simp only [over] at this
        by_cases hc : j * sz + off ≤ i ∧ i < j * sz + off + vs.length
        · rw [if_pos hc]; rw [if_pos (by omega)] at this; rw [show i - (j * sz + off) = i - n - (j * sz + (off - n)) by omega]; exact this
        · rw [if_neg hc]; rw [if_neg (by omega)] at this; exact this

theorem Cs.sub_spec : ∀ {c c' : Cs} {off es : Nat} {lo n : Nm}, c.wf → c.sub std off es lo n = (true, c') → off + (lo.n + n.n) * es ≤ c.size ∧ Laid c' (n.n * es) (fun i => c.get (off + lo.n * es + i))
  | .lit l, c', off, es, lo, n, _, h => by
    simp only [Cs.sub] at h
    split at h
    · simp only [Prod.mk.injEq] at h
      obtain ⟨h1, rfl⟩ := h
      have h1 : off + (lo.n + n.n) * es ≤ l.length := Nat.le_of_ble_eq_true h1
      rw [Nat.add_mul] at h1
      refine ⟨by simp only [Cs.size]; rw [Nat.add_mul]; omega, trivial, by simp [Cs.size]; omega, fun i hi => ?_⟩
      simp only [Cs.get, List.getD_eq_getElem?_getD, List.getElem?_take, if_pos hi, List.getElem?_drop]
      exact SV.same.refl _
    · split at h
      · rename_i k hes hk
        simp only [Bool.and_eq_true] at hes
        obtain ⟨hes, hoff⟩ := hes
        have : es = 1 := by simpa using hes
        subst this
        have hoff : off ≤ l.length := by simpa using hoff
        split at h
        · rename_i xs hx
          simp only [std, Prod.mk.injEq, decide_eq_true_eq] at h
          obtain ⟨h1, rfl⟩ := h
          obtain ⟨h2, h3⟩ := asInts_spec hx
          have hl : xs.length = l.length - off := by rw [h2]; simp
          refine ⟨by simp only [Cs.size]; omega, trivial, by simp [Cs.size]; omega, fun i hi => ?_⟩
          have := h3 (lo.n + i) (by simp; omega)
          simp only [Cs.get, List.getD_eq_getElem?_getD, List.getElem?_take, List.getElem?_drop] at this ⊢
          rw [if_pos (by omega), show off + lo.n * 1 + i = off + (lo.n + i) by omega]
          exact this
        · cases h
      · cases h
  | .ints k l, c', off, es, lo, n, _, h => by
    simp only [Cs.sub] at h
    split at h
    · rename_i hes
      have : es = 1 := by simpa using hes
      subst this
      split at h
      all_goals
        simp only [std, Prod.mk.injEq, decide_eq_true_eq] at h
        obtain ⟨h1, rfl⟩ := h
        refine ⟨by simp only [Cs.size]; omega, trivial, by simp [Cs.size]; omega, fun i hi => ?_⟩
        simp only [Cs.get, List.getD_eq_getElem?_getD, List.getElem?_take, List.getElem?_drop]
        rw [if_pos (by omega)]
        simp only [Nat.mul_one, Nat.zero_add]
        exact SV.same.refl _
    · cases h
  | .recs ks l, c', off, es, lo, n, _, h => by
    simp only [Cs.sub] at h
    split at h
    · rename_i hes ho
      have : es = ks.length := by simpa using hes
      subst this
      have : off = 0 := by simpa using ho
      subst this
      simp only [std, Prod.mk.injEq, decide_eq_true_eq] at h
      obtain ⟨h1, rfl⟩ := h
      have hm : (lo.n + n.n) * ks.length ≤ l.length * ks.length := Nat.mul_le_mul_right _ h1
      refine ⟨by simp only [Cs.size]; omega, trivial, by simp only [Cs.size]; rw [List.length_take, List.length_drop, Nat.min_eq_left (by omega)], fun i hi => ?_⟩
      have hpos : 0 < ks.length := by
        rcases Nat.eq_zero_or_pos ks.length with h0 | h0
        · rw [h0] at hi; omega
        · exact h0
      simp only [Cs.get, Nat.zero_add]
      rw [show (lo.n * ks.length + i) / ks.length = lo.n + i / ks.length by rw [Nat.mul_comm, Nat.mul_add_div hpos], show (lo.n * ks.length + i) % ks.length = i % ks.length by rw [Nat.mul_comm, Nat.mul_add_mod]]
      have hin : i / ks.length < n.n := Nat.div_lt_of_lt_mul (by rw [Nat.mul_comm]; exact hi)
      rw [rget_congr2 (l := (l.drop lo.n).take n.n) (l' := l) (j := i / ks.length) (j' := lo.n + i / ks.length) (by rw [List.getElem?_take, if_pos hin, List.getElem?_drop])]
      exact SV.same.refl _
    · cases h
  | .cat q a b, c', off, es, lo, n, hw, h => by
    obtain ⟨h1, h2, h3⟩ := hw
    simp only [Cs.sub] at h
    split at h
    · rename_i hb
      have hb : q ≤ off := by simpa using hb
      obtain ⟨h4, h5, h6, h7⟩ := Cs.sub_spec h3 h
      refine ⟨by simp only [Cs.size]; omega, h5, h6, fun i hi => ?_⟩
      simp only [Cs.get]; rw [if_neg (show ¬ off + lo.n * es + i < q by omega)]
      have := h7 i hi
      rw [show off + lo.n * es + i - q = off - q + lo.n * es + i by omega]; exact this
    · rename_i hb
      obtain ⟨h4, h5, h6, h7⟩ := Cs.sub_spec h2 h
      refine ⟨by simp only [Cs.size]; omega, h5, h6, fun i hi => ?_⟩
      rw [Nat.add_mul] at h4
      simp only [Cs.get]; rw [if_pos (show off + lo.n * es + i < q by omega)]
      exact h7 i hi

theorem chunk_spec {ks : List CK} : ∀ {fuel : Nat} {l : List SV} {xs : List (List Sc)}, chunk ks fuel l = some xs → l.length = xs.length * ks.length ∧ ∀ i, i < l.length → (cellK xs (i / ks.length) (i % ks.length) ks[i % ks.length]?).same (l.getD i .bad)
  | fuel, [], xs, h => by cases fuel <;> (simp [chunk] at h; subst h; simp)
  | 0, _ :: _, xs, h => by simp [chunk] at h
  | fuel + 1, v :: r, xs, h => by
    simp only [chunk] at h
    generalize hL : v :: r = L at h ⊢
    split at h
    · cases h
    · rename_i x hx
      split at h
      · cases h
      · rename_i rs hr
        simp only [Option.some.injEq] at h
        subst h
        obtain ⟨h1, h2⟩ := chunk_spec hr
        obtain ⟨h3, h4, h5⟩ := asScs_spec hx
        simp only [List.length_take] at h4
        simp only [List.length_drop] at h1
        have hle : ks.length ≤ L.length := by omega
        refine ⟨by simp only [List.length_cons, Nat.add_mul]; omega, fun i hi => ?_⟩
        have hpos : 0 < ks.length := by
          rcases Nat.eq_zero_or_pos ks.length with h0 | h0
          · rw [h0] at h1; subst hL; simp at h1
          · exact h0
        by_cases hik : i < ks.length
        · rw [Nat.div_eq_of_lt hik, Nat.mod_eq_of_lt hik]
          have := rec_same hx (l := x :: rs) (j := 0) (by simp) hik
          refine this.trans ?_
          simp only [List.getD_eq_getElem?_getD, List.getElem?_take, if_pos hik]
          exact SV.same.refl _
        · have hd : i / ks.length = (i - ks.length) / ks.length + 1 := by rw [Nat.div_eq_sub_div hpos (by omega)]
          have hm : i % ks.length = (i - ks.length) % ks.length := by rw [Nat.mod_eq_sub_mod (by omega)]
          have := h2 (i - ks.length) (by simp; omega)
          rw [hd, hm, rget_congr2 (l := x :: rs) (l' := rs) (j' := (i - ks.length) / ks.length) (by simp)]
          refine this.trans ?_
          simp only [List.getD_eq_getElem?_getD, List.getElem?_drop]
          rw [show ks.length + (i - ks.length) = i by omega]
          exact SV.same.refl _

def beside (n : Nat) (c d : Cs) (i : Nat) : SV := if i < n then c.get i else d.get (i - n)

theorem ints_app (k : IntKind) (l r : List Int) (i : Nat) : (Cs.ints k (l ++ r)).get i = if i < l.length then .int k (l.getD i 0) else .int k (r.getD (i - l.length) 0) := by
  simp only [Cs.get, List.getD_eq_getElem?_getD]
  split
  · rename_i h; rw [List.getElem?_append_left h]
  · rename_i h; rw [List.getElem?_append_right (by omega)]

theorem Cs.app_spec {c d e : Cs} {n : Nat} (hc : c.wf) (hd : d.wf) (hn : c.size = n) (h : c.app std d = some e) : Laid e (n + d.size) (beside n c d) := by
  unfold Cs.app at h
  split at h
  · simp only [Option.some.injEq] at h; subst h
    have hn : 0 = n := hn
    subst hn
    exact ⟨hd, by simp, fun i hi => by simp only [beside]; rw [if_neg (by omega)]; exact SV.same.refl _⟩
  · simp only [Option.some.injEq] at h; subst h
    exact ⟨hc, by simp [Cs.size, hn], fun i hi => by
      simp only [Cs.size, List.length_nil, Nat.add_zero] at hi
      simp only [beside]; rw [if_pos hi]; exact SV.same.refl _⟩
  · simp only [Option.some.injEq] at h; subst h
    simp only [Cs.size] at hn; subst hn
    refine ⟨trivial, by simp [Cs.size], fun i hi => ?_⟩
    simp only [beside, Cs.get, List.getD_eq_getElem?_getD]
    split
    · rename_i h1; rw [List.getElem?_append_left h1]; exact SV.same.refl _
    · rename_i h1; rw [List.getElem?_append_right (by omega)]; exact SV.same.refl _
  · rename_i l k r _
    simp only [Cs.size] at hn; subst hn
    split at h
    · rename_i xs hx
      simp only [Option.some.injEq] at h; subst h
      obtain ⟨h1, h2⟩ := asInts_spec hx
      refine ⟨trivial, by simp [Cs.size, std, h1], fun i hi => ?_⟩
      simp only [std, ints_app, beside, h1]
      split
      · rename_i h3; exact h2 i h3
      · exact SV.same.refl _
    · cases h
  · rename_i k l r _
    simp only [Cs.size] at hn; subst hn
    split at h
    · rename_i xs hx
      simp only [Option.some.injEq] at h; subst h
      obtain ⟨h1, h2⟩ := asInts_spec hx
      refine ⟨trivial, by simp [Cs.size, std, h1], fun i hi => ?_⟩
      simp only [Cs.size] at hi
      simp only [std, ints_app, beside]
      split
      · exact SV.same.refl _
      · exact h2 _ (by omega)
    · cases h
  · rename_i k l k' r
    simp only [Cs.size] at hn; subst hn
    split at h
    · rename_i hk
      have := kn_eq hk
      subst this
      simp only [Option.some.injEq] at h; subst h
      refine ⟨trivial, by simp [Cs.size, std], fun i hi => ?_⟩
      simp only [std, ints_app, beside]
      split <;> exact SV.same.refl _
    · cases h
  · rename_i ks l r _
    simp only [Cs.size] at hn; subst hn
    split at h
    · rename_i xs hx
      simp only [Option.some.injEq] at h; subst h
      obtain ⟨h1, h2⟩ := chunk_spec hx
      refine ⟨trivial, by simp [Cs.size, std, h1, Nat.add_mul], fun i hi => ?_⟩
      simp only [Cs.size] at hi
      simp only [std, beside, Cs.get]
      have hpos : 0 < ks.length := by
        rcases Nat.eq_zero_or_pos ks.length with h0 | h0
        · rw [h0] at hi h1; omega
        · exact h0
      split
      · rename_i h3
        have hlt : i / ks.length < l.length := Nat.div_lt_of_lt_mul (by rw [Nat.mul_comm]; exact h3)
        rw [rget_congr2 (l := l ++ xs) (l' := l) (j' := i / ks.length) (by rw [List.getElem?_append_left hlt])]
        exact SV.same.refl _
      · rename_i h3
        have hi' : i = ks.length * l.length + (i - l.length * ks.length) := by rw [Nat.mul_comm]; omega
        have hd : i / ks.length = l.length + (i - l.length * ks.length) / ks.length := by
          conv => lhs; rw [hi']
          rw [Nat.mul_add_div hpos]
        have hm : i % ks.length = (i - l.length * ks.length) % ks.length := by
          conv => lhs; rw [hi']
          rw [Nat.mul_add_mod]
        rw [hd, hm, rget_congr2 (l := l ++ xs) (l' := xs) (j' := (i - l.length * ks.length) / ks.length) (by rw [List.getElem?_append_right (Nat.le_add_right _ _), Nat.add_sub_cancel_left])]
        exact h2 _ (by omega)
    · cases h
  · rename_i l ks r _
    simp only [Cs.size] at hn; subst hn
    split at h
    · rename_i xs hx
      simp only [Option.some.injEq] at h; subst h
      obtain ⟨h1, h2⟩ := chunk_spec hx
      refine ⟨trivial, by simp [Cs.size, std, h1, Nat.add_mul], fun i hi => ?_⟩
      simp only [Cs.size] at hi
      simp only [std, beside, Cs.get]
      have hpos : 0 < ks.length := by
        rcases Nat.eq_zero_or_pos ks.length with h0 | h0
        · rw [h0] at hi h1; omega
        · exact h0
      rw [h1]
      split
      · rename_i h3
        have hlt : i / ks.length < xs.length := Nat.div_lt_of_lt_mul (by rw [Nat.mul_comm]; exact h3)
        rw [rget_congr2 (l := xs ++ r) (l' := xs) (j' := i / ks.length) (by rw [List.getElem?_append_left hlt])]
        exact h2 _ (by omega)
      · rename_i h3
        have hi' : i = ks.length * xs.length + (i - xs.length * ks.length) := by rw [Nat.mul_comm]; omega
        have hd : i / ks.length = xs.length + (i - xs.length * ks.length) / ks.length := by
          conv => lhs; rw [hi']
          rw [Nat.mul_add_div hpos]
        have hm : i % ks.length = (i - xs.length * ks.length) % ks.length := by
          conv => lhs; rw [hi']
          rw [Nat.mul_add_mod]
        rw [hd, hm, rget_congr2 (l := xs ++ r) (l' := r) (j' := (i - xs.length * ks.length) / ks.length) (by rw [List.getElem?_append_right (Nat.le_add_right _ _), Nat.add_sub_cancel_left])]
        exact SV.same.refl _
    · cases h
  · cases h

/-! ### What the two machines have in common -/

structure TTie (G : List Nat) (m : List Pl) (t : List (Nat × SV)) (a : Act) : Prop where
  slot : ∀ i, look t i = .bad ∨ (look t i).val m = some (a.tmps.getD i undef)
  glob : ∀ (i g : Nat), G[i]? = some g → ∃ p, m[i]? = some p ∧ p.nil = false ∧ p.blk = g ∧ p.off = 0

variable {G : List Nat}

theorem TTie.mono {m m' : List Pl} {t : List (Nat × SV)} {a : Act} (h : TTie G m t a) (hm : m <+: m') : TTie G m' t a :=
  ⟨fun i => (h.slot i).imp id (fun e => SV.val_mono hm _ e), fun i g hg => let ⟨p, h1, h2⟩ := h.glob i g hg; ⟨p, getElem?_pre hm h1, h2⟩⟩

theorem TTie.put {m : List Pl} {t : List (Nat × SV)} {a : Act} (h : TTie G m t a) {v : SV} {u : Value} (hv : v = .bad ∨ v.val m = some u) (dst : Option Tmp)
    (hd : ∀ d, dst = some d → d < a.tmps.size) : TTie G m (putO t dst v) (a.put dst u) := by
  refine ⟨fun i => ?_, h.glob⟩
  cases dst with
  | none => exact h.slot i
  | some d =>
    have hd' := hd d rfl
    simp only [putO, look_put, Act.put]
    by_cases hi : i = d
    · subst hi
      rw [if_pos rfl]
      refine hv.imp id (fun e => ?_)
      simp [hd', e]
    · rw [if_neg hi]
      refine (h.slot i).imp id (fun e => ?_)
      rw [e]
      simp only [Array.getD_eq_getD_getElem?]
      rw [Array.getElem?_setIfInBounds_ne (Ne.symm hi)]

theorem gpos_spec : ∀ {G : List Nat} {g k : Nat}, gpos G g = some k → G[k]? = some g
  | [], g, k, h => by simp [gpos] at h
  | x :: r, g, k, h => by
    simp only [gpos] at h
    split at h
    · rename_i hb
      simp only [Option.some.injEq] at h
      subst h
      have : x = g := by simpa using hb
      simp [this]
    · split at h
      · rename_i k' hk
        simp only [Option.some.injEq] at h
        subst h
        simpa using gpos_spec hk
      · cases h

theorem ofValue_val (m : List Pl) (v : Value) : SV.ofValue v = .bad ∨ (SV.ofValue v).val m = some v := by
  unfold SV.ofValue
  split <;> first | exact .inl rfl | exact .inr rfl | skip
  rename_i k n
  by_cases h : k.wrap n = n
  · rw [if_pos h]; exact .inr (by simp [SV.val, h])
  · rw [if_neg h]; exact .inl rfl

theorem St.eval_or {m : List Pl} {S : St} {a : Act} (T : TTie G m S.t a) (x : Operand) : S.ev G x = .bad ∨ (S.ev G x).val m = some (a.eval x) := by
  cases x with
  | tmp t => exact T.slot t
  | const v => exact ofValue_val m v
  | func f => exact .inr (by simp [St.ev, SV.val, SV.vals, Act.eval])
  | global g =>
    simp only [St.ev]
    split
    · rename_i k hk
      obtain ⟨p, h1, h2, h3, h4⟩ := T.glob k g (gpos_spec hk)
      right
      simp [SV.val, h1, Pl.ptr, h2, h3, h4, Act.eval]
    · exact .inl rfl

theorem St.eval_of {m : List Pl} {S : St} {a : Act} (T : TTie G m S.t a) {x : Operand} {v : SV} (h : S.ev G x = v) (hb : v ≠ .bad) : v.val m = some (a.eval x) := by
  subst h
  exact (St.eval_or T x).resolve_left hb

section
variable {m : List Pl} {u : Value}
theorem v_int {k : IntKind} {n : Int} (h : (SV.int k n).val m = some u) : k.wrap n = n ∧ u = .int k n := by
  simp only [SV.val] at h
  split at h
  · rename_i h'; exact ⟨h', by simpa using h.symm⟩
  · cases h
theorem v_num {k : IntKind} {n : Int} (h : (SV.num k n).val m = some u) : k.wrap n = n ∧ u = .int k n := by
  simp only [SV.val] at h
  split at h
  · rename_i h'; exact ⟨h', by simpa using h.symm⟩
  · cases h
theorem v_bool {b : Bool} (h : (SV.bool b).val m = some u) : u = .bool b := by simpa [SV.val] using h.symm
theorem v_str {s : ByteArray} (h : (SV.str s).val m = some u) : u = .string s := by simpa [SV.val] using h.symm
theorem v_ptr {id off : Nat} (h : (SV.ptr id off).val m = some u) : ∃ p, m[id]? = some p ∧ p.nil = false ∧ u = .pointer (some ⟨p.blk, p.off + off, none⟩) := by
  simp only [SV.val, Option.bind_eq_some_iff] at h
  obtain ⟨p, hp, h⟩ := h
  exact ⟨p, hp, ptr_some h⟩
theorem v_elt {id j sz off : Nat} (h : (SV.elt id j sz off).val m = some u) : ∃ p, m[id]? = some p ∧ p.nil = false ∧ u = .pointer (some ⟨p.blk, p.off + (j * sz + off), none⟩) := by
  simp only [SV.val, Option.bind_eq_some_iff] at h
  obtain ⟨p, hp, h⟩ := h
  exact ⟨p, hp, ptr_some h⟩
theorem v_slice {id off len cap : Nat} (h : (SV.slice id off len cap).val m = some u) : ∃ p, m[id]? = some p ∧ p.nil = false ∧ len ≤ cap ∧ u = .slice (some ⟨p.blk, p.off + off, none⟩) len cap := by
  simp only [SV.val, Option.bind_eq_some_iff] at h
  obtain ⟨p, hp, h⟩ := h
  exact ⟨p, hp, sl_some h⟩
theorem v_row {id len : Nat} (h : (SV.row id len).val m = some u) : ∃ p, m[id]? = some p ∧ ((p.nil = false ∧ len ≤ p.cap ∧ u = .slice (some ⟨p.blk, p.off, none⟩) len p.cap) ∨ (p.nil = true ∧ len = 0 ∧ u = .slice none 0 0)) := by
  simp only [SV.val, Option.bind_eq_some_iff] at h
  obtain ⟨p, hp, h⟩ := h
  exact ⟨p, hp, row_some h⟩
theorem v_agg {l : List SV} (h : (SV.agg l).val m = some u) : ∃ vs, SV.vals m l = some vs ∧ u = .agg vs.toArray := by
  simp only [SV.val, Option.map_eq_some_iff] at h
  obtain ⟨p, hp, h⟩ := h
  exact ⟨p, hp, h.symm⟩
theorem v_tup {l : List SV} (h : (SV.tup l).val m = some u) : ∃ vs, SV.vals m l = some vs ∧ u = .tuple vs.toArray := by
  simp only [SV.val, Option.map_eq_some_iff] at h
  obtain ⟨p, hp, h⟩ := h
  exact ⟨p, hp, h.symm⟩
theorem v_fn {f : FuncId} {l : List SV} (h : (SV.fn f l).val m = some u) : ∃ vs, SV.vals m l = some vs ∧ u = .func (.func f) #[] vs.toArray := by
  simp only [SV.val, Option.map_eq_some_iff] at h
  obtain ⟨p, hp, h⟩ := h
  exact ⟨p, hp, h.symm⟩
theorem v_nilp (h : SV.nilp.val m = some u) : u = .pointer none := by simpa [SV.val] using h.symm
theorem v_nils (h : SV.nils.val m = some u) : u = .slice none 0 0 := by simpa [SV.val] using h.symm
end

/-- How the world goes on. -/
structure Ext (m m' : List Pl) (h h' : List Blk) (w w' : World) : Prop where
  pre : m <+: m'
  os : w'.os = w.os
  tape : w'.tape = w.tape
  output : w'.output = w.output
  size : w.heap.size ≤ w'.heap.size
  kept : ∀ b, b < w.heap.size → (∀ (i : Nat) (p : Pl) (c : Blk), m[i]? = some p → h[i]? = some c → c.k.wr = true → p.nil = false → p.blk ≠ b) → w'.heap[b]? = w.heap[b]?
  kinds : ∀ (i : Nat) (p : Pl) (c : Blk), m'[i]? = some p → h'[i]? = some c → c.k.wr = true → p.nil = false →
    (∃ (j : Nat) (q : Pl) (c0 : Blk), m[j]? = some q ∧ h[j]? = some c0 ∧ c0.k.wr = true ∧ q.nil = false ∧ q.blk = p.blk) ∨ w.heap.size ≤ p.blk
  src : ∀ (i : Nat) (p : Pl) (c : Blk), m'[i]? = some p → h'[i]? = some c → c.k ≠ .dead → p.nil = false →
    (∃ (j : Nat) (q : Pl) (c0 : Blk), m[j]? = some q ∧ h[j]? = some c0 ∧ c0.k ≠ .dead ∧ q.nil = false ∧ q.blk = p.blk) ∨ w.heap.size ≤ p.blk

theorem Ext.refl (m : List Pl) (h : List Blk) (w : World) : Ext m m h h w w :=
  ⟨List.prefix_rfl, rfl, rfl, rfl, Nat.le_refl _, fun _ _ _ => rfl, fun i p c hp hc hk hd => .inl ⟨i, p, c, hp, hc, hk, hd, rfl⟩, fun i p c hp hc hk hn => .inl ⟨i, p, c, hp, hc, hk, hn, rfl⟩⟩

theorem Ext.of_below {m : List Pl} {h : List Blk} {w w' : World} (hb : Below w.heap.size w w') : Ext m m h h w w' :=
  ⟨List.prefix_rfl, hb.os, hb.tape, hb.output, hb.size, fun b hlt _ => hb.block b hlt, fun i p c hp hc hk hd => .inl ⟨i, p, c, hp, hc, hk, hd, rfl⟩, fun i p c hp hc hk hn => .inl ⟨i, p, c, hp, hc, hk, hn, rfl⟩⟩

theorem Ext.trans {m m1 m2 : List Pl} {h h1 h2 : List Blk} {w w1 w2 : World} (X : Ext m m1 h h1 w w1) (Y : Ext m1 m2 h1 h2 w1 w2) : Ext m m2 h h2 w w2 := by
  refine ⟨X.pre.trans Y.pre, Y.os.trans X.os, Y.tape.trans X.tape, Y.output.trans X.output, Nat.le_trans X.size Y.size, fun b hb hno => ?_, fun i p c hp hc hk hn => ?_, fun i p c hp hc hk hn => ?_⟩
  · rw [Y.kept b (Nat.lt_of_lt_of_le hb X.size) (fun i p c hp hc hk hn => ?_), X.kept b hb hno]
    rcases X.kinds i p c hp hc hk hn with ⟨j, q, c0, h1, h2, h3, h4, h5⟩ | h
    · rw [← h5]; exact hno j q c0 h1 h2 h3 h4
    · omega
  · rcases Y.kinds i p c hp hc hk hn with ⟨j, q, c0, h1, h2, h3, h4, h5⟩ | h
    · rcases X.kinds j q c0 h1 h2 h3 h4 with ⟨j', q', c', g1, g2, g3, g4, g5⟩ | h
      · exact .inl ⟨j', q', c', g1, g2, g3, g4, g5.trans h5⟩
      · exact .inr (by rw [← h5]; exact h)
    · exact .inr (Nat.le_trans X.size h)
  · rcases Y.src i p c hp hc hk hn with ⟨j, q, c0, h1, h2, h3, h4, h5⟩ | h
    · rcases X.src j q c0 h1 h2 h3 h4 with ⟨j', q', c', g1, g2, g3, g4, g5⟩ | h
      · exact .inl ⟨j', q', c', g1, g2, g3, g4, g5.trans h5⟩
      · exact .inr (by rw [← h5]; exact h)
    · exact .inr (Nat.le_trans X.size h)

theorem HTie.below {m : List Pl} {h : List Blk} {w w' : World} (t : HTie m h w) (hb : Below w.heap.size w w') : HTie m h w' := t.same fun b hlt => hb.block b hlt

theorem getElem?_push {α : Type} {l : List α} {x y : α} {i : Nat} (h : (l ++ [x])[i]? = some y) : (i < l.length ∧ l[i]? = some y) ∨ (i = l.length ∧ y = x) := by
  rcases Nat.lt_or_ge i l.length with hi | hi
  · rw [List.getElem?_append_left hi] at h; exact .inl ⟨hi, h⟩
  · have h' := (List.getElem?_eq_some_iff.1 h).1
    simp at h'
    have : i = l.length := by omega
    subst this
    rw [List.getElem?_append_right (Nat.le_refl _)] at h
    simp at h
    exact .inr ⟨rfl, h.symm⟩

/-- One block more. -/
theorem Ext.push {m : List Pl} {h : List Blk} {w w' : World} (t : HTie m h w) {p : Pl} {b : Blk} (ho : w'.os = w.os) (ht : w'.tape = w.tape) (hu : w'.output = w.output) (hz : w.heap.size ≤ w'.heap.size)
    (hs : ∀ k, k < w.heap.size → w'.heap[k]? = w.heap[k]?)
    (hp : p.nil = false → w.heap.size ≤ p.blk ∨ (∃ (j : Nat) (q : Pl) (c : Blk), m[j]? = some q ∧ h[j]? = some c ∧ c.k ≠ .dead ∧ q.nil = false ∧ q.blk = p.blk ∧ (b.k.wr = true → c.k.wr = true))) :
    Ext m (m ++ [p]) h (h ++ [b]) w w' := by
  refine ⟨List.prefix_append _ _, ho, ht, hu, hz, fun k hk _ => hs k hk, fun i q c hq hc hk hn => ?_, fun i q c hq hc hk hn => ?_⟩
  · rcases getElem?_push hq with ⟨h1, h2⟩ | ⟨h1, rfl⟩
    · rcases getElem?_push hc with ⟨h3, h4⟩ | ⟨h3, h4⟩
      · exact .inl ⟨i, q, c, h2, h4, hk, hn, rfl⟩
      · rw [← t.len] at h3; omega
    · rcases getElem?_push hc with ⟨h3, h4⟩ | ⟨h3, rfl⟩
      · rw [← t.len] at h3; omega
      · rcases hp hn with h | ⟨j, r, d, g1, g2, g0, g3, g4, g5⟩
        · exact .inr h
        · exact .inl ⟨j, r, d, g1, g2, g5 hk, g3, g4⟩
  · rcases getElem?_push hq with ⟨h1, h2⟩ | ⟨h1, rfl⟩
    · rcases getElem?_push hc with ⟨h3, h4⟩ | ⟨h3, h4⟩
      · exact .inl ⟨i, q, c, h2, h4, hk, hn, rfl⟩
      · rw [← t.len] at h3; omega
    · rcases hp hn with h | ⟨j, r, d, g1, g2, g0, g3, g4, g5⟩
      · exact .inr h
      · exact .inl ⟨j, r, d, g1, g2, g0, g3, g4⟩

/-- One block more; of the others some are not written any more. -/
theorem Ext.gen {m : List Pl} {h h' : List Blk} {w w' : World} (t : HTie m h w) {p : Pl} {b : Blk} (ho : w'.os = w.os) (ht : w'.tape = w.tape) (hu : w'.output = w.output) (hz : w.heap.size ≤ w'.heap.size) (hl : h'.length = h.length)
    (hs : ∀ k, k < w.heap.size → (∀ (i : Nat) (q : Pl) (c : Blk), m[i]? = some q → h[i]? = some c → c.k.wr = true → q.nil = false → q.blk ≠ k) → w'.heap[k]? = w.heap[k]?)
    (hk : ∀ (i : Nat) (c : Blk), h'[i]? = some c → c.k.wr = true → ∃ c0 : Blk, h[i]? = some c0 ∧ c0.k.wr = true)
    (hlive : ∀ (i : Nat) (c : Blk), h'[i]? = some c → c.k ≠ .dead → ∃ c0 : Blk, h[i]? = some c0 ∧ c0.k ≠ .dead)
    (hp : p.nil = false → w.heap.size ≤ p.blk ∨ (∃ (j : Nat) (q : Pl) (c : Blk), m[j]? = some q ∧ h[j]? = some c ∧ c.k ≠ .dead ∧ q.nil = false ∧ q.blk = p.blk ∧ (b.k.wr = true → c.k.wr = true))) :
    Ext m (m ++ [p]) h (h' ++ [b]) w w' := by
  refine ⟨List.prefix_append _ _, ho, ht, hu, hz, hs, fun i q c hq hc hkc hn => ?_, fun i q c hq hc hkd hn => ?_⟩
  · rcases getElem?_push hq with ⟨h1, h2⟩ | ⟨h1, rfl⟩
    · rcases getElem?_push hc with ⟨h3, h4⟩ | ⟨h3, h4⟩
      · obtain ⟨c0, h5, h6⟩ := hk i c h4 hkc
        exact .inl ⟨i, q, c0, h2, h5, h6, hn, rfl⟩
      · rw [hl, ← t.len] at h3; omega
    · rcases getElem?_push hc with ⟨h3, h4⟩ | ⟨h3, rfl⟩
      · rw [hl, ← t.len] at h3; omega
      · rcases hp hn with h | ⟨j, r, d, g1, g2, g0, g3, g4, g5⟩
        · exact .inr h
        · exact .inl ⟨j, r, d, g1, g2, g5 hkc, g3, g4⟩
  · rcases getElem?_push hq with ⟨h1, h2⟩ | ⟨h1, rfl⟩
    · rcases getElem?_push hc with ⟨h3, h4⟩ | ⟨h3, h4⟩
      · obtain ⟨c0, h5, h6⟩ := hlive i c h4 hkd
        exact .inl ⟨i, q, c0, h2, h5, h6, hn, rfl⟩
      · rw [hl, ← t.len] at h3; omega
    · rcases hp hn with h | ⟨j, r, d, g1, g2, g0, g3, g4, g5⟩
      · exact .inr h
      · exact .inl ⟨j, r, d, g1, g2, g0, g3, g4⟩

/-- The block's cells turn. -/
theorem Ext.upd {m : List Pl} {h : List Blk} {w w' : World} {id : Nat} {p : Pl} {b : Blk} {c' : Cs} (hp : m[id]? = some p) (hb : h[id]? = some b) (hk : b.k.wr = true) (hn : p.nil = false)
    (ho : w'.os = w.os) (ht : w'.tape = w.tape) (hu : w'.output = w.output) (hz : w.heap.size ≤ w'.heap.size) (hs : ∀ k, k ≠ p.blk → w'.heap[k]? = w.heap[k]?) : Ext m m h (h.set id ⟨c', b.k⟩) w w' := by
  have hidlt : id < h.length := (List.getElem?_eq_some_iff.1 hb).1
  refine ⟨List.prefix_rfl, ho, ht, hu, hz, fun k _ hno => hs k (Ne.symm (hno id p b hp hb hk hn)), fun i q c hq hc hkc hqn => ?_, fun i q c hq hc hkc hqn => ?_⟩
  all_goals
    rw [List.getElem?_set] at hc
    by_cases hj : id = i
    · subst hj
      rw [hp] at hq; simp only [Option.some.injEq] at hq; subst hq
      exact .inl ⟨id, p, b, hp, hb, by first | exact hk | (intro e; rw [e] at hk; cases hk), hn, rfl⟩
    · rw [if_neg hj] at hc; exact .inl ⟨i, q, c, hq, hc, hkc, hqn, rfl⟩

/-- What is shown of an operation. -/
def OpOk (P : Program) (o : Oper) (a : Act) (w : World) (m : List Pl) (h : List Blk) (r : R) : Prop :=
  ∀ (K : Act → World → Prop) (Q : Exit → Act → World → Prop),
    (∀ (m' : List Pl) (u : Value) (w' : World), Ext m m' h r.h w w' → HTie m' r.h w' → (r.v = .bad ∨ r.v.val m' = some u) → K (a.put o.dst u) w') → o.wp P a w K Q

theorem OpOk.value {P : Program} {o : Oper} {a : Act} {w : World} {m : List Pl} {h : List Blk} {v : SV} {ok : Bool} {u : Value} (H : HTie m h w)
    (hr : (execOp a.eval o).run P w = .ok (.value u) w) (hv : v = .bad ∨ v.val m = some u) : OpOk P o a w m h ⟨ok, v, h⟩ := by
  intro K Q hK
  unfold Oper.wp
  rw [hr, Oper.upon_value]
  exact hK m u w (Ext.refl _ _ _) H hv

theorem OpOk.ofRun {P : Program} {o : Oper} {a : Act} {w w' : World} {m m' : List Pl} {h : List Blk} {r : R} {u : Value}
    (hr : (execOp a.eval o).run P w = .ok (.value u) w') (hx : Ext m m' h r.h w w') (hh : HTie m' r.h w') (hv : r.v = .bad ∨ r.v.val m' = some u) : OpOk P o a w m h r := by
  intro K Q hK
  unfold Oper.wp
  rw [hr, Oper.upon_value]
  exact hK m' u w' hx hh hv

theorem OpOk.ofSkip {P : Program} {o : Oper} {a : Act} {w w' : World} {m m' : List Pl} {h : List Blk} {r : R}
    (hr : (execOp a.eval o).run P w = .ok .skip w') (hx : Ext m m' h r.h w w') (hh : HTie m' r.h w') (hv : r.v = .tup []) : OpOk P o a w m h r := by
  intro K Q hK
  unfold Oper.wp
  rw [hr, Oper.upon_skip]
  exact hK m' undef w' hx hh (.inr (by rw [hv]; simp [SV.val, SV.vals, undef]))

/-! ### Operations -/

/-- Two integers. -/
def binI (A : Ar) (op : BinOp) (k k' : IntKind) (x y : Int) (lit : Bool) : Bool × SV :=
  match isShift op with
  | true => match lit with
    | true => (icmp .geq y 0, .num k (iop op k x y))
    | false => (A.icmp .geq y 0, .int k (A.iop op k x y))
  | false => match Nat.beq (kn k) (kn k') with
    | false => (false, .bad)
    | true => match isCmp op, lit with
      | true, true => (true, .bool (icmp op x y))
      | true, false => (true, .bool (A.icmp op x y))
      | false, true => match isDiv op with
        | true => (icmp .neq y 0, .num k (iop op k x y))
        | false => (true, .num k (iop op k x y))
      | false, false => match isDiv op with
        | true => (A.icmp .neq y 0, .int k (A.iop op k x y))
        | false => (true, .int k (A.iop op k x y))

def negIf : BinOp → Bool → Bool
  | .neq, b => !b
  | _, b => b

/-- Two cells' worth: are they the same? -/
def eq1 (A : Ar) : SV → SV → Bool × Bool
  | .num k x, .num k' y => (Nat.beq (kn k) (kn k'), icmp .eql x y)
  | .num k x, .int k' y => (Nat.beq (kn k) (kn k'), A.icmp .eql x y)
  | .int k x, .num k' y => (Nat.beq (kn k) (kn k'), A.icmp .eql x y)
  | .int k x, .int k' y => (Nat.beq (kn k) (kn k'), A.icmp .eql x y)
  | .str x, .str y => (true, A.scmp .eql x y)
  | .bool x, .bool y => (true, x == y)
  | _, _ => (false, false)

def eqs (A : Ar) : List SV → List SV → Bool × Bool
  | [], [] => (true, true)
  | x :: xs, y :: ys => match eq1 A x y, eqs A xs ys with
    | (a, b), (c, d) => (a && c, b && d)
  | _, _ => (false, false)

def isBoolT (τ : Types) (t : TypeId) : Bool := match τ t with
  | some ⟨.bool, _, _, _⟩ => true
  | _ => false

def isPtrT (τ : Types) (t : TypeId) : Bool := match τ t with
  | some ⟨.ptr _, _, _, _⟩ => true
  | _ => false

def isSliceT (τ : Types) (t : TypeId) : Bool := match τ t with
  | some ⟨.slice _, _, _, _⟩ => true
  | _ => false

def CK.ok (A : Ar) : CK → SV → Bool
  | .int k, .num k' _ => Nat.beq (kn k) (kn k')
  | .int k, .int k' _ => Nat.beq (kn k) (kn k')
  | .bool, .bool _ => true
  | .str, .str s => A.nle (A.size s) maxLen
  | _, _ => false

def kindsOk (A : Ar) : List CK → List SV → Bool
  | [], [] => true
  | k :: ks, v :: vs => k.ok A v && kindsOk A ks vs
  | _, _ => false

def sameLen (A : Ar) (l : List SV) : Option (List CK) → Bool
  | some ks => kindsOk A ks l
  | none => false

def binA (A : Ar) (τ : Types) (ε : TypeId → Option (List CK)) (op : BinOp) (t : TypeId) (x y : SV) : Bool × SV :=
  match x, y with
  | .num k a, .num k' b => binI A op k k' a b true
  | .num k a, .int k' b => binI A op k k' a b false
  | .int k a, .num k' b => binI A op k k' a b false
  | .int k a, .int k' b => binI A op k k' a b false
  | .str a, .str b => match op with
    | .add => (A.fits a b, .str (A.cat a b))
    | _ => (isCmp op, .bool (A.scmp op a b))
  | .bool a, .bool b => (isEq op && isBoolT τ t, .bool (negIf op (a == b)))
  | .agg xs, .agg ys => match eqs A xs ys with
    | (ok, b) => (ok && (isEq op && (sameLen A xs (ε t) && sameLen A ys (ε t))), .bool (negIf op b))
  | .ptr _ _, .nilp => (isEq op && isPtrT τ t, .bool (negIf op false))
  | .nilp, .nilp => (isEq op && isPtrT τ t, .bool (negIf op true))
  | .nils, .nils => (isEq op && isSliceT τ t, .bool (negIf op true))
  | .slice _ _ _ _, .nils => (isEq op && isSliceT τ t, .bool (negIf op false))
  | .elt _ _ _ _, .nilp => (isEq op && isPtrT τ t, .bool (negIf op false))
  | _, _ => (false, .bad)

def unA (A : Ar) (op : UnOp) (x : SV) : Bool × SV :=
  match op, x with
  | .neg, .num k n => (true, .num k (iop .sub k 0 n))
  | .neg, .int k n => (true, .int k (A.iop .sub k 0 n))
  | .xor, .num k n => (true, .num k (iop .xor k (if k.signed then -1 else k.max) n))
  | .xor, .int k n => (true, .int k (A.iop .xor k (if k.signed then -1 else k.max) n))
  | .not, .bool b => (true, .bool (!b))
  | _, _ => (false, .bad)

def pickA (c a b : SV) : Bool × SV :=
  match c with
  | .bool true => (true, a)
  | .bool false => (true, b)
  | _ => (false, .bad)

def dtTy (τ : Types) (t : TypeId) : TI := (τ t).getD ⟨.other, 0, 0, .bad⟩

def ptrOf : SV → Option (Nat × Pos)
  | .ptr id off => some (id, .at_ off)
  | .elt id j sz off => some (id, .el j sz off)
  | _ => none

def loadO (A : Ar) (τ : Types) (t : TypeId) (x : SV) (h : List Blk) : R :=
  match τ t, ptrOf x with
  | some i, some (id, p) => match i.d.isAgg with
    | true => match (blkAt h id).c.rds A p i.size with
      | (ok, l) => ⟨(blkAt h id).live && ok, .agg l, h⟩
    | false => match (blkAt h id).c.rd A p with
      | (ok, v) => ⟨(blkAt h id).live && ok, v, h⟩
  | _, _ => .fail

def storeO (A : Ar) (τ : Types) (t : TypeId) (x y : SV) (h : List Blk) : R :=
  match τ t, ptrOf x with
  | some i, some (id, p) => match (blkAt h id).c.st A p y.cells with
    | (ok, c') => ⟨(blkAt h id).may && (y.cells.all SV.one && (Nat.beq y.cells.length i.size && ok)), .tup [], h.set id ⟨c', (blkAt h id).k⟩⟩
  | _, _ => .fail

def newO (l : List SV) (h : List Blk) : R :=
  ⟨l.all SV.one, .ptr h.length 0, h ++ [⟨.lit l, .var⟩]⟩

abbrev VR := Bool × SV
def failV : VR := (false, .bad)
@[simp] theorem failV_ok : failV.1 = false := rfl
@[simp] theorem R.fail_ok : R.fail.ok = false := rfl

def plusO (x : SV) (n : Nat) : SV := match x with
  | .ptr id off => .ptr id (off + n)
  | .elt id j sz off => .elt id j sz (off + n)
  | _ => .bad

def fieldAddrO (τ : Types) (s : TypeId) (x : SV) (f : Nat) : VR :=
  match τ s, ptrOf x with
  | some ⟨.strct fs, _, _, _⟩, some _ => match fs[f]? with
    | some (o, t) => match τ t with
      | some i => (!(Nat.beq i.size 0), plusO x o)
      | none => failV
    | none => failV
  | _, _ => failV

def partO (τ : Types) (t : TypeId) (l : List SV) (off : Nat) : VR :=
  match τ t with
  | some i => match i.d.isAgg with
    | true => (Nat.ble (off + i.size) l.length, .agg ((l.drop off).take i.size))
    | false => (Nat.ble (off + 1) l.length, l.getD off .bad)
  | none => failV

def fieldO (τ : Types) (s : TypeId) (x : SV) (f : Nat) : VR :=
  match τ s, x with
  | some ⟨.strct fs, _, _, _⟩, .agg l => match fs[f]? with
    | some (o, t) => partO τ t l o
    | none => failV
  | _, _ => failV

/-- A whole number as one that is not below 0. -/
def numO (A : Ar) : SV → Option (Bool × Nm)
  | .num _ n => some (icmp .leq 0 n, ⟨true, n.toNat⟩)
  | .int _ n => some (A.icmp .leq 0 n, ⟨false, A.nat n⟩)
  | _ => none

/-- An index within its bounds. -/
def ixO (A : Ar) (ix : SV) (n : Nat) : Option (Bool × Nm) :=
  match ix with
  | .num _ i => some (icmp .leq 0 i && A.nle (i.toNat + 1) n, ⟨true, i.toNat⟩)
  | .int _ i => some (A.inb i n, ⟨false, A.nat i⟩)
  | _ => none

/-- The same, the bound written out. -/
def ixL (A : Ar) (ix : SV) (n : Nat) : Option (Bool × Nm) :=
  match ix with
  | .num _ i => some (icmp .leq 0 i && Nat.ble (i.toNat + 1) n, ⟨true, i.toNat⟩)
  | .int _ i => some (A.inb i n, ⟨false, A.nat i⟩)
  | _ => none

/-- The address of an element. -/
def eltO (id off : Nat) (j : Nm) (sz : Nat) : SV := match j.lit with
  | true => .ptr id (off + j.n * sz)
  | false => .elt id j.n sz off

def indexAddrO (A : Ar) (τ : Types) (t : TypeId) (x ix : SV) : VR :=
  match τ t with
  | some ⟨.arr n e, _, _, _⟩ => match τ e, ixL A ix n with
    | some i, some (ok, j) => match x with
      | .ptr id off => (ok, eltO id off j i.size)
      | .elt id j' sz off => (ok && j.lit, .elt id j' sz (off + j.n * i.size))
      | _ => failV
    | _, _ => failV
  | some ⟨.slice e, _, _, _⟩ => match τ e with
    | some i => match x with
      | .slice id off len _ => match ixO A ix len with
        | some (ok, j) => (ok, eltO id off j i.size)
        | none => failV
      | .row id len => match ixO A ix len with
        | some (ok, j) => (ok, eltO id 0 j i.size)
        | none => failV
      | _ => failV
    | none => failV
  | _ => failV

/-- An element of a value: by a number that is not written out, of whole numbers alone. -/
def pickL (A : Ar) (l : List SV) (j : Nat) : VR := match kindOfL l with
  | some k => match asInts k l with
    | some xs => (A.nle (A.nadd j 1) xs.length, .int k (A.iget xs j))
    | none => failV
  | none => failV

def indexO (A : Ar) (τ : Types) (t : TypeId) (x ix : SV) : VR :=
  match τ t with
  | some ⟨.arr n e, _, _, _⟩ => match x, τ e, ixL A ix n with
    | .agg l, some i, some (ok, j) => match j.lit with
      | true => match partO τ e l (j.n * i.size) with
        | (ok', v) => (ok && ok', v)
      | false => match i.d.isAgg with
        | true => failV
        | false => match pickL A l j.n with
          | (ok', v) => (ok && (Nat.beq i.size 1 && ok'), v)
    | _, _, _ => failV
  | some ⟨.str, _, _, _⟩ => match x with
    | .str s => match ixO A ix (A.size s) with
      | some (ok, j) => (ok, .int .u8 (A.byte s j.n))
      | none => failV
    | _ => failV
  | _ => failV

def extractO (x : SV) (i : Nat) : VR :=
  match x with
  | .tup l => (Nat.ble (i + 1) l.length, l.getD i .bad)
  | _ => failV

def nilCheckO (x : SV) : VR :=
  match x with
  | .ptr id off => (true, .ptr id off)
  | .elt id j sz off => (true, .elt id j sz off)
  | .fn f cs => (true, .fn f cs)
  | _ => failV

def Rof (p : VR) (h : List Blk) : R := ⟨p.1, p.2, h⟩

/-- A slice's block, its first cell, how many elements it has. -/
def sliceOf : SV → Option (Nat × Nat × Nm)
  | .slice id off len _ => some (id, off, ⟨true, len⟩)
  | .row id len => some (id, 0, ⟨false, len⟩)
  | _ => none

/-- Not written any more. -/
def Blk.frz (b : Blk) : Blk := match b.k with
  | .var => ⟨b.c, .ro⟩
  | .row _ => ⟨b.c, .ro⟩
  | _ => b

/-- How many elements: of cells that are written out, written out. -/
def Cs.nm (c : Cs) (n : Nm) : Nm := match c with
  | .lit _ => ⟨true, n.n⟩
  | _ => n

def byteT (τ : Types) (e : TypeId) : Bool := match τ e with
  | some ⟨.int .u8, s, _, _⟩ => Nat.beq s 1
  | _ => false

def strO (A : Ar) : Bool × Cs → Option (Bool × ByteArray)
  | (ok, .ints k l) => some (ok && Nat.beq (kn k) (kn .u8), A.mkb l)
  | (ok, .lit l) => match asInts .u8 l with
    | some xs => some (ok, A.mkb xs)
    | none => none
  | _ => none

def convO (A : Ar) (τ : Types) (src dst : TypeId) (x : SV) (h : List Blk) : R :=
  match τ src, τ dst with
  | some _, some ⟨.int k, _, _, _⟩ => match x with
    | .num _ n => ⟨true, .num k (k.wrap n), h⟩
    | .int _ n => ⟨true, .int k (A.wrap k n), h⟩
    | _ => .fail
  | some ⟨.str, _, _, _⟩, some ⟨.str, _, _, _⟩ => match x with
    | .str s => ⟨true, .str s, h⟩
    | _ => .fail
  | some ⟨.str, _, _, _⟩, some ⟨.slice e, _, _, _⟩ => match x with
    | .str s => ⟨byteT τ e, .row h.length (A.size s), h ++ [⟨.ints .u8 (A.byts s), .row 1⟩]⟩
    | _ => .fail
  | some ⟨.slice e, _, _, _⟩, some ⟨.str, _, _, _⟩ => match x with
    | .nils => ⟨byteT τ e, .str ByteArray.empty, h⟩
    | _ => match sliceOf x with
      | none => .fail
      | some (id, off, len) => match strO A ((blkAt h id).c.sub A off 1 ⟨true, 0⟩ ((blkAt h id).c.nm len)) with
        | some (ok, s) => ⟨byteT τ e && (ok && (blkAt h id).live), .str s, h⟩
        | none => .fail
  | _, _ => .fail

/-- build: fill the zero cells. -/
def fillO (place : Nat → Option (Nat × Nat)) (cells : List SV) : List (Nat × SV) → Bool × List SV
  | [] => (true, cells)
  | (i, v) :: rest => match place i with
    | none => (false, cells)
    | some (off, size) =>
      let l := v.cells
      match fillO place (cells.take off ++ l ++ cells.drop (off + l.length)) rest with
      | (ok, out) => (Nat.beq l.length size && (Nat.ble (off + l.length) cells.length && ok), out)

def fplace (τ : Types) (fs : List (Nat × TypeId)) (j : Nat) : Option (Nat × Nat) :=
  match fs[j]? with
  | some p => match τ p.2 with
    | some i => some (p.1, i.size)
    | none => none
  | none => none

def buildO (τ : Types) (t : TypeId) (ps : List (Nat × SV)) : VR :=
  match τ t with
  | some ⟨.arr _ e, _, _, z⟩ => match τ e with
    | some i => match fillO (fun j => some (j * i.size, i.size)) z.cells ps with
      | (ok, l) => (ok, .agg l)
    | none => failV
  | some ⟨.strct fs, _, _, z⟩ =>
    match fillO (fplace τ fs) z.cells ps with
    | (ok, l) => (ok && fs.all (fun f => (τ f.2).isSome), .agg l)
  | _ => failV

def repL (l : List SV) : Nat → List SV
  | 0 => []
  | n + 1 => l ++ repL l n

def elemT (τ : Types) (t : TypeId) : Option TI := match τ t with
  | some ⟨.slice e, _, _, _⟩ => τ e
  | _ => none

def buildSliceO (τ : Types) (t : TypeId) (len : Nat) (ps : List (Nat × SV)) (h : List Blk) : R :=
  match elemT τ t with
  | some i => match fillO (fun j => some (j * i.size, i.size)) (repL i.zero.cells len) ps with
    | (ok, l) => ⟨ok && (Nat.ble (len * i.size) 16777216 && l.all SV.one), .slice h.length 0 len len, h ++ [⟨.lit l, .var⟩]⟩
  | none => .fail

def scZ : List SV → Option (List CK × List Sc)
  | [] => some ([], [])
  | v :: r => match scZ r with
    | none => none
    | some (ks, xs) => match v with
      | .num k n => some (.int k :: ks, .int k n :: xs)
      | .bool b => some (.bool :: ks, .bool b :: xs)
      | .str s => some (.str :: ks, .str s :: xs)
      | _ => none

/-- So many elements of a kind's zero, the number not written out. -/
def zerosO (A : Ar) (n : Nat) (l : List SV) : Option Cs := match l with
  | [.num k x] => some (.ints k (A.irep n x))
  | _ => match scZ l with
    | some (ks, xs) => some (.recs ks (A.rrep n xs))
    | none => none

def makeSliceO (A : Ar) (τ : Types) (t : TypeId) (x y : SV) (h : List Blk) : R :=
  match elemT τ t with
  | some i => match x, y with
    | .num _ n, .num _ c => ⟨icmp .leq 0 n && (icmp .leq n c && (icmp .leq (i.bytes * c) 281474976710656 && icmp .leq c 1000000)), .slice h.length 0 n.toNat c.toNat, h ++ [⟨.lit (repL i.zero.cells c.toNat), .var⟩]⟩
    | .num _ n, .int _ c => ⟨icmp .leq 0 n && (A.icmp .leq n c && A.icmp .leq c (281474976710656 / (i.bytes + 1))), .row h.length n.toNat, h ++ [⟨.lit (repL i.zero.cells n.toNat), .row i.size⟩]⟩
    | .int _ n, .int _ c => match zerosO A (A.nat n) i.zero.cells with
      | some c' => ⟨A.icmp .leq 0 n && (A.icmp .leq n c && A.icmp .leq c (281474976710656 / (i.bytes + 1))), .row h.length (A.nat n), h ++ [⟨c', .row i.size⟩]⟩
      | none => .fail
    | _, _ => .fail
  | none => .fail

/-- Bounds, as far as they are told. -/
def bnd (A : Ar) (S : Operand → SV) : Option Operand → Option (Option (Bool × Nm))
  | none => some none
  | some x => match numO A (S x) with
    | some p => some (some p)
    | none => none

def zeroNm : Option (Bool × Nm) → Bool
  | none => true
  | some (ok, ⟨true, n⟩) => ok && Nat.beq n 0
  | _ => false

def litNm : Option (Bool × Nm) → Nat → Option (Bool × Nat)
  | none, n => some (true, n)
  | some (ok, ⟨true, n⟩), _ => some (ok, n)
  | _, _ => none

def okNm : Option (Bool × Nm) → Bool
  | none => true
  | some (ok, _) => ok
def valNm : Option (Bool × Nm) → Nm → Nm
  | none, n => n
  | some (_, n), _ => n

def difNm (A : Ar) (u l : Nm) : Nm := match l.lit && u.lit with
  | true => ⟨true, u.n - l.n⟩
  | false => ⟨false, A.nsub u.n l.n⟩

/-- A piece of a slice, read alone from now on. -/
def pieceO (A : Ar) (id off es : Nat) (len : Nm) (lo hi : Option (Bool × Nm)) (h : List Blk) : R :=
  match (blkAt h id).c.sub A off es (valNm lo ⟨true, 0⟩) (difNm A (valNm hi ((blkAt h id).c.nm len)) (valNm lo ⟨true, 0⟩)) with
  | (ok, c) => ⟨(blkAt h id).live && (okNm lo && (okNm hi && (A.nle (valNm lo ⟨true, 0⟩).n (valNm hi len).n && (A.nle (valNm hi len).n len.n && ok)))),
      .row h.length (difNm A (valNm hi ((blkAt h id).c.nm len)) (valNm lo ⟨true, 0⟩)).n, h.set id (blkAt h id).frz ++ [⟨c, .ro⟩]⟩

def offO (off l u m es : Nat) (o : Bool) (id : Nat) : VR := (o && (Nat.ble l u && Nat.ble u m), .slice id (off + (match Nat.beq m l with | true => 0 | false => l * es)) (u - l) (m - l))

def sliceO1 (A : Ar) (τ : Types) (t : TypeId) (x : SV) (lo hi mx : Option (Bool × Nm)) (h : List Blk) : R :=
  match τ t with
  | some ⟨.str, _, _, _⟩ => match x, mx with
    | .str s, none => ⟨okNm lo && (okNm hi && (A.nle (valNm lo ⟨true, 0⟩).n (valNm hi ⟨false, A.size s⟩).n && A.nle (valNm hi ⟨false, A.size s⟩).n (A.size s))), .str (A.ext s (valNm lo ⟨true, 0⟩).n (valNm hi ⟨false, A.size s⟩).n), h⟩
    | _, _ => .fail
  | some ⟨.arr n e, _, _, _⟩ => match x, τ e, litNm lo 0, litNm hi n, litNm mx n with
    | .ptr id off, some i, some (o1, l), some (o2, u), some (o3, m) => Rof (offO off l u m i.size (o1 && (o2 && (o3 && Nat.ble m n))) id) h
    | _, _, _, _, _ => .fail
  | some ⟨.slice e, _, _, _⟩ => match τ e with
    | none => .fail
    | some i => match x with
      | .nils => ⟨zeroNm lo && (zeroNm hi && zeroNm mx), .nils, h⟩
      | .slice id off len cap => match litNm lo 0, litNm hi len, litNm mx cap with
        | some (o1, l), some (o2, u), some (o3, m) => Rof (offO off l u m i.size (o1 && (o2 && (o3 && Nat.ble m cap))) id) h
        | _, _, _ => match mx with
          | none => pieceO A id off i.size ⟨true, len⟩ lo hi h
          | some _ => .fail
      | .row id len => match mx with
        | none => match zeroNm lo with
          | true => ⟨okNm hi && A.nle (valNm hi ⟨false, len⟩).n len, .row id (valNm hi ⟨false, len⟩).n, h⟩
          | false => pieceO A id 0 i.size ⟨false, len⟩ lo hi h
        | some (o3, m) => match zeroNm lo, hi with
          | true, some (o2, u) => match (blkAt h id).c.sub A 0 i.size ⟨true, 0⟩ ((blkAt h id).c.nm u) with
            | (ok, c) => ⟨(blkAt h id).live && (o2 && (o3 && (A.neq u.n m.n && (A.nle u.n len && ok)))), .row h.length u.n, h.set id (blkAt h id).frz ++ [⟨c, .full i.size⟩]⟩
          | _, _ => .fail
      | _ => .fail
  | _ => .fail

def sliceO (A : Ar) (τ : Types) (t : TypeId) (x : SV) (lo hi mx : Option (Option (Bool × Nm))) (h : List Blk) : R :=
  match lo, hi, mx with
  | some lo, some hi, some mx => match hi, mx with
    | none, some _ => .fail
    | _, _ => sliceO1 A τ t x lo hi mx h
  | _, _, _ => .fail

/-- What is appended, or copied: its cells, of es cells an element, how many elements. -/
def srcO (A : Ar) (es : Nat) (x : SV) (h : List Blk) : Option (Bool × Cs × Nm) :=
  match x with
  | .str s => some (Nat.beq es 1, .ints .u8 (A.byts s), ⟨false, A.size s⟩)
  | .nils => some (true, .lit [], ⟨true, 0⟩)
  | _ => match sliceOf x with
    | none => none
    | some (id, off, len) => match (blkAt h id).c.sub A off es ⟨true, 0⟩ ((blkAt h id).c.nm len) with
      | (ok, c) => some (ok && (blkAt h id).live, c, (blkAt h id).c.nm len)

/-- How many elements there are of so many cells. -/
def Cs.cnt (A : Ar) (es : Nat) : Cs → Option Nm
  | .lit l => match es with
    | 0 => none
    | e + 1 => match Nat.beq (l.length / (e + 1) * (e + 1)) l.length with
      | true => some ⟨true, l.length / (e + 1)⟩
      | false => none
  | .ints _ l => match Nat.beq es 1 with
    | true => some ⟨false, A.ilen l⟩
    | false => none
  | .recs ks l => match Nat.beq es ks.length with
    | true => some ⟨false, A.rlen l⟩
    | false => none
  | .cat _ _ _ => none

def sumNm (A : Ar) (a b : Nm) : Nm := match a.lit && b.lit with
  | true => ⟨true, a.n + b.n⟩
  | false => ⟨false, A.nadd a.n b.n⟩

/-- So many elements are not too many. -/
def roomO (A : Ar) (i : TI) (n : Nm) : Bool := match n.lit with
  | true => Nat.ble (n.n * i.bytes) 140737488355328
  | false => A.nle (A.nmul n.n i.bytes) 140737488355328

/-- The new row, and its length. -/
def grown (A : Ar) (i : TI) (ok : Bool) (len : Nm) (c : Cs) (n : Nm) (d : Cs) (h : List Blk) (k : BK) : R :=
  match c.app A d with
  | none => .fail
  | some e => ⟨ok && (roomO A i (sumNm A len n) && (Nat.ble 1 i.bytes && Nat.ble 1 i.size)), .row h.length (sumNm A len n).n, h ++ [⟨e, k⟩]⟩

def srcT (τ : Types) (t : TypeId) (x : SV) : Bool := match τ t with
  | some ⟨.str, _, _, _⟩ => match x with
    | .str _ => true
    | _ => false
  | some ⟨.slice _, _, _, _⟩ => match x with
    | .nils => true
    | .slice _ _ _ _ => true
    | .row _ _ => true
    | _ => false
  | _ => false

def appendO (A : Ar) (τ : Types) (t tx : TypeId) (s x : SV) (h : List Blk) : R :=
  match elemT τ t with
  | none => .fail
  | some i => match srcO A i.size x h with
    | none => .fail
    | some (ok0, d, n) => match s with
      | .nils => grown A i (srcT τ tx x && ok0) ⟨true, 0⟩ (.lit []) n d h (.row i.size)
      | .row id len => match (blkAt h id).c.cnt A i.size with
        | none => .fail
        | some q => match (blkAt h id).k with
          | .row es => grown A i (srcT τ tx x && (ok0 && (A.neq q.n len && Nat.beq es i.size))) ⟨q.lit, len⟩ (blkAt h id).c n d (h.set id ⟨(blkAt h id).c, .dead⟩) (.row i.size)
          | .full es => grown A i (srcT τ tx x && (ok0 && (A.neq q.n len && Nat.beq es i.size))) ⟨q.lit, len⟩ (blkAt h id).c n d h .ro
          | _ => .fail
      | .slice id off len cap => match n.lit && Nat.ble (len + n.n) cap with
        | true => match d with
          | .lit l => match (blkAt h id).c.st A (.at_ (off + len * i.size)) l with
            | (ok, c') => ⟨srcT τ tx x && (ok0 && (ok && ((blkAt h id).may && (l.all SV.one && Nat.beq l.length (n.n * i.size))))), .slice id off (len + n.n) cap, h.set id ⟨c', (blkAt h id).k⟩⟩
          | _ => .fail
        | false => match (blkAt h id).c.sub A off i.size ⟨true, 0⟩ ⟨true, len⟩ with
          | (ok, c) => match n.lit with
            | true => grown A i (srcT τ tx x && (ok0 && (ok && (blkAt h id).live))) ⟨true, len⟩ c n d h (.row i.size)
            | false => match Nat.beq len cap with
              | true => grown A i (srcT τ tx x && (ok0 && (ok && (blkAt h id).live))) ⟨true, len⟩ c n d (h.set id (blkAt h id).frz) .ro
              | false => match Nat.beq off 0 with
                | true => grown A i (srcT τ tx x && (ok0 && (ok && (Nat.beq (cap * i.size) (blkAt h id).c.size && (blkAt h id).may)))) ⟨true, len⟩ c n d (h.set id ⟨(blkAt h id).c, .dead⟩) (.row i.size)
                | false => .fail
      | _ => .fail

def mmI (mn : Bool) (x y : Int) : Int := match mn with
  | true => if y < x then y else x
  | false => if y > x then y else x
def mmA (A : Ar) (mn : Bool) (x y : Int) : Int := match mn with
  | true => A.imin x y
  | false => A.imax x y

def mm2 (A : Ar) (mn : Bool) : SV → SV → Option SV
  | .num k x, .num k' y => match Nat.beq (kn k) (kn k') with
    | true => some (.num k (mmI mn x y))
    | false => none
  | .num k x, .int k' y => match Nat.beq (kn k) (kn k') with
    | true => some (.int k (mmA A mn x y))
    | false => none
  | .int k x, .num k' y => match Nat.beq (kn k) (kn k') with
    | true => some (.int k (mmA A mn x y))
    | false => none
  | .int k x, .int k' y => match Nat.beq (kn k) (kn k') with
    | true => some (.int k (mmA A mn x y))
    | false => none
  | _, _ => none

def mmGo (A : Ar) (mn : Bool) : SV → List SV → Option SV
  | v, [] => some v
  | v, u :: r => match mm2 A mn v u with
    | some z => mmGo A mn z r
    | none => none

def minmaxO (A : Ar) (mn : Bool) : List SV → VR
  | [] => failV
  | v :: r => match mmGo A mn v r with
    | some z => (true, z)
    | none => failV

def getInts (A : Ar) (l : List Int) (k : IntKind) : Nat → Nat → List SV
  | 0, _ => []
  | n + 1, j => .int k (A.iget l j) :: getInts A l k n (j + 1)

/-- Cells laid over a piece of so many cells: what comes of it, how many there were. -/
def Cs.lay (A : Ar) : Cs → (off n : Nat) → Cs → Option (Bool × Cs × Nm)
  | .lit l, off, n, d => match d with
    | .lit r => some (Nat.ble (off + n) l.length, .lit (setL l off (r.take n)), ⟨true, min n r.length⟩)
    | .ints k r => match (match Nat.beq off 0 && Nat.beq n l.length with | true => asInts k l | false => none) with
      | some xs => some (true, .ints k (A.iput xs 0 r), ⟨false, A.nmin (A.ilen r) n⟩)
      | none => some (Nat.ble (off + n) l.length && A.nle n (A.ilen r), .lit (setL l off (getInts A r k n 0)), ⟨true, n⟩)
    | _ => none
  | .ints k l, off, n, d => match (match d with | .ints k' r => (match Nat.beq (kn k) (kn k') with | true => some r | false => none) | .lit r => asInts k r | _ => none) with
    | some r => some (A.nle (off + n) (A.ilen l), .ints k (A.iput l off (A.isub r 0 n)), ⟨false, A.nmin (A.ilen r) n⟩)
    | none => none
  | .cat q a b, off, n, d => match Nat.ble (off + n) q with
    | true => match a.lay A off n d with
      | some (ok, a', m) => some (ok, .cat q a' b, m)
      | none => none
    | false => match Nat.ble q off with
      | true => match b.lay A (off - q) n d with
        | some (ok, b', m) => some (ok, .cat q a b', m)
        | none => none
      | false => none
  | .recs _ _, _, _, _ => none

def nmSV (n : Nm) (A : Ar) : SV := match n.lit with
  | true => .num .i64 n.n
  | false => .int .i64 (A.ofNat n.n)

def copyO (A : Ar) (τ : Types) (t tx : TypeId) (s x : SV) (h : List Blk) : R :=
  match elemT τ t with
  | none => .fail
  | some i => match srcO A i.size x h, s with
    | some (ok0, d, n), .slice id off len _ => match (blkAt h id).c.lay A off len d with
      | some (ok, c', m) => ⟨srcT τ tx x && (ok0 && (ok && (Nat.beq i.size 1 && ((blkAt h id).may && A.icmp .leq (A.ofNat n.n) 9223372036854775807)))), nmSV m A, h.set id ⟨c', (blkAt h id).k⟩⟩
      | none => .fail
    | _, _ => .fail

def SV.good : SV → Bool
  | .bad => false
  | _ => true

def lenO (A : Ar) (τ : Types) (t : TypeId) (x : SV) (h : List Blk) : VR :=
  match τ t with
  | some ⟨.str, _, _, _⟩ => match x with
    | .str s => (A.icmp .leq (A.ofNat (A.size s)) 9223372036854775807, .int .i64 (A.ofNat (A.size s)))
    | _ => failV
  | some ⟨.arr n _, _, _, _⟩ => (icmp .leq n 9223372036854775807, .num .i64 n)
  | some ⟨.slice _, _, _, _⟩ => match x with
    | .slice _ _ len _ => (icmp .leq len 9223372036854775807, .num .i64 len)
    | .row id len => match (blkAt h id).c with
      | .lit _ => (icmp .leq len 9223372036854775807, .num .i64 len)
      | _ => (A.icmp .leq (A.ofNat len) 9223372036854775807, .int .i64 (A.ofNat len))
    | .nils => (true, .num .i64 0)
    | _ => failV
  | _ => failV

section
variable {P : Program} {m : List Pl} {S : St} {a : Act} (T : TTie G m S.t a) {x : Operand}
include T
theorem ev_int' {k : IntKind} {n : Int} (h : S.ev G x = .int k n) : k.wrap n = n ∧ a.eval x = .int k n := v_int (St.eval_of T h (by simp))
theorem ev_num' {k : IntKind} {n : Int} (h : S.ev G x = .num k n) : k.wrap n = n ∧ a.eval x = .int k n := v_num (St.eval_of T h (by simp))
theorem ev_int {k : IntKind} {n : Int} (h : S.ev G x = .int k n) : a.eval x = .int k n := (ev_int' T h).2
theorem ev_num {k : IntKind} {n : Int} (h : S.ev G x = .num k n) : a.eval x = .int k n := (ev_num' T h).2
theorem ev_bool {b : Bool} (h : S.ev G x = .bool b) : a.eval x = .bool b := v_bool (St.eval_of T h (by simp))
theorem ev_str {s : ByteArray} (h : S.ev G x = .str s) : a.eval x = .string s := v_str (St.eval_of T h (by simp))
theorem ev_ptr {id off : Nat} (h : S.ev G x = .ptr id off) : ∃ p, m[id]? = some p ∧ p.nil = false ∧ a.eval x = .pointer (some ⟨p.blk, p.off + off, none⟩) := v_ptr (St.eval_of T h (by simp))
theorem ev_elt {id j sz off : Nat} (h : S.ev G x = .elt id j sz off) : ∃ p, m[id]? = some p ∧ p.nil = false ∧ a.eval x = .pointer (some ⟨p.blk, p.off + (j * sz + off), none⟩) := v_elt (St.eval_of T h (by simp))
theorem ev_slice {id off len cap : Nat} (h : S.ev G x = .slice id off len cap) : ∃ p, m[id]? = some p ∧ p.nil = false ∧ len ≤ cap ∧ a.eval x = .slice (some ⟨p.blk, p.off + off, none⟩) len cap := v_slice (St.eval_of T h (by simp))
theorem ev_row {id len : Nat} (h : S.ev G x = .row id len) : ∃ p, m[id]? = some p ∧ ((p.nil = false ∧ len ≤ p.cap ∧ a.eval x = .slice (some ⟨p.blk, p.off, none⟩) len p.cap) ∨ (p.nil = true ∧ len = 0 ∧ a.eval x = .slice none 0 0)) := v_row (St.eval_of T h (by simp))
theorem ev_agg {l : List SV} (h : S.ev G x = .agg l) : ∃ vs, SV.vals m l = some vs ∧ a.eval x = .agg vs.toArray := v_agg (St.eval_of T h (by simp))
theorem ev_tup {l : List SV} (h : S.ev G x = .tup l) : ∃ vs, SV.vals m l = some vs ∧ a.eval x = .tuple vs.toArray := v_tup (St.eval_of T h (by simp))
theorem ev_nilp (h : S.ev G x = .nilp) : a.eval x = .pointer none := v_nilp (St.eval_of T h (by simp))
theorem ev_nils (h : S.ev G x = .nils) : a.eval x = .slice none 0 0 := v_nils (St.eval_of T h (by simp))
/-- An address. -/
theorem ev_at {id : Nat} {p : Pos} (h : ptrOf (S.ev G x) = some (id, p)) : ∃ q, m[id]? = some q ∧ q.nil = false ∧ a.eval x = .pointer (some ⟨q.blk, q.off + p.cell, none⟩) := by
  cases hx : S.ev G x <;> rw [hx] at h <;> simp only [ptrOf, Option.some.injEq, Prod.mk.injEq] at h <;> try (cases h; done)
  · obtain ⟨rfl, rfl⟩ := h; exact ev_ptr T hx
  · obtain ⟨rfl, rfl⟩ := h; exact ev_elt T hx
end

/-! Integers. -/

theorem wrap_eq_iff (k : IntKind) (n : Int) : k.wrap n = n ↔ k.min ≤ n ∧ n ≤ k.max := by
  cases k <;> simp [IntKind.wrap, IntKind.min, IntKind.max, IntKind.bits, IntKind.signed] <;> (try split) <;> omega

theorem wrap_wrap (k : IntKind) (n : Int) : k.wrap (k.wrap n) = k.wrap n := by
  rw [wrap_eq_iff]
  cases k <;> simp [IntKind.wrap, IntKind.min, IntKind.max, IntKind.bits, IntKind.signed] <;> (try split) <;> omega

theorem tmod_in (k : IntKind) (x y : Int) (hx : k.wrap x = x) : k.wrap (x.tmod y) = x.tmod y := by
  rw [wrap_eq_iff] at hx ⊢
  have h1 : (x.tmod y).natAbs ≤ x.natAbs := by
    rw [Int.natAbs_tmod]; exact Nat.mod_le _ _
  have h2 : 0 ≤ x → 0 ≤ x.tmod y := Int.tmod_nonneg y
  have h3 : x ≤ 0 → x.tmod y ≤ 0 := fun h => by
    have := Int.tmod_nonneg (a := -x) y (by omega)
    rw [Int.neg_tmod] at this; omega
  have h4 : k.min ≤ 0 ∧ 0 ≤ k.max := by cases k <;> simp [IntKind.min, IntKind.max, IntKind.bits, IntKind.signed]
  rcases Int.le_total 0 x with h | h
  · have := h2 h; omega
  · have := h3 h; omega

theorem fdiv_in (k : IntKind) (x : Int) (n : Nat) (hx : k.wrap x = x) : k.wrap (x.fdiv (2 ^ n)) = x.fdiv (2 ^ n) := by
  rw [wrap_eq_iff] at hx ⊢
  have hp : (0 : Int) < 2 ^ n := Int.pow_pos (by decide)
  rw [Int.fdiv_eq_ediv_of_nonneg _ (Int.le_of_lt hp)]
  have h4 : k.min ≤ 0 ∧ 0 ≤ k.max := by cases k <;> simp [IntKind.min, IntKind.max, IntKind.bits, IntKind.signed]
  have h5 : x / 2 ^ n * 2 ^ n ≤ x := Int.ediv_mul_le x (by omega)
  rcases Int.le_total 0 x with h | h
  · have h1 : 0 ≤ x / 2 ^ n := Int.ediv_nonneg h (by omega)
    have h2 : x / 2 ^ n ≤ x := Int.ediv_le_self _ h
    omega
  · have h1 : x / 2 ^ n ≤ 0 := by
      have := Int.ediv_le_ediv hp h
      simpa using this
    have h2 : x ≤ x / 2 ^ n := by
      have h6 : x / 1 ≤ x / 2 ^ n ∨ True := .inr trivial
      have h7 : x < (x / 2 ^ n + 1) * 2 ^ n := Int.lt_ediv_add_one_mul_self x hp
      by_cases hc : x ≤ x / 2 ^ n
      · exact hc
      · exfalso
        have h8 : x / 2 ^ n + 1 ≤ x := by omega
        have h9 : x / 2 ^ n + 1 ≤ 0 := by omega
        have h10 : (x / 2 ^ n + 1) * 2 ^ n ≤ (x / 2 ^ n + 1) * 1 := Int.mul_le_mul_of_nonpos_left h9 (by omega)
        omega
    omega

theorem iop_in (op : BinOp) (k : IntKind) (x y : Int) (hx : k.wrap x = x) : k.wrap (iop op k x y) = iop op k x y := by
  cases op <;> simp only [iop] <;> first | exact wrap_wrap _ _ | exact tmod_in _ _ _ hx | exact fdiv_in _ _ _ hx | (cases k <;> rfl)

theorem run_binI (P : Program) (w : World) (op : BinOp) (t : TypeId) (k k' : IntKind) (x y : Int) (lit : Bool) {ok : Bool} {v : SV} (h : binI std op k k' x y lit = (ok, v)) (hok : ok = true) (m : List Pl) (hx : k.wrap x = x) :
    ∃ u, (binOp op t (.int k x) (.int k' y)).run P w = .ok u w ∧ v.val m = some u := by
  subst hok
  have e1 : std.icmp = icmp := rfl
  have e2 : std.iop = iop := rfl
  cases hs : isShift op with
  | true =>
    have hy : 0 ≤ y ∧ v.val m = some (.int k (iop op k x y)) := by
      have hin := iop_in op k x y hx
      cases lit <;> simp [binI, hs, e1, e2, icmp] at h <;> obtain ⟨h1, rfl⟩ := h <;> exact ⟨h1, by simp [SV.val, hin]⟩
    refine ⟨_, ?_, hy.2⟩
    cases op <;> simp [isShift] at hs
    · simp [binOp, Op.shift, iop, show ¬ y < 0 by omega]
    · simp [binOp, Op.shift, iop, show ¬ y < 0 by omega]
  | false =>
    simp only [binI, hs] at h
    cases hk : Nat.beq (kn k) (kn k') with
    | false => simp [hk] at h
    | true =>
      have := kn_eq hk
      subst this
      simp only [hk] at h
      cases hc : isCmp op with
      | true =>
        have hv : v.val m = some (.bool (icmp op x y)) := by
          cases lit <;> simp [hc, e1] at h <;> subst h <;> rfl
        refine ⟨_, ?_, hv⟩
        cases op <;> simp [isCmp] at hc <;> simp [binOp, Op.intCmp, icmp]
      | false =>
        have hv : v.val m = some (.int k (iop op k x y)) ∧ (isDiv op = true → y ≠ 0) := by
          have hin := iop_in op k x y hx
          cases lit <;> cases hd : isDiv op <;> simp [hc, hd, e1, e2, icmp] at h <;> first | (subst h; exact ⟨by simp [SV.val, hin], by simp⟩) | (obtain ⟨h1, rfl⟩ := h; exact ⟨by simp [SV.val, hin], fun _ => h1⟩)
        refine ⟨_, ?_, hv.1⟩
        have hy := hv.2
        cases op <;> simp [isCmp, isShift, isDiv] at hc hs hy <;> simp [binOp, Op.intArith, Op.intBits, Op.intDiv, iop, hy]

theorem run_eqGuard_int (P : Program) (w : World) (op : BinOp) (t : TypeId) (x y : Operand) (k : IntKind) (n : Int) (v : Value) : (eqGuard op t x y (.int k n) v).run P w = .ok () w := by
  rw [eqGuard_at_int]; rfl

section mem
variable {P : Program} {τ : Types} {m : List Pl} {h : List Blk} {w : World}

theorem TFact.run_sizeOf {t : TypeId} {i : TI} (f : TFact P t i) (w : World) : (sizeOf t).run P w = .ok i.size w := by
  obtain ⟨ti, z, hi, hs, _⟩ := f.info
  simp [sizeOf, typeInfo, hi, hs]

theorem TFact.run_bytes {t : TypeId} {i : TI} (f : TFact P t i) : ∃ ti, P.info? t = some ti ∧ ti.size = i.size ∧ ti.bytes = i.bytes := by
  obtain ⟨ti, z, hi, hs, hb, _⟩ := f.info
  exact ⟨ti, hi, hs, hb⟩

theorem TFact.run_isAgg {t : TypeId} {i : TI} (f : TFact P t i) (w : World) : (isAgg t).run P w = .ok i.d.isAgg w := by
  obtain ⟨d, hd, hf⟩ := f.desc
  cases hi : i.d <;> rw [hi] at hf <;> cases d <;> simp [TD.fits] at hf <;> simp [isAgg, run_underlying hd, TD.isAgg]

theorem TFact.run_zero {t : TypeId} {i : TI} (f : TFact P t i) (w : World) : ∃ z, (zeroValue t).run P w = .ok z w ∧ i.zero.val [] = some z := by
  obtain ⟨ti, z, hi, _, _, hz, hv, _⟩ := f.info
  exact ⟨z, by simp [zeroValue, typeInfo, hi, hz], hv⟩

theorem cells_val {m : List Pl} {v : SV} {u : Value} (hv : v.val m = some u) (h1 : v.cells.all SV.one = true) : SV.vals m v.cells = some u.cells.toList := by
  have hone : ∀ (v : SV), v.cells = [v] → v.one = true → v.val m = some u → SV.vals m v.cells = some u.cells.toList := fun v hc h1 hv => by
    rw [hc]
    have : u.cells = #[u] := by
      have := SV.one_spec hv h1
      cases u <;> simp [Value.oneCell'] at this <;> rfl
    rw [this]
    simp [SV.vals, hv]
  cases v with
  | agg l =>
    simp only [SV.val, Option.map_eq_some_iff] at hv
    obtain ⟨vs, h2, rfl⟩ := hv
    simpa [SV.cells, SV.cells1, Value.cells] using h2
  | _ => exact hone _ rfl (by simpa [SV.cells, SV.cells1] using h1) hv

theorem vals_nil_of {v : SV} {u : Value} (hv : v.val [] = some u) (m : List Pl) : v.val m = some u := SV.val_mono (List.nil_prefix) _ hv

end mem

/-- What the program's '==' comes to at a type, for two values of these cells. -/
structure EqF (P : Program) (t : TypeId) (ks : List CK) : Prop where
  run : ∀ (xs ys : List SV) (us vs : List Value) (m : List Pl) (b : Bool) (w : World), kindsOk std ks xs = true → kindsOk std ks ys = true → SV.vals m xs = some us → SV.vals m ys = some vs →
    eqs std xs ys = (true, b) → (Op.equal t (.agg us.toArray) (.agg vs.toArray)).run P w = .ok b w
  guard : P.eqGuardType P.depth t = false

/-- The types of which '==' is known. -/
def EOk (P : Program) (ε : TypeId → Option (List CK)) : Prop := ∀ t n, ε t = some n → EqF P t n

theorem evs {m : List Pl} {S : St} {a : Act} (T : TTie G m S.t a) : ∀ (l : List Operand) , (∀ x ∈ l, S.ev G x ≠ .bad) → SV.vals m (l.map (S.ev G)) = some (l.map a.eval)
  | [], _ => by simp [SV.vals]
  | x :: r, h => by
    have h1 := (St.eval_or T x).resolve_left (h x (by simp))
    have h2 := evs T r (fun y hy => h y (by simp [hy]))
    simp [SV.vals, h1, h2]

section ops
variable {P : Program} {τ : Types} {m : List Pl} {S : St} {a : Act} {w : World}

theorem ok_nilCheck (T : TTie G m S.t a) (H : HTie m S.h w) {o : Oper} {x : Operand} (ho : o.op = .nilCheck x) (hok : (nilCheckO (S.ev G x)).1 = true) : OpOk P o a w m S.h (Rof (nilCheckO (S.ev G x)) S.h) := by
  unfold nilCheckO at hok ⊢
  split at hok
  · rename_i id off hx
    obtain ⟨p, hp, hn, he⟩ := ev_ptr T hx
    have hu := St.eval_of T hx (by simp)
    refine OpOk.value H (u := a.eval x) ?_ (.inr hu)
    simp [execOp, ho, he]
  · rename_i id j sz off hx
    obtain ⟨p, hp, hn, he⟩ := ev_elt T hx
    have hu := St.eval_of T hx (by simp)
    refine OpOk.value H (u := a.eval x) ?_ (.inr hu)
    simp [execOp, ho, he]
  · rename_i f cs hx
    have hu := St.eval_of T hx (by simp)
    obtain ⟨vs, hvs, he⟩ := v_fn hu
    refine OpOk.value H (u := a.eval x) ?_ (.inr hu)
    simp [execOp, ho, he]
  · simp at hok

theorem ok_extract (T : TTie G m S.t a) (H : HTie m S.h w) {o : Oper} {x : Operand} {i : Nat} (ho : o.op = .extract x i) (hok : (extractO (S.ev G x) i).1 = true) :
    OpOk P o a w m S.h (Rof (extractO (S.ev G x) i) S.h) := by
  unfold extractO at hok ⊢
  split at hok
  · rename_i l hx
    obtain ⟨vs, hvs, he⟩ := ev_tup T hx
    have hi : i < l.length := Nat.lt_of_succ_le (by simpa using hok)
    obtain ⟨u, hu, hv⟩ := vals_get hvs (List.getElem?_eq_getElem hi)
    refine OpOk.value H (u := u) ?_ (.inr (by simpa [List.getD_eq_getElem?_getD, List.getElem?_eq_getElem hi] using hv))
    simp [execOp, ho, he, Instr.extract, hu]
  · simp at hok

theorem run_part (hτ : TOk P τ) {t : TypeId} {l : List SV} {vs : List Value} (hv : SV.vals m l = some vs) {off : Nat} (hok : (partO τ t l off).1 = true) (w : World) :
    ∃ u, (part t vs.toArray off).run P w = .ok u w ∧ (partO τ t l off).2.val m = some u := by
  unfold partO at hok ⊢
  split at hok
  · rename_i i hi
    have f := hτ t i hi
    have hlen := vals_length hv
    split at hok
    · rename_i hg
      have hok : off + i.size ≤ l.length := by simpa using hok
      refine ⟨.agg (vs.toArray.extract off (off + i.size)), ?_, ?_⟩
      · simp [part, f.run_isAgg, hg, f.run_sizeOf]
      · simp only [SV.val, Option.map_eq_some_iff]
        refine ⟨(vs.drop off).take i.size, ?_, ?_⟩
        · refine vals_of_get (by simp [hlen]) (fun j v u h1 h2 => ?_)
          rw [List.getElem?_take] at h1 h2
          split at h1
          · rename_i hj
            rw [if_pos hj] at h2
            rw [List.getElem?_drop] at h1 h2
            obtain ⟨u', hu', hv'⟩ := vals_get hv h1
            rw [h2] at hu'
            cases hu'; exact hv'
          · cases h1
        · congr 1
          apply Array.ext'
          simp [List.take_drop]
    · rename_i hg
      have hok : off < l.length := Nat.lt_of_succ_le (by simpa using hok)
      obtain ⟨u, hu, hv'⟩ := vals_get hv (List.getElem?_eq_getElem hok)
      refine ⟨u, ?_, by simpa [List.getD_eq_getElem?_getD, List.getElem?_eq_getElem hok] using hv'⟩
      simp [part, f.run_isAgg, hg, hu]
  · simp at hok

theorem ok_field (hτ : TOk P τ) (T : TTie G m S.t a) (H : HTie m S.h w) {o : Oper} {s : TypeId} {x : Operand} {f : Nat} (ho : o.op = .field s x f)
    (hok : (fieldO τ s (S.ev G x) f).1 = true) : OpOk P o a w m S.h (Rof (fieldO τ s (S.ev G x) f) S.h) := by
  unfold fieldO at hok ⊢
  split at hok
  · rename_i fs _ _ _ l hi hx
    obtain ⟨vs, hvs, he⟩ := ev_agg T hx
    split at hok
    · rename_i o' ft hf
      obtain ⟨d, hd, hfit⟩ := (hτ s _ hi).desc
      cases d <;> simp [TD.fits] at hfit
      rename_i fields
      subst hfit
      simp at hf
      obtain ⟨fl, hfl, e1, e2⟩ := hf
      subst e1; subst e2
      obtain ⟨u, hu, hv⟩ := run_part hτ hvs hok w
      refine OpOk.value H (u := u) ?_ (.inr hv)
      simp [execOp, ho, Instr.field, run_underlying hd, hfl, asAgg, he, hu]
    · simp at hok
  · simp at hok

theorem ok_pick (T : TTie G m S.t a) (H : HTie m S.h w) {o : Oper} {c x y : Operand} (ho : o.op = .pick c x y)
    (hok : (Rof (pickA (S.ev G c) (S.ev G x) (S.ev G y)) S.h).ok = true) : OpOk P o a w m S.h (Rof (pickA (S.ev G c) (S.ev G x) (S.ev G y)) S.h) := by
  simp only [Rof] at hok ⊢
  unfold pickA at hok ⊢
  split at hok
  · rename_i hc
    exact OpOk.value H (u := a.eval x) (by simp [execOp, ho, ev_bool T hc, asBool]) (St.eval_or T x)
  · rename_i hc
    exact OpOk.value H (u := a.eval y) (by simp [execOp, ho, ev_bool T hc, asBool]) (St.eval_or T y)
  · simp at hok

theorem ok_move (T : TTie G m S.t a) (H : HTie m S.h w) {o : Oper} {x : Operand} (ho : o.op = .move x ∨ o.op = .assign x) : OpOk P o a w m S.h ⟨true, S.ev G x, S.h⟩ :=
  OpOk.value H (u := a.eval x) (by rcases ho with ho | ho <;> simp [execOp, ho]) (St.eval_or T x)

theorem ok_un (T : TTie G m S.t a) (H : HTie m S.h w) {o : Oper} {op : UnOp} {t : TypeId} {x : Operand} (ho : o.op = .unOp op t x)
    (hok : (Rof (unA std op (S.ev G x)) S.h).ok = true) : OpOk P o a w m S.h (Rof (unA std op (S.ev G x)) S.h) := by
  simp only [Rof] at hok ⊢
  unfold unA at hok ⊢
  split at hok
  · rename_i k n hx
    exact OpOk.value H (u := .int k (iop .sub k 0 n)) (by simp [execOp, ho, Op.unary, Op.intArith, ev_num T hx, iop]) (.inr (val_num_of (wrap_wrap _ _)))
  · rename_i k n hx
    exact OpOk.value H (u := .int k (iop .sub k 0 n)) (by simp [execOp, ho, Op.unary, Op.intArith, ev_int T hx, iop]) (.inr (val_int_of (wrap_wrap _ _)))
  · rename_i k n hx
    exact OpOk.value H (u := .int k (iop .xor k (if k.signed then -1 else k.max) n)) (by simp [execOp, ho, Op.unary, Op.intBits, ev_num T hx, iop]) (.inr (val_num_of (wrap_wrap _ _)))
  · rename_i k n hx
    exact OpOk.value H (u := .int k (iop .xor k (if k.signed then -1 else k.max) n)) (by simp [execOp, ho, Op.unary, Op.intBits, ev_int T hx, iop]) (.inr (val_int_of (wrap_wrap _ _)))
  · rename_i b hx
    exact OpOk.value H (u := .bool (!b)) (by simp [execOp, ho, Op.unary, ev_bool T hx]) (.inr rfl)
  · simp at hok

theorem plus_val {m : List Pl} {v : SV} {id : Nat} {p : Pos} (h : ptrOf v = some (id, p)) {q : Pl} (hq : m[id]? = some q) (hn : q.nil = false) (n : Nat) :
    (plusO v n).val m = some (.pointer (some ⟨q.blk, q.off + p.cell + n, none⟩)) := by
  cases v <;> simp only [ptrOf, Option.some.injEq, Prod.mk.injEq] at h <;> try (cases h; done)
  · obtain ⟨rfl, rfl⟩ := h; simp [plusO, SV.val, hq, Pl.ptr, hn, Pos.cell, Nat.add_assoc]
  · obtain ⟨rfl, rfl⟩ := h; simp [plusO, SV.val, hq, Pl.ptr, hn, Pos.cell, Nat.add_assoc]

theorem elt_val {m : List Pl} {id off : Nat} {q : Pl} (hq : m[id]? = some q) (hn : q.nil = false) (j : Nm) (sz : Nat) :
    (eltO id off j sz).val m = some (.pointer (some ⟨q.blk, q.off + off + j.n * sz, none⟩)) := by
  unfold eltO
  split
  · simp [SV.val, hq, Pl.ptr, hn, Nat.add_assoc]
  · simp [SV.val, hq, Pl.ptr, hn, Nat.add_assoc, Nat.add_comm off]

theorem ok_fieldAddr (hτ : TOk P τ) (T : TTie G m S.t a) (H : HTie m S.h w) {o : Oper} {s : TypeId} {x : Operand} {f : Nat} (ho : o.op = .fieldAddr s x f)
    (hok : (fieldAddrO τ s (S.ev G x) f).1 = true) : OpOk P o a w m S.h (Rof (fieldAddrO τ s (S.ev G x) f) S.h) := by
  unfold fieldAddrO at hok ⊢
  split at hok
  · rename_i fs _ _ _ id hi hx
    obtain ⟨d, hd, hfit⟩ := (hτ s _ hi).desc
    cases d <;> simp [TD.fits] at hfit
    rename_i fs'
    split at hok
    · rename_i o' t hf
      split at hok
      · rename_i i ht
        obtain ⟨id, p⟩ := id
        obtain ⟨q, hp, hn, he⟩ := ev_at T hx
        have hf' : ∃ g, fs'[f]? = some g ∧ g.offset = o' ∧ g.type = t := by
          rw [hfit] at hf
          simp only [List.getElem?_map, Option.map_eq_some_iff, Prod.mk.injEq] at hf
          obtain ⟨g, h1, h2, h3⟩ := hf
          exact ⟨g, by rw [Array.getElem?_toList] at h1; exact h1, h2, h3⟩
        obtain ⟨g, h1, h2, h3⟩ := hf'
        have hsz : ¬ i.size = 0 := by
          intro e; rw [e] at hok; cases hok
        have hrun : (fieldPlace ⟨q.blk, q.off + p.cell, none⟩ g).run P w = .ok ⟨q.blk, q.off + p.cell + o', none⟩ w := by
          have := (hτ t i ht).run_sizeOf w
          subst h2 h3
          simp [fieldPlace, this, hsz, addr_add]
        refine OpOk.value H (u := .pointer (some ⟨q.blk, q.off + p.cell + o', none⟩)) ?_ (.inr (plus_val hx hp hn o'))
        simp [execOp, ho, Instr.fieldAt, Instr.sureAddr, he, run_underlying hd, h1, hrun]
      · simp at hok
    · simp at hok
  · simp at hok

theorem numO_spec {m : List Pl} {v : SV} {u : Value} (hv : v.val m = some u) {ok : Bool} {n : Nm} (h : numO std v = some (ok, n)) (hok : ok = true) : ∃ k i, u = .int k i ∧ 0 ≤ i ∧ i.toNat = n.n := by
  subst hok
  cases v <;> simp only [numO] at h <;> try (cases h; done)
  · rename_i k i
    simp only [std, icmp, Option.some.injEq, Prod.mk.injEq, decide_eq_true_eq] at h
    obtain ⟨h1, rfl⟩ := h
    exact ⟨k, i, (v_int hv).2, h1, rfl⟩
  · rename_i k i
    simp only [icmp, Option.some.injEq, Prod.mk.injEq, decide_eq_true_eq] at h
    obtain ⟨h1, rfl⟩ := h
    exact ⟨k, i, (v_num hv).2, h1, rfl⟩

theorem ev_ix (T : TTie G m S.t a) {ix : Operand} {n : Nat} {j : Nm} {ok : Bool} (h : ixO std (S.ev G ix) n = some (ok, j) ∨ ixL std (S.ev G ix) n = some (ok, j)) (hok : ok = true) :
    ∃ k i, a.eval ix = .int k i ∧ 0 ≤ i ∧ i < n ∧ i.toNat = j.n := by
  subst hok
  cases hx : S.ev G ix <;> rw [hx] at h <;> simp only [ixO, ixL, or_self] at h <;> try (cases h; done)
  · rename_i k i
    simp only [std, Option.some.injEq, Prod.mk.injEq, Bool.and_eq_true, decide_eq_true_eq] at h
    obtain ⟨⟨h1, h2⟩, rfl⟩ := h
    exact ⟨k, i, ev_int T hx, h1, h2, rfl⟩
  · rename_i k i
    simp only [std, icmp, Option.some.injEq, Prod.mk.injEq, Bool.and_eq_true, decide_eq_true_eq] at h
    have h : (0 ≤ i ∧ i.toNat + 1 ≤ n) ∧ (⟨true, i.toNat⟩ : Nm) = j := by
      rcases h with h | h
      · exact h
      · exact ⟨⟨h.1.1, Nat.le_of_ble_eq_true h.1.2⟩, h.2⟩
    obtain ⟨⟨h1, h2⟩, rfl⟩ := h
    exact ⟨k, i, ev_num T hx, h1, by omega, rfl⟩

theorem ok_indexAddr (hτ : TOk P τ) (T : TTie G m S.t a) (H : HTie m S.h w) {o : Oper} {t : TypeId} {x ix : Operand} (ho : o.op = .indexAddr t x ix)
    (hok : (indexAddrO std τ t (S.ev G x) (S.ev G ix)).1 = true) : OpOk P o a w m S.h (Rof (indexAddrO std τ t (S.ev G x) (S.ev G ix)) S.h) := by
  unfold indexAddrO at hok ⊢
  split at hok
  · rename_i n e _ _ _ hi
    obtain ⟨d, hd, hfit⟩ := (hτ t _ hi).desc
    cases d <;> simp [TD.fits] at hfit
    obtain ⟨rfl, rfl⟩ := hfit
    split at hok
    · rename_i i ok j hi' hix
      have key : ∀ {b off : Nat} {v : SV}, ok = true → a.eval x = .pointer (some ⟨b, off, none⟩) → v.val m = some (.pointer (some ⟨b, off + j.n * i.size, none⟩)) → OpOk P o a w m S.h ⟨true, v, S.h⟩ := fun {b off v} h1 he hv => by
        obtain ⟨k, z, hz, h0, hlt, hj⟩ := ev_ix T (.inr hix) h1
        refine OpOk.value H (u := .pointer (some ⟨b, off + j.n * i.size, none⟩)) ?_ (.inr hv)
        simp [execOp, ho, Instr.indexAt, Instr.sureAddr, asIntOf, he, hz, run_underlying hd, h0, hlt, (hτ e i hi').run_sizeOf, addr_add, hj]
      split at hok
      · rename_i id off hx
        obtain ⟨p, hp, hn, he⟩ := ev_ptr T hx
        simp only at hok
        subst hok
        exact key rfl he (elt_val hp hn j i.size)
      · rename_i id j' sz off hx
        obtain ⟨p, hp, hn, he⟩ := ev_elt T hx
        simp only [Bool.and_eq_true] at hok
        obtain ⟨rfl, hl⟩ := hok
        simp only [Rof, hl, Bool.and_self]
        refine key rfl he ?_
        simp [SV.val, hp, Pl.ptr, hn, Nat.add_assoc]
      · simp at hok
    · simp at hok
  · rename_i e _ _ _ hi
    obtain ⟨d, hd, hfit⟩ := (hτ t _ hi).desc
    cases d <;> simp [TD.fits] at hfit
    subst hfit
    split at hok
    · rename_i i hi'
      have key : ∀ {b off len cap : Nat} {v : SV} {ok : Bool} {j : Nm}, ixO std (S.ev G ix) len = some (ok, j) → ok = true → a.eval x = .slice (some ⟨b, off, none⟩) len cap → v.val m = some (.pointer (some ⟨b, off + j.n * i.size, none⟩)) → OpOk P o a w m S.h ⟨true, v, S.h⟩ := fun {b off len cap v ok j} hix h1 he hv => by
        obtain ⟨k, z, hz, h0, hlt, hj⟩ := ev_ix T (.inl hix) h1
        refine OpOk.value H (u := .pointer (some ⟨b, off + j.n * i.size, none⟩)) ?_ (.inr hv)
        simp [execOp, ho, Instr.indexAt, asIntOf, he, hz, run_underlying hd, h0, hlt, (hτ e i hi').run_sizeOf, addr_add, hj]
      split at hok
      · rename_i id off len cap hx
        obtain ⟨p, hp, hn, hlc, he⟩ := ev_slice T hx
        split at hok
        · rename_i ok j hix
          simp only at hok
          subst hok
          exact key hix rfl he (elt_val hp hn j i.size)
        · simp at hok
      · rename_i id len hx
        obtain ⟨p, hp, he⟩ := ev_row T hx
        split at hok
        · rename_i ok j hix
          simp only at hok
          subst hok
          rcases he with ⟨hn, _, he⟩ | ⟨_, h0, _⟩
          · refine key hix rfl he ?_
            have := elt_val (off := 0) hp hn j i.size
            simpa using this
          · obtain ⟨_, _, _, _, hlt, _⟩ := ev_ix T (.inl hix) rfl
            omega
        · simp at hok
      · simp at hok
    · simp at hok
  · simp at hok

theorem run_pickL {l : List SV} {vs : List Value} (hv : SV.vals m l = some vs) {j : Nat} {v : SV} (h : pickL std l j = (true, v)) : ∃ u, vs[j]? = some u ∧ v.val m = some u := by
  unfold pickL at h
  split at h
  · split at h
    · rename_i k _ xs hx
      simp only [std, Prod.mk.injEq, decide_eq_true_eq] at h
      obtain ⟨h1, rfl⟩ := h
      obtain ⟨h2, h3⟩ := asInts_spec hx
      have hj : j < l.length := by omega
      obtain ⟨u, hu, hu'⟩ := vals_get hv (List.getElem?_eq_getElem hj)
      refine ⟨u, hu, ?_⟩
      rw [h3 j hj m, getD_of_lt hj]; exact hu'
    · cases h
  · cases h

theorem ok_index (hτ : TOk P τ) (T : TTie G m S.t a) (H : HTie m S.h w) {o : Oper} {t : TypeId} {x ix : Operand} (ho : o.op = .index t x ix)
    (hok : (indexO std τ t (S.ev G x) (S.ev G ix)).1 = true) : OpOk P o a w m S.h (Rof (indexO std τ t (S.ev G x) (S.ev G ix)) S.h) := by
  unfold indexO at hok ⊢
  split at hok
  · rename_i n e _ _ _ hi
    obtain ⟨d, hd, hfit⟩ := (hτ t _ hi).desc
    cases d <;> simp [TD.fits] at hfit
    obtain ⟨rfl, rfl⟩ := hfit
    split at hok
    · rename_i l i ok j hx hi' hix
      obtain ⟨vs, hvs, he⟩ := ev_agg T hx
      have f := hτ e i hi'
      split at hok
      · rename_i hl
        cases hr : partO τ e l (j.n * i.size) with
        | mk ok' v =>
        rw [hr] at hok
        simp only [Bool.and_eq_true] at hok
        obtain ⟨rfl, rfl⟩ := hok
        obtain ⟨k, z, hz, h0, hlt, hj⟩ := ev_ix T (.inr hix) rfl
        obtain ⟨u, hu, hv⟩ := run_part hτ hvs (off := j.n * i.size) (by rw [hr]) w
        rw [hr] at hv
        refine OpOk.value H (u := u) ?_ (.inr hv)
        simp [execOp, ho, Instr.index, asIntOf, he, hz, run_underlying hd, h0, hlt, f.run_sizeOf, hj, hu]
      · split at hok
        · simp at hok
        · rename_i hag
          cases hr : pickL std l j.n with
          | mk ok' v =>
          rw [hr] at hok
          simp only [Bool.and_eq_true] at hok
          obtain ⟨rfl, hs, rfl⟩ := hok
          have hs : i.size = 1 := by simpa using hs
          obtain ⟨k, z, hz, h0, hlt, hj⟩ := ev_ix T (.inr hix) rfl
          obtain ⟨u, hu, hv⟩ := run_pickL hvs hr
          refine OpOk.value H (u := u) ?_ (.inr hv)
          have hlt' : j.n < vs.length := (List.getElem?_eq_some_iff.1 hu).1
          simp [execOp, ho, Instr.index, asIntOf, he, hz, run_underlying hd, h0, hlt, f.run_sizeOf, hj, hs, part, f.run_isAgg, hag, hu]
    · simp at hok
  · rename_i _ _ _ hi
    obtain ⟨d, hd, hfit⟩ := (hτ t _ hi).desc
    cases d <;> simp [TD.fits] at hfit
    split at hok
    · rename_i s hx
      split at hok
      · rename_i ok j hix
        simp only at hok
        subst hok
        obtain ⟨k, q, hq, h0, h1, hj⟩ := ev_ix T (.inl hix) rfl
        have h1' : q.toNat < s.size := by simp [std] at h1; omega
        rw [← hj]
        refine OpOk.value H (u := .int .u8 (s.data.getD q.toNat 0).toNat) ?_ (.inr (by
          have hb := (s.data.getD q.toNat 0).toNat_lt
          have := IntWalk.u8_in ((s.data.getD q.toNat 0).toNat : Int) (by omega)
          exact val_int_of this))
        have hgd : (s.data.getD q.toNat 0) = s[q.toNat] := by
          have h2 : q.toNat < s.data.size := h1'
          simp only [Array.getD]; rw [dif_pos h2]; rfl
        simp [execOp, ho, Instr.index, hq, asIntOf, run_underlying hd, ev_str T hx, h0, h1', hgd]
      · simp at hok
    · simp at hok
  · simp at hok

end ops

section ops2
variable {P : Program} {m : List Pl} {S : St} {a : Act} {w : World}

theorem isBoolT_spec {τ : Types} (hτ : TOk P τ) {t : TypeId} (h : isBoolT τ t = true) : P.underlying t = some .bool := by
  unfold isBoolT at h
  split at h
  · rename_i hi
    obtain ⟨d, hd, hfit⟩ := (hτ t _ hi).desc
    cases d <;> simp [TD.fits] at hfit
    exact hd
  · cases h

theorem isPtrT_spec {τ : Types} (hτ : TOk P τ) {t : TypeId} (h : isPtrT τ t = true) : ∃ e, P.underlying t = some (.pointer e) := by
  unfold isPtrT at h
  split at h
  · rename_i hi
    obtain ⟨d, hd, hfit⟩ := (hτ t _ hi).desc
    cases d <;> simp [TD.fits] at hfit
    exact ⟨_, hd⟩
  · cases h

theorem isSliceT_spec {τ : Types} (hτ : TOk P τ) {t : TypeId} (h : isSliceT τ t = true) : ∃ e, P.underlying t = some (.slice e) := by
  unfold isSliceT at h
  split at h
  · rename_i hi
    obtain ⟨d, hd, hfit⟩ := (hτ t _ hi).desc
    cases d <;> simp [TD.fits] at hfit
    exact ⟨_, hd⟩
  · cases h

/-- '==' and '!=' out of 'equal'. -/
theorem run_eqop {op : BinOp} (hop : isEq op = true) {t : TypeId} {u v : Value} {b : Bool} (hne : ∀ op', isEq op' = true → binOp op' t u v = (match op' with | .eql => (do pure (.bool (← Op.equal t u v)) : Sem Value) | _ => do pure (.bool (!(← Op.equal t u v)))))
    (h : (Op.equal t u v).run P w = .ok b w) : (binOp op t u v).run P w = .ok (.bool (negIf op b)) w := by
  rw [hne op hop]
  cases op <;> simp [isEq] at hop <;> simp [h, negIf]

theorem eq_at {t : TypeId} {u v : Value} {b : Bool} (h : ∀ d : Nat, (Op.equalIn (d + 1) t u v).run P w = .ok b w) : (Op.equal t u v).run P w = .ok b w := h 9999

theorem ok_bin {τ : Types} {ε : TypeId → Option (List CK)} (hτ : TOk P τ) (hε : EOk P ε) (T : TTie G m S.t a) (H : HTie m S.h w) {o : Oper} {op : BinOp} {t yt : TypeId} {x y : Operand} (ho : o.op = .binOp op t x y yt)
    (hok : (Rof (binA std τ ε op t (S.ev G x) (S.ev G y)) S.h).ok = true) : OpOk P o a w m S.h (Rof (binA std τ ε op t (S.ev G x) (S.ev G y)) S.h) := by
  cases hb : binA std τ ε op t (S.ev G x) (S.ev G y) with
  | mk ok v =>
  rw [hb] at hok
  simp only [Rof] at hok ⊢
  subst hok
  have fin : ∀ u, (eqGuard op t x y (a.eval x) (a.eval y)).run P w = .ok () w → (binOp op t (a.eval x) (a.eval y)).run P w = .ok u w → v.val m = some u → OpOk P o a w m S.h ⟨true, v, S.h⟩ := fun u h1 h2 h3 =>
    OpOk.value H (u := u) (by simp [execOp, ho, h1, h2]) (.inr h3)
  unfold binA at hb
  split at hb
  · rename_i k n k' n' hx hy
    obtain ⟨u, h1, h2⟩ := run_binI P w op t k k' n n' true hb rfl m (ev_num' T hx).1
    exact fin u (by rw [ev_num T hx, eqGuard_at_int]; rfl) (by rw [ev_num T hx, ev_num T hy]; exact h1) h2
  · rename_i k n k' n' hx hy
    obtain ⟨u, h1, h2⟩ := run_binI P w op t k k' n n' false hb rfl m (ev_num' T hx).1
    exact fin u (by rw [ev_num T hx, eqGuard_at_int]; rfl) (by rw [ev_num T hx, ev_int T hy]; exact h1) h2
  · rename_i k n k' n' hx hy
    obtain ⟨u, h1, h2⟩ := run_binI P w op t k k' n n' false hb rfl m (ev_int' T hx).1
    exact fin u (by rw [ev_int T hx, eqGuard_at_int]; rfl) (by rw [ev_int T hx, ev_num T hy]; exact h1) h2
  · rename_i k n k' n' hx hy
    obtain ⟨u, h1, h2⟩ := run_binI P w op t k k' n n' false hb rfl m (ev_int' T hx).1
    exact fin u (by rw [ev_int T hx, eqGuard_at_int]; rfl) (by rw [ev_int T hx, ev_int T hy]; exact h1) h2
  · rename_i s s' hx hy
    have hg : (eqGuard op t x y (a.eval x) (a.eval y)).run P w = .ok () w := by rw [ev_str T hx, eqGuard_at_string]; rfl
    split at hb
    · simp only [Prod.mk.injEq] at hb
      obtain ⟨h1, rfl⟩ := hb
      have h1 : ¬ (((s.size + s'.size : Nat) : Int) > IntKind.i64.max) := by
        have : ((s.size + s'.size : Nat) : Int) ≤ IntKind.i64.max := by simpa [std] using h1
        omega
      refine fin (.string (s ++ s')) hg ?_ rfl
      rw [ev_str T hx, ev_str T hy]
      simp only [binOp, Op.stringOp, if_neg h1, Sem.run_pure]
    · simp only [Prod.mk.injEq] at hb
      obtain ⟨h1, rfl⟩ := hb
      refine fin (.bool (scmp op s s')) hg ?_ rfl
      rw [ev_str T hx, ev_str T hy]
      cases op <;> simp [isCmp] at h1 <;> simp [binOp, Op.stringOp, scmp]
  · rename_i b b' hx hy
    simp only [Prod.mk.injEq, Bool.and_eq_true] at hb
    obtain ⟨⟨h1, h2⟩, rfl⟩ := hb
    have hu := isBoolT_spec hτ h2
    refine fin (.bool (negIf op (b == b'))) (by rw [ev_bool T hx, eqGuard_at_bool]; rfl) ?_ rfl
    rw [ev_bool T hx, ev_bool T hy]
    refine run_eqop h1 (fun op' h => by cases op' <;> simp [isEq] at h <;> rfl) ?_
    exact eq_at fun d => by simp [Op.equalIn, run_underlying hu]
  · rename_i xs ys hx hy
    obtain ⟨us, hus, ex⟩ := ev_agg T hx
    obtain ⟨vs, hvs, ey⟩ := ev_agg T hy
    cases he : eqs std xs ys with
    | mk ok b =>
    rw [he] at hb
    simp only [Prod.mk.injEq, Bool.and_eq_true] at hb
    obtain ⟨⟨h0, h1, h2, h3⟩, rfl⟩ := hb
    subst h0
    have hex : ∃ n, ε t = some n ∧ kindsOk std n xs = true ∧ kindsOk std n ys = true := by
      cases hn : ε t with
      | none => rw [hn] at h2; simp [sameLen] at h2
      | some n => rw [hn] at h2 h3; simp [sameLen] at h2 h3; exact ⟨n, rfl, h2, h3⟩
    obtain ⟨n, hn, hl, hl'⟩ := hex
    have hE := hε t n hn
    refine fin (.bool (negIf op b)) ?_ ?_ rfl
    · rw [ex, ey]
      unfold eqGuard
      cases op <;> simp [isEq] at h1 <;> simp [hE.guard]
    · rw [ex, ey]
      exact run_eqop h1 (fun op' h => by cases op' <;> simp [isEq] at h <;> rfl) (hE.run xs ys us vs m b w hl hl' hus hvs he)
  · rename_i id off hx hy
    simp only [Prod.mk.injEq, Bool.and_eq_true] at hb
    obtain ⟨⟨h1, h2⟩, rfl⟩ := hb
    obtain ⟨e, hu⟩ := isPtrT_spec hτ h2
    obtain ⟨p, hp, hn, ex⟩ := ev_ptr T hx
    have ey : a.eval y = .pointer none := by have := St.eval_of T hy (by simp); simpa [SV.val] using this.symm
    refine fin (.bool (negIf op false)) (by rw [ex, eqGuard_at_pointer]; rfl) ?_ rfl
    rw [ex, ey]
    refine run_eqop h1 (fun op' h => by cases op' <;> simp [isEq] at h <;> rfl) ?_
    exact eq_at fun d => by simp [Op.equalIn, run_underlying hu]
  · rename_i hx hy
    simp only [Prod.mk.injEq, Bool.and_eq_true] at hb
    obtain ⟨⟨h1, h2⟩, rfl⟩ := hb
    obtain ⟨e, hu⟩ := isPtrT_spec hτ h2
    have ex : a.eval x = .pointer none := by have := St.eval_of T hx (by simp); simpa [SV.val] using this.symm
    have ey : a.eval y = .pointer none := by have := St.eval_of T hy (by simp); simpa [SV.val] using this.symm
    refine fin (.bool (negIf op true)) (by rw [ex, eqGuard_at_pointer]; rfl) ?_ rfl
    rw [ex, ey]
    refine run_eqop h1 (fun op' h => by cases op' <;> simp [isEq] at h <;> rfl) ?_
    exact eq_at fun d => by simp [Op.equalIn, run_underlying hu]
  · rename_i hx hy
    simp only [Prod.mk.injEq, Bool.and_eq_true] at hb
    obtain ⟨⟨h1, h2⟩, rfl⟩ := hb
    obtain ⟨e, hu⟩ := isSliceT_spec hτ h2
    have ex : a.eval x = .slice none 0 0 := by have := St.eval_of T hx (by simp); simpa [SV.val] using this.symm
    have ey : a.eval y = .slice none 0 0 := by have := St.eval_of T hy (by simp); simpa [SV.val] using this.symm
    refine fin (.bool (negIf op true)) (by rw [ex, eqGuard_at_slice]; rfl) ?_ rfl
    rw [ex, ey]
    refine run_eqop h1 (fun op' h => by cases op' <;> simp [isEq] at h <;> rfl) ?_
    exact eq_at fun d => by simp [Op.equalIn, run_underlying hu]
  · rename_i id off len cap hx hy
    simp only [Prod.mk.injEq, Bool.and_eq_true] at hb
    obtain ⟨⟨h1, h2⟩, rfl⟩ := hb
    obtain ⟨e, hu⟩ := isSliceT_spec hτ h2
    obtain ⟨p, hp, hn, _, ex⟩ := ev_slice T hx
    have ey : a.eval y = .slice none 0 0 := by have := St.eval_of T hy (by simp); simpa [SV.val] using this.symm
    refine fin (.bool (negIf op false)) (by rw [ex, eqGuard_at_slice]; rfl) ?_ rfl
    rw [ex, ey]
    refine run_eqop h1 (fun op' h => by cases op' <;> simp [isEq] at h <;> rfl) ?_
    exact eq_at fun d => by simp [Op.equalIn, run_underlying hu]
  · rename_i id j sz off hx hy
    simp only [Prod.mk.injEq, Bool.and_eq_true] at hb
    obtain ⟨⟨h1, h2⟩, rfl⟩ := hb
    obtain ⟨e, hu⟩ := isPtrT_spec hτ h2
    obtain ⟨p, hp, hn, ex⟩ := ev_elt T hx
    have ey : a.eval y = .pointer none := ev_nilp T hy
    refine fin (.bool (negIf op false)) (by rw [ex, eqGuard_at_pointer]; rfl) ?_ rfl
    rw [ex, ey]
    refine run_eqop h1 (fun op' h => by cases op' <;> simp [isEq] at h <;> rfl) ?_
    exact eq_at fun d => by simp [Op.equalIn, run_underlying hu]
  · simp at hb

theorem foldl_zipIdx_set (off : Nat) : ∀ (l : List Value) (j : Nat) (cs : Array Value), off + j + l.length ≤ cs.size →
    ((l.zipIdx j).foldl (fun cs (x : Value × Nat) => cs.setIfInBounds (off + x.2) x.1) cs).toList = cs.toList.take (off + j) ++ l ++ cs.toList.drop (off + j + l.length)
  | [], j, cs, _ => by simp
  | c :: r, j, cs, h => by
    simp only [List.length_cons] at h
    simp only [List.zipIdx_cons, List.foldl_cons]
    rw [foldl_zipIdx_set off r (j + 1) _ (by simp; omega)]
    simp only [Array.toList_setIfInBounds, List.length_cons]
    have h1 : (cs.toList.set (off + j) c).take (off + (j + 1)) = cs.toList.take (off + j) ++ [c] := by
      rw [← Nat.add_assoc, List.take_succ_eq_append_getElem (by simp; omega)]
      simp [List.take_set_of_le]
    have h2 : (cs.toList.set (off + j) c).drop (off + (j + 1) + r.length) = cs.toList.drop (off + j + (r.length + 1)) := by
      rw [List.drop_set_of_lt (by omega)]
      congr 1; omega
    rw [h1, h2]
    simp

theorem run_fill {place : Nat → Option (Nat × Nat)} : ∀ (ps : List (Nat × SV)) (us : List (Nat × Value)) (cells : List SV) (vs : Array Value) {out : List SV},
    fillO place cells ps = (true, out) → SV.vals m cells = some vs.toList → (ps.map (·.1) = us.map (·.1)) →
    (∀ (i : Nat) (p : Nat × SV) (q : Nat × Value), ps[i]? = some p → us[i]? = some q → SV.vals m p.2.cells = some q.2.cells.toList) →
    ∃ res : Array Value, Instr.fill place vs us = some res ∧ SV.vals m out = some res.toList
  | [], [], cells, vs, out, h, hv, _, _ => by
    simp [fillO] at h
    subst h
    exact ⟨vs, rfl, hv⟩
  | [], q :: us, cells, vs, out, h, hv, hl, _ => by simp at hl
  | p :: ps, [], cells, vs, out, h, hv, hl, _ => by simp at hl
  | (i, v) :: ps, (j, u) :: us, cells, vs, out, h, hv, hl, hp => by
    simp at hl
    obtain ⟨rfl, hl⟩ := hl
    have h0 : SV.vals m v.cells = some u.cells.toList := hp 0 (i, v) (i, u) (by simp) (by simp)
    simp only [fillO] at h
    split at h
    · simp at h
    · rename_i off size hpl
      cases hr : fillO place (cells.take off ++ v.cells ++ cells.drop (off + v.cells.length)) ps with
      | mk ok out' =>
      rw [hr] at h
      simp only [Prod.mk.injEq, Bool.and_eq_true] at h
      obtain ⟨⟨h1, h2, h3⟩, rfl⟩ := h
      subst h3
      have hlen0 := vals_length h0
      have hlenv := vals_length hv
      simp at hlen0 hlenv h1 h2
      have hsz : u.cells.size = size := by omega
      have hfit : off + u.cells.size ≤ vs.size := by omega
      have hcells := foldl_zipIdx_set off u.cells.toList 0 vs (by simpa using hfit)
      simp only [Nat.add_zero, Array.length_toList] at hcells
      have hzip : (u.cells.zipIdx.foldl (fun cs (x : Value × Nat) => cs.setIfInBounds (off + x.2) x.1) vs) = (u.cells.toList.zipIdx 0).foldl (fun cs (x : Value × Nat) => cs.setIfInBounds (off + x.2) x.1) vs := by
        rw [← Array.foldl_toList]; simp
      obtain ⟨res, hr1, hr2⟩ := run_fill ps us _ (u.cells.zipIdx.foldl (fun cs (x : Value × Nat) => cs.setIfInBounds (off + x.2) x.1) vs) hr (by
        rw [hzip, hcells]
        refine vals_append (vals_append ?_ h0) ?_
        · refine vals_of_get (by simp [hlenv]) (fun k x y h1 h2 => ?_)
          rw [List.getElem?_take] at h1 h2
          split at h1
          · rename_i hk
            rw [if_pos hk] at h2
            obtain ⟨y', hy', hv'⟩ := vals_get hv h1
            rw [h2] at hy'; cases hy'; exact hv'
          · cases h1
        · refine vals_of_get (by simp [hlenv]; omega) (fun k x y h1 h2 => ?_)
          rw [List.getElem?_drop] at h1 h2
          obtain ⟨y', hy', hv'⟩ := vals_get hv h1
          rw [show off + u.cells.size + k = off + v.cells.length + k by omega] at h2
          rw [h2] at hy'; cases hy'; exact hv') hl
        (fun k p q h1 h2 => hp (k + 1) p q (by simpa using h1) (by simpa using h2))
      refine ⟨res, ?_, hr2⟩
      simp only [Instr.fill, hpl]
      rw [if_neg (by simp [hsz]; omega)]
      exact hr1

theorem fillO_good {place : Nat → Option (Nat × Nat)} : ∀ (ps : List (Nat × SV)) (cells : List SV) {out : List SV}, fillO place cells ps = (true, out) → ∀ (i : Nat) (p : Nat × SV), ps[i]? = some p → ∃ q, place p.1 = some q
  | [], cells, out, h, i, p, hp => by simp at hp
  | (j, v) :: ps, cells, out, h, i, p, hp => by
    simp only [fillO] at h
    split at h
    · simp at h
    · rename_i off size hpl
      cases hr : fillO place (cells.take off ++ v.cells ++ cells.drop (off + v.cells.length)) ps with
      | mk ok out' =>
      rw [hr] at h
      simp only [Prod.mk.injEq, Bool.and_eq_true] at h
      cases i with
      | zero => simp at hp; subst hp; exact ⟨_, hpl⟩
      | succ i => exact fillO_good ps _ (by rw [hr, h.1.2.2]) i p (by simpa using hp)

theorem ok_build {τ : Types} (hτ : TOk P τ) (T : TTie G m S.t a) (H : HTie m S.h w) {o : Oper} {t : TypeId} {ps : Array (Nat × Operand)} (ho : o.op = .build t ps)
    (hg : (ps.toList.map fun p => S.ev G p.2).all (fun v => v.cells.all SV.one) = true)
    (hok : (buildO τ t (ps.toList.map fun p => (p.1, S.ev G p.2))).1 = true) : OpOk P o a w m S.h (Rof (buildO τ t (ps.toList.map fun p => (p.1, S.ev G p.2))) S.h) := by
  have hparts : ∀ (i : Nat) (p : Nat × SV) (q : Nat × Value), (ps.toList.map fun p => (p.1, S.ev G p.2))[i]? = some p → (ps.toList.map fun p => (p.1, a.eval p.2))[i]? = some q →
      SV.vals m p.2.cells = some q.2.cells.toList := fun i p q h1 h2 => by
    simp only [List.getElem?_map, Option.map_eq_some_iff] at h1 h2
    obtain ⟨x, hx, rfl⟩ := h1
    obtain ⟨y, hy, rfl⟩ := h2
    rw [hx] at hy; cases hy
    have h1 : (S.ev G x.2).cells.all SV.one = true := List.all_eq_true.1 hg _ (List.mem_map.2 ⟨x, List.mem_of_getElem? hx, rfl⟩)
    have hb : S.ev G x.2 ≠ .bad := by
      intro e; rw [e] at h1; simp [SV.cells, SV.cells1, SV.one] at h1
    exact cells_val ((St.eval_or T x.2).resolve_left hb) h1
  have hmap : (ps.map fun (p : Nat × Operand) => (p.1, a.eval p.2)).toList = ps.toList.map fun p => (p.1, a.eval p.2) := by simp
  unfold buildO at hok ⊢
  split at hok
  · rename_i n e _ _ z hi
    have f := hτ t _ hi
    obtain ⟨d, hd, hfit⟩ := f.desc
    cases d <;> simp [TD.fits] at hfit
    obtain ⟨rfl, rfl⟩ := hfit
    obtain ⟨zv, hz, hzv⟩ := f.run_zero w
    have hone : z.cells.all SV.one = true := by obtain ⟨_, _, _, _, _, _, _, h, _⟩ := f.info; exact h
    have hzc := cells_val (vals_nil_of hzv m) hone
    split at hok
    · rename_i i hi'
      cases hr : fillO (fun j => some (j * i.size, i.size)) z.cells (ps.toList.map fun p => (p.1, S.ev G p.2)) with
      | mk ok out =>
      rw [hr] at hok
      simp only at hok
      subst hok
      obtain ⟨res, hr1, hr2⟩ := run_fill (m := m) _ (ps.toList.map fun p => (p.1, a.eval p.2)) _ zv.cells hr hzc (by simp) hparts
      refine OpOk.value H (u := .agg res) ?_ (.inr (by simp [SV.val, hr2]))
      simp [execOp, ho, Instr.build, hz, run_underlying hd, (hτ _ i hi').run_sizeOf, hr1]
    · simp at hok
  · rename_i fs _ _ z hi
    have f := hτ t _ hi
    obtain ⟨d, hd, hfit⟩ := f.desc
    cases d <;> simp [TD.fits] at hfit
    rename_i fields
    obtain ⟨zv, hz, hzv⟩ := f.run_zero w
    have hone : z.cells.all SV.one = true := by obtain ⟨_, _, _, _, _, _, _, h, _⟩ := f.info; exact h
    have hzc := cells_val (vals_nil_of hzv m) hone
    split at hok
    rename_i ok out hr
    simp only [Bool.and_eq_true] at hok
    obtain ⟨rfl, hall⟩ := hok
    have hplaces : ∀ (l : List Field), (l.map (fun f => (f.offset, f.type))).all (fun f => (τ f.2).isSome) = true →
        (l.mapM (fun (f : Field) => (do pure (f.offset, ← sizeOf f.type) : Sem (Nat × Nat)))).run P w = .ok (l.map fun f => (f.offset, ((τ f.type).map (·.size)).getD 0)) w := by
      intro l
      induction l with
      | nil => intro _; simp
      | cons x r ih =>
        intro h
        simp only [List.map_cons, List.all_cons, Bool.and_eq_true] at h
        obtain ⟨i, hi'⟩ := Option.isSome_iff_exists.1 h.1
        rw [List.mapM_cons]
        simp only [Sem.run_bind, (hτ _ i hi').run_sizeOf, Result.andThen_ok, Sem.run_pure, ih h.2, List.map_cons, hi', Option.map_some, Option.getD_some]
    have hpl := hplaces fields.toList (by rw [← hfit]; exact hall)
    have hpl' : (fields.mapM (fun (f : Field) => (do pure (f.offset, ← sizeOf f.type) : Sem (Nat × Nat)))).run P w = .ok (fields.toList.map fun f => (f.offset, ((τ f.type).map (·.size)).getD 0)).toArray w := by
      rw [Array.mapM_eq_mapM_toList]
      simp only [Sem.run_map, hpl, Result.andThen_ok]
    have hfun : fplace τ fs = fun (j : Nat) => (fields.toList.map fun f => (f.offset, ((τ f.type).map (·.size)).getD 0)).toArray[j]? := by
      funext j
      unfold fplace
      rw [hfit]
      simp only [List.getElem?_toArray, List.getElem?_map, Array.getElem?_toList]
      cases hj : fields[j]? with
      | none => simp
      | some fl =>
        have : (τ fl.type).isSome = true := by
          rw [hfit] at hall
          have := List.all_eq_true.1 hall (fl.offset, fl.type) (List.mem_map.2 ⟨fl, by simpa using Array.mem_of_getElem? hj, rfl⟩)
          simpa using this
        obtain ⟨i, hi'⟩ := Option.isSome_iff_exists.1 this
        simp [hi']
    rw [hfun] at hr
    obtain ⟨res, hr1, hr2⟩ := run_fill (m := m) _ (ps.toList.map fun p => (p.1, a.eval p.2)) _ zv.cells hr hzc (by simp) hparts
    refine OpOk.value H (u := .agg res) ?_ (.inr (by simp [SV.val, hr2]))
    simp only [execOp, ho, Instr.build, Sem.run_bind, hz, run_underlying hd, Result.andThen_ok, hpl', hmap, hr1, Sem.run_pure]
  · simp at hok


theorem ok_len {τ : Types} (hτ : TOk P τ) (T : TTie G m S.t a) (H : HTie m S.h w) {o : Oper} {c : Call} (ho : o.op = .call c) (hc : c.callee = .builtin .len) {t : TypeId} {x : Operand} (ht : c.argTypes[0]? = some t) (hx : c.args[0]? = some x)
    (hok : (lenO std τ t (S.ev G x) S.h).1 = true) : OpOk P o a w m S.h (Rof (lenO std τ t (S.ev G x) S.h) S.h) := by
  obtain ⟨callee, args, argTypes⟩ := c
  simp only at hc ht hx hok ⊢
  subst hc
  have key : ∀ (n : Int) (v : SV) {ok : Bool}, (∀ d, P.underlying t = some d → (Builtin.len_ argTypes o.type (args.map a.eval)).run P w = .ok (goInt n) w) → (∃ d, P.underlying t = some d) →
      v.val m = some (.int .i64 n) → OpOk P o a w m S.h ⟨ok, v, S.h⟩ := fun n v ok hd hd' hv => by
    obtain ⟨d, h1⟩ := hd'
    refine OpOk.value H (u := .int .i64 n) ?_ (.inr hv)
    simp [execOp, ho, resolve, invoke, builtin, hd d h1, goInt]
  unfold lenO at hok ⊢
  split at hok
  · rename_i hi
    obtain ⟨d, hd, hfit⟩ := (hτ t _ hi).desc
    cases d <;> simp [TD.fits] at hfit
    split at hok
    · rename_i s hs'
      have hle : (s.size : Int) ≤ 9223372036854775807 := by simpa [std, icmp] using hok
      have hin := IntWalk.i64_in (s.size : Int) (by omega)
      refine key s.size _ (fun d' _ => ?_) ⟨_, hd⟩ (val_int_of hin)
      simp [Builtin.len_, ht, hx, run_underlying hd, ev_str T hs']
    · simp at hok
  · rename_i n e _ _ _ hi
    obtain ⟨d, hd, hfit⟩ := (hτ t _ hi).desc
    cases d <;> simp [TD.fits] at hfit
    obtain ⟨rfl, rfl⟩ := hfit
    have hle : (n : Int) ≤ 9223372036854775807 := by simpa [icmp] using hok
    refine key n _ (fun d' _ => ?_) ⟨_, hd⟩ (val_num_of (IntWalk.i64_in _ (by omega)))
    simp [Builtin.len_, ht, hx, run_underlying hd]
  · rename_i hi
    obtain ⟨d, hd, hfit⟩ := (hτ t _ hi).desc
    cases d <;> simp [TD.fits] at hfit
    split at hok
    · rename_i id off len cap hs'
      obtain ⟨p, hp, hn, _, ex⟩ := ev_slice T hs'
      have hle : (len : Int) ≤ 9223372036854775807 := by simpa [std, icmp] using hok
      have hin := IntWalk.i64_in (len : Int) (by omega)
      refine key len _ (fun d' _ => ?_) ⟨_, hd⟩ (val_num_of hin)
      simp [Builtin.len_, ht, hx, run_underlying hd, ex]
    · rename_i id len hs'
      obtain ⟨p, hp, ex⟩ := ev_row T hs'
      have hrun : ∀ d', P.underlying t = some d' → (Builtin.len_ argTypes o.type (args.map a.eval)).run P w = .ok (goInt len) w := fun d' _ => by
        rcases ex with ⟨_, _, ex⟩ | ⟨_, h0, ex⟩
        · simp [Builtin.len_, ht, hx, run_underlying hd, ex]
        · subst h0; simp [Builtin.len_, ht, hx, run_underlying hd, ex]
      split at hok
      all_goals
        have hle : (len : Int) ≤ 9223372036854775807 := by simpa [std, icmp] using hok
        have hin := IntWalk.i64_in (len : Int) (by omega)
      · exact key len _ hrun ⟨_, hd⟩ (val_num_of hin)
      · exact key len _ hrun ⟨_, hd⟩ (val_int_of hin)
    · rename_i hs'
      have ex : a.eval x = .slice none 0 0 := ev_nils T hs'
      refine key 0 _ (fun d' _ => ?_) ⟨_, hd⟩ (val_num_of (IntWalk.i64_in _ (by omega)))
      simp [Builtin.len_, ht, hx, run_underlying hd, ex]
    · simp at hok
  · simp at hok

theorem mmA_std (mn : Bool) (x y : Int) : mmA std mn x y = mmI mn x y := by cases mn <;> rfl
theorem mmI_wrap {k : IntKind} {mn : Bool} {x y : Int} (h1 : k.wrap x = x) (h2 : k.wrap y = y) : k.wrap (mmI mn x y) = mmI mn x y := by
  cases mn <;> simp only [mmI] <;> split <;> assumption

def mm2F (mn : Bool) : Value → Value → Sem Value := match mn with
  | true => Builtin.min2
  | false => Builtin.max2

theorem mm2_spec {mn : Bool} {v v' r : SV} {u u' : Value} (h : mm2 std mn v v' = some r) (hv : v.val m = some u) (hv' : v'.val m = some u') : ∃ x, (mm2F mn u u').run P w = .ok x w ∧ r.val m = some x := by
  have key : ∀ {k k' : IntKind} {x y : Int}, Nat.beq (kn k) (kn k') = true → (k.wrap x = x ∧ u = .int k x) → (k'.wrap y = y ∧ u' = .int k' y) → (mm2F mn u u').run P w = .ok (.int k (mmI mn x y)) w ∧ k.wrap (mmI mn x y) = mmI mn x y := fun hk h1 h2 => by
    have hk := kn_eq hk
    subst hk
    refine ⟨?_, mmI_wrap h1.1 h2.1⟩
    rw [h1.2, h2.2]
    cases mn <;> rfl
  cases v <;> cases v' <;> simp only [mm2, mmA_std] at h <;> try (cases h; done)
  all_goals
    split at h
    · rename_i hk
      simp only [Option.some.injEq] at h
      subst h
      first
      | exact ⟨_, (key hk (v_int hv) (v_int hv')).1, val_int_of (key hk (v_int hv) (v_int hv')).2⟩
      | exact ⟨_, (key hk (v_int hv) (v_num hv')).1, val_int_of (key hk (v_int hv) (v_num hv')).2⟩
      | exact ⟨_, (key hk (v_num hv) (v_int hv')).1, val_int_of (key hk (v_num hv) (v_int hv')).2⟩
      | exact ⟨_, (key hk (v_num hv) (v_num hv')).1, val_num_of (key hk (v_num hv) (v_num hv')).2⟩
    · cases h

theorem mmGo_spec {mn : Bool} : ∀ (vs : List SV) (us : List Value) (v : SV) (u : Value) {r : SV}, mmGo std mn v vs = some r → v.val m = some u → SV.vals m vs = some us →
    ∃ x, (us.foldlM (mm2F mn) u).run P w = .ok x w ∧ r.val m = some x
  | [], us, v, u, r, h, hv, hvs => by
    simp [SV.vals] at hvs; subst hvs
    simp [mmGo] at h; subst h
    exact ⟨u, by simp, hv⟩
  | v' :: vs, us, v, u, r, h, hv, hvs => by
    simp only [SV.vals, Option.bind_eq_some_iff, Option.map_eq_some_iff] at hvs
    obtain ⟨u', hu', us', hus', rfl⟩ := hvs
    simp only [mmGo] at h
    split at h
    · rename_i z hz
      obtain ⟨x, hx, hxv⟩ := mm2_spec (P := P) (w := w) hz hv hu'
      obtain ⟨y, hy, hyv⟩ := mmGo_spec vs us' z x h hxv hus'
      refine ⟨y, ?_, hyv⟩
      rw [List.foldlM_cons]
      simp only [Sem.run_bind, hx, Result.andThen_ok, hy]
    · cases h

theorem ok_minmax (T : TTie G m S.t a) (H : HTie m S.h w) {o : Oper} {c : Call} (ho : o.op = .call c) {mn : Bool} (hc : c.callee = .builtin (match mn with | true => .min | false => .max)) (hg : (c.args.toList.map (S.ev G)).all SV.good = true)
    (hok : (minmaxO std mn (c.args.toList.map (S.ev G))).1 = true) : OpOk P o a w m S.h (Rof (minmaxO std mn (c.args.toList.map (S.ev G))) S.h) := by
  obtain ⟨callee, args, ats⟩ := c
  simp only at hc hok hg ⊢
  have hvs := evs T args.toList (fun x hx e => by
    have := List.all_eq_true.1 hg (S.ev G x) (List.mem_map.2 ⟨x, hx, rfl⟩)
    rw [e] at this; cases this)
  cases hl : args.toList with
  | nil => rw [hl] at hok; simp [minmaxO] at hok
  | cons x r =>
    rw [hl] at hok hvs
    simp only [List.map_cons, minmaxO] at hok hvs ⊢
    split at hok
    · rename_i z hz
      simp only [SV.vals, Option.bind_eq_some_iff, Option.map_eq_some_iff] at hvs
      obtain ⟨u, hu, us, hus, hl'⟩ := hvs
      obtain ⟨y, hy, hyv⟩ := mmGo_spec (P := P) (w := w) _ _ _ _ hz hu hus
      refine OpOk.value H (u := y) ?_ (.inr hyv)
      have ha : (args.map a.eval).toList = u :: us := by rw [Array.toList_map, hl]; simpa using hl'.symm
      subst hc
      cases mn
      · have : (Builtin.max_ ats o.type (args.map a.eval)).run P w = .ok y w := by simp only [Builtin.max_, ha]; exact hy
        simp [execOp, ho, resolve, invoke, builtin, this]
      · have : (Builtin.min_ ats o.type (args.map a.eval)).run P w = .ok y w := by simp only [Builtin.min_, ha]; exact hy
        simp [execOp, ho, resolve, invoke, builtin, this]
    · simp at hok

end ops2

section mem
variable {P : Program} {τ : Types} {m : List Pl} {h : List Blk} {w : World} {S : St} {a : Act}

theorem setCells_heap {b : Nat} : ∀ (vs : List Value) (o : Nat) (w : World) {k : Nat}, k ≠ b → (w.setCells b o vs).heap[k]? = w.heap[k]?
  | [], _, _, _, _ => rfl
  | v :: r, o, w, k, h => by
    rw [World.setCells, setCells_heap r (o + 1) _ h]
    exact Below.heap_setCell _ _ _ _ (fun e => h e)

theorem setCells_rest {b : Nat} : ∀ (vs : List Value) (o : Nat) (w : World), (w.setCells b o vs).os = w.os ∧ (w.setCells b o vs).tape = w.tape ∧ (w.setCells b o vs).output = w.output ∧ (w.setCells b o vs).heap.size = w.heap.size
  | [], _, _ => ⟨rfl, rfl, rfl, rfl⟩
  | v :: r, o, w => by
    obtain ⟨h1, h2, h3, h4⟩ := setCells_rest (b := b) r (o + 1) (w.setCell ⟨b, o, none⟩ v)
    rw [World.setCells]
    exact ⟨h1, h2, h3, by rw [h4]; simp⟩

theorem blkAt_some {id : Nat} (hl : (blkAt h id).live = true) : h[id]? = some (blkAt h id) := by
  unfold blkAt at *
  rw [List.getD_eq_getElem?_getD] at *
  cases hh : h[id]? with
  | none => rw [hh] at hl; simp [Blk.nil, Blk.live] at hl
  | some b => simp

theorem may_wr {b : Blk} (hm : b.may = true) : b.k.wr = true := by
  unfold Blk.may at hm
  cases hk : b.k <;> simp [hk] at hm <;> rfl
theorem wr_live {b : Blk} (hm : b.k.wr = true) : b.live = true := by
  unfold Blk.live
  cases hk : b.k <;> simp [hk, BK.wr] at hm ⊢
theorem live_kind {b : Blk} (hm : b.live = true) : b.k ≠ .dead := by
  unfold Blk.live at hm
  cases hk : b.k <;> simp [hk] at hm ⊢
theorem blkAt_of {id : Nat} {b : Blk} (hb : h[id]? = some b) : blkAt h id = b := by
  unfold blkAt; rw [List.getD_eq_getElem?_getD, hb]; rfl

theorem Holds.read {p : Pl} {b : Blk} (hh : Holds m w p b) {off n : Nat} (hn : off + n ≤ b.c.size) :
    ∃ vs : List Value, vs.length = n ∧ ∀ (j : Nat) (v : Value), vs[j]? = some v → (b.c.get (off + j)).val m = some v ∧ v.oneCell' = true ∧ w.cell? ⟨p.blk, p.off + off + j, none⟩ = some v := by
  induction n with
  | zero => exact ⟨[], rfl, by simp⟩
  | succ n ih =>
    obtain ⟨vs, h2, h3⟩ := ih (by omega)
    obtain ⟨v, hv1, hv2, hv3⟩ := hh.cells (off + n) (by omega)
    refine ⟨vs ++ [v], by simp [h2], fun j u hj => ?_⟩
    rcases getElem?_push hj with ⟨_, hj⟩ | ⟨rfl, rfl⟩
    · exact h3 j u hj
    · rw [h2, Nat.add_assoc]; exact ⟨hv1, hv2, hv3⟩

theorem vals_same {l : List SV} {vs : List Value} (hl : vs.length = l.length) (h : ∀ (j : Nat) (v : Value), vs[j]? = some v → (l.getD j .bad).val m = some v) : SV.vals m l = some vs :=
  vals_of_get hl fun i v u h1 h2 => by
    have := h i u h2
    rw [List.getD_eq_getElem?_getD, h1] at this
    exact this

theorem vals_one {l : List SV} {vs : List Value} (h : SV.vals m l = some vs) (h1 : l.all SV.one = true) : ∀ v ∈ vs, v.oneCell' = true := by
  intro v hv
  obtain ⟨i, hi⟩ := List.mem_iff_getElem?.1 hv
  have hlen := vals_length h
  have hil : i < l.length := by rw [← hlen]; exact (List.getElem?_eq_some_iff.1 hi).1
  obtain ⟨u, hu, hu'⟩ := vals_get h (List.getElem?_eq_getElem hil)
  rw [hi] at hu; cases hu
  exact SV.one_spec hu' (by simpa using List.all_eq_true.1 h1 l[i] (List.getElem_mem hil))

/-- Cells laid over a block's. -/
theorem Holds.laid {p : Pl} {b : Blk} (hh : Holds m w p b) (hk : b.k.wr = true) {i : Nat} {l : List SV} {vs : List Value} {c' : Cs} (hv : SV.vals m l = some vs) (h1 : ∀ v ∈ vs, v.oneCell' = true)
    (hi : i + l.length ≤ b.c.size) (hc : Laid c' b.c.size (over b.c i l)) (hn : p.nil = false) : Holds m (w.setCells p.blk (p.off + i) vs) p ⟨c', b.k⟩ := by
  have hlen := vals_length hv
  have hsome : ∀ j, j < vs.length → (w.cell? ⟨p.blk, p.off + i + j, none⟩).isSome = true := fun j hj => by
    obtain ⟨v, _, _, h3⟩ := hh.cells (i + j) (by omega)
    rw [Nat.add_assoc, h3]; rfl
  refine ⟨hc.wf, fun e => by rw [hn] at e; (cases e), fun e => by rw [(setCells_rest vs _ w).2.2.2]; exact hh.lt e, fun j hj => ?_, fun _ j hj => ?_, hh.z, fun es e => by simp only at e; rw [e] at hk; (cases hk), fun es e _ => ⟨by simp only [hc.size]; exact (hh.sp es e hn).1, fun j hj => ?_⟩⟩
  · simp only [hc.size] at hj
    have hg := hc.get j hj m
    simp only
    rw [hg, over]
    by_cases hr : i ≤ j ∧ j < i + l.length
    · rw [if_pos hr]
      have hlt : j - i < vs.length := by omega
      have hv' : (l.getD (j - i) .bad).val m = some vs[j - i] := by
        obtain ⟨u, hu, hu'⟩ := vals_get hv (i := j - i) (List.getElem?_eq_getElem (by omega))
        rw [List.getElem?_eq_getElem hlt] at hu; cases hu
        rw [getD_of_lt (by omega)]; exact hu'
      refine ⟨vs[j - i], hv', h1 _ (List.getElem_mem hlt), ?_⟩
      have := World.cell?_setCells_in p.blk vs (p.off + i) w hsome (j - i) hlt
      rw [show p.off + i + (j - i) = p.off + j by omega] at this
      exact this
    · rw [if_neg hr]
      obtain ⟨v, h2, h3, h4⟩ := hh.cells j hj
      refine ⟨v, h2, h3, ?_⟩
      rw [World.cell?_setCells_out]
      · exact h4
      · intro _ _; simp only; omega
  · rw [World.frozen?_setCells]
    simp only [hc.size] at hj
    exact hh.wr hk j hj
  · obtain ⟨h2, h3⟩ := (hh.sp es e hn).2 j hj
    rw [World.frozen?_setCells]
    refine ⟨?_, h3⟩
    have hz := hh.z hk hn
    by_cases hr : p.off + i ≤ j ∧ j < p.off + i + vs.length
    · have := World.cell?_setCells_in p.blk vs (p.off + i) w hsome (j - (p.off + i)) (by omega)
      rw [show p.off + i + (j - (p.off + i)) = j by omega] at this
      rw [this]; rfl
    · rw [World.cell?_setCells_out]
      · exact h2
      · intro _ _; simp only; omega

theorem ok_load (hτ : TOk P τ) (T : TTie G m S.t a) (H : HTie m S.h w) {o : Oper} {t : TypeId} {x : Operand} (ho : o.op = .load t x)
    (hok : (loadO std τ t (S.ev G x) S.h).ok = true) : OpOk P o a w m S.h (loadO std τ t (S.ev G x) S.h) := by
  unfold loadO at hok ⊢
  split at hok
  · rename_i i id p hi hx
    have f := hτ t i hi
    obtain ⟨q, hq, hn, he⟩ := ev_at T hx
    split at hok
    · rename_i hg
      cases hr : (blkAt S.h id).c.rds std p i.size with
      | mk ok l =>
      rw [hr] at hok
      simp only [Bool.and_eq_true] at hok
      obtain ⟨hl, rfl⟩ := hok
      have hh := H.holds id q _ hq (blkAt_some hl) (live_kind hl)
      obtain ⟨h1, h2, h3⟩ := Cs.rds_spec hh.wf _ hr
      have hle : 0 < i.size → p.cell + i.size ≤ (blkAt S.h id).c.size := h2
      have hex : ∃ vs : List Value, vs.length = i.size ∧ ∀ (j : Nat) (v : Value), vs[j]? = some v → ((blkAt S.h id).c.get (p.cell + j)).val m = some v ∧ v.oneCell' = true ∧ w.cell? ⟨q.blk, q.off + p.cell + j, none⟩ = some v := by
        rcases Nat.eq_zero_or_pos i.size with h0 | h0
        · exact ⟨[], by simp [h0], by simp⟩
        · exact hh.read (hle h0)
      obtain ⟨vs, hvl, hvs⟩ := hex
      have hld := run_loadCells_list (P := P) w ⟨q.blk, q.off + p.cell, none⟩ vs (fun j v hj => by rw [addr_add]; exact (hvs j v hj).2.2)
      rw [hvl] at hld
      have hv : SV.vals m l = some vs := vals_same (by omega) (fun j v hj => by
        have hjl : j < i.size := by rw [← hvl]; exact (List.getElem?_eq_some_iff.1 hj).1
        rw [h3 j hjl m]; exact (hvs j v hj).1)
      refine OpOk.value H (u := .agg vs.toArray) ?_ (.inr (by simp [SV.val, hv]))
      simp [execOp, ho, Instr.loadAt, Instr.sureAddr, he, loadVar, f.run_isAgg, hg, f.run_sizeOf, hld]
    · rename_i hg
      cases hr : (blkAt S.h id).c.rd std p with
      | mk ok v =>
      rw [hr] at hok
      simp only [Bool.and_eq_true] at hok
      obtain ⟨hl, rfl⟩ := hok
      have hh := H.holds id q _ hq (blkAt_some hl) (live_kind hl)
      obtain ⟨h1, h2⟩ := Cs.rd_spec rfl hh.wf hr
      obtain ⟨u, hu, _, hc⟩ := hh.cells _ h1
      have hc' : w.cell? ⟨q.blk, q.off + p.cell, none⟩ = some u := hc
      refine OpOk.value H (u := u) ?_ (.inr ((h2 m).trans hu))
      simp [execOp, ho, Instr.loadAt, Instr.sureAddr, he, loadVar, f.run_isAgg, hg, hc']
  · simp at hok

theorem ok_store (hτ : TOk P τ) (T : TTie G m S.t a) (H : HTie m S.h w) {o : Oper} {t : TypeId} {x y : Operand} (ho : o.op = .store t x y)
    (hok : (storeO std τ t (S.ev G x) (S.ev G y) S.h).ok = true) : OpOk P o a w m S.h (storeO std τ t (S.ev G x) (S.ev G y) S.h) := by
  unfold storeO at hok ⊢
  split at hok
  · rename_i i id p hi hx
    obtain ⟨q, hq, hn, he⟩ := ev_at T hx
    cases hr : (blkAt S.h id).c.st std p (S.ev G y).cells with
    | mk ok c' =>
    rw [hr] at hok
    simp only [Bool.and_eq_true] at hok
    obtain ⟨hm, h1, hl, rfl⟩ := hok
    have hk := may_wr hm
    have hb := blkAt_some (wr_live hk)
    have hh := H.holds id q _ hq hb (live_kind (wr_live hk))
    have hy : S.ev G y ≠ .bad := by
      intro e
      rw [e] at h1
      simp [SV.cells, SV.cells1, SV.one] at h1
    have hu := (St.eval_or T y).resolve_left hy
    have hv := cells_val hu h1
    have h1' := vals_one hv h1
    obtain ⟨h2, h3⟩ := Cs.st_spec rfl hh.wf hr
    have hlen := vals_length hv
    have hsz : (a.eval y).cells.size = i.size := by
      have : (S.ev G y).cells.length = i.size := by simpa using hl
      simp at hlen; omega
    have hst := run_storeCells_cells (P := P) q.blk (q.off + p.cell) (a.eval y).cells.toList 0 w (fun j hj => by
        obtain ⟨v, _, _, h5⟩ := hh.cells (p.cell + j) (by omega)
        rw [show q.off + p.cell + 0 + j = q.off + (p.cell + j) by omega, h5]; rfl)
      (fun j hj => by
        have := hh.wr hk (p.cell + j) (by omega)
        rw [show q.off + p.cell + 0 + j = q.off + (p.cell + j) by omega]; exact this) h1'
    simp only [Nat.add_zero] at hst
    have hrest := setCells_rest (b := q.blk) (a.eval y).cells.toList (q.off + p.cell) w
    refine OpOk.ofSkip (w' := w.setCells q.blk (q.off + p.cell) (a.eval y).cells.toList) (m' := m) ?_
      (Ext.upd hq hb hk hn hrest.1 hrest.2.1 hrest.2.2.1 (by rw [hrest.2.2.2]; exact Nat.le_refl _) (fun k hk => setCells_heap _ _ _ hk))
      (H.upd hq hb hk hn (fun k hk => setCells_heap _ _ _ hk) (hh.laid hk hv h1' h2 h3 hn)) rfl
    simp [execOp, ho, Instr.storeAt, Instr.sureAddr, he, storeVar, (hτ t i hi).run_sizeOf, hsz, hst]
  · simp at hok

theorem run_newVar (P : Program) (w : World) (e : TypeId) (v : Value) : (newVar e v).run P w = .ok ⟨w.heap.size, 0, none⟩ (w.alloc (.cells v.cells e)) := by
  simp [newVar, newRow]

/-- A new block of written-out cells. -/
theorem Holds.new {l : List SV} {vs : List Value} (hv : SV.vals m l = some vs) (h1 : ∀ v ∈ vs, v.oneCell' = true) (w : World) {w' : World} {e : TypeId} (more : List Value) {k : BK} (hk : ∀ es, k ≠ .full es) {cap : Nat} {fr : Nat × Nat} (hfr0 : ∀ i, i < (vs ++ more).length → ¬ (fr.1 ≤ i ∧ i < fr.2))
    (hw : w'.heap = w.heap.push (.cells (vs ++ more).toArray e fr)) (hce : ∀ es, k = .row es → l.length ≤ cap * es ∧ cap * es ≤ (vs ++ more).length) {c : Cs} (hc : Laid c l.length (fun i => l.getD i .bad)) :
    Holds m w' ⟨w.heap.size, 0, cap, false⟩ ⟨c, k⟩ := by
  have hlen := vals_length hv
  have hcell : ∀ i, w'.cell? ⟨w.heap.size, i, none⟩ = (vs ++ more)[i]? := fun i => by simp [World.cell?, hw]
  have hfr : ∀ i, i < (vs ++ more).length → w'.frozen? ⟨w.heap.size, i, none⟩ = false := fun i hi => by
    have := hfr0 i hi
    simp only [World.frozen?, hw, Array.getElem?_push_size]
    simpa using this
  refine ⟨hc.wf, fun e => absurd e (by simp), fun _ => by simp [hw], fun i hi => ?_, fun _ i hi => by simpa using hfr i (by simp only [hc.size] at hi; simp; omega), fun _ _ => rfl, fun es e => absurd e (hk es), fun es e _ => ⟨by simp only [hc.size]; exact (hce es e).1, fun i hi => ⟨?_, hfr i (Nat.lt_of_lt_of_le hi (hce es e).2)⟩⟩⟩
  · simp only [hc.size] at hi
    obtain ⟨u, hu, hu'⟩ := vals_get hv (List.getElem?_eq_getElem hi)
    refine ⟨u, ?_, h1 u (List.mem_of_getElem? hu), ?_⟩
    · simp only
      rw [hc.get i hi m, getD_of_lt hi]; exact hu'
    · simp only [Nat.zero_add, hcell]
      rw [List.getElem?_append_left (by omega)]; exact hu
  · have : i < (vs ++ more).length := Nat.lt_of_lt_of_le hi (hce es e).2
    rw [hcell, List.getElem?_eq_getElem this]; rfl

theorem laid_lit (l : List SV) : Laid (.lit l) l.length (fun i => l.getD i .bad) := ⟨trivial, rfl, fun _ _ => SV.same.refl _⟩

/-- What is known of a new block. -/
theorem opOk_push {o : Oper} {a : Act} {w' : World} {v : SV} {u : Value} {p : Pl} {b : Blk} {ok : Bool} (H : HTie m h w)
    (hr : (execOp a.eval o).run P w = .ok (.value u) w') (ho : w'.os = w.os) (ht : w'.tape = w.tape) (hu : w'.output = w.output) (hz : w.heap.size ≤ w'.heap.size) (hs : ∀ k, k < w.heap.size → w'.heap[k]? = w.heap[k]?)
    (hp : p.nil = false → w.heap.size ≤ p.blk) (hh : Holds (m ++ [p]) w' p b) (hv : v.val (m ++ [p]) = some u) : OpOk P o a w m h ⟨ok, v, h ++ [b]⟩ :=
  OpOk.ofRun hr (Ext.push H ho ht hu hz hs (fun hn => .inl (hp hn))) (H.push hs (fun _ => hh) (fun _ hn => hp hn)) (.inr hv)

theorem get_push (m : List Pl) (p : Pl) : (m ++ [p])[m.length]? = some p := by simp

theorem opOk_new {o : Oper} {a : Act} {l : List SV} {vs : List Value} {e : TypeId} (H : HTie m h w) (hl : SV.vals m l = some vs) (hok : (newO l h).ok = true)
    (hr : (execOp a.eval o).run P w = .ok (.value (.pointer (some ⟨w.heap.size, 0, none⟩))) (w.alloc (.cells vs.toArray e))) : OpOk P o a w m h (newO l h) := by
  have hv' := SV.vals_mono (List.prefix_append m [⟨w.heap.size, 0, 0, false⟩]) l hl
  refine opOk_push (p := ⟨w.heap.size, 0, 0, false⟩) H hr rfl rfl rfl (by simp) (fun k hk => Below.heap_alloc _ _ _ hk) (fun _ => Nat.le_refl _)
    (Holds.new (l := l) hv' (vals_one hl hok) w (w' := w.alloc (.cells vs.toArray e)) (e := e) [] (fun _ => by simp) (fr := (0, 0)) (fun i _ => by simp) (by simp only [List.append_nil]; rfl) (fun es e => absurd e (by simp)) (laid_lit l)) ?_
  simp only [SV.val]
  rw [← H.len, get_push]
  simp [Pl.ptr]

theorem ok_alloc (hτ : TOk P τ) (H : HTie m S.h w) {o : Oper} {t : TypeId} {i : TI} (ho : o.op = .alloc t) (hi : τ t = some i) (hok : (newO i.zero.cells S.h).ok = true) : OpOk P o a w m S.h (newO i.zero.cells S.h) := by
  obtain ⟨z, hz, hv⟩ := (hτ t i hi).run_zero w
  have hone : i.zero.cells.all SV.one = true := by obtain ⟨_, _, _, _, _, _, _, h, _⟩ := (hτ t i hi).info; exact h
  refine opOk_new (vs := z.cells.toList) (e := t) H (cells_val (vals_nil_of hv m) hone) hok ?_
  simp [execOp, ho, Instr.alloc, hz, run_newVar]

theorem ok_box (T : TTie G m S.t a) (H : HTie m S.h w) {o : Oper} {t : TypeId} {x : Operand} (ho : o.op = .box t x) (hok : (newO (S.ev G x).cells S.h).ok = true) : OpOk P o a w m S.h (newO (S.ev G x).cells S.h) := by
  have h1 : (S.ev G x).cells.all SV.one = true := hok
  have hx : S.ev G x ≠ .bad := by
    intro e; rw [e] at h1; simp [SV.cells, SV.cells1, SV.one] at h1
  refine opOk_new (vs := (a.eval x).cells.toList) (e := t) H (cells_val ((St.eval_or T x).resolve_left hx) h1) hok ?_
  simp [execOp, ho, Instr.box, run_newVar]

end mem

section mem2
variable {P : Program} {τ : Types} {m : List Pl} {h : List Blk} {w : World} {S : St} {a : Act}

theorem elemT_spec (hτ : TOk P τ) {t : TypeId} {i : TI} (h : elemT τ t = some i) : ∃ e, P.underlying t = some (.slice e) ∧ TFact P e i := by
  unfold elemT at h
  split at h
  · rename_i e _ _ _ hi
    obtain ⟨d, hd, hfit⟩ := (hτ t _ hi).desc
    cases d <;> simp [TD.fits] at hfit
    subst hfit
    exact ⟨e, hd, hτ e i h⟩
  · cases h

theorem Cs.nm_n (c : Cs) (n : Nm) : (c.nm n).n = n.n := by cases c <;> rfl

/-- A slice that is read. -/
theorem read_slice (T : TTie G m S.t a) (H : HTie m S.h w) {x : Operand} {id off : Nat} {len : Nm} (hx : sliceOf (S.ev G x) = some (id, off, len)) (hl : (blkAt S.h id).live = true) {es : Nat} {c' : Cs} {n : Nm} (hn : n.n = len.n)
    (hs : (blkAt S.h id).c.sub std off es ⟨true, 0⟩ n = (true, c')) :
    ∃ p, m[id]? = some p ∧ ∃ vs : List Value, vs.length = len.n * es ∧ (∀ (j : Nat) (v : Value), vs[j]? = some v → (c'.get j).val m = some v ∧ v.oneCell' = true) ∧ Laid c' (len.n * es) (fun i => (blkAt S.h id).c.get (off + i)) ∧
      ((p.nil = false ∧ (∃ cap, a.eval x = .slice (some ⟨p.blk, p.off + off, none⟩) len.n cap) ∧ off + len.n * es ≤ (blkAt S.h id).c.size ∧ ∀ (j : Nat) (v : Value), vs[j]? = some v → w.cell? ⟨p.blk, p.off + off + j, none⟩ = some v) ∨ (p.nil = true ∧ a.eval x = .slice none 0 0 ∧ len.n = 0 ∧ vs = [])) := by
  have hval : ∃ p, m[id]? = some p ∧ ((p.nil = false ∧ ∃ cap, a.eval x = .slice (some ⟨p.blk, p.off + off, none⟩) len.n cap) ∨ (p.nil = true ∧ len.n = 0 ∧ a.eval x = .slice none 0 0)) := by
    cases he : S.ev G x <;> rw [he] at hx <;> simp only [sliceOf, Option.some.injEq, Prod.mk.injEq] at hx <;> try (cases hx; done)
    · obtain ⟨rfl, rfl, rfl⟩ := hx
      obtain ⟨p, hp, hn, hlc, e⟩ := ev_slice T he
      exact ⟨p, hp, .inl ⟨hn, _, e⟩⟩
    · obtain ⟨rfl, rfl, rfl⟩ := hx
      obtain ⟨p, hp, e⟩ := ev_row T he
      rcases e with ⟨hn, _, e⟩ | ⟨hn, h0, e⟩
      · exact ⟨p, hp, .inl ⟨hn, _, e⟩⟩
      · exact ⟨p, hp, .inr ⟨hn, h0, e⟩⟩
  obtain ⟨p, hp, hval⟩ := hval
  have hh := H.holds id p _ hp (blkAt_some hl) (live_kind hl)
  obtain ⟨h1, h2⟩ := Cs.sub_spec hh.wf hs
  simp only [Nat.zero_add, Nat.zero_mul, Nat.add_zero, hn] at h1 h2
  obtain ⟨vs, h3, h4⟩ := hh.read (off := off) (n := len.n * es) h1
  refine ⟨p, hp, vs, h3, fun j v hj => ?_, h2, ?_⟩
  · have hjl : j < len.n * es := by rw [← h3]; exact (List.getElem?_eq_some_iff.1 hj).1
    rw [h2.get j hjl m]
    exact ⟨(h4 j v hj).1, (h4 j v hj).2.1⟩
  · rcases hval with ⟨hn', cap, e⟩ | ⟨hn', h0, e⟩
    · exact .inl ⟨hn', ⟨cap, e⟩, h1, fun j v hj => (h4 j v hj).2.2⟩
    · exact .inr ⟨hn', e, h0, List.eq_nil_of_length_eq_zero (by rw [h3, h0, Nat.zero_mul])⟩

theorem ints_vals {k : IntKind} {l : List Int} {vs : List Value} (hl : vs.length = l.length) (h : ∀ (j : Nat) (v : Value), vs[j]? = some v → ((Cs.ints k l).get j).val m = some v) : vs = l.map (Value.int k) := by
  apply List.ext_getElem?
  intro j
  rcases Nat.lt_or_ge j vs.length with hj | hj
  · have := h j vs[j] (List.getElem?_eq_getElem hj)
    have e := (v_int this).2
    rw [List.getElem?_eq_getElem hj, e, List.getElem?_map, List.getElem?_eq_getElem (by omega)]
    simp only [Option.map_some]
    rw [getD_of_lt (by omega)]
  · rw [List.getElem?_eq_none hj, List.getElem?_eq_none (by simp; omega)]

theorem byts_cells (s : ByteArray) : byteCells s = (byts s).map (Value.int .u8) := by
  simp [byteCells, byts]

theorem byts_length (s : ByteArray) : (byts s).length = s.size := by
  unfold byts; rw [List.length_map, Array.length_toList]; rfl

theorem byts_in (s : ByteArray) : ∀ x ∈ byts s, IntKind.u8.wrap x = x := by
  intro x hx
  obtain ⟨b, _, rfl⟩ := List.mem_map.1 hx
  have := b.toNat_lt
  exact IntWalk.u8_in _ (by omega)

theorem ints_in {k : IntKind} {l : List Int} (h : ∀ x ∈ l, k.wrap x = x) : ∀ (j : Nat) (v : Value), (l.map (Value.int k))[j]? = some v → ((Cs.ints k l).get j).val m = some v := by
  intro j v hv
  rw [List.getElem?_map] at hv
  simp only [Option.map_eq_some_iff] at hv
  obtain ⟨x, hx, rfl⟩ := hv
  have : l.getD j 0 = x := by rw [List.getD_eq_getElem?_getD, hx]; rfl
  simp only [Cs.get, this]
  exact val_int_of (h x (List.mem_of_getElem? hx))

theorem laid_ints {k : IntKind} {l : List Int} : Laid (.ints k l) (l.map (SV.int k)).length (fun i => (l.map (SV.int k)).getD i .bad) :=
  ⟨trivial, by simp [Cs.size], fun i hi => by
    simp at hi
    simp only [Cs.get]
    rw [getD_of_lt hi, getD_of_lt (by simpa using hi)]; simp; exact SV.same.refl _⟩

theorem vals_ints {k : IntKind} {l : List Int} (h : ∀ x ∈ l, k.wrap x = x) : SV.vals m (l.map (SV.int k)) = some (l.map (Value.int k)) :=
  vals_same (by simp) (fun j v hj => by
    have := ints_in (m := m) h j v hj
    have hl : j < l.length := by have := (List.getElem?_eq_some_iff.1 hj).1; simpa using this
    rw [getD_of_lt (by simpa using hl)]
    simp only [Cs.get, getD_of_lt hl] at this
    simpa using this)

theorem byteT_spec (hτ : TOk P τ) {e : TypeId} (h : byteT τ e = true) : P.underlying e = some (.int .u8) ∧ ∃ i, TFact P e i ∧ i.size = 1 := by
  unfold byteT at h
  split at h
  · rename_i s _ _ hi
    obtain ⟨d, hd, hfit⟩ := (hτ e _ hi).desc
    cases d <;> simp [TD.fits] at hfit
    subst hfit
    exact ⟨hd, _, hτ e _ hi, by simpa using h⟩
  · cases h

theorem freeze_push (w : World) (c : Array Value) (e : TypeId) (n : Nat) : ((w.alloc (.cells c e)).freeze ⟨w.heap.size, n, none⟩ 1).heap = w.heap.push (.cells c e (n, n + 1)) := by
  unfold World.freeze
  rw [if_neg (by decide)]
  have h0 : (w.alloc (.cells c e)).heap = w.heap.push (.cells c e) := rfl
  simp only [h0]
  apply Array.ext_getElem?
  intro i
  rw [Array.getElem?_modify, Array.getElem?_push, Array.getElem?_push]
  by_cases h : i = w.heap.size
  · subst h; simp
  · rw [if_neg (fun e => h e.symm), if_neg h, if_neg h]

theorem freeze_heap (w : World) (a : Addr) (n : Nat) {k : Nat} (h : k ≠ a.block) : (w.freeze a n).heap[k]? = w.heap[k]? := by
  unfold World.freeze
  split
  · rfl
  · simp only [Array.getElem?_modify]
    rw [if_neg (fun e => h e.symm)]

theorem ok_conv (hτ : TOk P τ) (T : TTie G m S.t a) (H : HTie m S.h w) {o : Oper} {src dst : TypeId} {x : Operand} (ho : o.op = .convert src dst x)
    (hok : (convO std τ src dst (S.ev G x) S.h).ok = true) : OpOk P o a w m S.h (convO std τ src dst (S.ev G x) S.h) := by
  unfold convO at hok ⊢
  split at hok
  · rename_i i k _ _ _ hsrc hi
    obtain ⟨ds, hds, _⟩ := (hτ src _ hsrc).desc
    obtain ⟨d, hd, hfit⟩ := (hτ dst _ hi).desc
    cases d <;> simp [TD.fits] at hfit
    subst hfit
    split at hok
    · rename_i k' n hx
      refine OpOk.value H (u := .int k (k.wrap n)) ?_ (.inr (val_num_of (wrap_wrap k n)))
      simp [execOp, ho, convert, run_underlying hds, run_underlying hd, ev_num T hx, Conv.intToInt]
    · rename_i k' n hx
      refine OpOk.value H (u := .int k (k.wrap n)) ?_ (.inr (val_int_of (wrap_wrap k n)))
      simp [execOp, ho, convert, run_underlying hds, run_underlying hd, ev_int T hx, Conv.intToInt]
    · simp at hok
  · rename_i hsrc hi
    obtain ⟨ds, hds, hfs⟩ := (hτ src _ hsrc).desc
    cases ds <;> simp [TD.fits] at hfs
    obtain ⟨d, hd, hfit⟩ := (hτ dst _ hi).desc
    cases d <;> simp [TD.fits] at hfit
    split at hok
    · rename_i s hx
      refine OpOk.value H (u := .string s) ?_ (.inr rfl)
      simp [execOp, ho, convert, run_underlying hds, run_underlying hd, ev_str T hx]
    · simp at hok
  · rename_i e _ _ _ hsrc hi
    obtain ⟨ds, hds, hfs⟩ := (hτ src _ hsrc).desc
    cases ds <;> simp [TD.fits] at hfs
    obtain ⟨d, hd, hfit⟩ := (hτ dst _ hi).desc
    cases d <;> simp [TD.fits] at hfit
    subst hfit
    split at hok
    · rename_i s hx
      obtain ⟨hu, _⟩ := byteT_spec hτ hok
      obtain ⟨cap, hcap⟩ : ∃ cap, cap = (Question.appendCap s.size 0 e).cut (w.tape w.drawn (.appendCap s.size 0 e)) := ⟨_, rfl⟩
      have hge : s.size ≤ cap := by rw [hcap]; simp [Question.cut]
      have hcells : (s.data.map fun b => Value.int .u8 b.toNat) ++ Array.replicate (cap - s.size) (Value.int .u8 0) = ((byts s).map (Value.int .u8) ++ List.replicate (cap - s.size) (Value.int .u8 0)).toArray := by
        apply Array.ext'
        simp [byts]
      have hlen : ((byts s).map (Value.int .u8) ++ List.replicate (cap - s.size) (Value.int .u8 0)).length = cap := by
        rw [List.length_append, List.length_map, byts_length, List.length_replicate]; omega
      have hrun : (execOp a.eval o).run P w = .ok (.value (.slice (some ⟨w.heap.size, 0, none⟩) s.size cap)) ((w.drew.alloc (.cells ((byts s).map (Value.int .u8) ++ List.replicate (cap - s.size) (Value.int .u8 0)).toArray e)).freeze ⟨w.heap.size, cap, none⟩ 1) := by
        rw [← hcells]
        have hsz : ((s.data.map fun b => Value.int .u8 b.toNat) ++ Array.replicate (cap - s.size) (Value.int .u8 0)).size = cap := by rw [hcells]; simpa using hlen
        simp [execOp, ho, convert, run_underlying hds, run_underlying hd, run_underlying hu, ev_str T hx, Conv.stringToBytes, Question.forced, newRow, markStringish, ← hcap]
        have hsh : (w.drew.alloc (.cells ((s.data.map fun b => Value.int .u8 b.toNat) ++ Array.replicate (cap - s.size) (Value.int .u8 0)) e)).shape? w.heap.size = some (e, cap) := by
          unfold World.shape?
          have h0 : (w.drew.alloc (.cells ((s.data.map fun b => Value.int .u8 b.toNat) ++ Array.replicate (cap - s.size) (Value.int .u8 0)) e)).heap = w.heap.push (.cells ((s.data.map fun b => Value.int .u8 b.toNat) ++ Array.replicate (cap - s.size) (Value.int .u8 0)) e) := rfl
          rw [h0, Array.getElem?_push_size]
          simp only [hsz]
        rw [hsh]
        rfl
      have hheap := freeze_push w.drew ((byts s).map (Value.int .u8) ++ List.replicate (cap - s.size) (Value.int .u8 0)).toArray e cap
      refine opOk_push (p := ⟨w.heap.size, 0, cap, false⟩) H hrun ?_ ?_ ?_ ?_ (fun k hk => ?_) (fun _ => Nat.le_refl _)
        (Holds.new (l := (byts s).map (SV.int .u8)) (vals_ints (byts_in s)) (by
            intro v hv
            obtain ⟨_, _, rfl⟩ := List.mem_map.1 hv; rfl) w (List.replicate (cap - s.size) (Value.int .u8 0)) (by simp) (fr := (cap, cap + 1)) (fun i hi => by rw [hlen] at hi; simp; omega) hheap
          (fun es he => by
            simp only [BK.row.injEq] at he
            subst he
            rw [hlen]; simp [byts_length]; omega) laid_ints) ?_
      · unfold World.freeze; rw [if_neg (by decide)]; rfl
      · unfold World.freeze; rw [if_neg (by decide)]; rfl
      · unfold World.freeze; rw [if_neg (by decide)]; rfl
      · have : w.drew.heap = w.heap := rfl
        rw [show w.heap.size = w.drew.heap.size from rfl, hheap]; simp
      · rw [show w.heap.size = w.drew.heap.size from rfl, hheap, Array.getElem?_push]
        rw [if_neg (by have : w.drew.heap.size = w.heap.size := rfl; omega)]; rfl
      · simp only [SV.val]
        rw [← H.len, get_push]
        simp [Pl.row, std, hge]
    · simp at hok
  · rename_i e _ _ _ _ _ _ hsrc hi
    obtain ⟨ds, hds, hfs⟩ := (hτ src _ hsrc).desc
    cases ds <;> simp [TD.fits] at hfs
    subst hfs
    obtain ⟨d, hd, hfit⟩ := (hτ dst _ hi).desc
    cases d <;> simp [TD.fits] at hfit
    split at hok
    · rename_i hx
      obtain ⟨hu, _⟩ := byteT_spec hτ hok
      refine OpOk.value H (u := .string .empty) ?_ (.inr rfl)
      simp [execOp, ho, convert, run_underlying hds, run_underlying hd, run_underlying hu, ev_nils T hx, Conv.bytesToString]
    · split at hok
      · simp at hok
      · rename_i id off len hsl
        split at hok
        · rename_i ok s hst
          simp only [Bool.and_eq_true] at hok
          obtain ⟨hb, rfl, hl⟩ := hok
          obtain ⟨hu, _⟩ := byteT_spec hτ hb
          have hex : ∃ c' l, (blkAt S.h id).c.sub std off 1 ⟨true, 0⟩ ((blkAt S.h id).c.nm len) = (true, c') ∧ s = mkb l ∧ l.length = c'.size ∧ ∀ j, j < c'.size → ((Cs.ints .u8 l).get j).same (c'.get j) := by
            cases hr : (blkAt S.h id).c.sub std off 1 ⟨true, 0⟩ ((blkAt S.h id).c.nm len) with
            | mk ok c' =>
            rw [hr] at hst
            unfold strO at hst
            split at hst
            · rename_i k l hkl
              simp only [Prod.mk.injEq] at hkl
              obtain ⟨rfl, rfl⟩ := hkl
              simp only [Option.some.injEq, Prod.mk.injEq, Bool.and_eq_true] at hst
              obtain ⟨⟨rfl, hk⟩, rfl⟩ := hst
              have := kn_eq hk
              subst this
              exact ⟨_, l, rfl, rfl, rfl, fun j _ => SV.same.refl _⟩
            · rename_i ok' l hkl
              simp only [Prod.mk.injEq] at hkl
              obtain ⟨rfl, rfl⟩ := hkl
              split at hst
              · rename_i xs hxs
                simp only [Option.some.injEq, Prod.mk.injEq] at hst
                obtain ⟨rfl, rfl⟩ := hst
                obtain ⟨h1, h2⟩ := asInts_spec hxs
                exact ⟨_, xs, rfl, rfl, h1, h2⟩
              · cases hst
            · cases hst
          obtain ⟨c', l, hsub, rfl, hll, hg⟩ := hex
          obtain ⟨p, hp, vs, h1, h2, h3, h4⟩ := read_slice T H hsl hl (Cs.nm_n _ _) hsub
          have hvs : vs = l.map (Value.int .u8) := ints_vals (m := m) (by rw [hll, h3.size, h1]) (fun j v hj => by
            have hjl : j < c'.size := by rw [h3.size, ← h1]; exact (List.getElem?_eq_some_iff.1 hj).1
            rw [hg j hjl m]; exact (h2 j v hj).1)
          refine OpOk.value H (u := .string (mkb l)) ?_ (.inr rfl)
          rcases h4 with ⟨hn, ⟨cap, he⟩, _, hc⟩ | ⟨hn, he, h0, hnil⟩
          · have hld := run_loadCells_list (P := P) w ⟨p.blk, p.off + off, none⟩ vs (fun j v hj => by rw [addr_add]; exact hc j v hj)
            rw [h1, Nat.mul_one, hvs] at hld
            have hbs := run_bytesToString (P := P) w ⟨p.blk, p.off + off, none⟩ len.n cap l hld
            simp [execOp, ho, convert, run_underlying hds, run_underlying hd, run_underlying hu, he, hbs, mkb]
          · rw [hnil] at hvs
            have : l = [] := by cases l with
              | nil => rfl
              | cons _ _ => simp at hvs
            subst this
            simp [execOp, ho, convert, run_underlying hds, run_underlying hd, run_underlying hu, he, Conv.bytesToString, mkb]
        · simp at hok
  · simp at hok

end mem2
end Go.Eng
