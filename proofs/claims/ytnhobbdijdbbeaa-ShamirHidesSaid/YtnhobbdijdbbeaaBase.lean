/- The types of the program that the walks meet, and the setting of a walk. It has no conditions. -/
import Derived.Test.YtnhobbdijdbbeaaProg
import Derived.Test.YtnhobbdijdbbeaaEngC
namespace Go.Proofs.Ytnhobbdijdbbeaa
open Go.Eng Go.RowKit

def tys : List (TypeId × TI) := [
  (2, ⟨.int .i64, 1, 8, .num .i64 0⟩),
  (3, ⟨.int .i64, 1, 8, .num .i64 0⟩),
  (4, ⟨.bool, 1, 1, .bool false⟩),
  (5, ⟨.int .u8, 1, 1, .num .u8 0⟩),
  (6, ⟨.int .u8, 1, 1, .num .u8 0⟩),
  (7, ⟨.strct [(0, 2), (1, 3), (2, 4), (3, 6)], 4, 24, .agg [.num .i64 0, .num .i64 0, .bool false, .num .u8 0]⟩),
  (8, ⟨.strct [(0, 2), (1, 3), (2, 4), (3, 6)], 4, 24, .agg [.num .i64 0, .num .i64 0, .bool false, .num .u8 0]⟩),
  (9, ⟨.str, 1, 16, .str ByteArray.empty⟩),
  (10, ⟨.str, 1, 16, .str ByteArray.empty⟩),
  (11, ⟨.str, 1, 16, .str ByteArray.empty⟩),
  (12, ⟨.int .u64, 1, 8, .num .u64 0⟩),
  (13, ⟨.strct [(0, 9), (1, 12)], 2, 24, .agg [.str ByteArray.empty, .num .u64 0]⟩),
  (14, ⟨.strct [(0, 9), (1, 12)], 2, 24, .agg [.str ByteArray.empty, .num .u64 0]⟩),
  (15, ⟨.ptr 122, 1, 8, .nilp⟩),
  (16, ⟨.ptr 125, 1, 8, .nilp⟩),
  (17, ⟨.ptr 135, 1, 8, .nilp⟩),
  (18, ⟨.strct [(0, 17)], 1, 8, .agg [.nilp]⟩),
  (19, ⟨.strct [(0, 17)], 1, 8, .agg [.nilp]⟩),
  (21, ⟨.int .i32, 1, 4, .num .i32 0⟩),
  (22, ⟨.slice 26, 1, 24, .nils⟩),
  (24, ⟨.int .u64, 1, 8, .num .u64 0⟩),
  (25, ⟨.arr 4 24, 4, 32, .agg [.num .u64 0, .num .u64 0, .num .u64 0, .num .u64 0]⟩),
  (26, ⟨.arr 4 24, 4, 32, .agg [.num .u64 0, .num .u64 0, .num .u64 0, .num .u64 0]⟩),
  (29, ⟨.slice 47, 1, 24, .nils⟩),
  (32, ⟨.slice 3, 1, 24, .nils⟩),
  (33, ⟨.int .i64, 1, 8, .num .i64 0⟩),
  (46, ⟨.strct [(0, 3), (1, 26)], 5, 40, .agg [.num .i64 0, .num .u64 0, .num .u64 0, .num .u64 0, .num .u64 0]⟩),
  (47, ⟨.strct [(0, 3), (1, 26)], 5, 40, .agg [.num .i64 0, .num .u64 0, .num .u64 0, .num .u64 0, .num .u64 0]⟩),
  (53, ⟨.ptr 82, 1, 8, .nilp⟩),
  (57, ⟨.slice 66, 1, 24, .nils⟩),
  (60, ⟨.slice 62, 1, 24, .nils⟩),
  (61, ⟨.strct [(0, 3), (1, 3), (2, 3), (3, 3)], 4, 32, .agg [.num .i64 0, .num .i64 0, .num .i64 0, .num .i64 0]⟩),
  (62, ⟨.strct [(0, 3), (1, 3), (2, 3), (3, 3)], 4, 32, .agg [.num .i64 0, .num .i64 0, .num .i64 0, .num .i64 0]⟩),
  (65, ⟨.strct [(0, 3), (1, 3)], 2, 16, .agg [.num .i64 0, .num .i64 0]⟩),
  (66, ⟨.strct [(0, 3), (1, 3)], 2, 16, .agg [.num .i64 0, .num .i64 0]⟩),
  (80, ⟨.slice 85, 1, 24, .nils⟩),
  (81, ⟨.strct [(0, 3), (1, 3), (2, 3), (3, 80)], 4, 48, .agg [.num .i64 0, .num .i64 0, .num .i64 0, .nils]⟩),
  (82, ⟨.strct [(0, 3), (1, 3), (2, 3), (3, 80)], 4, 48, .agg [.num .i64 0, .num .i64 0, .num .i64 0, .nils]⟩),
  (85, ⟨.ptr 90, 1, 8, .nilp⟩),
  (86, ⟨.strct [(0, 3), (1, 3), (2, 4)], 3, 24, .agg [.num .i64 0, .num .i64 0, .bool false]⟩),
  (87, ⟨.strct [(0, 3), (1, 3), (2, 4)], 3, 24, .agg [.num .i64 0, .num .i64 0, .bool false]⟩),
  (88, ⟨.arr 8 87, 24, 192, .agg [.num .i64 0, .num .i64 0, .bool false, .num .i64 0, .num .i64 0, .bool false, .num .i64 0, .num .i64 0, .bool false, .num .i64 0, .num .i64 0, .bool false, .num .i64 0, .num .i64 0, .bool false, .num .i64 0, .num .i64 0, .bool false, .num .i64 0, .num .i64 0, .bool false, .num .i64 0, .num .i64 0, .bool false]⟩),
  (89, ⟨.strct [(0, 3), (1, 88)], 25, 200, .agg [.num .i64 0, .num .i64 0, .num .i64 0, .bool false, .num .i64 0, .num .i64 0, .bool false, .num .i64 0, .num .i64 0, .bool false, .num .i64 0, .num .i64 0, .bool false, .num .i64 0, .num .i64 0, .bool false, .num .i64 0, .num .i64 0, .bool false, .num .i64 0, .num .i64 0, .bool false, .num .i64 0, .num .i64 0, .bool false]⟩),
  (90, ⟨.strct [(0, 3), (1, 88)], 25, 200, .agg [.num .i64 0, .num .i64 0, .num .i64 0, .bool false, .num .i64 0, .num .i64 0, .bool false, .num .i64 0, .num .i64 0, .bool false, .num .i64 0, .num .i64 0, .bool false, .num .i64 0, .num .i64 0, .bool false, .num .i64 0, .num .i64 0, .bool false, .num .i64 0, .num .i64 0, .bool false, .num .i64 0, .num .i64 0, .bool false]⟩),
  (93, ⟨.ptr 87, 1, 8, .nilp⟩),
  (96, ⟨.strct [(0, 26), (4, 24), (5, 26)], 9, 72, .agg [.num .u64 0, .num .u64 0, .num .u64 0, .num .u64 0, .num .u64 0, .num .u64 0, .num .u64 0, .num .u64 0, .num .u64 0]⟩),
  (97, ⟨.strct [(0, 26), (4, 24), (5, 26)], 9, 72, .agg [.num .u64 0, .num .u64 0, .num .u64 0, .num .u64 0, .num .u64 0, .num .u64 0, .num .u64 0, .num .u64 0, .num .u64 0]⟩),
  (107, ⟨.arr 6 24, 6, 48, .agg [.num .u64 0, .num .u64 0, .num .u64 0, .num .u64 0, .num .u64 0, .num .u64 0]⟩),
  (109, ⟨.slice 24, 1, 24, .nils⟩),
  (110, ⟨.arr 16 24, 16, 128, .agg [.num .u64 0, .num .u64 0, .num .u64 0, .num .u64 0, .num .u64 0, .num .u64 0, .num .u64 0, .num .u64 0, .num .u64 0, .num .u64 0, .num .u64 0, .num .u64 0, .num .u64 0, .num .u64 0, .num .u64 0, .num .u64 0]⟩),
  (112, ⟨.int .u64, 1, 8, .num .u64 0⟩),
  (117, ⟨.arr 8 24, 8, 64, .agg [.num .u64 0, .num .u64 0, .num .u64 0, .num .u64 0, .num .u64 0, .num .u64 0, .num .u64 0, .num .u64 0]⟩),
  (121, ⟨.strct [(0, 17), (1, 17), (2, 17), (3, 9)], 4, 40, .agg [.nilp, .nilp, .nilp, .str ByteArray.empty]⟩),
  (122, ⟨.strct [(0, 17), (1, 17), (2, 17), (3, 9)], 4, 40, .agg [.nilp, .nilp, .nilp, .str ByteArray.empty]⟩),
  (123, ⟨.arr 0 16, 0, 0, .agg []⟩),
  (124, ⟨.strct [(0, 123)], 0, 0, .agg []⟩),
  (125, ⟨.strct [(0, 123)], 0, 0, .agg []⟩),
  (127, ⟨.int .u32, 1, 4, .num .u32 0⟩),
  (128, ⟨.int .u8, 1, 1, .num .u8 0⟩),
  (129, ⟨.int .u8, 1, 1, .num .u8 0⟩),
  (131, ⟨.ptr 5, 1, 8, .nilp⟩),
  (132, ⟨.int .i32, 1, 4, .num .i32 0⟩),
  (133, ⟨.int .i32, 1, 4, .num .i32 0⟩)]

def eqts : List (TypeId × List CK) := [
  (25, [.int .u64, .int .u64, .int .u64, .int .u64]),
  (26, [.int .u64, .int .u64, .int .u64, .int .u64]),
  (47, [.int .i64, .int .u64, .int .u64, .int .u64, .int .u64]),
  (62, [.int .i64, .int .i64, .int .i64, .int .i64]),
  (66, [.int .i64, .int .i64]),
  (87, [.int .i64, .int .i64, .bool]),
  (88, [.int .i64, .int .i64, .bool, .int .i64, .int .i64, .bool, .int .i64, .int .i64, .bool, .int .i64, .int .i64, .bool, .int .i64, .int .i64, .bool, .int .i64, .int .i64, .bool, .int .i64, .int .i64, .bool, .int .i64, .int .i64, .bool]),
  (90, [.int .i64, .int .i64, .int .i64, .bool, .int .i64, .int .i64, .bool, .int .i64, .int .i64, .bool, .int .i64, .int .i64, .bool, .int .i64, .int .i64, .bool, .int .i64, .int .i64, .bool, .int .i64, .int .i64, .bool, .int .i64, .int .i64, .bool]),
  (97, [.int .u64, .int .u64, .int .u64, .int .u64, .int .u64, .int .u64, .int .u64, .int .u64, .int .u64]),
  (107, [.int .u64, .int .u64, .int .u64, .int .u64, .int .u64, .int .u64]),
  (110, [.int .u64, .int .u64, .int .u64, .int .u64, .int .u64, .int .u64, .int .u64, .int .u64, .int .u64, .int .u64, .int .u64, .int .u64, .int .u64, .int .u64, .int .u64, .int .u64]),
  (117, [.int .u64, .int .u64, .int .u64, .int .u64, .int .u64, .int .u64, .int .u64, .int .u64])]

theorem tys_ok : TOk Try.prog (tyl tys) := tyl_ok (by kernel_rfl)
theorem eqts_ok : EOk Try.prog (eql eqts) := eql_ok (by kernel_rfl)

def dyl : List (Nat × List (Nat × Nat)) → Nat → List (Nat × Nat)
  | [], _ => []
  | (k, p) :: r, i => match Nat.beq k i with
    | true => p
    | false => dyl r i

def dy0 : Nat → List (Nat × Nat) := fun _ => []
def noJ : SCP := fun _ _ _ => False

abbrev Pure := List (FuncId × (List SV → Bool × SV))
abbrev Heap := List (FuncId × HF)

def cxhq (A : Ar) (L : LP) (K : SCP) (l : Pure) (d : Heap) (gl : List Nat) (q : List Nat) (dy : Nat → List (Nat × Nat)) : Cx := ⟨A, tyl tys, gam l, dlt d, eql eqts, L, K, dy, gl, q, fun _ => .nil⟩
def cxh (A : Ar) (L : LP) (K : SCP) (l : Pure) (d : Heap) (gl : List Nat) (dy : Nat → List (Nat × Nat)) : Cx := ⟨A, tyl tys, gam l, dlt d, eql eqts, L, K, dy, gl, [], fun _ => .nil⟩
def cx (A : Ar) (L : LP) (l : Pure) (dy : Nat → List (Nat × Nat) := dy0) : Cx := cxh A L noJ l [] [] dy

/-- The plans of regions. -/
def pll : List (Nat × PT) → Nat → PT
  | [], _ => .nil
  | (k, p) :: r, i => match Nat.beq k i with
    | true => p
    | false => pll r i
def cxhp (A : Ar) (L : LP) (K : SCP) (l : Pure) (d : Heap) (gl : List Nat) (q : List Nat) (dy : Nat → List (Nat × Nat)) (pl : Nat → PT) : Cx := ⟨A, tyl tys, gam l, dlt d, eql eqts, L, K, dy, gl, q, pl⟩

theorem good0 {A : Ar} {L : LP} {K : SCP} {l : Pure} {d : Heap} {gl : List Nat} {dy : Nat → List (Nat × Nat)} (hA : A = std) (h : ∀ p ∈ l, Con Try.prog p.1 p.2) (h' : ∀ p ∈ d, HCon Try.prog gl p.1 p.2) : Good0 Try.prog (cxh A L K l d gl dy) :=
  ⟨hA, tys_ok, gam_ok h, dlt_ok h', eqts_ok, by kernel_rfl⟩

theorem good0q {A : Ar} {L : LP} {K : SCP} {l : Pure} {d : Heap} {gl q : List Nat} {dy : Nat → List (Nat × Nat)} (hA : A = std) (h : ∀ p ∈ l, Con Try.prog p.1 p.2) (h' : ∀ p ∈ d, HCon Try.prog gl p.1 p.2) : Good0 Try.prog (cxhq A L K l d gl q dy) :=
  ⟨hA, tys_ok, gam_ok h, dlt_ok h', eqts_ok, by kernel_rfl⟩

theorem good0p {A : Ar} {L : LP} {K : SCP} {l : Pure} {d : Heap} {gl q : List Nat} {dy : Nat → List (Nat × Nat)} {pl : Nat → PT} (hA : A = std) (h : ∀ p ∈ l, Con Try.prog p.1 p.2) (h' : ∀ p ∈ d, HCon Try.prog gl p.1 p.2) : Good0 Try.prog (cxhp A L K l d gl q dy pl) :=
  ⟨hA, tys_ok, gam_ok h, dlt_ok h', eqts_ok, by kernel_rfl⟩

theorem goodd {l : Pure} (dy : Nat → List (Nat × Nat)) (h : ∀ p ∈ l, Con Try.prog p.1 p.2) : Eng.Good Try.prog (cx std (ALoop 0) l dy) 0 :=
  ⟨good0 rfl h (by simp), rfl, .inr rfl, by exact Nat.zero_le _⟩

theorem good {l : Pure} (h : ∀ p ∈ l, Con Try.prog p.1 p.2) : Eng.Good Try.prog (cx std (ALoop 0) l) 0 := goodd dy0 h

end Go.Proofs.Ytnhobbdijdbbeaa
