/- The types of the program that the walks meet, and the setting of a walk. It has no conditions. -/
import Derived.Test.YtpnpfihjlobonaaDoorProg
import Derived.Test.YtpnpfihjlobonaaDoorEngC
namespace Go.Proofs.YtpnpfihjlobonaaDoor
open Go.Eng Go.RowKit

def tys : List (TypeId × TI) := [
  (2, ⟨.int .i64, 1, 8, .num .i64 0⟩),
  (3, ⟨.int .i64, 1, 8, .num .i64 0⟩),
  (4, ⟨.bool, 1, 1, .bool false⟩),
  (5, ⟨.int .u8, 1, 1, .num .u8 0⟩),
  (6, ⟨.int .u8, 1, 1, .num .u8 0⟩),
  (7, ⟨.strct [(0, 2), (1, 3), (2, 4), (3, 6)], 4, 24, .agg [.num .i64 0, .num .i64 0, .bool false, .num .u8 0]⟩),
  (8, ⟨.strct [(0, 2), (1, 3), (2, 4), (3, 6)], 4, 24, .agg [.num .i64 0, .num .i64 0, .bool false, .num .u8 0]⟩),
  (9, ⟨.str, 1, 16, .str ByteArray.empty⟩),
  (10, ⟨.str, 1, 16, .str ByteArray.empty⟩),
  (11, ⟨.str, 1, 16, .str ByteArray.empty⟩),
  (12, ⟨.int .u64, 1, 8, .num .u64 0⟩),
  (13, ⟨.strct [(0, 9), (1, 12)], 2, 24, .agg [.str ByteArray.empty, .num .u64 0]⟩),
  (14, ⟨.strct [(0, 9), (1, 12)], 2, 24, .agg [.str ByteArray.empty, .num .u64 0]⟩),
  (15, ⟨.ptr 118, 1, 8, .nilp⟩),
  (16, ⟨.ptr 121, 1, 8, .nilp⟩),
  (17, ⟨.ptr 129, 1, 8, .nilp⟩),
  (18, ⟨.strct [(0, 17)], 1, 8, .agg [.nilp]⟩),
  (19, ⟨.strct [(0, 17)], 1, 8, .agg [.nilp]⟩),
  (21, ⟨.int .i32, 1, 4, .num .i32 0⟩),
  (25, ⟨.int .i64, 1, 8, .num .i64 0⟩),
  (32, ⟨.int .u64, 1, 8, .num .u64 0⟩),
  (33, ⟨.slice 5, 1, 24, .nils⟩),
  (34, ⟨.arr 2 3, 2, 16, .agg [.num .i64 0, .num .i64 0]⟩),
  (36, ⟨.ptr 82, 1, 8, .nilp⟩),
  (39, ⟨.arr 4 32, 4, 32, .agg [.num .u64 0, .num .u64 0, .num .u64 0, .num .u64 0]⟩),
  (40, ⟨.arr 4 32, 4, 32, .agg [.num .u64 0, .num .u64 0, .num .u64 0, .num .u64 0]⟩),
  (44, ⟨.slice 40, 1, 24, .nils⟩),
  (49, ⟨.slice 55, 1, 24, .nils⟩),
  (51, ⟨.strct [(0, 9), (1, 9), (2, 3)], 3, 40, .agg [.str ByteArray.empty, .str ByteArray.empty, .num .i64 0]⟩),
  (52, ⟨.strct [(0, 9), (1, 9), (2, 3)], 3, 40, .agg [.str ByteArray.empty, .str ByteArray.empty, .num .i64 0]⟩),
  (54, ⟨.strct [(0, 3), (1, 3), (2, 9)], 3, 32, .agg [.num .i64 0, .num .i64 0, .str ByteArray.empty]⟩),
  (55, ⟨.strct [(0, 3), (1, 3), (2, 9)], 3, 32, .agg [.num .i64 0, .num .i64 0, .str ByteArray.empty]⟩),
  (66, ⟨.int .u32, 1, 4, .num .u32 0⟩),
  (67, ⟨.arr 8 66, 8, 32, .agg [.num .u32 0, .num .u32 0, .num .u32 0, .num .u32 0, .num .u32 0, .num .u32 0, .num .u32 0, .num .u32 0]⟩),
  (68, ⟨.strct [(0, 67), (8, 33), (9, 32)], 10, 64, .agg [.num .u32 0, .num .u32 0, .num .u32 0, .num .u32 0, .num .u32 0, .num .u32 0, .num .u32 0, .num .u32 0, .nils, .num .u64 0]⟩),
  (69, ⟨.strct [(0, 67), (8, 33), (9, 32)], 10, 64, .agg [.num .u32 0, .num .u32 0, .num .u32 0, .num .u32 0, .num .u32 0, .num .u32 0, .num .u32 0, .num .u32 0, .nils, .num .u64 0]⟩),
  (70, ⟨.strct [(0, 69), (10, 69)], 20, 128, .agg [.num .u32 0, .num .u32 0, .num .u32 0, .num .u32 0, .num .u32 0, .num .u32 0, .num .u32 0, .num .u32 0, .nils, .num .u64 0, .num .u32 0, .num .u32 0, .num .u32 0, .num .u32 0, .num .u32 0, .num .u32 0, .num .u32 0, .num .u32 0, .nils, .num .u64 0]⟩),
  (71, ⟨.strct [(0, 69), (10, 69)], 20, 128, .agg [.num .u32 0, .num .u32 0, .num .u32 0, .num .u32 0, .num .u32 0, .num .u32 0, .num .u32 0, .num .u32 0, .nils, .num .u64 0, .num .u32 0, .num .u32 0, .num .u32 0, .num .u32 0, .num .u32 0, .num .u32 0, .num .u32 0, .num .u32 0, .nils, .num .u64 0]⟩),
  (75, ⟨.slice 66, 1, 24, .nils⟩),
  (76, ⟨.strct [(0, 75), (1, 75)], 2, 48, .agg [.nils, .nils]⟩),
  (77, ⟨.strct [(0, 75), (1, 75)], 2, 48, .agg [.nils, .nils]⟩),
  (80, ⟨.arr 32 5, 32, 32, .agg [.num .u8 0, .num .u8 0, .num .u8 0, .num .u8 0, .num .u8 0, .num .u8 0, .num .u8 0, .num .u8 0, .num .u8 0, .num .u8 0, .num .u8 0, .num .u8 0, .num .u8 0, .num .u8 0, .num .u8 0, .num .u8 0, .num .u8 0, .num .u8 0, .num .u8 0, .num .u8 0, .num .u8 0, .num .u8 0, .num .u8 0, .num .u8 0, .num .u8 0, .num .u8 0, .num .u8 0, .num .u8 0, .num .u8 0, .num .u8 0, .num .u8 0, .num .u8 0]⟩),
  (81, ⟨.strct [(0, 80), (32, 80), (64, 3)], 65, 72, .agg [.num .u8 0, .num .u8 0, .num .u8 0, .num .u8 0, .num .u8 0, .num .u8 0, .num .u8 0, .num .u8 0, .num .u8 0, .num .u8 0, .num .u8 0, .num .u8 0, .num .u8 0, .num .u8 0, .num .u8 0, .num .u8 0, .num .u8 0, .num .u8 0, .num .u8 0, .num .u8 0, .num .u8 0, .num .u8 0, .num .u8 0, .num .u8 0, .num .u8 0, .num .u8 0, .num .u8 0, .num .u8 0, .num .u8 0, .num .u8 0, .num .u8 0, .num .u8 0, .num .u8 0, .num .u8 0, .num .u8 0, .num .u8 0, .num .u8 0, .num .u8 0, .num .u8 0, .num .u8 0, .num .u8 0, .num .u8 0, .num .u8 0, .num .u8 0, .num .u8 0, .num .u8 0, .num .u8 0, .num .u8 0, .num .u8 0, .num .u8 0, .num .u8 0, .num .u8 0, .num .u8 0, .num .u8 0, .num .u8 0, .num .u8 0, .num .u8 0, .num .u8 0, .num .u8 0, .num .u8 0, .num .u8 0, .num .u8 0, .num .u8 0, .num .u8 0, .num .i64 0]⟩),
  (82, ⟨.strct [(0, 80), (32, 80), (64, 3)], 65, 72, .agg [.num .u8 0, .num .u8 0, .num .u8 0, .num .u8 0, .num .u8 0, .num .u8 0, .num .u8 0, .num .u8 0, .num .u8 0, .num .u8 0, .num .u8 0, .num .u8 0, .num .u8 0, .num .u8 0, .num .u8 0, .num .u8 0, .num .u8 0, .num .u8 0, .num .u8 0, .num .u8 0, .num .u8 0, .num .u8 0, .num .u8 0, .num .u8 0, .num .u8 0, .num .u8 0, .num .u8 0, .num .u8 0, .num .u8 0, .num .u8 0, .num .u8 0, .num .u8 0, .num .u8 0, .num .u8 0, .num .u8 0, .num .u8 0, .num .u8 0, .num .u8 0, .num .u8 0, .num .u8 0, .num .u8 0, .num .u8 0, .num .u8 0, .num .u8 0, .num .u8 0, .num .u8 0, .num .u8 0, .num .u8 0, .num .u8 0, .num .u8 0, .num .u8 0, .num .u8 0, .num .u8 0, .num .u8 0, .num .u8 0, .num .u8 0, .num .u8 0, .num .u8 0, .num .u8 0, .num .u8 0, .num .u8 0, .num .u8 0, .num .u8 0, .num .u8 0, .num .i64 0]⟩),
  (89, ⟨.ptr 69, 1, 8, .nilp⟩),
  (92, ⟨.slice 9, 1, 24, .nils⟩),
  (95, ⟨.slice 32, 1, 24, .nils⟩),
  (98, ⟨.arr 64 66, 64, 256, .agg [.num .u32 0, .num .u32 0, .num .u32 0, .num .u32 0, .num .u32 0, .num .u32 0, .num .u32 0, .num .u32 0, .num .u32 0, .num .u32 0, .num .u32 0, .num .u32 0, .num .u32 0, .num .u32 0, .num .u32 0, .num .u32 0, .num .u32 0, .num .u32 0, .num .u32 0, .num .u32 0, .num .u32 0, .num .u32 0, .num .u32 0, .num .u32 0, .num .u32 0, .num .u32 0, .num .u32 0, .num .u32 0, .num .u32 0, .num .u32 0, .num .u32 0, .num .u32 0, .num .u32 0, .num .u32 0, .num .u32 0, .num .u32 0, .num .u32 0, .num .u32 0, .num .u32 0, .num .u32 0, .num .u32 0, .num .u32 0, .num .u32 0, .num .u32 0, .num .u32 0, .num .u32 0, .num .u32 0, .num .u32 0, .num .u32 0, .num .u32 0, .num .u32 0, .num .u32 0, .num .u32 0, .num .u32 0, .num .u32 0, .num .u32 0, .num .u32 0, .num .u32 0, .num .u32 0, .num .u32 0, .num .u32 0, .num .u32 0, .num .u32 0, .num .u32 0]⟩),
  (100, ⟨.int .u64, 1, 8, .num .u64 0⟩),
  (104, ⟨.strct [(0, 40), (4, 32), (5, 40)], 9, 72, .agg [.num .u64 0, .num .u64 0, .num .u64 0, .num .u64 0, .num .u64 0, .num .u64 0, .num .u64 0, .num .u64 0, .num .u64 0]⟩),
  (105, ⟨.strct [(0, 40), (4, 32), (5, 40)], 9, 72, .agg [.num .u64 0, .num .u64 0, .num .u64 0, .num .u64 0, .num .u64 0, .num .u64 0, .num .u64 0, .num .u64 0, .num .u64 0]⟩),
  (108, ⟨.arr 64 5, 64, 64, .agg [.num .u8 0, .num .u8 0, .num .u8 0, .num .u8 0, .num .u8 0, .num .u8 0, .num .u8 0, .num .u8 0, .num .u8 0, .num .u8 0, .num .u8 0, .num .u8 0, .num .u8 0, .num .u8 0, .num .u8 0, .num .u8 0, .num .u8 0, .num .u8 0, .num .u8 0, .num .u8 0, .num .u8 0, .num .u8 0, .num .u8 0, .num .u8 0, .num .u8 0, .num .u8 0, .num .u8 0, .num .u8 0, .num .u8 0, .num .u8 0, .num .u8 0, .num .u8 0, .num .u8 0, .num .u8 0, .num .u8 0, .num .u8 0, .num .u8 0, .num .u8 0, .num .u8 0, .num .u8 0, .num .u8 0, .num .u8 0, .num .u8 0, .num .u8 0, .num .u8 0, .num .u8 0, .num .u8 0, .num .u8 0, .num .u8 0, .num .u8 0, .num .u8 0, .num .u8 0, .num .u8 0, .num .u8 0, .num .u8 0, .num .u8 0, .num .u8 0, .num .u8 0, .num .u8 0, .num .u8 0, .num .u8 0, .num .u8 0, .num .u8 0, .num .u8 0]⟩),
  (117, ⟨.strct [(0, 17), (1, 17), (2, 17), (3, 9)], 4, 40, .agg [.nilp, .nilp, .nilp, .str ByteArray.empty]⟩),
  (118, ⟨.strct [(0, 17), (1, 17), (2, 17), (3, 9)], 4, 40, .agg [.nilp, .nilp, .nilp, .str ByteArray.empty]⟩),
  (119, ⟨.arr 0 16, 0, 0, .agg []⟩),
  (120, ⟨.strct [(0, 119)], 0, 0, .agg []⟩),
  (121, ⟨.strct [(0, 119)], 0, 0, .agg []⟩),
  (122, ⟨.int .u8, 1, 1, .num .u8 0⟩),
  (123, ⟨.int .u8, 1, 1, .num .u8 0⟩),
  (125, ⟨.ptr 5, 1, 8, .nilp⟩),
  (126, ⟨.int .i32, 1, 4, .num .i32 0⟩),
  (127, ⟨.int .i32, 1, 4, .num .i32 0⟩)]

def eqts : List (TypeId × List CK) := [
  (34, [.int .i64, .int .i64]),
  (39, [.int .u64, .int .u64, .int .u64, .int .u64]),
  (40, [.int .u64, .int .u64, .int .u64, .int .u64]),
  (52, [.str, .str, .int .i64]),
  (55, [.int .i64, .int .i64, .str]),
  (67, [.int .u32, .int .u32, .int .u32, .int .u32, .int .u32, .int .u32, .int .u32, .int .u32]),
  (80, [.int .u8, .int .u8, .int .u8, .int .u8, .int .u8, .int .u8, .int .u8, .int .u8, .int .u8, .int .u8, .int .u8, .int .u8, .int .u8, .int .u8, .int .u8, .int .u8, .int .u8, .int .u8, .int .u8, .int .u8, .int .u8, .int .u8, .int .u8, .int .u8, .int .u8, .int .u8, .int .u8, .int .u8, .int .u8, .int .u8, .int .u8, .int .u8]),
  (82, [.int .u8, .int .u8, .int .u8, .int .u8, .int .u8, .int .u8, .int .u8, .int .u8, .int .u8, .int .u8, .int .u8, .int .u8, .int .u8, .int .u8, .int .u8, .int .u8, .int .u8, .int .u8, .int .u8, .int .u8, .int .u8, .int .u8, .int .u8, .int .u8, .int .u8, .int .u8, .int .u8, .int .u8, .int .u8, .int .u8, .int .u8, .int .u8, .int .u8, .int .u8, .int .u8, .int .u8, .int .u8, .int .u8, .int .u8, .int .u8, .int .u8, .int .u8, .int .u8, .int .u8, .int .u8, .int .u8, .int .u8, .int .u8, .int .u8, .int .u8, .int .u8, .int .u8, .int .u8, .int .u8, .int .u8, .int .u8, .int .u8, .int .u8, .int .u8, .int .u8, .int .u8, .int .u8, .int .u8, .int .u8, .int .i64]),
  (98, [.int .u32, .int .u32, .int .u32, .int .u32, .int .u32, .int .u32, .int .u32, .int .u32, .int .u32, .int .u32, .int .u32, .int .u32, .int .u32, .int .u32, .int .u32, .int .u32, .int .u32, .int .u32, .int .u32, .int .u32, .int .u32, .int .u32, .int .u32, .int .u32, .int .u32, .int .u32, .int .u32, .int .u32, .int .u32, .int .u32, .int .u32, .int .u32, .int .u32, .int .u32, .int .u32, .int .u32, .int .u32, .int .u32, .int .u32, .int .u32, .int .u32, .int .u32, .int .u32, .int .u32, .int .u32, .int .u32, .int .u32, .int .u32, .int .u32, .int .u32, .int .u32, .int .u32, .int .u32, .int .u32, .int .u32, .int .u32, .int .u32, .int .u32, .int .u32, .int .u32, .int .u32, .int .u32, .int .u32, .int .u32]),
  (105, [.int .u64, .int .u64, .int .u64, .int .u64, .int .u64, .int .u64, .int .u64, .int .u64, .int .u64]),
  (108, [.int .u8, .int .u8, .int .u8, .int .u8, .int .u8, .int .u8, .int .u8, .int .u8, .int .u8, .int .u8, .int .u8, .int .u8, .int .u8, .int .u8, .int .u8, .int .u8, .int .u8, .int .u8, .int .u8, .int .u8, .int .u8, .int .u8, .int .u8, .int .u8, .int .u8, .int .u8, .int .u8, .int .u8, .int .u8, .int .u8, .int .u8, .int .u8, .int .u8, .int .u8, .int .u8, .int .u8, .int .u8, .int .u8, .int .u8, .int .u8, .int .u8, .int .u8, .int .u8, .int .u8, .int .u8, .int .u8, .int .u8, .int .u8, .int .u8, .int .u8, .int .u8, .int .u8, .int .u8, .int .u8, .int .u8, .int .u8, .int .u8, .int .u8, .int .u8, .int .u8, .int .u8, .int .u8, .int .u8, .int .u8])]

theorem tys_ok : TOk Tryd.prog (tyl tys) := tyl_ok (by kernel_rfl)
theorem eqts_ok : EOk Tryd.prog (eql eqts) := eql_ok (by kernel_rfl)

def dyl : List (Nat × List (Nat × Nat)) → Nat → List (Nat × Nat)
  | [], _ => []
  | (k, p) :: r, i => match Nat.beq k i with
    | true => p
    | false => dyl r i

def dy0 : Nat → List (Nat × Nat) := fun _ => []
def noJ : SCP := fun _ _ _ => False

abbrev Pure := List (FuncId × (List SV → Bool × SV))
abbrev Heap := List (FuncId × HF)

def cxhq (A : Ar) (L : LP) (K : SCP) (l : Pure) (d : Heap) (gl : List Nat) (q : List Nat) (dy : Nat → List (Nat × Nat)) : Cx := ⟨A, tyl tys, gam l, dlt d, eql eqts, L, K, dy, gl, q, fun _ => .nil⟩
def cxh (A : Ar) (L : LP) (K : SCP) (l : Pure) (d : Heap) (gl : List Nat) (dy : Nat → List (Nat × Nat)) : Cx := ⟨A, tyl tys, gam l, dlt d, eql eqts, L, K, dy, gl, [], fun _ => .nil⟩
def cx (A : Ar) (L : LP) (l : Pure) (dy : Nat → List (Nat × Nat) := dy0) : Cx := cxh A L noJ l [] [] dy

/-- The plans of regions. -/
def pll : List (Nat × PT) → Nat → PT
  | [], _ => .nil
  | (k, p) :: r, i => match Nat.beq k i with
    | true => p
    | false => pll r i
def cxhp (A : Ar) (L : LP) (K : SCP) (l : Pure) (d : Heap) (gl : List Nat) (q : List Nat) (dy : Nat → List (Nat × Nat)) (pl : Nat → PT) : Cx := ⟨A, tyl tys, gam l, dlt d, eql eqts, L, K, dy, gl, q, pl⟩

theorem good0 {A : Ar} {L : LP} {K : SCP} {l : Pure} {d : Heap} {gl : List Nat} {dy : Nat → List (Nat × Nat)} (hA : A = std) (h : ∀ p ∈ l, Con Tryd.prog p.1 p.2) (h' : ∀ p ∈ d, HCon Tryd.prog gl p.1 p.2) : Good0 Tryd.prog (cxh A L K l d gl dy) :=
  ⟨hA, tys_ok, gam_ok h, dlt_ok h', eqts_ok, by kernel_rfl⟩

theorem good0q {A : Ar} {L : LP} {K : SCP} {l : Pure} {d : Heap} {gl q : List Nat} {dy : Nat → List (Nat × Nat)} (hA : A = std) (h : ∀ p ∈ l, Con Tryd.prog p.1 p.2) (h' : ∀ p ∈ d, HCon Tryd.prog gl p.1 p.2) : Good0 Tryd.prog (cxhq A L K l d gl q dy) :=
  ⟨hA, tys_ok, gam_ok h, dlt_ok h', eqts_ok, by kernel_rfl⟩

theorem good0p {A : Ar} {L : LP} {K : SCP} {l : Pure} {d : Heap} {gl q : List Nat} {dy : Nat → List (Nat × Nat)} {pl : Nat → PT} (hA : A = std) (h : ∀ p ∈ l, Con Tryd.prog p.1 p.2) (h' : ∀ p ∈ d, HCon Tryd.prog gl p.1 p.2) : Good0 Tryd.prog (cxhp A L K l d gl q dy pl) :=
  ⟨hA, tys_ok, gam_ok h, dlt_ok h', eqts_ok, by kernel_rfl⟩

theorem goodd {l : Pure} (dy : Nat → List (Nat × Nat)) (h : ∀ p ∈ l, Con Tryd.prog p.1 p.2) : Eng.Good Tryd.prog (cx std (ALoop 0) l dy) 0 :=
  ⟨good0 rfl h (by simp), rfl, .inr rfl, by exact Nat.zero_le _⟩

theorem good {l : Pure} (h : ∀ p ∈ l, Con Tryd.prog p.1 p.2) : Eng.Good Tryd.prog (cx std (ALoop 0) l) 0 := goodd dy0 h

end Go.Proofs.YtpnpfihjlobonaaDoor
