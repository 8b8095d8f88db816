/- The types of the program that the walks meet, and the setting of a walk. It has no conditions. -/
import Derived.Test.YtcgolnihdbeegaaDoorProg
import Derived.Test.YtcgolnihdbeegaaDoorEngC
namespace Go.Proofs.YtcgolnihdbeegaaDoor
open Go.Eng Go.RowKit

def tys : List (TypeId × TI) := [
  (2, ⟨.int .i64, 1, 8, .num .i64 0⟩),
  (3, ⟨.int .i64, 1, 8, .num .i64 0⟩),
  (4, ⟨.bool, 1, 1, .bool false⟩),
  (5, ⟨.int .u8, 1, 1, .num .u8 0⟩),
  (6, ⟨.int .u8, 1, 1, .num .u8 0⟩),
  (7, ⟨.strct [(0, 2), (1, 3), (2, 4), (3, 6)], 4, 24, .agg [.num .i64 0, .num .i64 0, .bool false, .num .u8 0]⟩),
  (8, ⟨.strct [(0, 2), (1, 3), (2, 4), (3, 6)], 4, 24, .agg [.num .i64 0, .num .i64 0, .bool false, .num .u8 0]⟩),
  (9, ⟨.str, 1, 16, .str ByteArray.empty⟩),
  (10, ⟨.str, 1, 16, .str ByteArray.empty⟩),
  (11, ⟨.str, 1, 16, .str ByteArray.empty⟩),
  (12, ⟨.int .u64, 1, 8, .num .u64 0⟩),
  (13, ⟨.strct [(0, 9), (1, 12)], 2, 24, .agg [.str ByteArray.empty, .num .u64 0]⟩),
  (14, ⟨.strct [(0, 9), (1, 12)], 2, 24, .agg [.str ByteArray.empty, .num .u64 0]⟩),
  (15, ⟨.ptr 56, 1, 8, .nilp⟩),
  (16, ⟨.ptr 59, 1, 8, .nilp⟩),
  (17, ⟨.ptr 68, 1, 8, .nilp⟩),
  (18, ⟨.strct [(0, 17)], 1, 8, .agg [.nilp]⟩),
  (19, ⟨.strct [(0, 17)], 1, 8, .agg [.nilp]⟩),
  (21, ⟨.int .i32, 1, 4, .num .i32 0⟩),
  (28, ⟨.ptr 42, 1, 8, .nilp⟩),
  (33, ⟨.slice 37, 1, 24, .nils⟩),
  (34, ⟨.strct [(0, 33), (1, 33)], 2, 48, .agg [.nils, .nils]⟩),
  (35, ⟨.strct [(0, 33), (1, 33)], 2, 48, .agg [.nils, .nils]⟩),
  (37, ⟨.int .u32, 1, 4, .num .u32 0⟩),
  (38, ⟨.arr 8 37, 8, 32, .agg [.num .u32 0, .num .u32 0, .num .u32 0, .num .u32 0, .num .u32 0, .num .u32 0, .num .u32 0, .num .u32 0]⟩),
  (39, ⟨.slice 5, 1, 24, .nils⟩),
  (40, ⟨.int .u64, 1, 8, .num .u64 0⟩),
  (41, ⟨.strct [(0, 38), (8, 39), (9, 40)], 10, 64, .agg [.num .u32 0, .num .u32 0, .num .u32 0, .num .u32 0, .num .u32 0, .num .u32 0, .num .u32 0, .num .u32 0, .nils, .num .u64 0]⟩),
  (42, ⟨.strct [(0, 38), (8, 39), (9, 40)], 10, 64, .agg [.num .u32 0, .num .u32 0, .num .u32 0, .num .u32 0, .num .u32 0, .num .u32 0, .num .u32 0, .num .u32 0, .nils, .num .u64 0]⟩),
  (44, ⟨.int .u64, 1, 8, .num .u64 0⟩),
  (46, ⟨.slice 40, 1, 24, .nils⟩),
  (49, ⟨.arr 64 37, 64, 256, .agg [.num .u32 0, .num .u32 0, .num .u32 0, .num .u32 0, .num .u32 0, .num .u32 0, .num .u32 0, .num .u32 0, .num .u32 0, .num .u32 0, .num .u32 0, .num .u32 0, .num .u32 0, .num .u32 0, .num .u32 0, .num .u32 0, .num .u32 0, .num .u32 0, .num .u32 0, .num .u32 0, .num .u32 0, .num .u32 0, .num .u32 0, .num .u32 0, .num .u32 0, .num .u32 0, .num .u32 0, .num .u32 0, .num .u32 0, .num .u32 0, .num .u32 0, .num .u32 0, .num .u32 0, .num .u32 0, .num .u32 0, .num .u32 0, .num .u32 0, .num .u32 0, .num .u32 0, .num .u32 0, .num .u32 0, .num .u32 0, .num .u32 0, .num .u32 0, .num .u32 0, .num .u32 0, .num .u32 0, .num .u32 0, .num .u32 0, .num .u32 0, .num .u32 0, .num .u32 0, .num .u32 0, .num .u32 0, .num .u32 0, .num .u32 0, .num .u32 0, .num .u32 0, .num .u32 0, .num .u32 0, .num .u32 0, .num .u32 0, .num .u32 0, .num .u32 0]⟩),
  (55, ⟨.strct [(0, 17), (1, 17), (2, 17), (3, 9)], 4, 40, .agg [.nilp, .nilp, .nilp, .str ByteArray.empty]⟩),
  (56, ⟨.strct [(0, 17), (1, 17), (2, 17), (3, 9)], 4, 40, .agg [.nilp, .nilp, .nilp, .str ByteArray.empty]⟩),
  (57, ⟨.arr 0 16, 0, 0, .agg []⟩),
  (58, ⟨.strct [(0, 57)], 0, 0, .agg []⟩),
  (59, ⟨.strct [(0, 57)], 0, 0, .agg []⟩),
  (61, ⟨.int .u8, 1, 1, .num .u8 0⟩),
  (62, ⟨.int .u8, 1, 1, .num .u8 0⟩),
  (64, ⟨.ptr 5, 1, 8, .nilp⟩),
  (65, ⟨.int .i32, 1, 4, .num .i32 0⟩),
  (66, ⟨.int .i32, 1, 4, .num .i32 0⟩)]

def eqts : List (TypeId × List CK) := [
  (38, [.int .u32, .int .u32, .int .u32, .int .u32, .int .u32, .int .u32, .int .u32, .int .u32]),
  (49, [.int .u32, .int .u32, .int .u32, .int .u32, .int .u32, .int .u32, .int .u32, .int .u32, .int .u32, .int .u32, .int .u32, .int .u32, .int .u32, .int .u32, .int .u32, .int .u32, .int .u32, .int .u32, .int .u32, .int .u32, .int .u32, .int .u32, .int .u32, .int .u32, .int .u32, .int .u32, .int .u32, .int .u32, .int .u32, .int .u32, .int .u32, .int .u32, .int .u32, .int .u32, .int .u32, .int .u32, .int .u32, .int .u32, .int .u32, .int .u32, .int .u32, .int .u32, .int .u32, .int .u32, .int .u32, .int .u32, .int .u32, .int .u32, .int .u32, .int .u32, .int .u32, .int .u32, .int .u32, .int .u32, .int .u32, .int .u32, .int .u32, .int .u32, .int .u32, .int .u32, .int .u32, .int .u32, .int .u32, .int .u32])]

theorem tys_ok : TOk Tryd.prog (tyl tys) := tyl_ok (by kernel_rfl)
theorem eqts_ok : EOk Tryd.prog (eql eqts) := eql_ok (by kernel_rfl)

def dyl : List (Nat × List (Nat × Nat)) → Nat → List (Nat × Nat)
  | [], _ => []
  | (k, p) :: r, i => match Nat.beq k i with
    | true => p
    | false => dyl r i

def dy0 : Nat → List (Nat × Nat) := fun _ => []
def noJ : SCP := fun _ _ _ => False

abbrev Pure := List (FuncId × (List SV → Bool × SV))
abbrev Heap := List (FuncId × HF)

def cxh (A : Ar) (L : LP) (K : SCP) (l : Pure) (d : Heap) (gl : List Nat) (dy : Nat → List (Nat × Nat)) : Cx := ⟨A, tyl tys, gam l, dlt d, eql eqts, L, K, dy, gl⟩
def cx (A : Ar) (L : LP) (l : Pure) (dy : Nat → List (Nat × Nat) := dy0) : Cx := cxh A L noJ l [] [] dy

theorem good0 {A : Ar} {L : LP} {K : SCP} {l : Pure} {d : Heap} {gl : List Nat} {dy : Nat → List (Nat × Nat)} (hA : A = std) (h : ∀ p ∈ l, Con Tryd.prog p.1 p.2) (h' : ∀ p ∈ d, HCon Tryd.prog gl p.1 p.2) : Good0 Tryd.prog (cxh A L K l d gl dy) :=
  ⟨hA, tys_ok, gam_ok h, dlt_ok h', eqts_ok, by kernel_rfl⟩

theorem goodd {l : Pure} (dy : Nat → List (Nat × Nat)) (h : ∀ p ∈ l, Con Tryd.prog p.1 p.2) : Eng.Good Tryd.prog (cx std (ALoop 0) l dy) 0 :=
  ⟨good0 rfl h (by simp), rfl, .inr rfl, by exact Nat.zero_le _⟩

theorem good {l : Pure} (h : ∀ p ∈ l, Con Tryd.prog p.1 p.2) : Eng.Good Tryd.prog (cx std (ALoop 0) l) 0 := goodd dy0 h

end Go.Proofs.YtcgolnihdbeegaaDoor
