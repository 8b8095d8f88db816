/- What the examples of the chapter on random numbers come to, reckoned. It has no conditions. -/
import Derived.Test.YtpnpfihjlobonaaDoorDr10
import Derived.Test.YtpnpfihjlobonaaDoorDr8
namespace Go.Proofs.YtpnpfihjlobonaaDoor
open Go.Eng Go.RowKit
set_option maxRecDepth 1000000
set_option maxHeartbeats 4000000
set_option linter.unusedSimpArgs false
set_option linter.unusedVariables false

def bx : ByteArray := ⟨⟨[120]⟩⟩
def by_ : ByteArray := ⟨⟨[121]⟩⟩
def xK1 : ByteArray := ⟨⟨[141, 28, 99, 236, 55, 51, 3, 27, 62, 239, 66, 242, 253, 111, 70, 68, 180, 218, 201, 247, 92, 209, 78, 225, 220, 238, 28, 150, 15, 75, 194, 202]⟩⟩
theorem q_xK1 : mixN zers ones 0 bx = xK1 := by decide +kernel
def xV1 : ByteArray := ⟨⟨[190, 188, 77, 224, 0, 214, 118, 186, 72, 215, 10, 102, 204, 241, 113, 19, 152, 187, 160, 95, 50, 8, 113, 107, 134, 208, 42, 67, 250, 172, 186, 230]⟩⟩
theorem q_xV1 : macN xK1 ones = xV1 := by decide +kernel
def xK2 : ByteArray := ⟨⟨[197, 67, 134, 248, 26, 225, 157, 181, 5, 204, 41, 121, 63, 130, 47, 88, 48, 213, 92, 237, 172, 156, 63, 242, 37, 142, 219, 161, 100, 17, 251, 67]⟩⟩
theorem q_xK2 : mixN xK1 xV1 1 bx = xK2 := by decide +kernel
def xV2 : ByteArray := ⟨⟨[120, 98, 110, 89, 75, 219, 36, 10, 205, 107, 217, 53, 227, 217, 139, 59, 33, 103, 110, 107, 102, 6, 223, 4, 174, 28, 250, 29, 229, 238, 104, 38]⟩⟩
theorem q_xV2 : macN xK2 xV1 = xV2 := by decide +kernel
theorem newK_x : newK bx = xK2 := by
  unfold newK updK
  rw [if_neg (by decide +kernel), q_xK1, q_xV1, q_xK2]
theorem newV_x : newV bx = xV2 := by
  unfold newV updV
  rw [if_neg (by decide +kernel), q_xK1, q_xV1, q_xK2, q_xV2]
def xV3 : ByteArray := ⟨⟨[230, 215, 129, 77, 66, 251, 132, 10, 176, 91, 180, 199, 136, 122, 114, 124, 67, 114, 81, 33, 34, 242, 190, 200, 176, 248, 46, 160, 211, 128, 76, 106]⟩⟩
theorem q_xV3 : macN xK2 xV2 = xV3 := by decide +kernel
def xV4 : ByteArray := ⟨⟨[41, 189, 21, 97, 98, 105, 108, 217, 39, 8, 91, 103, 199, 182, 60, 236, 182, 236, 31, 95, 175, 193, 13, 255, 223, 15, 57, 89, 2, 68, 161, 39]⟩⟩
theorem q_xV4 : macN xK2 xV3 = xV4 := by decide +kernel
theorem vL_x : vL (byts xK2) (byts xV2) 2 = byts xV4 := by
  rw [vL_rv, rvN, rvN, rvN, q_xV3, q_xV4]
theorem oL_x : oL (byts xK2) (byts xV2) 2 = byts xV3 ++ byts xV4 := by
  rw [oL, oL, oL, vL_x, vL_rv, rvN, rvN, q_xV3, List.nil_append]
theorem byt_x : bytS (byts xK2) (byts xV2) 40 = mkb (((byts xV3 ++ byts xV4).drop 0).take 40) := by
  unfold bytS
  rw [if_neg (by decide), show cN 40 = 2 from rfl, oL_x]; rfl
def yK1 : ByteArray := ⟨⟨[195, 170, 231, 47, 212, 12, 9, 27, 48, 119, 206, 221, 78, 222, 79, 67, 70, 238, 95, 189, 180, 254, 38, 86, 212, 96, 239, 29, 146, 205, 233, 109]⟩⟩
theorem q_yK1 : mixN zers ones 0 by_ = yK1 := by decide +kernel
def yV1 : ByteArray := ⟨⟨[73, 237, 57, 153, 152, 224, 60, 161, 236, 227, 88, 250, 109, 60, 222, 158, 199, 196, 170, 21, 6, 217, 47, 102, 158, 184, 210, 138, 244, 79, 185, 146]⟩⟩
theorem q_yV1 : macN yK1 ones = yV1 := by decide +kernel
def yK2 : ByteArray := ⟨⟨[203, 157, 208, 208, 16, 144, 219, 50, 152, 175, 12, 158, 8, 242, 89, 176, 55, 216, 191, 186, 157, 206, 78, 185, 28, 194, 85, 89, 235, 79, 3, 246]⟩⟩
theorem q_yK2 : mixN yK1 yV1 1 by_ = yK2 := by decide +kernel
def yV2 : ByteArray := ⟨⟨[188, 250, 89, 103, 31, 143, 86, 56, 189, 51, 35, 23, 19, 75, 235, 148, 104, 234, 173, 91, 30, 183, 103, 37, 166, 228, 69, 66, 184, 236, 190, 8]⟩⟩
theorem q_yV2 : macN yK2 yV1 = yV2 := by decide +kernel
theorem newK_y : newK by_ = yK2 := by
  unfold newK updK
  rw [if_neg (by decide +kernel), q_yK1, q_yV1, q_yK2]
theorem newV_y : newV by_ = yV2 := by
  unfold newV updV
  rw [if_neg (by decide +kernel), q_yK1, q_yV1, q_yK2, q_yV2]
def yV3 : ByteArray := ⟨⟨[190, 32, 69, 99, 235, 154, 29, 138, 9, 175, 251, 16, 124, 125, 85, 191, 47, 215, 53, 249, 197, 21, 18, 130, 154, 193, 228, 245, 217, 175, 213, 8]⟩⟩
theorem q_yV3 : macN yK2 yV2 = yV3 := by decide +kernel
def yV4 : ByteArray := ⟨⟨[155, 228, 197, 139, 148, 116, 53, 1, 113, 218, 116, 155, 8, 153, 143, 72, 94, 122, 136, 188, 4, 77, 51, 214, 136, 196, 76, 4, 226, 58, 191, 239]⟩⟩
theorem q_yV4 : macN yK2 yV3 = yV4 := by decide +kernel
theorem vL_y : vL (byts yK2) (byts yV2) 2 = byts yV4 := by
  rw [vL_rv, rvN, rvN, rvN, q_yV3, q_yV4]
theorem oL_y : oL (byts yK2) (byts yV2) 2 = byts yV3 ++ byts yV4 := by
  rw [oL, oL, oL, vL_y, vL_rv, rvN, rvN, q_yV3, List.nil_append]
theorem byt_y : bytS (byts yK2) (byts yV2) 40 = mkb (((byts yV3 ++ byts yV4).drop 0).take 40) := by
  unfold bytS
  rw [if_neg (by decide), show cN 40 = 2 from rfl, oL_y]; rfl
def xK3 : ByteArray := ⟨⟨[174, 53, 24, 115, 238, 69, 148, 211, 17, 219, 182, 29, 219, 207, 92, 16, 114, 185, 16, 49, 119, 152, 188, 45, 149, 169, 241, 252, 142, 70, 119, 22]⟩⟩
theorem q_xK3 : mixN xK2 xV4 0 ByteArray.empty = xK3 := by decide +kernel
def xV5 : ByteArray := ⟨⟨[2, 144, 96, 145, 146, 113, 15, 101, 177, 176, 211, 118, 82, 52, 71, 214, 65, 82, 235, 204, 255, 170, 108, 52, 202, 141, 86, 99, 153, 15, 72, 228]⟩⟩
theorem q_xV5 : macN xK3 xV4 = xV5 := by decide +kernel
def xV6 : ByteArray := ⟨⟨[142, 27, 246, 6, 18, 204, 230, 125, 219, 124, 8, 243, 33, 211, 78, 195, 220, 199, 221, 250, 104, 6, 112, 198, 148, 231, 146, 236, 213, 11, 162, 64]⟩⟩
theorem q_xV6 : macN xK3 xV5 = xV6 := by decide +kernel
def kx1 : List Int := bytK (bytK (byts (newK bx)) (byts (newV bx)) 40) (bytV (byts (newK bx)) (byts (newV bx)) 40) (-1)
def vx1 : List Int := bytV (bytK (byts (newK bx)) (byts (newV bx)) 40) (bytV (byts (newK bx)) (byts (newV bx)) 40) (-1)
def ax1 : Int := bytA (bytA 0 40) (-1)
theorem kx1_is : kx1 = byts xK3 := by
  unfold kx1
  rw [newK_x, newV_x, bytK, if_pos (by decide), bytK, if_neg (by decide), show cN 40 = 2 from rfl, vL_x, mkb_of_byts, mkb_of_byts, updK, if_pos rfl, q_xK3]
theorem vx1_is : vx1 = byts xV5 := by
  unfold vx1
  rw [newK_x, newV_x, bytV, if_pos (by decide), bytV, if_neg (by decide), show cN 40 = 2 from rfl, vL_x, mkb_of_byts, mkb_of_byts, updV, if_pos rfl, q_xK3, q_xV5]
theorem a29_ne : scmp .neq (bytS (byts (newK bx)) (byts (newV bx)) 40) (bytS (byts (newK by_)) (byts (newV by_)) 40) = true := by
  rw [newK_x, newV_x, newK_y, newV_y, byt_x, byt_y]
  decide +kernel
theorem byt_x1 : bytS (byts xK3) (byts xV5) 32 = xV6 := by
  unfold bytS
  rw [if_neg (by decide), show cN 32 = 1 from rfl, oL, oL, vL_rv, rvN, rvN, q_xV6, List.nil_append, List.drop_zero, List.take_of_length_le (by rw [byts_length, ← q_xV6, macN_size]; decide), mkb_of_byts]
theorem a29_fr : 0 < fromN (bytS (byts xK3) (byts xV5) 32) ∧ fromN (bytS (byts xK3) (byts xV5) 32) < qN := by
  rw [byt_x1]
  decide +kernel
theorem scA_yes (k v : List Int) (a : Int) (h : 0 < fromN (bytS k v 32) ∧ fromN (bytS k v 32) < qN) : scA k v a = bytA a 32 := by
  unfold scA; rw [scR_yes 63 k v a h]
theorem ax1_72 : bytA ax1 32 = 72 := by decide +kernel
theorem a29_sc : scA kx1 vx1 ax1 = 72 := by
  rw [kx1_is, vx1_is, scA_yes _ _ _ a29_fr, ax1_72]

end Go.Proofs.YtpnpfihjlobonaaDoor
