/- The seat: its types; written by gen.py. -/
import Derived.Test.YtpmahbmokfaflaaReadBaseN
import Derived.Test.YtpmahbmokfaflaaProg
import Derived.KernelRfl
namespace Go.VE
open Go.Proofs
noncomputable section
set_option linter.unusedVariables false
set_option linter.unusedSimpArgs false
set_option maxRecDepth 100000
def tab : List TInfo := [
  ⟨2, false, (.int .i64), []⟩,
  ⟨3, false, (.int .i64), []⟩,
  ⟨4, false, .bool, []⟩,
  ⟨5, false, (.int .u8), []⟩,
  ⟨6, false, (.int .u8), []⟩,
  ⟨7, true, (.pair (.int .i64) (.pair (.int .i64) (.pair .bool (.int .u8)))), [(0, false, (.int .i64)), (1, false, (.int .i64)), (2, false, .bool), (3, false, (.int .u8))]⟩,
  ⟨8, true, (.pair (.int .i64) (.pair (.int .i64) (.pair .bool (.int .u8)))), [(0, false, (.int .i64)), (1, false, (.int .i64)), (2, false, .bool), (3, false, (.int .u8))]⟩,
  ⟨9, false, .str, []⟩,
  ⟨10, false, .str, []⟩,
  ⟨11, false, .str, []⟩,
  ⟨12, false, (.int .u64), []⟩,
  ⟨13, true, (.pair .str (.int .u64)), [(0, false, .str), (1, false, (.int .u64))]⟩,
  ⟨14, true, (.pair .str (.int .u64)), [(0, false, .str), (1, false, (.int .u64))]⟩,
  ⟨21, false, (.int .i32), []⟩,
  ⟨22, false, (.slice tVersion), []⟩,
  ⟨23, false, (.slice tTxn), []⟩,
  ⟨24, true, tBase, [(0, false, (.slice tVersion)), (1, false, (.slice tTxn)), (2, false, (.slice tTxn)), (3, false, (.int .i64)), (4, false, (.int .i64))]⟩,
  ⟨25, true, tBase, [(0, false, (.slice tVersion)), (1, false, (.slice tTxn)), (2, false, (.slice tTxn)), (3, false, (.int .i64)), (4, false, (.int .i64))]⟩,
  ⟨26, true, vlg, [(0, true, tBase), (5, false, (.slice tTxn))]⟩,
  ⟨27, true, vlg, [(0, true, tBase), (5, false, (.slice tTxn))]⟩,
  ⟨28, false, (.slice .str), []⟩,
  ⟨29, false, (.slice tPut), []⟩,
  ⟨30, true, v3r, [(0, false, (.slice .str)), (1, false, (.slice tPut))]⟩,
  ⟨31, true, v3r, [(0, false, (.slice .str)), (1, false, (.slice tPut))]⟩,
  ⟨32, true, wc2, [(0, true, vlg), (6, true, v3r)]⟩,
  ⟨33, true, wc2, [(0, true, vlg), (6, true, v3r)]⟩,
  ⟨36, false, (.slice tVersion), []⟩,
  ⟨37, false, (.slice tTxn), []⟩,
  ⟨38, true, tBase, [(0, false, (.slice tVersion)), (1, false, (.slice tTxn)), (2, false, (.slice tTxn)), (3, false, (.int .i64)), (4, false, (.int .i64))]⟩,
  ⟨39, true, tBase, [(0, false, (.slice tVersion)), (1, false, (.slice tTxn)), (2, false, (.slice tTxn)), (3, false, (.int .i64)), (4, false, (.int .i64))]⟩,
  ⟨40, true, vlg, [(0, true, tBase), (5, false, (.slice tTxn))]⟩,
  ⟨41, true, vlg, [(0, true, tBase), (5, false, (.slice tTxn))]⟩,
  ⟨42, false, (.slice tPut), []⟩,
  ⟨43, true, v3r, [(0, false, (.slice .str)), (1, false, (.slice tPut))]⟩,
  ⟨44, true, v3r, [(0, false, (.slice .str)), (1, false, (.slice tPut))]⟩,
  ⟨45, true, wc2, [(0, true, vlg), (6, true, v3r)]⟩,
  ⟨46, true, wc2, [(0, true, vlg), (6, true, v3r)]⟩,
  ⟨58, false, (.slice (.int .u8)), []⟩,
  ⟨60, false, (.slice tRange), []⟩,
  ⟨61, false, (.slice tWrite), []⟩,
  ⟨62, true, tTxn, [(0, false, (.int .i64)), (1, false, (.int .i64)), (2, false, (.int .i64)), (3, false, (.int .i64)), (4, false, (.slice tRange)), (5, false, (.slice tWrite)), (6, false, .bool), (7, false, .str)]⟩,
  ⟨63, true, tTxn, [(0, false, (.int .i64)), (1, false, (.int .i64)), (2, false, (.int .i64)), (3, false, (.int .i64)), (4, false, (.slice tRange)), (5, false, (.slice tWrite)), (6, false, .bool), (7, false, .str)]⟩,
  ⟨66, false, (.slice tRange), []⟩,
  ⟨68, true, tRange, [(0, false, .str), (1, false, .str)]⟩,
  ⟨69, true, tRange, [(0, false, .str), (1, false, .str)]⟩,
  ⟨73, true, tWrite, [(0, false, .str), (1, false, .str), (2, false, .bool)]⟩,
  ⟨74, true, tWrite, [(0, false, .str), (1, false, .str), (2, false, .bool)]⟩,
  ⟨75, true, tRange, [(0, false, .str), (1, false, .str)]⟩,
  ⟨76, true, tRange, [(0, false, .str), (1, false, .str)]⟩,
  ⟨79, false, (.slice tRange), []⟩,
  ⟨80, false, (.slice tWrite), []⟩,
  ⟨81, true, tTxn, [(0, false, (.int .i64)), (1, false, (.int .i64)), (2, false, (.int .i64)), (3, false, (.int .i64)), (4, false, (.slice tRange)), (5, false, (.slice tWrite)), (6, false, .bool), (7, false, .str)]⟩,
  ⟨82, true, tTxn, [(0, false, (.int .i64)), (1, false, (.int .i64)), (2, false, (.int .i64)), (3, false, (.int .i64)), (4, false, (.slice tRange)), (5, false, (.slice tWrite)), (6, false, .bool), (7, false, .str)]⟩,
  ⟨83, true, v2x, [(0, false, (.int .i64)), (1, true, tTxn), (9, false, .str), (10, false, .bool), (11, true, tBase)]⟩,
  ⟨84, true, v2x, [(0, false, (.int .i64)), (1, true, tTxn), (9, false, .str), (10, false, .bool), (11, true, tBase)]⟩,
  ⟨87, true, v2x, [(0, false, (.int .i64)), (1, true, tTxn), (9, false, .str), (10, false, .bool), (11, true, tBase)]⟩,
  ⟨88, true, v2x, [(0, false, (.int .i64)), (1, true, tTxn), (9, false, .str), (10, false, .bool), (11, true, tBase)]⟩,
  ⟨140, true, tVersion, [(0, false, .str), (1, false, .str), (2, false, .bool), (3, false, (.int .i64))]⟩,
  ⟨141, true, tVersion, [(0, false, .str), (1, false, .str), (2, false, .bool), (3, false, (.int .i64))]⟩,
  ⟨165, true, (.slice (.int .u8)), [(0, false, (.slice (.int .u8)))]⟩,
  ⟨166, true, (.slice (.int .u8)), [(0, false, (.slice (.int .u8)))]⟩,
  ⟨170, false, (.slice (.slice tTxn)), []⟩,
  ⟨185, true, (.pair .str (.pair (.int .i64) .bool)), [(0, false, .str), (1, false, (.int .i64)), (2, false, .bool)]⟩,
  ⟨186, true, (.pair .str (.pair (.int .i64) .bool)), [(0, false, .str), (1, false, (.int .i64)), (2, false, .bool)]⟩,
  ⟨192, true, (.pair .str (.pair (.int .i64) .bool)), [(0, false, .str), (1, false, (.int .i64)), (2, false, .bool)]⟩,
  ⟨193, true, (.pair .str (.pair (.int .i64) .bool)), [(0, false, .str), (1, false, (.int .i64)), (2, false, .bool)]⟩,
  ⟨203, false, (.slice (.int .i64)), []⟩,
  ⟨210, true, (.pair (.slice (.int .u8)) (.pair (.int .i64) (.int .i64))), [(0, false, (.slice (.int .u8))), (1, false, (.int .i64)), (2, false, (.int .i64))]⟩,
  ⟨211, true, (.pair (.slice (.int .u8)) (.pair (.int .i64) (.int .i64))), [(0, false, (.slice (.int .u8))), (1, false, (.int .i64)), (2, false, (.int .i64))]⟩,
  ⟨214, false, (.int .u64), []⟩,
  ⟨227, true, tVersion, [(0, false, .str), (1, false, .str), (2, false, .bool), (3, false, (.int .i64))]⟩,
  ⟨253, true, tPut, [(0, false, (.int .i64)), (1, false, .str)]⟩,
  ⟨254, true, tPut, [(0, false, (.int .i64)), (1, false, .str)]⟩,
  ⟨255, true, tPut, [(0, false, (.int .i64)), (1, false, .str)]⟩,
  ⟨260, false, (.int .i64), []⟩,
  ⟨269, false, (.int .u32), []⟩,
  ⟨271, false, (.int .u64), []⟩,
  ⟨273, true, tRange, [(0, false, .str), (1, false, .str)]⟩,
  ⟨275, true, tWrite, [(0, false, .str), (1, false, .str), (2, false, .bool)]⟩,
  ⟨283, false, (.int .u64), []⟩,
  ⟨317, false, (.int .u8), []⟩,
  ⟨318, false, (.int .u8), []⟩,
  ⟨320, false, (.int .i32), []⟩,
  ⟨321, false, (.int .i32), []⟩]
def eqs : List (Nat × Ty) := []
def inp : List Nat := [20, 21, 53, 54, 66, 75, 87, 88, 118, 122, 123, 124, 139, 163, 169]
def ones : List Nat := [1, 15, 16, 17, 34, 35, 47, 48, 49, 50, 51, 52, 53, 54, 55, 56, 57, 59, 64, 65, 67, 70, 72, 77, 78, 85, 86, 89, 90, 91, 92, 93, 94, 95, 96, 97, 98, 99, 100, 101, 102, 103, 104, 105, 106, 107, 108, 110, 111, 113, 114, 115, 117, 118, 120, 121, 122, 123, 124, 125, 126, 127, 128, 129, 130, 131, 132, 133, 134, 135, 136, 137, 138, 139, 142, 143, 144, 145, 146, 147, 148, 149, 150, 151, 152, 153, 154, 155, 156, 157, 158, 159, 160, 161, 162, 163, 164, 167, 168, 169, 171, 172, 173, 174, 175, 176, 177, 178, 179, 180, 181, 182, 183, 184, 187, 188, 189, 190, 191, 194, 196, 198, 199, 200, 201, 202, 204, 205, 206, 207, 208, 209, 212, 213, 215, 216, 217, 218, 219, 220, 221, 222, 224, 225, 226, 228, 229, 230, 231, 232, 233, 234, 235, 236, 237, 238, 239, 240, 241, 242, 244, 246, 248, 249, 250, 251, 252, 256, 257, 258, 259, 262, 263, 264, 265, 267, 268, 270, 272, 274, 276, 277, 278, 279, 280, 281, 282, 284, 285, 286, 287, 288, 290, 291, 294, 298, 299, 300, 301, 303, 305, 307, 308, 310, 311, 319]
theorem wus : tab.all (v65 Try.prog) = true := by kernel_rfl
theorem wva : eqs.all (fun p => wj5 Try.prog p.1 p.2) = true := by kernel_rfl
theorem wv0 : v56 tab eqs = true := by kernel_rfl
theorem wqx : ones.all (v4k Try.prog) = true := by kernel_rfl
theorem follows : Try.prog.follows .mixedOrders = true := by kernel_rfl
def G0 : Glob := wzw tab eqs inp ones
theorem G0_ok : GlobOk Try.prog G0 := wpb wus wva wv0 wqx
end
end Go.VE
