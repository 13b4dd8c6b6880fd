/- The seat: its types; written by gen2.py. -/

import Derived.Test.YtpljjegocfmbeaaGreatQN

import Derived.Test.YtpljjegocfmbeaaGreatProg

import Derived.KernelRfl
import Derived.Test.YtpljjegocfmbeaaGreatQI

namespace Go.VE

open Go.Proofs

noncomputable section

set_option linter.unusedVariables false
set_option linter.unusedSimpArgs false
set_option maxRecDepth 100000


def tab : List TInfo := [
  ⟨2, false, (.int .i64), []⟩,
  ⟨3, false, (.int .i64), []⟩,
  ⟨4, false, .bool, []⟩,
  ⟨5, false, (.int .u8), []⟩,
  ⟨6, false, (.int .u8), []⟩,
  ⟨7, true, (.pair (.int .i64) (.pair (.int .i64) (.pair .bool (.int .u8)))), [(0, false, (.int .i64)), (1, false, (.int .i64)), (2, false, .bool), (3, false, (.int .u8))]⟩,
  ⟨8, true, (.pair (.int .i64) (.pair (.int .i64) (.pair .bool (.int .u8)))), [(0, false, (.int .i64)), (1, false, (.int .i64)), (2, false, .bool), (3, false, (.int .u8))]⟩,
  ⟨9, false, .str, []⟩,
  ⟨10, false, .str, []⟩,
  ⟨11, false, .str, []⟩,
  ⟨12, false, (.int .u64), []⟩,
  ⟨13, true, (.pair .str (.int .u64)), [(0, false, .str), (1, false, (.int .u64))]⟩,
  ⟨14, true, (.pair .str (.int .u64)), [(0, false, .str), (1, false, (.int .u64))]⟩,
  ⟨21, false, (.int .i32), []⟩,
  ⟨22, false, (.slice (.int .u8)), []⟩,
  ⟨24, false, (.slice tVersion), []⟩,
  ⟨25, false, (.slice tTxn), []⟩,
  ⟨26, true, tBase, [(0, false, (.slice tVersion)), (1, false, (.slice tTxn)), (2, false, (.slice tTxn)), (3, false, (.int .i64)), (4, false, (.int .i64))]⟩,
  ⟨27, true, tBase, [(0, false, (.slice tVersion)), (1, false, (.slice tTxn)), (2, false, (.slice tTxn)), (3, false, (.int .i64)), (4, false, (.int .i64))]⟩,
  ⟨29, false, (.slice tWrite), []⟩,
  ⟨31, false, (.slice tRange), []⟩,
  ⟨32, true, tTxn, [(0, false, (.int .i64)), (1, false, (.int .i64)), (2, false, (.int .i64)), (3, false, (.int .i64)), (4, false, (.slice tRange)), (5, false, (.slice tWrite)), (6, false, .bool), (7, false, .str)]⟩,
  ⟨33, true, tTxn, [(0, false, (.int .i64)), (1, false, (.int .i64)), (2, false, (.int .i64)), (3, false, (.int .i64)), (4, false, (.slice tRange)), (5, false, (.slice tWrite)), (6, false, .bool), (7, false, .str)]⟩,
  ⟨50, false, (.slice tRange), []⟩,
  ⟨52, true, tRange, [(0, false, .str), (1, false, .str)]⟩,
  ⟨53, true, tRange, [(0, false, .str), (1, false, .str)]⟩,
  ⟨61, true, tWrite, [(0, false, .str), (1, false, .str), (2, false, .bool)]⟩,
  ⟨62, true, tWrite, [(0, false, .str), (1, false, .str), (2, false, .bool)]⟩,
  ⟨75, true, tVersion, [(0, false, .str), (1, false, .str), (2, false, .bool), (3, false, (.int .i64))]⟩,
  ⟨76, true, tVersion, [(0, false, .str), (1, false, .str), (2, false, .bool), (3, false, (.int .i64))]⟩,
  ⟨83, false, (.slice (.int .i64)), []⟩,
  ⟨84, true, tRange, [(0, false, .str), (1, false, .str)]⟩,
  ⟨85, true, tRange, [(0, false, .str), (1, false, .str)]⟩,
  ⟨86, false, (.slice .str), []⟩,
  ⟨91, true, tEngine, [(0, true, tBase), (5, false, (.slice tTxn))]⟩,
  ⟨92, true, tEngine, [(0, true, tBase), (5, false, (.slice tTxn))]⟩,
  ⟨93, false, (.slice tPut), []⟩,
  ⟨94, true, tDisk, [(0, false, (.slice .str)), (1, false, (.slice tPut))]⟩,
  ⟨95, true, tDisk, [(0, false, (.slice .str)), (1, false, (.slice tPut))]⟩,
  ⟨96, true, tStore, [(0, true, tEngine), (6, true, tDisk)]⟩,
  ⟨97, true, tStore, [(0, true, tEngine), (6, true, tDisk)]⟩,
  ⟨99, true, (.pair (.slice (.int .u8)) (.pair (.int .i64) (.int .i64))), [(0, false, (.slice (.int .u8))), (1, false, (.int .i64)), (2, false, (.int .i64))]⟩,
  ⟨100, true, (.pair (.slice (.int .u8)) (.pair (.int .i64) (.int .i64))), [(0, false, (.slice (.int .u8))), (1, false, (.int .i64)), (2, false, (.int .i64))]⟩,
  ⟨117, false, (.slice (.slice tTxn)), []⟩,
  ⟨149, false, (.int .u64), []⟩,
  ⟨162, true, tRecord, [(0, false, (.int .i64)), (1, true, tTxn), (9, false, .str), (10, false, .bool), (11, true, tBase)]⟩,
  ⟨163, true, tRecord, [(0, false, (.int .i64)), (1, true, tTxn), (9, false, .str), (10, false, .bool), (11, true, tBase)]⟩,
  ⟨196, false, (.int .u32), []⟩,
  ⟨204, true, (.pair .str (.pair (.int .i64) .bool)), [(0, false, .str), (1, false, (.int .i64)), (2, false, .bool)]⟩,
  ⟨205, true, (.pair .str (.pair (.int .i64) .bool)), [(0, false, .str), (1, false, (.int .i64)), (2, false, .bool)]⟩,
  ⟨214, true, tPut, [(0, false, (.int .i64)), (1, false, .str)]⟩,
  ⟨215, true, tPut, [(0, false, (.int .i64)), (1, false, .str)]⟩,
  ⟨231, false, (.int .u8), []⟩,
  ⟨232, false, (.int .u8), []⟩,
  ⟨235, false, (.int .i32), []⟩,
  ⟨236, false, (.int .i32), []⟩]

def g0 : GO Tryz.prog := .base (tab := tab) (eqs := [(53, tRange), (62, tWrite), (76, tVersion), (85, tRange)]) (inp := [45, 97, 103]) (ones := [1, 15, 16, 17, 23, 28, 30, 34, 35, 36, 38, 40, 41, 42, 43, 45, 46, 47, 48, 49, 51, 54, 55, 57, 58, 60, 63, 64, 65, 66, 67, 68, 69, 70, 71, 72, 73, 74, 77, 78, 79, 80, 81, 82, 87, 88, 89, 90, 98, 101, 102, 103, 104, 105, 106, 107, 108, 109, 110, 111, 112, 113, 114, 115, 116, 118, 119, 120, 121, 122, 123, 124, 125, 126, 127, 128, 129, 130, 131, 132, 133, 134, 136, 138, 140, 142, 143, 144, 145, 147, 148, 150, 152, 153, 154, 155, 156, 158, 159, 160, 161, 165, 166, 167, 168, 169, 170, 171, 172, 173, 174, 175, 176, 177, 178, 180, 181, 182, 183, 184, 185, 186, 187, 188, 189, 190, 192, 193, 194, 195, 197, 198, 199, 200, 202, 203, 206, 207, 209, 211, 212, 213, 216, 217, 218, 219, 221, 222, 223, 225, 233, 234]) (by kernel_rfl) (by kernel_rfl) (by kernel_rfl) (by kernel_rfl) (by kernel_rfl)

end

end Go.VE
