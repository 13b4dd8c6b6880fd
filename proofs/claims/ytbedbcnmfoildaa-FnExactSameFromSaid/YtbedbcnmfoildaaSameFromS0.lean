/- The seat: its types; written by gen.py. -/

import Derived.Test.YtbedbcnmfoildaaSameFromN

import Derived.Test.YtbedbcnmfoildaaProg

import Derived.KernelRfl
import Derived.Test.YtbedbcnmfoildaaSameFromH

namespace Go.VE

open Go.Proofs

noncomputable section

set_option linter.unusedVariables false
set_option linter.unusedSimpArgs false
set_option maxRecDepth 100000


def tab : List TInfo := [
  ⟨2, false, (.int .i64), []⟩,
  ⟨3, false, (.int .i64), []⟩,
  ⟨4, false, .bool, []⟩,
  ⟨5, false, (.int .u8), []⟩,
  ⟨6, false, (.int .u8), []⟩,
  ⟨7, true, (.pair (.int .i64) (.pair (.int .i64) (.pair .bool (.int .u8)))), [(0, false, (.int .i64)), (1, false, (.int .i64)), (2, false, .bool), (3, false, (.int .u8))]⟩,
  ⟨8, true, (.pair (.int .i64) (.pair (.int .i64) (.pair .bool (.int .u8)))), [(0, false, (.int .i64)), (1, false, (.int .i64)), (2, false, .bool), (3, false, (.int .u8))]⟩,
  ⟨9, false, .str, []⟩,
  ⟨10, false, .str, []⟩,
  ⟨11, false, .str, []⟩,
  ⟨12, false, (.int .u64), []⟩,
  ⟨13, true, (.pair .str (.int .u64)), [(0, false, .str), (1, false, (.int .u64))]⟩,
  ⟨14, true, (.pair .str (.int .u64)), [(0, false, .str), (1, false, (.int .u64))]⟩,
  ⟨21, false, (.int .i32), []⟩,
  ⟨22, false, (.slice tVersion), []⟩,
  ⟨23, false, (.slice tTxn), []⟩,
  ⟨24, true, tBase, [(0, false, (.slice tVersion)), (1, false, (.slice tTxn)), (2, false, (.slice tTxn)), (3, false, (.int .i64)), (4, false, (.int .i64))]⟩,
  ⟨25, true, tBase, [(0, false, (.slice tVersion)), (1, false, (.slice tTxn)), (2, false, (.slice tTxn)), (3, false, (.int .i64)), (4, false, (.int .i64))]⟩,
  ⟨28, false, (.slice tVersion), []⟩,
  ⟨29, false, (.slice tTxn), []⟩,
  ⟨30, true, tBase, [(0, false, (.slice tVersion)), (1, false, (.slice tTxn)), (2, false, (.slice tTxn)), (3, false, (.int .i64)), (4, false, (.int .i64))]⟩,
  ⟨31, true, tBase, [(0, false, (.slice tVersion)), (1, false, (.slice tTxn)), (2, false, (.slice tTxn)), (3, false, (.int .i64)), (4, false, (.int .i64))]⟩,
  ⟨35, false, (.slice tRange), []⟩,
  ⟨36, false, (.slice tWrite), []⟩,
  ⟨37, true, tTxn, [(0, false, (.int .i64)), (1, false, (.int .i64)), (2, false, (.int .i64)), (3, false, (.int .i64)), (4, false, (.slice tRange)), (5, false, (.slice tWrite)), (6, false, .bool), (7, false, .str)]⟩,
  ⟨38, true, tTxn, [(0, false, (.int .i64)), (1, false, (.int .i64)), (2, false, (.int .i64)), (3, false, (.int .i64)), (4, false, (.slice tRange)), (5, false, (.slice tWrite)), (6, false, .bool), (7, false, .str)]⟩,
  ⟨42, false, (.slice tRange), []⟩,
  ⟨43, false, (.slice tWrite), []⟩,
  ⟨44, true, tTxn, [(0, false, (.int .i64)), (1, false, (.int .i64)), (2, false, (.int .i64)), (3, false, (.int .i64)), (4, false, (.slice tRange)), (5, false, (.slice tWrite)), (6, false, .bool), (7, false, .str)]⟩,
  ⟨45, true, tTxn, [(0, false, (.int .i64)), (1, false, (.int .i64)), (2, false, (.int .i64)), (3, false, (.int .i64)), (4, false, (.slice tRange)), (5, false, (.slice tWrite)), (6, false, .bool), (7, false, .str)]⟩,
  ⟨49, false, (.slice (.int .u8)), []⟩,
  ⟨64, true, tEngine, [(0, true, tBase), (5, false, (.slice tTxn))]⟩,
  ⟨65, true, tEngine, [(0, true, tBase), (5, false, (.slice tTxn))]⟩,
  ⟨68, true, tEngine, [(0, true, tBase), (5, false, (.slice tTxn))]⟩,
  ⟨69, true, tEngine, [(0, true, tBase), (5, false, (.slice tTxn))]⟩,
  ⟨73, true, tRange, [(0, false, .str), (1, false, .str)]⟩,
  ⟨74, true, tRange, [(0, false, .str), (1, false, .str)]⟩,
  ⟨78, true, tRange, [(0, false, .str), (1, false, .str)]⟩,
  ⟨85, true, tWrite, [(0, false, .str), (1, false, .str), (2, false, .bool)]⟩,
  ⟨86, true, tWrite, [(0, false, .str), (1, false, .str), (2, false, .bool)]⟩,
  ⟨89, true, tWrite, [(0, false, .str), (1, false, .str), (2, false, .bool)]⟩,
  ⟨98, false, (.slice tRange), []⟩,
  ⟨114, true, (.slice (.int .u8)), [(0, false, (.slice (.int .u8)))]⟩,
  ⟨115, true, (.slice (.int .u8)), [(0, false, (.slice (.int .u8)))]⟩,
  ⟨128, true, tVersion, [(0, false, .str), (1, false, .str), (2, false, .bool), (3, false, (.int .i64))]⟩,
  ⟨129, true, tVersion, [(0, false, .str), (1, false, .str), (2, false, .bool), (3, false, (.int .i64))]⟩,
  ⟨130, true, tVersion, [(0, false, .str), (1, false, .str), (2, false, .bool), (3, false, (.int .i64))]⟩,
  ⟨143, true, (.pair .str (.pair (.int .i64) .bool)), [(0, false, .str), (1, false, (.int .i64)), (2, false, .bool)]⟩,
  ⟨144, true, (.pair .str (.pair (.int .i64) .bool)), [(0, false, .str), (1, false, (.int .i64)), (2, false, .bool)]⟩,
  ⟨149, true, (.pair .str (.pair (.int .i64) .bool)), [(0, false, .str), (1, false, (.int .i64)), (2, false, .bool)]⟩,
  ⟨150, true, (.pair .str (.pair (.int .i64) .bool)), [(0, false, .str), (1, false, (.int .i64)), (2, false, .bool)]⟩,
  ⟨157, false, (.slice (.int .i64)), []⟩,
  ⟨164, true, tRange, [(0, false, .str), (1, false, .str)]⟩,
  ⟨165, true, tRange, [(0, false, .str), (1, false, .str)]⟩,
  ⟨168, false, (.slice .str), []⟩,
  ⟨178, true, (.pair (.slice (.int .u8)) (.pair (.int .i64) (.int .i64))), [(0, false, (.slice (.int .u8))), (1, false, (.int .i64)), (2, false, (.int .i64))]⟩,
  ⟨179, true, (.pair (.slice (.int .u8)) (.pair (.int .i64) (.int .i64))), [(0, false, (.slice (.int .u8))), (1, false, (.int .i64)), (2, false, (.int .i64))]⟩,
  ⟨198, false, (.slice (.slice tTxn)), []⟩,
  ⟨201, false, (.slice (.slice tVersion)), []⟩,
  ⟨209, false, (.int .u64), []⟩,
  ⟨216, false, (.int .i64), []⟩,
  ⟨225, false, (.int .u32), []⟩,
  ⟨227, false, (.int .u64), []⟩,
  ⟨229, false, (.int .u64), []⟩,
  ⟨243, false, (.int .u8), []⟩,
  ⟨244, false, (.int .u8), []⟩,
  ⟨247, false, (.int .i32), []⟩,
  ⟨248, false, (.int .i32), []⟩]

def eqs : List (Nat × Ty) := [(165, tRange)]

def inp : List Nat := [46, 47, 58, 70, 77, 122, 132, 152, 154, 197, 199, 202, 205, 206]

def ones : List Nat := [1, 15, 16, 17, 26, 27, 32, 33, 34, 39, 41, 46, 47, 48, 50, 52, 53, 54, 55, 56, 57, 58, 59, 60, 61, 62, 63, 66, 67, 70, 71, 72, 75, 77, 79, 80, 81, 83, 84, 87, 88, 90, 91, 92, 93, 94, 95, 96, 97, 99, 100, 101, 102, 103, 104, 105, 106, 107, 108, 109, 110, 111, 112, 113, 116, 117, 118, 119, 120, 121, 122, 123, 124, 125, 126, 127, 131, 132, 133, 134, 135, 136, 137, 138, 139, 140, 141, 142, 145, 146, 147, 148, 151, 152, 153, 154, 155, 156, 158, 159, 160, 161, 162, 163, 166, 167, 169, 170, 171, 172, 173, 174, 175, 176, 177, 180, 181, 182, 183, 184, 185, 186, 187, 188, 190, 192, 193, 194, 195, 196, 197, 199, 200, 202, 203, 204, 205, 206, 207, 208, 210, 211, 212, 213, 214, 215, 218, 219, 220, 221, 223, 224, 226, 228, 230, 231, 232, 233, 234, 235, 237, 245, 246]

theorem tab_all : tab.all (chkOne Try.prog) = true := by kernel_rfl

theorem eqs_all : eqs.all (fun p => chkEq Try.prog p.1 p.2) = true := by kernel_rfl

theorem eqs_fit : eqsFit tab eqs = true := by kernel_rfl

theorem ones_all : ones.all (chkOneC Try.prog) = true := by kernel_rfl

theorem follows : Try.prog.follows .mixedOrders = true := by kernel_rfl

def G0 : Glob := baseG tab eqs inp ones

theorem G0_ok : GlobOk Try.prog G0 := baseG_ok tab_all eqs_all eqs_fit ones_all

end

end Go.VE
