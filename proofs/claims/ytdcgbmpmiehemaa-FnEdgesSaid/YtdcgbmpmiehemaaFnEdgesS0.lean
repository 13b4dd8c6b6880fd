/- The seat: its types; written by gen.py. -/

import Derived.Test.YtdcgbmpmiehemaaFnEdgesN

import Derived.Test.YtdcgbmpmiehemaaProg

import Derived.KernelRfl

namespace Go.VE

open Go.Proofs

noncomputable section

set_option linter.unusedVariables false
set_option linter.unusedSimpArgs false
set_option maxRecDepth 100000


def tab : List TInfo := [
  ⟨2, false, (.int .i64), []⟩,
  ⟨3, false, (.int .i64), []⟩,
  ⟨4, false, .bool, []⟩,
  ⟨5, false, (.int .u8), []⟩,
  ⟨6, false, (.int .u8), []⟩,
  ⟨7, true, (.pair (.int .i64) (.pair (.int .i64) (.pair .bool (.int .u8)))), [(0, false, (.int .i64)), (1, false, (.int .i64)), (2, false, .bool), (3, false, (.int .u8))]⟩,
  ⟨8, true, (.pair (.int .i64) (.pair (.int .i64) (.pair .bool (.int .u8)))), [(0, false, (.int .i64)), (1, false, (.int .i64)), (2, false, .bool), (3, false, (.int .u8))]⟩,
  ⟨9, false, .str, []⟩,
  ⟨10, false, .str, []⟩,
  ⟨11, false, .str, []⟩,
  ⟨12, false, (.int .u64), []⟩,
  ⟨13, true, (.pair .str (.int .u64)), [(0, false, .str), (1, false, (.int .u64))]⟩,
  ⟨14, true, (.pair .str (.int .u64)), [(0, false, .str), (1, false, (.int .u64))]⟩,
  ⟨21, false, (.int .i32), []⟩,
  ⟨22, false, (.slice tRange), []⟩,
  ⟨23, false, (.slice tWrite), []⟩,
  ⟨24, true, tTxn, [(0, false, (.int .i64)), (1, false, (.int .i64)), (2, false, (.int .i64)), (3, false, (.int .i64)), (4, false, (.slice tRange)), (5, false, (.slice tWrite)), (6, false, .bool), (7, false, .str)]⟩,
  ⟨25, true, tTxn, [(0, false, (.int .i64)), (1, false, (.int .i64)), (2, false, (.int .i64)), (3, false, (.int .i64)), (4, false, (.slice tRange)), (5, false, (.slice tWrite)), (6, false, .bool), (7, false, .str)]⟩,
  ⟨28, false, (.slice tRange), []⟩,
  ⟨29, false, (.slice tWrite), []⟩,
  ⟨30, true, tTxn, [(0, false, (.int .i64)), (1, false, (.int .i64)), (2, false, (.int .i64)), (3, false, (.int .i64)), (4, false, (.slice tRange)), (5, false, (.slice tWrite)), (6, false, .bool), (7, false, .str)]⟩,
  ⟨31, true, tTxn, [(0, false, (.int .i64)), (1, false, (.int .i64)), (2, false, (.int .i64)), (3, false, (.int .i64)), (4, false, (.slice tRange)), (5, false, (.slice tWrite)), (6, false, .bool), (7, false, .str)]⟩,
  ⟨34, false, (.slice (.int .u8)), []⟩,
  ⟨41, false, (.slice tTxn), []⟩,
  ⟨44, false, (.slice tTxn), []⟩,
  ⟨48, false, (.slice tVersion), []⟩,
  ⟨50, false, (.slice (.int .i64)), []⟩,
  ⟨54, false, (.slice tRange), []⟩,
  ⟨56, true, tRange, [(0, false, .str), (1, false, .str)]⟩,
  ⟨57, true, tRange, [(0, false, .str), (1, false, .str)]⟩,
  ⟨68, true, tBase, [(0, false, (.slice tVersion)), (1, false, (.slice tTxn)), (2, false, (.slice tTxn)), (3, false, (.int .i64)), (4, false, (.int .i64))]⟩,
  ⟨69, true, tBase, [(0, false, (.slice tVersion)), (1, false, (.slice tTxn)), (2, false, (.slice tTxn)), (3, false, (.int .i64)), (4, false, (.int .i64))]⟩,
  ⟨74, false, (.slice tVersion), []⟩,
  ⟨80, true, tEngine, [(0, true, tBase), (5, false, (.slice tTxn))]⟩,
  ⟨81, true, tEngine, [(0, true, tBase), (5, false, (.slice tTxn))]⟩,
  ⟨85, true, tBase, [(0, false, (.slice tVersion)), (1, false, (.slice tTxn)), (2, false, (.slice tTxn)), (3, false, (.int .i64)), (4, false, (.int .i64))]⟩,
  ⟨86, true, tBase, [(0, false, (.slice tVersion)), (1, false, (.slice tTxn)), (2, false, (.slice tTxn)), (3, false, (.int .i64)), (4, false, (.int .i64))]⟩,
  ⟨101, true, tWrite, [(0, false, .str), (1, false, .str), (2, false, .bool)]⟩,
  ⟨102, true, tWrite, [(0, false, .str), (1, false, .str), (2, false, .bool)]⟩,
  ⟨111, true, tVersion, [(0, false, .str), (1, false, .str), (2, false, .bool), (3, false, (.int .i64))]⟩,
  ⟨112, true, tVersion, [(0, false, .str), (1, false, .str), (2, false, .bool), (3, false, (.int .i64))]⟩,
  ⟨115, true, tRange, [(0, false, .str), (1, false, .str)]⟩,
  ⟨116, true, tRange, [(0, false, .str), (1, false, .str)]⟩,
  ⟨117, false, (.slice .str), []⟩,
  ⟨129, true, tVersion, [(0, false, .str), (1, false, .str), (2, false, .bool), (3, false, (.int .i64))]⟩,
  ⟨134, true, tRange, [(0, false, .str), (1, false, .str)]⟩,
  ⟨136, true, tWrite, [(0, false, .str), (1, false, .str), (2, false, .bool)]⟩,
  ⟨141, true, (.pair (.slice (.int .u8)) (.pair (.int .i64) (.int .i64))), [(0, false, (.slice (.int .u8))), (1, false, (.int .i64)), (2, false, (.int .i64))]⟩,
  ⟨142, true, (.pair (.slice (.int .u8)) (.pair (.int .i64) (.int .i64))), [(0, false, (.slice (.int .u8))), (1, false, (.int .i64)), (2, false, (.int .i64))]⟩,
  ⟨148, false, (.int .u64), []⟩,
  ⟨154, false, (.slice (.slice tVersion)), []⟩,
  ⟨167, false, (.int .i64), []⟩,
  ⟨176, false, (.int .u32), []⟩,
  ⟨178, false, (.int .u64), []⟩,
  ⟨179, false, (.int .u64), []⟩,
  ⟨195, false, (.int .u8), []⟩,
  ⟨196, false, (.int .u8), []⟩,
  ⟨199, false, (.int .i32), []⟩,
  ⟨200, false, (.int .i32), []⟩]

def eqs : List (Nat × Ty) := []

def inp : List Nat := [55, 65, 120, 121, 149, 150]

theorem tab_all : tab.all (chkOne Try.prog) = true := by kernel_rfl

theorem eqs_all : eqs.all (fun p => chkEq Try.prog p.1 p.2) = true := by kernel_rfl

theorem eqs_fit : eqsFit tab eqs = true := by kernel_rfl

theorem follows : Try.prog.follows .mixedOrders = true := by kernel_rfl

def G0 : Glob := baseG tab eqs inp

theorem G0_ok : GlobOk Try.prog G0 := baseG_ok tab_all eqs_all eqs_fit

end

end Go.VE
