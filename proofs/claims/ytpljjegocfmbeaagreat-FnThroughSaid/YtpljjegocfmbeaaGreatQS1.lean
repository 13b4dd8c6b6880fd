/- Each function told by its native program; written by gen2.py. -/

import Derived.Test.YtpljjegocfmbeaaGreatQS0

namespace Go.VE

open Go.Proofs

noncomputable section

set_option linter.unusedVariables false
set_option linter.unusedSimpArgs false
set_option maxRecDepth 100000


def g1 := g0.fn 6 Tryz.func6 ⟨[.l (.int .u8)], []⟩ [⟨[.b], []⟩] laws_big_k [] (by kernel_rfl) (fun h => by rw [laws_big_k, fn_f]; kernel_rfl) (.n)

def g2 := g1.fn 38 Tryz.func38 ⟨[.l (.int .u8)], []⟩ [⟨[.bp 0 0], [.box [.g false (.pair (.slice (.int .u8)) (.pair (.int .i64) (.int .i64)))]]⟩] spec_l01New_k [.lp 0 [0, 3, 4] [] ⟨[.kl (.int .u8), .i, .i], []⟩ [en (.exit 0) [.kl (.int .u8), .i, .i] []] spec_l01New_b0] (by kernel_rfl) (fun h => by rw [spec_l01New_k, fn_f]; kernel_rfl) (.c (fun c x => by kernel_rfl) <| .n)

def g3 := g2.fn 109 Tryz.func109 ⟨[.bp 0 0], [.box [.g false (.pair (.slice (.int .u8)) (.pair (.int .i64) (.int .i64)))]]⟩ [⟨[.i], [.box [.g false (.pair (.slice (.int .u8)) (.pair (.int .i64) (.int .i64)))]]⟩] spec_l01Byte_k [.pl 2000002 [0, 2, 4, 6, 8, 10, 12, 14, 16, 18, 20, 22, 24],
  .pl 2000003 [0, 2, 4, 6, 8, 10, 12, 14, 16, 18],
  .pl 2000004 [0, 2, 4, 6, 8, 10, 12, 14, 16, 18, 20, 22, 24, 26, 28]] (by kernel_rfl) (fun h => by rw [spec_l01Byte_k, fn_f]; kernel_rfl) (.n)

def g4 := g3.fn 77 Tryz.func77 ⟨[.bp 0 0, .i], [.box [.g false (.pair (.slice (.int .u8)) (.pair (.int .i64) (.int .i64)))]]⟩ [⟨[.i], [.box [.g false (.pair (.slice (.int .u8)) (.pair (.int .i64) (.int .i64)))]]⟩] spec_l01Below_k [] (by kernel_rfl) (fun h => by rw [spec_l01Below_k, fn_f]; kernel_rfl) (.n)

def g5 := g4.fn 83 Tryz.func83 ⟨[.bp 0 0, .l .str], [.box [.g false (.pair (.slice (.int .u8)) (.pair (.int .i64) (.int .i64)))]]⟩ [⟨[.s], [.box [.g false (.pair (.slice (.int .u8)) (.pair (.int .i64) (.int .i64)))]]⟩] spec_l01Pick_k [] (by kernel_rfl) (fun h => by rw [spec_l01Pick_k, fn_f]; kernel_rfl) (.n)

def g6 := g5.fn 110 Tryz.func110 ⟨[.bp 0 0], [.box [.g false (.pair (.slice (.int .u8)) (.pair (.int .i64) (.int .i64)))]]⟩ [⟨[.s], [.box [.g false (.pair (.slice (.int .u8)) (.pair (.int .i64) (.int .i64)))]]⟩] spec_l05Key_k [] (by kernel_rfl) (fun h => by rw [spec_l05Key_k, fn_f]; kernel_rfl) (.n)

def g7 := g6.fn 111 Tryz.func111 ⟨[.bp 0 0, .i], [.box [.g false (.pair (.slice (.int .u8)) (.pair (.int .i64) (.int .i64)))]]⟩ [⟨[.b], [.box [.g false (.pair (.slice (.int .u8)) (.pair (.int .i64) (.int .i64)))]]⟩] spec_l01Once_k [] (by kernel_rfl) (fun h => by rw [spec_l01Once_k, fn_f]; kernel_rfl) (.n)

def g8 := g7.fn 113 Tryz.func113 ⟨[.bp 0 0], [.box [.g false (.pair (.slice (.int .u8)) (.pair (.int .i64) (.int .i64)))]]⟩ [⟨[.a tRange], [.box [.g false (.pair (.slice (.int .u8)) (.pair (.int .i64) (.int .i64)))]]⟩] spec_l05Range_k [] (by kernel_rfl) (fun h => by rw [spec_l05Range_k, fn_f]; kernel_rfl) (.n)

def g9 := g8.fn 84 Tryz.func84 ⟨[.bp 0 0], [.box [.g false (.pair (.slice (.int .u8)) (.pair (.int .i64) (.int .i64)))]]⟩ [⟨[.own 1], [.box [.g false (.pair (.slice (.int .u8)) (.pair (.int .i64) (.int .i64)))], .arr false tRange]⟩] spec_l05Ranges_k [.lp 0 [0, 3, 4] [] ⟨[.bp 0 0, .own 1, .i], [.box [.g false (.pair (.slice (.int .u8)) (.pair (.int .i64) (.int .i64)))], .arr false tRange]⟩ [en (.exit 0) [.bp 0 0, .own 1, .i] [.box [.g false (.pair (.slice (.int .u8)) (.pair (.int .i64) (.int .i64)))], .arr false tRange]] spec_l05Ranges_b0] (by kernel_rfl) (fun h => by rw [spec_l05Ranges_k, fn_f]; kernel_rfl) (.c (fun c x => by kernel_rfl) <| .n)

def g10 := g9.fn 79 Tryz.func79 ⟨[.bp 0 0], [.box [.g false (.pair (.slice (.int .u8)) (.pair (.int .i64) (.int .i64)))]]⟩ [⟨[.a tWrite], [.box [.g false (.pair (.slice (.int .u8)) (.pair (.int .i64) (.int .i64)))]]⟩] spec_l05Write_k [] (by kernel_rfl) (fun h => by rw [spec_l05Write_k, fn_f]; kernel_rfl) (.n)

def g11 := g10.fn 78 Tryz.func78 ⟨[.l tWrite, .a tWrite], []⟩ [⟨[.own 0], [.arr false tWrite]⟩] spec_PutWrite_k [.lp 0 [0, 3, 5, 6] [] ⟨[.kl tWrite, .bp 0 0, .own 1, .i], [.box [.g true tWrite], .arr false tWrite]⟩ [en (.exit 0) [.kl tWrite, .bp 0 0, .own 1, .i] [.box [.g true tWrite], .arr false tWrite]] spec_PutWrite_b0,
  .lp 2 [0, 3, 5, 7] [] ⟨[.kl tWrite, .bp 0 0, .own 1, .i], [.box [.g true tWrite], .arr false tWrite]⟩ [en (.exit 2) [.kl tWrite, .bp 0 0, .own 1, .i] [.box [.g true tWrite], .arr false tWrite]] spec_PutWrite_b2,
  .pl 2000005 [0, 2, 4, 6, 8, 10, 12, 14],
  .pl 2000011 [0, 2, 4, 6, 8, 10, 12, 14]] (by kernel_rfl) (fun h => by rw [spec_PutWrite_k, fn_f]; kernel_rfl) (.c (fun c x => by kernel_rfl) <| .c (fun c x => by kernel_rfl) <| .n)

def g12 := g11.fn 39 Tryz.func39 ⟨[.bp 0 0], [.box [.g false (.pair (.slice (.int .u8)) (.pair (.int .i64) (.int .i64)))]]⟩ [⟨[.l tWrite], [.box [.g false (.pair (.slice (.int .u8)) (.pair (.int .i64) (.int .i64)))]]⟩] spec_l05Writes_k [.lp 0 [0, 3, 4] [some (.slice (.slice .bool))] ⟨[.bp 0 0, .l tWrite, .i], [.box [.g false (.pair (.slice (.int .u8)) (.pair (.int .i64) (.int .i64)))]]⟩ [en (.exit 0) [.bp 0 0, .l tWrite, .i] [.box [.g false (.pair (.slice (.int .u8)) (.pair (.int .i64) (.int .i64)))]]] spec_l05Writes_b0] (by kernel_rfl) (fun h => by rw [spec_l05Writes_k, fn_f]; kernel_rfl) (.c (fun c x => by kernel_rfl) <| .n)

def g13 := g12.fn 140 Tryz.func140 ⟨[], []⟩ [⟨[.agg [.nilS, .nilS, .nilS, .i, .i]], []⟩] spec_BaseNew_k [] (by kernel_rfl) (fun h => by rw [spec_BaseNew_k, fn_f]; kernel_rfl) (.n)

def g14 := g13.fn 126 Tryz.func126 ⟨[], []⟩ [⟨[.agg [.nilS, .nilS, .nilS, .i, .i, .nilS]], []⟩] spec_EngineNew_k [] (by kernel_rfl) (fun h => by rw [spec_EngineNew_k, fn_f]; kernel_rfl) (.n)

def g15 := g14.fn 142 Tryz.func142 ⟨[], []⟩ [⟨[.i], []⟩] spec_l04Sectors_k [] (by kernel_rfl) (fun h => by rw [spec_l04Sectors_k, fn_f]; kernel_rfl) (.n)

def g16 := g15.fn 66 Tryz.func66 ⟨[.i, .i, .i], []⟩ [⟨[.b], []⟩] spec_l01In_k [] (by kernel_rfl) (fun h => by rw [spec_l01In_k, fn_f]; kernel_rfl) (.n)

def g17 := g16.fn 117 Tryz.func117 ⟨[.i, .h false (.int .u8)], []⟩ [⟨[.s], []⟩] spec_l01Long_k [.lp 0 [0, 1, 5, 6] [] ⟨[.ki, .h true (.int .u8), .own 0, .i], [.arr false (.int .u8)]⟩ [en (.exit 0) [.ki, .h true (.int .u8), .own 0, .i] [.arr false (.int .u8)]] spec_l01Long_b0] (by kernel_rfl) (fun h => by rw [spec_l01Long_k, fn_f]; kernel_rfl) (.c (fun c x => by kernel_rfl) <| .n)

def g18 := g17.fn 158 Tryz.func158 ⟨[], []⟩ [⟨[.s], []⟩] spec_l03Zero_k [] (by kernel_rfl) (fun h => by rw [spec_l03Zero_k, fn_f]; kernel_rfl) (.n)

def g19 := g18.fn 141 Tryz.func141 ⟨[.i], []⟩ [⟨[.tup [.agg [.l .str, .nilS], .b]], []⟩] spec_DiskNew_k [.lp 0 [0, 2, 4, 5] [none, none, none, none, none, none, some .str] ⟨[.ki, .bp 0 0, .bp 1 0, .i], [.box [.nilS, .nilS], .box [.own 2, .nilS], .arr false .str]⟩ [en (.exit 0) [.ki, .bp 0 0, .bp 1 0, .i] [.box [.nilS, .nilS], .box [.own 2, .nilS], .arr false .str]] spec_DiskNew_b0,
  .wd [some (.slice (.slice .bool)), some .str]] (by kernel_rfl) (fun h => by rw [spec_DiskNew_k, fn_f]; kernel_rfl) (.c (fun c x => by kernel_rfl) <| .n)

def g20 := g19.fn 127 Tryz.func127 ⟨[], []⟩ [⟨[.agg [.l .str, .nilS]], []⟩] spec_LogNew_k [] (by kernel_rfl) (fun h => by rw [spec_LogNew_k, fn_f]; kernel_rfl) (.n)

def g21 := g20.fn 107 Tryz.func107 ⟨[], []⟩ [⟨[.agg [.nilS, .nilS, .nilS, .i, .i, .nilS, .l .str, .nilS]], []⟩] spec_StoreNew_k [] (by kernel_rfl) (fun h => by rw [spec_StoreNew_k, fn_f]; kernel_rfl) (.n)

def g22 := g21.fn 52 Tryz.func52 ⟨[.a tTxn], []⟩ [⟨[.agg [.i, .i, .i, .i, .own 0, .own 1, .b, .s]], [.arr false tRange, .arr false tWrite]⟩] spec_l07Copy_k [] (by kernel_rfl) (fun h => by rw [spec_l07Copy_k, fn_f]; kernel_rfl) (.n)

def g23 := g22.fn 88 Tryz.func88 ⟨[.l tTxn], []⟩ [⟨[.own 0], [.arr false tTxn]⟩] spec_l09Txns_k [.lp 0 [0, 3, 4] [] ⟨[.kl tTxn, .own 0, .i], [.arr false tTxn]⟩ [en (.exit 0) [.kl tTxn, .own 0, .i] [.arr false tTxn]] spec_l09Txns_b0] (by kernel_rfl) (fun h => by rw [spec_l09Txns_k, fn_f]; kernel_rfl) (.c (fun c x => by kernel_rfl) <| .n)

def g24 := g23.fn 51 Tryz.func51 ⟨[.a tBase], []⟩ [⟨[.agg [.own 0, .own 1, .own 2, .i, .i]], [.arr false tVersion, .arr false tTxn, .arr false tTxn]⟩] spec_l09Copy_k [.pl 1000001 [2]] (by kernel_rfl) (fun h => by rw [spec_l09Copy_k, fn_f]; kernel_rfl) (.n)

def g25 := g24.fn 143 Tryz.func143 ⟨[.a tEngine], []⟩ [⟨[.agg [.own 0, .own 1, .own 2, .i, .i, .own 3]], [.arr false tVersion, .arr false tTxn, .arr false tTxn, .arr false tTxn]⟩] spec_l11Copy_k [.pl 2000001 [0, 2, 6, 8, 5, 11, 12, 14]] (by kernel_rfl) (fun h => by rw [spec_l11Copy_k, fn_f]; kernel_rfl) (.n)

def g26 := g25.fn 98 Tryz.func98 ⟨[.s], []⟩ [⟨[.b], []⟩] spec_KeyOk_k [.lp 0 [0, 2, 3] [] ⟨[.ks, .ff, .i], []⟩ [en .ret [.ks, .ff, .i] [], en (.exit 0) [.ks, .ff, .i] []] spec_KeyOk_b0] (by kernel_rfl) (fun h => by rw [spec_KeyOk_k, fn_f]; kernel_rfl) (.c (fun c x => by kernel_rfl) <| .n)

def g27 := g26.fn 65 Tryz.func65 ⟨[.l tVersion], []⟩ [⟨[.b], []⟩] spec_VersionsOk_k [.lp 0 [0, 2, 3] [] ⟨[.kl tVersion, .ff, .i], []⟩ [en .ret [.kl tVersion, .ff, .i] [], en (.exit 0) [.kl tVersion, .ff, .i] []] spec_VersionsOk_b0,
  .pl 2000007 [0, 2, 4, 6, 8, 10, 12, 14, 16, 18, 20, 22, 24, 26, 28, 30, 32, 34, 36, 38, 40, 42, 44, 46, 48, 50, 52, 54, 56, 58, 60, 62, 64, 66, 68]] (by kernel_rfl) (fun h => by rw [spec_VersionsOk_k, fn_f]; kernel_rfl) (.c (fun c x => by kernel_rfl) <| .n)

def g28 := g27.fn 121 Tryz.func121 ⟨[.a tWrite], []⟩ [⟨[.b], []⟩] spec_WriteOk_k [] (by kernel_rfl) (fun h => by rw [spec_WriteOk_k, fn_f]; kernel_rfl) (.n)

def g29 := g28.fn 99 Tryz.func99 ⟨[.l tWrite], []⟩ [⟨[.b], []⟩] spec_WritesOk_k [.lp 0 [0, 2, 3] [] ⟨[.kl tWrite, .ff, .i], []⟩ [en .ret [.kl tWrite, .ff, .i] [], en (.exit 0) [.kl tWrite, .ff, .i] []] spec_WritesOk_b0,
  .pl 2000004 [0, 2, 4, 6, 9, 10, 12, 14, 16, 18, 20, 22, 24, 26, 28, 30, 32, 34, 36, 38, 40, 42, 44, 46]] (by kernel_rfl) (fun h => by rw [spec_WritesOk_k, fn_f]; kernel_rfl) (.c (fun c x => by kernel_rfl) <| .n)

def g30 := g29.fn 100 Tryz.func100 ⟨[.a tRange], []⟩ [⟨[.b], []⟩] spec_RangeOk_k [] (by kernel_rfl) (fun h => by rw [spec_RangeOk_k, fn_f]; kernel_rfl) (.n)

def g31 := g30.fn 67 Tryz.func67 ⟨[.a tTxn], []⟩ [⟨[.b], []⟩] spec_TxnOk_k [.ct 5000010 [1, 2] [] ⟨[.bp 0 0, .ff], [.box [.g true tTxn]]⟩ [en .ret [.bp 0 0, .b] [.box [.g true tTxn]]] spec_TxnOk_j5000010,
  .lp 0 [1, 2, 3] [] ⟨[.bp 0 0, .ff, .i], [.box [.g true tTxn]]⟩ [en .ret [.bp 0 0, .ff, .i] [.box [.g true tTxn]], en (.exit 0) [.bp 0 0, .ff, .i] [.box [.g true tTxn]]] spec_TxnOk_b0] (by kernel_rfl) (fun h => by rw [spec_TxnOk_k, fn_f]; kernel_rfl) (.c (fun c x => by kernel_rfl) <| .c (fun c x => by kernel_rfl) <| .n)

def g32 := g31.fn 27 Tryz.func27 ⟨[.a tBase], []⟩ [⟨[.b], []⟩] spec_BaseOk_k [.lp 0 [1, 2, 3] [] ⟨[.bp 0 0, .ff, .i], [.box [.g true tBase]]⟩ [en .ret [.bp 0 0, .ff, .i] [.box [.g true tBase]], en (.exit 0) [.bp 0 0, .ff, .i] [.box [.g true tBase]]] spec_BaseOk_b0,
  .lp 2 [1, 2, 4, 5] [] ⟨[.bp 0 0, .ff, .own 1, .i], [.box [.g true tBase], .arr false (.int .i64)]⟩ [en .ret [.bp 0 0, .ff, .own 1, .i] [.box [.g true tBase], .arr false (.int .i64)], en (.exit 2) [.bp 0 0, .ff, .own 1, .i] [.box [.g true tBase], .arr false (.int .i64)]] spec_BaseOk_b2,
  .lp 4 [1, 2, 4, 7] [] ⟨[.bp 0 0, .ff, .own 1, .i], [.box [.g true tBase], .arr false (.int .i64)]⟩ [en .ret [.bp 0 0, .ff, .own 1, .i] [.box [.g true tBase], .arr false (.int .i64)], en (.exit 4) [.bp 0 0, .ff, .own 1, .i] [.box [.g true tBase], .arr false (.int .i64)]] spec_BaseOk_b4,
  .lp 8 [1, 2, 4, 9, 10] [] ⟨[.bp 0 0, .ff, .kl (.int .i64), .ki, .i], [.box [.g true tBase]]⟩ [en .ret [.bp 0 0, .ff, .kl (.int .i64), .ki, .i] [.box [.g true tBase]], en (.exit 8) [.bp 0 0, .ff, .kl (.int .i64), .ki, .i] [.box [.g true tBase]]] spec_BaseOk_b8,
  .lp 6 [1, 2, 4, 9] [some (.slice (.slice .bool))] ⟨[.bp 0 0, .ff, .kl (.int .i64), .i], [.box [.g true tBase]]⟩ [en (.exit 6) [.bp 0 0, .ff, .kl (.int .i64), .i] [.box [.g true tBase]], en .ret [.bp 0 0, .ff, .kl (.int .i64), .i] [.box [.g true tBase]]] spec_BaseOk_b6,
  .pl 2000006 [0, 2, 4, 6, 8, 10, 12, 14, 16],
  .pl 2000013 [0, 3, 4, 6, 8, 10, 12, 14, 16, 18, 20, 22, 24, 26, 28, 30, 32, 34, 36, 38, 40, 42, 44, 46, 48, 50, 52, 54, 56, 58, 60],
  .pl 2000020 [0, 3, 4, 6, 8, 10, 12, 14, 16, 18, 20, 22, 24, 26, 28, 30, 32, 34, 36, 38, 40, 42, 44, 46, 48, 50, 52, 54, 56, 58, 60],
  .pl 2000029 [0, 2, 4, 6, 8, 10, 12, 14, 16]] (by kernel_rfl) (fun h => by rw [spec_BaseOk_k, fn_f]; kernel_rfl) (.c (fun c x => by kernel_rfl) <| .c (fun c x => by kernel_rfl) <| .c (fun c x => by kernel_rfl) <| .c (fun c x => by kernel_rfl) <| .c (fun c x => by kernel_rfl) <| .n)

def g33 := g32.fn 144 Tryz.func144 ⟨[.a tEngine], []⟩ [⟨[.b], []⟩] spec_EngineOk_k [.lp 2 [1, 2, 3, 4, 5] [] ⟨[.bp 0 0, .ff, .ki, .bp 1 0, .i], [.box [.g true tEngine], .box [.g true tTxn]]⟩ [en .ret [.bp 0 0, .ff, .ki, .bp 1 0, .i] [.box [.g true tEngine], .box [.g true tTxn]], en (.exit 2) [.bp 0 0, .ff, .ki, .bp 1 0, .i] [.box [.g true tEngine], .box [.g true tTxn]]] spec_EngineOk_b2,
  .lp 4 [1, 2, 3, 4, 6] [] ⟨[.bp 0 0, .ff, .ki, .bp 1 0, .i], [.box [.g true tEngine], .box [.g true tTxn]]⟩ [en .ret [.bp 0 0, .ff, .ki, .bp 1 0, .i] [.box [.g true tEngine], .box [.g true tTxn]], en (.exit 4) [.bp 0 0, .ff, .ki, .bp 1 0, .i] [.box [.g true tEngine], .box [.g true tTxn]]] spec_EngineOk_b4,
  .lp 0 [1, 2, 3] [] ⟨[.bp 0 0, .ff, .i], [.box [.g true tEngine]]⟩ [en .ret [.bp 0 0, .ff, .i] [.box [.g true tEngine]], en (.exit 0) [.bp 0 0, .ff, .i] [.box [.g true tEngine]]] spec_EngineOk_b0,
  .pl 2000007 [0, 3, 4, 6, 8, 10, 12, 14, 16, 18, 20, 22, 24, 26, 28, 30, 32, 34, 36, 38, 40, 42, 44, 46, 48, 50, 52, 54, 56, 58, 60, 62, 64, 66, 68, 70, 72, 74, 76, 78],
  .pl 2000012 [0, 2, 4, 6, 8, 10, 12, 14, 16, 18],
  .pl 2000017 [0, 2, 4, 6, 8, 10, 12, 14, 16, 18]] (by kernel_rfl) (fun h => by rw [spec_EngineOk_k, fn_f]; kernel_rfl) (.c (fun c x => by kernel_rfl) <| .c (fun c x => by kernel_rfl) <| .c (fun c x => by kernel_rfl) <| .n)

def g34 := g33.fn 128 Tryz.func128 ⟨[.a tEngine], []⟩ [⟨[.tup [.a tEngine, .i, .i]], []⟩] spec_Begin_k [.wd [some (.slice (.slice .bool))]] (by kernel_rfl) (fun h => by rw [spec_Begin_k, fn_f]; kernel_rfl) (.n)

def g35 := g34.fn 145 Tryz.func145 ⟨[.a tEngine, .i], []⟩ [⟨[.i], []⟩] spec_OpenAt_k [.lp 0 [1, 2, 4, 5] [] ⟨[.ki, .bp 0 0, .z, .i], [.box [.g true tEngine]]⟩ [en .ret [.ki, .bp 0 0, .i, .i] [.box [.g true tEngine]], en (.exit 0) [.ki, .bp 0 0, .z, .i] [.box [.g true tEngine]]] spec_OpenAt_b0] (by kernel_rfl) (fun h => by rw [spec_OpenAt_k, fn_f]; kernel_rfl) (.c (fun c x => by kernel_rfl) <| .n)

def g36 := g35.fn 146 Tryz.func146 ⟨[.a tTxn, .a tRange], []⟩ [⟨[.tup [.a tTxn, .b]], []⟩] spec_ReadRange_k [.lp 0 [2, 3, 4, 5, 6, 7] [none, none, none, none, none, none, none, none, none, none, none, none, none, none, none, none, none, none, none, none, some tRange, some tWrite] ⟨[.bp 0 0, .bp 1 0, .bp 2 0, .ff, .bp 3 0, .i], [.box [.g true tTxn], .box [.g true tRange], .box [.z, .z, .z, .z, .own 4, .own 5, .g false (.pair .bool .str)], .box [.ki, .ki, .ki, .ki, .own 6, .own 7, .g true (.pair .bool .str)], .arr false tRange, .arr false tWrite, .arr false tRange, .arr false tWrite]⟩ [en .ret [.bp 0 0, .bp 1 0, .bp 2 0, .tt, .bp 3 0, .i] [.box [.g true tTxn], .box [.g true tRange], .box [.i, .i, .i, .i, .own 4, .own 5, .g false (.pair .bool .str)], .box [.ki, .ki, .ki, .ki, .own 4, .own 5, .g true (.pair .bool .str)], .arr false tRange, .arr false tWrite], en (.exit 0) [.bp 0 0, .bp 1 0, .bp 2 0, .ff, .bp 3 0, .i] [.box [.g true tTxn], .box [.g true tRange], .box [.z, .z, .z, .z, .own 4, .own 5, .g false (.pair .bool .str)], .box [.ki, .ki, .ki, .ki, .own 6, .own 7, .g true (.pair .bool .str)], .arr false tRange, .arr false tWrite, .arr false tRange, .arr false tWrite]] spec_ReadRange_b0,
  .wd [some (.slice (.slice .bool))]] (by kernel_rfl) (fun h => by rw [spec_ReadRange_k, fn_f]; kernel_rfl) (.c (fun c x => by kernel_rfl) <| .n)

def g37 := g36.fn 74 Tryz.func74 ⟨[.l tVersion, .s, .i], []⟩ [⟨[.i], []⟩] spec_l06At_k [.lp 0 [0, 1, 2, 7, 8] [] ⟨[.kl tVersion, .ks, .ki, .i, .i], []⟩ [en (.exit 0) [.kl tVersion, .ks, .ki, .i, .i] []] spec_l06At_b0,
  .pl 2000005 [0, 2, 4, 6, 8, 10, 12, 14, 16, 18, 20, 22, 24, 26, 28, 30, 32, 34, 36, 38, 40, 42, 44, 46, 48, 50, 52, 54, 56, 58, 60, 62, 64]] (by kernel_rfl) (fun h => by rw [spec_l06At_k, fn_f]; kernel_rfl) (.c (fun c x => by kernel_rfl) <| .n)

def g38 := g37.fn 35 Tryz.func35 ⟨[.l tVersion, .s, .i], []⟩ [⟨[.tup [.s, .b]], []⟩] spec_SeenAt_k [] (by kernel_rfl) (fun h => by rw [spec_SeenAt_k, fn_f]; kernel_rfl) (.n)

def g39 := g38.fn 147 Tryz.func147 ⟨[.a tTxn, .l tVersion, .s], []⟩ [⟨[.tup [.s, .b]], []⟩] spec_OwnGet_k [.lp 0 [1, 2, 3, 6, 7, 8] [] ⟨[.kl tVersion, .ks, .bp 0 0, .s, .ff, .i], [.box [.g true tTxn]]⟩ [en .ret [.kl tVersion, .ks, .bp 0 0, .s, .b, .i] [.box [.g true tTxn]], en (.exit 0) [.kl tVersion, .ks, .bp 0 0, .s, .ff, .i] [.box [.g true tTxn]]] spec_OwnGet_b0] (by kernel_rfl) (fun h => by rw [spec_OwnGet_k, fn_f]; kernel_rfl) (.c (fun c x => by kernel_rfl) <| .n)

def g40 := g39.fn 129 Tryz.func129 ⟨[.a tEngine, .i, .s], []⟩ [⟨[.tup [.a tEngine, .s, .b, .i]], []⟩] spec_GetKey_k [.wd [some (.slice (.slice .bool))]] (by kernel_rfl) (fun h => by rw [spec_GetKey_k, fn_f]; kernel_rfl) (.n)

def g41 := g40.fn 75 Tryz.func75 ⟨[.a tRange, .s], []⟩ [⟨[.b], []⟩] spec_InRange_k [] (by kernel_rfl) (fun h => by rw [spec_InRange_k, fn_f]; kernel_rfl) (.n)

def g42 := g41.fn 68 Tryz.func68 ⟨[.l tVersion, .a tRange], []⟩ [⟨[.l .str], []⟩] spec_l06Keys_k [.lp 2 [0, 3, 5, 6, 7, 8, 9] [] ⟨[.kl tVersion, .bp 0 0, .kl .str, .ki, .ks, .own 1, .i], [.box [.g true tRange], .arr false .str]⟩ [en (.exit 2) [.kl tVersion, .bp 0 0, .kl .str, .ki, .ks, .own 1, .i] [.box [.g true tRange], .arr false .str]] spec_l06Keys_b2,
  .lp 4 [0, 3, 5, 6, 7, 8, 10] [] ⟨[.kl tVersion, .bp 0 0, .kl .str, .ki, .ks, .own 1, .i], [.box [.g true tRange], .arr false .str]⟩ [en (.exit 4) [.kl tVersion, .bp 0 0, .kl .str, .ki, .ks, .own 1, .i] [.box [.g true tRange], .arr false .str]] spec_l06Keys_b4,
  .lp 0 [0, 3, 5, 6] [some (.slice (.slice .bool))] ⟨[.kl tVersion, .bp 0 0, .l .str, .i], [.box [.g true tRange]]⟩ [en (.exit 0) [.kl tVersion, .bp 0 0, .l .str, .i] [.box [.g true tRange]]] spec_l06Keys_b0] (by kernel_rfl) (fun h => by rw [spec_l06Keys_k, fn_f]; kernel_rfl) (.c (fun c x => by kernel_rfl) <| .c (fun c x => by kernel_rfl) <| .c (fun c x => by kernel_rfl) <| .n)

def g43 := g42.fn 148 Tryz.func148 ⟨[.a tTxn, .l tVersion, .a tRange], []⟩ [⟨[.own 0], [.arr false tRange]⟩] spec_OwnScan_k [.lp 0 [1, 3, 5, 7, 8] [] ⟨[.kl tVersion, .bp 0 0, .bp 1 0, .own 2, .i], [.box [.g true tTxn], .box [.g true tRange], .arr false tVersion]⟩ [en (.exit 0) [.kl tVersion, .bp 0 0, .bp 1 0, .own 2, .i] [.box [.g true tTxn], .box [.g true tRange], .arr false tVersion]] spec_OwnScan_b0,
  .lp 2 [1, 3, 9, 10, 11] [] ⟨[.kl tVersion, .bp 0 0, .own 1, .kl .str, .i], [.box [.g true tTxn], .arr false tRange]⟩ [en (.exit 2) [.kl tVersion, .bp 0 0, .own 1, .kl .str, .i] [.box [.g true tTxn], .arr false tRange]] spec_OwnScan_b2,
  .pl 2000011 [0, 2, 4, 6, 8, 10, 12, 14, 16, 18, 20, 22]] (by kernel_rfl) (fun h => by rw [spec_OwnScan_k, fn_f]; kernel_rfl) (.c (fun c x => by kernel_rfl) <| .c (fun c x => by kernel_rfl) <| .n)

def g44 := g43.fn 130 Tryz.func130 ⟨[.a tEngine, .i, .a tRange], []⟩ [⟨[.tup [.a tEngine, .l tRange, .i]], []⟩] spec_ScanKeys_k [.pl 1000012 [2],
  .wd [some (.slice (.slice .bool))]] (by kernel_rfl) (fun h => by rw [spec_ScanKeys_k, fn_f]; kernel_rfl) (.n)

def g45 := g44.fn 149 Tryz.func149 ⟨[.a tTxn, .a tWrite], []⟩ [⟨[.tup [.a tTxn, .b]], []⟩] spec_WriteKey_k [.wd [some (.slice (.slice .bool))]] (by kernel_rfl) (fun h => by rw [spec_WriteKey_k, fn_f]; kernel_rfl) (.n)

def g46 := g45.fn 131 Tryz.func131 ⟨[.a tEngine, .i, .a tWrite], []⟩ [⟨[.tup [.a tEngine, .i]], []⟩] spec_PutKey_k [.wd [some (.slice (.slice .bool))]] (by kernel_rfl) (fun h => by rw [spec_PutKey_k, fn_f]; kernel_rfl) (.n)

def g47 := g46.fn 163 Tryz.func163 ⟨[.a tBase], []⟩ [⟨[.own 0], [.arr false tTxn]⟩] spec_l11All_k [.pl 1000001 [1, 2]] (by kernel_rfl) (fun h => by rw [spec_l11All_k, fn_f]; kernel_rfl) (.n)

def g48 := g47.fn 186 Tryz.func186 ⟨[.l tWrite, .l tWrite], []⟩ [⟨[.b], []⟩] spec_Meets_k [.lp 2 [0, 1, 4, 5, 6] [] ⟨[.kl tWrite, .kl tWrite, .ff, .ki, .i], []⟩ [en .ret [.kl tWrite, .kl tWrite, .tt, .ki, .i] [], en (.exit 2) [.kl tWrite, .kl tWrite, .ff, .ki, .i] []] spec_Meets_b2,
  .lp 0 [0, 1, 4, 5] [] ⟨[.kl tWrite, .kl tWrite, .ff, .i], []⟩ [en (.exit 0) [.kl tWrite, .kl tWrite, .ff, .i] [], en .ret [.kl tWrite, .kl tWrite, .tt, .i] []] spec_Meets_b0,
  .pl 2000007 [0, 2, 4, 6, 8, 10, 12, 14, 16, 18, 20]] (by kernel_rfl) (fun h => by rw [spec_Meets_k, fn_f]; kernel_rfl) (.c (fun c x => by kernel_rfl) <| .c (fun c x => by kernel_rfl) <| .n)

def g49 := g48.fn 168 Tryz.func168 ⟨[.a tTxn, .l tTxn], []⟩ [⟨[.b], []⟩] spec_Blocked_k [.lp 0 [1, 2, 4, 5] [] ⟨[.kl tTxn, .bp 0 0, .ff, .i], [.box [.g true tTxn]]⟩ [en .ret [.kl tTxn, .bp 0 0, .tt, .i] [.box [.g true tTxn]], en (.exit 0) [.kl tTxn, .bp 0 0, .ff, .i] [.box [.g true tTxn]]] spec_Blocked_b0] (by kernel_rfl) (fun h => by rw [spec_Blocked_k, fn_f]; kernel_rfl) (.c (fun c x => by kernel_rfl) <| .n)

def g50 := g49.fn 106 Tryz.func106 ⟨[.a tTxn, .a tTxn], []⟩ [⟨[.b], []⟩] spec_Beside_k [] (by kernel_rfl) (fun h => by rw [spec_Beside_k, fn_f]; kernel_rfl) (.n)

def g51 := g50.fn 36 Tryz.func36 ⟨[.l tRange, .l tWrite], []⟩ [⟨[.b], []⟩] spec_Touches_k [.lp 2 [0, 1, 4, 5, 6] [] ⟨[.kl tRange, .kl tWrite, .ff, .ki, .i], []⟩ [en .ret [.kl tRange, .kl tWrite, .tt, .ki, .i] [], en (.exit 2) [.kl tRange, .kl tWrite, .ff, .ki, .i] []] spec_Touches_b2,
  .lp 0 [0, 1, 4, 5] [] ⟨[.kl tRange, .kl tWrite, .ff, .i], []⟩ [en (.exit 0) [.kl tRange, .kl tWrite, .ff, .i] [], en .ret [.kl tRange, .kl tWrite, .tt, .i] []] spec_Touches_b0,
  .pl 2000007 [0, 2, 4, 6, 8, 10, 12, 14, 16, 18]] (by kernel_rfl) (fun h => by rw [spec_Touches_k, fn_f]; kernel_rfl) (.c (fun c x => by kernel_rfl) <| .c (fun c x => by kernel_rfl) <| .n)

def g52 := g51.fn 73 Tryz.func73 ⟨[.a tTxn, .a tTxn], []⟩ [⟨[.b], []⟩] spec_Ahead_k [] (by kernel_rfl) (fun h => by rw [spec_Ahead_k, fn_f]; kernel_rfl) (.n)

def g53 := g52.fn 178 Tryz.func178 ⟨[.a tTxn, .l tTxn], []⟩ [⟨[.b], []⟩] spec_InOf_k [.lp 0 [1, 2, 4, 5] [] ⟨[.kl tTxn, .bp 0 0, .ff, .i], [.box [.g true tTxn]]⟩ [en .ret [.kl tTxn, .bp 0 0, .tt, .i] [.box [.g true tTxn]], en (.exit 0) [.kl tTxn, .bp 0 0, .ff, .i] [.box [.g true tTxn]]] spec_InOf_b0,
  .pl 2000004 [0, 2, 4, 6, 8, 10, 12, 14, 16, 18, 20, 22, 24, 26, 28, 30, 32, 34, 36, 38, 41, 42]] (by kernel_rfl) (fun h => by rw [spec_InOf_k, fn_f]; kernel_rfl) (.c (fun c x => by kernel_rfl) <| .n)

def g54 := g53.fn 53 Tryz.func53 ⟨[.a tTxn, .l tTxn], []⟩ [⟨[.b], []⟩] spec_OutOf_k [.lp 0 [1, 2, 4, 5] [] ⟨[.kl tTxn, .bp 0 0, .ff, .i], [.box [.g true tTxn]]⟩ [en .ret [.kl tTxn, .bp 0 0, .tt, .i] [.box [.g true tTxn]], en (.exit 0) [.kl tTxn, .bp 0 0, .ff, .i] [.box [.g true tTxn]]] spec_OutOf_b0,
  .pl 2000004 [0, 2, 4, 6, 8, 10, 12, 14, 16, 18, 20, 22, 25, 26]] (by kernel_rfl) (fun h => by rw [spec_OutOf_k, fn_f]; kernel_rfl) (.c (fun c x => by kernel_rfl) <| .n)

def g55 := g54.fn 169 Tryz.func169 ⟨[.a tTxn, .l tTxn], []⟩ [⟨[.b], []⟩] spec_Danger_k [.lp 2 [1, 2, 4, 5, 6, 7] [] ⟨[.kl tTxn, .bp 0 0, .ff, .ki, .bp 1 0, .i], [.box [.g true tTxn], .box [.g true tTxn]]⟩ [en .ret [.kl tTxn, .bp 0 0, .tt, .ki, .bp 1 0, .i] [.box [.g true tTxn], .box [.g true tTxn]], en (.exit 2) [.kl tTxn, .bp 0 0, .ff, .ki, .bp 1 0, .i] [.box [.g true tTxn], .box [.g true tTxn]]] spec_Danger_b2,
  .ct 5000009 [1, 2, 4, 5, 6] [] ⟨[.kl tTxn, .bp 0 0, .ff, .ki, .bp 1 0], [.box [.g true tTxn], .box [.g true tTxn]]⟩ [en .ret [.kl tTxn, .bp 0 0, .tt, .ki, .bp 1 0] [.box [.g true tTxn], .box [.g true tTxn]], en .norm [.kl tTxn, .bp 0 0, .ff, .ki, .bp 1 0] [.box [.g true tTxn], .box [.g true tTxn]]] spec_Danger_j5000009,
  .lp 0 [1, 2, 4, 5] [] ⟨[.kl tTxn, .bp 0 0, .ff, .i], [.box [.g true tTxn]]⟩ [en .ret [.kl tTxn, .bp 0 0, .tt, .i] [.box [.g true tTxn]], en (.exit 0) [.kl tTxn, .bp 0 0, .ff, .i] [.box [.g true tTxn]]] spec_Danger_b0] (by kernel_rfl) (fun h => by rw [spec_Danger_k, fn_f]; kernel_rfl) (.c (fun c x => by kernel_rfl) <| .c (fun c x => by kernel_rfl) <| .c (fun c x => by kernel_rfl) <| .n)

def g56 := g55.fn 164 Tryz.func164 ⟨[.a tBase], []⟩ [⟨[.b], []⟩] spec_l11Full_k [] (by kernel_rfl) (fun h => by rw [spec_l11Full_k, fn_f]; kernel_rfl) (.n)

def g57 := g56.fn 159 Tryz.func159 ⟨[.a tEngine, .i], []⟩ [⟨[.i], []⟩] spec_Judge_k [] (by kernel_rfl) (fun h => by rw [spec_Judge_k, fn_f]; kernel_rfl) (.n)

def g58 := g57.fn 25 Tryz.func25 ⟨[.a tBase, .l tTxn], []⟩ [⟨[.i], []⟩] spec_OldestOf_k [.lp 0 [1, 5, 6] [] ⟨[.kl tTxn, .i, .i], []⟩ [en (.exit 0) [.kl tTxn, .i, .i] []] spec_OldestOf_b0] (by kernel_rfl) (fun h => by rw [spec_OldestOf_k, fn_f]; kernel_rfl) (.c (fun c x => by kernel_rfl) <| .n)

def g59 := g58.fn 57 Tryz.func57 ⟨[.l tVersion, .i], []⟩ [⟨[.own 0], [.arr false tVersion]⟩] spec_Trimmed_k [.lp 0 [0, 1, 5, 6] [] ⟨[.kl tVersion, .ki, .own 0, .i], [.arr false tVersion]⟩ [en (.exit 0) [.kl tVersion, .ki, .own 0, .i] [.arr false tVersion]] spec_Trimmed_b0,
  .lp 4 [1, 5, 8, 9, 10, 11] [] ⟨[.ki, .own 0, .own 1, .ki, .i, .i], [.arr true tVersion, .arr true tVersion]⟩ [en (.exit 4) [.ki, .own 0, .own 1, .ki, .i, .i] [.arr true tVersion, .arr true tVersion]] spec_Trimmed_b4,
  .lp 2 [1, 5, 8, 9] [] ⟨[.ki, .own 0, .own 1, .i], [.arr true tVersion, .arr false tVersion]⟩ [en (.exit 2) [.ki, .own 0, .own 1, .i] [.arr true tVersion, .arr false tVersion]] spec_Trimmed_b2,
  .pl 2000016 [0, 2, 4, 6, 8, 10, 12, 14, 16, 18, 20]] (by kernel_rfl) (fun h => by rw [spec_Trimmed_k, fn_f]; kernel_rfl) (.c (fun c x => by kernel_rfl) <| .c (fun c x => by kernel_rfl) <| .c (fun c x => by kernel_rfl) <| .n)

def g60 := g59.fn 24 Tryz.func24 ⟨[.a tBase, .l tTxn], []⟩ [⟨[.a tBase], []⟩] spec_Tidied_k [.lp 0 [2, 4, 5, 6, 7] [] ⟨[.bp 0 0, .bp 1 0, .bp 2 0, .ki, .i], [.box [.g true tBase], .box [.nilS, .nilS, .nilS, .g true (.pair (.int .i64) (.int .i64))], .box [.own 3, .own 4, .own 5, .g true (.pair (.int .i64) (.int .i64))], .arr true tVersion, .arr false tTxn, .arr true tTxn]⟩ [en (.exit 0) [.bp 0 0, .bp 1 0, .bp 2 0, .ki, .i] [.box [.g true tBase], .box [.nilS, .nilS, .nilS, .g true (.pair (.int .i64) (.int .i64))], .box [.own 3, .own 4, .own 5, .g true (.pair (.int .i64) (.int .i64))], .arr true tVersion, .arr false tTxn, .arr true tTxn]] spec_Tidied_b0,
  .pl 1000008 [4, 6, 7],
  .wd [some (.slice (.slice .bool))]] (by kernel_rfl) (fun h => by rw [spec_Tidied_k, fn_f]; kernel_rfl) (.c (fun c x => by kernel_rfl) <| .n)

def g61 := g60.fn 152 Tryz.func152 ⟨[.bp 0 0, .i], [.box [.own 1, .own 2, .own 3, .g false (.pair (.int .i64) (.int .i64)), .own 4], .arr false tVersion, .arr false tTxn, .arr false tTxn, .arr false tTxn]⟩ [⟨[.tup []], [.box [.g false tEngine], .frz false tVersion, .frz false tTxn, .frz false tTxn, .arr false tTxn]⟩] spec_l11Out_k [.lp 0 [0, 1, 4, 5] [] ⟨[.bp 0 0, .ki, .own 5, .i], [.box [.own 1, .own 2, .own 3, .g true (.pair (.int .i64) (.int .i64)), .own 4], .arr true tVersion, .arr true tTxn, .arr true tTxn, .arr true tTxn, .arr false tTxn]⟩ [en (.exit 0) [.bp 0 0, .ki, .own 5, .i] [.box [.own 1, .own 2, .own 3, .g true (.pair (.int .i64) (.int .i64)), .own 4], .arr true tVersion, .arr true tTxn, .arr true tTxn, .arr true tTxn, .arr false tTxn]] spec_l11Out_b0] (by kernel_rfl) (fun h => by rw [spec_l11Out_k, fn_f]; kernel_rfl) (.c (fun c x => by kernel_rfl) <| .n)

def g62 := g61.fn 72 Tryz.func72 ⟨[.l tVersion, .l tWrite, .i], []⟩ [⟨[.own 0], [.arr false tVersion]⟩] spec_PutVersions_k [.lp 2 [1, 2, 7, 8, 9, 10, 11] [] ⟨[.kl tWrite, .ki, .own 0, .ki, .bp 1 0, .own 2, .i], [.arr true tVersion, .box [.g true tVersion], .arr false tVersion]⟩ [en (.exit 2) [.kl tWrite, .ki, .own 0, .ki, .bp 1 0, .own 2, .i] [.arr true tVersion, .box [.g true tVersion], .arr false tVersion]] spec_PutVersions_b2,
  .lp 0 [1, 2, 7, 8] [] ⟨[.kl tWrite, .ki, .own 0, .i], [.arr false tVersion]⟩ [en (.exit 0) [.kl tWrite, .ki, .own 0, .i] [.arr false tVersion]] spec_PutVersions_b0,
  .pl 2000008 [0, 2, 4, 6, 8, 10, 12, 14, 16, 18, 20, 22, 24, 26, 28, 30, 32, 34, 36, 38, 40, 42, 44, 46, 48, 50, 52, 54, 56, 58, 60, 62, 64, 66]] (by kernel_rfl) (fun h => by rw [spec_PutVersions_k, fn_f]; kernel_rfl) (.c (fun c x => by kernel_rfl) <| .c (fun c x => by kernel_rfl) <| .n)

def g63 := g62.fn 34 Tryz.func34 ⟨[.a tBase, .a tTxn], []⟩ [⟨[.agg [.own 0, .own 1, .own 2, .i, .i]], [.arr false tVersion, .arr false tTxn, .arr false tTxn]⟩] spec_Through_k [.lp 0 [2, 3, 4, 5, 6, 7] [] ⟨[.bp 0 0, .bp 1 0, .bp 2 0, .bp 3 0, .bp 4 0, .i], [.box [.g true tBase], .box [.g true tTxn], .box [.nilS, .nilS, .nilS, .g true (.pair (.int .i64) (.int .i64))], .box [.own 5, .own 6, .own 7, .g true (.pair (.int .i64) (.int .i64))], .box [.g true tTxn], .arr true tVersion, .arr true tTxn, .arr false tTxn]⟩ [en (.exit 0) [.bp 0 0, .bp 1 0, .bp 2 0, .bp 3 0, .bp 4 0, .i] [.box [.g true tBase], .box [.g true tTxn], .box [.nilS, .nilS, .nilS, .g true (.pair (.int .i64) (.int .i64))], .box [.own 5, .own 6, .own 7, .g true (.pair (.int .i64) (.int .i64))], .box [.g true tTxn], .arr true tVersion, .arr true tTxn, .arr false tTxn]] spec_Through_b0] (by kernel_rfl) (fun h => by rw [spec_Through_k, fn_f]; kernel_rfl) (.c (fun c x => by kernel_rfl) <| .n)

def g64 := g63.fn 150 Tryz.func150 ⟨[.a tEngine, .i], []⟩ [⟨[.tup [.a tEngine, .agg [.i, .i, .i, .i, .i, .l tRange, .l tWrite, .b, .s, .s, .b, .nilS, .nilS, .nilS, .i, .i], .i]], []⟩] spec_Commit_k [.pl 2000008 [0, 2, 4, 6, 8, 10, 13, 14, 16, 19, 20, 22],
  .pl 1000011 [1],
  .wd [some (.slice (.slice .bool)), none, none, none, none, none, none, none, none, none, none, none, some tRange, some tWrite]] (by kernel_rfl) (fun h => by rw [spec_Commit_k, fn_f]; kernel_rfl) (.n)

def g65 := g64.fn 187 Tryz.func187 ⟨[.a tTxn], []⟩ [⟨[.b], []⟩] spec_l10NoTxn_k [] (by kernel_rfl) (fun h => by rw [spec_l10NoTxn_k, fn_f]; kernel_rfl) (.n)

def g66 := g65.fn 188 Tryz.func188 ⟨[.a tBase], []⟩ [⟨[.b], []⟩] spec_l10NoBase_k [] (by kernel_rfl) (fun h => by rw [spec_l10NoBase_k, fn_f]; kernel_rfl) (.n)

def g67 := g66.fn 170 Tryz.func170 ⟨[.a tRecord], []⟩ [⟨[.b], []⟩] spec_RecordOk_k [.ct 5000008 [1, 2] [] ⟨[.bp 0 0, .ff], [.box [.g true tRecord]]⟩ [en .ret [.bp 0 0, .b] [.box [.g true tRecord]]] spec_RecordOk_j5000008,
  .ct 5000006 [1, 2] [] ⟨[.bp 0 0, .ff], [.box [.g true tRecord]]⟩ [en .ret [.bp 0 0, .b] [.box [.g true tRecord]]] spec_RecordOk_j5000006,
  .ct 5000004 [1, 2, 3] [] ⟨[.bp 0 0, .ff, .b], [.box [.g true tRecord]]⟩ [en .ret [.bp 0 0, .ff, .b] [.box [.g true tRecord]], en .ret [.bp 0 0, .b, .dead] [.box [.g true tRecord]]] spec_RecordOk_j5000004] (by kernel_rfl) (fun h => by rw [spec_RecordOk_k, fn_f]; kernel_rfl) (.c (fun c x => by kernel_rfl) <| .c (fun c x => by kernel_rfl) <| .c (fun c x => by kernel_rfl) <| .n)

def g68 := g67.fn 191 Tryz.func191 ⟨[.i], []⟩ [⟨[.s], []⟩] spec_l01Var_k [.lp 0 [0, 3] [] ⟨[.i, .own 0], [.arr false (.int .u8)]⟩ [en (.exit 0) [.i, .own 0] [.arr false (.int .u8)]] spec_l01Var_b0] (by kernel_rfl) (fun h => by rw [spec_l01Var_k, fn_f]; kernel_rfl) (.c (fun c x => by kernel_rfl) <| .n)

def g69 := g68.fn 172 Tryz.func172 ⟨[.s], []⟩ [⟨[.s], []⟩] spec_l07Short_k [] (by kernel_rfl) (fun h => by rw [spec_l07Short_k, fn_f]; kernel_rfl) (.n)

def g70 := g69.fn 173 Tryz.func173 ⟨[.b], []⟩ [⟨[.s], []⟩] spec_l07Bit_k [] (by kernel_rfl) (fun h => by rw [spec_l07Bit_k, fn_f]; kernel_rfl) (.n)

def g71 := g70.fn 206 Tryz.func206 ⟨[.h false (.int .u32), .s], []⟩ [⟨[.h false (.int .u32)], []⟩] spec_SumMore_k [.lp 2 [0, 1, 5, 6] [] ⟨[.h false (.int .u32), .ks, .ki, .i], []⟩ [en (.exit 2) [.h false (.int .u32), .ks, .ki, .i] []] spec_SumMore_b2,
  .lp 0 [0, 1, 5] [] ⟨[.h false (.int .u32), .ks, .i], []⟩ [en (.exit 0) [.h false (.int .u32), .ks, .i] []] spec_SumMore_b0] (by kernel_rfl) (fun h => by rw [spec_SumMore_k, fn_f]; kernel_rfl) (.c (fun c x => by kernel_rfl) <| .c (fun c x => by kernel_rfl) <| .n)

def g72 := g71.fn 190 Tryz.func190 ⟨[.s], []⟩ [⟨[.h false (.int .u32)], []⟩] spec_SumOf_k [] (by kernel_rfl) (fun h => by rw [spec_SumOf_k, fn_f]; kernel_rfl) (.n)

def g73 := g72.fn 189 Tryz.func189 ⟨[.h false (.int .u32)], []⟩ [⟨[.s], []⟩] spec_l02Four_k [] (by kernel_rfl) (fun h => by rw [spec_l02Four_k, fn_f]; kernel_rfl) (.n)

def g74 := g73.fn 171 Tryz.func171 ⟨[.s], []⟩ [⟨[.tup [.s, .b]], []⟩] spec_Sealed_k [] (by kernel_rfl) (fun h => by rw [spec_Sealed_k, fn_f]; kernel_rfl) (.n)

def g75 := g74.fn 175 Tryz.func175 ⟨[.a tTxn], []⟩ [⟨[.tup [.s, .b]], []⟩] spec_TxnText_k [.lp 0 [1, 4, 5] [] ⟨[.bp 0 0, .s, .i], [.box [.g true tTxn]]⟩ [en (.exit 0) [.bp 0 0, .s, .i] [.box [.g true tTxn]]] spec_TxnText_b0,
  .lp 2 [1, 4, 6] [] ⟨[.bp 0 0, .s, .i], [.box [.g true tTxn]]⟩ [en (.exit 2) [.bp 0 0, .s, .i] [.box [.g true tTxn]]] spec_TxnText_b2,
  .pl 2000003 [0, 2, 6, 8, 14, 16, 22, 24, 30, 32, 34, 5, 11, 12, 19, 20, 27, 28, 37, 38, 40],
  .pl 2000007 [0, 2, 4, 6, 8, 10, 12, 18, 20, 22, 24, 26, 28, 15, 16, 31, 32, 34],
  .pl 2000012 [0, 2, 4, 6, 8, 10, 12, 18, 20, 22, 24, 26, 28, 34, 36, 38, 40, 42, 44, 15, 16, 31, 32, 47, 48, 50],
  .pl 2000013 [0, 2, 4, 10, 12, 7, 8, 15, 16, 18, 20]] (by kernel_rfl) (fun h => by rw [spec_TxnText_k, fn_f]; kernel_rfl) (.c (fun c x => by kernel_rfl) <| .c (fun c x => by kernel_rfl) <| .n)

def g76 := g75.fn 192 Tryz.func192 ⟨[.l tTxn], []⟩ [⟨[.s], []⟩] spec_l10Txns_k [.lp 0 [0, 3, 4] [] ⟨[.kl tTxn, .s, .i], []⟩ [en (.exit 0) [.kl tTxn, .s, .i] []] spec_l10Txns_b0] (by kernel_rfl) (fun h => by rw [spec_l10Txns_k, fn_f]; kernel_rfl) (.c (fun c x => by kernel_rfl) <| .n)

def g77 := g76.fn 174 Tryz.func174 ⟨[.a tBase], []⟩ [⟨[.tup [.s, .b]], []⟩] spec_BaseText_k [.lp 0 [1, 4, 5] [] ⟨[.bp 0 0, .s, .i], [.box [.g true tBase]]⟩ [en (.exit 0) [.bp 0 0, .s, .i] [.box [.g true tBase]]] spec_BaseText_b0,
  .pl 2000003 [0, 2, 6, 8, 14, 16, 18, 5, 11, 12, 21, 22, 24],
  .pl 2000008 [0, 2, 4, 10, 12, 18, 20, 26, 28, 7, 8, 15, 16, 23, 24, 31, 32, 34],
  .pl 2000009 [0, 2, 4, 10, 12, 7, 8, 15, 16, 18, 20]] (by kernel_rfl) (fun h => by rw [spec_BaseText_k, fn_f]; kernel_rfl) (.c (fun c x => by kernel_rfl) <| .n)

def g78 := g77.fn 160 Tryz.func160 ⟨[.a tRecord], []⟩ [⟨[.tup [.s, .b]], []⟩] spec_RecordText_k [.pl 2000006 [0, 2, 4, 10, 12, 7, 8, 15, 16, 19, 20, 22, 24, 26]] (by kernel_rfl) (fun h => by rw [spec_RecordText_k, fn_f]; kernel_rfl) (.n)

def g79 := g78.fn 209 Tryz.func209 ⟨[.a tDisk, .i], []⟩ [⟨[.tup [.s, .b]], []⟩] spec_ReadSector_k [.lp 0 [1, 2, 4, 5, 6] [] ⟨[.ki, .bp 0 0, .s, .ff, .i], [.box [.g true tDisk]]⟩ [en .ret [.ki, .bp 0 0, .s, .tt, .i] [.box [.g true tDisk]], en (.exit 0) [.ki, .bp 0 0, .s, .ff, .i] [.box [.g true tDisk]]] spec_ReadSector_b0] (by kernel_rfl) (fun h => by rw [spec_ReadSector_k, fn_f]; kernel_rfl) (.c (fun c x => by kernel_rfl) <| .n)

def g80 := g79.fn 194 Tryz.func194 ⟨[.a tDisk, .i], []⟩ [⟨[.i], []⟩] spec_l04Byte_k [] (by kernel_rfl) (fun h => by rw [spec_l04Byte_k, fn_f]; kernel_rfl) (.n)

def g81 := g80.fn 177 Tryz.func177 ⟨[.a tDisk], []⟩ [⟨[.i], []⟩] spec_ActiveOf_k [] (by kernel_rfl) (fun h => by rw [spec_ActiveOf_k, fn_f]; kernel_rfl) (.n)

def g82 := g81.fn 202 Tryz.func202 ⟨[.a tDisk], []⟩ [⟨[.b], []⟩] spec_DiskOk_k [.lp 0 [1, 2, 3] [] ⟨[.bp 0 0, .ff, .i], [.box [.g true tDisk]]⟩ [en .ret [.bp 0 0, .ff, .i] [.box [.g true tDisk]], en (.exit 0) [.bp 0 0, .ff, .i] [.box [.g true tDisk]]] spec_DiskOk_b0,
  .lp 2 [1, 2, 4] [] ⟨[.bp 0 0, .ff, .i], [.box [.g true tDisk]]⟩ [en .ret [.bp 0 0, .ff, .i] [.box [.g true tDisk]], en (.exit 2) [.bp 0 0, .ff, .i] [.box [.g true tDisk]]] spec_DiskOk_b2,
  .pl 2000011 [0, 2, 4, 6, 8, 10, 12, 14, 16, 18, 21, 22, 24, 26, 28, 30, 32, 34, 36, 38, 40, 42]] (by kernel_rfl) (fun h => by rw [spec_DiskOk_k, fn_f]; kernel_rfl) (.c (fun c x => by kernel_rfl) <| .c (fun c x => by kernel_rfl) <| .n)

def g83 := g82.fn 211 Tryz.func211 ⟨[.i], []⟩ [⟨[.i], []⟩] spec_AreaFirst_k [] (by kernel_rfl) (fun h => by rw [spec_AreaFirst_k, fn_f]; kernel_rfl) (.n)

def g84 := g83.fn 210 Tryz.func210 ⟨[.a tDisk, .i, .i], []⟩ [⟨[.tup [.s, .b]], []⟩] spec_SectorText_k [.lp 0 [1, 2, 3, 6, 7, 8, 9] [] ⟨[.ki, .ki, .bp 0 0, .s, .ff, .s, .i], [.box [.g true tDisk]]⟩ [en .ret [.ki, .ki, .bp 0 0, .s, .ff, .s, .i] [.box [.g true tDisk]], en (.exit 0) [.ki, .ki, .bp 0 0, .s, .ff, .s, .i] [.box [.g true tDisk]]] spec_SectorText_b0] (by kernel_rfl) (fun h => by rw [spec_SectorText_k, fn_f]; kernel_rfl) (.c (fun c x => by kernel_rfl) <| .n)

def g85 := g84.fn 208 Tryz.func208 ⟨[.a tDisk, .i], []⟩ [⟨[.i], []⟩] spec_CountIn_k [] (by kernel_rfl) (fun h => by rw [spec_CountIn_k, fn_f]; kernel_rfl) (.n)

def g86 := g85.fn 216 Tryz.func216 ⟨[.s, .i], []⟩ [⟨[.tup [.i, .i, .b]], []⟩] spec_ReadVar_k [.lp 0 [0, 1, 4, 5, 6, 7, 8, 9] [] ⟨[.ks, .ki, .z, .z, .ff, .i, .i, .i], []⟩ [en .ret [.ks, .ki, .i, .i, .b, .i, .i, .i] [], en (.exit 0) [.ks, .ki, .z, .z, .ff, .i, .i, .i] []] spec_ReadVar_b0,
  .pl 2000011 [0, 2, 4, 6, 10, 12, 14, 16, 18, 8, 20, 22]] (by kernel_rfl) (fun h => by rw [spec_ReadVar_k, fn_f]; kernel_rfl) (.c (fun c x => by kernel_rfl) <| .n)

def g87 := g86.fn 212 Tryz.func212 ⟨[.s, .i], []⟩ [⟨[.tup [.s, .i, .b]], []⟩] spec_ReadShort_k [] (by kernel_rfl) (fun h => by rw [spec_ReadShort_k, fn_f]; kernel_rfl) (.n)

def g88 := g87.fn 195 Tryz.func195 ⟨[.a tDisk, .i], []⟩ [⟨[.tup [.own 0, .i, .b]], [.arr false .str]⟩] spec_ReadArea_k [.lp 0 [1, 2, 4, 5, 6, 7, 8, 10, 11, 12] [none, none, some .str] ⟨[.ki, .bp 0 0, .own 1, .z, .ff, .own 2, .ks, .own 3, .i, .i], [.box [.g true tDisk], .arr false .str, .arr false .str, .arr false .str]⟩ [en .ret [.ki, .bp 0 0, .own 1, .z, .ff, .own 1, .ks, .own 2, .i, .i] [.box [.g true tDisk], .arr false .str, .arr false .str], en (.exit 0) [.ki, .bp 0 0, .own 1, .z, .ff, .own 2, .ks, .own 3, .i, .i] [.box [.g true tDisk], .arr false .str, .arr false .str, .arr false .str]] spec_ReadArea_b0,
  .pl 2000004 [0, 2, 5, 6, 8, 10, 12, 14, 16, 18]] (by kernel_rfl) (fun h => by rw [spec_ReadArea_k, fn_f]; kernel_rfl) (.c (fun c x => by kernel_rfl) <| .n)

def g89 := g88.fn 182 Tryz.func182 ⟨[.a tDisk], []⟩ [⟨[.b], []⟩] spec_LogOk_k [.pl 2000001 [0, 3, 4, 6, 8, 10, 12, 15, 16, 18, 20, 22, 24, 26, 28, 30]] (by kernel_rfl) (fun h => by rw [spec_LogOk_k, fn_f]; kernel_rfl) (.n)

def g90 := g89.fn 165 Tryz.func165 ⟨[.a tDisk], []⟩ [⟨[.agg [.own 0, .own 1]], [.arr false .str, .arr false tPut]⟩] spec_l03Copy_k [.rg 3500001 [1, 2] [none, none, none, none, some .str, some tPut] ⟨[.bp 0 0, .bp 1 0], [.box [.g true tDisk], .box [.own 2, .own 3], .arr false .str, .arr false tPut]⟩ [en .norm [.bp 0 0, .bp 1 0] [.box [.g true tDisk], .box [.own 2, .own 3], .arr false .str, .arr false tPut]] spec_l03Copy_j3500001 (.node (.node .leaf .leaf) .leaf),
  .pl 1000001 [2, 4, 5, 6]] (by kernel_rfl) (fun h => by rw [spec_l03Copy_k, fn_f]; kernel_rfl) (.c (fun c x => by kernel_rfl) <| .n)

def g91 := g90.fn 215 Tryz.func215 ⟨[.a tDisk, .i, .s], []⟩ [⟨[.tup [.a tDisk, .b]], []⟩] spec_WriteSector_k [.wd [some (.slice (.slice .bool))]] (by kernel_rfl) (fun h => by rw [spec_WriteSector_k, fn_f]; kernel_rfl) (.n)

def g92 := g91.fn 204 Tryz.func204 ⟨[.a tDisk, .i, .i, .s], []⟩ [⟨[.tup [.a tDisk, .b]], []⟩] spec_WriteBytes_k [.ct 5000011 [1, 2, 3, 4, 8, 9, 10, 11, 12, 13, 14] [some (.slice (.slice .bool)), none, none, none, none, none, none, none, none, none, none, none, none, none, some .str, some tPut] ⟨[.ki, .ki, .ks, .bp 0 0, .bp 1 0, .ff, .bp 2 0, .i, .ki, .ki, .ki], [.box [.g true tDisk], .box [.g false tDisk], .box [.g false tDisk]]⟩ [en .ret [.ki, .ki, .ks, .bp 0 0, .bp 1 0, .ff, .bp 2 0, .i, .ki, .ki, .ki] [.box [.g true tDisk], .box [.g false tDisk], .box [.g false tDisk]], en .norm [.ki, .ki, .ks, .bp 0 0, .bp 1 0, .ff, .bp 2 0, .i, .ki, .ki, .ki] [.box [.g true tDisk], .box [.g false tDisk], .box [.g false tDisk]]] spec_WriteBytes_j5000011,
  .lp 0 [1, 2, 3, 4, 8, 9, 10, 11] [some (.slice (.slice .bool)), none, none, none, none, none, none, none, none, none, none, some .str, some tPut] ⟨[.ki, .ki, .ks, .bp 0 0, .bp 1 0, .ff, .bp 2 0, .i], [.box [.g true tDisk], .box [.g false tDisk], .box [.g false tDisk]]⟩ [en (.exit 0) [.ki, .ki, .ks, .bp 0 0, .bp 1 0, .ff, .bp 2 0, .i] [.box [.g true tDisk], .box [.g false tDisk], .box [.g false tDisk]], en .ret [.ki, .ki, .ks, .bp 0 0, .bp 1 0, .ff, .bp 2 0, .i] [.box [.g true tDisk], .box [.g false tDisk], .box [.g false tDisk]]] spec_WriteBytes_b0,
  .wd [some (.slice (.slice .bool))]] (by kernel_rfl) (fun h => by rw [spec_WriteBytes_k, fn_f]; kernel_rfl) (.c (fun c x => by kernel_rfl) <| .c (fun c x => by kernel_rfl) <| .n)

def g93 := g92.fn 207 Tryz.func207 ⟨[.a tDisk, .i, .s], []⟩ [⟨[.tup [.a tDisk, .b]], []⟩] spec_l04Begin_k [.pl 2000007 [0, 2, 8, 10, 5, 6, 12, 14, 16, 18, 20],
  .wd [some (.slice (.slice .bool))]] (by kernel_rfl) (fun h => by rw [spec_l04Begin_k, fn_f]; kernel_rfl) (.n)

def g94 := g93.fn 185 Tryz.func185 ⟨[.a tDisk], []⟩ [⟨[.a tDisk], []⟩] spec_FlushDisk_k [.lp 0 [1, 2, 3, 4] [] ⟨[.bp 0 0, .bp 1 0, .bp 2 0, .i], [.box [.g true tDisk], .box [.nilS, .nilS], .box [.own 3, .own 4], .arr false .str, .arr true tPut]⟩ [en (.exit 0) [.bp 0 0, .bp 1 0, .bp 2 0, .i] [.box [.g true tDisk], .box [.nilS, .nilS], .box [.own 3, .own 4], .arr false .str, .arr true tPut]] spec_FlushDisk_b0,
  .pl 2000007 [0, 2, 4, 6, 8, 10, 12, 14, 16, 18, 20, 22, 24, 26, 28, 30],
  .wd [some (.slice (.slice .bool))]] (by kernel_rfl) (fun h => by rw [spec_FlushDisk_k, fn_f]; kernel_rfl) (.c (fun c x => by kernel_rfl) <| .n)

def g95 := g94.fn 205 Tryz.func205 ⟨[.i], []⟩ [⟨[.s], []⟩] spec_l04One_k [] (by kernel_rfl) (fun h => by rw [spec_l04One_k, fn_f]; kernel_rfl) (.n)

def g96 := g95.fn 203 Tryz.func203 ⟨[.a tDisk, .i, .i], []⟩ [⟨[.tup [.a tDisk, .b]], []⟩] spec_l04Count_k [.pl 2000001 [0, 2, 6, 5, 9, 10, 12, 14, 16, 18],
  .wd [some (.slice (.slice .bool))]] (by kernel_rfl) (fun h => by rw [spec_l04Count_k, fn_f]; kernel_rfl) (.n)

def g97 := g96.fn 193 Tryz.func193 ⟨[.a tDisk, .i, .s], []⟩ [⟨[.tup [.a tDisk, .b]], []⟩] spec_l04Put_k [] (by kernel_rfl) (fun h => by rw [spec_l04Put_k, fn_f]; kernel_rfl) (.n)

def g98 := g97.fn 176 Tryz.func176 ⟨[.a tDisk, .i, .s], []⟩ [⟨[.tup [.a tDisk, .b]], []⟩] spec_PutRecord_k [.wd [some (.slice (.slice .bool))]] (by kernel_rfl) (fun h => by rw [spec_PutRecord_k, fn_f]; kernel_rfl) (.n)

def g99 := g98.fn 161 Tryz.func161 ⟨[.a tDisk, .s], []⟩ [⟨[.tup [.a tDisk, .b]], []⟩] spec_AppendLog_k [.pl 2000001 [0, 2, 6, 5, 9, 10, 12, 14, 16]] (by kernel_rfl) (fun h => by rw [spec_AppendLog_k, fn_f]; kernel_rfl) (.n)

def g100 := g99.fn 179 Tryz.func179 ⟨[.a tDisk], []⟩ [⟨[.own 0], [.arr false .str]⟩] spec_LogTexts_k [.pl 2000001 [0, 2, 5, 7, 8, 10, 12, 14, 16, 18, 20]] (by kernel_rfl) (fun h => by rw [spec_LogTexts_k, fn_f]; kernel_rfl) (.n)

def g101 := g100.fn 196 Tryz.func196 ⟨[.s], []⟩ [⟨[.tup [.s, .b]], []⟩] spec_Unsealed_k [.pl 2000002 [0, 2, 4, 6, 8, 10, 12, 14, 16, 18, 20, 22, 24, 26, 28, 30, 32]] (by kernel_rfl) (fun h => by rw [spec_Unsealed_k, fn_f]; kernel_rfl) (.n)

def g102 := g101.fn 197 Tryz.func197 ⟨[.bp 0 0], [.box [.g false (.pair .str (.pair (.int .i64) .bool))]]⟩ [⟨[.s], [.box [.g false (.pair .str (.pair (.int .i64) .bool))]]⟩] spec_l07ReadShort_k [.pl 2000001 [0, 2, 4, 6, 8, 10, 12, 14, 16, 18, 20, 22, 24, 26, 28, 30]] (by kernel_rfl) (fun h => by rw [spec_l07ReadShort_k, fn_f]; kernel_rfl) (.n)

def g103 := g102.fn 198 Tryz.func198 ⟨[.bp 0 0], [.box [.g false (.pair .str (.pair (.int .i64) .bool))]]⟩ [⟨[.b], [.box [.g false (.pair .str (.pair (.int .i64) .bool))]]⟩] spec_l07ReadBit_k [.pl 2000001 [0, 2, 4, 6, 8, 10, 12, 14, 16, 18, 20, 22, 24, 26, 28, 30, 32, 34, 36, 38, 40, 42, 44, 46, 48, 50, 52, 54],
  .pl 2000005 [0, 2, 4, 6, 8, 10, 12, 14, 16, 18, 20, 22]] (by kernel_rfl) (fun h => by rw [spec_l07ReadBit_k, fn_f]; kernel_rfl) (.n)

def g104 := g103.fn 213 Tryz.func213 ⟨[.bp 0 0], [.box [.g false (.pair .str (.pair (.int .i64) .bool))]]⟩ [⟨[.i], [.box [.g false (.pair .str (.pair (.int .i64) .bool))]]⟩] spec_l07Var_k [.pl 2000001 [0, 2, 4, 6, 8, 10, 12, 14, 16, 18, 20, 22, 24, 26, 28, 30]] (by kernel_rfl) (fun h => by rw [spec_l07Var_k, fn_f]; kernel_rfl) (.n)

def g105 := g104.fn 200 Tryz.func200 ⟨[.s, .i], []⟩ [⟨[.tup [.a tTxn, .i, .b]], []⟩] spec_ReadTxn_k [.lp 0 [4, 7, 8, 9, 10] [none, none, none, none, none, none, none, none, none, none, none, none, none, none, none, none, none, none, none, none, some tRange] ⟨[.bp 0 0, .bp 1 0, .bp 2 0, .ki, .i], [.box [.z, .z, .z, .z, .nilS, .nilS, .g true (.pair .bool .str)], .box [.g false (.pair .str (.pair (.int .i64) .bool))], .box [.ki, .ki, .ki, .ki, .own 3, .nilS, .g true (.pair .bool .str)], .arr false tRange]⟩ [en (.exit 0) [.bp 0 0, .bp 1 0, .bp 2 0, .ki, .i] [.box [.z, .z, .z, .z, .nilS, .nilS, .g true (.pair .bool .str)], .box [.g false (.pair .str (.pair (.int .i64) .bool))], .box [.ki, .ki, .ki, .ki, .own 3, .nilS, .g true (.pair .bool .str)], .arr false tRange]] spec_ReadTxn_b0,
  .lp 2 [4, 7, 8, 12, 13] [none, none, none, none, none, none, none, none, none, none, none, none, none, none, none, none, none, none, none, none, none, some tWrite] ⟨[.bp 0 0, .bp 1 0, .bp 2 0, .ki, .i], [.box [.z, .z, .z, .z, .nilS, .nilS, .g true (.pair .bool .str)], .box [.g false (.pair .str (.pair (.int .i64) .bool))], .box [.ki, .ki, .ki, .ki, .own 3, .own 4, .g true (.pair .bool .str)], .arr true tRange, .arr false tWrite]⟩ [en (.exit 2) [.bp 0 0, .bp 1 0, .bp 2 0, .ki, .i] [.box [.z, .z, .z, .z, .nilS, .nilS, .g true (.pair .bool .str)], .box [.g false (.pair .str (.pair (.int .i64) .bool))], .box [.ki, .ki, .ki, .ki, .own 3, .own 4, .g true (.pair .bool .str)], .arr true tRange, .arr false tWrite]] spec_ReadTxn_b2,
  .pl 1000025 [0],
  .wd [some (.slice (.slice .bool)), none, none, none, none, some tRange, some tWrite]] (by kernel_rfl) (fun h => by rw [spec_ReadTxn_k, fn_f]; kernel_rfl) (.c (fun c x => by kernel_rfl) <| .c (fun c x => by kernel_rfl) <| .n)

def g106 := g105.fn 214 Tryz.func214 ⟨[.bp 0 0, .i], [.box [.g false (.pair .str (.pair (.int .i64) .bool))]]⟩ [⟨[.own 1], [.box [.g false (.pair .str (.pair (.int .i64) .bool))], .arr false tTxn]⟩] spec_l10ReadTxns_k [.lp 0 [0, 1, 4, 5, 6, 7] [none, none, some tTxn] ⟨[.bp 0 0, .ki, .own 1, .own 2, .ki, .i], [.box [.g false (.pair .str (.pair (.int .i64) .bool))], .arr false tTxn, .arr false tTxn]⟩ [en .ret [.bp 0 0, .ki, .own 1, .own 1, .ki, .i] [.box [.g false (.pair .str (.pair (.int .i64) .bool))], .arr false tTxn], en (.exit 0) [.bp 0 0, .ki, .own 1, .own 2, .ki, .i] [.box [.g false (.pair .str (.pair (.int .i64) .bool))], .arr false tTxn, .arr false tTxn]] spec_l10ReadTxns_b0] (by kernel_rfl) (fun h => by rw [spec_l10ReadTxns_k, fn_f]; kernel_rfl) (.c (fun c x => by kernel_rfl) <| .n)

def g107 := g106.fn 199 Tryz.func199 ⟨[.s, .i], []⟩ [⟨[.tup [.a tBase, .i, .b]], []⟩] spec_ReadBase_k [.lp 0 [4, 7, 8, 9, 10] [none, none, none, none, none, none, none, none, none, none, none, none, none, some tVersion] ⟨[.bp 0 0, .bp 1 0, .bp 2 0, .ki, .i], [.box [.nilS, .nilS, .nilS, .g true (.pair (.int .i64) (.int .i64))], .box [.g false (.pair .str (.pair (.int .i64) .bool))], .box [.own 3, .nilS, .nilS, .g true (.pair (.int .i64) (.int .i64))], .arr false tVersion]⟩ [en (.exit 0) [.bp 0 0, .bp 1 0, .bp 2 0, .ki, .i] [.box [.nilS, .nilS, .nilS, .g true (.pair (.int .i64) (.int .i64))], .box [.g false (.pair .str (.pair (.int .i64) .bool))], .box [.own 3, .nilS, .nilS, .g true (.pair (.int .i64) (.int .i64))], .arr false tVersion]] spec_ReadBase_b0,
  .pl 1000017 [0],
  .wd [some (.slice (.slice .bool)), some tVersion, some tTxn, some tTxn]] (by kernel_rfl) (fun h => by rw [spec_ReadBase_k, fn_f]; kernel_rfl) (.c (fun c x => by kernel_rfl) <| .n)

def g108 := g107.fn 180 Tryz.func180 ⟨[.s], []⟩ [⟨[.tup [.a tRecord, .b]], []⟩] spec_ReadRecord_k [.wd [some (.slice (.slice .bool)), none, none, none, none, none, some tRange, some tWrite, none, none, none, none, some tVersion, some tTxn, some tTxn]] (by kernel_rfl) (fun h => by rw [spec_ReadRecord_k, fn_f]; kernel_rfl) (.n)

def g109 := g108.fn 19 Tryz.func19 ⟨[.a tBase, .s], []⟩ [⟨[.i], []⟩] spec_ReadyAt_k [.lp 0 [1, 2, 4, 5] [] ⟨[.ks, .bp 0 0, .z, .i], [.box [.g true tBase]]⟩ [en .ret [.ks, .bp 0 0, .i, .i] [.box [.g true tBase]], en (.exit 0) [.ks, .bp 0 0, .z, .i] [.box [.g true tBase]]] spec_ReadyAt_b0] (by kernel_rfl) (fun h => by rw [spec_ReadyAt_k, fn_f]; kernel_rfl) (.c (fun c x => by kernel_rfl) <| .n)

def g110 := g109.fn 17 Tryz.func17 ⟨[.a tBase, .a tTxn, .s], []⟩ [⟨[.agg [.own 0, .own 1, .own 2, .i, .i]], [.arr false tVersion, .arr false tTxn, .arr false tTxn]⟩] spec_MadeReady_k [.lp 0 [2, 3, 4, 6, 7, 8, 9] [] ⟨[.ks, .bp 0 0, .bp 1 0, .bp 2 0, .bp 3 0, .bp 4 0, .i], [.box [.g true tBase], .box [.g true tTxn], .box [.nilS, .nilS, .nilS, .g true (.pair (.int .i64) (.int .i64))], .box [.own 5, .own 6, .own 7, .g true (.pair (.int .i64) (.int .i64))], .box [.ki, .n .i64 2, .ki, .ki, .own 8, .own 9, .g true (.pair .bool .str)], .arr true tVersion, .arr true tTxn, .arr false tTxn, .arr true tRange, .arr true tWrite]⟩ [en (.exit 0) [.ks, .bp 0 0, .bp 1 0, .bp 2 0, .bp 3 0, .bp 4 0, .i] [.box [.g true tBase], .box [.g true tTxn], .box [.nilS, .nilS, .nilS, .g true (.pair (.int .i64) (.int .i64))], .box [.own 5, .own 6, .own 7, .g true (.pair (.int .i64) (.int .i64))], .box [.ki, .n .i64 2, .ki, .ki, .own 8, .own 9, .g true (.pair .bool .str)], .arr true tVersion, .arr true tTxn, .arr false tTxn, .arr true tRange, .arr true tWrite]] spec_MadeReady_b0,
  .lp 2 [2, 3, 4, 6, 7, 10] [] ⟨[.ks, .bp 0 0, .bp 1 0, .bp 2 0, .bp 3 0, .i], [.box [.g true tBase], .box [.g true tTxn], .box [.nilS, .nilS, .nilS, .g true (.pair (.int .i64) (.int .i64))], .box [.own 4, .own 5, .own 6, .g true (.pair (.int .i64) (.int .i64))], .arr true tVersion, .arr true tTxn, .arr false tTxn]⟩ [en (.exit 2) [.ks, .bp 0 0, .bp 1 0, .bp 2 0, .bp 3 0, .i] [.box [.g true tBase], .box [.g true tTxn], .box [.nilS, .nilS, .nilS, .g true (.pair (.int .i64) (.int .i64))], .box [.own 4, .own 5, .own 6, .g true (.pair (.int .i64) (.int .i64))], .arr true tVersion, .arr true tTxn, .arr false tTxn]] spec_MadeReady_b2,
  .pl 1000011 [7, 10, 11],
  .pl 1000017 [6, 7, 8]] (by kernel_rfl) (fun h => by rw [spec_MadeReady_k, fn_f]; kernel_rfl) (.c (fun c x => by kernel_rfl) <| .c (fun c x => by kernel_rfl) <| .n)

def g111 := g110.fn 18 Tryz.func18 ⟨[.a tBase, .s], []⟩ [⟨[.a tBase], []⟩] spec_GivenUp_k [.lp 0 [1, 2, 4, 5, 6] [] ⟨[.ks, .bp 0 0, .bp 1 0, .bp 2 0, .i], [.box [.g true tBase], .box [.nilS, .nilS, .nilS, .g true (.pair (.int .i64) (.int .i64))], .box [.own 3, .own 4, .own 5, .g true (.pair (.int .i64) (.int .i64))], .arr true tVersion, .arr true tTxn, .arr false tTxn]⟩ [en (.exit 0) [.ks, .bp 0 0, .bp 1 0, .bp 2 0, .i] [.box [.g true tBase], .box [.nilS, .nilS, .nilS, .g true (.pair (.int .i64) (.int .i64))], .box [.own 3, .own 4, .own 5, .g true (.pair (.int .i64) (.int .i64))], .arr true tVersion, .arr true tTxn, .arr false tTxn]] spec_GivenUp_b0,
  .pl 1000007 [5, 6, 7],
  .wd [some (.slice (.slice .bool))]] (by kernel_rfl) (fun h => by rw [spec_GivenUp_k, fn_f]; kernel_rfl) (.c (fun c x => by kernel_rfl) <| .n)

def g112 := g111.fn 201 Tryz.func201 ⟨[.a tBase, .a tRecord], []⟩ [⟨[.tup [.a tBase, .b]], []⟩] spec_l10Play_k [.pl 2000015 [0, 2, 4, 6, 8, 10, 13, 14, 16],
  .wd [some (.slice (.slice .bool))]] (by kernel_rfl) (fun h => by rw [spec_l10Play_k, fn_f]; kernel_rfl) (.n)

def g113 := g112.fn 181 Tryz.func181 ⟨[.a tBase, .a tRecord], []⟩ [⟨[.tup [.a tBase, .b]], []⟩] spec_Played_k [.wd [some (.slice (.slice .bool))]] (by kernel_rfl) (fun h => by rw [spec_Played_k, fn_f]; kernel_rfl) (.n)

def g114 := g113.fn 166 Tryz.func166 ⟨[.a tDisk], []⟩ [⟨[.tup [.a tBase, .b]], []⟩] spec_PlayLog_k [.lp 0 [2, 3, 4, 5, 6] [some (.slice (.slice .bool)), none, none, none, none, none, none, none, none, none, none, some tVersion, some tTxn, some tTxn] ⟨[.bp 0 0, .ff, .bp 1 0, .kl .str, .i], [.box [.nilS, .nilS, .nilS, .g false (.pair (.int .i64) (.int .i64))], .box [.g false tBase]]⟩ [en .ret [.bp 0 0, .ff, .bp 1 0, .kl .str, .i] [.box [.nilS, .nilS, .nilS, .g false (.pair (.int .i64) (.int .i64))], .box [.g false tBase]], en (.exit 0) [.bp 0 0, .ff, .bp 1 0, .kl .str, .i] [.box [.nilS, .nilS, .nilS, .g false (.pair (.int .i64) (.int .i64))], .box [.g false tBase]]] spec_PlayLog_b0,
  .wd [some (.slice (.slice .bool)), some tVersion, some tTxn, some tTxn]] (by kernel_rfl) (fun h => by rw [spec_PlayLog_k, fn_f]; kernel_rfl) (.c (fun c x => by kernel_rfl) <| .n)

def g115 := g114.fn 183 Tryz.func183 ⟨[.a tDisk, .l .str], []⟩ [⟨[.tup [.a tDisk, .b]], []⟩] spec_l04Fill_k [.lp 0 [1, 4, 6, 7, 8, 9] [] ⟨[.kl .str, .bp 0 0, .ki, .bp 1 0, .b, .i], [.box [.nilS, .nilS], .box [.g false tDisk]]⟩ [en (.exit 0) [.kl .str, .bp 0 0, .ki, .bp 1 0, .b, .i] [.box [.nilS, .nilS], .box [.g false tDisk]]] spec_l04Fill_b0,
  .pl 2000007 [0, 2, 4, 6, 8, 10, 12, 14, 16, 18, 20, 22]] (by kernel_rfl) (fun h => by rw [spec_l04Fill_k, fn_f]; kernel_rfl) (.c (fun c x => by kernel_rfl) <| .n)

def g116 := g115.fn 184 Tryz.func184 ⟨[.a tDisk], []⟩ [⟨[.tup [.a tDisk, .b]], []⟩] spec_l04Turn_k [.pl 2000001 [0, 2, 5, 6, 9, 11, 12, 14, 16, 18],
  .wd [some (.slice (.slice .bool))]] (by kernel_rfl) (fun h => by rw [spec_l04Turn_k, fn_f]; kernel_rfl) (.n)

def g117 := g116.fn 167 Tryz.func167 ⟨[.a tDisk, .l .str], []⟩ [⟨[.tup [.a tDisk, .b]], []⟩] spec_SwitchLog_k [.wd [some (.slice (.slice .bool))]] (by kernel_rfl) (fun h => by rw [spec_SwitchLog_k, fn_f]; kernel_rfl) (.n)

def g118 := g117.fn 156 Tryz.func156 ⟨[.a tDisk], []⟩ [⟨[.tup [.a tDisk, .b]], []⟩] spec_l12Fixed_k [.wd [some (.slice (.slice .bool))]] (by kernel_rfl) (fun h => by rw [spec_l12Fixed_k, fn_f]; kernel_rfl) (.n)

def g119 := g118.fn 162 Tryz.func162 ⟨[.a tTxn, .l tTxn], []⟩ [⟨[.b], []⟩] spec_ReadyDanger_k [.lp 2 [1, 2, 4, 5, 6, 7, 8] [] ⟨[.kl tTxn, .bp 0 0, .ff, .kb, .ki, .bp 1 0, .i], [.box [.g true tTxn], .box [.g true tTxn]]⟩ [en .ret [.kl tTxn, .bp 0 0, .tt, .kb, .ki, .bp 1 0, .i] [.box [.g true tTxn], .box [.g true tTxn]], en (.exit 2) [.kl tTxn, .bp 0 0, .ff, .kb, .ki, .bp 1 0, .i] [.box [.g true tTxn], .box [.g true tTxn]]] spec_ReadyDanger_b2,
  .lp 0 [1, 2, 4, 5, 6] [] ⟨[.kl tTxn, .bp 0 0, .ff, .kb, .i], [.box [.g true tTxn]]⟩ [en .ret [.kl tTxn, .bp 0 0, .tt, .kb, .i] [.box [.g true tTxn]], en (.exit 0) [.kl tTxn, .bp 0 0, .ff, .kb, .i] [.box [.g true tTxn]]] spec_ReadyDanger_b0,
  .pl 2000014 [0, 2, 4, 6, 8, 10, 12, 14, 16, 18, 20, 22, 24, 26, 28, 30, 32, 34, 36, 38, 40, 42, 45, 46]] (by kernel_rfl) (fun h => by rw [spec_ReadyDanger_k, fn_f]; kernel_rfl) (.c (fun c x => by kernel_rfl) <| .c (fun c x => by kernel_rfl) <| .n)

def g120 := g119.fn 153 Tryz.func153 ⟨[.a tEngine, .i, .s], []⟩ [⟨[.tup [.a tEngine, .agg [.i, .i, .i, .i, .i, .l tRange, .l tWrite, .b, .s, .s, .b, .nilS, .nilS, .nilS, .i, .i], .i]], []⟩] spec_Prepare_k [.pl 2000010 [0, 2, 4, 6, 8, 10, 12, 14, 16, 18, 21, 23, 24],
  .pl 2000017 [0, 2, 4, 6, 8, 10, 12, 14, 17, 18, 20],
  .pl 1000020 [1],
  .wd [some (.slice (.slice .bool)), none, none, none, none, none, none, none, none, none, none, none, some tRange, some tWrite]] (by kernel_rfl) (fun h => by rw [spec_Prepare_k, fn_f]; kernel_rfl) (.n)

def g121 := g120.fn 154 Tryz.func154 ⟨[.a tEngine, .s, .b], []⟩ [⟨[.tup [.a tEngine, .agg [.i, .i, .i, .i, .i, .nilS, .nilS, .b, .s, .s, .b, .nilS, .nilS, .nilS, .i, .i], .i]], []⟩] spec_Finish_k [.pl 2000008 [0, 2, 4, 6, 8, 10, 12, 14, 17, 18, 20],
  .wd [some (.slice (.slice .bool))]] (by kernel_rfl) (fun h => by rw [spec_Finish_k, fn_f]; kernel_rfl) (.n)

def g122 := g121.fn 155 Tryz.func155 ⟨[.a tStore], []⟩ [⟨[.a tStore], []⟩] spec_l12Copy_k [.pl 2000001 [0, 2, 6, 8, 5, 11, 12, 14],
  .wd [some (.slice (.slice .bool))]] (by kernel_rfl) (fun h => by rw [spec_l12Copy_k, fn_f]; kernel_rfl) (.n)

def g123 := g122.fn 135 Tryz.func135 ⟨[.a tStore], []⟩ [⟨[.tup [.a tStore, .b]], []⟩] spec_FixStore_k [] (by kernel_rfl) (fun h => by rw [spec_FixStore_k, fn_f]; kernel_rfl) (.n)

def g124 := g123.fn 136 Tryz.func136 ⟨[.a tEngine, .i], []⟩ [⟨[.tup [.a tEngine, .i]], []⟩] spec_Leave_k [.wd [some (.slice (.slice .bool))]] (by kernel_rfl) (fun h => by rw [spec_Leave_k, fn_f]; kernel_rfl) (.n)

def g125 := g124.fn 151 Tryz.func151 ⟨[.bp 0 0, .a tRecord], [.box [.g false tStore]]⟩ [⟨[.b], [.box [.g false tStore]]⟩] spec_l12Keep_8fe4_k [] (by kernel_rfl) (fun h => by rw [spec_l12Keep_8fe4_k, fn_f]; kernel_rfl) (.n)

def g126 := g125.fn 132 Tryz.func132 ⟨[.bp 0 0, .i], [.box [.g false tStore]]⟩ [⟨[.i], [.box [.g false tStore]]⟩] spec_l12Commit_09c6_k [] (by kernel_rfl) (fun h => by rw [spec_l12Commit_09c6_k, fn_f]; kernel_rfl) (.n)

def g127 := g126.fn 133 Tryz.func133 ⟨[.bp 0 0, .i, .s], [.box [.g false tStore]]⟩ [⟨[.i], [.box [.g false tStore]]⟩] spec_l12Prepare_55a9_k [] (by kernel_rfl) (fun h => by rw [spec_l12Prepare_55a9_k, fn_f]; kernel_rfl) (.n)

def g128 := g127.fn 134 Tryz.func134 ⟨[.bp 0 0, .s, .b], [.box [.g false tStore]]⟩ [⟨[.i], [.box [.g false tStore]]⟩] spec_l12Finish_e5f1_k [] (by kernel_rfl) (fun h => by rw [spec_l12Finish_e5f1_k, fn_f]; kernel_rfl) (.n)

def g129 := g128.fn 108 Tryz.func108 ⟨[.bp 0 0, .bp 1 0], [.box [.g false (.pair (.slice (.int .u8)) (.pair (.int .i64) (.int .i64)))], .box [.g false tStore]]⟩ [⟨[.tup []], [.box [.g false (.pair (.slice (.int .u8)) (.pair (.int .i64) (.int .i64)))], .box [.g false tStore]]⟩] spec_l12Step_2647_k [.pl 1000002 [0],
  .pl 1000010 [0],
  .pl 1000012 [0],
  .pl 1000014 [0]] (by kernel_rfl) (fun h => by rw [spec_l12Step_2647_k, fn_f]; kernel_rfl) (.n)

def g130 := g129.fn 76 Tryz.func76 ⟨[.bp 0 0, .i], [.box [.g false (.pair (.slice (.int .u8)) (.pair (.int .i64) (.int .i64)))]]⟩ [⟨[.a tStore], [.box [.g false (.pair (.slice (.int .u8)) (.pair (.int .i64) (.int .i64)))]]⟩] spec_l12Used_k [.lp 0 [0, 1, 4, 5, 6] [some (.slice (.slice .bool)), none, none, none, none, none, none, none, none, none, none, none, none, none, none, none, none, some tVersion, some tTxn, some tTxn, none, none, some tTxn, none, some tPut] ⟨[.bp 0 0, .ki, .bp 1 0, .bp 2 0, .i], [.box [.g false (.pair (.slice (.int .u8)) (.pair (.int .i64) (.int .i64)))], .box [.nilS, .nilS, .nilS, .g true (.pair (.int .i64) (.int .i64)), .nilS, .nilS, .nilS], .box [.g false tStore]]⟩ [en (.exit 0) [.bp 0 0, .ki, .bp 1 0, .bp 2 0, .i] [.box [.g false (.pair (.slice (.int .u8)) (.pair (.int .i64) (.int .i64)))], .box [.nilS, .nilS, .nilS, .g true (.pair (.int .i64) (.int .i64)), .nilS, .nilS, .nilS], .box [.g false tStore]]] spec_l12Used_b0] (by kernel_rfl) (fun h => by rw [spec_l12Used_k, fn_f]; kernel_rfl) (.c (fun c x => by kernel_rfl) <| .n)

def g131 := g130.fn 37 Tryz.func37 ⟨[.bp 0 0], [.box [.g false (.pair (.slice (.int .u8)) (.pair (.int .i64) (.int .i64)))]]⟩ [⟨[.a tBase], [.box [.g false (.pair (.slice (.int .u8)) (.pair (.int .i64) (.int .i64)))]]⟩] spec_l09Base_k [] (by kernel_rfl) (fun h => by rw [spec_l09Base_k, fn_f]; kernel_rfl) (.n)

def g132 := g131.fn 114 Tryz.func114 ⟨[.bp 0 0], [.box [.g false (.pair (.slice (.int .u8)) (.pair (.int .i64) (.int .i64)))]]⟩ [⟨[.a tTxn], [.box [.g false (.pair (.slice (.int .u8)) (.pair (.int .i64) (.int .i64)))]]⟩] spec_l07Txn_k [.pl 1000011 [0],
  .wd [some (.slice (.slice .bool))]] (by kernel_rfl) (fun h => by rw [spec_l07Txn_k, fn_f]; kernel_rfl) (.n)

def g133 := g132.fn 115 Tryz.func115 ⟨[.bp 0 0], [.box [.g false (.pair (.slice (.int .u8)) (.pair (.int .i64) (.int .i64)))]]⟩ [⟨[.a tWrite], [.box [.g false (.pair (.slice (.int .u8)) (.pair (.int .i64) (.int .i64)))]]⟩] spec_l05Any_k [] (by kernel_rfl) (fun h => by rw [spec_l05Any_k, fn_f]; kernel_rfl) (.n)

def g134 := g133.fn 85 Tryz.func85 ⟨[.bp 0 0], [.box [.g false (.pair (.slice (.int .u8)) (.pair (.int .i64) (.int .i64)))]]⟩ [⟨[.a tTxn], [.box [.g false (.pair (.slice (.int .u8)) (.pair (.int .i64) (.int .i64)))]]⟩] spec_l07Any_k [.pl 1000016 [0],
  .wd [some (.slice (.slice .bool))]] (by kernel_rfl) (fun h => by rw [spec_l07Any_k, fn_f]; kernel_rfl) (.n)

def g135 := g134.fn 116 Tryz.func116 ⟨[.bp 0 0], [.box [.g false (.pair (.slice (.int .u8)) (.pair (.int .i64) (.int .i64)))]]⟩ [⟨[.own 1], [.box [.g false (.pair (.slice (.int .u8)) (.pair (.int .i64) (.int .i64)))], .arr false tVersion]⟩] spec_l06Versions_k [.lp 0 [0, 3, 4] [] ⟨[.bp 0 0, .own 1, .i], [.box [.g false (.pair (.slice (.int .u8)) (.pair (.int .i64) (.int .i64)))], .arr false tVersion]⟩ [en (.exit 0) [.bp 0 0, .own 1, .i] [.box [.g false (.pair (.slice (.int .u8)) (.pair (.int .i64) (.int .i64)))], .arr false tVersion]] spec_l06Versions_b0] (by kernel_rfl) (fun h => by rw [spec_l06Versions_k, fn_f]; kernel_rfl) (.c (fun c x => by kernel_rfl) <| .n)

def g136 := g135.fn 86 Tryz.func86 ⟨[.bp 0 0], [.box [.g false (.pair (.slice (.int .u8)) (.pair (.int .i64) (.int .i64)))]]⟩ [⟨[.own 1], [.box [.g false (.pair (.slice (.int .u8)) (.pair (.int .i64) (.int .i64)))], .arr false tVersion]⟩] spec_l06Any_k [] (by kernel_rfl) (fun h => by rw [spec_l06Any_k, fn_f]; kernel_rfl) (.n)

end

end Go.VE
