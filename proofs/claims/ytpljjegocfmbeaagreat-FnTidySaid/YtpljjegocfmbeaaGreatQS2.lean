/- Each function told by its native program; written by gen2.py. -/

import Derived.Test.YtpljjegocfmbeaaGreatQS1

namespace Go.VE

open Go.Proofs

noncomputable section

set_option linter.unusedVariables false
set_option linter.unusedSimpArgs false
set_option maxRecDepth 100000


def g137 := g136.fn 86 Tryz.func86 ⟨[.bp 0 0], [.box [.g false (.pair (.slice (.int .u8)) (.pair (.int .i64) (.int .i64)))]]⟩ [⟨[.own 1], [.box [.g false (.pair (.slice (.int .u8)) (.pair (.int .i64) (.int .i64)))], .arr false tVersion]⟩] spec_l06Any_k [] (by kernel_rfl) (fun h => by rw [spec_l06Any_k, fn_f]; kernel_rfl) (.n)

def g138 := g137.fn 49 Tryz.func49 ⟨[.bp 0 0], [.box [.g false (.pair (.slice (.int .u8)) (.pair (.int .i64) (.int .i64)))]]⟩ [⟨[.a tBase], [.box [.g false (.pair (.slice (.int .u8)) (.pair (.int .i64) (.int .i64)))]]⟩] spec_l09Any_k [.pl 1000010 [0],
  .pl 1000012 [0],
  .wd [some (.slice (.slice .bool))]] (by kernel_rfl) (fun h => by rw [spec_l09Any_k, fn_f]; kernel_rfl) (.n)

def g139 := g138.fn 54 Tryz.func54 ⟨[.l (.int .u8)], []⟩ [⟨[.tup [.a tBase, .own 0]], [.arr false tTxn]⟩] spec_DrawOldestOf_k [] (by kernel_rfl) (fun h => by rw [spec_DrawOldestOf_k, fn_f]; kernel_rfl) (.n)

def g140 := g139.fn 20 Tryz.func20 ⟨[.l (.int .u8)], []⟩ [⟨[.tup [.a tBase, .own 0]], [.arr false tTxn]⟩] spec_DrawTidied_k [] (by kernel_rfl) (fun h => by rw [spec_DrawTidied_k, fn_f]; kernel_rfl) (.n)

def g141 := g140.fn 41 Tryz.func41 ⟨[.a tTxn], []⟩ [⟨[.agg [.i, .i, .i, .i, .own 0, .own 1, .b, .s]], [.arr false tRange, .arr false tWrite]⟩] impl_copyTxn_k [] (by kernel_rfl) (fun h => by rw [impl_copyTxn_k, fn_f]; kernel_rfl) (.n)

def g142 := g141.fn 80 Tryz.func80 ⟨[.l tTxn], []⟩ [⟨[.own 0], [.arr false tTxn]⟩] impl_copyTxns_k [.lp 0 [3, 6, 7, 8] [some tTxn] ⟨[.own 0, .kl tTxn, .ki, .i], [.arr false tTxn]⟩ [en (.exit 0) [.own 0, .kl tTxn, .ki, .i] [.arr false tTxn]] impl_copyTxns_b0] (by kernel_rfl) (fun h => by rw [impl_copyTxns_k, fn_f]; kernel_rfl) (.c (fun c x => by kernel_rfl) <| .n)

def g143 := g142.fn 40 Tryz.func40 ⟨[.a tBase], []⟩ [⟨[.agg [.own 0, .own 1, .own 2, .i, .i]], [.arr false tVersion, .arr false tTxn, .arr false tTxn]⟩] impl_copyBase_k [.pl 2000002 [0, 2, 6, 8, 5, 12, 11, 14, 16, 18]] (by kernel_rfl) (fun h => by rw [impl_copyBase_k, fn_f]; kernel_rfl) (.n)

def g144 := g143.fn 22 Tryz.func22 ⟨[.a tBase, .l tTxn], []⟩ [⟨[.i], []⟩] impl_OldestOf_k [.lp 0 [5, 10, 11, 12] [] ⟨[.i, .kl tTxn, .ki, .i], []⟩ [en (.exit 0) [.i, .kl tTxn, .ki, .i] []] impl_OldestOf_b0] (by kernel_rfl) (fun h => by rw [impl_OldestOf_k, fn_f]; kernel_rfl) (.c (fun c x => by kernel_rfl) <| .n)

def g145 := g144.fn 55 Tryz.func55 ⟨[.a tTxn, .bp 0 0], [.box [.i]]⟩ [⟨[.b], [.box [.i]]⟩] impl_Tidied_1_k [] (by kernel_rfl) (fun h => by rw [impl_Tidied_1_k, fn_f]; kernel_rfl) (.n)

def g146 := g145.fn 43 Tryz.func43 ⟨[.l tTxn, .fn 55 [.bp 0 0]], [.box [.i]]⟩ [⟨[.i], [.box [.i]]⟩] slices_IndexFunc_Txn_Tidied_1_k [.lp 0 [0, 1, 4, 7, 8] [] ⟨[.kl tTxn, .fn 55 [.bp 0 0], .z, .ki, .i], [.box [.i]]⟩ [en .ret [.kl tTxn, .fn 55 [.bp 0 0], .i, .ki, .i] [.box [.i]], en (.exit 0) [.kl tTxn, .fn 55 [.bp 0 0], .z, .ki, .i] [.box [.i]]] slices_IndexFunc_Txn_Tidied_1_b0] (by kernel_rfl) (fun h => by rw [slices_IndexFunc_Txn_Tidied_1_k, fn_f]; kernel_rfl) (.c (fun c x => by kernel_rfl) <| .n)

def g147 := g146.fn 45 Tryz.func45 ⟨[.own 0, .fn 55 [.bp 1 0]], [.arr false tTxn, .box [.i]]⟩ [⟨[.own 0], [.arr false tTxn, .box [.i]]⟩, ⟨[.own 2], [.gone, .box [.i], .arr false tTxn]⟩] slices_DeleteFunc_Txn_Tidied_1_vo_k [.lp 0 [0, 1, 5, 6] [] ⟨[.own 0, .fn 55 [.bp 1 0], .i, .i], [.arr false tTxn, .box [.i]]⟩ [en (.exit 0) [.own 0, .fn 55 [.bp 1 0], .i, .i] [.arr false tTxn, .box [.i]]] slices_DeleteFunc_Txn_Tidied_1_vo_b0] (by kernel_rfl) (fun h => by rw [slices_DeleteFunc_Txn_Tidied_1_vo_k, fn_f]; kernel_rfl) (.c (fun c x => by kernel_rfl) <| .n)

def g148 := g147.fn 90 Tryz.func90 ⟨[.l tVersion, .s, .i], []⟩ [⟨[.i], []⟩] impl_lastAt_k [.lp 0 [0, 1, 2, 7, 10, 11, 12] [] ⟨[.kl tVersion, .ks, .ki, .i, .kl tVersion, .ki, .i], []⟩ [en (.exit 0) [.kl tVersion, .ks, .ki, .i, .kl tVersion, .ki, .i] []] impl_lastAt_b0,
  .pl 2000005 [0, 2, 4, 6, 8, 10, 12, 14, 16, 18, 20, 22, 24, 26, 28, 30, 32, 34, 36, 38, 40, 42, 44, 46]] (by kernel_rfl) (fun h => by rw [impl_lastAt_k, fn_f]; kernel_rfl) (.c (fun c x => by kernel_rfl) <| .n)

def g149 := g148.fn 91 Tryz.func91 ⟨[.s, .bp 0 0], [.box [.own 1], .arr false tVersion]⟩ [⟨[.i], [.box [.own 1], .arr false tVersion]⟩] impl_Trimmed_1_k [.lp 0 [0, 4, 7, 8, 9] [] ⟨[.ks, .i, .own 1, .ki, .i], [.box [.own 1], .arr true tVersion]⟩ [en (.exit 0) [.ks, .i, .own 1, .ki, .i] [.box [.own 1], .arr true tVersion]] impl_Trimmed_1_b0] (by kernel_rfl) (fun h => by rw [impl_Trimmed_1_k, fn_f]; kernel_rfl) (.c (fun c x => by kernel_rfl) <| .n)

def g150 := g149.fn 56 Tryz.func56 ⟨[.l tVersion, .i], []⟩ [⟨[.own 0], [.arr false tVersion]⟩] impl_Trimmed_k [.lp 0 [0, 1, 5, 12, 13, 14] [none, none, none, none, none, none, some tVersion] ⟨[.kl tVersion, .ki, .bp 0 0, .kl tVersion, .ki, .i], [.box [.own 1], .arr false tVersion]⟩ [en (.exit 0) [.kl tVersion, .ki, .bp 0 0, .kl tVersion, .ki, .i] [.box [.own 1], .arr false tVersion]] impl_Trimmed_b0,
  .lp 2 [1, 8, 9, 38, 39, 40] [none, none, some tVersion] ⟨[.ki, .fn 91 [.bp 0 0], .own 1, .own 2, .ki, .i], [.box [.own 2], .arr false tVersion, .arr false tVersion]⟩ [en (.exit 2) [.ki, .fn 91 [.bp 0 0], .own 1, .own 2, .ki, .i] [.box [.own 2], .arr false tVersion, .arr false tVersion]] impl_Trimmed_b2] (by kernel_rfl) (fun h => by rw [impl_Trimmed_k, fn_f]; kernel_rfl) (.c (fun c x => by kernel_rfl) <| .c (fun c x => by kernel_rfl) <| .n)

def g151 := g150.fn 21 Tryz.func21 ⟨[.a tBase, .l tTxn], []⟩ [⟨[.a tBase], []⟩] impl_Tidied_k [.wd [some (.slice (.slice .bool))]] (by kernel_rfl) (fun h => by rw [impl_Tidied_k, fn_f]; kernel_rfl) (.n)

def g152 := g151.fn 23 Tryz.func23 ⟨[.l (.int .u8)], []⟩ [⟨[.a tBase], []⟩] spec_DrawBaseOk_k [] (by kernel_rfl) (fun h => by rw [spec_DrawBaseOk_k, fn_f]; kernel_rfl) (.n)

def g153 := g152.fn 7 Tryz.func7 ⟨[.l (.int .u8)], []⟩ [⟨[.a tBase], []⟩] spec_DrawBase_k [] (by kernel_rfl) (fun h => by rw [spec_DrawBase_k, fn_f]; kernel_rfl) (.n)

def g154 := g153.fn 14 Tryz.func14 ⟨[.l tVersion, .l tVersion], []⟩ [⟨[.b], []⟩] laws_sameVersions_k [.lp 0 [0, 1, 4, 5] [] ⟨[.kl tVersion, .kl tVersion, .ff, .i], []⟩ [en .ret [.kl tVersion, .kl tVersion, .ff, .i] [], en (.exit 0) [.kl tVersion, .kl tVersion, .ff, .i] []] laws_sameVersions_b0,
  .pl 2000006 [0, 2, 4, 6, 8, 10, 12, 14, 16]] (by kernel_rfl) (fun h => by rw [laws_sameVersions_k, fn_f]; kernel_rfl) (.c (fun c x => by kernel_rfl) <| .n)

def g155 := g154.fn 87 Tryz.func87 ⟨[.l tWrite, .l tWrite], []⟩ [⟨[.b], []⟩] laws_sameWrites_k [.lp 0 [0, 1, 4, 5] [] ⟨[.kl tWrite, .kl tWrite, .ff, .i], []⟩ [en .ret [.kl tWrite, .kl tWrite, .ff, .i] [], en (.exit 0) [.kl tWrite, .kl tWrite, .ff, .i] []] laws_sameWrites_b0,
  .pl 2000006 [0, 2, 4, 6, 8, 10, 12, 14, 16]] (by kernel_rfl) (fun h => by rw [laws_sameWrites_k, fn_f]; kernel_rfl) (.c (fun c x => by kernel_rfl) <| .n)

def g156 := g155.fn 50 Tryz.func50 ⟨[.a tTxn, .a tTxn], []⟩ [⟨[.b], []⟩] laws_sameTxn_k [.lp 0 [2, 3, 4, 5] [] ⟨[.bp 0 0, .bp 1 0, .ff, .i], [.box [.g true tTxn], .box [.g true tTxn]]⟩ [en .ret [.bp 0 0, .bp 1 0, .ff, .i] [.box [.g true tTxn], .box [.g true tTxn]], en (.exit 0) [.bp 0 0, .bp 1 0, .ff, .i] [.box [.g true tTxn], .box [.g true tTxn]]] laws_sameTxn_b0,
  .pl 2000006 [0, 2, 4, 6, 8, 10, 12, 14, 16, 18, 20]] (by kernel_rfl) (fun h => by rw [laws_sameTxn_k, fn_f]; kernel_rfl) (.c (fun c x => by kernel_rfl) <| .n)

def g157 := g156.fn 15 Tryz.func15 ⟨[.l tTxn, .l tTxn], []⟩ [⟨[.b], []⟩] laws_sameTxns_k [.lp 0 [0, 1, 4, 5] [] ⟨[.kl tTxn, .kl tTxn, .ff, .i], []⟩ [en .ret [.kl tTxn, .kl tTxn, .ff, .i] [], en (.exit 0) [.kl tTxn, .kl tTxn, .ff, .i] []] laws_sameTxns_b0,
  .pl 2000006 [0, 2, 4, 6, 8, 10, 12, 14, 16, 18]] (by kernel_rfl) (fun h => by rw [laws_sameTxns_k, fn_f]; kernel_rfl) (.c (fun c x => by kernel_rfl) <| .n)

def g158 := g157.fn 16 Tryz.func16 ⟨[.a tBase, .a tBase], []⟩ [⟨[.b], []⟩] laws_sameBase_k [] (by kernel_rfl) (fun h => by rw [laws_sameBase_k, fn_f]; kernel_rfl) (.n)

def g159 := g158.fn 59 Tryz.func59 ⟨[.i, .i, .i], []⟩ [⟨[.b], []⟩] impl_within_k [] (by kernel_rfl) (fun h => by rw [impl_within_k, fn_f]; kernel_rfl) (.n)

def g160 := g159.fn 92 Tryz.func92 ⟨[.s], []⟩ [⟨[.b], []⟩] impl_KeyOk_k [.lp 0 [0, 2, 3] [] ⟨[.ks, .ff, .i], []⟩ [en .ret [.ks, .ff, .i] [], en (.exit 0) [.ks, .ff, .i] []] impl_KeyOk_b0] (by kernel_rfl) (fun h => by rw [impl_KeyOk_k, fn_f]; kernel_rfl) (.c (fun c x => by kernel_rfl) <| .n)

def g161 := g160.fn 137 Tryz.func137 ⟨[.s], []⟩ [⟨[.b], []⟩] cmp_isNaN_string_k [] (by kernel_rfl) (fun h => by rw [cmp_isNaN_string_k, fn_f]; kernel_rfl) (.n)

def g162 := g161.fn 118 Tryz.func118 ⟨[.s, .s], []⟩ [⟨[.i], []⟩] cmp_Compare_string_k [] (by kernel_rfl) (fun h => by rw [cmp_Compare_string_k, fn_f]; kernel_rfl) (.n)

def g163 := g162.fn 138 Tryz.func138 ⟨[.i], []⟩ [⟨[.b], []⟩] cmp_isNaN_int_k [] (by kernel_rfl) (fun h => by rw [cmp_isNaN_int_k, fn_f]; kernel_rfl) (.n)

def g164 := g163.fn 119 Tryz.func119 ⟨[.i, .i], []⟩ [⟨[.i], []⟩] cmp_Compare_int_k [] (by kernel_rfl) (fun h => by rw [cmp_Compare_int_k, fn_f]; kernel_rfl) (.n)

def g165 := g164.fn 93 Tryz.func93 ⟨[.a tVersion, .a tVersion], []⟩ [⟨[.i], []⟩] impl_compareVersion_k [] (by kernel_rfl) (fun h => by rw [impl_compareVersion_k, fn_f]; kernel_rfl) (.n)

def g166 := g165.fn 58 Tryz.func58 ⟨[.l tVersion], []⟩ [⟨[.b], []⟩] impl_VersionsOk_k [.lp 0 [0, 2, 5, 6, 7] [] ⟨[.kl tVersion, .ff, .kl tVersion, .ki, .i], []⟩ [en .ret [.kl tVersion, .ff, .kl tVersion, .ki, .i] [], en (.exit 0) [.kl tVersion, .ff, .kl tVersion, .ki, .i] []] impl_VersionsOk_b0,
  .pl 2000004 [0, 2, 5, 6, 8, 10, 12, 14, 16, 18, 20, 22, 24, 26, 28, 30, 32, 34, 36, 38, 40, 42, 45, 46, 48, 50, 52, 54, 56, 58, 60, 62, 64, 66, 68, 71, 72, 74, 76]] (by kernel_rfl) (fun h => by rw [impl_VersionsOk_k, fn_f]; kernel_rfl) (.c (fun c x => by kernel_rfl) <| .n)

def g167 := g166.fn 94 Tryz.func94 ⟨[.a tRange], []⟩ [⟨[.b], []⟩] impl_RangeOk_k [] (by kernel_rfl) (fun h => by rw [impl_RangeOk_k, fn_f]; kernel_rfl) (.n)

def g168 := g167.fn 120 Tryz.func120 ⟨[.a tWrite], []⟩ [⟨[.b], []⟩] impl_WriteOk_k [] (by kernel_rfl) (fun h => by rw [impl_WriteOk_k, fn_f]; kernel_rfl) (.n)

def g169 := g168.fn 95 Tryz.func95 ⟨[.l tWrite], []⟩ [⟨[.b], []⟩] impl_WritesOk_k [.lp 0 [0, 2, 5, 6, 7] [] ⟨[.kl tWrite, .ff, .kl tWrite, .ki, .i], []⟩ [en .ret [.kl tWrite, .ff, .kl tWrite, .ki, .i] [], en (.exit 0) [.kl tWrite, .ff, .kl tWrite, .ki, .i] []] impl_WritesOk_b0,
  .pl 2000004 [0, 3, 4, 6, 8, 10, 12, 14, 16, 18, 20, 22, 24, 26, 28, 30, 32, 34]] (by kernel_rfl) (fun h => by rw [impl_WritesOk_k, fn_f]; kernel_rfl) (.c (fun c x => by kernel_rfl) <| .n)

def g170 := g169.fn 60 Tryz.func60 ⟨[.a tTxn], []⟩ [⟨[.b], []⟩] impl_TxnOk_k [.ct 5000011 [1, 2] [] ⟨[.bp 0 0, .ff], [.box [.g true tTxn]]⟩ [en .ret [.bp 0 0, .b] [.box [.g true tTxn]]] impl_TxnOk_j5000011,
  .ct 5000009 [1, 2] [] ⟨[.bp 0 0, .ff], [.box [.g true tTxn]]⟩ [en .ret [.bp 0 0, .b] [.box [.g true tTxn]]] impl_TxnOk_j5000009,
  .lp 0 [1, 2, 6, 7, 8] [] ⟨[.bp 0 0, .ff, .kl tRange, .ki, .i], [.box [.g true tTxn]]⟩ [en .ret [.bp 0 0, .ff, .kl tRange, .ki, .i] [.box [.g true tTxn]], en (.exit 0) [.bp 0 0, .ff, .kl tRange, .ki, .i] [.box [.g true tTxn]]] impl_TxnOk_b0] (by kernel_rfl) (fun h => by rw [impl_TxnOk_k, fn_f]; kernel_rfl) (.c (fun c x => by kernel_rfl) <| .c (fun c x => by kernel_rfl) <| .c (fun c x => by kernel_rfl) <| .n)

def g171 := g170.fn 61 Tryz.func61 ⟨[.a tTxn], []⟩ [⟨[.b], []⟩] impl_isDone_k [] (by kernel_rfl) (fun h => by rw [impl_isDone_k, fn_f]; kernel_rfl) (.n)

def g172 := g171.fn 62 Tryz.func62 ⟨[.a tTxn], []⟩ [⟨[.b], []⟩] impl_isReady_k [] (by kernel_rfl) (fun h => by rw [impl_isReady_k, fn_f]; kernel_rfl) (.n)

def g173 := g172.fn 97 Tryz.func97 ⟨[.nilS, .i], []⟩ [⟨[.own 0], [.arr false tTxn]⟩] slices_Grow_Txn_vn_k [.wd [some tTxn]] (by kernel_rfl) (fun h => by rw [slices_Grow_Txn_vn_k, fn_f]; kernel_rfl) (.n)

def g174 := g173.fn 64 Tryz.func64 ⟨[.l (.slice tTxn)], []⟩ [⟨[.own 0], [.arr false tTxn]⟩] slices_Concat_Txn_k [.lp 0 [0, 3, 9, 10, 11] [] ⟨[.kl (.slice tTxn), .i, .kl (.slice tTxn), .ki, .i], []⟩ [en (.exit 0) [.kl (.slice tTxn), .i, .kl (.slice tTxn), .ki, .i] []] slices_Concat_Txn_b0,
  .lp 2 [6, 25, 26, 27] [] ⟨[.own 0, .kl (.slice tTxn), .ki, .i], [.arr false tTxn]⟩ [en (.exit 2) [.own 0, .kl (.slice tTxn), .ki, .i] [.arr false tTxn]] slices_Concat_Txn_b2] (by kernel_rfl) (fun h => by rw [slices_Concat_Txn_k, fn_f]; kernel_rfl) (.c (fun c x => by kernel_rfl) <| .c (fun c x => by kernel_rfl) <| .n)

def g175 := g174.fn 96 Tryz.func96 ⟨[.a tTxn, .bp 0 0], [.box [.g false tTxn]]⟩ [⟨[.b], [.box [.g false tTxn]]⟩] impl_idsUnlike_1_k [] (by kernel_rfl) (fun h => by rw [impl_idsUnlike_1_k, fn_f]; kernel_rfl) (.n)

def g176 := g175.fn 43 Tryz.func43 ⟨[.l tTxn, .fn 96 [.bp 0 0]], [.box [.g false tTxn]]⟩ [⟨[.i], [.box [.g false tTxn]]⟩] slices_IndexFunc_Txn_idsUnlike_1_k [.lp 0 [0, 1, 4, 7, 8] [] ⟨[.kl tTxn, .fn 96 [.bp 0 0], .z, .ki, .i], [.box [.g false tTxn]]⟩ [en .ret [.kl tTxn, .fn 96 [.bp 0 0], .i, .ki, .i] [.box [.g false tTxn]], en (.exit 0) [.kl tTxn, .fn 96 [.bp 0 0], .z, .ki, .i] [.box [.g false tTxn]]] slices_IndexFunc_Txn_idsUnlike_1_b0] (by kernel_rfl) (fun h => by rw [slices_IndexFunc_Txn_idsUnlike_1_k, fn_f]; kernel_rfl) (.c (fun c x => by kernel_rfl) <| .n)

def g177 := g176.fn 112 Tryz.func112 ⟨[.l tTxn, .fn 96 [.bp 0 0]], [.box [.g false tTxn]]⟩ [⟨[.b], [.box [.g false tTxn]]⟩] slices_ContainsFunc_Txn_idsUnlike_1_k [] (by kernel_rfl) (fun h => by rw [slices_ContainsFunc_Txn_idsUnlike_1_k, fn_f]; kernel_rfl) (.n)

def g178 := g177.fn 81 Tryz.func81 ⟨[.l tTxn, .fn 96 [.bp 0 0]], [.box [.g false tTxn]]⟩ [⟨[.b], [.box [.g false tTxn]]⟩] impl_some_idsUnlike_1_k [] (by kernel_rfl) (fun h => by rw [impl_some_idsUnlike_1_k, fn_f]; kernel_rfl) (.n)

def g179 := g178.fn 63 Tryz.func63 ⟨[.l tTxn, .i], []⟩ [⟨[.b], []⟩] impl_idsUnlike_k [.lp 0 [0, 1, 4, 7, 8, 9] [] ⟨[.kl tTxn, .ki, .ff, .kl tTxn, .ki, .i], []⟩ [en .ret [.kl tTxn, .ki, .ff, .kl tTxn, .ki, .i] [], en (.exit 0) [.kl tTxn, .ki, .ff, .kl tTxn, .ki, .i] []] impl_idsUnlike_b0] (by kernel_rfl) (fun h => by rw [impl_idsUnlike_k, fn_f]; kernel_rfl) (.c (fun c x => by kernel_rfl) <| .n)

def g180 := g179.fn 26 Tryz.func26 ⟨[.a tBase], []⟩ [⟨[.b], []⟩] impl_BaseOk_k [.lp 0 [1, 2, 38, 39, 40] [] ⟨[.bp 0 0, .ff, .kl tVersion, .ki, .i], [.box [.g true tBase]]⟩ [en .ret [.bp 0 0, .ff, .kl tVersion, .ki, .i] [.box [.g true tBase]], en (.exit 0) [.bp 0 0, .ff, .kl tVersion, .ki, .i] [.box [.g true tBase]]] impl_BaseOk_b0,
  .lp 2 [1, 2, 51, 52, 53] [] ⟨[.bp 0 0, .ff, .kl tTxn, .ki, .i], [.box [.g true tBase]]⟩ [en .ret [.bp 0 0, .ff, .kl tTxn, .ki, .i] [.box [.g true tBase]], en (.exit 2) [.bp 0 0, .ff, .kl tTxn, .ki, .i] [.box [.g true tBase]]] impl_BaseOk_b2,
  .lp 4 [1, 2, 91, 92, 93] [] ⟨[.bp 0 0, .ff, .kl tTxn, .ki, .i], [.box [.g true tBase]]⟩ [en .ret [.bp 0 0, .ff, .kl tTxn, .ki, .i] [.box [.g true tBase]], en (.exit 4) [.bp 0 0, .ff, .kl tTxn, .ki, .i] [.box [.g true tBase]]] impl_BaseOk_b4,
  .pl 2000012 [0, 3, 4, 6, 8, 11, 12, 14, 16, 18, 20, 22, 24, 26, 28, 30, 32, 34, 36, 38, 40, 42, 44, 46, 48, 50, 52, 54, 56, 58, 60],
  .pl 2000018 [0, 3, 4, 6, 8, 11, 12, 14, 16, 18, 20, 22, 24, 26, 28, 30, 32, 34, 36, 38, 40, 42, 44, 46, 48, 50, 52, 54, 56, 58, 60],
  .pl 2000021 [0, 2, 4, 6, 12, 14, 9, 11, 17, 18]] (by kernel_rfl) (fun h => by rw [impl_BaseOk_k, fn_f]; kernel_rfl) (.c (fun c x => by kernel_rfl) <| .c (fun c x => by kernel_rfl) <| .c (fun c x => by kernel_rfl) <| .n)

def g181 := g180.fn 30 Tryz.func30 ⟨[], []⟩ [⟨[.a tRange], []⟩] laws_all_k [] (by kernel_rfl) (fun h => by rw [laws_all_k, fn_f]; kernel_rfl) (.n)

def g182 := g181.fn 29 Tryz.func29 ⟨[.l tVersion, .a tRange, .i], []⟩ [⟨[.own 0], [.arr false tRange]⟩] spec_ScanAt_k [.lp 0 [0, 2, 7, 8, 9] [] ⟨[.kl tVersion, .ki, .own 0, .kl .str, .i], [.arr false tRange]⟩ [en (.exit 0) [.kl tVersion, .ki, .own 0, .kl .str, .i] [.arr false tRange]] spec_ScanAt_b0] (by kernel_rfl) (fun h => by rw [spec_ScanAt_k, fn_f]; kernel_rfl) (.c (fun c x => by kernel_rfl) <| .n)

def g183 := g182.fn 28 Tryz.func28 ⟨[.l tRange, .l tRange], []⟩ [⟨[.b], []⟩] laws_samePairs_k [.lp 0 [0, 1, 4, 5] [] ⟨[.kl tRange, .kl tRange, .ff, .i], []⟩ [en .ret [.kl tRange, .kl tRange, .ff, .i] [], en (.exit 0) [.kl tRange, .kl tRange, .ff, .i] []] laws_samePairs_b0,
  .pl 2000006 [0, 2, 4, 6, 8, 10, 12, 14, 16]] (by kernel_rfl) (fun h => by rw [laws_samePairs_k, fn_f]; kernel_rfl) (.c (fun c x => by kernel_rfl) <| .n)

def g184 := g183.fn 31 Tryz.func31 ⟨[], []⟩ [⟨[.agg [.nilS, .nilS, .nilS, .i, .i]], []⟩] impl_BaseNew_k [] (by kernel_rfl) (fun h => by rw [impl_BaseNew_k, fn_f]; kernel_rfl) (.n)

def g185 := g184.fn 4 Tryz.func4 ⟨[.l (.int .u8)], []⟩ [⟨[.b], []⟩] laws_FnTidy_k [.pl 2000009 [0, 2, 4, 7, 9, 10, 12, 14, 16, 19, 20, 22, 24, 26, 28, 32, 31, 35, 36, 38, 40, 44, 43, 47, 48, 50, 52, 54, 57, 58, 60, 62, 65, 66, 68, 70, 72, 74, 76, 78, 80, 82, 84, 88, 90, 94, 96, 100, 102, 87, 93, 99, 105, 107, 108, 110, 113, 115, 116, 118]] (by kernel_rfl) (fun h => by rw [laws_FnTidy_k, fn_f]; kernel_rfl) (.n)

end

end Go.VE
