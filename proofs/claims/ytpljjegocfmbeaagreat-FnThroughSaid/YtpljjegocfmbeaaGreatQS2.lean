/- Each function told by its native program; written by gen2.py. -/

import Derived.Test.YtpljjegocfmbeaaGreatQS1

namespace Go.VE

open Go.Proofs

noncomputable section

set_option linter.unusedVariables false
set_option linter.unusedSimpArgs false
set_option maxRecDepth 100000


def g137 := g136.fn 49 Tryz.func49 ⟨[.bp 0 0], [.box [.g false (.pair (.slice (.int .u8)) (.pair (.int .i64) (.int .i64)))]]⟩ [⟨[.a tBase], [.box [.g false (.pair (.slice (.int .u8)) (.pair (.int .i64) (.int .i64)))]]⟩] spec_l09Any_k [.pl 1000010 [0],
  .pl 1000012 [0],
  .wd [some (.slice (.slice .bool))]] (by kernel_rfl) (fun h => by rw [spec_l09Any_k, fn_f]; kernel_rfl) (.n)

def g138 := g137.fn 48 Tryz.func48 ⟨[.l (.int .u8)], []⟩ [⟨[.tup [.a tBase, .a tTxn]], []⟩] spec_l09Pair_k [.ct 15000008 [2, 3, 8, 9, 38] [some (.slice (.slice .bool))] ⟨[.bp 0 0, .bp 1 0, .bp 2 0, .bp 3 0, .kb], [.box [.nilS, .nilS, .nilS, .g true (.pair (.int .i64) (.int .i64))], .box [.z, .z, .z, .z, .nilS, .nilS, .g true (.pair .bool .str)], .box [.g true tBase], .box [.g false tTxn]]⟩ [en .norm [.bp 0 0, .bp 1 0, .bp 2 0, .bp 3 0, .kb] [.box [.nilS, .nilS, .nilS, .g true (.pair (.int .i64) (.int .i64))], .box [.z, .z, .z, .z, .nilS, .nilS, .g true (.pair .bool .str)], .box [.g true tBase], .box [.g false tTxn]]] spec_l09Pair_j15000008,
  .pl 1000006 [2],
  .pl 1000009 [0]] (by kernel_rfl) (fun h => by rw [spec_l09Pair_k, fn_f]; kernel_rfl) (.c (fun c x => by kernel_rfl) <| .n)

def g139 := g138.fn 32 Tryz.func32 ⟨[.l (.int .u8)], []⟩ [⟨[.tup [.a tBase, .a tTxn]], []⟩] spec_DrawThrough_k [] (by kernel_rfl) (fun h => by rw [spec_DrawThrough_k, fn_f]; kernel_rfl) (.n)

def g140 := g139.fn 41 Tryz.func41 ⟨[.a tTxn], []⟩ [⟨[.agg [.i, .i, .i, .i, .own 0, .own 1, .b, .s]], [.arr false tRange, .arr false tWrite]⟩] impl_copyTxn_k [] (by kernel_rfl) (fun h => by rw [impl_copyTxn_k, fn_f]; kernel_rfl) (.n)

def g141 := g140.fn 80 Tryz.func80 ⟨[.l tTxn], []⟩ [⟨[.own 0], [.arr false tTxn]⟩] impl_copyTxns_k [.lp 0 [3, 6, 7, 8] [some tTxn] ⟨[.own 0, .kl tTxn, .ki, .i], [.arr false tTxn]⟩ [en (.exit 0) [.own 0, .kl tTxn, .ki, .i] [.arr false tTxn]] impl_copyTxns_b0] (by kernel_rfl) (fun h => by rw [impl_copyTxns_k, fn_f]; kernel_rfl) (.c (fun c x => by kernel_rfl) <| .n)

def g142 := g141.fn 40 Tryz.func40 ⟨[.a tBase], []⟩ [⟨[.agg [.own 0, .own 1, .own 2, .i, .i]], [.arr false tVersion, .arr false tTxn, .arr false tTxn]⟩] impl_copyBase_k [.pl 2000002 [0, 2, 6, 8, 5, 12, 11, 14, 16, 18]] (by kernel_rfl) (fun h => by rw [impl_copyBase_k, fn_f]; kernel_rfl) (.n)

def g143 := g142.fn 137 Tryz.func137 ⟨[.s], []⟩ [⟨[.b], []⟩] cmp_isNaN_string_k [] (by kernel_rfl) (fun h => by rw [cmp_isNaN_string_k, fn_f]; kernel_rfl) (.n)

def g144 := g143.fn 118 Tryz.func118 ⟨[.s, .s], []⟩ [⟨[.i], []⟩] cmp_Compare_string_k [] (by kernel_rfl) (fun h => by rw [cmp_Compare_string_k, fn_f]; kernel_rfl) (.n)

def g145 := g144.fn 138 Tryz.func138 ⟨[.i], []⟩ [⟨[.b], []⟩] cmp_isNaN_int_k [] (by kernel_rfl) (fun h => by rw [cmp_isNaN_int_k, fn_f]; kernel_rfl) (.n)

def g146 := g145.fn 119 Tryz.func119 ⟨[.i, .i], []⟩ [⟨[.i], []⟩] cmp_Compare_int_k [] (by kernel_rfl) (fun h => by rw [cmp_Compare_int_k, fn_f]; kernel_rfl) (.n)

def g147 := g146.fn 93 Tryz.func93 ⟨[.a tVersion, .a tVersion], []⟩ [⟨[.i], []⟩] impl_compareVersion_k [] (by kernel_rfl) (fun h => by rw [impl_compareVersion_k, fn_f]; kernel_rfl) (.n)

def g148 := g147.fn 102 Tryz.func102 ⟨[.a tVersion, .bp 0 0], [.box [.g false tVersion]]⟩ [⟨[.b], [.box [.g false tVersion]]⟩] impl_PutVersions_1_k [] (by kernel_rfl) (fun h => by rw [impl_PutVersions_1_k, fn_f]; kernel_rfl) (.n)

def g149 := g148.fn 101 Tryz.func101 ⟨[.l tVersion, .fn 102 [.bp 0 0]], [.box [.g false tVersion]]⟩ [⟨[.i], [.box [.g false tVersion]]⟩] slices_IndexFunc_Version_PutVersions_1_k [.lp 0 [0, 1, 4, 7, 8] [] ⟨[.kl tVersion, .fn 102 [.bp 0 0], .z, .ki, .i], [.box [.g false tVersion]]⟩ [en .ret [.kl tVersion, .fn 102 [.bp 0 0], .i, .ki, .i] [.box [.g false tVersion]], en (.exit 0) [.kl tVersion, .fn 102 [.bp 0 0], .z, .ki, .i] [.box [.g false tVersion]]] slices_IndexFunc_Version_PutVersions_1_b0] (by kernel_rfl) (fun h => by rw [slices_IndexFunc_Version_PutVersions_1_k, fn_f]; kernel_rfl) (.c (fun c x => by kernel_rfl) <| .n)

def g150 := g149.ext 103 (insG tVersion slices_Insert_Version_voo_k) ⟨Tryz.f103, Tryz.func103, by kernel_rfl, by kernel_rfl⟩ (ins4_c Tryz.insLayb (by rw [slices_Insert_Version_voo_k, fn_f]) #[.string ⟨#[]⟩, .string ⟨#[]⟩, .bool false, .int IntKind.i64 0])

def g151 := g150.fn 69 Tryz.func69 ⟨[.l tVersion, .l tWrite, .i], []⟩ [⟨[.own 0], [.arr false tVersion]⟩] impl_PutVersions_k [.lp 0 [2, 7, 14, 15, 16] [] ⟨[.ki, .own 0, .kl tWrite, .ki, .i], [.arr false tVersion]⟩ [en (.exit 0) [.ki, .own 0, .kl tWrite, .ki, .i] [.arr false tVersion]] impl_PutVersions_b0] (by kernel_rfl) (fun h => by rw [impl_PutVersions_k, fn_f]; kernel_rfl) (.c (fun c x => by kernel_rfl) <| .n)

def g152 := g151.fn 61 Tryz.func61 ⟨[.a tTxn], []⟩ [⟨[.b], []⟩] impl_isDone_k [] (by kernel_rfl) (fun h => by rw [impl_isDone_k, fn_f]; kernel_rfl) (.n)

def g153 := g152.fn 124 Tryz.func124 ⟨[.a tTxn, .a tTxn], []⟩ [⟨[.b], []⟩] impl_Beside_1_k [] (by kernel_rfl) (fun h => by rw [impl_Beside_1_k, fn_f]; kernel_rfl) (.n)

def g154 := g153.fn 104 Tryz.func104 ⟨[.a tTxn, .a tTxn], []⟩ [⟨[.b], []⟩] impl_Beside_k [] (by kernel_rfl) (fun h => by rw [impl_Beside_k, fn_f]; kernel_rfl) (.n)

def g155 := g154.fn 125 Tryz.func125 ⟨[.a tRange, .s], []⟩ [⟨[.b], []⟩] impl_InRange_k [] (by kernel_rfl) (fun h => by rw [impl_InRange_k, fn_f]; kernel_rfl) (.n)

def g156 := g155.fn 105 Tryz.func105 ⟨[.l tRange, .l tWrite], []⟩ [⟨[.b], []⟩] impl_Touches_k [.lp 2 [1, 4, 6, 9, 10, 11, 15, 16, 17] [] ⟨[.kl tWrite, .ff, .bp 0 0, .kl tRange, .ki, .ki, .kl tWrite, .ki, .i], [.box [.g true tRange]]⟩ [en .ret [.kl tWrite, .tt, .bp 0 0, .kl tRange, .ki, .ki, .kl tWrite, .ki, .i] [.box [.g true tRange]], en (.exit 2) [.kl tWrite, .ff, .bp 0 0, .kl tRange, .ki, .ki, .kl tWrite, .ki, .i] [.box [.g true tRange]]] impl_Touches_b2,
  .lp 0 [1, 4, 9, 10, 11] [] ⟨[.kl tWrite, .ff, .kl tRange, .ki, .i], []⟩ [en (.exit 0) [.kl tWrite, .ff, .kl tRange, .ki, .i] [], en .ret [.kl tWrite, .tt, .kl tRange, .ki, .i] []] impl_Touches_b0] (by kernel_rfl) (fun h => by rw [impl_Touches_k, fn_f]; kernel_rfl) (.c (fun c x => by kernel_rfl) <| .c (fun c x => by kernel_rfl) <| .n)

def g157 := g156.fn 71 Tryz.func71 ⟨[.a tTxn, .a tTxn], []⟩ [⟨[.b], []⟩] impl_Ahead_k [] (by kernel_rfl) (fun h => by rw [impl_Ahead_k, fn_f]; kernel_rfl) (.n)

def g158 := g157.fn 82 Tryz.func82 ⟨[.a tTxn, .bp 0 0], [.box [.g false tTxn]]⟩ [⟨[.b], [.box [.g false tTxn]]⟩] impl_OutOf_1_k [] (by kernel_rfl) (fun h => by rw [impl_OutOf_1_k, fn_f]; kernel_rfl) (.n)

def g159 := g158.fn 43 Tryz.func43 ⟨[.l tTxn, .fn 82 [.bp 0 0]], [.box [.g false tTxn]]⟩ [⟨[.i], [.box [.g false tTxn]]⟩] slices_IndexFunc_Txn_OutOf_1_k [.lp 0 [0, 1, 4, 7, 8] [] ⟨[.kl tTxn, .fn 82 [.bp 0 0], .z, .ki, .i], [.box [.g false tTxn]]⟩ [en .ret [.kl tTxn, .fn 82 [.bp 0 0], .i, .ki, .i] [.box [.g false tTxn]], en (.exit 0) [.kl tTxn, .fn 82 [.bp 0 0], .z, .ki, .i] [.box [.g false tTxn]]] slices_IndexFunc_Txn_OutOf_1_b0] (by kernel_rfl) (fun h => by rw [slices_IndexFunc_Txn_OutOf_1_k, fn_f]; kernel_rfl) (.c (fun c x => by kernel_rfl) <| .n)

def g160 := g159.fn 112 Tryz.func112 ⟨[.l tTxn, .fn 82 [.bp 0 0]], [.box [.g false tTxn]]⟩ [⟨[.b], [.box [.g false tTxn]]⟩] slices_ContainsFunc_Txn_OutOf_1_k [] (by kernel_rfl) (fun h => by rw [slices_ContainsFunc_Txn_OutOf_1_k, fn_f]; kernel_rfl) (.n)

def g161 := g160.fn 81 Tryz.func81 ⟨[.l tTxn, .fn 82 [.bp 0 0]], [.box [.g false tTxn]]⟩ [⟨[.b], [.box [.g false tTxn]]⟩] impl_some_OutOf_1_k [] (by kernel_rfl) (fun h => by rw [impl_some_OutOf_1_k, fn_f]; kernel_rfl) (.n)

def g162 := g161.fn 42 Tryz.func42 ⟨[.a tTxn, .l tTxn], []⟩ [⟨[.b], []⟩] impl_OutOf_k [] (by kernel_rfl) (fun h => by rw [impl_OutOf_k, fn_f]; kernel_rfl) (.n)

def g163 := g162.fn 70 Tryz.func70 ⟨[.a tTxn, .bp 0 0], [.box [.i, .i, .i, .i, .dead, .dead, .g false (.pair .bool .str)]]⟩ [⟨[.b], [.box [.i, .i, .i, .i, .dead, .dead, .g false (.pair .bool .str)]]⟩] impl_Through_1_k [] (by kernel_rfl) (fun h => by rw [impl_Through_1_k, fn_f]; kernel_rfl) (.n)

def g164 := g163.fn 43 Tryz.func43 ⟨[.l tTxn, .fn 70 [.bp 0 0]], [.box [.i, .i, .i, .i, .dead, .dead, .g false (.pair .bool .str)]]⟩ [⟨[.i], [.box [.i, .i, .i, .i, .dead, .dead, .g false (.pair .bool .str)]]⟩] slices_IndexFunc_Txn_Through_1_k [.lp 0 [0, 1, 4, 7, 8] [] ⟨[.kl tTxn, .fn 70 [.bp 0 0], .z, .ki, .i], [.box [.i, .i, .i, .i, .dead, .dead, .g false (.pair .bool .str)]]⟩ [en .ret [.kl tTxn, .fn 70 [.bp 0 0], .i, .ki, .i] [.box [.i, .i, .i, .i, .dead, .dead, .g false (.pair .bool .str)]], en (.exit 0) [.kl tTxn, .fn 70 [.bp 0 0], .z, .ki, .i] [.box [.i, .i, .i, .i, .dead, .dead, .g false (.pair .bool .str)]]] slices_IndexFunc_Txn_Through_1_b0] (by kernel_rfl) (fun h => by rw [slices_IndexFunc_Txn_Through_1_k, fn_f]; kernel_rfl) (.c (fun c x => by kernel_rfl) <| .n)

def g165 := g164.fn 45 Tryz.func45 ⟨[.own 0, .fn 70 [.bp 1 0]], [.arr false tTxn, .box [.i, .i, .i, .i, .dead, .dead, .g false (.pair .bool .str)]]⟩ [⟨[.own 0], [.arr false tTxn, .box [.i, .i, .i, .i, .dead, .dead, .g false (.pair .bool .str)]]⟩, ⟨[.own 2], [.gone, .box [.i, .i, .i, .i, .dead, .dead, .g false (.pair .bool .str)], .arr false tTxn]⟩] slices_DeleteFunc_Txn_Through_1_vo_k [.lp 0 [0, 1, 5, 6] [] ⟨[.own 0, .fn 70 [.bp 1 0], .i, .i], [.arr false tTxn, .box [.i, .i, .i, .i, .dead, .dead, .g false (.pair .bool .str)]]⟩ [en (.exit 0) [.own 0, .fn 70 [.bp 1 0], .i, .i] [.arr false tTxn, .box [.i, .i, .i, .i, .dead, .dead, .g false (.pair .bool .str)]]] slices_DeleteFunc_Txn_Through_1_vo_b0] (by kernel_rfl) (fun h => by rw [slices_DeleteFunc_Txn_Through_1_vo_k, fn_f]; kernel_rfl) (.c (fun c x => by kernel_rfl) <| .n)

def g166 := g165.fn 33 Tryz.func33 ⟨[.a tBase, .a tTxn], []⟩ [⟨[.a tBase], []⟩] impl_Through_k [.lp 0 [3, 4, 5, 6, 46, 47, 48] [] ⟨[.bp 0 0, .bp 1 0, .bp 2 0, .bp 3 0, .own 4, .ki, .i], [.box [.ki, .ki, .ki, .ki, .dead, .dead, .g true (.pair .bool .str)], .box [.own 5, .own 6, .own 7, .g true (.pair (.int .i64) (.int .i64))], .box [.own 8, .own 9, .own 4, .g true (.pair (.int .i64) (.int .i64))], .box [.ki, .n .i64 3, .ki, .ki, .own 10, .own 11, .g true (.pair .bool .str)], .arr false tTxn, .arr true tVersion, .arr true tTxn, .arr true tTxn, .arr true tVersion, .arr true tTxn, .arr true tRange, .arr true tWrite]⟩ [en (.exit 0) [.bp 0 0, .bp 1 0, .bp 2 0, .bp 3 0, .own 4, .ki, .i] [.box [.ki, .ki, .ki, .ki, .dead, .dead, .g true (.pair .bool .str)], .box [.own 5, .own 6, .own 7, .g true (.pair (.int .i64) (.int .i64))], .box [.own 8, .own 9, .own 4, .g true (.pair (.int .i64) (.int .i64))], .box [.ki, .n .i64 3, .ki, .ki, .own 10, .own 11, .g true (.pair .bool .str)], .arr false tTxn, .arr true tVersion, .arr true tTxn, .arr true tTxn, .arr true tVersion, .arr true tTxn, .arr true tRange, .arr true tWrite]] impl_Through_b0,
  .ct 5000007 [3, 4, 5, 6] [none, none, none, none, none, none, none, none, some (.slice (.slice .str)), some (.slice (.slice .str)), none, none, some tVersion, some tTxn, some tTxn] ⟨[.bp 0 0, .bp 1 0, .bp 2 0, .bp 3 0], [.box [.i, .i, .i, .i, .dead, .dead, .g false (.pair .bool .str)], .box [.own 4, .own 5, .own 6, .g false (.pair (.int .i64) (.int .i64))], .box [.own 7, .own 8, .own 9, .g false (.pair (.int .i64) (.int .i64))], .box [.i, .n .i64 3, .i, .i, .own 10, .own 11, .g false (.pair .bool .str)], .arr false tVersion, .arr false tTxn, .arr false tTxn, .arr false tVersion, .arr false tTxn, .arr false tTxn, .arr false tRange, .arr false tWrite]⟩ [en .ret [.bp 0 0, .bp 1 0, .bp 2 0, .bp 3 0] [.box [.i, .i, .i, .i, .dead, .dead, .g false (.pair .bool .str)], .box [.own 4, .own 5, .own 6, .g false (.pair (.int .i64) (.int .i64))], .box [.own 4, .own 5, .own 6, .g false (.pair (.int .i64) (.int .i64))], .box [.g false tTxn], .arr false tVersion, .arr false tTxn, .arr false tTxn]] impl_Through_j5000007,
  .pl 2000011 [0, 2, 4, 6, 8, 10, 12, 14, 17, 18, 20, 22, 24],
  .pl 1000003 [9],
  .wd [some (.slice (.slice .bool))]] (by kernel_rfl) (fun h => by rw [impl_Through_k, fn_f]; kernel_rfl) (.c (fun c x => by kernel_rfl) <| .c (fun c x => by kernel_rfl) <| .n)

def g167 := g166.fn 14 Tryz.func14 ⟨[.l tVersion, .l tVersion], []⟩ [⟨[.b], []⟩] laws_sameVersions_k [.lp 0 [0, 1, 4, 5] [] ⟨[.kl tVersion, .kl tVersion, .ff, .i], []⟩ [en .ret [.kl tVersion, .kl tVersion, .ff, .i] [], en (.exit 0) [.kl tVersion, .kl tVersion, .ff, .i] []] laws_sameVersions_b0,
  .pl 2000006 [0, 2, 4, 6, 8, 10, 12, 14, 16]] (by kernel_rfl) (fun h => by rw [laws_sameVersions_k, fn_f]; kernel_rfl) (.c (fun c x => by kernel_rfl) <| .n)

def g168 := g167.fn 87 Tryz.func87 ⟨[.l tWrite, .l tWrite], []⟩ [⟨[.b], []⟩] laws_sameWrites_k [.lp 0 [0, 1, 4, 5] [] ⟨[.kl tWrite, .kl tWrite, .ff, .i], []⟩ [en .ret [.kl tWrite, .kl tWrite, .ff, .i] [], en (.exit 0) [.kl tWrite, .kl tWrite, .ff, .i] []] laws_sameWrites_b0,
  .pl 2000006 [0, 2, 4, 6, 8, 10, 12, 14, 16]] (by kernel_rfl) (fun h => by rw [laws_sameWrites_k, fn_f]; kernel_rfl) (.c (fun c x => by kernel_rfl) <| .n)

def g169 := g168.fn 50 Tryz.func50 ⟨[.a tTxn, .a tTxn], []⟩ [⟨[.b], []⟩] laws_sameTxn_k [.lp 0 [2, 3, 4, 5] [] ⟨[.bp 0 0, .bp 1 0, .ff, .i], [.box [.g true tTxn], .box [.g true tTxn]]⟩ [en .ret [.bp 0 0, .bp 1 0, .ff, .i] [.box [.g true tTxn], .box [.g true tTxn]], en (.exit 0) [.bp 0 0, .bp 1 0, .ff, .i] [.box [.g true tTxn], .box [.g true tTxn]]] laws_sameTxn_b0,
  .pl 2000006 [0, 2, 4, 6, 8, 10, 12, 14, 16, 18, 20]] (by kernel_rfl) (fun h => by rw [laws_sameTxn_k, fn_f]; kernel_rfl) (.c (fun c x => by kernel_rfl) <| .n)

def g170 := g169.fn 15 Tryz.func15 ⟨[.l tTxn, .l tTxn], []⟩ [⟨[.b], []⟩] laws_sameTxns_k [.lp 0 [0, 1, 4, 5] [] ⟨[.kl tTxn, .kl tTxn, .ff, .i], []⟩ [en .ret [.kl tTxn, .kl tTxn, .ff, .i] [], en (.exit 0) [.kl tTxn, .kl tTxn, .ff, .i] []] laws_sameTxns_b0,
  .pl 2000006 [0, 2, 4, 6, 8, 10, 12, 14, 16, 18]] (by kernel_rfl) (fun h => by rw [laws_sameTxns_k, fn_f]; kernel_rfl) (.c (fun c x => by kernel_rfl) <| .n)

def g171 := g170.fn 16 Tryz.func16 ⟨[.a tBase, .a tBase], []⟩ [⟨[.b], []⟩] laws_sameBase_k [] (by kernel_rfl) (fun h => by rw [laws_sameBase_k, fn_f]; kernel_rfl) (.n)

def g172 := g171.fn 7 Tryz.func7 ⟨[.l (.int .u8)], []⟩ [⟨[.a tBase], []⟩] spec_DrawBase_k [] (by kernel_rfl) (fun h => by rw [spec_DrawBase_k, fn_f]; kernel_rfl) (.n)

def g173 := g172.fn 8 Tryz.func8 ⟨[.l (.int .u8)], []⟩ [⟨[.l tWrite], []⟩] spec_DrawWrites_k [] (by kernel_rfl) (fun h => by rw [spec_DrawWrites_k, fn_f]; kernel_rfl) (.n)

def g174 := g173.fn 30 Tryz.func30 ⟨[], []⟩ [⟨[.a tRange], []⟩] laws_all_k [] (by kernel_rfl) (fun h => by rw [laws_all_k, fn_f]; kernel_rfl) (.n)

def g175 := g174.fn 29 Tryz.func29 ⟨[.l tVersion, .a tRange, .i], []⟩ [⟨[.own 0], [.arr false tRange]⟩] spec_ScanAt_k [.lp 0 [0, 2, 7, 8, 9] [] ⟨[.kl tVersion, .ki, .own 0, .kl .str, .i], [.arr false tRange]⟩ [en (.exit 0) [.kl tVersion, .ki, .own 0, .kl .str, .i] [.arr false tRange]] spec_ScanAt_b0] (by kernel_rfl) (fun h => by rw [spec_ScanAt_k, fn_f]; kernel_rfl) (.c (fun c x => by kernel_rfl) <| .n)

def g176 := g175.fn 28 Tryz.func28 ⟨[.l tRange, .l tRange], []⟩ [⟨[.b], []⟩] laws_samePairs_k [.lp 0 [0, 1, 4, 5] [] ⟨[.kl tRange, .kl tRange, .ff, .i], []⟩ [en .ret [.kl tRange, .kl tRange, .ff, .i] [], en (.exit 0) [.kl tRange, .kl tRange, .ff, .i] []] laws_samePairs_b0,
  .pl 2000006 [0, 2, 4, 6, 8, 10, 12, 14, 16]] (by kernel_rfl) (fun h => by rw [laws_samePairs_k, fn_f]; kernel_rfl) (.c (fun c x => by kernel_rfl) <| .n)

def g177 := g176.fn 5 Tryz.func5 ⟨[.l (.int .u8)], []⟩ [⟨[.b], []⟩] laws_FnThrough_k [.lp 0 [2, 6, 7, 9, 10] [] ⟨[.ff, .bp 0 0, .kl tWrite, .bp 1 0, .i], [.box [.g true tBase], .box [.g true tBase]]⟩ [en .ret [.ff, .bp 0 0, .kl tWrite, .bp 1 0, .i] [.box [.g true tBase], .box [.g true tBase]], en (.exit 0) [.ff, .bp 0 0, .kl tWrite, .bp 1 0, .i] [.box [.g true tBase], .box [.g true tBase]]] laws_FnThrough_b0,
  .lp 2 [2, 6, 7, 9, 13] [] ⟨[.ff, .bp 0 0, .kl tWrite, .bp 1 0, .i], [.box [.g true tBase], .box [.g true tBase]]⟩ [en .ret [.ff, .bp 0 0, .kl tWrite, .bp 1 0, .i] [.box [.g true tBase], .box [.g true tBase]], en (.exit 2) [.ff, .bp 0 0, .kl tWrite, .bp 1 0, .i] [.box [.g true tBase], .box [.g true tBase]]] laws_FnThrough_b2,
  .pl 2000014 [0, 2, 4, 6, 8, 10, 12, 14, 16, 18, 20, 22, 24, 26, 28],
  .pl 2000022 [0, 2, 4, 6, 8, 10, 12, 14, 16, 20, 22, 26, 28, 32, 34, 19, 25, 31, 37, 39, 40, 42, 44, 46, 48, 50, 52, 54, 56, 58, 60, 62, 64, 66, 68, 70, 72, 74, 76, 78, 80, 82, 84, 86]] (by kernel_rfl) (fun h => by rw [laws_FnThrough_k, fn_f]; kernel_rfl) (.c (fun c x => by kernel_rfl) <| .c (fun c x => by kernel_rfl) <| .n)

end

end Go.VE
