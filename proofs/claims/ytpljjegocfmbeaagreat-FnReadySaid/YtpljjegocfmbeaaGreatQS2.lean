/- Each function told by its native program; written by gen2.py. -/

import Derived.Test.YtpljjegocfmbeaaGreatQS1

namespace Go.VE

open Go.Proofs

noncomputable section

set_option linter.unusedVariables false
set_option linter.unusedSimpArgs false
set_option maxRecDepth 100000


def g141 := g140.fn 71 Tryz.func71 ⟨[.a tTxn, .a tTxn], []⟩ [⟨[.b], []⟩] impl_Ahead_k [] (by kernel_rfl) (fun h => by rw [impl_Ahead_k, fn_f]; kernel_rfl) (.n)

def g142 := g141.fn 82 Tryz.func82 ⟨[.a tTxn, .bp 0 0], [.box [.g false tTxn]]⟩ [⟨[.b], [.box [.g false tTxn]]⟩] impl_OutOf_1_k [] (by kernel_rfl) (fun h => by rw [impl_OutOf_1_k, fn_f]; kernel_rfl) (.n)

def g143 := g142.fn 43 Tryz.func43 ⟨[.l tTxn, .fn 82 [.bp 0 0]], [.box [.g false tTxn]]⟩ [⟨[.i], [.box [.g false tTxn]]⟩] slices_IndexFunc_Txn_OutOf_1_k [.lp 0 [0, 1, 4, 7, 8] [] ⟨[.kl tTxn, .fn 82 [.bp 0 0], .z, .ki, .i], [.box [.g false tTxn]]⟩ [en .ret [.kl tTxn, .fn 82 [.bp 0 0], .i, .ki, .i] [.box [.g false tTxn]], en (.exit 0) [.kl tTxn, .fn 82 [.bp 0 0], .z, .ki, .i] [.box [.g false tTxn]]] slices_IndexFunc_Txn_OutOf_1_b0] (by kernel_rfl) (fun h => by rw [slices_IndexFunc_Txn_OutOf_1_k, fn_f]; kernel_rfl) (.c (fun c x => by kernel_rfl) <| .n)

def g144 := g143.fn 112 Tryz.func112 ⟨[.l tTxn, .fn 82 [.bp 0 0]], [.box [.g false tTxn]]⟩ [⟨[.b], [.box [.g false tTxn]]⟩] slices_ContainsFunc_Txn_OutOf_1_k [] (by kernel_rfl) (fun h => by rw [slices_ContainsFunc_Txn_OutOf_1_k, fn_f]; kernel_rfl) (.n)

def g145 := g144.fn 81 Tryz.func81 ⟨[.l tTxn, .fn 82 [.bp 0 0]], [.box [.g false tTxn]]⟩ [⟨[.b], [.box [.g false tTxn]]⟩] impl_some_OutOf_1_k [] (by kernel_rfl) (fun h => by rw [impl_some_OutOf_1_k, fn_f]; kernel_rfl) (.n)

def g146 := g145.fn 42 Tryz.func42 ⟨[.a tTxn, .l tTxn], []⟩ [⟨[.b], []⟩] impl_OutOf_k [] (by kernel_rfl) (fun h => by rw [impl_OutOf_k, fn_f]; kernel_rfl) (.n)

def g147 := g146.fn 9 Tryz.func9 ⟨[.a tBase, .a tTxn, .s], []⟩ [⟨[.a tBase], []⟩] impl_MadeReady_k [.lp 0 [2, 4, 6, 7, 8, 9, 10, 30, 31, 32] [none, none, none, none, none, some tTxn, some tTxn] ⟨[.ks, .bp 0 0, .bp 1 0, .bp 2 0, .bp 3 0, .own 4, .own 5, .kl tTxn, .ki, .i], [.box [.g true tTxn], .box [.g true tBase], .box [.g true tBase], .box [.g true tTxn], .arr false tTxn, .arr false tTxn]⟩ [en (.exit 0) [.ks, .bp 0 0, .bp 1 0, .bp 2 0, .bp 3 0, .own 4, .own 5, .kl tTxn, .ki, .i] [.box [.g true tTxn], .box [.g true tBase], .box [.g true tBase], .box [.g true tTxn], .arr false tTxn, .arr false tTxn]] impl_MadeReady_b0,
  .ct 5000004 [2, 4, 6, 7, 8] [some (.slice (.slice .bool)), none, none, none, none, none, none, none, none, none, none, none, none, none, some tVersion, some tTxn, some tTxn] ⟨[.ks, .bp 0 0, .bp 1 0, .bp 2 0, .bp 3 0], [.box [.g true tTxn], .box [.g false tBase], .box [.g false tBase], .box [.g true tTxn]]⟩ [en .ret [.ks, .bp 0 0, .bp 1 0, .bp 2 0, .bp 3 0] [.box [.g true tTxn], .box [.g false tBase], .box [.g false tBase], .box [.g true tTxn]]] impl_MadeReady_j5000004] (by kernel_rfl) (fun h => by rw [impl_MadeReady_k, fn_f]; kernel_rfl) (.c (fun c x => by kernel_rfl) <| .c (fun c x => by kernel_rfl) <| .n)

def g148 := g147.fn 44 Tryz.func44 ⟨[.a tTxn, .bp 0 0], [.box [.s]]⟩ [⟨[.b], [.box [.s]]⟩] impl_ReadyAt_1_k [] (by kernel_rfl) (fun h => by rw [impl_ReadyAt_1_k, fn_f]; kernel_rfl) (.n)

def g149 := g148.fn 43 Tryz.func43 ⟨[.l tTxn, .fn 44 [.bp 0 0]], [.box [.s]]⟩ [⟨[.i], [.box [.s]]⟩] slices_IndexFunc_Txn_ReadyAt_1_k [.lp 0 [0, 1, 4, 7, 8] [] ⟨[.kl tTxn, .fn 44 [.bp 0 0], .z, .ki, .i], [.box [.s]]⟩ [en .ret [.kl tTxn, .fn 44 [.bp 0 0], .i, .ki, .i] [.box [.s]], en (.exit 0) [.kl tTxn, .fn 44 [.bp 0 0], .z, .ki, .i] [.box [.s]]] slices_IndexFunc_Txn_ReadyAt_1_b0] (by kernel_rfl) (fun h => by rw [slices_IndexFunc_Txn_ReadyAt_1_k, fn_f]; kernel_rfl) (.c (fun c x => by kernel_rfl) <| .n)

def g150 := g149.fn 10 Tryz.func10 ⟨[.a tBase, .s], []⟩ [⟨[.i], []⟩] impl_ReadyAt_k [] (by kernel_rfl) (fun h => by rw [impl_ReadyAt_k, fn_f]; kernel_rfl) (.n)

def g151 := g150.fn 46 Tryz.func46 ⟨[.a tTxn, .bp 0 0], [.box [.s]]⟩ [⟨[.b], [.box [.s]]⟩] impl_GivenUp_1_k [] (by kernel_rfl) (fun h => by rw [impl_GivenUp_1_k, fn_f]; kernel_rfl) (.n)

def g152 := g151.fn 43 Tryz.func43 ⟨[.l tTxn, .fn 46 [.bp 0 0]], [.box [.s]]⟩ [⟨[.i], [.box [.s]]⟩] slices_IndexFunc_Txn_GivenUp_1_k [.lp 0 [0, 1, 4, 7, 8] [] ⟨[.kl tTxn, .fn 46 [.bp 0 0], .z, .ki, .i], [.box [.s]]⟩ [en .ret [.kl tTxn, .fn 46 [.bp 0 0], .i, .ki, .i] [.box [.s]], en (.exit 0) [.kl tTxn, .fn 46 [.bp 0 0], .z, .ki, .i] [.box [.s]]] slices_IndexFunc_Txn_GivenUp_1_b0] (by kernel_rfl) (fun h => by rw [slices_IndexFunc_Txn_GivenUp_1_k, fn_f]; kernel_rfl) (.c (fun c x => by kernel_rfl) <| .n)

def g153 := g152.fn 45 Tryz.func45 ⟨[.own 0, .fn 46 [.bp 1 0]], [.arr false tTxn, .box [.s]]⟩ [⟨[.own 0], [.arr false tTxn, .box [.s]]⟩, ⟨[.own 2], [.gone, .box [.s], .arr false tTxn]⟩] slices_DeleteFunc_Txn_GivenUp_1_vo_k [.lp 0 [0, 1, 5, 6] [] ⟨[.own 0, .fn 46 [.bp 1 0], .i, .i], [.arr false tTxn, .box [.s]]⟩ [en (.exit 0) [.own 0, .fn 46 [.bp 1 0], .i, .i] [.arr false tTxn, .box [.s]]] slices_DeleteFunc_Txn_GivenUp_1_vo_b0] (by kernel_rfl) (fun h => by rw [slices_DeleteFunc_Txn_GivenUp_1_vo_k, fn_f]; kernel_rfl) (.c (fun c x => by kernel_rfl) <| .n)

def g154 := g153.fn 11 Tryz.func11 ⟨[.a tBase, .s], []⟩ [⟨[.a tBase], []⟩] impl_GivenUp_k [.wd [some (.slice (.slice .bool))]] (by kernel_rfl) (fun h => by rw [impl_GivenUp_k, fn_f]; kernel_rfl) (.n)

def g155 := g154.fn 47 Tryz.func47 ⟨[.bp 0 0], [.box [.g false (.pair (.slice (.int .u8)) (.pair (.int .i64) (.int .i64)))]]⟩ [⟨[.s], [.box [.g false (.pair (.slice (.int .u8)) (.pair (.int .i64) (.int .i64)))]]⟩] spec_l09Name_k [] (by kernel_rfl) (fun h => by rw [spec_l09Name_k, fn_f]; kernel_rfl) (.n)

def g156 := g155.fn 84 Tryz.func84 ⟨[.bp 0 0], [.box [.g false (.pair (.slice (.int .u8)) (.pair (.int .i64) (.int .i64)))]]⟩ [⟨[.own 1], [.box [.g false (.pair (.slice (.int .u8)) (.pair (.int .i64) (.int .i64)))], .arr false tRange]⟩] spec_l05Ranges_k [.lp 0 [0, 3, 4] [] ⟨[.bp 0 0, .own 1, .i], [.box [.g false (.pair (.slice (.int .u8)) (.pair (.int .i64) (.int .i64)))], .arr false tRange]⟩ [en (.exit 0) [.bp 0 0, .own 1, .i] [.box [.g false (.pair (.slice (.int .u8)) (.pair (.int .i64) (.int .i64)))], .arr false tRange]] spec_l05Ranges_b0] (by kernel_rfl) (fun h => by rw [spec_l05Ranges_k, fn_f]; kernel_rfl) (.c (fun c x => by kernel_rfl) <| .n)

def g157 := g156.fn 114 Tryz.func114 ⟨[.bp 0 0], [.box [.g false (.pair (.slice (.int .u8)) (.pair (.int .i64) (.int .i64)))]]⟩ [⟨[.a tTxn], [.box [.g false (.pair (.slice (.int .u8)) (.pair (.int .i64) (.int .i64)))]]⟩] spec_l07Txn_k [.pl 1000011 [0],
  .wd [some (.slice (.slice .bool))]] (by kernel_rfl) (fun h => by rw [spec_l07Txn_k, fn_f]; kernel_rfl) (.n)

def g158 := g157.fn 115 Tryz.func115 ⟨[.bp 0 0], [.box [.g false (.pair (.slice (.int .u8)) (.pair (.int .i64) (.int .i64)))]]⟩ [⟨[.a tWrite], [.box [.g false (.pair (.slice (.int .u8)) (.pair (.int .i64) (.int .i64)))]]⟩] spec_l05Any_k [] (by kernel_rfl) (fun h => by rw [spec_l05Any_k, fn_f]; kernel_rfl) (.n)

def g159 := g158.fn 85 Tryz.func85 ⟨[.bp 0 0], [.box [.g false (.pair (.slice (.int .u8)) (.pair (.int .i64) (.int .i64)))]]⟩ [⟨[.a tTxn], [.box [.g false (.pair (.slice (.int .u8)) (.pair (.int .i64) (.int .i64)))]]⟩] spec_l07Any_k [.pl 1000016 [0],
  .wd [some (.slice (.slice .bool))]] (by kernel_rfl) (fun h => by rw [spec_l07Any_k, fn_f]; kernel_rfl) (.n)

def g160 := g159.fn 116 Tryz.func116 ⟨[.bp 0 0], [.box [.g false (.pair (.slice (.int .u8)) (.pair (.int .i64) (.int .i64)))]]⟩ [⟨[.own 1], [.box [.g false (.pair (.slice (.int .u8)) (.pair (.int .i64) (.int .i64)))], .arr false tVersion]⟩] spec_l06Versions_k [.lp 0 [0, 3, 4] [] ⟨[.bp 0 0, .own 1, .i], [.box [.g false (.pair (.slice (.int .u8)) (.pair (.int .i64) (.int .i64)))], .arr false tVersion]⟩ [en (.exit 0) [.bp 0 0, .own 1, .i] [.box [.g false (.pair (.slice (.int .u8)) (.pair (.int .i64) (.int .i64)))], .arr false tVersion]] spec_l06Versions_b0] (by kernel_rfl) (fun h => by rw [spec_l06Versions_k, fn_f]; kernel_rfl) (.c (fun c x => by kernel_rfl) <| .n)

def g161 := g160.fn 86 Tryz.func86 ⟨[.bp 0 0], [.box [.g false (.pair (.slice (.int .u8)) (.pair (.int .i64) (.int .i64)))]]⟩ [⟨[.own 1], [.box [.g false (.pair (.slice (.int .u8)) (.pair (.int .i64) (.int .i64)))], .arr false tVersion]⟩] spec_l06Any_k [] (by kernel_rfl) (fun h => by rw [spec_l06Any_k, fn_f]; kernel_rfl) (.n)

def g162 := g161.fn 49 Tryz.func49 ⟨[.bp 0 0], [.box [.g false (.pair (.slice (.int .u8)) (.pair (.int .i64) (.int .i64)))]]⟩ [⟨[.a tBase], [.box [.g false (.pair (.slice (.int .u8)) (.pair (.int .i64) (.int .i64)))]]⟩] spec_l09Any_k [.pl 1000010 [0],
  .pl 1000012 [0],
  .wd [some (.slice (.slice .bool))]] (by kernel_rfl) (fun h => by rw [spec_l09Any_k, fn_f]; kernel_rfl) (.n)

def g163 := g162.fn 48 Tryz.func48 ⟨[.l (.int .u8)], []⟩ [⟨[.tup [.a tBase, .a tTxn]], []⟩] spec_l09Pair_k [.ct 15000008 [2, 3, 8, 9, 38] [some (.slice (.slice .bool))] ⟨[.bp 0 0, .bp 1 0, .bp 2 0, .bp 3 0, .kb], [.box [.nilS, .nilS, .nilS, .g true (.pair (.int .i64) (.int .i64))], .box [.z, .z, .z, .z, .nilS, .nilS, .g true (.pair .bool .str)], .box [.g true tBase], .box [.g false tTxn]]⟩ [en .norm [.bp 0 0, .bp 1 0, .bp 2 0, .bp 3 0, .kb] [.box [.nilS, .nilS, .nilS, .g true (.pair (.int .i64) (.int .i64))], .box [.z, .z, .z, .z, .nilS, .nilS, .g true (.pair .bool .str)], .box [.g true tBase], .box [.g false tTxn]]] spec_l09Pair_j15000008,
  .pl 1000006 [2],
  .pl 1000009 [0]] (by kernel_rfl) (fun h => by rw [spec_l09Pair_k, fn_f]; kernel_rfl) (.c (fun c x => by kernel_rfl) <| .n)

def g164 := g163.fn 12 Tryz.func12 ⟨[.l (.int .u8)], []⟩ [⟨[.tup [.a tBase, .a tTxn, .s]], []⟩] spec_DrawMadeReady_k [.pl 1000004 [0]] (by kernel_rfl) (fun h => by rw [spec_DrawMadeReady_k, fn_f]; kernel_rfl) (.n)

def g165 := g164.fn 13 Tryz.func13 ⟨[.l (.int .u8)], []⟩ [⟨[.tup [.a tBase, .s]], []⟩] spec_DrawGivenUp_k [] (by kernel_rfl) (fun h => by rw [spec_DrawGivenUp_k, fn_f]; kernel_rfl) (.n)

def g166 := g165.fn 14 Tryz.func14 ⟨[.l tVersion, .l tVersion], []⟩ [⟨[.b], []⟩] laws_sameVersions_k [.lp 0 [0, 1, 4, 5] [] ⟨[.kl tVersion, .kl tVersion, .ff, .i], []⟩ [en .ret [.kl tVersion, .kl tVersion, .ff, .i] [], en (.exit 0) [.kl tVersion, .kl tVersion, .ff, .i] []] laws_sameVersions_b0,
  .pl 2000006 [0, 2, 4, 6, 8, 10, 12, 14, 16]] (by kernel_rfl) (fun h => by rw [laws_sameVersions_k, fn_f]; kernel_rfl) (.c (fun c x => by kernel_rfl) <| .n)

def g167 := g166.fn 87 Tryz.func87 ⟨[.l tWrite, .l tWrite], []⟩ [⟨[.b], []⟩] laws_sameWrites_k [.lp 0 [0, 1, 4, 5] [] ⟨[.kl tWrite, .kl tWrite, .ff, .i], []⟩ [en .ret [.kl tWrite, .kl tWrite, .ff, .i] [], en (.exit 0) [.kl tWrite, .kl tWrite, .ff, .i] []] laws_sameWrites_b0,
  .pl 2000006 [0, 2, 4, 6, 8, 10, 12, 14, 16]] (by kernel_rfl) (fun h => by rw [laws_sameWrites_k, fn_f]; kernel_rfl) (.c (fun c x => by kernel_rfl) <| .n)

def g168 := g167.fn 50 Tryz.func50 ⟨[.a tTxn, .a tTxn], []⟩ [⟨[.b], []⟩] laws_sameTxn_k [.lp 0 [2, 3, 4, 5] [] ⟨[.bp 0 0, .bp 1 0, .ff, .i], [.box [.g true tTxn], .box [.g true tTxn]]⟩ [en .ret [.bp 0 0, .bp 1 0, .ff, .i] [.box [.g true tTxn], .box [.g true tTxn]], en (.exit 0) [.bp 0 0, .bp 1 0, .ff, .i] [.box [.g true tTxn], .box [.g true tTxn]]] laws_sameTxn_b0,
  .pl 2000006 [0, 2, 4, 6, 8, 10, 12, 14, 16, 18, 20]] (by kernel_rfl) (fun h => by rw [laws_sameTxn_k, fn_f]; kernel_rfl) (.c (fun c x => by kernel_rfl) <| .n)

def g169 := g168.fn 15 Tryz.func15 ⟨[.l tTxn, .l tTxn], []⟩ [⟨[.b], []⟩] laws_sameTxns_k [.lp 0 [0, 1, 4, 5] [] ⟨[.kl tTxn, .kl tTxn, .ff, .i], []⟩ [en .ret [.kl tTxn, .kl tTxn, .ff, .i] [], en (.exit 0) [.kl tTxn, .kl tTxn, .ff, .i] []] laws_sameTxns_b0,
  .pl 2000006 [0, 2, 4, 6, 8, 10, 12, 14, 16, 18]] (by kernel_rfl) (fun h => by rw [laws_sameTxns_k, fn_f]; kernel_rfl) (.c (fun c x => by kernel_rfl) <| .n)

def g170 := g169.fn 16 Tryz.func16 ⟨[.a tBase, .a tBase], []⟩ [⟨[.b], []⟩] laws_sameBase_k [] (by kernel_rfl) (fun h => by rw [laws_sameBase_k, fn_f]; kernel_rfl) (.n)

def g171 := g170.fn 3 Tryz.func3 ⟨[.l (.int .u8)], []⟩ [⟨[.b], []⟩] laws_FnReady_k [.pl 2000011 [0, 2, 4, 6, 8, 10, 12, 14, 16, 18, 20, 22, 24, 26, 28, 30, 32, 34, 37, 38, 40, 42, 45, 46, 48, 50, 52, 54, 56, 58, 61, 62, 64, 66, 68, 70, 74, 76, 78, 73, 81, 83, 84, 86, 88, 90, 94, 96, 93, 99, 101, 102, 104, 106, 108, 112, 114, 111, 117, 118, 120, 122]] (by kernel_rfl) (fun h => by rw [laws_FnReady_k, fn_f]; kernel_rfl) (.n)

end

end Go.VE
