/- Native programs of the functions, written by gen.py. -/

import Derived.Test.YtpmahbmokfaflaaRecordOkN1

namespace Go.VE

noncomputable section

set_option linter.unusedVariables false
set_option linter.unusedSimpArgs false
set_option maxRecDepth 100000


def impl_some_g (args : List AV) (st : St) (k : K1) : Option Res :=
  onPats [.lst tTxn, .fn 168 [.bp 0 0]] [.box [.int .i64, .int .i64, .int .i64, .int .i64, .lst tRange, .lst tWrite, .bool, .str]] args st (fun p q => impl_some_idsUnlike_1_k p.1 q.1.1 q.1.2.1 q.1.2.2.1 q.1.2.2.2.1 q.1.2.2.2.2.1 q.1.2.2.2.2.2.1 q.1.2.2.2.2.2.2.1 q.1.2.2.2.2.2.2.2.1 (fun (y : (Bool × Int × Int × Int × Int × (List dRange) × (List dWrite) × Bool × ByteArray)) => k (.bool y.1) [.box [.int .i64 y.2.1, .int .i64 y.2.2.1, .int .i64 y.2.2.2.1, .int .i64 y.2.2.2.2.1, .lst tRange y.2.2.2.2.2.1, .lst tWrite y.2.2.2.2.2.2.1, .bool y.2.2.2.2.2.2.2.1, .str y.2.2.2.2.2.2.2.2]]))
    (none)

theorem impl_some_idsUnlike_1_q (a0 : (List dTxn)) (a1 : Int) (a2 : Int) (a3 : Int) (a4 : Int) (a5 : (List dRange)) (a6 : (List dWrite)) (a7 : Bool) (a8 : ByteArray) : Par (fun k : AV × St → Option Res => impl_some_g [.lst tTxn a0, .fn 168 [.bp 0 0]] [.box [.int .i64 a1, .int .i64 a2, .int .i64 a3, .int .i64 a4, .lst tRange a5, .lst tWrite a6, .bool a7, .str a8]] (fun v s => k (v, s))) :=
  (impl_some_idsUnlike_1_p a0 a1 a2 a3 a4 a5 a6 a7 a8).bind (H := fun (y : (Bool × Int × Int × Int × Int × (List dRange) × (List dWrite) × Bool × ByteArray)) (k : AV × St → Option Res) => (fun (y : (Bool × Int × Int × Int × Int × (List dRange) × (List dWrite) × Bool × ByteArray)) => k ((.bool y.1 : AV), ([.box [.int .i64 y.2.1, .int .i64 y.2.2.1, .int .i64 y.2.2.2.1, .int .i64 y.2.2.2.2.1, .lst tRange y.2.2.2.2.2.1, .lst tWrite y.2.2.2.2.2.2.1, .bool y.2.2.2.2.2.2.2.1, .str y.2.2.2.2.2.2.2.2]] : St))) y) (fun y => par_ret _)

def impl_idsUnlike_g (args : List AV) (st : St) (k : K1) : Option Res :=
  onPats [.lst tTxn, .int .i64] [] args st (fun p q => impl_idsUnlike_k p.1 p.2.1 (fun (y : Bool) => k (.bool y) []))
    (none)

theorem impl_idsUnlike_q (a0 : (List dTxn)) (a1 : Int) : Par (fun k : AV × St → Option Res => impl_idsUnlike_g [.lst tTxn a0, .int .i64 a1] [] (fun v s => k (v, s))) :=
  (impl_idsUnlike_p a0 a1).bind (H := fun (y : Bool) (k : AV × St → Option Res) => (fun (y : Bool) => k ((.bool y : AV), ([] : St))) y) (fun y => par_ret _)

def impl_BaseOk_g (args : List AV) (st : St) (k : K1) : Option Res :=
  onPats [.agg [.lst tVersion, .lst tTxn, .lst tTxn, .int .i64, .int .i64]] [] args st (fun p q => impl_BaseOk_k (p.1.1, (p.1.2.1, (p.1.2.2.1, (p.1.2.2.2.1, p.1.2.2.2.2.1)))) (fun (y : Bool) => k (.bool y) []))
    (none)

theorem impl_BaseOk_q (a0 : (List dVersion)) (a1 : (List dTxn)) (a2 : (List dTxn)) (a3 : Int) (a4 : Int) : Par (fun k : AV × St → Option Res => impl_BaseOk_g [.agg [.lst tVersion a0, .lst tTxn a1, .lst tTxn a2, .int .i64 a3, .int .i64 a4]] [] (fun v s => k (v, s))) :=
  (impl_BaseOk_p (a0, (a1, (a2, (a3, a4))))).bind (H := fun (y : Bool) (k : AV × St → Option Res) => (fun (y : Bool) => k ((.bool y : AV), ([] : St))) y) (fun y => par_ret _)

def impl_RecordOk_g (args : List AV) (st : St) (k : K1) : Option Res :=
  onPats [.agg [.int .i64, .int .i64, .int .i64, .int .i64, .int .i64, .lst tRange, .lst tWrite, .bool, .str, .str, .bool, .lst tVersion, .lst tTxn, .lst tTxn, .int .i64, .int .i64]] [] args st (fun p q => impl_RecordOk_k (p.1.1, ((p.1.2.1, (p.1.2.2.1, (p.1.2.2.2.1, (p.1.2.2.2.2.1, (p.1.2.2.2.2.2.1, (p.1.2.2.2.2.2.2.1, (p.1.2.2.2.2.2.2.2.1, p.1.2.2.2.2.2.2.2.2.1))))))), (p.1.2.2.2.2.2.2.2.2.2.1, (p.1.2.2.2.2.2.2.2.2.2.2.1, (p.1.2.2.2.2.2.2.2.2.2.2.2.1, (p.1.2.2.2.2.2.2.2.2.2.2.2.2.1, (p.1.2.2.2.2.2.2.2.2.2.2.2.2.2.1, (p.1.2.2.2.2.2.2.2.2.2.2.2.2.2.2.1, p.1.2.2.2.2.2.2.2.2.2.2.2.2.2.2.2.1)))))))) (fun (y : Bool) => k (.bool y) []))
    (none)

theorem impl_RecordOk_q (a0 : Int) (a1 : Int) (a2 : Int) (a3 : Int) (a4 : Int) (a5 : (List dRange)) (a6 : (List dWrite)) (a7 : Bool) (a8 : ByteArray) (a9 : ByteArray) (a10 : Bool) (a11 : (List dVersion)) (a12 : (List dTxn)) (a13 : (List dTxn)) (a14 : Int) (a15 : Int) : Par (fun k : AV × St → Option Res => impl_RecordOk_g [.agg [.int .i64 a0, .int .i64 a1, .int .i64 a2, .int .i64 a3, .int .i64 a4, .lst tRange a5, .lst tWrite a6, .bool a7, .str a8, .str a9, .bool a10, .lst tVersion a11, .lst tTxn a12, .lst tTxn a13, .int .i64 a14, .int .i64 a15]] [] (fun v s => k (v, s))) :=
  (impl_RecordOk_p (a0, ((a1, (a2, (a3, (a4, (a5, (a6, (a7, a8))))))), (a9, (a10, (a11, (a12, (a13, (a14, a15))))))))).bind (H := fun (y : Bool) (k : AV × St → Option Res) => (fun (y : Bool) => k ((.bool y : AV), ([] : St))) y) (fun y => par_ret _)

def laws_eqRange_g (args : List AV) (st : St) (k : K1) : Option Res :=
  onPats [.agg [.str, .str], .agg [.str, .str]] [] args st (fun p q => laws_eqRange_k (p.1.1, p.1.2.1) (p.2.1.1, p.2.1.2.1) (fun (y : Bool) => k (.bool y) []))
    (none)

theorem laws_eqRange_q (a0 : ByteArray) (a1 : ByteArray) (a2 : ByteArray) (a3 : ByteArray) : Par (fun k : AV × St → Option Res => laws_eqRange_g [.agg [.str a0, .str a1], .agg [.str a2, .str a3]] [] (fun v s => k (v, s))) :=
  (laws_eqRange_p (a0, a1) (a2, a3)).bind (H := fun (y : Bool) (k : AV × St → Option Res) => (fun (y : Bool) => k ((.bool y : AV), ([] : St))) y) (fun y => par_ret _)

def laws_eqRangeS_g (args : List AV) (st : St) (k : K1) : Option Res :=
  onPats [.lst tRange, .lst tRange] [] args st (fun p q => laws_eqRangeS_k p.1 p.2.1 (fun (y : Bool) => k (.bool y) []))
    (none)

theorem laws_eqRangeS_q (a0 : (List dRange)) (a1 : (List dRange)) : Par (fun k : AV × St → Option Res => laws_eqRangeS_g [.lst tRange a0, .lst tRange a1] [] (fun v s => k (v, s))) :=
  (laws_eqRangeS_p a0 a1).bind (H := fun (y : Bool) (k : AV × St → Option Res) => (fun (y : Bool) => k ((.bool y : AV), ([] : St))) y) (fun y => par_ret _)

def laws_eqWrite_g (args : List AV) (st : St) (k : K1) : Option Res :=
  onPats [.agg [.str, .str, .bool], .agg [.str, .str, .bool]] [] args st (fun p q => laws_eqWrite_k (p.1.1, (p.1.2.1, p.1.2.2.1)) (p.2.1.1, (p.2.1.2.1, p.2.1.2.2.1)) (fun (y : Bool) => k (.bool y) []))
    (none)

theorem laws_eqWrite_q (a0 : ByteArray) (a1 : ByteArray) (a2 : Bool) (a3 : ByteArray) (a4 : ByteArray) (a5 : Bool) : Par (fun k : AV × St → Option Res => laws_eqWrite_g [.agg [.str a0, .str a1, .bool a2], .agg [.str a3, .str a4, .bool a5]] [] (fun v s => k (v, s))) :=
  (laws_eqWrite_p (a0, (a1, a2)) (a3, (a4, a5))).bind (H := fun (y : Bool) (k : AV × St → Option Res) => (fun (y : Bool) => k ((.bool y : AV), ([] : St))) y) (fun y => par_ret _)

def laws_eqWriteS_g (args : List AV) (st : St) (k : K1) : Option Res :=
  onPats [.lst tWrite, .lst tWrite] [] args st (fun p q => laws_eqWriteS_k p.1 p.2.1 (fun (y : Bool) => k (.bool y) []))
    (none)

theorem laws_eqWriteS_q (a0 : (List dWrite)) (a1 : (List dWrite)) : Par (fun k : AV × St → Option Res => laws_eqWriteS_g [.lst tWrite a0, .lst tWrite a1] [] (fun v s => k (v, s))) :=
  (laws_eqWriteS_p a0 a1).bind (H := fun (y : Bool) (k : AV × St → Option Res) => (fun (y : Bool) => k ((.bool y : AV), ([] : St))) y) (fun y => par_ret _)

def laws_eqTxn_g (args : List AV) (st : St) (k : K1) : Option Res :=
  onPats [.agg [.int .i64, .int .i64, .int .i64, .int .i64, .lst tRange, .lst tWrite, .bool, .str], .agg [.int .i64, .int .i64, .int .i64, .int .i64, .lst tRange, .lst tWrite, .bool, .str]] [] args st (fun p q => laws_eqTxn_k (p.1.1, (p.1.2.1, (p.1.2.2.1, (p.1.2.2.2.1, (p.1.2.2.2.2.1, (p.1.2.2.2.2.2.1, (p.1.2.2.2.2.2.2.1, p.1.2.2.2.2.2.2.2.1))))))) (p.2.1.1, (p.2.1.2.1, (p.2.1.2.2.1, (p.2.1.2.2.2.1, (p.2.1.2.2.2.2.1, (p.2.1.2.2.2.2.2.1, (p.2.1.2.2.2.2.2.2.1, p.2.1.2.2.2.2.2.2.2.1))))))) (fun (y : Bool) => k (.bool y) []))
    (none)

theorem laws_eqTxn_q (a0 : Int) (a1 : Int) (a2 : Int) (a3 : Int) (a4 : (List dRange)) (a5 : (List dWrite)) (a6 : Bool) (a7 : ByteArray) (a8 : Int) (a9 : Int) (a10 : Int) (a11 : Int) (a12 : (List dRange)) (a13 : (List dWrite)) (a14 : Bool) (a15 : ByteArray) : Par (fun k : AV × St → Option Res => laws_eqTxn_g [.agg [.int .i64 a0, .int .i64 a1, .int .i64 a2, .int .i64 a3, .lst tRange a4, .lst tWrite a5, .bool a6, .str a7], .agg [.int .i64 a8, .int .i64 a9, .int .i64 a10, .int .i64 a11, .lst tRange a12, .lst tWrite a13, .bool a14, .str a15]] [] (fun v s => k (v, s))) :=
  (laws_eqTxn_p (a0, (a1, (a2, (a3, (a4, (a5, (a6, a7))))))) (a8, (a9, (a10, (a11, (a12, (a13, (a14, a15)))))))).bind (H := fun (y : Bool) (k : AV × St → Option Res) => (fun (y : Bool) => k ((.bool y : AV), ([] : St))) y) (fun y => par_ret _)

def laws_eqVersion_g (args : List AV) (st : St) (k : K1) : Option Res :=
  onPats [.agg [.str, .str, .bool, .int .i64], .agg [.str, .str, .bool, .int .i64]] [] args st (fun p q => laws_eqVersion_k (p.1.1, (p.1.2.1, (p.1.2.2.1, p.1.2.2.2.1))) (p.2.1.1, (p.2.1.2.1, (p.2.1.2.2.1, p.2.1.2.2.2.1))) (fun (y : Bool) => k (.bool y) []))
    (none)

theorem laws_eqVersion_q (a0 : ByteArray) (a1 : ByteArray) (a2 : Bool) (a3 : Int) (a4 : ByteArray) (a5 : ByteArray) (a6 : Bool) (a7 : Int) : Par (fun k : AV × St → Option Res => laws_eqVersion_g [.agg [.str a0, .str a1, .bool a2, .int .i64 a3], .agg [.str a4, .str a5, .bool a6, .int .i64 a7]] [] (fun v s => k (v, s))) :=
  (laws_eqVersion_p (a0, (a1, (a2, a3))) (a4, (a5, (a6, a7)))).bind (H := fun (y : Bool) (k : AV × St → Option Res) => (fun (y : Bool) => k ((.bool y : AV), ([] : St))) y) (fun y => par_ret _)

def laws_eqVersionS_g (args : List AV) (st : St) (k : K1) : Option Res :=
  onPats [.lst tVersion, .lst tVersion] [] args st (fun p q => laws_eqVersionS_k p.1 p.2.1 (fun (y : Bool) => k (.bool y) []))
    (none)

theorem laws_eqVersionS_q (a0 : (List dVersion)) (a1 : (List dVersion)) : Par (fun k : AV × St → Option Res => laws_eqVersionS_g [.lst tVersion a0, .lst tVersion a1] [] (fun v s => k (v, s))) :=
  (laws_eqVersionS_p a0 a1).bind (H := fun (y : Bool) (k : AV × St → Option Res) => (fun (y : Bool) => k ((.bool y : AV), ([] : St))) y) (fun y => par_ret _)

def laws_eqTxnS_g (args : List AV) (st : St) (k : K1) : Option Res :=
  onPats [.lst tTxn, .lst tTxn] [] args st (fun p q => laws_eqTxnS_k p.1 p.2.1 (fun (y : Bool) => k (.bool y) []))
    (none)

theorem laws_eqTxnS_q (a0 : (List dTxn)) (a1 : (List dTxn)) : Par (fun k : AV × St → Option Res => laws_eqTxnS_g [.lst tTxn a0, .lst tTxn a1] [] (fun v s => k (v, s))) :=
  (laws_eqTxnS_p a0 a1).bind (H := fun (y : Bool) (k : AV × St → Option Res) => (fun (y : Bool) => k ((.bool y : AV), ([] : St))) y) (fun y => par_ret _)

def laws_eqBase_g (args : List AV) (st : St) (k : K1) : Option Res :=
  onPats [.agg [.lst tVersion, .lst tTxn, .lst tTxn, .int .i64, .int .i64], .agg [.lst tVersion, .lst tTxn, .lst tTxn, .int .i64, .int .i64]] [] args st (fun p q => laws_eqBase_k (p.1.1, (p.1.2.1, (p.1.2.2.1, (p.1.2.2.2.1, p.1.2.2.2.2.1)))) (p.2.1.1, (p.2.1.2.1, (p.2.1.2.2.1, (p.2.1.2.2.2.1, p.2.1.2.2.2.2.1)))) (fun (y : Bool) => k (.bool y) []))
    (none)

theorem laws_eqBase_q (a0 : (List dVersion)) (a1 : (List dTxn)) (a2 : (List dTxn)) (a3 : Int) (a4 : Int) (a5 : (List dVersion)) (a6 : (List dTxn)) (a7 : (List dTxn)) (a8 : Int) (a9 : Int) : Par (fun k : AV × St → Option Res => laws_eqBase_g [.agg [.lst tVersion a0, .lst tTxn a1, .lst tTxn a2, .int .i64 a3, .int .i64 a4], .agg [.lst tVersion a5, .lst tTxn a6, .lst tTxn a7, .int .i64 a8, .int .i64 a9]] [] (fun v s => k (v, s))) :=
  (laws_eqBase_p (a0, (a1, (a2, (a3, a4)))) (a5, (a6, (a7, (a8, a9))))).bind (H := fun (y : Bool) (k : AV × St → Option Res) => (fun (y : Bool) => k ((.bool y : AV), ([] : St))) y) (fun y => par_ret _)

def laws_eqRecord_g (args : List AV) (st : St) (k : K1) : Option Res :=
  onPats [.agg [.int .i64, .int .i64, .int .i64, .int .i64, .int .i64, .lst tRange, .lst tWrite, .bool, .str, .str, .bool, .lst tVersion, .lst tTxn, .lst tTxn, .int .i64, .int .i64], .agg [.int .i64, .int .i64, .int .i64, .int .i64, .int .i64, .lst tRange, .lst tWrite, .bool, .str, .str, .bool, .lst tVersion, .lst tTxn, .lst tTxn, .int .i64, .int .i64]] [] args st (fun p q => laws_eqRecord_k (p.1.1, ((p.1.2.1, (p.1.2.2.1, (p.1.2.2.2.1, (p.1.2.2.2.2.1, (p.1.2.2.2.2.2.1, (p.1.2.2.2.2.2.2.1, (p.1.2.2.2.2.2.2.2.1, p.1.2.2.2.2.2.2.2.2.1))))))), (p.1.2.2.2.2.2.2.2.2.2.1, (p.1.2.2.2.2.2.2.2.2.2.2.1, (p.1.2.2.2.2.2.2.2.2.2.2.2.1, (p.1.2.2.2.2.2.2.2.2.2.2.2.2.1, (p.1.2.2.2.2.2.2.2.2.2.2.2.2.2.1, (p.1.2.2.2.2.2.2.2.2.2.2.2.2.2.2.1, p.1.2.2.2.2.2.2.2.2.2.2.2.2.2.2.2.1)))))))) (p.2.1.1, ((p.2.1.2.1, (p.2.1.2.2.1, (p.2.1.2.2.2.1, (p.2.1.2.2.2.2.1, (p.2.1.2.2.2.2.2.1, (p.2.1.2.2.2.2.2.2.1, (p.2.1.2.2.2.2.2.2.2.1, p.2.1.2.2.2.2.2.2.2.2.1))))))), (p.2.1.2.2.2.2.2.2.2.2.2.1, (p.2.1.2.2.2.2.2.2.2.2.2.2.1, (p.2.1.2.2.2.2.2.2.2.2.2.2.2.1, (p.2.1.2.2.2.2.2.2.2.2.2.2.2.2.1, (p.2.1.2.2.2.2.2.2.2.2.2.2.2.2.2.1, (p.2.1.2.2.2.2.2.2.2.2.2.2.2.2.2.2.1, p.2.1.2.2.2.2.2.2.2.2.2.2.2.2.2.2.2.1)))))))) (fun (y : Bool) => k (.bool y) []))
    (none)

theorem laws_eqRecord_q (a0 : Int) (a1 : Int) (a2 : Int) (a3 : Int) (a4 : Int) (a5 : (List dRange)) (a6 : (List dWrite)) (a7 : Bool) (a8 : ByteArray) (a9 : ByteArray) (a10 : Bool) (a11 : (List dVersion)) (a12 : (List dTxn)) (a13 : (List dTxn)) (a14 : Int) (a15 : Int) (a16 : Int) (a17 : Int) (a18 : Int) (a19 : Int) (a20 : Int) (a21 : (List dRange)) (a22 : (List dWrite)) (a23 : Bool) (a24 : ByteArray) (a25 : ByteArray) (a26 : Bool) (a27 : (List dVersion)) (a28 : (List dTxn)) (a29 : (List dTxn)) (a30 : Int) (a31 : Int) : Par (fun k : AV × St → Option Res => laws_eqRecord_g [.agg [.int .i64 a0, .int .i64 a1, .int .i64 a2, .int .i64 a3, .int .i64 a4, .lst tRange a5, .lst tWrite a6, .bool a7, .str a8, .str a9, .bool a10, .lst tVersion a11, .lst tTxn a12, .lst tTxn a13, .int .i64 a14, .int .i64 a15], .agg [.int .i64 a16, .int .i64 a17, .int .i64 a18, .int .i64 a19, .int .i64 a20, .lst tRange a21, .lst tWrite a22, .bool a23, .str a24, .str a25, .bool a26, .lst tVersion a27, .lst tTxn a28, .lst tTxn a29, .int .i64 a30, .int .i64 a31]] [] (fun v s => k (v, s))) :=
  (laws_eqRecord_p (a0, ((a1, (a2, (a3, (a4, (a5, (a6, (a7, a8))))))), (a9, (a10, (a11, (a12, (a13, (a14, a15)))))))) (a16, ((a17, (a18, (a19, (a20, (a21, (a22, (a23, a24))))))), (a25, (a26, (a27, (a28, (a29, (a30, a31))))))))).bind (H := fun (y : Bool) (k : AV × St → Option Res) => (fun (y : Bool) => k ((.bool y : AV), ([] : St))) y) (fun y => par_ret _)

def laws_FnExactRecordOk_g (args : List AV) (st : St) (k : K1) : Option Res :=
  onPats [.agg [.int .i64, .int .i64, .int .i64, .int .i64, .int .i64, .lst tRange, .lst tWrite, .bool, .str, .str, .bool, .lst tVersion, .lst tTxn, .lst tTxn, .int .i64, .int .i64]] [] args st (fun p q => laws_FnExactRecordOk_k (p.1.1, ((p.1.2.1, (p.1.2.2.1, (p.1.2.2.2.1, (p.1.2.2.2.2.1, (p.1.2.2.2.2.2.1, (p.1.2.2.2.2.2.2.1, (p.1.2.2.2.2.2.2.2.1, p.1.2.2.2.2.2.2.2.2.1))))))), (p.1.2.2.2.2.2.2.2.2.2.1, (p.1.2.2.2.2.2.2.2.2.2.2.1, (p.1.2.2.2.2.2.2.2.2.2.2.2.1, (p.1.2.2.2.2.2.2.2.2.2.2.2.2.1, (p.1.2.2.2.2.2.2.2.2.2.2.2.2.2.1, (p.1.2.2.2.2.2.2.2.2.2.2.2.2.2.2.1, p.1.2.2.2.2.2.2.2.2.2.2.2.2.2.2.2.1)))))))) (fun (y : Bool) => k (.bool y) []))
    (none)

theorem laws_FnExactRecordOk_q (a0 : Int) (a1 : Int) (a2 : Int) (a3 : Int) (a4 : Int) (a5 : (List dRange)) (a6 : (List dWrite)) (a7 : Bool) (a8 : ByteArray) (a9 : ByteArray) (a10 : Bool) (a11 : (List dVersion)) (a12 : (List dTxn)) (a13 : (List dTxn)) (a14 : Int) (a15 : Int) : Par (fun k : AV × St → Option Res => laws_FnExactRecordOk_g [.agg [.int .i64 a0, .int .i64 a1, .int .i64 a2, .int .i64 a3, .int .i64 a4, .lst tRange a5, .lst tWrite a6, .bool a7, .str a8, .str a9, .bool a10, .lst tVersion a11, .lst tTxn a12, .lst tTxn a13, .int .i64 a14, .int .i64 a15]] [] (fun v s => k (v, s))) :=
  (laws_FnExactRecordOk_p (a0, ((a1, (a2, (a3, (a4, (a5, (a6, (a7, a8))))))), (a9, (a10, (a11, (a12, (a13, (a14, a15))))))))).bind (H := fun (y : Bool) (k : AV × St → Option Res) => (fun (y : Bool) => k ((.bool y : AV), ([] : St))) y) (fun y => par_ret _)

end

end Go.VE
