/- Plain laws: the order of texts. -/
import Derived.Test.YtaaoeehlfihjdaaGreatP2
import Derived.Laws.Strings
namespace Go.VE
set_option linter.unusedVariables false
theorem vtx {x y:ByteArray}:vaj x y=true↔x=y:=by
 rw [vq3,beq_iff_eq,ByteArray.toList_eq,ByteArray.toList_eq]
 constructor
 ·intro h
  cases x;cases y
  simp only at h
  rw [Array.ext' h]
 ·rintro rfl;rfl
theorem w9s (x y:ByteArray):vaj x y=decide (x=y):=by
 rw [Bool.eq_iff_iff,vtx,decide_eq_true_eq]
theorem vxv:∀x:List UInt8,Op.bytesLess x x=false
 |[]=>rfl
 |a::l=>by
  simp only [Op.bytesLess,vxv l,Bool.and_false,Bool.or_false,decide_eq_false_iff_not]
  exact UInt8.lt_irrefl a
theorem v2q:∀x y z:List UInt8,Op.bytesLess x y=true→Op.bytesLess y z=true→Op.bytesLess x z=true
 |_,_,[],_,h=>by cases ‹List UInt8›<;>simp [Op.bytesLess]at h
 |[],_,_::_,_,_=>rfl
 |a::x,[],c::z,h,_=>by simp [Op.bytesLess]at h
 |a::x,b::y,c::z,h1,h2=>by
  simp only [Op.bytesLess,Bool.or_eq_true,decide_eq_true_eq,Bool.and_eq_true,beq_iff_eq]at h1 h2 ⊢
  rcases h1 with h1|⟨rfl,h1⟩
  ·rcases h2 with h2|⟨rfl,h2⟩
   ·exact .inl (UInt8.lt_trans h1 h2)
   ·exact .inl h1
  ·rcases h2 with h2|⟨rfl,h2⟩
   ·exact .inl h2
   ·exact .inr ⟨rfl,v2q x y z h1 h2⟩
theorem wd8:∀x y:List UInt8,Op.bytesLess x y=true∨x=y∨Op.bytesLess y x=true
 |[],[]=>.inr (.inl rfl)
 |[],_::_=>.inl rfl
 |_::_,[]=>.inr (.inr rfl)
 |a::x,b::y=>by
  simp only [Op.bytesLess,Bool.or_eq_true,decide_eq_true_eq,Bool.and_eq_true,beq_iff_eq,List.cons.injEq]
  have ht:a<b∨a=b∨b<a:=by
   rcases Nat.lt_trichotomy a.toNat b.toNat with h|h|h
   ·exact .inl (UInt8.lt_iff_toNat_lt.2 h)
   ·exact .inr (.inl (UInt8.toNat_inj.1 h))
   ·exact .inr (.inr (UInt8.lt_iff_toNat_lt.2 h))
  rcases ht with h|h|h
  ·exact .inl (.inl h)
  ·subst h
   rcases wd8 x y with h|h|h
   ·exact .inl (.inr ⟨rfl,h⟩)
   ·exact .inr (.inl ⟨rfl,h⟩)
   ·exact .inr (.inr (.inr ⟨rfl,h⟩))
  ·exact .inr (.inr (.inl h))
theorem vrs (x:ByteArray):vai x x=false:=by rw [vlr];exact vxv _
theorem wa1 {x y z:ByteArray}(h1:vai x y=true)(h2:vai y z=true):vai x z=true:=by
 rw [vlr]at *;exact v2q _ _ _ h1 h2
theorem w1c {x y:ByteArray}(h:vai x y=true):vai y x=false:=by
 cases h2:vai y x with
 |false=>rfl
 |true=>have:=wa1 h h2;rw [vrs]at this;cases this
theorem wo6 {x y:ByteArray}(h:vai x y=true):vaj x y=false:=by
 cases h2:vaj x y with
 |false=>rfl
 |true=>rw [vtx]at h2;subst h2;rw [vrs]at h;cases h
theorem wgt (x y:ByteArray):vai x y=true∨x=y∨vai y x=true:=by
 rw [vlr,vlr]
 rcases wd8 x.toList y.toList with h|h|h
 ·exact .inl h
 ·refine .inr (.inl ?_)
  rw [←vtx,vq3,h];simp
 ·exact .inr (.inr h)
theorem w84 {x y:ByteArray}(h1:vai x y=false)(h2:vaj x y=false):vai y x=true:=by
 rcases wgt x y with h|h|h
 ·rw [h1]at h;cases h
 ·rw [←vtx,h2]at h;cases h
 ·exact h
end Go.VE
