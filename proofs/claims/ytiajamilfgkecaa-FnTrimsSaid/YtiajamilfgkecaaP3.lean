/- Plain laws: the order of texts. -/
import Derived.Test.YtiajamilfgkecaaP2
import Derived.Laws.Strings
namespace Go.VE
set_option linter.unusedVariables false
theorem vk4 {x y:ByteArray}:van x y=true↔x=y:=by
 rw [vjd,beq_iff_eq,ByteArray.toList_eq,ByteArray.toList_eq]
 constructor
 ·intro h
  cases x;cases y
  simp only at h
  rw [Array.ext' h]
 ·rintro rfl;rfl
theorem wdx (x y:ByteArray):van x y=decide (x=y):=by
 rw [Bool.eq_iff_iff,vk4,decide_eq_true_eq]
theorem vmp:∀x:List UInt8,Op.bytesLess x x=false
 |[]=>rfl
 |a::l=>by
  simp only [Op.bytesLess,vmp l,Bool.and_false,Bool.or_false,decide_eq_false_iff_not]
  exact UInt8.lt_irrefl a
theorem vob:∀x y z:List UInt8,Op.bytesLess x y=true→Op.bytesLess y z=true→Op.bytesLess x z=true
 |_,_,[],_,h=>by cases ‹List UInt8›<;>simp [Op.bytesLess]at h
 |[],_,_::_,_,_=>rfl
 |a::x,[],c::z,h,_=>by simp [Op.bytesLess]at h
 |a::x,b::y,c::z,h1,h2=>by
  simp only [Op.bytesLess,Bool.or_eq_true,decide_eq_true_eq,Bool.and_eq_true,beq_iff_eq]at h1 h2 ⊢
  rcases h1 with h1|⟨rfl,h1⟩
  ·rcases h2 with h2|⟨rfl,h2⟩
   ·exact .inl (UInt8.lt_trans h1 h2)
   ·exact .inl h1
  ·rcases h2 with h2|⟨rfl,h2⟩
   ·exact .inl h2
   ·exact .inr ⟨rfl,vob x y z h1 h2⟩
theorem vvp:∀x y:List UInt8,Op.bytesLess x y=true∨x=y∨Op.bytesLess y x=true
 |[],[]=>.inr (.inl rfl)
 |[],_::_=>.inl rfl
 |_::_,[]=>.inr (.inr rfl)
 |a::x,b::y=>by
  simp only [Op.bytesLess,Bool.or_eq_true,decide_eq_true_eq,Bool.and_eq_true,beq_iff_eq,List.cons.injEq]
  have ht:a<b∨a=b∨b<a:=by
   rcases Nat.lt_trichotomy a.toNat b.toNat with h|h|h
   ·exact .inl (UInt8.lt_iff_toNat_lt.2 h)
   ·exact .inr (.inl (UInt8.toNat_inj.1 h))
   ·exact .inr (.inr (UInt8.lt_iff_toNat_lt.2 h))
  rcases ht with h|h|h
  ·exact .inl (.inl h)
  ·subst h
   rcases vvp x y with h|h|h
   ·exact .inl (.inr ⟨rfl,h⟩)
   ·exact .inr (.inl ⟨rfl,h⟩)
   ·exact .inr (.inr (.inr ⟨rfl,h⟩))
  ·exact .inr (.inr (.inl h))
theorem vj0 (x:ByteArray):vab x x=false:=by rw [vek];exact vmp _
theorem vtb {x y z:ByteArray}(h1:vab x y=true)(h2:vab y z=true):vab x z=true:=by
 rw [vek]at *;exact vob _ _ _ h1 h2
theorem v8w {x y:ByteArray}(h:vab x y=true):vab y x=false:=by
 cases h2:vab y x with
 |false=>rfl
 |true=>have:=vtb h h2;rw [vj0]at this;cases this
theorem wc1 {x y:ByteArray}(h:vab x y=true):van x y=false:=by
 cases h2:van x y with
 |false=>rfl
 |true=>rw [vk4]at h2;subst h2;rw [vj0]at h;cases h
theorem vvv (x y:ByteArray):vab x y=true∨x=y∨vab y x=true:=by
 rw [vek,vek]
 rcases vvp x.toList y.toList with h|h|h
 ·exact .inl h
 ·refine .inr (.inl ?_)
  rw [←vk4,vjd,h];simp
 ·exact .inr (.inr h)
theorem wcv {x y:ByteArray}(h1:vab x y=false)(h2:van x y=false):vab y x=true:=by
 rcases vvv x y with h|h|h
 ·rw [h1]at h;cases h
 ·rw [←vk4,h2]at h;cases h
 ·exact h
end Go.VE
