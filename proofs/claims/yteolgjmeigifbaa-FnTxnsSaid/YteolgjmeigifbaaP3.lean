/- Plain laws: the order of texts. -/
import Derived.Test.YteolgjmeigifbaaP2
import Derived.Laws.Strings
namespace Go.VE
set_option linter.unusedVariables false
theorem vn3 {x y:ByteArray}:vav x y=true↔x=y:=by
 rw [vgb,beq_iff_eq,ByteArray.toList_eq,ByteArray.toList_eq]
 constructor
 ·intro h
  cases x;cases y
  simp only at h
  rw [Array.ext' h]
 ·rintro rfl;rfl
theorem wsd (x y:ByteArray):vav x y=decide (x=y):=by
 rw [Bool.eq_iff_iff,vn3,decide_eq_true_eq]
theorem vqh:∀x:List UInt8,Op.bytesLess x x=false
 |[]=>rfl
 |a::l=>by
  simp only [Op.bytesLess,vqh l,Bool.and_false,Bool.or_false,decide_eq_false_iff_not]
  exact UInt8.lt_irrefl a
theorem vr1:∀x y z:List UInt8,Op.bytesLess x y=true→Op.bytesLess y z=true→Op.bytesLess x z=true
 |_,_,[],_,h=>by cases ‹List UInt8›<;>simp [Op.bytesLess]at h
 |[],_,_::_,_,_=>rfl
 |a::x,[],c::z,h,_=>by simp [Op.bytesLess]at h
 |a::x,b::y,c::z,h1,h2=>by
  simp only [Op.bytesLess,Bool.or_eq_true,decide_eq_true_eq,Bool.and_eq_true,beq_iff_eq]at h1 h2 ⊢
  rcases h1 with h1|⟨rfl,h1⟩
  ·rcases h2 with h2|⟨rfl,h2⟩
   ·exact .inl (UInt8.lt_trans h1 h2)
   ·exact .inl h1
  ·rcases h2 with h2|⟨rfl,h2⟩
   ·exact .inl h2
   ·exact .inr ⟨rfl,vr1 x y z h1 h2⟩
theorem v0b:∀x y:List UInt8,Op.bytesLess x y=true∨x=y∨Op.bytesLess y x=true
 |[],[]=>.inr (.inl rfl)
 |[],_::_=>.inl rfl
 |_::_,[]=>.inr (.inr rfl)
 |a::x,b::y=>by
  simp only [Op.bytesLess,Bool.or_eq_true,decide_eq_true_eq,Bool.and_eq_true,beq_iff_eq,List.cons.injEq]
  have ht:a<b∨a=b∨b<a:=by
   rcases Nat.lt_trichotomy a.toNat b.toNat with h|h|h
   ·exact .inl (UInt8.lt_iff_toNat_lt.2 h)
   ·exact .inr (.inl (UInt8.toNat_inj.1 h))
   ·exact .inr (.inr (UInt8.lt_iff_toNat_lt.2 h))
  rcases ht with h|h|h
  ·exact .inl (.inl h)
  ·subst h
   rcases v0b x y with h|h|h
   ·exact .inl (.inr ⟨rfl,h⟩)
   ·exact .inr (.inl ⟨rfl,h⟩)
   ·exact .inr (.inr (.inr ⟨rfl,h⟩))
  ·exact .inr (.inr (.inl h))
theorem vmm (x:ByteArray):vai x x=false:=by rw [ve5];exact vqh _
theorem vyu {x y z:ByteArray}(h1:vai x y=true)(h2:vai y z=true):vai x z=true:=by
 rw [ve5]at *;exact vr1 _ _ _ h1 h2
theorem whm {x y:ByteArray}(h:vai x y=true):vai y x=false:=by
 cases h2:vai y x with
 |false=>rfl
 |true=>have:=vyu h h2;rw [vmm]at this;cases this
theorem woy {x y:ByteArray}(h:vai x y=true):vav x y=false:=by
 cases h2:vav x y with
 |false=>rfl
 |true=>rw [vn3]at h2;subst h2;rw [vmm]at h;cases h
theorem v39 (x y:ByteArray):vai x y=true∨x=y∨vai y x=true:=by
 rw [ve5,ve5]
 rcases v0b x.toList y.toList with h|h|h
 ·exact .inl h
 ·refine .inr (.inl ?_)
  rw [←vn3,vgb,h];simp
 ·exact .inr (.inr h)
theorem wox {x y:ByteArray}(h1:vai x y=false)(h2:vav x y=false):vai y x=true:=by
 rcases v39 x y with h|h|h
 ·rw [h1]at h;cases h
 ·rw [←vn3,h2]at h;cases h
 ·exact h
end Go.VE
