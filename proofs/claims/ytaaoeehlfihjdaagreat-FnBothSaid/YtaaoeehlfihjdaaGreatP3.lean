/- Plain laws: the order of texts. -/
import Derived.Test.YtaaoeehlfihjdaaGreatP2
import Derived.Laws.Strings
namespace Go.VE
set_option linter.unusedVariables false
theorem vqr {x y:ByteArray}:va3 x y=true↔x=y:=by
 rw [vh1,beq_iff_eq,ByteArray.toList_eq,ByteArray.toList_eq]
 constructor
 ·intro h
  cases x;cases y
  simp only at h
  rw [Array.ext' h]
 ·rintro rfl;rfl
theorem w1i (x y:ByteArray):va3 x y=decide (x=y):=by
 rw [Bool.eq_iff_iff,vqr,decide_eq_true_eq]
theorem vtg:∀x:List UInt8,Op.bytesLess x x=false
 |[]=>rfl
 |a::l=>by
  simp only [Op.bytesLess,vtg l,Bool.and_false,Bool.or_false,decide_eq_false_iff_not]
  exact UInt8.lt_irrefl a
theorem vv6:∀x y z:List UInt8,Op.bytesLess x y=true→Op.bytesLess y z=true→Op.bytesLess x z=true
 |_,_,[],_,h=>by cases ‹List UInt8›<;>simp [Op.bytesLess]at h
 |[],_,_::_,_,_=>rfl
 |a::x,[],c::z,h,_=>by simp [Op.bytesLess]at h
 |a::x,b::y,c::z,h1,h2=>by
  simp only [Op.bytesLess,Bool.or_eq_true,decide_eq_true_eq,Bool.and_eq_true,beq_iff_eq]at h1 h2 ⊢
  rcases h1 with h1|⟨rfl,h1⟩
  ·rcases h2 with h2|⟨rfl,h2⟩
   ·exact .inl (UInt8.lt_trans h1 h2)
   ·exact .inl h1
  ·rcases h2 with h2|⟨rfl,h2⟩
   ·exact .inl h2
   ·exact .inr ⟨rfl,vv6 x y z h1 h2⟩
theorem v61:∀x y:List UInt8,Op.bytesLess x y=true∨x=y∨Op.bytesLess y x=true
 |[],[]=>.inr (.inl rfl)
 |[],_::_=>.inl rfl
 |_::_,[]=>.inr (.inr rfl)
 |a::x,b::y=>by
  simp only [Op.bytesLess,Bool.or_eq_true,decide_eq_true_eq,Bool.and_eq_true,beq_iff_eq,List.cons.injEq]
  have ht:a<b∨a=b∨b<a:=by
   rcases Nat.lt_trichotomy a.toNat b.toNat with h|h|h
   ·exact .inl (UInt8.lt_iff_toNat_lt.2 h)
   ·exact .inr (.inl (UInt8.toNat_inj.1 h))
   ·exact .inr (.inr (UInt8.lt_iff_toNat_lt.2 h))
  rcases ht with h|h|h
  ·exact .inl (.inl h)
  ·subst h
   rcases v61 x y with h|h|h
   ·exact .inl (.inr ⟨rfl,h⟩)
   ·exact .inr (.inl ⟨rfl,h⟩)
   ·exact .inr (.inr (.inr ⟨rfl,h⟩))
  ·exact .inr (.inr (.inl h))
theorem vpe (x:ByteArray):vaf x x=false:=by rw [vf2];exact vtg _
theorem v5k {x y z:ByteArray}(h1:vaf x y=true)(h2:vaf y z=true):vaf x z=true:=by
 rw [vf2]at *;exact vv6 _ _ _ h1 h2
theorem wry {x y:ByteArray}(h:vaf x y=true):vaf y x=false:=by
 cases h2:vaf y x with
 |false=>rfl
 |true=>have:=v5k h h2;rw [vpe]at this;cases this
theorem wy5 {x y:ByteArray}(h:vaf x y=true):va3 x y=false:=by
 cases h2:va3 x y with
 |false=>rfl
 |true=>rw [vqr]at h2;subst h2;rw [vpe]at h;cases h
theorem v8s (x y:ByteArray):vaf x y=true∨x=y∨vaf y x=true:=by
 rw [vf2,vf2]
 rcases v61 x.toList y.toList with h|h|h
 ·exact .inl h
 ·refine .inr (.inl ?_)
  rw [←vqr,vh1,h];simp
 ·exact .inr (.inr h)
theorem wxr {x y:ByteArray}(h1:vaf x y=false)(h2:va3 x y=false):vaf y x=true:=by
 rcases v8s x y with h|h|h
 ·rw [h1]at h;cases h
 ·rw [←vqr,h2]at h;cases h
 ·exact h
end Go.VE
