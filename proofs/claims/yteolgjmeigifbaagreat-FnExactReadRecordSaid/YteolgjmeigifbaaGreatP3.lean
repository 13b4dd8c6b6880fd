/- Plain laws: the order of texts. -/
import Derived.Test.YteolgjmeigifbaaGreatP2
import Derived.Laws.Strings
namespace Go.VE
set_option linter.unusedVariables false
theorem vs5 {x y:ByteArray}:vap x y=true↔x=y:=by
 rw [vmt,beq_iff_eq,ByteArray.toList_eq,ByteArray.toList_eq]
 constructor
 ·intro h
  cases x;cases y
  simp only at h
  rw [Array.ext' h]
 ·rintro rfl;rfl
theorem w24 (x y:ByteArray):vap x y=decide (x=y):=by
 rw [Bool.eq_iff_iff,vs5,decide_eq_true_eq]
theorem vvn:∀x:List UInt8,Op.bytesLess x x=false
 |[]=>rfl
 |a::l=>by
  simp only [Op.bytesLess,vvn l,Bool.and_false,Bool.or_false,decide_eq_false_iff_not]
  exact UInt8.lt_irrefl a
theorem vz7:∀x y z:List UInt8,Op.bytesLess x y=true→Op.bytesLess y z=true→Op.bytesLess x z=true
 |_,_,[],_,h=>by cases ‹List UInt8›<;>simp [Op.bytesLess]at h
 |[],_,_::_,_,_=>rfl
 |a::x,[],c::z,h,_=>by simp [Op.bytesLess]at h
 |a::x,b::y,c::z,h1,h2=>by
  simp only [Op.bytesLess,Bool.or_eq_true,decide_eq_true_eq,Bool.and_eq_true,beq_iff_eq]at h1 h2 ⊢
  rcases h1 with h1|⟨rfl,h1⟩
  ·rcases h2 with h2|⟨rfl,h2⟩
   ·exact .inl (UInt8.lt_trans h1 h2)
   ·exact .inl h1
  ·rcases h2 with h2|⟨rfl,h2⟩
   ·exact .inl h2
   ·exact .inr ⟨rfl,vz7 x y z h1 h2⟩
theorem v8n:∀x y:List UInt8,Op.bytesLess x y=true∨x=y∨Op.bytesLess y x=true
 |[],[]=>.inr (.inl rfl)
 |[],_::_=>.inl rfl
 |_::_,[]=>.inr (.inr rfl)
 |a::x,b::y=>by
  simp only [Op.bytesLess,Bool.or_eq_true,decide_eq_true_eq,Bool.and_eq_true,beq_iff_eq,List.cons.injEq]
  have ht:a<b∨a=b∨b<a:=by
   rcases Nat.lt_trichotomy a.toNat b.toNat with h|h|h
   ·exact .inl (UInt8.lt_iff_toNat_lt.2 h)
   ·exact .inr (.inl (UInt8.toNat_inj.1 h))
   ·exact .inr (.inr (UInt8.lt_iff_toNat_lt.2 h))
  rcases ht with h|h|h
  ·exact .inl (.inl h)
  ·subst h
   rcases v8n x y with h|h|h
   ·exact .inl (.inr ⟨rfl,h⟩)
   ·exact .inr (.inl ⟨rfl,h⟩)
   ·exact .inr (.inr (.inr ⟨rfl,h⟩))
  ·exact .inr (.inr (.inl h))
theorem vrc (x:ByteArray):va3 x x=false:=by rw [vmh];exact vvn _
theorem v8a {x y z:ByteArray}(h1:va3 x y=true)(h2:va3 y z=true):va3 x z=true:=by
 rw [vmh]at *;exact vz7 _ _ _ h1 h2
theorem wtg {x y:ByteArray}(h:va3 x y=true):va3 y x=false:=by
 cases h2:va3 y x with
 |false=>rfl
 |true=>have:=v8a h h2;rw [vrc]at this;cases this
theorem wlg {x y:ByteArray}(h:va3 x y=true):vap x y=false:=by
 cases h2:vap x y with
 |false=>rfl
 |true=>rw [vs5]at h2;subst h2;rw [vrc]at h;cases h
theorem wc6 (x y:ByteArray):va3 x y=true∨x=y∨va3 y x=true:=by
 rw [vmh,vmh]
 rcases v8n x.toList y.toList with h|h|h
 ·exact .inl h
 ·refine .inr (.inl ?_)
  rw [←vs5,vmt,h];simp
 ·exact .inr (.inr h)
theorem w0z {x y:ByteArray}(h1:va3 x y=false)(h2:vap x y=false):va3 y x=true:=by
 rcases wc6 x y with h|h|h
 ·rw [h1]at h;cases h
 ·rw [←vs5,h2]at h;cases h
 ·exact h
end Go.VE
