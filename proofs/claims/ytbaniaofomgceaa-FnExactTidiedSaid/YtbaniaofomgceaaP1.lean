/- Plain laws of lists, loops and numbers. -/
import Derived.Test.YtbaniaofomgceaaU25
namespace Go.VE
set_option linter.unusedVariables false
theorem vbk {x:Int}(h1 : -9223372036854775808≤x)(h2:x<9223372036854775808):IntKind.wrap .i64 x=x:=by
 unfold IntKind.wrap
 simp only [IntKind.bits,IntKind.signed]
 have e:(2:Int)^64=18446744073709551616:=by decide
 have e3:(2:Int)^63=9223372036854775808:=by decide
 simp [e,e3]
 omega
theorem vb2 {i:Nat}(hi:(i:Int)<9223372036854775807):IntKind.wrap .i64 ((i:Int)+1)=((i+1:Nat):Int):=by
 rw [vbk (by omega) (by omega)];push_cast;rfl
section
variable {α:Type}{xs:List α}{i:Nat}{y:α}{l:List α}
theorem va3 (h:xs.drop i=[]):¬((i:Int)<(xs.length:Int)):=by
 have:=congrArg List.length h
 simp at this
 omega
theorem vcu (h:xs.drop i=y::l):i<xs.length:=by
 have:=congrArg List.length h
 simp at this
 omega
theorem vaq (h:xs.drop i=y::l)(hlen:xs.length<9223372036854775807) :
  (i:Int)<(xs.length:Int)∧0≤(i:Int)∧xs.drop (i+1)=l∧IntKind.wrap .i64 ((i:Int)+1)=((i+1:Nat):Int)∧(i:Int).toNat=i:=by
 have hlt:=vcu h
 refine⟨by omega,by omega,?_,vb2 (by omega),by simp⟩
 have:=congrArg (List.drop 1) h
 simpa [Nat.add_comm]using this
theorem vjv (h:xs.drop i=y::l):xs[i]? = some y:=by
 have:=congrArg (·[0]?) h
 simpa using this
theorem var (h:xs.drop i=y::l):(∀d:α,rd d xs (i:Int)=y)∧∀d:α,xs.getD i d=y:=by
 have h1:=vjv h
 refine⟨fun d=>?_,fun d=>?_⟩
 ·simp [rd,h1]
 ·simp [h1]
theorem vas (hlen:xs.length<9223372036854775807):xs.length<Fuel:=Nat.lt_of_lt_of_le (by omega) vd6
end
section
variable {s:ByteArray}{i:Nat}{y:Int}{l:List Int}
theorem wg3 (h:(vd2 s).drop i=[]):¬((i:Int)<(s.size:Int)):=by
 rw [←vde];exact va3 h
theorem wg2 (h:(vd2 s).drop i=y::l)(hlen:s.size<9223372036854775807) :
  (i:Int)<(s.size:Int)∧0≤(i:Int)∧(vd2 s).drop (i+1)=l∧IntKind.wrap .i64 ((i:Int)+1)=((i+1:Nat):Int)∧(i:Int).toNat=i:=by
 rw [←vde]at *;exact vaq h hlen
theorem wg4 (h:(vd2 s).drop i=y::l):bt s (i:Int)=y:=by
 have h1:=vjv h
 unfold vd2 at h1
 simp only [List.getElem?_map,Option.map_eq_some_iff]at h1
 obtain⟨b,h2,h3⟩:=h1
 simp at h2
 simp [bt,h2,h3]
theorem wg1 (hlen:s.size<9223372036854775807):(vd2 s).length<Fuel:=by rw [vde];exact Nat.lt_of_lt_of_le (by omega) vd6
end
end Go.VE
