/- Plain laws of lists, loops and numbers. -/
import Derived.Test.YtbaniaofomgceaaU25
namespace Go.VE
set_option linter.unusedVariables false
theorem vbq {x:Int}(h1 : -9223372036854775808≤x)(h2:x<9223372036854775808):IntKind.wrap .i64 x=x:=by
 unfold IntKind.wrap
 simp only [IntKind.bits,IntKind.signed]
 have e:(2:Int)^64=18446744073709551616:=by decide
 have e3:(2:Int)^63=9223372036854775808:=by decide
 simp [e,e3]
 omega
theorem vbp {i:Nat}(hi:(i:Int)<9223372036854775807):IntKind.wrap .i64 ((i:Int)+1)=((i+1:Nat):Int):=by
 rw [vbq (by omega) (by omega)];push_cast;rfl
section
variable {α:Type}{xs:List α}{i:Nat}{y:α}{l:List α}
theorem vay (h:xs.drop i=[]):¬((i:Int)<(xs.length:Int)):=by
 have:=congrArg List.length h
 simp at this
 omega
theorem vc6 (h:xs.drop i=y::l):i<xs.length:=by
 have:=congrArg List.length h
 simp at this
 omega
theorem van (h:xs.drop i=y::l)(hlen:xs.length<9223372036854775807) :
  (i:Int)<(xs.length:Int)∧0≤(i:Int)∧xs.drop (i+1)=l∧IntKind.wrap .i64 ((i:Int)+1)=((i+1:Nat):Int)∧(i:Int).toNat=i:=by
 have hlt:=vc6 h
 refine⟨by omega,by omega,?_,vbp (by omega),by simp⟩
 have:=congrArg (List.drop 1) h
 simpa [Nat.add_comm]using this
theorem vkg (h:xs.drop i=y::l):xs[i]? = some y:=by
 have:=congrArg (·[0]?) h
 simpa using this
theorem vap (h:xs.drop i=y::l):(∀d:α,rd d xs (i:Int)=y)∧∀d:α,xs.getD i d=y:=by
 have h1:=vkg h
 refine⟨fun d=>?_,fun d=>?_⟩
 ·simp [rd,h1]
 ·simp [h1]
theorem vao (hlen:xs.length<9223372036854775807):xs.length<Fuel:=Nat.lt_of_lt_of_le (by omega) vd0
end
section
variable {s:ByteArray}{i:Nat}{y:Int}{l:List Int}
theorem wmi (h:(ved s).drop i=[]):¬((i:Int)<(s.size:Int)):=by
 rw [←vdb];exact vay h
theorem wmf (h:(ved s).drop i=y::l)(hlen:s.size<9223372036854775807) :
  (i:Int)<(s.size:Int)∧0≤(i:Int)∧(ved s).drop (i+1)=l∧IntKind.wrap .i64 ((i:Int)+1)=((i+1:Nat):Int)∧(i:Int).toNat=i:=by
 rw [←vdb]at *;exact van h hlen
theorem wmk (h:(ved s).drop i=y::l):bt s (i:Int)=y:=by
 have h1:=vkg h
 unfold ved at h1
 simp only [List.getElem?_map,Option.map_eq_some_iff]at h1
 obtain⟨b,h2,h3⟩:=h1
 simp at h2
 simp [bt,h2,h3]
theorem wmg (hlen:s.size<9223372036854775807):(ved s).length<Fuel:=by rw [vdb];exact Nat.lt_of_lt_of_le (by omega) vd0
end
end Go.VE
