/- Plain laws of lists, loops and numbers. -/
import Derived.Test.YteolgjmeigifbaaU25
namespace Go.VE
set_option linter.unusedVariables false
theorem va4 {x:Int}(h1 : -9223372036854775808≤x)(h2:x<9223372036854775808):IntKind.wrap .i64 x=x:=by
 unfold IntKind.wrap
 simp only [IntKind.bits,IntKind.signed]
 have e:(2:Int)^64=18446744073709551616:=by decide
 have e3:(2:Int)^63=9223372036854775808:=by decide
 simp [e,e3]
 omega
theorem vb1 {i:Nat}(hi:(i:Int)<9223372036854775807):IntKind.wrap .i64 ((i:Int)+1)=((i+1:Nat):Int):=by
 rw [va4 (by omega) (by omega)];push_cast;rfl
section
variable {α:Type}{xs:List α}{i:Nat}{y:α}{l:List α}
theorem vb9 (h:xs.drop i=[]):¬((i:Int)<(xs.length:Int)):=by
 have:=congrArg List.length h
 simp at this
 omega
theorem vfy (h:xs.drop i=y::l):i<xs.length:=by
 have:=congrArg List.length h
 simp at this
 omega
theorem vbv (h:xs.drop i=y::l)(hlen:xs.length<9223372036854775807) :
  (i:Int)<(xs.length:Int)∧0≤(i:Int)∧xs.drop (i+1)=l∧IntKind.wrap .i64 ((i:Int)+1)=((i+1:Nat):Int)∧(i:Int).toNat=i:=by
 have hlt:=vfy h
 refine⟨by omega,by omega,?_,vb1 (by omega),by simp⟩
 have:=congrArg (List.drop 1) h
 simpa [Nat.add_comm]using this
theorem v6g (h:xs.drop i=y::l):xs[i]? = some y:=by
 have:=congrArg (·[0]?) h
 simpa using this
theorem vbn (h:xs.drop i=y::l):(∀d:α,rd d xs (i:Int)=y)∧∀d:α,xs.getD i d=y:=by
 have h1:=v6g h
 refine⟨fun d=>?_,fun d=>?_⟩
 ·simp [rd,h1]
 ·simp [h1]
theorem vbu (hlen:xs.length<9223372036854775807):xs.length<Fuel:=Nat.lt_of_lt_of_le (by omega) vb5
end
section
variable {s:ByteArray}{i:Nat}{y:Int}{l:List Int}
theorem vzn (h:(vaf s).drop i=[]):¬((i:Int)<(s.size:Int)):=by
 rw [←van];exact vb9 h
theorem v8n (h:(vaf s).drop i=y::l)(hlen:s.size<9223372036854775807) :
  (i:Int)<(s.size:Int)∧0≤(i:Int)∧(vaf s).drop (i+1)=l∧IntKind.wrap .i64 ((i:Int)+1)=((i+1:Nat):Int)∧(i:Int).toNat=i:=by
 rw [←van]at *;exact vbv h hlen
theorem v3w (h:(vaf s).drop i=y::l):bt s (i:Int)=y:=by
 have h1:=v6g h
 unfold vaf at h1
 simp only [List.getElem?_map,Option.map_eq_some_iff]at h1
 obtain⟨b,h2,h3⟩:=h1
 simp at h2
 simp [bt,h2,h3]
theorem v60 (hlen:s.size<9223372036854775807):(vaf s).length<Fuel:=by rw [van];exact Nat.lt_of_lt_of_le (by omega) vb5
end
end Go.VE
