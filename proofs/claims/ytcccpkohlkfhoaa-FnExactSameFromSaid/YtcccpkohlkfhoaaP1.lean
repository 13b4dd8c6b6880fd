/- Plain laws of lists, loops and numbers. -/
import Derived.Test.YtcccpkohlkfhoaaU25
namespace Go.VE
set_option linter.unusedVariables false
theorem vhq {x:Int}(h1 : -9223372036854775808≤x)(h2:x<9223372036854775808):IntKind.wrap .i64 x=x:=by
 unfold IntKind.wrap
 simp only [IntKind.bits,IntKind.signed]
 have e:(2:Int)^64=18446744073709551616:=by decide
 have e3:(2:Int)^63=9223372036854775808:=by decide
 simp [e,e3]
 omega
theorem vbu {i:Nat}(hi:(i:Int)<9223372036854775807):IntKind.wrap .i64 ((i:Int)+1)=((i+1:Nat):Int):=by
 rw [vhq (by omega) (by omega)];push_cast;rfl
section
variable {α:Type}{xs:List α}{i:Nat}{y:α}{l:List α}
theorem vbi (h:xs.drop i=[]):¬((i:Int)<(xs.length:Int)):=by
 have:=congrArg List.length h
 simp at this
 omega
theorem vb2 (h:xs.drop i=y::l):i<xs.length:=by
 have:=congrArg List.length h
 simp at this
 omega
theorem vck (h:xs.drop i=y::l)(hlen:xs.length<9223372036854775807) :
  (i:Int)<(xs.length:Int)∧0≤(i:Int)∧xs.drop (i+1)=l∧IntKind.wrap .i64 ((i:Int)+1)=((i+1:Nat):Int)∧(i:Int).toNat=i:=by
 have hlt:=vb2 h
 refine⟨by omega,by omega,?_,vbu (by omega),by simp⟩
 have:=congrArg (List.drop 1) h
 simpa [Nat.add_comm]using this
theorem voj (h:xs.drop i=y::l):xs[i]? = some y:=by
 have:=congrArg (·[0]?) h
 simpa using this
theorem vbg (h:xs.drop i=y::l):(∀d:α,rd d xs (i:Int)=y)∧∀d:α,xs.getD i d=y:=by
 have h1:=voj h
 refine⟨fun d=>?_,fun d=>?_⟩
 ·simp [rd,h1]
 ·simp [h1]
theorem vc0 (hlen:xs.length<9223372036854775807):xs.length<Fuel:=Nat.lt_of_lt_of_le (by omega) vcf
end
section
variable {s:ByteArray}{i:Nat}{y:Int}{l:List Int}
theorem v3z (h:(ved s).drop i=[]):¬((i:Int)<(s.size:Int)):=by
 rw [←vct];exact vbi h
theorem v3u (h:(ved s).drop i=y::l)(hlen:s.size<9223372036854775807) :
  (i:Int)<(s.size:Int)∧0≤(i:Int)∧(ved s).drop (i+1)=l∧IntKind.wrap .i64 ((i:Int)+1)=((i+1:Nat):Int)∧(i:Int).toNat=i:=by
 rw [←vct]at *;exact vck h hlen
theorem v3y (h:(ved s).drop i=y::l):bt s (i:Int)=y:=by
 have h1:=voj h
 unfold ved at h1
 simp only [List.getElem?_map,Option.map_eq_some_iff]at h1
 obtain⟨b,h2,h3⟩:=h1
 simp at h2
 simp [bt,h2,h3]
theorem v3v (hlen:s.size<9223372036854775807):(ved s).length<Fuel:=by rw [vct];exact Nat.lt_of_lt_of_le (by omega) vcf
end
end Go.VE
