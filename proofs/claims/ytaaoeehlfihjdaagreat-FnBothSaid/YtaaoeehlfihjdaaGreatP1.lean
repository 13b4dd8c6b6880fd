/- Plain laws of lists, loops and numbers. -/
import Derived.Test.YtaaoeehlfihjdaaGreatU25
namespace Go.VE
set_option linter.unusedVariables false
theorem vff {x:Int}(h1 : -9223372036854775808≤x)(h2:x<9223372036854775808):IntKind.wrap .i64 x=x:=by
 unfold IntKind.wrap
 simp only [IntKind.bits,IntKind.signed]
 have e:(2:Int)^64=18446744073709551616:=by decide
 have e3:(2:Int)^63=9223372036854775808:=by decide
 simp [e,e3]
 omega
theorem vcf {i:Nat}(hi:(i:Int)<9223372036854775807):IntKind.wrap .i64 ((i:Int)+1)=((i+1:Nat):Int):=by
 rw [vff (by omega) (by omega)];push_cast;rfl
section
variable {α:Type}{xs:List α}{i:Nat}{y:α}{l:List α}
theorem v2q (h:xs.drop i=[]):¬((i:Int)<(xs.length:Int)):=by
 have:=congrArg List.length h
 simp at this
 omega
theorem vg3 (h:xs.drop i=y::l):i<xs.length:=by
 have:=congrArg List.length h
 simp at this
 omega
theorem wct (h:xs.drop i=y::l)(hlen:xs.length<9223372036854775807) :
  (i:Int)<(xs.length:Int)∧0≤(i:Int)∧xs.drop (i+1)=l∧IntKind.wrap .i64 ((i:Int)+1)=((i+1:Nat):Int)∧(i:Int).toNat=i:=by
 have hlt:=vg3 h
 refine⟨by omega,by omega,?_,vcf (by omega),by simp⟩
 have:=congrArg (List.drop 1) h
 simpa [Nat.add_comm]using this
theorem v4e (h:xs.drop i=y::l):xs[i]? = some y:=by
 have:=congrArg (·[0]?) h
 simpa using this
theorem vil (h:xs.drop i=y::l):(∀d:α,rd d xs (i:Int)=y)∧∀d:α,xs.getD i d=y:=by
 have h1:=v4e h
 refine⟨fun d=>?_,fun d=>?_⟩
 ·simp [rd,h1]
 ·simp [h1]
theorem vay (hlen:xs.length<9223372036854775807):xs.length<Fuel:=Nat.lt_of_lt_of_le (by omega) vfl
end
theorem vbc {α:Type}{xs:List α}{M:List α→Nat→Nat→Prop}(h0:xs.length<9223372036854775807)(h1:∀(i n:Nat),¬((i:Int)<(xs.length:Int))→M [] i (n+1))
  (h2:∀(y:α) (l:List α) (i n:Nat),((i:Int)<(xs.length:Int)∧0≤(i:Int)∧IntKind.wrap .i64 ((i:Int)+1)=((i+1:Nat):Int)∧(i:Int).toNat=i∧(∀d:α,rd d xs (i:Int)=y)∧∀d:α,xs.getD i d=y)→M l (i+1) n→M (y::l) i (n+1)) :
  ∀(l:List α) (i n:Nat),xs.drop i=l→l.length<n→M l i n
 |l,i,0,_,h=>absurd h (Nat.not_lt_zero _)
 |[],i,n+1,hd,_=>h1 i n (v2q hd)
 |y::l,i,n+1,hd,h=>by
  obtain⟨a,b,hd2,c,d⟩:=wct hd h0
  exact h2 y l i n ⟨a,b,c,d,vil hd⟩ (vbc h0 h1 h2 l (i+1) n hd2 (Nat.lt_of_succ_lt_succ h))
section
variable {s:ByteArray}{i:Nat}{y:Int}{l:List Int}
theorem wxg (h:(vea s).drop i=[]):¬((i:Int)<(s.size:Int)):=by
 rw [←vga];exact v2q h
theorem wsd (h:(vea s).drop i=y::l)(hlen:s.size<9223372036854775807) :
  (i:Int)<(s.size:Int)∧0≤(i:Int)∧(vea s).drop (i+1)=l∧IntKind.wrap .i64 ((i:Int)+1)=((i+1:Nat):Int)∧(i:Int).toNat=i:=by
 rw [←vga]at *;exact wct h hlen
theorem wyf (h:(vea s).drop i=y::l):bt s (i:Int)=y:=by
 have h1:=v4e h
 unfold vea at h1
 simp only [List.getElem?_map,Option.map_eq_some_iff]at h1
 obtain⟨b,h2,h3⟩:=h1
 simp at h2
 simp [bt,h2,h3]
theorem ws1 (hlen:s.size<9223372036854775807):(vea s).length<Fuel:=by rw [vga];exact Nat.lt_of_lt_of_le (by omega) vfl
end
theorem wjd {s:ByteArray}{M:List Int→Nat→Nat→Prop}(h0:s.size<9223372036854775807)(h1:∀(i n:Nat),¬((i:Int)<(s.size:Int))→M [] i (n+1))
  (h2:∀(y:Int) (l:List Int) (i n:Nat),((i:Int)<(s.size:Int)∧0≤(i:Int)∧IntKind.wrap .i64 ((i:Int)+1)=((i+1:Nat):Int)∧(i:Int).toNat=i∧bt s (i:Int)=y)→M l (i+1) n→M (y::l) i (n+1)) :
  ∀(l:List Int) (i n:Nat),(vea s).drop i=l→l.length<n→M l i n
 |l,i,0,_,h=>absurd h (Nat.not_lt_zero _)
 |[],i,n+1,hd,_=>h1 i n (wxg hd)
 |y::l,i,n+1,hd,h=>by
  obtain⟨a,b,hd2,c,d⟩:=wsd hd h0
  exact h2 y l i n ⟨a,b,c,d,wyf hd⟩ (wjd h0 h1 h2 l (i+1) n hd2 (Nat.lt_of_succ_lt_succ h))
end Go.VE
