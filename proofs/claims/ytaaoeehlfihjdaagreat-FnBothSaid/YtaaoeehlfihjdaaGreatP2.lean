/- Plain laws: kinds, weights, small lemmas of lists. -/
import Derived.Test.YtaaoeehlfihjdaaGreatP1
import Derived.Test.YtaaoeehlfihjdaaGreatT0
namespace Go.VE
set_option linter.unusedVariables false
def Ty.wt:(T:Ty)→T.D→Nat
 |.int _,_=>0
 |.bool,_=>0
 |.str,s=>s.size
 |.pair a b,x=>a.wt x.1+b.wt x.2
 |.slice e,xs=>xs.length+(xs.map e.wt).sum
def wtL (T:Ty)(xs:List T.D):Nat:=match xs with
 |[]=>0
 |x::l=>T.wt x+wtL T l
theorem wt8 (T:Ty):∀xs:List T.D,(xs.map T.wt).sum=wtL T xs
 |[]=>rfl
 |x::l=>by simp [wtL,wt8 T l]
theorem Ty.wt_slice (T:Ty)(xs:List T.D):(Ty.slice T).wt xs=xs.length+wtL T xs:=by
 simp only [Ty.wt,wt8]
theorem wkp {T:Ty}:∀{xs:List T.D} {x:T.D},x∈xs→T.wt x≤wtL T xs
 |y::l,x,h=>by
  simp only [List.mem_cons]at h
  rcases h with rfl|h
  ·simp [wtL]
  ·have:=wkp h;simp only [wtL];omega
theorem vdy {T:Ty}{xs:List T.D}{n:Nat}(h:(Ty.slice T).wt xs≤n):xs.length≤n:=by rw [Ty.wt_slice]at h;omega
theorem vcj {T:Ty}{xs:List T.D}{x:T.D}{n:Nat}(hx:x∈xs)(h:(Ty.slice T).wt xs≤n):T.wt x≤n:=by
 rw [Ty.wt_slice]at h;have:=wkp hx;omega
def w2r (F:(Int→Option Res)→Option Res)(a:Int)(n:Nat):Prop:=
 ∃r:Int,(∀k,F k=k r)∧(r<0∨(0≤r∧r=a-(n:Int)))
theorem w2o {a:Int}{n:Nat}(h0:0≤a)(h1:a≤1048576)(hn:n≤Go.maxLen):IntKind.wrap .i64 (a-(n:Int))=a-(n:Int):=by
 have:Go.maxLen≤9223372036854775807:=by decide
 exact vff (by omega) (by omega)
section
variable {α:Type}
theorem vdz {xs:List α}{i:Nat}{y:α}{l:List α}(h:xs.drop i=y::l):xs.drop (i+1)=l:=by
 have:=congrArg (List.drop 1) h
 simpa [Nat.add_comm]using this
theorem viy {xs:List α}{i:Nat}{y:α}{l:List α}(h:xs.drop i=y::l):y∈xs:=List.mem_of_mem_drop (h▸List.mem_cons_self)
theorem wy4 (xs:List α)(z:α):∀(i:Nat) (hi:i<xs.length),(xs.take i++List.replicate (xs.length-i) z).set i xs[i]=xs.take (i+1)++List.replicate (xs.length-(i+1)) z:=by
 intro i hi
 have e:xs.length-i=(xs.length-(i+1))+1:=by omega
 rw [e,List.replicate_succ,List.set_append_right _ _ (by simp;omega)]
 have:i-(xs.take i).length=0:=by simp;omega
 rw [this,List.set_cons_zero,List.take_succ_eq_append_getElem hi,List.append_assoc]
 rfl
end
theorem vcz {α β:Type}(p:α×β):(p.1,p.2)=p:=rfl
theorem vsr (s:ByteArray):va3 s s=true:=by rw [vh1];simp
end Go.VE
