/- Contracts made out of the kit's: strings.Repeat. -/
import Derived.Test.YtcccpkohlkfhoaaU26
import Derived.Shelf.Strings.Repeat
namespace Go.VE
open Go.Shelf Go.RowKit Go.Proofs
set_option linter.unusedVariables false
theorem v6p {X:Nat→Prop}{h h':Heap}{μ:List Slot}{s:St}(inv:Inv X h μ s)(hsz:h.size≤h'.size)(hb:∀k,k<h.size→h'[k]? = h[k]?) :
  Inv X h' μ s∧Ext X h μ s h' μ s:=by
 have no:∀r sl,(r∈([]:List Nat)∨s.length≤r)→μ[r]? = some sl→False:=fun r sl hr hs=>by
  rcases hr with hr|hr
  ·cases hr
  ·have:=inv.lt hs;omega
 exact vcq inv [] hsz inv.len (Nat.le_refl _) (fun r _ _=>⟨rfl,rfl⟩) (fun b hb' _=>hb b hb') (fun r sl b hr hs=>(no r sl hr hs).elim) (fun r r' sl sl' b _ hr _ hs=>(no r sl hr hs).elim)
  (fun _ r hr=>by cases hr) (fun _ _ r sl hr hs=>(no r sl hr hs).elim)
def repB (x:ByteArray)(n:Int):ByteArray:=⟨(Lib.repeatL x.data.toList n.toNat).toArray⟩
def repK (a:ByteArray)(n:Int)(k:ByteArray→Option Res):Option Res:=
 if 0≤n∧n≤9223372036854775807∧a.size*n.toNat≤140737488355328 then k (repB a n)else none
theorem vkc {P:Program}{ρ:Ren}(L:Lays.n105 P ρ)(X:Builder.Extra P ρ) :
  vab P (ρ.f 105) (fun args st k=>vah [.str,.int .i64] [] args st (fun p q=>repK p.1 p.2.1 (fun y=>k (.str y) [])) none):=by
 intro args s k r hk
 rcases vey hk with⟨p,q,rfl,rfl,h⟩|h
 ·unfold repK at h
  split at h
  ·rename_i hc
   refine⟨_,_,h,fun X' μ w cargs inv hv=>?_⟩
   obtain⟨n,hn⟩:=Int.eq_ofNat_of_zero_le hc.1
   change RVs _ _ _ _ [.str p.1,.int .i64 p.2.1] cargs at hv
   simp only [RVs,RV]at hv
   obtain⟨v1,t1,rfl,e1,v2,t2,rfl,e2,rfl⟩:=hv
   subst e1 e2
   have hc3:=hc.2.2
   rw [hn,Int.toNat_natCast]at hc3
   have:=Any.strings_Repeat L X p.1 n w (by omega) hc3
   rw [←hn]at this
   refine this.mono ?_
   rintro e w' ⟨rfl,hb⟩
   obtain⟨i1,i2⟩:=v6p inv hb.size hb.block
   refine⟨_,μ,rfl,i1,?_,i2,hb.os,hb.tape,hb.output⟩
   simp only [RV,repB]
   rw [hn,Int.toNat_natCast]
  ·cases h
 ·cases h
end Go.VE
