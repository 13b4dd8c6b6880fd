/- Contracts made out of the kit's: slices.Sort at []string. -/
import Derived.Test.YtcccpkohlkfhoaaU27
import Derived.Shelf.Sort.Plain
import Derived.Shelf.Slices.In.SortNone
namespace Go.VE
open Go.Shelf Go.RowKit Go.Proofs Go.Sort
set_option linter.unusedVariables false
def ve9 (xs:List ByteArray):List ByteArray:=((xs.map fun x=>x.data.toList).mergeSort fun x y=>decide (x≤y)).map fun l=>⟨l.toArray⟩
theorem veh (xs:List ByteArray):(ve9 xs).length=xs.length:=by simp [ve9,List.length_mergeSort]
def v3e (xs:List ByteArray)(k:List ByteArray→Option Res):Option Res:=if xs.length≤1000000000 then k (ve9 xs)else none
theorem v0i {c:Array Value}{j:Nat}{v:Value}(h:(c.toList.drop (j*1)).take 1=[v]):c[j]? = some v:=by
 rw [Nat.mul_one]at h
 cases hd:c.toList.drop j with
 |nil=>rw [hd]at h;cases h
 |cons y l=>
  rw [hd]at h
  have e:y=v:=by simpa using h
  have:c.toList[j]? = some y:=by
   have:=congrArg (fun l=>l[0]?) hd
   simpa [List.getElem?_drop]using this
  rw [←e,←this,Array.getElem?_toList]
theorem vys {c:Array Value}{j:Nat}{v:Value}(h:c[j]? = some v):(c.toList.drop (j*1)).take 1=[v]:=by
 rw [Nat.mul_one]
 have hl:j<c.toList.length:=by
  rw [Array.length_toList]
  rw [Array.getElem?_eq_some_iff]at h
  exact h.1
 rw [List.drop_eq_getElem_cons hl]
 have:c.toList[j]? = some v:=by rw [Array.getElem?_toList];exact h
 rw [List.getElem?_eq_getElem hl]at this
 rw [Option.some.inj this]
 rfl
theorem vod {P:Program}{ρ:Ren}(L:Lays.n190 P ρ) :
  vae P (ρ.f 190) (fun args st k=>va0 [.own 0] [.arr .str] args st (fun p q=>v3e q.1 (fun y=>k (.tup []) [.arr .str y])) none):=by
 intro args s k r hk
 rcases vdx hk with⟨p,q,rfl,rfl,h⟩|h
 ·obtain⟨xs,q⟩:=q
  unfold v3e at h
  split at h
  ·rename_i hc
   refine⟨_,_,h,fun X' μ w cargs inv hv=>?_⟩
   change Inv X' w.heap μ [.arr .str xs]at inv
   change RVs w.heap (Im X' w.heap μ [.arr .str xs]) μ [.arr .str xs] [.own 0] cargs at hv
   simp only [RVs,RV]at hv
   obtain⟨v,t,rfl,⟨sl,hsl,a,rfl,ha⟩,rfl⟩:=hv
   by_cases he:xs=[]
   ·subst he
    refine(Any.slices_Sort_string_none L a sl.cap w).mono ?_
    rintro e w' ⟨rfl,rfl⟩
    have e0:ve9 []=[]:=by simp [ve9]
    refine⟨_,μ,rfl,?_,?_,?_,Calm.refl _⟩
    ·simp only [e0];exact inv
    ·simp only [RV,RVs];exact⟨#[],rfl,rfl⟩
    ·simp only [e0];exact Ext.refl _ _ _ _
   ·have hreg:=inv.reg 0 sl hsl
    rcases hreg.2 with⟨_,_,h0⟩|⟨b,c,el,fr,hb,hheap,hnf,hcs,hlen,hcell⟩
    ·exact absurd h0 he
    ·have hne:xs.length≠0:=fun h0=>he (List.eq_nil_of_length_eq_zero h0)
     have hcap:sl.cap≠0:=by omega
     obtain⟨k',hk',ha'⟩:=ha.resolve_left hcap
     rw [hb]at hk'
     cases hk'
     subst ha'
     have hget:∀j (hj:j<xs.length),c[j]? = some (.string xs[j]):=fun j hj=>v0i (hcell j hj)
     have hsz:c.size=sl.cap:=by rw [hcs];simp [Ty.size]
     have hblk:b<w.heap.size:=inv.blk_lt hsl rfl (.inl hb)
     have hold:Holds encStr w b 0 (xs.map fun x=>x.data.toList).toArray:=by
      intro j hj
      have hj':j<xs.length:=by simpa using hj
      constructor
      ·unfold World.cell?
       simp only [hheap,Nat.zero_add]
       rw [hget j hj']
       simp [hj']
      ·unfold World.frozen?
       simp only [hheap,Nat.zero_add]
       exact hnf j (by omega)
     have hc2:xs.length≤1000000000:=hc
     have hm:=Any.slices_Sort_string L b 0 sl.cap (xs.map fun x=>x.data.toList) w hold hblk (by rw [List.length_map];omega)
     rw [List.length_map]at hm
     refine hm.mono ?_
     rintro e w' ⟨rfl,n,os,rfl⟩
     generalize hd:((xs.map fun x=>x.data.toList).mergeSort fun x y=>decide (x≤y))=d
     have hdl:d.length=xs.length:=by rw [←hd];simp [List.length_mergeSort]
     have hso:ve9 xs=d.map fun l=>⟨l.toArray⟩:=by unfold ve9;rw [hd]
     have hh1:(w.heap.modify b (onCells (putCells encStr 0 d.toArray)))[b]? = some (.cells (putCells encStr 0 d.toArray c) el fr):=by
      rw [Array.getElem?_modify,if_pos rfl,hheap];rfl
     have hoth:∀b',b'≠b→(w.heap.modify b (onCells (putCells encStr 0 d.toArray)))[b']? = w.heap[b']?:=fun b' hb'=>by
      rw [Array.getElem?_modify,if_neg (fun e=>hb' e.symm)]
     have hps:(putCells encStr 0 d.toArray c).size=c.size:=by simp [putCells]
     have hput:∀i (hi:i<(ve9 xs).length),(putCells encStr 0 d.toArray c)[i]? = some (.string (ve9 xs)[i]):=by
      intro i hi
      have hi':i<xs.length:=by rw [veh]at hi;exact hi
      have hic:i<c.size:=by omega
      unfold putCells
      rw [Array.getElem?_mapIdx,Array.getElem?_eq_getElem hic]
      simp only [Option.map_some,Nat.zero_le,true_and,Nat.zero_add,Nat.sub_zero,List.size_toArray,hdl,hi',if_true]
      simp only [hso,List.getElem_map]
      congr 1
      have:i<d.length:=by omega
      simp [encStr,this]
     obtain⟨i1,x1⟩:=vhb inv 0 sl b (.arr .str (ve9 xs)) (w.heap.modify b (onCells (putCells encStr 0 d.toArray))) (putCells encStr 0 d.toArray c) el fr hsl hb ⟨rfl,(veh xs).symm⟩ (by simp) hoth hh1 (by unfold vgy at hnf ⊢;rw [hps];exact hnf)
      ⟨by rw [hps];exact hcs,by rw [veh];exact hlen,fun i hi=>vys (hput i hi)⟩
     have hset:setR [Rg.arr .str xs] 0 (.arr .str (ve9 xs))=[.arr .str (ve9 xs)]:=rfl
     rw [hset]at i1 x1
     have hsize:(w.heap.modify b (onCells (putCells encStr 0 d.toArray))).size≤(w.heap.modify b (onCells (putCells encStr 0 d.toArray))++os).size:=by rw [Array.size_append];omega
     obtain⟨i2,x2⟩:=v1z i1 hsize (fun j hj=>by rw [Array.getElem?_append_left hj])
     exact⟨_,μ,rfl,i2,by simp only [RV,RVs];exact⟨#[],rfl,rfl⟩,x1.trans x2,⟨rfl,rfl,rfl⟩⟩
  ·cases h
 ·cases h
end Go.VE
