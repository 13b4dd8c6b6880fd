/- The steps of the state: a new block, a block written, a region that takes another's place, a region frozen. -/
import Derived.Test.YtaaoeehlfihjdaaGreatU2
namespace Go.VE
set_option linter.unusedVariables false
def vnq (μ:List Slot)(l:List Nat)(b:Nat):Prop:=∀r∈l,∀sl,μ[r]? = some sl→¬sl.has b
section
variable {X:Nat→Prop}{h:Heap}{μ:List Slot}{s:St}
theorem Inv.slot (inv:Inv X h μ s){r:Nat}(hr:r<s.length):∃sl,μ[r]? = some sl:=
 ⟨_,List.getElem?_eq_getElem (inv.len▸hr)⟩
theorem Inv.lt (inv:Inv X h μ s){r:Nat}{sl:Slot}(hr:μ[r]? = some sl):r<s.length:=by
 rw [←inv.len]
 rcases Nat.lt_or_ge r μ.length with h1|h1
 ·exact h1
 ·rw [List.getElem?_eq_none h1]at hr;cases hr
theorem wbz {h:Heap}{k:Nat}{o:Obj}(hk:h[k]? = some o):k<h.size:=by
 rcases Nat.lt_or_ge k h.size with h2|h2
 ·exact h2
 ·rw [Array.getElem?_eq_none h2]at hk;cases hk
theorem ArrOk.blk_obj {I:Nat→Prop}{sl:Slot}{e:Ty}{xs:List e.D}(hr:ArrOk h I sl e xs){b:Nat}(hb:sl.blk=some b):b<h.size:=by
 rcases hr.2 with⟨h2,_⟩|⟨k,c,el,fr,e',hc,_⟩
 ·rw [hb]at h2;cases h2
 ·rw [hb]at e';cases e'
  exact wbz hc
theorem DepEl.lt:∀(T:Ty) (cs:List Value) (x:T.D) (bs:List Nat),DepEl h T cs x bs→∀b∈bs,b<h.size
 |.int _,_,_,_,hr,b,hb=>by rw [hr.2]at hb;simp at hb
 |.bool,_,_,_,hr,b,hb=>by rw [hr.2]at hb;simp at hb
 |.str,_,_,_,hr,b,hb=>by rw [hr.2]at hb;simp at hb
 |.pair a c,_,_,_,⟨_,_,b1,b2,_,e2,h1,h2⟩,b,hb=>by
  rw [e2,List.mem_append]at hb
  rcases hb with hb|hb
  ·exact DepEl.lt a _ _ b1 h1 b hb
  ·exact DepEl.lt c _ _ b2 h2 b hb
 |.slice e,_,_,_,⟨_,_,sl,_,e2,_,h2⟩,b,hb=>by
  rw [e2]at hb
  simp only [Option.mem_toList]at hb
  exact h2.blk_obj hb
theorem Inv.blk_lt (inv:Inv X h μ s){r:Nat}{sl:Slot}{b:Nat}(hr:μ[r]? = some sl)(hl:(getR s r).live=true)(hb:sl.has b):b<h.size:=by
 have h1:=inv.reg r sl hr
 generalize getR s r=g at h1 hl
 cases g with
 |box cs=>
  obtain⟨hm,k,c,el,fr,e,hc,_⟩:=h1
  have hb:=Slot.has_of hm hb
  rw [hb]at e;cases e
  exact wbz hc
 |arr e xs=>exact ArrOk.blk_obj h1 (Slot.has_of h1.1 hb)
 |dep e xs n dd=>
  rcases h1 with⟨h2,_,_,h3⟩|⟨k,c,el,fr,e',hc,_,_,_,B,h3,h4,h5,h6⟩
  ·rcases hb with hb|hb
   ·rw [hb]at h2;cases h2
   ·exact absurd hb (h3 b)
  ·rcases hb with hb|hb
   ·rw [hb]at e';cases e'
    exact wbz hc
   ·exact(h3 b hb).1
 |frz e xs=>cases hl
 |gone=>cases hl
def Fills (h:Heap)(I:Nat→Prop)(μ:List Slot)(s:St)(c:Array Value)(cap:Nat):Rg→Prop
 |.box cs=>RVs h I μ s cs c.toList
 |.arr e xs=>c.size=cap*e.size∧xs.length≤cap∧∀i (hi:i<xs.length),Rep h I e ((c.toList.drop (i*e.size)).take e.size) xs[i]
 |_=>False
theorem RegOk.of_fills {h h':Heap}{I I':Nat→Prop}{μ μ':List Slot}{s s':St}{sl:Slot}{k:Nat}{c:Array Value}{el:TypeId}{fr:Nat×Nat}
  (hI:∀b,I b→I' b∧h'[b]? = h[b]?) (hv:∀a v,RV h I μ s a v→RV h' I' μ' s' a v) (hm:∀b,¬sl.more b) (hs:sl.blk=some k) (hk:h'[k]? = some (.cells c el fr)) (hn:vmq c fr) :
  ∀g:Rg,Fills h I μ s c sl.cap g→RegOk h' I' μ' s' sl g
 |.box cs,hf=>⟨hm,k,c,el,fr,hs,hk,hn,RVs.mono hI (fun a v _=>hv a v) _ _ hf⟩
 |.arr e xs,hf=>⟨hm,.inr ⟨k,c,el,fr,hs,hk,hn,hf.1,hf.2.1,fun i hi=>Rep.mono hI _ _ _ (hf.2.2 i hi)⟩⟩
 |.dep _ _ _ _,hf=>hf.elim
 |.frz _ _,hf=>hf.elim
 |.gone,hf=>hf.elim
theorem Fills.live {h:Heap}{I:Nat→Prop}{μ:List Slot}{s:St}{c:Array Value}{cap:Nat}:∀{g:Rg},Fills h I μ s c cap g→g.live=true
 |.box _,_=>rfl
 |.arr _ _,_=>rfl
 |.dep _ _ _ _,hf=>hf.elim
 |.frz _ _,hf=>hf.elim
 |.gone,hf=>hf.elim
theorem vho {α:Type}{l m:List α}{r:Nat}{a:α}(h:(l++m)[r]? = some a)(hr:r<l.length):l[r]? = some a:=by
 rwa [List.getElem?_append_left hr]at h
def OfJ (μ:List Slot)(s:St)(J:List Nat)(b:Nat):Prop:=∃q∈J,∃sl0,μ[q]? = some sl0∧(getR s q).live=true∧sl0.has b
theorem v3u {h':Heap}{I I':Nat→Prop}{μ':List Slot}{s':St}{r:Nat}(hI:∀b,I b→I' b∧h'[b]? = h[b]?)(hμ:μ'[r]? = μ[r]?)(hs:getR s' r=getR s r)
  (hb:∀sl b,μ[r]? = some sl→(getR s r).live=true→sl.has b→b<h.size→h'[b]? = h[b]?):∀a v,a.ref? = true→a.refs=[r]→RV h I μ s a v→RV h' I' μ' s' a v:=by
 intro a v ha hr hv
 cases a with
 |own q=>
  simp only [AV.refs,List.cons.injEq,and_true]at hr
  subst hr
  simp only [RV]at hv ⊢
  obtain⟨x,h1,h2⟩:=hv
  refine⟨x,hμ.trans h1,?_⟩
  rw [hs]
  revert h2
  cases getR s q with
  |box _=>exact id
  |arr _ _=>exact id
  |dep _ _ _ _=>exact id
  |frz e xs=>exact Rep.mono hI _ _ _
  |gone=>exact id
 |bp q off=>
  simp only [AV.refs,List.cons.injEq,and_true]at hr
  subst hr
  simp only [RV]at hv ⊢
  obtain⟨x,h1,h2⟩:=hv
  refine⟨x,hμ.trans h1,?_⟩
  rw [hs];exact h2
 |ep q i off=>
  simp only [AV.refs,List.cons.injEq,and_true]at hr
  subst hr
  simp only [RV]at hv ⊢
  obtain⟨x,h1,h2⟩:=hv
  refine⟨x,hμ.trans h1,?_⟩
  rw [hs];exact h2
 |win q lo=>
  simp only [AV.refs,List.cons.injEq,and_true]at hr
  subst hr
  simp only [RV]at hv ⊢
  obtain⟨x,h1,h2⟩:=hv
  refine⟨x,hμ.trans h1,?_⟩
  rw [hs];exact h2
 |dw q n i off=>
  simp only [AV.refs,List.cons.injEq,and_true]at hr
  subst hr
  simp only [RV]at hv ⊢
  obtain⟨x,h1,h2⟩:=hv
  refine⟨x,hμ.trans h1,?_⟩
  rw [hs]
  have hb':=fun b=>hb x b h1
  revert h2 hb'
  cases getR s q with
  |box _=>exact fun h2 _=>h2
  |arr _ _=>exact fun h2 _=>h2
  |frz e xs=>exact fun h2 _=>h2
  |gone=>exact fun h2 _=>h2
  |dep e xs m dd=>
   intro h2 hb'
   refine⟨h2.1,h2.2.1,fun hn=>?_⟩
   obtain⟨g1,g2,k,c,el,fr,g3,g4,g5⟩:=h2.2.2 hn
   exact⟨g1,g2,k,c,el,fr,g3,(hb' k rfl (.inl g3) (wbz g4)).trans g4,g5⟩
 |_=>cases ha
theorem v9u:∀{a:AV},a.ref? = true→∃r,a.refs=[r]
 |.own r,_=>⟨r,rfl⟩
 |.bp r _,_=>⟨r,rfl⟩
 |.ep r _ _,_=>⟨r,rfl⟩
 |.win r _,_=>⟨r,rfl⟩
 |.dw r _ _ _,_=>⟨r,rfl⟩
 |.int _ _,h=>by cases h
 |.bool _,h=>by cases h
 |.str _,h=>by cases h
 |.lst _ _,h=>by cases h
 |.nilS,h=>by cases h
 |.ip _ _ _,h=>by cases h
 |.fn _ _,h=>by cases h
 |.agg _,h=>by cases h
 |.tup _,h=>by cases h
 |.dead,h=>by cases h
theorem v3h {I:Nat→Prop}{a:AV}{v:Value}{r:Nat}(ha:a.ref? = true)(hr:a.refs=[r])(hv:RV h I μ s a v):∃sl,μ[r]? = some sl:=by
 cases a with
 |own q=>simp only [AV.refs,List.cons.injEq,and_true]at hr;subst hr;simp only [RV]at hv;obtain⟨x,h1,_⟩:=hv;exact⟨x,h1⟩
 |bp q off=>simp only [AV.refs,List.cons.injEq,and_true]at hr;subst hr;simp only [RV]at hv;obtain⟨x,h1,_⟩:=hv;exact⟨x,h1⟩
 |ep q i off=>simp only [AV.refs,List.cons.injEq,and_true]at hr;subst hr;simp only [RV]at hv;obtain⟨x,h1,_⟩:=hv;exact⟨x,h1⟩
 |win q lo=>simp only [AV.refs,List.cons.injEq,and_true]at hr;subst hr;simp only [RV]at hv;obtain⟨x,h1,_⟩:=hv;exact⟨x,h1⟩
 |dw q n i off=>simp only [AV.refs,List.cons.injEq,and_true]at hr;subst hr;simp only [RV]at hv;obtain⟨x,h1,_⟩:=hv;exact⟨x,h1⟩
 |_=>cases ha
theorem vgo (inv:Inv X h μ s)(J:List Nat){h':Heap}{μ':List Slot}{s':St}(hsz:h.size≤h'.size)(hlen:μ'.length=s'.length)(hle:s.length≤s'.length)
  (keep:∀r,r<s.length→r∉J→μ'[r]? = μ[r]?∧getR s' r=getR s r)
  (hoth:∀b,b<h.size→¬OfJ μ s J b→h'[b]? = h[b]?)
  (chg:∀r sl b,(r∈J∨s.length≤r)→μ'[r]? = some sl→(getR s' r).live=true→sl.has b→h.size≤b∨OfJ μ s J b)
  (dis':∀r r' sl sl' b,r≠r'→(r∈J∨s.length≤r)→(r'∈J∨s.length≤r')→μ'[r]? = some sl→μ'[r']? = some sl'→(getR s' r).live=true→(getR s' r').live=true→sl.has b→¬sl'.has b)
  (refs:(∀b,Im X h μ s b→Im X h' μ' s' b∧h'[b]? = h[b]?)→∀r∈J,∀a v,a.ref? = true→a.refs=[r]→RV h (Im X h μ s) μ s a v→RV h' (Im X h' μ' s') μ' s' a v)
  (reg':(∀b,Im X h μ s b→Im X h' μ' s' b∧h'[b]? = h[b]?)→(∀a v,RV h (Im X h μ s) μ s a v→RV h' (Im X h' μ' s') μ' s' a v)→
   ∀r sl,(r∈J∨s.length≤r)→μ'[r]? = some sl→RegOk h' (Im X h' μ' s') μ' s' sl (getR s' r)) :
  Inv X h' μ' s'∧Ext X h μ s h' μ' s':=by
 have hcl:∀r,(r∈J∨s.length≤r)∨(r<s.length∧r∉J):=by
  intro r
  by_cases h1:r∈J
  ·exact .inl (.inl h1)
  ·rcases Nat.lt_or_ge r s.length with h2|h2
   ·exact .inr ⟨h2,h1⟩
   ·exact .inl (.inr h2)
 have hfr:∀b,Free μ s b→¬OfJ μ s J b:=by
  rintro b hf ⟨q,_,sl0,h1,h2,h3⟩
  exact hf q sl0 h1 h2 h3
 have hnew:∀r sl b,μ'[r]? = some sl→(getR s' r).live=true→sl.has b→h.size≤b∨¬Free μ s b:=by
  intro r sl b hr hl hb
  rcases hcl r with h1|⟨h1,h2⟩
  ·rcases chg r sl b h1 hr hl hb with h3|h3
   ·exact .inl h3
   ·exact .inr fun hf=>hfr b hf h3
  ·obtain⟨k1,k2⟩:=keep r h1 h2
   exact .inr fun hf=>hf r sl (k1▸hr) (k2▸hl) hb
 have hsame:∀b,b<h.size→Free μ s b→h'[b]? = h[b]?:=fun b hb hf=>hoth b hb (hfr b hf)
 have him:∀b,Im X h μ s b→Im X h' μ' s' b∧h'[b]? = h[b]?:=fun b hb=>⟨Im.later hsz hnew hb,hsame b hb.1 hb.2.2⟩
 have hkb:∀r sl b,r<s.length→r∉J→μ[r]? = some sl→(getR s r).live=true→sl.has b→¬OfJ μ s J b:=by
  rintro r sl b hlt hn hr hl hb ⟨q,hq,sl0,h1,h2,h3⟩
  exact inv.dis r q sl sl0 b (fun e=>hn (e▸hq)) hr h1 hl h2 hb h3
 have ext:Ext X h μ s h' μ' s':=by
  refine Ext.mk' hsz hsame hnew ?_ hle
  intro a v ha hv
  obtain⟨r,hr⟩:=v9u ha
  obtain⟨sl,hsl⟩:=v3h ha hr hv
  have hlt:=inv.lt hsl
  by_cases hJ:r∈J
  ·exact refs him r hJ a v ha hr hv
  ·obtain⟨k1,k2⟩:=keep r hlt hJ
   exact v3u him k1 k2 (fun sl b h1 h2 h3 h4=>hoth b h4 (hkb r sl b hlt hJ h1 h2 h3)) a v ha hr hv
 refine⟨⟨hlen,?_,?_,?_,fun b hb=>Nat.lt_of_lt_of_le (inv.xlt b hb) hsz⟩,ext⟩
 ·intro r sl hr
  rcases hcl r with h1|⟨h1,h2⟩
  ·exact reg' him ext.rv r sl h1 hr
  ·obtain⟨k1,k2⟩:=keep r h1 h2
   rw [k1]at hr
   rw [k2]
   exact RegOk.mono him hsz ext.rv _ (fun b hl hb=>hoth b (inv.blk_lt hr hl hb) (hkb r sl b h1 h2 hr hl hb)) (inv.reg r sl hr)
 ·intro r r' sl sl' b hne hr hr' hl hl' hb
  rcases hcl r with h1|⟨h1,h2⟩<;>rcases hcl r' with h1'|⟨h1',h2'⟩
  ·exact dis' r r' sl sl' b hne h1 h1' hr hr' hl hl' hb
  ·obtain⟨k1,k2⟩:=keep r' h1' h2'
   rw [k1]at hr';rw [k2]at hl'
   intro hb'
   rcases chg r sl b h1 hr hl hb with h3|h3
   ·have:=inv.blk_lt hr' hl' hb';omega
   ·exact hkb r' sl' b h1' h2' hr' hl' hb' h3
  ·obtain⟨k1,k2⟩:=keep r h1 h2
   rw [k1]at hr;rw [k2]at hl
   intro hb'
   rcases chg r' sl' b h1' hr' hl' hb' with h3|h3
   ·have:=inv.blk_lt hr hl hb;omega
   ·exact hkb r sl b h1 h2 hr hl hb h3
  ·obtain⟨k1,k2⟩:=keep r h1 h2
   obtain⟨k1',k2'⟩:=keep r' h1' h2'
   exact inv.dis r r' sl sl' b hne (k1▸hr) (k1'▸hr') (k2▸hl) (k2'▸hl') hb
 ·intro r sl b hr hl hb
  rcases hcl r with h1|⟨h1,h2⟩
  ·rcases chg r sl b h1 hr hl hb with h3|⟨q,_,sl0,g1,g2,g3⟩
   ·intro hx;have:=inv.xlt b hx;omega
   ·exact inv.notX q sl0 b g1 g2 g3
  ·obtain⟨k1,k2⟩:=keep r h1 h2
   exact inv.notX r sl b (k1▸hr) (k2▸hl) hb
theorem vur (inv:Inv X h μ s)(sl':Slot){j:Nat}{x:Slot}(hj:(μ++[sl'])[j]? = some x):(j<s.length∧μ[j]? = some x)∨(j=s.length∧x=sl'):=by
 rcases Nat.lt_or_ge j s.length with h1|h1
 ·exact .inl ⟨h1,vho hj (inv.len▸h1)⟩
 ·have:j<(μ++[sl']).length:=by
   rcases Nat.lt_or_ge j (μ++[sl']).length with h2|h2
   ·exact h2
   ·rw [List.getElem?_eq_none h2]at hj;cases hj
  simp [inv.len]at this
  have e:j=s.length:=by omega
  subst e
  rw [←inv.len]at hj
  simp at hj
  exact .inr ⟨rfl,hj.symm⟩
theorem wby (inv:Inv X h μ s)(sl':List Slot)(g:List Rg){r:Nat}(hr:r<s.length):(μ++sl')[r]? = μ[r]?∧getR (s++g) r=getR s r:=
 ⟨List.getElem?_append_left (inv.len▸hr),vbf s g r hr⟩
theorem vjh (s:St)(g:Rg):getR (s++[g]) s.length=g:=by simpa [getR]using vcl s [g] 0
theorem vyu (inv:Inv X h μ s)(g:Rg)(sl':Slot)(h':Heap)(hsz:h.size≤h'.size)(hold:∀b,b<h.size→h'[b]? = h[b]?)(hnew:∀b,sl'.has b→h.size≤b)
  (hg:(∀b,Im X h μ s b→Im X h' (μ++[sl']) (s++[g]) b∧h'[b]? = h[b]?)→(∀a v,RV h (Im X h μ s) μ s a v→RV h' (Im X h' (μ++[sl']) (s++[g])) (μ++[sl']) (s++[g]) a v)→
   RegOk h' (Im X h' (μ++[sl']) (s++[g])) (μ++[sl']) (s++[g]) sl' g) :
  Inv X h' (μ++[sl']) (s++[g])∧Ext X h μ s h' (μ++[sl']) (s++[g]):=by
 have hat:∀r x,(r∈([]:List Nat)∨s.length≤r)→(μ++[sl'])[r]? = some x→r=s.length∧x=sl':=by
  intro r x h1 h2
  rcases vur inv sl' h2 with⟨h3,_⟩|h3
  ·rcases h1 with h1|h1
   ·simp at h1
   ·omega
  ·exact h3
 refine vgo inv [] hsz (by simp [inv.len]) (by simp) (fun r hr _=>wby inv _ _ hr) (fun b hb _=>hold b hb) ?_ ?_ ?_ ?_
 ·intro r x b h1 h2 _ hb
  obtain⟨_,rfl⟩:=hat r x h1 h2
  exact .inl (hnew b hb)
 ·intro r r' x x' b hne h1 h1' h2 h2'
  exact absurd ((hat r x h1 h2).1.trans (hat r' x' h1' h2').1.symm) hne
 ·intro _ r hr;simp at hr
 ·intro him hrv r x h1 h2
  obtain⟨rfl,rfl⟩:=hat r x h1 h2
  rw [vjh]
  exact hg him hrv
theorem v0r (inv:Inv X h μ s)(g:Rg)(c:Array Value)(el:TypeId)(fr:Nat×Nat)(cap:Nat)(hn:vmq c fr)
  (hg:Fills h (Im X h μ s) μ s c cap g) :
  Inv X (h.push (.cells c el fr)) (μ++[{ blk:=some h.size,cap:=cap }]) (s++[g])∧Ext X h μ s (h.push (.cells c el fr)) (μ++[{ blk:=some h.size,cap:=cap }]) (s++[g]):=by
 refine vyu inv g _ _ (by simp) (fun b hb=>by rw [Array.getElem?_push];simp [Nat.ne_of_lt hb]) (fun b hb=>by have:=Slot.has_mk hb;omega) ?_
 intro him hrv
 exact RegOk.of_fills (sl:={ blk:=some h.size,cap:=cap }) him hrv (fun _ hx=>hx) rfl (k:=h.size) (c:=c) (el:=el) (fr:=fr) (by simp) hn g hg
theorem wb2 {b:Nat}(hb:(Slot.mk none 0 (fun _=>False)).has b):False:=by
 rcases hb with hb|hb
 ·cases hb
 ·exact hb
theorem vmz (inv:Inv X h μ s)(e:Ty) :
  Inv X h (μ++[{ blk:=none,cap:=0 }]) (s++[.arr e []])∧Ext X h μ s h (μ++[{ blk:=none,cap:=0 }]) (s++[.arr e []]):=
 vyu inv _ _ _ (Nat.le_refl _) (fun _ _=>rfl) (fun b hb=>(wb2 hb).elim) (fun _ _=>⟨fun _ hx=>hx,.inl ⟨rfl,rfl,rfl⟩⟩)
theorem vhv (inv:Inv X h μ s)(e:Ty) :
  Inv X h (μ++[{ blk:=none,cap:=0 }]) (s++[.dep e [] 0 []])∧Ext X h μ s h (μ++[{ blk:=none,cap:=0 }]) (s++[.dep e [] 0 []]):=
 vyu inv _ _ _ (Nat.le_refl _) (fun _ _=>rfl) (fun b hb=>(wb2 hb).elim) (fun _ _=>.inl ⟨rfl,rfl,rfl,fun _ hx=>hx⟩)
def Alike:Rg→Rg→Prop
 |.box _,.box _=>True
 |.arr e xs,.arr e' xs'=>e=e'∧xs.length=xs'.length
 |_,_=>False
theorem Alike.cases:∀{g g':Rg},Alike g g'→(∃cs cs',g = .box cs∧g' = .box cs')∨∃e xs xs',g = .arr e xs∧g' = .arr e xs'∧xs.length=xs'.length
 |.box cs,.box cs',_=>.inl ⟨cs,cs',rfl,rfl⟩
 |.arr e xs,.arr _ xs',⟨rfl,hl⟩=>.inr ⟨e,xs,xs',rfl,rfl,hl⟩
theorem vsf (inv:Inv X h μ s){r:Nat}{sl:Slot}(g:Rg)(hr:μ[r]? = some sl){j:Nat}(hne:j∉[r]):getR (setR s r g) j=getR s j:=by
 rw [vbg s r j g (inv.lt hr),if_neg (by simpa using hne)]
theorem J1 {r j n:Nat}{x:Slot}{μ:List Slot}(hlen:μ.length=n)(h1:j∈[r]∨n≤j)(h2:μ[j]? = some x):j=r:=by
 rcases h1 with h1|h1
 ·simpa using h1
 ·rw [List.getElem?_eq_none (by omega)]at h2;cases h2
theorem vsh (inv:Inv X h μ s)(r:Nat)(sl:Slot)(k:Nat)(g:Rg)(h':Heap)(c:Array Value)(el:TypeId)(fr:Nat×Nat)
  (hr:μ[r]? = some sl) (hk:sl.blk=some k) (hal:Alike (getR s r) g) (hsz:h'.size=h.size) (hoth:∀b,b≠k→h'[b]? = h[b]?)
  (hkk:h'[k]? = some (.cells c el fr)) (hn:vmq c fr) (hg:Fills h (Im X h μ s) μ s c sl.cap g) :
  Inv X h' μ (setR s r g)∧Ext X h μ s h' μ (setR s r g):=by
 have hlt:=inv.lt hr
 have hlive:(getR s r).live=true:=by
  revert hal;cases getR s r<;>cases g<;>simp [Alike,Rg.live]
 have hmore:∀b,¬sl.more b:=by
  have:=inv.reg r sl hr
  rcases hal.cases with⟨cs,cs',e1,_⟩|⟨e0,xs,xs',e1,_,_⟩
  ·rw [e1]at this;exact this.1
  ·rw [e1]at this;exact this.1
 have hself:getR (setR s r g) r=g:=by rw [vbg s r r g hlt,if_pos rfl]
 refine vgo inv [r] (Nat.le_of_eq hsz.symm) (by rw [vap];exact inv.len) (by rw [vap];exact Nat.le_refl _) (fun j _ hj=>⟨rfl,vsf inv g hr hj⟩) ?_ ?_ ?_ ?_ ?_
 ·intro b _ hb
  refine hoth b fun e=>hb ⟨r,by simp,sl,hr,hlive,.inl (e▸hk)⟩
 ·intro j x b h1 h2 _ hb
  have:=J1 inv.len h1 h2
  subst this
  exact .inr ⟨j,by simp,x,h2,hlive,hb⟩
 ·intro j j' x x' b hne h1 h1' h2 h2'
  exact absurd ((J1 inv.len h1 h2).trans (J1 inv.len h1' h2').symm) hne
 ·intro him q hq a v ha har hv
  have:q=r:=by simpa using hq
  subst this
  cases a with
  |own j=>
   simp only [AV.refs,List.cons.injEq,and_true]at har
   subst har
   simp only [RV]at hv ⊢
   obtain⟨x,h1,h2⟩:=hv
   refine⟨x,h1,?_⟩
   rw [hself]
   rcases hal.cases with⟨cs,cs',e1,e2⟩|⟨e0,xs,xs',e1,e2,e3⟩
   ·rw [e1]at h2;exact h2.elim
   ·rw [e1]at h2;rw [e2]
    obtain⟨a,ha,hb⟩:=h2
    exact⟨a,e3▸ha,hb⟩
  |bp j off=>
   simp only [AV.refs,List.cons.injEq,and_true]at har
   subst har
   simp only [RV]at hv ⊢
   obtain⟨x,h1,h2⟩:=hv
   refine⟨x,h1,?_⟩
   rw [hself]
   rcases hal.cases with⟨cs,cs',e1,e2⟩|⟨e0,xs,xs',e1,e2,e3⟩
   ·rw [e1]at h2;rw [e2];exact h2
   ·rw [e1]at h2;exact h2.elim
  |ep j i off=>
   simp only [AV.refs,List.cons.injEq,and_true]at har
   subst har
   simp only [RV]at hv ⊢
   obtain⟨x,h1,h2⟩:=hv
   refine⟨x,h1,?_⟩
   rw [hself]
   rcases hal.cases with⟨cs,cs',e1,e2⟩|⟨e0,xs,xs',e1,e2,e3⟩
   ·rw [e1]at h2;exact h2.elim
   ·rw [e1]at h2;rw [e2];exact⟨e3▸h2.1,h2.2⟩
  |win j lo=>
   simp only [AV.refs,List.cons.injEq,and_true]at har
   subst har
   simp only [RV]at hv ⊢
   obtain⟨x,h1,h2⟩:=hv
   refine⟨x,h1,?_⟩
   rw [hself]
   rcases hal.cases with⟨cs,cs',e1,e2⟩|⟨e0,xs,xs',e1,e2,e3⟩
   ·rw [e1]at h2;exact h2.elim
   ·rw [e1]at h2;rw [e2]
    simp only [←e3];exact h2
  |dw j n i off=>
   simp only [AV.refs,List.cons.injEq,and_true]at har
   subst har
   simp only [RV]at hv ⊢
   obtain⟨x,h1,h2⟩:=hv
   refine⟨x,h1,?_⟩
   rw [hself]
   rcases hal.cases with⟨cs,cs',e1,e2⟩|⟨e0,xs,xs',e1,e2,e3⟩
   ·rw [e1]at h2;exact h2.elim
   ·rw [e1]at h2;rw [e2];exact h2
  |_=>cases ha
 ·intro him hrv j x h1 h2
  have:=J1 inv.len h1 h2
  subst this
  rw [hself]
  rw [hr]at h2;cases h2
  exact RegOk.of_fills him hrv hmore hk hkk hn g hg
def Rg.isArr:Rg→Bool
 |.arr _ _=>true
 |.dep _ _ _ _=>true
 |_=>false
def Rg.isDep:Rg→Bool
 |.dep _ _ _ _=>true
 |_=>false
theorem Rg.isArr_live {g:Rg}(h:g.isArr=true):g.live=true:=by cases g<;>first|rfl|cases h
theorem vop {h':Heap}{I I':Nat→Prop}{μ':List Slot}{s':St}{r:Nat}(hμ:∃sl',μ'[r]? = some sl')(hs:(getR s r).isArr=true)(hs':getR s' r = .gone) :
  ∀a v,a.ref? = true→a.refs=[r]→RV h I μ s a v→RV h' I' μ' s' a v:=by
 obtain⟨sl',hμ⟩:=hμ
 intro a v ha hr hv
 cases a with
 |own q=>
  simp only [AV.refs,List.cons.injEq,and_true]at hr
  subst hr
  simp only [RV]at hv ⊢
  obtain⟨x,h1,h2⟩:=hv
  refine⟨sl',hμ,?_⟩
  rw [hs']
  revert h2 hs
  cases getR s q with
  |box _=>intro hs;cases hs
  |arr _ _=>rintro _ ⟨a0,rfl,_⟩;rfl
  |dep _ _ _ _=>rintro _ ⟨a0,rfl,_⟩;rfl
  |frz e xs=>intro hs;cases hs
  |gone=>intro hs;cases hs
 |bp q off=>
  simp only [AV.refs,List.cons.injEq,and_true]at hr
  subst hr
  simp only [RV]at hv ⊢
  obtain⟨x,h1,h2⟩:=hv
  exfalso
  revert h2 hs
  cases getR s q with
  |box _=>intro hs;cases hs
  |arr _ _=>exact fun _ h2=>h2
  |dep _ _ _ _=>exact fun _ h2=>h2
  |frz e xs=>intro hs;cases hs
  |gone=>intro hs;cases hs
 |ep q i off=>
  simp only [AV.refs,List.cons.injEq,and_true]at hr
  subst hr
  simp only [RV]at hv ⊢
  obtain⟨x,h1,h2⟩:=hv
  refine⟨sl',hμ,?_⟩
  rw [hs']
  revert h2 hs
  cases getR s q with
  |box _=>intro hs;cases hs
  |arr _ _=>rintro _ ⟨_,k0,_,rfl⟩;rfl
  |dep _ _ _ _=>rintro _ ⟨_,k0,_,rfl⟩;rfl
  |frz e xs=>intro hs;cases hs
  |gone=>intro hs;cases hs
 |win q lo=>
  simp only [AV.refs,List.cons.injEq,and_true]at hr
  subst hr
  simp only [RV]at hv ⊢
  obtain⟨x,h1,h2⟩:=hv
  refine⟨sl',hμ,?_⟩
  rw [hs']
  revert h2 hs
  cases getR s q with
  |box _=>intro hs;cases hs
  |arr _ _=>rintro _ ⟨_,a0,rfl,_⟩;rfl
  |dep _ _ _ _=>rintro _ ⟨_,a0,rfl,_⟩;rfl
  |frz e xs=>intro hs;cases hs
  |gone=>intro hs;cases hs
 |dw q n i off=>
  simp only [AV.refs,List.cons.injEq,and_true]at hr
  subst hr
  simp only [RV]at hv ⊢
  obtain⟨x,h1,h2⟩:=hv
  refine⟨sl',hμ,?_⟩
  rw [hs']
  revert h2 hs
  cases getR s q with
  |box _=>intro hs;cases hs
  |arr _ _=>exact fun _ h2=>h2
  |dep _ _ _ _=>exact fun _ h2=>h2.1
  |frz e xs=>intro hs;cases hs
  |gone=>intro hs;cases hs
 |_=>cases ha
theorem vu2 (inv:Inv X h μ s)(r:Nat)(sl sl':Slot)(k:Nat)(g:Rg)(h':Heap)(c:Array Value)(el:TypeId)(fr:Nat×Nat)
  (hr:μ[r]? = some sl) (harr:∃e xs,getR s r = .arr e xs) (hm:∀b,¬sl'.more b) (hk:sl'.blk=some k) (hwh:sl.blk=some k∨k=h.size) (hsz:h.size≤h'.size)
  (hoth:∀b,b<h.size→b≠k→h'[b]? = h[b]?)
  (hkk:h'[k]? = some (.cells c el fr)) (hn:vmq c fr) (hg:Fills h (Im X h μ s) μ s c sl'.cap g) :
  Inv X h' (μ++[sl']) (setR s r .gone++[g])∧Ext X h μ s h' (μ++[sl']) (setR s r .gone++[g]):=by
 have hlt:=inv.lt hr
 have hlive:(getR s r).live=true:=by obtain⟨e,xs,he⟩:=harr;rw [he];rfl
 have hlen:(setR s r .gone).length=s.length:=vap _ _ _
 have hget:∀j,j<s.length→getR (setR s r .gone++[g]) j=if j=r then .gone else getR s j:=fun j hj=>by
  rw [vbf _ _ _ (hlen▸hj),vbg s r j _ hlt]
 have hgn:getR (setR s r .gone++[g]) s.length=g:=by rw [←hlen];exact vjh _ _
 have hgr:getR (setR s r .gone++[g]) r = .gone:=by rw [hget r hlt,if_pos rfl]
 have hat:∀j x,(j∈[r]∨s.length≤j)→(μ++[sl'])[j]? = some x→(j=r∧x=sl)∨(j=s.length∧x=sl'):=by
  intro j x h1 h2
  rcases vur inv sl' h2 with⟨h3,h4⟩|h3
  ·rcases h1 with h1|h1
   ·have:j=r:=by simpa using h1
    subst this
    rw [hr]at h4;cases h4
    exact .inl ⟨rfl,rfl⟩
   ·omega
  ·exact .inr h3
 refine vgo inv [r] hsz (by simp [hlen,inv.len]) (by simp [hlen]) ?_ ?_ ?_ ?_ ?_ ?_
 ·intro j hj hn
  refine⟨List.getElem?_append_left (inv.len▸hj),?_⟩
  rw [hget j hj,if_neg (by simpa using hn)]
 ·intro b hb hno
  rcases hwh with h1|h1
  ·exact hoth b hb fun e=>hno ⟨r,by simp,sl,hr,hlive,.inl (e▸h1)⟩
  ·exact hoth b hb (by omega)
 ·intro j x b h1 h2 hl hb
  rcases hat j x h1 h2 with⟨rfl,rfl⟩|⟨rfl,rfl⟩
  ·rw [hgr]at hl;cases hl
  ·have hb:=Slot.has_of hm hb
   rw [hk]at hb;cases hb
   rcases hwh with h3|h3
   ·exact .inr ⟨r,by simp,sl,hr,hlive,.inl h3⟩
   ·exact .inl (by omega)
 ·intro j j' x x' b hne h1 h1' h2 h2' hl hl'
  rcases hat j x h1 h2 with⟨rfl,rfl⟩|⟨rfl,rfl⟩
  ·rw [hgr]at hl;cases hl
  ·rcases hat j' x' h1' h2' with⟨rfl,rfl⟩|⟨rfl,rfl⟩
   ·rw [hgr]at hl';cases hl'
   ·exact absurd rfl hne
 ·intro him q hq a v ha har hv
  have:q=r:=by simpa using hq
  subst this
  refine vop ⟨sl,by rw [List.getElem?_append_left (inv.len▸hlt)];exact hr⟩ ?_ hgr a v ha har hv
  obtain⟨e,xs,he⟩:=harr
  rw [he];rfl
 ·intro him hrv j x h1 h2
  rcases hat j x h1 h2 with⟨rfl,rfl⟩|⟨rfl,rfl⟩
  ·rw [hgr];trivial
  ·rw [hgn]
   exact RegOk.of_fills him hrv hm hk hkk hn g hg
theorem vic {I I':Nat→Prop}{e:Ty}{xs:List e.D}{sl:Slot}{v:Value}(hreg:ArrOk h I sl e xs)(hI:∀b,I b→I' b)
  (hb:∀k,sl.blk=some k→I' k) (hv:∃a,v = .slice a xs.length sl.cap∧(sl.cap=0∨∃k,sl.blk=some k∧a=some ⟨k,0,none⟩)):Rep h I' (.slice e) [v] xs:=by
 obtain⟨a,rfl,ha⟩:=hv
 obtain⟨_,hreg⟩:=hreg
 refine⟨a,sl.cap,rfl,?_,?_⟩
 ·rcases hreg with⟨_,h0,h1⟩|⟨k,c,el,fr,_,_,_,_,h2,_⟩
  ·rw [h1];exact Nat.zero_le _
  ·exact h2
 rcases hreg with⟨_,_,h0⟩|⟨k,c,el,fr,hk,hc,hf,h1,h2,h3⟩
 ·exact .inl h0
 ·rcases ha with ha|⟨k',hk',ha⟩
  ·left
   have:xs.length=0:=by omega
   simpa using this
  ·rw [hk]at hk';cases hk'
   refine .inr ⟨k,0,ha,hb k hk,fun i hi=>⟨(c.toList.drop (i*e.size)).take e.size,⟨c,el,fr,hc,?_⟩,Rep.mono (fun b hb=>⟨hI b hb,rfl⟩) _ _ _ (h3 i hi)⟩⟩
   intro j v hj
   rw [List.getElem?_take]at hj
   split at hj
   ·rw [List.getElem?_drop]at hj
    rw [Nat.zero_add,←Array.getElem?_toList];exact hj
   ·cases hj
theorem DepEl.rep {I':Nat→Prop}:∀(T:Ty) (cs:List Value) (x:T.D) (bs:List Nat),DepEl h T cs x bs→(∀b∈bs,I' b)→Rep h I' T cs x
 |.int _,_,_,_,hr,_=>hr.1
 |.bool,_,_,_,hr,_=>hr.1
 |.str,_,_,_,hr,_=>hr.1
 |.pair a b,_,_,_,⟨c,d,b1,b2,e1,e2,h1,h2⟩,hb=>⟨c,d,e1,DepEl.rep a c _ b1 h1 (fun b hm=>hb b (by rw [e2];exact List.mem_append_left _ hm)),
   DepEl.rep b d _ b2 h2 (fun b hm=>hb b (by rw [e2];exact List.mem_append_right _ hm))⟩
 |.slice e,_,_,_,⟨_,v,sl,e1,e2,h1,h2⟩,hb=>by
  rw [e1]
  exact vic h2 (fun _ hx=>hx.elim) (fun k hk=>hb k (by rw [e2,hk];simp)) h1
theorem DepOk.arr {I':Nat→Prop}{e:Ty}{xs:List e.D}{sl:Slot}(hreg:DepOk h sl e xs [])(hb:∀b,sl.more b→I' b):ArrOk h I' ⟨sl.blk,sl.cap,fun _=>False⟩ e xs:=by
 refine⟨fun _ hx=>hx,?_⟩
 rcases hreg with⟨h1,h2,h3,_⟩|⟨k,c,el,fr,hk,hc,hf,h1,h2,B,h3,h4,h5,h6⟩
 ·exact .inl ⟨h1,h2,h3⟩
 ·exact .inr ⟨k,c,el,fr,hk,hc,hf,h1,h2,fun i hi=>DepEl.rep _ _ _ _ (h6 i hi rfl) fun b hm=>hb b ((h4 i hi).2 b hm)⟩
theorem vsk {I':Nat→Prop}{e:Ty}{xs:List e.D}{sl:Slot}{v:Value}(hreg:DepOk h sl e xs [])
  (hb:∀k,sl.has k→I' k) (hv:∃a,v = .slice a xs.length sl.cap∧(sl.cap=0∨∃k,sl.blk=some k∧a=some ⟨k,0,none⟩)):Rep h I' (.slice e) [v] xs:=
 vic (sl:=⟨sl.blk,sl.cap,fun _=>False⟩) (hreg.arr (fun b hm=>hb b (.inr hm))) (fun b hx=>hx) (fun k hk=>hb k (.inl hk)) hv
theorem wdr (inv:Inv X h μ s)(r:Nat)(e:Ty)(xs:List e.D)(hg:getR s r = .arr e xs∨∃n,getR s r = .dep e xs n []) :
  Inv X h μ (setR s r (.frz e xs))∧Ext X h μ s h μ (setR s r (.frz e xs)):=by
 have hisArr:(getR s r).isArr=true:=by
  rcases hg with hg|⟨n,hg⟩<;>rw [hg]<;>rfl
 have hlive:=Rg.isArr_live hisArr
 have hlt:r<s.length:=vbo rfl (by intro e0;rw [e0]at hlive;cases hlive)
 obtain⟨sl,hr⟩:=inv.slot hlt
 have hself:getR (setR s r (.frz e xs)) r = .frz e xs:=by rw [vbg s r r _ hlt,if_pos rfl]
 have hne:∀j,j≠r→getR (setR s r (.frz e xs)) j=getR s j:=fun j hj=>by rw [vbg s r j _ hlt,if_neg hj]
 refine vgo inv [r] (Nat.le_refl _) (by rw [vap];exact inv.len) (by rw [vap];exact Nat.le_refl _) (fun j _ hj=>⟨rfl,vsf inv _ hr hj⟩) (fun _ _ _=>rfl) ?_ ?_ ?_ ?_
 ·intro j x b h1 h2 hl
  have:=J1 inv.len h1 h2
  subst this
  rw [hself]at hl;cases hl
 ·intro j j' x x' b hne h1 h1' h2 h2'
  exact absurd ((J1 inv.len h1 h2).trans (J1 inv.len h1' h2').symm) hne
 ·intro him q hq a v ha har hv
  have:q=r:=by simpa using hq
  subst this
  have himk:∀b,sl.has b→Im X h μ (setR s q (.frz e xs)) b:=by
   intro b hb
   refine⟨inv.blk_lt hr hlive hb,inv.notX q sl b hr hlive hb,?_⟩
   intro j x hj hl hb'
   by_cases e0:j=q
   ·subst e0;rw [hself]at hl;cases hl
   ·rw [hne j e0]at hl
    exact inv.dis j q x sl b e0 hj hr hl hlive hb' hb
  cases a with
  |own j=>
   simp only [AV.refs,List.cons.injEq,and_true]at har
   subst har
   simp only [RV]at hv ⊢
   obtain⟨x,h1,h2⟩:=hv
   rw [hr]at h1;cases h1
   refine⟨sl,hr,?_⟩
   rw [hself]
   have hreg:=inv.reg j sl hr
   rcases hg with hg|⟨n,hg⟩
   ·rw [hg]at h2 hreg
    exact vic hreg (fun b hb=>(him b hb).1) (fun k hk=>himk k (.inl hk)) h2
   ·rw [hg]at h2 hreg
    exact vsk hreg himk h2
  |bp j off=>
   simp only [AV.refs,List.cons.injEq,and_true]at har
   subst har
   simp only [RV]at hv ⊢
   obtain⟨x,h1,h2⟩:=hv
   exfalso
   rcases hg with hg|⟨n,hg⟩<;>(rw [hg]at h2;exact h2)
  |ep j i off=>
   simp only [AV.refs,List.cons.injEq,and_true]at har
   subst har
   simp only [RV]at hv ⊢
   obtain⟨x,h1,h2⟩:=hv
   refine⟨x,h1,?_⟩
   rw [hself]
   rcases hg with hg|⟨n,hg⟩<;>(rw [hg]at h2;obtain⟨_,k0,_,rfl⟩:=h2;rfl)
  |win j lo=>
   simp only [AV.refs,List.cons.injEq,and_true]at har
   subst har
   simp only [RV]at hv ⊢
   obtain⟨x,h1,h2⟩:=hv
   refine⟨x,h1,?_⟩
   rw [hself]
   rcases hg with hg|⟨n,hg⟩<;>(rw [hg]at h2;obtain⟨_,a0,rfl,_⟩:=h2;rfl)
  |dw j n i off=>
   simp only [AV.refs,List.cons.injEq,and_true]at har
   subst har
   simp only [RV]at hv ⊢
   obtain⟨x,h1,h2⟩:=hv
   refine⟨x,h1,?_⟩
   rw [hself]
   rcases hg with hg|⟨m,hg⟩
   ·rw [hg]at h2;exact h2
   ·rw [hg]at h2;exact h2.1
  |_=>cases ha
 ·intro him hrv j x h1 h2
  have:=J1 inv.len h1 h2
  subst this
  rw [hself];trivial
theorem vi0 (inv:Inv X h μ s)(r:Nat)(he:(getR s r).isArr=true):Inv X h μ (setR s r .gone)∧Ext X h μ s h μ (setR s r .gone):=by
 have hlive:=Rg.isArr_live he
 have hlt:r<s.length:=vbo rfl (by intro e0;rw [e0]at hlive;cases hlive)
 obtain⟨sl,hr⟩:=inv.slot hlt
 have hself:getR (setR s r .gone) r = .gone:=by rw [vbg s r r _ hlt,if_pos rfl]
 refine vgo inv [r] (Nat.le_refl _) (by rw [vap];exact inv.len) (by rw [vap];exact Nat.le_refl _) (fun j _ hj=>⟨rfl,vsf inv _ hr hj⟩) (fun _ _ _=>rfl) ?_ ?_ ?_ ?_
 ·intro j x b h1 h2 hl
  have:=J1 inv.len h1 h2
  subst this
  rw [hself]at hl;cases hl
 ·intro j j' x x' b hne h1 h1' h2 h2'
  exact absurd ((J1 inv.len h1 h2).trans (J1 inv.len h1' h2').symm) hne
 ·intro him q hq a v ha har hv
  have:q=r:=by simpa using hq
  subst this
  exact vop ⟨sl,hr⟩ he hself a v ha har hv
 ·intro him hrv j x h1 h2
  have:=J1 inv.len h1 h2
  subst this
  rw [hself];trivial
theorem vm1 (inv:Inv X h μ s)(r:Nat):Inv X h μ (vgc s r)∧Ext X h μ s h μ (vgc s r):=by
 unfold vgc
 split
 ·rename_i e xs he
  exact wdr inv r e xs (.inl he)
 ·rename_i e xs n he
  exact wdr inv r e xs (.inr ⟨n,he⟩)
 ·rename_i e xs n d0 dd he
  exact vi0 inv r (by rw [he];rfl)
 ·exact⟨inv,Ext.refl _ _ _ _⟩
theorem vp6:∀(l:List Nat) {s:St} (inv:Inv X h μ s),Inv X h μ (vei s l)∧Ext X h μ s h μ (vei s l)
 |[],s,inv=>⟨inv,Ext.refl _ _ _ _⟩
 |r::l,s,inv=>by
  obtain⟨i1,e1⟩:=vm1 inv r
  obtain⟨i2,e2⟩:=vp6 l i1
  exact⟨i2,e1.trans e2⟩
theorem wgt (inv:Inv X h μ s)(r:Nat)(e:Ty)(xs:List e.D)(n:Nat)(hg:getR s r = .dep e xs n []) :
  ∃μ',Inv X h μ' (setR s r (.arr e xs))∧Ext X h μ s h μ' (setR s r (.arr e xs))∧(∀(j:Nat) (sl':Slot),μ'[j]? = some sl'→∃sl:Slot,μ[j]? = some sl∧sl'.blk=sl.blk∧sl'.cap=sl.cap∧∀b,sl'.has b→sl.has b)∧∀j,j≠r→μ'[j]? = μ[j]?:=by
 have hlive:(getR s r).live=true:=by rw [hg];rfl
 have hlt:r<s.length:=vbo rfl (by intro e0;rw [e0]at hlive;cases hlive)
 obtain⟨sl,hr⟩:=inv.slot hlt
 have hlm:r<μ.length:=by rw [inv.len];exact hlt
 have hself:getR (setR s r (.arr e xs)) r = .arr e xs:=by rw [vbg s r r _ hlt,if_pos rfl]
 have hne:∀j,j≠r→getR (setR s r (.arr e xs)) j=getR s j:=fun j hj=>by rw [vbg s r j _ hlt,if_neg hj]
 have hlen':(μ.set r ⟨sl.blk,sl.cap,fun _=>False⟩).length=s.length:=by rw [List.length_set];exact inv.len
 have hset:∀j x,(μ.set r ⟨sl.blk,sl.cap,fun _=>False⟩)[j]? = some x→(j=r∧x=⟨sl.blk,sl.cap,fun _=>False⟩)∨(j≠r∧μ[j]? = some x):=by
  intro j x hj
  by_cases e0:j=r
  ·subst e0
   rw [List.getElem?_set_self hlm]at hj
   cases hj;exact .inl ⟨rfl,rfl⟩
  ·rw [List.getElem?_set_ne (fun h=>e0 h.symm)]at hj
   exact .inr ⟨e0,hj⟩
 have hsr:(μ.set r ⟨sl.blk,sl.cap,fun _=>False⟩)[r]? = some ⟨sl.blk,sl.cap,fun _=>False⟩:=List.getElem?_set_self hlm
 have hreg:=inv.reg r sl hr
 rw [hg]at hreg
 have himk:∀b,sl.more b→Im X h (μ.set r ⟨sl.blk,sl.cap,fun _=>False⟩) (setR s r (.arr e xs)) b:=by
  intro b hb
  refine⟨inv.blk_lt hr hlive (.inr hb),inv.notX r sl b hr hlive (.inr hb),?_⟩
  intro j x hj hl hb'
  rcases hset j x hj with⟨rfl,rfl⟩|⟨h1,h2⟩
  ·rcases hb' with hb'|hb'
   ·rcases hreg with⟨_,_,_,g4⟩|⟨k,c,el,fr,g1,_,_,_,_,B,g2,g3,_⟩
    ·exact g4 b hb
    ·have hb':sl.blk=some b:=hb'
     rw [g1]at hb';cases hb'
     exact(g2 _ hb).2 rfl
   ·exact hb'
  ·rw [hne j h1]at hl
   exact inv.dis j r x sl b h1 h2 hr hl hlive hb' (.inr hb)
 refine⟨μ.set r ⟨sl.blk,sl.cap,fun _=>False⟩,?_⟩
 rw [←and_assoc]
 refine⟨?_,?_⟩
 ·refine vgo inv [r] (Nat.le_refl _) (by rw [vap];exact hlen') (by rw [vap];exact Nat.le_refl _) ?_ (fun _ _ _=>rfl) ?_ ?_ ?_ ?_
  ·intro j _ hj
   refine⟨List.getElem?_set_ne (fun e0=>hj (by simp [e0])),vsf inv _ hr hj⟩
  ·intro j x b h1 h2 hl hb
   have:=J1 hlen' h1 h2
   subst this
   refine .inr ⟨j,by simp,sl,hr,hlive,?_⟩
   rw [hsr]at h2;cases h2
   rcases hb with hb|hb
   ·exact .inl hb
   ·exact hb.elim
  ·intro j j' x x' b hne h1 h1' h2 h2'
   exact absurd ((J1 hlen' h1 h2).trans (J1 hlen' h1' h2').symm) hne
  ·intro him q hq a v ha har hv
   have:q=r:=by simpa using hq
   subst this
   cases a with
   |own j=>
    simp only [AV.refs,List.cons.injEq,and_true]at har
    subst har
    simp only [RV]at hv ⊢
    obtain⟨x,h1,h2⟩:=hv
    rw [hr]at h1;cases h1
    refine⟨_,hsr,?_⟩
    rw [hself]
    rw [hg]at h2
    exact h2
   |bp j off=>
    simp only [AV.refs,List.cons.injEq,and_true]at har
    subst har
    simp only [RV]at hv ⊢
    obtain⟨x,h1,h2⟩:=hv
    rw [hg]at h2;exact h2.elim
   |ep j i off=>
    simp only [AV.refs,List.cons.injEq,and_true]at har
    subst har
    simp only [RV]at hv ⊢
    obtain⟨x,h1,h2⟩:=hv
    rw [hr]at h1;cases h1
    refine⟨_,hsr,?_⟩
    rw [hself]
    rw [hg]at h2
    exact h2
   |win j lo=>
    simp only [AV.refs,List.cons.injEq,and_true]at har
    subst har
    simp only [RV]at hv ⊢
    obtain⟨x,h1,h2⟩:=hv
    rw [hr]at h1;cases h1
    refine⟨_,hsr,?_⟩
    rw [hself]
    rw [hg]at h2
    exact h2
   |dw j n i off=>
    simp only [AV.refs,List.cons.injEq,and_true]at har
    subst har
    simp only [RV]at hv ⊢
    obtain⟨x,h1,h2⟩:=hv
    refine⟨_,hsr,?_⟩
    rw [hself]
    rw [hg]at h2
    exact h2.1
   |_=>cases ha
  ·intro him hrv j x h1 h2
   have:=J1 hlen' h1 h2
   subst this
   rw [hself]
   rw [hsr]at h2;cases h2
   exact DepOk.arr hreg himk
 ·refine⟨?_,fun j hj=>List.getElem?_set_ne (fun e0=>hj e0.symm)⟩
  intro j x hj
  rcases hset j x hj with⟨rfl,rfl⟩|⟨h1,h2⟩
  ·refine⟨sl,hr,rfl,rfl,fun b hb=>?_⟩
   rcases hb with hb|hb
   ·exact .inl hb
   ·exact hb.elim
  ·exact⟨x,h2,rfl,rfl,fun _ hb=>hb⟩
end
end Go.VE
