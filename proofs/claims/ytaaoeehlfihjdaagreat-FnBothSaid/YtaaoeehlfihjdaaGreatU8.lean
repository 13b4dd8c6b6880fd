/- The program's types; cells that are read and written. -/
import Derived.Test.YtaaoeehlfihjdaaGreatU7
import Derived.Laws.Cells
import Derived.Laws.IdiomCopy
import Derived.Laws.Append
import Derived.Laws.BytesString
namespace Go.VE
set_option linter.unusedVariables false
set_option linter.unusedSimpArgs false
def Ty.zv:Ty→List Value
 |.int k=>[.int k 0]
 |.bool=>[.bool false]
 |.str=>[.string ⟨#[]⟩]
 |.pair a b=>a.zv++b.zv
 |.slice _=>[.slice none 0 0]
def zval:Bool→Ty→Value
 |true,T=>.agg T.zv.toArray
 |false,T=>T.zv.headD undef
def vm3 (P:Program)(t:TypeId)(ag:Bool)(T:Ty):Prop:=
 ∃i,P.info? t=some i∧i.size=T.size∧i.bytes≤16384∧i.zero=some (zval ag T)
def TyOk (P:Program):Ty→TypeId→Bool→Prop
 |.int k,t,ag=>vm3 P t ag (.int k)∧ag=false∧P.underlying t=some (.int k)
 |.bool,t,ag=>vm3 P t ag .bool∧ag=false∧P.underlying t=some .bool
 |.str,t,ag=>vm3 P t ag .str∧ag=false∧P.underlying t=some .string
 |.pair a b,t,ag=>vm3 P t ag (.pair a b)∧ag=true∧∃fs,P.underlying t=some (.struct fs)
 |.slice e,t,ag=>vm3 P t ag (.slice e)∧ag=false∧∃te ag',P.underlying t=some (.slice te)∧TyOk P e te ag'
def TyOk1 (P:Program)(T:Ty)(t:TypeId)(ag:Bool):Prop:=
 TyOk P T t ag∨(ag=true∧vm3 P t true T∧∃fs,P.underlying t=some (.struct fs))
def wr7 (P:Program)(t f off:Nat)(ag:Bool)(T:Ty):Prop:=
 ∃fs fd,P.underlying t=some (.struct fs)∧fs[f]? = some fd∧fd.offset=off∧TyOk1 P T fd.type ag
structure TysOk (P:Program) (G:Glob):Prop where
 ty:∀t ag T,G.ty t=some (ag,T)→TyOk1 P T t ag
 fld:∀t f off ag T,G.fld t f=some (off,ag,T)→wr7 P t f off ag T
 bld:∀t T,G.ty t=some (true,T)→∃fs:Array Field,P.underlying t=some (.struct fs)∧∀i fd,fs[i]? = some fd→∃off ag T',G.fld t i=some (off,ag,T')
section
variable {P:Program}{T:Ty}{t:TypeId}{ag:Bool}
theorem TyOk.info:∀{T:Ty} {t:TypeId} {ag:Bool},TyOk P T t ag→vm3 P t ag T
 |.int _,_,_,h=>h.1
 |.bool,_,_,h=>h.1
 |.str,_,_,h=>h.1
 |.pair _ _,_,_,h=>h.1
 |.slice _,_,_,h=>h.1
theorem TyOk1.info (h:TyOk1 P T t ag):vm3 P t ag T:=by
 rcases h with h|⟨rfl,h,_⟩
 ·exact h.info
 ·exact h
theorem vcc (h:vm3 P t ag T)(w:World):(sizeOf t).run P w = .ok T.size w:=by
 obtain⟨i,h1,h2,_⟩:=h
 simp [sizeOf,typeInfo,h1,h2]
theorem vcp (h:vm3 P t ag T)(w:World):(zeroValue t).run P w = .ok (zval ag T) w:=by
 obtain⟨i,h1,h2,_,h3⟩:=h
 simp [zeroValue,typeInfo,h1,h3]
theorem vlb (h:TyOk1 P T t ag)(w:World):(isAgg t).run P w = .ok ag w:=by
 rcases h with h|⟨rfl,_,fs,hu⟩
 ·cases T with
  |int k=>obtain⟨_,rfl,hu⟩:=h;simp [isAgg,run_underlying hu]
  |bool=>obtain⟨_,rfl,hu⟩:=h;simp [isAgg,run_underlying hu]
  |str=>obtain⟨_,rfl,hu⟩:=h;simp [isAgg,run_underlying hu]
  |pair a b=>obtain⟨_,rfl,fs,hu⟩:=h;simp [isAgg,run_underlying hu]
  |slice e=>obtain⟨_,rfl,te,ag',hu,_⟩:=h;simp [isAgg,run_underlying hu]
 ·simp [isAgg,run_underlying hu]
theorem TyOk1.under (h:TyOk1 P T t ag):∃d,P.underlying t=some d:=by
 rcases h with h|⟨rfl,_,fs,hu⟩
 ·cases T with
  |int k=>exact⟨_,h.2.2⟩
  |bool=>exact⟨_,h.2.2⟩
  |str=>exact⟨_,h.2.2⟩
  |pair a b=>obtain⟨_,rfl,fs,hu⟩:=h;exact⟨_,hu⟩
  |slice e=>obtain⟨_,rfl,te,ag',hu,_⟩:=h;exact⟨_,hu⟩
 ·exact⟨_,hu⟩
theorem vda:∀T:Ty,T.zv.length=T.size
 |.int _=>rfl
 |.bool=>rfl
 |.str=>rfl
 |.pair a b=>by simp [Ty.zv,Ty.size,vda a,vda b]
 |.slice _=>rfl
theorem vdw (h:TyOk1 P T t ag):(zval ag T).cells.toList=T.zv:=by
 rcases h with h|⟨rfl,_,_⟩
 ·cases T with
  |int k=>obtain⟨_,rfl,_⟩:=h;rfl
  |bool=>obtain⟨_,rfl,_⟩:=h;rfl
  |str=>obtain⟨_,rfl,_⟩:=h;rfl
  |pair a b=>obtain⟨_,rfl,_⟩:=h;simp [zval,Value.cells]
  |slice e=>obtain⟨_,rfl,_⟩:=h;rfl
 ·simp [zval,Value.cells]
end
section
variable {X:Nat→Prop}{μ:List Slot}{s:St}{h:Heap}{I:Nat→Prop}
theorem vlp:∀T:Ty,RVs h I μ s T.zcells T.zv
 |.int _=>by simp only [Ty.zcells,Ty.zv,RVs,RV];exact⟨_,[],rfl,rfl,rfl⟩
 |.bool=>by simp only [Ty.zcells,Ty.zv,RVs,RV];exact⟨_,[],rfl,rfl,rfl⟩
 |.str=>by simp only [Ty.zcells,Ty.zv,RVs,RV];exact⟨_,[],rfl,rfl,rfl⟩
 |.pair a b=>vex _ _ _ _ (vlp a) (vlp b)
 |.slice _=>by simp only [Ty.zcells,Ty.zv,RVs,RV];exact⟨_,[],rfl,⟨none,rfl⟩,rfl⟩
theorem vrm:∀T:Ty,T.zcells.length=T.size
 |.int _=>rfl
 |.bool=>rfl
 |.str=>rfl
 |.pair a b=>by simp [Ty.zcells,Ty.size,vrm a,vrm b]
 |.slice _=>rfl
theorem vlx:∀T:Ty,Rep h I T T.zv T.zero
 |.int _=>rfl
 |.bool=>rfl
 |.str=>rfl
 |.pair a b=>⟨a.zv,b.zv,rfl,vlx a,vlx b⟩
 |.slice _=>⟨none,0,rfl,Nat.le_refl _,.inl rfl⟩
theorem Rep.one {h:Heap}{I:Nat→Prop}:∀(T:Ty) (cs:List Value) (x:T.D),Rep h I T cs x→∀v∈cs,v.oneCell'=true
 |.int _,_,_,hr,v,hv=>by rw [show _=_ from hr]at hv;simp at hv;subst hv;rfl
 |.bool,_,_,hr,v,hv=>by rw [show _=_ from hr]at hv;simp at hv;subst hv;rfl
 |.str,_,_,hr,v,hv=>by rw [show _=_ from hr]at hv;simp at hv;subst hv;rfl
 |.pair a b,_,_,⟨c,d,e,h1,h2⟩,v,hv=>by
  rw [e,List.mem_append]at hv
  rcases hv with hv|hv
  ·exact Rep.one a c _ h1 v hv
  ·exact Rep.one b d _ h2 v hv
 |.slice _,_,_,⟨_,_,e,_⟩,v,hv=>by rw [e]at hv;simp at hv;subst hv;rfl
theorem v1w:∀{a:AV} {v:Value},a.okCell=true→RV h I μ s a v→v.oneCell'=true:=by
 intro a v ha hv
 cases a with
 |int k n=>simp only [RV]at hv;subst hv;rfl
 |bool b=>simp only [RV]at hv;subst hv;rfl
 |str t=>simp only [RV]at hv;subst hv;rfl
 |lst e xs=>simp only [RV]at hv;exact Rep.one _ _ _ hv v (by simp)
 |nilS=>simp only [RV]at hv;obtain⟨a,rfl⟩:=hv;rfl
 |own r=>
  simp only [RV]at hv
  obtain⟨sl,_,h2⟩:=hv
  revert h2
  cases getR s r with
  |box _=>exact False.elim
  |arr _ _=>rintro⟨a,rfl,_⟩;rfl
  |dep _ _ _ _=>rintro⟨a,rfl,_⟩;rfl
  |frz e xs=>intro h2;exact Rep.one _ _ _ h2 v (by simp)
  |gone=>exact id
 |bp b off=>
  simp only [RV]at hv
  obtain⟨sl,_,h2⟩:=hv
  revert h2
  cases getR s b with
  |box _=>rintro⟨k,_,rfl⟩;rfl
  |arr _ _=>exact False.elim
  |dep _ _ _ _=>exact False.elim
  |frz e xs=>exact False.elim
  |gone=>exact False.elim
 |ep r i off=>
  simp only [RV]at hv
  obtain⟨sl,_,h2⟩:=hv
  revert h2
  cases getR s r with
  |box _=>exact False.elim
  |arr _ _=>rintro⟨_,k,_,rfl⟩;rfl
  |dep _ _ _ _=>rintro⟨_,k,_,rfl⟩;rfl
  |frz e xs=>exact id
  |gone=>exact id
 |win r lo=>
  simp only [RV]at hv
  obtain⟨sl,_,h2⟩:=hv
  revert h2
  cases getR s r with
  |box _=>exact False.elim
  |arr _ _=>rintro⟨_,a,rfl,_⟩;rfl
  |dep _ _ _ _=>rintro⟨_,a,rfl,_⟩;rfl
  |frz e xs=>exact id
  |gone=>exact id
 |dw r n i off=>
  simp only [RV]at hv
  obtain⟨sl,_,h2⟩:=hv
  revert h2
  cases getR s r with
  |box _=>exact False.elim
  |arr _ _=>exact id
  |dep _ _ _ _=>exact fun h2=>h2.1
  |frz e xs=>exact id
  |gone=>exact id
 |ip T x off=>simp only [RV]at hv;obtain⟨b,o,cs,_,_,_,rfl⟩:=hv;rfl
 |fn f caps=>simp only [RV]at hv;obtain⟨vs,rfl,_⟩:=hv;rfl
 |agg cs=>simp [AV.okCell]at ha
 |tup cs=>simp [AV.okCell]at ha
 |dead=>simp [AV.okCell]at ha
theorem vxg:∀{as:List AV} {vs:List Value},vn0 as=true→RVs h I μ s as vs→∀v∈vs,v.oneCell'=true
 |[],vs,_,hv,v,hm=>by simp only [RVs]at hv;subst hv;simp at hm
 |a::as,vs,ha,hv,v,hm=>by
  simp only [vn0,Bool.and_eq_true]at ha
  simp only [RVs]at hv
  obtain⟨u,r,rfl,h1,h2⟩:=hv
  simp only [List.mem_cons]at hm
  rcases hm with rfl|hm
  ·exact v1w ha.1 h1
  ·exact vxg ha.2 h2 v hm
theorem cells?_rv {a:AV}{cs:List AV}{v:Value}(ha:a.cells? = some cs)(hv:RV h I μ s a v):RVs h I μ s cs v.cells.toList∧vn0 cs=true:=by
 have key:a.okCell=true→cs=[a]→RVs h I μ s cs v.cells.toList∧vn0 cs=true:=by
  intro hok e
  have h1:=v1w hok hv
  subst e
  refine⟨?_,by simp [vn0,hok]⟩
  have:v.cells = #[v]:=by cases v<;>first|rfl|(simp [Value.oneCell']at h1)
  rw [this]
  simp only [RVs]
  exact⟨v,[],rfl,hv,rfl⟩
 cases a with
 |agg l=>
  simp only [AV.cells?]at ha
  cases ho:vn0 l with
  |true=>
   rw [ho]at ha;cases ha
   simp only [RV]at hv
   obtain⟨vs,rfl,hs⟩:=hv
   exact⟨hs,ho⟩
  |false=>rw [ho]at ha;cases ha
 |tup l=>simp [AV.cells?]at ha
 |dead=>simp [AV.cells?]at ha
 |_=>simp only [AV.cells?,Option.some.injEq]at ha;exact key rfl ha.symm
theorem v50 {off n:Nat}{cs cs':List AV}{vs:List Value}(hc:cut off n cs=some cs')(hv:RVs h I μ s cs vs) :
  RVs h I μ s cs' ((vs.drop off).take n)∧((vs.drop off).take n).length=n:=by
 unfold cut at hc
 split at hc
 ·rename_i hle
  cases hc
  refine⟨v29 _ _ _ (v44 _ _ _ hv),?_⟩
  have:=vci _ _ hv
  simp;omega
 ·cases hc
theorem vq6 {off:Nat}{new cs cs':List AV}{ns vs:List Value}(hc:vlo off new cs=some cs')(hn:RVs h I μ s new ns)(hv:RVs h I μ s cs vs) :
  RVs h I μ s cs' (vs.take off++ns++vs.drop (off+ns.length))∧off+ns.length≤vs.length:=by
 have l1:=vci _ _ hv
 have l2:=vci _ _ hn
 unfold vlo at hc
 split at hc
 ·rename_i hle
  cases hc
  rw [l2]
  exact⟨vex _ _ _ _ (vex _ _ _ _ (v29 _ _ _ hv) hn) (v44 _ _ _ hv),by omega⟩
 ·cases hc
theorem vgz (l:List Value)(i n j:Nat)(v:Value)(h:((l.drop i).take n)[j]? = some v):l[i+j]? = some v:=by
 rw [List.getElem?_take]at h
 split at h
 ·rwa [List.getElem?_drop]at h
 ·cases h
theorem vgr {α:Type}{xs:List α}{i:Nat}(d:α)(h:i<xs.length):xs.getD i d=xs[i]:=by
 simp [List.getD,List.getElem?_eq_getElem h]
theorem DepEl.one:∀(T:Ty) (cs:List Value) (x:T.D) (bs:List Nat),DepEl h T cs x bs→∀v∈cs,v.oneCell'=true:=
 fun T cs x bs hr=>Rep.one T cs x (hr.rep (I':=fun _=>True) _ _ _ _ (fun _ _=>trivial))
theorem depCells_rv' {r m i k:Nat}{e0:Ty}{xs:List e0.D}{sl:Slot}{c:Array Value}{el:TypeId}{fr:Nat×Nat}{dd:List Nat}(hr:μ[r]? = some sl)(hg:getR s r = .dep e0 xs m dd)(hi:i<xs.length)(hdi:hasD dd i=false)(hk:sl.blk=some k)(hc:h[k]? = some (.cells c el fr)) :
  ∀(T:Ty) (p:Nat) (cs:List Value) (x:T.D) (bs:List Nat),DepEl h T cs x bs→(∀j,T.isSl j=true→e0.isSl (p+j)=true)→(∀j v,cs[j]? = some v→c[i*e0.size+(p+j)]? = some v)→
   ∀(tl:List AV) (vt:List Value),RVs h I μ s (val r m i (p+T.size) tl) vt→RVs h I μ s (val r m i p (T.cells x++tl)) (cs++vt)
 |.int q,p,cs,x,bs,hd,hp,hcs,tl,vt,ht=>by
  rw [hd.1]
  simp only [Ty.cells,List.cons_append,List.nil_append,val,RVs,RV]
  exact⟨_,vt,rfl,rfl,ht⟩
 |.bool,p,cs,x,bs,hd,hp,hcs,tl,vt,ht=>by
  rw [hd.1]
  simp only [Ty.cells,List.cons_append,List.nil_append,val,RVs,RV]
  exact⟨_,vt,rfl,rfl,ht⟩
 |.str,p,cs,x,bs,hd,hp,hcs,tl,vt,ht=>by
  rw [hd.1]
  simp only [Ty.cells,List.cons_append,List.nil_append,val,RVs,RV]
  exact⟨_,vt,rfl,rfl,ht⟩
 |.pair a b,p,cs,x,bs,⟨c1,c2,b1,b2,q1,q2,h1,h2⟩,hp,hcs,tl,vt,ht=>by
  have hl:=DepEl.length _ _ _ _ h1
  simp only [Ty.size]at ht
  rw [q1]
  simp only [Ty.cells,List.append_assoc]
  refine depCells_rv' hr hg hi hdi hk hc a p c1 x.1 b1 h1 (fun j hj=>hp j (by
   have:=voc hj
   simp only [Ty.isSl]
   have h0:Nat.blt j a.size=true:=by rw [Nat.blt_eq];exact this
   rw [h0];exact hj)) (fun j v hj=>hcs j v (by rw [q1,List.getElem?_append_left (List.getElem?_eq_some_iff.1 hj).1];exact hj)) _ _ ?_
  refine depCells_rv' hr hg hi hdi hk hc b (p+a.size) c2 x.2 b2 h2 (fun j hj=>by
   rw [Nat.add_assoc]
   refine hp _ ?_
   simp only [Ty.isSl]
   have:Nat.blt (a.size+j) a.size=false:=by
    cases h0:Nat.blt (a.size+j) a.size with
    |false=>rfl
    |true=>rw [Nat.blt_eq]at h0;omega
   rw [this,Nat.add_sub_cancel_left];exact hj) (fun j v hj=>?_) _ _ (by rw [Nat.add_assoc];exact ht)
  have:=hcs (c1.length+j) v (by rw [q1,List.getElem?_append_right (by omega),Nat.add_sub_cancel_left];exact hj)
  rw [hl]at this
  rw [Nat.add_assoc];exact this
 |.slice e,p,cs,x,bs,⟨hf,v,sl',q1,q2,h1,h2⟩,hp,hcs,tl,vt,ht=>by
  have hv:=hcs 0 v (by rw [q1];rfl)
  rw [q1]
  simp only [Ty.cells,List.cons_append,List.nil_append,val,RVs]
  refine⟨v,vt,rfl,?_,ht⟩
  simp only [RV]
  refine⟨sl,hr,?_⟩
  rw [hg]
  refine⟨?_,Nat.le_refl _,fun _=>⟨hi,hp 0 rfl,k,c,el,fr,hk,hc,hv,hdi⟩⟩
  obtain⟨a,rfl,_⟩:=h1
  rfl
theorem depCells_rv {r m i k:Nat}{e:Ty}{xs:List e.D}{sl:Slot}{c:Array Value}{el:TypeId}{fr:Nat×Nat}{B:List Nat}{dd:List Nat}(hr:μ[r]? = some sl)(hg:getR s r = .dep e xs m dd)(hi:i<xs.length)(hdi:hasD dd i=false)(hk:sl.blk=some k)
  (hc:h[k]? = some (.cells c el fr)) (hd:DepEl h e ((c.toList.drop (i*e.size)).take e.size) xs[i] B):RVs h I μ s (val r m i 0 (e.cells xs[i])) ((c.toList.drop (i*e.size)).take e.size):=by
 have:=depCells_rv' (I:=I) hr hg hi hdi hk hc e 0 _ _ _ hd (fun j hj=>by rw [Nat.zero_add];exact hj) (fun j v hj=>by
  have:=vgz _ _ _ _ _ hj
  rw [Array.getElem?_toList]at this
  rw [Nat.zero_add];exact this) [] [] (by simp only [val,RVs])
 simpa using this
theorem vej (r m i:Nat):∀(p:Nat) (l:List AV),(val r m i p l).length=l.length
 |_,[]=>rfl
 |p,a::l=>by cases a<;>simp [val,vej r m i (p+1) l]
theorem vnx (inv:Inv X h μ s){a:AV}{n:Nat}{cs:List AV}{v:Value}(hl:vht s a n=some cs)(hda:vo5 s a=false)(hv:RV h (Im X h μ s) μ s a v) :
  ∃b o c el fr vs,v = .pointer (some ⟨b,o,none⟩)∧h[b]? = some (.cells c el fr)∧vs.length=n∧RVs h (Im X h μ s) μ s cs vs∧∀j u,vs[j]? = some u→c[o+j]? = some u:=by
 unfold vht at hl
 split at hl
 ·rename_i b off
  simp only [RV]at hv
  obtain⟨sl,h1,h2⟩:=hv
  have hreg:=inv.reg b sl h1
  cases hg:getR s b with
  |box l=>
   rw [hg]at hl h2 hreg
   simp only at hl
   obtain⟨_,k,c,el,fr,e1,e2,e3,e4⟩:=hreg
   obtain⟨k',e1',rfl⟩:=h2
   rw [e1]at e1';cases e1'
   obtain⟨g1,g2⟩:=v50 hl e4
   refine⟨_,off,c,el,fr,_,rfl,e2,g2,g1,?_⟩
   intro j u hj
   have:=vgz _ _ _ _ _ hj
   rwa [Array.getElem?_toList]at this
  |_=>rw [hg]at hl;cases hl
 ·rename_i r i off
  simp only [RV]at hv
  obtain⟨sl,h1,h2⟩:=hv
  have hreg:=inv.reg r sl h1
  cases hg:getR s r with
  |arr e xs=>
   rw [hg]at hl h2 hreg
   simp only at hl
   obtain⟨hi,k',e1',rfl⟩:=h2
   rcases hreg.2 with⟨h0,_⟩|⟨k,c,el,fr,e1,e2,e3,e4,e5,e6⟩
   ·rw [h0]at e1';cases e1'
   ·rw [e1]at e1';cases e1'
    rw [vgr _ hi]at hl
    obtain⟨g1,g2⟩:=v50 hl (vjq (μ:=μ) (s:=s) e xs[i] _ (e6 i hi))
    refine⟨_,_,c,el,fr,_,rfl,e2,g2,g1,?_⟩
    intro j u hj
    have h3:=vgz _ _ _ _ _ hj
    have h4:=vgz _ _ _ _ _ h3
    rw [Array.getElem?_toList]at h4
    rw [show i*e.size+off+j=i*e.size+(off+j) by omega];exact h4
  |dep e xs m dd=>
   rw [hg]at hl h2 hreg
   simp only at hl
   obtain⟨hi,k',e1',rfl⟩:=h2
   rcases hreg with⟨h0,_⟩|⟨k,c,el,fr,e1,e2,e3,e4,e5,B,e6,e7,e8,e9⟩
   ·rw [h0]at e1';cases e1'
   ·rw [e1]at e1';cases e1'
    rw [vgr _ hi]at hl
    have hdd:hasD dd i=false:=by simpa only [vo5,hg]using hda
    obtain⟨g1,g2⟩:=v50 hl (depCells_rv (I:=Im X h μ s) h1 hg hi hdd e1 e2 (e9 i hi hdd))
    refine⟨_,_,c,el,fr,_,rfl,e2,g2,g1,?_⟩
    intro j u hj
    have h3:=vgz _ _ _ _ _ hj
    have h4:=vgz _ _ _ _ _ h3
    rw [Array.getElem?_toList]at h4
    rw [show i*e.size+off+j=i*e.size+(off+j) by omega];exact h4
  |_=>rw [hg]at hl;cases hl
 ·rename_i T x off
  simp only [RV]at hv
  obtain⟨b,o,cs',hb,⟨c,el,fr,e1,e2⟩,hx,rfl⟩:=hv
  obtain⟨g1,g2⟩:=v50 hl (vjq (μ:=μ) (s:=s) T x _ hx)
  refine⟨b,_,c,el,fr,_,rfl,e1,g2,g1,?_⟩
  intro j u hj
  have:=e2 _ _ (vgz _ _ _ _ _ hj)
  rw [show o+off+j=o+(off+j) by omega];exact this
 ·cases hl
theorem vnt {w:World}{b o:Nat}{c:Array Value}{el:TypeId}{fr:Nat×Nat}(hb:w.heap[b]? = some (.cells c el fr)):w.cell? ⟨b,o,none⟩=c[o]?:=by
 simp [World.cell?,hb]
theorem vja (b o n:Nat):(⟨b,o,none⟩:Addr).add n=⟨b,o+n,none⟩:=by
 unfold Addr.add;split<;>simp_all
theorem vdc {P:Program}{w:World}{b o:Nat}{c:Array Value}{el:TypeId}{fr:Nat×Nat}{vs:List Value}(hb:w.heap[b]? = some (.cells c el fr))
  (hv:∀j u,vs[j]? = some u→c[o+j]? = some u):(loadCells ⟨b,o,none⟩ vs.length).run P w = .ok vs.toArray w:=
 run_loadCells_list w _ vs fun j u hj=>by rw [vja,vnt hb];exact hv j u hj
theorem vkz {P:Program}{w:World}{T:Ty}{t:TypeId}{ag:Bool}{b o:Nat}{c:Array Value}{el:TypeId}{fr:Nat×Nat}{vs:List Value}{cs:List AV}{a:AV}
  (ht:TyOk1 P T t ag) (hb:w.heap[b]? = some (.cells c el fr)) (hl:vs.length=T.size) (hv:∀j u,vs[j]? = some u→c[o+j]? = some u)
  (hr:RVs h I μ s cs vs) (ho:vfa ag cs=some a):∃cv,(loadVar t ⟨b,o,none⟩).run P w = .ok cv w∧RV h I μ s a cv:=by
 unfold loadVar
 cases ag with
 |true=>
  simp only [vfa,Option.some.injEq]at ho
  subst ho
  have:=vdc (P:=P) hb hv
  rw [hl]at this
  refine⟨.agg vs.toArray,by simp [vlb ht,vcc ht.info,this],?_⟩
  simp only [RV]
  exact⟨_,rfl,by simpa using hr⟩
 |false=>
  cases cs with
  |nil=>simp [vfa]at ho
  |cons x l=>
   cases l with
   |cons y l=>simp [vfa]at ho
   |nil=>
    simp only [vfa,Option.some.injEq]at ho
    subst ho
    simp only [RVs]at hr
    obtain⟨u,r,rfl,h1,rfl⟩:=hr
    have:=hv 0 u (by simp)
    refine⟨u,?_,h1⟩
    simp only [Nat.add_zero]at this
    simp [vlb ht,vnt hb,this]
end
end Go.VE
