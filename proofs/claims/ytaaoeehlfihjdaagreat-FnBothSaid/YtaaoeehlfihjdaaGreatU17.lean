/- Every operation that is carried out is sound. -/
import Derived.Test.YtaaoeehlfihjdaaGreatU16
namespace Go.VE
set_option linter.unusedVariables false
set_option linter.unusedSimpArgs false
def veh (G:Glob):Op→Bool
 |.move _=>true
 |.assign _=>true
 |.pick _ _ _=>true
 |.build _ _=>true
 |.load _ _=>true
 |.nilCheck _=>true
 |.binOp _ _ _ _ _=>true
 |.unOp _ _ _=>true
 |.makeFunc _ _ _=>true
 |.fieldAddr _ _ _=>true
 |.field _ _ _=>true
 |.indexAddr _ _ _=>true
 |.index _ _ _=>true
 |.extract _ _=>true
 |.convert src _ _=>match G.ty src with
  |some (_,.slice _)=>false
  |_=>true
 |.slice t _ _ _ _=>match G.ty t with
  |some (false,.str)=>true
  |_=>false
 |.call c=>match c.callee with
  |.builtin b=>vud b
  |_=>false
 |_=>false
def wv3 (s:St)(n:Nat)(cs:List AV):List Nat:=
 match vq5 cs with
 |some (r,j)=>match getR s r with
  |.dep e ys m dd=>bif Nat.beq n 1 then(match van s r m j 0 cs with
   |some _=>[r]
   |none=>[])else []
  |_=>[]
 |none=>[]
def vsc (G:Glob)(o:Op)(e:Env)(s:St):List Nat:=
 match o with
 |.store _ a _=>(ev e a).refs
 |.buildSlice t n parts=>match G.ty t with
  |some (false,.slice el)=>match vx6 (parts.toList.map fun p=>(p.1,ev e p.2)) (fun i=>some (i*el.size,el.size)) (vel n el.zcells)with
   |some cs=>bif G.deep&&el.deep then(match van s s.length 0 0 0 cs with
    |some _=>[]
    |none=>wv3 s n cs)else []
   |none=>[]
  |_=>[]
 |.call c=>match c.callee with
  |.builtin b=>tchB s b (evs e c.args.toList)
  |.value f=>match ev e f with
   |.fn g caps=>vl7 G g c.argTypes.toList (evs e c.args.toList) caps s
   |_=>[]
  |_=>[]
 |_=>[]
def v22 (s:St):List Nat→Bool
 |[]=>true
 |r::l=>(Nat.ble s.length r||(getR s r).live)&&v22 s l
def qFar (o:Op)(e:Env)(s:St)(wr:List Nat):Bool:=
 match wr with
 |[]=>true
 |_=>match o with
  |.load _ x=>vlr wr (ev e x)&&v22 s wr
  |_=>true
theorem vni {s:St}:∀{l:List Nat},v22 s l=true→∀r∈l,r<s.length→(getR s r).live=true
 |[],_,r,hr,_=>by simp at hr
 |a::l,h,r,hr,hlt=>by
  simp only [v22,Bool.and_eq_true,Bool.or_eq_true]at h
  simp only [List.mem_cons]at hr
  rcases hr with rfl|hr
  ·exact h.1.resolve_left (fun hb=>by have:=Nat.le_of_ble_eq_true hb;omega)
  ·exact vni h.2 r hr hlt
section
variable {P:Program}{G:Glob}{s:St}
def Done (P:Program)(G:Glob)(o:Oper)(e:Env)(s:St)(k:K1)(r:Res):Prop:=
 ∃v s',k v s'=some r∧OpOk P o e s (vsc G o.op e s) v s'∧(veh G o.op=true→s'=s∧∀wr,qFar o.op e s wr=true→OpQ P o e s wr v)
theorem Done.quiet {o:Oper}{e:Env}{k:K1}{r:Res}{v:AV}(hk:k v s=some r)(ht:vsc G o.op e s=[])(hq:∀wr,qFar o.op e s wr=true→OpQ P o e s wr v):Done P G o e s k r:=
 ⟨v,s,hk,by rw [ht];exact(hq [] rfl).ok,fun _=>⟨rfl,hq⟩⟩
theorem Done.loud {o:Oper}{e:Env}{k:K1}{r:Res}{v:AV}{s':St}(hk:k v s'=some r)(hq:veh G o.op=false)(h:OpOk P o e s (vsc G o.op e s) v s'):Done P G o e s k r:=
 ⟨v,s',hk,h,fun hh=>by rw [hq]at hh;cases hh⟩
theorem v67 {o:Oper}{e:Env}{op:BinOp}{t t':TypeId}{x y:Operand}{isB:Bool}{K:AV→Option Res}{r:Res}(ho:o.op = .binOp op t x y t')
  (hb:isB=true→TyOk1 P .bool t false) (hk:binA isB op (ev e x) (ev e y) K=some r):∃v,K v=some r∧∀wr,OpQ P o e s wr v:=by
 unfold binA at hk
 split at hk
 ·rename_i k a k' b hx hy
  split at hk
  ·exact vv0 ho hx hy hk
  ·exact vv0 ho hx hy hk
  ·split at hk
   ·rename_i hkk
    subst hkk
    exact wmk ho hx hy hk
   ·cases hk
 ·rename_i a b hx hy
  exact wkm ho hx hy hk
 ·rename_i a b hx hy
  split at hk
  ·exact⟨_,hk,fun wr=>v1c ho (hb rfl) hx hy (.inl ⟨rfl,rfl⟩)⟩
  ·exact⟨_,hk,fun wr=>v1c ho (hb rfl) hx hy (.inr ⟨rfl,rfl⟩)⟩
  ·cases hk
 ·cases hk
theorem OpOk.more {o:Oper}{e:Env}{v:AV}{s':St}{tch:List Nat}(h:OpOk P o e s [] v s'):OpOk P o e s tch v s':=by
 intro X μ w a inv he next Q hn
 exact h X μ w a inv he next Q fun cv w' μ' h1 h2 h3 h4 h5 h6=>hn cv w' μ' h1 h2 h3 (fun b hb _=>h4 b hb (by intro r hr;simp at hr)) h5 ⟨fun r hr _ _=>h6.1 r hr (by simp) (by simp),fun r hr _ hd=>h6.2 r hr (by simp) (fun hh=>⟨by simp,(hd hh).2⟩)⟩
theorem w2q {e:Env}{lo:Option Operand}{d l:Int}(h:(match lo.map (ev e)with|none=>some d|some (.int _ n)=>some n|_=>none)=some l):bnd e lo d=some l:=by
 unfold bnd
 exact h
theorem v9y {o:Oper}{e:Env}{t:TypeId}{x:Operand}{lo hi:Option Operand}{T:Ty}{k:K1}{r:Res}(ho:o.op = .slice t x lo hi none)(ht:TyOk1 P T t false)
  (hk:sliceA T s (ev e x) (lo.map (ev e)) (hi.map (ev e)) k=some r):∃v s',k v s'=some r∧OpOk P o e s [] v s'∧(T = .str→s'=s∧∀wr,OpQ P o e s wr v):=by
 unfold sliceA at hk
 split at hk
 ·cases hk
 ·rename_i l hl
  split at hk
  ·rename_i b hx
   split at hk
   ·cases hk
   ·rename_i u hu
    split at hk
    ·rename_i hc
     have hq:∀wr,OpQ P o e s wr _:=fun wr=>v56 ho ht hx hl hu hc.1 hc.2.1 hc.2.2
     exact⟨_,_,hk,(hq []).ok,fun _=>⟨rfl,hq⟩⟩
    ·cases hk
  ·rename_i T' el xs hx
   split at hk
   ·rename_i hsz
    split at hk
    ·cases hk
    ·rename_i u hu
     split at hk
     ·rename_i hc
      refine⟨_,_,hk,vp9 ho ht hsz s (fun X h μ inv=>⟨inv,Ext.refl _ _ _ _⟩) ?_ hl hu hc.1 hc.2.1 hc.2.2,fun hh=>by cases hh⟩
      intro X μ w a inv he
      have g:=vbi he x
      rw [hx]at g
      simpa only [RV]using g
     ·cases hk
   ·cases hk
  ·rename_i T' q hx
   split at hk
   ·rename_i el xs hg
    split at hk
    ·rename_i hsz
     split at hk
     ·rename_i hlo hhi
      split at hk
      ·rename_i hc
       cases lo with
       |none=>cases hlo
       |some y=>
        cases hi with
        |some z=>cases hhi
        |none=>
         have hy:∃kk,ev e y = .int kk l:=by
          simp only [Option.map_some]at hl
          split at hl
          ·rename_i hh;cases hh
          ·rename_i kk n hh;cases hl;exact⟨kk,by simpa using hh⟩
          ·cases hl
         obtain⟨kk,hy⟩:=hy
         exact⟨_,_,hk,v65 ho ht hsz hx hg hy hc.1 hc.2,fun hh=>by cases hh⟩
      ·cases hk
     ·rename_i kk u hlo hhi
      split at hk
      ·rename_i hc
       cases lo with
       |some y=>cases hlo
       |none=>
        cases hi with
        |none=>cases hhi
        |some z=>
         exact⟨_,_,hk,v2o ho ht hsz hx hg (by simpa using hhi) hc.1 hc.2,fun hh=>by cases hh⟩
      ·cases hk
     split at hk
     ·cases hk
     ·rename_i u hu
      split at hk
      ·rename_i hc
       have hfr:vgc s q=setR s q (.frz el xs):=by unfold vgc;rw [hg]
       refine⟨_,_,hk,vp9 ho ht hsz _ (fun X h μ inv=>by rw [←hfr];exact vm1 inv q) ?_ hl hu hc.1 hc.2.1 hc.2.2,fun hh=>by cases hh⟩
       intro X μ w a inv he
       have g:=vbi he x
       rw [hx]at g
       obtain⟨i1,e1⟩:=vm1 inv q
       have g2:=e1.rv _ _ g
       rw [hfr]at g2
       simp only [RV]at g2
       obtain⟨sl,_,h2⟩:=g2
       rw [vbg _ _ _ _ (vbo hg (by simp)),if_pos rfl]at h2
       exact h2
      ·cases hk
    ·cases hk
   ·rename_i el xs m dd hg
    split at hk
    ·rename_i hsz
     split at hk
     ·rename_i hlo hhi
      split at hk
      ·rename_i hc
       cases lo with
       |none=>cases hlo
       |some y=>
        cases hi with
        |some z=>cases hhi
        |none=>
         have hy:∃kk,ev e y = .int kk l:=by
          simp only [Option.map_some]at hl
          split at hl
          ·rename_i hh;cases hh
          ·rename_i kk n hh;cases hl;exact⟨kk,by simpa using hh⟩
          ·cases hl
         obtain⟨kk,hy⟩:=hy
         exact⟨_,_,hk,v4u ho ht hsz hx hg hy hc.1 hc.2,fun hh=>by cases hh⟩
      ·cases hk
     ·rename_i kk u hlo hhi
      split at hk
      ·rename_i hc
       cases hgd:geD u.toNat dd with
       |false=>rw [hgd]at hk;cases hk
       |true=>
       rw [hgd]at hk
       simp only [cond_true]at hk
       cases lo with
       |some y=>cases hlo
       |none=>
        cases hi with
        |none=>cases hhi
        |some z=>
         exact⟨_,_,hk,vzd ho ht hsz hx hg (by simpa using hhi) hc.1 hc.2 hgd,fun hh=>by cases hh⟩
      ·cases hk
     ·cases hk
    ·cases hk
   ·rename_i el xs hg
    split at hk
    ·rename_i hsz
     split at hk
     ·cases hk
     ·rename_i u hu
      split at hk
      ·rename_i hc
       refine⟨_,_,hk,vp9 ho ht hsz s (fun X h μ inv=>⟨inv,Ext.refl _ _ _ _⟩) ?_ hl hu hc.1 hc.2.1 hc.2.2,fun hh=>by cases hh⟩
       intro X μ w a inv he
       have g:=vbi he x
       rw [hx]at g
       simp only [RV]at g
       obtain⟨sl,_,h2⟩:=g
       rw [hg]at h2
       exact h2
      ·cases hk
    ·cases hk
   ·cases hk
  ·rename_i T' hx
   split at hk
   ·cases hk
   ·rename_i u hu
    split at hk
    ·rename_i hc
     exact⟨_,_,hk,(v5w (wr:=[]) ho ht hx hl hu hc.1 hc.2.1 hc.2.2).ok,fun hh=>by cases hh⟩
    ·cases hk
  ·cases hk
theorem vyg {o:Oper}{e:Env}{t:TypeId}{x i:Operand}{T:Ty}{k:K1}{r:Res}(ho:o.op = .indexAddr t x i)(ht:TyOk1 P (.slice T) t false)
  (hk:vs0 T s (ev e x) (ev e i) k=some r):∃v,k v s=some r∧∀wr,OpQ P o e s wr v:=by
 unfold vs0 at hk
 split at hk
 ·rename_i kd n hi
  split at hk
  ·rename_i el xs hx
   split at hk
   ·rename_i hsz
    split at hk
    ·rename_i hc
     refine⟨_,hk,fun wr=>vva ho ht hsz ?_ hi hc.1 hc.2⟩
     intro X h μ a inv he
     have g:=vbi he x
     rw [hx]at g
     simpa only [RV]using g
    ·cases hk
   ·cases hk
  ·rename_i q hx
   split at hk
   ·rename_i el xs hg
    split at hk
    ·rename_i hsz
     split at hk
     ·rename_i hc
      exact⟨_,hk,fun wr=>vtw ho ht hsz hx (.inl hg) hi hc.1 hc.2⟩
     ·cases hk
    ·cases hk
   ·rename_i el xs m dd hg
    split at hk
    ·rename_i hsz
     split at hk
     ·rename_i hc
      exact⟨_,hk,fun wr=>vtw ho ht hsz hx (.inr ⟨m,dd,hg⟩) hi hc.1 hc.2⟩
     ·cases hk
    ·cases hk
   ·rename_i el xs hg
    split at hk
    ·rename_i hsz
     split at hk
     ·rename_i hc
      refine⟨_,hk,fun wr=>vva ho ht hsz ?_ hi hc.1 hc.2⟩
      intro X h μ a inv he
      have g:=vbi he x
      rw [hx]at g
      simp only [RV]at g
      obtain⟨sl,_,h2⟩:=g
      rw [hg]at h2
      exact h2
     ·cases hk
    ·cases hk
   ·cases hk
  ·rename_i q lo hx
   split at hk
   ·rename_i el xs hg
    split at hk
    ·rename_i hsz
     split at hk
     ·rename_i hc
      exact⟨_,hk,fun wr=>v6t ho ht hsz hx hg hi hc.1 hc.2⟩
     ·cases hk
    ·cases hk
   ·cases hk
  ·cases hk
 ·cases hk
theorem v2x (hG:TysOk P G){o:Oper}{e:Env}{src dst:TypeId}{x:Operand}{k:K1}{r:Res}(ho:o.op = .convert src dst x)
  (hk:v49 G src dst (ev e x) s k=some r):Done P G o e s k r:=by
 unfold v49 at hk
 split at hk
 ·cases hk
 ·rename_i sa S hsrc
  split at hk
  ·rename_i kd hd
   split at hk
   ·rename_i k' n hx
    exact Done.quiet hk (by rw [ho];rfl) fun wr _=>wao ho (hG.ty _ _ _ hsrc) (hG.ty _ _ _ hd) hx
   ·cases hk
  ·rename_i hd
   split at hk
   ·rename_i b hx
    exact Done.quiet hk (by rw [ho];rfl) fun wr _=>v8v ho (hG.ty _ _ _ hsrc) (hG.ty _ _ _ hd) hx
   ·cases hk
   ·split at hk
    ·split at hk
     ·rename_i ns hns
      exact Done.loud hk (by rw [ho];simp only [veh,hsrc]) (by rw [ho];exact v4c ho (hG.ty _ _ _ hsrc) (hG.ty _ _ _ hd) hns)
     ·cases hk
    ·cases hk
  ·cases hk
theorem wbl {e:Ty}{b:Bool}(h:(b&&e.deep)=true):e.deepIn=true:=by
 unfold Ty.deep at h
 simp only [Bool.and_eq_true]at h
 exact h.2.2
theorem wdf (hG:GlobOk P G){o:Oper}{e:Env}{k:K1}{r:Res}(hk:vxa G o.op e s k=some r):Done P G o e s k r:=by
 unfold vxa at hk
 split at hk
 ·rename_i x ho
  exact Done.quiet hk (by rw [ho];rfl) fun wr _=>wxe ho
 ·rename_i x ho
  exact Done.quiet hk (by rw [ho];rfl) fun wr _=>wlt ho
 ·rename_i c a b ho
  split at hk
  ·rename_i t hc
   cases t with
   |true=>exact Done.quiet hk (by rw [ho];rfl) fun wr _=>wo6 ho hc
   |false=>exact Done.quiet hk (by rw [ho];rfl) fun wr _=>wo6 ho hc
  ·cases hk
 ·rename_i t ho
  split at hk
  ·rename_i ag T ht
   exact Done.loud hk (by rw [ho];rfl) (by rw [ho];exact wqj ho (hG.tys.ty _ _ _ ht))
  ·cases h1:G.one t with
   |false=>rw [h1]at hk;cases hk
   |true=>
    rw [h1]at hk
    exact Done.loud hk (by rw [ho];rfl) (by rw [ho];exact wno ho (hG.ones _ h1))
 ·rename_i t x ho
  split at hk
  ·rename_i cs hc
   exact Done.loud hk (by rw [ho];rfl) (by rw [ho];exact wzh ho hc)
  ·cases hk
 ·rename_i t parts ho
  split at hk
  ·rename_i T ht
   split at hk
   ·rename_i cs hf
    exact Done.quiet hk (by rw [ho];rfl) fun wr _=>ws8 hG.tys ho ht hf
   ·cases hk
  ·cases hk
 ·rename_i t n parts ho
  split at hk
  ·rename_i el ht
   split at hk
   ·rename_i cs hf
    split at hk
    ·rename_i xs hx
     split at hk
     ·rename_i hn
      cases hde:(G.deep&&el.deep)with
      |false=>
       rw [hde]at hk
       exact Done.loud hk (by rw [ho];rfl) (by rw [ho];simp only [vsc,ht,hf,hde,cond_false];exact vrc ho (hG.tys.ty _ _ _ ht) hf hx hn)
      |true=>
       rw [hde]at hk
       simp only [cond_true]at hk
       cases hids:van s s.length 0 0 0 cs with
       |some p=>
        obtain⟨ids,ch⟩:=p
        rw [hids]at hk
        exact Done.loud hk (by rw [ho];rfl) (by rw [ho];simp only [vsc,ht,hf,hde,cond_true,hids];exact vzo ho (hG.tys.ty _ _ _ ht) (wbl hde) hf hx hn hids)
       |none=>
        rw [hids]at hk
        simp only at hk
        have plain:∀tch,OpOk P o e s tch (.own s.length) (vei s (vc3 cs)++[.arr el xs]):=fun tch=>(vrc ho (hG.tys.ty _ _ _ ht) hf hx hn).more
        cases hse:vq5 cs with
        |none=>
         rw [hse]at hk
         exact Done.loud hk (by rw [ho];rfl) (plain _)
        |some p=>
         obtain⟨r0,j⟩:=p
         rw [hse]at hk
         simp only at hk
         cases hg:getR s r0 with
         |dep e0 ys m dd=>
          rw [hg]at hk
          simp only at hk
          cases hb:Nat.beq n 1 with
          |false=>
           rw [hb]at hk
           exact Done.loud hk (by rw [ho];rfl) (plain _)
          |true=>
           rw [hb]at hk
           simp only [cond_true]at hk
           cases hid2:van s r0 m j 0 cs with
           |none=>
            rw [hid2]at hk
            exact Done.loud hk (by rw [ho];rfl) (plain _)
           |some p=>
            obtain⟨ids,ch⟩:=p
            rw [hid2]at hk
            have hn1:=Nat.eq_of_beq_eq_true hb
            subst hn1
            refine Done.loud hk (by rw [ho];rfl) ?_
            have ht9:vsc G o.op e s=[r0]:=by
             rw [ho]
             simp only [vsc,ht,hf,hde,cond_true,hids,wv3,hse,hg,Nat.beq_refl,hid2,cond_true]
            rw [ht9]
            exact vzm ho (hG.tys.ty _ _ _ ht) (wbl hde) hf hx hn hg hse hid2
         |_=>
          rw [hg]at hk
          exact Done.loud hk (by rw [ho];rfl) (plain _)
     ·cases hk
    ·cases hk
   ·cases hk
  ·cases hk
 ·rename_i t x ho
  split at hk
  ·rename_i ag T ht
   cases hda:vo5 s (ev e x)with
   |true=>rw [hda]at hk;cases hk
   |false=>
   rw [hda]at hk
   simp only [cond_false]at hk
   split at hk
   ·rename_i cs hl
    split at hk
    ·rename_i v hv
     refine Done.quiet hk (by rw [ho];rfl) fun wr hfar=>wwv ho (hG.tys.ty _ _ _ ht) hda hl hv ?_
     rw [ho]at hfar
     cases wr with
     |nil=>exact .inl rfl
     |cons q l=>
      simp only [qFar,Bool.and_eq_true]at hfar
      exact .inr ⟨hfar.1,vni hfar.2⟩
    ·cases hk
   ·cases hk
  ·cases h1:G.one t with
   |false=>rw [h1]at hk;cases hk
   |true=>
    rw [h1]at hk
    simp only [cond_true]at hk
    cases hda:vo5 s (ev e x)with
    |true=>rw [hda]at hk;cases hk
    |false=>
    rw [hda]at hk
    simp only [cond_false]at hk
    split at hk
    ·rename_i c hl
     refine Done.quiet hk (by rw [ho];rfl) fun wr hfar=>wr2 ho (hG.ones _ h1) hda hl ?_
     rw [ho]at hfar
     cases wr with
     |nil=>exact .inl rfl
     |cons q l=>
      simp only [qFar,Bool.and_eq_true]at hfar
      exact .inr ⟨hfar.1,vni hfar.2⟩
    ·cases hk
 ·rename_i t x y ho
  split at hk
  ·rename_i ag T ht
   split at hk
   ·rename_i cs hc
    split at hk
    ·rename_i hl
     cases hda:vpg s (ev e x) cs with
     |true=>rw [hda]at hk;cases hk
     |false=>
     rw [hda]at hk
     simp only [cond_false]at hk
     split at hk
     ·rename_i s' hs
      exact Done.loud hk (by rw [ho];rfl) (by rw [ho];exact wqu ho (hG.tys.ty _ _ _ ht) hc hl hda hs)
     ·cases hk
    ·cases hk
   ·cases hk
  ·cases h1:G.one t with
   |false=>rw [h1]at hk;cases hk
   |true=>
    rw [h1]at hk
    simp only [cond_true]at hk
    split at hk
    ·rename_i c hc
     cases hda:vpg s (ev e x) [c]with
     |true=>rw [hda]at hk;cases hk
     |false=>
     rw [hda]at hk
     simp only [cond_false]at hk
     split at hk
     ·rename_i s' hs
      exact Done.loud hk (by rw [ho];rfl) (by rw [ho];exact wm6 ho (hG.ones _ h1) hc hda hs)
     ·cases hk
    ·cases hk
 ·rename_i x ho
  split at hk
  ·rename_i b off hx
   exact Done.quiet hk (by rw [ho];rfl) fun wr _=>vip ho hx (.inl ⟨_,_,rfl⟩)
  ·rename_i q i off hx
   split at hk
   ·rename_i el xs hg
    exact Done.quiet hk (by rw [ho];rfl) fun wr _=>vip ho hx (.inr (.inl ⟨_,_,_,rfl,by rw [hg];rfl⟩))
   ·rename_i el xs m hg
    exact Done.quiet hk (by rw [ho];rfl) fun wr _=>vip ho hx (.inr (.inl ⟨_,_,_,rfl,by rw [hg];rfl⟩))
   ·cases hk
  ·rename_i T y off hx
   exact Done.quiet hk (by rw [ho];rfl) fun wr _=>vip ho hx (.inr (.inr (.inl ⟨_,_,_,rfl⟩)))
  ·rename_i f c hx
   exact Done.quiet hk (by rw [ho];rfl) fun wr _=>vip ho hx (.inr (.inr (.inr ⟨_,_,rfl⟩)))
  ·cases hk
 ·rename_i op t x y t' ho
  split at hk
  ·cases hk
  ·rename_i T ht
   cases hq:(G.eqt t&&T.flat)with
   |true=>
    rw [hq]at hk
    simp only [Bool.and_eq_true]at hq
    simp only [cond_true]at hk
    have hE:=hG.eqs t T hq.1 ht hq.2
    unfold eqA at hk
    split at hk
    ·rename_i l m hx hy
     split at hk
     ·rename_i a b ha hb
      split at hk
      ·exact Done.quiet hk (by rw [ho];rfl) fun wr _=>v5x ho hE hq.2 hx hy ha hb (.inl ⟨rfl,rfl⟩)
      ·exact Done.quiet hk (by rw [ho];rfl) fun wr _=>v5x ho hE hq.2 hx hy ha hb (.inr ⟨rfl,rfl⟩)
      ·cases hk
     ·cases hk
    ·cases hk
   |false=>rw [hq]at hk;cases hk
  ·rename_i ht
   split at hk
   ·cases hk
   ·rename_i hna
    obtain⟨v,h1,h2⟩:=v67 ho (fun _=>hG.tys.ty _ _ _ ht) hk
    exact Done.quiet h1 (by rw [ho];rfl) fun wr _=>h2 wr
  ·cases hk
  ·cases hk
  ·split at hk
   ·cases hk
   ·rename_i hna
    obtain⟨v,h1,h2⟩:=v67 ho (by simp) hk
    exact Done.quiet h1 (by rw [ho];rfl) fun wr _=>h2 wr
 ·rename_i op t x ho
  split at hk
  ·rename_i b hx
   exact Done.quiet hk (by rw [ho];rfl) fun wr _=>wpa ho (.inl ⟨b,rfl,hx,rfl⟩)
  ·rename_i kd n hx
   exact Done.quiet hk (by rw [ho];rfl) fun wr _=>wpa ho (.inr ⟨kd,n,rfl,hx,rfl⟩)
  ·cases hk
 ·rename_i src dst x ho
  exact v2x hG.tys ho hk
 ·rename_i fn first caps ho
  split at hk
  ·rename_i f hf
   exact Done.quiet hk (by rw [ho];rfl) fun wr _=>v9v ho hf
  ·cases hk
 ·rename_i t l c ho
  split at hk
  ·rename_i el n m ht hl hc
   split at hk
   ·rename_i hh
    cases hde:(G.deep&&el.deep)with
    |false=>
     rw [hde]at hk
     exact Done.loud hk (by rw [ho];rfl) (by rw [ho];exact v79 ho (hG.tys.ty _ _ _ ht) hl hc hh.1 hh.2.1 hh.2.2)
    |true=>
     rw [hde]at hk
     exact Done.loud hk (by rw [ho];rfl) (by rw [ho];exact v38 ho (hG.tys.ty _ _ _ ht) hl hc (wbl hde) hh.1 hh.2.1 hh.2.2)
   ·cases hk
  ·cases hk
 ·rename_i t x lo hi mx ho
  split at hk
  ·rename_i T ht
   obtain⟨v,s',h1,h2,h3⟩:=v9y ho (hG.tys.ty _ _ _ ht) hk
   refine⟨v,s',h1,by rw [ho];exact h2,fun hq=>?_⟩
   have hT:T = .str:=by
    rw [ho]at hq
    simp only [veh,ht]at hq
    cases T<;>first|rfl|(simp at hq)
   exact⟨(h3 hT).1,fun wr _=>(h3 hT).2 wr⟩
  ·cases hk
 ·rename_i t x f ho
  split at hk
  ·rename_i off ag T hf
   split at hk
   ·rename_i b p hx
    exact Done.quiet hk (by rw [ho];rfl) fun wr _=>vjt ho (hG.tys.fld _ _ _ _ _ hf) (.inl ⟨_,_,hx,rfl⟩)
   ·rename_i q i p hx
    split at hk
    ·rename_i el xs hg
     exact Done.quiet hk (by rw [ho];rfl) fun wr _=>vjt ho (hG.tys.fld _ _ _ _ _ hf) (.inr (.inl ⟨_,_,_,hx,by rw [hg];rfl,rfl⟩))
    ·rename_i el xs m hg
     exact Done.quiet hk (by rw [ho];rfl) fun wr _=>vjt ho (hG.tys.fld _ _ _ _ _ hf) (.inr (.inl ⟨_,_,_,hx,by rw [hg];rfl,rfl⟩))
    ·cases hk
   ·rename_i S y p hx
    exact Done.quiet hk (by rw [ho];rfl) fun wr _=>vjt ho (hG.tys.fld _ _ _ _ _ hf) (.inr (.inr ⟨_,_,_,hx,rfl⟩))
   ·cases hk
  ·cases hk
 ·rename_i t x f ho
  split at hk
  ·rename_i off ag T hf
   split at hk
   ·rename_i cs hx
    split at hk
    ·rename_i c hc
     split at hk
     ·rename_i v hv
      exact Done.quiet hk (by rw [ho];rfl) fun wr _=>wqz ho (hG.tys.fld _ _ _ _ _ hf) hx hc hv
     ·cases hk
    ·cases hk
   ·cases hk
  ·cases hk
 ·rename_i t x i ho
  split at hk
  ·rename_i T ht
   obtain⟨v,h1,h2⟩:=vyg ho (hG.tys.ty _ _ _ ht) hk
   exact Done.quiet h1 (by rw [ho];rfl) fun wr _=>h2 wr
  ·cases hk
 ·rename_i t x i ho
  split at hk
  ·rename_i ht
   split at hk
   ·rename_i b kd n hx hi
    split at hk
    ·rename_i hc
     exact Done.quiet hk (by rw [ho];rfl) fun wr _=>v7e ho (hG.tys.ty _ _ _ ht) hx hi hc.1 hc.2
    ·cases hk
   ·cases hk
  ·cases hk
 ·rename_i x i ho
  split at hk
  ·rename_i vs hx
   split at hk
   ·rename_i hi
    exact Done.quiet hk (by rw [ho];rfl) fun wr _=>wgw ho hx hi
   ·cases hk
  ·cases hk
 ·rename_i c ho
  split at hk
  ·rename_i b hc
   obtain⟨v,s',h1,h2,h3⟩:=whg hG.tys ho hc hk
   refine⟨v,s',h1,by rw [ho];simp only [vsc,hc];exact h2,fun hq=>?_⟩
   rw [ho]at hq
   simp only [veh,hc]at hq
   exact⟨(h3 hq).1,fun wr _=>(h3 hq).2 wr⟩
  ·rename_i f hc
   split at hk
   ·rename_i g caps hf
    obtain⟨v,s',h1,h2⟩:=wwb hG ho hc hf hk
    exact Done.loud h1 (by rw [ho];simp only [veh,hc]) (by rw [ho];simp only [vsc,hc,hf];exact h2)
   ·cases hk
  ·cases hk
 ·cases hk
end
end Go.VE
