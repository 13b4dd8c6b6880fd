/- Nil slices told as empty ones that are owned. -/
import Derived.Test.YtaaoeehlfihjdaaGreatU19q
namespace Go.VE
set_option linter.unusedVariables false
set_option linter.unusedSimpArgs false
section
variable {P:Program}{X:Nat→Prop}{h:Heap}{I:Nat→Prop}{μ:List Slot}{s:St}
def vkh:List Ty→List Slot
 |[]=>[]
 |_::l=>{ blk:=none,cap:=0 }::vkh l
theorem vzt:∀l:List Ty,(vkh l).length=l.length
 |[]=>rfl
 |_::l=>by simp [vkh,vzt l]
theorem v2u:∀l:List Ty,(vjy l).length=l.length
 |[]=>rfl
 |_::l=>by simp [vjy,v2u l]
theorem ws9 (inv:Inv X h μ s)(e:Ty):Inv X h (μ++[{ blk:=none,cap:=0 }]) (s++[vl5 e])∧Ext X h μ s h (μ++[{ blk:=none,cap:=0 }]) (s++[vl5 e]):=by
 unfold vl5
 cases e.deep with
 |true=>exact vhv inv e
 |false=>exact vmz inv e
theorem v14:∀(l:List Ty) {μ:List Slot} {s:St} (inv:Inv X h μ s),Inv X h (μ++vkh l) (s++vjy l)∧Ext X h μ s h (μ++vkh l) (s++vjy l)
 |[],μ,s,inv=>by simp only [vkh,vjy,List.append_nil];exact⟨inv,Ext.refl _ _ _ _⟩
 |e::l,μ,s,inv=>by
  obtain⟨i1,e1⟩:=ws9 inv e
  obtain⟨i2,e2⟩:=v14 l i1
  simp only [List.append_assoc,List.singleton_append]at i2 e2
  exact⟨i2,e1.trans e2⟩
def News (μ:List Slot)(s:St)(n:Nat)(ts:List Ty):Prop:=∀j e,ts[j]? = some e→μ[n+j]? = some { blk:=none,cap:=0 }∧getR s (n+j)=vl5 e
theorem News.left {n:Nat}{a b:List Ty}(hn:News μ s n (a++b)):News μ s n a:=fun j e h=>hn j e (by
 have hlt:j<a.length:=by
  rcases Nat.lt_or_ge j a.length with h1|h1
  ·exact h1
  ·rw [List.getElem?_eq_none h1]at h;cases h
 rw [List.getElem?_append_left hlt];exact h)
theorem News.right {n:Nat}{a b:List Ty}(hn:News μ s n (a++b)):News μ s (n+a.length) b:=fun j e h=>by
 have:=hn (a.length+j) e (by rw [List.getElem?_append_right (by omega)];simpa using h)
 rw [show n+a.length+j=n+(a.length+j) by omega]
 exact this
mutual
theorem wxo:∀(v:AV) (n:Nat) (ws:List (Option Ty)) (cv:Value),News μ s n (v.wide n ws).2.2→RV h I μ s v cv→RV h I μ s (v.wide n ws).1 cv
 |.nilS,n,[],cv,_,hv=>by simpa only [AV.wide]using hv
 |.nilS,n,none::ws,cv,_,hv=>by simpa only [AV.wide]using hv
 |.nilS,n,some e::ws,cv,hn,hv=>by
  simp only [AV.wide]at hn ⊢
  simp only [RV]at hv ⊢
  obtain⟨a,rfl⟩:=hv
  obtain⟨h1,h2⟩:=hn 0 e rfl
  simp only [Nat.add_zero]at h1 h2
  refine⟨_,h1,?_⟩
  rw [h2]
  unfold vl5
  cases e.deep with
  |true=>exact⟨a,rfl,.inl rfl⟩
  |false=>exact⟨a,rfl,.inl rfl⟩
 |.agg cs,n,ws,cv,hn,hv=>by
  simp only [AV.wide]at hn ⊢
  simp only [RV]at hv ⊢
  obtain⟨vs,e,hs⟩:=hv
  exact⟨vs,e,vqv cs n ws _ hn hs⟩
 |.tup cs,n,ws,cv,hn,hv=>by
  simp only [AV.wide]at hn ⊢
  simp only [RV]at hv ⊢
  obtain⟨vs,e,hs⟩:=hv
  exact⟨vs,e,vqv cs n ws _ hn hs⟩
 |.int _ _,n,ws,cv,_,hv=>by simpa only [AV.wide]using hv
 |.bool _,n,ws,cv,_,hv=>by simpa only [AV.wide]using hv
 |.str _,n,ws,cv,_,hv=>by simpa only [AV.wide]using hv
 |.lst _ _,n,[],cv,_,hv=>by simpa only [AV.wide]using hv
 |.lst _ _,n,none::ws,cv,_,hv=>by simpa only [AV.wide]using hv
 |.lst _ _,n,some e::ws,cv,_,hv=>by simp only [AV.wide,RV]
 |.own _,n,ws,cv,_,hv=>by simpa only [AV.wide]using hv
 |.bp _ _,n,ws,cv,_,hv=>by simpa only [AV.wide]using hv
 |.ep _ _ _,n,ws,cv,_,hv=>by simpa only [AV.wide]using hv
 |.win _ _,n,ws,cv,_,hv=>by simpa only [AV.wide]using hv
 |.dw _ _ _ _,n,ws,cv,_,hv=>by simpa only [AV.wide]using hv
 |.ip _ _ _,n,ws,cv,_,hv=>by simpa only [AV.wide]using hv
 |.fn _ _,n,ws,cv,_,hv=>by simpa only [AV.wide]using hv
 |.dead,n,ws,cv,_,hv=>by simpa only [AV.wide]using hv
theorem vqv:∀(l:List AV) (n:Nat) (ws:List (Option Ty)) (cvs:List Value),News μ s n (vhq n l ws).2.2→RVs h I μ s l cvs→RVs h I μ s (vhq n l ws).1 cvs
 |[],n,ws,cvs,_,hv=>by simpa only [vhq]using hv
 |v::l,n,ws,cvs,hn,hv=>by
  simp only [vhq]at hn ⊢
  simp only [RVs]at hv ⊢
  obtain⟨cv,r,e,h1,h2⟩:=hv
  exact⟨cv,r,e,wxo v n ws cv hn.left h1,vqv l _ _ r hn.right h2⟩
end
def Swapped (s s':St):Prop:=s'.length=s.length∧∀r,getR s' r=getR s r∨∃cs cs',getR s r = .box cs∧getR s' r = .box cs'
theorem Swapped.rv {s':St}(hs:Swapped s s')(a:AV)(v:Value)(hv:RV h I μ s a v):RV h I μ s' a v:=by
 refine RV.mono (fun b hb=>⟨hb,rfl⟩) (fun a v ha hv=>?_) a v hv
 cases a with
 |own r=>
  simp only [RV]at hv ⊢
  obtain⟨sl,h1,h2⟩:=hv
  refine⟨sl,h1,?_⟩
  rcases hs.2 r with h3|⟨cs,cs',h3,h4⟩
  ·rw [h3];exact h2
  ·rw [h3]at h2;exact h2.elim
 |bp r off=>
  simp only [RV]at hv ⊢
  obtain⟨sl,h1,h2⟩:=hv
  refine⟨sl,h1,?_⟩
  rcases hs.2 r with h3|⟨cs,cs',h3,h4⟩
  ·rw [h3];exact h2
  ·rw [h3]at h2;rw [h4];exact h2
 |ep r i off=>
  simp only [RV]at hv ⊢
  obtain⟨sl,h1,h2⟩:=hv
  refine⟨sl,h1,?_⟩
  rcases hs.2 r with h3|⟨cs,cs',h3,h4⟩
  ·rw [h3];exact h2
  ·rw [h3]at h2;exact h2.elim
 |win r lo=>
  simp only [RV]at hv ⊢
  obtain⟨sl,h1,h2⟩:=hv
  refine⟨sl,h1,?_⟩
  rcases hs.2 r with h3|⟨cs,cs',h3,h4⟩
  ·rw [h3];exact h2
  ·rw [h3]at h2;exact h2.elim
 |dw r n i off=>
  simp only [RV]at hv ⊢
  obtain⟨sl,h1,h2⟩:=hv
  refine⟨sl,h1,?_⟩
  rcases hs.2 r with h3|⟨cs,cs',h3,h4⟩
  ·rw [h3];exact h2
  ·rw [h3]at h2;exact h2.elim
 |_=>cases ha
theorem Swapped.live {s':St}(hs:Swapped s s')(r:Nat):(getR s' r).live=(getR s r).live:=by
 rcases hs.2 r with h3|⟨cs,cs',h3,h4⟩
 ·rw [h3]
 ·rw [h3,h4];rfl
theorem Swapped.im {s':St}(hs:Swapped s s')(b:Nat):Im X h μ s' b↔Im X h μ s b:=by
 unfold Im Free
 simp only [hs.live]
theorem woh {s':St}(inv:Inv X h μ s)(hs:Swapped s s')(hr:∀r cs cs',getR s r = .box cs→getR s' r = .box cs'→∀cvs,RVs h (Im X h μ s) μ s cs cvs→RVs h (Im X h μ s) μ s cs' cvs) :
  Inv X h μ s'∧Ext X h μ s h μ s':=by
 have hIm:Im X h μ s'=Im X h μ s:=funext fun b=>propext (hs.im b)
 have hrv:∀a v,RV h (Im X h μ s) μ s a v→RV h (Im X h μ s') μ s' a v:=fun a v hv=>by rw [hIm];exact hs.rv a v hv
 have hfree:∀b,Free μ s' b↔Free μ s b:=fun b=>by unfold Free;simp only [hs.live]
 refine⟨⟨by rw [inv.len,hs.1],?_,?_,?_,inv.xlt⟩,⟨Nat.le_refl _,fun _ _ _=>rfl,?_,hrv,by rw [hs.1];exact Nat.le_refl _⟩⟩
 ·intro r sl hsl
  have h1:=inv.reg r sl hsl
  rcases hs.2 r with h3|⟨cs,cs',h3,h4⟩
  ·rw [h3]
   exact RegOk.mono (fun b hb=>⟨by rw [hIm];exact hb,rfl⟩) (Nat.le_refl _) hrv _ (fun _ _ _=>rfl) h1
  ·rw [h3]at h1
   rw [h4]
   obtain⟨hm,k,c,el,fr,g1,g2,g3,g4⟩:=h1
   exact⟨hm,k,c,el,fr,g1,g2,g3,RVs.mono (fun b hb=>⟨by rw [hIm];exact hb,rfl⟩) (fun a v _ hv=>hrv a v hv) _ _ (hr r cs cs' h3 h4 _ g4)⟩
 ·intro r r' sl sl' b hne h1 h2 h3 h4 h5
  rw [hs.live]at h3 h4
  exact inv.dis r r' sl sl' b hne h1 h2 h3 h4 h5
 ·intro r sl b h1 h2 h3
  rw [hs.live]at h2
  exact inv.notX r sl b h1 h2 h3
 ·intro r sl b h1 h2 h3
  rw [hs.live]at h2
  exact .inr fun hf=>hf r sl h1 h2 h3
theorem vf0:∀(s:St) (n:Nat) (ws:List (Option Ty)),(vle n s ws).1.length=s.length
 |[],_,_=>rfl
 |.box cs::l,n,ws=>by simp only [vle,List.length_cons,vf0 l]
 |.arr _ _::l,n,ws=>by simp only [vle,List.length_cons,vf0 l]
 |.frz _ _::l,n,ws=>by simp only [vle,List.length_cons,vf0 l]
 |.gone::l,n,ws=>by simp only [vle,List.length_cons,vf0 l]
 |.dep _ _ _ _::l,n,ws=>by simp only [vle,List.length_cons,vf0 l]
theorem vir:∀(s:St) (n:Nat) (ws:List (Option Ty)) (r:Nat),getR (vle n s ws).1 r=getR s r∨
  ∃cs m ws' a b,getR s r = .box cs∧getR (vle n s ws).1 r = .box (vhq m cs ws').1∧(vle n s ws).2=a++((vhq m cs ws').2.2++b)∧m=n+a.length
 |[],_,_,r=>.inl rfl
 |.box cs::l,n,ws,0=>.inr ⟨cs,n,ws,[],_,rfl,rfl,rfl,rfl⟩
 |.box cs::l,n,ws,r+1=>by
  simp only [vle,getR]
  rcases vir l (n+(vhq n cs ws).2.2.length) (vhq n cs ws).2.1 r with h1|⟨c,m,w,a,b,h1,h2,h3,h4⟩
  ·exact .inl h1
  ·refine .inr ⟨c,m,w,(vhq n cs ws).2.2++a,b,h1,h2,?_,?_⟩
   ·rw [h3,List.append_assoc]
   ·rw [h4,List.length_append];omega
 |.arr _ _::l,n,ws,0=>.inl rfl
 |.arr _ _::l,n,ws,r+1=>by simp only [vle,getR];exact vir l n ws r
 |.frz _ _::l,n,ws,0=>.inl rfl
 |.frz _ _::l,n,ws,r+1=>by simp only [vle,getR];exact vir l n ws r
 |.gone::l,n,ws,0=>.inl rfl
 |.dep _ _ _ _::l,n,ws,0=>.inl rfl
 |.dep _ _ _ _::l,n,ws,r+1=>by simp only [vle,getR];exact vir l n ws r
 |.gone::l,n,ws,r+1=>by simp only [vle,getR];exact vir l n ws r
theorem v17:∀(l:List Ty) (j:Nat) (e:Ty),l[j]? = some e→getR (vjy l) j=vl5 e
 |[],j,e,h=>by simp at h
 |a::l,0,e,h=>by simp at h;subst h;rfl
 |a::l,j+1,e,h=>v17 l j e (by simpa using h)
theorem vv1:∀(l:List Ty) (j:Nat) (e:Ty),l[j]? = some e→(vkh l)[j]? = some { blk:=none,cap:=0 }
 |[],j,e,h=>by simp at h
 |a::l,0,e,h=>rfl
 |a::l,j+1,e,h=>vv1 l j e (by simpa using h)
theorem wif {h0:Heap}{μ0:List Slot}{s0:St}(inv:Inv X h μ s)(ext:Ext X h0 μ0 s0 h μ s)(ws:List (Option Ty))(vs:List AV) :
  ∃μ',Inv X h μ' (v7q ws vs s).2∧Ext X h0 μ0 s0 h μ' (v7q ws vs s).2∧∀cvs,RVs h (Im X h μ s) μ s vs cvs→RVs h (Im X h μ' (v7q ws vs s).2) μ' (v7q ws vs s).2 (v7q ws vs s).1 cvs:=by
 cases ws with
 |nil=>exact⟨μ,inv,ext,fun cvs hv=>hv⟩
 |cons w ws=>
  generalize hW:(w::ws)=W
  have hwd:v7q W vs s=((vhq s.length vs W).1,(vle (s.length+(vhq s.length vs W).2.2.length) s (vhq s.length vs W).2.1).1 ++
    vjy ((vhq s.length vs W).2.2++(vle (s.length+(vhq s.length vs W).2.2.length) s (vhq s.length vs W).2.1).2)):=by
   subst hW;rfl
  rw [hwd]
  generalize hts:(vhq s.length vs W).2.2=ts
  generalize hWs:vle (s.length+ts.length) s (vhq s.length vs W).2.1=S2
  obtain⟨s2,ts2⟩:=S2
  simp only
  obtain⟨i1,e1⟩:=v14 (ts++ts2) inv
  have hnews:News (μ++vkh (ts++ts2)) (s++vjy (ts++ts2)) s.length (ts++ts2):=fun j e hj=>by
   refine⟨?_,?_⟩
   ·rw [←inv.len,List.getElem?_append_right (by omega)]
    simpa using vv1 _ _ _ hj
   ·rw [vcl];exact v17 _ _ _ hj
  have hl2:s2.length=s.length:=by have:=vf0 s (s.length+ts.length) (vhq s.length vs W).2.1;rw [hWs]at this;exact this
  have hsw:Swapped (s++vjy (ts++ts2)) (s2++vjy (ts++ts2)):=by
   refine⟨by simp [hl2],fun r=>?_⟩
   rcases Nat.lt_or_ge r s.length with hr|hr
   ·rw [vbf _ _ _ hr,vbf _ _ _ (by omega)]
    rcases vir s (s.length+ts.length) (vhq s.length vs W).2.1 r with h1|⟨cs,m,w',a,b,h1,h2,h3,h4⟩
    ·rw [hWs]at h1;exact .inl h1
    ·rw [hWs]at h2;exact .inr ⟨_,_,h1,h2⟩
   ·obtain⟨j,rfl⟩:=Nat.exists_eq_add_of_le hr
    left
    rw [vcl,←hl2,vcl]
  obtain⟨i2,e2⟩:=woh i1 hsw (by
   intro r cs cs' h1 h2 cvs hv
   rcases Nat.lt_or_ge r s.length with hr|hr
   ·rw [vbf _ _ _ hr]at h1
    rw [vbf _ _ _ (by omega)]at h2
    rcases vir s (s.length+ts.length) (vhq s.length vs W).2.1 r with g1|⟨c,m,w',a,b,g1,g2,g3,g4⟩
    ·rw [hWs]at g1
     simp only at g1
     rw [h2,h1]at g1
     cases g1;exact hv
    ·rw [hWs]at g2 g3
     simp only at g2 g3
     rw [h1]at g1;cases g1
     rw [h2]at g2;cases g2
     refine vqv _ _ _ _ ?_ hv
     have hr2:=hnews.right
     subst g3
     subst g4
     exact hr2.right.left
   ·obtain⟨j,rfl⟩:=Nat.exists_eq_add_of_le hr
    rw [vcl]at h1
    rw [←hl2,vcl]at h2
    rw [h1]at h2;cases h2;exact hv)
  refine⟨_,i2,(ext.trans e1).trans e2,fun cvs hv=>?_⟩
  have h1:RVs h (Im X h (μ++vkh (ts++ts2)) (s++vjy (ts++ts2))) (μ++vkh (ts++ts2)) (s++vjy (ts++ts2)) vs cvs:=
   RVs.mono (fun b hb=>e1.im b hb) (fun a v _ hv=>e1.rv a v hv) _ _ hv
  have h2:=vqv vs s.length W cvs (by rw [hts];exact hnews.left) h1
  exact RVs.mono (fun b hb=>e2.im b hb) (fun a v _ hv=>e2.rv a v hv) _ _ h2
theorem v10 {h0:Heap}{μ0:List Slot}{s0:St}(inv:Inv X h μ s)(ext:Ext X h0 μ0 s0 h μ s)(inv0:Fit μ0 s0)(ws:List (Option Ty))(vs:List AV) :
  ∃μ',Inv X h μ' (vtb ws s0.length vs s).2∧Ext X h0 μ0 s0 h μ' (vtb ws s0.length vs s).2∧
   ∀cvs,RVs h (Im X h μ s) μ s vs cvs→RVs h (Im X h μ' (vtb ws s0.length vs s).2) μ' (vtb ws s0.length vs s).2 (vtb ws s0.length vs s).1 cvs:=by
 cases ws with
 |nil=>exact vx2 inv ext inv0 vs
 |cons w ws=>
  obtain⟨μ1,i1,x1,hv1⟩:=vx2 inv ext inv0 vs
  obtain⟨μ2,i2,x2,hv2⟩:=wif i1 x1 (w::ws) (pack s0.length vs s).1
  obtain⟨μ3,i3,x3,hv3⟩:=vx2 i2 x2 inv0 (v7q (w::ws) (pack s0.length vs s).1 (pack s0.length vs s).2).1
  exact⟨μ3,i3,x3,fun cvs hv=>hv3 _ (hv2 _ (hv1 _ hv))⟩
end
end Go.VE
