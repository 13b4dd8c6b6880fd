/- Nil slices told as empty ones that are owned. -/
import Derived.Test.YtaaoeehlfihjdaaGreatU19q
namespace Go.VE
set_option linter.unusedVariables false
set_option linter.unusedSimpArgs false
section
variable {P:Program}{X:Nat→Prop}{h:Heap}{I:Nat→Prop}{μ:List Slot}{s:St}
def vli:List Ty→List Slot
 |[]=>[]
 |_::l=>{ blk:=none,cap:=0 }::vli l
theorem v5h:∀l:List Ty,(vli l).length=l.length
 |[]=>rfl
 |_::l=>by simp [vli,v5h l]
theorem v9n:∀l:List Ty,(vj6 l).length=l.length
 |[]=>rfl
 |_::l=>by simp [vj6,v9n l]
theorem wy2 (inv:Inv X h μ s)(e:Ty):Inv X h (μ++[{ blk:=none,cap:=0 }]) (s++[vne e])∧Ext X h μ s h (μ++[{ blk:=none,cap:=0 }]) (s++[vne e]):=by
 unfold vne
 cases e.deep with
 |true=>exact vg5 inv e
 |false=>exact vow inv e
theorem v60:∀(l:List Ty) {μ:List Slot} {s:St} (inv:Inv X h μ s),Inv X h (μ++vli l) (s++vj6 l)∧Ext X h μ s h (μ++vli l) (s++vj6 l)
 |[],μ,s,inv=>by simp only [vli,vj6,List.append_nil];exact⟨inv,Ext.refl _ _ _ _⟩
 |e::l,μ,s,inv=>by
  obtain⟨i1,e1⟩:=wy2 inv e
  obtain⟨i2,e2⟩:=v60 l i1
  simp only [List.append_assoc,List.singleton_append]at i2 e2
  exact⟨i2,e1.trans e2⟩
def News (μ:List Slot)(s:St)(n:Nat)(ts:List Ty):Prop:=∀j e,ts[j]? = some e→μ[n+j]? = some { blk:=none,cap:=0 }∧getR s (n+j)=vne e
theorem News.left {n:Nat}{a b:List Ty}(hn:News μ s n (a++b)):News μ s n a:=fun j e h=>hn j e (by
 have hlt:j<a.length:=by
  rcases Nat.lt_or_ge j a.length with h1|h1
  ·exact h1
  ·rw [List.getElem?_eq_none h1]at h;cases h
 rw [List.getElem?_append_left hlt];exact h)
theorem News.right {n:Nat}{a b:List Ty}(hn:News μ s n (a++b)):News μ s (n+a.length) b:=fun j e h=>by
 have:=hn (a.length+j) e (by rw [List.getElem?_append_right (by omega)];simpa using h)
 rw [show n+a.length+j=n+(a.length+j) by omega]
 exact this
mutual
theorem w9h:∀(v:AV) (n:Nat) (ws:List (Option Ty)) (cv:Value),News μ s n (v.wide n ws).2.2→RV h I μ s v cv→RV h I μ s (v.wide n ws).1 cv
 |.nilS,n,[],cv,_,hv=>by simpa only [AV.wide]using hv
 |.nilS,n,none::ws,cv,_,hv=>by simpa only [AV.wide]using hv
 |.nilS,n,some e::ws,cv,hn,hv=>by
  simp only [AV.wide]at hn ⊢
  simp only [RV]at hv ⊢
  obtain⟨a,rfl⟩:=hv
  obtain⟨h1,h2⟩:=hn 0 e rfl
  simp only [Nat.add_zero]at h1 h2
  refine⟨_,h1,?_⟩
  rw [h2]
  unfold vne
  cases e.deep with
  |true=>exact⟨a,rfl,.inl rfl⟩
  |false=>exact⟨a,rfl,.inl rfl⟩
 |.agg cs,n,ws,cv,hn,hv=>by
  simp only [AV.wide]at hn ⊢
  simp only [RV]at hv ⊢
  obtain⟨vs,e,hs⟩:=hv
  exact⟨vs,e,vu7 cs n ws _ hn hs⟩
 |.tup cs,n,ws,cv,hn,hv=>by
  simp only [AV.wide]at hn ⊢
  simp only [RV]at hv ⊢
  obtain⟨vs,e,hs⟩:=hv
  exact⟨vs,e,vu7 cs n ws _ hn hs⟩
 |.int _ _,n,ws,cv,_,hv=>by simpa only [AV.wide]using hv
 |.bool _,n,ws,cv,_,hv=>by simpa only [AV.wide]using hv
 |.str _,n,ws,cv,_,hv=>by simpa only [AV.wide]using hv
 |.lst _ _,n,[],cv,_,hv=>by simpa only [AV.wide]using hv
 |.lst _ _,n,none::ws,cv,_,hv=>by simpa only [AV.wide]using hv
 |.lst _ _,n,some e::ws,cv,_,hv=>by simp only [AV.wide,RV]
 |.own _,n,ws,cv,_,hv=>by simpa only [AV.wide]using hv
 |.bp _ _,n,ws,cv,_,hv=>by simpa only [AV.wide]using hv
 |.ep _ _ _,n,ws,cv,_,hv=>by simpa only [AV.wide]using hv
 |.win _ _,n,ws,cv,_,hv=>by simpa only [AV.wide]using hv
 |.dw _ _ _ _,n,ws,cv,_,hv=>by simpa only [AV.wide]using hv
 |.ip _ _ _,n,ws,cv,_,hv=>by simpa only [AV.wide]using hv
 |.fn _ _,n,ws,cv,_,hv=>by simpa only [AV.wide]using hv
 |.dead,n,ws,cv,_,hv=>by simpa only [AV.wide]using hv
theorem vu7:∀(l:List AV) (n:Nat) (ws:List (Option Ty)) (cvs:List Value),News μ s n (vgu n l ws).2.2→RVs h I μ s l cvs→RVs h I μ s (vgu n l ws).1 cvs
 |[],n,ws,cvs,_,hv=>by simpa only [vgu]using hv
 |v::l,n,ws,cvs,hn,hv=>by
  simp only [vgu]at hn ⊢
  simp only [RVs]at hv ⊢
  obtain⟨cv,r,e,h1,h2⟩:=hv
  exact⟨cv,r,e,w9h v n ws cv hn.left h1,vu7 l _ _ r hn.right h2⟩
end
def Swapped (s s':St):Prop:=s'.length=s.length∧∀r,getR s' r=getR s r∨∃cs cs',getR s r = .box cs∧getR s' r = .box cs'
theorem Swapped.rv {s':St}(hs:Swapped s s')(a:AV)(v:Value)(hv:RV h I μ s a v):RV h I μ s' a v:=by
 refine RV.mono (fun b hb=>⟨hb,rfl⟩) (fun a v ha hv=>?_) a v hv
 cases a with
 |own r=>
  simp only [RV]at hv ⊢
  obtain⟨sl,h1,h2⟩:=hv
  refine⟨sl,h1,?_⟩
  rcases hs.2 r with h3|⟨cs,cs',h3,h4⟩
  ·rw [h3];exact h2
  ·rw [h3]at h2;exact h2.elim
 |bp r off=>
  simp only [RV]at hv ⊢
  obtain⟨sl,h1,h2⟩:=hv
  refine⟨sl,h1,?_⟩
  rcases hs.2 r with h3|⟨cs,cs',h3,h4⟩
  ·rw [h3];exact h2
  ·rw [h3]at h2;rw [h4];exact h2
 |ep r i off=>
  simp only [RV]at hv ⊢
  obtain⟨sl,h1,h2⟩:=hv
  refine⟨sl,h1,?_⟩
  rcases hs.2 r with h3|⟨cs,cs',h3,h4⟩
  ·rw [h3];exact h2
  ·rw [h3]at h2;exact h2.elim
 |win r lo=>
  simp only [RV]at hv ⊢
  obtain⟨sl,h1,h2⟩:=hv
  refine⟨sl,h1,?_⟩
  rcases hs.2 r with h3|⟨cs,cs',h3,h4⟩
  ·rw [h3];exact h2
  ·rw [h3]at h2;exact h2.elim
 |dw r n i off=>
  simp only [RV]at hv ⊢
  obtain⟨sl,h1,h2⟩:=hv
  refine⟨sl,h1,?_⟩
  rcases hs.2 r with h3|⟨cs,cs',h3,h4⟩
  ·rw [h3];exact h2
  ·rw [h3]at h2;exact h2.elim
 |_=>cases ha
theorem Swapped.live {s':St}(hs:Swapped s s')(r:Nat):(getR s' r).live=(getR s r).live:=by
 rcases hs.2 r with h3|⟨cs,cs',h3,h4⟩
 ·rw [h3]
 ·rw [h3,h4];rfl
theorem Swapped.im {s':St}(hs:Swapped s s')(b:Nat):Im X h μ s' b↔Im X h μ s b:=by
 unfold Im Free
 simp only [hs.live]
theorem wuk {s':St}(inv:Inv X h μ s)(hs:Swapped s s')(hr:∀r cs cs',getR s r = .box cs→getR s' r = .box cs'→∀cvs,RVs h (Im X h μ s) μ s cs cvs→RVs h (Im X h μ s) μ s cs' cvs) :
  Inv X h μ s'∧Ext X h μ s h μ s':=by
 have hIm:Im X h μ s'=Im X h μ s:=funext fun b=>propext (hs.im b)
 have hrv:∀a v,RV h (Im X h μ s) μ s a v→RV h (Im X h μ s') μ s' a v:=fun a v hv=>by rw [hIm];exact hs.rv a v hv
 have hfree:∀b,Free μ s' b↔Free μ s b:=fun b=>by unfold Free;simp only [hs.live]
 refine⟨⟨by rw [inv.len,hs.1],?_,?_,?_,inv.xlt⟩,⟨Nat.le_refl _,fun _ _ _=>rfl,?_,hrv,by rw [hs.1];exact Nat.le_refl _⟩⟩
 ·intro r sl hsl
  have h1:=inv.reg r sl hsl
  rcases hs.2 r with h3|⟨cs,cs',h3,h4⟩
  ·rw [h3]
   exact RegOk.mono (fun b hb=>⟨by rw [hIm];exact hb,rfl⟩) (Nat.le_refl _) hrv _ (fun _ _ _=>rfl) h1
  ·rw [h3]at h1
   rw [h4]
   obtain⟨hm,k,c,el,fr,g1,g2,g3,g4⟩:=h1
   exact⟨hm,k,c,el,fr,g1,g2,g3,RVs.mono (fun b hb=>⟨by rw [hIm];exact hb,rfl⟩) (fun a v _ hv=>hrv a v hv) _ _ (hr r cs cs' h3 h4 _ g4)⟩
 ·intro r r' sl sl' b hne h1 h2 h3 h4 h5
  rw [hs.live]at h3 h4
  exact inv.dis r r' sl sl' b hne h1 h2 h3 h4 h5
 ·intro r sl b h1 h2 h3
  rw [hs.live]at h2
  exact inv.notX r sl b h1 h2 h3
 ·intro r sl b h1 h2 h3
  rw [hs.live]at h2
  exact .inr fun hf=>hf r sl h1 h2 h3
theorem ve7:∀(s:St) (n:Nat) (ws:List (Option Ty)),(vls n s ws).1.length=s.length
 |[],_,_=>rfl
 |.box cs::l,n,ws=>by simp only [vls,List.length_cons,ve7 l]
 |.arr _ _::l,n,ws=>by simp only [vls,List.length_cons,ve7 l]
 |.frz _ _::l,n,ws=>by simp only [vls,List.length_cons,ve7 l]
 |.gone::l,n,ws=>by simp only [vls,List.length_cons,ve7 l]
 |.dep _ _ _ _::l,n,ws=>by simp only [vls,List.length_cons,ve7 l]
theorem vh4:∀(s:St) (n:Nat) (ws:List (Option Ty)) (r:Nat),getR (vls n s ws).1 r=getR s r∨
  ∃cs m ws' a b,getR s r = .box cs∧getR (vls n s ws).1 r = .box (vgu m cs ws').1∧(vls n s ws).2=a++((vgu m cs ws').2.2++b)∧m=n+a.length
 |[],_,_,r=>.inl rfl
 |.box cs::l,n,ws,0=>.inr ⟨cs,n,ws,[],_,rfl,rfl,rfl,rfl⟩
 |.box cs::l,n,ws,r+1=>by
  simp only [vls,getR]
  rcases vh4 l (n+(vgu n cs ws).2.2.length) (vgu n cs ws).2.1 r with h1|⟨c,m,w,a,b,h1,h2,h3,h4⟩
  ·exact .inl h1
  ·refine .inr ⟨c,m,w,(vgu n cs ws).2.2++a,b,h1,h2,?_,?_⟩
   ·rw [h3,List.append_assoc]
   ·rw [h4,List.length_append];omega
 |.arr _ _::l,n,ws,0=>.inl rfl
 |.arr _ _::l,n,ws,r+1=>by simp only [vls,getR];exact vh4 l n ws r
 |.frz _ _::l,n,ws,0=>.inl rfl
 |.frz _ _::l,n,ws,r+1=>by simp only [vls,getR];exact vh4 l n ws r
 |.gone::l,n,ws,0=>.inl rfl
 |.dep _ _ _ _::l,n,ws,0=>.inl rfl
 |.dep _ _ _ _::l,n,ws,r+1=>by simp only [vls,getR];exact vh4 l n ws r
 |.gone::l,n,ws,r+1=>by simp only [vls,getR];exact vh4 l n ws r
theorem v5x:∀(l:List Ty) (j:Nat) (e:Ty),l[j]? = some e→getR (vj6 l) j=vne e
 |[],j,e,h=>by simp at h
 |a::l,0,e,h=>by simp at h;subst h;rfl
 |a::l,j+1,e,h=>v5x l j e (by simpa using h)
theorem v2e:∀(l:List Ty) (j:Nat) (e:Ty),l[j]? = some e→(vli l)[j]? = some { blk:=none,cap:=0 }
 |[],j,e,h=>by simp at h
 |a::l,0,e,h=>rfl
 |a::l,j+1,e,h=>v2e l j e (by simpa using h)
theorem woi {h0:Heap}{μ0:List Slot}{s0:St}(inv:Inv X h μ s)(ext:Ext X h0 μ0 s0 h μ s)(ws:List (Option Ty))(vs:List AV) :
  ∃μ',Inv X h μ' (wda ws vs s).2∧Ext X h0 μ0 s0 h μ' (wda ws vs s).2∧∀cvs,RVs h (Im X h μ s) μ s vs cvs→RVs h (Im X h μ' (wda ws vs s).2) μ' (wda ws vs s).2 (wda ws vs s).1 cvs:=by
 cases ws with
 |nil=>exact⟨μ,inv,ext,fun cvs hv=>hv⟩
 |cons w ws=>
  generalize hW:(w::ws)=W
  have hwd:wda W vs s=((vgu s.length vs W).1,(vls (s.length+(vgu s.length vs W).2.2.length) s (vgu s.length vs W).2.1).1 ++
    vj6 ((vgu s.length vs W).2.2++(vls (s.length+(vgu s.length vs W).2.2.length) s (vgu s.length vs W).2.1).2)):=by
   subst hW;rfl
  rw [hwd]
  generalize hts:(vgu s.length vs W).2.2=ts
  generalize hWs:vls (s.length+ts.length) s (vgu s.length vs W).2.1=S2
  obtain⟨s2,ts2⟩:=S2
  simp only
  obtain⟨i1,e1⟩:=v60 (ts++ts2) inv
  have hnews:News (μ++vli (ts++ts2)) (s++vj6 (ts++ts2)) s.length (ts++ts2):=fun j e hj=>by
   refine⟨?_,?_⟩
   ·rw [←inv.len,List.getElem?_append_right (by omega)]
    simpa using v2e _ _ _ hj
   ·rw [vbn];exact v5x _ _ _ hj
  have hl2:s2.length=s.length:=by have:=ve7 s (s.length+ts.length) (vgu s.length vs W).2.1;rw [hWs]at this;exact this
  have hsw:Swapped (s++vj6 (ts++ts2)) (s2++vj6 (ts++ts2)):=by
   refine⟨by simp [hl2],fun r=>?_⟩
   rcases Nat.lt_or_ge r s.length with hr|hr
   ·rw [va1 _ _ _ hr,va1 _ _ _ (by omega)]
    rcases vh4 s (s.length+ts.length) (vgu s.length vs W).2.1 r with h1|⟨cs,m,w',a,b,h1,h2,h3,h4⟩
    ·rw [hWs]at h1;exact .inl h1
    ·rw [hWs]at h2;exact .inr ⟨_,_,h1,h2⟩
   ·obtain⟨j,rfl⟩:=Nat.exists_eq_add_of_le hr
    left
    rw [vbn,←hl2,vbn]
  obtain⟨i2,e2⟩:=wuk i1 hsw (by
   intro r cs cs' h1 h2 cvs hv
   rcases Nat.lt_or_ge r s.length with hr|hr
   ·rw [va1 _ _ _ hr]at h1
    rw [va1 _ _ _ (by omega)]at h2
    rcases vh4 s (s.length+ts.length) (vgu s.length vs W).2.1 r with g1|⟨c,m,w',a,b,g1,g2,g3,g4⟩
    ·rw [hWs]at g1
     simp only at g1
     rw [h2,h1]at g1
     cases g1;exact hv
    ·rw [hWs]at g2 g3
     simp only at g2 g3
     rw [h1]at g1;cases g1
     rw [h2]at g2;cases g2
     refine vu7 _ _ _ _ ?_ hv
     have hr2:=hnews.right
     subst g3
     subst g4
     exact hr2.right.left
   ·obtain⟨j,rfl⟩:=Nat.exists_eq_add_of_le hr
    rw [vbn]at h1
    rw [←hl2,vbn]at h2
    rw [h1]at h2;cases h2;exact hv)
  refine⟨_,i2,(ext.trans e1).trans e2,fun cvs hv=>?_⟩
  have h1:RVs h (Im X h (μ++vli (ts++ts2)) (s++vj6 (ts++ts2))) (μ++vli (ts++ts2)) (s++vj6 (ts++ts2)) vs cvs:=
   RVs.mono (fun b hb=>e1.im b hb) (fun a v _ hv=>e1.rv a v hv) _ _ hv
  have h2:=vu7 vs s.length W cvs (by rw [hts];exact hnews.left) h1
  exact RVs.mono (fun b hb=>e2.im b hb) (fun a v _ hv=>e2.rv a v hv) _ _ h2
theorem v6r {h0:Heap}{μ0:List Slot}{s0:St}(inv:Inv X h μ s)(ext:Ext X h0 μ0 s0 h μ s)(inv0:Fit μ0 s0)(ws:List (Option Ty))(vs:List AV) :
  ∃μ',Inv X h μ' (vv6 ws s0.length vs s).2∧Ext X h0 μ0 s0 h μ' (vv6 ws s0.length vs s).2∧
   ∀cvs,RVs h (Im X h μ s) μ s vs cvs→RVs h (Im X h μ' (vv6 ws s0.length vs s).2) μ' (vv6 ws s0.length vs s).2 (vv6 ws s0.length vs s).1 cvs:=by
 cases ws with
 |nil=>exact vzc inv ext inv0 vs
 |cons w ws=>
  obtain⟨μ1,i1,x1,hv1⟩:=vzc inv ext inv0 vs
  obtain⟨μ2,i2,x2,hv2⟩:=woi i1 x1 (w::ws) (pack s0.length vs s).1
  obtain⟨μ3,i3,x3,hv3⟩:=vzc i2 x2 inv0 (wda (w::ws) (pack s0.length vs s).1 (pack s0.length vs s).2).1
  exact⟨μ3,i3,x3,fun cvs hv=>hv3 _ (hv2 _ (hv1 _ hv))⟩
end
end Go.VE
