/- The statement FnExactSameFromSaid is proved: for every input the law FnExactSameFrom hands back true, and its arguments read as they did. Conditions: none beyond the statement. -/
import Derived.Test.YtcccpkohlkfhoaaSameFromS1
import Derived.Test.YtcccpkohlkfhoaaSameFromR
import Derived.Test.YtcccpkohlkfhoaaU26
import Derived.Test.YtcccpkohlkfhoaaRows
import Derived.ProofKit
namespace Go.Proofs.Ytcccpkohlkfhoaa
open Go.ChangeShapes Go.WideShapes Go.ChangeAt Go.RowKit Go.VE
theorem Try.own:ownKnob Try.prog.godebug=none:=by kernel_rfl
theorem Try.laidOut:laidOutB Try.prog=true:=by kernel_rfl
theorem vf6 (x0:((.slice tVersion):Ty).D)(x1:((.slice tVersion):Ty).D)(x2:((.int .i64):Ty).D)(h0:((.slice tVersion):Ty).wf x0)(h1:((.slice tVersion):Ty).wf x1)(h2:((.int .i64):Ty).wf x2):vxh [((.slice tVersion):Ty).toAV false x0,((.slice tVersion):Ty).toAV false x1,((.int .i64):Ty).toAV false x2] [] (fun v s=>some ⟨.ret,[v],s⟩)=some ⟨.ret,[.bool true],[]⟩:=
 Eq.trans (by kernel_rfl) (vib x0 x1 x2 h0 h1 h2 (fun b=>some ⟨.ret,[.bool b],[]⟩))
set_option maxRecDepth 100000 in
theorem vft (os:Os)(started:os.Started)(H:Type)(enc:TypeId×Value→H) :
  ReturnsInHanded {} Try.checked os 4 .any (Rows.fnExactSameFromSpec.pre6 enc Try.prog Try.f4 Rows.fnExactSameFromRow.domain false) (Rows.fnExactSameFromSpec.post enc Try.prog Try.f4 false true false false):=by
 refine returnsInHanded_of_change (C:=Try.checked) Try.own started (by kernel_rfl) Try.func4
  (ChangeSpec.witness6 (enc:=enc) (C:=Try.checked) false ⟨#[],#[.slice none 0 0,.slice none 0 0,.int .i64 0],[]⟩ 8 (by kernel_rfl) (by kernel_rfl) (by kernel_rfl) (by kernel_rfl)) ?_
 intro W base args ds gs before hval0 hW hcnd _
 have hval:∀(j:Nat) t v,Try.f4.params[j]? = some t→args[j]? = some v→Value.okWide Try.prog W .any base t v:=hval0
 have hW':=hW
 obtain⟨p,q,hA0,hV,rfl,hfz,hnd⟩:=hW
 have hA:DataW.TrodAll enc Try.prog W 0 (fun _=>true) true Try.f4.params.toList args.toList ds p:=hA0
 rw [Try.params4]at hA hval
 obtain⟨v0,v1,v2,d0,d1,d2,p0,p1,p2,rfl,rfl,rfl,g0,g1,g2⟩:=trodAll_three hA
 obtain⟨rfl,rfl⟩:=trodVars_none hV
 obtain⟨x0,w0,r0⟩:=vxo (n:=8) (T:=((.slice tVersion):Ty)) (ag:=false) (by kernel_rfl) (by kernel_rfl) (hval 0 22 v0 rfl rfl) g0
 obtain⟨x1,w1,r1⟩:=vxo (n:=8) (T:=((.slice tVersion):Ty)) (ag:=false) (by kernel_rfl) (by kernel_rfl) (hval 1 22 v1 rfl rfl) g1
 obtain⟨x2,w2,r2⟩:=vxo (n:=8) (T:=((.int .i64):Ty)) (ag:=false) (by kernel_rfl) (by kernel_rfl) (hval 2 3 v2 rfl rfl) g2
 have hc:=vzt (W:=W) v0p (vf6 x0 x1 x2 w0 w1 w2) (cargs:=[v0,v1,v2]) (by simp only [RVs];exact⟨v0,_,rfl,r0 _ _,v1,_,rfl,r1 _ _,v2,_,rfl,r2 _ _,rfl⟩)
 refine hc.mono fun e W' ⟨⟨cv,he,μ',X,hcv⟩,hb⟩=>?_
 simp only [RV]at hcv
 subst hcv
 subst he
 exact⟨_,rfl,v12 hW' rfl rfl (t:=4) (by kernel_rfl) (by kernel_rfl) Try.laidOut (by rw [Try.params4];intro u hu;simp at hu;rcases hu with rfl|rfl|rfl<;>exact⟨by kernel_rfl,of_decide_eq_true (by kernel_rfl)⟩) hb⟩
theorem vi4:mapsRowed Try.prog=true:=by kernel_rfl
theorem vi3:(Rows.fnExactSameFromRow.inPlace==Try.prog.inPlace 4)=true:=by kernel_rfl
theorem viu:(Rows.fnExactSameFromRow.unfollowed==Try.prog.unfollowed 4)=true:=by kernel_rfl
theorem viz:(Rows.fnExactSameFromRow.recurses==Try.prog.recurses 4)=true:=by kernel_rfl
theorem vik:(Rows.fnExactSameFromRow.named==Try.prog.varsNamed 4)=true:=by kernel_rfl
theorem vi6:(Rows.fnExactSameFromRow.lifted==Try.prog.liftsFinal)=true:=by kernel_rfl
theorem vin:Try.prog.stopsHeard=true:=by kernel_rfl
theorem vih:Try.prog.mayEnter=true:=by kernel_rfl
theorem vix:(Rows.fnExactSameFromRow.wf (OpenSpec.ofChange Rows.fnExactSameFromSpec))=true:=by kernel_rfl
theorem andB {a b:Bool}(ha:a=true)(hb:b=true):(a&&b)=true:=by rw [ha,hb];rfl
theorem vfs:joinedFacts Try.prog 4 Try.f4 Rows.fnExactSameFromSpec Rows.fnExactSameFromRow=true:=by
 unfold joinedFacts
 exact(andB (andB (andB (andB (andB (andB (andB (andB (andB (andB (andB (andB (andB (andB (andB (andB (andB (andB (andB (andB (andB (andB (andB (andB (andB (andB (andB (andB (andB (andB (andB vix Try.laidOut) vi4) (by kernel_rfl)) (by kernel_rfl)) (by kernel_rfl)) (by kernel_rfl)) (by kernel_rfl)) (by kernel_rfl)) vi3) viu) viz) vik) (by kernel_rfl)) (by kernel_rfl)) (by kernel_rfl)) (by kernel_rfl)) (by kernel_rfl)) (by kernel_rfl)) (by kernel_rfl)) (by kernel_rfl)) (by kernel_rfl)) (by kernel_rfl)) (by kernel_rfl)) vin) vih) vi6) (by kernel_rfl)) (by kernel_rfl)) (by kernel_rfl)) (by kernel_rfl)) (by kernel_rfl))
theorem FnExactSameFrom_holds:Rows.FnExactSameFromSaid:=
 OpenClaim.holds_of_wide 4 Try.f4 rfl rfl rfl rfl rfl rfl rfl ⟨rfl,rfl,rfl,rfl,rfl⟩ rfl rfl rfl rfl rfl (by kernel_rfl) Try.func4 vfs
  (of_decide_eq_true (by kernel_rfl)) (by unfold Func.isWrapper;first|(rw [if_pos (by decide +kernel)];kernel_rfl)|(rw [if_neg (by decide +kernel)];exact⟨rfl,rfl⟩))
  (fun os started H enc _=>vft os started H enc)
end Go.Proofs.Ytcccpkohlkfhoaa
