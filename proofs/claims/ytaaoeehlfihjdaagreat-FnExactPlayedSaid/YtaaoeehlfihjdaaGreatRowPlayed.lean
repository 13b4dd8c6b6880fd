/- The statement FnExactPlayedSaid is proved: for every input the law FnExactPlayed hands back true, and its arguments read as they did. Conditions: none beyond the statement. -/
import Derived.Test.YtaaoeehlfihjdaaGreatPlayedS2
import Derived.Test.YtaaoeehlfihjdaaGreatPlayedR
import Derived.Test.YtaaoeehlfihjdaaGreatU26
import Derived.Test.YtaaoeehlfihjdaaGreatRows
import Derived.ProofKit
namespace Go.Proofs.YtaaoeehlfihjdaaGreat
open Go.ChangeShapes Go.WideShapes Go.ChangeAt Go.RowKit Go.VE
theorem Tryz.own:ownKnob Tryz.prog.godebug=none:=by kernel_rfl
theorem Tryz.laidOut:laidOutB Tryz.prog=true:=by kernel_rfl
theorem vs5 (x0:(tBase:Ty).D)(x1:(tRecord:Ty).D)(h0:(tBase:Ty).wf x0)(h1:(tRecord:Ty).wf x1):wyp [(tBase:Ty).toAV true x0,(tRecord:Ty).toAV true x1] [] (fun v s=>some ⟨.ret,[v],s⟩)=some ⟨.ret,[.bool true],[]⟩:=
 Eq.trans (by kernel_rfl) (vwq x0 x1 h0 h1 (fun b=>some ⟨.ret,[.bool b],[]⟩))
set_option maxRecDepth 100000 in
theorem vrb (os:Os)(started:os.Started)(H:Type)(enc:TypeId×Value→H) :
  ReturnsInHanded {} Tryz.checked os 3 .any (Rows.fnExactPlayedSpec.pre6 enc Tryz.prog Tryz.f3 Rows.fnExactPlayedRow.domain false) (Rows.fnExactPlayedSpec.post enc Tryz.prog Tryz.f3 false true false false):=by
 refine returnsInHanded_of_change (C:=Tryz.checked) Tryz.own started (by kernel_rfl) Tryz.func3
  (ChangeSpec.witness6 (enc:=enc) (C:=Tryz.checked) false ⟨#[],#[.agg #[.slice none 0 0,.slice none 0 0,.slice none 0 0,.int .i64 0,.int .i64 0],.agg #[.int .i64 0,.int .i64 0,.int .i64 0,.int .i64 0,.int .i64 0,.slice none 0 0,.slice none 0 0,.bool false,.string ⟨#[]⟩,.string ⟨#[]⟩,.bool false,.slice none 0 0,.slice none 0 0,.slice none 0 0,.int .i64 0,.int .i64 0]],[]⟩ 8 (by kernel_rfl) (by kernel_rfl) (by kernel_rfl) (by kernel_rfl)) ?_
 intro W base args ds gs before hval0 hW hcnd _
 have hval:∀(j:Nat) t v,Tryz.f3.params[j]? = some t→args[j]? = some v→Value.okWide Tryz.prog W .any base t v:=hval0
 have hW':=hW
 obtain⟨p,q,hA0,hV,rfl,hfz,hnd⟩:=hW
 have hA:DataW.TrodAll enc Tryz.prog W 0 (fun _=>true) true Tryz.f3.params.toList args.toList ds p:=hA0
 rw [Tryz.params3]at hA hval
 obtain⟨v0,v1,d0,d1,p0,p1,rfl,rfl,rfl,g0,g1⟩:=trodAll_two hA
 obtain⟨rfl,rfl⟩:=trodVars_none hV
 obtain⟨x0,w0,r0⟩:=w4k (n:=8) (T:=(tBase:Ty)) (ag:=true) (by kernel_rfl) (by kernel_rfl) (hval 0 25 v0 rfl rfl) g0
 obtain⟨x1,w1,r1⟩:=w4k (n:=8) (T:=(tRecord:Ty)) (ag:=true) (by kernel_rfl) (by kernel_rfl) (hval 1 31 v1 rfl rfl) g1
 have hc:=wy6 (W:=W) w4v (vs5 x0 x1 w0 w1) (cargs:=[v0,v1]) (by simp only [RVs];exact⟨v0,_,rfl,r0 _ _,v1,_,rfl,r1 _ _,rfl⟩)
 refine hc.mono fun e W' ⟨⟨cv,he,μ',X,hcv⟩,hb⟩=>?_
 simp only [RV]at hcv
 subst hcv
 subst he
 exact⟨_,rfl,w81 hW' rfl rfl (t:=4) (by kernel_rfl) (by kernel_rfl) Tryz.laidOut (by rw [Tryz.params3];intro u hu;simp at hu;rcases hu with rfl|rfl<;>exact⟨by kernel_rfl,of_decide_eq_true (by kernel_rfl)⟩) hb⟩
theorem vx9:mapsRowed Tryz.prog=true:=by kernel_rfl
theorem vx8:(Rows.fnExactPlayedRow.inPlace==Tryz.prog.inPlace 3)=true:=by kernel_rfl
theorem vx6:(Rows.fnExactPlayedRow.unfollowed==Tryz.prog.unfollowed 3)=true:=by kernel_rfl
theorem vx0:(Rows.fnExactPlayedRow.recurses==Tryz.prog.recurses 3)=true:=by kernel_rfl
theorem vx5:(Rows.fnExactPlayedRow.named==Tryz.prog.varsNamed 3)=true:=by kernel_rfl
theorem vx2:(Rows.fnExactPlayedRow.lifted==Tryz.prog.liftsFinal)=true:=by kernel_rfl
theorem vx7:Tryz.prog.stopsHeard=true:=by kernel_rfl
theorem vx3:Tryz.prog.mayEnter=true:=by kernel_rfl
theorem vx4:(Rows.fnExactPlayedRow.wf (OpenSpec.ofChange Rows.fnExactPlayedSpec))=true:=by kernel_rfl
theorem andB {a b:Bool}(ha:a=true)(hb:b=true):(a&&b)=true:=by rw [ha,hb];rfl
theorem vrc:joinedFacts Tryz.prog 3 Tryz.f3 Rows.fnExactPlayedSpec Rows.fnExactPlayedRow=true:=by
 unfold joinedFacts
 exact(andB (andB (andB (andB (andB (andB (andB (andB (andB (andB (andB (andB (andB (andB (andB (andB (andB (andB (andB (andB (andB (andB (andB (andB (andB (andB (andB (andB (andB (andB (andB vx4 Tryz.laidOut) vx9) (by kernel_rfl)) (by kernel_rfl)) (by kernel_rfl)) (by kernel_rfl)) (by kernel_rfl)) (by kernel_rfl)) vx8) vx6) vx0) vx5) (by kernel_rfl)) (by kernel_rfl)) (by kernel_rfl)) (by kernel_rfl)) (by kernel_rfl)) (by kernel_rfl)) (by kernel_rfl)) (by kernel_rfl)) (by kernel_rfl)) (by kernel_rfl)) (by kernel_rfl)) vx7) vx3) vx2) (by kernel_rfl)) (by kernel_rfl)) (by kernel_rfl)) (by kernel_rfl)) (by kernel_rfl))
theorem FnExactPlayed_holds:Rows.FnExactPlayedSaid:=
 OpenClaim.holds_of_wide 3 Tryz.f3 rfl rfl rfl rfl rfl rfl rfl ⟨rfl,rfl,rfl,rfl,rfl⟩ rfl rfl rfl rfl rfl (by kernel_rfl) Tryz.func3 vrc
  (of_decide_eq_true (by kernel_rfl)) (by unfold Func.isWrapper;first|(rw [if_pos (by decide +kernel)];kernel_rfl)|(rw [if_neg (by decide +kernel)];exact⟨rfl,rfl⟩))
  (fun os started H enc _=>vrb os started H enc)
end Go.Proofs.YtaaoeehlfihjdaaGreat
