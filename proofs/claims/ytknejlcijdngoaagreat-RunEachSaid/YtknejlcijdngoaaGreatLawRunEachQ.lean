/- Each entity is the result of applying all systems to it alone: the law RunEach returns true for every list of ops and of systems; no condition. -/
import Derived.Test.YtknejlcijdngoaaGreatEQ8
set_option linter.unusedVariables false
set_option linter.unusedSimpArgs false
set_option linter.unusedSectionVars false
set_option maxHeartbeats 16000000
set_option maxRecDepth 100000
open Bool renaming false→aw,true→aA
open Go renaming TypeId→aF,Value→aq
open Option renaming none→ai
namespace Go.Proofs.YtknejlcijdngoaaGreat
section
open Go.RowKit Go.ChangeShapes Go.WideShapes Go.ChangeAt Go.Deep
theorem runEach_lifted (os:Os)(started:os.Started)(H:Type)(enc:aF×aq->H):ReturnsInLeavingWide {} Tryz.checked os 5 .any (Rows.runEachSpec.pre6 enc Tryz.prog Tryz.f5 Rows.runEachRow.domain aw) (Rows.runEachSpec.post enc Tryz.prog Tryz.f5 aw aA aw aw):=by
 refine Ti started (by kernel_rfl) Tryz.func5 (by decide+kernel) rfl rfl (λds h=> ?_) (ChangeSpec.witness6 (enc:=enc) (C:=Tryz.checked) aw ⟨#[],#[.slice ai 0 0,.slice ai 0 0],[]⟩ 8 (by kernel_rfl) (by kernel_rfl) (by kernel_rfl) (by kernel_rfl)) ?_
 ·match ds,h with
  | [_,_],_=>rfl
 intro W base args ds p L3 hA bE km;rw[Tryz.params5]at hA L3 km;obtain⟨v0,v1,d0,d1,p0,p1,rfl,rfl,rfl,h0,h1⟩:=trodAll_two hA;obtain⟨A0,c0,a0,rfl,n0,g0,f0,e0,m0⟩:=Jv 0 km rfl rfl (L3 0 22 v0 rfl rfl) h0 (λx hx=>bE x (by simp[hx]));obtain⟨A1,c1,a1,rfl,n1,f1,g1⟩:=FO (L3 1 23 v1 rfl rfl) h1 (λx hx=>bE x (by simp[hx]));refine⟨λi v h=> ?_,λPost=>ajR A0 A1 c0 c1 a0 a1 W g0 (by omega) (λo ho=>(f0 o ho).1) f1 n1 Post⟩;exact match i,h with
  |0,h=>by cases h;exact V4 (by decide) rfl g0 c0
  |1,h=>by cases h;exact V5 (by decide) rfl f1 c1
  |i+2,h=>by simp at h
theorem runEach_holds:Rows.RunEachSaid:=
 OpenClaim.holds_of_wide_leaving 5 Tryz.f5 rfl rfl rfl rfl rfl rfl rfl ⟨rfl,rfl,rfl,rfl,rfl⟩ rfl rfl rfl rfl rfl (by kernel_rfl) Tryz.func5 (by kernel_rfl)
  (of_decide_eq_true (by kernel_rfl)) (by unfold Func.isWrapper;rw[if_neg (of_decide_eq_false (by kernel_rfl))];exact⟨rfl,rfl⟩)
  (λos started H enc _=>runEach_lifted os started H enc)
end
end Go.Proofs.YtknejlcijdngoaaGreat
