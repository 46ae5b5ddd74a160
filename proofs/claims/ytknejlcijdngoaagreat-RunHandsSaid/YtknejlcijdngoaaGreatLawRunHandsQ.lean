/- The number of goroutines does not affect the results, and each script gives the same result as alone: the law RunHands returns true for every list of lists of ops and two numbers of hands; no condition. -/
import Derived.Test.YtknejlcijdngoaaGreatHX6
set_option linter.defProp false
set_option linter.unusedVariables false
set_option linter.unusedSimpArgs false
set_option linter.unusedSectionVars false
set_option maxHeartbeats 16000000
set_option maxRecDepth 100000
open Bool renaming false->au,true->ar
open Go renaming TypeId->az,Value->ak
open Go.Proofs.Tryz renaming prog->aj
open Option renaming none->ah
namespace Go.Proofs.YtknejlcijdngoaaGreat
section
open Go.RowKit Go.ChangeShapes Go.WideShapes Go.ChangeAt Go.Deep Go.Proofs.Tryz
theorem runHands_lifted(os:Os)(started:os.Started)(H:Type)(enc:az×ak->H):ReturnsInLeavingWide {} Tryz.checked os 6 .any (Rows.runHandsSpec.pre6 enc aj f6 Rows.runHandsRow.domain au) (Rows.runHandsSpec.post enc aj f6 au ar au au):=by
 refine Pd started (by kernel_rfl) func6 (by decide+kernel) rfl rfl (λds h=> ?_) (ChangeSpec.witness6 (enc:=enc) (C:=Tryz.checked) au ⟨#[],#[.slice ah 0 0,.int .i64 0,.int .i64 0],[]⟩ 8 (by kernel_rfl) (by kernel_rfl) (by kernel_rfl) (by kernel_rfl)) ?_
 ·match ds,h with|[_,_,_],_=>rfl
 intro W base args ds p VM hA l6 yh;rw[params6]at hA VM yh;obtain⟨v0,v1,v2,d0,d1,d2,p0,p1,p2,rfl,rfl,rfl,h0,h1,h2⟩:=trodAll_three hA;obtain⟨A0,c0,a0,rfl,n0,g0⟩:=FO 0 yh rfl rfl (VM 0 58 v0 rfl rfl) h0 (λx hx=>l6 x (by simp[hx]));obtain⟨a1,rfl,rfl,rfl,f1⟩:=open_int underlying3 (VM 1 3 v1 rfl rfl) h1;obtain⟨a2,rfl,rfl,rfl,f2⟩:=open_int underlying3 (VM 2 3 v2 rfl rfl) h2;refine⟨λi v h=> ?_,λPost=>P7 A0 c0 a0 a1 a2 W g0 n0 Post⟩;exact match i,h with|0,h=>by cases h;exact .inl ⟨by decide,trivial⟩|1,h=>by cases h;exact He a1|2,h=>by cases h;exact He a2|i+3,h=>by simp at h
theorem runHands_holds:Rows.RunHandsSaid:=
 OpenClaim.holds_of_wide_leaving 6 f6 rfl rfl rfl rfl rfl rfl rfl ⟨rfl,rfl,rfl,rfl,rfl⟩ rfl rfl rfl rfl rfl (by kernel_rfl) func6 (by kernel_rfl)
  (of_decide_eq_true (by kernel_rfl)) (by unfold Func.isWrapper;rw[if_neg (of_decide_eq_false (by kernel_rfl))];exact⟨rfl,rfl⟩)
  (λos started H enc _=>runHands_lifted os started H enc)
end
end Go.Proofs.YtknejlcijdngoaaGreat
