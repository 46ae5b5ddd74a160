/- After any operations and systems, with any number of goroutines, a world behaves like a plain list of entities: the law TopModel returns true for every list of ops, every list of systems and number of hands; no condition. -/
import Derived.Test.YtknejlcijdngoaaGreatTX6
set_option linter.defProp false
set_option linter.unusedVariables false
set_option linter.unusedSimpArgs false
set_option linter.unusedSectionVars false
set_option maxHeartbeats 16000000
set_option maxRecDepth 100000
open Bool renaming false->aq,true->ak
open Go renaming TypeId->cD,Value->aB
open Go.Proofs.Tryz renaming prog->ai
open Option renaming none->ah
namespace Go.Proofs.YtknejlcijdngoaaGreat
section
open Go.RowKit Go.ChangeShapes Go.WideShapes Go.ChangeAt Go.Deep Go.Proofs.Tryz
theorem topModel_lifted(os:Os)(started:os.Started)(H:Type)(enc:cD×aB->H):ReturnsInLeavingWide {} Tryz.checked os 7 .any (Rows.topModelSpec.pre6 enc ai f7 Rows.topModelRow.domain aq) (Rows.topModelSpec.post enc ai f7 aq ak aq aq):=by
 refine OX started (by kernel_rfl) func7 (by decide+kernel) rfl rfl (λds h=> ?_) (ChangeSpec.witness6 (enc:=enc) (C:=Tryz.checked) aq ⟨#[],#[.slice ah 0 0,.slice ah 0 0,.int .i64 0],[]⟩ 8 (by kernel_rfl) (by kernel_rfl) (by kernel_rfl) (by kernel_rfl)) ?_
 ·match ds,h with|[_,_,_],_=>rfl
 intro W base args ds p Vj hA lW K3;rw[params7]at hA Vj K3;obtain⟨v0,v1,v2,d0,d1,d2,p0,p1,p2,rfl,rfl,rfl,h0,h1,h2⟩:=trodAll_three hA;obtain⟨A0,c0,a0,rfl,n0,g0,f0,e0,m0⟩:=FQ 0 K3 rfl rfl (Vj 0 22 v0 rfl rfl) h0 (λx hx=>lW x (by simp[hx]));obtain⟨A1,c1,a1,rfl,n1,f1,g1⟩:=Dh (Vj 1 23 v1 rfl rfl) h1 (λx hx=>lW x (by simp[hx]));obtain⟨a2,rfl,rfl,rfl,f2⟩:=open_int underlying3 (Vj 2 3 v2 rfl rfl) h2;refine⟨λi v h=> ?_,λPost=>P' A0 A1 c0 c1 a0 a1 a2 W g0 (by omega) (λo ho=>(f0 o ho).1) f1 n1 Post⟩;exact match i,h with|0,h=>by cases h;exact QM (by decide) rfl g0 c0|1,h=>by cases h;exact QN (by decide) rfl f1 c1|2,h=>by cases h;exact QL a2|i+3,h=>by simp at h
theorem topModel_holds:Rows.TopModelSaid:=
 OpenClaim.holds_of_wide_leaving 7 f7 rfl rfl rfl rfl rfl rfl rfl ⟨rfl,rfl,rfl,rfl,rfl⟩ rfl rfl rfl rfl rfl (by kernel_rfl) func7 (by kernel_rfl)
  (of_decide_eq_true (by kernel_rfl)) (by unfold Func.isWrapper;rw[if_neg (of_decide_eq_false (by kernel_rfl))];exact⟨rfl,rfl⟩)
  (λos started H enc _=>topModel_lifted os started H enc)
end
end Go.Proofs.YtknejlcijdngoaaGreat
