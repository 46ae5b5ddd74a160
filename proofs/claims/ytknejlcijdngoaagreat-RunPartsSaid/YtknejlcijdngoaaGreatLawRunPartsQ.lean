/- Running the first of some systems and then the others has the effect of running all of them: the law RunParts returns true for every list of ops, of systems, every cut and number of hands; no condition. -/
import Derived.Test.YtknejlcijdngoaaGreatPQ8
set_option linter.unusedVariables false
set_option linter.unusedSimpArgs false
set_option linter.unusedSectionVars false
set_option maxHeartbeats 16000000
set_option maxRecDepth 100000
open Bool renaming false→aw,true→aA
open Go renaming TypeId→aF,Value→aq
open Option renaming none→ai
namespace Go.Proofs.YtknejlcijdngoaaGreat
section
open Go.RowKit Go.ChangeShapes Go.WideShapes Go.ChangeAt Go.Deep
theorem runParts_lifted (os:Os)(started:os.Started)(H:Type)(enc:aF×aq->H):ReturnsInLeavingWide {} Tryz.checked os 4 .any (Rows.runPartsSpec.pre6 enc Tryz.prog Tryz.f4 Rows.runPartsRow.domain aw) (Rows.runPartsSpec.post enc Tryz.prog Tryz.f4 aw aA aw aw):=by
 refine Ti started (by kernel_rfl) Tryz.func4 (by decide+kernel) rfl rfl (λds h=> ?_) (ChangeSpec.witness6 (enc:=enc) (C:=Tryz.checked) aw ⟨#[],#[.slice ai 0 0,.slice ai 0 0,.int .i64 0,.int .i64 0],[]⟩ 8 (by kernel_rfl) (by kernel_rfl) (by kernel_rfl) (by kernel_rfl)) ?_
 ·match ds,h with
  | [_,_,_,_],_=>rfl
 intro W base args ds p L3 hA bE km;rw[Tryz.params4]at hA L3 km;obtain⟨v0,v1,v2,v3,d0,d1,d2,d3,p0,p1,p2,p3,rfl,rfl,rfl,h0,h1,h2,h3⟩:=trodAll_four hA;obtain⟨A0,c0,a0,rfl,n0,g0,f0,e0,m0⟩:=Jv 0 km rfl rfl (L3 0 22 v0 rfl rfl) h0 (λx hx=>bE x (by simp[hx]));obtain⟨A1,c1,a1,rfl,n1,f1,g1,e1,m1⟩:=aiR 1 km rfl rfl (L3 1 23 v1 rfl rfl) h1 (λx hx=>bE x (by simp[hx]));obtain⟨a2,rfl,rfl,rfl,f2⟩:=open_int Tryz.underlying3 (L3 2 3 v2 rfl rfl) h2;obtain⟨a3,rfl,rfl,rfl,f3⟩:=open_int Tryz.underlying3 (L3 3 3 v3 rfl rfl) h3;refine⟨λi v h=> ?_,λPost=>ajL A0 A1 c0 c1 a0 a1 a2 a3 W g0 (by omega) (λo ho=>(f0 o ho).1) f1 n1 e1 m1 Post⟩;exact match i,h with
  |0,h=>by cases h;exact V4 (by decide) rfl g0 c0
  |1,h=>by cases h;exact V5 (by decide) rfl f1 c1
  |2,h=>by cases h;exact V3 a2
  |3,h=>by cases h;exact V3 a3
  |i+4,h=>by simp at h
theorem runParts_holds:Rows.RunPartsSaid:=
 OpenClaim.holds_of_wide_leaving 4 Tryz.f4 rfl rfl rfl rfl rfl rfl rfl ⟨rfl,rfl,rfl,rfl,rfl⟩ rfl rfl rfl rfl rfl (by kernel_rfl) Tryz.func4 (by kernel_rfl)
  (of_decide_eq_true (by kernel_rfl)) (by unfold Func.isWrapper;rw[if_neg (of_decide_eq_false (by kernel_rfl))];exact⟨rfl,rfl⟩)
  (λos started H enc _=>runParts_lifted os started H enc)
end
end Go.Proofs.YtknejlcijdngoaaGreat
