/- The changes made by operations and systems lead from the rows before to the rows after, and back: the law TopChanges returns true for every two lists of ops, every list of systems and number of hands; no condition. -/
import Derived.Test.YtknejlcijdngoaaGreatTQ8
set_option linter.defProp false
set_option linter.unusedVariables false
set_option linter.unusedSimpArgs false
set_option linter.unusedSectionVars false
set_option maxHeartbeats 16000000
set_option maxRecDepth 100000
open Bool renaming false→ay,true→aw
open Go renaming TypeId→aA,Value→ao
open Go.Proofs.Tryz renaming prog→aj
open Option renaming none→ai
namespace Go.Proofs.YtknejlcijdngoaaGreat
section
open Go.RowKit Go.ChangeShapes Go.WideShapes Go.ChangeAt Go.Deep
theorem topChanges_lifted (os:Os)(started:os.Started)(H:Type)(enc:aA×ao->H):ReturnsInLeavingWide {} Tryz.checked os 9 .any (Rows.topChangesSpec.pre6 enc aj Tryz.f9 Rows.topChangesRow.domain ay) (Rows.topChangesSpec.post enc aj Tryz.f9 ay aw ay ay):=by
 refine UB started (by kernel_rfl) Tryz.func9 (by decide+kernel) rfl rfl (λds h=> ?_) (ChangeSpec.witness6 (enc:=enc) (C:=Tryz.checked) ay ⟨#[],#[.slice ai 0 0,.slice ai 0 0,.slice ai 0 0,.int .i64 0],[]⟩ 8 (by kernel_rfl) (by kernel_rfl) (by kernel_rfl) (by kernel_rfl)) ?_
 ·match ds,h with
  | [_,_,_,_],_=>rfl
 intro W base args ds p KB hA bJ kJ;rw[Tryz.params9]at hA KB kJ;obtain⟨v0,v1,v2,v3,d0,d1,d2,d3,p0,p1,p2,p3,rfl,rfl,rfl,h0,h1,h2,h3⟩:=trodAll_four hA;obtain⟨A0,c0,a0,rfl,n0,g0,f0,e0,m0⟩:=zR 0 kJ rfl rfl (KB 0 22 v0 rfl rfl) h0 (λx hx=>bJ x (by simp[hx]));obtain⟨A1,c1,a1,rfl,n1,g1,f1,e1,m1⟩:=zR 1 kJ rfl rfl (KB 1 22 v1 rfl rfl) h1 (λx hx=>bJ x (by simp[hx]));obtain⟨A2,c2,a2,rfl,n2,f2,g2⟩:=Hp (KB 2 23 v2 rfl rfl) h2 (λx hx=>bJ x (by simp[hx]));obtain⟨a3,rfl,rfl,rfl,f3⟩:=open_int Tryz.underlying3 (KB 3 3 v3 rfl rfl) h3;refine⟨λi v h=> ?_,λPost=>OY A0 A1 A2 c0 c1 c2 a0 a1 a2 a3 W g0 (by omega) (λo ho=>(f0 o ho).1) g1 (by omega) (λo ho=>(f1 o ho).1) f2 n2 Post⟩;exact match i,h with
  |0,h=>by cases h;exact Mf (by decide) rfl g0 c0
  |1,h=>by cases h;exact Mf (by decide) rfl g1 c1
  |2,h=>by cases h;exact Xo (by decide) rfl f2 c2
  |3,h=>by cases h;exact Xn a3
  |i+4,h=>by simp at h
theorem topChanges_holds:Rows.TopChangesSaid:=
 OpenClaim.holds_of_wide_leaving 9 Tryz.f9 rfl rfl rfl rfl rfl rfl rfl ⟨rfl,rfl,rfl,rfl,rfl⟩ rfl rfl rfl rfl rfl (by kernel_rfl) Tryz.func9 (by kernel_rfl)
  (of_decide_eq_true (by kernel_rfl)) (by unfold Func.isWrapper;rw[if_neg (of_decide_eq_false (by kernel_rfl))];exact⟨rfl,rfl⟩)
  (λos started H enc _=>topChanges_lifted os started H enc)
end
end Go.Proofs.YtknejlcijdngoaaGreat
