/- Several texts in one, made short by a program of mine. -/
import Derived.Test.YtknejlcijdngoaaGreatEQ6
import Derived.Deep.AppendLies
import Derived.RangeFuncNested
import Derived.RangeFuncBound
import Derived.RangeFuncCalls
import Derived.RangeFuncLeaves
import Derived.RegionIn
import Derived.BigRegionIn
import Derived.OwnWalkIn
import Derived.TacticsInMore
import Derived.LoopNIn
import Derived.LoopIn
import Derived.Sort.MapsRangeIn
import Derived.Maps.OwnIn
import Derived.Deep.RegionHeld3
set_option linter.unusedVariables false
set_option linter.unusedSimpArgs false
set_option linter.unusedSectionVars false
set_option maxHeartbeats 16000000
set_option maxRecDepth 100000
open Array renaming getD_eq_getD_getElem?→bF,getElem?_eq_some_iff→aL,getElem?_modify→bw,replicate_succ→dR,replicate_zero→dS
open Bool renaming eq_iff_iff→nJ,false→aw,true→aA
open Classical renaming choose→r9
open Go renaming Frame→bm,FuncId→bQ,Goroutine→ay,Operand→cw,Program→aS,TypeId→aF,Value→aq,World→ah
open Go.Act renaming eval→bV
open Go.Deferred renaming ofValue→gM
open Go.Frame renaming finish_at→mV
open Go.Instr renaming buildSlice→fh
open Go.Lib renaming hid→af
open Go.Region renaming wanted→bu
open Go.Result renaming andThen→dU
open Go.Value renaming int→aZ,oneCell'→jm,ownBlock→fK,slice→dZ
open Go.World renaming cell?→c8,cell?_of_block→c9,setCell→dA,size_alloc→cQ
open Go.World.ownsRow renaming lt→lq
open Int renaming toNat_natCast→dL
open List renaming append_assoc→dn,append_nil→eN,append_toArray→ec,cons_append→dJ,flatMap_append→eI,flatMap_cons→cM,foldl_append→oc,getD_eq_getElem?_getD→bq,getElem?_cons_succ→eO,getElem?_eq_getElem→ao,getElem?_map→dK,getElem_mem→aU,length_append→bM,length_cons→aj,length_nil→ax,length_take→dW,map_append→dX,map_cons→fA,mem_append→iV,mem_filter→cu,mem_iff_getElem→dp,mem_map→aN,mem_of_mem_take→oY,mem_range→mD,mem_singleton→eC,nil_append→cL,pairwise_iff_getElem→jc,push_toArray→eX,range→aG,size_toArray→au,take_append_drop→nQ,take_length→cD,take_of_length_le→cI,take_succ_eq_append_getElem→aR
open List.Perm renaming append_left→dE,swap→cB
open List.range renaming loop→aB
open Nat renaming le_refl→az,le_trans→bP,lt_of_lt_of_le→bX,one_mul→jR,zero_add→aC,zero_le→bS
open Option renaming getD_some→bI,none→ai,some→ae
open Option.some renaming inj→aY
open Or renaming inl→br,inr→bR
namespace Go.Proofs.YtknejlcijdngoaaGreat
section
open Go.RowKit
noncomputable def lT (m:jS)(a:Hd)(k:Nat):List Hd:=((kids m a).take k).flatMap λc=>c::under m c
theorem J' (m:jS)(a:Hd)(k:Nat)(h:k<(kids m a).length):lT m a (k+1)=(lT m a k++[(kids m a)[k]])++under m (kids m a)[k]:=by unfold lT;rw[aR h,eI];simp
theorem Bz (m:jS)(hm:jK m)(a:Hd):lT m a (kids m a).length=under m a:=by unfold lT;rw[cD,vI hm.nodup hm.uy]
theorem Ek (m:jS)(hm:jK m)(a:Hd)(k:Nat):(lT m a k).length<=m.length:=by
 refine bP ?_ (Ay hm.nodup hm.uy a);rw[<-Bz m hm];unfold lT;rw[cD]
 conv=>rhs;rw[<-nQ k (kids m a),eI]
 rw[bM];omega
theorem nE {G:Nat->Prop}{w0 w:ah}{l:List bT}{v u:aq}{cs ds:List Hd}{ops:Array Oper}{o:Oper}{a:Act}{K:Act->ah->Prop}{Q:Exit->Act->ah->Prop}{X:Prop}(qv:o.guard=ai)(s x:cw)(ho:o.op=.call {callee:=.builtin .append,args:= #[s,x],argTypes:= #[122,122]})(hI:In G w0 (jF v cs::jF u ds::l) w)(hs:a.eval s=v)(hx:a.eval x=u)(hl:cs.length+ds.length<=1099511627776)(h: ∀v' w',In G w0 (jF v' (cs++ds)::jF u ds::l) w'->K (a.put o.dst v') w'):if bu o (yielded ops a.tmps)=aA then Oper.wp Tryz.prog o a w K Q else X:=by
 obtain⟨i0,qX,uH,vi,uC⟩:=info_parts mg;refine B8 qv s x 122 ho 43 i0 _ 2 16 Tryz.underlying122 qX uH vi uC rfl (by decide) hs hx hI.rowAt hI.swap.rowAt ?_ (by unfold maxLen;omega) (by omega) ?_
 ·intro c hc;obtain⟨d,_,hd⟩:=List.mem_flatMap.1 hc;simp[hC]at hd;rcases hd with rfl|rfl<;>rfl
 ·intro v' w' h1 h2 h3;have:=hI.aam h1 h2 h3;rw[<-eI,<-bM]at this;exact h v' w' this
theorem Oy {p:Nat}{m:jS}(hm:jK m)(hl:m.length<=1099511627776)(rk:Hd->Nat)(R:Nat)(hr:zI m rk R): ∀(n:Nat) (a:Hd) {G:Nat->Prop} {w0 w:ah} {l:List bT},R-rk a<n->In G w0 (jE p m::l) w->Calls Tryz.prog 129 #[.pointer (ae ⟨p,0,ai⟩),nw a] w λe w'=> ∃v,e=.returned v/\In G w0 (jF v (under m a)::jE p m::l) w':=by
 intro n
 induction n with
 |zero=>intro a G w0 w l h;omega
 |succ n ih=>
  intro a G w0 w l hn h;have k9:=af h;have IH:=af @ih;have HN:=af hn;have HR:=af hr;have HM:=af hm;clear h ih hn hr hm;obtain⟨a1,a2⟩:=a;rw[jV];obtain⟨i0,qX,uH,vi,uC⟩:=info_parts mg
  go_enter Tryz.func129,Tryz.ntmps129
  go_upto_region 2 with(fail)
  refine cc (In G w0 (jE p m::bg w.heap.size 43 (ints [a1,a2])::l)) ((k9.out.alloc 43 (ints [a1,a2])).swap) ?_;generalize w.heap.size=ab;intro w1 hI;have k1:row? w1 ab 0 2=ae (ints [a1,a2]):=hI.swap.blk.bt rfl;have pY:=af hI;clear hI k9
  go_wp2_with fail
  refine(IZ pY.out (a1,a2) hl).mono ?_;rintro e w2 ⟨kv,rfl,gX⟩;obtain⟨kA,kc,rfl,_,_,_⟩:=rF gX.rowAt;have QY:=XN m (a1,a2);have gd:Hid (In G w0 (dP 43 2 (.slice ai 0 0) 0 []::jF (.slice kA (kids m (a1,a2)).length kc) (kids m (a1,a2))::jE p m::bg ab 43 (ints [a1,a2])::l) w2):=In.tW gX _ _;have HU:=af (Bz m HM.out (a1,a2));clear gX pY k1
  go_wp2_with fail
  go_loopw [12,5] (λi out w'=> ∃k:Nat,k<=(kids m (a1,a2)).length/\i=.int .i64 k/\In G w0 (jF out (lT m (a1,a2) k)::jF (.slice kA (kids m (a1,a2)).length kc) (kids m (a1,a2))::jE p m::bg ab 43 (ints [a1,a2])::l) w') (λi _ _=>(kids m (a1,a2)).length-(intOf i).toNat)
  case atStart=>exact⟨0,bS _,rfl,gd.out⟩
  case round=>
   clear gd;obtain⟨k,hk,rfl,hI⟩:=hrel;have HI:=af hI;clear hI;by_cases bE:k<(kids m (a1,a2)).length
   ·have xH:(k:Int)<(kids m (a1,a2)).length:=by omega
    obtain⟨A',c',e0,_,Xk,fY⟩:=rF HI.out.swap.rowAt;injection e0 with e1 e2 e3
    subst e1;subst e3;obtain⟨g,rfl,q1⟩:=fY k bE;have HS:=af (J' m (a1,a2) k bE);have agZ:Hid (eG m (kids m (a1,a2))[k]=ae (a1,a2)):=(lB HM.out.nodup).1 (aU bE);have hle:=Ek m HM.out (a1,a2) k;have adG:=Ek m HM.out (a1,a2) (k+1);rw[HS.out]at adG;have adF:((kids m (a1,a2)).length:Int)<=kc:=by omega
    clear fY e2;generalize (kids m (a1,a2))[k]=c at *;obtain⟨c1,c2⟩:=c;have aaV:=Ay HM.out.nodup HM.out.uy (c1,c2);simp only[bM,aj,ax]at adG
    go_upto_region 5 with(fail)
    refine cc (In G w0 (bg wr.heap.size 43 (ints [c1,c2])::jF u5 (lT m (a1,a2) k)::jF (.slice (ae ⟨g,0,ai⟩) (kids m (a1,a2)).length kc) (kids m (a1,a2))::jE p m::bg ab 43 (ints [a1,a2])::l)) (HI.out.struct 43 [0,0] [c1,c2] rfl) ?_;generalize wr.heap.size=cb;intro w3 fF;have q2:row? w3 cb 0 2=ae #[.int .i64 c1,.int .i64 c2]:=fF.blk.bt (xs:=[c1,c2]) rfl;have gm:Hid (In G w0 (jE p m::jF u5 (lT m (a1,a2) k)::bg cb 43 (ints [c1,c2])::jF (.slice (ae ⟨g,0,ai⟩) (kids m (a1,a2)).length kc) (kids m (a1,a2))::bg ab 43 (ints [a1,a2])::l) w3):=(fF.fourth).perm (((cB _ _ _)).cons _);clear fF q1;have hRk:R-rk (c1,c2)<n:=by have h1:=HR.out _ _ agZ.out;have h2:=HN.out;omega
    have qw:(lT m (a1,a2) k).length+1<=1099511627776:=by omega
    have BO:(lT m (a1,a2) k++[(c1,c2)]).length+(under m (c1,c2)).length<=1099511627776:=by rw[bM];simp;omega
    have acW:Hid (∀(L:List bT) (W:ah),In G w0 L W->In G w0 (jF (.slice (ae ⟨W.heap.size,0,ai⟩) 1 1) [(c1,c2)]::L) (W.alloc (.cells #[.int .i64 c1,.int .i64 c2] 43))):=λL W h=>h.ad4 43 [.int .i64 c1,.int .i64 c2]
    have sA:row? (w3.alloc (.cells #[.int .i64 c1,.int .i64 c2] 43)) cb 0 2=ae #[.int .i64 c1,.int .i64 c2]:=(gm.out.third.blk.after ((Below.refl _ _).alloc (az _) _)).bt (xs:=[c1,c2]) rfl;have HSA:=af sA;have HL1:=af qw;have HL2:=af BO;have HRK:=af hRk;clear sA qw BO hRk hle adG aaV;generalize sJ:lT m (a1,a2) k=cs at *
    go_region_held3 (λW=>row? W cb 0 2=ae #[.int .i64 c1,.int .i64 c2]) (first|assumption|exact HSA.out|go_keep)
     (first
       |(go_at_call 129;refine(IH.out (c1,c2) HRK.out gm.out.drew).mono ?_;rintro e w4 ⟨uv,rfl,fX⟩;have s4:row? w4 cb 0 2=ae #[.int .i64 c1,.int .i64 c2]:=fX.fourth.blk.bt (xs:=[c1,c2]) rfl;have H4:=af fX;clear fX)
       |(go_at_call 129;refine(IH.out (c1,c2) HRK.out (acW.out _ _ gm.out.drew).swap).mono ?_;rintro e w4 ⟨uv,rfl,fX⟩;have s4:row? w4 cb 0 2=ae #[.int .i64 c1,.int .i64 c2]:=fX.fifth.blk.bt (xs:=[c1,c2]) rfl;have H4:=af fX;clear fX)
       |(go_at_call 129;refine(IH.out (c1,c2) HRK.out H5.out.third).mono ?_;rintro e w4 ⟨uv,rfl,fX⟩;have s4:row? w4 cb 0 2=ae #[.int .i64 c1,.int .i64 c2]:=fX.fifth.blk.bt (xs:=[c1,c2]) rfl;have H4:=af fX;clear fX)
       |(refine nE (by rfl) (.tmp 16) (.tmp 18) (by rfl) (acW.out _ _ gm.out.drew).third (by rfl) (by rfl) HL1.out ?_;intro v1 w5 eH;have s5:row? w5 cb 0 2=ae #[.int .i64 c1,.int .i64 c2]:=eH.fourth.blk.bt (xs:=[c1,c2]) rfl;have H5:=af eH;clear eH)
       |(refine nE (by rfl) (.tmp 16) (.tmp 18) (by rfl) (acW.out _ _ H4.out).fourth (by rfl) (by rfl) HL1.out ?_;intro v1 w5 eH;have s5:row? w5 cb 0 2=ae #[.int .i64 c1,.int .i64 c2]:=eH.fifth.blk.bt (xs:=[c1,c2]) rfl;have H5:=af eH;clear eH)
       |(refine nE (by rfl) (.tmp 16) (.tmp 18) (by rfl) H4.out.fourth.fourth.swap (by rfl) (by rfl) HL1.out ?_;intro v1 w5 eH;have s5:row? w5 cb 0 2=ae #[.int .i64 c1,.int .i64 c2]:=eH.fifth.blk.bt (xs:=[c1,c2]) rfl;have H5:=af eH;clear eH)
       |(refine nE (by rfl) (.tmp 19) (.tmp 22) (by rfl) H5.out.swap.drop (by rfl) (by rfl) HL2.out ?_;intro v2 w6 iC;have s6:row? w6 cb 0 2=ae #[.int .i64 c1,.int .i64 c2]:=iC.fourth.blk.bt (xs:=[c1,c2]) rfl;have H6:=af iC;clear iC)
       |(refine nE (by rfl) (.tmp 19) (.tmp 22) (by rfl) H4.out.third.fourth.drop (by rfl) (by rfl) HL2.out ?_;intro v2 w6 iC;have s6:row? w6 cb 0 2=ae #[.int .i64 c1,.int .i64 c2]:=iC.fourth.blk.bt (xs:=[c1,c2]) rfl;have H6:=af iC;clear iC))
    all_goals
     have kE:Hid (In G w0 (jF v2 (cs++[(c1,c2)]++under m (c1,c2))::jF (.slice (ae ⟨g,0,ai⟩) (kids m (a1,a2)).length kc) (kids m (a1,a2))::jE p m::bg ab 43 (ints [a1,a2])::l) w6):=H6.out.swap.drop.third.drop.third.swap;rw[<-HS.out]at kE;clear H6
     go_wp2_with fail
     go_roundw
     case rel=>exact⟨k+1,by omega,by go_num,kE.out⟩
     case measure=>simp[intOf];omega
   ·have:k=(kids m (a1,a2)).length:=by omega
    subst this;rw[HU.out]at HI
    go_wp2_with fail
    go_ret;exact⟨_,rfl,(HI.out.swap.drop.third.drop)⟩
end
section
open Rel
open Go.Conc Go.ConcN
open Go.Conc.Lib (addFn waitFn)
open Go.ConcR (Payload WgAt stA)
open Go.ConcR.Gen (body_wait body_add nm_add nm_wait)
open Go.RowKit
section
variable {φ:Ph} {Fin:(Nat->Prop)->ay->ah->Prop} {μ:Nat->Prop} {w:ah} {r:Nat}
theorem rY {AnchW:(Nat->Prop)->ay->ah->Prop}{g g':ay}(gI: ∀(Stop:ay->ah->Prop) (m:Nat),φ.GP μ Stop m g' w->φ.GP μ Stop (m+1) g w)(h:φ.Spawns (φ.Fin AnchW) r μ g' w):φ.Spawns (φ.Fin AnchW) r μ g w:=by
 cases r with
 |zero=>obtain⟨m,h⟩:=h;exact⟨m+1,gI _ _ h⟩
 |succ r=>obtain⟨m,h⟩:=h;exact⟨m+1,gI _ _ h⟩
end
noncomputable def C7:Code:=match qj with| .seq _ (.seq (.seq _ (.block _ (.loop x))) _)=>x|_=>.skip
noncomputable def En:Code:=match qj with| .seq _ (.seq _ x)=>x|_=>.skip
structure EF (φ:Ph) (wp:ah) (w:ah):Prop where
 Y1: ∀b,φ.Std b->w.heap[b]? =wp.heap[b]?
 pay: ∀b,φ.CB b->fz w b=fz wp b
 size:wp.heap.size<=w.heap.size
 os:w.os=wp.os
 output:w.output=wp.output
structure EH0 (φ:Ph) (wp:ah) (bn bf:Nat) (jf:bQ) (caps:Array aq):Prop where
 O:φ.Ok
 hP:φ.P=Tryz.prog
 FK:φ.ty=189
 hz:φ.z=.int .i64 0
 Xi: ∀p,p<φ.nj-> ∃n,φ.jv p=.int .i64 n
 rn:φ.od bn
 rf:φ.od bf
 cn:wp.cell? ⟨bn,0,ai⟩=ae (.chan (ae φ.Ch))
 cf:wp.cell? ⟨bf,0,ai⟩=ae (.func (.func jf) #[] caps)
 hJ:CI φ wp jf caps
 rs: ∀b,φ.od b->φ.Std b
 lt: ∀b,φ.Std b\/φ.CB b\/b=φ.Wg->b<wp.heap.size
section
variable {φ:Ph} {wp w aD:ah} {bn bf:Nat} {jf:bQ} {caps:Array aq} {μ:Nat->Prop} {cs:List bm} {r:Nat}
theorem EF.mr (h:EF φ wp w)(m:φ.MR μ w aD):EF φ wp aD:=⟨λb hb=>(m.Y1 b hb).trans (h.Y1 b hb),λb hb=>(m.pay b hb).trans (h.pay b hb),bP h.size m.size,m.os.trans h.os,m.output.trans h.output⟩
theorem EF.al (H:EH0 φ wp bn bf jf caps)(h:EF φ wp w)(m:Ph.Al w aD):EF φ wp aD:=by have hs:=h.size;refine⟨λb hb=>(m.rest b (by have:=H.lt b (.inl hb);omega)).trans (h.Y1 b hb),λb hb=> ?_,bP h.size m.size,m.os.trans h.os,m.output.trans h.output⟩;unfold fz;rw[m.rest b (by have:=H.lt b (.inr (.inl hb));omega)];exact h.pay b hb
theorem EF.wg (H:EH0 φ wp bn bf jf caps)(h:EF φ wp w)(a:Addr)(ha:a.block=φ.Wg)(v:aq):EF φ wp (w.setCell a v):=by
 have blk: ∀b,b≠φ.Wg->(w.setCell a v).heap[b]? =w.heap[b]?:=λb hb=>Below.heap_setCell w a v b (by rw[ha];exact hb)
 refine⟨λb hb=>(blk b λe=>H.O.agF (e▸hb)).trans (h.Y1 b hb),λb hb=> ?_,by simpa using h.size,(show(w.setCell a v).os=w.os by unfold dA;split<;>rfl).trans h.os,(show(w.setCell a v).output=w.output by unfold dA;split<;>rfl).trans h.output⟩;unfold fz;rw[blk b λe=>H.O.UW (e▸hb)];exact h.pay b hb
end
noncomputable def AA (n nj:Int)(fv:aq)(N Wg:Nat)(t7 t10 t13 t14 t15 t16 t17 t18:aq):bm:=(base 47).at ⟨wU n nj fv N t7 (.pointer (ae ⟨Wg,0,ai⟩)) t10 (.int .i64 nj) (.int .i64 nj) t13 t14 t15 t16 t17 t18 (.int .i64 n) (.int .i64 n) (.bool aw) (.func (.func 105) #[] #[.pointer (ae ⟨N+2,0,ai⟩),.pointer (ae ⟨N,0,ai⟩)]) (.tuple #[]) (.int .i64 n) undef,[]⟩ [.inRegion (match En with| .region _ ops _=>ops|_=> #[]) [0]]
section
variable {φ:Ph} {wp:ah} {N n nj:Nat} {fv:aq} {jf:bQ} {caps:Array aq} {cs:List bm} {t7 t10 t13 t14 t15 t16 t17 t18:aq}
theorem P1 (H:EH0 φ wp (N+2) N jf caps)(hn0:1<=n)(hn:n<=8): ∀(r:Nat),r<=n-> ∀(μ:Nat->Prop) (w:ah) (t21 t22 t23 t24:aq),(r<n->t22=.func (.func 105) #[] #[.pointer (ae ⟨N+2,0,ai⟩),.pointer (ae ⟨N,0,ai⟩)]/\t23=.tuple #[]/\t24=.int .i64 ((n-r:Nat):Int))->EF φ wp w->WgLive φ.ty φ.Wg w->φ.Spawns (φ.Fin λ_=>Gc φ k7 (EF φ wp) (AA n nj fv N φ.Wg t7 t10 t13 t14 t15 t16 t17 t18) cs) r μ (G ((base 47).at ⟨wU n nj fv N t7 (.pointer (ae ⟨φ.Wg,0,ai⟩)) t10 (.int .i64 nj) (.int .i64 nj) t13 t14 t15 t16 t17 t18 (.int .i64 n) (.int .i64 ((n-r:Nat):Int)) t21 t22 t23 t24 undef,[]⟩ [.code C7,.inLoop C7,.inBlock 2,.code En]) cs) w:=by
 have L:Go.Conc.Lib.WgLib φ.P k7:=H.hP▸Ze;have hP:=H.hP;intro r
 induction r with
 |zero=>
  intro _ μ w t21 t22 t23 t24 ht hF hl;obtain⟨rfl,rfl,rfl⟩:=ht (by omega);refine⟨100,?_⟩;simp only[C7,AA,En,qj,kI,wU,Tryz.f47,bI,Nat.sub_zero];refine cx ?_;refine aiK ?_;refine be (.bool aw) rfl rfl (by simp[base]) (λ_ _=>by go_simp) (λ_ _=>by simp[go_sem, *]) ?_;walk_nrm;refine db ?_;refine cx ?_;refine iZ rfl ?_;refine QK rfl ?_;refine aiK ?_;refine pG (c:=body_wait k7) rfl rfl (by simp[base]) rfl L.f_wait (nm_wait k7) rfl ?_;refine Goes.mono (n:=3) ?_ (by omega);have hW:=λb₀ a₀ ops₀ i₀ rest₀ k₀=>Qa (φ:=φ) (μ:=μ) (L:=k7) (F:=EF φ wp) (AnchW:=λ_=>Gc φ k7 (EF φ wp) (Frame.at b₀ a₀ (.inRegion ops₀ (i₀::rest₀)::k₀)) cs) (b₀:=b₀) (a₀:=a₀) (ops₀:=ops₀) (i₀:=i₀) (rest₀:=rest₀) (k₀:=k₀) (cs:=cs) L (λ_ _ m h=>h.mr m) (λg w h=>h) w ⟨hF,hl⟩
  have yf:(waitFn k7).ntmps=84:=rfl;simp only[yf,bV,List.map_toArray,fA,List.map_nil,bF,List.getElem?_toArray,eO,List.getElem?_cons_zero,bI,au,aj,ax,Nat.reduceAdd,Nat.reduceSub];exact hW _ _ _ _ _ _
 |succ r ih=>
  intro hr μ w t21 t22 t23 t24 ht hF hl;clear ht;have bE:(((n-(r+1):Nat):Int))<n:=by omega
  have km:=hF.size;have aaQ:=H.lt φ.Wg (.inr (.inr rfl));refine⟨100,?_⟩;simp only[C7,qj,kI,wU,Tryz.f47,bI];refine cx ?_;refine aiK ?_;refine be (.bool aA) rfl rfl (by simp[base]) (λ_ _=>by go_simp) (λ_ _=>by simp[go_sem, *]) ?_;walk_nrm;refine db ?_;refine cx ?_;refine kJ rfl ?_;refine ky ?_;refine cx ?_;refine yH ?_;refine aiK ?_;refine be (.func (.func 105) #[] #[.pointer (ae ⟨N+2,0,ai⟩),.pointer (ae ⟨N,0,ai⟩)]) rfl rfl (by simp[base]) (λ_ _=>by go_simp) (λ_ _=>by simp[go_sem, *]) ?_;walk_nrm;have hf1:φ.P.funcs[104]? =ae Tryz.f104:=by rw[hP];exact Tryz.func104
  refine pG rfl rfl (by simp[base]) rfl hf1 rfl rfl ?_;have yf:Tryz.f104.ntmps=7:=rfl;simp only[yf,bV,List.map_toArray,fA,List.map_nil,bF,List.getElem?_toArray,eO,List.getElem?_cons_zero,bI,au,aj,ax,Nat.reduceAdd,Nat.reduceSub];simp only[dR,dS,eX,ec,cL,dJ];refine cx ?_;refine aiK ?_;refine Goes.stop (λaD dh=> ?_);have UY:=hF.mr dh;have qw:=dh.live hl;have Fi:=UY.size;clear dh hF hl km;have Kr:Ph.Al aD (aD.alloc (.cells #[.pointer (ae ⟨φ.Wg,0,ai⟩)] 232)):=⟨λb hb=>Below.heap_alloc aD _ b hb,by simp,rfl,rfl,rfl⟩;refine⟨rfl,_,aD.alloc (.cells #[.pointer (ae ⟨φ.Wg,0,ai⟩)] 232),_,stepG_value (v:=.pointer (ae ⟨aD.heap.size,0,ai⟩)) rfl rfl (by simp[base]) (by rw[hP];go_simp),Kr,λe he=>by have hm:=mem_listed he;rw[hP]at hm;simp[go_sem, *]at hm,100,?_⟩;have wY:=UY.al H Kr;have BO:WgLive φ.ty φ.Wg (aD.alloc (.cells #[.pointer (ae ⟨φ.Wg,0,ai⟩)] 232)):=let⟨st,sm,h⟩:=qw;⟨st,sm,(Kr.rest φ.Wg (by omega)).trans h⟩;have c1:(aD.alloc (.cells #[.pointer (ae ⟨φ.Wg,0,ai⟩)] 232)).heap[aD.heap.size]? =ae (.cells #[.pointer (ae ⟨φ.Wg,0,ai⟩)] 232):=heap_alloc_new aD _;have m1:uk μ aD (aD.alloc (.cells #[.pointer (ae ⟨φ.Wg,0,ai⟩)] 232)) aD.heap.size:=.inr ⟨az _,by simp⟩;have z1:wp.heap.size<=aD.heap.size:=Fi;generalize uk μ aD (aD.alloc (.cells #[.pointer (ae ⟨φ.Wg,0,ai⟩)] 232))=μ1 at *;generalize aD.alloc (.cells #[.pointer (ae ⟨φ.Wg,0,ai⟩)] 232)=w2 at *;generalize lf:aD.heap.size=b1 at *;clear Kr UY qw Fi lf;clear aD;walk_nrm;refine Goes.stop (λaD dh=> ?_);have UY:=wY.mr dh;have qw:=dh.live BO;have Fi:=UY.size;have c1':=(dh.own b1 m1).trans c1;clear dh wY BO c1;have Kr:Ph.Al aD (aD.alloc (.cells #[.func (.func 105) #[] #[.pointer (ae ⟨N+2,0,ai⟩),.pointer (ae ⟨N,0,ai⟩)]] 1)):=⟨λb hb=>Below.heap_alloc aD _ b hb,by simp,rfl,rfl,rfl⟩;refine⟨rfl,_,aD.alloc (.cells #[.func (.func 105) #[] #[.pointer (ae ⟨N+2,0,ai⟩),.pointer (ae ⟨N,0,ai⟩)]] 1),_,stepG_value (v:=.pointer (ae ⟨aD.heap.size,0,ai⟩)) rfl rfl (by simp[base]) (by rw[hP];go_simp),Kr,λe he=>by have hm:=mem_listed he;rw[hP]at hm;simp[go_sem, *]at hm,200,?_⟩;have wY:=UY.al H Kr;have BO:WgLive φ.ty φ.Wg (aD.alloc (.cells #[.func (.func 105) #[] #[.pointer (ae ⟨N+2,0,ai⟩),.pointer (ae ⟨N,0,ai⟩)]] 1)):=let⟨st,sm,h⟩:=qw;⟨st,sm,(Kr.rest φ.Wg (by omega)).trans h⟩;have lt1:b1<aD.heap.size:=(aL.1 c1').1;have c1:(aD.alloc (.cells #[.func (.func 105) #[] #[.pointer (ae ⟨N+2,0,ai⟩),.pointer (ae ⟨N,0,ai⟩)]] 1)).heap[b1]? =ae (.cells #[.pointer (ae ⟨φ.Wg,0,ai⟩)] 232):=(Kr.rest b1 lt1).trans c1';have c2:(aD.alloc (.cells #[.func (.func 105) #[] #[.pointer (ae ⟨N+2,0,ai⟩),.pointer (ae ⟨N,0,ai⟩)]] 1)).heap[aD.heap.size]? =ae (.cells #[.func (.func 105) #[] #[.pointer (ae ⟨N+2,0,ai⟩),.pointer (ae ⟨N,0,ai⟩)]] 1):=heap_alloc_new aD _;have m1':uk μ1 aD (aD.alloc (.cells #[.func (.func 105) #[] #[.pointer (ae ⟨N+2,0,ai⟩),.pointer (ae ⟨N,0,ai⟩)]] 1)) b1:=.inl m1;have m2:uk μ1 aD (aD.alloc (.cells #[.func (.func 105) #[] #[.pointer (ae ⟨N+2,0,ai⟩),.pointer (ae ⟨N,0,ai⟩)]] 1)) aD.heap.size:=.inr ⟨az _,by simp⟩;clear m1;generalize uk μ1 aD (aD.alloc (.cells #[.func (.func 105) #[] #[.pointer (ae ⟨N+2,0,ai⟩),.pointer (ae ⟨N,0,ai⟩)]] 1))=μ2 at *;generalize aD.alloc (.cells #[.func (.func 105) #[] #[.pointer (ae ⟨N+2,0,ai⟩),.pointer (ae ⟨N,0,ai⟩)]] 1)=w2 at *;have z2:wp.heap.size<=aD.heap.size:=Fi;generalize hC:aD.heap.size=C at *;clear Kr UY qw Fi hC c1';clear aD;walk_nrm;refine db ?_;refine cx ?_;refine aiK ?_;refine aaK (.pointer (ae ⟨φ.Wg,0,ai⟩)) rfl rfl (by simp[base]) (λaD dh=>by
   have hc:aD.cell? ⟨b1,0,ai⟩=ae (.pointer (ae ⟨φ.Wg,0,ai⟩)):=by unfold c8;simp only[dh.own b1 m1',c1];rfl
   rw[hP];go_simp) (λaD dh e he=>by
   have hc:aD.cell? ⟨b1,0,ai⟩=ae (.pointer (ae ⟨φ.Wg,0,ai⟩)):=by unfold c8;simp only[dh.own b1 m1',c1];rfl
   rw[hP]at he;simp[go_sem, *]at he;subst he;exact .inr (.inr ⟨rfl,b1,rfl,.inl m1'⟩)) ?_
  walk_nrm;refine pG (c:=body_add k7) rfl rfl (by simp[base]) rfl L.f_add (nm_add k7) rfl ?_;have yf:(addFn k7).ntmps=117:=rfl;simp only[yf,bV,List.map_toArray,fA,List.map_nil,bF,List.getElem?_toArray,eO,List.getElem?_cons_zero,bI,au,aj,ax,Nat.reduceAdd,Nat.reduceSub];have hA:=λb₀ a₀ ops₀ i₀ rest₀ k₀ cs' hT=>aak (φ:=φ) (μ:=μ2) (L:=k7) (F:=λw=>EF φ wp w/\w.heap[b1]? =ae (.cells #[.pointer (ae ⟨φ.Wg,0,ai⟩)] 232)/\w.heap[C]? =ae (.cells #[.func (.func 105) #[] #[.pointer (ae ⟨N+2,0,ai⟩),.pointer (ae ⟨N,0,ai⟩)]] 1))
   (Next:=φ.Spawns (φ.Fin λ_=>Gc φ k7 (EF φ wp) (AA n nj fv N φ.Wg t7 t10 t13 t14 t15 t16 t17 t18) cs) r) (b₀:=b₀) (a₀:=a₀) (ops₀:=ops₀) (i₀:=i₀) (rest₀:=rest₀) (k₀:=k₀) (cs:=cs') (mT:=20) L H.FK
   (λw w' m h=>⟨h.1.mr m,(m.own b1 m1').trans h.2.1,(m.own C m2).trans h.2.2⟩)
   (λw v h=>⟨h.1.wg H (stA φ.Wg) rfl v,(Below.heap_setCell w (stA φ.Wg) v b1 (by simp[stA];omega)).trans h.2.1,(Below.heap_setCell w (stA φ.Wg) v C (by simp[stA];omega)).trans h.2.2⟩) hT w2 ⟨⟨wY,c1,c2⟩,BO⟩
  refine Goes.mono (n:=100) ?_ (by omega);refine hA _ _ _ _ _ _ _ ?_;clear hA;intro w ⟨hF,c1,c2⟩ hl;walk_nrm;refine db ?_;refine aiK ?_;refine be (.func (.func 154) #[] #[.pointer (ae ⟨b1,0,ai⟩),.pointer (ae ⟨C,0,ai⟩)]) rfl rfl (by simp[base]) (λ_ _=>by go_simp) (λ_ _=>by simp[go_sem, *]) ?_;walk_nrm;refine Goes.stop (λaD dh=> ?_);have UY:=hF.mr dh;have qw:=dh.live hl;have d1:=(dh.own b1 m1').trans c1;have d2:=(dh.own C m2).trans c2;have e1:=(aL.1 d1).1;have e2:=(aL.1 d2).1;clear dh hF hl c1 c2;have hK:WK φ wp b1 C (.func (.func 105) #[] #[.pointer (ae ⟨N+2,0,ai⟩),.pointer (ae ⟨N,0,ai⟩)]) ⟨λb=>b=b1\/b=C,λ_=>False,False⟩ aD:=by
   refine⟨.inl rfl,.inr rfl,by unfold c8;simp only[d1];rfl,d2,λb hb=>UY.Y1 b (H.rs b hb),UY.pay,qw,λx hx=> ?_,UY.size,λi hi=>hi.elim⟩;have L4:wp.heap.size<=x/\x<aD.heap.size:=by rcases hx with rfl|rfl<;>omega
   exact⟨λhc=>by have:=H.lt x (.inr (.inl hc));omega,λhc=>by have:=H.lt x (.inl (H.rs x hc));omega,λe=>by have:=H.lt x (.inr (.inr e));omega,L4.2⟩
  have NP: ∀(ops:Array Oper) (i:Nat) (o:Oper) (a:Act) (rest:List Nat) (k:List Item) (cs:List bm),ops[i]? =ae o->bu o (yielded ops a.tmps)=aA->o.op=.go {callee:=.value (.tmp 6),args:= #[],argTypes:= #[]}->a.eval (.tmp 6)=.func (.func 154) #[] #[.pointer (ae ⟨b1,0,ai⟩),.pointer (ae ⟨C,0,ai⟩)]->
   stepG φ.P aA (G ((base 104).at a (.inRegion ops (i::rest)::k)) cs) aD=.spawn (G ((base 104).at (a.put o.dst undef) (.inRegion ops rest::k)) cs) (born φ.P (pw 154 #[.pointer (ae ⟨b1,0,ai⟩),.pointer (ae ⟨C,0,ai⟩)] #[])) aD #[]:=by
   intro ops i o a rest k cs ho hw hop hu;have hr:(execOp a.eval o).run φ.P aD=.ok (.spawn (pw 154 #[.pointer (ae ⟨b1,0,ai⟩),.pointer (ae ⟨C,0,ai⟩)] #[])) aD:=by unfold execOp;simp[hop,resolve,gM,hu,pw]
   have he:(execOp a.eval o).events φ.P aD #[]= #[]:=by unfold execOp;simp[hop,resolve,gM,hu]
   rw[stepG_spawn ho hw (by simp[base]) hr rfl];congr 1;unfold listed;rw[he,seen_none]
  refine⟨rfl,_,_,λb=>b=b1\/b=C,NP _ _ _ _ _ _ _ rfl rfl rfl rfl,(by rintro b (rfl|rfl)<;>assumption),Zj H.O H.hP H.FK H.hz H.Xi H.rn H.rf H.cn H.cf H.hJ hK,?_⟩;clear NP hK;generalize (λb=>μ2 b/\ ¬(λb=>b=b1\/b=C) b)=μ3;walk_nrm;refine rY (λ_ _=>db) ?_;refine rY (λ_ _=>aaJ) ?_;refine rY (λ_ _ h=>sG rfl rfl hf1 rfl h) ?_;walk_nrm;refine rY (λ_ _=>db) ?_;refine rY (λ_ _=>C6) ?_;refine rY (λ_ _=>bD rfl) ?_;simp only[au,aj,ax,Nat.reduceAdd,aC,aG,aB];have XG:IntKind.i64.wrap (((n-(r+1):Nat):Int)+1)=((n-r:Nat):Int):=by rw[IntKind.wrap_i64];omega
  refine rY (λ_ _ h=>be (.int .i64 ((n-r:Nat):Int)) rfl rfl (by simp[base]) (λ_ _=>by go_simp) (λ_ _=>by simp[go_sem, *]) h) ?_;walk_nrm;refine rY (λ_ _ h=>be (.int .i64 ((n-r:Nat):Int)) rfl rfl (by simp[base]) (λ_ _=>by go_simp) (λ_ _=>by simp[go_sem, *]) h) ?_;walk_nrm;refine rY (λ_ _=>db) ?_;refine rY (λ_ _=>GD) ?_;exact ih (by omega) μ3 aD _ _ _ _ (λ_=>⟨rfl,rfl,rfl⟩) UY qw
end
end
section
open Rel
open Go.Conc Go.ConcN
open Go.ConcR (Payload WgAt stA)
open Go.RowKit
noncomputable def yy (n nj:Int)(fv:aq)(N Wg:Nat)(t7 t10 t13 t14 t15 t16 t17 t18:aq):bm:=(base 47).at ⟨wU n nj fv N t7 (.pointer (ae ⟨Wg,0,ai⟩)) t10 (.int .i64 nj) (.int .i64 nj) t13 t14 t15 t16 t17 t18 (.int .i64 n) (.int .i64 n) (.bool aw) (.func (.func 105) #[] #[.pointer (ae ⟨N+2,0,ai⟩),.pointer (ae ⟨N,0,ai⟩)]) (.tuple #[]) (.int .i64 n) (.tuple #[]),[]⟩ [.inRegion (match En with| .region _ ops _=>ops|_=> #[]) []]
structure N2 where
 CB:Nat->Prop
 jl:Nat->Addr->Prop
 J0:Nat->ah->Prop
 JP:(Nat->Prop)->Nat->ah->Prop
structure N2.Ok (J:N2):Prop where
 mK: ∀i a,J.jl i a->J.CB a.block
 Dj: ∀i i' a,J.jl i a->J.jl i' a->i=i'
 jp: ∀(o:Nat->Prop) (w aD:ah) (i:Nat),(∀b,o b->aD.heap[b]? =w.heap[b]?)->(∀a,J.jl i a->aD.cell? a=w.cell? a)->J.JP o i w->J.JP o i aD
 j0: ∀(w aD:ah) (i:Nat),(∀a,J.jl i a->aD.cell? a=w.cell? a)->J.J0 i w->J.J0 i aD
 zV: ∀(o o':Nat->Prop) (w:ah) (i:Nat),(∀b,o b->o' b)->J.JP o i w->J.JP o' i w
noncomputable def Jy (J:N2)(N n nj lo:Nat)(Shun:Nat->Prop):Ph where
 P:=Tryz.prog
 ty:=189
 Wg:=N+3
 Ch:=N+1
 n:=n
 nj:=nj
 lo:=lo
 jv:=λp=>.int .i64 p
 z:=.int .i64 0
 od:=λb=>(b<N+4/\b≠N+1/\b≠N+3/\ ¬J.CB b)/\ ¬Shun b
 Std:=λb=>b<N+4/\b≠N+1/\b≠N+3/\ ¬J.CB b
 CB:=J.CB
 jl:=J.jl
 J0:=J.J0
 JP:=J.JP
theorem aea {J:N2}(K:J.Ok){N n nj lo:Nat}{Shun:Nat->Prop}(vY: ∀b,J.CB b->b<N)(Kw:0<lo)(hn:n<=8):(Jy J N n nj lo Shun).Ok:=by
 refine⟨by simp[Jy],λh=>h.1.2.2.1 rfl,λh=>h.1.2.1 rfl,λh=> ?_,λh=> ?_,λb h hr=>hr.1.2.2.2 h,λh=>h.2.2.1 rfl,λh=>h.2.1 rfl,λb h hr=>hr.2.2.2 h,K.mK,K.Dj,K.jp,K.j0,K.zV,Kw,by show n<_;omega⟩
 ·have:=vY _ h;simp[Jy]at this;omega
 ·have:=vY _ h;simp[Jy]at this;omega
structure Iw (CB:Nat->Prop) (w w':ah):Prop where
 old: ∀b,b<w.heap.size-> ¬CB b->w'.heap[b]? =w.heap[b]?
 shape: ∀b,CB b->fz w' b=fz w b
 size:w.heap.size<=w'.heap.size
 os:w'.os=w.os
 output:w'.output=w.output
 tape:w'.tape=w.tape
section
variable {c:fR} {Post:aq->ah->Prop} {b:bm} {a:Act} {k:List Item} {cs:List bm} {ops:Array Oper} {i:Nat} {rest:List Nat} {o:Oper} {w:ah} {x0 x1 x2:cw} {tE:Array aF} {n nj:Nat} {jf:bQ} {caps:Array aq} {J:N2} {NR:Nat->Prop}
theorem aau (hold:c.old<=w.heap.size)(ho:ops[i]? =ae o)(hw:bu o (yielded ops a.tmps)=aA)(hb:b.kind=.normal)(hop:o.op=.call {callee:=.value (.func 47),args:= #[x0,x1,x2],argTypes:=tE})(h0:a.eval x0=.int .i64 n)(h1:a.eval x1=.int .i64 nj)(h2:a.eval x2=.func (.func jf) #[] caps)(hn0:1<=n)(hn:n<=8)(hnj:nj<=1000)(K:J.Ok)(vY: ∀b,J.CB b->b<w.heap.size)(adU: ∀π,Rel.Sub π->(∀l,π l l-> ∃o,w.heap[l]? =ae o/\ku c.sig π o o)->CF c π (b.at a (.inRegion ops (i::rest)::k))->(∀r,NR r->π r r)/\ ∀r,J.CB r->π r r)(hNR: ∀r,NR r-> ¬J.CB r)(QW: ∀p,p<nj->J.J0 p w)(LN: ∀(φ:Ph) (wp:ah),φ.Ok->φ.P=Tryz.prog->φ.nj=nj->(∀p,φ.jv p=.int .i64 p)->φ.CB=J.CB->φ.jl=J.jl->φ.J0=J.J0->φ.JP=J.JP->(∀r,NR r->φ.od r)->(∀r,r<w.heap.size->wp.heap[r]? =w.heap[r]?)->Tryz.prog.globals.size<=wp.heap.size->(∀r,φ.od r\/φ.CB r\/r=φ.Wg->r<wp.heap.size)->CI φ wp jf caps)(rz: ∀w',Iw J.CB w w'->(∀p,p<nj-> ∃o:Nat->Prop,(∀r,o r->w.heap.size+4<=r/\r<w'.heap.size)/\J.JP o p w')-> ∃V:Nat->Prop,(∀r,V r->w.heap.size+4<=r/\r<w'.heap.size)/\(∀r,J.CB r\/V r-> ∃o,w'.heap[r]? =ae o/\ku c.sig (only V) o o)/\CY Tryz.prog c Post (G (b.at (a.put o.dst (.tuple #[])) (.inRegion ops rest::k)) cs) w'):CY Tryz.prog c Post (G (b.at a (.inRegion ops (i::rest)::k)) cs) w:=by
 refine aav hold ho hw hb hop Tryz.func47 rfl rfl ?_;rw[enter_at _ Tryz.func47 rfl];have po:(#[x0,x1,x2].map a.eval)= #[.int .i64 n,.int .i64 nj,.func (.func jf) #[] caps]:=by simp[h0,h1,h2]
 rw[po];have yf:Tryz.f47.ntmps=26:=rfl;simp only[yf,au,aj,ax,Nat.reduceAdd,Nat.reduceSub];refine Wz (w0:=w) (n:=n) (nj:=nj) (fv:=.func (.func jf) #[] caps) (by omega) rfl ?_;intro w6 t7 t10 t13 t14 t15 t16 t17 t18 h6;simp only[qj,kI,wU,Tryz.f47,bI];have s6:=h6.size;refine aiP ?_;refine kP ?_;simp only[au,aj,ax,Nat.reduceAdd,aC,aG,aB];have LZ: ∀tp d,(dB w6 tp d).heap.size=w.heap.size+3:=λ_ _=>s6
 refine EY.step (w':=w6.alloc (.cells #[.int .u64 0,.int .u32 0] 189)) (Zr:=w6.heap.size) rfl (λtp d=>⟨_,stepG_value (v:=.pointer (ae ⟨w.heap.size+3,0,ai⟩)) rfl rfl (by simp[base]) (by have hs:=LZ tp d;go_simp;rfl),λe he=>by have hm:=mem_listed he;simp[go_sem, *]at hm⟩) (λr hr=>Below.heap_alloc w6 _ r (by omega)) (by simp) (az _) (by simp) ?_;walk_nrm;have hB:w6.heap.size<=(w6.alloc (.cells #[.int .u64 0,.int .u32 0] 189)).heap.size:=by simp
 have s7:(w6.alloc (.cells #[.int .u64 0,.int .u32 0] 189)).heap.size=w.heap.size+4:=by simp[s6]
 have b7: ∀r,r<w.heap.size+3->(w6.alloc (.cells #[.int .u64 0,.int .u32 0] 189)).heap[r]? =w6.heap[r]?:=λr hr=>Below.heap_alloc w6 _ r (by omega)
 have c7:(w6.alloc (.cells #[.int .u64 0,.int .u32 0] 189)).heap[w.heap.size+3]? =ae (.cells #[.int .u64 0,.int .u32 0] 189):=by rw[<-s6];exact heap_alloc_new w6 _
 have o7:(w6.alloc (.cells #[.int .u64 0,.int .u32 0] 189)).os=w6.os/\(w6.alloc (.cells #[.int .u64 0,.int .u32 0] 189)).output=w6.output:=⟨rfl,rfl⟩;generalize w6.alloc (.cells #[.int .u64 0,.int .u32 0] 189)=w7 at *;rw[s6]at hB;rw[s6];refine EY.ctl rfl (λ_=>stepG_region_end) hB ?_;refine EY.ctl rfl (λ_=>stepG_seq) hB ?_;refine EY.ctl rfl (λ_=>stepG_seq) hB ?_;refine EY.ctl rfl (λ_=>stepG_region) hB ?_;simp only[au,aj,ax,Nat.reduceAdd,aC,aG,aB];refine EY.step (w':=w7) (Zr:=w.heap.size+3) rfl (λtp d=>⟨_,stepG_value (v:=.int .i64 n) rfl rfl (by simp[base]) (by go_simp),λe he=>by have hm:=mem_listed he;simp[go_sem, *]at hm⟩) (λ_ _=>rfl) (az _) (az _) hB ?_;walk_nrm;refine EY.step (w':=w7) (Zr:=w.heap.size+3) rfl (λtp d=>⟨_,stepG_value (v:=.int .i64 0) rfl rfl (by simp[base]) (by go_simp),λe he=>by have hm:=mem_listed he;simp[go_sem, *]at hm⟩) (λ_ _=>rfl) (az _) (az _) hB ?_;walk_nrm;refine EY.ctl rfl (λ_=>stepG_region_end) hB ?_;refine EY.ctl rfl (λ_=>stepG_block) hB ?_;refine EY.ctl rfl (λ_=>stepG_loop) hB ?_;intro tp d π gs sl q t Shun B hBB h;have ZC:(dB w7 tp d).heap.size=w.heap.size+4:=s7;have hold: ∀r,r<w.heap.size->w7.heap[r]? =w.heap[r]?:=λr hr=>(b7 r (by omega)).trans (h6.old r hr)
 obtain⟨BQ,ZN⟩:=adU π h.sub (λl hl=>by obtain⟨o,o',e1,e2,e3⟩:=h.hp.obj l l hl;have:=h.ZO l hl;rw[e1]at e2;cases e2;exact⟨o,(hold l this).symm.trans e1,e3⟩) (h.fr _ (by simp))
 have O:=aea (N:=w.heap.size) (n:=n) (nj:=nj) (lo:=gs.size) (Shun:=Shun) K vY h.co.pos hn;have adx: ∀r,Shun r->r<w.heap.size:=h.sh;have bE: ∀r,(Jy J w.heap.size n nj gs.size Shun).Std r\/(Jy J w.heap.size n nj gs.size Shun).CB r\/r=(Jy J w.heap.size n nj gs.size Shun).Wg->r<(dB w7 tp d).heap.size:=by
  intro r hr;rw[ZC];rcases hr with hr|hr|hr
  ·exact hr.1
  ·have:=vY r hr;omega
  ·subst hr;simp[Jy]
 have rd3: ∀r,r=w.heap.size\/r=w.heap.size+2->(Jy J w.heap.size n nj gs.size Shun).od r:=λr hr=>⟨⟨by omega,by omega,by omega,λhc=>by have:=vY r hc;omega⟩,λhs=>by have:=adx r hs;omega⟩
 have H:EH0 (Jy J w.heap.size n nj gs.size Shun) (dB w7 tp d) (w.heap.size+2) w.heap.size jf caps:=by
  refine⟨O,rfl,rfl,rfl,λp _=>⟨_,rfl⟩,rd3 _ (.inr rfl),rd3 _ (.inl rfl),?_,?_,?_,λr hr=>hr.1,bE⟩
  ·show w7.cell? _=_;unfold c8;simp only[b7 (w.heap.size+2) (by omega),h6.cn]
   rfl
  ·show w7.cell? _=_;unfold c8;simp only[b7 w.heap.size (by omega),h6.cf]
   rfl
  ·refine LN _ _ O rfl rfl (λ_=>rfl) rfl rfl rfl rfl (λr hr=> ?_) (λr hr=>hold r hr) h.hp.ox λr hr=> ?_
   ·have:=h.ZO r (BQ r hr);exact⟨⟨by omega,by omega,by omega,hNR r hr⟩,h.RY r (BQ r hr)⟩
   ·rcases hr with hr|hr
    ·exact bE r (.inl hr.1)
    ·exact bE r (.inr hr)
 have L:Go.Conc.Lib.WgLib (Jy J w.heap.size n nj gs.size Shun).P k7:=Ze;have hE0:EF (Jy J w.heap.size n nj gs.size Shun) (dB w7 tp d) (dB w7 tp d):=⟨λ_ _=>rfl,λ_ _=>rfl,az _,rfl,rfl⟩;have hW0:WgAt 189 (w.heap.size+3) (dB w7 tp d) 0 0:=c7;have NP:=P1 (φ:=Jy J w.heap.size n nj gs.size Shun) (wp:=dB w7 tp d) (N:=w.heap.size) (n:=n) (nj:=nj) (fv:=.func (.func jf) #[] caps) (cs:=b.at a (.inRegion ops (i::rest)::k)::cs) (t7:=t7) (t10:=t10) (t13:=t13) (t14:=t14) (t15:=t15) (t16:=t16) (t17:=t17) (t18:=t18) H hn0 hn n (az _) (λ_=>False) (dB w7 tp d) undef undef undef undef (λhh=>absurd hh (Nat.lt_irrefl _)) hE0 ⟨0,0,hW0⟩
 rw[Nat.sub_self]at NP;simp only[C7,En,qj,kI,wU,Tryz.f47,bI]at NP;refine Pw (φ:=Jy J w.heap.size n nj gs.size Shun) (Goal:=λg w'=>g=G (yy n nj (.func (.func jf) #[] caps) w.heap.size (w.heap.size+3) t7 t10 t13 t14 t15 t16 t17 t18) (b.at a (.inRegion ops (i::rest)::k)::cs)/\EF (Jy J w.heap.size n nj gs.size Shun) (dB w7 tp d) w') O ?_ ?_ (by exact hBB) h.co rfl (λr hr=>⟨bE r (.inl hr.1),hr.2⟩) (λr hr=>bE r (.inl hr)) (λr hr=>⟨bE r (.inr (.inl hr)),h.RY r (ZN r hr)⟩) (by rw[ZC];simp[Jy]) (by rw[ZC];simp[Jy]) hW0 ?_ (λp hp=> ?_) h.g0 hn0 NP ?_
 ·rintro μ g w' ⟨T,rfl,_⟩;rfl
 ·intro μ g w' hA;refine P' (μ:=μ) (L:=k7) (F:=EF (Jy J w.heap.size n nj gs.size Shun) (dB w7 tp d)) (b₀:=base 47) (i₀:=0) (rest₀:=[]) (k₀:=[]) (mT:=0) L rfl (λ_ _ m hh=>hh.mr m) (λw a v ha hh=>hh.wg H a ha v) ?_ g w' hA;intro w2 wY _;refine Goes.stop λw3 h3=>⟨rfl,?_,wY.mr h3⟩
  rfl
 ·obtain⟨s,r,tm,tk⟩:=h6.ch;exact⟨bS _,nj,s,r,tm,(b7 _ (by simp[Jy])).trans tk⟩
 ·exact K.j0 w (dB w7 tp d) p (λad tP=>by have:=vY _ (K.mK p ad tP);show w7.cell? ad=_;unfold c8;rw[hold _ this]) (QW p hp)
 ·rintro sH w' yg q' t' a' ye we ⟨rfl,yI⟩ ahv sP hjp;rw[ZC]at sP hjp;have aho:Iw J.CB w (dB w' w.tape w.drawn):=by refine⟨λr hr hc=>(yI.Y1 r ⟨by omega,by omega,by omega,hc⟩).trans (hold r hr),λr hr=>(yI.pay r hr).trans ?_,by show w.heap.size<=w'.heap.size;omega,yI.os.trans (o7.1.trans h6.os),yI.output.trans (o7.2.trans h6.output),rfl⟩;show fz w7 r=_;unfold fz;rw[hold r (vY r hr)]
  obtain⟨V,hV1,hV2,hcy⟩:=rz (dB w' w.tape w.drawn) aho λp hp=>by obtain⟨o,ho1,ho2⟩:=hjp p hp;exact⟨o,ho1,K.jp o w' (dB w' w.tape w.drawn) p (λ_ _=>rfl) (λ_ _=>rfl) ho2⟩
  have OJ:EH Tryz.prog c w'.heap.size (b.at a (.inRegion ops (i::rest)::k)::cs) (grow π V) (λr=>Shun r\/r=w.heap.size+3) w'.heap.size sH q' t' (G (yy n nj (.func (.func jf) #[] caps) w.heap.size (w.heap.size+3) t7 t10 t13 t14 t15 t16 t17 t18) (b.at a (.inRegion ops (i::rest)::k)::cs)) (dB w' w.tape w.drawn):=by
   have QV: ∀r,grow π V r r->r<w'.heap.size/\ ¬(Shun r\/r=w.heap.size+3):=by
    rintro r ⟨_,hr⟩;rcases hr with hr|hr
    ·have:=h.ZO r hr;exact⟨by omega,λhs=>hs.elim (h.RY r hr) λe=>by omega⟩
    ·have:=hV1 r hr;exact⟨this.2,λhs=>hs.elim (λx=>by have:=adx r x;omega) λe=>by omega⟩
   refine⟨WY _ _,ck.grown (P:=Tryz.prog) (CB:=J.CB) h.sub ⟨h.hp.ok,h.hp.obj,h.hp.ox,h.hp.uz,h.hp.old⟩ (by show w7.heap.size<=w'.heap.size;omega) (λr hr hc=> ?_) hV2 (λad x hx=> ?_),λr hr=>(QV r hr).2,λr hr=>(QV r hr).1,λr hr=>hr.elim (λx=>by have:=adx r x;omega) λe=>by omega,az _,az _,ahv,ye,λr hr=>hr.elim (h.old r) λe=>by have:=h.Ps;omega,by have:=h.Ps;omega,λfr mZ=>(h.fr fr mZ).mono (Lz (P:=Tryz.prog) h.sub)⟩
   rotate_left
   ·have h1:=c.Jl ad x hx;have h2:=h.Ps;exact⟨λhv=>by have:=hV1 _ hv;omega,yI.Y1 ad.block ⟨by omega,by omega,by omega,λhc=>(h.hp.old ad x hx).1 _ (ZN _ hc)⟩⟩
   exact(yI.Y1 r ⟨by have:=h.ZO r hr;omega,by have:=h.ZO r hr;omega,by have:=h.ZO r hr;omega,hc⟩)
  have hk:EY Tryz.prog c Post w'.heap.size (b.at a (.inRegion ops (i::rest)::k)::cs) w'.heap.size (G (yy n nj (.func (.func jf) #[] caps) w.heap.size (w.heap.size+3) t7 t10 t13 t14 t15 t16 t17 t18) (b.at a (.inRegion ops (i::rest)::k)::cs)) (dB w' w.tape w.drawn):=by
   unfold yy;refine EY.ctl rfl (λ_=>stepG_region_end) (az _) ?_;refine EY.ctl rfl (λ_=>stepG_end) (az _) ?_;refine EY.ctl (g':=G (b.at (a.put o.dst (.tuple #[])) (.inRegion ops rest::k)) cs) rfl (λw=> ?_) (az _) ?_
   ·rw[stepG_leave rfl rfl Tryz.func47 (results_none rfl _ _ w) (events_results_none rfl _ _),mV,ho]
    rfl
   ·refine adn (λbO mZ=> ?_) hcy;have aaT:=λfr S2=>mZ fr S2
    exact yF (x:=.inRegion ops (i::rest)::k) (λfr hx=>mZ fr hx) o.dst (.inl (.tuple rfl (by simp)))
  exact hk w'.tape w'.drawn _ sH yg q' t' _ w'.heap.size (az _) OJ
end
end
section
open Go.RowKit
attribute [local go_sem] Oper.semAt_some
theorem Sk (p:Nat)(h:Hd)(w:ah):Calls Tryz.prog 136 #[.pointer (ae ⟨p,0,ai⟩),nw h] w λe w'=>
 e=.returned (.func (.func 182) #[] #[.pointer (ae ⟨w.heap.size,0,ai⟩),.pointer (ae ⟨w.heap.size+1,0,ai⟩)])/\
 w'=(w.alloc (.cells #[.pointer (ae ⟨p,0,ai⟩)] 81)).alloc (.cells (ints (hL h)) 43):=by
 obtain⟨h1,h2⟩:=h;rw[jV]
 go_enter Tryz.func136,Tryz.ntmps136
 go_wp2_with fail
 go_ret;exact⟨rfl,rfl⟩
theorem me.uniq {m:jS}{h:Hd}{xs:List Hd}(hx:me m h xs): ∀{ys:List Hd},me m h ys->xs=ys:=by
 induction hx with
 |nil hn=>
  intro ys hy;cases hy with
  |nil _=>rfl
  |cons h _=>rw[hn]at h;cases h
 |cons hm _ ih=>
  intro ys hy;cases hy with
  |nil h=>rw[hm]at h;cases h
  |cons h hy=>rw[hm]at h;cases aY h;rw[ih hy]
open Classical in
noncomputable def CU (m:jS)(h:Hd):Nat:=if hx: ∃xs,me m h xs then(r9 hx).length else 0
theorem K4 {m:jS}{h:Hd}{xs:List Hd}(hx:me m h xs):CU m h=xs.length:=by have he: ∃xs,me m h xs:=⟨xs,hx⟩;unfold CU;rw[dif_pos he,(Classical.choose_spec he).uniq hx]
noncomputable def kO (m:jS)(v4 v5:aq)(w:ah):Nat:=
 match v5,v4 with
 | .bool aA,.pointer (ae a)=>(match w.cell? ⟨a.block,0,ai⟩,w.cell? ⟨a.block,1,ai⟩with
   |some (.int .i64 x),ae (.int .i64 y)=>CU m (x,y)+1
   |_,_=>0)
 |_,_=>0
theorem yl {m:jS}{cb:Nat}{w:ah}{t:aF}{h:Hd}{xs:List Hd}(hx:me m h xs)(hB:dq w cb t (ints (hL h))):kO m (.pointer (ae ⟨cb,0,ai⟩)) (.bool aA) w=xs.length+1:=by obtain⟨h1,h2⟩:=h;have c0:w.cell? ⟨cb,0,ai⟩=ae (.int .i64 h1):=hB.cell 0;have c1:w.cell? ⟨cb,1,ai⟩=ae (.int .i64 h2):=hB.cell 1;unfold kO;simp only[c0,c1];rw[K4 hx]
theorem Zi {F:Fence}{n:Nat}{P:aS}{c:Code}{Q:Exit->Act->ah->Prop}{a:Act}{w:ah}(I:ah->Prop)(h:I w)(k: ∀w',I w'->c.wpIn F n P Q a w'):c.wpIn F n P Q a w:=k w h
structure eB (A B:ah):Prop where
 size:A.heap.size<=B.heap.size
 same: ∀(k:Nat) (o:Obj),A.heap[k]? =ae o->(o.isCells||o.isWalk)=aA->B.heap[k]? =ae o
theorem eB.refl (A:ah):eB A A:=⟨az _,λ_ _ h _=>h⟩
theorem eB.trans {A B C:ah}(h:eB A B)(h':eB B C):eB A C:=⟨bP h.size h'.size,λk o hk ho=>h'.same k o (h.same k o hk ho) ho⟩
theorem eB.fU {A B:ah}(h:Below A.heap.size A B):eB A B:=⟨h.size,λk o hk _=>(h.block k (aL.1 hk).1).trans hk⟩
theorem eB.blk {A B:ah}(h:eB A B){g:Nat}{t:aF}{cs:Array aq}(hb:dq A g t cs):dq B g t cs:=h.same g _ hb rfl
theorem eB.map {A B:ah}(h:eB A B){κ ν:Type}{ek:κ->aq}{ev:ν->aq}{good:κ->Prop}{b:Nat}{m:List (κ×ν)}(hm:ey ek ev good A b m):ey ek ev good B b m:=by refine hm.block ?_;obtain⟨es,clock,hb,_⟩:=hm;rw[hb];exact h.same b _ hb rfl
theorem eB.rS {A B:ah}(h:eB A B){p b:Nat}{m:jS}(hs:pX A p b m):pX B p b m:=⟨hs.ok,h.blk hs.blk,h.map hs.map⟩
theorem Ml {A B C:ah}:eB A B->eB B C->eB A C:=eB.trans
theorem Mk {n:Nat}: ∀(W:ah) (l:Nat) (o o':Obj),n<=l->W.heap[l]? =ae o->o.isCells=aw->o.isWalk=aw->eB W (W.putObj l o'):=λW l o o' _ hl h1 h2=>
 ⟨by simp,λk q hk hq=>by
   by_cases e:k=l
   ·subst e;rw[hl]at hk;cases hk;rw[h1,h2]at hq;cases hq
   ·rw[World.putObj_heap_other e];exact hk⟩
theorem u0 {A B:ah}(h:Below A.heap.size A B):A.grownBy B ai:=⟨h.os,h.tape,h.output,h.size,λk hk _=>h.block k hk⟩
theorem KQ (n:Nat)(hn:1<=n)(fb hb p b:Nat)(m:jS)(h:Hd)(xs:List Hd)(hc:me m h xs)(w:ah)(hF:dq w fb 81 #[.pointer (ae ⟨p,0,ai⟩)])(hH:dq w hb 43 (ints (hL h)))(hS:pX w p b m):SeqStopsK Fence.wide n Tryz.prog 182 #[.pointer (ae ⟨fb,0,ai⟩),.pointer (ae ⟨hb,0,ai⟩)] (λx:Hd=> #[nw x]) eB (λys=>ys=xs) (λpre=>pre <+: xs) xs.length w:=λl J Jx W hW hJ hJx hY h0=>by
 have HJ:=af hJ;have HY:=af hY;have HW:=af hW;have HS:=af hS;have HC:=af hc;have HF:=af hF;have HJ0:=af h0;obtain⟨h1,h2⟩:=h;have LC:=HS.out.after hW;have k0:W.cell? ⟨p,0,ai⟩=ae (.map (ae b)):=LC.blk.cell 0;have k1:row? W hb 0 2=ae #[.int .i64 h1,.int .i64 h2]:=(hH.after hW).bt (xs:=[h1,h2]) rfl;have k2:W.cell? ⟨fb,0,ai⟩=ae (.pointer (ae ⟨p,0,ai⟩)):=(hF.after hW).cell 0;have NM:=(Below.refl W.heap.size W).alloc (az _) (.cells #[.int .i64 0,.int .i64 0] 43);have k3:row? (W.alloc (.cells #[.int .i64 0,.int .i64 0] 43)) hb 0 2=ae #[.int .i64 h1,.int .i64 h2]:=((hH.after hW).after NM).bt (xs:=[h1,h2]) rfl;have k4:(W.alloc (.cells #[.int .i64 0,.int .i64 0] 43)).cell? ⟨p,0,ai⟩=ae (.map (ae b)):=(LC.blk.after NM).cell 0;have k5:(W.alloc (.cells #[.int .i64 0,.int .i64 0] 43)).cell? ⟨fb,0,ai⟩=ae (.pointer (ae ⟨p,0,ai⟩)):=((hF.after hW).after NM).cell 0;have qw:=qB LC.map (h1,h2) (Below.refl _ _).drew;have BO:=qB LC.map (h1,h2) (((Below.refl _ W).alloc (az _) (.cells #[.int .i64 0,.int .i64 0] 43)).drew);rw[jV]at qw BO;have HPR:Hid (jP m (h1,h2)=(xs.head?.getD (0,0),xs.head?.isSome)):=by unfold Hid jP;rw[hc.get]
 generalize jP m (h1,h2)=r at *;obtain⟨⟨r1,r2⟩,is⟩:=r;simp only[jV]at qw BO;clear hJ hY hW hS hc hF hH h0 LC NM;refine callsIn_of_wp Tryz.func182 rfl trivial ?_ rfl;simp only[Tryz.ntmps182,au,aj,ax,Nat.reduceAdd,Nat.reduceSub,dR,dS,eX,ec,cL,dJ];have HJ1:Hid (∀w1,w1=(putRow (W.alloc (.cells (ints [0,0]) 43)) W.heap.size 0 [r1,r2]).drew->J [] w1/\dq w1 W.heap.size 43 (ints [r1,r2])/\Below W.heap.size W w1):=by rintro w1 rfl;have hbb:=(eZ W 43 [0,0] [r1,r2]).drew;exact⟨HJ.out [] W _ ai HJ0.out (u0 hbb) (λr e=>by cases e),(kl W 43 [0,0] [r1,r2] rfl).drew,hbb⟩
 have HFW:Hid (dq W fb 81 #[.pointer (ae ⟨p,0,ai⟩)]):=HF.out.after HW.out;have HSW:Hid (pX W p b m):=HS.out.after HW.out
 gi_wp2
 gi_region
 all_goals
  clear k0 k1 k2 k3 k4 k5 qw BO
  gi_wp2
  gi_loopw [4,5] (λv4 v5 wr=> ∃(pre rest:List Hd) (h':Hd) (cb:Nat),v4=.pointer (ae ⟨cb,0,ai⟩)/\v5=.bool rest.head?.isSome/\xs=pre++rest/\me m h' rest/\J pre wr/\dq wr cb 43 (ints (hL (rest.head?.getD (0,0))))/\dq wr fb 81 #[.pointer (ae ⟨p,0,ai⟩)]/\pX wr p b m) (λv4 v5 wr=>kO m v4 v5 wr)
  case atStart=>obtain⟨g1,g2,g3⟩:=HJ1.out _ rfl;have e1:xs.head?.getD (0,0)=(r1,r2):=(congrArg Prod.fst HPR.out).symm;have e2:xs.head?.isSome=is:=(congrArg Prod.snd HPR.out).symm;exact⟨[],xs,(h1,h2),W.heap.size,rfl,by rw[e2],rfl,HC.out,g1,by rw[e1];exact g2,HFW.out.after g3,HSW.out.after g3⟩
  case round=>
   clear HJ1 HFW HSW;obtain⟨pre,rest,h',cb,rfl,rfl,hx,tk,hJp,tj,hfb,hfs⟩:=hrel;cases rest with
   |nil=>
    gi_wp2
    go_end0
    exact⟨⟨_,rfl⟩,.inl ⟨pre,by simp[hx],hJp⟩⟩
   |cons q rest=>
    obtain⟨q1,q2⟩:=q;have hq:eG m h'=ae (q1,q2)/\me m (q1,q2) rest:=by cases tk with|cons a b=>exact⟨a,b⟩
    obtain⟨fn,tmps,assign,body,hy,hR⟩:=HY.out pre (q1,q2) wr hJp (by rw[hx];simp);simp only[jV]at hy;have q3:row? wr cb 0 2=ae #[.int .i64 q1,.int .i64 q2]:=tj.bt (xs:=[q1,q2]) rfl;have HX:=af hx;have HQ:=af hq.2;have HCB:Hid (dq wr cb 43 (ints (hL (q1,q2)))):=tj;have HFB:=af hfb;have HFS:=af hfs;have UQ:=af hR;clear hx tk hJp tj hfb hfs hq hR
    gi_wp2
    refine UQ.out.mono ?_;rintro e W3 (⟨rfl,hJ3,hk3⟩|⟨rfl,adv⟩)
    ·have HJ3:=af hJ3;have afC:=hk3.blk HCB.out;have aeX:=af (hk3.blk HFB.out);have aeY:=af (hk3.rS HFS.out);have q4:row? W3 cb 0 2=ae #[.int .i64 q1,.int .i64 q2]:=afC.bt (xs:=[q1,q2]) rfl;clear hJ3 hk3 afC hy q3
     gi_wp2
     refine Zi (λw4=>dq w4 W3.heap.size 43 (ints [q1,q2])/\Below W3.heap.size W3 w4) ⟨kl W3 43 [0,0] [q1,q2] rfl,eZ W3 43 [0,0] [q1,q2]⟩ ?_;rintro W4 ⟨hn4,UZ⟩;have hS4:=aeY.out.after UZ;have k0:W4.cell? ⟨p,0,ai⟩=ae (.map (ae b)):=hS4.blk.cell 0;have k1:row? W4 W3.heap.size 0 2=ae #[.int .i64 q1,.int .i64 q2]:=hn4.bt (xs:=[q1,q2]) rfl;have k2:W4.cell? ⟨fb,0,ai⟩=ae (.pointer (ae ⟨p,0,ai⟩)):=(aeX.out.after UZ).cell 0;have f4:fits W4 W3.heap.size 0 2=aA:=hn4.fits 0 2 (by rw[bJ];simp);have hl4:=qB hS4.map (q1,q2) (Below.refl _ _).drew;rw[jV]at hl4;have HPR:Hid (jP m (q1,q2)=(rest.head?.getD (0,0),rest.head?.isSome)):=by unfold Hid jP;rw[HQ.out.get]
     generalize jP m (q1,q2)=r at *;obtain⟨⟨r1,r2⟩,is⟩:=r;simp only[jV]at hl4;have aad:Hid (∀w5,w5=(putRow W4 W3.heap.size 0 [r1,r2]).drew->dq w5 W3.heap.size 43 (ints [r1,r2])/\Below W3.heap.size W3 w5):=by rintro w5 rfl;exact⟨(hn4.fc [r1,r2] rfl).drew,(lM UZ (az _) 0 _).drew⟩
     clear hn4 UZ hS4 q4
     gi_region
     all_goals
      gi_wp2
      go_roundw
      case rel=>obtain⟨g1,g2⟩:=aad.out _ rfl;have e1:rest.head?.getD (0,0)=(r1,r2):=(congrArg Prod.fst HPR.out).symm;have e2:rest.head?.isSome=is:=(congrArg Prod.snd HPR.out).symm;exact⟨pre++[(q1,q2)],rest,(q1,q2),W3.heap.size,rfl,by rw[e2],by rw[HX.out];simp,HQ.out,HJ.out _ W3 _ ai HJ3.out (u0 g2) (λr e=>by cases e),by rw[e1];exact g1,aeX.out.after g2,aeY.out.after g2⟩
      case measure=>
       obtain⟨g1,g2⟩:=aad.out _ rfl;have e1:rest.head?.getD (0,0)=(r1,r2):=(congrArg Prod.fst HPR.out).symm;have e2:rest.head?.isSome=is:=(congrArg Prod.snd HPR.out).symm;have hR:kO m (.pointer (ae ⟨cb,0,ai⟩)) (.bool aA) wr=rest.length+1:=yl HQ.out HCB.out;rw[<-e2];cases hrs:rest with
       |nil=>rw[hrs]at hR;show kO m _ (.bool aw) _<kO m _ (.bool aA) wr;rw[hR];simp[kO]
       |cons s acL=>
        have tk:=HQ.out;rw[hrs]at tk hR e1;have hs:me m s acL:=by cases tk with|cons a b=>exact b
        have e3:s=(r1,r2):=e1;have hL:kO m (.pointer (ae ⟨W3.heap.size,0,ai⟩)) (.bool aA) _=acL.length+1:=yl hs (by rw[e3];exact g1);show kO m _ (.bool aA) _<kO m _ (.bool aA) wr;rw[hL,hR];simp
    ·gi_wp2
     refine bodyPost_ret (results_none rfl _ _ _) rfl ?_;exact⟨⟨_,rfl⟩,.inr ⟨pre++[(q1,q2)],⟨rest,by simp[HX.out]⟩,adv⟩⟩
end
section
open Go.RowKit
section
variable {κ ν:Type} [DecidableEq κ] {P:aS} {F:Fence} {nF:Nat} {k:aF} {ek:κ->aq} {ev:ν->aq} {good:κ->Prop} {w:ah}
theorem Ca (K:ni P k ek good){ops:Array Oper}{rest:List Oper}{o:Oper}{a:Act}{Q:Exit->Act->ah->Prop}(qv:o.guard=ai)(it:cw)(hop:o.op=Op.next it aw)(b r:Nat)(m left:List (κ×ν))(hit:a.eval it=.pointer (ae ⟨r,0,ai⟩))(h:dw ek ev good w b r m left)(W5:left=[]->wpListIn F nF P ops Q rest (a.put o.dst (.tuple #[.bool aw])) w)(W8: ∀x v w',(x,v)∈left->dw ek ev good w' b r m (ep left x)->cW (· =r) w w'->w'.heap.size=w.heap.size->(ep left x).length<left.length->(Instr.entry (.pointer (ae ⟨r,0,ai⟩))).run P w'=.ok (.tuple #[ek x,ev v]) w'->wpListIn F nF P ops Q rest (a.put o.dst (.tuple #[.bool aA,ek x,ev v])) w'):wpListIn F nF P ops Q (o::rest) a w:=by
 refine wpListIn_plain qv λK' jH=> ?_
 unfold Oper.wpIn;refine⟨by simp[Oper.about,hop],?_⟩;rw[Oper.semAt_plain F _ _ (by rw[hop];intro c OC;cases OC)];rcases h.step K o.type with⟨h0,cG⟩|⟨x,v,w',hx,cG,h1,h2,h3,h4,h5⟩
 ·simp[execOp,hop,hit,cG,dU];exact jH _ _ (W5 h0)
 ·simp[execOp,hop,hit,cG,dU];exact jH _ _ (W8 x v w' hx h1 h2 h3 h4 h5)
end
section
variable {κ ν:Type} {P:aS} {F:Fence} {nF:Nat} {k:aF} {ek:κ->aq} {ev:ν->aq} {good:κ->Prop} {w:ah}
theorem ya {ops:Array Oper}{rest:List Oper}{o:Oper}{a:Act}{Q:Exit->Act->ah->Prop}(qv:o.guard=ai)(mo:cw)(t e:aF)(hop:o.op=Op.range t mo)(ht:P.underlying t=ae (.map k e))(b:Nat)(m:List (κ×ν))(hm:a.eval mo=.map (ae b))(h:ey ek ev good w b m)(hK: ∀w',dw ek ev good w' b w.heap.size m m->Below w.heap.size w w'->w'.heap.size=w.heap.size+1->wpListIn F nF P ops Q rest (a.put o.dst (.pointer (ae ⟨w.heap.size,0,ai⟩))) w'):wpListIn F nF P ops Q (o::rest) a w:=by
 refine wpListIn_plain qv λK' jH=> ?_
 unfold Oper.wpIn;refine⟨by simp[Oper.about,hop],?_⟩;rw[Oper.semAt_plain F _ _ (by rw[hop];intro c OC;cases OC)];obtain⟨w',cG,h1,h2,h3⟩:=h.range ht;simp[execOp,hop,hm,cG,dU];exact jH _ _ (hK w' h1 h2 h3)
theorem dw.walks {b r:Nat}{m left:List (κ×ν)}{w':ah}(h:dw ek ev good w b r m left)(hk:KeepsWalks w w'):dw ek ev good w' b r m left:=by have h':=h;obtain⟨es,clock,since,seen,c0,h1,_,_,_,h5,_⟩:=h';exact h.block (by rw[h1];exact hk.same b _ h1 rfl) (by rw[h5];exact hk.same r _ h5 rfl)
theorem dw.walk {b r:Nat}{m left:List (κ×ν)}(h:dw ek ev good w b r m left): ∃o:Obj,w.heap[r]? =ae o/\o.isWalk=aA:=by obtain⟨es,clock,since,seen,c0,h1,_,_,_,h5,_⟩:=h;exact⟨_,h5,rfl⟩
end
theorem cW.Ty {r:Nat}{w w':ah}(h:cW (· =r) w w'):w.grownBy w' (ae r):=⟨h.os,h.tape,h.output,h.size,λk hk dQ=>h.block k hk (λe=>dQ (by rw[e]))⟩
structure uM (E T:aF) (size:Nat) (w0:ah) (sb:Nat) (n:Nat) (xs:List aq) (W:ah):Prop where
 has: ∃v,dq W sb T #[v]/\W.ownsRow w0.heap.size E size v n xs
 below:Below w0.heap.size w0 W
theorem xf {W:ah}{base:Nat}{e:aF}{size:Nat}{v:aq}{k:Nat}{xs:List aq}(h:W.ownsRow base e size v k xs){j:Nat}{o:Obj}(hj:W.heap[j]? =ae o)(wM: ∀cur,o≠ .cells cur e (0,0)):v.ownBlock≠ae j:=by
 rcases h.2 with⟨rfl,_⟩|⟨g,cap,cur,rfl,_,hgb,_⟩
 ·simp[fK]
 ·intro e';have:g=j:=by simpa[fK]using e'
  subst this;rw[hgb]at hj;cases hj;exact wM cur rfl
theorem FP {W W':ah}{row:Option Nat}{base:Nat}{e:aF}{size:Nat}{v:aq}{k:Nat}{xs:List aq}(h:W.ownsRow base e size v k xs)(hg:W.grownBy W' row)(fY: ∀r,row=ae r-> ∃o:Obj,W.heap[r]? =ae o/\o.isCells=aw):W'.ownsRow base e size v k xs:=by
 refine h.kept hg ?_;rcases h.2 with⟨rfl,_⟩|⟨g,cap,cur,rfl,_,hgb,_⟩
 ·exact .inl rfl
 ·refine .inr λe'=> ?_
  obtain⟨o,ho,hw⟩:=fY g (by simpa[fK]using e'.symm);rw[hgb]at ho;cases ho;cases hw
theorem uM.kept {E T:aF}{size:Nat}{w0:ah}{sb n:Nat}{xs:List aq}{A B:ah}{row:Option Nat}(h:uM E T size w0 sb n xs A)(hg:A.grownBy B row)(hr: ∀r,row=ae r->w0.heap.size<=r/\ ∃o:Obj,A.heap[r]? =ae o/\o.isCells=aw):uM E T size w0 sb n xs B:=by obtain⟨⟨v,h1,h2⟩,h3⟩:=h;exact⟨⟨v,(grownBy_keeps_cells hg (λr e=>(hr r e).2) h1 rfl).trans h1,FP h2 hg λr e=>(hr r e).2⟩,h3.grown hg h3.size λk hk=>(hr k hk).1⟩
theorem BR {W:ah}{base:Nat}{e:aF}{size:Nat}{v:aq}{k:Nat}{xs:List aq}(h:W.ownsRow base e size v k xs): ∀(j:Nat) (o:Obj),v.ownBlock=ae j->W.heap[j]? =ae o->o.isCells=aA:=by
 intro j o hj ho;rcases h.2 with⟨rfl,_⟩|⟨g,cap,cur,rfl,_,hgb,_⟩
 ·simp[fK]at hj
 ·have:g=j:=by simpa[fK]using hj
  subst this;rw[hgb]at ho;cases ho;rfl
theorem wQ {P:aS}{F:Fence}{nF:Nat}{w:ah}{ops:Array Oper}{rest:List Oper}{o:Oper}{a:Act}{Q:Exit->Act->ah->Prop}(qv:o.guard=ai)(s x:cw)(t:aF)(ho:o.op=.call {callee:=.builtin .append,args:= #[s,x],argTypes:= #[t,t]})(base:Nat)(e:aF)(i:TypeInfo)(z:aq)(size bytes:Nat)(ht:P.underlying t=ae (.slice e))(hi:P.info? e=ae i)(hz:i.zero=ae z)(vg:i.size=size)(LH:i.bytes=bytes)(Q8:z.cells.size=size)(km:0<size)(v:aq)(n:Nat)(xs:List aq)(hs:a.eval s=v)(gZ:w.ownsRow base e size v n xs)(news:List aq)(hx:a.eval x=.slice (ae ⟨w.heap.size,0,ai⟩) 1 1)(hl:news.length=size)(h1: ∀u∈news,u.oneCell'=aA)(W1:n+1<=maxLen)(qu:(n+1) *bytes<=140737488355328)(GK:base<=w.heap.size)(h: ∀v' w',w'.ownsRow base e size v' (n+1) (xs++news)->(w.alloc (.cells news.toArray e)).grownBy w' v.ownBlock->(v'.ownBlock=v.ownBlock\/v'.ownBlock=ae (w.heap.size+1))->wpListIn F nF P ops Q rest (a.put o.dst v') w'):wpListIn F nF P ops Q (o::rest) a (w.alloc (.cells news.toArray e)):=by
 refine wpListIn_append_own_at _ qv s x t ho base e i z size bytes ht hi hz vg LH Q8 km v n xs hs (gZ.alloc _) ⟨w.heap.size,0,ai⟩ 1 1 news hx (by rw[hl,jR]) ?_ h1 W1 qu (by simp;omega) ?_
 ·intro j u hu;rw[show(⟨w.heap.size,0,ai⟩:Addr).add j=⟨w.heap.size,j,ai⟩from by unfold Addr.add;split<;>simp_all];rw[cell_of_row _ w.heap.size j news.toArray e (0,0) (heap_alloc_new w _)];simpa using hu
 ·intro v' w' Ba hg _ ru;exact h v' w' Ba hg (by simpa using ru)
theorem O8 {P:aS}{fn:Func}{R:Ending->ah->Prop}{p:Tmp}{tmps:Array aq}{w:ah}{v:aq}(h:fn.results= #[.tmp p])(hp:tmps.getD p undef=v)(hR:R (.returned v) w):LeavesInM Fence.wide 3 P fn tmps R [] .returning w:=by
 refine⟨v,?_,hR⟩;have LR:tmps[p]?.getD undef=v:=by simpa using hp
 simp[results,h,LR]
end
section
open Go.RowKit
attribute [local go_sem] Oper.semAt_some
theorem FZ {B:Nat}{A W:ah}(h:Below B A W)(g o:Nat)(v:aq):Below B (A.setCell ⟨g,o,ai⟩ v) (W.setCell ⟨g,o,ai⟩ v):=by refine⟨h.os,h.tape,h.output,by simpa[dA]using h.size,λk hk=> ?_⟩;show(W.heap.modify g _)[k]? =(A.heap.modify g _)[k]?;rw[bw,bw,h.block k hk]
theorem cW.abO {F:Nat->Prop}{A W:ah}(h:cW F A W)(g o:Nat)(v:aq):cW F (A.setCell ⟨g,o,ai⟩ v) (W.setCell ⟨g,o,ai⟩ v):=by refine⟨h.os,h.tape,h.output,by simpa[dA]using h.size,λk hk hf=> ?_⟩;show(W.heap.modify g _)[k]? =(A.heap.modify g _)[k]?;rw[bw,bw,h.block k (by simpa[dA]using hk) hf]
theorem cW.putObj {F:Nat->Prop}{A W:ah}(h:cW F A W){D:Nat}(hD:A.heap.size<=D)(o:Obj):cW F A (W.putObj D o):=⟨h.os,h.tape,h.output,by simpa using h.size,λk hk hf=>(World.putObj_heap_other (by omega)).trans (h.block k hk hf)⟩
theorem KX {B:Nat}{A W:ah}(h:Below B A W){D:Nat}(hD:B<=D)(o:Obj):Below B A (W.putObj D o):=⟨h.os,h.tape,h.output,by simpa using h.size,λk hk=>(World.putObj_heap_other (by omega)).trans (h.block k hk)⟩
theorem xL {B:Nat}{A W:ah}(h:Below A.heap.size A W):KeepsFrom B A W:=⟨h.size,λk o _ hk _=>(h.block k (aL.1 hk).1).trans hk⟩
theorem IL {P:aS}{w:ah}{g:Nat}{ty:aF}{x:Int}(ha: ∀w,(isAgg ty).run P w=.ok aw w)(hc:w.cell? ⟨g,0,ai⟩=ae (.int .i64 x)):((asAddr (.pointer (ae ⟨g,0,ai⟩))).run P w).andThen (λa w'=>(loadVar ty a).run P w')=.ok (.int .i64 x) w:=by simp[asAddr,go_sem,ha,hc]
theorem vl {P:aS}{fn:Func}{R:Ending->ah->Prop}{p:Tmp}{ty:aF}{tmps:Array aq}{w:ah}(h:fn.results= #[.cell p ty]){g:Nat}{x:Int}(hp:tmps.getD p undef=.pointer (ae ⟨g,0,ai⟩))(hu: ∀w,(isAgg ty).run P w=.ok aw w)(hc:w.cell? ⟨g,0,ai⟩=ae (.int .i64 x))(hR:R (.returned (.int .i64 x)) w):LeavesInM Fence.wide 3 P fn tmps R [] .returning w:=by
 refine⟨.int .i64 x,?_,hR⟩;have LR:tmps[p]?.getD undef=.pointer (ae ⟨g,0,ai⟩):=by simpa using hp
 simp[results,h,LR];exact IL hu hc
theorem Gr {G:Nat->Prop}{w0 w:ah}{l:List bT}{p:Nat}{m:jS}(h:In G w0 (jE p m::l) w)(c q:Hd):Calls Tryz.prog 69 #[.pointer (ae ⟨p,0,ai⟩),nw c,nw q] w λe w'=>e=.returned (.int .i64 (fx m c q).2)/\In G w0 (jE p (fx m c q).1::l) w':=by
 obtain⟨hm,b,hI⟩:=h.tX;have HM:=af hm;have k9:=af hI;clear h hm hI;obtain⟨xs,hc⟩:=me.exists HM.out.uy q;have HC:=af hc;clear hc;obtain⟨c1,c2⟩:=c;obtain⟨q1,q2⟩:=q;rw[jV,jV];have heq: ∀(x y:List Int) W,x.length=2->y.length=2->(binOp .eql 43 (.agg (ints x)) (.agg (ints y))).run Tryz.prog W=.ok (.bool (decide (x=y))) W:=λx y W h1 h2=>xF x y h1 h2 W
 have HEQ:=af heq;clear heq;refine(callsIn_wide (n:=3)).1 ?_;refine callsIn_of_wp_marks Tryz.func69 rfl trivial ?_ rfl;simp only[Tryz.ntmps69,au,aj,ax,Nat.reduceAdd,Nat.reduceSub,dR,dS,eX,ec,cL,dJ];rw[wpIn_wide]
 go_upto_region 1 with(fail)
 refine cc (In G w0 (bg (w.heap.size+1+1) 27 #[.int .i64 0]::bg (w.heap.size+1) 43 (ints [q1,q2])::bg w.heap.size 43 (ints [c1,c2])::bg p 175 #[.map (ae b)]::zH b m::l)) (by have:=((k9.out.alloc 43 (ints [c1,c2])).alloc 43 (ints [q1,q2])).alloc 27 #[.int .i64 0];simp only[cQ]at this;exact this) ?_
 generalize w.heap.size+1+1=rb;generalize w.heap.size+1=qb;generalize w.heap.size=cb;intro w1 hI;have k1:row? w1 cb 0 2=ae (ints [c1,c2]):=hI.third.blk.bt rfl;have k2:row? w1 qb 0 2=ae (ints [q1,q2]):=hI.swap.blk.bt rfl;have k3:w1.cell? ⟨rb,0,ai⟩=ae (.int .i64 0):=hI.blk.cell 0;have k4:w1.frozen? ⟨rb,0,ai⟩=aw:=hI.blk.frozen 0;have hn:=λW=>HEQ.out [c1,c2] [q1,q2] W rfl rfl
 have HI:=af hI;clear hI k9;by_cases e:(c1,c2)=(q1,q2)
 ·have hd:decide ([c1,c2]=[q1,q2])=aA:=by rw[decide_eq_true_eq];injection e with e1 e2;rw[e1,e2]
  rw[hd]at hn;have HA:Hid (fx m (c1,c2) (q1,q2)=(m,8)):=by unfold Hid fx;rw[if_pos (br e)]
  clear hd e
  go_wp2_with fail
  have gd:=HI.out.set 0 (.int .i64 8);refine vl (p:=6) (ty:=27) rfl (g:=rb) (x:=8) rfl Tryz.isAgg27 (gd.blk.cell 0) ?_;rw[HA.out];exact⟨rfl,In.pN HM.out gd.drop.drop.drop⟩
 ·have hd:decide ([c1,c2]=[q1,q2])=aw:=by
   rw[decide_eq_false_iff_not];intro e';injection e' with e1 e2
   injection e2 with e2 _
   exact e (by rw[e1,e2])
  rw[hd]at hn;have Kp:=af e;clear hd e
  go_wp2_with fail
  refine(Sk p (q1,q2) w1).mono ?_;rintro e w2 ⟨rfl,rfl⟩
  go_wp2_with fail
  have hb0:Below w1.heap.size w1 ((w1.alloc (.cells #[.pointer (ae ⟨p,0,ai⟩)] 81)).alloc (.cells (ints (hL (q1,q2))) 43)):=((Below.refl _ _).alloc (az _) _).alloc (by simp) _;have hF:=(dq.new w1 81 #[.pointer (ae ⟨p,0,ai⟩)]).alloc (.cells (ints (hL (q1,q2))) 43);have hH:=dq.new (w1.alloc (.cells #[.pointer (ae ⟨p,0,ai⟩)] 81)) 43 (ints (hL (q1,q2)));rw[cQ]at hH;have gd:=af (HI.out.below hb0);generalize ((w1.alloc (.cells #[.pointer (ae ⟨p,0,ai⟩)] 81)).alloc (.cells (ints (hL (q1,q2))) 43))=W0 at *;generalize w1.heap.size+1=hb at *;generalize w1.heap.size=fb at *;have hS:pX W0 p b m:=⟨HM.out,gd.out.fourth.blk,(gd.out.fifth).hZ⟩;clear hb0 k1 k2 k3 k4 HI;refine(wpIn_wide (n:=3)).1 ?_;refine wpIn_rangeFunc_ownH (F:=Fence.wide) (n:=3) rfl (by decide) (gf:=182) (lb:= #[.pointer (ae ⟨fb,0,ai⟩),.pointer (ae ⟨hb,0,ai⟩)]) rfl trivial (enters_of Tryz.func182 (by kernel_rfl) rfl)
   (KQ 2 (by decide) fb hb p b m (q1,q2) xs HC.out W0 hF hH hS) Ml Mk (Below.refl _ _) (λ_=>rfl)
   (λpre W=>(∀x∈pre,x≠(c1,c2))/\Below W0.heap.size W0 W)
   (λc pre W=>c=.ret/\(c1,c2)∈pre/\Below W0.heap.size (W0.setCell ⟨rb,0,ai⟩ (.int .i64 8)) W)
   (λs A B row hs hg hr=>⟨hs.1,hs.2.grown hg hs.2.size λk hk=>(hr k hk).1⟩)
   (λc s A B row hs hg hr=>⟨hs.1,hs.2.1,hs.2.2.grown hg (by have:=hs.2.2.size;simpa[dA]using this) λk hk=>(hr k hk).1⟩)
   ⟨by simp,Below.refl _ _⟩
   (λx a' W=> ∃xb,dq W xb 43 (ints (hL x))/\a'={tmps:= #[.pointer (ae ⟨p,0,ai⟩),.agg #[.int .i64 c1,.int .i64 c2],.agg #[.int .i64 q1,.int .i64 q2],undef,.pointer (ae ⟨cb,0,ai⟩),.pointer (ae ⟨qb,0,ai⟩),.pointer (ae ⟨rb,0,ai⟩),.pointer (ae ⟨xb,0,ai⟩),.agg (ints [c1,c2]),.agg (ints [q1,q2]),.bool aw,.pointer (ae ⟨p,0,ai⟩),.agg (ints [q1,q2]),.func (.func 182) #[] #[.pointer (ae ⟨fb,0,ai⟩),.pointer (ae ⟨hb,0,ai⟩)],nw x,undef,undef,undef,undef,undef,undef,undef,undef,undef],defers:=[]})
   (λx a' _ A B row hs hg hr=>by obtain⟨xb,h1,h2⟩:=hs;exact⟨xb,(grownBy_keeps_cells hg (λr e=>(hr r e).2) h1 rfl).trans h1,h2⟩)
   ?assign ?body ?done ?stop
  case assign=>
   rintro l1 pre ⟨x1,x2⟩ W K hi hK
   gi_wp2
   have lf:=eZ W 43 [0,0] [x1,x2];exact hK _ _ (xL lf) (eB.fU lf) ⟨hi.1,hi.2.trans (lf.mono hi.2.size)⟩ ⟨W.heap.size,kl W 43 [0,0] [x1,x2] rfl,rfl⟩
  case body=>
   rintro l1 pre ⟨x1,x2⟩ a' W qw ⟨r,hr⟩ ⟨wM,hbW⟩ ⟨xb,hxb,rfl⟩ bE;have Zt:=gd.out.below hbW;have k1:row? W xb 0 2=ae (ints [x1,x2]):=hxb.bt rfl;have k2:row? W cb 0 2=ae (ints [c1,c2]):=Zt.third.blk.bt rfl;have k3:W.cell? ⟨rb,0,ai⟩=ae (.int .i64 0):=Zt.blk.cell 0;have k4:W.frozen? ⟨rb,0,ai⟩=aw:=Zt.blk.frozen 0;have hn:=λW=>HEQ.out [x1,x2] [c1,c2] W rfl rfl
   have HNO:=af wM;have HBW:=af hbW;have HSZ:Hid (rb<W0.heap.size):=gd.out.blk.lt;clear wM hbW Zt hxb;by_cases e:(x1,x2)=(c1,c2)
   ·have hd:decide ([x1,x2]=[c1,c2])=aA:=by rw[decide_eq_true_eq];injection e with e1 e2;rw[e1,e2]
    rw[hd]at hn;have HE:=af e;clear hd e
    gi_wp2
    exact⟨(KeepsOthers.setCell _ _ _).from _,rfl,by rw[HE.out];simp,FZ HBW.out _ _ _⟩
   ·have hd:decide ([x1,x2]=[c1,c2])=aw:=by
     rw[decide_eq_false_iff_not];intro e';injection e' with e1 e2
     injection e2 with e2 _
     exact e (by rw[e1,e2])
    rw[hd]at hn;have HE:=af e;clear hd e
    gi_wp2
    exact⟨KeepsFrom.refl _ _,eB.refl _,λy hy=>by rcases iV.1 hy with hy|hy;exact HNO.out y hy;rw[eC.1 hy];exact HE.out,HBW.out⟩
  case done=>
   rintro D ys W hD rfl ⟨wM,hbW⟩ hK;have HA:Hid (fx m (c1,c2) (q1,q2)=(iP m (c1,c2) (q1,q2),0)):=by
    unfold Hid fx;rw[if_neg];rintro(e|e)
    ·exact Kp.out e
    ·exact wM _ (HC.out.mem.2 e) rfl
   have Zt:=gd.out.below hbW;have k1:row? W cb 0 2=ae (ints [c1,c2]):=Zt.third.blk.bt rfl;have k2:row? W qb 0 2=ae (ints [q1,q2]):=Zt.swap.blk.bt rfl;have k3:W.cell? ⟨p,0,ai⟩=ae (.map (ae b)):=Zt.fourth.blk.cell 0;have HBW:=af hbW;have HD:=af hD;have HK:=af hK;have BE:Hid (ey nw nw (λ_=>True) W b m):=Zt.fifth.hZ;clear wM hbW hD hK Zt hS hF hH
   go_wp2_with fail
   go_still_tail 6,(by kernel_rfl)
   change wpList _ _ _ _ _ W.drew;have Qn:Hid (ey nw nw (λ_=>True) W.drew b m):=BE.out;have aeV:Hid (Below W0.heap.size W0 W.drew):=HBW.out.drew;have HK3:Hid (W.drew.heap[D]? =ae (.deferred (ae []))):=HK.out;clear BE HBW HK k1 k2 k3;generalize W.drew=W2 at *
   go_wp2_with (at_mapUpdate;go_loud (refine iE Dk rfl _ _ _ 173 43 rfl Tryz.underlying173 b m rfl Qn.out (c1,c2) rfl trivial (q1,q2) rfl ?_))
   intro W3 h1 h2 h3;have HO:Hid (cW (· =b) W0 W3):=(cW.fU aeV.out).trans h2;have hK4:W3.heap[D]? =ae (.deferred (ae [])):=by have bE:=(aL.1 HK3.out).1;refine(h2.block D bE ?_).trans HK3.out;intro e;obtain⟨es,clock,jN,_⟩:=Qn.out;rw[<-e,HK3.out]at jN;cases jN
   have HMP:=af h1;have dQ:rb≠b:=λe=>by obtain⟨es,clock,jN,_⟩:=(gd.out.fifth).hZ;have:=gd.out.blk;rw[e]at this;unfold dq at this;rw[this]at jN;cases jN
   have sN:dq W3 rb 27 #[.int .i64 0]:=HO.out.blk gd.out.blk dQ;have Zv:=af sN;have k5:W3.cell? ⟨rb,0,ai⟩=ae (.int .i64 0):=sN.cell 0;have k6:W3.frozen? ⟨rb,0,ai⟩=aw:=sN.frozen 0;have HK4:=af hK4;clear h1 h2 h3 Qn aeV HK3 hK4 dQ sN
   go_wp2_with fail
   have hKD:(W3.setCell ⟨rb,0,ai⟩ (.int .i64 0)).heap[D]? =ae (.deferred (ae [])):=by
    rw[Below.heap_setCell _ _ _ _ (by intro e;have h1:=Zv.out;unfold dq at h1;simp only at e;rw[<-e,HK4.out]at h1;cases h1)]
    exact HK4.out
   have gm:=gd.out.set 0 (.int .i64 0);have Xa:cW (· =b) (W0.setCell ⟨rb,0,ai⟩ (.int .i64 0)) ((W3.setCell ⟨rb,0,ai⟩ (.int .i64 0)).putObj D (.deferred ai)):=(HO.out.abO rb 0 (.int .i64 0)).putObj (by simpa[dA]using HD.out) _;have hlb:b<W0.heap.size:=((gd.out.fifth).hZ).lt;have hM4:ey nw nw (λ_=>True) ((W3.setCell ⟨rb,0,ai⟩ (.int .i64 0)).putObj D (.deferred ai)) b (iP m (c1,c2) (q1,q2)):=by refine HMP.out.block ?_;rw[World.putObj_heap_other (by have:=HD.out;omega),Below.heap_setCell];intro e;obtain⟨es,clock,jN,_⟩:=HMP.out;have h1:=Zv.out;unfold dq at h1;simp only at e;rw[<-e,jN]at h1;cases h1
   have iY:=In.o6 gm.fifth hM4 Xa;refine⟨by simp,.inl ⟨D,_,rfl,run_takeDeferred hKD,?_⟩⟩;refine vl (p:=6) (ty:=27) rfl (g:=rb) (x:=0) rfl Tryz.isAgg27 (iY.swap.blk.cell 0) ?_;rw[HA.out];have wa:=HM.out.sk (c1,c2) (q1,q2);rw[HA.out]at wa;exact⟨rfl,In.pN wa (iY.swap.drop.swap.drop.swap.drop.swap)⟩
  case stop=>
   rintro D c pre W hD afY ⟨rfl,iM,hbW⟩ hK;have HA:Hid (fx m (c1,c2) (q1,q2)=(m,8)):=by unfold Hid fx;rw[if_pos (bR (HC.out.mem.1 (afY.subset iM)))]
   have gm:=gd.out.set 0 (.int .i64 8);have iY:=gm.below ((KX hbW (D:=D) (by simpa[dA]using hD) (.deferred ai)).mono (by simp[dA]))
   gi_wp2
   refine⟨by simp,.inl ⟨D,_,rfl,run_takeDeferred hK,?_⟩⟩;refine vl (p:=6) (ty:=27) rfl (g:=rb) (x:=8) rfl Tryz.isAgg27 (iY.blk.cell 0) ?_;rw[HA.out];exact⟨rfl,In.pN HM.out iY.drop.drop.drop⟩
end
section
open Go.RowKit
end
section
open Go.RowKit
theorem ac8 {a b:Hd×Hd}(h:bL a=bL b):a=b:=by
 unfold bL at h;injection h with h1 h
 injection h with h2 h
 injection h with h3 h
 injection h with h4 _
 exact Prod.ext (Prod.ext h1 h2) (Prod.ext h3 h4)
section
variable {G:Nat->Prop} {w0 w:ah} {l:List bT} {v u:aq}
theorem adi {bs cs:List (Hd×Hd)}(h:In G w0 (kG v bs::kG u cs::l) w):Calls Tryz.prog 18 #[v,u] w λe w'=>e=.returned (.bool (decide (bs=cs)))/\Below w.heap.size w w':=by
 obtain⟨A,c,rfl,wK,vZ,tk,_⟩:=xR (f:=bL) (λ_=>rfl) V6 h.rowAt;obtain⟨A',c',rfl,ahq,ahr,adz,_⟩:=xR (f:=bL) (λ_=>rfl) V6 h.swap.rowAt;have:=Oq A A' c c' (bs.map bL) (cs.map bL) w tk adz (by rw[List.length_map];omega) (by rw[List.length_map];omega);have hd:iu (bs.map bL) (cs.map bL)=decide (bs=cs):=by unfold iu;rw[nJ,decide_eq_true_eq,decide_eq_true_eq];exact⟨λh=>Ms (λ_ _=>ac8) h,λh=>by rw[h]⟩
 rw[List.length_map,List.length_map,hd]at this;exact this
theorem SO {p:Nat}{m:jS}(h:In G w0 (jE p m::l) w)(hl:m.length<=1099511627776)(a:Hd):Calls Tryz.prog 129 #[.pointer (ae ⟨p,0,ai⟩),nw a] w λe w'=> ∃v,e=.returned v/\In G w0 (jF v (under m a)::jE p m::l) w':=by obtain⟨rk,R,hr⟩:=h.WE.uy;exact Oy h.WE hl rk R hr (R-rk a+1) a (Nat.lt_succ_self _) h
end
end
section
open Go.RowKit
attribute [local go_sem] Oper.semAt_some
theorem ads {A B:ah}(h:Below A.heap.size A B):A.grownBy B ai:=⟨h.os,h.tape,h.output,h.size,λk hk _=>h.block k hk⟩
theorem Sq {B:Nat}{A W:ah}(h:Below B A W){D:Nat}(hD:B<=D)(o:Obj):Below B A (W.putObj D o):=⟨h.os,h.tape,h.output,by simpa using h.size,λk hk=>(World.putObj_heap_other (by omega)).trans (h.block k hk)⟩
theorem Uo (b:Nat)(w:ah):Calls Tryz.prog 95 #[.map (ae b)] w λe w'=>
 e=.returned (.func (.func 147) #[] #[.pointer (ae ⟨w.heap.size,0,ai⟩)])/\w'=w.alloc (.cells #[.map (ae b)] 105):=by
 go_enter Tryz.func95,Tryz.ntmps95
 go_wp2_with fail
 go_ret;exact⟨rfl,rfl⟩
theorem O2 {m left:List (Int×Nat)}{pre:List Int}{x:Int}{v:Nat}(hn:(bG left).Nodup)(hx:(x,v)∈left)(hp:(pre++bG left).Perm (bG m)):((pre++[x])++bG (ep left x)).Perm (bG m):=by refine List.Perm.trans ?_ hp;rw[dn];exact dE _ ((zY hn hx).map (λp:Int×Nat=>p.1)).symm
theorem Nv (n:Nat)(hn:1<=n)(kb b:Nat)(m:List (Int×Nat))(w:ah)(hB:dq w kb 105 #[.map (ae b)])(hM:ey (aZ .i64) vw nN w b m):SeqStopsK Fence.wide n Tryz.prog 147 #[.pointer (ae ⟨kb,0,ai⟩)] (λx:Int=> #[.int .i64 x]) KeepsWalks (λys=>ys.Perm (bG m)) (λ_=>True) m.length w:=λl J Jx W hW hJ hJx hY h0=>by
 have HJ:=af hJ;have HY:=af hY;have HJ0:=af h0;have hM1:=hM.after hW;have k0:W.cell? ⟨kb,0,ai⟩=ae (.map (ae b)):=(hB.after hW).cell 0;have VJ:Hid ((bG m).Nodup):=hM.nodup rV;clear hJ hY hW hJx h0 hB;refine callsIn_of_wp Tryz.func147 rfl trivial ?_ rfl;simp only[Tryz.ntmps147,au,aj,ax,Nat.reduceAdd,Nat.reduceSub,dR,dS,eX,ec,cL,dJ]
 gi_wp2_with (first
  |(gi_at_range;refine ya rfl _ 105 134 rfl Tryz.underlying105 b _ rfl hM1 ?_;intro w2 Ja gV xJ)
  |gi_in)
 have HR2:=af Ja;have HJ2:Hid (J [] w2):=HJ.out [] W w2 ai HJ0.out (ads gV) (λr e=>by cases e);have HLE:Hid (W.heap.size<=W.heap.size):=az _;generalize hri:W.heap.size=ri at *;clear Ja gV xJ hM1 k0 hM HJ0
 gi_loopw [6] (λ_ wr=> ∃(left:List (Int×Nat)) (pre:List Int),(bG left).Nodup/\(pre++bG left).Perm (bG m)/\dw (aZ .i64) vw nN wr b ri m left/\J pre wr) (λ_ wr=>wr.rangeLeft b ri)
 case atStart=>exact⟨m,[],VJ.out,by simp,HR2.out,HJ2.out⟩
 case round=>
  clear HJ2 HR2;obtain⟨left,pre,LO,hp,hr,hJp⟩:=hrel;have VJ:=af LO;have HP:=af hp;have HR:=af hr;have HJP:=af hJp;clear LO hp hr hJp
  gi_wp2_with (first
   |(gi_at_next;refine Ca rV rfl _ rfl b ri _ left rfl HR.out ?_ ?_)
   |gi_in)
  ·intro S5;subst S5
   gi_wp2
   go_end0
   exact⟨⟨_,rfl⟩,.inl ⟨pre,by have:=HP.out;simpa[bG]using this,HJP.out⟩⟩
  ·intro x v w7 hx GL Fh S9 sM ZF;have HR7:=af GL;have xy:=af sM;have Fo:=af (O2 VJ.out hx HP.out);have ag1:Hid ((bG (ep left x)).Nodup):=qD VJ.out _;have HPL:Hid (pre.length<m.length):=by have:=Fo.out.length_eq;simp[bG]at this;unfold Hid;omega
   have HJ7:Hid (J pre w7):=HJ.out pre wr w7 (ae ri) HJP.out Fh.Ty (λr e=>by cases e;exact⟨HLE.out,HR.out.walk⟩);obtain⟨fn,tmps,assign,body,hy,hR⟩:=HY.out pre x w7 HJ7.out HPL.out;have UQ:=af hR;clear GL Fh S9 sM hx hR
   gi_wp2
   refine UQ.out.mono ?_;rintro e W3 (⟨rfl,hJ3,hk3⟩|⟨rfl,adv⟩)
   ·have HJ3:=af hJ3;have HR3:=af (HR7.out.walks hk3);clear hJ3 hk3 hy ZF
    gi_wp2
    go_roundw
    case rel=>exact⟨ep left x,pre++[x],ag1.out,Fo.out,HR3.out,HJ3.out⟩
    case measure=>rw[HR3.out.count,HR.out.count];exact xy.out
   ·gi_wp2
    refine bodyPost_ret (results_none rfl _ _ _) rfl ?_;exact⟨⟨_,rfl⟩,.inr ⟨pre++[x],trivial,adv⟩⟩
theorem OY:(Tryz.prog.info? 3).map (λi=>(i.zero,i.size,i.bytes))=ae (ae (.int .i64 0),1,8):=by kernel_rfl
theorem CO (gf:Nat)(lb:Array aq)(eg: ∀args w,(callFunc gf args).run Tryz.prog w=.ok (.enter gf args) w)(S Sp:List Int->Prop)(N:Nat)(hN:N<=1099511627776)(w:ah)(af4:SeqStopsK Fence.wide 2 Tryz.prog gf lb (λx:Int=> #[.int .i64 x]) KeepsWalks S Sp N w):Calls Tryz.prog 146 #[.slice ai 0 0,.func (.func gf) #[] lb] w λe w'=> ∃v,∃ys:List Int,e=.returned v/\S ys/\w'.ownsRow w.heap.size 3 1 v ys.length (ys.map (aZ .i64))/\Below w.heap.size w w':=by
 have ag3:=af af4;have HEG:=af eg;clear af4 eg;obtain⟨i0,qX,uH,vi,uC⟩:=info_parts OY;refine(callsIn_wide (n:=3)).1 ?_;refine callsIn_of_wp_marks Tryz.func146 rfl trivial ?_ rfl;simp only[Tryz.ntmps146,au,aj,ax,Nat.reduceAdd,Nat.reduceSub,dR,dS,eX,ec,cL,dJ];rw[wpIn_wide]
 go_wp2_with fail
 have HB0:Hid (Below w.heap.size w (w.alloc (.cells #[.slice ai 0 0] 32))):=(Below.refl _ _).alloc (az _) _;have HC0:Hid (uM 3 32 1 w w.heap.size 0 [] (w.alloc (.cells #[.slice ai 0 0] 32))):=⟨⟨_,dq.new w _ _,World.ownsRow_nil _ _ _ _⟩,HB0.out⟩;have HSZ:Hid ((w.alloc (.cells #[.slice ai 0 0] 32)).heap.size=w.heap.size+1):=by simp[Hid]
 generalize (w.alloc (.cells #[.slice ai 0 0] 32))=W0 at *;refine(wpIn_wide (n:=3)).1 ?_;refine wpIn_rangeFunc_ownH (F:=Fence.wide) (n:=3) rfl (by decide) (gf:=gf) (lb:=lb) rfl trivial HEG.out
  ag3.out walksK_t walksK_b HB0.out (λ_=>rfl)
  (λpre W=>uM 3 32 1 w w.heap.size pre.length (pre.map (aZ .i64)) W)
  (λ_ _ _=>False)
  (λs A B row hs hg hr=>hs.kept hg λr e=>⟨by have:=(hr r e).1;have:=HSZ.out;omega,(hr r e).2⟩)
  (λc s A B row hs hg hr=>hs)
  HC0.out
  (λx a' W=>a'={tmps:= #[.slice ai 0 0,.func (.func gf) #[] lb,.pointer (ae ⟨w.heap.size,0,ai⟩),undef,.slice ai 0 0,.int .i64 x,.func (.func gf) #[] lb,.int .i64 x,undef,undef,undef,undef,undef],defers:=[]})
  (λx a' _ A B row hs hg hr=>hs)
  ?assign ?body ?done ?stop
 case assign=>
  rintro l1 pre x W K hi hK
  gi_wp2
  exact hK _ _ (KeepsFrom.refl _ _) (KeepsWalks.refl _) hi rfl
 case body=>
  rintro l1 pre x a' W qw ⟨r,hr⟩ ⟨⟨v,BQ,ZN⟩,hb⟩ rfl bE;have k2:W.cell? ⟨w.heap.size,0,ai⟩=ae v:=BQ.cell 0;have HV1:=af BQ;have HV2:=af ZN;have HB:=af hb;have hp1:pre.length+1<=maxLen:=by unfold maxLen;omega
  have hp2:(pre.length+1) *8<=140737488355328:=by omega
  have hp3:=hb.size;clear BQ ZN hb hr
  gi_wp2_with (first
   |(gi_at_builtin;refine wQ rfl _ _ 32 rfl w.heap.size 3 i0 _ 1 8 Tryz.underlying32 qX uH vi uC rfl (by decide) v pre.length (pre.map (aZ .i64)) rfl HV2.out [.int .i64 x] rfl rfl (by simp[jm]) hp1 hp2 hp3 ?_
     intro v' w9 ho hg zT;have hv9:dq w9 w.heap.size 32 #[v]:=by have h1:=HV1.out.alloc (.cells [aZ .i64 x].toArray 3);refine(hg.block w.heap.size h1.lt ?_).trans h1;exact λe=>xf (HV2.out.alloc (.cells [aZ .i64 x].toArray 3)) h1 (λcur e=>by injection e with _ e2;exact absurd e2 (by decide)) e.symm
     have HK9:Hid (KeepsOthers W w9):=(KeepsOthers.alloc W _).trans (KeepsOthers.of_grownBy hg (BR (HV2.out.alloc _)));have HB9:Hid (Below w.heap.size w w9):=(HB.out.alloc HB.out.size _).grown hg (by have:=HB.out.size;simp;omega) (λk e=>(lq HV2.out k e).1);have HV9:=af hv9;have HO9:=af ho;have k3:=hv9.cell 0;have k4:=hv9.frozen 0;clear hg zT hv9 k2;obtain⟨g',afc,rfl⟩:=ownsRow_succ ho;clear ho
     go_frame)
   |gi_in)
  refine⟨((HK9.out.trans (KeepsOthers.setCell _ _ _)).from _),(HK9.out.trans (KeepsOthers.setCell _ _ _)).walks,⟨⟨_,HV9.out.set 0 _,?_⟩,HB9.out.setCell (p:=⟨w.heap.size,0,ai⟩) (az _) _⟩⟩;have h5:=HO9.out.kept (grownBy_setCell' w9 w.heap.size (.slice (ae ⟨g',0,ai⟩) (pre.length+1) afc)) (bR (xf HO9.out HV9.out (λcur e=>by injection e with _ e2;exact absurd e2 (by decide))));rw[bM,dX];exact h5
 case done=>
  rintro D ys W hD hS ⟨⟨v,BQ,ZN⟩,hb⟩ hK;have k2:W.cell? ⟨w.heap.size,0,ai⟩=ae v:=BQ.cell 0;have HV2:=af ZN;have HB:=af hb;have HS:=af hS;have HK:=af hK;have HD:Hid (w.heap.size<=D):=by have:=HSZ.out;unfold Hid;omega
  clear BQ ZN hb hS hK hD
  go_wp2_with fail
  refine⟨by simp,.inl ⟨_,_,rfl,run_takeDeferred HK.out,?_⟩⟩;refine O8 (p:=4) (v:=v) rfl rfl ?_;exact⟨v,ys,rfl,HS.out,ownsRow_putObj HV2.out _ HK.out rfl,Sq HB.out HD.out _⟩
 case stop=>rintro D c pre W hD afY hF hK;exact hF.elim
theorem Aw {w:ah}{kb b:Nat}{m:List (Int×Nat)}(hB:dq w kb 105 #[.map (ae b)])(hM:ey (aZ .i64) vw nN w b m)(hl:m.length<=1099511627776):Calls Tryz.prog 94 #[.func (.func 147) #[] #[.pointer (ae ⟨kb,0,ai⟩)]] w λe w'=> ∃v,∃ys:List Int,e=.returned v/\ys.Perm (bG m)/\w'.ownsRow w.heap.size 3 1 v ys.length (ys.map (aZ .i64))/\Below w.heap.size w w':=by
 have HC:=af (CO 147 #[.pointer (ae ⟨kb,0,ai⟩)] (enters_of Tryz.func147 (by kernel_rfl) rfl) _ _ m.length hl w (Nv 2 (by decide) kb b m w hB hM));clear hB hM
 go_enter Tryz.func94,Tryz.ntmps94
 go_wp2_with fail
 refine HC.out.mono ?_;rintro e w' ⟨v,ys,rfl,h1,h2,h3⟩;have H1:=af h1;have H2:=af h2;have H3:=af h3;clear h1 h2 h3 HC
 go_wp2_with fail
 go_ret;exact⟨v,ys,rfl,H1.out,H2.out,H3.out⟩
end
section
open Go.RowKit Go.Sort
theorem ajE {α:Type}(rw:Int->List α): ∀zs:List Int,(∀K∈zs,(rw K).length<=60)->(zs.flatMap rw).length<=60 *zs.length
 | [],_=>by simp
 |K::zs,h=>by
  rw[cM,bM,aj];have h1:=h K (by simp);have h2:=ajE rw zs λK hK=>h K (by simp[hK])
  omega
theorem ajW {T:WT}(hn:T.ks.Nodup)(hk: ∀K∈T.ks,0<=K/\K<=255):T.ks.length<=256:=by
 have oB: ∀x∈T.ks,x∈(aG 256).map (λi:Nat=>(i:Int)):=λx hx=>by have:=hk x hx;exact aN.2 ⟨x.toNat,mD.2 (by omega),by omega⟩
 have:=vq hn oB;simpa using this
theorem ajQ (T:WT):bG (T.ks.map λK=>(K,T.pt K))=T.ks:=by unfold bG;rw[List.map_map];exact List.map_id _
def aiM (q:Query)(ks:List Int)(rw:Int->List cz)(j:Nat):List cz:=((ks.take j).filter λK=>fD K q).flatMap rw
theorem ajG (q:Query)(ks:List Int)(rw:Int->List cz)(j:Nat)(h:j<ks.length):aiM q ks rw (j+1)=if fD ks[j] q=aA then aiM q ks rw j++rw ks[j]else aiM q ks rw j:=by
 unfold aiM;rw[aR h,List.filter_append,eI];by_cases hm:fD ks[j] q=aA
 ·rw[if_pos hm];simp[hm]
 ·rw[if_neg hm];simp[hm]
def ajC (a b:cz):Int:=rQ a.h.1 b.h.1
theorem ajY:SWO (ltOf ajC)where
 irrefl x:=by unfold ltOf ajC;simp[sw]
 trans x y z h1 h2:=by unfold ltOf ajC at *;simp only[sw,decide_eq_true_eq]at *;omega
 ntrans x y z h1 h2:=by unfold ltOf ajC at *;simp only[sw,decide_eq_false_iff_not]at *;omega
instance:Inhabited cz:=⟨aP⟩
theorem In.ajU {G:Nat->Prop}{w0 w:ah}{T:WT}{X:List bT}{K:Int}(hK:K∈T.ks)(h:In G w0 (nI (T.pt K) K (T.rw K)::(X++(T.ks.erase K).map (di T))) w):In G w0 (X++T.ks.map (di T)) w:=h.perm ((dE X ((List.perm_cons_erase hK).map (di T))).trans List.perm_middle).symm
theorem ajN (x y:cz)(w:ah):Calls Tryz.prog 98 #[.agg (ints (uF x)),.agg (ints (uF y))] w λe w'=>e=.returned (.int .i64 (ajC x y))/\ ∃q os,w'=Sort.grow (w.drewN q) os:=by
 have HX:Hid ((ints (uF x))[0]? =ae (.int .i64 x.h.1)):=rfl;have HY:Hid ((ints (uF y))[0]? =ae (.int .i64 y.h.1)):=rfl;have HC:Hid (ajC x y=rQ x.h.1 y.h.1):=rfl;generalize ajC x y=cr at *;generalize x.h.1=x0 at *;generalize y.h.1=y0 at *;generalize uF x=xs at *;generalize uF y=ys at *
 go_enter Tryz.func98,Tryz.ntmps98
 go_upto_region 1 with(fail)
 have k1:((w.alloc (.cells (ints xs) 50)).alloc (.cells (ints ys) 50)).cell? ⟨w.heap.size,0,ai⟩=ae (.int .i64 x0):=(((dq.new w 50 (ints xs)).alloc _).cell 0).trans HX.out;have k2:((w.alloc (.cells (ints xs) 50)).alloc (.cells (ints ys) 50)).cell? ⟨w.heap.size+1,0,ai⟩=ae (.int .i64 y0):=by have:=dq.new (w.alloc (.cells (ints xs) 50)) 50 (ints ys);rw[cQ]at this;exact(this.cell 0).trans HY.out
 have HW:Hid (((w.alloc (.cells (ints xs) 50)).alloc (.cells (ints ys) 50))=Sort.grow w #[.cells (ints xs) 50,.cells (ints ys) 50]):=by unfold Hid;rw[Sort.alloc_eq_grow,Sort.alloc_eq_grow,Sort.grow_grow];rfl
 change Code.wp _ _ _ _ ((w.alloc (.cells (ints xs) 50)).alloc (.cells (ints ys) 50));generalize ((w.alloc (.cells (ints xs) 50)).alloc (.cells (ints ys) 50))=w2 at *;clear HX HY
 go_wp2_with fail
 refine(xD x0 y0 w2).mono ?_;rintro e w3 ⟨rfl,rfl⟩
 go_wp2_with fail
 go_ret;refine⟨eF HC.out.symm,0,#[.cells (ints xs) 50,.cells (ints ys) 50],?_⟩;rw[HW.out]
 rfl
section
variable {G:Nat->Prop} {w0 w:ah} {l:List bT}
theorem ajS {v:aq}{xs:List cz}(h:In G w0 (cE v xs::l) w)(hl:xs.length<=1099511627776):Calls Tryz.prog 97 #[v,.func (.func 98) #[] #[]] w λe w'=>e=.returned (.tuple #[])/\ ∃ys:List cz,ys.Perm xs/\(ys.Pairwise λa b=> ¬b.h.1<a.h.1)/\In G w0 (cE v ys::l) w':=by
 have h1: ∀x,∀u∈D2 x,u.oneCell'=aA:=λx u hu=>by obtain⟨y,_,rfl⟩:=aN.1 hu;rfl
 have h2: ∀blk off size w,CmpLays Tryz.prog 98 #[] D2 11 ajC blk off size w:=λblk off size w m os dk _ x y=>ajN x y (sortWorldK D2 11 w blk off m dk os)
 have h3: ∀args w,(callFunc 98 args).run Tryz.prog w=.ok (.enter 98 args) w:=enters_of Tryz.func98 (by kernel_rfl) rfl;have BN:=J3 (ρ:=Bw) (enc:=D2) Nk Tryz.isAgg50 Tryz.sizeOf50 D3 h1 ajC ajY 98 h3 h2 50 h (by omega);change Calls Tryz.prog 97 _ _ _ at BN;refine BN.mono ?_;rintro e w' ⟨rfl,ys,hp,hs,hI⟩;exact⟨rfl,ys,hp,hs.imp λ{a b} h bE=>by unfold ajC at h;rw[decide_eq_false_iff_not,sw]at h;exact h bE,hI⟩
end
section
variable {G:Nat->Prop} {w0 w:ah} {l:List bT} {p:Nat} {ls:List (Int×Bool)} {f:BF}
end
end
section
open Go.RowKit
theorem Ev:BB.list=[0,0,0]:=rfl
theorem zX (k:Int):fD k BB=aA:=by exact Jj k
theorem Iu:jZ BB=0:=by decide
end
section
open Go.RowKit
noncomputable instance:DecidableEq cz:=λa b=>Classical.propDecidable (a=b)
section
variable {ls:List (Int×Bool)} {f:BF}
theorem Qu (h:oe ls f){r:cz}(hr:r∈mf ls f):r.b.v.length=8/\bK r.b=0/\ez ls r.h.1 r.h.2=aA/\f r.h.1=ae (r.h.2,r.b):=by have h1:=(mm h).1 hr;obtain⟨h2,h3⟩:=h.bo _ _ _ h1;exact⟨h3,h2,(h.lv _ _).2 ⟨_,h1⟩,h1⟩
theorem Sm (h:oe ls f){r:cz}(hr:r∈mf ls f): ∃s:Nat,r.h.1=(s:Int)/\s<ls.length/\(cX ls).getD s 0=r.h.2:=by obtain⟨_,_,h1,_⟩:=Qu h hr;obtain⟨k,e1,e2,e3⟩:=sU h1;refine⟨k,e1,e2,?_⟩;rw[sF,bq,dK,ao e2];rw[bq,ao e2]at e3;simp only[bI]at e3;simp[e3]
theorem sE (ls:List (Int×Bool)):(cX ls).length=ls.length:=by rw[sF,List.length_map]
theorem yn (h:oe ls f):(mf ls f).length<=60:=by have:=T1 ls f BB;rw[D5 zX]at this;have:=h.so.1;omega
end
section
variable {G:Nat->Prop} {w0 w:ah} {l:List bT} {v u:aq}
theorem zd {rs:List cz}(h:In G w0 (cE v rs::l) w): ∃A c,v=.slice A rs.length c/\rs.length<=c/\c<=maxLen/\gu w w.heap.size 11 A (rs.map uF)/\(0<rs.length-> ∃g,A=ae ⟨g,0,ai⟩):=xR (f:=uF) (λ_=>rfl) M7 h.rowAt
theorem adk {a b:List cz}(h:In G w0 (cE v a::l) w){l':List bT}{G':Nat->Prop}{w0':ah}(h':In G' w0' (cE u b::l') w):Calls Tryz.prog 34 #[v,u] w λe w'=>e=.returned (.bool (decide (a.map uF=b.map uF)))/\Below w.heap.size w w':=by obtain⟨A,c,rfl,wK,vZ,tk,_⟩:=zd h;obtain⟨A',c',rfl,ahq,ahr,adz,_⟩:=zd h';have:=SH A A' c c' (a.map uF) (b.map uF) w tk adz (by rw[List.length_map];omega) (by rw[List.length_map];omega);rw[List.length_map,List.length_map]at this;exact this
theorem Wu {a b:List cz}(h:In G w0 (cE v a::l) w){l':List bT}{G':Nat->Prop}{w0':ah}(h':In G' w0' (cE u b::l') w)(e:a=b):Calls Tryz.prog 34 #[v,u] w λe w'=>e=.returned (.bool aA)/\Below w.heap.size w w':=by have:=adk h h';rw[decide_eq_true (by rw[e])]at this;exact this
end
end
section
open Go.RowKit Go.Sort
section
variable {G:Nat->Prop} {w0 w:ah} {l:List bT} {p sp:Nat} {ls:List (Int×Bool)} {f:BF}
theorem M9 (h:In G w0 (kx p sp ls f::l) w)(hk:oe ls f)(q:Query):Calls Tryz.prog 42 #[.pointer (ae ⟨p,0,ai⟩),.agg (ints q.list)] w λe w'=> ∃v,e=.returned (.tuple #[v,.int .i64 (jZ q)])/\In G w0 (cE v (if jZ q=0 then vD ls f q else [])::kx p sp ls f::l) w':=by
 have k9:=af h;have HK:=af hk;clear h hk;obtain⟨qe,hqe⟩: ∃x,jZ q=x:=⟨_,rfl⟩;rw[hqe];have HQE:=af hqe;clear hqe
 go_enter Tryz.func42,Tryz.ntmps42
 go_upto_region 1 with(fail)
 refine cc (In G w0 (kx p sp ls f::bg w.heap.size 52 (ints q.list)::l)) ((k9.out.alloc 52 (ints q.list)).swap) ?_;generalize w.heap.size=qb;intro w1 jU;have q1:row? w1 qb 0 3=ae (ints q.list):=jU.swap.blk.bt rfl;have pY:=af jU;clear jU k9
 go_wp2_with fail
 refine(qc q w1).mono ?_;rintro e w2 ⟨rfl,gV⟩;rw[HQE.out];have gd:=af (pY.out.below gV);clear gV pY q1;by_cases hq:qe=0
 case neg=>
  have HQ:=af hq
  go_wp2_with fail
  go_ret2
  refine⟨.slice ai 0 0,rfl,?_⟩;exact gd.out.swap.drop.tW _ _
 case pos=>
  subst hq;clear HQE;obtain⟨tb,pb,T,hT,hI⟩:=gd.out.mN;have fF:In G w0 (bg p 108 #[.pointer (ae ⟨sp,0,ai⟩),.map (ae tb),.map (ae pb)]::b9 sp ls::PtrMap tb (T.ks.map λK=>(K,T.pt K))::bz pb T.ps::bg qb 52 (ints q.list)::(l++T.ks.map (di T))) w2:=hI;have zG: ∀K∈T.ks,(0<=K/\K<=255)/\ ∀r∈T.rw K,r.b.k=K:=λK hK=>zq (In.yW (X:=bg p 108 #[.pointer (ae ⟨sp,0,ai⟩),.map (ae tb),.map (ae pb)]::b9 sp ls::PtrMap tb (T.ks.map λK=>(K,T.pt K))::bz pb T.ps::bg qb 52 (ints q.list)::l) fF hK)
  have Qm:=af zG;have HT:=af hT;have HKL:=af (ajW hT.nd λK hK=>(zG K hK).1);have gm:=af fF;have k0:w2.cell? ⟨p,1,ai⟩=ae (.map (ae tb)):=fF.blk.cell 1;clear hT hI fF zG gd
  go_wp2_with fail
  refine(Uo tb w2).mono ?_;rintro e w3 ⟨rfl,rfl⟩;have fX:=(gm.out.alloc 105 #[.map (ae tb)]);have SY:=Aw (m:=T.ks.map λK=>(K,T.pt K)) fX.blk (fX.fourth.hZ) (by rw[List.length_map];have:=HKL.out;omega);have aac:=af SY;have iY:=af fX.drop;clear fX SY gm k0;generalize w2.alloc (.cells #[.map (ae tb)] 105)=w3 at *
  go_wp2_with fail
  refine aac.out.mono ?_;rintro e w4 ⟨v4,ys,rfl,hp,ho,hb⟩;rw[ajQ]at hp;have HP:=af hp;have hyl:ys.length<=256:=by rw[hp.length_eq];exact HKL.out
  have lV:Hid (In G w0 (cE (.slice ai 0 0) []::da v4 ys::bg p 108 #[.pointer (ae ⟨sp,0,ai⟩),.map (ae tb),.map (ae pb)]::b9 sp ls::PtrMap tb (T.ks.map λK=>(K,T.pt K))::bz pb T.ps::bg qb 52 (ints q.list)::(l++T.ks.map (di T))) w4):=(iY.out.wo ho hb).tW _ _;obtain⟨A4,c4,rfl,_⟩:=lV.out.swap.kX;clear ho hb aac iY hp;obtain⟨i0,qX,uH,vi,uC⟩:=info_parts TY;have hyi:(ys.length:Int)<=256:=by omega
  go_wp2_with fail
  go_loopw [26,7] (λi v w'=> ∃j:Nat,j<=ys.length/\i=.int .i64 j/\In G w0 (cE v (aiM q ys T.rw j)::da (.slice A4 ys.length c4) ys::bg p 108 #[.pointer (ae ⟨sp,0,ai⟩),.map (ae tb),.map (ae pb)]::b9 sp ls::PtrMap tb (T.ks.map λK=>(K,T.pt K))::bz pb T.ps::bg qb 52 (ints q.list)::(l++T.ks.map (di T))) w') (λi _ _=>ys.length-(intOf i).toNat)
  case atStart=>exact⟨0,by omega,rfl,lV.out⟩
  case round=>
   clear lV;obtain⟨j,hj,rfl,hI⟩:=hrel;have HI:=af hI;obtain⟨A5,c5,hA5,hr5⟩:=hI.swap.kX;injection hA5 with e1 e2 e3
   subst e1;subst e3;have HR5:=af hr5;clear hI hr5 e2;by_cases bE:j<ys.length
   ·have OG:(j:Int)<ys.length:=by omega
    obtain⟨g,o2,rfl,I8,aiy,vZ⟩:=HR5.out.at_ (k:=j) bE;have VH:=af (ajG q ys T.rw j bE);have hKm:ys[j]∈T.ks:=HP.out.mem_iff.1 (aU bE);generalize ys[j]=K at *;have HKM:=af hKm;have q1:row? wr qb 0 3=ae (ints q.list):=(HI.out.nth 6 (by simp)).blk.bt rfl;clear HR5 hKm
    go_wp2_with fail
    refine(Dm K q wr).mono ?_;rintro e w5 ⟨rfl,hb5⟩;have lV:=af (HI.out.below hb5);clear hb5 q1 vZ HI;cases hm:fD K q with
    |false=>
     rw[if_neg (by rw[hm];simp)]at VH;clear hm
     go_wp2_with fail
     go_roundw
     case rel=>exact⟨j+1,by omega,by go_num,by rw[VH.out];exact lV.out⟩
     case measure=>simp[intOf];omega
    |true=>
     rw[if_pos hm]at VH;clear hm;have k1:w5.cell? ⟨p,1,ai⟩=ae (.map (ae tb)):=(lV.out.third).blk.cell 1;have ny:=(lV.out.nth 4 (by simp)).hZ;have qw:=yR ny HKM.out (Qm.out K HKM.out).1 (Below.refl _ _);clear ny;have S6:=HT.out.qM HKM.out;have kh:Hid (In G w0 (nI (T.pt K) K (T.rw K)::cE u7 (aiM q ys T.rw j)::da (.slice (ae ⟨g,o2,ai⟩) ys.length c4) ys::bg p 108 #[.pointer (ae ⟨sp,0,ai⟩),.map (ae tb),.map (ae pb)]::b9 sp ls::PtrMap tb (T.ks.map λK=>(K,T.pt K))::bz pb T.ps::bg qb 52 (ints q.list)::l++(T.ks.erase K).map (di T)) w5):=In.yW (X:=cE u7 (aiM q ys T.rw j)::da (.slice (ae ⟨g,o2,ai⟩) ys.length c4) ys::bg p 108 #[.pointer (ae ⟨sp,0,ai⟩),.map (ae tb),.map (ae pb)]::b9 sp ls::PtrMap tb (T.ks.map λK=>(K,T.pt K))::bz pb T.ps::bg qb 52 (ints q.list)::l) lV.out HKM.out;have HH:=af (vH kh.out (by omega))
     go_wp2_with fail
     refine HH.out.mono ?_;rintro e w6 ⟨hv,rfl,ho,Kt,qW⟩;obtain⟨A6,c6,rfl,_,_,_⟩:=cH ho;have kE:Hid (In G w0 (cE u7 (aiM q ys T.rw j++(T.rw K).take 0)::nI (T.pt K) K (T.rw K)::da (.slice (ae ⟨g,o2,ai⟩) ys.length c4) ys::bg p 108 #[.pointer (ae ⟨sp,0,ai⟩),.map (ae tb),.map (ae pb)]::b9 sp ls::PtrMap tb (T.ks.map λK=>(K,T.pt K))::bz pb T.ps::bg qb 52 (ints q.list)::l++(T.ks.erase K).map (di T)) w6):=by rw[List.take_zero,eN];exact qW.swap
     clear ho Kt qW kh lV HH k1 qw;have U': ∀r∈T.rw K,r.b.v.length=8:=λr hr=>by obtain⟨i,hi,U2⟩:=dp.1 hr;obtain⟨h1,_⟩:=HT.out.at_ K HKM.out i r (by rw[ao hi,U2]);exact(HT.out.ok _ _ _ h1).2.1
     have HVL:=af U';have Xq:(aiM q ys T.rw j).length<=60 *((ys.take j).filter λK=>fD K q).length:=ajE T.rw _ λK' jH=>HT.out.qM (HP.out.mem_iff.1 (oY (cu.1 jH).1))
     have adK:((ys.take j).filter λK=>fD K q).length<=256:=bP (List.length_filter_le _ _) (by rw[dW];omega);have HML:Hid ((aiM q ys T.rw j).length<=15360):=by unfold Hid;omega
     clear U' Xq adK;generalize aiM q ys T.rw j=done at *;have hri:((T.rw K).length:Int)<=60:=by omega
     go_wp2_with fail
     go_loopw [43,7] (λi v w'=> ∃k:Nat,k<=(T.rw K).length/\i=.int .i64 k/\In G w0 (cE v (done++(T.rw K).take k)::nI (T.pt K) K (T.rw K)::da (.slice (ae ⟨g,o2,ai⟩) ys.length c4) ys::bg p 108 #[.pointer (ae ⟨sp,0,ai⟩),.map (ae tb),.map (ae pb)]::b9 sp ls::PtrMap tb (T.ks.map λK=>(K,T.pt K))::bz pb T.ps::bg qb 52 (ints q.list)::l++(T.ks.erase K).map (di T)) w') (λi _ _=>(T.rw K).length-(intOf i).toNat)
     case atStart=>exact⟨0,by omega,rfl,kE.out⟩
     case round=>
      clear kE;obtain⟨k,hk,rfl,hI⟩:=hrel;have HI:=af hI;clear hI;by_cases QY:k<(T.rw K).length
      ·have xH:(k:Int)<(T.rw K).length:=by omega
       have UQ:Hid (vC (T.rw K) (k:Int)=((T.rw K)[k],0)):=by unfold Hid vC l0;have h1:decide (0<=(k:Int))=aA:=decide_eq_true (by omega);have h2:decide ((k:Int)<((T.rw K).length:Nat))=aA:=decide_eq_true (by omega);rw[h1,h2,dL,bq,ao QY];rfl
       have HR:=af (ab5 HI.out.swap (k:Int) (by omega));rw[UQ.out]at HR;have HTK:Hid (done++(T.rw K).take (k+1)=(done++(T.rw K).take k)++[(T.rw K)[k]]):=by unfold Hid;rw[aR QY,dn]
       have adV:((T.rw K)[k]).list.length=11:=by have h8:=HVL.out _ (aU QY);simp[cz.list,aQ.list,h8]
       have HRC:Hid (D2 (T.rw K)[k]=((T.rw K)[k]).list.map (aZ .i64)):=by unfold Hid D2 uF;rw[QF adV]
       have rh:(done++(T.rw K).take k).length<=20000:=by rw[bM,dW];have:=HML.out;omega
       generalize (T.rw K)[k]=r at *;have ae6:=af adV;generalize Q7:r.list=xs at *;generalize done++(T.rw K).take k=cur at *;clear adV Q7;have XH:xs.length=11:=ae6.out
       go_wp2_with fail
       refine HR.out.mono ?_;rintro e w8 ⟨rfl,_,l9⟩;have pO:=af l9.swap;clear l9 HR HI UQ
       go_upto_region 14 with(fail)
       refine cc (In G w0 (bg w8.heap.size 50 (ints xs)::cE u7 cur::nI (T.pt K) K (T.rw K)::da (.slice (ae ⟨g,o2,ai⟩) ys.length c4) ys::bg p 108 #[.pointer (ae ⟨sp,0,ai⟩),.map (ae tb),.map (ae pb)]::b9 sp ls::PtrMap tb (T.ks.map λK=>(K,T.pt K))::bz pb T.ps::bg qb 52 (ints q.list)::l++(T.ks.erase K).map (di T))) (pO.out.struct 50 [0,0,0,0,0,0,0,0,0,0,0] xs XH) ?_;generalize w8.heap.size=rb;intro w9 pj;have d3:row? w9 rb 0 11=ae (ints xs):=pj.blk.bt XH;have pZ:=af pj.drop;have HOW:=af pj.drop.rowAt;have Xu: ∀u∈xs.map (aZ .i64),u.oneCell'=aA:=by intro u hu;obtain⟨y,_,rfl⟩:=aN.1 hu;rfl
       have BG:=af Xu;clear pj Xu pO
       go_wp2_with (at_builtin;go_loud (refine eu rfl _ _ _ rfl 0 50 i0 _ 11 88 Tryz.underlying33 qX uH vi uC rfl (by decide) _ cur.length _ rfl HOW.out (xs.map (aZ .i64)) rfl (by rw[List.length_map];exact ae6.out) BG.out (by unfold maxLen;omega) (by omega) (bS _) ?_))
       intro v' xx acC FJ afx;have gD:=In.yo pZ.out acC FJ afx;have nX:In G w0 (cE v' (cur++[r])::nI (T.pt K) K (T.rw K)::da (.slice (ae ⟨g,o2,ai⟩) ys.length c4) ys::bg p 108 #[.pointer (ae ⟨sp,0,ai⟩),.map (ae tb),.map (ae pb)]::b9 sp ls::PtrMap tb (T.ks.map λK=>(K,T.pt K))::bz pb T.ps::bg qb 52 (ints q.list)::l++(T.ks.erase K).map (di T)) xx:=by unfold cE;rw[bM,eI,cM,List.flatMap_nil,eN,HRC.out];exact gD
       have uw:=af nX;clear acC FJ afx gD nX d3 pZ HOW
       go_wp2_with fail
       go_roundw
       case rel=>exact⟨k+1,by omega,by go_num,by rw[HTK.out];exact uw.out⟩
       case measure=>simp[intOf];omega
      ·have Xm:k=(T.rw K).length:=by omega
       subst Xm;rw[cD,<-VH.out]at HI;have aaM:In G w0 (nI (T.pt K) K (T.rw K)::(cE u7 (aiM q ys T.rw (j+1))::da (.slice (ae ⟨g,o2,ai⟩) ys.length c4) ys::bg p 108 #[.pointer (ae ⟨sp,0,ai⟩),.map (ae tb),.map (ae pb)]::b9 sp ls::PtrMap tb (T.ks.map λK=>(K,T.pt K))::bz pb T.ps::bg qb 52 (ints q.list)::l++(T.ks.erase K).map (di T))) wr:=HI.out.swap
       go_wp2_with fail
       go_roundw
       case rel=>exact⟨j+1,by omega,by go_num,In.ajU (X:=cE u7 (aiM q ys T.rw (j+1))::da (.slice (ae ⟨g,o2,ai⟩) ys.length c4) ys::bg p 108 #[.pointer (ae ⟨sp,0,ai⟩),.map (ae tb),.map (ae pb)]::b9 sp ls::PtrMap tb (T.ks.map λK=>(K,T.pt K))::bz pb T.ps::bg qb 52 (ints q.list)::l) HKM.out aaM⟩
       case measure=>simp[intOf];omega
   ·have hjm:j=ys.length:=by omega
    subst hjm;have HMA:Hid (aiM q ys T.rw ys.length=(ys.filter λK=>fD K q).flatMap T.rw):=by unfold Hid aiM;rw[cD]
    have Xq:((ys.filter λK=>fD K q).flatMap T.rw).length<=60 *(ys.filter λK=>fD K q).length:=ajE T.rw _ λK' jH=>HT.out.qM (HP.out.mem_iff.1 (cu.1 jH).1)
    have adK:(ys.filter λK=>fD K q).length<=256:=bP (List.length_filter_le _ _) (by omega);rw[HMA.out]at HI;have XC:=ajS HI.out (by omega);have HSO:=af XC;clear XC Xq adK
    go_wp2_with fail
    refine HSO.out.mono ?_;rintro e w8 ⟨rfl,zs,hzp,Q8,pj⟩;have rj:zs=vD ls f q:=Nt HT.out HK.out (λK hK=>(Qm.out K hK).2) q HP.out hzp (Q8.imp λ{a b} h=>by omega);rw[rj]at pj;have pZ:=af pj;clear pj rj hzp Q8 HSO HI HMA
    go_wp2_with fail
    go_ret2
    refine⟨_,rfl,?_⟩;have gD:=pZ.out.swap.drop;exact(In.qN (l:=bg qb 52 (ints q.list)::cE u7 (vD ls f q)::l) HT.out (gD.reorder 6 [1,2,3,4,5,0] rfl (by simp))).swap.drop.swap
theorem Lx (h:In G w0 (kx p sp ls f::l) w)(hl:ls.length<=60):Calls Tryz.prog 43 #[.pointer (ae ⟨sp,0,ai⟩)] w λe w'=> ∃A c,e=.returned (.slice A ls.length c)/\In G w0 (da (.slice A ls.length c) (cX ls)::kx p sp ls f::l) w':=by obtain⟨tb,pb,T,hT,hI⟩:=h.mN;obtain⟨F1,hS⟩:=hI.swap.head;refine(WO sp ls F1 w hS hl).mono ?_;rintro e w' ⟨v,rfl,ho,hb⟩;have gX:=h.wo ho hb;obtain⟨A,c,rfl,_⟩:=gX.kX;rw[sE]at gX⊢;exact⟨A,c,rfl,gX⟩
theorem adj {A A':Option Addr}{n c c':Nat}{xs:List Int}(hn:n<=maxLen)(h:In G w0 (da (.slice A n c) xs::l) w){l':List bT}{G':Nat->Prop}{w0':ah}(h':In G' w0' (da (.slice A' n c') xs::l') w):Calls Tryz.prog 17 #[.slice A n c,.slice A' n c'] w λe w'=>e=.returned (.bool aA)/\w=w':=by
 obtain⟨B,d,e,hr⟩:=h.kX;obtain⟨B',d',e',we⟩:=h'.kX;injection e with e1 e2 e3
 injection e' with e4 e5 e6
 subst e1;subst e4;rw[<-e2]at hr;rw[<-e2]at we;have:=aay A A' n n c c' xs xs w w.heap.size w.heap.size hr we hn hn;rw[decide_eq_true rfl]at this;exact this
theorem In.abU (h:In G w0 (kx p sp ls f::l) w):w.cell? ⟨p,0,ai⟩=ae (.pointer (ae ⟨sp,0,ai⟩)):=by obtain⟨tb,pb,T,hT,hI⟩:=h.mN;exact hI.blk.cell 0
end
end
section
open Go.RowKit
theorem qK {G:Nat->Prop}{w0 w:ah}{l:List bT}{A:Option Addr}{n c:Nat}{rs:List cz}(h:In G w0 (cE (.slice A n c) rs::l) w){k:Nat}(hk:k<rs.length)(h8:rs[k].b.v.length=8): ∃g,A=ae ⟨g,0,ai⟩/\row? w g (k *11) 11=ae (ints (cz.list rs[k])):=by
 obtain⟨A',c',e,_,_,hr⟩:=h.YK;injection e with e1 e2 e3
 subst e1;obtain⟨g,h1,h2⟩:=hr k hk;refine⟨g,h1,?_⟩;rw[h2,bq,ao hk,bI,RF h8]
end
section
open Go.RowKit
section
variable {ls:List (Int×Bool)} {f:BF}
end
end
section
open Go.RowKit
theorem O3 (z:ZS)(hs:List Hd)(k:Nat)(h:k<hs.length):uo z (hs.take (k+1))=Bd (uo z (hs.take k)) hs[k]:=by unfold uo;rw[aR h,oc];rfl
section
variable {G:Nat->Prop} {w0 w:ah} {l:List bT} {p:Nat} {z:ZS}
theorem In.adZ {wp fp:Nat}{m:jS}{z:ZS}{x:Hd}(hz:j9 z)(hm:dx m=z.B)(hf:jK m)(h:In G w0 (jE fp (oA m x)::dG wp (nO z.ls z.f x).1.1 (nO z.ls z.f x).1.2::yc p wp fp::l) w):In G w0 (cj p (Bd z x)::l) w:=by refine In.mC (z:=Bd z x) (m:=oA m x) ?_ (h.third.perm ((cB _ _ _).cons _));rw[CR hf.nodup,hm];rfl
theorem NK (h:In G w0 (cj p z::l) w)(hk:j9 z)(x:Hd):Calls Tryz.prog 65 #[ptr p,nw x] w λe w'=>e=.returned (.int .i64 (sT z x).2)/\In G w0 (cj p (sT z x).1::l) w':=by
 have H0:=af h;have HK:=af hk;clear h hk;obtain⟨i0,qX,uH,vi,uC⟩:=info_parts mg;obtain⟨x1,x2⟩:=x;rw[jV]
 go_enter Tryz.func65,Tryz.ntmps65
 go_upto_region 1 with(fail)
 refine cc (In G w0 (bg w.heap.size 43 (ints [x1,x2])::cj p z::l)) (H0.out.alloc 43 (ints [x1,x2])) ?_;generalize w.heap.size=cb;intro w3 fF;have q2: ∀n:After w3,row? n.w cb 0 2=ae (ints [x1,x2]):=λn=>(fF.blk.after n.below).bt rfl
 obtain⟨wp,fp,m,hm,hf,ha,fX⟩:=fF.swap.jO;have q3: ∀n:After w3,n.w.cell? ⟨p,0,ai⟩=ae (ptr wp):=λn=>(fX.blk.after n.below).cell 0
 obtain⟨sp,F,q4,hS⟩:=fX.swap.slotsOf;have HL:Hid (∀n:After w3,Calls Tryz.prog 72 #[.pointer (ae ⟨sp,0,ai⟩),.agg (ints [x1,x2])] n.w λe w'=>e=.returned (.bool (z.live (x1,x2)))/\Below n.w.heap.size n.w w'):=λn=>qz sp z.ls F x1 x2 n.w (hS n)
 have gm:=af fF;clear fF fX hm hf ha hS H0;cases nc:z.live (x1,x2)with
 |false=>
  have HR:Hid (sT z (x1,x2)=(z,7)):=by unfold Hid sT;rw[nc];rfl
  rw[nc]at HL;refine bU (by kernel_rfl) (by kernel_rfl) ?_
  repeat(go_big_quiet_step ((go_at_call 72;exact gT (HL.out _))))
  refine wpQuiet_nil ?_;rintro _ ⟨n,rfl⟩;have lV:=af (gm.out.below n.below)
  go_wp2_with fail
  go_ret;rw[HR.out];exact⟨rfl,lV.out.drop⟩
 |true=>
  have HR:Hid (sT z (x1,x2)=(uo z (Be z (x1,x2)),0)):=by unfold Hid sT;rw[if_pos nc]
  rw[nc]at HL;clear nc;refine bU (by kernel_rfl) (by kernel_rfl) ?_
  repeat(go_big_quiet_step ((go_at_call 72;exact gT (HL.out _))))
  refine wpQuiet_nil ?_;rintro _ ⟨n,rfl⟩;have eH:=gm.out.below n.below;obtain⟨wp,fp,m,hm,hf,ha,iC⟩:=eH.swap.jO;generalize n.w=w5 at *;have k1:row? w5 cb 0 2=ae (ints [x1,x2]):=eH.blk.bt rfl;have k2:w5.cell? ⟨p,1,ai⟩=ae (ptr fp):=iC.blk.cell 1;have kh:Hid (In G w0 (jE fp m::yc p wp fp::dG wp z.ls z.f::bg cb 43 (ints [x1,x2])::l) w5):=iC.third;have Xq:m.length<=60:=by rw[<-Gg m,hm];exact HK.out.len
  have HU:Hid (under m (x1,x2)=under z.B (x1,x2)):=Alike.under hf HK.out.rS ha _;have HM:=af hm;have HF:=af hf;clear eH iC hm hf ha q2 q3 q4 HL gm
  go_upto_region 3 with(fail)
  go_still_tail 5,(by kernel_rfl)
  change wpList _ _ _ _ _ w5.drew;have kE:=af kh.out.drew;clear kh k1 k2;generalize w5.drew=w6 at *
  go_wp2_with fail
  refine(SO kE.out (by omega) (x1,x2)).mono ?_;rintro e w7 ⟨uv,rfl,l9⟩;have hul:=Ay HF.out.nodup HF.out.uy (x1,x2);have pO:=af l9;clear l9 kE
  go_wp2_with fail
  refine(M5 pO.out (by omega)).mono ?_;rintro e w8 ⟨rfl,pj⟩;rw[HU.out]at pj hul;have hrl:(under z.B (x1,x2)).reverse.length=(under z.B (x1,x2)).length:=List.length_reverse;have HO:=af pj.rowAt;have k1:row? w8 cb 0 2=ae (ints [x1,x2]):=(pj.nth 4 (by simp)).blk.bt rfl;have pZ:=af pj;clear pj pO HU;generalize hus:(under z.B (x1,x2)).reverse=us at *;have aiD:us.length<=60:=by omega
  clear hrl;have HKL:Hid (Be z (x1,x2)=us++[(x1,x2)]):=by unfold Hid Be;rw[hus]
  clear hus
  go_wp2_with (at_builtin;go_loud (refine eu rfl _ _ 122 rfl 0 43 i0 _ 2 16 Tryz.underlying122 qX uH vi uC rfl (by decide) uv us.length (us.flatMap hC) rfl HO.out [.int .i64 x1,.int .i64 x2] rfl rfl (by simp[jm]) ?_ ?_ (bS _) ?_))
  case refine_1=>unfold maxLen;omega
  case refine_2=>omega
  intro v' w9 ho hg zT;have gD:=In.IE (x:=(x1,x2)) pZ.out ho hg zT;rw[<-HKL.out]at gD;have QY:(Be z (x1,x2)).length<=61:=by rw[HKL.out,bM,List.length_singleton];omega
  obtain⟨A,c,rfl,wK,vZ,_⟩:=rF gD.rowAt;have nX:In G w0 (cj p z::jF (.slice A (Be z (x1,x2)).length c) (Be z (x1,x2))::bg cb 43 (ints [x1,x2])::l) w9:=In.mC HM.out (gD.perm (by refine List.Perm.trans (cB _ _ _) ?_;refine List.Perm.trans ((cB _ _ _).cons _) ?_;refine List.Perm.trans (cB _ _ _) ?_;refine List.Perm.cons _ ?_;refine List.Perm.trans ((cB _ _ _).cons _) ?_;exact(cB _ _ _)))
  have uw:=af nX;clear ho hg zT gD nX pZ HO k1 hul HM HF Xq;generalize tS:Be z (x1,x2)=ks at *;clear tS HKL
  go_wp2_with fail
  go_loopw [31] (λi w'=> ∃k:Nat,k<=ks.length/\i=.int .i64 k/\j9 (uo z (ks.take k))/\In G w0 (cj p (uo z (ks.take k))::jF (.slice A ks.length c) ks::bg cb 43 (ints [x1,x2])::l) w') (λi _=>ks.length-(intOf i).toNat)
  case atStart=>exact⟨0,bS _,rfl,HK.out,uw.out⟩
  case round=>
   clear uw;obtain⟨k,hk,rfl,wa,hI⟩:=hrel;by_cases bE:k<ks.length
   ·have xH:(k:Int)<ks.length:=by omega
    obtain⟨A',c',e0,_,Xk,fY⟩:=rF hI.swap.rowAt;injection e0 with e1 e2 e3
    subst e1;subst e3;obtain⟨g,rfl,q1⟩:=fY k bE;have HS:=af (O3 z ks k bE);have adF:(ks.length:Int)<=c:=by omega
    have HI:=af hI;have Se:=af wa;clear fY e2 hI wa;generalize ks[k]=y at *;obtain⟨y1,y2⟩:=y;generalize uo z (ks.take k)=zk at *
    go_upto_region 8 with(fail)
    refine cc (In G w0 (bg wr.heap.size 43 (ints [y1,y2])::cj p zk::jF (.slice (ae ⟨g,0,ai⟩) ks.length c) ks::bg cb 43 (ints [x1,x2])::l)) (HI.out.struct 43 [0,0] [y1,y2] rfl) ?_;generalize wr.heap.size=yb;intro w3 fF;obtain⟨wp,fp,m,hm,hf,ha,fX⟩:=fF.swap.jO;have k1:row? w3 yb 0 2=ae (ints [y1,y2]):=fF.blk.bt rfl;have k2:w3.cell? ⟨p,0,ai⟩=ae (ptr wp):=fX.blk.cell 0;have HM:=af hm;have HF:=af hf;have iY:=af fX.swap;clear fF fX hm hf ha HI q1
    go_still_tail 5,(by kernel_rfl)
    change wpList _ _ _ _ _ w3.drew;have lV:=af iY.out.drew;clear iY k1 k2;generalize w3.drew=w4 at *
    go_wp2_with fail
    refine(aaZ lV.out Se.out.w y1 y2).mono ?_;rintro e w5 ⟨rfl,iC⟩;have k1:row? w5 yb 0 2=ae (ints [y1,y2]):=(iC.nth 3 (by simp)).blk.bt rfl;have k2:w5.cell? ⟨p,1,ai⟩=ae (ptr fp):=iC.swap.blk.cell 1;have kh:=af iC.third;clear iC lV
    go_upto_region 9 with(fail)
    go_still_tail 5,(by kernel_rfl)
    change wpList _ _ _ _ _ w5.drew;have kE:=af kh.out.drew;clear kh k1 k2;generalize w5.drew=w6 at *
    go_wp2_with fail
    refine(WG kE.out (y1,y2)).mono ?_;rintro e w7 ⟨rfl,l9⟩;have pj:=In.adZ Se.out HM.out HF.out l9;rw[<-HS.out]at pj;have pZ:=af pj;have ae0:=af (Se.out.Bd (y1,y2));rw[<-HS.out]at ae0;clear l9 pj kE
    go_wp2_with fail
    go_roundw
    case rel=>exact⟨k+1,by omega,by go_num,ae0.out,pZ.out.swap.drop⟩
    case measure=>simp[intOf];omega
   ·have:k=ks.length:=by omega
    subst this;have HI:=af hI;rw[cD]at HI;clear hI wa
    go_wp2_with fail
    go_ret;rw[HR.out];exact⟨rfl,HI.out.swap.drop.swap.drop⟩
end
end
section
open Go.RowKit
theorem rG {w:ah}{g g' o o' n:Nat}{x:Array aq}{xs:List Int}(dQ:g≠g')(h:row? w g o n=ae x):row? (putRow w g' o' xs) g o n=ae x:=by unfold row? at *;rw[fH w g' o' xs g dQ];exact h
theorem cell_far {w:ah}{g g' o o':Nat}{x:aq}{xs:List Int}(dQ:g≠g')(h:w.cell? ⟨g,o,ai⟩=ae x):(putRow w g' o' xs).cell? ⟨g,o,ai⟩=ae x:=by unfold c8 at *;simp only[fH w g' o' xs g dQ];exact h
theorem tK {w:ah}{g o n o':Nat}{ys:List Int}(h:fits w g o n=aA)(h':fits w g o' ys.length=aA):fits (putRow w g o' ys) g o n=aA:=by
 unfold fits at *
 split at h
 ·rename_i cs t hg
  rw[hg]at h';simp only[decide_eq_true_eq]at h h';simp[putRow,bw,hg];omega
 ·cases h
theorem acp (z:ZS)(o:ik)(h:o.d=1):ti z o=(⟨(fQ z.ls z.f o.b).1.1,(fQ z.ls z.f o.b).1.2,z.B⟩,(fQ z.ls z.f o.b).2.1,(fQ z.ls z.f o.b).2.2):=by unfold ti;rw[if_pos h]
theorem aff (z:ZS)(o:ik)(h:o.d=2):ti z o=((sT z o.a).1,(0,0),(sT z o.a).2):=by unfold ti;rw[if_neg (by omega),if_pos h]
theorem afg (z:ZS)(o:ik)(h:o.d=3):ti z o=(⟨z.ls,(aiQ z.ls z.f o.a o.k o.n).1,z.B⟩,(0,0),(aiQ z.ls z.f o.a o.k o.n).2):=by unfold ti;rw[if_neg (by omega),if_neg (by omega),if_pos h]
theorem afh (z:ZS)(o:ik)(h:o.d=4):ti z o=(⟨z.ls,(qi z.ls z.f o.a o.k).1,z.B⟩,(0,0),(qi z.ls z.f o.a o.k).2):=by unfold ti;rw[if_neg (by omega),if_neg (by omega),if_neg (by omega),if_pos h]
theorem afi (z:ZS)(o:ik)(h:o.d=5):ti z o=((rO z o.a o.t).1,(0,0),(rO z o.a o.t).2):=by unfold ti;rw[if_neg (by omega),if_neg (by omega),if_neg (by omega),if_neg (by omega),if_pos h]
theorem afj (z:ZS)(o:ik)(h:o.d=6):ti z o=((om z o.a).1,(0,0),(om z o.a).2):=by unfold ti;rw[if_neg (by omega),if_neg (by omega),if_neg (by omega),if_neg (by omega),if_neg (by omega),if_pos h]
theorem afk (z:ZS)(o:ik)(h:o.d≠1/\o.d≠2/\o.d≠3/\o.d≠4/\o.d≠5/\o.d≠6):ti z o=(z,(0,0),1):=by unfold ti;rw[if_neg h.1,if_neg h.2.1,if_neg h.2.2.1,if_neg h.2.2.2.1,if_neg h.2.2.2.2.1,if_neg h.2.2.2.2.2]
section
variable {G:Nat->Prop} {w0 w:ah} {l:List bT} {p:Nat} {z:ZS}
theorem Zn (h:In G w0 (cj p z::l) w)(hk:j9 z)(o:ik)(hv:o.b.v.length=8):Calls Tryz.prog 28 #[ptr p,.agg (ints o.list)] w λe w'=>e=.returned (.tuple #[.agg (ints [(ti z o).2.1.1,(ti z o).2.1.2]),.int .i64 (ti z o).2.2])/\In G w0 (cj p (ti z o).1::l) w':=by
 have H0:=af h;have HK:=af hk;have HV8:=af hv;have WZ:o.list.length=16:=ik.len hv;have hp:p<w.heap.size:=by obtain⟨wp,fp,m,_,_,_,hI⟩:=h.jO;exact hI.blk.lt
 clear h hk hv
 go_enter Tryz.func28,Tryz.ntmps28
 have hft:fits (((w.alloc (.cells (ints o.list) 74)).alloc (.cells #[.int .i64 0,.int .i64 0] 43)).alloc (.cells #[.int .i64 0,.int .i64 0] 43)) (w.heap.size+1+1) 0 2=aA:=by have h1:=(((H0.out.alloc 74 (ints o.list)).alloc 43 (ints [0,0])).alloc 43 (ints [0,0])).blk.fits 0 2 (by rw[bJ];simp);simp only[cQ]at h1;exact h1
 go_upto_region 2 with(fail)
 refine cc (In G w0 (bg (w.heap.size+1+1) 43 (ints [0,0])::bg (w.heap.size+1) 43 (ints [0,0])::bg w.heap.size 74 (ints o.list)::cj p z::l)) (by have h1:=H0.out.alloc 74 (ints o.list);have h2:=h1.alloc 43 (ints [0,0]);have h3:=h2.struct 43 [0,0] [0,0] rfl;simp only[cQ]at h3;exact h3) ?_
 clear hft;have Kp:Hid (w.heap.size+1+1≠w.heap.size+1/\w.heap.size≠w.heap.size+1/\p≠w.heap.size+1):=⟨by omega,by omega,by omega⟩;clear hp;generalize w.heap.size+1+1=nb at *;generalize w.heap.size+1=rb at *;generalize w.heap.size=ob at *;intro w3 fF;clear H0;obtain⟨d,⟨bk,bv⟩,⟨a1,a2⟩,⟨t1,t2⟩,kk,nn⟩:=o;have Tc:bv.length=8:=HV8.out;have fF:=fF.third;have LK:(ik.list ⟨d,⟨bk,bv⟩,(a1,a2),(t1,t2),kk,nn⟩).drop 10=[a1,a2,t1,t2,kk,nn]:=by have:(ik.list ⟨d,⟨bk,bv⟩,(a1,a2),(t1,t2),kk,nn⟩)=([d]++(bk::bv))++[a1,a2,t1,t2,kk,nn]:=rfl;rw[this,List.drop_left' (by simp[Tc])]
 have QS:(ik.list ⟨d,⟨bk,bv⟩,(a1,a2),(t1,t2),kk,nn⟩).drop 12=[t1,t2,kk,nn]:=by rw[show(12:Nat)=10+2 from rfl,<-List.drop_drop,LK];rfl
 have q0:w3.cell? ⟨ob,0,ai⟩=ae (.int .i64 d):=fF.blk.cell 0;have qf:fits w3 rb 0 2=aA:=fF.third.blk.fits 0 2 (by rw[bJ];simp);obtain⟨wp,fp,m,hm,hf,ha,fX⟩:=fF.fourth.jO;have qp:w3.cell? ⟨p,0,ai⟩=ae (ptr wp):=fX.blk.cell 0;have gm:Hid (In G w0 (cj p z::bg rb 43 (ints [0,0])::bg ob 74 (ints (ik.list ⟨d,⟨bk,bv⟩,(a1,a2),(t1,t2),kk,nn⟩))::bg nb 43 (ints [0,0])::l) w3):=by have:=fF.reorder 4 [3,2,0,1] rfl (by simp);exact this
 have iY:Hid (In G w0 (dG wp z.ls z.f::bg rb 43 (ints [0,0])::yc p wp fp::jE fp m::bg ob 74 (ints (ik.list ⟨d,⟨bk,bv⟩,(a1,a2),(t1,t2),kk,nn⟩))::bg nb 43 (ints [0,0])::l) w3):=by have:=fX.reorder 6 [1,5,0,2,3,4] rfl (by simp);exact this
 have HM:=af hm;clear fF fX hm hf ha;generalize hL:bg ob 74 (ints (ik.list ⟨d,⟨bk,bv⟩,(a1,a2),(t1,t2),kk,nn⟩))::bg nb 43 (ints [0,0])::l=L at *;have HL:Hid (∀{W:ah} {A:bT},In G w0 (A::L) W->In G w0 (A::l) W):=by intro W A h;rw[<-hL]at h;exact h.swap.drop.swap.drop
 have HOB:Hid (∀{W:ah} {A:bT},In G w0 (A::L) W->row? W ob 10 2=ae (ints [a1,a2])/\row? W ob 12 2=ae (ints [t1,t2])/\row? W ob 1 9=ae (ints (aQ.list ⟨bk,bv⟩))/\W.cell? ⟨ob,14,ai⟩=ae (.int .i64 kk)/\W.cell? ⟨ob,15,ai⟩=ae (.int .i64 nn)/\row? W nb 0 2=ae (ints [0,0])):=by
  intro W A h;rw[<-hL]at h;have hb:=h.swap.blk;refine⟨?_,?_,?_,?_,?_,h.third.blk.bt rfl⟩
  ·rw[hb.eb 10 2 (by omega),LK];rfl
  ·rw[hb.eb 12 2 (by omega),QS];rfl
  ·rw[hb.eb 1 9 (by omega)];have:(ik.list ⟨d,⟨bk,bv⟩,(a1,a2),(t1,t2),kk,nn⟩).drop 1=aQ.list ⟨bk,bv⟩++[a1,a2,t1,t2,kk,nn]:=rfl;rw[this,List.take_left' (by simp[aQ.list,Tc])]
  ·refine su (n:=1) (xs:=[]) ?_;rw[hb.eb 14 1 (by omega),show(14:Nat)=10+4 from rfl,<-List.drop_drop,LK];rfl
  ·refine su (n:=1) (xs:=[]) ?_;rw[hb.eb 15 1 (by omega),show(15:Nat)=10+5 from rfl,<-List.drop_drop,LK];rfl
 obtain⟨q2,q3,q5,q14,q15,qn⟩:=HOB.out (gm.out.swap.drop);clear hL LK QS WZ Tc;have HFW:Hid (∀{W:ah} {A:bT},In G w0 (A::bg rb 43 (ints [0,0])::yc p wp fp::jE fp m::L) W->W.cell? ⟨p,0,ai⟩=ae (ptr wp)/\fits W rb 0 2=aA/\row? W ob 10 2=ae (ints [a1,a2])/\row? W ob 1 9=ae (ints (aQ.list ⟨bk,bv⟩))/\W.cell? ⟨ob,14,ai⟩=ae (.int .i64 kk)/\W.cell? ⟨ob,15,ai⟩=ae (.int .i64 nn)/\row? W nb 0 2=ae (ints [0,0])):=by intro W A h;obtain⟨r2,r3,r5,r14,r15,rn⟩:=HOB.out (h.swap.drop.swap.drop.swap.drop);exact⟨h.third.blk.cell 0,h.swap.blk.fits 0 2 (by rw[bJ];simp),r2,r5,r14,r15,rn⟩
 have HFZ:Hid (∀{W:ah} {A:bT},In G w0 (A::bg rb 43 (ints [0,0])::L) W->fits W rb 0 2=aA/\row? W ob 10 2=ae (ints [a1,a2])/\row? W nb 0 2=ae (ints [0,0])):=by intro W A h;obtain⟨r2,r3,r5,r14,r15,rn⟩:=HOB.out (h.swap.drop);exact⟨h.swap.blk.fits 0 2 (by rw[bJ];simp),r2,rn⟩
 have yj:Hid (∀{W:ah} {A:bT} {L:List bT} (x y:Int),In G w0 (A::bg rb 43 (ints [0,0])::L) W->In G w0 (A::bg rb 43 (ints [x,y])::L) (putRow W rb 0 [x,y])):=λx y h=>(h.swap.fc [x,y] rfl).swap
 have Ql:Hid (∀{W:ah} {Fj:List (Int×Bool)} {f':BF} {xs:List Int},In G w0 (dG wp Fj f'::bg rb 43 (ints xs)::yc p wp fp::jE fp m::L) W->In G w0 (cj p ⟨Fj,f',z.B⟩::l) W):=λ{W Fj f' xs} h=>HL.out (In.mC (z:=⟨Fj,f',z.B⟩) HM.out h.swap.drop.swap)
 clear fF HM;by_cases h1:d=1
 ·have hd:(d==1)=aA:=by simp[h1]
  have HR:Hid (ti z ⟨d,⟨bk,bv⟩,(a1,a2),(t1,t2),kk,nn⟩=_):=acp z _ h1;clear h1 q2 q3 q14 q15 qn
  go_upto_region 4 with(fail)
  go_region_held3 (λW=>W.cell? ⟨p,0,ai⟩=ae (ptr wp)/\row? W ob 1 9=ae (ints (aQ.list ⟨bk,bv⟩))/\fits W rb 0 2=aA)
   (refine⟨?_,?_,?_⟩<;>first|assumption|(refine rG Kp.out.2.1 ?_;assumption)|(refine cell_far Kp.out.2.2 ?_;assumption)|(refine tK ?_ ?_<;>assumption))
   (first|(go_at_call 64;refine(Y0 iY.out.drew HK.out.w ⟨bk,bv⟩ HV8.out).mono ?_;rintro e xx ⟨rfl,gD⟩;obtain⟨s1,s2,s3,s4,s5,s6,s7⟩:=HFW.out gD;have lV:=af gD;clear gD))
  have kh:=af (yj.out (fQ z.ls z.f ⟨bk,bv⟩).2.1.1 (fQ z.ls z.f ⟨bk,bv⟩).2.1.2 lV.out)
  go_wp2_with fail
  refine cA rfl rb 43 (ints [(fQ z.ls z.f ⟨bk,bv⟩).2.1.1,(fQ z.ls z.f ⟨bk,bv⟩).2.1.2]) (.int .i64 (fQ z.ls z.f ⟨bk,bv⟩).2.2) _ rfl rfl kh.out.swap.blk Tryz.underlying43 rfl (by rw[bJ];exact dV) rfl ?_;rw[HR.out];exact⟨rfl,Ql.out kh.out⟩
 have Cj:(d==1)=aw:=by simp[h1]
 by_cases h2:d=2
 ·have hd:(d==2)=aA:=by simp[h2]
  have HR:Hid (ti z ⟨d,⟨bk,bv⟩,(a1,a2),(t1,t2),kk,nn⟩=_):=aff z _ h2;clear h1 h2 q3 q5 q14 q15 qp
  go_upto_region 6 with(fail)
  go_region_held3 (λW=>row? W ob 10 2=ae (ints [a1,a2])/\row? W nb 0 2=ae (ints [0,0])/\fits W rb 0 2=aA)
   (refine⟨?_,?_,?_⟩<;>first|assumption|(refine rG Kp.out.2.1 ?_;assumption)|(refine rG Kp.out.1 ?_;assumption)|(refine tK ?_ ?_<;>assumption))
   (first
     |(go_at_call 65;refine(NK gm.out.drew HK.out (a1,a2)).mono ?_;rintro e xx ⟨rfl,gD⟩;obtain⟨s1,s2,s3⟩:=HFZ.out gD;have kh:=af (yj.out 0 0 gD);clear gD)
     |(go_at_call 65;refine(NK (yj.out 0 0 gm.out.drew) HK.out (a1,a2)).mono ?_;rintro e xx ⟨rfl,gD⟩;obtain⟨s1,s2,s3⟩:=HFZ.out gD;have kh:=af gD;clear gD))
  all_goals
   go_wp2_with fail
   refine cA rfl rb 43 (ints [0,0]) (.int .i64 (sT z (a1,a2)).2) _ rfl rfl kh.out.swap.blk Tryz.underlying43 rfl (by rw[bJ];exact dV) rfl ?_;rw[HR.out];exact⟨rfl,HL.out kh.out.swap.drop⟩
 have OE:(d==2)=aw:=by simp[h2]
 by_cases h3:d=3
 ·have hd:(d==3)=aA:=by simp[h3]
  have HR:Hid (ti z ⟨d,⟨bk,bv⟩,(a1,a2),(t1,t2),kk,nn⟩=_):=afg z _ h3;clear h1 h2 h3 q3 q5
  go_upto_region 8 with(fail)
  go_region_held3 (λW=>W.cell? ⟨p,0,ai⟩=ae (ptr wp)/\row? W ob 10 2=ae (ints [a1,a2])/\W.cell? ⟨ob,14,ai⟩=ae (.int .i64 kk)/\W.cell? ⟨ob,15,ai⟩=ae (.int .i64 nn)/\row? W nb 0 2=ae (ints [0,0])/\fits W rb 0 2=aA)
   (refine⟨?_,?_,?_,?_,?_,?_⟩<;>first|assumption|(refine rG Kp.out.2.1 ?_;assumption)|(refine rG Kp.out.1 ?_;assumption)|(refine cell_far Kp.out.2.2 ?_;assumption)|(refine cell_far Kp.out.2.1 ?_;assumption)|(refine tK ?_ ?_<;>assumption))
   (first
     |(go_at_call 66;refine(PE iY.out.drew HK.out.w a1 a2 kk nn).mono ?_;rintro e xx ⟨rfl,gD⟩;obtain⟨s1,s2,s3,s4,s5,s6,s7⟩:=HFW.out gD;have kh:=af (yj.out 0 0 gD);clear gD)
     |(go_at_call 66;refine(PE (yj.out 0 0 iY.out.drew) HK.out.w a1 a2 kk nn).mono ?_;rintro e xx ⟨rfl,gD⟩;obtain⟨s1,s2,s3,s4,s5,s6,s7⟩:=HFW.out gD;have kh:=af gD;clear gD))
  all_goals
   go_wp2_with fail
   refine cA rfl rb 43 (ints [0,0]) (.int .i64 (aiQ z.ls z.f (a1,a2) kk nn).2) _ rfl rfl kh.out.swap.blk Tryz.underlying43 rfl (by rw[bJ];exact dV) rfl ?_;rw[HR.out];exact⟨rfl,Ql.out kh.out⟩
 have hd3:(d==3)=aw:=by simp[h3]
 by_cases h4:d=4
 ·have hd:(d==4)=aA:=by simp[h4]
  have HR:Hid (ti z ⟨d,⟨bk,bv⟩,(a1,a2),(t1,t2),kk,nn⟩=_):=afh z _ h4;clear h1 h2 h3 h4 q3 q5 q15
  go_upto_region 10 with(fail)
  go_region_held3 (λW=>W.cell? ⟨p,0,ai⟩=ae (ptr wp)/\row? W ob 10 2=ae (ints [a1,a2])/\W.cell? ⟨ob,14,ai⟩=ae (.int .i64 kk)/\row? W nb 0 2=ae (ints [0,0])/\fits W rb 0 2=aA)
   (refine⟨?_,?_,?_,?_,?_⟩<;>first|assumption|(refine rG Kp.out.2.1 ?_;assumption)|(refine rG Kp.out.1 ?_;assumption)|(refine cell_far Kp.out.2.2 ?_;assumption)|(refine cell_far Kp.out.2.1 ?_;assumption)|(refine tK ?_ ?_<;>assumption))
   (first
     |(go_at_call 67;refine(QC iY.out.drew HK.out.w a1 a2 kk).mono ?_;rintro e xx ⟨rfl,gD⟩;obtain⟨s1,s2,s3,s4,s5,s6,s7⟩:=HFW.out gD;have kh:=af (yj.out 0 0 gD);clear gD)
     |(go_at_call 67;refine(QC (yj.out 0 0 iY.out.drew) HK.out.w a1 a2 kk).mono ?_;rintro e xx ⟨rfl,gD⟩;obtain⟨s1,s2,s3,s4,s5,s6,s7⟩:=HFW.out gD;have kh:=af gD;clear gD))
  all_goals
   go_wp2_with fail
   refine cA rfl rb 43 (ints [0,0]) (.int .i64 (qi z.ls z.f (a1,a2) kk).2) _ rfl rfl kh.out.swap.blk Tryz.underlying43 rfl (by rw[bJ];exact dV) rfl ?_;rw[HR.out];exact⟨rfl,Ql.out kh.out⟩
 have hd4:(d==4)=aw:=by simp[h4]
 clear q5 q14 q15 qp iY Ql HFW;by_cases h5:d=5
 ·have hd:(d==5)=aA:=by simp[h5]
  have HR:Hid (ti z ⟨d,⟨bk,bv⟩,(a1,a2),(t1,t2),kk,nn⟩=_):=afi z _ h5;clear h1 h2 h3 h4 h5;have hbs: ∀W,(fh 122 2 #[(0,.agg (ints [a1,a2])),(1,.agg (ints [t1,t2]))]).run Tryz.prog W=.ok (.slice (ae ⟨W.heap.size,0,ai⟩) 2 2) (W.alloc (.cells (ints [a1,a2,t1,t2]) 43)):=λW=>by kernel_rfl
  have HB:Hid (In G w0 (cj p z::jF (.slice (ae ⟨w3.heap.size,0,ai⟩) 2 2) [(a1,a2),(t1,t2)]::bg rb 43 (ints [0,0])::L) (w3.alloc (.cells (ints [a1,a2,t1,t2]) 43))):=(gm.out.Ds 43 2 2 [.int .i64 a1,.int .i64 a2,.int .i64 t1,.int .i64 t2] rfl (by decide)).swap
  go_wp2_with fail
  refine(Ex HB.out (by simp)).mono ?_;rintro e w4 ⟨rfl,eH⟩;have eH:=eH.swap.drop;by_cases nc:oD z [(a1,a2),(t1,t2)]=aA
  ·have Dc:z.live (a1,a2)=aA/\z.live (t1,t2)=aA:=by simpa[oD]using nc
   have HA:Hid (rO z (a1,a2) (t1,t2)=(⟨z.ls,z.f,dx (fx z.B (a1,a2) (t1,t2)).1⟩,(fx z.B (a1,a2) (t1,t2)).2)):=by unfold Hid rO;rw[if_pos Dc]
   rw[if_pos nc];obtain⟨wp,fp,m,hm,hf,ha,iC⟩:=eH.jO;obtain⟨q2,q3,q5,q14,q15,qn⟩:=HOB.out eH.swap.drop;have qp:w4.cell? ⟨p,1,ai⟩=ae (ptr fp):=iC.blk.cell 1;have KG:=af (ha.sk (a1,a2) (t1,t2));have VD:Hid (dx (fx m (a1,a2) (t1,t2)).1=dx (fx z.B (a1,a2) (t1,t2)).1):=oz (hf.sk _ _).nodup (HK.out.rS.sk _ _).nodup (ha.sk (a1,a2) (t1,t2)).1;have kh:Hid (In G w0 (jE fp m::yc p wp fp::dG wp z.ls z.f::bg rb 43 (ints [0,0])::L) w4):=iC.third;clear eH iC nc Dc hm hf ha q5 q14 q15 HB gm
   go_upto_region 14 with(fail)
   go_still_tail 8,(by kernel_rfl)
   change wpList _ _ _ _ _ w4.drew;have kE:=af kh.out.drew;clear kh q2 q3 qn qp qf;generalize w4.drew=w5 at *
   go_wp2_with fail
   refine(Gr kE.out (a1,a2) (t1,t2)).mono ?_;rintro e w6 ⟨rfl,l9⟩;have pj:In G w0 (cj p ⟨z.ls,z.f,dx (fx z.B (a1,a2) (t1,t2)).1⟩::bg rb 43 (ints [0,0])::L) w6:=In.mC (z:=⟨z.ls,z.f,dx (fx z.B (a1,a2) (t1,t2)).1⟩) VD.out l9.third.third;rw[KG.out.2];obtain⟨qf,q2,qn⟩:=HFZ.out pj;have kh:=af (yj.out 0 0 pj);clear l9 pj kE
   go_wp2_with fail
   refine cA rfl rb 43 (ints [0,0]) (.int .i64 (fx z.B (a1,a2) (t1,t2)).2) _ rfl rfl kh.out.swap.blk Tryz.underlying43 rfl (by rw[bJ];exact dV) rfl ?_;rw[HR.out,HA.out];exact⟨rfl,HL.out kh.out.swap.drop⟩
  ·have Dc: ¬(z.live (a1,a2)=aA/\z.live (t1,t2)=aA):=by simpa[oD]using nc
   have HA:Hid (rO z (a1,a2) (t1,t2)=(z,7)):=by unfold Hid rO;rw[if_neg Dc]
   rw[if_neg nc];obtain⟨qf,q2,qn⟩:=HFZ.out eH;have kh:=af (yj.out 0 0 eH);clear eH nc Dc HB gm
   go_wp2_with fail
   refine cA rfl rb 43 (ints [0,0]) (.int .i64 7) _ rfl rfl kh.out.swap.blk Tryz.underlying43 rfl (by rw[bJ];exact dV) rfl ?_;rw[HR.out,HA.out];exact⟨rfl,HL.out kh.out.swap.drop⟩
 have hd5:(d==5)=aw:=by simp[h5]
 by_cases h6:d=6
 ·have hd:(d==6)=aA:=by simp[h6]
  have HR:Hid (ti z ⟨d,⟨bk,bv⟩,(a1,a2),(t1,t2),kk,nn⟩=_):=afj z _ h6;clear h1 h2 h3 h4 h5 h6;have HB:Hid (In G w0 (cj p z::jF (.slice (ae ⟨w3.heap.size,0,ai⟩) 1 1) [(a1,a2)]::bg rb 43 (ints [0,0])::L) (w3.alloc (.cells (ints [a1,a2]) 43))):=(gm.out.Ds 43 2 1 [.int .i64 a1,.int .i64 a2] rfl (by decide)).swap
  go_wp2_with fail
  refine(Ex HB.out (by simp)).mono ?_;rintro e w4 ⟨rfl,eH⟩;have eH:=eH.swap.drop;by_cases nc:oD z [(a1,a2)]=aA
  ·have Dc:z.live (a1,a2)=aA:=by simpa[oD]using nc
   have HA:Hid (om z (a1,a2)=(⟨z.ls,z.f,(fG z.B (a1,a2)).1⟩,(fG z.B (a1,a2)).2)):=by unfold Hid om;rw[if_pos Dc]
   rw[if_pos nc];obtain⟨wp,fp,m,hm,hf,ha,iC⟩:=eH.jO;obtain⟨q2,q3,q5,q14,q15,qn⟩:=HOB.out eH.swap.drop;have qp:w4.cell? ⟨p,1,ai⟩=ae (ptr fp):=iC.blk.cell 1;have KG:=af (ha.loosen (a1,a2));have VD:Hid (dx (fG m (a1,a2)).1=(fG z.B (a1,a2)).1):=by have h1:=(HK.out.loosen (a1,a2)).Ul;rw[HA.out]at h1;have h2:=oz (hf.loosen (a1,a2)).nodup (HK.out.rS.loosen (a1,a2)).nodup (ha.loosen (a1,a2)).1;exact h2.trans h1
   have kh:Hid (In G w0 (jE fp m::yc p wp fp::dG wp z.ls z.f::bg rb 43 (ints [0,0])::L) w4):=iC.third;clear eH iC nc Dc hm hf ha q3 q5 q14 q15 HB gm
   go_upto_region 19 with(fail)
   go_still_tail 6,(by kernel_rfl)
   change wpList _ _ _ _ _ w4.drew;have kE:=af kh.out.drew;clear kh q2 qn qp qf;generalize w4.drew=w5 at *
   go_wp2_with fail
   refine(Ox kE.out (a1,a2)).mono ?_;rintro e w6 ⟨rfl,l9⟩;have pj:In G w0 (cj p ⟨z.ls,z.f,(fG z.B (a1,a2)).1⟩::bg rb 43 (ints [0,0])::L) w6:=In.mC (z:=⟨z.ls,z.f,(fG z.B (a1,a2)).1⟩) VD.out l9.third.third;rw[KG.out.2];obtain⟨qf,q2,qn⟩:=HFZ.out pj;have kh:=af (yj.out 0 0 pj);clear l9 pj kE
   go_wp2_with fail
   refine cA rfl rb 43 (ints [0,0]) (.int .i64 (fG z.B (a1,a2)).2) _ rfl rfl kh.out.swap.blk Tryz.underlying43 rfl (by rw[bJ];exact dV) rfl ?_;rw[HR.out,HA.out];exact⟨rfl,HL.out kh.out.swap.drop⟩
  ·have Dc: ¬(z.live (a1,a2)=aA):=by simpa[oD]using nc
   have HA:Hid (om z (a1,a2)=(z,7)):=by unfold Hid om;rw[if_neg Dc]
   rw[if_neg nc];obtain⟨qf,q2,qn⟩:=HFZ.out eH;have kh:=af (yj.out 0 0 eH);clear eH nc Dc HB gm
   go_wp2_with fail
   refine cA rfl rb 43 (ints [0,0]) (.int .i64 7) _ rfl rfl kh.out.swap.blk Tryz.underlying43 rfl (by rw[bJ];exact dV) rfl ?_;rw[HR.out,HA.out];exact⟨rfl,HL.out kh.out.swap.drop⟩
 have hd6:(d==6)=aw:=by simp[h6]
 have HR:Hid (ti z ⟨d,⟨bk,bv⟩,(a1,a2),(t1,t2),kk,nn⟩=_):=afk z _ ⟨h1,h2,h3,h4,h5,h6⟩;have kh:=af (yj.out 0 0 gm.out)
 go_wp2_with fail
 refine cA rfl rb 43 (ints [0,0]) (.int .i64 1) _ rfl rfl kh.out.swap.blk Tryz.underlying43 rfl (by rw[bJ];exact dV) rfl ?_;rw[HR.out];exact⟨rfl,HL.out kh.out.swap.drop⟩
end
end
section
open Go.RowKit
theorem In.bare {G:Nat->Prop}{w0 w:ah}{l:List bT}(h:In G w0 l w):In G w0 [] w:=⟨trivial,h.only⟩
def aiN (G:Nat->Prop)(w0:ah)(B:Nat)(A:Option Addr)(os:List ik):Prop:= ∀{W:ah},In G w0 [] W->uP W B A os
theorem aiN.Dt {w:ah}{A:Option Addr}{os:List ik}(h:uP w w.heap.size A os):aiN (λ_=>False) w w.heap.size A os:=λhI=>h.below hI.II
section
variable {G:Nat->Prop} {w0 w:ah} {l:List bT} {B:Nat} {A:Option Addr} {c:Nat} {os:List ik}
theorem NG (hO:aiN G w0 B A os)(hlen:os.length<=1099511627776)(U0: ∀o∈os,o.b.v.length=8)(hI:In G w0 l w):Calls Tryz.prog 11 #[.slice A os.length c] w λe w'=> ∃p,e=.returned (ptr p)/\In G w0 (cj p (CW os)::l) w':=by
 have HO:Hid (aiN G w0 B A os):=hO;have k9:=af hI;have H8:=af U0;clear hI U0 hO
 go_enter Tryz.func11,Tryz.ntmps11
 go_wp2_with fail
 refine(R9 k9.out).mono ?_;rintro e w2 ⟨p,rfl,hI⟩;have pY:=af hI;clear hI k9
 go_wp2_with fail
 go_loopw [11] (λi w'=> ∃k:Nat,k<=os.length/\i=.int .i64 k/\In G w0 (cj p (qg os k)::l) w') (λi _=>os.length-(intOf i).toNat)
 case atStart=>exact⟨0,bS _,rfl,pY.out⟩
 case round=>
  clear pY;obtain⟨k,hk,rfl,hI⟩:=hrel;have HI:=af hI;clear hI;by_cases bE:k<os.length
  ·have xH:(k:Int)<os.length:=by omega
   obtain⟨b,o,rfl,zD,q1⟩:=(HO.out HI.out.bare).at_ bE;have HS:Hid (qg os (k+1)=(ti (qg os k) os[k]).1):=Lc os k bE;have Se:Hid (j9 (qg os k)):=SD H8.out k;have HV8:Hid (os[k].b.v.length=8):=H8.out _ (aU bE);have WZ:(ik.list os[k]).length=16:=ik.len HV8.out;generalize os[k]=op at *;generalize qg os k=z at *
   go_upto_region 7 with(fail)
   refine cc (In G w0 (bg wr.heap.size 74 (ints op.list)::cj p z::l)) (HI.out.struct 74 [0,0,0,0,0,0,0,0,0,0,0,0,0,0,0,0] op.list WZ) ?_;generalize wr.heap.size=ob;intro w3 fF;have q2:row? w3 ob 0 16=ae (ints op.list):=fF.blk.bt WZ;have gm:=af fF.swap;clear fF q1 HI WZ
   go_wp2_with fail
   refine(Zn gm.out Se.out op HV8.out).mono ?_;rintro e w4 ⟨rfl,fX⟩;have iY:=af fX;clear fX
   go_wp2_with fail
   go_roundw
   case rel=>exact⟨k+1,by omega,by go_num,by rw[HS.out];exact iY.out.swap.drop⟩
   case measure=>simp[intOf];omega
  ·have:k=os.length:=by omega
   subst this;have HF:Hid (qg os os.length=CW os):=by unfold Hid qg;rw[cD]
   rw[HF.out]at HI
   go_wp2_with fail
   go_ret;exact⟨p,rfl,HI.out⟩
end
end
section
open Go.RowKit
def dg (d:Int):List Nat:=if d=2\/d=3\/d=4\/d=6 then [10]else if d=5 then [10,12]else []
def lX (o:ik)(off:Nat):Hd:=if off=10 then o.a else o.t
def zl (o:ik)(off:Nat)(h:Hd):ik:=if off=10 then{o with a:=h}else{o with t:=h}
def jX (sp:List Hd)(o:ik):List Nat->ik
 | []=>o
 |off::l=>jX sp (zl o off (rW sp (lX o off))) l
theorem Jk (sp:List Hd)(l l':List Nat): ∀o,jX sp o (l++l')=jX sp (jX sp o l) l':=by
 induction l with
 |nil=>intro o;rfl
 |cons a l ih=>intro o;exact ih _
theorem YV (o:ik)(off:Nat)(h:Hd):(zl o off h).b=o.b/\(zl o off h).d=o.d:=by unfold zl;split<;>exact⟨rfl,rfl⟩
theorem Rh (sp:List Hd)(l:List Nat): ∀o,(jX sp o l).b=o.b/\(jX sp o l).d=o.d:=by
 induction l with
 |nil=>intro o;exact⟨rfl,rfl⟩
 |cons a l ih=>intro o;exact⟨(ih _).1.trans (YV _ _ _).1,(ih _).2.trans (YV _ _ _).2⟩
theorem Yc {d:Int}{off:Nat}(h:off∈dg d):off=10\/off=12:=by
 unfold dg at h
 split at h
 ·simp at h;exact br h
 ·split at h
  ·simp at h;exact h
  ·simp at h
theorem Yb (d:Int):(dg d).length<=2:=by unfold dg;split;simp;split;simp;simp
theorem SV (sp:List Hd)(o:ik)(k:Nat)(hk:k<(dg o.d).length):lX (jX sp o ((dg o.d).take k)) (dg o.d)[k]=lX o (dg o.d)[k]:=by
 unfold dg at hk⊢;by_cases h1:o.d=2\/o.d=3\/o.d=4\/o.d=6
 ·simp only[if_pos h1]at hk⊢;have:k=0:=by simpa using hk
  subst this;rfl
 ·simp only[if_neg h1]at hk⊢;by_cases h5:o.d=5
  ·simp only[if_pos h5]at hk⊢;simp at hk
   match k,hk with
   |0,_=>rfl
   |1,_=>rfl
  ·simp[if_neg h5]at hk
theorem Pc {sp:List Hd}{o:ik}{k:Nat}(hk:k<(dg o.d).length)(h:gS sp (lX o (dg o.d)[k])=ai):mL sp o=ai:=by
 unfold mL;unfold dg at hk;by_cases h1:o.d=2\/o.d=3\/o.d=4\/o.d=6
 ·rw[if_pos h1];have e:dg o.d=[10]:=by unfold dg;rw[if_pos h1]
  simp only[e]at h;simp only[if_pos h1]at hk;have:k=0:=by simpa using hk
  subst this;have:gS sp o.a=ai:=h;rw[this];rfl
 ·rw[if_neg h1];simp only[if_neg h1]at hk;by_cases h5:o.d=5
  ·rw[if_pos h5];have e:dg o.d=[10,12]:=by unfold dg;rw[if_neg h1,if_pos h5]
   simp only[e]at h;simp only[if_pos h5]at hk;simp at hk
   match k,hk with
   |0,_=>have:gS sp o.a=ai:=h;rw[this];rfl
   |1,_=>have:gS sp o.t=ai:=h;rw[this];cases gS sp o.a<;>rfl
  ·simp[if_neg h5]at hk
theorem Tk {sp:List Hd}{o:ik}(h: ∀k,(hk:k<(dg o.d).length)->gS sp (lX o (dg o.d)[k])≠ai):mL sp o=ae (jX sp o (dg o.d)):=by
 unfold mL;by_cases h1:o.d=2\/o.d=3\/o.d=4\/o.d=6
 ·have e:dg o.d=[10]:=by unfold dg;rw[if_pos h1]
  simp only[e]at h⊢;rw[if_pos h1];have h0:=h 0 (by simp);cases hm:gS sp o.a with
  |none=>exact absurd hm h0
  |some a=>have:=Dn hm;simp[jX,zl,lX,this]
 ·rw[if_neg h1];by_cases h5:o.d=5
  ·have e:dg o.d=[10,12]:=by unfold dg;rw[if_neg h1,if_pos h5]
   simp only[e]at h⊢;rw[if_pos h5];have h0:=h 0 (by simp);have h2:=h 1 (by simp);cases hm:gS sp o.a with
   |none=>exact absurd hm h0
   |some a=>
    cases ht:gS sp o.t with
    |none=>exact absurd ht h2
    |some t=>have e1:=Dn hm;have e2:=Dn ht;simp[jX,zl,lX,e1,e2]
  ·have e:dg o.d=[]:=by unfold dg;rw[if_neg h1,if_neg h5]
   rw[if_neg h5,e];rfl
theorem wq (o:ik)(hv:o.b.v.length=8):o.list.drop 10=[o.a.1,o.a.2,o.t.1,o.t.2,o.k,o.n]:=by have:o.list=([o.d]++o.b.list)++[o.a.1,o.a.2,o.t.1,o.t.2,o.k,o.n]:=rfl;rw[this,List.drop_left' (by simp[aQ.list,hv])]
theorem abi {o:ik}(hv:o.b.v.length=8){off:Nat}(h:off=10\/off=12):(o.list.drop off).take 2=[(lX o off).1,(lX o off).2]:=by
 rcases h with rfl|rfl
 ·rw[wq o hv];rfl
 ·rw[show(12:Nat)=10+2 from rfl,<-List.drop_drop,wq o hv];rfl
theorem ad9 {o:ik}(hv:o.b.v.length=8){off:Nat}(h:off=10\/off=12)(x:Hd):o.list.take off++[x.1,x.2]++o.list.drop (off+2)=(zl o off x).list:=by
 have e: ∀o':ik,o'.list=([o'.d]++o'.b.list)++[o'.a.1,o'.a.2,o'.t.1,o'.t.2,o'.k,o'.n]:=λ_=>rfl
 have hl:([o.d]++o.b.list).length=10:=by simp[aQ.list,hv]
 rcases h with rfl|rfl
 ·rw[show 10+2=10+2 from rfl,<-List.drop_drop,wq o hv,e o,List.take_left' hl];unfold zl;rw[if_pos rfl,e];simp
 ·have h2:o.list.take 12=([o.d]++o.b.list)++[o.a.1,o.a.2]:=by rw[e o,List.take_append,hl,cI (by omega)];rfl
  rw[h2,show 12+2=10+4 from rfl,<-List.drop_drop,wq o hv];unfold zl;rw[if_neg (by decide),e];simp
section
variable {G:Nat->Prop} {w0 w:ah} {l:List bT} {ob:Nat} {o:ik}
abbrev KJ (v:aq)(ob:Nat)(wP:List Nat):bT:=dP 196 1 v wP.length (wP.map λo=>Value.pointer (ae ⟨ob,o,ai⟩))
theorem XY (h:In G w0 (bg ob 74 (ints o.list)::l) w):Calls Tryz.prog 108 #[.pointer (ae ⟨ob,0,ai⟩)] w λe w'=> ∃v,e=.returned v/\In G w0 (KJ v ob (dg o.d)::bg ob 74 (ints o.list)::l) w':=by
 have q0:w.cell? ⟨ob,0,ai⟩=ae (.int .i64 o.d):=h.blk.cell 0;have H:=af h;clear h;have BG:Hid (dg o.d=[10]->In G w0 (KJ (.slice (ae ⟨w.heap.size,0,ai⟩) 1 1) ob (dg o.d)::bg ob 74 (ints o.list)::l) (w.alloc (.cells #[.pointer (ae ⟨ob,10,ai⟩)] 196))):=λe=>by rw[e];exact H.out.Ds 196 1 1 [.pointer (ae ⟨ob,10,ai⟩)] rfl (by decide)
 have ag4:Hid (dg o.d=[10,12]->In G w0 (KJ (.slice (ae ⟨w.heap.size,0,ai⟩) 2 2) ob (dg o.d)::bg ob 74 (ints o.list)::l) (w.alloc (.cells #[.pointer (ae ⟨ob,10,ai⟩),.pointer (ae ⟨ob,12,ai⟩)] 196))):=λe=>by rw[e];exact H.out.Ds 196 1 2 [.pointer (ae ⟨ob,10,ai⟩),.pointer (ae ⟨ob,12,ai⟩)] rfl (by decide)
 have HNO:Hid (dg o.d=[]->In G w0 (KJ (.slice ai 0 0) ob (dg o.d)::bg ob 74 (ints o.list)::l) w):=λe=>by rw[e];exact H.out.tW 196 1
 have Sd:Hid (∀d,dg d=if d=2\/d=3\/d=4\/d=6 then [10]else if d=5 then [10,12]else []):=λd=>rfl
 generalize o.d=d at *
 go_enter Tryz.func108,Tryz.ntmps108
 by_cases h2:d=2
 ·have hd:(d==2)=aA:=by simp[h2]
  have HE:Hid (dg d=[10]):=by rw[Sd.out,if_pos (br h2)];rfl
  go_wp2_with fail
  go_ret;exact⟨_,rfl,BG.out HE.out⟩
 have OE:(d==2)=aw:=by simp[h2]
 by_cases h3:d=3
 ·have hd:(d==3)=aA:=by simp[h3]
  have HE:Hid (dg d=[10]):=by rw[Sd.out,if_pos (bR (br h3))];rfl
  go_wp2_with fail
  go_ret;exact⟨_,rfl,BG.out HE.out⟩
 have hd3:(d==3)=aw:=by simp[h3]
 by_cases h4:d=4
 ·have hd:(d==4)=aA:=by simp[h4]
  have HE:Hid (dg d=[10]):=by rw[Sd.out,if_pos (bR (bR (br h4)))];rfl
  go_wp2_with fail
  go_ret;exact⟨_,rfl,BG.out HE.out⟩
 have hd4:(d==4)=aw:=by simp[h4]
 by_cases h6:d=6
 ·have hd:(d==6)=aA:=by simp[h6]
  have HE:Hid (dg d=[10]):=by rw[Sd.out,if_pos (bR (bR (bR h6)))];rfl
  go_wp2_with fail
  go_ret;exact⟨_,rfl,BG.out HE.out⟩
 have hd6:(d==6)=aw:=by simp[h6]
 have wM: ¬(d=2\/d=3\/d=4\/d=6):=by omega
 by_cases h5:d=5
 ·have hd:(d==5)=aA:=by simp[h5]
  have HE:Hid (dg d=[10,12]):=by rw[Sd.out,if_neg wM,if_pos h5];rfl
  go_wp2_with fail
  go_region
  all_goals
   go_wp2_with fail
   go_ret;exact⟨_,rfl,(ag4.out HE.out).drew⟩
 have hd5:(d==5)=aw:=by simp[h5]
 have HE:Hid (dg d=[]):=by rw[Sd.out,if_neg wM,if_neg h5];rfl
 go_wp2_with fail
 go_ret;exact⟨_,rfl,HNO.out HE.out⟩
end
end
section
open Go.RowKit
theorem wD {w:ah}{g o n:Nat}{xs:List Int}(h:row? w g o n=ae (ints xs))(a m:Nat)(ham:a+m<=n):row? w g (o+a) m=ae (ints ((xs.drop a).take m)):=by
 unfold row? at *
 split at h
 ·split at h
  ·rename_i hle
   injection h with h
   rw[if_pos (by omega)];congr 1;have h2:(ints xs).extract a (a+m)=ints ((xs.drop a).take m):=by unfold ints;apply Array.ext';simp[List.map_drop,List.map_take,List.extract_eq_take_drop]
   rw[<-h2,<-h,Array.extract_extract,Nat.min_eq_left (by omega),Nat.add_assoc]
  ·cases h
 ·cases h
section
variable {P:aS} {w:ah}
end
end
section
open Go.RowKit
noncomputable def QE (f:BF)(rs:List cz)(j:Nat):BF:=λs=> @ite _ (∃i,∃h:i<rs.length,i<j/\rs[i].h.1=s) (Classical.propDecidable _) (f s) ai
theorem WC (f:BF)(rs:List cz):QE f rs 0=λ_=>ai:=by funext s;unfold QE;rw[if_neg];rintro⟨i,h,h1,_⟩;omega
theorem WB {f:BF}{rs:List cz}{j:Nat}(hj:j<rs.length)(hf:f rs[j].h.1=ae (rs[j].h.2,rs[j].b)):QE f rs (j+1)=dH (QE f rs j) rs[j].h.1 (ae (rs[j].h.2,rs[j].b)):=by
 funext s;unfold dH;by_cases e:s=rs[j].h.1
 ·rw[if_pos e];unfold QE;rw[if_pos ⟨j,hj,by omega,e.symm⟩,e,hf]
 ·rw[if_neg e];unfold QE;by_cases h: ∃i,∃h:i<rs.length,i<j/\rs[i].h.1=s
  ·obtain⟨i,h1,h2,h3⟩:=h;rw[if_pos ⟨i,h1,by omega,h3⟩,if_pos ⟨i,h1,h2,h3⟩]
  ·rw[if_neg h,if_neg];rintro⟨i,h1,h2,h3⟩;by_cases ei:i=j
   ·subst ei;exact e h3.symm
   ·exact h ⟨i,h1,by omega,h3⟩
theorem aaC {ls:List (Int×Bool)}{f:BF}(h:oe ls f):QE f (mf ls f) (mf ls f).length=f:=by
 funext s;unfold QE;cases hf:f s with
 |none=>split<;>rfl
 |some x=>obtain⟨g,b⟩:=x;have hm:(⟨(s,g),b⟩:cz)∈mf ls f:=(mm h).2 hf;obtain⟨i,hi,U2⟩:=dp.1 hm;rw[if_pos ⟨i,hi,hi,by rw[U2]⟩]
theorem WA {ls:List (Int×Bool)}{f:BF}{j:Nat}(hj:j<(mf ls f).length):QE f (mf ls f) j (mf ls f)[j].h.1=ai:=by unfold QE;rw[if_neg];rintro⟨i,h1,h2,h3⟩;have:=jc.1 (tD ls f) i j h1 hj h2;unfold Vh at this;change (mf ls f)[i].h.1<(mf ls f)[j].h.1 at this;omega
theorem KT {ls:List (Int×Bool)}{f:BF}(h:oe ls f):(mf ls f).map (·.h)=ly ls:=by
 unfold mf;rw[List.map_filterMap];have: ∀x∈ly ls,(zc f x).map (·.h)=ae x:=λx hx=>by unfold zc;rw[h.get (pI.1 hx)];rfl
 rw[Ls (g:=ae) this,List.filterMap_some]
theorem V0 {ls:List (Int×Bool)}{f:BF}(h:oe ls f):qA (cX ls) ((mf ls f).map λr=>r.h.1)=(ae ls,0):=by
 have:(mf ls f).map (λr=>r.h.1)=((mf ls f).map (·.h)).map (·.1):=by rw[List.map_map];rfl
 rw[this,KT h];exact Tj h.so
theorem O0:(Tryz.prog.info? 3).map (λi=>(i.zero,i.size,i.bytes))=ae (ae (.int .i64 0),1,8):=by kernel_rfl
section
variable {G:Nat->Prop} {w0 w:ah} {l:List bT} {ls:List (Int×Bool)} {f:BF}
theorem Zg {gv rv:aq}(h:In G w0 (da gv (cX ls)::cE rv (mf ls f)::l) w)(hk:oe ls f):Calls Tryz.prog 167 #[gv,rv] w λe w'=> ∃p,e=.returned (.tuple #[.pointer (ae ⟨p,0,ai⟩),.int .i64 0])/\In G w0 (dG p ls f::da gv (cX ls)::cE rv (mf ls f)::l) w':=by
 have HLD:=af (V0 hk);have adQ:=yn hk;have aiu:=hk.so.1;have HFA:=af (aaC hk);have HFN:Hid (∀j (hj:j<(mf ls f).length),QE f (mf ls f) j (mf ls f)[j].h.1=ai):=λj hj=>WA hj
 have ae2:Hid (∀r∈mf ls f,r.b.v.length=8/\bK r.b=0/\ez ls r.h.1 r.h.2=aA/\f r.h.1=ae (r.h.2,r.b)):=λr hr=>Qu hk hr
 have HSL:Hid (∀r∈mf ls f,0<=r.h.1/\r.h.1<60):=λr hr=>by obtain⟨s,e,hs,_⟩:=Sm hk hr;omega
 have k9:=af h;obtain⟨gA,gc,rfl,_⟩:=h.kX;obtain⟨rA,rc,rfl,aiA,aiB,_⟩:=h.swap.YK;rw[sE]at k9⊢;clear h hk;generalize mf ls f=rs at *;have hri:(rs.length:Int)<=60:=Int.ofNat_le.2 adQ;obtain⟨i0,qX,uH,vi,uC⟩:=info_parts O0
 go_enter Tryz.func167,Tryz.ntmps167
 go_wp2_with fail
 have pY:Hid (In G w0 (da (.slice ai 0 0) (((rs.take 0).map λr=>r.h.1))::da (.slice gA ls.length gc) (cX ls)::cE (.slice rA rs.length rc) rs::l) w):=k9.out.tW _ _;clear k9
 go_loopw [20,6] (λi v w'=> ∃j:Nat,j<=rs.length/\i=.int .i64 j/\In G w0 (da v (((rs.take j).map λr=>r.h.1))::da (.slice gA ls.length gc) (cX ls)::cE (.slice rA rs.length rc) rs::l) w') (λi _ _=>rs.length-(intOf i).toNat)
 case atStart=>exact⟨0,bS _,rfl,pY.out⟩
 case round=>
  clear pY;obtain⟨j,hj,rfl,hI⟩:=hrel;have HI:=af hI;clear hI;by_cases bE:j<rs.length
  ·have OG:(j:Int)<rs.length:=by omega
   obtain⟨h8,_⟩:=ae2.out _ (aU bE);obtain⟨g,rfl,q1⟩:=qK HI.out.third bE h8;have I':(rs[j]).list.length=11:=by simp[cz.list,aQ.list,h8]
   have Fo:Hid ((rs.take (j+1)).map (λr=>r.h.1)=(rs.take j).map (λr=>r.h.1)++[rs[j].h.1]):=by unfold Hid;rw[aR bE,dX];rfl
   have rh:((rs.take j).map λr=>r.h.1).length<=60:=by rw[List.length_map,dW];omega
   have HC0:Hid ((ints (cz.list rs[j]))[0]? =ae (.int .i64 rs[j].h.1)):=rfl;generalize rs[j]=r at *;generalize (rs.take j).map (λr=>r.h.1)=cur at *
   go_upto_region 7 with(fail)
   refine cc (In G w0 (bg wr.heap.size 50 (ints r.list)::da u6 cur::da (.slice gA ls.length gc) (cX ls)::cE (.slice (ae ⟨g,0,ai⟩) rs.length rc) rs::l)) (HI.out.struct 50 [0,0,0,0,0,0,0,0,0,0,0] _ I') ?_;generalize wr.heap.size=rb;intro w2 gX;have q2:w2.cell? ⟨rb,0,ai⟩=ae (.int .i64 r.h.1):=(gX.blk.cell 0).trans HC0.out;have gd:=af gX.drop;have HOW:=af gX.drop.rowAt;generalize r.h.1=s at *;clear gX q1 HI
   go_wp2_with (at_builtin;go_loud (refine eu rfl _ _ _ rfl 0 3 i0 _ 1 8 Tryz.underlying32 qX uH vi uC rfl (by decide) _ cur.length _ rfl HOW.out [.int .i64 s] rfl rfl (by simp[jm]) (by unfold maxLen;omega) (by omega) (bS _) ?_))
   intro v' w3 gZ hg ru;have fF:=In.yo gd.out gZ hg ru;have gm:Hid (In G w0 (da v' (cur++[s])::da (.slice gA ls.length gc) (cX ls)::cE (.slice (ae ⟨g,0,ai⟩) rs.length rc) rs::l) w3):=by unfold da;rw[bM,dX];exact fF
   clear gZ hg ru fF q2 gd HOW
   go_wp2_with fail
   go_roundw
   case rel=>exact⟨j+1,by omega,by go_num,by rw[Fo.out];exact gm.out⟩
   case measure=>simp[intOf];omega
  ·have hjm:j=rs.length:=by omega
   subst hjm;rw[cD]at HI;obtain⟨lA,lc,rfl,Xo⟩:=HI.out.kX;obtain⟨gA',gc',e0,hgr⟩:=HI.out.swap.kX;rw[sE]at e0;injection e0 with e1 e2 e3
   subst e1;subst e3;have Kv:(rs.map λr=>r.h.1).length<=maxLen:=by rw[List.length_map];unfold maxLen;omega
   have I8:(cX ls).length<=maxLen:=by rw[sE];unfold maxLen;omega
   have acX:=af (XW gA lA gc lc (cX ls) (rs.map λr=>r.h.1) wr hgr Xo I8 Kv);rw[HLD.out,sE,List.length_map]at acX;clear hgr Xo Kv I8 e2
   go_wp2_with fail
   refine acX.out.mono ?_;rintro e w2 ⟨gV,p1,rfl,Fi⟩;have gd:Hid (In G w0 (b9 p1 ls::da (.slice gA ls.length gc) (cX ls)::cE (.slice rA rs.length rc) rs::l) w2):=HI.out.drop.new (A:=b9 p1 ls) gV Fi;clear gV Fi acX HI
   go_wp2_with fail
   refine(R5 gd.out).mono ?_;rintro e w3 ⟨p,rfl,fF⟩;obtain⟨sp,tb,pb,T,hT,fX⟩:=fF.kQ;have c1:w3.cell? ⟨p,0,ai⟩=ae (.pointer (ae ⟨sp,0,ai⟩)):=fX.blk.cell 0;have c2:w3.frozen? ⟨p,0,ai⟩=aw:=fX.blk.frozen _;have CH:Hid (∀W,W=w3.setCell ⟨p,0,ai⟩ (.pointer (ae ⟨p1,0,ai⟩))->In G w0 (kx p p1 ls (λ_=>ai)::da (.slice gA ls.length gc) (cX ls)::cE (.slice rA rs.length rc) rs::l) W):=λW e=>by rw[e];have h1:=In.set fX 0 (.pointer (ae ⟨p1,0,ai⟩));have h2:In G w0 (bg p 108 #[.pointer (ae ⟨p1,0,ai⟩),.map (ae tb),.map (ae pb)]::b9 p1 ls::PtrMap tb (T.ks.map λK=>(K,T.pt K))::bz pb T.ps::((b9 sp []::da (.slice gA ls.length gc) (cX ls)::cE (.slice rA rs.length rc) rs::l)++T.ks.map (di T))) (w3.setCell ⟨p,0,ai⟩ (.pointer (ae ⟨p1,0,ai⟩))):=h1.reorder 5 [0,4,2,3,1] rfl (by simp);exact(In.qN hT h2).swap.drop
   clear fF fX hT gd
   go_upto_region 14 with(fail)
   refine cc (In G w0 (kx p p1 ls (QE f rs 0)::da (.slice gA ls.length gc) (cX ls)::cE (.slice rA rs.length rc) rs::l)) (by rw[WC];exact CH.out _ rfl) ?_;clear c1 c2 CH;intro w4 fX;have iY:=af fX;clear fX
   go_wp2_with fail
   go_loopw [47] (λi w'=> ∃j:Nat,j<=rs.length/\i=.int .i64 j/\In G w0 (kx p p1 ls (QE f rs j)::da (.slice gA ls.length gc) (cX ls)::cE (.slice rA rs.length rc) rs::l) w') (λi _=>rs.length-(intOf i).toNat)
   case atStart=>exact⟨0,bS _,rfl,iY.out⟩
   case round=>
    clear iY;obtain⟨j,hj,rfl,hI⟩:=hrel;have HI:=af hI;clear hI;by_cases bE:j<rs.length
    ·have OG:(j:Int)<rs.length:=by omega
     obtain⟨h8,NN,nc,mZ⟩:=ae2.out _ (aU bE);have Ta:=HSL.out _ (aU bE);obtain⟨g,rfl,q1⟩:=qK HI.out.third bE h8;have NO:=HFN.out j bE;have Fo:=af (WB bE mZ);clear mZ;generalize rs[j]=r at *;generalize QE f rs j=fj at *;obtain⟨⟨s,gen⟩,b⟩:=r;simp only at h8 NN nc Ta NO Fo;have hb9:b.list.length=9:=by simp[aQ.list,h8]
     have I':(cz.list ⟨(s,gen),b⟩).length=11:=by simp[cz.list,aQ.list,h8]
     have agX:=af NO;have Se:Hid (bK b=0/\b.v.length=8/\0<=s/\s<60):=⟨NN,h8,Ta.1,Ta.2⟩;have Iy:=af nc;have VD:=af NN;clear NO nc NN Ta
     go_upto_region 17 with(fail)
     refine cc (In G w0 (bg wr.heap.size 50 (ints (cz.list ⟨(s,gen),b⟩))::kx p p1 ls fj::da (.slice gA ls.length gc) (cX ls)::cE (.slice (ae ⟨g,0,ai⟩) rs.length rc) rs::l)) (HI.out.struct 50 [0,0,0,0,0,0,0,0,0,0,0] _ I') ?_;generalize wr.heap.size=rb;intro w5 eH;have Zv:Hid (∀W,In G w0 (bg rb 50 (ints (cz.list ⟨(s,gen),b⟩))::kx p p1 ls fj::da (.slice gA ls.length gc) (cX ls)::cE (.slice (ae ⟨g,0,ai⟩) rs.length rc) rs::l) W->row? W rb 0 2=ae (ints [s,gen])/\row? W rb 2 9=ae (ints b.list)):=λW hW=>by refine⟨by rw[hW.blk.eb 0 2 (by omega)];rfl,?_⟩;rw[hW.blk.eb 2 9 (by omega)];show ae (ints (b.list.take 9))=_;rw[cI (by omega)]
     obtain⟨q2,q3⟩:=Zv.out _ eH;obtain⟨tb',pb',T',hT',iC⟩:=eH.swap.mN;obtain⟨F1,hS⟩:=iC.swap.head;have HL:=af (qz p1 ls F1 s gen w5 hS);rw[Iy.out]at HL;have lV:=af eH;clear eH iC hS hT' q1 HI
     go_wp2_with fail
     refine HL.out.mono ?_;rintro e w6 ⟨rfl,Kt⟩;have kh:=af (lV.out.below Kt);obtain⟨q4,q5⟩:=Zv.out _ kh.out;clear Kt HL lV q2 q3
     go_wp2_with fail
     refine(qa b h8 w6).mono ?_;rintro e w7 ⟨rfl,hb7⟩;rw[VD.out];have kE:=af (kh.out.below hb7);obtain⟨q6,q7⟩:=Zv.out _ kE.out;clear hb7 kh q4 q5
     go_wp2_with fail
     refine(aa0 kE.out.swap s gen b agX.out Se.out).mono ?_;rintro e w8 ⟨rfl,l9⟩;rw[<-Fo.out]at l9;have pO:=af l9.swap.drop;clear l9 kE q6 q7
     go_wp2_with fail
     go_roundw
     case rel=>exact⟨j+1,by omega,by go_num,pO.out⟩
     case measure=>simp[intOf];omega
    ·have hjm:j=rs.length:=by omega
     subst hjm;rw[HFA.out]at HI;have pZ:=af HI.out.Kb;clear HI
     go_wp2_with fail
     go_ret2
     exact⟨p,rfl,pZ.out⟩
end
end
section
open Go.RowKit
section
variable {G:Nat->Prop} {w0 w:ah} {l:List bT} {p:Nat} {z:ZS}
theorem Iv (h:In G w0 (cj p z::l) w)(hk:j9 z):Calls Tryz.prog 16 #[ptr p] w λe w'=> ∃gv rv bv,e=.returned (.agg #[gv,rv,bv])/\In G w0 (da gv (cX z.ls)::cE rv z.rows::kG bv z.B::cj p z::l) w':=by
 have H0:=af h;have HK:=af hk;clear h hk
 go_enter Tryz.func16,Tryz.ntmps16
 go_upto_region 1 with(fail)
 refine cc (In G w0 (cj p z::bg w.heap.size 36 #[.slice ai 0 0,.slice ai 0 0,.slice ai 0 0]::l)) (H0.out.alloc 36 #[.slice ai 0 0,.slice ai 0 0,.slice ai 0 0]).swap ?_;generalize w.heap.size=sb;intro w1 jU;obtain⟨wp,fp,m,hm,hf,ha,gX⟩:=jU.jO;obtain⟨sp,fF⟩:=gX.swap.Zh;have c0:w1.cell? ⟨p,0,ai⟩=ae (ptr wp):=gX.blk.cell 0;have HM:=af hm;have Xq:m.length<=1099511627776:=by have:=Gg m;have:=HK.out.len;rw[hm]at *;omega
 have HML:=af Xq;have gm:=af fF;clear jU gX fF hm hf ha H0 Xq;have HR:=af (M9 gm.out HK.out.w BB);rw[Iu,if_pos rfl,D5 zX,Ev]at HR
 go_wp2_with fail
 refine HR.out.mono ?_;rintro e w2 ⟨rv,rfl,hI⟩;obtain⟨A3,c3,rfl,_,_,_⟩:=cH hI.rowAt;have HF:Hid (∀{W:ah} {L:List bT},In G w0 (kx wp sp z.ls z.f::yc p wp fp::jE fp m::bg sb 36 #[.slice ai 0 0,.slice ai 0 0,.slice ai 0 0]::L) W->W.cell? ⟨p,0,ai⟩=ae (ptr wp)/\W.cell? ⟨p,1,ai⟩=ae (ptr fp)/\W.cell? ⟨wp,0,ai⟩=ae (ptr sp)/\fits W sb 0 3=aA):=λ{W L} h=>⟨h.swap.blk.cell 0,h.swap.blk.cell 1,h.abU,h.fourth.blk.fits 0 3 (by simp)⟩
 have iY:Hid (In G w0 (kx wp sp z.ls z.f::yc p wp fp::jE fp m::bg sb 36 #[.slice ai 0 0,.slice ai 0 0,.slice ai 0 0]::cE (.slice A3 z.rows.length c3) z.rows::l) w2):=hI.to5;obtain⟨s1,s2,s3,s4⟩:=HF.out iY.out;have Kp:Hid (p≠sb/\wp≠sb):=by refine⟨iY.out.drop.swap.drop.apart,?_⟩;obtain⟨tb,pb,T,hT,eH⟩:=iY.out.mN;simp only[dJ]at eH;exact eH.swap.drop.swap.drop.swap.drop.swap.drop.swap.drop.apart
 clear hI HR gm c0;have S6:=af HK.out.w.so.1
 go_upto_region 2 with(fail)
 go_region_held3 (λW=>W.cell? ⟨p,0,ai⟩=ae (ptr wp)/\W.cell? ⟨p,1,ai⟩=ae (ptr fp)/\W.cell? ⟨wp,0,ai⟩=ae (ptr sp)/\fits W sb 0 3=aA)
  (first|(refine⟨?_,?_,?_,?_⟩<;>assumption)|(refine⟨zO Kp.out.1 ?_,zO Kp.out.1 ?_,zO Kp.out.2 ?_,?_⟩;all_goals first|assumption|exact Lq (by assumption) rfl))
  (first
    |(go_at_call 43;refine(Lx HIB.out S6.out).mono ?_;rintro e w5 ⟨A5,c5,rfl,eH⟩;have eH:=eH.to5;obtain⟨t1,t2,t3,t4⟩:=HF.out eH;have HIZ:=af eH;clear eH)
    |(go_at_call 44;refine(Gs HIG.out HML.out).mono ?_;rintro e w5 ⟨bv,rfl,eH⟩;rw[HM.out]at eH;obtain⟨A6,c6,rfl,_,_,_⟩:=cH eH.rowAt;have eH:=eH.to5.to3;obtain⟨t1,t2,t3,t4⟩:=HF.out eH;have HIZ:=af (eH.reorder 6 [0,1,2,3,5,4] rfl (by simp));clear eH)
    |(go_at_call 43;refine(Lx iY.out.drew S6.out).mono ?_;rintro e w4 ⟨A4,c4,rfl,eH⟩;have eH:=eH.to5;obtain⟨u1,u2,u3,u4⟩:=HF.out eH;have HIG:=af eH.third;clear eH)
    |(go_at_call 44;refine(Gs iY.out.drew.third HML.out).mono ?_;rintro e w4 ⟨bv,rfl,eH⟩;rw[HM.out]at eH;obtain⟨A6,c6,rfl,_,_,_⟩:=cH eH.rowAt;have eH:=eH.to5.to3;obtain⟨u1,u2,u3,u4⟩:=HF.out eH;have HIB:=af eH;clear eH))
 all_goals
  have HE:=λgv bv=>In.Pz (In.fourth HIZ.out) [gv,.slice A3 z.rows.length c3,bv] rfl
  go_wp2_with fail
  refine tF rfl sb 36 _ _ rfl (HE _ _).blk Tryz.underlying36 rfl qQ rfl ?_;exact⟨_,_,_,rfl,(In.mC HM.out (HE _ _).drop.Kb.swap).reorder 4 [1,3,2,0] rfl (by simp)⟩
end
end
section
open Rel
open Go.Conc Go.ConcN
open Go.ConcR (Payload WgAt)
open Go.RowKit
def N9 (b:aQ):List aq:=b.list.map (aZ .i64)
def Iz (S:jy)(o:Nat->Prop)(w:ah)(v:aq)(bs:List aQ):Prop:= ∃V:Nat->Prop,(∀r,V r->o r)/\(∀r,V r-> ∃ob,w.heap[r]? =ae ob/\ku S (only V) ob ob)/\bx S (only V) v v/\w.ownsRow 0 48 9 v bs.length (bs.flatMap N9)
theorem Em {S:jy}{V:Nat->Prop}{g:Nat}{n c:Nat}(h:bx S (only V) (.slice (ae ⟨g,0,ai⟩) n c) (.slice (ae ⟨g,0,ai⟩) n c)):V g:=by
 generalize hx:dZ (ae ⟨g,0,ai⟩) n c=x at h;cases h with
 |slice l c ha=>cases hx;exact ha.block.2
 |_=>cases hx
theorem wz {S:jy}{V:Nat->Prop}{w w':ah}{v:aq}{n:Nat}{xs:List aq}(hv:bx S (only V) v v)(h:w.ownsRow 0 48 9 v n xs)(hk: ∀r,V r->w'.heap[r]? =w.heap[r]?):w'.ownsRow 0 48 9 v n xs:=by
 refine⟨h.1,?_⟩;rcases h.2 with h0|⟨g,cap,cur,rfl,hb,hg,r⟩
 ·exact .inl h0
 ·exact .inr ⟨g,cap,cur,rfl,hb,(hk g (Em hv)).trans hg,r⟩
theorem Iz.keep {S:jy}{o:Nat->Prop}{w w':ah}{v:aq}{bs:List aQ}(h:Iz S o w v bs)(hk: ∀r,o r->w'.heap[r]? =w.heap[r]?):Iz S o w' v bs:=by obtain⟨V,h1,h2,h3,h4⟩:=h;exact⟨V,h1,λr hr=>let⟨ob,e1,e2⟩:=h2 r hr;⟨ob,(hk r (h1 r hr)).trans e1,e2⟩,h3,wz h3 h4 λr hr=>hk r (h1 r hr)⟩
def jpB (S:jy)(Pb:Nat)(xs:List cz)(ss:List Sys)(o:Nat->Prop)(i:Nat)(w:ah):Prop:= ∃v,w.cell? ⟨Pb,i,ai⟩=ae v/\Iz S o w v (xs.map λr=>cq r.b (ss.getD i du))
structure MB (φ:Ph) (S:jy) (wp:ah) (b1 C:Nat) (fv:aq) (p:Nat) (γ:Gh) (w:ah) (V:Nat->Prop):Prop where
 o1:γ.own b1
 oC:γ.own C
 c1:w.cell? ⟨b1,0,ai⟩=ae (.pointer (ae ⟨φ.Wg,0,ai⟩))
 cC:w.heap[C]? =ae (.cells #[fv] 1)
 rd: ∀b,φ.od b->w.heap[b]? =wp.heap[b]?
 pay: ∀b,φ.CB b->fz w b=fz wp b
 live:WgLive φ.ty φ.Wg w
 cb: ∀r,γ.own r-> ¬φ.CB r/\ ¬φ.od r/\r≠φ.Wg/\r<w.heap.size
 size:wp.heap.size<=w.heap.size
 hp:γ.held p
 vo: ∀r,V r->γ.own r/\r≠b1/\r≠C
 vh:ck φ.P S (only V) w w
 FN: ∀i,γ.held i->i≠p->φ.JP (λb=>γ.own b/\b≠C/\ ¬V b) i w
 nom: ∀a,S.mem a=ai
section
variable {φ:Ph} {S:jy} {wp w aD w':ah} {b1 C p:Nat} {fv:aq} {γ γ':Gh} {V V':Nat->Prop}
theorem MB.rely (O:φ.Ok)(h:MB φ S wp b1 C fv p γ w V)(r:φ.eP γ w aD):MB φ S wp b1 C fv p γ aD V:=⟨h.o1,h.oC,(c9 (r.own b1 h.o1)).trans h.c1,(r.own C h.oC).trans h.cC,λb hb=>(r.rd b hb).trans (h.rd b hb),λb hb=>(r.pay b hb).trans (h.pay b hb),r.live h.live,λx hx=>let⟨a,b,d,c⟩:=h.cb x hx;⟨a,b,d,bX c r.size⟩,bP h.size r.size,h.hp,h.vo,h.vh.sX r.size (λx hx=>r.own x (h.vo x hx).1) (λa x hx=>by rw[h.nom a]at hx;cases hx),λi hi hn=>O.jp _ w aD i (λb hb=>r.own b hb.1) (λa ha=>r.cell i a hi ha) (h.FN i hi hn),h.nom⟩
theorem MB.val (O:φ.Ok)(bE: ∀r,φ.od r\/φ.CB r\/r=φ.Wg->r<wp.heap.size)(h:MB φ S wp b1 C fv p γ w V)(h1: ∀r,V r->V' r)(h2: ∀r,V' r->V r\/(w.heap.size<=r/\r<w'.heap.size))(h3:ck φ.P S (only V') w' w')(h4: ∀r,r<w.heap.size-> ¬V r->w'.heap[r]? =w.heap[r]?)(h5:w.heap.size<=w'.heap.size):MB φ S wp b1 C fv p (γ.grow w w') w' V':=by
 have hs:=h.size;have nV: ∀r,φ.od r\/φ.CB r\/r=φ.Wg-> ¬V r:=λr hr hv=>by
  obtain⟨a,b,c,_⟩:=h.cb r (h.vo r hv).1;rcases hr with hr|hr|hr
  ·exact b hr
  ·exact a hr
  ·exact c hr
 have keep: ∀r,φ.od r\/φ.CB r\/r=φ.Wg->w'.heap[r]? =w.heap[r]?:=λr hr=>h4 r (by have:=bE r hr;omega) (nV r hr)
 have k1:w'.heap[b1]? =w.heap[b1]?:=h4 b1 (h.cb b1 h.o1).2.2.2 λhv=>(h.vo b1 hv).2.1 rfl
 have kC:w'.heap[C]? =w.heap[C]?:=h4 C (h.cb C h.oC).2.2.2 λhv=>(h.vo C hv).2.2 rfl
 refine⟨.inl h.o1,.inl h.oC,(c9 k1).trans h.c1,kC.trans h.cC,λb hb=>(keep b (.inl hb)).trans (h.rd b hb),λb hb=> ?_,?_,λx hx=> ?_,bP h.size h5,h.hp,λr hr=> ?_,h3,λi hi hn=> ?_,h.nom⟩
 ·unfold fz;rw[keep b (.inr (.inl hb))];exact h.pay b hb
 ·obtain⟨st,sm,hl⟩:=h.live;exact⟨st,sm,(keep φ.Wg (.inr (.inr rfl))).trans hl⟩
 ·rcases hx with hx|⟨x1,x2⟩
  ·obtain⟨a,b,c,d⟩:=h.cb x hx;exact⟨a,b,c,by omega⟩
  ·exact⟨λhc=>by have:=bE x (.inr (.inl hc));omega,λhc=>by have:=bE x (.inl hc);omega,λhc=>by have:=bE x (.inr (.inr hc));omega,x2⟩
 ·rcases h2 r hr with hv|⟨x1,x2⟩
  ·exact⟨.inl (h.vo r hv).1,(h.vo r hv).2⟩
  ·exact⟨.inr ⟨x1,x2⟩,λe=>by have:=(h.cb b1 h.o1).2.2.2;omega,λe=>by have:=(h.cb C h.oC).2.2.2;omega⟩
 ·refine O.zV (λb=>γ.own b/\b≠C/\ ¬V b) _ w' i (λb hb=>⟨.inl hb.1,hb.2.1,λhv=> ?_⟩) (O.jp _ w w' i (λb hb=>h4 b (h.cb b hb.1).2.2.2 hb.2.2) (λa ha=> ?_) (h.FN i hi hn))
  ·rcases h2 b hv with hv|⟨x1,_⟩
   ·exact hb.2.2 hv
   ·have:=(h.cb b hb.1).2.2.2;omega
  ·exact c9 (keep _ (.inr (.inl (O.mK i a ha))))
theorem MB.lone (O:φ.Ok)(bE: ∀r,φ.od r\/φ.CB r\/r=φ.Wg->r<wp.heap.size)(h:MB φ S wp b1 C fv p γ w V)(h1: ∀r,γ.own r->γ'.own r)(h2:γ'.held=γ.held)(h3: ∀r,γ'.own r->γ.own r\/(w.heap.size<=r/\r<w'.heap.size))(hk:Kept φ γ γ.own w w'):MB φ S wp b1 C fv p γ' w' V:=by
 have hs:=h.size;refine⟨h1 _ h.o1,h1 _ h.oC,(c9 (hk.st b1 h.o1)).trans h.c1,(hk.st C h.oC).trans h.cC,λb hb=>(hk.rd b hb).trans (h.rd b hb),λb hb=>(hk.pay b hb).trans (h.pay b hb),hk.live h.live,λx hx=> ?_,bP h.size hk.size,h2▸h.hp,λr hr=>⟨h1 _ (h.vo r hr).1,(h.vo r hr).2⟩,h.vh.sX hk.size (λx hx=>hk.st x (h.vo x hx).1) (λa x hx=>by rw[h.nom a]at hx;cases hx),λi hi hn=> ?_,h.nom⟩
 ·rcases h3 x hx with hx|⟨x1,x2⟩
  ·obtain⟨a,b,c,d⟩:=h.cb x hx;exact⟨a,b,c,by have:=hk.size;omega⟩
  ·exact⟨λhc=>by have:=bE x (.inr (.inl hc));omega,λhc=>by have:=bE x (.inl hc);omega,λhc=>by have:=bE x (.inr (.inr hc));omega,x2⟩
 ·rw[h2]at hi;exact O.zV (λb=>γ.own b/\b≠C/\ ¬V b) _ w' i (λb hb=>⟨h1 _ hb.1,hb.2⟩) (O.jp _ w w' i (λb hb=>hk.st b hb.1) (λa ha=>hk.cell i a hi ha) (h.FN i hi hn))
theorem MB.start (hS: ∀a,S.mem a=ai)(hg:φ.P.globals.size<=wp.heap.size)(h:WK φ wp b1 C fv γ w)(hn: ¬γ.held p)(O:φ.Ok):MB φ S wp b1 C fv p (γ.hold p) w (λ_=>False):=⟨h.o1,h.oC,h.c1,h.cC,h.rd,h.pay,h.live,h.cb,h.size,.inr rfl,λ_ hr=>hr.elim,⟨Cn,λ_ _ hr=>hr.2.elim,bP hg h.size,bP hg h.size,λa x hx=>by rw[hS a]at hx;cases hx⟩,λi hi dQ=>O.zV _ _ w i (λb hb=>⟨hb.1,hb.2,λx=>x.elim⟩) (h.FN i (hi.resolve_right dQ)),hS⟩
theorem MB.finish (O:φ.Ok)(h:MB φ S wp b1 C fv p γ w V)(hj:φ.JP (λb=>γ.own b/\b≠C) p w):WK φ wp b1 C fv γ w:=
 ⟨h.o1,h.oC,h.c1,h.cC,h.rd,h.pay,h.live,h.cb,h.size,λi hi=>by
   by_cases e:i=p
   ·subst e;exact hj
   ·exact O.zV _ _ w i (λb hb=>⟨hb.1,hb.2.1⟩) (h.FN i hi e)⟩
end
end
section
open Go.RowKit
section
variable {G:Nat->Prop} {w0 w:ah} {l:List bT} {gv rv bv gv' rv' bv':aq} {gs:List Int} {rs:List cz} {bs:List (Hd×Hd)}
theorem abL (h:In G w0 (da gv gs::cE rv rs::kG bv bs::da gv' gs::cE rv' rs::kG bv' bs::l) w):Calls Tryz.prog 15 #[.agg #[gv,rv,bv],.agg #[gv',rv',bv']] w λe w'=>e=.returned (.bool aA)/\Below w.heap.size w w':=by
 obtain⟨A1,c1,rfl,qw,BO,_⟩:=cH h.rowAt;obtain⟨A2,c2,rfl,hl3,hl4,_⟩:=cH (h.nth 3 (by simp)).rowAt;have hn:gs.length<=maxLen:=by omega
 have H0:=af h;clear h qw BO hl3 hl4
 go_enter Tryz.func15,Tryz.ntmps15
 go_upto_region 1 with(fail)
 refine cc (λw'=>dq w' (w.heap.size+1) 36 #[.slice A2 gs.length c2,rv',bv']/\dq w' w.heap.size 36 #[.slice A1 gs.length c1,rv,bv]/\Below w.heap.size w w') ⟨by have:=dq.new (w.alloc (.cells #[.slice A1 gs.length c1,rv,bv] 36)) 36 #[.slice A2 gs.length c2,rv',bv'];rwa[cQ]at this,(dq.new w _ _).alloc _,((Below.refl _ _).alloc (az _) _).alloc (by simp) _⟩ ?_
 generalize w.heap.size+1=s2;generalize Fi:w.heap.size=s1;rintro w1 ⟨SS,vX,hb⟩;have a0:w1.cell? ⟨s1,0,ai⟩=ae (.slice A1 gs.length c1):=vX.cell 0;have a1:w1.cell? ⟨s1,1,ai⟩=ae rv:=vX.cell 1;have b0:w1.cell? ⟨s2,0,ai⟩=ae (.slice A2 gs.length c2):=SS.cell 0;have b1:w1.cell? ⟨s2,1,ai⟩=ae rv':=SS.cell 1;rw[<-Fi]at hb;have hI:=H0.out.below hb;have HEG:=af (adj hn hI (hI.nth 3 (by simp)));have HER:=af (Wu (hI.nth 1 (by simp)) (hI.nth 4 (by simp)) rfl);have tu:=af vX;have wR:=af SS;have HB:=af hb;clear hI vX SS hb
 go_wp2_with fail
 refine HEG.out.mono ?_;rintro e w2 ⟨rfl,rfl⟩
 go_wp2_with fail
 refine HER.out.mono ?_;rintro e w2 ⟨rfl,gV⟩;have zC:Below w.heap.size w w2:=HB.out.trans (gV.mono HB.out.size);have a2:w2.cell? ⟨s1,2,ai⟩=ae bv:=(tu.out.after gV).cell 2;have b2:w2.cell? ⟨s2,2,ai⟩=ae bv':=(wR.out.after gV).cell 2;have hI:=H0.out.below zC;have hIB:In G w0 (kG bv bs::kG bv' bs::da (.slice A1 gs.length c1) gs::cE rv rs::da (.slice A2 gs.length c2) gs::cE rv' rs::l) w2:=hI.reorder 6 [2,5,0,1,3,4] rfl (by simp);have HEB:=af (adi hIB);have Zs:=af zC;clear hI hIB zC gV HEG HER a0 a1 b0 b1
 go_wp2_with fail
 refine HEB.out.mono ?_;rintro e w3 ⟨rfl,SX⟩;have HB4:Hid (Below w.heap.size w w3):=Zs.out.trans (SX.mono Zs.out.size);clear SX;simp only[decide_true]
 go_wp2_with fail
 go_ret;exact⟨rfl,HB4.out⟩
end
end
end Go.Proofs.YtknejlcijdngoaaGreat
