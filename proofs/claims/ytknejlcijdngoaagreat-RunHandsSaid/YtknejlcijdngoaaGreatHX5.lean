/- Several texts in one, made short by a program of mine. -/
import Derived.Test.YtknejlcijdngoaaGreatHX4
import Derived.Deep.AppendLies
import Derived.RangeFuncNested
import Derived.RangeFuncBound
import Derived.RangeFuncCalls
import Derived.RangeFuncLeaves
import Derived.RegionIn
import Derived.BigRegionIn
import Derived.OwnWalkIn
import Derived.TacticsInMore
import Derived.LoopNIn
import Derived.LoopIn
import Derived.Sort.MapsRangeIn
import Derived.Maps.OwnIn
import Derived.Deep.RegionHeld3
set_option linter.defProp false
set_option linter.unusedVariables false
set_option linter.unusedSimpArgs false
set_option linter.unusedSectionVars false
set_option maxHeartbeats 16000000
set_option maxRecDepth 100000
open Array renaming getD_eq_getD_getElem?->aV,getElem?_eq_getElem->aH,getElem?_eq_some_iff->aE,getElem?_modify->br,getElem?_setIfInBounds_ne->aJ,getElem?_setIfInBounds_self_of_lt->aK,getElem?_toList->j3,replicate_succ->cG,replicate_zero->cH
open Bool renaming and_eq_true->aG,false_eq_true->cK,not_eq_true'->fY,false->au,true->ar
open Go renaming Frame->aY,FuncId->bG,Goroutine->aw,Operand->ca,Program->aO,TypeId->az,Value->ak,World->ai
open Go.Act renaming eval->bJ
open Go.Instr renaming buildSlice->fK
open Go.Lib renaming hid->af
open Go.Proofs.Tryz renaming prog->aj
open Go.Region renaming ready->dB,wanted->bj
open Go.Value renaming int->aS,oneCell'->fX,ownBlock->fC,slice->di
open Go.World renaming cell?->b3,cell?_of_block->bp,setCell->dC,size_alloc->cR
open List renaming append_assoc->cM,append_nil->eM,append_toArray->c9,cons_append->cW,flatMap_append->eJ,flatMap_cons->cN,getD->bm,getD_eq_getElem?_getD->bq,getElem?_append_left->oB,getElem?_append_right->kp,getElem?_cons_succ->eO,getElem?_eq_getElem->aq,getElem?_eq_some_iff->bz,getElem?_map->dx,getElem_mem->aR,length_append->bK,length_cons->ay,length_map->bu,length_nil->aC,length_take->dH,map_append->dZ,map_cons->fq,mem_append->gK,mem_cons->b6,mem_filter->cc,mem_iff_getElem->dn,mem_map->aI,mem_range->gm,mem_singleton->eC,nil_append->cg,not_mem_nil->gX,pairwise_iff_getElem->iV,push_toArray->dy,range->a6,size_toArray->aD,take_append_drop->mN,take_length->cE,take_of_length_le->cB,take_succ_eq_append_getElem->aU
open List.Perm renaming append_left->dD,refl->oI,swap->cy
open List.range renaming loop->a7
open Nat renaming add_comm->du,add_sub_cancel_left->ij,le_refl->av,le_trans->be,lt_of_lt_of_le->aW,mul_le_mul_right->ik,one_mul->jF,zero_add->aZ,zero_le->bF
open Option renaming bind_some->kH,getD_some->bI,map_eq_some_iff->aF,map_some->eT,none->ah,some->ae
open Option.some renaming inj->aX,injEq->dm
open Or renaming inl->bt,inr->bW
namespace Go.Proofs.YtknejlcijdngoaaGreat
open Go.Proofs.Tryz
section
open Go.RowKit
noncomputable def lh(m:ja)(a:Hd)(k:Nat):List Hd:=((kids m a).take k).flatMap λc=>c::under m c
def Gz(m:ja)(a:Hd)(k:Nat)(h:k<(kids m a).length):lh m a (k+1)=(lh m a k++[(kids m a)[k]])++under m (kids m a)[k]:=by unfold lh;rw[aU h,eJ];simp
def yD(m:ja)(hm:jA m)(a:Hd):lh m a (kids m a).length=under m a:=by unfold lh;rw[cE,tJ hm.nodup hm.sG]
def Bu(m:ja)(hm:jA m)(a:Hd)(k:Nat):(lh m a k).length<=m.length:=by
 refine be ?_ (xR hm.nodup hm.sG a);rw[<-yD m hm];unfold lh;rw[cE]
 conv=>rhs;rw[<-mN k (kids m a),eJ]
 rw[bK];omega
def mB{G:Nat->Prop}{r w:ai}{l:List bU}{v u:ak}{cs b:List Hd}{p:Array Oper}{o:Oper}{a:Act}{K:Act->ai->Prop}{Q:Exit->Act->ai->Prop}{X:Prop}(i:o.guard=ah)(s x:ca)(B:o.op=.call {callee:=.builtin .append,args:=#[s,x],argTypes:=#[122,122]})(g:In G r (jz v cs::jz u b::l) w)(C:a.eval s=v)(D:a.eval x=u)(F:cs.length+b.length<=1099511627776)(h:∀e f,In G r (jz e (cs++b)::jz u b::l) f->K (a.put o.dst e) f):if bj o (yielded p a.tmps)=ar then Oper.wp aj o a w K Q else X:=by obtain⟨E,j,k,m,n⟩:=info_parts lC;refine yY i s x 122 B 43 E _ 2 16 underlying122 j k m n rfl (by decide) C D g.rowAt g.swap.rowAt ?_ (by unfold maxLen;omega) (by omega) ?_;intro c A;obtain⟨d,_,q⟩:=List.mem_flatMap.1 A;simp[hC]at q;rcases q with rfl|rfl<;>rfl;intro e f t y z;have:=g.Vb t y z;rw[<-eJ,<-bK]at this;exact h e f this
def KT{p:Nat}{m:ja}(hm:jA m)(hl:m.length<=1099511627776)(rk:Hd->Nat)(R:Nat)(hr:xa m rk R):∀(n:Nat)(a:Hd){G:Nat->Prop}{t w:ai}{l:List bU},R-rk a<n->In G t (jy p m::l) w->Calls aj 129 #[.pointer (ae ⟨p,0,ah⟩),mv a] w λe w'=>∃v,e=.returned v/\In G t (jz v (under m a)::jy p m::l) w':=by
 intro n
 induction n with
 |zero=>intro a G t w l h;omega|succ n ih=>
  intro a G t w l hn h;have K:=af h;have IH:=af @ih;have HN:=af hn;have HR:=af hr;have HM:=af hm;clear h ih hn hr hm;obtain⟨b,d⟩:=a;rw[jI];obtain⟨i0,D2,D4,D5,Cy⟩:=info_parts lC;go_enter func129,ntmps129;go_upto_region 2 with(fail)
  refine b9 (In G t (jy p m::a8 w.heap.size 43 (ints [b,d])::l)) ((K.out.alloc 43 (ints [b,d])).swap) ?_;generalize w.heap.size=F;intro w1 H;have k1:row? w1 F 0 2=ae (ints [b,d]):=H.swap.blk.bw rfl;have M:=af H;clear H K;go_wp2_with fail;refine(Fj M.out (b,d) hl).mono ?_;rintro e w2 ⟨kv,rfl,C⟩;obtain⟨kA,I,rfl,_,_,_⟩:=pT C.rowAt;have hkl:=SK m (b,d);have N:Hid (In G t (dR 43 2 (.slice ah 0 0) 0 []::jz (.slice kA (kids m (b,d)).length I) (kids m (b,d))::jy p m::a8 F 43 (ints [b,d])::l) w2):=In.sc C _ _;have HU:=af (yD m HM.out (b,d));clear C M k1;go_wp2_with fail;go_loopw [12,5] (λi out w'=>∃k:Nat,k<=(kids m (b,d)).length/\i=.int .i64 k/\In G t (jz out (lh m (b,d) k)::jz (.slice kA (kids m (b,d)).length I) (kids m (b,d))::jy p m::a8 F 43 (ints [b,d])::l) w') (λi _ _=>(kids m (b,d)).length-(intOf i).toNat)
  case atStart=>exact⟨0,bF _,rfl,N.out⟩
  clear N;obtain⟨k,hk,rfl,H⟩:=hrel;have HI:=af H;clear H;by_cases E:k<(kids m (b,d)).length
  ·have K1:(k:Int)<(kids m (b,d)).length:=by omega
   obtain⟨A',c',e0,_,hkc,z⟩:=pT HI.out.swap.rowAt;injection e0 with e1 e2 e3;subst e1;subst e3;obtain⟨g,rfl,q1⟩:=z k E;have HS:=af (Gz m (b,d) k E);have Q:Hid (eI m (kids m (b,d))[k]=ae (b,d)):=(kP HM.out.nodup).1 (aR E);have hle:=Bu m HM.out (b,d) k;have x:=Bu m HM.out (b,d) (k+1);rw[HS.out]at x;have aaY:((kids m (b,d)).length:Int)<=I:=by omega
   clear z e2;generalize (kids m (b,d))[k]=c at *;obtain⟨f,j⟩:=c;have V:=xR HM.out.nodup HM.out.sG (f,j);simp only[bK,ay,aC]at x;go_upto_region 5 with(fail)
   refine b9 (In G t (a8 wr.heap.size 43 (ints [f,j])::jz u5 (lh m (b,d) k)::jz (.slice (ae ⟨g,0,ah⟩) (kids m (b,d)).length I) (kids m (b,d))::jy p m::a8 F 43 (ints [b,d])::l)) (HI.out.struct 43 [0,0] [f,j] rfl) ?_;generalize wr.heap.size=s;intro w3 D;have q2:row? w3 s 0 2=ae #[.int .i64 f,.int .i64 j]:=D.blk.bw (xs:=[f,j]) rfl;have y:Hid (In G t (jy p m::jz u5 (lh m (b,d) k)::a8 s 43 (ints [f,j])::jz (.slice (ae ⟨g,0,ah⟩) (kids m (b,d)).length I) (kids m (b,d))::a8 F 43 (ints [b,d])::l) w3):=(D.fourth).perm (((cy _ _ _)).cons _);clear D q1;have S:R-rk (f,j)<n:=by have h1:=HR.out _ _ Q.out;have h2:=HN.out;omega
   have T:(lh m (b,d) k).length+1<=1099511627776:=by omega
   have U:(lh m (b,d) k++[(f,j)]).length+(under m (f,j)).length<=1099511627776:=by rw[bK];simp;omega
   have u:Hid (∀(L:List bU)(W:ai),In G t L W->In G t (jz (.slice (ae ⟨W.heap.size,0,ah⟩) 1 1) [(f,j)]::L) (W.alloc (.cells #[.int .i64 f,.int .i64 j] 43))):=λL W h=>h.Zq 43 [.int .i64 f,.int .i64 j]
   have sA:row? (w3.alloc (.cells #[.int .i64 f,.int .i64 j] 43)) s 0 2=ae #[.int .i64 f,.int .i64 j]:=(y.out.third.blk.after ((Below.refl _ _).alloc (av _) _)).bw (xs:=[f,j]) rfl;have HSA:=af sA;have A:=af T;have P:=af U;have B:=af S;clear sA T U S hle x V;generalize Ss:lh m (b,d) k=cs at *
   go_region_held3 (λW=>row? W s 0 2=ae #[.int .i64 f,.int .i64 j]) (first|assumption|exact HSA.out|go_keep)
    (first
      |(go_at_call 129;refine(IH.out (f,j) B.out y.out.drew).mono ?_;rintro e X ⟨uv,rfl,o⟩;have s4:row? X s 0 2=ae #[.int .i64 f,.int .i64 j]:=o.fourth.blk.bw (xs:=[f,j]) rfl;have J:=af o;clear o)
      |(go_at_call 129;refine(IH.out (f,j) B.out (u.out _ _ y.out.drew).swap).mono ?_;rintro e X ⟨uv,rfl,o⟩;have s4:row? X s 0 2=ae #[.int .i64 f,.int .i64 j]:=o.fifth.blk.bw (xs:=[f,j]) rfl;have J:=af o;clear o)
      |(go_at_call 129;refine(IH.out (f,j) B.out Z.out.third).mono ?_;rintro e X ⟨uv,rfl,o⟩;have s4:row? X s 0 2=ae #[.int .i64 f,.int .i64 j]:=o.fifth.blk.bw (xs:=[f,j]) rfl;have J:=af o;clear o)
      |(refine mB (by rfl) (.tmp 16) (.tmp 18) (by rfl) (u.out _ _ y.out.drew).third (by rfl) (by rfl) A.out ?_;intro v1 Y q;have s5:row? Y s 0 2=ae #[.int .i64 f,.int .i64 j]:=q.fourth.blk.bw (xs:=[f,j]) rfl;have Z:=af q;clear q)
      |(refine mB (by rfl) (.tmp 16) (.tmp 18) (by rfl) (u.out _ _ J.out).fourth (by rfl) (by rfl) A.out ?_;intro v1 Y q;have s5:row? Y s 0 2=ae #[.int .i64 f,.int .i64 j]:=q.fifth.blk.bw (xs:=[f,j]) rfl;have Z:=af q;clear q)
      |(refine mB (by rfl) (.tmp 16) (.tmp 18) (by rfl) J.out.fourth.fourth.swap (by rfl) (by rfl) A.out ?_;intro v1 Y q;have s5:row? Y s 0 2=ae #[.int .i64 f,.int .i64 j]:=q.fifth.blk.bw (xs:=[f,j]) rfl;have Z:=af q;clear q)
      |(refine mB (by rfl) (.tmp 19) (.tmp 22) (by rfl) Z.out.swap.drop (by rfl) (by rfl) P.out ?_;intro v2 w6 r;have s6:row? w6 s 0 2=ae #[.int .i64 f,.int .i64 j]:=r.fourth.blk.bw (xs:=[f,j]) rfl;have H6:=af r;clear r)
      |(refine mB (by rfl) (.tmp 19) (.tmp 22) (by rfl) J.out.third.fourth.drop (by rfl) (by rfl) P.out ?_;intro v2 w6 r;have s6:row? w6 s 0 2=ae #[.int .i64 f,.int .i64 j]:=r.fourth.blk.bw (xs:=[f,j]) rfl;have H6:=af r;clear r))
   all_goals
    have O:Hid (In G t (jz v2 (cs++[(f,j)]++under m (f,j))::jz (.slice (ae ⟨g,0,ah⟩) (kids m (b,d)).length I) (kids m (b,d))::jy p m::a8 F 43 (ints [b,d])::l) w6):=H6.out.swap.drop.third.drop.third.swap;rw[<-HS.out]at O;clear H6;go_wp2_with fail;go_roundw
    case rel=>exact⟨k+1,by omega,by go_num,O.out⟩
    case measure=>simp[intOf];omega
  have:k=(kids m (b,d)).length:=by omega
  subst this;rw[HU.out]at HI;go_wp2_with fail;go_ret;exact⟨_,rfl,(HI.out.swap.drop.third.drop)⟩
end
section
open Rel
open Go.Conc Go.ConcN
open Go.Conc.Lib (addFn waitFn)
open Go.ConcR (Payload WgAt stA)
open Go.ConcR.Gen (body_wait body_add nm_add nm_wait)
open Go.RowKit
section
variable{Z:Ph} {Fin:(Nat->Prop)->aw->ai->Prop} {Y:Nat->Prop} {w:ai} {r:Nat}
def qw{a:(Nat->Prop)->aw->ai->Prop}{g d:aw}(c:∀(b:aw->ai->Prop)(m:Nat),Z.GP Y b m d w->Z.GP Y b (m+1) g w)(h:Z.Spawns (Z.Fin a) r Y d w):Z.Spawns (Z.Fin a) r Y g w:=by
 cases r with|zero=>obtain⟨m,h⟩:=h;exact⟨m+1,c _ _ h⟩|succ r=>obtain⟨m,h⟩:=h;exact⟨m+1,c _ _ h⟩
end
noncomputable def Aa:Code:=match oY with|.seq _ (.seq (.seq _ (.block _ (.loop x))) _)=>x|_=>.skip
noncomputable def BA:Code:=match oY with|.seq _ (.seq _ x)=>x|_=>.skip
structure EF(φ:Ph) (wp:ai) (w:ai):Prop where
 T8:∀b,φ.Std b->w.heap[b]? =wp.heap[b]?
 pay:∀b,φ.CB b->dp w b=dp wp b
 size:wp.heap.size<=w.heap.size
 os:w.os=wp.os
 output:w.output=wp.output
structure EH0(φ:Ph) (wp:ai) (bn bf:Nat) (jf:bG) (caps:Array ak):Prop where
 O:φ.Ok
 hP:φ.P=aj
 hty:φ.ty=189
 hz:φ.z=.int .i64 0
 Y0:∀p,p<φ.nj->∃n,φ.jv p=.int .i64 n
 rn:φ.jB bn
 rf:φ.jB bf
 cn:wp.cell? ⟨bn,0,ah⟩=ae (.chan (ae φ.Ch))
 cf:wp.cell? ⟨bf,0,ah⟩=ae (.func (.func jf) #[] caps)
 hJ:vz φ wp jf caps
 rs:∀b,φ.jB b->φ.Std b
 lt:∀b,φ.Std b\/φ.CB b\/b=φ.Wg->b<wp.heap.size
section
variable{Z:Ph} {Y w X:ai} {W V:Nat} {U:bG} {T:Array ak} {S:Nat->Prop} {R:List aY} {r:Nat}
def EF.mr(h:EF Z Y w)(m:Z.MR S w X):EF Z Y X:=⟨λb a=>(m.T8 b a).trans (h.T8 b a),λb a=>(m.pay b a).trans (h.pay b a),be h.size m.size,m.os.trans h.os,m.output.trans h.output⟩
def EF.al(H:EH0 Z Y W V U T)(h:EF Z Y w)(m:Ph.Al w X):EF Z Y X:=by have c:=h.size;refine⟨λb a=>(m.rest b (by have:=H.lt b (.inl a);omega)).trans (h.T8 b a),λb a=> ?_,be h.size m.size,m.os.trans h.os,m.output.trans h.output⟩;unfold dp;rw[m.rest b (by have:=H.lt b (.inr (.inl a));omega)];exact h.pay b a
def EF.wg(H:EH0 Z Y W V U T)(h:EF Z Y w)(a:Addr)(d:a.block=Z.Wg)(v:ak):EF Z Y (w.setCell a v):=by
 have blk:∀b,b≠Z.Wg->(w.setCell a v).heap[b]? =w.heap[b]?:=λb c=>Below.heap_setCell w a v b (by rw[d];exact c)
 refine⟨λb c=>(blk b λe=>H.O.abx (e▸c)).trans (h.T8 b c),λb c=> ?_,by simpa using h.size,(show(w.setCell a v).os=w.os by unfold dC;split<;>rfl).trans h.os,(show(w.setCell a v).output=w.output by unfold dC;split<;>rfl).trans h.output⟩;unfold dp;rw[blk b λe=>H.O.Oz (e▸c)];exact h.pay b c
end
noncomputable def xT(n nj:Int)(fv:ak)(N b:Nat)(t7 t10 t13 t14 t15 t16 t17 t18:ak):aY:=(base 47).at ⟨uB n nj fv N t7 (.pointer (ae ⟨b,0,ah⟩)) t10 (.int .i64 nj) (.int .i64 nj) t13 t14 t15 t16 t17 t18 (.int .i64 n) (.int .i64 n) (.bool au) (.func (.func 105) #[] #[.pointer (ae ⟨N+2,0,ah⟩),.pointer (ae ⟨N,0,ah⟩)]) (.tuple #[]) (.int .i64 n) undef,[]⟩ [.inRegion (match BA with|.region _ a _=>a|_=>#[]) [0]]
section
variable{φ:Ph} {wp:ai} {N n nj:Nat} {fv:ak} {Z:bG} {Y:Array ak} {cs:List aY} {t7 t10 t13 t14 t15 t16 t17 t18:ak}
def Mc(H:EH0 φ wp (N+2) N Z Y)(hn0:1<=n)(hn:n<=8):∀(r:Nat),r<=n->∀(μ:Nat->Prop)(w:ai)(R I J K:ak),(r<n->I=.func (.func 105) #[] #[.pointer (ae ⟨N+2,0,ah⟩),.pointer (ae ⟨N,0,ah⟩)]/\J=.tuple #[]/\K=.int .i64 ((n-r:Nat):Int))->EF φ wp w->WgLive φ.ty φ.Wg w->φ.Spawns (φ.Fin λ_=>Dr φ kz (EF φ wp) (xT n nj fv N φ.Wg t7 t10 t13 t14 t15 t16 t17 t18) cs) r μ (G ((base 47).at ⟨uB n nj fv N t7 (.pointer (ae ⟨φ.Wg,0,ah⟩)) t10 (.int .i64 nj) (.int .i64 nj) t13 t14 t15 t16 t17 t18 (.int .i64 n) (.int .i64 ((n-r:Nat):Int)) R I J K undef,[]⟩ [.code Aa,.inLoop Aa,.inBlock 2,.code BA]) cs) w:=by
 have L:Go.Conc.Lib.WgLib φ.P kz:=H.hP▸Ul;have P:=H.hP;intro r
 induction r with
 |zero=>
  intro _ μ w R I J K ht M Q;obtain⟨rfl,rfl,rfl⟩:=ht (by omega);refine⟨100,?_⟩;simp only[Aa,xT,BA,oY,j8,uB,f47,bI,Nat.sub_zero];refine cw ?_;refine bx ?_;refine z8 (.bool au) rfl rfl (by simp[base]) (λ_ _=>by go_simp) (λ_ _=>by simp[go_sem, *]) ?_;walk_nrm;refine da ?_;refine cw ?_;refine iM rfl ?_;refine M7 rfl ?_;refine bx ?_;refine ot (c:=body_wait kz) rfl rfl (by simp[base]) rfl L.f_wait (nm_wait kz) rfl ?_;refine Goes.mono (n:=3) ?_ (by omega);have hW:=λb₀ a₀ ops₀ i₀ rest₀ k₀=>Mq (φ:=φ) (μ:=μ) (L:=kz) (F:=EF φ wp) (AnchW:=λ_=>Dr φ kz (EF φ wp) (Frame.at b₀ a₀ (.inRegion ops₀ (i₀::rest₀)::k₀)) cs) (b₀:=b₀) (a₀:=a₀) (ops₀:=ops₀) (i₀:=i₀) (rest₀:=rest₀) (k₀:=k₀) (cs:=cs) L (λ_ _ m h=>h.mr m) (λg w h=>h) w ⟨M,Q⟩
  have s:(waitFn kz).ntmps=84:=rfl;simp only[s,bJ,List.map_toArray,fq,List.map_nil,aV,List.getElem?_toArray,eO,List.getElem?_cons_zero,bI,aD,ay,aC,Nat.reduceAdd,Nat.reduceSub];exact hW _ _ _ _ _ _
 |succ r ih=>
  intro hr μ w R I J K ht M Q;clear ht;have l6:(((n-(r+1):Nat):Int))<n:=by omega
  have yh:=M.size;have adQ:=H.lt φ.Wg (.inr (.inr rfl));refine⟨100,?_⟩;simp only[Aa,oY,j8,uB,f47,bI];refine cw ?_;refine bx ?_;refine z8 (.bool ar) rfl rfl (by simp[base]) (λ_ _=>by go_simp) (λ_ _=>by simp[go_sem, *]) ?_;walk_nrm;refine da ?_;refine cw ?_;refine j9 rfl ?_;refine j2 ?_;refine cw ?_;refine wh ?_;refine bx ?_;refine z8 (.func (.func 105) #[] #[.pointer (ae ⟨N+2,0,ah⟩),.pointer (ae ⟨N,0,ah⟩)]) rfl rfl (by simp[base]) (λ_ _=>by go_simp) (λ_ _=>by simp[go_sem, *]) ?_;walk_nrm;have V:φ.P.funcs[104]? =ae f104:=by rw[P];exact func104
  refine ot rfl rfl (by simp[base]) rfl V rfl rfl ?_;have s:f104.ntmps=7:=rfl;simp only[s,bJ,List.map_toArray,fq,List.map_nil,aV,List.getElem?_toArray,eO,List.getElem?_cons_zero,bI,aD,ay,aC,Nat.reduceAdd,Nat.reduceSub];simp only[cG,cH,dy,c9,cg,cW];refine cw ?_;refine bx ?_;refine Goes.stop (λd f=> ?_);have j:=M.mr f;have q:=f.live Q;have t:=j.size;clear f M Q yh;have p:Ph.Al d (d.alloc (.cells #[.pointer (ae ⟨φ.Wg,0,ah⟩)] 232)):=⟨λb T=>Below.heap_alloc d _ b T,by simp,rfl,rfl,rfl⟩;refine⟨rfl,_,d.alloc (.cells #[.pointer (ae ⟨φ.Wg,0,ah⟩)] 232),_,stepG_value (v:=.pointer (ae ⟨d.heap.size,0,ah⟩)) rfl rfl (by simp[base]) (by rw[P];go_simp),p,λe D=>by have hm:=mem_listed D;rw[P]at hm;simp[go_sem, *]at hm,100,?_⟩;have B:=j.al H p;have E:WgLive φ.ty φ.Wg (d.alloc (.cells #[.pointer (ae ⟨φ.Wg,0,ah⟩)] 232)):=let⟨st,sm,h⟩:=q;⟨st,sm,(p.rest φ.Wg (by omega)).trans h⟩;have A:(d.alloc (.cells #[.pointer (ae ⟨φ.Wg,0,ah⟩)] 232)).heap[d.heap.size]? =ae (.cells #[.pointer (ae ⟨φ.Wg,0,ah⟩)] 232):=heap_alloc_new d _;have m1:sy μ d (d.alloc (.cells #[.pointer (ae ⟨φ.Wg,0,ah⟩)] 232)) d.heap.size:=.inr ⟨av _,by simp⟩;have z1:wp.heap.size<=d.heap.size:=t;generalize sy μ d (d.alloc (.cells #[.pointer (ae ⟨φ.Wg,0,ah⟩)] 232))=S at *;generalize d.alloc (.cells #[.pointer (ae ⟨φ.Wg,0,ah⟩)] 232)=w2 at *;generalize UE:d.heap.size=l at *;clear p j q t UE;clear d;walk_nrm;refine Goes.stop (λd f=> ?_);have j:=B.mr f;have q:=f.live E;have t:=j.size;have O:=(f.own l m1).trans A;clear f B E A;have p:Ph.Al d (d.alloc (.cells #[.func (.func 105) #[] #[.pointer (ae ⟨N+2,0,ah⟩),.pointer (ae ⟨N,0,ah⟩)]] 1)):=⟨λb T=>Below.heap_alloc d _ b T,by simp,rfl,rfl,rfl⟩;refine⟨rfl,_,d.alloc (.cells #[.func (.func 105) #[] #[.pointer (ae ⟨N+2,0,ah⟩),.pointer (ae ⟨N,0,ah⟩)]] 1),_,stepG_value (v:=.pointer (ae ⟨d.heap.size,0,ah⟩)) rfl rfl (by simp[base]) (by rw[P];go_simp),p,λe D=>by have hm:=mem_listed D;rw[P]at hm;simp[go_sem, *]at hm,200,?_⟩;have B:=j.al H p;have E:WgLive φ.ty φ.Wg (d.alloc (.cells #[.func (.func 105) #[] #[.pointer (ae ⟨N+2,0,ah⟩),.pointer (ae ⟨N,0,ah⟩)]] 1)):=let⟨st,sm,h⟩:=q;⟨st,sm,(p.rest φ.Wg (by omega)).trans h⟩;have lt1:l<d.heap.size:=(aE.1 O).1;have A:(d.alloc (.cells #[.func (.func 105) #[] #[.pointer (ae ⟨N+2,0,ah⟩),.pointer (ae ⟨N,0,ah⟩)]] 1)).heap[l]? =ae (.cells #[.pointer (ae ⟨φ.Wg,0,ah⟩)] 232):=(p.rest l lt1).trans O;have c2:(d.alloc (.cells #[.func (.func 105) #[] #[.pointer (ae ⟨N+2,0,ah⟩),.pointer (ae ⟨N,0,ah⟩)]] 1)).heap[d.heap.size]? =ae (.cells #[.func (.func 105) #[] #[.pointer (ae ⟨N+2,0,ah⟩),.pointer (ae ⟨N,0,ah⟩)]] 1):=heap_alloc_new d _;have u:sy S d (d.alloc (.cells #[.func (.func 105) #[] #[.pointer (ae ⟨N+2,0,ah⟩),.pointer (ae ⟨N,0,ah⟩)]] 1)) l:=.inl m1;have m2:sy S d (d.alloc (.cells #[.func (.func 105) #[] #[.pointer (ae ⟨N+2,0,ah⟩),.pointer (ae ⟨N,0,ah⟩)]] 1)) d.heap.size:=.inr ⟨av _,by simp⟩;clear m1;generalize sy S d (d.alloc (.cells #[.func (.func 105) #[] #[.pointer (ae ⟨N+2,0,ah⟩),.pointer (ae ⟨N,0,ah⟩)]] 1))=μ2 at *;generalize d.alloc (.cells #[.func (.func 105) #[] #[.pointer (ae ⟨N+2,0,ah⟩),.pointer (ae ⟨N,0,ah⟩)]] 1)=w2 at *;have z2:wp.heap.size<=d.heap.size:=t;generalize hC:d.heap.size=C at *;clear p j q t hC O;clear d;walk_nrm;refine da ?_;refine cw ?_;refine bx ?_;refine Vz (.pointer (ae ⟨φ.Wg,0,ah⟩)) rfl rfl (by simp[base]) (λd f=>by
   have U:d.cell? ⟨l,0,ah⟩=ae (.pointer (ae ⟨φ.Wg,0,ah⟩)):=by unfold b3;simp only[f.own l u,A];rfl
   rw[P];go_simp) (λd f e D=>by
   have U:d.cell? ⟨l,0,ah⟩=ae (.pointer (ae ⟨φ.Wg,0,ah⟩)):=by unfold b3;simp only[f.own l u,A];rfl
   rw[P]at D;simp[go_sem, *]at D;subst D;exact .inr (.inr ⟨rfl,l,rfl,.inl u⟩)) ?_
  walk_nrm;refine ot (c:=body_add kz) rfl rfl (by simp[base]) rfl L.f_add (nm_add kz) rfl ?_;have s:(addFn kz).ntmps=117:=rfl;simp only[s,bJ,List.map_toArray,fq,List.map_nil,aV,List.getElem?_toArray,eO,List.getElem?_cons_zero,bI,aD,ay,aC,Nat.reduceAdd,Nat.reduceSub];have hA:=λb₀ a₀ ops₀ i₀ rest₀ k₀ cs' hT=>U' (φ:=φ) (μ:=μ2) (L:=kz) (F:=λw=>EF φ wp w/\w.heap[l]? =ae (.cells #[.pointer (ae ⟨φ.Wg,0,ah⟩)] 232)/\w.heap[C]? =ae (.cells #[.func (.func 105) #[] #[.pointer (ae ⟨N+2,0,ah⟩),.pointer (ae ⟨N,0,ah⟩)]] 1))
   (Next:=φ.Spawns (φ.Fin λ_=>Dr φ kz (EF φ wp) (xT n nj fv N φ.Wg t7 t10 t13 t14 t15 t16 t17 t18) cs) r) (b₀:=b₀) (a₀:=a₀) (ops₀:=ops₀) (i₀:=i₀) (rest₀:=rest₀) (k₀:=k₀) (cs:=cs') (mT:=20) L H.hty
   (λw w' m h=>⟨h.1.mr m,(m.own l u).trans h.2.1,(m.own C m2).trans h.2.2⟩)
   (λw v h=>⟨h.1.wg H (stA φ.Wg) rfl v,(Below.heap_setCell w (stA φ.Wg) v l (by simp[stA];omega)).trans h.2.1,(Below.heap_setCell w (stA φ.Wg) v C (by simp[stA];omega)).trans h.2.2⟩) hT w2 ⟨⟨B,A,c2⟩,E⟩
  refine Goes.mono (n:=100) ?_ (by omega);refine hA _ _ _ _ _ _ _ ?_;clear hA;intro w ⟨M,A,c2⟩ Q;walk_nrm;refine da ?_;refine bx ?_;refine z8 (.func (.func 154) #[] #[.pointer (ae ⟨l,0,ah⟩),.pointer (ae ⟨C,0,ah⟩)]) rfl rfl (by simp[base]) (λ_ _=>by go_simp) (λ_ _=>by simp[go_sem, *]) ?_;walk_nrm;refine Goes.stop (λd f=> ?_);have j:=M.mr f;have q:=f.live Q;have d1:=(f.own l u).trans A;have d2:=(f.own C m2).trans c2;have e1:=(aE.1 d1).1;have e2:=(aE.1 d2).1;clear f M Q A c2;have hK:WK φ wp l C (.func (.func 105) #[] #[.pointer (ae ⟨N+2,0,ah⟩),.pointer (ae ⟨N,0,ah⟩)]) ⟨λb=>b=l\/b=C,λ_=>False,False⟩ d:=by
   refine⟨.inl rfl,.inr rfl,by unfold b3;simp only[d1];rfl,d2,λb T=>j.T8 b (H.rs b T),j.pay,q,λx hx=> ?_,j.size,λi hi=>hi.elim⟩;have hx':wp.heap.size<=x/\x<d.heap.size:=by rcases hx with rfl|rfl<;>omega
   exact⟨λU=>by have:=H.lt x (.inr (.inl U));omega,λU=>by have:=H.lt x (.inl (H.rs x U));omega,λe=>by have:=H.lt x (.inr (.inr e));omega,hx'.2⟩
  have X:∀(y:Array Oper)(i:Nat)(o:Oper)(a:Act)(z:List Nat)(k:List Item)(cs:List aY),y[i]? =ae o->bj o (yielded y a.tmps)=ar->o.op=.go {callee:=.value (.tmp 6),args:=#[],argTypes:=#[]}->a.eval (.tmp 6)=.func (.func 154) #[] #[.pointer (ae ⟨l,0,ah⟩),.pointer (ae ⟨C,0,ah⟩)]->
   stepG φ.P ar (G ((base 104).at a (.inRegion y (i::z)::k)) cs) d=.spawn (G ((base 104).at (a.put o.dst undef) (.inRegion y z::k)) cs) (born φ.P (og 154 #[.pointer (ae ⟨l,0,ah⟩),.pointer (ae ⟨C,0,ah⟩)] #[])) d #[]:=by
   intro y i o a z k cs ho hw W hu;have hr:(execOp a.eval o).run φ.P d=.ok (.spawn (og 154 #[.pointer (ae ⟨l,0,ah⟩),.pointer (ae ⟨C,0,ah⟩)] #[])) d:=by unfold execOp;simp[W,resolve,Deferred.ofValue,hu,og]
   have D:(execOp a.eval o).events φ.P d #[]=#[]:=by unfold execOp;simp[W,resolve,Deferred.ofValue,hu]
   rw[stepG_spawn ho hw (by simp[base]) hr rfl];congr 1;unfold listed;rw[D,seen_none]
  refine⟨rfl,_,_,λb=>b=l\/b=C,X _ _ _ _ _ _ _ rfl rfl rfl rfl,(by rintro b (rfl|rfl)<;>assumption),Us H.O H.hP H.hty H.hz H.Y0 H.rn H.rf H.cn H.cf H.hJ hK,?_⟩;clear X hK;generalize (λb=>μ2 b/\¬(λb=>b=l\/b=C) b)=μ3;walk_nrm;refine qw (λ_ _=>da) ?_;refine qw (λ_ _=>Vy) ?_;refine qw (λ_ _ h=>qV rfl rfl V rfl h) ?_;walk_nrm;refine qw (λ_ _=>da) ?_;refine qw (λ_ _=>z7) ?_;refine qw (λ_ _=>xm rfl) ?_;simp only[aD,ay,aC,Nat.reduceAdd,aZ,a6,a7];have hwr:IntKind.i64.wrap (((n-(r+1):Nat):Int)+1)=((n-r:Nat):Int):=by rw[IntKind.wrap_i64];omega
  refine qw (λ_ _ h=>z8 (.int .i64 ((n-r:Nat):Int)) rfl rfl (by simp[base]) (λ_ _=>by go_simp) (λ_ _=>by simp[go_sem, *]) h) ?_;walk_nrm;refine qw (λ_ _ h=>z8 (.int .i64 ((n-r:Nat):Int)) rfl rfl (by simp[base]) (λ_ _=>by go_simp) (λ_ _=>by simp[go_sem, *]) h) ?_;walk_nrm;refine qw (λ_ _=>da) ?_;refine qw (λ_ _=>DX) ?_;exact ih (by omega) μ3 d _ _ _ _ (λ_=>⟨rfl,rfl,rfl⟩) j q
end
end
section
open Rel
open Go.Conc Go.ConcN
open Go.ConcR (Payload WgAt stA)
open Go.RowKit
noncomputable def vQ(n nj:Int)(fv:ak)(N b:Nat)(t7 t10 t13 t14 t15 t16 t17 t18:ak):aY:=(base 47).at ⟨uB n nj fv N t7 (.pointer (ae ⟨b,0,ah⟩)) t10 (.int .i64 nj) (.int .i64 nj) t13 t14 t15 t16 t17 t18 (.int .i64 n) (.int .i64 n) (.bool au) (.func (.func 105) #[] #[.pointer (ae ⟨N+2,0,ah⟩),.pointer (ae ⟨N,0,ah⟩)]) (.tuple #[]) (.int .i64 n) (.tuple #[]),[]⟩ [.inRegion (match BA with|.region _ a _=>a|_=>#[]) []]
structure GY where
 CB:Nat->Prop
 jl:Nat->Addr->Prop
 J0:Nat->ai->Prop
 JP:(Nat->Prop)->Nat->ai->Prop
structure GY.Ok(J:GY):Prop where
 la:∀i a,J.jl i a->J.CB a.block
 yi:∀i i' a,J.jl i a->J.jl i' a->i=i'
 jp:∀(o:Nat->Prop)(w fx:ai)(i:Nat),(∀b,o b->fx.heap[b]? =w.heap[b]?)->(∀a,J.jl i a->fx.cell? a=w.cell? a)->J.JP o i w->J.JP o i fx
 j0:∀(w fx:ai)(i:Nat),(∀a,J.jl i a->fx.cell? a=w.cell? a)->J.J0 i w->J.J0 i fx
 qm:∀(o o':Nat->Prop)(w:ai)(i:Nat),(∀b,o b->o' b)->J.JP o i w->J.JP o' i w
noncomputable def FQ(J:GY)(N n nj lo:Nat)(a:Nat->Prop):Ph where
 P:=aj
 ty:=189
 Wg:=N+3
 Ch:=N+1
 n:=n
 nj:=nj
 lo:=lo
 jv:=λp=>.int .i64 p
 z:=.int .i64 0
 jB:=λb=>(b<N+4/\b≠N+1/\b≠N+3/\¬J.CB b)/\¬a b
 Std:=λb=>b<N+4/\b≠N+1/\b≠N+3/\¬J.CB b
 CB:=J.CB
 jl:=J.jl
 J0:=J.J0
 JP:=J.JP
def Zx{J:GY}(K:J.Ok){N n nj lo:Nat}{Shun:Nat->Prop}(a:∀b,J.CB b->b<N)(c:0<lo)(e:n<=8):(FQ J N n nj lo Shun).Ok:=by refine⟨by simp[FQ],λh=>h.1.2.2.1 rfl,λh=>h.1.2.1 rfl,λh=> ?_,λh=> ?_,λb h d=>d.1.2.2.2 h,λh=>h.2.2.1 rfl,λh=>h.2.1 rfl,λb h d=>d.2.2.2 h,K.la,K.yi,K.jp,K.j0,K.qm,c,by show n<_;omega⟩;have:=a _ h;simp[FQ]at this;omega;have:=a _ h;simp[FQ]at this;omega
structure zv(CB:Nat->Prop) (w w':ai):Prop where
 old:∀b,b<w.heap.size->¬CB b->w'.heap[b]? =w.heap[b]?
 shape:∀b,CB b->dp w' b=dp w b
 size:w.heap.size<=w'.heap.size
 os:w'.os=w.os
 output:w'.output=w.output
 tape:w'.tape=w.tape
section
variable{c:fg} {Z:ak->ai->Prop} {b:aY} {a:Act} {k:List Item} {cs:List aY} {Y:Array Oper} {i:Nat} {X:List Nat} {o:Oper} {w:ai} {W U T:ca} {S:Array az} {n nj:Nat} {R:bG} {Q:Array ak} {J:GY} {NR:Nat->Prop}
def MZ{N1:Nat}{Xt:List aY}(hN:N1<=w.heap.size)(ho:Y[i]? =ae o)(hn0:1<=n)(hn:n<=8)(VI:nj<=1000)(K:J.Ok)(I:∀b,J.CB b->b<w.heap.size)(adj:∀A,Rel.Sub A->(∀l,A l l->∃o,w.heap[l]? =ae o/\ic c.sig A o o)->(∀fr∈Xt,xV c A fr)->(∀r,NR r->A r r\/(r<w.heap.size/\(N1<=r\/r<c.old)))/\∀r,J.CB r->A r r\/N1<=r)(hNR:∀r,NR r->¬J.CB r)(hj0:∀p,p<nj->J.J0 p w)(YZ:∀(φ:Ph)(wp:ai),φ.Ok->φ.P=aj->φ.nj=nj->(∀p,φ.jv p=.int .i64 p)->φ.CB=J.CB->φ.jl=J.jl->φ.J0=J.J0->φ.JP=J.JP->(∀r,NR r->φ.jB r)->(∀r,r<w.heap.size->wp.heap[r]? =w.heap[r]?)->Tryz.prog.globals.size<=wp.heap.size->(∀r,φ.jB r\/φ.CB r\/r=φ.Wg->r<wp.heap.size)->vz φ wp R Q)(Nb:∀w',zv J.CB w w'->(∀p,p<nj->∃o:Nat->Prop,(∀r,o r->w.heap.size+4<=r/\r<w'.heap.size)/\J.JP o p w')->∃V:Nat->Prop,(∀r,V r->N1<=r/\r<w'.heap.size/\r≠w.heap.size+3)/\(∀r,J.CB r\/V r->∃o,w'.heap[r]? =ae o/\ic c.sig (only V) o o)/\(∀A,Rel.Sub A->(∀fr∈Xt,xV c A fr)->∀fr∈b.at (a.put o.dst (.tuple #[])) (.inRegion Y X::k)::cs,xV c (grow A V) fr)/\CY aj c Z (G (b.at (a.put o.dst (.tuple #[])) (.inRegion Y X::k)) cs) w'):p9 aj c Z N1 Xt (G (Frame.enter aj 47 #[.int .i64 n,.int .i64 nj,.func (.func R) #[] Q] .normal) (b.at a (.inRegion Y (i::X)::k)::cs)) w:=by
 rw[enter_at _ func47 rfl];have Y7:f47.ntmps=26:=rfl;simp only[Y7,aD,ay,aC,Nat.reduceAdd,Nat.reduceSub];refine RX (w0:=w) (n:=n) (nj:=nj) (fv:=.func (.func R) #[] Q) hN (by omega) rfl ?_;intro z t7 t10 t13 t14 t15 t16 t17 t18 h6;simp only[oY,j8,uB,f47,bI];have s6:=h6.size;refine j1 ?_;refine gA ?_;simp only[aD,ay,aC,Nat.reduceAdd,aZ,a6,a7];have Zb:∀u d,(cL z u d).heap.size=w.heap.size+3:=λ_ _=>s6
 refine EY.step (w':=z.alloc (.cells #[.int .u64 0,.int .u32 0] 189)) (Ux:=z.heap.size) rfl (λu d=>⟨_,stepG_value (v:=.pointer (ae ⟨w.heap.size+3,0,ah⟩)) rfl rfl (by simp[base]) (by have S:=Zb u d;go_simp;rfl),λe he=>by have hm:=mem_listed he;simp[go_sem, *]at hm⟩) (λr f=>Below.heap_alloc z _ r (by omega)) (by simp) (av _) (by simp) ?_;walk_nrm;have M:z.heap.size<=(z.alloc (.cells #[.int .u64 0,.int .u32 0] 189)).heap.size:=by simp
 have s7:(z.alloc (.cells #[.int .u64 0,.int .u32 0] 189)).heap.size=w.heap.size+4:=by simp[s6]
 have b7:∀r,r<w.heap.size+3->(z.alloc (.cells #[.int .u64 0,.int .u32 0] 189)).heap[r]? =z.heap[r]?:=λr f=>Below.heap_alloc z _ r (by omega)
 have c7:(z.alloc (.cells #[.int .u64 0,.int .u32 0] 189)).heap[w.heap.size+3]? =ae (.cells #[.int .u64 0,.int .u32 0] 189):=by rw[<-s6];exact heap_alloc_new z _
 have o7:(z.alloc (.cells #[.int .u64 0,.int .u32 0] 189)).os=z.os/\(z.alloc (.cells #[.int .u64 0,.int .u32 0] 189)).output=z.output:=⟨rfl,rfl⟩;generalize z.alloc (.cells #[.int .u64 0,.int .u32 0] 189)=j at *;rw[s6]at M;rw[s6];refine EY.ctl rfl (λ_=>stepG_region_end) M ?_;refine EY.ctl rfl (λ_=>stepG_seq) M ?_;refine EY.ctl rfl (λ_=>stepG_seq) M ?_;refine EY.ctl rfl (λ_=>stepG_region) M ?_;simp only[aD,ay,aC,Nat.reduceAdd,aZ,a6,a7];refine EY.step (w':=j) (Ux:=w.heap.size+3) rfl (λu d=>⟨_,stepG_value (v:=.int .i64 n) rfl rfl (by simp[base]) (by go_simp),λe he=>by have hm:=mem_listed he;simp[go_sem, *]at hm⟩) (λ_ _=>rfl) (av _) (av _) M ?_;walk_nrm;refine EY.step (w':=j) (Ux:=w.heap.size+3) rfl (λu d=>⟨_,stepG_value (v:=.int .i64 0) rfl rfl (by simp[base]) (by go_simp),λe he=>by have hm:=mem_listed he;simp[go_sem, *]at hm⟩) (λ_ _=>rfl) (av _) (av _) M ?_;walk_nrm;refine EY.ctl rfl (λ_=>stepG_region_end) M ?_;refine EY.ctl rfl (λ_=>stepG_block) M ?_;refine EY.ctl rfl (λ_=>stepG_loop) M ?_;intro u d A E sl q t Shun B hBB h;have U:(cL j u d).heap.size=w.heap.size+4:=s7;have hold:∀r,r<w.heap.size->j.heap[r]? =w.heap[r]?:=λr f=>(b7 r (by omega)).trans (h6.old r f)
 obtain⟨hv1,XP⟩:=adj A h.sub (λl hl=>by obtain⟨o,o',e1,e2,e3⟩:=h.hp.obj l l hl;have:=h.SE l hl;rw[e1]at e2;cases e2;exact⟨o,(hold l (by omega)).symm.trans e1,e3⟩) h.fr
 have nSh:∀r,A r r\/N1<=r\/r<c.old->¬Shun r:=λr f S=>by rcases f with f|f|f;exact h.Mn r f S;have:=h.sh r S;omega;have:=h.old r S;omega
 have O:=Zx (N:=w.heap.size) (n:=n) (nj:=nj) (lo:=E.size) (Shun:=Shun) K I h.co.pos hn;have W:∀r,Shun r->r<w.heap.size:=λr f=>aW (h.sh r f) hN
 have D:∀r,(FQ J w.heap.size n nj E.size Shun).Std r\/(FQ J w.heap.size n nj E.size Shun).CB r\/r=(FQ J w.heap.size n nj E.size Shun).Wg->r<(cL j u d).heap.size:=by intro r f;rw[U];rcases f with f|f|f;exact f.1;have:=I r f;omega;subst f;simp[FQ]
 have rd3:∀r,r=w.heap.size\/r=w.heap.size+2->(FQ J w.heap.size n nj E.size Shun).jB r:=λr f=>⟨⟨by omega,by omega,by omega,λhc=>by have:=I r hc;omega⟩,λS=>by have:=W r S;omega⟩
 have H:EH0 (FQ J w.heap.size n nj E.size Shun) (cL j u d) (w.heap.size+2) w.heap.size R Q:=by
  refine⟨O,rfl,rfl,rfl,λp _=>⟨_,rfl⟩,rd3 _ (.inr rfl),rd3 _ (.inl rfl),?_,?_,?_,λr f=>f.1,D⟩;show j.cell? _=_;unfold b3;simp only[b7 (w.heap.size+2) (by omega),h6.cn];rfl;show j.cell? _=_;unfold b3;simp only[b7 w.heap.size (by omega),h6.cf];rfl;refine YZ _ _ O rfl rfl (λ_=>rfl) rfl rfl rfl rfl (λr f=> ?_) (λr f=>hold r f) h.hp.kr λr f=> ?_
  have ad8:r<w.heap.size:=(hv1 r f).elim (λx=>aW (h.SE r x) hN) λx=>x.1
  exact⟨⟨by omega,by omega,by omega,hNR r f⟩,nSh r ((hv1 r f).imp id λx=>x.2)⟩;rcases f with f|f;exact D r (.inl f.1);exact D r (.inr f)
 have L:Go.Conc.Lib.WgLib (FQ J w.heap.size n nj E.size Shun).P kz:=Ul;have hE0:EF (FQ J w.heap.size n nj E.size Shun) (cL j u d) (cL j u d):=⟨λ_ _=>rfl,λ_ _=>rfl,av _,rfl,rfl⟩;have hW0:WgAt 189 (w.heap.size+3) (cL j u d) 0 0:=c7;have hsp:=Mc (φ:=FQ J w.heap.size n nj E.size Shun) (wp:=cL j u d) (N:=w.heap.size) (n:=n) (nj:=nj) (fv:=.func (.func R) #[] Q) (cs:=b.at a (.inRegion Y (i::X)::k)::cs) (t7:=t7) (t10:=t10) (t13:=t13) (t14:=t14) (t15:=t15) (t16:=t16) (t17:=t17) (t18:=t18) H hn0 hn n (av _) (λ_=>False) (cL j u d) undef undef undef undef (λhh=>absurd hh (Nat.lt_irrefl _)) hE0 ⟨0,0,hW0⟩
 rw[Nat.sub_self]at hsp;simp only[Aa,BA,oY,j8,uB,f47,bI]at hsp;refine LG (φ:=FQ J w.heap.size n nj E.size Shun) (Goal:=λg w'=>g=G (vQ n nj (.func (.func R) #[] Q) w.heap.size (w.heap.size+3) t7 t10 t13 t14 t15 t16 t17 t18) (b.at a (.inRegion Y (i::X)::k)::cs)/\EF (FQ J w.heap.size n nj E.size Shun) (cL j u d) w') O ?_ ?_ (by exact hBB) h.co rfl (λr f=>⟨D r (.inl f.1),f.2⟩) (λr f=>D r (.inl f)) (λr f=>⟨D r (.inr (.inl f)),nSh r ((XP r f).imp id .inl)⟩) (by rw[U];simp[FQ]) (by rw[U];simp[FQ]) hW0 ?_ (λp hp=> ?_) h.g0 hn0 hsp ?_
 rintro μ g w' ⟨T,rfl,_⟩;rfl;intro μ g w' hA;refine Mp (μ:=μ) (L:=kz) (F:=EF (FQ J w.heap.size n nj E.size Shun) (cL j u d)) (b₀:=base 47) (i₀:=0) (rest₀:=[]) (k₀:=[]) (mT:=0) L rfl (λ_ _ m hh=>hh.mr m) (λw a v ha hh=>hh.wg H a ha v) ?_ g w' hA;intro w2 hF2 _;refine Goes.stop λw3 h3=>⟨rfl,?_,hF2.mr h3⟩
 rfl;obtain⟨s,r,tm,hch⟩:=h6.ch;exact⟨bF _,nj,s,r,tm,(b7 _ (by simp[FQ])).trans hch⟩;exact K.j0 w (cL j u d) p (λad O2=>by have:=I _ (K.la p ad O2);show j.cell? ad=_;unfold b3;rw[hold _ this]) (hj0 p hp)
 ·rintro gs' w' sl' q' t' a' ha' hr' ⟨rfl,C⟩ acT adg hjp;rw[U]at adg hjp;have acR:zv J.CB w (cL w' w.tape w.drawn):=by refine⟨λr f hc=>(C.T8 r ⟨by omega,by omega,by omega,hc⟩).trans (hold r f),λr f=>(C.pay r f).trans ?_,by show w.heap.size<=w'.heap.size;omega,C.os.trans (o7.1.trans h6.os),C.output.trans (o7.2.trans h6.output),rfl⟩;show dp j r=_;unfold dp;rw[hold r (I r f)]
  obtain⟨V,hV1,hV2,hV3,hcy⟩:=Nb (cL w' w.tape w.drawn) acR λp hp=>by obtain⟨o,ho1,ho2⟩:=hjp p hp;exact⟨o,ho1,K.jp o w' (cL w' w.tape w.drawn) p (λ_ _=>rfl) (λ_ _=>rfl) ho2⟩
  have ac7:EH aj c w'.heap.size (b.at (a.put o.dst (.tuple #[])) (.inRegion Y X::k)::cs) (grow A V) (λr=>Shun r\/r=w.heap.size+3) w'.heap.size gs' q' t' (G (vQ n nj (.func (.func R) #[] Q) w.heap.size (w.heap.size+3) t7 t10 t13 t14 t15 t16 t17 t18) (b.at a (.inRegion Y (i::X)::k)::cs)) (cL w' w.tape w.drawn):=by
   have hin:∀r,grow A V r r->r<w'.heap.size/\¬(Shun r\/r=w.heap.size+3):=by rintro r ⟨_,f⟩;rcases f with f|f;have:=h.SE r f;exact⟨by omega,λS=>S.elim (h.Mn r f) λe=>by omega⟩;have:=hV1 r f;exact⟨this.2.1,λS=>S.elim (nSh r (.inr (.inl this.1))) this.2.2⟩
   refine⟨Sl _ _,bS.grown (P:=aj) (CB:=J.CB) h.sub ⟨h.hp.ok,h.hp.obj,h.hp.kr,h.hp.mR,h.hp.old⟩ (by show j.heap.size<=w'.heap.size;omega) (λr f hc=> ?_) hV2 (λad x hx=> ?_),λr f=>(hin r f).2,λr f=>(hin r f).1,λr f=>f.elim (λx=>by have:=W r x;omega) λe=>by omega,av _,av _,acT,ha',λr f=>f.elim (h.old r) λe=>by have:=h.I1;omega,by have:=h.I1;omega,hV3 A h.sub h.fr⟩;rotate_left;have h1:=c.FC ad x hx;have h2:=h.I1;exact⟨λhv=>by have:=hV1 _ hv;omega,C.T8 ad.block ⟨by omega,by omega,by omega,λhc=>(XP _ hc).elim ((h.hp.old ad x hx).1 _) λy=>by omega⟩⟩;exact(C.T8 r ⟨by have:=h.SE r f;omega,by have:=h.SE r f;omega,by have:=h.SE r f;omega,hc⟩)
  have hk:EY aj c Z w'.heap.size (b.at (a.put o.dst (.tuple #[])) (.inRegion Y X::k)::cs) w'.heap.size (G (vQ n nj (.func (.func R) #[] Q) w.heap.size (w.heap.size+3) t7 t10 t13 t14 t15 t16 t17 t18) (b.at a (.inRegion Y (i::X)::k)::cs)) (cL w' w.tape w.drawn):=by unfold vQ;refine EY.ctl rfl (λ_=>stepG_region_end) (av _) ?_;refine EY.ctl rfl (λ_=>stepG_end) (av _) ?_;refine EY.ctl (g':=G (b.at (a.put o.dst (.tuple #[])) (.inRegion Y X::k)) cs) rfl (λw=> ?_) (av _) ?_;rw[stepG_leave rfl rfl func47 (results_none rfl _ _ w) (events_results_none rfl _ _),Frame.finish_at,ho];rfl;exact RU (λKl XG=>XG) hcy
  exact hk w'.tape w'.drawn _ gs' sl' q' t' _ w'.heap.size (av _) ac7
def Vj(hold:c.old<=w.heap.size)(E:Y[i]? =ae o)(hw:bj o (yielded Y a.tmps)=ar)(hb:b.kind=.normal)(D:o.op=.call {callee:=.value (.func 47),args:=#[W,U,T],argTypes:=S})(L:a.eval W=.int .i64 n)(M:a.eval U=.int .i64 nj)(N:a.eval T=.func (.func R) #[] Q)(B:1<=n)(hn:n<=8)(C:nj<=1000)(K:J.Ok)(u:∀b,J.CB b->b<w.heap.size)(q:∀d,Rel.Sub d->(∀l,d l l->∃o,w.heap[l]? =ae o/\ic c.sig d o o)->xV c d (b.at a (.inRegion Y (i::X)::k))->(∀r,NR r->d r r)/\∀r,J.CB r->d r r)(v:∀r,NR r->¬J.CB r)(A:∀p,p<nj->J.J0 p w)(m:∀(φ:Ph)(wp:ai),φ.Ok->φ.P=aj->φ.nj=nj->(∀p,φ.jv p=.int .i64 p)->φ.CB=J.CB->φ.jl=J.jl->φ.J0=J.J0->φ.JP=J.JP->(∀r,NR r->φ.jB r)->(∀r,r<w.heap.size->wp.heap[r]? =w.heap[r]?)->Tryz.prog.globals.size<=wp.heap.size->(∀r,φ.jB r\/φ.CB r\/r=φ.Wg->r<wp.heap.size)->vz φ wp R Q)(h:∀f,zv J.CB w f->(∀p,p<nj->∃o:Nat->Prop,(∀r,o r->w.heap.size+4<=r/\r<f.heap.size)/\J.JP o p f)->∃V:Nat->Prop,(∀r,V r->w.heap.size+4<=r/\r<f.heap.size)/\(∀r,J.CB r\/V r->∃o,f.heap[r]? =ae o/\ic c.sig (only V) o o)/\CY aj c Z (G (b.at (a.put o.dst (.tuple #[])) (.inRegion Y X::k)) cs) f):CY aj c Z (G (b.at a (.inRegion Y (i::X)::k)) cs) w:=by
 have g:(#[W,U,T].map a.eval)=#[.int .i64 n,.int .i64 nj,.func (.func R) #[] Q]:=by simp[L,M,N]
 refine Vk hold E hw hb D func47 rfl rfl ?_;rw[g];refine MZ (av _) E B hn C K u (λd s hO y=> ?_) v A m λf hB hP=> ?_
 obtain⟨O,h4⟩:=q d s hO (y _ (by simp));exact⟨λr j=>.inl (O r j),λr j=>.inl (h4 r j)⟩;obtain⟨V,t,F,H⟩:=h f hB hP;refine⟨V,λr j=>⟨by have:=t r j;omega,(t r j).2,λe=>by have:=t r j;omega⟩,F,λd s y=> ?_,H⟩;exact wa (x:=.inRegion Y (i::X)::k) (λI z=>(y I z).mono (Ac (P:=aj) s)) o.dst (.inl (.tuple rfl (by simp)))
end
end
section
open Go.RowKit
attribute [local go_sem] Oper.semAt_some
def Ol(p:Nat)(h:Hd)(w:ai):Calls aj 136 #[.pointer (ae ⟨p,0,ah⟩),mv h] w λe a=>
 e=.returned (.func (.func 182) #[] #[.pointer (ae ⟨w.heap.size,0,ah⟩),.pointer (ae ⟨w.heap.size+1,0,ah⟩)])/\
 a=(w.alloc (.cells #[.pointer (ae ⟨p,0,ah⟩)] 81)).alloc (.cells (ints (hL h)) 43):=by
 obtain⟨b,c⟩:=h;rw[jI];go_enter func136,ntmps136;go_wp2_with fail;go_ret;exact⟨rfl,rfl⟩
def lz.uniq{m:ja}{h:Hd}{c:List Hd}(e:lz m h c):∀{b:List Hd},lz m h b->c=b:=by
 induction e with
 |nil d=>
  intro b a;cases a with|nil _=>rfl|cons h _=>rw[d]at h;cases h
 |cons hm _ f=>
  intro b a;cases a with|nil h=>rw[hm]at h;cases h|cons h a=>rw[hm]at h;cases aX h;rw[f a]
open Classical in
noncomputable def zK(m:ja)(h:Hd):Nat:=if hx:∃a,lz m h a then(Classical.choose hx).length else 0
def Hq{m:ja}{h:Hd}{a:List Hd}(c:lz m h a):zK m h=a.length:=by have b:∃a,lz m h a:=⟨a,c⟩;unfold zK;rw[dif_pos b,(Classical.choose_spec b).uniq c]
noncomputable def kj(m:ja)(b c:ak)(w:ai):Nat:=
 match c,b with
 |.bool ar,.pointer (ae a)=>(match w.cell? ⟨a.block,0,ah⟩,w.cell? ⟨a.block,1,ah⟩with
  |some (.int .i64 x),ae (.int .i64 y)=>zK m (x,y)+1|_,_=>0)
 |_,_=>0
def vA{m:ja}{a:Nat}{w:ai}{t:az}{h:Hd}{c:List Hd}(i:lz m h c)(b:cD w a t (ints (hL h))):kj m (.pointer (ae ⟨a,0,ah⟩)) (.bool ar) w=c.length+1:=by obtain⟨f,g⟩:=h;have d:w.cell? ⟨a,0,ah⟩=ae (.int .i64 f):=b.cell 0;have e:w.cell? ⟨a,1,ah⟩=ae (.int .i64 g):=b.cell 1;unfold kj;simp only[d,e];rw[Hq i]
def Uq{F:Fence}{n:Nat}{P:aO}{c:Code}{Q:Exit->Act->ai->Prop}{a:Act}{w:ai}(I:ai->Prop)(h:I w)(k:∀b,I b->c.wpIn F n P Q a b):c.wpIn F n P Q a w:=k w h
structure ez(A B:ai):Prop where
 size:A.heap.size<=B.heap.size
 same:∀(k:Nat)(o:Obj),A.heap[k]? =ae o->(o.isCells||o.isWalk)=ar->B.heap[k]? =ae o
def ez.refl(A:ai):ez A A:=⟨av _,λ_ _ h _=>h⟩
def ez.trans{A B C:ai}(h:ez A B)(a:ez B C):ez A C:=⟨be h.size a.size,λk o c b=>a.same k o (h.same k o c b) b⟩
def ez.fR{A B:ai}(h:Below A.heap.size A B):ez A B:=⟨h.size,λk o a _=>(h.block k (aE.1 a).1).trans a⟩
def ez.blk{A B:ai}(h:ez A B){g:Nat}{t:az}{a:Array ak}(b:cD A g t a):cD B g t a:=h.same g _ b rfl
def ez.map{A B:ai}(h:ez A B){d i:Type}{e:d->ak}{f:i->ak}{a:d->Prop}{b:Nat}{m:List (d×i)}(hm:ew e f a A b m):ew e f a B b m:=by refine hm.block ?_;obtain⟨j,c,g,_⟩:=hm;rw[g];exact h.same b _ g rfl
def ez.qk{A B:ai}(h:ez A B){p b:Nat}{m:ja}(a:oK A p b m):oK B p b m:=⟨a.ok,h.blk a.blk,h.map a.map⟩
def IE{A B C:ai}:ez A B->ez B C->ez A C:=ez.trans
def ID{n:Nat}:∀(W:ai)(l:Nat)(o c:Obj),n<=l->W.heap[l]? =ae o->o.isCells=au->o.isWalk=au->ez W (W.putObj l c):=λW l o c _ g d f=>⟨by simp,λk q a b=>by by_cases e:k=l;subst e;rw[g]at a;cases a;rw[d,f]at b;cases b;rw[World.putObj_heap_other e];exact a⟩
def tc{A B:ai}(h:Below A.heap.size A B):A.grownBy B ah:=⟨h.os,h.tape,h.output,h.size,λk a _=>h.block k a⟩
def G8(n:Nat)(hn:1<=n)(K hb p b:Nat)(m:ja)(h:Hd)(xs:List Hd)(hc:lz m h xs)(w:ai)(hF:cD w K 81 #[.pointer (ae ⟨p,0,ah⟩)])(hH:cD w hb 43 (ints (hL h)))(hS:oK w p b m):SeqStopsK Fence.wide n aj 182 #[.pointer (ae ⟨K,0,ah⟩),.pointer (ae ⟨hb,0,ah⟩)] (λx:Hd=>#[mv x]) ez (λys=>ys=xs) (λd=>d <+: xs) xs.length w:=λl J Jx W O hJ hJx hY h0=>by
 have HJ:=af hJ;have HY:=af hY;have HW:=af O;have HS:=af hS;have HC:=af hc;have HF:=af hF;have HJ0:=af h0;obtain⟨y,z⟩:=h;have t:=HS.out.after O;have k0:W.cell? ⟨p,0,ah⟩=ae (.map (ae b)):=t.blk.cell 0;have k1:row? W hb 0 2=ae #[.int .i64 y,.int .i64 z]:=(hH.after O).bw (xs:=[y,z]) rfl;have k2:W.cell? ⟨K,0,ah⟩=ae (.pointer (ae ⟨p,0,ah⟩)):=(hF.after O).cell 0;have B:=(Below.refl W.heap.size W).alloc (av _) (.cells #[.int .i64 0,.int .i64 0] 43);have k3:row? (W.alloc (.cells #[.int .i64 0,.int .i64 0] 43)) hb 0 2=ae #[.int .i64 y,.int .i64 z]:=((hH.after O).after B).bw (xs:=[y,z]) rfl;have k4:(W.alloc (.cells #[.int .i64 0,.int .i64 0] 43)).cell? ⟨p,0,ah⟩=ae (.map (ae b)):=(t.blk.after B).cell 0;have k5:(W.alloc (.cells #[.int .i64 0,.int .i64 0] 43)).cell? ⟨K,0,ah⟩=ae (.pointer (ae ⟨p,0,ah⟩)):=((hF.after O).after B).cell 0;have Q:=o6 t.map (y,z) (Below.refl _ _).drew;have R:=o6 t.map (y,z) (((Below.refl _ W).alloc (av _) (.cells #[.int .i64 0,.int .i64 0] 43)).drew);rw[jI]at Q R;have i:Hid (jD m (y,z)=(xs.head?.getD (0,0),xs.head?.isSome)):=by unfold Hid jD;rw[hc.get]
 generalize jD m (y,z)=r at *;obtain⟨⟨k,o⟩,is⟩:=r;simp only[jI]at Q R;clear hJ hY O hS hc hF hH h0 t B;refine callsIn_of_wp func182 rfl trivial ?_ rfl;simp only[ntmps182,aD,ay,aC,Nat.reduceAdd,Nat.reduceSub,cG,cH,dy,c9,cg,cW];have X:Hid (∀w1,w1=(putRow (W.alloc (.cells (ints [0,0]) 43)) W.heap.size 0 [k,o]).drew->J [] w1/\cD w1 W.heap.size 43 (ints [k,o])/\Below W.heap.size W w1):=by rintro w1 rfl;have hbb:=(eU W 43 [0,0] [k,o]).drew;exact⟨HJ.out [] W _ ah HJ0.out (tc hbb) (λr e=>by cases e),(jU W 43 [0,0] [k,o] rfl).drew,hbb⟩
 have V:Hid (cD W K 81 #[.pointer (ae ⟨p,0,ah⟩)]):=HF.out.after HW.out;have Y:Hid (oK W p b m):=HS.out.after HW.out
 gi_wp2
 gi_region
 all_goals
  clear k0 k1 k2 k3 k4 k5 Q R
  gi_wp2
  gi_loopw [4,5] (λv4 v5 wr=>∃(d c:List Hd)(h':Hd)(I:Nat),v4=.pointer (ae ⟨I,0,ah⟩)/\v5=.bool c.head?.isSome/\xs=d++c/\lz m h' c/\J d wr/\cD wr I 43 (ints (hL (c.head?.getD (0,0))))/\cD wr K 81 #[.pointer (ae ⟨p,0,ah⟩)]/\oK wr p b m) (λv4 v5 wr=>kj m v4 v5 wr)
  case atStart=>obtain⟨g1,T,g3⟩:=X.out _ rfl;have S:xs.head?.getD (0,0)=(k,o):=(congrArg Prod.fst i.out).symm;have e2:xs.head?.isSome=is:=(congrArg Prod.snd i.out).symm;exact⟨[],xs,(y,z),W.heap.size,rfl,by rw[e2],rfl,HC.out,g1,by rw[S];exact T,V.out.after g3,Y.out.after g3⟩
  case round=>
   clear X V Y;obtain⟨d,c,h',I,rfl,rfl,hx,u,L,P,hfb,hfs⟩:=hrel;cases c with
   |nil=>
    gi_wp2
    go_end0
    exact⟨⟨_,rfl⟩,.inl ⟨d,by simp[hx],L⟩⟩
   |cons q c=>
    obtain⟨f,g⟩:=q;have hq:eI m h'=ae (f,g)/\lz m (f,g) c:=by cases u with|cons a b=>exact⟨a,b⟩
    obtain⟨fn,tmps,assign,body,hy,M⟩:=HY.out d (f,g) wr L (by rw[hx];simp);simp only[jI]at hy;have q3:row? wr I 0 2=ae #[.int .i64 f,.int .i64 g]:=P.bw (xs:=[f,g]) rfl;have HX:=af hx;have HQ:=af hq.2;have U:Hid (cD wr I 43 (ints (hL (f,g)))):=P;have HFB:=af hfb;have HFS:=af hfs;have HRR:=af M;clear hx u L P hfb hfs hq M
    gi_wp2
    refine HRR.out.mono ?_;rintro e j (⟨rfl,hJ3,C⟩|⟨rfl,acK⟩)
    ·have HJ3:=af hJ3;have H:=C.blk U.out;have F:=af (C.blk HFB.out);have G:=af (C.qk HFS.out);have q4:row? j I 0 2=ae #[.int .i64 f,.int .i64 g]:=H.bw (xs:=[f,g]) rfl;clear hJ3 C H hy q3
     gi_wp2
     refine Uq (λw4=>cD w4 j.heap.size 43 (ints [f,g])/\Below j.heap.size j w4) ⟨jU j 43 [0,0] [f,g] rfl,eU j 43 [0,0] [f,g]⟩ ?_;rintro Z ⟨D,A⟩;have N:=G.out.after A;have k0:Z.cell? ⟨p,0,ah⟩=ae (.map (ae b)):=N.blk.cell 0;have k1:row? Z j.heap.size 0 2=ae #[.int .i64 f,.int .i64 g]:=D.bw (xs:=[f,g]) rfl;have k2:Z.cell? ⟨K,0,ah⟩=ae (.pointer (ae ⟨p,0,ah⟩)):=(F.out.after A).cell 0;have f4:fits Z j.heap.size 0 2=ar:=D.fits 0 2 (by rw[bN];simp);have hl4:=o6 N.map (f,g) (Below.refl _ _).drew;rw[jI]at hl4;have i:Hid (jD m (f,g)=(c.head?.getD (0,0),c.head?.isSome)):=by unfold Hid jD;rw[HQ.out.get]
     generalize jD m (f,g)=r at *;obtain⟨⟨k,o⟩,is⟩:=r;simp only[jI]at hl4;have E:Hid (∀w5,w5=(putRow Z j.heap.size 0 [k,o]).drew->cD w5 j.heap.size 43 (ints [k,o])/\Below j.heap.size j w5):=by rintro w5 rfl;exact⟨(D.eZ [k,o] rfl).drew,(k7 A (av _) 0 _).drew⟩
     clear D A N q4
     gi_region
     all_goals
      gi_wp2
      go_roundw
      case rel=>obtain⟨g1,T⟩:=E.out _ rfl;have S:c.head?.getD (0,0)=(k,o):=(congrArg Prod.fst i.out).symm;have e2:c.head?.isSome=is:=(congrArg Prod.snd i.out).symm;exact⟨d++[(f,g)],c,(f,g),j.heap.size,rfl,by rw[e2],by rw[HX.out];simp,HQ.out,HJ.out _ j _ ah HJ3.out (tc T) (λr e=>by cases e),by rw[S];exact g1,F.out.after T,G.out.after T⟩
      case measure=>
       obtain⟨g1,T⟩:=E.out _ rfl;have S:c.head?.getD (0,0)=(k,o):=(congrArg Prod.fst i.out).symm;have e2:c.head?.isSome=is:=(congrArg Prod.snd i.out).symm;have M:kj m (.pointer (ae ⟨I,0,ah⟩)) (.bool ar) wr=c.length+1:=vA HQ.out U.out;rw[<-e2];cases hrs:c with
       |nil=>rw[hrs]at M;show kj m _ (.bool au) _<kj m _ (.bool ar) wr;rw[M];simp[kj]|cons s v=>
        have u:=HQ.out;rw[hrs]at u M S;have hs:lz m s v:=by cases u with|cons a b=>exact b
        have e3:s=(k,o):=S;have hL:kj m (.pointer (ae ⟨j.heap.size,0,ah⟩)) (.bool ar) _=v.length+1:=vA hs (by rw[e3];exact g1);show kj m _ (.bool ar) _<kj m _ (.bool ar) wr;rw[hL,M];simp
    gi_wp2
    refine bodyPost_ret (results_none rfl _ _ _) rfl ?_;exact⟨⟨_,rfl⟩,.inr ⟨d++[(f,g)],⟨c,by simp[HX.out]⟩,acK⟩⟩
end
section
open Go.RowKit
section
variable{Z Y:Type} [DecidableEq Z] {P:aO} {F:Fence} {X:Nat} {k:az} {W:Z->ak} {V:Y->ak} {U:Z->Prop} {w:ai}
def yZ(K:me P k W U){l:Array Oper}{e:List Oper}{o:Oper}{a:Act}{Q:Exit->Act->ai->Prop}(s:o.guard=ah)(t:ca)(f:o.op=Op.next t au)(b r:Nat)(m left:List (Z×Y))(p:a.eval t=.pointer (ae ⟨r,0,ah⟩))(h:dz W V U w b r m left)(i:left=[]->wpListIn F X P l Q e (a.put o.dst (.tuple #[.bool au])) w)(j:∀x v g,(x,v)∈left->dz W V U g b r m (eo left x)->cY (· =r) w g->g.heap.size=w.heap.size->(eo left x).length<left.length->(Instr.entry (.pointer (ae ⟨r,0,ah⟩))).run P g=.ok (.tuple #[W x,V v]) g->wpListIn F X P l Q e (a.put o.dst (.tuple #[.bool ar,W x,V v])) g):wpListIn F X P l Q (o::e) a w:=by
 refine wpListIn_plain s λE n=> ?_
 unfold Oper.wpIn;refine⟨by simp[Oper.about,f],?_⟩;rw[Oper.semAt_plain F _ _ (by rw[f];intro c q;cases q)];rcases h.step K o.type with⟨u,d⟩|⟨x,v,g,D,d,y,z,A,B,C⟩;simp[execOp,f,p,d,Result.andThen];exact n _ _ (i u);simp[execOp,f,p,d,Result.andThen];exact n _ _ (j x v g D y z A B C)
end
section
variable{Z Y:Type} {P:aO} {F:Fence} {X:Nat} {k:az} {W:Z->ak} {V:Y->ak} {U:Z->Prop} {w:ai}
def vu{j:Array Oper}{d:List Oper}{o:Oper}{a:Act}{Q:Exit->Act->ai->Prop}(p:o.guard=ah)(q:ca)(t e:az)(f:o.op=Op.range t q)(x:P.underlying t=ae (.map k e))(b:Nat)(m:List (Z×Y))(hm:a.eval q=.map (ae b))(h:ew W V U w b m)(v:∀g,dz W V U g b w.heap.size m m->Below w.heap.size w g->g.heap.size=w.heap.size+1->wpListIn F X P j Q d (a.put o.dst (.pointer (ae ⟨w.heap.size,0,ah⟩))) g):wpListIn F X P j Q (o::d) a w:=by
 refine wpListIn_plain p λy l=> ?_
 unfold Oper.wpIn;refine⟨by simp[Oper.about,f],?_⟩;rw[Oper.semAt_plain F _ _ (by rw[f];intro c n;cases n)];obtain⟨g,i,r,s,u⟩:=h.range x;simp[execOp,f,hm,i,Result.andThen];exact l _ _ (v g r s u)
def dz.walks{b r:Nat}{m left:List (Z×Y)}{i:ai}(h:dz W V U w b r m left)(f:KeepsWalks w i):dz W V U i b r m left:=by have j:=h;obtain⟨l,a,c,g,k,d,_,_,_,e,_⟩:=j;exact h.block (by rw[d];exact f.same b _ d rfl) (by rw[e];exact f.same r _ e rfl)
def dz.walk{b r:Nat}{m left:List (Z×Y)}(h:dz W V U w b r m left):∃o:Obj,w.heap[r]? =ae o/\o.isWalk=ar:=by obtain⟨g,a,c,d,f,i,_,_,_,e,_⟩:=h;exact⟨_,e,rfl⟩
end
def cY.Pu{r:Nat}{w b:ai}(h:cY (· =r) w b):w.grownBy b (ae r):=⟨h.os,h.tape,h.output,h.size,λk c a=>h.block k c (λe=>a (by rw[e]))⟩
structure sO(E T:az) (size:Nat) (w0:ai) (sb:Nat) (n:Nat) (xs:List ak) (W:ai):Prop where
 has:∃v,cD W sb T #[v]/\W.ownsRow w0.heap.size E size v n xs
 below:Below w0.heap.size w0 W
def uI{W:ai}{b:Nat}{e:az}{size:Nat}{v:ak}{k:Nat}{m:List ak}(h:W.ownsRow b e size v k m){j:Nat}{o:Obj}(f:W.heap[j]? =ae o)(d:∀a,o≠.cells a e (0,0)):v.ownBlock≠ae j:=by
 rcases h.2 with⟨rfl,_⟩|⟨g,i,a,rfl,_,c,_⟩;simp[fC];intro l;have:g=j:=by simpa[fC]using l
 subst this;rw[c]at f;cases f;exact d a rfl
def C8{W d:ai}{row:Option Nat}{a:Nat}{e:az}{size:Nat}{v:ak}{k:Nat}{i:List ak}(h:W.ownsRow a e size v k i)(n:W.grownBy d row)(b:∀r,row=ae r->∃o:Obj,W.heap[r]? =ae o/\o.isCells=au):d.ownsRow a e size v k i:=by
 refine h.kept n ?_;rcases h.2 with⟨rfl,_⟩|⟨g,j,l,rfl,_,c,_⟩;exact .inl rfl;refine .inr λm=> ?_
 obtain⟨o,f,p⟩:=b g (by simpa[fC]using m.symm);rw[c]at f;cases f;cases p
def sO.kept{E T:az}{size:Nat}{c:ai}{g n:Nat}{i:List ak}{A B:ai}{row:Option Nat}(h:sO E T size c g n i A)(a:A.grownBy B row)(b:∀r,row=ae r->c.heap.size<=r/\∃o:Obj,A.heap[r]? =ae o/\o.isCells=au):sO E T size c g n i B:=by obtain⟨⟨v,d,j⟩,f⟩:=h;exact⟨⟨v,(grownBy_keeps_cells a (λr e=>(b r e).2) d rfl).trans d,C8 j a λr e=>(b r e).2⟩,f.grown a f.size λk l=>(b k l).1⟩
def yL{W:ai}{a:Nat}{e:az}{size:Nat}{v:ak}{k:Nat}{l:List ak}(h:W.ownsRow a e size v k l):∀(j:Nat)(o:Obj),v.ownBlock=ae j->W.heap[j]? =ae o->o.isCells=ar:=by
 intro j o c d;rcases h.2 with⟨rfl,_⟩|⟨g,f,i,rfl,_,b,_⟩;simp[fC]at c;have:g=j:=by simpa[fC]using c
 subst this;rw[b]at d;cases d;rfl
def uy{P:aO}{F:Fence}{I:Nat}{w:ai}{q:Array Oper}{g:List Oper}{o:Oper}{a:Act}{Q:Exit->Act->ai->Prop}(D:o.guard=ah)(s x:ca)(t:az)(N:o.op=.call {callee:=.builtin .append,args:=#[s,x],argTypes:=#[t,t]})(d:Nat)(e:az)(i:TypeInfo)(z:ak)(size c:Nat)(R:P.underlying t=ae (.slice e))(L:P.info? e=ae i)(U:i.zero=ae z)(l:i.size=size)(C:i.bytes=c)(G:z.cells.size=size)(E:0<size)(v:ak)(n:Nat)(H:List ak)(O:a.eval s=v)(p:w.ownsRow d e size v n H)(b:List ak)(T:a.eval x=.slice (ae ⟨w.heap.size,0,ah⟩) 1 1)(M:b.length=size)(J:∀u∈b,u.oneCell'=ar)(y:n+1<=maxLen)(f:(n+1) *c<=140737488355328)(B:d<=w.heap.size)(h:∀m r,r.ownsRow d e size m (n+1) (H++b)->(w.alloc (.cells b.toArray e)).grownBy r v.ownBlock->(m.ownBlock=v.ownBlock\/m.ownBlock=ae (w.heap.size+1))->wpListIn F I P q Q g (a.put o.dst m) r):wpListIn F I P q Q (o::g) a (w.alloc (.cells b.toArray e)):=by refine wpListIn_append_own_at _ D s x t N d e i z size c R L U l C G E v n H O (p.alloc _) ⟨w.heap.size,0,ah⟩ 1 1 b T (by rw[M,jF]) ?_ J y f (by simp;omega) ?_;intro j u S;rw[show(⟨w.heap.size,0,ah⟩:Addr).add j=⟨w.heap.size,j,ah⟩from by unfold Addr.add;split<;>simp_all];rw[cell_of_row _ w.heap.size j b.toArray e (0,0) (heap_alloc_new w _)];simpa using S;intro m r k K _ A;exact h m r k K (by simpa using A)
def Lh{P:aO}{c:Func}{R:Ending->ai->Prop}{p:Tmp}{a:Array ak}{w:ai}{v:ak}(h:c.results=#[.tmp p])(hp:a.getD p undef=v)(d:R (.returned v) w):LeavesInM Fence.wide 3 P c a R [] .returning w:=by
 refine⟨v,?_,d⟩;have b:a[p]?.getD undef=v:=by simpa using hp
 simp[results,h,b]
end
section
open Go.RowKit
attribute [local go_sem] Oper.semAt_some
def De{B:Nat}{A W:ai}(h:Below B A W)(g o:Nat)(v:ak):Below B (A.setCell ⟨g,o,ah⟩ v) (W.setCell ⟨g,o,ah⟩ v):=by refine⟨h.os,h.tape,h.output,by simpa[dC]using h.size,λk a=> ?_⟩;show(W.heap.modify g _)[k]? =(A.heap.modify g _)[k]?;rw[br,br,h.block k a]
def cY.WN{F:Nat->Prop}{A W:ai}(h:cY F A W)(g o:Nat)(v:ak):cY F (A.setCell ⟨g,o,ah⟩ v) (W.setCell ⟨g,o,ah⟩ v):=by refine⟨h.os,h.tape,h.output,by simpa[dC]using h.size,λk b a=> ?_⟩;show(W.heap.modify g _)[k]? =(A.heap.modify g _)[k]?;rw[br,br,h.block k (by simpa[dC]using b) a]
def cY.putObj{F:Nat->Prop}{A W:ai}(h:cY F A W){D:Nat}(c:A.heap.size<=D)(o:Obj):cY F A (W.putObj D o):=⟨h.os,h.tape,h.output,by simpa using h.size,λk b a=>(World.putObj_heap_other (by omega)).trans (h.block k b a)⟩
def Hh{B:Nat}{A W:ai}(h:Below B A W){D:Nat}(b:B<=D)(o:Obj):Below B A (W.putObj D o):=⟨h.os,h.tape,h.output,by simpa using h.size,λk a=>(World.putObj_heap_other (by omega)).trans (h.block k a)⟩
def u0{B:Nat}{A W:ai}(h:Below A.heap.size A W):KeepsFrom B A W:=⟨h.size,λk o _ a _=>(h.block k (aE.1 a).1).trans a⟩
def E'{P:aO}{w:ai}{g:Nat}{b:az}{x:Int}(c:∀w,(isAgg b).run P w=.ok au w)(d:w.cell? ⟨g,0,ah⟩=ae (.int .i64 x)):((asAddr (.pointer (ae ⟨g,0,ah⟩))).run P w).andThen (λa e=>(loadVar b a).run P e)=.ok (.int .i64 x) w:=by simp[asAddr,go_sem,c,d]
def ti{P:aO}{c:Func}{R:Ending->ai->Prop}{p:Tmp}{ty:az}{a:Array ak}{w:ai}(h:c.results=#[.cell p ty]){g:Nat}{x:Int}(hp:a.getD p undef=.pointer (ae ⟨g,0,ah⟩))(f:∀w,(isAgg ty).run P w=.ok au w)(e:w.cell? ⟨g,0,ah⟩=ae (.int .i64 x))(d:R (.returned (.int .i64 x)) w):LeavesInM Fence.wide 3 P c a R [] .returning w:=by
 refine⟨.int .i64 x,?_,d⟩;have b:a[p]?.getD undef=.pointer (ae ⟨g,0,ah⟩):=by simpa using hp
 simp[results,h,b];exact E' f e
def DG{G:Nat->Prop}{w0 w:ai}{l:List bU}{p:Nat}{m:ja}(h:In G w0 (jy p m::l) w)(c q:Hd):Calls aj 69 #[.pointer (ae ⟨p,0,ah⟩),mv c,mv q] w λe w'=>e=.returned (.int .i64 (fh m c q).2)/\In G w0 (jy p (fh m c q).1::l) w':=by
 obtain⟨hm,b,R⟩:=h.sd;have HM:=af hm;have GX:=af R;clear h hm R;obtain⟨xs,hc⟩:=lz.exists HM.out.sG q;have HC:=af hc;clear hc;obtain⟨d,f⟩:=c;obtain⟨i,j⟩:=q;rw[jI,jI];have heq:∀(x y:List Int) W,x.length=2->y.length=2->(binOp .eql 43 (.agg (ints x)) (.agg (ints y))).run aj W=.ok (.bool (decide (x=y))) W:=λx y W v h2=>uV x y v h2 W
 have HEQ:=af heq;clear heq;refine(callsIn_wide (n:=3)).1 ?_;refine callsIn_of_wp_marks func69 rfl trivial ?_ rfl;simp only[ntmps69,aD,ay,aC,Nat.reduceAdd,Nat.reduceSub,cG,cH,dy,c9,cg,cW];rw[wpIn_wide];go_upto_region 1 with(fail)
 refine b9 (In G w0 (a8 (w.heap.size+1+1) 27 #[.int .i64 0]::a8 (w.heap.size+1) 43 (ints [i,j])::a8 w.heap.size 43 (ints [d,f])::a8 p 175 #[.map (ae b)]::wZ b m::l)) (by have:=((GX.out.alloc 43 (ints [d,f])).alloc 43 (ints [i,j])).alloc 27 #[.int .i64 0];simp only[cR]at this;exact this) ?_
 generalize w.heap.size+1+1=u;generalize w.heap.size+1=qb;generalize w.heap.size=cb;intro E R;have k1:row? E cb 0 2=ae (ints [d,f]):=R.third.blk.bw rfl;have k2:row? E qb 0 2=ae (ints [i,j]):=R.swap.blk.bw rfl;have k3:E.cell? ⟨u,0,ah⟩=ae (.int .i64 0):=R.blk.cell 0;have k4:E.frozen? ⟨u,0,ah⟩=au:=R.blk.frozen 0;have hn:=λW=>HEQ.out [d,f] [i,j] W rfl rfl
 have HI:=af R;clear R GX;by_cases e:(d,f)=(i,j)
 ·have N:decide ([d,f]=[i,j])=ar:=by rw[decide_eq_true_eq];injection e with e1 M;rw[e1,M]
  rw[N]at hn;have HA:Hid (fh m (d,f) (i,j)=(m,8)):=by unfold Hid fh;rw[if_pos (bt e)]
  clear N e;go_wp2_with fail;have a:=HI.out.set 0 (.int .i64 8);refine ti (p:=6) (ty:=27) rfl (g:=u) (x:=8) rfl Tryz.isAgg27 (a.blk.cell 0) ?_;rw[HA.out];exact⟨rfl,In.oA HM.out a.drop.drop.drop⟩
 ·have N:decide ([d,f]=[i,j])=au:=by rw[decide_eq_false_iff_not];intro e';injection e' with e1 M;injection M with M _;exact e (by rw[e1,M])
  rw[N]at hn;have HNE:=af e;clear N e;go_wp2_with fail;refine(Ol p (i,j) E).mono ?_;rintro e w2 ⟨rfl,rfl⟩;go_wp2_with fail;have hb0:Below E.heap.size E ((E.alloc (.cells #[.pointer (ae ⟨p,0,ah⟩)] 81)).alloc (.cells (ints (hL (i,j))) 43)):=((Below.refl _ _).alloc (av _) _).alloc (by simp) _;have hF:=(cD.new E 81 #[.pointer (ae ⟨p,0,ah⟩)]).alloc (.cells (ints (hL (i,j))) 43);have hH:=cD.new (E.alloc (.cells #[.pointer (ae ⟨p,0,ah⟩)] 81)) 43 (ints (hL (i,j)));rw[cR]at hH;have a:=af (HI.out.below hb0);generalize ((E.alloc (.cells #[.pointer (ae ⟨p,0,ah⟩)] 81)).alloc (.cells (ints (hL (i,j))) 43))=H at *;generalize E.heap.size+1=hb at *;generalize E.heap.size=fb at *;have hS:oK H p b m:=⟨HM.out,a.out.fourth.blk,(a.out.fifth).gZ⟩;clear hb0 k1 k2 k3 k4 HI;refine(wpIn_wide (n:=3)).1 ?_;refine wpIn_rangeFunc_ownH (F:=Fence.wide) (n:=3) rfl (by decide) (gf:=182) (lb:=#[.pointer (ae ⟨fb,0,ah⟩),.pointer (ae ⟨hb,0,ah⟩)]) rfl trivial (enters_of func182 (by kernel_rfl) rfl)
   (G8 2 (by decide) fb hb p b m (i,j) xs HC.out H hF hH hS) IE ID (Below.refl _ _) (λ_=>rfl)
   (λC W=>(∀x∈C,x≠(d,f))/\Below H.heap.size H W)
   (λc C W=>c=.ret/\(d,f)∈C/\Below H.heap.size (H.setCell ⟨u,0,ah⟩ (.int .i64 8)) W)
   (λs A B row P hg hr=>⟨P.1,P.2.grown hg P.2.size λk hk=>(hr k hk).1⟩)
   (λc s A B row P hg hr=>⟨P.1,P.2.1,P.2.2.grown hg (by have:=P.2.2.size;simpa[dC]using this) λk hk=>(hr k hk).1⟩)
   ⟨by simp,Below.refl _ _⟩
   (λx a' W=>∃xb,cD W xb 43 (ints (hL x))/\a'={tmps:=#[.pointer (ae ⟨p,0,ah⟩),.agg #[.int .i64 d,.int .i64 f],.agg #[.int .i64 i,.int .i64 j],undef,.pointer (ae ⟨cb,0,ah⟩),.pointer (ae ⟨qb,0,ah⟩),.pointer (ae ⟨u,0,ah⟩),.pointer (ae ⟨xb,0,ah⟩),.agg (ints [d,f]),.agg (ints [i,j]),.bool au,.pointer (ae ⟨p,0,ah⟩),.agg (ints [i,j]),.func (.func 182) #[] #[.pointer (ae ⟨fb,0,ah⟩),.pointer (ae ⟨hb,0,ah⟩)],mv x,undef,undef,undef,undef,undef,undef,undef,undef,undef],defers:=[]})
   (λx a' _ A B row P hg hr=>by obtain⟨xb,v,h2⟩:=P;exact⟨xb,(grownBy_keeps_cells hg (λr e=>(hr r e).2) v rfl).trans v,h2⟩)
   ?assign ?body ?done ?stop
  case assign=>
   rintro l1 C ⟨V,X⟩ W K hi hK
   gi_wp2
   have UE:=eU W 43 [0,0] [V,X];exact hK _ _ (u0 UE) (ez.fR UE) ⟨hi.1,hi.2.trans (UE.mono hi.2.size)⟩ ⟨W.heap.size,jU W 43 [0,0] [V,X] rfl,rfl⟩
  case body=>
   rintro l1 C ⟨V,X⟩ a' W UH ⟨r,hr⟩ ⟨O,t⟩ ⟨xb,hxb,rfl⟩ l6;have o:=a.out.below t;have k1:row? W xb 0 2=ae (ints [V,X]):=hxb.bw rfl;have k2:row? W cb 0 2=ae (ints [d,f]):=o.third.blk.bw rfl;have k3:W.cell? ⟨u,0,ah⟩=ae (.int .i64 0):=o.blk.cell 0;have k4:W.frozen? ⟨u,0,ah⟩=au:=o.blk.frozen 0;have hn:=λW=>HEQ.out [V,X] [d,f] W rfl rfl
   have HNO:=af O;have I:=af t;have HSZ:Hid (u<H.heap.size):=a.out.blk.lt;clear O t o hxb;by_cases e:(V,X)=(d,f)
   ·have N:decide ([V,X]=[d,f])=ar:=by rw[decide_eq_true_eq];injection e with e1 M;rw[e1,M]
    rw[N]at hn;have HE:=af e;clear N e
    gi_wp2
    exact⟨(KeepsOthers.setCell _ _ _).from _,rfl,by rw[HE.out];simp,De I.out _ _ _⟩
   have N:decide ([V,X]=[d,f])=au:=by rw[decide_eq_false_iff_not];intro e';injection e' with e1 M;injection M with M _;exact e (by rw[e1,M])
   rw[N]at hn;have HE:=af e;clear N e
   gi_wp2
   exact⟨KeepsFrom.refl _ _,ez.refl _,λy hy=>by rcases gK.1 hy with hy|hy;exact HNO.out y hy;rw[eC.1 hy];exact HE.out,I.out⟩
  case done=>
   rintro D ys W hD rfl ⟨O,t⟩ hK;have HA:Hid (fh m (d,f) (i,j)=(iI m (d,f) (i,j),0)):=by unfold Hid fh;rw[if_neg];rintro(e|e);exact HNE.out e;exact O _ (HC.out.mem.2 e) rfl
   have o:=a.out.below t;have k1:row? W cb 0 2=ae (ints [d,f]):=o.third.blk.bw rfl;have k2:row? W qb 0 2=ae (ints [i,j]):=o.swap.blk.bw rfl;have k3:W.cell? ⟨p,0,ah⟩=ae (.map (ae b)):=o.fourth.blk.cell 0;have I:=af t;have HD:=af hD;have HK:=af hK;have HM2:Hid (ew mv mv (λ_=>True) W b m):=o.fifth.gZ;clear O t hD hK o hS hF hH;go_wp2_with fail
   go_still_tail 6,(by kernel_rfl)
   change wpList _ _ _ _ _ W.drew;have Z:Hid (ew mv mv (λ_=>True) W.drew b m):=HM2.out;have T:Hid (Below H.heap.size H W.drew):=I.out.drew;have Q:Hid (W.drew.heap[D]? =ae (.deferred (ae []))):=HK.out;clear HM2 I HK k1 k2 k3;generalize W.drew=W2 at *;go_wp2_with (at_mapUpdate;go_loud (refine iB Am rfl _ _ _ 173 43 rfl underlying173 b m rfl Z.out (d,f) rfl trivial (i,j) rfl ?_));intro U v h2 h3;have HO:Hid (cY (· =b) H U):=(cY.fR T.out).trans h2;have hK4:U.heap[D]? =ae (.deferred (ae [])):=by have l6:=(aE.1 Q.out).1;refine(h2.block D l6 ?_).trans Q.out;intro e;obtain⟨es,L,z,_⟩:=Z.out;rw[<-e,Q.out]at z;cases z
   have HMP:=af v;have zd:u≠b:=λe=>by obtain⟨es,L,z,_⟩:=(a.out.fifth).gZ;have:=a.out.blk;rw[e]at this;unfold cD at this;rw[this]at z;cases z
   have S:cD U u 27 #[.int .i64 0]:=HO.out.blk a.out.blk zd;have HRB:=af S;have k5:U.cell? ⟨u,0,ah⟩=ae (.int .i64 0):=S.cell 0;have k6:U.frozen? ⟨u,0,ah⟩=au:=S.frozen 0;have HK4:=af hK4;clear v h2 h3 Z T Q hK4 zd S;go_wp2_with fail;have hKD:(U.setCell ⟨u,0,ah⟩ (.int .i64 0)).heap[D]? =ae (.deferred (ae [])):=by
    rw[Below.heap_setCell _ _ _ _ (by intro e;have v:=HRB.out;unfold cD at v;simp only at e;rw[<-e,HK4.out]at v;cases v)]
    exact HK4.out
   have Y:=a.out.set 0 (.int .i64 0);have YQ:cY (· =b) (H.setCell ⟨u,0,ah⟩ (.int .i64 0)) ((U.setCell ⟨u,0,ah⟩ (.int .i64 0)).putObj D (.deferred ah)):=(HO.out.WN u 0 (.int .i64 0)).putObj (by simpa[dC]using HD.out) _;have hlb:b<H.heap.size:=((a.out.fifth).gZ).lt;have YP:ew mv mv (λ_=>True) ((U.setCell ⟨u,0,ah⟩ (.int .i64 0)).putObj D (.deferred ah)) b (iI m (d,f) (i,j)):=by refine HMP.out.block ?_;rw[World.putObj_heap_other (by have:=HD.out;omega),Below.heap_setCell];intro e;obtain⟨es,L,z,_⟩:=HMP.out;have v:=HRB.out;unfold cD at v;simp only at e;rw[<-e,z]at v;cases v
   have J:=In.nV Y.fifth YP YQ;refine⟨by simp,.inl ⟨D,_,rfl,run_takeDeferred hKD,?_⟩⟩;refine ti (p:=6) (ty:=27) rfl (g:=u) (x:=0) rfl Tryz.isAgg27 (J.swap.blk.cell 0) ?_;rw[HA.out];have hok:=HM.out.qF (d,f) (i,j);rw[HA.out]at hok;exact⟨rfl,In.oA hok (J.swap.drop.swap.drop.swap.drop.swap)⟩
  rintro D c C W hD aa4 ⟨rfl,ac5,t⟩ hK;have HA:Hid (fh m (d,f) (i,j)=(m,8)):=by unfold Hid fh;rw[if_pos (bW (HC.out.mem.1 (aa4.subset ac5)))]
  have Y:=a.out.set 0 (.int .i64 8);have J:=Y.below ((Hh t (D:=D) (by simpa[dC]using hD) (.deferred ah)).mono (by simp[dC]))
  gi_wp2
  refine⟨by simp,.inl ⟨D,_,rfl,run_takeDeferred hK,?_⟩⟩;refine ti (p:=6) (ty:=27) rfl (g:=u) (x:=8) rfl Tryz.isAgg27 (J.blk.cell 0) ?_;rw[HA.out];exact⟨rfl,In.oA HM.out J.drop.drop.drop⟩
end
section
open Go.RowKit
def Yo{a b:Hd×Hd}(h:bL a=bL b):a=b:=by unfold bL at h;injection h with c h;injection h with d h;injection h with e h;injection h with f _;exact Prod.ext (Prod.ext c d) (Prod.ext e f)
section
variable{G:Nat->Prop} {Z w:ai} {l:List bU} {v u:ak}
def Yy{a b:List (Hd×Hd)}(h:In G Z (ji v a::ji u b::l) w):Calls aj 18 #[v,u] w λe q=>e=.returned (.bool (decide (a=b)))/\Below w.heap.size w q:=by
 obtain⟨A,c,rfl,n,o,g,_⟩:=vg (f:=bL) (λ_=>rfl) Rn h.rowAt;obtain⟨k,m,rfl,i,j,d,_⟩:=vg (f:=bL) (λ_=>rfl) Rn h.swap.rowAt;have:=KL A k c m (a.map bL) (b.map bL) w g d (by rw[bu];omega) (by rw[bu];omega);have p:iq (a.map bL) (b.map bL)=decide (a=b):=by unfold iq;rw[Bool.eq_iff_iff,decide_eq_true_eq,decide_eq_true_eq];exact⟨λh=>IP (λ_ _=>Yo) h,λh=>by rw[h]⟩
 rw[bu,bu,p]at this;exact this
def OU{p:Nat}{m:ja}(h:In G Z (jy p m::l) w)(b:m.length<=1099511627776)(a:Hd):Calls aj 129 #[.pointer (ae ⟨p,0,ah⟩),mv a] w λe d=>∃v,e=.returned v/\In G Z (jz v (under m a)::jy p m::l) d:=by obtain⟨rk,R,c⟩:=h.R5.sG;exact KT h.R5 b rk R c (R-rk a+1) a (Nat.lt_succ_self _) h
end
end
section
open Go.RowKit
attribute [local go_sem] Oper.semAt_some
def YF{A B:ai}(h:Below A.heap.size A B):A.grownBy B ah:=⟨h.os,h.tape,h.output,h.size,λk a _=>h.block k a⟩
def Ou{B:Nat}{A W:ai}(h:Below B A W){D:Nat}(b:B<=D)(o:Obj):Below B A (W.putObj D o):=⟨h.os,h.tape,h.output,by simpa using h.size,λk a=>(World.putObj_heap_other (by omega)).trans (h.block k a)⟩
def Qn(b:Nat)(w:ai):Calls aj 95 #[.map (ae b)] w λe a=>
 e=.returned (.func (.func 147) #[] #[.pointer (ae ⟨w.heap.size,0,ah⟩)])/\a=w.alloc (.cells #[.map (ae b)] 105):=by
 go_enter func95,ntmps95;go_wp2_with fail;go_ret;exact⟨rfl,rfl⟩
def Lb{m left:List (Int×Nat)}{a:List Int}{x:Int}{v:Nat}(b:(bM left).Nodup)(c:(x,v)∈left)(hp:(a++bM left).Perm (bM m)):((a++[x])++bM (eo left x)).Perm (bM m):=by refine List.Perm.trans ?_ hp;rw[cM];exact dD _ ((xr b c).map (λp:Int×Nat=>p.1)).symm
def JW(n:Nat)(hn:1<=n)(U b:Nat)(m:List (Int×Nat))(w:ai)(hB:cD w U 105 #[.map (ae b)])(O:ew (aS .i64) tw mK w b m):SeqStopsK Fence.wide n aj 147 #[.pointer (ae ⟨U,0,ah⟩)] (λx:Int=>#[.int .i64 x]) KeepsWalks (λys=>ys.Perm (bM m)) (λ_=>True) m.length w:=λl J Jx W P hJ N hY Z=>by
 have X:=af hJ;have HY:=af hY;have f:=af Z;have u:=O.after P;have k0:W.cell? ⟨U,0,ah⟩=ae (.map (ae b)):=(hB.after P).cell 0;have c:Hid ((bM m).Nodup):=O.nodup qo;clear hJ hY P N Z hB;refine callsIn_of_wp func147 rfl trivial ?_ rfl;simp only[ntmps147,aD,ay,aC,Nat.reduceAdd,Nat.reduceSub,cG,cH,dy,c9,cg,cW]
 gi_wp2_with (first
  |(gi_at_range;refine vu rfl _ 105 134 rfl underlying105 b _ rfl u ?_;intro w2 C y S)
  |gi_in)
 have k:=af C;have g:Hid (J [] w2):=X.out [] W w2 ah f.out (YF y) (λr e=>by cases e);have H:Hid (W.heap.size<=W.heap.size):=av _;generalize hri:W.heap.size=E at *;clear C y S u k0 O f
 gi_loopw [6] (λ_ wr=>∃(left:List (Int×Nat))(a:List Int),(bM left).Nodup/\(a++bM left).Perm (bM m)/\dz (aS .i64) tw mK wr b E m left/\J a wr) (λ_ wr=>wr.rangeLeft b E)
 case atStart=>exact⟨m,[],c.out,by simp,k.out,g.out⟩
 case round=>
  clear g k;obtain⟨left,a,A,hp,hr,s⟩:=hrel;have c:=af A;have Y:=af hp;have K:=af hr;have h:=af s;clear A hp hr s
  gi_wp2_with (first
   |(gi_at_next;refine yZ qo rfl _ rfl b E _ left rfl K.out ?_ ?_)
   |gi_in)
  ·intro R;subst R
   gi_wp2
   go_end0
   exact⟨⟨_,rfl⟩,.inl ⟨a,by have:=Y.out;simpa[bM]using this,h.out⟩⟩
  intro x v V hx D B T d Q;have L:=af D;have i:=af d;have p:=af (Lb c.out hx Y.out);have j:Hid ((bM (eo left x)).Nodup):=o9 c.out _;have I:Hid (a.length<m.length):=by have:=p.out.length_eq;simp[bM]at this;unfold Hid;omega
  have G:Hid (J a V):=X.out a wr V (ae E) h.out B.Pu (λr e=>by cases e;exact⟨H.out,K.out.walk⟩);obtain⟨fn,tmps,assign,body,hy,hR⟩:=HY.out a x V G.out I.out;have M:=af hR;clear D B T d hx hR
  gi_wp2
  refine M.out.mono ?_;rintro e W3 (⟨rfl,q,z⟩|⟨rfl,t⟩)
  ·have F:=af q;have o:=af (L.out.walks z);clear q z hy Q
   gi_wp2
   go_roundw
   case rel=>exact⟨eo left x,a++[x],j.out,p.out,o.out,F.out⟩
   rw[o.out.count,K.out.count];exact i.out
  gi_wp2
  refine bodyPost_ret (results_none rfl _ _ _) rfl ?_;exact⟨⟨_,rfl⟩,.inr ⟨a++[x],trivial,t⟩⟩
def K7:(Tryz.prog.info? 3).map (λi=>(i.zero,i.size,i.bytes))=ae (ae (.int .i64 0),1,8):=by kernel_rfl
def zF(gf:Nat)(lb:Array ak)(eg:∀args w,(callFunc gf args).run aj w=.ok (.enter gf args) w)(S Sp:List Int->Prop)(N:Nat)(hN:N<=1099511627776)(w:ai)(i:SeqStopsK Fence.wide 2 aj gf lb (λx:Int=>#[.int .i64 x]) KeepsWalks S Sp N w):Calls aj 146 #[.slice ah 0 0,.func (.func gf) #[] lb] w λe w'=>∃v,∃H:List Int,e=.returned v/\S H/\w'.ownsRow w.heap.size 3 1 v H.length (H.map (aS .i64))/\Below w.heap.size w w':=by
 have u:=af i;have M:=af eg;clear i eg;obtain⟨i0,U,D4,D5,Cy⟩:=info_parts K7;refine(callsIn_wide (n:=3)).1 ?_;refine callsIn_of_wp_marks func146 rfl trivial ?_ rfl;simp only[ntmps146,aD,ay,aC,Nat.reduceAdd,Nat.reduceSub,cG,cH,dy,c9,cg,cW];rw[wpIn_wide];go_wp2_with fail;have o:Hid (Below w.heap.size w (w.alloc (.cells #[.slice ah 0 0] 32))):=(Below.refl _ _).alloc (av _) _;have L:Hid (sO 3 32 1 w w.heap.size 0 [] (w.alloc (.cells #[.slice ah 0 0] 32))):=⟨⟨_,cD.new w _ _,World.ownsRow_nil _ _ _ _⟩,o.out⟩;have y:Hid ((w.alloc (.cells #[.slice ah 0 0] 32)).heap.size=w.heap.size+1):=by simp[Hid]
 generalize (w.alloc (.cells #[.slice ah 0 0] 32))=W0 at *;refine(wpIn_wide (n:=3)).1 ?_;refine wpIn_rangeFunc_ownH (F:=Fence.wide) (n:=3) rfl (by decide) (gf:=gf) (lb:=lb) rfl trivial M.out
  u.out walksK_t walksK_b o.out (λ_=>rfl)
  (λa W=>sO 3 32 1 w w.heap.size a.length (a.map (aS .i64)) W)
  (λ_ _ _=>False)
  (λs A B row G h l=>G.kept h λr e=>⟨by have:=(l r e).1;have:=y.out;omega,(l r e).2⟩)
  (λc s A B row G h l=>G)
  L.out
  (λx P W=>P={tmps:=#[.slice ah 0 0,.func (.func gf) #[] lb,.pointer (ae ⟨w.heap.size,0,ah⟩),undef,.slice ah 0 0,.int .i64 x,.func (.func gf) #[] lb,.int .i64 x,undef,undef,undef,undef,undef],defers:=[]})
  (λx P _ A B row G h l=>G)
  ?assign ?body ?done ?stop
 case assign=>
  rintro l1 a x W K hi E
  gi_wp2
  exact E _ _ (KeepsFrom.refl _ _) (KeepsWalks.refl _) hi rfl
 case body=>
  rintro l1 a x P W UH ⟨r,l⟩ ⟨⟨v,d,f⟩,j⟩ rfl l6;have k2:W.cell? ⟨w.heap.size,0,ah⟩=ae v:=d.cell 0;have O:=af d;have b:=af f;have m:=af j;have Y:a.length+1<=maxLen:=by unfold maxLen;omega
  have Z:(a.length+1) *8<=140737488355328:=by omega
  have hp3:=j.size;clear d f j l
  gi_wp2_with (first
   |(gi_at_builtin;refine uy rfl _ _ 32 rfl w.heap.size 3 i0 _ 1 8 underlying32 U D4 D5 Cy rfl (by decide) v a.length (a.map (aS .i64)) rfl b.out [.int .i64 x] rfl rfl (by simp[fX]) Y Z hp3 ?_
     intro v' I V h X;have g:cD I w.heap.size 32 #[v]:=by have T:=O.out.alloc (.cells [aS .i64 x].toArray 3);refine(h.block w.heap.size T.lt ?_).trans T;exact λe=>uI (b.out.alloc (.cells [aS .i64 x].toArray 3)) T (λQ e=>by injection e with _ R;exact absurd R (by decide)) e.symm
     have q:Hid (KeepsOthers W I):=(KeepsOthers.alloc W _).trans (KeepsOthers.of_grownBy h (yL (b.out.alloc _)));have J:Hid (Below w.heap.size w I):=(m.out.alloc m.out.size _).grown h (by have:=m.out.size;simp;omega) (λk e=>(World.ownsRow.lt b.out k e).1);have z:=af g;have t:=af V;have k3:=g.cell 0;have k4:=g.frozen 0;clear h X g k2;obtain⟨g',C,rfl⟩:=ownsRow_succ V;clear V
     go_frame)
   |gi_in)
  refine⟨((q.out.trans (KeepsOthers.setCell _ _ _)).from _),(q.out.trans (KeepsOthers.setCell _ _ _)).walks,⟨⟨_,z.out.set 0 _,?_⟩,J.out.setCell (p:=⟨w.heap.size,0,ah⟩) (av _) _⟩⟩;have h5:=t.out.kept (grownBy_setCell' I w.heap.size (.slice (ae ⟨g',0,ah⟩) (a.length+1) C)) (bW (uI t.out z.out (λQ e=>by injection e with _ R;exact absurd R (by decide))));rw[bK,dZ];exact h5
 case done=>
  rintro D H W hD hS ⟨⟨v,d,f⟩,j⟩ E;have k2:W.cell? ⟨w.heap.size,0,ah⟩=ae v:=d.cell 0;have b:=af f;have m:=af j;have HS:=af hS;have HK:=af E;have HD:Hid (w.heap.size<=D):=by have:=y.out;unfold Hid;omega
  clear d f j hS E hD;go_wp2_with fail;refine⟨by simp,.inl ⟨_,_,rfl,run_takeDeferred HK.out,?_⟩⟩;refine Lh (p:=4) (v:=v) rfl rfl ?_;exact⟨v,H,rfl,HS.out,ownsRow_putObj b.out _ HK.out rfl,Ou m.out HD.out _⟩
 case stop=>rintro D c a W hD aa4 hF E;exact hF.elim
def xP{w:ai}{c b:Nat}{m:List (Int×Nat)}(j:cD w c 105 #[.map (ae b)])(k:ew (aS .i64) tw mK w b m)(p:m.length<=1099511627776):Calls aj 94 #[.func (.func 147) #[] #[.pointer (ae ⟨c,0,ah⟩)]] w λe d=>∃v,∃a:List Int,e=.returned v/\a.Perm (bM m)/\d.ownsRow w.heap.size 3 1 v a.length (a.map (aS .i64))/\Below w.heap.size w d:=by have f:=af (zF 147 #[.pointer (ae ⟨c,0,ah⟩)] (enters_of func147 (by kernel_rfl) rfl) _ _ m.length p w (JW 2 (by decide) c b m w j k));clear j k;go_enter func94,ntmps94;go_wp2_with fail;refine f.out.mono ?_;rintro e d ⟨v,a,rfl,g,h,i⟩;have l:=af g;have n:=af h;have o:=af i;clear g h i f;go_wp2_with fail;go_ret;exact⟨v,a,rfl,l.out,n.out,o.out⟩
end
section
open Go.RowKit Go.Sort
def Fl{c:Type}(rw:Int->List c):∀a:List Int,(∀K∈a,(rw K).length<=60)->(a.flatMap rw).length<=60 *a.length
 |[],_=>by simp|K::a,h=>by
  rw[cN,bK,ay];have d:=h K (by simp);have e:=Fl rw a λK b=>h K (by simp[b])
  omega
def Zl{T:WT}(c:T.ks.Nodup)(b:∀K∈T.ks,0<=K/\K<=255):T.ks.length<=256:=by
 have a:∀x∈T.ks,x∈(a6 256).map (λi:Nat=>(i:Int)):=λx d=>by have:=b x d;exact aI.2 ⟨x.toNat,gm.2 (by omega),by omega⟩
 have:=tq c a;simpa using this
def S5(T:WT):bM (T.ks.map λK=>(K,T.pt K))=T.ks:=by unfold bM;rw[List.map_map];exact List.map_id _
def lV(q:Query)(a:List Int)(rw:Int->List ck)(j:Nat):List ck:=((a.take j).filter λK=>fu K q).flatMap rw
def IQ(q:Query)(a:List Int)(rw:Int->List ck)(j:Nat)(h:j<a.length):lV q a rw (j+1)=if fu a[j] q=ar then lV q a rw j++rw a[j]else lV q a rw j:=by unfold lV;rw[aU h,List.filter_append,eJ];by_cases hm:fu a[j] q=ar;rw[if_pos hm];simp[hm];rw[if_neg hm];simp[hm]
def CV(a b:ck):Int:=qi a.h.1 b.h.1
def adt:SWO (ltOf CV)where
 irrefl x:=by unfold ltOf CV;simp[qM]
 trans x y z h1 h2:=by unfold ltOf CV at *;simp only[qM,decide_eq_true_eq]at *;omega
 ntrans x y z h1 h2:=by unfold ltOf CV at *;simp only[qM,decide_eq_false_iff_not]at *;omega
instance:Inhabited ck:=⟨aL⟩
def In.Xa{G:Nat->Prop}{a w:ai}{T:WT}{X:List bU}{K:Int}(b:K∈T.ks)(h:In G a (mE (T.pt K) K (T.rw K)::(X++(T.ks.erase K).map (dg T))) w):In G a (X++T.ks.map (dg T)) w:=h.perm ((dD X ((List.perm_cons_erase b).map (dg T))).trans List.perm_middle).symm
def P3(x y:ck)(w:ai):Calls aj 98 #[.agg (ints (sJ x)),.agg (ints (sJ y))] w λe w'=>e=.returned (.int .i64 (CV x y))/\∃q j,w'=Sort.grow (w.drewN q) j:=by
 have c:Hid ((ints (sJ x))[0]? =ae (.int .i64 x.h.1)):=rfl;have d:Hid ((ints (sJ y))[0]? =ae (.int .i64 y.h.1)):=rfl;have h:Hid (CV x y=qi x.h.1 y.h.1):=rfl;generalize CV x y=l at *;generalize x.h.1=f at *;generalize y.h.1=g at *;generalize sJ x=a at *;generalize sJ y=b at *;go_enter func98,ntmps98;go_upto_region 1 with(fail)
 have m:((w.alloc (.cells (ints a) 50)).alloc (.cells (ints b) 50)).cell? ⟨w.heap.size,0,ah⟩=ae (.int .i64 f):=(((cD.new w 50 (ints a)).alloc _).cell 0).trans c.out;have n:((w.alloc (.cells (ints a) 50)).alloc (.cells (ints b) 50)).cell? ⟨w.heap.size+1,0,ah⟩=ae (.int .i64 g):=by have:=cD.new (w.alloc (.cells (ints a) 50)) 50 (ints b);rw[cR]at this;exact(this.cell 0).trans d.out
 have i:Hid (((w.alloc (.cells (ints a) 50)).alloc (.cells (ints b) 50))=Sort.grow w #[.cells (ints a) 50,.cells (ints b) 50]):=by unfold Hid;rw[Sort.alloc_eq_grow,Sort.alloc_eq_grow,Sort.grow_grow];rfl
 change Code.wp _ _ _ _ ((w.alloc (.cells (ints a) 50)).alloc (.cells (ints b) 50));generalize ((w.alloc (.cells (ints a) 50)).alloc (.cells (ints b) 50))=k at *;clear c d;go_wp2_with fail;refine(uU f g k).mono ?_;rintro e o ⟨rfl,rfl⟩;go_wp2_with fail;go_ret;refine⟨eH h.out.symm,0,#[.cells (ints a) 50,.cells (ints b) 50],?_⟩;rw[i.out];rfl
section
variable{G:Nat->Prop} {Z w:ai} {l:List bU}
def T6{v:ak}{i:List ck}(h:In G Z (cm v i::l) w)(t:i.length<=1099511627776):Calls aj 97 #[v,.func (.func 98) #[] #[]] w λe w'=>e=.returned (.tuple #[])/\∃f:List ck,f.Perm i/\(f.Pairwise λa b=>¬b.h.1<a.h.1)/\In G Z (cm v f::l) w':=by
 have k:∀x,∀u∈xF x,u.oneCell'=ar:=λx u r=>by obtain⟨y,_,rfl⟩:=aI.1 r;rfl
 have n:∀blk d size w,CmpLays aj 98 #[] xF 11 CV blk d size w:=λblk d size w m s j _ x y=>P3 x y (sortWorldK xF 11 w blk d m j s)
 have o:∀args w,(callFunc 98 args).run aj w=.ok (.enter 98 args) w:=enters_of func98 (by kernel_rfl) rfl;have c:=Gq (ρ:=yC) (enc:=xF) JJ Tryz.isAgg50 Tryz.sizeOf50 Ba k CV adt 98 o n 50 h (by omega);change Calls aj 97 _ _ _ at c;refine c.mono ?_;rintro e w' ⟨rfl,f,hp,q,p⟩;exact⟨rfl,f,hp,q.imp λ{a b} h g=>by unfold CV at h;rw[decide_eq_false_iff_not,qM]at h;exact h g,p⟩
end
end
section
open Go.RowKit
def BJ:yF.list=[0,0,0]:=rfl
def xq(k:Int):fu k yF=ar:=by exact FA k
def ER:jN yF=0:=by decide
noncomputable instance:DecidableEq ck:=λa b=>Classical.propDecidable (a=b)
section
variable{Z:List (Int×Bool)} {f:BF}
def MO(h:nl Z f){r:ck}(d:r∈lB Z f):r.b.v.length=8/\bT r.b=0/\eh Z r.h.1 r.h.2=ar/\f r.h.1=ae (r.h.2,r.b):=by have a:=(lF h).1 d;obtain⟨b,c⟩:=h.bo _ _ _ a;exact⟨c,b,(h.lv _ _).2 ⟨_,a⟩,a⟩
def Oq(h:nl Z f){r:ck}(e:r∈lB Z f):∃s:Nat,r.h.1=(s:Int)/\s<Z.length/\(db Z).getD s 0=r.h.2:=by obtain⟨_,_,d,_⟩:=MO h e;obtain⟨k,c,a,b⟩:=q9 d;refine⟨k,c,a,?_⟩;rw[qU,bq,dx,aq a];rw[bq,aq a]at b;simp only[bI]at b;simp[b]
def qT(Z:List (Int×Bool)):(db Z).length=Z.length:=by rw[qU,bu]
def vC(h:nl Z f):(lB Z f).length<=60:=by have:=P5 Z f yF;rw[Bd xq]at this;have:=h.so.1;omega
end
section
variable{G:Nat->Prop} {Z w:ai} {l:List bU} {v u:ak}
def wM{a:List ck}(h:In G Z (cm v a::l) w):∃A c,v=.slice A a.length c/\a.length<=c/\c<=maxLen/\gn w w.heap.size 11 A (a.map sJ)/\(0<a.length->∃g,A=ae ⟨g,0,ah⟩):=vg (f:=sJ) (λ_=>rfl) Jw h.rowAt
def YA{a b:List ck}(h:In G Z (cm v a::l) w){r:List bU}{m:Nat->Prop}{g:ai}(o:In m g (cm u b::r) w):Calls aj 34 #[v,u] w λe w'=>e=.returned (.bool (decide (a.map sJ=b.map sJ)))/\Below w.heap.size w w':=by obtain⟨A,c,rfl,p,q,f,_⟩:=wM h;obtain⟨k,n,rfl,i,j,d,_⟩:=wM o;have:=OJ A k c n (a.map sJ) (b.map sJ) w f d (by rw[bu];omega) (by rw[bu];omega);rw[bu,bu]at this;exact this
def RJ{a b:List ck}(h:In G Z (cm v a::l) w){g:List bU}{d:Nat->Prop}{c:ai}(f:In d c (cm u b::g) w)(e:a=b):Calls aj 34 #[v,u] w λe w'=>e=.returned (.bool ar)/\Below w.heap.size w w':=by have:=YA h f;rw[decide_eq_true (by rw[e])]at this;exact this
end
end
section
open Go.RowKit Go.Sort
section
variable{G:Nat->Prop} {Z w:ai} {l:List bU} {p Y:Nat} {W:List (Int×Bool)} {f:BF}
def Jz(h:In G Z (jY p Y W f::l) w)(hk:nl W f)(q:Query):Calls aj 42 #[.pointer (ae ⟨p,0,ah⟩),.agg (ints q.list)] w λe w'=>∃v,e=.returned (.tuple #[v,.int .i64 (jN q)])/\In G Z (cm v (if jN q=0 then tD W f q else [])::jY p Y W f::l) w':=by
 have GX:=af h;have HK:=af hk;clear h hk;obtain⟨qe,hqe⟩:∃x,jN q=x:=⟨_,rfl⟩;rw[hqe];have HQE:=af hqe;clear hqe;go_enter func42,ntmps42;go_upto_region 1 with(fail)
 refine b9 (In G Z (jY p Y W f::a8 w.heap.size 52 (ints q.list)::l)) ((GX.out.alloc 52 (ints q.list)).swap) ?_;generalize w.heap.size=t;intro w1 YL;have q1:row? w1 t 0 3=ae (ints q.list):=YL.swap.blk.bw rfl;have MI:=af YL;clear YL GX;go_wp2_with fail;refine(oV q w1).mono ?_;rintro e w2 ⟨rfl,uE⟩;rw[HQE.out];have QH:=af (MI.out.below uE);clear uE MI q1;by_cases hq:qe=0
 case neg=>
  have HQ:=af hq;go_wp2_with fail
  go_ret2
  refine⟨.slice ah 0 0,rfl,?_⟩;exact QH.out.swap.drop.sc _ _
 case pos=>
  subst hq;clear HQE;obtain⟨d,n,T,hT,J⟩:=QH.out.lX;have L:In G Z (a8 p 108 #[.pointer (ae ⟨Y,0,ah⟩),.map (ae d),.map (ae n)]::b8 Y W::PtrMap d (T.ks.map λK=>(K,T.pt K))::bB n T.ps::a8 t 52 (ints q.list)::(l++T.ks.map (dg T))) w2:=J;have VH:∀K∈T.ks,(0<=K/\K<=255)/\∀r∈T.rw K,r.b.k=K:=λK hK=>wU (In.wB (X:=a8 p 108 #[.pointer (ae ⟨Y,0,ah⟩),.map (ae d),.map (ae n)]::b8 Y W::PtrMap d (T.ks.map λK=>(K,T.pt K))::bB n T.ps::a8 t 52 (ints q.list)::l) L hK)
  have HKD:=af VH;have HT:=af hT;have HKL:=af (Zl hT.nd λK hK=>(VH K hK).1);have Ko:=af L;have k0:w2.cell? ⟨p,1,ah⟩=ae (.map (ae d)):=L.blk.cell 1;clear hT J L VH QH;go_wp2_with fail;refine(Qn d w2).mono ?_;rintro e w3 ⟨rfl,rfl⟩;have M:=(Ko.out.alloc 105 #[.map (ae d)]);have R:=xP (m:=T.ks.map λK=>(K,T.pt K)) M.blk (M.fourth.gZ) (by rw[bu];have:=HKL.out;omega);have N:=af R;have EV:=af M.drop;clear M R Ko k0;generalize w2.alloc (.cells #[.map (ae d)] 105)=w3 at *;go_wp2_with fail;refine N.out.mono ?_;rintro e w4 ⟨v4,c,rfl,hp,ho,hb⟩;rw[S5]at hp;have HP:=af hp;have hyl:c.length<=256:=by rw[hp.length_eq];exact HKL.out
  have o:Hid (In G Z (cm (.slice ah 0 0) []::cI v4 c::a8 p 108 #[.pointer (ae ⟨Y,0,ah⟩),.map (ae d),.map (ae n)]::b8 Y W::PtrMap d (T.ks.map λK=>(K,T.pt K))::bB n T.ps::a8 t 52 (ints q.list)::(l++T.ks.map (dg T))) w4):=(EV.out.uf ho hb).sc _ _;obtain⟨A4,I,rfl,_⟩:=o.out.swap.ku;clear ho hb N EV hp;obtain⟨i0,D2,D4,D5,Cy⟩:=info_parts P2;have hyi:(c.length:Int)<=256:=by omega
  go_wp2_with fail;go_loopw [26,7] (λi v w'=>∃j:Nat,j<=c.length/\i=.int .i64 j/\In G Z (cm v (lV q c T.rw j)::cI (.slice A4 c.length I) c::a8 p 108 #[.pointer (ae ⟨Y,0,ah⟩),.map (ae d),.map (ae n)]::b8 Y W::PtrMap d (T.ks.map λK=>(K,T.pt K))::bB n T.ps::a8 t 52 (ints q.list)::(l++T.ks.map (dg T))) w') (λi _ _=>c.length-(intOf i).toNat)
  case atStart=>exact⟨0,by omega,rfl,o.out⟩
  clear o;obtain⟨j,hj,rfl,J⟩:=hrel;have B:=af J;obtain⟨A5,c5,hA5,hr5⟩:=J.swap.ku;injection hA5 with e1 e2 e3;subst e1;subst e3;have HR5:=af hr5;clear J hr5 e2;by_cases l6:j<c.length
  ·have hji:(j:Int)<c.length:=by omega
   obtain⟨g,o2,rfl,YW,ad7,hc2⟩:=HR5.out.at_ (k:=j) l6;have H:=af (IQ q c T.rw j l6);have hKm:c[j]∈T.ks:=HP.out.mem_iff.1 (aR l6);generalize c[j]=K at *;have A:=af hKm;have q1:row? wr t 0 3=ae (ints q.list):=(B.out.nth 6 (by simp)).blk.bw rfl;clear HR5 hKm;go_wp2_with fail;refine(Ao K q wr).mono ?_;rintro e w5 ⟨rfl,hb5⟩;have o:=af (B.out.below hb5);clear hb5 q1 hc2 B;cases hm:fu K q with
   |false=>
    rw[if_neg (by rw[hm];simp)]at H;clear hm;go_wp2_with fail;go_roundw
    case rel=>exact⟨j+1,by omega,by go_num,by rw[H.out];exact o.out⟩
    simp[intOf];omega
   |true=>
    rw[if_pos hm]at H;clear hm;have k1:w5.cell? ⟨p,1,ah⟩=ae (.map (ae d)):=(o.out.third).blk.cell 1;have U:=(o.out.nth 4 (by simp)).gZ;have UH:=wq U A.out (HKD.out K A.out).1 (Below.refl _ _);clear U;have Y3:=HT.out.pq A.out;have Q8:Hid (In G Z (mE (T.pt K) K (T.rw K)::cm u7 (lV q c T.rw j)::cI (.slice (ae ⟨g,o2,ah⟩) c.length I) c::a8 p 108 #[.pointer (ae ⟨Y,0,ah⟩),.map (ae d),.map (ae n)]::b8 Y W::PtrMap d (T.ks.map λK=>(K,T.pt K))::bB n T.ps::a8 t 52 (ints q.list)::l++(T.ks.erase K).map (dg T)) w5):=In.wB (X:=cm u7 (lV q c T.rw j)::cI (.slice (ae ⟨g,o2,ah⟩) c.length I) c::a8 p 108 #[.pointer (ae ⟨Y,0,ah⟩),.map (ae d),.map (ae n)]::b8 Y W::PtrMap d (T.ks.map λK=>(K,T.pt K))::bB n T.ps::a8 t 52 (ints q.list)::l) o.out A.out;have HH:=af (tI Q8.out (by omega));go_wp2_with fail;refine HH.out.mono ?_;rintro e w6 ⟨hv,rfl,ho,KZ,UC⟩;obtain⟨A6,c6,rfl,_,_,_⟩:=cu ho;have EX:Hid (In G Z (cm u7 (lV q c T.rw j++(T.rw K).take 0)::mE (T.pt K) K (T.rw K)::cI (.slice (ae ⟨g,o2,ah⟩) c.length I) c::a8 p 108 #[.pointer (ae ⟨Y,0,ah⟩),.map (ae d),.map (ae n)]::b8 Y W::PtrMap d (T.ks.map λK=>(K,T.pt K))::bB n T.ps::a8 t 52 (ints q.list)::l++(T.ks.erase K).map (dg T)) w6):=by rw[List.take_zero,eM];exact UC.swap
    clear ho KZ UC Q8 o HH k1 UH;have hvl:∀r∈T.rw K,r.b.v.length=8:=λr hr=>by obtain⟨i,hi,hir⟩:=dn.1 hr;obtain⟨h1,_⟩:=HT.out.at_ K A.out i r (by rw[aq hi,hir]);exact(HT.out.ok _ _ _ h1).2.1
    have HVL:=af hvl;have XK:(lV q c T.rw j).length<=60 *((c.take j).filter λK=>fu K q).length:=Fl T.rw _ λK' hK'=>HT.out.pq (HP.out.mem_iff.1 (List.mem_of_mem_take (cc.1 hK').1))
    have C:((c.take j).filter λK=>fu K q).length<=256:=be (List.length_filter_le _ _) (by rw[dH];omega);have HML:Hid ((lV q c T.rw j).length<=15360):=by unfold Hid;omega
    clear hvl XK C;generalize lV q c T.rw j=done at *;have hri:((T.rw K).length:Int)<=60:=by omega
    go_wp2_with fail;go_loopw [43,7] (λi v w'=>∃k:Nat,k<=(T.rw K).length/\i=.int .i64 k/\In G Z (cm v (done++(T.rw K).take k)::mE (T.pt K) K (T.rw K)::cI (.slice (ae ⟨g,o2,ah⟩) c.length I) c::a8 p 108 #[.pointer (ae ⟨Y,0,ah⟩),.map (ae d),.map (ae n)]::b8 Y W::PtrMap d (T.ks.map λK=>(K,T.pt K))::bB n T.ps::a8 t 52 (ints q.list)::l++(T.ks.erase K).map (dg T)) w') (λi _ _=>(T.rw K).length-(intOf i).toNat)
    case atStart=>exact⟨0,by omega,rfl,EX.out⟩
    clear EX;obtain⟨k,hk,rfl,J⟩:=hrel;have B:=af J;clear J;by_cases hkl:k<(T.rw K).length
    ·have K1:(k:Int)<(T.rw K).length:=by omega
     have HRR:Hid (tC (T.rw K) (k:Int)=((T.rw K)[k],0)):=by unfold Hid tC lu;have h1:decide (0<=(k:Int))=ar:=decide_eq_true (by omega);have h2:decide ((k:Int)<((T.rw K).length:Nat))=ar:=decide_eq_true (by omega);rw[h1,h2,Int.toNat_natCast,bq,aq hkl];rfl
     have HR:=af (W8 B.out.swap (k:Int) (by omega));rw[HRR.out]at HR;have HTK:Hid (done++(T.rw K).take (k+1)=(done++(T.rw K).take k)++[(T.rw K)[k]]):=by unfold Hid;rw[aU hkl,cM]
     have E:((T.rw K)[k]).list.length=11:=by have h8:=HVL.out _ (aR hkl);simp[ck.list,aN.list,h8]
     have HRC:Hid (xF (T.rw K)[k]=((T.rw K)[k]).list.map (aS .i64)):=by unfold Hid xF sJ;rw[M2 E]
     have Sr:(done++(T.rw K).take k).length<=20000:=by rw[bK,dH];have:=HML.out;omega
     generalize (T.rw K)[k]=r at *;have O:=af E;generalize Zg:r.list=xs at *;generalize done++(T.rw K).take k=cur at *;clear E Zg;have hxl:xs.length=11:=O.out;go_wp2_with fail;refine HR.out.mono ?_;rintro e w8 ⟨rfl,_,O0⟩;have QI:=af O0.swap;clear O0 HR B HRR;go_upto_region 14 with(fail)
     refine b9 (In G Z (a8 w8.heap.size 50 (ints xs)::cm u7 cur::mE (T.pt K) K (T.rw K)::cI (.slice (ae ⟨g,o2,ah⟩) c.length I) c::a8 p 108 #[.pointer (ae ⟨Y,0,ah⟩),.map (ae d),.map (ae n)]::b8 Y W::PtrMap d (T.ks.map λK=>(K,T.pt K))::bB n T.ps::a8 t 52 (ints q.list)::l++(T.ks.erase K).map (dg T))) (QI.out.struct 50 [0,0,0,0,0,0,0,0,0,0,0] xs hxl) ?_;generalize w8.heap.size=rb;intro w9 s;have d3:row? w9 rb 0 11=ae (ints xs):=s.blk.bw hxl;have F:=af s.drop;have HOW:=af s.drop.rowAt;have V:∀u∈xs.map (aS .i64),u.oneCell'=ar:=by intro u hu;obtain⟨y,_,rfl⟩:=aI.1 hu;rfl
     have acA:=af V;clear s V QI;go_wp2_with (at_builtin;go_loud (refine ep rfl _ _ _ rfl 0 50 i0 _ 11 88 underlying33 D2 D4 D5 Cy rfl (by decide) _ cur.length _ rfl HOW.out (xs.map (aS .i64)) rfl (by rw[bu];exact O.out) acA.out (by unfold maxLen;omega) (by omega) (bF _) ?_));intro v' w10 D hg7 Q;have z:=In.vD F.out D hg7 Q;have P:In G Z (cm v' (cur++[r])::mE (T.pt K) K (T.rw K)::cI (.slice (ae ⟨g,o2,ah⟩) c.length I) c::a8 p 108 #[.pointer (ae ⟨Y,0,ah⟩),.map (ae d),.map (ae n)]::b8 Y W::PtrMap d (T.ks.map λK=>(K,T.pt K))::bB n T.ps::a8 t 52 (ints q.list)::l++(T.ks.erase K).map (dg T)) w10:=by unfold cm;rw[bK,eJ,cN,List.flatMap_nil,eM,HRC.out];exact z
     have Q7:=af P;clear D hg7 Q z P d3 F HOW;go_wp2_with fail;go_roundw
     case rel=>exact⟨k+1,by omega,by go_num,by rw[HTK.out];exact Q7.out⟩
     simp[intOf];omega
    have XH:k=(T.rw K).length:=by omega
    subst XH;rw[cE,<-H.out]at B;have acJ:In G Z (mE (T.pt K) K (T.rw K)::(cm u7 (lV q c T.rw (j+1))::cI (.slice (ae ⟨g,o2,ah⟩) c.length I) c::a8 p 108 #[.pointer (ae ⟨Y,0,ah⟩),.map (ae d),.map (ae n)]::b8 Y W::PtrMap d (T.ks.map λK=>(K,T.pt K))::bB n T.ps::a8 t 52 (ints q.list)::l++(T.ks.erase K).map (dg T))) wr:=B.out.swap;go_wp2_with fail;go_roundw
    case rel=>exact⟨j+1,by omega,by go_num,In.Xa (X:=cm u7 (lV q c T.rw (j+1))::cI (.slice (ae ⟨g,o2,ah⟩) c.length I) c::a8 p 108 #[.pointer (ae ⟨Y,0,ah⟩),.map (ae d),.map (ae n)]::b8 Y W::PtrMap d (T.ks.map λK=>(K,T.pt K))::bB n T.ps::a8 t 52 (ints q.list)::l) A.out acJ⟩
    simp[intOf];omega
  have hjm:j=c.length:=by omega
  subst hjm;have HMA:Hid (lV q c T.rw c.length=(c.filter λK=>fu K q).flatMap T.rw):=by unfold Hid lV;rw[cE]
  have XK:((c.filter λK=>fu K q).flatMap T.rw).length<=60 *(c.filter λK=>fu K q).length:=Fl T.rw _ λK' hK'=>HT.out.pq (HP.out.mem_iff.1 (cc.1 hK').1)
  have C:(c.filter λK=>fu K q).length<=256:=be (List.length_filter_le _ _) (by omega);rw[HMA.out]at B;have SB:=T6 B.out (by omega);have HSO:=af SB;clear SB XK C;go_wp2_with fail;refine HSO.out.mono ?_;rintro e w8 ⟨rfl,zs,hzp,hzs,s⟩;have S:zs=tD W f q:=JV HT.out HK.out (λK hK=>(HKD.out K hK).2) q HP.out hzp (hzs.imp λ{a b} h=>by omega);rw[S]at s;have F:=af s;clear s S hzp hzs HSO B HMA;go_wp2_with fail
  go_ret2
  refine⟨_,rfl,?_⟩;have z:=F.out.swap.drop;exact(In.pw (l:=a8 t 52 (ints q.list)::cm u7 (tD W f q)::l) HT.out (z.reorder 6 [1,2,3,4,5,0] rfl (by simp))).swap.drop.swap
def Ip(h:In G Z (jY p Y W f::l) w)(j:W.length<=60):Calls aj 43 #[.pointer (ae ⟨Y,0,ah⟩)] w λe w'=>∃A c,e=.returned (.slice A W.length c)/\In G Z (cI (.slice A W.length c) (db W)::jY p Y W f::l) w':=by obtain⟨o,n,T,m,d⟩:=h.lX;obtain⟨b,g⟩:=d.swap.head;refine(Se Y W b w g j).mono ?_;rintro e w' ⟨v,rfl,k,i⟩;have a:=h.uf k i;obtain⟨A,c,rfl,_⟩:=a.ku;rw[qT]at a|-;exact⟨A,c,rfl,a⟩
def Yz{A f:Option Addr}{n c g:Nat}{b:List Int}(k:n<=maxLen)(h:In G Z (cI (.slice A n c) b::l) w){t:List bU}{o:Nat->Prop}{i:ai}(s:In o i (cI (.slice f n g) b::t) w):Calls aj 17 #[.slice A n c,.slice f n g] w λe w'=>e=.returned (.bool ar)/\w=w':=by obtain⟨B,d,e,m⟩:=h.ku;obtain⟨u,v,p,a⟩:=s.ku;injection e with q j x;injection p with r y z;subst q;subst r;rw[<-j]at m;rw[<-j]at a;have:=Vo A f n n c g b b w w.heap.size w.heap.size m a k k;rw[decide_eq_true rfl]at this;exact this
def In.WS(h:In G Z (jY p Y W f::l) w):w.cell? ⟨p,0,ah⟩=ae (.pointer (ae ⟨Y,0,ah⟩)):=by obtain⟨d,c,T,b,a⟩:=h.lX;exact a.blk.cell 0
end
end
section
open Go.RowKit
def pj{G:Nat->Prop}{o w:ai}{l:List bU}{A:Option Addr}{n c:Nat}{a:List ck}(h:In G o (cm (.slice A n c) a::l) w){k:Nat}(b:k<a.length)(j:a[k].b.v.length=8):∃g,A=ae ⟨g,0,ah⟩/\row? w g (k *11) 11=ae (ints (ck.list a[k])):=by obtain⟨p,q,e,_,_,m⟩:=h.TN;injection e with d r s;subst d;obtain⟨g,f,i⟩:=m k b;refine⟨g,f,?_⟩;rw[i,bq,aq b,bI,NG j]
def Lc(z:ZS)(a:List Hd)(k:Nat)(h:k<a.length):sB z (a.take (k+1))=yk (sB z (a.take k)) a[k]:=by unfold sB;rw[aU h,List.foldl_append];rfl
section
variable{G:Nat->Prop} {Z w:ai} {l:List bU} {p:Nat} {z:ZS}
def In.Zk{b a:Nat}{m:ja}{z:ZS}{x:Hd}(d:jT z)(hm:dA m=z.B)(c:jA m)(h:In G Z (jy a (nH m x)::dI b (mL z.ls z.f x).1.1 (mL z.ls z.f x).1.2::vw p b a::l) w):In G Z (cA p (yk z x)::l) w:=by refine In.lK (z:=yk z x) (m:=nH m x) ?_ (h.third.perm ((cy _ _ _).cons _));rw[zI c.nodup,hm];rfl
def J8(h:In G Z (cA p z::l) w)(hk:jT z)(x:Hd):Calls aj 65 #[ptr p,mv x] w λe w'=>e=.returned (.int .i64 (qY z x).2)/\In G Z (cA p (qY z x).1::l) w':=by
 have H0:=af h;have HK:=af hk;clear h hk;obtain⟨i0,D2,D4,D5,Cy⟩:=info_parts lC;obtain⟨a,b⟩:=x;rw[jI];go_enter func65,ntmps65;go_upto_region 1 with(fail)
 refine b9 (In G Z (a8 w.heap.size 43 (ints [a,b])::cA p z::l)) (H0.out.alloc 43 (ints [a,b])) ?_;generalize w.heap.size=P;intro L f;have q2:∀n:After L,row? n.w P 0 2=ae (ints [a,b]):=λn=>(f.blk.after n.below).bw rfl
 obtain⟨X,V,m,hm,J,W,o⟩:=f.swap.jC;have q3:∀n:After L,n.w.cell? ⟨p,0,ah⟩=ae (ptr X):=λn=>(o.blk.after n.below).cell 0
 obtain⟨sp,F,q4,hS⟩:=o.swap.slotsOf;have HL:Hid (∀n:After L,Calls aj 72 #[.pointer (ae ⟨sp,0,ah⟩),.agg (ints [a,b])] n.w λe w'=>e=.returned (.bool (z.live (a,b)))/\Below n.w.heap.size n.w w'):=λn=>o4 sp z.ls F a b n.w (hS n)
 have M:=af f;clear f o hm J W hS H0;cases v:z.live (a,b)with
 |false=>
  have HR:Hid (qY z (a,b)=(z,7)):=by unfold Hid qY;rw[v];rfl
  rw[v]at HL;refine bV (by kernel_rfl) (by kernel_rfl) ?_;repeat(go_big_quiet_step ((go_at_call 72;exact fH (HL.out _))))
  refine wpQuiet_nil ?_;rintro _ ⟨n,rfl⟩;have C:=af (M.out.below n.below);go_wp2_with fail;go_ret;rw[HR.out];exact⟨rfl,C.out.drop⟩
 |true=>
  have HR:Hid (qY z (a,b)=(sB z (yl z (a,b)),0)):=by unfold Hid qY;rw[if_pos v]
  rw[v]at HL;clear v;refine bV (by kernel_rfl) (by kernel_rfl) ?_;repeat(go_big_quiet_step ((go_at_call 72;exact fH (HL.out _))))
  refine wpQuiet_nil ?_;rintro _ ⟨n,rfl⟩;have Q:=M.out.below n.below;obtain⟨X,V,m,hm,J,W,j⟩:=Q.swap.jC;generalize n.w=B at *;have S:row? B P 0 2=ae (ints [a,b]):=Q.blk.bw rfl;have k2:B.cell? ⟨p,1,ah⟩=ae (ptr V):=j.blk.cell 1;have s:Hid (In G Z (jy V m::vw p X V::dI X z.ls z.f::a8 P 43 (ints [a,b])::l) B):=j.third;have XK:m.length<=60:=by rw[<-Dv m,hm];exact HK.out.len
  have HU:Hid (under m (a,b)=under z.B (a,b)):=Alike.under J HK.out.qk W _;have HM:=af hm;have Y:=af J;clear Q j hm J W q2 q3 q4 HL M;go_upto_region 3 with(fail)
  go_still_tail 5,(by kernel_rfl)
  change wpList _ _ _ _ _ B.drew;have t:=af s.out.drew;clear s S k2;generalize B.drew=w6 at *;go_wp2_with fail;refine(OU t.out (by omega) (a,b)).mono ?_;rintro e w7 ⟨uv,rfl,u⟩;have hul:=xR Y.out.nodup Y.out.sG (a,b);have QI:=af u;clear u t;go_wp2_with fail;refine(Ju QI.out (by omega)).mono ?_;rintro e w8 ⟨rfl,d⟩;rw[HU.out]at d hul;have VJ:(under z.B (a,b)).reverse.length=(under z.B (a,b)).length:=List.length_reverse;have HO:=af d.rowAt;have S:row? w8 P 0 2=ae (ints [a,b]):=(d.nth 4 (by simp)).blk.bw rfl;have D:=af d;clear d QI HU;generalize hus:(under z.B (a,b)).reverse=us at *;have aei:us.length<=60:=by omega
  clear VJ;have N:Hid (yl z (a,b)=us++[(a,b)]):=by unfold Hid yl;rw[hus]
  clear hus;go_wp2_with (at_builtin;go_loud (refine ep rfl _ _ 122 rfl 0 43 i0 _ 2 16 underlying122 D2 D4 D5 Cy rfl (by decide) uv us.length (us.flatMap hC) rfl HO.out [.int .i64 a,.int .i64 b] rfl rfl (by simp[fX]) ?_ ?_ (bF _) ?_))
  case refine_1=>unfold maxLen;omega
  case refine_2=>omega
  intro v' w9 ho hg SA;have r:=In.E5 (x:=(a,b)) D.out ho hg SA;rw[<-N.out]at r;have hkl:(yl z (a,b)).length<=61:=by rw[N.out,bK,List.length_singleton];omega
  obtain⟨A,c,rfl,hc1,hc2,_⟩:=pT r.rowAt;have I:In G Z (cA p z::jz (.slice A (yl z (a,b)).length c) (yl z (a,b))::a8 P 43 (ints [a,b])::l) w9:=In.lK HM.out (r.perm (by refine List.Perm.trans (cy _ _ _) ?_;refine List.Perm.trans ((cy _ _ _).cons _) ?_;refine List.Perm.trans (cy _ _ _) ?_;refine List.Perm.cons _ ?_;refine List.Perm.trans ((cy _ _ _).cons _) ?_;exact(cy _ _ _)))
  have E:=af I;clear ho hg SA r I D HO S hul HM Y XK;generalize hks:yl z (a,b)=q at *;clear hks N;go_wp2_with fail;go_loopw [31] (λi w'=>∃k:Nat,k<=q.length/\i=.int .i64 k/\jT (sB z (q.take k))/\In G Z (cA p (sB z (q.take k))::jz (.slice A q.length c) q::a8 P 43 (ints [a,b])::l) w') (λi _=>q.length-(intOf i).toNat)
  case atStart=>exact⟨0,bF _,rfl,HK.out,E.out⟩
  clear E;obtain⟨k,hk,rfl,R,hI⟩:=hrel;by_cases l6:k<q.length
  ·have K1:(k:Int)<q.length:=by omega
   obtain⟨A',c',e0,_,hkc,K⟩:=pT hI.swap.rowAt;injection e0 with e1 e2 e3;subst e1;subst e3;obtain⟨g,rfl,q1⟩:=K k l6;have HS:=af (Lc z q k l6);have aaY:(q.length:Int)<=c:=by omega
   have HI:=af hI;have O:=af R;clear K e2 hI R;generalize q[k]=y at *;obtain⟨T,U⟩:=y;generalize sB z (q.take k)=zk at *;go_upto_region 8 with(fail)
   refine b9 (In G Z (a8 wr.heap.size 43 (ints [T,U])::cA p zk::jz (.slice (ae ⟨g,0,ah⟩) q.length c) q::a8 P 43 (ints [a,b])::l)) (HI.out.struct 43 [0,0] [T,U] rfl) ?_;generalize wr.heap.size=yb;intro L f;obtain⟨X,V,m,hm,J,W,o⟩:=f.swap.jC;have S:row? L yb 0 2=ae (ints [T,U]):=f.blk.bw rfl;have k2:L.cell? ⟨p,0,ah⟩=ae (ptr X):=o.blk.cell 0;have HM:=af hm;have Y:=af J;have EV:=af o.swap;clear f o hm J W HI q1
   go_still_tail 5,(by kernel_rfl)
   change wpList _ _ _ _ _ L.drew;have C:=af EV.out.drew;clear EV S k2;generalize L.drew=w4 at *;go_wp2_with fail;refine(VU C.out O.out.w T U).mono ?_;rintro e B ⟨rfl,j⟩;have S:row? B yb 0 2=ae (ints [T,U]):=(j.nth 3 (by simp)).blk.bw rfl;have k2:B.cell? ⟨p,1,ah⟩=ae (ptr V):=j.swap.blk.cell 1;have s:=af j.third;clear j C;go_upto_region 9 with(fail)
   go_still_tail 5,(by kernel_rfl)
   change wpList _ _ _ _ _ B.drew;have t:=af s.out.drew;clear s S k2;generalize B.drew=w6 at *;go_wp2_with fail;refine(R6 t.out (T,U)).mono ?_;rintro e w7 ⟨rfl,u⟩;have d:=In.Zk O.out HM.out Y.out u;rw[<-HS.out]at d;have D:=af d;have H:=af (O.out.yk (T,U));rw[<-HS.out]at H;clear u d t;go_wp2_with fail;go_roundw
   case rel=>exact⟨k+1,by omega,by go_num,H.out,D.out.swap.drop⟩
   simp[intOf];omega
  have:k=q.length:=by omega
  subst this;have HI:=af hI;rw[cE]at HI;clear hI R;go_wp2_with fail;go_ret;rw[HR.out];exact⟨rfl,HI.out.swap.drop.swap.drop⟩
end
def pU{w:ai}{g a o c n:Nat}{x:Array ak}{d:List Int}(b:g≠a)(h:row? w g o n=ae x):row? (putRow w a c d) g o n=ae x:=by unfold row? at *;rw[fz w a c d g b];exact h
def cell_far{w:ai}{g a o c:Nat}{x:ak}{d:List Int}(b:g≠a)(h:w.cell? ⟨g,o,ah⟩=ae x):(putRow w a c d).cell? ⟨g,o,ah⟩=ae x:=by unfold b3 at *;simp only[fz w a c d g b];exact h
def rW{w:ai}{g o n c:Nat}{d:List Int}(h:fits w g o n=ar)(a:fits w g c d.length=ar):fits (putRow w g c d) g o n=ar:=by unfold fits at *;split at h;rename_i e t b;rw[b]at a;simp only[decide_eq_true_eq]at h a;simp[putRow,br,b];omega;cases h
def Xv(z:ZS)(o:ft)(h:o.d=1):sK z o=(⟨(fL z.ls z.f o.b).1.1,(fL z.ls z.f o.b).1.2,z.B⟩,(fL z.ls z.f o.b).2.1,(fL z.ls z.f o.b).2.2):=by unfold sK;rw[if_pos h]
def aaE(z:ZS)(o:ft)(h:o.d=2):sK z o=((qY z o.a).1,(0,0),(qY z o.a).2):=by unfold sK;rw[if_neg (by omega),if_pos h]
def aaF(z:ZS)(o:ft)(h:o.d=3):sK z o=(⟨z.ls,(rq z.ls z.f o.a o.k o.n).1,z.B⟩,(0,0),(rq z.ls z.f o.a o.k o.n).2):=by unfold sK;rw[if_neg (by omega),if_neg (by omega),if_pos h]
def aaG(z:ZS)(o:ft)(h:o.d=4):sK z o=(⟨z.ls,(oX z.ls z.f o.a o.k).1,z.B⟩,(0,0),(oX z.ls z.f o.a o.k).2):=by unfold sK;rw[if_neg (by omega),if_neg (by omega),if_neg (by omega),if_pos h]
def aaH(z:ZS)(o:ft)(h:o.d=5):sK z o=((qd z o.a o.t).1,(0,0),(qd z o.a o.t).2):=by unfold sK;rw[if_neg (by omega),if_neg (by omega),if_neg (by omega),if_neg (by omega),if_pos h]
def aaI(z:ZS)(o:ft)(h:o.d=6):sK z o=((nu z o.a).1,(0,0),(nu z o.a).2):=by unfold sK;rw[if_neg (by omega),if_neg (by omega),if_neg (by omega),if_neg (by omega),if_neg (by omega),if_pos h]
def aaJ(z:ZS)(o:ft)(h:o.d≠1/\o.d≠2/\o.d≠3/\o.d≠4/\o.d≠5/\o.d≠6):sK z o=(z,(0,0),1):=by unfold sK;rw[if_neg h.1,if_neg h.2.1,if_neg h.2.2.1,if_neg h.2.2.2.1,if_neg h.2.2.2.2.1,if_neg h.2.2.2.2.2]
section
variable{G:Nat->Prop} {Z w:ai} {l:List bU} {p:Nat} {z:ZS}
def Z6(h:In G Z (cA p z::l) w)(hk:jT z)(o:ft)(hv:o.b.v.length=8):Calls aj 28 #[ptr p,.agg (ints o.list)] w λe w'=>e=.returned (.tuple #[.agg (ints [(sK z o).2.1.1,(sK z o).2.1.2]),.int .i64 (sK z o).2.2])/\In G Z (cA p (sK z o).1::l) w':=by
 have H0:=af h;have HK:=af hk;have HV8:=af hv;have YH:o.list.length=16:=ft.len hv;have hp:p<w.heap.size:=by obtain⟨N,P,m,_,_,_,hI⟩:=h.jC;exact hI.blk.lt
 clear h hk hv;go_enter func28,ntmps28;have hft:fits (((w.alloc (.cells (ints o.list) 74)).alloc (.cells #[.int .i64 0,.int .i64 0] 43)).alloc (.cells #[.int .i64 0,.int .i64 0] 43)) (w.heap.size+1+1) 0 2=ar:=by have I:=(((H0.out.alloc 74 (ints o.list)).alloc 43 (ints [0,0])).alloc 43 (ints [0,0])).blk.fits 0 2 (by rw[bN];simp);simp only[cR]at I;exact I
 go_upto_region 2 with(fail)
 refine b9 (In G Z (a8 (w.heap.size+1+1) 43 (ints [0,0])::a8 (w.heap.size+1) 43 (ints [0,0])::a8 w.heap.size 74 (ints o.list)::cA p z::l)) (by have I:=H0.out.alloc 74 (ints o.list);have X:=I.alloc 43 (ints [0,0]);have h3:=X.struct 43 [0,0] [0,0] rfl;simp only[cR]at h3;exact h3) ?_
 clear hft;have v:Hid (w.heap.size+1+1≠w.heap.size+1/\w.heap.size≠w.heap.size+1/\p≠w.heap.size+1):=⟨by omega,by omega,by omega⟩;clear hp;generalize w.heap.size+1+1=nb at *;generalize w.heap.size+1=r at *;generalize w.heap.size=F at *;intro w3 J;clear H0;obtain⟨d,⟨B,u⟩,⟨b,c⟩,⟨g,i⟩,s,C⟩:=o;have hv8:u.length=8:=HV8.out;have J:=J.third;have D:(ft.list ⟨d,⟨B,u⟩,(b,c),(g,i),s,C⟩).drop 10=[b,c,g,i,s,C]:=by have:(ft.list ⟨d,⟨B,u⟩,(b,c),(g,i),s,C⟩)=([d]++(B::u))++[b,c,g,i,s,C]:=rfl;rw[this,List.drop_left' (by simp[hv8])]
 have K:(ft.list ⟨d,⟨B,u⟩,(b,c),(g,i),s,C⟩).drop 12=[g,i,s,C]:=by rw[show(12:Nat)=10+2 from rfl,<-List.drop_drop,D];rfl
 have q0:w3.cell? ⟨F,0,ah⟩=ae (.int .i64 d):=J.blk.cell 0;have qf:fits w3 r 0 2=ar:=J.third.blk.fits 0 2 (by rw[bN];simp);obtain⟨N,P,m,hm,hf,ha,yK⟩:=J.fourth.jC;have qp:w3.cell? ⟨p,0,ah⟩=ae (ptr N):=yK.blk.cell 0;have E:Hid (In G Z (cA p z::a8 r 43 (ints [0,0])::a8 F 74 (ints (ft.list ⟨d,⟨B,u⟩,(b,c),(g,i),s,C⟩))::a8 nb 43 (ints [0,0])::l) w3):=by have:=J.reorder 4 [3,2,0,1] rfl (by simp);exact this
 have V:Hid (In G Z (dI N z.ls z.f::a8 r 43 (ints [0,0])::vw p N P::jy P m::a8 F 74 (ints (ft.list ⟨d,⟨B,u⟩,(b,c),(g,i),s,C⟩))::a8 nb 43 (ints [0,0])::l) w3):=by have:=yK.reorder 6 [1,5,0,2,3,4] rfl (by simp);exact this
 have HM:=af hm;clear J yK hm hf ha;generalize hL:a8 F 74 (ints (ft.list ⟨d,⟨B,u⟩,(b,c),(g,i),s,C⟩))::a8 nb 43 (ints [0,0])::l=L at *;have HL:Hid (∀{W:ai}{A:bU},In G Z (A::L) W->In G Z (A::l) W):=by intro W A h;rw[<-hL]at h;exact h.swap.drop.swap.drop
 have HOB:Hid (∀{W:ai}{A:bU},In G Z (A::L) W->row? W F 10 2=ae (ints [b,c])/\row? W F 12 2=ae (ints [g,i])/\row? W F 1 9=ae (ints (aN.list ⟨B,u⟩))/\W.cell? ⟨F,14,ah⟩=ae (.int .i64 s)/\W.cell? ⟨F,15,ah⟩=ae (.int .i64 C)/\row? W nb 0 2=ae (ints [0,0])):=by intro W A h;rw[<-hL]at h;have hb:=h.swap.blk;refine⟨?_,?_,?_,?_,?_,h.third.blk.bw rfl⟩;rw[hb.ei 10 2 (by omega),D];rfl;rw[hb.ei 12 2 (by omega),K];rfl;rw[hb.ei 1 9 (by omega)];have:(ft.list ⟨d,⟨B,u⟩,(b,c),(g,i),s,C⟩).drop 1=aN.list ⟨B,u⟩++[b,c,g,i,s,C]:=rfl;rw[this,List.take_left' (by simp[aN.list,hv8])];refine qK (n:=1) (xs:=[]) ?_;rw[hb.ei 14 1 (by omega),show(14:Nat)=10+4 from rfl,<-List.drop_drop,D];rfl;refine qK (n:=1) (xs:=[]) ?_;rw[hb.ei 15 1 (by omega),show(15:Nat)=10+5 from rfl,<-List.drop_drop,D];rfl
 obtain⟨q2,q3,q5,S,M,qn⟩:=HOB.out (E.out.swap.drop);clear hL D K YH hv8;have T:Hid (∀{W:ai}{A:bU},In G Z (A::a8 r 43 (ints [0,0])::vw p N P::jy P m::L) W->W.cell? ⟨p,0,ah⟩=ae (ptr N)/\fits W r 0 2=ar/\row? W F 10 2=ae (ints [b,c])/\row? W F 1 9=ae (ints (aN.list ⟨B,u⟩))/\W.cell? ⟨F,14,ah⟩=ae (.int .i64 s)/\W.cell? ⟨F,15,ah⟩=ae (.int .i64 C)/\row? W nb 0 2=ae (ints [0,0])):=by intro W A h;obtain⟨r2,r3,r5,r14,r15,rn⟩:=HOB.out (h.swap.drop.swap.drop.swap.drop);exact⟨h.third.blk.cell 0,h.swap.blk.fits 0 2 (by rw[bN];simp),r2,r5,r14,r15,rn⟩
 have U:Hid (∀{W:ai}{A:bU},In G Z (A::a8 r 43 (ints [0,0])::L) W->fits W r 0 2=ar/\row? W F 10 2=ae (ints [b,c])/\row? W nb 0 2=ae (ints [0,0])):=by intro W A h;obtain⟨r2,r3,r5,r14,r15,rn⟩:=HOB.out (h.swap.drop);exact⟨h.swap.blk.fits 0 2 (by rw[bN];simp),r2,rn⟩
 have j:Hid (∀{W:ai}{A:bU}{L:List bU}(x y:Int),In G Z (A::a8 r 43 (ints [0,0])::L) W->In G Z (A::a8 r 43 (ints [x,y])::L) (putRow W r 0 [x,y])):=λx y h=>(h.swap.eZ [x,y] rfl).swap
 have H:Hid (∀{W:ai}{ls':List (Int×Bool)}{f':BF}{xs:List Int},In G Z (dI N ls' f'::a8 r 43 (ints xs)::vw p N P::jy P m::L) W->In G Z (cA p ⟨ls',f',z.B⟩::l) W):=λ{W ls' f' xs} h=>HL.out (In.lK (z:=⟨ls',f',z.B⟩) HM.out h.swap.drop.swap)
 clear J HM;by_cases I:d=1
 ·have hd:(d==1)=ar:=by simp[I]
  have O:Hid (sK z ⟨d,⟨B,u⟩,(b,c),(g,i),s,C⟩=_):=Xv z _ I;clear I q2 q3 S M qn;go_upto_region 4 with(fail)
  go_region_held3 (λW=>W.cell? ⟨p,0,ah⟩=ae (ptr N)/\row? W F 1 9=ae (ints (aN.list ⟨B,u⟩))/\fits W r 0 2=ar)
   (refine⟨?_,?_,?_⟩<;>first|assumption|(refine pU v.out.2.1 ?_;assumption)|(refine cell_far v.out.2.2 ?_;assumption)|(refine rW ?_ ?_<;>assumption))
   (first|(go_at_call 64;refine(T7 V.out.drew HK.out.w ⟨B,u⟩ HV8.out).mono ?_;rintro e Y ⟨rfl,a⟩;obtain⟨s1,s2,s3,s4,s5,s6,s7⟩:=T.out a;have y3:=af a;clear a))
  have f:=af (j.out (fL z.ls z.f ⟨B,u⟩).2.1.1 (fL z.ls z.f ⟨B,u⟩).2.1.2 y3.out);go_wp2_with fail;refine cx rfl r 43 (ints [(fL z.ls z.f ⟨B,u⟩).2.1.1,(fL z.ls z.f ⟨B,u⟩).2.1.2]) (.int .i64 (fL z.ls z.f ⟨B,u⟩).2.2) _ rfl rfl f.out.swap.blk underlying43 rfl (by rw[bN];exact dX) rfl ?_;rw[O.out];exact⟨rfl,H.out f.out⟩
 have VF:(d==1)=au:=by simp[I]
 by_cases X:d=2
 ·have hd:(d==2)=ar:=by simp[X]
  have O:Hid (sK z ⟨d,⟨B,u⟩,(b,c),(g,i),s,C⟩=_):=aaE z _ X;clear I X q3 q5 S M qp;go_upto_region 6 with(fail)
  go_region_held3 (λW=>row? W F 10 2=ae (ints [b,c])/\row? W nb 0 2=ae (ints [0,0])/\fits W r 0 2=ar)
   (refine⟨?_,?_,?_⟩<;>first|assumption|(refine pU v.out.2.1 ?_;assumption)|(refine pU v.out.1 ?_;assumption)|(refine rW ?_ ?_<;>assumption))
   (first
     |(go_at_call 65;refine(J8 E.out.drew HK.out (b,c)).mono ?_;rintro e Y ⟨rfl,a⟩;obtain⟨s1,s2,s3⟩:=U.out a;have f:=af (j.out 0 0 a);clear a)
     |(go_at_call 65;refine(J8 (j.out 0 0 E.out.drew) HK.out (b,c)).mono ?_;rintro e Y ⟨rfl,a⟩;obtain⟨s1,s2,s3⟩:=U.out a;have f:=af a;clear a))
  all_goals go_wp2_with fail;refine cx rfl r 43 (ints [0,0]) (.int .i64 (qY z (b,c)).2) _ rfl rfl f.out.swap.blk underlying43 rfl (by rw[bN];exact dX) rfl ?_;rw[O.out];exact⟨rfl,HL.out f.out.swap.drop⟩
 have hd2:(d==2)=au:=by simp[X]
 by_cases h3:d=3
 ·have hd:(d==3)=ar:=by simp[h3]
  have O:Hid (sK z ⟨d,⟨B,u⟩,(b,c),(g,i),s,C⟩=_):=aaF z _ h3;clear I X h3 q3 q5;go_upto_region 8 with(fail)
  go_region_held3 (λW=>W.cell? ⟨p,0,ah⟩=ae (ptr N)/\row? W F 10 2=ae (ints [b,c])/\W.cell? ⟨F,14,ah⟩=ae (.int .i64 s)/\W.cell? ⟨F,15,ah⟩=ae (.int .i64 C)/\row? W nb 0 2=ae (ints [0,0])/\fits W r 0 2=ar)
   (refine⟨?_,?_,?_,?_,?_,?_⟩<;>first|assumption|(refine pU v.out.2.1 ?_;assumption)|(refine pU v.out.1 ?_;assumption)|(refine cell_far v.out.2.2 ?_;assumption)|(refine cell_far v.out.2.1 ?_;assumption)|(refine rW ?_ ?_<;>assumption))
   (first
     |(go_at_call 66;refine(LK V.out.drew HK.out.w b c s C).mono ?_;rintro e Y ⟨rfl,a⟩;obtain⟨s1,s2,s3,s4,s5,s6,s7⟩:=T.out a;have f:=af (j.out 0 0 a);clear a)
     |(go_at_call 66;refine(LK (j.out 0 0 V.out.drew) HK.out.w b c s C).mono ?_;rintro e Y ⟨rfl,a⟩;obtain⟨s1,s2,s3,s4,s5,s6,s7⟩:=T.out a;have f:=af a;clear a))
  all_goals go_wp2_with fail;refine cx rfl r 43 (ints [0,0]) (.int .i64 (rq z.ls z.f (b,c) s C).2) _ rfl rfl f.out.swap.blk underlying43 rfl (by rw[bN];exact dX) rfl ?_;rw[O.out];exact⟨rfl,H.out f.out⟩
 have hd3:(d==3)=au:=by simp[h3]
 by_cases h4:d=4
 ·have hd:(d==4)=ar:=by simp[h4]
  have O:Hid (sK z ⟨d,⟨B,u⟩,(b,c),(g,i),s,C⟩=_):=aaG z _ h4;clear I X h3 h4 q3 q5 M;go_upto_region 10 with(fail)
  go_region_held3 (λW=>W.cell? ⟨p,0,ah⟩=ae (ptr N)/\row? W F 10 2=ae (ints [b,c])/\W.cell? ⟨F,14,ah⟩=ae (.int .i64 s)/\row? W nb 0 2=ae (ints [0,0])/\fits W r 0 2=ar)
   (refine⟨?_,?_,?_,?_,?_⟩<;>first|assumption|(refine pU v.out.2.1 ?_;assumption)|(refine pU v.out.1 ?_;assumption)|(refine cell_far v.out.2.2 ?_;assumption)|(refine cell_far v.out.2.1 ?_;assumption)|(refine rW ?_ ?_<;>assumption))
   (first
     |(go_at_call 67;refine(MX V.out.drew HK.out.w b c s).mono ?_;rintro e Y ⟨rfl,a⟩;obtain⟨s1,s2,s3,s4,s5,s6,s7⟩:=T.out a;have f:=af (j.out 0 0 a);clear a)
     |(go_at_call 67;refine(MX (j.out 0 0 V.out.drew) HK.out.w b c s).mono ?_;rintro e Y ⟨rfl,a⟩;obtain⟨s1,s2,s3,s4,s5,s6,s7⟩:=T.out a;have f:=af a;clear a))
  all_goals go_wp2_with fail;refine cx rfl r 43 (ints [0,0]) (.int .i64 (oX z.ls z.f (b,c) s).2) _ rfl rfl f.out.swap.blk underlying43 rfl (by rw[bN];exact dX) rfl ?_;rw[O.out];exact⟨rfl,H.out f.out⟩
 have hd4:(d==4)=au:=by simp[h4]
 clear q5 S M qp V H T;by_cases h5:d=5
 ·have hd:(d==5)=ar:=by simp[h5]
  have O:Hid (sK z ⟨d,⟨B,u⟩,(b,c),(g,i),s,C⟩=_):=aaH z _ h5;clear I X h3 h4 h5;have hbs:∀W,(fK 122 2 #[(0,.agg (ints [b,c])),(1,.agg (ints [g,i]))]).run aj W=.ok (.slice (ae ⟨W.heap.size,0,ah⟩) 2 2) (W.alloc (.cells (ints [b,c,g,i]) 43)):=λW=>by kernel_rfl
  have HB:Hid (In G Z (cA p z::jz (.slice (ae ⟨w3.heap.size,0,ah⟩) 2 2) [(b,c),(g,i)]::a8 r 43 (ints [0,0])::L) (w3.alloc (.cells (ints [b,c,g,i]) 43))):=(E.out.Av 43 2 2 [.int .i64 b,.int .i64 c,.int .i64 g,.int .i64 i] rfl (by decide)).swap;go_wp2_with fail;refine(BL HB.out (by simp)).mono ?_;rintro e w4 ⟨rfl,k⟩;have k:=k.swap.drop;by_cases t:nI z [(b,c),(g,i)]=ar
  ·have q:z.live (b,c)=ar/\z.live (g,i)=ar:=by simpa[nI]using t
   have HA:Hid (qd z (b,c) (g,i)=(⟨z.ls,z.f,dA (fh z.B (b,c) (g,i)).1⟩,(fh z.B (b,c) (g,i)).2)):=by unfold Hid qd;rw[if_pos q]
   rw[if_pos t];obtain⟨N,P,m,hm,hf,ha,Q⟩:=k.jC;obtain⟨q2,q3,q5,S,M,qn⟩:=HOB.out k.swap.drop;have qp:w4.cell? ⟨p,1,ah⟩=ae (ptr P):=Q.blk.cell 1;have HAD:=af (ha.qF (b,c) (g,i));have Xm:Hid (dA (fh m (b,c) (g,i)).1=dA (fh z.B (b,c) (g,i)).1):=nD (hf.qF _ _).nodup (HK.out.qk.qF _ _).nodup (ha.qF (b,c) (g,i)).1;have f:Hid (In G Z (jy P m::vw p N P::dI N z.ls z.f::a8 r 43 (ints [0,0])::L) w4):=Q.third;clear k Q t q hm hf ha q5 S M HB E;go_upto_region 14 with(fail)
   go_still_tail 8,(by kernel_rfl)
   change wpList _ _ _ _ _ w4.drew;have EX:=af f.out.drew;clear f q2 q3 qn qp qf;generalize w4.drew=w5 at *;go_wp2_with fail;refine(DG EX.out (b,c) (g,i)).mono ?_;rintro e w6 ⟨rfl,O0⟩;have R:In G Z (cA p ⟨z.ls,z.f,dA (fh z.B (b,c) (g,i)).1⟩::a8 r 43 (ints [0,0])::L) w6:=In.lK (z:=⟨z.ls,z.f,dA (fh z.B (b,c) (g,i)).1⟩) Xm.out O0.third.third;rw[HAD.out.2];obtain⟨qf,q2,qn⟩:=U.out R;have f:=af (j.out 0 0 R);clear O0 R EX;go_wp2_with fail;refine cx rfl r 43 (ints [0,0]) (.int .i64 (fh z.B (b,c) (g,i)).2) _ rfl rfl f.out.swap.blk underlying43 rfl (by rw[bN];exact dX) rfl ?_;rw[O.out,HA.out];exact⟨rfl,HL.out f.out.swap.drop⟩
  have q:¬(z.live (b,c)=ar/\z.live (g,i)=ar):=by simpa[nI]using t
  have HA:Hid (qd z (b,c) (g,i)=(z,7)):=by unfold Hid qd;rw[if_neg q]
  rw[if_neg t];obtain⟨qf,q2,qn⟩:=U.out k;have f:=af (j.out 0 0 k);clear k t q HB E;go_wp2_with fail;refine cx rfl r 43 (ints [0,0]) (.int .i64 7) _ rfl rfl f.out.swap.blk underlying43 rfl (by rw[bN];exact dX) rfl ?_;rw[O.out,HA.out];exact⟨rfl,HL.out f.out.swap.drop⟩
 have hd5:(d==5)=au:=by simp[h5]
 by_cases h6:d=6
 ·have hd:(d==6)=ar:=by simp[h6]
  have O:Hid (sK z ⟨d,⟨B,u⟩,(b,c),(g,i),s,C⟩=_):=aaI z _ h6;clear I X h3 h4 h5 h6;have HB:Hid (In G Z (cA p z::jz (.slice (ae ⟨w3.heap.size,0,ah⟩) 1 1) [(b,c)]::a8 r 43 (ints [0,0])::L) (w3.alloc (.cells (ints [b,c]) 43))):=(E.out.Av 43 2 1 [.int .i64 b,.int .i64 c] rfl (by decide)).swap;go_wp2_with fail;refine(BL HB.out (by simp)).mono ?_;rintro e w4 ⟨rfl,k⟩;have k:=k.swap.drop;by_cases t:nI z [(b,c)]=ar
  ·have q:z.live (b,c)=ar:=by simpa[nI]using t
   have HA:Hid (nu z (b,c)=(⟨z.ls,z.f,(fy z.B (b,c)).1⟩,(fy z.B (b,c)).2)):=by unfold Hid nu;rw[if_pos q]
   rw[if_pos t];obtain⟨N,P,m,hm,hf,ha,Q⟩:=k.jC;obtain⟨q2,q3,q5,S,M,qn⟩:=HOB.out k.swap.drop;have qp:w4.cell? ⟨p,1,ah⟩=ae (ptr P):=Q.blk.cell 1;have HAD:=af (ha.loosen (b,c));have Xm:Hid (dA (fy m (b,c)).1=(fy z.B (b,c)).1):=by have I:=(HK.out.loosen (b,c)).Qk;rw[HA.out]at I;have X:=nD (hf.loosen (b,c)).nodup (HK.out.qk.loosen (b,c)).nodup (ha.loosen (b,c)).1;exact X.trans I
   have f:Hid (In G Z (jy P m::vw p N P::dI N z.ls z.f::a8 r 43 (ints [0,0])::L) w4):=Q.third;clear k Q t q hm hf ha q3 q5 S M HB E;go_upto_region 19 with(fail)
   go_still_tail 6,(by kernel_rfl)
   change wpList _ _ _ _ _ w4.drew;have EX:=af f.out.drew;clear f q2 qn qp qf;generalize w4.drew=w5 at *;go_wp2_with fail;refine(KS EX.out (b,c)).mono ?_;rintro e w6 ⟨rfl,O0⟩;have R:In G Z (cA p ⟨z.ls,z.f,(fy z.B (b,c)).1⟩::a8 r 43 (ints [0,0])::L) w6:=In.lK (z:=⟨z.ls,z.f,(fy z.B (b,c)).1⟩) Xm.out O0.third.third;rw[HAD.out.2];obtain⟨qf,q2,qn⟩:=U.out R;have f:=af (j.out 0 0 R);clear O0 R EX;go_wp2_with fail;refine cx rfl r 43 (ints [0,0]) (.int .i64 (fy z.B (b,c)).2) _ rfl rfl f.out.swap.blk underlying43 rfl (by rw[bN];exact dX) rfl ?_;rw[O.out,HA.out];exact⟨rfl,HL.out f.out.swap.drop⟩
  have q:¬(z.live (b,c)=ar):=by simpa[nI]using t
  have HA:Hid (nu z (b,c)=(z,7)):=by unfold Hid nu;rw[if_neg q]
  rw[if_neg t];obtain⟨qf,q2,qn⟩:=U.out k;have f:=af (j.out 0 0 k);clear k t q HB E;go_wp2_with fail;refine cx rfl r 43 (ints [0,0]) (.int .i64 7) _ rfl rfl f.out.swap.blk underlying43 rfl (by rw[bN];exact dX) rfl ?_;rw[O.out,HA.out];exact⟨rfl,HL.out f.out.swap.drop⟩
 have hd6:(d==6)=au:=by simp[h6]
 have O:Hid (sK z ⟨d,⟨B,u⟩,(b,c),(g,i),s,C⟩=_):=aaJ z _ ⟨I,X,h3,h4,h5,h6⟩;have f:=af (j.out 0 0 E.out);go_wp2_with fail;refine cx rfl r 43 (ints [0,0]) (.int .i64 1) _ rfl rfl f.out.swap.blk underlying43 rfl (by rw[bN];exact dX) rfl ?_;rw[O.out];exact⟨rfl,HL.out f.out.swap.drop⟩
end
def In.bare{G:Nat->Prop}{a w:ai}{l:List bU}(h:In G a l w):In G a [] w:=⟨trivial,h.only⟩
def mI(G:Nat->Prop)(b:ai)(B:Nat)(A:Option Addr)(a:List ft):Prop:=∀{W:ai},In G b [] W->oO W B A a
def mI.FJ{w:ai}{A:Option Addr}{a:List ft}(h:oO w w.heap.size A a):mI (λ_=>False) w w.heap.size A a:=λb=>h.below b.E7
def de(d:Int):List Nat:=if d=2\/d=3\/d=4\/d=6 then [10]else if d=5 then [10,12]else []
def ll(o:ft)(a:Nat):Hd:=if a=10 then o.a else o.t
def wR(o:ft)(b:Nat)(h:Hd):ft:=if b=10 then{o with a:=h}else{o with t:=h}
def jK(a:List Hd)(o:ft):List Nat->ft|[]=>o|off::l=>jK a (wR o off (qq a (ll o off))) l
def FB(b:List Hd)(l c:List Nat):∀o,jK b o (l++c)=jK b (jK b o l) c:=by
 induction l with|nil=>intro o;rfl|cons a l d=>intro o;exact d _
def T3(o:ft)(a:Nat)(h:Hd):(wR o a h).b=o.b/\(wR o a h).d=o.d:=by unfold wR;split<;>exact⟨rfl,rfl⟩
def Nk(c:List Hd)(l:List Nat):∀o,(jK c o l).b=o.b/\(jK c o l).d=o.d:=by
 induction l with|nil=>intro o;exact⟨rfl,rfl⟩|cons a l b=>intro o;exact⟨(b _).1.trans (T3 _ _ _).1,(b _).2.trans (T3 _ _ _).2⟩
def Td{d:Int}{a:Nat}(h:a∈de d):a=10\/a=12:=by unfold de at h;split at h;simp at h;exact bt h;split at h;simp at h;exact h;simp at h
def Tc(d:Int):(de d).length<=2:=by unfold de;split;simp;split;simp;simp
def O3(d:List Hd)(o:ft)(k:Nat)(a:k<(de o.d).length):ll (jK d o ((de o.d).take k)) (de o.d)[k]=ll o (de o.d)[k]:=by
 unfold de at a|-;by_cases b:o.d=2\/o.d=3\/o.d=4\/o.d=6;simp only[if_pos b]at a|-;have:k=0:=by simpa using a
 subst this;rfl;simp only[if_neg b]at a|-;by_cases c:o.d=5;simp only[if_pos c]at a|-;simp at a
 match k,a with|0,_=>rfl|1,_=>rfl
 simp[if_neg c]at a
def Lk{c:List Hd}{o:ft}{k:Nat}(a:k<(de o.d).length)(h:gU c (ll o (de o.d)[k])=ah):lU c o=ah:=by
 unfold lU;unfold de at a;by_cases b:o.d=2\/o.d=3\/o.d=4\/o.d=6;rw[if_pos b];have e:de o.d=[10]:=by unfold de;rw[if_pos b]
 simp only[e]at h;simp only[if_pos b]at a;have:k=0:=by simpa using a
 subst this;have:gU c o.a=ah:=h;rw[this];rfl;rw[if_neg b];simp only[if_neg b]at a;by_cases d:o.d=5;rw[if_pos d];have e:de o.d=[10,12]:=by unfold de;rw[if_neg b,if_pos d]
 simp only[e]at h;simp only[if_pos d]at a;simp at a
 match k,a with|0,_=>have:gU c o.a=ah:=h;rw[this];rfl|1,_=>have:gU c o.t=ah:=h;rw[this];cases gU c o.a<;>rfl
 simp[if_neg d]at a
def Pf{b:List Hd}{o:ft}(h:∀k,(hk:k<(de o.d).length)->gU b (ll o (de o.d)[k])≠ah):lU b o=ae (jK b o (de o.d)):=by
 unfold lU;by_cases c:o.d=2\/o.d=3\/o.d=4\/o.d=6;have e:de o.d=[10]:=by unfold de;rw[if_pos c]
 simp only[e]at h|-;rw[if_pos c];have f:=h 0 (by simp);cases hm:gU b o.a with|none=>exact absurd hm f|some a=>have:=Aq hm;simp[jK,wR,ll,this]
 rw[if_neg c];by_cases d:o.d=5;have e:de o.d=[10,12]:=by unfold de;rw[if_neg c,if_pos d]
 simp only[e]at h|-;rw[if_pos d];have f:=h 0 (by simp);have l:=h 1 (by simp);cases hm:gU b o.a with
 |none=>exact absurd hm f|some a=>
  cases g:gU b o.t with|none=>exact absurd g l|some t=>have i:=Aq hm;have j:=Aq g;simp[jK,wR,ll,i,j]
 have e:de o.d=[]:=by unfold de;rw[if_neg c,if_neg d]
 rw[if_neg d,e];rfl
def uh(o:ft)(a:o.b.v.length=8):o.list.drop 10=[o.a.1,o.a.2,o.t.1,o.t.2,o.k,o.n]:=by have:o.list=([o.d]++o.b.list)++[o.a.1,o.a.2,o.t.1,o.t.2,o.k,o.n]:=rfl;rw[this,List.drop_left' (by simp[aN.list,a])]
def Wc{o:ft}(b:o.b.v.length=8){a:Nat}(h:a=10\/a=12):(o.list.drop a).take 2=[(ll o a).1,(ll o a).2]:=by rcases h with rfl|rfl;rw[uh o b];rfl;rw[show(12:Nat)=10+2 from rfl,<-List.drop_drop,uh o b];rfl
def Zv{o:ft}(c:o.b.v.length=8){a:Nat}(h:a=10\/a=12)(x:Hd):o.list.take a++[x.1,x.2]++o.list.drop (a+2)=(wR o a x).list:=by
 have e:∀b:ft,b.list=([b.d]++b.b.list)++[b.a.1,b.a.2,b.t.1,b.t.2,b.k,b.n]:=λ_=>rfl
 have d:([o.d]++o.b.list).length=10:=by simp[aN.list,c]
 rcases h with rfl|rfl;rw[show 10+2=10+2 from rfl,<-List.drop_drop,uh o c,e o,List.take_left' d];unfold wR;rw[if_pos rfl,e];simp;have f:o.list.take 12=([o.d]++o.b.list)++[o.a.1,o.a.2]:=by rw[e o,List.take_append,d,cB (by omega)];rfl
 rw[f,show 12+2=10+4 from rfl,<-List.drop_drop,uh o c];unfold wR;rw[if_neg (by decide),e];simp
section
variable{G:Nat->Prop} {Z w:ai} {l:List bU} {Y:Nat} {o:ft}
abbrev GZ(v:ak)(Y:Nat)(a:List Nat):bU:=dR 196 1 v a.length (a.map λo=>Value.pointer (ae ⟨Y,o,ah⟩))
def SX(h:In G Z (a8 Y 74 (ints o.list)::l) w):Calls aj 108 #[.pointer (ae ⟨Y,0,ah⟩)] w λe w'=>∃v,e=.returned v/\In G Z (GZ v Y (de o.d)::a8 Y 74 (ints o.list)::l) w':=by
 have y:w.cell? ⟨Y,0,ah⟩=ae (.int .i64 o.d):=h.blk.cell 0;have H:=af h;clear h;have b:Hid (de o.d=[10]->In G Z (GZ (.slice (ae ⟨w.heap.size,0,ah⟩) 1 1) Y (de o.d)::a8 Y 74 (ints o.list)::l) (w.alloc (.cells #[.pointer (ae ⟨Y,10,ah⟩)] 196))):=λe=>by rw[e];exact H.out.Av 196 1 1 [.pointer (ae ⟨Y,10,ah⟩)] rfl (by decide)
 have f:Hid (de o.d=[10,12]->In G Z (GZ (.slice (ae ⟨w.heap.size,0,ah⟩) 2 2) Y (de o.d)::a8 Y 74 (ints o.list)::l) (w.alloc (.cells #[.pointer (ae ⟨Y,10,ah⟩),.pointer (ae ⟨Y,12,ah⟩)] 196))):=λe=>by rw[e];exact H.out.Av 196 1 2 [.pointer (ae ⟨Y,10,ah⟩),.pointer (ae ⟨Y,12,ah⟩)] rfl (by decide)
 have k:Hid (de o.d=[]->In G Z (GZ (.slice ah 0 0) Y (de o.d)::a8 Y 74 (ints o.list)::l) w):=λe=>by rw[e];exact H.out.sc 196 1
 have a:Hid (∀d,de d=if d=2\/d=3\/d=4\/d=6 then [10]else if d=5 then [10,12]else []):=λd=>rfl
 generalize o.d=d at *;go_enter func108,ntmps108;by_cases m:d=2
 ·have j:(d==2)=ar:=by simp[m]
  have c:Hid (de d=[10]):=by rw[a.out,if_pos (bt m)];rfl
  go_wp2_with fail;go_ret;exact⟨_,rfl,b.out c.out⟩
 have r:(d==2)=au:=by simp[m]
 by_cases n:d=3
 ·have j:(d==3)=ar:=by simp[n]
  have c:Hid (de d=[10]):=by rw[a.out,if_pos (bW (bt n))];rfl
  go_wp2_with fail;go_ret;exact⟨_,rfl,b.out c.out⟩
 have s:(d==3)=au:=by simp[n]
 by_cases p:d=4
 ·have j:(d==4)=ar:=by simp[p]
  have c:Hid (de d=[10]):=by rw[a.out,if_pos (bW (bW (bt p)))];rfl
  go_wp2_with fail;go_ret;exact⟨_,rfl,b.out c.out⟩
 have t:(d==4)=au:=by simp[p]
 by_cases q:d=6
 ·have j:(d==6)=ar:=by simp[q]
  have c:Hid (de d=[10]):=by rw[a.out,if_pos (bW (bW (bW q)))];rfl
  go_wp2_with fail;go_ret;exact⟨_,rfl,b.out c.out⟩
 have x:(d==6)=au:=by simp[q]
 have g:¬(d=2\/d=3\/d=4\/d=6):=by omega
 by_cases i:d=5
 ·have j:(d==5)=ar:=by simp[i]
  have c:Hid (de d=[10,12]):=by rw[a.out,if_neg g,if_pos i];rfl
  go_wp2_with fail
  go_region
  all_goals go_wp2_with fail;go_ret;exact⟨_,rfl,(f.out c.out).drew⟩
 have u:(d==5)=au:=by simp[i]
 have c:Hid (de d=[]):=by rw[a.out,if_neg g,if_neg i];rfl
 go_wp2_with fail;go_ret;exact⟨_,rfl,k.out c.out⟩
end
def uo{w:ai}{g o n:Nat}{b:List Int}(h:row? w g o n=ae (ints b))(a m:Nat)(d:a+m<=n):row? w g (o+a) m=ae (ints ((b.drop a).take m)):=by
 unfold row? at *;split at h;split at h;rename_i e;injection h with h;rw[if_pos (by omega)];congr 1;have c:(ints b).extract a (a+m)=ints ((b.drop a).take m):=by unfold ints;apply Array.ext';simp[List.map_drop,List.map_take,List.extract_eq_take_drop]
 rw[<-c,<-h,Array.extract_extract,Nat.min_eq_left (by omega),Nat.add_assoc];cases h;cases h
noncomputable def M1(f:BF)(a:List ck)(j:Nat):BF:=λs=> @ite _ (∃i,∃h:i<a.length,i<j/\a[i].h.1=s) (Classical.propDecidable _) (f s) ah
def R4(f:BF)(a:List ck):M1 f a 0=λ_=>ah:=by funext s;unfold M1;rw[if_neg];rintro⟨i,h,b,_⟩;omega
def RZ{f:BF}{a:List ck}{j:Nat}(l:j<a.length)(k:f a[j].h.1=ae (a[j].h.2,a[j].b)):M1 f a (j+1)=dL (M1 f a j) a[j].h.1 (ae (a[j].h.2,a[j].b)):=by funext s;unfold dL;by_cases e:s=a[j].h.1;rw[if_pos e];unfold M1;rw[if_pos ⟨j,l,by omega,e.symm⟩,e,k];rw[if_neg e];unfold M1;by_cases h:∃i,∃h:i<a.length,i<j/\a[i].h.1=s;obtain⟨i,c,d,b⟩:=h;rw[if_pos ⟨i,c,by omega,b⟩,if_pos ⟨i,c,d,b⟩];rw[if_neg h,if_neg];rintro⟨i,c,d,b⟩;by_cases g:i=j;subst g;exact e b.symm;exact h ⟨i,c,by omega,b⟩
def Vs{a:List (Int×Bool)}{f:BF}(h:nl a f):M1 f (lB a f) (lB a f).length=f:=by
 funext s;unfold M1;cases e:f s with|none=>split<;>rfl|some x=>obtain⟨g,b⟩:=x;have hm:(⟨(s,g),b⟩:ck)∈lB a f:=(lF h).2 e;obtain⟨i,d,c⟩:=dn.1 hm;rw[if_pos ⟨i,d,d,by rw[c]⟩]
def RY{a:List (Int×Bool)}{f:BF}{j:Nat}(d:j<(lB a f).length):M1 f (lB a f) j (lB a f)[j].h.1=ah:=by unfold M1;rw[if_neg];rintro⟨i,b,c,e⟩;have:=iV.1 (rO a f) i j b d c;unfold QS at this;change (lB a f)[i].h.1<(lB a f)[j].h.1 at this;omega
def Ha{a:List (Int×Bool)}{f:BF}(h:nl a f):(lB a f).map (·.h)=kN a:=by
 unfold lB;rw[List.map_filterMap];have:∀x∈kN a,(wL f x).map (·.h)=ae x:=λx b=>by unfold wL;rw[h.get (ox.1 b)];rfl
 rw[Ij (g:=ae) this,List.filterMap_some]
def Rm{a:List (Int×Bool)}{f:BF}(h:nl a f):o5 (db a) ((lB a f).map λr=>r.h.1)=(ae a,0):=by
 have:(lB a f).map (λr=>r.h.1)=((lB a f).map (·.h)).map (·.1):=by rw[List.map_map];rfl
 rw[this,Ha h];exact Pe h.so
def K9:(Tryz.prog.info? 3).map (λi=>(i.zero,i.size,i.bytes))=ae (ae (.int .i64 0),1,8):=by kernel_rfl
section
variable{G:Nat->Prop} {Z w:ai} {l:List bU} {Y:List (Int×Bool)} {f:BF}
def Un{gv rv:ak}(h:In G Z (cI gv (db Y)::cm rv (lB Y f)::l) w)(U:nl Y f):Calls aj 167 #[gv,rv] w λe w'=>∃p,e=.returned (.tuple #[.pointer (ae ⟨p,0,ah⟩),.int .i64 0])/\In G Z (dI p Y f::cI gv (db Y)::cm rv (lB Y f)::l) w':=by
 have HLD:=af (Rm U);have Y':=vC U;have ad4:=U.so.1;have HFA:=af (Vs U);have HFN:Hid (∀j(hj:j<(lB Y f).length),M1 f (lB Y f) j (lB Y f)[j].h.1=ah):=λj hj=>RY hj
 have H:Hid (∀r∈lB Y f,r.b.v.length=8/\bT r.b=0/\eh Y r.h.1 r.h.2=ar/\f r.h.1=ae (r.h.2,r.b)):=λr hr=>MO U hr
 have HSL:Hid (∀r∈lB Y f,0<=r.h.1/\r.h.1<60):=λr hr=>by obtain⟨s,e,hs,_⟩:=Oq U hr;omega
 have L:=af h;obtain⟨n,o,rfl,_⟩:=h.ku;obtain⟨X,y,rfl,aee,aef,_⟩:=h.swap.TN;rw[qT]at L|-;clear h U;generalize lB Y f=a at *;have hri:(a.length:Int)<=60:=Int.ofNat_le.2 Y';obtain⟨i0,D2,D4,D5,Cy⟩:=info_parts K9;go_enter func167,ntmps167;go_wp2_with fail;have MI:Hid (In G Z (cI (.slice ah 0 0) (((a.take 0).map λr=>r.h.1))::cI (.slice n Y.length o) (db Y)::cm (.slice X a.length y) a::l) w):=L.out.sc _ _;clear L;go_loopw [20,6] (λi v w'=>∃j:Nat,j<=a.length/\i=.int .i64 j/\In G Z (cI v (((a.take j).map λr=>r.h.1))::cI (.slice n Y.length o) (db Y)::cm (.slice X a.length y) a::l) w') (λi _ _=>a.length-(intOf i).toNat)
 case atStart=>exact⟨0,bF _,rfl,MI.out⟩
 case round=>
  clear MI;obtain⟨j,hj,rfl,hI⟩:=hrel;have d:=af hI;clear hI;by_cases c:j<a.length
  ·have hji:(j:Int)<a.length:=by omega
   obtain⟨B,_⟩:=H.out _ (aR c);obtain⟨g,rfl,q1⟩:=pj d.out.third c B;have x:(a[j]).list.length=11:=by simp[ck.list,aN.list,B]
   have z:Hid ((a.take (j+1)).map (λr=>r.h.1)=(a.take j).map (λr=>r.h.1)++[a[j].h.1]):=by unfold Hid;rw[aU c,dZ];rfl
   have Sr:((a.take j).map λr=>r.h.1).length<=60:=by rw[bu,dH];omega
   have HC0:Hid ((ints (ck.list a[j]))[0]? =ae (.int .i64 a[j].h.1)):=rfl;generalize a[j]=r at *;generalize (a.take j).map (λr=>r.h.1)=P at *;go_upto_region 7 with(fail)
   refine b9 (In G Z (a8 wr.heap.size 50 (ints r.list)::cI u6 P::cI (.slice n Y.length o) (db Y)::cm (.slice (ae ⟨g,0,ah⟩) a.length y) a::l)) (d.out.struct 50 [0,0,0,0,0,0,0,0,0,0,0] _ x) ?_;generalize wr.heap.size=rb;intro w2 C;have q2:w2.cell? ⟨rb,0,ah⟩=ae (.int .i64 r.h.1):=(C.blk.cell 0).trans HC0.out;have q:=af C.drop;have HOW:=af C.drop.rowAt;generalize r.h.1=s at *;clear C q1 d;go_wp2_with (at_builtin;go_loud (refine ep rfl _ _ _ rfl 0 3 i0 _ 1 8 underlying32 D2 D4 D5 Cy rfl (by decide) _ P.length _ rfl HOW.out [.int .i64 s] rfl rfl (by simp[fX]) (by unfold maxLen;omega) (by omega) (bF _) ?_));intro v' w3 J hg VB;have u:=In.vD q.out J hg VB;have Ko:Hid (In G Z (cI v' (P++[s])::cI (.slice n Y.length o) (db Y)::cm (.slice (ae ⟨g,0,ah⟩) a.length y) a::l) w3):=by unfold cI;rw[bK,dZ];exact u
   clear J hg VB u q2 q HOW;go_wp2_with fail;go_roundw
   case rel=>exact⟨j+1,by omega,by go_num,by rw[z.out];exact Ko.out⟩
   simp[intOf];omega
  have S:j=a.length:=by omega
  subst S;rw[cE]at d;obtain⟨lA,lc,rfl,hlr⟩:=d.out.ku;obtain⟨gA',gc',e0,hgr⟩:=d.out.swap.ku;rw[qT]at e0;injection e0 with e1 e2 e3;subst e1;subst e3;have hll:(a.map λr=>r.h.1).length<=maxLen:=by rw[bu];unfold maxLen;omega
  have YW:(db Y).length<=maxLen:=by rw[qT];unfold maxLen;omega
  have t:=af (SU n lA o lc (db Y) (a.map λr=>r.h.1) wr hgr hlr YW hll);rw[HLD.out,qT,bu]at t;clear hgr hlr hll YW e2;go_wp2_with fail;refine t.out.mono ?_;rintro e w2 ⟨uE,m,rfl,UI⟩;have q:Hid (In G Z (b8 m Y::cI (.slice n Y.length o) (db Y)::cm (.slice X a.length y) a::l) w2):=d.out.drop.new (A:=b8 m Y) uE UI;clear uE UI t d;go_wp2_with fail;refine(N3 q.out).mono ?_;rintro e w3 ⟨p,rfl,u⟩;obtain⟨sp,tb,pb,T,hT,k⟩:=u.kl;have c1:w3.cell? ⟨p,0,ah⟩=ae (.pointer (ae ⟨sp,0,ah⟩)):=k.blk.cell 0;have c2:w3.frozen? ⟨p,0,ah⟩=au:=k.blk.frozen _;have I:Hid (∀W,W=w3.setCell ⟨p,0,ah⟩ (.pointer (ae ⟨m,0,ah⟩))->In G Z (jY p m Y (λ_=>ah)::cI (.slice n Y.length o) (db Y)::cm (.slice X a.length y) a::l) W):=λW e=>by rw[e];have h1:=In.set k 0 (.pointer (ae ⟨m,0,ah⟩));have h2:In G Z (a8 p 108 #[.pointer (ae ⟨m,0,ah⟩),.map (ae tb),.map (ae pb)]::b8 m Y::PtrMap tb (T.ks.map λK=>(K,T.pt K))::bB pb T.ps::((b8 sp []::cI (.slice n Y.length o) (db Y)::cm (.slice X a.length y) a::l)++T.ks.map (dg T))) (w3.setCell ⟨p,0,ah⟩ (.pointer (ae ⟨m,0,ah⟩))):=h1.reorder 5 [0,4,2,3,1] rfl (by simp);exact(In.pw hT h2).swap.drop
  clear u k hT q;go_upto_region 14 with(fail)
  refine b9 (In G Z (jY p m Y (M1 f a 0)::cI (.slice n Y.length o) (db Y)::cm (.slice X a.length y) a::l)) (by rw[R4];exact I.out _ rfl) ?_;clear c1 c2 I;intro w4 k;have EV:=af k;clear k;go_wp2_with fail;go_loopw [47] (λi w'=>∃j:Nat,j<=a.length/\i=.int .i64 j/\In G Z (jY p m Y (M1 f a j)::cI (.slice n Y.length o) (db Y)::cm (.slice X a.length y) a::l) w') (λi _=>a.length-(intOf i).toNat)
  case atStart=>exact⟨0,bF _,rfl,EV.out⟩
  clear EV;obtain⟨j,hj,rfl,hI⟩:=hrel;have d:=af hI;clear hI;by_cases c:j<a.length
  ·have hji:(j:Int)<a.length:=by omega
   obtain⟨B,E,V,XG⟩:=H.out _ (aR c);have F:=HSL.out _ (aR c);obtain⟨g,rfl,q1⟩:=pj d.out.third c B;have R:=HFN.out j c;have z:=af (RZ c XG);clear XG;generalize a[j]=r at *;generalize M1 f a j=fj at *;obtain⟨⟨s,gen⟩,b⟩:=r;simp only at B E V F R z;have hb9:b.list.length=9:=by simp[aN.list,B]
   have x:(ck.list ⟨(s,gen),b⟩).length=11:=by simp[ck.list,aN.list,B]
   have acw:=af R;have Yb:Hid (bT b=0/\b.v.length=8/\0<=s/\s<60):=⟨E,B,F.1,F.2⟩;have HLV:=af V;have Xm:=af E;clear R V E F;go_upto_region 17 with(fail)
   refine b9 (In G Z (a8 wr.heap.size 50 (ints (ck.list ⟨(s,gen),b⟩))::jY p m Y fj::cI (.slice n Y.length o) (db Y)::cm (.slice (ae ⟨g,0,ah⟩) a.length y) a::l)) (d.out.struct 50 [0,0,0,0,0,0,0,0,0,0,0] _ x) ?_;generalize wr.heap.size=rb;intro w5 D;have O:Hid (∀W,In G Z (a8 rb 50 (ints (ck.list ⟨(s,gen),b⟩))::jY p m Y fj::cI (.slice n Y.length o) (db Y)::cm (.slice (ae ⟨g,0,ah⟩) a.length y) a::l) W->row? W rb 0 2=ae (ints [s,gen])/\row? W rb 2 9=ae (ints b.list)):=λW hW=>by refine⟨by rw[hW.blk.ei 0 2 (by omega)];rfl,?_⟩;rw[hW.blk.ei 2 9 (by omega)];show ae (ints (b.list.take 9))=_;rw[cB (by omega)]
   obtain⟨q2,q3⟩:=O.out _ D;obtain⟨tb',pb',T',hT',It⟩:=D.swap.lX;obtain⟨F1,hS⟩:=It.swap.head;have HL:=af (o4 m Y F1 s gen w5 hS);rw[HLV.out]at HL;have y3:=af D;clear D It hS hT' q1 d;go_wp2_with fail;refine HL.out.mono ?_;rintro e w6 ⟨rfl,KZ⟩;have M:=af (y3.out.below KZ);obtain⟨q4,q5⟩:=O.out _ M.out;clear KZ HL y3 q2 q3;go_wp2_with fail;refine(oU b B w6).mono ?_;rintro e w7 ⟨rfl,hb7⟩;rw[Xm.out];have N:=af (M.out.below hb7);obtain⟨q6,q7⟩:=O.out _ N.out;clear hb7 M q4 q5;go_wp2_with fail;refine(VV N.out.swap s gen b acw.out Yb.out).mono ?_;rintro e w8 ⟨rfl,Q⟩;rw[<-z.out]at Q;have QI:=af Q.swap.drop;clear Q N q6 q7;go_wp2_with fail;go_roundw
   case rel=>exact⟨j+1,by omega,by go_num,QI.out⟩
   simp[intOf];omega
  have S:j=a.length:=by omega
  subst S;rw[HFA.out]at d;have y4:=af d.out.GD;clear d;go_wp2_with fail
  go_ret2
  exact⟨p,rfl,y4.out⟩
end
section
variable{G:Nat->Prop} {Z w:ai} {l:List bU} {p:Nat} {z:ZS}
def ES(h:In G Z (cA p z::l) w)(K:jT z):Calls aj 16 #[ptr p] w λe w'=>∃v E j,e=.returned (.agg #[v,E,j])/\In G Z (cI v (db z.ls)::cm E z.rows::ji j z.B::cA p z::l) w':=by
 have H:=af h;have B:=af K;clear h K;go_enter func16,ntmps16;go_upto_region 1 with(fail)
 refine b9 (In G Z (cA p z::a8 w.heap.size 36 #[.slice ah 0 0,.slice ah 0 0,.slice ah 0 0]::l)) (H.out.alloc 36 #[.slice ah 0 0,.slice ah 0 0,.slice ah 0 0]).swap ?_;generalize w.heap.size=i;intro X s;obtain⟨c,k,m,hm,Q,P,g⟩:=s.jC;obtain⟨x,t⟩:=g.swap.Uo;have N:X.cell? ⟨p,0,ah⟩=ae (ptr c):=g.blk.cell 0;have HM:=af hm;have u:m.length<=1099511627776:=by have:=Dv m;have:=B.out.len;rw[hm]at *;omega
 have r:=af u;have o:=af t;clear s g t hm Q P H u;have C:=af (Jz o.out B.out.w yF);rw[ER,if_pos rfl,Bd xq,BJ]at C;go_wp2_with fail;refine C.out.mono ?_;rintro e Y ⟨E,rfl,D⟩;obtain⟨F,J,rfl,_,_,_⟩:=cu D.rowAt;have n:Hid (∀{W:ai}{L:List bU},In G Z (jY c x z.ls z.f::vw p c k::jy k m::a8 i 36 #[.slice ah 0 0,.slice ah 0 0,.slice ah 0 0]::L) W->W.cell? ⟨p,0,ah⟩=ae (ptr c)/\W.cell? ⟨p,1,ah⟩=ae (ptr k)/\W.cell? ⟨c,0,ah⟩=ae (ptr x)/\fits W i 0 3=ar):=λ{W L} h=>⟨h.swap.blk.cell 0,h.swap.blk.cell 1,h.WS,h.fourth.blk.fits 0 3 (by simp)⟩
 have b:Hid (In G Z (jY c x z.ls z.f::vw p c k::jy k m::a8 i 36 #[.slice ah 0 0,.slice ah 0 0,.slice ah 0 0]::cm (.slice F z.rows.length J) z.rows::l) Y):=D.to5;obtain⟨s1,s2,s3,s4⟩:=n.out b.out;have f:Hid (p≠i/\c≠i):=by refine⟨b.out.drop.swap.drop.apart,?_⟩;obtain⟨tb,pb,T,hT,a⟩:=b.out.lX;simp only[cW]at a;exact a.swap.drop.swap.drop.swap.drop.swap.drop.swap.drop.apart
 clear D C o N;have d:=af B.out.w.so.1;go_upto_region 2 with(fail)
 go_region_held3 (λW=>W.cell? ⟨p,0,ah⟩=ae (ptr c)/\W.cell? ⟨p,1,ah⟩=ae (ptr k)/\W.cell? ⟨c,0,ah⟩=ae (ptr x)/\fits W i 0 3=ar)
  (first|(refine⟨?_,?_,?_,?_⟩<;>assumption)|(refine⟨xg f.out.1 ?_,xg f.out.1 ?_,xg f.out.2 ?_,?_⟩;all_goals first|assumption|exact Ih (by assumption) rfl))
  (first
    |(go_at_call 43;refine(Ip y.out d.out).mono ?_;rintro e w5 ⟨A5,c5,rfl,a⟩;have a:=a.to5;obtain⟨R,S,U,V⟩:=n.out a;have q:=af a;clear a)
    |(go_at_call 44;refine(DK A.out r.out).mono ?_;rintro e w5 ⟨j,rfl,a⟩;rw[HM.out]at a;obtain⟨M,O,rfl,_,_,_⟩:=cu a.rowAt;have a:=a.to5.to3;obtain⟨R,S,U,V⟩:=n.out a;have q:=af (a.reorder 6 [0,1,2,3,5,4] rfl (by simp));clear a)
    |(go_at_call 43;refine(Ip b.out.drew d.out).mono ?_;rintro e w4 ⟨A4,c4,rfl,a⟩;have a:=a.to5;obtain⟨u1,u2,u3,u4⟩:=n.out a;have A:=af a.third;clear a)
    |(go_at_call 44;refine(DK b.out.drew.third r.out).mono ?_;rintro e w4 ⟨j,rfl,a⟩;rw[HM.out]at a;obtain⟨M,O,rfl,_,_,_⟩:=cu a.rowAt;have a:=a.to5.to3;obtain⟨u1,u2,u3,u4⟩:=n.out a;have y:=af a;clear a))
 all_goals
  have I:=λv j=>In.AF (In.fourth q.out) [v,.slice F z.rows.length J,j] rfl
  go_wp2_with fail;refine rP rfl i 36 _ _ rfl (I _ _).blk underlying36 rfl iU rfl ?_;exact⟨_,_,_,rfl,(In.lK HM.out (I _ _).drop.GD.swap).reorder 4 [1,3,2,0] rfl (by simp)⟩
end
end
section
open Rel
open Go.Conc Go.ConcN
open Go.ConcR (Payload WgAt)
open Go.RowKit
def Kz(b:aN):List ak:=b.list.map (aS .i64)
def EZ(S:gM)(o:Nat->Prop)(w:ai)(v:ak)(b:List aN):Prop:=∃V:Nat->Prop,(∀r,V r->o r)/\(∀r,V r->∃a,w.heap[r]? =ae a/\ic S (only V) a a)/\bh S (only V) v v/\w.ownsRow 0 48 9 v b.length (b.flatMap Kz)
def Bw{S:gM}{V:Nat->Prop}{g:Nat}{n c:Nat}(h:bh S (only V) (.slice (ae ⟨g,0,ah⟩) n c) (.slice (ae ⟨g,0,ah⟩) n c)):V g:=by
 generalize a:di (ae ⟨g,0,ah⟩) n c=x at h;cases h with|slice l c b=>cases a;exact b.block.2|_=>cases a
def mY{S:gM}{V:Nat->Prop}{w w':ai}{v:ak}{E:az}{size n:Nat}{c:List ak}(j:bh S (only V) v v)(h:w.ownsRow 0 E size v n c)(i:∀r,V r->w'.heap[r]? =w.heap[r]?):w'.ownsRow 0 E size v n c:=by refine⟨h.1,?_⟩;rcases h.2 with d|⟨g,a,b,rfl,e,f,r⟩;exact .inl d;exact .inr ⟨g,a,b,rfl,e,(i g (Bw j)).trans f,r⟩
def EZ.keep{S:gM}{o:Nat->Prop}{w w':ai}{v:ak}{c:List aN}(h:EZ S o w v c)(e:∀r,o r->w'.heap[r]? =w.heap[r]?):EZ S o w' v c:=by obtain⟨V,b,i,d,j⟩:=h;exact⟨V,b,λr a=>let⟨k,f,g⟩:=i r a;⟨k,(e r (b r a)).trans f,g⟩,d,mY d j λr a=>e r (b r a)⟩
def jpB(S:gM)(a:Nat)(c:List ck)(b:List Sys)(o:Nat->Prop)(i:Nat)(w:ai):Prop:=∃v,w.cell? ⟨a,i,ah⟩=ae v/\EZ S o w v (c.map λr=>cq r.b (b.getD i dv))
structure MB(φ:Ph) (S:gM) (wp:ai) (b1 C:Nat) (fv:ak) (p:Nat) (γ:Gh) (w:ai) (V:Nat->Prop):Prop where
 o1:γ.own b1
 oC:γ.own C
 c1:w.cell? ⟨b1,0,ah⟩=ae (.pointer (ae ⟨φ.Wg,0,ah⟩))
 cC:w.heap[C]? =ae (.cells #[fv] 1)
 rd:∀b,φ.jB b->w.heap[b]? =wp.heap[b]?
 pay:∀b,φ.CB b->dp w b=dp wp b
 live:WgLive φ.ty φ.Wg w
 cb:∀r,γ.own r->¬φ.CB r/\¬φ.jB r/\r≠φ.Wg/\r<w.heap.size
 size:wp.heap.size<=w.heap.size
 hp:γ.held p
 vo:∀r,V r->γ.own r/\r≠b1/\r≠C
 vh:bS φ.P S (only V) w w
 td:∀i,γ.held i->i≠p->φ.JP (λb=>γ.own b/\b≠C/\¬V b) i w
 Zr:∀a,S.mem a=ah
section
variable{Z:Ph} {S:gM} {Y w X w':ai} {W C p:Nat} {U:ak} {T R:Gh} {V Q:Nat->Prop}
def MB.rely(O:Z.Ok)(h:MB Z S Y W C U p T w V)(r:Z.dQ T w X):MB Z S Y W C U p T X V:=⟨h.o1,h.oC,(bp (r.own W h.o1)).trans h.c1,(r.own C h.oC).trans h.cC,λb e=>(r.rd b e).trans (h.rd b e),λb e=>(r.pay b e).trans (h.pay b e),r.live h.live,λx f=>let⟨a,b,d,c⟩:=h.cb x f;⟨a,b,d,aW c r.size⟩,be h.size r.size,h.hp,h.vo,h.vh.rj r.size (λx f=>r.own x (h.vo x f).1) (λa x f=>by rw[h.Zr a]at f;cases f),λi g k=>O.jp _ w X i (λb e=>r.own b e.1) (λa j=>r.cell i a g j) (h.td i g k),h.Zr⟩
def MB.val(O:Z.Ok)(k:∀r,Z.jB r\/Z.CB r\/r=Z.Wg->r<Y.heap.size)(h:MB Z S Y W C U p T w V)(H:∀r,V r->Q r)(s:∀r,Q r->V r\/(w.heap.size<=r/\r<w'.heap.size))(t:bS Z.P S (only Q) w' w')(m:∀r,r<w.heap.size->¬V r->w'.heap[r]? =w.heap[r]?)(u:w.heap.size<=w'.heap.size):MB Z S Y W C U p (T.grow w w') w' Q:=by
 have I:=h.size;have E:∀r,Z.jB r\/Z.CB r\/r=Z.Wg->¬V r:=λr g j=>by obtain⟨a,b,c,_⟩:=h.cb r (h.vo r j).1;rcases g with g|g|g;exact b g;exact a g;exact c g
 have keep:∀r,Z.jB r\/Z.CB r\/r=Z.Wg->w'.heap[r]? =w.heap[r]?:=λr g=>m r (by have:=k r g;omega) (E r g)
 have B:w'.heap[W]? =w.heap[W]?:=m W (h.cb W h.o1).2.2.2 λj=>(h.vo W j).2.1 rfl
 have D:w'.heap[C]? =w.heap[C]?:=m C (h.cb C h.oC).2.2.2 λj=>(h.vo C j).2.2 rfl
 refine⟨.inl h.o1,.inl h.oC,(bp B).trans h.c1,D.trans h.cC,λb f=>(keep b (.inl f)).trans (h.rd b f),λb f=> ?_,?_,λx n=> ?_,be h.size u,h.hp,λr g=> ?_,t,λi y A=> ?_,h.Zr⟩;unfold dp;rw[keep b (.inr (.inl f))];exact h.pay b f;obtain⟨G,F,z⟩:=h.live;exact⟨G,F,(keep Z.Wg (.inr (.inr rfl))).trans z⟩;rcases n with n|⟨o,q⟩;obtain⟨a,b,c,d⟩:=h.cb x n;exact⟨a,b,c,by omega⟩;exact⟨λl=>by have:=k x (.inr (.inl l));omega,λl=>by have:=k x (.inl l);omega,λl=>by have:=k x (.inr (.inr l));omega,q⟩;rcases s r g with j|⟨o,q⟩;exact⟨.inl (h.vo r j).1,(h.vo r j).2⟩;exact⟨.inr ⟨o,q⟩,λe=>by have:=(h.cb W h.o1).2.2.2;omega,λe=>by have:=(h.cb C h.oC).2.2.2;omega⟩;refine O.qm (λb=>T.own b/\b≠C/\¬V b) _ w' i (λb f=>⟨.inl f.1,f.2.1,λj=> ?_⟩) (O.jp _ w w' i (λb f=>m b (h.cb b f.1).2.2.2 f.2.2) (λa v=> ?_) (h.td i y A));rcases s b j with j|⟨o,_⟩;exact f.2.2 j;have:=(h.cb b f.1).2.2.2;omega;exact bp (keep _ (.inr (.inl (O.la i a v))))
def MB.lone(O:Z.Ok)(j:∀r,Z.jB r\/Z.CB r\/r=Z.Wg->r<Y.heap.size)(h:MB Z S Y W C U p T w V)(l:∀r,T.own r->R.own r)(n:R.held=T.held)(q:∀r,R.own r->T.own r\/(w.heap.size<=r/\r<w'.heap.size))(e:Kept Z T T.own w w'):MB Z S Y W C U p R w' V:=by have v:=h.size;refine⟨l _ h.o1,l _ h.oC,(bp (e.st W h.o1)).trans h.c1,(e.st C h.oC).trans h.cC,λb f=>(e.rd b f).trans (h.rd b f),λb f=>(e.pay b f).trans (h.pay b f),e.live h.live,λx g=> ?_,be h.size e.size,n▸h.hp,λr o=>⟨l _ (h.vo r o).1,(h.vo r o).2⟩,h.vh.rj e.size (λx g=>e.st x (h.vo x g).1) (λa x g=>by rw[h.Zr a]at g;cases g),λi m t=> ?_,h.Zr⟩;rcases q x g with g|⟨y,u⟩;obtain⟨a,b,c,d⟩:=h.cb x g;exact⟨a,b,c,by have:=e.size;omega⟩;exact⟨λk=>by have:=j x (.inr (.inl k));omega,λk=>by have:=j x (.inl k);omega,λk=>by have:=j x (.inr (.inr k));omega,u⟩;rw[n]at m;exact O.qm (λb=>T.own b/\b≠C/\¬V b) _ w' i (λb f=>⟨l _ f.1,f.2⟩) (O.jp _ w w' i (λb f=>e.st b f.1) (λa s=>e.cell i a m s) (h.td i m t))
def MB.start(e:∀a,S.mem a=ah)(g:Z.P.globals.size<=Y.heap.size)(h:WK Z Y W C U T w)(l:¬T.held p)(O:Z.Ok):MB Z S Y W C U p (T.hold p) w (λ_=>False):=⟨h.o1,h.oC,h.c1,h.cC,h.rd,h.pay,h.live,h.cb,h.size,.inr rfl,λ_ d=>d.elim,⟨ug,λ_ _ d=>d.2.elim,be g h.size,be g h.size,λa x j=>by rw[e a]at j;cases j⟩,λi k c=>O.qm _ _ w i (λb f=>⟨f.1,f.2,λx=>x.elim⟩) (h.td i (k.resolve_right c)),e⟩
def MB.finish(O:Z.Ok)(h:MB Z S Y W C U p T w V)(d:Z.JP (λb=>T.own b/\b≠C) p w):WK Z Y W C U T w:=⟨h.o1,h.oC,h.c1,h.cC,h.rd,h.pay,h.live,h.cb,h.size,λi c=>by by_cases e:i=p;subst e;exact d;exact O.qm _ _ w i (λb a=>⟨a.1,a.2.1⟩) (h.td i c e)⟩
end
end
section
open Go.RowKit
section
variable{G:Nat->Prop} {Z w:ai} {l:List bU} {Y X W V U T:ak} {S:List Int} {R:List ck} {Q:List (Hd×Hd)}
def NK(h:In G Z (cI Y S::cm X R::ji W Q::cI V S::cm U R::ji T Q::l) w):Calls aj 15 #[.agg #[Y,X,W],.agg #[V,U,T]] w λe w'=>e=.returned (.bool ar)/\Below w.heap.size w w':=by
 obtain⟨o,q,rfl,z,A,_⟩:=cu h.rowAt;obtain⟨p,r,rfl,B,C,_⟩:=cu (h.nth 3 (by simp)).rowAt;have N:S.length<=maxLen:=by omega
 have H:=af h;clear h z A B C;go_enter func15,ntmps15;go_upto_region 1 with(fail)
 refine b9 (λw'=>cD w' (w.heap.size+1) 36 #[.slice p S.length r,U,T]/\cD w' w.heap.size 36 #[.slice o S.length q,X,W]/\Below w.heap.size w w') ⟨by have:=cD.new (w.alloc (.cells #[.slice o S.length q,X,W] 36)) 36 #[.slice p S.length r,U,T];rwa[cR]at this,(cD.new w _ _).alloc _,((Below.refl _ _).alloc (av _) _).alloc (by simp) _⟩ ?_
 generalize w.heap.size+1=F;generalize D:w.heap.size=E;rintro t ⟨b,a,s⟩;have J:t.cell? ⟨E,0,ah⟩=ae (.slice o S.length q):=a.cell 0;have K:t.cell? ⟨E,1,ah⟩=ae X:=a.cell 1;have L:t.cell? ⟨F,0,ah⟩=ae (.slice p S.length r):=b.cell 0;have M:t.cell? ⟨F,1,ah⟩=ae U:=b.cell 1;rw[<-D]at s;have d:=H.out.below s;have i:=af (Yz N d (d.nth 3 (by simp)));have j:=af (RJ (d.nth 1 (by simp)) (d.nth 4 (by simp)) rfl);have u:=af a;have v:=af b;have I:=af s;clear d a b s;go_wp2_with fail;refine i.out.mono ?_;rintro e n ⟨rfl,rfl⟩;go_wp2_with fail;refine j.out.mono ?_;rintro e n ⟨rfl,c⟩;have f:Below w.heap.size w n:=I.out.trans (c.mono I.out.size);have P:n.cell? ⟨E,2,ah⟩=ae W:=(u.out.after c).cell 2;have b2:n.cell? ⟨F,2,ah⟩=ae T:=(v.out.after c).cell 2;have d:=H.out.below f;have k:In G Z (ji W Q::ji T Q::cI (.slice o S.length q) S::cm X R::cI (.slice p S.length r) S::cm U R::l) n:=d.reorder 6 [2,5,0,1,3,4] rfl (by simp);have y:=af (Yy k);have g:=af f;clear d k f c i j J K L M;go_wp2_with fail;refine y.out.mono ?_;rintro e O ⟨rfl,m⟩;have x:Hid (Below w.heap.size w O):=g.out.trans (m.mono g.out.size);clear m;simp only[decide_true];go_wp2_with fail;go_ret;exact⟨rfl,x.out⟩
end
end
section
open Rel
open Go.Conc Go.ConcN
open Go.ConcR (Payload WgAt)
open Go.RowKit
noncomputable def qG(S:gM)(Pb:Nat)(xs:List ck)(ss:List Sys):GY:=⟨λb=>b=Pb,λi a=>a=⟨Pb,i,ah⟩,λi w=>w.cell? ⟨Pb,i,ah⟩=ae (.slice ah 0 0),jpB S Pb xs ss⟩
def E6(S:gM)(Pb:Nat)(xs:List ck)(ss:List Sys):(qG S Pb xs ss).Ok:=by refine⟨λi a h=>by have:a=⟨Pb,i,ah⟩:=h;rw[this];rfl,λi p a h j=> ?_,λo w b i l f h=> ?_,λw b i f h=>(f _ rfl).trans h,λo q w i m h=> ?_⟩;have e:a=⟨Pb,i,ah⟩:=h;have g:a=⟨Pb,p,ah⟩:=j;rw[e]at g;injection g;obtain⟨v,c,d⟩:=h;exact⟨v,(f _ rfl).trans c,d.keep l⟩;obtain⟨v,c,V,d,k⟩:=h;exact⟨v,c,V,λr n=>m r (d r n),k⟩
structure BRd(φ:Ph) (wp:ai) (B4 B7 B5 Pb:Nat) (xs:List ck) (ss:List Sys) (Bc Mh:ak):Prop where
 r4:φ.jB B4
 c4:wp.cell? ⟨B4,0,ah⟩=ae Bc
 r7:φ.jB B7
 c7:wp.cell? ⟨B7,0,ah⟩=ae (.slice (ae ⟨Pb,0,ah⟩) ss.length ss.length)
 r5:φ.jB B5
 c5:wp.cell? ⟨B5,0,ah⟩=ae Mh
 rows:∃A c,Bc=.slice A xs.length c/\∀j(h:j<xs.length),∃g,A=ae ⟨g,0,ah⟩/\φ.jB g/\row? wp g (j *11) 11=ae (ints xs[j].list)
 sys:∃A c,Mh=.slice A ss.length c/\∀j(h:j<ss.length),∃g,A=ae ⟨g,0,ah⟩/\φ.jB g/\row? wp g (j *7) 7=ae (ints ss[j].list)
 pb:dp wp Pb=ae (100,ss.length,0,0)
 okB:∀r∈xs,bT r.b=0/\r.b.v.length=8
 okS:∀s∈ss,eP s=0
 len:xs.length<=60
 lens:ss.length<=20
def cU(bd:bG->List Tmp)(old:Nat)(U:List Tmp):fg:={cfg bd old with bad:=SV U}
def y5(bd:bG->List Tmp)(old:Nat)(U:List Tmp):(cU bd old U).Fits aj:=let h:=Hp bd old;⟨h.fn,h.int,h.zero,h.elem,h.flat,h.ext⟩
def mZ{w w':ai}{g:Nat}(h:w'.heap[g]? =w.heap[g]?)(o n:Nat):row? w' g o n=row? w g o n:=by unfold row?;rw[h]
def sk{w:ai}{g o n:Nat}{b:Array ak}(h:row? w g o n=ae b):∀j,j<n->(w.cell? ⟨g,o+j,ah⟩).isSome:=by
 intro j i;unfold row? at h;unfold b3;cases a:w.heap[g]? with
 |none=>rw[a]at h;cases h|some d=>
  rw[a]at h;cases d with|cells c e f=>simp only at h|-;split at h;simp;omega;cases h|_=>cases h
noncomputable def uc:Code:=match f92.body with|some (.seq _ (.block _ (.loop x)))=>x|_=>.skip
section
variable{φ:Ph} {wp:ai} {Z:bG->List Tmp} {old:Nat} {Y X W Pb b1 C p:Nat} {fv:ak} {xs:List ck} {U:List Sys} {T R:ak}
structure JS(φ:Ph) (S:gM) (wp:ai) (b1 C Pb:Nat) (fv:ak) (p:Nat) (xs:List ck) (s:Sys) (H0:Nat->Prop) (ov:Prop) (j:Nat) (γ:Gh) (w:ai) (V:Nat->Prop) (cv sv:ak):Prop where
 mb:MB φ S wp b1 C fv p γ w V
 held:∀q,γ.held q↔H0 q
 over:γ.over=ov
 cell:w.cell? ⟨Pb,p,ah⟩=ae cv
 rel:bh S (only V) sv sv
 own:w.ownsRow 0 48 9 sv j ((xs.take j).flatMap λr=>Kz (cq r.b s))
def xS{S:gM}{b:Ren}(l:List Int):bh S b (.agg (ints l)) (.agg (ints l)):=(AE (S:=S) (ints l) λx a=>by simp[ints]at a;obtain⟨n,_,rfl⟩:=a;exact⟨_,_,rfl⟩).1 b
def FP{w:ai}{e:az}{size n:Nat}{v:ak}{xs:List ak}(h:w.ownsRow 0 e size v n xs):∀r,v.ownBlock=ae r->r<w.heap.size:=λr a=>(World.ownsRow.lt h r a).2
def Ru{w:ai}{g:Nat}{t:az}{a:Array ak}(h:cD w g t a)(n:Nat)(b:n<=a.size):fits w g 0 n=ar:=by unfold fits;unfold cD at h;rw[h];simpa using b
section
variable{S:gM} {s:Sys} {Q:Nat->Prop} {N:Prop} {j:Nat} {M P:Gh} {w L w':ai} {V K:Nat->Prop} {J I:ak}
def JS.rely(O:φ.Ok)(a:φ.jl p ⟨Pb,p,ah⟩)(h:JS φ S wp b1 C Pb fv p xs s Q N j M w V J I)(r:φ.dQ M w L):JS φ S wp b1 C Pb fv p xs s Q N j M L V J I:=⟨h.mb.rely O r,h.held,h.over,(r.cell p _ h.mb.hp a).trans h.cell,h.rel,mY h.rel h.own λx b=>r.own x (h.mb.vo x b).1⟩
def JS.val(O:φ.Ok)(f:φ.jl p ⟨Pb,p,ah⟩)(b:∀r,φ.jB r\/φ.CB r\/r=φ.Wg->r<wp.heap.size)(h:JS φ S wp b1 C Pb fv p xs s Q N j M w V J I)(i:∀r,V r->K r)(m:∀r,K r->V r\/(w.heap.size<=r/\r<w'.heap.size))(n:bS φ.P S (only K) w' w')(k:∀r,r<w.heap.size->¬V r->w'.heap[r]? =w.heap[r]?)(o:w.heap.size<=w'.heap.size)(q:∀r,I.ownBlock=ae r->w'.heap[r]? =w.heap[r]?):JS φ S wp b1 C Pb fv p xs s Q N j (M.grow w w') w' K J I:=by have a:=O.la p _ f;have y:=h.mb.size;refine⟨h.mb.val O b i m n k o,h.held,h.over,(bp (k Pb (by have:=b Pb (.inr (.inl a));omega) λv=>(h.mb.cb Pb (h.mb.vo Pb v).1).1 a)).trans h.cell,h.rel.mono (P:=φ.P) ⟨λ_ _ x=>⟨x.1,i _ x.2⟩,ug⟩,?_⟩;refine⟨h.own.1,?_⟩;rcases h.own.2 with l|⟨g,c,d,e,t,u,r⟩;exact .inl l;exact .inr ⟨g,c,d,e,t,(q g (by rw[e];rfl)).trans u,r⟩
def JS.lone(O:φ.Ok)(b:φ.jl p ⟨Pb,p,ah⟩)(d:∀r,φ.jB r\/φ.CB r\/r=φ.Wg->r<wp.heap.size)(h:JS φ S wp b1 C Pb fv p xs s Q N j M w V J I)(f:∀r,M.own r->P.own r)(e:P.held=M.held)(a:P.over=M.over)(g:∀r,P.own r->M.own r\/(w.heap.size<=r/\r<w'.heap.size))(c:Kept φ M M.own w w'):JS φ S wp b1 C Pb fv p xs s Q N j P w' V J I:=⟨h.mb.lone O d f e g c,λq=>by rw[e];exact h.held q,a.trans h.over,(c.cell p _ h.mb.hp b).trans h.cell,h.rel,mY h.rel h.own λx i=>c.st x (h.mb.vo x i).1⟩
end
def Gn(parts:Array (Nat×ak)):fK 100 1 parts=kS 100 parts:=rfl
def xH(w:ai)(a:Array ak)(h:a.size=9):(fK 100 1 #[(0,.agg a)]).run aj w=.ok (.slice (ae ⟨w.heap.size,0,ah⟩) 1 1) (w.alloc (.cells a 48)):=by rw[Gn,mA w _ _ 9 (List.replicate 9 (aS .i64 0)).toArray a underlying100 (by kernel_rfl) (by kernel_rfl) rfl (by decide) (by decide),if_pos h]
end
def vF:(Tryz.prog.info? 48).map (λi=>(i.zero,i.size,i.bytes))=ae (ae (.agg (ints [0,0,0,0,0,0,0,0,0])),9,72):=by kernel_rfl
def Ho{w:ai}{b o:Nat}{u:ak}(h:w.cell? ⟨b,o,ah⟩=ae u)(v:ak):(w.setCell ⟨b,o,ah⟩ v).cell? ⟨b,o,ah⟩=ae v:=by
 unfold b3 at h|-;unfold dC;simp only[br];cases a:w.heap[b]? with
 |none=>rw[a]at h;cases h|some d=>
  rw[a]at h;cases d with|cells c e f=>simp at h;simp only[eT,if_true,Option.isSome_none,cK,if_false,ite_true,ite_false];exact aK (aE.1 h).1|_=>cases h
def pM{w:ai}{a b:Addr}(h:b≠a)(i:a.spot=ah)(v:ak):(w.setCell a v).cell? b=w.cell? b:=by
 unfold b3 dC;simp only[br];by_cases g:a.block=b.block;rw[if_pos g];cases k:w.heap[b.block]? with
 |none=>rfl|some j=>
  cases j with
  |cells c e f=>
   simp only[eT,i];cases d:b.spot with
   |some x=>rfl|none=>
    have:a.off≠b.off:=λe=>h (by obtain⟨_,_,_⟩:=a;obtain⟨_,_,_⟩:=b;simp only at g e i d;subst g e i d;rfl)
    simp[aJ this]
  |_=>rfl
 rw[if_neg g]
def xl(w:ai)(a:Addr)(v:ak)(b:Nat):dp (w.setCell a v) b=dp w b:=by
 unfold dp dC;simp only[br];by_cases d:a.block=b;rw[if_pos d];cases h:w.heap[b]? with
 |none=>rfl|some g=>
  cases g with|cells c e f=>simp only[eT];split<;>simp|_=>rfl
 rw[if_neg d]
def vZ{w:ai}{b n:Nat}{e:az}(h:dp w b=ae (e,n,0,0))(o:Nat):w.frozen? ⟨b,o,ah⟩=au:=by
 unfold dp at h;unfold World.frozen?;simp only;cases g:w.heap[b]? with
 |none=>rfl|some i=>
  rw[g]at h;cases i with|cells c t a=>obtain⟨k,j⟩:=a;simp only[dm,Prod.mk.injEq]at h;obtain⟨_,_,d,f⟩:=h;simp[d,f]|_=>rfl
def DY{φ:Ph}{j:Gh}{w:ai}{Pb p:Nat}{v:ak}{f:Array Event}(c:φ.CB Pb)(g:j.held p)(h:φ.jl p ⟨Pb,p,ah⟩)(d:∀e∈f,e=⟨.cell ⟨Pb,p,ah⟩,ar,au⟩):φ.uP j w (w.setCell ⟨Pb,p,ah⟩ v) f:=by refine⟨λb m i k=>Below.heap_setCell w _ _ b λe=>k (e▸c),λa _ i=>pM (λe=>i p g (by rw[e];exact h)) rfl v,λb _=>xl _ _ _ _,by simp,rfl,rfl,rfl,λe l=> ?_⟩;rw[d e l];exact .inr ⟨rfl,Pb,rfl,.inr (.inl ⟨p,_,g,h,rfl⟩)⟩
def MB.Vh{φ:Ph}{S:gM}{wp w:ai}{b1 C p Pb:Nat}{fv:ak}{g:Gh}{V:Nat->Prop}(O:φ.Ok)(h:MB φ S wp b1 C fv p g w V)(d:φ.CB Pb)(m:φ.jl p ⟨Pb,p,ah⟩)(v:ak):MB φ S wp b1 C fv p g (w.setCell ⟨Pb,p,ah⟩ v) V:=by
 have uW:∀b,b≠Pb->(w.setCell ⟨Pb,p,ah⟩ v).heap[b]? =w.heap[b]?:=λb c=>Below.heap_setCell w _ _ b c
 have own:∀b,g.own b->b≠Pb:=λb c e=>(h.cb b c).1 (e▸d)
 refine⟨h.o1,h.oC,(bp (uW b1 (own b1 h.o1))).trans h.c1,(uW C (own C h.oC)).trans h.cC,λb c=>(uW b λe=>O.Oy Pb d (e▸c)).trans (h.rd b c),λb c=>(xl _ _ _ _).trans (h.pay b c),?_,λx f=> ?_,by simpa using h.size,h.hp,h.vo,h.vh.rj (by simp) (λx f=>uW x (own x (h.vo x f).1)) (λa x f=>by rw[h.Zr a]at f;cases f),λi l j=> ?_,h.Zr⟩;obtain⟨q,o,n⟩:=h.live;exact⟨q,o,(uW φ.Wg λe=>O.Oz (e▸d)).trans n⟩;simpa using h.cb x f;exact O.jp _ w _ i (λb c=>uW b (own b c.1)) (λa k=>pM (λe=>j (O.yi i p a k (by rw[e];exact m))) rfl v) (h.td i l j)
def xE{a:Array Oper}{L:Array Bool}{i:Nat}(h:i∈dB .any a L):i<a.size/\L.getD i ar=au/\∀o,a[i]? =ae o->∀e∈o.after,Region.binds .any e=ar->L.getD e.on au=ar:=by unfold dB at h;obtain⟨j,hp⟩:=cc.1 h;refine⟨gm.1 j,?_,λo g e d c=> ?_⟩;simp only[aG,fY]at hp;exact hp.1;rw[g]at hp;simp only[eT,bI,aG]at hp;obtain⟨k,f,rfl⟩:=Array.mem_iff_getElem.1 d;have:=Array.all_eq_true.1 hp.2 k f;simp only[Bool.or_eq_true,fY]at this;rcases this with b|b;rw[c]at b;cases b;exact b
def eB{L:Array Bool}{i j:Nat}{d:Bool}(h:i≠j):(L.setIfInBounds i ar).getD j d=L.getD j d:=by rw[aV,aJ h,<-aV]
def un{L:Array Bool}{i j:Nat}{d b:Bool}(a:i≠j)(h:(L.setIfInBounds i ar).getD j d=b):L.getD j d=b:=by rwa[eB a]at h
def bX{L:Array Bool}{i j:Nat}{d b:Bool}(h:(L.setIfInBounds i ar).getD j d=b)(a:i≠j:=by decide):L.getD j d=b:=un a h
def vn{L:Array Bool}{i:Nat}{d:Bool}(h:i<L.size):(L.setIfInBounds i ar).getD i d=ar:=by rw[aV,aK h];rfl
def Fo{L:Array Bool}{i:Nat}(a:i<L.size)(h:L.getD i ar=au):L.getD i au=au:=by rw[aV,aH a]at h|-;exact h
noncomputable def Gc:Array Oper:=match uc with|.seq _ (.seq _ (.seq (.block _ (.seq _ (.region _ a _))) _))=>a|_=>#[]
structure DI(φ:Ph) (S:gM) (wp:ai) (b1 C Pb:Nat) (fv:ak) (p:Nat) (xs:List ck) (ss:List Sys) (hp:p<ss.length) (H0:Nat->Prop) (ov:Prop) (j:Nat) (hj:j<xs.length) (rb gs:Nat) (sv Mh:ak) (L:Array Bool) (γ:Gh) (w:ai) (V:Nat->Prop) (jj:Nat) (cv pv ZX Xf Xg QU QV QW QX rF pY pZ pC pD pE pF oH pG:ak):Prop where
 js:JS φ S wp b1 C Pb fv p xs ss[p] H0 ov jj γ w V cv pv
 yg:V rb
 box:cD w rb 50 (ints (xs[j]).list)
 CS:L.getD 14 au=au->jj=j/\pv=sv
 GQ:L.getD 14 au=ar->jj=j+1/\pv=oH
 GU:L.getD 16 au=au->cv=sv
 uw:L.getD 16 au=ar->cv=oH
 uF:L.getD 16 au=ar->L.getD 5 au=ar/\L.getD 14 au=ar
 new:L.getD 13 au=ar->L.getD 14 au=au->∃nb,pF=.slice (ae ⟨nb,0,ah⟩) 1 1/\V nb/\cD w nb 48 (ints (cq xs[j].b ss[p]).list)
 d0:L.getD 0 au=ar->ZX=(.slice (ae ⟨Pb,0,ah⟩) ss.length ss.length)
 d1:L.getD 1 au=ar->Xf=(.int .i64 p)
 d2:L.getD 2 au=ar->Xg=(.slice (ae ⟨Pb,0,ah⟩) ss.length ss.length)
 d3:L.getD 3 au=ar->QU=(.int .i64 p)
 d4:L.getD 4 au=ar->QV=(.pointer (ae ⟨Pb,p,ah⟩))
 d5:L.getD 5 au=ar->QW=sv
 d6:L.getD 6 au=ar->QX=(.pointer (ae ⟨rb,2,ah⟩))
 d7:L.getD 7 au=ar->rF=(.agg (ints xs[j].b.list))
 d8:L.getD 8 au=ar->pY=Mh
 d9:L.getD 9 au=ar->pZ=(.int .i64 p)
 d10:L.getD 10 au=ar->pC=(.pointer (ae ⟨gs,p *7,ah⟩))
 d11:L.getD 11 au=ar->pD=(.agg (ints ss[p].list))
 d12:L.getD 12 au=ar->pE=(.agg (ints (cq xs[j].b ss[p]).list))
 d15:L.getD 15 au=ar->pG=(.pointer (ae ⟨Pb,p,ah⟩))
section
variable{φ:Ph} {Z:ai} {Y:bG->List Tmp} {old:Nat} {X W T S Q C p:Nat} {N:ak} {M:List ck} {J:List Sys} {I H:ak}
def La(O:φ.Ok)(hP:φ.P=aj)(l6:∀r,φ.jB r\/φ.CB r\/r=φ.Wg->r<Z.heap.size)(Af:∀ad,φ.jl p ad↔ad=⟨S,p,ah⟩)(hR:BRd φ Z X W T S M J I H)(hp:p<J.length){H0:Nat->Prop}{ov:Prop}{j:Nat}(hj:j<M.length){rb:Nat}{sv x4 x5 QT N8 N9 Cz:ak}{cs:List aY}{k:List Item}{id:Nat}(K:∀γ w V y z A B D E F rF pY pZ pC pD pE pF oH pG sv',JS φ (cfg Y old).sig Z Q C S N p M J[p] H0 ov (j+1) γ w V sv' sv'->φ.WT γ (G ((base 92).at ⟨#[.int .i64 p,.pointer (ae ⟨X,0,ah⟩),.pointer (ae ⟨W,0,ah⟩),.pointer (ae ⟨T,0,ah⟩),x4,x5,.pointer (ae ⟨rb,0,ah⟩),I,.int .i64 M.length,.int .i64 j,QT,N8,N9,y,z,A,B,D,E,F,rF,pY,pZ,pC,pD,pE,pF,oH,pG,Cz],[]⟩ k) cs) w)(γ:Gh)(w:ai)(V:Nat->Prop)(y z A B D E F rF pY pZ pC pD pE pF oH pG:ak)(h:JS φ (cfg Y old).sig Z Q C S N p M J[p] H0 ov j γ w V sv sv)(yg:V rb)(hB:cD w rb 50 (ints (M[j]).list))(zd:∀r,sv.ownBlock=ae r->r<rb):φ.WT γ (G ((base 92).at ⟨#[.int .i64 p,.pointer (ae ⟨X,0,ah⟩),.pointer (ae ⟨W,0,ah⟩),.pointer (ae ⟨T,0,ah⟩),x4,x5,.pointer (ae ⟨rb,0,ah⟩),I,.int .i64 M.length,.int .i64 j,QT,N8,N9,y,z,A,B,D,E,F,rF,pY,pZ,pC,pD,pE,pF,oH,pG,Cz],[]⟩ (.code (.region id Gc ar)::k)) cs) w:=by
 obtain⟨As,cS,hsv,aa6⟩:=hR.sys;obtain⟨gs,rfl,YX,aa5⟩:=aa6 p hp;clear aa6;subst hsv;have hpI:(p:Int)<J.length:=by omega
 have XI:=hR.lens;have hb8:=(hR.okB M[j] (aR hj)).2;have hbe:=(hR.okB M[j] (aR hj)).1;have hse:=hR.okS J[p] (aR hp);have hl9:(cq M[j].b J[p]).list.length=9:=by simp[aN.list,fF,hb8]
 have ac3:M[j].b.list.length=9:=by simp[aN.list,hb8]
 refine Ph.WT.drawn O (by rw[hP];kernel_rfl) λn=> ?_
 unfold Region.linearise;have Ag:Gc.size=17:=by kernel_rfl
 have O7:wu Gc=ar:=by kernel_rfl
 simp only[Gc,uc,f92]at Ag O7|-;refine Ph.WT.Hb (φ:=φ) (b:=base 92) (k:=k) (cs:=cs)
  (λL a w γ=>L.size=17/\∃(V:Nat->Prop)(jj:Nat)(cv pv y z A B D E F rF pY pZ pC pD pE pF oH pG:ak),a=⟨#[.int .i64 p,.pointer (ae ⟨X,0,ah⟩),.pointer (ae ⟨W,0,ah⟩),.pointer (ae ⟨T,0,ah⟩),x4,x5,.pointer (ae ⟨rb,0,ah⟩),I,.int .i64 M.length,.int .i64 j,QT,N8,N9,y,z,A,B,D,E,F,rF,pY,pZ,pC,pD,pE,pF,oH,pG,Cz],[]⟩/\DI φ (cfg Y old).sig Z Q C S N p M J hp H0 ov j hj rb gs sv (.slice (ae ⟨gs,0,ah⟩) J.length cS) L γ w V jj cv pv y z A B D E F rF pY pZ pC pD pE pF oH pG)
  ?_ ?_ _ _ _ _ _ _ (by simp) (be List.countP_le_length (by simp)) ?_
 rintro L a w γ ⟨yh,V,jj,cv,pv,y,z,A,B,D,E,F,rF,pY,pZ,pC,pD,pE,pF,oH,pG,rfl,h⟩ Iz;have uY:=qv O7 (yh.trans Ag.symm) Iz;rw[Ag]at uY;have t14:L.getD 14 au=ar:=by have:=uY 14 (by omega);rw[aV,aH (by omega)]at this|-;exact this
 have t16:L.getD 16 au=ar:=by have:=uY 16 (by omega);rw[aV,aH (by omega)]at this|-;exact this
 have hjs:=h.js;rw[(h.GQ t14).1,(h.GQ t14).2,h.uw t16]at hjs;refine gG O ?_;exact K _ _ _ y z A B D E F rF pY pZ pC pD pE pF oH pG _ hjs
 ·rintro L a w γ yh ⟨-,V,jj,cv,pv,y,z,A,B,D,E,F,rF,pY,pZ,pC,pD,pE,pF,oH,pG,rfl,h⟩ i hi rest Kx;obtain⟨aaW,Sv,s⟩:=xE hi;rw[Ag]at aaW;have VG:=Fo (by rw[yh,Ag];exact aaW:i<L.size) Sv;have YN:L.size=17:=yh.trans Ag;have u:(L.setIfInBounds i ar).size=17:=by simpa using YN
  clear hi Sv;rcases(by omega:i=0\/i=1\/i=2\/i=3\/i=4\/i=5\/i=6\/i=7\/i=8\/i=9\/i=10\/i=11\/i=12\/i=13\/i=14\/i=15\/i=16)with rfl|rfl|rfl|rfl|rfl|rfl|rfl|rfl|rfl|rfl|rfl|rfl|rfl|rfl|rfl|rfl|rfl
  ·have hc:∀m,φ.dQ γ w m->m.cell? ⟨W,0,ah⟩=ae (.slice (ae ⟨S,0,ah⟩) J.length J.length):=λm q=>(bp ((q.rd W hR.r7).trans (h.js.mb.rd W hR.r7))).trans hR.c7
   refine lL O (.slice (ae ⟨S,0,ah⟩) J.length J.length) (ad:=⟨W,0,ah⟩) rfl rfl (by simp[base]) (.inr hR.r7) (λm q=>by have hc:=hc m q;rw[hP];go_simp) (λm q e he=>by have hc:=hc m q;rw[hP]at he;simp[go_sem, *]at he;exact he) ?_;refine Kx _ _ _ ⟨u,V,jj,cv,pv,_,z,A,B,D,E,F,rF,pY,pZ,pC,pD,pE,pF,oH,pG,rfl,⟨h.js,h.yg,h.box,λl=>h.CS (bX l),λl=>h.GQ (bX l),λl=>h.GU (bX l),λl=>h.uw (bX l),λl=>⟨(eB (by decide)).trans (h.uF (bX l)).1,(eB (by decide)).trans (h.uF (bX l)).2⟩,λh1 h2=>h.new (bX h1) (bX h2),λ_=>rfl,λl=>h.d1 (bX l),λl=>h.d2 (bX l),λl=>h.d3 (bX l),λl=>h.d4 (bX l),λl=>h.d5 (bX l),λl=>h.d6 (bX l),λl=>h.d7 (bX l),λl=>h.d8 (bX l),λl=>h.d9 (bX l),λl=>h.d10 (bX l),λl=>h.d11 (bX l),λl=>h.d12 (bX l),λl=>h.d15 (bX l)⟩⟩
  ·refine dY O (.int .i64 p) rfl rfl (by simp[base]) (λw _=>by rw[hP];go_simp) (λw _=>by rw[hP];simp[go_sem, *]) ?_;refine Kx _ _ _ ⟨u,V,jj,cv,pv,y,_,A,B,D,E,F,rF,pY,pZ,pC,pD,pE,pF,oH,pG,rfl,⟨h.js,h.yg,h.box,λl=>h.CS (bX l),λl=>h.GQ (bX l),λl=>h.GU (bX l),λl=>h.uw (bX l),λl=>⟨(eB (by decide)).trans (h.uF (bX l)).1,(eB (by decide)).trans (h.uF (bX l)).2⟩,λh1 h2=>h.new (bX h1) (bX h2),λl=>h.d0 (bX l),λ_=>rfl,λl=>h.d2 (bX l),λl=>h.d3 (bX l),λl=>h.d4 (bX l),λl=>h.d5 (bX l),λl=>h.d6 (bX l),λl=>h.d7 (bX l),λl=>h.d8 (bX l),λl=>h.d9 (bX l),λl=>h.d10 (bX l),λl=>h.d11 (bX l),λl=>h.d12 (bX l),λl=>h.d15 (bX l)⟩⟩
  ·have hc:∀m,φ.dQ γ w m->m.cell? ⟨W,0,ah⟩=ae (.slice (ae ⟨S,0,ah⟩) J.length J.length):=λm q=>(bp ((q.rd W hR.r7).trans (h.js.mb.rd W hR.r7))).trans hR.c7
   refine lL O (.slice (ae ⟨S,0,ah⟩) J.length J.length) (ad:=⟨W,0,ah⟩) rfl rfl (by simp[base]) (.inr hR.r7) (λm q=>by have hc:=hc m q;rw[hP];go_simp) (λm q e he=>by have hc:=hc m q;rw[hP]at he;simp[go_sem, *]at he;exact he) ?_;refine Kx _ _ _ ⟨u,V,jj,cv,pv,y,z,_,B,D,E,F,rF,pY,pZ,pC,pD,pE,pF,oH,pG,rfl,⟨h.js,h.yg,h.box,λl=>h.CS (bX l),λl=>h.GQ (bX l),λl=>h.GU (bX l),λl=>h.uw (bX l),λl=>⟨(eB (by decide)).trans (h.uF (bX l)).1,(eB (by decide)).trans (h.uF (bX l)).2⟩,λh1 h2=>h.new (bX h1) (bX h2),λl=>h.d0 (bX l),λl=>h.d1 (bX l),λ_=>rfl,λl=>h.d3 (bX l),λl=>h.d4 (bX l),λl=>h.d5 (bX l),λl=>h.d6 (bX l),λl=>h.d7 (bX l),λl=>h.d8 (bX l),λl=>h.d9 (bX l),λl=>h.d10 (bX l),λl=>h.d11 (bX l),λl=>h.d12 (bX l),λl=>h.d15 (bX l)⟩⟩
  ·refine dY O (.int .i64 p) rfl rfl (by simp[base]) (λw _=>by rw[hP];go_simp) (λw _=>by rw[hP];simp[go_sem, *]) ?_;refine Kx _ _ _ ⟨u,V,jj,cv,pv,y,z,A,_,D,E,F,rF,pY,pZ,pC,pD,pE,pF,oH,pG,rfl,⟨h.js,h.yg,h.box,λl=>h.CS (bX l),λl=>h.GQ (bX l),λl=>h.GU (bX l),λl=>h.uw (bX l),λl=>⟨(eB (by decide)).trans (h.uF (bX l)).1,(eB (by decide)).trans (h.uF (bX l)).2⟩,λh1 h2=>h.new (bX h1) (bX h2),λl=>h.d0 (bX l),λl=>h.d1 (bX l),λl=>h.d2 (bX l),λ_=>rfl,λl=>h.d4 (bX l),λl=>h.d5 (bX l),λl=>h.d6 (bX l),λl=>h.d7 (bX l),λl=>h.d8 (bX l),λl=>h.d9 (bX l),λl=>h.d10 (bX l),λl=>h.d11 (bX l),λl=>h.d12 (bX l),λl=>h.d15 (bX l)⟩⟩
  ·obtain rfl:=h.d2 (s _ rfl ⟨2,.data⟩ (by simp) rfl);obtain rfl:=h.d3 (s _ rfl ⟨3,.data⟩ (by simp) rfl);refine dY O (.pointer (ae ⟨S,p,ah⟩)) rfl rfl (by simp[base]) (λw _=>by rw[hP];go_simp) (λw _=>by rw[hP];simp[go_sem, *]) ?_;refine Kx _ _ _ ⟨u,V,jj,cv,pv,y,z,_,_,_,E,F,rF,pY,pZ,pC,pD,pE,pF,oH,pG,rfl,⟨h.js,h.yg,h.box,λl=>h.CS (bX l),λl=>h.GQ (bX l),λl=>h.GU (bX l),λl=>h.uw (bX l),λl=>⟨(eB (by decide)).trans (h.uF (bX l)).1,(eB (by decide)).trans (h.uF (bX l)).2⟩,λh1 h2=>h.new (bX h1) (bX h2),λl=>h.d0 (bX l),λl=>h.d1 (bX l),λl=>h.d2 (bX l),λl=>h.d3 (bX l),λ_=>rfl,λl=>h.d5 (bX l),λl=>h.d6 (bX l),λl=>h.d7 (bX l),λl=>h.d8 (bX l),λl=>h.d9 (bX l),λl=>h.d10 (bX l),λl=>h.d11 (bX l),λl=>h.d12 (bX l),λl=>h.d15 (bX l)⟩⟩
  ·obtain rfl:=h.d4 (s _ rfl ⟨4,.data⟩ (by simp) rfl);have YH:L.getD 16 au=au:=by
    cases YH:L.getD 16 au with|false=>rfl|true=>rw[(h.uF YH).1]at VG;cases VG
   have hcv:=h.GU YH;have hc:∀m,φ.dQ γ w m->m.cell? ⟨S,p,ah⟩=ae sv:=λm q=>by rw[<-hcv];exact(h.js.rely O ((Af _).2 rfl) q).cell
   refine .pure O sv rfl rfl (by simp[base]) (λm q=>by have hc:=hc m q;rw[hP];go_simp) (λm q e he=>by have hc:=hc m q;rw[hP]at he;simp[go_sem, *]at he;subst he;exact .inr ⟨rfl,S,rfl,.inr (.inl ⟨p,⟨S,p,ah⟩,h.js.mb.hp,(Af _).2 rfl,rfl⟩)⟩) ?_
   refine Kx _ _ _ ⟨u,V,jj,cv,pv,y,z,A,B,_,_,F,rF,pY,pZ,pC,pD,pE,pF,oH,pG,rfl,⟨h.js,h.yg,h.box,λl=>h.CS (bX l),λl=>h.GQ (bX l),λl=>h.GU (bX l),λl=>h.uw (bX l),λl=>⟨vn (by omega),(eB (by decide)).trans (h.uF (bX l)).2⟩,λh1 h2=>h.new (bX h1) (bX h2),λl=>h.d0 (bX l),λl=>h.d1 (bX l),λl=>h.d2 (bX l),λl=>h.d3 (bX l),λl=>h.d4 (bX l),λ_=>rfl,λl=>h.d6 (bX l),λl=>h.d7 (bX l),λl=>h.d8 (bX l),λl=>h.d9 (bX l),λl=>h.d10 (bX l),λl=>h.d11 (bX l),λl=>h.d12 (bX l),λl=>h.d15 (bX l)⟩⟩
  ·refine dY O (.pointer (ae ⟨rb,2,ah⟩)) rfl rfl (by simp[base]) (λw _=>by rw[hP];go_simp) (λw _=>by rw[hP];simp[go_sem, *]) ?_;refine Kx _ _ _ ⟨u,V,jj,cv,pv,y,z,A,B,D,E,_,rF,pY,pZ,pC,pD,pE,pF,oH,pG,rfl,⟨h.js,h.yg,h.box,λl=>h.CS (bX l),λl=>h.GQ (bX l),λl=>h.GU (bX l),λl=>h.uw (bX l),λl=>⟨(eB (by decide)).trans (h.uF (bX l)).1,(eB (by decide)).trans (h.uF (bX l)).2⟩,λh1 h2=>h.new (bX h1) (bX h2),λl=>h.d0 (bX l),λl=>h.d1 (bX l),λl=>h.d2 (bX l),λl=>h.d3 (bX l),λl=>h.d4 (bX l),λl=>h.d5 (bX l),λ_=>rfl,λl=>h.d7 (bX l),λl=>h.d8 (bX l),λl=>h.d9 (bX l),λl=>h.d10 (bX l),λl=>h.d11 (bX l),λl=>h.d12 (bX l),λl=>h.d15 (bX l)⟩⟩
  obtain rfl:=h.d6 (s _ rfl ⟨6,.data⟩ (by simp) rfl);have hr:∀m,φ.dQ γ w m->row? m rb 2 9=ae (ints M[j].b.list):=λm q=>by rw[cD.ei ((q.own rb (h.js.mb.vo rb h.yg).1).trans h.box) 2 9 (by simp[ck.list,ac3])];show ae (ints (M[j].b.list.take 9))=_;rw[cB (by omega)]
  refine .pure O (.agg (ints M[j].b.list)) rfl rfl (by simp[base]) (λm q=>by have hr:=hr m q;rw[hP];go_simp) (λm q e he=>by rw[hP]at he;obtain⟨ad,rfl,O2⟩:=mo (P:=aj) (t:=48) (g:=rb) (o:=2) (n:=9) underlying48 (by kernel_rfl) (sk (hr m q)) e (by simpa[execOp,bJ]using he);exact .inr ⟨rfl,ad.block,rfl,.inl (O2▸(h.js.mb.vo rb h.yg).1)⟩) ?_
  refine Kx _ _ _ ⟨u,V,jj,cv,pv,y,z,A,B,D,E,_,_,pY,pZ,pC,pD,pE,pF,oH,pG,rfl,⟨h.js,h.yg,h.box,λl=>h.CS (bX l),λl=>h.GQ (bX l),λl=>h.GU (bX l),λl=>h.uw (bX l),λl=>⟨(eB (by decide)).trans (h.uF (bX l)).1,(eB (by decide)).trans (h.uF (bX l)).2⟩,λh1 h2=>h.new (bX h1) (bX h2),λl=>h.d0 (bX l),λl=>h.d1 (bX l),λl=>h.d2 (bX l),λl=>h.d3 (bX l),λl=>h.d4 (bX l),λl=>h.d5 (bX l),λl=>h.d6 (bX l),λ_=>rfl,λl=>h.d8 (bX l),λl=>h.d9 (bX l),λl=>h.d10 (bX l),λl=>h.d11 (bX l),λl=>h.d12 (bX l),λl=>h.d15 (bX l)⟩⟩
  ·have hc:∀m,φ.dQ γ w m->m.cell? ⟨T,0,ah⟩=ae (.slice (ae ⟨gs,0,ah⟩) J.length cS):=λm q=>(bp ((q.rd T hR.r5).trans (h.js.mb.rd T hR.r5))).trans hR.c5
   refine lL O (.slice (ae ⟨gs,0,ah⟩) J.length cS) (ad:=⟨T,0,ah⟩) rfl rfl (by simp[base]) (.inr hR.r5) (λm q=>by have hc:=hc m q;rw[hP];go_simp) (λm q e he=>by have hc:=hc m q;rw[hP]at he;simp[go_sem, *]at he;exact he) ?_;refine Kx _ _ _ ⟨u,V,jj,cv,pv,y,z,A,B,D,E,F,rF,_,pZ,pC,pD,pE,pF,oH,pG,rfl,⟨h.js,h.yg,h.box,λl=>h.CS (bX l),λl=>h.GQ (bX l),λl=>h.GU (bX l),λl=>h.uw (bX l),λl=>⟨(eB (by decide)).trans (h.uF (bX l)).1,(eB (by decide)).trans (h.uF (bX l)).2⟩,λh1 h2=>h.new (bX h1) (bX h2),λl=>h.d0 (bX l),λl=>h.d1 (bX l),λl=>h.d2 (bX l),λl=>h.d3 (bX l),λl=>h.d4 (bX l),λl=>h.d5 (bX l),λl=>h.d6 (bX l),λl=>h.d7 (bX l),λ_=>rfl,λl=>h.d9 (bX l),λl=>h.d10 (bX l),λl=>h.d11 (bX l),λl=>h.d12 (bX l),λl=>h.d15 (bX l)⟩⟩
  ·refine dY O (.int .i64 p) rfl rfl (by simp[base]) (λw _=>by rw[hP];go_simp) (λw _=>by rw[hP];simp[go_sem, *]) ?_;refine Kx _ _ _ ⟨u,V,jj,cv,pv,y,z,A,B,D,E,F,rF,pY,_,pC,pD,pE,pF,oH,pG,rfl,⟨h.js,h.yg,h.box,λl=>h.CS (bX l),λl=>h.GQ (bX l),λl=>h.GU (bX l),λl=>h.uw (bX l),λl=>⟨(eB (by decide)).trans (h.uF (bX l)).1,(eB (by decide)).trans (h.uF (bX l)).2⟩,λh1 h2=>h.new (bX h1) (bX h2),λl=>h.d0 (bX l),λl=>h.d1 (bX l),λl=>h.d2 (bX l),λl=>h.d3 (bX l),λl=>h.d4 (bX l),λl=>h.d5 (bX l),λl=>h.d6 (bX l),λl=>h.d7 (bX l),λl=>h.d8 (bX l),λ_=>rfl,λl=>h.d10 (bX l),λl=>h.d11 (bX l),λl=>h.d12 (bX l),λl=>h.d15 (bX l)⟩⟩
  ·obtain rfl:=h.d8 (s _ rfl ⟨8,.data⟩ (by simp) rfl);obtain rfl:=h.d9 (s _ rfl ⟨9,.data⟩ (by simp) rfl);refine dY O (.pointer (ae ⟨gs,p *7,ah⟩)) rfl rfl (by simp[base]) (λw _=>by rw[hP];go_simp) (λw _=>by rw[hP];simp[go_sem, *]) ?_;refine Kx _ _ _ ⟨u,V,jj,cv,pv,y,z,A,B,D,E,F,rF,_,_,_,pD,pE,pF,oH,pG,rfl,⟨h.js,h.yg,h.box,λl=>h.CS (bX l),λl=>h.GQ (bX l),λl=>h.GU (bX l),λl=>h.uw (bX l),λl=>⟨(eB (by decide)).trans (h.uF (bX l)).1,(eB (by decide)).trans (h.uF (bX l)).2⟩,λh1 h2=>h.new (bX h1) (bX h2),λl=>h.d0 (bX l),λl=>h.d1 (bX l),λl=>h.d2 (bX l),λl=>h.d3 (bX l),λl=>h.d4 (bX l),λl=>h.d5 (bX l),λl=>h.d6 (bX l),λl=>h.d7 (bX l),λl=>h.d8 (bX l),λl=>h.d9 (bX l),λ_=>rfl,λl=>h.d11 (bX l),λl=>h.d12 (bX l),λl=>h.d15 (bX l)⟩⟩
  obtain rfl:=h.d10 (s _ rfl ⟨10,.data⟩ (by simp) rfl);have hr:∀m,φ.dQ γ w m->row? m gs (p *7) 7=ae (ints J[p].list):=λm q=>(mZ ((q.rd gs YX).trans (h.js.mb.rd gs YX)) _ _).trans aa5
  refine .pure O (.agg (ints J[p].list)) rfl rfl (by simp[base]) (λm q=>by have hr:=hr m q;rw[hP];go_simp) (λm q e he=>by rw[hP]at he;obtain⟨ad,rfl,O2⟩:=mo (P:=aj) (t:=54) (g:=gs) (o:=p *7) (n:=7) underlying54 (by kernel_rfl) (sk (hr m q)) e (by simpa[execOp,bJ]using he);exact .inr ⟨rfl,ad.block,rfl,.inr (.inr ⟨rfl,O2▸YX⟩)⟩) ?_
  refine Kx _ _ _ ⟨u,V,jj,cv,pv,y,z,A,B,D,E,F,rF,pY,pZ,_,_,pE,pF,oH,pG,rfl,⟨h.js,h.yg,h.box,λl=>h.CS (bX l),λl=>h.GQ (bX l),λl=>h.GU (bX l),λl=>h.uw (bX l),λl=>⟨(eB (by decide)).trans (h.uF (bX l)).1,(eB (by decide)).trans (h.uF (bX l)).2⟩,λh1 h2=>h.new (bX h1) (bX h2),λl=>h.d0 (bX l),λl=>h.d1 (bX l),λl=>h.d2 (bX l),λl=>h.d3 (bX l),λl=>h.d4 (bX l),λl=>h.d5 (bX l),λl=>h.d6 (bX l),λl=>h.d7 (bX l),λl=>h.d8 (bX l),λl=>h.d9 (bX l),λl=>h.d10 (bX l),λ_=>rfl,λl=>h.d12 (bX l),λl=>h.d15 (bX l)⟩⟩;obtain rfl:=h.d7 (s _ rfl ⟨7,.data⟩ (by simp) rfl);obtain rfl:=h.d11 (s _ rfl ⟨11,.data⟩ (by simp) rfl);have acI:φ.P.funcs[39]? =ae f39:=by rw[hP];exact func39
  have aeh:=h.js.mb.size;have acW:(cfg Y old).fn 39=ar:=by show ta.contains (39)=ar;decide+kernel
  have aaS:∀tp d,Calls aj 39 #[.agg (ints M[j].b.list),.agg (ints J[p].list)] (cL w tp d) (λe _=>e=.returned (.agg (ints (cq M[j].b J[p]).list))):=λtp d=>(RF M[j].b J[p] hb8 hbe hse (cL w tp d)).mono λe w' h=>h.1
  refine Ph.WT.abb O (c:=cfg Y old) (f:=39) (R:=λe _=>e=.returned (.agg (ints (cq M[j].b J[p]).list))) (St:=γ.own) (by rw[hP];exact Hp Y old) rfl rfl (by simp[base]) rfl acW rfl acI rfl rfl (λv hv=>by
   simp[bJ]at hv;rcases hv with rfl|rfl<;>exact λπ=>xS _) (h.js.mb.vh.kr) (λtp d=>by
   rw[hP];walk_nrm;exact aaS tp d) (λe L h=>⟨_,h,AE _ λx hx=>by simp[ints]at hx;obtain⟨n,_,rfl⟩:=hx;exact⟨_,_,rfl⟩⟩)
   (λr hr=>(h.js.mb.cb r hr).1) (λr hr=>by have:=l6 r (.inr (.inl hr));omega) (λr hr=>⟨by have:=l6 r (.inl hr);omega,λho=>(h.js.mb.cb r ho).2.1 hr⟩) (λr hr=>⟨hr,(h.js.mb.cb r hr).2.2.2⟩) ⟨by have:=l6 φ.Wg (.inr (.inr rfl));omega,λho=>(h.js.mb.cb _ ho).2.2.1 rfl⟩ ?_
  intro v Lw γ' w' hr h1 h2 h2' h3 hk;injection hr with hr;subst hr;refine Kx _ _ _ ⟨u,V,jj,cv,pv,y,z,A,B,D,E,F,_,pY,pZ,pC,_,_,pF,oH,pG,rfl,⟨h.js.lone O ((Af _).2 rfl) l6 h1 h2 h2' h3 hk,h.yg,(hk.st rb (h.js.mb.vo rb h.yg).1).trans h.box,λl=>h.CS (bX l),λl=>h.GQ (bX l),λl=>h.GU (bX l),λl=>h.uw (bX l),λl=>⟨(eB (by decide)).trans (h.uF (bX l)).1,(eB (by decide)).trans (h.uF (bX l)).2⟩,λh1 h2=>let⟨nb,e1,e2,e3⟩:=h.new (bX h1) (bX h2);⟨nb,e1,e2,(hk.st nb (h.js.mb.vo nb e2).1).trans e3⟩,λl=>h.d0 (bX l),λl=>h.d1 (bX l),λl=>h.d2 (bX l),λl=>h.d3 (bX l),λl=>h.d4 (bX l),λl=>h.d5 (bX l),λl=>h.d6 (bX l),λl=>h.d7 (bX l),λl=>h.d8 (bX l),λl=>h.d9 (bX l),λl=>h.d10 (bX l),λl=>h.d11 (bX l),λ_=>rfl,λl=>h.d15 (bX l)⟩⟩;obtain rfl:=h.d12 (s _ rfl ⟨12,.data⟩ (by simp) rfl);have O8:∀r,φ.CB r->r<w.heap.size:=λr hr=>by have:=l6 r (.inr (.inl hr));have:=h.js.mb.size;omega
  refine Mt (c:=cU Y old [25]) (V:=V) (by rw[hP];exact y5 Y old [25]) (λr hr=>(h.js.mb.vo r hr).1) (λr hr=>(h.js.mb.cb r hr).1) O8 h.js.mb.vh rfl rfl (by simp[base]) (by kernel_rfl) (Fi (U:=[25]) rfl (by simp) (λt ht=>by
   simp only[b6,gX,or_false]at ht;subst ht;exact xS _))
   (λm v w'=>v=.slice (ae ⟨m.heap.size,0,ah⟩) 1 1/\w'=m.alloc (.cells (ints (cq M[j].b J[p]).list) 48)) (λm q=>⟨_,_,by rw[hP];have hb:=xH m (ints (cq M[j].b J[p]).list) (by simp[ints,hl9]);simp[execOp,bJ,hb];rfl,rfl,rfl⟩) ?_
  rintro m v w' V' q ⟨rfl,rfl⟩ k1 k2 k3 k6 k4 k5;have hpv:=FP (h.js.rely O ((Af _).2 rfl) q).own;have YT:cD m rb 50 (ints (M[j]).list):=(q.own rb (h.js.mb.vo rb h.yg).1).trans h.box;refine Kx _ _ _ ⟨u,V',jj,cv,pv,y,z,A,B,D,E,F,rF,pY,pZ,pC,pD,_,_,oH,pG,rfl,⟨(h.js.rely O ((Af _).2 rfl) q).val O ((Af _).2 rfl) l6 k1 k2 k3 k4 k5 (λr hr=>Below.heap_alloc m _ r (hpv r hr)),k1 rb h.yg,(Below.heap_alloc m _ rb YT.lt).trans YT,λl=>h.CS (bX l),λl=>h.GQ (bX l),λl=>h.GU (bX l),λl=>h.uw (bX l),λl=>⟨(eB (by decide)).trans (h.uF (bX l)).1,(eB (by decide)).trans (h.uF (bX l)).2⟩,λ_ _=>⟨m.heap.size,rfl,Bw k6,cD.new m _ _⟩,λl=>h.d0 (bX l),λl=>h.d1 (bX l),λl=>h.d2 (bX l),λl=>h.d3 (bX l),λl=>h.d4 (bX l),λl=>h.d5 (bX l),λl=>h.d6 (bX l),λl=>h.d7 (bX l),λl=>h.d8 (bX l),λl=>h.d9 (bX l),λl=>h.d10 (bX l),λl=>h.d11 (bX l),λl=>h.d12 (bX l),λl=>h.d15 (bX l)⟩⟩;have e18:=h.d5 (s _ rfl ⟨5,.data⟩ (by simp) rfl);obtain⟨nb,e26,aaP,acH⟩:=h.new (s _ rfl ⟨13,.data⟩ (by simp) rfl) VG;subst e18 e26;obtain⟨e1,e2⟩:=h.CS VG;have e1:=e1.symm;subst e1 e2;have O8:∀r,φ.CB r->r<w.heap.size:=λr hr=>by have:=l6 r (.inr (.inl hr));have:=h.js.mb.size;omega
  obtain⟨i0,D2,D4,D5,Cy⟩:=info_parts vF;refine Mt (c:=cU Y old [18,26]) (V:=V) (by rw[hP];exact y5 Y old [18,26]) (λr hr=>(h.js.mb.vo r hr).1) (λr hr=>(h.js.mb.cb r hr).1) O8 h.js.mb.vh rfl rfl (by simp[base]) (by kernel_rfl) (Fi (U:=[18,26]) rfl (by simp) (λt ht=>by
   simp only[b6,gX,or_false]at ht;rcases ht with rfl|rfl;exact h.js.rel;exact .slice _ _ ⟨⟨rfl,aaP⟩,rfl,rfl⟩))
   (λm v w'=>w'.ownsRow 0 48 9 v (j+1) ((M.take j).flatMap (λr=>Kz (cq r.b J[p]))++(ints (cq M[j].b J[p]).list).toList)/\m.grownBy w' pv.ownBlock) (λm q=> ?_) ?_
  have SB:=(h.js.rely O ((Af _).2 rfl) q).own;have hsr:m.ownsRow 0 48 9 (.slice (ae ⟨nb,0,ah⟩) 1 1) 1 (ints (cq M[j].b J[p]).list).toList:=⟨by simp[ints,hl9],.inr ⟨nb,1,_,rfl,bF _,(q.own nb (h.js.mb.vo nb aaP).1).trans acH,av _,by unfold maxLen;omega,by simp[ints,hl9],by rw[cB];simp[ints,hl9]⟩⟩;obtain⟨v',w',hr,h2,h3,_⟩:=tE (P:=aj) (w:=m) 100 100 48 i0 _ 9 72 underlying100 D2 D4 D5 Cy rfl (by decide) SB hsr (λx hx=>by simp[ints]at hx;obtain⟨n,_,rfl⟩:=hx;rfl) (by unfold maxLen;have:=hR.len;omega) (by have:=hR.len;omega);refine⟨v',w',?_,h2,h3⟩;rw[hP];simp[execOp,resolve,invoke,builtin,bJ,hr];rintro m v w' V' q ⟨q1,q2⟩ k1 k2 k3 k6 k4 k5;have Iy:=h.js.rely O ((Af _).2 rfl) q;have YT:cD m rb 50 (ints (M[j]).list):=(q.own rb (h.js.mb.vo rb h.yg).1).trans h.box;have Iw:=O.la p ⟨S,p,ah⟩ ((Af _).2 rfl);have hjs:JS φ (cfg Y old).sig Z Q C S N p M J[p] H0 ov (j+1) (γ.grow m w') w' V' cv v:=by refine⟨Iy.mb.val O l6 k1 k2 k3 k4 k5,h.js.held,h.js.over,(bp (k4 S (by have:=l6 S (.inr (.inl Iw));have:=Iy.mb.size;omega) λhv=>(Iy.mb.cb S (Iy.mb.vo S hv).1).1 Iw)).trans Iy.cell,k6,?_⟩;rw[aU hj,eJ];simpa[Kz,ints]using q1
  refine Kx _ _ _ ⟨u,V',(j+1),cv,v,y,z,A,B,D,_,F,rF,pY,pZ,pC,pD,pE,_,_,pG,rfl,⟨hjs,k1 rb h.yg,(q2.block rb YT.lt λe=>by have:=zd rb e.symm;omega).trans YT,(λl=>by rw[vn (by omega)]at l;cases l),λ_=>⟨rfl,rfl⟩,λl=>h.GU (bX l),(λl=>by have:=(h.uF (bX l)).2;rw[VG]at this;cases this),λl=>⟨(eB (by decide)).trans (h.uF (bX l)).1,vn (by omega)⟩,(λ_ h2=>by rw[vn (by omega)]at h2;cases h2),λl=>h.d0 (bX l),λl=>h.d1 (bX l),λl=>h.d2 (bX l),λl=>h.d3 (bX l),λl=>h.d4 (bX l),λl=>h.d5 (bX l),λl=>h.d6 (bX l),λl=>h.d7 (bX l),λl=>h.d8 (bX l),λl=>h.d9 (bX l),λl=>h.d10 (bX l),λl=>h.d11 (bX l),λl=>h.d12 (bX l),λl=>h.d15 (bX l)⟩⟩
  ·obtain rfl:=h.d0 (s _ rfl ⟨0,.data⟩ (by simp) rfl);obtain rfl:=h.d1 (s _ rfl ⟨1,.data⟩ (by simp) rfl);refine dY O (.pointer (ae ⟨S,p,ah⟩)) rfl rfl (by simp[base]) (λw _=>by rw[hP];go_simp) (λw _=>by rw[hP];simp[go_sem, *]) ?_;refine Kx _ _ _ ⟨u,V,jj,cv,pv,_,_,A,B,D,E,F,rF,pY,pZ,pC,pD,pE,pF,oH,_,rfl,⟨h.js,h.yg,h.box,λl=>h.CS (bX l),λl=>h.GQ (bX l),λl=>h.GU (bX l),λl=>h.uw (bX l),λl=>⟨(eB (by decide)).trans (h.uF (bX l)).1,(eB (by decide)).trans (h.uF (bX l)).2⟩,λh1 h2=>h.new (bX h1) (bX h2),λl=>h.d0 (bX l),λl=>h.d1 (bX l),λl=>h.d2 (bX l),λl=>h.d3 (bX l),λl=>h.d4 (bX l),λl=>h.d5 (bX l),λl=>h.d6 (bX l),λl=>h.d7 (bX l),λl=>h.d8 (bX l),λl=>h.d9 (bX l),λl=>h.d10 (bX l),λl=>h.d11 (bX l),λl=>h.d12 (bX l),λ_=>rfl⟩⟩
  obtain rfl:=h.d15 (s _ rfl ⟨15,.data⟩ (by simp) rfl);obtain⟨e1,e2⟩:=h.GQ (s _ rfl ⟨14,.data⟩ (by simp) rfl);subst e1 e2;have t5:=s _ rfl ⟨5,.phase⟩ (by simp) rfl;have t14:=s _ rfl ⟨14,.data⟩ (by simp) rfl;have hcv:=h.GU VG;subst hcv;obtain⟨A',c',hpv,_⟩:=cu h.js.own;have Iw:=O.la p ⟨S,p,ah⟩ ((Af _).2 rfl);have Sw:∀m,φ.dQ γ w m->m.cell? ⟨S,p,ah⟩=ae cv/\m.frozen? ⟨S,p,ah⟩=au:=λm q=>by have Iy:=h.js.rely O ((Af _).2 rfl) q;refine⟨Iy.cell,?_⟩;exact vZ ((Iy.mb.pay S Iw).trans hR.pb) p
  refine .opN (λm=>m.setCell ⟨S,p,ah⟩ pv) rfl rfl (by simp[base]) (λm q=>by
   obtain⟨hc,hz⟩:=Sw m q;subst hpv;rw[hP];go_simp) (λm q=>DY Iw h.js.mb.hp ((Af _).2 rfl) (λe he=>by
   obtain⟨hc,hz⟩:=Sw m q;subst hpv;rw[hP]at he;simp[go_sem, *]at he;rw[events_store _ _ _ _ _ _ rfl]at he;simp[storedEv,hc,hz]at he;exact he)) ?_
  intro m q;rw[Gh.oE γ (by simp)];have Iy:=h.js.rely O ((Af _).2 rfl) q;have YT:cD m rb 50 (ints (M[j]).list):=(q.own rb (h.js.mb.vo rb h.yg).1).trans h.box;have Sr:(m.setCell ⟨S,p,ah⟩ pv).cell? ⟨S,p,ah⟩=ae pv:=Ho (Sw m q).1 pv;have hjs:JS φ (cfg Y old).sig Z Q C S N p M J[p] H0 ov (j+1) γ (m.setCell ⟨S,p,ah⟩ pv) V pv pv:=⟨Iy.mb.Vh O Iw ((Af _).2 rfl) pv,h.js.held,h.js.over,Sr,Iy.rel,mY Iy.rel Iy.own λr hr=>Below.heap_setCell m _ _ r λe=>(Iy.mb.cb r (Iy.mb.vo r hr).1).1 (e▸Iw)⟩
  refine Kx _ _ _ ⟨u,V,(j+1),pv,pv,y,z,A,B,D,E,F,rF,pY,pZ,pC,pD,pE,pF,pv,_,rfl,⟨hjs,h.yg,(Below.heap_setCell m _ _ rb λe=>(Iy.mb.cb rb (Iy.mb.vo rb h.yg).1).1 (e▸Iw)).trans YT,λl=>h.CS (bX l),λl=>⟨rfl,rfl⟩,(λl=>by rw[vn (by omega)]at l;cases l),λ_=>rfl,λ_=>⟨(eB (by decide)).trans t5,(eB (by decide)).trans t14⟩,(λ_ h2=>by rw[un (by decide) h2]at t14;cases t14),λl=>h.d0 (bX l),λl=>h.d1 (bX l),λl=>h.d2 (bX l),λl=>h.d3 (bX l),λl=>h.d4 (bX l),λl=>h.d5 (bX l),λl=>h.d6 (bX l),λl=>h.d7 (bX l),λl=>h.d8 (bX l),λl=>h.d9 (bX l),λl=>h.d10 (bX l),λl=>h.d11 (bX l),λl=>h.d12 (bX l),λl=>h.d15 (bX l)⟩⟩
 ·refine⟨by simp,V,j,sv,sv,y,z,A,B,D,E,F,rF,pY,pZ,pC,pD,pE,pF,oH,pG,rfl,h,yg,hB,λ_=>⟨rfl,rfl⟩,?_,λ_=>rfl,?_,?_,?_,?_,?_,?_,?_,?_,?_,?_,?_,?_,?_,?_,?_,?_,?_⟩;all_goals intro l;simp[Ag]at l
end
section
variable{Z:Ph} {Y:ai} {X:bG->List Tmp} {old:Nat} {W T S R Q C p:Nat} {N:ak} {xs:List ck} {ss:List Sys} {M L:ak}
def SJ(O:Z.Ok)(u:Z.P=aj)(B:∀r,Z.jB r\/Z.CB r\/r=Z.Wg->r<Y.heap.size)(aaX:∀ad,Z.jl p ad↔ad=⟨R,p,ah⟩)(hR:BRd Z Y W T S R xs ss M L)(hp:p<ss.length){H0:Nat->Prop}{ov:Prop}{b:aY}{a:Act}{k:List Item}{cs:List aY}{ops:Array Oper}{i:Nat}{rest:List Nat}(K:∀E w V sv,JS Z (cfg X old).sig Y Q C R N p xs ss[p] H0 ov xs.length E w V sv sv->Z.WT E (G (b.at (a.put ((ops[i]?).bind (·.dst)) (.tuple #[])) (.inRegion ops rest::k)) cs) w):∀(m j:Nat)(E:Gh)(w:ai)(V:Nat->Prop)(sv x4 x5 x6 QT N8 N9 H I J QU QV QW QX rF pY pZ pC pD pE pF oH pG Cz:ak),j+m=xs.length->JS Z (cfg X old).sig Y Q C R N p xs ss[p] H0 ov j E w V sv sv->Z.WT E (G ((base 92).at ⟨#[.int .i64 p,.pointer (ae ⟨W,0,ah⟩),.pointer (ae ⟨T,0,ah⟩),.pointer (ae ⟨S,0,ah⟩),x4,x5,x6,M,.int .i64 xs.length,.int .i64 j,QT,N8,N9,H,I,J,QU,QV,QW,QX,rF,pY,pZ,pC,pD,pE,pF,oH,pG,Cz],[]⟩ [.code uc,.inLoop uc,.inBlock 0]) (b.at a (.inRegion ops (i::rest)::k)::cs)) w:=by
 have K0:Z.P.funcs[92]? =ae f92:=by rw[u];exact func92
 have hlen:=hR.len;have y:Z.jl p ⟨R,p,ah⟩:=(aaX _).2 rfl;intro m
 induction m with
 |zero=>
  intro j E w V sv x4 x5 x6 QT N8 N9 H I J QU QV QW QX rF pY pZ pC pD pE pF oH pG Cz hj h;obtain rfl:j=xs.length:=by omega
  simp only[uc,f92];refine fM O ?_;refine dV O ?_;simp only[aD,ay,aC,Nat.reduceAdd,aZ,a6,a7];refine dY O (.bool au) rfl rfl (by simp[base]) (λw _=>by go_simp) (λw _=>by simp[go_sem, *]) ?_;walk_nrm;refine gG O ?_;refine fM O ?_;refine tO O rfl ?_;refine N4 O rfl ?_;refine zt O ?_;refine .leave0 O rfl rfl K0 rfl ?_;exact K _ _ _ _ h
 |succ m ih=>
  intro j E w V sv x4 x5 x6 QT N8 N9 H I J QU QV QW QX rF pY pZ pC pD pE pF oH pG Cz hj h;have z:j<xs.length:=by omega
  have hjI:(j:Int)<xs.length:=by omega
  obtain⟨A,c,hrv,D⟩:=hR.rows;obtain⟨g,rfl,hgR,ade⟩:=D j z;clear D;subst hrv;simp only[uc,f92];refine fM O ?_;refine dV O ?_;simp only[aD,ay,aC,Nat.reduceAdd,aZ,a6,a7];refine dY O (.bool ar) rfl rfl (by simp[base]) (λw _=>by go_simp) (λw _=>by simp[go_sem, *]) ?_;walk_nrm;refine gG O ?_;refine fM O ?_;refine tP O rfl ?_;refine wW O ?_;refine fM O ?_;refine wV O ?_;refine fM O ?_;refine dV O ?_;simp only[aD,ay,aC,Nat.reduceAdd,aZ,a6,a7];refine dY O (.pointer (ae ⟨g,j *11,ah⟩)) rfl rfl (by simp[base]) (λw _=>by rw[u];go_simp) (λw _=>by rw[u];simp[go_sem, *]) ?_;walk_nrm;have s:∀d,Z.dQ E w d->row? d g (j *11) 11=ae (ints xs[j].list):=λd f=>(mZ ((f.rd g hgR).trans (h.mb.rd g hgR)) _ _).trans ade
  refine .pure O (.agg (ints xs[j].list)) rfl rfl (by simp[base]) (λd f=>by have q:=s d f;rw[u];go_simp) (λd f e he=>by rw[u]at he;obtain⟨ad,rfl,O2⟩:=mo (P:=aj) (t:=50) (g:=g) (o:=j *11) (n:=11) underlying50 (by kernel_rfl) (sk (s d f)) e (by simpa[execOp,bJ]using he);exact .inr ⟨rfl,ad.block,rfl,.inr (.inr ⟨rfl,O2▸hgR⟩)⟩) ?_
  clear s;walk_nrm;refine Mt (c:=cU X old []) (V:=V) (by rw[u];exact y5 X old []) (λr q=>(h.mb.vo r q).1) (λr q=>(h.mb.cb r q).1) (λr q=>by have:=B r (.inr (.inl q));have:=h.mb.size;omega) h.mb.vh rfl rfl (by simp[base]) rfl (Fi (U:=[]) rfl (by simp) (by simp)) (λd v w'=>v=.pointer (ae ⟨d.heap.size,0,ah⟩)/\w'=d.alloc (.cells (ints [0,0,0,0,0,0,0,0,0,0,0]) 50)) (λd f=>⟨_,_,by rw[u];go_simp;rfl,rfl,rfl⟩) ?_
  rintro d v w' V' f ⟨rfl,rfl⟩ k1 k2 k3 k6 k4 k5;have F:∀r,sv.ownBlock=ae r->r<d.heap.size:=FP (h.rely O y f).own;have hB:=cD.new d 50 (ints [0,0,0,0,0,0,0,0,0,0,0])
  replace h:=(h.rely O y f).val O y B k1 k2 k3 k4 k5 (λr q=>Below.heap_alloc d _ r (F r q))
  have l:V' d.heap.size:=by
   cases k6 with|pointer ha=>exact ha.block.2
  clear k1 k2 k3 k4 k5 k6 f;generalize d.alloc (.cells (ints [0,0,0,0,0,0,0,0,0,0,0]) 50)=w2 at *;generalize d.heap.size=x at *;generalize E.grow d w2=γ2 at *;clear d w V;walk_nrm;have Sy:(xs[j]).list.length=11:=by have:=(hR.okB xs[j] (aR z)).2;simp[ck.list,aN.list,this]
  have O8:∀r,Z.CB r->r<w2.heap.size:=λr q=>by have:=B r (.inr (.inl q));have:=h.mb.size;omega
  refine Xe (c:=cU X old [6,12]) (V:=V') (by rw[u];exact y5 X old [6,12]) (λr q=>(h.mb.vo r q).1) (λr q=>(h.mb.cb r q).1) O8 h.mb.vh rfl rfl (by simp[base]) rfl (Fi (U:=[6,12]) rfl (by simp) (λt ht=>by
   simp only[b6,gX,or_false]at ht;rcases ht with rfl|rfl;exact .pointer ⟨⟨rfl,l⟩,rfl,rfl⟩;exact xS _))
   (λd=>putRow d x 0 (xs[j]).list) (λd f=>by have hf:fits d x 0 11=ar:=Ru ((f.own x (h.mb.vo x l).1).trans hB) 11 (by simp[ints]);rw[u];go_simp) ?_
  intro d V2 f k1 k2 k3 k4 k5;have Xz:cD d x 50 (ints [0,0,0,0,0,0,0,0,0,0,0]):=(f.own x (h.mb.vo x l).1).trans hB;have YK:cD (putRow d x 0 (xs[j]).list) x 50 (ints (xs[j]).list):=Xz.eZ _ Sy
  replace h:=(h.rely O y f).val O y B k1 k2 k3 k4 k5 (λr q=>fz d x 0 _ r (λe=>by have:=F r q;omega))
  replace l:=k1 x l
  clear k1 k2 k3 k4 k5 hB Xz f O8;generalize putRow d x 0 (xs[j]).list=w3 at *;generalize γ2.grow d w3=γ3 at *;clear d w2 V' γ2;walk_nrm;refine gG O ?_;refine La O u B aaX hR hp z ?_ γ3 w3 V2 _ _ _ _ _ _ _ _ _ _ _ _ _ _ _ _ h l YK F;clear F YK l h;intro E w V H I J QU QV QW QX rF pY pZ pC pD pE pF oH pG sv' h;refine BH O ?_;refine dV O ?_;simp only[aD,ay,aC,Nat.reduceAdd,aZ,a6,a7];have acP:IntKind.i64.wrap ((j:Int)+1)=(j:Int)+1:=IntWalk.i64_in _ (by omega);refine dY O (.int .i64 ((j+1:Nat):Int)) rfl rfl (by simp[base]) (λw _=>by rw[u];go_simp) (λw _=>by rw[u];simp[go_sem, *]) ?_;walk_nrm;refine dY O (.int .i64 ((j+1:Nat):Int)) rfl rfl (by simp[base]) (λw _=>by rw[u];go_simp) (λw _=>by rw[u];simp[go_sem, *]) ?_;walk_nrm;refine gG O ?_;refine EP O ?_;exact ih (j+1) E w V sv' _ _ _ _ _ _ _ _ _ _ _ _ _ _ _ _ _ _ _ _ _ _ _ (by omega) h
end
section
variable{Z:Ph} {Y:ai} {bd:bG->List Tmp} {old:Nat} {X W U Pb:Nat} {xs:List ck} {ss:List Sys} {Bc Mh:ak}
def Zj(O:Z.Ok)(j:Z.P=aj)(J:Z.nj=ss.length)(H:∀p,Z.jv p=.int .i64 p)(F:Z.jl=(qG (cfg bd old).sig Pb xs ss).jl)(B:Z.J0=(qG (cfg bd old).sig Pb xs ss).J0)(D:Z.JP=(qG (cfg bd old).sig Pb xs ss).JP)(hg:Tryz.prog.globals.size<=Y.heap.size)(I:∀r,Z.jB r\/Z.CB r\/r=Z.Wg->r<Y.heap.size)(m:BRd Z Y X W U Pb xs ss Bc Mh):vz Z Y 92 #[.pointer (ae ⟨X,0,ah⟩),.pointer (ae ⟨W,0,ah⟩),.pointer (ae ⟨U,0,ah⟩)]:=by
 intro b1 C fv y w p h hp L t;have s:Z.P.funcs[92]? =ae f92:=by rw[j];exact func92
 refine⟨_,_,s,rfl,rfl,?_⟩;intro b a k cs ops i T hb K;have v:p<ss.length:=J▸hp;have l:w.cell? ⟨Pb,p,ah⟩=ae (.slice ah 0 0):=by rw[B]at t;exact t
 have u:∀ad,Z.jl p ad↔ad=⟨Pb,p,ah⟩:=λad=>by rw[F];exact Iff.rfl
 have hm:=MB.start (p:=p) (S:=(cfg bd old).sig) (λ_=>rfl) (by rw[j];exact hg) h L O;have G:JS Z (cfg bd old).sig Y b1 C Pb fv p xs ss[p] (λq=>y.held q\/q=p) y.over 0 (y.hold p) w (λ_=>False) (.slice ah 0 0) (.slice ah 0 0):=⟨hm,λq=>Iff.rfl,rfl,l,.fl _ _,by simp,.inl ⟨rfl,rfl⟩⟩
 have M:f92.ntmps=30:=rfl;simp only[M,H,c9,cW,cg,aD,ay,aC,Nat.reduceAdd,Nat.reduceSub,cG,cH,dy];have n:∀d,Z.dQ (y.hold p) w d->d.cell? ⟨X,0,ah⟩=ae Bc:=λd f=>(bp ((f.rd X m.r4).trans (hm.rd X m.r4))).trans m.c4
 obtain⟨A,c,x,N⟩:=id m.rows;refine fM O ?_;refine dV O ?_;simp only[aD,ay,aC,Nat.reduceAdd,aZ,a6,a7];refine lL O Bc (ad:=⟨X,0,ah⟩) rfl rfl (by simp[base]) (.inr m.r4) (λd f=>by have hc:=n d f;rw[j];go_simp) (λd f e E=>by have hc:=n d f;rw[j]at E;simp[go_sem, *]at E;exact E) ?_;walk_nrm;refine dY O (.int .i64 xs.length) rfl rfl (by simp[base]) (λw _=>by subst x;rw[j];go_simp) (λw _=>by subst x;rw[j];simp[go_sem, *]) ?_;walk_nrm;refine dY O (.int .i64 (0:Nat)) rfl rfl (by simp[base]) (λw _=>by rw[j];go_simp) (λw _=>by rw[j];simp[go_sem, *]) ?_;walk_nrm;refine gG O ?_;refine wV O ?_;refine N5 O ?_;refine SJ (xs:=xs) (ss:=ss) O j I u m v ?_ xs.length 0 (y.hold p) w _ _ _ _ _ _ _ _ _ _ _ _ _ _ _ _ _ _ _ _ _ _ _ _ _ (by omega) G;intro P w' V sv g;refine K P w' (g.mb.finish O ?_) g.held g.over;rw[D];refine⟨sv,g.cell,V,λr z=>⟨(g.mb.vo r z).1,(g.mb.vo r z).2.2⟩,λr z=> ?_,g.rel,?_⟩;obtain⟨o,o',Q,R,e3⟩:=g.mb.vh.obj r r ⟨rfl,z⟩;rw[Q]at R;cases R;exact⟨o,Q,e3⟩;have:=g.own;rw[cB (av _)]at this;simpa[v,List.flatMap_map]using this
end
end
section
open Go.RowKit
def lT(z:ZS)(k:Nat):ZS:=⟨z.ls,z.f,z.B.take k⟩
def NS{m a:ja}(b:(bM m).Nodup)(d:a.Sublist m){c p:Hd}(h:eI a c=ae p):eI m c=ae p:=jV b (d.mem (tn h))
def xf{z:ZS}(h:jT z)(k:Nat):jT (lT z k):=by have d:(z.B.take k).Sublist z.B:=List.take_sublist k z.B;have f:(bM (z.B.take k)).Nodup:=h.qk.nodup.sublist (d.map _);refine⟨h.w,⟨f,h.qk.sG.sub λc p e=>NS h.qk.nodup d e⟩,?_,λb g=>h.lv b (d.mem g)⟩;have a:=lf (λb:Hd×Hd=>b.1) z.B;change List.Pairwise _ (dA z.B)at a;rw[h.Qk]at a;exact(je (λb:Hd×Hd=>b.1) (nC (m:=z.B.take k) f) (oI _) (a.sublist d)).symm
def yc{z:ZS}(h:jT z){k:Nat}(b:k<z.B.length):eI (z.B.take k) z.B[k].1=ah:=by
 cases e:eI (z.B.take k) z.B[k].1 with|none=>rfl|some q=>exfalso;have a:=h.qk.nodup;rw[<-mN k z.B]at a;unfold bM at a;rw[dZ,List.nodup_append]at a;refine a.2.2 z.B[k].1 (aI.2 ⟨_,tn e,rfl⟩) z.B[k].1 (aI.2 ⟨z.B[k],?_,rfl⟩) rfl;rw[List.drop_eq_getElem_cons b];exact List.mem_cons_self
def E9{z:ZS}(h:jT z){k:Nat}(j:k<z.B.length):dA (fh (z.B.take k) z.B[k].1 z.B[k].2).1=z.B.take (k+1)/\(fh (z.B.take k) z.B[k].1 z.B[k].2).2=0:=by
 have i:eI z.B z.B[k].1=ae z.B[k].2:=jV h.qk.nodup (aR j);have t:(z.B.take k).Sublist z.B:=List.take_sublist k z.B;have b:¬(z.B[k].1=z.B[k].2\/Up (z.B.take k) z.B[k].2 z.B[k].1):=by rintro(e|e);exact Up.irrefl h.qk.sG (a:=z.B[k].1) (.one (by rw[<-e]at i;exact i));exact Up.irrefl h.qk.sG (.more i (e.mono λc p e=>NS h.qk.nodup t e))
 have d:=yc h j;unfold fh;rw[if_neg b];refine⟨?_,rfl⟩;have l:=xf h k;have f:=xf h (k+1);have n:dA (z.B.take (k+1))=z.B.take (k+1):=f.Qk;rw[<-n];have g:=l.qk.qF z.B[k].1 z.B[k].2;change jA (fh (z.B.take k) _ _).1 at g;unfold fh at g;rw[if_neg b]at g;refine nD g.nodup f.qk.nodup λx=> ?_
 have o:iI (z.B.take k) z.B[k].1 z.B[k].2=z.B.take (k+1):=by rw[aU j];unfold iI;rw[if_neg];intro r;obtain⟨q,s,e⟩:=List.any_eq_true.1 r;have:=jV l.qk.nodup (m:=z.B.take k) (x:=q.1) (v:=q.2) s;rw[of_decide_eq_true e,d]at this;cases this
 rw[o]
def Jy{w:ai}{g o n:Nat}{x:Array ak}(t:az)(a xs:List Int)(h:row? w g o n=ae x):row? (putRow (w.alloc (.cells (ints a) t)) w.heap.size 0 xs) g o n=ae x:=um (eU w t a xs) h
section
variable{G:Nat->Prop} {Z w:ai} {l:List bU} {p:Nat} {z:ZS} {Y X V:ak}
def NF{w:ai}{v:ak}{a:List (Hd×Hd)}(h:w.ownsRow 0 45 4 v a.length (a.flatMap bC)):∃A c,v=.slice A a.length c/\a.length<=c/\c<=maxLen/\∀k,(e:k<a.length)->∃g,A=ae ⟨g,0,ah⟩/\row? w g (k *4) 4=ae (ints [a[k].1.1,a[k].1.2,a[k].2.1,a[k].2.2]):=by obtain⟨A,c,rfl,b,d,i⟩:=cu h;refine⟨A,c,rfl,b,d,λk e=> ?_⟩;obtain⟨g,rfl⟩:=i (by omega);have f:=kD h e;rw[k8 (λx=>(rfl:(bC x).length=4)) a k e]at f;exact⟨g,rfl,f⟩
def Uu(h:In G Z (cI Y (db z.ls)::cm X z.rows::ji V z.B::l) w)(hk:jT z):Calls aj 107 #[.agg #[Y,X,V]] w λe w'=>∃p,e=.returned (.tuple #[ptr p,.int .i64 0])/\In G Z (cA p z::cI Y (db z.ls)::cm X z.rows::ji V z.B::l) w':=by
 have H0:=af h;have R:=af hk;obtain⟨B,q,rfl,adW,adX,_⟩:=NF h.third.rowAt;clear h hk;go_enter func107,ntmps107;go_upto_region 1 with(fail)
 refine b9 (In G Z (a8 w.heap.size 36 #[Y,X,.slice B z.B.length q]::cI Y (db z.ls)::cm X z.rows::ji (.slice B z.B.length q) z.B::l)) (H0.out.alloc 36 #[Y,X,.slice B z.B.length q]) ?_;generalize w.heap.size=N;intro w1 C;have c0:w1.cell? ⟨N,0,ah⟩=ae Y:=C.blk.cell 0;have c1:w1.cell? ⟨N,1,ah⟩=ae X:=C.blk.cell 1;have MI:Hid (In G Z (cI Y (db z.ls)::cm X z.rows::ji (.slice B z.B.length q) z.B::a8 N 36 #[Y,X,.slice B z.B.length q]::l) w1):=C.to4;clear C H0;go_wp2_with fail;refine(Un MI.out R.out.w).mono ?_;rintro e w2 ⟨wp,rfl,hI2⟩;have QH:=af hI2;clear hI2 MI c0 c1;go_wp2_with fail;refine(M3 QH.out).mono ?_;rintro e w3 ⟨S,rfl,M'⟩;go_upto_region 5 with(fail)
 refine b9 (In G Z (cA w3.heap.size (lT z 0)::cI Y (db z.ls)::cm X z.rows::ji (.slice B z.B.length q) z.B::a8 N 36 #[Y,X,.slice B z.B.length q]::l)) (In.lK (z:=lT z 0) (m:=[]) Dw ((M'.alloc 83 #[ptr wp,ptr S]).perm ((cy _ _ _).cons _))) ?_;generalize w3.heap.size=p;clear M' QH;intro w4 P;have c2:w4.cell? ⟨N,2,ah⟩=ae (.slice B z.B.length q):=(P.nth 4 (by simp)).blk.cell 2;have EV:=af P;clear P;go_wp2_with fail;go_loopw [31] (λi w'=>∃k:Nat,k<=z.B.length/\i=.int .i64 k/\In G Z (cA p (lT z k)::cI Y (db z.ls)::cm X z.rows::ji (.slice B z.B.length q) z.B::a8 N 36 #[Y,X,.slice B z.B.length q]::l) w') (λi _=>z.B.length-(intOf i).toNat)
 case atStart=>exact⟨0,bF _,rfl,EV.out⟩
 case round=>
  clear EV c2;obtain⟨k,hk,rfl,T⟩:=hrel;by_cases E:k<z.B.length
  ·have K1:(k:Int)<z.B.length:=by omega
   obtain⟨A',c',e0,_,hkc,K⟩:=NF T.fourth.rowAt;injection e0 with e1 e2 e3;subst e1;subst e3;obtain⟨g,rfl,q1⟩:=K k E;have HLV:=af (R.out.lv z.B[k] (aR E));have HNO:=af (yc R.out E);have HAD:=af (E9 R.out E);have aaY:(z.B.length:Int)<=q:=by omega
   have Yb:=af (xf R.out k);have HI:=af T;clear K e2 T;generalize z.B[k]=b at *;obtain⟨⟨c,d⟩,⟨j,n⟩⟩:=b;go_upto_region 8 with(fail)
   refine b9 (In G Z (cA p (lT z k)::a8 wr.heap.size 45 (ints [c,d,j,n])::cI Y (db z.ls)::cm X z.rows::ji (.slice (ae ⟨g,0,ah⟩) z.B.length q) z.B::a8 N 36 #[Y,X,.slice (ae ⟨g,0,ah⟩) z.B.length q]::l)) (HI.out.struct 45 [0,0,0,0] [c,d,j,n] rfl).swap ?_;generalize wr.heap.size=s;generalize hL:cI Y (db z.ls)::cm X z.rows::ji (.slice (ae ⟨g,0,ah⟩) z.B.length q) z.B::a8 N 36 #[Y,X,.slice (ae ⟨g,0,ah⟩) z.B.length q]::l=L at *;intro w5 D;have q2:row? w5 s 0 2=ae (ints [c,d]):=D.swap.blk.ei 0 2 (by simp);have q3:row? w5 s 2 2=ae (ints [j,n]):=D.swap.blk.ei 2 2 (by simp);have y3:=af D;have hbs:∀W,(fK 122 2 #[(0,.agg (ints [c,d])),(1,.agg (ints [j,n]))]).run aj W=.ok (.slice (ae ⟨W.heap.size,0,ah⟩) 2 2) (W.alloc (.cells (ints [c,d,j,n]) 43)):=λW=>by kernel_rfl
   have HB:Hid (In G Z (cA p (lT z k)::jz (.slice (ae ⟨w5.heap.size,0,ah⟩) 2 2) [(c,d),(j,n)]::a8 s 45 (ints [c,d,j,n])::L) (w5.alloc (.cells (ints [c,d,j,n]) 43))):=(y3.out.Av 43 2 2 [.int .i64 c,.int .i64 d,.int .i64 j,.int .i64 n] rfl (by decide)).swap;clear D q1 HI;go_wp2_with fail;refine(BL HB.out (by simp)).mono ?_;rintro e f ⟨rfl,r⟩;have hlv:nI (lT z k) [(c,d),(j,n)]=ar:=by have O:=HLV.out;unfold nI;simp only[List.all_cons,List.all_nil,Bool.and_true];exact Bool.and_eq_true_iff.2 O
   rw[if_pos hlv];have r:=r.swap.drop;obtain⟨wp,S,m,hm,hf,ha,y⟩:=r.jC;have q2:row? f s 0 2=ae (ints [c,d]):=r.swap.blk.ei 0 2 (by simp);have q3:row? f s 2 2=ae (ints [j,n]):=r.swap.blk.ei 2 2 (by simp);have c1:f.cell? ⟨p,1,ah⟩=ae (ptr S):=y.blk.cell 1;obtain⟨fb,M⟩:=(In.third y).ZI;have H:Hid (∀W,Below f.heap.size f W->Calls aj 168 #[ptr S,mv (c,d)] W λe w'=>e=.returned (.tuple #[.agg (ints [0,0]),.bool au])/\Below W.heap.size W w'):=λW hW=>by
    have O:=Il (c,d) W (M.after hW);have h2:jD m (c,d)=((0,0),au):=by have h3:eI (lT z k).B (c,d)=ah:=HNO.out;unfold jD;rw[ha,h3];rfl
    rw[h2]at O;exact O
   have v:=af r;clear r y HB y3 hlv M;have HD:Hid (Below f.heap.size f f.drew):=(Below.refl _ _).drew;have HDA:Hid (∀ob,Below f.heap.size f (f.alloc ob).drew):=λob=>((Below.refl _ _).alloc (av _) ob).drew
   have HBN:Hid (p<f.heap.size/\s<f.heap.size):=by obtain⟨wp,S,m,_,_,_,y⟩:=v.out.jC;exact⟨y.blk.lt,v.out.swap.blk.lt⟩
   have HIA:Hid (∀o,Below (f.alloc (.cells #[.int .i64 0,.int .i64 0] 43)).drew.heap.size (f.alloc (.cells #[.int .i64 0,.int .i64 0] 43)).drew o->In G Z (a8 f.heap.size 43 (ints [0,0])::cA p (lT z k)::a8 s 45 (ints [c,d,j,n])::L) o):=λo hb=>(v.out.alloc 43 (ints [0,0])).drew.below hb
   clear q3 ha hm hf;go_upto_region 11 with(fail)
   go_region_held3 (λW=>W.cell? ⟨p,1,ah⟩=ae (ptr S)/\row? W s 0 2=ae (ints [c,d]))
    (refine⟨?_,?_⟩<;>(first|assumption|(refine mj _ ?_;assumption)|(refine EB _ ?_;assumption)|(refine Fa _ [0,0] _ ?_;assumption)|(refine Jy _ [0,0] _ ?_;assumption)|(refine cell_far (by have:=HBN.out;omega) ?_;assumption)|(refine pU (by have:=HBN.out;omega) ?_;assumption)))
    (first
      |(go_at_call 168;refine(H.out _ HD.out).mono ?_;rintro e o ⟨rfl,a⟩;have s4:=uT (w:=f.drew) a c1;have s5:=um (w:=f.drew) a q2;have x:=af (v.out.drew.below a);clear a)
      |(go_at_call 168;refine(H.out _ (HDA.out _)).mono ?_;rintro e o ⟨rfl,a⟩;have s4:=uT a (mj (w:=f) _ c1);have s5:=um a (EB (w:=f) _ q2);have x:=af (HIA.out _ a);have f3:=x.out.blk.fits 0 2 (by rw[bN];simp);clear a))
   all_goals
    (first
      |(obtain⟨u,t⟩:∃u,putRow (o.alloc (.cells #[aS .i64 0,aS .i64 0] 43)) o.heap.size 0 [0,0]=u:=⟨_,rfl⟩;rw[t];have A:In G Z (cA p (lT z k)::a8 s 45 (ints [c,d,j,n])::L) u:=(by rw[<-t];exact(x.out.struct 43 [0,0] [0,0] rfl).drop))
      |(obtain⟨u,t⟩:∃u,putRow o f.heap.size 0 [0,0]=u:=⟨_,rfl⟩;rw[t];have A:In G Z (cA p (lT z k)::a8 s 45 (ints [c,d,j,n])::L) u:=(by rw[<-t];exact(x.out.eZ [0,0] rfl).drop)))
    clear x v HIA t;obtain⟨wp2,fp2,m2,XJ,hf2,ha2,Q⟩:=A.jC;have k2:row? u s 0 2=ae (ints [c,d]):=A.swap.blk.ei 0 2 (by simp);have k3:row? u s 2 2=ae (ints [j,n]):=A.swap.blk.ei 2 2 (by simp);have k1:u.cell? ⟨p,1,ah⟩=ae (ptr fp2):=Q.blk.cell 1;have U:=af (ha2.qF (c,d) (j,n));have Xm:Hid (dA (fh m2 (c,d) (j,n)).1=z.B.take (k+1)/\(fh m2 (c,d) (j,n)).2=0):=by have O:=HAD.out;exact⟨(nD (hf2.qF _ _).nodup (Yb.out.qk.qF _ _).nodup U.out.1).trans O.1,U.out.2.trans O.2⟩
    have y4:=af (In.third Q);clear A Q XJ hf2 ha2;go_upto_region 14 with(fail)
    go_still_tail 8,(by kernel_rfl)
    change wpList _ _ _ _ _ u.drew;have F:=af y4.out.drew;clear y4 k1 k2 k3;generalize u.drew=w11 at *;go_wp2_with fail;refine(DG F.out (c,d) (j,n)).mono ?_;rintro e w12 ⟨rfl,I⟩;rw[Xm.out.2];have J:In G Z (cA p (lT z (k+1))::a8 s 45 (ints [c,d,j,n])::L) w12:=In.lK (z:=lT z (k+1)) Xm.out.1 I.third.third;have acy:=af (J.swap.drop);clear I J F hbs;have adN:=R.out.len;go_wp2_with fail;go_roundw
    case rel=>exact⟨k+1,by omega,by go_num,by rw[hL];exact acy.out⟩
    case measure=>simp[intOf];omega
  have:k=z.B.length:=by omega
  subst this;have HF:Hid (lT z z.B.length=z):=by unfold Hid lT;rw[cE]
  rw[HF.out]at T;have HI:=af T;clear T;go_wp2_with fail
  go_ret2
  exact⟨p,rfl,(HI.out.reorder 5 [4,0,1,2,3] rfl (by simp)).drop⟩
end
section
variable{sp:List Hd} {x:Hd} {o:ft}
def Pm(h:0<=x.1):gU sp x=ae x/\qq sp x=x:=by unfold gU qq;exact⟨if_pos h,if_neg (by omega)⟩
def Pk(h:x.1<0)(a:x.1< -(sp.length:Int)):gU sp x=ah:=by unfold gU;rw[if_neg (by omega),if_pos a]
def SY(h:x.1<0)(a:¬x.1< -(sp.length:Int)):∃k:Nat,∃b:k<sp.length,-x.1-1=(k:Int)/\gU sp x=ae sp[k]/\qq sp x=sp[k]:=by refine⟨(-x.1-1).toNat,by omega,by omega,?_,?_⟩;unfold gU;rw[if_neg (by omega),if_neg a,bq,aq (by omega)];rfl;unfold qq;rw[if_pos (by omega),bq,aq (by omega)];rfl
def Qe{a:Nat}(h:a=10\/a=12):wR o a (ll o a)=o:=by rcases h with rfl|rfl<;>rfl
def Lr(sp:List Hd)(o:ft)(a:List Nat)(j:Nat)(b:j<a.length):jK sp o (a.take (j+1))=wR (jK sp o (a.take j)) a[j] (qq sp (ll (jK sp o (a.take j)) a[j])):=by rw[aU b,FB];rfl
end
def EU(z:ZS)(a:List ft)(n e:Int)(R:ZS->Prop):Prop:=(∃b sp,a.length<=80/\l7 (z,[]) a=ae (b,sp)/\n=a.length/\e=0/\R b)\/(e≠0/\0<=n/\n<=a.length/\(a.length<=80->l7 (z,[]) a=ah)/\R z)
noncomputable def vU:ZL->List ft->Int|_,[]=>0|s,o::a=>if sX s o=0 then vU (El s o) a else sX s o
def RM{s c:ZL}{a:List ft}(h:l7 s a=ae c):vU s a=0:=by
 induction a generalizing s with|nil=>rfl|cons o a b=>unfold l7 rD at h;unfold vU;by_cases e:sX s o=0;rw[if_pos e,kH]at h;rw[if_pos e];exact b h;rw[if_neg e]at h;cases h
def KM{s b:ZL}{a:List ft}{k:Nat}(d:k<a.length)(h:l7 s (a.take k)=ae b)(c:sX b a[k]≠0):vU s a=sX b a[k]:=by
 induction a generalizing s k with
 |nil=>simp at d|cons o a f=>
  cases k with|zero=>rw[List.take_zero]at h;have:s=b:=aX h;subst this;exact if_neg c|succ k=>rw[List.take_succ_cons]at h;unfold l7 rD at h;unfold vU;by_cases e:sX s o=0;rw[if_pos e,kH]at h;rw[if_pos e];exact f (by simpa using d) h c;rw[if_neg e]at h;cases h
noncomputable def Oo(z:ZS)(a:List ft):Int:=if 80<a.length then 2 else vU (z,[]) a
def E1{z:ZS}{a:List ft}{e:Int}(hL:¬80<a.length)(h:vU (z,[]) a=e):e=Oo z a:=by unfold Oo;rw[if_neg hL,h]
section
variable{G:Nat->Prop} {Z w:ai} {l:List bU} {p:Nat} {z:ZS} {B:Nat} {A:Option Addr} {c:Nat} {Y:List ft}
def Nx{w:ai}{v:ak}{l:Nat}{b:List Nat}{E:az}(h:w.ownsRow 0 E 1 v b.length (b.map λo=>Value.pointer (ae ⟨l,o,ah⟩))):∃A c,v=.slice A b.length c/\b.length<=c/\c<=maxLen/\∀k,(j:k<b.length)->∃g,A=ae ⟨g,0,ah⟩/\w.cell? ⟨g,k,ah⟩=ae (.pointer (ae ⟨l,b[k],ah⟩)):=by obtain⟨A,c,rfl,f,i,p⟩:=cu h;refine⟨A,c,rfl,f,i,λk j=> ?_⟩;obtain⟨g,rfl⟩:=p (by omega);have d:=kD h j;refine⟨g,rfl,?_⟩;rw[Nat.mul_one]at d;unfold row? at d;split at d;rename_i m t n q;split at d;rename_i r;injection d with d;rw[cell_of_row w g k m t n q];have e:=congrArg (λa:Array ak=>a[0]?) d;simp only[Array.getElem?_extract]at e;rw[if_pos (by omega)]at e;rw[Nat.add_zero]at e;rw[e];simp[j];cases d;cases d
def BI(hO:mI G Z B A Y)(hlen:Y.length<=1099511627776)(h8:∀o∈Y,o.b.v.length=8)(hk:jT z)(h:In G Z (cA p z::l) w):Calls aj 49 #[ptr p,.slice A Y.length c] w λe w'=>∃n e':Int,e=.returned (.tuple #[.int .i64 n,.int .i64 e'])/\e'=Oo z Y/\EU z Y n e' λz'=>In G Z (cA p z'::l) w':=by
 have H0:=af h;have HK:=af hk;have HO:Hid (mI G Z B A Y):=hO;have H8:=af h8;obtain⟨i0,D2,D4,D5,Cy⟩:=info_parts lC;clear h hk hO h8;go_enter func49,ntmps49;by_cases hL:80<Y.length
 ·have hL':(80:Int)<Y.length:=by omega
  go_wp2_with fail
  go_ret2
  exact⟨0,2,rfl,by unfold Oo;rw[if_pos hL],bW ⟨by decide,by decide,by omega,λh=>by omega,H0.out⟩⟩
 have HL:=af hL;have hL':¬(80:Int)<Y.length:=by omega
 go_wp2_with fail;refine(ES H0.out HK.out).mono ?_;rintro e w1 ⟨gv,rv,bv,rfl,O⟩;have MI:=af O;clear O H0;go_wp2_with fail;refine(Uu MI.out HK.out).mono ?_;rintro e w2 ⟨np,rfl,P⟩;have QH:=af (P.swap.drop.swap.drop.swap.drop);clear P MI;go_wp2_with fail;go_loopw [26,8] (λi sv w'=>∃(k:Nat)(q:ZS)(sp:List Hd),k<=Y.length/\i=.int .i64 k/\l7 (z,[]) (Y.take k)=ae (q,sp)/\sp.length<=k/\In G Z (cA np q::jz sv sp::cA p z::l) w') (λi _ _=>Y.length-(intOf i).toNat)
 case atStart=>exact⟨0,z,[],bF _,rfl,rfl,bF _,(QH.out.sc 43 2).swap⟩
 case round=>
  clear QH;obtain⟨k,q,sp,hk,rfl,a,aeg,K⟩:=hrel;obtain⟨As,cs,rfl,ad1,ad2,_⟩:=pT K.swap.rowAt;by_cases W:k<Y.length
  ·have K1:(k:Int)<Y.length:=by omega
   obtain⟨b,o,rfl,QN,q1⟩:=(HO.out K.bare).at_ W;have HV8:Hid (Y[k].b.v.length=8):=H8.out _ (aR W);have YH:(ft.list Y[k]).length=16:=ft.len HV8.out;have Yb:Hid (jT q):=Gg (s:=(z,[])) HK.out (λo ho=>H8.out o (List.mem_of_mem_take ho)) a;have D:Hid (sX (q,sp) Y[k]≠0->l7 (z,[]) Y=ah/\vU (z,[]) Y=sX (q,sp) Y[k]):=λh=>⟨P6 W a h,KM W a h⟩
   have v:Hid (l7 (z,[]) (Y.take (k+1))=rD (q,sp) Y[k]):=EE W a;have adD:sp.length<=80:=by omega
   have HI:=af K;clear K a;generalize Y[k]=op at *;go_upto_region 8 with(fail)
   refine b9 (In G Z (a8 wr.heap.size 74 (ints op.list)::cA np q::jz (.slice As sp.length cs) sp::cA p z::l)) (HI.out.struct 74 [0,0,0,0,0,0,0,0,0,0,0,0,0,0,0,0] op.list YH) ?_;generalize wr.heap.size=ob;intro w3 M';have Ko:=af M';clear M' q1 HI;go_wp2_with fail;refine(SX Ko.out).mono ?_;rintro e w4 ⟨lv,rfl,yK⟩;obtain⟨Ap,cp,rfl,adY,adZ,_⟩:=Nx yK.rowAt;have hol:=Tc op.d;have EV:=af yK.swap;clear yK Ko;go_wp2_with fail;go_loopw [33] (λi w'=>∃j:Nat,j<=(de op.d).length/\i=.int .i64 j/\(∀t,t<j->(ht:t<(de op.d).length)->gU sp (ll op (de op.d)[t])≠ah)/\In G Z (a8 ob 74 (ints (jK sp op ((de op.d).take j)).list)::GZ (.slice Ap (de op.d).length cp) ob (de op.d)::cA np q::jz (.slice As sp.length cs) sp::cA p z::l) w') (λi _=>(de op.d).length-(intOf i).toNat)
   case atStart=>exact⟨0,bF _,rfl,λt ht=>by omega,EV.out⟩
   clear EV;obtain⟨j,hj,rfl,hms,K⟩:=hrel;by_cases V:j<(de op.d).length
   ·have hji:(j:Int)<(de op.d).length:=by omega
    obtain⟨A',c',e0,_,hjc,F⟩:=Nx K.swap.rowAt;injection e0 with e1 e2 e3;subst e1;subst e3;obtain⟨g,rfl,q1⟩:=F j V;have u:=Td (aR V);have I:Hid (ll (jK sp op ((de op.d).take j)) (de op.d)[j]=ll op (de op.d)[j]):=O3 sp op j V;have U:Hid (jK sp op ((de op.d).take (j+1))=wR (jK sp op ((de op.d).take j)) (de op.d)[j] (qq sp (ll (jK sp op ((de op.d).take j)) (de op.d)[j]))):=Lr sp op _ j V;have R:Hid (gU sp (ll op (de op.d)[j])=ah->lU sp op=ah):=Lk V;have HMS:Hid (gU sp (ll op (de op.d)[j])≠ah->∀t,t<j+1->(ht:t<(de op.d).length)->gU sp (ll op (de op.d)[t])≠ah):=λh t ht hh=>by by_cases e:t=j;subst e;exact h;exact hms t (by omega) hh
    have H:(jK sp op ((de op.d).take j)).b.v.length=8:=by rw[(Nk _ _ _).1];exact HV8.out
    have X:=ft.len H;have q2:row? wr ob (de op.d)[j] 2=ae (ints [(ll (jK sp op ((de op.d).take j)) (de op.d)[j]).1,(ll (jK sp op ((de op.d).take j)) (de op.d)[j]).2]):=by rw[K.blk.ei _ 2 (by rw[X];rcases u with h|h<;>rw[h]<;>omega),Wc H u]
    have U3:Hid (∀x:Hd,(jK sp op ((de op.d).take j)).list.take (de op.d)[j]++[x.1,x.2]++(jK sp op ((de op.d).take j)).list.drop ((de op.d)[j]+2)=(wR (jK sp op ((de op.d).take j)) (de op.d)[j] x).list):=λx=>Zv H u x
    have T:Hid (∀o:ft,wR o (de op.d)[j] (ll o (de op.d)[j])=o):=λo=>Qe u
    have qf:fits wr ob (de op.d)[j] 2=ar:=K.blk.fits _ 2 (by rw[bN,X];rcases u with h|h<;>rw[h]<;>omega);rw[I.out]at q2 U;have HI:=af K;have M:=af (T.out (jK sp op ((de op.d).take j)));rw[I.out]at M;clear K F e2 I hms H X T;generalize adC:(de op.d)[j]=off at *;generalize hx:ll op off=x at *;obtain⟨s,g2⟩:=x;have q3:=qK q2;by_cases hs:0<=s
    ·have hmp:gU sp (s,g2)=ae (s,g2)/\qq sp (s,g2)=(s,g2):=Pm hs;have HST:=af hmp;have hs':(0:Int)<=s:=hs;clear hmp;go_wp2_with fail;go_roundw
     case rel=>exact⟨j+1,by omega,by go_num,HMS.out (by rw[HST.out.1];simp),by rw[U.out,HST.out.2,M.out];exact HI.out⟩
     simp[intOf];omega
    have hs':¬(0:Int)<=s:=hs;have hs0:s<0:=by omega
    have hwl:wrap64 (-(sp.length:Int))= -(sp.length:Int):=IntWalk.wrap64_in _ (by omega);by_cases hf:s< -(sp.length:Int)
    ·have HNL:Hid (lU sp op=ah):=R.out (Pk hs0 hf);clear q2 qf;go_wp2_with fail
     go_ret2
     have h5:sX (q,sp) op=5:=by unfold sX;rw[HNL.out];rfl
     have HN:Hid (l7 (z,[]) Y=ah/\vU (z,[]) Y=sX (q,sp) op):=D.out (by rw[h5];exact(by decide:(5:Int)≠0));exact⟨k,5,rfl,E1 HL.out (HN.out.2.trans h5),bW ⟨by decide,by omega,by omega,λ_=>HN.out.1,HI.out.drop.drop.drop.drop⟩⟩
    obtain⟨i,hi,hsi,hm1,XJ⟩:=SY (sp:=sp) (x:=(s,g2)) hs0 hf;have hws:wrap64 (-s)= -s:=IntWalk.wrap64_in _ (by omega);have Ze:wrap64 (-s-1)=(i:Int):=by rw[hsi];exact IntWalk.wrap64_in _ (by omega)
    have D2:(0:Int)<=(i:Int):=by omega
    have hi1:(i:Int)<sp.length:=by omega
    obtain⟨As',cs',e0,_,_,F⟩:=pT (HI.out.nth 3 (by simp)).rowAt;injection e0 with e1 e2 e3;subst e1;subst e3;obtain⟨gs,rfl,q5⟩:=F i hi;have ad0:(sp.length:Int)<=cs:=by omega
    have HM1:Hid (gU sp (s,g2)≠ah):=af (by rw[hm1];exact Option.some_ne_none _);have HM2:=af XJ;clear hm1 XJ F e2 u R;generalize sp[i]=y at *;obtain⟨y1,y2⟩:=y;have hii:i=(-s).toNat-1:=by omega
    have q6:row? wr gs (((-s).toNat-1) *2) 2=ae (ints [y1,y2]):=by rw[<-hii];exact q5
    clear hii;have y3:=HI.out.put off [y1,y2];rw[show off+ [y1,y2].length=off+2 from rfl,U3.out (y1,y2)]at y3;have y3:=af y3;go_wp2_with fail;clear qf q2 q3 q1 q5 q6 U3 hs hs' hs0 hwl hf hws Ze hsi D2 hi1;go_roundw
    case rel=>exact⟨j+1,by omega,by go_num,HMS.out HM1.out,by rw[U.out,HM2.out];exact y3.out⟩
    simp[intOf];omega
   have:j=(de op.d).length:=by omega
   subst this;rw[cE]at K;have Q:Hid (lU sp op=ae (jK sp op (de op.d))):=Pf λt ht=>hms t ht ht
   have HMB:=af (Nk sp (de op.d) op);generalize jK sp op (de op.d)=o2 at *;have It:=K.swap.drop;have H:o2.b.v.length=8:=by rw[HMB.out.1];exact HV8.out
   have HV2:=af H;have q2:row? wr ob 0 16=ae (ints o2.list):=It.blk.bw (ft.len H);have Q8:=af It.swap;clear K It hms H;go_wp2_with fail;refine(Z6 Q8.out Yb.out o2 HV2.out).mono ?_;rintro e w7 ⟨rfl,UC⟩;have f:Hid (sX (q,sp) op=(sK q o2).2.2):=by unfold Hid sX;rw[Q.out];rfl
   have J:Hid (sX (q,sp) op=0->rD (q,sp) op=ae ((sK q o2).1,if op.d=1 then sp++[(sK q op).2.1]else sp)):=λh=>by unfold rD;rw[if_pos h];unfold El;rw[Q.out];rfl
   have EX:=af UC;clear UC Q8 q2;have S:Hid (op.d=1->o2=op):=λh=>by have N:=Q.out;rw[Pg h]at N;injection N with N;exact N.symm
   generalize hr:sK q o2=r at *;have HR:=af hr;clear hr;obtain⟨z2,⟨N,h2⟩,E⟩:=r;simp only at f J EX|-;go_upto_region 17 with(fail)
   refine b9 (In G Z (a8 w7.heap.size 43 (ints [N,h2])::cA np z2::a8 ob 74 (ints o2.list)::jz (.slice As sp.length cs) sp::cA p z::l)) (EX.out.struct 43 [0,0] [N,h2] rfl) ?_;generalize w7.heap.size=hb;intro w8 O0;have q4:row? w8 hb 0 2=ae (ints [N,h2]):=O0.blk.bw rfl;have q5:w8.cell? ⟨ob,0,ah⟩=ae (.int .i64 o2.d):=O0.third.blk.cell 0;rw[HMB.out.2]at q5;have QI:=af O0;clear O0 EX;by_cases he:E=0;rotate_left
   ·have O6:(E !=0)=ar:=by simpa using he
    go_wp2_with fail
    go_ret2
    exact⟨k,E,rfl,E1 HL.out ((D.out (by rw[f.out];exact he)).2.trans f.out),bW ⟨he,by omega,by omega,λ_=>(D.out (by rw[f.out];exact he)).1,QI.out.drop.drop.drop.drop⟩⟩
   subst he;have C:=af (J.out f.out);clear J D;generalize aed:op.d=d at *;by_cases L:d=1
   ·have hd:(d==1)=ar:=by simp[L]
    have HE1:Hid ((sK q op).2.1=(N,h2)):=by have h3:=S.out L;have h4:=HR.out;rw[h3]at h4;unfold Hid;rw[h4]
    have HSP:Hid (l7 (z,[]) (Y.take (k+1))=ae (z2,sp++[(N,h2)])):=by unfold Hid;rw[v.out,C.out,if_pos L,HE1.out]
    have y4:Hid (In G Z (jz (.slice As sp.length cs) sp::a8 hb 43 (ints [N,h2])::cA np z2::a8 ob 74 (ints o2.list)::cA p z::l) w8):=QI.out.fourth;have HO:=af y4.out.rowAt;clear L S HR v C QI HMB Q f;go_wp2_with (at_builtin;go_loud (refine ep rfl _ _ 122 rfl 0 43 i0 _ 2 16 underlying122 D2 D4 D5 Cy rfl (by decide) (.slice As sp.length cs) sp.length (sp.flatMap hC) rfl HO.out [.int .i64 N,.int .i64 h2] rfl rfl (by simp[fX]) ?_ ?_ (bF _) ?_))
    case refine_1=>unfold maxLen;omega
    case refine_2=>omega
    intro v' w9 ho hg SA;have aaO:=In.E5 (x:=(N,h2)) y4.out ho hg SA;have acx:=af aaO;clear ho hg SA aaO y4 HO q4 q5;go_wp2_with fail;go_roundw
    case rel=>exact⟨k+1,z2,sp++[(N,h2)],by omega,by go_num,HSP.out,by simp;omega,acx.out.swap.drop.third.drop.swap⟩
    simp[intOf];omega
   have hd:(d==1)=au:=by simp[L]
   have HSP:Hid (l7 (z,[]) (Y.take (k+1))=ae (z2,sp)):=by unfold Hid;rw[v.out,C.out,if_neg L]
   clear L S HR v C HMB Q f;go_wp2_with fail;clear q4 q5;go_roundw
   case rel=>exact⟨k+1,z2,sp,by omega,by go_num,HSP.out,by omega,QI.out.drop.swap.drop⟩
   simp[intOf];omega
  have:k=Y.length:=by omega
  subst this;rw[cE]at a;obtain⟨wp2,fp2,m2,XJ,hf2,ha2,O⟩:=K.jC;have aaN:In G Z (cA p z::vw np wp2 fp2::dI wp2 q.ls q.f::jy fp2 m2::jz (.slice As sp.length cs) sp::l) wr:=O.reorder 5 [4,0,1,2,3] rfl (by simp);obtain⟨wp,fp,m,hm,hf,ha,P⟩:=aaN.jC;have c1:row? wr np 0 2=ae #[ptr wp2,ptr fp2]:=by rw[O.blk.row 0 2 (by simp)];rfl
  have c2:fits wr p 0 2=ar:=P.blk.fits 0 2 (by simp);have Ko:=af (P.AF [ptr wp2,ptr fp2] rfl);have HM2:=af XJ;have aau:=af a;clear K O aaN P XJ hf2 ha2 hm hf ha a;go_wp2_with fail
  go_ret2
  refine⟨Y.length,0,rfl,E1 HL.out (RM aau.out),bt ⟨q,sp,by omega,aau.out,rfl,rfl,?_⟩⟩;exact(In.lK HM2.out Ko.out.swap.drop.swap.drop.swap.drop).swap.drop
def Xh(i:mI G Z B A Y)(a:Y.length<=1099511627776)(g:∀o∈Y,o.b.v.length=8)(j:jT z)(h:In G Z (cA p z::l) w):Calls aj 49 #[ptr p,.slice A Y.length c] w λe w'=>∃n b:Int,e=.returned (.tuple #[.int .i64 n,.int .i64 b])/\EU z Y n b λk=>In G Z (cA p k::l) w':=(BI i a g j h).mono λ_ _ ⟨n,b,d,_,f⟩=>⟨n,b,d,f⟩
end
section
variable{G:Nat->Prop} {Z w:ai} {l:List bU} {p g:Nat} {z:ZS} {c:Nat} {Y:List ft} {t:az}
def DT{d:Type}(f:d->List Int)(xs:List d)(k n:Nat)(a:∀x∈xs,(f x).length=n)(b:k<xs.length):((xs.flatMap f).drop (k *n)).take n=f xs[k]:=by
 induction xs generalizing k with
 |nil=>simp at b|cons x xs g=>
  have c:=a x (by simp);cases k with|zero=>rw[Nat.zero_mul,List.drop_zero,cN,List.take_left' c];rfl|succ k=>rw[cN,Nat.succ_mul,du,<-List.drop_drop,List.drop_left' c];exact g k (λy e=>a y (by simp[e])) (by simpa using b)
def ql{b:Type}(f:b->List Int)(xs:List b)(n:Nat)(a:∀x∈xs,(f x).length=n):(xs.flatMap f).length=xs.length *n:=by
 induction xs with|nil=>simp|cons x xs d=>rw[cN,bK,a x (by simp),d λy c=>a y (by simp[c]),ay];rw[Nat.succ_mul];omega
def mI.Aw{F:Nat->Prop}(h:cD w g t (ints (Y.flatMap ft.list)))(f:∀o∈Y,o.b.v.length=8)(l:¬F g):mI F w (g+1) (ae ⟨g,0,ah⟩) Y:=by
 intro W m;have d:=h.lt;have j:cD W g t (ints (Y.flatMap ft.list)):=(m.old d l).trans h;refine⟨λr b=>by obtain⟨x,e,rfl⟩:=aI.1 b;exact ft.len (f x e),λq=>⟨g,0,rfl,by omega,λk r b=> ?_⟩⟩;rw[dx]at b;obtain⟨x,e,rfl⟩:=aF.1 b;obtain⟨i,rfl⟩:=bz.1 e;have a:∀o∈Y,(ft.list o).length=16:=λo p=>ft.len (f o p)
 have c:=ql ft.list Y 16 a;have n:(k+1) *16<=Y.length *16:=ik 16 i;rw[aZ,j.ei (k *16) 16 (by rw[c];omega),DT ft.list Y k 16 a i]
end
def nY(G:Nat->Prop)(a:ai)(B:Nat)(A:Option Addr)(ss:List Sys):Prop:=∀{W:ai},In G a [] W->xY W B A ss
def nY.FJ{w:ai}{A:Option Addr}{ss:List Sys}(h:xY w w.heap.size A ss):nY (λ_=>False) w w.heap.size A ss:=λa=>h.below a.E7
def nY.Aw{F:Nat->Prop}{w:ai}{g:Nat}{t:az}{ss:List Sys}(h:cD w g t (ints (ss.flatMap Sys.list)))(i:¬F g):nY F w (g+1) (ae ⟨g,0,ah⟩) ss:=by intro W j;have c:=h.lt;have f:cD W g t (ints (ss.flatMap Sys.list)):=(j.old c i).trans h;refine⟨λr a=>by obtain⟨x,e,rfl⟩:=aI.1 a;rfl,λm=>⟨g,0,rfl,by omega,λk r a=> ?_⟩⟩;rw[dx]at a;obtain⟨x,e,rfl⟩:=aF.1 a;obtain⟨d,rfl⟩:=bz.1 e;have b:=ql Sys.list ss 7 (λ_ _=>rfl);have l:(k+1) *7<=ss.length *7:=ik 7 d;rw[aZ,f.ei (k *7) 7 (by rw[b];omega),DT Sys.list ss k 7 (λ_ _=>rfl) d]
def uD:∀{l:List Int},il l=0->∀e∈l,e=0
 |[],_,_,h=>by cases h|x::l,h,e,a=>by unfold il at h;split at h;rename_i b;rcases b6.1 a with rfl|a;exact b;exact uD h e a;rename_i b;exact absurd h b
def FT{ss:List Sys}(h:(ec ss).2=0):(∀s∈ss,eP s=0)/\ss.length<=20:=by unfold ec at h;split at h;cases h;rename_i c;split at h;rename_i a;exact⟨λs b=>uD a _ (aI.2 ⟨s,b,rfl⟩),by omega⟩;rename_i a;exact absurd h a
def sH(z:ZS)(s:Sys)(j:Nat):ZS:=⟨z.ls,pW z.f s (z.rows.take j),z.B⟩
def S3{z:ZS}(h:jT z)(s:Sys):sH z s z.rows.length=Mi z s:=by unfold sH;rw[cE];unfold ZS.rows;rw[JA h.w];rfl
def Ek{z:ZS}(s:Sys){j:Nat}(a:j<z.rows.length):sH z s (j+1)=⟨z.ls,dL (sH z s j).f z.rows[j].h.1 (ae (z.rows[j].h.2,cq z.rows[j].b s)),z.B⟩:=by unfold sH;rw[aU a,wN]
def No{z:ZS}(h:jT z)(s:Sys){j:Nat}(a:j<z.rows.length):(sH z s j).f z.rows[j].h.1=ae (z.rows[j].h.2,z.rows[j].b):=by unfold sH;simp only;rw[yA];exact(lF h.w).1 (aR a);intro r c e;obtain⟨i,b,rfl⟩:=dn.1 c;rw[dH]at b;have:=iV.1 (rO z.ls z.f) i j (show i<z.rows.length by omega) a (by omega);rw[List.getElem_take]at e;unfold QS at this;change z.rows[i].h.1<z.rows[j].h.1 at this;omega
def V6{z:ZS}(h:jT z)(s:Sys):∀j,j<=z.rows.length->jT (sH z s j):=by
 intro j
 induction j with|zero=>intro _;exact h|succ j e=>intro f;have b:=e (by omega);have a:=No h s (show j<z.rows.length by omega);have c:=b.w.bo _ _ _ a;have d:=(b.w.lv _ _).2 ⟨_,a⟩;rw[Ek s (show j<z.rows.length by omega)];exact⟨b.w.upd d ⟨vP _ _ c.2 c.1,by rw[fF];exact c.2⟩,h.qk,h.Qk,h.lv⟩
def DD(b:aN)(s:Sys):∀j,j∉kinds b.k.toNat->(cq b s).v.getD j 0=b.v.getD j 0:=by
 intro j a;refine gw b s j λhm=>a ?_
 have:=(lW b s j).1 hm;exact(jg _ _).2 ⟨this.1,this.2.1⟩
section
variable{G:Nat->Prop} {Z w:ai} {l:List bU} {p:Nat} {z:ZS} {B:Nat} {A:Option Addr} {c:Nat} {ss:List Sys}
def JB(h:In G Z (cA p z::l) w)(i:jT z):Calls aj 37 #[ptr p] w λe w'=>∃A c,e=.returned (.slice A z.rows.length c)/\In G Z (cm (.slice A z.rows.length c) z.rows::cA p z::l) w':=by have n:=af i;obtain⟨wp,u,m,hm,r,q,a⟩:=h.jC;obtain⟨sp,d⟩:=a.swap.Uo;have t:w.cell? ⟨p,0,ah⟩=ae (ptr wp):=a.blk.cell 0;have HM:=af hm;have b:=af d;clear h a d hm r q i;have f:=af (Jz b.out n.out.w yF);rw[ER,if_pos rfl,Bd xq,BJ]at f;go_enter func37,ntmps37;go_wp2_with fail;refine f.out.mono ?_;rintro e s ⟨v,rfl,g⟩;obtain⟨j,o,rfl,_,_,_⟩:=cu g.rowAt;have k:Hid (In G Z (cm (.slice j z.rows.length o) z.rows::cA p z::l) s):=(In.lK (z:=z) HM.out (g.swap.GD.reorder 4 [2,0,3,1] rfl (by simp))).swap;clear g f b;go_wp2_with fail;go_ret;exact⟨_,_,rfl,k.out⟩
def vl(hS:nY G Z B A ss)(hB:B<=Z.heap.size)(n:ss.length<=maxLen)(h:In G Z (cA p z::l) w)(hk:jT z):Calls aj 12 #[ptr p,.slice A ss.length c] w λe w'=>e=.returned (.int .i64 (ec ss).2)/\In G Z (cA p (if(ec ss).2=0 then jm z ss else z)::l) w':=by
 have HS:Hid (nY G Z B A ss):=hS;have HK:=af hk;have Q:=af h;have hnm:(ss.length:Int)<=9223372036854775807:=by unfold maxLen at n;omega
 have HP:=af (I' A c ss w (gn.more (hS h.bare) (by have:=h.size;omega)) n);clear hS h hk n;obtain⟨pn,L⟩:∃pn,(ec ss).2=pn:=⟨_,rfl⟩;rw[L]at HP|-;have X:=af L;clear L;obtain⟨zo,M⟩:∃zo,zo=(if pn=0 then jm z ss else z):=⟨_,rfl⟩;rw[<-M];have u:=af M;clear M;go_enter func12,ntmps12;go_wp2_with fail;refine HP.out.mono ?_;rintro e w2 ⟨v,rfl,ho,uE⟩;have F:=af (Q.out.below uE);clear ho uE HP Q;by_cases he:pn=0;rotate_left
 ·have zd:(pn !=0)=ar:=by simp[he]
  have I:Hid (zo=z):=u.out.trans (if_neg he);clear he u;go_wp2_with fail;go_ret;exact⟨rfl,by rw[I.out];exact F.out⟩
 have HZ0:Hid (zo=jm z ss):=u.out.trans (if_pos he);clear u;subst he;have Yb:=af (FT X.out).1;have h20:=(FT X.out).2;have ac0:(ss.length:Int)<=20:=by omega
 go_wp2_with fail;go_loopw [21] (λi w'=>∃k:Nat,k<=ss.length/\i=.int .i64 k/\In G Z (cA p (jm z (ss.take k))::l) w') (λi _=>ss.length-(intOf i).toNat)
 case atStart=>exact⟨0,bF _,rfl,F.out⟩
 case round=>
  clear F;obtain⟨k,hk,rfl,f⟩:=hrel;by_cases x:k<ss.length
  ·have K1:(k:Int)<ss.length:=by omega
   obtain⟨g,o,rfl,hgb,q1⟩:=(HS.out f.bare).at_ x;have e1:ss.getD k dv=ss[k]:=by simp[bm,x]
   rw[e1]at q1;have HSK:=af (Yb.out ss[k] (aR x));have HST:=af (P9 z ss x);have I:=af (HK.out.run (ss.take k));have t:=af f;clear f e1;generalize ss[k]=s at *;generalize jm z (ss.take k)=a at *;go_upto_region 7 with(fail)
   refine b9 (In G Z (a8 wr.heap.size 54 (ints s.list)::cA p a::l)) (t.out.struct 54 [0,0,0,0,0,0,0] s.list rfl) ?_;generalize wr.heap.size=N;intro w3 M';have S:=af M'.swap;clear M' t q1;go_wp2_with fail;refine(JB S.out I.out).mono ?_;rintro e w4 ⟨rA,rc,rfl,yK⟩;have T:Hid (In G Z (cA p (sH a s 0)::cm (.slice rA a.rows.length rc) a.rows::a8 N 54 (ints s.list)::l) w4):=yK.swap;have HMA:=af (S3 I.out s);have HMO:Hid (∀j,j<=a.rows.length->jT (sH a s j)):=λj=>V6 I.out s j
   have HMT:Hid (∀j(O:j<a.rows.length),(sH a s j).f a.rows[j].h.1=ae (a.rows[j].h.2,a.rows[j].b)):=λj O=>No I.out s O
   have HMS:Hid (∀j(O:j<a.rows.length),sH a s (j+1)=⟨(sH a s j).ls,dL (sH a s j).f a.rows[j].h.1 (ae (a.rows[j].h.2,cq a.rows[j].b s)),(sH a s j).B⟩):=λj O=>Ek s O
   have Y':a.rows.length<=60:=vC I.out.w;have hri:(a.rows.length:Int)<=60:=by omega
   clear yK S;generalize a.rows=d at *;go_wp2_with fail;go_loopw [28] (λi w'=>∃j:Nat,j<=d.length/\i=.int .i64 j/\In G Z (cA p (sH a s j)::cm (.slice rA d.length rc) d::a8 N 54 (ints s.list)::l) w') (λi _=>d.length-(intOf i).toNat)
   case atStart=>exact⟨0,bF _,rfl,T.out⟩
   clear T;obtain⟨j,O,rfl,f⟩:=hrel;by_cases q:j<d.length
   ·have hji:(j:Int)<d.length:=by omega
    have V:=af (HMO.out j (by omega));have E:=af (HMT.out j q);have U:=af (HMS.out j q);obtain⟨K,Y⟩:=V.out.w.bo _ _ _ E.out;obtain⟨g2,rfl,q2⟩:=pj f.swap q Y;have Sy:(d[j]).list.length=11:=by simp[ck.list,aN.list,Y]
    have t:=af f;clear f;generalize d[j]=r at *;generalize sH a s j=zj at *;obtain⟨⟨x1,x2⟩,b⟩:=r;simp only at Y K E U;have hb9:b.list.length=9:=by simp[aN.list,Y]
    have P:=af K;have H8:=af Y;clear K;go_upto_region 10 with(fail)
    refine b9 (In G Z (cA p zj::a8 wr.heap.size 50 (ints (ck.list ⟨(x1,x2),b⟩))::cm (.slice (ae ⟨g2,0,ah⟩) d.length rc) d::a8 N 54 (ints s.list)::l)) (t.out.struct 50 [0,0,0,0,0,0,0,0,0,0,0] _ Sy).swap ?_;generalize wr.heap.size=rb;intro w5 J;have H:Hid (∀{W:ai}{zz:ZS},In G Z (cA p zz::a8 rb 50 (ints (ck.list ⟨(x1,x2),b⟩))::cm (.slice (ae ⟨g2,0,ah⟩) d.length rc) d::a8 N 54 (ints s.list)::l) W->row? W rb 0 2=ae (ints [x1,x2])/\row? W rb 2 9=ae (ints b.list)/\row? W N 0 7=ae (ints s.list)):=λ{W zz} hW=>by refine⟨by rw[hW.swap.blk.ei 0 2 (by omega)];rfl,?_,hW.fourth.blk.bw rfl⟩;rw[hW.swap.blk.ei 2 9 (by omega)];show ae (ints (b.list.take 9))=_;rw[cB (by omega)]
    obtain⟨s1,s2,s3⟩:=H.out J;have y3:=af J;clear J q2 t
    go_region_held3 (λW=>row? W rb 0 2=ae (ints [x1,x2])/\row? W rb 2 9=ae (ints b.list)/\row? W N 0 7=ae (ints s.list))
     (refine⟨?_,?_,?_⟩<;>assumption)
     (first
       |(go_at_call 38;refine(NH y.out V.out x1 x2 b (cq b s) E.out (nn b s) (vP b s H8.out P.out) (by rw[fF];exact H8.out) (DD b s)).mono ?_;rintro e w11 ⟨rfl,m⟩;obtain⟨u1,u2,u3⟩:=H.out m;have C:=af m;clear m)
       |(go_at_call 39;refine(RF b s H8.out P.out HSK.out _).mono ?_;rintro e w10 ⟨rfl,D⟩;have y:=af (y3.out.drew.below D);obtain⟨t1,t2,t3⟩:=H.out y.out;clear D))
    all_goals
     have R:Hid (In G Z (cA p (sH a s (j+1))::cm (.slice (ae ⟨g2,0,ah⟩) d.length rc) d::a8 N 54 (ints s.list)::l) w11):=by rw[U.out];exact C.out.swap.drop
     clear C;go_wp2_with fail;go_roundw
     case rel=>exact⟨j+1,by omega,by go_num,R.out⟩
     case measure=>simp[intOf];omega
   have:j=d.length:=by omega
   subst this;rw[HMA.out,<-HST.out]at f;have t:=af f.swap.drop.swap.drop;clear f;go_wp2_with fail;go_roundw
   case rel=>exact⟨k+1,by omega,by go_num,t.out⟩
   simp[intOf];omega
  have:k=ss.length:=by omega
  subst this;rw[cE]at f;have t:=af f;clear f;go_wp2_with fail;go_ret;exact⟨rfl,by rw[HZ0.out];exact t.out⟩
end
section
variable{G:Nat->Prop} {Z w:ai} {l:List bU} {p:Nat} {z:ZS}
def sr(h:In G Z (cA p z::l) w)(j:jT z):Calls aj 16 #[ptr p] w λe w'=>∃a d b f c g,e=.returned (.agg #[.slice a (db z.ls).length d,.slice b z.rows.length f,.slice c z.B.length g])/\In G Z (cI (.slice a (db z.ls).length d) (db z.ls)::cm (.slice b z.rows.length f) z.rows::ji (.slice c z.B.length g) z.B::cA p z::l) w':=by refine(ES h j).mono ?_;rintro e w' ⟨m,n,k,rfl,i⟩;obtain⟨a,d,rfl,_⟩:=cu i.rowAt;obtain⟨b,f,rfl,_⟩:=cu i.swap.rowAt;obtain⟨c,g,rfl,_⟩:=cu i.third.rowAt;exact⟨a,d,b,f,c,g,rfl,i⟩
end
def zl(z:ZS)(ss:List Sys):(jm z ss).ls=z.ls/\(jm z ss).B=z.B:=by
 unfold jm
 induction ss generalizing z with|nil=>exact⟨rfl,rfl⟩|cons s ss a=>exact a (Mi z s)
end
def pJ(f:BF)(g:aN->aN):BF:=λk=>(f k).map λx=>(x.1,g x.2)
def yz(f:BF)(g:aN->aN)(l:List ck):BF:=l.foldl (λf r=>dL f r.h.1 (ae (r.h.2,g r.b))) f
def Bb(f:BF)(g:aN->aN)(l:List ck)(r:ck):yz f g (l++[r])=dL (yz f g l) r.h.1 (ae (r.h.2,g r.b)):=by unfold yz;rw[List.foldl_append];rfl
def ED(f:BF)(g:aN->aN)(l:List ck){k:Int}(h:∀r∈l,r.h.1≠k):yz f g l k=f k:=by
 unfold yz
 induction l generalizing f with|nil=>rfl|cons r l b=>rw[List.foldl_cons,b _ λr a=>h r (by simp[a])];unfold dL;rw[if_neg (λe=>h r (by simp) e.symm)]
def P4{q:List (Int×Bool)}{f:BF}(u:nl q f)(g:aN->aN):yz f g (lB q f)=pJ f g:=by
 have p:∀(n:Nat)(l:List ck),l.length=n->(∀r∈l,f r.h.1=ae (r.h.2,r.b))->∀k,(∃r∈l,r.h.1=k)->yz f g l k=pJ f g k:=by
  intro n
  induction n with
  |zero=>rintro l y _ k ⟨r,a,_⟩;rw[List.eq_nil_of_length_eq_zero y]at a;cases a
  |succ n A=>
   intro l j v k c;have b:l≠ []:=by intro e;rw[e]at j;cases j
   have d:=List.dropLast_concat_getLast b;generalize l.getLast b=r at d;generalize s:l.dropLast=w at d;have i:w.length=n:=by rw[<-s,List.length_dropLast,j];rfl
   clear s;subst d;rw[Bb];unfold dL;by_cases e:k=r.h.1;rw[if_pos e];unfold pJ;rw[e,v r (by simp)];rfl;rw[if_neg e];refine A w i (λr a=>v r (by simp[a])) k ?_;obtain⟨B,o,t⟩:=c;rcases gK.1 o with h|h;exact⟨B,h,t⟩;rw[eC]at h;subst h;exact absurd t.symm e
 funext k;by_cases c:∃r∈lB q f,r.h.1=k;exact p _ _ rfl (λr a=>(lF u).1 a) k c;have m:f k=ah:=by
  cases z:f k with|none=>rfl|some x=>exact absurd ⟨⟨(k,x.1),x.2⟩,(lF u).2 z,rfl⟩ c
 rw[ED f g _ (λr a e=>c ⟨r,a,e⟩)];unfold pJ;rw[m];rfl
def Ds(g:aN->aN):Prop:=∀b,bT b=0->b.v.length=8->bT (g b)=0/\(g b).v.length=8
def nl.gen{l:List (Int×Bool)}{f:BF}(h:nl l f){g:aN->aN}(m:Ds g):nl l (pJ f g):=by refine⟨h.so,λk n=> ?_,λk n b a=> ?_⟩;rw[h.lv];unfold pJ;constructor;rintro⟨b,a⟩;exact⟨g b,by rw[a];rfl⟩;rintro⟨b,a⟩;obtain⟨x,d,c⟩:=aF.1 a;injection c with e i;exact⟨x.2,by rw[d,<-e]⟩;unfold pJ at a;obtain⟨x,d,c⟩:=aF.1 a;injection c with e i;have j:=h.bo k x.1 x.2 d;rw[<-i];exact m _ j.1 j.2
def jT.gen{z:ZS}(h:jT z){g:aN->aN}(a:Ds g):jT ⟨z.ls,pJ z.f g,z.B⟩:=⟨h.w.gen a,h.qk,h.Qk,h.lv⟩
def zZ{e:List (Int×Bool)}{f:BF}(h:nl e f){g a:aN->aN}(d:∀b,bT b=0->b.v.length=8->g b=a b):pJ f g=pJ f a:=by
 funext k;unfold pJ;cases c:f k with|none=>rfl|some x=>have:=h.bo k x.1 x.2 c;simp only[eT];rw[d _ this.1 this.2]
def DU(f:BF)(g a:aN->aN):pJ (pJ f g) a=pJ f λb=>a (g b):=by funext k;unfold pJ;cases f k<;>rfl
def M5(f:BF):pJ f (λb=>b)=f:=by funext k;unfold pJ;cases f k<;>rfl
def rh(z:ZS)(g:aN->aN)(j:Nat):ZS:=⟨z.ls,yz z.f g (z.rows.take j),z.B⟩
def S2{z:ZS}(h:jT z)(g:aN->aN):rh z g z.rows.length=⟨z.ls,pJ z.f g,z.B⟩:=by unfold rh;rw[cE];unfold ZS.rows;rw[P4 h.w]
def Ej{z:ZS}(g:aN->aN){j:Nat}(a:j<z.rows.length):rh z g (j+1)=⟨z.ls,dL (rh z g j).f z.rows[j].h.1 (ae (z.rows[j].h.2,g z.rows[j].b)),z.B⟩:=by unfold rh;rw[aU a,Bb]
def Nn{z:ZS}(h:jT z)(g:aN->aN){j:Nat}(a:j<z.rows.length):(rh z g j).f z.rows[j].h.1=ae (z.rows[j].h.2,z.rows[j].b):=by unfold rh;simp only;rw[ED];exact(lF h.w).1 (aR a);intro r c e;obtain⟨i,b,rfl⟩:=dn.1 c;rw[dH]at b;have:=iV.1 (rO z.ls z.f) i j (show i<z.rows.length by omega) a (by omega);rw[List.getElem_take]at e;unfold QS at this;change z.rows[i].h.1<z.rows[j].h.1 at this;omega
def V5{z:ZS}(h:jT z){g:aN->aN}(d:Ds g):∀j,j<=z.rows.length->jT (rh z g j):=by
 intro j
 induction j with|zero=>intro _;exact h|succ j f=>intro i;have b:=f (by omega);have a:=Nn h g (show j<z.rows.length by omega);have c:=b.w.bo _ _ _ a;have e:=(b.w.lv _ _).2 ⟨_,a⟩;rw[Ej g (show j<z.rows.length by omega)];exact⟨b.w.upd e (d _ c.1 c.2),h.qk,h.Qk,h.lv⟩
def KG(ss:List Sys):∀b,∀j,j∉kinds b.k.toNat->(iY b ss).v.getD j 0=b.v.getD j 0:=by
 induction ss with|nil=>intro b j _;rfl|cons s ss c=>intro b j a;show(iY (cq b s) ss).v.getD j 0=_;rw[c _ j (by rw[nn];exact a)];exact DD b s j a
def Hn(L:PS)(hL:rJ L):∀n,Ds λb=>Xq b L n:=by
 intro n
 induction n with|zero=>intro b a c;exact⟨a,c⟩|succ n f=>intro b a c;obtain⟨e,d⟩:=f b a c;exact⟨Hy _ _ d e,by show(iY _ _).v.length=8;rw[tV];exact d⟩
def iH(z:ZS)(L:PS)(n:Nat):ZS:=⟨z.ls,pJ z.f λb=>Xq b L n,z.B⟩
def L9(z:ZS)(L:PS):iH z L 0=z:=by
 have:(λb=>Xq b L 0)=λb=>b:=rfl
 unfold iH;rw[this,M5]
def JH{z:ZS}(h:jT z){L:PS}(hL:rJ L)(n:Nat):jT (iH z L n):=h.gen (Hn L hL n)
def zp{L:PS}(hL:rJ L)(b:Int):∀s∈gW L b,eP s=0:=λs a=>by unfold gW at a;obtain⟨x,c,rfl⟩:=aI.1 a;exact hL.ok x (cc.1 c).1
structure mQ(L:PS):Prop extends rJ L where
 apart:L.Pairwise λx y=>x.2=y.2->gu x.1 y.1=au
def vm{L:PS}(hL:mQ L)(b:Int):(gW L b).Pairwise λs t=>gu s t=au:=by
 unfold gW;rw[List.pairwise_map];refine(hL.apart.sublist List.filter_sublist).imp_of_mem λ{x y} d e h=>h ?_
 have a:=(cc.1 d).2;have c:=(cc.1 e).2;simp only[decide_eq_true_eq]at a c;rw[a,c]
def Ky{L:PS}(hL:mQ L)(b:Int):Ds λx=>ix x (gW L b):=λx c a=>by show bT (ix x (gW L b))=0/\(ix x (gW L b)).v.length=8;rw[uR x a _ _ rfl (zp hL.torJ b) (vm hL b)];exact⟨Hy _ _ a c,by rw[tV];exact a⟩
def Hf{L:PS}(hL:mQ L)(b:Int){x:aN}(a:x.v.length=8):∀j,j∉kinds x.k.toNat->(ix x (gW L b)).v.getD j 0=x.v.getD j 0:=by rw[uR x a _ _ rfl (zp hL.torJ b) (vm hL b)];exact KG _ x
def L8{z:ZS}(h:jT z){L:PS}(hL:mQ L)(n:Nat):rh (iH z L n) (λx=>ix x (gW L n)) (iH z L n).rows.length=iH z L (n+1):=by
 rw[S2 (JH h hL.torJ n)];unfold iH;rw[DU];congr 1;refine zZ h.w λb a c=> ?_
 have:=Hn L hL.torJ n b a c;exact uR _ this.2 _ _ rfl (zp hL.torJ n) (vm hL n)
def TP(ss:List Sys):∀z:ZS,jm z ss=⟨z.ls,pJ z.f λb=>iY b ss,z.B⟩:=by
 induction ss with|nil=>intro z;show z=_;have:(λb:aN=>iY b [])=λb=>b:=rfl;rw[this,M5]|cons s ss a=>intro z;show jm (Mi z s) ss=_;rw[a];unfold Mi;congr 1;show pJ (pJ z.f λb=>cq b s) _=_;rw[DU];rfl
def Qg{z:ZS}(h:jT z){L:PS}(hL:mQ L)(a:∀y∈L,0<=y.2)(n:Nat)(d:∀y∈L,y.2<n):iH z L n=jm z (E2 L):=by rw[TP];unfold iH;congr 1;exact zZ h.w λb _ c=>Vg b c L hL.torJ a n d
def dM(ss:List Sys):PS:=ss.zip (cj ss ss.length)
def jM(ss:List Sys):(dM ss).length=ss.length:=by unfold dM;rw[List.length_zip,eQ,Nat.min_self]
def PF(ss:List Sys):E2 (dM ss)=ss:=by unfold E2 dM;rw[List.map_fst_zip (by rw[eQ];exact av _)]
def l3(ss:List Sys)(i:Nat)(h:i<(dM ss).length):(dM ss)[i]=(ss[i]'(by rw[jM]at h;exact h),(cj ss ss.length).getD i 0):=by
 have a:i<ss.length:=by rw[jM]at h;exact h
 have e:(dM ss)[i]? =ae (ss[i],(cj ss ss.length).getD i 0):=by unfold dM;rw[List.getElem?_zip_eq_some];exact⟨aq a,by simp[bm,eQ,a]⟩
 rw[aq h]at e;exact aX e
def Tq{ss:List Sys}(g:∀s∈ss,eP s=0):mQ (dM ss):=by
 have a:∀i(h:i<ss.length),ss.getD i dv=ss[i]:=λi h=>by simp[bm,h]
 refine⟨⟨λx m=> ?_,?_⟩,?_⟩;obtain⟨i,d,rfl⟩:=dn.1 m;rw[l3];exact g _ (aR _);refine iV.2 λi j d f e k=> ?_
 have c:i<ss.length:=by rw[jM]at d;exact d
 have b:j<ss.length:=by rw[jM]at f;exact f
 rw[l3,l3]at k|-;have:=(Ja ss g (λs h=>py h) j b).1 i e (by rw[a i c,a j b];exact k);exact this;refine iV.2 λi j d f e l=> ?_
 have c:i<ss.length:=by rw[jM]at d;exact d
 have b:j<ss.length:=by rw[jM]at f;exact f
 rw[l3,l3]at l|-;have:=(Ja ss g (λs h=>py h) j b).2.2 i c (by omega) l;rw[a i c,a j b]at this;exact this
def FR(ss:List Sys):∀y∈dM ss,0<=y.2:=λy b=>by obtain⟨i,a,rfl⟩:=dn.1 b;rw[l3];exact(zf ss ss.length i (by rw[jM]at a;exact a)).1
def Tr{ss:List Sys}{n:Nat}(h:∀i,i<ss.length->(cj ss ss.length).getD i 0≠n):∀i,i<ss.length->(cj ss ss.length).getD i 0<n:=by
 intro i
 induction i using Nat.strongRecOn with
 |ind i f=>intro a;have b:=h i a;have c:=(zf ss ss.length i a).1;rw[wD ss ss.length i a]at b c|-;rcases uk (ss:=ss) (p:=cj ss ss.length) (s:=ss.getD i dv) i with e|⟨k,d,_,e⟩;omega;have:=f k d (by omega);omega
def PH{ss:List Sys}{n:Nat}(h:(n:Int)∉cj ss ss.length):∀y∈dM ss,y.2<n:=λy c=>by
 obtain⟨i,a,rfl⟩:=dn.1 c;rw[l3];refine Tr (λj b e=>h ?_) i (by rw[jM]at a;exact a);rw[<-e];have:j<(cj ss ss.length).length:=by rw[eQ];exact b
 rw[show(cj ss ss.length).getD j 0=(cj ss ss.length)[j]by simp[bm,this]];exact aR _
def Tp{ss:List Sys}{n:Nat}(h:(n:Int)∈cj ss ss.length):n<ss.length:=by obtain⟨i,a,e⟩:=dn.1 h;rw[eQ]at a;have:=(zf ss ss.length i a).2;rw[show(cj ss ss.length).getD i 0=(cj ss ss.length)[i]'(by rw[eQ];exact a)by simp[bm,eQ,a],e]at this;omega
def Qd(ss:List Sys)(b:Int){i:Nat}(a:i<ss.length):gW ((dM ss).take (i+1)) b=if(cj ss ss.length).getD i 0=b then gW ((dM ss).take i) b++[ss[i]]else gW ((dM ss).take i) b:=by
 have c:i<(dM ss).length:=by rw[jM];exact a
 unfold gW;rw[aU c,List.filter_append,dZ,l3];split;rename_i h;rw[List.filter_cons_of_pos (by simpa using h)];rfl;rename_i h;rw[List.filter_cons_of_neg (by simpa using h)];simp
def Qc(ss:List Sys)(b:Int):gW ((dM ss).take ss.length) b=gW (dM ss) b:=by rw[<-jM ss,cE]
def JF(L:PS)(b:Int):(gW L b).length<=L.length:=by unfold gW;rw[bu];exact List.length_filter_le _ _
section
open Rel
open Go.Conc Go.ConcN
open Go.ConcR (Payload WgAt)
open Go.RowKit
def xw{P:aO}{c:fg}{e:ak->ai->Prop}{g:bG}{Q:Exit->Act->ai->Prop}{a:Act}{w:ai}(m:c.Fits P){b:Array Oper}{i:Nat}{f:List Nat}{o:Oper}{v:ak}{w':ai}(h:oP P c e g b f Q (a.put o.dst v) w')(n:b[i]? =ae o:=by rfl)(q:bj o (yielded b a.tmps)=ar:=by rfl)(j:jL (c.at g) o=ar:=by kernel_rfl)(k:w'.tape=w.tape/\w'.drawn=w.drawn:=by exact⟨rfl,rfl⟩)(p:∀l d,(execOp a.eval o).run P (cL w l d)=.ok (.value v) (cL w' l d):=by intro l d;go_simp):oP P c e g b (i::f) Q a w:=fG m n q j k p h
def ax{P:aO}{c:fg}{e:ak->ai->Prop}{g:bG}{Q:Exit->Act->ai->Prop}{a:Act}{w:ai}(l:c.Fits P){b:Array Oper}{i:Nat}{f:List Nat}{o:Oper}(v:ak)(h:oP P c e g b f Q (a.put o.dst v) w)(m:b[i]? =ae o:=by rfl)(p:bj o (yielded b a.tmps)=ar:=by rfl)(j:jL (c.at g) o=ar:=by kernel_rfl)(n:∀k d,(execOp a.eval o).run P (cL w k d)=.ok (.value v) (cL w k d):=by intro k d;go_simp):oP P c e g b (i::f) Q a w:=fG l m p j ⟨rfl,rfl⟩ n h
def Og(A:bU):Prop:=∀(w w':ai)(F:Nat->Prop),w'.heap=w.heap->A.at_ w F->A.at_ w' F
def rH(l:List bU):Prop:=∀A∈l,Og A
def Sep.hp:∀{l:List bU}{w w':ai}{F:Nat->Prop},rH l->w'.heap=w.heap->Sep l w F->Sep l w' F|[],_,_,_,_,_,_=>trivial|A::l,w,w',F,hl,e,⟨F1,F2,h1,h2,h3,h4⟩=>⟨F1,F2,hl A (by simp) w w' F1 e h1,Sep.hp (λB a=>hl B (by simp[a])) e h2,h3,h4⟩
def In.cL{G:Nat->Prop}{l:List bU}{c w:ai}(h:In G c l w)(e:rH l)(a:Tape)(d b:Nat):In G (Rel.cL c a d) l (Rel.cL w a b):=⟨Sep.hp (w:=w) (w':=Rel.cL w a b) e rfl h.sep,⟨h.only.os,rfl,h.only.output,h.only.size,h.only.block⟩⟩
def fE(G:Nat->Prop)(w0:ai)(l:List bU)(w:ai):Prop:=In G (Rel.cL w0 w.tape w0.drawn) l w
def fE.of{G:Nat->Prop}{l:List bU}{w0 w:ai}{tp:Tape}{d:Nat}(h:In G (Rel.cL w0 tp d) l w):fE G w0 l w:=by have a:w.tape=tp:=h.only.tape;exact⟨h.sep,⟨h.only.os,rfl,h.only.output,h.only.size,h.only.block⟩⟩
def fE.at_{G:Nat->Prop}{l:List bU}{c w:ai}(h:fE G c l w)(e:rH l)(a:Tape)(d b:Nat):In G (Rel.cL c a d) l (Rel.cL w a b):=⟨Sep.hp (w:=w) (w':=Rel.cL w a b) e rfl h.sep,⟨h.only.os,rfl,h.only.output,h.only.size,h.only.block⟩⟩
def fE.cL{G:Nat->Prop}{l:List bU}{b w:ai}(h:fE G b l w)(c:rH l)(a:Tape)(d:Nat):fE G b l (Rel.cL w a d):=fE.of (h.at_ c a 0 d)
def rH.cons{A:bU}{l:List bU}(h:Og A)(b:rH l):rH (A::l):=λB a=>by rcases b6.1 a with rfl|a;exact h;exact b B a
def rH.nil:rH []:=λ_ h=>by simp at h
def a8.hp(g:Nat)(t:az)(a:Array ak):Og (a8 g t a):=λw w' F e h=>⟨by have:=h.1;unfold cD at this|-;rw[e];exact this,h.2⟩
def mX{B:Nat}{E:az}{size n:Nat}{v:ak}{xs:List ak}{w w':ai}(e:w'.heap=w.heap)(h:w.ownsRow B E size v n xs):w'.ownsRow B E size v n xs:=by unfold World.ownsRow at h|-;rw[e];exact h
def dR.hp(E:az)(size:Nat)(v:ak)(n:Nat)(xs:List ak):Og (dR E size v n xs):=λw w' F e h=>⟨mX e h.1,h.2⟩
def ZN(s:Sys):List ak:=s.list.map (aS .i64)
abbrev mf(v:ak)(ss:List Sys):bU:=dR 54 7 v ss.length (ss.flatMap ZN)
abbrev l8(v:ak)(a:List aN):bU:=dR 48 9 v a.length (a.flatMap Kz)
def Ub(s:Sys):(ZN s).length=7:=by simp[ZN,Sys.list,Query.list]
def Ti{w:ai}{E:az}{size c:Nat}{A:Option Addr}{b:Type}{f:b->List ak}(j:∀x,(f x).length=size){l:List b}(h:w.ownsRow 0 E size (.slice A l.length c) l.length (l.flatMap f)){k:Nat}(a:k<l.length):∃g,A=ae ⟨g,0,ah⟩/\(di A l.length c).ownBlock=ae g/\row? w g (k *size) size=ae (f l[k]).toArray:=by obtain⟨n,o,e,_,_,m⟩:=cu h;injection e with d p i;subst d;subst i;obtain⟨g,rfl⟩:=m (by omega);exact⟨g,rfl,rfl,by rw[kD h a,k8 j l k a]⟩
def In.own{G:Nat->Prop}{b w:ai}{l:List bU}{E:az}{size n:Nat}{v:ak}{xs:List ak}(h:In G b (dR E size v n xs::l) w):w.ownsRow 0 E size v n xs:=let⟨_,a⟩:=h.head;a.1
def lS(Pb:Nat)(e:List (List aN)):bU where
 at_ w F:=F Pb/\Pb<w.heap.size/\∀k a,e[k]? =ae a->∃v,w.cell? ⟨Pb,k,ah⟩=ae v/\w.ownsRow 0 48 9 v a.length (a.flatMap Kz)/\∀r,v.ownBlock=ae r->F r
 frame h ho hd:=⟨h.1,aW h.2.1 ho.size,λk a g=>by obtain⟨v,f,b,c⟩:=h.2.2 k a g;exact⟨v,(bp (ho.block _ h.2.1 (hd _ h.1))).trans f,ho.own b λr d=>hd r (c r d),c⟩⟩
 cut h hd:=⟨hd _ h.2.1 h.1,h.2.1,λk a g=>by obtain⟨v,f,b,c⟩:=h.2.2 k a g;exact⟨v,f,b,λr d=>hd r (b.lt r d).2 (c r d)⟩⟩
def lS.hp(Pb:Nat)(a:List (List aN)):Og (lS Pb a):=λw w' F e h=>⟨h.1,by rw[e];exact h.2.1,λk b g=>by obtain⟨v,c,d,f⟩:=h.2.2 k b g;exact⟨v,(bp (by rw[e])).trans c,mX e d,f⟩⟩
def In.part{G:Nat->Prop}{u w:ai}{l:List bU}{Pb:Nat}{e:List (List aN)}(h:In G u (lS Pb e::l) w){k i:Nat}{a:List aN}(q:e[k]? =ae a)(n:∀b∈a,b.v.length=8)(d:i<a.length):∃g c,w.cell? ⟨Pb,k,ah⟩=ae (.slice (ae ⟨g,0,ah⟩) a.length c)/\row? w g (i *9) 9=ae (ints a[i].list):=by
 obtain⟨y,o⟩:=h.head;obtain⟨v,m,f,_⟩:=o.2.2 k a q;obtain⟨A,c,rfl,_,_,p⟩:=cu f;obtain⟨g,rfl⟩:=p (by omega);refine⟨g,c,m,?_⟩;rw[kD f d];have r:∀(a:List aN)(i:Nat)(d:i<a.length),(∀b∈a,b.v.length=8)->((a.flatMap Kz).drop (i *9)).take 9=Kz a[i]:=by
  intro a
  induction a with
  |nil=>intro i d;simp at d|cons b a t=>
   intro i d h;have j:(Kz b).length=9:=by simp[Kz,aN.list,h b (by simp)]
   cases i with|zero=>rw[cN,Nat.zero_mul,List.drop_zero,List.take_append_of_le_length (by omega),cB (by omega)];rfl|succ i=>rw[cN,Nat.add_mul,jF,du,<-j,List.drop_append,List.drop_of_length_le (by omega),cg,ij,j];exact t i (by simpa using d) λx s=>h x (by simp[s])
 rw[r a i d n];rfl
def fE.behind{G:Nat->Prop}{z w w':ai}{l:List bU}{Pb:Nat}{t:az}{B:Array ak}{bd:bG->List Tmp}{old:Nat}{xs:List ck}{ss:List Sys}(h:fE G z (a8 Pb t B::l) w)(d:zv (λb=>b=Pb) w w')(hp:∀p,p<ss.length->∃o:Nat->Prop,(∀r,o r->w.heap.size+4<=r/\r<w'.heap.size)/\jpB (cfg bd old).sig Pb xs ss o p w'):fE G z (lS Pb (ss.map λs=>xs.map λr=>cq r.b s)::l) w':=by
 obtain⟨I,⟨D,q⟩,_,a⟩:=In.open_ h;have y:=d.size;have:=a (w':=w') (A':=lS Pb (ss.map λs=>xs.map λr=>cq r.b s)) ⟨.inl q,aW D.lt y,λk K g=> ?_⟩ ⟨d.os,d.tape,d.output,y,λk g H=>d.old k g λe=>H (by rw[e];exact q)⟩;exact fE.of this;rw[dx]at g;obtain⟨s,m,rfl⟩:=aF.1 g;obtain⟨f,rfl⟩:=bz.1 m;obtain⟨o,x,v,F,V,n,L,C,j⟩:=hp k f;rw[show ss.getD k dv=ss[k]by simp[bm,f]]at j;refine⟨v,F,j,λr i=>.inr ?_⟩;obtain⟨A,c,rfl,_,_,M⟩:=cu j;cases A with
 |none=>cases i|some J=>
  have u:V r:=by
   cases C with
   |slice _ _ E=>injection i with i;exact i▸E.block.2
  exact⟨by have:=x r (n r u);omega,(x r (n r u)).2⟩
section
variable{c:fg} {Z:ak->ai->Prop} {Y:bG} {Q:Exit->Act->ai->Prop} {a:Act} {X:Array Oper} {i:Nat} {W:List Nat} {o:Oper} {w:ai} {U T S:ca} {R:Array az} {n nj:Nat} {jf:bG} {caps:Array ak} {J:GY} {NR:Nat->Prop}
def Pw(hold:c.old<=w.heap.size)(M:X[i]? =ae o)(O:bj o (yielded X a.tmps)=ar)(u:o.op=.call {callee:=.value (.func 47),args:=#[U,T,S],argTypes:=R})(C:a.eval U=.int .i64 n)(D:a.eval T=.int .i64 nj)(E:a.eval S=.func (.func jf) #[] caps)(q:1<=n)(L:n<=8)(t:nj<=1000)(K:J.Ok)(h:∀b,J.CB b->b<w.heap.size)(g:∀d,Rel.Sub d->(∀l,d l l->∃o,w.heap[l]? =ae o/\ic c.sig d o o)->qc (c.at Y) d a.tmps a.tmps->(∀r,NR r->d r r)/\∀r,J.CB r->d r r)(j:∀r,NR r->¬J.CB r)(m:∀p,p<nj->J.J0 p w)(f:∀(φ:Ph)(wp:ai),φ.Ok->φ.P=aj->φ.nj=nj->(∀p,φ.jv p=.int .i64 p)->φ.CB=J.CB->φ.jl=J.jl->φ.J0=J.J0->φ.JP=J.JP->(∀r,NR r->φ.jB r)->(∀r,r<w.heap.size->wp.heap[r]? =w.heap[r]?)->Tryz.prog.globals.size<=wp.heap.size->(∀r,φ.jB r\/φ.CB r\/r=φ.Wg->r<wp.heap.size)->vz φ wp jf caps)(e:∀w',zv J.CB w w'->(∀p,p<nj->∃o:Nat->Prop,(∀r,o r->w.heap.size+4<=r/\r<w'.heap.size)/\J.JP o p w')->∃V:Nat->Prop,(∀r,V r->w.heap.size+4<=r/\r<w'.heap.size)/\(∀r,J.CB r\/V r->∃o,w'.heap[r]? =ae o/\ic c.sig (only V) o o)/\oP aj c Z Y X W Q (a.put o.dst (.tuple #[])) w'):oP aj c Z Y X (i::W) Q a w:=by
 intro b k y v x hp N;refine Vj hold M O x u C D E q L t K h (λd s G I=>g d s G (by have:=I.1;rwa[show(b.at a (.inRegion X (i::W)::k)).fn=Y from v]at this)) j m f λw' F H=> ?_
 obtain⟨V,z,A,B⟩:=e w' F H;exact⟨V,z,A,B b k y v x hp N⟩
end
section
variable{w:ai} {g o:Nat} {vs:List ak} {Z:Array ak} {e:az} {Y:Nat×Nat}
def se(h:w.heap[g]? =ae (.cells Z e Y)):(dG w g o vs).heap[g]? =ae (.cells (Z.toList.take o++vs++Z.toList.drop (o+vs.length)).toArray e Y):=by simp[dG,br,h]
def vi(h:w.heap[g]? =ae (.cells Z e Y))(c:o+vs.length<=Z.size){j:Nat}(a:j<vs.length):(dG w g o vs).cell? ⟨g,o+j,ah⟩=ae vs[j]:=by
 unfold b3;rw[se h];have b:(Z.toList.take o).length=o:=by rw[dH,Array.length_toList];omega
 simp only[Option.isSome_none,cK,if_false,List.getElem?_toArray];rw[cM,kp (by omega),b,ij,oB a,aq a]
def tx(h:w.heap[g]? =ae (.cells Z e Y))(j:o+vs.length<=Z.size){a:Addr}(f:a.block≠g\/a.off<o\/o+vs.length<=a.off\/a.spot≠ah):(dG w g o vs).cell? a=w.cell? a:=by
 by_cases c:a.block=g;unfold b3;rw[c,se h,h];simp only;cases i:a.spot with
 |some x=>rfl|none=>
  simp only[Option.isSome_none,cK,if_false,List.getElem?_toArray];have d:(Z.toList.take o).length=o:=by rw[dH,Array.length_toList];omega
  rcases f with b|b|b|b;exact absurd c b;rw[cM,oB (by omega),List.getElem?_take,if_pos b,j3];rw[kp (by rw[bK];omega),List.getElem?_drop,j3,bK,d];congr 1;omega;exact absurd i b
 unfold b3;rw[fw w g o vs a.block c]
def zX(h:w.heap[g]? =ae (.cells Z e Y))(c:o+vs.length<=Z.size)(b:Nat):dp (dG w g o vs) b=dp w b:=by by_cases a:b=g;subst a;unfold dp;rw[se h,h];simp;omega;unfold dp;rw[fw w g o vs b a]
def mU{b n:Nat}(h:dp w b=ae (e,n,0,0)):∃Z,w.heap[b]? =ae (.cells Z e (0,0))/\Z.size=n:=by
 unfold dp at h;cases a:w.heap[b]? with
 |none=>rw[a]at h;cases h|some j=>
  rw[a]at h;cases j with|cells c t Y=>obtain⟨l,k⟩:=Y;simp only[dm,Prod.mk.injEq]at h;obtain⟨d,f,g,i⟩:=h;subst d g i;exact⟨c,rfl,f⟩|_=>cases h
def Rw{b n i:Nat}(h:dp w b=ae (e,n,0,0))(d:i<n):∃v,w.cell? ⟨b,i,ah⟩=ae v:=by obtain⟨Z,a,c⟩:=mU h;refine⟨Z[i],?_⟩;unfold b3;rw[a];simp[c,d]
end
section
variable{Z:Ph} {c:fg} {Y w X L:ai} {W C p:Nat} {V:ak} {U:Nat->Prop} {T:Prop} {S:Gh} {R:Ren} {N:Nat->Prop}
def OZ{c o:Nat}{vs:List ak}{m:Array ak}{e:az}{n:Array Event}(h:w.heap[c]? =ae (.cells m e (0,0)))(f:o+vs.length<=m.size)(g:Z.CB c)(t:S.held p)(u:∀j,j<vs.length->Z.jl p ⟨c,o+j,ah⟩)(i:∀e∈n,∃j,j<vs.length/\e=⟨.cell ⟨c,o+j,ah⟩,ar,au⟩):Z.uP S w (dG w c o vs) n:=by refine⟨λb f v y=>fw w c o vs b λe=>y (e▸g),λa _ v=>tx h f ?_,λb _=>zX h f b,by rw[iz];exact av _,rfl,rfl,rfl,λe z=> ?_⟩;by_cases d:a.block=c;by_cases q:a.off<o;exact .inr (.inl q);by_cases r:o+vs.length<=a.off;exact .inr (.inr (.inl r));refine .inr (.inr (.inr λs=>v p t ?_));have:=u (a.off-o) (by omega);obtain⟨A,l,x⟩:=a;simp only at d q r s this;subst d s;rwa[show o+(l-o)=l by omega]at this;exact .inl d;obtain⟨j,k,rfl⟩:=i e z;exact .inr ⟨rfl,c,rfl,.inr (.inl ⟨p,_,t,u j k,rfl⟩)⟩
def OX{c o:Nat}{vs:List ak}{g:Array Event}(i:S.own c)(d:¬Z.CB c)(f:∀e∈g,∃j,j<vs.length/\e=⟨.cell ⟨c,o+j,ah⟩,ar,au⟩):Z.uP S w (dG w c o vs) g:=by refine⟨λb h n p=>fw w c o vs b λe=>n (e▸i),λa k _=> ?_,λb h=> ?_,by rw[iz];exact av _,rfl,rfl,rfl,λe l=> ?_⟩;unfold b3;rw[fw w c o vs a.block λe=>d (e▸k)];unfold dp;rw[fw w c o vs b λe=>d (e▸h)];obtain⟨j,m,rfl⟩:=f e l;exact .inr ⟨rfl,c,rfl,.inl (.inl i)⟩
def PB.put(O:Z.Ok)(h:PB Z c Y W C V p U T S w L R N)(f:∀a x,c.mem a=ae x->Z.jB a.block)(j:∀b,¬Z.CB b->X.heap[b]? =w.heap[b]?)(z:∀b,Z.CB b->dp X b=dp w b)(A:∀a,Z.CB a.block->¬Z.jl p a->X.cell? a=w.cell? a)(k:X.heap.size=w.heap.size):PB Z c Y W C V p U T S X L R N:=by
 have own:∀b,S.own b->X.heap[b]? =w.heap[b]?:=λb d=>j b (h.cb b d).1
 have g:∀b,Z.jB b->X.heap[b]? =w.heap[b]?:=λb d=>j b λB=>O.Oy b B d
 refine⟨h.o1,h.oC,(bp (own W h.o1)).trans h.c1,(own C h.oC).trans h.cC,λb d=>(g b d).trans (h.rd b d),λb d=>(z b d).trans (h.pay b d),?_,λx e=> ?_,by rw[k];exact h.size,h.hp,h.held,h.over,h.po,?_,h.no,λi D n=> ?_⟩;obtain⟨I,H,F⟩:=h.live;exact⟨I,H,(j Z.Wg O.Oz).trans F⟩;rw[k];exact h.cb x e;refine⟨h.hH.ok,λl x e=> ?_,h.hH.kr,by rw[k];exact h.hH.mR,λa x e=> ?_⟩;obtain⟨o,G,q,r,s⟩:=h.hH.obj l x e;exact⟨o,G,q,(own x (h.po l x e).1).trans r,s⟩;obtain⟨t,u,v,y⟩:=h.hH.old a x e;exact⟨t,u,v,(iW (g _ (f a x e))).trans y⟩;exact O.jp _ w _ i (λb d=>own b d.1) (λa m=>A a (O.la i a m) λE=>n (O.yi i p a m E)) (h.td i D n)
end
end
end Go.Proofs.YtknejlcijdngoaaGreat
