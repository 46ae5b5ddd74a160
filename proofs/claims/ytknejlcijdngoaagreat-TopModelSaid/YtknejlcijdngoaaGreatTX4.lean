/- Several texts in one, made short by a program of mine. -/
import Derived.Test.YtknejlcijdngoaaGreatTX3
import Derived.Sort.Grow
import Derived.Shelf.SlMaps.Clone
import Derived.Conc.TokenWalk
import Derived.Deep.AppendLies
import Derived.Deep.DeepCutAuto
import Derived.StillTailTactics
import Derived.RangeFuncNested
import Derived.RangeFuncBound
import Derived.RangeFuncCalls
import Derived.RangeFuncLeaves
import Derived.RegionIn
import Derived.BigRegionIn
import Derived.OwnWalkIn
import Derived.TacticsInMore
import Derived.LoopNIn
import Derived.LoopIn
import Derived.Sort.MapsRangeIn
import Derived.Maps.OwnIn
set_option linter.defProp false
set_option linter.unusedVariables false
set_option linter.unusedSimpArgs false
set_option linter.unusedSectionVars false
set_option maxHeartbeats 16000000
set_option maxRecDepth 100000
open Array renaming getD_eq_getD_getElem?->bF,getElem?_eq_some_iff->aC,getElem?_modify->bp,getElem?_setIfInBounds_ne->aH,getElem?_setIfInBounds_self_of_lt->aQ,replicate->dE,replicate_succ->ed,replicate_zero->eh
open Bool renaming and_eq_true->ay,eq_iff_iff->fj,or_eq_true->ej,false->aq,true->ak
open Go renaming Frame->dj,FuncId->eu,TypeId->cD,Value->aB,World->ar
open Go.Instr renaming loadAt->eo,lookup->lC,storeAt->fg
open Go.Lib renaming hid->ae
open Go.Proofs.Tryz renaming prog->ai
open Go.Value renaming int->aD,oneCell'->fW,ownBlock->eB
open Go.World renaming cell?->da,cell?_of_block->db,ownsRow_nil->eC,setCell->dJ,setChan->nW,size_alloc->bZ
open Int renaming toNat_natCast->bP
open List renaming any_eq_true->nS,append_assoc->b9,append_toArray->ez,cons_append->eD,eq_nil_of_length_eq_zero->dw,ext_getElem?->kM,filter_sublist->ly,flatMap_append->bS,foldl_append->jc,foldl_cons->o5,getD->bu,getD_eq_getElem?_getD->a7,getElem?_append_right->nE,getElem?_cons_succ->eQ,getElem?_eq_getElem->aj,getElem?_eq_some_iff->bg,getElem?_map->dX,getElem?_set->fE,getElem?_take->gF,getElem_mem->aF,length_append->bm,length_cons->ax,length_filter_le->iE,length_map->aY,length_nil->aM,length_set->cx,map_append->en,map_congr_left->dF,map_cons->gg,map_set->jG,mem_append->fM,mem_cons->b8,mem_cons_of_mem->kN,mem_filter->b3,mem_flatMap->nT,mem_iff_getElem->bR,mem_map->aA,mem_of_getElem?->kO,mem_range->eS,mem_singleton->aO,mergeSort_perm->hZ,nil_append->de,pairwise_iff_getElem->eA,push_toArray->e8,range->bB,range'->fL,setIfInBounds_toArray->az,set_cons_succ->a8,set_cons_zero->bh,size_toArray->aU,take_append_drop->fZ,take_length->cq,take_succ_eq_append_getElem->aV
open List.Perm renaming append_left->dM,refl->ot,swap->cz
open List.range renaming loop->ca
open Nat renaming add_comm->bM,add_zero->j6,le_refl->ao,le_trans->bD,testBit_and->lk,zero_add->bN,zero_le->bH
open Option renaming getD_some->bT,map_eq_some_iff->aG,none->ah,some->af
open Or renaming inl->bq,inr->cc
namespace Go.Proofs.YtknejlcijdngoaaGreat
open Go.Proofs.Tryz
section
open Go.RowKit
def pE(x y:Int):Int:=if x<y then-1 else if y<x then 1 else 0
def Hn(a b:Hd):Int:=if pE a.1 b.1=0 then pE a.2 b.2 else pE a.1 b.1
def qc(x y):pE x y<0↔x<y:=by
 unfold pE;split
 simp_all
 split<;>simp_all
def DJ(x y):pE x y=0↔x=y:=by unfold pE;split;simp;omega;split;simp;omega;simp;omega
def sJ(a b):decide (Hn a b<0)=D' a b:=by
 unfold Hn D';rw[fj];simp only[decide_eq_true_eq,ej,ay];split;rename_i h;have:=(DJ _ _).1 h;rw[qc];omega;rename_i h;rw[qc];have:a.1≠b.1:=λe=>h ((DJ _ _).2 e)
 omega
def Ec(x w):Calls ai 151 #[.int .i64 x] w λe a=>e=.returned (.bool aq)/\w=a:=by go_enter func151,ntmps151;go_wp2_with fail;go_ret;exact⟨cG (by simp),rfl⟩
def uQ(x y w):Calls ai 99 #[.int .i64 x,.int .i64 y] w λe c=>e=.returned (.int .i64 (pE x y))/\w=c:=by
 have f:Hid (x<y->pE x y= -1):=λh=>by unfold pE;rw[if_pos h]
 have g:Hid (¬x<y->y<x->pE x y=1):=λh a=>by unfold pE;rw[if_neg h,if_pos a]
 have i:Hid (¬x<y->¬y<x->pE x y=0):=λh a=>by unfold pE;rw[if_neg h,if_neg a]
 go_enter func99,ntmps99;go_wp2_with fail;refine(Ec x w).mono ?_;rintro e c ⟨rfl,rfl⟩;go_wp2_with fail;refine(Ec y w).mono ?_;rintro e c ⟨rfl,rfl⟩;by_cases b:x<y
 ·go_wp2_with fail;go_ret;exact⟨cZ (f.out b).symm,rfl⟩
 by_cases d:y<x
 ·go_wp2_with fail;go_ret;exact⟨cZ (g.out b d).symm,rfl⟩
 go_wp2_with fail;go_ret;exact⟨cZ (i.out b d).symm,rfl⟩
def Oe(b x y w)(q:w.cell? ⟨b,0,ah⟩=af (.int .i64 x))(s:w.cell? ⟨b,1,ah⟩=af (.int .i64 y)):Calls ai 143 #[.slice (af ⟨b,0,ah⟩) 2 2] w λe g=>e=.returned (.int .i64 (if x=0 then y else x))/\w=g:=by
 have o:Hid (¬x=0->(if x=0 then y else x)=x):=λh=>by rw[if_neg h]
 have j:Hid (x=0->(if x=0 then y else x)=y):=λh=>by rw[if_pos h]
 generalize (if x=0 then y else x)=r at *;go_enter func143,ntmps143;go_wp2_with fail;go_loopw [8] (λi g=>∃k:Nat,k<=2/\i=.int .i64 k/\(0<k->x=0)/\(1<k->y=0)/\w=g) (λi _=>2-(intOf i).toNat)
 case atStart=>exact⟨0,by omega,rfl,λh=>by omega,λh=>by omega,rfl⟩
 case round=>
  obtain⟨k,p,rfl,l,m,rfl⟩:=hrel;have d:=ae l;have n:=ae m;clear l m
  match k,p with
  |0,_=>
   by_cases a:x=0
   ·have c:=ae a;have f:(x !=0)=aq:=by simp[a]
    clear a;go_wp2_with fail;go_roundw
    case rel=>exact⟨1,by omega,rfl,λ_=>c.out,λh=>by omega,trivial⟩
    simp[intOf]
   have c:=ae a;have f:(x !=0)=ak:=by simp[a]
   clear a;go_wp2_with fail;go_ret;exact⟨cZ (o.out c.out).symm,rfl⟩
  |1,_=>
   by_cases a:y=0
   ·have c:=ae a;have f:(y !=0)=aq:=by simp[a]
    clear a;go_wp2_with fail;go_roundw
    case rel=>exact⟨2,by omega,rfl,λ_=>d.out (by omega),λ_=>c.out,trivial⟩
    simp[intOf]
   have f:(y !=0)=ak:=by simp[a]
   clear a;go_wp2_with fail;go_ret;exact⟨cZ (j.out (d.out (by omega))).symm,rfl⟩
  |2,_=>go_wp2_with fail;go_ret;exact⟨cZ (by rw[j.out (d.out (by omega))];exact(n.out (by omega)).symm),rfl⟩
def yj(a b w):Calls ai 80 #[iU a,iU b] w λe k=>e=.returned (.int .i64 (Hn a b))/\∃q t,k=Sort.grow (w.drewN q) t:=by
 obtain⟨c,f⟩:=a;obtain⟨d,g⟩:=b;have l:Hid (Hn (c,f) (d,g)=if pE c d=0 then pE f g else pE c d):=rfl;rw[j7,j7];go_enter func80,ntmps80;go_upto_region 1 with(fail)
 have n:((w.alloc (.cells #[.int .i64 c,.int .i64 f] 43)).alloc (.cells #[.int .i64 d,.int .i64 g] 43)).cell? ⟨w.heap.size,0,ah⟩=af (.int .i64 c):=((di.new w _ _).alloc _).cell 0;have o:((w.alloc (.cells #[.int .i64 c,.int .i64 f] 43)).alloc (.cells #[.int .i64 d,.int .i64 g] 43)).cell? ⟨w.heap.size,1,ah⟩=af (.int .i64 f):=((di.new w _ _).alloc _).cell 1;have p:((w.alloc (.cells #[.int .i64 c,.int .i64 f] 43)).alloc (.cells #[.int .i64 d,.int .i64 g] 43)).cell? ⟨w.heap.size+1,0,ah⟩=af (.int .i64 d):=by have:=(di.new (w.alloc (.cells #[.int .i64 c,.int .i64 f] 43)) 43 #[.int .i64 d,.int .i64 g]).cell 0;rwa[bZ]at this
 have s:((w.alloc (.cells #[.int .i64 c,.int .i64 f] 43)).alloc (.cells #[.int .i64 d,.int .i64 g] 43)).cell? ⟨w.heap.size+1,1,ah⟩=af (.int .i64 g):=by have:=(di.new (w.alloc (.cells #[.int .i64 c,.int .i64 f] 43)) 43 #[.int .i64 d,.int .i64 g]).cell 1;rwa[bZ]at this
 have m:Hid (((w.alloc (.cells #[.int .i64 c,.int .i64 f] 43)).alloc (.cells #[.int .i64 d,.int .i64 g] 43))=Sort.grow w #[.cells #[.int .i64 c,.int .i64 f] 43,.cells #[.int .i64 d,.int .i64 g] 43]):=by unfold Hid;rw[Sort.alloc_eq_grow,Sort.alloc_eq_grow,Sort.grow_grow];rfl
 generalize ((w.alloc (.cells #[.int .i64 c,.int .i64 f] 43)).alloc (.cells #[.int .i64 d,.int .i64 g] 43))=j at *;generalize w.heap.size+1=v at *;generalize w.heap.size=u at *
 go_still_tail 10,(by kernel_rfl)
 still_call (JN (uQ _ _ _))
 repeat still_step
 still_call (JN (uQ _ _ _))
 repeat still_step
 refine wpStill_nil ?_;change wpList _ _ _ _ _ j.drew;generalize pE c d=h at *;generalize pE f g=i at *;clear n o p s;go_wp2_with fail;refine(Oe _ h i _ (di.new j.drew 3 #[.int .i64 h,.int .i64 i]|>.cell 0) (di.new j.drew 3 #[.int .i64 h,.int .i64 i]|>.cell 1)).mono ?_;rintro e k ⟨rfl,rfl⟩;generalize (if h=0 then i else h)=r at *;go_wp2_with fail;go_ret;exact⟨cZ l.out.symm,1,#[.cells #[.int .i64 c,.int .i64 f] 43,.cells #[.int .i64 d,.int .i64 g] 43,.cells #[.int .i64 h,.int .i64 i] 3],by rw[m.out,Sort.alloc_eq_grow,Sort.grow_grow];rfl⟩
end
section
open Go.RowKit Go.ChangeShapes Go.WideShapes Go.ChangeAt Go.Deep
def Sz:Tryz.prog.bytesOf 74=128:=by kernel_rfl
def FQ{H i W r z v}{d:DataW H}{p y u}(j:Nat)(t:(DataW.weightsEach ai y u).all (· <=reachBytes)=ak)(J:y[j]? =af 22)(C:u[j]? =af d)(K:Value.okWide ai W r z 22 v)(h:DataW.Trod i ai W 0 (λ_=>ak) ak 22 v d p)(m:∀x∈p,x.block<W.heap.size):∃A c b,v=.slice A (List.length b) c/\b.length<=1099511627744/\sx W W.heap.size A b/\(∀o∈b,o.b.v.length=8/\∀x∈mo.list o,Fits x)/\b.length<=c/\c<=maxLen:=by
 obtain⟨A,n,c,rfl,B,F,l,f,a,D⟩:=AH 5 underlying22 (by kernel_rfl) (by rw[IW];omega) K h m;rw[IW]at a;have E:f.length=n *16:=by have:=a.1;simpa using this
 have k:=nZ E;have Xb:n<=1099511627744:=by
  obtain⟨g,L,h|h⟩:=l;have:=sized_slice t J (h.1▸C) underlying22;rw[Sz,h.2]at this;have G:reachBytes<=140737488351232:=by decide
  generalize L.length=q at *;omega;omega
 have e:((ki 16 f n).map Wt).map mo.list=ki 16 f n:=by
  rw[List.map_map]
  conv=>rhs;rw[<-List.map_id (ki 16 f n)]
  exact dF λr a=>(xV (k r a)).1
 refine⟨A,c,(ki 16 f n).map Wt,by rw[aY,kp],by rw[aY,kp];omega,?_,?_,by rw[aY,kp];exact F,B⟩;unfold sx;rw[e];exact Reads.chunks a (by omega);intro s I;obtain⟨r,a,rfl⟩:=aA.1 I;refine⟨(xV (k r a)).2,λx w=> ?_⟩;rw[(xV (k r a)).1]at w;exact D x (yk r a x w)
end
section
open Go.RowKit
def Uz(w:ar)(K:Int)(e:Ending)(a:ar):Prop:=Below w.heap.size w a/\if 0<=K/\K<=255 then∃p,e=.returned (.tuple #[td p,.int .i64 0])/\(mx p K []).at_ a (λk=>w.heap.size<=k)else e=.returned (.tuple #[.pointer ah,.int .i64 1])
def Pf{c:Type}(M C I B:c)(L):(M::C::I::B::L).Perm ([I,B,M]++(L++[C])):=by
 have a:(C::I::B::L).Perm (I::B::(L++[C])):=(cz _ _ _).trans (((cz _ _ _).trans (((List.perm_append_singleton C L).symm).cons B)).cons I)
 have b:(M::I::B::(L++[C])).Perm (I::B::M::(L++[C])):=(cz _ _ _).trans ((cz _ _ _).cons I);exact(a.cons M).trans b
def Tw(K w):Calls ai 174 #[.int .i64 K] w (Uz w K):=by
 by_cases C:0<=K;rotate_left
 ·have hn:K<0:=by omega
  have hb:decide (K<0)=ak:=by simpa using hn
  have L:Hid (¬(0<=K/\K<=255)):=by unfold Hid;omega
  clear C;go_enter func174,ntmps174;go_wp2_with fail
  go_ret2
  exact⟨Below.refl _ _,by rw[if_neg L.out];rfl⟩
 have hb:decide (K<0)=aq:=by simpa using C
 by_cases q:K<=255;rotate_left
 ·have hn:255<K:=by omega
  have L:Hid (¬(0<=K/\K<=255)):=by unfold Hid;omega
  clear q;go_enter func174,ntmps174;go_wp2_with fail
  go_ret2
  exact⟨Below.refl _ _,by rw[if_neg L.out];rfl⟩
 have s:decide (255<K)=aq:=by simpa using q
 have D:=q;have X:Hid (eK (m8 K)=(iQ K).map λk:Nat=>(k:Int)):=by
  unfold Hid eK iQ m8;have:(K % 256).toNat=K.toNat:=by rw[Int.emod_eq_of_lt C (by omega)]
  rw[this];rfl
 have hmm:= @run_makeMap ai;have R:Hid (∀k∈iQ K,k<8):=λk V=>by have:=(b3.1 V).1;simpa using this
 go_enter func174,ntmps174;go_upto_region 4 with(fail)
 refine a6 (In (λ_=>False) w [aN (w.heap.size+1) 215 #[.int .i64 K,.slice ah 0 0,.map (af w.heap.size)],PtrMap w.heap.size []])
  (by have q:=(In.nil w (λ_=>False)).FK (aD .i64) td mA
      have h2:=q.alloc 215 #[.int .i64 K,.slice ah 0 0,.map (af w.heap.size)];simpa using h2) ?_
 generalize w.heap.size+1=p;generalize G:w.heap.size=m;have HMB:=ae G;clear G;intro w1 z;have g:=ae z;clear z;go_wp2_with fail;refine(sZ K w1).mono ?_;rintro e w2 ⟨v,rfl,Y,s⟩;rw[X.out]at Y;have n:=ae (g.out.tU Y s);obtain⟨A,c,rfl,_⟩:=n.out.lJ;have F:Hid (((iQ K).map λk:Nat=>(k:Int)).length=(iQ K).length):=by unfold Hid;simp
 have hl8:(iQ K).length<=8:=oh _;rw[F.out];have Ve:((iQ K).length:Int)<=8:=by omega
 clear g Y s;go_wp2_with fail;go_loopw [20] (λi w'=>∃j:Nat,j<=(iQ K).length/\i=.int .i64 j/\∃a:Nat->Nat,In (λ_=>False) w ([ei (.slice A ((iQ K).map λk:Nat=>(k:Int)).length c) ((iQ K).map λk:Nat=>(k:Int)),aN p 215 #[.int .i64 K,.slice ah 0 0,.map (af m)],PtrMap m (((iQ K).take j).map λk:Nat=>((k:Int),a k))]++((iQ K).take j).map λk=>jN (a k) []) w') (λi _=>(iQ K).length-(intOf i).toNat)
 case atStart=>exact⟨0,by omega,rfl,λ_=>0,by simpa using n.out⟩
 clear n;obtain⟨j,hj,rfl,a,z⟩:=hrel;have g:=ae z;obtain⟨A',c',hA,J⟩:=z.lJ;injection hA with P Q e3;subst P;subst e3;have Z:=ae J;clear z J Q;by_cases d:j<(iQ K).length
 ·have hji:(j:Int)<(iQ K).length:=by omega
  obtain⟨b,o,rfl,S,RM,hc⟩:=Z.out.at_ (k:=j) (by simpa using d);rw[List.getElem_map]at hc;have T2:=R.out _ (aF d);have c1:wr.cell? ⟨p,2,ah⟩=af (.map (af m)):=(In.swap g.out).blk.cell 2;have hN:Hid ((iQ K).take (j+1)=(iQ K).take j++[(iQ K)[j]]):=aV d;have u:Hid ((iQ K)[j]∉(iQ K).take j):=by unfold Hid;have:=mU K;rw[<-fZ (j+1) (iQ K),hN.out,List.nodup_append,List.nodup_append]at this;intro hm;exact this.1.2.2 _ hm _ (by simp) rfl
  generalize E:(iQ K).take (j+1)=ts' at *;have O:=ae E;generalize (iQ K).take j=f at *;generalize (iQ K)[j]=k at *;clear E;have W:mA (k:Int):=jV (by omega);have B:Hid (In (λ_=>False) w (jN wr.heap.size []::([ei (.slice (af ⟨b,o,ah⟩) ((iQ K).map λk:Nat=>(k:Int)).length c) ((iQ K).map λk:Nat=>(k:Int)),aN p 215 #[.int .i64 K,.slice ah 0 0,.map (af m)],PtrMap m (f.map λk:Nat=>((k:Int),a k))]++f.map λk=>jN (a k) [])) (wr.alloc (.cells #[.slice ah 0 0] 218))):=g.out.new ((Below.refl _ _).alloc (ao _) _) ⟨_,di.new _ _ _,eC _ _ _ _,by simp[eB],ao _,by simp[eB]⟩
  have l:eE (aD .i64) td mA (wr.alloc (.cells #[.slice ah 0 0] 218)) m (f.map λk:Nat=>((k:Int),a k)):=(In.fourth B.out).iV;clear Z S;have H:jK (f.map λk:Nat=>((k:Int),a k)) (k:Int) wr.heap.size=(f.map λk:Nat=>((k:Int),a k))++[((k:Int),wr.heap.size)]:=by
   unfold jK;rw[if_neg];intro ha;obtain⟨x,hx,e⟩:=nS.1 ha;obtain⟨y,hy,rfl⟩:=aA.1 hx;have:y=k:=by have:=of_decide_eq_true e;simp only at this;omega
   exact u.out (this▸hy)
  have N:=ae H;clear H;go_wp2_with (at_mapUpdate;go_loud (refine kW sU rfl _ _ _ 213 216 rfl underlying213 m _ rfl l (k:Int) rfl W wr.heap.size rfl ?_));intro w5 t I _;rw[N.out]at t;have M:=ae ((In.fourth B.out).rF t I);clear t I l;go_wp2_with fail;go_roundw
  case rel=>
   refine⟨j+1,by omega,by go_num,λi=>if i=k then wr.heap.size else a i,?_⟩;rw[O.out,hN.out];have P:(f++[k]).map (λi:Nat=>((i:Int),if i=k then wr.heap.size else a i))=f.map (λk:Nat=>((k:Int),a k))++[((k:Int),wr.heap.size)]:=by rw[en];congr 1;apply dF;intro i T;rw[if_neg (λe=>u.out (by rw[<-e];exact T))];simp
   have Q:(f++[k]).map (λi:Nat=>jN (if i=k then wr.heap.size else a i) [])=f.map (λk:Nat=>jN (a k) [])++[jN wr.heap.size []]:=by rw[en];congr 1;apply dF;intro i T;rw[if_neg (λe=>u.out (by rw[<-e];exact T))];simp
   rw[P,Q];refine M.out.perm ?_;exact Pf _ _ _ _ _
  simp[intOf];omega
 have U:j=(iQ K).length:=by omega
 subst U;rw[cq]at g;clear d hj;have HT:Hid ((mx p K []).at_ wr (λk=>w.heap.size<=k)):=by have q:=(In.drop g.out).add0 (A:=dN 43 2 (.slice ah 0 0) 0 []) ⟨eC _ _ _ _,by simp[eB]⟩;refine⟨by intro r J;simp at J,⟨C,D⟩,.slice ah 0 0,m,a,?_⟩;exact(q.swap).sep.cut λk _ V=>by rcases V.1 with h|h;exact h.elim;exact h
 have HB:=ae g.out.ko;go_wp2_with fail
 go_ret2
 exact⟨HB.out,by rw[if_pos ⟨C,D⟩];exact⟨p,rfl,HT.out⟩⟩
def ui(K:Int)(rows:List cQ)(r:cQ):List cQ×Int×Int:=if bx r.b≠0 then(rows,0,bx r.b)else if r.b.k≠K then(rows,0,4)else(rows++[r],(rows.length:Nat),0)
def Tq(p K rows r F w)(h:(mx p K rows).at_ w F)(hr:r.b.v.length=8)(hl:rows.length<=10000):Calls ai 175 #[.pointer (af ⟨p,0,ah⟩),.agg (ints (hL r.h)),.agg (ints r.b.list)] w λe w'=>e=.returned (.tuple #[.int .i64 (ui K rows r).2.1,.int .i64 (ui K rows r).2.2])/\(mx p K (ui K rows r).1).at_ w' (E7 F w w')/\cT F w w':=by
 obtain⟨hT,hK,P,d,a,hs⟩:=h;have Q:=ae (In.start hs);have HT:=ae hT;have HK:=ae hK;clear hs hT hK;obtain⟨⟨f,g⟩,b⟩:=r;simp only at hr;go_enter func175,ntmps175;go_upto_region 1 with(fail)
 refine a6 (In F w (aN (w.heap.size+1) 48 (ints b.list)::aN w.heap.size 43 (ints (hL (f,g)))::kF p K P d a rows (cJ rows))) (by have h2:=(Q.out.alloc 43 (ints (hL (f,g)))).alloc 48 (ints b.list);simpa using h2) ?_
 generalize w.heap.size+1=L;generalize w.heap.size=hb;intro w1 N;have z:=N.blk.aL (n:=9) (by simp[bw.list,hr]);have C:=ae N;clear N Q;go_wp2_with fail;refine(sH b hr w1).mono ?_;rintro e w2 ⟨rfl,sQ⟩;have i:=ae (C.out.below sQ);clear C sQ z;by_cases O:bx b=0;rotate_left
 ·have T:Hid (ui K rows ⟨(f,g),b⟩=(rows,0,bx b)):=by unfold Hid ui;rw[if_pos O]
  have CU:(bx b !=0)=ak:=by simpa using O
  clear O;go_wp2_with fail
  go_ret2
  rw[T.out];obtain⟨U,V⟩:=i.out.drop.drop.Rb;exact⟨rfl,⟨HT.out,HK.out,P,d,a,U⟩,V⟩
 have CU:(bx b !=0)=aq:=by rw[O];rfl
 have HE:=ae O;clear O;have M:w2.cell? ⟨L,0,ah⟩=af (.int .i64 b.k):=i.out.blk.cell 0;have c2:w2.cell? ⟨p,0,ah⟩=af (.int .i64 K):=(In.third i.out).blk.cell 0;rw[HE.out];by_cases c:b.k=K;rotate_left
 ·have T:Hid (ui K rows ⟨(f,g),b⟩=(rows,0,4)):=by unfold Hid ui;rw[if_neg (by simpa using HE.out),if_pos c]
  have I:(b.k !=K)=ak:=by simpa using c
  clear c;go_wp2_with fail
  go_quiet (fail)
  go_wp2_with fail
  go_ret2
  rw[T.out];have s:=i.out.below (w':=w2.drewN nq) ⟨rfl,rfl,rfl,ao _,λ_ _=>rfl⟩;obtain⟨U,V⟩:=s.drop.drop.Rb;exact⟨rfl,⟨HT.out,HK.out,P,d,a,U⟩,V⟩
 have T:Hid (ui K rows ⟨(f,g),b⟩=(rows++[⟨(f,g),b⟩],((rows.length:Nat):Int),0)):=by unfold Hid ui;rw[if_neg (by simpa using HE.out),if_neg (by simpa using c)]
 have I:(b.k !=K)=aq:=by simpa using c
 have S:=ae c;clear c;go_wp2_with fail
 go_quiet (fail)
 go_wp2_with fail;have s:Hid (In F w (aN L 48 (ints b.list)::aN hb 43 (ints (hL (f,g)))::kF p K P d a rows (cJ rows)) (w2.drewN nq)):=i.out.below ⟨rfl,rfl,rfl,ao _,λ_ _=>rfl⟩;clear i M c2 I;generalize w2.drewN nq=w3 at *;have z:row? w3 hb 0 2=af #[.int .i64 f,.int .i64 g]:=s.out.swap.blk.aL (xs:=[f,g]) rfl
 go_still_tail 4,(by kernel_rfl)
 repeat still_step
 change wpList _ _ _ _ _ w3.drew;have R:=ae s.out.drew;clear s z;generalize w3.drew=w4 at *;have J:=ae ((In.swap R.out).drop.third.third);obtain⟨X,hO4,TX⟩:=In.sliceAt J.out;go_wp2_with fail;refine(QI p 1 215 #[.int .i64 K,P,.map (af d)] P rows.length (rows.flatMap λr=>hC r.h) f g w4 X rfl hO4 TX (by omega)).mono ?_;rintro e w5 ⟨rfl,Z⟩;obtain⟨o,OI⟩:=In.added J.out Z;have A:Hid (In F w ([PtrMap d ((iQ K).map λk:Nat=>((k:Int),a k)),aN p 215 #[.int .i64 K,o,.map (af d)],dN 43 2 o (rows.length+1) ((rows.flatMap λr=>hC r.h)++[.int .i64 f,.int .i64 g]),aN L 48 (ints b.list)]++(iQ K).map λk=>jN (a k) (cJ rows k)) w5):=In.fourth OI;have M:w5.cell? ⟨p,2,ah⟩=af (.map (af d)):=(In.swap A.out).blk.cell 2;clear Z OI R J X hO4 TX;go_wp2_with (at_range;go_loud (refine ij rfl _ 213 216 rfl underlying213 d _ rfl (In.iV A.out) ?_));intro w6 hr6 U9 YT;have l:=ae (In.Bf A.out hr6 U9 YT);generalize w5.heap.size=ri at *;clear hr6 U9 YT M;go_wp2_with fail;go_loopw [9] (λ_ w'=>∃left,In F w ([gT (aD .i64) td mA d ri ((iQ K).map λk:Nat=>((k:Int),a k)) left,aN p 215 #[.int .i64 K,o,.map (af d)],dN 43 2 o (rows.length+1) ((rows.flatMap λr=>hC r.h)++[.int .i64 f,.int .i64 g]),aN L 48 (ints b.list)]++(iQ K).map λk:Nat=>jN (a k) (if(k:Int)∈bI left then cJ rows k else cJ rows k++[b.v.getD k 0])) w') (λ_ w'=>w'.rangeLeft d ri)
 case atStart=>
  refine⟨(iQ K).map λk:Nat=>((k:Int),a k),?_⟩;have:(iQ K).map (λk:Nat=>jN (a k) (if(k:Int)∈bI ((iQ K).map λk:Nat=>((k:Int),a k))then cJ rows k else cJ rows k++[b.v.getD k 0]))=(iQ K).map λk:Nat=>jN (a k) (cJ rows k):=by apply dF;intro k c;rw[if_pos];simp only[bI,List.map_map];exact aA.2 ⟨k,c,rfl⟩
  rw[this];exact l.out
 case round=>
  clear l A;obtain⟨left,N⟩:=hrel;have C:=ae N;clear N;go_wp2_with (at_next;go_loud (refine j5 sU rfl _ rfl d ri _ left rfl (In.rangeAt C.out) ?_ ?_))
  ·intro RN;subst RN;have m:=ae (In.third (In.third (In.drop (In.fourth (In.tw C.out)))));obtain⟨W,hO,hN⟩:=In.sliceAt m.out;obtain⟨A',c',rfl,_,_,_⟩:=aP hO;have M:wr.cell? ⟨p,1,ah⟩=af (.slice A' (rows.length+1) c'):=W.cell 1;have Vh:((rows.length:Nat):Int)+1<=1000000:=by omega
   clear W hO hN;go_wp2_with fail
   go_ret2
   rw[T.out];obtain⟨U,V⟩:=m.out.Rb;refine⟨by simp,⟨?_,HK.out,.slice A' (rows.length+1) c',d,a,?_⟩,V⟩;intro r u;rcases fM.1 u with u|u;exact HT.out r u;rw[aO.1 u];refine⟨S.out,hr,λk c hkt=> ?_⟩;refine((jQ b HE.out).2 k c).1 ?_;rw[S.out];cases hb:K.toNat.testBit k;rfl;exact absurd (b3.2 ⟨by simpa using c,hb⟩) hkt;have e1:(iQ K).map (λk:Nat=>jN (a k) (cJ (rows++[⟨(f,g),b⟩]) k))=(iQ K).map (λk:Nat=>jN (a k) (if(k:Int)∈bI ([]:List (Int×Nat))then cJ rows k else cJ rows k++[b.v.getD k 0])):=by apply dF;intro k _;rw[if_neg (by simp[bI])];unfold cJ;rw[en];rfl
   unfold kF;rw[e1,bm,bS];exact U
  intro x v w7 hx Xe ho7 YU G hen;obtain⟨k,c,M3⟩:=aA.1 ((In.rangeAt C.out).sub _ hx);injection M3 with e1 e2;subst e1;subst e2;have T2:k<8:=by have:=(b3.1 c).1;simpa using this
  have rW:(k:Int)<8:=by omega
  have l:Hid (In F w ([gT (aD .i64) td mA d ri ((iQ K).map λk:Nat=>((k:Int),a k)) (dB left (k:Int)),aN p 215 #[.int .i64 K,o,.map (af d)],dN 43 2 o (rows.length+1) ((rows.flatMap λr=>hC r.h)++[.int .i64 f,.int .i64 g]),aN L 48 (ints b.list)]++(iQ K).map λk:Nat=>jN (a k) (if(k:Int)∈bI left then cJ rows k else cJ rows k++[b.v.getD k 0])) w7):=In.mj C.out Xe ho7;have TQ:=ae c;have HX:=ae hx;have HLT:=ae G;have E:b.v[k]? =af (b.v.getD k 0):=by simp[bu,aj (show k<b.v.length by omega)]
  have M:w7.cell? ⟨L,1+k,ah⟩=af (.int .i64 (b.v.getD k 0)):=by rw[(In.fourth l.out).blk.cell (1+k),jT,bw.list,bM,eQ,E];rfl
  clear Xe ho7 YU G c hx E;obtain⟨y,hy⟩:∃y,b.v.getD k 0=y:=⟨_,rfl⟩;rw[hy]at M;have HY:=ae hy;clear hy;go_wp2_with fail;obtain⟨F1,hA,_,t⟩:=In.FO l.out (mU K) TQ.out;have H:(k:Int)∈bI left:=aA.2 ⟨_,HX.out,rfl⟩;rw[if_pos H]at hA;obtain⟨v,W,hO,hN,D⟩:=jA.parts hA;have HB:=ae t;have B:=ae D;have hlc:(cJ rows k).length<=100000:=by unfold cJ;rw[aY];omega
  refine(QJ (a k) 0 218 #[v] v (cJ rows k).length ((cJ rows k).flatMap xp) (y) w7 W rfl hO hN hlc).mono ?_;rintro e w8 ⟨rfl,Z⟩;have hE2:mE w7 w8 (a k) 218 #[v] 0 v 3 1 (cJ rows k++[y]).length ((cJ rows k++[y]).flatMap xp):=by rw[bm,bS];exact Z
  obtain⟨Y,YB⟩:=B.out _ _ hE2;have m:=ae (HB.out _ (jN (a k) (cJ rows k++[y])) Y YB);clear hA W hO hN D t HB B hlc Z hE2 Y YB l H;go_wp2_with fail;go_roundw
  case rel=>
   refine⟨dB left (k:Int),?_⟩;rw[<-HY.out]at m;have:(iQ K).map (λj:Nat=>jN (a j) (if(j:Int)∈bI (dB left (k:Int))then cJ rows j else cJ rows j++[b.v.getD j 0]))=
    (iQ K).map (λj:Nat=>if j=k then jN (a k) (cJ rows k++[b.v.getD k 0])else jN (a j) (if(j:Int)∈bI left then cJ rows j else cJ rows j++[b.v.getD j 0])):=by
    apply dF;intro j hj;by_cases GZ:j=k;subst GZ;rw[if_neg,if_pos rfl];intro hm;obtain⟨q,hq,e⟩:=aA.1 hm;exact(fI.1 hq).2 e;rw[if_neg GZ];have:(j:Int)∈bI (dB left (k:Int))↔(j:Int)∈bI left:=by constructor;intro hm;obtain⟨q,hq,e⟩:=aA.1 hm;exact aA.2 ⟨q,(fI.1 hq).1,e⟩;intro hm;obtain⟨q,hq,e⟩:=aA.1 hm;exact aA.2 ⟨q,fI.2 ⟨hq,by simp only[e];omega⟩,e⟩
    by_cases hm:(j:Int)∈bI left;rw[if_pos hm,if_pos (this.2 hm)];rw[if_neg hm,if_neg (λh=>hm (this.1 h))]
   rw[this];exact m.out
  rw[(In.rangeAt m.out).count,(In.rangeAt C.out).count];exact HLT.out
section
variable{Z w:ar} {l:List cX} {p:Nat} {K:Int} {rows:List cQ} {G:Nat->Prop}
def Ws(K)(f:0<=K/\K<=255)(h:In G Z l w):Calls ai 174 #[.int .i64 K] w λe b=>∃p,e=.returned (.tuple #[.pointer (af ⟨p,0,ah⟩),.int .i64 0])/\In G Z (mx p K []::l) b:=(Tw K w).mono λe b ⟨c,a⟩=>by rw[if_pos f]at a;obtain⟨p,a,d⟩:=a;exact⟨p,a,h.new c d⟩
def NB(h:In G Z (mx p K rows::l) w)(a c b)(o:b.v.length=8)(n:rows.length<=10000):Calls ai 175 #[.pointer (af ⟨p,0,ah⟩),.agg #[.int .i64 a,.int .i64 c],.agg (ints b.list)] w λe d=>
 e=.returned (.tuple #[.int .i64 (ui K rows ⟨(a,c),b⟩).2.1,.int .i64 (ui K rows ⟨(a,c),b⟩).2.2])/\In G Z (mx p K (ui K rows ⟨(a,c),b⟩).1::l) d:=by
 obtain⟨f,k,_,m⟩:=h.open_;exact(Tq p K rows ⟨(a,c),b⟩ f w k o n).mono λe d ⟨g,i,j⟩=>⟨g,m i j⟩
def Ml(h:In G Z (mx p K rows::l) w)(row)(j:rows.length<=10000):Calls ai 181 #[.pointer (af ⟨p,0,ah⟩),.int .i64 row] w λe a=>
 e=.returned (.tuple #[.agg (ints (lB rows row).2.1.list),.int .i64 (lB rows row).2.2])/\In G Z (mx p K (lB rows row).1::l) a:=by
 obtain⟨b,g,_,i⟩:=h.open_;exact(J1 p K rows row b w g j).mono λe a ⟨c,d,f⟩=>⟨c,i d f⟩
def Ww(h:In G Z (mx p K rows::l) w)(row)(j:rows.length<=10000):Calls ai 73 #[.pointer (af ⟨p,0,ah⟩),.int .i64 row] w λe a=>
 e=.returned (.tuple #[.agg (ints (tk rows row).1.list),.int .i64 (tk rows row).2])/\Below w.heap.size w a/\In G Z (mx p K rows::l) a:=by
 obtain⟨g,d⟩:=h.head;obtain⟨k,m,i,f⟩:=mx.see d;exact(J2 row w f (by omega)).mono λe a ⟨c,b⟩=>⟨c,b,h.below b⟩
def tt(h:In G Z (mx p K rows::l) w)(k:rows.length<=10000):Calls ai 96 #[.pointer (af ⟨p,0,ah⟩)] w λe a=>∃v,e=.returned v/\a.ownsRow w.heap.size 43 2 v rows.length (rows.flatMap λr=>hC r.h)/\Below w.heap.size w a/\In G Z (mx p K rows::l) a:=by obtain⟨i,f⟩:=h.head;obtain⟨m,n,j,g⟩:=mx.see f;exact(GG w g (by omega)).mono λe a ⟨v,c,d,b⟩=>⟨v,c,d,b,h.below b⟩
end
end
def IP{d:Type}{l:List d}(h:∀(i j:Nat) x,i<j->l[i]? =af x->l[j]? =af x->False):l.Nodup:=by rw[List.Nodup,eA];intro i j b c a e;exact h i j l[i] a (aj b) (by rw[e];exact aj c)
structure WT where
 ks:List Int
 pt:Int->Nat
 rw:Int->List cQ
 ps:List (Int×(Int×Int))
abbrev BF:=Int->Option (Int×bw)
def dC(f:BF)(s:Int)(x:Option (Int×bw)):BF:=λk=>if k=s then x else f k
def iG{a:Type}(f:Int->a)(K:Int)(x:a):Int->a:=λk=>if k=K then x else f k
def gN{a}(f K)(x:a):iG f K x K=x:=by unfold iG;rw[if_pos rfl]
def gw{b}(f){K a}(x:b)(h:a≠K):iG f K x a=f a:=by unfold iG;rw[if_neg h]
structure l3(T:WT) (f:BF):Prop where
 nd:T.ks.Nodup
 ne:∀K∈T.ks,T.rw K≠ []
 at_:∀K∈T.ks,∀(i:Nat)(r:cQ),(T.rw K)[i]? =af r->f r.h.1=af (r.h.2,r.b)/\eI T.ps r.h.1=af (K,(i:Int))
 all:∀s g b,f s=af (g,b)->∃K∈T.ks,∃i:Nat,(T.rw K)[i]? =af ⟨(s,g),b⟩
 ok:∀s g b,f s=af (g,b)->bx b=0/\b.v.length=8/\0<=s/\s<60
def l3.nil:l3 ⟨[],λ_=>0,λ_=>[],[]⟩ (λ_=>ah):=⟨List.nodup_nil,by simp,by simp,by simp,by simp⟩
section
variable{T:WT} {f:BF} {s g K:Int} {b:bw}
def l3.Vr(h:l3 T f)(w:f s=ah)(v:bx b=0/\b.v.length=8/\0<=s/\s<60)(u:K∈T.ks):l3 ⟨T.ks,T.pt,iG T.rw K (T.rw K++[⟨(s,g),b⟩]),jK T.ps s (K,((T.rw K).length:Int))⟩ (dC f s (af (g,b))):=by
 refine⟨h.nd,λc a=> ?_,λc a i r d=> ?_,λq o n j=> ?_,λq o n j=> ?_⟩;simp only[iG];split;simp;exact h.ne c a;simp only at d a|-;have old:∀c∈T.ks,(T.rw c)[i]? =af r->dC f s (af (g,b)) r.h.1=af (r.h.2,r.b)/\eI (jK T.ps s (K,((T.rw K).length:Int))) r.h.1=af (c,(i:Int)):=by
  intro c a d;obtain⟨p,t⟩:=h.at_ c a i r d;have m:r.h.1≠s:=λe=>by rw[e,w]at p;cases p
  unfold dC;rw[if_neg m,jZ,if_neg m];exact⟨p,t⟩
 by_cases e:c=K;subst e;rw[gN]at d;by_cases k:i<(T.rw c).length;rw[List.getElem?_append_left k]at d;exact old c a d;rw[nE (by omega)]at d;have l:i=(T.rw c).length:=by have:=(bg.1 d).1;simp at this;omega
 rw[l,Nat.sub_self]at d;simp at d;subst d;unfold dC;simp only[if_true];rw[jZ,if_pos rfl,l];exact⟨trivial,rfl⟩;rw[gw _ _ e]at d;exact old c a d;unfold dC at j;split at j;rename_i e;cases j;subst e;refine⟨K,u,(T.rw K).length,?_⟩;simp only[gN];rw[nE (ao _),Nat.sub_self];rfl;obtain⟨c,a,i,k⟩:=h.all q o n j;refine⟨c,a,i,?_⟩;simp only;by_cases e:c=K;subst e;rw[gN,List.getElem?_append_left (bg.1 k).1];exact k;rw[gw _ _ e];exact k;unfold dC at j;split at j;rename_i e;cases j;subst e;exact v;exact h.ok q o n j
def l3.Vq(h:l3 T f)(x:f s=ah)(m:bx b=0/\b.v.length=8/\0<=s/\s<60)(u:K∉T.ks)(p):l3 ⟨T.ks++[K],iG T.pt K p,iG T.rw K [⟨(s,g),b⟩],jK T.ps s (K,0)⟩ (dC f s (af (g,b))):=by
 refine⟨?_,λk c=> ?_,λk c i r j=> ?_,λt o n d=> ?_,λt o n d=> ?_⟩;simp only;rw[List.nodup_append];exact⟨h.nd,by simp,λa w b m e=>u (by rw[aO]at m;rw[<-m,<-e];exact w)⟩;simp only[iG]at c|-;split;simp;rename_i e;rw[fM,aO]at c;rcases c with c|c;exact h.ne k c;exact absurd c e;simp only at j c|-;by_cases e:k=K;subst e;rw[gN]at j;cases i with|succ i=>simp at j|zero=>simp at j;subst j;unfold dC;simp only[if_true];rw[jZ,if_pos rfl];exact⟨trivial,rfl⟩
 rw[gw _ _ e]at j;rw[fM,aO]at c;rcases c with c|c;obtain⟨q,v⟩:=h.at_ k c i r j;have l:r.h.1≠s:=λe=>by rw[e,x]at q;cases q
 unfold dC;rw[if_neg l,jZ,if_neg l];exact⟨q,v⟩;exact absurd c e;unfold dC at d;split at d;rename_i e;cases d;subst e;exact⟨K,by simp,0,by simp only[gN];rfl⟩;obtain⟨k,c,i,y⟩:=h.all t o n d;refine⟨k,by simp[c],i,?_⟩;simp only;rw[gw _ _ (λe=>u (by rw[<-e];exact c))];exact y;unfold dC at d;split at d;rename_i e;cases d;subst e;exact m;exact h.ok t o n d
def vH{b}(d:b)(l i j)(c:i<l.length)(a:j<l.length-1):(cutAt d l i)[j]? =if j=i then l[l.length-1]? else l[j]?:=by unfold cutAt;rw[gF,if_pos a,fE];by_cases e:i=j;rw[if_pos e,if_pos (by omega),if_pos e.symm,a7,aj (show l.length-1<l.length by omega)];rfl;rw[if_neg e,if_neg (λh=>e h.symm)]
def gm(b:List (Int×(Int×Int)))(a:List cQ)(K:Int)(i:Nat):List (Int×(Int×Int)):=if i<a.length then jK b (a.getD i aE).h.1 (K,(i:Int))else b
def l3.R8(h:l3 T f)(P:K∈T.ks){i}(L:(T.rw K)[i]? =af ⟨(s,g),b⟩):l3 ⟨if(cutAt aE (T.rw K) i).length=0 then T.ks.filter (λk=> !decide (k=K))else T.ks,T.pt,iG T.rw K (cutAt aE (T.rw K) i),dB (gm T.ps (cutAt aE (T.rw K) i) K i) s⟩ (dC f s ah):=by
 have q:=(bg.1 L).1;have I:=tJ aE (T.rw K) i;obtain⟨J,E⟩:=h.at_ K P i _ L;simp only at J E;have v:∀c,c∈(if(cutAt aE (T.rw K) i).length=0 then T.ks.filter (λk=> !decide (k=K))else T.ks)->c∈T.ks/\(c=K->0<(cutAt aE (T.rw K) i).length):=by intro c a;split at a;rw[b3]at a;exact⟨a.1,λe=>by simp[e]at a⟩;rename_i t;exact⟨a,λ_=>by omega⟩
 have p:∀c,c∈T.ks->(c=K->0<(cutAt aE (T.rw K) i).length)->c∈(if(cutAt aE (T.rw K) i).length=0 then T.ks.filter (λk=> !decide (k=K))else T.ks):=by
  intro c a z;split;rename_i Q;rw[b3];refine⟨a,?_⟩;have:c≠K:=λe=>by have:=z e;omega
  simpa using this;exact a
 have d:∀c∈T.ks,∀(j:Nat) r,(T.rw c)[j]? =af r->¬(c=K/\j=i)->∀(F:Int),(c=K/\j=(T.rw K).length-1/\i<(T.rw K).length-1->F=i)->(¬(c=K/\j=(T.rw K).length-1/\i<(T.rw K).length-1)->F=j)->
  dC f s ah r.h.1=af (r.h.2,r.b)/\eI (dB (gm T.ps (cutAt aE (T.rw K) i) K i) s) r.h.1=af (c,F):=by
  intro c a j r l t F M B;obtain⟨w,n⟩:=h.at_ c a j r l;have D:r.h.1≠s:=λe=>by rw[e,E]at n;injection n with n;injection n with n R;exact t ⟨n.symm,by omega⟩
  unfold dC;rw[if_neg D,qo,if_neg D];refine⟨w,?_⟩;unfold gm;rw[I];by_cases o:i<(T.rw K).length-1;rw[if_pos o,jZ];have A:(cutAt aE (T.rw K) i).getD i aE=(T.rw K)[(T.rw K).length-1]:=by rw[a7,vH _ _ _ _ q o,if_pos rfl,aj (by omega)];rfl
  rw[A];obtain⟨_,x⟩:=h.at_ K P ((T.rw K).length-1) _ (aj (by omega));by_cases e:r.h.1=((T.rw K)[(T.rw K).length-1]'(by omega)).h.1;rw[if_pos e];rw[<-e,n]at x;injection x with x;injection x with x S;rw[M ⟨x,by omega,o⟩,x];rw[if_neg e,n];have:¬(c=K/\j=(T.rw K).length-1/\i<(T.rw K).length-1):=by rintro⟨rfl,rfl,_⟩;rw[aj (by omega)]at l;injection l with l;exact e (by rw[l])
  rw[B this];rw[if_neg o,n,B (λh=>o h.2.2)]
 refine⟨?_,λc a=> ?_,λc a j r l=> ?_,λO H G u=> ?_,λO H G u=> ?_⟩;simp only;split;exact h.nd.sublist ly;exact h.nd;simp only at a|-;obtain⟨w,n⟩:=v c a;by_cases e:c=K;rw[e,gN];intro z;have:=n e;rw[z]at this;simp at this;rw[gw _ _ e];exact h.ne c w;simp only at a l|-;obtain⟨w,_⟩:=v c a;by_cases e:c=K;subst e;rw[gN]at l;have C:j<(T.rw c).length-1:=by have:=(bg.1 l).1;omega
 rw[vH _ _ _ _ q C]at l;by_cases y:j=i;rw[if_pos y]at l;exact d c w _ r l (by rintro⟨_,h⟩;omega) j (λ_=>by omega) (λh=>absurd ⟨rfl,rfl,by omega⟩ h);rw[if_neg y]at l;exact d c w j r l (λh=>y h.2) j (λh=>by omega) (λ_=>rfl);rw[gw _ _ e]at l;exact d c w j r l (λh=>e h.1) j (λh=>absurd h.1 e) (λ_=>rfl);unfold dC at u;split at u;cases u;rename_i t;obtain⟨c,a,j,m⟩:=h.all O H G u;by_cases e:c=K;subst e;have C:=(bg.1 m).1;have N:j≠i:=λe=>by rw[e,L]at m;injection m with m;injection m with m _;injection m with m _;exact t m.symm
 have z:0<(cutAt aE (T.rw c) i).length:=by omega
 refine⟨c,p c a (λ_=>z),if j=(T.rw c).length-1 then i else j,?_⟩;simp only[gN];split;rename_i y;rw[vH _ _ _ _ q (by omega),if_pos rfl,<-y];exact m;rw[vH _ _ _ _ q (by omega),if_neg N];exact m;refine⟨c,p c a (λh=>absurd h e),j,?_⟩;simp only;rw[gw _ _ e];exact m;unfold dC at u;split at u;cases u;exact h.ok O H G u
end
section
open Go.RowKit
def tc{w:ar}{B e size n c g i d}(u)(h:w.ownsRow B e size (.slice (af ⟨g,0,ah⟩) n c) n d)(y:i<n *size):(w.setCell ⟨g,i,ah⟩ u).ownsRow B e size (.slice (af ⟨g,0,ah⟩) n c) n (d.set i u):=by obtain⟨k,l⟩:=h;refine⟨by rw[cx];exact k,?_⟩;rcases l with⟨a,x⟩|⟨v,f,b,a,r,s,m,o,p,q⟩;cases a;injection a with a t j;injection a with a;injection a with a;subst a;subst j;refine cc ⟨g,c,b.setIfInBounds i u,rfl,r,?_,m,o,?_,?_⟩;simp[dJ,bp,s];simp;exact p;rw[Array.toList_setIfInBounds,<-q,List.take_set]
def AL{w:ar}{B e size n c g i j}(h:w.ownsRow B e size (.slice (af ⟨g,0,ah⟩) n c) n j){u}(f:j[i]? =af u):w.cell? ⟨g,i,ah⟩=af u/\w.frozen? ⟨g,i,ah⟩=aq:=by obtain⟨s,m⟩:=h;rcases m with⟨a,r⟩|⟨q,k,b,a,y,d,t,v,x,o⟩;cases a;injection a with a p l;injection a with a;injection a with a;subst a;subst l;refine⟨?_,by simp[World.frozen?,d]⟩;rw[cell_of_row w g i b e (0,0) d,<-f,<-o,gF,if_pos];simp;have:=(bg.1 f).1;omega
def setB(r:cQ)(k:Nat)(n:Int):cQ:=⟨r.h,⟨r.b.k,r.b.v.set k n⟩⟩
def Og{K rows}(c:yd K rows)(i a k)(f:k<8)(n j):cJ (rows.set i (setB rows[i] k n)) j=if j=k then(cJ rows j).set i n else cJ rows j:=by
 unfold cJ;rw[jG];have g:=(c _ (aF a)).2.1;have e:((setB rows[i] k n).b.v.getD j 0)=if j=k then n else rows[i].b.v.getD j 0:=by unfold setB;simp only;rw[a7,a7,fE];by_cases h:k=j;rw[if_pos h,if_pos (by omega),if_pos h.symm];rfl;rw[if_neg h,if_neg (λb=>h b.symm)]
 rw[e];split;rfl;apply kM;intro q;rw[fE];split;rename_i d;subst d;rw[if_pos (by simpa using a),dX,aj a];rfl;rfl
def Wx{G O w l p K rows}(h:In G O (mx p K rows::l) w)(i:Nat)(R)(hl:rows.length<=10000)(k)(u:k∈iQ K)(T2:k<8)(n)(hn: -1000000000<=n/\n<=1000000000):Calls ai 134 #[.pointer (af ⟨p,0,ah⟩),.int .i64 i,.int .i64 k,.int .i64 n] w λe w'=>e=.returned (.int .i64 0)/\In G O (mx p K (rows.set i (setB rows[i] k n))::l) w':=by
 obtain⟨H,Q,hv,mb,cb,F⟩:=h.FP;obtain⟨F0,V⟩:=h.head;have HI:=ae F;have a:rj w p K rows hv mb cb:=by
  have o:=F;exact⟨H,Q,In.blk o,(In.sliceAt o).2.1,(In.third o).iV,λk u=>by
   have U:In G O ((([aN p 215 #[.int .i64 K,hv,.map (af mb)],dN 43 2 hv rows.length (rows.flatMap λr=>hC r.h),PtrMap mb ((iQ K).map λk:Nat=>((k:Int),cb k))]++l))++(iQ K).map λk=>jN (cb k) (cJ rows k)) w:=F.perm (by unfold kF;rw[b9,b9];exact dM _ List.perm_append_comm)
   exact U.SY (mU K) u⟩
 have D:Hid (yd K (rows.set i (setB rows[i] k n))):=λr hr=>by
  rcases List.mem_or_eq_of_mem_set hr with hr|rfl;exact H r hr;obtain⟨g1,g2,g3⟩:=H _ (aF R);refine⟨g1,by unfold setB;simp[g2],λj hj M=> ?_⟩;have CU:k≠j:=λe=>M (by rw[<-e];exact u)
  unfold setB;simp only;rw[a7,List.getElem?_set_ne CU,<-a7];exact g3 j hj M
 have y:=ae (Og H i R k T2 n);have t:(rows.set i (setB rows[i] k n)).flatMap (λr=>hC r.h)=rows.flatMap λr=>hC r.h:=by
  have:(rows.set i (setB rows[i] k n)).map (λr=>r.h)=rows.map λr=>r.h:=by rw[jG];apply kM;intro q;rw[fE];split;rename_i hq;subst hq;rw[if_pos (by simpa using R),dX,aj R];rfl;rfl
  have E:=congrArg (λl:List (Int×Int)=>l.flatMap hC) this;simp only[List.flatMap_map]at E;exact E
 have S:=ae t;have b:(rows.set i (setB rows[i] k n)).length=rows.length:=cx;have B:=ae b;have HK:=ae Q;have L:la rows.length (i:Int)=ak:=by unfold la;simp;omega
 have N:Xq K (k:Int)=(af k,0):=by unfold Xq;rw[if_pos (by omega),bP,if_pos u]
 have d:=ae (Ed (i:Int) w a (by omega));have C:=ae (Wu (k:Int) w a);rw[L]at d;rw[N]at C;obtain⟨F1,m⟩:=a.c k u;obtain⟨A3,P,f1,f2,f3,f4,T,f6,f7,f8⟩:=m.slice;have Y:(cJ rows k).length=rows.length:=by unfold cJ;rw[aY]
 have W:∃g,A3=af ⟨g,0,ah⟩:=by obtain⟨A,c,e,_,_,hA⟩:=aP T;injection e with e;subst e;exact hA (by omega)
 obtain⟨g,rfl⟩:=W;have J:((cJ rows k).flatMap xp)[i]? =af (.int .i64 ((cJ rows k)[i]'(by omega))):=by have:=np (f:=xp) (size:=1) (λ_=>rfl) (cJ rows k) i 0 (by omega) (by omega);rw[Nat.mul_one,j6]at this;rw[this];rfl
 obtain⟨q0,q2⟩:=AL T J;obtain⟨x0,q1⟩:∃x:Int,w.cell? ⟨g,i,ah⟩=af (.int .i64 x):=⟨_,q0⟩;have z:Hid (In G O (mx p K (rows.set i (setB rows[i] k n))::l) (w.setCell ⟨g,i,ah⟩ (.int .i64 n))):=by
  refine In.Nx (hv:=hv) (mb:=mb) (cb:=cb) D.out Q ?_;have U:In G O ((([aN p 215 #[.int .i64 K,hv,.map (af mb)],dN 43 2 hv rows.length (rows.flatMap λr=>hC r.h),PtrMap mb ((iQ K).map λk:Nat=>((k:Int),cb k))]++l))++(iQ K).map λk=>jN (cb k) (cJ rows k)) w:=F.perm (by unfold kF;rw[b9,b9];exact dM _ List.perm_append_comm)
  obtain⟨F2,X,_,s⟩:=U.FO (mU K) u;obtain⟨v,p1,p2,p3,p4⟩:=jA.parts X;have hv3:v=.slice (af ⟨g,0,ah⟩) (cJ rows k).length P:=by have:=p1.cell 0;rw[f1]at this;simpa using this.symm
  subst hv3;have Z:g≠cb k:=λe=>p3 (by rw[e];rfl)
  have I:mE w (w.setCell ⟨g,i,ah⟩ (.int .i64 n)) (cb k) 218 #[.slice (af ⟨g,0,ah⟩) (cJ rows k).length P] 0 (.slice (af ⟨g,0,ah⟩) (cJ rows k).length P) 3 1 ((cJ rows k).set i n).length (((cJ rows k).set i n).flatMap xp):=by
   refine⟨.slice (af ⟨g,0,ah⟩) (cJ rows k).length P,?_,?_,p3,λq hq=>bq hq,?_⟩;exact(p1.Da (Ne.symm Z) i _);have E:=tc (.int .i64 n) p2 (i:=i) (by omega);have h3:((cJ rows k).flatMap xp).set i (.int .i64 n)=((cJ rows k).set i n).flatMap xp:=by have:=oG (f:=xp) (size:=1) (λ_=>rfl) (cJ rows k) i 0 n (.int .i64 n) (by omega) (by omega) rfl;rwa[Nat.mul_one,j6]at this
   rw[h3]at E;rw[cx];exact E;exact(cT.refl.setCell (bq (cc rfl)) i _)
  obtain⟨r1,r2⟩:=p4 _ _ I;have h5:=s _ (jN (cb k) ((cJ rows k).set i n)) r1 r2;have h6:((iQ K).map λj=>if j=k then jN (cb k) ((cJ rows k).set i n)else jN (cb j) (cJ rows j))=(iQ K).map λj=>jN (cb j) (cJ (rows.set i (setB rows[i] k n)) j):=by apply dF;intro j _;rw[y.out];by_cases e:j=k;rw[if_pos e,if_pos e,e];rw[if_neg e,if_neg e]
  rw[h6]at h5;unfold kF;rw[b,t];refine h5.perm ?_;rw[b9,b9];exact dM _ List.perm_append_comm
 have OM:decide (n< -1000000000)=aq:=decide_eq_false (by omega);have hd2:decide (1000000000<n)=aq:=decide_eq_false (by omega);have hil:(i:Int)<(cJ rows k).length:=by omega
 clear h F HI a V H Q t b L N q0 m f2 f3 f4 T f6 f7 f8 D y S B HK Y J;go_enter func134,ntmps134;go_wp2_with fail;refine d.out.mono ?_;rintro e w1 ⟨rfl,rfl⟩;go_wp2_with fail;refine C.out.mono ?_;rintro e w1 ⟨rfl,rfl⟩;simp only[Q5];go_wp2_with fail;go_ret;exact⟨rfl,z.out⟩
end
def tG(b):bx b=0↔(0<=b.k/\b.k<=255)/\∀j,j<8->(b.k.toNat.testBit j=aq->b.v.getD j 0=0)/\ -1000000000<=b.v.getD j 0/\b.v.getD j 0<=1000000000:=by refine⟨jQ b,λ⟨a,d⟩=>mY b (by unfold ck;simp[a.1,a.2]) λj e=> ?_⟩;obtain⟨c,f,g⟩:=d j e;unfold gK;rw[if_neg (λh=>h.2 (c h.1)),if_neg (by omega)]
def pJ(b:bw)(k:Nat)(n:Int):bw:=⟨((b.k.toNat ||| 2^k:Nat):Int),b.v.set k n⟩
def nP(b:bw)(k:Nat):bw:=⟨((b.k.toNat-2^k:Nat):Int),b.v.set k 0⟩
def Nh:∀m k j,m<256->k<8->j<8->(m ||| 2^k).testBit j=(m.testBit j||decide (k=j))/\(m ||| 2^k)<256:=by
 have h:∀(m:Fin 256)(k j:Fin 8),(m.val ||| 2^k.val).testBit j.val=(m.val.testBit j.val||decide (k.val=j.val))/\(m.val ||| 2^k.val)<256:=by decide+kernel
 exact λm k j hm b a=>h ⟨m,hm⟩ ⟨k,b⟩ ⟨j,a⟩
def Tn:∀m k j,m<256->k<8->j<8->m.testBit k=ak->(m-2^k).testBit j=(m.testBit j&& !decide (k=j)):=by
 have h:∀(m:Fin 256)(k j:Fin 8),m.val.testBit k.val=ak->(m.val-2^k.val).testBit j.val=(m.val.testBit j.val&& !decide (k.val=j.val)):=by decide+kernel
 exact λm k j hm b a=>h ⟨m,hm⟩ ⟨k,b⟩ ⟨j,a⟩
def FR:∀m k,m<256->k<8->m.testBit k=ak->(m ||| 2^k)=m:=by
 have h:∀(m:Fin 256)(k:Fin 8),m.val.testBit k.val=ak->(m.val ||| 2^k.val)=m.val:=by decide+kernel
 exact λm k hm a=>h ⟨m,hm⟩ ⟨k,a⟩
def Zh:∀m k,m<256->k<8->m.testBit k=aq->(m ||| 2^k)=m+2^k:=by
 have h:∀(m:Fin 256)(k:Fin 8),m.val.testBit k.val=aq->(m.val ||| 2^k.val)=m.val+2^k.val:=by decide+kernel
 exact λm k hm a=>h ⟨m,hm⟩ ⟨k,a⟩
def D5{v:List Int}{k j}(b:v.length=8)(a:k<8)(n):(v.set k n).getD j 0=if j=k then n else v.getD j 0:=by rw[a7,a7,fE];by_cases e:k=j;rw[if_pos e,if_pos (by omega),if_pos e.symm];rfl;rw[if_neg e,if_neg (λh=>e h.symm)]
def zl{b}(g:bx b=0)(d:b.v.length=8){k}(a:k<8){n}(i: -1000000000<=n/\n<=1000000000):bx (pJ b k n)=0/\(pJ b k n).v.length=8:=by
 obtain⟨l,f⟩:=(tG b).1 g;refine⟨(tG _).2 ⟨?_,λj c=> ?_⟩,by unfold pJ;rw[cx,d]⟩;have:=(Nh b.k.toNat k 0 (by omega) a (by omega)).2;unfold pJ;simp only;omega;unfold pJ;simp only[bP];rw[(Nh b.k.toNat k j (by omega) a c).1,D5 d a];by_cases e:j=k;rw[if_pos e];simp[e,i];rw[if_neg e];have:decide (k=j)=aq:=by simpa using λh=>e h.symm
 rw[this,Bool.or_false];exact f j c
def Hv{b}(g:bx b=0)(d:b.v.length=8){k}(c:k<8)(i:b.k.toNat.testBit k=ak):bx (nP b k)=0/\(nP b k).v.length=8:=by
 obtain⟨l,f⟩:=(tG b).1 g;refine⟨(tG _).2 ⟨?_,λj a=> ?_⟩,by unfold nP;rw[cx,d]⟩;unfold nP;simp only;have:=Nat.sub_le b.k.toNat (2^k);generalize b.k.toNat-2^k=q at *;omega;unfold nP;simp only[bP];rw[Tn b.k.toNat k j (by omega) c a i,D5 d c];by_cases e:j=k;rw[if_pos e];simp;rw[if_neg e];have:decide (k=j)=aq:=by simpa using λh=>e h.symm
 rw[this];simpa using f j a
def Au{d}{k:Nat}(h:k<d.length)(g b s a):dt (d.set k (g,b)) s a=if s=k then(decide (g=a)&&b)else dt d s a:=by
 unfold dt;rw[cx];by_cases e:s=(k:Int);subst e;rw[if_pos rfl];simp[h,a7];rw[if_neg e];by_cases f:0<=s;have c:k≠s.toNat:=by omega
 rw[a7,List.getElem?_set_ne c,<-a7];simp[f]
def R9(a s c):dt (a++[(0,ak)]) s c=if s=(a.length:Int)then decide (0=c)else dt a s c:=by unfold dt;rw[bm,List.length_singleton];by_cases e:s=(a.length:Int);subst e;rw[if_pos rfl];have b:decide ((a.length:Int)<((a.length+1:Nat):Int))=ak:=decide_eq_true (by omega);rw[b];simp[a7];rw[if_neg e];by_cases f:0<=s;by_cases b:s<a.length;have d:decide (s<((a.length+1:Nat):Int))=ak:=decide_eq_true (by omega);rw[a7,List.getElem?_append_left (by omega),<-a7,d,decide_eq_true b];have d:decide (s<((a.length+1:Nat):Int))=aq:=decide_eq_false (by omega);rw[d,decide_eq_false b];simp;simp[f]
def qK{c}(f:c.length<=60):eb c=(c,(0,0),2)\/∃(k:Nat)(g:Int)(d:List (Int×Bool)),eb c=(d,((k:Int),g),0)/\k<60/\(∀b,dt c k b=aq)/\∀s b,dt d s b=if s=k then decide (g=b)else dt c s b:=by unfold eb;by_cases a:c.findIdx iu<c.length;right;rw[if_pos a];refine⟨_,_,_,rfl,by omega,λb=> ?_,λs b=> ?_⟩;have e:=List.findIdx_getElem (w:=a);simp only[iu,ay,Bool.not_eq_true']at e;rw[Eg a,sl,rC a,e.1,Bool.and_false];rw[Au a];simp;rw[if_neg a];by_cases h:c.length=60;exact bq (by rw[if_pos h]);right;rw[if_neg h];refine⟨_,_,_,rfl,by omega,λb=> ?_,λs b=>R9 c s b⟩;unfold dt;simp
structure lH(ls:List (Int×Bool)) (f:BF):Prop where
 so:N4 ls
 lv:∀s g,dt ls s g=ak↔∃b,f s=af (g,b)
 bo:∀s g b,f s=af (g,b)->bx b=0/\b.v.length=8
def lH.nil:lH [] (λ_=>ah):=⟨N4.nil,λs g=>by simp[dt],by simp⟩
def dU(a:List (Int×Bool))(f:BF)(b:bw):(List (Int×Bool)×BF)×(Int×Int)×Int:=
 if bx b≠0 then((a,f),(0,0),bx b)
 else if(eb a).2.2=0 then(((eb a).1,dC f (eb a).2.1.1 (af ((eb a).2.1.2,b))),(eb a).2.1,0)
 else(((eb a).1,f),(eb a).2.1,(eb a).2.2)
def fu(a:List (Int×Bool))(f:BF)(h:Int×Int):(List (Int×Bool)×BF)×Int:=if dt a h.1 h.2 then(((eY a h.1 h.2).1,dC f h.1 ah),0)else((a,f),7)
def cI(f:BF)(s:Int):bw:=((f s).getD (0,⟨0,[]⟩)).2
def oa(b:List (Int×Bool))(f:BF)(h:Int×Int)(a n:Int):BF×Int:=
 if !dt b h.1 h.2 then(f,7)else if¬(0<=a/\a<8)\/n< -1000000000\/1000000000<n then(f,1)
 else(dC f h.1 (af (h.2,pJ (cI f h.1) a.toNat n)),0)
def l7(b:List (Int×Bool))(f:BF)(h:Int×Int)(a:Int):BF×Int:=
 if !dt b h.1 h.2 then(f,7)else if¬(0<=a/\a<8)then(f,1)
 else if(cI f h.1).k.toNat.testBit a.toNat=aq then(f,5)
 else(dC f h.1 (af (h.2,nP (cI f h.1) a.toNat)),0)
section
variable{Z:List (Int×Bool)} {f:BF}
def lH.get(h:lH Z f){s g}(c:dt Z s g=ak):f s=af (g,cI f s):=by obtain⟨b,a⟩:=(h.lv s g).1 c;unfold cI;rw[a];rfl
def lH.upd(h:lH Z f){s g}(m:dt Z s g=ak){b}(n:bx b=0/\b.v.length=8):lH Z (dC f s (af (g,b))):=by refine⟨h.so,λi j=> ?_,λi j l c=> ?_⟩;unfold dC;by_cases e:i=s;subst e;rw[if_pos rfl];constructor;intro k;have a:=h.get m;rw[h.get k]at a;injection a with a;injection a with a _;exact⟨b,by rw[a]⟩;rintro⟨l,d⟩;injection d with d;injection d with a _;rw[<-a];exact m;rw[if_neg e];exact h.lv i j;unfold dC at c;split at c;injection c with c;injection c with _ c;rw[<-c];exact n;exact h.bo i j l c
def lH.spawn(h:lH Z f){b}(o:b.v.length=8):lH (dU Z f b).1.1 (dU Z f b).1.2:=by unfold dU;by_cases i:bx b=0;rw[if_neg (λh=>h i)];rcases qK h.so.1 with l|⟨k,g,p,l,q,j,c⟩;rw[l,if_neg (by simp)];exact h;have m:=Wq h.so;rw[l]at m|-;rw[if_pos rfl];refine⟨m,λs d=> ?_,λs d n a=> ?_⟩;simp only;rw[c];unfold dC;by_cases e:s=(k:Int);rw[if_pos e,if_pos e];simp;rw[if_neg e,if_neg e];exact h.lv s d;simp only[dC]at a;split at a;injection a with a;injection a with _ a;rw[<-a];exact⟨i,o⟩;exact h.bo s d n a;rw[if_pos i];exact h
def lH.kill(h:lH Z f)(x):lH (fu Z f x).1.1 (fu Z f x).1.2:=by unfold fu;split;rename_i i;refine⟨U1 h.so _ _,λs g=> ?_,λs g b a=> ?_⟩;obtain⟨k,c,d,j⟩:=jY i;simp only;unfold eY;rw[if_pos i];simp only[c,bP];rw[Au d];unfold dC;by_cases e:s=(k:Int);rw[if_pos e,if_pos e];simp;rw[if_neg e,if_neg e];exact h.lv s g;simp only[dC]at a;split at a;cases a;exact h.bo s g b a;exact h
def lH.put(h:lH Z f)(x a n):lH Z (oa Z f x a n).1:=by
 unfold oa;split;exact h;rename_i b;split;exact h;rename_i e;have b:dt Z x.1 x.2=ak:=by simpa using b
 obtain⟨c,d⟩:=h.bo _ _ _ (h.get b);exact h.upd b (zl c d (by omega) (by omega))
def lH.drop(h:lH Z f)(x a):lH Z (l7 Z f x a).1:=by
 unfold l7;split;exact h;rename_i b;split;exact h;split;exact h;rename_i g e;have b:dt Z x.1 x.2=ak:=by simpa using b
 obtain⟨c,d⟩:=h.bo _ _ _ (h.get b);exact h.upd b (Hv c d (by omega) (by simpa using e))
end
def wI(f:BF)(h:Int×Int):Option cQ:=(f h.1).map λx=>⟨h,x.2⟩
def tn(a:List (Int×Bool))(f:BF)(q:Query):List cQ:=((ku a).filterMap (wI f)).filter λr=>eM r.b.k q
def JB(a b:cQ):Prop:=a.h.1<b.h.1
def wa(e):∀k,(kx e k).Pairwise (λa b=>a.1<b.1)/\∀x∈kx e k,x.1<k
 |0=>⟨List.Pairwise.nil,by simp[kx]⟩|k+1=>by obtain⟨g,f⟩:=wa e k;rw[kx];refine⟨List.pairwise_append.2 ⟨g,by split<;>simp,λa h b d=> ?_⟩,λx c=> ?_⟩;have:=f a h;split at d;rw[aO.1 d];exact this;cases d;rcases fM.1 c with c|c;have:=f x c;omega;split at c;rw[aO.1 c];show(k:Int)<_;omega;cases c
def kU{ls h}:h∈ku ls↔dt ls h.1 h.2=ak:=by rw[Sc];constructor;rintro⟨j,d,rfl,a⟩;show dt ls (j:Int) (sl ls j).1=ak;rw[Eg d,a];simp;intro e;obtain⟨k,c,a,b⟩:=jY e;refine⟨k,a,?_,?_⟩;show h=((k:Int),(ls.getD k (0,aq)).1);rw[b];exact Prod.ext c rfl;show(ls.getD k (0,aq)).2=ak;rw[b]
section
variable{Z:List (Int×Bool)} {f:BF}
def Na(h:lH Z f){r}:r∈(ku Z).filterMap (wI f)↔f r.h.1=af (r.h.2,r.b):=by rw[List.mem_filterMap];constructor;rintro⟨x,e,a⟩;have d:=kU.1 e;have b:=h.get d;unfold wI at a;rw[b]at a;simp only[Option.map_some,Option.some.injEq]at a;rw[<-a];exact b;intro c;refine⟨r.h,kU.2 ((h.lv _ _).2 ⟨_,c⟩),?_⟩;unfold wI;rw[c];rfl
def OZ(h:lH Z f){q r}:r∈tn Z f q↔f r.h.1=af (r.h.2,r.b)/\eM r.b.k q=ak:=by unfold tn;rw[b3,Na h]
def kn(Z f):((ku Z).filterMap (wI f)).Pairwise JB:=by refine List.Pairwise.filterMap _ ?_ (wa Z Z.length).1;intro a b c x d y e;unfold wI at d e;obtain⟨_,_,rfl⟩:=aG.1 d;obtain⟨_,_,rfl⟩:=aG.1 e;exact c
def Gm(Z f q):(tn Z f q).Pairwise JB:=(kn Z f).filter _
def wP{l:List cQ}(h:l.Pairwise JB):l.Nodup:=h.imp λ{a b} h e=>by unfold JB at h;rw[e]at h;omega
def Gn{l c:List cQ}(h:l.Pairwise JB)(d:c.Pairwise JB)(g:∀r,r∈l↔r∈c):l=c:=by
 refine List.Perm.eq_of_pairwise (le:=JB) (λa b _ _ e f=>by unfold JB at e f;omega) h d ?_
 classical
 exact(List.perm_ext_iff_of_nodup (wP h) (wP d)).2 g
def yJ:Query:=⟨0,0,0⟩
def PO(Z f q):(tn Z f q).length<=Z.length:=by unfold tn;refine bD (iE _ _) (bD (List.length_filterMap_le _ _) ?_);unfold ku;exact xv Z _
def Mk{T f}(g:l3 T f)(h:∀K∈T.ks,∀r∈T.rw K,r.b.k=K)(q){r}:(∃K∈T.ks,eM K q=ak/\r∈T.rw K)↔f r.h.1=af (r.h.2,r.b)/\eM r.b.k q=ak:=by constructor;rintro⟨K,a,hm,b⟩;obtain⟨i,d,e⟩:=bR.1 b;obtain⟨c,_⟩:=g.at_ K a i r (by rw[aj d,e]);rw[h K a r b];exact⟨c,hm⟩;rintro⟨c,j⟩;obtain⟨K,a,i,d⟩:=g.all _ _ _ c;have b:r∈T.rw K:=kO d;exact⟨K,a,by rw[<-h K a r b];exact j,b⟩
def JU{T}(A:l3 T f)(h:lH Z f)(N:∀K∈T.ks,∀r∈T.rw K,r.b.k=K)(q){p:List Int}(hp:p.Perm T.ks){v}(F:v.Perm ((p.filter λK=>eM K q).flatMap T.rw))(O:v.Pairwise λa b=>¬b.h.1<a.h.1):v=tn Z f q:=by
 have t:∀r,r∈v↔f r.h.1=af (r.h.2,r.b)/\eM r.b.k q=ak:=by intro r;rw[F.mem_iff,nT,<-Mk A N q];constructor;rintro⟨K,o,m⟩;rw[b3]at o;exact⟨K,hp.mem_iff.1 o.1,o.2,m⟩;rintro⟨K,o,hm,m⟩;exact⟨K,b3.2 ⟨hp.mem_iff.2 o,hm⟩,m⟩
 have D:(((p.filter λK=>eM K q).flatMap T.rw).map λr=>r.h.1).Nodup:=by
  have s:(p.filter λK=>eM K q).Nodup:=(hp.nodup_iff.2 A.nd).sublist ly;have c:∀K∈(p.filter λK=>eM K q),K∈T.ks:=λK o=>hp.mem_iff.1 (b3.1 o).1
  generalize (p.filter λK=>eM K q)=G at s c
  induction G with
  |nil=>simp|cons K G P=>
   obtain⟨H,I⟩:=List.nodup_cons.1 s;rw[List.flatMap_cons,en,List.nodup_append];have n:∀l∈T.ks,∀(i:Nat) r,(T.rw l)[i]? =af r->eI T.ps r.h.1=af (l,(i:Int)):=λl g i r m=>(A.at_ l g i r m).2
   refine⟨?_,P I (λl g=>c l (kN _ g)),?_⟩;refine IP λi j x M y z=> ?_
   rw[dX]at y z;obtain⟨r,m,rfl⟩:=aG.1 y;obtain⟨E,k,e⟩:=aG.1 z;have d:=n K (c K (by simp)) i r m;have w:=n K (c K (by simp)) j E k;rw[<-e,w]at d;injection d with d;injection d with _ d;omega;intro a J b L e;obtain⟨r,m,rfl⟩:=aA.1 J;obtain⟨E,k,rfl⟩:=aA.1 L;obtain⟨l,g,k⟩:=nT.1 k;obtain⟨i,y,B⟩:=bR.1 m;obtain⟨j,z,C⟩:=bR.1 k;have d:=n K (c K (by simp)) i r (by rw[aj y,B]);have w:=n l (c l (kN _ g)) j E (by rw[aj z,C]);rw[e,w]at d;injection d with d;injection d with d _;exact H (by rw[<-d];exact g)
 have u:(v.map λr=>r.h.1).Nodup:=(F.map _).nodup_iff.2 D;refine Gn ?_ (Gm Z f q) λr=>by rw[t,OZ h]
 rw[List.Nodup,List.pairwise_map]at u;exact(O.and u).imp λ{a b} ⟨d,w⟩=>by unfold JB;omega
end
def z7{b d:Type}{f g:b->Option d}:∀{l:List b},(∀x∈l,f x=g x)->l.filterMap f=l.filterMap g|[],_=>rfl|a::l,h=>by rw[List.filterMap_cons,List.filterMap_cons,h a (by simp),z7 (l:=l) λx c=>h x (by simp[c])]
section
variable{Z:List (Int×Bool)} {f:BF}
def ep(Z:List (Int×Bool))(f:BF):List cQ:=(ku Z).filterMap (wI f)
def gH(h:lH Z f){r}:r∈ep Z f↔f r.h.1=af (r.h.2,r.b):=Na h
def Bq(a:∀k,eM k yJ=ak):tn Z f yJ=ep Z f:=by unfold tn ep;exact List.filter_eq_self.2 λr _=>a _
def Ar(h:lH Z f){x y:Int×Int}(c:dt Z x.1 x.2=ak)(d:dt Z y.1 y.2=ak)(e:x.1=y.1):x=y:=by have b:=h.get c;have a:=h.get d;rw[e]at b;rw[b]at a;injection a with a;injection a with a _;exact Prod.ext e a
def J4(h:lH Z f){x}(g:dt Z x.1 x.2=ak)(b):ep Z (dC f x.1 (af (x.2,b)))=(ep Z f).map λr=>if r.h=x then⟨r.h,b⟩else r:=by
 unfold ep;rw[List.map_filterMap];refine z7 λy i=> ?_
 have a:=kU.1 i;unfold wI dC;by_cases e:y.1=x.1;have d:=Ar h a g e;subst d;rw[if_pos rfl,h.get a];simp;rw[if_neg e,h.get a];have:y≠x:=λc=>e (by rw[c])
 simp[this]
end
def Alike(m a:lF):Prop:=∀x,eI m x=eI a x
section
variable{m Z:lF} {c p h x y:Hd}
def nh(d:(bI m).Nodup):m.Nodup:=List.Pairwise.of_map (·.1) (λa b c e=>c (by rw[e])) d
def Alike.symm(a:Alike m Z):Alike Z m:=λx=>(a x).symm
def sB(b:(bI m).Nodup):Alike (cY m) m:=λx=>by have hp:(cY m).Perm m:=hZ m _;have a:(bI (cY m)).Nodup:=(hp.map _).nodup_iff.2 b;apply Option.ext;intro v;rw[ky a,ky b,hp.mem_iff]
def yf(a:(bI m).Nodup):(bI (cY m)).Nodup:=((hZ m _).map _).nodup_iff.2 a
def sE(c:(bI m).Nodup)(a:(bI Z).Nodup)(e:Alike m Z):cY m=cY Z:=by
 have hp:(cY Z).Perm m:=by
  have d:Z.Perm m:=(List.perm_ext_iff_of_nodup (nh a) (nh c)).2 λb=>by rw[<-ky a,<-ky c,e]
  exact(hZ Z _).trans d
 exact(iL (·.1) (nn c) hp (kT (·.1) Z)).symm
def Hg(a:(bI m).Nodup):cY (cY m)=cY m:=sE (yf a) a (sB a)
def Alike.up(a:Alike m Z)(b:Up m x y):Up Z x y:=b.mono λc p e=>by rw[<-a];exact e
def Alike.ZF(a:Alike m Z):Up m x y↔Up Z x y:=⟨a.up,a.symm.up⟩
def Alike.kids(b:(bI m).Nodup)(a:(bI Z).Nodup)(c:Alike m Z)(h:Hd):kids m h=kids Z h:=by refine xT ((List.perm_ext_iff_of_nodup (uX b h) (uX a h)).2 λx=> ?_) (nB _) (nB _);rw[jU b,jU a,c]
def Alike.pD(a:Alike m Z)(h:nG m):nG Z:=h.sub λc p e=>by rw[a];exact e
def Alike.under(hm:il m)(a:il Z)(b:Alike m Z)(h:Hd):under m h=under Z h:=by
 refine rQ hm.nodup hm.pD (λh=>Go.Proofs.YtknejlcijdngoaaGreat.under m h=Go.Proofs.YtknejlcijdngoaaGreat.under Z h) (λh e=> ?_) h;rw[tv hm.nodup hm.pD,tv a.nodup a.pD,Alike.kids hm.nodup a.nodup b];refine n3 λc d=> ?_
 rw[e c (by rw[b];exact(jU a.nodup).1 d)]
def Alike.put(a:Alike m Z)(c p):Alike (jK m c p) (jK Z c p):=λx=>by rw[jZ,jZ,a]
def Alike.del(a:Alike m Z)(c):Alike (dB m c) (dB Z c):=λx=>by rw[qo,qo,a]
def Alike.vB(b:Alike m Z)(c p):Alike (fx m c p).1 (fx Z c p).1/\(fx m c p).2=(fx Z c p).2:=by
 unfold fx;have e:(c=p\/Up m p c)↔(c=p\/Up Z p c):=by rw[b.ZF]
 by_cases a:c=p\/Up m p c;rw[if_pos a,if_pos (e.1 a)];exact⟨b,rfl⟩;rw[if_neg a,if_neg (λh=>a (e.2 h))];exact⟨b.put c p,rfl⟩
def Alike.loosen(a:Alike m Z)(c):Alike (eH m c).1 (eH Z c).1/\(eH m c).2=(eH Z c).2:=by unfold eH;rw[a c];split;exact⟨a.del c,rfl⟩;exact⟨a,rfl⟩
end
def DG:cY []=[]:=by unfold cY;simp
structure ZS where
 ls:List (Int×Bool)
 f:BF
 B:lF
def ZS.live(z:ZS)(h:Hd):Bool:=dt z.ls h.1 h.2
structure jC(z:ZS):Prop where
 w:lH z.ls z.f
 rT:il z.B
 Ny:cY z.B=z.B
 lv:∀b∈z.B,z.live b.1=ak/\z.live b.2=ak
def si:ZS:=⟨[],λ_=>ah,[]⟩
def jC.nil:jC si:=⟨lH.nil,il.nil,by unfold si cY;simp,by simp[si]⟩
def ZS.rows(z:ZS):List cQ:=ep z.ls z.f
def mB(z:ZS)(x:Hd):ZS:=⟨(fu z.ls z.f x).1.1,(fu z.ls z.f x).1.2,kr z.B x⟩
def gM(z:ZS)(l:List Hd):ZS:=l.foldl mB z
noncomputable def vZ(z:ZS)(x:Hd):List Hd:=(under z.B x).reverse++[x]
noncomputable def mC(z:ZS)(x:Hd):ZS×Int:=if z.live x=ak then(gM z (vZ z x),0)else(z,7)
noncomputable def k7(z:ZS)(c p:Hd):ZS×Int:=if z.live c=ak/\z.live p=ak then(⟨z.ls,z.f,cY (fx z.B c p).1⟩,(fx z.B c p).2)else(z,7)
def kj(z:ZS)(c:Hd):ZS×Int:=if z.live c=ak then(⟨z.ls,z.f,(eH z.B c).1⟩,(eH z.B c).2)else(z,7)
noncomputable def pG(z:ZS)(o:mo):ZS×Hd×Int:=
 if o.d=1 then(⟨(dU z.ls z.f o.b).1.1,(dU z.ls z.f o.b).1.2,z.B⟩,(dU z.ls z.f o.b).2.1,(dU z.ls z.f o.b).2.2)
 else if o.d=2 then((mC z o.a).1,(0,0),(mC z o.a).2)
 else if o.d=3 then(⟨z.ls,(oa z.ls z.f o.a o.k o.n).1,z.B⟩,(0,0),(oa z.ls z.f o.a o.k o.n).2)
 else if o.d=4 then(⟨z.ls,(l7 z.ls z.f o.a o.k).1,z.B⟩,(0,0),(l7 z.ls z.f o.a o.k).2)
 else if o.d=5 then((k7 z o.a o.t).1,(0,0),(k7 z o.a o.t).2)
 else if o.d=6 then((kj z o.a).1,(0,0),(kj z o.a).2)
 else(z,(0,0),1)
noncomputable def sK(a:List mo):ZS:=a.foldl (λz o=>(pG z o).1) si
noncomputable def iq(a:List mo)(k:Nat):ZS:=sK (a.take k)
def yl(a k h):iq a (k+1)=(pG (iq a k) a[k]).1:=by unfold iq sK;rw[aV h,jc];rfl
section
variable{z:ZS} {x c p:Hd}
def Ef(h:lH z.ls z.f)(y):dt (fu z.ls z.f x).1.1 y.1 y.2=(dt z.ls y.1 y.2&& !decide (y=x)):=by
 have i:=(h.kill x).lv y.1 y.2;have f:=h.lv y.1 y.2;rw[fj,i,ay,f];unfold fu;by_cases d:dt z.ls x.1 x.2=ak;rw[if_pos d];simp only[dC];by_cases e:y.1=x.1;rw[if_pos e];constructor;rintro⟨b,c⟩;cases c;rintro⟨c,a⟩;exact absurd (Ar h (f.2 c) d e) (by simpa using a);rw[if_neg e];have a:y≠x:=λg=>e (by rw[g])
 simp[a];rw[if_neg d];constructor;intro c;refine⟨c,?_⟩;have a:y≠x:=λe=>d (by rw[<-e];exact f.2 c)
 simpa using a;exact λc=>c.1
def jC.mB(h:jC z)(x:Hd):jC (mB z x):=by
 refine⟨h.w.kill x,h.rT.gone x,?_,λb c=> ?_⟩;change cY (kr z.B x)=kr z.B x;rw[zP h.rT.nodup,h.Ny];rfl;have a:b∈z.B/\¬b.1=x/\¬b.2=x:=by have c:b∈kr z.B x:=c;unfold kr at c;rw[b3]at c;simpa using c
 have f:=h.lv b a.1;change dt (fu z.ls z.f x).1.1 b.1.1 b.1.2=ak/\dt (fu z.ls z.f x).1.1 b.2.1 b.2.2=ak;rw[Ef h.w,Ef h.w];have d:dt z.ls b.1.1 b.1.2=ak:=f.1;have e:dt z.ls b.2.1 b.2.2=ak:=f.2;rw[d,e];simp[a.2.1,a.2.2]
def jC.gM(h:jC z)(l:List Hd):jC (gM z l):=by
 unfold Go.Proofs.YtknejlcijdngoaaGreat.gM
 induction l generalizing z with|nil=>exact h|cons a l b=>exact b (h.mB a)
def jC.kill(h:jC z)(x):jC (mC z x).1:=by unfold mC;split;exact h.gM _;exact h
def jC.vB(h:jC z)(c p):jC (k7 z c p).1:=by
 unfold k7;split;rename_i f;have d:=h.rT.vB c p;refine⟨h.w,⟨yf d.nodup,(sB d.nodup).symm.pD d.pD⟩,Hg d.nodup,λb a=> ?_⟩;change b∈cY (fx z.B c p).1 at a;rw[OY d.nodup]at a;have old:eI z.B b.1=af b.2->z.live b.1=ak/\z.live b.2=ak:=λe=>h.lv b ((ky h.rT.nodup).1 e)
 unfold fx at a;split at a;exact old a;simp only at a;rw[jZ]at a;split at a;rename_i e;injection a with a;rw[e,<-a];exact f;exact old a;exact h
def Db(h:cY z.B=z.B)(P)(c:(bI z.B).Nodup):cY (z.B.filter P)=z.B.filter P:=by have a:=kT (λb:Hd×Hd=>b.1) z.B;change List.Pairwise _ (cY z.B)at a;rw[h]at a;exact(iL (λb:Hd×Hd=>b.1) (nn (m:=z.B.filter P) (c.sublist (List.filter_sublist.map _))) (ot _) (a.sublist ly)).symm
def jC.loosen(h:jC z)(c):jC (kj z c).1:=by unfold kj;split;refine⟨h.w,h.rT.loosen c,?_,λb a=> ?_⟩;unfold eH;split;exact Db h.Ny _ h.rT.nodup;exact h.Ny;change b∈(eH z.B c).1 at a;unfold eH at a;split at a;exact h.lv b (fI.1 a).1;exact h.lv b a;exact h
def Ei{d a f c}(h:lH d f)(i:lH a c)(l:∀s g b,f s=af (g,b)->∃e,c s=af (g,e)){s g}(k:dt d s g=ak):dt a s g=ak:=by obtain⟨b,j⟩:=(h.lv s g).1 k;exact(i.lv s g).2 (l s g b j)
def EN{l f}(h:lH l f){b}(s g i)(e:f s=af (g,i)):(dU l f b).1.2 s=af (g,i):=by unfold dU;by_cases j:bx b=0;rw[if_neg (λh=>h j)];rcases qK h.so.1 with d|⟨k,o,n,d,p,a,c⟩;rw[d,if_neg (by simp)];exact e;rw[d,if_pos rfl];simp only[dC];rw[if_neg];exact e;intro m;have:=(h.lv s g).2 ⟨_,e⟩;rw[m,a]at this;cases this;rw[if_pos j];exact e
def jC.do_(h:jC z){o}(f:o.b.v.length=8):jC (pG z o).1:=by unfold pG;split;have a:=h.w.spawn (b:=o.b) f;refine⟨a,h.rT,h.Ny,λb d=> ?_⟩;have c:=h.lv b d;exact⟨Ei h.w a (λs g b e=>⟨b,EN h.w s g b e⟩) c.1,Ei h.w a (λs g b e=>⟨b,EN h.w s g b e⟩) c.2⟩;split;exact h.kill _;split;exact⟨h.w.put _ _ _,h.rT,h.Ny,h.lv⟩;split;exact⟨h.w.drop _ _,h.rT,h.Ny,h.lv⟩;split;exact h.vB _ _;split;exact h.loosen _;exact h
def Oj(a:List mo)(b:∀o∈a,o.b.v.length=8)(h:jC z):jC (a.foldl (λz o=>(pG z o).1) z):=by
 induction a generalizing z with|nil=>exact h|cons o a d=>exact d (λo c=>b o (by simp[c])) (h.do_ (b o (by simp)))
def Hu{a}(b:∀o∈a,o.b.v.length=8):jC (sK a):=Oj a b jC.nil
def DT{a}(c:∀o∈a,o.b.v.length=8)(k):jC (iq a k):=Hu λo b=>c o (List.mem_of_mem_take b)
def jC.len(h:jC z):z.B.length<=60:=by
 have d:=s9 (l:=bI z.B) (l':=ku z.ls) h.rT.nodup λx c=>by obtain⟨b,a,rfl⟩:=aA.1 c;exact kU.2 (h.lv b a).1
 have e:(ku z.ls).length<=z.ls.length:=by rw[Aq];exact List.countP_le_length
 have f:=h.w.so.1;have g:(bI z.B).length=z.B.length:=by simp[bI]
 omega
end
def fc(a now:bw)(k:Nat):bw:=⟨a.k,mO (λi=>now.v.getD ((kinds a.k.toNat).getD i 0) 0) (kinds a.k.toNat) a.v k⟩
def Lv(f l v)(b:l.Nodup){k}(a:k<l.length):∀i,i<=k->(mO f l v i).getD (l.getD k 0) 0=v.getD (l.getD k 0) 0:=by
 intro i
 induction i with
 |zero=>intro _;rfl|succ i c=>intro d;unfold mO;rw[sO,if_neg];exact c (by omega);rintro⟨e,_⟩;rw[nf (show i<l.length by omega),nf a]at e;exact(eA.1 (List.nodup_iff_pairwise_ne.1 b) i k (by omega) a (by omega)) e
def P3{v:List Int}{k x}(h:v.getD k 0=x)(a:k<v.length):v.set k x=v:=by apply List.ext_getElem (by simp);intro i b c;rw[List.getElem_set];split;rename_i e;subst e;rw[<-h];simp[bu,a];rfl
section
variable{Z now:bw}
def IL{k}:(fc Z now k).v.length=Z.v.length:=qy _ _ _ _
def yr{k}:fc Z now (k+1)=⟨Z.k,(fc Z now k).v.set ((kinds Z.k.toNat).getD k 0) (now.v.getD ((kinds Z.k.toNat).getD k 0) 0)⟩:=rfl
def IK(e:Z.v.length=8){k}(a)(d:now.v.getD (kinds Z.k.toNat)[k] 0=Z.v.getD (kinds Z.k.toNat)[k] 0):fc Z now (k+1)=fc Z now k:=by have hm:=(iM Z.k.toNat _).1 (aF a);rw[yr,nf a];have b:=Lv (λi=>now.v.getD ((kinds Z.k.toNat).getD i 0) 0) (kinds Z.k.toNat) Z.v (pe _) a k (ao _);rw[nf a]at b;have c:(fc Z now k).v.getD (kinds Z.k.toNat)[k] 0=now.v.getD (kinds Z.k.toNat)[k] 0:=b.trans d.symm;rw[P3 c (by rw[IL,e];exact hm.1)];rfl
def Ay(b:bx Z=0){k}(c):pJ (fc Z now k) (kinds Z.k.toNat)[k] (now.v.getD (kinds Z.k.toNat)[k] 0)=fc Z now (k+1):=by have hm:=(iM Z.k.toNat _).1 (aF c);have d:=(jQ Z b).1;unfold pJ;rw[yr,nf c];have a:(fc Z now k).k=Z.k:=rfl;rw[a,FR Z.k.toNat _ (by omega) hm.1 hm.2];congr 1;omega
def Lp(f:Z.v.length=8)(n:now.k=Z.k)(c:now.v.length=8)(a:∀j,j∉kinds Z.k.toNat->now.v.getD j 0=Z.v.getD j 0):fc Z now (kinds Z.k.toNat).length=now:=by
 have e:(fc Z now (kinds Z.k.toNat).length).v=now.v:=by
  apply List.ext_getElem (by rw[IL,f,c]);intro j k l;have m:j<8:=by omega
  have h:(fc Z now (kinds Z.k.toNat).length).v.getD j 0=now.v.getD j 0:=by by_cases hm:j∈kinds Z.k.toNat;obtain⟨i,b,rfl⟩:=bR.1 hm;have d:=FU (λi=>now.v.getD ((kinds Z.k.toNat).getD i 0) 0) (kinds Z.k.toNat) Z.v (pe _) _ (ao _) i b (by rw[nf b,f];exact m);rw[nf b]at d;exact d;rw[a j hm];exact AK _ _ _ _ hm _ (ao _)
  simpa[bu,k,l]using h
 have g:(fc Z now (kinds Z.k.toNat).length)=⟨Z.k,(fc Z now (kinds Z.k.toNat).length).v⟩:=rfl;rw[g,e,<-n]
end
def Mn(f s x y):dC (dC f s x) s y=dC f s y:=by funext k;unfold dC;split<;>rfl
def Qb(f s){x}(h:f s=x):dC f s x=f:=by funext k;unfold dC;split;rename_i e;rw[e,h];rfl
def nN(f:BF)(s:Sys):BF:=λk=>(f k).map λx=>(x.1,bU x.2 s)
def px(f:BF)(s:Sys)(l:List cQ):BF:=l.foldl (λf r=>dC f r.h.1 (af (r.h.2,bU r.b s))) f
def wK(f s l r):px f s (l++[r])=dC (px f s l) r.h.1 (af (r.h.2,bU r.b s)):=by unfold px;rw[jc];rfl
def yF(f s l){k}(h:∀r∈l,r.h.1≠k):px f s l k=f k:=by
 unfold px
 induction l generalizing f with|nil=>rfl|cons r l b=>rw[o5,b _ λr a=>h r (by simp[a])];unfold dC;rw[if_neg (λe=>h r (by simp) e.symm)]
def Jt{p f}(u:lH p f)(s):px f s (ep p f)=nN f s:=by
 have o:∀(n:Nat)(l:List cQ),l.length=n->(∀r∈l,f r.h.1=af (r.h.2,r.b))->∀k,(∃r∈l,r.h.1=k)->px f s l k=nN f s k:=by
  intro n
  induction n with
  |zero=>rintro l y _ k ⟨r,a,_⟩;rw[dw y]at a;cases a
  |succ n A=>
   intro l i v k c;have b:l≠ []:=by intro e;rw[e]at i;cases i
   have d:=List.dropLast_concat_getLast b;generalize l.getLast b=r at d;generalize q:l.dropLast=w at d;have g:w.length=n:=by rw[<-q,List.length_dropLast,i];rfl
   clear q;subst d;rw[wK];unfold dC;by_cases e:k=r.h.1;rw[if_pos e];unfold nN;rw[e,v r (by simp)];rfl;rw[if_neg e];refine A w g (λr a=>v r (by simp[a])) k ?_;obtain⟨B,m,t⟩:=c;rcases fM.1 m with h|h;exact⟨B,h,t⟩;rw[aO]at h;subst h;exact absurd t.symm e
 funext k;by_cases c:∃r∈ep p f,r.h.1=k;exact o _ _ rfl (λr a=>(gH u).1 a) k c;have j:f k=ah:=by
  cases z:f k with|none=>rfl|some x=>exact absurd ⟨⟨(k,x.1),x.2⟩,(gH u).2 z,rfl⟩ c
 rw[yF f s _ (λr a e=>c ⟨r,a,e⟩)];unfold nN;rw[j];rfl
def lH.one{l f}(h:lH l f)(s):lH l (nN f s):=by refine⟨h.so,λk g=> ?_,λk g b a=> ?_⟩;rw[h.lv];unfold nN;constructor;rintro⟨b,a⟩;exact⟨bU b s,by rw[a];rfl⟩;rintro⟨b,a⟩;obtain⟨x,e,d⟩:=aG.1 a;injection d with i j;exact⟨x.2,by rw[e,<-i]⟩;unfold nN at a;obtain⟨x,e,d⟩:=aG.1 a;injection d with i j;have c:=h.bo k x.1 x.2 e;rw[<-j];exact⟨vJ _ _ c.2 c.1,by rw[eX];exact c.2⟩
def GD(z:ZS)(s:Sys):ZS:=⟨z.ls,nN z.f s,z.B⟩
def fY(z:ZS)(a:List Sys):ZS:=a.foldl GD z
def jC.sys{z}(h:jC z)(s):jC (GD z s):=⟨h.w.one s,h.rT,h.Ny,h.lv⟩
def jC.run{z}(h:jC z)(a):jC (fY z a):=by
 unfold fY
 induction a generalizing z with|nil=>exact h|cons s a b=>exact b (h.sys s)
def EK(z)(a:List Sys){k}(b):fY z (a.take (k+1))=GD (fY z (a.take k)) a[k]:=by unfold fY;rw[aV b,jc];rfl
def Plain(o:mo):Prop:=0<=o.a.1/\0<=o.t.1
def iH(b:bw)(a:List Sys):bw:=a.foldl bU b
def MO(a):∀b,(iH b a).k=b.k:=by
 induction a with|nil=>intro b;rfl|cons s a c=>intro b;show(iH (bU b s) a).k=_;rw[c,mZ]
def tK(a):∀b,(iH b a).v.length=b.v.length:=by
 induction a with|nil=>intro b;rfl|cons s a c=>intro b;show(iH (bU b s) a).v.length=_;rw[c,eX]
def Ht(a):∀b,b.v.length=8->bx b=0->bx (iH b a)=0:=by
 induction a with|nil=>intro b _ h;exact h|cons s a d=>intro b c h;exact d _ (by rw[eX];exact c) (vJ b s c h)
def KJ(b a s):iH b (a++[s])=bU (iH b a) s:=by unfold iH;rw[jc];rfl
def pI(w:bw)(l:List Nat)(v:List Int):List Int:=l.foldl (λv k=>v.set k (w.v.getD k 0)) v
def FH(b:bw)(v:List Int)(s:Sys):List Int:=pI (bU b s) (kinds s.write.toNat) v
def gX(b:bw)(a:List Sys):bw:=⟨b.k,a.foldl (FH b) b.v⟩
def u9(w l):∀v,(pI w l v).length=v.length:=by
 induction l with|nil=>intro v;rfl|cons k l a=>intro v;show(pI w l (v.set k _)).length=_;rw[a,cx]
def O0(w l):∀v k,k<v.length->(pI w l v).getD k 0=if k∈l then w.v.getD k 0 else v.getD k 0:=by
 induction l with
 |nil=>intro v k _;simp[pI]|cons i l d=>
  intro v k c;show(pI w l (v.set i _)).getD k 0=_;rw[d _ k (by rw[cx];exact c),sO];by_cases a:k∈l;simp[a];by_cases b:i=k;subst b;simp[a,c];have:¬k=i:=λe=>b e.symm
  simp[a,b,this]
def oz(b a):(gX b a).v.length=b.v.length:=by
 unfold gX;have c:∀(a:List Sys)(v:List Int),(a.foldl (FH b) v).length=v.length:=by
  intro a
  induction a with|nil=>intro v;rfl|cons s a d=>intro v;rw[o5,d];exact u9 _ _ _
 exact c a b.v
def Ha(b a s):gX b (a++[s])=⟨b.k,FH b (gX b a).v s⟩:=by unfold gX;rw[jc];rfl
def Q8{b d s}(g:d.k=b.k)(t:b.v.length=8)(u:d.v.length=8)(h:∀k,k<8->s.write.toNat.testBit k=ak\/s.read.toNat.testBit k=ak->d.v.getD k 0=b.v.getD k 0){k}(m:k<8)(r:s.write.toNat.testBit k=ak):(bU d s).v.getD k 0=(bU b s).v.getD k 0:=by
 by_cases q:eM b.k s.q=ak;by_cases f:k∈wl b s;obtain⟨j,p,l⟩:=wh f;have a:=oB b s t q j p;have c:=oB d s u (by rw[g];exact q) j (by rw[Dv g];exact p);rw[Dv g,l]at c;rw[l]at a;rw[a,c];refine rH g p (λi o=> ?_) λ_ i o=> ?_
 have:=(lM _ _ _).1 o;exact h i this.1 (.inl this.2.2);have:=(Ln _ _ _).1 o;exact h i this.1 (.inr this.2.2);rw[gj b s k f,gj d s k (by rw[Dv g];exact f)];exact h k m (.inl r);have e:∀n:bw,n.k=b.k->bU n s=n:=λn h=>by unfold bU;rw[h,if_neg q]
 rw[e d g,e b rfl];exact h k m (.inl r)
def QY{s t}(a:ck s.read=ak)(b:ck s.write=ak)(c:ck t.read=ak)(d:ck t.write=ak)(e:gi s t=aq){k}(f:k<8):¬((s.write.toNat.testBit k=ak/\(t.read.toNat.testBit k=ak\/t.write.toNat.testBit k=ak))\/(t.write.toNat.testBit k=ak/\s.read.toNat.testBit k=ak)):=by intro h;have:=(tI a b c d).2 ⟨k,f,h⟩;rw[e]at this;exact absurd this (by simp)
def oW{s}(h:dH s=0):ck s.read=ak/\ck s.write=ak:=by obtain⟨_,_,_,a,b,_⟩:=mS h;exact⟨a,b⟩
def Oi{k}(a):∀b,(∀s∈a,s.write.toNat.testBit k=aq)->(iH b a).v.getD k 0=b.v.getD k 0:=by
 induction a with|nil=>intro b _;rfl|cons s a d=>intro b h;show(iH (bU b s) a).v.getD k 0=_;rw[d _ λt c=>h t (by simp[c])];exact gj b s k λhm=>by have:=((lM _ _ _).1 hm).2.2;rw[h s (by simp)]at this;cases this
def uO(b)(l:b.v.length=8):∀n a,a.length=n->(∀s∈a,dH s=0)->a.Pairwise (λs t=>gi s t=aq)->gX b a=iH b a:=by
 intro n
 induction n with
 |zero=>intro a h _ _;rw[dw h];rfl|succ n G=>
  intro a v f w;have j:a≠ []:=by intro e;rw[e]at v;cases v
  have p:=List.dropLast_concat_getLast j;generalize a.getLast j=s at p;generalize y:a.dropLast=g at p;have x:g.length=n:=by rw[<-y,List.length_dropLast,v];rfl
  clear y;subst p;have d:=List.pairwise_append.1 w;have E:=G g x (λt m=>f t (by simp[m])) d.1;rw[Ha,KJ];have c:(iH b g).v.length=8:=by rw[tK,l]
  refine DC (by rw[mZ,MO]) (by show(pI _ _ _).length=8;rw[u9,oz,l]) (by rw[eX,c]) λk u=> ?_
  show(pI (bU b s) (kinds s.write.toNat) (gX b g).v).getD k 0=_;rw[O0 _ _ _ k (by rw[oz,l];exact u)];by_cases o:s.write.toNat.testBit k=ak;rw[if_pos ((iM _ _).2 ⟨u,o⟩)];refine(Q8 (MO g b) l c (λi r F=>Oi g b λt m=> ?_) u o).symm;have D:=d.2.2 t m s (by simp);obtain⟨z,A⟩:=oW (f t (by simp[m]));obtain⟨B,C⟩:=oW (f s (by simp));cases q:t.write.toNat.testBit i with|false=>rfl|true=>exact absurd (.inl ⟨q,F.symm⟩) (QY z A B C D r)
  rw[if_neg λhm=>o ((iM _ _).1 hm).2,E,gj _ s k λhm=>o ((lM _ _ _).1 hm).2.2]
abbrev PS:=List (Sys×Int)
def gJ(L:PS)(b:Int):List Sys:=(L.filter λx=>x.2=b).map (·.1)
def E8(L:PS):List Sys:=L.map (·.1)
structure qY(L:PS):Prop where
 ok:∀x∈L,dH x.1=0
 lt:L.Pairwise λx y=>gi x.1 y.1=ak->x.2<y.2
def KL(x)(c:x.v.length=8)(s)(k:dH s=0):∀a,(∀t∈a,dH t=0/\gi s t=aq)->iH (bU x s) a=bU (iH x a) s:=by
 intro a
 induction a generalizing x with|nil=>intro _;rfl|cons t a l=>intro h;obtain⟨i,j⟩:=h t (by simp);obtain⟨d,e⟩:=oW k;obtain⟨f,g⟩:=oW i;show iH (bU (bU x s) t) a=bU (iH (bU x t) a) s;rw[apart x s t c d e f g j,l (bU x t) (by rw[eX];exact c) λm b=>h m (by simp[b])]
def pull(b):∀L x,x.v.length=8->qY L->(∀y∈L,b<=y.2)->iH x (E8 L)=iH (iH x (gJ L b)) (E8 (L.filter λy=>¬y.2=b)):=by
 intro L
 induction L with
 |nil=>intro x _ _ _;rfl|cons y L o=>
  intro x k hL a;have h:qY L:=⟨λz c=>hL.ok z (by simp[c]),(List.pairwise_cons.1 hL.lt).2⟩;have m:=o (bU x y.1) (by rw[eX];exact k) h λz c=>a z (by simp[c])
  show iH (bU x y.1) (E8 L)=_;rw[m];by_cases e:y.2=b;have f:gJ (y::L) b=y.1::gJ L b:=by unfold gJ;rw[List.filter_cons_of_pos (by simpa using e)];rfl
  have g:(y::L).filter (λz=>¬z.2=b)=L.filter (λz=>¬z.2=b):=by rw[List.filter_cons_of_neg (by simpa using e)]
  rw[f,g];rfl;have f:gJ (y::L) b=gJ L b:=by unfold gJ;rw[List.filter_cons_of_neg (by simpa using e)]
  have g:(y::L).filter (λz=>¬z.2=b)=y::L.filter (λz=>¬z.2=b):=by rw[List.filter_cons_of_pos (by simpa using e)]
  rw[f,g];rw[KL x k y.1 (hL.ok y (by simp)) (gJ L b) λt j=> ?_];rfl;unfold gJ at j;obtain⟨z,c,rfl⟩:=aA.1 j;obtain⟨d,i⟩:=b3.1 c;have n:z.2=b:=by simpa using i
  refine⟨hL.ok z (by simp[d]),?_⟩;cases l:gi y.1 z.1 with|false=>rfl|true=>have:=(List.pairwise_cons.1 hL.lt).1 z d l;have:=a y (by simp);omega
def WO(x:bw)(L:PS):Nat->bw|0=>x|n+1=>iH (WO x L n) (gJ L n)
def KS(L)(n:Nat)(b:Int)(a:n<=b):gJ (L.filter λy=>n<=y.2) b=gJ L b:=by
 unfold gJ;rw[List.filter_filter];congr 1;refine List.filter_congr λy _=> ?_
 by_cases e:y.2=b;simp[e,a];simp[e]
def H9(L:PS)(n:Nat):((L.filter λy=>(n:Int)<=y.2).filter λy=>¬y.2=(n:Int))=L.filter λy=>((n+1:Nat):Int)<=y.2:=by
 rw[List.filter_filter];refine List.filter_congr λy _=> ?_
 by_cases c:((n+1:Nat):Int)<=y.2;have a:(n:Int)<=y.2:=by omega
 have b:¬y.2=(n:Int):=by omega
 simp only[a,b,decide_true,not_false_eq_true,Bool.and_self,c];by_cases a:(n:Int)<=y.2;have b:y.2=(n:Int):=by omega
 simp only[b,not_true_eq_false,decide_false,Bool.false_and];simp;omega;simp only[a,decide_false,Bool.and_false,c]
def UJ(x)(f:x.v.length=8)(L)(hL:qY L)(d:∀y∈L,0<=y.2):∀n:Nat,iH x (E8 L)=iH (WO x L n) (E8 (L.filter λy=>n<=y.2)):=by
 intro n
 induction n with
 |zero=>
  have:(L.filter λy=>((0:Nat):Int)<=y.2)=L:=List.filter_eq_self.2 λy b=>by simpa using d y b
  rw[this];rfl
 |succ n c=>
  have e:(WO x L n).v.length=8:=by
   have:∀n,(WO x L n).v.length=x.v.length:=by
    intro n
    induction n with|zero=>rfl|succ n c=>show(iH _ _).v.length=_;rw[tK,c]
   rw[this,f]
  have a:qY (L.filter λy=>(n:Int)<=y.2):=⟨λz g=>hL.ok z (b3.1 g).1,hL.lt.sublist ly⟩;rw[c,pull n _ _ e a λy b=>by simpa using(b3.1 b).2,KS L n n (Int.le_refl _),H9];rfl
def UK(x)(c:x.v.length=8)(L)(hL:qY L)(a:∀y∈L,0<=y.2)(n:Nat)(b:∀y∈L,y.2<n):WO x L n=iH x (E8 L):=by
 have h:=UJ x c L hL a n;have:(L.filter λy=>(n:Int)<=y.2)=[]:=List.filter_eq_nil_iff.2 λy d=>by have:=b y d;simp;omega
 rw[this]at h;exact h.symm
section
open Go.RowKit
end
section
open Go.RowKit Go.Sort
section
variable{G:Nat->Prop} {Z w Y:ar} {l:List cX}
def Wp:SWO (ltOf Hn)where
 irrefl x:=by unfold ltOf;rw[sJ];unfold D';simp
 trans x y z h1 h2:=by unfold ltOf at *;rw[sJ]at *;unfold D' at *;simp only[ej,ay,decide_eq_true_eq]at *;omega
 ntrans x y z h1 h2:=by unfold ltOf at *;rw[sJ]at *;unfold D' at *;simp only[Bool.or_eq_false_iff,Bool.and_eq_false_iff,decide_eq_false_iff_not]at *;omega
def SF{d key}{c:List d}(h:c.Pairwise λa b=>decide (Hn (key b) (key a)<0)=aq):c.Pairwise λa b=>OU key a b=ak:=h.imp λ{a b} h=>by unfold OU wX;rw[<-sJ,h];rfl
def Tg{v b}(h:In G Z (e9 v b::l) w)(o:b.length<=1099511627776):Calls ai 141 #[v,.func (.func 80) #[] #[]] w λe Y=>e=.returned (.tuple #[])/\In G Z (e9 v (b.mergeSort wX)::l) Y:=by
 have a:=Gx (ρ:=tq) (enc:=hC) BD Tryz.isAgg43 Tryz.sizeOf43 xo (λx u d=>by simp[hC]at d;rcases d with rfl|rfl<;>rfl) Hn Wp 80 (enters_of func80 (by kernel_rfl) rfl) (λblk c size w m k f _ x y=>yj x y (sortWorldK hC 2 w blk c m f k)) 43 h (by omega)
 change Calls ai 141 _ _ _ at a;refine a.mono ?_;rintro e Y ⟨rfl,n,hp,j,i⟩;have g:n=b.mergeSort wX:=ts hp (SF (key:=id) j);subst g;exact⟨rfl,i⟩
def bC(b:Hd×Hd):List aB:=[.int .i64 b.1.1,.int .i64 b.1.2,.int .i64 b.2.1,.int .i64 b.2.2]
def bL(b:Hd×Hd):List Int:=[b.1.1,b.1.2,b.2.1,b.2.2]
def xc(b):(bC b).length=4:=rfl
def QO(b):(bL b).length=4:=rfl
abbrev dA(v:aB)(a:List (Hd×Hd)):cX:=dN 45 4 v a.length (a.flatMap bC)
def QZ(a b:Hd×Hd):Int:=Hn a.1 b.1
def acs:SWO (ltOf QZ)where
 irrefl x:=Wp.irrefl x.1
 trans x y z:=Wp.trans x.1 y.1 z.1
 ntrans x y z:=Wp.ntrans x.1 y.1 z.1
def KC(x y w):Calls ai 101 #[.agg (ints (bL x)),.agg (ints (bL y))] w λe Y=>e=.returned (.int .i64 (QZ x y))/\∃q j,Y=Sort.grow (w.drewN q) j:=by
 obtain⟨⟨a,b⟩,⟨f,g⟩⟩:=x;obtain⟨⟨c,d⟩,⟨h,i⟩⟩:=y;go_enter func101,ntmps101;go_upto_region 1 with(fail)
 have m:row? ((w.alloc (.cells (ints [a,b,f,g]) 45)).alloc (.cells (ints [c,d,h,i]) 45)) w.heap.size 0 2=af (ints [a,b]):=((di.new w 45 (ints [a,b,f,g])).alloc _).dy 0 2 (by simp);have n:row? ((w.alloc (.cells (ints [a,b,f,g]) 45)).alloc (.cells (ints [c,d,h,i]) 45)) (w.heap.size+1) 0 2=af (ints [c,d]):=by have:=di.new (w.alloc (.cells (ints [a,b,f,g]) 45)) 45 (ints [c,d,h,i]);rw[bZ]at this;exact this.dy 0 2 (by simp)
 have k:Hid (((w.alloc (.cells (ints [a,b,f,g]) 45)).alloc (.cells (ints [c,d,h,i]) 45))=Sort.grow w #[.cells (ints [a,b,f,g]) 45,.cells (ints [c,d,h,i]) 45]):=by unfold Hid;rw[Sort.alloc_eq_grow,Sort.alloc_eq_grow,Sort.grow_grow];rfl
 change Code.wp _ _ _ _ ((w.alloc (.cells (ints [a,b,f,g]) 45)).alloc (.cells (ints [c,d,h,i]) 45));generalize ((w.alloc (.cells (ints [a,b,f,g]) 45)).alloc (.cells (ints [c,d,h,i]) 45))=l at *;go_wp2_with fail;refine(yj (a,b) (c,d) l).mono ?_;rintro e o ⟨rfl,q,j,rfl⟩;go_wp2_with fail;go_ret;refine⟨rfl,q,#[.cells (ints [a,b,f,g]) 45,.cells (ints [c,d,h,i]) 45]++j,?_⟩;rw[k.out];exact Sort.grow_grow (w.drewN q) _ j
def Tf{v f}(s:∀a∈f,∀b∈f,a.1=b.1->a=b)(h:In G Z (dA v f::l) w)(A:f.length<=1099511627776):Calls ai 100 #[v,.func (.func 101) #[] #[]] w λe Y=>e=.returned (.tuple #[])/\In G Z (dA v (f.mergeSort (OU (·.1)))::l) Y:=by
 have p:∀x,∀u∈bC x,u.oneCell'=ak:=λx u j=>by simp[bC]at j;rcases j with rfl|rfl|rfl|rfl<;>rfl
 have q:∀blk d size w,CmpLays ai 101 #[] bC 4 QZ blk d size w:=λblk d size w m z n _ x y=>KC x y (sortWorldK bC 4 w blk d m n z)
 have r:∀args w,(callFunc 101 args).run ai w=.ok (.enter 101 args) w:=enters_of func101 (by kernel_rfl) rfl;have c:=Gx (ρ:=wO) (enc:=bC) Gw Tryz.isAgg45 Tryz.sizeOf45 xc p QZ acs 101 r q 45 h (by omega);change Calls ai 100 _ _ _ at c;refine c.mono ?_;rintro e Y ⟨rfl,k,hp,t,i⟩;have g:k.Pairwise λa b=>OU (λb:Hd×Hd=>b.1) a b=ak:=t.imp λ{a b} h=>by unfold OU wX;rw[<-sJ];unfold QZ at h;rw[h];rfl
 have o:k=f.mergeSort (OU (λb:Hd×Hd=>b.1)):=iL _ s hp g;rw[o]at i;exact⟨rfl,i⟩
end
end
section
open Go.RowKit
def Fz{m a}(hp:m.Perm a)(h):(eO m h).Perm (eO a h):=(hp.filter _).map _
def Fy(x v h)(m:lF):eO ((x,v)::m) h=if v=h then x::eO m h else eO m h:=by unfold eO;rw[List.filter_cons];by_cases e:v=h<;>simp[e]
def sV(m h):(eO m h).length<=m.length:=by unfold eO;rw[aY];exact iE _ _
def OV{m left coll:List (Hd×Hd)}{cs x v h}(b:(bI left).Nodup)(c:(x,v)∈left)(hp:(cs++eO left h).Perm (eO m h)):((if v=h then cs++[x]else cs)++eO (dB left x) h).Perm (eO m h):=by have a:=Fz (xy b c) h;rw[Fy]at a;refine List.Perm.trans ?_ hp;split;rename_i e;rw[if_pos e]at a;rw[b9];exact dM _ a.symm;rename_i e;rw[if_neg e]at a;exact dM _ a.symm
def Fo{G z w l p m}(h:In G z (ja p m::l) w)(a)(hl:m.length<=1099511627776):Calls ai 176 #[.pointer (af ⟨p,0,ah⟩),iU a] w λe X=>∃v,e=.returned v/\In G z (e9 v (kids m a)::ja p m::l) X:=by
 obtain⟨hm,b,q⟩:=h.tV;have HM:=ae hm;have B:=ae q;clear h hm q;obtain⟨c,d⟩:=a;rw[j7];obtain⟨i0,uT,sS,sT,sa⟩:=info_parts ia;have O:∀(x y:List Int) W,x.length=2->y.length=2->(binOp .eql 43 (.agg (ints x)) (.agg (ints y))).run ai W=.ok (.bool (decide (x=y))) W:=λx y W J h2=>mJ x y J h2 W
 have XS:=ae O;clear O;go_enter func176,ntmps176;go_upto_region 1 with(fail)
 refine a6 (In G z (aN w.heap.size 43 (ints [c,d])::aN p 175 #[.map (af b)]::wZ b m::l)) (B.out.alloc 43 (ints [c,d])) ?_;generalize w.heap.size=H;intro w1 q;have k0:w1.cell? ⟨p,0,ah⟩=af (.map (af b)):=q.swap.blk.cell 0;have t:=ae q.third;clear q B;go_wp2_with (at_range;go_loud (refine ij rfl _ 173 43 rfl underlying173 b _ rfl (In.iV t.out) ?_));intro w2 S L U;have C:Hid (In G z (dN 43 2 (.slice ah 0 0) 0 []::gT iU iU (λ_=>True) b w1.heap.size m m::aN H 43 (ints [c,d])::aN p 175 #[.map (af b)]::l) w2):=In.kz (In.Bf t.out S L U) _ _;generalize w1.heap.size=V at *;clear S L U t k0;go_wp2_with fail;go_loopw [14,5] (λ_ out X=>∃(left:lF)(cs:List Hd),(bI left).Nodup/\(cs++eO left (c,d)).Perm (eO m (c,d))/\In G z (e9 out cs::gT iU iU (λ_=>True) b V m left::aN H 43 (ints [c,d])::aN p 175 #[.map (af b)]::l) X) (λ_ _ X=>X.rangeLeft b V)
 case atStart=>exact⟨m,[],HM.out.nodup,by simp,C.out⟩
 case round=>
  clear C;obtain⟨left,cs,P,hp,q⟩:=hrel;have u:=ae P;clear P;have A:=ae q.swap;have HP:=ae hp;clear q hp;go_wp2_with (at_next;go_loud (refine j5 An rfl _ rfl b V _ left rfl (In.rangeAt A.out) ?_ ?_))
  ·intro RN;subst RN;have HPC:Hid (kids m (c,d)=cs.mergeSort wX):=by have:=HP.out;simp[eO]at this;exact(P6 this).symm
   have M:cs.length<=1099511627776:=by have J:=HP.out.length_eq;have h2:=sV m (c,d);simp at J;omega
   have D:=ae A.out.swap;clear A;go_wp2_with fail;refine(Tg D.out M).mono ?_;rintro e w3 ⟨rfl,K⟩;have Ke:=ae K;clear K D;go_wp2_with fail;go_ret;refine⟨_,rfl,?_⟩;rw[HPC.out];exact(In.oc HM.out (Ke.out.swap.tw.third.drop.third)).swap
  intro f g k n Y hx T Q YU s hen;have E:=ae (In.mj A.out T Q);have r:=ae s;have HX:=ae hx;obtain⟨f1,f2⟩:=BK Y 43 43 [0,0] [0,0] [f,g];clear T Q YU s hx;go_upto_region 5 with(fail)
  refine a6 (In G z (aN (Y.heap.size+1) 43 (ints [k,n])::aN Y.heap.size 43 (ints [f,g])::gT iU iU (λ_=>True) b V m (dB left (f,g))::e9 u5 cs::aN H 43 (ints [c,d])::aN p 175 #[.map (af b)]::l)) (E.out.GC 43 43 [0,0] [0,0] [f,g] [k,n] rfl rfl) ?_;clear f1 f2 hen E;generalize Y.heap.size+1=vb;generalize Y.heap.size=xb;intro Z j;have q1:row? Z vb 0 2=af (ints [k,n]):=j.blk.aL rfl;have q2:row? Z xb 0 2=af (ints [f,g]):=j.swap.blk.aL rfl;have q3:row? Z H 0 2=af (ints [c,d]):=(j.drop.fourth).blk.aL rfl;have hn:=XS.out [k,n] [c,d];have o:Hid (In G z (e9 u5 cs::gT iU iU (λ_=>True) b V m (dB left (f,g))::aN H 43 (ints [c,d])::aN p 175 #[.map (af b)]::l) Z):=j.drop.drop.swap;have i:=ae (OV (coll:=[]) (left:=left) (cs:=cs) (x:=(f,g)) (v:=(k,n)) (h:=(c,d)) u.out HX.out HP.out);have T5:∀W,(binOp .eql 43 (.agg (ints [k,n])) (.agg (ints [c,d]))).run ai W=.ok (.bool (decide ([k,n]=[c,d]))) W:=λW=>hn W rfl rfl
  clear j hn;by_cases e:(k,n)=(c,d)
  ·have N:decide ([k,n]=[c,d])=ak:=by rw[decide_eq_true_eq];injection e with e1 I;rw[e1,I]
   rw[N]at T5;rw[if_pos e]at i;have M:cs.length+1<=1099511627776:=by have J:=i.out.length_eq;have h2:=sV m (c,d);simp at J;omega
   have HO:=ae o.out.rowAt;clear e N;go_wp2_with (at_builtin;go_loud (refine dv rfl _ _ 122 rfl 0 43 i0 _ 2 16 underlying122 uT sS sT sa rfl (by decide) u5 cs.length (cs.flatMap hC) rfl HO.out [.int .i64 f,.int .i64 g] rfl rfl (by simp[fW]) ?_ ?_ (bH _) ?_))
   case refine_1=>unfold maxLen;omega
   case refine_2=>omega
   intro v' w9 ho hg R;have F:=ae (In.vC (x:=(f,g)) o.out ho hg R);clear ho hg R q1 q2 q3 T5;go_wp2_with fail;go_roundw
   case rel=>exact⟨dB left (f,g),cs++[(f,g)],mM u.out _,i.out,F.out⟩
   rw[(In.rangeAt F.out.swap).count,(In.rangeAt A.out).count];exact r.out
  have N:decide ([k,n]=[c,d])=aq:=by rw[decide_eq_false_iff_not];intro e';injection e' with e1 I;injection I with I _;exact e (by rw[e1,I])
  rw[N]at T5;rw[if_neg e]at i;clear e N;go_wp2_with fail;go_roundw
  case rel=>exact⟨dB left (f,g),cs,mM u.out _,i.out,o.out⟩
  rw[(In.rangeAt o.out.swap).count,(In.rangeAt A.out).count];exact r.out
def uP:(Tryz.prog.info? 45).map (λi=>(i.zero,i.size,i.bytes))=af (af (.agg #[.int .i64 0,.int .i64 0,.int .i64 0,.int .i64 0]),4,32):=by kernel_rfl
def In.UG{G f w e l v c b x o}(h:In G f (dA v b::l) w)(a:e.ownsRow 0 45 4 c (b.length+1) (b.flatMap bC++[.int .i64 x.1.1,.int .i64 x.1.2,.int .i64 x.2.1,.int .i64 x.2.2]))(g:(w.alloc o).grownBy e v.ownBlock)(d:c.ownBlock=v.ownBlock\/c.ownBlock=af (w.heap.size+1)):In G f (dA c (b++[x])::l) e:=by have:=h.o6 a g d;unfold dA;rw[bm,bS];exact this
def C7{m a:lF}(hm:il m)(hp:a.Perm m):a.mergeSort (OU (λb:Hd×Hd=>b.1))=cY m:=iL (λb:Hd×Hd=>b.1) (nn hm.nodup) ((hZ _ _).trans hp) (kT _ _)
def DW{G t w l p m}(h:In G t (ja p m::l) w)(hl:m.length<=1099511627776):Calls ai 44 #[.pointer (af ⟨p,0,ah⟩)] w λe R=>∃v,e=.returned v/\In G t (dA v (cY m)::ja p m::l) R:=by
 obtain⟨hm,b,s⟩:=h.tV;have HM:=ae hm;have q:=ae s.swap;have k0:w.cell? ⟨p,0,ah⟩=af (.map (af b)):=s.blk.cell 0;clear h hm s;obtain⟨i0,V,Y,Z,sa⟩:=info_parts uP;go_enter func44,ntmps44;go_wp2_with (at_range;go_loud (refine ij rfl _ 173 43 rfl underlying173 b _ rfl (In.iV q.out) ?_));intro w2 N I P;have y:Hid (In G t (dN 45 4 (.slice ah 0 0) 0 []::gT iU iU (λ_=>True) b w.heap.size m m::aN p 175 #[.map (af b)]::l) w2):=In.kz (In.Bf q.out N I P) _ _;generalize w.heap.size=Q at *;clear N I P q k0;go_wp2_with fail;go_loopw [12,3] (λ_ out R=>∃(left:lF)(c:lF),(bI left).Nodup/\(c++left).Perm m/\In G t (dA out c::gT iU iU (λ_=>True) b Q m left::aN p 175 #[.map (af b)]::l) R) (λ_ _ R=>R.rangeLeft b Q)
 case atStart=>exact⟨m,[],HM.out.nodup,by simp,y.out⟩
 case round=>
  clear y;obtain⟨left,c,K,hp,s⟩:=hrel;have F:=ae K;have u:=ae s.swap;have HP:=ae hp;clear K s hp;go_wp2_with (at_next;go_loud (refine j5 An rfl _ rfl b Q _ left rfl (In.rangeAt u.out) ?_ ?_))
  ·intro W;subst W;have g:c.Perm m:=by simpa using HP.out
   have J:c.length<=1099511627776:=by rw[g.length_eq];exact hl
   have j:=(nn (HM.out.nodup));have D:Hid (∀a∈c,∀b∈c,a.1=b.1->a=b):=λa ha b hb=>j a (g.subset ha) b (g.subset hb)
   have HB:=ae (C7 HM.out g);have z:=ae u.out.swap;clear u g j;go_wp2_with fail;refine(Tf D.out z.out J).mono ?_;rintro e w3 ⟨rfl,r⟩;rw[HB.out]at r;have T:=ae r;clear r z;go_wp2_with fail;go_ret;exact⟨_,rfl,(In.oc HM.out (T.out.swap.tw.third)).perm ((ot _))|>.swap⟩
  intro d f n o S hx O L X k U;have A:=ae (In.mj u.out O L);have E:=ae k;have H:Hid ((c++[((d,f),(n,o))]++dB left (d,f)).Perm m):=by refine List.Perm.trans ?_ HP.out;rw[b9];exact dM _ (xy F.out hx).symm
  have J:c.length+1<=1099511627776:=by have h1:=H.out.length_eq;simp at h1;omega
  obtain⟨f1,f2⟩:=BK S 43 43 [0,0] [0,0] [d,f];clear O L X k hx;go_upto_region 5 with(fail)
  refine a6 (In G t (aN (S.heap.size+1) 43 (ints [n,o])::aN S.heap.size 43 (ints [d,f])::gT iU iU (λ_=>True) b Q m (dB left (d,f))::dA u3 c::aN p 175 #[.map (af b)]::l)) (A.out.GC 43 43 [0,0] [0,0] [d,f] [n,o] rfl rfl) ?_;clear f1 f2 U A;generalize S.heap.size+1=vb;generalize S.heap.size=xb;intro w8 i;have q1:row? w8 vb 0 2=af #[.int .i64 n,.int .i64 o]:=i.blk.aL (xs:=[n,o]) rfl;have q2:row? w8 xb 0 2=af #[.int .i64 d,.int .i64 f]:=i.swap.blk.aL (xs:=[d,f]) rfl;have B:Hid (In G t (dA u3 c::gT iU iU (λ_=>True) b Q m (dB left (d,f))::aN p 175 #[.map (af b)]::l) w8):=i.drop.drop.swap;have HO:=ae B.out.rowAt;clear i;go_wp2_with (at_builtin;go_loud (refine dv rfl _ _ 34 rfl 0 45 i0 _ 4 32 underlying34 V Y Z sa rfl (by decide) u3 c.length (c.flatMap bC) rfl HO.out [.int .i64 d,.int .i64 f,.int .i64 n,.int .i64 o] rfl rfl (by simp[fW]) ?_ ?_ (bH _) ?_))
  case refine_1=>unfold maxLen;omega
  case refine_2=>omega
  intro v' w9 ho hg M;have C:=ae (In.UG (x:=((d,f),(n,o))) B.out ho hg M);clear ho hg M q1 q2;go_wp2_with fail;go_roundw
  case rel=>exact⟨dB left (d,f),c++[((d,f),(n,o))],mM F.out _,H.out,C.out⟩
  rw[(In.rangeAt C.out.swap).count,(In.rangeAt u.out).count];exact E.out
end
section
open Rel
open Go.Conc Go.ConcN
open Go.ConcR (Payload WgAt)
open Go.RowKit
structure EW(w0:ar) (fv:aB) (nj k:Nat) (closed:Bool) (w:ar):Prop where
 old:∀b,b<w0.heap.size->w.heap[b]? =w0.heap[b]?
 size:w.heap.size=w0.heap.size+3
 cf:w.heap[w0.heap.size]? =af (.cells #[fv] 113)
 ch:∃s r tm,w.heap[w0.heap.size+1]? =af (.chan nj ((fL 0 k).map (λ(p:Nat)=>aD .i64 p)).toArray closed s r tm)
 cn:w.heap[w0.heap.size+2]? =af (.cells #[.chan (af (w0.heap.size+1))] 179)
 os:w.os=w0.os
 output:w.output=w0.output
def Ow{b B c}(f:b<=c)(g:c<B):∀e∈closeEvents c,ZU b B e:=by intro e d;simp only[closeEvents,List.mem_toArray,b8,List.not_mem_nil,or_false]at d;rcases d with rfl|rfl;exact⟨by simp,λx a=>by simp only[MemAct.ofEvent,MemAct.touch?,Option.some.injEq]at a;subst a;exact⟨c,rfl,f,g⟩⟩;exact⟨by simp,λx a=>by cases a⟩
def L9(w:ar)(a v):(w.setCell a v).os=w.os:=by unfold dJ;split<;>rfl
def Bz(w:ar)(a v):(w.setCell a v).output=w.output:=by unfold dJ;split<;>rfl
def JV(w a v)(b:Tape)(d):(dG w b d).setCell a v=dG (w.setCell a v) b d:=by unfold dJ dG;simp only
noncomputable def jR:Code:=f47.body.getD .skip
def K7:(Tryz.prog.info? 3).map (λi=>(i.zero,i.size,i.bytes))=af (af (.int .i64 0),1,8):=by kernel_rfl
abbrev uq(n nj:Int)(fv:aB)(N:Nat)(r s a b c d e f g h i j k l m o p q:aB):Array aB:=#[.int .i64 n,.int .i64 nj,fv,undef,undef,.pointer (af ⟨N,0,ah⟩),.pointer (af ⟨N+2,0,ah⟩),r,s,.int .i64 nj,a,b,c,d,e,f,g,h,i,j,k,l,m,o,p,q]
section
variable{c:h9} {Z:aB->ar->Prop} {Y X:List dj} {w0 w:ar} {n nj:Nat} {fv:aB}
noncomputable def oD:Code:=match jR with|.seq _ (.seq _ (.seq _ (.seq _ x)))=>x|_=>.skip
noncomputable def wN:Code:=match jR with|.seq _ (.seq _ (.seq (.seq _ (.block _ (.loop x))) _))=>x|_=>.skip
noncomputable def Bx:Code:=match jR with|.seq _ (.seq _ (.seq _ x))=>x|_=>.skip
def Rp(hnj:nj<9223372036854775807):∀m k w L N u j l o q t x y A B D E F H,k+m=nj->EW w0 fv nj k aq w->(∀w L j l o q t,EW w0 fv nj nj aq w->tF ai c Z w0.heap.size Y (G ((base 47).at ⟨uq n nj fv w0.heap.size L N u (.int .i64 nj) (.int .i64 nj) j l o q t x y A B D E F H,[]⟩ [.code Bx]) X) w)->tF ai c Z w0.heap.size Y (G ((base 47).at ⟨uq n nj fv w0.heap.size L N u (.int .i64 nj) (.int .i64 k) j l o q t x y A B D E F H,[]⟩ [.code wN,.inLoop wN,.inBlock 0,.code Bx]) X) w:=by
 intro m
 induction m with
 |zero=>
  intro k w L N u j l o q t x y A B D E F H V h K;obtain rfl:k=nj:=by omega
  simp only[wN,jR,f47,bT];refine nL ?_;refine jX ?_;simp only[aU,ax,aM,Nat.reduceAdd,bN,bB,ca];refine nc (.bool aq) rfl rfl (by simp[base]) (λw=>by go_simp) (λw=>by simp[go_sem, *]) ?_;walk_nrm;refine ry ?_;refine nL ?_;refine Rm rfl ?_;refine UT rfl ?_;exact K _ _ _ _ _ _ _ h
 |succ m ih=>
  intro k w L N u j l o q t x y A B D E F H V h K;have W:(k:Int)<nj:=by omega
  simp only[wN,jR,f47,bT];refine nL ?_;refine jX ?_;simp only[aU,ax,aM,Nat.reduceAdd,bN,bB,ca];refine nc (.bool ak) rfl rfl (by simp[base]) (λw=>by go_simp) (λw=>by simp[go_sem, *]) ?_;walk_nrm;refine ry ?_;refine nL ?_;refine Rn rfl ?_;refine UW ?_;refine nL ?_;refine H7 ?_;refine nL ?_;refine jX ?_;simp only[aU,ax,aM,Nat.reduceAdd,bN,bB,ca];refine nc (.int .i64 k) rfl rfl (by simp[base]) (λw=>by go_simp) (λw=>by simp[go_sem, *]) ?_;walk_nrm;refine nc (.int .i64 k) rfl rfl (by simp[base]) (λw=>by go_simp) (λw=>by simp[go_sem, *]) ?_;walk_nrm;refine ry ?_;refine jX ?_;simp only[aU,ax,aM,Nat.reduceAdd,bN,bB,ca];have M:∀I d,(dG w I d).cell? ⟨w0.heap.size+2,0,ah⟩=af (.chan (af (w0.heap.size+1))):=λI d=>by show w.cell? _=_;unfold da;simp only[h.cn];rfl
  have K3:=h.size;refine DV (.chan (af (w0.heap.size+1))) rfl rfl (by simp[base]) (w':=w) (λ_ _=>rfl) (ao _) (λI d=>by have M:=M I d;go_simp) (λI d e S=>by have M:=M I d;simp[go_sem, *]at S;subst S;exact zW (by simp) (by simp;omega)) ?_;walk_nrm;refine nc (.int .i64 k) rfl rfl (by simp[base]) (λw=>by go_simp) (λw=>by simp[go_sem, *]) ?_;walk_nrm;obtain⟨s,r,O,Q⟩:=h.ch;refine EY.send (C:=w0.heap.size+1) (v:=.int .i64 k) (z:=.tuple #[]) (blocking:=true) (shape:=.send) rfl (λI d=> ?_) (by omega) Q (by simp;omega) (ao _) ?_;refine(stepG_comm rfl rfl (by simp[base]) (cases:=#[scase (w0.heap.size+1) (.int .i64 k) (.tuple #[])]) (blocking:=true) (shape:=.send) (w':=dG w I d) ?_).trans ?_;simp[execOp,Act.eval,scase];congr 1;rw[finishComm_send];have J:∀(b:dj)(a:Act)(k:List Item)(g:Array Oper)(i:Nat)(f:List Nat),Go.Conc.served (G (b.at a (.inRegion g (i::f)::k)) X) undef=G (b.at (a.put ((g[i]?).bind (·.dst)) undef) (.inRegion g f::k)) X:=λb a k g i f=>by show({frame:=(b.at a (.inRegion g (i::f)::k)).finish undef,callers:=X,status:=.running,dying:=ah}:Goroutine)=_;rw[Frame.finish_at];rfl
  rw[J];have R:EW w0 fv nj (k+1) aq (w.setChan (w0.heap.size+1) nj (((fL 0 k).map (λ(p:Nat)=>aD .i64 p)).toArray.push (.int .i64 k)) aq (s+1) r O):=by
   have blk:∀b,b≠w0.heap.size+1->(w.setChan (w0.heap.size+1) nj (((fL 0 k).map (λ(p:Nat)=>aD .i64 p)).toArray.push (.int .i64 k)) aq (s+1) r O).heap[b]? =w.heap[b]?:=λb P=>by show(w.heap.setIfInBounds _ _)[b]? =_;rw[aH (Ne.symm P)]
   refine⟨λb P=>(blk b (by omega)).trans (h.old b P),by simpa[nW]using h.size,(blk _ (by omega)).trans h.cf,⟨s+1,r,O,?_⟩,(blk _ (by omega)).trans h.cn,h.os,h.output⟩;show(w.heap.setIfInBounds _ _)[w0.heap.size+1]? =_;rw[aQ (by omega),List.range'_concat];simp
  have T:=R.size;generalize w.setChan (w0.heap.size+1) nj (((fL 0 k).map (λ(p:Nat)=>aD .i64 p)).toArray.push (.int .i64 k)) aq (s+1) r O=U at *;rw[show w.heap.size=U.heap.size by omega];walk_nrm;refine ry ?_;refine KR ?_;refine jX ?_;simp only[aU,ax,aM,Nat.reduceAdd,bN,bB,ca];have Y0:IntKind.i64.wrap ((k:Int)+1)=((k+1:Nat):Int):=by rw[IntKind.wrap_i64];omega
  refine nc (.int .i64 ((k+1:Nat):Int)) rfl rfl (by simp[base]) (λw=>by go_simp) (λw=>by simp[go_sem, *]) ?_;walk_nrm;refine nc (.int .i64 ((k+1:Nat):Int)) rfl rfl (by simp[base]) (λw=>by go_simp) (λw=>by simp[go_sem, *]) ?_;walk_nrm;refine ry ?_;refine Oz ?_;exact ih (k+1) U _ _ _ _ _ _ _ _ _ _ _ _ _ _ _ _ (by omega) R K
def Rq{jf o}(V:nj<=1000)(U:fv=.func (.func jf) #[] o)(K:∀w N F v x y z A H,EW w0 fv nj nj ak w->tF ai c Z w0.heap.size Y (G ((base 47).at ⟨uq n nj fv w0.heap.size N undef F (.int .i64 nj) (.int .i64 nj) v x y z A H undef undef undef undef undef undef undef,[]⟩ [.code oD]) X) w):tF ai c Z w0.heap.size Y (G ((base 47).at ⟨#[.int .i64 n,.int .i64 nj,fv]++dE 23 undef,[]⟩ [.code jR]) X) w0:=by
 obtain⟨i0,t,_,_,u⟩:=info_parts K7;simp only[jR,f47,bT,ed,eh,e8,ez,de,eD];refine nL ?_;refine jX ?_;simp only[aU,ax,aM,Nat.reduceAdd,bN,bB,ca];refine DV (.pointer (af ⟨w0.heap.size,0,ah⟩)) (w':=w0.alloc (.cells #[fv] 113)) rfl rfl (by simp[base]) (λb f=>Below.heap_alloc w0 _ b f) (by simp) (λa d=> ?_) (λa d e j=> ?_) ?_;go_simp;exact⟨rfl,rfl⟩
 ·simp[go_sem, *]at j
 walk_nrm;have O:∀b,b<w0.heap.size->(w0.alloc (.cells #[fv] 113)).heap[b]? =w0.heap[b]?:=λb f=>Below.heap_alloc w0 _ b f
 have L:(w0.alloc (.cells #[fv] 113)).heap.size=w0.heap.size+1:=by simp
 have Q:(w0.alloc (.cells #[fv] 113)).heap[w0.heap.size]? =af (.cells #[fv] 113):=heap_alloc_new w0 _;have o1:(w0.alloc (.cells #[fv] 113)).os=w0.os/\(w0.alloc (.cells #[fv] 113)).output=w0.output:=⟨rfl,rfl⟩;generalize w0.alloc (.cells #[fv] 113)=h at *;refine ry ?_;refine nL ?_;refine jX ?_;simp only[aU,ax,aM,Nat.reduceAdd,bN,bB,ca];refine nc (.int .i64 nj) rfl rfl (by simp[base]) (λw=>by go_simp) (λw=>by simp[go_sem, *]) ?_;walk_nrm;refine DV (.chan (af (w0.heap.size+1))) (w':=h.alloc (.chan nj #[] aq 0 0 aq)) rfl rfl (by simp[base]) (λb f=>Below.heap_alloc h _ b (by omega)) (by simp) (λa d=> ?_) (λa d e j=> ?_) ?_;have W:=λw=>run_makeChan (P:=ai) (w:=w) underlying179 t .i64 nj (by omega) (by rw[u];omega)
 go_simp;exact⟨by show h.heap.size=_;omega,rfl⟩
 ·have W:=λw=>events_makeChan (P:=ai) (w:=w) underlying179 t .i64 nj (by omega) (by rw[u];omega) #[]
  simp[go_sem, *]at j
 walk_nrm;have I:∀b,b<w0.heap.size+1->(h.alloc (.chan nj #[] aq 0 0 aq)).heap[b]? =h.heap[b]?:=λb f=>Below.heap_alloc h _ b (by omega)
 have M:(h.alloc (.chan nj #[] aq 0 0 aq)).heap.size=w0.heap.size+2:=by simp[L]
 have R:(h.alloc (.chan nj #[] aq 0 0 aq)).heap[w0.heap.size+1]? =af (.chan nj #[] aq 0 0 aq):=by rw[<-L];exact heap_alloc_new h _
 have o2:(h.alloc (.chan nj #[] aq 0 0 aq)).os=w0.os/\(h.alloc (.chan nj #[] aq 0 0 aq)).output=w0.output:=o1;generalize h.alloc (.chan nj #[] aq 0 0 aq)=i at *;refine DV (.pointer (af ⟨w0.heap.size+2,0,ah⟩)) (w':=i.alloc (.cells #[.chan ah] 179)) rfl rfl (by simp[base]) (λb f=>Below.heap_alloc i _ b (by omega)) (by simp) (λa d=> ?_) (λa d e j=> ?_) ?_;go_simp;exact⟨by show i.heap.size=_;omega,rfl⟩
 ·simp[go_sem, *]at j
 walk_nrm;have D:∀b,b<w0.heap.size+2->(i.alloc (.cells #[.chan ah] 179)).heap[b]? =i.heap[b]?:=λb f=>Below.heap_alloc i _ b (by omega)
 have s3:(i.alloc (.cells #[.chan ah] 179)).heap.size=w0.heap.size+3:=by simp[M]
 have B:(i.alloc (.cells #[.chan ah] 179)).heap[w0.heap.size+2]? =af (.cells #[.chan ah] 179):=by rw[<-M];exact heap_alloc_new i _
 have J:(i.alloc (.cells #[.chan ah] 179)).os=w0.os/\(i.alloc (.cells #[.chan ah] 179)).output=w0.output:=o2;generalize i.alloc (.cells #[.chan ah] 179)=g at *;have m:∀a d,(dG g a d).cell? ⟨w0.heap.size+2,0,ah⟩=af (.chan ah):=λa d=>by show g.cell? _=_;unfold da;simp only[B];rfl
 have C:∀a d,(dG g a d).frozen? ⟨w0.heap.size+2,0,ah⟩=aq:=λa d=>by show g.frozen? _=_;unfold World.frozen?;simp only[B];rfl
 refine Ym (w':=g.setCell ⟨w0.heap.size+2,0,ah⟩ (.chan (af (w0.heap.size+1)))) rfl rfl (by simp[base]) (λb f=>Below.heap_setCell g _ _ b (by simp;omega)) (by simp) (λa d=> ?_) (λa d e j=> ?_) ?_;have m:=m a d;have C:=C a d;go_simp;exact JV _ _ _ _ _
 ·have m:=m a d;have C:=C a d;simp[go_sem, *]at j;subst j;exact zW (by simp) (by simp;omega)
 walk_nrm;have S:EW w0 fv nj 0 aq (g.setCell ⟨w0.heap.size+2,0,ah⟩ (.chan (af (w0.heap.size+1)))):=by
  have blk:∀b,b≠w0.heap.size+2->(g.setCell ⟨w0.heap.size+2,0,ah⟩ (.chan (af (w0.heap.size+1)))).heap[b]? =g.heap[b]?:=λb f=>Below.heap_setCell g _ _ b (by simp;omega)
  refine⟨λb f=> ?_,by simpa using s3,?_,⟨0,0,aq,?_⟩,?_,(L9 _ _ _).trans J.1,(Bz _ _ _).trans J.2⟩;rw[blk _ (by omega),D _ (by omega),I _ (by omega),O _ f];rw[blk _ (by omega),D _ (by omega),I _ (by omega),Q];rw[blk _ (by omega),D _ (by omega),R];rfl;rw[setCell_eq_setRow g (w0.heap.size+2) 0 #[.chan ah] 179 (0,0) _ B,setRow_heap g (w0.heap.size+2) _ _ 179 _ B];rfl
 generalize g.setCell ⟨w0.heap.size+2,0,ah⟩ (.chan (af (w0.heap.size+1)))=w4 at *;refine ry ?_;refine nL ?_;refine nL ?_;refine jX ?_;simp only[aU,ax,aM,Nat.reduceAdd,bN,bB,ca];refine nc (.int .i64 nj) rfl rfl (by simp[base]) (λw=>by go_simp) (λw=>by simp[go_sem, *]) ?_;walk_nrm;refine nc (.int .i64 0) rfl rfl (by simp[base]) (λw=>by go_simp) (λw=>by simp[go_sem, *]) ?_;walk_nrm;refine ry ?_;refine H7 ?_;refine UU ?_;refine Rp (by omega) nj 0 w4 _ _ _ _ _ _ _ _ _ _ _ _ _ _ _ _ (by omega) S ?_;intro k N v x y z A l;simp only[Bx,jR,f47,bT];refine nL ?_;refine jX ?_;simp only[aU,ax,aM,Nat.reduceAdd,bN,bB,ca];have q:∀a d,(dG k a d).cell? ⟨w0.heap.size+2,0,ah⟩=af (.chan (af (w0.heap.size+1))):=λa d=>by show k.cell? _=_;unfold da;simp only[l.cn];rfl
 have s5:=l.size;refine DV (.chan (af (w0.heap.size+1))) rfl rfl (by simp[base]) (w':=k) (λ_ _=>rfl) (ao _) (λa d=>by have m:=q a d;go_simp) (λa d e j=>by have m:=q a d;simp[go_sem, *]at j;subst j;exact zW (by simp) (by simp;omega)) ?_;walk_nrm;obtain⟨s,r,tm,E⟩:=l.ch;refine EY.step (w':=k.setChan (w0.heap.size+1) nj ((fL 0 nj).map (λ(p:Nat)=>aD .i64 p)).toArray ak s r tm) rfl (λa d=>⟨_,stepG_close rfl rfl (by simp[base]) rfl (cap:=nj) (s:=s) (r:=r) (tm:=tm) (buf:=((fL 0 nj).map (λ(p:Nat)=>aD .i64 p)).toArray) rfl (by exact E) (by kernel_rfl),Ow (by omega) (by simp[nW];omega)⟩) ?_ ?_ (by simp[nW]) (ao _) ?_;intro b f;show(k.heap.setIfInBounds _ _)[b]? =_;rw[aH (by omega)];simp[nW];have T:EW w0 fv nj nj ak (k.setChan (w0.heap.size+1) nj ((fL 0 nj).map (λ(p:Nat)=>aD .i64 p)).toArray ak s r tm):=by
  have blk:∀b,b≠w0.heap.size+1->(k.setChan (w0.heap.size+1) nj ((fL 0 nj).map (λ(p:Nat)=>aD .i64 p)).toArray ak s r tm).heap[b]? =k.heap[b]?:=λb f=>by show(k.heap.setIfInBounds _ _)[b]? =_;rw[aH (Ne.symm f)]
  refine⟨λb f=>(blk b (by omega)).trans (l.old b f),by simpa[nW]using l.size,(blk _ (by omega)).trans l.cf,⟨s,r,tm,?_⟩,(blk _ (by omega)).trans l.cn,l.os,l.output⟩;show(k.heap.setIfInBounds _ _)[w0.heap.size+1]? =_;rw[aQ (by omega)]
 generalize k.setChan (w0.heap.size+1) nj ((fL 0 nj).map (λ(p:Nat)=>aD .i64 p)).toArray ak s r tm=w6 at *;walk_nrm;refine ry ?_;exact K w6 _ _ _ _ _ _ _ _ T
end
end
section
open Rel
open Go.Conc Go.ConcN
open Go.Conc.Lib (doneFn)
open Go.ConcR (Payload WgAt)
open Go.ConcR.Gen (body_done)
instance abv:Payload:=⟨1⟩
structure WK(φ:Ph) (w0:ar) (b1 C:Nat) (fv:aB) (γ:Gh) (w:ar):Prop where
 o1:γ.own b1
 oC:γ.own C
 c1:w.cell? ⟨b1,0,ah⟩=af (.pointer (af ⟨φ.Wg,0,ah⟩))
 cC:w.heap[C]? =af (.cells #[fv] 1)
 rd:∀b,φ.mX b->w.heap[b]? =w0.heap[b]?
 pay:∀b,φ.CB b->ft w b=ft w0 b
 live:WgLive φ.ty φ.Wg w
 cb:∀r,γ.own r->¬φ.CB r/\¬φ.mX r/\r≠φ.Wg/\r<w.heap.size
 size:w0.heap.size<=w.heap.size
 Dg:∀i,γ.held i->φ.JP (λb=>γ.own b/\b≠C) i w
section
variable{Z:Ph} {Y w X:ar} {W C:Nat} {V:aB} {U:Gh}
def WK.rely(O:Z.Ok)(h:WK Z Y W C V U w)(r:Z.eT U w X):WK Z Y W C V U X:=⟨h.o1,h.oC,(db (r.own W h.o1)).trans h.c1,(r.own C h.oC).trans h.cC,λb e=>(r.rd b e).trans (h.rd b e),λb e=>(r.pay b e).trans (h.pay b e),r.live h.live,λx j=>let⟨a,b,d,c⟩:=h.cb x j;⟨a,b,d,Nat.lt_of_lt_of_le c r.size⟩,bD h.size r.size,λi f=>O.jp _ w X i (λb e=>r.own b e.1) (λa g=>r.cell i a f g) (h.Dg i f)⟩
def WK.aa6(h:WK Z Y W C V U w):PayAt C 1 w:=⟨_,h.cC,rfl⟩
def WK.has(h:WK Z Y W C V U w):Has C 0 V w:=by unfold Has da;rw[h.cC];rfl
def WK.close(h:WK Z Y W C V U w):WK Z Y W C V U.close w:=⟨h.o1,h.oC,h.c1,h.cC,h.rd,h.pay,h.live,h.cb,h.size,h.Dg⟩
noncomputable def M6(Z:Ph)(U:Gh):Nat:=by classical exact(bB Z.nj).countP (λp=>decide (¬U.held p))
def Lj{p}(hp:p<Z.nj)(d:¬U.held p){a}(h:∀i,a.held i↔(U.held i\/i=p)):M6 Z a<M6 Z U:=by
 classical
 unfold M6;refine xi (λx _ b=> ?_) ⟨p,eS.2 hp,?_,?_⟩;simp only[decide_eq_true_eq]at b|-;exact λc=>b ((h x).2 (.inl c))
 simpa using d;simpa using(h p).2 (.inr rfl)
def zB(Z:Ph)(Y:ar)(h:eu)(d:Array aB):Prop:=
 ∀(W C:Nat)(V:aB)(U:Gh)(w:ar)(p:Nat),WK Z Y W C V U w->p<Z.nj->¬U.held p->Z.J0 p w->
  ∃F x,Z.P.funcs[h]? =af F/\(F.name== "runtime.NumGoroutine")=aq/\F.body=af x/\
   ∀(b:dj)(a:Act)(k:List Item)(g:List dj)(f:Array Oper)(i:Nat)(e:List Nat),b.kind=.normal->
    (∀c w',WK Z Y W C V c w'->(∀q,c.held q↔(U.held q\/q=p))->c.over=U.over->Z.WT c (G (b.at (a.put ((f[i]?).bind (·.dst)) (.tuple #[])) (.inRegion f e::k)) g) w')->
    Z.WT (U.hold p) (G ((base h).at {tmps:=(#[Z.jv p]++d)++dE (F.ntmps-(#[Z.jv p]++d).size) undef,defers:=[]} [.code x]) (b.at a (.inRegion f (i::e)::k)::g)) w
end
noncomputable def FB:Code:=match f105.body with|some (.seq _ (.block _ (.loop x)))=>x|_=>.skip
def Mt{d}(O:d.Ok)(u:d.P=ai)(Q:d.z=.int .i64 0)(J:∀p,p<d.nj->∃n,d.jv p=.int .i64 n){w0 Y o E C fv D f}(N:d.mX o)(Z:w0.cell? ⟨o,0,ah⟩=af (.func (.func D) #[] f))(hJ:zB d w0 D f){b:dj}{a k P r i l}(K:∀j w',WK d w0 E C fv j w'->j.over->d.WT j (G (b.at (a.put ((r[i]?).bind (·.dst)) (.tuple #[])) (.inRegion r l::k)) P) w'):∀n s w R S T U V W X,M6 d s=n->WK d w0 E C fv s w->d.WT s (G ((base 105).at ⟨#[.pointer (af ⟨Y,0,ah⟩),.pointer (af ⟨o,0,ah⟩),R,.chan (af d.Ch),S,T,U,V,W,X],[]⟩ [.code FB,.inLoop FB,.inBlock 0]) (b.at a (.inRegion r (i::l)::k)::P)) w:=by
 intro n
 induction n using Nat.strongRecOn with
 |_ n ih=>
  intro s w R S T U V W X hn h;have y:d.P.funcs[105]? =af f105:=by rw[u];exact func105
  simp only[FB,f105];refine lh O ?_;refine gO O ?_;simp only[aU,ax,aM,Nat.reduceAdd,bN,bB,ca];refine WB rfl rfl (by simp[base]) rfl rfl (λw=> ?_) (λw=> ?_) (λg p M hp A I=> ?_) (λg M=> ?_);rw[u,Q];go_simp;rfl
  ·rw[u];simp[go_sem, *]
  ·have B:=h.rely O M;obtain⟨m,hm⟩:=J p hp;rw[hm];simp only[Act.put,az,a8,bh];refine kH O (.bool ak) rfl rfl (by simp[base]) (λw _=>by go_simp) (λw _=>by simp[go_sem, *]) ?_;walk_nrm;refine lN O ?_;refine lh O ?_;refine J5 O rfl ?_;refine GU O ?_;refine wV O ?_;refine lh O ?_;refine gO O ?_;simp only[aU,ax,aM,Nat.reduceAdd,bN,bB,ca];refine kH O (.int .i64 m) rfl rfl (by simp[base]) (λw _=>by go_simp) (λw _=>by simp[go_sem, *]) ?_;walk_nrm;refine kH O (.int .i64 m) rfl rfl (by simp[base]) (λw _=>by go_simp) (λw _=>by simp[go_sem, *]) ?_;walk_nrm;refine lN O ?_;refine gO O ?_;simp only[aU,ax,aM,Nat.reduceAdd,bN,bB,ca];have v:∀c,d.eT (s.hold p) g c->c.cell? ⟨o,0,ah⟩=af (.func (.func D) #[] f):=λc t=>(db ((t.rd o N).trans (B.rd o N))).trans Z
   refine pB O (.func (.func D) #[] f) (ad:=⟨o,0,ah⟩) rfl rfl (by simp[base]) (.inr N) (λc t=>by have v:=v c t;rw[u];go_simp) (λc t e H=>by have v:=v c t;rw[u]at H;simp[go_sem, *]at H;exact H) ?_;clear v;walk_nrm;refine kH O (.int .i64 m) rfl rfl (by simp[base]) (λw _=>by go_simp) (λw _=>by simp[go_sem, *]) ?_;walk_nrm;obtain⟨F,x,hF,q,hx,z⟩:=hJ E C fv s g p B hp A I;refine BS O rfl rfl (by simp[base]) rfl rfl hF q hx ?_;rw[hm]at z;walk_nrm;refine z _ _ _ _ _ _ _ rfl λj w' L hh hov=> ?_
   walk_nrm;refine lN O ?_;refine BU O ?_;refine E1 O ?_;exact ih _ (by have:=Lj hp A hh;omega) j w' _ _ _ _ _ _ _ rfl L
  have B:=(h.rely O M).close;rw[Q];simp only[Act.put,az,a8,bh];refine kH O (.bool aq) rfl rfl (by simp[base]) (λw _=>by go_simp) (λw _=>by simp[go_sem, *]) ?_;walk_nrm;refine lN O ?_;refine lh O ?_;refine BT O rfl ?_;refine NL O rfl ?_;refine GN O ?_;refine .leave0 O rfl rfl y rfl ?_;exact K _ _ B trivial
def ZJ{d}(O:d.Ok)(t:d.P=ai)(F:d.z=.int .i64 0)(v:∀p,p<d.nj->∃n,d.jv p=.int .i64 n){w0 j s y C fv A f}(x:d.mX j)(H:d.mX s)(D:w0.cell? ⟨j,0,ah⟩=af (.chan (af d.Ch)))(B:w0.cell? ⟨s,0,ah⟩=af (.func (.func A) #[] f))(E:zB d w0 A f){b:dj}{a k z l i g}(r w)(h:WK d w0 y C fv r w)(K:∀m w',WK d w0 y C fv m w'->m.over->d.WT m (G (b.at (a.put ((l[i]?).bind (·.dst)) (.tuple #[])) (.inRegion l g::k)) z) w'):d.WT r (G ((base 105).at ⟨#[.pointer (af ⟨j,0,ah⟩),.pointer (af ⟨s,0,ah⟩)]++dE 8 undef,[]⟩ [.code ((f105).body.getD .skip)]) (b.at a (.inRegion l (i::g)::k)::z)) w:=by
 simp only[f105,bT,ed,eh,e8,ez,de,eD];refine lh O ?_;refine gO O ?_;simp only[aU,ax,aM,Nat.reduceAdd,bN,bB,ca];have q:∀c,d.eT r w c->c.cell? ⟨j,0,ah⟩=af (.chan (af d.Ch)):=λc o=>(db ((o.rd j x).trans (h.rd j x))).trans D
 refine pB O (.chan (af d.Ch)) (ad:=⟨j,0,ah⟩) rfl rfl (by simp[base]) (.inr x) (λc o=>by have q:=q c o;rw[t];go_simp) (λc o e u=>by have q:=q c o;rw[t]at u;simp[go_sem, *]at u;exact u) ?_;clear q;walk_nrm;refine lN O ?_;refine wV O ?_;refine NM O ?_;exact Mt O t F v H B E K _ r w _ _ _ _ _ _ _ rfl h
def Rj(d w):Sem.events ai (Op.equalIn (d+1) 20 .nilIface .nilIface) w #[]=#[]:=by unfold Op.equalIn;simp[go_sem]
def PV(d w):Sem.run ai (Op.equalIn (d+1) 20 .nilIface .nilIface) w=.ok ak w:=by unfold Op.equalIn;simp[go_sem]
def Oy(w):Sem.events ai (binOp BinOp.neq 20 Value.nilIface Value.nilIface) w #[]=#[]:=by have h:binOp BinOp.neq 20 Value.nilIface Value.nilIface=(do pure (.bool (!(<-Op.equal 20 .nilIface .nilIface)))):=rfl;rw[h];unfold Op.equal;have e:Op.maxDepth=9999+1:=rfl;rw[e];have a:=Rj 9999 w;have b:=PV 9999 w;generalize Op.equalIn (9999+1) 20 .nilIface .nilIface=s at a b;simp[a,b]
def TI{b}(O:b.Ok)(d:b.P=ai)(u:b.ty=189)(B:b.z=.int .i64 0)(s:∀p,p<b.nj->∃n,b.jv p=.int .i64 n){w0 l k j C x caps}(E:b.mX l)(D:b.mX k)(z:w0.cell? ⟨l,0,ah⟩=af (.chan (af b.Ch)))(y:w0.cell? ⟨k,0,ah⟩=af (.func (.func x) #[] caps))(A:zB b w0 x caps){q w}(h:WK b w0 j C (.func (.func 105) #[] #[.pointer (af ⟨l,0,ah⟩),.pointer (af ⟨k,0,ah⟩)]) q w):b.WT q (born b.P (nQ 154 #[.pointer (af ⟨j,0,ah⟩),.pointer (af ⟨C,0,ah⟩)] #[])) w:=by
 have m:b.P.funcs[154]? =af f154:=by rw[d];exact func154
 have o:b.P.funcs[155]? =af f155:=by rw[d];exact func155
 have r:b.P.funcs[105]? =af f105:=by rw[d];exact func105
 have H:Go.Conc.Lib.WgLib b.P j9:=d▸TE;refine Wz O m rfl rfl ?_;walk_nrmf f154;refine lh O ?_;refine gO O ?_;simp only[aU,ax,aM,Nat.reduceAdd,bN,bB,ca];refine kH O (.func (.func 155) #[] #[.pointer (af ⟨j,0,ah⟩)]) rfl rfl (by simp[baseD]) (λw _=>by go_simp) (λw _=>by simp[go_sem, *]) ?_;walk_nrm;refine Qc O rfl rfl (by simp[baseD]) rfl rfl rfl ?_;walk_nrm;refine lN O ?_;refine gO O ?_;simp only[aU,ax,aM,Nat.reduceAdd,bN,bB,ca];have f:∀a,b.eT q w a->a.cell? ⟨C,0,ah⟩=af (.func (.func 105) #[] #[.pointer (af ⟨l,0,ah⟩),.pointer (af ⟨k,0,ah⟩)]):=λa c=>(h.rely O c).has
 refine pB O (.func (.func 105) #[] #[.pointer (af ⟨l,0,ah⟩),.pointer (af ⟨k,0,ah⟩)]) (ad:=⟨C,0,ah⟩) rfl rfl (by simp[baseD]) (.inl h.oC) (λa c=>by have f:=f a c;rw[d];go_simp) (λa c e i=>by have f:=f a c;rw[d]at i;simp[go_sem, *]at i;exact i) ?_;clear f;walk_nrm;refine BS O rfl rfl (by simp[baseD]) rfl rfl r rfl rfl ?_;walk_nrm;refine ZJ O d B s E D z y A q w h λv w' g t=> ?_
 walk_nrm;refine lN O ?_;refine GN O ?_;refine Mv O rfl o rfl rfl ?_;walk_nrmf f155;refine lh O ?_;refine lh O ?_;refine gO O ?_;simp only[aU,ax,aM,Nat.reduceAdd,bN,bB,ca];refine GQ O rfl rfl rfl rfl rfl rfl ?_;walk_nrm;refine kH O .nilIface rfl rfl (by simp[baseD]) (λw _=>by go_simp) (λw _=>by simp[go_sem, *]) ?_;walk_nrm;refine lN O ?_;refine lh O ?_;refine gO O ?_;simp only[aU,ax,aM,Nat.reduceAdd,bN,bB,ca];refine kH O .nilIface rfl rfl (by simp[baseD]) (λw _=>by go_simp) (λw _=>by simp[go_sem, *]) ?_;walk_nrm;refine kH O (.bool aq) rfl rfl (by simp[baseD]) (λw _=>by rw[d];go_simp) (λw _=>by rw[d];simp[go_sem, *];exact Oy w) ?_;walk_nrm;refine lN O ?_;refine BT O rfl ?_;refine GU O ?_;refine gO O ?_;simp only[aU,ax,aM,Nat.reduceAdd,bN,bB,ca];have f:∀a,b.eT v w' a->a.cell? ⟨j,0,ah⟩=af (.pointer (af ⟨b.Wg,0,ah⟩)):=λa c=>(g.rely O c).c1
 refine pB O (.pointer (af ⟨b.Wg,0,ah⟩)) (ad:=⟨j,0,ah⟩) rfl rfl (by simp[baseD]) (.inl g.o1) (λa c=>by have f:=f a c;rw[d];go_simp) (λa c e i=>by have f:=f a c;rw[d]at i;simp[go_sem, *]at i;exact i) ?_;clear f;walk_nrm;refine BS O (caps:=#[]) rfl rfl (by simp[baseD]) rfl rfl H.f_done (Go.ConcR.Gen.nm_done j9) rfl ?_;walk_nrmf doneFn;refine WA (L:=j9) H u t g.oC g.aa6 g.has g.live g.Dg (qt:=3+2) ?_;walk_nrm;refine QuitsD.ctl rfl (λ_=>stepG_region_end) ?_;refine QuitsD.ctl rfl (λ_=>stepG_end) ?_;refine QuitsD.leaveD rfl rfl o rfl rfl ?_;exact F4 rfl rfl m rfl
end
section
open Go.RowKit
def pL(x:Int×Int):List Int:=[x.1,x.2]
def pV(x:Int×Int):aB:=.agg (ints (pL x))
@[go_sem] theorem acG(a b):pV (a,b)=.agg #[.int .i64 a,.int .i64 b]:=rfl
abbrev bO(pb:Nat)(a:List (Int×(Int×Int))):cX:=r9 (aD .i64) pV mA pb a
def My(w):(zeroValue 132).run ai w=.ok (pV (0,0)) w:=by kernel_rfl
def vq(p sp tb pb:Nat)(a:List (Int×Bool))(T:WT):List cX:=[aN p 108 #[.pointer (af ⟨sp,0,ah⟩),.map (af tb),.map (af pb)],cy sp a,PtrMap tb (T.ks.map λK=>(K,T.pt K)),bO pb T.ps]++T.ks.map λK=>mx (T.pt K) K (T.rw K)
def dR(p:Nat)(c:List (Int×Bool))(f:BF):cX where
 at_ w F:=∃sp tb pb T,l3 T f/\Sep (vq p sp tb pb c T) w F
 frame h ho hd:=by obtain⟨sp,tb,pb,T,a,b⟩:=h;exact⟨sp,tb,pb,T,a,b.frame ho hd⟩
 cut h hd:=by obtain⟨sp,tb,pb,T,a,b⟩:=h;exact⟨sp,tb,pb,T,a,b.cut hd⟩
section
variable{G:Nat->Prop} {Z w w':ar} {l:List cX} {p Y X W:Nat} {V:List (Int×Bool)} {f:BF} {T:WT}
def In.aa5(h:In G Z (dR p V f::l) w):∃Y X W T,l3 T f/\In G Z (vq p Y X W V T++l) w:=by obtain⟨⟨j,m,⟨Y,X,W,T,d,i⟩,a,b,c⟩,g⟩:=h;exact⟨Y,X,W,T,d,(Sep.join i a b).cut λk _ e=>c k e,g⟩
def In.abg(i:l3 T f)(h:In G Z (vq p Y X W V T++l) w):In G Z (dR p V f::l) w:=by obtain⟨k,j⟩:=h;obtain⟨a,b,c,d,e,g⟩:=Sep.part k;exact⟨⟨a,b,⟨Y,X,W,T,i,c⟩,d,e,g⟩,j⟩
end
def dI(T:WT)(K:Int):cX:=mx (T.pt K) K (T.rw K)
def pz(p sp tb pb a T l):(vq p sp tb pb a T++l).Perm (aN p 108 #[.pointer (af ⟨sp,0,ah⟩),.map (af tb),.map (af pb)]::cy sp a::PtrMap tb (T.ks.map λK=>(K,T.pt K))::bO pb T.ps::(l++T.ks.map (dI T))):=by unfold vq;rw[b9];exact dM _ List.perm_append_comm
section
variable{G:Nat->Prop} {Z w w':ar} {l:List cX} {p sp tb pb:Nat} {Y:List (Int×Bool)} {f:BF} {T:WT}
def In.j1(h:In G Z (dR p Y f::l) w):∃sp tb pb T,l3 T f/\In G Z (aN p 108 #[.pointer (af ⟨sp,0,ah⟩),.map (af tb),.map (af pb)]::cy sp Y::PtrMap tb (T.ks.map λK=>(K,T.pt K))::bO pb T.ps::(l++T.ks.map (dI T))) w:=by obtain⟨sp,tb,pb,T,a,b⟩:=h.aa5;exact⟨sp,tb,pb,T,a,b.perm (pz p sp tb pb Y T l)⟩
def In.fT(a:l3 T f)(h:In G Z (aN p 108 #[.pointer (af ⟨sp,0,ah⟩),.map (af tb),.map (af pb)]::cy sp Y::PtrMap tb (T.ks.map λK=>(K,T.pt K))::bO pb T.ps::(l++T.ks.map (dI T))) w):In G Z (dR p Y f::l) w:=In.abg a (h.perm (pz p sp tb pb Y T l).symm)
def IQ{c:Type}:∀(L:List c) n b,(L[n]::L.eraseIdx n).Perm L|[],_,b=>by simp at b|a::L,0,_=>ot _|a::L,n+1,b=>(cz _ _ _).trans ((IQ L n (by simpa using b)).cons a)
def In.nth{L}(h:In G Z L w)(n a):In G Z (L[n]::L.eraseIdx n) w:=h.perm (IQ L n a).symm
def In.to4{A B C P}(h:In G Z (P::A::B::C::l) w):In G Z (A::B::C::P::l) w:=h.perm ((cz A P _).trans (((cz B P _).trans ((cz C P _).cons B)).cons A))
def In.to3{A B P}(h:In G Z (P::A::B::l) w):In G Z (A::B::P::l) w:=h.perm ((cz A P _).trans ((cz B P _).cons A))
def In.to5{A B C D P}(h:In G Z (P::A::B::C::D::l) w):In G Z (A::B::C::D::P::l) w:=h.perm ((cz A P _).trans (((cz B P _).trans (((cz C P _).trans ((cz D P _).cons C)).cons B)).cons A))
def In.reorder{M}(h:In G Z M w)(n)(c:List Nat)(b:c.isPerm (bB n)=ak)(d:n<=M.length):In G Z (c.map (λi=>M.getD i (aN 0 0 #[]))++M.drop n) w:=by
 refine h.perm ?_;have e:M=(bB n).map (λi=>M.getD i (aN 0 0 #[]))++M.drop n:=by
  conv=>lhs;rw[<-fZ n M]
  congr 1;apply kM;intro i;rw[gF,dX];by_cases a:i<n;rw[if_pos a,List.getElem?_range a,aj (by omega)];simp[a7,aj (show i<M.length by omega)];rw[if_neg a,List.getElem?_eq_none (by simp;omega)];rfl
 conv=>lhs;rw[e]
 exact List.Perm.append_right _ ((List.isPerm_iff.1 b).symm.map _)
def In.yy{X}(h:In G Z (X++T.ks.map (dI T)) w){K}(a:K∈T.ks):In G Z (mx (T.pt K) K (T.rw K)::(X++(T.ks.erase K).map (dI T))) w:=h.perm ((dM X ((List.perm_cons_erase a).map (dI T))).trans List.perm_middle)
def In.QP{X K rows a b}(g:T.ks.Nodup)(e:K∈T.ks)(h:In G Z (mx (T.pt K) K rows::(X++(T.ks.erase K).map (dI T))) w):In G Z (X++T.ks.map (dI ⟨a,T.pt,iG T.rw K rows,b⟩)) w:=by
 refine h.perm (List.Perm.symm ?_);refine(dM X ((List.perm_cons_erase e).map _)).trans ?_;rw[gg];have c:dI ⟨a,T.pt,iG T.rw K rows,b⟩ K=mx (T.pt K) K rows:=by unfold dI;simp only[gN]
 have d:(T.ks.erase K).map (dI ⟨a,T.pt,iG T.rw K rows,b⟩)=(T.ks.erase K).map (dI T):=by
  apply dF;intro j f;have:j≠K:=by rintro rfl;exact(List.Nodup.not_mem_erase g) f
  unfold dI;simp only[gw _ _ this]
 rw[c,d];exact List.perm_middle
def In.acn{X K q rows a}(d:K∉T.ks)(h:In G Z (mx q K rows::(X++T.ks.map (dI T))) w):In G Z (X++(T.ks++[K]).map (dI ⟨T.ks++[K],iG T.pt K q,iG T.rw K rows,a⟩)) w:=by
 refine h.perm ?_;rw[en];have b:[K].map (dI ⟨T.ks++[K],iG T.pt K q,iG T.rw K rows,a⟩)=[mx q K rows]:=by unfold dI;simp only[gg,List.map_nil,gN]
 have c:T.ks.map (dI ⟨T.ks++[K],iG T.pt K q,iG T.rw K rows,a⟩)=T.ks.map (dI T):=by
  apply dF;intro j f;have:j≠K:=λe=>d (by rw[<-e];exact f)
  unfold dI;simp only[gw _ _ this]
 rw[b,c,<-b9];exact(List.perm_append_singleton _ _).symm
def In.Yi{X K q rows a c d}(b:T.ks.Nodup)(h:In G Z (mx q K rows::(X++(T.ks.erase K).map (dI T))) w):In G Z (X++(T.ks.filter λk=> !decide (k=K)).map (dI ⟨c,T.pt,iG T.rw K a,d⟩)) w:=by
 have g:=h.drop;have e:(T.ks.filter λk=> !decide (k=K))=T.ks.erase K:=by rw[b.erase_eq_filter];apply List.filter_congr;intro x _;by_cases l:x=K<;>simp[l]
 have f:(T.ks.erase K).map (dI ⟨c,T.pt,iG T.rw K a,d⟩)=(T.ks.erase K).map (dI T):=by
  apply dF;intro j i;have:j≠K:=by rintro rfl;exact(List.Nodup.not_mem_erase b) i
  unfold dI;simp only[gw _ _ this]
 rw[e,f];exact g
end
def l3.qG{T f}(h:l3 T f){K}(d:K∈T.ks):(T.rw K).length<=60:=by
 have k:((T.rw K).map λr=>r.h.1).Nodup:=by
  refine IP λi j x p c o=> ?_
  rw[dX]at c o;obtain⟨r,l,rfl⟩:=aG.1 c;obtain⟨s,m,e⟩:=aG.1 o;obtain⟨_,a⟩:=h.at_ K d i r l;obtain⟨_,n⟩:=h.at_ K d j s m;rw[<-e,n]at a;injection a with a;injection a with _ a;omega
 have b:∀x∈(T.rw K).map (λr=>r.h.1),x∈(bB 60).map (λi:Nat=>(i:Int)):=by intro x q;obtain⟨r,l,rfl⟩:=aA.1 q;obtain⟨i,c,g⟩:=bR.1 l;obtain⟨a,_⟩:=h.at_ K d i r (by rw[aj c,g]);obtain⟨_,_,n,t⟩:=h.ok _ _ _ a;exact aA.2 ⟨r.h.1.toNat,eS.2 (by omega),by omega⟩
 have:=s9 k b;simpa using this
section
variable{G:Nat->Prop} {Z w:ar} {l:List cX} {p:Nat} {Y:List (Int×Bool)} {f:BF}
def In.slotsOf(h:In G Z (dR p Y f::l) w):∃sp F,(∀n:After w,n.w.cell? ⟨p,0,ah⟩=af (.pointer (af ⟨sp,0,ah⟩)))/\(∀n:After w,eG n.w sp Y F):=by obtain⟨sp,tb,pb,T,d,a⟩:=h.j1;obtain⟨b,c⟩:=a.swap.head;exact⟨sp,b,λn=>(a.blk.after n.below).cell 0,λn=>jA.after c n.below⟩
end
def kK{b}(h:bx b=0):0<=b.k/\b.k<=255:=(jQ b h).1
def J9(w):(zeroValue 134).run ai w=.ok (.pointer ah) w:=by kernel_rfl
def VH(T:WT):bI (T.ks.map λK=>(K,T.pt K))=T.ks:=by
 unfold bI;rw[List.map_map]
 conv=>rhs;rw[<-List.map_id T.ks]
 exact dF λ_ _=>rfl
def SK(T:WT)(K):eI (T.ks.map λK=>(K,T.pt K)) K=if K∈T.ks then af (T.pt K)else ah:=by
 split;rename_i h;unfold eI;have:∀(l:List Int),K∈l->(l.map λK=>(K,T.pt K)).find? (λp=>decide (p.1=K))=af (K,T.pt K):=by
  intro l
  induction l with|nil=>simp|cons a l b=>intro hm;rw[gg,List.find?_cons];by_cases e:a=K;simp[e];rw[decide_eq_false e];exact b (by rcases b8.1 hm with h|h;exact absurd h.symm e;exact h)
 rw[this _ h];rfl;rename_i h;rw[oi,VH];exact h
def Zj(T:WT)(K p)(h:K∉T.ks):jK (T.ks.map λK=>(K,T.pt K)) K p=(T.ks++[K]).map λk=>(k,iG T.pt K p k):=by unfold jK;rw[if_neg];rw[en];congr 1;apply dF;intro k a;rw[gw _ _ (λe=>h (by rw[<-e];exact a))];simp[gN];intro b;obtain⟨q,c,e⟩:=nS.1 b;obtain⟨k,a,rfl⟩:=aA.1 c;exact h (by simpa using(by simpa using e:k=K)▸a)
def Lh{G w0 w l p v f}(h:In G w0 (dR p v f::l) w)(s g b)(hf:f s=ah)(j:bx b=0/\b.v.length=8/\0<=s/\s<60):Calls ai 128 #[.pointer (af ⟨p,0,ah⟩),.agg #[.int .i64 s,.int .i64 g],.agg (ints b.list)] w λe w'=>e=.returned (.tuple #[])/\In G w0 (dR p v (dC f s (af (g,b)))::l) w':=by
 obtain⟨sp,tb,pb,T,hT,hI⟩:=h.j1;have hk:=kK j.1;have HT:=ae hT;have HF:=ae hf;have H:=ae j;have R:=ae hI;have HK:=ae hk;clear h hT hI hf j hk;have Y:b.list.length=9:=by unfold bw.list;rw[ax,H.out.2.1]
 go_enter func128,ntmps128;go_upto_region 1 with(fail)
 refine a6 (In G w0 (aN (w.heap.size+1) 48 (ints b.list)::aN w.heap.size 43 (ints [s,g])::aN p 108 #[.pointer (af ⟨sp,0,ah⟩),.map (af tb),.map (af pb)]::cy sp v::PtrMap tb (T.ks.map λK=>(K,T.pt K))::bO pb T.ps::(l++T.ks.map (dI T)))) (by have:=(R.out.alloc 43 (ints [s,g])).alloc 48 (ints b.list);rw[bZ]at this;exact this) ?_
 generalize w.heap.size+1=m;generalize w.heap.size=j;intro w1 B;have c1:∀n:After w1,n.w.cell? ⟨p,1,ah⟩=af (.map (af tb)):=λn=>(B.third.blk.after n.below).cell 1
 have c2:∀n:After w1,n.w.cell? ⟨m,0,ah⟩=af (.int .i64 b.k):=λn=>(B.blk.after n.below).cell 0
 have N:=(B.nth 4 (by simp)).iV;have c:∀n:After w1,(lC 105 (.map (af tb)) (.int .i64 b.k) ak).run ai n.w=.ok (if b.k∈T.ks then .tuple #[.pointer (af ⟨T.pt b.k,0,ah⟩),.bool ak]else .tuple #[.pointer ah,.bool aq]) n.w:=λn=>by rw[(N.after n.below).look sU underlying105 (J9 n.w) (x:=b.k) (jV (by have:=HK.out;omega)) ak,SK];by_cases e:b.k∈T.ks;rw[if_pos e,if_pos e];rfl;rw[if_neg e,if_neg e];rfl
 have I:=ae B;clear B R N;by_cases P:b.k∈T.ks
 ·rw[if_pos P]at c;have d:=ae P;clear P;refine bK (by kernel_rfl) (by kernel_rfl) ?_;repeat(go_big_quiet_step (fail))
  refine wpQuiet_nil ?_;rintro _ ⟨n,rfl⟩;have i:=I.out.below n.below;generalize n.w=w2 at *;have Z:row? w2 m 0 9=af (ints b.list):=i.blk.aL Y;have k2:row? w2 j 0 2=af (ints [s,g]):=i.swap.blk.aL rfl;have z:=ae i;clear i c1 c2 c I;have o:In G w0 (mx (T.pt b.k) b.k (T.rw b.k)::(aN m 48 (ints b.list)::aN j 43 (ints [s,g])::aN p 108 #[.pointer (af ⟨sp,0,ah⟩),.map (af tb),.map (af pb)]::cy sp v::PtrMap tb (T.ks.map λK=>(K,T.pt K))::bO pb T.ps::l++(T.ks.erase b.k).map (dI T))) w2:=In.yy (X:=aN m 48 (ints b.list)::aN j 43 (ints [s,g])::aN p 108 #[.pointer (af ⟨sp,0,ah⟩),.map (af tb),.map (af pb)]::cy sp v::PtrMap tb (T.ks.map λK=>(K,T.pt K))::bO pb T.ps::l) z.out d.out
  have y:Hid (ui b.k (T.rw b.k) ⟨(s,g),b⟩=(T.rw b.k++[⟨(s,g),b⟩],(((T.rw b.k).length:Nat):Int),0)):=by unfold Hid ui;rw[if_neg (by simpa using H.out.1),if_neg (by simp)]
  have aaO:=HT.out.qG d.out;have a:=ae (NB o s g b H.out.2.1 (by omega));rw[y.out]at a;clear o;go_wp2_with fail;refine a.out.mono ?_;rintro e F ⟨rfl,r⟩;have r:In G w0 (aN m 48 (ints b.list)::aN j 43 (ints [s,g])::aN p 108 #[.pointer (af ⟨sp,0,ah⟩),.map (af tb),.map (af pb)]::cy sp v::PtrMap tb (T.ks.map λK=>(K,T.pt K))::bO pb T.ps::(l++T.ks.map (dI ⟨T.ks,T.pt,iG T.rw b.k (T.rw b.k++[⟨(s,g),b⟩]),jK T.ps s (b.k,((T.rw b.k).length:Int))⟩))) F:=In.QP (X:=aN m 48 (ints b.list)::aN j 43 (ints [s,g])::aN p 108 #[.pointer (af ⟨sp,0,ah⟩),.map (af tb),.map (af pb)]::cy sp v::PtrMap tb (T.ks.map λK=>(K,T.pt K))::bO pb T.ps::l) HT.out.nd d.out r
  have A:=ae (HT.out.Vr (g:=g) HF.out H.out d.out);have q1:F.cell? ⟨p,2,ah⟩=af (.map (af pb)):=r.third.blk.cell 2;have q2:F.cell? ⟨j,0,ah⟩=af (.int .i64 s):=r.swap.blk.cell 0;have q3:F.cell? ⟨m,0,ah⟩=af (.int .i64 b.k):=r.blk.cell 0;have t:=ae r;clear r z a y Z k2;go_upto_region 6 with(fail)
  go_still_tail 10,(by kernel_rfl)
  change wpList _ _ _ _ _ F.drew;have u:=ae t.out.drew;clear t q1 q2 q3;generalize F.drew=w4 at *;have J:=ae (u.out.nth 5 (by simp)).iV;go_wp2_with (at_mapUpdate;go_loud (refine kW sU rfl _ _ _ 106 132 rfl underlying106 pb _ rfl J.out s rfl (jV (by have:=H.out.2.2;omega)) (b.k,((T.rw b.k).length:Int)) rfl ?_));intro w5 L M V;have D:In G w0 (bO pb (jK T.ps s (b.k,((T.rw b.k).length:Int)))::aN m 48 (ints b.list)::aN j 43 (ints [s,g])::aN p 108 #[.pointer (af ⟨sp,0,ah⟩),.map (af tb),.map (af pb)]::cy sp v::PtrMap tb (T.ks.map λK=>(K,T.pt K))::(l++T.ks.map (dI ⟨T.ks,T.pt,iG T.rw b.k (T.rw b.k++[⟨(s,g),b⟩]),jK T.ps s (b.k,((T.rw b.k).length:Int))⟩))) w5:=In.rF (u.out.nth 5 (by simp)) L M;clear L M V;have ME:=ae D.swap.drop.swap.drop.to4;clear D J u;go_wp2_with fail
  go_end0
  exact⟨rfl,In.fT A.out ME.out⟩
 ·rw[if_neg P]at c;have d:=ae P;clear P;refine bK (by kernel_rfl) (by kernel_rfl) ?_;repeat(go_big_quiet_step (fail))
  refine wpQuiet_nil ?_;rintro _ ⟨n,rfl⟩;have i:=I.out.below n.below;generalize n.w=w2 at *;have Z:w2.cell? ⟨m,0,ah⟩=af (.int .i64 b.k):=i.blk.cell 0;have z:=ae i;clear i c1 c2 c I;go_wp2_with fail;refine(Ws b.k HK.out z.out).mono ?_;rintro e F ⟨q,rfl,o⟩;have q1:F.cell? ⟨p,1,ah⟩=af (.map (af tb)):=o.fourth.blk.cell 1;have q2:F.cell? ⟨m,0,ah⟩=af (.int .i64 b.k):=o.swap.blk.cell 0;have S:=ae o;clear o z Z;go_upto_region 4 with(fail)
  go_still_tail 7,(by kernel_rfl)
  change wpList _ _ _ _ _ F.drew;have t:=ae S.out.drew;clear S q1 q2;generalize F.drew=w4 at *;have J:=ae (t.out.nth 5 (by simp)).iV;go_wp2_with (at_mapUpdate;go_loud (refine kW sU rfl _ _ _ 105 134 rfl underlying105 tb _ rfl J.out b.k rfl (jV (by have:=HK.out;omega)) q rfl ?_));intro w5 L M V;have C:In G w0 (PtrMap tb (jK (T.ks.map λK=>(K,T.pt K)) b.k q)::mx q b.k []::aN m 48 (ints b.list)::aN j 43 (ints [s,g])::aN p 108 #[.pointer (af ⟨sp,0,ah⟩),.map (af tb),.map (af pb)]::cy sp v::bO pb T.ps::(l++T.ks.map (dI T))) w5:=In.rF (t.out.nth 5 (by simp)) L M;rw[Zj T b.k q d.out]at C;have Z:row? w5 m 0 9=af (ints b.list):=C.third.blk.aL Y;have k2:row? w5 j 0 2=af (ints [s,g]):=C.fourth.blk.aL rfl;have u:=ae C.swap;clear C L M V J t;have y:Hid (ui b.k [] ⟨(s,g),b⟩=([⟨(s,g),b⟩],0,0)):=by unfold Hid ui;rw[if_neg (by simpa using H.out.1),if_neg (by simp)];rfl
  have a:=ae (NB u.out s g b H.out.2.1 (by simp));rw[y.out]at a;go_wp2_with fail;refine a.out.mono ?_;rintro e Q ⟨rfl,D⟩;have E:In G w0 (PtrMap tb ((T.ks++[b.k]).map λk=>(k,iG T.pt b.k q k))::aN m 48 (ints b.list)::aN j 43 (ints [s,g])::aN p 108 #[.pointer (af ⟨sp,0,ah⟩),.map (af tb),.map (af pb)]::cy sp v::bO pb T.ps::(l++(T.ks++[b.k]).map (dI ⟨T.ks++[b.k],iG T.pt b.k q,iG T.rw b.k [⟨(s,g),b⟩],jK T.ps s (b.k,0)⟩))) Q:=In.acn (X:=PtrMap tb ((T.ks++[b.k]).map λk=>(k,iG T.pt b.k q k))::aN m 48 (ints b.list)::aN j 43 (ints [s,g])::aN p 108 #[.pointer (af ⟨sp,0,ah⟩),.map (af tb),.map (af pb)]::cy sp v::bO pb T.ps::l) d.out D
  have A:=ae (HT.out.Vq (g:=g) HF.out H.out d.out q);have q1:Q.cell? ⟨p,2,ah⟩=af (.map (af pb)):=E.fourth.blk.cell 2;have q2:Q.cell? ⟨j,0,ah⟩=af (.int .i64 s):=E.third.blk.cell 0;have q3:Q.cell? ⟨m,0,ah⟩=af (.int .i64 b.k):=E.swap.blk.cell 0;have U:=ae E;clear E D u a y Z k2;go_upto_region 6 with(fail)
  go_still_tail 10,(by kernel_rfl)
  change wpList _ _ _ _ _ Q.drew;have O:=ae U.out.drew;clear U q1 q2 q3;generalize Q.drew=w7 at *;have J:=ae (O.out.nth 5 (by simp)).iV;go_wp2_with (at_mapUpdate;go_loud (refine kW sU rfl _ _ _ 106 132 rfl underlying106 pb _ rfl J.out s rfl (jV (by have:=H.out.2.2;omega)) (b.k,0) rfl ?_));intro w8 L M V;have W:In G w0 (bO pb (jK T.ps s (b.k,0))::PtrMap tb ((T.ks++[b.k]).map λk=>(k,iG T.pt b.k q k))::aN m 48 (ints b.list)::aN j 43 (ints [s,g])::aN p 108 #[.pointer (af ⟨sp,0,ah⟩),.map (af tb),.map (af pb)]::cy sp v::(l++(T.ks++[b.k]).map (dI ⟨T.ks++[b.k],iG T.pt b.k q,iG T.rw b.k [⟨(s,g),b⟩],jK T.ps s (b.k,0)⟩))) w8:=In.rF (O.out.nth 5 (by simp)) L M;clear L M V;have Dz:Hid (In G w0 (aN p 108 #[.pointer (af ⟨sp,0,ah⟩),.map (af tb),.map (af pb)]::cy sp v::PtrMap tb ((T.ks++[b.k]).map λk=>(k,iG T.pt b.k q k))::bO pb (jK T.ps s (b.k,0))::(l++(T.ks++[b.k]).map (dI ⟨T.ks++[b.k],iG T.pt b.k q,iG T.rw b.k [⟨(s,g),b⟩],jK T.ps s (b.k,0)⟩))) w8):=W.swap.third.drop.third.drop.swap.to4.to3
  clear W J O;go_wp2_with fail
  go_end0
  exact⟨rfl,In.fT A.out Dz.out⟩
def l4(p sp:Nat)(c:List (Int×Bool))(f:BF):cX where
 at_ w F:=∃tb pb T,l3 T f/\Sep (vq p sp tb pb c T) w F
 frame h ho hd:=by obtain⟨tb,pb,T,a,b⟩:=h;exact⟨tb,pb,T,a,b.frame ho hd⟩
 cut h hd:=by obtain⟨tb,pb,T,a,b⟩:=h;exact⟨tb,pb,T,a,b.cut hd⟩
section
variable{G:Nat->Prop} {Z w w':ar} {l:List cX} {p Y X W:Nat} {V:List (Int×Bool)} {f:BF} {T:WT}
def In.oL(h:In G Z (l4 p Y V f::l) w):∃X W T,l3 T f/\In G Z (aN p 108 #[.pointer (af ⟨Y,0,ah⟩),.map (af X),.map (af W)]::cy Y V::PtrMap X (T.ks.map λK=>(K,T.pt K))::bO W T.ps::(l++T.ks.map (dI T))) w:=by obtain⟨⟨m,n,⟨X,W,T,e,j⟩,a,b,c⟩,i⟩:=h;have d:In G Z (vq p Y X W V T++l) w:=⟨(Sep.join j a b).cut λk _ g=>c k g,i⟩;exact⟨X,W,T,e,d.perm (pz p Y X W V T l)⟩
def In.vn(i:l3 T f)(h:In G Z (aN p 108 #[.pointer (af ⟨Y,0,ah⟩),.map (af X),.map (af W)]::cy Y V::PtrMap X (T.ks.map λK=>(K,T.pt K))::bO W T.ps::(l++T.ks.map (dI T))) w):In G Z (l4 p Y V f::l) w:=by have h:=h.perm (pz p Y X W V T l).symm;obtain⟨k,j⟩:=h;obtain⟨a,b,c,d,e,g⟩:=Sep.part k;exact⟨⟨a,b,⟨X,W,T,i,c⟩,d,e,g⟩,j⟩
def In.GK(h:In G Z (l4 p Y V f::l) w):In G Z (dR p V f::l) w:=by obtain⟨X,W,T,b,a⟩:=h.oL;exact In.fT b a
def In.TG(h:In G Z (dR p V f::l) w):∃Y,In G Z (l4 p Y V f::l) w:=by obtain⟨Y,X,W,T,b,a⟩:=h.j1;exact⟨Y,In.vn b a⟩
end
def oe{w b o n x xs}(h:row? w b o n=af (ints (x::xs))):w.cell? ⟨b,o,ah⟩=af (.int .i64 x):=by
 unfold row? at h;split at h;rename_i c t d e;split at h;rename_i f;injection h with h;have a:(c.extract o (o+n))[0]? =af (.int .i64 x):=by rw[h];rfl
 rw[cell_of_row w b o c t d e];rw[Array.getElem?_extract]at a;split at a;simpa using a;cases a;cases h;cases h
def we{w w' tb}{T:WT}(h:eE (aD .i64) td mA w tb (T.ks.map λK=>(K,T.pt K))){K}(a:K∈T.ks)(c:0<=K/\K<=255)(b:Below w.heap.size w w'):(lC 105 (.map (af tb)) (.int .i64 K) aq).run ai w'=.ok (.pointer (af ⟨T.pt K,0,ah⟩)) w':=by rw[(h.after b).look sU underlying105 (J9 w') (x:=K) (jV (by omega)) aq,SK,if_pos a];rfl
def oJ{w w' pb a}(h:eE (aD .i64) pV mA w pb a){s K i}(c:0<=s/\s<60)(hm:eI a s=af (K,i))(b:Below w.heap.size w w'):(lC 106 (.map (af pb)) (.int .i64 s) aq).run ai w'=.ok (.agg #[.int .i64 K,.int .i64 i]) w':=by rw[(h.after b).look sU underlying106 (My w') (x:=s) (jV (by omega)) aq,hm];rfl
def wQ{G w0 w l p K rows}(h:In G w0 (mx p K rows::l) w):(0<=K/\K<=255)/\∀r∈rows,r.b.k=K:=by obtain⟨b,a,_⟩:=h.FP;exact⟨a,λr c=>(b r c).1⟩
def FA{G w0 w l p j f}(h:In G w0 (dR p j f::l) w)(s g b)(hf:f s=af (g,b)):Calls ai 135 #[.pointer (af ⟨p,0,ah⟩),.agg #[.int .i64 s,.int .i64 g]] w λe w'=>e=.returned (.agg (ints b.list))/\In G w0 (dR p j (dC f s ah)::l) w':=by
 obtain⟨sp,tb,pb,T,hT,hI⟩:=h.j1;obtain⟨YE,sQ,M1⟩:=hT.ok s g b hf;obtain⟨K,hK,i,hi⟩:=hT.all s g b hf;have Kj:eI T.ps s=af (K,(i:Int)):=(hT.at_ K hK i _ hi).2;have hil:=(bg.1 hi).1;have W5:=(wQ (In.yy (X:=aN p 108 #[.pointer (af ⟨sp,0,ah⟩),.map (af tb),.map (af pb)]::cy sp j::PtrMap tb (T.ks.map λK=>(K,T.pt K))::bO pb T.ps::l) hI hK)).1;have HT:=ae hT;have XU:=ae (hT.R8 hK hi);have HK:=ae hK;have HKK:=ae W5;have HPL:=ae Kj;have Dy:=ae hI;have HS:=ae M1;have aaO:=hT.qG hK;have Ki:b.list.length=9:=by unfold bw.list;rw[ax,sQ]
 have HRM:Hid (lB (T.rw K) (i:Int)=(cutAt aE (T.rw K) i,⟨(s,g),b⟩,0)):=by unfold Hid lB la;have C:decide (0<=(i:Int))=ak:=decide_eq_true (by omega);have E:decide ((i:Int)<((T.rw K).length:Nat))=ak:=decide_eq_true (by omega);rw[C,E,bP,a7,hi];rfl
 have HCL:=ae (tJ aE (T.rw K) i);have HIL:=ae hil;clear h hT hI hf YE sQ M1 hK hi Kj hil W5;go_enter func135,ntmps135;go_upto_region 1 with(fail)
 refine a6 (In G w0 (aN (w.heap.size+1) 48 (ints [0,0,0,0,0,0,0,0,0])::aN w.heap.size 43 (ints [s,g])::aN p 108 #[.pointer (af ⟨sp,0,ah⟩),.map (af tb),.map (af pb)]::cy sp j::PtrMap tb (T.ks.map λK=>(K,T.pt K))::bO pb T.ps::(l++T.ks.map (dI T)))) (by have:=(Dy.out.alloc 43 (ints [s,g])).alloc 48 (ints [0,0,0,0,0,0,0,0,0]);rw[bZ]at this;exact this) ?_
 generalize w.heap.size+1=q;generalize w.heap.size=m;intro F x;have hba:=(Below.refl F.heap.size F).alloc (ao _) (.cells #[.int .i64 0,.int .i64 0] 132);have t:=(x.nth 5 (by simp)).iV;have k0:F.cell? ⟨p,2,ah⟩=af (.map (af pb)):=x.third.blk.cell 2;have k1:F.cell? ⟨m,0,ah⟩=af (.int .i64 s):=x.swap.blk.cell 0;have k2:(F.alloc (.cells #[.int .i64 0,.int .i64 0] 132)).cell? ⟨p,2,ah⟩=af (.map (af pb)):=(x.third.blk.after hba).cell 2;have k3:(F.alloc (.cells #[.int .i64 0,.int .i64 0] 132)).cell? ⟨m,0,ah⟩=af (.int .i64 s):=(x.swap.blk.after hba).cell 0;have T3:=oJ t HS.out HPL.out (Below.refl _ _).drew;have hl2:=oJ t HS.out HPL.out (((Below.refl _ F).alloc (ao _) (.cells #[.int .i64 0,.int .i64 0] 132)).drew);have J:Hid (∀w2,w2=(putRow (F.alloc (.cells (ints [0,0]) 132)) F.heap.size 0 [K,(i:Int)]).drew->In G w0 (aN F.heap.size 132 (ints [K,(i:Int)])::aN q 48 (ints [0,0,0,0,0,0,0,0,0])::aN m 43 (ints [s,g])::aN p 108 #[.pointer (af ⟨sp,0,ah⟩),.map (af tb),.map (af pb)]::cy sp j::PtrMap tb (T.ks.map λK=>(K,T.pt K))::bO pb T.ps::(l++T.ks.map (dI T))) w2):=λw2 e=>by rw[e];exact(x.struct 132 [0,0] [K,(i:Int)] rfl).drew
 clear x t hba Dy
 go_region
 all_goals
  go_upto_region 2 with(fail)
  refine a6 (In G w0 (aN F.heap.size 132 (ints [K,(i:Int)])::aN q 48 (ints [0,0,0,0,0,0,0,0,0])::aN m 43 (ints [s,g])::aN p 108 #[.pointer (af ⟨sp,0,ah⟩),.map (af tb),.map (af pb)]::cy sp j::PtrMap tb (T.ks.map λK=>(K,T.pt K))::bO pb T.ps::(l++T.ks.map (dI T)))) (J.out _ rfl) ?_;clear k0 k1 k2 k3 T3 hl2 J;generalize F.heap.size=o;intro w2 M;have c1:∀n:After w2,n.w.cell? ⟨p,1,ah⟩=af (.map (af tb)):=λn=>(M.fourth.blk.after n.below).cell 1
  have c2:∀n:After w2,n.w.cell? ⟨o,0,ah⟩=af (.int .i64 K):=λn=>(M.blk.after n.below).cell 0
  have t:=(M.nth 5 (by simp)).iV;have aaQ:∀n:After w2,(lC 105 (.map (af tb)) (.int .i64 K) aq).run ai n.w=.ok (.pointer (af ⟨T.pt K,0,ah⟩)) n.w:=λn=>we t HK.out HKK.out n.below
  have Kp:=ae M;clear M t;refine bK (by kernel_rfl) (by kernel_rfl) ?_;repeat(go_big_quiet_step (fail))
  refine wpQuiet_nil ?_;rintro _ ⟨n,rfl⟩;have Fw:=Kp.out.below n.below;generalize n.w=w3 at *;have q1:w3.cell? ⟨o,1,ah⟩=af (.int .i64 (i:Int)):=Fw.blk.cell 1;have GV:Hid (In G w0 (mx (T.pt K) K (T.rw K)::(aN p 108 #[.pointer (af ⟨sp,0,ah⟩),.map (af tb),.map (af pb)]::cy sp j::PtrMap tb (T.ks.map λK=>(K,T.pt K))::bO pb T.ps::aN o 132 (ints [K,(i:Int)])::aN q 48 (ints [0,0,0,0,0,0,0,0,0])::aN m 43 (ints [s,g])::l++(T.ks.erase K).map (dI T))) w3):=In.yy (X:=aN p 108 #[.pointer (af ⟨sp,0,ah⟩),.map (af tb),.map (af pb)]::cy sp j::PtrMap tb (T.ks.map λK=>(K,T.pt K))::bO pb T.ps::aN o 132 (ints [K,(i:Int)])::aN q 48 (ints [0,0,0,0,0,0,0,0,0])::aN m 43 (ints [s,g])::l) (Fw.reorder 7 [3,4,5,6,0,1,2] rfl (by simp)) HK.out
  clear Fw c1 c2 aaQ Kp;have HR:=ae (Ml GV.out (i:Int) (by omega));rw[HRM.out,show cQ.list ⟨(s,g),b⟩=s::g::b.list from rfl]at HR;have Vh:(s::g::b.list).length=11:=by simp only[ax];omega
  go_wp2_with fail;refine HR.out.mono ?_;rintro e w4 ⟨rfl,ze⟩;have Ke:=ae ze;clear ze HR GV q1;go_upto_region 4 with(fail)
  refine a6 (In G w0 (aN w4.heap.size 50 (ints (s::g::b.list))::mx (T.pt K) K (cutAt aE (T.rw K) i)::aN p 108 #[.pointer (af ⟨sp,0,ah⟩),.map (af tb),.map (af pb)]::cy sp j::PtrMap tb (T.ks.map λK=>(K,T.pt K))::bO pb T.ps::aN o 132 (ints [K,(i:Int)])::aN q 48 (ints [0,0,0,0,0,0,0,0,0])::aN m 43 (ints [s,g])::l++(T.ks.erase K).map (dI T))) (Ke.out.struct 50 [0,0,0,0,0,0,0,0,0,0,0] _ Vh) ?_;generalize w4.heap.size=a;intro w5 Qt;have acV:(cutAt aE (T.rw K) i).length<=60:=by have:=HCL.out;omega
  have HH:=ae (tt Qt.swap (by omega));have yL:=ae Qt.swap;clear Qt Ke;go_wp2_with fail;refine HH.out.mono ?_;rintro e R ⟨hv,rfl,ho,U9,N⟩;obtain⟨A6,c6,rfl,YG,T0,hA6⟩:=aP ho;have y:∀(c:i<(cutAt aE (T.rw K) i).length),∃g6,A6=af ⟨g6,0,ah⟩/\R.cell? ⟨g6,i *2,ah⟩=af (.int .i64 ((cutAt aE (T.rw K) i)[i]).h.1):=by intro c;obtain⟨g6,rfl⟩:=hA6 (by omega);refine⟨g6,rfl,?_⟩;have hr:=lA ho (k:=i) (by omega);rw[lz (f:=λr:cQ=>hC r.h) (size:=2) (λ_=>rfl) _ i c]at hr;exact oe (xs:=[((cutAt aE (T.rw K) i)[i]).h.2]) hr
  have P:=ae N;have q1:R.cell? ⟨o,1,ah⟩=af (.int .i64 (i:Int)):=(N.nth 6 (by simp)).blk.cell 1;have q2:R.cell? ⟨p,2,ah⟩=af (.map (af pb)):=N.third.blk.cell 2;have q3:row? R o 0 2=af (ints [K,(i:Int)]):=(N.nth 6 (by simp)).blk.aL rfl;have acE:(((cutAt aE (T.rw K) i).length:Nat):Int)<=60:=by omega
  clear ho U9 N HH yL YG T0 hA6;have B:Hid (gm T.ps (cutAt aE (T.rw K) i) K i=if c:i<(cutAt aE (T.rw K) i).length then jK T.ps ((cutAt aE (T.rw K) i)[i]).h.1 (K,(i:Int))else T.ps):=by unfold Hid gm;by_cases c:i<(cutAt aE (T.rw K) i).length;rw[if_pos c,dif_pos c,a7,aj c];rfl;rw[if_neg c,dif_neg c]
  by_cases c:i<(cutAt aE (T.rw K) i).length
  focus
   obtain⟨g6,rfl,q4⟩:=y c;rw[dif_pos c]at B;have Z:(i:Int)<(cutAt aE (T.rw K) i).length:=by omega
   have HS2:Hid (0<=((cutAt aE (T.rw K) i)[i]).h.1/\((cutAt aE (T.rw K) i)[i]).h.1<60):=by have C:=vH aE (T.rw K) i i HIL.out (by have:=HCL.out;omega);rw[if_pos rfl,aj c]at C;obtain⟨E,_⟩:=HT.out.at_ K HK.out ((T.rw K).length-1) _ C.symm;exact(HT.out.ok _ _ _ E).2.2
   generalize ((cutAt aE (T.rw K) i)[i]).h.1=s2 at *;go_upto_region 6 with(fail)
   go_still_tail 11,(by kernel_rfl)
   change wpList _ _ _ _ _ R.drew;have um:=ae P.out.drew;clear P q1 q2 q3 q4 Z y;generalize R.drew=w7 at *;have V:=ae (um.out.nth 5 (by simp)).iV;go_wp2_with (at_mapUpdate;go_loud (refine kW sU rfl _ _ _ 106 132 rfl underlying106 pb _ rfl V.out s2 rfl (jV (by have:=HS2.out;omega)) (K,(i:Int)) rfl ?_));intro w8 C E h3;have D:In G w0 (bO pb (jK T.ps s2 (K,(i:Int)))::mx (T.pt K) K (cutAt aE (T.rw K) i)::aN a 50 (ints (s::g::b.list))::aN p 108 #[.pointer (af ⟨sp,0,ah⟩),.map (af tb),.map (af pb)]::cy sp j::PtrMap tb (T.ks.map λK=>(K,T.pt K))::aN o 132 (ints [K,(i:Int)])::aN q 48 (ints [0,0,0,0,0,0,0,0,0])::aN m 43 (ints [s,g])::l++(T.ks.erase K).map (dI T)) w8:=In.rF (um.out.nth 5 (by simp)) C E;rw[<-B.out]at D;have Dz:Hid (In G w0 (mx (T.pt K) K (cutAt aE (T.rw K) i)::aN p 108 #[.pointer (af ⟨sp,0,ah⟩),.map (af tb),.map (af pb)]::cy sp j::PtrMap tb (T.ks.map λK=>(K,T.pt K))::bO pb (gm T.ps (cutAt aE (T.rw K) i) K i)::aN a 50 (ints (s::g::b.list))::aN o 132 (ints [K,(i:Int)])::aN q 48 (ints [0,0,0,0,0,0,0,0,0])::aN m 43 (ints [s,g])::l++(T.ks.erase K).map (dI T)) w8):=D.reorder 6 [1,3,4,5,0,2] rfl (by simp);clear D C E h3 V um B HS2 c;go_upto_region 7 with(fail)
   generalize w8=w9 at *
  rotate_left
  focus
   rw[dif_neg c]at B;have Z:(((cutAt aE (T.rw K) i).length:Nat):Int)<=i:=by omega
   have D:In G w0 (mx (T.pt K) K (cutAt aE (T.rw K) i)::aN a 50 (ints (s::g::b.list))::aN p 108 #[.pointer (af ⟨sp,0,ah⟩),.map (af tb),.map (af pb)]::cy sp j::PtrMap tb (T.ks.map λK=>(K,T.pt K))::bO pb T.ps::aN o 132 (ints [K,(i:Int)])::aN q 48 (ints [0,0,0,0,0,0,0,0,0])::aN m 43 (ints [s,g])::l++(T.ks.erase K).map (dI T)) R:=P.out;have Dz:Hid (In G w0 (mx (T.pt K) K (cutAt aE (T.rw K) i)::aN p 108 #[.pointer (af ⟨sp,0,ah⟩),.map (af tb),.map (af pb)]::cy sp j::PtrMap tb (T.ks.map λK=>(K,T.pt K))::bO pb (gm T.ps (cutAt aE (T.rw K) i) K i)::aN a 50 (ints (s::g::b.list))::aN o 132 (ints [K,(i:Int)])::aN q 48 (ints [0,0,0,0,0,0,0,0,0])::aN m 43 (ints [s,g])::l++(T.ks.erase K).map (dI T)) R):=by rw[B.out];exact D.reorder 6 [0,2,3,4,5,1] rfl (by simp)
   go_upto_region 7 with(fail)
   clear q1 q2 q3 y D B P;generalize R=w9 at *
  all_goals
   have HH:=ae (tt Dz.out (by omega));go_wp2_with fail;refine HH.out.mono ?_;rintro e v ⟨hv,rfl,ho,abW,W⟩;obtain⟨A10,c10,rfl,_,_,_⟩:=aP ho;have z:=ae W;clear ho abW W HH Dz;have NY:Hid (∀GJ,In G w0 (aN p 108 #[.pointer (af ⟨sp,0,ah⟩),.map (af tb),.map (af pb)]::cy sp j::PtrMap tb ((if(cutAt aE (T.rw K) i).length=0 then T.ks.filter (λk=> !decide (k=K))else T.ks).map λK=>(K,T.pt K))::bO pb (gm T.ps (cutAt aE (T.rw K) i) K i)::aN a 50 (ints (s::g::b.list))::aN o 132 (ints [K,(i:Int)])::aN q 48 (ints [0,0,0,0,0,0,0,0,0])::aN m 43 (ints [s,g])::l++(if(cutAt aE (T.rw K) i).length=0 then T.ks.filter (λk=> !decide (k=K))else T.ks).map (dI ⟨(if(cutAt aE (T.rw K) i).length=0 then T.ks.filter (λk=> !decide (k=K))else T.ks),T.pt,iG T.rw K (cutAt aE (T.rw K) i),dB (gm T.ps (cutAt aE (T.rw K) i) K i) s⟩)) GJ->In G w0 (aN p 108 #[.pointer (af ⟨sp,0,ah⟩),.map (af tb),.map (af pb)]::cy sp j::PtrMap tb ((if(cutAt aE (T.rw K) i).length=0 then T.ks.filter (λk=> !decide (k=K))else T.ks).map λK=>(K,T.pt K))::bO pb (gm T.ps (cutAt aE (T.rw K) i) K i)::aN a 50 (ints (s::g::b.list))::aN o 132 (ints [K,(i:Int)])::aN q 48 (ints [0,0,0,0,0,0,0,0,0])::aN m 43 (ints [s,g])::(l++(if(cutAt aE (T.rw K) i).length=0 then T.ks.filter (λk=> !decide (k=K))else T.ks).map (dI ⟨(if(cutAt aE (T.rw K) i).length=0 then T.ks.filter (λk=> !decide (k=K))else T.ks),T.pt,iG T.rw K (cutAt aE (T.rw K) i),dB (gm T.ps (cutAt aE (T.rw K) i) K i) s⟩))) GJ):=λ_ h=>h
   by_cases h0:(cutAt aE (T.rw K) i).length=0
   focus
    have d:In G w0 (aN p 108 #[.pointer (af ⟨sp,0,ah⟩),.map (af tb),.map (af pb)]::cy sp j::PtrMap tb (T.ks.map λK=>(K,T.pt K))::bO pb (gm T.ps (cutAt aE (T.rw K) i) K i)::aN a 50 (ints (s::g::b.list))::aN o 132 (ints [K,(i:Int)])::aN q 48 (ints [0,0,0,0,0,0,0,0,0])::aN m 43 (ints [s,g])::(l++(T.ks.filter λk=> !decide (k=K)).map (dI ⟨(if(cutAt aE (T.rw K) i).length=0 then T.ks.filter (λk=> !decide (k=K))else T.ks),T.pt,iG T.rw K (cutAt aE (T.rw K) i),dB (gm T.ps (cutAt aE (T.rw K) i) K i) s⟩))) v:=In.Yi (X:=aN p 108 #[.pointer (af ⟨sp,0,ah⟩),.map (af tb),.map (af pb)]::cy sp j::PtrMap tb (T.ks.map λK=>(K,T.pt K))::bO pb (gm T.ps (cutAt aE (T.rw K) i) K i)::aN a 50 (ints (s::g::b.list))::aN o 132 (ints [K,(i:Int)])::aN q 48 (ints [0,0,0,0,0,0,0,0,0])::aN m 43 (ints [s,g])::l) HT.out.nd z.out
    have h00:(((cutAt aE (T.rw K) i).length:Nat):Int)=0:=by omega
    have q1:v.cell? ⟨p,1,ah⟩=af (.map (af tb)):=d.blk.cell 1;have q2:v.cell? ⟨o,0,ah⟩=af (.int .i64 K):=d.fifth.drop.fifth.blk.cell 0;have S:=ae d;clear d z;go_upto_region 8 with(fail)
    go_still_tail 6,(by kernel_rfl)
    change wpList _ _ _ _ _ v.drew;have H:=ae S.out.drew;clear S q1 q2 h00;generalize v.drew=GJ at *;have V:=ae (H.out.third).iV;go_wp2_with (at_delete;go_loud (refine tB sU rfl _ _ 105 134 rfl underlying105 tb _ rfl V.out K rfl (jV (by have:=HKK.out;omega)) ?_));intro w12 C E h3;have L:In G w0 (PtrMap tb (dB (T.ks.map λK=>(K,T.pt K)) K)::aN p 108 #[.pointer (af ⟨sp,0,ah⟩),.map (af tb),.map (af pb)]::cy sp j::bO pb (gm T.ps (cutAt aE (T.rw K) i) K i)::aN a 50 (ints (s::g::b.list))::aN o 132 (ints [K,(i:Int)])::aN q 48 (ints [0,0,0,0,0,0,0,0,0])::aN m 43 (ints [s,g])::(l++(T.ks.filter λk=> !decide (k=K)).map (dI ⟨(if(cutAt aE (T.rw K) i).length=0 then T.ks.filter (λk=> !decide (k=K))else T.ks),T.pt,iG T.rw K (cutAt aE (T.rw K) i),dB (gm T.ps (cutAt aE (T.rw K) i) K i) s⟩))) w12:=In.rF H.out.third C E;have hmd:dB (T.ks.map λK=>(K,T.pt K)) K=(T.ks.filter λk=> !decide (k=K)).map λK=>(K,T.pt K):=by unfold dB;rw[List.filter_map];rfl
    have u:Hid (In G w0 (aN p 108 #[.pointer (af ⟨sp,0,ah⟩),.map (af tb),.map (af pb)]::cy sp j::PtrMap tb ((if(cutAt aE (T.rw K) i).length=0 then T.ks.filter (λk=> !decide (k=K))else T.ks).map λK=>(K,T.pt K))::bO pb (gm T.ps (cutAt aE (T.rw K) i) K i)::aN a 50 (ints (s::g::b.list))::aN o 132 (ints [K,(i:Int)])::aN q 48 (ints [0,0,0,0,0,0,0,0,0])::aN m 43 (ints [s,g])::(l++(if(cutAt aE (T.rw K) i).length=0 then T.ks.filter (λk=> !decide (k=K))else T.ks).map (dI ⟨(if(cutAt aE (T.rw K) i).length=0 then T.ks.filter (λk=> !decide (k=K))else T.ks),T.pt,iG T.rw K (cutAt aE (T.rw K) i),dB (gm T.ps (cutAt aE (T.rw K) i) K i) s⟩))) w12):=by rw[if_pos h0];rw[if_pos h0,hmd]at L;exact L.to3
    clear L C E h3 V H hmd h0;go_upto_region 9 with(fail)
    generalize w12=O at *
   rotate_left
   focus
    have d:In G w0 (aN p 108 #[.pointer (af ⟨sp,0,ah⟩),.map (af tb),.map (af pb)]::cy sp j::PtrMap tb (T.ks.map λK=>(K,T.pt K))::bO pb (gm T.ps (cutAt aE (T.rw K) i) K i)::aN a 50 (ints (s::g::b.list))::aN o 132 (ints [K,(i:Int)])::aN q 48 (ints [0,0,0,0,0,0,0,0,0])::aN m 43 (ints [s,g])::(l++T.ks.map (dI ⟨(if(cutAt aE (T.rw K) i).length=0 then T.ks.filter (λk=> !decide (k=K))else T.ks),T.pt,iG T.rw K (cutAt aE (T.rw K) i),dB (gm T.ps (cutAt aE (T.rw K) i) K i) s⟩))) v:=In.QP (X:=aN p 108 #[.pointer (af ⟨sp,0,ah⟩),.map (af tb),.map (af pb)]::cy sp j::PtrMap tb (T.ks.map λK=>(K,T.pt K))::bO pb (gm T.ps (cutAt aE (T.rw K) i) K i)::aN a 50 (ints (s::g::b.list))::aN o 132 (ints [K,(i:Int)])::aN q 48 (ints [0,0,0,0,0,0,0,0,0])::aN m 43 (ints [s,g])::l) HT.out.nd HK.out z.out
    have h00:((((cutAt aE (T.rw K) i).length:Nat):Int)==0)=aq:=beq_eq_false_iff_ne.2 (by omega);have u:Hid (In G w0 (aN p 108 #[.pointer (af ⟨sp,0,ah⟩),.map (af tb),.map (af pb)]::cy sp j::PtrMap tb ((if(cutAt aE (T.rw K) i).length=0 then T.ks.filter (λk=> !decide (k=K))else T.ks).map λK=>(K,T.pt K))::bO pb (gm T.ps (cutAt aE (T.rw K) i) K i)::aN a 50 (ints (s::g::b.list))::aN o 132 (ints [K,(i:Int)])::aN q 48 (ints [0,0,0,0,0,0,0,0,0])::aN m 43 (ints [s,g])::(l++(if(cutAt aE (T.rw K) i).length=0 then T.ks.filter (λk=> !decide (k=K))else T.ks).map (dI ⟨(if(cutAt aE (T.rw K) i).length=0 then T.ks.filter (λk=> !decide (k=K))else T.ks),T.pt,iG T.rw K (cutAt aE (T.rw K) i),dB (gm T.ps (cutAt aE (T.rw K) i) K i) s⟩))) v):=by rw[if_neg h0];rw[if_neg h0]at d;exact d
    clear d z;go_upto_region 9 with(fail)
    clear h00 h0;generalize v=O at *
   all_goals
    have q1:O.cell? ⟨p,2,ah⟩=af (.map (af pb)):=u.out.blk.cell 2;have q2:O.cell? ⟨m,0,ah⟩=af (.int .i64 s):=(u.out.nth 7 (by simp)).blk.cell 0
    go_still_tail 6,(by kernel_rfl)
    change wpList _ _ _ _ _ O.drew;have I:=ae u.out.drew;clear u q1 q2;generalize O.drew=w14 at *;have V:=ae (I.out.fourth).iV;go_wp2_with (at_delete;go_loud (refine tB sU rfl _ _ 106 132 rfl underlying106 pb _ rfl V.out s rfl (jV (by have:=HS.out;omega)) ?_));intro Q C E h3;have Y:In G w0 (bO pb (dB (gm T.ps (cutAt aE (T.rw K) i) K i) s)::aN p 108 #[.pointer (af ⟨sp,0,ah⟩),.map (af tb),.map (af pb)]::cy sp j::PtrMap tb ((if(cutAt aE (T.rw K) i).length=0 then T.ks.filter (λk=> !decide (k=K))else T.ks).map λK=>(K,T.pt K))::aN a 50 (ints (s::g::b.list))::aN o 132 (ints [K,(i:Int)])::aN q 48 (ints [0,0,0,0,0,0,0,0,0])::aN m 43 (ints [s,g])::(l++(if(cutAt aE (T.rw K) i).length=0 then T.ks.filter (λk=> !decide (k=K))else T.ks).map (dI ⟨(if(cutAt aE (T.rw K) i).length=0 then T.ks.filter (λk=> !decide (k=K))else T.ks),T.pt,iG T.rw K (cutAt aE (T.rw K) i),dB (gm T.ps (cutAt aE (T.rw K) i) K i) s⟩))) Q:=In.rF I.out.fourth C E;have A:In G w0 (aN a 50 (ints (s::g::b.list))::aN o 132 (ints [K,(i:Int)])::aN q 48 (ints [0,0,0,0,0,0,0,0,0])::aN m 43 (ints [s,g])::aN p 108 #[.pointer (af ⟨sp,0,ah⟩),.map (af tb),.map (af pb)]::cy sp j::PtrMap tb ((if(cutAt aE (T.rw K) i).length=0 then T.ks.filter (λk=> !decide (k=K))else T.ks).map λK=>(K,T.pt K))::bO pb (dB (gm T.ps (cutAt aE (T.rw K) i) K i) s)::(l++(if(cutAt aE (T.rw K) i).length=0 then T.ks.filter (λk=> !decide (k=K))else T.ks).map (dI ⟨(if(cutAt aE (T.rw K) i).length=0 then T.ks.filter (λk=> !decide (k=K))else T.ks),T.pt,iG T.rw K (cutAt aE (T.rw K) i),dB (gm T.ps (cutAt aE (T.rw K) i) K i) s⟩))) Q:=Y.reorder 8 [4,5,6,7,1,2,3,0] rfl (by simp);have q3:row? Q a 2 9=af (ints b.list):=by rw[A.blk.dy 2 9 (by rw[Vh];omega)];simp only[List.drop_succ_cons,List.drop_zero];rw[List.take_of_length_le (by omega)]
    have q4:fits Q q 0 9=ak:=A.third.blk.fits 0 9 (by rw[aR];simp);have U:=ae (A.third.dY b.list (by rw[Ki];rfl));clear Y A C E h3 V I;go_wp2_with fail;refine kP rfl q 48 (ints b.list) _ rfl U.out.blk underlying48 rfl (by rw[aR,Ki];exact lI) rfl ?_;exact⟨rfl,In.fT XU.out U.out.drop.drop.drop.drop⟩
abbrev ptr(p:Nat):aB:=.pointer (af ⟨p,0,ah⟩)
abbrev vt(p b a:Nat):cX:=aN p 83 #[ptr b,ptr a]
def dn(p:Nat)(z:ZS):cX where
 at_ w F:=∃b a m,cY m=z.B/\Sep [vt p b a,dR b z.ls z.f,ja a m] w F
 frame h ho hd:=by obtain⟨b,a,m,c,d⟩:=h;exact⟨b,a,m,c,d.frame ho hd⟩
 cut h hd:=by obtain⟨b,a,m,c,d⟩:=h;exact⟨b,a,m,c,d.cut hd⟩
section
variable{G:Nat->Prop} {Z w:ar} {l:List cX} {p Y X:Nat} {m:lF} {z:ZS}
def In.kV(h:In G Z (dn p z::l) w):∃Y X m,cY m=z.B/\il m/\Alike m z.B/\In G Z (vt p Y X::dR Y z.ls z.f::ja X m::l) w:=by obtain⟨⟨j,n,⟨Y,X,m,hm,i⟩,c,d,e⟩,g⟩:=h;have a:In G Z (vt p Y X::dR Y z.ls z.f::ja X m::l) w:=⟨(Sep.join i c d).cut λk _ f=>e k f,g⟩;have b:=(a.nth 2 (by simp)).Rr;exact⟨Y,X,m,hm,b,by rw[<-hm];exact(sB b.nodup).symm,a⟩
def In.mh(hm:cY m=z.B)(h:In G Z (vt p Y X::dR Y z.ls z.f::ja X m::l) w):In G Z (dn p z::l) w:=by obtain⟨i,g⟩:=h;obtain⟨a,b,c,d,e,f⟩:=Sep.part (l1:=[vt p Y X,dR Y z.ls z.f,ja X m]) (l2:=l) i;exact⟨⟨a,b,⟨Y,X,m,hm,c⟩,d,e,f⟩,g⟩
end
section
variable{G:Nat->Prop} {Z w:ar} {l:List cX} {p:Nat} {Y:List (Int×Bool)} {f:BF}
def Ts(h:In G Z (cy p Y::l) w)(i:Y.length<=60):Calls ai 127 #[.pointer (af ⟨p,0,ah⟩)] w λe w'=>e=.returned (.tuple #[.agg (ints [(eb Y).2.1.1,(eb Y).2.1.2]),.int .i64 (eb Y).2.2])/\In G Z (cy p (eb Y).1::l) w':=by obtain⟨a,f,_,g⟩:=h.open_;exact(Tt p Y a w f i).mono λe w' ⟨b,c,d⟩=>⟨b,g (A':=cy p (eb Y).1) c d⟩
def Rw(h:In G Z (cy p Y::l) w)(k:Ko Y)(a b):Calls ai 177 #[.pointer (af ⟨p,0,ah⟩),.agg #[.int .i64 a,.int .i64 b]] w λe w'=>e=.returned (.int .i64 (eY Y a b).2)/\In G Z (cy p (eY Y a b).1::l) w':=by obtain⟨c,i,_,j⟩:=h.open_;exact(Rx p Y c a b w i k).mono λe w' ⟨d,f,g⟩=>⟨d,j (A':=cy p (eY Y a b).1) (f.mono λ_ _ m=>bq m) g⟩
def VC(h:In G Z l w):Calls ai 144 #[] w λe w'=>∃p,e=.returned (.pointer (af ⟨p,0,ah⟩))/\In G Z (cy p []::l) w':=(Nd w).mono λe w' ⟨b,c,d⟩=>⟨_,b,h.new (A:=cy w.heap.size []) d (c.mono λk _ a=>by rcases a with a|a;exact a.elim;exact a.1)⟩
def NK(h:In G Z l w):Calls ai 85 #[] w λe w'=>∃p,e=.returned (.pointer (af ⟨p,0,ah⟩))/\In G Z (dR p [] (λ_=>ah)::l) w':=by have H:=ae h;clear h;have j:= @run_makeMap ai;go_enter func85,ntmps85;go_wp2_with fail;refine(VC H.out).mono ?_;rintro e a ⟨sp,rfl,f⟩;have d:=f.FK (aD .i64) td mA;have b:=d.FK (aD .i64) pV mA;rw[bZ]at b;have c:=b.alloc 108 #[.pointer (af ⟨sp,0,ah⟩),.map (af a.heap.size),.map (af (a.heap.size+1))];simp only[bZ]at c;have g:=ae c;clear f d b c;go_wp2_with fail;go_ret;refine⟨a.heap.size+1+1,rfl,In.fT (sp:=sp) (tb:=a.heap.size) (pb:=a.heap.size+1) (T:=⟨[],λ_=>0,λ_=>[],[]⟩) l3.nil ?_⟩;have i:=g.out.reorder 4 [0,3,2,1] rfl (by simp);simp only[List.map_nil,List.append_nil];exact i
def Tj(h:In G Z (dR p Y f::l) w)(hk:lH Y f)(b)(U:b.v.length=8):Calls ai 64 #[.pointer (af ⟨p,0,ah⟩),.agg (ints b.list)] w λe w'=>e=.returned (.tuple #[.agg (ints [(dU Y f b).2.1.1,(dU Y f b).2.1.2]),.int .i64 (dU Y f b).2.2])/\In G Z (dR p (dU Y f b).1.1 (dU Y f b).1.2::l) w':=by
 have y:=ae h;have P:=ae hk;have H:b.list.length=9:=by unfold bw.list;rw[ax,U]
 have W:=ae U;clear h hk U;go_enter func64,ntmps64;go_upto_region 1 with(fail)
 refine a6 (In G Z (aN (w.heap.size+1) 43 (ints [0,0])::aN w.heap.size 48 (ints b.list)::dR p Y f::l)) (by have:=(y.out.alloc 48 (ints b.list)).alloc 43 (ints [0,0]);rw[bZ]at this;exact this) ?_
 generalize w.heap.size+1=i;generalize w.heap.size=u;intro w1 s;have k1:row? w1 u 0 9=af (ints b.list):=s.swap.blk.aL H;have z:=ae s;clear s y;go_wp2_with fail;refine(sH b W.out w1).mono ?_;rintro e w2 ⟨rfl,F⟩;have t:=z.out.below F;have R:fits w2 i 0 2=ak:=t.blk.fits 0 2 (by rw[aR];simp);have j:=ae t;clear t F z k1;by_cases v:bx b=0;rotate_left
 ·have C:Hid (dU Y f b=((Y,f),(0,0),bx b)):=by unfold Hid dU;rw[if_pos v]
  have Va:(bx b !=0)=ak:=by simpa using v
  generalize bx b=E at *;clear v;have d:=ae (j.out.dY [0,0] rfl);clear j;go_wp2_with fail;refine aZ rfl i 43 (ints [0,0]) (.int .i64 E) _ rfl rfl d.out.blk underlying43 rfl (by rw[aR];exact bW) rfl ?_;rw[C.out];exact⟨rfl,d.out.drop.drop⟩
 have N:=ae v;rw[v];clear v R;obtain⟨sp,tb,pb,T,X,S⟩:=j.out.third.j1;have M:w2.cell? ⟨p,0,ah⟩=af (.pointer (af ⟨sp,0,ah⟩)):=S.blk.cell 0;have V:=ae X;have d:=ae S.swap;clear S X j;go_wp2_with fail;refine(Ts d.out P.out.so.1).mono ?_;rintro e J ⟨rfl,D⟩;have c:Hid (In G Z (dR p (eb Y).1 f::aN i 43 (ints [0,0])::aN u 48 (ints b.list)::l) J):=In.fT (l:=aN i 43 (ints [0,0])::aN u 48 (ints b.list)::l) V.out D.swap;clear D d M V;rcases qK P.out.so.1 with o|⟨k,m,I,o,r,g,_⟩
 ·have C:Hid (dU Y f b=((Y,f),(0,0),2)):=by unfold Hid dU;rw[if_neg (λh=>h N.out),o,if_neg (by simp)]
  rw[o]at c;rw[o];simp only at c|-;clear o;go_upto_region 5 with(fail)
  refine a6 (In G Z (aN J.heap.size 43 (ints [0,0])::dR p Y f::aN i 43 (ints [0,0])::aN u 48 (ints b.list)::l)) (c.out.struct 43 [0,0] [0,0] rfl) ?_;generalize J.heap.size=L;intro K a;have M:row? K L 0 2=af (ints [0,0]):=a.blk.aL rfl;have R:fits K i 0 2=ak:=a.third.blk.fits 0 2 (by rw[aR];simp);have A:=ae (a.third.dY [0,0] rfl);clear a c;go_wp2_with fail;refine aZ rfl i 43 (ints [0,0]) (.int .i64 2) _ rfl rfl A.out.blk underlying43 rfl (by rw[aR];exact bW) rfl ?_;rw[C.out];exact⟨rfl,A.out.drop.drop.swap.drop⟩
 ·have C:Hid (dU Y f b=((I,dC f (k:Int) (af (m,b))),((k:Int),m),0)):=by unfold Hid dU;rw[if_neg (λh=>h N.out),o,if_pos rfl]
  have O:Hid (f (k:Int)=ah):=by
   cases hf:f (k:Int)with|none=>rfl|some x=>have:=(P.out.lv (k:Int) x.1).2 ⟨x.2,hf⟩;rw[g]at this;cases this
  have Q:=ae r;rw[o]at c;rw[o];simp only at c|-;clear o g r;go_upto_region 5 with(fail)
  refine a6 (In G Z (aN J.heap.size 43 (ints [(k:Int),m])::dR p I f::aN i 43 (ints [0,0])::aN u 48 (ints b.list)::l)) (c.out.struct 43 [0,0] [(k:Int),m] rfl) ?_;generalize J.heap.size=L;intro K a;have M:row? K L 0 2=af (ints [(k:Int),m]):=a.blk.aL rfl;have q2:row? K u 0 9=af (ints b.list):=a.fourth.blk.aL H;have q:=ae (Lh a.swap (k:Int) m b O.out ⟨N.out,W.out,by omega,by have:=Q.out;omega⟩);clear a c;go_wp2_with fail;refine q.out.mono ?_;rintro e w5 ⟨rfl,n⟩;have M:row? w5 L 0 2=af (ints [(k:Int),m]):=n.swap.blk.aL rfl;have R:fits w5 i 0 2=ak:=n.third.blk.fits 0 2 (by rw[aR];simp);have B:=ae (n.third.dY [(k:Int),m] rfl);clear n q q2;go_wp2_with fail;refine aZ rfl i 43 (ints [(k:Int),m]) (.int .i64 0) _ rfl rfl B.out.blk underlying43 rfl (by rw[aR];exact bW) rfl ?_;rw[C.out];exact⟨rfl,B.out.drop.swap.drop.swap.drop⟩
def Vp(h:In G Z (dR p Y f::l) w)(I:lH Y f)(s g):Calls ai 131 #[.pointer (af ⟨p,0,ah⟩),.agg #[.int .i64 s,.int .i64 g]] w λe w'=>e=.returned (.int .i64 (fu Y f (s,g)).2)/\In G Z (dR p (fu Y f (s,g)).1.1 (fu Y f (s,g)).1.2::l) w':=by
 have m:=ae h;have E:=ae I;clear h I;go_enter func131,ntmps131;go_upto_region 1 with(fail)
 refine a6 (In G Z (dR p Y f::aN w.heap.size 43 (ints [s,g])::l)) (m.out.alloc 43 (ints [s,g])).swap ?_;generalize w.heap.size=t;intro C c;obtain⟨sp,tb,pb,T,u,i⟩:=c.j1;obtain⟨K,H⟩:=i.swap.head;have L:∀n:After C,n.w.cell? ⟨p,0,ah⟩=af (.pointer (af ⟨sp,0,ah⟩)):=λn=>(i.blk.after n.below).cell 0
 have M:∀n:After C,row? n.w t 0 2=af (ints [s,g]):=λn=>(c.swap.blk.after n.below).aL rfl
 have q:Hid (∀n:After C,Calls ai 72 #[.pointer (af ⟨sp,0,ah⟩),.agg (ints [s,g])] n.w λe w'=>e=.returned (.bool (dt Y s g))/\Below n.w.heap.size n.w w'):=λn=>ql sp Y K s g n.w (jA.after H n.below)
 have d:=ae c;clear c i H u m;cases a:dt Y s g with
 |false=>
  have B:Hid (fu Y f (s,g)=((Y,f),7)):=by unfold Hid fu;rw[if_neg (by simp[a])]
  rw[a]at q;clear a;refine bK (by kernel_rfl) (by kernel_rfl) ?_;repeat(go_big_quiet_step ((go_at_call 72;exact eN (q.out _))))
  refine wpQuiet_nil ?_;rintro _ ⟨n,rfl⟩;have y:=ae (d.out.below n.below);go_wp2_with fail;go_ret;rw[B.out];exact⟨rfl,y.out.swap.drop⟩
 |true=>
  have A:=ae a;have B:Hid (fu Y f (s,g)=(((eY Y s g).1,dC f s ah),0)):=by unfold Hid fu;rw[if_pos a]
  have x:Hid ((eY Y s g).2=0):=by unfold Hid eY;rw[if_pos a]
  rw[a]at q;clear a;refine bK (by kernel_rfl) (by kernel_rfl) ?_;repeat(go_big_quiet_step ((go_at_call 72;exact eN (q.out _))))
  refine wpQuiet_nil ?_;rintro _ ⟨n,rfl⟩;have j:=d.out.below n.below;have J:row? n.w t 0 2=af (ints [s,g]):=j.swap.blk.aL rfl;have b:=ae (FA j s g (cI f s) (E.out.get A.out));clear j L M q d;generalize n.w=P at *;go_wp2_with fail;refine b.out.mono ?_;rintro e v ⟨rfl,k⟩;obtain⟨sp,tb,pb,T,u,i⟩:=k.j1;have J:row? v t 0 2=af (ints [s,g]):=k.swap.blk.aL rfl;have N:v.cell? ⟨p,0,ah⟩=af (.pointer (af ⟨sp,0,ah⟩)):=i.blk.cell 0;have F:=ae u;have D:=ae i;clear k i u b;go_upto_region 4 with(fail)
  go_still_tail 5,(by kernel_rfl)
  change wpList _ _ _ _ _ v.drew;have o:=ae D.out.drew.swap;clear D J N;generalize v.drew=Q at *;go_wp2_with fail;refine(Rw o.out E.out.so.abM s g).mono ?_;rintro e O ⟨rfl,r⟩;have z:Hid (In G Z (dR p (eY Y s g).1 (dC f s ah)::aN t 43 (ints [s,g])::l) O):=In.fT (l:=aN t 43 (ints [s,g])::l) F.out r.swap;rw[x.out];clear r o F;go_wp2_with fail;go_ret;rw[B.out];exact⟨rfl,z.out.swap.drop⟩
end
def gD(w:ar)(g o:Nat)(vs:List aB):ar:=
 {w with heap:=w.heap.modify g λ
    |.cells a e b=>.cells (a.toList.take o++vs++a.toList.drop (o+vs.length)).toArray e b|o=>o}
def uB(w g o a k)(h:k≠g):(gD w g o a).heap[k]? =w.heap[k]?:=by simp[gD,bp,Ne.symm h]
def F3(w g o a):(gD w g o a).heap.size=w.heap.size:=by simp[gD]
def cT.gD(w g o a):cT (· =g) w (Go.Proofs.YtknejlcijdngoaaGreat.gD w g o a):=⟨rfl,rfl,rfl,by rw[F3];exact ao _,λq _ b=>uB w g o a q b⟩
def di.LD{w g t b}(h:di w g t b)(a)(c:a.length=b.size):di (gD w g 0 a) g t a.toArray:=by unfold di at h|-;simp[gD,bp,h];omega
def In.LD{G w0 w l g t c}(h:In G w0 (aN g t c::l) w)(a)(i:a.length=c.size):In G w0 (aN g t a.toArray::l) (gD w g 0 a):=by obtain⟨j,⟨d,b⟩,m,f⟩:=h.open_;exact f (A':=aN g t _) ⟨d.LD a i,bq b⟩ ((cT.gD w g 0 a).mono λk _ e=>by rw[e];exact b)
def uE{P}(w f g o n a)(q:(P.info? f).map (·.size)=af n)(r:∀v∈a,v.oneCell'=ak):(dq f (.pointer (af ⟨g,o,ah⟩)) (.agg a.toArray)).run P w=if fits w g o n=ak/\a.length=n then .ok () (gD w g o a)else(ey f g o (.agg a.toArray)).run P w:=by
 split;rename_i h;obtain⟨d,t⟩:=h;unfold fits at d;split at d;rename_i m e p;have u:o+n<=m.size:=by simpa using d
 cases j:P.info? f with
 |none=>simp[j]at q|some i=>
  have x:i.size=n:=by simpa[j]using q
  have l:=run_storeCells_at P g o e a 0 m w p (by omega) r;have b:a.toArray.size=i.size:=by simp;omega
  have c:a.length=i.size:=by omega
  simp only[dq,fg,Instr.sureAddr,storeVar,Sem.run_bind,sizeOf,typeInfo,run_program,Result.andThen_ok,j,Sem.run_pure,Value.cells,b,ne_eq,not_true_eq_false,if_false,List.toList_toArray,l,aU,c];congr 1;unfold gD World.setRow;congr 1;apply Array.ext_getElem?;intro k;rw[bp,bp];split;rename_i s;subst s;rw[p];simp[c];rfl
 cases d;rfl
def yo{w g n vs}(h:fits w g 0 n=ak)(c:vs.length=n):fits (gD w g 0 vs) g 0 n=ak:=by unfold fits at *;split at h;rename_i b t a;simp only[decide_eq_true_eq]at h;simp[gD,bp,a];omega;cases h
def In.apart{G w0 w l a b t i x y}(h:In G w0 (aN a t x::aN b i y::l) w):a≠b:=by obtain⟨⟨j,k,c,⟨m,n,d,_,_,g⟩,f,_⟩,_⟩:=h;intro e;exact f a c.2 (g a (bq (by rw[e];exact d.2)))
def od{w g a o c x d}(b:g≠a)(h:w.cell? ⟨g,o,ah⟩=af x):(gD w a c d).cell? ⟨g,o,ah⟩=af x:=by unfold da at *;simp only[uB w a c d g b];exact h
def Kc:(Tryz.prog.info? 83).map (·.size)=af 2:=by kernel_rfl
@[go_sem ↓] theorem Zb(v):eo 83 v=fG 83 v:=rfl
@[go_sem ↓] theorem Xy(p v):fg 83 p v=dq 83 p v:=rfl
@[go_sem] theorem V8(w:ar)(g o:Nat):(fG 83 (.pointer (af ⟨g,o,ah⟩))).run ai w=match row? w g o 2 with|some a=>.ok (.agg a) w|none=>(iX 83 ⟨g,o,ah⟩).run ai w:=fV w _ g o 2 _ underlying83 rfl Kc
@[go_sem] theorem Ug(w g o a b):(dq 83 (.pointer (af ⟨g,o,ah⟩)) (.agg #[ptr a,ptr b])).run ai w=if fits w g o 2=ak then .ok () (gD w g o [ptr a,ptr b])else(ey 83 g o (.agg #[ptr a,ptr b])).run ai w:=by have h:=uE w 83 g o 2 [ptr a,ptr b] Kc (by simp[fW]);simp only[ax,aM,Nat.reduceAdd,and_true]at h;exact h
def oV:(Tryz.prog.info? 36).map (·.size)=af 3:=by kernel_rfl
@[go_sem ↓] theorem Vv(v):eo 36 v=fG 36 v:=rfl
@[go_sem ↓] theorem Uk(p v):fg 36 p v=dq 36 p v:=rfl
@[go_sem] theorem Tc(w:ar)(g o:Nat):(fG 36 (.pointer (af ⟨g,o,ah⟩))).run ai w=match row? w g o 3 with|some a=>.ok (.agg a) w|none=>(iX 36 ⟨g,o,ah⟩).run ai w:=fV w _ g o 3 _ underlying36 rfl oV
@[go_sem] theorem Qw(w g o a b c i j k d e f):(dq 36 (.pointer (af ⟨g,o,ah⟩)) (.agg #[.slice a i d,.slice b j e,.slice c k f])).run ai w=if fits w g o 3=ak then .ok () (gD w g o [.slice a i d,.slice b j e,.slice c k f])else(ey 36 g o (.agg #[.slice a i d,.slice b j e,.slice c k f])).run ai w:=by have h:=uE w 36 g o 3 [.slice a i d,.slice b j e,.slice c k f] oV (by simp[fW]);simp only[ax,aM,Nat.reduceAdd,and_true]at h;exact h
structure abF(T:WT) (f:BF) (s g:Int) (K:Int) (i:Nat):Prop where
 mem:K∈T.ks
 at_:(T.rw K)[i]? =af ⟨(s,g),cI f s⟩
 place:eI T.ps s=af (K,(i:Int))
 slot:0<=s/\s<60
 len:(T.rw K).length<=60
 ok:bx (cI f s)=0/\(cI f s).v.length=8
def l3.aaZ{T f d}(h:l3 T f)(l:lH d f){s g}(m:dt d s g=ak):∃K i,abF T f s g K i:=by have b:=l.get m;obtain⟨e,j,k⟩:=h.ok s g _ b;obtain⟨K,a,i,c⟩:=h.all s g _ b;exact⟨K,i,a,c,(h.at_ K a i _ c).2,k,h.qG a,e,j⟩
def sF{w:ar}{b o v}(a)(h:w.cell? ⟨b,o,ah⟩=af v):(w.alloc a).cell? ⟨b,o,ah⟩=af v:=(((Below.refl w.heap.size w).alloc (ao _) a).cell (p:=⟨b,o,ah⟩) (World.block_lt_of_cell? _ _ h)).trans h
section
variable{G:Nat->Prop} {Z w:ar} {l:List cX} {p:Nat} {z:ZS}
def NT(h:In G Z l w):Calls ai 35 #[] w λe w'=>∃p,e=.returned (ptr p)/\In G Z (dn p si::l) w':=by have H:=ae h;clear h;go_enter func35,ntmps35;go_wp2_with fail;refine(NK H.out).mono ?_;rintro e i ⟨g,rfl,a⟩;have b:=ae a;clear a H;go_wp2_with fail;refine(MS b.out).mono ?_;rintro e f ⟨d,rfl,a⟩;have c:=ae (a.alloc 83 #[ptr g,ptr d]);clear a b;go_wp2_with fail;go_ret;exact⟨f.heap.size,rfl,In.mh (z:=si) (m:=[]) DG (c.out.perm ((cz _ _ _).cons _))⟩
def oI(z:ZS)(a:List Hd):Bool:=a.all λh=>z.live h
def Kb{L a}(h:In G Z (dn p z::e9 L a::l) w)(hl:a.length<=1099511627776):Calls ai 68 #[ptr p,L] w λe w'=>e=.returned (.int .i64 (if oI z a=ak then 0 else 7))/\In G Z (dn p z::e9 L a::l) w':=by
 obtain⟨A,c,rfl,W,X,_⟩:=mf h.swap.rowAt;have N:=ae h;clear h;obtain⟨D,H⟩:∃D:Int,Hid (D=if oI z a=ak then 0 else 7):=⟨_,rfl⟩;rw[<-H.out];go_enter func68,ntmps68;go_wp2_with fail;go_loopw [9] (λi w'=>∃k:Nat,k<=a.length/\i=.int .i64 k/\oI z (a.take k)=ak/\In G Z (dn p z::e9 (.slice A a.length c) a::l) w') (λi _=>a.length-(intOf i).toNat)
 case atStart=>exact⟨0,bH _,rfl,rfl,N.out⟩
 case round=>
  clear N;obtain⟨k,hk,rfl,d,v⟩:=hrel;by_cases r:k<a.length
  ·have rW:(k:Int)<a.length:=by omega
   obtain⟨A',c',R,_,Y,j⟩:=mf v.swap.rowAt;injection R with S T U;subst S;subst U;obtain⟨g,rfl,q1⟩:=j k r;have I:Hid (oI z (a.take (k+1))=z.live a[k]):=by unfold Hid oI at *;rw[aV r,List.all_append,d];simp
   have b:Hid (z.live a[k]=aq->oI z a=aq):=λJ=>by unfold oI;rw[List.all_eq_false];exact⟨_,aF r,by rw[J];simp⟩
   have P:(a.length:Int)<=c:=by omega
   have B:=ae v;clear j T v d;generalize a[k]=x at *;obtain⟨s,t⟩:=x;go_upto_region 4 with(fail)
   refine a6 (In G Z (aN wr.heap.size 43 (ints [s,t])::dn p z::e9 (.slice (af ⟨g,0,ah⟩) a.length c) a::l)) (B.out.struct 43 [0,0] [s,t] rfl) ?_;generalize wr.heap.size=Q;intro M f;have q2:∀n:After M,row? n.w Q 0 2=af (ints [s,t]):=λn=>(f.blk.after n.below).aL rfl
   obtain⟨wp,fp,m,hm,J,V,q⟩:=f.swap.kV;have q3:∀n:After M,n.w.cell? ⟨p,0,ah⟩=af (ptr wp):=λn=>(q.blk.after n.below).cell 0
   obtain⟨sp,F,q4,O⟩:=q.swap.slotsOf;have C:Hid (∀n:After M,Calls ai 72 #[.pointer (af ⟨sp,0,ah⟩),.agg (ints [s,t])] n.w λe w'=>e=.returned (.bool (z.live (s,t)))/\Below n.w.heap.size n.w w'):=λn=>ql sp z.ls F s t n.w (O n)
   have u:=ae f;clear f q hm J V O B q1;cases y:z.live (s,t)with
   |false=>
    rw[y]at C I b;have E:Hid (oI z a=aq):=b.out rfl;refine bK (by kernel_rfl) (by kernel_rfl) ?_;repeat(go_big_quiet_step ((go_at_call 72;exact eN (C.out _))))
    refine wpQuiet_nil ?_;rintro _ ⟨n,rfl⟩;have o:=ae (u.out.below n.below);go_wp2_with fail;go_ret;have K:D=7:=by rw[H.out,E.out];rfl
    rw[K];exact⟨rfl,o.out.drop⟩
   |true=>
    rw[y]at C I b;clear b;refine bK (by kernel_rfl) (by kernel_rfl) ?_;repeat(go_big_quiet_step ((go_at_call 72;exact eN (C.out _))))
    refine wpQuiet_nil ?_;rintro _ ⟨n,rfl⟩;have o:=ae (u.out.below n.below);go_wp2_with fail;go_roundw
    case rel=>exact⟨k+1,by omega,by go_num,I.out,o.out.drop⟩
    simp[intOf];omega
  have:k=a.length:=by omega
  subst this;have E:Hid (oI z a=ak):=by rw[cq]at d;exact d
  have B:=ae v;clear v d;go_wp2_with fail;go_ret;have K:D=0:=by rw[H.out,E.out];rfl
  rw[K];exact⟨rfl,B.out⟩
end
def Kv:∀(m k:Nat),m<256->k<8->m.testBit k=ak->bits .andNot .i64 m (wrap64 (2^k))=((m-2^k:Nat):Int):=by
 have h:∀(m:Fin 256)(k:Fin 8),m.val.testBit k.val=ak->bits .andNot .i64 (m.val:Int) (wrap64 (2^k.val))=((m.val-2^k.val:Nat):Int):=by decide+kernel
 exact λm k hm a=>h ⟨m,hm⟩ ⟨k,a⟩
def l3.Wh{T f s g K b u}(h:l3 T f)(D:K∈T.ks){i}(A:(T.rw K)[i]? =af ⟨(s,g),b⟩)(E:bx u=0/\u.v.length=8):l3 ⟨T.ks,T.pt,iG T.rw K ((T.rw K).set i ⟨(s,g),u⟩),T.ps⟩ (dC f s (af (g,u))):=by
 have o:=(bg.1 A).1;obtain⟨v,q⟩:=h.at_ K D i _ A;simp only at v q;have d:∀c∈T.ks,∀(j:Nat) r,(T.rw c)[j]? =af r->¬(c=K/\j=i)->dC f s (af (g,u)) r.h.1=af (r.h.2,r.b)/\eI T.ps r.h.1=af (c,(j:Int)):=by
  intro c a j r l p;obtain⟨z,m⟩:=h.at_ c a j r l;have B:r.h.1≠s:=λe=>by rw[e,q]at m;injection m with m;injection m with m C;exact p ⟨m.symm,by omega⟩
  unfold dC;rw[if_neg B];exact⟨z,m⟩
 refine⟨h.nd,λc a=> ?_,λc a j r l=> ?_,λw y x k=> ?_,λw y x k=> ?_⟩;simp only[iG];split;intro F;have:=congrArg List.length F;rw[cx]at this;simp at this;rw[this]at o;simp at o;exact h.ne c a;simp only at l a|-;by_cases e:c=K;subst e;rw[gN,fE]at l;by_cases t:i=j;subst t;rw[if_pos rfl,if_pos o]at l;injection l with l;subst l;unfold dC;rw[if_pos rfl];exact⟨rfl,q⟩;rw[if_neg t]at l;exact d c a j r l (λh=>t h.2.symm);rw[gw _ _ e]at l;exact d c a j r l (λh=>e h.1);unfold dC at k;split at k;rename_i e;injection k with k;injection k with z m;subst e;subst z;subst m;exact⟨K,D,i,by simp only[gN];rw[fE,if_pos rfl,if_pos o]⟩;rename_i p;obtain⟨c,a,j,n⟩:=h.all w y x k;refine⟨c,a,j,?_⟩;simp only;by_cases e:c=K;subst e;rw[gN,fE];by_cases t:i=j;subst t;rw[A]at n;injection n with n;injection n with n _;injection n with n _;exact absurd n.symm p;rw[if_neg t];exact n;rw[gw _ _ e];exact n;unfold dC at k;split at k;rename_i e;injection k with k;injection k with _ m;subst e;subst m;obtain⟨_,_,C⟩:=h.ok w g b v;exact⟨E.1,E.2,C⟩;exact h.ok w y x k
def EX(f s x y):dC (dC f s x) s y=dC f s y:=by funext k;unfold dC;split<;>rfl
def Vw{K k}(a:k<8)(b:K.toNat.testBit k=ak):k∈iQ K:=b3.2 ⟨eS.2 a,b⟩
def Aj(k)(h:0<=k/\k<8)(w):Calls ai 133 #[.int .i64 k] w λe w'=>e=.returned (.bool ak)/\w=w':=by
 obtain⟨a,b⟩:=h;go_enter func133,ntmps133
 go_wp2
 go_ret;exact⟨rfl,rfl⟩
def Eb(k)(h:¬(0<=k/\k<8))(w):Calls ai 133 #[.int .i64 k] w λe w'=>e=.returned (.bool aq)/\w=w':=by
 by_cases b:0<=k
 ·have a:Hid (8<=k):=by unfold Hid;omega
  clear h;go_enter func133,ntmps133
  go_wp2
  go_ret;exact⟨cG (decide_eq_false (by have:=a.out;omega)),rfl⟩
 have a:k<0:=by omega
 clear h b;go_enter func133,ntmps133
 go_wp2
 go_ret;exact⟨rfl,rfl⟩
section
variable{G:Nat->Prop} {Z w:ar} {l:List cX} {p:Nat} {Y:List (Int×Bool)} {f:BF}
def LH(h:In G Z (dR p Y f::l) w)(hk:lH Y f)(s g b n):Calls ai 66 #[.pointer (af ⟨p,0,ah⟩),.agg #[.int .i64 s,.int .i64 g],.int .i64 b,.int .i64 n] w λe w'=>e=.returned (.int .i64 (oa Y f (s,g) b n).2)/\In G Z (dR p Y (oa Y f (s,g) b n).1::l) w':=by
 have Dy:=ae h;have HK:=ae hk;clear h hk;go_enter func66,ntmps66;go_upto_region 1 with(fail)
 refine a6 (In G Z (dR p Y f::aN w.heap.size 43 (ints [s,g])::l)) (Dy.out.alloc 43 (ints [s,g])).swap ?_;generalize w.heap.size=j;intro w1 Kg;obtain⟨sp,tb,pb,T,hT,hI⟩:=Kg.j1;obtain⟨F1,hS⟩:=hI.swap.head;have c0:∀n:After w1,n.w.cell? ⟨p,0,ah⟩=af (.pointer (af ⟨sp,0,ah⟩)):=λn=>(hI.blk.after n.below).cell 0
 have c1:∀n:After w1,row? n.w j 0 2=af (ints [s,g]):=λn=>(Kg.swap.blk.after n.below).aL rfl
 have HL:Hid (∀n:After w1,Calls ai 72 #[.pointer (af ⟨sp,0,ah⟩),.agg (ints [s,g])] n.w λe w'=>e=.returned (.bool (dt Y s g))/\Below n.w.heap.size n.w w'):=λn=>ql sp Y F1 s g n.w (jA.after hS n.below)
 have HT:=ae hT;have HI:=ae hI;clear Kg hI hS hT Dy;cases A:dt Y s g with
 |false=>
  have N:Hid (oa Y f (s,g) b n=(f,7)):=by unfold Hid oa;rw[if_pos (by simp[A])]
  rw[A]at HL;clear A;refine bK (by kernel_rfl) (by kernel_rfl) ?_;repeat(go_big_quiet_step ((go_at_call 72;exact eN (HL.out _))))
  refine wpQuiet_nil ?_;rintro _ ⟨na,rfl⟩;have r:=ae (In.fT (l:=aN j 43 (ints [s,g])::l) HT.out (HI.out.below na.below));go_wp2_with fail;go_ret;rw[N.out];exact⟨rfl,r.out.swap.drop⟩
 |true=>
  have F:=ae A;rw[A]at HL;clear A;refine bK (by kernel_rfl) (by kernel_rfl) ?_;repeat(go_big_quiet_step ((go_at_call 72;exact eN (HL.out _))))
  refine wpQuiet_nil ?_;rintro _ ⟨na,rfl⟩;have o:In G Z (aN p 108 #[.pointer (af ⟨sp,0,ah⟩),.map (af tb),.map (af pb)]::cy sp Y::PtrMap tb (T.ks.map λK=>(K,T.pt K))::bO pb T.ps::aN j 43 (ints [s,g])::(l++T.ks.map (dI T))) na.w:=HI.out.below na.below;have r:=ae o;generalize na.w=C at *;clear c0 c1 HL HI o;by_cases u:0<=b/\b<8;rotate_left
  ·have N:Hid (oa Y f (s,g) b n=(f,1)):=by unfold Hid oa;rw[if_neg (by simp[F.out]),if_pos (bq u)]
   have y:=ae (Eb b u C);clear u;have m:=ae (In.fT (l:=aN j 43 (ints [s,g])::l) HT.out r.out);go_wp2_with fail;refine y.out.mono ?_;rintro e x ⟨rfl,rfl⟩;go_wp2_with fail;go_ret;rw[N.out];exact⟨rfl,m.out.swap.drop⟩
  have y:=ae (Aj b u C);by_cases hn: -1000000000<=n/\n<=1000000000;rotate_left
  ·have N:Hid (oa Y f (s,g) b n=(f,1)):=by unfold Hid oa;rw[if_neg (by simp[F.out]),if_pos (by omega)]
   have m:=ae (In.fT (l:=aN j 43 (ints [s,g])::l) HT.out r.out);by_cases Xb:n< -1000000000
   ·have OM:decide (n< -1000000000)=ak:=decide_eq_true Xb;clear hn u;go_wp2_with fail;refine y.out.mono ?_;rintro e x ⟨rfl,rfl⟩;go_wp2_with fail;go_ret;rw[N.out];exact⟨rfl,m.out.swap.drop⟩
   have OM:decide (n< -1000000000)=aq:=decide_eq_false Xb;have hd2:decide (1000000000<n)=ak:=decide_eq_true (by omega);have T5:1000000000<n:=by omega
   clear hn u;go_wp2_with fail;refine y.out.mono ?_;rintro e x ⟨rfl,rfl⟩;go_wp2_with fail;go_ret;rw[N.out];exact⟨rfl,m.out.swap.drop⟩
  have OM:decide (n< -1000000000)=aq:=decide_eq_false (by omega);have hd2:decide (1000000000<n)=aq:=decide_eq_false (by omega);obtain⟨k,rfl⟩:∃k:Nat,b=k:=⟨b.toNat,by omega⟩;have q:k<8:=by omega
  have N:Hid (oa Y f (s,g) (k:Int) n=(dC f s (af (g,pJ (cI f s) k n)),0)):=by unfold Hid oa;rw[if_neg (by simp[F.out]),if_neg (by omega),bP]
  obtain⟨K,i,Q⟩:=HT.out.aaZ HK.out F.out;obtain⟨W5,hKb⟩:=wQ (In.yy (X:=aN p 108 #[.pointer (af ⟨sp,0,ah⟩),.map (af tb),.map (af pb)]::cy sp Y::PtrMap tb (T.ks.map λK=>(K,T.pt K))::bO pb T.ps::aN j 43 (ints [s,g])::l) r.out Q.mem);have W:Hid ((cI f s).k=K):=hKb _ (kO Q.at_);have a:=ae Q;have z:=ae W5;have HN:=ae hn;have hkI:(k:Int)<8:=by omega
  go_wp2_with fail;refine y.out.mono ?_;rintro e x ⟨rfl,rfl⟩;go_upto_region 5 with(fail)
  clear OM hd2 Q W5 hKb hn u y;have o:=r.out;have L:=o.fourth.iV;have k0:C.cell? ⟨p,2,ah⟩=af (.map (af pb)):=o.blk.cell 2;have k1:C.cell? ⟨j,0,ah⟩=af (.int .i64 s):=o.fifth.blk.cell 0;have k2:(C.alloc (.cells #[.int .i64 0,.int .i64 0] 132)).cell? ⟨p,2,ah⟩=af (.map (af pb)):=sF _ k0;have k3:(C.alloc (.cells #[.int .i64 0,.int .i64 0] 132)).cell? ⟨j,0,ah⟩=af (.int .i64 s):=sF _ k1;have T3:=oJ L a.out.slot a.out.place (Below.refl _ _).drew;have hl2:=oJ L a.out.slot a.out.place (((Below.refl _ C).alloc (ao _) (.cells #[.int .i64 0,.int .i64 0] 132)).drew);have H:Hid (∀x,x=(putRow (C.alloc (.cells (ints [0,0]) 132)) C.heap.size 0 [K,(i:Int)]).drew->In G Z (aN C.heap.size 132 (ints [K,(i:Int)])::aN p 108 #[.pointer (af ⟨sp,0,ah⟩),.map (af tb),.map (af pb)]::cy sp Y::PtrMap tb (T.ks.map λK=>(K,T.pt K))::bO pb T.ps::aN j 43 (ints [s,g])::(l++T.ks.map (dI T))) x):=λx e=>by rw[e];exact(o.struct 132 [0,0] [K,(i:Int)] rfl).drew
  clear o L r
  go_region
  all_goals
   go_upto_region 6 with(fail)
   refine a6 (In G Z (aN C.heap.size 132 (ints [K,(i:Int)])::aN p 108 #[.pointer (af ⟨sp,0,ah⟩),.map (af tb),.map (af pb)]::cy sp Y::PtrMap tb (T.ks.map λK=>(K,T.pt K))::bO pb T.ps::aN j 43 (ints [s,g])::(l++T.ks.map (dI T)))) (H.out _ rfl) ?_;clear k0 k1 k2 k3 T3 hl2 H;generalize C.heap.size=S;intro x d;have s2:x.cell? ⟨S,0,ah⟩=af (.int .i64 K):=d.blk.cell 0;have Yx:((K.toNat:Nat):Int)=K:=by have:=z.out;omega
   have c:=E9 K.toNat k (by have:=z.out;omega) q;rw[Yx]at c;have TQ:=ae Yx;clear Yx;have m:=ae d;clear d;cases B:K.toNat.testBit k with
   |true=>
    rw[B]at c;have h1:(bits BinOp.and IntKind.i64 (K / 2^k) 1==1)=ak:=by rw[c];rfl
    have Z2:=ae B;clear c B;go_upto_region 7 with(fail)
    clear h1;have d:=m.out;have hl3:=we d.fourth.iV a.out.mem z.out (Below.refl _ _);have hl4:=we d.fourth.iV a.out.mem z.out (Below.refl _ _).drew;have s1:x.cell? ⟨p,1,ah⟩=af (.map (af tb)):=d.swap.blk.cell 1;have s3:x.cell? ⟨S,1,ah⟩=af (.int .i64 (i:Int)):=d.blk.cell 1;have R:=(bg.1 a.out.at_).1;have I:=ae (Wx (In.yy (X:=aN S 132 (ints [K,(i:Int)])::aN p 108 #[.pointer (af ⟨sp,0,ah⟩),.map (af tb),.map (af pb)]::cy sp Y::PtrMap tb (T.ks.map λK=>(K,T.pt K))::bO pb T.ps::aN j 43 (ints [s,g])::l) d.drew a.out.mem) i R (by have:=a.out.len;omega) k (Vw q Z2.out) q n HN.out);have HSB:Hid (setB ((T.rw K)[i]'R) k n=⟨(s,g),pJ (cI f s) k n⟩):=by have h0:=a.out.at_;rw[aj R]at h0;injection h0 with h0;unfold Hid setB pJ;rw[h0,W.out,FR K.toNat k (by have:=z.out;omega) q Z2.out,TQ.out]
    rw[HSB.out]at I;have XU:=ae (HT.out.Wh a.out.mem a.out.at_ (zl a.out.ok.1 a.out.ok.2 q HN.out));clear d HSB R
    go_still_tail 11,(by kernel_rfl)
    change wpList _ _ _ _ _ x.drew;clear hl3 hl4 s1 s2 s3 m;generalize x.drew=w4 at *;go_wp2_with fail;refine I.out.mono ?_;rintro e w5 ⟨rfl,J⟩;have t:In G Z (aN S 132 (ints [K,(i:Int)])::aN p 108 #[.pointer (af ⟨sp,0,ah⟩),.map (af tb),.map (af pb)]::cy sp Y::PtrMap tb (T.ks.map λK=>(K,T.pt K))::bO pb T.ps::aN j 43 (ints [s,g])::(l++T.ks.map (dI ⟨T.ks,T.pt,iG T.rw K ((T.rw K).set i ⟨(s,g),pJ (cI f s) k n⟩),T.ps⟩))) w5:=In.QP (X:=aN S 132 (ints [K,(i:Int)])::aN p 108 #[.pointer (af ⟨sp,0,ah⟩),.map (af tb),.map (af pb)]::cy sp Y::PtrMap tb (T.ks.map λK=>(K,T.pt K))::bO pb T.ps::aN j 43 (ints [s,g])::l) HT.out.nd a.out.mem J;have M:=ae (In.fT (l:=aN j 43 (ints [s,g])::l) XU.out t.drop);clear J t I;go_wp2_with fail;go_ret;rw[N.out];exact⟨rfl,M.out.swap.drop⟩
   |false=>
    rw[B]at c;have h1:(bits BinOp.and IntKind.i64 (K / 2^k) 1==1)=aq:=by rw[c];rfl
    have Z2:=ae B;clear c B;go_upto_region 8 with(fail)
    clear h1 s2;have ze:=In.fT (l:=aN S 132 (ints [K,(i:Int)])::aN j 43 (ints [s,g])::l) HT.out (m.out.reorder 6 [1,2,3,4,0,5] rfl (by simp));have s4:row? x j 0 2=af (ints [s,g]):=ze.third.blk.aL rfl;have E:=ae (FA ze s g (cI f s) (HK.out.get F.out));have Ki:(cI f s).list.length=9:=by unfold bw.list;rw[ax,a.out.ok.2]
    clear ze m;go_wp2_with fail;refine E.out.mono ?_;rintro e w4 ⟨rfl,J⟩;have yL:=ae J;clear J E;go_upto_region 9 with(fail)
    refine a6 (In G Z (aN w4.heap.size 48 (ints (cI f s).list)::dR p Y (dC f s ah)::aN S 132 (ints [K,(i:Int)])::aN j 43 (ints [s,g])::l)) (yL.out.struct 48 [0,0,0,0,0,0,0,0,0] _ Ki) ?_;generalize w4.heap.size=bb;intro w5 t;have RI:(cI f s).list=K::(cI f s).v:=by unfold bw.list;rw[W.out]
    have q1:w5.cell? ⟨bb,0,ah⟩=af (.int .i64 K):=by rw[t.blk.cell 0,RI];rfl
    have q2:w5.frozen? ⟨bb,0,ah⟩=aq:=t.blk.frozen 0;have Xd:=Zg K.toNat k (by have:=z.out;omega) q;rw[TQ.out]at Xd;have O:=t.set 0 (.int .i64 ((K.toNat ||| 2^k:Nat):Int));rw[ints_set]at O;have V:(cI f s).list.set 0 ((K.toNat ||| 2^k:Nat):Int)=((K.toNat ||| 2^k:Nat):Int)::(cI f s).v:=by rw[RI];rfl
    rw[V]at O;have M:=ae O;have HBP:Hid ((pJ (cI f s) k n).list=((K.toNat ||| 2^k:Nat):Int)::(cI f s).v.set k n):=by unfold Hid pJ bw.list;rw[W.out]
    clear t O V RI yL
    go_region
    go_upto_region 10 with(fail)
    refine a6 (In G Z (aN bb 48 (ints (((K.toNat ||| 2^k:Nat):Int)::(cI f s).v))::dR p Y (dC f s ah)::aN S 132 (ints [K,(i:Int)])::aN j 43 (ints [s,g])::l)) M.out.drew ?_;clear q1 q2 Xd M s4;intro w6 P;have q3:w6.frozen? ⟨bb,1+k,ah⟩=aq:=P.blk.frozen (1+k);have q4:w6.cell? ⟨bb,1+k,ah⟩=af (.int .i64 ((cI f s).v.getD k 0)):=by
     have hk9:1+k<(((K.toNat ||| 2^k:Nat):Int)::(cI f s).v).length:=by rw[ax,a.out.ok.2];omega
     rw[P.blk.cell (1+k),ints_at hk9];simp[bM 1 k,a7,a.out.ok.2,q]
    have Yw:=P.set (1+k) (.int .i64 n);rw[ints_set,bM 1 k,a8,<-HBP.out,bM k 1]at Yw;have Kj:(pJ (cI f s) k n).list.length=9:=by rw[HBP.out,ax,cx,a.out.ok.2]
    have Dz:=ae Yw;clear P Yw;have Vd:(0:Int)<=(k:Int):=by omega
    go_upto_region 11 with(fail)
    refine a6 (In G Z (aN bb 48 (ints (pJ (cI f s) k n).list)::dR p Y (dC f s ah)::aN S 132 (ints [K,(i:Int)])::aN j 43 (ints [s,g])::l)) Dz.out ?_;clear q3 q4 Dz;intro w7 v;have q5:row? w7 bb 0 9=af (ints (pJ (cI f s) k n).list):=v.blk.aL Kj;have q6:row? w7 j 0 2=af (ints [s,g]):=v.fourth.blk.aL rfl;have YR:=zl a.out.ok.1 a.out.ok.2 q HN.out;have D:=ae (Lh v.swap s g (pJ (cI f s) k n) (by unfold dC;rw[if_pos rfl]) ⟨YR.1,YR.2,a.out.slot⟩);rw[EX]at D;clear v YR;go_wp2_with fail;refine D.out.mono ?_;rintro e w8 ⟨rfl,U⟩;have QA:=ae U;clear U D q5 q6;go_wp2_with fail;go_ret;rw[N.out];exact⟨rfl,QA.out.swap.drop.swap.drop.swap.drop⟩
end
def M8{k}(h:0<=k/\k<=255):m8 k=k.toNat:=by unfold m8;omega
def LG{z}(e:jC z){x:Hd}{a now}(c:z.f x.1=af (x.2,a))(f:bx now=0){k}(d):oa z.ls (dC z.f x.1 (af (x.2,fc a now k))) x ((kinds a.k.toNat)[k]:Nat) (now.v.getD (kinds a.k.toNat)[k] 0)=(dC z.f x.1 (af (x.2,fc a now (k+1))),0):=by
 have g:dt z.ls x.1 x.2=ak:=(e.w.lv _ _).2 ⟨a,c⟩;have hm:=(iM a.k.toNat _).1 (aF d);have h:=((jQ now f).2 _ hm.1).2;unfold oa;rw[if_neg (by rw[g];simp),if_neg (by omega)];have b:cI (dC z.f x.1 (af (x.2,fc a now k))) x.1=fc a now k:=by unfold cI dC;rw[if_pos rfl];rfl
 rw[b,bP,Ay (e.w.bo _ _ _ c).1 d,Mn]
def Sh{z}(i:jC z){x:Hd}{a now}(g:z.f x.1=af (x.2,a))(f:bx now=0):∀k,k<=(kinds a.k.toNat).length->bx (fc a now k)=0/\(fc a now k).v.length=8:=by
 obtain⟨b,e⟩:=i.w.bo _ _ _ g;intro k
 induction k with|zero=>intro _;exact⟨b,e⟩|succ k j=>intro l;obtain⟨c,d⟩:=j (by omega);have hm:=(iM a.k.toNat _).1 (aF (show k<(kinds a.k.toNat).length by omega));have h:=((jQ now f).2 _ hm.1).2;rw[<-Ay b (show k<(kinds a.k.toNat).length by omega)];exact zl c d hm.1 h
def O2{z}(b:jC z){x:Hd}{a now}(c:z.f x.1=af (x.2,a))(d:bx now=0){k}(e:k<=(kinds a.k.toNat).length):lH z.ls (dC z.f x.1 (af (x.2,fc a now k))):=b.w.upd ((b.w.lv _ _).2 ⟨a,c⟩) (Sh b c d k e)
section
variable{G:Nat->Prop} {Z w:ar} {l:List cX} {p:Nat} {z:ZS}
def Ns(h:In G Z (dn p z::l) w)(N:jC z)(b c a now)(L:z.f b=af (c,a))(hn:now.k=a.k)(u:bx now=0)(hv:now.v.length=8)(n:∀j,j∉kinds a.k.toNat->now.v.getD j 0=a.v.getD j 0):Calls ai 38 #[ptr p,.agg #[.int .i64 b,.int .i64 c],.agg (ints a.list),.agg (ints now.list)] w λe w'=>e=.returned (.tuple #[])/\In G Z (dn p ⟨z.ls,dC z.f b (af (c,now)),z.B⟩::l) w':=by
 obtain⟨hwe,r⟩:=N.w.bo _ _ _ L;have hwk:=(jQ a hwe).1;have U:Hid (eK (m8 now.k)=eK a.k.toNat):=by unfold Hid;rw[hn,M8 hwk]
 have O:=ae (Lp r hn hv n);have V:Hid (∀k,(g:k<(kinds a.k.toNat).length)->oa z.ls (dC z.f b (af (c,fc a now k))) (b,c) ((kinds a.k.toNat)[k]:Nat) (now.v.getD (kinds a.k.toNat)[k] 0)=(dC z.f b (af (c,fc a now (k+1))),0)):=λk g=>LG (x:=(b,c)) N L u g
 have H:Hid (∀k,(g:k<(kinds a.k.toNat).length)->now.v.getD (kinds a.k.toNat)[k] 0=a.v.getD (kinds a.k.toNat)[k] 0->fc a now (k+1)=fc a now k):=λk g K=>IK r g K
 have Y:Hid (∀k,k<=(kinds a.k.toNat).length->lH z.ls (dC z.f b (af (c,fc a now k)))):=λk g=>O2 (x:=(b,c)) N L u g
 have P:Hid (In G Z (dn p ⟨z.ls,dC z.f b (af (c,fc a now 0)),z.B⟩::l) w):=by have e:dC z.f b (af (c,fc a now 0))=z.f:=Qb _ _ (by rw[L];rfl);rw[e];exact h
 have Ki:a.list.length=9:=by simp[bw.list,r]
 have hnl:now.list.length=9:=by simp[bw.list,hv]
 have HV:=ae hv;have X:=ae r;clear h N L hn u hv n hwe r hwk;generalize YO:now.k=nk at *;go_enter func38,ntmps38;go_upto_region 1 with(fail)
 refine a6 (In G Z (aN (w.heap.size+1+1) 48 (ints now.list)::aN (w.heap.size+1) 48 (ints a.list)::aN w.heap.size 43 (ints [b,c])::dn p ⟨z.ls,dC z.f b (af (c,fc a now 0)),z.B⟩::l)) (by have:=((P.out.alloc 43 (ints [b,c])).alloc 48 (ints a.list)).alloc 48 (ints now.list);simp only[bZ]at this;exact this) ?_
 generalize w.heap.size+1+1=C;generalize w.heap.size+1=wb;generalize w.heap.size=u;intro w1 I;have c1:w1.cell? ⟨C,0,ah⟩=af (.int .i64 nk):=by rw[<-YO];exact I.blk.cell 0
 have Q:=ae I;clear I P YO;go_wp2_with fail;refine(sZ nk w1).mono ?_;rintro e w2 ⟨v,rfl,ho,sQ⟩;rw[U.out]at ho;have s:=ae (In.tU Q.out ho sQ);obtain⟨A2,c2,rfl,hr2⟩:=s.out.lJ;have f:(eK a.k.toNat).length=(kinds a.k.toNat).length:=by simp[eK]
 rw[f]at hr2 s|-;have d:=ae (s.out.to5.perm (ot _));have hn8:=oh a.k.toNat;clear ho sQ hr2 s Q c1 f U;generalize a.k.toNat=M at *;have R:Hid (In G Z (dn p ⟨z.ls,dC z.f b (af (c,fc a now 0)),z.B⟩::ei (.slice A2 (kinds M).length c2) (eK M)::aN C 48 (ints now.list)::aN wb 48 (ints a.list)::aN u 43 (ints [b,c])::l) w2):=d.out.reorder 5 [3,4,0,1,2] rfl (by simp);clear d;go_wp2_with fail;go_loopw [14] (λi w'=>∃k:Nat,k<=(kinds M).length/\i=.int .i64 k/\In G Z (dn p ⟨z.ls,dC z.f b (af (c,fc a now k)),z.B⟩::ei (.slice A2 (kinds M).length c2) (eK M)::aN C 48 (ints now.list)::aN wb 48 (ints a.list)::aN u 43 (ints [b,c])::l) w') (λi _=>(kinds M).length-(intOf i).toNat)
 case atStart=>exact⟨0,bH _,rfl,R.out⟩
 case round=>
  clear R;obtain⟨k,N,rfl,D⟩:=hrel;by_cases B:k<(kinds M).length
  ·have rW:(k:Int)<(kinds M).length:=by omega
   obtain⟨A',c',e0,hr⟩:=D.swap.lJ;have f:(eK M).length=(kinds M).length:=by simp[eK]
   rw[f]at e0 hr;injection e0 with e1 e2 e3;subst e1;subst e3;obtain⟨bl,o,q,rfl,hc,M2,W9,A,YX⟩:=sW hr B;have hq:(kinds M)[k]=q:=by rw[M2.out];simp[bu,B]
   have HP:=ae (V.out k B);have HS:=ae (H.out k B);have HWK:=ae (Y.out k N);rw[hq]at HP HS;have y:wr.cell? ⟨C,1+q,ah⟩=af (.int .i64 (now.v.getD q 0)):=by rw[(D.third.blk).cell,jT,bM];simp only[bw.list,eQ];rw[aj (by rw[HV.out];exact A)];simp[bu,aj (show q<now.v.length by rw[HV.out];exact A)]
   have hcw:wr.cell? ⟨wb,1+q,ah⟩=af (.int .i64 (a.v.getD q 0)):=by rw[(D.fourth.blk).cell,jT,bM];simp only[bw.list,eQ];rw[aj (by rw[X.out];exact A)];simp[bu,aj (show q<a.v.length by rw[X.out];exact A)]
   have hqi:(q:Int)<8:=by omega
   have F:=ae D;clear D hr e2 M2 W9 YX hq f;generalize hnv:now.v.getD q 0=nv at *;generalize hwv:a.v.getD q 0=wv at *;clear hnv hwv;have E:Hid (∀W,In G Z (dn p ⟨z.ls,dC z.f b (af (c,fc a now k)),z.B⟩::ei (.slice (af ⟨bl,o,ah⟩) (kinds M).length c2) (eK M)::aN C 48 (ints now.list)::aN wb 48 (ints a.list)::aN u 43 (ints [b,c])::l) W->W.cell? ⟨C,1+q,ah⟩=af (.int .i64 nv)):=λW hW=>by
    have h1:wr.cell? ⟨C,1+q,ah⟩=W.cell? ⟨C,1+q,ah⟩:=by rw[F.out.third.blk.cell,hW.third.blk.cell]
    rw[<-h1];exact y
   by_cases K:nv=wv
   ·have CU:(nv !=wv)=aq:=by simp[K]
    have HE:=ae (HS.out K);clear HS HP K E;rw[<-HE.out]at F;go_wp2_with fail
    go_quiet (fail)
    go_wp2_with fail;have d:=F.out.below (w':=wr.drewN nq) ⟨rfl,rfl,rfl,ao _,λ_ _=>rfl⟩;go_roundw
    case rel=>exact⟨k+1,by omega,by go_num,d⟩
    simp[intOf];omega
   have CU:(nv !=wv)=ak:=by simp[K]
   clear HS K;go_wp2_with fail
   go_quiet (fail)
   have d:=ae (F.out.below (w':=wr.drewN nq) ⟨rfl,rfl,rfl,ao _,λ_ _=>rfl⟩);clear y hcw hc F;generalize wr.drewN nq=w4 at *;have y:=E.out _ d.out;obtain⟨wp,fp,m,hm,L,ha,t⟩:=d.out.kV;have c0:w4.cell? ⟨p,0,ah⟩=af (ptr wp):=t.blk.cell 0;have qh:row? w4 u 0 2=af (ints [b,c]):=(t.nth 6 (by simp)).blk.dy 0 2 (by simp);have HM:=ae hm;have S:=ae t.swap;clear hm L ha t d E;go_upto_region 5 with(fail)
   go_still_tail 10,(by kernel_rfl)
   change wpList _ _ _ _ _ w4.drew;have T:=ae S.out.drew;clear S c0 qh y;generalize w4.drew=w5 at *;go_wp2_with fail;refine(LH T.out HWK.out b c q nv).mono ?_;rintro e w6 ⟨rfl,J⟩;rw[HP.out]at J|-;have Dz:Hid (In G Z (dn p ⟨z.ls,dC z.f b (af (c,fc a now (k+1))),z.B⟩::ei (.slice (af ⟨bl,o,ah⟩) (kinds M).length c2) (eK M)::aN C 48 (ints now.list)::aN wb 48 (ints a.list)::aN u 43 (ints [b,c])::l) w6):=In.mh (z:=⟨z.ls,dC z.f b (af (c,fc a now (k+1))),z.B⟩) HM.out J.swap;clear J T HP;go_wp2_with fail;go_roundw
   case rel=>exact⟨k+1,by omega,by go_num,Dz.out⟩
   simp[intOf];omega
  have:k=(kinds M).length:=by omega
  subst this;rw[O.out]at D;have F:=ae (D.reorder 5 [1,2,3,4,0] rfl (by simp)).drop.drop.drop.drop;clear D;go_wp2_with fail
  go_end0
  exact⟨rfl,F.out⟩
end
section
variable{G:Nat->Prop} {Z w:ar} {l:List cX} {p:Nat} {Y:List (Int×Bool)} {f:BF}
def MP(h:In G Z (dR p Y f::l) w)(hk:lH Y f)(s g a):Calls ai 67 #[.pointer (af ⟨p,0,ah⟩),.agg #[.int .i64 s,.int .i64 g],.int .i64 a] w λe w'=>e=.returned (.int .i64 (l7 Y f (s,g) a).2)/\In G Z (dR p Y (l7 Y f (s,g) a).1::l) w':=by
 have Dy:=ae h;have HK:=ae hk;clear h hk;go_enter func67,ntmps67;go_upto_region 1 with(fail)
 refine a6 (In G Z (dR p Y f::aN w.heap.size 43 (ints [s,g])::l)) (Dy.out.alloc 43 (ints [s,g])).swap ?_;generalize w.heap.size=o;intro w1 O;obtain⟨sp,tb,pb,T,hT,hI⟩:=O.j1;obtain⟨F1,hS⟩:=hI.swap.head;have c0:∀n:After w1,n.w.cell? ⟨p,0,ah⟩=af (.pointer (af ⟨sp,0,ah⟩)):=λn=>(hI.blk.after n.below).cell 0
 have c1:∀n:After w1,row? n.w o 0 2=af (ints [s,g]):=λn=>(O.swap.blk.after n.below).aL rfl
 have HL:Hid (∀n:After w1,Calls ai 72 #[.pointer (af ⟨sp,0,ah⟩),.agg (ints [s,g])] n.w λe w'=>e=.returned (.bool (dt Y s g))/\Below n.w.heap.size n.w w'):=λn=>ql sp Y F1 s g n.w (jA.after hS n.below)
 have HT:=ae hT;have HI:=ae hI;clear O hI hS hT Dy;cases r:dt Y s g with
 |false=>
  have A:Hid (l7 Y f (s,g) a=(f,7)):=by unfold Hid l7;rw[if_pos (by simp[r])]
  rw[r]at HL;clear r;refine bK (by kernel_rfl) (by kernel_rfl) ?_;repeat(go_big_quiet_step ((go_at_call 72;exact eN (HL.out _))))
  refine wpQuiet_nil ?_;rintro _ ⟨na,rfl⟩;have c:=ae (In.fT (l:=aN o 43 (ints [s,g])::l) HT.out (HI.out.below na.below));go_wp2_with fail;go_ret;rw[A.out];exact⟨rfl,c.out.swap.drop⟩
 |true=>
  have z:=ae r;rw[r]at HL;clear r;refine bK (by kernel_rfl) (by kernel_rfl) ?_;repeat(go_big_quiet_step ((go_at_call 72;exact eN (HL.out _))))
  refine wpQuiet_nil ?_;rintro _ ⟨na,rfl⟩;have j:In G Z (aN p 108 #[.pointer (af ⟨sp,0,ah⟩),.map (af tb),.map (af pb)]::cy sp Y::PtrMap tb (T.ks.map λK=>(K,T.pt K))::bO pb T.ps::aN o 43 (ints [s,g])::(l++T.ks.map (dI T))) na.w:=HI.out.below na.below;have c:=ae j;generalize na.w=w2 at *;clear c0 c1 HL HI j;by_cases q:0<=a/\a<8;rotate_left
  ·have A:Hid (l7 Y f (s,g) a=(f,1)):=by unfold Hid l7;rw[if_neg (by simp[z.out]),if_pos q]
   have y:=ae (Eb a q w2);clear q;have L:=ae (In.fT (l:=aN o 43 (ints [s,g])::l) HT.out c.out);go_wp2_with fail;refine y.out.mono ?_;rintro e w3 ⟨rfl,rfl⟩;go_wp2_with fail;go_ret;rw[A.out];exact⟨rfl,L.out.swap.drop⟩
  have y:=ae (Aj a q w2);obtain⟨k,rfl⟩:∃k:Nat,a=k:=⟨a.toNat,by omega⟩;have F:k<8:=by omega
  have A:Hid (l7 Y f (s,g) (k:Int)=if(cI f s).k.toNat.testBit k=aq then(f,5)else(dC f s (af (g,nP (cI f s) k)),0)):=by unfold Hid l7;rw[if_neg (by simp[z.out]),if_neg (λh=>h q),bP]
  obtain⟨K,i,E⟩:=HT.out.aaZ HK.out z.out;obtain⟨W5,hKb⟩:=wQ (In.yy (X:=aN p 108 #[.pointer (af ⟨sp,0,ah⟩),.map (af tb),.map (af pb)]::cy sp Y::PtrMap tb (T.ks.map λK=>(K,T.pt K))::bO pb T.ps::aN o 43 (ints [s,g])::l) c.out E.mem);have x:Hid ((cI f s).k=K):=hKb _ (kO E.at_);rw[x.out]at A;have d:=ae E;have M:=ae W5;have hkI:(k:Int)<8:=by omega
  go_wp2_with fail;refine y.out.mono ?_;rintro e w3 ⟨rfl,rfl⟩;go_upto_region 5 with(fail)
  clear E W5 hKb q y;have j:=c.out;have I:=j.fourth.iV;have c0:∀n:After w2,n.w.cell? ⟨p,2,ah⟩=af (.map (af pb)):=λn=>(j.blk.after n.below).cell 2
  have c1:∀n:After w2,n.w.cell? ⟨o,0,ah⟩=af (.int .i64 s):=λn=>(j.fifth.blk.after n.below).cell 0
  have T3:∀n:After w2,(lC 106 (.map (af pb)) (.int .i64 s) aq).run ai n.w=.ok (.agg #[.int .i64 K,.int .i64 (i:Int)]) n.w:=λn=>oJ I d.out.slot d.out.place n.below
  have hfd:∀W,(Instr.field 132 (.agg #[.int .i64 K,.int .i64 (i:Int)]) 0).run ai W=.ok (.int .i64 K) W:=λW=>by kernel_rfl
  have R:((K.toNat:Nat):Int)=K:=by have:=M.out;omega
  have b:=E9 K.toNat k (by have:=M.out;omega) F;rw[R]at b;have TQ:=ae R;clear R j I;cases v:K.toNat.testBit k with
  |false=>
   rw[v]at b A;have h1:(bits BinOp.and IntKind.i64 (K / 2^k) 1==0)=ak:=by rw[b];rfl
   clear b v;refine bK (by kernel_rfl) (by kernel_rfl) ?_;repeat(go_big_quiet_step (fail))
   refine wpQuiet_nil ?_;rintro _ ⟨nb,rfl⟩;have L:=ae (In.fT (l:=aN o 43 (ints [s,g])::l) HT.out (c.out.below nb.below));clear c0 c1 T3 c;go_wp2_with fail;go_ret;rw[A.out];exact⟨rfl,L.out.swap.drop⟩
  |true=>
   rw[v]at b A;have h1:(bits BinOp.and IntKind.i64 (K / 2^k) 1==0)=aq:=by rw[b];rfl
   have Z2:=ae v;clear b v;refine bK (by kernel_rfl) (by kernel_rfl) ?_;repeat(go_big_quiet_step (fail))
   refine wpQuiet_nil ?_;rintro _ ⟨nb,rfl⟩;have P:=In.fT (l:=aN o 43 (ints [s,g])::l) HT.out (c.out.below nb.below);generalize nb.w=w3 at *;clear c0 c1 T3 c h1;have s4:row? w3 o 0 2=af (ints [s,g]):=P.swap.blk.aL rfl;have u:=ae (FA P s g (cI f s) (HK.out.get z.out));have Ki:(cI f s).list.length=9:=by unfold bw.list;rw[ax,d.out.ok.2]
   clear P;go_wp2_with fail;refine u.out.mono ?_;rintro e w4 ⟨rfl,Qt⟩;have yL:=ae Qt;clear Qt u;go_upto_region 8 with(fail)
   refine a6 (In G Z (aN w4.heap.size 48 (ints (cI f s).list)::dR p Y (dC f s ah)::aN o 43 (ints [s,g])::l)) (yL.out.struct 48 [0,0,0,0,0,0,0,0,0] _ Ki) ?_;generalize w4.heap.size=N;intro w5 B;have S:(cI f s).list=K::(cI f s).v:=by unfold bw.list;rw[x.out]
   have q1:w5.cell? ⟨N,0,ah⟩=af (.int .i64 K):=by rw[B.blk.cell 0,S];rfl
   have q2:w5.frozen? ⟨N,0,ah⟩=aq:=B.blk.frozen 0;have Xd:=Kv K.toNat k (by have:=M.out;omega) F Z2.out;rw[TQ.out]at Xd;have C:=B.set 0 (.int .i64 ((K.toNat-2^k:Nat):Int));rw[ints_set]at C;have V:Hid ((nP (cI f s) k).list=((K.toNat-2^k:Nat):Int)::(cI f s).v.set k 0):=by unfold Hid nP bw.list;rw[x.out]
   generalize ((K.toNat-2^k:Nat):Int)=KN at *;have J:(cI f s).list.set 0 KN=KN::(cI f s).v:=by rw[S];rfl
   rw[J]at C;have um:=ae C;clear B C J S yL
   go_region
   go_upto_region 9 with(fail)
   refine a6 (In G Z (aN N 48 (ints (KN::(cI f s).v))::dR p Y (dC f s ah)::aN o 43 (ints [s,g])::l)) um.out.drew ?_;clear q1 q2 Xd um s4;intro w6 D;have q3:w6.frozen? ⟨N,1+k,ah⟩=aq:=D.blk.frozen (1+k);have q4:w6.cell? ⟨N,1+k,ah⟩=af (.int .i64 ((cI f s).v.getD k 0)):=by
    have hk9:1+k<(KN::(cI f s).v).length:=by rw[ax,d.out.ok.2];omega
    rw[D.blk.cell (1+k),ints_at hk9];simp[bM 1 k,a7,d.out.ok.2,F]
   have Q:=D.set (1+k) (.int .i64 0);rw[ints_set,bM 1 k,a8,<-V.out,bM k 1]at Q;have Kj:(nP (cI f s) k).list.length=9:=by rw[V.out,ax,cx,d.out.ok.2]
   have Dz:=ae Q;clear D Q;have Vd:(0:Int)<=(k:Int):=by omega
   go_upto_region 10 with(fail)
   refine a6 (In G Z (aN N 48 (ints (nP (cI f s) k).list)::dR p Y (dC f s ah)::aN o 43 (ints [s,g])::l)) Dz.out ?_;clear q3 q4 Dz;intro w7 m;have q5:row? w7 N 0 9=af (ints (nP (cI f s) k).list):=m.blk.aL Kj;have q6:row? w7 o 0 2=af (ints [s,g]):=m.third.blk.aL rfl;have U:=Hv d.out.ok.1 d.out.ok.2 F (by rw[x.out];exact Z2.out);have t:=ae (Lh m.swap s g (nP (cI f s) k) (by unfold dC;rw[if_pos rfl]) ⟨U.1,U.2,d.out.slot⟩);rw[EX]at t;clear m U;go_wp2_with fail;refine t.out.mono ?_;rintro e w8 ⟨rfl,H⟩;have QA:=ae H;clear H t q5 q6;go_wp2_with fail;go_ret;rw[A.out];exact⟨rfl,QA.out.swap.drop.swap.drop⟩
end
noncomputable def iC(m:lF)(a:Hd)(k:Nat):List Hd:=((kids m a).take k).flatMap λc=>c::under m c
def wT(m a k h):iC m a (k+1)=(iC m a k++[(kids m a)[k]])++under m (kids m a)[k]:=by unfold iC;rw[aV h,bS];simp
def tu(m)(hm:il m)(a):iC m a (kids m a).length=under m a:=by unfold iC;rw[cq,tv hm.nodup hm.pD]
def rP(m)(hm:il m)(a k):(iC m a k).length<=m.length:=by
 refine bD ?_ (oo hm.nodup hm.pD a);rw[<-tu m hm];unfold iC;rw[cq]
 conv=>rhs;rw[<-fZ k (kids m a),bS]
 rw[bm];omega
def jM{G r w l v u cs b p o a K Q X}(i:o.guard=ah)(s x)(B:o.op=.call {callee:=.builtin .append,args:=#[s,x],argTypes:=#[122,122]})(g:In G r (e9 v cs::e9 u b::l) w)(C:a.eval s=v)(D:a.eval x=u)(F:cs.length+b.length<=1099511627776)(h:∀e f,In G r (e9 e (cs++b)::e9 u b::l) f->K (a.put o.dst e) f):if Region.wanted o (yielded p a.tmps)=ak then Oper.wp ai o a w K Q else X:=by obtain⟨E,j,k,m,n⟩:=info_parts ia;refine rZ i s x 122 B 43 E _ 2 16 underlying122 j k m n rfl (by decide) C D g.rowAt g.swap.rowAt ?_ (by unfold maxLen;omega) (by omega) ?_;intro c A;obtain⟨d,_,q⟩:=nT.1 A;simp[hC]at q;rcases q with rfl|rfl<;>rfl;intro e f t y z;have:=g.l5 t y z;rw[<-bS,<-bm]at this;exact h e f this
def KV{p m}(hm:il m)(hl:m.length<=1099511627776)(rk R)(hr:uM m rk R):∀n a{G}{t w}{l},R-rk a<n->In G t (ja p m::l) w->Calls ai 129 #[.pointer (af ⟨p,0,ah⟩),iU a] w λe w'=>∃v,e=.returned v/\In G t (e9 v (under m a)::ja p m::l) w':=by
 intro n
 induction n with
 |zero=>intro a G t w l h;omega|succ n ih=>
  intro a G t w l hn h;have K:=ae h;have IH:=ae @ih;have HN:=ae hn;have HR:=ae hr;have HM:=ae hm;clear h ih hn hr hm;obtain⟨b,d⟩:=a;rw[j7];obtain⟨i0,uT,sS,sT,sa⟩:=info_parts ia;go_enter func129,ntmps129;go_upto_region 2 with(fail)
  refine a6 (In G t (ja p m::aN w.heap.size 43 (ints [b,d])::l)) ((K.out.alloc 43 (ints [b,d])).swap) ?_;generalize w.heap.size=F;intro w1 H;have k1:row? w1 F 0 2=af (ints [b,d]):=H.swap.blk.aL rfl;have M:=ae H;clear H K;go_wp2_with fail;refine(Fo M.out (b,d) hl).mono ?_;rintro e w2 ⟨kv,rfl,C⟩;obtain⟨kA,I,rfl,_,_,_⟩:=mf C.rowAt;have RM:=Iy m (b,d);have N:Hid (In G t (dN 43 2 (.slice ah 0 0) 0 []::e9 (.slice kA (kids m (b,d)).length I) (kids m (b,d))::ja p m::aN F 43 (ints [b,d])::l) w2):=In.kz C _ _;have HU:=ae (tu m HM.out (b,d));clear C M k1;go_wp2_with fail;go_loopw [12,5] (λi out w'=>∃k:Nat,k<=(kids m (b,d)).length/\i=.int .i64 k/\In G t (e9 out (iC m (b,d) k)::e9 (.slice kA (kids m (b,d)).length I) (kids m (b,d))::ja p m::aN F 43 (ints [b,d])::l) w') (λi _ _=>(kids m (b,d)).length-(intOf i).toNat)
  case atStart=>exact⟨0,bH _,rfl,N.out⟩
  clear N;obtain⟨k,hk,rfl,H⟩:=hrel;have HI:=ae H;clear H;by_cases E:k<(kids m (b,d)).length
  ·have rW:(k:Int)<(kids m (b,d)).length:=by omega
   obtain⟨A',c',e0,_,hkc,z⟩:=mf HI.out.swap.rowAt;injection e0 with e1 e2 e3;subst e1;subst e3;obtain⟨g,rfl,q1⟩:=z k E;have HS:=ae (wT m (b,d) k E);have Q:Hid (eI m (kids m (b,d))[k]=af (b,d)):=(jU HM.out.nodup).1 (aF E);have hle:=rP m HM.out (b,d) k;have x:=rP m HM.out (b,d) (k+1);rw[HS.out]at x;have YN:((kids m (b,d)).length:Int)<=I:=by omega
   clear z e2;generalize (kids m (b,d))[k]=c at *;obtain⟨f,j⟩:=c;have V:=oo HM.out.nodup HM.out.pD (f,j);simp only[bm,ax,aM]at x;go_upto_region 5 with(fail)
   refine a6 (In G t (aN wr.heap.size 43 (ints [f,j])::e9 u5 (iC m (b,d) k)::e9 (.slice (af ⟨g,0,ah⟩) (kids m (b,d)).length I) (kids m (b,d))::ja p m::aN F 43 (ints [b,d])::l)) (HI.out.struct 43 [0,0] [f,j] rfl) ?_;generalize wr.heap.size=s;intro w3 D;have q2:row? w3 s 0 2=af #[.int .i64 f,.int .i64 j]:=D.blk.aL (xs:=[f,j]) rfl;have y:Hid (In G t (ja p m::e9 u5 (iC m (b,d) k)::aN s 43 (ints [f,j])::e9 (.slice (af ⟨g,0,ah⟩) (kids m (b,d)).length I) (kids m (b,d))::aN F 43 (ints [b,d])::l) w3):=(D.fourth).perm (((cz _ _ _)).cons _);clear D q1;have S:R-rk (f,j)<n:=by have h1:=HR.out _ _ Q.out;have h2:=HN.out;omega
   have T:(iC m (b,d) k).length+1<=1099511627776:=by omega
   have U:(iC m (b,d) k++[(f,j)]).length+(under m (f,j)).length<=1099511627776:=by rw[bm];simp;omega
   have u:Hid (∀(L:List cX)(W:ar),In G t L W->In G t (e9 (.slice (af ⟨W.heap.size,0,ah⟩) 1 1) [(f,j)]::L) (W.alloc (.cells #[.int .i64 f,.int .i64 j] 43))):=λL W h=>h.xB 43 [.int .i64 f,.int .i64 j]
   have sA:row? (w3.alloc (.cells #[.int .i64 f,.int .i64 j] 43)) s 0 2=af #[.int .i64 f,.int .i64 j]:=(y.out.third.blk.after ((Below.refl _ _).alloc (ao _) _)).aL (xs:=[f,j]) rfl;have HSA:=ae sA;have A:=ae T;have P:=ae U;have B:=ae S;clear sA T U S hle x V;generalize OL:iC m (b,d) k=cs at *
   go_region_held3 (λW=>row? W s 0 2=af #[.int .i64 f,.int .i64 j]) (first|assumption|exact HSA.out|go_keep)
    (first
      |(go_at_call 129;refine(IH.out (f,j) B.out y.out.drew).mono ?_;rintro e X ⟨uv,rfl,o⟩;have s4:row? X s 0 2=af #[.int .i64 f,.int .i64 j]:=o.fourth.blk.aL (xs:=[f,j]) rfl;have J:=ae o;clear o)
      |(go_at_call 129;refine(IH.out (f,j) B.out (u.out _ _ y.out.drew).swap).mono ?_;rintro e X ⟨uv,rfl,o⟩;have s4:row? X s 0 2=af #[.int .i64 f,.int .i64 j]:=o.fifth.blk.aL (xs:=[f,j]) rfl;have J:=ae o;clear o)
      |(go_at_call 129;refine(IH.out (f,j) B.out Z.out.third).mono ?_;rintro e X ⟨uv,rfl,o⟩;have s4:row? X s 0 2=af #[.int .i64 f,.int .i64 j]:=o.fifth.blk.aL (xs:=[f,j]) rfl;have J:=ae o;clear o)
      |(refine jM (by rfl) (.tmp 16) (.tmp 18) (by rfl) (u.out _ _ y.out.drew).third (by rfl) (by rfl) A.out ?_;intro v1 Y q;have s5:row? Y s 0 2=af #[.int .i64 f,.int .i64 j]:=q.fourth.blk.aL (xs:=[f,j]) rfl;have Z:=ae q;clear q)
      |(refine jM (by rfl) (.tmp 16) (.tmp 18) (by rfl) (u.out _ _ J.out).fourth (by rfl) (by rfl) A.out ?_;intro v1 Y q;have s5:row? Y s 0 2=af #[.int .i64 f,.int .i64 j]:=q.fifth.blk.aL (xs:=[f,j]) rfl;have Z:=ae q;clear q)
      |(refine jM (by rfl) (.tmp 16) (.tmp 18) (by rfl) J.out.fourth.fourth.swap (by rfl) (by rfl) A.out ?_;intro v1 Y q;have s5:row? Y s 0 2=af #[.int .i64 f,.int .i64 j]:=q.fifth.blk.aL (xs:=[f,j]) rfl;have Z:=ae q;clear q)
      |(refine jM (by rfl) (.tmp 19) (.tmp 22) (by rfl) Z.out.swap.drop (by rfl) (by rfl) P.out ?_;intro v2 w6 r;have s6:row? w6 s 0 2=af #[.int .i64 f,.int .i64 j]:=r.fourth.blk.aL (xs:=[f,j]) rfl;have H6:=ae r;clear r)
      |(refine jM (by rfl) (.tmp 19) (.tmp 22) (by rfl) J.out.third.fourth.drop (by rfl) (by rfl) P.out ?_;intro v2 w6 r;have s6:row? w6 s 0 2=af #[.int .i64 f,.int .i64 j]:=r.fourth.blk.aL (xs:=[f,j]) rfl;have H6:=ae r;clear r))
   all_goals
    have O:Hid (In G t (e9 v2 (cs++[(f,j)]++under m (f,j))::e9 (.slice (af ⟨g,0,ah⟩) (kids m (b,d)).length I) (kids m (b,d))::ja p m::aN F 43 (ints [b,d])::l) w6):=H6.out.swap.drop.third.drop.third.swap;rw[<-HS.out]at O;clear H6;go_wp2_with fail;go_roundw
    case rel=>exact⟨k+1,by omega,by go_num,O.out⟩
    case measure=>simp[intOf];omega
  have:k=(kids m (b,d)).length:=by omega
  subst this;rw[HU.out]at HI;go_wp2_with fail;go_ret;exact⟨_,rfl,(HI.out.swap.drop.third.drop)⟩
end
section
open Rel
open Go.Conc Go.ConcN
open Go.Conc.Lib (addFn waitFn)
open Go.ConcR (Payload WgAt stA)
open Go.ConcR.Gen (body_wait body_add nm_add nm_wait)
open Go.RowKit
section
variable{Z:Ph} {Fin:(Nat->Prop)->Goroutine->ar->Prop} {Y:Nat->Prop} {w:ar} {r:Nat}
def pM{a g d}(c:∀b m,Z.GP Y b m d w->Z.GP Y b (m+1) g w)(h:Z.Spawns (Z.Fin a) r Y d w):Z.Spawns (Z.Fin a) r Y g w:=by
 cases r with|zero=>obtain⟨m,h⟩:=h;exact⟨m+1,c _ _ h⟩|succ r=>obtain⟨m,h⟩:=h;exact⟨m+1,c _ _ h⟩
end
noncomputable def Ae:Code:=match oD with|.seq _ (.seq (.seq _ (.block _ (.loop x))) _)=>x|_=>.skip
noncomputable def BN:Code:=match oD with|.seq _ (.seq _ x)=>x|_=>.skip
structure EF(φ:Ph) (wp:ar) (w:ar):Prop where
 Tk:∀b,φ.Std b->w.heap[b]? =wp.heap[b]?
 pay:∀b,φ.CB b->ft w b=ft wp b
 size:wp.heap.size<=w.heap.size
 os:w.os=wp.os
 output:w.output=wp.output
structure EH0(φ:Ph) (wp:ar) (bn bf:Nat) (jf:eu) (caps:Array aB):Prop where
 O:φ.Ok
 hP:φ.P=ai
 hty:φ.ty=189
 hz:φ.z=.int .i64 0
 hjv:∀p,p<φ.nj->∃n,φ.jv p=.int .i64 n
 rn:φ.mX bn
 rf:φ.mX bf
 cn:wp.cell? ⟨bn,0,ah⟩=af (.chan (af φ.Ch))
 cf:wp.cell? ⟨bf,0,ah⟩=af (.func (.func jf) #[] caps)
 hJ:zB φ wp jf caps
 rs:∀b,φ.mX b->φ.Std b
 lt:∀b,φ.Std b\/φ.CB b\/b=φ.Wg->b<wp.heap.size
section
variable{Z:Ph} {Y w X:ar} {W V:Nat} {U:eu} {T:Array aB} {S:Nat->Prop} {R:List dj} {r:Nat}
def EF.mr(h:EF Z Y w)(m:Z.MR S w X):EF Z Y X:=⟨λb a=>(m.Tk b a).trans (h.Tk b a),λb a=>(m.pay b a).trans (h.pay b a),bD h.size m.size,m.os.trans h.os,m.output.trans h.output⟩
def EF.al(H:EH0 Z Y W V U T)(h:EF Z Y w)(m:Ph.Al w X):EF Z Y X:=by have c:=h.size;refine⟨λb a=>(m.rest b (by have:=H.lt b (.inl a);omega)).trans (h.Tk b a),λb a=> ?_,bD h.size m.size,m.os.trans h.os,m.output.trans h.output⟩;unfold ft;rw[m.rest b (by have:=H.lt b (.inr (.inl a));omega)];exact h.pay b a
def EF.wg(H:EH0 Z Y W V U T)(h:EF Z Y w)(a)(d:a.block=Z.Wg)(v):EF Z Y (w.setCell a v):=by
 have blk:∀b,b≠Z.Wg->(w.setCell a v).heap[b]? =w.heap[b]?:=λb c=>Below.heap_setCell w a v b (by rw[d];exact c)
 refine⟨λb c=>(blk b λe=>H.O.abj (e▸c)).trans (h.Tk b c),λb c=> ?_,by simpa using h.size,(show(w.setCell a v).os=w.os by unfold dJ;split<;>rfl).trans h.os,(show(w.setCell a v).output=w.output by unfold dJ;split<;>rfl).trans h.output⟩;unfold ft;rw[blk b λe=>H.O.Qs (e▸c)];exact h.pay b c
end
noncomputable def xX(n nj:Int)(fv:aB)(N b:Nat)(t7 t10 t13 t14 t15 t16 t17 t18:aB):dj:=(base 47).at ⟨uq n nj fv N t7 (.pointer (af ⟨b,0,ah⟩)) t10 (.int .i64 nj) (.int .i64 nj) t13 t14 t15 t16 t17 t18 (.int .i64 n) (.int .i64 n) (.bool aq) (.func (.func 105) #[] #[.pointer (af ⟨N+2,0,ah⟩),.pointer (af ⟨N,0,ah⟩)]) (.tuple #[]) (.int .i64 n) undef,[]⟩ [.inRegion (match BN with|.region _ a _=>a|_=>#[]) [0]]
section
variable{φ:Ph} {wp:ar} {N n nj:Nat} {fv:aB} {Z:eu} {Y:Array aB} {cs:List dj} {t7 t10 t13 t14 t15 t16 t17 t18:aB}
def Mf(H:EH0 φ wp (N+2) N Z Y)(T4:1<=n)(hn:n<=8):∀r,r<=n->∀μ w R I J K,(r<n->I=.func (.func 105) #[] #[.pointer (af ⟨N+2,0,ah⟩),.pointer (af ⟨N,0,ah⟩)]/\J=.tuple #[]/\K=.int .i64 ((n-r:Nat):Int))->EF φ wp w->WgLive φ.ty φ.Wg w->φ.Spawns (φ.Fin λ_=>Dw φ j9 (EF φ wp) (xX n nj fv N φ.Wg t7 t10 t13 t14 t15 t16 t17 t18) cs) r μ (G ((base 47).at ⟨uq n nj fv N t7 (.pointer (af ⟨φ.Wg,0,ah⟩)) t10 (.int .i64 nj) (.int .i64 nj) t13 t14 t15 t16 t17 t18 (.int .i64 n) (.int .i64 ((n-r:Nat):Int)) R I J K undef,[]⟩ [.code Ae,.inLoop Ae,.inBlock 2,.code BN]) cs) w:=by
 have L:Go.Conc.Lib.WgLib φ.P j9:=H.hP▸TE;have P:=H.hP;intro r
 induction r with
 |zero=>
  intro _ μ w R I J K ht M Q;obtain⟨rfl,rfl,rfl⟩:=ht (by omega);refine⟨100,?_⟩;simp only[Ae,xX,BN,oD,jR,uq,f47,bT,Nat.sub_zero];refine cw ?_;refine bt ?_;refine Ad (.bool aq) rfl rfl (by simp[base]) (λ_ _=>by go_simp) (λ_ _=>by simp[go_sem, *]) ?_;walk_nrm;refine dh ?_;refine cw ?_;refine iy rfl ?_;refine MX rfl ?_;refine bt ?_;refine n4 (c:=body_wait j9) rfl rfl (by simp[base]) rfl L.f_wait (nm_wait j9) rfl ?_;refine Goes.mono (n:=3) ?_ (by omega);have hW:=λb₀ a₀ ops₀ i₀ rest₀ k₀=>Mq (φ:=φ) (μ:=μ) (L:=j9) (F:=EF φ wp) (AnchW:=λ_=>Dw φ j9 (EF φ wp) (Frame.at b₀ a₀ (.inRegion ops₀ (i₀::rest₀)::k₀)) cs) (b₀:=b₀) (a₀:=a₀) (ops₀:=ops₀) (i₀:=i₀) (rest₀:=rest₀) (k₀:=k₀) (cs:=cs) L (λ_ _ m h=>h.mr m) (λg w h=>h) w ⟨M,Q⟩
  have s:(waitFn j9).ntmps=84:=rfl;simp only[s,Act.eval,List.map_toArray,gg,List.map_nil,bF,List.getElem?_toArray,eQ,List.getElem?_cons_zero,bT,aU,ax,aM,Nat.reduceAdd,Nat.reduceSub];exact hW _ _ _ _ _ _
 |succ r ih=>
  intro hr μ w R I J K ht M Q;clear ht;have lW:(((n-(r+1):Nat):Int))<n:=by omega
  have K3:=M.size;have acR:=H.lt φ.Wg (.inr (.inr rfl));refine⟨100,?_⟩;simp only[Ae,oD,jR,uq,f47,bT];refine cw ?_;refine bt ?_;refine Ad (.bool ak) rfl rfl (by simp[base]) (λ_ _=>by go_simp) (λ_ _=>by simp[go_sem, *]) ?_;walk_nrm;refine dh ?_;refine cw ?_;refine jS rfl ?_;refine jI ?_;refine cw ?_;refine vS ?_;refine bt ?_;refine Ad (.func (.func 105) #[] #[.pointer (af ⟨N+2,0,ah⟩),.pointer (af ⟨N,0,ah⟩)]) rfl rfl (by simp[base]) (λ_ _=>by go_simp) (λ_ _=>by simp[go_sem, *]) ?_;walk_nrm;have V:φ.P.funcs[104]? =af f104:=by rw[P];exact func104
  refine n4 rfl rfl (by simp[base]) rfl V rfl rfl ?_;have s:f104.ntmps=7:=rfl;simp only[s,Act.eval,List.map_toArray,gg,List.map_nil,bF,List.getElem?_toArray,eQ,List.getElem?_cons_zero,bT,aU,ax,aM,Nat.reduceAdd,Nat.reduceSub];simp only[ed,eh,e8,ez,de,eD];refine cw ?_;refine bt ?_;refine Goes.stop (λd f=> ?_);have j:=M.mr f;have q:=f.live Q;have t:=j.size;clear f M Q K3;have p:Ph.Al d (d.alloc (.cells #[.pointer (af ⟨φ.Wg,0,ah⟩)] 232)):=⟨λb T=>Below.heap_alloc d _ b T,by simp,rfl,rfl,rfl⟩;refine⟨rfl,_,d.alloc (.cells #[.pointer (af ⟨φ.Wg,0,ah⟩)] 232),_,stepG_value (v:=.pointer (af ⟨d.heap.size,0,ah⟩)) rfl rfl (by simp[base]) (by rw[P];go_simp),p,λe D=>by have hm:=mem_listed D;rw[P]at hm;simp[go_sem, *]at hm,100,?_⟩;have B:=j.al H p;have E:WgLive φ.ty φ.Wg (d.alloc (.cells #[.pointer (af ⟨φ.Wg,0,ah⟩)] 232)):=let⟨st,sm,h⟩:=q;⟨st,sm,(p.rest φ.Wg (by omega)).trans h⟩;have A:(d.alloc (.cells #[.pointer (af ⟨φ.Wg,0,ah⟩)] 232)).heap[d.heap.size]? =af (.cells #[.pointer (af ⟨φ.Wg,0,ah⟩)] 232):=heap_alloc_new d _;have m1:rV μ d (d.alloc (.cells #[.pointer (af ⟨φ.Wg,0,ah⟩)] 232)) d.heap.size:=.inr ⟨ao _,by simp⟩;have z1:wp.heap.size<=d.heap.size:=t;generalize rV μ d (d.alloc (.cells #[.pointer (af ⟨φ.Wg,0,ah⟩)] 232))=S at *;generalize d.alloc (.cells #[.pointer (af ⟨φ.Wg,0,ah⟩)] 232)=w2 at *;generalize YE:d.heap.size=l at *;clear p j q t YE;clear d;walk_nrm;refine Goes.stop (λd f=> ?_);have j:=B.mr f;have q:=f.live E;have t:=j.size;have O:=(f.own l m1).trans A;clear f B E A;have p:Ph.Al d (d.alloc (.cells #[.func (.func 105) #[] #[.pointer (af ⟨N+2,0,ah⟩),.pointer (af ⟨N,0,ah⟩)]] 1)):=⟨λb T=>Below.heap_alloc d _ b T,by simp,rfl,rfl,rfl⟩;refine⟨rfl,_,d.alloc (.cells #[.func (.func 105) #[] #[.pointer (af ⟨N+2,0,ah⟩),.pointer (af ⟨N,0,ah⟩)]] 1),_,stepG_value (v:=.pointer (af ⟨d.heap.size,0,ah⟩)) rfl rfl (by simp[base]) (by rw[P];go_simp),p,λe D=>by have hm:=mem_listed D;rw[P]at hm;simp[go_sem, *]at hm,200,?_⟩;have B:=j.al H p;have E:WgLive φ.ty φ.Wg (d.alloc (.cells #[.func (.func 105) #[] #[.pointer (af ⟨N+2,0,ah⟩),.pointer (af ⟨N,0,ah⟩)]] 1)):=let⟨st,sm,h⟩:=q;⟨st,sm,(p.rest φ.Wg (by omega)).trans h⟩;have lt1:l<d.heap.size:=(aC.1 O).1;have A:(d.alloc (.cells #[.func (.func 105) #[] #[.pointer (af ⟨N+2,0,ah⟩),.pointer (af ⟨N,0,ah⟩)]] 1)).heap[l]? =af (.cells #[.pointer (af ⟨φ.Wg,0,ah⟩)] 232):=(p.rest l lt1).trans O;have c2:(d.alloc (.cells #[.func (.func 105) #[] #[.pointer (af ⟨N+2,0,ah⟩),.pointer (af ⟨N,0,ah⟩)]] 1)).heap[d.heap.size]? =af (.cells #[.func (.func 105) #[] #[.pointer (af ⟨N+2,0,ah⟩),.pointer (af ⟨N,0,ah⟩)]] 1):=heap_alloc_new d _;have u:rV S d (d.alloc (.cells #[.func (.func 105) #[] #[.pointer (af ⟨N+2,0,ah⟩),.pointer (af ⟨N,0,ah⟩)]] 1)) l:=.inl m1;have m2:rV S d (d.alloc (.cells #[.func (.func 105) #[] #[.pointer (af ⟨N+2,0,ah⟩),.pointer (af ⟨N,0,ah⟩)]] 1)) d.heap.size:=.inr ⟨ao _,by simp⟩;clear m1;generalize rV S d (d.alloc (.cells #[.func (.func 105) #[] #[.pointer (af ⟨N+2,0,ah⟩),.pointer (af ⟨N,0,ah⟩)]] 1))=μ2 at *;generalize d.alloc (.cells #[.func (.func 105) #[] #[.pointer (af ⟨N+2,0,ah⟩),.pointer (af ⟨N,0,ah⟩)]] 1)=w2 at *;have z2:wp.heap.size<=d.heap.size:=t;generalize hC:d.heap.size=C at *;clear p j q t hC O;clear d;walk_nrm;refine dh ?_;refine cw ?_;refine bt ?_;refine U4 (.pointer (af ⟨φ.Wg,0,ah⟩)) rfl rfl (by simp[base]) (λd f=>by
   have U:d.cell? ⟨l,0,ah⟩=af (.pointer (af ⟨φ.Wg,0,ah⟩)):=by unfold da;simp only[f.own l u,A];rfl
   rw[P];go_simp) (λd f e D=>by
   have U:d.cell? ⟨l,0,ah⟩=af (.pointer (af ⟨φ.Wg,0,ah⟩)):=by unfold da;simp only[f.own l u,A];rfl
   rw[P]at D;simp[go_sem, *]at D;subst D;exact .inr (.inr ⟨rfl,l,rfl,.inl u⟩)) ?_
  walk_nrm;refine n4 (c:=body_add j9) rfl rfl (by simp[base]) rfl L.f_add (nm_add j9) rfl ?_;have s:(addFn j9).ntmps=117:=rfl;simp only[s,Act.eval,List.map_toArray,gg,List.map_nil,bF,List.getElem?_toArray,eQ,List.getElem?_cons_zero,bT,aU,ax,aM,Nat.reduceAdd,Nat.reduceSub];have hA:=λb₀ a₀ ops₀ i₀ rest₀ k₀ cs' hT=>UE (φ:=φ) (μ:=μ2) (L:=j9) (F:=λw=>EF φ wp w/\w.heap[l]? =af (.cells #[.pointer (af ⟨φ.Wg,0,ah⟩)] 232)/\w.heap[C]? =af (.cells #[.func (.func 105) #[] #[.pointer (af ⟨N+2,0,ah⟩),.pointer (af ⟨N,0,ah⟩)]] 1))
   (Next:=φ.Spawns (φ.Fin λ_=>Dw φ j9 (EF φ wp) (xX n nj fv N φ.Wg t7 t10 t13 t14 t15 t16 t17 t18) cs) r) (b₀:=b₀) (a₀:=a₀) (ops₀:=ops₀) (i₀:=i₀) (rest₀:=rest₀) (k₀:=k₀) (cs:=cs') (mT:=20) L H.hty
   (λw w' m h=>⟨h.1.mr m,(m.own l u).trans h.2.1,(m.own C m2).trans h.2.2⟩)
   (λw v h=>⟨h.1.wg H (stA φ.Wg) rfl v,(Below.heap_setCell w (stA φ.Wg) v l (by simp[stA];omega)).trans h.2.1,(Below.heap_setCell w (stA φ.Wg) v C (by simp[stA];omega)).trans h.2.2⟩) hT w2 ⟨⟨B,A,c2⟩,E⟩
  refine Goes.mono (n:=100) ?_ (by omega);refine hA _ _ _ _ _ _ _ ?_;clear hA;intro w ⟨M,A,c2⟩ Q;walk_nrm;refine dh ?_;refine bt ?_;refine Ad (.func (.func 154) #[] #[.pointer (af ⟨l,0,ah⟩),.pointer (af ⟨C,0,ah⟩)]) rfl rfl (by simp[base]) (λ_ _=>by go_simp) (λ_ _=>by simp[go_sem, *]) ?_;walk_nrm;refine Goes.stop (λd f=> ?_);have j:=M.mr f;have q:=f.live Q;have d1:=(f.own l u).trans A;have d2:=(f.own C m2).trans c2;have e1:=(aC.1 d1).1;have e2:=(aC.1 d2).1;clear f M Q A c2;have hK:WK φ wp l C (.func (.func 105) #[] #[.pointer (af ⟨N+2,0,ah⟩),.pointer (af ⟨N,0,ah⟩)]) ⟨λb=>b=l\/b=C,λ_=>False,False⟩ d:=by
   refine⟨.inl rfl,.inr rfl,by unfold da;simp only[d1];rfl,d2,λb T=>j.Tk b (H.rs b T),j.pay,q,λx hx=> ?_,j.size,λi hi=>hi.elim⟩;have hx':wp.heap.size<=x/\x<d.heap.size:=by rcases hx with rfl|rfl<;>omega
   exact⟨λU=>by have:=H.lt x (.inr (.inl U));omega,λU=>by have:=H.lt x (.inl (H.rs x U));omega,λe=>by have:=H.lt x (.inr (.inr e));omega,hx'.2⟩
  have X:∀(y:Array Oper)(i:Nat)(o:Oper)(a:Act)(z:List Nat)(k:List Item)(cs:List dj),y[i]? =af o->Region.wanted o (yielded y a.tmps)=ak->o.op=.go {callee:=.value (.tmp 6),args:=#[],argTypes:=#[]}->a.eval (.tmp 6)=.func (.func 154) #[] #[.pointer (af ⟨l,0,ah⟩),.pointer (af ⟨C,0,ah⟩)]->
   stepG φ.P ak (G ((base 104).at a (.inRegion y (i::z)::k)) cs) d=.spawn (G ((base 104).at (a.put o.dst undef) (.inRegion y z::k)) cs) (born φ.P (nQ 154 #[.pointer (af ⟨l,0,ah⟩),.pointer (af ⟨C,0,ah⟩)] #[])) d #[]:=by
   intro y i o a z k cs ho hw W hu;have hr:(execOp a.eval o).run φ.P d=.ok (.spawn (nQ 154 #[.pointer (af ⟨l,0,ah⟩),.pointer (af ⟨C,0,ah⟩)] #[])) d:=by unfold execOp;simp[W,resolve,Deferred.ofValue,hu,nQ]
   have D:(execOp a.eval o).events φ.P d #[]=#[]:=by unfold execOp;simp[W,resolve,Deferred.ofValue,hu]
   rw[stepG_spawn ho hw (by simp[base]) hr rfl];congr 1;unfold listed;rw[D,seen_none]
  refine⟨rfl,_,_,λb=>b=l\/b=C,X _ _ _ _ _ _ _ rfl rfl rfl rfl,(by rintro b (rfl|rfl)<;>assumption),TI H.O H.hP H.hty H.hz H.hjv H.rn H.rf H.cn H.cf H.hJ hK,?_⟩;clear X hK;generalize (λb=>μ2 b/\¬(λb=>b=l\/b=C) b)=μ3;walk_nrm;refine pM (λ_ _=>dh) ?_;refine pM (λ_ _=>U3) ?_;refine pM (λ_ _ h=>qi rfl rfl V rfl h) ?_;walk_nrm;refine pM (λ_ _=>dh) ?_;refine pM (λ_ _=>Ac) ?_;refine pM (λ_ _=>xn rfl) ?_;simp only[aU,ax,aM,Nat.reduceAdd,bN,bB,ca];have Y0:IntKind.i64.wrap (((n-(r+1):Nat):Int)+1)=((n-r:Nat):Int):=by rw[IntKind.wrap_i64];omega
  refine pM (λ_ _ h=>Ad (.int .i64 ((n-r:Nat):Int)) rfl rfl (by simp[base]) (λ_ _=>by go_simp) (λ_ _=>by simp[go_sem, *]) h) ?_;walk_nrm;refine pM (λ_ _ h=>Ad (.int .i64 ((n-r:Nat):Int)) rfl rfl (by simp[base]) (λ_ _=>by go_simp) (λ_ _=>by simp[go_sem, *]) h) ?_;walk_nrm;refine pM (λ_ _=>dh) ?_;refine pM (λ_ _=>D6) ?_;exact ih (by omega) μ3 d _ _ _ _ (λ_=>⟨rfl,rfl,rfl⟩) j q
end
end
section
open Rel
open Go.Conc Go.ConcN
open Go.ConcR (Payload WgAt stA)
open Go.RowKit
noncomputable def vK(n nj:Int)(fv:aB)(N b:Nat)(t7 t10 t13 t14 t15 t16 t17 t18:aB):dj:=(base 47).at ⟨uq n nj fv N t7 (.pointer (af ⟨b,0,ah⟩)) t10 (.int .i64 nj) (.int .i64 nj) t13 t14 t15 t16 t17 t18 (.int .i64 n) (.int .i64 n) (.bool aq) (.func (.func 105) #[] #[.pointer (af ⟨N+2,0,ah⟩),.pointer (af ⟨N,0,ah⟩)]) (.tuple #[]) (.int .i64 n) (.tuple #[]),[]⟩ [.inRegion (match BN with|.region _ a _=>a|_=>#[]) []]
structure N0 where
 CB:Nat->Prop
 jl:Nat->Addr->Prop
 J0:Nat->ar->Prop
 JP:(Nat->Prop)->Nat->ar->Prop
structure N0.Ok(J:N0):Prop where
 lK:∀i a,J.jl i a->J.CB a.block
 Am:∀i i' a,J.jl i a->J.jl i' a->i=i'
 jp:∀(o:Nat->Prop)(w fC:ar)(i:Nat),(∀b,o b->fC.heap[b]? =w.heap[b]?)->(∀a,J.jl i a->fC.cell? a=w.cell? a)->J.JP o i w->J.JP o i fC
 j0:∀(w fC:ar)(i:Nat),(∀a,J.jl i a->fC.cell? a=w.cell? a)->J.J0 i w->J.J0 i fC
 xt:∀(o o':Nat->Prop)(w:ar)(i:Nat),(∀b,o b->o' b)->J.JP o i w->J.JP o' i w
noncomputable def FW(J:N0)(N n nj lo:Nat)(a:Nat->Prop):Ph where
 P:=ai
 ty:=189
 Wg:=N+3
 Ch:=N+1
 n:=n
 nj:=nj
 lo:=lo
 jv:=λp=>.int .i64 p
 z:=.int .i64 0
 mX:=λb=>(b<N+4/\b≠N+1/\b≠N+3/\¬J.CB b)/\¬a b
 Std:=λb=>b<N+4/\b≠N+1/\b≠N+3/\¬J.CB b
 CB:=J.CB
 jl:=J.jl
 J0:=J.J0
 JP:=J.JP
def Zi{J}(K:J.Ok){N n nj lo Shun}(a:∀b,J.CB b->b<N)(c:0<lo)(e:n<=8):(FW J N n nj lo Shun).Ok:=by refine⟨by simp[FW],λh=>h.1.2.2.1 rfl,λh=>h.1.2.1 rfl,λh=> ?_,λh=> ?_,λb h d=>d.1.2.2.2 h,λh=>h.2.2.1 rfl,λh=>h.2.1 rfl,λb h d=>d.2.2.2 h,K.lK,K.Am,K.jp,K.j0,K.xt,c,by show n<_;omega⟩;have:=a _ h;simp[FW]at this;omega;have:=a _ h;simp[FW]at this;omega
structure E4(CB:Nat->Prop) (w w':ar):Prop where
 old:∀b,b<w.heap.size->¬CB b->w'.heap[b]? =w.heap[b]?
 shape:∀b,CB b->ft w' b=ft w b
 size:w.heap.size<=w'.heap.size
 os:w'.os=w.os
 output:w'.output=w.output
 tape:w'.tape=w.tape
section
variable{c:h9} {Z:aB->ar->Prop} {b:dj} {a:Act} {k:List Item} {cs:List dj} {Y:Array Oper} {i:Nat} {X:List Nat} {o:Oper} {w:ar} {W U S:Operand} {R:Array cD} {n nj:Nat} {Q:eu} {M:Array aB} {J:N0} {I:Nat->Prop}
def UN(hold:c.old<=w.heap.size)(ho:Y[i]? =af o)(hw:Region.wanted o (yielded Y a.tmps)=ak)(hb:b.kind=.normal)(hop:o.op=.call {callee:=.value (.func 47),args:=#[W,U,S],argTypes:=R})(h0:a.eval W=.int .i64 n)(h1:a.eval U=.int .i64 nj)(h2:a.eval S=.func (.func Q) #[] M)(T4:1<=n)(hn:n<=8)(hnj:nj<=1000)(K:J.Ok)(D:∀b,J.CB b->b<w.heap.size)(ack:∀π,Rel.Sub π->(∀l,π l l->∃o,w.heap[l]? =af o/\jH c.sig π o o)->zA c π (b.at a (.inRegion Y (i::X)::k))->(∀r,I r->π r r)/\∀r,J.CB r->π r r)(hNR:∀r,I r->¬J.CB r)(hj0:∀p,p<nj->J.J0 p w)(YM:∀φ wp,φ.Ok->φ.P=ai->φ.nj=nj->(∀p,φ.jv p=.int .i64 p)->φ.CB=J.CB->φ.jl=J.jl->φ.J0=J.J0->φ.JP=J.JP->(∀r,I r->φ.mX r)->(∀r,r<w.heap.size->wp.heap[r]? =w.heap[r]?)->Tryz.prog.globals.size<=wp.heap.size->(∀r,φ.mX r\/φ.CB r\/r=φ.Wg->r<wp.heap.size)->zB φ wp Q M)(M4:∀w',E4 J.CB w w'->(∀p,p<nj->∃o:Nat->Prop,(∀r,o r->w.heap.size+4<=r/\r<w'.heap.size)/\J.JP o p w')->∃V:Nat->Prop,(∀r,V r->w.heap.size+4<=r/\r<w'.heap.size)/\(∀r,J.CB r\/V r->∃o,w'.heap[r]? =af o/\jH c.sig (only V) o o)/\CY ai c Z (G (b.at (a.put o.dst (.tuple #[])) (.inRegion Y X::k)) cs) w'):CY ai c Z (G (b.at a (.inRegion Y (i::X)::k)) cs) w:=by
 refine UO hold ho hw hb hop func47 rfl rfl ?_;rw[enter_at _ func47 rfl];have aaH:(#[W,U,S].map a.eval)=#[.int .i64 n,.int .i64 nj,.func (.func Q) #[] M]:=by simp[h0,h1,h2]
 rw[aaH];have hnt:f47.ntmps=26:=rfl;simp only[hnt,aU,ax,aM,Nat.reduceAdd,Nat.reduceSub];refine Rq (w0:=w) (n:=n) (nj:=nj) (fv:=.func (.func Q) #[] M) (by omega) rfl ?_;intro y t7 t10 t13 t14 t15 t16 t17 t18 h6;simp only[oD,jR,uq,f47,bT];have s6:=h6.size;refine nL ?_;refine jX ?_;simp only[aU,ax,aM,Nat.reduceAdd,bN,bB,ca];have YW:∀u d,(dG y u d).heap.size=w.heap.size+3:=λ_ _=>s6
 refine EY.step (w':=y.alloc (.cells #[.int .u64 0,.int .u32 0] 189)) (TP:=y.heap.size) rfl (λu d=>⟨_,stepG_value (v:=.pointer (af ⟨w.heap.size+3,0,ah⟩)) rfl rfl (by simp[base]) (by have hs:=YW u d;go_simp;rfl),λe he=>by have hm:=mem_listed he;simp[go_sem, *]at hm⟩) (λr f=>Below.heap_alloc y _ r (by omega)) (by simp) (ao _) (by simp) ?_;walk_nrm;have hB:y.heap.size<=(y.alloc (.cells #[.int .u64 0,.int .u32 0] 189)).heap.size:=by simp
 have s7:(y.alloc (.cells #[.int .u64 0,.int .u32 0] 189)).heap.size=w.heap.size+4:=by simp[s6]
 have b7:∀r,r<w.heap.size+3->(y.alloc (.cells #[.int .u64 0,.int .u32 0] 189)).heap[r]? =y.heap[r]?:=λr f=>Below.heap_alloc y _ r (by omega)
 have c7:(y.alloc (.cells #[.int .u64 0,.int .u32 0] 189)).heap[w.heap.size+3]? =af (.cells #[.int .u64 0,.int .u32 0] 189):=by rw[<-s6];exact heap_alloc_new y _
 have o7:(y.alloc (.cells #[.int .u64 0,.int .u32 0] 189)).os=y.os/\(y.alloc (.cells #[.int .u64 0,.int .u32 0] 189)).output=y.output:=⟨rfl,rfl⟩;generalize y.alloc (.cells #[.int .u64 0,.int .u32 0] 189)=j at *;rw[s6]at hB;rw[s6];refine EY.ctl rfl (λ_=>stepG_region_end) hB ?_;refine EY.ctl rfl (λ_=>stepG_seq) hB ?_;refine EY.ctl rfl (λ_=>stepG_seq) hB ?_;refine EY.ctl rfl (λ_=>stepG_region) hB ?_;simp only[aU,ax,aM,Nat.reduceAdd,bN,bB,ca];refine EY.step (w':=j) (TP:=w.heap.size+3) rfl (λu d=>⟨_,stepG_value (v:=.int .i64 n) rfl rfl (by simp[base]) (by go_simp),λe he=>by have hm:=mem_listed he;simp[go_sem, *]at hm⟩) (λ_ _=>rfl) (ao _) (ao _) hB ?_;walk_nrm;refine EY.step (w':=j) (TP:=w.heap.size+3) rfl (λu d=>⟨_,stepG_value (v:=.int .i64 0) rfl rfl (by simp[base]) (by go_simp),λe he=>by have hm:=mem_listed he;simp[go_sem, *]at hm⟩) (λ_ _=>rfl) (ao _) (ao _) hB ?_;walk_nrm;refine EY.ctl rfl (λ_=>stepG_region_end) hB ?_;refine EY.ctl rfl (λ_=>stepG_block) hB ?_;refine EY.ctl rfl (λ_=>stepG_loop) hB ?_;intro u d π C sl q t Shun B hBB h;have TX:(dG j u d).heap.size=w.heap.size+4:=s7;have hold:∀r,r<w.heap.size->j.heap[r]? =w.heap[r]?:=λr f=>(b7 r (by omega)).trans (h6.old r f)
 obtain⟨hv1,Xg⟩:=ack π h.sub (λl hl=>by obtain⟨o,o',e1,e2,e3⟩:=h.hp.obj l l hl;have:=h.T7 l hl;rw[e1]at e2;cases e2;exact⟨o,(hold l this).symm.trans e1,e3⟩) (h.fr _ (by simp))
 have O:=Zi (N:=w.heap.size) (n:=n) (nj:=nj) (lo:=C.size) (Shun:=Shun) K D h.co.pos hn;have E:∀r,Shun r->r<w.heap.size:=h.sh;have A:∀r,(FW J w.heap.size n nj C.size Shun).Std r\/(FW J w.heap.size n nj C.size Shun).CB r\/r=(FW J w.heap.size n nj C.size Shun).Wg->r<(dG j u d).heap.size:=by intro r f;rw[TX];rcases f with f|f|f;exact f.1;have:=D r f;omega;subst f;simp[FW]
 have rd3:∀r,r=w.heap.size\/r=w.heap.size+2->(FW J w.heap.size n nj C.size Shun).mX r:=λr f=>⟨⟨by omega,by omega,by omega,λhc=>by have:=D r hc;omega⟩,λhs=>by have:=E r hs;omega⟩
 have H:EH0 (FW J w.heap.size n nj C.size Shun) (dG j u d) (w.heap.size+2) w.heap.size Q M:=by
  refine⟨O,rfl,rfl,rfl,λp _=>⟨_,rfl⟩,rd3 _ (.inr rfl),rd3 _ (.inl rfl),?_,?_,?_,λr f=>f.1,A⟩;show j.cell? _=_;unfold da;simp only[b7 (w.heap.size+2) (by omega),h6.cn];rfl;show j.cell? _=_;unfold da;simp only[b7 w.heap.size (by omega),h6.cf];rfl;refine YM _ _ O rfl rfl (λ_=>rfl) rfl rfl rfl rfl (λr f=> ?_) (λr f=>hold r f) h.hp.mG λr f=> ?_
  have:=h.T7 r (hv1 r f);exact⟨⟨by omega,by omega,by omega,hNR r f⟩,h.NH r (hv1 r f)⟩;rcases f with f|f;exact A r (.inl f.1);exact A r (.inr f)
 have L:Go.Conc.Lib.WgLib (FW J w.heap.size n nj C.size Shun).P j9:=TE;have hE0:EF (FW J w.heap.size n nj C.size Shun) (dG j u d) (dG j u d):=⟨λ_ _=>rfl,λ_ _=>rfl,ao _,rfl,rfl⟩;have hW0:WgAt 189 (w.heap.size+3) (dG j u d) 0 0:=c7;have hsp:=Mf (φ:=FW J w.heap.size n nj C.size Shun) (wp:=dG j u d) (N:=w.heap.size) (n:=n) (nj:=nj) (fv:=.func (.func Q) #[] M) (cs:=b.at a (.inRegion Y (i::X)::k)::cs) (t7:=t7) (t10:=t10) (t13:=t13) (t14:=t14) (t15:=t15) (t16:=t16) (t17:=t17) (t18:=t18) H T4 hn n (ao _) (λ_=>False) (dG j u d) undef undef undef undef (λhh=>absurd hh (Nat.lt_irrefl _)) hE0 ⟨0,0,hW0⟩
 rw[Nat.sub_self]at hsp;simp only[Ae,BN,oD,jR,uq,f47,bT]at hsp;refine LA (φ:=FW J w.heap.size n nj C.size Shun) (Goal:=λg w'=>g=G (vK n nj (.func (.func Q) #[] M) w.heap.size (w.heap.size+3) t7 t10 t13 t14 t15 t16 t17 t18) (b.at a (.inRegion Y (i::X)::k)::cs)/\EF (FW J w.heap.size n nj C.size Shun) (dG j u d) w') O ?_ ?_ (by exact hBB) h.co rfl (λr f=>⟨A r (.inl f.1),f.2⟩) (λr f=>A r (.inl f)) (λr f=>⟨A r (.inr (.inl f)),h.NH r (Xg r f)⟩) (by rw[TX];simp[FW]) (by rw[TX];simp[FW]) hW0 ?_ (λp hp=> ?_) h.g0 T4 hsp ?_
 rintro μ g w' ⟨T,rfl,_⟩;rfl;intro μ g w' hA;refine Mp (μ:=μ) (L:=j9) (F:=EF (FW J w.heap.size n nj C.size Shun) (dG j u d)) (b₀:=base 47) (i₀:=0) (rest₀:=[]) (k₀:=[]) (mT:=0) L rfl (λ_ _ m hh=>hh.mr m) (λw a v ha hh=>hh.wg H a ha v) ?_ g w' hA;intro w2 hF2 _;refine Goes.stop λw3 h3=>⟨rfl,?_,hF2.mr h3⟩
 rfl;obtain⟨s,r,tm,hch⟩:=h6.ch;exact⟨bH _,nj,s,r,tm,(b7 _ (by simp[FW])).trans hch⟩;exact K.j0 w (dG j u d) p (λad U7=>by have:=D _ (K.lK p ad U7);show j.cell? ad=_;unfold da;rw[hold _ this]) (hj0 p hp)
 ·rintro gs' w' sl' q' t' a' ha' hr' ⟨rfl,z⟩ abZ ach hjp;rw[TX]at ach hjp;have abX:E4 J.CB w (dG w' w.tape w.drawn):=by refine⟨λr f hc=>(z.Tk r ⟨by omega,by omega,by omega,hc⟩).trans (hold r f),λr f=>(z.pay r f).trans ?_,by show w.heap.size<=w'.heap.size;omega,z.os.trans (o7.1.trans h6.os),z.output.trans (o7.2.trans h6.output),rfl⟩;show ft j r=_;unfold ft;rw[hold r (D r f)]
  obtain⟨V,hV1,hV2,hcy⟩:=M4 (dG w' w.tape w.drawn) abX λp hp=>by obtain⟨o,ho1,ho2⟩:=hjp p hp;exact⟨o,ho1,K.jp o w' (dG w' w.tape w.drawn) p (λ_ _=>rfl) (λ_ _=>rfl) ho2⟩
  have acd:EH ai c w'.heap.size (b.at a (.inRegion Y (i::X)::k)::cs) (grow π V) (λr=>Shun r\/r=w.heap.size+3) w'.heap.size gs' q' t' (G (vK n nj (.func (.func Q) #[] M) w.heap.size (w.heap.size+3) t7 t10 t13 t14 t15 t16 t17 t18) (b.at a (.inRegion Y (i::X)::k)::cs)) (dG w' w.tape w.drawn):=by
   have hin:∀r,grow π V r r->r<w'.heap.size/\¬(Shun r\/r=w.heap.size+3):=by rintro r ⟨_,f⟩;rcases f with f|f;have:=h.T7 r f;exact⟨by omega,λhs=>hs.elim (h.NH r f) λe=>by omega⟩;have:=hV1 r f;exact⟨this.2,λhs=>hs.elim (λx=>by have:=E r x;omega) λe=>by omega⟩
   refine⟨RH _ _,cg.grown (P:=ai) (CB:=J.CB) h.sub ⟨h.hp.ok,h.hp.obj,h.hp.mG,h.hp.rm,h.hp.old⟩ (by show j.heap.size<=w'.heap.size;omega) (λr f hc=> ?_) hV2 (λad x hx=> ?_),λr f=>(hin r f).2,λr f=>(hin r f).1,λr f=>f.elim (λx=>by have:=E r x;omega) λe=>by omega,ao _,ao _,abZ,ha',λr f=>f.elim (h.old r) λe=>by have:=h.Lt;omega,by have:=h.Lt;omega,λfr hfr=>(h.fr fr hfr).mono (Ii (P:=ai) h.sub)⟩;rotate_left;have h1:=c.FG ad x hx;have h2:=h.Lt;exact⟨λhv=>by have:=hV1 _ hv;omega,z.Tk ad.block ⟨by omega,by omega,by omega,λhc=>(h.hp.old ad x hx).1 _ (Xg _ hc)⟩⟩;exact(z.Tk r ⟨by have:=h.T7 r f;omega,by have:=h.T7 r f;omega,by have:=h.T7 r f;omega,hc⟩)
  have hk:EY ai c Z w'.heap.size (b.at a (.inRegion Y (i::X)::k)::cs) w'.heap.size (G (vK n nj (.func (.func Q) #[] M) w.heap.size (w.heap.size+3) t7 t10 t13 t14 t15 t16 t17 t18) (b.at a (.inRegion Y (i::X)::k)::cs)) (dG w' w.tape w.drawn):=by
   unfold vK;refine EY.ctl rfl (λ_=>stepG_region_end) (ao _) ?_;refine EY.ctl rfl (λ_=>stepG_end) (ao _) ?_;refine EY.ctl (g':=G (b.at (a.put o.dst (.tuple #[])) (.inRegion Y X::k)) cs) rfl (λw=> ?_) (ao _) ?_;rw[stepG_leave rfl rfl func47 (results_none rfl _ _ w) (events_results_none rfl _ _),Frame.finish_at,ho];rfl;refine Yn (λNV hfr=> ?_) hcy;have acX:=λfr ab2=>hfr fr ab2
   exact vR (x:=.inRegion Y (i::X)::k) (λfr hx=>hfr fr hx) o.dst (.inl (.tuple rfl (by simp)))
  exact hk w'.tape w'.drawn _ gs' sl' q' t' _ w'.heap.size (ao _) acd
end
end
section
open Go.RowKit
def BH(r v n)(a:∀j,j<8-> -1000000000<=v.getD j 0/\v.getD j 0<=1000000000):∀k,k<=8->n-1000000000 *k<=pN r v n k/\pN r v n k<=n+1000000000 *k|0,_=>by simp[pN]|k+1,hk=>by have b:=BH r v n a k (by omega);have c:=a k (by omega);unfold pN;split<;>omega
def PG(n w):Calls ai 126 #[.int .i64 n] w λe a=>e=.returned (.int .i64 (k8 n))/\a=w:=(Jh n w).mono λ_ _ h=>⟨h.1,h.2.symm⟩
def PT(b s)(hb:bx b=0)(hv:b.v.length=8)(hs:dH s=0)(w):Calls ai 61 #[.agg (ints b.list),.agg (ints s.list)] w λe c=>e=.returned (.agg (ints (bU b s).list))/\Below w.heap.size w c:=by
 obtain⟨⟨K0,Vd⟩,p⟩:=jQ b hb;obtain⟨q1,q2,q3,r8,w8,a1,a3,n1,n2,_,_⟩:=mS hs;have z:∀{m:Int},ck m=ak->zF m:=λh=>by unfold ck at h;simpa[zF]using h
 have ZY:Hid (∀w,Calls ai 125 #[.int .i64 b.k,.agg (ints s.q.list)] w λe c=>e=.returned (.bool (eM b.k s.q))/\Below w.heap.size w c):=λw=>Gj b.k s.q ⟨K0,Vd⟩ (z q1) (z q2) (z q3) w
 have T:b.list.length=9:=by simp[bw.list,hv]
 go_enter func61,ntmps61;go_upto_region 1 with(fail)
 refine a6 (In (λ_=>False) w [aN (w.heap.size+1+1) 48 (ints [0,0,0,0,0,0,0,0,0]),aN (w.heap.size+1) 54 (ints s.list),aN w.heap.size 48 (ints b.list)]) ?_ ?_;have:=(((In.nil w (λ_=>False)).alloc 48 (ints b.list)).alloc 54 (ints s.list)).alloc 48 (ints [0,0,0,0,0,0,0,0,0]);simp only[bZ]at this;exact this;intro w1 S;have k0:w1.cell? ⟨w.heap.size,0,ah⟩=af (.int .i64 b.k):=S.third.blk.cell 0;have q0:row? w1 (w.heap.size+1) 0 3=af (ints s.q.list):=by rw[S.swap.blk.dy 0 3 (by simp[Sys.list])];rfl
 have y6:=ae S;clear S;go_wp2_with fail;refine(ZY.out w1).mono ?_;rintro e w2 ⟨rfl,sQ⟩;have C:=ae (y6.out.below sQ);clear sQ k0 q0 y6 ZY;by_cases hq:eM b.k s.q=ak;rotate_left
 ·have Vg:eM b.k s.q=aq:=by simpa using hq
  have HD:Hid (bU b s=b):=by unfold Hid bU;rw[if_neg hq]
  rw[Vg];have g1:row? w2 w.heap.size 0 9=af (ints b.list):=C.out.third.blk.aL T;have g2:fits w2 (w.heap.size+1+1) 0 9=ak:=C.out.blk.fits 0 9 (by rw[aR];simp);have HP:=ae (C.out.dY b.list (by omega));clear hq Vg p K0 Vd;go_wp2_with fail;refine kP rfl (w.heap.size+1+1) 48 (ints b.list) _ rfl HP.out.blk underlying48 rfl (by rw[aR,T];exact lI) rfl ?_;exact⟨by rw[HD.out],HP.out.ko⟩
 rw[hq];have F:m8 b.k=b.k.toNat:=by unfold m8;rw[Int.emod_eq_of_lt (by omega) (by omega)]
 obtain⟨r0,r1⟩:=z r8;obtain⟨x0,x1⟩:=z w8;have hR:m8 s.read=s.read.toNat:=by unfold m8;rw[Int.emod_eq_of_lt (by omega) (by omega)]
 have J:m8 s.write=s.write.toNat:=by unfold m8;rw[Int.emod_eq_of_lt (by omega) (by omega)]
 have HHK:Hid (∀k,k<8->∀w,Calls ai 29 #[.int .i64 b.k,.int .i64 (k:Nat)] w λe c=>e=.returned (.bool (b.k.toNat.testBit k))/\w=c):=λk hk w=>by rw[<-F];exact lR b.k k w hk
 have HHR:Hid (∀k,k<8->∀w,Calls ai 29 #[.int .i64 s.read,.int .i64 (k:Nat)] w λe c=>e=.returned (.bool (s.read.toNat.testBit k))/\w=c):=λk hk w=>by rw[<-hR];exact lR s.read k w hk
 have HHW:Hid (∀k,k<8->∀w,Calls ai 29 #[.int .i64 s.write,.int .i64 (k:Nat)] w λe c=>e=.returned (.bool (s.write.toNat.testBit k))/\w=c):=λk hk w=>by rw[<-J];exact lR s.write k w hk
 have HD:Hid (bU b s=⟨b.k,o0 (b.k.toNat &&& s.write.toNat) s.act s.n (pN (b.k.toNat &&& s.read.toNat) b.v s.n 8) b.v 8⟩):=by unfold Hid bU;rw[if_pos hq,Tl hv (by omega) (by omega)]
 have HSB:=ae (BH (b.k.toNat &&& s.read.toNat) b.v s.n λj hj=>(p j hj).2);have HV:=ae λj hj=>(p j hj).2
 clear hq F hR J r8 w8 q1 q2 q3 p;have g1:row? w2 w.heap.size 0 9=af (ints b.list):=C.out.third.blk.aL T;go_upto_region 4 with(fail)
 refine a6 (In (λ_=>False) w [aN w2.heap.size 48 (ints b.list),aN (w.heap.size+1+1) 48 (ints [0,0,0,0,0,0,0,0,0]),aN (w.heap.size+1) 54 (ints s.list),aN w.heap.size 48 (ints b.list)]) (C.out.struct 48 [0,0,0,0,0,0,0,0,0] b.list T) ?_;generalize w2.heap.size=r;clear g1 C;intro w3 Fw;have k1:w3.cell? ⟨w.heap.size+1,6,ah⟩=af (.int .i64 s.n):=Fw.third.blk.cell 6;have GV:=ae Fw;clear Fw;go_wp2_with fail;clear k1;have hmb:∀k,(b.k.toNat &&& s.write.toNat).testBit k=(b.k.toNat.testBit k&&s.write.toNat.testBit k):=λk=>lk _ _ _
 have vY:∀k,(b.k.toNat &&& s.read.toNat).testBit k=(b.k.toNat.testBit k&&s.read.toNat.testBit k):=λk=>lk _ _ _
 generalize b.k.toNat &&& s.write.toNat=m at *;generalize b.k.toNat &&& s.read.toNat=L at *;have P:=ae hmb;have TS:=ae vY;clear hmb vY K0 Vd r0 r1 x0 x1;go_loopw [6,7,8,21] (λsm f l i c=>∃k:Nat,k<=8/\i=.int .i64 k/\sm=.int .i64 (pN L b.v s.n k)/\f=.int .i64 (rB m k)/\l=.int .i64 (mq m k)/\In (λ_=>False) w [aN r 48 (ints (b.k::lV m s.act s.n b.v k)),aN (w.heap.size+1+1) 48 (ints [0,0,0,0,0,0,0,0,0]),aN (w.heap.size+1) 54 (ints s.list),aN w.heap.size 48 (ints b.list)] c) (λ_ _ _ i _=>8-(intOf i).toNat)
 case atStart=>exact⟨0,by omega,rfl,rfl,rfl,rfl,GV.out⟩
 case round=>
  clear GV;obtain⟨k,T2,rfl,rfl,rfl,rfl,a⟩:=hrel;by_cases y:k<8
  ·have rW:(k:Int)<8:=by omega
   have hS:=HSB.out k T2;have hV:=HV.out k y;have X:pN L b.v s.n (k+1)=if(b.k.toNat.testBit k&&s.read.toNat.testBit k)=ak then pN L b.v s.n k+b.v.getD k 0 else pN L b.v s.n k:=by rw[<-TS.out k];rfl
   have F1:rB m (k+1)=if(b.k.toNat.testBit k&&s.write.toNat.testBit k&&decide (rB m k<0))=ak then(k:Int)else rB m k:=by rw[<-P.out k];rfl
   have L1:mq m (k+1)=if(b.k.toNat.testBit k&&s.write.toNat.testBit k)=ak then(k:Int)else mq m k:=by rw[<-P.out k];rfl
   have O1:lV m s.act s.n b.v (k+1)=if(b.k.toNat.testBit k&&s.write.toNat.testBit k)=ak then
    (let o:=if s.act=1 then(lV m s.act s.n b.v k).set k (k8 (b.v.getD k 0+s.n))else lV m s.act s.n b.v k
     if s.act=3/\0<=mq m k then o.set (mq m k).toNat (b.v.getD k 0)else o)
    else lV m s.act s.n b.v k:=by rw[<-P.out k];rfl
   have F:=HHK.out k y;have hR:=HHR.out k y;have J:=HHW.out k y;have c0:wr.cell? ⟨w.heap.size,0,ah⟩=af (.int .i64 b.k):=a.fourth.blk.cell 0;have c1:wr.cell? ⟨w.heap.size,1+k,ah⟩=af (.int .i64 (b.v.getD k 0)):=by
    rw[a.fourth.blk.cell (1+k)];have:k<b.v.length:=by omega
    simp[ints,bw.list,bM 1 k,this]
   have c3:wr.cell? ⟨w.heap.size+1,3,ah⟩=af (.int .i64 s.read):=a.third.blk.cell 3;have c4:wr.cell? ⟨w.heap.size+1,4,ah⟩=af (.int .i64 s.write):=a.third.blk.cell 4;have c5:wr.cell? ⟨w.heap.size+1,5,ah⟩=af (.int .i64 s.act):=a.third.blk.cell 5;have c6:wr.cell? ⟨w.heap.size+1,6,ah⟩=af (.int .i64 s.n):=a.third.blk.cell 6;have acC:wrap64 (pN L b.v s.n k+b.v.getD k 0)=pN L b.v s.n k+b.v.getD k 0:=IntWalk.wrap64_in _ (by omega);have aaG:wrap64 (b.v.getD k 0+s.n)=b.v.getD k 0+s.n:=IntWalk.wrap64_in _ (by omega);have ac6:(lV m s.act s.n b.v k).length=8:=by rw[wq,hv]
   have hlk:=FC m k;generalize hsk:pN L b.v s.n k=B at *;generalize b.v.getD k 0=vk at *;generalize rB m k=fk at *;generalize mq m k=H at *;generalize b.k.toNat.testBit k=xk at *;generalize s.read.toNat.testBit k=xr at *;generalize s.write.toNat.testBit k=xw at *;generalize OO:lV m s.act s.n b.v k=u at *;have HOC:Hid (∀i,i<8->wr.cell? ⟨r,1+i,ah⟩=af (.int .i64 (u.getD i 0))):=λi hi=>by
    rw[a.blk.cell (1+i)];have:i<u.length:=by omega
    simp[ints,bM 1 i,this]
   have V:Hid (∀i x W,W=wr.setCell ⟨r,1+i,ah⟩ (.int .i64 x)->In (λ_=>False) w [aN r 48 (ints (b.k::u.set i x)),aN (w.heap.size+1+1) 48 (ints [0,0,0,0,0,0,0,0,0]),aN (w.heap.size+1) 54 (ints s.list),aN w.heap.size 48 (ints b.list)] W):=λi x W e=>by rw[e];have:=In.set a (1+i) (.int .i64 x);rw[ints_set,bM 1 i]at this;rw[bM 1 i];exact this
   have X:=ae X;have F1:=ae F1;have L1:=ae L1;have O1:=ae O1;have F:=ae F;have hR:=ae hR;have J:=ae J;have n:=ae a;clear a hS hV;cases xk
   ·go_wp2_with fail;refine(F.out _).mono ?_;rintro e c ⟨rfl,rfl⟩;go_wp2_with fail;go_roundw
    case rel=>exact⟨k+1,by omega,by go_num,by rw[X.out];rfl,by rw[F1.out];rfl,by rw[L1.out];rfl,by rw[O1.out];exact n.out⟩
    simp[intOf];omega
   cases xr;all_goals
    go_wp2_with fail;refine(F.out _).mono ?_;rintro e c ⟨rfl,rfl⟩;go_wp2_with fail;refine(hR.out _).mono ?_;rintro e c ⟨rfl,rfl⟩;go_wp2_with fail;refine(J.out _).mono ?_;rintro e c ⟨rfl,rfl⟩;cases xw
    ·go_wp2_with fail;go_roundw
     case rel=>exact⟨k+1,by omega,by go_num,by rw[X.out];rfl,by rw[F1.out];rfl,by rw[L1.out];rfl,by rw[O1.out];exact n.out⟩
     simp[intOf];omega
    ·by_cases hf:fk<0;all_goals
      have M:Hid (rB m (k+1)=if fk<0 then(k:Int)else fk):=by unfold Hid;rw[F1.out];simp
      have O:Hid (mq m (k+1)=(k:Int)):=by unfold Hid;rw[L1.out];rfl
      have G:lV m s.act s.n b.v (k+1)=(let o:=if s.act=1 then u.set k (k8 (vk+s.n))else u;if s.act=3/\0<=H then o.set H.toNat vk else o):=by rw[O1.out];rfl
      clear F1 L1;by_cases I:s.act=1
      ·have h1b:(s.act==1)=ak:=by simp[I]
       have A:(s.act==3)=aq:=by simp[I]
       have c7:wr.cell? ⟨r,1+k,ah⟩=af (.int .i64 (u.getD k 0)):=HOC.out k y;have c8:wr.frozen? ⟨r,1+k,ah⟩=aq:=n.out.blk.frozen _;have D:Hid (lV m s.act s.n b.v (k+1)=u.set k (k8 (vk+s.n))):=by unfold Hid;rw[G,if_pos I,if_neg (by rw[I];simp)]
       have v:=ae (V.out k (k8 (vk+s.n)));clear I G;go_upto_region 16 with(fail)
       go_still_tail 11,(by kernel_rfl)
       still_call (PG _ _)
       repeat still_step
       refine wpStill_nil ?_;change wpList _ _ _ _ _ wr.drew;go_upto_region 17 with(fail)
       refine a6 (In (λ_=>False) w [aN r 48 (ints (b.k::u.set k (k8 (vk+s.n)))),aN (w.heap.size+1+1) 48 (ints [0,0,0,0,0,0,0,0,0]),aN (w.heap.size+1) 54 (ints s.list),aN w.heap.size 48 (ints b.list)]) (by rw[aaG];exact(v.out _ rfl).drew) ?_;clear c0 c1 c3 c4 c5 c6 c7 c8;intro w5 E;have c5:w5.cell? ⟨w.heap.size+1,5,ah⟩=af (.int .i64 s.act):=E.third.blk.cell 5;have N:=ae E;clear E;go_wp2_with fail;go_roundw
       case rel=>exact⟨k+1,by omega,by go_num,by rw[X.out];rfl,by rw[M.out];first|rw[if_pos hf]|rw[if_neg (by omega)],by rw[O.out],by rw[D.out];exact N.out⟩
       simp[intOf];omega
      ·have h1b:(s.act==1)=aq:=by simp[I]
       by_cases t:s.act=3/\0<=H
       ·have A:(s.act==3)=ak:=by simp[t.1]
        have D:Hid (lV m s.act s.n b.v (k+1)=u.set H.toNat vk):=by unfold Hid;rw[G,if_neg I,if_pos t]
        obtain⟨d,RN⟩:=t;obtain⟨q,rfl⟩:∃q:Nat,H=q:=⟨H.toNat,by omega⟩;have hq8:q<8:=by omega
        have hqi:(q:Int)<8:=by omega
        have c7:wr.cell? ⟨r,1+q,ah⟩=af (.int .i64 (u.getD q 0)):=HOC.out q hq8;have c8:wr.frozen? ⟨r,1+q,ah⟩=aq:=n.out.blk.frozen _;have v:=ae (V.out q vk);clear I d G;go_wp2_with fail;go_roundw
        case rel=>exact⟨k+1,by omega,by go_num,by rw[X.out];rfl,by rw[M.out];first|rw[if_pos hf]|rw[if_neg (by omega)],by rw[O.out],by rw[D.out,bP];exact v.out _ rfl⟩
        simp[intOf];omega
       have D:Hid (lV m s.act s.n b.v (k+1)=u):=by unfold Hid;rw[G,if_neg I,if_neg t]
       clear G;by_cases d:s.act=3
       ·have A:(s.act==3)=ak:=by simp[d]
        have RN:H<0:=by omega
        clear I t d;go_wp2_with fail;go_roundw
        case rel=>exact⟨k+1,by omega,by go_num,by rw[X.out];rfl,by rw[M.out];first|rw[if_pos hf]|rw[if_neg (by omega)],by rw[O.out],by rw[D.out];exact n.out⟩
        simp[intOf];omega
       have A:(s.act==3)=aq:=by simp[d]
       clear I t d;go_wp2_with fail;go_roundw
       case rel=>exact⟨k+1,by omega,by go_num,by rw[X.out];rfl,by rw[M.out];first|rw[if_pos hf]|rw[if_neg (by omega)],by rw[O.out],by rw[D.out];exact n.out⟩
       simp[intOf];omega
  have HKE:Hid (k=8):=by unfold Hid;omega
  have rW:¬(k:Int)<8:=by omega
  have hlk:=FC m k;have hfk:=MU m k;have K:(lV m s.act s.n b.v k).length=8:=by rw[wq,hv]
  have Q:Hid (Di m s.act s.n b.v=if s.act=3/\0<=mq m k then(lV m s.act s.n b.v k).set (mq m k).toNat (b.v.getD (rB m k).toNat 0)else lV m s.act s.n b.v k):=by unfold Hid;rw[HKE.out];rfl
  have hSK:pN L b.v s.n 8=pN L b.v s.n k:=by rw[HKE.out]
  rw[hSK]at HD;clear hSK;generalize mq m k=H at *;generalize rB m k=fk at *;generalize hsk:pN L b.v s.n k=B at *;generalize OO:lV m s.act s.n b.v k=u at *;have c5:wr.cell? ⟨w.heap.size+1,5,ah⟩=af (.int .i64 s.act):=a.third.blk.cell 5;have n:=ae a;clear a;have t:(s.act=3/\0<=H)\/(s.act=3/\H<0)\/s.act≠3:=by omega
  rcases t with t|t|t
  case' inl=>
   have A:(s.act==3)=ak:=by simp[t.1]
   have U:=ae (Q.out.trans (if_pos t));obtain⟨d,RN⟩:=t;obtain⟨q,rfl⟩:∃q:Nat,H=q:=⟨H.toNat,by omega⟩;obtain⟨g,rfl⟩:∃g:Nat,fk=g:=⟨fk.toNat,by omega⟩;have hq8:q<8:=by omega
   have hg8:g<8:=by omega
   have hqi:(q:Int)<8:=by omega
   have hgi:(g:Int)<8:=by omega
   have c1:wr.cell? ⟨w.heap.size,1+g,ah⟩=af (.int .i64 (b.v.getD g 0)):=by
    rw[n.out.fourth.blk.cell (1+g)];have:g<b.v.length:=by omega
    simp[ints,bw.list,bM 1 g,this]
   have c7:wr.cell? ⟨r,1+q,ah⟩=af (.int .i64 (u.getD q 0)):=by
    rw[n.out.blk.cell (1+q)];have:q<u.length:=by omega
    simp[ints,bM 1 q,this]
   have c8:wr.frozen? ⟨r,1+q,ah⟩=aq:=n.out.blk.frozen _;have v:Hid (In (λ_=>False) w [aN r 48 (ints (b.k::Di m s.act s.n b.v)),aN (w.heap.size+1+1) 48 (ints [0,0,0,0,0,0,0,0,0]),aN (w.heap.size+1) 54 (ints s.list),aN w.heap.size 48 (ints b.list)] (wr.setCell ⟨r,1+q,ah⟩ (.int .i64 (b.v.getD g 0)))):=by unfold Hid;rw[U.out,bP,bP];have:=In.set n.out (1+q) (.int .i64 (b.v.getD g 0));rw[ints_set,bM 1 q]at this;rw[bM 1 q];exact this
   generalize b.v.getD g 0=x at *;clear d;go_upto_region 23 with(fail)
   refine a6 _ v.out ?_;clear c1 c7 c8 v U
  case' inr.inl=>
   have A:(s.act==3)=ak:=by simp[t.1]
   have U:=ae (Q.out.trans (if_neg (by omega)));obtain⟨d,RN⟩:=t;clear d;rw[<-U.out]at n;go_upto_region 23 with(fail)
   refine a6 _ n.out ?_;clear U
  case' inr.inr=>
   have A:(s.act==3)=aq:=by simp[t]
   have U:=ae (Q.out.trans (if_neg (by omega)));clear t;rw[<-U.out]at n;go_upto_region 23 with(fail)
   refine a6 _ n.out ?_;clear U
  all_goals
   clear n c5 A Q hlk hfk K;intro w5 E;have N:=ae E;clear E;go_wp2_with fail;go_loopw [91] (λi c=>∃k:Nat,k<=8/\i=.int .i64 k/\In (λ_=>False) w [aN r 48 (ints (b.k::o0 m s.act s.n B b.v k)),aN (w.heap.size+1+1) 48 (ints [0,0,0,0,0,0,0,0,0]),aN (w.heap.size+1) 54 (ints s.list),aN w.heap.size 48 (ints b.list)] c) (λi _=>8-(intOf i).toNat)
   case atStart=>exact⟨0,by omega,rfl,N.out⟩
   case round=>
    clear N;obtain⟨k,T2,rfl,a⟩:=hrel;clear rW;have K:=IZ m s.act s.n B b.v k;rw[hv]at K;by_cases y:k<8
    ·have rW:(k:Int)<8:=by omega
     have R:Hid (o0 m s.act s.n B b.v (k+1)=if s.act=2/\(b.k.toNat.testBit k&&s.write.toNat.testBit k)=ak then(o0 m s.act s.n B b.v k).set k (k8 B)else o0 m s.act s.n B b.v k):=by rw[<-P.out k];rfl
     have F:=HHK.out k y;have J:=HHW.out k y;have c0:wr.cell? ⟨w.heap.size,0,ah⟩=af (.int .i64 b.k):=a.fourth.blk.cell 0;have c4:wr.cell? ⟨w.heap.size+1,4,ah⟩=af (.int .i64 s.write):=a.third.blk.cell 4;have c5:wr.cell? ⟨w.heap.size+1,5,ah⟩=af (.int .i64 s.act):=a.third.blk.cell 5;generalize b.k.toNat.testBit k=xk at *;generalize s.write.toNat.testBit k=xw at *;generalize OO:o0 m s.act s.n B b.v k=u at *;have c7:wr.cell? ⟨r,1+k,ah⟩=af (.int .i64 (u.getD k 0)):=by
      rw[a.blk.cell (1+k)];have:k<u.length:=by omega
      simp[ints,bM 1 k,this]
     have c8:wr.frozen? ⟨r,1+k,ah⟩=aq:=a.blk.frozen _;have v:Hid (In (λ_=>False) w [aN r 48 (ints (b.k::u.set k (k8 B))),aN (w.heap.size+1+1) 48 (ints [0,0,0,0,0,0,0,0,0]),aN (w.heap.size+1) 54 (ints s.list),aN w.heap.size 48 (ints b.list)] (wr.setCell ⟨r,1+k,ah⟩ (.int .i64 (k8 B)))):=by have:=In.set a (1+k) (.int .i64 (k8 B));rw[ints_set,bM 1 k]at this;unfold Hid;rw[bM 1 k];exact this
     have F:=ae F;have J:=ae J;have n:=ae a;clear a K;by_cases Y:s.act=2
     ·have h2b:(s.act==2)=ak:=by simp[Y]
      cases xk
      ·have Z:=ae (R.out.trans (if_neg (by simp)));clear Y;go_wp2_with fail;refine(F.out _).mono ?_;rintro e c ⟨rfl,rfl⟩;go_wp2_with fail;go_roundw
       case rel=>exact⟨k+1,by omega,by go_num,by rw[Z.out];exact n.out⟩
       simp[intOf];omega
      cases xw
      ·have Z:=ae (R.out.trans (if_neg (by simp)));clear Y;go_wp2_with fail;refine(F.out _).mono ?_;rintro e c ⟨rfl,rfl⟩;go_wp2_with fail;refine(J.out _).mono ?_;rintro e c ⟨rfl,rfl⟩;go_wp2_with fail;go_roundw
       case rel=>exact⟨k+1,by omega,by go_num,by rw[Z.out];exact n.out⟩
       simp[intOf];omega
      have Z:=ae (R.out.trans (if_pos ⟨Y,rfl⟩));clear Y;go_wp2_with fail;refine(F.out _).mono ?_;rintro e c ⟨rfl,rfl⟩;go_wp2_with fail;refine(J.out _).mono ?_;rintro e c ⟨rfl,rfl⟩;go_wp2_with fail;refine(Jh _ _).mono ?_;rintro e c ⟨rfl,rfl⟩;go_wp2_with fail;go_roundw
      case rel=>exact⟨k+1,by omega,by go_num,by rw[Z.out];exact v.out⟩
      simp[intOf];omega
     have h2b:(s.act==2)=aq:=by simp[Y]
     have Z:=ae (R.out.trans (if_neg λh=>Y h.1));clear Y;go_wp2_with fail;go_roundw
     case rel=>exact⟨k+1,by omega,by go_num,by rw[Z.out];exact n.out⟩
     simp[intOf];omega
    have M3:k=8:=by omega
    subst M3;have Ve:(b.k::o0 m s.act s.n B b.v 8).length=9:=by simp[K]
    have g1:row? wr r 0 9=af (ints (b.k::o0 m s.act s.n B b.v 8)):=a.blk.aL Ve;have g2:fits wr (w.heap.size+1+1) 0 9=ak:=a.swap.blk.fits 0 9 (by rw[aR];simp);have HP:=ae (a.swap.dY (b.k::o0 m s.act s.n B b.v 8) (by rw[Ve];rfl));clear a;go_wp2_with fail;refine kP rfl (w.heap.size+1+1) 48 (ints (b.k::o0 m s.act s.n B b.v 8)) _ rfl HP.out.blk underlying48 rfl (by rw[aR,Ve];exact lI) rfl ?_;exact⟨by rw[HD.out];rfl,HP.out.ko⟩
def PI(a b w):Calls ai 115 #[iU a,iU b] w λe k=>e=.returned (.bool (D' a b))/\Below w.heap.size w k:=by
 obtain⟨c,f⟩:=a;obtain⟨d,g⟩:=b;have n:Hid (D' (c,f) (d,g)=(decide (c<d)||(decide (c=d)&&decide (f<g)))):=rfl;show Calls ai 115 #[.agg #[.int .i64 c,.int .i64 f],.agg #[.int .i64 d,.int .i64 g]] w _;go_enter func115,ntmps115;go_upto_region 1 with(fail)
 refine a6 (λk=>(di k w.heap.size 43 #[.int .i64 c,.int .i64 f]/\di k (w.heap.size+1) 43 #[.int .i64 d,.int .i64 g])/\Below w.heap.size w k) ?_ ?_;have j:di (w.alloc (.cells #[.int .i64 c,.int .i64 f] 43)) w.heap.size 43 #[.int .i64 c,.int .i64 f]:=di.new _ _ _;have h:di ((w.alloc (.cells #[.int .i64 c,.int .i64 f] 43)).alloc (.cells #[.int .i64 d,.int .i64 g] 43)) (w.alloc (.cells #[.int .i64 c,.int .i64 f] 43)).heap.size 43 #[.int .i64 d,.int .i64 g]:=di.new _ _ _;rw[bZ]at h;exact⟨⟨j.after ((Below.refl _ _).alloc (ao _) _),h⟩,((Below.refl _ _).alloc (ao _) _).alloc (by simp) _⟩;rintro l ⟨⟨j,h⟩,q⟩;have s:l.cell? ⟨w.heap.size,0,ah⟩=af (.int .i64 c):=j.cell 0;have t:l.cell? ⟨w.heap.size,1,ah⟩=af (.int .i64 f):=j.cell 1;have u:l.cell? ⟨w.heap.size+1,0,ah⟩=af (.int .i64 d):=h.cell 0;have v:l.cell? ⟨w.heap.size+1,1,ah⟩=af (.int .i64 g):=h.cell 1;have m:=ae q;clear j h q;by_cases o:c<d
 ·have i:Hid ((decide (c<d)||(decide (c=d)&&decide (f<g)))=ak):=by unfold Hid;simp[o]
  go_wp2_with fail;go_ret;exact⟨cG (n.out.trans i.out).symm,m.out⟩
 by_cases p:c=d
 ·subst p;have i:Hid ((decide (c<c)||(decide (c=c)&&decide (f<g)))=decide (f<g)):=by unfold Hid;simp
  clear o;go_wp2_with fail;go_ret;exact⟨cG (n.out.trans i.out).symm,m.out⟩
 have i:Hid ((decide (c<d)||(decide (c=d)&&decide (f<g)))=aq):=by unfold Hid;simp[o,p]
 have r:(c==d)=aq:=by simpa using p
 go_wp2_with fail;go_ret;exact⟨cG (n.out.trans i.out).symm,m.out⟩
end
section
open Go.RowKit
attribute [local go_sem] Oper.semAt_some
def N6(p h w):Calls ai 136 #[.pointer (af ⟨p,0,ah⟩),iU h] w λe a=>
 e=.returned (.func (.func 182) #[] #[.pointer (af ⟨w.heap.size,0,ah⟩),.pointer (af ⟨w.heap.size+1,0,ah⟩)])/\
 a=(w.alloc (.cells #[.pointer (af ⟨p,0,ah⟩)] 81)).alloc (.cells (ints (hL h)) 43):=by
 obtain⟨b,c⟩:=h;rw[j7];go_enter func136,ntmps136;go_wp2_with fail;go_ret;exact⟨rfl,rfl⟩
def ll.uniq{m h c}(e:ll m h c):∀{b},ll m h b->c=b:=by
 induction e with
 |nil d=>
  intro b a;cases a with|nil _=>rfl|cons h _=>rw[d]at h;cases h
 |cons hm _ f=>
  intro b a;cases a with|nil h=>rw[hm]at h;cases h|cons h a=>rw[hm]at h;cases Option.some.inj h;rw[f a]
open Classical in
noncomputable def zR(m:lF)(h:Hd):Nat:=if hx:∃a,ll m h a then(Classical.choose hx).length else 0
def Hm{m h a}(c:ll m h a):zR m h=a.length:=by have b:∃a,ll m h a:=⟨a,c⟩;unfold zR;rw[dif_pos b,(Classical.choose_spec b).uniq c]
noncomputable def jW(m:lF)(b c:aB)(w:ar):Nat:=
 match c,b with
 |.bool ak,.pointer (af a)=>(match w.cell? ⟨a.block,0,ah⟩,w.cell? ⟨a.block,1,ah⟩with
  |some (.int .i64 x),af (.int .i64 y)=>zR m (x,y)+1|_,_=>0)
 |_,_=>0
def vz{m a w t h c}(i:ll m h c)(b:di w a t (ints (hL h))):jW m (.pointer (af ⟨a,0,ah⟩)) (.bool ak) w=c.length+1:=by obtain⟨f,g⟩:=h;have d:w.cell? ⟨a,0,ah⟩=af (.int .i64 f):=b.cell 0;have e:w.cell? ⟨a,1,ah⟩=af (.int .i64 g):=b.cell 1;unfold jW;simp only[d,e];rw[Hm i]
def TH{F n P}{c:Code}{Q a w}(I:ar->Prop)(h:I w)(k:∀b,I b->c.wpIn F n P Q a b):c.wpIn F n P Q a w:=k w h
structure eF(A B:ar):Prop where
 size:A.heap.size<=B.heap.size
 same:∀(k:Nat)(o:Obj),A.heap[k]? =af o->(o.isCells||o.isWalk)=ak->B.heap[k]? =af o
def eF.refl(A):eF A A:=⟨ao _,λ_ _ h _=>h⟩
def eF.trans{A B C}(h:eF A B)(a:eF B C):eF A C:=⟨bD h.size a.size,λk o c b=>a.same k o (h.same k o c b) b⟩
def eF.fJ{A B}(h:Below A.heap.size A B):eF A B:=⟨h.size,λk o a _=>(h.block k (aC.1 a).1).trans a⟩
def eF.blk{A B}(h:eF A B){g t a}(b:di A g t a):di B g t a:=h.same g _ b rfl
def eF.map{A B}(h:eF A B){g i d e a b}{m:List (g×i)}(hm:eE d e a A b m):eE d e a B b m:=by refine hm.block ?_;obtain⟨j,c,f,_⟩:=hm;rw[f];exact h.same b _ f rfl
def eF.rT{A B}(h:eF A B){p b m}(a:qX A p b m):qX B p b m:=⟨a.ok,h.blk a.blk,h.map a.map⟩
def Ix{A B C}:eF A B->eF B C->eF A C:=eF.trans
def Iw{n}:∀W l o c,n<=l->W.heap[l]? =af o->o.isCells=aq->o.isWalk=aq->eF W (W.putObj l c):=λW l o c _ g d f=>⟨by simp,λk q a b=>by by_cases e:k=l;subst e;rw[g]at a;cases a;rw[d,f]at b;cases b;rw[World.putObj_heap_other e];exact a⟩
def sP{A B}(h:Below A.heap.size A B):A.grownBy B ah:=⟨h.os,h.tape,h.output,h.size,λk a _=>h.block k a⟩
def G7(n)(hn:1<=n)(K hb p b m h xs)(hc:ll m h xs)(w)(hF:di w K 81 #[.pointer (af ⟨p,0,ah⟩)])(hH:di w hb 43 (ints (hL h)))(hS:qX w p b m):SeqStopsK Fence.wide n ai 182 #[.pointer (af ⟨K,0,ah⟩),.pointer (af ⟨hb,0,ah⟩)] (λx:Hd=>#[iU x]) eF (λys=>ys=xs) (λd=>d <+: xs) xs.length w:=λl J Jx W O hJ hJx hY h0=>by
 have HJ:=ae hJ;have HY:=ae hY;have HW:=ae O;have HS:=ae hS;have HC:=ae hc;have HF:=ae hF;have HJ0:=ae h0;obtain⟨y,z⟩:=h;have t:=HS.out.after O;have k0:W.cell? ⟨p,0,ah⟩=af (.map (af b)):=t.blk.cell 0;have k1:row? W hb 0 2=af #[.int .i64 y,.int .i64 z]:=(hH.after O).aL (xs:=[y,z]) rfl;have k2:W.cell? ⟨K,0,ah⟩=af (.pointer (af ⟨p,0,ah⟩)):=(hF.after O).cell 0;have B:=(Below.refl W.heap.size W).alloc (ao _) (.cells #[.int .i64 0,.int .i64 0] 43);have k3:row? (W.alloc (.cells #[.int .i64 0,.int .i64 0] 43)) hb 0 2=af #[.int .i64 y,.int .i64 z]:=((hH.after O).after B).aL (xs:=[y,z]) rfl;have k4:(W.alloc (.cells #[.int .i64 0,.int .i64 0] 43)).cell? ⟨p,0,ah⟩=af (.map (af b)):=(t.blk.after B).cell 0;have k5:(W.alloc (.cells #[.int .i64 0,.int .i64 0] 43)).cell? ⟨K,0,ah⟩=af (.pointer (af ⟨p,0,ah⟩)):=((hF.after O).after B).cell 0;have Q:=s8 t.map (y,z) (Below.refl _ _).drew;have R:=s8 t.map (y,z) (((Below.refl _ W).alloc (ao _) (.cells #[.int .i64 0,.int .i64 0] 43)).drew);rw[j7]at Q R;have i:Hid (l9 m (y,z)=(xs.head?.getD (0,0),xs.head?.isSome)):=by unfold Hid l9;rw[hc.get]
 generalize l9 m (y,z)=r at *;obtain⟨⟨k,o⟩,is⟩:=r;simp only[j7]at Q R;clear hJ hY O hS hc hF hH h0 t B;refine callsIn_of_wp func182 rfl trivial ?_ rfl;simp only[ntmps182,aU,ax,aM,Nat.reduceAdd,Nat.reduceSub,ed,eh,e8,ez,de,eD];have X:Hid (∀w1,w1=(putRow (W.alloc (.cells (ints [0,0]) 43)) W.heap.size 0 [k,o]).drew->J [] w1/\di w1 W.heap.size 43 (ints [k,o])/\Below W.heap.size W w1):=by rintro w1 rfl;have hbb:=(fy W 43 [0,0] [k,o]).drew;exact⟨HJ.out [] W _ ah HJ0.out (sP hbb) (λr e=>by cases e),(iT W 43 [0,0] [k,o] rfl).drew,hbb⟩
 have V:Hid (di W K 81 #[.pointer (af ⟨p,0,ah⟩)]):=HF.out.after HW.out;have Y:Hid (qX W p b m):=HS.out.after HW.out
 gi_wp2
 gi_region
 all_goals
  clear k0 k1 k2 k3 k4 k5 Q R
  gi_wp2
  gi_loopw [4,5] (λv4 v5 wr=>∃(d c:List Hd)(h':Hd)(I:Nat),v4=.pointer (af ⟨I,0,ah⟩)/\v5=.bool c.head?.isSome/\xs=d++c/\ll m h' c/\J d wr/\di wr I 43 (ints (hL (c.head?.getD (0,0))))/\di wr K 81 #[.pointer (af ⟨p,0,ah⟩)]/\qX wr p b m) (λv4 v5 wr=>jW m v4 v5 wr)
  case atStart=>obtain⟨g1,T,g3⟩:=X.out _ rfl;have S:xs.head?.getD (0,0)=(k,o):=(congrArg Prod.fst i.out).symm;have e2:xs.head?.isSome=is:=(congrArg Prod.snd i.out).symm;exact⟨[],xs,(y,z),W.heap.size,rfl,by rw[e2],rfl,HC.out,g1,by rw[S];exact T,V.out.after g3,Y.out.after g3⟩
  case round=>
   clear X V Y;obtain⟨d,c,h',I,rfl,rfl,hx,u,L,P,hfb,hfs⟩:=hrel;cases c with
   |nil=>
    gi_wp2
    go_end0
    exact⟨⟨_,rfl⟩,.inl ⟨d,by simp[hx],L⟩⟩
   |cons q c=>
    obtain⟨f,g⟩:=q;have hq:eI m h'=af (f,g)/\ll m (f,g) c:=by cases u with|cons a b=>exact⟨a,b⟩
    obtain⟨fn,tmps,assign,body,hy,M⟩:=HY.out d (f,g) wr L (by rw[hx];simp);simp only[j7]at hy;have q3:row? wr I 0 2=af #[.int .i64 f,.int .i64 g]:=P.aL (xs:=[f,g]) rfl;have HX:=ae hx;have HQ:=ae hq.2;have U:Hid (di wr I 43 (ints (hL (f,g)))):=P;have HFB:=ae hfb;have HFS:=ae hfs;have HRR:=ae M;clear hx u L P hfb hfs hq M
    gi_wp2
    refine HRR.out.mono ?_;rintro e j (⟨rfl,hJ3,C⟩|⟨rfl,abQ⟩)
    ·have HJ3:=ae hJ3;have H:=C.blk U.out;have F:=ae (C.blk HFB.out);have G:=ae (C.rT HFS.out);have q4:row? j I 0 2=af #[.int .i64 f,.int .i64 g]:=H.aL (xs:=[f,g]) rfl;clear hJ3 C H hy q3
     gi_wp2
     refine TH (λw4=>di w4 j.heap.size 43 (ints [f,g])/\Below j.heap.size j w4) ⟨iT j 43 [0,0] [f,g] rfl,fy j 43 [0,0] [f,g]⟩ ?_;rintro Z ⟨D,A⟩;have N:=G.out.after A;have k0:Z.cell? ⟨p,0,ah⟩=af (.map (af b)):=N.blk.cell 0;have k1:row? Z j.heap.size 0 2=af #[.int .i64 f,.int .i64 g]:=D.aL (xs:=[f,g]) rfl;have k2:Z.cell? ⟨K,0,ah⟩=af (.pointer (af ⟨p,0,ah⟩)):=(F.out.after A).cell 0;have f4:fits Z j.heap.size 0 2=ak:=D.fits 0 2 (by rw[aR];simp);have hl4:=s8 N.map (f,g) (Below.refl _ _).drew;rw[j7]at hl4;have i:Hid (l9 m (f,g)=(c.head?.getD (0,0),c.head?.isSome)):=by unfold Hid l9;rw[HQ.out.get]
     generalize l9 m (f,g)=r at *;obtain⟨⟨k,o⟩,is⟩:=r;simp only[j7]at hl4;have E:Hid (∀w5,w5=(putRow Z j.heap.size 0 [k,o]).drew->di w5 j.heap.size 43 (ints [k,o])/\Below j.heap.size j w5):=by rintro w5 rfl;exact⟨(D.dY [k,o] rfl).drew,(lP A (ao _) 0 _).drew⟩
     clear D A N q4
     gi_region
     all_goals
      gi_wp2
      go_roundw
      case rel=>obtain⟨g1,T⟩:=E.out _ rfl;have S:c.head?.getD (0,0)=(k,o):=(congrArg Prod.fst i.out).symm;have e2:c.head?.isSome=is:=(congrArg Prod.snd i.out).symm;exact⟨d++[(f,g)],c,(f,g),j.heap.size,rfl,by rw[e2],by rw[HX.out];simp,HQ.out,HJ.out _ j _ ah HJ3.out (sP T) (λr e=>by cases e),by rw[S];exact g1,F.out.after T,G.out.after T⟩
      case measure=>
       obtain⟨g1,T⟩:=E.out _ rfl;have S:c.head?.getD (0,0)=(k,o):=(congrArg Prod.fst i.out).symm;have e2:c.head?.isSome=is:=(congrArg Prod.snd i.out).symm;have M:jW m (.pointer (af ⟨I,0,ah⟩)) (.bool ak) wr=c.length+1:=vz HQ.out U.out;rw[<-e2];cases hrs:c with
       |nil=>rw[hrs]at M;show jW m _ (.bool aq) _<jW m _ (.bool ak) wr;rw[M];simp[jW]|cons s v=>
        have u:=HQ.out;rw[hrs]at u M S;have hs:ll m s v:=by cases u with|cons a b=>exact b
        have e3:s=(k,o):=S;have hL:jW m (.pointer (af ⟨j.heap.size,0,ah⟩)) (.bool ak) _=v.length+1:=vz hs (by rw[e3];exact g1);show jW m _ (.bool ak) _<jW m _ (.bool ak) wr;rw[hL,M];simp
    gi_wp2
    refine bodyPost_ret (results_none rfl _ _ _) rfl ?_;exact⟨⟨_,rfl⟩,.inr ⟨d++[(f,g)],⟨c,by simp[HX.out]⟩,abQ⟩⟩
end
section
open Go.RowKit
section
variable{Z Y:Type} [DecidableEq Z] {P:Program} {F:Fence} {X:Nat} {k:cD} {W:Z->aB} {V:Y->aB} {U:Z->Prop} {w:ar}
def y5(K:lZ P k W U){l e o a Q}(s:o.guard=ah)(t)(f:o.op=Op.next t aq)(b r m left)(p:a.eval t=.pointer (af ⟨r,0,ah⟩))(h:dz W V U w b r m left)(i:left=[]->wpListIn F X P l Q e (a.put o.dst (.tuple #[.bool aq])) w)(j:∀x v g,(x,v)∈left->dz W V U g b r m (dB left x)->cT (· =r) w g->g.heap.size=w.heap.size->(dB left x).length<left.length->(Instr.entry (.pointer (af ⟨r,0,ah⟩))).run P g=.ok (.tuple #[W x,V v]) g->wpListIn F X P l Q e (a.put o.dst (.tuple #[.bool ak,W x,V v])) g):wpListIn F X P l Q (o::e) a w:=by
 refine wpListIn_plain s λE n=> ?_
 unfold Oper.wpIn;refine⟨by simp[Oper.about,f],?_⟩;rw[Oper.semAt_plain F _ _ (by rw[f];intro c q;cases q)];rcases h.step K o.type with⟨u,d⟩|⟨x,v,g,D,d,y,z,A,B,C⟩;simp[execOp,f,p,d,Result.andThen];exact n _ _ (i u);simp[execOp,f,p,d,Result.andThen];exact n _ _ (j x v g D y z A B C)
end
section
variable{Z Y:Type} {P:Program} {F:Fence} {X:Nat} {k:cD} {W:Z->aB} {V:Y->aB} {U:Z->Prop} {w:ar}
def vr{j d o a Q}(p:o.guard=ah)(q t e)(f:o.op=Op.range t q)(x:P.underlying t=af (.map k e))(b m)(hm:a.eval q=.map (af b))(h:eE W V U w b m)(v:∀g,dz W V U g b w.heap.size m m->Below w.heap.size w g->g.heap.size=w.heap.size+1->wpListIn F X P j Q d (a.put o.dst (.pointer (af ⟨w.heap.size,0,ah⟩))) g):wpListIn F X P j Q (o::d) a w:=by
 refine wpListIn_plain p λy l=> ?_
 unfold Oper.wpIn;refine⟨by simp[Oper.about,f],?_⟩;rw[Oper.semAt_plain F _ _ (by rw[f];intro c n;cases n)];obtain⟨g,i,r,s,u⟩:=h.range x;simp[execOp,f,hm,i,Result.andThen];exact l _ _ (v g r s u)
def dz.walks{b r m left w'}(h:dz W V U w b r m left)(f:KeepsWalks w w'):dz W V U w' b r m left:=by have i:=h;obtain⟨k,a,c,g,j,d,_,_,_,e,_⟩:=i;exact h.block (by rw[d];exact f.same b _ d rfl) (by rw[e];exact f.same r _ e rfl)
def dz.walk{b r m left}(h:dz W V U w b r m left):∃o:Obj,w.heap[r]? =af o/\o.isWalk=ak:=by obtain⟨g,a,c,d,f,i,_,_,_,e,_⟩:=h;exact⟨_,e,rfl⟩
end
def cT.O7{r w b}(h:cT (· =r) w b):w.grownBy b (af r):=⟨h.os,h.tape,h.output,h.size,λk c a=>h.block k c (λe=>a (by rw[e]))⟩
structure su(E T:cD) (size:Nat) (w0:ar) (sb:Nat) (n:Nat) (xs:List aB) (W:ar):Prop where
 has:∃v,di W sb T #[v]/\W.ownsRow w0.heap.size E size v n xs
 below:Below w0.heap.size w0 W
def uA{W:ar}{b e size v k m}(h:W.ownsRow b e size v k m){j o}(f:W.heap[j]? =af o)(d:∀a,o≠.cells a e (0,0)):v.ownBlock≠af j:=by
 rcases h.2 with⟨rfl,_⟩|⟨g,i,a,rfl,_,c,_⟩;simp[eB];intro l;have:g=j:=by simpa[eB]using l
 subst this;rw[c]at f;cases f;exact d a rfl
def Dj{W d:ar}{row a e size v k i}(h:W.ownsRow a e size v k i)(n:W.grownBy d row)(b:∀r,row=af r->∃o:Obj,W.heap[r]? =af o/\o.isCells=aq):d.ownsRow a e size v k i:=by
 refine h.kept n ?_;rcases h.2 with⟨rfl,_⟩|⟨g,j,l,rfl,_,c,_⟩;exact .inl rfl;refine .inr λm=> ?_
 obtain⟨o,f,p⟩:=b g (by simpa[eB]using m.symm);rw[c]at f;cases f;cases p
def su.kept{E T size c g n i A B row}(h:su E T size c g n i A)(a:A.grownBy B row)(b:∀r,row=af r->c.heap.size<=r/\∃o:Obj,A.heap[r]? =af o/\o.isCells=aq):su E T size c g n i B:=by obtain⟨⟨v,d,j⟩,f⟩:=h;exact⟨⟨v,(grownBy_keeps_cells a (λr e=>(b r e).2) d rfl).trans d,Dj j a λr e=>(b r e).2⟩,f.grown a f.size λk l=>(b k l).1⟩
def yQ{W:ar}{a e size v k l}(h:W.ownsRow a e size v k l):∀j o,v.ownBlock=af j->W.heap[j]? =af o->o.isCells=ak:=by
 intro j o c d;rcases h.2 with⟨rfl,_⟩|⟨g,f,i,rfl,_,b,_⟩;simp[eB]at c;have:g=j:=by simpa[eB]using c
 subst this;rw[b]at d;cases d;rfl
def uk{P F I}{w:ar}{q g o a Q}(D:o.guard=ah)(s x t)(N:o.op=.call {callee:=.builtin .append,args:=#[s,x],argTypes:=#[t,t]})(d e i z size c)(R:P.underlying t=af (.slice e))(L:P.info? e=af i)(U:i.zero=af z)(l:i.size=size)(C:i.bytes=c)(G:z.cells.size=size)(E:0<size)(v n H)(O:a.eval s=v)(p:w.ownsRow d e size v n H)(b)(T:a.eval x=.slice (af ⟨w.heap.size,0,ah⟩) 1 1)(M:b.length=size)(J:∀u∈b,u.oneCell'=ak)(y:n+1<=maxLen)(f:(n+1) *c<=140737488355328)(B:d<=w.heap.size)(h:∀m r,r.ownsRow d e size m (n+1) (H++b)->(w.alloc (.cells b.toArray e)).grownBy r v.ownBlock->(m.ownBlock=v.ownBlock\/m.ownBlock=af (w.heap.size+1))->wpListIn F I P q Q g (a.put o.dst m) r):wpListIn F I P q Q (o::g) a (w.alloc (.cells b.toArray e)):=by refine wpListIn_append_own_at _ D s x t N d e i z size c R L U l C G E v n H O (p.alloc _) ⟨w.heap.size,0,ah⟩ 1 1 b T (by rw[M,Nat.one_mul]) ?_ J y f (by simp;omega) ?_;intro j u S;rw[show(⟨w.heap.size,0,ah⟩:Addr).add j=⟨w.heap.size,j,ah⟩from by unfold Addr.add;split<;>simp_all];rw[cell_of_row _ w.heap.size j b.toArray e (0,0) (heap_alloc_new w _)];simpa using S;intro m r k K _ A;exact h m r k K (by simpa using A)
def Li{P c R p a w v}(h:c.results=#[.tmp p])(hp:a.getD p undef=v)(d:R (.returned v) w):LeavesInM Fence.wide 3 P c a R [] .returning w:=by
 refine⟨v,?_,d⟩;have b:a[p]?.getD undef=v:=by simpa using hp
 simp[results,h,b]
end
section
open Go.RowKit
attribute [local go_sem] Oper.semAt_some
def Ds{B A W}(h:Below B A W)(g o v):Below B (A.setCell ⟨g,o,ah⟩ v) (W.setCell ⟨g,o,ah⟩ v):=by refine⟨h.os,h.tape,h.output,by simpa[dJ]using h.size,λk a=> ?_⟩;show(W.heap.modify g _)[k]? =(A.heap.modify g _)[k]?;rw[bp,bp,h.block k a]
def cT.Wd{F A W}(h:cT F A W)(g o v):cT F (A.setCell ⟨g,o,ah⟩ v) (W.setCell ⟨g,o,ah⟩ v):=by refine⟨h.os,h.tape,h.output,by simpa[dJ]using h.size,λk b a=> ?_⟩;show(W.heap.modify g _)[k]? =(A.heap.modify g _)[k]?;rw[bp,bp,h.block k (by simpa[dJ]using b) a]
def cT.putObj{F A W}(h:cT F A W){D}(c:A.heap.size<=D)(o):cT F A (W.putObj D o):=⟨h.os,h.tape,h.output,by simpa using h.size,λk b a=>(World.putObj_heap_other (by omega)).trans (h.block k b a)⟩
def Hc{B A W}(h:Below B A W){D}(b:B<=D)(o):Below B A (W.putObj D o):=⟨h.os,h.tape,h.output,by simpa using h.size,λk a=>(World.putObj_heap_other (by omega)).trans (h.block k a)⟩
def uW{B A W}(h:Below A.heap.size A W):KeepsFrom B A W:=⟨h.size,λk o _ a _=>(h.block k (aC.1 a).1).trans a⟩
def Fb{P w g b x}(c:∀w,(isAgg b).run P w=.ok aq w)(d:w.cell? ⟨g,0,ah⟩=af (.int .i64 x)):((asAddr (.pointer (af ⟨g,0,ah⟩))).run P w).andThen (λa e=>(loadVar b a).run P e)=.ok (.int .i64 x) w:=by simp[asAddr,go_sem,c,d]
def sY{P c R p ty a w}(h:c.results=#[.cell p ty]){g x}(hp:a.getD p undef=.pointer (af ⟨g,0,ah⟩))(f:∀w,(isAgg ty).run P w=.ok aq w)(e:w.cell? ⟨g,0,ah⟩=af (.int .i64 x))(d:R (.returned (.int .i64 x)) w):LeavesInM Fence.wide 3 P c a R [] .returning w:=by
 refine⟨.int .i64 x,?_,d⟩;have b:a[p]?.getD undef=.pointer (af ⟨g,0,ah⟩):=by simpa using hp
 simp[results,h,b];exact Fb f e
def OA{G w0 w l p m}(h:In G w0 (ja p m::l) w)(c q):Calls ai 69 #[.pointer (af ⟨p,0,ah⟩),iU c,iU q] w λe w'=>e=.returned (.int .i64 (fx m c q).2)/\In G w0 (ja p (fx m c q).1::l) w':=by
 obtain⟨hm,b,R⟩:=h.tV;have HM:=ae hm;have Dy:=ae R;clear h hm R;obtain⟨xs,hc⟩:=ll.exists HM.out.pD q;have HC:=ae hc;clear hc;obtain⟨d,f⟩:=c;obtain⟨i,j⟩:=q;rw[j7,j7];have heq:∀(x y:List Int) W,x.length=2->y.length=2->(binOp .eql 43 (.agg (ints x)) (.agg (ints y))).run ai W=.ok (.bool (decide (x=y))) W:=λx y W v h2=>mJ x y v h2 W
 have XS:=ae heq;clear heq;refine(callsIn_wide (n:=3)).1 ?_;refine callsIn_of_wp_marks func69 rfl trivial ?_ rfl;simp only[ntmps69,aU,ax,aM,Nat.reduceAdd,Nat.reduceSub,ed,eh,e8,ez,de,eD];rw[wpIn_wide];go_upto_region 1 with(fail)
 refine a6 (In G w0 (aN (w.heap.size+1+1) 27 #[.int .i64 0]::aN (w.heap.size+1) 43 (ints [i,j])::aN w.heap.size 43 (ints [d,f])::aN p 175 #[.map (af b)]::wZ b m::l)) (by have:=((Dy.out.alloc 43 (ints [d,f])).alloc 43 (ints [i,j])).alloc 27 #[.int .i64 0];simp only[bZ]at this;exact this) ?_
 generalize w.heap.size+1+1=u;generalize w.heap.size+1=qb;generalize w.heap.size=cb;intro E R;have k1:row? E cb 0 2=af (ints [d,f]):=R.third.blk.aL rfl;have k2:row? E qb 0 2=af (ints [i,j]):=R.swap.blk.aL rfl;have k3:E.cell? ⟨u,0,ah⟩=af (.int .i64 0):=R.blk.cell 0;have k4:E.frozen? ⟨u,0,ah⟩=aq:=R.blk.frozen 0;have hn:=λW=>XS.out [d,f] [i,j] W rfl rfl
 have HI:=ae R;clear R Dy;by_cases e:(d,f)=(i,j)
 ·have N:decide ([d,f]=[i,j])=ak:=by rw[decide_eq_true_eq];injection e with e1 M;rw[e1,M]
  rw[N]at hn;have HA:Hid (fx m (d,f) (i,j)=(m,8)):=by unfold Hid fx;rw[if_pos (bq e)]
  clear N e;go_wp2_with fail;have a:=HI.out.set 0 (.int .i64 8);refine sY (p:=6) (ty:=27) rfl (g:=u) (x:=8) rfl Tryz.isAgg27 (a.blk.cell 0) ?_;rw[HA.out];exact⟨rfl,In.oc HM.out a.drop.drop.drop⟩
 ·have N:decide ([d,f]=[i,j])=aq:=by rw[decide_eq_false_iff_not];intro e';injection e' with e1 M;injection M with M _;exact e (by rw[e1,M])
  rw[N]at hn;have HNE:=ae e;clear N e;go_wp2_with fail;refine(N6 p (i,j) E).mono ?_;rintro e w2 ⟨rfl,rfl⟩;go_wp2_with fail;have hb0:Below E.heap.size E ((E.alloc (.cells #[.pointer (af ⟨p,0,ah⟩)] 81)).alloc (.cells (ints (hL (i,j))) 43)):=((Below.refl _ _).alloc (ao _) _).alloc (by simp) _;have hF:=(di.new E 81 #[.pointer (af ⟨p,0,ah⟩)]).alloc (.cells (ints (hL (i,j))) 43);have hH:=di.new (E.alloc (.cells #[.pointer (af ⟨p,0,ah⟩)] 81)) 43 (ints (hL (i,j)));rw[bZ]at hH;have a:=ae (HI.out.below hb0);generalize ((E.alloc (.cells #[.pointer (af ⟨p,0,ah⟩)] 81)).alloc (.cells (ints (hL (i,j))) 43))=H at *;generalize E.heap.size+1=hb at *;generalize E.heap.size=fb at *;have hS:qX H p b m:=⟨HM.out,a.out.fourth.blk,(a.out.fifth).iV⟩;clear hb0 k1 k2 k3 k4 HI;refine(wpIn_wide (n:=3)).1 ?_;refine wpIn_rangeFunc_ownH (F:=Fence.wide) (n:=3) rfl (by decide) (gf:=182) (lb:=#[.pointer (af ⟨fb,0,ah⟩),.pointer (af ⟨hb,0,ah⟩)]) rfl trivial (enters_of func182 (by kernel_rfl) rfl)
   (G7 2 (by decide) fb hb p b m (i,j) xs HC.out H hF hH hS) Ix Iw (Below.refl _ _) (λ_=>rfl)
   (λC W=>(∀x∈C,x≠(d,f))/\Below H.heap.size H W)
   (λc C W=>c=.ret/\(d,f)∈C/\Below H.heap.size (H.setCell ⟨u,0,ah⟩ (.int .i64 8)) W)
   (λs A B row P hg hr=>⟨P.1,P.2.grown hg P.2.size λk hk=>(hr k hk).1⟩)
   (λc s A B row P hg hr=>⟨P.1,P.2.1,P.2.2.grown hg (by have:=P.2.2.size;simpa[dJ]using this) λk hk=>(hr k hk).1⟩)
   ⟨by simp,Below.refl _ _⟩
   (λx a' W=>∃xb,di W xb 43 (ints (hL x))/\a'={tmps:=#[.pointer (af ⟨p,0,ah⟩),.agg #[.int .i64 d,.int .i64 f],.agg #[.int .i64 i,.int .i64 j],undef,.pointer (af ⟨cb,0,ah⟩),.pointer (af ⟨qb,0,ah⟩),.pointer (af ⟨u,0,ah⟩),.pointer (af ⟨xb,0,ah⟩),.agg (ints [d,f]),.agg (ints [i,j]),.bool aq,.pointer (af ⟨p,0,ah⟩),.agg (ints [i,j]),.func (.func 182) #[] #[.pointer (af ⟨fb,0,ah⟩),.pointer (af ⟨hb,0,ah⟩)],iU x,undef,undef,undef,undef,undef,undef,undef,undef,undef],defers:=[]})
   (λx a' _ A B row P hg hr=>by obtain⟨xb,v,h2⟩:=P;exact⟨xb,(grownBy_keeps_cells hg (λr e=>(hr r e).2) v rfl).trans v,h2⟩)
   ?assign ?body ?done ?stop
  case assign=>
   rintro l1 C ⟨V,X⟩ W K hi hK
   gi_wp2
   have YE:=fy W 43 [0,0] [V,X];exact hK _ _ (uW YE) (eF.fJ YE) ⟨hi.1,hi.2.trans (YE.mono hi.2.size)⟩ ⟨W.heap.size,iT W 43 [0,0] [V,X] rfl,rfl⟩
  case body=>
   rintro l1 C ⟨V,X⟩ a' W T3 ⟨r,hr⟩ ⟨O,t⟩ ⟨xb,hxb,rfl⟩ lW;have o:=a.out.below t;have k1:row? W xb 0 2=af (ints [V,X]):=hxb.aL rfl;have k2:row? W cb 0 2=af (ints [d,f]):=o.third.blk.aL rfl;have k3:W.cell? ⟨u,0,ah⟩=af (.int .i64 0):=o.blk.cell 0;have k4:W.frozen? ⟨u,0,ah⟩=aq:=o.blk.frozen 0;have hn:=λW=>XS.out [V,X] [d,f] W rfl rfl
   have HNO:=ae O;have I:=ae t;have HSZ:Hid (u<H.heap.size):=a.out.blk.lt;clear O t o hxb;by_cases e:(V,X)=(d,f)
   ·have N:decide ([V,X]=[d,f])=ak:=by rw[decide_eq_true_eq];injection e with e1 M;rw[e1,M]
    rw[N]at hn;have HE:=ae e;clear N e
    gi_wp2
    exact⟨(KeepsOthers.setCell _ _ _).from _,rfl,by rw[HE.out];simp,Ds I.out _ _ _⟩
   have N:decide ([V,X]=[d,f])=aq:=by rw[decide_eq_false_iff_not];intro e';injection e' with e1 M;injection M with M _;exact e (by rw[e1,M])
   rw[N]at hn;have HE:=ae e;clear N e
   gi_wp2
   exact⟨KeepsFrom.refl _ _,eF.refl _,λy hy=>by rcases fM.1 hy with hy|hy;exact HNO.out y hy;rw[aO.1 hy];exact HE.out,I.out⟩
  case done=>
   rintro D ys W hD rfl ⟨O,t⟩ hK;have HA:Hid (fx m (d,f) (i,j)=(jK m (d,f) (i,j),0)):=by unfold Hid fx;rw[if_neg];rintro(e|e);exact HNE.out e;exact O _ (HC.out.mem.2 e) rfl
   have o:=a.out.below t;have k1:row? W cb 0 2=af (ints [d,f]):=o.third.blk.aL rfl;have k2:row? W qb 0 2=af (ints [i,j]):=o.swap.blk.aL rfl;have k3:W.cell? ⟨p,0,ah⟩=af (.map (af b)):=o.fourth.blk.cell 0;have I:=ae t;have HD:=ae hD;have HK:=ae hK;have HM2:Hid (eE iU iU (λ_=>True) W b m):=o.fifth.iV;clear O t hD hK o hS hF hH;go_wp2_with fail
   go_still_tail 6,(by kernel_rfl)
   change wpList _ _ _ _ _ W.drew;have Z:Hid (eE iU iU (λ_=>True) W.drew b m):=HM2.out;have T:Hid (Below H.heap.size H W.drew):=I.out.drew;have Q:Hid (W.drew.heap[D]? =af (.deferred (af []))):=HK.out;clear HM2 I HK k1 k2 k3;generalize W.drew=W2 at *;go_wp2_with (at_mapUpdate;go_loud (refine kW An rfl _ _ _ 173 43 rfl underlying173 b m rfl Z.out (d,f) rfl trivial (i,j) rfl ?_));intro U v h2 h3;have HO:Hid (cT (· =b) H U):=(cT.fJ T.out).trans h2;have hK4:U.heap[D]? =af (.deferred (af [])):=by have lW:=(aC.1 Q.out).1;refine(h2.block D lW ?_).trans Q.out;intro e;obtain⟨es,L,z,_⟩:=Z.out;rw[<-e,Q.out]at z;cases z
   have HMP:=ae v;have CU:u≠b:=λe=>by obtain⟨es,L,z,_⟩:=(a.out.fifth).iV;have:=a.out.blk;rw[e]at this;unfold di at this;rw[this]at z;cases z
   have S:di U u 27 #[.int .i64 0]:=HO.out.blk a.out.blk CU;have TS:=ae S;have k5:U.cell? ⟨u,0,ah⟩=af (.int .i64 0):=S.cell 0;have k6:U.frozen? ⟨u,0,ah⟩=aq:=S.frozen 0;have HK4:=ae hK4;clear v h2 h3 Z T Q hK4 CU S;go_wp2_with fail;have hKD:(U.setCell ⟨u,0,ah⟩ (.int .i64 0)).heap[D]? =af (.deferred (af [])):=by
    rw[Below.heap_setCell _ _ _ _ (by intro e;have v:=TS.out;unfold di at v;simp only at e;rw[<-e,HK4.out]at v;cases v)]
    exact HK4.out
   have Y:=a.out.set 0 (.int .i64 0);have YB:cT (· =b) (H.setCell ⟨u,0,ah⟩ (.int .i64 0)) ((U.setCell ⟨u,0,ah⟩ (.int .i64 0)).putObj D (.deferred ah)):=(HO.out.Wd u 0 (.int .i64 0)).putObj (by simpa[dJ]using HD.out) _;have hlb:b<H.heap.size:=((a.out.fifth).iV).lt;have YA:eE iU iU (λ_=>True) ((U.setCell ⟨u,0,ah⟩ (.int .i64 0)).putObj D (.deferred ah)) b (jK m (d,f) (i,j)):=by refine HMP.out.block ?_;rw[World.putObj_heap_other (by have:=HD.out;omega),Below.heap_setCell];intro e;obtain⟨es,L,z,_⟩:=HMP.out;have v:=TS.out;unfold di at v;simp only at e;rw[<-e,z]at v;cases v
   have J:=In.rF Y.fifth YA YB;refine⟨by simp,.inl ⟨D,_,rfl,run_takeDeferred hKD,?_⟩⟩;refine sY (p:=6) (ty:=27) rfl (g:=u) (x:=0) rfl Tryz.isAgg27 (J.swap.blk.cell 0) ?_;rw[HA.out];have OO:=HM.out.vB (d,f) (i,j);rw[HA.out]at OO;exact⟨rfl,In.oc OO (J.swap.drop.swap.drop.swap.drop.swap)⟩
  rintro D c C W hD aaT ⟨rfl,aca,t⟩ hK;have HA:Hid (fx m (d,f) (i,j)=(m,8)):=by unfold Hid fx;rw[if_pos (cc (HC.out.mem.1 (aaT.subset aca)))]
  have Y:=a.out.set 0 (.int .i64 8);have J:=Y.below ((Hc t (D:=D) (by simpa[dJ]using hD) (.deferred ah)).mono (by simp[dJ]))
  gi_wp2
  refine⟨by simp,.inl ⟨D,_,rfl,run_takeDeferred hK,?_⟩⟩;refine sY (p:=6) (ty:=27) rfl (g:=u) (x:=8) rfl Tryz.isAgg27 (J.blk.cell 0) ?_;rw[HA.out];exact⟨rfl,In.oc HM.out J.drop.drop.drop⟩
end
section
open Go.RowKit
def Lm{x:Hd}{a:List Hd}:decide (hL x∈a.map hL)=decide (x∈a):=by rw[fj,decide_eq_true_eq,decide_eq_true_eq,aA];constructor;rintro⟨y,b,e⟩;rw[<-KY e];exact b;exact λh=>⟨x,h,rfl⟩
def Ya{a b}(h:bL a=bL b):a=b:=by unfold bL at h;injection h with c h;injection h with d h;injection h with e h;injection h with f _;exact Prod.ext (Prod.ext c d) (Prod.ext e f)
section
variable{G:Nat->Prop} {Z w:ar} {l:List cX} {v u:aB}
def M0{b}(h:In G Z (e9 v b::l) w)(x):Calls ai 112 #[v,iU x] w λe i=>e=.returned (.bool (decide (x∈b)))/\Below w.heap.size w i:=by obtain⟨A,c,rfl,d,g,a,_⟩:=rJ (f:=hL) (λ_=>rfl) Yz h.rowAt;have:=De A c (b.map hL) (hL x) w a (by rw[aY];omega) rfl;rw[aY,Lm]at this;exact this
def Yj{a b}(h:In G Z (dA v a::dA u b::l) w):Calls ai 18 #[v,u] w λe q=>e=.returned (.bool (decide (a=b)))/\Below w.heap.size w q:=by
 obtain⟨A,c,rfl,n,o,g,_⟩:=rJ (f:=bL) (λ_=>rfl) QO h.rowAt;obtain⟨k,m,rfl,i,j,d,_⟩:=rJ (f:=bL) (λ_=>rfl) QO h.swap.rowAt;have:=KP A k c m (a.map bL) (b.map bL) w g d (by rw[aY];omega) (by rw[aY];omega);have p:gW (a.map bL) (b.map bL)=decide (a=b):=by unfold gW;rw[fj,decide_eq_true_eq,decide_eq_true_eq];exact⟨λh=>IE (λ_ _=>Ya) h,λh=>by rw[h]⟩
 rw[aY,aY,p]at this;exact this
def OD{p m}(h:In G Z (ja p m::l) w)(b:m.length<=1099511627776)(a):Calls ai 129 #[.pointer (af ⟨p,0,ah⟩),iU a] w λe d=>∃v,e=.returned v/\In G Z (e9 v (under m a)::ja p m::l) d:=by obtain⟨rk,R,c⟩:=h.Rr.pD;exact KV h.Rr b rk R c (R-rk a+1) a (Nat.lt_succ_self _) h
end
end
section
open Go.RowKit
attribute [local go_sem] Oper.semAt_some
def Ys{A B}(h:Below A.heap.size A B):A.grownBy B ah:=⟨h.os,h.tape,h.output,h.size,λk a _=>h.block k a⟩
def N9{B A W}(h:Below B A W){D}(b:B<=D)(o):Below B A (W.putObj D o):=⟨h.os,h.tape,h.output,by simpa using h.size,λk a=>(World.putObj_heap_other (by omega)).trans (h.block k a)⟩
def P9(b w):Calls ai 95 #[.map (af b)] w λe a=>
 e=.returned (.func (.func 147) #[] #[.pointer (af ⟨w.heap.size,0,ah⟩)])/\a=w.alloc (.cells #[.map (af b)] 105):=by
 go_enter func95,ntmps95;go_wp2_with fail;go_ret;exact⟨rfl,rfl⟩
def K9{m left:List (Int×Nat)}{a x v}(b:(bI left).Nodup)(c:(x,v)∈left)(hp:(a++bI left).Perm (bI m)):((a++[x])++bI (dB left x)).Perm (bI m):=by refine List.Perm.trans ?_ hp;rw[b9];exact dM _ ((xy b c).map (λp:Int×Nat=>p.1)).symm
def JW(n)(hn:1<=n)(U b m w)(hB:di w U 105 #[.map (af b)])(O:eE (aD .i64) td mA w b m):SeqStopsK Fence.wide n ai 147 #[.pointer (af ⟨U,0,ah⟩)] (λx:Int=>#[.int .i64 x]) KeepsWalks (λys=>ys.Perm (bI m)) (λ_=>True) m.length w:=λl J Jx W P hJ N hY Z=>by
 have X:=ae hJ;have HY:=ae hY;have f:=ae Z;have u:=O.after P;have k0:W.cell? ⟨U,0,ah⟩=af (.map (af b)):=(hB.after P).cell 0;have c:Hid ((bI m).Nodup):=O.nodup sU;clear hJ hY P N Z hB;refine callsIn_of_wp func147 rfl trivial ?_ rfl;simp only[ntmps147,aU,ax,aM,Nat.reduceAdd,Nat.reduceSub,ed,eh,e8,ez,de,eD]
 gi_wp2_with (first
  |(gi_at_range;refine vr rfl _ 105 134 rfl underlying105 b _ rfl u ?_;intro w2 C y S)
  |gi_in)
 have k:=ae C;have g:Hid (J [] w2):=X.out [] W w2 ah f.out (Ys y) (λr e=>by cases e);have H:Hid (W.heap.size<=W.heap.size):=ao _;generalize hri:W.heap.size=E at *;clear C y S u k0 O f
 gi_loopw [6] (λ_ wr=>∃(left:List (Int×Nat))(a:List Int),(bI left).Nodup/\(a++bI left).Perm (bI m)/\dz (aD .i64) td mA wr b E m left/\J a wr) (λ_ wr=>wr.rangeLeft b E)
 case atStart=>exact⟨m,[],c.out,by simp,k.out,g.out⟩
 case round=>
  clear g k;obtain⟨left,a,A,hp,hr,s⟩:=hrel;have c:=ae A;have Y:=ae hp;have K:=ae hr;have h:=ae s;clear A hp hr s
  gi_wp2_with (first
   |(gi_at_next;refine y5 sU rfl _ rfl b E _ left rfl K.out ?_ ?_)
   |gi_in)
  ·intro R;subst R
   gi_wp2
   go_end0
   exact⟨⟨_,rfl⟩,.inl ⟨a,by have:=Y.out;simpa[bI]using this,h.out⟩⟩
  intro x v V hx D B T d Q;have L:=ae D;have i:=ae d;have p:=ae (K9 c.out hx Y.out);have j:Hid ((bI (dB left x)).Nodup):=mM c.out _;have I:Hid (a.length<m.length):=by have:=p.out.length_eq;simp[bI]at this;unfold Hid;omega
  have G:Hid (J a V):=X.out a wr V (af E) h.out B.O7 (λr e=>by cases e;exact⟨H.out,K.out.walk⟩);obtain⟨fn,tmps,assign,body,hy,hR⟩:=HY.out a x V G.out I.out;have M:=ae hR;clear D B T d hx hR
  gi_wp2
  refine M.out.mono ?_;rintro e W3 (⟨rfl,q,z⟩|⟨rfl,t⟩)
  ·have F:=ae q;have o:=ae (L.out.walks z);clear q z hy Q
   gi_wp2
   go_roundw
   case rel=>exact⟨dB left x,a++[x],j.out,p.out,o.out,F.out⟩
   rw[o.out.count,K.out.count];exact i.out
  gi_wp2
  refine bodyPost_ret (results_none rfl _ _ _) rfl ?_;exact⟨⟨_,rfl⟩,.inr ⟨a++[x],trivial,t⟩⟩
def K6:(Tryz.prog.info? 3).map (λi=>(i.zero,i.size,i.bytes))=af (af (.int .i64 0),1,8):=by kernel_rfl
def zL(gf:Nat)(lb)(eg:∀args w,(callFunc gf args).run ai w=.ok (.enter gf args) w)(S Sp N)(hN:N<=1099511627776)(w)(i:SeqStopsK Fence.wide 2 ai gf lb (λx:Int=>#[.int .i64 x]) KeepsWalks S Sp N w):Calls ai 146 #[.slice ah 0 0,.func (.func gf) #[] lb] w λe w'=>∃v,∃H:List Int,e=.returned v/\S H/\w'.ownsRow w.heap.size 3 1 v H.length (H.map (aD .i64))/\Below w.heap.size w w':=by
 have u:=ae i;have M:=ae eg;clear i eg;obtain⟨i0,U,sS,sT,sa⟩:=info_parts K6;refine(callsIn_wide (n:=3)).1 ?_;refine callsIn_of_wp_marks func146 rfl trivial ?_ rfl;simp only[ntmps146,aU,ax,aM,Nat.reduceAdd,Nat.reduceSub,ed,eh,e8,ez,de,eD];rw[wpIn_wide];go_wp2_with fail;have o:Hid (Below w.heap.size w (w.alloc (.cells #[.slice ah 0 0] 32))):=(Below.refl _ _).alloc (ao _) _;have L:Hid (su 3 32 1 w w.heap.size 0 [] (w.alloc (.cells #[.slice ah 0 0] 32))):=⟨⟨_,di.new w _ _,eC _ _ _ _⟩,o.out⟩;have y:Hid ((w.alloc (.cells #[.slice ah 0 0] 32)).heap.size=w.heap.size+1):=by simp[Hid]
 generalize (w.alloc (.cells #[.slice ah 0 0] 32))=W0 at *;refine(wpIn_wide (n:=3)).1 ?_;refine wpIn_rangeFunc_ownH (F:=Fence.wide) (n:=3) rfl (by decide) (gf:=gf) (lb:=lb) rfl trivial M.out
  u.out walksK_t walksK_b o.out (λ_=>rfl)
  (λa W=>su 3 32 1 w w.heap.size a.length (a.map (aD .i64)) W)
  (λ_ _ _=>False)
  (λs A B row G h l=>G.kept h λr e=>⟨by have:=(l r e).1;have:=y.out;omega,(l r e).2⟩)
  (λc s A B row G h l=>G)
  L.out
  (λx P W=>P={tmps:=#[.slice ah 0 0,.func (.func gf) #[] lb,.pointer (af ⟨w.heap.size,0,ah⟩),undef,.slice ah 0 0,.int .i64 x,.func (.func gf) #[] lb,.int .i64 x,undef,undef,undef,undef,undef],defers:=[]})
  (λx P _ A B row G h l=>G)
  ?assign ?body ?done ?stop
 case assign=>
  rintro l1 a x W K hi E
  gi_wp2
  exact E _ _ (KeepsFrom.refl _ _) (KeepsWalks.refl _) hi rfl
 case body=>
  rintro l1 a x P W T3 ⟨r,l⟩ ⟨⟨v,d,f⟩,j⟩ rfl lW;have k2:W.cell? ⟨w.heap.size,0,ah⟩=af v:=d.cell 0;have O:=ae d;have b:=ae f;have m:=ae j;have Y:a.length+1<=maxLen:=by unfold maxLen;omega
  have Z:(a.length+1) *8<=140737488355328:=by omega
  have hp3:=j.size;clear d f j l
  gi_wp2_with (first
   |(gi_at_builtin;refine uk rfl _ _ 32 rfl w.heap.size 3 i0 _ 1 8 underlying32 U sS sT sa rfl (by decide) v a.length (a.map (aD .i64)) rfl b.out [.int .i64 x] rfl rfl (by simp[fW]) Y Z hp3 ?_
     intro v' I V h X;have g:di I w.heap.size 32 #[v]:=by have T:=O.out.alloc (.cells [aD .i64 x].toArray 3);refine(h.block w.heap.size T.lt ?_).trans T;exact λe=>uA (b.out.alloc (.cells [aD .i64 x].toArray 3)) T (λQ e=>by injection e with _ R;exact absurd R (by decide)) e.symm
     have q:Hid (KeepsOthers W I):=(KeepsOthers.alloc W _).trans (KeepsOthers.of_grownBy h (yQ (b.out.alloc _)));have J:Hid (Below w.heap.size w I):=(m.out.alloc m.out.size _).grown h (by have:=m.out.size;simp;omega) (λk e=>(World.ownsRow.lt b.out k e).1);have z:=ae g;have t:=ae V;have k3:=g.cell 0;have k4:=g.frozen 0;clear h X g k2;obtain⟨g',C,rfl⟩:=ownsRow_succ V;clear V
     go_frame)
   |gi_in)
  refine⟨((q.out.trans (KeepsOthers.setCell _ _ _)).from _),(q.out.trans (KeepsOthers.setCell _ _ _)).walks,⟨⟨_,z.out.set 0 _,?_⟩,J.out.setCell (p:=⟨w.heap.size,0,ah⟩) (ao _) _⟩⟩;have h5:=t.out.kept (grownBy_setCell' I w.heap.size (.slice (af ⟨g',0,ah⟩) (a.length+1) C)) (cc (uA t.out z.out (λQ e=>by injection e with _ R;exact absurd R (by decide))));rw[bm,en];exact h5
 case done=>
  rintro D H W hD hS ⟨⟨v,d,f⟩,j⟩ E;have k2:W.cell? ⟨w.heap.size,0,ah⟩=af v:=d.cell 0;have b:=ae f;have m:=ae j;have HS:=ae hS;have HK:=ae E;have HD:Hid (w.heap.size<=D):=by have:=y.out;unfold Hid;omega
  clear d f j hS E hD;go_wp2_with fail;refine⟨by simp,.inl ⟨_,_,rfl,run_takeDeferred HK.out,?_⟩⟩;refine Li (p:=4) (v:=v) rfl rfl ?_;exact⟨v,H,rfl,HS.out,ownsRow_putObj b.out _ HK.out rfl,N9 m.out HD.out _⟩
 case stop=>rintro D c a W hD aaT hF E;exact hF.elim
def xU{w c b m}(j:di w c 105 #[.map (af b)])(k:eE (aD .i64) td mA w b m)(p:m.length<=1099511627776):Calls ai 94 #[.func (.func 147) #[] #[.pointer (af ⟨c,0,ah⟩)]] w λe d=>∃v,∃a:List Int,e=.returned v/\a.Perm (bI m)/\d.ownsRow w.heap.size 3 1 v a.length (a.map (aD .i64))/\Below w.heap.size w d:=by have f:=ae (zL 147 #[.pointer (af ⟨c,0,ah⟩)] (enters_of func147 (by kernel_rfl) rfl) _ _ m.length p w (JW 2 (by decide) c b m w j k));clear j k;go_enter func94,ntmps94;go_wp2_with fail;refine f.out.mono ?_;rintro e d ⟨v,a,rfl,g,h,i⟩;have l:=ae g;have n:=ae h;have o:=ae i;clear g h i f;go_wp2_with fail;go_ret;exact⟨v,a,rfl,l.out,n.out,o.out⟩
end
section
open Go.RowKit
attribute [local go_sem] Oper.semAt_some
end
end Go.Proofs.YtknejlcijdngoaaGreat
