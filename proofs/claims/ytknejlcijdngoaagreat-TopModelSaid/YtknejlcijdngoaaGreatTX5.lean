/- Several texts in one, made short by a program of mine. -/
import Derived.Test.YtknejlcijdngoaaGreatTX4
import Derived.Deep.RegionHeld3
import Derived.Deep.RegionLawGrows
import Derived.BigRegion
import Derived.Laws.AppendOwnNone
set_option linter.defProp false
set_option linter.unusedVariables false
set_option linter.unusedSimpArgs false
set_option linter.unusedSectionVars false
set_option maxHeartbeats 16000000
set_option maxRecDepth 100000
open Array renaming ext'->oq,getD_eq_getD_getElem?->bF,getElem?_eq_getElem->aS,getElem?_eq_some_iff->aC,getElem?_modify->bp,getElem?_setIfInBounds_ne->aH,getElem?_setIfInBounds_self_of_lt->aQ,replicate_succ->ed,replicate_zero->eh
open Bool renaming and_eq_true->ay,eq_iff_iff->fj,false_eq_true->dg,not_eq_true'->kI,or_eq_true->ej,false->aq,true->ak
open Go renaming FuncId->eu,TypeId->cD,Value->aB,World->ar
open Go.Act renaming eval->bX
open Go.Instr renaming buildSlice->gB
open Go.Lib renaming hid->ae
open Go.Proofs.Tryz renaming prog->ai
open Go.Region renaming ready->dZ,wanted->aW
open Go.Value renaming int->aD,oneCell'->fW,ownBlock->eB,slice->er
open Go.World renaming cell?->da,cell?_of_block->db,ownsRow_nil->eC,setCell->dJ,size_alloc->bZ
open Go.World.ownsRow renaming lt->fa
open Int renaming toNat_natCast->bP
open List renaming append_assoc->b9,append_nil->cK,append_toArray->ez,cons_append->eD,eq_nil_of_length_eq_zero->dw,filter_sublist->ly,flatMap_append->bS,flatMap_cons->bJ,foldl_append->jc,getD->bu,getD_eq_getElem?_getD->a7,getElem?_eq_getElem->aj,getElem?_eq_some_iff->bg,getElem?_map->dX,getElem_mem->aF,length_append->bm,length_cons->ax,length_filter_le->iE,length_map->aY,length_nil->aM,length_set->cx,length_take->cR,map_append->en,map_set->jG,mem_append->fM,mem_cons->b8,mem_filter->b3,mem_iff_getElem->bR,mem_map->aA,mem_of_mem_take->nF,mem_range->eS,mem_singleton->aO,nil_append->de,not_mem_nil->fO,pairwise_iff_getElem->eA,push_toArray->e8,range->bB,replicate->cj,size_toArray->aU,take_append_drop->fZ,take_length->cq,take_of_length_le->cA,take_succ_eq_append_getElem->aV
open List.Perm renaming append_left->dM,refl->ot,swap->cz
open List.range renaming loop->ca
open Nat renaming add_assoc->kg,add_comm->bM,add_mul->kh,add_sub_cancel_left->gV,eq_zero_or_pos->fP,le_refl->ao,le_trans->bD,lt_of_lt_of_le->bQ,min_eq_left->qO,mul_le_mul_right->fh,one_mul->je,zero_add->bN,zero_le->bH
open Option renaming getD_some->bT,map_eq_some_iff->aG,map_some->fD,none->ah,some->af
namespace Go.Proofs.YtknejlcijdngoaaGreat
open Go.Proofs.Tryz
section
open Go.RowKit Go.Sort
def Fq{c:Type}(rw:Int->List c):∀a:List Int,(∀K∈a,(rw K).length<=60)->(a.flatMap rw).length<=60 *a.length
 |[],_=>by simp|K::a,h=>by
  rw[bJ,bm,ax];have d:=h K (by simp);have e:=Fq rw a λK b=>h K (by simp[b])
  omega
def Y8{T:WT}(c:T.ks.Nodup)(b:∀K∈T.ks,0<=K/\K<=255):T.ks.length<=256:=by
 have a:∀x∈T.ks,x∈(bB 256).map (λi:Nat=>(i:Int)):=λx d=>by have:=b x d;exact aA.2 ⟨x.toNat,eS.2 (by omega),by omega⟩
 have:=s9 c a;simpa using this
def Sq(T:WT):bI (T.ks.map λK=>(K,T.pt K))=T.ks:=by unfold bI;rw[List.map_map];exact List.map_id _
def lL(q:Query)(a:List Int)(rw:Int->List cQ)(j:Nat):List cQ:=((a.take j).filter λK=>eM K q).flatMap rw
def II(q ks rw j h):lL q ks rw (j+1)=if eM ks[j] q=ak then lL q ks rw j++rw ks[j]else lL q ks rw j:=by unfold lL;rw[aV h,List.filter_append,bS];by_cases hm:eM ks[j] q=ak;rw[if_pos hm];simp[hm];rw[if_neg hm];simp[hm]
def C8(a b:cQ):Int:=pE a.h.1 b.h.1
def acu:SWO (ltOf C8)where
 irrefl x:=by unfold ltOf C8;simp[qc]
 trans x y z h1 h2:=by unfold ltOf C8 at *;simp only[qc,decide_eq_true_eq]at *;omega
 ntrans x y z h1 h2:=by unfold ltOf C8 at *;simp only[qc,decide_eq_false_iff_not]at *;omega
instance:Inhabited cQ:=⟨aE⟩
def In.Wy{G a w}{T:WT}{X K}(b:K∈T.ks)(h:In G a (mx (T.pt K) K (T.rw K)::(X++(T.ks.erase K).map (dI T))) w):In G a (X++T.ks.map (dI T)) w:=h.perm ((dM X ((List.perm_cons_erase b).map (dI T))).trans List.perm_middle).symm
def PL(x y w):Calls ai 98 #[.agg (ints (pK x)),.agg (ints (pK y))] w λe k=>e=.returned (.int .i64 (C8 x y))/\∃q j,k=Sort.grow (w.drewN q) j:=by
 have c:Hid ((ints (pK x))[0]? =af (.int .i64 x.h.1)):=rfl;have d:Hid ((ints (pK y))[0]? =af (.int .i64 y.h.1)):=rfl;have h:Hid (C8 x y=pE x.h.1 y.h.1):=rfl;generalize C8 x y=m at *;generalize x.h.1=f at *;generalize y.h.1=g at *;generalize pK x=a at *;generalize pK y=b at *;go_enter func98,ntmps98;go_upto_region 1 with(fail)
 have n:((w.alloc (.cells (ints a) 50)).alloc (.cells (ints b) 50)).cell? ⟨w.heap.size,0,ah⟩=af (.int .i64 f):=(((di.new w 50 (ints a)).alloc _).cell 0).trans c.out;have o:((w.alloc (.cells (ints a) 50)).alloc (.cells (ints b) 50)).cell? ⟨w.heap.size+1,0,ah⟩=af (.int .i64 g):=by have:=di.new (w.alloc (.cells (ints a) 50)) 50 (ints b);rw[bZ]at this;exact(this.cell 0).trans d.out
 have i:Hid (((w.alloc (.cells (ints a) 50)).alloc (.cells (ints b) 50))=Sort.grow w #[.cells (ints a) 50,.cells (ints b) 50]):=by unfold Hid;rw[Sort.alloc_eq_grow,Sort.alloc_eq_grow,Sort.grow_grow];rfl
 change Code.wp _ _ _ _ ((w.alloc (.cells (ints a) 50)).alloc (.cells (ints b) 50));generalize ((w.alloc (.cells (ints a) 50)).alloc (.cells (ints b) 50))=l at *;clear c d;go_wp2_with fail;refine(uQ f g l).mono ?_;rintro e p ⟨rfl,rfl⟩;go_wp2_with fail;go_ret;refine⟨cZ h.out.symm,0,#[.cells (ints a) 50,.cells (ints b) 50],?_⟩;rw[i.out];rfl
section
variable{G:Nat->Prop} {Z w:ar} {l:List cX}
def Ti{v i}(h:In G Z (bj v i::l) w)(z:i.length<=1099511627776):Calls ai 97 #[v,.func (.func 98) #[] #[]] w λe j=>e=.returned (.tuple #[])/\∃f:List cQ,f.Perm i/\(f.Pairwise λa b=>¬b.h.1<a.h.1)/\In G Z (bj v f::l) j:=by
 have n:∀x,∀u∈iK x,u.oneCell'=ak:=λx u s=>by obtain⟨y,_,rfl⟩:=aA.1 s;rfl
 have o:∀blk d size w,CmpLays ai 98 #[] iK 11 C8 blk d size w:=λblk d size w m t k _ x y=>PL x y (sortWorldK iK 11 w blk d m k t)
 have p:∀args w,(callFunc 98 args).run ai w=.ok (.enter 98 args) w:=enters_of func98 (by kernel_rfl) rfl;have c:=Gx (ρ:=yH) (enc:=iK) JI Tryz.isAgg50 Tryz.sizeOf50 lx n C8 acu 98 p o 50 h (by omega);change Calls ai 97 _ _ _ at c;refine c.mono ?_;rintro e j ⟨rfl,f,hp,r,q⟩;exact⟨rfl,f,hp,r.imp λ{a b} h g=>by unfold C8 at h;rw[decide_eq_false_iff_not,qc]at h;exact h g,q⟩
end
end
section
open Go.RowKit
def BV:yJ.list=[0,0,0]:=rfl
def xx(k):eM k yJ=ak:=by exact FF k
def E2:fX yJ=0:=by decide
noncomputable instance:DecidableEq cQ:=λa b=>Classical.propDecidable (a=b)
section
variable{Z:List (Int×Bool)} {f:BF}
def UF(h:lH Z f){r}(d:r∈ep Z f):r.b.v.length=8/\bx r.b=0/\dt Z r.h.1 r.h.2=ak/\f r.h.1=af (r.h.2,r.b):=by have a:=(gH h).1 d;obtain⟨b,c⟩:=h.bo _ _ _ a;exact⟨c,b,(h.lv _ _).2 ⟨_,a⟩,a⟩
def OE(Z):(iw Z).length=Z.length:=by rw[xm,aY]
def nm(h:lH Z f):(ep Z f).length<=60:=by have:=PO Z f yJ;rw[Bq xx]at this;have:=h.so.1;omega
end
section
variable{G:Nat->Prop} {Z w:ar} {l:List cX} {v u:aB}
def wJ{a}(h:In G Z (bj v a::l) w):∃A c,v=.slice A a.length c/\a.length<=c/\c<=maxLen/\fR w w.heap.size 11 A (a.map pK)/\(0<a.length->∃g,A=af ⟨g,0,ah⟩):=rJ (f:=pK) (λ_=>rfl) Jq h.rowAt
def Yl{a b}(h:In G Z (bj v a::l) w){r m g}(o:In m g (bj u b::r) w):Calls ai 34 #[v,u] w λe s=>e=.returned (.bool (decide (a.map pK=b.map pK)))/\Below w.heap.size w s:=by obtain⟨A,c,rfl,p,q,f,_⟩:=wJ h;obtain⟨k,n,rfl,i,j,d,_⟩:=wJ o;have:=Ou A k c n (a.map pK) (b.map pK) w f d (by rw[aY];omega) (by rw[aY];omega);rw[aY,aY]at this;exact this
def Rh{a b}(h:In G Z (bj v a::l) w){g d c}(f:In d c (bj u b::g) w)(e:a=b):Calls ai 34 #[v,u] w λe i=>e=.returned (.bool ak)/\Below w.heap.size w i:=by have:=Yl h f;rw[decide_eq_true (by rw[e])]at this;exact this
end
end
section
open Go.RowKit Go.Sort
section
variable{G:Nat->Prop} {Z w:ar} {l:List cX} {p Y:Nat} {W:List (Int×Bool)} {f:BF}
def Js(h:In G Z (l4 p Y W f::l) w)(hk:lH W f)(q):Calls ai 42 #[.pointer (af ⟨p,0,ah⟩),.agg (ints q.list)] w λe w'=>∃v,e=.returned (.tuple #[v,.int .i64 (fX q)])/\In G Z (bj v (if fX q=0 then tn W f q else [])::l4 p Y W f::l) w':=by
 have Dy:=ae h;have HK:=ae hk;clear h hk;obtain⟨qe,hqe⟩:∃x,fX q=x:=⟨_,rfl⟩;rw[hqe];have HQE:=ae hqe;clear hqe;go_enter func42,ntmps42;go_upto_region 1 with(fail)
 refine a6 (In G Z (l4 p Y W f::aN w.heap.size 52 (ints q.list)::l)) ((Dy.out.alloc 52 (ints q.list)).swap) ?_;generalize w.heap.size=t;intro w1 Kg;have q1:row? w1 t 0 3=af (ints q.list):=Kg.swap.blk.aL rfl;have y6:=ae Kg;clear Kg Dy;go_wp2_with fail;refine(oA q w1).mono ?_;rintro e w2 ⟨rfl,sQ⟩;rw[HQE.out];have Kp:=ae (y6.out.below sQ);clear sQ y6 q1;by_cases hq:qe=0
 case neg=>
  have HQ:=ae hq;go_wp2_with fail
  go_ret2
  refine⟨.slice ah 0 0,rfl,?_⟩;exact Kp.out.swap.drop.kz _ _
 case pos=>
  subst hq;clear HQE;obtain⟨d,n,T,hT,J⟩:=Kp.out.oL;have L:In G Z (aN p 108 #[.pointer (af ⟨Y,0,ah⟩),.map (af d),.map (af n)]::cy Y W::PtrMap d (T.ks.map λK=>(K,T.pt K))::bO n T.ps::aN t 52 (ints q.list)::(l++T.ks.map (dI T))) w2:=J;have M2:∀K∈T.ks,(0<=K/\K<=255)/\∀r∈T.rw K,r.b.k=K:=λK hK=>wQ (In.yy (X:=aN p 108 #[.pointer (af ⟨Y,0,ah⟩),.map (af d),.map (af n)]::cy Y W::PtrMap d (T.ks.map λK=>(K,T.pt K))::bO n T.ps::aN t 52 (ints q.list)::l) L hK)
  have HKD:=ae M2;have HT:=ae hT;have HKL:=ae (Y8 hT.nd λK hK=>(M2 K hK).1);have GV:=ae L;have k0:w2.cell? ⟨p,1,ah⟩=af (.map (af d)):=L.blk.cell 1;clear hT J L M2 Kp;go_wp2_with fail;refine(P9 d w2).mono ?_;rintro e w3 ⟨rfl,rfl⟩;have M:=(GV.out.alloc 105 #[.map (af d)]);have R:=xU (m:=T.ks.map λK=>(K,T.pt K)) M.blk (M.fourth.iV) (by rw[aY];have:=HKL.out;omega);have N:=ae R;have Ke:=ae M.drop;clear M R GV k0;generalize w2.alloc (.cells #[.map (af d)] 105)=w3 at *;go_wp2_with fail;refine N.out.mono ?_;rintro e w4 ⟨v4,c,rfl,hp,ho,hb⟩;rw[Sq]at hp;have HP:=ae hp;have hyl:c.length<=256:=by rw[hp.length_eq];exact HKL.out
  have o:Hid (In G Z (bj (.slice ah 0 0) []::ei v4 c::aN p 108 #[.pointer (af ⟨Y,0,ah⟩),.map (af d),.map (af n)]::cy Y W::PtrMap d (T.ks.map λK=>(K,T.pt K))::bO n T.ps::aN t 52 (ints q.list)::(l++T.ks.map (dI T))) w4):=(Ke.out.tU ho hb).kz _ _;obtain⟨A4,I,rfl,_⟩:=o.out.swap.lJ;clear ho hb N Ke hp;obtain⟨i0,uT,sS,sT,sa⟩:=info_parts xM;have hyi:(c.length:Int)<=256:=by omega
  go_wp2_with fail;go_loopw [26,7] (λi v w'=>∃j:Nat,j<=c.length/\i=.int .i64 j/\In G Z (bj v (lL q c T.rw j)::ei (.slice A4 c.length I) c::aN p 108 #[.pointer (af ⟨Y,0,ah⟩),.map (af d),.map (af n)]::cy Y W::PtrMap d (T.ks.map λK=>(K,T.pt K))::bO n T.ps::aN t 52 (ints q.list)::(l++T.ks.map (dI T))) w') (λi _ _=>c.length-(intOf i).toNat)
  case atStart=>exact⟨0,by omega,rfl,o.out⟩
  clear o;obtain⟨j,hj,rfl,J⟩:=hrel;have B:=ae J;obtain⟨A5,c5,hA5,hr5⟩:=J.swap.lJ;injection hA5 with e1 e2 e3;subst e1;subst e3;have HR5:=ae hr5;clear J hr5 e2;by_cases lW:j<c.length
  ·have hji:(j:Int)<c.length:=by omega
   obtain⟨g,o2,rfl,hgl,ac1,T0⟩:=HR5.out.at_ (k:=j) lW;have H:=ae (II q c T.rw j lW);have hKm:c[j]∈T.ks:=HP.out.mem_iff.1 (aF lW);generalize c[j]=K at *;have A:=ae hKm;have q1:row? wr t 0 3=af (ints q.list):=(B.out.nth 6 (by simp)).blk.aL rfl;clear HR5 hKm;go_wp2_with fail;refine(Ax K q wr).mono ?_;rintro e w5 ⟨rfl,hb5⟩;have o:=ae (B.out.below hb5);clear hb5 q1 T0 B;cases hm:eM K q with
   |false=>
    rw[if_neg (by rw[hm];simp)]at H;clear hm;go_wp2_with fail;go_roundw
    case rel=>exact⟨j+1,by omega,by go_num,by rw[H.out];exact o.out⟩
    simp[intOf];omega
   |true=>
    rw[if_pos hm]at H;clear hm;have k1:w5.cell? ⟨p,1,ah⟩=af (.map (af d)):=(o.out.third).blk.cell 1;have U:=(o.out.nth 4 (by simp)).iV;have T3:=we U A.out (HKD.out K A.out).1 (Below.refl _ _);clear U;have aaO:=HT.out.qG A.out;have ME:Hid (In G Z (mx (T.pt K) K (T.rw K)::bj u7 (lL q c T.rw j)::ei (.slice (af ⟨g,o2,ah⟩) c.length I) c::aN p 108 #[.pointer (af ⟨Y,0,ah⟩),.map (af d),.map (af n)]::cy Y W::PtrMap d (T.ks.map λK=>(K,T.pt K))::bO n T.ps::aN t 52 (ints q.list)::l++(T.ks.erase K).map (dI T)) w5):=In.yy (X:=bj u7 (lL q c T.rw j)::ei (.slice (af ⟨g,o2,ah⟩) c.length I) c::aN p 108 #[.pointer (af ⟨Y,0,ah⟩),.map (af d),.map (af n)]::cy Y W::PtrMap d (T.ks.map λK=>(K,T.pt K))::bO n T.ps::aN t 52 (ints q.list)::l) o.out A.out;have HH:=ae (tt ME.out (by omega));go_wp2_with fail;refine HH.out.mono ?_;rintro e w6 ⟨hv,rfl,ho,U9,Fx⟩;obtain⟨A6,c6,rfl,_,_,_⟩:=aP ho;have um:Hid (In G Z (bj u7 (lL q c T.rw j++(T.rw K).take 0)::mx (T.pt K) K (T.rw K)::ei (.slice (af ⟨g,o2,ah⟩) c.length I) c::aN p 108 #[.pointer (af ⟨Y,0,ah⟩),.map (af d),.map (af n)]::cy Y W::PtrMap d (T.ks.map λK=>(K,T.pt K))::bO n T.ps::aN t 52 (ints q.list)::l++(T.ks.erase K).map (dI T)) w6):=by rw[List.take_zero,cK];exact Fx.swap
    clear ho U9 Fx ME o HH k1 T3;have hvl:∀r∈T.rw K,r.b.v.length=8:=λr hr=>by obtain⟨i,hi,hir⟩:=bR.1 hr;obtain⟨h1,_⟩:=HT.out.at_ K A.out i r (by rw[aj hi,hir]);exact(HT.out.ok _ _ _ h1).2.1
    have HVL:=ae hvl;have hml:(lL q c T.rw j).length<=60 *((c.take j).filter λK=>eM K q).length:=Fq T.rw _ λK' hK'=>HT.out.qG (HP.out.mem_iff.1 (nF (b3.1 hK').1))
    have C:((c.take j).filter λK=>eM K q).length<=256:=bD (iE _ _) (by rw[cR];omega);have HML:Hid ((lL q c T.rw j).length<=15360):=by unfold Hid;omega
    clear hvl hml C;generalize lL q c T.rw j=done at *;have hri:((T.rw K).length:Int)<=60:=by omega
    go_wp2_with fail;go_loopw [43,7] (λi v w'=>∃k:Nat,k<=(T.rw K).length/\i=.int .i64 k/\In G Z (bj v (done++(T.rw K).take k)::mx (T.pt K) K (T.rw K)::ei (.slice (af ⟨g,o2,ah⟩) c.length I) c::aN p 108 #[.pointer (af ⟨Y,0,ah⟩),.map (af d),.map (af n)]::cy Y W::PtrMap d (T.ks.map λK=>(K,T.pt K))::bO n T.ps::aN t 52 (ints q.list)::l++(T.ks.erase K).map (dI T)) w') (λi _ _=>(T.rw K).length-(intOf i).toNat)
    case atStart=>exact⟨0,by omega,rfl,um.out⟩
    clear um;obtain⟨k,hk,rfl,J⟩:=hrel;have B:=ae J;clear J;by_cases RM:k<(T.rw K).length
    ·have rW:(k:Int)<(T.rw K).length:=by omega
     have HRR:Hid (tk (T.rw K) (k:Int)=((T.rw K)[k],0)):=by unfold Hid tk la;have h1:decide (0<=(k:Int))=ak:=decide_eq_true (by omega);have h2:decide ((k:Int)<((T.rw K).length:Nat))=ak:=decide_eq_true (by omega);rw[h1,h2,bP,a7,aj RM];rfl
     have HR:=ae (Ww B.out.swap (k:Int) (by omega));rw[HRR.out]at HR;have HTK:Hid (done++(T.rw K).take (k+1)=(done++(T.rw K).take k)++[(T.rw K)[k]]):=by unfold Hid;rw[aV RM,b9]
     have E:((T.rw K)[k]).list.length=11:=by have h8:=HVL.out _ (aF RM);simp[cQ.list,bw.list,h8]
     have HRC:Hid (iK (T.rw K)[k]=((T.rw K)[k]).list.map (aD .i64)):=by unfold Hid iK pK;rw[Fp E]
     have KZ:(done++(T.rw K).take k).length<=20000:=by rw[bm,cR];have:=HML.out;omega
     generalize (T.rw K)[k]=r at *;have O:=ae E;generalize Y1:r.list=xs at *;generalize done++(T.rw K).take k=cur at *;clear E Y1;have hxl:xs.length=11:=O.out;go_wp2_with fail;refine HR.out.mono ?_;rintro e w8 ⟨rfl,_,Kh⟩;have Kf:=ae Kh.swap;clear Kh HR B HRR;go_upto_region 14 with(fail)
     refine a6 (In G Z (aN w8.heap.size 50 (ints xs)::bj u7 cur::mx (T.pt K) K (T.rw K)::ei (.slice (af ⟨g,o2,ah⟩) c.length I) c::aN p 108 #[.pointer (af ⟨Y,0,ah⟩),.map (af d),.map (af n)]::cy Y W::PtrMap d (T.ks.map λK=>(K,T.pt K))::bO n T.ps::aN t 52 (ints q.list)::l++(T.ks.erase K).map (dI T))) (Kf.out.struct 50 [0,0,0,0,0,0,0,0,0,0,0] xs hxl) ?_;generalize w8.heap.size=rb;intro w9 s;have d3:row? w9 rb 0 11=af (ints xs):=s.blk.aL hxl;have F:=ae s.drop;have HOW:=ae s.drop.rowAt;have V:∀u∈xs.map (aD .i64),u.oneCell'=ak:=by intro u hu;obtain⟨y,_,rfl⟩:=aA.1 hu;rfl
     have Kq:=ae V;clear s V Kf;go_wp2_with (at_builtin;go_loud (refine dv rfl _ _ _ rfl 0 50 i0 _ 11 88 underlying33 uT sS sT sa rfl (by decide) _ cur.length _ rfl HOW.out (xs.map (aD .i64)) rfl (by rw[aY];exact O.out) Kq.out (by unfold maxLen;omega) (by omega) (bH _) ?_));intro v' TD D hg7 Q;have z:=In.o6 F.out D hg7 Q;have P:In G Z (bj v' (cur++[r])::mx (T.pt K) K (T.rw K)::ei (.slice (af ⟨g,o2,ah⟩) c.length I) c::aN p 108 #[.pointer (af ⟨Y,0,ah⟩),.map (af d),.map (af n)]::cy Y W::PtrMap d (T.ks.map λK=>(K,T.pt K))::bO n T.ps::aN t 52 (ints q.list)::l++(T.ks.erase K).map (dI T)) TD:=by unfold bj;rw[bm,bS,bJ,List.flatMap_nil,cK,HRC.out];exact z
     have QA:=ae P;clear D hg7 Q z P d3 F HOW;go_wp2_with fail;go_roundw
     case rel=>exact⟨k+1,by omega,by go_num,by rw[HTK.out];exact QA.out⟩
     simp[intOf];omega
    have W9:k=(T.rw K).length:=by omega
    subst W9;rw[cq,<-H.out]at B;have abP:In G Z (mx (T.pt K) K (T.rw K)::(bj u7 (lL q c T.rw (j+1))::ei (.slice (af ⟨g,o2,ah⟩) c.length I) c::aN p 108 #[.pointer (af ⟨Y,0,ah⟩),.map (af d),.map (af n)]::cy Y W::PtrMap d (T.ks.map λK=>(K,T.pt K))::bO n T.ps::aN t 52 (ints q.list)::l++(T.ks.erase K).map (dI T))) wr:=B.out.swap;go_wp2_with fail;go_roundw
    case rel=>exact⟨j+1,by omega,by go_num,In.Wy (X:=bj u7 (lL q c T.rw (j+1))::ei (.slice (af ⟨g,o2,ah⟩) c.length I) c::aN p 108 #[.pointer (af ⟨Y,0,ah⟩),.map (af d),.map (af n)]::cy Y W::PtrMap d (T.ks.map λK=>(K,T.pt K))::bO n T.ps::aN t 52 (ints q.list)::l) A.out abP⟩
    simp[intOf];omega
  have hjm:j=c.length:=by omega
  subst hjm;have HMA:Hid (lL q c T.rw c.length=(c.filter λK=>eM K q).flatMap T.rw):=by unfold Hid lL;rw[cq]
  have hml:((c.filter λK=>eM K q).flatMap T.rw).length<=60 *(c.filter λK=>eM K q).length:=Fq T.rw _ λK' hK'=>HT.out.qG (HP.out.mem_iff.1 (b3.1 hK').1)
  have C:(c.filter λK=>eM K q).length<=256:=bD (iE _ _) (by omega);rw[HMA.out]at B;have RR:=Ti B.out (by omega);have HSO:=ae RR;clear RR hml C;go_wp2_with fail;refine HSO.out.mono ?_;rintro e w8 ⟨rfl,zs,hzp,hzs,s⟩;have S:zs=tn W f q:=JU HT.out HK.out (λK hK=>(HKD.out K hK).2) q HP.out hzp (hzs.imp λ{a b} h=>by omega);rw[S]at s;have F:=ae s;clear s S hzp hzs HSO B HMA;go_wp2_with fail
  go_ret2
  refine⟨_,rfl,?_⟩;have z:=F.out.swap.drop;exact(In.vn (l:=aN t 52 (ints q.list)::bj u7 (tn W f q)::l) HT.out (z.reorder 6 [1,2,3,4,5,0] rfl (by simp))).swap.drop.swap
def Ie(h:In G Z (l4 p Y W f::l) w)(k:W.length<=60):Calls ai 43 #[.pointer (af ⟨Y,0,ah⟩)] w λe b=>∃A c,e=.returned (.slice A W.length c)/\In G Z (ei (.slice A W.length c) (iw W)::l4 p Y W f::l) b:=by obtain⟨q,o,T,n,g⟩:=h.oL;obtain⟨d,i⟩:=g.swap.head;refine(Rz Y W d w i k).mono ?_;rintro e b ⟨v,rfl,m,j⟩;have a:=h.tU m j;obtain⟨A,c,rfl,_⟩:=a.lJ;rw[OE]at a|-;exact⟨A,c,rfl,a⟩
def Yk{A f n c g b}(k:n<=maxLen)(h:In G Z (ei (.slice A n c) b::l) w){t o i}(s:In o i (ei (.slice f n g) b::t) w):Calls ai 17 #[.slice A n c,.slice f n g] w λe u=>e=.returned (.bool ak)/\w=u:=by obtain⟨B,d,e,m⟩:=h.lJ;obtain⟨v,x,p,a⟩:=s.lJ;injection e with q j y;injection p with r z C;subst q;subst r;rw[<-j]at m;rw[<-j]at a;have:=US A f n n c g b b w w.heap.size w.heap.size m a k k;rw[decide_eq_true rfl]at this;exact this
def In.Wk(h:In G Z (l4 p Y W f::l) w):w.cell? ⟨p,0,ah⟩=af (.pointer (af ⟨Y,0,ah⟩)):=by obtain⟨d,c,T,b,a⟩:=h.oL;exact a.blk.cell 0
end
end
section
open Go.RowKit
def vl{G o w l A n c a}(h:In G o (bj (.slice A n c) a::l) w){k}(b)(j:a[k].b.v.length=8):∃g,A=af ⟨g,0,ah⟩/\row? w g (k *11) 11=af (ints (cQ.list a[k])):=by obtain⟨p,q,e,_,_,m⟩:=h.Zu;injection e with d r s;subst d;obtain⟨g,f,i⟩:=m k b;refine⟨g,f,?_⟩;rw[i,a7,aj b,bT,pq j]
def Ld(z)(a:List Hd)(k h):gM z (a.take (k+1))=mB (gM z (a.take k)) a[k]:=by unfold gM;rw[aV h,jc];rfl
section
variable{G:Nat->Prop} {Z w:ar} {l:List cX} {p:Nat} {z:ZS}
def In.Y7{b a m z x}(d:jC z)(hm:cY m=z.B)(c:il m)(h:In G Z (ja a (kr m x)::dR b (fu z.ls z.f x).1.1 (fu z.ls z.f x).1.2::vt p b a::l) w):In G Z (dn p (mB z x)::l) w:=by refine In.mh (z:=mB z x) (m:=kr m x) ?_ (h.third.perm ((cz _ _ _).cons _));rw[zP c.nodup,hm];rfl
def Ka(h:In G Z (dn p z::l) w)(hk:jC z)(x):Calls ai 65 #[ptr p,iU x] w λe w'=>e=.returned (.int .i64 (mC z x).2)/\In G Z (dn p (mC z x).1::l) w':=by
 have H0:=ae h;have HK:=ae hk;clear h hk;obtain⟨i0,uT,sS,sT,sa⟩:=info_parts ia;obtain⟨a,b⟩:=x;rw[j7];go_enter func65,ntmps65;go_upto_region 1 with(fail)
 refine a6 (In G Z (aN w.heap.size 43 (ints [a,b])::dn p z::l)) (H0.out.alloc 43 (ints [a,b])) ?_;generalize w.heap.size=P;intro L f;have q2:∀n:After L,row? n.w P 0 2=af (ints [a,b]):=λn=>(f.blk.after n.below).aL rfl
 obtain⟨X,V,m,hm,J,W,o⟩:=f.swap.kV;have q3:∀n:After L,n.w.cell? ⟨p,0,ah⟩=af (ptr X):=λn=>(o.blk.after n.below).cell 0
 obtain⟨sp,F,q4,hS⟩:=o.swap.slotsOf;have HL:Hid (∀n:After L,Calls ai 72 #[.pointer (af ⟨sp,0,ah⟩),.agg (ints [a,b])] n.w λe w'=>e=.returned (.bool (z.live (a,b)))/\Below n.w.heap.size n.w w'):=λn=>ql sp z.ls F a b n.w (hS n)
 have M:=ae f;clear f o hm J W hS H0;cases v:z.live (a,b)with
 |false=>
  have HR:Hid (mC z (a,b)=(z,7)):=by unfold Hid mC;rw[v];rfl
  rw[v]at HL;refine bK (by kernel_rfl) (by kernel_rfl) ?_;repeat(go_big_quiet_step ((go_at_call 72;exact eN (HL.out _))))
  refine wpQuiet_nil ?_;rintro _ ⟨n,rfl⟩;have C:=ae (M.out.below n.below);go_wp2_with fail;go_ret;rw[HR.out];exact⟨rfl,C.out.drop⟩
 |true=>
  have HR:Hid (mC z (a,b)=(gM z (vZ z (a,b)),0)):=by unfold Hid mC;rw[if_pos v]
  rw[v]at HL;clear v;refine bK (by kernel_rfl) (by kernel_rfl) ?_;repeat(go_big_quiet_step ((go_at_call 72;exact eN (HL.out _))))
  refine wpQuiet_nil ?_;rintro _ ⟨n,rfl⟩;have Q:=M.out.below n.below;obtain⟨X,V,m,hm,J,W,j⟩:=Q.swap.kV;generalize n.w=B at *;have S:row? B P 0 2=af (ints [a,b]):=Q.blk.aL rfl;have k2:B.cell? ⟨p,1,ah⟩=af (ptr V):=j.blk.cell 1;have s:Hid (In G Z (ja V m::vt p X V::dR X z.ls z.f::aN P 43 (ints [a,b])::l) B):=j.third;have hml:m.length<=60:=by rw[<-DF m,hm];exact HK.out.len
  have HU:Hid (under m (a,b)=under z.B (a,b)):=Alike.under J HK.out.rT W _;have HM:=ae hm;have Y:=ae J;clear Q j hm J W q2 q3 q4 HL M;go_upto_region 3 with(fail)
  go_still_tail 5,(by kernel_rfl)
  change wpList _ _ _ _ _ B.drew;have t:=ae s.out.drew;clear s S k2;generalize B.drew=w6 at *;go_wp2_with fail;refine(OD t.out (by omega) (a,b)).mono ?_;rintro e w7 ⟨uv,rfl,u⟩;have hul:=oo Y.out.nodup Y.out.pD (a,b);have Kf:=ae u;clear u t;go_wp2_with fail;refine(Jo Kf.out (by omega)).mono ?_;rintro e w8 ⟨rfl,d⟩;rw[HU.out]at d hul;have Vh:(under z.B (a,b)).reverse.length=(under z.B (a,b)).length:=List.length_reverse;have HO:=ae d.rowAt;have S:row? w8 P 0 2=af (ints [a,b]):=(d.nth 4 (by simp)).blk.aL rfl;have D:=ae d;clear d Kf HU;generalize hus:(under z.B (a,b)).reverse=us at *;have ac8:us.length<=60:=by omega
  clear Vh;have N:Hid (vZ z (a,b)=us++[(a,b)]):=by unfold Hid vZ;rw[hus]
  clear hus;go_wp2_with (at_builtin;go_loud (refine dv rfl _ _ 122 rfl 0 43 i0 _ 2 16 underlying122 uT sS sT sa rfl (by decide) uv us.length (us.flatMap hC) rfl HO.out [.int .i64 a,.int .i64 b] rfl rfl (by simp[fW]) ?_ ?_ (bH _) ?_))
  case refine_1=>unfold maxLen;omega
  case refine_2=>omega
  intro v' w9 ho hg Xd;have r:=In.vC (x:=(a,b)) D.out ho hg Xd;rw[<-N.out]at r;have RM:(vZ z (a,b)).length<=61:=by rw[N.out,bm,List.length_singleton];omega
  obtain⟨A,c,rfl,YG,T0,_⟩:=mf r.rowAt;have I:In G Z (dn p z::e9 (.slice A (vZ z (a,b)).length c) (vZ z (a,b))::aN P 43 (ints [a,b])::l) w9:=In.mh HM.out (r.perm (by refine List.Perm.trans (cz _ _ _) ?_;refine List.Perm.trans ((cz _ _ _).cons _) ?_;refine List.Perm.trans (cz _ _ _) ?_;refine List.Perm.cons _ ?_;refine List.Perm.trans ((cz _ _ _).cons _) ?_;exact(cz _ _ _)))
  have E:=ae I;clear ho hg Xd r I D HO S hul HM Y hml;generalize hks:vZ z (a,b)=q at *;clear hks N;go_wp2_with fail;go_loopw [31] (λi w'=>∃k:Nat,k<=q.length/\i=.int .i64 k/\jC (gM z (q.take k))/\In G Z (dn p (gM z (q.take k))::e9 (.slice A q.length c) q::aN P 43 (ints [a,b])::l) w') (λi _=>q.length-(intOf i).toNat)
  case atStart=>exact⟨0,bH _,rfl,HK.out,E.out⟩
  clear E;obtain⟨k,hk,rfl,R,hI⟩:=hrel;by_cases lW:k<q.length
  ·have rW:(k:Int)<q.length:=by omega
   obtain⟨A',c',e0,_,hkc,K⟩:=mf hI.swap.rowAt;injection e0 with e1 e2 e3;subst e1;subst e3;obtain⟨g,rfl,q1⟩:=K k lW;have HS:=ae (Ld z q k lW);have YN:(q.length:Int)<=c:=by omega
   have HI:=ae hI;have O:=ae R;clear K e2 hI R;generalize q[k]=y at *;obtain⟨T,U⟩:=y;generalize gM z (q.take k)=zk at *;go_upto_region 8 with(fail)
   refine a6 (In G Z (aN wr.heap.size 43 (ints [T,U])::dn p zk::e9 (.slice (af ⟨g,0,ah⟩) q.length c) q::aN P 43 (ints [a,b])::l)) (HI.out.struct 43 [0,0] [T,U] rfl) ?_;generalize wr.heap.size=yb;intro L f;obtain⟨X,V,m,hm,J,W,o⟩:=f.swap.kV;have S:row? L yb 0 2=af (ints [T,U]):=f.blk.aL rfl;have k2:L.cell? ⟨p,0,ah⟩=af (ptr X):=o.blk.cell 0;have HM:=ae hm;have Y:=ae J;have Ke:=ae o.swap;clear f o hm J W HI q1
   go_still_tail 5,(by kernel_rfl)
   change wpList _ _ _ _ _ L.drew;have C:=ae Ke.out.drew;clear Ke S k2;generalize L.drew=w4 at *;go_wp2_with fail;refine(Vp C.out O.out.w T U).mono ?_;rintro e B ⟨rfl,j⟩;have S:row? B yb 0 2=af (ints [T,U]):=(j.nth 3 (by simp)).blk.aL rfl;have k2:B.cell? ⟨p,1,ah⟩=af (ptr V):=j.swap.blk.cell 1;have s:=ae j.third;clear j C;go_upto_region 9 with(fail)
   go_still_tail 5,(by kernel_rfl)
   change wpList _ _ _ _ _ B.drew;have t:=ae s.out.drew;clear s S k2;generalize B.drew=w6 at *;go_wp2_with fail;refine(Rs t.out (T,U)).mono ?_;rintro e w7 ⟨rfl,u⟩;have d:=In.Y7 O.out HM.out Y.out u;rw[<-HS.out]at d;have D:=ae d;have H:=ae (O.out.mB (T,U));rw[<-HS.out]at H;clear u d t;go_wp2_with fail;go_roundw
   case rel=>exact⟨k+1,by omega,by go_num,H.out,D.out.swap.drop⟩
   simp[intOf];omega
  have:k=q.length:=by omega
  subst this;have HI:=ae hI;rw[cq]at HI;clear hI R;go_wp2_with fail;go_ret;rw[HR.out];exact⟨rfl,HI.out.swap.drop.swap.drop⟩
end
def jL{w g a o c n x d}(b:g≠a)(h:row? w g o n=af x):row? (putRow w a c d) g o n=af x:=by unfold row? at *;rw[fF w a c d g b];exact h
def cell_far{w g a o c x d}(b:g≠a)(h:w.cell? ⟨g,o,ah⟩=af x):(putRow w a c d).cell? ⟨g,o,ah⟩=af x:=by unfold da at *;simp only[fF w a c d g b];exact h
def kq{w g o n c d}(h:fits w g o n=ak)(a:fits w g c d.length=ak):fits (putRow w g c d) g o n=ak:=by unfold fits at *;split at h;rename_i e t b;rw[b]at a;simp only[decide_eq_true_eq]at h a;simp[putRow,bp,b];omega;cases h
def Q9(z o)(h:o.d=1):pG z o=(⟨(dU z.ls z.f o.b).1.1,(dU z.ls z.f o.b).1.2,z.B⟩,(dU z.ls z.f o.b).2.1,(dU z.ls z.f o.b).2.2):=by unfold pG;rw[if_pos h]
def WR(z o)(h:o.d=2):pG z o=((mC z o.a).1,(0,0),(mC z o.a).2):=by unfold pG;rw[if_neg (by omega),if_pos h]
def WS(z o)(h:o.d=3):pG z o=(⟨z.ls,(oa z.ls z.f o.a o.k o.n).1,z.B⟩,(0,0),(oa z.ls z.f o.a o.k o.n).2):=by unfold pG;rw[if_neg (by omega),if_neg (by omega),if_pos h]
def WU(z o)(h:o.d=4):pG z o=(⟨z.ls,(l7 z.ls z.f o.a o.k).1,z.B⟩,(0,0),(l7 z.ls z.f o.a o.k).2):=by unfold pG;rw[if_neg (by omega),if_neg (by omega),if_neg (by omega),if_pos h]
def WV(z o)(h:o.d=5):pG z o=((k7 z o.a o.t).1,(0,0),(k7 z o.a o.t).2):=by unfold pG;rw[if_neg (by omega),if_neg (by omega),if_neg (by omega),if_neg (by omega),if_pos h]
def WW(z o)(h:o.d=6):pG z o=((kj z o.a).1,(0,0),(kj z o.a).2):=by unfold pG;rw[if_neg (by omega),if_neg (by omega),if_neg (by omega),if_neg (by omega),if_neg (by omega),if_pos h]
def WY(z o)(h:o.d≠1/\o.d≠2/\o.d≠3/\o.d≠4/\o.d≠5/\o.d≠6):pG z o=(z,(0,0),1):=by unfold pG;rw[if_neg h.1,if_neg h.2.1,if_neg h.2.2.1,if_neg h.2.2.2.1,if_neg h.2.2.2.2.1,if_neg h.2.2.2.2.2]
section
variable{G:Nat->Prop} {Z w:ar} {l:List cX} {p:Nat} {z:ZS}
def TN(h:In G Z (dn p z::l) w)(hk:jC z)(o)(hv:o.b.v.length=8):Calls ai 28 #[ptr p,.agg (ints o.list)] w λe w'=>e=.returned (.tuple #[.agg (ints [(pG z o).2.1.1,(pG z o).2.1.2]),.int .i64 (pG z o).2.2])/\In G Z (dn p (pG z o).1::l) w':=by
 have H0:=ae h;have HK:=ae hk;have Z3:=ae hv;have Yu:o.list.length=16:=mo.len hv;have hp:p<w.heap.size:=by obtain⟨N,P,m,_,_,_,hI⟩:=h.kV;exact hI.blk.lt
 clear h hk hv;go_enter func28,ntmps28;have hft:fits (((w.alloc (.cells (ints o.list) 74)).alloc (.cells #[.int .i64 0,.int .i64 0] 43)).alloc (.cells #[.int .i64 0,.int .i64 0] 43)) (w.heap.size+1+1) 0 2=ak:=by have I:=(((H0.out.alloc 74 (ints o.list)).alloc 43 (ints [0,0])).alloc 43 (ints [0,0])).blk.fits 0 2 (by rw[aR];simp);simp only[bZ]at I;exact I
 go_upto_region 2 with(fail)
 refine a6 (In G Z (aN (w.heap.size+1+1) 43 (ints [0,0])::aN (w.heap.size+1) 43 (ints [0,0])::aN w.heap.size 74 (ints o.list)::dn p z::l)) (by have I:=H0.out.alloc 74 (ints o.list);have X:=I.alloc 43 (ints [0,0]);have h3:=X.struct 43 [0,0] [0,0] rfl;simp only[bZ]at h3;exact h3) ?_
 clear hft;have v:Hid (w.heap.size+1+1≠w.heap.size+1/\w.heap.size≠w.heap.size+1/\p≠w.heap.size+1):=⟨by omega,by omega,by omega⟩;clear hp;generalize w.heap.size+1+1=nb at *;generalize w.heap.size+1=r at *;generalize w.heap.size=F at *;intro w3 J;clear H0;obtain⟨d,⟨B,u⟩,⟨b,c⟩,⟨g,i⟩,s,C⟩:=o;have Xh:u.length=8:=Z3.out;have J:=J.third;have D:(mo.list ⟨d,⟨B,u⟩,(b,c),(g,i),s,C⟩).drop 10=[b,c,g,i,s,C]:=by have:(mo.list ⟨d,⟨B,u⟩,(b,c),(g,i),s,C⟩)=([d]++(B::u))++[b,c,g,i,s,C]:=rfl;rw[this,List.drop_left' (by simp[Xh])]
 have K:(mo.list ⟨d,⟨B,u⟩,(b,c),(g,i),s,C⟩).drop 12=[g,i,s,C]:=by rw[show(12:Nat)=10+2 from rfl,<-List.drop_drop,D];rfl
 have q0:w3.cell? ⟨F,0,ah⟩=af (.int .i64 d):=J.blk.cell 0;have qf:fits w3 r 0 2=ak:=J.third.blk.fits 0 2 (by rw[aR];simp);obtain⟨N,P,m,hm,hf,ha,ze⟩:=J.fourth.kV;have qp:w3.cell? ⟨p,0,ah⟩=af (ptr N):=ze.blk.cell 0;have E:Hid (In G Z (dn p z::aN r 43 (ints [0,0])::aN F 74 (ints (mo.list ⟨d,⟨B,u⟩,(b,c),(g,i),s,C⟩))::aN nb 43 (ints [0,0])::l) w3):=by have:=J.reorder 4 [3,2,0,1] rfl (by simp);exact this
 have V:Hid (In G Z (dR N z.ls z.f::aN r 43 (ints [0,0])::vt p N P::ja P m::aN F 74 (ints (mo.list ⟨d,⟨B,u⟩,(b,c),(g,i),s,C⟩))::aN nb 43 (ints [0,0])::l) w3):=by have:=ze.reorder 6 [1,5,0,2,3,4] rfl (by simp);exact this
 have HM:=ae hm;clear J ze hm hf ha;generalize hL:aN F 74 (ints (mo.list ⟨d,⟨B,u⟩,(b,c),(g,i),s,C⟩))::aN nb 43 (ints [0,0])::l=L at *;have HL:Hid (∀{W:ar}{A:cX},In G Z (A::L) W->In G Z (A::l) W):=by intro W A h;rw[<-hL]at h;exact h.swap.drop.swap.drop
 have HOB:Hid (∀{W:ar}{A:cX},In G Z (A::L) W->row? W F 10 2=af (ints [b,c])/\row? W F 12 2=af (ints [g,i])/\row? W F 1 9=af (ints (bw.list ⟨B,u⟩))/\W.cell? ⟨F,14,ah⟩=af (.int .i64 s)/\W.cell? ⟨F,15,ah⟩=af (.int .i64 C)/\row? W nb 0 2=af (ints [0,0])):=by intro W A h;rw[<-hL]at h;have hb:=h.swap.blk;refine⟨?_,?_,?_,?_,?_,h.third.blk.aL rfl⟩;rw[hb.dy 10 2 (by omega),D];rfl;rw[hb.dy 12 2 (by omega),K];rfl;rw[hb.dy 1 9 (by omega)];have:(mo.list ⟨d,⟨B,u⟩,(b,c),(g,i),s,C⟩).drop 1=bw.list ⟨B,u⟩++[b,c,g,i,s,C]:=rfl;rw[this,List.take_left' (by simp[bw.list,Xh])];refine oe (n:=1) (xs:=[]) ?_;rw[hb.dy 14 1 (by omega),show(14:Nat)=10+4 from rfl,<-List.drop_drop,D];rfl;refine oe (n:=1) (xs:=[]) ?_;rw[hb.dy 15 1 (by omega),show(15:Nat)=10+5 from rfl,<-List.drop_drop,D];rfl
 obtain⟨q2,q3,q5,S,M,qn⟩:=HOB.out (E.out.swap.drop);clear hL D K Yu Xh;have T:Hid (∀{W:ar}{A:cX},In G Z (A::aN r 43 (ints [0,0])::vt p N P::ja P m::L) W->W.cell? ⟨p,0,ah⟩=af (ptr N)/\fits W r 0 2=ak/\row? W F 10 2=af (ints [b,c])/\row? W F 1 9=af (ints (bw.list ⟨B,u⟩))/\W.cell? ⟨F,14,ah⟩=af (.int .i64 s)/\W.cell? ⟨F,15,ah⟩=af (.int .i64 C)/\row? W nb 0 2=af (ints [0,0])):=by intro W A h;obtain⟨r2,r3,r5,r14,r15,rn⟩:=HOB.out (h.swap.drop.swap.drop.swap.drop);exact⟨h.third.blk.cell 0,h.swap.blk.fits 0 2 (by rw[aR];simp),r2,r5,r14,r15,rn⟩
 have U:Hid (∀{W:ar}{A:cX},In G Z (A::aN r 43 (ints [0,0])::L) W->fits W r 0 2=ak/\row? W F 10 2=af (ints [b,c])/\row? W nb 0 2=af (ints [0,0])):=by intro W A h;obtain⟨r2,r3,r5,r14,r15,rn⟩:=HOB.out (h.swap.drop);exact⟨h.swap.blk.fits 0 2 (by rw[aR];simp),r2,rn⟩
 have j:Hid (∀{W:ar}{A:cX}{L:List cX}(x y:Int),In G Z (A::aN r 43 (ints [0,0])::L) W->In G Z (A::aN r 43 (ints [x,y])::L) (putRow W r 0 [x,y])):=λx y h=>(h.swap.dY [x,y] rfl).swap
 have H:Hid (∀{W:ar}{T9:List (Int×Bool)}{f':BF}{xs:List Int},In G Z (dR N T9 f'::aN r 43 (ints xs)::vt p N P::ja P m::L) W->In G Z (dn p ⟨T9,f',z.B⟩::l) W):=λ{W T9 f' xs} h=>HL.out (In.mh (z:=⟨T9,f',z.B⟩) HM.out h.swap.drop.swap)
 clear J HM;by_cases I:d=1
 ·have hd:(d==1)=ak:=by simp[I]
  have O:Hid (pG z ⟨d,⟨B,u⟩,(b,c),(g,i),s,C⟩=_):=Q9 z _ I;clear I q2 q3 S M qn;go_upto_region 4 with(fail)
  go_region_held3 (λW=>W.cell? ⟨p,0,ah⟩=af (ptr N)/\row? W F 1 9=af (ints (bw.list ⟨B,u⟩))/\fits W r 0 2=ak)
   (refine⟨?_,?_,?_⟩<;>first|assumption|(refine jL v.out.2.1 ?_;assumption)|(refine cell_far v.out.2.2 ?_;assumption)|(refine kq ?_ ?_<;>assumption))
   (first|(go_at_call 64;refine(Tj V.out.drew HK.out.w ⟨B,u⟩ Z3.out).mono ?_;rintro e Y ⟨rfl,a⟩;obtain⟨s1,s2,s3,s4,s5,s6,s7⟩:=T.out a;have yL:=ae a;clear a))
  have f:=ae (j.out (dU z.ls z.f ⟨B,u⟩).2.1.1 (dU z.ls z.f ⟨B,u⟩).2.1.2 yL.out);go_wp2_with fail;refine aZ rfl r 43 (ints [(dU z.ls z.f ⟨B,u⟩).2.1.1,(dU z.ls z.f ⟨B,u⟩).2.1.2]) (.int .i64 (dU z.ls z.f ⟨B,u⟩).2.2) _ rfl rfl f.out.swap.blk underlying43 rfl (by rw[aR];exact bW) rfl ?_;rw[O.out];exact⟨rfl,H.out f.out⟩
 have OM:(d==1)=aq:=by simp[I]
 by_cases X:d=2
 ·have hd:(d==2)=ak:=by simp[X]
  have O:Hid (pG z ⟨d,⟨B,u⟩,(b,c),(g,i),s,C⟩=_):=WR z _ X;clear I X q3 q5 S M qp;go_upto_region 6 with(fail)
  go_region_held3 (λW=>row? W F 10 2=af (ints [b,c])/\row? W nb 0 2=af (ints [0,0])/\fits W r 0 2=ak)
   (refine⟨?_,?_,?_⟩<;>first|assumption|(refine jL v.out.2.1 ?_;assumption)|(refine jL v.out.1 ?_;assumption)|(refine kq ?_ ?_<;>assumption))
   (first
     |(go_at_call 65;refine(Ka E.out.drew HK.out (b,c)).mono ?_;rintro e Y ⟨rfl,a⟩;obtain⟨s1,s2,s3⟩:=U.out a;have f:=ae (j.out 0 0 a);clear a)
     |(go_at_call 65;refine(Ka (j.out 0 0 E.out.drew) HK.out (b,c)).mono ?_;rintro e Y ⟨rfl,a⟩;obtain⟨s1,s2,s3⟩:=U.out a;have f:=ae a;clear a))
  all_goals go_wp2_with fail;refine aZ rfl r 43 (ints [0,0]) (.int .i64 (mC z (b,c)).2) _ rfl rfl f.out.swap.blk underlying43 rfl (by rw[aR];exact bW) rfl ?_;rw[O.out];exact⟨rfl,HL.out f.out.swap.drop⟩
 have hd2:(d==2)=aq:=by simp[X]
 by_cases h3:d=3
 ·have hd:(d==3)=ak:=by simp[h3]
  have O:Hid (pG z ⟨d,⟨B,u⟩,(b,c),(g,i),s,C⟩=_):=WS z _ h3;clear I X h3 q3 q5;go_upto_region 8 with(fail)
  go_region_held3 (λW=>W.cell? ⟨p,0,ah⟩=af (ptr N)/\row? W F 10 2=af (ints [b,c])/\W.cell? ⟨F,14,ah⟩=af (.int .i64 s)/\W.cell? ⟨F,15,ah⟩=af (.int .i64 C)/\row? W nb 0 2=af (ints [0,0])/\fits W r 0 2=ak)
   (refine⟨?_,?_,?_,?_,?_,?_⟩<;>first|assumption|(refine jL v.out.2.1 ?_;assumption)|(refine jL v.out.1 ?_;assumption)|(refine cell_far v.out.2.2 ?_;assumption)|(refine cell_far v.out.2.1 ?_;assumption)|(refine kq ?_ ?_<;>assumption))
   (first
     |(go_at_call 66;refine(LH V.out.drew HK.out.w b c s C).mono ?_;rintro e Y ⟨rfl,a⟩;obtain⟨s1,s2,s3,s4,s5,s6,s7⟩:=T.out a;have f:=ae (j.out 0 0 a);clear a)
     |(go_at_call 66;refine(LH (j.out 0 0 V.out.drew) HK.out.w b c s C).mono ?_;rintro e Y ⟨rfl,a⟩;obtain⟨s1,s2,s3,s4,s5,s6,s7⟩:=T.out a;have f:=ae a;clear a))
  all_goals go_wp2_with fail;refine aZ rfl r 43 (ints [0,0]) (.int .i64 (oa z.ls z.f (b,c) s C).2) _ rfl rfl f.out.swap.blk underlying43 rfl (by rw[aR];exact bW) rfl ?_;rw[O.out];exact⟨rfl,H.out f.out⟩
 have hd3:(d==3)=aq:=by simp[h3]
 by_cases h4:d=4
 ·have hd:(d==4)=ak:=by simp[h4]
  have O:Hid (pG z ⟨d,⟨B,u⟩,(b,c),(g,i),s,C⟩=_):=WU z _ h4;clear I X h3 h4 q3 q5 M;go_upto_region 10 with(fail)
  go_region_held3 (λW=>W.cell? ⟨p,0,ah⟩=af (ptr N)/\row? W F 10 2=af (ints [b,c])/\W.cell? ⟨F,14,ah⟩=af (.int .i64 s)/\row? W nb 0 2=af (ints [0,0])/\fits W r 0 2=ak)
   (refine⟨?_,?_,?_,?_,?_⟩<;>first|assumption|(refine jL v.out.2.1 ?_;assumption)|(refine jL v.out.1 ?_;assumption)|(refine cell_far v.out.2.2 ?_;assumption)|(refine cell_far v.out.2.1 ?_;assumption)|(refine kq ?_ ?_<;>assumption))
   (first
     |(go_at_call 67;refine(MP V.out.drew HK.out.w b c s).mono ?_;rintro e Y ⟨rfl,a⟩;obtain⟨s1,s2,s3,s4,s5,s6,s7⟩:=T.out a;have f:=ae (j.out 0 0 a);clear a)
     |(go_at_call 67;refine(MP (j.out 0 0 V.out.drew) HK.out.w b c s).mono ?_;rintro e Y ⟨rfl,a⟩;obtain⟨s1,s2,s3,s4,s5,s6,s7⟩:=T.out a;have f:=ae a;clear a))
  all_goals go_wp2_with fail;refine aZ rfl r 43 (ints [0,0]) (.int .i64 (l7 z.ls z.f (b,c) s).2) _ rfl rfl f.out.swap.blk underlying43 rfl (by rw[aR];exact bW) rfl ?_;rw[O.out];exact⟨rfl,H.out f.out⟩
 have hd4:(d==4)=aq:=by simp[h4]
 clear q5 S M qp V H T;by_cases h5:d=5
 ·have hd:(d==5)=ak:=by simp[h5]
  have O:Hid (pG z ⟨d,⟨B,u⟩,(b,c),(g,i),s,C⟩=_):=WV z _ h5;clear I X h3 h4 h5;have hbs:∀W,(gB 122 2 #[(0,.agg (ints [b,c])),(1,.agg (ints [g,i]))]).run ai W=.ok (.slice (af ⟨W.heap.size,0,ah⟩) 2 2) (W.alloc (.cells (ints [b,c,g,i]) 43)):=λW=>by kernel_rfl
  have HB:Hid (In G Z (dn p z::e9 (.slice (af ⟨w3.heap.size,0,ah⟩) 2 2) [(b,c),(g,i)]::aN r 43 (ints [0,0])::L) (w3.alloc (.cells (ints [b,c,g,i]) 43))):=(E.out.Sw 43 2 2 [.int .i64 b,.int .i64 c,.int .i64 g,.int .i64 i] rfl (by decide)).swap;go_wp2_with fail;refine(Kb HB.out (by simp)).mono ?_;rintro e w4 ⟨rfl,k⟩;have k:=k.swap.drop;by_cases t:oI z [(b,c),(g,i)]=ak
  ·have q:z.live (b,c)=ak/\z.live (g,i)=ak:=by simpa[oI]using t
   have HA:Hid (k7 z (b,c) (g,i)=(⟨z.ls,z.f,cY (fx z.B (b,c) (g,i)).1⟩,(fx z.B (b,c) (g,i)).2)):=by unfold Hid k7;rw[if_pos q]
   rw[if_pos t];obtain⟨N,P,m,hm,hf,ha,Q⟩:=k.kV;obtain⟨q2,q3,q5,S,M,qn⟩:=HOB.out k.swap.drop;have qp:w4.cell? ⟨p,1,ah⟩=af (ptr P):=Q.blk.cell 1;have ZV:=ae (ha.vB (b,c) (g,i));have Uw:Hid (cY (fx m (b,c) (g,i)).1=cY (fx z.B (b,c) (g,i)).1):=sE (hf.vB _ _).nodup (HK.out.rT.vB _ _).nodup (ha.vB (b,c) (g,i)).1;have f:Hid (In G Z (ja P m::vt p N P::dR N z.ls z.f::aN r 43 (ints [0,0])::L) w4):=Q.third;clear k Q t q hm hf ha q5 S M HB E;go_upto_region 14 with(fail)
   go_still_tail 8,(by kernel_rfl)
   change wpList _ _ _ _ _ w4.drew;have um:=ae f.out.drew;clear f q2 q3 qn qp qf;generalize w4.drew=w5 at *;go_wp2_with fail;refine(OA um.out (b,c) (g,i)).mono ?_;rintro e w6 ⟨rfl,Kh⟩;have R:In G Z (dn p ⟨z.ls,z.f,cY (fx z.B (b,c) (g,i)).1⟩::aN r 43 (ints [0,0])::L) w6:=In.mh (z:=⟨z.ls,z.f,cY (fx z.B (b,c) (g,i)).1⟩) Uw.out Kh.third.third;rw[ZV.out.2];obtain⟨qf,q2,qn⟩:=U.out R;have f:=ae (j.out 0 0 R);clear Kh R um;go_wp2_with fail;refine aZ rfl r 43 (ints [0,0]) (.int .i64 (fx z.B (b,c) (g,i)).2) _ rfl rfl f.out.swap.blk underlying43 rfl (by rw[aR];exact bW) rfl ?_;rw[O.out,HA.out];exact⟨rfl,HL.out f.out.swap.drop⟩
  have q:¬(z.live (b,c)=ak/\z.live (g,i)=ak):=by simpa[oI]using t
  have HA:Hid (k7 z (b,c) (g,i)=(z,7)):=by unfold Hid k7;rw[if_neg q]
  rw[if_neg t];obtain⟨qf,q2,qn⟩:=U.out k;have f:=ae (j.out 0 0 k);clear k t q HB E;go_wp2_with fail;refine aZ rfl r 43 (ints [0,0]) (.int .i64 7) _ rfl rfl f.out.swap.blk underlying43 rfl (by rw[aR];exact bW) rfl ?_;rw[O.out,HA.out];exact⟨rfl,HL.out f.out.swap.drop⟩
 have hd5:(d==5)=aq:=by simp[h5]
 by_cases h6:d=6
 ·have hd:(d==6)=ak:=by simp[h6]
  have O:Hid (pG z ⟨d,⟨B,u⟩,(b,c),(g,i),s,C⟩=_):=WW z _ h6;clear I X h3 h4 h5 h6;have HB:Hid (In G Z (dn p z::e9 (.slice (af ⟨w3.heap.size,0,ah⟩) 1 1) [(b,c)]::aN r 43 (ints [0,0])::L) (w3.alloc (.cells (ints [b,c]) 43))):=(E.out.Sw 43 2 1 [.int .i64 b,.int .i64 c] rfl (by decide)).swap;go_wp2_with fail;refine(Kb HB.out (by simp)).mono ?_;rintro e w4 ⟨rfl,k⟩;have k:=k.swap.drop;by_cases t:oI z [(b,c)]=ak
  ·have q:z.live (b,c)=ak:=by simpa[oI]using t
   have HA:Hid (kj z (b,c)=(⟨z.ls,z.f,(eH z.B (b,c)).1⟩,(eH z.B (b,c)).2)):=by unfold Hid kj;rw[if_pos q]
   rw[if_pos t];obtain⟨N,P,m,hm,hf,ha,Q⟩:=k.kV;obtain⟨q2,q3,q5,S,M,qn⟩:=HOB.out k.swap.drop;have qp:w4.cell? ⟨p,1,ah⟩=af (ptr P):=Q.blk.cell 1;have ZV:=ae (ha.loosen (b,c));have Uw:Hid (cY (eH m (b,c)).1=(eH z.B (b,c)).1):=by have I:=(HK.out.loosen (b,c)).Ny;rw[HA.out]at I;have X:=sE (hf.loosen (b,c)).nodup (HK.out.rT.loosen (b,c)).nodup (ha.loosen (b,c)).1;exact X.trans I
   have f:Hid (In G Z (ja P m::vt p N P::dR N z.ls z.f::aN r 43 (ints [0,0])::L) w4):=Q.third;clear k Q t q hm hf ha q3 q5 S M HB E;go_upto_region 19 with(fail)
   go_still_tail 6,(by kernel_rfl)
   change wpList _ _ _ _ _ w4.drew;have um:=ae f.out.drew;clear f q2 qn qp qf;generalize w4.drew=w5 at *;go_wp2_with fail;refine(KU um.out (b,c)).mono ?_;rintro e w6 ⟨rfl,Kh⟩;have R:In G Z (dn p ⟨z.ls,z.f,(eH z.B (b,c)).1⟩::aN r 43 (ints [0,0])::L) w6:=In.mh (z:=⟨z.ls,z.f,(eH z.B (b,c)).1⟩) Uw.out Kh.third.third;rw[ZV.out.2];obtain⟨qf,q2,qn⟩:=U.out R;have f:=ae (j.out 0 0 R);clear Kh R um;go_wp2_with fail;refine aZ rfl r 43 (ints [0,0]) (.int .i64 (eH z.B (b,c)).2) _ rfl rfl f.out.swap.blk underlying43 rfl (by rw[aR];exact bW) rfl ?_;rw[O.out,HA.out];exact⟨rfl,HL.out f.out.swap.drop⟩
  have q:¬(z.live (b,c)=ak):=by simpa[oI]using t
  have HA:Hid (kj z (b,c)=(z,7)):=by unfold Hid kj;rw[if_neg q]
  rw[if_neg t];obtain⟨qf,q2,qn⟩:=U.out k;have f:=ae (j.out 0 0 k);clear k t q HB E;go_wp2_with fail;refine aZ rfl r 43 (ints [0,0]) (.int .i64 7) _ rfl rfl f.out.swap.blk underlying43 rfl (by rw[aR];exact bW) rfl ?_;rw[O.out,HA.out];exact⟨rfl,HL.out f.out.swap.drop⟩
 have hd6:(d==6)=aq:=by simp[h6]
 have O:Hid (pG z ⟨d,⟨B,u⟩,(b,c),(g,i),s,C⟩=_):=WY z _ ⟨I,X,h3,h4,h5,h6⟩;have f:=ae (j.out 0 0 E.out);go_wp2_with fail;refine aZ rfl r 43 (ints [0,0]) (.int .i64 1) _ rfl rfl f.out.swap.blk underlying43 rfl (by rw[aR];exact bW) rfl ?_;rw[O.out];exact⟨rfl,HL.out f.out.swap.drop⟩
end
def In.bare{G a w l}(h:In G a l w):In G a [] w:=⟨trivial,h.only⟩
def mv(G:Nat->Prop)(b:ar)(B:Nat)(A:Option Addr)(a:List mo):Prop:=∀{W:ar},In G b [] W->sx W B A a
def mv.AE{w A a}(h:sx w w.heap.size A a):mv (λ_=>False) w w.heap.size A a:=λb=>h.below b.ko
section
variable{G:Nat->Prop} {Z w:ar} {l:List cX} {B:Nat} {A:Option Addr} {c:Nat} {Y:List mo}
def Qk(y:mv G Z B A Y)(C:Y.length<=1099511627776)(r:∀o∈Y,o.b.v.length=8)(a:In G Z l w):Calls ai 24 #[.slice A Y.length c] w λe v=>∃p,e=.returned (ptr p)/\In G Z (dn p (sK Y)::l) v:=by
 have E:Hid (mv G Z B A Y):=y;have j:=ae a;have x:=ae r;clear a r y;go_enter func24,ntmps24;go_wp2_with fail;refine(NT j.out).mono ?_;rintro e O ⟨p,rfl,a⟩;have m:=ae a;clear a j;go_wp2_with fail;go_loopw [11] (λi v=>∃k:Nat,k<=Y.length/\i=.int .i64 k/\In G Z (dn p (iq Y k)::l) v) (λi _=>Y.length-(intOf i).toNat)
 case atStart=>exact⟨0,bH _,rfl,m.out⟩
 case round=>
  clear m;obtain⟨k,M,rfl,a⟩:=hrel;have h:=ae a;clear a;by_cases g:k<Y.length
  ·have I:(k:Int)<Y.length:=by omega
   obtain⟨b,o,rfl,H,K⟩:=(E.out h.out.bare).at_ g;have F:Hid (iq Y (k+1)=(pG (iq Y k) Y[k]).1):=yl Y k g;have u:Hid (jC (iq Y k)):=DT x.out k;have n:Hid (Y[k].b.v.length=8):=x.out _ (aF g);have d:(mo.list Y[k]).length=16:=mo.len n.out;generalize Y[k]=op at *;generalize iq Y k=z at *;go_upto_region 7 with(fail)
   refine a6 (In G Z (aN wr.heap.size 74 (ints op.list)::dn p z::l)) (h.out.struct 74 [0,0,0,0,0,0,0,0,0,0,0,0,0,0,0,0] op.list d) ?_;generalize wr.heap.size=J;intro L f;have N:row? L J 0 16=af (ints op.list):=f.blk.aL d;have s:=ae f.swap;clear f K h d;go_wp2_with fail;refine(TN s.out u.out op n.out).mono ?_;rintro e P ⟨rfl,q⟩;have t:=ae q;clear q;go_wp2_with fail;go_roundw
   case rel=>exact⟨k+1,by omega,by go_num,by rw[F.out];exact t.out.swap.drop⟩
   simp[intOf];omega
  have:k=Y.length:=by omega
  subst this;have D:Hid (iq Y Y.length=sK Y):=by unfold Hid iq;rw[cq]
  rw[D.out]at h;go_wp2_with fail;go_ret;exact⟨p,rfl,h.out⟩
end
def ud{w g o n b}(h:row? w g o n=af (ints b))(a m)(d:a+m<=n):row? w g (o+a) m=af (ints ((b.drop a).take m)):=by
 unfold row? at *;split at h;split at h;rename_i e;injection h with h;rw[if_pos (by omega)];congr 1;have c:(ints b).extract a (a+m)=ints ((b.drop a).take m):=by unfold ints;apply oq;simp[List.map_drop,List.map_take,List.extract_eq_take_drop]
 rw[<-c,<-h,Array.extract_extract,qO (by omega),kg];cases h;cases h
def OB(a:List cQ):(a.flatMap iK).length=a.length *11:=by
 induction a with|nil=>rfl|cons r a b=>rw[bJ,bm,lx,b,ax];omega
section
variable{G:Nat->Prop} {Z w:ar} {l:List cX} {p:Nat} {z:ZS}
def E3(h:In G Z (dn p z::l) w)(K:jC z):Calls ai 16 #[ptr p] w λe X=>∃v E j,e=.returned (.agg #[v,E,j])/\In G Z (ei v (iw z.ls)::bj E z.rows::dA j z.B::dn p z::l) X:=by
 have H:=ae h;have B:=ae K;clear h K;go_enter func16,ntmps16;go_upto_region 1 with(fail)
 refine a6 (In G Z (dn p z::aN w.heap.size 36 #[.slice ah 0 0,.slice ah 0 0,.slice ah 0 0]::l)) (H.out.alloc 36 #[.slice ah 0 0,.slice ah 0 0,.slice ah 0 0]).swap ?_;generalize w.heap.size=i;intro Y s;obtain⟨c,k,m,hm,Q,P,g⟩:=s.kV;obtain⟨x,t⟩:=g.swap.TG;have N:Y.cell? ⟨p,0,ah⟩=af (ptr c):=g.blk.cell 0;have HM:=ae hm;have u:m.length<=1099511627776:=by have:=DF m;have:=B.out.len;rw[hm]at *;omega
 have r:=ae u;have o:=ae t;clear s g t hm Q P H u;have C:=ae (Js o.out B.out.w yJ);rw[E2,if_pos rfl,Bq xx,BV]at C;go_wp2_with fail;refine C.out.mono ?_;rintro e w2 ⟨E,rfl,D⟩;obtain⟨F,J,rfl,_,_,_⟩:=aP D.rowAt;have n:Hid (∀{W:ar}{L:List cX},In G Z (l4 c x z.ls z.f::vt p c k::ja k m::aN i 36 #[.slice ah 0 0,.slice ah 0 0,.slice ah 0 0]::L) W->W.cell? ⟨p,0,ah⟩=af (ptr c)/\W.cell? ⟨p,1,ah⟩=af (ptr k)/\W.cell? ⟨c,0,ah⟩=af (ptr x)/\fits W i 0 3=ak):=λ{W L} h=>⟨h.swap.blk.cell 0,h.swap.blk.cell 1,h.Wk,h.fourth.blk.fits 0 3 (by simp)⟩
 have b:Hid (In G Z (l4 c x z.ls z.f::vt p c k::ja k m::aN i 36 #[.slice ah 0 0,.slice ah 0 0,.slice ah 0 0]::bj (.slice F z.rows.length J) z.rows::l) w2):=D.to5;obtain⟨s1,s2,s3,s4⟩:=n.out b.out;have f:Hid (p≠i/\c≠i):=by refine⟨b.out.drop.swap.drop.apart,?_⟩;obtain⟨tb,pb,T,hT,a⟩:=b.out.oL;simp only[eD]at a;exact a.swap.drop.swap.drop.swap.drop.swap.drop.swap.drop.apart
 clear D C o N;have d:=ae B.out.w.so.1;go_upto_region 2 with(fail)
 go_region_held3 (λW=>W.cell? ⟨p,0,ah⟩=af (ptr c)/\W.cell? ⟨p,1,ah⟩=af (ptr k)/\W.cell? ⟨c,0,ah⟩=af (ptr x)/\fits W i 0 3=ak)
  (first|(refine⟨?_,?_,?_,?_⟩<;>assumption)|(refine⟨od f.out.1 ?_,od f.out.1 ?_,od f.out.2 ?_,?_⟩;all_goals first|assumption|exact yo (by assumption) rfl))
  (first
    |(go_at_call 43;refine(Ie y.out d.out).mono ?_;rintro e w5 ⟨A5,c5,rfl,a⟩;have a:=a.to5;obtain⟨R,S,U,V⟩:=n.out a;have q:=ae a;clear a)
    |(go_at_call 44;refine(DW A.out r.out).mono ?_;rintro e w5 ⟨j,rfl,a⟩;rw[HM.out]at a;obtain⟨M,O,rfl,_,_,_⟩:=aP a.rowAt;have a:=a.to5.to3;obtain⟨R,S,U,V⟩:=n.out a;have q:=ae (a.reorder 6 [0,1,2,3,5,4] rfl (by simp));clear a)
    |(go_at_call 43;refine(Ie b.out.drew d.out).mono ?_;rintro e w4 ⟨A4,c4,rfl,a⟩;have a:=a.to5;obtain⟨u1,u2,u3,u4⟩:=n.out a;have A:=ae a.third;clear a)
    |(go_at_call 44;refine(DW b.out.drew.third r.out).mono ?_;rintro e w4 ⟨j,rfl,a⟩;rw[HM.out]at a;obtain⟨M,O,rfl,_,_,_⟩:=aP a.rowAt;have a:=a.to5.to3;obtain⟨u1,u2,u3,u4⟩:=n.out a;have y:=ae a;clear a))
 all_goals
  have I:=λv j=>In.LD (In.fourth q.out) [v,.slice F z.rows.length J,j] rfl
  go_wp2_with fail;refine kP rfl i 36 _ _ rfl (I _ _).blk underlying36 rfl oV rfl ?_;exact⟨_,_,_,rfl,(In.mh HM.out (I _ _).drop.GK.swap).reorder 4 [1,3,2,0] rfl (by simp)⟩
end
end
section
open Rel
open Go.Conc Go.ConcN
open Go.ConcR (Payload WgAt)
open Go.RowKit
def Ky(b:bw):List aB:=b.list.map (aD .i64)
def E6(S:nK)(o:Nat->Prop)(w:ar)(v:aB)(b:List bw):Prop:=∃V:Nat->Prop,(∀r,V r->o r)/\(∀r,V r->∃a,w.heap[r]? =af a/\jH S (only V) a a)/\bz S (only V) v v/\w.ownsRow 0 48 9 v b.length (b.flatMap Ky)
def BM{S V g n c}(h:bz S (only V) (.slice (af ⟨g,0,ah⟩) n c) (.slice (af ⟨g,0,ah⟩) n c)):V g:=by
 generalize a:er (af ⟨g,0,ah⟩) n c=x at h;cases h with|slice l c b=>cases a;exact b.block.2|_=>cases a
def tZ{S V}{w c:ar}{v n d}(k:bz S (only V) v v)(h:w.ownsRow 0 48 9 v n d)(j:∀r,V r->c.heap[r]? =w.heap[r]?):c.ownsRow 0 48 9 v n d:=by refine⟨h.1,?_⟩;rcases h.2 with e|⟨g,a,b,rfl,f,i,r⟩;exact .inl e;exact .inr ⟨g,a,b,rfl,f,(j g (BM k)).trans i,r⟩
def E6.keep{S o w f v c}(h:E6 S o w v c)(e:∀r,o r->f.heap[r]? =w.heap[r]?):E6 S o f v c:=by obtain⟨V,b,j,d,k⟩:=h;exact⟨V,b,λr a=>let⟨l,g,i⟩:=j r a;⟨l,(e r (b r a)).trans g,i⟩,d,tZ d k λr a=>e r (b r a)⟩
def jpB(S:nK)(a:Nat)(c:List cQ)(b:List Sys)(o:Nat->Prop)(i:Nat)(w:ar):Prop:=∃v,w.cell? ⟨a,i,ah⟩=af v/\E6 S o w v (c.map λr=>bU r.b (b.getD i cW))
structure MB(φ:Ph) (S:nK) (wp:ar) (b1 C:Nat) (fv:aB) (p:Nat) (γ:Gh) (w:ar) (V:Nat->Prop):Prop where
 o1:γ.own b1
 oC:γ.own C
 c1:w.cell? ⟨b1,0,ah⟩=af (.pointer (af ⟨φ.Wg,0,ah⟩))
 cC:w.heap[C]? =af (.cells #[fv] 1)
 rd:∀b,φ.mX b->w.heap[b]? =wp.heap[b]?
 pay:∀b,φ.CB b->ft w b=ft wp b
 live:WgLive φ.ty φ.Wg w
 cb:∀r,γ.own r->¬φ.CB r/\¬φ.mX r/\r≠φ.Wg/\r<w.heap.size
 size:wp.heap.size<=w.heap.size
 hp:γ.held p
 vo:∀r,V r->γ.own r/\r≠b1/\r≠C
 vh:cg φ.P S (only V) w w
 Dg:∀i,γ.held i->i≠p->φ.JP (λb=>γ.own b/\b≠C/\¬V b) i w
 Zd:∀a,S.mem a=ah
section
variable{Z:Ph} {S:nK} {Y w X W:ar} {U C p:Nat} {T:aB} {R Q:Gh} {V P:Nat->Prop}
def MB.rely(O:Z.Ok)(h:MB Z S Y U C T p R w V)(r:Z.eT R w X):MB Z S Y U C T p R X V:=⟨h.o1,h.oC,(db (r.own U h.o1)).trans h.c1,(r.own C h.oC).trans h.cC,λb e=>(r.rd b e).trans (h.rd b e),λb e=>(r.pay b e).trans (h.pay b e),r.live h.live,λx f=>let⟨a,b,d,c⟩:=h.cb x f;⟨a,b,d,bQ c r.size⟩,bD h.size r.size,h.hp,h.vo,h.vh.qw r.size (λx f=>r.own x (h.vo x f).1) (λa x f=>by rw[h.Zd a]at f;cases f),λi g k=>O.jp _ w X i (λb e=>r.own b e.1) (λa j=>r.cell i a g j) (h.Dg i g k),h.Zd⟩
def MB.val(O:Z.Ok)(k:∀r,Z.mX r\/Z.CB r\/r=Z.Wg->r<Y.heap.size)(h:MB Z S Y U C T p R w V)(H:∀r,V r->P r)(s:∀r,P r->V r\/(w.heap.size<=r/\r<W.heap.size))(t:cg Z.P S (only P) W W)(m:∀r,r<w.heap.size->¬V r->W.heap[r]? =w.heap[r]?)(u:w.heap.size<=W.heap.size):MB Z S Y U C T p (R.grow w W) W P:=by
 have I:=h.size;have E:∀r,Z.mX r\/Z.CB r\/r=Z.Wg->¬V r:=λr g j=>by obtain⟨a,b,c,_⟩:=h.cb r (h.vo r j).1;rcases g with g|g|g;exact b g;exact a g;exact c g
 have keep:∀r,Z.mX r\/Z.CB r\/r=Z.Wg->W.heap[r]? =w.heap[r]?:=λr g=>m r (by have:=k r g;omega) (E r g)
 have B:W.heap[U]? =w.heap[U]?:=m U (h.cb U h.o1).2.2.2 λj=>(h.vo U j).2.1 rfl
 have D:W.heap[C]? =w.heap[C]?:=m C (h.cb C h.oC).2.2.2 λj=>(h.vo C j).2.2 rfl
 refine⟨.inl h.o1,.inl h.oC,(db B).trans h.c1,D.trans h.cC,λb f=>(keep b (.inl f)).trans (h.rd b f),λb f=> ?_,?_,λx n=> ?_,bD h.size u,h.hp,λr g=> ?_,t,λi y A=> ?_,h.Zd⟩;unfold ft;rw[keep b (.inr (.inl f))];exact h.pay b f;obtain⟨G,F,z⟩:=h.live;exact⟨G,F,(keep Z.Wg (.inr (.inr rfl))).trans z⟩;rcases n with n|⟨o,q⟩;obtain⟨a,b,c,d⟩:=h.cb x n;exact⟨a,b,c,by omega⟩;exact⟨λl=>by have:=k x (.inr (.inl l));omega,λl=>by have:=k x (.inl l);omega,λl=>by have:=k x (.inr (.inr l));omega,q⟩;rcases s r g with j|⟨o,q⟩;exact⟨.inl (h.vo r j).1,(h.vo r j).2⟩;exact⟨.inr ⟨o,q⟩,λe=>by have:=(h.cb U h.o1).2.2.2;omega,λe=>by have:=(h.cb C h.oC).2.2.2;omega⟩;refine O.xt (λb=>R.own b/\b≠C/\¬V b) _ W i (λb f=>⟨.inl f.1,f.2.1,λj=> ?_⟩) (O.jp _ w W i (λb f=>m b (h.cb b f.1).2.2.2 f.2.2) (λa v=> ?_) (h.Dg i y A));rcases s b j with j|⟨o,_⟩;exact f.2.2 j;have:=(h.cb b f.1).2.2.2;omega;exact db (keep _ (.inr (.inl (O.lK i a v))))
def MB.lone(O:Z.Ok)(j:∀r,Z.mX r\/Z.CB r\/r=Z.Wg->r<Y.heap.size)(h:MB Z S Y U C T p R w V)(l:∀r,R.own r->Q.own r)(n:Q.held=R.held)(q:∀r,Q.own r->R.own r\/(w.heap.size<=r/\r<W.heap.size))(e:Kept Z R R.own w W):MB Z S Y U C T p Q W V:=by have v:=h.size;refine⟨l _ h.o1,l _ h.oC,(db (e.st U h.o1)).trans h.c1,(e.st C h.oC).trans h.cC,λb f=>(e.rd b f).trans (h.rd b f),λb f=>(e.pay b f).trans (h.pay b f),e.live h.live,λx g=> ?_,bD h.size e.size,n▸h.hp,λr o=>⟨l _ (h.vo r o).1,(h.vo r o).2⟩,h.vh.qw e.size (λx g=>e.st x (h.vo x g).1) (λa x g=>by rw[h.Zd a]at g;cases g),λi m t=> ?_,h.Zd⟩;rcases q x g with g|⟨y,u⟩;obtain⟨a,b,c,d⟩:=h.cb x g;exact⟨a,b,c,by have:=e.size;omega⟩;exact⟨λk=>by have:=j x (.inr (.inl k));omega,λk=>by have:=j x (.inl k);omega,λk=>by have:=j x (.inr (.inr k));omega,u⟩;rw[n]at m;exact O.xt (λb=>R.own b/\b≠C/\¬V b) _ W i (λb f=>⟨l _ f.1,f.2⟩) (O.jp _ w W i (λb f=>e.st b f.1) (λa s=>e.cell i a m s) (h.Dg i m t))
def MB.start(e:∀a,S.mem a=ah)(g:Z.P.globals.size<=Y.heap.size)(h:WK Z Y U C T R w)(l:¬R.held p)(O:Z.Ok):MB Z S Y U C T p (R.hold p) w (λ_=>False):=⟨h.o1,h.oC,h.c1,h.cC,h.rd,h.pay,h.live,h.cb,h.size,.inr rfl,λ_ d=>d.elim,⟨zh,λ_ _ d=>d.2.elim,bD g h.size,bD g h.size,λa x j=>by rw[e a]at j;cases j⟩,λi k c=>O.xt _ _ w i (λb f=>⟨f.1,f.2,λx=>x.elim⟩) (h.Dg i (k.resolve_right c)),e⟩
def MB.finish(O:Z.Ok)(h:MB Z S Y U C T p R w V)(d:Z.JP (λb=>R.own b/\b≠C) p w):WK Z Y U C T R w:=⟨h.o1,h.oC,h.c1,h.cC,h.rd,h.pay,h.live,h.cb,h.size,λi c=>by by_cases e:i=p;subst e;exact d;exact O.xt _ _ w i (λb a=>⟨a.1,a.2.1⟩) (h.Dg i c e)⟩
end
end
section
open Go.RowKit
def cC(c:Chg):List aB:=(cL c).map (aD .i64)
section
variable{G:Nat->Prop} {Z w:ar} {l:List cX} {Y X W V U T:aB} {S:List Int} {R:List cQ} {Q:List (Hd×Hd)}
def Wa(h:In G Z (ei Y S::bj X R::dA W Q::ei V S::bj U R::dA T Q::l) w):Calls ai 15 #[.agg #[Y,X,W],.agg #[V,U,T]] w λe n=>e=.returned (.bool ak)/\Below w.heap.size w n:=by
 obtain⟨p,r,rfl,A,B,_⟩:=aP h.rowAt;obtain⟨q,s,rfl,C,D,_⟩:=aP (h.nth 3 (by simp)).rowAt;have O:S.length<=maxLen:=by omega
 have I:=ae h;clear h A B C D;go_enter func15,ntmps15;go_upto_region 1 with(fail)
 refine a6 (λn=>di n (w.heap.size+1) 36 #[.slice q S.length s,U,T]/\di n w.heap.size 36 #[.slice p S.length r,X,W]/\Below w.heap.size w n) ⟨by have:=di.new (w.alloc (.cells #[.slice p S.length r,X,W] 36)) 36 #[.slice q S.length s,U,T];rwa[bZ]at this,(di.new w _ _).alloc _,((Below.refl _ _).alloc (ao _) _).alloc (by simp) _⟩ ?_
 generalize w.heap.size+1=H;generalize E:w.heap.size=F;rintro u ⟨b,a,t⟩;have K:u.cell? ⟨F,0,ah⟩=af (.slice p S.length r):=a.cell 0;have L:u.cell? ⟨F,1,ah⟩=af X:=a.cell 1;have M:u.cell? ⟨H,0,ah⟩=af (.slice q S.length s):=b.cell 0;have N:u.cell? ⟨H,1,ah⟩=af U:=b.cell 1;rw[<-E]at t;have d:=I.out.below t;have i:=ae (Yk O d (d.nth 3 (by simp)));have j:=ae (Rh (d.nth 1 (by simp)) (d.nth 4 (by simp)) rfl);have v:=ae a;have x:=ae b;have J:=ae t;clear d a b t;go_wp2_with fail;refine i.out.mono ?_;rintro e o ⟨rfl,rfl⟩;go_wp2_with fail;refine j.out.mono ?_;rintro e o ⟨rfl,c⟩;have f:Below w.heap.size w o:=J.out.trans (c.mono J.out.size);have a2:o.cell? ⟨F,2,ah⟩=af W:=(v.out.after c).cell 2;have b2:o.cell? ⟨H,2,ah⟩=af T:=(x.out.after c).cell 2;have d:=I.out.below f;have k:In G Z (dA W Q::dA T Q::ei (.slice p S.length r) S::bj X R::ei (.slice q S.length s) S::bj U R::l) o:=d.reorder 6 [2,5,0,1,3,4] rfl (by simp);have z:=ae (Yj k);have g:=ae f;clear d k f c i j K L M N;go_wp2_with fail;refine z.out.mono ?_;rintro e P ⟨rfl,m⟩;have y:Hid (Below w.heap.size w P):=g.out.trans (m.mono g.out.size);clear m;simp only[decide_true];go_wp2_with fail;go_ret;exact⟨rfl,y.out⟩
end
end
section
open Rel
open Go.Conc Go.ConcN
open Go.ConcR (Payload WgAt)
open Go.RowKit
noncomputable def p8(S:nK)(Pb:Nat)(xs:List cQ)(ss:List Sys):N0:=⟨λb=>b=Pb,λi a=>a=⟨Pb,i,ah⟩,λi w=>w.cell? ⟨Pb,i,ah⟩=af (.slice ah 0 0),jpB S Pb xs ss⟩
def E'(S Pb xs ss):(p8 S Pb xs ss).Ok:=by refine⟨λi a h=>by have:a=⟨Pb,i,ah⟩:=h;rw[this];rfl,λi p a h j=> ?_,λo w b i l f h=> ?_,λw b i f h=>(f _ rfl).trans h,λo q w i m h=> ?_⟩;have e:a=⟨Pb,i,ah⟩:=h;have g:a=⟨Pb,p,ah⟩:=j;rw[e]at g;injection g;obtain⟨v,c,d⟩:=h;exact⟨v,(f _ rfl).trans c,d.keep l⟩;obtain⟨v,c,V,d,k⟩:=h;exact⟨v,c,V,λr n=>m r (d r n),k⟩
structure BRd(φ:Ph) (wp:ar) (B4 B7 B5 Pb:Nat) (xs:List cQ) (ss:List Sys) (Bp Mj:aB):Prop where
 r4:φ.mX B4
 c4:wp.cell? ⟨B4,0,ah⟩=af Bp
 r7:φ.mX B7
 c7:wp.cell? ⟨B7,0,ah⟩=af (.slice (af ⟨Pb,0,ah⟩) ss.length ss.length)
 r5:φ.mX B5
 c5:wp.cell? ⟨B5,0,ah⟩=af Mj
 rows:∃A c,Bp=.slice A xs.length c/\∀j(h:j<xs.length),∃g,A=af ⟨g,0,ah⟩/\φ.mX g/\row? wp g (j *11) 11=af (ints xs[j].list)
 sys:∃A c,Mj=.slice A ss.length c/\∀j(h:j<ss.length),∃g,A=af ⟨g,0,ah⟩/\φ.mX g/\row? wp g (j *7) 7=af (ints ss[j].list)
 pb:ft wp Pb=af (100,ss.length,0,0)
 okB:∀r∈xs,bx r.b=0/\r.b.v.length=8
 okS:∀s∈ss,dH s=0
 len:xs.length<=60
 lens:ss.length<=20
def cU(bd:eu->List Tmp)(old:Nat)(U:List Tmp):h9:={cfg bd old with bad:=Sd U}
def y8(bd old U):(cU bd old U).Fits ai:=let h:=Hl bd old;⟨h.fn,h.int,h.zero,h.elem,h.flat,h.ext⟩
def uc{w a g}(h:a.heap[g]? =w.heap[g]?)(o n):row? a g o n=row? w g o n:=by unfold row?;rw[h]
def vj{w g o n b}(h:row? w g o n=af b):∀j,j<n->(w.cell? ⟨g,o+j,ah⟩).isSome:=by
 intro j i;unfold row? at h;unfold da;cases a:w.heap[g]? with
 |none=>rw[a]at h;cases h|some d=>
  rw[a]at h;cases d with|cells c e f=>simp only at h|-;split at h;simp;omega;cases h|_=>cases h
noncomputable def tS:Code:=match f92.body with|some (.seq _ (.block _ (.loop x)))=>x|_=>.skip
section
variable{φ:Ph} {wp:ar} {Z:eu->List Tmp} {old:Nat} {Y X W Pb b1 C p:Nat} {fv:aB} {xs:List cQ} {U:List Sys} {T R:aB}
structure JS(φ:Ph) (S:nK) (wp:ar) (b1 C Pb:Nat) (fv:aB) (p:Nat) (xs:List cQ) (s:Sys) (H0:Nat->Prop) (ov:Prop) (j:Nat) (γ:Gh) (w:ar) (V:Nat->Prop) (cv sv:aB):Prop where
 mb:MB φ S wp b1 C fv p γ w V
 held:∀q,γ.held q↔H0 q
 over:γ.over=ov
 cell:w.cell? ⟨Pb,p,ah⟩=af cv
 rel:bz S (only V) sv sv
 own:w.ownsRow 0 48 9 sv j ((xs.take j).flatMap λr=>Ky (bU r.b s))
def xW{S b}(l):bz S b (.agg (ints l)) (.agg (ints l)):=(AR (S:=S) (ints l) λx a=>by simp[ints]at a;obtain⟨n,_,rfl⟩:=a;exact⟨_,_,rfl⟩).1 b
def FV{w:ar}{e size n v xs}(h:w.ownsRow 0 e size v n xs):∀r,v.ownBlock=af r->r<w.heap.size:=λr a=>(fa h r a).2
def QU{w g t a}(h:di w g t a)(n)(b:n<=a.size):fits w g 0 n=ak:=by unfold fits;unfold di at h;rw[h];simpa using b
section
variable{S:nK} {s:Sys} {Q:Nat->Prop} {N:Prop} {j:Nat} {M P:Gh} {w L K:ar} {V J:Nat->Prop} {I H:aB}
def JS.rely(O:φ.Ok)(a:φ.jl p ⟨Pb,p,ah⟩)(h:JS φ S wp b1 C Pb fv p xs s Q N j M w V I H)(r:φ.eT M w L):JS φ S wp b1 C Pb fv p xs s Q N j M L V I H:=⟨h.mb.rely O r,h.held,h.over,(r.cell p _ h.mb.hp a).trans h.cell,h.rel,tZ h.rel h.own λx b=>r.own x (h.mb.vo x b).1⟩
def JS.val(O:φ.Ok)(f:φ.jl p ⟨Pb,p,ah⟩)(b:∀r,φ.mX r\/φ.CB r\/r=φ.Wg->r<wp.heap.size)(h:JS φ S wp b1 C Pb fv p xs s Q N j M w V I H)(i:∀r,V r->J r)(m:∀r,J r->V r\/(w.heap.size<=r/\r<K.heap.size))(n:cg φ.P S (only J) K K)(k:∀r,r<w.heap.size->¬V r->K.heap[r]? =w.heap[r]?)(o:w.heap.size<=K.heap.size)(q:∀r,H.ownBlock=af r->K.heap[r]? =w.heap[r]?):JS φ S wp b1 C Pb fv p xs s Q N j (M.grow w K) K J I H:=by have a:=O.lK p _ f;have y:=h.mb.size;refine⟨h.mb.val O b i m n k o,h.held,h.over,(db (k Pb (by have:=b Pb (.inr (.inl a));omega) λv=>(h.mb.cb Pb (h.mb.vo Pb v).1).1 a)).trans h.cell,h.rel.mono (P:=φ.P) ⟨λ_ _ x=>⟨x.1,i _ x.2⟩,zh⟩,?_⟩;refine⟨h.own.1,?_⟩;rcases h.own.2 with l|⟨g,c,d,e,t,u,r⟩;exact .inl l;exact .inr ⟨g,c,d,e,t,(q g (by rw[e];rfl)).trans u,r⟩
def JS.lone(O:φ.Ok)(b:φ.jl p ⟨Pb,p,ah⟩)(d:∀r,φ.mX r\/φ.CB r\/r=φ.Wg->r<wp.heap.size)(h:JS φ S wp b1 C Pb fv p xs s Q N j M w V I H)(f:∀r,M.own r->P.own r)(e:P.held=M.held)(a:P.over=M.over)(g:∀r,P.own r->M.own r\/(w.heap.size<=r/\r<K.heap.size))(c:Kept φ M M.own w K):JS φ S wp b1 C Pb fv p xs s Q N j P K V I H:=⟨h.mb.lone O d f e g c,λq=>by rw[e];exact h.held q,a.trans h.over,(c.cell p _ h.mb.hp b).trans h.cell,h.rel,tZ h.rel h.own λx i=>c.st x (h.mb.vo x i).1⟩
end
def Gv(parts):gB 100 1 parts=kC 100 parts:=rfl
def xO(w a)(h:a.size=9):(gB 100 1 #[(0,.agg a)]).run ai w=.ok (.slice (af ⟨w.heap.size,0,ah⟩) 1 1) (w.alloc (.cells a 48)):=by rw[Gv,mg w _ _ 9 (cj 9 (aD .i64 0)).toArray a underlying100 (by kernel_rfl) (by kernel_rfl) rfl (by decide) (by decide),if_pos h]
end
def vD:(Tryz.prog.info? 48).map (λi=>(i.zero,i.size,i.bytes))=af (af (.agg (ints [0,0,0,0,0,0,0,0,0])),9,72):=by kernel_rfl
def QX{w:ar}{b o u}(h:w.cell? ⟨b,o,ah⟩=af u)(v):(w.setCell ⟨b,o,ah⟩ v).cell? ⟨b,o,ah⟩=af v:=by
 unfold da at h|-;unfold dJ;simp only[bp];cases a:w.heap[b]? with
 |none=>rw[a]at h;cases h|some d=>
  rw[a]at h;cases d with|cells c e f=>simp at h;simp only[fD,if_true,Option.isSome_none,dg,if_false,ite_true,ite_false];exact aQ (aC.1 h).1|_=>cases h
def yg{w:ar}{a b}(h:b≠a)(i:a.spot=ah)(v):(w.setCell a v).cell? b=w.cell? b:=by
 unfold da dJ;simp only[bp];by_cases g:a.block=b.block;rw[if_pos g];cases k:w.heap[b.block]? with
 |none=>rfl|some j=>
  cases j with
  |cells c e f=>
   simp only[fD,i];cases d:b.spot with
   |some x=>rfl|none=>
    have:a.off≠b.off:=λe=>h (by obtain⟨_,_,_⟩:=a;obtain⟨_,_,_⟩:=b;simp only at g e i d;subst g e i d;rfl)
    simp[aH this]
  |_=>rfl
 rw[if_neg g]
def D2(w a v b):ft (w.setCell a v) b=ft w b:=by
 unfold ft dJ;simp only[bp];by_cases d:a.block=b;rw[if_pos d];cases h:w.heap[b]? with
 |none=>rfl|some g=>
  cases g with|cells c e f=>simp only[fD];split<;>simp|_=>rfl
 rw[if_neg d]
def Fs{w b n e}(h:ft w b=af (e,n,0,0))(o):w.frozen? ⟨b,o,ah⟩=aq:=by
 unfold ft at h;unfold World.frozen?;simp only;cases g:w.heap[b]? with
 |none=>rfl|some i=>
  rw[g]at h;cases i with|cells c t a=>obtain⟨k,j⟩:=a;simp only[Option.some.injEq,Prod.mk.injEq]at h;obtain⟨_,_,d,f⟩:=h;simp[d,f]|_=>rfl
def OG{φ:Ph}{k w Pb p v g}(c:φ.CB Pb)(n:∀f,φ.jl p f->f=⟨Pb,p,ah⟩)(h:k.held p)(i:φ.jl p ⟨Pb,p,ah⟩)(d:∀e∈g,e=⟨.cell ⟨Pb,p,ah⟩,ak,aq⟩):φ.yK k w (w.setCell ⟨Pb,p,ah⟩ v) g:=by refine⟨λb o j l=>Below.heap_setCell w _ _ b λe=>l (e▸c),λa _ j=>yg (λe=>j p h (by rw[e];exact i)) rfl v,λb _=>D2 _ _ _ _,by simp,rfl,rfl,rfl,λe m=> ?_⟩;rw[d e m];exact .inr ⟨rfl,Pb,rfl,.inr (.inl ⟨p,_,h,i,rfl⟩)⟩
def MB.UL{φ S wp w b1 C p Pb fv g V}(O:φ.Ok)(h:MB φ S wp b1 C fv p g w V)(d:φ.CB Pb)(m:φ.jl p ⟨Pb,p,ah⟩)(v):MB φ S wp b1 C fv p g (w.setCell ⟨Pb,p,ah⟩ v) V:=by
 have Da:∀b,b≠Pb->(w.setCell ⟨Pb,p,ah⟩ v).heap[b]? =w.heap[b]?:=λb c=>Below.heap_setCell w _ _ b c
 have own:∀b,g.own b->b≠Pb:=λb c e=>(h.cb b c).1 (e▸d)
 refine⟨h.o1,h.oC,(db (Da b1 (own b1 h.o1))).trans h.c1,(Da C (own C h.oC)).trans h.cC,λb c=>(Da b λe=>O.QW Pb d (e▸c)).trans (h.rd b c),λb c=>(D2 _ _ _ _).trans (h.pay b c),?_,λx f=> ?_,by simpa using h.size,h.hp,h.vo,h.vh.qw (by simp) (λx f=>Da x (own x (h.vo x f).1)) (λa x f=>by rw[h.Zd a]at f;cases f),λi l j=> ?_,h.Zd⟩;obtain⟨q,o,n⟩:=h.live;exact⟨q,o,(Da φ.Wg λe=>O.Qs (e▸d)).trans n⟩;simpa using h.cb x f;exact O.jp _ w _ i (λb c=>Da b (own b c.1)) (λa k=>yg (λe=>j (O.Am i p a k (by rw[e];exact m))) rfl v) (h.Dg i l j)
def PH{a L i}(h:i∈dZ .any a L):i<a.size/\L.getD i ak=aq/\∀o,a[i]? =af o->∀e∈o.after,Region.binds .any e=ak->L.getD e.on aq=ak:=by unfold dZ at h;obtain⟨j,hp⟩:=b3.1 h;refine⟨eS.1 j,?_,λo g e d c=> ?_⟩;simp only[ay,kI]at hp;exact hp.1;rw[g]at hp;simp only[fD,bT,ay]at hp;obtain⟨k,f,rfl⟩:=Array.mem_iff_getElem.1 d;have:=Array.all_eq_true.1 hp.2 k f;simp only[ej,kI]at this;rcases this with b|b;rw[c]at b;cases b;exact b
def fq{L:Array Bool}{i j d}(h:i≠j):(L.setIfInBounds i ak).getD j d=L.getD j d:=by rw[bF,aH h,<-bF]
def un{L:Array Bool}{i j d b}(a:i≠j)(h:(L.setIfInBounds i ak).getD j d=b):L.getD j d=b:=by rwa[fq a]at h
def b0{L:Array Bool}{i j:Nat}{d b:Bool}(h:(L.setIfInBounds i ak).getD j d=b)(a:i≠j:=by decide):L.getD j d=b:=un a h
def BA{L:Array Bool}{i d}(h:i<L.size):(L.setIfInBounds i ak).getD i d=ak:=by rw[bF,aQ h];rfl
def U2{L:Array Bool}{i}(a:i<L.size)(h:L.getD i ak=aq):L.getD i aq=aq:=by rw[bF,aS a]at h|-;exact h
noncomputable def Gg:Array Oper:=match tS with|.seq _ (.seq _ (.seq (.block _ (.seq _ (.region _ a _))) _))=>a|_=>#[]
structure DI(φ:Ph) (S:nK) (wp:ar) (b1 C Pb:Nat) (fv:aB) (p:Nat) (xs:List cQ) (ss:List Sys) (hp:p<ss.length) (H0:Nat->Prop) (ov:Prop) (j:Nat) (hj:j<xs.length) (rb gs:Nat) (sv Mj:aB) (L:Array Bool) (γ:Gh) (w:ar) (V:Nat->Prop) (jj:Nat) (cv pv x13 x14 x15 XB XC XD XE sd sf sg qQ qS qT qU qM qV:aB):Prop where
 js:JS φ S wp b1 C Pb fv p xs ss[p] H0 ov jj γ w V cv pv
 vY:V rb
 box:di w rb 50 (ints (xs[j]).list)
 Hb:L.getD 14 aq=aq->jj=j/\pv=sv
 GX:L.getD 14 aq=ak->jj=j+1/\pv=qM
 GY:L.getD 16 aq=aq->cv=sv
 uj:L.getD 16 aq=ak->cv=qM
 uy:L.getD 16 aq=ak->L.getD 5 aq=ak/\L.getD 14 aq=ak
 new:L.getD 13 aq=ak->L.getD 14 aq=aq->∃nb,qU=.slice (af ⟨nb,0,ah⟩) 1 1/\V nb/\di w nb 48 (ints (bU xs[j].b ss[p]).list)
 d0:L.getD 0 aq=ak->x13=(.slice (af ⟨Pb,0,ah⟩) ss.length ss.length)
 d1:L.getD 1 aq=ak->x14=(.int .i64 p)
 d2:L.getD 2 aq=ak->x15=(.slice (af ⟨Pb,0,ah⟩) ss.length ss.length)
 d3:L.getD 3 aq=ak->XB=(.int .i64 p)
 d4:L.getD 4 aq=ak->XC=(.pointer (af ⟨Pb,p,ah⟩))
 d5:L.getD 5 aq=ak->XD=sv
 d6:L.getD 6 aq=ak->XE=(.pointer (af ⟨rb,2,ah⟩))
 d7:L.getD 7 aq=ak->sd=(.agg (ints xs[j].b.list))
 d8:L.getD 8 aq=ak->sf=Mj
 d9:L.getD 9 aq=ak->sg=(.int .i64 p)
 d10:L.getD 10 aq=ak->qQ=(.pointer (af ⟨gs,p *7,ah⟩))
 d11:L.getD 11 aq=ak->qS=(.agg (ints ss[p].list))
 d12:L.getD 12 aq=ak->qT=(.agg (ints (bU xs[j].b ss[p]).list))
 d15:L.getD 15 aq=ak->qV=(.pointer (af ⟨Pb,p,ah⟩))
section
variable{φ:Ph} {Z:ar} {Y:eu->List Tmp} {old:Nat} {X W T S Q C p:Nat} {N:aB} {M:List cQ} {J:List Sys} {I H:aB}
def K8(O:φ.Ok)(hP:φ.P=ai)(lW:∀r,φ.mX r\/φ.CB r\/r=φ.Wg->r<Z.heap.size)(CS:∀ad,φ.jl p ad↔ad=⟨S,p,ah⟩)(hR:BRd φ Z X W T S M J I H)(hp){H0 ov j}(hj:j<M.length){rb sv x4 x5 XA Us Ut Mx cs k id}(K:∀γ w V y z A B D E F sd sf sg qQ qS qT qU qM qV sv',JS φ (cfg Y old).sig Z Q C S N p M J[p] H0 ov (j+1) γ w V sv' sv'->φ.WT γ (G ((base 92).at ⟨#[.int .i64 p,.pointer (af ⟨X,0,ah⟩),.pointer (af ⟨W,0,ah⟩),.pointer (af ⟨T,0,ah⟩),x4,x5,.pointer (af ⟨rb,0,ah⟩),I,.int .i64 M.length,.int .i64 j,XA,Us,Ut,y,z,A,B,D,E,F,sd,sf,sg,qQ,qS,qT,qU,qM,qV,Mx],[]⟩ k) cs) w)(γ w V y z A B D E F sd sf sg qQ qS qT qU qM qV)(h:JS φ (cfg Y old).sig Z Q C S N p M J[p] H0 ov j γ w V sv sv)(vY:V rb)(hB:di w rb 50 (ints (M[j]).list))(CU:∀r,sv.ownBlock=af r->r<rb):φ.WT γ (G ((base 92).at ⟨#[.int .i64 p,.pointer (af ⟨X,0,ah⟩),.pointer (af ⟨W,0,ah⟩),.pointer (af ⟨T,0,ah⟩),x4,x5,.pointer (af ⟨rb,0,ah⟩),I,.int .i64 M.length,.int .i64 j,XA,Us,Ut,y,z,A,B,D,E,F,sd,sf,sg,qQ,qS,qT,qU,qM,qV,Mx],[]⟩ (.code (.region id Gg ak)::k)) cs) w:=by
 obtain⟨As,cS,hsv,aaV⟩:=hR.sys;obtain⟨gs,rfl,YL,aaU⟩:=aaV p hp;clear aaV;subst hsv;have hpI:(p:Int)<J.length:=by omega
 have aaP:=hR.lens;have hb8:=(hR.okB M[j] (aF hj)).2;have Il:=(hR.okB M[j] (aF hj)).1;have hse:=hR.okS J[p] (aF hp);have Ve:(bU M[j].b J[p]).list.length=9:=by simp[bw.list,eX,hb8]
 have ab8:M[j].b.list.length=9:=by simp[bw.list,hb8]
 refine Ph.WT.drawn O (by rw[hP];kernel_rfl) λn=> ?_
 unfold Region.linearise;have Ah:Gg.size=17:=by kernel_rfl
 have aaR:IC Gg=ak:=by kernel_rfl
 simp only[Gg,tS,f92]at Ah aaR|-;refine Ph.WT.QK (φ:=φ) (b:=base 92) (k:=k) (cs:=cs)
  (λL a w γ=>L.size=17/\∃(V:Nat->Prop)(jj:Nat)(cv pv y z A B D E F sd sf sg qQ qS qT qU qM qV:aB),a=⟨#[.int .i64 p,.pointer (af ⟨X,0,ah⟩),.pointer (af ⟨W,0,ah⟩),.pointer (af ⟨T,0,ah⟩),x4,x5,.pointer (af ⟨rb,0,ah⟩),I,.int .i64 M.length,.int .i64 j,XA,Us,Ut,y,z,A,B,D,E,F,sd,sf,sg,qQ,qS,qT,qU,qM,qV,Mx],[]⟩/\DI φ (cfg Y old).sig Z Q C S N p M J hp H0 ov j hj rb gs sv (.slice (af ⟨gs,0,ah⟩) J.length cS) L γ w V jj cv pv y z A B D E F sd sf sg qQ qS qT qU qM qV)
  ?_ ?_ _ _ _ _ _ _ (by simp) (bD List.countP_le_length (by simp)) ?_
 rintro L a w γ ⟨K3,V,jj,cv,pv,y,z,A,B,D,E,F,sd,sf,sg,qQ,qS,qT,qU,qM,qV,rfl,h⟩ Vf;have yP:=Dm aaR (K3.trans Ah.symm) Vf;rw[Ah]at yP;have t14:L.getD 14 aq=ak:=by have:=yP 14 (by omega);rw[bF,aS (by omega)]at this|-;exact this
 have t16:L.getD 16 aq=ak:=by have:=yP 16 (by omega);rw[bF,aS (by omega)]at this|-;exact this
 have hjs:=h.js;rw[(h.GX t14).1,(h.GX t14).2,h.uj t16]at hjs;refine lN O ?_;exact K _ _ _ y z A B D E F sd sf sg qQ qS qT qU qM qV _ hjs
 ·rintro L a w γ K3 ⟨-,V,jj,cv,pv,y,z,A,B,D,E,F,sd,sf,sg,qQ,qS,qT,qU,qM,qV,rfl,h⟩ i hi rest Kx;obtain⟨aaL,hfl,s⟩:=PH hi;rw[Ah]at aaL;have hff:=U2 (by rw[K3,Ah];exact aaL:i<L.size) hfl;have hLs:L.size=17:=K3.trans Ah;have u:(L.setIfInBounds i ak).size=17:=by simpa using hLs
  clear hi hfl;rcases(by omega:i=0\/i=1\/i=2\/i=3\/i=4\/i=5\/i=6\/i=7\/i=8\/i=9\/i=10\/i=11\/i=12\/i=13\/i=14\/i=15\/i=16)with rfl|rfl|rfl|rfl|rfl|rfl|rfl|rfl|rfl|rfl|rfl|rfl|rfl|rfl|rfl|rfl|rfl
  ·have hc:∀m,φ.eT γ w m->m.cell? ⟨W,0,ah⟩=af (.slice (af ⟨S,0,ah⟩) J.length J.length):=λm q=>(db ((q.rd W hR.r7).trans (h.js.mb.rd W hR.r7))).trans hR.c7
   refine pB O (.slice (af ⟨S,0,ah⟩) J.length J.length) (ad:=⟨W,0,ah⟩) rfl rfl (by simp[base]) (.inr hR.r7) (λm q=>by have hc:=hc m q;rw[hP];go_simp) (λm q e he=>by have hc:=hc m q;rw[hP]at he;simp[go_sem, *]at he;exact he) ?_;refine Kx _ _ _ ⟨u,V,jj,cv,pv,_,z,A,B,D,E,F,sd,sf,sg,qQ,qS,qT,qU,qM,qV,rfl,⟨h.js,h.vY,h.box,λl=>h.Hb (b0 l),λl=>h.GX (b0 l),λl=>h.GY (b0 l),λl=>h.uj (b0 l),λl=>⟨(fq (by decide)).trans (h.uy (b0 l)).1,(fq (by decide)).trans (h.uy (b0 l)).2⟩,λh1 h2=>h.new (b0 h1) (b0 h2),λ_=>rfl,λl=>h.d1 (b0 l),λl=>h.d2 (b0 l),λl=>h.d3 (b0 l),λl=>h.d4 (b0 l),λl=>h.d5 (b0 l),λl=>h.d6 (b0 l),λl=>h.d7 (b0 l),λl=>h.d8 (b0 l),λl=>h.d9 (b0 l),λl=>h.d10 (b0 l),λl=>h.d11 (b0 l),λl=>h.d12 (b0 l),λl=>h.d15 (b0 l)⟩⟩
  ·refine kH O (.int .i64 p) rfl rfl (by simp[base]) (λw _=>by rw[hP];go_simp) (λw _=>by rw[hP];simp[go_sem, *]) ?_;refine Kx _ _ _ ⟨u,V,jj,cv,pv,y,_,A,B,D,E,F,sd,sf,sg,qQ,qS,qT,qU,qM,qV,rfl,⟨h.js,h.vY,h.box,λl=>h.Hb (b0 l),λl=>h.GX (b0 l),λl=>h.GY (b0 l),λl=>h.uj (b0 l),λl=>⟨(fq (by decide)).trans (h.uy (b0 l)).1,(fq (by decide)).trans (h.uy (b0 l)).2⟩,λh1 h2=>h.new (b0 h1) (b0 h2),λl=>h.d0 (b0 l),λ_=>rfl,λl=>h.d2 (b0 l),λl=>h.d3 (b0 l),λl=>h.d4 (b0 l),λl=>h.d5 (b0 l),λl=>h.d6 (b0 l),λl=>h.d7 (b0 l),λl=>h.d8 (b0 l),λl=>h.d9 (b0 l),λl=>h.d10 (b0 l),λl=>h.d11 (b0 l),λl=>h.d12 (b0 l),λl=>h.d15 (b0 l)⟩⟩
  ·have hc:∀m,φ.eT γ w m->m.cell? ⟨W,0,ah⟩=af (.slice (af ⟨S,0,ah⟩) J.length J.length):=λm q=>(db ((q.rd W hR.r7).trans (h.js.mb.rd W hR.r7))).trans hR.c7
   refine pB O (.slice (af ⟨S,0,ah⟩) J.length J.length) (ad:=⟨W,0,ah⟩) rfl rfl (by simp[base]) (.inr hR.r7) (λm q=>by have hc:=hc m q;rw[hP];go_simp) (λm q e he=>by have hc:=hc m q;rw[hP]at he;simp[go_sem, *]at he;exact he) ?_;refine Kx _ _ _ ⟨u,V,jj,cv,pv,y,z,_,B,D,E,F,sd,sf,sg,qQ,qS,qT,qU,qM,qV,rfl,⟨h.js,h.vY,h.box,λl=>h.Hb (b0 l),λl=>h.GX (b0 l),λl=>h.GY (b0 l),λl=>h.uj (b0 l),λl=>⟨(fq (by decide)).trans (h.uy (b0 l)).1,(fq (by decide)).trans (h.uy (b0 l)).2⟩,λh1 h2=>h.new (b0 h1) (b0 h2),λl=>h.d0 (b0 l),λl=>h.d1 (b0 l),λ_=>rfl,λl=>h.d3 (b0 l),λl=>h.d4 (b0 l),λl=>h.d5 (b0 l),λl=>h.d6 (b0 l),λl=>h.d7 (b0 l),λl=>h.d8 (b0 l),λl=>h.d9 (b0 l),λl=>h.d10 (b0 l),λl=>h.d11 (b0 l),λl=>h.d12 (b0 l),λl=>h.d15 (b0 l)⟩⟩
  ·refine kH O (.int .i64 p) rfl rfl (by simp[base]) (λw _=>by rw[hP];go_simp) (λw _=>by rw[hP];simp[go_sem, *]) ?_;refine Kx _ _ _ ⟨u,V,jj,cv,pv,y,z,A,_,D,E,F,sd,sf,sg,qQ,qS,qT,qU,qM,qV,rfl,⟨h.js,h.vY,h.box,λl=>h.Hb (b0 l),λl=>h.GX (b0 l),λl=>h.GY (b0 l),λl=>h.uj (b0 l),λl=>⟨(fq (by decide)).trans (h.uy (b0 l)).1,(fq (by decide)).trans (h.uy (b0 l)).2⟩,λh1 h2=>h.new (b0 h1) (b0 h2),λl=>h.d0 (b0 l),λl=>h.d1 (b0 l),λl=>h.d2 (b0 l),λ_=>rfl,λl=>h.d4 (b0 l),λl=>h.d5 (b0 l),λl=>h.d6 (b0 l),λl=>h.d7 (b0 l),λl=>h.d8 (b0 l),λl=>h.d9 (b0 l),λl=>h.d10 (b0 l),λl=>h.d11 (b0 l),λl=>h.d12 (b0 l),λl=>h.d15 (b0 l)⟩⟩
  ·obtain rfl:=h.d2 (s _ rfl ⟨2,.data⟩ (by simp) rfl);obtain rfl:=h.d3 (s _ rfl ⟨3,.data⟩ (by simp) rfl);refine kH O (.pointer (af ⟨S,p,ah⟩)) rfl rfl (by simp[base]) (λw _=>by rw[hP];go_simp) (λw _=>by rw[hP];simp[go_sem, *]) ?_;refine Kx _ _ _ ⟨u,V,jj,cv,pv,y,z,_,_,_,E,F,sd,sf,sg,qQ,qS,qT,qU,qM,qV,rfl,⟨h.js,h.vY,h.box,λl=>h.Hb (b0 l),λl=>h.GX (b0 l),λl=>h.GY (b0 l),λl=>h.uj (b0 l),λl=>⟨(fq (by decide)).trans (h.uy (b0 l)).1,(fq (by decide)).trans (h.uy (b0 l)).2⟩,λh1 h2=>h.new (b0 h1) (b0 h2),λl=>h.d0 (b0 l),λl=>h.d1 (b0 l),λl=>h.d2 (b0 l),λl=>h.d3 (b0 l),λ_=>rfl,λl=>h.d5 (b0 l),λl=>h.d6 (b0 l),λl=>h.d7 (b0 l),λl=>h.d8 (b0 l),λl=>h.d9 (b0 l),λl=>h.d10 (b0 l),λl=>h.d11 (b0 l),λl=>h.d12 (b0 l),λl=>h.d15 (b0 l)⟩⟩
  ·obtain rfl:=h.d4 (s _ rfl ⟨4,.data⟩ (by simp) rfl);have Yu:L.getD 16 aq=aq:=by
    cases Yu:L.getD 16 aq with|false=>rfl|true=>rw[(h.uy Yu).1]at hff;cases hff
   have hcv:=h.GY Yu;have hc:∀m,φ.eT γ w m->m.cell? ⟨S,p,ah⟩=af sv:=λm q=>by rw[<-hcv];exact(h.js.rely O ((CS _).2 rfl) q).cell
   refine .pure O sv rfl rfl (by simp[base]) (λm q=>by have hc:=hc m q;rw[hP];go_simp) (λm q e he=>by have hc:=hc m q;rw[hP]at he;simp[go_sem, *]at he;subst he;exact .inr ⟨rfl,S,rfl,.inr (.inl ⟨p,⟨S,p,ah⟩,h.js.mb.hp,(CS _).2 rfl,rfl⟩)⟩) ?_
   refine Kx _ _ _ ⟨u,V,jj,cv,pv,y,z,A,B,_,_,F,sd,sf,sg,qQ,qS,qT,qU,qM,qV,rfl,⟨h.js,h.vY,h.box,λl=>h.Hb (b0 l),λl=>h.GX (b0 l),λl=>h.GY (b0 l),λl=>h.uj (b0 l),λl=>⟨BA (by omega),(fq (by decide)).trans (h.uy (b0 l)).2⟩,λh1 h2=>h.new (b0 h1) (b0 h2),λl=>h.d0 (b0 l),λl=>h.d1 (b0 l),λl=>h.d2 (b0 l),λl=>h.d3 (b0 l),λl=>h.d4 (b0 l),λ_=>rfl,λl=>h.d6 (b0 l),λl=>h.d7 (b0 l),λl=>h.d8 (b0 l),λl=>h.d9 (b0 l),λl=>h.d10 (b0 l),λl=>h.d11 (b0 l),λl=>h.d12 (b0 l),λl=>h.d15 (b0 l)⟩⟩
  ·refine kH O (.pointer (af ⟨rb,2,ah⟩)) rfl rfl (by simp[base]) (λw _=>by rw[hP];go_simp) (λw _=>by rw[hP];simp[go_sem, *]) ?_;refine Kx _ _ _ ⟨u,V,jj,cv,pv,y,z,A,B,D,E,_,sd,sf,sg,qQ,qS,qT,qU,qM,qV,rfl,⟨h.js,h.vY,h.box,λl=>h.Hb (b0 l),λl=>h.GX (b0 l),λl=>h.GY (b0 l),λl=>h.uj (b0 l),λl=>⟨(fq (by decide)).trans (h.uy (b0 l)).1,(fq (by decide)).trans (h.uy (b0 l)).2⟩,λh1 h2=>h.new (b0 h1) (b0 h2),λl=>h.d0 (b0 l),λl=>h.d1 (b0 l),λl=>h.d2 (b0 l),λl=>h.d3 (b0 l),λl=>h.d4 (b0 l),λl=>h.d5 (b0 l),λ_=>rfl,λl=>h.d7 (b0 l),λl=>h.d8 (b0 l),λl=>h.d9 (b0 l),λl=>h.d10 (b0 l),λl=>h.d11 (b0 l),λl=>h.d12 (b0 l),λl=>h.d15 (b0 l)⟩⟩
  obtain rfl:=h.d6 (s _ rfl ⟨6,.data⟩ (by simp) rfl);have hr:∀m,φ.eT γ w m->row? m rb 2 9=af (ints M[j].b.list):=λm q=>by rw[di.dy ((q.own rb (h.js.mb.vo rb h.vY).1).trans h.box) 2 9 (by simp[cQ.list,ab8])];show af (ints (M[j].b.list.take 9))=_;rw[cA (by omega)]
  refine .pure O (.agg (ints M[j].b.list)) rfl rfl (by simp[base]) (λm q=>by have hr:=hr m q;rw[hP];go_simp) (λm q e he=>by rw[hP]at he;obtain⟨ad,rfl,U7⟩:=oE (P:=ai) (t:=48) (g:=rb) (o:=2) (n:=9) underlying48 (by kernel_rfl) (vj (hr m q)) e (by simpa[execOp,bX]using he);exact .inr ⟨rfl,ad.block,rfl,.inl (U7▸(h.js.mb.vo rb h.vY).1)⟩) ?_
  refine Kx _ _ _ ⟨u,V,jj,cv,pv,y,z,A,B,D,E,_,_,sf,sg,qQ,qS,qT,qU,qM,qV,rfl,⟨h.js,h.vY,h.box,λl=>h.Hb (b0 l),λl=>h.GX (b0 l),λl=>h.GY (b0 l),λl=>h.uj (b0 l),λl=>⟨(fq (by decide)).trans (h.uy (b0 l)).1,(fq (by decide)).trans (h.uy (b0 l)).2⟩,λh1 h2=>h.new (b0 h1) (b0 h2),λl=>h.d0 (b0 l),λl=>h.d1 (b0 l),λl=>h.d2 (b0 l),λl=>h.d3 (b0 l),λl=>h.d4 (b0 l),λl=>h.d5 (b0 l),λl=>h.d6 (b0 l),λ_=>rfl,λl=>h.d8 (b0 l),λl=>h.d9 (b0 l),λl=>h.d10 (b0 l),λl=>h.d11 (b0 l),λl=>h.d12 (b0 l),λl=>h.d15 (b0 l)⟩⟩
  ·have hc:∀m,φ.eT γ w m->m.cell? ⟨T,0,ah⟩=af (.slice (af ⟨gs,0,ah⟩) J.length cS):=λm q=>(db ((q.rd T hR.r5).trans (h.js.mb.rd T hR.r5))).trans hR.c5
   refine pB O (.slice (af ⟨gs,0,ah⟩) J.length cS) (ad:=⟨T,0,ah⟩) rfl rfl (by simp[base]) (.inr hR.r5) (λm q=>by have hc:=hc m q;rw[hP];go_simp) (λm q e he=>by have hc:=hc m q;rw[hP]at he;simp[go_sem, *]at he;exact he) ?_;refine Kx _ _ _ ⟨u,V,jj,cv,pv,y,z,A,B,D,E,F,sd,_,sg,qQ,qS,qT,qU,qM,qV,rfl,⟨h.js,h.vY,h.box,λl=>h.Hb (b0 l),λl=>h.GX (b0 l),λl=>h.GY (b0 l),λl=>h.uj (b0 l),λl=>⟨(fq (by decide)).trans (h.uy (b0 l)).1,(fq (by decide)).trans (h.uy (b0 l)).2⟩,λh1 h2=>h.new (b0 h1) (b0 h2),λl=>h.d0 (b0 l),λl=>h.d1 (b0 l),λl=>h.d2 (b0 l),λl=>h.d3 (b0 l),λl=>h.d4 (b0 l),λl=>h.d5 (b0 l),λl=>h.d6 (b0 l),λl=>h.d7 (b0 l),λ_=>rfl,λl=>h.d9 (b0 l),λl=>h.d10 (b0 l),λl=>h.d11 (b0 l),λl=>h.d12 (b0 l),λl=>h.d15 (b0 l)⟩⟩
  ·refine kH O (.int .i64 p) rfl rfl (by simp[base]) (λw _=>by rw[hP];go_simp) (λw _=>by rw[hP];simp[go_sem, *]) ?_;refine Kx _ _ _ ⟨u,V,jj,cv,pv,y,z,A,B,D,E,F,sd,sf,_,qQ,qS,qT,qU,qM,qV,rfl,⟨h.js,h.vY,h.box,λl=>h.Hb (b0 l),λl=>h.GX (b0 l),λl=>h.GY (b0 l),λl=>h.uj (b0 l),λl=>⟨(fq (by decide)).trans (h.uy (b0 l)).1,(fq (by decide)).trans (h.uy (b0 l)).2⟩,λh1 h2=>h.new (b0 h1) (b0 h2),λl=>h.d0 (b0 l),λl=>h.d1 (b0 l),λl=>h.d2 (b0 l),λl=>h.d3 (b0 l),λl=>h.d4 (b0 l),λl=>h.d5 (b0 l),λl=>h.d6 (b0 l),λl=>h.d7 (b0 l),λl=>h.d8 (b0 l),λ_=>rfl,λl=>h.d10 (b0 l),λl=>h.d11 (b0 l),λl=>h.d12 (b0 l),λl=>h.d15 (b0 l)⟩⟩
  ·obtain rfl:=h.d8 (s _ rfl ⟨8,.data⟩ (by simp) rfl);obtain rfl:=h.d9 (s _ rfl ⟨9,.data⟩ (by simp) rfl);refine kH O (.pointer (af ⟨gs,p *7,ah⟩)) rfl rfl (by simp[base]) (λw _=>by rw[hP];go_simp) (λw _=>by rw[hP];simp[go_sem, *]) ?_;refine Kx _ _ _ ⟨u,V,jj,cv,pv,y,z,A,B,D,E,F,sd,_,_,_,qS,qT,qU,qM,qV,rfl,⟨h.js,h.vY,h.box,λl=>h.Hb (b0 l),λl=>h.GX (b0 l),λl=>h.GY (b0 l),λl=>h.uj (b0 l),λl=>⟨(fq (by decide)).trans (h.uy (b0 l)).1,(fq (by decide)).trans (h.uy (b0 l)).2⟩,λh1 h2=>h.new (b0 h1) (b0 h2),λl=>h.d0 (b0 l),λl=>h.d1 (b0 l),λl=>h.d2 (b0 l),λl=>h.d3 (b0 l),λl=>h.d4 (b0 l),λl=>h.d5 (b0 l),λl=>h.d6 (b0 l),λl=>h.d7 (b0 l),λl=>h.d8 (b0 l),λl=>h.d9 (b0 l),λ_=>rfl,λl=>h.d11 (b0 l),λl=>h.d12 (b0 l),λl=>h.d15 (b0 l)⟩⟩
  obtain rfl:=h.d10 (s _ rfl ⟨10,.data⟩ (by simp) rfl);have hr:∀m,φ.eT γ w m->row? m gs (p *7) 7=af (ints J[p].list):=λm q=>(uc ((q.rd gs YL).trans (h.js.mb.rd gs YL)) _ _).trans aaU
  refine .pure O (.agg (ints J[p].list)) rfl rfl (by simp[base]) (λm q=>by have hr:=hr m q;rw[hP];go_simp) (λm q e he=>by rw[hP]at he;obtain⟨ad,rfl,U7⟩:=oE (P:=ai) (t:=54) (g:=gs) (o:=p *7) (n:=7) underlying54 (by kernel_rfl) (vj (hr m q)) e (by simpa[execOp,bX]using he);exact .inr ⟨rfl,ad.block,rfl,.inr (.inr ⟨rfl,U7▸YL⟩)⟩) ?_
  refine Kx _ _ _ ⟨u,V,jj,cv,pv,y,z,A,B,D,E,F,sd,sf,sg,_,_,qT,qU,qM,qV,rfl,⟨h.js,h.vY,h.box,λl=>h.Hb (b0 l),λl=>h.GX (b0 l),λl=>h.GY (b0 l),λl=>h.uj (b0 l),λl=>⟨(fq (by decide)).trans (h.uy (b0 l)).1,(fq (by decide)).trans (h.uy (b0 l)).2⟩,λh1 h2=>h.new (b0 h1) (b0 h2),λl=>h.d0 (b0 l),λl=>h.d1 (b0 l),λl=>h.d2 (b0 l),λl=>h.d3 (b0 l),λl=>h.d4 (b0 l),λl=>h.d5 (b0 l),λl=>h.d6 (b0 l),λl=>h.d7 (b0 l),λl=>h.d8 (b0 l),λl=>h.d9 (b0 l),λl=>h.d10 (b0 l),λ_=>rfl,λl=>h.d12 (b0 l),λl=>h.d15 (b0 l)⟩⟩;obtain rfl:=h.d7 (s _ rfl ⟨7,.data⟩ (by simp) rfl);obtain rfl:=h.d11 (s _ rfl ⟨11,.data⟩ (by simp) rfl);have abO:φ.P.funcs[39]? =af f39:=by rw[hP];exact func39
  have ac7:=h.js.mb.size;have ab1:(cfg Y old).fn 39=ak:=by show ux.contains (39)=ak;decide+kernel
  have aaI:∀tp d,Calls ai 39 #[.agg (ints M[j].b.list),.agg (ints J[p].list)] (dG w tp d) (λe _=>e=.returned (.agg (ints (bU M[j].b J[p]).list))):=λtp d=>(Ra M[j].b J[p] hb8 Il hse (dG w tp d)).mono λe w' h=>h.1
  refine Ph.WT.aa0 O (c:=cfg Y old) (f:=39) (R:=λe _=>e=.returned (.agg (ints (bU M[j].b J[p]).list))) (St:=γ.own) (by rw[hP];exact Hl Y old) rfl rfl (by simp[base]) rfl ab1 rfl abO rfl rfl (λv hv=>by
   simp[bX]at hv;rcases hv with rfl|rfl<;>exact λπ=>xW _) (h.js.mb.vh.mG) (λtp d=>by
   rw[hP];walk_nrm;exact aaI tp d) (λe L h=>⟨_,h,AR _ λx hx=>by simp[ints]at hx;obtain⟨n,_,rfl⟩:=hx;exact⟨_,_,rfl⟩⟩)
   (λr hr=>(h.js.mb.cb r hr).1) (λr hr=>by have:=lW r (.inr (.inl hr));omega) (λr hr=>⟨by have:=lW r (.inl hr);omega,λho=>(h.js.mb.cb r ho).2.1 hr⟩) (λr hr=>⟨hr,(h.js.mb.cb r hr).2.2.2⟩) ⟨by have:=lW φ.Wg (.inr (.inr rfl));omega,λho=>(h.js.mb.cb _ ho).2.2.1 rfl⟩ ?_
  intro v Lw γ' w' hr h1 h2 h2' h3 hk;injection hr with hr;subst hr;refine Kx _ _ _ ⟨u,V,jj,cv,pv,y,z,A,B,D,E,F,_,sf,sg,qQ,_,_,qU,qM,qV,rfl,⟨h.js.lone O ((CS _).2 rfl) lW h1 h2 h2' h3 hk,h.vY,(hk.st rb (h.js.mb.vo rb h.vY).1).trans h.box,λl=>h.Hb (b0 l),λl=>h.GX (b0 l),λl=>h.GY (b0 l),λl=>h.uj (b0 l),λl=>⟨(fq (by decide)).trans (h.uy (b0 l)).1,(fq (by decide)).trans (h.uy (b0 l)).2⟩,λh1 h2=>let⟨nb,e1,e2,e3⟩:=h.new (b0 h1) (b0 h2);⟨nb,e1,e2,(hk.st nb (h.js.mb.vo nb e2).1).trans e3⟩,λl=>h.d0 (b0 l),λl=>h.d1 (b0 l),λl=>h.d2 (b0 l),λl=>h.d3 (b0 l),λl=>h.d4 (b0 l),λl=>h.d5 (b0 l),λl=>h.d6 (b0 l),λl=>h.d7 (b0 l),λl=>h.d8 (b0 l),λl=>h.d9 (b0 l),λl=>h.d10 (b0 l),λl=>h.d11 (b0 l),λ_=>rfl,λl=>h.d15 (b0 l)⟩⟩;obtain rfl:=h.d12 (s _ rfl ⟨12,.data⟩ (by simp) rfl);have OQ:∀r,φ.CB r->r<w.heap.size:=λr hr=>by have:=lW r (.inr (.inl hr));have:=h.js.mb.size;omega
  refine Mw (c:=cU Y old [25]) (V:=V) (by rw[hP];exact y8 Y old [25]) (λr hr=>(h.js.mb.vo r hr).1) (λr hr=>(h.js.mb.cb r hr).1) OQ h.js.mb.vh rfl rfl (by simp[base]) (by kernel_rfl) (Fl (U:=[25]) rfl (by simp) (λt ht=>by
   simp only[b8,fO,or_false]at ht;subst ht;exact xW _))
   (λm v w'=>v=.slice (af ⟨m.heap.size,0,ah⟩) 1 1/\w'=m.alloc (.cells (ints (bU M[j].b J[p]).list) 48)) (λm q=>⟨_,_,by rw[hP];have hb:=xO m (ints (bU M[j].b J[p]).list) (by simp[ints,Ve]);simp[execOp,bX,hb];rfl,rfl,rfl⟩) ?_
  rintro m v w' V' q ⟨rfl,rfl⟩ k1 k2 k3 k6 k4 k5;have hpv:=FV (h.js.rely O ((CS _).2 rfl) q).own;have YF:di m rb 50 (ints (M[j]).list):=(q.own rb (h.js.mb.vo rb h.vY).1).trans h.box;refine Kx _ _ _ ⟨u,V',jj,cv,pv,y,z,A,B,D,E,F,sd,sf,sg,qQ,qS,_,_,qM,qV,rfl,⟨(h.js.rely O ((CS _).2 rfl) q).val O ((CS _).2 rfl) lW k1 k2 k3 k4 k5 (λr hr=>Below.heap_alloc m _ r (hpv r hr)),k1 rb h.vY,(Below.heap_alloc m _ rb YF.lt).trans YF,λl=>h.Hb (b0 l),λl=>h.GX (b0 l),λl=>h.GY (b0 l),λl=>h.uj (b0 l),λl=>⟨(fq (by decide)).trans (h.uy (b0 l)).1,(fq (by decide)).trans (h.uy (b0 l)).2⟩,λ_ _=>⟨m.heap.size,rfl,BM k6,di.new m _ _⟩,λl=>h.d0 (b0 l),λl=>h.d1 (b0 l),λl=>h.d2 (b0 l),λl=>h.d3 (b0 l),λl=>h.d4 (b0 l),λl=>h.d5 (b0 l),λl=>h.d6 (b0 l),λl=>h.d7 (b0 l),λl=>h.d8 (b0 l),λl=>h.d9 (b0 l),λl=>h.d10 (b0 l),λl=>h.d11 (b0 l),λl=>h.d12 (b0 l),λl=>h.d15 (b0 l)⟩⟩;have e18:=h.d5 (s _ rfl ⟨5,.data⟩ (by simp) rfl);obtain⟨nb,e26,aaE,abN⟩:=h.new (s _ rfl ⟨13,.data⟩ (by simp) rfl) hff;subst e18 e26;obtain⟨e1,e2⟩:=h.Hb hff;have e1:=e1.symm;subst e1 e2;have OQ:∀r,φ.CB r->r<w.heap.size:=λr hr=>by have:=lW r (.inr (.inl hr));have:=h.js.mb.size;omega
  obtain⟨i0,uT,sS,sT,sa⟩:=info_parts vD;refine Mw (c:=cU Y old [18,26]) (V:=V) (by rw[hP];exact y8 Y old [18,26]) (λr hr=>(h.js.mb.vo r hr).1) (λr hr=>(h.js.mb.cb r hr).1) OQ h.js.mb.vh rfl rfl (by simp[base]) (by kernel_rfl) (Fl (U:=[18,26]) rfl (by simp) (λt ht=>by
   simp only[b8,fO,or_false]at ht;rcases ht with rfl|rfl;exact h.js.rel;exact .slice _ _ ⟨⟨rfl,aaE⟩,rfl,rfl⟩))
   (λm v w'=>w'.ownsRow 0 48 9 v (j+1) ((M.take j).flatMap (λr=>Ky (bU r.b J[p]))++(ints (bU M[j].b J[p]).list).toList)/\m.grownBy w' pv.ownBlock) (λm q=> ?_) ?_
  have RR:=(h.js.rely O ((CS _).2 rfl) q).own;have hsr:m.ownsRow 0 48 9 (.slice (af ⟨nb,0,ah⟩) 1 1) 1 (ints (bU M[j].b J[p]).list).toList:=⟨by simp[ints,Ve],.inr ⟨nb,1,_,rfl,bH _,(q.own nb (h.js.mb.vo nb aaE).1).trans abN,ao _,by unfold maxLen;omega,by simp[ints,Ve],by rw[cA];simp[ints,Ve]⟩⟩;obtain⟨v',w',hr,h2,h3,_⟩:=oU (P:=ai) (w:=m) 100 100 48 i0 _ 9 72 underlying100 uT sS sT sa rfl (by decide) RR hsr (λx hx=>by simp[ints]at hx;obtain⟨n,_,rfl⟩:=hx;rfl) (by unfold maxLen;have:=hR.len;omega) (by have:=hR.len;omega);refine⟨v',w',?_,h2,h3⟩;rw[hP];simp[execOp,resolve,invoke,builtin,bX,hr];rintro m v w' V' q ⟨q1,q2⟩ k1 k2 k3 k6 k4 k5;have Ir:=h.js.rely O ((CS _).2 rfl) q;have YF:di m rb 50 (ints (M[j]).list):=(q.own rb (h.js.mb.vo rb h.vY).1).trans h.box;have Im:=O.lK p ⟨S,p,ah⟩ ((CS _).2 rfl);have hjs:JS φ (cfg Y old).sig Z Q C S N p M J[p] H0 ov (j+1) (γ.grow m w') w' V' cv v:=by refine⟨Ir.mb.val O lW k1 k2 k3 k4 k5,h.js.held,h.js.over,(db (k4 S (by have:=lW S (.inr (.inl Im));have:=Ir.mb.size;omega) λhv=>(Ir.mb.cb S (Ir.mb.vo S hv).1).1 Im)).trans Ir.cell,k6,?_⟩;rw[aV hj,bS];simpa[Ky,ints]using q1
  refine Kx _ _ _ ⟨u,V',(j+1),cv,v,y,z,A,B,D,_,F,sd,sf,sg,qQ,qS,qT,_,_,qV,rfl,⟨hjs,k1 rb h.vY,(q2.block rb YF.lt λe=>by have:=CU rb e.symm;omega).trans YF,(λl=>by rw[BA (by omega)]at l;cases l),λ_=>⟨rfl,rfl⟩,λl=>h.GY (b0 l),(λl=>by have:=(h.uy (b0 l)).2;rw[hff]at this;cases this),λl=>⟨(fq (by decide)).trans (h.uy (b0 l)).1,BA (by omega)⟩,(λ_ h2=>by rw[BA (by omega)]at h2;cases h2),λl=>h.d0 (b0 l),λl=>h.d1 (b0 l),λl=>h.d2 (b0 l),λl=>h.d3 (b0 l),λl=>h.d4 (b0 l),λl=>h.d5 (b0 l),λl=>h.d6 (b0 l),λl=>h.d7 (b0 l),λl=>h.d8 (b0 l),λl=>h.d9 (b0 l),λl=>h.d10 (b0 l),λl=>h.d11 (b0 l),λl=>h.d12 (b0 l),λl=>h.d15 (b0 l)⟩⟩
  ·obtain rfl:=h.d0 (s _ rfl ⟨0,.data⟩ (by simp) rfl);obtain rfl:=h.d1 (s _ rfl ⟨1,.data⟩ (by simp) rfl);refine kH O (.pointer (af ⟨S,p,ah⟩)) rfl rfl (by simp[base]) (λw _=>by rw[hP];go_simp) (λw _=>by rw[hP];simp[go_sem, *]) ?_;refine Kx _ _ _ ⟨u,V,jj,cv,pv,_,_,A,B,D,E,F,sd,sf,sg,qQ,qS,qT,qU,qM,_,rfl,⟨h.js,h.vY,h.box,λl=>h.Hb (b0 l),λl=>h.GX (b0 l),λl=>h.GY (b0 l),λl=>h.uj (b0 l),λl=>⟨(fq (by decide)).trans (h.uy (b0 l)).1,(fq (by decide)).trans (h.uy (b0 l)).2⟩,λh1 h2=>h.new (b0 h1) (b0 h2),λl=>h.d0 (b0 l),λl=>h.d1 (b0 l),λl=>h.d2 (b0 l),λl=>h.d3 (b0 l),λl=>h.d4 (b0 l),λl=>h.d5 (b0 l),λl=>h.d6 (b0 l),λl=>h.d7 (b0 l),λl=>h.d8 (b0 l),λl=>h.d9 (b0 l),λl=>h.d10 (b0 l),λl=>h.d11 (b0 l),λl=>h.d12 (b0 l),λ_=>rfl⟩⟩
  obtain rfl:=h.d15 (s _ rfl ⟨15,.data⟩ (by simp) rfl);obtain⟨e1,e2⟩:=h.GX (s _ rfl ⟨14,.data⟩ (by simp) rfl);subst e1 e2;have t5:=s _ rfl ⟨5,.phase⟩ (by simp) rfl;have t14:=s _ rfl ⟨14,.data⟩ (by simp) rfl;have hcv:=h.GY hff;subst hcv;obtain⟨A',c',hpv,_⟩:=aP h.js.own;have Im:=O.lK p ⟨S,p,ah⟩ ((CS _).2 rfl);have YJ:∀m,φ.eT γ w m->m.cell? ⟨S,p,ah⟩=af cv/\m.frozen? ⟨S,p,ah⟩=aq:=λm q=>by have Ir:=h.js.rely O ((CS _).2 rfl) q;refine⟨Ir.cell,?_⟩;exact Fs ((Ir.mb.pay S Im).trans hR.pb) p
  refine .opN (λm=>m.setCell ⟨S,p,ah⟩ pv) rfl rfl (by simp[base]) (λm q=>by
   obtain⟨hc,hz⟩:=YJ m q;subst hpv;rw[hP];go_simp) (λm q=>OG Im (λad hj'=>((CS ad).1 hj').symm▸rfl) h.js.mb.hp ((CS _).2 rfl) (λe he=>by
   obtain⟨hc,hz⟩:=YJ m q;subst hpv;rw[hP]at he;simp[go_sem, *]at he;rw[events_store _ _ _ _ _ _ rfl]at he;simp[storedEv,hc,hz]at he;exact he)) ?_
  intro m q;rw[Gh.D7 γ (by simp)];have Ir:=h.js.rely O ((CS _).2 rfl) q;have YF:di m rb 50 (ints (M[j]).list):=(q.own rb (h.js.mb.vo rb h.vY).1).trans h.box;have KZ:(m.setCell ⟨S,p,ah⟩ pv).cell? ⟨S,p,ah⟩=af pv:=QX (YJ m q).1 pv;have hjs:JS φ (cfg Y old).sig Z Q C S N p M J[p] H0 ov (j+1) γ (m.setCell ⟨S,p,ah⟩ pv) V pv pv:=⟨Ir.mb.UL O Im ((CS _).2 rfl) pv,h.js.held,h.js.over,KZ,Ir.rel,tZ Ir.rel Ir.own λr hr=>Below.heap_setCell m _ _ r λe=>(Ir.mb.cb r (Ir.mb.vo r hr).1).1 (e▸Im)⟩
  refine Kx _ _ _ ⟨u,V,(j+1),pv,pv,y,z,A,B,D,E,F,sd,sf,sg,qQ,qS,qT,qU,pv,_,rfl,⟨hjs,h.vY,(Below.heap_setCell m _ _ rb λe=>(Ir.mb.cb rb (Ir.mb.vo rb h.vY).1).1 (e▸Im)).trans YF,λl=>h.Hb (b0 l),λl=>⟨rfl,rfl⟩,(λl=>by rw[BA (by omega)]at l;cases l),λ_=>rfl,λ_=>⟨(fq (by decide)).trans t5,(fq (by decide)).trans t14⟩,(λ_ h2=>by rw[un (by decide) h2]at t14;cases t14),λl=>h.d0 (b0 l),λl=>h.d1 (b0 l),λl=>h.d2 (b0 l),λl=>h.d3 (b0 l),λl=>h.d4 (b0 l),λl=>h.d5 (b0 l),λl=>h.d6 (b0 l),λl=>h.d7 (b0 l),λl=>h.d8 (b0 l),λl=>h.d9 (b0 l),λl=>h.d10 (b0 l),λl=>h.d11 (b0 l),λl=>h.d12 (b0 l),λl=>h.d15 (b0 l)⟩⟩
 ·refine⟨by simp,V,j,sv,sv,y,z,A,B,D,E,F,sd,sf,sg,qQ,qS,qT,qU,qM,qV,rfl,h,vY,hB,λ_=>⟨rfl,rfl⟩,?_,λ_=>rfl,?_,?_,?_,?_,?_,?_,?_,?_,?_,?_,?_,?_,?_,?_,?_,?_,?_⟩;all_goals intro l;simp[Ah]at l
end
section
variable{Z:Ph} {Y:ar} {X:eu->List Tmp} {old:Nat} {W T S R Q C p:Nat} {N:aB} {xs:List cQ} {ss:List Sys} {M L:aB}
def RZ(O:Z.Ok)(u:Z.P=ai)(B:∀r,Z.mX r\/Z.CB r\/r=Z.Wg->r<Y.heap.size)(aaN:∀ad,Z.jl p ad↔ad=⟨R,p,ah⟩)(hR:BRd Z Y W T S R xs ss M L)(hp){H0 ov}{b:Frame}{a k cs ops i rest}(K:∀E w V sv,JS Z (cfg X old).sig Y Q C R N p xs ss[p] H0 ov xs.length E w V sv sv->Z.WT E (G (b.at (a.put ((ops[i]?).bind (·.dst)) (.tuple #[])) (.inRegion ops rest::k)) cs) w):∀m j E w V sv x4 x5 x6 XA Us Ut H I J XB XC XD XE sd sf sg qQ qS qT qU qM qV Mx,j+m=xs.length->JS Z (cfg X old).sig Y Q C R N p xs ss[p] H0 ov j E w V sv sv->Z.WT E (G ((base 92).at ⟨#[.int .i64 p,.pointer (af ⟨W,0,ah⟩),.pointer (af ⟨T,0,ah⟩),.pointer (af ⟨S,0,ah⟩),x4,x5,x6,M,.int .i64 xs.length,.int .i64 j,XA,Us,Ut,H,I,J,XB,XC,XD,XE,sd,sf,sg,qQ,qS,qT,qU,qM,qV,Mx],[]⟩ [.code tS,.inLoop tS,.inBlock 0]) (b.at a (.inRegion ops (i::rest)::k)::cs)) w:=by
 have ab3:Z.P.funcs[92]? =af f92:=by rw[u];exact func92
 have hlen:=hR.len;have y:Z.jl p ⟨R,p,ah⟩:=(aaN _).2 rfl;intro m
 induction m with
 |zero=>
  intro j E w V sv x4 x5 x6 XA Us Ut H I J XB XC XD XE sd sf sg qQ qS qT qU qM qV Mx hj h;obtain rfl:j=xs.length:=by omega
  simp only[tS,f92];refine lh O ?_;refine gO O ?_;simp only[aU,ax,aM,Nat.reduceAdd,bN,bB,ca];refine kH O (.bool aq) rfl rfl (by simp[base]) (λw _=>by go_simp) (λw _=>by simp[go_sem, *]) ?_;walk_nrm;refine lN O ?_;refine lh O ?_;refine BT O rfl ?_;refine NL O rfl ?_;refine GN O ?_;refine .leave0 O rfl rfl ab3 rfl ?_;exact K _ _ _ _ h
 |succ m ih=>
  intro j E w V sv x4 x5 x6 XA Us Ut H I J XB XC XD XE sd sf sg qQ qS qT qU qM qV Mx hj h;have z:j<xs.length:=by omega
  have hjI:(j:Int)<xs.length:=by omega
  obtain⟨A,c,hrv,D⟩:=hR.rows;obtain⟨g,rfl,hgR,Vi⟩:=D j z;clear D;subst hrv;simp only[tS,f92];refine lh O ?_;refine gO O ?_;simp only[aU,ax,aM,Nat.reduceAdd,bN,bB,ca];refine kH O (.bool ak) rfl rfl (by simp[base]) (λw _=>by go_simp) (λw _=>by simp[go_sem, *]) ?_;walk_nrm;refine lN O ?_;refine lh O ?_;refine J5 O rfl ?_;refine GU O ?_;refine lh O ?_;refine wV O ?_;refine lh O ?_;refine gO O ?_;simp only[aU,ax,aM,Nat.reduceAdd,bN,bB,ca];refine kH O (.pointer (af ⟨g,j *11,ah⟩)) rfl rfl (by simp[base]) (λw _=>by rw[u];go_simp) (λw _=>by rw[u];simp[go_sem, *]) ?_;walk_nrm;have s:∀d,Z.eT E w d->row? d g (j *11) 11=af (ints xs[j].list):=λd f=>(uc ((f.rd g hgR).trans (h.mb.rd g hgR)) _ _).trans Vi
  refine .pure O (.agg (ints xs[j].list)) rfl rfl (by simp[base]) (λd f=>by have q:=s d f;rw[u];go_simp) (λd f e he=>by rw[u]at he;obtain⟨ad,rfl,U7⟩:=oE (P:=ai) (t:=50) (g:=g) (o:=j *11) (n:=11) underlying50 (by kernel_rfl) (vj (s d f)) e (by simpa[execOp,bX]using he);exact .inr ⟨rfl,ad.block,rfl,.inr (.inr ⟨rfl,U7▸hgR⟩)⟩) ?_
  clear s;walk_nrm;refine Mw (c:=cU X old []) (V:=V) (by rw[u];exact y8 X old []) (λr q=>(h.mb.vo r q).1) (λr q=>(h.mb.cb r q).1) (λr q=>by have:=B r (.inr (.inl q));have:=h.mb.size;omega) h.mb.vh rfl rfl (by simp[base]) rfl (Fl (U:=[]) rfl (by simp) (by simp)) (λd v w'=>v=.pointer (af ⟨d.heap.size,0,ah⟩)/\w'=d.alloc (.cells (ints [0,0,0,0,0,0,0,0,0,0,0]) 50)) (λd f=>⟨_,_,by rw[u];go_simp;rfl,rfl,rfl⟩) ?_
  rintro d v w' V' f ⟨rfl,rfl⟩ k1 k2 k3 k6 k4 k5;have F:∀r,sv.ownBlock=af r->r<d.heap.size:=FV (h.rely O y f).own;have hB:=di.new d 50 (ints [0,0,0,0,0,0,0,0,0,0,0])
  replace h:=(h.rely O y f).val O y B k1 k2 k3 k4 k5 (λr q=>Below.heap_alloc d _ r (F r q))
  have l:V' d.heap.size:=by
   cases k6 with|pointer ha=>exact ha.block.2
  clear k1 k2 k3 k4 k5 k6 f;generalize d.alloc (.cells (ints [0,0,0,0,0,0,0,0,0,0,0]) 50)=w2 at *;generalize d.heap.size=x at *;generalize E.grow d w2=γ2 at *;clear d w V;walk_nrm;have RO:(xs[j]).list.length=11:=by have:=(hR.okB xs[j] (aF z)).2;simp[cQ.list,bw.list,this]
  have OQ:∀r,Z.CB r->r<w2.heap.size:=λr q=>by have:=B r (.inr (.inl q));have:=h.mb.size;omega
  refine WC (c:=cU X old [6,12]) (V:=V') (by rw[u];exact y8 X old [6,12]) (λr q=>(h.mb.vo r q).1) (λr q=>(h.mb.cb r q).1) OQ h.mb.vh rfl rfl (by simp[base]) rfl (Fl (U:=[6,12]) rfl (by simp) (λt ht=>by
   simp only[b8,fO,or_false]at ht;rcases ht with rfl|rfl;exact .pointer ⟨⟨rfl,l⟩,rfl,rfl⟩;exact xW _))
   (λd=>putRow d x 0 (xs[j]).list) (λd f=>by have hf:fits d x 0 11=ak:=QU ((f.own x (h.mb.vo x l).1).trans hB) 11 (by simp[ints]);rw[u];go_simp) ?_
  intro d V2 f k1 k2 k3 k4 k5;have hB1:di d x 50 (ints [0,0,0,0,0,0,0,0,0,0,0]):=(f.own x (h.mb.vo x l).1).trans hB;have hB2:di (putRow d x 0 (xs[j]).list) x 50 (ints (xs[j]).list):=hB1.dY _ RO
  replace h:=(h.rely O y f).val O y B k1 k2 k3 k4 k5 (λr q=>fF d x 0 _ r (λe=>by have:=F r q;omega))
  replace l:=k1 x l
  clear k1 k2 k3 k4 k5 hB hB1 f OQ;generalize putRow d x 0 (xs[j]).list=w3 at *;generalize γ2.grow d w3=γ3 at *;clear d w2 V' γ2;walk_nrm;refine lN O ?_;refine K8 O u B aaN hR hp z ?_ γ3 w3 V2 _ _ _ _ _ _ _ _ _ _ _ _ _ _ _ _ h l hB2 F;clear F hB2 l h;intro E w V H I J XB XC XD XE sd sf sg qQ qS qT qU qM qV sv' h;refine BU O ?_;refine gO O ?_;simp only[aU,ax,aM,Nat.reduceAdd,bN,bB,ca];have abV:IntKind.i64.wrap ((j:Int)+1)=(j:Int)+1:=IntWalk.i64_in _ (by omega);refine kH O (.int .i64 ((j+1:Nat):Int)) rfl rfl (by simp[base]) (λw _=>by rw[u];go_simp) (λw _=>by rw[u];simp[go_sem, *]) ?_;walk_nrm;refine kH O (.int .i64 ((j+1:Nat):Int)) rfl rfl (by simp[base]) (λw _=>by rw[u];go_simp) (λw _=>by rw[u];simp[go_sem, *]) ?_;walk_nrm;refine lN O ?_;refine E1 O ?_;exact ih (j+1) E w V sv' _ _ _ _ _ _ _ _ _ _ _ _ _ _ _ _ _ _ _ _ _ _ _ (by omega) h
end
section
variable{Z:Ph} {Y:ar} {bd:eu->List Tmp} {old:Nat} {X W U Pb:Nat} {xs:List cQ} {ss:List Sys} {Bp Mj:aB}
def Y6(O:Z.Ok)(j:Z.P=ai)(J:Z.nj=ss.length)(H:∀p,Z.jv p=.int .i64 p)(F:Z.jl=(p8 (cfg bd old).sig Pb xs ss).jl)(B:Z.J0=(p8 (cfg bd old).sig Pb xs ss).J0)(D:Z.JP=(p8 (cfg bd old).sig Pb xs ss).JP)(hg:Tryz.prog.globals.size<=Y.heap.size)(I:∀r,Z.mX r\/Z.CB r\/r=Z.Wg->r<Y.heap.size)(m:BRd Z Y X W U Pb xs ss Bp Mj):zB Z Y 92 #[.pointer (af ⟨X,0,ah⟩),.pointer (af ⟨W,0,ah⟩),.pointer (af ⟨U,0,ah⟩)]:=by
 intro b1 C fv y w p h hp L t;have s:Z.P.funcs[92]? =af f92:=by rw[j];exact func92
 refine⟨_,_,s,rfl,rfl,?_⟩;intro b a k cs ops i T hb K;have v:p<ss.length:=J▸hp;have l:w.cell? ⟨Pb,p,ah⟩=af (.slice ah 0 0):=by rw[B]at t;exact t
 have u:∀ad,Z.jl p ad↔ad=⟨Pb,p,ah⟩:=λad=>by rw[F];exact Iff.rfl
 have hm:=MB.start (p:=p) (S:=(cfg bd old).sig) (λ_=>rfl) (by rw[j];exact hg) h L O;have G:JS Z (cfg bd old).sig Y b1 C Pb fv p xs ss[p] (λq=>y.held q\/q=p) y.over 0 (y.hold p) w (λ_=>False) (.slice ah 0 0) (.slice ah 0 0):=⟨hm,λq=>Iff.rfl,rfl,l,.jr _ _,by simp,.inl ⟨rfl,rfl⟩⟩
 have M:f92.ntmps=30:=rfl;simp only[M,H,ez,eD,de,aU,ax,aM,Nat.reduceAdd,Nat.reduceSub,ed,eh,e8];have n:∀d,Z.eT (y.hold p) w d->d.cell? ⟨X,0,ah⟩=af Bp:=λd f=>(db ((f.rd X m.r4).trans (hm.rd X m.r4))).trans m.c4
 obtain⟨A,c,x,N⟩:=id m.rows;refine lh O ?_;refine gO O ?_;simp only[aU,ax,aM,Nat.reduceAdd,bN,bB,ca];refine pB O Bp (ad:=⟨X,0,ah⟩) rfl rfl (by simp[base]) (.inr m.r4) (λd f=>by have hc:=n d f;rw[j];go_simp) (λd f e E=>by have hc:=n d f;rw[j]at E;simp[go_sem, *]at E;exact E) ?_;walk_nrm;refine kH O (.int .i64 xs.length) rfl rfl (by simp[base]) (λw _=>by subst x;rw[j];go_simp) (λw _=>by subst x;rw[j];simp[go_sem, *]) ?_;walk_nrm;refine kH O (.int .i64 (0:Nat)) rfl rfl (by simp[base]) (λw _=>by rw[j];go_simp) (λw _=>by rw[j];simp[go_sem, *]) ?_;walk_nrm;refine lN O ?_;refine wV O ?_;refine NM O ?_;refine RZ (xs:=xs) (ss:=ss) O j I u m v ?_ xs.length 0 (y.hold p) w _ _ _ _ _ _ _ _ _ _ _ _ _ _ _ _ _ _ _ _ _ _ _ _ _ (by omega) G;intro P w' V sv g;refine K P w' (g.mb.finish O ?_) g.held g.over;rw[D];refine⟨sv,g.cell,V,λr z=>⟨(g.mb.vo r z).1,(g.mb.vo r z).2.2⟩,λr z=> ?_,g.rel,?_⟩;obtain⟨o,o',Q,R,e3⟩:=g.mb.vh.obj r r ⟨rfl,z⟩;rw[Q]at R;cases R;exact⟨o,Q,e3⟩;have:=g.own;rw[cA (ao _)]at this;simpa[v,List.flatMap_map]using this
end
end
section
open Go.RowKit
def Jr{w g o n b}(h:row? w g o n=af (ints b))(a m)(d:a+m<=n):row? w g (o+a) m=af (ints ((b.drop a).take m)):=by
 unfold row? at *;split at h;split at h;rename_i e;injection h with h;rw[if_pos (by omega)];congr 1;have c:(ints b).extract a (a+m)=ints ((b.drop a).take m):=by unfold ints;apply oq;simp[List.map_drop,List.map_take,List.extract_eq_take_drop]
 rw[<-c,<-h,Array.extract_extract,qO (by omega),kg];cases h;cases h
section
variable{G:Nat->Prop} {Z w:ar} {l:List cX} {p:Nat}
def Vl(A c f w):Calls ai 247 #[.slice A 0 c,f] w λe a=>e=.returned (.int .i64 (-1))/\w=a:=by
 go_enter func247,ntmps247;go_wp2_with fail;go_loopw [8] (λi a=>i=.int .i64 0/\w=a) (λ_ _=>0)
 case atStart=>exact⟨rfl,rfl⟩
 obtain⟨rfl,rfl⟩:=hrel;go_wp2_with fail;go_ret;exact⟨rfl,rfl⟩
def zS(A c f w):Calls ai 238 #[.slice A 0 c,f] w λe a=>e=.returned (.bool aq)/\w=a:=by go_enter func238,ntmps238;go_wp2_with fail;refine(Vl A c f w).mono ?_;rintro e a ⟨rfl,rfl⟩;go_wp2_with fail;go_ret;exact⟨rfl,rfl⟩
def Vm(A c x b w):Calls ai 248 #[.slice A 0 c,.agg #[.int .i64 x,.bool b]] w λe a=>e=.returned (.int .i64 (-1))/\Below w.heap.size w a:=by
 go_enter func248,ntmps248;go_upto_region 1 with(fail)
 refine a6 (λa=>Below w.heap.size w a) ((Below.refl _ _).alloc (ao _) _) ?_;intro f d;go_wp2_with fail;go_loopw [8] (λi a=>i=.int .i64 0/\Below w.heap.size w a) (λ_ _=>0)
 case atStart=>exact⟨rfl,d⟩
 obtain⟨rfl,d⟩:=hrel;go_wp2_with fail;go_ret;exact⟨rfl,d⟩
def KH(A c x b w):Calls ai 241 #[.slice A 0 c,.agg #[.int .i64 x,.bool b]] w λe d=>e=.returned (.bool aq)/\Below w.heap.size w d:=by
 go_enter func241,ntmps241;go_upto_region 1 with(fail)
 refine a6 (λd=>di d w.heap.size 172 #[.int .i64 x,.bool b]/\Below w.heap.size w d) ⟨di.new _ _ _,(Below.refl _ _).alloc (ao _) _⟩ ?_;rintro i ⟨h,f⟩;have j:row? i w.heap.size 0 2=af #[.int .i64 x,.bool b]:=h.row 0 2 (by simp);clear h;go_wp2_with fail;refine(Vm A c x b i).mono ?_;rintro e k ⟨rfl,a⟩;have g:=f.trans (a.mono f.size);clear j f a;go_wp2_with fail;go_ret;exact⟨rfl,g⟩
def Zx(A z c C w):Calls ai 213 #[.slice A 0 c,.slice z 0 C] w λe a=>∃p,e=.returned (.tuple #[.pointer (af ⟨p,0,ah⟩),.int .i64 0])/\eG a p [] (λk=>w.heap.size<=k)/\Below w.heap.size w a:=by
 go_enter func213,ntmps213;go_upto_region 1 with(fail)
 refine a6 (λa=>di a w.heap.size 32 #[.slice A 0 c]/\Below w.heap.size w a) ⟨di.new _ _ _,(Below.refl _ _).alloc (ao _) _⟩ ?_;rintro b ⟨f,n⟩;have x:b.cell? ⟨w.heap.size,0,ah⟩=af (.slice A 0 c):=f.cell 0;have I:=ae f;have l:=ae n;clear f n;go_wp2_with fail;refine(zS A c _ b).mono ?_;rintro e a ⟨rfl,rfl⟩;go_wp2_with fail;refine(zS z C _ b).mono ?_;rintro e a ⟨rfl,rfl⟩;go_wp2_with fail;refine(Nd b).mono ?_;rintro e j ⟨rfl,s,o⟩;have m:Hid (eG j b.heap.size [] (λq=>b.heap.size<=q)):=s.mono λk _ r=>by rcases r with r|r;exact absurd r (by simp);exact r.1
 have d:=ae o;clear s o;have J:j.cell? ⟨w.heap.size,0,ah⟩=af (.slice A 0 c):=(d.out.cell (p:=⟨w.heap.size,0,ah⟩) (World.block_lt_of_cell? _ _ x)).trans x;clear x;go_wp2_with fail;go_loopw [25] (λi a=>i=.int .i64 0/\j=a) (λ_ _=>0)
 case atStart=>exact⟨rfl,rfl⟩
 obtain⟨rfl,rfl⟩:=hrel;go_wp2_with fail;go_loopw [43] (λi a=>i=.int .i64 0/\j=a) (λ_ _=>0)
 case atStart=>exact⟨rfl,rfl⟩
 obtain⟨rfl,rfl⟩:=hrel;obtain⟨B,D,y,K,L,M,N,O,P,Q⟩:=(show jA 170 172 2 uF j b.heap.size [] (λq=>b.heap.size<=q)from m.out).slice;have E:=m.out;clear J K L M N O P Q;have y:j.cell? ⟨b.heap.size,0,ah⟩=af (.slice B 0 D):=y;go_wp2_with fail;refine(KH B D 1000000 ak j).mono ?_;rintro e H ⟨rfl,g⟩;have t:=l.out.size;have F:=d.out.size;have v:Hid (eG H b.heap.size [] (λk=>w.heap.size<=k)):=(E.only (G:=λ_=>False) (cT.fJ g) (λ_ _ h=>h)).mono λk _ h=>by omega
 have u:Hid (Below w.heap.size w H):=l.out.trans ((d.out.mono t).trans (g.mono (by omega)));clear E g y;go_wp2_with fail
 go_ret2
 exact⟨_,rfl,v.out,u.out⟩
def ZH(A y c z)(h:In G Z l w):Calls ai 167 #[.slice A 0 c,.slice y 0 z] w λe m=>∃p,e=.returned (.tuple #[.pointer (af ⟨p,0,ah⟩),.int .i64 0])/\In G Z (dR p [] (λ_=>ah)::l) m:=by
 have r:=ae h;clear h;go_enter func167,ntmps167;go_wp2_with fail;go_loopw [20,6] (λi v m=>i=.int .i64 0/\v=.slice ah 0 0/\w=m) (λ_ _ _=>0)
 case atStart=>exact⟨rfl,rfl,rfl⟩
 obtain⟨rfl,rfl,rfl⟩:=hrel;go_wp2_with fail;refine(Zx A ah c 0 w).mono ?_;rintro e F ⟨b,rfl,k,j⟩;have f:Hid (In G Z (cy b []::l) F):=r.out.new (A:=cy b []) j k;clear j k r;go_wp2_with fail;refine(NK f.out).mono ?_;rintro e n ⟨p,rfl,g⟩;obtain⟨u,x,t,T,s,a⟩:=g.j1;have B:n.cell? ⟨p,0,ah⟩=af (.pointer (af ⟨u,0,ah⟩)):=a.blk.cell 0;have C:n.frozen? ⟨p,0,ah⟩=aq:=a.blk.frozen _;have d:Hid (∀W,W=n.setCell ⟨p,0,ah⟩ (.pointer (af ⟨b,0,ah⟩))->In G Z (l4 p b [] (λ_=>ah)::l) W):=λW e=>by rw[e];have D:=In.set a 0 (.pointer (af ⟨b,0,ah⟩));have E:In G Z (aN p 108 #[.pointer (af ⟨b,0,ah⟩),.map (af x),.map (af t)]::cy b []::PtrMap x (T.ks.map λK=>(K,T.pt K))::bO t T.ps::((cy u []::l)++T.ks.map (dI T))) (n.setCell ⟨p,0,ah⟩ (.pointer (af ⟨b,0,ah⟩))):=D.reorder 5 [0,4,2,3,1] rfl (by simp);exact(In.vn s E).swap.drop
 clear g a s f;go_upto_region 14 with(fail)
 refine a6 (In G Z (l4 p b [] (λ_=>ah)::l)) (d.out _ rfl) ?_;clear B C d;intro H a;have o:=ae a;clear a;go_wp2_with fail;go_loopw [47] (λi m=>i=.int .i64 0/\H=m) (λ_ _=>0)
 case atStart=>exact⟨rfl,rfl⟩
 obtain⟨rfl,rfl⟩:=hrel;have q:=ae o.out.GK;go_wp2_with fail
 go_ret2
 exact⟨p,rfl,q.out⟩
def ZQ(A d o c j q)(h:In G Z l w):Calls ai 107 #[.agg #[.slice A 0 c,.slice d 0 j,.slice o 0 q]] w λe t=>∃p,e=.returned (.tuple #[ptr p,.int .i64 0])/\In G Z (dn p si::l) t:=by
 have u:=ae h;clear h;go_enter func107,ntmps107;go_upto_region 1 with(fail)
 refine a6 (In G Z (aN w.heap.size 36 #[.slice A 0 c,.slice d 0 j,.slice o 0 q]::l)) (u.out.alloc 36 _) ?_;generalize w.heap.size=r;intro v a;have B:v.cell? ⟨r,0,ah⟩=af (.slice A 0 c):=a.blk.cell 0;have C:v.cell? ⟨r,1,ah⟩=af (.slice d 0 j):=a.blk.cell 1;have f:=ae a;clear a u;go_wp2_with fail;refine(ZH A d c j f.out).mono ?_;rintro e H ⟨F,rfl,k⟩;have g:=ae k;clear k f B C;go_wp2_with fail;refine(MS g.out).mono ?_;rintro e x ⟨E,rfl,n⟩;go_upto_region 5 with(fail)
 refine a6 (In G Z (dn x.heap.size si::aN r 36 #[.slice A 0 c,.slice d 0 j,.slice o 0 q]::l)) (In.mh (z:=si) (m:=[]) DG ((n.alloc 83 #[ptr F,ptr E]).perm ((cz _ _ _).cons _))) ?_;generalize x.heap.size=p;clear n g;intro y b;have D:y.cell? ⟨r,2,ah⟩=af (.slice o 0 q):=b.swap.blk.cell 2;have s:=ae b;clear b;go_wp2_with fail;go_loopw [31] (λi t=>i=.int .i64 0/\y=t) (λ_ _=>0)
 case atStart=>exact⟨rfl,rfl⟩
 obtain⟨rfl,rfl⟩:=hrel;clear D;go_wp2_with fail
 go_ret2
 exact⟨p,rfl,s.out.swap.drop⟩
end
section
variable{G:Nat->Prop} {Z w:ar} {l:List cX} {p g:Nat} {z:ZS} {c:Nat} {Y:List mo} {t:cD}
def D1{e:Type}(f:e->List Int)(a:List e)(k n)(b:∀x∈a,(f x).length=n)(c):((a.flatMap f).drop (k *n)).take n=f a[k]:=by
 induction a generalizing k with
 |nil=>simp at c|cons x a h=>
  have d:=b x (by simp);cases k with|zero=>rw[Nat.zero_mul,List.drop_zero,bJ,List.take_left' d];rfl|succ k=>rw[bJ,Nat.succ_mul,bM,<-List.drop_drop,List.drop_left' d];exact h k (λy g=>b y (by simp[g])) (by simpa using c)
def pH{c:Type}(f:c->List Int)(a:List c)(n)(b:∀x∈a,(f x).length=n):(a.flatMap f).length=a.length *n:=by
 induction a with|nil=>simp|cons x a e=>rw[bJ,bm,b x (by simp),e λy d=>b y (by simp[d]),ax];rw[Nat.succ_mul];omega
def mv.AF{F}(h:di w g t (ints (Y.flatMap mo.list)))(f:∀o∈Y,o.b.v.length=8)(l:¬F g):mv F w (g+1) (af ⟨g,0,ah⟩) Y:=by
 intro W m;have d:=h.lt;have j:di W g t (ints (Y.flatMap mo.list)):=(m.old d l).trans h;refine⟨λr b=>by obtain⟨x,e,rfl⟩:=aA.1 b;exact mo.len (f x e),λq=>⟨g,0,rfl,by omega,λk r b=> ?_⟩⟩;rw[dX]at b;obtain⟨x,e,rfl⟩:=aG.1 b;obtain⟨i,rfl⟩:=bg.1 e;have a:∀o∈Y,(mo.list o).length=16:=λo p=>mo.len (f o p)
 have c:=pH mo.list Y 16 a;have n:(k+1) *16<=Y.length *16:=fh 16 i;rw[bN,j.dy (k *16) 16 (by rw[c];omega),D1 mo.list Y k 16 a i]
end
def lp(G:Nat->Prop)(b:ar)(B:Nat)(A:Option Addr)(a:List Sys):Prop:=∀{W:ar},In G b [] W->pT W B A a
def lp.AE{w A a}(h:pT w w.heap.size A a):lp (λ_=>False) w w.heap.size A a:=λb=>h.below b.ko
def lp.AF{F w g t a}(h:di w g t (ints (a.flatMap Sys.list)))(j:¬F g):lp F w (g+1) (af ⟨g,0,ah⟩) a:=by intro W l;have d:=h.lt;have i:di W g t (ints (a.flatMap Sys.list)):=(l.old d j).trans h;refine⟨λr b=>by obtain⟨x,f,rfl⟩:=aA.1 b;rfl,λn=>⟨g,0,rfl,by omega,λk r b=> ?_⟩⟩;rw[dX]at b;obtain⟨x,f,rfl⟩:=aG.1 b;obtain⟨e,rfl⟩:=bg.1 f;have c:=pH Sys.list a 7 (λ_ _=>rfl);have m:(k+1) *7<=a.length *7:=fh 7 e;rw[bN,i.dy (k *7) 7 (by rw[c];omega),D1 Sys.list a k 7 (λ_ _=>rfl) e]
def uw:∀{l},fS l=0->∀e∈l,e=0
 |[],_,_,h=>by cases h|x::l,h,e,a=>by unfold fS at h;split at h;rename_i b;rcases b8.1 a with rfl|a;exact b;exact uw h e a;rename_i b;exact absurd h b
def wz{b}(h:(dL b).2=0):(∀s∈b,dH s=0)/\b.length<=20:=by unfold dL at h;split at h;cases h;rename_i d;split at h;rename_i a;exact⟨λs c=>uw a _ (aA.2 ⟨s,c,rfl⟩),by omega⟩;rename_i a;exact absurd h a
def sc(z:ZS)(s:Sys)(j:Nat):ZS:=⟨z.ls,px z.f s (z.rows.take j),z.B⟩
def Sm{z}(h:jC z)(s):sc z s z.rows.length=GD z s:=by unfold sc;rw[cq];unfold ZS.rows;rw[Jt h.w];rfl
def El{z}(s){j}(a):sc z s (j+1)=⟨z.ls,dC (sc z s j).f z.rows[j].h.1 (af (z.rows[j].h.2,bU z.rows[j].b s)),z.B⟩:=by unfold sc;rw[aV a,wK]
def Nc{z}(h:jC z)(s){j}(a):(sc z s j).f z.rows[j].h.1=af (z.rows[j].h.2,z.rows[j].b):=by unfold sc;simp only;rw[yF];exact(gH h.w).1 (aF a);intro r c e;obtain⟨i,b,rfl⟩:=bR.1 c;rw[cR]at b;have:=eA.1 (kn z.ls z.f) i j (show i<z.rows.length by omega) a (by omega);rw[List.getElem_take]at e;unfold JB at this;change z.rows[i].h.1<z.rows[j].h.1 at this;omega
def Vz{z}(h:jC z)(s):∀j,j<=z.rows.length->jC (sc z s j):=by
 intro j
 induction j with|zero=>intro _;exact h|succ j e=>intro f;have b:=e (by omega);have a:=Nc h s (show j<z.rows.length by omega);have c:=b.w.bo _ _ _ a;have d:=(b.w.lv _ _).2 ⟨_,a⟩;rw[El s (show j<z.rows.length by omega)];exact⟨b.w.upd d ⟨vJ _ _ c.2 c.1,by rw[eX];exact c.2⟩,h.rT,h.Ny,h.lv⟩
def DR(b s):∀j,j∉kinds b.k.toNat->(bU b s).v.getD j 0=b.v.getD j 0:=by
 intro j a;refine gj b s j λhm=>a ?_
 have:=(lM b s j).1 hm;exact(iM _ _).2 ⟨this.1,this.2.1⟩
section
variable{G:Nat->Prop} {Z w:ar} {l:List cX} {p:Nat} {z:ZS} {B:Nat} {A:Option Addr} {c:Nat} {Y:List Sys}
def Ju(h:In G Z (dn p z::l) w)(i:jC z):Calls ai 37 #[ptr p] w λe s=>∃A c,e=.returned (.slice A z.rows.length c)/\In G Z (bj (.slice A z.rows.length c) z.rows::dn p z::l) s:=by have n:=ae i;obtain⟨u,x,m,hm,r,q,a⟩:=h.kV;obtain⟨B,d⟩:=a.swap.TG;have v:w.cell? ⟨p,0,ah⟩=af (ptr u):=a.blk.cell 0;have HM:=ae hm;have b:=ae d;clear h a d hm r q i;have f:=ae (Js b.out n.out.w yJ);rw[E2,if_pos rfl,Bq xx,BV]at f;go_enter func37,ntmps37;go_wp2_with fail;refine f.out.mono ?_;rintro e t ⟨y,rfl,g⟩;obtain⟨j,o,rfl,_,_,_⟩:=aP g.rowAt;have k:Hid (In G Z (bj (.slice j z.rows.length o) z.rows::dn p z::l) t):=(In.mh (z:=z) HM.out (g.swap.GK.reorder 4 [2,0,3,1] rfl (by simp))).swap;clear g f b;go_wp2_with fail;go_ret;exact⟨_,_,rfl,k.out⟩
def LZ(hS:lp G Z B A Y)(hB:B<=Z.heap.size)(n:Y.length<=maxLen)(h:In G Z (dn p z::l) w)(hk:jC z):Calls ai 12 #[ptr p,.slice A Y.length c] w λe w'=>e=.returned (.int .i64 (dL Y).2)/\In G Z (dn p (if(dL Y).2=0 then fY z Y else z)::l) w':=by
 have HS:Hid (lp G Z B A Y):=hS;have HK:=ae hk;have Q:=ae h;have hnm:(Y.length:Int)<=9223372036854775807:=by unfold maxLen at n;omega
 have HP:=ae (I2 A c Y w (fR.more (hS h.bare) (by have:=h.size;omega)) n);clear hS h hk n;obtain⟨pn,L⟩:∃pn,(dL Y).2=pn:=⟨_,rfl⟩;rw[L]at HP|-;have X:=ae L;clear L;obtain⟨zo,M⟩:∃zo,zo=(if pn=0 then fY z Y else z):=⟨_,rfl⟩;rw[<-M];have u:=ae M;clear M;go_enter func12,ntmps12;go_wp2_with fail;refine HP.out.mono ?_;rintro e w2 ⟨v,rfl,ho,sQ⟩;have F:=ae (Q.out.below sQ);clear ho sQ HP Q;by_cases he:pn=0;rotate_left
 ·have CU:(pn !=0)=ak:=by simp[he]
  have I:Hid (zo=z):=u.out.trans (if_neg he);clear he u;go_wp2_with fail;go_ret;exact⟨rfl,by rw[I.out];exact F.out⟩
 have HZ0:Hid (zo=fY z Y):=u.out.trans (if_pos he);clear u;subst he;have Ux:=ae (wz X.out).1;have h20:=(wz X.out).2;have aaM:(Y.length:Int)<=20:=by omega
 go_wp2_with fail;go_loopw [21] (λi w'=>∃k:Nat,k<=Y.length/\i=.int .i64 k/\In G Z (dn p (fY z (Y.take k))::l) w') (λi _=>Y.length-(intOf i).toNat)
 case atStart=>exact⟨0,bH _,rfl,F.out⟩
 case round=>
  clear F;obtain⟨k,hk,rfl,f⟩:=hrel;by_cases x:k<Y.length
  ·have rW:(k:Int)<Y.length:=by omega
   obtain⟨g,o,rfl,YK,q1⟩:=(HS.out f.bare).at_ x;have e1:Y.getD k cW=Y[k]:=by simp[bu,x]
   rw[e1]at q1;have HSK:=ae (Ux.out Y[k] (aF x));have HST:=ae (EK z Y x);have I:=ae (HK.out.run (Y.take k));have t:=ae f;clear f e1;generalize Y[k]=s at *;generalize fY z (Y.take k)=a at *;go_upto_region 7 with(fail)
   refine a6 (In G Z (aN wr.heap.size 54 (ints s.list)::dn p a::l)) (t.out.struct 54 [0,0,0,0,0,0,0] s.list rfl) ?_;generalize wr.heap.size=N;intro w3 Fw;have S:=ae Fw.swap;clear Fw t q1;go_wp2_with fail;refine(Ju S.out I.out).mono ?_;rintro e w4 ⟨rA,rc,rfl,ze⟩;have T:Hid (In G Z (dn p (sc a s 0)::bj (.slice rA a.rows.length rc) a.rows::aN N 54 (ints s.list)::l) w4):=ze.swap;have HMA:=ae (Sm I.out s);have HMO:Hid (∀j,j<=a.rows.length->jC (sc a s j)):=λj=>Vz I.out s j
   have ZY:Hid (∀j(O:j<a.rows.length),(sc a s j).f a.rows[j].h.1=af (a.rows[j].h.2,a.rows[j].b)):=λj O=>Nc I.out s O
   have HMS:Hid (∀j(O:j<a.rows.length),sc a s (j+1)=⟨(sc a s j).ls,dC (sc a s j).f a.rows[j].h.1 (af (a.rows[j].h.2,bU a.rows[j].b s)),(sc a s j).B⟩):=λj O=>El s O
   have acf:a.rows.length<=60:=nm I.out.w;have hri:(a.rows.length:Int)<=60:=by omega
   clear ze S;generalize a.rows=d at *;go_wp2_with fail;go_loopw [28] (λi w'=>∃j:Nat,j<=d.length/\i=.int .i64 j/\In G Z (dn p (sc a s j)::bj (.slice rA d.length rc) d::aN N 54 (ints s.list)::l) w') (λi _=>d.length-(intOf i).toNat)
   case atStart=>exact⟨0,bH _,rfl,T.out⟩
   clear T;obtain⟨j,O,rfl,f⟩:=hrel;by_cases q:j<d.length
   ·have hji:(j:Int)<d.length:=by omega
    have V:=ae (HMO.out j (by omega));have E:=ae (ZY.out j q);have U:=ae (HMS.out j q);obtain⟨K,h8⟩:=V.out.w.bo _ _ _ E.out;obtain⟨g2,rfl,q2⟩:=vl f.swap q h8;have RO:(d[j]).list.length=11:=by simp[cQ.list,bw.list,h8]
    have t:=ae f;clear f;generalize d[j]=r at *;generalize sc a s j=zj at *;obtain⟨⟨x1,x2⟩,b⟩:=r;simp only at h8 K E U;have hb9:b.list.length=9:=by simp[bw.list,h8]
    have P:=ae K;have H8:=ae h8;clear K;go_upto_region 10 with(fail)
    refine a6 (In G Z (dn p zj::aN wr.heap.size 50 (ints (cQ.list ⟨(x1,x2),b⟩))::bj (.slice (af ⟨g2,0,ah⟩) d.length rc) d::aN N 54 (ints s.list)::l)) (t.out.struct 50 [0,0,0,0,0,0,0,0,0,0,0] _ RO).swap ?_;generalize wr.heap.size=rb;intro w5 J;have H:Hid (∀{W:ar}{zz:ZS},In G Z (dn p zz::aN rb 50 (ints (cQ.list ⟨(x1,x2),b⟩))::bj (.slice (af ⟨g2,0,ah⟩) d.length rc) d::aN N 54 (ints s.list)::l) W->row? W rb 0 2=af (ints [x1,x2])/\row? W rb 2 9=af (ints b.list)/\row? W N 0 7=af (ints s.list)):=λ{W zz} hW=>by refine⟨by rw[hW.swap.blk.dy 0 2 (by omega)];rfl,?_,hW.fourth.blk.aL rfl⟩;rw[hW.swap.blk.dy 2 9 (by omega)];show af (ints (b.list.take 9))=_;rw[cA (by omega)]
    obtain⟨s1,s2,s3⟩:=H.out J;have yL:=ae J;clear J q2 t
    go_region_held3 (λW=>row? W rb 0 2=af (ints [x1,x2])/\row? W rb 2 9=af (ints b.list)/\row? W N 0 7=af (ints s.list))
     (refine⟨?_,?_,?_⟩<;>assumption)
     (first
       |(go_at_call 38;refine(Ns y.out V.out x1 x2 b (bU b s) E.out (mZ b s) (vJ b s H8.out P.out) (by rw[eX];exact H8.out) (DR b s)).mono ?_;rintro e GJ ⟨rfl,m⟩;obtain⟨u1,u2,u3⟩:=H.out m;have C:=ae m;clear m)
       |(go_at_call 39;refine(Ra b s H8.out P.out HSK.out _).mono ?_;rintro e TD ⟨rfl,D⟩;have y:=ae (yL.out.drew.below D);obtain⟨t1,t2,t3⟩:=H.out y.out;clear D))
    all_goals
     have R:Hid (In G Z (dn p (sc a s (j+1))::bj (.slice (af ⟨g2,0,ah⟩) d.length rc) d::aN N 54 (ints s.list)::l) GJ):=by rw[U.out];exact C.out.swap.drop
     clear C;go_wp2_with fail;go_roundw
     case rel=>exact⟨j+1,by omega,by go_num,R.out⟩
     case measure=>simp[intOf];omega
   have:j=d.length:=by omega
   subst this;rw[HMA.out,<-HST.out]at f;have t:=ae f.swap.drop.swap.drop;clear f;go_wp2_with fail;go_roundw
   case rel=>exact⟨k+1,by omega,by go_num,t.out⟩
   simp[intOf];omega
  have:k=Y.length:=by omega
  subst this;rw[cq]at f;have t:=ae f;clear f;go_wp2_with fail;go_ret;exact⟨rfl,by rw[HZ0.out];exact t.out⟩
end
section
variable{G:Nat->Prop} {Z w:ar} {l:List cX} {p:Nat} {z:ZS}
def BW(h:In G Z (dn p z::l) w)(k:jC z):Calls ai 16 #[ptr p] w λe j=>∃a d b f c g,e=.returned (.agg #[.slice a (iw z.ls).length d,.slice b z.rows.length f,.slice c z.B.length g])/\In G Z (ei (.slice a (iw z.ls).length d) (iw z.ls)::bj (.slice b z.rows.length f) z.rows::dA (.slice c z.B.length g) z.B::dn p z::l) j:=by refine(E3 h k).mono ?_;rintro e j ⟨n,o,m,rfl,i⟩;obtain⟨a,d,rfl,_⟩:=aP i.rowAt;obtain⟨b,f,rfl,_⟩:=aP i.swap.rowAt;obtain⟨c,g,rfl,_⟩:=aP i.third.rowAt;exact⟨a,d,b,f,c,g,rfl,i⟩
end
def Nt(z a):(fY z a).ls=z.ls/\(fY z a).B=z.B:=by
 unfold fY
 induction a generalizing z with|nil=>exact⟨rfl,rfl⟩|cons s a b=>exact b (GD z s)
def y4:mo:=⟨1,⟨3,[0,0,0,0,0,0,0,0]⟩,(0,0),(0,0),0,0⟩
def nC:Sys:=⟨⟨0,0,0⟩,0,2,1,7⟩
def Mr:(dL [nC]).2=0:=by decide
def Ms:(fY ⟨[(0,ak)],dC (λ_=>ah) 0 (af (0,y4.b)),[]⟩ [nC]).rows=[⟨(0,0),⟨3,[0,7,0,0,0,0,0,0]⟩⟩]:=by rfl
end
def oZ(f:BF)(g:bw->bw):BF:=λk=>(f k).map λx=>(x.1,g x.2)
def yE(f:BF)(g:bw->bw)(l:List cQ):BF:=l.foldl (λf r=>dC f r.h.1 (af (r.h.2,g r.b))) f
def Bo(f g l r):yE f g (l++[r])=dC (yE f g l) r.h.1 (af (r.h.2,g r.b)):=by unfold yE;rw[jc];rfl
def EJ(f g l){k}(h:∀r∈l,r.h.1≠k):yE f g l k=f k:=by
 unfold yE
 induction l generalizing f with|nil=>rfl|cons r l b=>rw[List.foldl_cons,b _ λr a=>h r (by simp[a])];unfold dC;rw[if_neg (λe=>h r (by simp) e.symm)]
def PN{q f}(u:lH q f)(g):yE f g (ep q f)=oZ f g:=by
 have p:∀(n:Nat)(l:List cQ),l.length=n->(∀r∈l,f r.h.1=af (r.h.2,r.b))->∀k,(∃r∈l,r.h.1=k)->yE f g l k=oZ f g k:=by
  intro n
  induction n with
  |zero=>rintro l y _ k ⟨r,a,_⟩;rw[dw y]at a;cases a
  |succ n A=>
   intro l j v k c;have b:l≠ []:=by intro e;rw[e]at j;cases j
   have d:=List.dropLast_concat_getLast b;generalize l.getLast b=r at d;generalize s:l.dropLast=w at d;have i:w.length=n:=by rw[<-s,List.length_dropLast,j];rfl
   clear s;subst d;rw[Bo];unfold dC;by_cases e:k=r.h.1;rw[if_pos e];unfold oZ;rw[e,v r (by simp)];rfl;rw[if_neg e];refine A w i (λr a=>v r (by simp[a])) k ?_;obtain⟨B,o,t⟩:=c;rcases fM.1 o with h|h;exact⟨B,h,t⟩;rw[aO]at h;subst h;exact absurd t.symm e
 funext k;by_cases c:∃r∈ep q f,r.h.1=k;exact p _ _ rfl (λr a=>(gH u).1 a) k c;have m:f k=ah:=by
  cases z:f k with|none=>rfl|some x=>exact absurd ⟨⟨(k,x.1),x.2⟩,(gH u).2 z,rfl⟩ c
 rw[EJ f g _ (λr a e=>c ⟨r,a,e⟩)];unfold oZ;rw[m];rfl
def Dx(g:bw->bw):Prop:=∀b,bx b=0->b.v.length=8->bx (g b)=0/\(g b).v.length=8
def lH.gen{l f}(h:lH l f){g}(m:Dx g):lH l (oZ f g):=by refine⟨h.so,λk n=> ?_,λk n b a=> ?_⟩;rw[h.lv];unfold oZ;constructor;rintro⟨b,a⟩;exact⟨g b,by rw[a];rfl⟩;rintro⟨b,a⟩;obtain⟨x,d,c⟩:=aG.1 a;injection c with e i;exact⟨x.2,by rw[d,<-e]⟩;unfold oZ at a;obtain⟨x,d,c⟩:=aG.1 a;injection c with e i;have j:=h.bo k x.1 x.2 d;rw[<-i];exact m _ j.1 j.2
def jC.gen{z}(h:jC z){g}(a:Dx g):jC ⟨z.ls,oZ z.f g,z.B⟩:=⟨h.w.gen a,h.rT,h.Ny,h.lv⟩
def Aa{e f}(h:lH e f){g a}(d:∀b,bx b=0->b.v.length=8->g b=a b):oZ f g=oZ f a:=by
 funext k;unfold oZ;cases c:f k with|none=>rfl|some x=>have:=h.bo k x.1 x.2 c;simp only[fD];rw[d _ this.1 this.2]
def D3(f g a):oZ (oZ f g) a=oZ f λb=>a (g b):=by funext k;unfold oZ;cases f k<;>rfl
def MV(f):oZ f (λb=>b)=f:=by funext k;unfold oZ;cases f k<;>rfl
def qq(z:ZS)(g:bw->bw)(j:Nat):ZS:=⟨z.ls,yE z.f g (z.rows.take j),z.B⟩
def Sk{z}(h:jC z)(g):qq z g z.rows.length=⟨z.ls,oZ z.f g,z.B⟩:=by unfold qq;rw[cq];unfold ZS.rows;rw[PN h.w]
def Ek{z}(g){j}(a):qq z g (j+1)=⟨z.ls,dC (qq z g j).f z.rows[j].h.1 (af (z.rows[j].h.2,g z.rows[j].b)),z.B⟩:=by unfold qq;rw[aV a,Bo]
def Nb{z}(h:jC z)(g){j}(a):(qq z g j).f z.rows[j].h.1=af (z.rows[j].h.2,z.rows[j].b):=by unfold qq;simp only;rw[EJ];exact(gH h.w).1 (aF a);intro r c e;obtain⟨i,b,rfl⟩:=bR.1 c;rw[cR]at b;have:=eA.1 (kn z.ls z.f) i j (show i<z.rows.length by omega) a (by omega);rw[List.getElem_take]at e;unfold JB at this;change z.rows[i].h.1<z.rows[j].h.1 at this;omega
def Vy{z}(h:jC z){g}(d:Dx g):∀j,j<=z.rows.length->jC (qq z g j):=by
 intro j
 induction j with|zero=>intro _;exact h|succ j f=>intro i;have b:=f (by omega);have a:=Nb h g (show j<z.rows.length by omega);have c:=b.w.bo _ _ _ a;have e:=(b.w.lv _ _).2 ⟨_,a⟩;rw[Ek g (show j<z.rows.length by omega)];exact⟨b.w.upd e (d _ c.1 c.2),h.rT,h.Ny,h.lv⟩
def KI(a):∀b,∀j,j∉kinds b.k.toNat->(iH b a).v.getD j 0=b.v.getD j 0:=by
 induction a with|nil=>intro b j _;rfl|cons s a d=>intro b j c;show(iH (bU b s) a).v.getD j 0=_;rw[d _ j (by rw[mZ];exact c)];exact DR b s j c
def Hj(L)(hL:qY L):∀n,Dx λb=>WO b L n:=by
 intro n
 induction n with|zero=>intro b a c;exact⟨a,c⟩|succ n f=>intro b a c;obtain⟨e,d⟩:=f b a c;exact⟨Ht _ _ d e,by show(iH _ _).v.length=8;rw[tK];exact d⟩
def ie(z:ZS)(L:PS)(n:Nat):ZS:=⟨z.ls,oZ z.f λb=>WO b L n,z.B⟩
def Mb(z L):ie z L 0=z:=by
 have:(λb=>WO b L 0)=λb=>b:=rfl
 unfold ie;rw[this,MV]
def JG{z}(h:jC z){L}(hL:qY L)(n):jC (ie z L n):=h.gen (Hj L hL n)
def zr{L}(hL:qY L)(b):∀s∈gJ L b,dH s=0:=λs a=>by unfold gJ at a;obtain⟨x,c,rfl⟩:=aA.1 a;exact hL.ok x (b3.1 c).1
structure mF(L:PS):Prop extends qY L where
 apart:L.Pairwise λx y=>x.2=y.2->gi x.1 y.1=aq
def vm{L}(hL:mF L)(b):(gJ L b).Pairwise λs t=>gi s t=aq:=by
 unfold gJ;rw[List.pairwise_map];refine(hL.apart.sublist ly).imp_of_mem λ{x y} d e h=>h ?_
 have a:=(b3.1 d).2;have c:=(b3.1 e).2;simp only[decide_eq_true_eq]at a c;rw[a,c]
def Kw{L}(hL:mF L)(b):Dx λx=>gX x (gJ L b):=λx c a=>by show bx (gX x (gJ L b))=0/\(gX x (gJ L b)).v.length=8;rw[uO x a _ _ rfl (zr hL.toqY b) (vm hL b)];exact⟨Ht _ _ a c,by rw[tK];exact a⟩
def G'{L}(hL:mF L)(b){x}(a:x.v.length=8):∀j,j∉kinds x.k.toNat->(gX x (gJ L b)).v.getD j 0=x.v.getD j 0:=by rw[uO x a _ _ rfl (zr hL.toqY b) (vm hL b)];exact KI _ x
def Ma{z}(h:jC z){L}(hL:mF L)(n):qq (ie z L n) (λx=>gX x (gJ L n)) (ie z L n).rows.length=ie z L (n+1):=by
 rw[Sk (JG h hL.toqY n)];unfold ie;rw[D3];congr 1;refine Aa h.w λb a c=> ?_
 have:=Hj L hL.toqY n b a c;exact uO _ this.2 _ _ rfl (zr hL.toqY n) (vm hL n)
def S6(a):∀z:ZS,fY z a=⟨z.ls,oZ z.f λb=>iH b a,z.B⟩:=by
 induction a with|nil=>intro z;show z=_;have:(λb:bw=>iH b [])=λb=>b:=rfl;rw[this,MV]|cons s a c=>intro z;show fY (GD z s) a=_;rw[c];unfold GD;congr 1;show oZ (oZ z.f λb=>bU b s) _=_;rw[D3];rfl
def P5{z}(h:jC z){L}(hL:mF L)(a:∀y∈L,0<=y.2)(n:Nat)(d:∀y∈L,y.2<n):ie z L n=fY z (E8 L):=by rw[S6];unfold ie;congr 1;exact Aa h.w λb _ c=>UK b c L hL.toqY a n d
def dV(a:List Sys):PS:=a.zip (cm a a.length)
def jk(a):(dV a).length=a.length:=by unfold dV;rw[List.length_zip,eZ,Nat.min_self]
def Pj(a):E8 (dV a)=a:=by unfold E8 dV;rw[List.map_fst_zip (by rw[eZ];exact ao _)]
def lT(a i h):(dV a)[i]=(a[i]'(by rw[jk]at h;exact h),(cm a a.length).getD i 0):=by
 have b:i<a.length:=by rw[jk]at h;exact h
 have e:(dV a)[i]? =af (a[i],(cm a a.length).getD i 0):=by unfold dV;rw[List.getElem?_zip_eq_some];exact⟨aj b,by simp[bu,eZ,b]⟩
 rw[aj h]at e;exact Option.some.inj e
def SI{c}(k:∀s∈c,dH s=0):mF (dV c):=by
 have a:∀i(h:i<c.length),c.getD i cW=c[i]:=λi h=>by simp[bu,h]
 refine⟨⟨λx n=> ?_,?_⟩,?_⟩;obtain⟨i,e,rfl⟩:=bR.1 n;rw[lT];exact k _ (aF _);refine eA.2 λi j e g f l=> ?_
 have d:i<c.length:=by rw[jk]at e;exact e
 have b:j<c.length:=by rw[jk]at g;exact g
 rw[lT,lT]at l|-;have:=(I3 c k (λs h=>oW h) j b).1 i f (by rw[a i d,a j b];exact l);exact this;refine eA.2 λi j e g f m=> ?_
 have d:i<c.length:=by rw[jk]at e;exact e
 have b:j<c.length:=by rw[jk]at g;exact g
 rw[lT,lT]at m|-;have:=(I3 c k (λs h=>oW h) j b).2.2 i d (by omega) m;rw[a i d,a j b]at this;exact this
def FX(a):∀y∈dV a,0<=y.2:=λy c=>by obtain⟨i,b,rfl⟩:=bR.1 c;rw[lT];exact(zi a a.length i (by rw[jk]at b;exact b)).1
def SJ{ss}{n:Nat}(h:∀i,i<ss.length->(cm ss ss.length).getD i 0≠n):∀i,i<ss.length->(cm ss ss.length).getD i 0<n:=by
 intro i
 induction i using Nat.strongRecOn with
 |ind i f=>intro a;have b:=h i a;have c:=(zi ss ss.length i a).1;rw[wy ss ss.length i a]at b c|-;rcases ua (ss:=ss) (p:=cm ss ss.length) (s:=ss.getD i cW) i with e|⟨k,d,_,e⟩;omega;have:=f k d (by omega);omega
def Pm{a}{n:Nat}(h:(n:Int)∉cm a a.length):∀y∈dV a,y.2<n:=λy d=>by
 obtain⟨i,b,rfl⟩:=bR.1 d;rw[lT];refine SJ (λj c e=>h ?_) i (by rw[jk]at b;exact b);rw[<-e];have:j<(cm a a.length).length:=by rw[eZ];exact c
 rw[show(cm a a.length).getD j 0=(cm a a.length)[j]by simp[bu,this]];exact aF _
def SH{a}{n:Nat}(h:(n:Int)∈cm a a.length):n<a.length:=by obtain⟨i,b,e⟩:=bR.1 h;rw[eZ]at b;have:=(zi a a.length i b).2;rw[show(cm a a.length).getD i 0=(cm a a.length)[i]'(by rw[eZ];exact b)by simp[bu,eZ,b],e]at this;omega
def P2(a b){i}(c):gJ ((dV a).take (i+1)) b=if(cm a a.length).getD i 0=b then gJ ((dV a).take i) b++[a[i]]else gJ ((dV a).take i) b:=by
 have d:i<(dV a).length:=by rw[jk];exact c
 unfold gJ;rw[aV d,List.filter_append,en,lT];split;rename_i h;rw[List.filter_cons_of_pos (by simpa using h)];rfl;rename_i h;rw[List.filter_cons_of_neg (by simpa using h)];simp
def P1(a b):gJ ((dV a).take a.length) b=gJ (dV a) b:=by rw[<-jk a,cq]
def JD(L b):(gJ L b).length<=L.length:=by unfold gJ;rw[aY];exact iE _ _
section
open Go.RowKit
section
variable{G:Nat->Prop} {Z w:ar} {l:List cX} {p B:Nat} {A:Option Addr} {c:Nat}
def iY:ZS:=⟨[(0,ak)],dC (λ_=>ah) 0 (af (0,y4.b)),[]⟩
def NU:pG si y4=(iY,(0,0),0):=by rw[Q9 _ _ rfl];rfl
def Zc{a}(c:w.cell? ⟨a,0,ah⟩=af (.int .i64 1)):Calls ai 108 #[.pointer (af ⟨a,0,ah⟩)] w λe b=>e=.returned (.slice ah 0 0)/\w=b:=by go_enter func108,ntmps108;go_wp2_with fail;go_ret;exact⟨rfl,rfl⟩
def abm(hO:mv G Z B A [y4])(h:In G Z (dn p si::l) w):Calls ai 49 #[ptr p,.slice A 1 c] w λe z=>e=.returned (.tuple #[.int .i64 1,.int .i64 0])/\In G Z (dn p iY::l) z:=by
 have W:=ae h;have K:Hid (mv G Z B A [y4]):=hO;obtain⟨i0,P,Q,R,S⟩:=info_parts ia;clear h hO;go_enter func49,ntmps49;go_wp2_with fail;refine(E3 W.out jC.nil).mono ?_;rintro e w1 ⟨gv,rv,bv,rfl,a⟩;obtain⟨A1,X,rfl,_⟩:=aP a.rowAt;obtain⟨A2,Y,rfl,_⟩:=aP a.swap.rowAt;obtain⟨A3,c3,rfl,_⟩:=aP a.third.rowAt;have C:=ae (a.drop.drop.drop);have F:=ae (ZQ A1 A2 A3 X Y c3 C.out);clear a W;go_wp2_with fail;refine F.out.mono ?_;rintro e L ⟨y,rfl,d⟩;have f:=ae d;clear d C F;go_wp2_with fail;go_loopw [26,8] (λi sv z=>(i=.int .i64 0/\sv=.slice ah 0 0/\L=z)\/(i=.int .i64 1/\In G Z (dn y iY::dn p si::l) z)) (λi _ _=>1-(intOf i).toNat)
 case atStart=>exact .inl ⟨rfl,rfl,rfl⟩
 case round=>
  rcases hrel with⟨rfl,rfl,rfl⟩|⟨rfl,hI⟩
  ·obtain⟨b,o,rfl,Ki,T⟩:=(K.out f.out.bare).at_ (k:=0) (by simp);have T:row? L b o 16=af (ints y4.list):=by have:=T;rwa[Nat.zero_mul,Nat.add_zero]at this
   go_upto_region 8 with(fail)
   refine a6 (In G Z (aN L.heap.size 74 (ints y4.list)::dn y si::dn p si::l)) (f.out.struct 74 [0,0,0,0,0,0,0,0,0,0,0,0,0,0,0,0] y4.list rfl) ?_;generalize L.heap.size=J;intro U n;have q0:U.cell? ⟨J,0,ah⟩=af (.int .i64 1):=n.blk.cell 0;have q2:row? U J 0 16=af (ints y4.list):=n.blk.aL rfl;have g:=ae n.swap;clear n T f;go_wp2_with fail;refine(Zc q0).mono ?_;rintro e w4 ⟨rfl,rfl⟩;go_wp2_with fail;go_loopw [33] (λi z=>i=.int .i64 0/\U=z) (λ_ _=>0)
   case atStart=>exact⟨rfl,rfl⟩
   obtain⟨rfl,rfl⟩:=hrel;go_wp2_with fail;refine(TN g.out jC.nil y4 rfl).mono ?_;rintro e w7 ⟨rfl,q⟩;rw[NU]at q|-;simp only at q|-;have E:=ae q;clear q g q0 q2;go_upto_region 17 with(fail)
   refine a6 (In G Z (aN w7.heap.size 43 (ints [0,0])::dn y iY::aN J 74 (ints y4.list)::dn p si::l)) (E.out.struct 43 [0,0] [0,0] rfl) ?_;generalize w7.heap.size=hb;intro V r;have q4:row? V hb 0 2=af (ints [0,0]):=r.blk.aL rfl;have q5:V.cell? ⟨J,0,ah⟩=af (.int .i64 1):=r.third.blk.cell 0;have v:Hid (In G Z (e9 (.slice ah 0 0) []::aN hb 43 (ints [0,0])::dn y iY::aN J 74 (ints y4.list)::dn p si::l) V):=r.kz 43 2;have K:=ae v.out.rowAt;clear r E;go_wp2_with (at_builtin;go_loud (refine dv rfl _ _ 122 rfl 0 43 i0 _ 2 16 underlying122 P Q R S rfl (by decide) (.slice ah 0 0) 0 [] rfl K.out [.int .i64 0,.int .i64 0] rfl rfl (by simp[fW]) (by unfold maxLen;omega) (by omega) (bH _) ?_));intro v' w9 ho hg I;have u:=In.vC (cs:=[]) (x:=(0,0)) v.out ho hg I;have D:=ae u.drop.drop.swap.drop;clear ho hg I u v K q4 q5;go_wp2_with fail;go_roundw
   case rel=>exact .inr ⟨by go_num,D.out⟩
   simp[intOf]
  obtain⟨s,j,m2,H,O,N,a⟩:=hI.kV;have t:In G Z (dn p si::vt y s j::dR s iY.ls iY.f::ja j m2::l) wr:=a.reorder 4 [3,0,1,2] rfl (by simp);obtain⟨wp,fp,m,hm,hf,ha,d⟩:=t.kV;have X:row? wr y 0 2=af #[ptr s,ptr j]:=by rw[a.blk.row 0 2 (by simp)];rfl
  have Y:fits wr p 0 2=ak:=d.blk.fits 0 2 (by simp);have g:=ae (d.LD [ptr s,ptr j] rfl);have M:=ae H;clear hI a t d H O N hm hf ha f;go_wp2_with fail
  go_ret2
  exact⟨rfl,In.mh M.out g.out.swap.drop.swap.drop.swap.drop⟩
end
section
variable{G:Nat->Prop} {Z w:ar} {l:List cX} {E:cD} {size n c g k:Nat} {Y:List aB}
def SC(h:w.ownsRow 0 E size (.slice (af ⟨g,0,ah⟩) n c) n Y):∃a,w.heap[g]? =af (.cells a E (0,0))/\n<=c/\c<=maxLen/\a.size=c *size:=by obtain⟨q,i⟩:=h;rcases i with⟨e,_⟩|⟨p,d,a,e,_,m,j,k,l,_⟩;cases e;injection e with b o f;injection b with b;injection b with b;subst b;subst f;exact⟨a,m,j,k,l⟩
end
def oQ:(Tryz.prog.info? 3).map (λi=>(i.zero,i.size,i.bytes))=af (af (.int .i64 0),1,8):=by kernel_rfl
def Gf(A n c xs w B)(h:Reads w B 1 A n xs)(p:∀u∈xs,u.oneCell'=ak)(y:(A=ah/\n=0/\c=0)\/∃f,A=af f)(hn:n<=879609302195):Calls ai 62 #[.slice A n c] w λe i=>∃v,e=.returned v/\i.ownsRow w.heap.size 3 1 v n xs/\Below w.heap.size w i:=by
 have H:=ae h;have s:=ae p;clear h p;obtain⟨r,d,l,m,o⟩:=info_parts oQ;rcases y with⟨rfl,rfl,rfl⟩|⟨f,rfl⟩
 ·have E:Hid (xs=[]):=by have:=H.out.1;exact dw (by omega)
  clear hn;go_enter func62,ntmps62;go_wp2_with (at_builtin;go_loud (refine wpList_append_own_none rfl _ _ _ rfl w.heap.size 3 r 1 underlying32 d (.slice ah 0 0) 0 [] rfl (eC _ _ _ _) rfl ?_));go_wp2_with fail;go_ret;exact⟨_,rfl,by rw[E.out];exact eC _ _ _ _,Below.refl _ _⟩
 ·have a:Hid (∀j u,xs[j]? =af u->w.cell? (f.add j)=af u):=by unfold Hid;intro j u g;have G:=(bg.1 g).1;have D:=H.out.1;obtain⟨F,I,e,_,z⟩:=H.out.2 (by rcases fP n with h|h;rw[h]at D;omega;exact h);injection e with e;subst e;rw[Addr.add_lit];exact z j u g
  go_enter func62,ntmps62;go_wp2_with (at_builtin;go_loud (refine wpList_append_own_at _ rfl _ _ _ rfl w.heap.size 3 r _ 1 8 underlying32 d l m o rfl (by decide) (.slice ah 0 0) 0 [] rfl ?_ f n c xs rfl H.out.1 ?_ s.out (by unfold maxLen;omega) (by omega) (by simp) ?_))
  case refine_1=>exact eC _ _ _ _
  case refine_2=>exact λj u g=>a.out j u g
  intro J i b q _ _;have t:Hid (Below w.heap.size w i):=(Below.refl w.heap.size w).grown q (by simp) (λk C=>by simp[eB]at C);have x:=ae b;clear b q;go_wp2_with fail;go_ret;exact⟨_,rfl,x.out,t.out⟩
def Bi:(Tryz.prog.info? 50).map (λi=>(i.zero,i.size,i.bytes))=af (af (.agg (ints aE.list)),11,88):=by kernel_rfl
def wG(A n c xs w B)(h:Reads w B 11 A n xs)(p:∀u∈xs,u.oneCell'=ak)(y:(A=ah/\n=0/\c=0)\/∃f,A=af f)(hn:n<=879609302195):Calls ai 60 #[.slice A n c] w λe i=>∃v,e=.returned v/\i.ownsRow w.heap.size 50 11 v n xs/\Below w.heap.size w i:=by
 have H:=ae h;have s:=ae p;clear h p;obtain⟨r,d,l,m,o⟩:=info_parts Bi;rcases y with⟨rfl,rfl,rfl⟩|⟨f,rfl⟩
 ·have E:Hid (xs=[]):=by have:=H.out.1;exact dw (by omega)
  clear hn;go_enter func60,ntmps60;go_wp2_with (at_builtin;go_loud (refine wpList_append_own_none rfl _ _ _ rfl w.heap.size 50 r 11 underlying33 d (.slice ah 0 0) 0 [] rfl (eC _ _ _ _) rfl ?_));go_wp2_with fail;go_ret;exact⟨_,rfl,by rw[E.out];exact eC _ _ _ _,Below.refl _ _⟩
 ·have a:Hid (∀j u,xs[j]? =af u->w.cell? (f.add j)=af u):=by unfold Hid;intro j u g;have G:=(bg.1 g).1;have D:=H.out.1;obtain⟨F,I,e,_,z⟩:=H.out.2 (by rcases fP n with h|h;rw[h]at D;omega;exact h);injection e with e;subst e;rw[Addr.add_lit];exact z j u g
  go_enter func60,ntmps60;go_wp2_with (at_builtin;go_loud (refine wpList_append_own_at _ rfl _ _ _ rfl w.heap.size 50 r _ 11 88 underlying33 d l m o rfl (by decide) (.slice ah 0 0) 0 [] rfl ?_ f n c xs rfl H.out.1 ?_ s.out (by unfold maxLen;omega) (by omega) (by simp) ?_))
  case refine_1=>exact eC _ _ _ _
  case refine_2=>exact λj u g=>a.out j u g
  intro J i b q _ _;have t:Hid (Below w.heap.size w i):=(Below.refl w.heap.size w).grown q (by simp) (λk C=>by simp[eB]at C);have x:=ae b;clear b q;go_wp2_with fail;go_ret;exact⟨_,rfl,x.out,t.out⟩
def yV:(Tryz.prog.info? 45).map (λi=>(i.zero,i.size,i.bytes))=af (af (.agg (ints [0,0,0,0])),4,32):=by kernel_rfl
def uC(A n c xs w B)(h:Reads w B 4 A n xs)(p:∀u∈xs,u.oneCell'=ak)(y:(A=ah/\n=0/\c=0)\/∃f,A=af f)(hn:n<=879609302195):Calls ai 63 #[.slice A n c] w λe i=>∃v,e=.returned v/\i.ownsRow w.heap.size 45 4 v n xs/\Below w.heap.size w i:=by
 have H:=ae h;have s:=ae p;clear h p;obtain⟨r,d,l,m,o⟩:=info_parts yV;rcases y with⟨rfl,rfl,rfl⟩|⟨f,rfl⟩
 ·have E:Hid (xs=[]):=by have:=H.out.1;exact dw (by omega)
  clear hn;go_enter func63,ntmps63;go_wp2_with (at_builtin;go_loud (refine wpList_append_own_none rfl _ _ _ rfl w.heap.size 45 r 4 underlying34 d (.slice ah 0 0) 0 [] rfl (eC _ _ _ _) rfl ?_));go_wp2_with fail;go_ret;exact⟨_,rfl,by rw[E.out];exact eC _ _ _ _,Below.refl _ _⟩
 ·have a:Hid (∀j u,xs[j]? =af u->w.cell? (f.add j)=af u):=by unfold Hid;intro j u g;have G:=(bg.1 g).1;have D:=H.out.1;obtain⟨F,I,e,_,z⟩:=H.out.2 (by rcases fP n with h|h;rw[h]at D;omega;exact h);injection e with e;subst e;rw[Addr.add_lit];exact z j u g
  go_enter func63,ntmps63;go_wp2_with (at_builtin;go_loud (refine wpList_append_own_at _ rfl _ _ _ rfl w.heap.size 45 r _ 4 32 underlying34 d l m o rfl (by decide) (.slice ah 0 0) 0 [] rfl ?_ f n c xs rfl H.out.1 ?_ s.out (by unfold maxLen;omega) (by omega) (by simp) ?_))
  case refine_1=>exact eC _ _ _ _
  case refine_2=>exact λj u g=>a.out j u g
  intro J i b q _ _;have t:Hid (Below w.heap.size w i):=(Below.refl w.heap.size w).grown q (by simp) (λk C=>by simp[eB]at C);have x:=ae b;clear b q;go_wp2_with fail;go_ret;exact⟨_,rfl,x.out,t.out⟩
end
section
open Rel
open Go.Conc Go.ConcN
open Go.ConcR (Payload WgAt)
open Go.RowKit
def O9{P:Program}{c:h9}{Post:aB->ar->Prop}{f:eu}{Q:Exit->Act->ar->Prop}{a:Act}{w:ar}(l:c.Fits P){b:Array Oper}{i:Nat}{e:List Nat}{o:Oper}{v:aB}{w':ar}(h:ox P c Post f b e Q (a.put o.dst v) w')(m:b[i]? =af o:=by rfl)(p:aW o (yielded b a.tmps)=ak:=by rfl)(g:jh (c.at f) o=ak:=by kernel_rfl)(j:w'.tape=w.tape/\w'.drawn=w.drawn:=by exact⟨rfl,rfl⟩)(n:∀k d,(execOp a.eval o).run P (dG w k d)=.ok (.value v) (dG w' k d):=by intro k d;go_simp):ox P c Post f b (i::e) Q a w:=fA l m p g j n h
def aJ{P:Program}{c:h9}{Post:aB->ar->Prop}{f:eu}{Q:Exit->Act->ar->Prop}{a:Act}{w:ar}(k:c.Fits P){b:Array Oper}{i:Nat}{e:List Nat}{o:Oper}(v:aB)(h:ox P c Post f b e Q (a.put o.dst v) w)(l:b[i]? =af o:=by rfl)(n:aW o (yielded b a.tmps)=ak:=by rfl)(g:jh (c.at f) o=ak:=by kernel_rfl)(m:∀j d,(execOp a.eval o).run P (dG w j d)=.ok (.value v) (dG w j d):=by intro j d;go_simp):ox P c Post f b (i::e) Q a w:=fA k l n g ⟨rfl,rfl⟩ m h
def NZ(A:cX):Prop:=∀(w a:ar)(F:Nat->Prop),a.heap=w.heap->A.at_ w F->A.at_ a F
def sj(l:List cX):Prop:=∀A∈l,NZ A
def Sep.hp:∀{l}{w w'}{F},sj l->w'.heap=w.heap->Sep l w F->Sep l w' F|[],_,_,_,_,_,_=>trivial|A::l,w,w',F,hl,e,⟨F1,F2,h1,h2,h3,h4⟩=>⟨F1,F2,hl A (by simp) w w' F1 e h1,Sep.hp (λB a=>hl B (by simp[a])) e h2,h3,h4⟩
def In.dG{G l c w}(h:In G c l w)(e:sj l)(a:Tape)(d b):In G (Rel.dG c a d) l (Rel.dG w a b):=⟨Sep.hp (w:=w) (w':=Rel.dG w a b) e rfl h.sep,⟨h.only.os,rfl,h.only.output,h.only.size,h.only.block⟩⟩
def iR(G:Nat->Prop)(w0:ar)(l:List cX)(w:ar):Prop:=In G (Rel.dG w0 w.tape w0.drawn) l w
def iR.of{G l w0 w}{tp:Tape}{d}(h:In G (Rel.dG w0 tp d) l w):iR G w0 l w:=by have a:w.tape=tp:=h.only.tape;exact⟨h.sep,⟨h.only.os,rfl,h.only.output,h.only.size,h.only.block⟩⟩
def iR.at_{G l c w}(h:iR G c l w)(e:sj l)(a:Tape)(d b):In G (Rel.dG c a d) l (Rel.dG w a b):=⟨Sep.hp (w:=w) (w':=Rel.dG w a b) e rfl h.sep,⟨h.only.os,rfl,h.only.output,h.only.size,h.only.block⟩⟩
def iR.dG{G l b w}(h:iR G b l w)(c:sj l)(a:Tape)(d):iR G b l (Rel.dG w a d):=iR.of (h.at_ c a 0 d)
def sj.cons{A l}(h:NZ A)(b:sj l):sj (A::l):=λB a=>by rcases b8.1 a with rfl|a;exact h;exact b B a
def sj.nil:sj []:=λ_ h=>by simp at h
def aN.hp(g t a):NZ (aN g t a):=λw w' F e h=>⟨by have:=h.1;unfold di at this|-;rw[e];exact this,h.2⟩
def ve{B E size n v xs}{w a:ar}(e:a.heap=w.heap)(h:w.ownsRow B E size v n xs):a.ownsRow B E size v n xs:=by unfold World.ownsRow at h|-;rw[e];exact h
def dN.hp(E size v n xs):NZ (dN E size v n xs):=λw w' F e h=>⟨ve e h.1,h.2⟩
def Zz(s:Sys):List aB:=s.list.map (aD .i64)
abbrev l0(v:aB)(ss:List Sys):cX:=dN 54 7 v ss.length (ss.flatMap Zz)
abbrev lX(v:aB)(a:List bw):cX:=dN 48 9 v a.length (a.flatMap Ky)
def Tp(s):(Zz s).length=7:=by simp[Zz,Sys.list,Query.list]
def Lx{w E size c A}{m:Type}{f}(i:∀x,(f x).length=size){l:List m}(h:w.ownsRow 0 E size (.slice A l.length c) l.length (l.flatMap f)){k}(a):∃g,A=af ⟨g,0,ah⟩/\(er A l.length c).ownBlock=af g/\row? w g (k *size) size=af (f l[k]).toArray:=by obtain⟨A',c',e,_,_,j⟩:=aP h;injection e with b n d;subst b;subst d;obtain⟨g,rfl⟩:=j (by omega);exact⟨g,rfl,rfl,by rw[lA h a,lz i l k a]⟩
def In.own{G b w l E size n v xs}(h:In G b (dN E size v n xs::l) w):w.ownsRow 0 E size v n xs:=let⟨_,a⟩:=h.head;a.1
def lG(e:Nat)(f:List (List bw)):cX where
 at_ w F:=F e/\e<w.heap.size/\∀k a,f[k]? =af a->∃v,w.cell? ⟨e,k,ah⟩=af v/\w.ownsRow 0 48 9 v a.length (a.flatMap Ky)/\∀r,v.ownBlock=af r->F r
 frame h ho hd:=⟨h.1,bQ h.2.1 ho.size,λk a i=>by obtain⟨v,g,b,c⟩:=h.2.2 k a i;exact⟨v,(db (ho.block _ h.2.1 (hd _ h.1))).trans g,ho.own b λr d=>hd r (c r d),c⟩⟩
 cut h hd:=⟨hd _ h.2.1 h.1,h.2.1,λk a i=>by obtain⟨v,g,b,c⟩:=h.2.2 k a i;exact⟨v,g,b,λr d=>hd r (b.lt r d).2 (c r d)⟩⟩
def lG.hp(b a):NZ (lG b a):=λw w' F e h=>⟨h.1,by rw[e];exact h.2.1,λk c i=>by obtain⟨v,d,f,g⟩:=h.2.2 k c i;exact⟨v,(db (by rw[e])).trans d,ve e f,g⟩⟩
def In.part{G y w l f e}(h:In G y (lG f e::l) w){k i a}(r:e[k]? =af a)(o:∀b∈a,b.v.length=8)(d):∃g c,w.cell? ⟨f,k,ah⟩=af (.slice (af ⟨g,0,ah⟩) a.length c)/\row? w g (i *9) 9=af (ints a[i].list):=by
 obtain⟨z,p⟩:=h.head;obtain⟨v,n,j,_⟩:=p.2.2 k a r;obtain⟨A,c,rfl,_,_,q⟩:=aP j;obtain⟨g,rfl⟩:=q (by omega);refine⟨g,c,n,?_⟩;rw[lA j d];have s:∀(a:List bw)(i:Nat)(d:i<a.length),(∀b∈a,b.v.length=8)->((a.flatMap Ky).drop (i *9)).take 9=Ky a[i]:=by
  intro a
  induction a with
  |nil=>intro i d;simp at d|cons b a u=>
   intro i d h;have m:(Ky b).length=9:=by simp[Ky,bw.list,h b (by simp)]
   cases i with|zero=>rw[bJ,Nat.zero_mul,List.drop_zero,List.take_append_of_le_length (by omega),cA (by omega)];rfl|succ i=>rw[bJ,kh,je,bM,<-m,List.drop_append,List.drop_of_length_le (by omega),de,gV,m];exact u i (by simpa using d) λx t=>h x (by simp[t])
 rw[s a i d o];rfl
def iR.behind{G B w w' l d t D C old xs ss}(h:iR G B (aN d t D::l) w)(f:E4 (λb=>b=d) w w')(hp:∀p,p<ss.length->∃o:Nat->Prop,(∀r,o r->w.heap.size+4<=r/\r<w'.heap.size)/\jpB (cfg C old).sig d xs ss o p w'):iR G B (lG d (ss.map λs=>xs.map λr=>bU r.b s)::l) w':=by
 obtain⟨J,⟨F,u⟩,_,a⟩:=In.open_ h;have z:=f.size;have:=a (w':=w') (A':=lG d (ss.map λs=>xs.map λr=>bU r.b s)) ⟨.inl u,bQ F.lt z,λk L i=> ?_⟩ ⟨f.os,f.tape,f.output,z,λk i hn=>f.old k i λe=>hn (by rw[e];exact u)⟩;exact iR.of this;rw[dX]at i;obtain⟨s,n,rfl⟩:=aG.1 i;obtain⟨g,rfl⟩:=bg.1 n;obtain⟨o,y,v,I,V,q,M,E,m⟩:=hp k g;rw[show ss.getD k cW=ss[k]by simp[bu,g]]at m;refine⟨v,I,m,λr j=>.inr ?_⟩;obtain⟨A,c,rfl,_,_,N⟩:=aP m;cases A with
 |none=>cases j|some K=>
  have x:V r:=by
   cases E with
   |slice _ _ H=>injection j with j;exact j▸H.block.2
  exact⟨by have:=y r (q r x);omega,(y r (q r x)).2⟩
section
variable{c:h9} {Z:aB->ar->Prop} {Y:eu} {Q:Exit->Act->ar->Prop} {a:Act} {X:Array Oper} {i:Nat} {W:List Nat} {o:Oper} {w:ar} {U T S:Operand} {R:Array cD} {n nj:Nat} {jf:eu} {caps:Array aB} {J:N0} {NR:Nat->Prop}
def O8(hold:c.old<=w.heap.size)(O:X[i]? =af o)(hw:aW o (yielded X a.tmps)=ak)(y:o.op=.call {callee:=.value (.func 47),args:=#[U,T,S],argTypes:=R})(F:a.eval U=.int .i64 n)(G:a.eval T=.int .i64 nj)(H:a.eval S=.func (.func jf) #[] caps)(v:1<=n)(hn:n<=8)(x:nj<=1000)(K:J.Ok)(q:∀b,J.CB b->b<w.heap.size)(j:∀f,Rel.Sub f->(∀l,f l l->∃o,w.heap[l]? =af o/\jH c.sig f o o)->pW (c.at Y) f a.tmps a.tmps->(∀r,NR r->f r r)/\∀r,J.CB r->f r r)(t:∀r,NR r->¬J.CB r)(u:∀p,p<nj->J.J0 p w)(h:∀d m,d.Ok->d.P=ai->d.nj=nj->(∀p,d.jv p=.int .i64 p)->d.CB=J.CB->d.jl=J.jl->d.J0=J.J0->d.JP=J.JP->(∀r,NR r->d.mX r)->(∀r,r<w.heap.size->m.heap[r]? =w.heap[r]?)->Tryz.prog.globals.size<=m.heap.size->(∀r,d.mX r\/d.CB r\/r=d.Wg->r<m.heap.size)->zB d m jf caps)(g:∀e,E4 J.CB w e->(∀p,p<nj->∃o:Nat->Prop,(∀r,o r->w.heap.size+4<=r/\r<e.heap.size)/\J.JP o p e)->∃V:Nat->Prop,(∀r,V r->w.heap.size+4<=r/\r<e.heap.size)/\(∀r,J.CB r\/V r->∃o,e.heap[r]? =af o/\jH c.sig (only V) o o)/\ox ai c Z Y X W Q (a.put o.dst (.tuple #[])) e):ox ai c Z Y X (i::W) Q a w:=by
 intro b k B z A hp P;refine UN hold O hw A y F G H v hn x K q (λf s L N=>j f s L (by have:=N.1;rwa[show(b.at a (.inRegion X (i::W)::k)).fn=Y from z]at this)) t u h λe I M=> ?_
 obtain⟨V,C,D,E⟩:=g e I M;exact⟨V,C,D,E b k B z A hp P⟩
end
end
section
open Rel
open Go.RowKit
def gA(a:List bw):List Int:=a.flatMap bw.list
def p9(a)(h:∀z∈a,z.v.length=8):(gA a).length=a.length *9:=pH bw.list a 9 λx b=>by simp[bw.list,h x b]
def N'{a post b b'}(h:∀z∈a,z.v.length=8)(f:b.v.length=8)(c:b'.v.length=8):(gA (a++b::post)).take (a.length *9)++b'.list++(gA (a++b::post)).drop (a.length *9+b'.list.length)=gA (a++b'::post):=by
 have g:=p9 a h;have e:gA (a++b::post)=gA a++(b.list++gA post):=by simp[gA]
 have d:gA (a++b'::post)=gA a++(b'.list++gA post):=by simp[gA]
 have i:b.list.length=9:=by simp[bw.list,f]
 have j:b'.list.length=9:=by simp[bw.list,c]
 rw[e,d,<-g,List.take_append_of_le_length (ao _),cq,List.drop_append,List.drop_of_length_le (by omega),j,gV,de,List.drop_append,<-i,List.drop_length,Nat.sub_self,List.drop_zero,de,b9]
def Oa{a post b}(h:∀z∈a,z.v.length=8)(c:b.v.length=8){k}(f:k<8)(x):(gA (a++b::post)).set (a.length *9+1+k) x=gA (a++⟨b.k,b.v.set k x⟩::post):=by
 have d:=p9 a h;have e:∀b:bw,gA (a++b::post)=gA a++(b.list++gA post):=λb=>by simp[gA]
 rw[e,e,<-d,kg,List.set_append_right _ _ (by omega),gV,List.set_append_left _ _ (by simp[bw.list,c];omega),bM 1 k];rfl
def KA{a post b}(h:∀z∈a,z.v.length=8)(c:b.v.length=8){k}(f:k<8):(gA (a++b::post))[a.length *9+1+k]? =af (b.v.getD k 0):=by
 have d:=p9 a h;have e:gA (a++b::post)=gA a++(b.list++gA post):=by simp[gA]
 rw[e,<-d,kg,List.getElem?_append_right (by omega),gV,List.getElem?_append_left (by simp[bw.list,c];omega),bM 1 k];simp[bw.list,bu,aj (show k<b.v.length by omega)]
def He(n):cj (n *9) (0:Int)=gA (cj n mW):=by
 induction n with|zero=>rfl|succ n a=>rw[List.replicate_succ,Nat.succ_mul,bM,<-List.replicate_append_replicate,a];rfl
def xF(xs:List cQ)(ss:List Sys)(i:Nat):List bw:=(xs.take i).map (λr=>gX r.b ss)++cj (xs.length-i) mW
def preB(xs:List cQ)(ss:List Sys)(i:Nat):List bw:=(xs.take i).map (λr=>gX r.b ss)
def qB(xs:List cQ)(i:Nat):List bw:=cj (xs.length-i-1) mW
def Er{xs}(ss){i}(a:i<xs.length):xF xs ss i=preB xs ss i++mW::qB xs i:=by unfold xF preB qB;rw[<-List.replicate_succ];congr 2;omega
def Pc{xs}(ss){i}(a):preB xs ss i++gX xs[i].b ss::qB xs i=xF xs ss (i+1):=by unfold xF preB qB;rw[aV a,en,b9,Nat.sub_sub];rfl
def I4{xs ss i}(a:i<=xs.length):(preB xs ss i).length=i:=by simp[preB];omega
def LB{xs ss i}(h:∀r∈xs,r.b.v.length=8):∀z∈preB xs ss i,z.v.length=8:=by intro z b;obtain⟨r,a,rfl⟩:=aA.1 b;rw[oz,h r (nF a)]
def Nz(b:bw)(ss:List Sys)(k:Nat):bw:=⟨b.k,(ss.take k).foldl (FH b) b.v⟩
def Wl(b ss):Nz b ss ss.length=gX b ss:=by unfold Nz gX;rw[cq]
def abi{b}(a:b.v.length=8)(ss k):(Nz b ss k).v.length=8:=(oz b (ss.take k)).trans a
def T'(v:bw)(d:bw)(l:List Nat)(m:Nat):bw:=⟨v.k,pI d (l.take m) v.v⟩
def aa1{v}(a:v.v.length=8)(d l m):(T' v d l m).v.length=8:=(u9 d (l.take m) v.v).trans a
def Sj(v d){l m}(hm):T' v d l (m+1)=⟨(T' v d l m).k,(T' v d l m).v.set l[m] (d.v.getD l[m] 0)⟩:=by unfold T' pI;rw[aV hm,jc];rfl
def Vx(b ss){k}(a):T' (Nz b ss k) (bU b ss[k]) (kinds ss[k].write.toNat) (kinds ss[k].write.toNat).length=Nz b ss (k+1):=by unfold T' Nz;rw[cq,aV a,jc];rfl
def oS{G f w l A c xs}(h:In G f (bj (.slice A xs.length c) xs::l) w)(b:∀r∈xs,r.b.v.length=8){i}(a):∃g,A=af ⟨g,0,ah⟩/\row? w g (i *11) 11=af (ints xs[i].list):=by obtain⟨g,e,_,d⟩:=Lx lx h.own a;refine⟨g,e,d.trans ?_⟩;have:pK xs[i]=xs[i].list:=pq (b _ (aF a));unfold iK;rw[this];rfl
def NA{G d w l A c ss}(h:In G d (l0 (.slice A ss.length c) ss::l) w){i}(a):∃g,A=af ⟨g,0,ah⟩/\row? w g (i *7) 7=af (ints ss[i].list):=by obtain⟨g,e,_,b⟩:=Lx Tp h.own a;exact⟨g,e,b⟩
def ID(n:Nat)(hn:n<=1000)(w):(Instr.makeSlice 100 (.int .i64 n) (.int .i64 n)).run ai w=.ok (.slice (af ⟨w.heap.size,0,ah⟩) n n) (w.alloc (.cells (ints (gA (cj n mW))) 48)):=by
 obtain⟨i,d,g,f,a⟩:=info_parts vD;rw[run_make w _ _ i _ underlying100 d g .i64 .i64 n n (by omega) (by omega) (by rw[a];omega) (by omega),<-He];congr 2;congr 1;have b:∀k:Nat,(ints [0,0,0,0,0,0,0,0,0])[k % 9]! =.int .i64 0:=λk=>by rcases(by omega:k % 9=0\/k % 9=1\/k % 9=2\/k % 9=3\/k % 9=4\/k % 9=5\/k % 9=6\/k % 9=7\/k % 9=8)with e|e|e|e|e|e|e|e|e<;>rw[e]<;>rfl
 have hm:∀c:Nat,madeCells (ints [0,0,0,0,0,0,0,0,0]) c=ints (cj c 0):=λc=>by unfold madeCells;rw[show(λx:Nat=>(ints [0,0,0,0,0,0,0,0,0])[x % (ints [0,0,0,0,0,0,0,0,0]).size]!)=λ_=>aD .i64 0 from funext λj=>b j];refine Array.ext (by simp[aR]) λj h l=>by simp[ints]
 refine(hm _).trans ?_;rw[f];rfl
def Hk{w g o n j xs x}(h:row? w g o n=af (ints xs))(hn:xs.length=n)(b:xs[j]? =af x):w.cell? ⟨g,o+j,ah⟩=af (.int .i64 x):=by obtain⟨a,rfl⟩:=bg.1 b;have:=ud h j 1 (by omega);rw[List.drop_eq_getElem_cons a,List.take_succ_cons,List.take_zero]at this;exact oe this
def In.Yc{G f w l g a}(h:In G f (aN g 48 (ints (gA a))::l) w)(r:∀b∈a,b.v.length=8)(hn:a.length<=1000):In G f (lX (.slice (af ⟨g,0,ah⟩) a.length a.length) a::l) w:=by
 refine h.acw λF s=> ?_
 obtain⟨i,j,⟨m,n⟩,o,p,q⟩:=s;have d:=p9 a r;have e:a.flatMap Ky=(gA a).map (aD .i64):=by unfold gA;rw[List.map_flatMap];rfl
 refine⟨i,j,⟨⟨by rw[e,aY,d],.inr ⟨g,a.length,_,rfl,bH _,m,ao _,by unfold maxLen;omega,by rw[aR,d],?_⟩⟩,λk c=> ?_⟩,o,p,q⟩;rw[e,ib,cA (by rw[aY,d];exact ao _)];injection c with c;exact c▸n
noncomputable def xd:Code:=match f41.body with|some (.seq _ (.seq _ (.seq _ x)))=>x|_=>.skip
section
variable{G:Nat->Prop} {Z w:ar} {l:List cX} {Y X V U:Nat} {A T:Option Addr} {c S:Nat} {R:List cQ} {ss:List Sys} {hn:Int} {fv:aB}
def V1(hl:sj l)(H:∀r∈R,r.b.v.length=8)(f:R.length<=60)(hle:ss.length<=20)(RR:∀s∈ss,dH s=0)(h:In G Z (lG Y (ss.map λs=>R.map λr=>bU r.b s)::aN U 158 #[.slice (af ⟨Y,0,ah⟩) ss.length ss.length]::aN V 23 #[.slice T ss.length S]::aN X 33 #[.slice A R.length c]::bj (.slice A R.length c) R::l0 (.slice T ss.length S) ss::l) w):xd.wp ai (tL ai f41 λv Q=>iR G Z (lX v (R.map λr=>gX r.b ss)::bj (.slice A R.length c) R::l0 (.slice T ss.length S) ss::l) Q) ⟨#[.int .i64 hn,.slice A R.length c,.slice T ss.length S,undef,ptr X,ptr V,.slice ah 0 0,ptr U,undef,undef,undef,undef,undef,undef,undef,.slice T ss.length S,(.int .i64 ss.length),(.slice (af ⟨Y,0,ah⟩) ss.length ss.length),(.int .i64 hn),.slice T ss.length S,(.int .i64 ss.length),fv,(.tuple #[]),undef,undef,undef,undef,undef,undef,undef,undef,undef,undef,undef,undef,undef,undef,undef,undef,undef,undef,undef,undef,undef,undef,undef,undef,undef,undef,undef,undef,undef,undef,undef,undef,undef,undef,undef,undef,undef,undef,undef,undef,undef,undef,undef,undef,undef,undef,undef,undef,undef,undef],[]⟩ w:=by
 have Dy:=ae h;have c7:w.cell? ⟨U,0,ah⟩=af (.slice (af ⟨Y,0,ah⟩) ss.length ss.length):=h.swap.blk.cell 0;have c5:w.cell? ⟨V,0,ah⟩=af (.slice T ss.length S):=h.third.blk.cell 0;have c4:w.cell? ⟨X,0,ah⟩=af (.slice A R.length c):=h.fourth.blk.cell 0;clear h;have acQ:(R.length:Int)<=60:=by omega
 have acP:(ss.length:Int)<=20:=by omega
 have hmk:=λW=>ID R.length (by omega) W
 simp only[xd,f41];go_upto_region 4 with(fail)
 refine a6 (In G Z (aN w.heap.size 48 (ints (gA (xF R ss 0)))::lG Y (ss.map λs=>R.map λr=>bU r.b s)::aN U 158 #[.slice (af ⟨Y,0,ah⟩) ss.length ss.length]::aN V 23 #[.slice T ss.length S]::aN X 33 #[.slice A R.length c]::bj (.slice A R.length c) R::l0 (.slice T ss.length S) ss::l)) (by rw[show xF R ss 0=cj R.length mW by simp[xF]];exact Dy.out.alloc _ _) ?_;generalize w.heap.size=t;clear Dy c7 c5 c4;intro w1 a;have y6:=ae a;have c4:w1.cell? ⟨X,0,ah⟩=af (.slice A R.length c):=(a.drop.fourth).blk.cell 0;clear a;go_wp2_with fail;clear c4;go_loopw [28] (λi Q=>∃j:Nat,j<=R.length/\i=.int .i64 j/\In G Z (aN t 48 (ints (gA (xF R ss j)))::lG Y (ss.map λs=>R.map λr=>bU r.b s)::aN U 158 #[.slice (af ⟨Y,0,ah⟩) ss.length ss.length]::aN V 23 #[.slice T ss.length S]::aN X 33 #[.slice A R.length c]::bj (.slice A R.length c) R::l0 (.slice T ss.length S) ss::l) Q) (λi _=>R.length-(intOf i).toNat)
 case atStart=>exact⟨0,bH _,rfl,y6.out⟩
 case round=>
  clear y6;obtain⟨i,hi,rfl,a⟩:=hrel;by_cases p:i<R.length
  ·have hiI:(i:Int)<R.length:=by omega
   obtain⟨g,rfl,q1⟩:=oS (a.nth 5 (by simp)) H p;have RO:(R[i]).list.length=11:=by simp[cQ.list,bw.list,H _ (aF p)]
   have n:=ae a;clear a;go_upto_region 7 with(fail)
   have F:=n.out.struct 50 [0,0,0,0,0,0,0,0,0,0,0] (R[i]).list RO;refine a6 (In G Z (aN wr.heap.size 50 (ints (R[i]).list)::aN t 48 (ints (gA (xF R ss i)))::lG Y (ss.map λs=>R.map λr=>bU r.b s)::aN U 158 #[.slice (af ⟨Y,0,ah⟩) ss.length ss.length]::aN V 23 #[.slice T ss.length S]::aN X 33 #[.slice (af ⟨g,0,ah⟩) R.length c]::bj (.slice (af ⟨g,0,ah⟩) R.length c) R::l0 (.slice T ss.length S) ss::l)) ?_ ?_;exact F;clear F;generalize wr.heap.size=rb;clear n q1;intro w2 a;have C:=H _ (aF p);have q2:row? w2 rb 2 9=af (ints (R[i]).b.list):=by rw[a.blk.dy 2 9 (by omega)];show af (ints ((R[i]).b.list.take 9))=_;rw[cA (by simp[bw.list,C])]
   have K3:(gA (xF R ss i)).length=R.length *9:=by rw[Er ss p,p9];simp[preB,qB];omega;intro z y;rcases fM.1 y with y|y;exact LB H z y;rcases b8.1 y with rfl|y;rfl;rw[(List.mem_replicate.1 y).2];rfl
   have q3:fits w2 t (i *9) 9=ak:=a.swap.blk.fits (i *9) 9 (by rw[aR,K3];omega);have hb9:(R[i]).b.list.length=9:=by simp[bw.list,C]
   have u:=a.swap.put (i *9) (R[i]).b.list;have P:=N' (post:=qB R i) (b:=mW) (b':=(R[i]).b) (LB (ss:=ss) (i:=i) H) rfl C;rw[I4 (by omega)]at P;rw[Er ss p,P]at u;have HP:=ae u;clear a K3 u P;go_upto_region 8 with(fail)
   refine a6 (In G Z (aN t 48 (ints (gA (preB R ss i++Nz (R[i]).b ss 0::qB R i)))::aN rb 50 (ints (R[i]).list)::lG Y (ss.map λs=>R.map λr=>bU r.b s)::aN U 158 #[.slice (af ⟨Y,0,ah⟩) ss.length ss.length]::aN V 23 #[.slice T ss.length S]::aN X 33 #[.slice (af ⟨g,0,ah⟩) R.length c]::bj (.slice (af ⟨g,0,ah⟩) R.length c) R::l0 (.slice T ss.length S) ss::l)) ?_ ?_;exact HP.out;clear HP q2 q3;intro w3 a;have c5:w3.cell? ⟨V,0,ah⟩=af (.slice T ss.length S):=(a.nth 4 (by simp)).blk.cell 0;have n:=ae a;clear a;go_wp2_with fail;clear c5;have Il:Hid ((R[i]).b.v.length=8):=C;have HSH:Hid (preB R ss i++gX (R[i]).b ss::qB R i=xF R ss (i+1)):=Pc ss p;have HPI:Hid ((ss.map λs=>R.map λr=>bU r.b s)=ss.map λs=>R.map λr=>bU r.b s):=rfl;go_loopw [40] (λq Q=>∃k:Nat,k<=ss.length/\q=.int .i64 k/\In G Z (aN t 48 (ints (gA (preB R ss i++Nz (R[i]).b ss k::qB R i)))::aN rb 50 (ints (R[i]).list)::lG Y (ss.map λs=>R.map λr=>bU r.b s)::aN U 158 #[.slice (af ⟨Y,0,ah⟩) ss.length ss.length]::aN V 23 #[.slice T ss.length S]::aN X 33 #[.slice (af ⟨g,0,ah⟩) R.length c]::bj (.slice (af ⟨g,0,ah⟩) R.length c) R::l0 (.slice T ss.length S) ss::l) Q) (λq _=>ss.length-(intOf q).toNat)
   case atStart=>exact⟨0,bH _,rfl,n.out⟩
   clear n;obtain⟨k,hk,rfl,a⟩:=hrel;by_cases D:k<ss.length
   ·have hkI:(k:Int)<ss.length:=by omega
    obtain⟨gs,rfl,qs⟩:=NA (a.nth 7 (by simp)) D;have n:=ae a;clear a;go_upto_region 11 with(fail)
    have F:=n.out.struct 54 [0,0,0,0,0,0,0] (ss[k]).list rfl;refine a6 (In G Z (aN wr.heap.size 54 (ints (ss[k]).list)::aN t 48 (ints (gA (preB R ss i++Nz (R[i]).b ss k::qB R i)))::aN rb 50 (ints (R[i]).list)::lG Y (ss.map λs=>R.map λr=>bU r.b s)::aN U 158 #[.slice (af ⟨Y,0,ah⟩) ss.length ss.length]::aN V 23 #[.slice (af ⟨gs,0,ah⟩) ss.length S]::aN X 33 #[.slice (af ⟨g,0,ah⟩) R.length c]::bj (.slice (af ⟨g,0,ah⟩) R.length c) R::l0 (.slice (af ⟨gs,0,ah⟩) ss.length S) ss::l)) ?_ ?_;exact F;clear F qs n;generalize wr.heap.size=sb;intro w4 a;have k4:w4.cell? ⟨sb,4,ah⟩=af (.int .i64 (ss[k]).write):=a.blk.cell 4;have E:=(oW (RR _ (aF D))).2;have HM8:Hid (eK (m8 (ss[k]).write)=eK (ss[k]).write.toNat):=by unfold ck at E;simp only[ay,decide_eq_true_eq]at E;unfold Hid;rw[M8 E]
    have n:=ae a;clear a E;go_wp2_with fail;refine(sZ _ _).mono ?_;rintro e w5 ⟨v,rfl,ho,sQ⟩;rw[HM8.out]at ho;have B:=ae (In.tU n.out ho sQ);obtain⟨A2,c2,rfl,hr2⟩:=B.out.lJ;have f:(eK (ss[k]).write.toNat).length=(kinds (ss[k]).write.toNat).length:=by simp[eK]
    rw[f]at hr2 B|-;have hn8:=oh (ss[k]).write.toNat;clear ho sQ hr2 n k4 f HM8;have GV:=ae B.out.third;have aby:Hid (T' (Nz (R[i]).b ss k) (bU (R[i]).b ss[k]) (kinds ss[k].write.toNat) (kinds ss[k].write.toNat).length=Nz (R[i]).b ss (k+1)):=Vx _ ss D;clear B;go_wp2_with fail;go_loopw [49] (λq Q=>∃m:Nat,m<=(kinds (ss[k]).write.toNat).length/\q=.int .i64 m/\In G Z (aN t 48 (ints (gA (preB R ss i++T' (Nz (R[i]).b ss k) (bU (R[i]).b ss[k]) (kinds ss[k].write.toNat) m::qB R i)))::ei (.slice A2 (kinds (ss[k]).write.toNat).length c2) (eK (ss[k]).write.toNat)::aN sb 54 (ints (ss[k]).list)::aN rb 50 (ints (R[i]).list)::lG Y (ss.map λs=>R.map λr=>bU r.b s)::aN U 158 #[.slice (af ⟨Y,0,ah⟩) ss.length ss.length]::aN V 23 #[.slice (af ⟨gs,0,ah⟩) ss.length S]::aN X 33 #[.slice (af ⟨g,0,ah⟩) R.length c]::bj (.slice (af ⟨g,0,ah⟩) R.length c) R::l0 (.slice (af ⟨gs,0,ah⟩) ss.length S) ss::l) Q) (λq _=>(kinds (ss[k]).write.toNat).length-(intOf q).toNat)
    case atStart=>exact⟨0,bH _,rfl,GV.out⟩
    clear GV;obtain⟨m,hm,rfl,a⟩:=hrel;by_cases K:m<(kinds (ss[k]).write.toNat).length
    ·have hmI:(m:Int)<(kinds (ss[k]).write.toNat).length:=by omega
     have f:(eK (ss[k]).write.toNat).length=(kinds (ss[k]).write.toNat).length:=by simp[eK]
     obtain⟨A3,c3,e0,O⟩:=a.swap.lJ;rw[f]at e0 O;injection e0 with e1 e2 e3;subst e1;subst e3;obtain⟨bl,o,q,rfl,hc,M2,W9,T2,YX⟩:=sW O K;have hq:(kinds (ss[k]).write.toNat)[m]=q:=by rw[M2.out];simp[bu,K]
     have HS:=ae (Sj (Nz (R[i]).b ss k) (bU (R[i]).b ss[k]) K);rw[hq]at HS;have Fx:=a.nth 5 (by simp);have c7:wr.cell? ⟨U,0,ah⟩=af (.slice (af ⟨Y,0,ah⟩) ss.length ss.length):=Fx.blk.cell 0;have hpk:(ss.map λs=>R.map λr=>bU r.b s)[k]? =af (R.map λr=>bU r.b ss[k]):=by rw[dX,aj D];rfl
     obtain⟨gp,cp,cP,qP⟩:=In.part (a.nth 4 (by simp)) hpk (λz y=>by obtain⟨r,O,rfl⟩:=aA.1 y;rw[eX];exact H r O) (i:=i) (by simpa using p);rw[aY]at cP;rw[List.getElem_map]at qP;have hd8:(bU (R[i]).b ss[k]).v.length=8:=by rw[eX];exact Il.out
     have cV:wr.cell? ⟨gp,i *9+1+q,ah⟩=af (.int .i64 ((bU (R[i]).b ss[k]).v.getD q 0)):=by rw[kg];refine Hk qP (by simp[bw.list,hd8]) ?_;rw[bM 1 q];simp[bw.list,bu,aj (show q<(bU (R[i]).b ss[k]).v.length by omega)]
     have M:=LB (ss:=ss) (i:=i) H;have L:=aa1 (abi Il.out ss k) (bU (R[i]).b ss[k]) (kinds ss[k].write.toNat) m;have N:(preB R ss i).length=i:=I4 (by omega);have J:=KA (post:=qB R i) M L T2;rw[N]at J;have cO:wr.cell? ⟨t,i *9+1+q,ah⟩=af (.int .i64 ((T' (Nz (R[i]).b ss k) (bU (R[i]).b ss[k]) (kinds ss[k].write.toNat) m).v.getD q 0)):=by rw[a.blk.cell,jT,J];rfl
     have cF:wr.frozen? ⟨t,i *9+1+q,ah⟩=aq:=a.blk.frozen _;have x:=a.set (i *9+1+q) (.int .i64 ((bU (R[i]).b ss[k]).v.getD q 0));have I:=Oa (post:=qB R i) M L T2 ((bU (R[i]).b ss[k]).v.getD q 0);rw[N]at I;rw[ints_set,I,<-HS.out]at x;have abD:=ae x;have hqI:(q:Int)<8:=by omega
     clear a Fx x I J L M N hd8 qP hpk hq M2 W9 YX O HS e2 f;generalize (bU (R[i]).b ss[k]).v.getD q 0=nv at *;go_upto_region 14 with(fail)
     go_still_tail 16,(by kernel_rfl)
     repeat still_step
     change wpList _ _ _ _ _ wr.drew;have HD:Hid (In G Z (aN t 48 _::_) (wr.setCell ⟨t,i *9+1+q,ah⟩ (.int .i64 nv)).drew):=abD.out.drew;go_wp2_with fail;refine⟨⟨m+1,by omega,by go_num,HD.out⟩,?_⟩;simp[intOf];omega
    have:m=(kinds (ss[k]).write.toNat).length:=by omega
    subst this;rw[aby.out]at a;have n:=ae (a.swap.drop.swap.drop);clear a;go_wp2_with fail;refine⟨?_,?mk⟩
    (repeat apply Exists.intro)
    refine⟨?rk,rfl⟩
    case rk=>exact⟨k+1,by omega,by go_num,n.out⟩
    simp[intOf];omega
   have:k=ss.length:=by omega
   subst this;rw[Wl,HSH.out]at a;have n:=ae a.swap.drop;clear a;go_wp2_with fail;go_roundw
   case rel=>exact⟨i+1,by omega,by go_num,n.out⟩
   simp[intOf];omega
  have:i=R.length:=by omega
  subst this;have hob:xF R ss R.length=R.map λr=>gX r.b ss:=by simp[xF]
  rw[hob]at a;have F:=(In.Yc a (by intro z y;obtain⟨r,O,rfl⟩:=aA.1 y;rw[oz];exact H r O) (by rw[aY];omega)).reorder 5 [1,2,3,4,0] rfl (by simp);rw[aY]at F;have n:=ae (F.drop.drop.drop.drop);clear a hob F;go_wp2_with fail;refine⟨.inr rfl,rfl,_,λtp d=>results_tmp rfl _ _ _,λtp d=> ?_⟩;exact iR.of (n.out.dG (sj.cons (dN.hp _ _ _ _ _) (sj.cons (dN.hp _ _ _ _ _) (sj.cons (dN.hp _ _ _ _ _) hl))) tp 0 d)
end
end
section
open Go.RowKit
def sk(a:List cQ)(x:Hd):Int:=match a.findIdx? (λr=>decide (r.h=x))with|some i=>(i:Int)|none=> -1
def Y4{a:List cQ}{x:Hd}{k:Nat}(d)(h:a[k].h=x)(c:∀j,(b:j<a.length)->j<k->a[j].h≠x):sk a x=k:=by
 unfold sk;have:a.findIdx? (λr=>decide (r.h=x))=af k:=by rw[List.findIdx?_eq_some_iff_getElem];exact⟨d,by simpa using h,λj b=>by simpa using c j (by omega) b⟩
 rw[this]
def RV{a:List cQ}{x:Hd}(c:∀j,(b:j<a.length)->a[j].h≠x):sk a x= -1:=by
 unfold sk;have:a.findIdx? (λr=>decide (r.h=x))=ah:=by rw[List.findIdx?_eq_none_iff];intro r d;obtain⟨j,b,rfl⟩:=bR.1 d;simpa using c j b
 rw[this]
section
variable{G:Nat->Prop} {Z w:ar} {l:List cX} {p:Nat} {g Y b:aB} {A:Option Addr} {c:Nat} {X:List cQ}
abbrev cE(p:Nat)(g Y r b:aB):cX:=aN p 72 #[g,Y,r,b]
def LQ(h:In G Z (cE p g Y (.slice A X.length c) b::bj (.slice A X.length c) X::l) w)(S:∀r∈X,r.b.v.length=8)(x):Calls ai 53 #[ptr p,iU x] w λe O=>e=.returned (.int .i64 (sk X x))/\In G Z (cE p g Y (.slice A X.length c) b::bj (.slice A X.length c) X::l) O:=by
 have P:=ae h;have Q:=ae S;have hl:X.length<=maxLen:=by obtain⟨_,_,e,h1,h2,_⟩:=aP h.swap.rowAt;injection e with _ e1 e2;omega
 have RP:(X.length:Int)<=9223372036854775807:=by unfold maxLen at hl;omega
 obtain⟨a,d⟩:=x;have H:Hid (∀(u v:Int) W,(binOp .eql 43 (.agg (ints [u,v])) (.agg (ints [a,d]))).run ai W=.ok (.bool (decide ((u,v)=(a,d)))) W):=λu v W=>by rw[mJ [u,v] [a,d] rfl rfl];simp
 clear h S;show Calls ai 53 #[ptr p,.agg (ints [a,d])] w _;go_enter func53,ntmps53;go_upto_region 1 with(fail)
 refine a6 (In G Z (aN w.heap.size 43 (ints [a,d])::cE p g Y (.slice A X.length c) b::bj (.slice A X.length c) X::l)) (P.out.alloc 43 (ints [a,d])) ?_;generalize w.heap.size=N;intro w1 q;have U:w1.cell? ⟨p,2,ah⟩=af (.slice A X.length c):=q.swap.blk.cell 2;have C:=ae q;clear q P;go_wp2_with fail;clear U;go_loopw [12] (λi O=>∃k:Nat,k<=X.length/\i=.int .i64 k/\(∀j,(o:j<X.length)->j<k->X[j].h≠(a,d))/\In G Z (aN N 43 (ints [a,d])::cE p g Y (.slice A X.length c) b::bj (.slice A X.length c) X::l) O) (λi _=>X.length-(intOf i).toNat)
 case atStart=>exact⟨0,by omega,rfl,λj o h=>by omega,C.out⟩
 case round=>
  clear C;obtain⟨k,hk,rfl,n,E⟩:=hrel;have f:=ae n;clear n;by_cases s:k<X.length
  ·have V:(k:Int)<X.length:=by omega
   obtain⟨R,rfl,q1⟩:=oS E.third Q.out s;have J:(X[k]).list.length=11:=by simp[cQ.list,bw.list,Q.out _ (aF s)]
   have L:Hid (X[k].h=(a,d)->sk X (a,d)=k):=λh=>Y4 s h λj o I=>f.out j o I
   have M:Hid (X[k].h≠(a,d)->∀j,(o:j<X.length)->j<k+1->X[j].h≠(a,d)):=λh j o I=>by by_cases e:j=k;subst e;exact h;exact f.out j o (by omega)
   have K:=ae E;clear E;generalize X[k]=r at *;obtain⟨⟨t,y⟩,rb⟩:=r;go_upto_region 4 with(fail)
   refine a6 (In G Z (aN wr.heap.size 50 (ints (cQ.list ⟨(t,y),rb⟩))::aN N 43 (ints [a,d])::cE p g Y (.slice (af ⟨R,0,ah⟩) X.length c) b::bj (.slice (af ⟨R,0,ah⟩) X.length c) X::l)) (K.out.struct 50 [0,0,0,0,0,0,0,0,0,0,0] _ J) ?_;generalize wr.heap.size=yb;intro T m;have q2:row? T yb 0 2=af (ints [t,y]):=by rw[m.blk.dy 0 2 (by omega)];rfl
   have q3:row? T N 0 2=af (ints [a,d]):=m.swap.blk.aL rfl;have D:=ae m.drop;clear m q1 K;by_cases z:(t,y)=(a,d)
   ·have F:(decide ((t,y)=(a,d)))=ak:=by simpa using z
    have hn:=λW=>H.out t y W
    rw[F]at hn;have B:=ae (L.out z);clear z F;go_wp2_with fail;go_ret;exact⟨cZ B.out.symm,D.out.drop⟩
   have F:(decide ((t,y)=(a,d)))=aq:=by simpa using z
   have hn:=λW=>H.out t y W
   rw[F]at hn;have B:=ae (M.out z);clear z F;go_wp2_with fail;go_roundw
   case rel=>exact⟨k+1,by omega,by go_num,B.out,D.out⟩
   simp[intOf];omega
  have B:Hid (sk X (a,d)= -1):=RV λj o=>f.out j o (by omega)
  have K:=ae E;clear E;go_wp2_with fail;go_ret;exact⟨cZ B.out.symm,K.out.drop⟩
end
end
section
open Rel
open Go.Conc Go.ConcN
open Go.ConcR (Payload WgAt)
open Go.RowKit
def Lk(n:Nat)(hn:n<=1000)(w):(Instr.makeSlice 158 (.int .i64 n) (.int .i64 n)).run ai w=.ok (.slice (af ⟨w.heap.size,0,ah⟩) n n) (w.alloc (.cells (cj n (er ah 0 0)).toArray 100)):=by
 have b:∃i,Tryz.prog.info? 100=af i/\i.zero=af (.slice ah 0 0)/\i.size=1/\i.bytes=24:=⟨_,rfl,rfl,rfl,rfl⟩;obtain⟨i,b,d,c,a⟩:=b;rw[run_make w _ _ i _ underlying158 b d .i64 .i64 n n (by omega) (by omega) (by rw[a];omega) (by omega)];congr 2;congr 1;rw[c,Nat.mul_one];refine Array.ext (by simp[madeCells]) λj e f=> ?_
 simp[madeCells,Value.cells,Nat.mod_one]
def Lz{O m old l N xs ss d}(j:ft d l=af (100,ss.length,0,0))(hp:∀p,p<ss.length->∃o:Nat->Prop,(∀r,o r->N<=r/\r<d.heap.size)/\jpB (cfg m old).sig l xs ss o p d):∃V:Nat->Prop,(∀r,V r->N<=r/\r<d.heap.size)/\∀r,r=l\/V r->∃o,d.heap[r]? =af o/\jH (lq O).sig (only V) o o:=by
 have q:∀p,∃x:aB×(Nat->Prop),p<ss.length->(∀r,x.2 r->N<=r/\r<d.heap.size)/\(∀r,x.2 r->∃k,d.heap[r]? =af k/\jH (cfg m old).sig (only x.2) k k)/\d.cell? ⟨l,p,ah⟩=af x.1/\bz (cfg m old).sig (only x.2) x.1 x.1:=by intro p;by_cases h:p<ss.length;obtain⟨o,G,v,c,V,C,D,E,_⟩:=hp p h;exact⟨(v,V),λ_=>⟨λr g=>G r (C r g),D,c,E⟩⟩;exact⟨(undef,λ_=>False),λe=>absurd e h⟩
 obtain⟨f,s⟩:=Classical.axiomOfChoice q;have ext:∀p,p<ss.length->Ext ai (only (f p).2) (only λr=>∃p,p<ss.length/\(f p).2 r):=λp e=>⟨λa b h=>⟨h.1,p,e,h.2⟩,zh⟩
 refine⟨λr=>∃p,p<ss.length/\(f p).2 r,λr ⟨p,h,g⟩=>(s p h).1 r g,λr g=> ?_⟩;rcases g with rfl|⟨p,h,g⟩;unfold ft at j;cases e:d.heap[r]? with
 |none=>rw[e]at j;cases j|some o=>
  rw[e]at j;cases o with
  |cells H t B=>
   refine⟨_,rfl,.cells t B ⟨rfl,λi a b n u=> ?_⟩⟩;rw[n]at u;cases u;have w:i<ss.length:=by have F:=(aC.1 n).1;simp at j;omega
   obtain⟨_,_,c,y⟩:=s i w;unfold da at c;rw[e]at c;simp only[Option.isSome_none,dg,if_false]at c;rw[n]at c;injection c with c;rw[<-c]at y;exact bz.sig (S:=(cfg m old).sig) (S':=(lq O).sig) (λ_ h=>h) (y.mono (ext i w))
  |_=>cases j
 obtain⟨k,z,A⟩:=(s p h).2.1 r g;exact⟨k,z,Ze (A.mono (ext p h))⟩
def xg{S d w g t v}(c:di w g t #[v])(a:∃o,w.heap[g]? =af o/\jH S d o o):bz S d v v:=by
 obtain⟨o,b,e⟩:=a;unfold di at c;rw[c]at b;cases b;cases e with|cells _ _ f=>exact f.at_ 0 v v rfl rfl
def iR.same{G l a w b d}(h:iR G (Rel.dG a b d) l w):iR G a l w:=by unfold iR at h;rw[Rel.Wr]at h;exact iR.of h
def vL{P F R b}{x:Code}{a w}(h:x.wp P (tL P F R) a w)(i:∀v w,R v w->b v w):x.wp P (tL P F b) a w:=Code.wp_mono (λ_ _ _ ⟨c,e,v,f,g⟩=>⟨c,e,v,f,λj d=>i _ _ (g j d)⟩) h
section
variable{O:vw} {Z:aB->ar->Prop} {G:Nat->Prop} {Y w:ar} {l:List cX} {A X:Option Addr} {c U:Nat} {xs:List cQ} {ss:List Sys} {hn:Nat}
def Yb(hold:O.n<=w.heap.size)(hl:sj l)(h8:∀r∈xs,bx r.b=0/\r.b.v.length=8)(D:xs.length<=60)(T:ss.length<=20)(RR:∀s∈ss,dH s=0)(Xb:1<=hn)(hn8:hn<=8)(h:iR G Y (bj (.slice A xs.length c) xs::l0 (.slice X ss.length U) ss::l) w):sr ai (lq O) Z 41 #[.int .i64 hn,.slice A xs.length c,.slice X ss.length U] w λv w'=>iR G Y (lX v (xs.map λr=>gX r.b ss)::bj (.slice A xs.length c) xs::l0 (.slice X ss.length U) ss::l) w':=by
 have aaP:(ss.length:Int)<=20:=by omega
 refine⟨_,_,func41,rfl,rfl,rfl,?_⟩;have o:=mH O;have hnt:f41.ntmps=73:=rfl;simp only[hnt,ez,eD,de,aU,ax,aM,Nat.reduceAdd,Nat.reduceSub,ed,eh,e8];have acD:f41.body=af (match f41.body with|some x=>x|none=>.skip):=rfl;simp only[f41];refine cu (bG ?_);refine fA o (w':=w.alloc (.cells #[.slice A xs.length c] 33)) (v:=ptr w.heap.size) rfl rfl (by kernel_rfl) ⟨rfl,rfl⟩ (λa d=>by go_simp;exact⟨rfl,rfl⟩) ?_;walk_nrm;refine fA o (w':=(w.alloc (.cells #[.slice A xs.length c] 33)).alloc (.cells #[.slice X ss.length U] 23)) (v:=ptr (w.heap.size+1)) rfl rfl (by kernel_rfl) ⟨rfl,rfl⟩ (λa d=>by go_simp;exact⟨by simp[Rel.dG],rfl⟩) ?_;walk_nrm;refine O9 o (w':=(w.alloc (.cells #[.slice A xs.length c] 33)).alloc (.cells #[.slice X ss.length U] 23)) (v:=.slice ah 0 0) ?_;walk_nrm;refine dx ?_;have F:iR G Y (aN (w.heap.size+1) 23 #[.slice X ss.length U]::aN w.heap.size 33 #[.slice A xs.length c]::bj (.slice A xs.length c) xs::l0 (.slice X ss.length U) ss::l) ((w.alloc (.cells #[.slice A xs.length c] 33)).alloc (.cells #[.slice X ss.length U] 23)):=by have h1:iR G Y (aN w.heap.size 33 #[.slice A xs.length c]::bj (.slice A xs.length c) xs::l0 (.slice X ss.length U) ss::l) (w.alloc (.cells #[.slice A xs.length c] 33)):=In.alloc h _ _;have P:=In.alloc (show In G _ _ (w.alloc (.cells #[.slice A xs.length c] 33))from h1) 23 #[.slice X ss.length U];rw[bZ]at P;exact P
 have u:((w.alloc (.cells #[.slice A xs.length c] 33)).alloc (.cells #[.slice X ss.length U] 23)).heap.size=w.heap.size+2:=by simp
 have S:∀b,A=af b->b.block<w.heap.size:=λb e=>FV (In.own h) b.block (by rw[e];rfl)
 have C:∀b,X=af b->b.block<w.heap.size:=λb e=>FV (In.own (In.drop h)) b.block (by rw[e];rfl)
 clear h;generalize (w.alloc (.cells #[.slice A xs.length c] 33)).alloc (.cells #[.slice X ss.length U] 23)=y at *;have Q:∀a d,(Rel.dG y a d).cell? ⟨w.heap.size+1,0,ah⟩=af (.slice X ss.length U):=λa d=>F.blk.cell 0
 have hmk:=λW=>Lk ss.length (by omega) W
 show eU _ _ _ _ _ _ _ y;refine cu (bG ?_);refine fA o (w':=y) (v:=.slice X ss.length U) rfl rfl (by kernel_rfl) ⟨rfl,rfl⟩ (λa d=>by have hc:=Q a d;go_simp) ?_;walk_nrm;refine aJ o (.int .i64 ss.length) ?_;walk_nrm;refine fA o (w':=y.alloc (.cells (cj ss.length (er ah 0 0)).toArray 100)) (v:=.slice (af ⟨w.heap.size+2,0,ah⟩) ss.length ss.length) rfl rfl (by kernel_rfl) ⟨rfl,rfl⟩ (λa d=>by have hm:=hmk (Rel.dG y a d);go_simp;exact⟨u,rfl⟩) ?_;walk_nrm;refine fA o (w':=(y.alloc (.cells (cj ss.length (er ah 0 0)).toArray 100)).alloc (.cells #[.slice ah 0 0] 158)) (v:=ptr (w.heap.size+3)) rfl rfl (by kernel_rfl) ⟨rfl,rfl⟩ (λa d=>by go_simp;exact⟨by simp[Rel.dG,u],rfl⟩) ?_;walk_nrm;have B:iR G Y (aN (w.heap.size+3) 158 #[.slice ah 0 0]::aN (w.heap.size+2) 100 (cj ss.length (er ah 0 0)).toArray::aN (w.heap.size+1) 23 #[.slice X ss.length U]::aN w.heap.size 33 #[.slice A xs.length c]::bj (.slice A xs.length c) xs::l0 (.slice X ss.length U) ss::l) ((y.alloc (.cells (cj ss.length (er ah 0 0)).toArray 100)).alloc (.cells #[.slice ah 0 0] 158)):=by have h1:=In.alloc (show In G _ _ y from F) 100 (cj ss.length (er ah 0 0)).toArray;have P:=In.alloc h1 158 #[.slice ah 0 0];rw[bZ,u]at P;exact P
 have hs4:((y.alloc (.cells (cj ss.length (er ah 0 0)).toArray 100)).alloc (.cells #[.slice ah 0 0] 158)).heap.size=w.heap.size+4:=by simp[u]
 clear F Q hmk;generalize (y.alloc (.cells (cj ss.length (er ah 0 0)).toArray 100)).alloc (.cells #[.slice ah 0 0] 158)=E at *;clear u;clear y;have k1:∀a d,(Rel.dG E a d).cell? ⟨w.heap.size+3,0,ah⟩=af (.slice ah 0 0):=λa d=>B.blk.cell 0
 have k2:∀a d,(Rel.dG E a d).frozen? ⟨w.heap.size+3,0,ah⟩=aq:=λa d=>B.blk.frozen 0
 refine xD o (w':=E.setCell ⟨w.heap.size+3,0,ah⟩ (.slice (af ⟨w.heap.size+2,0,ah⟩) ss.length ss.length)) rfl rfl (by kernel_rfl) (λa d=>by have h1:=k1 a d;have P:=k2 a d;go_simp;rfl) ?_;walk_nrm;refine dx ?_;have k:iR G Y (aN (w.heap.size+2) 100 (cj ss.length (er ah 0 0)).toArray::aN (w.heap.size+3) 158 #[.slice (af ⟨w.heap.size+2,0,ah⟩) ss.length ss.length]::aN (w.heap.size+1) 23 #[.slice X ss.length U]::aN w.heap.size 33 #[.slice A xs.length c]::bj (.slice A xs.length c) xs::l0 (.slice X ss.length U) ss::l) (E.setCell ⟨w.heap.size+3,0,ah⟩ (.slice (af ⟨w.heap.size+2,0,ah⟩) ss.length ss.length)):=In.swap (In.set (show In G _ _ E from B) 0 (.slice (af ⟨w.heap.size+2,0,ah⟩) ss.length ss.length))
 have hs5:(E.setCell ⟨w.heap.size+3,0,ah⟩ (.slice (af ⟨w.heap.size+2,0,ah⟩) ss.length ss.length)).heap.size=w.heap.size+4:=by simp[hs4]
 clear B k1 k2;generalize E.setCell ⟨w.heap.size+3,0,ah⟩ (.slice (af ⟨w.heap.size+2,0,ah⟩) ss.length ss.length)=z at *;clear hs4;clear E;have hB:di z (w.heap.size+2) 100 (cj ss.length (er ah 0 0)).toArray:=k.blk;have b7:di z (w.heap.size+3) 158 #[.slice (af ⟨w.heap.size+2,0,ah⟩) ss.length ss.length]:=(In.swap k).blk;have b5:di z (w.heap.size+1) 23 #[.slice X ss.length U]:=(In.third k).blk;have b4:di z w.heap.size 33 #[.slice A xs.length c]:=(In.fourth k).blk;have Q:∀a d,(Rel.dG z a d).cell? ⟨w.heap.size+1,0,ah⟩=af (.slice X ss.length U):=λa d=>b5.cell 0
 show eU _ _ _ _ _ _ _ z;refine cu (bG ?_);refine aJ o (.int .i64 hn) ?_;walk_nrm;refine fA o (w':=z) (v:=.slice X ss.length U) rfl rfl (by kernel_rfl) ⟨rfl,rfl⟩ (λa d=>by have hc:=Q a d;go_simp) ?_;walk_nrm;refine aJ o (.int .i64 ss.length) ?_;walk_nrm;refine SA (v:=.func (.func 92) #[] #[ptr w.heap.size,ptr (w.heap.size+3),ptr (w.heap.size+1)]) rfl rfl (λa d=>by go_simp) (λa d e he=>by simp[go_sem, *]at he) (.inr ⟨21,rfl,by show 21∈WN 41;decide,trivial⟩) ?_;walk_nrm;have H:ft z (w.heap.size+2)=af (100,ss.length,0,0):=by unfold ft;unfold di at hB;rw[hB];simp
 refine O8 (J:=p8 (cfg (λ_=>[]) 0).sig (w.heap.size+2) xs ss) (NR:=λr=>r=w.heap.size\/r=w.heap.size+3\/r=w.heap.size+1\/(∃b,A=af b/\r=b.block)\/∃b,X=af b/\r=b.block) (n:=hn) (nj:=ss.length) (jf:=92) (caps:=#[ptr w.heap.size,ptr (w.heap.size+3),ptr (w.heap.size+1)]) (by show O.n<=_;omega) rfl rfl rfl rfl rfl rfl Xb hn8 (by omega) (E' _ _ _ _) (λr m=>by have:r=w.heap.size+2:=m;omega) (λπ hs t ht=> ?_) (λr m hc=> ?_) (λp hp=> ?_) (λφ wp O' hP hnj hjv hCB CS hJ0 hJP q L hg lW=> ?_) ?_
 have see:∀(i:Nat) v,i∉WN 41->(Act.tmps _)[i]? =af v->bz (lq O).sig π v v:=λi v hi hv=>(ht.at_ i v v hv hv).resolve_right λh=>hi h.1
 have s4:=see 4 (ptr w.heap.size) (by decide) rfl;have s5:=see 5 (ptr (w.heap.size+1)) (by decide) rfl;have s7:=see 7 (ptr (w.heap.size+3)) (by decide) rfl;have blk:∀r,bz (lq O).sig π (ptr r) (ptr r)->π r r:=λr h=>by
  cases h with|pointer I=>exact I.block
 have p4:=blk _ s4;have p5:=blk _ s5;have p7:=blk _ s7;have q4:=xg b4 (t _ p4);have q5:=xg b5 (t _ p5);have q7:=xg b7 (t _ p7);refine⟨λr m=> ?_,λr m=> ?_⟩;rcases m with rfl|rfl|rfl|⟨b,e,rfl⟩|⟨b,e,rfl⟩;exact p4;exact p7;exact p5;rw[e]at q4;cases q4 with|slice _ _ I=>exact I.block
 rw[e]at q5;cases q5 with|slice _ _ I=>exact I.block
 have e:r=w.heap.size+2:=m;rw[e];cases q7 with|slice _ _ I=>exact I.block
 have e:r=w.heap.size+2:=hc;rcases m with h|h|h|⟨b,M,h⟩|⟨b,M,h⟩;omega;omega;omega;have:=S b M;omega;have:=C b M;omega;show z.cell? ⟨w.heap.size+2,p,ah⟩=af (.slice ah 0 0);rw[hB.cell];simp[hp];have f:∀r,r<w.heap.size+4->wp.heap[r]? =z.heap[r]?:=λr m=>L r (by omega)
 refine Y6 (xs:=xs) (ss:=ss) (Pb:=w.heap.size+2) (bd:=λ_=>[]) (old:=0) (Bp:=.slice A xs.length c) (Mj:=.slice X ss.length U) O' hP hnj hjv CS hJ0 hJP hg lW ⟨q _ (.inl rfl),?_,q _ (.inr (.inl rfl)),?_,q _ (.inr (.inr (.inl rfl))),?_,⟨A,c,rfl,λj hj=> ?_⟩,⟨X,U,rfl,λj hj=> ?_⟩,?_,h8,RR,D,T⟩;exact(db (f _ (by show w.heap.size<_;omega))).trans (b4.cell 0);exact(db (f _ (by show w.heap.size+3<_;omega))).trans (b7.cell 0);exact(db (f _ (by show w.heap.size+1<_;omega))).trans (b5.cell 0);have hI:=In.drop (In.drop (In.drop (In.drop k)));obtain⟨g,e,m⟩:=oS hI (λr m=>(h8 r m).2) hj;have:=S _ e;exact⟨g,e,q _ (.inr (.inr (.inr (.inl ⟨_,e,rfl⟩)))),(uc (f g (by simp at this;omega)) _ _).trans m⟩;have hI:=In.drop (In.drop (In.drop (In.drop (In.drop k))));obtain⟨g,e,m⟩:=NA hI hj;have:=C _ e;exact⟨g,e,q _ (.inr (.inr (.inr (.inr ⟨_,e,rfl⟩)))),(uc (f g (by simp at this;omega)) _ _).trans m⟩;unfold ft;rw[f _ (by omega)];exact H;intro w6 R K;obtain⟨V,M,e2⟩:=Lz (O:=O) (N:=z.heap.size+4) ((R.shape _ rfl).trans H) K;refine⟨V,M,e2,dx ?_⟩;have OI:=k.behind R K;clear k K M e2 hB b7 b5 b4 Q H;walk_nrm;have hx:dm ((lq O).at 41) xd=ak:=by kernel_rfl
 refine DK o hx λa d=> ?_
 have hl6:sj (lG (w.heap.size+2) (ss.map λs=>xs.map λr=>bU r.b s)::aN (w.heap.size+3) 158 #[.slice (af ⟨w.heap.size+2,0,ah⟩) ss.length ss.length]::aN (w.heap.size+1) 23 #[.slice X ss.length U]::aN w.heap.size 33 #[.slice A xs.length c]::bj (.slice A xs.length c) xs::l0 (.slice X ss.length U) ss::l):=.cons (lG.hp _ _) (.cons (aN.hp _ _ _) (.cons (aN.hp _ _ _) (.cons (aN.hp _ _ _) (.cons (dN.hp _ _ _ _ _) (.cons (dN.hp _ _ _ _ _) hl)))))
 have hw:=V1 (hn:=hn) (fv:=.func (.func 92) #[] #[ptr w.heap.size,ptr (w.heap.size+3),ptr (w.heap.size+1)]) hl (λr m=>(h8 r m).2) D T RR (OI.at_ hl6 a 0 d);have Vk:=vL hw λv w' h=>iR.same h
 exact Vk
end
end
section
open Go.RowKit
def Yd{w b}(e:b.heap=w.heap){g t a}(h:di w g t a):di b g t a:=by unfold di at h|-;rw[e];exact h
def Q0{g T E size a w b}(e:b.heap=w.heap){p}{xs:List g}{F}(h:jA T E size a w p xs F):jA T E size a b p xs F:=by obtain⟨v,c,d,f⟩:=h;exact⟨v,Yd e c,ve e d,f⟩
def ZR.hp{b}(T E size a p)(xs:List b):NZ (ZR T E size a p xs):=λ_ _ _ e h=>Q0 e h
def r9.hp{l n}(d g c b)(m:List (l×n)):NZ (r9 d g c b m):=λ_ _ _ e h=>by obtain⟨⟨f,a,k,i⟩,j⟩:=h;exact⟨⟨f,a,by rw[e];exact k,i⟩,j⟩
def sj.append{l m}(h:sj l)(k:sj m):sj (l++m):=λA a=>(fM.1 a).elim (h A) (k A)
def sj.map{c:Type}{f}(l:List c)(h:∀a,NZ (f a)):sj (l.map f):=λA b=>by obtain⟨a,_,rfl⟩:=aA.1 b;exact h a
def mx.hp(p K rows):NZ (mx p K rows):=λ_ _ _ e h=>by obtain⟨b,c,f,g,a,d⟩:=h;exact⟨b,c,f,g,a,Sep.hp (.append (.cons (aN.hp _ _ _) (.cons (dN.hp _ _ _ _ _) (.cons (r9.hp _ _ _ _ _) .nil))) (.map _ λ_=>ZR.hp _ _ _ _ _ _)) e d⟩
def dR.hp(p c f):NZ (dR p c f):=λ_ _ _ e h=>by obtain⟨g,i,d,T,a,b⟩:=h;exact⟨g,i,d,T,a,Sep.hp (.append (.cons (aN.hp _ _ _) (.cons (ZR.hp _ _ _ _ _ _) (.cons (r9.hp _ _ _ _ _) (.cons (r9.hp _ _ _ _ _) .nil)))) (.map _ λ_=>mx.hp _ _ _)) e b⟩
def ja.hp(p m):NZ (ja p m):=λ_ _ _ e h=>by obtain⟨a,b,c⟩:=h;exact⟨a,b,Sep.hp (.cons (aN.hp _ _ _) (.cons (r9.hp _ _ _ _ _) .nil)) e c⟩
def dn.hp(p z):NZ (dn p z):=λ_ _ _ e h=>by obtain⟨d,a,m,b,c⟩:=h;exact⟨d,a,m,b,Sep.hp (.cons (aN.hp _ _ _) (.cons (dR.hp _ _ _) (.cons (ja.hp _ _) .nil))) e c⟩
end
section
open Rel
open Go.RowKit
@[go_sem ↓] theorem aal(parts):gB 23 1 parts=kC 23 parts:=rfl
@[go_sem] theorem Uf(w a):(kC 23 #[(0,.agg a)]).run ai w=if a.size=7 then .ok (.slice (af ⟨w.heap.size,0,ah⟩) 1 1) (w.alloc (.cells a 54))else(qH 23 a).run ai w:=mg w _ _ 7 (cj 7 (aD .i64 0)).toArray a underlying23 (by kernel_rfl) (by kernel_rfl) rfl (by decide) (by decide)
def P8:(Tryz.prog.info? 54).map (λi=>(i.zero,i.size,i.bytes))=af (af (.agg (ints cW.list)),7,56):=by kernel_rfl
def lp.dG{G b B A ss}(h:lp G b B A ss)(f d):lp G (Rel.dG b f d) B A ss:=λ{W} a=>by have c:In G b [] (Rel.dG W b.tape W.drawn):=⟨trivial,⟨a.only.os,rfl,a.only.output,a.only.size,a.only.block⟩⟩;have e:=h c;exact e
def iR.VE{G l a w}(h:In G a l w):iR G a l w:=iR.of (tp:=a.tape) (d:=a.drawn) h
noncomputable def Gu:Code:=match f13.body with|some (.seq _ (.seq _ (.seq _ (.seq _ (.seq (.seq _ (.block _ (.loop (.seq _ (.seq (.block _ (.seq _ (.seq x _))) _))))) _)))))=>x|_=>.skip
section
variable{G:Nat->Prop} {Z w:ar} {l:List cX} {A:Option Addr} {c B:Nat} {Y:List Sys} {X:aB} {b:Nat} {W:aB}
def QH(G:Nat->Prop)(Z:ar)(l:List cX)(A:Option Addr)(c:Nat)(Y:List Sys)(X:aB)(b:Nat)(x0 x1 x3 x4 x5 x6 x8 d e f g h i j k m n o p q r s t u x y z B C D E F H I J K L M N O P Q R S T U V W Qd Qe Qf Qg Qh Qi Qj:aB)(a:Act)(w:ar):Prop:=∃v y11 y12 y35 y36 y37 y38 y39 y40 y41 y42 y43 y44 y45 y46 y47 y48 y49 y50 y51 y52,a=⟨#[x0,x1,.slice A Y.length c,x3,x4,x5,x6,X,x8,.int .i64 (b:Int),v,y11,y12,d,e,f,g,h,i,j,k,m,n,o,p,q,r,s,t,u,x,y,z,B,C,y35,y36,y37,y38,y39,y40,y41,y42,y43,y44,y45,y46,y47,y48,y49,y50,y51,y52,D,E,F,H,I,J,K,L,M,N,O,P,Q,R,S,T,U,V,W,Qd,Qe,Qf,Qg,Qh,Qi,Qj],[]⟩/\iR G Z (l0 v (gJ (dV Y) b)::ei X (cm Y Y.length)::l) w
def Zv(x0 x1 x3 x4 x5 x6 x8 Us Ut N O P Q R S T U V W qQ qS qT qU qM qV Mx x30 x31 x32 ZK ZL x35 x36 x37 x38 x39 x40 x41 x42 x43 x44 x45 x46 x47 ZM ZN ZO ZP WE TJ NN NO NP NS x58 x59 x60 XF XG XH XI XJ XK XL XM TK TL TM Qd Qe Qf Qg Qh Qi Qj)(hl:sj l)(hS:lp G Z B A Y)(h20:Y.length<=20)(hb:b<=Y.length)(h:In G Z (ei X (cm Y Y.length)::l) w):Gu.wp ai (rG (QH G Z l A c Y X b x0 x1 x3 x4 x5 x6 x8 N O P Q R S T U V W qQ qS qT qU qM qV Mx x30 x31 x32 ZK ZL TJ NN NO NP NS x58 x59 x60 XF XG XH XI XJ XK XL XM TK TL TM Qd Qe Qf Qg Qh Qi Qj)) ⟨#[x0,x1,.slice A Y.length c,x3,x4,x5,x6,X,x8,.int .i64 b,.slice ah 0 0,Us,Ut,N,O,P,Q,R,S,T,U,V,W,qQ,qS,qT,qU,qM,qV,Mx,x30,x31,x32,ZK,ZL,x35,x36,x37,x38,x39,x40,x41,x42,x43,x44,x45,x46,x47,ZM,ZN,ZO,ZP,WE,TJ,NN,NO,NP,NS,x58,x59,x60,XF,XG,XH,XI,XJ,XK,XL,XM,TK,TL,TM,Qd,Qe,Qf,Qg,Qh,Qi,Qj],[]⟩ w:=by
 have HS:Hid (lp G Z B A Y):=hS;have aaM:(Y.length:Int)<=20:=by omega
 have hbi:(b:Int)<=20:=by omega
 have z:Hid (In G Z (l0 (.slice ah 0 0) (gJ ((dV Y).take 0) b)::ei X (cm Y Y.length)::l) w):=h.kz _ _;obtain⟨pA,pc,rfl,_⟩:=h.lJ;rw[eZ]at *;obtain⟨i0,uT,sS,sT,sa⟩:=info_parts P8;clear hS h;simp only[Gu,f13];go_wp2_with fail;go_loopw [37,10] (λi v w'=>∃k:Nat,k<=Y.length/\i=.int .i64 k/\In G Z (l0 v (gJ ((dV Y).take k) b)::ei (.slice pA Y.length pc) (cm Y Y.length)::l) w') (λi _ _=>Y.length-(intOf i).toNat)
 case atStart=>exact⟨0,bH _,rfl,z.out⟩
 case round=>
  clear z;obtain⟨k,hk,rfl,x⟩:=hrel;by_cases n:k<Y.length
  ·have rW:(k:Int)<Y.length:=by omega
   obtain⟨g,o,rfl,YK,q1⟩:=(HS.out x.bare).at_ n;have e1:Y.getD k cW=Y[k]:=by simp[bu,n]
   rw[e1]at q1;have j:=ae (P2 Y b n);have hll:(gJ ((dV Y).take k) b).length<=20:=bD (JD _ _) (by rw[cR];omega);have HI:=ae x;clear x e1;generalize Y[k]=s at *;generalize p:gJ ((dV Y).take (k+1)) b=F at *;have HC:=ae p;clear p;generalize gJ ((dV Y).take k) b=E at *;go_upto_region 13 with(fail)
   refine a6 (In G Z (aN wr.heap.size 54 (ints s.list)::l0 u10 E::ei (.slice pA Y.length pc) (cm Y Y.length)::l)) ?_ ?_;exact HI.out.struct 54 [0,0,0,0,0,0,0] s.list rfl;generalize wr.heap.size=sb;clear HI q1;intro w3 m;obtain⟨A3,c3,e3,t⟩:=m.third.lJ;rw[eZ]at e3 t;injection e3 with e4 e5 e6;subst e4;subst e6;obtain⟨g3,o3,rfl,_,L,K⟩:=t.at_ n;have M:(cm Y Y.length)[k]=(cm Y Y.length).getD k 0:=by simp[bu,L]
   rw[M]at K;have d3:row? w3 sb 0 7=af (ints s.list):=m.blk.aL rfl;have e:=ae m;clear m t e5 M;generalize (cm Y Y.length).getD k 0=pk at *;by_cases a:pk=(b:Int)
   ·have YR:(pk==(b:Int))=ak:=by simpa using a
    rw[if_pos a]at j;have f:=ae e.out.drop;have D:=ae e.out.drop.rowAt;have q:∀u∈s.list.map (aD .i64),u.oneCell'=ak:=by intro u hu;obtain⟨y,_,rfl⟩:=aA.1 hu;rfl
    have C:=ae q;have HX7:Hid (s.list.length=7):=rfl;clear a q e;go_wp2_with (at_builtin;go_loud (refine dv rfl _ _ _ rfl 0 54 i0 _ 7 56 underlying23 uT sS sT sa rfl (by decide) _ E.length _ rfl D.out (s.list.map (aD .i64)) rfl (by rw[aY];exact HX7.out) C.out (by unfold maxLen;omega) (by omega) (bH _) ?_));intro v' w4 r hg J;have H:=In.o6 f.out r hg J;have I:In G Z (l0 v' F::ei (.slice (af ⟨g3,o3,ah⟩) Y.length pc) (cm Y Y.length)::l) w4:=by rw[j.out];unfold l0;rw[bm,bS,bJ,List.flatMap_nil,cK];exact H
    have ME:=ae I;clear r hg J H I d3 f D;go_wp2_with fail;go_roundw
    case rel=>exact⟨k+1,by omega,by go_num,by rw[HC.out];exact ME.out⟩
    simp[intOf];omega
   have YR:(pk==(b:Int))=aq:=by simpa using a
   rw[if_neg a]at j;have f:=ae e.out.drop;rw[<-j.out]at f;clear a e j d3;go_wp2_with fail;go_roundw
   case rel=>exact⟨k+1,by omega,by go_num,by rw[HC.out];exact f.out⟩
   simp[intOf];omega
  have:k=Y.length:=by omega
  subst this;rw[P1]at x;have HI:=ae x;clear x;go_wp2_with fail;refine⟨rfl,rfl,λtp d=>⟨_,_,_,_,_,_,_,_,_,_,_,_,_,_,_,_,_,_,_,_,_,rfl,?_⟩⟩;exact(iR.VE HI.out).dG (.cons (dN.hp _ _ _ _ _) (.cons (dN.hp _ _ _ _ _) hl)) tp d
end
def U0:∀(a:List bw) i c,(∀b∈a,b.v.length=8)->((a.flatMap Ky).drop (i *9)).take 9=Ky a[i]:=by
 intro a
 induction a with
 |nil=>intro i c;simp at c|cons b a f=>
  intro i c h;have d:(Ky b).length=9:=by simp[Ky,bw.list,h b (by simp)]
  cases i with|zero=>rw[bJ,Nat.zero_mul,List.drop_zero,List.take_append_of_le_length (by omega),cA (by omega)];rfl|succ i=>rw[bJ,kh,je,bM,<-d,List.drop_append,List.drop_of_length_le (by omega),de,gV,d];exact f i (by simpa using c) λx e=>h x (by simp[e])
def Kz{G p w l A n c a}(h:In G p (lX (.slice A n c) a::l) w)(m:∀b∈a,b.v.length=8){i}(d):∃g,A=af ⟨g,0,ah⟩/\row? w g (i *9) 9=af (ints a[i].list):=by have f:=h.own;obtain⟨A',c',e,_,_,o⟩:=aP f;injection e with j k q;subst j;subst k;obtain⟨g,rfl⟩:=o (by omega);refine⟨g,rfl,?_⟩;rw[lA f d,U0 a i d m];rfl
noncomputable def FZ:Code:=match f13.body with|some (.seq _ (.seq _ (.seq _ (.seq _ (.seq (.seq _ (.block _ (.loop (.seq _ (.seq (.block _ (.seq _ (.seq _ (.seq _ (.seq _ x))))) _))))) _)))))=>x|_=>.skip
section
variable{G:Nat->Prop} {Z w:ar} {l:List cX} {Y X:Option Addr} {W V p:Nat} {z:ZS} {g:bw->bw}
def G3(G:Nat->Prop)(Z:ar)(l:List cX)(Y X:Option Addr)(W V p:Nat)(z:ZS)(g:bw->bw)(x0 x2 x3 x4 x5 x6 x7 x8 x9 b c d e f h i j k m n o q s t u v x y A B C D E F H I J K L M N O P Q R S T U WE TJ NN NO NP NS:aB)(a:Act)(w:ar):Prop:=∃y14 y15 y60 y61 y62 y63 y64 y65 y66 y67 y68 y69 y70 y71 y72 y73 y74 y75 y76 y77 y78,a=⟨#[x0,ptr p,x2,x3,x4,x5,x6,x7,x8,x9,b,c,d,.slice Y z.rows.length W,y14,y15,e,f,h,i,j,k,m,n,o,q,s,t,u,v,x,y,A,B,C,D,E,F,H,I,J,K,L,M,N,O,P,Q,R,S,T,U,WE,TJ,NN,NO,NP,NS,.slice X z.rows.length V,.int .i64 z.rows.length,y60,y61,y62,y63,y64,y65,y66,y67,y68,y69,y70,y71,y72,y73,y74,y75,y76,y77,y78],[]⟩/\iR G Z (dn p (qq z g z.rows.length)::lX (.slice X z.rows.length V) (z.rows.map λr=>g r.b)::bj (.slice Y z.rows.length W) z.rows::l) w
def Zk(x0 C x3 x4 x5 x6 x7 x8 x9 O P Q x14 x15 R S T U sd sf sg qQ qS qT qU qM qV Mx x30 x31 x32 ZK ZL x35 x36 x37 x38 x39 x40 x41 x42 x43 x44 x45 x46 x47 ZM ZN ZO ZP WE TJ NN NO NP NS XF XG XH XI XJ XK XL XM TK TL TM Qd Qe Qf Qg Qh Qi Qj)(hl:sj l)(B:jC z)(hg:Dx g)(m:∀b,(g b).k=b.k)(k:∀b,b.v.length=8->∀j,j∉kinds b.k.toNat->(g b).v.getD j 0=b.v.getD j 0)(h:In G Z (dn p z::lX (.slice X z.rows.length V) (z.rows.map λr=>g r.b)::bj (.slice Y z.rows.length W) z.rows::l) w):FZ.wp ai (rG (G3 G Z l Y X W V p z g x0 C x3 x4 x5 x6 x7 x8 x9 O P Q R S T U sd sf sg qQ qS qT qU qM qV Mx x30 x31 x32 ZK ZL x35 x36 x37 x38 x39 x40 x41 x42 x43 x44 x45 x46 x47 ZM ZN ZO ZP WE TJ NN NO NP NS)) ⟨#[x0,ptr p,C,x3,x4,x5,x6,x7,x8,x9,O,P,Q,.slice Y z.rows.length W,x14,x15,R,S,T,U,sd,sf,sg,qQ,qS,qT,qU,qM,qV,Mx,x30,x31,x32,ZK,ZL,x35,x36,x37,x38,x39,x40,x41,x42,x43,x44,x45,x46,x47,ZM,ZN,ZO,ZP,WE,TJ,NN,NO,NP,NS,.slice X z.rows.length V,.int .i64 z.rows.length,.int .i64 0,XF,XG,XH,XI,XJ,XK,XL,XM,TK,TL,TM,Qd,Qe,Qf,Qg,Qh,Qi,Qj],[]⟩ w:=by
 have F:Hid (In G Z (dn p (qq z g 0)::lX (.slice X z.rows.length V) (z.rows.map λr=>g r.b)::bj (.slice Y z.rows.length W) z.rows::l) w):=h;have HMO:Hid (∀j,j<=z.rows.length->jC (qq z g j)):=λj=>Vy B hg j
 have ZY:Hid (∀j(A:j<z.rows.length),(qq z g j).f z.rows[j].h.1=af (z.rows[j].h.2,z.rows[j].b)):=λj A=>Nb B g A
 have HMS:Hid (∀j(A:j<z.rows.length),qq z g (j+1)=⟨(qq z g j).ls,dC (qq z g j).f z.rows[j].h.1 (af (z.rows[j].h.2,g z.rows[j].b)),(qq z g j).B⟩):=λj A=>Ek g A
 have acf:z.rows.length<=60:=nm B.w;have hri:(z.rows.length:Int)<=60:=by omega
 have D:Hid (∀r∈z.rows,bx r.b=0/\r.b.v.length=8):=λr s=>B.w.bo _ _ _ ((gH B.w).1 s)
 have HG:=ae hg;have HGK:=ae m;have HGF:=ae k;have HPS:Hid (G3 G Z l Y X W V p z g=G3 G Z l Y X W V p z g):=rfl;clear h B hg m k;unfold G3;generalize z.rows=a at *;simp only[FZ,f13];go_wp2_with fail;go_loopw [60] (λi w'=>∃j:Nat,j<=a.length/\i=.int .i64 j/\In G Z (dn p (qq z g j)::lX (.slice X a.length V) (a.map λr=>g r.b)::bj (.slice Y a.length W) a::l) w') (λi _=>a.length-(intOf i).toNat)
 case atStart=>exact⟨0,bH _,rfl,F.out⟩
 case round=>
  clear F;obtain⟨j,A,rfl,y⟩:=hrel;by_cases f:j<a.length
  ·have hji:(j:Int)<a.length:=by omega
   have HOJ:=ae (HMO.out j (by omega));have E:=ae (ZY.out j f);have I:=ae (HMS.out j f);obtain⟨K,x⟩:=D.out _ (aF f);obtain⟨o,t⟩:=HG.out _ K x;have m:=HGK.out a[j].b;have k:=HGF.out a[j].b x;obtain⟨gb,rfl,q2⟩:=Kz y.swap (λb hb=>by obtain⟨r,s,rfl⟩:=aA.1 hb;exact(HG.out _ (D.out r s).1 (D.out r s).2).2) (i:=j) (by simpa using f);rw[List.getElem_map]at q2;obtain⟨gr,rfl,q1⟩:=oS y.third (λr s=>(D.out r s).2) f;have J:(g a[j].b).list.length=9:=by simp[bw.list,t]
   have HI:=ae y;have c:=ae (And.intro (And.intro o t) (And.intro m k));clear y K o t m k;generalize L:qq z g (j+1)=zn at *;have HZN:=ae L;clear L;generalize qq z g j=zj at *;have HBS:Hid ((a.map λr=>g r.b)=a.map λr=>g r.b):=rfl;generalize g a[j].b=now at *;generalize M:a[j]=r at *;have HRJ:=ae M;clear M;obtain⟨⟨x1,C⟩,b⟩:=r;simp only at x E I c;have H8B:=ae x;clear q1;go_upto_region 20 with(fail)
   refine a6 (In G Z (aN wr.heap.size 48 (ints now.list)::dn p zj::lX (.slice (af ⟨gb,0,ah⟩) a.length V) (a.map λr=>g r.b)::bj (.slice (af ⟨gr,0,ah⟩) a.length W) a::l)) ?_ ?_;exact HI.out.struct 48 [0,0,0,0,0,0,0,0,0] now.list J;generalize wr.heap.size=sb;clear HI q2;intro N n;obtain⟨g',v,q⟩:=oS n.fourth (λr s=>(D.out r s).2) f;have e1:g'=gr:=by injection v with v;injection v with v;exact v.symm
   subst e1;rw[HRJ.out]at q;have q1:row? N g' (j *11) 2=af (ints [x1,C]):=ud q 0 2 (by omega);have q2:row? N g' (j *11+2) 9=af (ints b.list):=by have:=ud q 2 9 (by omega);rw[show((cQ.list ⟨(x1,C),b⟩).drop 2).take 9=b.list by show b.list.take 9=_;rw[cA (by simp[bw.list,x])]]at this;exact this
   have d3:row? N sb 0 9=af (ints now.list):=n.blk.aL J;have H:=ae n.swap.drew;clear n v q x
   go_still_tail 12,(by kernel_rfl)
   repeat still_step
   change wpList _ _ _ _ _ N.drew;clear q1 q2 d3;generalize N.drew=w4 at *;go_wp2_with fail;refine(Ns H.out HOJ.out x1 C b now E.out c.out.2.1 c.out.1.1 c.out.1.2 c.out.2.2).mono ?_;rintro e w5 ⟨rfl,u⟩;rw[<-I.out]at u;have yL:=ae u.swap.drop;clear u H;go_wp2_with fail;go_roundw
   case rel=>exact⟨j+1,by omega,by go_num,by rw[HZN.out];exact yL.out⟩
   simp[intOf];omega
  have:j=a.length:=by omega
  subst this;have HI:=ae y;clear y;go_wp2_with fail;refine⟨rfl,rfl,λtp d=>⟨_,_,_,_,_,_,_,_,_,_,_,_,_,_,_,_,_,_,_,_,_,rfl,?_⟩⟩;exact(iR.VE HI.out).dG (.cons (dn.hp _ _) (.cons (dN.hp _ _ _ _ _) (.cons (dN.hp _ _ _ _ _) hl))) tp d
end
end
section
open Rel
open Go.Conc Go.ConcN
open Go.RowKit
def iR.NF{G l a w}(b:sj l){c d}(h:iR G a l (Rel.dG w c d)):iR G a l w:=iR.dG h b w.tape w.drawn
def iR.size{G l w0 w}(h:iR G w0 l w):w0.heap.size<=w.heap.size:=In.size (w0:=Rel.dG w0 w.tape w0.drawn) h
section
variable{O:vw} {Z:aB->ar->Prop} {G:Nat->Prop} {Y:ar} {l:List cX} {A:Option Addr} {c B p:Nat} {X:List Sys} {z:ZS}
def py(a:Int)(X:List Sys):Int:=if a<1\/8<a then 1 else(dL X).2
def Pk{X}(h:(dL X).2=0):(dL X).1=cm X X.length:=by unfold dL at h|-;split at h;cases h;rename_i b;split at h;rename_i a;rw[if_neg b,if_pos a];rename_i a;exact absurd h a
def QH.same{w Y tp d b f x0 x1 x3 x4 x5 x6 x8 g i j k m n o p q r s t u x y z B C D E F H I J K L M N O P Q R S T U V W Z TK TL TM Qd Qe Qf Qg Qh Qi Qj a}(h:QH G (Rel.dG Y tp d) l A c X f b x0 x1 x3 x4 x5 x6 x8 g i j k m n o p q r s t u x y z B C D E F H I J K L M N O P Q R S T U V W Z TK TL TM Qd Qe Qf Qg Qh Qi Qj a w):QH G Y l A c X f b x0 x1 x3 x4 x5 x6 x8 g i j k m n o p q r s t u x y z B C D E F H I J K L M N O P Q R S T U V W Z TK TL TM Qd Qe Qf Qg Qh Qi Qj a w:=by obtain⟨v,y11,y12,y35,y36,y37,y38,y39,y40,y41,y42,y43,y44,y45,y46,y47,y48,y49,y50,y51,y52,e,h⟩:=h;exact⟨v,y11,y12,y35,y36,y37,y38,y39,y40,y41,y42,y43,y44,y45,y46,y47,y48,y49,y50,y51,y52,e,iR.same h⟩
def G3.same{w Y tp d rA bA rc bc g x0 x2 x3 x4 x5 x6 x7 x8 x9 b c f i j k m n o q r s t u v x y A B C D E F H I J K L M N O P Q R S T U V W X Z NN NO NP NS a}(h:G3 G (Rel.dG Y tp d) l rA bA rc bc p z g x0 x2 x3 x4 x5 x6 x7 x8 x9 b c f i j k m n o q r s t u v x y A B C D E F H I J K L M N O P Q R S T U V W X Z NN NO NP NS a w):G3 G Y l rA bA rc bc p z g x0 x2 x3 x4 x5 x6 x7 x8 x9 b c f i j k m n o q r s t u v x y A B C D E F H I J K L M N O P Q R S T U V W X Z NN NO NP NS a w:=by obtain⟨y14,y15,y60,y61,y62,y63,y64,y65,y66,y67,y68,y69,y70,y71,y72,y73,y74,y75,y76,y77,y78,e,h⟩:=h;exact⟨y14,y15,y60,y61,y62,y63,y64,y65,y66,y67,y68,y69,y70,y71,y72,y73,y74,y75,y76,y77,y78,e,iR.same h⟩
def wm{P S b}{x:Code}{a w}(h:x.wp P (rG S) a w)(g:∀a w,S a w->b a w):x.wp P (rG b) a w:=Code.wp_mono (λ_ _ _ ⟨c,e,f⟩=>⟨c,e,λi d=>g _ _ (f i d)⟩) h
def QD(O:vw)(G:Nat->Prop)(Y:ar)(l:List cX)(A:Option Addr)(c p hn:Nat)(X:List Sys)(z:ZS)(d:aB)(m:Nat)(a:Act)(w:ar):Prop:=∃b:Nat,∃x3 x4 x5 x6 x8 e f g h i j k n o q r s t u v x y B C D E F H I J K L M N P Q R S T U V W Z ZM ZN ZO ZP WE TJ NN NO NP NS x58 x59 x60 XF XG XH XI XJ XK XL XM TK TL TM Qd Qe Qf Qg Qh Qi Qj:aB,a=⟨#[.int .i64 (hn:Int),ptr p,.slice A X.length c,x3,x4,x5,x6,d,x8,.int .i64 (b:Int),e,f,g,h,i,j,k,n,o,q,r,s,t,u,v,x,y,B,C,D,E,F,H,I,J,K,L,M,N,P,Q,R,S,T,U,V,W,Z,ZM,ZN,ZO,ZP,WE,TJ,NN,NO,NP,NS,x58,x59,x60,XF,XG,XH,XI,XJ,XK,XL,XM,TK,TL,TM,Qd,Qe,Qf,Qg,Qh,Qi,Qj],[]⟩/\m=X.length+1-b/\b<=X.length/\iR G Y (dn p (ie z (dV X) b)::ei d (cm X X.length)::l) w
noncomputable def JF:Code:=match f13.body with|some (.seq _ (.seq _ (.seq _ (.seq _ (.seq (.seq _ (.block _ (.loop x))) _)))))=>x|_=>.skip
def X4(O:vw)(G:Nat->Prop)(Y:ar)(l:List cX)(A:Option Addr)(c p hn:Nat)(X:List Sys)(z:ZS)(b:aB)(m:Nat):Exit->Act->ar->Prop
 |.normal,a,w=>∃d,d<m/\QD O G Y l A c p hn X z b d a w
 |.exit 0,a,w=>a.tmps.size=79/\iR G Y (dn p (fY z X)::l) w|_,_,_=>False
def Mc{hn m n a w}(hold:O.n<=Y.heap.size)(Q:sj l)(hS:lp G Y B A X)(hk:jC z)(Xb:1<=hn)(hn8:hn<=8)(h0:(dL X).2=0)(U:QD O G Y l A c p hn X z n m a w):eU ai (lq O) Z 13 JF (X4 O G Y l A c p hn X z n m) a w:=by
 obtain⟨b,x3,x4,x5,x6,x8,XA,Us,Ut,x13,x14,x15,XB,XC,XD,XE,sd,sf,sg,qQ,qS,qT,qU,qM,qV,Mx,x30,x31,x32,ZK,ZL,x35,x36,x37,x38,x39,x40,x41,x42,x43,x44,x45,x46,x47,ZM,ZN,ZO,ZP,WE,TJ,NN,NO,NP,NS,x58,x59,x60,XF,XG,XH,XI,XJ,XK,XL,XM,TK,TL,TM,Qd,Qe,Qf,Qg,Qh,Qi,Qj,rfl,rfl,hb,U⟩:=U;have g:=mH O;obtain⟨RR,T⟩:=wz h0;have s:mF (dV X):=SI RR;have hbI:(b:Int)<=20:=by omega
 have Kj:(cm X X.length).length=X.length:=eZ X X.length;have J:∃i k,n=.slice i (cm X X.length).length k:=by obtain⟨i,k,e,_⟩:=In.lJ (In.swap (show In G _ _ w from U));exact⟨i,k,e⟩
 obtain⟨i,k,rfl⟩:=J;have K:sj (dn p (ie z (dV X) b)::ei (.slice i (cm X X.length).length k) (cm X X.length)::l):=.cons (dn.hp _ _) (.cons (dN.hp _ _ _ _ _) Q);simp only[JF,f13];refine cu (cu ?_);refine bG ?_;refine aJ g (.slice i (cm X X.length).length k) ?_;walk_nrm;refine aJ g (.int .i64 (b:Int)) ?_;walk_nrm;refine tX g (f:=40) (R:=λe P=>e=.returned (.bool (decide ((b:Int)∈cm X X.length)))/\iR G Y (dn p (ie z (dV X) b)::ei (.slice i (cm X X.length).length k) (cm X X.length)::l) P) rfl rfl rfl (by show ux.contains (40)=ak;decide+kernel) (by kernel_rfl) (λE d=> ?_) (λe w h=>⟨_,h.1⟩) (λv w E d h=>⟨h.1,h.2.NF K⟩) ?_
 ·have q:=U.at_ K E 0 d;obtain⟨pA',pc',e,hr⟩:=In.lJ q.swap;injection e with e1 e2 e3;subst e1;subst e3;walk_nrm;refine(C9 i k (cm X X.length) b _ hr (by unfold maxLen;omega)).mono ?_;rintro e P ⟨rfl,rfl⟩;exact⟨rfl,iR.of q⟩
 rintro v w1 ⟨e,q⟩;injection e with e;subst e;walk_nrm;refine dx ?_;by_cases o:(b:Int)∈cm X X.length;rotate_left
 ·rw[show decide ((b:Int)∈cm X X.length)=aq from decide_eq_false o];refine gU (t:=false) rfl ?_;rw[if_neg (by simp)];refine KF ⟨rfl,?_⟩;have he:=P5 hk s (FX X) b (Pm o);rw[Pj]at he;rw[<-he];exact In.drop (In.swap q)
 rw[show decide ((b:Int)∈cm X X.length)=ak from decide_eq_true o];refine gU (t:=true) rfl ?_;rw[if_pos rfl];refine mI ?_;have acU:=SH o;clear U;show eU _ _ _ _ _ _ _ w1;refine cu (yh ?_);refine cu (bG ?_);refine aJ g (.slice ah 0 0) ?_;walk_nrm;refine dx ?_;show eU _ _ _ _ _ _ _ w1;have hxS:dm ((lq O).at 13) Gu=ak:=by kernel_rfl
 refine cu (xh g (S:=QH G Y (dn p (ie z (dV X) b)::l) A c X (.slice i (cm X X.length).length k) b (.int .i64 (hn:Int)) (ptr p) x3 x4 x5 x6 x8 x13 x14 x15 XB XC XD XE sd sf sg qQ qS qT qU qM qV Mx (.slice i (cm X X.length).length k) (.int .i64 (b:Int)) (.bool ak) ZK ZL TJ NN NO NP NS x58 x59 x60 XF XG XH XI XJ XK XL XM TK TL TM Qd Qe Qf Qg Qh Qi Qj) hxS (λE d=>wm (Zv _ _ _ _ _ _ _ _ _ _ _ _ _ _ _ _ _ _ _ _ _ _ _ _ _ _ _ _ _ _ _ _ _ _ _ _ _ _ _ _ _ _ _ _ _ _ _ _ _ _ _ _ _ _ _ _ _ _ _ _ _ _ _ _ _ _ _ _ _ _ _ _ _ _ _ (.cons (dn.hp _ _) Q) (hS.dG E 0) T hb (In.swap (q.at_ K E 0 d))) λ_ _ h=>h.same) ?_);rintro _ w2 ⟨sv,y11,y12,y35,y36,y37,y38,y39,y40,y41,y42,y43,y44,y45,y46,y47,y48,y49,y50,y51,y52,rfl,F⟩;clear q;obtain⟨M,N,e,_⟩:=aP (In.own (show In G _ _ w2 from F));subst e;have y:=JG hk s.toqY b;have hsl:(gJ (dV X) b).length<=20:=bD (JD _ _) (by rw[jk];exact T);have hlS:sj (l0 (.slice M (gJ (dV X) b).length N) (gJ (dV X) b)::ei (.slice i (cm X X.length).length k) (cm X X.length)::dn p (ie z (dV X) b)::l):=.cons (dN.hp _ _ _ _ _) (.cons (dN.hp _ _ _ _ _) (.cons (dn.hp _ _) Q));show eU _ _ _ _ _ _ _ w2;refine cu (bG ?_);refine aJ g (ptr p) ?_;walk_nrm;have Vh:(ie z (dV X) b).rows.length<=60:=nm y.w;refine tX g (f:=37) (R:=λe P=>∃C D,e=.returned (.slice C (ie z (dV X) b).rows.length D)/\iR G Y (bj (.slice C (ie z (dV X) b).rows.length D) (ie z (dV X) b).rows::l0 (.slice M (gJ (dV X) b).length N) (gJ (dV X) b)::dn p (ie z (dV X) b)::ei (.slice i (cm X X.length).length k) (cm X X.length)::l) P) rfl rfl rfl (by show ux.contains (37)=ak;decide+kernel) (by kernel_rfl) (λE d=> ?_) (λe w ⟨_,_,h,_⟩=>⟨_,h⟩) (λv w E d ⟨_,_,h,h'⟩=>⟨_,_,h,h'.NF (.cons (dN.hp _ _ _ _ _) (.cons (dN.hp _ _ _ _ _) (.cons (dn.hp _ _) (.cons (dN.hp _ _ _ _ _) Q))))⟩) ?_;have h2:=In.third (F.at_ hlS E 0 d);walk_nrm;refine(Ju h2 y).mono ?_;rintro e P ⟨C,D,rfl,h3⟩;exact⟨C,D,rfl,iR.of (h3.reorder 4 [0,2,1,3] rfl (by simp))⟩;rintro _ w3 ⟨C,D,e,H⟩;injection e with e;subst e;clear F;walk_nrm;refine aJ g (.slice C (ie z (dV X) b).rows.length D) ?_;walk_nrm;refine dx ?_;show eU _ _ _ _ _ _ _ w3;refine cu (bG ?_);refine aJ g (.int .i64 (hn:Int)) ?_;walk_nrm;refine aJ g (.slice C (ie z (dV X) b).rows.length D) ?_;walk_nrm;refine aJ g (.slice M (gJ (dV X) b).length N) ?_;walk_nrm;refine tW (f:=41) (R:=λv P=>iR G Y (lX v ((ie z (dV X) b).rows.map λr=>gX r.b (gJ (dV X) b))::bj (.slice C (ie z (dV X) b).rows.length D) (ie z (dV X) b).rows::l0 (.slice M (gJ (dV X) b).length N) (gJ (dV X) b)::dn p (ie z (dV X) b)::ei (.slice i (cm X X.length).length k) (cm X X.length)::l) P) rfl rfl rfl (λj u hj=>.inl ?_) ?_ ?_;rcases j with _|_|_|j;cases hj;kernel_rfl;cases hj;kernel_rfl;cases hj;kernel_rfl;simp at hj;walk_nrm;exact Yb (by have:=H.size;omega) (.cons (dn.hp _ _) (.cons (dN.hp _ _ _ _ _) Q)) (λr hr=>y.w.bo _ _ _ ((gH y.w).1 hr)) Vh hsl (zr s.toqY b) Xb hn8 H;intro bv w4 I;clear H;obtain⟨bA,bc,e,_⟩:=aP (In.own (show In G _ _ w4 from I));rw[aY]at e;subst e;walk_nrm;refine aJ g (.int .i64 (ie z (dV X) b).rows.length) ?_;walk_nrm;refine aJ g (.int .i64 0) ?_;walk_nrm;refine dx ?_;show eU _ _ _ _ _ _ _ w4;have V:iR G Y (dn p (ie z (dV X) b)::lX (.slice bA (ie z (dV X) b).rows.length bc) ((ie z (dV X) b).rows.map λr=>gX r.b (gJ (dV X) b))::bj (.slice C (ie z (dV X) b).rows.length D) (ie z (dV X) b).rows::l0 (.slice M (gJ (dV X) b).length N) (gJ (dV X) b)::ei (.slice i (cm X X.length).length k) (cm X X.length)::l) w4:=In.fourth (show In G _ _ w4 from I);have hlQ:sj (l0 (.slice M (gJ (dV X) b).length N) (gJ (dV X) b)::ei (.slice i (cm X X.length).length k) (cm X X.length)::l):=.cons (dN.hp _ _ _ _ _) (.cons (dN.hp _ _ _ _ _) Q);have hxP:dm ((lq O).at 13) FZ=ak:=by kernel_rfl
 have L:=Ma hk s b;clear I;generalize hzb:ie z (dV X) b=zb at *;refine xh g (S:=G3 G Y (l0 (.slice M (gJ (dV X) b).length N) (gJ (dV X) b)::ei (.slice i (cm X X.length).length k) (cm X X.length)::l) C bA D bc p zb (λx=>gX x (gJ (dV X) b)) (.int .i64 (hn:Int)) (.slice A X.length c) _ _ _ _ (.slice i (cm X X.length).length k) _ (.int .i64 (b:Int)) _ _ _ _ _ _ _ _ _ _ _ _ _ _ _ _ _ _ _ _ _ _ _ _ _ _ _ _ _ _ _ _ _ _ _ _ _ _ _ _ _ _ _ _ _) hxP (λE d=>wm (Zk _ _ _ _ _ _ _ _ _ _ _ _ _ _ _ _ _ _ _ _ _ _ _ _ _ _ _ _ _ _ _ _ _ _ _ _ _ _ _ _ _ _ _ _ _ _ _ _ _ _ _ _ _ _ _ _ _ _ _ _ _ _ _ _ _ _ _ _ _ _ _ _ _ _ hlQ y (Kw s b) (λ_=>rfl) (λx hx=>G' s b hx) (V.at_ (.cons (dn.hp _ _) (.cons (dN.hp _ _ _ _ _) (.cons (dN.hp _ _ _ _ _) hlQ))) E 0 d)) λ_ _ h=>h.same) ?_;rintro _ w5 ⟨y14,y15,y60,y61,y62,y63,y64,y65,y66,y67,y68,y69,y70,y71,y72,y73,y74,y75,y76,y77,y78,rfl,W⟩;clear V;show eU _ _ _ _ _ _ _ w5;refine bG ?_;have abV:IntKind.i64.wrap ((b:Int)+1)=(b:Int)+1:=IntWalk.i64_in _ (by omega);refine aJ g (.int .i64 (b:Int)) ?_;walk_nrm;refine aJ g (.int .i64 ((b+1:Nat):Int)) ?_;walk_nrm;refine aJ g (.int .i64 ((b+1:Nat):Int)) ?_;walk_nrm;refine dx ?_;rw[L]at W;refine⟨X.length+1-(b+1),by omega,b+1,_,_,_,_,_,_,_,_,_,_,_,_,_,_,_,_,_,_,_,_,_,_,_,_,_,_,_,_,_,_,_,_,_,_,_,_,_,_,_,_,_,_,_,_,_,_,_,_,_,_,_,_,_,_,_,_,_,_,_,_,_,_,_,_,_,_,_,_,_,_,_,_,_,_,rfl,rfl,by omega,?_⟩;have Fx:=In.reorder (show In G _ _ w5 from W) 5 [0,4,1,2,3] rfl (by simp);exact In.swap (In.drop (In.third (In.swap (In.drop (In.third (In.swap (In.drop (In.third (In.swap Fx)))))))))
def abh{b w}(hold:O.n<=Y.heap.size)(N:sj l)(M:lp G Y B A X)(T:B<=Y.heap.size)(u:X.length<=maxLen)(W:jC z)(h:iR G Y (dn p z::l) w):sr ai (lq O) Z 13 #[.int .i64 b,ptr p,.slice A X.length c] w λv q=>v=.int .i64 (py b X)/\iR G Y (dn p (if py b X=0 then fY z X else z)::l) q:=by
 refine⟨_,_,func13,rfl,rfl,rfl,?_⟩;have g:=mH O;have I:f13.ntmps=79:=rfl;have s:sj (dn p z::l):=.cons (dn.hp _ _) N;simp only[I,ez,eD,de,aU,ax,aM,Nat.reduceAdd,Nat.reduceSub,ed,eh,e8];simp only[f13];refine cu (bG ?_);refine aJ g (.int .i64 0) ?_;walk_nrm;refine dx ?_;show eU _ _ _ _ _ _ _ w;refine cu (cu ?_);by_cases i:b<1\/8<b;have x:py b X=1:=by unfold py;rw[if_pos i]
 have r:∀{F:Func}{a:Act},F.results=#[.tmp 6]->a.tmps.getD 6 undef=.int .i64 1->xf ai F (λv q=>v=.int .i64 (py b X)/\iR G Y (dn p (if py b X=0 then fY z X else z)::l) q) .ret a w:=λhr ht=>⟨.int .i64 1,by rw[results_tmp hr,ht],by rw[x],by rw[x,if_neg (by decide)];exact h⟩
 by_cases L:b<1;refine bG ?_;refine aJ g (.int .i64 b) ?_;walk_nrm;refine aJ g (.bool ak) ?_;walk_nrm;refine aJ g (.bool ak) ?_;walk_nrm;refine Eo rfl rfl ?_;walk_nrm;refine Eo rfl rfl ?_;walk_nrm;refine aJ g (.bool ak) ?_;walk_nrm;refine dx ?_;refine gU (t:=true) rfl ?_;rw[if_pos rfl];refine cu (bG ?_);refine aJ g (.int .i64 1) ?_;walk_nrm;refine dx ?_;refine og ?_;exact r rfl rfl;have S:8<b:=i.resolve_left L;refine bG ?_;refine aJ g (.int .i64 b) ?_;walk_nrm;refine aJ g (.bool aq) ?_;walk_nrm;refine aJ g (.bool aq) ?_;walk_nrm;refine aJ g (.int .i64 b) ?_;walk_nrm;refine aJ g (.bool ak) ?_;walk_nrm;refine aJ g (.bool ak) ?_;walk_nrm;refine dx ?_;refine gU (t:=true) rfl ?_;rw[if_pos rfl];refine cu (bG ?_);refine aJ g (.int .i64 1) ?_;walk_nrm;refine dx ?_;refine og ?_;exact r rfl rfl;have L:¬b<1:=λh=>i (.inl h)
 have S:¬8<b:=λh=>i (.inr h)
 have x:py b X=(dL X).2:=by unfold py;rw[if_neg i]
 obtain⟨hn,rfl⟩:∃hn:Nat,b=(hn:Int):=⟨b.toNat,by omega⟩;rw[x];refine bG ?_;refine aJ g (.int .i64 (hn:Int)) ?_;walk_nrm;refine aJ g (.bool aq) ?_;walk_nrm;refine aJ g (.bool aq) ?_;walk_nrm;refine aJ g (.int .i64 (hn:Int)) ?_;walk_nrm;refine aJ g (.bool aq) ?_;walk_nrm;refine aJ g (.bool aq) ?_;walk_nrm;refine dx ?_;refine gU (t:=false) rfl ?_;rw[if_neg (by simp)];refine mI ?_;show eU _ _ _ _ _ _ _ w;refine cu (bG ?_);refine aJ g (.slice A X.length c) ?_;walk_nrm;refine tX g (f:=36) (R:=λe q=>∃v,e=.returned (.tuple #[v,.int .i64 (dL X).2])/\iR G Y (ei v (dL X).1::dn p z::l) q) rfl rfl rfl (by show ux.contains (36)=ak;decide+kernel) (by kernel_rfl) (λK d=> ?_) (λe w ⟨_,h,_⟩=>⟨_,h⟩) (λv w K d ⟨_,h,Q⟩=>⟨_,h,Q.NF (.cons (dN.hp _ _ _ _ _) s)⟩) ?_;have E:=h.at_ s K 0 d;walk_nrm;refine(I2 A c X _ (fR.more (M.dG K 0 E.bare) (bD T E.size)) u).mono ?_;rintro e q ⟨v,rfl,ho,V⟩;exact⟨v,rfl,iR.of (In.tU E ho V)⟩;rintro _ D ⟨pv,e,k⟩;injection e with e;subst e;clear h;walk_nrm;have J:=aP (In.own (show In G _ _ D from k));obtain⟨y,C,e,_⟩:=J;subst e;refine aJ g (.tuple #[.slice y (dL X).1.length C,.int .i64 (dL X).2]) ?_;walk_nrm;refine aJ g (.slice y (dL X).1.length C) ?_;walk_nrm;refine aJ g (.int .i64 (dL X).2) ?_;walk_nrm;refine aJ g (.slice y (dL X).1.length C) ?_;walk_nrm;refine aJ g (.int .i64 (dL X).2) ?_;walk_nrm;refine dx ?_;show eU _ _ _ _ _ _ _ D;refine cu (cu ?_);by_cases o:(dL X).2=0;rotate_left;refine bG ?_;refine aJ g (.int .i64 (dL X).2) ?_;walk_nrm;refine aJ g (.bool ak) ?_;walk_nrm;refine dx ?_;refine gU (t:=true) rfl ?_;rw[if_pos rfl];refine cu (bG ?_);refine aJ g (.int .i64 (dL X).2) ?_;walk_nrm;refine aJ g (.int .i64 (dL X).2) ?_;walk_nrm;refine dx ?_;refine og ?_;refine⟨.int .i64 (dL X).2,by rw[results_tmp rfl];rfl,rfl,?_⟩;rw[if_neg o];exact In.drop k;simp only[Pk o,o]at k|-;refine bG ?_;refine aJ g (.int .i64 0) ?_;walk_nrm;refine aJ g (.bool aq) ?_;walk_nrm;refine dx ?_;refine gU (t:=false) rfl ?_;rw[if_neg (by simp)];refine mI ?_;show eU _ _ _ _ _ _ _ D;refine cu (cu ?_);refine bG ?_;refine aJ g (.int .i64 ((0:Nat):Int)) ?_;walk_nrm;refine dx ?_;show eU _ _ _ _ _ _ _ D;refine yh ?_;refine KG (QD O G Y l A c p hn X z (.slice y (cm X X.length).length C)) (X.length+1-0) ⟨0,_,_,_,_,_,_,_,_,_,_,_,_,_,_,_,_,_,_,_,_,_,_,_,_,_,_,_,_,_,_,_,_,_,_,_,_,_,_,_,_,_,_,_,_,_,_,_,_,_,_,_,_,_,_,_,_,_,_,_,_,_,_,_,_,_,_,_,_,_,_,_,_,_,_,rfl,rfl,bH _,?_⟩ λm a w2 U=> ?_
 ·rw[Mb];exact In.swap k
 refine uR (Mc hold N M W (by omega) (by omega) o U) λe a P j=> ?_
 match e,j with|.normal,j=>exact j|.exit 0,j=>obtain⟨K3,H⟩:=j;show eU _ _ _ _ _ _ _ P;refine cu (bG ?_);refine aJ g (.int .i64 0) ?_;refine dx ?_;refine og ?_;refine⟨.int .i64 0,?_,rfl,?_⟩;rw[results_tmp rfl];show Result.ok ((a.tmps.setIfInBounds 6 (.int .i64 0)).getD 6 undef) P=_;rw[bF,aQ (by omega)];rfl;rw[if_pos trivial];exact H|.exit (n+1),j=>exact j.elim|.ret,j=>exact j.elim|.goto _,j=>exact j.elim|.panic _,j=>exact j.elim|.outgrown,j=>exact j.elim
end
def mv.dG{G b B A c}(h:mv G b B A c)(g d):mv G (Rel.dG b g d) B A c:=λ{W} a=>by have e:In G b [] (Rel.dG W b.tape W.drawn):=⟨trivial,⟨a.only.os,rfl,a.only.output,a.only.size,a.only.block⟩⟩;have f:=h e;exact f
def iR.join{F d e f}(g:iR F d [] e)(h:iR F e [] f):iR F d [] f:=by have a:=g.only;have b:=h.only;exact⟨trivial,⟨b.os.trans a.os,rfl,b.output.trans a.output,bD a.size b.size,λk c hn=>(b.block k (bQ c a.size) hn).trans (a.block k c hn)⟩⟩
def iR.bare{F a w l}(h:iR F a l w):iR F a [] w:=In.bare (show In F _ _ w from h)
abbrev EO(g:Nat):cX:=aN g 36 #[.slice ah 0 0,.slice ah 0 0,.slice ah 0 0]
section
variable{O:vw} {Z:aB->ar->Prop} {G:Nat->Prop} {Y w:ar} {L:List cX} {X:eu} {W:Array Oper} {i:Nat} {V:List Nat} {o:Oper} {f:eu} {args:Array Operand} {U:Array cD} {Q:Exit->Act->ar->Prop} {a:Act}
def qx(R:aB->List cX->Prop)(y:W[i]? =af o)(z:aW o (yielded W a.tmps)=ak)(p:o.op=.call {callee:=.value (.func f),args,argTypes:=U})(t:ux.contains f=ak)(j:j8 ((lq O).at X) f 0 args.toList=ak)(x:sj L)(h:iR G Y L w)(s:∀v b,R v b->sj b)(k:∀c d,In G (Rel.dG Y c 0) L (Rel.dG w c d)->Calls ai f (args.map a.eval) (Rel.dG w c d) λe u=>∃v b,e=.returned v/\R v b/\In G (Rel.dG Y c 0) b u)(l:∀v b r,R v b->iR G Y b r->ox ai (lq O) Z X W V Q (a.put o.dst v) r):ox ai (lq O) Z X W (i::V) Q a w:=
 tX (mH O) (R:=λe u=>∃v b,e=.returned v/\R v b/\iR G Y b u) y z p t j
  (λc d=>(k c d (h.at_ x c 0 d)).mono λe u ⟨v,b,g,m,n⟩=>⟨v,b,g,m,iR.of n⟩) (λe u ⟨v,_,h,_⟩=>⟨v,h⟩)
  (λv u c d ⟨q,b,g,m,n⟩=>⟨q,b,g,m,n.NF (s q b m)⟩)
  λv u ⟨q,b,g,m,n⟩=>by injection g with g;subst g;exact l v b u m n
end
section
variable{O:vw} {Post:aB->ar->Prop} {A A':Option Addr} {c c':Nat} {w:ar}
def Wb(hold:O.n<=w.heap.size)(P:mv (λ_=>False) w w.heap.size A [y4])(Q:lp (λ_=>False) w w.heap.size A' [nC]):sr ai (lq O) Post 22 #[.slice A 1 c,.slice A' 1 c',.int .i64 0] w λv w'=>
 ∃L M J,v=.tuple #[.agg #[L,M,J],.int .i64 0]/\iR (λ_=>False) w (ei L (iw iY.ls)::bj M (fY iY [nC]).rows::dA J iY.B::[]) w':=by
 have s:jC iY:=by have:=jC.do_ jC.nil (o:=y4) rfl;rwa[NU]at this
 have F:=Mr;refine⟨_,_,func22,rfl,rfl,rfl,?_⟩;have a:=mH O;have H:f22.ntmps=35:=rfl;simp only[H,ez,eD,de,aU,ax,aM,Nat.reduceAdd,Nat.reduceSub,ed,eh,e8];simp only[f22];refine cu (bG ?_);refine fA a (w':=w.alloc (.cells #[.slice ah 0 0,.slice ah 0 0,.slice ah 0 0] 36)) (v:=ptr w.heap.size) rfl rfl (by kernel_rfl) ⟨rfl,rfl⟩ (λtp d=>by go_simp;exact⟨rfl,rfl⟩) ?_;walk_nrm;have z:iR (λ_=>False) w [EO w.heap.size] (w.alloc (.cells #[.slice ah 0 0,.slice ah 0 0,.slice ah 0 0] 36)):=iR.VE ((In.nil w (λ_=>False)).alloc 36 _);generalize w.alloc (.cells #[.slice ah 0 0,.slice ah 0 0,.slice ah 0 0] 36)=S at *;refine aJ a (.int .i64 0) ?_;walk_nrm;refine dx ?_;show eU _ _ _ _ _ _ _ S;refine cu (bG ?_);refine qx (f:=35) (λv k=>∃p,v=ptr p/\k=[dn p si,EO w.heap.size]) rfl rfl rfl (by decide+kernel) (by kernel_rfl) (.cons (aN.hp _ _ _) .nil) z (by rintro v k ⟨p,_,rfl⟩;exact .cons (dn.hp _ _) (.cons (aN.hp _ _ _) .nil)) (λtp d r=> ?_) ?_;walk_nrm;refine(NT r).mono ?_;rintro e u ⟨p,rfl,q⟩;exact⟨_,_,rfl,⟨p,rfl,rfl⟩,q⟩;rintro _ _ T ⟨p,rfl,rfl⟩ B;clear z;walk_nrm;refine aJ a (ptr p) ?_;walk_nrm;refine dx ?_;show eU _ _ _ _ _ _ _ T;refine cu (bG ?_);refine aJ a (ptr p) ?_;walk_nrm;refine aJ a (.slice A 1 c) ?_;walk_nrm;refine qx (f:=49) (λv k=>v=.tuple #[.int .i64 1,.int .i64 0]/\k=[dn p iY,EO w.heap.size]) rfl rfl rfl (by decide+kernel) (by kernel_rfl) (.cons (dn.hp _ _) (.cons (aN.hp _ _ _) .nil)) B (by rintro v k ⟨_,rfl⟩;exact .cons (dn.hp _ _) (.cons (aN.hp _ _ _) .nil)) (λtp d r=> ?_) ?_;walk_nrm;refine(abm (P.dG tp 0) r).mono ?_;rintro e u ⟨rfl,q⟩;exact⟨_,_,rfl,⟨rfl,rfl⟩,q⟩;rintro _ _ U ⟨rfl,rfl⟩ C;clear B;walk_nrm;refine aJ a (.tuple #[.int .i64 1,.int .i64 0]) ?_;walk_nrm;refine aJ a (.int .i64 1) ?_;walk_nrm;refine aJ a (.int .i64 0) ?_;walk_nrm;refine aJ a (.int .i64 1) ?_;walk_nrm;refine aJ a (.int .i64 0) ?_;walk_nrm;refine dx ?_;show eU _ _ _ _ _ _ _ U;refine cu (cu ?_);refine bG ?_;refine aJ a (.int .i64 0) ?_;walk_nrm;refine aJ a (.bool ak) ?_;walk_nrm;refine dx ?_;refine gU (t:=true) rfl ?_;rw[if_pos rfl];refine cu (bG ?_);refine aJ a (.int .i64 0) ?_;walk_nrm;refine aJ a (.bool ak) ?_;walk_nrm;refine dx ?_;refine gU (t:=true) rfl ?_;rw[if_pos rfl];refine bG ?_;refine aJ a (ptr p) ?_;walk_nrm;refine aJ a (.slice A' 1 c') ?_;walk_nrm;refine qx (f:=12) (λv k=>v=.int .i64 0/\k=[dn p (fY iY [nC]),EO w.heap.size]) rfl rfl rfl (by decide+kernel) (by kernel_rfl) (.cons (dn.hp _ _) (.cons (aN.hp _ _ _) .nil)) C (by rintro v k ⟨_,rfl⟩;exact .cons (dn.hp _ _) (.cons (aN.hp _ _ _) .nil)) (λtp d r=> ?_) ?_;walk_nrm;refine(LZ (c:=c') (Q.dG tp 0) (ao _) (by decide) r s).mono ?_;rintro e u ⟨rfl,q⟩;rw[F,if_pos rfl]at q;exact⟨_,_,rfl,⟨by rw[F],rfl⟩,q⟩;rintro _ _ N ⟨rfl,rfl⟩ D;clear C;walk_nrm;refine aJ a (.int .i64 0) ?_;walk_nrm;refine dx ?_;show eU _ _ _ _ _ _ _ N;refine cu (cu ?_);refine bG ?_;refine aJ a (.int .i64 0) ?_;walk_nrm;refine aJ a (.bool aq) ?_;walk_nrm;refine dx ?_;refine gU (t:=false) rfl ?_;rw[if_neg (by simp)];refine mI ?_;show eU _ _ _ _ _ _ _ N;refine cu (bG ?_);refine aJ a (ptr p) ?_;walk_nrm;refine qx (f:=16) (λv k=>∃g l i m j n,v=.agg #[.slice g (iw iY.ls).length l,.slice i (fY iY [nC]).rows.length m,.slice j iY.B.length n]/\k=[EO w.heap.size,ei (.slice g (iw iY.ls).length l) (iw iY.ls),bj (.slice i (fY iY [nC]).rows.length m) (fY iY [nC]).rows,dA (.slice j iY.B.length n) iY.B,dn p (fY iY [nC])]) rfl rfl rfl (by decide+kernel) (by kernel_rfl) (.cons (dn.hp _ _) (.cons (aN.hp _ _ _) .nil)) D (by rintro v k ⟨_,_,_,_,_,_,_,rfl⟩;exact .cons (aN.hp _ _ _) (.cons (dN.hp _ _ _ _ _) (.cons (dN.hp _ _ _ _ _) (.cons (dN.hp _ _ _ _ _) (.cons (dn.hp _ _) .nil))))) (λtp d r=> ?_) ?_;walk_nrm;refine(BW r (s.run [nC])).mono ?_;rintro e u ⟨g,l,i,m,j,n,rfl,q⟩;rw[(Nt iY [nC]).1,(Nt iY [nC]).2]at *;exact⟨_,_,rfl,⟨g,l,i,m,j,n,rfl,rfl⟩,q.reorder 5 [4,0,1,2,3] rfl (by simp)⟩;rintro _ _ y ⟨g,l,i,m,j,n,rfl,rfl⟩ x;clear D;walk_nrm;have K:∀tp d,fits (Rel.dG y tp d) w.heap.size 0 3=ak:=λtp d=>(In.blk (show In _ _ _ y from x)).fits 0 3 (by simp)
 have E:=iR.of (tp:=y.tape) (d:=w.drawn) (w0:=w) (In.LD (show In _ _ _ y from x) [.slice g (iw iY.ls).length l,.slice i (fY iY [nC]).rows.length m,.slice j iY.B.length n] rfl);refine xD a (w':=gD y w.heap.size 0 [.slice g (iw iY.ls).length l,.slice i (fY iY [nC]).rows.length m,.slice j iY.B.length n]) rfl rfl (by kernel_rfl) (λtp d=>by have h:=K tp d;go_simp;rfl) ?_;walk_nrm;clear x K;generalize gD y w.heap.size 0 [.slice g (iw iY.ls).length l,.slice i (fY iY [nC]).rows.length m,.slice j iY.B.length n]=I at *;refine aJ a (.int .i64 0) ?_;walk_nrm;refine dx ?_;refine og ?_;refine⟨.tuple #[.agg #[.slice g (iw iY.ls).length l,.slice i (fY iY [nC]).rows.length m,.slice j iY.B.length n],.int .i64 0],?_,_,_,_,rfl,?_⟩;have R:∀(G:Func)(b:Array aB),G.results=#[.cell 6 36,.tmp 7]->b.getD 6 undef=ptr w.heap.size->(results G b).run ai I=.ok (.tuple #[.agg #[.slice g (iw iY.ls).length l,.slice i (fY iY [nC]).rows.length m,.slice j iY.B.length n],b.getD 7 undef]) I:=λG b r q=>rY r b I w.heap.size 36 #[.slice g (iw iY.ls).length l,.slice i (fY iY [nC]).rows.length m,.slice j iY.B.length n] (0,0) _ q (In.blk E) underlying36 rfl oV
 exact R _ _ rfl rfl;exact In.drop (In.fourth (In.drop E))
end
section
variable{O:vw} {Post:aB->ar->Prop} {w:ar}
def ZI(hold:O.n<=w.heap.size):sr ai (lq O) Post 23 #[] w λv w'=>v=.bool ak/\iR (λ_=>False) w [] w':=by
 have P:∀o∈[y4],o.b.v.length=8:=by intro o L;rw[aO]at L;rw[L];rfl
 refine⟨_,_,func23,rfl,rfl,rfl,?_⟩;have a:=mH O;have I:f23.ntmps=30:=rfl;simp only[I,ez,eD,de,aU,ax,aM,Nat.reduceAdd,Nat.reduceSub,ed,eh,e8];simp only[f23];refine cu (bG ?_);refine aJ a (.bool aq) ?_;walk_nrm;refine dx ?_;show eU _ _ _ _ _ _ _ w;refine cu (bG ?_);refine fA a (w':=w) (v:=.agg (ints [3,0,0,0,0,0,0,0,0])) rfl rfl (by kernel_rfl) ⟨rfl,rfl⟩ (λtp d=>by kernel_rfl) ?_;walk_nrm;refine fA a (w':=w) (v:=.agg (ints [1,3,0,0,0,0,0,0,0,0,0,0,0,0,0,0])) rfl rfl (by kernel_rfl) ⟨rfl,rfl⟩ (λtp d=>by kernel_rfl) ?_;walk_nrm;refine fA a (w':=w.alloc (.cells (ints ([y4].flatMap mo.list)) 74)) (v:=.slice (af ⟨w.heap.size,0,ah⟩) 1 1) rfl rfl (by kernel_rfl) ⟨rfl,rfl⟩ (λtp d=>by kernel_rfl) ?_;walk_nrm;refine fA a (w':=w.alloc (.cells (ints ([y4].flatMap mo.list)) 74)) (v:=.agg (ints [0,0,0,0,2,1,7])) rfl rfl (by kernel_rfl) ⟨rfl,rfl⟩ (λtp d=>by kernel_rfl) ?_;walk_nrm;refine fA a (w':=(w.alloc (.cells (ints ([y4].flatMap mo.list)) 74)).alloc (.cells (ints ([nC].flatMap Sys.list)) 54)) (v:=.slice (af ⟨w.heap.size+1,0,ah⟩) 1 1) rfl rfl (by kernel_rfl) ⟨rfl,rfl⟩ (λtp d=>by rw[show w.heap.size+1=((w.alloc (.cells (ints ([y4].flatMap mo.list)) 74)).heap.size)by simp];kernel_rfl) ?_;walk_nrm;have H:In (λ_=>False) w [aN (w.heap.size+1) 54 (ints ([nC].flatMap Sys.list)),aN w.heap.size 74 (ints ([y4].flatMap mo.list))] ((w.alloc (.cells (ints ([y4].flatMap mo.list)) 74)).alloc (.cells (ints ([nC].flatMap Sys.list)) 54)):=by have:=((In.nil w (λ_=>False)).alloc 74 (ints ([y4].flatMap mo.list))).alloc 54 (ints ([nC].flatMap Sys.list));rw[bZ]at this;exact this
 have S:=mv.AF (F:=λ_=>False) H.swap.blk P (λh=>h) (In.nil _ _);have T:=lp.AF (F:=λ_=>False) H.blk (λh=>h) (In.nil _ _);have U:((w.alloc (.cells (ints ([y4].flatMap mo.list)) 74)).alloc (.cells (ints ([nC].flatMap Sys.list)) 54)).heap.size=w.heap.size+2:=by simp
 have Q:iR (λ_=>False) w [] ((w.alloc (.cells (ints ([y4].flatMap mo.list)) 74)).alloc (.cells (ints ([nC].flatMap Sys.list)) 54)):=iR.VE H.bare;generalize (w.alloc (.cells (ints ([y4].flatMap mo.list)) 74)).alloc (.cells (ints ([nC].flatMap Sys.list)) 54)=C at *;refine tW (f:=22) (R:=λv w'=>∃G J E,v=.tuple #[.agg #[G,J,E],.int .i64 0]/\iR (λ_=>False) C (ei G (iw [(0,ak)])::bj J [⟨(0,0),⟨3,[0,7,0,0,0,0,0,0]⟩⟩]::dA E []::[]) w') rfl rfl rfl (λj u D=>.inl ?_) ?_ ?_;rcases j with _|_|_|j;cases D;kernel_rfl;cases D;kernel_rfl;cases D;kernel_rfl;simp at D;walk_nrm;have:=Wb (O:=O) (Post:=Post) (A:=af ⟨w.heap.size,0,ah⟩) (A':=af ⟨w.heap.size+1,0,ah⟩) (c:=1) (c':=1) (w:=C) (by omega) (mv.AE (fR.more S (by omega))) (lp.AE (fR.more T (by omega)));rw[show(fY iY [nC]).rows=_ from Ms]at this;exact this;rintro _ e ⟨G,J,E,rfl,b⟩;obtain⟨r,t,rfl,_,_,_⟩:=aP (In.own (show In _ _ _ e from b));obtain⟨W,l,rfl,_,_,_⟩:=aP (In.own (In.swap (show In _ _ _ e from b)));obtain⟨s,x,rfl,_,_,_⟩:=aP (In.own (In.third (show In _ _ _ e from b)));obtain⟨g,rfl,_⟩:=vl (In.swap (show In _ _ _ e from b)) (k:=0) (by simp) rfl;walk_nrm;refine aJ a (.tuple #[.agg #[.slice r (iw [(0,ak)]).length t,.slice (af ⟨g,0,ah⟩) [(⟨(0,0),⟨3,[0,7,0,0,0,0,0,0]⟩⟩:cQ)].length l,.slice s ([]:List (Hd×Hd)).length x],.int .i64 0]) ?_;walk_nrm;refine aJ a (.agg #[.slice r (iw [(0,ak)]).length t,.slice (af ⟨g,0,ah⟩) [(⟨(0,0),⟨3,[0,7,0,0,0,0,0,0]⟩⟩:cQ)].length l,.slice s ([]:List (Hd×Hd)).length x]) ?_;walk_nrm;refine aJ a (.int .i64 0) ?_;walk_nrm;refine fA a (w':=e.alloc (.cells #[.slice ah 0 0,.slice ah 0 0,.slice ah 0 0] 36)) (v:=ptr e.heap.size) rfl rfl (by kernel_rfl) ⟨rfl,rfl⟩ (λtp d=>by go_simp;exact⟨rfl,rfl⟩) ?_;walk_nrm;have n:iR (λ_=>False) C (EO e.heap.size::ei (.slice r (iw [(0,ak)]).length t) (iw [(0,ak)])::bj (.slice (af ⟨g,0,ah⟩) [(⟨(0,0),⟨3,[0,7,0,0,0,0,0,0]⟩⟩:cQ)].length l) [⟨(0,0),⟨3,[0,7,0,0,0,0,0,0]⟩⟩]::dA (.slice s ([]:List (Hd×Hd)).length x) []::[]) (e.alloc (.cells #[.slice ah 0 0,.slice ah 0 0,.slice ah 0 0] 36)):=In.alloc (show In _ _ _ e from b) _ _;generalize e.alloc (.cells #[.slice ah 0 0,.slice ah 0 0,.slice ah 0 0] 36)=z at *;generalize e.heap.size=y at *;have K:∀tp d,fits (Rel.dG z tp d) y 0 3=ak:=λtp d=>(In.blk (show In _ _ _ z from n)).fits 0 3 (by simp)
 have p:=iR.of (tp:=z.tape) (d:=C.drawn) (w0:=C) (In.LD (show In _ _ _ z from n) [.slice r (iw [(0,ak)]).length t,.slice (af ⟨g,0,ah⟩) [(⟨(0,0),⟨3,[0,7,0,0,0,0,0,0]⟩⟩:cQ)].length l,.slice s ([]:List (Hd×Hd)).length x] rfl);refine xD a (w':=gD z y 0 [.slice r (iw [(0,ak)]).length t,.slice (af ⟨g,0,ah⟩) [(⟨(0,0),⟨3,[0,7,0,0,0,0,0,0]⟩⟩:cQ)].length l,.slice s ([]:List (Hd×Hd)).length x]) rfl rfl (by kernel_rfl) (λtp d=>by have h:=K tp d;go_simp;rfl) ?_;walk_nrm;clear b n K;generalize gD z y 0 [.slice r (iw [(0,ak)]).length t,.slice (af ⟨g,0,ah⟩) [(⟨(0,0),⟨3,[0,7,0,0,0,0,0,0]⟩⟩:cQ)].length l,.slice s ([]:List (Hd×Hd)).length x]=i at *;refine aJ a (.int .i64 0) ?_;walk_nrm;refine dx ?_;show eU _ _ _ _ _ _ _ i;have M:∀tp d,(Rel.dG i tp d).cell? ⟨y,1,ah⟩=af (.slice (af ⟨g,0,ah⟩) 1 l):=λtp d=>(In.blk (show In _ _ _ i from p)).cell 1
 obtain⟨m,B,q⟩:=vl (In.third (show In _ _ _ i from p)) (k:=0) (by simp) rfl;have N:m=g:=by injection B with B;injection B with B;exact B.symm
 subst N;refine cu (bG ?_);have V:∀tp d,row? (Rel.dG i tp d) m 3 8=af (ints [0,7,0,0,0,0,0,0]):=λtp d=>ud q 3 8 (by omega)
 refine aJ a (.int .i64 0) ?_;walk_nrm;refine aJ a (.bool ak) ?_;walk_nrm;refine aJ a (.bool ak) ?_;walk_nrm;refine aJ a (.pointer (af ⟨y,1,ah⟩)) ?_;walk_nrm;refine fA a (w':=i) (v:=.slice (af ⟨m,0,ah⟩) 1 l) rfl rfl (by kernel_rfl) ⟨rfl,rfl⟩ (λtp d=>by have h:=M tp d;go_simp) ?_;walk_nrm;refine aJ a (.int .i64 1) ?_;walk_nrm;refine aJ a (.bool ak) ?_;walk_nrm;refine aJ a (.bool ak) ?_;walk_nrm;refine aJ a (.bool ak) ?_;walk_nrm;refine aJ a (.pointer (af ⟨y,1,ah⟩)) ?_;walk_nrm;refine fA a (w':=i) (v:=.slice (af ⟨m,0,ah⟩) 1 l) rfl rfl (by kernel_rfl) ⟨rfl,rfl⟩ (λtp d=>by have h:=M tp d;go_simp) ?_;walk_nrm;refine aJ a (.pointer (af ⟨m,0,ah⟩)) ?_;walk_nrm;refine aJ a (.pointer (af ⟨m,2,ah⟩)) ?_;walk_nrm;refine aJ a (.pointer (af ⟨m,3,ah⟩)) ?_;walk_nrm;refine fA a (w':=i) (v:=.agg (ints [0,7,0,0,0,0,0,0])) rfl rfl (by kernel_rfl) ⟨rfl,rfl⟩ (λtp d=>by have h:=V tp d;go_simp) ?_;walk_nrm;refine fA a (w':=i) (v:=.agg (ints [0,7,0,0,0,0,0,0])) rfl rfl (by kernel_rfl) ⟨rfl,rfl⟩ (λtp d=>by kernel_rfl) ?_;walk_nrm;refine fA a (w':=i) (v:=.bool ak) rfl rfl (by kernel_rfl) ⟨rfl,rfl⟩ (λtp d=>by kernel_rfl) ?_;walk_nrm;refine aJ a (.bool ak) ?_;walk_nrm;refine aJ a (.bool ak) ?_;walk_nrm;refine dx ?_;refine og ⟨.bool ak,by rw[results_tmp rfl];rfl,rfl,?_⟩;exact Q.join (iR.bare p)
end
end
section
open Go.RowKit
section
variable{G:Nat->Prop} {Z w:ar} {l:List cX} {E:cD} {m n c:Nat} {A:Option Addr} {Y:List aB}
def AN(h:w.ownsRow 0 E m (.slice A n c) n Y):(A=ah/\n=0/\c=0)\/∃a,A=af a:=by
 cases A with
 |some a=>exact .inr ⟨a,rfl⟩|none=>left;refine⟨rfl,?_⟩;rcases h.2 with h|⟨g,b,d,e,_⟩;injection h.1 with j f i;exact⟨f,i⟩;cases e
def wo{Y}{b:Type}{f:b->List Int}{l:List b}(e:Y=l.flatMap λx=>(f x).map (aD .i64)):∀u∈Y,u.oneCell'=ak:=by intro u a;rw[e]at a;obtain⟨x,_,c⟩:=List.mem_flatMap.1 a;obtain⟨y,_,rfl⟩:=aA.1 c;rfl
def om{a v}(h:In G Z l w)(d:w.ownsRow 0 50 11 v a.length (a.flatMap iK))(n:a.length<=879609302190):Calls ai 60 #[v] w λe g=>∃b,e=.returned b/\In G Z (bj b a::l) g/\Below w.heap.size w g:=by obtain⟨A,c,rfl,_⟩:=aP d;refine(wG A a.length c _ w _ (Reads.oK d) (wo (f:=pK) rfl) (AN d) (by omega)).mono ?_;rintro e g ⟨b,rfl,j,i⟩;exact⟨b,rfl,h.new (A:=bj b a) i ⟨qz j,λk m=>(fa j k m).1⟩,i⟩
def xL{a v}(h:In G Z l w)(d:w.ownsRow 0 3 1 v a.length (a.map (aD .i64)))(n:a.length<=879609302190):Calls ai 62 #[v] w λe f=>∃b,e=.returned b/\In G Z (ei b a::l) f/\Below w.heap.size w f:=by obtain⟨A,c,rfl,_⟩:=aP d;refine(Gf A a.length c _ w _ (Reads.oK d) (λu m=>by obtain⟨y,_,rfl⟩:=aA.1 m;rfl) (AN d) (by omega)).mono ?_;rintro e f ⟨b,rfl,i,g⟩;exact⟨b,rfl,h.new (A:=ei b a) g ⟨qz i,λk j=>(fa i k j).1⟩,g⟩
def xK{a v}(h:In G Z l w)(g:w.ownsRow 0 45 4 v a.length (a.flatMap bC))(o:a.length<=879609302190):Calls ai 63 #[v] w λe i=>∃d,e=.returned d/\In G Z (dA d a::l) i/\Below w.heap.size w i:=by obtain⟨A,c,rfl,_⟩:=aP g;refine(uC A a.length c _ w _ (Reads.oK g) (wo (f:=λb:Hd×Hd=>[b.1.1,b.1.2,b.2.1,b.2.2]) rfl) (AN g) (by omega)).mono ?_;rintro e i ⟨d,rfl,m,j⟩;exact⟨d,rfl,h.new (A:=dA d a) j ⟨qz m,λk n=>(fa m k n).1⟩,j⟩
def PR{p g lv r b n m k}(h:In G Z (cE p g lv r b::ei g n::bj r m::dA b k::l) w)(h1:n.length<=60)(h2:m.length<=60)(h3:k.length<=60):Calls ai 27 #[ptr p] w λe w'=>∃v1 v2 v3,e=.returned (.agg #[v1,v2,v3])/\In G Z (dA v3 k::bj v2 m::ei v1 n::cE p g lv r b::ei g n::bj r m::dA b k::l) w':=by
 have H0:=ae h;obtain⟨y,B,rfl,_⟩:=aP h.swap.rowAt;obtain⟨z,C,rfl,_⟩:=aP h.third.rowAt;obtain⟨A,D,rfl,_⟩:=aP h.fourth.rowAt;clear h;go_enter func27,ntmps27;go_upto_region 1 with(fail)
 refine a6 (In G Z (aN w.heap.size 36 #[.slice ah 0 0,.slice ah 0 0,.slice ah 0 0]::cE p (.slice y n.length B) lv (.slice z m.length C) (.slice A k.length D)::ei (.slice y n.length B) n::bj (.slice z m.length C) m::dA (.slice A k.length D) k::l)) (H0.out.alloc 36 #[.slice ah 0 0,.slice ah 0 0,.slice ah 0 0]) ?_;generalize w.heap.size=K;intro q i;have c0:q.cell? ⟨p,0,ah⟩=af (.slice y n.length B):=i.swap.blk.cell 0;have c2:q.cell? ⟨p,2,ah⟩=af (.slice z m.length C):=i.swap.blk.cell 2;have c3:q.cell? ⟨p,3,ah⟩=af (.slice A k.length D):=i.swap.blk.cell 3;have c4:fits q K 0 3=ak:=i.blk.fits 0 3 (by simp);have x:=ae i.swap.blk;have L:=ae i.blk;have H:Hid (∀W,Below q.heap.size q W->W.ownsRow 0 3 1 (.slice y n.length B) n.length (n.map (aD .i64))):=λW a=>lS i.third.rowAt a
 have I:Hid (∀W,Below q.heap.size q W->W.ownsRow 0 50 11 (.slice z m.length C) m.length (m.flatMap iK)):=λW a=>lS i.fourth.rowAt a
 have J:Hid (∀W,Below q.heap.size q W->W.ownsRow 0 45 4 (.slice A k.length D) k.length (k.flatMap bC)):=λW a=>lS (i.nth 4 (by simp)).rowAt a
 have v:Hid (∀W,Below q.heap.size q W->W.cell? ⟨p,0,ah⟩=af (.slice y n.length B)/\W.cell? ⟨p,2,ah⟩=af (.slice z m.length C)/\W.cell? ⟨p,3,ah⟩=af (.slice A k.length D)/\fits W K 0 3=ak):=λW a=>⟨(x.out.after a).cell 0,(x.out.after a).cell 2,(x.out.after a).cell 3,(L.out.after a).fits 0 3 (by simp)⟩
 have F:Hid (p≠K):=i.swap.apart;have E:=ae i;have j:Hid (Below q.heap.size q q):=Below.refl _ _;clear i H0 x L
 go_region_held3 (λW=>W.cell? ⟨p,0,ah⟩=af (.slice y n.length B)/\W.cell? ⟨p,2,ah⟩=af (.slice z m.length C)/\W.cell? ⟨p,3,ah⟩=af (.slice A k.length D)/\fits W K 0 3=ak)
  (first|(refine⟨?_,?_,?_,?_⟩<;>assumption)|(refine⟨od F.out ?_,od F.out ?_,od F.out ?_,?_⟩;all_goals first|assumption|exact yo (by assumption) rfl))
  (first
    |(go_at_call 62;refine(xL u.out (H.out _ f.out) (by omega)).mono ?_;rintro e w7 ⟨_,rfl,c,a⟩;obtain⟨X1,x1,rfl,_⟩:=aP c.rowAt;have o:=ae c;have s:=ae (f.out.trans (a.mono (f.out).size));obtain⟨V,X,Y,t34⟩:=v.out _ s.out;clear c a)
    |(go_at_call 60;refine(om u.out (I.out _ f.out) (by omega)).mono ?_;rintro e w7 ⟨_,rfl,c,a⟩;obtain⟨X2,x2,rfl,_⟩:=aP c.rowAt;have o:=ae c;have s:=ae (f.out.trans (a.mono (f.out).size));obtain⟨V,X,Y,t34⟩:=v.out _ s.out;clear c a)
    |(go_at_call 63;refine(xK u.out (J.out _ f.out) (by omega)).mono ?_;rintro e w7 ⟨_,rfl,c,a⟩;obtain⟨X3,x3,rfl,_⟩:=aP c.rowAt;have o:=ae c;have s:=ae (f.out.trans (a.mono (f.out).size));obtain⟨V,X,Y,t34⟩:=v.out _ s.out;clear c a)
    |(go_at_call 62;refine(xL t.out (H.out _ d.out) (by omega)).mono ?_;rintro e w6 ⟨_,rfl,c,a⟩;obtain⟨X1,x1,rfl,_⟩:=aP c.rowAt;have u:=ae c;have f:=ae (d.out.trans (a.mono (d.out).size));obtain⟨R,S,T,U⟩:=v.out _ f.out;clear c a)
    |(go_at_call 60;refine(om t.out (I.out _ d.out) (by omega)).mono ?_;rintro e w6 ⟨_,rfl,c,a⟩;obtain⟨X2,x2,rfl,_⟩:=aP c.rowAt;have u:=ae c;have f:=ae (d.out.trans (a.mono (d.out).size));obtain⟨R,S,T,U⟩:=v.out _ f.out;clear c a)
    |(go_at_call 63;refine(xK t.out (J.out _ d.out) (by omega)).mono ?_;rintro e w6 ⟨_,rfl,c,a⟩;obtain⟨X3,x3,rfl,_⟩:=aP c.rowAt;have u:=ae c;have f:=ae (d.out.trans (a.mono (d.out).size));obtain⟨R,S,T,U⟩:=v.out _ f.out;clear c a)
    |(go_at_call 62;refine(xL E.out.drew (H.out _ j.out.drew) (by omega)).mono ?_;rintro e w5 ⟨_,rfl,c,a⟩;obtain⟨X1,x1,rfl,_⟩:=aP c.rowAt;have t:=ae c;have d:=ae (j.out.drew.trans (a.mono (j.out.drew).size));obtain⟨N,O,P,Q⟩:=v.out _ d.out;clear c a)
    |(go_at_call 60;refine(om E.out.drew (I.out _ j.out.drew) (by omega)).mono ?_;rintro e w5 ⟨_,rfl,c,a⟩;obtain⟨X2,x2,rfl,_⟩:=aP c.rowAt;have t:=ae c;have d:=ae (j.out.drew.trans (a.mono (j.out.drew).size));obtain⟨N,O,P,Q⟩:=v.out _ d.out;clear c a)
    |(go_at_call 63;refine(xK E.out.drew (J.out _ j.out.drew) (by omega)).mono ?_;rintro e w5 ⟨_,rfl,c,a⟩;obtain⟨X3,x3,rfl,_⟩:=aP c.rowAt;have t:=ae c;have d:=ae (j.out.drew.trans (a.mono (j.out.drew).size));obtain⟨N,O,P,Q⟩:=v.out _ d.out;clear c a))
 all_goals
  have M:In G Z (dA (.slice X3 k.length x3) k::bj (.slice X2 m.length x2) m::ei (.slice X1 n.length x1) n::aN K 36 #[.slice ah 0 0,.slice ah 0 0,.slice ah 0 0]::cE p (.slice y n.length B) lv (.slice z m.length C) (.slice A k.length D)::ei (.slice y n.length B) n::bj (.slice z m.length C) m::dA (.slice A k.length D) k::l) w7:=by
   first
    |exact o.out.reorder 3 [0,1,2] rfl (by simp)
    |exact o.out.reorder 3 [0,2,1] rfl (by simp)
    |exact o.out.reorder 3 [1,0,2] rfl (by simp)
    |exact o.out.reorder 3 [1,2,0] rfl (by simp)
    |exact o.out.reorder 3 [2,0,1] rfl (by simp)
    |exact o.out.reorder 3 [2,1,0] rfl (by simp)
  have HE:=ae (In.LD (In.fourth M) [.slice X1 n.length x1,.slice X2 m.length x2,.slice X3 k.length x3] rfl);clear M;go_wp2_with fail;refine kP rfl K 36 _ _ rfl HE.out.blk underlying36 rfl oV rfl ?_;exact⟨_,_,_,rfl,HE.out.drop⟩
end
section
variable{G:Nat->Prop} {Z w:ar} {l:List cX} {x:Hd}
def tH{A c a}(h:In G Z (dA (.slice A a.length c) a::l) w){i}(b):∃g,A=af ⟨g,0,ah⟩/\row? w g (i *4) 4=af (ints [a[i].1.1,a[i].1.2,a[i].2.1,a[i].2.2]):=by obtain⟨g,e,_,d⟩:=Lx xc h.own b;exact⟨g,e,d⟩
def Gs{a v}{f d:Nat}(q:cQ->Bool)(hE:∀args w,(callFunc f args).run ai w=.ok (.enter f args) w)(HC:∀r∈a,∀W,row? W d 0 2=af (ints (hL x))->Calls ai f #[.agg (ints (r.list)),.pointer (af ⟨d,0,ah⟩)] W λe W'=>e=.returned (.bool (q r))/\Below W.heap.size W W')(h:In G Z (bj v a::aN d 43 (ints (hL x))::l) w)(h8:∀r∈a,r.b.v.length=8)(hl:a.length<=20000):Calls ai 119 #[v,.func (.func f) #[] #[.pointer (af ⟨d,0,ah⟩)]] w λe w'=>∃T,e=.returned T/\In G Z (bj T (a.filter λr=> !q r)::bj v a::aN d 43 (ints (hL x))::l) w':=by
 have U:=ae HC;have HX:Hid ((hL x).length=2):=rfl;generalize hL x=C at *;have H8:=ae h8;clear h8;obtain⟨A,c,rfl,_,_,_⟩:=aP h.rowAt;have H:Hid (In G Z (bj (.slice ah 0 0) ((a.take 0).filter λr=> !q r)::bj (.slice A a.length c) a::aN d 43 (ints C)::l) w):=h.kz _ _;obtain⟨i0,uT,sS,sT,sa⟩:=info_parts xM;have RP:(a.length:Int)<=20000:=by omega
 clear h HC;go_enter func119,ntmps119;go_wp2_with fail;go_loopw [5,10] (λv i w'=>∃k:Nat,k<=a.length/\i=.int .i64 k/\In G Z (bj v ((a.take k).filter λr=> !q r)::bj (.slice A a.length c) a::aN d 43 (ints C)::l) w') (λ_ i _=>a.length-(intOf i).toNat)
 case atStart=>exact⟨0,by omega,rfl,H.out⟩
 case round=>
  clear H;obtain⟨k,hk,rfl,z⟩:=hrel;by_cases n:k<a.length
  ·have rW:(k:Int)<a.length:=by omega
   obtain⟨gb,rfl,q1⟩:=oS z.swap H8.out n;have g:(a[k]).list.length=11:=by simp[cQ.list,bw.list,H8.out _ (aF n)]
   have S:Hid (((a.take (k+1)).filter λr=> !q r)=((a.take k).filter λr=> !q r)++(if q a[k]then []else [a[k]])):=by unfold Hid;rw[aV n,List.filter_append];congr 1;cases B:q a[k]<;>simp[B]
   have E:Hid (∀W,row? W d 0 2=af (ints C)->Calls ai f #[.agg (ints (a[k].list)),.pointer (af ⟨d,0,ah⟩)] W λe W'=>e=.returned (.bool (q a[k]))/\Below W.heap.size W W'):=λW hW=>U.out _ (aF n) W hW
   have KZ:((a.take k).filter λr=> !q r).length<=20000:=bD (iE _ _) (by rw[cR];omega);have R:=ae z;clear z;generalize ((a.take k).filter λr=> !q r)=L at *;generalize Q:((a.take (k+1)).filter λr=> !q r)=p at *;have F:=ae Q;clear Q;generalize hr0:a[k]=r at *;have Y:Hid (iK r=(r.list).map (aD .i64)):=by unfold Hid iK pK;rw[Fp g]
   clear hr0;generalize Y2:(r.list)=D at *;have o:D.length=11:=g;clear g Y2;have HYL:=ae o;go_upto_region 5 with(fail)
   refine a6 (In G Z (aN wr.heap.size 50 (ints D)::bj u5 L::bj (.slice (af ⟨gb,0,ah⟩) a.length c) a::aN d 43 (ints C)::l)) (R.out.struct 50 [0,0,0,0,0,0,0,0,0,0,0] _ o) ?_;generalize wr.heap.size=yb;intro w2 m;have q2:row? w2 yb 0 11=af (ints D):=m.blk.aL o;have V:=ae (E.out w2 (m.fourth.blk.aL HX.out));have I:=ae m;clear m q1 R E;go_wp2_with fail;refine V.out.mono ?_;rintro e w3 ⟨rfl,P⟩;have b:=ae (I.out.below P);have q3:row? w3 yb 0 11=af (ints D):=b.out.blk.aL o;clear P I q2;cases B:q r
   ·rw[B]at S;have j:=ae b.out.drop;have K:=ae b.out.drop.rowAt;have s:∀u∈D.map (aD .i64),u.oneCell'=ak:=by intro u hu;obtain⟨y,_,rfl⟩:=aA.1 hu;rfl
    have J:=ae s;clear s b B;go_wp2_with (at_builtin;go_loud (refine dv rfl _ _ _ rfl 0 50 i0 _ 11 88 underlying33 uT sS sT sa rfl (by decide) _ L.length _ rfl K.out (D.map (aD .i64)) rfl (by rw[aY];exact HYL.out) J.out (by unfold maxLen;omega) (by omega) (bH _) ?_));intro T w4 t hg O;have M:=In.o6 j.out t hg O;have N:In G Z (bj T p::bj (.slice (af ⟨gb,0,ah⟩) a.length c) a::aN d 43 (ints C)::l) w4:=by rw[S.out];unfold bj;rw[if_neg (by simp),bm,bS,bJ,List.flatMap_nil,cK,Y.out];exact M
    have X:=ae N;clear t hg O M N q3 j K;go_wp2_with fail;go_roundw
    case rel=>exact⟨k+1,by omega,by go_num,by rw[F.out];exact X.out⟩
    simp[intOf];omega
   rw[B]at S;have j:Hid (In G Z (bj u5 p::bj (.slice (af ⟨gb,0,ah⟩) a.length c) a::aN d 43 (ints C)::l) w3):=by rw[S.out,if_pos rfl,cK];exact b.out.drop
   clear b q3 B;go_wp2_with fail;go_roundw
   case rel=>exact⟨k+1,by omega,by go_num,by rw[F.out];exact j.out⟩
   simp[intOf];omega
  have:k=a.length:=by omega
  subst this;rw[cq]at z;have R:=ae z;clear z;go_wp2_with fail;go_ret;exact⟨_,rfl,R.out⟩
def rN{a v}{f d:Nat}(q:(Hd×Hd)->Bool)(hE:∀args w,(callFunc f args).run ai w=.ok (.enter f args) w)(HC:∀r∈a,∀W,row? W d 0 2=af (ints (hL x))->Calls ai f #[.agg (ints ([r.1.1,r.1.2,r.2.1,r.2.2])),.pointer (af ⟨d,0,ah⟩)] W λe W'=>e=.returned (.bool (q r))/\Below W.heap.size W W')(h:In G Z (dA v a::aN d 43 (ints (hL x))::l) w)(hl:a.length<=20000):Calls ai 113 #[v,.func (.func f) #[] #[.pointer (af ⟨d,0,ah⟩)]] w λe w'=>∃T,e=.returned T/\In G Z (dA T (a.filter λr=> !q r)::dA v a::aN d 43 (ints (hL x))::l) w':=by
 have U:=ae HC;have HX:Hid ((hL x).length=2):=rfl;generalize hL x=C at *;obtain⟨A,c,rfl,_,_,_⟩:=aP h.rowAt;have H:Hid (In G Z (dA (.slice ah 0 0) ((a.take 0).filter λr=> !q r)::dA (.slice A a.length c) a::aN d 43 (ints C)::l) w):=h.kz _ _;obtain⟨i0,uT,sS,sT,sa⟩:=info_parts uP;have RP:(a.length:Int)<=20000:=by omega
 clear h HC;go_enter func113,ntmps113;go_wp2_with fail;go_loopw [5,10] (λv i w'=>∃k:Nat,k<=a.length/\i=.int .i64 k/\In G Z (dA v ((a.take k).filter λr=> !q r)::dA (.slice A a.length c) a::aN d 43 (ints C)::l) w') (λ_ i _=>a.length-(intOf i).toNat)
 case atStart=>exact⟨0,by omega,rfl,H.out⟩
 case round=>
  clear H;obtain⟨k,hk,rfl,z⟩:=hrel;by_cases t:k<a.length
  ·have rW:(k:Int)<a.length:=by omega
   obtain⟨gb,rfl,q1⟩:=tH z.swap t;have o:[a[k].1.1,a[k].1.2,a[k].2.1,a[k].2.2].length=4:=rfl;have S:Hid (((a.take (k+1)).filter λr=> !q r)=((a.take k).filter λr=> !q r)++(if q a[k]then []else [a[k]])):=by unfold Hid;rw[aV t,List.filter_append];congr 1;cases B:q a[k]<;>simp[B]
   have E:Hid (∀W,row? W d 0 2=af (ints C)->Calls ai f #[.agg (ints ([a[k].1.1,a[k].1.2,a[k].2.1,a[k].2.2])),.pointer (af ⟨d,0,ah⟩)] W λe W'=>e=.returned (.bool (q a[k]))/\Below W.heap.size W W'):=λW hW=>U.out _ (aF t) W hW
   have KZ:((a.take k).filter λr=> !q r).length<=20000:=bD (iE _ _) (by rw[cR];omega);have R:=ae z;clear z;generalize ((a.take k).filter λr=> !q r)=L at *;generalize Q:((a.take (k+1)).filter λr=> !q r)=n at *;have F:=ae Q;clear Q;generalize hr0:a[k]=r at *;have Y:Hid (bC r=([r.1.1,r.1.2,r.2.1,r.2.2]).map (aD .i64)):=rfl;clear hr0;generalize Y2:([r.1.1,r.1.2,r.2.1,r.2.2])=D at *;have m:D.length=4:=o;clear o Y2;have HYL:=ae m;go_upto_region 5 with(fail)
   refine a6 (In G Z (aN wr.heap.size 45 (ints D)::dA u5 L::dA (.slice (af ⟨gb,0,ah⟩) a.length c) a::aN d 43 (ints C)::l)) (R.out.struct 45 [0,0,0,0] _ m) ?_;generalize wr.heap.size=yb;intro w2 j;have q2:row? w2 yb 0 4=af (ints D):=j.blk.aL m;have V:=ae (E.out w2 (j.fourth.blk.aL HX.out));have I:=ae j;clear j q1 R E;go_wp2_with fail;refine V.out.mono ?_;rintro e w3 ⟨rfl,P⟩;have b:=ae (I.out.below P);have q3:row? w3 yb 0 4=af (ints D):=b.out.blk.aL m;clear P I q2;cases B:q r
   ·rw[B]at S;have g:=ae b.out.drop;have K:=ae b.out.drop.rowAt;have p:∀u∈D.map (aD .i64),u.oneCell'=ak:=by intro u hu;obtain⟨y,_,rfl⟩:=aA.1 hu;rfl
    have J:=ae p;clear p b B;go_wp2_with (at_builtin;go_loud (refine dv rfl _ _ _ rfl 0 45 i0 _ 4 32 underlying34 uT sS sT sa rfl (by decide) _ L.length _ rfl K.out (D.map (aD .i64)) rfl (by rw[aY];exact HYL.out) J.out (by unfold maxLen;omega) (by omega) (bH _) ?_));intro T w4 s hg O;have M:=In.o6 g.out s hg O;have N:In G Z (dA T n::dA (.slice (af ⟨gb,0,ah⟩) a.length c) a::aN d 43 (ints C)::l) w4:=by rw[S.out];unfold dA;rw[if_neg (by simp),bm,bS,bJ,List.flatMap_nil,cK,Y.out];exact M
    have X:=ae N;clear s hg O M N q3 g K;go_wp2_with fail;go_roundw
    case rel=>exact⟨k+1,by omega,by go_num,by rw[F.out];exact X.out⟩
    simp[intOf];omega
   rw[B]at S;have g:Hid (In G Z (dA u5 n::dA (.slice (af ⟨gb,0,ah⟩) a.length c) a::aN d 43 (ints C)::l) w3):=by rw[S.out,if_pos rfl,cK];exact b.out.drop
   clear b q3 B;go_wp2_with fail;go_roundw
   case rel=>exact⟨k+1,by omega,by go_num,by rw[F.out];exact g.out⟩
   simp[intOf];omega
  have:k=a.length:=by omega
  subst this;rw[cq]at z;have R:=ae z;clear z;go_wp2_with fail;go_ret;exact⟨_,rfl,R.out⟩
end
def xq(a x):sk a x= -1\/∃k:Nat,∃b:k<a.length,sk a x=k/\a[k].h=x:=by
 unfold sk;cases h:a.findIdx? (λr=>decide (r.h=x))with|none=>exact .inl rfl|some k=>obtain⟨b,c,_⟩:=List.findIdx?_eq_some_iff_getElem.1 h;exact .inr ⟨k,b,rfl,by simpa using c⟩
def LC(b:List cQ)(x:Hd)(a n:Int):List cQ×Int:=
 if sk b x<0 then(b,7)else if¬(0<=a/\a<8)\/n< -1000000000\/1000000000<n then(b,1)
 else(b.set (sk b x).toNat ⟨x,pJ (b.getD (sk b x).toNat aE).b a.toNat n⟩,0)
def zU(b:List cQ)(x:Hd)(a:Int):List cQ×Int:=
 if sk b x<0 then(b,7)else if¬(0<=a/\a<8)then(b,1)
 else if(b.getD (sk b x).toNat aE).b.k.toNat.testBit a.toNat=aq then(b,5)
 else(b.set (sk b x).toNat ⟨x,nP (b.getD (sk b x).toNat aE).b a.toNat⟩,0)
section
variable{G:Nat->Prop} {Z w:ar} {l:List cX} {g p c k j:Nat} {Y:List cQ}
def In.po(h:In G Z (bj (.slice (af ⟨g,0,ah⟩) Y.length c) Y::l) w)(e)(b:Y[k].b.v.length=8){y}(d:Y[k].list[j]? =af y)(a:j<11):w.cell? ⟨g,k *11+j,ah⟩=af (.int .i64 y)/\w.frozen? ⟨g,k *11+j,ah⟩=aq:=by refine AL h.rowAt ?_;rw[np lx Y k j e a];unfold iK;rw[pq b,dX,d];rfl
def In.Gk(h:In G Z (bj (.slice (af ⟨g,0,ah⟩) Y.length c) Y::l) w)(s)(n:Y[k].b.v.length=8)(r:j<11)(a y)(p:a.list=Y[k].list.set j y)(b:a.b.v.length=8):In G Z (bj (.slice (af ⟨g,0,ah⟩) Y.length c) (Y.set k a)::l) (w.setCell ⟨g,k *11+j,ah⟩ (.int .i64 y)):=by obtain⟨u,⟨m,d⟩,_,o⟩:=h.open_;have f:=tc (.int .i64 y) m (i:=k *11+j) (by omega);rw[oG lx Y k j a (.int .i64 y) s r (by unfold iK;rw[pq n,pq b,p,jG])]at f;refine o (A':=bj (.slice (af ⟨g,0,ah⟩) Y.length c) (Y.set k a)) ⟨by rw[cx];exact f,λq t=>Or.inl (d q t)⟩ ?_;exact((cT.refl (F:=(· =g))).setCell (Or.inl rfl) _ _).mono λk _ e=>d k (by rw[e];rfl)
variable{A:Option Addr} {X W b:aB}
def AS(m:Nat)(hm:m<=20)(w):Calls ai 71 #[.int .i64 m] w λe a=>e=.returned (.int .i64 ((2^m:Nat):Int))/\a=w:=(Eu m w hm).mono λ_ _ h=>⟨h.1,h.2.symm⟩
def Rf(h:In G Z (cE p X W (.slice A Y.length c) b::bj (.slice A Y.length c) Y::l) w)(h8:∀r∈Y,bx r.b=0/\r.b.v.length=8)(TW:Y.length<=60)(x a n):Calls ai 51 #[ptr p,iU x,.int .i64 a,.int .i64 n] w λe w'=>e=.returned (.int .i64 (LC Y x a n).2)/\∃A' o,In G Z (cE p X W (.slice A' Y.length o) b::bj (.slice A' Y.length o) (LC Y x a n).1::l) w':=by
 have H0:=ae h;have H8:=ae h8;have d:Hid (LC Y x a n=if sk Y x<0 then(Y,7)else if¬(0<=a/\a<8)\/n< -1000000000\/1000000000<n then(Y,1)else(Y.set (sk Y x).toNat ⟨x,pJ (Y.getD (sk Y x).toNat aE).b a.toNat n⟩,0)):=rfl
 have P:=ae (xq Y x);have RP:(Y.length:Int)<=60:=by omega
 obtain⟨g,i⟩:=x;clear h h8;generalize Kj:LC Y (g,i) a n=pl at *;clear Kj;show Calls ai 51 #[ptr p,.agg (ints [g,i]),.int .i64 a,.int .i64 n] w _;go_enter func51,ntmps51;go_upto_region 1 with(fail)
 refine a6 (In G Z (aN w.heap.size 43 (ints [g,i])::cE p X W (.slice A Y.length c) b::bj (.slice A Y.length c) Y::l)) (H0.out.alloc 43 (ints [g,i])) ?_;generalize w.heap.size=hb;intro w1 S;have q2:row? w1 hb 0 2=af (ints [g,i]):=S.blk.aL rfl;have y6:=ae (S.drop);clear S H0;go_wp2_with fail;refine(LQ y6.out (λr hr=>(H8.out r hr).2) (g,i)).mono ?_;rintro e w2 ⟨rfl,Ik⟩;have u:=ae Ik;clear Ik y6 q2;obtain v|⟨k,hk,v,hkh⟩:=P.out
 ·rw[v]at d;rw[if_pos (by decide)]at d;rw[v];clear v P;go_wp2_with fail;go_ret;exact⟨cZ (by rw[d.out]),A,c,by rw[d.out];exact u.out⟩
 rw[v]at d;rw[if_neg (by omega),bP]at d;rw[v];clear P v;have rW:(k:Int)<Y.length:=by omega
 have Q:=ae hkh;clear hkh;go_wp2_with fail;refine(dT a 0 7 _).mono ?_;rintro e w3 ⟨rfl,rfl⟩;have f:Hid ((iA a 0 7||iA n (-1000000000) 1000000000)=decide (¬(0<=a/\a<8)\/n< -1000000000\/1000000000<n)):=by unfold Hid iA;rw[fj];simp;omega
 have R:Hid (iA a 0 7=aq->∃m:Nat,m<8/\a=m):=by unfold Hid iA;intro h;simp at h;exact⟨a.toNat,by omega,by omega⟩
 cases D:iA a 0 7;rotate_left
 ·rw[D,Bool.true_or]at f;have J:=ae (of_decide_eq_true f.out.symm);rw[if_pos J.out]at d;clear D f J R;go_wp2_with fail;go_ret;exact⟨cZ (by rw[d.out]),A,c,by rw[d.out];exact u.out⟩
 rw[D,Bool.false_or]at f;obtain⟨m,hm8,rfl⟩:=R.out D;clear D R;go_wp2_with fail;refine(dT n (-1000000000) 1000000000 _).mono ?_;rintro e w4 ⟨rfl,rfl⟩;cases D:iA n (-1000000000) 1000000000;rotate_left
 ·rw[D]at f;have J:=ae (of_decide_eq_true f.out.symm);rw[if_pos J.out]at d;clear D f J;go_wp2_with fail;go_ret;exact⟨cZ (by rw[d.out]),A,c,by rw[d.out];exact u.out⟩
 rw[D]at f;have J:=ae (of_decide_eq_false f.out.symm);rw[if_neg J.out]at d;clear D f J;have hmi:(m:Int)<8:=by omega
 have c2:w2.cell? ⟨p,2,ah⟩=af (.slice A Y.length c):=u.out.blk.cell 2;go_wp2_with fail;refine(om u.out u.out.swap.rowAt (by omega)).mono ?_;rintro e w3 ⟨v',rfl,T,M1⟩;obtain⟨A',o,rfl,_,_,YK⟩:=aP T.rowAt;obtain⟨s,rfl⟩:=YK (by omega);have E:=T.swap;have c3:w3.cell? ⟨p,2,ah⟩=af (.slice A Y.length c):=E.blk.cell 2;have c4:w3.frozen? ⟨p,2,ah⟩=aq:=E.blk.frozen 2;have Ke:=ae (E.set 2 (.slice (af ⟨s,0,ah⟩) Y.length o));clear T M1 E YK c2 u;go_upto_region 7 with(fail)
 refine a6 _ Ke.out ?_;clear c3 c4 Ke;intro I t;have t:In G Z (cE p X W (.slice (af ⟨s,0,ah⟩) Y.length o) b::bj (.slice (af ⟨s,0,ah⟩) Y.length o) Y::bj (.slice A Y.length c) Y::l) I:=t;have c2:I.cell? ⟨p,2,ah⟩=af (.slice (af ⟨s,0,ah⟩) Y.length o):=t.blk.cell 2;obtain⟨Il,hv⟩:=H8.out _ (aF hk);obtain⟨⟨K0,Vd⟩,_⟩:=jQ _ Il;have c5:I.cell? ⟨s,k *11+2,ah⟩=af (.int .i64 (Y[k]).b.k):=(t.swap.po hk hv (j:=2) (y:=(Y[k]).b.k) (by simp[cQ.list,bw.list]) (by omega)).1;have M:=ae (lR (Y[k]).b.k m I hm8);rw[show m8 (Y[k]).b.k=(Y[k]).b.k.toNat by unfold m8;rw[Int.emod_eq_of_lt (by omega) (by omega)]]at M;have HRK:Hid (Y.set k ⟨(g,i),⟨(Y[k]).b.k,(Y[k]).b.v⟩⟩=Y):=by
  unfold Hid;have:(⟨(g,i),⟨(Y[k]).b.k,(Y[k]).b.v⟩⟩:cQ)=Y[k]:=by rw[<-Q.out]
  rw[this,List.set_getElem_self]
 have HRL:Hid (∀K:Int,(Y[k]).list.set 2 K=g::i::K::(Y[k]).b.v):=λK=>by
  have:(Y[k]).list=g::i::(Y[k]).b.k::(Y[k]).b.v:=by unfold cQ.list bw.list;rw[Q.out];rfl
  rw[this];rfl
 have HGD:Hid ((Y.getD k aE).b=(Y[k]).b):=by unfold Hid;simp[bu,hk]
 rw[HGD.out]at d;have HPB:Hid (pJ (Y[k]).b m n=⟨(((Y[k]).b.k.toNat ||| 2^m:Nat):Int),(Y[k]).b.v.set m n⟩):=rfl;have N:Hid (∀L:cQ,L.list=(Y[k]).list.set 2 L.b.k->L.b.v.length=8->In G Z (cE p X W (.slice (af ⟨s,0,ah⟩) Y.length o) b::bj (.slice (af ⟨s,0,ah⟩) Y.length o) (Y.set k L)::l) (I.setCell ⟨s,k *11+2,ah⟩ (.int .i64 L.b.k))):=λL h1 h2=>(In.swap (In.Gk t.swap hk hv (j:=2) (by omega) L L.b.k h1 h2)).third.drop
 have f5:I.frozen? ⟨s,k *11+2,ah⟩=aq:=(t.swap.po hk hv (j:=2) (y:=(Y[k]).b.k) (by simp[cQ.list,bw.list]) (by omega)).2;have yL:=ae t;clear t Il H8 Q HGD;generalize Xf:Y[k]=r at *;have acK:=ae Xf;clear Xf;obtain⟨rh,K,V⟩:=r;simp only at K0 Vd hv;obtain⟨K,rfl⟩:∃q:Nat,K=q:=⟨K.toNat,by omega⟩;go_wp2_with fail;refine M.out.mono ?_;rintro e w6 ⟨rfl,rfl⟩;simp only[bP]at *;have O:Hid (In G Z (cE p X W (.slice (af ⟨s,0,ah⟩) Y.length o) b::bj (.slice (af ⟨s,0,ah⟩) Y.length o) Y::l) I):=yL.out.third.drop;have hp2:2^m<=2^7:=Nat.pow_le_pow_right (by omega) (by omega);have HN:=ae (Zh K m (by omega) hm8);have HS:=ae (FR K m (by omega) hm8);generalize Yx:(K ||| 2^m)=C at *;have HPW:=ae (AS m (by omega));generalize 2^m=pw at *;clear Yx yL M;cases H:K.testBit m
 case' true=>
  have B:=ae (HS.out H);have z:Hid (In G Z (cE p X W (.slice (af ⟨s,0,ah⟩) Y.length o) b::bj (.slice (af ⟨s,0,ah⟩) Y.length o) (Y.set k ⟨(g,i),⟨(C:Int),V⟩⟩)::l) I):=by unfold Hid;rw[B.out,HRK.out];exact O.out
  clear H O B N HS HN f5;go_upto_region 9 with(fail)
  refine a6 _ z.out ?_;clear z
 case' false=>
  have B:=ae (HN.out H);have ZV:Hid ((K:Int)+(pw:Int)=(C:Int)):=by unfold Hid;rw[B.out];omega
  have z:=ae (N.out ⟨(g,i),⟨(C:Int),V⟩⟩ (by rw[HRL.out];rfl) hv);clear H O B N HS HN;go_upto_region 8 with(fail)
  go_still_tail 15,(by kernel_rfl)
  still_call (HPW.out _)
  repeat still_step
  refine wpStill_nil ?_;change wpList _ _ _ _ _ I.drew;go_upto_region 9 with(fail)
  refine a6 (In G Z (cE p X W (.slice (af ⟨s,0,ah⟩) Y.length o) b::bj (.slice (af ⟨s,0,ah⟩) Y.length o) (Y.set k ⟨(g,i),⟨(C:Int),V⟩⟩)::l)) (by rw[ZV.out];exact z.out.drew) ?_;clear z ZV f5
 all_goals
  clear c5 c2;intro w7 U;have RM:k<(Y.set k ⟨(g,i),⟨(C:Int),V⟩⟩).length:=by rw[cx];exact hk
  have Kh:In G Z (bj (.slice (af ⟨s,0,ah⟩) (Y.set k ⟨(g,i),⟨(C:Int),V⟩⟩).length o) (Y.set k ⟨(g,i),⟨(C:Int),V⟩⟩)::cE p X W (.slice (af ⟨s,0,ah⟩) Y.length o) b::l) w7:=by rw[cx];exact U.swap
  have e1:(Y.set k ⟨(g,i),⟨(C:Int),V⟩⟩)[k]=⟨(g,i),⟨(C:Int),V⟩⟩:=by simp
  have Xg:((Y.set k ⟨(g,i),⟨(C:Int),V⟩⟩)[k]).b.v.length=8:=by rw[e1];exact hv
  obtain⟨c9,f9⟩:=Kh.po RM Xg (j:=3+m) (y:=V.getD m 0) (by rw[e1];have:m<V.length:=by omega
                                                          simp[cQ.list,bw.list,bM 3 m,this]) (by omega)
  have F:=Kh.Gk RM Xg (j:=3+m) (by omega) ⟨(g,i),⟨(C:Int),V.set m n⟩⟩ n (by rw[e1];simp[cQ.list,bw.list,bM 3 m]) (by simp[hv]);rw[List.set_set,<-HPB.out,cx]at F;rw[<-kg]at c9 f9 F;have c2:w7.cell? ⟨p,2,ah⟩=af (.slice (af ⟨s,0,ah⟩) Y.length o):=U.blk.cell 2;have Dz:=ae F.swap;clear F Kh U e1 Xg RM;go_wp2_with fail;go_ret;exact⟨cZ (by rw[d.out]),_,_,by rw[d.out];exact Dz.out⟩
def Oo(h:In G Z (cE p X W (.slice A Y.length c) b::bj (.slice A Y.length c) Y::l) w)(h8:∀r∈Y,bx r.b=0/\r.b.v.length=8)(TW:Y.length<=60)(x a):Calls ai 52 #[ptr p,iU x,.int .i64 a] w λe w'=>e=.returned (.int .i64 (zU Y x a).2)/\∃A' s,In G Z (cE p X W (.slice A' Y.length s) b::bj (.slice A' Y.length s) (zU Y x a).1::l) w':=by
 have H0:=ae h;have H8:=ae h8;have d:Hid (zU Y x a=if sk Y x<0 then(Y,7)else if¬(0<=a/\a<8)then(Y,1)
  else if(Y.getD (sk Y x).toNat aE).b.k.toNat.testBit a.toNat=aq then(Y,5)
  else(Y.set (sk Y x).toNat ⟨x,nP (Y.getD (sk Y x).toNat aE).b a.toNat⟩,0)):=rfl
 have I:=ae (xq Y x);have RP:(Y.length:Int)<=60:=by omega
 obtain⟨g,i⟩:=x;clear h h8;generalize Kj:zU Y (g,i) a=pl at *;clear Kj;show Calls ai 52 #[ptr p,.agg (ints [g,i]),.int .i64 a] w _;go_enter func52,ntmps52;go_upto_region 1 with(fail)
 refine a6 (In G Z (aN w.heap.size 43 (ints [g,i])::cE p X W (.slice A Y.length c) b::bj (.slice A Y.length c) Y::l)) (H0.out.alloc 43 (ints [g,i])) ?_;generalize w.heap.size=hb;intro w1 L;have q2:row? w1 hb 0 2=af (ints [g,i]):=L.blk.aL rfl;have y6:=ae (L.drop);clear L H0;go_wp2_with fail;refine(LQ y6.out (λr hr=>(H8.out r hr).2) (g,i)).mono ?_;rintro e w2 ⟨rfl,Ik⟩;have f:=ae Ik;clear Ik y6 q2;obtain n|⟨k,S,n,hkh⟩:=I.out
 ·rw[n]at d;rw[if_pos (by decide)]at d;rw[n];clear n I;go_wp2_with fail;go_ret;exact⟨cZ (by rw[d.out]),A,c,by rw[d.out];exact f.out⟩
 rw[n]at d;rw[if_neg (by omega),bP]at d;rw[n];clear I n;have rW:(k:Int)<Y.length:=by omega
 have HKH:=ae hkh;clear hkh;go_wp2_with fail;refine(dT a 0 7 _).mono ?_;rintro e w3 ⟨rfl,rfl⟩;have t:Hid (iA a 0 7=decide (¬(0<=a/\a<8))):=by unfold Hid iA;rw[fj];simp;omega
 have J:Hid (iA a 0 7=aq->∃m:Nat,m<8/\a=m):=by unfold Hid iA;intro h;simp at h;exact⟨a.toNat,by omega,by omega⟩
 cases ho:iA a 0 7;rotate_left
 ·rw[ho]at t;have U:=ae (of_decide_eq_true t.out.symm);rw[if_pos U.out]at d;clear ho t U J;go_wp2_with fail;go_ret;exact⟨cZ (by rw[d.out]),A,c,by rw[d.out];exact f.out⟩
 rw[ho]at t;have U:=ae (of_decide_eq_false t.out.symm);rw[if_neg U.out]at d;obtain⟨m,hm8,rfl⟩:=J.out ho;clear ho J t U;have hmi:(m:Int)<8:=by omega
 obtain⟨A0,c0,ea,_,_,hga⟩:=aP f.out.swap.rowAt;injection ea with ea _ ec;subst ea;subst ec;obtain⟨ga,rfl⟩:=hga (by omega);clear hga;have c2:w2.cell? ⟨p,2,ah⟩=af (.slice (af ⟨ga,0,ah⟩) Y.length c):=f.out.blk.cell 2;obtain⟨P,E⟩:=H8.out _ (aF S);obtain⟨⟨K0,Vd⟩,_⟩:=jQ _ P;have c5:w2.cell? ⟨ga,k *11+2,ah⟩=af (.int .i64 (Y[k]).b.k):=(f.out.swap.po S E (j:=2) (y:=(Y[k]).b.k) (by simp[cQ.list,bw.list]) (by omega)).1;have H:=ae (lR (Y[k]).b.k m w2 hm8);rw[show m8 (Y[k]).b.k=(Y[k]).b.k.toNat by unfold m8;rw[Int.emod_eq_of_lt (by omega) (by omega)]]at H;have HRL:Hid (∀K:Int,(Y[k]).list.set 2 K=g::i::K::(Y[k]).b.v):=λK=>by
  have:(Y[k]).list=g::i::(Y[k]).b.k::(Y[k]).b.v:=by unfold cQ.list bw.list;rw[HKH.out];rfl
  rw[this];rfl
 have HGD:Hid ((Y.getD k aE).b=(Y[k]).b):=by unfold Hid;simp[bu,S]
 rw[HGD.out,bP]at d;have HPB:Hid (nP (Y[k]).b m=⟨(((Y[k]).b.k.toNat-2^m:Nat):Int),(Y[k]).b.v.set m 0⟩):=rfl;have Uw:=ae P;have Z3:=ae E;clear P HKH HGD;generalize Xf:Y[k]=r at *;have o:=ae Xf;clear Xf;obtain⟨rh,K,V⟩:=r;simp only at K0 Vd E;obtain⟨K,rfl⟩:∃q:Nat,K=q:=⟨K.toNat,by omega⟩;go_wp2_with fail;refine H.out.mono ?_;rintro e w6 ⟨rfl,rfl⟩;simp only[bP]at *;clear H c5;cases z:K.testBit m
 ·rw[if_pos z]at d;clear z;go_wp2_with fail;go_ret;exact⟨cZ (by rw[d.out]),_,_,by rw[d.out];exact f.out⟩
 rw[if_neg (by rw[z];simp)]at d;go_wp2_with fail;refine(om f.out f.out.swap.rowAt (by omega)).mono ?_;rintro e w3 ⟨v',rfl,M,M1⟩;obtain⟨A',s,rfl,_,_,YK⟩:=aP M.rowAt;obtain⟨v,rfl⟩:=YK (by omega);have C:=M.swap;have c3:w3.cell? ⟨p,2,ah⟩=af (.slice (af ⟨ga,0,ah⟩) Y.length c):=C.blk.cell 2;have c4:w3.frozen? ⟨p,2,ah⟩=aq:=C.blk.frozen 2;have Ke:=ae (C.set 2 (.slice (af ⟨v,0,ah⟩) Y.length s));clear M M1 C YK c2 f;go_upto_region 9 with(fail)
 refine a6 _ Ke.out ?_;clear c3 c4 Ke;intro w5 u;have u:In G Z (cE p X W (.slice (af ⟨v,0,ah⟩) Y.length s) b::bj (.slice (af ⟨v,0,ah⟩) Y.length s) Y::bj (.slice (af ⟨ga,0,ah⟩) Y.length c) Y::l) w5:=u;have c2:w5.cell? ⟨p,2,ah⟩=af (.slice (af ⟨v,0,ah⟩) Y.length s):=u.blk.cell 2;obtain⟨c5,f5⟩:=u.swap.po S (by rw[o.out];exact E) (j:=2) (y:=(K:Int)) (by rw[o.out];simp[cQ.list,bw.list]) (by omega);have ME:Hid (∀F:cQ,F.list=(Y[k]).list.set 2 F.b.k->F.b.v.length=8->In G Z (cE p X W (.slice (af ⟨v,0,ah⟩) Y.length s) b::bj (.slice (af ⟨v,0,ah⟩) Y.length s) (Y.set k F)::l) (w5.setCell ⟨v,k *11+2,ah⟩ (.int .i64 F.b.k))):=λF h1 h2=>(In.swap (In.Gk u.swap S (by rw[o.out];exact E) (j:=2) (by omega) F F.b.k h1 h2)).third.drop
 have hle:2^m<=K:=Nat.ge_two_pow_of_testBit z;have HPW:=ae (AS m (by omega));have T:Hid ((K:Int)-((2^m:Nat):Int)=((K-2^m:Nat):Int)):=by unfold Hid;omega
 generalize Yx:(K-2^m)=B at *;generalize 2^m=pw at *;have um:=ae (ME.out ⟨(g,i),⟨(B:Int),V⟩⟩ (by rw[o.out,HRL.out];rfl) E);clear z u ME Yx;go_upto_region 9 with(fail)
 go_still_tail 15,(by kernel_rfl)
 still_call (HPW.out _)
 repeat still_step
 refine wpStill_nil ?_;change wpList _ _ _ _ _ w5.drew;go_upto_region 10 with(fail)
 refine a6 (In G Z (cE p X W (.slice (af ⟨v,0,ah⟩) Y.length s) b::bj (.slice (af ⟨v,0,ah⟩) Y.length s) (Y.set k ⟨(g,i),⟨(B:Int),V⟩⟩)::l)) (by rw[T.out];exact um.out.drew) ?_;clear um T f5 hle;clear c5 c2;intro w7 N;have Q:k<(Y.set k ⟨(g,i),⟨(B:Int),V⟩⟩).length:=by rw[cx];exact S
 have O:In G Z (bj (.slice (af ⟨v,0,ah⟩) (Y.set k ⟨(g,i),⟨(B:Int),V⟩⟩).length s) (Y.set k ⟨(g,i),⟨(B:Int),V⟩⟩)::cE p X W (.slice (af ⟨v,0,ah⟩) Y.length s) b::l) w7:=by rw[cx];exact N.swap
 have e1:(Y.set k ⟨(g,i),⟨(B:Int),V⟩⟩)[k]=⟨(g,i),⟨(B:Int),V⟩⟩:=by simp
 have R:((Y.set k ⟨(g,i),⟨(B:Int),V⟩⟩)[k]).b.v.length=8:=by rw[e1];exact E
 obtain⟨c9,f9⟩:=O.po Q R (j:=3+m) (y:=V.getD m 0) (by rw[e1];have:m<V.length:=by omega
                                                      simp[cQ.list,bw.list,bM 3 m,this]) (by omega)
 have D:=O.Gk Q R (j:=3+m) (by omega) ⟨(g,i),⟨(B:Int),V.set m 0⟩⟩ 0 (by rw[e1];simp[cQ.list,bw.list,bM 3 m]) (by simp[E]);rw[List.set_set,<-HPB.out,cx]at D;rw[<-kg]at c9 f9 D;have c2:w7.cell? ⟨p,2,ah⟩=af (.slice (af ⟨v,0,ah⟩) Y.length s):=N.blk.cell 2;have Dz:=ae D.swap;clear D O N e1 R Q;go_wp2_with fail;go_ret;exact⟨cZ (by rw[d.out]),_,_,by rw[d.out];exact Dz.out⟩
end
abbrev dQ(v:aB)(ls:List (Int×Bool)):cX:=dN 3 1 v ls.length (ls.map λx=>.int .i64 x.1)
abbrev cN(v:aB)(ls:List (Int×Bool)):cX:=dN 4 1 v ls.length (ls.map λx=>.bool x.2)
section
variable{G:Nat->Prop} {Z w:ar} {l:List cX} {p:Nat} {Y X r b:aB} {ls:List (Int×Bool)}
def In.rI{E g n c k a u}(h:In G Z (dN E 1 (.slice (af ⟨g,0,ah⟩) n c) n a::l) w)(b:a[k]? =af u):w.cell? ⟨g,k,ah⟩=af u/\w.frozen? ⟨g,k,ah⟩=aq:=AL h.rowAt b
def In.Lu{E g n c k a}(h:In G Z (dN E 1 (.slice (af ⟨g,0,ah⟩) n c) n a::l) w)(o:k<n)(u):In G Z (dN E 1 (.slice (af ⟨g,0,ah⟩) n c) n (a.set k u)::l) (w.setCell ⟨g,k,ah⟩ u):=by obtain⟨m,⟨d,b⟩,_,f⟩:=h.open_;refine f (A':=dN E 1 (.slice (af ⟨g,0,ah⟩) n c) n (a.set k u)) ⟨tc u d (i:=k) (by omega),λq j=>Or.inl (b q j)⟩ ?_;exact((cT.refl (F:=(· =g))).setCell (Or.inl rfl) _ _).mono λk _ e=>b k (by rw[e];rfl)
def Rc(h:In G Z (cE p Y X r b::dQ Y ls::cN X ls::l) w)(W:ls.length<=60):Calls ai 214 #[ptr p] w λe O=>∃v,e=.returned v/\In G Z (e9 v (ku ls)::cE p Y X r b::dQ Y ls::cN X ls::l) O:=by
 have j:Hid (In G Z (e9 (.slice ah 0 0) (kx ls 0)::cE p Y X r b::dQ Y ls::cN X ls::l) w):=h.kz _ _;have RP:(ls.length:Int)<=60:=by omega
 obtain⟨P,o,rfl,_,_,A⟩:=aP h.swap.rowAt;obtain⟨D,q,rfl,_,_,B⟩:=aP h.third.rowAt;have E:=ae A;have F:=ae B;obtain⟨i0,K,L,M,N⟩:=info_parts ia;have S:w.cell? ⟨p,1,ah⟩=af (.slice D ls.length q):=h.blk.cell 1;clear h A B;show Calls ai 214 #[.pointer (af ⟨p,0,ah⟩)] w _;go_enter func214,ntmps214;go_wp2_with fail;clear S;go_loopw [3,11] (λv i O=>∃k:Nat,k<=ls.length/\i=.int .i64 k/\In G Z (e9 v (kx ls k)::cE p (.slice P ls.length o) (.slice D ls.length q) r b::dQ (.slice P ls.length o) ls::cN (.slice D ls.length q) ls::l) O) (λ_ i _=>ls.length-(intOf i).toNat)
 case atStart=>exact⟨0,by omega,rfl,j.out⟩
 case round=>
  clear j;obtain⟨k,hk,rfl,d⟩:=hrel;by_cases f:k<ls.length
  ·have rW:(k:Int)<ls.length:=by omega
   obtain⟨J,rfl⟩:=E.out (by omega);obtain⟨Q,rfl⟩:=F.out (by omega);have C:Hid (kx ls (k+1)=kx ls k++if(ls[k]).2=ak then [((k:Int),(ls[k]).1)]else []):=by
    unfold Hid
    conv=>lhs;unfold kx
    rw[rC f]
   have KZ:(kx ls k).length<=60:=by have:=xv ls k;omega
   have T:wr.cell? ⟨p,0,ah⟩=af (.slice (af ⟨J,0,ah⟩) ls.length o):=d.swap.blk.cell 0;have U:=(d.fourth.rI (k:=k) (u:=.bool (ls[k]).2) (by simp[f])).1;have V:=(d.third.rI (k:=k) (u:=.int .i64 (ls[k]).1) (by simp[f])).1;have c:=ae d;clear d;generalize z:kx ls (k+1)=n at *;have g:=ae z;generalize kx ls k=I at *;clear z;generalize ls[k]=y at *;obtain⟨y1,y2⟩:=y;simp only at *;cases y2
   ·rw[if_neg (by simp),cK]at C;rw[<-C.out]at c;go_wp2_with fail;go_roundw
    case rel=>exact⟨k+1,by omega,by go_num,by rw[g.out];exact c.out⟩
    simp[intOf];omega
   rw[if_pos rfl]at C;have m:=ae c.out.rowAt;go_wp2_with (at_builtin;go_loud (refine dv rfl _ _ _ rfl 0 43 i0 _ 2 16 underlying122 K L M N rfl (by decide) _ I.length _ rfl m.out [.int .i64 k,.int .i64 y1] rfl rfl (by simp[fW]) (by unfold maxLen;omega) (by omega) (bH _) ?_));intro v' w4 a R x;have s:=In.o6 c.out a R x;have t:In G Z (e9 v' n::cE p (.slice (af ⟨J,0,ah⟩) ls.length o) (.slice (af ⟨Q,0,ah⟩) ls.length q) r b::dQ (.slice (af ⟨J,0,ah⟩) ls.length o) ls::cN (.slice (af ⟨Q,0,ah⟩) ls.length q) ls::l) w4:=by rw[C.out];unfold e9;rw[bm,bS,bJ,List.flatMap_nil,cK];exact s
   have H:=ae t;clear a R x s t c m T U V;go_wp2_with fail;go_roundw
   case rel=>exact⟨k+1,by omega,by go_num,by rw[g.out];exact H.out⟩
   simp[intOf];omega
  have:k=ls.length:=by omega
  subst this;have c:=ae d;clear d;go_wp2_with fail;go_ret;exact⟨_,rfl,c.out⟩
def UR(h:In G Z (cE p Y X r b::dQ Y ls::cN X ls::l) w)(n:ls.length<=60)(x):Calls ai 169 #[ptr p,iU x] w λe q=>e=.returned (.bool (decide (x∈ku ls)))/\In G Z (cE p Y X r b::dQ Y ls::cN X ls::l) q:=by
 have o:=ae h;obtain⟨a,c⟩:=x;clear h;show Calls ai 169 #[.pointer (af ⟨p,0,ah⟩),.agg (ints [a,c])] w _;go_enter func169,ntmps169;go_upto_region 1 with(fail)
 refine a6 (In G Z (cE p Y X r b::dQ Y ls::cN X ls::aN w.heap.size 43 (ints [a,c])::l)) ((o.out.alloc 43 (ints [a,c])).reorder 4 [1,2,3,0] rfl (by simp)) ?_;generalize w.heap.size=j;intro s f;have y:row? s j 0 2=af (ints [a,c]):=f.fourth.blk.aL rfl;have k:=ae f;clear f o
 go_region_held3 (λW=>row? W j 0 2=af (ints [a,c])) (assumption)
  (first
    |(go_at_call 112;refine(M0 d.out (a,c)).mono ?_;rintro e u ⟨rfl,i⟩;have m:=ae (d.out.below i);have A:row? u j 0 2=af (ints [a,c]):=((d.out.below i).nth 4 (by simp)).blk.aL rfl;clear i)
    |(go_at_call 214;refine(Rc k.out.drew n).mono ?_;rintro e t ⟨v,rfl,g⟩;have d:=ae g;have z:row? t j 0 2=af (ints [a,c]):=(g.nth 4 (by simp)).blk.aL rfl;clear g))
 all_goals go_wp2_with fail;go_ret;exact⟨rfl,(m.out.drop.reorder 4 [0,1,2,3] rfl (by simp)).fourth.drop⟩
def Ol(h:In G Z (cE p Y X r b::dQ Y ls::cN X ls::l) w)(o:N4 ls)(x):Calls ai 121 #[ptr p,iU x] w λe w'=>e=.returned (.int .i64 (eY ls x.1 x.2).2)/\In G Z (cE p Y X r b::dQ Y (eY ls x.1 x.2).1::cN X (eY ls x.1 x.2).1::l) w':=by
 have O:=ae h;have J:=o.1;have D:=ae o;have a:Hid (eY ls x.1 x.2=if dt ls x.1 x.2 then(ls.set x.1.toNat (x.2+1,aq),0)else(ls,7)):=rfl;have v:=ae (kU (ls:=ls) (h:=x));obtain⟨i,d⟩:=x;simp only at a v;generalize L:eY ls (i,d).1 (i,d).2=fr at *;clear h o L;show Calls ai 121 #[.pointer (af ⟨p,0,ah⟩),.agg (ints [i,d])] w _;go_enter func121,ntmps121;go_upto_region 1 with(fail)
 refine a6 (In G Z (cE p Y X r b::dQ Y ls::cN X ls::aN w.heap.size 43 (ints [i,d])::l)) ((O.out.alloc 43 (ints [i,d])).reorder 4 [1,2,3,0] rfl (by simp)) ?_;generalize w.heap.size=K;intro w1 m;have q2:row? w1 K 0 2=af (ints [i,d]):=m.fourth.blk.aL rfl;have s:=ae m;clear m O;go_wp2_with fail;refine(UR s.out J (i,d)).mono ?_;rintro e M ⟨rfl,y⟩;have c:=ae y;clear y s q2;cases n:dt ls i d
 ·have A:decide ((i,d)∈ku ls)=aq:=by rw[decide_eq_false_iff_not,v.out,n];simp
  rw[A];rw[n,if_neg (by simp)]at a;clear n A v;go_wp2_with fail;go_ret;exact⟨cZ (by rw[a.out]),by rw[a.out];exact c.out.fourth.drop⟩
 ·have A:decide ((i,d)∈ku ls)=ak:=by rw[decide_eq_true_eq,v.out,n]
  rw[A];rw[n,if_pos rfl]at a;obtain⟨k,rfl,q,g⟩:=jY n;rw[bP]at a;rw[rC q]at g;have P:=(D.out.2 _ (aF q));rw[g]at P;obtain⟨V,W,_⟩:=P;have rW:(k:Int)<ls.length:=by omega
  obtain⟨A1,Q,rfl,_,_,B⟩:=aP c.out.swap.rowAt;obtain⟨A2,R,rfl,_,_,C⟩:=aP c.out.third.rowAt;obtain⟨S,rfl⟩:=B (by omega);obtain⟨T,rfl⟩:=C (by omega);have E:M.cell? ⟨p,1,ah⟩=af (.slice (af ⟨T,0,ah⟩) ls.length R):=c.out.blk.cell 1;have F:M.cell? ⟨K,0,ah⟩=af (.int .i64 (k:Int)):=c.out.fourth.blk.cell 0;obtain⟨H,I⟩:=c.out.third.rI (k:=k) (u:=.bool ak) (by simp[q,g]);have t:=ae (c.out.third.Lu q (.bool aq));clear n A v c B C;go_upto_region 3 with(fail)
  go_still_tail 7,(by kernel_rfl)
  repeat still_step
  change wpList _ _ _ _ _ M.drew;go_upto_region 4 with(fail)
  refine a6 _ t.out.drew ?_;clear E F H I t;intro N f;have E:N.cell? ⟨p,0,ah⟩=af (.slice (af ⟨S,0,ah⟩) ls.length Q):=f.swap.blk.cell 0;have F:N.cell? ⟨K,0,ah⟩=af (.int .i64 (k:Int)):=f.fourth.blk.cell 0;obtain⟨H,I⟩:=f.third.rI (k:=k) (u:=.int .i64 d) (by simp[q,g]);have j:=ae (f.third.Lu q (.int .i64 (d+1)));clear f g;go_upto_region 4 with(fail)
  go_still_tail 10,(by kernel_rfl)
  repeat still_step
  change wpList _ _ _ _ _ N.drew;go_upto_region 5 with(fail)
  refine a6 _ j.out.drew ?_;clear E F H I j;intro w4 z;have j:=ae z;clear z;go_wp2_with fail;go_ret;refine⟨cZ (by rw[a.out]),?_⟩;rw[a.out];have U:=j.out.reorder 4 [2,0,1,3] rfl (by simp);unfold dQ cN;rw[cx,jG,jG];exact U.fourth.drop
end
end
section
variable{Z:List (Int×Bool)} {f:BF} {z:ZS}
def Me(h:lH Z f){b}(I:bx b=0)(L:b.v.length=8)(B:(eb Z).2.2=0){k}(Q:k<=(ep Z f).length)(G:∀j,(t:j<(ep Z f).length)->j<k->(ep Z f)[j].h.1<(eb Z).2.1.1)(H:(Vb:k<(ep Z f).length)->¬(ep Z f)[k].h.1<(eb Z).2.1.1):ep (dU Z f b).1.1 (dU Z f b).1.2=(ep Z f).take k++[⟨(eb Z).2.1,b⟩]++(ep Z f).drop k:=by
 have z:=h.spawn (b:=b) L;have l:∀r,r∈ep Z f↔f r.h.1=af (r.h.2,r.b):=λr=>gH h
 have m:∀r,r∈ep (dU Z f b).1.1 (dU Z f b).1.2↔(dU Z f b).1.2 r.h.1=af (r.h.2,r.b):=λr=>gH z
 have A:(ep Z f).Pairwise JB:=kn Z f;have i:f (eb Z).2.1.1=ah:=by
  rcases qK h.so.1 with e|⟨D,g,M,e,_,J,_⟩;rw[e]at B;cases B;rw[e];cases K:f (D:Int)with|none=>rfl|some y=>have:=(h.lv D y.1).2 ⟨y.2,K⟩;rw[J]at this;cases this
 have o:(dU Z f b).1.2=dC f (eb Z).2.1.1 (af ((eb Z).2.1.2,b)):=by unfold dU;rw[if_neg (λh=>h I),if_pos B]
 rw[o]at m;generalize (eb Z).2.1=x at *;have w:∀r∈ep Z f,r.h.1≠x.1:=λr n e=>by have:=(l r).1 n;rw[e,i]at this;cases this
 refine Gn (kn _ _) ?_ λr=> ?_
 have q:∀r∈(ep Z f).take k,r.h.1<x.1:=λr n=>by obtain⟨j,t,rfl⟩:=bR.1 n;rw[cR]at t;rw[List.getElem_take];exact G j (by omega) (by omega)
 have p:∀r∈(ep Z f).drop k,x.1<r.h.1:=λr n=>by
  have hm:=List.mem_of_mem_drop n;obtain⟨j,t,e⟩:=bR.1 n;rw[List.length_drop]at t;rw[List.getElem_drop]at e;have N:=H (by omega);have O:=w r hm;have P:(ep Z f)[k].h.1<=r.h.1:=by subst e;by_cases E:j=0;subst E;exact Int.le_refl _;have:=eA.1 A k (k+j) (by omega) (by omega) (by omega);unfold JB at this;omega
  omega
 rw[b9,List.pairwise_append];refine⟨A.sublist (List.take_sublist _ _),?_,?_⟩;rw[List.singleton_append,List.pairwise_cons];exact⟨λr n=>p r n,A.sublist (List.drop_sublist _ _)⟩;intro a C c s;rw[List.singleton_append,b8]at s;rcases s with rfl|s;exact q a C;have u:=q a C;have v:=p c s;unfold JB;omega
 ·rw[o,m];have F:r∈(ep Z f).take k++[⟨x,b⟩]++(ep Z f).drop k↔r∈ep Z f\/r=⟨x,b⟩:=by
   conv=>rhs;rw[<-fZ k (ep Z f)]
   simp only[fM,aO];constructor;rintro((h|h)|h);exact .inl (.inl h);exact .inr h;exact .inl (.inr h);rintro((h|h)|h);exact .inl (.inl h);exact .inr h;exact .inl (.inr h)
  rw[F,l];unfold dC;by_cases e:r.h.1=x.1;rw[if_pos e,e,i];constructor;intro d;injection d with d;injection d with u v;right;obtain⟨⟨R,S⟩,T⟩:=r;obtain⟨U,V⟩:=x;simp only at e u v;rw[e,<-u,<-v];rintro(d|d);cases d;rw[d];rw[if_neg e];constructor;exact .inl;rintro(d|d);exact d;exact absurd (by rw[d]) e
def zf(h:lH Z f)(x):(∃k:Nat,∃a:k<(ep Z f).length,sk (ep Z f) x=k/\(ep Z f)[k].h=x/\dt Z x.1 x.2=ak)\/(sk (ep Z f) x= -1/\dt Z x.1 x.2=aq):=by
 have g:sk (ep Z f) x= -1->dt Z x.1 x.2=aq:=λe=>by
  cases d:dt Z x.1 x.2 with
  |false=>rfl|true=>
   have hm:=(gH h (r:=⟨x,cI f x.1⟩)).2 (h.get d);obtain⟨j,l,b⟩:=bR.1 hm;unfold sk at e;cases c:(ep Z f).findIdx? (λr=>decide (r.h=x))with|some i=>rw[c]at e;simp only at e;omega|none=>have:=List.findIdx?_eq_none_iff.1 c _ hm;simp at this
 rcases xq (ep Z f) x with e|⟨k,a,e,b⟩;exact .inr ⟨e,g e⟩;refine .inl ⟨k,a,e,b,?_⟩;have:=(gH h).1 (aF a);rw[b]at this;exact(h.lv _ _).2 ⟨_,this⟩
def M9(h:lH Z f)(x:Hd){k:Nat}(i)(a:(ep Z f)[k].h=x)(b):(ep Z f).map (λr=>if r.h=x then(⟨r.h,b⟩:cQ)else r)=(ep Z f).set k ⟨x,b⟩:=by
 have l:(ep Z f).Pairwise JB:=kn Z f;generalize ep Z f=c at *;refine List.ext_getElem (by simp) λj m o=> ?_
 rw[List.getElem_map,List.getElem_set];have d:j<c.length:=by simpa using m
 by_cases e:k=j;subst e;rw[if_pos rfl,if_pos a,a];rw[if_neg e,if_neg];intro n;have:c[j].h.1=c[k].h.1:=by rw[n,a]
 rcases Nat.lt_or_gt_of_ne e with g|g;have:=eA.1 l k j i d g;unfold JB at this;omega;have:=eA.1 l j k d i g;unfold JB at this;omega
def EG(h:lH Z f){x:Hd}{k:Nat}(a)(b:(ep Z f)[k].h=x):(ep Z f)[k].b=cI f x.1:=by have:=(gH h).1 (aF a);rw[b]at this;unfold cI;rw[this];rfl
def Po(h:lH Z f)(x a n):(LC (ep Z f) x a n).1=ep Z (oa Z f x a n).1/\(LC (ep Z f) x a n).2=(oa Z f x a n).2:=by unfold LC oa;rcases zf h x with⟨k,d,e,g,b⟩|⟨e,b⟩;rw[e,if_neg (by omega),b,if_neg (c:=(!true)=ak) (by simp)];split;exact⟨rfl,rfl⟩;refine⟨?_,rfl⟩;simp only;rw[J4 h b,M9 h x d g,bP,a7,aj d,bT,EG h d g];rw[e,if_pos (by omega),b,if_pos (c:=(!false)=ak) (by simp)];exact⟨rfl,rfl⟩
def KM(h:lH Z f)(x a):(zU (ep Z f) x a).1=ep Z (l7 Z f x a).1/\(zU (ep Z f) x a).2=(l7 Z f x a).2:=by unfold zU l7;rcases zf h x with⟨k,d,e,g,b⟩|⟨e,b⟩;rw[e,if_neg (by omega),b,if_neg (c:=(!true)=ak) (by simp),bP,a7,aj d,bT,EG h d g];split;exact⟨rfl,rfl⟩;split;exact⟨rfl,rfl⟩;refine⟨?_,rfl⟩;simp only;rw[J4 h b,M9 h x d g];rw[e,if_pos (by omega),b,if_pos (c:=(!false)=ak) (by simp)];exact⟨rfl,rfl⟩
def Ao(Z f)(x:Hd):(fu Z f x).1.1=(eY Z x.1 x.2).1:=by unfold fu eY;split<;>rfl
def Ap(h:lH Z f)(x:Hd):ep (fu Z f x).1.1 (fu Z f x).1.2=(ep Z f).filter λr=> !decide (r.h=x):=by
 refine Gn (kn _ _) ((kn _ _).filter _) λr=> ?_
 have g:=gH h (r:=r);have i:=gH (h.kill x) (r:=r);rw[b3,g,i];unfold fu;by_cases c:dt Z x.1 x.2=ak;rw[if_pos c];simp only[dC];by_cases e:r.h.1=x.1;rw[if_pos e];constructor;intro b;cases b;rintro⟨b,a⟩;exact absurd (Ar h ((h.lv _ _).2 ⟨_,b⟩) c e) (by simpa using a);rw[if_neg e];have a:r.h≠x:=λd=>e (by rw[d])
 simp[a];rw[if_neg c];constructor;intro b;refine⟨b,?_⟩;have a:r.h≠x:=λe=>c (by rw[<-e];exact(h.lv _ _).2 ⟨_,b⟩)
 simpa using a;exact λb=>b.1
def mL{x:Hd}(a:dt Z x.1 x.2=aq):fu Z f x=((Z,f),7):=by unfold fu;rw[a,if_neg (by simp)]
def tT{x y:Hd}(c:dt Z x.1 x.2=ak):dt (eY Z x.1 x.2).1 y.1 y.2=(dt Z y.1 y.2&& !decide (y.1=x.1)):=by obtain⟨k,a,b,d⟩:=jY c;unfold eY;rw[if_pos c,a,bP,Au b];by_cases e:y.1=(k:Int);rw[if_pos e];simp[e];rw[if_neg e];simp[e]
def Sb{x y:Hd}(i:dt Z x.1 x.2=ak)(l:dt Z y.1 y.2=ak)(e:x.1=y.1):x=y:=by
 obtain⟨k,g,h,b⟩:=jY i;obtain⟨j,d,f,a⟩:=jY l;have:k=j:=by omega
 subst this;rw[b]at a;injection a with c _;exact Prod.ext e c
def La(z x y):mB (mB z x) y=mB (mB z y) x:=by
 obtain⟨Z,f,B⟩:=z;have r:kr (kr B x) y=kr (kr B y) x:=by unfold kr;rw[List.filter_filter,List.filter_filter];congr 1;funext b;exact Bool.and_comm _ _
 have t:∀x y:Hd,(fu (fu Z f x).1.1 (fu Z f x).1.2 y).1=(fu (fu Z f y).1.1 (fu Z f y).1.2 x).1:=by
  intro x y;by_cases e:x=y;rw[e];cases c:dt Z x.1 x.2 with
  |false=>
   rw[mL c];cases a:dt Z y.1 y.2 with
   |false=>rw[mL a,mL c]|true=>
    have h:dt (fu Z f y).1.1 x.1 x.2=aq:=by rw[Ao,tT a,c,Bool.false_and]
    rw[mL h]
  |true=>
   cases a:dt Z y.1 y.2 with
   |false=>
    have h:dt (fu Z f x).1.1 y.1 y.2=aq:=by rw[Ao,tT c,a,Bool.false_and]
    rw[mL h,mL a]
   |true=>
    have E:x.1≠y.1:=λi=>e (Sb c a i)
    have d:dt (eY Z x.1 x.2).1 y.1 y.2=ak:=by rw[tT c,a];simp;omega
    have g:dt (eY Z y.1 y.2).1 x.1 x.2=ak:=by rw[tT a,c];simp;omega
    obtain⟨k,A,C,D⟩:=jY c;obtain⟨j,u,v,w⟩:=jY a;have l:fu Z f x=(((eY Z x.1 x.2).1,dC f x.1 ah),0):=by unfold fu;rw[if_pos c]
    have m:fu Z f y=(((eY Z y.1 y.2).1,dC f y.1 ah),0):=by unfold fu;rw[if_pos a]
    have n:fu (eY Z x.1 x.2).1 (dC f x.1 ah) y=(((eY (eY Z x.1 x.2).1 y.1 y.2).1,dC (dC f x.1 ah) y.1 ah),0):=by unfold fu;rw[if_pos d]
    have o:fu (eY Z y.1 y.2).1 (dC f y.1 ah) x=(((eY (eY Z y.1 y.2).1 x.1 x.2).1,dC (dC f y.1 ah) x.1 ah),0):=by unfold fu;rw[if_pos g]
    rw[l,m];simp only;rw[n,o];simp only;have p:(eY (eY Z x.1 x.2).1 y.1 y.2).1=(eY (eY Z y.1 y.2).1 x.1 x.2).1:=by
     have F:(eY Z x.1 x.2).1=Z.set x.1.toNat (x.2+1,aq):=by unfold eY;rw[if_pos c]
     have G:(eY Z y.1 y.2).1=Z.set y.1.toNat (y.2+1,aq):=by unfold eY;rw[if_pos a]
     rw[F]at d|-;rw[G]at g|-;unfold eY;rw[if_pos d,if_pos g];exact List.set_comm _ _ (by omega)
    have q:dC (dC f x.1 ah) y.1 ah=dC (dC f y.1 ah) x.1 ah:=by funext s;unfold dC;split<;>split<;>rfl
    rw[p,q]
 unfold mB;simp only;rw[r,t x y]
def Lb{l a}(hp:l.Perm a)(z):gM z l=gM z a:=by unfold gM;exact hp.foldl_eq' (λx _ y _ z=>La z x y) z
def OW(z x)(a:z.live x=ak):(mC z x).1=gM z (under z.B x++[x]):=by unfold mC vZ;rw[if_pos a];exact Lb ((List.reverse_perm _).append_right _) z
def zX{B}(c:cY B=B):B.Pairwise λa b=>OU (·.1) a b=ak:=by have:=kT (λb:Hd×Hd=>b.1) B;change List.Pairwise _ (cY B)at this;rw[c]at this;exact this
def R4{B}(a:cY B=B)(h):eO B h=kids B h:=by refine ts (ot _) ?_;unfold eO;rw[List.pairwise_map];exact(zX a).sublist ly
def N8{B}(u:il B)(C:cY B=B)(c p){k}(E:k<=(dB B c).length)(y:∀j,(r:j<(dB B c).length)->j<k->D' (dB B c)[j].1 c=ak)(z:(Vb:k<(dB B c).length)->D' (dB B c)[k].1 c=aq):cY (jK B c p)=(dB B c).take k++[(c,p)]++(dB B c).drop k:=by
 have f:=(zX C).sublist (ly (p:=λq:Hd×Hd=> !decide (q.1=c)));change (dB B c).Pairwise _ at f;have s:=Az u.nodup c p;have m:=mM u.nodup c;have l:∀b,b∈jK B c p↔b=(c,p)\/b∈dB B c:=λb=>by obtain⟨w,D⟩:=b;rw[<-ky s,<-ky m,jZ,qo];by_cases e:w=c;rw[if_pos e,if_pos e];constructor;intro h;injection h with h;left;rw[e,h];rintro(h|h);injection h with _ h;rw[h];cases h;rw[if_neg e,if_neg e];constructor;exact .inr;rintro(h|h);injection h with h _;exact absurd h e;exact h
 have n:(dB B c).Nodup:=nh m;have o:(c,p)∉dB B c:=λh=>(fI.1 h).2 rfl
 refine(iL (λb:Hd×Hd=>b.1) (nn s) ?_ ?_).symm
 ·refine(List.perm_ext_iff_of_nodup ?_ (nh s)).2 λb=> ?_
  rw[b9];refine(List.perm_middle (l₁:=(dB B c).take k) (a:=(c,p)) (l₂:=(dB B c).drop k)).nodup_iff.2 ?_;rw[fZ,List.nodup_cons];exact⟨o,n⟩;rw[l]
  conv=>rhs;rw[<-fZ k (dB B c)]
  simp only[fM,aO];constructor;rintro((h|h)|h);exact .inr (.inl h);exact .inl h;exact .inr (.inr h);rintro(h|h|h);exact .inl (.inr h);exact .inl (.inl h);exact .inr h
 generalize dB B c=L at *;have i:∀b∈L.take k,wX b.1 c=ak:=λb d=>by obtain⟨j,r,rfl⟩:=bR.1 d;rw[cR]at r;rw[List.getElem_take];have:=y j (by omega) (by omega);rw[vV];unfold D' at this;simp only[ej,ay,decide_eq_true_eq]at this;omega
 have g:∀b∈L.drop k,wX c b.1=ak:=λb d=>by
  obtain⟨j,r,e⟩:=bR.1 d;rw[List.length_drop]at r;rw[List.getElem_drop]at e;have A:=z (by omega);have t:wX c L[k].1=ak:=by unfold wX;rw[A];rfl
  subst e;by_cases x:j=0;subst x;exact t;exact tQ _ _ _ t (eA.1 f k (k+j) (by omega) (by omega) (by omega))
 rw[b9,List.pairwise_append];refine⟨f.sublist (List.take_sublist _ _),?_,?_⟩;rw[List.singleton_append,List.pairwise_cons];exact⟨λb d=>g b d,f.sublist (List.drop_sublist _ _)⟩;intro a v b d;rw[List.singleton_append,b8]at d;rcases d with rfl|d;exact i a v;exact tQ _ _ _ (i a v) (g b d)
def JR(h:lH Z f)(s):ep Z (nN f s)=(ep Z f).map λr=>⟨r.h,bU r.b s⟩:=by
 unfold ep;rw[List.map_filterMap];refine z7 λy b=> ?_
 have a:=kU.1 b;unfold wI nN;rw[h.get a];rfl
end
end Go.Proofs.YtknejlcijdngoaaGreat
