/- Several texts in one, made short by a program of mine. -/
import Derived.Test.YtknejlcijdngoaaGreatTX5
import Derived.Deep.RegionLaw
import Derived.Conc.LeavingOf
set_option linter.defProp false
set_option linter.unusedVariables false
set_option linter.unusedSimpArgs false
set_option linter.unusedSectionVars false
set_option maxHeartbeats 16000000
set_option maxRecDepth 100000
open Bool renaming false->aq,true->ak
open Go renaming TypeId->cD,Value->aB,World->ar
open Go.Act renaming put->dW
open Go.Lib renaming hid->ae
open Go.Proofs.Tryz renaming prog->ai
open Go.Value renaming int->aD,oneCell'->fW
open Go.World renaming size_alloc->bZ
open List renaming append_assoc->b9,append_nil->cK,flatMap_append->bS,flatMap_cons->bJ,getElem?_append_right->nE,getElem?_eq_some_iff->bg,getElem_mem->aF,length_append->bm,length_cons->ax,length_map->aY,length_nil->aM,length_set->cx,length_take->cR,map_append->en,map_set->jG,mem_cons->b8,mem_map->aA,mem_singleton->aO,not_mem_nil->fO,range->bB,setIfInBounds_toArray->az,set_cons_succ->a8,set_cons_zero->bh,size_toArray->aU,take_append_drop->fZ,take_length->cq,take_of_length_le->cA,take_succ_eq_append_getElem->aV
open List.range renaming loop->ca
open Nat renaming le_refl->ao,le_trans->bD,min_eq_left->qO,mul_le_mul_right->fh,zero_add->bN,zero_le->bH
open Option renaming none->ah,some->af
namespace Go.Proofs.YtknejlcijdngoaaGreat
open Go.Proofs.Tryz
section
open Go.RowKit
def KD:(Tryz.prog.info? 4).map (λi=>(i.zero,i.size,i.bytes))=af (af (.bool aq),1,1):=by kernel_rfl
section
variable{G:Nat->Prop} {Z w:ar} {l:List cX} {p:Nat} {Y X r b:aB} {V:List (Int×Bool)}
def FE{a c:Type}{f:a->c}{V:List a}{k y}(b)(h:f y=f V[k]):(V.set k y).map f=V.map f:=by rw[jG,h,<-List.getElem_map f (h:=by rw[aY];exact b),List.set_getElem_self]
def qJ{E t i z b n v u x q p o a K Q X}(j:o.guard=ah)(s y)(J:o.op=.call {callee:=.builtin .append,args:=#[s,y],argTypes:=#[t,t]})(M:Tryz.prog.underlying t=af (.slice E))(H:Tryz.prog.info? E=af i)(O:i.zero=af z)(k:i.size=1)(g:i.bytes=b)(m:z.cells.size=1)(f:In G Z (dN E 1 v n q::dN E 1 u 1 [x]::l) w)(L:a.eval s=v)(N:a.eval y=u)(C:x.oneCell'=ak)(P:n<=60)(D:b<=8)(h:∀d e,In G Z (dN E 1 d (n+1) (q++[x])::l) e->K (a.put o.dst d) e):if Region.wanted o (yielded p a.tmps)=ak then Oper.wp ai o a w K Q else X:=by
 have I:(n+1) *b<=61 *8:=Nat.mul_le_mul (by omega) D;refine rZ j s y t J E i z 1 b M H O k g m (by decide) L N f.rowAt f.swap.rowAt ?_ (by unfold maxLen;omega) (by omega) ?_;intro c F;rw[aO.1 F];exact C
 ·intro d e r A B;exact h d e (f.l5 r A B).swap.drop
def Om(h:In G Z (cE p Y X r b::dQ Y V::cN X V::l) w)(U:N4 V):Calls ai 110 #[ptr p] w λe w'=>e=.returned (.tuple #[iU (eb V).2.1,.int .i64 (eb V).2.2])/\∃gv' lv',In G Z (cE p gv' lv' r b::dQ gv' (eb V).1::cN lv' (eb V).1::l) w':=by
 have H0:=ae h;have E:=U.1;have Ux:=ae U;have RP:(V.length:Int)<=60:=by omega
 obtain⟨v,s,rfl,_,_,hg1⟩:=aP h.swap.rowAt;obtain⟨B,t,rfl,_,_,RJ⟩:=aP h.third.rowAt;have HG1:=ae hg1;have HG2:=ae RJ;have HTF:Hid (∀k,(hk:k<V.length)->(∀j,(A:j<V.length)->j<k->iu V[j]=aq)->iu V[k]=ak->eb V=(V.set k ((V[k]).1,ak),((k:Int),(V[k]).1),0)):=λk hk z hf=>by
  have e:V.findIdx iu=k:=by rw[List.findIdx_eq hk];exact⟨hf,λj A=>by simpa using z j (by omega) A⟩
  unfold eb;rw[e,if_pos hk,rC hk]
 have HTN:Hid ((∀j,(A:j<V.length)->iu V[j]=aq)->eb V=if V.length=60 then(V,(0,0),2)else(V++[(0,ak)],(((V.length:Nat):Int),0),0)):=λz=>by unfold eb;rw[if_neg];intro g;have:=List.findIdx_getElem (w:=g);rw[z _ g]at this;cases this
 generalize htr:eb V=tr at *;clear h U hg1 RJ htr;show Calls ai 110 #[.pointer (af ⟨p,0,ah⟩)] w _;go_enter func110,ntmps110;go_upto_region 1 with(fail)
 refine a6 (In G Z (cE p (.slice v V.length s) (.slice B V.length t) r b::dQ (.slice v V.length s) V::cN (.slice B V.length t) V::aN w.heap.size 43 (ints [0,0])::l)) ((H0.out.alloc 43 (ints [0,0])).reorder 4 [1,2,3,0] rfl (by simp)) ?_;generalize w.heap.size=z;intro w1 S;have c1:w1.cell? ⟨p,0,ah⟩=af (.slice v V.length s):=S.blk.cell 0;have y6:=ae S;clear S H0;go_wp2_with fail;clear c1;go_loopw [11] (λi w'=>∃k:Nat,k<=V.length/\i=.int .i64 k/\(∀j,(A:j<V.length)->j<k->iu V[j]=aq)/\In G Z (cE p (.slice v V.length s) (.slice B V.length t) r b::dQ (.slice v V.length s) V::cN (.slice B V.length t) V::aN z 43 (ints [0,0])::l) w') (λi _=>V.length-(intOf i).toNat)
 case atStart=>exact⟨0,by omega,rfl,λj A h=>by omega,y6.out⟩
 case round=>
  clear y6;obtain⟨k,hk,rfl,O,K⟩:=hrel;have C:=ae O;clear O;by_cases g:k<V.length
  ·have rW:(k:Int)<V.length:=by omega
   obtain⟨g1,rfl⟩:=HG1.out (by omega);obtain⟨g2,rfl⟩:=HG2.out (by omega);have c3:wr.cell? ⟨p,1,ah⟩=af (.slice (af ⟨g2,0,ah⟩) V.length t):=K.blk.cell 1;obtain⟨c4,f4⟩:=K.third.rI (k:=k) (u:=.bool (V[k]).2) (by simp[g]);have c5:=(K.swap.rI (k:=k) (u:=.int .i64 (V[k]).1) (by simp[g])).1;have q:=ae (HTF.out k g λj A GZ=>C.out j A GZ);have m:Hid (iu V[k]=aq->∀j,(A:j<V.length)->j<k+1->iu V[j]=aq):=λh j A GZ=>by by_cases e:j=k;subst e;exact h;exact C.out j A (by omega)
   have d:Hid (iu V[k]=(!(V[k]).2&&decide ((V[k]).1<1000000))):=rfl;have o:=ae K;have F:=ae (K.third.Lu g (.bool ak));clear K;generalize hyk:V[k]=y at *;have HYK:=ae hyk;clear hyk;obtain⟨y1,y2⟩:=y;simp only at *;cases y2
   ·by_cases hy:y1<1000000
    ·rw[decide_eq_true hy]at d;have q:=ae (q.out d.out);clear d m;go_upto_region 6 with(fail)
     refine a6 _ F.out ?_;clear c3 c4 c5 f4 F o;intro w2 Ik;have T:=Ik.fourth;have f6:fits w2 z 0 2=ak:=T.blk.fits 0 2 (by rw[aR];simp);have D:=ae (T.dY [(k:Int),y1] rfl);clear Ik T;go_wp2_with fail;refine aZ rfl z 43 (ints [(k:Int),y1]) (.int .i64 0) _ rfl rfl D.out.blk underlying43 rfl (by rw[aR];exact bW) rfl ?_;refine⟨by rw[q.out];rfl,.slice (af ⟨g1,0,ah⟩) V.length s,.slice (af ⟨g2,0,ah⟩) V.length t,?_⟩;rw[q.out];have h5:=(D.out.drop.reorder 3 [1,2,0] rfl (by simp));unfold dQ cN;rw[FE (f:=λx:Int×Bool=>aD .i64 x.1) g (by rw[HYK.out]),jG,cx];exact h5
    rw[decide_eq_false hy,Bool.and_false]at d;have m:=ae (m.out d.out);clear d q F;go_wp2_with fail;go_roundw
    case rel=>exact⟨k+1,by omega,by go_num,m.out,o.out⟩
    simp[intOf];omega
   rw[Bool.not_true,Bool.false_and]at d;have m:=ae (m.out d.out);clear d q F;go_wp2_with fail;go_roundw
   case rel=>exact⟨k+1,by omega,by go_num,m.out,o.out⟩
   simp[intOf];omega
  have M3:k=V.length:=by omega
  have q:=ae (HTN.out λj A=>C.out j A (by omega));have c1:wr.cell? ⟨p,0,ah⟩=af (.slice v V.length s):=K.blk.cell 0;have o:=ae K;clear K;by_cases a:V.length=60
  ·have h6i:((V.length:Int)==60)=ak:=by rw[a];rfl
   rw[if_pos a]at q;have f6:fits wr z 0 2=ak:=o.out.fourth.blk.fits 0 2 (by rw[aR];simp);have D:=ae (o.out.fourth.dY [0,0] rfl);clear a;go_wp2_with fail;refine aZ rfl z 43 (ints [0,0]) (.int .i64 2) _ rfl rfl D.out.blk underlying43 rfl (by rw[aR];exact bW) rfl ?_;refine⟨by rw[q.out];rfl,.slice v V.length s,.slice B V.length t,?_⟩;rw[q.out];exact D.out.drop
  have h6i:((V.length:Int)==60)=aq:=by simp;omega
  rw[if_neg a]at q;have ac3:V.length<=59:=by omega
  clear a;obtain⟨ji,ji0,ji1,ji2,ji3⟩:=info_parts oQ;obtain⟨jb,jb0,jb1,jb2,jb3⟩:=info_parts KD;have c0:wr.cell? ⟨p,1,ah⟩=af (.slice B V.length t):=o.out.blk.cell 1;have f0:wr.frozen? ⟨p,0,ah⟩=aq:=o.out.blk.frozen 0;have f1:wr.frozen? ⟨p,1,ah⟩=aq:=o.out.blk.frozen 1;have hps:p<wr.heap.size:=o.out.blk.lt;have I:Hid (∀(L:List cX)(W:ar)(n:Nat),W.heap.size=n->In G Z L W->In G Z (dN 3 1 (.slice (af ⟨n,0,ah⟩) 1 1) 1 [.int .i64 0]::L) (W.alloc (.cells #[.int .i64 0] 3))):=λL W n e h=>e▸h.xB 3 [.int .i64 0]
  have H:Hid (∀(L:List cX)(W:ar)(n:Nat),W.heap.size=n->In G Z L W->In G Z (dN 4 1 (.slice (af ⟨n,0,ah⟩) 1 1) 1 [.bool ak]::L) (W.alloc (.cells #[.bool ak] 4))):=λL W n e h=>e▸h.xB 4 [.bool ak]
  go_upto_region 10 with(fail)
  go_region_law (first
   |(refine qJ (by rfl) (.tmp 50) (.tmp 51) (by rfl) underlying32 ji0 ji1 ji2 ji3 rfl ((I.out _ _ _ rfl o.out.drew).third) (by rfl) (by rfl) rfl E (by decide) ?_;intro v6 c a;obtain⟨P,R,J,_,_,_⟩:=aP a.rowAt;subst J;have k0:c.cell? ⟨p,0,ah⟩=af (.slice v V.length s):=(a.nth 1 (by simp)).blk.cell 0;have k1:c.cell? ⟨p,1,ah⟩=af (.slice B V.length t):=(a.nth 1 (by simp)).blk.cell 1;have k2:c.frozen? ⟨p,0,ah⟩=aq:=(a.nth 1 (by simp)).blk.frozen 0;have k3:c.frozen? ⟨p,1,ah⟩=aq:=(a.nth 1 (by simp)).blk.frozen 1;have k4:p<c.heap.size:=(a.nth 1 (by simp)).blk.lt;have HPI:=ae a;clear a)
   |(refine qJ (by rfl) (.tmp 50) (.tmp 51) (by rfl) underlying32 ji0 ji1 ji2 ji3 rfl ((H.out _ _ (wr.heap.size+1) (by simp) (I.out _ _ _ rfl o.out.drew)).reorder 4 [3,1,0,2] rfl (by simp)) (by rfl) (by rfl) rfl E (by decide) ?_;intro v6 c a;obtain⟨P,R,J,_,_,_⟩:=aP a.rowAt;subst J;have k0:c.cell? ⟨p,0,ah⟩=af (.slice v V.length s):=(a.nth 2 (by simp)).blk.cell 0;have k1:c.cell? ⟨p,1,ah⟩=af (.slice B V.length t):=(a.nth 2 (by simp)).blk.cell 1;have k2:c.frozen? ⟨p,0,ah⟩=aq:=(a.nth 2 (by simp)).blk.frozen 0;have k3:c.frozen? ⟨p,1,ah⟩=aq:=(a.nth 2 (by simp)).blk.frozen 1;have k4:p<c.heap.size:=(a.nth 2 (by simp)).blk.lt;have Q:=ae a;clear a)
   |(refine qJ (by rfl) (.tmp 50) (.tmp 51) (by rfl) underlying32 ji0 ji1 ji2 ji3 rfl ((I.out _ _ (wr.heap.size+1) (by simp) (H.out _ _ _ rfl o.out.drew)).reorder 4 [3,0,1,2] rfl (by simp)) (by rfl) (by rfl) rfl E (by decide) ?_;intro v6 c a;obtain⟨P,R,J,_,_,_⟩:=aP a.rowAt;subst J;have k0:c.cell? ⟨p,0,ah⟩=af (.slice v V.length s):=(a.nth 2 (by simp)).blk.cell 0;have k1:c.cell? ⟨p,1,ah⟩=af (.slice B V.length t):=(a.nth 2 (by simp)).blk.cell 1;have k2:c.frozen? ⟨p,0,ah⟩=aq:=(a.nth 2 (by simp)).blk.frozen 0;have k3:c.frozen? ⟨p,1,ah⟩=aq:=(a.nth 2 (by simp)).blk.frozen 1;have k4:p<c.heap.size:=(a.nth 2 (by simp)).blk.lt;have Q:=ae a;clear a)
   |(refine qJ (by rfl) (.tmp 56) (.tmp 57) (by rfl) underlying68 jb0 jb1 jb2 jb3 rfl ((H.out _ _ _ rfl HPI.out).fourth) (by rfl) (by rfl) rfl E (by decide) ?_;intro v6 c a;obtain⟨AB,cB,J,_,_,_⟩:=aP a.rowAt;subst J;have k0:c.cell? ⟨p,0,ah⟩=af (.slice v V.length s):=(a.nth 2 (by simp)).blk.cell 0;have k1:c.cell? ⟨p,1,ah⟩=af (.slice B V.length t):=(a.nth 2 (by simp)).blk.cell 1;have k2:c.frozen? ⟨p,0,ah⟩=aq:=(a.nth 2 (by simp)).blk.frozen 0;have k3:c.frozen? ⟨p,1,ah⟩=aq:=(a.nth 2 (by simp)).blk.frozen 1;have k4:p<c.heap.size:=(a.nth 2 (by simp)).blk.lt;have HF:=ae a;clear a)
   |(refine qJ (by rfl) (.tmp 56) (.tmp 57) (by rfl) underlying68 jb0 jb1 jb2 jb3 rfl (Q.out.reorder 4 [3,1,0,2] rfl (by simp)) (by rfl) (by rfl) rfl E (by decide) ?_;intro v6 c a;obtain⟨AB,cB,J,_,_,_⟩:=aP a.rowAt;subst J;have k0:c.cell? ⟨p,0,ah⟩=af (.slice v V.length s):=(a.nth 2 (by simp)).blk.cell 0;have k1:c.cell? ⟨p,1,ah⟩=af (.slice B V.length t):=(a.nth 2 (by simp)).blk.cell 1;have k2:c.frozen? ⟨p,0,ah⟩=aq:=(a.nth 2 (by simp)).blk.frozen 0;have k3:c.frozen? ⟨p,1,ah⟩=aq:=(a.nth 2 (by simp)).blk.frozen 1;have k4:p<c.heap.size:=(a.nth 2 (by simp)).blk.lt;have HF:=ae a;clear a))
  all_goals
   have Fx:=(((HF.out.reorder 4 [2,1,0,3] rfl (by simp)).set 0 (.slice P (V.length+1) R)).set 1 (.slice AB (V.length+1) cB));have Kf:Hid (In G Z (cE p (.slice P (V.length+1) R) (.slice AB (V.length+1) cB) r b::dN 3 1 (.slice P (V.length+1) R) (V.length+1) (V.map (λx=>aD .i64 x.1)++[.int .i64 0])::dN 4 1 (.slice AB (V.length+1) cB) (V.length+1) (V.map (λx=>Value.bool x.2)++[.bool ak])::aN z 43 (ints [0,0])::l) _):=Fx;first|clear HPI|clear Q
   clear Fx HF k0 k1 k2 k3 k4 I H o c0 f0 f1 hps;go_upto_region 11 with(fail)
   refine a6 _ Kf.out ?_;clear Kf;intro w7 M;have c9:w7.cell? ⟨p,0,ah⟩=af (.slice P (V.length+1) R):=M.blk.cell 0;have f9:fits w7 z 0 2=ak:=M.fourth.blk.fits 0 2 (by rw[aR];simp);have N:=ae (M.fourth.dY [(V.length:Int),0] rfl);clear M;go_wp2_with fail;refine aZ rfl z 43 (ints [(V.length:Int),0]) (.int .i64 0) _ rfl rfl N.out.blk underlying43 rfl (by rw[aR];exact bW) rfl ?_;refine⟨by rw[q.out];rfl,.slice P (V.length+1) R,.slice AB (V.length+1) cB,?_⟩;rw[q.out];have h5:=N.out.drop;unfold dQ cN;rw[bm,en,en];exact h5
end
def jy(p:Nat)(f:List (Int×Bool))(rs:List cQ)(g:lF):cX where
 at_ w F:=∃b c d a,Sep [cE p b c d a,dQ b f,cN c f,bj d rs,dA a g] w F
 frame h ho hd:=by obtain⟨b,c,d,a,e⟩:=h;exact⟨b,c,d,a,e.frame ho hd⟩
 cut h hd:=by obtain⟨b,c,d,a,e⟩:=h;exact⟨b,c,d,a,e.cut hd⟩
section
variable{G:Nat->Prop} {Z w:ar} {l:List cX} {p Y:Nat} {X:List (Int×Bool)} {W:List cQ} {V:lF}
def In.mN(h:In G Z (jy p X W V::l) w):∃b c d a,In G Z (cE p b c d a::dQ b X::cN c X::bj d W::dA a V::l) w:=by obtain⟨⟨n,o,⟨b,c,d,a,m⟩,e,f,g⟩,j⟩:=h;exact⟨b,c,d,a,(Sep.join m e f).cut λk _ i=>g k i,j⟩
def In.lg{gv lv rv bv}(h:In G Z (cE p gv lv rv bv::dQ gv X::cN lv X::bj rv W::dA bv V::l) w):In G Z (jy p X W V::l) w:=by obtain⟨i,g⟩:=h;obtain⟨a,b,c,d,e,f⟩:=Sep.part (l1:=[cE p gv lv rv bv,dQ gv X,cN lv X,bj rv W,dA bv V]) (l2:=l) i;exact⟨⟨a,b,⟨gv,lv,rv,bv,c⟩,d,e,f⟩,g⟩
def ym(u x:Hd)(W):(binOp .eql 43 (.agg (ints (hL u))) (.agg (ints (hL x)))).run ai W=.ok (.bool (decide (u=x))) W:=by obtain⟨u1,u2⟩:=u;obtain⟨a,b⟩:=x;unfold hL;rw[mJ [u1,u2] [a,b] rfl rfl];simp
def LW(r:cQ)(i:r.b.v.length=8)(x:Hd)(w)(c:row? w Y 0 2=af (ints (hL x))):Calls ai 120 #[.agg (ints r.list),.pointer (af ⟨Y,0,ah⟩)] w λe l=>e=.returned (.bool (decide (r.h=x)))/\Below w.heap.size w l:=by
 have h:=ae (ym r.h x);have n:r.list.length=11:=by simp[cQ.list,bw.list,i]
 have j:(r.list.drop 0).take 2=hL r.h:=rfl;generalize r.list=f at *;generalize hL x=m at *;generalize hL r.h=k at *;generalize decide (r.h=x)=q at *;have b:=ae c;clear c;go_enter func120,ntmps120;go_upto_region 1 with(fail)
 refine a6 (In (λ_=>False) w [aN w.heap.size 50 (ints f)]) ((In.nil w _).alloc 50 (ints f)) ?_;intro d a;have p:row? d w.heap.size 0 2=af (ints k):=by rw[<-j];exact a.blk.dy 0 2 (by omega)
 have s:row? d Y 0 2=af (ints m):=j4 a.ko b.out;have g:=ae a.ko;have o:=h.out;clear a b;go_wp2_with fail;go_ret;exact⟨rfl,g.out⟩
def Jg(r:Hd×Hd)(x:Hd)(w)(c:row? w Y 0 2=af (ints (hL x))):Calls ai 114 #[.agg (ints [r.1.1,r.1.2,r.2.1,r.2.2]),.pointer (af ⟨Y,0,ah⟩)] w λe k=>e=.returned (.bool (decide (r.1=x)))/\Below w.heap.size w k:=by
 have h:=ae (ym r.1 x);have m:[r.1.1,r.1.2,r.2.1,r.2.2].length=4:=rfl;have i:([r.1.1,r.1.2,r.2.1,r.2.2].drop 0).take 2=hL r.1:=rfl;generalize [r.1.1,r.1.2,r.2.1,r.2.2]=f at *;generalize hL x=l at *;generalize hL r.1=j at *;generalize decide (r.1=x)=q at *;have b:=ae c;clear c;go_enter func114,ntmps114;go_upto_region 1 with(fail)
 refine a6 (In (λ_=>False) w [aN w.heap.size 45 (ints f)]) ((In.nil w _).alloc 45 (ints f)) ?_;intro d a;have o:row? d w.heap.size 0 2=af (ints j):=by rw[<-i];exact a.blk.dy 0 2 (by omega)
 have p:row? d Y 0 2=af (ints l):=j4 a.ko b.out;have g:=ae a.ko;have n:=h.out;clear a b;go_wp2_with fail;go_ret;exact⟨rfl,g.out⟩
def Gi(r:Hd×Hd)(x:Hd)(w)(c:row? w Y 0 2=af (ints (hL x))):Calls ai 117 #[.agg (ints [r.1.1,r.1.2,r.2.1,r.2.2]),.pointer (af ⟨Y,0,ah⟩)] w λe k=>e=.returned (.bool (decide (r.1=x)))/\Below w.heap.size w k:=by
 have h:=ae (ym r.1 x);have m:[r.1.1,r.1.2,r.2.1,r.2.2].length=4:=rfl;have i:([r.1.1,r.1.2,r.2.1,r.2.2].drop 0).take 2=hL r.1:=rfl;generalize [r.1.1,r.1.2,r.2.1,r.2.2]=f at *;generalize hL x=l at *;generalize hL r.1=j at *;generalize decide (r.1=x)=q at *;have b:=ae c;clear c;go_enter func117,ntmps117;go_upto_region 1 with(fail)
 refine a6 (In (λ_=>False) w [aN w.heap.size 45 (ints f)]) ((In.nil w _).alloc 45 (ints f)) ?_;intro d a;have o:row? d w.heap.size 0 2=af (ints j):=by rw[<-i];exact a.blk.dy 0 2 (by omega)
 have p:row? d Y 0 2=af (ints l):=j4 a.ko b.out;have g:=ae a.ko;have n:=h.out;clear a b;go_wp2_with fail;go_ret;exact⟨rfl,g.out⟩
def LV(r:Hd×Hd)(x:Hd)(w)(h:row? w Y 0 2=af (ints (hL x))):Calls ai 122 #[.agg (ints [r.1.1,r.1.2,r.2.1,r.2.2]),.pointer (af ⟨Y,0,ah⟩)] w λe m=>e=.returned (.bool (decide (r.1=x)||decide (r.2=x)))/\Below w.heap.size w m:=by
 have j:=ae (ym r.1 x);have b:=ae (ym r.2 x);have o:[r.1.1,r.1.2,r.2.1,r.2.2].length=4:=rfl;have k:([r.1.1,r.1.2,r.2.1,r.2.2].drop 0).take 2=hL r.1:=rfl;have c:([r.1.1,r.1.2,r.2.1,r.2.2].drop 2).take 2=hL r.2:=rfl;generalize [r.1.1,r.1.2,r.2.1,r.2.2]=i at *;generalize hL x=n at *;generalize hL r.1=l at *;generalize hL r.2=vs at *;generalize decide (r.1=x)=q at *;generalize decide (r.2=x)=s at *;have g:=ae h;clear h;go_enter func122,ntmps122;go_upto_region 1 with(fail)
 refine a6 (In (λ_=>False) w [aN w.heap.size 45 (ints i)]) ((In.nil w _).alloc 45 (ints i)) ?_;intro d a;have t:row? d w.heap.size 0 2=af (ints l):=by rw[<-k];exact a.blk.dy 0 2 (by omega)
 have v:row? d w.heap.size 2 2=af (ints vs):=by rw[<-c];exact a.blk.dy 2 2 (by omega)
 have u:row? d Y 0 2=af (ints n):=j4 a.ko g.out;have f:=ae a.ko;have p:=j.out;have T5:=b.out;clear a g;cases q
 ·go_wp2_with fail;go_ret;exact⟨rfl,f.out⟩
 ·go_wp2_with fail;go_ret;exact⟨rfl,f.out⟩
def wM(h:In G Z (jy p X W V::l) w)(f:∀r∈W,r.b.v.length=8)(x):Calls ai 53 #[ptr p,iU x] w λe d=>e=.returned (.int .i64 (sk W x))/\In G Z (jy p X W V::l) d:=by obtain⟨j,k,m,i,g⟩:=h.mN;have a:=g.reorder 4 [0,3,1,2] rfl (by simp);obtain⟨A,c,rfl,_⟩:=aP (In.rowAt (In.swap a));refine(LQ a f x).mono ?_;rintro e d ⟨rfl,b⟩;exact⟨rfl,(b.reorder 4 [0,2,3,1] rfl (by simp)).lg⟩
end
section
variable{G:Nat->Prop} {Z w:ar} {l:List cX} {p:Nat} {Y:List (Int×Bool)} {X:List cQ} {V:lF}
def P0(h:In G Z (jy p Y X V::l) w)(h8:∀r∈X,r.b.v.length=8)(TW:X.length<=60)(I:N4 Y)(x):Calls ai 57 #[ptr p,iU x] w λe w'=>(∃n:Int,e=.returned (.int .i64 n))/\In G Z (jy p (if sk X x<0 then Y else(eY Y x.1 x.2).1) (if sk X x<0 then X else X.filter λr=> !decide (r.h=x)) V::l) w':=by
 have H0:=ae h;have R:=ae h8;have Ux:=ae I;have q:Hid (iU x=.agg (ints (hL x))):=rfl;have U:Hid ((hL x).length=2):=rfl;obtain⟨L,a⟩:∃L,Hid (L=(if sk X x<0 then Y else(eY Y x.1 x.2).1)):=⟨_,rfl⟩;obtain⟨M,b⟩:∃M,Hid (M=(if sk X x<0 then X else X.filter λr=> !decide (r.h=x))):=⟨_,rfl⟩;rw[<-a.out,<-b.out];generalize K:hL x=O at *;have B:=ae K;rw[q.out];clear h h8 I K;show Calls ai 57 #[.pointer (af ⟨p,0,ah⟩),.agg (ints O)] w _;go_enter func57,ntmps57;go_upto_region 1 with(fail)
 refine a6 (In G Z (aN w.heap.size 43 (ints O)::jy p Y X V::l)) (H0.out.alloc 43 (ints O)) ?_;generalize w.heap.size=v;intro w1 t;have q2:row? w1 v 0 2=af (ints O):=t.blk.aL U.out;have y:=ae t.swap;clear t H0;have o:=ae (wM y.out R.out x);rw[q.out]at o;go_wp2_with fail;refine o.out.mono ?_;rintro e w2 ⟨rfl,D⟩;generalize hix:sk X x=ix at *;have s:=ae D;clear D y q2 o hix;by_cases H:ix<0
 ·rw[if_pos H]at a b;go_wp2_with fail;go_ret;rw[a.out,b.out];exact⟨⟨_,rfl⟩,s.out.swap.drop⟩
 ·rw[if_neg H]at a b;obtain⟨k,m,rv,j,f⟩:=s.out.mN;obtain⟨A,c,rfl,_⟩:=aP f.fourth.rowAt;have c2:w2.cell? ⟨p,2,ah⟩=af (.slice A X.length c):=f.blk.cell 2;have g:=f.reorder 6 [3,5,0,1,2,4] rfl (by simp);have g:In G Z (bj (.slice A X.length c) X::aN v 43 (ints (hL x))::cE p k m (.slice A X.length c) j::dQ k Y::cN m Y::dA j V::l) w2:=by rw[B.out];exact g
  have HW:=ae (Gs (x:=x) (λr=>decide (r.h=x)) (hE:=λ_ _=>rfl) (λr hr W hW=>LW r (R.out r hr) x W hW) g R.out (by omega));clear f g s;go_wp2_with fail;refine HW.out.mono ?_;rintro e P ⟨N,rfl,u⟩;obtain⟨A',c',J,_⟩:=aP u.rowAt;have HV':=ae J;have d:=u.reorder 4 [3,0,1,2] rfl (by simp);have i:In G Z (cE p k m (.slice A X.length c) j::bj N (X.filter λr=> !decide (r.h=x))::bj (.slice A X.length c) X::aN v 43 (ints (hL x))::dQ k Y::cN m Y::dA j V::l) P:=d;have c3:P.cell? ⟨p,2,ah⟩=af (.slice A X.length c):=i.blk.cell 2;have c4:P.frozen? ⟨p,2,ah⟩=aq:=i.blk.frozen 2;have E:=i.set 2 N;have F:In G Z (cE p k m N j::bj N (X.filter λr=> !decide (r.h=x))::bj (.slice A X.length c) X::aN v 43 (ints (hL x))::dQ k Y::cN m Y::dA j V::l) (P.setCell ⟨p,2,ah⟩ N):=E;have z:=ae (F.reorder 7 [0,4,5,1,6,3,2] rfl (by simp));subst J;clear c2 u d i E F HW HV';go_upto_region 4 with(fail)
  refine a6 _ z.out ?_;clear c3 c4 z;intro Q C;have C:In G Z (cE p k m _ j::dQ k Y::cN m Y::bj _ (X.filter λr=> !decide (r.h=x))::dA j V::aN v 43 (ints (hL x))::bj (.slice A X.length c) X::l) Q:=C;have q4:row? Q v 0 2=af (ints O):=by rw[<-B.out];exact(C.nth 5 (by simp)).blk.aL rfl
  have S:=ae (Ol C.drew Ux.out x);rw[q.out]at S;clear C;go_upto_region 4 with(fail)
  go_still_tail 4,(by kernel_rfl)
  change wpList _ _ _ _ _ Q.drew;clear q4;generalize Q.drew=w5 at *;go_wp2_with fail;refine S.out.mono ?_;rintro e w6 ⟨rfl,d⟩;have T:=ae (d.reorder 7 [0,1,2,3,4,5,6] rfl (by simp));clear d S;go_wp2_with fail;go_ret;rw[a.out,b.out];exact⟨⟨_,rfl⟩,(T.out.lg).third.drop.swap.drop⟩
def Jw(h:In G Z (jy p Y X V::l) w)(TW:V.length<=60)(x):Calls ai 116 #[ptr p,iU x] w λe w'=>(∃N,N.length=2/\e=.returned (.tuple #[.agg (ints N),.bool (eI V x).isSome]))/\In G Z (jy p Y X V::l) w':=by
 have Q:Hid (iU x=.agg (ints (hL x))):=rfl;have S:Hid ((hL x).length=2):=rfl;have O:=ae λu=>ym u x
 have o:Hid ((∀j,(n:j<V.length)->V[j].1≠x)->(eI V x).isSome=aq):=λhh=>by
  cases hm:eI V x with|none=>rfl|some y=>obtain⟨j,n,e⟩:=List.mem_iff_getElem.1 (wi hm);exact absurd (by rw[e]) (hh j n)
 have b:Hid (∀j,(n:j<V.length)->V[j].1=x->(eI V x).isSome=ak):=λj n e=>by
  cases hm:eI V x with|some y=>rfl|none=>exact absurd (aA.2 ⟨_,aF n,e⟩) (oi.1 hm)
 generalize (eI V x).isSome=W at *;obtain⟨t,B,C,bv,m⟩:=h.mN;have m:=m.reorder 5 [0,4,1,2,3] rfl (by simp);obtain⟨A,c,rfl,_,T0,_⟩:=aP (In.rowAt (In.swap m));have H0:Hid (In G Z (cE p t B C (.slice A V.length c)::dA (.slice A V.length c) V::dQ t Y::cN B Y::bj C X::l) w):=m;have RP:(V.length:Int)<=60:=by omega
 generalize M:hL x=H at *;have HXS:=ae M;rw[Q.out];clear h m M;show Calls ai 116 #[.pointer (af ⟨p,0,ah⟩),.agg (ints H)] w _;go_enter func116,ntmps116;go_upto_region 1 with(fail)
 refine a6 (In G Z (aN (w.heap.size+1) 43 (ints [0,0])::aN w.heap.size 43 (ints H)::cE p t B C (.slice A V.length c)::dA (.slice A V.length c) V::dQ t Y::cN B Y::bj C X::l)) ?_ ?_;have:=(H0.out.alloc 43 (ints H)).alloc 43 (ints [0,0]);rw[bZ]at this;exact this;generalize w.heap.size+1=F;generalize w.heap.size=U;intro w1 D;have c1:w1.cell? ⟨p,3,ah⟩=af (.slice A V.length c):=D.third.blk.cell 3;have I:=ae D;clear D H0;go_wp2_with fail;clear c1;go_loopw [13] (λi w'=>∃k:Nat,k<=V.length/\i=.int .i64 k/\(∀j,(n:j<V.length)->j<k->V[j].1≠x)/\In G Z (aN F 43 (ints [0,0])::aN U 43 (ints H)::cE p t B C (.slice A V.length c)::dA (.slice A V.length c) V::dQ t Y::cN B Y::bj C X::l) w') (λi _=>V.length-(intOf i).toNat)
 case atStart=>exact⟨0,by omega,rfl,λj n h=>by omega,I.out⟩
 case round=>
  clear I;obtain⟨k,hk,rfl,v,m⟩:=hrel;have s:=ae v;clear v;by_cases L:k<V.length
  ·have rW:(k:Int)<V.length:=by omega
   obtain⟨gb,rfl,q1⟩:=tH m.fourth L;have r:=ae (b.out k L);have q:Hid (V[k].1≠x->∀j,(n:j<V.length)->j<k+1->V[j].1≠x):=λh j n GZ=>by by_cases e:j=k;subst e;exact h;exact s.out j n (by omega)
   have HI:=ae m;clear m;generalize V[k]=y at *;obtain⟨d,g⟩:=y;have K:[d.1,d.2,g.1,g.2].length=4:=rfl;have hd:([d.1,d.2,g.1,g.2].drop 0).take 2=hL d:=rfl;have J:([d.1,d.2,g.1,g.2].drop 2).take 2=hL g:=rfl;have z:(hL g).length=2:=rfl;simp only at r q q1;generalize [d.1,d.2,g.1,g.2]=N at *;go_upto_region 4 with(fail)
   refine a6 (In G Z (aN wr.heap.size 45 (ints N)::aN F 43 (ints [0,0])::aN U 43 (ints H)::cE p t B C (.slice (af ⟨gb,0,ah⟩) V.length c)::dA (.slice (af ⟨gb,0,ah⟩) V.length c) V::dQ t Y::cN B Y::bj C X::l)) (HI.out.struct 45 [0,0,0,0] N K) ?_;generalize wr.heap.size=yb;intro P a;have q2:row? P yb 0 2=af (ints (hL d)):=by rw[<-hd];exact a.blk.dy 0 2 (by omega)
   have q3:row? P U 0 2=af (ints H):=a.third.blk.aL S.out;have q4:row? P yb 2 2=af (ints (hL g)):=by rw[<-J];exact a.blk.dy 2 2 (by omega)
   have f6:fits P F 0 2=ak:=a.swap.blk.fits 0 2 (by rw[aR];simp);have hn:=O.out d;have R:=ae a.drop;have f:=ae (a.drop.dY (hL g) rfl);clear a q1 HI hd J K;by_cases E:d=x
   ·rw[decide_eq_true E]at hn;have T:=ae (r.out E);clear E r q O o b;generalize hL d=us at *;generalize hL g=vs at *;go_wp2_with fail;refine aZ rfl F 43 (ints vs) (.bool ak) _ rfl rfl f.out.blk underlying43 rfl (by rw[aR,z];exact bW) rfl ?_;refine⟨⟨vs,z,by rw[T.out]⟩,?_⟩;exact((f.out.drop.drop).reorder 5 [0,2,3,4,1] rfl (by simp)).lg
   rw[decide_eq_false E]at hn;have HN:=ae (q.out E);clear E r q O o b q4 f6 f;generalize hL d=us at *;go_wp2_with fail;go_roundw
   case rel=>exact⟨k+1,by omega,by go_num,HN.out,R.out⟩
   simp[intOf];omega
  have T:Hid (W=aq):=o.out λj n=>s.out j n (by omega)
  have f6:fits wr F 0 2=ak:=m.blk.fits 0 2 (by rw[aR];simp);have f:=ae (m.dY [0,0] rfl);clear m o b O;go_wp2_with fail;refine aZ rfl F 43 (ints [0,0]) (.bool aq) _ rfl rfl f.out.blk underlying43 rfl (by rw[aR];exact bW) rfl ?_;refine⟨⟨[0,0],rfl,by rw[T.out]⟩,?_⟩;exact((f.out.drop.drop).reorder 5 [0,2,3,4,1] rfl (by simp)).lg
def PZ(h:In G Z (jy p Y X V::l) w)(TW:V.length<=60)(x):Calls ai 118 #[ptr p,iU x] w λe w'=>∃v,e=.returned v/\In G Z (e9 v (eO V x)::jy p Y X V::l) w':=by
 have T:Hid (iU x=.agg (ints (hL x))):=rfl;have U:Hid ((hL x).length=2):=rfl;have S:=ae λu=>ym u x
 obtain⟨b,f,g,bv,d⟩:=h.mN;have d:=d.reorder 5 [0,4,1,2,3] rfl (by simp);obtain⟨A,c,rfl,_,T0,_⟩:=aP (In.rowAt (In.swap d));have H0:Hid (In G Z (cE p b f g (.slice A V.length c)::dA (.slice A V.length c) V::dQ b Y::cN f Y::bj g X::l) w):=d;have RP:(V.length:Int)<=60:=by omega
 obtain⟨i0,W,sS,sT,sa⟩:=info_parts ia;generalize P:hL x=s at *;have HXS:=ae P;rw[T.out];clear h d P;show Calls ai 118 #[.pointer (af ⟨p,0,ah⟩),.agg (ints s)] w _;go_enter func118,ntmps118;go_upto_region 1 with(fail)
 refine a6 (In G Z (e9 (.slice ah 0 0) (eO (V.take 0) x)::aN w.heap.size 43 (ints s)::cE p b f g (.slice A V.length c)::dA (.slice A V.length c) V::dQ b Y::cN f Y::bj g X::l)) ((H0.out.alloc 43 (ints s)).kz _ _) ?_;generalize w.heap.size=K;intro w1 z;have c1:w1.cell? ⟨p,3,ah⟩=af (.slice A V.length c):=z.third.blk.cell 3;have E:=ae z;clear z H0;go_wp2_with fail;clear c1;go_loopw [5,13] (λv i w'=>∃k:Nat,k<=V.length/\i=.int .i64 k/\In G Z (e9 v (eO (V.take k) x)::aN K 43 (ints s)::cE p b f g (.slice A V.length c)::dA (.slice A V.length c) V::dQ b Y::cN f Y::bj g X::l) w') (λ_ i _=>V.length-(intOf i).toNat)
 case atStart=>exact⟨0,by omega,rfl,E.out⟩
 case round=>
  clear E;obtain⟨k,hk,rfl,d⟩:=hrel;by_cases O:k<V.length
  ·have rW:(k:Int)<V.length:=by omega
   obtain⟨B,rfl,q1⟩:=tH d.fourth O;have H:Hid (eO (V.take (k+1)) x=eO (V.take k) x++(if V[k].2=x then [V[k].1]else [])):=by unfold Hid eO;rw[aV O,List.filter_append,en];congr 1;by_cases hq:V[k].2=x<;>simp[hq]
   have KZ:(eO (V.take k) x).length<=60:=bD (sV _ _) (by rw[cR];omega);have R:=ae d;clear d;generalize eO (V.take k) x=I at *;generalize L:eO (V.take (k+1)) x=q at *;have D:=ae L;clear L;generalize V[k]=y at *;obtain⟨⟨n,o⟩,a⟩:=y;have N:[n,o,a.1,a.2].length=4:=rfl;have hd:([n,o,a.1,a.2].drop 0).take 2=[n,o]:=rfl;have M:([n,o,a.1,a.2].drop 2).take 2=hL a:=rfl;simp only at H q1;generalize [n,o,a.1,a.2]=ys at *;go_upto_region 5 with(fail)
   refine a6 (In G Z (aN wr.heap.size 45 (ints ys)::e9 u5 I::aN K 43 (ints s)::cE p b f g (.slice (af ⟨B,0,ah⟩) V.length c)::dA (.slice (af ⟨B,0,ah⟩) V.length c) V::dQ b Y::cN f Y::bj g X::l)) (R.out.struct 45 [0,0,0,0] ys N) ?_;generalize wr.heap.size=yb;intro Q m;have q2:row? Q yb 2 2=af (ints (hL a)):=by rw[<-M];exact m.blk.dy 2 2 (by omega)
   have q3:row? Q K 0 2=af (ints s):=m.third.blk.aL U.out;have q4:row? Q yb 0 2=af #[.int .i64 n,.int .i64 o]:=by
    have:row? Q yb 0 2=af (ints [n,o]):=by rw[<-hd];exact m.blk.dy 0 2 (by omega)
    exact this
   have hn:=S.out a;have j:=ae m.drop;clear m q1 R hd M N;by_cases C:a=x
   ·rw[decide_eq_true C]at hn;rw[if_pos C]at H;have F:=ae j.out.rowAt;clear C S;generalize hL a=us at *;go_wp2_with (at_builtin;go_loud (refine dv rfl _ _ _ rfl 0 43 i0 _ 2 16 underlying122 W sS sT sa rfl (by decide) _ I.length _ rfl F.out [.int .i64 n,.int .i64 o] rfl rfl (by simp[fW]) (by unfold maxLen;omega) (by omega) (bH _) ?_));intro v' w4 r hg J;have t:Hid (In G Z (e9 v' q::aN K 43 (ints s)::cE p b f g (.slice (af ⟨B,0,ah⟩) V.length c)::dA (.slice (af ⟨B,0,ah⟩) V.length c) V::dQ b Y::cN f Y::bj g X::l) w4):=by rw[H.out];exact In.vC (x:=(n,o)) j.out r hg J
    clear r hg J j F q2 q3 q4 hn;go_wp2_with fail;go_roundw
    case rel=>exact⟨k+1,by omega,by go_num,by rw[D.out];exact t.out⟩
    simp[intOf];omega
   rw[decide_eq_false C]at hn;rw[if_neg C,cK]at H;have t:Hid (In G Z (e9 u5 q::aN K 43 (ints s)::cE p b f g (.slice (af ⟨B,0,ah⟩) V.length c)::dA (.slice (af ⟨B,0,ah⟩) V.length c) V::dQ b Y::cN f Y::bj g X::l) Q):=by rw[H.out];exact j.out
   clear C S j q4;generalize hL a=us at *;go_wp2_with fail;go_roundw
   case rel=>exact⟨k+1,by omega,by go_num,by rw[D.out];exact t.out⟩
   simp[intOf];omega
  have:k=V.length:=by omega
  subst this;rw[cq]at d;have R:=ae d;clear d;go_wp2_with fail;go_ret;exact⟨_,rfl,(((R.out.swap.drop).swap.reorder 6 [0,3,4,5,2,1] rfl (by simp)).lg).swap⟩
def JA{p Y X V}(hm:il V)(hs:cY V=V)(TW:V.length<=60)(rk R)(hr:uM V rk R):∀n a{G}{Z w}{l},R-rk a<n->In G Z (jy p Y X V::l) w->Calls ai 56 #[ptr p,iU a] w λe w'=>∃v,e=.returned v/\In G Z (e9 v (under V a)::jy p Y X V::l) w':=by
 intro n
 induction n with
 |zero=>intro a G Z w l h;omega|succ n ih=>
  intro a G Z w l hn h;have J:=ae h;have IH:=ae @ih;have HN:=ae hn;have HR:=ae hr;have HM:=ae hm;have HKD:=ae (R4 hs a);clear h ih hn hr hm hs;have HV:∀a:Hd,iU a=.agg #[.int .i64 a.1,.int .i64 a.2]:=λ_=>rfl
  obtain⟨b,f⟩:=a;rw[j7];obtain⟨i0,uT,sS,sT,sa⟩:=info_parts ia;show Calls ai 56 #[.pointer (af ⟨p,0,ah⟩),_] w _;go_enter func56,ntmps56;go_upto_region 1 with(fail)
  refine a6 (In G Z (jy p Y X V::aN w.heap.size 43 (ints [b,f])::l)) ((J.out.alloc 43 (ints [b,f])).swap) ?_;generalize w.heap.size=A;intro w1 H;have k1:row? w1 A 0 2=af (ints [b,f]):=H.swap.blk.aL rfl;have K:=ae H;clear H J;go_wp2_with fail;refine(PZ K.out TW (b,f)).mono ?_;rintro e w2 ⟨kv,rfl,s⟩;rw[HKD.out]at s;obtain⟨kA,F,rfl,_,_,_⟩:=mf s.rowAt;have RM:=Iy V (b,f);have L:Hid (In G Z (dN 43 2 (.slice ah 0 0) 0 []::e9 (.slice kA (kids V (b,f)).length F) (kids V (b,f))::jy p Y X V::aN A 43 (ints [b,f])::l) w2):=In.kz s _ _;have HU:=ae (tu V HM.out (b,f));clear s K k1;go_wp2_with fail;go_loopw [5,12] (λout i w'=>∃k:Nat,k<=(kids V (b,f)).length/\i=.int .i64 k/\In G Z (e9 out (iC V (b,f) k)::e9 (.slice kA (kids V (b,f)).length F) (kids V (b,f))::jy p Y X V::aN A 43 (ints [b,f])::l) w') (λ_ i _=>(kids V (b,f)).length-(intOf i).toNat)
  case atStart=>exact⟨0,bH _,rfl,L.out⟩
  clear L;obtain⟨k,hk,rfl,H⟩:=hrel;have I:=ae H;clear H;by_cases E:k<(kids V (b,f)).length
  ·have rW:(k:Int)<(kids V (b,f)).length:=by omega
   obtain⟨A',c',e0,_,hkc,u⟩:=mf I.out.swap.rowAt;injection e0 with e1 e2 e3;subst e1;subst e3;obtain⟨g,rfl,q1⟩:=u k E;have HS:=ae (wT V (b,f) k E);have O:Hid (eI V (kids V (b,f))[k]=af (b,f)):=(jU HM.out.nodup).1 (aF E);have hle:=rP V HM.out (b,f) k;have q:=rP V HM.out (b,f) (k+1);rw[HS.out]at q;have YN:((kids V (b,f)).length:Int)<=F:=by omega
   clear u e2;generalize (kids V (b,f))[k]=c at *;obtain⟨j,o⟩:=c;have ab':=oo HM.out.nodup HM.out.pD (j,o);simp only[bm,ax,aM]at q;go_upto_region 5 with(fail)
   refine a6 (In G Z (aN wr.heap.size 43 (ints [j,o])::e9 u5 (iC V (b,f) k)::e9 (.slice (af ⟨g,0,ah⟩) (kids V (b,f)).length F) (kids V (b,f))::jy p Y X V::aN A 43 (ints [b,f])::l)) (I.out.struct 43 [0,0] [j,o] rfl) ?_;generalize wr.heap.size=cb;intro w3 B;have q2:row? w3 cb 0 2=af #[.int .i64 j,.int .i64 o]:=B.blk.aL (xs:=[j,o]) rfl;have z:=ae B.swap;have W:R-rk (j,o)<n:=by have h1:=HR.out _ _ O.out;have h2:=HN.out;omega
   have HRK:=ae W;have T:Hid ((iC V (b,f) k++[(j,o)]).length+(under V (j,o)).length<=1099511627776):=by unfold Hid;rw[bm];simp;omega
   have KZ:(iC V (b,f) k).length<=60:=by omega
   have S:=ae z.out.rowAt;clear W B q1 I hle q ab';generalize OL:iC V (b,f) k=cs at *;clear OL;go_wp2_with (at_builtin;go_loud (refine dv rfl _ _ _ rfl 0 43 i0 _ 2 16 underlying122 uT sS sT sa rfl (by decide) _ cs.length _ rfl S.out [.int .i64 j,.int .i64 o] rfl rfl (by simp[fW]) (by unfold maxLen;omega) (by omega) (bH _) ?_));intro v' w4 t hg U8;have C:=In.vC (x:=(j,o)) z.out t hg U8;have q3:row? w4 cb 0 2=af #[.int .i64 j,.int .i64 o]:=C.swap.blk.aL (xs:=[j,o]) rfl;have M:Hid (In G Z (jy p Y X V::e9 v' (cs++[(j,o)])::aN cb 43 (ints [j,o])::e9 (.slice (af ⟨g,0,ah⟩) (kids V (b,f)).length F) (kids V (b,f))::aN A 43 (ints [b,f])::l) w4):=C.fourth;clear t hg U8 C z S q2;go_wp2_with fail;refine(IH.out (j,o) HRK.out M.out).mono ?_;rintro e w5 ⟨uv,rfl,U⟩;have r:Hid (In G Z (e9 v' (cs++[(j,o)])::e9 uv (under V (j,o))::jy p Y X V::aN cb 43 (ints [j,o])::e9 (.slice (af ⟨g,0,ah⟩) (kids V (b,f)).length F) (kids V (b,f))::aN A 43 (ints [b,f])::l) w5):=U.third;have P:=ae r.out.rowAt;have Q:=ae r.out.swap.rowAt;clear U M q3;go_wp2_with (at_builtin;go_loud (refine wU rfl _ _ _ rfl 43 i0 _ 2 16 underlying122 uT sS sT sa rfl (by decide) rfl rfl P.out Q.out ?_ ?_ ?_ ?_));intro y hy;obtain⟨d,_,hd⟩:=List.mem_flatMap.1 hy;simp[hC]at hd;rcases hd with rfl|rfl<;>rfl;have:=T.out;unfold maxLen;omega;have:=T.out;omega;intro v2 w6 g1 g2 g3;have D:=r.out.l5 (m:=(under V (j,o)).length) (news:=(under V (j,o)).flatMap hC) (v':=v2) (by rw[bm,bS,b9];exact g1) g2 g3
   rw[<-bS,<-bm]at D;have N:Hid (In G Z (e9 v2 (cs++[(j,o)]++under V (j,o))::e9 (.slice (af ⟨g,0,ah⟩) (kids V (b,f)).length F) (kids V (b,f))::jy p Y X V::aN A 43 (ints [b,f])::l) w6):=D.swap.drop.reorder 5 [0,3,1,4,2] rfl (by simp)|>.fifth.drop;rw[<-HS.out]at N;clear g1 g2 g3 D r P Q;go_wp2_with fail;go_roundw
   case rel=>exact⟨k+1,by omega,by go_num,N.out⟩
   simp[intOf];omega
  have:k=(kids V (b,f)).length:=by omega
  subst this;rw[HU.out]at I;go_wp2_with fail;go_ret;exact⟨_,rfl,I.out.swap.drop.third.drop⟩
def Bv(h:In G Z (jy p Y X V::l) w)(hm:il V)(d:cY V=V)(b:V.length<=60)(a):Calls ai 56 #[ptr p,iU a] w λe f=>∃v,e=.returned v/\In G Z (e9 v (under V a)::jy p Y X V::l) f:=by obtain⟨rk,R,c⟩:=hm.pD;exact JA hm d b rk R c (R-rk a+1) a (Nat.lt_succ_self _) h
end
section
variable{G:Nat->Prop} {Z w:ar} {l:List cX} {p:Nat} {Y:List (Int×Bool)} {X:List cQ} {V:lF}
def yG(h:In G Z (jy p Y X V::l) w)(M:V.length<=60)(x):Calls ai 55 #[ptr p,iU x] w λe w'=>(∃n:Int,e=.returned (.int .i64 n))/\In G Z (jy p Y X (eH V x).1::l) w':=by
 have N:=ae h;have t:Hid (iU x=.agg (ints (hL x))):=rfl;have J:Hid ((hL x).length=2):=rfl;have f:Hid (∀b,(eI V x).isSome=b->(eH V x).1=if b=ak then dB V x else V):=λb s=>by unfold eH;rw[s];split<;>rfl
 obtain⟨y,d⟩:∃y,Hid (y=(eH V x).1):=⟨_,rfl⟩;rw[<-d.out];generalize B:hL x=C at *;have K:=ae B;rw[t.out];clear h B;show Calls ai 55 #[.pointer (af ⟨p,0,ah⟩),.agg (ints C)] w _;go_enter func55,ntmps55;go_upto_region 1 with(fail)
 refine a6 (In G Z (aN w.heap.size 43 (ints C)::jy p Y X V::l)) (N.out.alloc 43 (ints C)) ?_;generalize w.heap.size=s;intro w1 m;have q2:row? w1 s 0 2=af (ints C):=m.blk.aL J.out;have u:=ae m.swap;clear m N;have k:=ae (Jw u.out M x);rw[t.out]at k;have f:=f.out _ rfl;rw[f]at d;clear f;generalize (eI V x).isSome=is at *;go_wp2_with fail;refine k.out.mono ?_;rintro e w2 ⟨⟨ys,q,rfl⟩,z⟩;have v:=ae z;have R:=ae q;clear z u q2 k;go_upto_region 2 with(fail)
 refine a6 (In G Z (jy p Y X V::aN s 43 (ints C)::l)) ((v.out.struct 43 [0,0] ys q).drop) ?_;intro P a;have j:=ae a;clear a v q;cases is
 ·go_wp2_with fail;go_ret;rw[d.out];exact⟨⟨_,rfl⟩,j.out.swap.drop⟩
 ·obtain⟨D,E,F,bv,a⟩:=j.out.mN;obtain⟨A,c,rfl,_⟩:=aP (a.nth 4 (by simp)).rowAt;have S:P.cell? ⟨p,3,ah⟩=af (.slice A V.length c):=a.blk.cell 3;have g:=a.reorder 6 [4,5,0,1,2,3] rfl (by simp);have g:In G Z (dA (.slice A V.length c) V::aN s 43 (ints (hL x))::cE p D E F (.slice A V.length c)::dQ D Y::cN E Y::bj F X::l) P:=by rw[K.out];exact g
  have O:=ae (rN (x:=x) (λr=>decide (r.1=x)) (hE:=λ_ _=>rfl) (λr hr W U=>Gi r x W U) g (by omega));clear a g j;go_wp2_with fail;refine O.out.mono ?_;rintro e Q ⟨v',rfl,o⟩;obtain⟨H,L,rfl,_⟩:=aP o.rowAt;have i:=o.reorder 4 [3,0,1,2] rfl (by simp);have c3:Q.cell? ⟨p,3,ah⟩=af (.slice A V.length c):=i.blk.cell 3;have c4:Q.frozen? ⟨p,3,ah⟩=aq:=i.blk.frozen 3;have I:=ae ((i.set 3 (.slice H (V.filter λr=> !decide (r.1=x)).length L)).reorder 7 [0,4,5,6,1,2,3] rfl (by simp));clear S o i O;go_wp2_with fail;go_ret;rw[d.out];have T:In G Z (cE p D E F (.slice H (V.filter λr=> !decide (r.1=x)).length L)::dQ D Y::cN E Y::bj F X::dA (.slice H (V.filter λr=> !decide (r.1=x)).length L) (V.filter λr=> !decide (r.1=x))::dA (.slice A V.length c) V::aN s 43 (ints (hL x))::l) _:=I.out;exact⟨⟨_,rfl⟩,T.lg.third.drop.swap.drop⟩
def Ih(x:Hd)(r:Hd×Hd):Bool:=decide (r.1=x)||decide (r.2=x)
def PY(h:In G Z (jy p Y X V::l) w)(F:V.length<=60)(x):Calls ai 58 #[ptr p,iU x] w λe J=>e=.returned (.tuple #[])/\In G Z (jy p Y X (kr V x)::l) J:=by
 have C:=ae h;have o:Hid (iU x=.agg (ints (hL x))):=rfl;have D:Hid ((hL x).length=2):=rfl;generalize i:hL x=u at *;have s:=ae i;rw[o.out];clear h i;show Calls ai 58 #[.pointer (af ⟨p,0,ah⟩),.agg (ints u)] w _;go_enter func58,ntmps58;go_upto_region 1 with(fail)
 refine a6 (In G Z (aN w.heap.size 43 (ints u)::jy p Y X V::l)) (C.out.alloc 43 (ints u)) ?_;generalize w.heap.size=y;intro z g;obtain⟨j,k,m,K,a⟩:=g.swap.mN;obtain⟨A,c,rfl,_⟩:=aP (a.nth 4 (by simp)).rowAt;have E:z.cell? ⟨p,3,ah⟩=af (.slice A V.length c):=a.blk.cell 3;have b:=a.reorder 6 [4,5,0,1,2,3] rfl (by simp);have b:In G Z (dA (.slice A V.length c) V::aN y 43 (ints (hL x))::cE p j k m (.slice A V.length c)::dQ j Y::cN k Y::bj m X::l) z:=by rw[s.out];exact b
 have v:=ae (rN (x:=x) (Ih x) (hE:=λ_ _=>rfl) (λr N W I=>LV r x W I) b (by omega));clear a b g;go_wp2_with fail;refine v.out.mono ?_;rintro e B ⟨O,rfl,f⟩;obtain⟨n,t,rfl,_⟩:=aP f.rowAt;have d:=f.reorder 4 [3,0,1,2] rfl (by simp);have L:B.cell? ⟨p,3,ah⟩=af (.slice A V.length c):=d.blk.cell 3;have M:B.frozen? ⟨p,3,ah⟩=aq:=d.blk.frozen 3;have q:=ae ((d.set 3 (.slice n (V.filter λr=> !Ih x r).length t)).reorder 7 [0,4,5,6,1,2,3] rfl (by simp));clear E f d v;go_wp2_with fail
 go_end0
 have H:In G Z (cE p j k m (.slice n (V.filter λr=> !Ih x r).length t)::dQ j Y::cN k Y::bj m X::dA (.slice n (V.filter λr=> !Ih x r).length t) (V.filter λr=> !Ih x r)::dA (.slice A V.length c) V::aN y 43 (ints (hL x))::l) _:=q.out;exact⟨rfl,H.lg.third.drop.swap.drop⟩
end
section
variable{P:Program} {w:ar} {E:cD} {size n k c:Nat} {A:Option Addr} {Z:Type} {f:Z->List aB} {Y:List Z}
def Et{j}(h:w.ownsRow 0 E size (.slice A n c) n j):(A=ah/\n=0/\c=0)\/∃g,A=af ⟨g,0,ah⟩:=by rcases h.2 with h|⟨g,b,d,e,_⟩;injection h.1 with a f i;exact .inl ⟨a,f,i⟩;injection e with a _ _;exact .inr ⟨g,a⟩
def Bl(i:∀x,(f x).length=size)(h:w.ownsRow 0 E size (.slice A Y.length c) Y.length (Y.flatMap f))(l:k<=Y.length):Reads w w.heap.size size A k ((Y.take k).flatMap f):=by
 refine⟨by rw[ns i,cR,qO l],λm=> ?_⟩;obtain⟨b,o,e,d,g⟩:=(Reads.oK h).2 (by omega);refine⟨b,o,e,d,λj u a=>g j u ?_⟩
 conv=>lhs;rw[<-fZ k Y]
 rw[bS,List.getElem?_append_left (bg.1 a).1];exact a
def mQ(d:∀x,(f x).length=size)(h:w.ownsRow 0 E size (.slice A Y.length c) Y.length (Y.flatMap f))(q:k<=Y.length)(a)(m:k<Y.length->∃g,A=af ⟨g,0,ah⟩/\a=af ⟨g,k *size,ah⟩):Reads w w.heap.size size a (Y.length-k) ((Y.drop k).flatMap f):=by
 refine⟨by rw[ns d,List.length_drop],λt=> ?_⟩;obtain⟨g,rfl,rfl⟩:=m (by omega);obtain⟨b,o,e,n,p⟩:=(Reads.oK h).2 (by omega);injection e with e;injection e with i l;subst i;subst l;refine⟨g,k *size,rfl,n,λj u s=> ?_⟩;have r:((Y.take k).flatMap f).length=k *size:=by rw[ns d,cR,qO q]
 have:=p (k *size+j) u (by
  conv=>lhs;rw[<-fZ k Y]
  rw[bS,nE (by omega),r,Nat.add_sub_cancel_left];exact s)
 rw[Nat.zero_add]at this;exact this
def fw{R o a K Q X B}(L:o.guard=ah)(s x t)(ho:o.op=.call {callee:=.builtin .append,args:=#[s,x],argTypes:=#[t,t]})(E i z size d)(T:P.underlying t=af (.slice E))(S:P.info? E=af i)(hz:i.zero=af z)(q:i.size=size)(J:i.bytes=d)(O:z.cells.size=size)(N:0<size){v n m l u c A}(hs:a.eval s=v)(hx:a.eval x=.slice A m l)(g:w.ownsRow 0 E size v n u)(Z:(A=ah/\m=0/\l=0)\/∃D,A=af D)(C:Reads w B size A m c)(V:∀x∈c,x.oneCell'=ak)(I:n+m<=maxLen)(p:(n+m) *d<=140737488355328)(h:∀f k,k.ownsRow 0 E size f (n+m) (u++c)->w.grownBy k v.ownBlock->(f.ownBlock=v.ownBlock\/f.ownBlock=af w.heap.size)->K (a.put o.dst f) k):if Region.wanted o (yielded R a.tmps)=ak then Oper.wp P o a w K Q else X:=by
 rw[if_pos (by simp[Region.wanted,L])];have r:∃f k,(Builtin.append_ #[t,t] o.type #[v,.slice A m l]).run P w=.ok f k/\k.ownsRow 0 E size f (n+m) (u++c)/\w.grownBy k v.ownBlock/\(f.ownBlock=v.ownBlock\/f.ownBlock=af w.heap.size):=by
  rcases Z with⟨rfl,rfl,rfl⟩|⟨D,rfl⟩;have hn:c=[]:=List.eq_nil_of_length_eq_zero (by have:=C.1;omega);subst hn;exact⟨v,w,run_append_owned_none (P:=P) (w:=w) 0 t o.type E i size T S v n u g,by simpa using g,vT _ _,Or.inl rfl⟩;obtain⟨f,k,M,G,H,_,Y⟩:=run_append_own_at (P:=P) w 0 t o.type E i z size d T S hz q J O N v n u g D m l c C.1 (λj y U=>by
   have hj:=(bg.1 U).1;have hm:0<m:=by have:=C.1;rcases Nat.eq_zero_or_pos m with F|F;rw[F]at this;omega;exact F
   obtain⟨b,o,e,_,hc⟩:=C.2 hm;injection e with e;subst e;rw[Addr.add_lit];exact hc j y U) V I p (bH _)
  exact⟨f,k,M,G,H,Y⟩
 obtain⟨f,k,M,G,H,W⟩:=r;unfold Oper.wp;simp[execOp,ho,resolve,invoke,builtin,hs,hx,M,Result.andThen];exact h f k G H W
end
section
variable{G:Nat->Prop} {Z w:ar} {l:List cX} {p:Nat} {Y:List (Int×Bool)} {f:BF} {X:lF}
def In.Fi(h:In G Z l w)(n):In G Z l (w.drewN n):=h.below ⟨rfl,rfl,rfl,ao _,λ_ _=>rfl⟩
def ub(rs:List cQ):∀x∈rs.flatMap iK,x.oneCell'=ak:=wo (f:=pK) rfl
def Bh{E:cD}{A k c b}(h:In G Z l w)(q:E=50)(p:Reads w w.heap.size 11 A k b)(m:∀u∈b,u.oneCell'=ak)(n:(A=ah/\k=0/\c=0)\/∃i,A=af i)(r:k<=60):Calls ai 60 #[.slice A k c] w λe d=>∃a,e=.returned a/\In G Z (dN 50 11 a k b::l) d/\Below w.heap.size w d:=by refine(wG A k c _ w _ p m n (by omega)).mono ?_;rintro e d ⟨a,rfl,g,f⟩;exact⟨a,rfl,h.new (A:=dN 50 11 a k b) f ⟨qz g,λj o=>(World.ownsRow.lt g j o).1⟩,f⟩
def L6(h:In G Z (jy p Y (ep Y f) X::l) w)(OO:lH Y f)(b)(hv:b.v.length=8):Calls ai 50 #[ptr p,.agg (ints b.list)] w λe w'=>(∃ys m,ys.length=2/\e=.returned (.tuple #[.agg (ints ys),.int .i64 m]))/\In G Z (jy p (dU Y f b).1.1 (ep (dU Y f b).1.1 (dU Y f b).1.2) X::l) w':=by
 have H0:=ae h;have HSO:=ae OO.so;obtain⟨T9,HLS⟩:∃T9,Hid (T9=(dU Y f b).1.1):=⟨_,rfl⟩;obtain⟨n,Z1⟩:∃n,Hid (n=ep (dU Y f b).1.1 (dU Y f b).1.2):=⟨_,rfl⟩;rw[<-Z1.out,<-HLS.out];have XT:Hid (bx b≠0->T9=Y/\n=ep Y f):=λhe=>by
  have e:(dU Y f b).1=(Y,f):=by unfold dU;rw[if_pos he]
  rw[HLS.out,Z1.out,e];exact⟨rfl,rfl⟩
 have K:Hid (bx b=0->(eb Y).2.2≠0->T9=(eb Y).1/\n=ep Y f):=λhe ht=>by
  have e:(dU Y f b).1=((eb Y).1,f):=by unfold dU;rw[if_neg (λh=>h he),if_neg ht]
  rw[HLS.out,Z1.out,e];rcases qK OO.so.1 with e2|⟨k',g,C,e2,_⟩;rw[e2];exact⟨rfl,rfl⟩;rw[e2]at ht;exact absurd rfl ht
 have N:Hid (bx b=0->(eb Y).2.2=0->T9=(eb Y).1/\∀k,k<=(ep Y f).length->(∀j,(hj:j<(ep Y f).length)->j<k->(ep Y f)[j].h.1<(eb Y).2.1.1)->((Vb:k<(ep Y f).length)->¬(ep Y f)[k].h.1<(eb Y).2.1.1)->n=(ep Y f).take k++[⟨(eb Y).2.1,b⟩]++(ep Y f).drop k):=λhe ht=>by
  have e:(dU Y f b).1.1=(eb Y).1:=by unfold dU;rw[if_neg (λh=>h he),if_pos ht]
  refine⟨by rw[HLS.out,e],λk hk h1 h2=> ?_⟩;rw[Z1.out];exact Me OO he hv ht hk h1 h2
 have Uw:=ae (LR b hv);have TR:Hid (∀r∈ep Y f,r.b.v.length=8):=λr hr=>(UF OO hr).1
 have TW:(ep Y f).length<=60:=by
  have h1:(ep Y f).length<=(ku Y).length:=List.length_filterMap_le _ _;have h2:(ku Y).length<=Y.length:=by rw[Aq];exact List.countP_le_length
  have h3:=OO.so.1;omega
 have Ki:b.list.length=9:=by simp[bw.list,hv]
 have HTK:Hid (∀(I J r bb:aB)(L:List cX)(W:ar),In G Z (cE p I J r bb::dQ I Y::cN J Y::L) W->Calls ai 110 #[ptr p] W λe w'=>e=.returned (.tuple #[iU (eb Y).2.1,.int .i64 (eb Y).2.2])/\∃gv' lv',In G Z (cE p gv' lv' r bb::dQ gv' (eb Y).1::cN lv' (eb Y).1::L) w'):=λI J r bb L W hW=>Om hW OO.so
 have TS:Hid (∀x:Hd,iK ⟨x,b⟩=([x.1,x.2]++b.list).map (aD .i64)):=λx=>by unfold iK;rw[pq hv];rfl
 generalize ep Y f=rs at *;generalize htr:eb Y=tr at *;obtain⟨C,⟨s,D⟩,te⟩:=tr;generalize Il:bx b=be at *;have HBL:=ae Ki;generalize hbb:b.list=H at *;clear h OO hv htr Il Ki;simp only at K N HTK;show Calls ai 50 #[.pointer (af ⟨p,0,ah⟩),.agg (ints H)] w _;go_enter func50,ntmps50;go_upto_region 1 with(fail)
 refine a6 (In G Z (aN (w.heap.size+1) 43 (ints [0,0])::aN w.heap.size 48 (ints H)::jy p Y rs X::l)) ?_ ?_;have:=(H0.out.alloc 48 (ints H)).alloc 43 (ints [0,0]);rw[bZ]at this;exact this;generalize w.heap.size+1=ob;generalize w.heap.size=bb;intro w1 Kg;have q2:row? w1 bb 0 9=af (ints H):=Kg.swap.blk.aL HBL.out;have y6:=ae Kg;have aap:=ae (Uw.out w1);clear Kg H0 Uw;go_wp2_with fail;refine aap.out.mono ?_;rintro e w2 ⟨rfl,sQ⟩;have Kp:=ae (y6.out.below sQ);clear sQ y6 q2 aap;by_cases Il:be=0;rotate_left
 ·obtain⟨e1,e2⟩:=XT.out Il;have ZW:=ae e1;have ZX:=ae e2;have hbi:(be==0)=aq:=by simpa using Il
  have f6:fits w2 ob 0 2=ak:=Kp.out.blk.fits 0 2 (by rw[aR];simp);have GV:=ae (Kp.out.dY [0,0] rfl);clear e1 e2 K N XT;go_wp2_with fail;refine aZ rfl ob 43 (ints [0,0]) (.int .i64 be) _ rfl rfl GV.out.blk underlying43 rfl (by rw[aR];exact bW) rfl ?_;rw[ZW.out,ZX.out];exact⟨⟨_,_,rfl,rfl⟩,GV.out.drop.drop⟩
 subst Il;have M:=ae (K.out rfl);have O:=ae (N.out rfl);clear XT K N;obtain⟨I,J,rv,U,Fw⟩:=Kp.out.third.mN;have aar:=ae (HTK.out I J rv U _ w2 Fw);clear Fw Kp HTK;go_wp2_with fail;refine aar.out.mono ?_;rintro e w3 ⟨rfl,gv',lv',ze⟩;have Qt:=ze.lg;have yL:=ae Qt;clear ze Qt aar;go_upto_region 5 with(fail)
 refine a6 (In G Z (aN w3.heap.size 43 (ints [s,D])::jy p C rs X::aN ob 43 (ints [0,0])::aN bb 48 (ints H)::l)) (yL.out.struct 43 [0,0] [s,D] rfl) ?_;generalize w3.heap.size=hb;intro w4 OI;have E:=ae OI;clear OI yL;by_cases hte:te=0;rotate_left
 ·obtain⟨e1,e2⟩:=M.out hte;have ZW:=ae e1;have ZX:=ae e2;have hbi:(te==0)=aq:=by simpa using hte
  have q3:row? w4 hb 0 2=af (ints [s,D]):=E.out.blk.aL rfl;have f6:fits w4 ob 0 2=ak:=E.out.third.blk.fits 0 2 (by rw[aR];simp);have um:=ae (E.out.third.dY [s,D] rfl);clear e1 e2 M O E;go_wp2_with fail;refine aZ rfl ob 43 (ints [s,D]) (.int .i64 te) _ rfl rfl um.out.blk underlying43 rfl (by rw[aR];exact bW) rfl ?_;rw[ZW.out,ZX.out];exact⟨⟨_,_,rfl,rfl⟩,um.out.drop.drop.swap.drop⟩
 subst hte;obtain⟨e1,e2⟩:=O.out rfl;have ZW:=ae e1;have ZX:=ae e2;clear e1 e2 M O;obtain⟨I,J,rv,U,P⟩:=E.out.swap.mN;obtain⟨A,c,rfl,YG,T0,hg⟩:=aP P.fourth.rowAt;have OL:=Et P.fourth.rowAt;have HCS:=ae OL;have B:In G Z (cE p I J (.slice A rs.length c) U::bj (.slice A rs.length c) rs::aN hb 43 (ints [s,D])::aN bb 48 (ints H)::aN ob 43 (ints [0,0])::dQ I C::cN J C::dA U X::l) w4:=P.reorder 8 [0,3,5,7,6,1,2,4] rfl (by simp);have Kf:=ae B;have HG:=ae hg;clear P B E OL hg;have RP:(rs.length:Int)<=60:=by omega
 go_wp2_with fail;go_loopw [9] (λi w'=>∃k:Nat,k<=rs.length/\i=.int .i64 k/\(∀j,(hj:j<rs.length)->j<k->rs[j].h.1<s)/\In G Z (cE p I J (.slice A rs.length c) U::bj (.slice A rs.length c) rs::aN hb 43 (ints [s,D])::aN bb 48 (ints H)::aN ob 43 (ints [0,0])::dQ I C::cN J C::dA U X::l) w') (λi _=>rs.length-(intOf i).toNat)
 case atStart=>exact⟨0,by omega,rfl,λj hj h=>by omega,Kf.out⟩
 case round=>
  clear Kf;obtain⟨k,hk,rfl,U',hI⟩:=hrel;have c1:wr.cell? ⟨p,2,ah⟩=af (.slice A rs.length c):=hI.blk.cell 2;have c2:wr.cell? ⟨hb,0,ah⟩=af (.int .i64 s):=hI.third.blk.cell 0;have HI:=ae hI;by_cases hgo:∃h:k<rs.length,rs[k].h.1<s
  ·obtain⟨Q,hx⟩:=hgo;have rW:(k:Int)<rs.length:=by omega
   have XR:Hid (∀j,(hj:j<rs.length)->j<k+1->rs[j].h.1<s):=λj hj GZ=>by by_cases e:j=k;subst e;exact hx;exact U' j hj (by omega)
   obtain⟨g,rfl⟩:=HG.out (by omega);have V:wr.cell? ⟨g,k *11,ah⟩=af (.int .i64 (rs[k]).h.1):=(hI.swap.po Q (TR.out _ (aF Q)) (j:=0) (y:=(rs[k]).h.1) (by simp[cQ.list]) (by omega)).1;clear hI U';generalize (rs[k]).h.1=y at *;go_upto_region 8 with(fail)
   go_quiet (fail)
   go_wp2_with fail;go_roundw
   case rel=>exact⟨k+1,by omega,by go_num,XR.out,In.Fi HI.out nq⟩
   simp[intOf];omega
  have R:(Vb:k<rs.length)->s<=rs[k].h.1:=λVb=>Int.not_lt.1 λh=>hgo ⟨Vb,h⟩
  have XV:=ae (ZX.out k hk U' R);clear ZX U' hgo;by_cases Q:k<rs.length
  case' pos=>
   have rW:(k:Int)<rs.length:=by omega
   obtain⟨g,hgA⟩:=HG.out (by omega);have Ik:=hI;rw[hgA]at Ik c1;have V:wr.cell? ⟨g,k *11,ah⟩=af (.int .i64 (rs[k]).h.1):=(Ik.swap.po Q (TR.out _ (aF Q)) (j:=0) (y:=(rs[k]).h.1) (by simp[cQ.list]) (by omega)).1;have hx:=Int.not_lt.2 (R Q);clear hI Ik R;generalize (rs[k]).h.1=y at *;go_upto_region 8 with(fail)
   go_quiet (fail)
   go_upto_region 10 with(fail)
  case' neg=>
   clear hI R;go_upto_region 8 with(fail)
   go_quiet (fail)
   go_upto_region 10 with(fail)
  all_goals
   refine a6 (In G Z (cE p I J (.slice A rs.length c) U::bj (.slice A rs.length c) rs::aN hb 43 (ints [s,D])::aN bb 48 (ints H)::aN ob 43 (ints [0,0])::dQ I C::cN J C::dA U X::l)) (In.Fi HI.out nq) ?_;clear HI c1 c2;try clear V hx hgA
   intro w6 OI;have E:=ae OI.drew;clear OI;have HS:Hid (∀W,In G Z (cE p I J (.slice A rs.length c) U::bj (.slice A rs.length c) rs::aN hb 43 (ints [s,D])::aN bb 48 (ints H)::aN ob 43 (ints [0,0])::dQ I C::cN J C::dA U X::l) W->W.cell? ⟨p,2,ah⟩=af (.slice A rs.length c)/\row? W hb 0 2=af (ints [s,D])/\row? W bb 0 9=af (ints H)):=λW h=>⟨h.blk.cell 2,h.third.blk.aL rfl,h.fourth.blk.aL HBL.out⟩
   have E5:Hid (∀L W,In G Z L W->In G Z (dN 50 11 (.slice (af ⟨W.heap.size,0,ah⟩) 1 1) 1 ((s::D::H).map (aD .i64))::L) (W.alloc (.cells (ints (s::D::H)) 50))):=λL W h=>by have:=h.xB 50 ((s::D::H).map (aD .i64));rw[show((s::D::H).map (aD .i64)).length=11 from by simp[HBL.out]]at this;exact this
   have HR1:Hid (∀W l',In G Z (bj (.slice A rs.length c) rs::l') W->Reads W W.heap.size 11 A k ((rs.take k).flatMap iK)):=λW l' h=>Bl lx h.rowAt hk
   have NY:Hid (∀v W l' m,m=rs.length-k->In G Z (dN 50 11 v (k+1+m) ((rs.take k).flatMap iK++(s::D::H).map (aD .i64)++(rs.drop k).flatMap iK)::l') W->In G Z (bj v n::l') W):=λv W l' m hm h=>by
    subst hm;rw[XV.out];unfold bj;have e1:(rs.take k++[(⟨(s,D),b⟩:cQ)]++rs.drop k).length=k+1+(rs.length-k):=by simp;omega
    rw[e1,bS,bS,bJ,List.flatMap_nil,cK,TS.out];exact h
   obtain⟨i0,uT,sS,sT,sa⟩:=info_parts xM;have RL:k<=60:=by omega
   have acT:H.length=9:=HBL.out;have hkc:k<=c:=by omega
   have Y0:H.length+1+1=11:=by have:=HBL.out;omega
   rcases HCS.out with⟨rfl,T4,rfl⟩|⟨g,rfl⟩;rotate_left;by_cases hck:c=k
   case' pos=>
    have hcn:(c=k)=True:=by simp[hck]
    have Uy:Hid (∀W l',In G Z (bj (.slice (af ⟨g,0,ah⟩) rs.length c) rs::l') W->Reads W W.heap.size 11 (af ⟨g,0,ah⟩) (rs.length-k) ((rs.drop k).flatMap iK)):=λW l' h=>mQ lx h.rowAt hk _ λQ=>by omega
    have U6:((af ⟨g,0,ah⟩:Option Addr)=ah/\k=0/\c=0)\/∃ad,(af ⟨g,0,ah⟩:Option Addr)=af ad:=.inr ⟨_,rfl⟩
   case' neg=>
    have hcn:(c=k)=False:=by simp[hck]
    have Uy:Hid (∀W l',In G Z (bj (.slice (af ⟨g,0,ah⟩) rs.length c) rs::l') W->Reads W W.heap.size 11 (af ⟨g,k *11,ah⟩) (rs.length-k) ((rs.drop k).flatMap iK)):=λW l' h=>mQ lx h.rowAt hk _ λQ=>⟨g,rfl,rfl⟩
    have U6:((af ⟨g,0,ah⟩:Option Addr)=ah/\k=0/\c=0)\/∃ad,(af ⟨g,0,ah⟩:Option Addr)=af ad:=.inr ⟨_,rfl⟩
   rotate_left 2
   case' inl=>
    have K0:k=0:=by omega
    subst K0;have Uy:Hid (∀W l',In G Z (bj (.slice ah rs.length 0) rs::l') W->Reads W W.heap.size 11 ah 0 ((rs.drop 0).flatMap iK)):=λW l' h=>by
     have:=mQ lx h.rowAt hk ah λQ=>by omega
     rw[T4]at this;exact this
    have U6:((ah:Option Addr)=ah/\0=0/\0=0)\/∃ad,(ah:Option Addr)=af ad:=.inl ⟨rfl,rfl,rfl⟩
   all_goals
    have HA1:=ae U6;clear U6 HCS;have Kq:Hid (∀u∈(s::D::H).map (aD .i64),u.oneCell'=ak):=λu hu=>by obtain⟨y,_,rfl⟩:=aA.1 hu;rfl
    refine tD (λW=>W.cell? ⟨p,2,ah⟩=af (.slice _ rs.length _)/\row? W hb 0 2=af (ints [s,D])/\row? W bb 0 9=af (ints H)) 20 [0,1,2,3,4,5,6,8,9,10,13,14,15,16,17,18] 7 #[ak,ak,ak,ak,ak,ak,ak,aq,ak,ak,ak,aq,aq,ak,ak,ak,ak,ak,ak,aq,aq,aq,aq] (by kernel_rfl) (by kernel_rfl) (λ_ _ d _ _ h=>by cases d<;>exact h) (by kernel_rfl) (by kernel_rfl) (by decide) (by rfl) (by kernel_rfl) (by kernel_rfl) (HS.out _ E.out) ?_;intro ops a;iterate 16 (apply tj a;rfl;rfl;(intro W hW;obtain⟨hW1,hW2,YC⟩:=hW;go_simp;rfl);simp only[dW,az,bh,a8])
    refine dk (rs:=[7,11]) (by rw[<-a];kernel_rfl) (by simp) ?_;intro i q;simp only[b8,fO,or_false]at q;rcases q with rfl|rfl
    ·have HX:=E;have HY:=ae E.out.swap;refine tz a rfl rfl (by go_simp) (Bh HX.out rfl (HR1.out _ _ HY.out) (ub _) HA1.out RL) ?_;rintro e w7 ⟨v1,rfl,P,_⟩;refine⟨v1,rfl,?_⟩;simp only[dW,az,bh,a8];refine⟨λ_=>HS.out _ P.drop,?_⟩;refine dk (rs:=[11]) (by rw[<-a];kernel_rfl) (by simp) ?_;intro i q;rw[aO]at q;subst q;refine kl a rfl rfl (v:=.slice (af ⟨w7.heap.size,0,ah⟩) 1 1) (w':=w7.alloc (.cells (ints (s::D::H)) 50)) (by go_simp) ?_;simp only[dW,az,bh,a8];have B:=(E5.out _ _ P).swap;refine⟨λ_=>HS.out _ B.drop.drop,?_⟩;refine dk (rs:=[12]) (by rw[<-a];kernel_rfl) (by simp) ?_;intro i q;rw[aO]at q;subst q;refine tC a rfl ?_;refine fw rfl (.tmp 57) (.tmp 61) 33 rfl 50 i0 _ 11 88 underlying33 uT sS sT sa rfl (by decide) rfl rfl B.rowAt (.inr ⟨_,rfl⟩) (Reads.oK B.swap.rowAt) Kq.out (by unfold maxLen;omega) (by omega) ?_;intro v2 w9 g1 g2 g3;have F:=B.l5 g1 g2 g3;clear g1 g2 g3 B;simp only[dW,az,bh,a8];refine⟨λ_=>HS.out _ F.drop.drop,?_⟩;refine dk (rs:=[19]) (by rw[<-a];kernel_rfl) (by simp) ?_;intro i q;rw[aO]at q;subst q;refine tC a rfl ?_;refine fw rfl (.tmp 62) (.tmp 68) 33 rfl 50 i0 _ 11 88 underlying33 uT sS sT sa rfl (by decide) rfl rfl F.rowAt (by first|exact .inr ⟨_,rfl⟩|exact .inl ⟨rfl,rfl,rfl⟩) (Uy.out _ _ (F.nth 3 (by simp))) (ub _) (by unfold maxLen;omega) (by omega) ?_;intro v3 TD g1 g2 g3;have o:=NY.out _ _ _ _ (by omega) (F.l5 g1 g2 g3);clear g1 g2 g3 F;simp only[dW,az,bh,a8];obtain⟨A3,V,rfl,_⟩:=aP o.rowAt;have k1:=(o.third.blk.cell 2);have k2:=(o.third.blk.frozen 2);have S:=ae (o.third.set 2 (.slice A3 n.length V));refine⟨λ_=>HS.out _ o.drop.drop,?_⟩;clear o;refine dk (rs:=[20]) (by rw[<-a];kernel_rfl) (by simp) ?_;intro i q;rw[aO]at q;subst q;refine kl a rfl rfl (by go_simp;exact⟨rfl,rfl⟩) ?_;simp only[dW,az,bh,a8];refine⟨λh=>by omega,?_⟩;refine dk (rs:=[21]) (by rw[<-a];kernel_rfl) (by simp) ?_;intro i q;rw[aO]at q;subst q;refine kl a rfl rfl (by go_simp;exact⟨rfl,rfl⟩) ?_;simp only[dW,az,bh,a8];refine⟨λh=>by omega,?_⟩;refine dk (rs:=[22]) (by rw[<-a];kernel_rfl) (by simp) ?_;intro i q;rw[aO]at q;subst q;refine tA a rfl rfl (w':=TD.setCell ⟨p,2,ah⟩ (.slice A3 n.length V)) (by go_simp) ?_;simp only[dW,az,bh,a8];refine⟨λh=>by omega,nD (by rw[<-a];kernel_rfl) ?_ _⟩;go_upto_region 11 with(fail)
     refine a6 _ S.out ?_;clear S;intro GJ t;have t:In G Z (cE p I J (.slice A3 n.length V) U::bj (.slice A3 n.length V) n::_) GJ:=t;have z:=t.reorder 10 [6,4,0,7,8,1,9,2,3,5] rfl (by simp);have q5:row? GJ hb 0 2=af (ints [s,D]):=z.swap.blk.aL rfl;have f6:fits GJ ob 0 2=ak:=z.blk.fits 0 2 (by show 0+2<=(ints [0,0]).size;rw[aR];simp);have T:=ae (In.dY (ys:=[0,0]) z [s,D] rfl);clear t z;go_wp2_with fail;refine aZ rfl ob 43 (ints [s,D]) (.int .i64 0) _ rfl rfl T.out.blk underlying43 rfl (by rw[aR];exact bW) rfl ?_;rw[ZW.out];have h15:In G Z (cE p I J (.slice A3 n.length V) U::dQ I C::cN J C::bj (.slice A3 n.length V) n::dA U X::_) _:=T.out.drop.drop;exact⟨by first|exact⟨_,_,rfl,rfl⟩|exact⟨_,rfl,_,rfl⟩,((h15.lg).fourth.drop.third.drop.swap.drop)⟩
    ·have HX:=ae (E5.out _ _ E.out);have HY:=ae HX.out.third;refine kl a rfl rfl (v:=.slice (af ⟨w6.drew.heap.size,0,ah⟩) 1 1) (w':=w6.drew.alloc (.cells (ints (s::D::H)) 50)) (by go_simp) ?_;simp only[dW,az,bh,a8];refine⟨λ_=>HS.out _ HX.out.drop,?_⟩;refine dk (rs:=[7]) (by rw[<-a];kernel_rfl) (by simp) ?_;intro i q;rw[aO]at q;subst q;refine tz a rfl rfl (by go_simp) (Bh HX.out rfl (HR1.out _ _ HY.out) (ub _) HA1.out RL) ?_;rintro e w7 ⟨v1,rfl,P,_⟩;refine⟨v1,rfl,?_⟩;simp only[dW,az,bh,a8];have B:=P;refine⟨λ_=>HS.out _ B.drop.drop,?_⟩;refine dk (rs:=[12]) (by rw[<-a];kernel_rfl) (by simp) ?_;intro i q;rw[aO]at q;subst q;refine tC a rfl ?_;refine fw rfl (.tmp 57) (.tmp 61) 33 rfl 50 i0 _ 11 88 underlying33 uT sS sT sa rfl (by decide) rfl rfl B.rowAt (.inr ⟨_,rfl⟩) (Reads.oK B.swap.rowAt) Kq.out (by unfold maxLen;omega) (by omega) ?_;intro v2 w9 g1 g2 g3;have F:=B.l5 g1 g2 g3;clear g1 g2 g3 B;simp only[dW,az,bh,a8];refine⟨λ_=>HS.out _ F.drop.drop,?_⟩;refine dk (rs:=[19]) (by rw[<-a];kernel_rfl) (by simp) ?_;intro i q;rw[aO]at q;subst q;refine tC a rfl ?_;refine fw rfl (.tmp 62) (.tmp 68) 33 rfl 50 i0 _ 11 88 underlying33 uT sS sT sa rfl (by decide) rfl rfl F.rowAt (by first|exact .inr ⟨_,rfl⟩|exact .inl ⟨rfl,rfl,rfl⟩) (Uy.out _ _ (F.nth 3 (by simp))) (ub _) (by unfold maxLen;omega) (by omega) ?_;intro v3 TD g1 g2 g3;have o:=NY.out _ _ _ _ (by omega) (F.l5 g1 g2 g3);clear g1 g2 g3 F;simp only[dW,az,bh,a8];obtain⟨A3,V,rfl,_⟩:=aP o.rowAt;have k1:=(o.third.blk.cell 2);have k2:=(o.third.blk.frozen 2);have S:=ae (o.third.set 2 (.slice A3 n.length V));refine⟨λ_=>HS.out _ o.drop.drop,?_⟩;clear o;refine dk (rs:=[20]) (by rw[<-a];kernel_rfl) (by simp) ?_;intro i q;rw[aO]at q;subst q;refine kl a rfl rfl (by go_simp;exact⟨rfl,rfl⟩) ?_;simp only[dW,az,bh,a8];refine⟨λh=>by omega,?_⟩;refine dk (rs:=[21]) (by rw[<-a];kernel_rfl) (by simp) ?_;intro i q;rw[aO]at q;subst q;refine kl a rfl rfl (by go_simp;exact⟨rfl,rfl⟩) ?_;simp only[dW,az,bh,a8];refine⟨λh=>by omega,?_⟩;refine dk (rs:=[22]) (by rw[<-a];kernel_rfl) (by simp) ?_;intro i q;rw[aO]at q;subst q;refine tA a rfl rfl (w':=TD.setCell ⟨p,2,ah⟩ (.slice A3 n.length V)) (by go_simp) ?_;simp only[dW,az,bh,a8];refine⟨λh=>by omega,nD (by rw[<-a];kernel_rfl) ?_ _⟩;go_upto_region 11 with(fail)
     refine a6 _ S.out ?_;clear S;intro GJ t;have t:In G Z (cE p I J (.slice A3 n.length V) U::bj (.slice A3 n.length V) n::_) GJ:=t;have z:=t.reorder 10 [6,4,0,7,8,1,9,2,3,5] rfl (by simp);have q5:row? GJ hb 0 2=af (ints [s,D]):=z.swap.blk.aL rfl;have f6:fits GJ ob 0 2=ak:=z.blk.fits 0 2 (by show 0+2<=(ints [0,0]).size;rw[aR];simp);have T:=ae (In.dY (ys:=[0,0]) z [s,D] rfl);clear t z;go_wp2_with fail;refine aZ rfl ob 43 (ints [s,D]) (.int .i64 0) _ rfl rfl T.out.blk underlying43 rfl (by rw[aR];exact bW) rfl ?_;rw[ZW.out];have h15:In G Z (cE p I J (.slice A3 n.length V) U::dQ I C::cN J C::bj (.slice A3 n.length V) n::dA U X::_) _:=T.out.drop.drop;exact⟨by first|exact⟨_,_,rfl,rfl⟩|exact⟨_,rfl,_,rfl⟩,((h15.lg).fourth.drop.third.drop.swap.drop)⟩
end
section
variable{G:Nat->Prop} {Z w:ar} {l:List cX} {p:Nat} {Y:List (Int×Bool)} {rs:List cQ} {X:lF}
def y7(X:lF):∀x∈X.flatMap bC,x.oneCell'=ak:=wo (f:=λb:Hd×Hd=>[b.1.1,b.1.2,b.2.1,b.2.2]) rfl
def zQ{A c a}(h:In G Z (dA (.slice A a.length c) a::l) w){i}(d):∃g,A=af ⟨g,0,ah⟩/\∀W,Below w.heap.size w W->row? W g (i *4) 2=af (ints (hL a[i].1)):=by obtain⟨g,e,f⟩:=tH h d;exact⟨g,e,λW b=>Jr (j4 b f) 0 2 (by omega)⟩
def Bg{A k c b}(h:In G Z l w)(p:Reads w w.heap.size 4 A k b)(m:∀u∈b,u.oneCell'=ak)(n:(A=ah/\k=0/\c=0)\/∃i,A=af i)(q:k<=60):Calls ai 63 #[.slice A k c] w λe d=>∃a,e=.returned a/\In G Z (dN 45 4 a k b::l) d/\Below w.heap.size w d:=by refine(uC A k c _ w _ p m n (by omega)).mono ?_;rintro e d ⟨a,rfl,g,f⟩;exact⟨a,rfl,h.new (A:=dN 45 4 a k b) f ⟨qz g,λj o=>(World.ownsRow.lt g j o).1⟩,f⟩
def Bu(h:In G Z (jy p Y rs X::l) w)(hm:il X)(hs:cY X=X)(TW:X.length<=60)(x y):Calls ai 54 #[ptr p,iU x,iU y] w λe w'=>(∃n:Int,e=.returned (.int .i64 n))/\In G Z (jy p Y rs (cY (fx X x y).1)::l) w':=by
 have H0:=ae h;have HM:=ae hm;have acJ:=ae hs;obtain⟨f,HBS⟩:∃f,Hid (f=cY (fx X x y).1):=⟨_,rfl⟩;rw[<-HBS.out];have V:Hid (x=y\/y∈under X x->f=X):=λhh=>by rw[HBS.out];unfold fx;rw[if_pos (by rw[<-qm hm.nodup hm.pD];exact hh)];exact hs
 have P:Hid (¬(x=y\/y∈under X x)->∀k,k<=(dB X x).length->(∀j,(hj:j<(dB X x).length)->j<k->D' (dB X x)[j].1 x=ak)->((Vb:k<(dB X x).length)->D' (dB X x)[k].1 x=aq)->f=(dB X x).take k++[(x,y)]++(dB X x).drop k):=λhh k hk h1 h2=>by rw[HBS.out];unfold fx;rw[if_neg (by rw[<-qm hm.nodup hm.pD];exact hh)];exact N8 hm hs x y hk h1 h2
 have hlb:(dB X x).length<=60:=bD (Sf X x) TW;have XS:=ae (ym x y);have HUN:Hid (∀(L:List cX)(W:ar),In G Z (jy p Y rs X::L) W->Calls ai 56 #[ptr p,iU x] W λe w'=>∃v,e=.returned v/\In G Z (e9 v (under X x)::jy p Y rs X::L) w'):=λL W hW=>Bv hW hm hs TW x
 have HLE:Hid (∀(u:Hd)(W:ar),Calls ai 115 #[iU u,iU x] W λe w'=>e=.returned (.bool (D' u x))/\Below W.heap.size W w'):=λu W=>PI u x W
 have HWO:Hid (∀(v:aB)(I:Nat)(L:List cX)(W:ar),In G Z (dA v X::aN I 43 (ints (hL x))::L) W->Calls ai 113 #[v,.func (.func 114) #[] #[.pointer (af ⟨I,0,ah⟩)]] W λe w'=>∃v',e=.returned v'/\In G Z (dA v' (dB X x)::dA v X::aN I 43 (ints (hL x))::L) w'):=λv I L W hW=>rN (x:=x) (λr=>decide (r.1=x)) (hE:=λ_ _=>rfl) (λr hr W hW=>Jg r x W hW) hW (by omega)
 clear h hm hs;obtain⟨o,q⟩:=x;obtain⟨A,B⟩:=y;show Calls ai 54 #[.pointer (af ⟨p,0,ah⟩),.agg (ints [o,q]),.agg (ints [A,B])] w _;go_enter func54,ntmps54;go_upto_region 1 with(fail)
 refine a6 (In G Z (jy p Y rs X::aN w.heap.size 43 (ints [o,q])::aN (w.heap.size+1) 43 (ints [A,B])::l)) ?_ ?_;have:=(H0.out.alloc 43 (ints [o,q])).alloc 43 (ints [A,B]);rw[bZ]at this;exact this.reorder 3 [2,1,0] rfl (by simp);generalize w.heap.size+1=pb;generalize w.heap.size=I;intro w1 Kg;have q1:row? w1 I 0 2=af (ints [o,q]):=Kg.swap.blk.aL rfl;have q2:row? w1 pb 0 2=af (ints [A,B]):=Kg.third.blk.aL rfl;have y6:=ae Kg;have hn:=λW=>XS.out W
 clear Kg H0 XS;by_cases T:(o,q)=(A,B)
 ·have HE:=ae (V.out (.inl T));rw[decide_eq_true T]at hn;have T5:∀W,(binOp .eql 43 (.agg (ints [o,q])) (.agg (ints [A,B]))).run ai W=.ok (.bool ak) W:=hn;clear T V P hn
  go_quiet (fail)
  go_wp2_with fail;go_ret;rw[HE.out];exact⟨⟨_,rfl⟩,(In.Fi y6.out nq).swap.drop.swap.drop⟩
 rw[decide_eq_false T]at hn;have T5:∀W,(binOp .eql 43 (.agg (ints [o,q])) (.agg (ints [A,B]))).run ai W=.ok (.bool aq) W:=hn;clear hn;obtain⟨hd,HHD⟩:∃hd,Hid (hd=decide ((A,B)∈under X (o,q))):=⟨_,rfl⟩
 go_region_held3 (λW=>row? W I 0 2=af (ints [o,q])/\row? W pb 0 2=af (ints [A,B])) (first|assumption|(constructor<;>assumption))
  (first
    |(go_at_call 112;refine(M0 H2.out (A,B)).mono ?_;rintro e w3 ⟨rfl,M1⟩;rw[<-HHD.out];have r3:=j4 M1 r1;have r4:=j4 M1 r2;have H3:=ae (H2.out.below M1).drop;clear M1)
    |(go_at_call 56;refine(HUN.out _ _ y6.out.drew).mono ?_;rintro e w2 ⟨uv,rfl,Ik⟩;have r1:row? w2 I 0 2=af (ints [o,q]):=Ik.third.blk.aL rfl;have r2:row? w2 pb 0 2=af (ints [A,B]):=Ik.fourth.blk.aL rfl;have H2:=ae Ik;clear Ik))
 have GV:=ae (H3.out.reorder 3 [0,1,2] rfl (by simp));clear H3 H2 y6 q1 q2 r1 r2 r3 r4 T5;cases hd;rotate_left
 ·have HE:=ae (V.out (.inr (of_decide_eq_true HHD.out.symm)));clear V P;go_wp2_with fail;go_ret;rw[HE.out];exact⟨⟨_,rfl⟩,GV.out.swap.drop.swap.drop⟩
 have HY2:=ae (P.out (λh=>h.elim T (of_decide_eq_false HHD.out.symm)));clear V P HHD T;obtain⟨gv,lv,rv,bv,ze⟩:=GV.out.mN;obtain⟨R,S,rfl,_⟩:=aP (ze.nth 4 (by simp)).rowAt;have Qt:In G Z (dA (.slice R X.length S) X::aN I 43 (ints [o,q])::aN pb 43 (ints [A,B])::cE p gv lv rv (.slice R X.length S)::dQ gv Y::cN lv Y::bj rv rs::l) w3:=ze.reorder 7 [4,5,6,0,1,2,3] rfl (by simp);have k0:w3.cell? ⟨p,3,ah⟩=af (.slice R X.length S):=ze.blk.cell 3;have HWC:=ae (HWO.out _ _ _ _ Qt);clear ze Qt GV HWO;generalize ab9:dB X (o,q)=b at *;clear ab9;go_wp2_with fail;refine HWC.out.mono ?_;rintro e w4 ⟨v',rfl,M⟩;obtain⟨A1,K,rfl,YG,T0,hg⟩:=aP M.rowAt;have OL:=Et M.rowAt;have HCS:=ae OL;have HG:=ae hg;have J:Hid (In G Z (dA (.slice A1 b.length K) b::aN I 43 (ints [o,q])::aN pb 43 (ints [A,B])::cE p gv lv rv (.slice R X.length S)::dA (.slice R X.length S) X::dQ gv Y::cN lv Y::bj rv rs::l) w4):=M.reorder 5 [0,2,3,4,1] rfl (by simp);clear M OL hg HWC k0;have RP:(b.length:Int)<=60:=by omega
 go_wp2_with fail;go_loopw [8] (λi w'=>∃k:Nat,k<=b.length/\i=.int .i64 k/\(∀j,(hj:j<b.length)->j<k->D' b[j].1 (o,q)=ak)/\In G Z (dA (.slice A1 b.length K) b::aN I 43 (ints [o,q])::aN pb 43 (ints [A,B])::cE p gv lv rv (.slice R X.length S)::dA (.slice R X.length S) X::dQ gv Y::cN lv Y::bj rv rs::l) w') (λi _=>b.length-(intOf i).toNat)
 case atStart=>exact⟨0,by omega,rfl,λj hj h=>by omega,J.out⟩
 case round=>
  clear J;obtain⟨k,hk,rfl,Q,hI⟩:=hrel;have c9:∀n:After wr,row? n.w I 0 2=af (ints [o,q]):=λn=>(hI.swap.blk.after n.below).aL rfl
  have HI:=ae hI;by_cases hgo:∃h:k<b.length,D' b[k].1 (o,q)=ak
  ·obtain⟨N,hx⟩:=hgo;have rW:(k:Int)<b.length:=by omega
   have M2:decide ((k:Int)<b.length)=ak:=decide_eq_true rW;have XR:Hid (∀j,(hj:j<b.length)->j<k+1->D' b[j].1 (o,q)=ak):=λj hj GZ=>by by_cases e:j=k;subst e;exact hx;exact Q j hj (by omega)
   obtain⟨g,rfl,q4⟩:=zQ hI N;have q5:∀n:After wr,row? n.w g (k *4) 2=af (ints (hL b[k].1)):=λn=>q4 n.w n.below
   have HL:=ae λn:After wr=>HLE.out b[k].1 n.w
   rw[hx]at HL;clear hI Q q4 hx;generalize b[k].1=u at *;obtain⟨u1,u2⟩:=u;have q6:∀n:After wr,row? n.w g (k *4) 2=af (ints [u1,u2]):=q5;clear q5;go_upto_region 5 with(fail)
   refine bK (by kernel_rfl) (by kernel_rfl) ?_;repeat(go_big_quiet_step ((go_at_call 115;exact eN (HL.out _))))
   refine wpQuiet_nil ?_;rintro _ ⟨n,rfl⟩;have um:=ae (HI.out.below n.below);go_wp2_with fail;go_roundw
   case rel=>exact⟨k+1,by omega,by go_num,XR.out,um.out⟩
   simp[intOf];omega
  have E:(Vb:k<b.length)->D' b[k].1 (o,q)=aq:=λVb=>by
   cases e:D' b[k].1 (o,q)with|false=>rfl|true=>exact absurd ⟨Vb,e⟩ hgo
  have XV:=ae (HY2.out k hk Q E);clear HY2 Q hgo;by_cases N:k<b.length
  case' pos=>
   have rW:(k:Int)<b.length:=by omega
   have M2:decide ((k:Int)<b.length)=ak:=decide_eq_true rW;obtain⟨g,hgA,q4⟩:=zQ hI N;have ac0:(k:Int)<K:=by omega
   have q5:∀n:After wr,row? n.w g (k *4) 2=af (ints (hL b[k].1)):=λn=>q4 n.w n.below
   have HL:=ae λn:After wr=>HLE.out b[k].1 n.w
   rw[E N]at HL;clear hI E q4;generalize b[k].1=u at *;obtain⟨u1,u2⟩:=u;have q6:∀n:After wr,row? n.w g (k *4) 2=af (ints [u1,u2]):=q5;clear q5;go_upto_region 5 with(fail)
   refine bK (by kernel_rfl) (by kernel_rfl) ?_;repeat(go_big_quiet_step ((go_at_call 115;exact eN (HL.out _))))
   refine wpQuiet_nil ?_;rintro _ ⟨n,rfl⟩;have um:=ae (HI.out.below n.below);go_upto_region 7 with(fail)
   refine a6 (In G Z (dA (.slice A1 b.length K) b::aN I 43 (ints [o,q])::aN pb 43 (ints [A,B])::cE p gv lv rv (.slice R X.length S)::dA (.slice R X.length S) X::dQ gv Y::cN lv Y::bj rv rs::l)) um.out ?_;clear um q6 HL M2;clear hgA
  case' neg=>
   have rW:¬(k:Int)<b.length:=by omega
   have M2:decide ((k:Int)<b.length)=aq:=decide_eq_false rW;clear hI E;go_upto_region 5 with(fail)
   go_quiet (fail)
   go_upto_region 7 with(fail)
   refine a6 (In G Z (dA (.slice A1 b.length K) b::aN I 43 (ints [o,q])::aN pb 43 (ints [A,B])::cE p gv lv rv (.slice R X.length S)::dA (.slice R X.length S) X::dQ gv Y::cN lv Y::bj rv rs::l)) (In.Fi HI.out nq) ?_;clear M2
  all_goals
   clear HI c9;intro w6 M;have J:=ae M.drew;clear M;have HS:Hid (∀W,In G Z (dA (.slice A1 b.length K) b::aN I 43 (ints [o,q])::aN pb 43 (ints [A,B])::cE p gv lv rv (.slice R X.length S)::dA (.slice R X.length S) X::dQ gv Y::cN lv Y::bj rv rs::l) W->row? W I 0 2=af (ints [o,q])/\row? W pb 0 2=af (ints [A,B])):=λW h=>⟨h.swap.blk.aL rfl,h.third.blk.aL rfl⟩
   have E5:Hid (∀L W,In G Z L W->In G Z (dN 45 4 (.slice (af ⟨W.heap.size,0,ah⟩) 1 1) 1 (bC ((o,q),(A,B)))::L) (W.alloc (.cells (ints [o,q,A,B]) 45))):=λL W h=>h.xB 45 (bC ((o,q),(A,B)))
   have HR1:Hid (∀W O,In G Z (dA (.slice A1 b.length K) b::O) W->Reads W W.heap.size 4 A1 k ((b.take k).flatMap bC)):=λW O h=>Bl xc h.rowAt hk
   have NY:Hid (∀v W O m,m=b.length-k->In G Z (dN 45 4 v (k+1+m) ((b.take k).flatMap bC++bC ((o,q),(A,B))++(b.drop k).flatMap bC)::O) W->In G Z (dA v f::O) W):=λv W O m hm h=>by
    subst hm;rw[XV.out];unfold dA;have e1:(b.take k++[((o,q),(A,B))]++b.drop k).length=k+1+(b.length-k):=by simp;omega
    rw[e1,bS,bS,bJ,List.flatMap_nil,cK];exact h
   have Kq:Hid (∀u∈bC ((o,q),(A,B)),u.oneCell'=ak):=λu hu=>by simp[bC]at hu;rcases hu with rfl|rfl|rfl|rfl<;>rfl
   obtain⟨i0,uT,sS,sT,sa⟩:=info_parts uP;have RL:k<=60:=by omega
   have hkc:k<=K:=by omega
   rcases HCS.out with Xc|⟨g,rfl⟩
   case' inl=>
    first
    |exact absurd Xc.1 (by simp)
    |obtain⟨rfl,T4,rfl⟩:=Xc
     have K0:k=0:=by omega
     subst K0;have Uy:Hid (∀W O,In G Z (dA (.slice ah b.length 0) b::O) W->Reads W W.heap.size 4 ah 0 ((b.drop 0).flatMap bC)):=λW O h=>by
      have:=mQ xc h.rowAt hk ah λN=>by omega
      rw[T4]at this;exact this
     have U6:((ah:Option Addr)=ah/\0=0/\0=0)\/∃ad,(ah:Option Addr)=af ad:=.inl ⟨rfl,rfl,rfl⟩
   case' inr=>by_cases hck:K=k
   case' pos=>
    have hcn:(K=k)=True:=by simp[hck]
    have Uy:Hid (∀W O,In G Z (dA (.slice (af ⟨g,0,ah⟩) b.length K) b::O) W->Reads W W.heap.size 4 (af ⟨g,0,ah⟩) (b.length-k) ((b.drop k).flatMap bC)):=λW O h=>mQ xc h.rowAt hk _ λN=>by omega
    have U6:((af ⟨g,0,ah⟩:Option Addr)=ah/\k=0/\K=0)\/∃ad,(af ⟨g,0,ah⟩:Option Addr)=af ad:=.inr ⟨_,rfl⟩
   case' neg=>
    have hcn:(K=k)=False:=by simp[hck]
    have Uy:Hid (∀W O,In G Z (dA (.slice (af ⟨g,0,ah⟩) b.length K) b::O) W->Reads W W.heap.size 4 (af ⟨g,k *4,ah⟩) (b.length-k) ((b.drop k).flatMap bC)):=λW O h=>mQ xc h.rowAt hk _ λN=>⟨g,rfl,rfl⟩
    have U6:((af ⟨g,0,ah⟩:Option Addr)=ah/\k=0/\K=0)\/∃ad,(af ⟨g,0,ah⟩:Option Addr)=af ad:=.inr ⟨_,rfl⟩
   all_goals
    have HA1:=ae U6;clear U6 HCS;refine tD (λW=>row? W I 0 2=af (ints [o,q])/\row? W pb 0 2=af (ints [A,B])) 14 [0,1,2,3,5,6,7,10,11,12] 7 #[ak,ak,ak,ak,aq,ak,ak,ak,aq,aq,ak,ak,ak,aq,aq,aq,aq] (by kernel_rfl) (by kernel_rfl) (λ_ _ d _ _ h=>by cases d<;>exact h) (by kernel_rfl) (by kernel_rfl) (by decide) (by rfl) (by kernel_rfl) (by kernel_rfl) (HS.out _ J.out) ?_;intro ops a;iterate 10 (apply tj a;rfl;rfl;(intro W hW;obtain⟨hW1,hW2⟩:=hW;go_simp;rfl);simp only[dW,az,bh,a8])
    refine dk (rs:=[4,8]) (by rw[<-a];kernel_rfl) (by simp) ?_;intro i c;simp only[b8,fO,or_false]at c;rcases c with rfl|rfl
    ·have HX:=J;have HY:=J;refine tz a rfl rfl (by go_simp) (Bg HX.out (HR1.out _ _ HY.out) (y7 _) HA1.out RL) ?_;rintro e w7 ⟨v1,rfl,Fx,_⟩;refine⟨v1,rfl,?_⟩;simp only[dW,az,bh,a8];refine⟨λ_=>HS.out _ Fx.drop,?_⟩;refine dk (rs:=[8]) (by rw[<-a];kernel_rfl) (by simp) ?_;intro i c;rw[aO]at c;subst c;refine kl a rfl rfl (v:=.slice (af ⟨w7.heap.size,0,ah⟩) 1 1) (w':=w7.alloc (.cells (ints [o,q,A,B]) 45)) (by go_simp) ?_;simp only[dW,az,bh,a8];have C:=(E5.out _ _ Fx).swap;refine⟨λ_=>HS.out _ C.drop.drop,?_⟩;refine dk (rs:=[9]) (by rw[<-a];kernel_rfl) (by simp) ?_;intro i c;rw[aO]at c;subst c;refine tC a rfl ?_;refine fw rfl (.tmp 44) (.tmp 48) 34 rfl 45 i0 _ 4 32 underlying34 uT sS sT sa rfl (by decide) rfl rfl C.rowAt (.inr ⟨_,rfl⟩) (Reads.oK C.swap.rowAt) Kq.out (by unfold maxLen;omega) (by omega) ?_;intro v2 w9 g1 g2 g3;have D:=C.l5 g1 g2 g3;clear g1 g2 g3 C;simp only[dW,az,bh,a8];refine⟨λ_=>HS.out _ D.drop.drop,?_⟩;refine dk (rs:=[13]) (by rw[<-a];kernel_rfl) (by simp) ?_;intro i c;rw[aO]at c;subst c;refine tC a rfl ?_;refine fw rfl (.tmp 49) (.tmp 52) 34 rfl 45 i0 _ 4 32 underlying34 uT sS sT sa rfl (by decide) rfl rfl D.rowAt (by first|exact .inr ⟨_,rfl⟩|exact .inl ⟨rfl,rfl,rfl⟩) (Uy.out _ _ (D.nth 2 (by simp))) (y7 _) (by unfold maxLen;omega) (by omega) ?_;intro v3 TD g1 g2 g3;have s:=NY.out _ _ _ _ (by omega) (D.l5 g1 g2 g3);clear g1 g2 g3 D;simp only[dW,az,bh,a8];obtain⟨A3,c3,rfl,_⟩:=aP s.rowAt;have t:=s.reorder 6 [5,0,1,2,3,4] rfl (by simp);have k1:=(t.blk.cell 3);have k2:=(t.blk.frozen 3);have F:=ae (t.set 3 (.slice A3 f.length c3));refine⟨λ_=>HS.out _ s.drop.drop,?_⟩;clear s t;refine dk (rs:=[14]) (by rw[<-a];kernel_rfl) (by simp) ?_;intro i c;rw[aO]at c;subst c;refine kl a rfl rfl (by go_simp;exact⟨rfl,rfl⟩) ?_;simp only[dW,az,bh,a8];refine⟨λh=>by omega,?_⟩;refine dk (rs:=[15]) (by rw[<-a];kernel_rfl) (by simp) ?_;intro i c;rw[aO]at c;subst c;refine kl a rfl rfl (by go_simp;exact⟨rfl,rfl⟩) ?_;simp only[dW,az,bh,a8];refine⟨λh=>by omega,?_⟩;refine dk (rs:=[16]) (by rw[<-a];kernel_rfl) (by simp) ?_;intro i c;rw[aO]at c;subst c;refine tA a rfl rfl (w':=TD.setCell ⟨p,3,ah⟩ (.slice A3 f.length c3)) (by go_simp) ?_;simp only[dW,az,bh,a8];refine⟨λh=>by omega,nD (by rw[<-a];kernel_rfl) ?_ _⟩;go_upto_region 8 with(fail)
     refine a6 _ F.out ?_;clear F;intro GJ z;have z:In G Z (cE p gv lv rv (.slice A3 f.length c3)::dA (.slice A3 f.length c3) f::_) GJ:=z;have H:=z.reorder 10 [0,7,8,9,1,2,3,4,5,6] rfl (by simp);have U:Hid (In G Z (jy p Y rs f::_) GJ):=In.lg (gv:=gv) (lv:=lv) (rv:=rv) H;clear z H;go_wp2_with fail;go_ret;exact⟨⟨_,rfl⟩,((((U.out.swap.drop).swap.drop).swap.drop).swap.drop).swap.drop⟩
    ·have HX:=ae (E5.out _ _ J.out);have HY:=ae HX.out.swap;refine kl a rfl rfl (v:=.slice (af ⟨w6.drew.heap.size,0,ah⟩) 1 1) (w':=w6.drew.alloc (.cells (ints [o,q,A,B]) 45)) (by go_simp) ?_;simp only[dW,az,bh,a8];refine⟨λ_=>HS.out _ HX.out.drop,?_⟩;refine dk (rs:=[4]) (by rw[<-a];kernel_rfl) (by simp) ?_;intro i c;rw[aO]at c;subst c;refine tz a rfl rfl (by go_simp) (Bg HX.out (HR1.out _ _ HY.out) (y7 _) HA1.out RL) ?_;rintro e w7 ⟨v1,rfl,Fx,_⟩;refine⟨v1,rfl,?_⟩;simp only[dW,az,bh,a8];have C:=Fx;refine⟨λ_=>HS.out _ C.drop.drop,?_⟩;refine dk (rs:=[9]) (by rw[<-a];kernel_rfl) (by simp) ?_;intro i c;rw[aO]at c;subst c;refine tC a rfl ?_;refine fw rfl (.tmp 44) (.tmp 48) 34 rfl 45 i0 _ 4 32 underlying34 uT sS sT sa rfl (by decide) rfl rfl C.rowAt (.inr ⟨_,rfl⟩) (Reads.oK C.swap.rowAt) Kq.out (by unfold maxLen;omega) (by omega) ?_;intro v2 w9 g1 g2 g3;have D:=C.l5 g1 g2 g3;clear g1 g2 g3 C;simp only[dW,az,bh,a8];refine⟨λ_=>HS.out _ D.drop.drop,?_⟩;refine dk (rs:=[13]) (by rw[<-a];kernel_rfl) (by simp) ?_;intro i c;rw[aO]at c;subst c;refine tC a rfl ?_;refine fw rfl (.tmp 49) (.tmp 52) 34 rfl 45 i0 _ 4 32 underlying34 uT sS sT sa rfl (by decide) rfl rfl D.rowAt (by first|exact .inr ⟨_,rfl⟩|exact .inl ⟨rfl,rfl,rfl⟩) (Uy.out _ _ (D.nth 2 (by simp))) (y7 _) (by unfold maxLen;omega) (by omega) ?_;intro v3 TD g1 g2 g3;have s:=NY.out _ _ _ _ (by omega) (D.l5 g1 g2 g3);clear g1 g2 g3 D;simp only[dW,az,bh,a8];obtain⟨A3,c3,rfl,_⟩:=aP s.rowAt;have t:=s.reorder 6 [5,0,1,2,3,4] rfl (by simp);have k1:=(t.blk.cell 3);have k2:=(t.blk.frozen 3);have F:=ae (t.set 3 (.slice A3 f.length c3));refine⟨λ_=>HS.out _ s.drop.drop,?_⟩;clear s t;refine dk (rs:=[14]) (by rw[<-a];kernel_rfl) (by simp) ?_;intro i c;rw[aO]at c;subst c;refine kl a rfl rfl (by go_simp;exact⟨rfl,rfl⟩) ?_;simp only[dW,az,bh,a8];refine⟨λh=>by omega,?_⟩;refine dk (rs:=[15]) (by rw[<-a];kernel_rfl) (by simp) ?_;intro i c;rw[aO]at c;subst c;refine kl a rfl rfl (by go_simp;exact⟨rfl,rfl⟩) ?_;simp only[dW,az,bh,a8];refine⟨λh=>by omega,?_⟩;refine dk (rs:=[16]) (by rw[<-a];kernel_rfl) (by simp) ?_;intro i c;rw[aO]at c;subst c;refine tA a rfl rfl (w':=TD.setCell ⟨p,3,ah⟩ (.slice A3 f.length c3)) (by go_simp) ?_;simp only[dW,az,bh,a8];refine⟨λh=>by omega,nD (by rw[<-a];kernel_rfl) ?_ _⟩;go_upto_region 8 with(fail)
     refine a6 _ F.out ?_;clear F;intro GJ z;have z:In G Z (cE p gv lv rv (.slice A3 f.length c3)::dA (.slice A3 f.length c3) f::_) GJ:=z;have H:=z.reorder 10 [0,7,8,9,1,2,3,4,5,6] rfl (by simp);have U:Hid (In G Z (jy p Y rs f::_) GJ):=In.lg (gv:=gv) (lv:=lv) (rv:=rv) H;clear z H;go_wp2_with fail;go_ret;exact⟨⟨_,rfl⟩,((((U.out.swap.drop).swap.drop).swap.drop).swap.drop).swap.drop⟩
end
section
variable{G:Nat->Prop} {Z w:ar} {l:List cX} {p:Nat} {Y:List (Int×Bool)} {f:BF} {X:lF} {z:ZS}
def Lc(z)(a:List Hd){k}(b):gM z (a.take (k+1))=mB (gM z (a.take k)) a[k]:=by unfold gM;rw[aV b,List.foldl_append];rfl
def p6(h:lH Y f):∀r∈ep Y f,bx r.b=0/\r.b.v.length=8:=λr a=>h.bo _ _ _ ((gH h).1 a)
def Jy(h:In G Z (jy p Y (ep Y f) X::l) w)(b:lH Y f)(x a n):Calls ai 51 #[ptr p,iU x,.int .i64 a,.int .i64 n] w λe i=>(∃m:Int,e=.returned (.int .i64 m))/\In G Z (jy p Y (ep Y (oa Y f x a n).1) X::l) i:=by obtain⟨r,s,t,o,j⟩:=h.mN;have d:=j.reorder 4 [0,3,1,2] rfl (by simp);obtain⟨A,c,rfl,_⟩:=aP (In.rowAt (In.swap d));refine(Rf d (p6 b) (nm b) x a n).mono ?_;rintro e i ⟨rfl,k,q,g⟩;rw[(Po b x a n).1]at g;exact⟨⟨_,rfl⟩,(g.reorder 4 [0,2,3,1] rfl (by simp)).lg⟩
def EL(h:In G Z (jy p Y (ep Y f) X::l) w)(b:lH Y f)(x a):Calls ai 52 #[ptr p,iU x,.int .i64 a] w λe i=>(∃m:Int,e=.returned (.int .i64 m))/\In G Z (jy p Y (ep Y (l7 Y f x a).1) X::l) i:=by obtain⟨q,r,s,n,j⟩:=h.mN;have d:=j.reorder 4 [0,3,1,2] rfl (by simp);obtain⟨A,c,rfl,_⟩:=aP (In.rowAt (In.swap d));refine(Oo d (p6 b) (nm b) x a).mono ?_;rintro e i ⟨rfl,k,o,g⟩;rw[(KM b x a).1]at g;exact⟨⟨_,rfl⟩,(g.reorder 4 [0,2,3,1] rfl (by simp)).lg⟩
def L5(h:In G Z (jy p Y (ep Y f) X::l) w)(a:lH Y f)(x):Calls ai 57 #[ptr p,iU x] w λe d=>(∃n:Int,e=.returned (.int .i64 n))/\In G Z (jy p (fu Y f x).1.1 (ep (fu Y f x).1.1 (fu Y f x).1.2) X::l) d:=by
 refine(P0 h (λr m=>(p6 a r m).2) (nm a) a.so x).mono ?_;rintro e d ⟨j,b⟩;refine⟨j,?_⟩;rw[Ap a,Ao];rcases zf a x with⟨k,_,e,_,_⟩|⟨e,c⟩;rw[e,if_neg (by omega),if_neg (by omega)]at b;exact b;rw[e,if_pos (by omega),if_pos (by omega)]at b;have g:(eY Y x.1 x.2).1=Y:=by unfold eY;rw[c,if_neg (by simp)]
 have i:(ep Y f).filter (λr=> !decide (r.h=x))=ep Y f:=by have:=Ap a x;rw[mL c]at this;exact this.symm
 rw[g,i];exact b
def V9(h:In G Z (jy p z.ls z.rows z.B::l) w)(hk:jC z)(o)(hv:o.b.v.length=8):Calls ai 25 #[ptr p,.agg (ints o.list)] w λe w'=>(∃v,e=.returned v)/\In G Z (jy p (pG z o).1.ls (pG z o).1.rows (pG z o).1.B::l) w':=by
 have H0:=ae h;have Q:=ae hk;have Z3:=ae hv;have Yu:o.list.length=16:=mo.len hv;clear h hk hv;show Calls ai 25 #[.pointer (af ⟨p,0,ah⟩),.agg (ints o.list)] w _;go_enter func25,ntmps25;have hft:fits (((w.alloc (.cells (ints o.list) 74)).alloc (.cells #[.int .i64 0,.int .i64 0] 43)).alloc (.cells #[.int .i64 0,.int .i64 0] 43)) (w.heap.size+1+1) 0 2=ak:=by have R:=(((H0.out.alloc 74 (ints o.list)).alloc 43 (ints [0,0])).alloc 43 (ints [0,0])).blk.fits 0 2 (by rw[aR];simp);simp only[bZ]at R;exact R
 go_upto_region 2 with(fail)
 refine a6 (In G Z (aN (w.heap.size+1+1) 43 (ints [0,0])::aN (w.heap.size+1) 43 (ints [0,0])::aN w.heap.size 74 (ints o.list)::jy p z.ls z.rows z.B::l)) (by have R:=H0.out.alloc 74 (ints o.list);have h2:=R.alloc 43 (ints [0,0]);have h3:=h2.struct 43 [0,0] [0,0] rfl;simp only[bZ]at h3;exact h3) ?_
 clear hft;have J:Hid (w.heap.size+1+1≠w.heap.size+1/\w.heap.size≠w.heap.size+1):=⟨by omega,by omega⟩;generalize w.heap.size+1+1=nb at *;generalize w.heap.size+1=D at *;generalize w.heap.size=t at *;intro w3 Fw;clear H0;obtain⟨d,⟨U,T⟩,⟨c,f⟩,⟨B,C⟩,H,M⟩:=o;have Xh:T.length=8:=Z3.out;have Fw:=Fw.third;have O:(mo.list ⟨d,⟨U,T⟩,(c,f),(B,C),H,M⟩).drop 10=[c,f,B,C,H,M]:=by have:(mo.list ⟨d,⟨U,T⟩,(c,f),(B,C),H,M⟩)=([d]++(U::T))++[c,f,B,C,H,M]:=rfl;rw[this,List.drop_left' (by simp[Xh])]
 have Y:(mo.list ⟨d,⟨U,T⟩,(c,f),(B,C),H,M⟩).drop 12=[B,C,H,M]:=by rw[show(12:Nat)=10+2 from rfl,<-List.drop_drop,O];rfl
 have q0:w3.cell? ⟨t,0,ah⟩=af (.int .i64 d):=Fw.blk.cell 0;have s:Hid (In G Z (jy p z.ls z.rows z.B::aN D 43 (ints [0,0])::aN t 74 (ints (mo.list ⟨d,⟨U,T⟩,(c,f),(B,C),H,M⟩))::aN nb 43 (ints [0,0])::l) w3):=by have:=Fw.reorder 4 [3,2,0,1] rfl (by simp);exact this
 clear Fw;generalize hL:aN t 74 (ints (mo.list ⟨d,⟨U,T⟩,(c,f),(B,C),H,M⟩))::aN nb 43 (ints [0,0])::l=L at *;have HL:Hid (∀{W:ar}{A:cX},In G Z (A::L) W->In G Z (A::l) W):=by intro W A h;rw[<-hL]at h;exact h.swap.drop.swap.drop
 have F:Hid (∀{W:ar}{A:cX}{xs:List Int},xs.length=2->In G Z (A::aN D 43 (ints xs)::L) W->fits W D 0 2=ak/\row? W nb 0 2=af (ints [0,0])/\row? W t 10 2=af (ints [c,f])/\row? W t 12 2=af (ints [B,C])/\row? W t 1 9=af (ints (bw.list ⟨U,T⟩))/\W.cell? ⟨t,14,ah⟩=af (.int .i64 H)/\W.cell? ⟨t,15,ah⟩=af (.int .i64 M)/\W.cell? ⟨t,0,ah⟩=af (.int .i64 d)):=by intro W A xs hx h;have hf:=h.swap.blk.fits 0 2 (by rw[aR];omega);have h:=h.swap.drop;rw[<-hL]at h;have hb:=h.swap.blk;refine⟨hf,h.third.blk.aL rfl,?_,?_,?_,?_,?_,hb.cell 0⟩;rw[hb.dy 10 2 (by omega),O];rfl;rw[hb.dy 12 2 (by omega),Y];rfl;rw[hb.dy 1 9 (by omega)];have:(mo.list ⟨d,⟨U,T⟩,(c,f),(B,C),H,M⟩).drop 1=bw.list ⟨U,T⟩++[c,f,B,C,H,M]:=rfl;rw[this,List.take_left' (by simp[bw.list,Xh])];refine oe (n:=1) (xs:=[]) ?_;rw[hb.dy 14 1 (by omega),show(14:Nat)=10+4 from rfl,<-List.drop_drop,O];rfl;refine oe (n:=1) (xs:=[]) ?_;rw[hb.dy 15 1 (by omega),show(15:Nat)=10+5 from rfl,<-List.drop_drop,O];rfl
 clear hL O Y Yu Xh;obtain⟨qf,qn,q2,q3,q5,q14,q15,_⟩:=F.out rfl s.out;have q:Hid (∀{W:ar}{A:cX}{L:List cX}{us:List Int}(xs:List Int),us.length=2->xs.length=2->In G Z (A::aN D 43 (ints us)::L) W->In G Z (A::aN D 43 (ints xs)::L) (putRow W D 0 xs)):=λ{W A L us} xs R h2 h=>(h.swap.dY xs (by omega)).swap
 have HF:Hid (∀{W:ar}{A:cX}{xs:List Int},xs.length=2->In G Z (A::aN D 43 (ints xs)::L) W->row? W t 10 2=af (ints [c,f])/\row? W t 12 2=af (ints [B,C])/\W.cell? ⟨t,14,ah⟩=af (.int .i64 H)/\W.cell? ⟨t,15,ah⟩=af (.int .i64 M)/\row? W nb 0 2=af (ints [0,0])/\fits W D 0 2=ak):=λ{W A xs} hx h=>by obtain⟨R,h2,h3,h4,_,h6,h7,_⟩:=F.out hx h;exact⟨h3,h4,h6,h7,h2,R⟩
 by_cases R:d=1
 ·have hd:(d==1)=ak:=by simp[R]
  have P:Hid (pG z ⟨d,⟨U,T⟩,(c,f),(B,C),H,M⟩=_):=Q9 z _ R;have j:Hid (In G Z (jy p z.ls (ep z.ls z.f) z.B::aN D 43 (ints [0,0])::L) w3):=s.out;clear R q2 q3 q14 q15 qn s;go_wp2_with fail;refine(L6 j.out Q.out.w ⟨U,T⟩ Z3.out).mono ?_;rintro e w4 ⟨⟨ys,m,Y2,rfl⟩,E⟩;obtain⟨_,_,_,_,_,s6⟩:=HF.out rfl E;have b:=ae (q.out ys rfl Y2 E);have HYS:=ae Y2;clear E j Y2 qf;go_wp2_with fail;refine aZ rfl D 43 (ints ys) (.int .i64 m) _ rfl rfl b.out.swap.blk underlying43 rfl (by rw[aR,HYS.out];exact bW) rfl ?_;rw[P.out];exact⟨⟨_,rfl⟩,HL.out b.out.swap.drop⟩
 have OM:(d==1)=aq:=by simp[R]
 clear q5;by_cases h3:d=3
 ·have hd:(d==3)=ak:=by simp[h3]
  have P:Hid (pG z ⟨d,⟨U,T⟩,(c,f),(B,C),H,M⟩=_):=WS z _ h3;clear R h3;go_upto_region 7 with(fail)
  go_region_held3 (λW=>row? W t 10 2=af (ints [c,f])/\row? W t 12 2=af (ints [B,C])/\W.cell? ⟨t,14,ah⟩=af (.int .i64 H)/\W.cell? ⟨t,15,ah⟩=af (.int .i64 M)/\row? W nb 0 2=af (ints [0,0])/\fits W D 0 2=ak)
   (refine⟨?_,?_,?_,?_,?_,?_⟩<;>first|assumption|(refine jL J.out.1 ?_;assumption)|(refine jL J.out.2 ?_;assumption)|(refine cell_far J.out.2 ?_;assumption)|(refine kq ?_ ?_<;>assumption))
   (first
     |(go_at_call 51;refine(Jy s.out.drew Q.out.w (c,f) H M).mono ?_;rintro e S ⟨⟨m,rfl⟩,a⟩;obtain⟨s1,s2,s3,s4,s5,s6⟩:=HF.out rfl a;have b:=ae (q.out [0,0] rfl rfl a);clear a)
     |(go_at_call 51;refine(Jy (q.out [0,0] rfl rfl s.out.drew) Q.out.w (c,f) H M).mono ?_;rintro e S ⟨⟨m,rfl⟩,a⟩;obtain⟨s1,s2,s3,s4,s5,s6⟩:=HF.out rfl a;have b:=ae (a);clear a))
  all_goals go_wp2_with fail;refine aZ rfl D 43 (ints [0,0]) (.int .i64 m) _ rfl rfl b.out.swap.blk underlying43 rfl (by rw[aR];exact bW) rfl ?_;rw[P.out];exact⟨⟨_,rfl⟩,HL.out b.out.swap.drop⟩
 have hd3:(d==3)=aq:=by simp[h3]
 by_cases h4:d=4
 ·have hd:(d==4)=ak:=by simp[h4]
  have P:Hid (pG z ⟨d,⟨U,T⟩,(c,f),(B,C),H,M⟩=_):=WU z _ h4;clear R h3 h4;go_upto_region 9 with(fail)
  go_region_held3 (λW=>row? W t 10 2=af (ints [c,f])/\row? W t 12 2=af (ints [B,C])/\W.cell? ⟨t,14,ah⟩=af (.int .i64 H)/\W.cell? ⟨t,15,ah⟩=af (.int .i64 M)/\row? W nb 0 2=af (ints [0,0])/\fits W D 0 2=ak)
   (refine⟨?_,?_,?_,?_,?_,?_⟩<;>first|assumption|(refine jL J.out.1 ?_;assumption)|(refine jL J.out.2 ?_;assumption)|(refine cell_far J.out.2 ?_;assumption)|(refine kq ?_ ?_<;>assumption))
   (first
     |(go_at_call 52;refine(EL s.out.drew Q.out.w (c,f) H).mono ?_;rintro e S ⟨⟨m,rfl⟩,a⟩;obtain⟨s1,s2,s3,s4,s5,s6⟩:=HF.out rfl a;have b:=ae (q.out [0,0] rfl rfl a);clear a)
     |(go_at_call 52;refine(EL (q.out [0,0] rfl rfl s.out.drew) Q.out.w (c,f) H).mono ?_;rintro e S ⟨⟨m,rfl⟩,a⟩;obtain⟨s1,s2,s3,s4,s5,s6⟩:=HF.out rfl a;have b:=ae (a);clear a))
  all_goals go_wp2_with fail;refine aZ rfl D 43 (ints [0,0]) (.int .i64 m) _ rfl rfl b.out.swap.blk underlying43 rfl (by rw[aR];exact bW) rfl ?_;rw[P.out];exact⟨⟨_,rfl⟩,HL.out b.out.swap.drop⟩
 have hd4:(d==4)=aq:=by simp[h4]
 have TR:Hid (∀r∈z.rows,r.b.v.length=8):=λr hr=>(p6 Q.out.w r hr).2
 have I:Hid (∀x:Hd,(∃k:Nat,sk z.rows x=k/\z.live x=ak)\/(sk z.rows x= -1/\z.live x=aq)):=λx=>by rcases zf Q.out.w x with⟨k,_,e,_,hl⟩|⟨e,hl⟩;exact .inl ⟨k,e,hl⟩;exact .inr ⟨e,hl⟩
 have X:=Q.out.len;by_cases h5:d=5
 ·subst h5;have P:Hid (pG z ⟨5,⟨U,T⟩,(c,f),(B,C),H,M⟩=_):=WV z _ rfl;clear R h3 h4 OM hd3 hd4;go_wp2_with fail;refine(wM s.out TR.out (c,f)).mono ?_;rintro e w4 ⟨rfl,V⟩;have j:=ae V;clear V s qf qn q2 q3 q14 q15 q0;rcases I.out (c,f)with⟨k,K,y⟩|⟨K,y⟩;rotate_left
  ·have HA:Hid (k7 z (c,f) (B,C)=(z,7)):=by unfold Hid k7;rw[if_neg (by rw[y];simp)]
   rw[K];clear K y I;obtain⟨_,_,_,_,u5,u6⟩:=HF.out rfl j.out;have b:=ae (q.out [0,0] rfl rfl j.out);clear j;go_wp2_with fail;refine aZ rfl D 43 (ints [0,0]) (.int .i64 7) _ rfl rfl b.out.swap.blk underlying43 rfl (by rw[aR];exact bW) rfl ?_;rw[P.out,HA.out];exact⟨⟨_,rfl⟩,HL.out b.out.swap.drop⟩
  rw[K];clear K;obtain⟨_,_,u2,u3,u5,u14,u15,u0⟩:=F.out rfl j.out;have K0:¬(k:Int)<0:=by omega
  go_wp2_with fail;refine(wM j.out TR.out (B,C)).mono ?_;rintro e w5 ⟨rfl,E⟩;have yL:=ae E;clear E j u2 u3 u5 u14 u15 u0;have j:=yL;clear yL;rcases I.out (B,C)with⟨k2,K,lW⟩|⟨K,lW⟩;rotate_left
  ·have HA:Hid (k7 z (c,f) (B,C)=(z,7)):=by unfold Hid k7;rw[if_neg (by rw[lW];simp)]
   rw[K];clear K lW I;obtain⟨_,_,_,_,u5,u6⟩:=HF.out rfl j.out;have b:=ae (q.out [0,0] rfl rfl j.out);clear j;go_wp2_with fail;refine aZ rfl D 43 (ints [0,0]) (.int .i64 7) _ rfl rfl b.out.swap.blk underlying43 rfl (by rw[aR];exact bW) rfl ?_;rw[P.out,HA.out];exact⟨⟨_,rfl⟩,HL.out b.out.swap.drop⟩
  rw[K];clear K;have hk2:¬(k2:Int)<0:=by omega
  have HA:Hid (k7 z (c,f) (B,C)=(⟨z.ls,z.f,cY (fx z.B (c,f) (B,C)).1⟩,(fx z.B (c,f) (B,C)).2)):=by unfold Hid k7;rw[if_pos ⟨y,lW⟩]
  rw[HA.out]at P;clear I y lW HA;obtain⟨qf,qn,q2,q3,_,q14,q15,q0⟩:=F.out rfl j.out;have s:=j;clear j;go_upto_region 17 with(fail)
  go_region_held3 (λW=>row? W t 10 2=af (ints [c,f])/\row? W t 12 2=af (ints [B,C])/\W.cell? ⟨t,14,ah⟩=af (.int .i64 H)/\W.cell? ⟨t,15,ah⟩=af (.int .i64 M)/\row? W nb 0 2=af (ints [0,0])/\fits W D 0 2=ak)
   (refine⟨?_,?_,?_,?_,?_,?_⟩<;>first|assumption|(refine jL J.out.1 ?_;assumption)|(refine jL J.out.2 ?_;assumption)|(refine cell_far J.out.2 ?_;assumption)|(refine kq ?_ ?_<;>assumption))
   (first
     |(go_at_call 54;refine(Bu s.out.drew Q.out.rT Q.out.Ny X (c,f) (B,C)).mono ?_;rintro e S ⟨⟨m,rfl⟩,a⟩;obtain⟨s1,s2,s3,s4,s5,s6⟩:=HF.out rfl a;have b:=ae (q.out [0,0] rfl rfl a);clear a)
     |(go_at_call 54;refine(Bu (q.out [0,0] rfl rfl s.out.drew) Q.out.rT Q.out.Ny X (c,f) (B,C)).mono ?_;rintro e S ⟨⟨m,rfl⟩,a⟩;obtain⟨s1,s2,s3,s4,s5,s6⟩:=HF.out rfl a;have b:=ae (a);clear a))
  all_goals go_wp2_with fail;refine aZ rfl D 43 (ints [0,0]) (.int .i64 m) _ rfl rfl b.out.swap.blk underlying43 rfl (by rw[aR];exact bW) rfl ?_;rw[P.out];exact⟨⟨_,rfl⟩,HL.out b.out.swap.drop⟩
 have hd5:(d==5)=aq:=by simp[h5]
 by_cases h6:d=6
 ·subst h6;have P:Hid (pG z ⟨6,⟨U,T⟩,(c,f),(B,C),H,M⟩=_):=WW z _ rfl;clear R h3 h4 h5 OM hd3 hd4 hd5;go_wp2_with fail;refine(wM s.out TR.out (c,f)).mono ?_;rintro e w4 ⟨rfl,V⟩;have j:=ae V;clear V s qf qn q2 q3 q14 q15 q0;rcases I.out (c,f)with⟨k,K,y⟩|⟨K,y⟩;rotate_left
  ·have HA:Hid (kj z (c,f)=(z,7)):=by unfold Hid kj;rw[if_neg (by rw[y];simp)]
   rw[K];clear K y I;obtain⟨_,_,u2,u3,u5,u14,u15,u0⟩:=F.out rfl j.out;obtain⟨_,_,_,_,u5,u6⟩:=HF.out rfl j.out;have b:=ae (q.out [0,0] rfl rfl j.out);clear j;go_wp2_with fail;refine aZ rfl D 43 (ints [0,0]) (.int .i64 7) _ rfl rfl b.out.swap.blk underlying43 rfl (by rw[aR];exact bW) rfl ?_;rw[P.out,HA.out];exact⟨⟨_,rfl⟩,HL.out b.out.swap.drop⟩
  rw[K];clear K;have K0:¬(k:Int)<0:=by omega
  have HA:Hid (kj z (c,f)=(⟨z.ls,z.f,(eH z.B (c,f)).1⟩,(eH z.B (c,f)).2)):=by unfold Hid kj;rw[if_pos y]
  rw[HA.out]at P;clear I y HA;obtain⟨qf,qn,q2,q3,_,q14,q15,q0⟩:=F.out rfl j.out;have s:=j;clear j;go_upto_region 19 with(fail)
  go_region_held3 (λW=>row? W t 10 2=af (ints [c,f])/\row? W t 12 2=af (ints [B,C])/\W.cell? ⟨t,14,ah⟩=af (.int .i64 H)/\W.cell? ⟨t,15,ah⟩=af (.int .i64 M)/\row? W nb 0 2=af (ints [0,0])/\fits W D 0 2=ak)
   (refine⟨?_,?_,?_,?_,?_,?_⟩<;>first|assumption|(refine jL J.out.1 ?_;assumption)|(refine jL J.out.2 ?_;assumption)|(refine cell_far J.out.2 ?_;assumption)|(refine kq ?_ ?_<;>assumption))
   (first
     |(go_at_call 55;refine(yG s.out.drew X (c,f)).mono ?_;rintro e S ⟨⟨m,rfl⟩,a⟩;obtain⟨s1,s2,s3,s4,s5,s6⟩:=HF.out rfl a;have b:=ae (q.out [0,0] rfl rfl a);clear a)
     |(go_at_call 55;refine(yG (q.out [0,0] rfl rfl s.out.drew) X (c,f)).mono ?_;rintro e S ⟨⟨m,rfl⟩,a⟩;obtain⟨s1,s2,s3,s4,s5,s6⟩:=HF.out rfl a;have b:=ae (a);clear a))
  all_goals go_wp2_with fail;refine aZ rfl D 43 (ints [0,0]) (.int .i64 m) _ rfl rfl b.out.swap.blk underlying43 rfl (by rw[aR];exact bW) rfl ?_;rw[P.out];exact⟨⟨_,rfl⟩,HL.out b.out.swap.drop⟩
 have hd6:(d==6)=aq:=by simp[h6]
 by_cases h2:d=2;rotate_left
 ·have hd2:(d==2)=aq:=by simp[h2]
  have P:Hid (pG z ⟨d,⟨U,T⟩,(c,f),(B,C),H,M⟩=_):=WY z _ ⟨R,h2,h3,h4,h5,h6⟩;have b:=ae (q.out [0,0] rfl rfl s.out);clear R h2 h3 h4 h5 h6 s I;go_wp2_with fail;refine aZ rfl D 43 (ints [0,0]) (.int .i64 1) _ rfl rfl b.out.swap.blk underlying43 rfl (by rw[aR];exact bW) rfl ?_;rw[P.out];exact⟨⟨_,rfl⟩,HL.out b.out.swap.drop⟩
 subst h2;have P:Hid (pG z ⟨2,⟨U,T⟩,(c,f),(B,C),H,M⟩=_):=WR z _ rfl;clear R h3 h4 h5 h6 OM hd3 hd4 hd5 hd6;go_wp2_with fail;refine(wM s.out TR.out (c,f)).mono ?_;rintro e w4 ⟨rfl,V⟩;have j:=ae V;clear V s qf qn q2 q3 q14 q15 q0;rcases I.out (c,f)with⟨k,K,y⟩|⟨K,y⟩;rotate_left
 ·have HA:Hid (mC z (c,f)=(z,7)):=by unfold Hid mC;rw[if_neg (by rw[y];simp)]
  rw[K];clear K y I;obtain⟨_,_,u2,u3,u5,u14,u15,u0⟩:=F.out rfl j.out;obtain⟨_,_,_,_,u5,u6⟩:=HF.out rfl j.out;have b:=ae (q.out [0,0] rfl rfl j.out);clear j;go_wp2_with fail;refine aZ rfl D 43 (ints [0,0]) (.int .i64 7) _ rfl rfl b.out.swap.blk underlying43 rfl (by rw[aR];exact bW) rfl ?_;rw[P.out,HA.out];exact⟨⟨_,rfl⟩,HL.out b.out.swap.drop⟩
 rw[K];clear K;have K0:¬(k:Int)<0:=by omega
 have HA:Hid ((mC z (c,f)).1=gM z (under z.B (c,f)++[(c,f)])):=OW z _ y;rw[HA.out]at P;clear I y HA K0;have q2:row? w4 t 10 2=af #[.int .i64 c,.int .i64 f]:=(F.out rfl j.out).2.2.1;have q0:w4.cell? ⟨t,0,ah⟩=af (.int .i64 2):=(F.out rfl j.out).2.2.2.2.2.2.2;go_upto_region 20 with(fail)
 have HUN:Hid (∀(L:List cX)(W:ar),In G Z (jy p z.ls z.rows z.B::L) W->Calls ai 56 #[ptr p,iU (c,f)] W λe w'=>∃v,e=.returned v/\In G Z (e9 v (under z.B (c,f))::jy p z.ls z.rows z.B::L) w'):=λL W hW=>Bv hW Q.out.rT Q.out.Ny X (c,f)
 have E5:Hid (∀(L:List cX)(W:ar),In G Z L W->In G Z (e9 (.slice (af ⟨W.heap.size,0,ah⟩) 1 1) [(c,f)]::L) (W.alloc (.cells #[.int .i64 c,.int .i64 f] 43))):=λL W h=>h.xB 43 [.int .i64 c,.int .i64 f]
 have HSA:Hid (row? (w4.alloc (.cells #[.int .i64 c,.int .i64 f] 43)) t 10 2=af #[.int .i64 c,.int .i64 f]):=j4 ((Below.refl _ _).alloc (ao _) _) q2;have HLN:Hid ((under z.B (c,f)).length+ [(c,f)].length<=1099511627776):=by have:=oo Q.out.rT.nodup Q.out.rT.pD (c,f);unfold Hid;simp;omega
 obtain⟨u,HHS⟩:∃u,Hid (u=under z.B (c,f)++[(c,f)]):=⟨_,rfl⟩;have hhl:u.length<=61:=by have:=oo Q.out.rT.nodup Q.out.rT.pD (c,f);rw[HHS.out];simp;omega
 rw[<-HHS.out]at P
 go_region_held3 (λW=>row? W t 10 2=af #[.int .i64 c,.int .i64 f]) (first|assumption|exact HSA.out|go_keep)
  (first
    |(refine jM (by rfl) (.tmp 84) (.tmp 87) (by rfl) ((E5.out _ _ H5.out).swap) (by rfl) (by rfl) HLN.out ?_;intro v6 w6 N;rw[<-HHS.out]at N;obtain⟨A5,c5,e5,_,_,_⟩:=mf N.rowAt;subst e5;have s6:row? w6 t 10 2=af #[.int .i64 c,.int .i64 f]:=(F.out rfl N.drop.drop).2.2.1;have H6:=ae N;clear N)
    |(refine jM (by rfl) (.tmp 84) (.tmp 87) (by rfl) (H5b.out.reorder 3 [0,2,1] rfl (by simp)) (by rfl) (by rfl) HLN.out ?_;intro v6 w6 N;rw[<-HHS.out]at N;obtain⟨A5,c5,e5,_,_,_⟩:=mf N.rowAt;subst e5;have s6:row? w6 t 10 2=af #[.int .i64 c,.int .i64 f]:=(F.out rfl N.drop.drop).2.2.1;have H6:=ae N;clear N)
    |(go_at_call 56;refine(HUN.out _ _ j.out.drew).mono ?_;rintro e w5 ⟨uv,rfl,E⟩;have s5:row? w5 t 10 2=af #[.int .i64 c,.int .i64 f]:=(F.out rfl E.drop).2.2.1;have s5a:row? (w5.alloc (.cells #[.int .i64 c,.int .i64 f] 43)) t 10 2=af #[.int .i64 c,.int .i64 f]:=j4 ((Below.refl _ _).alloc (ao _) _) s5;have H5:=ae E;clear E)
    |(go_at_call 56;refine(HUN.out _ _ (E5.out _ _ j.out.drew).swap).mono ?_;rintro e w5 ⟨uv,rfl,E⟩;have s5:row? w5 t 10 2=af #[.int .i64 c,.int .i64 f]:=(F.out rfl E.drop.swap.drop).2.2.1;have H5b:=ae E;clear E))
 all_goals
  have um:Hid (In G Z (jy p (gM z (u.take 0)).ls (gM z (u.take 0)).rows (gM z (u.take 0)).B::e9 (.slice A5 u.length c5) u::aN D 43 (ints [0,0])::L) w6):=H6.out.swap.drop.swap;first
  |clear H5 s5a
  |clear H5b
  clear H6 j q2 q0 s6 s5 HSA HLN HUN E5;have RP:(u.length:Int)<=61:=by omega
  go_wp2_with fail;go_loopw [90] (λi w'=>∃k:Nat,k<=u.length/\i=.int .i64 k/\In G Z (jy p (gM z (u.take k)).ls (gM z (u.take k)).rows (gM z (u.take k)).B::e9 (.slice A5 u.length c5) u::aN D 43 (ints [0,0])::L) w') (λi _=>u.length-(intOf i).toNat)
  case atStart=>exact⟨0,bH _,rfl,um.out⟩
  case round=>
   clear um;obtain⟨k,hk,rfl,hI⟩:=hrel;have HI:=ae hI;by_cases lW:k<u.length
   ·have rW:(k:Int)<u.length:=by omega
    obtain⟨A',c',e0,_,hkc,Vi⟩:=mf hI.swap.rowAt;injection e0 with K e2 e3;subst K;subst e3;obtain⟨g,rfl,q1⟩:=Vi k lW;have HS:Hid (gM z (u.take (k+1))=mB (gM z (u.take k)) u[k]):=Lc z u lW;have Ux:Hid (jC (gM z (u.take k))):=Q.out.gM _;have YN:(u.length:Int)<=c5:=by omega
    clear Vi e2 hI;generalize u[k]=x at *;obtain⟨x1,x2⟩:=x;generalize gM z (u.take k)=z' at *;go_upto_region 23 with(fail)
    refine a6 (In G Z (aN wr.heap.size 43 (ints [x1,x2])::jy p z'.ls z'.rows z'.B::e9 (.slice (af ⟨g,0,ah⟩) u.length c5) u::aN D 43 (ints [0,0])::L)) (HI.out.struct 43 [0,0] [x1,x2] rfl) ?_;generalize wr.heap.size=cb;intro w8 Kh;have q8:row? w8 cb 0 2=af (ints [x1,x2]):=Kh.blk.aL rfl;have Kf:Hid (In G Z (jy p z'.ls (ep z'.ls z'.f) z'.B::aN cb 43 (ints [x1,x2])::e9 (.slice (af ⟨g,0,ah⟩) u.length c5) u::aN D 43 (ints [0,0])::L) w8):=Kh.swap;clear Kh q1 HI;go_wp2_with fail;refine(L5 Kf.out Ux.out.w (x1,x2)).mono ?_;rintro e w9 ⟨⟨m,rfl⟩,Yw⟩;have q9:row? w9 cb 0 2=af (ints [x1,x2]):=Yw.swap.blk.aL rfl;have Dz:=ae Yw;have HZB:=ae Ux.out.len;clear Yw Kf q8;go_wp2_with fail;refine(PY Dz.out HZB.out (x1,x2)).mono ?_;rintro e S ⟨rfl,a⟩;have abA:Hid (In G Z (jy p (mB z' (x1,x2)).ls (mB z' (x1,x2)).rows (mB z' (x1,x2)).B::aN cb 43 (ints [x1,x2])::e9 (.slice (af ⟨g,0,ah⟩) u.length c5) u::aN D 43 (ints [0,0])::L) S):=a;clear a Dz q9;go_wp2_with fail;go_roundw
    case rel=>exact⟨k+1,by omega,by go_num,by rw[HS.out];exact abA.out.swap.drop⟩
    simp[intOf];omega
   have M3:k=u.length:=by omega
   subst M3;rw[cq]at hI;have Kp:Hid (In G Z (jy p (gM z u).ls (gM z u).rows (gM z u).B::aN D 43 (ints [0,0])::L) wr):=hI.swap.drop;obtain⟨_,_,_,_,u5,u6⟩:=HF.out rfl Kp.out;have b:=ae (q.out [0,0] rfl rfl Kp.out);clear hI HI Kp;go_wp2_with fail;refine aZ rfl D 43 (ints [0,0]) (.int .i64 0) _ rfl rfl b.out.swap.blk underlying43 rfl (by rw[aR];exact bW) rfl ?_;rw[P.out];exact⟨⟨_,rfl⟩,HL.out b.out.swap.drop⟩
end
def zt{m}(h:ck m=ak):zF m:=by unfold ck at h;simp at h;exact⟨h.1,by omega⟩
def PQ(A c a w)(h:pT w w.heap.size A a)(hn:a.length<=maxLen):Calls ai 59 #[.slice A a.length c] w λe y=>(∃v,e=.returned (.tuple #[v,.int .i64 (dL a).2]))/\Below w.heap.size w y:=by
 have H:=ae h;have hnm:(a.length:Int)<=9223372036854775807:=by unfold maxLen at hn;omega
 have x:Hid (dL a=if 20<a.length then([],2)else if fS (a.map dH)=0 then(cm a a.length,0)else([],fS (a.map dH))):=rfl;generalize hpr:dL a=pr at *;clear h hpr;go_enter func59,ntmps59;by_cases S:20<a.length
 ·have hd:(decide (20<(a.length:Int)))=ak:=by simp;omega
  rw[if_pos S]at x;go_wp2_with fail
  go_ret2
  exact⟨⟨_,qE (by rw[x.out])⟩,Below.refl _ _⟩
 have hd:(decide (20<(a.length:Int)))=aq:=by simp;omega
 rw[if_neg S]at x;go_wp2_with fail;go_loopw [17] (λi y=>∃k:Nat,k<=a.length/\i=.int .i64 k/\(∀j,j<k->dH (a.getD j cW)=0)/\Below w.heap.size w y) (λi _=>a.length-(intOf i).toNat)
 case atStart=>exact⟨0,by omega,rfl,λj hj=>by omega,Below.refl _ _⟩
 case round=>
  obtain⟨k,hk,rfl,F,hb⟩:=hrel;have f:=ae F;have z:=ae hb;clear F hb;by_cases C:k<a.length
  ·have rW:(k:Int)<a.length:=by omega
   obtain⟨b,o,rfl,Ki,r⟩:=(H.out.below z.out).at_ C;generalize hS:a.getD k cW=s at *;have HS:=ae hS;clear hS;go_upto_region 6 with(fail)
   refine a6 (λy=>di y wr.heap.size 54 (ints s.list)/\Below wr.heap.size wr y) ⟨iT wr 54 [0,0,0,0,0,0,0] _ rfl,fy wr 54 [0,0,0,0,0,0,0] _⟩ ?_;rintro w1 ⟨T6,W⟩;have fs:row? w1 wr.heap.size 0 7=af (ints s.list):=T6.aL rfl;have K:=ae (z.out.trans (W.mono z.out.size));clear T6 W;go_wp2_with fail;refine(S5 s _).mono ?_;rintro e w2 ⟨rfl,X⟩;have L:=ae (K.out.trans (X.mono K.out.size));clear X fs;by_cases D:dH s=0
   ·have HE:=ae D;rw[D];clear D;go_wp2_with fail;go_roundw
    case rel=>refine⟨k+1,by omega,by go_num,λj hj=> ?_,L.out⟩;by_cases GZ:j=k;rw[GZ,HS.out];exact HE.out;exact f.out j (by omega)
    simp[intOf];omega
   have h1:fS (a.map dH)=dH s:=by rw[<-HS.out];exact yn C f.out (by rw[HS.out];exact D)
   rw[h1,if_neg D]at x;have Va:(dH s !=0)=ak:=by simpa using D
   clear D h1;generalize dH s=E at *;go_wp2_with fail
   go_ret2
   exact⟨⟨_,qE (by rw[x.out])⟩,L.out⟩
  have YO:k=a.length:=by omega
  subst YO;rw[if_pos (uu f.out)]at x;have P:=f;have M:Hid (In (λ_=>False) w [dN 3 1 (.slice ah 0 0) 0 []] wr):=(In.mk' (F':=λ_=>False) (l:=[]) trivial (λ_ _ h=>h.elim) (cT.fJ z.out)).kz _ _;obtain⟨i0,uT,sS,sT,sa⟩:=info_parts oQ;have ac2:a.length<=20:=by omega
  clear f z;go_wp2_with fail;go_loopw [7,29] (λv i y=>∃d:List Int,d.length<=a.length/\i=.int .i64 d.length/\In (λ_=>False) w [dN 3 1 v d.length (d.map (aD .i64))] y) (λ_ i _=>a.length-(intOf i).toNat)
  case atStart=>exact⟨[],by simp,rfl,M.out⟩
  clear M;obtain⟨d,hi,rfl,J⟩:=hrel;have HI:=ae J;by_cases C:d.length<a.length
  ·have rW:(d.length:Int)<a.length:=by omega
   obtain⟨b,o,rfl,Ki,r⟩:=(H.out.below J.ko).at_ C;have Q:Hid (dH (a.getD d.length cW)=0):=P.out d.length C;obtain⟨A1,c1,rfl,_,T0,Y⟩:=aP J.rowAt;have HG:=ae Y;clear J Y;generalize a.getD d.length cW=s at *;go_upto_region 14 with(fail)
   refine a6 (In (λ_=>False) w [aN wr.heap.size 54 (ints s.list),dN 3 1 (.slice A1 d.length c1) d.length (d.map (aD .i64))]) (HI.out.struct 54 [0,0,0,0,0,0,0] _ rfl) ?_;generalize wr.heap.size=sb;intro w2 T;have N:=ae T;clear T HI r;go_wp2_with fail;go_loopw [10,35] (λu j y=>∃(k:Nat)(B:Int),k<=d.length/\j=.int .i64 k/\u=.int .i64 B/\In (λ_=>False) w [aN sb 54 (ints s.list),dN 3 1 (.slice A1 d.length c1) d.length (d.map (aD .i64))] y) (λ_ j _=>d.length-(intOf j).toNat)
   case atStart=>exact⟨0,0,by omega,rfl,rfl,N.out⟩
   clear N;obtain⟨k,B,hk,rfl,rfl,q⟩:=hrel;have t:=ae q;by_cases rW:k<d.length
   ·have hkI:(k:Int)<d.length:=by omega
    have YO:(k:Int)<a.length:=by omega
    obtain⟨b',o',D,abY,r⟩:=(H.out.below q.ko).at_ (show k<a.length by omega);cases D;obtain⟨g,rfl⟩:=HG.out (by omega);have R:Hid (dH (a.getD k cW)=0):=P.out k (by omega);generalize a.getD k cW=s2 at *;have I:∀n:After wr,row? n.w sb 0 7=af (ints s.list):=λn=>(q.blk.after n.below).aL rfl
    have c2:∀n:After wr,row? n.w b (o+k *7) 7=af (ints s2.list):=λn=>j4 n.below r
    have c3:∀n:After wr,n.w.cell? ⟨g,k,ah⟩=af (.int .i64 (d[k]'(by omega))):=λn=>((q.swap.below n.below).rI (k:=k) (u:=.int .i64 (d[k]'(by omega))) (by simp[show k<d.length by omega])).1
    generalize (d[k]'(by omega))=ok at *;have m:Hid (∀n:After wr,Calls ai 124 #[.agg (ints s2.list),.agg (ints s.list)] n.w λe y=>e=.returned (.bool (pj s2 s))/\Below n.w.heap.size n.w y):=λn=>LS s2 s (zt (mS R.out).2.2.2.1) (zt (mS R.out).2.2.2.2.1) (zt (mS Q.out).2.2.2.1) (zt (mS Q.out).2.2.2.2.1) n.w
    clear q r;cases hC:pj s2 s
    ·rw[hC]at m;go_upto_region 18 with(fail)
     refine bK (by kernel_rfl) (by kernel_rfl) ?_;repeat(go_big_quiet_step (first|(go_at_call 124;exact eN (m.out _))))
     refine wpQuiet_nil ?_;rintro _ ⟨n,rfl⟩;have p:=ae (t.out.below n.below);clear I c2 c3 m t;go_wp2_with fail;go_roundw
     case rel=>exact⟨k+1,B,by omega,by go_num,rfl,p.out⟩
     simp[intOf];omega
    rw[hC]at m;by_cases Z:B<=ok
    ·have hgd:decide (B<=ok)=ak:=decide_eq_true Z;go_upto_region 18 with(fail)
     refine bK (by kernel_rfl) (by kernel_rfl) ?_;repeat(go_big_quiet_step (first|(go_at_call 124;exact eN (m.out _))))
     refine wpQuiet_nil ?_;rintro _ ⟨n,rfl⟩;have p:=ae (t.out.below n.below);have c4:=c3 n;clear I c2 c3 m t;go_wp2_with fail;go_roundw
     case rel=>exact⟨k+1,_,by omega,by go_num,rfl,p.out⟩
     simp[intOf];omega
    have hgd:decide (B<=ok)=aq:=decide_eq_false Z;go_upto_region 18 with(fail)
    refine bK (by kernel_rfl) (by kernel_rfl) ?_;repeat(go_big_quiet_step (first|(go_at_call 124;exact eN (m.out _))))
    refine wpQuiet_nil ?_;rintro _ ⟨n,rfl⟩;have p:=ae (t.out.below n.below);clear I c2 c3 m t;go_wp2_with fail;go_roundw
    case rel=>exact⟨k+1,B,by omega,by go_num,rfl,p.out⟩
    simp[intOf];omega
   have M3:k=d.length:=by omega
   subst M3;have p:=ae q.drop;have O:=ae q.drop.rowAt;clear q;go_wp2_with (at_builtin;go_loud (refine dv rfl _ _ _ rfl 0 3 i0 _ 1 8 underlying32 uT sS sT sa rfl (by decide) _ d.length _ rfl O.out [.int .i64 B] rfl rfl (by simp[fW]) (by unfold maxLen;omega) (by omega) (bH _) ?_));intro v' w4 G Y V;have U:=In.o6 p.out G Y V;have ME:Hid (In (λ_=>False) w [dN 3 1 v' (d++[B]).length ((d++[B]).map (aD .i64))] w4):=by rw[bm,en];exact U
   clear G Y V U p O t;go_wp2_with fail;go_roundw
   case rel=>exact⟨d++[B],by simp;omega,by rw[bm];go_num,ME.out⟩
   simp[intOf];omega
  have hie:d.length=a.length:=by omega
  clear hie;have HB:=ae J.ko;clear J;go_wp2_with fail
  go_ret2
  exact⟨⟨_,qE (by rw[x.out])⟩,HB.out⟩
def SE{w B e size n c g o f}(d)(h:w.ownsRow B e size (.slice (af ⟨g,0,ah⟩) n c) n f)(A:o+d.length<=n *size):(putRow w g o d).ownsRow B e size (.slice (af ⟨g,0,ah⟩) n c) n (f.take o++d.map (aD .i64)++f.drop (o+d.length)):=by
 obtain⟨y,m⟩:=h;rcases m with⟨b,x⟩|⟨v,k,a,b,s,u,j,p,q,r⟩;cases b;injection b with b i l;injection b with b;injection b with b;subst b;subst l;have z:n *size<=c *size:=fh size j;have t:a.toList.length=c *size:=by simpa using q
 refine⟨by simp;omega,Or.inr ⟨g,c,(a.toList.take o++d.map (aD .i64)++a.toList.drop (o+d.length)).toArray,rfl,s,?_,j,p,?_,?_⟩⟩;simp[putRow,Array.getElem?_modify,u];simp;omega;rw[<-r];have i:(a.toList.take o++d.map (aD .i64)).length=o+d.length:=by simp;omega
 rw[List.toList_toArray,List.take_append,i,cA (by omega),List.take_take,qO (by omega),List.drop_take]
section
variable{G:Nat->Prop} {Z w:ar} {l:List cX} {p g c k:Nat} {W:List cQ}
def S4{b}(f)(c:W[k].b.v.length=8)(e:b.v.length=8):(W.flatMap iK).take (k *11+2)++b.list.map (aD .i64)++(W.flatMap iK).drop (k *11+2+b.list.length)=(W.set k ⟨W[k].h,b⟩).flatMap iK:=by
 have l:b.list.length=9:=by simp[bw.list,e]
 have g:W.flatMap iK=(W.take k).flatMap iK++(iK W[k]++(W.drop (k+1)).flatMap iK):=by
  conv=>lhs;rw[<-fZ k W,List.drop_eq_getElem_cons f]
  rw[bS,bJ]
 have h:(W.set k ⟨W[k].h,b⟩).flatMap iK=(W.take k).flatMap iK++(iK ⟨W[k].h,b⟩++(W.drop (k+1)).flatMap iK):=by rw[List.set_eq_take_append_cons_drop,if_pos f,bS,bJ]
 have d:((W.take k).flatMap iK).length=k *11:=by rw[OB,cR,qO (by omega)]
 have i:iK W[k]=[aD .i64 W[k].h.1,.int .i64 W[k].h.2]++W[k].b.list.map (aD .i64):=by unfold iK;rw[pq c];rfl
 have j:iK ⟨W[k].h,b⟩=[aD .i64 W[k].h.1,.int .i64 W[k].h.2]++b.list.map (aD .i64):=by unfold iK;rw[pq e];rfl
 have a:(W[k].b.list.map (aD .i64)).length=9:=by simp[bw.list,c]
 rw[g,h,i,j,l];generalize (W.take k).flatMap iK=X at *;generalize (W.drop (k+1)).flatMap iK=Y at *;generalize W[k].b.list.map (aD .i64)=R at *;have m:(X++([aD .i64 W[k].h.1,.int .i64 W[k].h.2]++R++Y)).take (k *11+2)=X++[aD .i64 W[k].h.1,.int .i64 W[k].h.2]:=by rw[<-d,List.take_length_add_append,b9];rfl
 have n:(X++([aD .i64 W[k].h.1,.int .i64 W[k].h.2]++R++Y)).drop (k *11+2+9)=Y:=by rw[Nat.add_assoc,<-d,List.drop_length_add_append,b9,show 2+9=([aD .i64 W[k].h.1,.int .i64 W[k].h.2]).length+9 from rfl,List.drop_length_add_append,<-a,List.drop_left]
 rw[m,n];simp
def In.Zs{b}(h:In G Z (bj (.slice (af ⟨g,0,ah⟩) W.length c) W::l) w)(n)(m:W[k].b.v.length=8)(i:b.v.length=8):In G Z (bj (.slice (af ⟨g,0,ah⟩) W.length c) (W.set k ⟨W[k].h,b⟩)::l) (putRow w g (k *11+2) b.list):=by
 obtain⟨r,⟨j,d⟩,_,a⟩:=h.open_;have s:b.list.length=9:=by simp[bw.list,i]
 have f:=SE b.list j (o:=k *11+2) (by omega);rw[S4 n m i]at f;refine a (A':=bj (.slice (af ⟨g,0,ah⟩) W.length c) (W.set k ⟨W[k].h,b⟩)) ⟨by rw[cx];exact f,λq p=>Or.inl (d q p)⟩ ?_;exact(cT.putRow w g _ _).mono λq _ e=>by rw[e];exact d g rfl
end
section
variable{G:Nat->Prop} {Z w:ar} {l:List cX} {g c k n:Nat} {A:Option Addr} {Y:List cQ}
def Br(h:In G Z (bj (.slice A n c) Y::l) w)(j:Y.length=n)(b:∀r∈Y,r.b.v.length=8)(d):∃g,A=af ⟨g,0,ah⟩/\row? w g (k *11+2) 9=af (ints Y[k].b.list)/\fits w g (k *11+2) 9=ak:=by
 subst j;obtain⟨g,rfl,m⟩:=oS h b d;refine⟨g,rfl,?_,?_⟩;have a:=Jr m 2 9 (by omega);have f:(Y[k].list.drop 2).take 9=Y[k].b.list:=by show(Y[k].b.list).take 9=_;rw[cA];simp[bw.list,b _ (aF d)]
 rw[f]at a;exact a;obtain⟨e,i,o,_,p⟩:=SC h.rowAt;unfold fits;rw[i];have q:(k+1) *11<=c *11:=fh 11 (by omega);simp only[decide_eq_true_eq];omega
end
def qu(rs:List cQ)(s:Sys)(j:Nat):List cQ:=(rs.take j).map (λr=>⟨r.h,bU r.b s⟩)++rs.drop j
def wj(rs s j):(qu rs s j).length=rs.length:=by unfold qu;simp;omega
def Sl(rs s){j}(a h):(qu rs s j)[j]=rs[j]:=by
 have e:(qu rs s j)[j]? =af rs[j]:=by unfold qu;rw[nE (by simp;omega)];simp[show min j rs.length=j by omega,a]
 exact(bg.1 e).2
def O4(rs s){j}(a):(qu rs s j).set j ⟨rs[j].h,bU rs[j].b s⟩=qu rs s (j+1):=by
 unfold qu;have e:((rs.take j).map λr=>(⟨r.h,bU r.b s⟩:cQ)).length=j:=by simp;omega
 rw[List.set_append_right _ _ (by omega),e,Nat.sub_self,List.drop_eq_getElem_cons a,bh,aV a,en,b9];rfl
def L0(z a):(fY z a).ls=z.ls/\(fY z a).B=z.B:=by
 unfold fY
 induction a generalizing z with|nil=>exact⟨rfl,rfl⟩|cons s a b=>rw[List.foldl_cons];exact b (GD z s)
section
variable{G:Nat->Prop} {Z w:ar} {l:List cX} {p B c:Nat} {A:Option Addr} {z:ZS} {Y:List Sys}
def Jz(hS:lp G Z B A Y)(hB:B<=Z.heap.size)(n:Y.length<=maxLen)(h:In G Z (jy p z.ls z.rows z.B::l) w)(hk:jC z):Calls ai 26 #[ptr p,.slice A Y.length c] w λe w'=>e=.returned (.int .i64 (dL Y).2)/\In G Z (jy p z.ls (if(dL Y).2=0 then fY z Y else z).rows z.B::l) w':=by
 have HS:Hid (lp G Z B A Y):=hS;have HK:=ae hk;have Dy:=ae h;have hnm:(Y.length:Int)<=9223372036854775807:=by unfold maxLen at n;omega
 have HP:=ae (PQ A c Y w (fR.more (hS h.bare) (by have:=h.size;omega)) n);clear hS h hk n;obtain⟨pn,hpn⟩:∃pn,(dL Y).2=pn:=⟨_,rfl⟩;rw[hpn]at HP|-;have HPN:=ae hpn;clear hpn;obtain⟨zo,hzo⟩:∃zo,zo=(if pn=0 then fY z Y else z).rows:=⟨_,rfl⟩;rw[<-hzo];have K:=ae hzo;clear hzo;show Calls ai 26 #[.pointer (af ⟨p,0,ah⟩),.slice A Y.length c] w _;go_enter func26,ntmps26;go_wp2_with fail;refine HP.out.mono ?_;rintro e w2 ⟨⟨v,rfl⟩,sQ⟩;have x:=ae (Dy.out.below sQ);clear sQ HP Dy;by_cases he:pn=0;rotate_left
 ·have CU:(pn !=0)=ak:=by simp[he]
  have HZ:Hid (zo=z.rows):=K.out.trans (by rw[if_neg he]);clear he K;go_wp2_with fail;go_ret;exact⟨rfl,by rw[HZ.out];exact x.out⟩
 have HZ0:Hid (zo=(fY z Y).rows):=K.out.trans (by rw[if_pos he]);clear K;subst he;have Ux:=ae (wz HPN.out).1;have h20:=(wz HPN.out).2;have aaM:(Y.length:Int)<=20:=by omega
 have ac9:z.rows.length<=60:=nm HK.out.w;obtain⟨gv,lv,rv,bv,E⟩:=x.out.mN;obtain⟨A1,c1,rfl,_⟩:=aP E.fourth.rowAt;have k0:w2.cell? ⟨p,2,ah⟩=af (.slice A1 z.rows.length c1):=E.blk.cell 2;have HCP:=ae (om E E.fourth.rowAt (by omega));clear E x;generalize T4:z.rows.length=a at *;have HN0:=ae T4;clear T4;go_wp2_with fail;refine HCP.out.mono ?_;rintro e w3 ⟨v',rfl,u,hb4⟩;have u:In G Z (bj v' z.rows::cE p gv lv (.slice A1 a c1) bv::dQ gv z.ls::cN lv z.ls::bj (.slice A1 a c1) z.rows::dA bv z.B::l) w3:=u;obtain⟨t,m,rfl,_,_,RJ⟩:=aP u.rowAt;rw[HN0.out]at u RJ|-;have L:=u.swap;have k3:w3.cell? ⟨p,2,ah⟩=af (.slice A1 a c1):=L.blk.cell 2;have k4:w3.frozen? ⟨p,2,ah⟩=aq:=L.blk.frozen 2;have yL:=ae (L.set 2 (.slice t a m));have HG:=ae RJ;clear u L hb4 RJ k0 HCP;go_upto_region 5 with(fail)
 refine a6 _ yL.out ?_;clear k3 k4 yL;intro w4 M;have M:In G Z (cE p gv lv (.slice t a m) bv::bj (.slice t a m) z.rows::dQ gv z.ls::cN lv z.ls::bj (.slice A1 a c1) z.rows::dA bv z.B::l) w4:=M;have ME:Hid (In G Z (bj (.slice t a m) (fY z (Y.take 0)).rows::cE p gv lv (.slice t a m) bv::dQ gv z.ls::cN lv z.ls::dA bv z.B::l) w4):=(M.reorder 6 [1,0,2,3,5,4] rfl (by simp)).reorder 6 [5,0,1,2,3,4] rfl (by simp)|>.drop;clear M;have ac4:(a:Int)<=60:=by omega
 have Q:Hid (∀k,(fY z (Y.take k)).rows.length=a):=λk=>by
  rw[<-HN0.out];have h1:=HK.out.run (Y.take k);generalize hq:Y.take k=q;unfold Hid at *;clear hq h1;have:∀(q:List Sys)(z:ZS),jC z->(fY z q).rows.length=z.rows.length:=by
   intro q
   induction q with|nil=>intro z _;rfl|cons s q ih=>intro z hz;have e:(fY z (s::q))=fY (GD z s) q:=rfl;rw[e,ih _ (hz.sys s)];show(ep z.ls (nN z.f s)).length=_;rw[JR hz.w,aY];rfl
  exact this q z HK
 go_wp2_with fail;go_loopw [28] (λi w'=>∃k:Nat,k<=Y.length/\i=.int .i64 k/\In G Z (bj (.slice t a m) (fY z (Y.take k)).rows::cE p gv lv (.slice t a m) bv::dQ gv z.ls::cN lv z.ls::dA bv z.B::l) w') (λi _=>Y.length-(intOf i).toNat)
 case atStart=>exact⟨0,bH _,rfl,ME.out⟩
 case round=>
  clear ME;obtain⟨k,hk,rfl,C⟩:=hrel;have U:=ae C;by_cases O:k<Y.length
  ·have rW:(k:Int)<Y.length:=by omega
   obtain⟨b,o,rfl,Ki,T⟩:=(HS.out C.bare).at_ O;have hS:Y.getD k cW=Y[k]:=by simp[List.getD,O]
   rw[hS]at T;have HSE:Hid (dH Y[k]=0):=Ux.out _ (aF O);have HZK:Hid (jC (fY z (Y.take k))):=HK.out.run _;have abE:Hid ((fY z (Y.take (k+1))).rows=qu (fY z (Y.take k)).rows Y[k] a):=by unfold Hid;rw[EK z Y O];have e:=JR HZK.out.w Y[k];show ep (fY z (Y.take k)).ls (nN (fY z (Y.take k)).f Y[k])=_;rw[e];unfold qu;rw[<-Q.out k,cq,List.drop_length,cK];rfl
   have J:=ae (Q.out k);have TS:Hid (∀r∈(fY z (Y.take k)).rows,bx r.b=0/\r.b.v.length=8):=p6 HZK.out.w;clear C hS HZK;generalize Y[k]=s at *;generalize (fY z (Y.take k)).rows=rs at *;go_upto_region 8 with(fail)
   refine a6 (In G Z (aN wr.heap.size 54 (ints s.list)::bj (.slice t a m) (qu rs s 0)::cE p gv lv (.slice t a m) bv::dQ gv z.ls::cN lv z.ls::dA bv z.B::l)) (U.out.struct 54 [0,0,0,0,0,0,0] s.list rfl) ?_;generalize wr.heap.size=sb;intro w5 Fx;have k1:w5.cell? ⟨p,2,ah⟩=af (.slice t a m):=Fx.third.blk.cell 2;have um:=ae Fx;clear Fx U T;go_wp2_with fail;clear k1;go_loopw [37] (λi w'=>∃j:Nat,j<=a/\i=.int .i64 j/\In G Z (aN sb 54 (ints s.list)::bj (.slice t a m) (qu rs s j)::cE p gv lv (.slice t a m) bv::dQ gv z.ls::cN lv z.ls::dA bv z.B::l) w') (λi _=>a-(intOf i).toNat)
   case atStart=>exact⟨0,bH _,rfl,um.out⟩
   clear um;obtain⟨j,hj,rfl,C⟩:=hrel;have U:=ae C;by_cases CS:j<a
   ·have hji:(j:Int)<a:=by omega
    have N:j<rs.length:=by rw[J.out];exact CS
    obtain⟨g,rfl⟩:=HG.out (by omega);have X:Hid (∀r∈qu rs s j,r.b.v.length=8):=λr hr=>by unfold qu at hr;rcases List.mem_append.1 hr with h|h;obtain⟨q,hq,rfl⟩:=aA.1 h;show(bU q.b s).v.length=8;rw[eX];exact(TS.out q (List.mem_of_mem_take hq)).2;exact(TS.out r (List.mem_of_mem_drop h)).2
    have I:j<(qu rs s j).length:=by rw[wj];exact N
    have HMG:Hid ((qu rs s j)[j]=rs[j]):=Sl rs s N I;obtain⟨Il,F⟩:=TS.out _ (aF N);have Uw:=ae Il;have HBV:=ae F;have aaq:=ae λW=>PT rs[j].b s Il F HSE.out W
    have hdl:(bU rs[j].b s).list.length=9:=by simp[bw.list,eX,F]
    have HDV:Hid ((bU rs[j].b s).v.length=8):=by unfold Hid;rw[eX];exact F
    have HS:Hid (∀W,In G Z (aN sb 54 (ints s.list)::bj (.slice (af ⟨g,0,ah⟩) a m) (qu rs s j)::cE p gv lv (.slice (af ⟨g,0,ah⟩) a m) bv::dQ gv z.ls::cN lv z.ls::dA bv z.B::l) W->W.cell? ⟨p,2,ah⟩=af (.slice (af ⟨g,0,ah⟩) a m)/\row? W g (j *11+2) 9=af (ints rs[j].b.list)/\row? W sb 0 7=af (ints s.list)):=λW h=>by obtain⟨g',y,hr,_⟩:=Br h.swap (by rw[wj];exact J.out) X.out I;injection y with y;injection y with y;subst y;rw[HMG.out]at hr;exact⟨h.third.blk.cell 2,hr,h.blk.aL rfl⟩
    have abz:Hid (∀W,In G Z (aN sb 54 (ints s.list)::bj (.slice (af ⟨g,0,ah⟩) a m) (qu rs s j)::cE p gv lv (.slice (af ⟨g,0,ah⟩) a m) bv::dQ gv z.ls::cN lv z.ls::dA bv z.B::l) W->fits W g (j *11+2) 9=ak/\In G Z (aN sb 54 (ints s.list)::bj (.slice (af ⟨g,0,ah⟩) a m) (qu rs s (j+1))::cE p gv lv (.slice (af ⟨g,0,ah⟩) a m) bv::dQ gv z.ls::cN lv z.ls::dA bv z.B::l) (putRow W g (j *11+2) (bU rs[j].b s).list)):=λW h=>by
     obtain⟨g',y,_,hf⟩:=Br h.swap (by rw[wj];exact J.out) X.out I;injection y with y;injection y with y;subst y;refine⟨hf,?_⟩;have n:(qu rs s j).length=a:=by rw[wj];exact J.out
     have h2:=In.Zs (b:=bU rs[j].b s) (k:=j) (by rw[n];exact h.swap) I (X.out _ (aF I)) HDV.out;rw[n,HMG.out,O4 rs s N]at h2;exact h2.swap
    have V:=ae U.out.drew;clear C U Il F Uw HBV;generalize hnw:(bU rs[j].b s).list=nw at *;generalize hob:rs[j].b.list=ob at *;clear hnw hob;go_upto_region 11 with(fail)
    refine tD (λW=>W.cell? ⟨p,2,ah⟩=af (.slice (af ⟨g,0,ah⟩) a m)/\row? W g (j *11+2) 9=af (ints ob)/\row? W sb 0 7=af (ints s.list)) 15 [0,1,2,3,4,5,6,7,8,9,10,11,12,13] 4 #[ak,ak,ak,ak,ak,ak,ak,ak,ak,ak,ak,ak,ak,ak,aq,aq,aq,aq] (by kernel_rfl) (by kernel_rfl) (λ_ _ d _ _ h=>by cases d<;>exact h) (by kernel_rfl) (by kernel_rfl) (by decide) (by rfl) (by kernel_rfl) (by kernel_rfl) (HS.out _ V.out) ?_;intro ops f;iterate 14 (apply tj f;rfl;rfl;(intro W hW;obtain⟨hW1,hW2,YC⟩:=hW;go_simp;rfl);simp only[dW,az,bh,a8])
    refine dk (rs:=[14]) (by rw[<-f];kernel_rfl) (by simp) ?_;intro i H;rw[aO]at H;subst H;refine tz f rfl rfl (by go_simp) (aaq.out _) ?_;rintro e w7 ⟨rfl,hb7⟩;refine⟨_,rfl,?_⟩;simp only[dW,az,bh,a8];have D:=V.out.below hb7;obtain⟨hf7,R⟩:=abz.out _ D;have P:=ae R;refine⟨λ_=>HS.out _ D,?_⟩;clear D R hb7 V;refine dk (rs:=[15]) (by rw[<-f];kernel_rfl) (by simp) ?_;intro i H;rw[aO]at H;subst H;refine kl f rfl rfl (by go_simp;exact⟨rfl,rfl⟩) ?_;simp only[dW,az,bh,a8];refine⟨λh=>by omega,?_⟩;refine dk (rs:=[16]) (by rw[<-f];kernel_rfl) (by simp) ?_;intro i H;rw[aO]at H;subst H;refine kl f rfl rfl (by go_simp;exact⟨rfl,rfl⟩) ?_;simp only[dW,az,bh,a8];refine⟨λh=>by omega,?_⟩;refine dk (rs:=[17]) (by rw[<-f];kernel_rfl) (by simp) ?_;intro i H;rw[aO]at H;subst H;refine tA f rfl rfl (w':=putRow w7 g (j *11+2) nw) (by go_simp) ?_;simp only[dW,az,bh,a8];refine⟨λh=>by omega,nD (by rw[<-f];kernel_rfl) ?_ _⟩;clear hf7;go_upto_region 12 with(fail)
    refine a6 _ P.out ?_;clear P;intro w12 S;have abB:=ae S;clear S;go_wp2_with fail;go_roundw
    case rel=>exact⟨j+1,by omega,by go_num,abB.out⟩
    simp[intOf];omega
   have hje:j=a:=by omega
   subst hje;have Kf:Hid (In G Z (bj (.slice t j m) (fY z (Y.take (k+1))).rows::cE p gv lv (.slice t j m) bv::dQ gv z.ls::cN lv z.ls::dA bv z.B::l) wr):=by rw[abE.out];exact C.drop
   clear C U;go_wp2_with fail;go_roundw
   case rel=>exact⟨k+1,by omega,by go_num,Kf.out⟩
   simp[intOf];omega
  have M3:k=Y.length:=by omega
  subst M3;rw[cq]at C;have x:Hid (In G Z (jy p z.ls zo z.B::l) wr):=by rw[HZ0.out];exact In.lg (gv:=gv) (lv:=lv) (bv:=bv) (rv:=.slice t a m) (C.reorder 5 [1,2,3,0,4] rfl (by simp))
  clear C U;go_wp2_with fail;go_ret;exact⟨rfl,x.out⟩
end
section
variable{G:Nat->Prop} {Z w:ar} {l:List cX} {p:Nat} {Y:List (Int×Bool)} {X:List cQ} {W:lF}
def jy.hp(p Y X W):NZ (jy p Y X W):=λ_ _ _ e h=>by obtain⟨b,d,f,a,c⟩:=h;exact⟨b,d,f,a,Sep.hp (.cons (aN.hp _ _ _) (.cons (dN.hp _ _ _ _ _) (.cons (dN.hp _ _ _ _ _) (.cons (dN.hp _ _ _ _ _) (.cons (dN.hp _ _ _ _ _) .nil))))) e c⟩
def In.aa4(h:In G Z l w):In G Z (jy w.heap.size [] [] []::l) (w.alloc (.cells #[.slice ah 0 0,.slice ah 0 0,.slice ah 0 0,.slice ah 0 0] 72)):=by have a:=h.alloc 72 #[.slice ah 0 0,.slice ah 0 0,.slice ah 0 0,.slice ah 0 0];have b:=(((a.kz 45 4).kz 50 11).kz 4 1).kz 3 1;exact In.lg (gv:=.slice ah 0 0) (lv:=.slice ah 0 0) (rv:=.slice ah 0 0) (bv:=.slice ah 0 0) (b.reorder 5 [4,0,1,2,3] rfl (by simp))
def KW(v):dQ v Y=ei v (iw Y):=by unfold dQ ei;rw[xm,aY,List.map_map];rfl
def L8(h:In G Z (jy p Y X W::l) w)(q:Y.length<=60)(r:X.length<=60)(s:W.length<=60):Calls ai 27 #[ptr p] w λe o=>∃b f c g d i,e=.returned (.agg #[.slice b (iw Y).length f,.slice c X.length g,.slice d W.length i])/\In G Z (ei (.slice b (iw Y).length f) (iw Y)::bj (.slice c X.length g) X::dA (.slice d W.length i) W::l) o:=by obtain⟨k,m,n,j,a⟩:=h.mN;have a:=a.reorder 5 [0,1,3,4,2] rfl (by simp);have a:In G Z (cE p k m n j::dQ k Y::bj n X::dA j W::cN m Y::l) w:=a;rw[KW]at a;refine(PR a (by rw[xm,aY];exact q) r s).mono ?_;rintro e o ⟨u,v,x,rfl,a⟩;have a:=a.reorder 8 [2,1,0,3,4,5,6,7] rfl (by simp);obtain⟨b,f,rfl,_⟩:=aP (In.rowAt a);obtain⟨c,g,rfl,_⟩:=aP (In.rowAt (In.swap a));obtain⟨d,i,rfl,_⟩:=aP (In.rowAt (In.third a));refine⟨b,f,c,g,d,i,rfl,?_⟩;have t:=a.reorder 8 [3,4,5,6,7,0,1,2] rfl (by simp);exact(In.drop (In.drop (In.drop (In.drop (In.drop t)))))
end
end
section
open Rel
open Go.Conc Go.ConcN
open Go.RowKit Go.ChangeShapes Go.WideShapes Go.ChangeAt Go.Deep
def qv(W:ar):vw:=⟨W.heap.size,λa=>match W.cell? a with|some (.int .i64 x)=>af x|_=>Option.none,λa x h=>by split at h;rename_i b;exact vE b;cases h⟩
def Ls{W a x}(h:(qv W).mem a=af x):W.cell? a=af (.int .i64 x):=by have h:(match W.cell? a with|some (.int .i64 x)=>af x|_=>Option.none)=af x:=h;split at h;rename_i b;cases h;exact b;cases h
def O6{W a x}(h:W.cell? a=af (.int .i64 x)):(qv W).mem a=af x:=by show(match W.cell? a with|some (.int .i64 x)=>af x|_=>Option.none)=af x;rw[h]
def V4{W b o n a}(h:row? W b o n=af (ints a))(c:a.length=n):∀j,j<n->∃x,(qv W).mem ⟨b,o+j,ah⟩=af x:=λj d=>⟨a[j],O6 (Hk h c (List.getElem?_eq_getElem (by omega)))⟩
def Uu(W:ar)(f:FuncId)(i:Nat)(v:aB):Prop:=(i∈WN f/\kY (lq (qv W)) (kdM f i) v)\/xZ (lq (qv W)).sig v
def ye{W e m}(hm:Ia e=af m){A f}(h:fR W W.heap.size m A f)(c):kY (lq (qv W)) (.sl e) (.slice A f.length c)\/xZ (lq (qv W)).sig (.slice A f.length c):=by
 cases A with|none=>exact .inr λp=>.jr _ _|some a=>refine .inl ⟨a,_,_,rfl,λn d i g=> ?_⟩;have d:Ia e=af n:=d;rw[hm]at d;cases d;obtain⟨b,o,j,_,l⟩:=fR.at_ h g;cases j;have k:(⟨b,o,ah⟩:Addr).add (i *m)=⟨b,o+i *m,ah⟩:=vA _ rfl _;rw[k];exact⟨rfl,m,hm,V4 l (h.1 _ (aF g))⟩
def QM{W f}{i:Nat}(b:i∈WN f)(d:kdM f i=.sl 74){A os}(h:sx W W.heap.size A os)(c):Uu W f i (.slice A os.length c):=by have:=ye (e:=74) rfl h c;rw[aY]at this;rcases this with a|a;exact .inl ⟨b,by rw[d];exact a⟩;exact .inr a
def QN{W f}{i:Nat}(b:i∈WN f)(d:kdM f i=.sl 54){A ss}(h:pT W W.heap.size A ss)(c):Uu W f i (.slice A ss.length c):=by have:=ye (e:=54) rfl h c;rw[aY]at this;rcases this with a|a;exact .inl ⟨b,by rw[d];exact a⟩;exact .inr a
def QL{W f i}(n):Uu W f i (.int .i64 n):=.inr λ_=>.int _ _
def FY:Tryz.prog.globals.size=0:=by decide+kernel
def OX{os}(n:os.Started){H k f l}{s:ChangeSpec}(r:Tryz.checked.prog.inits.idxOf? f=ah)(R:Tryz.checked.prog.funcs[f]? =af l)(T:∀t∈l.params.toList,Tryz.prog.readableRec t=ak/\t<Tryz.prog.types.size)(I:l.resultTypes=#[4])(e:s.vars=[])(hs:∀b:List (DataW H),b.length=l.params.toList.length->s.fn H b={results:=[.lit (.bool ak)],args:=b})(o:∃(w:ar)(g:Tape)(i:Input),w.os=os/\(w.forCall g i).Shaped Tryz.checked.prog/\i.vars=[]/\Input.okWide Tryz.checked.prog (w.forCall g i) .any w.heap.size f i/\s.pre6 k Tryz.checked.prog l [] aq (w.forCall g i).memory i.args/\Assume.holds {} Tryz.checked.prog (lone (Frame.enter Tryz.checked.prog f i.args .normal) [] (w.forCall g i)))(walk:∀W m args(b:List (DataW H)) p,(∀(j:Nat) t v,l.params[j]? =af t->args[j]? =af v->Value.okWide ai W .any m t v)->DataW.TrodAll k ai W 0 (λ_=>ak) ak l.params.toList args.toList b p->(∀x∈p,x.block<W.heap.size)->(DataW.weightsEach ai l.params.toList b).all (· <=reachBytes)=ak->(∀i v,args[i]? =af v->Uu W f i v)/\∀B,sr ai (lq (qv W)) B f args W λv Z=>v=.bool ak/\iR (λ_=>False) W [] Z):ReturnsInLeavingWide {} Tryz.checked os f .any (s.pre6 k ai l [] aq) (s.post k ai l aq ak aq aq):=by
 refine returnsInLeavingWide_of_change_sized (C:=Tryz.checked) SD n R o ?_;intro W m args b gs M K Y _ J _;have E:=Y;obtain⟨p,q,V,X,rfl,_,_⟩:=Y;rw[e]at X;obtain⟨rfl,rfl⟩:=trodVars_none X;have S:∀x∈p,x.block<W.heap.size:=λx hx=>E.lt x (by simpa using hx)
 have hv:s.plain.varTypes Tryz.checked.prog=[]:=by simp[ChangeSpec.plain,DataSpec.varTypes,e]
 rw[hv,cK,cK]at J;have G:b.length=l.params.toList.length:=by
  have F:∀(L:List cD)(vs:List aB)(b:List (DataW H))(U:List MemPlace),DataW.TrodAll k ai W 0 (λ_=>ak) ak L vs b U->b.length=L.length:=by
   intro L
   induction L with|nil=>intro vs b U h;obtain⟨_,rfl,_⟩:=trodAll_nil h;rfl|cons t L ih=>intro vs b U h;obtain⟨v,vs',d,D,p,q,_,rfl,_,_,h2⟩:=trodAll_cons h;simp[ih _ _ _ h2]
  exact F _ _ _ _ V
 obtain⟨y,z⟩:=walk W m args b p K V S J;refine R7 (P:=ai) (c:=lq (qv W)) (f:=f) (args:=args) (w:=W) (by rw[FY];exact bH _) r y (λa x h=>Ls h) ?_ (z _);rintro v w' ⟨rfl,hI⟩ u d;have O:=hI.dG .nil u d;have hb:Below W.heap.size (Rel.dG W u W.drawn) (Rel.dG w' u d):=In.ko (show In (λ_=>False) (Rel.dG W u W.drawn) [] (Rel.dG w' u d)from O);have Q:DataW.Whole k Tryz.checked.prog l.params.toList s.vars aq (Rel.dG W u W.drawn) args.toList b [] (p++[]):=DataW.Whole.of_heap (w':=Rel.dG W u W.drawn) (by rfl) E;have A:=R6 (W:=Rel.dG W u W.drawn) R5 T I underlying4 e (hs b G) Q hb;obtain⟨D,N,bf,pr,pa,pv,g1,g2,g3,g4,g5,g6⟩:=A;exact⟨D,N,bf,pr,pa,pv,DataW.Whole.of_heap (w':=W) (by rfl) g1,g2,g3,g4,g5,g6⟩
end
section
open Rel
open Go.Conc Go.ConcN
open Go.RowKit
noncomputable def wR:Code:=match f7.body with|some (.seq _ (.seq _ (.seq _ (.seq _ (.seq x _)))))=>x|_=>.skip
noncomputable def wS:Code:=match f7.body with|some (.seq _ (.seq _ (.seq _ (.seq _ (.seq _ (.seq _ x))))))=>x|_=>.skip
section
variable{G:Nat->Prop} {Z w:ar} {A A':Option Addr} {c c' B p q:Nat} {os:List mo} {ss:List Sys} {l8 r se:Int} {Y X:ZS} {l:List cX}
def JY(F:mv G Z B A os)(I:os.length<=1099511627776)(u:∀o∈os,o.b.v.length=8)(H:sj l)(h:In G Z (jy q [] [] []::l) w):wR.wp ai (rG λa C=>∃TB Ul Um Un Uo Uq Ur:aB,a=⟨#[.slice A os.length c,.slice A' ss.length c',.int .i64 l8,undef,undef,undef,.bool aq,.pointer (af ⟨p,0,ah⟩),.pointer (af ⟨q,0,ah⟩),undef,TB,undef,.bool ak,.bool aq,.slice A os.length c,.pointer (af ⟨p,0,ah⟩),.agg #[.slice ah 0 0,.slice ah 0 0,.slice ah 0 0,.slice ah 0 0],.pointer (af ⟨q,0,ah⟩),.pointer (af ⟨p,0,ah⟩),.bool aq,.slice A os.length c,.int .i64 os.length,.int .i64 os.length,.bool aq,Ul,Um,Un,Uo,Uq,Ur,undef,undef,undef,undef,undef,undef,undef,undef,undef,undef,undef,undef,undef,undef,undef,undef,undef,undef],[]⟩/\iR G Z (jy q (sK os).ls (sK os).rows (sK os).B::l) C) ⟨#[.slice A os.length c,.slice A' ss.length c',.int .i64 l8,undef,undef,undef,.bool aq,.pointer (af ⟨p,0,ah⟩),.pointer (af ⟨q,0,ah⟩),undef,undef,undef,.bool ak,.bool aq,.slice A os.length c,.pointer (af ⟨p,0,ah⟩),.agg #[.slice ah 0 0,.slice ah 0 0,.slice ah 0 0,.slice ah 0 0],.pointer (af ⟨q,0,ah⟩),.pointer (af ⟨p,0,ah⟩),.bool aq,undef,undef,undef,undef,undef,undef,undef,undef,undef,undef,undef,undef,undef,undef,undef,undef,undef,undef,undef,undef,undef,undef,undef,undef,undef,undef,undef,undef],[]⟩ w:=by
 have L:Hid (mv G Z B A os):=F;have r:=ae u;have n:Hid (In G Z (jy q (iq os 0).ls (iq os 0).rows (iq os 0).B::l) w):=h;have K:=ae H;clear F u h H;have Q:(os.length:Int)<=1099511627776:=by omega
 simp only[wR,f7];go_wp2_with fail;go_loopw [22] (λi C=>∃k:Nat,k<=os.length/\i=.int .i64 k/\In G Z (jy q (iq os k).ls (iq os k).rows (iq os k).B::l) C) (λi _=>os.length-(intOf i).toNat)
 case atStart=>exact⟨0,bH _,rfl,n.out⟩
 case round=>
  clear n;obtain⟨k,O,rfl,E⟩:=hrel;have m:=ae E;clear E;by_cases f:k<os.length
  ·have P:(k:Int)<os.length:=by omega
   obtain⟨b,o,rfl,N,S⟩:=(L.out m.out.bare).at_ f;have M:Hid (iq os (k+1)=(pG (iq os k) os[k]).1):=yl os k f;have z:Hid (jC (iq os k)):=DT r.out k;have s:Hid (os[k].b.v.length=8):=r.out _ (aF f);have g:(mo.list os[k]).length=16:=mo.len s.out;generalize os[k]=op at *;generalize iq os k=D at *;go_upto_region 9 with(fail)
   refine a6 (In G Z (aN wr.heap.size 74 (ints op.list)::jy q D.ls D.rows D.B::l)) (m.out.struct 74 [0,0,0,0,0,0,0,0,0,0,0,0,0,0,0,0] op.list g) ?_;generalize wr.heap.size=R;intro U j;have V:row? U R 0 16=af (ints op.list):=j.blk.aL g;have x:=ae j.swap;clear j S m g;go_wp2_with fail;refine(V9 x.out z.out op s.out).mono ?_;rintro e W ⟨⟨v,rfl⟩,t⟩;have y:=ae t;clear t;go_wp2_with fail;go_roundw
   case rel=>exact⟨k+1,by omega,by go_num,by rw[M.out];exact y.out.swap.drop⟩
   simp[intOf];omega
  have:k=os.length:=by omega
  subst this;have J:Hid (iq os os.length=sK os):=by unfold Hid iq;rw[cq]
  rw[J.out]at m;clear f O;go_wp2_with fail;refine⟨rfl,rfl,λT d=>⟨_,_,_,_,_,_,_,rfl,?_⟩⟩;exact iR.of (m.out.dG (.cons (jy.hp _ _ _ _) K.out) T 0 d)
def JZ{TB Ul Um Un Uo Uq Ur}(H:lp G Z B A' ss)(F:B<=Z.heap.size)(f:ss.length<=maxLen)(C:jC Y)(z:se=(dL ss).2)(b:X=if se=0 then fY Y ss else Y)(h:In G Z (dn p X::jy q Y.ls Y.rows Y.B::l) w):wS.wp ai (tL ai f7 λv J=>v=.bool ak/\iR G Z [] J) ⟨#[.slice A os.length c,.slice A' ss.length c',.int .i64 l8,undef,undef,undef,.bool aq,.pointer (af ⟨p,0,ah⟩),.pointer (af ⟨q,0,ah⟩),undef,TB,.int .i64 se,.bool ak,.bool aq,.slice A os.length c,.pointer (af ⟨p,0,ah⟩),.agg #[.slice ah 0 0,.slice ah 0 0,.slice ah 0 0,.slice ah 0 0],.pointer (af ⟨q,0,ah⟩),.pointer (af ⟨p,0,ah⟩),.bool aq,.slice A os.length c,.int .i64 os.length,.int .i64 os.length,.bool aq,Ul,Um,Un,Uo,Uq,Ur,.int .i64 l8,.int .i64 r,.int .i64 (r+1),.pointer (af ⟨p,0,ah⟩),.slice A' ss.length c',.int .i64 se,undef,undef,undef,undef,undef,undef,undef,undef,undef,undef,undef,undef],[]⟩ w:=by
 have a:jC X:=by rw[b];split;exact C.run ss;exact C
 have j:X.ls=Y.ls/\X.B=Y.B:=by rw[b];split;exact L0 Y ss;exact⟨rfl,rfl⟩
 have i:=ae (Jz (c:=c') H F f h.swap C);rw[<-z,<-b,<-j.1,<-j.2]at i;have E:=ae a;have x:=a.w.so.1;have y:X.rows.length<=60:=nm a.w;have u:=a.len;clear h C a H F f b j z;simp only[wS,f7];go_wp2_with fail;refine i.out.mono ?_;rintro e W ⟨rfl,n⟩;have k:=ae n.swap;clear n i;go_wp2_with fail;refine(BW k.out E.out).mono ?_;rintro e w2 ⟨K,Q,L,R,M,S,rfl,o⟩;have m:=ae (o.reorder 5 [4,0,1,2,3] rfl (by simp));clear o k;go_wp2_with fail;refine(L8 m.out x y u).mono ?_;rintro e w3 ⟨N,T,O,U,P,V,rfl,s⟩;have g:=ae (s.reorder 6 [3,4,5,0,1,2] rfl (by simp));clear s m;go_wp2_with fail;refine(Wa g.out).mono ?_;rintro e w4 ⟨rfl,t⟩;have D:=ae (g.out.below t);clear t g;go_wp2_with fail;refine⟨.inr rfl,rfl,_,λI d=>results_tmp rfl _ _ _,λI d=>⟨rfl,?_⟩⟩;exact iR.of (D.out.bare.dG .nil I 0 d)
end
def P'(A A' c c' os ss l8 W)(hO:sx W W.heap.size A os)(n:os.length<=1099511627776)(P:∀o∈os,o.b.v.length=8)(hS:pT W W.heap.size A' ss)(K:ss.length<=maxLen)(B):sr ai (lq (qv W)) B 7 #[.slice A os.length c,.slice A' ss.length c',.int .i64 l8] W λv W'=>v=.bool ak/\iR (λ_=>False) W [] W':=by
 have H:mv (λ_=>False) W W.heap.size A os:=mv.AE hO;have I:lp (λ_=>False) W W.heap.size A' ss:=lp.AE hS;have i:jC (sK os):=Hu P;obtain⟨b,s⟩:∃b,b=sK os:=⟨_,rfl⟩;rw[<-s]at i;refine⟨_,_,func7,rfl,rfl,rfl,?_⟩;have g:=mH (qv W);have T:f7.ntmps=48:=rfl;simp only[T,List.append_toArray,List.cons_append,List.nil_append,List.size_toArray,ax,aM,Nat.reduceAdd,Nat.reduceSub,Array.replicate_succ,Array.replicate_zero,List.push_toArray];simp only[f7];refine cu (bG ?_);refine aJ g (.bool aq) ?_;walk_nrm;refine dx ?_;show eU _ _ _ _ _ _ _ W;refine cu (cu ?_);refine bG ?_;refine tW (f:=23) (R:=λv w'=>v=.bool ak/\iR (λ_=>False) W [] w') rfl rfl rfl (λj u y=>by simp at y) ?_ ?_;walk_nrm;exact ZI (ao _);rintro _ w1 ⟨rfl,C⟩;walk_nrm;refine aJ g (.bool aq) ?_;walk_nrm;refine dx ?_;refine gU (t:=false) rfl ?_;rw[if_neg (by simp)];refine mI ?_;show eU _ _ _ _ _ _ _ w1;refine cu (bG ?_);refine aJ g (.slice A os.length c) ?_;walk_nrm;refine qx (f:=24) (λv z=>∃p,v=ptr p/\z=[dn p b]) rfl rfl rfl (by decide+kernel) (by kernel_rfl) .nil C (by rintro v z ⟨_,_,rfl⟩;exact .cons (dn.hp _ _) .nil) (λk d O=> ?_) ?_;walk_nrm;refine(Qk (H.dG k 0) n P O).mono ?_;rintro e u ⟨p,rfl,Y⟩;rw[<-s]at Y;exact⟨_,_,rfl,⟨p,rfl,rfl⟩,Y⟩;rintro _ _ w ⟨p,rfl,rfl⟩ D;clear C;walk_nrm;refine aJ g (.agg #[.slice ah 0 0,.slice ah 0 0,.slice ah 0 0,.slice ah 0 0]) ?_;walk_nrm;have E:iR (λ_=>False) W [jy w.heap.size [] [] [],dn p b] (w.alloc (.cells #[.slice ah 0 0,.slice ah 0 0,.slice ah 0 0,.slice ah 0 0] 72)):=In.aa4 (show In _ _ _ w from D);refine fA g (w':=w.alloc (.cells #[.slice ah 0 0,.slice ah 0 0,.slice ah 0 0,.slice ah 0 0] 72)) (v:=ptr w.heap.size) rfl rfl (by kernel_rfl) ⟨rfl,rfl⟩ (λk d=>by go_simp;exact⟨rfl,rfl⟩) ?_;walk_nrm;generalize w.alloc (.cells #[.slice ah 0 0,.slice ah 0 0,.slice ah 0 0,.slice ah 0 0] 72)=w3 at *;generalize w.heap.size=q at *;clear D;refine aJ g (ptr p) ?_;walk_nrm;refine aJ g (ptr q) ?_;walk_nrm;refine dx ?_;show eU _ _ _ _ _ _ _ w3;refine cu (cu ?_);refine bG ?_;refine aJ g (ptr p) ?_;walk_nrm;refine aJ g (.bool aq) ?_;walk_nrm;refine dx ?_;refine gU (t:=false) rfl ?_;rw[if_neg (by simp)];refine mI ?_;show eU _ _ _ _ _ _ _ w3;have J:sj [dn p b]:=.cons (dn.hp _ _) .nil;have N:dm ((lq (qv W)).at 7) wR=ak:=by kernel_rfl
 refine cu (xh g (x:=wR) (S:=λa w'=>∃TB Ul Um Un Uo Uq Ur:aB,a=⟨#[.slice A os.length c,.slice A' ss.length c',.int .i64 l8,undef,undef,undef,.bool aq,.pointer (af ⟨p,0,ah⟩),.pointer (af ⟨q,0,ah⟩),undef,TB,undef,.bool ak,.bool aq,.slice A os.length c,.pointer (af ⟨p,0,ah⟩),.agg #[.slice ah 0 0,.slice ah 0 0,.slice ah 0 0,.slice ah 0 0],.pointer (af ⟨q,0,ah⟩),.pointer (af ⟨p,0,ah⟩),.bool aq,.slice A os.length c,.int .i64 os.length,.int .i64 os.length,.bool aq,Ul,Um,Un,Uo,Uq,Ur,undef,undef,undef,undef,undef,undef,undef,undef,undef,undef,undef,undef,undef,undef,undef,undef,undef,undef],[]⟩/\iR (λ_=>False) W [jy q b.ls b.rows b.B,dn p b] w') N (λk d=> ?_) ?_);have M:=JY (A:=A) (A':=A') (c:=c) (c':=c') (p:=p) (q:=q) (os:=os) (ss:=ss) (l8:=l8) (H.dG k 0) n P J (E.at_ (.cons (jy.hp _ _ _ _) J) k 0 d);rw[<-s]at M;exact Code.wp_mono (λe a u h=>⟨h.1,h.2.1,λk d=>by obtain⟨TB,Ul,Um,Un,Uo,Uq,Ur,e,h⟩:=h.2.2 k d;exact⟨TB,Ul,Um,Un,Uo,Uq,Ur,e,iR.same h⟩⟩) M
 rintro _ V ⟨TB,Ul,Um,Un,Uo,Uq,Ur,rfl,l⟩;clear E N;have l:iR (λ_=>False) W [dn p b,jy q b.ls b.rows b.B] V:=In.swap (show In _ _ _ V from l);show eU _ _ _ _ _ _ _ V;have hr0:0<=l8 % 8:=Int.emod_nonneg _ (by decide);have hr8:l8 % 8<8:=Int.emod_lt_of_pos _ (by decide);have Z:IntKind.i64.wrap (l8 % 8+1)=l8 % 8+1:=IntWalk.i64_in _ (by omega);have m:sj [jy q b.ls b.rows b.B]:=.cons (jy.hp _ _ _ _) .nil;refine cu (bG ?_);refine aJ g (.int .i64 l8) ?_;walk_nrm;refine qx (f:=14) (λv z=>v=.int .i64 (l8 % 8)/\z=dn p b::[jy q b.ls b.rows b.B]) rfl rfl rfl (by decide+kernel) (by kernel_rfl) (.cons (dn.hp _ _) m) l (by rintro v z ⟨_,rfl⟩;exact .cons (dn.hp _ _) m) (λk d O=> ?_) ?_;walk_nrm;refine(Jm l8 8 _ (by decide) (by decide)).mono ?_;rintro e u ⟨rfl,rfl⟩;exact⟨_,_,rfl,⟨rfl,rfl⟩,O⟩;rintro _ _ w5 ⟨rfl,rfl⟩ F;clear l;walk_nrm;generalize l8 % 8=r at *;refine aJ g (.int .i64 (r+1)) ?_;walk_nrm;refine aJ g (ptr p) ?_;walk_nrm;refine aJ g (.slice A' ss.length c') ?_;walk_nrm;refine tW (f:=13) (R:=λv w'=>v=.int .i64 (py (r+1) ss)/\iR (λ_=>False) W (dn p (if py (r+1) ss=0 then fY b ss else b)::[jy q b.ls b.rows b.B]) w') rfl rfl rfl (λj u y=>.inl ?_) ?_ ?_;rcases j with _|_|_|j;cases y;kernel_rfl;cases y;kernel_rfl;cases y;kernel_rfl;simp at y;walk_nrm;exact abh (ao _) m I (ao _) K i F;rintro _ w6 ⟨rfl,G⟩;have U:py (r+1) ss=(dL ss).2:=by unfold py;rw[if_neg (by omega)]
 obtain⟨X,L⟩:∃X,X=(if py (r+1) ss=0 then fY b ss else b):=⟨_,rfl⟩;rw[<-L]at G;have Q:sj [dn p X,jy q b.ls b.rows b.B]:=.cons (dn.hp _ _) m;generalize py (r+1) ss=se at *;clear F;walk_nrm;refine aJ g (.int .i64 se) ?_;walk_nrm;refine dx ?_;show eU _ _ _ _ _ _ _ w6;have N:dm ((lq (qv W)).at 7) wS=ak:=by kernel_rfl
 refine DK (x:=wS) g N λk d=> ?_
 have M:=JZ (A:=A) (A':=A') (c:=c) (c':=c') (os:=os) (ss:=ss) (l8:=l8) (r:=r) (se:=se) (TB:=TB) (Ul:=Ul) (Um:=Um) (Un:=Un) (Uo:=Uo) (Uq:=Uq) (Ur:=Ur) (I.dG k 0) (ao _) K i U L (G.at_ Q k 0 d);exact vL M λv w' h=>⟨h.1,iR.same h.2⟩
end
end Go.Proofs.YtknejlcijdngoaaGreat
