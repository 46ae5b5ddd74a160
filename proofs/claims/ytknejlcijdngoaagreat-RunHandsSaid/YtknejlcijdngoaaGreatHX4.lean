/- Several texts in one, made short by a program of mine. -/
import Derived.Test.YtknejlcijdngoaaGreatHX3
import Derived.BigRegion
import Derived.BigQuiet
import Derived.Deep.DeepCutAuto
import Derived.StillTailTactics
import Derived.Sort.Grow
import Derived.Conc.TokenWalk
set_option linter.defProp false
set_option linter.unusedVariables false
set_option linter.unusedSimpArgs false
set_option linter.unusedSectionVars false
set_option maxHeartbeats 16000000
set_option maxRecDepth 100000
open Array renaming getElem?_eq_some_iff->aE,getElem?_modify->br,getElem?_setIfInBounds_ne->aJ,getElem?_setIfInBounds_self_of_lt->aK,replicate->dF,replicate_succ->cG,replicate_zero->cH
open Bool renaming and_eq_true->aG,eq_iff_iff->mF,or_eq_true->gJ,false->au,true->ar
open Go renaming Frame->aY,FuncId->bG,TypeId->az,Value->ak,World->ai
open Go.Instr renaming loadAt->dN,lookup->kE,storeAt->dP
open Go.Lib renaming hid->af
open Go.Proofs.Tryz renaming prog->aj
open Go.Value renaming int->aS,oneCell'->fX,ownBlock->fC,slice->di
open Go.World renaming block_lt_of_cell?->lp,cell?->b3,cell?_of_block->bp,setCell->dC,setChan->oj,size_alloc->cR
open Go.World.ownsRow renaming lt->kI
open Int renaming toNat_natCast->dT
open List renaming all_eq_true->lM,any_eq_true->j4,append_assoc->cM,append_nil->eM,append_toArray->c9,cons_append->cW,eq_nil_of_length_eq_zero->fZ,ext_getElem?->iw,flatMap_append->eJ,flatMap_cons->cN,getD->bm,getD_eq_getElem?_getD->bq,getElem?_append_left->oB,getElem?_append_right->kp,getElem?_cons_succ->eO,getElem?_eq_getElem->aq,getElem?_eq_none->gi,getElem?_eq_some_iff->bz,getElem?_map->dx,getElem?_set->ga,getElem?_take->dS,getElem_mem->aR,length->kY,length_append->bK,length_cons->ay,length_map->bu,length_nil->aC,length_set->eu,length_take->dH,map_append->dZ,map_congr_left->dJ,map_cons->fq,mem_append->gK,mem_cons->b6,mem_cons_of_mem->ju,mem_filter->cc,mem_flatMap->lN,mem_iff_getElem->dn,mem_map->aI,mem_of_getElem?->jw,mem_range->gm,mem_singleton->eC,mergeSort_perm->iC,nil_append->cg,pairwise_iff_getElem->iV,push_toArray->dy,range->a6,range'->fJ,set_append_right->mM,size_toArray->aD,take_append_drop->mN,take_length->cE,take_of_length_le->cB,take_succ_eq_append_getElem->aU
open List.Perm renaming append_left->dD,refl->oI,swap->cy
open List.range renaming loop->a7
open Nat renaming add_comm->du,add_mul->kC,add_zero->kq,le_refl->av,le_trans->be,lt_of_lt_of_le->aW,mul_le_mul_right->ik,one_mul->jF,sub_self->pI,zero_add->aZ,zero_le->bF
open Ne renaming symm->kG
open Option renaming bind_eq_some_iff->cT,bind_some->kH,getD_some->bI,map_eq_some_iff->aF,map_some->eT,none->ah,some->ae
open Or renaming inl->bt,inr->bW
namespace Go.Proofs.YtknejlcijdngoaaGreat
open Go.Proofs.Tryz
section
open Go.RowKit
def Nw{w:ai}{B:Nat}{e:az}{size n c m:Nat}{A:Option Addr}{i:List ak}(h:w.ownsRow B e size (.slice A n c) n i)(hm:m<=n):w.ownsRow B e size (.slice A m c) m (i.take (m *size)):=by
 obtain⟨u,l⟩:=h;have f:m *size<=n *size:=ik _ hm;refine⟨by rw[dH];omega,?_⟩;rcases l with⟨a,t⟩|⟨g,j,b,a,r,s,v,o,p,q⟩;injection a with a k d;have:m=0:=by omega
 subst this;exact bt ⟨by rw[a,d],rfl⟩;injection a with a k d;subst d;refine bW ⟨g,c,b,by rw[a],r,s,by omega,o,p,?_⟩;rw[<-q,List.take_take,Nat.min_eq_left f]
def tY{c:Type}{size:Nat}{f:c->List ak}(b:∀x,(f x).length=size):∀(l:List c)(k:Nat),(l.flatMap f).take (k *size)=(l.take k).flatMap f|[],k=>by simp|a::l,0=>by simp|a::l,k+1=>by rw[cN,List.take_succ_cons,cN,List.take_append,b,kC,jF,cB (by rw[b];omega),Nat.add_sub_cancel,tY b l k]
def DR{c:Type}{size:Nat}{f:c->List ak}(b:∀x,(f x).length=size):∀(l:List c)(k:Nat),(l.flatMap f).drop (k *size)=(l.drop k).flatMap f|[],k=>by simp|a::l,0=>by simp|a::l,k+1=>by rw[cN,List.drop_succ_cons,List.drop_append,b,kC,jF,List.drop_of_length_le (by rw[b];omega),Nat.add_sub_cancel,DR b l k,cg]
def Wd{j:Type}{enc:j->List Int}{w:ai}{B:Nat}{e:az}{size c g k:Nat}{rows:List j}(n:∀x,(enc x).length=size)(h:w.ownsRow B e size (.slice (ae ⟨g,0,ah⟩) rows.length c) rows.length (rows.flatMap λx=>(enc x).map (aS .i64)))(H:k<rows.length)(x:j):(putRow w g (k *size) (enc x)).ownsRow B e size (.slice (ae ⟨g,0,ah⟩) rows.length c) rows.length ((rows.set k x).flatMap λx=>(enc x).map (aS .i64)):=by
 have b:∀x:j,((enc x).map (aS .i64)).length=size:=λx=>by rw[bu,n]
 obtain⟨F,y⟩:=h;refine⟨by rw[s0 b,eu],?_⟩;rcases y with⟨d,E⟩|⟨D,t,a,d,A,C,p,z,G,q⟩;omega
 ·injection d with d o l;injection d with d;injection d with d;subst d;subst l;have m:(k+1) *size<=rows.length *size:=ik _ (by omega);have r:rows.length *size<=c *size:=ik _ p;rw[kC,jF]at m;refine bW ⟨g,c,(a.toList.take (k *size)++(enc x).map (aS .i64)++a.toList.drop (k *size+(enc x).length)).toArray,rfl,A,?_,p,z,?_,?_⟩;simp[putRow,br,C];simp[n];omega;rw[List.toList_toArray];have s:=b x;have i:(a.toList.take (k *size)).length=k *size:=by rw[dH];simp;omega
  have o:rows=rows.take k++rows[k]::rows.drop (k+1):=by rw[<-List.drop_eq_getElem_cons,mN]
  have l:rows.set k x=rows.take k++x::rows.drop (k+1):=by
   conv=>lhs;rw[o]
   rw[mM _ _ (by rw[dH];omega),dH,Nat.min_eq_left (by omega),pI];rfl
  have u:(rows.take k).flatMap (λx=>(enc x).map (aS .i64))=a.toList.take (k *size):=by
   have:a.toList.take (k *size)=(a.toList.take (rows.length *size)).take (k *size):=by rw[List.take_take,Nat.min_eq_left (by omega)]
   rw[this,q,tY b]
  have v:(rows.drop (k+1)).flatMap (λx=>(enc x).map (aS .i64))=(a.toList.drop (k *size+size)).take ((rows.length-(k+1)) *size):=by
   have:(a.toList.drop (k *size+size)).take ((rows.length-(k+1)) *size)=(a.toList.take (rows.length *size)).drop ((k+1) *size):=by rw[List.drop_take,kC,jF];congr 1;rw[Nat.sub_mul,kC,jF]
   rw[this,q,DR b]
  rw[l,eJ,cN,u,v,<-cM];generalize a.toList.take (k *size)=P at i|-;generalize (enc x).map (aS .i64)=X at s|-;have f:(P++X).length=k *size+size:=by rw[bK,i,s]
  rw[List.take_append,cB (by rw[f];omega),f,n];congr 1;congr 1;rw[Nat.sub_mul,kC,jF]
def I8{w:ai}{B:Nat}{e:az}{size n c g k:Nat}{l:List ak}(h:w.ownsRow B e size (.slice (ae ⟨g,0,ah⟩) n c) n l)(u:k<n):fits w g (k *size) size=ar:=by obtain⟨q,i|⟨p,b,f,a,_,j,r,_,s,t⟩⟩:=h;cases i.1;injection a with a m o;injection a with a;injection a with a;subst a;unfold fits;rw[j];have d:(k+1) *size<=b *size:=ik _ (by omega);rw[kC,jF]at d;simp;omega
def mP(w b:ai)(p:Nat)(T:az)(c:Array ak)(o:Nat)(v:ak)(E:az)(size n:Nat)(d:List ak):Prop:=∃a,cD b p T (c.setIfInBounds o a)/\b.ownsRow 0 E size a n d/\a.ownBlock≠ae p/\(∀k,a.ownBlock=ae k->v.ownBlock=ae k\/w.heap.size<=k)/\cY (λk=>k=p\/v.ownBlock=ae k) w b
def MM{w l:ai}{p o n size:Nat}{T E:az}{m:Array ak}{v c:ak}{O:Obj}{s:List ak}(r:cD w p T m)(j:v.ownBlock≠ae p)(b:l.ownsRow 0 E size c n s)(q:(w.alloc O).grownBy l v.ownBlock)(i:c.ownBlock=v.ownBlock\/c.ownBlock=ae (w.heap.size+1)):cD l p T m/\mP w (l.setCell ⟨p,o,ah⟩ c) p T m o v E size n s:=by
 have g:cY (λk=>v.ownBlock=ae k) w l:=(cY.refl.alloc _).trans (cY.grown q λk a=>a);have d:=g.blk r j;have f:c.ownBlock≠ae p:=by rcases i with e|e;rw[e];exact j;rw[e];intro h;injection h with h;have:=r.lt;omega
 refine⟨d,c,d.set o c,ownsRow_setCell_other b f _,f,λk a=> ?_,(g.mono (G:=λk=>k=p\/v.ownBlock=ae k) λk _ a=>bW a).setCell (bt (bt rfl)) _ _⟩;rcases i with e|e;rw[e]at a;exact bt a;rw[e]at a;injection a with a;exact bW (by omega)
def O9:(Tryz.prog.info? 3).map (λi=>(i.zero,i.size,i.bytes))=ae (ae (.int .i64 0),1,8):=by kernel_rfl
def C3:(Tryz.prog.info? 43).map (λi=>(i.zero,i.size,i.bytes))=ae (ae (.agg #[.int .i64 0,.int .i64 0]),2,16):=by kernel_rfl
def Rl(p o:Nat)(T:az)(h:Array ak)(v:ak)(n:Nat)(r:List ak)(x:Int)(w:ai)(i:cD w p T h)(u:h[o]? =ae v)(k:w.ownsRow 0 3 1 v n r)(g:v.ownBlock≠ae p)(M:n<=100000):Calls aj 216 #[.pointer (ae ⟨p,o,ah⟩),.int .i64 x] w λe H=>e=.returned (.tuple #[])/\mP w H p T h o v 3 1 (n+1) (r++[.int .i64 x]):=by
 obtain⟨A,c,rfl,E,F,_⟩:=cu k;have C:=af k;have s:=af i;have B:=af g;have D:w.cell? ⟨p,o,ah⟩=ae (.slice A n c):=(i.cell o).trans u;obtain⟨G,j,l,m,q⟩:=info_parts O9;clear k i g u;go_enter func216,ntmps216;go_wp2_with (at_builtin;refine ep rfl _ _ _ rfl 0 3 G _ 1 8 underlying32 j l m q rfl (by decide) (.slice A n c) n r rfl C.out [.int .i64 x] rfl rfl (by simp[fX]) (by unfold maxLen;omega) (by omega) (bF _) ?_);intro N y a f d;obtain⟨I,L,rfl,_,_,_⟩:=cu a;obtain⟨b,t⟩:=MM (o:=o) s.out B.out a f d;have z:=af t;have J:y.frozen? ⟨p,o,ah⟩=au:=b.frozen o;have K:y.cell? ⟨p,o,ah⟩=ae (.slice A n c):=(b.cell o).trans ((s.out.cell o).symm.trans D);clear t b a f d;go_wp2_with fail
 go_end0
 exact⟨rfl,z.out⟩
def Rk(p o:Nat)(T:az)(u:Array ak)(v:ak)(n:Nat)(y:List ak)(a b:Int)(w:ai)(C:cD w p T u)(J:u[o]? =ae v)(E:w.ownsRow 0 43 2 v n y)(s:v.ownBlock≠ae p)(hl:n<=100000):Calls aj 215 #[.pointer (ae ⟨p,o,ah⟩),.agg #[.int .i64 a,.int .i64 b]] w λe x=>e=.returned (.tuple #[])/\mP w x p T u o v 43 2 (n+1) (y++[.int .i64 a,.int .i64 b]):=by
 obtain⟨A,c,rfl,W,X,_⟩:=cu E;have O:=af E;have z:=af C;have N:=af s;have t:w.cell? ⟨p,o,ah⟩=ae (.slice A n c):=(C.cell o).trans J;obtain⟨i0,D,F,G,H⟩:=info_parts C3;clear E C s J;go_enter func215,ntmps215;go_upto_region 1 with(fail)
 have Z:=z.out.lt;refine b9 (λx=>cD x w.heap.size 43 (ints [a,b])/\Below w.heap.size w x) ⟨cD.new _ _ _,(Below.refl _ _).alloc (av _) _⟩ ?_;rintro i ⟨q,g⟩;have r1:row? i w.heap.size 0 2=ae #[.int .i64 a,.int .i64 b]:=q.bw rfl;have B:Hid (i.ownsRow 0 43 2 (.slice A n c) n y):=mW O.out g;have f:Hid (cD i p T u):=z.out.after g;have t:i.cell? ⟨p,o,ah⟩=ae (.slice A n c):=(f.out.cell o).trans ((z.out.cell o).symm.trans t);have P:(i.alloc (.cells #[.int .i64 a,.int .i64 b] 43)).cell? ⟨p,o,ah⟩=ae (.slice A n c):=(((Below.refl _ i).alloc (av _) _).cell (p:=⟨p,o,ah⟩) f.out.lt).trans t;have l:=af g;clear q g
 go_region_law (refine Gt (w:=i.drew) rfl (.tmp 8) (.tmp 10) 122 rfl 0 43 i0 _ 2 16 underlying122 D F G H rfl (by decide) (.slice A n c) n y (by simp[Act.eval,Act.put]) B.out [.int .i64 a,.int .i64 b] (by simp[Act.eval,Act.put]) rfl (by simp[fX]) (by unfold maxLen;omega) (by omega) (bF _) ?_;intro K L d r m;obtain⟨A4,c4,rfl,_,_,_⟩:=cu d;obtain⟨j,I⟩:=MM (w:=i.drew) (o:=o) f.out.drew N.out d r m;have M:=af I;have c2:L.frozen? ⟨p,o,ah⟩=au:=j.frozen o;have c3:L.cell? ⟨p,o,ah⟩=ae (.slice A n c):=(j.cell o).trans ((f.out.cell o).symm.trans t);clear I j d r m)
 all_goals
  go_wp2_with fail
  go_end0
  refine⟨rfl,?_⟩;obtain⟨K,Q,R,S,U,V⟩:=M.out;exact⟨K,Q,R,S,λk Y=>by rcases U k Y with h|h;exact bt h;exact bW (be l.out.size h),(cY.fR l.out).trans (cY.refl.drew.trans V)⟩
def Jp(p o:Nat)(T:az)(y:Array ak)(v:ak)(j:List (Int×Int))(k:Nat)(w:ai)(Q:cD w p T y)(hv:y[o]? =ae v)(I:w.ownsRow 0 43 2 v j.length (j.flatMap hC))(E:v.ownBlock≠ae p)(H:j.length<=100000)(R:k<j.length):Calls aj 217 #[.pointer (ae ⟨p,o,ah⟩),.int .i64 k] w λe S=>e=.returned (.agg (ints (hL (j.getD k (0,0)))))/\mP w S p T y o v 43 2 (j.length-1) (((j.set k (j.getD (j.length-1) (0,0))).take (j.length-1)).flatMap hC):=by
 obtain⟨A,c,rfl,Y,Z,hA⟩:=cu I;obtain⟨g,rfl⟩:=hA (by omega);obtain⟨m,hm⟩:∃m,j.length=m+1:=⟨j.length-1,by omega⟩;have hgp:g≠p:=λe=>E (by rw[e];rfl)
 have XH:(k:Int)<(m:Int)+1:=by omega
 have hmc:(m:Int)+1<=c:=by omega
 have hcc:(c:Int)<=9223372036854775807:=by unfold maxLen at Z;omega
 have M:=(kI I g rfl).2;have r1:row? w g (k *2) 2=ae (ints (hL (j.getD k (0,0)))):=by rw[kD I R,k8 xn j k R];simp[bm,aq R];rfl
 have r2:row? w g (m *2) 2=ae (ints (hL (j.getD m (0,0)))):=by rw[kD I (show m<j.length by omega),k8 xn j m (by omega)];simp[bm,aq (show m<j.length by omega)];rfl
 have U:=af Q;have HO:=af I;have HN:=af E;have hp:=Q.lt;have W:w.cell? ⟨p,o,ah⟩=ae (.slice (ae ⟨g,0,ah⟩) (m+1) c):=by rw[<-hm];exact(Q.cell o).trans hv
 have HM:=af hm;have HK:=af R;rw[hm,Nat.add_sub_cancel];clear I Q E hv hm H Y;generalize hx1:j.getD k (0,0)=x1 at *;generalize O:j.getD m (0,0)=x2 at *;have HX2:=af O;obtain⟨b,d⟩:=x1;obtain⟨f,i⟩:=x2;change row? w g (k *2) 2=ae (ints [b,d])at r1;change row? w g (m *2) 2=ae (ints [f,i])at r2;clear hx1 O;go_enter func217,ntmps217;go_upto_region 1 with(fail)
 refine b9 (λS=>cD S w.heap.size 43 (ints [0,0])/\Below w.heap.size w S) ⟨cD.new _ _ _,(Below.refl _ _).alloc (av _) _⟩ ?_;rintro l ⟨C,n⟩;have f1:fits l w.heap.size 0 2=ar:=C.fits 0 2 (by decide);have q1:row? l g (k *2) 2=ae (ints [b,d]):=(fT n M _ _).trans r1;have q2:row? l g (m *2) 2=ae (ints [f,i]):=(fT n M _ _).trans r2;have c1:l.cell? ⟨p,o,ah⟩=ae (.slice (ae ⟨g,0,ah⟩) (m+1) c):=(n.cell (p:=⟨p,o,ah⟩) hp).trans W;have D:k<j.length:=HK.out;have r:l.ownsRow 0 43 2 (.slice (ae ⟨g,0,ah⟩) j.length c) j.length (j.flatMap hC):=mW HO.out n;have N:g≠w.heap.size:=by omega
 have F:p≠w.heap.size:=by omega
 have t:cY (· =w.heap.size) l (putRow l w.heap.size 0 [b,d]):=cY.putRow _ _ _ _;have s:(putRow l w.heap.size 0 [b,d]).ownsRow 0 43 2 (.slice (ae ⟨g,0,ah⟩) j.length c) j.length (j.flatMap hC):=t.own r λq u=>by simp[fC]at u;omega
 have f2:fits l g (k *2) 2=ar:=I8 r D;have hmm:(m:Int)<(m:Int)+1:=by omega
 have z:cD (putRow l w.heap.size 0 [b,d]) p T y:=t.blk (U.out.after n) F;have X:(putRow l w.heap.size 0 [b,d]).cell? ⟨p,o,ah⟩=ae (.slice (ae ⟨g,0,ah⟩) (m+1) c):=(z.cell o).trans ((U.out.cell o).symm.trans W);have q2':row? (putRow l w.heap.size 0 [b,d]) g (m *2) 2=ae (ints [f,i]):=by unfold row? at q2|-;rw[t.block g (by have:=n.size;omega) N];exact q2
 have f3:fits (putRow l w.heap.size 0 [b,d]) g (k *2) 2=ar:=I8 s D;have J:Hid (cD (putRow (putRow l w.heap.size 0 [b,d]) g (k *2) [f,i]) w.heap.size 43 (ints [b,d])/\
  (putRow (putRow l w.heap.size 0 [b,d]) g (k *2) [f,i]).ownsRow 0 43 2 (.slice (ae ⟨g,0,ah⟩) j.length c) j.length ((j.set k (f,i)).flatMap hC)/\
  cD (putRow (putRow l w.heap.size 0 [b,d]) g (k *2) [f,i]) p T y/\cY (λq=>q=p\/q=g) w (putRow (putRow l w.heap.size 0 [b,d]) g (k *2) [f,i])):=by
  refine⟨(C.eZ [b,d] rfl).wE _ _ (kG N),?_,z.wE _ _ (kG hgp),?_⟩;have:=Wd (enc:=hL) (λ_=>rfl) s D (f,i);exact this;refine((cY.fR n).trans' t λq u e=>absurd e (by omega)).trans' (cY.putRow _ g _ _) λq u e=>bW e
 clear r s t z;go_wp2_with fail
 go_region
 clear c1 X q1 q2 q2' f1 f2 f3 C n;obtain⟨h1,h2,P,h4⟩:cD (putRow (putRow l w.heap.size 0 [b,d]) g (k *2) [f,i]).drew w.heap.size 43 (ints [b,d])/\
  (putRow (putRow l w.heap.size 0 [b,d]) g (k *2) [f,i]).drew.ownsRow 0 43 2 (.slice (ae ⟨g,0,ah⟩) j.length c) j.length ((j.set k (f,i)).flatMap hC)/\
  cD (putRow (putRow l w.heap.size 0 [b,d]) g (k *2) [f,i]).drew p T y/\cY (λq=>q=p\/q=g) w (putRow (putRow l w.heap.size 0 [b,d]) g (k *2) [f,i]).drew:=
  ⟨J.out.1,J.out.2.1,J.out.2.2.1,J.out.2.2.2.drew⟩
 clear J;generalize (putRow (putRow l w.heap.size 0 [b,d]) g (k *2) [f,i]).drew=x at *;have c4:x.cell? ⟨p,o,ah⟩=ae (.slice (ae ⟨g,0,ah⟩) (m+1) c):=(P.cell o).trans ((U.out.cell o).symm.trans W);have c5:x.frozen? ⟨p,o,ah⟩=au:=P.frozen o;have H:=h1.uW (g':=p) (kG F) o (.slice (ae ⟨g,0,ah⟩) m c);have c6:row? (x.setCell ⟨p,o,ah⟩ (.slice (ae ⟨g,0,ah⟩) m c)) w.heap.size 0 2=ae (ints [b,d]):=H.bw rfl;have c7:fits (x.setCell ⟨p,o,ah⟩ (.slice (ae ⟨g,0,ah⟩) m c)) w.heap.size 0 2=ar:=H.fits 0 2 (by rw[bN];exact av 2);have hN:(di (ae ⟨g,0,ah⟩) (m+1) c).ownBlock≠ae p:=HN.out;have K:x.ownsRow 0 43 2 (.slice (ae ⟨g,0,ah⟩) m c) m (((j.set k (f,i)).take m).flatMap hC):=by have:=Nw h2 (m:=m) (by have:=HM.out;omega);rwa[tY xn]at this
 have L:=ownsRow_setCell_other (a:=⟨p,o,ah⟩) K hN (.slice (ae ⟨g,0,ah⟩) m c);have B:cY (· =w.heap.size) (x.setCell ⟨p,o,ah⟩ (.slice (ae ⟨g,0,ah⟩) m c)) (putRow (x.setCell ⟨p,o,ah⟩ (.slice (ae ⟨g,0,ah⟩) m c)) w.heap.size 0 [b,d]):=cY.putRow _ _ _ _;have HE:Hid (mP w (putRow (x.setCell ⟨p,o,ah⟩ (.slice (ae ⟨g,0,ah⟩) m c)) w.heap.size 0 [b,d]) p T y o (.slice (ae ⟨g,0,ah⟩) (m+1) c) 43 2 m (((j.set k (f,i)).take m).flatMap hC)):=by refine⟨.slice (ae ⟨g,0,ah⟩) m c,(P.set o _).wE _ _ F,B.own L (λq u=>by simp[fC]at u;omega),hN,λq u=>bt u,?_⟩;refine((h4.mono (G:=λq=>q=p\/(di (ae ⟨g,0,ah⟩) (m+1) c).ownBlock=ae q) λq _ u=>by rcases u with h|h;exact bt h;exact bW (by rw[h];rfl)).setCell (g:=p) (bt (bt rfl)) o _).trans' B λq u e=>absurd e (by omega)
 have V:Hid (cD (putRow (x.setCell ⟨p,o,ah⟩ (.slice (ae ⟨g,0,ah⟩) m c)) w.heap.size 0 [b,d]) w.heap.size 43 (ints [b,d])):=H.eZ [b,d] rfl;clear h1 h2 P h4 H K L B;go_wp2_with fail;refine rP rfl w.heap.size 43 (ints [b,d]) _ rfl V.out underlying43 rfl (by rw[bN];exact dX) rfl ⟨rfl,?_⟩;exact HE.out
def Jq(p o:Nat)(T:az)(j:Array ak)(v:ak)(b:List Int)(k:Nat)(w:ai)(l:cD w p T j)(y:j[o]? =ae v)(h:w.ownsRow 0 3 1 v b.length (b.flatMap λx=>[aS .i64 x]))(d:v.ownBlock≠ae p)(H:b.length<=100000)(n:k<b.length):Calls aj 218 #[.pointer (ae ⟨p,o,ah⟩),.int .i64 k] w λe K=>e=.returned (.int .i64 (b.getD k 0))/\mP w K p T j o v 3 1 (b.length-1) (((b.set k (b.getD (b.length-1) 0)).take (b.length-1)).flatMap λx=>[aS .i64 x]):=by
 obtain⟨A,c,rfl,s,t,D⟩:=cu h;obtain⟨g,rfl⟩:=D (by omega);obtain⟨m,hm⟩:∃m,b.length=m+1:=⟨b.length-1,by omega⟩;have f:∀x:Int,([aS .i64 x]:List ak).length=1:=λ_=>rfl
 have L:w.cell? ⟨p,o,ah⟩=ae (.slice (ae ⟨g,0,ah⟩) (m+1) c):=by rw[<-hm];exact(l.cell o).trans y
 have M:w.frozen? ⟨p,o,ah⟩=au:=l.frozen o;have N:w.cell? ⟨g,k,ah⟩=ae (.int .i64 (b.getD k 0)):=by rw[World.ownsRow.cellAt h k (by omega),<-Nat.mul_one k,<-kq (k *1),oZ f b k 0 n (by omega)];simp[bm,aq n]
 have O:w.cell? ⟨g,m,ah⟩=ae (.int .i64 (b.getD m 0)):=by rw[World.ownsRow.cellAt h m (by omega),<-Nat.mul_one m,<-kq (m *1),oZ f b m 0 (by omega) (by omega)];simp[bm,aq (show m<b.length by omega)]
 have P:w.frozen? ⟨g,k,ah⟩=au:=World.ownsRow.frozenAt h k;have u:g≠p:=λe=>d (by rw[e];rfl)
 have i:p≠g:=λe=>u e.symm
 have G:(k:Int)<(m:Int)+1:=by omega
 have I:(m:Int)+1<=c:=by omega
 have E:(c:Int)<=9223372036854775807:=by unfold maxLen at t;omega
 have C:Hid (mP w ((w.setCell ⟨g,k,ah⟩ (.int .i64 (b.getD m 0))).setCell ⟨p,o,ah⟩ (.slice (ae ⟨g,0,ah⟩) m c)).drew p T j o (.slice (ae ⟨g,0,ah⟩) (m+1) c) 3 1 m (((b.set k (b.getD m 0)).take m).flatMap λx=>[aS .i64 x])):=by
  have z:=(World.ownsRow.stored h (k *1) (aS .i64 (b.getD m 0))).1;rw[<-kq (k *1),qS f b k 0 (b.getD m 0) _ n (by omega) rfl,kq,Nat.mul_one]at z;rw[hm]at z;have B:=Nw z (m:=m) (by omega);rw[tY f]at B;have r:cY (λq=>q=p\/(di (ae ⟨g,0,ah⟩) (m+1) c).ownBlock=ae q) w ((w.setCell ⟨g,k,ah⟩ (.int .i64 (b.getD m 0))).setCell ⟨p,o,ah⟩ (.slice (ae ⟨g,0,ah⟩) m c)):=((cY.refl (F:=λq=>q=p\/(di (ae ⟨g,0,ah⟩) (m+1) c).ownBlock=ae q)).setCell (g:=g) (bt (bW rfl)) k _).setCell (g:=p) (bt (bt rfl)) o _
  exact⟨_,((l.uW i _ _).set o _).drew,ownsRow_setCell_other (a:=⟨p,o,ah⟩) B (by rw[hm]at d;exact d) _,by rw[hm]at d;exact d,λq J=>bt J,r.drew⟩
 have HM:=af hm;rw[hm,Nat.add_sub_cancel];rw[hm]at y h d H s n;clear h l d y f hm;generalize b.getD k 0=Q at *;generalize b.getD m 0=R at *;go_enter func218,ntmps218;go_wp2_with fail
 go_region
 go_wp2_with fail;go_ret;exact⟨rfl,C.out⟩
def b8(p:Nat)(a:List (Int×Bool)):bU:=Z8 170 172 2 rB p a
end
section
open Rel
def ta:List bG:=[11,12,14,15,16,17,18,19,21,24,25,26,27,28,29,30,32,33,31,76,34,35,36,37,38,39,40,42,43,44,45,46,49,50,51,52,53,54,55,56,57,58,59,60,61,62,63,64,65,66,67,68,69,70,71,72,73,74,75,77,78,79,80,81,82,83,84,85,86,87,88,89,90,91,92,93,94,95,96,97,98,99,100,101,102,103,107,108,109,110,111,112,113,114,115,116,117,118,119,120,121,122,123,124,125,126,127,128,129,130,131,132,133,134,135,136,137,138,140,141,142,143,144,145,146,147,148,149,150,151,152,167,168,169,170,171,172,173,174,175,176,177,178,179,180,181,182,183,184,185,186,187,188,189,190,191,192,193,194,195,196,197,198,199,200,201,202,213,214,215,216,217,218,219,220,221,222,223,224,225,226,227,228,229,230,231,232,233,234,238,239,240,241,242,243,244,245,246,247,248,249]
def SF:List az:=[2,3,5,12,21,27,184,187,230,256,289]
def RO(f:bG):Bool:=f==139
def cfg(_:bG->List Tmp)(old:Nat):fg:={fn:=λf=>ta.contains f,int:=λt=>SF.contains t,old:=old,ext:=RO}
def aaC:List (bG×List (Tmp×Kd)):=[(36,[(0,.sl 54),(11,.sl 54),(14,.sl 54),(18,.pt 54),(26,.sl 54),(29,.sl 54),(34,.pt 54),(41,.sl 54),(43,.pt 54)]),(12,[(1,.sl 54),(12,.sl 54),(19,.sl 54),(23,.pt 54)]),(11,[(0,.sl 74),(9,.sl 74),(13,.pt 74)]),(24,[(0,.sl 74),(9,.sl 74),(13,.pt 74)]),(13,[(2,.sl 54),(23,.sl 54),(35,.sl 54),(40,.pt 54)]),(3,[(0,.sl 74),(1,.sl 54),(13,.sl 74),(15,.sl 74),(24,.sl 54),(30,.sl 54),(44,.sl 54)]),(5,[(0,.sl 74),(1,.sl 54),(17,.sl 74),(24,.sl 54),(66,.sl 54),(70,.pt 54)]),(4,[(0,.sl 74),(1,.sl 54),(13,.sl 74),(15,.sl 74),(24,.sl 54),(33,.sl 54),(38,.sl 54),(40,.sl 54),(45,.sl 54),(47,.sl 54)]),(9,[(0,.sl 74),(1,.sl 74),(2,.sl 54),(22,.sl 74),(29,.sl 74),(33,.pt 74),(43,.sl 54)]),(59,[(0,.sl 54),(12,.sl 54),(15,.sl 54),(19,.pt 54),(27,.sl 54),(32,.pt 54),(38,.sl 54),(40,.pt 54)]),(26,[(1,.sl 54),(11,.sl 54),(26,.sl 54),(30,.pt 54)]),(7,[(0,.sl 74),(1,.sl 54),(14,.sl 74),(20,.sl 74),(24,.pt 74),(34,.sl 54),(38,.sl 54)]),(49,[(1,.sl 74),(15,.sl 74),(24,.sl 74),(29,.pt 74),(86,.sl 74)]),(22,[(0,.sl 74),(14,.sl 74)]),(20,[(1,.any),(3,.any),(17,.any),(20,.any),(23,.any),(27,.any),(29,.any)]),(6,[(0,.any),(22,.any),(29,.any),(38,.any),(44,.any),(68,.any),(75,.any),(82,.any),(86,.any),(91,.any),(92,.sl 74),(17,.sl 74),(94,.sl 74)]),(41,[(21,.any)])]
def uS(f:bG):List Tmp:=((aaC.lookup f).getD []).map (·.1)
def kdM(f:bG)(t:Tmp):Kd:=(((aaC.lookup f).getD []).lookup t).getD .any
def RI(t:az):Option az:=if t=22 then ae 74 else if t=23 then ae 54 else ah
def Ii(t:az):Option Nat:=if t=74 then ae 16 else if t=54 then ae 7 else ah
structure oM where
 n:Nat
 mem:Addr->Option Int
 lt:∀a x,mem a=ae x->a.block<n
def oM.none:oM:=⟨0,λ_=>Option.none,by intro a x h;cases h⟩
def ey(O:oM):fg:={fn:=λf=>ta.contains f,int:=λt=>SF.contains t,bd:=uS,kd:=kdM,old:=O.n,mem:=O.mem,FC:=O.lt,elem:=RI,flat:=Ii,ext:=RO}
def Yt:fg:={fn:=λf=>ta.contains f,int:=λt=>SF.contains t,ext:=RO}
noncomputable def Xy(f:bG):Bool:=match Tryz.prog.funcs[f]? with
 |some F=>match F.body with|some b=>dj Yt b&&dj ((ey oM.none).at f) b&&(F.name != "runtime.NumGoroutine")&&F.results.toList.all (oc (uS f))|none=>au
 |none=>au
noncomputable def X7(t:az):Bool:=match (Tryz.prog.types[t]?).bind (·.zero)with|some v=>mJ v|none=>ar
def Sg:ta.all Xy=ar:=by decide+kernel
def VS:(SF.all λt=>match Tryz.prog.underlying t with|some (.int _)=>ar|_=>au)=ar:=by decide+kernel
def Xi:((a6 Tryz.prog.types.size).all X7)=ar:=by decide+kernel
def RP(f:bG)(h:RO f=ar):∃F,Tryz.prog.funcs[f]? =ae F/\F.name≠ "runtime.NumGoroutine" /\F.body=ah/\Extern.findNext F=ah/\Extern.find F=ae Extern.MapsClone.clone:=by
 obtain rfl:f=139:=by simpa[RO]using h
 exact⟨_,func139,by decide,rfl,by kernel_rfl,by kernel_rfl⟩
def M9{f:bG}(h:ta.contains f=ar):∃F b,Tryz.prog.funcs[f]? =ae F/\F.body=ae b/\dj Yt b=ar/\dj ((ey oM.none).at f) b=ar/\F.name≠ "runtime.NumGoroutine" /\F.results.toList.all (oc (uS f))=ar:=by
 have:=lM.1 Sg f (by simpa using h);unfold Xy at this;cases c:Tryz.prog.funcs[f]? with
 |none=>rw[c]at this;cases this|some F=>
  rw[c]at this;cases a:F.body with|none=>simp only[a]at this;cases this|some b=>simp only[a,aG,bne_iff_ne,ne_eq]at this;exact⟨F,b,rfl,a,this.1.1.1,this.1.1.2,this.1.2,this.2⟩
def Nc{t:az}(b:SF.contains t=ar):∃k,Tryz.prog.underlying t=ae (.int k):=by
 have:=lM.1 VS t (by simpa using b);cases a:Tryz.prog.underlying t with
 |none=>rw[a]at this;cases this|some d=>rw[a]at this;cases d<;>first|exact⟨_,rfl⟩|cases this
def J7(t:az)(i:TypeInfo)(v:ak)(h:Tryz.prog.info? t=ae i)(b:i.zero=ae v):Rel.gd 6 v=ar:=by refine QE (λt i v h b=> ?_) t i v h b;have a:=(aE.1 h).1;have:=lM.1 Xi t (gm.2 a);unfold X7 at this;rw[h]at this;simp only[kH,b]at this;exact this
def Hp(a:bG->List Tmp)(old:Nat):(cfg a old).Fits aj:=by refine⟨λf l=> ?_,λt m=>Nc m,J7,λt e h=>(by cases h),λt n h=>(by cases h),RP⟩;obtain⟨F,b,g,i,j,_,k,_⟩:=M9 l;exact⟨F,b,g,i,(yr (c:=(cfg a old).at f) (d:=Yt) rfl rfl rfl rfl rfl b).trans j,k,xv (c:=cfg a old) rfl F⟩
def jb(O:oM):(ey O).Fits aj:=by refine⟨λf m=> ?_,λt a=>Nc a,J7,λt e h=> ?_,λt n h=> ?_,RP⟩;obtain⟨F,b,g,i,_,j,k,l⟩:=M9 m;exact⟨F,b,g,i,(FK (c:=(ey O).at f) (d:=(ey oM.none).at f) rfl rfl rfl rfl rfl rfl rfl rfl b).trans j,k,l⟩;have h:RI t=ae e:=h;unfold RI at h;split at h;rename_i a;cases h;exact⟨by rw[a];exact underlying22,16,rfl⟩;split at h;rename_i a;cases h;exact⟨by rw[a];exact underlying23,7,rfl⟩;cases h;have h:Ii t=ae n:=h;unfold Ii at h;split at h;rename_i a;cases h;exact⟨by rw[a];exact⟨_,rfl,rfl⟩,by rw[a];exact⟨_,underlying74⟩⟩;split at h;rename_i a;cases h;exact⟨by rw[a];exact⟨_,rfl,rfl⟩,by rw[a];exact⟨_,underlying54⟩⟩;cases h
def Zs{a:bG->List Tmp}{old:Nat}{O:oM}{e:Ren}{o b:Obj}(h:ic (cfg a old).sig e o b):ic (ey O).sig e o b:=ic.sig (S:=(cfg a old).sig) (S':=(ey O).sig) (λ_ h=>h) (λx f=>(yr (c:=(ey O).cl) (d:=(cfg a old).cl) rfl rfl rfl rfl rfl x).trans f) h
end
section
open Go.RowKit
structure oK(w:ai) (p b:Nat) (m:ja):Prop where
 ok:jA m
 blk:cD w p 175 #[.map (ae b)]
 map:ew mv mv (λ_=>True) w b m
def oK.after{w c:ai}{p b:Nat}{m:ja}(h:oK w p b m)(a:Below w.heap.size w c):oK c p b m:=⟨h.ok,h.blk.after a,h.map.after a⟩
def In.ZI{G:Nat->Prop}{c w:ai}{l:List bU}{p:Nat}{m:ja}(h:In G c (jy p m::l) w):∃b,oK w p b m:=by obtain⟨hm,b,a⟩:=h.sd;exact⟨b,hm,a.blk,a.swap.gZ⟩
def jD(m:ja)(c:Hd):Hd×Bool:=((eI m c).getD (0,0),(eI m c).isSome)
def o6{w:ai}{b:Nat}{m:ja}(h:ew mv mv (λ_=>True) w b m)(c:Hd){a:ai}(d:Below w.heap.size w a):(kE 173 (.map (ae b)) (mv c) ar).run aj a=.ok (.tuple #[mv (jD m c).1,.bool (jD m c).2]) a:=by have:=(h.after d).look Am underlying173 (J6 a) (x:=c) trivial ar;rw[this];unfold jD;cases eI m c<;>rfl
section
variable{G:Nat->Prop} {Z w:ai} {l:List bU} {p:Nat} {m:ja}
def M3(h:In G Z l w):Calls aj 86 #[] w λe c=>∃p,e=.returned (.pointer (ae ⟨p,0,ah⟩))/\In G Z (jy p []::l) c:=by have H:=af h;clear h;have b:= @run_makeMap aj;go_enter func86,ntmps86;go_wp2_with fail;go_ret;have a:=(H.out.FH mv mv (λ_=>True)).alloc 175 #[.map (ae w.heap.size)];rw[cR]at a;exact⟨_,rfl,In.oA jA.nil a⟩
end
def Il{p b:Nat}{m:ja}(c:Hd)(w:ai)(h:oK w p b m):Calls aj 168 #[.pointer (ae ⟨p,0,ah⟩),mv c] w λe f=>e=.returned (.tuple #[mv (jD m c).1,.bool (jD m c).2])/\Below w.heap.size w f:=by
 have A:=af h;clear h;obtain⟨j,k⟩:=c;rw[jI];go_enter func168,ntmps168;go_upto_region 1 with(fail)
 refine b9 (λf=>cD f (w.heap.size+1) 43 (ints [0,0])/\cD f w.heap.size 43 (ints (hL (j,k)))/\Below w.heap.size w f) ⟨by have:=cD.new (w.alloc (.cells (ints (hL (j,k))) 43)) 43 (ints [0,0]);rwa[cR]at this,(cD.new w _ _).alloc _,((Below.refl _ _).alloc (av _) _).alloc (by simp) _⟩ ?_
 rintro a ⟨B,hC,x⟩;have d:=A.out.after x;have I:a.cell? ⟨p,0,ah⟩=ae (.map (ae b)):=d.blk.cell 0;have J:row? a w.heap.size 0 2=ae #[.int .i64 j,.int .i64 k]:=hC.bw rfl;have n:=o6 d.map (j,k) (Below.refl _ _).drew;have o:=o6 d.map (j,k) (((Below.refl _ a).alloc (av _) (.cells #[.int .i64 0,.int .i64 0] 43)).drew);have l:=(Below.refl a.heap.size a).alloc (av _) (.cells #[.int .i64 0,.int .i64 0] 43);have K:row? (a.alloc (.cells #[.int .i64 0,.int .i64 0] 43)) w.heap.size 0 2=ae #[.int .i64 j,.int .i64 k]:=(hC.after l).bw rfl;have L:(a.alloc (.cells #[.int .i64 0,.int .i64 0] 43)).cell? ⟨p,0,ah⟩=ae (.map (ae b)):=(d.blk.after l).cell 0;have F:=af B;have z:=af x;have G:w.heap.size<=w.heap.size+1:=Nat.le_succ _;rw[jI]at n o;generalize C:jD m (j,k)=r at *;have v:=af C;clear C;obtain⟨⟨g,i⟩,H⟩:=r;simp only[jI]at n o;clear B hC x d A l;generalize w.heap.size+1=t at *
 go_region
 all_goals
  go_upto_region 2 with(fail)
  refine b9 (λf=>cD f a.heap.size 43 (ints [g,i])/\cD f t 43 (ints [0,0])/\Below w.heap.size w f) ⟨(jU a 43 [0,0] [g,i] rfl).drew,(F.out.after (eU a 43 [0,0] [g,i])).drew,(z.out.trans ((eU a 43 [0,0] [g,i]).mono z.out.size)).drew⟩ ?_;generalize a.heap.size=M at *;rintro y ⟨D,q,s⟩;have O:row? y M 0 2=ae (ints [g,i]):=D.bw rfl;have N:fits y t 0 2=ar:=q.fits 0 2 (by rw[bN];decide);have E:=af (q.eZ [g,i] rfl);have u:Hid (Below w.heap.size w (putRow y t 0 [g,i])):=k7 s (by omega) 0 _;clear D q s n o I J K L;go_wp2_with fail;refine cx rfl t 43 (ints [g,i]) (.bool H) _ rfl rfl E.out underlying43 rfl (by rw[bN];exact dX) rfl ?_;rw[v.out];exact⟨rfl,u.out⟩
def Ab(h:Hd)(x:Hd×Hd):Bool:=decide (x.1=h)||decide (x.2=h)
def YM(a b:Hd):decide (hL a=hL b)=decide (a=b):=by rw[mF,decide_eq_true_eq,decide_eq_true_eq];exact⟨Sn,λe=>by rw[e]⟩
def OW(x v h:Hd)(k:Nat)(w:ai)(o:cD w k 43 (ints (hL h))):Calls aj 179 #[mv x,mv v,.pointer (ae ⟨k,0,ah⟩)] w λe i=>e=.returned (.bool (Ab h (x,v)))/\Below w.heap.size w i:=by
 have m:=af o;clear o;have f:∀(a b:Hd)(W:ai),(binOp .eql 43 (.agg (ints (hL a))) (.agg (ints (hL b)))).run aj W=.ok (.bool (decide (a=b))) W:=λa b W=>by rw[uV _ _ rfl rfl W,YM]
 have n:=f x h;have s:=f v h;have j:Hid (Ab h (x,v)=(decide (x=h)||decide (v=h))):=rfl;clear f;go_enter func179,ntmps179;go_upto_region 1 with(fail)
 refine b9 (λi=>cD i (w.heap.size+1) 43 (ints (hL v))/\cD i w.heap.size 43 (ints (hL x))/\Below w.heap.size w i) ⟨by have:=cD.new (w.alloc (.cells (ints (hL x)) 43)) 43 (ints (hL v));rwa[cR]at this,(cD.new w _ _).alloc _,((Below.refl _ _).alloc (av _) _).alloc (by simp) _⟩ ?_
 rintro l ⟨p,q,d⟩;have g:=af d;have u:row? l (w.heap.size+1) 0 2=ae (ints (hL v)):=p.bw rfl;have y:row? l w.heap.size 0 2=ae (ints (hL x)):=q.bw rfl;have z:row? l k 0 2=ae (ints (hL h)):=(m.out.after d).bw rfl;clear p q d m;generalize hL x=B at *;generalize hL v=vs at *;generalize hL h=t at *;generalize w.heap.size+1=A at *;cases c:decide (x=h)
 ·rw[c]at n j;clear c;generalize decide (v=h)=r at *;go_wp2_with fail;go_ret;exact⟨dw (by rw[j.out];rfl),g.out⟩
 ·rw[c]at n j;clear c s;generalize decide (v=h)=r at *;go_wp2_with fail;go_ret;exact⟨dw (by rw[j.out];rfl),g.out⟩
def GF{j A:Type}[DecidableEq j]{P:Program}{k:az}{l:j->ak}{v:A->ak}{c:j->Prop}{w:ai}(K:me P k l c){i:Array Oper}{d:List Oper}{o:Oper}{a:Act}{Q:Exit->Act->ai->Prop}(p:o.guard=ah)(y z:Operand)(t e:az)(s:o.op=Op.call {callee:=Callee.builtin Builtin.delete,args:=#[y,z],argTypes:=#[t,k]})(F:P.underlying t=ae (.map k e))(b r:Nat)(m left:List (j×A))(hm:a.eval y=.map (ae b))(h:dz l v c w b r m left)(x:j)(G:a.eval z=l x)(q:c x)(u:x∉bM left)(E:∀f,dz l v c f b r (eo m x) left->cY (· =b) w f->f.heap.size=w.heap.size->wpList P i Q d (a.put o.dst (.tuple #[])) f):wpList P i Q (o::d) a w:=by
 refine wpList_plain p λH n=> ?_
 obtain⟨f,g,B,C,D⟩:=h.drop K F q u o.type;unfold Oper.wp;simp[execOp,s,resolve,invoke,builtin,hm,G,g,Result.andThen];exact n _ _ (E f B C D)
def k9(m:ja)(h:Hd)(left:ja):ja:=m.filter λx=>decide (x.1∈bM left)|| !Ab h x
def C2(m:ja)(h:Hd):k9 m h m=m:=by unfold k9;rw[List.filter_eq_self];intro x a;rw[decide_eq_true (show x.1∈bM m from aI.2 ⟨x,a,rfl⟩)];rfl
def Iq(m:ja)(h:Hd):k9 m h []=nH m h:=by unfold k9 nH Ab;apply List.filter_congr;intro x _;simp[bM]
def nw{left:ja}{x y:Hd}:y∈bM (eo left x)↔y∈bM left/\y≠x:=by unfold bM;simp only[aI];constructor;rintro⟨p,hp,rfl⟩;have:=fQ.1 hp;exact⟨⟨p,this.1,rfl⟩,this.2⟩;rintro⟨⟨p,hp,rfl⟩,a⟩;exact⟨p,fQ.2 ⟨hp,a⟩,rfl⟩
def Fq{m left:ja}{h x v:Hd}(b:(bM m).Nodup)(c:(x,v)∈m)(a:Ab h (x,v)=au):k9 m h (eo left x)=k9 m h left:=by unfold k9;apply List.filter_congr;intro y d;by_cases e:y.1=x;have:y=(x,v):=nC b y d (x,v) c e;rw[this,a];simp;congr 1;rw[mF,decide_eq_true_eq,decide_eq_true_eq,nw];exact⟨λh=>h.1,λh=>⟨h,e⟩⟩
def Fp{m left:ja}{h x v:Hd}(c:(bM m).Nodup)(d:(x,v)∈m)(b:Ab h (x,v)=ar):eo (k9 m h left) x=k9 m h (eo left x):=by
 unfold k9 eo;rw[List.filter_filter];apply List.filter_congr;intro y f;by_cases e:y.1=x;have:y=(x,v):=nC c y f (x,v) d e;have a:decide (y.1∈bM (eo left x))=au:=by rw[decide_eq_false_iff_not,nw];exact λh=>h.2 e
 rw[show(List.filter (λp:Hd×Hd=> !decide (p.1=x)) left)=eo left x from rfl,a,this,b];simp;have a:decide (y.1∈bM (eo left x))=decide (y.1∈bM left):=by rw[mF,decide_eq_true_eq,decide_eq_true_eq,nw];exact⟨λh=>h.1,λh=>⟨h,e⟩⟩
 rw[show(List.filter (λp:Hd×Hd=> !decide (p.1=x)) left)=eo left x from rfl,a];simp[e]
def CX{G:Nat->Prop}{I w:ai}{l:List bU}{b r:Nat}{m:ja}(Y:(bM m).Nodup)(h:Hd)(v:In G I (wZ b m::a8 r 43 (ints (hL h))::l) w):Calls aj 178 #[.map (ae b),.func (.func 179) #[] #[.pointer (ae ⟨r,0,ah⟩)]] w λe H=>e=.returned (.tuple #[])/\In G I (wZ b (nH m h)::a8 r 43 (ints (hL h))::l) H:=by
 have o:=af v;have U:=af Y;clear v Y;go_enter func178,ntmps178;go_wp2_with (at_range;go_loud (refine iJ rfl _ 173 43 rfl underlying173 b _ rfl (In.gZ o.out) ?_));intro w6 B x D;have g:=af (In.AX o.out B x D);generalize w.heap.size=t at *;clear B x D o;go_wp2_with fail;go_loopw [9] (λ_ H=>∃left,(∀q∈left,q∈m)/\In G I (ie mv mv (λ_=>True) b t (k9 m h left) left::a8 r 43 (ints (hL h))::l) H) (λ_ H=>H.rangeLeft b t)
 case atStart=>exact⟨m,λ_ h=>h,by rw[C2];exact g.out⟩
 case round=>
  clear g;obtain⟨left,n,v⟩:=hrel;have s:=af v;have M:=af n;clear v n;go_wp2_with (at_next;go_loud (refine ko Am rfl _ rfl b t _ left rfl (In.rangeAt s.out) ?_ ?_))
  ·intro P;subst P;rw[Iq]at s;go_wp2_with fail
   go_end0
   exact⟨rfl,In.tK s.out⟩
  intro c d E F J S C A R k O;have g:=af (In.mC s.out C A);have V:=af (M.out _ S);have j:=af k;have HXL:=af S;clear C A R k S;obtain⟨f1,f2⟩:=Bt J 43 43 [0,0] [0,0] [c,d];go_upto_region 3 with(fail)
  refine b9 (In G I (a8 (J.heap.size+1) 43 (ints [E,F])::a8 J.heap.size 43 (ints [c,d])::ie mv mv (λ_=>True) b t (k9 m h left) (eo left (c,d))::a8 r 43 (ints (hL h))::l)) (g.out.Gu 43 43 [0,0] [0,0] [c,d] [E,F] rfl rfl) ?_;clear f1 f2 O g;generalize J.heap.size+1=vb;generalize J.heap.size=xb;intro T i;have q1:row? T xb 0 2=ae (ints [c,d]):=i.swap.blk.bw rfl;have q2:row? T vb 0 2=ae (ints [E,F]):=i.blk.bw rfl;have N:=i.fourth.blk;have u:=af i.third;clear i;go_wp2_with fail;refine(OW (c,d) (E,F) h r T N).mono ?_;rintro e Z ⟨rfl,y⟩;have p:=af (u.out.below y);have q1:row? Z xb 0 2=ae (ints [c,d]):=p.out.third.blk.bw rfl;have a:Hid (In G I (ie mv mv (λ_=>True) b t (k9 m h left) (eo left (c,d))::a8 r 43 (ints (hL h))::l) Z):=by have:=p.out.swap.drop.swap.drop;exact this
  clear y u q2 p;cases K:Ab h ((c,d),(E,F))
  ·have L:=af (Fq (left:=left) U.out V.out K);clear K;go_wp2_with fail;go_roundw
   case rel=>exact⟨eo left (c,d),λq Q=>M.out q (fQ.1 Q).1,by rw[L.out];exact a.out⟩
   rw[(In.rangeAt a.out).count,(In.rangeAt s.out).count];exact j.out
  have L:=af (Fp (left:=left) U.out V.out K);have z:(c,d)∉bM (eo left (c,d)):=λh=>(nw.1 h).2 rfl
  clear K;go_wp2_with (at_delete;go_loud (refine GF Am rfl _ _ 173 43 rfl underlying173 b t _ _ rfl (In.rangeAt a.out) (c,d) rfl trivial z ?_));intro w10 W X h3;have f:=af (In.Gb a.out W X);rw[L.out]at f;clear W X h3 a z;go_wp2_with fail;go_roundw
  case rel=>exact⟨eo left (c,d),λq Q=>M.out q (fQ.1 Q).1,f.out⟩
  rw[(In.rangeAt f.out).count,(In.rangeAt s.out).count];exact j.out
def R6{G:Nat->Prop}{j w:ai}{l:List bU}{p:Nat}{m:ja}(h:In G j (jy p m::l) w)(c:Hd):Calls aj 132 #[.pointer (ae ⟨p,0,ah⟩),mv c] w λe s=>e=.returned (.tuple #[])/\In G j (jy p (nH m c)::l) s:=by
 obtain⟨hm,b,a⟩:=h.sd;have HM:=af hm;have d:=af a;clear h hm a;obtain⟨g,i⟩:=c;rw[jI];go_enter func132,ntmps132;go_upto_region 1 with(fail)
 refine b9 (In G j (a8 w.heap.size 43 (ints [g,i])::a8 p 175 #[.map (ae b)]::wZ b m::l)) (d.out.alloc 43 (ints [g,i])) ?_;generalize w.heap.size=q;intro o a;have r:o.cell? ⟨p,0,ah⟩=ae (.map (ae b)):=a.swap.blk.cell 0;have n:Hid (In G j (wZ b m::a8 q 43 (ints (hL (g,i)))::a8 p 175 #[.map (ae b)]::l) o):=a.third;clear a d;go_wp2_with fail;refine(CX HM.out.nodup (g,i) n.out).mono ?_;rintro e t ⟨rfl,f⟩;have k:=af f;clear f n r;go_wp2_with fail
 go_end0
 exact⟨rfl,In.oA (HM.out.gone _) (k.out.third.swap.third.drop.swap)⟩
def KS{G:Nat->Prop}{A w:ai}{l:List bU}{p:Nat}{m:ja}(h:In G A (jy p m::l) w)(c:Hd):Calls aj 70 #[.pointer (ae ⟨p,0,ah⟩),mv c] w λe R=>e=.returned (.int .i64 (fy m c).2)/\In G A (jy p (fy m c).1::l) R:=by
 obtain⟨hm,b,i⟩:=h.sd;have HM:=af hm;have v:=af i;clear h hm i;obtain⟨a,d⟩:=c;rw[jI];go_enter func70,ntmps70;go_upto_region 1 with(fail)
 refine b9 (In G A (a8 w.heap.size 43 (ints [a,d])::a8 p 175 #[.map (ae b)]::wZ b m::l)) (v.out.alloc 43 (ints [a,d])) ?_;generalize w.heap.size=y;intro j i;have s:=(Below.refl j.heap.size j).alloc (av _) (.cells #[.int .i64 0,.int .i64 0] 43);have g:=i.third.gZ;have L:j.cell? ⟨p,0,ah⟩=ae (.map (ae b)):=i.swap.blk.cell 0;have M:row? j y 0 2=ae #[.int .i64 a,.int .i64 d]:=i.blk.bw (xs:=[a,d]) rfl;have N:row? (j.alloc (.cells #[.int .i64 0,.int .i64 0] 43)) y 0 2=ae #[.int .i64 a,.int .i64 d]:=(i.blk.after s).bw (xs:=[a,d]) rfl;have O:(j.alloc (.cells #[.int .i64 0,.int .i64 0] 43)).cell? ⟨p,0,ah⟩=ae (.map (ae b)):=(i.swap.blk.after s).cell 0;have t:=o6 g (a,d) (Below.refl _ _).drew;have u:=o6 g (a,d) (((Below.refl _ j).alloc (av _) (.cells #[.int .i64 0,.int .i64 0] 43)).drew);have D:=af i;rw[jI]at t u;have q:Hid ((jD m (a,d)).2=(eI m (a,d)).isSome):=rfl;generalize jD m (a,d)=r at *;obtain⟨⟨H,I⟩,K⟩:=r;simp only[jI]at t u q;clear i g s v;have f:Hid (∀n,n=(putRow (j.alloc (.cells (ints [0,0]) 43)) j.heap.size 0 [H,I]).drew->In G A (a8 p 175 #[.map (ae b)]::wZ b m::a8 y 43 (ints [a,d])::l) n):=λn e=>by rw[e];exact((D.out.below (eU j 43 [0,0] [H,I]).drew).perm ((cy _ _ _).trans ((cy _ _ _).cons _)))
 go_region
 all_goals
  go_upto_region 2 with(fail)
  refine b9 (In G A (a8 p 175 #[.map (ae b)]::wZ b m::a8 y 43 (ints [a,d])::l)) (f.out _ rfl) ?_;intro n k;have o:=af k;have P:n.cell? ⟨p,0,ah⟩=ae (.map (ae b)):=k.blk.cell 0;have Q:row? n y 0 2=ae #[.int .i64 a,.int .i64 d]:=k.third.blk.bw (xs:=[a,d]) rfl;clear k t u L M N O f D;cases K
  ·have B:Hid (fy m (a,d)=(m,5)):=by unfold Hid fy;rw[<-q.out];rfl
   go_wp2_with fail;go_ret;rw[B.out];exact⟨rfl,In.oA HM.out o.out.third.drop⟩
  ·have B:Hid (fy m (a,d)=(eo m (a,d),0)):=by unfold Hid fy;rw[<-q.out];rfl
   go_wp2_with fail
   go_still_tail 5,(by kernel_rfl)
   change wpList _ _ _ _ _ n.drew;have x:=af o.out.drew;clear o P Q;generalize n.drew=S at *;go_wp2_with (at_delete;go_loud (refine tN Am rfl _ _ 173 43 rfl underlying173 b m rfl x.out.swap.gZ (a,d) rfl trivial ?_));intro T E F J;have C:=af (In.nV x.out.swap E F);clear E F J;go_wp2_with fail;go_ret;rw[B.out];have z:=HM.out.loosen (a,d);rw[B.out]at z;exact⟨rfl,In.oA z C.out.swap.third.drop⟩
def Yd(A B:bU):bU where
 at_ w F:=Sep [A,B] w F
 frame h ho hd:=h.frame ho hd
 cut h hd:=h.cut hd
section
variable{A B:bU} {l:List bU} {F:Nat->Prop} {Z w Y:ai}
def In.join(h:In F Z (A::B::l) w):In F Z (Yd A B::l) w:=by obtain⟨⟨f,q,o,⟨d,i,j,m,n,c⟩,g,e⟩,p⟩:=h;refine⟨⟨λk=>f k\/d k,i,⟨f,d,o,⟨d,λ_=>False,j,trivial,λ_ _ h=>h,λk h=>by rcases h with h|h;exact h;exact h.elim⟩,λk a b=>g k a (c k (bt b)),λk h=>h⟩,m,λk a b=> ?_,λk h=> ?_⟩,p⟩;rcases a with a|a;exact g k a (c k (bW b));exact n k a b;rcases h with(h|h)|h;exact e k (bt h);exact e k (bW (c k (bt h)));exact e k (bW (c k (bW h)))
def In.split(h:In F Z (Yd A B::l) w):In F Z (A::B::l) w:=by obtain⟨⟨r,f,⟨j,s,n,⟨g,t,m,_,u,d⟩,o,c⟩,p,i,e⟩,q⟩:=h;refine⟨⟨j,λk=>g k\/f k,n,⟨g,f,m,p,λk a b=>i k (c k (bW (d k (bt a)))) b,λk h=>h⟩,λk a b=> ?_,λk h=> ?_⟩,q⟩;rcases b with b|b;exact o k a (d k (bt b));exact i k (c k (bt a)) b;rcases h with h|h|h;exact e k (bt (c k (bt h)));exact e k (bt (c k (bW (d k (bt h)))));exact e k (bW h)
def In.added{p o n m size:Nat}{T E:az}{i:Array ak}{v:ak}{B f:List ak}(h:In F Z (a8 p T i::dR E size v n B::l) w)(A:mP w Y p T i o v E size m f):∃d,In F Z (a8 p T (i.setIfInBounds o d)::dR E size d m f::l) Y:=by obtain⟨d,t,s,u,x,y⟩:=A;obtain⟨C,z,M,e⟩:=h.join.open_;obtain⟨D,G,⟨J,g⟩,⟨H,I,q,_,K,r⟩,L,j⟩:=z;refine⟨d,In.split (e (A':=Yd (a8 p T (i.setIfInBounds o d)) (dR E size d m f)) ?_ (y.mono λk _ c=> ?_))⟩;refine⟨(· =p),λk=>d.ownBlock=ae k,⟨t,rfl⟩,⟨λk=>d.ownBlock=ae k,λ_=>False,⟨s,λk c=>c⟩,trivial,λ_ _ h=>h,λk h=>by rcases h with h|h;exact h;exact h.elim⟩,λk a b=>u (by rw[<-a];exact b),λk c=> ?_⟩;rcases c with c|c;rw[c];exact bt (j p (bt g));rcases x k c with h|h;exact bt (j k (bW (r k (bt (q.2 k h)))));exact bW ⟨h,(kI s k c).2⟩;rcases c with c|c;rw[c];exact j p (bt g);exact j k (bW (r k (bt (q.2 k c))))
def In.sliceAt{p n size:Nat}{T E:az}{b:Array ak}{v:ak}{d:List ak}(h:In F Z (a8 p T b::dR E size v n d::l) w):cD w p T b/\w.ownsRow 0 E size v n d/\v.ownBlock≠ae p:=by obtain⟨⟨j,k,⟨g,a⟩,⟨m,o,c,q,r,f⟩,i,s⟩,t⟩:=h;exact⟨g,c.1,λe=>i p a (f p (bt (c.2 p e)))⟩
def iL.parts{e:Type}{T E:az}{size:Nat}{a:e->List ak}{p:Nat}{d:List e}(h:iL T E size a w p d F):∃v,cD w p T #[v]/\w.ownsRow 0 E size v d.length (d.flatMap a)/\v.ownBlock≠ae p/\∀(c:List e)(Y:ai),mP w Y p T #[v] 0 v E size c.length (c.flatMap a)->iL T E size a Y p c (E0 F w Y)/\cY F w Y:=by obtain⟨v,o,q,r,g,i⟩:=h;refine⟨v,o,q,r,λc Y s=> ?_⟩;obtain⟨t,j,f,l,m,n⟩:=s;refine⟨⟨t,j,f,l,bt g,λk b=> ?_⟩,n.mono λk _ b=> ?_⟩;rcases m k b with h|h;exact bt (i k h);exact bW ⟨h,(kI f k b).2⟩;rcases b with b|b;rw[b];exact g;exact i k b
end
structure ck where
 h:Int×Int
 b:aN
def ck.list(r:ck):List Int:=[r.h.1,r.h.2]++r.b.list
def aL:ck:=⟨(0,0),⟨0,[0,0,0,0,0,0,0,0]⟩⟩
def xo(x:Int):List ak:=[.int .i64 x]
abbrev tw(b:Nat):ak:=.pointer (ae ⟨b,0,ah⟩)
@[go_sem] theorem acs(b:Nat):tw b=.pointer (ae ⟨b,0,ah⟩):=rfl
def jh(K:Int):List Nat:=kinds K.toNat
def ng(K:Int):(jh K).Nodup:=pP _
def cJ(rows:List ck)(k:Nat):List Int:=rows.map λr=>r.b.v.getD k 0
abbrev j5(b:Nat)(a:List Int):bU:=Z8 218 3 1 xo b a
abbrev PtrMap(t:Nat)(m:List (Int×Nat)):bU:=sF (aS .i64) tw mK t m
def xZ(K:Int)(rows:List ck):Prop:=∀r∈rows,r.b.k=K/\r.b.v.length=8/\∀k,k<8->k∉jh K->r.b.v.getD k 0=0
def kU(p:Nat)(K:Int)(c:ak)(d:Nat)(b:Nat->Nat)(rows:List ck)(a:Nat->List Int):List bU:=[a8 p 215 #[.int .i64 K,c,.map (ae d)],dR 43 2 c rows.length (rows.flatMap λr=>hC r.h),PtrMap d ((jh K).map λk:Nat=>((k:Int),b k))]++(jh K).map λk=>j5 (b k) (a k)
def mE(p:Nat)(K:Int)(rows:List ck):bU where
 at_ w F:=xZ K rows/\(0<=K/\K<=255)/\∃b c a,Sep (kU p K b c a rows (cJ rows)) w F
 frame h ho hd:=by obtain⟨d,e,b,c,a,f⟩:=h;exact⟨d,e,b,c,a,f.frame ho hd⟩
 cut h hd:=by obtain⟨d,e,b,c,a,f⟩:=h;exact⟨d,e,b,c,a,f.cut hd⟩
def In.FN{F:Nat->Prop}{d w:ai}{l:List bU}{p:Nat}{K:Int}{rows:List ck}(h:In F d (mE p K rows::l) w):xZ K rows/\(0<=K/\K<=255)/\∃b c a,In F d (kU p K b c a rows (cJ rows)++l) w:=by obtain⟨⟨q,r,⟨j,i,b,c,a,o⟩,e,f,g⟩,n⟩:=h;exact⟨j,i,b,c,a,(Sep.join o e f).cut λk _ m=>g k m,n⟩
def In.NN{F:Nat->Prop}{a w:ai}{l:List bU}{p:Nat}{K:Int}{rows:List ck}{hv:ak}{mb:Nat}{cb:Nat->Nat}(j:xZ K rows)(i:0<=K/\K<=255)(h:In F a (kU p K hv mb cb rows (cJ rows)++l) w):In F a (mE p K rows::l) w:=by obtain⟨m,k⟩:=h;obtain⟨b,c,d,e,f,g⟩:=Sep.part m;exact⟨⟨b,c,⟨j,i,hv,mb,cb,d⟩,e,f,g⟩,k⟩
structure rM(w:ai) (p:Nat) (K:Int) (rows:List ck) (hv:ak) (mb:Nat) (cb:Nat->Nat):Prop where
 t:xZ K rows
 k:0<=K/\K<=255
 b:cD w p 215 #[.int .i64 K,hv,.map (ae mb)]
 o:w.ownsRow 0 43 2 hv rows.length (rows.flatMap λr=>hC r.h)
 m:ew (aS .i64) tw mK w mb ((jh K).map λk:Nat=>((k:Int),cb k))
 c:∀k∈jh K,∃F,iL 218 3 1 xo w (cb k) (cJ rows k) F
def rM.after{w e:ai}{p:Nat}{K:Int}{rows:List ck}{c:ak}{d:Nat}{b:Nat->Nat}(h:rM w p K rows c d b)(a:Below w.heap.size w e):rM e p K rows c d b:=⟨h.t,h.k,h.b.after a,mW h.o a,h.m.after a,λk g=>by obtain⟨F,f⟩:=h.c k g;exact⟨F,f.after a⟩⟩
def mE.see{w:ai}{p:Nat}{K:Int}{rows:List ck}{F:Nat->Prop}(h:(mE p K rows).at_ w F):∃b c a,rM w p K rows b c a:=by obtain⟨f,e,b,c,a,i⟩:=h;have d:In F w ([a8 p 215 #[.int .i64 K,b,.map (ae c)],dR 43 2 b rows.length (rows.flatMap λr=>hC r.h),PtrMap c ((jh K).map λk:Nat=>((k:Int),a k))]++(jh K).map λk=>j5 (a k) (cJ rows k)) w:=In.start i;exact⟨b,c,a,f,e,In.blk d,(In.sliceAt d).2.1,(In.third d).gZ,λk g=>d.TH (ng K) g⟩
def ZH{w:ai}{g o n:Nat}{x:Array ak}(h:row? w g o n=ae x):g<w.heap.size:=by unfold row? at h;split at h;rename_i a;exact(aE.1 a).1;cases h
def lu(n:Nat)(row:Int):Bool:=decide (0<=row)&&decide (row<n)
def D8{p:Nat}{K:Int}{rows:List ck}{g:ak}{i:Nat}{d:Nat->Nat}(row:Int)(w:ai)(h:rM w p K rows g i d)(l:rows.length<=100000):Calls aj 137 #[.pointer (ae ⟨p,0,ah⟩),.int .i64 row] w λe j=>e=.returned (.bool (lu rows.length row))/\w=j:=by
 obtain⟨A,c,rfl,_,_,_⟩:=cu h.o;have k:w.cell? ⟨p,1,ah⟩=ae (.slice A rows.length c):=h.b.cell 1;clear h;by_cases a:0<=row
 ·have b:Hid (lu rows.length row=decide (row<rows.length)):=by unfold Hid lu;rw[decide_eq_true a];rfl
  have f:decide (0<=row)=ar:=by simpa using a
  go_enter func137,ntmps137;go_wp2_with fail;go_ret;exact⟨dw b.out.symm,rfl⟩
 ·have b:Hid (lu rows.length row=au):=by unfold Hid lu;rw[decide_eq_false a];rfl
  have f:decide (0<=row)=au:=by simpa using a
  go_enter func137,ntmps137;go_wp2_with fail;go_ret;exact⟨dw b.out.symm,rfl⟩
def tC(rows:List ck)(row:Int):ck×Int:=if lu rows.length row then(rows.getD row.toNat aL,0)else(aL,5)
def TM{K:Int}{rows:List ck}(h:xZ K rows)(row:Int):(tC rows row).1.b.v.length=8:=by
 unfold tC;split;rename_i b;simp only[lu,aG,decide_eq_true_eq]at b;have a:row.toNat<rows.length:=by omega
 simp only[bm,aq a,bI];exact(h _ (aR a)).2.1;rfl
def J1{p:Nat}{K:Int}{rows:List ck}{hv:ak}{mb:Nat}{cb:Nat->Nat}(row:Int)(w:ai)(h:rM w p K rows hv mb cb)(hl:rows.length<=100000):Calls aj 73 #[.pointer (ae ⟨p,0,ah⟩),.int .i64 row] w λe n=>e=.returned (.tuple #[.agg (ints (tC rows row).1.list),.int .i64 (tC rows row).2])/\Below w.heap.size w n:=by
 have HS:=af h;clear h;go_enter func73,ntmps73;go_upto_region 1 with(fail)
 refine b9 (λn=>cD n w.heap.size 50 (ints aL.list)/\Below w.heap.size w n) ⟨cD.new _ _ _,(Below.refl _ _).alloc (av _) _⟩ ?_;rintro a ⟨Xz,Z⟩;have o:=af Xz;have W:=af Z;have l:=af (HS.out.after Z);clear Xz Z;go_wp2_with fail;refine(D8 row a l.out hl).mono ?_;rintro e n ⟨rfl,rfl⟩;cases hr:lu rows.length row
 ·have HR:Hid (tC rows row=(aL,5)):=by unfold Hid tC;rw[hr];rfl
  have ff:fits a w.heap.size 0 11=ar:=o.out.fits 0 11 (by rw[bN];decide);clear hr;go_wp2_with fail;refine cx rfl w.heap.size 50 (ints aL.list) (.int .i64 5) _ rfl rfl (o.out.eZ _ rfl) underlying50 rfl (by rw[bN];exact rz) rfl ?_;rw[HR.out];exact⟨rfl,W.out.trans (k7 (Below.refl w.heap.size a) (av _) 0 _)⟩
 ·have HR:Hid (tC rows row=(rows.getD row.toNat aL,0)):=by unfold Hid tC;rw[hr];rfl
  simp only[lu,aG,decide_eq_true_eq]at hr;obtain⟨i,rfl⟩:∃i:Nat,row=i:=⟨row.toNat,by omega⟩;have m:i<rows.length:=by omega
  have hii:(i:Int)<rows.length:=by omega
  rw[dT]at HR;have HT:=af (HS.out.t _ (aR m));obtain⟨A,c,rfl,hc1,hc2,hA⟩:=cu l.out.o;obtain⟨g,rfl⟩:=hA (by omega);have Sv:∀r:ck,(hC r.h).length=2:=λ_=>rfl
  have q1:row? a g (i *2) 2=ae (ints (hL (rows.getD i aL).h)):=by rw[kD l.out.o m,k8 Sv rows i m];simp[bm,aq m];rfl
  have c1:a.cell? ⟨p,1,ah⟩=ae (.slice (ae ⟨g,0,ah⟩) rows.length c):=l.out.b.cell 1;have c0:a.cell? ⟨p,0,ah⟩=ae (.int .i64 K):=l.out.b.cell 0;have hgd:rows.getD i aL=rows[i]:=by simp[bm,aq m]
  rw[<-hgd]at HT;have HRW:Hid (∀k,(cJ rows k).getD i 0=(rows.getD i aL).b.v.getD k 0):=λk=>by unfold cJ;simp only[bm,dx,aq m,eT,bI]
  generalize rows.getD i aL=r at *;obtain⟨⟨d,f⟩,b⟩:=r;change row? a g (i *2) 2=ae #[.int .i64 d,.int .i64 f]at q1;clear hr hA Sv hgd;have QO:=lp _ _ c1;have YW:=ZH q1;generalize hX:a.alloc (.cells (ints aL.list) 50)=H;have u:Below a.heap.size a H:=by rw[<-hX];exact(Below.refl _ _).alloc (av _) _
  have q1':row? H g (i *2) 2=ae #[.int .i64 d,.int .i64 f]:=(fT u YW _ _).trans q1;have c1':H.cell? ⟨p,1,ah⟩=ae (.slice (ae ⟨g,0,ah⟩) rows.length c):=(u.cell (p:=⟨p,1,ah⟩) QO).trans c1;have c0':H.cell? ⟨p,0,ah⟩=ae (.int .i64 K):=(u.cell (p:=⟨p,0,ah⟩) QO).trans c0;have hX':a.alloc (.cells #[.int .i64 0,.int .i64 0,.int .i64 0,.int .i64 0,.int .i64 0,.int .i64 0,.int .i64 0,.int .i64 0,.int .i64 0,.int .i64 0,.int .i64 0] 50)=H:=hX;have Y:cD H a.heap.size 50 (ints aL.list):=by rw[<-hX];exact cD.new _ _ _
  have f2:fits H a.heap.size 0 11=ar:=Y.fits 0 11 (by rw[bN];decide);have HBn:=af (Y.eZ [d,f,K,0,0,0,0,0,0,0,0] rfl);have s:=af u;clear hX Y u;go_wp2_with fail
  go_region
  have J:Hid (Below w.heap.size w (putRow H a.heap.size 0 [d,f,K,0,0,0,0,0,0,0,0]).drew):=(W.out.trans ((k7 s.out (av _) 0 _).mono W.out.size)).drew;have HRs:Hid (cD (putRow H a.heap.size 0 [d,f,K,0,0,0,0,0,0,0,0]).drew w.heap.size 50 (ints aL.list)):=((o.out.after s.out).wE 0 _ (by have:=o.out.lt;omega)).drew;have t:Hid (cD (putRow H a.heap.size 0 [d,f,K,0,0,0,0,0,0,0,0]).drew a.heap.size 50 (ints [d,f,K,0,0,0,0,0,0,0,0])):=HBn.out.drew;have E:Hid (w.heap.size<a.heap.size):=o.out.lt;generalize (putRow H a.heap.size 0 [d,f,K,0,0,0,0,0,0,0,0]).drew=w3 at *;clear HBn s hX' c0' c1' q1' f2 l c0 c1 q1;generalize a.heap.size=I at *;have X:=af (HS.out.after J.out);have c1:w3.cell? ⟨p,2,ah⟩=ae (.map (ae mb)):=X.out.b.cell 2;go_wp2_with (at_range;go_loud (refine iJ rfl _ 213 216 rfl underlying213 mb _ rfl X.out.m ?_));intro w4 hr4 M hs4;have HRA:=af hr4;have R:=af (HRs.out.after M);have Q:=af (t.out.after M);have HO4:Hid (Below w.heap.size w w4):=J.out.trans (M.mono J.out.size);have P:Hid (I<w3.heap.size):=t.out.lt;clear hr4 M hs4 X c1 HRs t J;generalize w3.heap.size=ri at *;go_wp2_with fail;go_loopw [7] (λ_ n=>∃left vs,dz (aS .i64) tw mK n mb ri ((jh K).map λk:Nat=>((k:Int),cb k)) left/\cD n w.heap.size 50 (ints aL.list)/\cD n I 50 (ints ([d,f,K]++vs))/\vs.length=8/\(∀k,k<8->vs.getD k 0=if(k:Int)∈bM left\/k∉jh K then 0 else b.v.getD k 0)/\Below w.heap.size w n) (λ_ n=>n.rangeLeft mb ri)
  case atStart=>
   refine⟨_,[0,0,0,0,0,0,0,0],HRA.out,R.out,Q.out,rfl,λk N=> ?_,HO4.out⟩;have h0:([0,0,0,0,0,0,0,0]:List Int).getD k 0=0:=by
    match k,N with|0,_|1,_|2,_|3,_|4,_|5,_|6,_|7,_=>rfl
   rw[h0];by_cases hkt:k∈jh K;rw[if_pos (bt (by simp only[bM,List.map_map];exact aI.2 ⟨k,hkt,rfl⟩))];rw[if_pos (bW hkt)]
  clear HRA R Q HO4;obtain⟨left,vs,S,h2,h3,h4,h5,h6⟩:=hrel;have H1:=af S;have H2:=af h2;have H3:=af h3;have H5:=af h5;have H6:=af h6;have G:=af h4;clear S h2 h3 h4 h5 h6;go_wp2_with (at_next;go_loud (refine ko qo rfl _ rfl mb ri _ left rfl H1.out ?_ ?_))
  ·intro Y2;subst Y2;have hvs:vs=b.v:=by apply iw;intro j;have hv8:=G.out;have hb8:b.v.length=8:=HT.out.2.1;by_cases hj:j<8;have S:=H5.out j hj;have h2:j∉jh K->b.v.getD j 0=0:=HT.out.2.2 j hj;simp only[bm,aq (show j<vs.length by omega),aq (show j<b.v.length by omega),bI]at S h2|-;by_cases hjt:j∈jh K;rw[if_neg (by rintro(hm|hm);simp[bM]at hm;exact hm hjt)]at S;rw[S];rw[if_pos (bW hjt)]at S;rw[S,h2 hjt];rw[gi (by omega),gi (by omega)]
   subst hvs;have N:b.k=K:=HT.out.1;have D:[d,f,K]++b.v=ck.list ⟨(d,f),b⟩:=by rw[<-N];rfl
   have V:=H3.out;rw[D]at V;have C:(ck.list ⟨(d,f),b⟩).length=11:=by have:=G.out;simp[ck.list,aN.list,this]
   have q1:row? wr I 0 11=ae (ints (ck.list ⟨(d,f),b⟩)):=V.bw C;have f1:fits wr w.heap.size 0 11=ar:=H2.out.fits 0 11 (by rw[bN];decide);have acz:=af C;have HRS:Hid (cD (putRow wr w.heap.size 0 (ck.list ⟨(d,f),b⟩)) w.heap.size 50 (ints (ck.list ⟨(d,f),b⟩))):=H2.out.eZ _ C;clear N D V;generalize Zg:ck.list ⟨(d,f),b⟩=xs at *;have HXS:=af Zg;clear Zg;go_wp2_with fail;refine cx rfl w.heap.size 50 (ints xs) (.int .i64 0) _ rfl rfl HRS.out underlying50 rfl (by rw[bN,acz.out];exact rz) rfl ?_;rw[HR.out];exact⟨by rw[<-HXS.out],k7 H6.out (av _) 0 _⟩
  intro x v w7 hx XO O Za U hen;obtain⟨k,N,hke⟩:=aI.1 (H1.out.sub _ hx);injection hke with e1 e2;subst e1;subst e2;have Y1:k<8:=by have:=(cc.1 N).1;simpa using this
  have K1:(k:Int)<8:=by omega
  have hwr:w.heap.size<=ri:=by have:=E.out;have:=P.out;omega
  have hb7:Below w.heap.size w w7:=H6.out.trans (O.below (B:=w.heap.size) H6.out.size λq _ e=>by rw[e];exact hwr);have hS7:=HS.out.after hb7;obtain⟨F1,hC⟩:=hS7.c k N;obtain⟨A3,c3,f1,f2,f3,f4,f5,f6,f7,f8⟩:=hC.slice;have z:(cJ rows k).length=rows.length:=by unfold cJ;rw[bu]
  obtain⟨A4,c4,hA4,_,_,hA5⟩:=cu f5;injection hA4 with e3 e4 e5;obtain⟨g3,hg3⟩:=hA5 (by omega);have e6:A3=ae ⟨g3,0,ah⟩:=e3.trans hg3;subst e6;have hfi:∀x:Int,(xo x).length=1:=λ_=>rfl
  have d1:w7.cell? ⟨g3,i,ah⟩=ae (.int .i64 (b.v.getD k 0)):=by rw[World.ownsRow.cellAt f5 i (by rw[z];omega),<-Nat.mul_one i,<-kq (i *1),oZ hfi (cJ rows k) i 0 (by rw[z];omega) (by omega),<-HRW.out k];simp[bm,aq (show i<(cJ rows k).length by rw[z];omega),xo]
  rw[z]at f1;have YK:=H2.out;have L:=O.blk H3.out (λe=>by have:=P.out;omega);have T:=O.blk H2.out (λe=>by have:=E.out;have:=P.out;omega);have c2:w7.frozen? ⟨I,1+1+1+k,ah⟩=au:=L.frozen _;have hvk:vs.length=8:=G.out;have c3:w7.cell? ⟨I,1+1+1+k,ah⟩=ae (.int .i64 (vs.getD k 0)):=by rw[L.cell,kg,show 1+1+1+k=k+3 from by omega];simp[bm,aq (show k<vs.length by omega)]
  have HR7:=af XO;have HB3:=af L;have s:=af T;have HB7:=af hb7;have HX:=af hx;have HLT:=af U;have Uy:=af N;clear XO O Za U hx N hC f2 f3 f4 f5 f6 f7 f8 hA5 YK L T hS7 hb7 z hvk e4 e3 e5 hg3;obtain⟨y,hy⟩:∃y,b.v.getD k 0=y:=⟨_,rfl⟩;rw[hy]at d1;have HY:=af hy;clear hy;generalize vs.getD k 0=y0 at c3;go_wp2_with fail;have hmb:=HS.out.m.lt;have hO8:cY (· =I) w7 (w7.setCell ⟨I,3+k,ah⟩ (.int .i64 y)):=(cY.refl (F:=(· =I))).setCell (g:=I) (bt rfl) _ _;have HR8:=af (HR7.out.only hO8 (by have:=E.out;omega) (by have:=P.out;omega));go_roundw
  case rel=>
   refine⟨eo left (k:Int),vs.set k y,HR8.out,s.out.uW (by have:=E.out;omega) _ _,?_,by rw[eu];exact G.out,λj hj=> ?_,HB7.out.setCell (p:=⟨I,3+k,ah⟩) (by have:=E.out;simp;omega) _⟩;have:=HB3.out.set (3+k) (.int .i64 y);rw[ints_set]at this;have e:([d,f,K]++vs).set (3+k) y=[d,f,K]++vs.set k y:=by rw[mM _ _ (by simp)];simp
   rw[e]at this;exact this;rw[s9];by_cases UG:k=j;subst UG;rw[if_pos ⟨rfl,by rw[G.out];omega⟩,if_neg];exact HY.out.symm;rintro(hm|hm);obtain⟨q,hq,e⟩:=aI.1 hm;exact(fQ.1 hq).2 e;exact hm Uy.out;rw[if_neg (λh=>UG h.1),H5.out j hj];have:(j:Int)∈bM (eo left (k:Int))↔(j:Int)∈bM left:=by constructor;intro hm;obtain⟨q,hq,e⟩:=aI.1 hm;exact aI.2 ⟨q,(fQ.1 hq).1,e⟩;intro hm;obtain⟨q,hq,e⟩:=aI.1 hm;exact aI.2 ⟨q,fQ.2 ⟨hq,by simp only[e];omega⟩,e⟩
   simp only[this]
  rw[HR8.out.count,H1.out.count];exact HLT.out
def R8(n:Nat)(a:List Int):List Int:=(a++List.replicate n 0).take n
def R9(n:Nat)(a:List Int):(R8 n a).length=n:=by unfold R8;rw[dH,bK,List.length_replicate];omega
def M2{n:Nat}{a:List Int}(h:a.length=n):R8 n a=a:=by unfold R8;rw[List.take_append_of_le_length (by omega),<-h,cE]
def sJ(r:ck):List Int:=R8 11 r.list
def xF(r:ck):List ak:=(sJ r).map (aS .i64)
def Jw(r:ck):(sJ r).length=11:=R9 _ _
def Ba(r:ck):(xF r).length=11:=by unfold xF;rw[bu,Jw]
def NG{r:ck}(h:r.b.v.length=8):sJ r=r.list:=M2 (by simp[ck.list,aN.list,h])
abbrev cm(v:ak)(rows:List ck):bU:=dR 50 11 v rows.length (rows.flatMap xF)
def P2:(Tryz.prog.info? 50).map (λi=>(i.zero,i.size,i.bytes))=ae (ae (.agg (ints aL.list)),11,88):=by kernel_rfl
def In.TN{F:Nat->Prop}{j w:ai}{l:List bU}{v:ak}{rows:List ck}(h:In F j (cm v rows::l) w):∃A c,v=.slice A rows.length c/\rows.length<=c/\c<=maxLen/\∀k,k<rows.length->∃g,A=ae ⟨g,0,ah⟩/\row? w g (k *11) 11=ae (ints (sJ (rows.getD k aL))):=by obtain⟨m,f⟩:=h.head;have e:w.ownsRow 0 50 11 v rows.length (rows.flatMap xF):=f.1;obtain⟨A,c,rfl,a,b,i⟩:=cu e;refine⟨A,c,rfl,a,b,λk d=> ?_⟩;obtain⟨g,rfl⟩:=i (by omega);refine⟨g,rfl,?_⟩;rw[kD e d,k8 Ba rows k d];simp[bm,aq d];rfl
def Py{w:ai}{B:Nat}{e:az}{size n c:Nat}{A:Option Addr}{f:List ak}(h:w.ownsRow B e size (.slice A n c) n f):Reads w w.heap.size size A n f/\((A=ah/\n=0/\c=0)\/∃b o,A=ae ⟨b,o,ah⟩):=by refine⟨Reads.Lx h,?_⟩;rcases h.2 with⟨a,l⟩|⟨g,i,j,a,_⟩;injection a with a k d;exact bt ⟨a,l,d⟩;injection a with a k d;exact bW ⟨g,0,a⟩
def Zu(b:List (Int×Int)):∀u∈b.flatMap hC,u.oneCell'=ar:=by intro u a;obtain⟨h,_,a⟩:=lN.1 a;simp[hC]at a;rcases a with rfl|rfl<;>rfl
def Gw{p:Nat}{K:Int}{rows:List ck}{m:ak}{n:Nat}{l:Nat->Nat}(w:ai)(h:rM w p K rows m n l)(q:rows.length<=100000):Calls aj 96 #[.pointer (ae ⟨p,0,ah⟩)] w λe g=>∃v,e=.returned v/\g.ownsRow w.heap.size 43 2 v rows.length (rows.flatMap λr=>hC r.h)/\Below w.heap.size w g:=by
 obtain⟨A,c,rfl,_,_,_⟩:=cu h.o;have o:w.cell? ⟨p,1,ah⟩=ae (.slice A rows.length c):=h.b.cell 1;have b:=af (Py h.o);have i:Hid (∀u∈rows.flatMap (λr=>hC r.h),u.oneCell'=ar):=by intro u a;obtain⟨r,s,a⟩:=lN.1 a;exact Zu [r.h] u (by simpa using a)
 clear h;go_enter func96,ntmps96;go_wp2_with fail;refine(yH A rows.length c _ w w.heap.size b.out.1 i.out b.out.2 (by omega)).mono ?_;rintro e t ⟨v,rfl,f,d⟩;have k:=af f;have j:=af d;clear f d;go_wp2_with fail;go_ret;exact⟨v,rfl,k.out,j.out⟩
def J5(w:ai):(zeroValue 216).run aj w=.ok (.pointer ah) w:=by kernel_rfl
def XW(K a:Int):Option Nat×Int:=if 0<=a/\a<8 then if a.toNat∈jh K then(ae a.toNat,0)else(ah,5)else(ah,1)
def RA(a:Nat->Nat):Option Nat->ak|some k=>tw (a k)|none=>.pointer ah
def Tb(K a:Int):(XW K a=(ah,1)/\¬(0<=a/\a<8))\/∃k:Nat,a=k/\k<8/\((k∉jh K/\XW K a=(ah,5))\/(k∈jh K/\XW K a=(ae k,0))):=by unfold XW;by_cases h:0<=a/\a<8;right;refine⟨a.toNat,by omega,by omega,?_⟩;by_cases b:a.toNat∈jh K;right;exact⟨b,by rw[if_pos h,if_pos b]⟩;left;exact⟨b,by rw[if_pos h,if_neg b]⟩;left;exact⟨by rw[if_neg h],h⟩
def MS{K:Int}{d:Nat->Nat}(k:Nat):eI ((jh K).map λk:Nat=>((k:Int),d k)) (k:Int)=if k∈jh K then ae (d k)else ah:=by
 have f:(bM ((jh K).map λk:Nat=>((k:Int),d k))).Nodup:=by unfold bM;rw[List.map_map];exact List.Pairwise.map _ (λa b(h:a≠b) e=>h (by have e:(a:Int)=b:=e;omega)) (ng K)
 by_cases c:k∈jh K;rw[if_pos c];exact jV f (aI.2 ⟨k,c,rfl⟩);rw[if_neg c,ra];intro hm;obtain⟨x,g,e⟩:=aI.1 hm;obtain⟨y,i,rfl⟩:=aI.1 g;exact c (by have:y=k:=by simp only at e;omega
                                                                                                                                                rw[<-this];exact i)
def W6{p:Nat}{K:Int}{rows:List ck}{q:ak}{g:Nat}{d:Nat->Nat}(a:Int)(w:ai)(h:rM w p K rows q g d):Calls aj 180 #[.pointer (ae ⟨p,0,ah⟩),.int .i64 a] w λe r=>e=.returned (.tuple #[RA d (XW K a).1,.int .i64 (XW K a).2])/\w=r:=by
 have s:w.cell? ⟨p,2,ah⟩=ae (.map (ae g)):=h.b.cell 2;have HM:=af h.m;clear h;rcases Tb K a with⟨b,n⟩|⟨k,rfl,t,⟨hm,b⟩|⟨hm,b⟩⟩
 ·have c:=af b;clear b;by_cases m:a<0
  ·have j:decide (a<0)=ar:=by simpa using m
   clear n;go_enter func180,ntmps180;go_wp2_with fail
   go_ret2
   exact⟨by rw[c.out];rfl,rfl⟩
  have j:decide (a<0)=au:=by simpa using m
  have o:8<=a:=by omega
  have f:decide (8<=a)=ar:=by simpa using o
  clear n;go_enter func180,ntmps180;go_wp2_with fail
  go_ret2
  exact⟨by rw[c.out];rfl,rfl⟩
 ·have c:=af b;have i:Hid (eI ((jh K).map λk:Nat=>((k:Int),d k)) (k:Int)=ah):=by unfold Hid;rw[MS,if_neg hm]
  have l:(k:Int)<8:=by omega
  have j:decide ((k:Int)<0)=au:=by simp
  have f:decide (8<=(k:Int))=au:=by simp;omega
  clear b hm;go_enter func180,ntmps180;go_wp2_with (at_lookup;go_loud (refine yE qo rfl _ _ 213 216 ar rfl underlying213 (.pointer ah) (J5 _) g _ rfl HM.out (k:Int) rfl (iu (by omega)) (.tuple #[.pointer ah,.bool au]) (by rw[i.out];rfl) ?_))
  go_ret2
  exact⟨by rw[c.out];rfl,rfl⟩
 ·have c:=af b;have i:Hid (eI ((jh K).map λk:Nat=>((k:Int),d k)) (k:Int)=ae (d k)):=by unfold Hid;rw[MS,if_pos hm]
  have l:(k:Int)<8:=by omega
  have j:decide ((k:Int)<0)=au:=by simp
  have f:decide (8<=(k:Int))=au:=by simp;omega
  clear b hm;go_enter func180,ntmps180;go_wp2_with (at_lookup;go_loud (refine yE qo rfl _ _ 213 216 ar rfl underlying213 (.pointer ah) (J5 _) g _ rfl HM.out (k:Int) rfl (iu (by omega)) (.tuple #[.pointer (ae ⟨d k,0,ah⟩),.bool ar]) (by rw[i.out];rfl) ?_))
  go_ret2
  exact⟨by rw[c.out];rfl,rfl⟩
def cutAt{a:Type}(d:a)(l:List a)(i:Nat):List a:=(l.set i (l.getD (l.length-1) d)).take (l.length-1)
def lJ(rows:List ck)(row:Int):List ck×ck×Int:=if lu rows.length row then(cutAt aL rows row.toNat,rows.getD row.toNat aL,0)else(rows,aL,5)
def tU{a:Type}(d:a)(l:List a)(i:Nat):(cutAt d l i).length=l.length-1:=by unfold cutAt;rw[dH,eu];omega
def Dz{a b:Type}(d:a)(c:b)(f:a->b)(l:List a)(i:Nat)(e:i<l.length):(cutAt d l i).map f=cutAt c (l.map f) i:=by unfold cutAt;rw[List.map_take,List.map_set,bu];congr 2;simp only[bm,dx,aq (show l.length-1<l.length by omega),eT,bI]
def OF{a:Type}{d:a}{l:List a}{i:Nat}{x:a}(b:i<l.length)(h:x∈cutAt d l i):x∈l:=by unfold cutAt at h;rcases List.mem_or_eq_of_mem_set (List.mem_of_mem_take h)with h|h;exact h;rw[h];simp only[bm,aq (show l.length-1<l.length by omega),bI];exact aR _
def Tn{a:Type}(M P R B S:a)(L:List a):(M::P::R::B::S::L).Perm (B::S::([P,R,M]++L)):=by
 have d:(M::P::R::B::S::L).Perm ((M::P::R::[])++([B,S]++L)):=oI _;have b:((M::P::R::[])++([B,S]++L)).Perm ([B,S]++((M::P::R::[])++L)):=by rw[<-cM,<-cM];exact List.Perm.append_right L List.perm_append_comm
 have c:(M::P::R::([]:List a)).Perm [P,R,M]:=(cy _ _ _).trans ((cy _ _ _).cons _);exact b.trans (dD [B,S] (List.Perm.append_right L c))
def JZ(p:Nat)(K:Int)(rows:List ck)(row:Int)(F:Nat->Prop)(w:ai)(h:(mE p K rows).at_ w F)(hl:rows.length<=10000):Calls aj 181 #[.pointer (ae ⟨p,0,ah⟩),.int .i64 row] w λe P=>e=.returned (.tuple #[.agg (ints (lJ rows row).2.1.list),.int .i64 (lJ rows row).2.2])/\(mE p K (lJ rows row).1).at_ P (E0 F w P)/\cY F w P:=by
 have hT:=h.1;have V:=af (In.one (A:=mE p K rows) h);clear h;go_enter func181,ntmps181;go_upto_region 1 with(fail)
 refine b9 (In F w [a8 w.heap.size 50 (ints aL.list),mE p K rows]) (V.out.alloc 50 (ints aL.list)) ?_;generalize w.heap.size=o;intro w1 O;have W:=af O;obtain⟨F1,R⟩:=O.swap.head;obtain⟨N,f,b,hS⟩:=mE.see R;clear V O R;go_wp2_with fail;refine(J1 row w1 hS (by omega)).mono ?_;rintro e w2 ⟨rfl,uE⟩;have z:=af (W.out.below uE);clear W uE hS;have c:(tC rows row).1.list.length=11:=by have:=TM hT row;simp[ck.list,aN.list,this]
 cases E:lu rows.length row
 ·have HR:Hid (tC rows row=(aL,5)):=by unfold Hid tC;rw[E];rfl
  have C:Hid (lJ rows row=(rows,aL,5)):=by unfold Hid lJ;rw[E];rfl
  rw[HR.out];clear E c;go_upto_region 2 with(fail)
  refine b9 (In F w [a8 w2.heap.size 50 (ints aL.list),a8 o 50 (ints aL.list),mE p K rows]) (z.out.struct 50 aL.list aL.list rfl) ?_;generalize w2.heap.size=H;intro Q g;have q1:row? Q H 0 11=ae (ints aL.list):=g.blk.bw rfl;have f1:fits Q o 0 11=ar:=g.swap.blk.fits 0 11 (by rw[bN];decide);have m:=af (g.swap.eZ aL.list rfl);clear g z;go_wp2_with fail;refine cx rfl o 50 (ints aL.list) (.int .i64 5) _ rfl rfl m.out.blk underlying50 rfl (by rw[bN];exact rz) rfl ?_;rw[C.out];obtain⟨g1,g2⟩:=m.out.drop.drop.done;exact⟨rfl,g1,g2⟩
 ·have HR:Hid (tC rows row=(rows.getD row.toNat aL,0)):=by unfold Hid tC;rw[E];rfl
  have C:Hid (lJ rows row=(cutAt aL rows row.toNat,rows.getD row.toNat aL,0)):=by unfold Hid lJ;rw[E];rfl
  simp only[lu,aG,decide_eq_true_eq]at E;obtain⟨i,rfl⟩:∃i:Nat,row=i:=⟨row.toNat,by omega⟩;have D:i<rows.length:=by omega
  rw[HR.out]at c|-;rw[dT]at C c|-;clear E HR;generalize Zg:(rows.getD i aL).list=y at *;have HXS:=af Zg;clear Zg;go_upto_region 2 with(fail)
  refine b9 (In F w [mE p K rows,a8 w2.heap.size 50 (ints y),a8 o 50 (ints aL.list)]) ((z.out.struct 50 aL.list y c).third) ?_;generalize w2.heap.size=H;clear z;intro Q g;obtain⟨_,hK,N,f,b,yK⟩:=g.FN;have m:Hid (In F w ([a8 p 215 #[.int .i64 K,N,.map (ae f)],dR 43 2 N rows.length (rows.flatMap λr=>hC r.h),PtrMap f ((jh K).map λk:Nat=>((k:Int),b k)),a8 H 50 (ints y),a8 o 50 (ints aL.list)]++(jh K).map λk=>j5 (b k) (cJ rows k)) Q):=yK.perm (dD [_,_,_] List.perm_append_comm)
  clear g yK;obtain⟨hB4,hO4,XB⟩:=In.sliceAt m.out;have HK:=af hK;have hfm:(rows.map (·.h)).flatMap hC=rows.flatMap λr=>hC r.h:=by rw[List.flatMap_map]
  have u:(rows.map (·.h)).length=rows.length:=bu ..;have Z:Q.ownsRow 0 43 2 N (rows.map (·.h)).length ((rows.map (·.h)).flatMap hC):=by rw[hfm,u];exact hO4
  have HO5:=af Z;clear hK hO4 Z hfm;go_wp2_with fail;refine(Jp p 1 215 #[.int .i64 K,N,.map (ae f)] N (rows.map (·.h)) i Q hB4 rfl HO5.out XB (by rw[u];omega) (by rw[u];exact D)).mono ?_;rintro e w5 ⟨rfl,S⟩;have hE':mP Q w5 p 215 #[.int .i64 K,N,.map (ae f)] 1 N 43 2 (rows.length-1) ((cutAt aL rows i).flatMap λr=>hC r.h):=by
   have e1:(cutAt aL rows i).flatMap (λr=>hC r.h)=(cutAt (0,0) (rows.map (·.h)) i).flatMap hC:=by rw[<-Dz aL (0,0) (·.h) rows i D,List.flatMap_map]
   rw[e1];unfold cutAt;rw[u]at S|-;exact S
  obtain⟨d,It⟩:=In.added m.out hE';have T:Hid (∀k,cutAt 0 (cJ rows k) i=cJ (cutAt aL rows i) k):=λk=>(Dz aL 0 (λr:ck=>r.b.v.getD k 0) rows i D).symm
  have HTR:Hid (xZ K (cutAt aL rows i)):=λr E=>hT r (OF D E)
  have Sr:(cutAt aL rows i).length=rows.length-1:=tU _ _ _;have HCL:=af Sr;generalize G:cutAt aL rows i=a at *;have B:Hid (In F w ([PtrMap f ((jh K).map λk:Nat=>((k:Int),b k)),a8 p 215 #[.int .i64 K,d,.map (ae f)],dR 43 2 d (rows.length-1) (a.flatMap λr=>hC r.h),a8 H 50 (ints y),a8 o 50 (ints aL.list)]++(jh K).map λk=>j5 (b k) (cJ rows k)) w5):=In.third It;have c1:w5.cell? ⟨p,2,ah⟩=ae (.map (ae f)):=(In.swap B.out).blk.cell 2;clear S hE' It m hB4 XB HO5 Sr G u;go_wp2_with (at_range;go_loud (refine iJ rfl _ 213 216 rfl underlying213 f _ rfl (In.gZ B.out) ?_));intro w6 hr6 KZ VK;have s:=af (In.AX B.out hr6 KZ VK);generalize w5.heap.size=ri at *;clear hr6 KZ VK c1;go_wp2_with fail;go_loopw [9] (λ_ P=>∃left,In F w ([ie (aS .i64) tw mK f ri ((jh K).map λk:Nat=>((k:Int),b k)) left,a8 p 215 #[.int .i64 K,d,.map (ae f)],dR 43 2 d (rows.length-1) (a.flatMap λr=>hC r.h),a8 H 50 (ints y),a8 o 50 (ints aL.list)]++(jh K).map λk:Nat=>j5 (b k) (if(k:Int)∈bM left then cJ rows k else cJ a k)) P) (λ_ P=>P.rangeLeft f ri)
  case atStart=>
   refine⟨(jh K).map λk:Nat=>((k:Int),b k),?_⟩;have:(jh K).map (λk:Nat=>j5 (b k) (if(k:Int)∈bM ((jh K).map λk:Nat=>((k:Int),b k))then cJ rows k else cJ a k))=(jh K).map λk:Nat=>j5 (b k) (cJ rows k):=by apply dJ;intro k hk;rw[if_pos];simp only[bM,List.map_map];exact aI.2 ⟨k,hk,rfl⟩
   rw[this];exact s.out
  clear s B;obtain⟨left,hI⟩:=hrel;have U:=af hI;clear hI;go_wp2_with (at_next;go_loud (refine ko qo rfl _ rfl f ri _ left rfl (In.rangeAt U.out) ?_ ?_))
  ·intro Y2;subst Y2;have n:Hid (In F w (a8 H 50 (ints y)::a8 o 50 (ints aL.list)::(kU p K d f b a (cJ a))) wr):=by
    have h1:=In.tK U.out;have e1:(jh K).map (λk:Nat=>j5 (b k) (if(k:Int)∈bM ([]:List (Int×Nat))then cJ rows k else cJ a k))=(jh K).map (λk:Nat=>j5 (b k) (cJ a k)):=by apply dJ;intro k _;rw[if_neg (by simp[bM])]
    have h2:In F w (PtrMap f ((jh K).map λk:Nat=>((k:Int),b k))::a8 p 215 #[.int .i64 K,d,.map (ae f)]::dR 43 2 d (rows.length-1) (a.flatMap λr=>hC r.h)::a8 H 50 (ints y)::a8 o 50 (ints aL.list)::(jh K).map (λk:Nat=>j5 (b k) (cJ a k))) wr:=by rw[<-e1];exact h1
    unfold kU;rw[HCL.out];exact h2.perm (Tn _ _ _ _ _ _)
   have q1:row? wr H 0 11=ae (ints y):=n.out.blk.bw c;have f1:fits wr o 0 11=ar:=n.out.swap.blk.fits 0 11 (by rw[bN];decide);have X:=af (n.out.swap.eZ y c);have Y:=af c;go_wp2_with fail;refine cx rfl o 50 (ints y) (.int .i64 0) _ rfl rfl X.out.blk underlying50 rfl (by rw[bN,Y.out];exact rz) rfl ?_;rw[C.out];have hIT:=In.NN (l:=[]) HTR.out HK.out (by rw[eM];exact X.out.drop.drop);obtain⟨g1,g2⟩:=hIT.done;exact⟨by rw[<-HXS.out],g1,g2⟩
  intro x v w7 hx XO ho7 Za L hen;obtain⟨k,hk,hke⟩:=aI.1 ((In.rangeAt U.out).sub _ hx);injection hke with e1 e2;subst e1;subst e2;have s:Hid (In F w ([ie (aS .i64) tw mK f ri ((jh K).map λk:Nat=>((k:Int),b k)) (eo left (k:Int)),a8 p 215 #[.int .i64 K,d,.map (ae f)],dR 43 2 d (rows.length-1) (a.flatMap λr=>hC r.h),a8 H 50 (ints y),a8 o 50 (ints aL.list)]++(jh K).map λk:Nat=>j5 (b k) (if(k:Int)∈bM left then cJ rows k else cJ a k)) w7):=In.mC U.out XO ho7;have Uy:=af hk;have HX:=af hx;have HLT:=af L;clear XO ho7 Za L hk hx;go_wp2_with fail;obtain⟨F1,R,_,t⟩:=In.FM s.out (ng K) Uy.out;have M:(k:Int)∈bM left:=aI.2 ⟨_,HX.out,rfl⟩;rw[if_pos M]at R;obtain⟨v,hB,hO,hN,J⟩:=iL.parts R;have HB:=af t;have I:=af J;have hlc:(cJ rows k).length=rows.length:=by unfold cJ;rw[bu]
  refine(Jq (b k) 0 218 #[v] v (cJ rows k) i w7 hB rfl hO hN (by omega) (by omega)).mono ?_;rintro e w8 ⟨rfl,S⟩;have hE2:mP w7 w8 (b k) 218 #[v] 0 v 3 1 (cJ a k).length ((cJ a k).flatMap xo):=by rw[<-T.out k,tU];exact S
  obtain⟨hC2,YQ⟩:=I.out _ _ hE2;have n:=af (HB.out _ (j5 (b k) (cJ a k)) hC2 YQ);clear R hB hO hN J t HB I hlc S hE2 hC2 YQ s M;go_wp2_with fail;go_roundw
  case rel=>
   refine⟨eo left (k:Int),?_⟩;have:(jh K).map (λj:Nat=>j5 (b j) (if(j:Int)∈bM (eo left (k:Int))then cJ rows j else cJ a j))=
    (jh K).map (λj:Nat=>if j=k then j5 (b k) (cJ a k)else j5 (b j) (if(j:Int)∈bM left then cJ rows j else cJ a j)):=by
    apply dJ;intro j hj;by_cases UG:j=k;subst UG;rw[if_neg,if_pos rfl];intro hm;obtain⟨q,hq,e⟩:=aI.1 hm;exact(fQ.1 hq).2 e;rw[if_neg UG];have:(j:Int)∈bM (eo left (k:Int))↔(j:Int)∈bM left:=by constructor;intro hm;obtain⟨q,hq,e⟩:=aI.1 hm;exact aI.2 ⟨q,(fQ.1 hq).1,e⟩;intro hm;obtain⟨q,hq,e⟩:=aI.1 hm;exact aI.2 ⟨q,fQ.2 ⟨hq,by simp only[e];omega⟩,e⟩
    by_cases hm:(j:Int)∈bM left;rw[if_pos hm,if_pos (this.2 hm)];rw[if_neg hm,if_neg (λh=>hm (this.1 h))]
   rw[this];exact n.out
  rw[(In.rangeAt n.out).count,(In.rangeAt U.out).count];exact HLT.out
def qi(x y:Int):Int:=if x<y then-1 else if y<x then 1 else 0
def Hr(a b:Hd):Int:=if qi a.1 b.1=0 then qi a.2 b.2 else qi a.1 b.1
def qM(x y:Int):qi x y<0↔x<y:=by
 unfold qi;split
 simp_all
 split<;>simp_all
def Dx(x y:Int):qi x y=0↔x=y:=by unfold qi;split;simp;omega;split;simp;omega;simp;omega
def sW(a b:Hd):decide (Hr a b<0)=YO a b:=by
 unfold Hr YO;rw[mF];simp only[decide_eq_true_eq,gJ,aG];split;rename_i h;have:=(Dx _ _).1 h;rw[qM];omega;rename_i h;rw[qM];have:a.1≠b.1:=λe=>h ((Dx _ _).2 e)
 omega
def D7(x:Int)(w:ai):Calls aj 151 #[.int .i64 x] w λe a=>e=.returned (.bool au)/\w=a:=by go_enter func151,ntmps151;go_wp2_with fail;go_ret;exact⟨dw (by simp),rfl⟩
def uU(x y:Int)(w:ai):Calls aj 99 #[.int .i64 x,.int .i64 y] w λe c=>e=.returned (.int .i64 (qi x y))/\w=c:=by
 have f:Hid (x<y->qi x y= -1):=λh=>by unfold qi;rw[if_pos h]
 have g:Hid (¬x<y->y<x->qi x y=1):=λh a=>by unfold qi;rw[if_neg h,if_pos a]
 have i:Hid (¬x<y->¬y<x->qi x y=0):=λh a=>by unfold qi;rw[if_neg h,if_neg a]
 go_enter func99,ntmps99;go_wp2_with fail;refine(D7 x w).mono ?_;rintro e c ⟨rfl,rfl⟩;go_wp2_with fail;refine(D7 y w).mono ?_;rintro e c ⟨rfl,rfl⟩;by_cases b:x<y
 ·go_wp2_with fail;go_ret;exact⟨eH (f.out b).symm,rfl⟩
 by_cases d:y<x
 ·go_wp2_with fail;go_ret;exact⟨eH (g.out b d).symm,rfl⟩
 go_wp2_with fail;go_ret;exact⟨eH (i.out b d).symm,rfl⟩
def OD(b:Nat)(x y:Int)(w:ai)(q:w.cell? ⟨b,0,ah⟩=ae (.int .i64 x))(s:w.cell? ⟨b,1,ah⟩=ae (.int .i64 y)):Calls aj 143 #[.slice (ae ⟨b,0,ah⟩) 2 2] w λe g=>e=.returned (.int .i64 (if x=0 then y else x))/\w=g:=by
 have o:Hid (¬x=0->(if x=0 then y else x)=x):=λh=>by rw[if_neg h]
 have j:Hid (x=0->(if x=0 then y else x)=y):=λh=>by rw[if_pos h]
 generalize (if x=0 then y else x)=r at *;go_enter func143,ntmps143;go_wp2_with fail;go_loopw [8] (λi g=>∃k:Nat,k<=2/\i=.int .i64 k/\(0<k->x=0)/\(1<k->y=0)/\w=g) (λi _=>2-(intOf i).toNat)
 case atStart=>exact⟨0,by omega,rfl,λh=>by omega,λh=>by omega,rfl⟩
 case round=>
  obtain⟨k,p,rfl,l,m,rfl⟩:=hrel;have d:=af l;have n:=af m;clear l m
  match k,p with
  |0,_=>
   by_cases a:x=0
   ·have c:=af a;have f:(x !=0)=au:=by simp[a]
    clear a;go_wp2_with fail;go_roundw
    case rel=>exact⟨1,by omega,rfl,λ_=>c.out,λh=>by omega,trivial⟩
    simp[intOf]
   have c:=af a;have f:(x !=0)=ar:=by simp[a]
   clear a;go_wp2_with fail;go_ret;exact⟨eH (o.out c.out).symm,rfl⟩
  |1,_=>
   by_cases a:y=0
   ·have c:=af a;have f:(y !=0)=au:=by simp[a]
    clear a;go_wp2_with fail;go_roundw
    case rel=>exact⟨2,by omega,rfl,λ_=>d.out (by omega),λ_=>c.out,trivial⟩
    simp[intOf]
   have f:(y !=0)=ar:=by simp[a]
   clear a;go_wp2_with fail;go_ret;exact⟨eH (j.out (d.out (by omega))).symm,rfl⟩
  |2,_=>go_wp2_with fail;go_ret;exact⟨eH (by rw[j.out (d.out (by omega))];exact(n.out (by omega)).symm),rfl⟩
def yf(a b:Hd)(w:ai):Calls aj 80 #[mv a,mv b] w λe k=>e=.returned (.int .i64 (Hr a b))/\∃q t,k=Sort.grow (w.drewN q) t:=by
 obtain⟨c,f⟩:=a;obtain⟨d,g⟩:=b;have l:Hid (Hr (c,f) (d,g)=if qi c d=0 then qi f g else qi c d):=rfl;rw[jI,jI];go_enter func80,ntmps80;go_upto_region 1 with(fail)
 have n:((w.alloc (.cells #[.int .i64 c,.int .i64 f] 43)).alloc (.cells #[.int .i64 d,.int .i64 g] 43)).cell? ⟨w.heap.size,0,ah⟩=ae (.int .i64 c):=((cD.new w _ _).alloc _).cell 0;have o:((w.alloc (.cells #[.int .i64 c,.int .i64 f] 43)).alloc (.cells #[.int .i64 d,.int .i64 g] 43)).cell? ⟨w.heap.size,1,ah⟩=ae (.int .i64 f):=((cD.new w _ _).alloc _).cell 1;have p:((w.alloc (.cells #[.int .i64 c,.int .i64 f] 43)).alloc (.cells #[.int .i64 d,.int .i64 g] 43)).cell? ⟨w.heap.size+1,0,ah⟩=ae (.int .i64 d):=by have:=(cD.new (w.alloc (.cells #[.int .i64 c,.int .i64 f] 43)) 43 #[.int .i64 d,.int .i64 g]).cell 0;rwa[cR]at this
 have s:((w.alloc (.cells #[.int .i64 c,.int .i64 f] 43)).alloc (.cells #[.int .i64 d,.int .i64 g] 43)).cell? ⟨w.heap.size+1,1,ah⟩=ae (.int .i64 g):=by have:=(cD.new (w.alloc (.cells #[.int .i64 c,.int .i64 f] 43)) 43 #[.int .i64 d,.int .i64 g]).cell 1;rwa[cR]at this
 have m:Hid (((w.alloc (.cells #[.int .i64 c,.int .i64 f] 43)).alloc (.cells #[.int .i64 d,.int .i64 g] 43))=Sort.grow w #[.cells #[.int .i64 c,.int .i64 f] 43,.cells #[.int .i64 d,.int .i64 g] 43]):=by unfold Hid;rw[Sort.alloc_eq_grow,Sort.alloc_eq_grow,Sort.grow_grow];rfl
 generalize ((w.alloc (.cells #[.int .i64 c,.int .i64 f] 43)).alloc (.cells #[.int .i64 d,.int .i64 g] 43))=j at *;generalize w.heap.size+1=v at *;generalize w.heap.size=u at *
 go_still_tail 10,(by kernel_rfl)
 still_call (JQ (uU _ _ _))
 repeat still_step
 still_call (JQ (uU _ _ _))
 repeat still_step
 refine wpStill_nil ?_;change wpList _ _ _ _ _ j.drew;generalize qi c d=h at *;generalize qi f g=i at *;clear n o p s;go_wp2_with fail;refine(OD _ h i _ (cD.new j.drew 3 #[.int .i64 h,.int .i64 i]|>.cell 0) (cD.new j.drew 3 #[.int .i64 h,.int .i64 i]|>.cell 1)).mono ?_;rintro e k ⟨rfl,rfl⟩;generalize (if h=0 then i else h)=r at *;go_wp2_with fail;go_ret;exact⟨eH l.out.symm,1,#[.cells #[.int .i64 c,.int .i64 f] 43,.cells #[.int .i64 d,.int .i64 g] 43,.cells #[.int .i64 h,.int .i64 i] 3],by rw[m.out,Sort.alloc_eq_grow,Sort.grow_grow];rfl⟩
end
section
open Go.RowKit Go.ChangeShapes Go.WideShapes Go.ChangeAt Go.Deep
def Tg:Tryz.prog.bytesOf 74=128:=by kernel_rfl
def Pv{H:Type}{k:az×ak->H}{W:ai}{v:ak}{d:DataW H}{p:List MemPlace}{z:List az}{w:List (DataW H)}(j:Nat)(u:(DataW.weightsEach aj z w).all (· <=reachBytes)=ar)(J:z[j]? =ae 22)(C:w[j]? =ae d)(K:∃A len g,v=.slice A len g)(h:DataW.Trod k aj W 0 (λ_=>ar) ar 22 v d p)(t:∀x∈p,x.block<W.heap.size):∃A c b,v=.slice A (kY b) c/\b.length<=1099511627744/\oO W W.heap.size A b/\(∀o∈b,o.b.v.length=8/\∀x∈ft.list o,Fits x)/\b.length<=c/\c<=maxLen:=by
 obtain⟨A,n,c,rfl,B,F,m,f,a,D⟩:=I3 5 underlying22 (by kernel_rfl) (by rw[I2];omega) K h t;rw[I2]at a;have E:f.length=n *16:=by have:=a.1;simpa using this
 have l:=rT E;have C4:n<=1099511627744:=by
  obtain⟨i,L,h|h⟩:=m;have:=sized_slice u J (h.1▸C) underlying22;rw[Tg,h.2]at this;have G:reachBytes<=140737488351232:=by decide
  generalize L.length=q at *;omega;omega
 have e:((nm 16 f n).map W5).map ft.list=nm 16 f n:=by
  rw[List.map_map]
  conv=>rhs;rw[<-List.map_id (nm 16 f n)]
  exact dJ λr a=>(xQ (l r a)).1
 refine⟨A,c,(nm 16 f n).map W5,by rw[bu,nG],by rw[bu,nG];omega,?_,?_,by rw[bu,nG];exact F,B⟩;unfold oO;rw[e];exact Reads.chunks a (by omega);intro s I;obtain⟨r,a,rfl⟩:=aI.1 I;refine⟨(xQ (l r a)).2,λx y=> ?_⟩;rw[(xQ (l r a)).1]at y;exact D x (Ht r a x y)
end
section
open Go.RowKit
def U5(w:ai)(K:Int)(e:Ending)(a:ai):Prop:=Below w.heap.size w a/\if 0<=K/\K<=255 then∃p,e=.returned (.tuple #[tw p,.int .i64 0])/\(mE p K []).at_ a (λk=>w.heap.size<=k)else e=.returned (.tuple #[.pointer ah,.int .i64 1])
def PD{a:Type}(M C I B:a)(L:List a):(M::C::I::B::L).Perm ([I,B,M]++(L++[C])):=by
 have b:(C::I::B::L).Perm (I::B::(L++[C])):=(cy _ _ _).trans (((cy _ _ _).trans (((List.perm_append_singleton C L).symm).cons B)).cons I)
 have c:(M::I::B::(L++[C])).Perm (I::B::M::(L++[C])):=(cy _ _ _).trans ((cy _ _ _).cons I);exact(b.cons M).trans c
def Uh(K:Int)(w:ai):Calls aj 174 #[.int .i64 K] w (U5 w K):=by
 by_cases C:0<=K;rotate_left
 ·have hn:K<0:=by omega
  have hb:decide (K<0)=ar:=by simpa using hn
  have L:Hid (¬(0<=K/\K<=255)):=by unfold Hid;omega
  clear C;go_enter func174,ntmps174;go_wp2_with fail
  go_ret2
  exact⟨Below.refl _ _,by rw[if_neg L.out];rfl⟩
 have hb:decide (K<0)=au:=by simpa using C
 by_cases q:K<=255;rotate_left
 ·have hn:255<K:=by omega
  have L:Hid (¬(0<=K/\K<=255)):=by unfold Hid;omega
  clear q;go_enter func174,ntmps174;go_wp2_with fail
  go_ret2
  exact⟨Below.refl _ _,by rw[if_neg L.out];rfl⟩
 have s:decide (255<K)=au:=by simpa using q
 have D:=q;have X:Hid (eE (m8 K)=(jh K).map λk:Nat=>(k:Int)):=by
  unfold Hid eE jh m8;have:(K % 256).toNat=K.toNat:=by rw[Int.emod_eq_of_lt C (by omega)]
  rw[this];rfl
 have hmm:= @run_makeMap aj;have R:Hid (∀k∈jh K,k<8):=λk V=>by have:=(cc.1 V).1;simpa using this
 go_enter func174,ntmps174;go_upto_region 4 with(fail)
 refine b9 (In (λ_=>False) w [a8 (w.heap.size+1) 215 #[.int .i64 K,.slice ah 0 0,.map (ae w.heap.size)],PtrMap w.heap.size []])
  (by have q:=(In.nil w (λ_=>False)).FH (aS .i64) tw mK
      have h2:=q.alloc 215 #[.int .i64 K,.slice ah 0 0,.map (ae w.heap.size)];simpa using h2) ?_
 generalize w.heap.size+1=p;generalize G:w.heap.size=m;have HMB:=af G;clear G;intro w1 z;have g:=af z;clear z;go_wp2_with fail;refine(tj K w1).mono ?_;rintro e w2 ⟨v,rfl,Y,s⟩;rw[X.out]at Y;have n:=af (g.out.uf Y s);obtain⟨A,c,rfl,_⟩:=n.out.ku;have F:Hid (((jh K).map λk:Nat=>(k:Int)).length=(jh K).length):=by unfold Hid;simp
 have hl8:(jh K).length<=8:=oF _;rw[F.out];have hl9:((jh K).length:Int)<=8:=by omega
 clear g Y s;go_wp2_with fail;go_loopw [20] (λi w'=>∃j:Nat,j<=(jh K).length/\i=.int .i64 j/\∃a:Nat->Nat,In (λ_=>False) w ([cI (.slice A ((jh K).map λk:Nat=>(k:Int)).length c) ((jh K).map λk:Nat=>(k:Int)),a8 p 215 #[.int .i64 K,.slice ah 0 0,.map (ae m)],PtrMap m (((jh K).take j).map λk:Nat=>((k:Int),a k))]++((jh K).take j).map λk=>j5 (a k) []) w') (λi _=>(jh K).length-(intOf i).toNat)
 case atStart=>exact⟨0,by omega,rfl,λ_=>0,by simpa using n.out⟩
 clear n;obtain⟨j,hj,rfl,a,z⟩:=hrel;have g:=af z;obtain⟨A',c',hA,J⟩:=z.ku;injection hA with P Q e3;subst P;subst e3;have Z:=af J;clear z J Q;by_cases d:j<(jh K).length
 ·have hji:(j:Int)<(jh K).length:=by omega
  obtain⟨b,o,rfl,S,hkl,hc⟩:=Z.out.at_ (k:=j) (by simpa using d);rw[List.getElem_map]at hc;have Y1:=R.out _ (aR d);have c1:wr.cell? ⟨p,2,ah⟩=ae (.map (ae m)):=(In.swap g.out).blk.cell 2;have hN:Hid ((jh K).take (j+1)=(jh K).take j++[(jh K)[j]]):=aU d;have u:Hid ((jh K)[j]∉(jh K).take j):=by unfold Hid;have:=ng K;rw[<-mN (j+1) (jh K),hN.out,List.nodup_append,List.nodup_append]at this;intro hm;exact this.1.2.2 _ hm _ (by simp) rfl
  generalize E:(jh K).take (j+1)=ts' at *;have O:=af E;generalize (jh K).take j=f at *;generalize (jh K)[j]=k at *;clear E;have W:mK (k:Int):=iu (by omega);have B:Hid (In (λ_=>False) w (j5 wr.heap.size []::([cI (.slice (ae ⟨b,o,ah⟩) ((jh K).map λk:Nat=>(k:Int)).length c) ((jh K).map λk:Nat=>(k:Int)),a8 p 215 #[.int .i64 K,.slice ah 0 0,.map (ae m)],PtrMap m (f.map λk:Nat=>((k:Int),a k))]++f.map λk=>j5 (a k) [])) (wr.alloc (.cells #[.slice ah 0 0] 218))):=g.out.new ((Below.refl _ _).alloc (av _) _) ⟨_,cD.new _ _ _,World.ownsRow_nil _ _ _ _,by simp[fC],av _,by simp[fC]⟩
  have l:ew (aS .i64) tw mK (wr.alloc (.cells #[.slice ah 0 0] 218)) m (f.map λk:Nat=>((k:Int),a k)):=(In.fourth B.out).gZ;clear Z S;have H:iI (f.map λk:Nat=>((k:Int),a k)) (k:Int) wr.heap.size=(f.map λk:Nat=>((k:Int),a k))++[((k:Int),wr.heap.size)]:=by
   unfold iI;rw[if_neg];intro ha;obtain⟨x,hx,e⟩:=j4.1 ha;obtain⟨y,hy,rfl⟩:=aI.1 hx;have:y=k:=by have:=of_decide_eq_true e;simp only at this;omega
   exact u.out (this▸hy)
  have N:=af H;clear H;go_wp2_with (at_mapUpdate;go_loud (refine iB qo rfl _ _ _ 213 216 rfl underlying213 m _ rfl l (k:Int) rfl W wr.heap.size rfl ?_));intro w5 t I _;rw[N.out]at t;have M:=af ((In.fourth B.out).nV t I);clear t I l;go_wp2_with fail;go_roundw
  case rel=>
   refine⟨j+1,by omega,by go_num,λi=>if i=k then wr.heap.size else a i,?_⟩;rw[O.out,hN.out];have P:(f++[k]).map (λi:Nat=>((i:Int),if i=k then wr.heap.size else a i))=f.map (λk:Nat=>((k:Int),a k))++[((k:Int),wr.heap.size)]:=by rw[dZ];congr 1;apply dJ;intro i T;rw[if_neg (λe=>u.out (by rw[<-e];exact T))];simp
   have Q:(f++[k]).map (λi:Nat=>j5 (if i=k then wr.heap.size else a i) [])=f.map (λk:Nat=>j5 (a k) [])++[j5 wr.heap.size []]:=by rw[dZ];congr 1;apply dJ;intro i T;rw[if_neg (λe=>u.out (by rw[<-e];exact T))];simp
   rw[P,Q];refine M.out.perm ?_;exact PD _ _ _ _ _
  simp[intOf];omega
 have U:j=(jh K).length:=by omega
 subst U;rw[cE]at g;clear d hj;have HT:Hid ((mE p K []).at_ wr (λk=>w.heap.size<=k)):=by have q:=(In.drop g.out).add0 (A:=dR 43 2 (.slice ah 0 0) 0 []) ⟨World.ownsRow_nil _ _ _ _,by simp[fC]⟩;refine⟨by intro r J;simp at J,⟨C,D⟩,.slice ah 0 0,m,a,?_⟩;exact(q.swap).sep.cut λk _ V=>by rcases V.1 with h|h;exact h.elim;exact h
 have HB:=af g.out.E7;go_wp2_with fail
 go_ret2
 exact⟨HB.out,by rw[if_pos ⟨C,D⟩];exact⟨p,rfl,HT.out⟩⟩
def qE(K:Int)(rows:List ck)(r:ck):List ck×Int×Int:=if bT r.b≠0 then(rows,0,bT r.b)else if r.b.k≠K then(rows,0,4)else(rows++[r],(rows.length:Nat),0)
def Uc(p:Nat)(K:Int)(rows:List ck)(r:ck)(F:Nat->Prop)(w:ai)(h:(mE p K rows).at_ w F)(hr:r.b.v.length=8)(hl:rows.length<=10000):Calls aj 175 #[.pointer (ae ⟨p,0,ah⟩),.agg (ints (hL r.h)),.agg (ints r.b.list)] w λe w'=>e=.returned (.tuple #[.int .i64 (qE K rows r).2.1,.int .i64 (qE K rows r).2.2])/\(mE p K (qE K rows r).1).at_ w' (E0 F w w')/\cY F w w':=by
 obtain⟨hT,hK,P,d,a,hs⟩:=h;have Q:=af (In.start hs);have HT:=af hT;have HK:=af hK;clear hs hT hK;obtain⟨⟨f,g⟩,b⟩:=r;simp only at hr;go_enter func175,ntmps175;go_upto_region 1 with(fail)
 refine b9 (In F w (a8 (w.heap.size+1) 48 (ints b.list)::a8 w.heap.size 43 (ints (hL (f,g)))::kU p K P d a rows (cJ rows))) (by have h2:=(Q.out.alloc 43 (ints (hL (f,g)))).alloc 48 (ints b.list);simpa using h2) ?_
 generalize w.heap.size+1=L;generalize w.heap.size=hb;intro w1 N;have z:=N.blk.bw (n:=9) (by simp[aN.list,hr]);have C:=af N;clear N Q;go_wp2_with fail;refine(oU b hr w1).mono ?_;rintro e w2 ⟨rfl,uE⟩;have i:=af (C.out.below uE);clear C uE z;by_cases O:bT b=0;rotate_left
 ·have T:Hid (qE K rows ⟨(f,g),b⟩=(rows,0,bT b)):=by unfold Hid qE;rw[if_pos O]
  have zd:(bT b !=0)=ar:=by simpa using O
  clear O;go_wp2_with fail
  go_ret2
  rw[T.out];obtain⟨U,V⟩:=i.out.drop.drop.RG;exact⟨rfl,⟨HT.out,HK.out,P,d,a,U⟩,V⟩
 have zd:(bT b !=0)=au:=by rw[O];rfl
 have HE:=af O;clear O;have M:w2.cell? ⟨L,0,ah⟩=ae (.int .i64 b.k):=i.out.blk.cell 0;have c2:w2.cell? ⟨p,0,ah⟩=ae (.int .i64 K):=(In.third i.out).blk.cell 0;rw[HE.out];by_cases c:b.k=K;rotate_left
 ·have T:Hid (qE K rows ⟨(f,g),b⟩=(rows,0,4)):=by unfold Hid qE;rw[if_neg (by simpa using HE.out),if_pos c]
  have I:(b.k !=K)=ar:=by simpa using c
  clear c;go_wp2_with fail
  go_quiet (fail)
  go_wp2_with fail
  go_ret2
  rw[T.out];have s:=i.out.below (w':=w2.drewN nq) ⟨rfl,rfl,rfl,av _,λ_ _=>rfl⟩;obtain⟨U,V⟩:=s.drop.drop.RG;exact⟨rfl,⟨HT.out,HK.out,P,d,a,U⟩,V⟩
 have T:Hid (qE K rows ⟨(f,g),b⟩=(rows++[⟨(f,g),b⟩],((rows.length:Nat):Int),0)):=by unfold Hid qE;rw[if_neg (by simpa using HE.out),if_neg (by simpa using c)]
 have I:(b.k !=K)=au:=by simpa using c
 have S:=af c;clear c;go_wp2_with fail
 go_quiet (fail)
 go_wp2_with fail;have s:Hid (In F w (a8 L 48 (ints b.list)::a8 hb 43 (ints (hL (f,g)))::kU p K P d a rows (cJ rows)) (w2.drewN nq)):=i.out.below ⟨rfl,rfl,rfl,av _,λ_ _=>rfl⟩;clear i M c2 I;generalize w2.drewN nq=w3 at *;have z:row? w3 hb 0 2=ae #[.int .i64 f,.int .i64 g]:=s.out.swap.blk.bw (xs:=[f,g]) rfl
 go_still_tail 4,(by kernel_rfl)
 repeat still_step
 change wpList _ _ _ _ _ w3.drew;have R:=af s.out.drew;clear s z;generalize w3.drew=w4 at *;have J:=af ((In.swap R.out).drop.third.third);obtain⟨X,hO4,XB⟩:=In.sliceAt J.out;go_wp2_with fail;refine(Rk p 1 215 #[.int .i64 K,P,.map (ae d)] P rows.length (rows.flatMap λr=>hC r.h) f g w4 X rfl hO4 XB (by omega)).mono ?_;rintro e w5 ⟨rfl,Z⟩;obtain⟨o,It⟩:=In.added J.out Z;have A:Hid (In F w ([PtrMap d ((jh K).map λk:Nat=>((k:Int),a k)),a8 p 215 #[.int .i64 K,o,.map (ae d)],dR 43 2 o (rows.length+1) ((rows.flatMap λr=>hC r.h)++[.int .i64 f,.int .i64 g]),a8 L 48 (ints b.list)]++(jh K).map λk=>j5 (a k) (cJ rows k)) w5):=In.fourth It;have M:w5.cell? ⟨p,2,ah⟩=ae (.map (ae d)):=(In.swap A.out).blk.cell 2;clear Z It R J X hO4 XB;go_wp2_with (at_range;go_loud (refine iJ rfl _ 213 216 rfl underlying213 d _ rfl (In.gZ A.out) ?_));intro w6 hr6 KZ VK;have l:=af (In.AX A.out hr6 KZ VK);generalize w5.heap.size=ri at *;clear hr6 KZ VK M;go_wp2_with fail;go_loopw [9] (λ_ w'=>∃left,In F w ([ie (aS .i64) tw mK d ri ((jh K).map λk:Nat=>((k:Int),a k)) left,a8 p 215 #[.int .i64 K,o,.map (ae d)],dR 43 2 o (rows.length+1) ((rows.flatMap λr=>hC r.h)++[.int .i64 f,.int .i64 g]),a8 L 48 (ints b.list)]++(jh K).map λk:Nat=>j5 (a k) (if(k:Int)∈bM left then cJ rows k else cJ rows k++[b.v.getD k 0])) w') (λ_ w'=>w'.rangeLeft d ri)
 case atStart=>
  refine⟨(jh K).map λk:Nat=>((k:Int),a k),?_⟩;have:(jh K).map (λk:Nat=>j5 (a k) (if(k:Int)∈bM ((jh K).map λk:Nat=>((k:Int),a k))then cJ rows k else cJ rows k++[b.v.getD k 0]))=(jh K).map λk:Nat=>j5 (a k) (cJ rows k):=by apply dJ;intro k c;rw[if_pos];simp only[bM,List.map_map];exact aI.2 ⟨k,c,rfl⟩
  rw[this];exact l.out
 case round=>
  clear l A;obtain⟨left,N⟩:=hrel;have C:=af N;clear N;go_wp2_with (at_next;go_loud (refine ko qo rfl _ rfl d ri _ left rfl (In.rangeAt C.out) ?_ ?_))
  ·intro Y2;subst Y2;have m:=af (In.third (In.third (In.drop (In.fourth (In.tK C.out)))));obtain⟨W,hO,hN⟩:=In.sliceAt m.out;obtain⟨A',c',rfl,_,_,_⟩:=cu hO;have M:wr.cell? ⟨p,1,ah⟩=ae (.slice A' (rows.length+1) c'):=W.cell 1;have VJ:((rows.length:Nat):Int)+1<=1000000:=by omega
   clear W hO hN;go_wp2_with fail
   go_ret2
   rw[T.out];obtain⟨U,V⟩:=m.out.RG;refine⟨by simp,⟨?_,HK.out,.slice A' (rows.length+1) c',d,a,?_⟩,V⟩;intro r u;rcases gK.1 u with u|u;exact HT.out r u;rw[eC.1 u];refine⟨S.out,hr,λk c hkt=> ?_⟩;refine((mh b HE.out).2 k c).1 ?_;rw[S.out];cases hb:K.toNat.testBit k;rfl;exact absurd (cc.2 ⟨by simpa using c,hb⟩) hkt;have e1:(jh K).map (λk:Nat=>j5 (a k) (cJ (rows++[⟨(f,g),b⟩]) k))=(jh K).map (λk:Nat=>j5 (a k) (if(k:Int)∈bM ([]:List (Int×Nat))then cJ rows k else cJ rows k++[b.v.getD k 0])):=by apply dJ;intro k _;rw[if_neg (by simp[bM])];unfold cJ;rw[dZ];rfl
   unfold kU;rw[e1,bK,eJ];exact U
  intro x v w7 hx XO ho7 Za G hen;obtain⟨k,c,hke⟩:=aI.1 ((In.rangeAt C.out).sub _ hx);injection hke with e1 e2;subst e1;subst e2;have Y1:k<8:=by have:=(cc.1 c).1;simpa using this
  have K1:(k:Int)<8:=by omega
  have l:Hid (In F w ([ie (aS .i64) tw mK d ri ((jh K).map λk:Nat=>((k:Int),a k)) (eo left (k:Int)),a8 p 215 #[.int .i64 K,o,.map (ae d)],dR 43 2 o (rows.length+1) ((rows.flatMap λr=>hC r.h)++[.int .i64 f,.int .i64 g]),a8 L 48 (ints b.list)]++(jh K).map λk:Nat=>j5 (a k) (if(k:Int)∈bM left then cJ rows k else cJ rows k++[b.v.getD k 0])) w7):=In.mC C.out XO ho7;have Uy:=af c;have HX:=af hx;have HLT:=af G;have E:b.v[k]? =ae (b.v.getD k 0):=by simp[bm,aq (show k<b.v.length by omega)]
  have M:w7.cell? ⟨L,1+k,ah⟩=ae (.int .i64 (b.v.getD k 0)):=by rw[(In.fourth l.out).blk.cell (1+k),kg,aN.list,du,eO,E];rfl
  clear XO ho7 Za G c hx E;obtain⟨y,hy⟩:∃y,b.v.getD k 0=y:=⟨_,rfl⟩;rw[hy]at M;have HY:=af hy;clear hy;go_wp2_with fail;obtain⟨F1,hA,_,t⟩:=In.FM l.out (ng K) Uy.out;have H:(k:Int)∈bM left:=aI.2 ⟨_,HX.out,rfl⟩;rw[if_pos H]at hA;obtain⟨v,W,hO,hN,D⟩:=iL.parts hA;have HB:=af t;have B:=af D;have hlc:(cJ rows k).length<=100000:=by unfold cJ;rw[bu];omega
  refine(Rl (a k) 0 218 #[v] v (cJ rows k).length ((cJ rows k).flatMap xo) (y) w7 W rfl hO hN hlc).mono ?_;rintro e w8 ⟨rfl,Z⟩;have hE2:mP w7 w8 (a k) 218 #[v] 0 v 3 1 (cJ rows k++[y]).length ((cJ rows k++[y]).flatMap xo):=by rw[bK,eJ];exact Z
  obtain⟨Y,YQ⟩:=B.out _ _ hE2;have m:=af (HB.out _ (j5 (a k) (cJ rows k++[y])) Y YQ);clear hA W hO hN D t HB B hlc Z hE2 Y YQ l H;go_wp2_with fail;go_roundw
  case rel=>
   refine⟨eo left (k:Int),?_⟩;rw[<-HY.out]at m;have:(jh K).map (λj:Nat=>j5 (a j) (if(j:Int)∈bM (eo left (k:Int))then cJ rows j else cJ rows j++[b.v.getD j 0]))=
    (jh K).map (λj:Nat=>if j=k then j5 (a k) (cJ rows k++[b.v.getD k 0])else j5 (a j) (if(j:Int)∈bM left then cJ rows j else cJ rows j++[b.v.getD j 0])):=by
    apply dJ;intro j hj;by_cases UG:j=k;subst UG;rw[if_neg,if_pos rfl];intro hm;obtain⟨q,hq,e⟩:=aI.1 hm;exact(fQ.1 hq).2 e;rw[if_neg UG];have:(j:Int)∈bM (eo left (k:Int))↔(j:Int)∈bM left:=by constructor;intro hm;obtain⟨q,hq,e⟩:=aI.1 hm;exact aI.2 ⟨q,(fQ.1 hq).1,e⟩;intro hm;obtain⟨q,hq,e⟩:=aI.1 hm;exact aI.2 ⟨q,fQ.2 ⟨hq,by simp only[e];omega⟩,e⟩
    by_cases hm:(j:Int)∈bM left;rw[if_pos hm,if_pos (this.2 hm)];rw[if_neg hm,if_neg (λh=>hm (this.1 h))]
   rw[this];exact m.out
  rw[(In.rangeAt m.out).count,(In.rangeAt C.out).count];exact HLT.out
section
variable{Z w:ai} {l:List bU} {p:Nat} {K:Int} {rows:List ck} {G:Nat->Prop}
def NV(K:Int)(f:0<=K/\K<=255)(h:In G Z l w):Calls aj 174 #[.int .i64 K] w λe b=>∃p,e=.returned (.tuple #[.pointer (ae ⟨p,0,ah⟩),.int .i64 0])/\In G Z (mE p K []::l) b:=(Uh K w).mono λe b ⟨c,a⟩=>by rw[if_pos f]at a;obtain⟨p,a,d⟩:=a;exact⟨p,a,h.new c d⟩
def zr(h:In G Z (mE p K rows::l) w)(a c:Int)(b:aN)(o:b.v.length=8)(n:rows.length<=10000):Calls aj 175 #[.pointer (ae ⟨p,0,ah⟩),.agg #[.int .i64 a,.int .i64 c],.agg (ints b.list)] w λe d=>
 e=.returned (.tuple #[.int .i64 (qE K rows ⟨(a,c),b⟩).2.1,.int .i64 (qE K rows ⟨(a,c),b⟩).2.2])/\In G Z (mE p K (qE K rows ⟨(a,c),b⟩).1::l) d:=by
 obtain⟨f,k,_,m⟩:=h.open_;exact(Uc p K rows ⟨(a,c),b⟩ f w k o n).mono λe d ⟨g,i,j⟩=>⟨g,m i j⟩
def Mk(h:In G Z (mE p K rows::l) w)(row:Int)(j:rows.length<=10000):Calls aj 181 #[.pointer (ae ⟨p,0,ah⟩),.int .i64 row] w λe a=>
 e=.returned (.tuple #[.agg (ints (lJ rows row).2.1.list),.int .i64 (lJ rows row).2.2])/\In G Z (mE p K (lJ rows row).1::l) a:=by
 obtain⟨b,g,_,i⟩:=h.open_;exact(JZ p K rows row b w g j).mono λe a ⟨c,d,f⟩=>⟨c,i d f⟩
def W8(h:In G Z (mE p K rows::l) w)(row:Int)(j:rows.length<=10000):Calls aj 73 #[.pointer (ae ⟨p,0,ah⟩),.int .i64 row] w λe a=>
 e=.returned (.tuple #[.agg (ints (tC rows row).1.list),.int .i64 (tC rows row).2])/\Below w.heap.size w a/\In G Z (mE p K rows::l) a:=by
 obtain⟨g,d⟩:=h.head;obtain⟨k,m,i,f⟩:=mE.see d;exact(J1 row w f (by omega)).mono λe a ⟨c,b⟩=>⟨c,b,h.below b⟩
def tI(h:In G Z (mE p K rows::l) w)(k:rows.length<=10000):Calls aj 96 #[.pointer (ae ⟨p,0,ah⟩)] w λe a=>∃v,e=.returned v/\a.ownsRow w.heap.size 43 2 v rows.length (rows.flatMap λr=>hC r.h)/\Below w.heap.size w a/\In G Z (mE p K rows::l) a:=by obtain⟨i,f⟩:=h.head;obtain⟨m,n,j,g⟩:=mE.see f;exact(Gw w g (by omega)).mono λe a ⟨v,c,d,b⟩=>⟨v,c,d,b,h.below b⟩
end
end
def IX{b:Type}{l:List b}(h:∀(i j:Nat)(x:b),i<j->l[i]? =ae x->l[j]? =ae x->False):l.Nodup:=by rw[List.Nodup,iV];intro i j c d a e;exact h i j l[i] a (aq c) (by rw[e];exact aq d)
structure WT where
 ks:List Int
 pt:Int->Nat
 rw:Int->List ck
 ps:List (Int×(Int×Int))
abbrev BF:=Int->Option (Int×aN)
def dL(f:BF)(s:Int)(x:Option (Int×aN)):BF:=λk=>if k=s then x else f k
def fV{a:Type}(f:Int->a)(K:Int)(x:a):Int->a:=λk=>if k=K then x else f k
def hV{a:Type}(f:Int->a)(K:Int)(x:a):fV f K x K=x:=by unfold fV;rw[if_pos rfl]
def gF{b:Type}(f:Int->b){K a:Int}(x:b)(h:a≠K):fV f K x a=f a:=by unfold fV;rw[if_neg h]
structure mg(T:WT) (f:BF):Prop where
 nd:T.ks.Nodup
 ne:∀K∈T.ks,T.rw K≠ []
 at_:∀K∈T.ks,∀(i:Nat)(r:ck),(T.rw K)[i]? =ae r->f r.h.1=ae (r.h.2,r.b)/\eI T.ps r.h.1=ae (K,(i:Int))
 all:∀s g b,f s=ae (g,b)->∃K∈T.ks,∃i:Nat,(T.rw K)[i]? =ae ⟨(s,g),b⟩
 ok:∀s g b,f s=ae (g,b)->bT b=0/\b.v.length=8/\0<=s/\s<60
def mg.nil:mg ⟨[],λ_=>0,λ_=>[],[]⟩ (λ_=>ah):=⟨List.nodup_nil,by simp,by simp,by simp,by simp⟩
section
variable{T:WT} {f:BF} {s g K:Int} {b:aN}
def mg.Ng(h:mg T f)(w:f s=ah)(v:bT b=0/\b.v.length=8/\0<=s/\s<60)(u:K∈T.ks):mg ⟨T.ks,T.pt,fV T.rw K (T.rw K++[⟨(s,g),b⟩]),iI T.ps s (K,((T.rw K).length:Int))⟩ (dL f s (ae (g,b))):=by
 refine⟨h.nd,λc a=> ?_,λc a i r d=> ?_,λq o n j=> ?_,λq o n j=> ?_⟩;simp only[fV];split;simp;exact h.ne c a;simp only at d a|-;have old:∀c∈T.ks,(T.rw c)[i]? =ae r->dL f s (ae (g,b)) r.h.1=ae (r.h.2,r.b)/\eI (iI T.ps s (K,((T.rw K).length:Int))) r.h.1=ae (c,(i:Int)):=by
  intro c a d;obtain⟨p,t⟩:=h.at_ c a i r d;have m:r.h.1≠s:=λe=>by rw[e,w]at p;cases p
  unfold dL;rw[if_neg m,lg,if_neg m];exact⟨p,t⟩
 by_cases e:c=K;subst e;rw[hV]at d;by_cases k:i<(T.rw c).length;rw[oB k]at d;exact old c a d;rw[kp (by omega)]at d;have l:i=(T.rw c).length:=by have:=(bz.1 d).1;simp at this;omega
 rw[l,pI]at d;simp at d;subst d;unfold dL;simp only[if_true];rw[lg,if_pos rfl,l];exact⟨trivial,rfl⟩;rw[gF _ _ e]at d;exact old c a d;unfold dL at j;split at j;rename_i e;cases j;subst e;refine⟨K,u,(T.rw K).length,?_⟩;simp only[hV];rw[kp (av _),pI];rfl;obtain⟨c,a,i,k⟩:=h.all q o n j;refine⟨c,a,i,?_⟩;simp only;by_cases e:c=K;subst e;rw[hV,oB (bz.1 k).1];exact k;rw[gF _ _ e];exact k;unfold dL at j;split at j;rename_i e;cases j;subst e;exact v;exact h.ok q o n j
def mg.Nf(h:mg T f)(x:f s=ah)(m:bT b=0/\b.v.length=8/\0<=s/\s<60)(u:K∉T.ks)(p:Nat):mg ⟨T.ks++[K],fV T.pt K p,fV T.rw K [⟨(s,g),b⟩],iI T.ps s (K,0)⟩ (dL f s (ae (g,b))):=by
 refine⟨?_,λk c=> ?_,λk c i r j=> ?_,λt o n d=> ?_,λt o n d=> ?_⟩;simp only;rw[List.nodup_append];exact⟨h.nd,by simp,λa w b m e=>u (by rw[eC]at m;rw[<-m,<-e];exact w)⟩;simp only[fV]at c|-;split;simp;rename_i e;rw[gK,eC]at c;rcases c with c|c;exact h.ne k c;exact absurd c e;simp only at j c|-;by_cases e:k=K;subst e;rw[hV]at j;cases i with|succ i=>simp at j|zero=>simp at j;subst j;unfold dL;simp only[if_true];rw[lg,if_pos rfl];exact⟨trivial,rfl⟩
 rw[gF _ _ e]at j;rw[gK,eC]at c;rcases c with c|c;obtain⟨q,v⟩:=h.at_ k c i r j;have l:r.h.1≠s:=λe=>by rw[e,x]at q;cases q
 unfold dL;rw[if_neg l,lg,if_neg l];exact⟨q,v⟩;exact absurd c e;unfold dL at d;split at d;rename_i e;cases d;subst e;exact⟨K,by simp,0,by simp only[hV];rfl⟩;obtain⟨k,c,i,y⟩:=h.all t o n d;refine⟨k,by simp[c],i,?_⟩;simp only;rw[gF _ _ (λe=>u (by rw[<-e];exact c))];exact y;unfold dL at d;split at d;rename_i e;cases d;subst e;exact m;exact h.ok t o n d
def vN{a:Type}(d:a)(l:List a)(i j:Nat)(c:i<l.length)(b:j<l.length-1):(cutAt d l i)[j]? =if j=i then l[l.length-1]? else l[j]?:=by unfold cutAt;rw[dS,if_pos b,ga];by_cases e:i=j;rw[if_pos e,if_pos (by omega),if_pos e.symm,bq,aq (show l.length-1<l.length by omega)];rfl;rw[if_neg e,if_neg (λh=>e h.symm)]
def gB(b:List (Int×(Int×Int)))(a:List ck)(K:Int)(i:Nat):List (Int×(Int×Int)):=if i<a.length then iI b (a.getD i aL).h.1 (K,(i:Int))else b
def mg.SP(h:mg T f)(P:K∈T.ks){i:Nat}(L:(T.rw K)[i]? =ae ⟨(s,g),b⟩):mg ⟨if(cutAt aL (T.rw K) i).length=0 then T.ks.filter (λk=> !decide (k=K))else T.ks,T.pt,fV T.rw K (cutAt aL (T.rw K) i),eo (gB T.ps (cutAt aL (T.rw K) i) K i) s⟩ (dL f s ah):=by
 have q:=(bz.1 L).1;have I:=tU aL (T.rw K) i;obtain⟨J,E⟩:=h.at_ K P i _ L;simp only at J E;have v:∀c,c∈(if(cutAt aL (T.rw K) i).length=0 then T.ks.filter (λk=> !decide (k=K))else T.ks)->c∈T.ks/\(c=K->0<(cutAt aL (T.rw K) i).length):=by intro c a;split at a;rw[cc]at a;exact⟨a.1,λe=>by simp[e]at a⟩;rename_i t;exact⟨a,λ_=>by omega⟩
 have p:∀c,c∈T.ks->(c=K->0<(cutAt aL (T.rw K) i).length)->c∈(if(cutAt aL (T.rw K) i).length=0 then T.ks.filter (λk=> !decide (k=K))else T.ks):=by
  intro c a z;split;rename_i Q;rw[cc];refine⟨a,?_⟩;have:c≠K:=λe=>by have:=z e;omega
  simpa using this;exact a
 have d:∀c∈T.ks,∀(j:Nat) r,(T.rw c)[j]? =ae r->¬(c=K/\j=i)->∀(F:Int),(c=K/\j=(T.rw K).length-1/\i<(T.rw K).length-1->F=i)->(¬(c=K/\j=(T.rw K).length-1/\i<(T.rw K).length-1)->F=j)->
  dL f s ah r.h.1=ae (r.h.2,r.b)/\eI (eo (gB T.ps (cutAt aL (T.rw K) i) K i) s) r.h.1=ae (c,F):=by
  intro c a j r l t F M B;obtain⟨w,n⟩:=h.at_ c a j r l;have D:r.h.1≠s:=λe=>by rw[e,E]at n;injection n with n;injection n with n R;exact t ⟨n.symm,by omega⟩
  unfold dL;rw[if_neg D,ud,if_neg D];refine⟨w,?_⟩;unfold gB;rw[I];by_cases o:i<(T.rw K).length-1;rw[if_pos o,lg];have A:(cutAt aL (T.rw K) i).getD i aL=(T.rw K)[(T.rw K).length-1]:=by rw[bq,vN _ _ _ _ q o,if_pos rfl,aq (by omega)];rfl
  rw[A];obtain⟨_,x⟩:=h.at_ K P ((T.rw K).length-1) _ (aq (by omega));by_cases e:r.h.1=((T.rw K)[(T.rw K).length-1]'(by omega)).h.1;rw[if_pos e];rw[<-e,n]at x;injection x with x;injection x with x S;rw[M ⟨x,by omega,o⟩,x];rw[if_neg e,n];have:¬(c=K/\j=(T.rw K).length-1/\i<(T.rw K).length-1):=by rintro⟨rfl,rfl,_⟩;rw[aq (by omega)]at l;injection l with l;exact e (by rw[l])
  rw[B this];rw[if_neg o,n,B (λh=>o h.2.2)]
 refine⟨?_,λc a=> ?_,λc a j r l=> ?_,λO H G u=> ?_,λO H G u=> ?_⟩;simp only;split;exact h.nd.sublist List.filter_sublist;exact h.nd;simp only at a|-;obtain⟨w,n⟩:=v c a;by_cases e:c=K;rw[e,hV];intro z;have:=n e;rw[z]at this;simp at this;rw[gF _ _ e];exact h.ne c w;simp only at a l|-;obtain⟨w,_⟩:=v c a;by_cases e:c=K;subst e;rw[hV]at l;have C:j<(T.rw c).length-1:=by have:=(bz.1 l).1;omega
 rw[vN _ _ _ _ q C]at l;by_cases y:j=i;rw[if_pos y]at l;exact d c w _ r l (by rintro⟨_,h⟩;omega) j (λ_=>by omega) (λh=>absurd ⟨rfl,rfl,by omega⟩ h);rw[if_neg y]at l;exact d c w j r l (λh=>y h.2) j (λh=>by omega) (λ_=>rfl);rw[gF _ _ e]at l;exact d c w j r l (λh=>e h.1) j (λh=>absurd h.1 e) (λ_=>rfl);unfold dL at u;split at u;cases u;rename_i t;obtain⟨c,a,j,m⟩:=h.all O H G u;by_cases e:c=K;subst e;have C:=(bz.1 m).1;have N:j≠i:=λe=>by rw[e,L]at m;injection m with m;injection m with m _;injection m with m _;exact t m.symm
 have z:0<(cutAt aL (T.rw c) i).length:=by omega
 refine⟨c,p c a (λ_=>z),if j=(T.rw c).length-1 then i else j,?_⟩;simp only[hV];split;rename_i y;rw[vN _ _ _ _ q (by omega),if_pos rfl,<-y];exact m;rw[vN _ _ _ _ q (by omega),if_neg N];exact m;refine⟨c,p c a (λh=>absurd h e),j,?_⟩;simp only;rw[gF _ _ e];exact m;unfold dL at u;split at u;cases u;exact h.ok O H G u
end
section
open Go.RowKit
def I9{w:ai}{B:Nat}{e:az}{size n c g i:Nat}{d:List ak}(u:ak)(h:w.ownsRow B e size (.slice (ae ⟨g,0,ah⟩) n c) n d)(y:i<n *size):(w.setCell ⟨g,i,ah⟩ u).ownsRow B e size (.slice (ae ⟨g,0,ah⟩) n c) n (d.set i u):=by obtain⟨k,l⟩:=h;refine⟨by rw[eu];exact k,?_⟩;rcases l with⟨a,x⟩|⟨v,f,b,a,r,s,m,o,p,q⟩;cases a;injection a with a t j;injection a with a;injection a with a;subst a;subst j;refine bW ⟨g,c,b.setIfInBounds i u,rfl,r,?_,m,o,?_,?_⟩;simp[dC,br,s];simp;exact p;rw[Array.toList_setIfInBounds,<-q,List.take_set]
def Tk{w:ai}{B:Nat}{e:az}{size n c g i:Nat}{j:List ak}(h:w.ownsRow B e size (.slice (ae ⟨g,0,ah⟩) n c) n j){u:ak}(f:j[i]? =ae u):w.cell? ⟨g,i,ah⟩=ae u/\w.frozen? ⟨g,i,ah⟩=au:=by obtain⟨s,m⟩:=h;rcases m with⟨a,r⟩|⟨q,k,b,a,y,d,t,v,x,o⟩;cases a;injection a with a p l;injection a with a;injection a with a;subst a;subst l;refine⟨?_,by simp[World.frozen?,d]⟩;rw[cell_of_row w g i b e (0,0) d,<-f,<-o,dS,if_pos];simp;have:=(bz.1 f).1;omega
def setB(r:ck)(k:Nat)(n:Int):ck:=⟨r.h,⟨r.b.k,r.b.v.set k n⟩⟩
def OE{K:Int}{rows:List ck}(c:xZ K rows)(i:Nat)(a:i<rows.length)(k:Nat)(f:k<8)(n:Int)(j:Nat):cJ (rows.set i (setB rows[i] k n)) j=if j=k then(cJ rows j).set i n else cJ rows j:=by
 unfold cJ;rw[List.map_set];have g:=(c _ (aR a)).2.1;have e:((setB rows[i] k n).b.v.getD j 0)=if j=k then n else rows[i].b.v.getD j 0:=by unfold setB;simp only;rw[bq,bq,ga];by_cases h:k=j;rw[if_pos h,if_pos (by omega),if_pos h.symm];rfl;rw[if_neg h,if_neg (λb=>h b.symm)]
 rw[e];split;rfl;apply iw;intro q;rw[ga];split;rename_i d;subst d;rw[if_pos (by simpa using a),dx,aq a];rfl;rfl
def W9{G:Nat->Prop}{O w:ai}{l:List bU}{p:Nat}{K:Int}{rows:List ck}(h:In G O (mE p K rows::l) w)(i:Nat)(R:i<rows.length)(hl:rows.length<=10000)(k:Nat)(u:k∈jh K)(Y1:k<8)(n:Int)(hn: -1000000000<=n/\n<=1000000000):Calls aj 134 #[.pointer (ae ⟨p,0,ah⟩),.int .i64 (i:Int),.int .i64 (k:Int),.int .i64 n] w λe w'=>e=.returned (.int .i64 0)/\In G O (mE p K (rows.set i (setB rows[i] k n))::l) w':=by
 obtain⟨H,Q,hv,mb,cb,F⟩:=h.FN;obtain⟨F0,V⟩:=h.head;have HI:=af F;have a:rM w p K rows hv mb cb:=by
  have o:=F;exact⟨H,Q,In.blk o,(In.sliceAt o).2.1,(In.third o).gZ,λk u=>by
   have U:In G O ((([a8 p 215 #[.int .i64 K,hv,.map (ae mb)],dR 43 2 hv rows.length (rows.flatMap λr=>hC r.h),PtrMap mb ((jh K).map λk:Nat=>((k:Int),cb k))]++l))++(jh K).map λk=>j5 (cb k) (cJ rows k)) w:=F.perm (by unfold kU;rw[cM,cM];exact dD _ List.perm_append_comm)
   exact U.TH (ng K) u⟩
 have D:Hid (xZ K (rows.set i (setB rows[i] k n))):=λr hr=>by
  rcases List.mem_or_eq_of_mem_set hr with hr|rfl;exact H r hr;obtain⟨g1,g2,g3⟩:=H _ (aR R);refine⟨g1,by unfold setB;simp[g2],λj hj M=> ?_⟩;have zd:k≠j:=λe=>M (by rw[<-e];exact u)
  unfold setB;simp only;rw[bq,List.getElem?_set_ne zd,<-bq];exact g3 j hj M
 have y:=af (OE H i R k Y1 n);have t:(rows.set i (setB rows[i] k n)).flatMap (λr=>hC r.h)=rows.flatMap λr=>hC r.h:=by
  have:(rows.set i (setB rows[i] k n)).map (λr=>r.h)=rows.map λr=>r.h:=by rw[List.map_set];apply iw;intro q;rw[ga];split;rename_i hq;subst hq;rw[if_pos (by simpa using R),dx,aq R];rfl;rfl
  have E:=congrArg (λl:List (Int×Int)=>l.flatMap hC) this;simp only[List.flatMap_map]at E;exact E
 have S:=af t;have b:(rows.set i (setB rows[i] k n)).length=rows.length:=eu;have B:=af b;have HK:=af Q;have L:lu rows.length (i:Int)=ar:=by unfold lu;simp;omega
 have N:XW K (k:Int)=(ae k,0):=by unfold XW;rw[if_pos (by omega),dT,if_pos u]
 have d:=af (D8 (i:Int) w a (by omega));have C:=af (W6 (k:Int) w a);rw[L]at d;rw[N]at C;obtain⟨F1,m⟩:=a.c k u;obtain⟨A3,P,f1,f2,f3,f4,T,f6,f7,f8⟩:=m.slice;have Y:(cJ rows k).length=rows.length:=by unfold cJ;rw[bu]
 have W:∃g,A3=ae ⟨g,0,ah⟩:=by obtain⟨A,c,e,_,_,hA⟩:=cu T;injection e with e;subst e;exact hA (by omega)
 obtain⟨g,rfl⟩:=W;have J:((cJ rows k).flatMap xo)[i]? =ae (.int .i64 ((cJ rows k)[i]'(by omega))):=by have:=oZ (f:=xo) (size:=1) (λ_=>rfl) (cJ rows k) i 0 (by omega) (by omega);rw[Nat.mul_one,kq]at this;rw[this];rfl
 obtain⟨q0,q2⟩:=Tk T J;obtain⟨x0,q1⟩:∃x:Int,w.cell? ⟨g,i,ah⟩=ae (.int .i64 x):=⟨_,q0⟩;have z:Hid (In G O (mE p K (rows.set i (setB rows[i] k n))::l) (w.setCell ⟨g,i,ah⟩ (.int .i64 n))):=by
  refine In.NN (hv:=hv) (mb:=mb) (cb:=cb) D.out Q ?_;have U:In G O ((([a8 p 215 #[.int .i64 K,hv,.map (ae mb)],dR 43 2 hv rows.length (rows.flatMap λr=>hC r.h),PtrMap mb ((jh K).map λk:Nat=>((k:Int),cb k))]++l))++(jh K).map λk=>j5 (cb k) (cJ rows k)) w:=F.perm (by unfold kU;rw[cM,cM];exact dD _ List.perm_append_comm)
  obtain⟨F2,X,_,s⟩:=U.FM (ng K) u;obtain⟨v,p1,p2,p3,p4⟩:=iL.parts X;have hv3:v=.slice (ae ⟨g,0,ah⟩) (cJ rows k).length P:=by have:=p1.cell 0;rw[f1]at this;simpa using this.symm
  subst hv3;have Z:g≠cb k:=λe=>p3 (by rw[e];rfl)
  have I:mP w (w.setCell ⟨g,i,ah⟩ (.int .i64 n)) (cb k) 218 #[.slice (ae ⟨g,0,ah⟩) (cJ rows k).length P] 0 (.slice (ae ⟨g,0,ah⟩) (cJ rows k).length P) 3 1 ((cJ rows k).set i n).length (((cJ rows k).set i n).flatMap xo):=by
   refine⟨.slice (ae ⟨g,0,ah⟩) (cJ rows k).length P,?_,?_,p3,λq hq=>bt hq,?_⟩;exact(p1.uW (kG Z) i _);have E:=I9 (.int .i64 n) p2 (i:=i) (by omega);have h3:((cJ rows k).flatMap xo).set i (.int .i64 n)=((cJ rows k).set i n).flatMap xo:=by have:=qS (f:=xo) (size:=1) (λ_=>rfl) (cJ rows k) i 0 n (.int .i64 n) (by omega) (by omega) rfl;rwa[Nat.mul_one,kq]at this
   rw[h3]at E;rw[eu];exact E;exact(cY.refl.setCell (bt (bW rfl)) i _)
  obtain⟨r1,r2⟩:=p4 _ _ I;have h5:=s _ (j5 (cb k) ((cJ rows k).set i n)) r1 r2;have h6:((jh K).map λj=>if j=k then j5 (cb k) ((cJ rows k).set i n)else j5 (cb j) (cJ rows j))=(jh K).map λj=>j5 (cb j) (cJ (rows.set i (setB rows[i] k n)) j):=by apply dJ;intro j _;rw[y.out];by_cases e:j=k;rw[if_pos e,if_pos e,e];rw[if_neg e,if_neg e]
  rw[h6]at h5;unfold kU;rw[b,t];refine h5.perm ?_;rw[cM,cM];exact dD _ List.perm_append_comm
 have VF:decide (n< -1000000000)=au:=decide_eq_false (by omega);have hd2:decide (1000000000<n)=au:=decide_eq_false (by omega);have hil:(i:Int)<(cJ rows k).length:=by omega
 clear h F HI a V H Q t b L N q0 m f2 f3 f4 T f6 f7 f8 D y S B HK Y J;go_enter func134,ntmps134;go_wp2_with fail;refine d.out.mono ?_;rintro e w1 ⟨rfl,rfl⟩;go_wp2_with fail;refine C.out.mono ?_;rintro e w1 ⟨rfl,rfl⟩;simp only[RA];go_wp2_with fail;go_ret;exact⟨rfl,z.out⟩
end
def tR(b:aN):bT b=0↔(0<=b.k/\b.k<=255)/\∀j,j<8->(b.k.toNat.testBit j=au->b.v.getD j 0=0)/\ -1000000000<=b.v.getD j 0/\b.v.getD j 0<=1000000000:=by refine⟨mh b,λ⟨a,d⟩=>qg b (by unfold cX;simp[a.1,a.2]) λj e=> ?_⟩;obtain⟨c,f,g⟩:=d j e;unfold ky;rw[if_neg (λh=>h.2 (c h.1)),if_neg (by omega)]
def sI(b:aN)(k:Nat)(n:Int):aN:=⟨((b.k.toNat ||| 2^k:Nat):Int),b.v.set k n⟩
def qN(b:aN)(k:Nat):aN:=⟨((b.k.toNat-2^k:Nat):Int),b.v.set k 0⟩
def Ns:∀(m k j:Nat),m<256->k<8->j<8->(m ||| 2^k).testBit j=(m.testBit j||decide (k=j))/\(m ||| 2^k)<256:=by
 have h:∀(m:Fin 256)(k j:Fin 8),(m.val ||| 2^k.val).testBit j.val=(m.val.testBit j.val||decide (k.val=j.val))/\(m.val ||| 2^k.val)<256:=by decide+kernel
 exact λm k j hm b a=>h ⟨m,hm⟩ ⟨k,b⟩ ⟨j,a⟩
def Ua:∀(m k j:Nat),m<256->k<8->j<8->m.testBit k=ar->(m-2^k).testBit j=(m.testBit j&& !decide (k=j)):=by
 have h:∀(m:Fin 256)(k j:Fin 8),m.val.testBit k.val=ar->(m.val-2^k.val).testBit j.val=(m.val.testBit j.val&& !decide (k.val=j.val)):=by decide+kernel
 exact λm k j hm b a=>h ⟨m,hm⟩ ⟨k,b⟩ ⟨j,a⟩
def Nt:∀(m k:Nat),m<256->k<8->m.testBit k=ar->(m ||| 2^k)=m:=by
 have h:∀(m:Fin 256)(k:Fin 8),m.val.testBit k.val=ar->(m.val ||| 2^k.val)=m.val:=by decide+kernel
 exact λm k hm a=>h ⟨m,hm⟩ ⟨k,a⟩
def DW{v:List Int}{k j:Nat}(b:v.length=8)(a:k<8)(n:Int):(v.set k n).getD j 0=if j=k then n else v.getD j 0:=by rw[bq,bq,ga];by_cases e:k=j;rw[if_pos e,if_pos (by omega),if_pos e.symm];rfl;rw[if_neg e,if_neg (λh=>e h.symm)]
def zg{b:aN}(g:bT b=0)(d:b.v.length=8){k:Nat}(a:k<8){n:Int}(i: -1000000000<=n/\n<=1000000000):bT (sI b k n)=0/\(sI b k n).v.length=8:=by
 obtain⟨l,f⟩:=(tR b).1 g;refine⟨(tR _).2 ⟨?_,λj c=> ?_⟩,by unfold sI;rw[eu,d]⟩;have:=(Ns b.k.toNat k 0 (by omega) a (by omega)).2;unfold sI;simp only;omega;unfold sI;simp only[dT];rw[(Ns b.k.toNat k j (by omega) a c).1,DW d a];by_cases e:j=k;rw[if_pos e];simp[e,i];rw[if_neg e];have:decide (k=j)=au:=by simpa using λh=>e h.symm
 rw[this,Bool.or_false];exact f j c
def Hz{b:aN}(g:bT b=0)(d:b.v.length=8){k:Nat}(c:k<8)(i:b.k.toNat.testBit k=ar):bT (qN b k)=0/\(qN b k).v.length=8:=by
 obtain⟨l,f⟩:=(tR b).1 g;refine⟨(tR _).2 ⟨?_,λj a=> ?_⟩,by unfold qN;rw[eu,d]⟩;unfold qN;simp only;have:=Nat.sub_le b.k.toNat (2^k);generalize b.k.toNat-2^k=q at *;omega;unfold qN;simp only[dT];rw[Ua b.k.toNat k j (by omega) c a i,DW d c];by_cases e:j=k;rw[if_pos e];simp;rw[if_neg e];have:decide (k=j)=au:=by simpa using λh=>e h.symm
 rw[this];simpa using f j a
def IK{d:List (Int×Bool)}{k:Nat}(h:k<d.length)(g:Int)(b:Bool)(s a:Int):eh (d.set k (g,b)) s a=if s=(k:Int)then(decide (g=a)&&b)else eh d s a:=by
 unfold eh;rw[eu];by_cases e:s=(k:Int);subst e;rw[if_pos rfl];simp[h,bq];rw[if_neg e];by_cases f:0<=s;have c:k≠s.toNat:=by omega
 rw[bq,List.getElem?_set_ne c,<-bq];simp[f]
def SQ(a:List (Int×Bool))(s c:Int):eh (a++[(0,ar)]) s c=if s=(a.length:Int)then decide (0=c)else eh a s c:=by unfold eh;rw[bK,List.length_singleton];by_cases e:s=(a.length:Int);subst e;rw[if_pos rfl];have b:decide ((a.length:Int)<((a.length+1:Nat):Int))=ar:=decide_eq_true (by omega);rw[b];simp[bq];rw[if_neg e];by_cases f:0<=s;by_cases b:s<a.length;have d:decide (s<((a.length+1:Nat):Int))=ar:=decide_eq_true (by omega);rw[bq,oB (by omega),<-bq,d,decide_eq_true b];have d:decide (s<((a.length+1:Nat):Int))=au:=decide_eq_false (by omega);rw[d,decide_eq_false b];simp;simp[f]
def xO{c:List (Int×Bool)}(f:c.length<=60):jq c=(c,(0,0),2)\/∃(k:Nat)(g:Int)(d:List (Int×Bool)),jq c=(d,((k:Int),g),0)/\k<60/\(∀b,eh c k b=au)/\∀s b,eh d s b=if s=(k:Int)then decide (g=b)else eh c s b:=by unfold jq;by_cases a:c.findIdx kJ<c.length;right;rw[if_pos a];refine⟨_,_,_,rfl,by omega,λb=> ?_,λs b=> ?_⟩;have e:=List.findIdx_getElem (w:=a);simp only[kJ,aG,Bool.not_eq_true']at e;rw[Ec a,sl,we a,e.1,Bool.and_false];rw[IK a];simp;rw[if_neg a];by_cases h:c.length=60;exact bt (by rw[if_pos h]);right;rw[if_neg h];refine⟨_,_,_,rfl,by omega,λb=> ?_,λs b=>SQ c s b⟩;unfold eh;simp
structure nl(ls:List (Int×Bool)) (f:BF):Prop where
 so:Ri ls
 lv:∀s g,eh ls s g=ar↔∃b,f s=ae (g,b)
 bo:∀s g b,f s=ae (g,b)->bT b=0/\b.v.length=8
def nl.nil:nl [] (λ_=>ah):=⟨Ri.nil,λs g=>by simp[eh],by simp⟩
def fL(a:List (Int×Bool))(f:BF)(b:aN):(List (Int×Bool)×BF)×(Int×Int)×Int:=
 if bT b≠0 then((a,f),(0,0),bT b)
 else if(jq a).2.2=0 then(((jq a).1,dL f (jq a).2.1.1 (ae ((jq a).2.1.2,b))),(jq a).2.1,0)
 else(((jq a).1,f),(jq a).2.1,(jq a).2.2)
def mL(a:List (Int×Bool))(f:BF)(h:Int×Int):(List (Int×Bool)×BF)×Int:=if eh a h.1 h.2 then(((oa a h.1 h.2).1,dL f h.1 ah),0)else((a,f),7)
def cZ(f:BF)(s:Int):aN:=((f s).getD (0,⟨0,[]⟩)).2
def rq(b:List (Int×Bool))(f:BF)(h:Int×Int)(a n:Int):BF×Int:=
 if !eh b h.1 h.2 then(f,7)else if¬(0<=a/\a<8)\/n< -1000000000\/1000000000<n then(f,1)
 else(dL f h.1 (ae (h.2,sI (cZ f h.1) a.toNat n)),0)
def oX(b:List (Int×Bool))(f:BF)(h:Int×Int)(a:Int):BF×Int:=
 if !eh b h.1 h.2 then(f,7)else if¬(0<=a/\a<8)then(f,1)
 else if(cZ f h.1).k.toNat.testBit a.toNat=au then(f,5)
 else(dL f h.1 (ae (h.2,qN (cZ f h.1) a.toNat)),0)
section
variable{Z:List (Int×Bool)} {f:BF}
def nl.get(h:nl Z f){s g:Int}(c:eh Z s g=ar):f s=ae (g,cZ f s):=by obtain⟨b,a⟩:=(h.lv s g).1 c;unfold cZ;rw[a];rfl
def nl.upd(h:nl Z f){s g:Int}(m:eh Z s g=ar){b:aN}(n:bT b=0/\b.v.length=8):nl Z (dL f s (ae (g,b))):=by refine⟨h.so,λi j=> ?_,λi j l c=> ?_⟩;unfold dL;by_cases e:i=s;subst e;rw[if_pos rfl];constructor;intro k;have a:=h.get m;rw[h.get k]at a;injection a with a;injection a with a _;exact⟨b,by rw[a]⟩;rintro⟨l,d⟩;injection d with d;injection d with a _;rw[<-a];exact m;rw[if_neg e];exact h.lv i j;unfold dL at c;split at c;injection c with c;injection c with _ c;rw[<-c];exact n;exact h.bo i j l c
def nl.spawn(h:nl Z f){b:aN}(o:b.v.length=8):nl (fL Z f b).1.1 (fL Z f b).1.2:=by unfold fL;by_cases i:bT b=0;rw[if_neg (λh=>h i)];rcases xO h.so.1 with l|⟨k,g,p,l,q,j,c⟩;rw[l,if_neg (by simp)];exact h;have m:=W1 h.so;rw[l]at m|-;rw[if_pos rfl];refine⟨m,λs d=> ?_,λs d n a=> ?_⟩;simp only;rw[c];unfold dL;by_cases e:s=(k:Int);rw[if_pos e,if_pos e];simp;rw[if_neg e,if_neg e];exact h.lv s d;simp only[dL]at a;split at a;injection a with a;injection a with _ a;rw[<-a];exact⟨i,o⟩;exact h.bo s d n a;rw[if_pos i];exact h
def nl.kill(h:nl Z f)(x:Int×Int):nl (mL Z f x).1.1 (mL Z f x).1.2:=by unfold mL;split;rename_i i;refine⟨Vx h.so _ _,λs g=> ?_,λs g b a=> ?_⟩;obtain⟨k,c,d,j⟩:=q9 i;simp only;unfold oa;rw[if_pos i];simp only[c,dT];rw[IK d];unfold dL;by_cases e:s=(k:Int);rw[if_pos e,if_pos e];simp;rw[if_neg e,if_neg e];exact h.lv s g;simp only[dL]at a;split at a;cases a;exact h.bo s g b a;exact h
def nl.put(h:nl Z f)(x:Int×Int)(a n:Int):nl Z (rq Z f x a n).1:=by
 unfold rq;split;exact h;rename_i b;split;exact h;rename_i e;have b:eh Z x.1 x.2=ar:=by simpa using b
 obtain⟨c,d⟩:=h.bo _ _ _ (h.get b);exact h.upd b (zg c d (by omega) (by omega))
def nl.drop(h:nl Z f)(x:Int×Int)(a:Int):nl Z (oX Z f x a).1:=by
 unfold oX;split;exact h;rename_i b;split;exact h;split;exact h;rename_i g e;have b:eh Z x.1 x.2=ar:=by simpa using b
 obtain⟨c,d⟩:=h.bo _ _ _ (h.get b);exact h.upd b (Hz c d (by omega) (by simpa using e))
end
def wL(f:BF)(h:Int×Int):Option ck:=(f h.1).map λx=>⟨h,x.2⟩
def tD(a:List (Int×Bool))(f:BF)(q:Query):List ck:=((kN a).filterMap (wL f)).filter λr=>fu r.b.k q
def QS(a b:ck):Prop:=a.h.1<b.h.1
def wo(e:List (Int×Bool)):∀k,(lD e k).Pairwise (λa b=>a.1<b.1)/\∀x∈lD e k,x.1<k
 |0=>⟨List.Pairwise.nil,by simp[lD]⟩|k+1=>by obtain⟨g,f⟩:=wo e k;rw[lD];refine⟨List.pairwise_append.2 ⟨g,by split<;>simp,λa h b d=> ?_⟩,λx c=> ?_⟩;have:=f a h;split at d;rw[eC.1 d];exact this;cases d;rcases gK.1 c with c|c;have:=f x c;omega;split at c;rw[eC.1 c];show(k:Int)<_;omega;cases c
def ox{a:List (Int×Bool)}{h:Int×Int}:h∈kN a↔eh a h.1 h.2=ar:=by rw[SR];constructor;rintro⟨j,e,rfl,b⟩;show eh a (j:Int) (sl a j).1=ar;rw[Ec e,b];simp;intro f;obtain⟨k,d,b,c⟩:=q9 f;refine⟨k,b,?_,?_⟩;show h=((k:Int),(a.getD k (0,au)).1);rw[c];exact Prod.ext d rfl;show(a.getD k (0,au)).2=ar;rw[c]
section
variable{Z:List (Int×Bool)} {f:BF}
def Nl(h:nl Z f){r:ck}:r∈(kN Z).filterMap (wL f)↔f r.h.1=ae (r.h.2,r.b):=by rw[List.mem_filterMap];constructor;rintro⟨x,e,a⟩;have d:=ox.1 e;have b:=h.get d;unfold wL at a;rw[b]at a;simp only[eT,Option.some.injEq]at a;rw[<-a];exact b;intro c;refine⟨r.h,ox.2 ((h.lv _ _).2 ⟨_,c⟩),?_⟩;unfold wL;rw[c];rfl
def Po(h:nl Z f){q:Query}{r:ck}:r∈tD Z f q↔f r.h.1=ae (r.h.2,r.b)/\fu r.b.k q=ar:=by unfold tD;rw[cc,Nl h]
def rO(Z:List (Int×Bool))(f:BF):((kN Z).filterMap (wL f)).Pairwise QS:=by refine List.Pairwise.filterMap _ ?_ (wo Z Z.length).1;intro a b c x d y e;unfold wL at d e;obtain⟨_,_,rfl⟩:=aF.1 d;obtain⟨_,_,rfl⟩:=aF.1 e;exact c
def Gf(Z:List (Int×Bool))(f:BF)(q:Query):(tD Z f q).Pairwise QS:=(rO Z f).filter _
def wT{l:List ck}(h:l.Pairwise QS):l.Nodup:=h.imp λ{a b} h e=>by unfold QS at h;rw[e]at h;omega
def WE{l c:List ck}(h:l.Pairwise QS)(d:c.Pairwise QS)(g:∀r,r∈l↔r∈c):l=c:=by
 refine List.Perm.eq_of_pairwise (le:=QS) (λa b _ _ e f=>by unfold QS at e f;omega) h d ?_
 classical
 exact(List.perm_ext_iff_of_nodup (wT h) (wT d)).2 g
def yF:Query:=⟨0,0,0⟩
def P5(Z:List (Int×Bool))(f:BF)(q:Query):(tD Z f q).length<=Z.length:=by unfold tD;refine be (List.length_filter_le _ _) (be (List.length_filterMap_le _ _) ?_);unfold kN;exact Ed Z _
def Mj{T:WT}{f:BF}(g:mg T f)(h:∀K∈T.ks,∀r∈T.rw K,r.b.k=K)(q:Query){r:ck}:(∃K∈T.ks,fu K q=ar/\r∈T.rw K)↔f r.h.1=ae (r.h.2,r.b)/\fu r.b.k q=ar:=by constructor;rintro⟨K,a,hm,b⟩;obtain⟨i,d,e⟩:=dn.1 b;obtain⟨c,_⟩:=g.at_ K a i r (by rw[aq d,e]);rw[h K a r b];exact⟨c,hm⟩;rintro⟨c,j⟩;obtain⟨K,a,i,d⟩:=g.all _ _ _ c;have b:r∈T.rw K:=jw d;exact⟨K,a,by rw[<-h K a r b];exact j,b⟩
def JV{T:WT}(A:mg T f)(h:nl Z f)(N:∀K∈T.ks,∀r∈T.rw K,r.b.k=K)(q:Query){p:List Int}(hp:p.Perm T.ks){v:List ck}(F:v.Perm ((p.filter λK=>fu K q).flatMap T.rw))(O:v.Pairwise λa b=>¬b.h.1<a.h.1):v=tD Z f q:=by
 have t:∀r,r∈v↔f r.h.1=ae (r.h.2,r.b)/\fu r.b.k q=ar:=by intro r;rw[F.mem_iff,lN,<-Mj A N q];constructor;rintro⟨K,o,m⟩;rw[cc]at o;exact⟨K,hp.mem_iff.1 o.1,o.2,m⟩;rintro⟨K,o,hm,m⟩;exact⟨K,cc.2 ⟨hp.mem_iff.2 o,hm⟩,m⟩
 have D:(((p.filter λK=>fu K q).flatMap T.rw).map λr=>r.h.1).Nodup:=by
  have s:(p.filter λK=>fu K q).Nodup:=(hp.nodup_iff.2 A.nd).sublist List.filter_sublist;have c:∀K∈(p.filter λK=>fu K q),K∈T.ks:=λK o=>hp.mem_iff.1 (cc.1 o).1
  generalize (p.filter λK=>fu K q)=G at s c
  induction G with
  |nil=>simp|cons K G P=>
   obtain⟨H,I⟩:=List.nodup_cons.1 s;rw[cN,dZ,List.nodup_append];have n:∀l∈T.ks,∀(i:Nat) r,(T.rw l)[i]? =ae r->eI T.ps r.h.1=ae (l,(i:Int)):=λl g i r m=>(A.at_ l g i r m).2
   refine⟨?_,P I (λl g=>c l (ju _ g)),?_⟩;refine IX λi j x M y z=> ?_
   rw[dx]at y z;obtain⟨r,m,rfl⟩:=aF.1 y;obtain⟨E,k,e⟩:=aF.1 z;have d:=n K (c K (by simp)) i r m;have w:=n K (c K (by simp)) j E k;rw[<-e,w]at d;injection d with d;injection d with _ d;omega;intro a J b L e;obtain⟨r,m,rfl⟩:=aI.1 J;obtain⟨E,k,rfl⟩:=aI.1 L;obtain⟨l,g,k⟩:=lN.1 k;obtain⟨i,y,B⟩:=dn.1 m;obtain⟨j,z,C⟩:=dn.1 k;have d:=n K (c K (by simp)) i r (by rw[aq y,B]);have w:=n l (c l (ju _ g)) j E (by rw[aq z,C]);rw[e,w]at d;injection d with d;injection d with d _;exact H (by rw[<-d];exact g)
 have u:(v.map λr=>r.h.1).Nodup:=(F.map _).nodup_iff.2 D;refine WE ?_ (Gf Z f q) λr=>by rw[t,Po h]
 rw[List.Nodup,List.pairwise_map]at u;exact(O.and u).imp λ{a b} ⟨d,w⟩=>by unfold QS;omega
end
def Ij{b d:Type}{f g:b->Option d}:∀{l:List b},(∀x∈l,f x=g x)->l.filterMap f=l.filterMap g|[],_=>rfl|a::l,h=>by rw[List.filterMap_cons,List.filterMap_cons,h a (by simp),Ij (l:=l) λx c=>h x (by simp[c])]
section
variable{Z:List (Int×Bool)} {f:BF}
def lB(Z:List (Int×Bool))(f:BF):List ck:=(kN Z).filterMap (wL f)
def lF(h:nl Z f){r:ck}:r∈lB Z f↔f r.h.1=ae (r.h.2,r.b):=Nl h
def Bd(a:∀k,fu k yF=ar):tD Z f yF=lB Z f:=by unfold tD lB;exact List.filter_eq_self.2 λr _=>a _
def SS(h:nl Z f){x y:Int×Int}(c:eh Z x.1 x.2=ar)(d:eh Z y.1 y.2=ar)(e:x.1=y.1):x=y:=by have b:=h.get c;have a:=h.get d;rw[e]at b;rw[b]at a;injection a with a;injection a with a _;exact Prod.ext e a
end
def Alike(m a:ja):Prop:=∀x,eI m x=eI a x
section
variable{m Z:ja} {c p h x y:Hd}
def uH(d:(bM m).Nodup):m.Nodup:=List.Pairwise.of_map (·.1) (λa b c e=>c (by rw[e])) d
def Alike.symm(a:Alike m Z):Alike Z m:=λx=>(a x).symm
def sT(b:(bM m).Nodup):Alike (dA m) m:=λx=>by have hp:(dA m).Perm m:=iC m _;have a:(bM (dA m)).Nodup:=(hp.map _).nodup_iff.2 b;apply Option.ext;intro v;rw[mx a,mx b,hp.mem_iff]
def yd(a:(bM m).Nodup):(bM (dA m)).Nodup:=((iC m _).map _).nodup_iff.2 a
def nD(c:(bM m).Nodup)(a:(bM Z).Nodup)(e:Alike m Z):dA m=dA Z:=by
 have hp:(dA Z).Perm m:=by
  have d:Z.Perm m:=(List.perm_ext_iff_of_nodup (uH a) (uH c)).2 λb=>by rw[<-mx a,<-mx c,e]
  exact(iC Z _).trans d
 exact(je (·.1) (nC c) hp (lf (·.1) Z)).symm
def Hl(a:(bM m).Nodup):dA (dA m)=dA m:=nD (yd a) a (sT a)
def Alike.up(a:Alike m Z)(b:Up m x y):Up Z x y:=b.mono λc p e=>by rw[<-a];exact e
def Alike.ZU(a:Alike m Z):Up m x y↔Up Z x y:=⟨a.up,a.symm.up⟩
def Alike.kids(b:(bM m).Nodup)(a:(bM Z).Nodup)(c:Alike m Z)(h:Hd):kids m h=kids Z h:=by refine xN ((List.perm_ext_iff_of_nodup (u9 b h) (u9 a h)).2 λx=> ?_) (nM _) (nM _);rw[kP b,kP a,c]
def Alike.sG(a:Alike m Z)(h:nR m):nR Z:=h.sub λc p e=>by rw[a];exact e
def Alike.under(hm:jA m)(a:jA Z)(b:Alike m Z)(h:Hd):under m h=under Z h:=by
 refine sq hm.nodup hm.sG (λh=>Go.Proofs.YtknejlcijdngoaaGreat.under m h=Go.Proofs.YtknejlcijdngoaaGreat.under Z h) (λh e=> ?_) h;rw[tJ hm.nodup hm.sG,tJ a.nodup a.sG,Alike.kids hm.nodup a.nodup b];refine oq λc d=> ?_
 rw[e c (by rw[b];exact(kP a.nodup).1 d)]
def Alike.put(a:Alike m Z)(c p:Hd):Alike (iI m c p) (iI Z c p):=λx=>by rw[lg,lg,a]
def Alike.del(a:Alike m Z)(c:Hd):Alike (eo m c) (eo Z c):=λx=>by rw[ud,ud,a]
def Alike.qF(b:Alike m Z)(c p:Hd):Alike (fh m c p).1 (fh Z c p).1/\(fh m c p).2=(fh Z c p).2:=by
 unfold fh;have e:(c=p\/Up m p c)↔(c=p\/Up Z p c):=by rw[b.ZU]
 by_cases a:c=p\/Up m p c;rw[if_pos a,if_pos (e.1 a)];exact⟨b,rfl⟩;rw[if_neg a,if_neg (λh=>a (e.2 h))];exact⟨b.put c p,rfl⟩
def Alike.loosen(a:Alike m Z)(c:Hd):Alike (fy m c).1 (fy Z c).1/\(fy m c).2=(fy Z c).2:=by unfold fy;rw[a c];split;exact⟨a.del c,rfl⟩;exact⟨a,rfl⟩
end
def Dw:dA []=[]:=by unfold dA;simp
structure ZS where
 ls:List (Int×Bool)
 f:BF
 B:ja
def ZS.live(z:ZS)(h:Hd):Bool:=eh z.ls h.1 h.2
structure jT(z:ZS):Prop where
 w:nl z.ls z.f
 qk:jA z.B
 Qk:dA z.B=z.B
 lv:∀b∈z.B,z.live b.1=ar/\z.live b.2=ar
def nN:ZS:=⟨[],λ_=>ah,[]⟩
def jT.nil:jT nN:=⟨nl.nil,jA.nil,by unfold nN dA;simp,by simp[nN]⟩
def ZS.rows(z:ZS):List ck:=lB z.ls z.f
def yk(z:ZS)(x:Hd):ZS:=⟨(mL z.ls z.f x).1.1,(mL z.ls z.f x).1.2,nH z.B x⟩
def sB(z:ZS)(l:List Hd):ZS:=l.foldl yk z
noncomputable def yl(z:ZS)(x:Hd):List Hd:=(under z.B x).reverse++[x]
noncomputable def qY(z:ZS)(x:Hd):ZS×Int:=if z.live x=ar then(sB z (yl z x),0)else(z,7)
noncomputable def qd(z:ZS)(c p:Hd):ZS×Int:=if z.live c=ar/\z.live p=ar then(⟨z.ls,z.f,dA (fh z.B c p).1⟩,(fh z.B c p).2)else(z,7)
def nu(z:ZS)(c:Hd):ZS×Int:=if z.live c=ar then(⟨z.ls,z.f,(fy z.B c).1⟩,(fy z.B c).2)else(z,7)
noncomputable def sK(z:ZS)(o:ft):ZS×Hd×Int:=
 if o.d=1 then(⟨(fL z.ls z.f o.b).1.1,(fL z.ls z.f o.b).1.2,z.B⟩,(fL z.ls z.f o.b).2.1,(fL z.ls z.f o.b).2.2)
 else if o.d=2 then((qY z o.a).1,(0,0),(qY z o.a).2)
 else if o.d=3 then(⟨z.ls,(rq z.ls z.f o.a o.k o.n).1,z.B⟩,(0,0),(rq z.ls z.f o.a o.k o.n).2)
 else if o.d=4 then(⟨z.ls,(oX z.ls z.f o.a o.k).1,z.B⟩,(0,0),(oX z.ls z.f o.a o.k).2)
 else if o.d=5 then((qd z o.a o.t).1,(0,0),(qd z o.a o.t).2)
 else if o.d=6 then((nu z o.a).1,(0,0),(nu z o.a).2)
 else(z,(0,0),1)
section
variable{z:ZS} {x c p:Hd}
def Ea(h:nl z.ls z.f)(y:Hd):eh (mL z.ls z.f x).1.1 y.1 y.2=(eh z.ls y.1 y.2&& !decide (y=x)):=by
 have i:=(h.kill x).lv y.1 y.2;have f:=h.lv y.1 y.2;rw[mF,i,aG,f];unfold mL;by_cases d:eh z.ls x.1 x.2=ar;rw[if_pos d];simp only[dL];by_cases e:y.1=x.1;rw[if_pos e];constructor;rintro⟨b,c⟩;cases c;rintro⟨c,a⟩;exact absurd (SS h (f.2 c) d e) (by simpa using a);rw[if_neg e];have a:y≠x:=λg=>e (by rw[g])
 simp[a];rw[if_neg d];constructor;intro c;refine⟨c,?_⟩;have a:y≠x:=λe=>d (by rw[<-e];exact f.2 c)
 simpa using a;exact λc=>c.1
def jT.yk(h:jT z)(x:Hd):jT (yk z x):=by
 refine⟨h.w.kill x,h.qk.gone x,?_,λb c=> ?_⟩;change dA (nH z.B x)=nH z.B x;rw[zI h.qk.nodup,h.Qk];rfl;have a:b∈z.B/\¬b.1=x/\¬b.2=x:=by have c:b∈nH z.B x:=c;unfold nH at c;rw[cc]at c;simpa using c
 have f:=h.lv b a.1;change eh (mL z.ls z.f x).1.1 b.1.1 b.1.2=ar/\eh (mL z.ls z.f x).1.1 b.2.1 b.2.2=ar;rw[Ea h.w,Ea h.w];have d:eh z.ls b.1.1 b.1.2=ar:=f.1;have e:eh z.ls b.2.1 b.2.2=ar:=f.2;rw[d,e];simp[a.2.1,a.2.2]
def jT.sB(h:jT z)(l:List Hd):jT (sB z l):=by
 unfold Go.Proofs.YtknejlcijdngoaaGreat.sB
 induction l generalizing z with|nil=>exact h|cons a l b=>exact b (h.yk a)
def jT.kill(h:jT z)(x:Hd):jT (qY z x).1:=by unfold qY;split;exact h.sB _;exact h
def jT.qF(h:jT z)(c p:Hd):jT (qd z c p).1:=by
 unfold qd;split;rename_i f;have d:=h.qk.qF c p;refine⟨h.w,⟨yd d.nodup,(sT d.nodup).symm.sG d.sG⟩,Hl d.nodup,λb a=> ?_⟩;change b∈dA (fh z.B c p).1 at a;rw[Pn d.nodup]at a;have old:eI z.B b.1=ae b.2->z.live b.1=ar/\z.live b.2=ar:=λe=>h.lv b ((mx h.qk.nodup).1 e)
 unfold fh at a;split at a;exact old a;simp only at a;rw[lg]at a;split at a;rename_i e;injection a with a;rw[e,<-a];exact f;exact old a;exact h
def C0(h:dA z.B=z.B)(P:Hd×Hd->Bool)(c:(bM z.B).Nodup):dA (z.B.filter P)=z.B.filter P:=by have a:=lf (λb:Hd×Hd=>b.1) z.B;change List.Pairwise _ (dA z.B)at a;rw[h]at a;exact(je (λb:Hd×Hd=>b.1) (nC (m:=z.B.filter P) (c.sublist (List.filter_sublist.map _))) (oI _) (a.sublist List.filter_sublist)).symm
def jT.loosen(h:jT z)(c:Hd):jT (nu z c).1:=by unfold nu;split;refine⟨h.w,h.qk.loosen c,?_,λb a=> ?_⟩;unfold fy;split;exact C0 h.Qk _ h.qk.nodup;exact h.Qk;change b∈(fy z.B c).1 at a;unfold fy at a;split at a;exact h.lv b (fQ.1 a).1;exact h.lv b a;exact h
def Eg{d a:List (Int×Bool)}{f c:BF}(h:nl d f)(i:nl a c)(l:∀s g b,f s=ae (g,b)->∃e,c s=ae (g,e)){s g:Int}(k:eh d s g=ar):eh a s g=ar:=by obtain⟨b,j⟩:=(h.lv s g).1 k;exact(i.lv s g).2 (l s g b j)
def EI{l:List (Int×Bool)}{f:BF}(h:nl l f){b:aN}(s g:Int)(i:aN)(e:f s=ae (g,i)):(fL l f b).1.2 s=ae (g,i):=by unfold fL;by_cases j:bT b=0;rw[if_neg (λh=>h j)];rcases xO h.so.1 with d|⟨k,o,n,d,p,a,c⟩;rw[d,if_neg (by simp)];exact e;rw[d,if_pos rfl];simp only[dL];rw[if_neg];exact e;intro m;have:=(h.lv s g).2 ⟨_,e⟩;rw[m,a]at this;cases this;rw[if_pos j];exact e
def jT.do_(h:jT z){o:ft}(f:o.b.v.length=8):jT (sK z o).1:=by unfold sK;split;have a:=h.w.spawn (b:=o.b) f;refine⟨a,h.qk,h.Qk,λb d=> ?_⟩;have c:=h.lv b d;exact⟨Eg h.w a (λs g b e=>⟨b,EI h.w s g b e⟩) c.1,Eg h.w a (λs g b e=>⟨b,EI h.w s g b e⟩) c.2⟩;split;exact h.kill _;split;exact⟨h.w.put _ _ _,h.qk,h.Qk,h.lv⟩;split;exact⟨h.w.drop _ _,h.qk,h.Qk,h.lv⟩;split;exact h.qF _ _;split;exact h.loosen _;exact h
def jT.len(h:jT z):z.B.length<=60:=by
 have d:=tq (l:=bM z.B) (l':=kN z.ls) h.qk.nodup λx c=>by obtain⟨b,a,rfl⟩:=aI.1 c;exact ox.2 (h.lv b a).1
 have e:(kN z.ls).length<=z.ls.length:=by rw[Lj];exact List.countP_le_length
 have f:=h.w.so.1;have g:(bM z.B).length=z.B.length:=by simp[bM]
 omega
end
def eY(a now:aN)(k:Nat):aN:=⟨a.k,pd (λi=>now.v.getD ((kinds a.k.toNat).getD i 0) 0) (kinds a.k.toNat) a.v k⟩
def LA(f:Nat->Int)(l:List Nat)(v:List Int)(b:l.Nodup){k:Nat}(a:k<l.length):∀i,i<=k->(pd f l v i).getD (l.getD k 0) 0=v.getD (l.getD k 0) 0:=by
 intro i
 induction i with
 |zero=>intro _;rfl|succ i c=>intro d;unfold pd;rw[s9,if_neg];exact c (by omega);rintro⟨e,_⟩;rw[ns (show i<l.length by omega),ns a]at e;exact(iV.1 (List.nodup_iff_pairwise_ne.1 b) i k (by omega) a (by omega)) e
def Qf{v:List Int}{k:Nat}{x:Int}(h:v.getD k 0=x)(a:k<v.length):v.set k x=v:=by apply List.ext_getElem (by simp);intro i b c;rw[List.getElem_set];split;rename_i e;subst e;rw[<-h];simp[bm,a];rfl
section
variable{Z now:aN}
def IV{k:Nat}:(eY Z now k).v.length=Z.v.length:=wz _ _ _ _
def yn{k:Nat}:eY Z now (k+1)=⟨Z.k,(eY Z now k).v.set ((kinds Z.k.toNat).getD k 0) (now.v.getD ((kinds Z.k.toNat).getD k 0) 0)⟩:=rfl
def IU(e:Z.v.length=8){k:Nat}(a:k<(kinds Z.k.toNat).length)(d:now.v.getD (kinds Z.k.toNat)[k] 0=Z.v.getD (kinds Z.k.toNat)[k] 0):eY Z now (k+1)=eY Z now k:=by have hm:=(jg Z.k.toNat _).1 (aR a);rw[yn,ns a];have b:=LA (λi=>now.v.getD ((kinds Z.k.toNat).getD i 0) 0) (kinds Z.k.toNat) Z.v (pP _) a k (av _);rw[ns a]at b;have c:(eY Z now k).v.getD (kinds Z.k.toNat)[k] 0=now.v.getD (kinds Z.k.toNat)[k] 0:=b.trans d.symm;rw[Qf c (by rw[IV,e];exact hm.1)];rfl
def Ar(b:bT Z=0){k:Nat}(c:k<(kinds Z.k.toNat).length):sI (eY Z now k) (kinds Z.k.toNat)[k] (now.v.getD (kinds Z.k.toNat)[k] 0)=eY Z now (k+1):=by have hm:=(jg Z.k.toNat _).1 (aR c);have d:=(mh Z b).1;unfold sI;rw[yn,ns c];have a:(eY Z now k).k=Z.k:=rfl;rw[a,Nt Z.k.toNat _ (by omega) hm.1 hm.2];congr 1;omega
def Lu(f:Z.v.length=8)(n:now.k=Z.k)(c:now.v.length=8)(a:∀j,j∉kinds Z.k.toNat->now.v.getD j 0=Z.v.getD j 0):eY Z now (kinds Z.k.toNat).length=now:=by
 have e:(eY Z now (kinds Z.k.toNat).length).v=now.v:=by
  apply List.ext_getElem (by rw[IV,f,c]);intro j k l;have m:j<8:=by omega
  have h:(eY Z now (kinds Z.k.toNat).length).v.getD j 0=now.v.getD j 0:=by by_cases hm:j∈kinds Z.k.toNat;obtain⟨i,b,rfl⟩:=dn.1 hm;have d:=Nu (λi=>now.v.getD ((kinds Z.k.toNat).getD i 0) 0) (kinds Z.k.toNat) Z.v (pP _) _ (av _) i b (by rw[ns b,f];exact m);rw[ns b]at d;exact d;rw[a j hm];exact I5 _ _ _ _ hm _ (av _)
  simpa[bm,k,l]using h
 have g:(eY Z now (kinds Z.k.toNat).length)=⟨Z.k,(eY Z now (kinds Z.k.toNat).length).v⟩:=rfl;rw[g,e,<-n]
end
def Mm(f:BF)(s:Int)(x y:Option (Int×aN)):dL (dL f s x) s y=dL f s y:=by funext k;unfold dL;split<;>rfl
def Qp(f:BF)(s:Int){x:Option (Int×aN)}(h:f s=x):dL f s x=f:=by funext k;unfold dL;split;rename_i e;rw[e,h];rfl
def tu(f:BF)(s:Sys):BF:=λk=>(f k).map λx=>(x.1,cq x.2 s)
def pW(f:BF)(s:Sys)(l:List ck):BF:=l.foldl (λf r=>dL f r.h.1 (ae (r.h.2,cq r.b s))) f
def wN(f:BF)(s:Sys)(l:List ck)(r:ck):pW f s (l++[r])=dL (pW f s l) r.h.1 (ae (r.h.2,cq r.b s)):=by unfold pW;rw[List.foldl_append];rfl
def yA(f:BF)(s:Sys)(l:List ck){k:Int}(h:∀r∈l,r.h.1≠k):pW f s l k=f k:=by
 unfold pW
 induction l generalizing f with|nil=>rfl|cons r l b=>rw[List.foldl_cons,b _ λr a=>h r (by simp[a])];unfold dL;rw[if_neg (λe=>h r (by simp) e.symm)]
def JA{p:List (Int×Bool)}{f:BF}(u:nl p f)(s:Sys):pW f s (lB p f)=tu f s:=by
 have o:∀(n:Nat)(l:List ck),l.length=n->(∀r∈l,f r.h.1=ae (r.h.2,r.b))->∀k,(∃r∈l,r.h.1=k)->pW f s l k=tu f s k:=by
  intro n
  induction n with
  |zero=>rintro l y _ k ⟨r,a,_⟩;rw[fZ y]at a;cases a
  |succ n A=>
   intro l i v k c;have b:l≠ []:=by intro e;rw[e]at i;cases i
   have d:=List.dropLast_concat_getLast b;generalize l.getLast b=r at d;generalize q:l.dropLast=w at d;have g:w.length=n:=by rw[<-q,List.length_dropLast,i];rfl
   clear q;subst d;rw[wN];unfold dL;by_cases e:k=r.h.1;rw[if_pos e];unfold tu;rw[e,v r (by simp)];rfl;rw[if_neg e];refine A w g (λr a=>v r (by simp[a])) k ?_;obtain⟨B,m,t⟩:=c;rcases gK.1 m with h|h;exact⟨B,h,t⟩;rw[eC]at h;subst h;exact absurd t.symm e
 funext k;by_cases c:∃r∈lB p f,r.h.1=k;exact o _ _ rfl (λr a=>(lF u).1 a) k c;have j:f k=ah:=by
  cases z:f k with|none=>rfl|some x=>exact absurd ⟨⟨(k,x.1),x.2⟩,(lF u).2 z,rfl⟩ c
 rw[yA f s _ (λr a e=>c ⟨r,a,e⟩)];unfold tu;rw[j];rfl
def nl.one{l:List (Int×Bool)}{f:BF}(h:nl l f)(s:Sys):nl l (tu f s):=by refine⟨h.so,λk g=> ?_,λk g b a=> ?_⟩;rw[h.lv];unfold tu;constructor;rintro⟨b,a⟩;exact⟨cq b s,by rw[a];rfl⟩;rintro⟨b,a⟩;obtain⟨x,e,d⟩:=aF.1 a;injection d with i j;exact⟨x.2,by rw[e,<-i]⟩;unfold tu at a;obtain⟨x,e,d⟩:=aF.1 a;injection d with i j;have c:=h.bo k x.1 x.2 e;rw[<-j];exact⟨vP _ _ c.2 c.1,by rw[fF];exact c.2⟩
def Mi(z:ZS)(s:Sys):ZS:=⟨z.ls,tu z.f s,z.B⟩
def jm(z:ZS)(a:List Sys):ZS:=a.foldl Mi z
def jT.sys{z:ZS}(h:jT z)(s:Sys):jT (Mi z s):=⟨h.w.one s,h.qk,h.Qk,h.lv⟩
def jT.run{z:ZS}(h:jT z)(a:List Sys):jT (jm z a):=by
 unfold jm
 induction a generalizing z with|nil=>exact h|cons s a b=>exact b (h.sys s)
def P9(z:ZS)(a:List Sys){k:Nat}(b:k<a.length):jm z (a.take (k+1))=Mi (jm z (a.take k)) a[k]:=by unfold jm;rw[aU b,List.foldl_append];rfl
def gU(a:List Hd)(h:Hd):Option Hd:=if 0<=h.1 then ae h else if h.1< -(a.length:Int)then ah else ae (a.getD (-h.1-1).toNat (0,0))
def lU(b:List Hd)(o:ft):Option ft:=
 if o.d=2\/o.d=3\/o.d=4\/o.d=6 then(gU b o.a).map λa=>{o with a:=a}
 else if o.d=5 then(gU b o.a).bind λa=>(gU b o.t).map λt=>{o with a:=a,t:=t}
 else ae o
abbrev ZL:=ZS×List Hd
noncomputable def sX(s:ZL)(o:ft):Int:=((lU s.2 o).map λo=>(sK s.1 o).2.2).getD 5
noncomputable def El(s:ZL)(o:ft):ZL:=((sK s.1 ((lU s.2 o).getD o)).1,if o.d=1 then s.2++[(sK s.1 o).2.1]else s.2)
noncomputable def rD(s:ZL)(o:ft):Option ZL:=if sX s o=0 then ae (El s o)else ah
noncomputable def l7:ZL->List ft->Option ZL|s,[]=>ae s|s,o::a=>(rD s o).bind λs=>l7 s a
def yB(s:ZL)(a b:List ft):l7 s (a++b)=(l7 s a).bind λs=>l7 s b:=by
 induction a generalizing s with
 |nil=>rfl|cons o a c=>
  rw[cW,l7,l7];cases rD s o with|none=>rfl|some s=>exact c s
def EE{s b:ZL}{a:List ft}{k:Nat}(c:k<a.length)(h:l7 s (a.take k)=ae b):l7 s (a.take (k+1))=rD b a[k]:=by rw[aU c,yB,h,kH,l7];cases rD b a[k]<;>rfl
def P6{s b:ZL}{a:List ft}{k:Nat}(d:k<a.length)(h:l7 s (a.take k)=ae b)(c:sX b a[k]≠0):l7 s a=ah:=by
 conv=>lhs;rw[<-mN (k+1) a]
 rw[yB,EE d h];unfold rD;rw[if_neg c];rfl
def Ll{d:List Hd}{o b:ft}(h:lU d o=ae b):b.d=o.d/\b.b=o.b/\b.k=o.k/\b.n=o.n:=by unfold lU at h;split at h;obtain⟨a,c,rfl⟩:=aF.1 h;exact⟨rfl,rfl,rfl,rfl⟩;split at h;obtain⟨a,c,h⟩:=cT.1 h;obtain⟨t,e,rfl⟩:=aF.1 h;exact⟨rfl,rfl,rfl,rfl⟩;injection h with h;rw[<-h];exact⟨rfl,rfl,rfl,rfl⟩
def Pg{a:List Hd}{o:ft}(h:o.d=1):lU a o=ae o:=by unfold lU;rw[if_neg (by omega),if_neg (by omega)]
def S9{s:ZL}(h:jT s.1){o:ft}(a:o.b.v.length=8):jT (El s o).1:=by
 unfold El;refine h.do_ ?_;cases e:lU s.2 o with|none=>exact a|some b=>rw[bI,(Ll e).2.1];exact a
def Gg{s s':ZL}{c:List ft}(h:jT s.1)(e:∀o∈c,o.b.v.length=8)(b:l7 s c=ae s'):jT s'.1:=by
 induction c generalizing s with
 |nil=>injection b with b;rw[<-b];exact h
 |cons o c g=>rw[l7]at b;obtain⟨i,a,d⟩:=cT.1 b;unfold rD at a;split at a;injection a with a;rw[<-a]at d;exact g (S9 h (e o (by simp))) (λo f=>e o (by simp[f])) d;cases a
def qq(a:List Hd)(h:Hd):Hd:=if h.1<0/\ -(a.length:Int)<=h.1 then a.getD (-h.1-1).toNat (0,0)else h
def Aq{b:List Hd}{h a:Hd}(e:gU b h=ae a):qq b h=a:=by unfold gU at e;unfold qq;split at e;rw[if_neg (by omega)];injection e;split at e;cases e;rw[if_pos (by omega)];injection e
def Plain(o:ft):Prop:=0<=o.a.1/\0<=o.t.1
def iY(b:aN)(a:List Sys):aN:=a.foldl cq b
def MW(a:List Sys):∀b,(iY b a).k=b.k:=by
 induction a with|nil=>intro b;rfl|cons s a c=>intro b;show(iY (cq b s) a).k=_;rw[c,nn]
def tV(a:List Sys):∀b,(iY b a).v.length=b.v.length:=by
 induction a with|nil=>intro b;rfl|cons s a c=>intro b;show(iY (cq b s) a).v.length=_;rw[c,fF]
def Hy(a:List Sys):∀b,b.v.length=8->bT b=0->bT (iY b a)=0:=by
 induction a with|nil=>intro b _ h;exact h|cons s a d=>intro b c h;exact d _ (by rw[fF];exact c) (vP b s c h)
def KH(b:aN)(a:List Sys)(s:Sys):iY b (a++[s])=cq (iY b a) s:=by unfold iY;rw[List.foldl_append];rfl
def qu(w:aN)(l:List Nat)(v:List Int):List Int:=l.foldl (λv k=>v.set k (w.v.getD k 0)) v
def FD(b:aN)(v:List Int)(s:Sys):List Int:=qu (cq b s) (kinds s.write.toNat) v
def ix(b:aN)(a:List Sys):aN:=⟨b.k,a.foldl (FD b) b.v⟩
def vd(w:aN)(l:List Nat):∀v,(qu w l v).length=v.length:=by
 induction l with|nil=>intro v;rfl|cons k l a=>intro v;show(qu w l (v.set k _)).length=_;rw[a,eu]
def Pp(w:aN)(l:List Nat):∀(v:List Int)(k:Nat),k<v.length->(qu w l v).getD k 0=if k∈l then w.v.getD k 0 else v.getD k 0:=by
 induction l with
 |nil=>intro v k _;simp[qu]|cons i l d=>
  intro v k c;show(qu w l (v.set i _)).getD k 0=_;rw[d _ k (by rw[eu];exact c),s9];by_cases a:k∈l;simp[a];by_cases b:i=k;subst b;simp[a,c];have:¬k=i:=λe=>b e.symm
  simp[a,b,this]
def oQ(b:aN)(a:List Sys):(ix b a).v.length=b.v.length:=by
 unfold ix;have c:∀(a:List Sys)(v:List Int),(a.foldl (FD b) v).length=v.length:=by
  intro a
  induction a with|nil=>intro v;rfl|cons s a d=>intro v;rw[List.foldl_cons,d];exact vd _ _ _
 exact c a b.v
def Hg(b:aN)(a:List Sys)(s:Sys):ix b (a++[s])=⟨b.k,FD b (ix b a).v s⟩:=by unfold ix;rw[List.foldl_append];rfl
def RE{b d:aN}{s:Sys}(g:d.k=b.k)(t:b.v.length=8)(u:d.v.length=8)(h:∀k,k<8->s.write.toNat.testBit k=ar\/s.read.toNat.testBit k=ar->d.v.getD k 0=b.v.getD k 0){k:Nat}(m:k<8)(r:s.write.toNat.testBit k=ar):(cq d s).v.getD k 0=(cq b s).v.getD k 0:=by
 by_cases q:fu b.k s.q=ar;by_cases f:k∈wl b s;obtain⟨j,p,l⟩:=wx f;have a:=oW b s t q j p;have c:=oW d s u (by rw[g];exact q) j (by rw[Di g];exact p);rw[Di g,l]at c;rw[l]at a;rw[a,c];refine sa g p (λi o=> ?_) λ_ i o=> ?_
 have:=(lW _ _ _).1 o;exact h i this.1 (.inl this.2.2);have:=(Lt _ _ _).1 o;exact h i this.1 (.inr this.2.2);rw[gw b s k f,gw d s k (by rw[Di g];exact f)];exact h k m (.inl r);have e:∀n:aN,n.k=b.k->cq n s=n:=λn h=>by unfold cq;rw[h,if_neg q]
 rw[e d g,e b rfl];exact h k m (.inl r)
def Rx{s t:Sys}(a:cX s.read=ar)(b:cX s.write=ar)(c:cX t.read=ar)(d:cX t.write=ar)(e:gu s t=au){k:Nat}(f:k<8):¬((s.write.toNat.testBit k=ar/\(t.read.toNat.testBit k=ar\/t.write.toNat.testBit k=ar))\/(t.write.toNat.testBit k=ar/\s.read.toNat.testBit k=ar)):=by intro h;have:=(tS a b c d).2 ⟨k,f,h⟩;rw[e]at this;exact absurd this (by simp)
def py{s:Sys}(h:eP s=0):cX s.read=ar/\cX s.write=ar:=by obtain⟨_,_,_,a,b,_⟩:=EL h;exact⟨a,b⟩
def OG{k:Nat}(a:List Sys):∀b,(∀s∈a,s.write.toNat.testBit k=au)->(iY b a).v.getD k 0=b.v.getD k 0:=by
 induction a with|nil=>intro b _;rfl|cons s a d=>intro b h;show(iY (cq b s) a).v.getD k 0=_;rw[d _ λt c=>h t (by simp[c])];exact gw b s k λhm=>by have:=((lW _ _ _).1 hm).2.2;rw[h s (by simp)]at this;cases this
def uR(b:aN)(l:b.v.length=8):∀(n:Nat)(a:List Sys),a.length=n->(∀s∈a,eP s=0)->a.Pairwise (λs t=>gu s t=au)->ix b a=iY b a:=by
 intro n
 induction n with
 |zero=>intro a h _ _;rw[fZ h];rfl|succ n G=>
  intro a v f w;have j:a≠ []:=by intro e;rw[e]at v;cases v
  have p:=List.dropLast_concat_getLast j;generalize a.getLast j=s at p;generalize y:a.dropLast=g at p;have x:g.length=n:=by rw[<-y,List.length_dropLast,v];rfl
  clear y;subst p;have d:=List.pairwise_append.1 w;have E:=G g x (λt m=>f t (by simp[m])) d.1;rw[Hg,KH];have c:(iY b g).v.length=8:=by rw[tV,l]
  refine Dt (by rw[nn,MW]) (by show(qu _ _ _).length=8;rw[vd,oQ,l]) (by rw[fF,c]) λk u=> ?_
  show(qu (cq b s) (kinds s.write.toNat) (ix b g).v).getD k 0=_;rw[Pp _ _ _ k (by rw[oQ,l];exact u)];by_cases o:s.write.toNat.testBit k=ar;rw[if_pos ((jg _ _).2 ⟨u,o⟩)];refine(RE (MW g b) l c (λi r F=>OG g b λt m=> ?_) u o).symm;have D:=d.2.2 t m s (by simp);obtain⟨z,A⟩:=py (f t (by simp[m]));obtain⟨B,C⟩:=py (f s (by simp));cases q:t.write.toNat.testBit i with|false=>rfl|true=>exact absurd (.inl ⟨q,F.symm⟩) (Rx z A B C D r)
  rw[if_neg λhm=>o ((jg _ _).1 hm).2,E,gw _ s k λhm=>o ((lW _ _ _).1 hm).2.2]
abbrev PS:=List (Sys×Int)
def gW(L:PS)(b:Int):List Sys:=(L.filter λx=>x.2=b).map (·.1)
def E2(L:PS):List Sys:=L.map (·.1)
structure rJ(L:PS):Prop where
 ok:∀x∈L,eP x.1=0
 lt:L.Pairwise λx y=>gu x.1 y.1=ar->x.2<y.2
def KI(x:aN)(c:x.v.length=8)(s:Sys)(k:eP s=0):∀(a:List Sys),(∀t∈a,eP t=0/\gu s t=au)->iY (cq x s) a=cq (iY x a) s:=by
 intro a
 induction a generalizing x with|nil=>intro _;rfl|cons t a l=>intro h;obtain⟨i,j⟩:=h t (by simp);obtain⟨d,e⟩:=py k;obtain⟨f,g⟩:=py i;show iY (cq (cq x s) t) a=cq (iY (cq x t) a) s;rw[apart x s t c d e f g j,l (cq x t) (by rw[fF];exact c) λm b=>h m (by simp[b])]
def pull(b:Int):∀(L:PS)(x:aN),x.v.length=8->rJ L->(∀y∈L,b<=y.2)->iY x (E2 L)=iY (iY x (gW L b)) (E2 (L.filter λy=>¬y.2=b)):=by
 intro L
 induction L with
 |nil=>intro x _ _ _;rfl|cons y L o=>
  intro x k hL a;have h:rJ L:=⟨λz c=>hL.ok z (by simp[c]),(List.pairwise_cons.1 hL.lt).2⟩;have m:=o (cq x y.1) (by rw[fF];exact k) h λz c=>a z (by simp[c])
  show iY (cq x y.1) (E2 L)=_;rw[m];by_cases e:y.2=b;have f:gW (y::L) b=y.1::gW L b:=by unfold gW;rw[List.filter_cons_of_pos (by simpa using e)];rfl
  have g:(y::L).filter (λz=>¬z.2=b)=L.filter (λz=>¬z.2=b):=by rw[List.filter_cons_of_neg (by simpa using e)]
  rw[f,g];rfl;have f:gW (y::L) b=gW L b:=by unfold gW;rw[List.filter_cons_of_neg (by simpa using e)]
  have g:(y::L).filter (λz=>¬z.2=b)=y::L.filter (λz=>¬z.2=b):=by rw[List.filter_cons_of_pos (by simpa using e)]
  rw[f,g];rw[KI x k y.1 (hL.ok y (by simp)) (gW L b) λt j=> ?_];rfl;unfold gW at j;obtain⟨z,c,rfl⟩:=aI.1 j;obtain⟨d,i⟩:=cc.1 c;have n:z.2=b:=by simpa using i
  refine⟨hL.ok z (by simp[d]),?_⟩;cases l:gu y.1 z.1 with|false=>rfl|true=>have:=(List.pairwise_cons.1 hL.lt).1 z d l;have:=a y (by simp);omega
def Xq(x:aN)(L:PS):Nat->aN|0=>x|n+1=>iY (Xq x L n) (gW L n)
def KQ(L:PS)(n:Nat)(b:Int)(a:(n:Int)<=b):gW (L.filter λy=>(n:Int)<=y.2) b=gW L b:=by
 unfold gW;rw[List.filter_filter];congr 1;refine List.filter_congr λy _=> ?_
 by_cases e:y.2=b;simp[e,a];simp[e]
def Ic(L:PS)(n:Nat):((L.filter λy=>(n:Int)<=y.2).filter λy=>¬y.2=(n:Int))=L.filter λy=>((n+1:Nat):Int)<=y.2:=by
 rw[List.filter_filter];refine List.filter_congr λy _=> ?_
 by_cases c:((n+1:Nat):Int)<=y.2;have a:(n:Int)<=y.2:=by omega
 have b:¬y.2=(n:Int):=by omega
 simp only[a,b,decide_true,not_false_eq_true,Bool.and_self,c];by_cases a:(n:Int)<=y.2;have b:y.2=(n:Int):=by omega
 simp only[b,not_true_eq_false,decide_false,Bool.false_and];simp;omega;simp only[a,decide_false,Bool.and_false,c]
def Vf(x:aN)(f:x.v.length=8)(L:PS)(hL:rJ L)(d:∀y∈L,0<=y.2):∀n:Nat,iY x (E2 L)=iY (Xq x L n) (E2 (L.filter λy=>(n:Int)<=y.2)):=by
 intro n
 induction n with
 |zero=>
  have:(L.filter λy=>((0:Nat):Int)<=y.2)=L:=List.filter_eq_self.2 λy b=>by simpa using d y b
  rw[this];rfl
 |succ n c=>
  have e:(Xq x L n).v.length=8:=by
   have:∀n,(Xq x L n).v.length=x.v.length:=by
    intro n
    induction n with|zero=>rfl|succ n c=>show(iY _ _).v.length=_;rw[tV,c]
   rw[this,f]
  have a:rJ (L.filter λy=>(n:Int)<=y.2):=⟨λz g=>hL.ok z (cc.1 g).1,hL.lt.sublist List.filter_sublist⟩;rw[c,pull n _ _ e a λy b=>by simpa using(cc.1 b).2,KQ L n n (Int.le_refl _),Ic];rfl
def Vg(x:aN)(c:x.v.length=8)(L:PS)(hL:rJ L)(a:∀y∈L,0<=y.2)(n:Nat)(b:∀y∈L,y.2<n):Xq x L n=iY x (E2 L):=by
 have h:=Vf x c L hL a n;have:(L.filter λy=>(n:Int)<=y.2)=[]:=List.filter_eq_nil_iff.2 λy d=>by have:=b y d;simp;omega
 rw[this]at h;exact h.symm
section
open Go.RowKit Go.Sort
section
variable{G:Nat->Prop} {Z w Y:ai} {l:List bU}
def WZ:SWO (ltOf Hr)where
 irrefl x:=by unfold ltOf;rw[sW];unfold YO;simp
 trans x y z h1 h2:=by unfold ltOf at *;rw[sW]at *;unfold YO at *;simp only[gJ,aG,decide_eq_true_eq]at *;omega
 ntrans x y z h1 h2:=by unfold ltOf at *;rw[sW]at *;unfold YO at *;simp only[Bool.or_eq_false_iff,Bool.and_eq_false_iff,decide_eq_false_iff_not]at *;omega
def Tm{d:Type}{key:d->Hd}{c:List d}(h:c.Pairwise λa b=>decide (Hr (key b) (key a)<0)=au):c.Pairwise λa b=>QP key a b=ar:=h.imp λ{a b} h=>by unfold QP za;rw[<-sW,h];rfl
def T5{v:ak}{b:List Hd}(h:In G Z (jz v b::l) w)(o:b.length<=1099511627776):Calls aj 141 #[v,.func (.func 80) #[] #[]] w λe Y=>e=.returned (.tuple #[])/\In G Z (jz v (b.mergeSort za)::l) Y:=by
 have a:=Gq (ρ:=tG) (enc:=hC) Bp Tryz.isAgg43 Tryz.sizeOf43 xn (λx u d=>by simp[hC]at d;rcases d with rfl|rfl<;>rfl) Hr WZ 80 (enters_of func80 (by kernel_rfl) rfl) (λblk c size w m k f _ x y=>yf x y (sortWorldK hC 2 w blk c m f k)) 43 h (by omega)
 change Calls aj 141 _ _ _ at a;refine a.mono ?_;rintro e Y ⟨rfl,n,hp,j,i⟩;have g:n=b.mergeSort za:=Bq hp (Tm (key:=id) j);subst g;exact⟨rfl,i⟩
def bC(b:Hd×Hd):List ak:=[.int .i64 b.1.1,.int .i64 b.1.2,.int .i64 b.2.1,.int .i64 b.2.2]
def bL(b:Hd×Hd):List Int:=[b.1.1,b.1.2,b.2.1,b.2.2]
def Yn(b:Hd×Hd):(bC b).length=4:=rfl
def Rn(b:Hd×Hd):(bL b).length=4:=rfl
abbrev ji(v:ak)(a:List (Hd×Hd)):bU:=dR 45 4 v a.length (a.flatMap bC)
def Ry(a b:Hd×Hd):Int:=Hr a.1 b.1
def ads:SWO (ltOf Ry)where
 irrefl x:=WZ.irrefl x.1
 trans x y z:=WZ.trans x.1 y.1 z.1
 ntrans x y z:=WZ.ntrans x.1 y.1 z.1
def KE(x y:Hd×Hd)(w:ai):Calls aj 101 #[.agg (ints (bL x)),.agg (ints (bL y))] w λe Y=>e=.returned (.int .i64 (Ry x y))/\∃q j,Y=Sort.grow (w.drewN q) j:=by
 obtain⟨⟨a,b⟩,⟨f,g⟩⟩:=x;obtain⟨⟨c,d⟩,⟨h,i⟩⟩:=y;go_enter func101,ntmps101;go_upto_region 1 with(fail)
 have m:row? ((w.alloc (.cells (ints [a,b,f,g]) 45)).alloc (.cells (ints [c,d,h,i]) 45)) w.heap.size 0 2=ae (ints [a,b]):=((cD.new w 45 (ints [a,b,f,g])).alloc _).ei 0 2 (by simp);have n:row? ((w.alloc (.cells (ints [a,b,f,g]) 45)).alloc (.cells (ints [c,d,h,i]) 45)) (w.heap.size+1) 0 2=ae (ints [c,d]):=by have:=cD.new (w.alloc (.cells (ints [a,b,f,g]) 45)) 45 (ints [c,d,h,i]);rw[cR]at this;exact this.ei 0 2 (by simp)
 have k:Hid (((w.alloc (.cells (ints [a,b,f,g]) 45)).alloc (.cells (ints [c,d,h,i]) 45))=Sort.grow w #[.cells (ints [a,b,f,g]) 45,.cells (ints [c,d,h,i]) 45]):=by unfold Hid;rw[Sort.alloc_eq_grow,Sort.alloc_eq_grow,Sort.grow_grow];rfl
 change Code.wp _ _ _ _ ((w.alloc (.cells (ints [a,b,f,g]) 45)).alloc (.cells (ints [c,d,h,i]) 45));generalize ((w.alloc (.cells (ints [a,b,f,g]) 45)).alloc (.cells (ints [c,d,h,i]) 45))=l at *;go_wp2_with fail;refine(yf (a,b) (c,d) l).mono ?_;rintro e o ⟨rfl,q,j,rfl⟩;go_wp2_with fail;go_ret;refine⟨rfl,q,#[.cells (ints [a,b,f,g]) 45,.cells (ints [c,d,h,i]) 45]++j,?_⟩;rw[k.out];exact Sort.grow_grow (w.drewN q) _ j
def T4{v:ak}{f:List (Hd×Hd)}(s:∀a∈f,∀b∈f,a.1=b.1->a=b)(h:In G Z (ji v f::l) w)(A:f.length<=1099511627776):Calls aj 100 #[v,.func (.func 101) #[] #[]] w λe Y=>e=.returned (.tuple #[])/\In G Z (ji v (f.mergeSort (QP (·.1)))::l) Y:=by
 have p:∀x,∀u∈bC x,u.oneCell'=ar:=λx u j=>by simp[bC]at j;rcases j with rfl|rfl|rfl|rfl<;>rfl
 have q:∀blk d size w,CmpLays aj 101 #[] bC 4 Ry blk d size w:=λblk d size w m z n _ x y=>KE x y (sortWorldK bC 4 w blk d m n z)
 have r:∀args w,(callFunc 101 args).run aj w=.ok (.enter 101 args) w:=enters_of func101 (by kernel_rfl) rfl;have c:=Gq (ρ:=wS) (enc:=bC) Gp Tryz.isAgg45 Tryz.sizeOf45 Yn p Ry ads 101 r q 45 h (by omega);change Calls aj 100 _ _ _ at c;refine c.mono ?_;rintro e Y ⟨rfl,k,hp,t,i⟩;have g:k.Pairwise λa b=>QP (λb:Hd×Hd=>b.1) a b=ar:=t.imp λ{a b} h=>by unfold QP za;rw[<-sW];unfold Ry at h;rw[h];rfl
 have o:k=f.mergeSort (QP (λb:Hd×Hd=>b.1)):=je _ s hp g;rw[o]at i;exact⟨rfl,i⟩
end
end
section
open Go.RowKit
def Fv{m a:ja}(hp:m.Perm a)(h:Hd):(iX m h).Perm (iX a h):=(hp.filter _).map _
def Fu(x v h:Hd)(m:ja):iX ((x,v)::m) h=if v=h then x::iX m h else iX m h:=by unfold iX;rw[List.filter_cons];by_cases e:v=h<;>simp[e]
def yj(m:ja)(h:Hd):(iX m h).length<=m.length:=by unfold iX;rw[bu];exact List.length_filter_le _ _
def Pc{m left coll:List (Hd×Hd)}{cs:List Hd}{x v h:Hd}(b:(bM left).Nodup)(c:(x,v)∈left)(hp:(cs++iX left h).Perm (iX m h)):((if v=h then cs++[x]else cs)++iX (eo left x) h).Perm (iX m h):=by have a:=Fv (xr b c) h;rw[Fu]at a;refine List.Perm.trans ?_ hp;split;rename_i e;rw[if_pos e]at a;rw[cM];exact dD _ a.symm;rename_i e;rw[if_neg e]at a;exact dD _ a.symm
def Fj{G:Nat->Prop}{z w:ai}{l:List bU}{p:Nat}{m:ja}(h:In G z (jy p m::l) w)(a:Hd)(hl:m.length<=1099511627776):Calls aj 176 #[.pointer (ae ⟨p,0,ah⟩),mv a] w λe X=>∃v,e=.returned v/\In G z (jz v (kids m a)::jy p m::l) X:=by
 obtain⟨hm,b,q⟩:=h.sd;have HM:=af hm;have B:=af q;clear h hm q;obtain⟨c,d⟩:=a;rw[jI];obtain⟨i0,D2,D4,D5,Cy⟩:=info_parts lC;have O:∀(x y:List Int) W,x.length=2->y.length=2->(binOp .eql 43 (.agg (ints x)) (.agg (ints y))).run aj W=.ok (.bool (decide (x=y))) W:=λx y W J h2=>uV x y J h2 W
 have HEQ:=af O;clear O;go_enter func176,ntmps176;go_upto_region 1 with(fail)
 refine b9 (In G z (a8 w.heap.size 43 (ints [c,d])::a8 p 175 #[.map (ae b)]::wZ b m::l)) (B.out.alloc 43 (ints [c,d])) ?_;generalize w.heap.size=H;intro w1 q;have k0:w1.cell? ⟨p,0,ah⟩=ae (.map (ae b)):=q.swap.blk.cell 0;have t:=af q.third;clear q B;go_wp2_with (at_range;go_loud (refine iJ rfl _ 173 43 rfl underlying173 b _ rfl (In.gZ t.out) ?_));intro w2 S L U;have C:Hid (In G z (dR 43 2 (.slice ah 0 0) 0 []::ie mv mv (λ_=>True) b w1.heap.size m m::a8 H 43 (ints [c,d])::a8 p 175 #[.map (ae b)]::l) w2):=In.sc (In.AX t.out S L U) _ _;generalize w1.heap.size=V at *;clear S L U t k0;go_wp2_with fail;go_loopw [14,5] (λ_ out X=>∃(left:ja)(cs:List Hd),(bM left).Nodup/\(cs++iX left (c,d)).Perm (iX m (c,d))/\In G z (jz out cs::ie mv mv (λ_=>True) b V m left::a8 H 43 (ints [c,d])::a8 p 175 #[.map (ae b)]::l) X) (λ_ _ X=>X.rangeLeft b V)
 case atStart=>exact⟨m,[],HM.out.nodup,by simp,C.out⟩
 case round=>
  clear C;obtain⟨left,cs,P,hp,q⟩:=hrel;have u:=af P;clear P;have A:=af q.swap;have HP:=af hp;clear q hp;go_wp2_with (at_next;go_loud (refine ko Am rfl _ rfl b V _ left rfl (In.rangeAt A.out) ?_ ?_))
  ·intro Y2;subst Y2;have HPC:Hid (kids m (c,d)=cs.mergeSort za):=by have:=HP.out;simp[iX]at this;exact(Qj this).symm
   have M:cs.length<=1099511627776:=by have J:=HP.out.length_eq;have h2:=yj m (c,d);simp at J;omega
   have D:=af A.out.swap;clear A;go_wp2_with fail;refine(T5 D.out M).mono ?_;rintro e w3 ⟨rfl,K⟩;have EV:=af K;clear K D;go_wp2_with fail;go_ret;refine⟨_,rfl,?_⟩;rw[HPC.out];exact(In.oA HM.out (EV.out.swap.tK.third.drop.third)).swap
  intro f g k n Y hx T Q Za s hen;have E:=af (In.mC A.out T Q);have r:=af s;have HX:=af hx;obtain⟨f1,f2⟩:=Bt Y 43 43 [0,0] [0,0] [f,g];clear T Q Za s hx;go_upto_region 5 with(fail)
  refine b9 (In G z (a8 (Y.heap.size+1) 43 (ints [k,n])::a8 Y.heap.size 43 (ints [f,g])::ie mv mv (λ_=>True) b V m (eo left (f,g))::jz u5 cs::a8 H 43 (ints [c,d])::a8 p 175 #[.map (ae b)]::l)) (E.out.Gu 43 43 [0,0] [0,0] [f,g] [k,n] rfl rfl) ?_;clear f1 f2 hen E;generalize Y.heap.size+1=vb;generalize Y.heap.size=xb;intro Z j;have q1:row? Z vb 0 2=ae (ints [k,n]):=j.blk.bw rfl;have q2:row? Z xb 0 2=ae (ints [f,g]):=j.swap.blk.bw rfl;have q3:row? Z H 0 2=ae (ints [c,d]):=(j.drop.fourth).blk.bw rfl;have hn:=HEQ.out [k,n] [c,d];have o:Hid (In G z (jz u5 cs::ie mv mv (λ_=>True) b V m (eo left (f,g))::a8 H 43 (ints [c,d])::a8 p 175 #[.map (ae b)]::l) Z):=j.drop.drop.swap;have i:=af (Pc (coll:=[]) (left:=left) (cs:=cs) (x:=(f,g)) (v:=(k,n)) (h:=(c,d)) u.out HX.out HP.out);have hn2:∀W,(binOp .eql 43 (.agg (ints [k,n])) (.agg (ints [c,d]))).run aj W=.ok (.bool (decide ([k,n]=[c,d]))) W:=λW=>hn W rfl rfl
  clear j hn;by_cases e:(k,n)=(c,d)
  ·have N:decide ([k,n]=[c,d])=ar:=by rw[decide_eq_true_eq];injection e with e1 I;rw[e1,I]
   rw[N]at hn2;rw[if_pos e]at i;have M:cs.length+1<=1099511627776:=by have J:=i.out.length_eq;have h2:=yj m (c,d);simp at J;omega
   have HO:=af o.out.rowAt;clear e N;go_wp2_with (at_builtin;go_loud (refine ep rfl _ _ 122 rfl 0 43 i0 _ 2 16 underlying122 D2 D4 D5 Cy rfl (by decide) u5 cs.length (cs.flatMap hC) rfl HO.out [.int .i64 f,.int .i64 g] rfl rfl (by simp[fX]) ?_ ?_ (bF _) ?_))
   case refine_1=>unfold maxLen;omega
   case refine_2=>omega
   intro v' w9 ho hg R;have F:=af (In.E5 (x:=(f,g)) o.out ho hg R);clear ho hg R q1 q2 q3 hn2;go_wp2_with fail;go_roundw
   case rel=>exact⟨eo left (f,g),cs++[(f,g)],o9 u.out _,i.out,F.out⟩
   rw[(In.rangeAt F.out.swap).count,(In.rangeAt A.out).count];exact r.out
  have N:decide ([k,n]=[c,d])=au:=by rw[decide_eq_false_iff_not];intro e';injection e' with e1 I;injection I with I _;exact e (by rw[e1,I])
  rw[N]at hn2;rw[if_neg e]at i;clear e N;go_wp2_with fail;go_roundw
  case rel=>exact⟨eo left (f,g),cs,o9 u.out _,i.out,o.out⟩
  rw[(In.rangeAt o.out.swap).count,(In.rangeAt A.out).count];exact r.out
def KD:(Tryz.prog.info? 45).map (λi=>(i.zero,i.size,i.bytes))=ae (ae (.agg #[.int .i64 0,.int .i64 0,.int .i64 0,.int .i64 0]),4,32):=by kernel_rfl
def In.Va{G:Nat->Prop}{f w e:ai}{l:List bU}{v c:ak}{b:List (Hd×Hd)}{x:Hd×Hd}{o:Obj}(h:In G f (ji v b::l) w)(a:e.ownsRow 0 45 4 c (b.length+1) (b.flatMap bC++[.int .i64 x.1.1,.int .i64 x.1.2,.int .i64 x.2.1,.int .i64 x.2.2]))(g:(w.alloc o).grownBy e v.ownBlock)(d:c.ownBlock=v.ownBlock\/c.ownBlock=ae (w.heap.size+1)):In G f (ji c (b++[x])::l) e:=by have:=h.vD a g d;unfold ji;rw[bK,eJ];exact this
def CU{m a:ja}(hm:jA m)(hp:a.Perm m):a.mergeSort (QP (λb:Hd×Hd=>b.1))=dA m:=je (λb:Hd×Hd=>b.1) (nC hm.nodup) ((iC _ _).trans hp) (lf _ _)
def DK{G:Nat->Prop}{t w:ai}{l:List bU}{p:Nat}{m:ja}(h:In G t (jy p m::l) w)(hl:m.length<=1099511627776):Calls aj 44 #[.pointer (ae ⟨p,0,ah⟩)] w λe R=>∃v,e=.returned v/\In G t (ji v (dA m)::jy p m::l) R:=by
 obtain⟨hm,b,s⟩:=h.sd;have HM:=af hm;have q:=af s.swap;have k0:w.cell? ⟨p,0,ah⟩=ae (.map (ae b)):=s.blk.cell 0;clear h hm s;obtain⟨i0,V,Y,Z,Cy⟩:=info_parts KD;go_enter func44,ntmps44;go_wp2_with (at_range;go_loud (refine iJ rfl _ 173 43 rfl underlying173 b _ rfl (In.gZ q.out) ?_));intro w2 N I P;have y:Hid (In G t (dR 45 4 (.slice ah 0 0) 0 []::ie mv mv (λ_=>True) b w.heap.size m m::a8 p 175 #[.map (ae b)]::l) w2):=In.sc (In.AX q.out N I P) _ _;generalize w.heap.size=Q at *;clear N I P q k0;go_wp2_with fail;go_loopw [12,3] (λ_ out R=>∃(left:ja)(c:ja),(bM left).Nodup/\(c++left).Perm m/\In G t (ji out c::ie mv mv (λ_=>True) b Q m left::a8 p 175 #[.map (ae b)]::l) R) (λ_ _ R=>R.rangeLeft b Q)
 case atStart=>exact⟨m,[],HM.out.nodup,by simp,y.out⟩
 case round=>
  clear y;obtain⟨left,c,K,hp,s⟩:=hrel;have F:=af K;have u:=af s.swap;have HP:=af hp;clear K s hp;go_wp2_with (at_next;go_loud (refine ko Am rfl _ rfl b Q _ left rfl (In.rangeAt u.out) ?_ ?_))
  ·intro W;subst W;have g:c.Perm m:=by simpa using HP.out
   have J:c.length<=1099511627776:=by rw[g.length_eq];exact hl
   have j:=(nC (HM.out.nodup));have D:Hid (∀a∈c,∀b∈c,a.1=b.1->a=b):=λa ha b hb=>j a (g.subset ha) b (g.subset hb)
   have HB:=af (CU HM.out g);have z:=af u.out.swap;clear u g j;go_wp2_with fail;refine(T4 D.out z.out J).mono ?_;rintro e w3 ⟨rfl,r⟩;rw[HB.out]at r;have T:=af r;clear r z;go_wp2_with fail;go_ret;exact⟨_,rfl,(In.oA HM.out (T.out.swap.tK.third)).perm ((oI _))|>.swap⟩
  intro d f n o S hx O L X k U;have A:=af (In.mC u.out O L);have E:=af k;have H:Hid ((c++[((d,f),(n,o))]++eo left (d,f)).Perm m):=by refine List.Perm.trans ?_ HP.out;rw[cM];exact dD _ (xr F.out hx).symm
  have J:c.length+1<=1099511627776:=by have h1:=H.out.length_eq;simp at h1;omega
  obtain⟨f1,f2⟩:=Bt S 43 43 [0,0] [0,0] [d,f];clear O L X k hx;go_upto_region 5 with(fail)
  refine b9 (In G t (a8 (S.heap.size+1) 43 (ints [n,o])::a8 S.heap.size 43 (ints [d,f])::ie mv mv (λ_=>True) b Q m (eo left (d,f))::ji u3 c::a8 p 175 #[.map (ae b)]::l)) (A.out.Gu 43 43 [0,0] [0,0] [d,f] [n,o] rfl rfl) ?_;clear f1 f2 U A;generalize S.heap.size+1=vb;generalize S.heap.size=xb;intro w8 i;have q1:row? w8 vb 0 2=ae #[.int .i64 n,.int .i64 o]:=i.blk.bw (xs:=[n,o]) rfl;have q2:row? w8 xb 0 2=ae #[.int .i64 d,.int .i64 f]:=i.swap.blk.bw (xs:=[d,f]) rfl;have B:Hid (In G t (ji u3 c::ie mv mv (λ_=>True) b Q m (eo left (d,f))::a8 p 175 #[.map (ae b)]::l) w8):=i.drop.drop.swap;have HO:=af B.out.rowAt;clear i;go_wp2_with (at_builtin;go_loud (refine ep rfl _ _ 34 rfl 0 45 i0 _ 4 32 underlying34 V Y Z Cy rfl (by decide) u3 c.length (c.flatMap bC) rfl HO.out [.int .i64 d,.int .i64 f,.int .i64 n,.int .i64 o] rfl rfl (by simp[fX]) ?_ ?_ (bF _) ?_))
  case refine_1=>unfold maxLen;omega
  case refine_2=>omega
  intro v' w9 ho hg M;have C:=af (In.Va (x:=((d,f),(n,o))) B.out ho hg M);clear ho hg M q1 q2;go_wp2_with fail;go_roundw
  case rel=>exact⟨eo left (d,f),c++[((d,f),(n,o))],o9 F.out _,H.out,C.out⟩
  rw[(In.rangeAt C.out.swap).count,(In.rangeAt u.out).count];exact E.out
end
section
open Rel
open Go.Conc Go.ConcN
open Go.ConcR (Payload WgAt)
open Go.RowKit
structure EW(w0:ai) (fv:ak) (nj k:Nat) (closed:Bool) (w:ai):Prop where
 old:∀b,b<w0.heap.size->w.heap[b]? =w0.heap[b]?
 size:w.heap.size=w0.heap.size+3
 cf:w.heap[w0.heap.size]? =ae (.cells #[fv] 113)
 ch:∃s r tm,w.heap[w0.heap.size+1]? =ae (.chan nj ((fJ 0 k).map (λ(p:Nat)=>aS .i64 p)).toArray closed s r tm)
 cn:w.heap[w0.heap.size+2]? =ae (.cells #[.chan (ae (w0.heap.size+1))] 179)
 os:w.os=w0.os
 output:w.output=w0.output
def OM{b B c:Nat}(f:b<=c)(g:c<B):∀e∈closeEvents c,Z' b B e:=by intro e d;simp only[closeEvents,List.mem_toArray,b6,List.not_mem_nil,or_false]at d;rcases d with rfl|rfl;exact⟨by simp,λx a=>by simp only[MemAct.ofEvent,MemAct.touch?,Option.some.injEq]at a;subst a;exact⟨c,rfl,f,g⟩⟩;exact⟨by simp,λx a=>by cases a⟩
def LZ(w:ai)(a:Addr)(v:ak):(w.setCell a v).os=w.os:=by unfold dC;split<;>rfl
def Bj(w:ai)(a:Addr)(v:ak):(w.setCell a v).output=w.output:=by unfold dC;split<;>rfl
def tH(w:ai)(a:Addr)(v:ak)(b:Tape)(d:Nat):(cL w b d).setCell a v=cL (w.setCell a v) b d:=by unfold dC cL;simp only
noncomputable def j8:Code:=f47.body.getD .skip
def K8:(Tryz.prog.info? 3).map (λi=>(i.zero,i.size,i.bytes))=ae (ae (.int .i64 0),1,8):=by kernel_rfl
abbrev uB(n nj:Int)(fv:ak)(N:Nat)(r s a b c d e f g h i j k l m o p q:ak):Array ak:=#[.int .i64 n,.int .i64 nj,fv,undef,undef,.pointer (ae ⟨N,0,ah⟩),.pointer (ae ⟨N+2,0,ah⟩),r,s,.int .i64 nj,a,b,c,d,e,f,g,h,i,j,k,l,m,o,p,q]
section
variable{c:fg} {Z:ak->ai->Prop} {Y X:List aY} {w0 w:ai} {n nj W:Nat} {fv:ak}
noncomputable def oY:Code:=match j8 with|.seq _ (.seq _ (.seq _ (.seq _ x)))=>x|_=>.skip
noncomputable def wQ:Code:=match j8 with|.seq _ (.seq _ (.seq (.seq _ (.block _ (.loop x))) _))=>x|_=>.skip
noncomputable def Bi:Code:=match j8 with|.seq _ (.seq _ (.seq _ x))=>x|_=>.skip
def RV(hN:W<=w0.heap.size)(VI:nj<9223372036854775807):∀(m k:Nat)(w:ai)(L N u j l o q t x y A B D E F H:ak),k+m=nj->EW w0 fv nj k au w->(∀w(L j l o q t:ak),EW w0 fv nj nj au w->p9 aj c Z W Y (G ((base 47).at ⟨uB n nj fv w0.heap.size L N u (.int .i64 nj) (.int .i64 nj) j l o q t x y A B D E F H,[]⟩ [.code Bi]) X) w)->p9 aj c Z W Y (G ((base 47).at ⟨uB n nj fv w0.heap.size L N u (.int .i64 nj) (.int .i64 k) j l o q t x y A B D E F H,[]⟩ [.code wQ,.inLoop wQ,.inBlock 0,.code Bi]) X) w:=by
 intro m
 induction m with
 |zero=>
  intro k w L N u j l o q t x y A B D E F H V h K;obtain rfl:k=nj:=by omega
  simp only[wQ,j8,f47,bI];refine j1 ?_;refine gA ?_;simp only[aD,ay,aC,Nat.reduceAdd,aZ,a6,a7];refine eA (.bool au) rfl rfl (by simp[base]) (λw=>by go_simp) (λw=>by simp[go_sem, *]) ?_;walk_nrm;refine mq ?_;refine j1 ?_;refine zS rfl ?_;refine Vq rfl ?_;exact K _ _ _ _ _ _ _ h
 |succ m ih=>
  intro k w L N u j l o q t x y A B D E F H V h K;have l6:(k:Int)<nj:=by omega
  simp only[wQ,j8,f47,bI];refine j1 ?_;refine gA ?_;simp only[aD,ay,aC,Nat.reduceAdd,aZ,a6,a7];refine eA (.bool ar) rfl rfl (by simp[base]) (λw=>by go_simp) (λw=>by simp[go_sem, *]) ?_;walk_nrm;refine mq ?_;refine j1 ?_;refine RQ rfl ?_;refine M0 ?_;refine j1 ?_;refine zR ?_;refine j1 ?_;refine gA ?_;simp only[aD,ay,aC,Nat.reduceAdd,aZ,a6,a7];refine eA (.int .i64 k) rfl rfl (by simp[base]) (λw=>by go_simp) (λw=>by simp[go_sem, *]) ?_;walk_nrm;refine eA (.int .i64 k) rfl rfl (by simp[base]) (λw=>by go_simp) (λw=>by simp[go_sem, *]) ?_;walk_nrm;refine mq ?_;refine gA ?_;simp only[aD,ay,aC,Nat.reduceAdd,aZ,a6,a7];have M:∀I d,(cL w I d).cell? ⟨w0.heap.size+2,0,ah⟩=ae (.chan (ae (w0.heap.size+1))):=λI d=>by show w.cell? _=_;unfold b3;simp only[h.cn];rfl
  have yh:=h.size;refine n9 (.chan (ae (w0.heap.size+1))) rfl rfl (by simp[base]) (w':=w) (λ_ _=>rfl) (av _) (λI d=>by have M:=M I d;go_simp) (λI d e S=>by have M:=M I d;simp[go_sem, *]at S;subst S;exact mm (by show W<=w0.heap.size+2;omega) (by simp;omega)) ?_;walk_nrm;refine eA (.int .i64 k) rfl rfl (by simp[base]) (λw=>by go_simp) (λw=>by simp[go_sem, *]) ?_;walk_nrm;obtain⟨s,r,O,Q⟩:=h.ch;refine EY.send (C:=w0.heap.size+1) (v:=.int .i64 k) (z:=.tuple #[]) (blocking:=true) (shape:=.send) rfl (λI d=> ?_) (by omega) Q (by simp;omega) (av _) ?_;refine(stepG_comm rfl rfl (by simp[base]) (cases:=#[scase (w0.heap.size+1) (.int .i64 k) (.tuple #[])]) (blocking:=true) (shape:=.send) (w':=cL w I d) ?_).trans ?_;simp[execOp,Act.eval,scase];congr 1;rw[finishComm_send];have J:∀(b:aY)(a:Act)(k:List Item)(g:Array Oper)(i:Nat)(f:List Nat),Go.Conc.served (G (b.at a (.inRegion g (i::f)::k)) X) undef=G (b.at (a.put ((g[i]?).bind (·.dst)) undef) (.inRegion g f::k)) X:=λb a k g i f=>by show({frame:=(b.at a (.inRegion g (i::f)::k)).finish undef,callers:=X,status:=.running,dying:=ah}:Goroutine)=_;rw[Frame.finish_at];rfl
  rw[J];have R:EW w0 fv nj (k+1) au (w.setChan (w0.heap.size+1) nj (((fJ 0 k).map (λ(p:Nat)=>aS .i64 p)).toArray.push (.int .i64 k)) au (s+1) r O):=by
   have blk:∀b,b≠w0.heap.size+1->(w.setChan (w0.heap.size+1) nj (((fJ 0 k).map (λ(p:Nat)=>aS .i64 p)).toArray.push (.int .i64 k)) au (s+1) r O).heap[b]? =w.heap[b]?:=λb P=>by show(w.heap.setIfInBounds _ _)[b]? =_;rw[aJ (kG P)]
   refine⟨λb P=>(blk b (by omega)).trans (h.old b P),by simpa[oj]using h.size,(blk _ (by omega)).trans h.cf,⟨s+1,r,O,?_⟩,(blk _ (by omega)).trans h.cn,h.os,h.output⟩;show(w.heap.setIfInBounds _ _)[w0.heap.size+1]? =_;rw[aK (by omega),List.range'_concat];simp
  have T:=R.size;generalize w.setChan (w0.heap.size+1) nj (((fJ 0 k).map (λ(p:Nat)=>aS .i64 p)).toArray.push (.int .i64 k)) au (s+1) r O=U at *;rw[show w.heap.size=U.heap.size by omega];walk_nrm;refine mq ?_;refine zT ?_;refine gA ?_;simp only[aD,ay,aC,Nat.reduceAdd,aZ,a6,a7];have hwr:IntKind.i64.wrap ((k:Int)+1)=((k+1:Nat):Int):=by rw[IntKind.wrap_i64];omega
  refine eA (.int .i64 ((k+1:Nat):Int)) rfl rfl (by simp[base]) (λw=>by go_simp) (λw=>by simp[go_sem, *]) ?_;walk_nrm;refine eA (.int .i64 ((k+1:Nat):Int)) rfl rfl (by simp[base]) (λw=>by go_simp) (λw=>by simp[go_sem, *]) ?_;walk_nrm;refine mq ?_;refine OS ?_;exact ih (k+1) U _ _ _ _ _ _ _ _ _ _ _ _ _ _ _ _ (by omega) R K
def RX{jf:bG}{o:Array ak}(U:W<=w0.heap.size)(VI:nj<=1000)(V:fv=.func (.func jf) #[] o)(K:∀w(N F v x y z A H:ak),EW w0 fv nj nj ar w->p9 aj c Z W Y (G ((base 47).at ⟨uB n nj fv w0.heap.size N undef F (.int .i64 nj) (.int .i64 nj) v x y z A H undef undef undef undef undef undef undef,[]⟩ [.code oY]) X) w):p9 aj c Z W Y (G ((base 47).at ⟨#[.int .i64 n,.int .i64 nj,fv]++dF 23 undef,[]⟩ [.code j8]) X) w0:=by
 obtain⟨i0,t,_,_,u⟩:=info_parts K8;simp only[j8,f47,bI,cG,cH,dy,c9,cg,cW];refine j1 ?_;refine gA ?_;simp only[aD,ay,aC,Nat.reduceAdd,aZ,a6,a7];refine n9 (.pointer (ae ⟨w0.heap.size,0,ah⟩)) (w':=w0.alloc (.cells #[fv] 113)) rfl rfl (by simp[base]) (λb f=>Below.heap_alloc w0 _ b (by omega)) (by simp) (λa d=> ?_) (λa d e j=> ?_) ?_;go_simp;exact⟨rfl,rfl⟩
 ·simp[go_sem, *]at j
 walk_nrm;have O:∀b,b<w0.heap.size->(w0.alloc (.cells #[fv] 113)).heap[b]? =w0.heap[b]?:=λb f=>Below.heap_alloc w0 _ b f
 have L:(w0.alloc (.cells #[fv] 113)).heap.size=w0.heap.size+1:=by simp
 have Q:(w0.alloc (.cells #[fv] 113)).heap[w0.heap.size]? =ae (.cells #[fv] 113):=heap_alloc_new w0 _;have o1:(w0.alloc (.cells #[fv] 113)).os=w0.os/\(w0.alloc (.cells #[fv] 113)).output=w0.output:=⟨rfl,rfl⟩;generalize w0.alloc (.cells #[fv] 113)=h at *;refine mq ?_;refine j1 ?_;refine gA ?_;simp only[aD,ay,aC,Nat.reduceAdd,aZ,a6,a7];refine eA (.int .i64 nj) rfl rfl (by simp[base]) (λw=>by go_simp) (λw=>by simp[go_sem, *]) ?_;walk_nrm;refine n9 (.chan (ae (w0.heap.size+1))) (w':=h.alloc (.chan nj #[] au 0 0 au)) rfl rfl (by simp[base]) (λb f=>Below.heap_alloc h _ b (by omega)) (by simp) (λa d=> ?_) (λa d e j=> ?_) ?_;have hr:=λw=>run_makeChan (P:=aj) (w:=w) underlying179 t .i64 nj (by omega) (by rw[u];omega)
 go_simp;exact⟨by show h.heap.size=_;omega,rfl⟩
 ·have hr:=λw=>events_makeChan (P:=aj) (w:=w) underlying179 t .i64 nj (by omega) (by rw[u];omega) #[]
  simp[go_sem, *]at j
 walk_nrm;have I:∀b,b<w0.heap.size+1->(h.alloc (.chan nj #[] au 0 0 au)).heap[b]? =h.heap[b]?:=λb f=>Below.heap_alloc h _ b (by omega)
 have M:(h.alloc (.chan nj #[] au 0 0 au)).heap.size=w0.heap.size+2:=by simp[L]
 have R:(h.alloc (.chan nj #[] au 0 0 au)).heap[w0.heap.size+1]? =ae (.chan nj #[] au 0 0 au):=by rw[<-L];exact heap_alloc_new h _
 have o2:(h.alloc (.chan nj #[] au 0 0 au)).os=w0.os/\(h.alloc (.chan nj #[] au 0 0 au)).output=w0.output:=o1;generalize h.alloc (.chan nj #[] au 0 0 au)=i at *;refine n9 (.pointer (ae ⟨w0.heap.size+2,0,ah⟩)) (w':=i.alloc (.cells #[.chan ah] 179)) rfl rfl (by simp[base]) (λb f=>Below.heap_alloc i _ b (by omega)) (by simp) (λa d=> ?_) (λa d e j=> ?_) ?_;go_simp;exact⟨by show i.heap.size=_;omega,rfl⟩
 ·simp[go_sem, *]at j
 walk_nrm;have D:∀b,b<w0.heap.size+2->(i.alloc (.cells #[.chan ah] 179)).heap[b]? =i.heap[b]?:=λb f=>Below.heap_alloc i _ b (by omega)
 have s3:(i.alloc (.cells #[.chan ah] 179)).heap.size=w0.heap.size+3:=by simp[M]
 have B:(i.alloc (.cells #[.chan ah] 179)).heap[w0.heap.size+2]? =ae (.cells #[.chan ah] 179):=by rw[<-M];exact heap_alloc_new i _
 have J:(i.alloc (.cells #[.chan ah] 179)).os=w0.os/\(i.alloc (.cells #[.chan ah] 179)).output=w0.output:=o2;generalize i.alloc (.cells #[.chan ah] 179)=g at *;have m:∀a d,(cL g a d).cell? ⟨w0.heap.size+2,0,ah⟩=ae (.chan ah):=λa d=>by show g.cell? _=_;unfold b3;simp only[B];rfl
 have C:∀a d,(cL g a d).frozen? ⟨w0.heap.size+2,0,ah⟩=au:=λa d=>by show g.frozen? _=_;unfold World.frozen?;simp only[B];rfl
 refine KP (w':=g.setCell ⟨w0.heap.size+2,0,ah⟩ (.chan (ae (w0.heap.size+1)))) rfl rfl (by simp[base]) (λb f=>Below.heap_setCell g _ _ b (by simp;omega)) (by simp) (λa d=> ?_) (λa d e j=> ?_) ?_;have m:=m a d;have C:=C a d;go_simp;exact tH _ _ _ _ _
 ·have m:=m a d;have C:=C a d;simp[go_sem, *]at j;subst j;exact mm (by show W<=w0.heap.size+2;omega) (by simp;omega)
 walk_nrm;have S:EW w0 fv nj 0 au (g.setCell ⟨w0.heap.size+2,0,ah⟩ (.chan (ae (w0.heap.size+1)))):=by
  have blk:∀b,b≠w0.heap.size+2->(g.setCell ⟨w0.heap.size+2,0,ah⟩ (.chan (ae (w0.heap.size+1)))).heap[b]? =g.heap[b]?:=λb f=>Below.heap_setCell g _ _ b (by simp;omega)
  refine⟨λb f=> ?_,by simpa using s3,?_,⟨0,0,au,?_⟩,?_,(LZ _ _ _).trans J.1,(Bj _ _ _).trans J.2⟩;rw[blk _ (by omega),D _ (by omega),I _ (by omega),O _ f];rw[blk _ (by omega),D _ (by omega),I _ (by omega),Q];rw[blk _ (by omega),D _ (by omega),R];rfl;rw[setCell_eq_setRow g (w0.heap.size+2) 0 #[.chan ah] 179 (0,0) _ B,setRow_heap g (w0.heap.size+2) _ _ 179 _ B];rfl
 generalize g.setCell ⟨w0.heap.size+2,0,ah⟩ (.chan (ae (w0.heap.size+1)))=w4 at *;refine mq ?_;refine j1 ?_;refine j1 ?_;refine gA ?_;simp only[aD,ay,aC,Nat.reduceAdd,aZ,a6,a7];refine eA (.int .i64 nj) rfl rfl (by simp[base]) (λw=>by go_simp) (λw=>by simp[go_sem, *]) ?_;walk_nrm;refine eA (.int .i64 0) rfl rfl (by simp[base]) (λw=>by go_simp) (λw=>by simp[go_sem, *]) ?_;walk_nrm;refine mq ?_;refine zR ?_;refine Vr ?_;refine RV U (by omega) nj 0 w4 _ _ _ _ _ _ _ _ _ _ _ _ _ _ _ _ (by omega) S ?_;intro k N v x y z A l;simp only[Bi,j8,f47,bI];refine j1 ?_;refine gA ?_;simp only[aD,ay,aC,Nat.reduceAdd,aZ,a6,a7];have q:∀a d,(cL k a d).cell? ⟨w0.heap.size+2,0,ah⟩=ae (.chan (ae (w0.heap.size+1))):=λa d=>by show k.cell? _=_;unfold b3;simp only[l.cn];rfl
 have s5:=l.size;refine n9 (.chan (ae (w0.heap.size+1))) rfl rfl (by simp[base]) (w':=k) (λ_ _=>rfl) (av _) (λa d=>by have m:=q a d;go_simp) (λa d e j=>by have m:=q a d;simp[go_sem, *]at j;subst j;exact mm (by show W<=w0.heap.size+2;omega) (by simp;omega)) ?_;walk_nrm;obtain⟨s,r,tm,E⟩:=l.ch;refine EY.step (w':=k.setChan (w0.heap.size+1) nj ((fJ 0 nj).map (λ(p:Nat)=>aS .i64 p)).toArray ar s r tm) rfl (λa d=>⟨_,stepG_close rfl rfl (by simp[base]) rfl (cap:=nj) (s:=s) (r:=r) (tm:=tm) (buf:=((fJ 0 nj).map (λ(p:Nat)=>aS .i64 p)).toArray) rfl (by exact E) (by kernel_rfl),OM (by omega) (by simp[oj];omega)⟩) ?_ ?_ (by simp[oj]) (av _) ?_;intro b f;show(k.heap.setIfInBounds _ _)[b]? =_;rw[aJ (by omega)];simp[oj];have T:EW w0 fv nj nj ar (k.setChan (w0.heap.size+1) nj ((fJ 0 nj).map (λ(p:Nat)=>aS .i64 p)).toArray ar s r tm):=by
  have blk:∀b,b≠w0.heap.size+1->(k.setChan (w0.heap.size+1) nj ((fJ 0 nj).map (λ(p:Nat)=>aS .i64 p)).toArray ar s r tm).heap[b]? =k.heap[b]?:=λb f=>by show(k.heap.setIfInBounds _ _)[b]? =_;rw[aJ (kG f)]
  refine⟨λb f=>(blk b (by omega)).trans (l.old b f),by simpa[oj]using l.size,(blk _ (by omega)).trans l.cf,⟨s,r,tm,?_⟩,(blk _ (by omega)).trans l.cn,l.os,l.output⟩;show(k.heap.setIfInBounds _ _)[w0.heap.size+1]? =_;rw[aK (by omega)]
 generalize k.setChan (w0.heap.size+1) nj ((fJ 0 nj).map (λ(p:Nat)=>aS .i64 p)).toArray ar s r tm=w6 at *;walk_nrm;refine mq ?_;exact K w6 _ _ _ _ _ _ _ _ T
end
end
section
open Rel
open Go.Conc Go.ConcN
open Go.Conc.Lib (doneFn)
open Go.ConcR (Payload WgAt)
open Go.ConcR.Gen (body_done)
instance acr:Payload:=⟨1⟩
structure WK(φ:Ph) (w0:ai) (b1 C:Nat) (fv:ak) (γ:Gh) (w:ai):Prop where
 o1:γ.own b1
 oC:γ.own C
 c1:w.cell? ⟨b1,0,ah⟩=ae (.pointer (ae ⟨φ.Wg,0,ah⟩))
 cC:w.heap[C]? =ae (.cells #[fv] 1)
 rd:∀b,φ.jB b->w.heap[b]? =w0.heap[b]?
 pay:∀b,φ.CB b->dp w b=dp w0 b
 live:WgLive φ.ty φ.Wg w
 cb:∀r,γ.own r->¬φ.CB r/\¬φ.jB r/\r≠φ.Wg/\r<w.heap.size
 size:w0.heap.size<=w.heap.size
 td:∀i,γ.held i->φ.JP (λb=>γ.own b/\b≠C) i w
section
variable{Z:Ph} {Y w X:ai} {W C:Nat} {V:ak} {U:Gh}
def WK.rely(O:Z.Ok)(h:WK Z Y W C V U w)(r:Z.dQ U w X):WK Z Y W C V U X:=⟨h.o1,h.oC,(bp (r.own W h.o1)).trans h.c1,(r.own C h.oC).trans h.cC,λb e=>(r.rd b e).trans (h.rd b e),λb e=>(r.pay b e).trans (h.pay b e),r.live h.live,λx j=>let⟨a,b,d,c⟩:=h.cb x j;⟨a,b,d,aW c r.size⟩,be h.size r.size,λi f=>O.jp _ w X i (λb e=>r.own b e.1) (λa g=>r.cell i a f g) (h.td i f)⟩
def WK.abj(h:WK Z Y W C V U w):PayAt C 1 w:=⟨_,h.cC,rfl⟩
def WK.has(h:WK Z Y W C V U w):Has C 0 V w:=by unfold Has b3;rw[h.cC];rfl
def WK.close(h:WK Z Y W C V U w):WK Z Y W C V U.close w:=⟨h.o1,h.oC,h.c1,h.cC,h.rd,h.pay,h.live,h.cb,h.size,h.td⟩
noncomputable def Nh(Z:Ph)(U:Gh):Nat:=by classical exact(a6 Z.nj).countP (λp=>decide (¬U.held p))
def Li{p:Nat}(hp:p<Z.nj)(d:¬U.held p){a:Gh}(h:∀i,a.held i↔(U.held i\/i=p)):Nh Z a<Nh Z U:=by
 classical
 unfold Nh;refine tT (λx _ b=> ?_) ⟨p,gm.2 hp,?_,?_⟩;simp only[decide_eq_true_eq]at b|-;exact λc=>b ((h x).2 (.inl c))
 simpa using d;simpa using(h p).2 (.inr rfl)
def vz(Z:Ph)(Y:ai)(h:bG)(d:Array ak):Prop:=
 ∀(W C:Nat)(V:ak)(U:Gh)(w:ai)(p:Nat),WK Z Y W C V U w->p<Z.nj->¬U.held p->Z.J0 p w->
  ∃F x,Z.P.funcs[h]? =ae F/\(F.name== "runtime.NumGoroutine")=au/\F.body=ae x/\
   ∀(b:aY)(a:Act)(k:List Item)(g:List aY)(f:Array Oper)(i:Nat)(e:List Nat),b.kind=.normal->
    (∀c w',WK Z Y W C V c w'->(∀q,c.held q↔(U.held q\/q=p))->c.over=U.over->Z.WT c (G (b.at (a.put ((f[i]?).bind (·.dst)) (.tuple #[])) (.inRegion f e::k)) g) w')->
    Z.WT (U.hold p) (G ((base h).at {tmps:=(#[Z.jv p]++d)++dF (F.ntmps-(#[Z.jv p]++d).size) undef,defers:=[]} [.code x]) (b.at a (.inRegion f (i::e)::k)::g)) w
end
noncomputable def Fx:Code:=match f105.body with|some (.seq _ (.block _ (.loop x)))=>x|_=>.skip
def Mr{d:Ph}(O:d.Ok)(u:d.P=aj)(Q:d.z=.int .i64 0)(J:∀p,p<d.nj->∃n,d.jv p=.int .i64 n){w0:ai}{Y o E C:Nat}{fv:ak}{D:bG}{f:Array ak}(N:d.jB o)(Z:w0.cell? ⟨o,0,ah⟩=ae (.func (.func D) #[] f))(hJ:vz d w0 D f){b:aY}{a:Act}{k:List Item}{P:List aY}{r:Array Oper}{i:Nat}{l:List Nat}(K:∀j w',WK d w0 E C fv j w'->j.over->d.WT j (G (b.at (a.put ((r[i]?).bind (·.dst)) (.tuple #[])) (.inRegion r l::k)) P) w'):∀(n:Nat)(s:Gh)(w:ai)(R S T U V W X:ak),Nh d s=n->WK d w0 E C fv s w->d.WT s (G ((base 105).at ⟨#[.pointer (ae ⟨Y,0,ah⟩),.pointer (ae ⟨o,0,ah⟩),R,.chan (ae d.Ch),S,T,U,V,W,X],[]⟩ [.code Fx,.inLoop Fx,.inBlock 0]) (b.at a (.inRegion r (i::l)::k)::P)) w:=by
 intro n
 induction n using Nat.strongRecOn with
 |_ n ih=>
  intro s w R S T U V W X hn h;have y:d.P.funcs[105]? =ae f105:=by rw[u];exact func105
  simp only[Fx,f105];refine fM O ?_;refine dV O ?_;simp only[aD,ay,aC,Nat.reduceAdd,aZ,a6,a7];refine Xd rfl rfl (by simp[base]) rfl rfl (λw=> ?_) (λw=> ?_) (λg p M hp A I=> ?_) (λg M=> ?_);rw[u,Q];go_simp;rfl
  ·rw[u];simp[go_sem, *]
  ·have B:=h.rely O M;obtain⟨m,hm⟩:=J p hp;rw[hm];simp only[Act.put,List.setIfInBounds_toArray,List.set_cons_succ,List.set_cons_zero];refine dY O (.bool ar) rfl rfl (by simp[base]) (λw _=>by go_simp) (λw _=>by simp[go_sem, *]) ?_;walk_nrm;refine gG O ?_;refine fM O ?_;refine tP O rfl ?_;refine wW O ?_;refine wV O ?_;refine fM O ?_;refine dV O ?_;simp only[aD,ay,aC,Nat.reduceAdd,aZ,a6,a7];refine dY O (.int .i64 m) rfl rfl (by simp[base]) (λw _=>by go_simp) (λw _=>by simp[go_sem, *]) ?_;walk_nrm;refine dY O (.int .i64 m) rfl rfl (by simp[base]) (λw _=>by go_simp) (λw _=>by simp[go_sem, *]) ?_;walk_nrm;refine gG O ?_;refine dV O ?_;simp only[aD,ay,aC,Nat.reduceAdd,aZ,a6,a7];have v:∀c,d.dQ (s.hold p) g c->c.cell? ⟨o,0,ah⟩=ae (.func (.func D) #[] f):=λc t=>(bp ((t.rd o N).trans (B.rd o N))).trans Z
   refine lL O (.func (.func D) #[] f) (ad:=⟨o,0,ah⟩) rfl rfl (by simp[base]) (.inr N) (λc t=>by have v:=v c t;rw[u];go_simp) (λc t e H=>by have v:=v c t;rw[u]at H;simp[go_sem, *]at H;exact H) ?_;clear v;walk_nrm;refine dY O (.int .i64 m) rfl rfl (by simp[base]) (λw _=>by go_simp) (λw _=>by simp[go_sem, *]) ?_;walk_nrm;obtain⟨F,x,hF,q,hx,z⟩:=hJ E C fv s g p B hp A I;refine BG O rfl rfl (by simp[base]) rfl rfl hF q hx ?_;rw[hm]at z;walk_nrm;refine z _ _ _ _ _ _ _ rfl λj w' L hh hov=> ?_
   walk_nrm;refine gG O ?_;refine BH O ?_;refine EP O ?_;exact ih _ (by have:=Li hp A hh;omega) j w' _ _ _ _ _ _ _ rfl L
  have B:=(h.rely O M).close;rw[Q];simp only[Act.put,List.setIfInBounds_toArray,List.set_cons_succ,List.set_cons_zero];refine dY O (.bool au) rfl rfl (by simp[base]) (λw _=>by go_simp) (λw _=>by simp[go_sem, *]) ?_;walk_nrm;refine gG O ?_;refine fM O ?_;refine tO O rfl ?_;refine N4 O rfl ?_;refine zt O ?_;refine .leave0 O rfl rfl y rfl ?_;exact K _ _ B trivial
def ZW{d:Ph}(O:d.Ok)(t:d.P=aj)(F:d.z=.int .i64 0)(v:∀p,p<d.nj->∃n,d.jv p=.int .i64 n){w0:ai}{j s y C:Nat}{fv:ak}{A:bG}{f:Array ak}(x:d.jB j)(H:d.jB s)(D:w0.cell? ⟨j,0,ah⟩=ae (.chan (ae d.Ch)))(B:w0.cell? ⟨s,0,ah⟩=ae (.func (.func A) #[] f))(E:vz d w0 A f){b:aY}{a:Act}{k:List Item}{z:List aY}{l:Array Oper}{i:Nat}{g:List Nat}(r:Gh)(w:ai)(h:WK d w0 y C fv r w)(K:∀m w',WK d w0 y C fv m w'->m.over->d.WT m (G (b.at (a.put ((l[i]?).bind (·.dst)) (.tuple #[])) (.inRegion l g::k)) z) w'):d.WT r (G ((base 105).at ⟨#[.pointer (ae ⟨j,0,ah⟩),.pointer (ae ⟨s,0,ah⟩)]++dF 8 undef,[]⟩ [.code ((f105).body.getD .skip)]) (b.at a (.inRegion l (i::g)::k)::z)) w:=by
 simp only[f105,bI,cG,cH,dy,c9,cg,cW];refine fM O ?_;refine dV O ?_;simp only[aD,ay,aC,Nat.reduceAdd,aZ,a6,a7];have q:∀c,d.dQ r w c->c.cell? ⟨j,0,ah⟩=ae (.chan (ae d.Ch)):=λc o=>(bp ((o.rd j x).trans (h.rd j x))).trans D
 refine lL O (.chan (ae d.Ch)) (ad:=⟨j,0,ah⟩) rfl rfl (by simp[base]) (.inr x) (λc o=>by have q:=q c o;rw[t];go_simp) (λc o e u=>by have q:=q c o;rw[t]at u;simp[go_sem, *]at u;exact u) ?_;clear q;walk_nrm;refine gG O ?_;refine wV O ?_;refine N5 O ?_;exact Mr O t F v H B E K _ r w _ _ _ _ _ _ _ rfl h
def RN(d:Nat)(w:ai):Sem.events aj (Op.equalIn (d+1) 20 .nilIface .nilIface) w #[]=#[]:=by unfold Op.equalIn;simp[go_sem]
def P'(d:Nat)(w:ai):Sem.run aj (Op.equalIn (d+1) 20 .nilIface .nilIface) w=.ok ar w:=by unfold Op.equalIn;simp[go_sem]
def OP(w:ai):Sem.events aj (binOp BinOp.neq 20 Value.nilIface Value.nilIface) w #[]=#[]:=by have h:binOp BinOp.neq 20 Value.nilIface Value.nilIface=(do pure (.bool (!(<-Op.equal 20 .nilIface .nilIface)))):=rfl;rw[h];unfold Op.equal;have e:Op.maxDepth=9999+1:=rfl;rw[e];have a:=RN 9999 w;have b:=P' 9999 w;generalize Op.equalIn (9999+1) 20 .nilIface .nilIface=s at a b;simp[a,b]
def Us{b:Ph}(O:b.Ok)(d:b.P=aj)(u:b.ty=189)(B:b.z=.int .i64 0)(s:∀p,p<b.nj->∃n,b.jv p=.int .i64 n){w0:ai}{l k j C:Nat}{x:bG}{caps:Array ak}(E:b.jB l)(D:b.jB k)(z:w0.cell? ⟨l,0,ah⟩=ae (.chan (ae b.Ch)))(y:w0.cell? ⟨k,0,ah⟩=ae (.func (.func x) #[] caps))(A:vz b w0 x caps){q:Gh}{w:ai}(h:WK b w0 j C (.func (.func 105) #[] #[.pointer (ae ⟨l,0,ah⟩),.pointer (ae ⟨k,0,ah⟩)]) q w):b.WT q (born b.P (og 154 #[.pointer (ae ⟨j,0,ah⟩),.pointer (ae ⟨C,0,ah⟩)] #[])) w:=by
 have m:b.P.funcs[154]? =ae f154:=by rw[d];exact func154
 have o:b.P.funcs[155]? =ae f155:=by rw[d];exact func155
 have r:b.P.funcs[105]? =ae f105:=by rw[d];exact func105
 have H:Go.Conc.Lib.WgLib b.P kz:=d▸Ul;refine Xb O m rfl rfl ?_;walk_nrmf f154;refine fM O ?_;refine dV O ?_;simp only[aD,ay,aC,Nat.reduceAdd,aZ,a6,a7];refine dY O (.func (.func 155) #[] #[.pointer (ae ⟨j,0,ah⟩)]) rfl rfl (by simp[baseD]) (λw _=>by go_simp) (λw _=>by simp[go_sem, *]) ?_;walk_nrm;refine Qs O rfl rfl (by simp[baseD]) rfl rfl rfl ?_;walk_nrm;refine gG O ?_;refine dV O ?_;simp only[aD,ay,aC,Nat.reduceAdd,aZ,a6,a7];have f:∀a,b.dQ q w a->a.cell? ⟨C,0,ah⟩=ae (.func (.func 105) #[] #[.pointer (ae ⟨l,0,ah⟩),.pointer (ae ⟨k,0,ah⟩)]):=λa c=>(h.rely O c).has
 refine lL O (.func (.func 105) #[] #[.pointer (ae ⟨l,0,ah⟩),.pointer (ae ⟨k,0,ah⟩)]) (ad:=⟨C,0,ah⟩) rfl rfl (by simp[baseD]) (.inl h.oC) (λa c=>by have f:=f a c;rw[d];go_simp) (λa c e i=>by have f:=f a c;rw[d]at i;simp[go_sem, *]at i;exact i) ?_;clear f;walk_nrm;refine BG O rfl rfl (by simp[baseD]) rfl rfl r rfl rfl ?_;walk_nrm;refine ZW O d B s E D z y A q w h λv w' g t=> ?_
 walk_nrm;refine gG O ?_;refine zt O ?_;refine Ms O rfl o rfl rfl ?_;walk_nrmf f155;refine fM O ?_;refine fM O ?_;refine dV O ?_;simp only[aD,ay,aC,Nat.reduceAdd,aZ,a6,a7];refine GG O rfl rfl rfl rfl rfl rfl ?_;walk_nrm;refine dY O .nilIface rfl rfl (by simp[baseD]) (λw _=>by go_simp) (λw _=>by simp[go_sem, *]) ?_;walk_nrm;refine gG O ?_;refine fM O ?_;refine dV O ?_;simp only[aD,ay,aC,Nat.reduceAdd,aZ,a6,a7];refine dY O .nilIface rfl rfl (by simp[baseD]) (λw _=>by go_simp) (λw _=>by simp[go_sem, *]) ?_;walk_nrm;refine dY O (.bool au) rfl rfl (by simp[baseD]) (λw _=>by rw[d];go_simp) (λw _=>by rw[d];simp[go_sem, *];exact OP w) ?_;walk_nrm;refine gG O ?_;refine tO O rfl ?_;refine wW O ?_;refine dV O ?_;simp only[aD,ay,aC,Nat.reduceAdd,aZ,a6,a7];have f:∀a,b.dQ v w' a->a.cell? ⟨j,0,ah⟩=ae (.pointer (ae ⟨b.Wg,0,ah⟩)):=λa c=>(g.rely O c).c1
 refine lL O (.pointer (ae ⟨b.Wg,0,ah⟩)) (ad:=⟨j,0,ah⟩) rfl rfl (by simp[baseD]) (.inl g.o1) (λa c=>by have f:=f a c;rw[d];go_simp) (λa c e i=>by have f:=f a c;rw[d]at i;simp[go_sem, *]at i;exact i) ?_;clear f;walk_nrm;refine BG O (caps:=#[]) rfl rfl (by simp[baseD]) rfl rfl H.f_done (Go.ConcR.Gen.nm_done kz) rfl ?_;walk_nrmf doneFn;refine Xc (L:=kz) H u t g.oC g.abj g.has g.live g.td (qt:=3+2) ?_;walk_nrm;refine QuitsD.ctl rfl (λ_=>stepG_region_end) ?_;refine QuitsD.ctl rfl (λ_=>stepG_end) ?_;refine QuitsD.leaveD rfl rfl o rfl rfl ?_;exact FW rfl rfl m rfl
end
section
open Rel
open Go.Conc Go.ConcN
open Go.ConcR (Payload WgAt)
open Go.RowKit
structure PB(φ:Ph) (c:fg) (wp:ai) (b1 C:Nat) (fv:ak) (p:Nat) (H0:Nat->Prop) (ov:Prop) (γ:Gh) (w L:ai) (π:Ren) (N:Nat->Prop):Prop where
 o1:γ.own b1
 oC:γ.own C
 c1:w.cell? ⟨b1,0,ah⟩=ae (.pointer (ae ⟨φ.Wg,0,ah⟩))
 cC:w.heap[C]? =ae (.cells #[fv] 1)
 rd:∀b,φ.jB b->w.heap[b]? =wp.heap[b]?
 pay:∀b,φ.CB b->dp w b=dp wp b
 live:WgLive φ.ty φ.Wg w
 cb:∀r,γ.own r->¬φ.CB r/\¬φ.jB r/\r≠φ.Wg/\r<w.heap.size
 size:wp.heap.size<=w.heap.size
 hp:γ.held p
 held:∀q,γ.held q↔H0 q
 over:γ.over=ov
 po:∀l r,π l r->γ.own r/\r≠b1/\r≠C/\¬N r
 hH:bS φ.P c.sig π L w
 no:∀r,N r->γ.own r/\r≠b1/\r≠C
 td:∀i,γ.held i->i≠p->φ.JP (λb=>γ.own b/\b≠C/\(∀l,¬π l b)/\¬N b) i w
section
variable{Z:Ph} {c:fg} {Y w X w' L W:ai} {V C p:Nat} {U:ak} {T:Nat->Prop} {S:Prop} {R Q:Gh} {P M:Ren} {N O:Nat->Prop}
def PB.rely(O:Z.Ok)(g:∀a x,c.mem a=ae x->Z.jB a.block)(h:PB Z c Y V C U p T S R w L P N)(r:Z.dQ R w X):PB Z c Y V C U p T S R X L P N:=⟨h.o1,h.oC,(bp (r.own V h.o1)).trans h.c1,(r.own C h.oC).trans h.cC,λb e=>(r.rd b e).trans (h.rd b e),λb e=>(r.pay b e).trans (h.pay b e),r.live h.live,λx f=>let⟨a,b,d,c⟩:=h.cb x f;⟨a,b,d,aW c r.size⟩,be h.size r.size,h.hp,h.held,h.over,h.po,⟨h.hH.ok,λl x f=>by obtain⟨o,z,k,m,n⟩:=h.hH.obj l x f;exact⟨o,z,k,(r.own x (h.po l x f).1).trans m,n⟩,h.hH.kr,be h.hH.mR r.size,λa x f=>by obtain⟨q,s,t,u⟩:=h.hH.old a x f;exact⟨q,s,t,(iW (r.rd _ (g a x f))).trans u⟩⟩,h.no,λi j y=>O.jp _ w X i (λb e=>r.own b e.1) (λa v=>r.cell i a j v) (h.td i j y)⟩
def PB.val(O:Z.Ok)(s:∀a x,c.mem a=ae x->Z.jB a.block)(k:∀r,Z.jB r\/Z.CB r\/r=Z.Wg->r<Y.heap.size)(h:PB Z c Y V C U p T S R w L P N)(n:∀r,r<w.heap.size->¬N r->w'.heap[r]? =w.heap[r]?)(y:w.heap.size<=w'.heap.size):PB Z c Y V C U p T S (R.grow w w') w' L P (λr=>N r\/(w.heap.size<=r/\r<w'.heap.size)):=by
 have hs:=h.size;have W:∀r,Z.jB r\/Z.CB r\/r=Z.Wg->¬N r:=λr f m=>by obtain⟨a,b,c,_⟩:=h.cb r (h.no r m).1;rcases f with f|f|f;exact b f;exact a f;exact c f
 have keep:∀r,Z.jB r\/Z.CB r\/r=Z.Wg->w'.heap[r]? =w.heap[r]?:=λr f=>n r (by have:=k r f;omega) (W r f)
 have M:w'.heap[V]? =w.heap[V]?:=n V (h.cb V h.o1).2.2.2 λm=>(h.no V m).2.1 rfl
 have Q:w'.heap[C]? =w.heap[C]?:=n C (h.cb C h.oC).2.2.2 λm=>(h.no C m).2.2 rfl
 refine⟨.inl h.o1,.inl h.oC,(bp M).trans h.c1,Q.trans h.cC,λb g=>(keep b (.inl g)).trans (h.rd b g),λb g=> ?_,?_,λx j=> ?_,be h.size y,h.hp,h.held,h.over,λl r t=> ?_,?_,λr f=> ?_,λi I K=> ?_⟩;unfold dp;rw[keep b (.inr (.inl g))];exact h.pay b g;obtain⟨st,sm,J⟩:=h.live;exact⟨st,sm,(keep Z.Wg (.inr (.inr rfl))).trans J⟩;rcases j with j|⟨u,v⟩;obtain⟨a,b,c,d⟩:=h.cb x j;exact⟨a,b,c,by omega⟩;exact⟨λq=>by have:=k x (.inr (.inl q));omega,λq=>by have:=k x (.inl q);omega,λq=>by have:=k x (.inr (.inr q));omega,v⟩;obtain⟨a,b,d,e⟩:=h.po l r t;exact⟨.inl a,b,d,λj=>j.elim e λj=>by have:=(h.cb r a).2.2.2;omega⟩;refine⟨h.hH.ok,λl x j=> ?_,h.hH.kr,be h.hH.mR y,λa x j=> ?_⟩;obtain⟨o,X,z,A,B⟩:=h.hH.obj l x j;obtain⟨a,_,_,e⟩:=h.po l x j;exact⟨o,X,z,(n x (h.cb x a).2.2.2 e).trans A,B⟩;obtain⟨D,E,F,G⟩:=h.hH.old a x j;exact⟨D,E,F,(iW (keep _ (.inl (s a x j)))).trans G⟩;rcases f with f|⟨u,v⟩;exact⟨.inl (h.no r f).1,(h.no r f).2⟩;exact⟨.inr ⟨u,v⟩,λe=>by have:=(h.cb V h.o1).2.2.2;omega,λe=>by have:=(h.cb C h.oC).2.2.2;omega⟩;refine O.qm (λb=>R.own b/\b≠C/\(∀l,¬P l b)/\¬N b) _ w' i (λb g=>⟨.inl g.1,g.2.1,g.2.2.1,λm=> ?_⟩) (O.jp _ w w' i (λb g=>n b (h.cb b g.1).2.2.2 g.2.2.2) (λa H=> ?_) (h.td i I K));rcases m with m|⟨u,_⟩;exact g.2.2.2 m;have:=(h.cb b g.1).2.2.2;omega;exact bp (keep _ (.inr (.inl (O.la i a H))))
def PSt(R:Gh)(P:Ren):Nat->Prop:=λr=>R.own r/\∀l,¬P l r
def PB.call(O:Z.Ok)(k:∀r,Z.jB r\/Z.CB r\/r=Z.Wg->r<Y.heap.size)(h:PB Z c Y V C U p T S R w L P N)(H:bS Z.P c.sig M W w')(F:∀l r,M l r->Q.own r)(n:∀r,R.own r->Q.own r)(t:Q.held=R.held)(u:Q.over=R.over)(G:∀r,Q.own r->R.own r\/(w.heap.size<=r/\r<w'.heap.size))(g:Kept Z R (PSt R P) w w')(o:∀r,PSt R P r->∀l,¬M l r):PB Z c Y V C U p T S Q w' W M N:=by have X:=h.size;have D:PSt R P V:=⟨h.o1,λl y=>(h.po l V y).2.1 rfl⟩;have E:PSt R P C:=⟨h.oC,λl y=>(h.po l C y).2.2.1 rfl⟩;refine⟨n _ h.o1,n _ h.oC,(bp (g.st V D)).trans h.c1,(g.st C E).trans h.cC,λb f=>(g.rd b f).trans (h.rd b f),λb f=>(g.pay b f).trans (h.pay b f),g.live h.live,λx A=> ?_,be h.size g.size,t▸h.hp,λq=>by rw[t];exact h.held q,u.trans h.over,λl r j=>⟨F l r j,λe=>o V D l (e▸j),λe=>o C E l (e▸j),λs=> ?_⟩,H,λr B=>⟨n _ (h.no r B).1,(h.no r B).2⟩,λi v s=> ?_⟩;rcases G x A with A|⟨x1,K⟩;obtain⟨a,b,c,d⟩:=h.cb x A;exact⟨a,b,c,by have:=g.size;omega⟩;exact⟨λm=>by have:=k x (.inr (.inl m));omega,λm=>by have:=k x (.inl m);omega,λm=>by have:=k x (.inr (.inr m));omega,K⟩;exact o r ⟨(h.no r s).1,λJ z=>(h.po J r z).2.2.2 s⟩ l j;rw[t]at v;exact O.qm (λb=>R.own b/\b≠C/\(∀l,¬P l b)/\¬N b) _ w' i (λb f=>⟨n _ f.1,f.2.1,o b ⟨f.1,f.2.2.1⟩,f.2.2.2⟩) (O.jp _ w w' i (λb f=>g.st b ⟨f.1,f.2.2.1⟩) (λa I=>g.cell i a v I) (h.td i v s))
def PB.start(j:Z.P.globals.size<=Y.heap.size)(hold:∀a x,c.mem a=ae x->Z.jB a.block/\Y.cell? a=ae (.int .i64 x))(h:WK Z Y V C U R w)(m:¬R.held p)(O:Z.Ok):PB Z c Y V C U p (λq=>R.held q\/q=p) R.over (R.hold p) w w (λ_ _=>False) (λ_=>False):=⟨h.o1,h.oC,h.c1,h.cC,h.rd,h.pay,h.live,h.cb,h.size,.inr rfl,λ_=>Iff.rfl,rfl,λ_ _ d=>d.elim,⟨⟨λ_ _ _ h=>h.elim,λ_ _ _ h=>h.elim,λ_ _ h=>h.elim⟩,λ_ _ d=>d.elim,be j h.size,be j h.size,λa x k=>by have e:w.cell? a=ae (.int .i64 x):=(iW (h.rd _ (hold a x k).1)).trans (hold a x k).2;exact⟨λ_ h=>h,λ_ h=>h,e,e⟩⟩,λ_ d=>d.elim,λi l f=>O.qm _ _ w i (λb g=>⟨g.1,g.2,λ_ x=>x.elim,λx=>x.elim⟩) (h.td i (l.resolve_right f))⟩
def PB.finish(O:Z.Ok)(h:PB Z c Y V C U p T S R w L P N)(f:Z.JP (λb=>R.own b/\b≠C) p w):WK Z Y V C U R w:=⟨h.o1,h.oC,h.c1,h.cC,h.rd,h.pay,h.live,h.cb,h.size,λi d=>by by_cases e:i=p;subst e;exact f;exact O.qm _ _ w i (λb a=>⟨a.1,a.2.1⟩) (h.td i d e)⟩
end
end
section
open Go.RowKit
def pL(x:Int×Int):List Int:=[x.1,x.2]
def pV(x:Int×Int):ak:=.agg (ints (pL x))
@[go_sem] theorem adF(a b:Int):pV (a,b)=.agg #[.int .i64 a,.int .i64 b]:=rfl
abbrev bB(pb:Nat)(a:List (Int×(Int×Int))):bU:=sF (aS .i64) pV mK pb a
def MD(w:ai):(zeroValue 132).run aj w=.ok (pV (0,0)) w:=by kernel_rfl
def vt(p sp tb pb:Nat)(a:List (Int×Bool))(T:WT):List bU:=[a8 p 108 #[.pointer (ae ⟨sp,0,ah⟩),.map (ae tb),.map (ae pb)],b8 sp a,PtrMap tb (T.ks.map λK=>(K,T.pt K)),bB pb T.ps]++T.ks.map λK=>mE (T.pt K) K (T.rw K)
def dI(p:Nat)(c:List (Int×Bool))(f:BF):bU where
 at_ w F:=∃sp tb pb T,mg T f/\Sep (vt p sp tb pb c T) w F
 frame h ho hd:=by obtain⟨sp,tb,pb,T,a,b⟩:=h;exact⟨sp,tb,pb,T,a,b.frame ho hd⟩
 cut h hd:=by obtain⟨sp,tb,pb,T,a,b⟩:=h;exact⟨sp,tb,pb,T,a,b.cut hd⟩
section
variable{G:Nat->Prop} {Z w w':ai} {l:List bU} {p Y X W:Nat} {V:List (Int×Bool)} {f:BF} {T:WT}
def In.abi(h:In G Z (dI p V f::l) w):∃Y X W T,mg T f/\In G Z (vt p Y X W V T++l) w:=by obtain⟨⟨j,m,⟨Y,X,W,T,d,i⟩,a,b,c⟩,g⟩:=h;exact⟨Y,X,W,T,d,(Sep.join i a b).cut λk _ e=>c k e,g⟩
def In.abu(i:mg T f)(h:In G Z (vt p Y X W V T++l) w):In G Z (dI p V f::l) w:=by obtain⟨k,j⟩:=h;obtain⟨a,b,c,d,e,g⟩:=Sep.part k;exact⟨⟨a,b,⟨Y,X,W,T,i,c⟩,d,e,g⟩,j⟩
end
def dg(T:WT)(K:Int):bU:=mE (T.pt K) K (T.rw K)
def pX(p sp tb pb:Nat)(a:List (Int×Bool))(T:WT)(l:List bU):(vt p sp tb pb a T++l).Perm (a8 p 108 #[.pointer (ae ⟨sp,0,ah⟩),.map (ae tb),.map (ae pb)]::b8 sp a::PtrMap tb (T.ks.map λK=>(K,T.pt K))::bB pb T.ps::(l++T.ks.map (dg T))):=by unfold vt;rw[cM];exact dD _ List.perm_append_comm
section
variable{G:Nat->Prop} {Z w w':ai} {l:List bU} {p sp tb pb:Nat} {Y:List (Int×Bool)} {f:BF} {T:WT}
def In.kl(h:In G Z (dI p Y f::l) w):∃sp tb pb T,mg T f/\In G Z (a8 p 108 #[.pointer (ae ⟨sp,0,ah⟩),.map (ae tb),.map (ae pb)]::b8 sp Y::PtrMap tb (T.ks.map λK=>(K,T.pt K))::bB pb T.ps::(l++T.ks.map (dg T))) w:=by obtain⟨sp,tb,pb,T,a,b⟩:=h.abi;exact⟨sp,tb,pb,T,a,b.perm (pX p sp tb pb Y T l)⟩
def In.fU(a:mg T f)(h:In G Z (a8 p 108 #[.pointer (ae ⟨sp,0,ah⟩),.map (ae tb),.map (ae pb)]::b8 sp Y::PtrMap tb (T.ks.map λK=>(K,T.pt K))::bB pb T.ps::(l++T.ks.map (dg T))) w):In G Z (dI p Y f::l) w:=In.abu a (h.perm (pX p sp tb pb Y T l).symm)
def IY{c:Type}:∀(L:List c)(n:Nat)(b:n<L.length),(L[n]::L.eraseIdx n).Perm L|[],_,b=>by simp at b|a::L,0,_=>oI _|a::L,n+1,b=>(cy _ _ _).trans ((IY L n (by simpa using b)).cons a)
def In.nth{L:List bU}(h:In G Z L w)(n:Nat)(a:n<L.length):In G Z (L[n]::L.eraseIdx n) w:=h.perm (IY L n a).symm
def In.to4{A B C P:bU}(h:In G Z (P::A::B::C::l) w):In G Z (A::B::C::P::l) w:=h.perm ((cy A P _).trans (((cy B P _).trans ((cy C P _).cons B)).cons A))
def In.to3{A B P:bU}(h:In G Z (P::A::B::l) w):In G Z (A::B::P::l) w:=h.perm ((cy A P _).trans ((cy B P _).cons A))
def In.to5{A B C D P:bU}(h:In G Z (P::A::B::C::D::l) w):In G Z (A::B::C::D::P::l) w:=h.perm ((cy A P _).trans (((cy B P _).trans (((cy C P _).trans ((cy D P _).cons C)).cons B)).cons A))
def In.reorder{M:List bU}(h:In G Z M w)(n:Nat)(c:List Nat)(b:c.isPerm (a6 n)=ar)(d:n<=M.length):In G Z (c.map (λi=>M.getD i (a8 0 0 #[]))++M.drop n) w:=by
 refine h.perm ?_;have e:M=(a6 n).map (λi=>M.getD i (a8 0 0 #[]))++M.drop n:=by
  conv=>lhs;rw[<-mN n M]
  congr 1;apply iw;intro i;rw[dS,dx];by_cases a:i<n;rw[if_pos a,List.getElem?_range a,aq (by omega)];simp[bq,aq (show i<M.length by omega)];rw[if_neg a,gi (by simp;omega)];rfl
 conv=>lhs;rw[e]
 exact List.Perm.append_right _ ((List.isPerm_iff.1 b).symm.map _)
def In.wB{X:List bU}(h:In G Z (X++T.ks.map (dg T)) w){K:Int}(a:K∈T.ks):In G Z (mE (T.pt K) K (T.rw K)::(X++(T.ks.erase K).map (dg T))) w:=h.perm ((dD X ((List.perm_cons_erase a).map (dg T))).trans List.perm_middle)
def In.MP{X:List bU}{K:Int}{rows:List ck}{a:List Int}{b:List (Int×(Int×Int))}(g:T.ks.Nodup)(e:K∈T.ks)(h:In G Z (mE (T.pt K) K rows::(X++(T.ks.erase K).map (dg T))) w):In G Z (X++T.ks.map (dg ⟨a,T.pt,fV T.rw K rows,b⟩)) w:=by
 refine h.perm (List.Perm.symm ?_);refine(dD X ((List.perm_cons_erase e).map _)).trans ?_;rw[fq];have c:dg ⟨a,T.pt,fV T.rw K rows,b⟩ K=mE (T.pt K) K rows:=by unfold dg;simp only[hV]
 have d:(T.ks.erase K).map (dg ⟨a,T.pt,fV T.rw K rows,b⟩)=(T.ks.erase K).map (dg T):=by
  apply dJ;intro j f;have:j≠K:=by rintro rfl;exact(List.Nodup.not_mem_erase g) f
  unfold dg;simp only[gF _ _ this]
 rw[c,d];exact List.perm_middle
def In.abh{X:List bU}{K:Int}{q:Nat}{rows:List ck}{a:List (Int×(Int×Int))}(d:K∉T.ks)(h:In G Z (mE q K rows::(X++T.ks.map (dg T))) w):In G Z (X++(T.ks++[K]).map (dg ⟨T.ks++[K],fV T.pt K q,fV T.rw K rows,a⟩)) w:=by
 refine h.perm ?_;rw[dZ];have b:[K].map (dg ⟨T.ks++[K],fV T.pt K q,fV T.rw K rows,a⟩)=[mE q K rows]:=by unfold dg;simp only[fq,List.map_nil,hV]
 have c:T.ks.map (dg ⟨T.ks++[K],fV T.pt K q,fV T.rw K rows,a⟩)=T.ks.map (dg T):=by
  apply dJ;intro j f;have:j≠K:=λe=>d (by rw[<-e];exact f)
  unfold dg;simp only[gF _ _ this]
 rw[b,c,<-cM];exact(List.perm_append_singleton _ _).symm
def In.Yx{X:List bU}{K:Int}{q:Nat}{rows a:List ck}{c:List Int}{d:List (Int×(Int×Int))}(b:T.ks.Nodup)(h:In G Z (mE q K rows::(X++(T.ks.erase K).map (dg T))) w):In G Z (X++(T.ks.filter λk=> !decide (k=K)).map (dg ⟨c,T.pt,fV T.rw K a,d⟩)) w:=by
 have g:=h.drop;have e:(T.ks.filter λk=> !decide (k=K))=T.ks.erase K:=by rw[b.erase_eq_filter];apply List.filter_congr;intro x _;by_cases l:x=K<;>simp[l]
 have f:(T.ks.erase K).map (dg ⟨c,T.pt,fV T.rw K a,d⟩)=(T.ks.erase K).map (dg T):=by
  apply dJ;intro j i;have:j≠K:=by rintro rfl;exact(List.Nodup.not_mem_erase b) i
  unfold dg;simp only[gF _ _ this]
 rw[e,f];exact g
end
def mg.pq{T:WT}{f:BF}(h:mg T f){K:Int}(d:K∈T.ks):(T.rw K).length<=60:=by
 have k:((T.rw K).map λr=>r.h.1).Nodup:=by
  refine IX λi j x p c o=> ?_
  rw[dx]at c o;obtain⟨r,l,rfl⟩:=aF.1 c;obtain⟨s,m,e⟩:=aF.1 o;obtain⟨_,a⟩:=h.at_ K d i r l;obtain⟨_,n⟩:=h.at_ K d j s m;rw[<-e,n]at a;injection a with a;injection a with _ a;omega
 have b:∀x∈(T.rw K).map (λr=>r.h.1),x∈(a6 60).map (λi:Nat=>(i:Int)):=by intro x q;obtain⟨r,l,rfl⟩:=aI.1 q;obtain⟨i,c,g⟩:=dn.1 l;obtain⟨a,_⟩:=h.at_ K d i r (by rw[aq c,g]);obtain⟨_,_,n,t⟩:=h.ok _ _ _ a;exact aI.2 ⟨r.h.1.toNat,gm.2 (by omega),by omega⟩
 have:=tq k b;simpa using this
section
variable{G:Nat->Prop} {Z w:ai} {l:List bU} {p:Nat} {Y:List (Int×Bool)} {f:BF}
def In.slotsOf(h:In G Z (dI p Y f::l) w):∃sp F,(∀n:After w,n.w.cell? ⟨p,0,ah⟩=ae (.pointer (ae ⟨sp,0,ah⟩)))/\(∀n:After w,ea n.w sp Y F):=by obtain⟨sp,tb,pb,T,d,a⟩:=h.kl;obtain⟨b,c⟩:=a.swap.head;exact⟨sp,b,λn=>(a.blk.after n.below).cell 0,λn=>iL.after c n.below⟩
end
def kK{b:aN}(h:bT b=0):0<=b.k/\b.k<=255:=(mh b h).1
def BK(w:ai):(zeroValue 134).run aj w=.ok (.pointer ah) w:=by kernel_rfl
def Wh(T:WT):bM (T.ks.map λK=>(K,T.pt K))=T.ks:=by
 unfold bM;rw[List.map_map]
 conv=>rhs;rw[<-List.map_id T.ks]
 exact dJ λ_ _=>rfl
def LI(T:WT)(K:Int):eI (T.ks.map λK=>(K,T.pt K)) K=if K∈T.ks then ae (T.pt K)else ah:=by
 split;rename_i h;unfold eI;have:∀(l:List Int),K∈l->(l.map λK=>(K,T.pt K)).find? (λp=>decide (p.1=K))=ae (K,T.pt K):=by
  intro l
  induction l with|nil=>simp|cons a l b=>intro hm;rw[fq,List.find?_cons];by_cases e:a=K;simp[e];rw[decide_eq_false e];exact b (by rcases b6.1 hm with h|h;exact absurd h.symm e;exact h)
 rw[this _ h];rfl;rename_i h;rw[ra,Wh];exact h
def Ts(T:WT)(K:Int)(p:Nat)(h:K∉T.ks):iI (T.ks.map λK=>(K,T.pt K)) K p=(T.ks++[K]).map λk=>(k,fV T.pt K p k):=by unfold iI;rw[if_neg];rw[dZ];congr 1;apply dJ;intro k a;rw[gF _ _ (λe=>h (by rw[<-e];exact a))];simp[hV];intro b;obtain⟨q,c,e⟩:=j4.1 b;obtain⟨k,a,rfl⟩:=aI.1 c;exact h (by simpa using(by simpa using e:k=K)▸a)
def Lg{G:Nat->Prop}{w0 w:ai}{l:List bU}{p:Nat}{v:List (Int×Bool)}{f:BF}(h:In G w0 (dI p v f::l) w)(s g:Int)(b:aN)(hf:f s=ah)(j:bT b=0/\b.v.length=8/\0<=s/\s<60):Calls aj 128 #[.pointer (ae ⟨p,0,ah⟩),.agg #[.int .i64 s,.int .i64 g],.agg (ints b.list)] w λe w'=>e=.returned (.tuple #[])/\In G w0 (dI p v (dL f s (ae (g,b)))::l) w':=by
 obtain⟨sp,tb,pb,T,hT,hI⟩:=h.kl;have hk:=kK j.1;have HT:=af hT;have HF:=af hf;have H:=af j;have R:=af hI;have HK:=af hk;clear h hT hI hf j hk;have Y:b.list.length=9:=by unfold aN.list;rw[ay,H.out.2.1]
 go_enter func128,ntmps128;go_upto_region 1 with(fail)
 refine b9 (In G w0 (a8 (w.heap.size+1) 48 (ints b.list)::a8 w.heap.size 43 (ints [s,g])::a8 p 108 #[.pointer (ae ⟨sp,0,ah⟩),.map (ae tb),.map (ae pb)]::b8 sp v::PtrMap tb (T.ks.map λK=>(K,T.pt K))::bB pb T.ps::(l++T.ks.map (dg T)))) (by have:=(R.out.alloc 43 (ints [s,g])).alloc 48 (ints b.list);rw[cR]at this;exact this) ?_
 generalize w.heap.size+1=m;generalize w.heap.size=j;intro w1 B;have c1:∀n:After w1,n.w.cell? ⟨p,1,ah⟩=ae (.map (ae tb)):=λn=>(B.third.blk.after n.below).cell 1
 have c2:∀n:After w1,n.w.cell? ⟨m,0,ah⟩=ae (.int .i64 b.k):=λn=>(B.blk.after n.below).cell 0
 have N:=(B.nth 4 (by simp)).gZ;have c:∀n:After w1,(kE 105 (.map (ae tb)) (.int .i64 b.k) ar).run aj n.w=.ok (if b.k∈T.ks then .tuple #[.pointer (ae ⟨T.pt b.k,0,ah⟩),.bool ar]else .tuple #[.pointer ah,.bool au]) n.w:=λn=>by rw[(N.after n.below).look qo underlying105 (BK n.w) (x:=b.k) (iu (by have:=HK.out;omega)) ar,LI];by_cases e:b.k∈T.ks;rw[if_pos e,if_pos e];rfl;rw[if_neg e,if_neg e];rfl
 have I:=af B;clear B R N;by_cases P:b.k∈T.ks
 ·rw[if_pos P]at c;have d:=af P;clear P;refine bV (by kernel_rfl) (by kernel_rfl) ?_;repeat(go_big_quiet_step (fail))
  refine wpQuiet_nil ?_;rintro _ ⟨n,rfl⟩;have i:=I.out.below n.below;generalize n.w=w2 at *;have Z:row? w2 m 0 9=ae (ints b.list):=i.blk.bw Y;have k2:row? w2 j 0 2=ae (ints [s,g]):=i.swap.blk.bw rfl;have z:=af i;clear i c1 c2 c I;have o:In G w0 (mE (T.pt b.k) b.k (T.rw b.k)::(a8 m 48 (ints b.list)::a8 j 43 (ints [s,g])::a8 p 108 #[.pointer (ae ⟨sp,0,ah⟩),.map (ae tb),.map (ae pb)]::b8 sp v::PtrMap tb (T.ks.map λK=>(K,T.pt K))::bB pb T.ps::l++(T.ks.erase b.k).map (dg T))) w2:=In.wB (X:=a8 m 48 (ints b.list)::a8 j 43 (ints [s,g])::a8 p 108 #[.pointer (ae ⟨sp,0,ah⟩),.map (ae tb),.map (ae pb)]::b8 sp v::PtrMap tb (T.ks.map λK=>(K,T.pt K))::bB pb T.ps::l) z.out d.out
  have y:Hid (qE b.k (T.rw b.k) ⟨(s,g),b⟩=(T.rw b.k++[⟨(s,g),b⟩],(((T.rw b.k).length:Nat):Int),0)):=by unfold Hid qE;rw[if_neg (by simpa using H.out.1),if_neg (by simp)]
  have Y3:=HT.out.pq d.out;have a:=af (zr o s g b H.out.2.1 (by omega));rw[y.out]at a;clear o;go_wp2_with fail;refine a.out.mono ?_;rintro e F ⟨rfl,r⟩;have r:In G w0 (a8 m 48 (ints b.list)::a8 j 43 (ints [s,g])::a8 p 108 #[.pointer (ae ⟨sp,0,ah⟩),.map (ae tb),.map (ae pb)]::b8 sp v::PtrMap tb (T.ks.map λK=>(K,T.pt K))::bB pb T.ps::(l++T.ks.map (dg ⟨T.ks,T.pt,fV T.rw b.k (T.rw b.k++[⟨(s,g),b⟩]),iI T.ps s (b.k,((T.rw b.k).length:Int))⟩))) F:=In.MP (X:=a8 m 48 (ints b.list)::a8 j 43 (ints [s,g])::a8 p 108 #[.pointer (ae ⟨sp,0,ah⟩),.map (ae tb),.map (ae pb)]::b8 sp v::PtrMap tb (T.ks.map λK=>(K,T.pt K))::bB pb T.ps::l) HT.out.nd d.out r
  have A:=af (HT.out.Ng (g:=g) HF.out H.out d.out);have q1:F.cell? ⟨p,2,ah⟩=ae (.map (ae pb)):=r.third.blk.cell 2;have q2:F.cell? ⟨j,0,ah⟩=ae (.int .i64 s):=r.swap.blk.cell 0;have q3:F.cell? ⟨m,0,ah⟩=ae (.int .i64 b.k):=r.blk.cell 0;have t:=af r;clear r z a y Z k2;go_upto_region 6 with(fail)
  go_still_tail 10,(by kernel_rfl)
  change wpList _ _ _ _ _ F.drew;have u:=af t.out.drew;clear t q1 q2 q3;generalize F.drew=w4 at *;have J:=af (u.out.nth 5 (by simp)).gZ;go_wp2_with (at_mapUpdate;go_loud (refine iB qo rfl _ _ _ 106 132 rfl underlying106 pb _ rfl J.out s rfl (iu (by have:=H.out.2.2;omega)) (b.k,((T.rw b.k).length:Int)) rfl ?_));intro w5 L M V;have D:In G w0 (bB pb (iI T.ps s (b.k,((T.rw b.k).length:Int)))::a8 m 48 (ints b.list)::a8 j 43 (ints [s,g])::a8 p 108 #[.pointer (ae ⟨sp,0,ah⟩),.map (ae tb),.map (ae pb)]::b8 sp v::PtrMap tb (T.ks.map λK=>(K,T.pt K))::(l++T.ks.map (dg ⟨T.ks,T.pt,fV T.rw b.k (T.rw b.k++[⟨(s,g),b⟩]),iI T.ps s (b.k,((T.rw b.k).length:Int))⟩))) w5:=In.nV (u.out.nth 5 (by simp)) L M;clear L M V;have Q8:=af D.swap.drop.swap.drop.to4;clear D J u;go_wp2_with fail
  go_end0
  exact⟨rfl,In.fU A.out Q8.out⟩
 ·rw[if_neg P]at c;have d:=af P;clear P;refine bV (by kernel_rfl) (by kernel_rfl) ?_;repeat(go_big_quiet_step (fail))
  refine wpQuiet_nil ?_;rintro _ ⟨n,rfl⟩;have i:=I.out.below n.below;generalize n.w=w2 at *;have Z:w2.cell? ⟨m,0,ah⟩=ae (.int .i64 b.k):=i.blk.cell 0;have z:=af i;clear i c1 c2 c I;go_wp2_with fail;refine(NV b.k HK.out z.out).mono ?_;rintro e F ⟨q,rfl,o⟩;have q1:F.cell? ⟨p,1,ah⟩=ae (.map (ae tb)):=o.fourth.blk.cell 1;have q2:F.cell? ⟨m,0,ah⟩=ae (.int .i64 b.k):=o.swap.blk.cell 0;have S:=af o;clear o z Z;go_upto_region 4 with(fail)
  go_still_tail 7,(by kernel_rfl)
  change wpList _ _ _ _ _ F.drew;have t:=af S.out.drew;clear S q1 q2;generalize F.drew=w4 at *;have J:=af (t.out.nth 5 (by simp)).gZ;go_wp2_with (at_mapUpdate;go_loud (refine iB qo rfl _ _ _ 105 134 rfl underlying105 tb _ rfl J.out b.k rfl (iu (by have:=HK.out;omega)) q rfl ?_));intro w5 L M V;have C:In G w0 (PtrMap tb (iI (T.ks.map λK=>(K,T.pt K)) b.k q)::mE q b.k []::a8 m 48 (ints b.list)::a8 j 43 (ints [s,g])::a8 p 108 #[.pointer (ae ⟨sp,0,ah⟩),.map (ae tb),.map (ae pb)]::b8 sp v::bB pb T.ps::(l++T.ks.map (dg T))) w5:=In.nV (t.out.nth 5 (by simp)) L M;rw[Ts T b.k q d.out]at C;have Z:row? w5 m 0 9=ae (ints b.list):=C.third.blk.bw Y;have k2:row? w5 j 0 2=ae (ints [s,g]):=C.fourth.blk.bw rfl;have u:=af C.swap;clear C L M V J t;have y:Hid (qE b.k [] ⟨(s,g),b⟩=([⟨(s,g),b⟩],0,0)):=by unfold Hid qE;rw[if_neg (by simpa using H.out.1),if_neg (by simp)];rfl
  have a:=af (zr u.out s g b H.out.2.1 (by simp));rw[y.out]at a;go_wp2_with fail;refine a.out.mono ?_;rintro e Q ⟨rfl,D⟩;have E:In G w0 (PtrMap tb ((T.ks++[b.k]).map λk=>(k,fV T.pt b.k q k))::a8 m 48 (ints b.list)::a8 j 43 (ints [s,g])::a8 p 108 #[.pointer (ae ⟨sp,0,ah⟩),.map (ae tb),.map (ae pb)]::b8 sp v::bB pb T.ps::(l++(T.ks++[b.k]).map (dg ⟨T.ks++[b.k],fV T.pt b.k q,fV T.rw b.k [⟨(s,g),b⟩],iI T.ps s (b.k,0)⟩))) Q:=In.abh (X:=PtrMap tb ((T.ks++[b.k]).map λk=>(k,fV T.pt b.k q k))::a8 m 48 (ints b.list)::a8 j 43 (ints [s,g])::a8 p 108 #[.pointer (ae ⟨sp,0,ah⟩),.map (ae tb),.map (ae pb)]::b8 sp v::bB pb T.ps::l) d.out D
  have A:=af (HT.out.Nf (g:=g) HF.out H.out d.out q);have q1:Q.cell? ⟨p,2,ah⟩=ae (.map (ae pb)):=E.fourth.blk.cell 2;have q2:Q.cell? ⟨j,0,ah⟩=ae (.int .i64 s):=E.third.blk.cell 0;have q3:Q.cell? ⟨m,0,ah⟩=ae (.int .i64 b.k):=E.swap.blk.cell 0;have U:=af E;clear E D u a y Z k2;go_upto_region 6 with(fail)
  go_still_tail 10,(by kernel_rfl)
  change wpList _ _ _ _ _ Q.drew;have O:=af U.out.drew;clear U q1 q2 q3;generalize Q.drew=w7 at *;have J:=af (O.out.nth 5 (by simp)).gZ;go_wp2_with (at_mapUpdate;go_loud (refine iB qo rfl _ _ _ 106 132 rfl underlying106 pb _ rfl J.out s rfl (iu (by have:=H.out.2.2;omega)) (b.k,0) rfl ?_));intro w8 L M V;have W:In G w0 (bB pb (iI T.ps s (b.k,0))::PtrMap tb ((T.ks++[b.k]).map λk=>(k,fV T.pt b.k q k))::a8 m 48 (ints b.list)::a8 j 43 (ints [s,g])::a8 p 108 #[.pointer (ae ⟨sp,0,ah⟩),.map (ae tb),.map (ae pb)]::b8 sp v::(l++(T.ks++[b.k]).map (dg ⟨T.ks++[b.k],fV T.pt b.k q,fV T.rw b.k [⟨(s,g),b⟩],iI T.ps s (b.k,0)⟩))) w8:=In.nV (O.out.nth 5 (by simp)) L M;clear L M V;have y4:Hid (In G w0 (a8 p 108 #[.pointer (ae ⟨sp,0,ah⟩),.map (ae tb),.map (ae pb)]::b8 sp v::PtrMap tb ((T.ks++[b.k]).map λk=>(k,fV T.pt b.k q k))::bB pb (iI T.ps s (b.k,0))::(l++(T.ks++[b.k]).map (dg ⟨T.ks++[b.k],fV T.pt b.k q,fV T.rw b.k [⟨(s,g),b⟩],iI T.ps s (b.k,0)⟩))) w8):=W.swap.third.drop.third.drop.swap.to4.to3
  clear W J O;go_wp2_with fail
  go_end0
  exact⟨rfl,In.fU A.out y4.out⟩
def jY(p sp:Nat)(c:List (Int×Bool))(f:BF):bU where
 at_ w F:=∃tb pb T,mg T f/\Sep (vt p sp tb pb c T) w F
 frame h ho hd:=by obtain⟨tb,pb,T,a,b⟩:=h;exact⟨tb,pb,T,a,b.frame ho hd⟩
 cut h hd:=by obtain⟨tb,pb,T,a,b⟩:=h;exact⟨tb,pb,T,a,b.cut hd⟩
section
variable{G:Nat->Prop} {Z w w':ai} {l:List bU} {p Y X W:Nat} {V:List (Int×Bool)} {f:BF} {T:WT}
def In.lX(h:In G Z (jY p Y V f::l) w):∃X W T,mg T f/\In G Z (a8 p 108 #[.pointer (ae ⟨Y,0,ah⟩),.map (ae X),.map (ae W)]::b8 Y V::PtrMap X (T.ks.map λK=>(K,T.pt K))::bB W T.ps::(l++T.ks.map (dg T))) w:=by obtain⟨⟨m,n,⟨X,W,T,e,j⟩,a,b,c⟩,i⟩:=h;have d:In G Z (vt p Y X W V T++l) w:=⟨(Sep.join j a b).cut λk _ g=>c k g,i⟩;exact⟨X,W,T,e,d.perm (pX p Y X W V T l)⟩
def In.pw(i:mg T f)(h:In G Z (a8 p 108 #[.pointer (ae ⟨Y,0,ah⟩),.map (ae X),.map (ae W)]::b8 Y V::PtrMap X (T.ks.map λK=>(K,T.pt K))::bB W T.ps::(l++T.ks.map (dg T))) w):In G Z (jY p Y V f::l) w:=by have h:=h.perm (pX p Y X W V T l).symm;obtain⟨k,j⟩:=h;obtain⟨a,b,c,d,e,g⟩:=Sep.part k;exact⟨⟨a,b,⟨X,W,T,i,c⟩,d,e,g⟩,j⟩
def In.GD(h:In G Z (jY p Y V f::l) w):In G Z (dI p V f::l) w:=by obtain⟨X,W,T,b,a⟩:=h.lX;exact In.fU b a
def In.Uo(h:In G Z (dI p V f::l) w):∃Y,In G Z (jY p Y V f::l) w:=by obtain⟨Y,X,W,T,b,a⟩:=h.kl;exact⟨Y,In.pw b a⟩
end
def VV{G:Nat->Prop}{w0 w:ai}{l:List bU}{p sp:Nat}{v:List (Int×Bool)}{f:BF}(h:In G w0 (jY p sp v f::l) w)(s g:Int)(b:aN)(hf:f s=ah)(j:bT b=0/\b.v.length=8/\0<=s/\s<60):Calls aj 128 #[.pointer (ae ⟨p,0,ah⟩),.agg #[.int .i64 s,.int .i64 g],.agg (ints b.list)] w λe w'=>e=.returned (.tuple #[])/\In G w0 (jY p sp v (dL f s (ae (g,b)))::l) w':=by
 obtain⟨tb,pb,T,hT,hI⟩:=h.lX;have hk:=kK j.1;have HT:=af hT;have HF:=af hf;have H:=af j;have R:=af hI;have HK:=af hk;clear h hT hI hf j hk;have Y:b.list.length=9:=by unfold aN.list;rw[ay,H.out.2.1]
 go_enter func128,ntmps128;go_upto_region 1 with(fail)
 refine b9 (In G w0 (a8 (w.heap.size+1) 48 (ints b.list)::a8 w.heap.size 43 (ints [s,g])::a8 p 108 #[.pointer (ae ⟨sp,0,ah⟩),.map (ae tb),.map (ae pb)]::b8 sp v::PtrMap tb (T.ks.map λK=>(K,T.pt K))::bB pb T.ps::(l++T.ks.map (dg T)))) (by have:=(R.out.alloc 43 (ints [s,g])).alloc 48 (ints b.list);rw[cR]at this;exact this) ?_
 generalize w.heap.size+1=m;generalize w.heap.size=j;intro w1 B;have c1:∀n:After w1,n.w.cell? ⟨p,1,ah⟩=ae (.map (ae tb)):=λn=>(B.third.blk.after n.below).cell 1
 have c2:∀n:After w1,n.w.cell? ⟨m,0,ah⟩=ae (.int .i64 b.k):=λn=>(B.blk.after n.below).cell 0
 have N:=(B.nth 4 (by simp)).gZ;have c:∀n:After w1,(kE 105 (.map (ae tb)) (.int .i64 b.k) ar).run aj n.w=.ok (if b.k∈T.ks then .tuple #[.pointer (ae ⟨T.pt b.k,0,ah⟩),.bool ar]else .tuple #[.pointer ah,.bool au]) n.w:=λn=>by rw[(N.after n.below).look qo underlying105 (BK n.w) (x:=b.k) (iu (by have:=HK.out;omega)) ar,LI];by_cases e:b.k∈T.ks;rw[if_pos e,if_pos e];rfl;rw[if_neg e,if_neg e];rfl
 have I:=af B;clear B R N;by_cases P:b.k∈T.ks
 ·rw[if_pos P]at c;have d:=af P;clear P;refine bV (by kernel_rfl) (by kernel_rfl) ?_;repeat(go_big_quiet_step (fail))
  refine wpQuiet_nil ?_;rintro _ ⟨n,rfl⟩;have i:=I.out.below n.below;generalize n.w=w2 at *;have Z:row? w2 m 0 9=ae (ints b.list):=i.blk.bw Y;have k2:row? w2 j 0 2=ae (ints [s,g]):=i.swap.blk.bw rfl;have z:=af i;clear i c1 c2 c I;have o:In G w0 (mE (T.pt b.k) b.k (T.rw b.k)::(a8 m 48 (ints b.list)::a8 j 43 (ints [s,g])::a8 p 108 #[.pointer (ae ⟨sp,0,ah⟩),.map (ae tb),.map (ae pb)]::b8 sp v::PtrMap tb (T.ks.map λK=>(K,T.pt K))::bB pb T.ps::l++(T.ks.erase b.k).map (dg T))) w2:=In.wB (X:=a8 m 48 (ints b.list)::a8 j 43 (ints [s,g])::a8 p 108 #[.pointer (ae ⟨sp,0,ah⟩),.map (ae tb),.map (ae pb)]::b8 sp v::PtrMap tb (T.ks.map λK=>(K,T.pt K))::bB pb T.ps::l) z.out d.out
  have y:Hid (qE b.k (T.rw b.k) ⟨(s,g),b⟩=(T.rw b.k++[⟨(s,g),b⟩],(((T.rw b.k).length:Nat):Int),0)):=by unfold Hid qE;rw[if_neg (by simpa using H.out.1),if_neg (by simp)]
  have Y3:=HT.out.pq d.out;have a:=af (zr o s g b H.out.2.1 (by omega));rw[y.out]at a;clear o;go_wp2_with fail;refine a.out.mono ?_;rintro e F ⟨rfl,r⟩;have r:In G w0 (a8 m 48 (ints b.list)::a8 j 43 (ints [s,g])::a8 p 108 #[.pointer (ae ⟨sp,0,ah⟩),.map (ae tb),.map (ae pb)]::b8 sp v::PtrMap tb (T.ks.map λK=>(K,T.pt K))::bB pb T.ps::(l++T.ks.map (dg ⟨T.ks,T.pt,fV T.rw b.k (T.rw b.k++[⟨(s,g),b⟩]),iI T.ps s (b.k,((T.rw b.k).length:Int))⟩))) F:=In.MP (X:=a8 m 48 (ints b.list)::a8 j 43 (ints [s,g])::a8 p 108 #[.pointer (ae ⟨sp,0,ah⟩),.map (ae tb),.map (ae pb)]::b8 sp v::PtrMap tb (T.ks.map λK=>(K,T.pt K))::bB pb T.ps::l) HT.out.nd d.out r
  have A:=af (HT.out.Ng (g:=g) HF.out H.out d.out);have q1:F.cell? ⟨p,2,ah⟩=ae (.map (ae pb)):=r.third.blk.cell 2;have q2:F.cell? ⟨j,0,ah⟩=ae (.int .i64 s):=r.swap.blk.cell 0;have q3:F.cell? ⟨m,0,ah⟩=ae (.int .i64 b.k):=r.blk.cell 0;have t:=af r;clear r z a y Z k2;go_upto_region 6 with(fail)
  go_still_tail 10,(by kernel_rfl)
  change wpList _ _ _ _ _ F.drew;have u:=af t.out.drew;clear t q1 q2 q3;generalize F.drew=w4 at *;have J:=af (u.out.nth 5 (by simp)).gZ;go_wp2_with (at_mapUpdate;go_loud (refine iB qo rfl _ _ _ 106 132 rfl underlying106 pb _ rfl J.out s rfl (iu (by have:=H.out.2.2;omega)) (b.k,((T.rw b.k).length:Int)) rfl ?_));intro w5 L M V;have D:In G w0 (bB pb (iI T.ps s (b.k,((T.rw b.k).length:Int)))::a8 m 48 (ints b.list)::a8 j 43 (ints [s,g])::a8 p 108 #[.pointer (ae ⟨sp,0,ah⟩),.map (ae tb),.map (ae pb)]::b8 sp v::PtrMap tb (T.ks.map λK=>(K,T.pt K))::(l++T.ks.map (dg ⟨T.ks,T.pt,fV T.rw b.k (T.rw b.k++[⟨(s,g),b⟩]),iI T.ps s (b.k,((T.rw b.k).length:Int))⟩))) w5:=In.nV (u.out.nth 5 (by simp)) L M;clear L M V;have Q8:=af D.swap.drop.swap.drop.to4;clear D J u;go_wp2_with fail
  go_end0
  exact⟨rfl,In.pw A.out Q8.out⟩
 ·rw[if_neg P]at c;have d:=af P;clear P;refine bV (by kernel_rfl) (by kernel_rfl) ?_;repeat(go_big_quiet_step (fail))
  refine wpQuiet_nil ?_;rintro _ ⟨n,rfl⟩;have i:=I.out.below n.below;generalize n.w=w2 at *;have Z:w2.cell? ⟨m,0,ah⟩=ae (.int .i64 b.k):=i.blk.cell 0;have z:=af i;clear i c1 c2 c I;go_wp2_with fail;refine(NV b.k HK.out z.out).mono ?_;rintro e F ⟨q,rfl,o⟩;have q1:F.cell? ⟨p,1,ah⟩=ae (.map (ae tb)):=o.fourth.blk.cell 1;have q2:F.cell? ⟨m,0,ah⟩=ae (.int .i64 b.k):=o.swap.blk.cell 0;have S:=af o;clear o z Z;go_upto_region 4 with(fail)
  go_still_tail 7,(by kernel_rfl)
  change wpList _ _ _ _ _ F.drew;have t:=af S.out.drew;clear S q1 q2;generalize F.drew=w4 at *;have J:=af (t.out.nth 5 (by simp)).gZ;go_wp2_with (at_mapUpdate;go_loud (refine iB qo rfl _ _ _ 105 134 rfl underlying105 tb _ rfl J.out b.k rfl (iu (by have:=HK.out;omega)) q rfl ?_));intro w5 L M V;have C:In G w0 (PtrMap tb (iI (T.ks.map λK=>(K,T.pt K)) b.k q)::mE q b.k []::a8 m 48 (ints b.list)::a8 j 43 (ints [s,g])::a8 p 108 #[.pointer (ae ⟨sp,0,ah⟩),.map (ae tb),.map (ae pb)]::b8 sp v::bB pb T.ps::(l++T.ks.map (dg T))) w5:=In.nV (t.out.nth 5 (by simp)) L M;rw[Ts T b.k q d.out]at C;have Z:row? w5 m 0 9=ae (ints b.list):=C.third.blk.bw Y;have k2:row? w5 j 0 2=ae (ints [s,g]):=C.fourth.blk.bw rfl;have u:=af C.swap;clear C L M V J t;have y:Hid (qE b.k [] ⟨(s,g),b⟩=([⟨(s,g),b⟩],0,0)):=by unfold Hid qE;rw[if_neg (by simpa using H.out.1),if_neg (by simp)];rfl
  have a:=af (zr u.out s g b H.out.2.1 (by simp));rw[y.out]at a;go_wp2_with fail;refine a.out.mono ?_;rintro e Q ⟨rfl,D⟩;have E:In G w0 (PtrMap tb ((T.ks++[b.k]).map λk=>(k,fV T.pt b.k q k))::a8 m 48 (ints b.list)::a8 j 43 (ints [s,g])::a8 p 108 #[.pointer (ae ⟨sp,0,ah⟩),.map (ae tb),.map (ae pb)]::b8 sp v::bB pb T.ps::(l++(T.ks++[b.k]).map (dg ⟨T.ks++[b.k],fV T.pt b.k q,fV T.rw b.k [⟨(s,g),b⟩],iI T.ps s (b.k,0)⟩))) Q:=In.abh (X:=PtrMap tb ((T.ks++[b.k]).map λk=>(k,fV T.pt b.k q k))::a8 m 48 (ints b.list)::a8 j 43 (ints [s,g])::a8 p 108 #[.pointer (ae ⟨sp,0,ah⟩),.map (ae tb),.map (ae pb)]::b8 sp v::bB pb T.ps::l) d.out D
  have A:=af (HT.out.Nf (g:=g) HF.out H.out d.out q);have q1:Q.cell? ⟨p,2,ah⟩=ae (.map (ae pb)):=E.fourth.blk.cell 2;have q2:Q.cell? ⟨j,0,ah⟩=ae (.int .i64 s):=E.third.blk.cell 0;have q3:Q.cell? ⟨m,0,ah⟩=ae (.int .i64 b.k):=E.swap.blk.cell 0;have U:=af E;clear E D u a y Z k2;go_upto_region 6 with(fail)
  go_still_tail 10,(by kernel_rfl)
  change wpList _ _ _ _ _ Q.drew;have O:=af U.out.drew;clear U q1 q2 q3;generalize Q.drew=w7 at *;have J:=af (O.out.nth 5 (by simp)).gZ;go_wp2_with (at_mapUpdate;go_loud (refine iB qo rfl _ _ _ 106 132 rfl underlying106 pb _ rfl J.out s rfl (iu (by have:=H.out.2.2;omega)) (b.k,0) rfl ?_));intro w8 L M V;have W:In G w0 (bB pb (iI T.ps s (b.k,0))::PtrMap tb ((T.ks++[b.k]).map λk=>(k,fV T.pt b.k q k))::a8 m 48 (ints b.list)::a8 j 43 (ints [s,g])::a8 p 108 #[.pointer (ae ⟨sp,0,ah⟩),.map (ae tb),.map (ae pb)]::b8 sp v::(l++(T.ks++[b.k]).map (dg ⟨T.ks++[b.k],fV T.pt b.k q,fV T.rw b.k [⟨(s,g),b⟩],iI T.ps s (b.k,0)⟩))) w8:=In.nV (O.out.nth 5 (by simp)) L M;clear L M V;have y4:Hid (In G w0 (a8 p 108 #[.pointer (ae ⟨sp,0,ah⟩),.map (ae tb),.map (ae pb)]::b8 sp v::PtrMap tb ((T.ks++[b.k]).map λk=>(k,fV T.pt b.k q k))::bB pb (iI T.ps s (b.k,0))::(l++(T.ks++[b.k]).map (dg ⟨T.ks++[b.k],fV T.pt b.k q,fV T.rw b.k [⟨(s,g),b⟩],iI T.ps s (b.k,0)⟩))) w8):=W.swap.third.drop.third.drop.swap.to4.to3
  clear W J O;go_wp2_with fail
  go_end0
  exact⟨rfl,In.pw A.out y4.out⟩
def qK{w:ai}{b o n:Nat}{x:Int}{xs:List Int}(h:row? w b o n=ae (ints (x::xs))):w.cell? ⟨b,o,ah⟩=ae (.int .i64 x):=by
 unfold row? at h;split at h;rename_i c t d e;split at h;rename_i f;injection h with h;have a:(c.extract o (o+n))[0]? =ae (.int .i64 x):=by rw[h];rfl
 rw[cell_of_row w b o c t d e];rw[Array.getElem?_extract]at a;split at a;simpa using a;cases a;cases h;cases h
def wq{w w':ai}{tb:Nat}{T:WT}(h:ew (aS .i64) tw mK w tb (T.ks.map λK=>(K,T.pt K))){K:Int}(a:K∈T.ks)(c:0<=K/\K<=255)(b:Below w.heap.size w w'):(kE 105 (.map (ae tb)) (.int .i64 K) au).run aj w'=.ok (.pointer (ae ⟨T.pt K,0,ah⟩)) w':=by rw[(h.after b).look qo underlying105 (BK w') (x:=K) (iu (by omega)) au,LI,if_pos a];rfl
def o8{w w':ai}{pb:Nat}{a:List (Int×(Int×Int))}(h:ew (aS .i64) pV mK w pb a){s K i:Int}(c:0<=s/\s<60)(hm:eI a s=ae (K,i))(b:Below w.heap.size w w'):(kE 106 (.map (ae pb)) (.int .i64 s) au).run aj w'=.ok (.agg #[.int .i64 K,.int .i64 i]) w':=by rw[(h.after b).look qo underlying106 (MD w') (x:=s) (iu (by omega)) au,hm];rfl
def wU{G:Nat->Prop}{w0 w:ai}{l:List bU}{p:Nat}{K:Int}{rows:List ck}(h:In G w0 (mE p K rows::l) w):(0<=K/\K<=255)/\∀r∈rows,r.b.k=K:=by obtain⟨b,a,_⟩:=h.FN;exact⟨a,λr c=>(b r c).1⟩
def Fw{G:Nat->Prop}{w0 w:ai}{l:List bU}{p:Nat}{j:List (Int×Bool)}{f:BF}(h:In G w0 (dI p j f::l) w)(s g:Int)(b:aN)(hf:f s=ae (g,b)):Calls aj 135 #[.pointer (ae ⟨p,0,ah⟩),.agg #[.int .i64 s,.int .i64 g]] w λe w'=>e=.returned (.agg (ints b.list))/\In G w0 (dI p j (dL f s ah)::l) w':=by
 obtain⟨sp,tb,pb,T,hT,hI⟩:=h.kl;obtain⟨UE,uE,QM⟩:=hT.ok s g b hf;obtain⟨K,hK,i,hi⟩:=hT.all s g b hf;have QO:eI T.ps s=ae (K,(i:Int)):=(hT.at_ K hK i _ hi).2;have hil:=(bz.1 hi).1;have XA:=(wU (In.wB (X:=a8 p 108 #[.pointer (ae ⟨sp,0,ah⟩),.map (ae tb),.map (ae pb)]::b8 sp j::PtrMap tb (T.ks.map λK=>(K,T.pt K))::bB pb T.ps::l) hI hK)).1;have HT:=af hT;have Yc:=af (hT.SP hK hi);have HK:=af hK;have HKK:=af XA;have HPL:=af QO;have GX:=af hI;have HS:=af QM;have Y3:=hT.pq hK;have QN:b.list.length=9:=by unfold aN.list;rw[ay,uE]
 have HRM:Hid (lJ (T.rw K) (i:Int)=(cutAt aL (T.rw K) i,⟨(s,g),b⟩,0)):=by unfold Hid lJ lu;have C:decide (0<=(i:Int))=ar:=decide_eq_true (by omega);have E:decide ((i:Int)<((T.rw K).length:Nat))=ar:=decide_eq_true (by omega);rw[C,E,dT,bq,hi];rfl
 have HCL:=af (tU aL (T.rw K) i);have HIL:=af hil;clear h hT hI hf UE uE QM hK hi QO hil XA;go_enter func135,ntmps135;go_upto_region 1 with(fail)
 refine b9 (In G w0 (a8 (w.heap.size+1) 48 (ints [0,0,0,0,0,0,0,0,0])::a8 w.heap.size 43 (ints [s,g])::a8 p 108 #[.pointer (ae ⟨sp,0,ah⟩),.map (ae tb),.map (ae pb)]::b8 sp j::PtrMap tb (T.ks.map λK=>(K,T.pt K))::bB pb T.ps::(l++T.ks.map (dg T)))) (by have:=(GX.out.alloc 43 (ints [s,g])).alloc 48 (ints [0,0,0,0,0,0,0,0,0]);rw[cR]at this;exact this) ?_
 generalize w.heap.size+1=q;generalize w.heap.size=m;intro F x;have hba:=(Below.refl F.heap.size F).alloc (av _) (.cells #[.int .i64 0,.int .i64 0] 132);have t:=(x.nth 5 (by simp)).gZ;have k0:F.cell? ⟨p,2,ah⟩=ae (.map (ae pb)):=x.third.blk.cell 2;have k1:F.cell? ⟨m,0,ah⟩=ae (.int .i64 s):=x.swap.blk.cell 0;have k2:(F.alloc (.cells #[.int .i64 0,.int .i64 0] 132)).cell? ⟨p,2,ah⟩=ae (.map (ae pb)):=(x.third.blk.after hba).cell 2;have k3:(F.alloc (.cells #[.int .i64 0,.int .i64 0] 132)).cell? ⟨m,0,ah⟩=ae (.int .i64 s):=(x.swap.blk.after hba).cell 0;have UH:=o8 t HS.out HPL.out (Below.refl _ _).drew;have hl2:=o8 t HS.out HPL.out (((Below.refl _ F).alloc (av _) (.cells #[.int .i64 0,.int .i64 0] 132)).drew);have J:Hid (∀w2,w2=(putRow (F.alloc (.cells (ints [0,0]) 132)) F.heap.size 0 [K,(i:Int)]).drew->In G w0 (a8 F.heap.size 132 (ints [K,(i:Int)])::a8 q 48 (ints [0,0,0,0,0,0,0,0,0])::a8 m 43 (ints [s,g])::a8 p 108 #[.pointer (ae ⟨sp,0,ah⟩),.map (ae tb),.map (ae pb)]::b8 sp j::PtrMap tb (T.ks.map λK=>(K,T.pt K))::bB pb T.ps::(l++T.ks.map (dg T))) w2):=λw2 e=>by rw[e];exact(x.struct 132 [0,0] [K,(i:Int)] rfl).drew
 clear x t hba GX
 go_region
 all_goals
  go_upto_region 2 with(fail)
  refine b9 (In G w0 (a8 F.heap.size 132 (ints [K,(i:Int)])::a8 q 48 (ints [0,0,0,0,0,0,0,0,0])::a8 m 43 (ints [s,g])::a8 p 108 #[.pointer (ae ⟨sp,0,ah⟩),.map (ae tb),.map (ae pb)]::b8 sp j::PtrMap tb (T.ks.map λK=>(K,T.pt K))::bB pb T.ps::(l++T.ks.map (dg T)))) (J.out _ rfl) ?_;clear k0 k1 k2 k3 UH hl2 J;generalize F.heap.size=o;intro w2 M;have c1:∀n:After w2,n.w.cell? ⟨p,1,ah⟩=ae (.map (ae tb)):=λn=>(M.fourth.blk.after n.below).cell 1
  have c2:∀n:After w2,n.w.cell? ⟨o,0,ah⟩=ae (.int .i64 K):=λn=>(M.blk.after n.below).cell 0
  have t:=(M.nth 5 (by simp)).gZ;have aaZ:∀n:After w2,(kE 105 (.map (ae tb)) (.int .i64 K) au).run aj n.w=.ok (.pointer (ae ⟨T.pt K,0,ah⟩)) n.w:=λn=>wq t HK.out HKK.out n.below
  have QH:=af M;clear M t;refine bV (by kernel_rfl) (by kernel_rfl) ?_;repeat(go_big_quiet_step (fail))
  refine wpQuiet_nil ?_;rintro _ ⟨n,rfl⟩;have M':=QH.out.below n.below;generalize n.w=w3 at *;have q1:w3.cell? ⟨o,1,ah⟩=ae (.int .i64 (i:Int)):=M'.blk.cell 1;have Ko:Hid (In G w0 (mE (T.pt K) K (T.rw K)::(a8 p 108 #[.pointer (ae ⟨sp,0,ah⟩),.map (ae tb),.map (ae pb)]::b8 sp j::PtrMap tb (T.ks.map λK=>(K,T.pt K))::bB pb T.ps::a8 o 132 (ints [K,(i:Int)])::a8 q 48 (ints [0,0,0,0,0,0,0,0,0])::a8 m 43 (ints [s,g])::l++(T.ks.erase K).map (dg T))) w3):=In.wB (X:=a8 p 108 #[.pointer (ae ⟨sp,0,ah⟩),.map (ae tb),.map (ae pb)]::b8 sp j::PtrMap tb (T.ks.map λK=>(K,T.pt K))::bB pb T.ps::a8 o 132 (ints [K,(i:Int)])::a8 q 48 (ints [0,0,0,0,0,0,0,0,0])::a8 m 43 (ints [s,g])::l) (M'.reorder 7 [3,4,5,6,0,1,2] rfl (by simp)) HK.out
  clear M' c1 c2 aaZ QH;have HR:=af (Mk Ko.out (i:Int) (by omega));rw[HRM.out,show ck.list ⟨(s,g),b⟩=s::g::b.list from rfl]at HR;have VJ:(s::g::b.list).length=11:=by simp only[ay];omega
  go_wp2_with fail;refine HR.out.mono ?_;rintro e w4 ⟨rfl,yK⟩;have EV:=af yK;clear yK HR Ko q1;go_upto_region 4 with(fail)
  refine b9 (In G w0 (a8 w4.heap.size 50 (ints (s::g::b.list))::mE (T.pt K) K (cutAt aL (T.rw K) i)::a8 p 108 #[.pointer (ae ⟨sp,0,ah⟩),.map (ae tb),.map (ae pb)]::b8 sp j::PtrMap tb (T.ks.map λK=>(K,T.pt K))::bB pb T.ps::a8 o 132 (ints [K,(i:Int)])::a8 q 48 (ints [0,0,0,0,0,0,0,0,0])::a8 m 43 (ints [s,g])::l++(T.ks.erase K).map (dg T))) (EV.out.struct 50 [0,0,0,0,0,0,0,0,0,0,0] _ VJ) ?_;generalize w4.heap.size=a;intro w5 Sm;have adV:(cutAt aL (T.rw K) i).length<=60:=by have:=HCL.out;omega
  have HH:=af (tI Sm.swap (by omega));have y3:=af Sm.swap;clear Sm EV;go_wp2_with fail;refine HH.out.mono ?_;rintro e R ⟨hv,rfl,ho,KZ,N⟩;obtain⟨A6,c6,rfl,hc1,hc2,hA6⟩:=cu ho;have y:∀(c:i<(cutAt aL (T.rw K) i).length),∃g6,A6=ae ⟨g6,0,ah⟩/\R.cell? ⟨g6,i *2,ah⟩=ae (.int .i64 ((cutAt aL (T.rw K) i)[i]).h.1):=by intro c;obtain⟨g6,rfl⟩:=hA6 (by omega);refine⟨g6,rfl,?_⟩;have hr:=kD ho (k:=i) (by omega);rw[k8 (f:=λr:ck=>hC r.h) (size:=2) (λ_=>rfl) _ i c]at hr;exact qK (xs:=[((cutAt aL (T.rw K) i)[i]).h.2]) hr
  have P:=af N;have q1:R.cell? ⟨o,1,ah⟩=ae (.int .i64 (i:Int)):=(N.nth 6 (by simp)).blk.cell 1;have q2:R.cell? ⟨p,2,ah⟩=ae (.map (ae pb)):=N.third.blk.cell 2;have q3:row? R o 0 2=ae (ints [K,(i:Int)]):=(N.nth 6 (by simp)).blk.bw rfl;have adA:(((cutAt aL (T.rw K) i).length:Nat):Int)<=60:=by omega
  clear ho KZ N HH y3 hc1 hc2 hA6;have B:Hid (gB T.ps (cutAt aL (T.rw K) i) K i=if c:i<(cutAt aL (T.rw K) i).length then iI T.ps ((cutAt aL (T.rw K) i)[i]).h.1 (K,(i:Int))else T.ps):=by unfold Hid gB;by_cases c:i<(cutAt aL (T.rw K) i).length;rw[if_pos c,dif_pos c,bq,aq c];rfl;rw[if_neg c,dif_neg c]
  by_cases c:i<(cutAt aL (T.rw K) i).length
  focus
   obtain⟨g6,rfl,q4⟩:=y c;rw[dif_pos c]at B;have Z:(i:Int)<(cutAt aL (T.rw K) i).length:=by omega
   have HS2:Hid (0<=((cutAt aL (T.rw K) i)[i]).h.1/\((cutAt aL (T.rw K) i)[i]).h.1<60):=by have C:=vN aL (T.rw K) i i HIL.out (by have:=HCL.out;omega);rw[if_pos rfl,aq c]at C;obtain⟨E,_⟩:=HT.out.at_ K HK.out ((T.rw K).length-1) _ C.symm;exact(HT.out.ok _ _ _ E).2.2
   generalize ((cutAt aL (T.rw K) i)[i]).h.1=s2 at *;go_upto_region 6 with(fail)
   go_still_tail 11,(by kernel_rfl)
   change wpList _ _ _ _ _ R.drew;have EX:=af P.out.drew;clear P q1 q2 q3 q4 Z y;generalize R.drew=w7 at *;have V:=af (EX.out.nth 5 (by simp)).gZ;go_wp2_with (at_mapUpdate;go_loud (refine iB qo rfl _ _ _ 106 132 rfl underlying106 pb _ rfl V.out s2 rfl (iu (by have:=HS2.out;omega)) (K,(i:Int)) rfl ?_));intro w8 C E h3;have D:In G w0 (bB pb (iI T.ps s2 (K,(i:Int)))::mE (T.pt K) K (cutAt aL (T.rw K) i)::a8 a 50 (ints (s::g::b.list))::a8 p 108 #[.pointer (ae ⟨sp,0,ah⟩),.map (ae tb),.map (ae pb)]::b8 sp j::PtrMap tb (T.ks.map λK=>(K,T.pt K))::a8 o 132 (ints [K,(i:Int)])::a8 q 48 (ints [0,0,0,0,0,0,0,0,0])::a8 m 43 (ints [s,g])::l++(T.ks.erase K).map (dg T)) w8:=In.nV (EX.out.nth 5 (by simp)) C E;rw[<-B.out]at D;have y4:Hid (In G w0 (mE (T.pt K) K (cutAt aL (T.rw K) i)::a8 p 108 #[.pointer (ae ⟨sp,0,ah⟩),.map (ae tb),.map (ae pb)]::b8 sp j::PtrMap tb (T.ks.map λK=>(K,T.pt K))::bB pb (gB T.ps (cutAt aL (T.rw K) i) K i)::a8 a 50 (ints (s::g::b.list))::a8 o 132 (ints [K,(i:Int)])::a8 q 48 (ints [0,0,0,0,0,0,0,0,0])::a8 m 43 (ints [s,g])::l++(T.ks.erase K).map (dg T)) w8):=D.reorder 6 [1,3,4,5,0,2] rfl (by simp);clear D C E h3 V EX B HS2 c;go_upto_region 7 with(fail)
   generalize w8=w9 at *
  rotate_left
  focus
   rw[dif_neg c]at B;have Z:(((cutAt aL (T.rw K) i).length:Nat):Int)<=i:=by omega
   have D:In G w0 (mE (T.pt K) K (cutAt aL (T.rw K) i)::a8 a 50 (ints (s::g::b.list))::a8 p 108 #[.pointer (ae ⟨sp,0,ah⟩),.map (ae tb),.map (ae pb)]::b8 sp j::PtrMap tb (T.ks.map λK=>(K,T.pt K))::bB pb T.ps::a8 o 132 (ints [K,(i:Int)])::a8 q 48 (ints [0,0,0,0,0,0,0,0,0])::a8 m 43 (ints [s,g])::l++(T.ks.erase K).map (dg T)) R:=P.out;have y4:Hid (In G w0 (mE (T.pt K) K (cutAt aL (T.rw K) i)::a8 p 108 #[.pointer (ae ⟨sp,0,ah⟩),.map (ae tb),.map (ae pb)]::b8 sp j::PtrMap tb (T.ks.map λK=>(K,T.pt K))::bB pb (gB T.ps (cutAt aL (T.rw K) i) K i)::a8 a 50 (ints (s::g::b.list))::a8 o 132 (ints [K,(i:Int)])::a8 q 48 (ints [0,0,0,0,0,0,0,0,0])::a8 m 43 (ints [s,g])::l++(T.ks.erase K).map (dg T)) R):=by rw[B.out];exact D.reorder 6 [0,2,3,4,5,1] rfl (by simp)
   go_upto_region 7 with(fail)
   clear q1 q2 q3 y D B P;generalize R=w9 at *
  all_goals
   have HH:=af (tI y4.out (by omega));go_wp2_with fail;refine HH.out.mono ?_;rintro e v ⟨hv,rfl,ho,acQ,W⟩;obtain⟨A10,c10,rfl,_,_,_⟩:=cu ho;have z:=af W;clear ho acQ W HH y4;have adI:Hid (∀w11,In G w0 (a8 p 108 #[.pointer (ae ⟨sp,0,ah⟩),.map (ae tb),.map (ae pb)]::b8 sp j::PtrMap tb ((if(cutAt aL (T.rw K) i).length=0 then T.ks.filter (λk=> !decide (k=K))else T.ks).map λK=>(K,T.pt K))::bB pb (gB T.ps (cutAt aL (T.rw K) i) K i)::a8 a 50 (ints (s::g::b.list))::a8 o 132 (ints [K,(i:Int)])::a8 q 48 (ints [0,0,0,0,0,0,0,0,0])::a8 m 43 (ints [s,g])::l++(if(cutAt aL (T.rw K) i).length=0 then T.ks.filter (λk=> !decide (k=K))else T.ks).map (dg ⟨(if(cutAt aL (T.rw K) i).length=0 then T.ks.filter (λk=> !decide (k=K))else T.ks),T.pt,fV T.rw K (cutAt aL (T.rw K) i),eo (gB T.ps (cutAt aL (T.rw K) i) K i) s⟩)) w11->In G w0 (a8 p 108 #[.pointer (ae ⟨sp,0,ah⟩),.map (ae tb),.map (ae pb)]::b8 sp j::PtrMap tb ((if(cutAt aL (T.rw K) i).length=0 then T.ks.filter (λk=> !decide (k=K))else T.ks).map λK=>(K,T.pt K))::bB pb (gB T.ps (cutAt aL (T.rw K) i) K i)::a8 a 50 (ints (s::g::b.list))::a8 o 132 (ints [K,(i:Int)])::a8 q 48 (ints [0,0,0,0,0,0,0,0,0])::a8 m 43 (ints [s,g])::(l++(if(cutAt aL (T.rw K) i).length=0 then T.ks.filter (λk=> !decide (k=K))else T.ks).map (dg ⟨(if(cutAt aL (T.rw K) i).length=0 then T.ks.filter (λk=> !decide (k=K))else T.ks),T.pt,fV T.rw K (cutAt aL (T.rw K) i),eo (gB T.ps (cutAt aL (T.rw K) i) K i) s⟩))) w11):=λ_ h=>h
   by_cases h0:(cutAt aL (T.rw K) i).length=0
   focus
    have d:In G w0 (a8 p 108 #[.pointer (ae ⟨sp,0,ah⟩),.map (ae tb),.map (ae pb)]::b8 sp j::PtrMap tb (T.ks.map λK=>(K,T.pt K))::bB pb (gB T.ps (cutAt aL (T.rw K) i) K i)::a8 a 50 (ints (s::g::b.list))::a8 o 132 (ints [K,(i:Int)])::a8 q 48 (ints [0,0,0,0,0,0,0,0,0])::a8 m 43 (ints [s,g])::(l++(T.ks.filter λk=> !decide (k=K)).map (dg ⟨(if(cutAt aL (T.rw K) i).length=0 then T.ks.filter (λk=> !decide (k=K))else T.ks),T.pt,fV T.rw K (cutAt aL (T.rw K) i),eo (gB T.ps (cutAt aL (T.rw K) i) K i) s⟩))) v:=In.Yx (X:=a8 p 108 #[.pointer (ae ⟨sp,0,ah⟩),.map (ae tb),.map (ae pb)]::b8 sp j::PtrMap tb (T.ks.map λK=>(K,T.pt K))::bB pb (gB T.ps (cutAt aL (T.rw K) i) K i)::a8 a 50 (ints (s::g::b.list))::a8 o 132 (ints [K,(i:Int)])::a8 q 48 (ints [0,0,0,0,0,0,0,0,0])::a8 m 43 (ints [s,g])::l) HT.out.nd z.out
    have h00:(((cutAt aL (T.rw K) i).length:Nat):Int)=0:=by omega
    have q1:v.cell? ⟨p,1,ah⟩=ae (.map (ae tb)):=d.blk.cell 1;have q2:v.cell? ⟨o,0,ah⟩=ae (.int .i64 K):=d.fifth.drop.fifth.blk.cell 0;have S:=af d;clear d z;go_upto_region 8 with(fail)
    go_still_tail 6,(by kernel_rfl)
    change wpList _ _ _ _ _ v.drew;have H:=af S.out.drew;clear S q1 q2 h00;generalize v.drew=w11 at *;have V:=af (H.out.third).gZ;go_wp2_with (at_delete;go_loud (refine tN qo rfl _ _ 105 134 rfl underlying105 tb _ rfl V.out K rfl (iu (by have:=HKK.out;omega)) ?_));intro w12 C E h3;have L:In G w0 (PtrMap tb (eo (T.ks.map λK=>(K,T.pt K)) K)::a8 p 108 #[.pointer (ae ⟨sp,0,ah⟩),.map (ae tb),.map (ae pb)]::b8 sp j::bB pb (gB T.ps (cutAt aL (T.rw K) i) K i)::a8 a 50 (ints (s::g::b.list))::a8 o 132 (ints [K,(i:Int)])::a8 q 48 (ints [0,0,0,0,0,0,0,0,0])::a8 m 43 (ints [s,g])::(l++(T.ks.filter λk=> !decide (k=K)).map (dg ⟨(if(cutAt aL (T.rw K) i).length=0 then T.ks.filter (λk=> !decide (k=K))else T.ks),T.pt,fV T.rw K (cutAt aL (T.rw K) i),eo (gB T.ps (cutAt aL (T.rw K) i) K i) s⟩))) w12:=In.nV H.out.third C E;have hmd:eo (T.ks.map λK=>(K,T.pt K)) K=(T.ks.filter λk=> !decide (k=K)).map λK=>(K,T.pt K):=by unfold eo;rw[List.filter_map];rfl
    have u:Hid (In G w0 (a8 p 108 #[.pointer (ae ⟨sp,0,ah⟩),.map (ae tb),.map (ae pb)]::b8 sp j::PtrMap tb ((if(cutAt aL (T.rw K) i).length=0 then T.ks.filter (λk=> !decide (k=K))else T.ks).map λK=>(K,T.pt K))::bB pb (gB T.ps (cutAt aL (T.rw K) i) K i)::a8 a 50 (ints (s::g::b.list))::a8 o 132 (ints [K,(i:Int)])::a8 q 48 (ints [0,0,0,0,0,0,0,0,0])::a8 m 43 (ints [s,g])::(l++(if(cutAt aL (T.rw K) i).length=0 then T.ks.filter (λk=> !decide (k=K))else T.ks).map (dg ⟨(if(cutAt aL (T.rw K) i).length=0 then T.ks.filter (λk=> !decide (k=K))else T.ks),T.pt,fV T.rw K (cutAt aL (T.rw K) i),eo (gB T.ps (cutAt aL (T.rw K) i) K i) s⟩))) w12):=by rw[if_pos h0];rw[if_pos h0,hmd]at L;exact L.to3
    clear L C E h3 V H hmd h0;go_upto_region 9 with(fail)
    generalize w12=O at *
   rotate_left
   focus
    have d:In G w0 (a8 p 108 #[.pointer (ae ⟨sp,0,ah⟩),.map (ae tb),.map (ae pb)]::b8 sp j::PtrMap tb (T.ks.map λK=>(K,T.pt K))::bB pb (gB T.ps (cutAt aL (T.rw K) i) K i)::a8 a 50 (ints (s::g::b.list))::a8 o 132 (ints [K,(i:Int)])::a8 q 48 (ints [0,0,0,0,0,0,0,0,0])::a8 m 43 (ints [s,g])::(l++T.ks.map (dg ⟨(if(cutAt aL (T.rw K) i).length=0 then T.ks.filter (λk=> !decide (k=K))else T.ks),T.pt,fV T.rw K (cutAt aL (T.rw K) i),eo (gB T.ps (cutAt aL (T.rw K) i) K i) s⟩))) v:=In.MP (X:=a8 p 108 #[.pointer (ae ⟨sp,0,ah⟩),.map (ae tb),.map (ae pb)]::b8 sp j::PtrMap tb (T.ks.map λK=>(K,T.pt K))::bB pb (gB T.ps (cutAt aL (T.rw K) i) K i)::a8 a 50 (ints (s::g::b.list))::a8 o 132 (ints [K,(i:Int)])::a8 q 48 (ints [0,0,0,0,0,0,0,0,0])::a8 m 43 (ints [s,g])::l) HT.out.nd HK.out z.out
    have h00:((((cutAt aL (T.rw K) i).length:Nat):Int)==0)=au:=beq_eq_false_iff_ne.2 (by omega);have u:Hid (In G w0 (a8 p 108 #[.pointer (ae ⟨sp,0,ah⟩),.map (ae tb),.map (ae pb)]::b8 sp j::PtrMap tb ((if(cutAt aL (T.rw K) i).length=0 then T.ks.filter (λk=> !decide (k=K))else T.ks).map λK=>(K,T.pt K))::bB pb (gB T.ps (cutAt aL (T.rw K) i) K i)::a8 a 50 (ints (s::g::b.list))::a8 o 132 (ints [K,(i:Int)])::a8 q 48 (ints [0,0,0,0,0,0,0,0,0])::a8 m 43 (ints [s,g])::(l++(if(cutAt aL (T.rw K) i).length=0 then T.ks.filter (λk=> !decide (k=K))else T.ks).map (dg ⟨(if(cutAt aL (T.rw K) i).length=0 then T.ks.filter (λk=> !decide (k=K))else T.ks),T.pt,fV T.rw K (cutAt aL (T.rw K) i),eo (gB T.ps (cutAt aL (T.rw K) i) K i) s⟩))) v):=by rw[if_neg h0];rw[if_neg h0]at d;exact d
    clear d z;go_upto_region 9 with(fail)
    clear h00 h0;generalize v=O at *
   all_goals
    have q1:O.cell? ⟨p,2,ah⟩=ae (.map (ae pb)):=u.out.blk.cell 2;have q2:O.cell? ⟨m,0,ah⟩=ae (.int .i64 s):=(u.out.nth 7 (by simp)).blk.cell 0
    go_still_tail 6,(by kernel_rfl)
    change wpList _ _ _ _ _ O.drew;have I:=af u.out.drew;clear u q1 q2;generalize O.drew=w14 at *;have V:=af (I.out.fourth).gZ;go_wp2_with (at_delete;go_loud (refine tN qo rfl _ _ 106 132 rfl underlying106 pb _ rfl V.out s rfl (iu (by have:=HS.out;omega)) ?_));intro Q C E h3;have Y:In G w0 (bB pb (eo (gB T.ps (cutAt aL (T.rw K) i) K i) s)::a8 p 108 #[.pointer (ae ⟨sp,0,ah⟩),.map (ae tb),.map (ae pb)]::b8 sp j::PtrMap tb ((if(cutAt aL (T.rw K) i).length=0 then T.ks.filter (λk=> !decide (k=K))else T.ks).map λK=>(K,T.pt K))::a8 a 50 (ints (s::g::b.list))::a8 o 132 (ints [K,(i:Int)])::a8 q 48 (ints [0,0,0,0,0,0,0,0,0])::a8 m 43 (ints [s,g])::(l++(if(cutAt aL (T.rw K) i).length=0 then T.ks.filter (λk=> !decide (k=K))else T.ks).map (dg ⟨(if(cutAt aL (T.rw K) i).length=0 then T.ks.filter (λk=> !decide (k=K))else T.ks),T.pt,fV T.rw K (cutAt aL (T.rw K) i),eo (gB T.ps (cutAt aL (T.rw K) i) K i) s⟩))) Q:=In.nV I.out.fourth C E;have A:In G w0 (a8 a 50 (ints (s::g::b.list))::a8 o 132 (ints [K,(i:Int)])::a8 q 48 (ints [0,0,0,0,0,0,0,0,0])::a8 m 43 (ints [s,g])::a8 p 108 #[.pointer (ae ⟨sp,0,ah⟩),.map (ae tb),.map (ae pb)]::b8 sp j::PtrMap tb ((if(cutAt aL (T.rw K) i).length=0 then T.ks.filter (λk=> !decide (k=K))else T.ks).map λK=>(K,T.pt K))::bB pb (eo (gB T.ps (cutAt aL (T.rw K) i) K i) s)::(l++(if(cutAt aL (T.rw K) i).length=0 then T.ks.filter (λk=> !decide (k=K))else T.ks).map (dg ⟨(if(cutAt aL (T.rw K) i).length=0 then T.ks.filter (λk=> !decide (k=K))else T.ks),T.pt,fV T.rw K (cutAt aL (T.rw K) i),eo (gB T.ps (cutAt aL (T.rw K) i) K i) s⟩))) Q:=Y.reorder 8 [4,5,6,7,1,2,3,0] rfl (by simp);have q3:row? Q a 2 9=ae (ints b.list):=by rw[A.blk.ei 2 9 (by rw[VJ];omega)];simp only[List.drop_succ_cons,List.drop_zero];rw[cB (by omega)]
    have q4:fits Q q 0 9=ar:=A.third.blk.fits 0 9 (by rw[bN];simp);have U:=af (A.third.eZ b.list (by rw[QN];rfl));clear Y A C E h3 V I;go_wp2_with fail;refine rP rfl q 48 (ints b.list) _ rfl U.out.blk underlying48 rfl (by rw[bN,QN];exact oS) rfl ?_;exact⟨rfl,In.fU Yc.out U.out.drop.drop.drop.drop⟩
abbrev ptr(p:Nat):ak:=.pointer (ae ⟨p,0,ah⟩)
abbrev vw(p b a:Nat):bU:=a8 p 83 #[ptr b,ptr a]
def cA(p:Nat)(z:ZS):bU where
 at_ w F:=∃b a m,dA m=z.B/\Sep [vw p b a,dI b z.ls z.f,jy a m] w F
 frame h ho hd:=by obtain⟨b,a,m,c,d⟩:=h;exact⟨b,a,m,c,d.frame ho hd⟩
 cut h hd:=by obtain⟨b,a,m,c,d⟩:=h;exact⟨b,a,m,c,d.cut hd⟩
section
variable{G:Nat->Prop} {Z w:ai} {l:List bU} {p Y X:Nat} {m:ja} {z:ZS}
def In.jC(h:In G Z (cA p z::l) w):∃Y X m,dA m=z.B/\jA m/\Alike m z.B/\In G Z (vw p Y X::dI Y z.ls z.f::jy X m::l) w:=by obtain⟨⟨j,n,⟨Y,X,m,hm,i⟩,c,d,e⟩,g⟩:=h;have a:In G Z (vw p Y X::dI Y z.ls z.f::jy X m::l) w:=⟨(Sep.join i c d).cut λk _ f=>e k f,g⟩;have b:=(a.nth 2 (by simp)).R5;exact⟨Y,X,m,hm,b,by rw[<-hm];exact(sT b.nodup).symm,a⟩
def In.lK(hm:dA m=z.B)(h:In G Z (vw p Y X::dI Y z.ls z.f::jy X m::l) w):In G Z (cA p z::l) w:=by obtain⟨i,g⟩:=h;obtain⟨a,b,c,d,e,f⟩:=Sep.part (l1:=[vw p Y X,dI Y z.ls z.f,jy X m]) (l2:=l) i;exact⟨⟨a,b,⟨Y,X,m,hm,c⟩,d,e,f⟩,g⟩
end
section
variable{G:Nat->Prop} {Z w:ai} {l:List bU} {p:Nat} {Y:List (Int×Bool)} {f:BF}
def Ue(h:In G Z (b8 p Y::l) w)(i:Y.length<=60):Calls aj 127 #[.pointer (ae ⟨p,0,ah⟩)] w λe w'=>e=.returned (.tuple #[.agg (ints [(jq Y).2.1.1,(jq Y).2.1.2]),.int .i64 (jq Y).2.2])/\In G Z (b8 p (jq Y).1::l) w':=by obtain⟨a,f,_,g⟩:=h.open_;exact(Uf p Y a w f i).mono λe w' ⟨b,c,d⟩=>⟨b,g (A':=b8 p (jq Y).1) c d⟩
def Sb(h:In G Z (b8 p Y::l) w)(k:Kn Y)(a b:Int):Calls aj 177 #[.pointer (ae ⟨p,0,ah⟩),.agg #[.int .i64 a,.int .i64 b]] w λe w'=>e=.returned (.int .i64 (oa Y a b).2)/\In G Z (b8 p (oa Y a b).1::l) w':=by obtain⟨c,i,_,j⟩:=h.open_;exact(Sc p Y c a b w i k).mono λe w' ⟨d,f,g⟩=>⟨d,j (A':=b8 p (oa Y a b).1) (f.mono λ_ _ m=>bt m) g⟩
def V9(h:In G Z l w):Calls aj 144 #[] w λe w'=>∃p,e=.returned (.pointer (ae ⟨p,0,ah⟩))/\In G Z (b8 p []::l) w':=(Np w).mono λe w' ⟨b,c,d⟩=>⟨_,b,h.new (A:=b8 w.heap.size []) d (c.mono λk _ a=>by rcases a with a|a;exact a.elim;exact a.1)⟩
def N3(h:In G Z l w):Calls aj 85 #[] w λe w'=>∃p,e=.returned (.pointer (ae ⟨p,0,ah⟩))/\In G Z (dI p [] (λ_=>ah)::l) w':=by have H:=af h;clear h;have j:= @run_makeMap aj;go_enter func85,ntmps85;go_wp2_with fail;refine(V9 H.out).mono ?_;rintro e a ⟨sp,rfl,f⟩;have d:=f.FH (aS .i64) tw mK;have b:=d.FH (aS .i64) pV mK;rw[cR]at b;have c:=b.alloc 108 #[.pointer (ae ⟨sp,0,ah⟩),.map (ae a.heap.size),.map (ae (a.heap.size+1))];simp only[cR]at c;have g:=af c;clear f d b c;go_wp2_with fail;go_ret;refine⟨a.heap.size+1+1,rfl,In.fU (sp:=sp) (tb:=a.heap.size) (pb:=a.heap.size+1) (T:=⟨[],λ_=>0,λ_=>[],[]⟩) mg.nil ?_⟩;have i:=g.out.reorder 4 [0,3,2,1] rfl (by simp);simp only[List.map_nil,eM];exact i
def T7(h:In G Z (dI p Y f::l) w)(hk:nl Y f)(b:aN)(U:b.v.length=8):Calls aj 64 #[.pointer (ae ⟨p,0,ah⟩),.agg (ints b.list)] w λe w'=>e=.returned (.tuple #[.agg (ints [(fL Y f b).2.1.1,(fL Y f b).2.1.2]),.int .i64 (fL Y f b).2.2])/\In G Z (dI p (fL Y f b).1.1 (fL Y f b).1.2::l) w':=by
 have y:=af h;have P:=af hk;have H:b.list.length=9:=by unfold aN.list;rw[ay,U]
 have W:=af U;clear h hk U;go_enter func64,ntmps64;go_upto_region 1 with(fail)
 refine b9 (In G Z (a8 (w.heap.size+1) 43 (ints [0,0])::a8 w.heap.size 48 (ints b.list)::dI p Y f::l)) (by have:=(y.out.alloc 48 (ints b.list)).alloc 43 (ints [0,0]);rw[cR]at this;exact this) ?_
 generalize w.heap.size+1=i;generalize w.heap.size=u;intro w1 s;have k1:row? w1 u 0 9=ae (ints b.list):=s.swap.blk.bw H;have z:=af s;clear s y;go_wp2_with fail;refine(oU b W.out w1).mono ?_;rintro e w2 ⟨rfl,F⟩;have t:=z.out.below F;have R:fits w2 i 0 2=ar:=t.blk.fits 0 2 (by rw[bN];simp);have j:=af t;clear t F z k1;by_cases v:bT b=0;rotate_left
 ·have C:Hid (fL Y f b=((Y,f),(0,0),bT b)):=by unfold Hid fL;rw[if_pos v]
  have O6:(bT b !=0)=ar:=by simpa using v
  generalize bT b=E at *;clear v;have d:=af (j.out.eZ [0,0] rfl);clear j;go_wp2_with fail;refine cx rfl i 43 (ints [0,0]) (.int .i64 E) _ rfl rfl d.out.blk underlying43 rfl (by rw[bN];exact dX) rfl ?_;rw[C.out];exact⟨rfl,d.out.drop.drop⟩
 have N:=af v;rw[v];clear v R;obtain⟨sp,tb,pb,T,X,S⟩:=j.out.third.kl;have M:w2.cell? ⟨p,0,ah⟩=ae (.pointer (ae ⟨sp,0,ah⟩)):=S.blk.cell 0;have V:=af X;have d:=af S.swap;clear S X j;go_wp2_with fail;refine(Ue d.out P.out.so.1).mono ?_;rintro e J ⟨rfl,D⟩;have c:Hid (In G Z (dI p (jq Y).1 f::a8 i 43 (ints [0,0])::a8 u 48 (ints b.list)::l) J):=In.fU (l:=a8 i 43 (ints [0,0])::a8 u 48 (ints b.list)::l) V.out D.swap;clear D d M V;rcases xO P.out.so.1 with o|⟨k,m,I,o,r,g,_⟩
 ·have C:Hid (fL Y f b=((Y,f),(0,0),2)):=by unfold Hid fL;rw[if_neg (λh=>h N.out),o,if_neg (by simp)]
  rw[o]at c;rw[o];simp only at c|-;clear o;go_upto_region 5 with(fail)
  refine b9 (In G Z (a8 J.heap.size 43 (ints [0,0])::dI p Y f::a8 i 43 (ints [0,0])::a8 u 48 (ints b.list)::l)) (c.out.struct 43 [0,0] [0,0] rfl) ?_;generalize J.heap.size=L;intro K a;have M:row? K L 0 2=ae (ints [0,0]):=a.blk.bw rfl;have R:fits K i 0 2=ar:=a.third.blk.fits 0 2 (by rw[bN];simp);have A:=af (a.third.eZ [0,0] rfl);clear a c;go_wp2_with fail;refine cx rfl i 43 (ints [0,0]) (.int .i64 2) _ rfl rfl A.out.blk underlying43 rfl (by rw[bN];exact dX) rfl ?_;rw[C.out];exact⟨rfl,A.out.drop.drop.swap.drop⟩
 ·have C:Hid (fL Y f b=((I,dL f (k:Int) (ae (m,b))),((k:Int),m),0)):=by unfold Hid fL;rw[if_neg (λh=>h N.out),o,if_pos rfl]
  have O:Hid (f (k:Int)=ah):=by
   cases hf:f (k:Int)with|none=>rfl|some x=>have:=(P.out.lv (k:Int) x.1).2 ⟨x.2,hf⟩;rw[g]at this;cases this
  have Q:=af r;rw[o]at c;rw[o];simp only at c|-;clear o g r;go_upto_region 5 with(fail)
  refine b9 (In G Z (a8 J.heap.size 43 (ints [(k:Int),m])::dI p I f::a8 i 43 (ints [0,0])::a8 u 48 (ints b.list)::l)) (c.out.struct 43 [0,0] [(k:Int),m] rfl) ?_;generalize J.heap.size=L;intro K a;have M:row? K L 0 2=ae (ints [(k:Int),m]):=a.blk.bw rfl;have q2:row? K u 0 9=ae (ints b.list):=a.fourth.blk.bw H;have q:=af (Lg a.swap (k:Int) m b O.out ⟨N.out,W.out,by omega,by have:=Q.out;omega⟩);clear a c;go_wp2_with fail;refine q.out.mono ?_;rintro e w5 ⟨rfl,n⟩;have M:row? w5 L 0 2=ae (ints [(k:Int),m]):=n.swap.blk.bw rfl;have R:fits w5 i 0 2=ar:=n.third.blk.fits 0 2 (by rw[bN];simp);have B:=af (n.third.eZ [(k:Int),m] rfl);clear n q q2;go_wp2_with fail;refine cx rfl i 43 (ints [(k:Int),m]) (.int .i64 0) _ rfl rfl B.out.blk underlying43 rfl (by rw[bN];exact dX) rfl ?_;rw[C.out];exact⟨rfl,B.out.drop.swap.drop.swap.drop⟩
def VU(h:In G Z (dI p Y f::l) w)(I:nl Y f)(s g:Int):Calls aj 131 #[.pointer (ae ⟨p,0,ah⟩),.agg #[.int .i64 s,.int .i64 g]] w λe w'=>e=.returned (.int .i64 (mL Y f (s,g)).2)/\In G Z (dI p (mL Y f (s,g)).1.1 (mL Y f (s,g)).1.2::l) w':=by
 have m:=af h;have E:=af I;clear h I;go_enter func131,ntmps131;go_upto_region 1 with(fail)
 refine b9 (In G Z (dI p Y f::a8 w.heap.size 43 (ints [s,g])::l)) (m.out.alloc 43 (ints [s,g])).swap ?_;generalize w.heap.size=t;intro C c;obtain⟨sp,tb,pb,T,u,i⟩:=c.kl;obtain⟨K,H⟩:=i.swap.head;have L:∀n:After C,n.w.cell? ⟨p,0,ah⟩=ae (.pointer (ae ⟨sp,0,ah⟩)):=λn=>(i.blk.after n.below).cell 0
 have M:∀n:After C,row? n.w t 0 2=ae (ints [s,g]):=λn=>(c.swap.blk.after n.below).bw rfl
 have q:Hid (∀n:After C,Calls aj 72 #[.pointer (ae ⟨sp,0,ah⟩),.agg (ints [s,g])] n.w λe w'=>e=.returned (.bool (eh Y s g))/\Below n.w.heap.size n.w w'):=λn=>o4 sp Y K s g n.w (iL.after H n.below)
 have d:=af c;clear c i H u m;cases a:eh Y s g with
 |false=>
  have B:Hid (mL Y f (s,g)=((Y,f),7)):=by unfold Hid mL;rw[if_neg (by simp[a])]
  rw[a]at q;clear a;refine bV (by kernel_rfl) (by kernel_rfl) ?_;repeat(go_big_quiet_step ((go_at_call 72;exact fH (q.out _))))
  refine wpQuiet_nil ?_;rintro _ ⟨n,rfl⟩;have y:=af (d.out.below n.below);go_wp2_with fail;go_ret;rw[B.out];exact⟨rfl,y.out.swap.drop⟩
 |true=>
  have A:=af a;have B:Hid (mL Y f (s,g)=(((oa Y s g).1,dL f s ah),0)):=by unfold Hid mL;rw[if_pos a]
  have x:Hid ((oa Y s g).2=0):=by unfold Hid oa;rw[if_pos a]
  rw[a]at q;clear a;refine bV (by kernel_rfl) (by kernel_rfl) ?_;repeat(go_big_quiet_step ((go_at_call 72;exact fH (q.out _))))
  refine wpQuiet_nil ?_;rintro _ ⟨n,rfl⟩;have j:=d.out.below n.below;have J:row? n.w t 0 2=ae (ints [s,g]):=j.swap.blk.bw rfl;have b:=af (Fw j s g (cZ f s) (E.out.get A.out));clear j L M q d;generalize n.w=P at *;go_wp2_with fail;refine b.out.mono ?_;rintro e v ⟨rfl,k⟩;obtain⟨sp,tb,pb,T,u,i⟩:=k.kl;have J:row? v t 0 2=ae (ints [s,g]):=k.swap.blk.bw rfl;have N:v.cell? ⟨p,0,ah⟩=ae (.pointer (ae ⟨sp,0,ah⟩)):=i.blk.cell 0;have F:=af u;have D:=af i;clear k i u b;go_upto_region 4 with(fail)
  go_still_tail 5,(by kernel_rfl)
  change wpList _ _ _ _ _ v.drew;have o:=af D.out.drew.swap;clear D J N;generalize v.drew=Q at *;go_wp2_with fail;refine(Sb o.out E.out.so.gY s g).mono ?_;rintro e O ⟨rfl,r⟩;have z:Hid (In G Z (dI p (oa Y s g).1 (dL f s ah)::a8 t 43 (ints [s,g])::l) O):=In.fU (l:=a8 t 43 (ints [s,g])::l) F.out r.swap;rw[x.out];clear r o F;go_wp2_with fail;go_ret;rw[B.out];exact⟨rfl,z.out.swap.drop⟩
end
def dG(w:ai)(g o:Nat)(vs:List ak):ai:=
 {w with heap:=w.heap.modify g λ
    |.cells a e b=>.cells (a.toList.take o++vs++a.toList.drop (o+vs.length)).toArray e b|o=>o}
def fw(w:ai)(g o:Nat)(a:List ak)(k:Nat)(h:k≠g):(dG w g o a).heap[k]? =w.heap[k]?:=by simp[dG,br,kG h]
def iz(w:ai)(g o:Nat)(a:List ak):(dG w g o a).heap.size=w.heap.size:=by simp[dG]
def cY.dG(w:ai)(g o:Nat)(a:List ak):cY (· =g) w (Go.Proofs.YtknejlcijdngoaaGreat.dG w g o a):=⟨rfl,rfl,rfl,by rw[iz];exact av _,λq _ b=>fw w g o a q b⟩
def cD.AF{w:ai}{g:Nat}{t:az}{b:Array ak}(h:cD w g t b)(a:List ak)(c:a.length=b.size):cD (dG w g 0 a) g t a.toArray:=by unfold cD at h|-;simp[dG,br,h];omega
def In.AF{G:Nat->Prop}{w0 w:ai}{l:List bU}{g:Nat}{t:az}{c:Array ak}(h:In G w0 (a8 g t c::l) w)(a:List ak)(i:a.length=c.size):In G w0 (a8 g t a.toArray::l) (dG w g 0 a):=by obtain⟨j,⟨d,b⟩,m,f⟩:=h.open_;exact f (A':=a8 g t _) ⟨d.AF a i,bt b⟩ ((cY.dG w g 0 a).mono λk _ e=>by rw[e];exact b)
def uK{P:Program}(w:ai)(f:az)(g o n:Nat)(a:List ak)(q:(P.info? f).map (·.size)=ae n)(r:∀v∈a,v.oneCell'=ar):(dk f (.pointer (ae ⟨g,o,ah⟩)) (.agg a.toArray)).run P w=if fits w g o n=ar/\a.length=n then .ok () (dG w g o a)else(ej f g o (.agg a.toArray)).run P w:=by
 split;rename_i h;obtain⟨d,t⟩:=h;unfold fits at d;split at d;rename_i m e p;have u:o+n<=m.size:=by simpa using d
 cases j:P.info? f with
 |none=>simp[j]at q|some i=>
  have x:i.size=n:=by simpa[j]using q
  have l:=run_storeCells_at P g o e a 0 m w p (by omega) r;have b:a.toArray.size=i.size:=by simp;omega
  have c:a.length=i.size:=by omega
  simp only[dk,dP,Instr.sureAddr,storeVar,Sem.run_bind,sizeOf,typeInfo,run_program,Result.andThen_ok,j,Sem.run_pure,Value.cells,b,ne_eq,not_true_eq_false,if_false,List.toList_toArray,l,aD,c];congr 1;unfold dG World.setRow;congr 1;apply Array.ext_getElem?;intro k;rw[br,br];split;rename_i s;subst s;rw[p];simp[c];rfl
 cases d;rfl
def Ih{w:ai}{g n:Nat}{vs:List ak}(h:fits w g 0 n=ar)(c:vs.length=n):fits (dG w g 0 vs) g 0 n=ar:=by unfold fits at *;split at h;rename_i b t a;simp only[decide_eq_true_eq]at h;simp[dG,br,a];omega;cases h
def In.apart{G:Nat->Prop}{w0 w:ai}{l:List bU}{a b:Nat}{t i:az}{x y:Array ak}(h:In G w0 (a8 a t x::a8 b i y::l) w):a≠b:=by obtain⟨⟨j,k,c,⟨m,n,d,_,_,g⟩,f,_⟩,_⟩:=h;intro e;exact f a c.2 (g a (bt (by rw[e];exact d.2)))
def xg{w:ai}{g a o c:Nat}{x:ak}{d:List ak}(b:g≠a)(h:w.cell? ⟨g,o,ah⟩=ae x):(dG w a c d).cell? ⟨g,o,ah⟩=ae x:=by unfold b3 at *;simp only[fw w a c d g b];exact h
def J9:(Tryz.prog.info? 83).map (·.size)=ae 2:=by kernel_rfl
@[go_sem ↓] theorem Zp(v:ak):dN 83 v=fA 83 v:=rfl
@[go_sem ↓] theorem X5(p v:ak):dP 83 p v=dk 83 p v:=rfl
@[go_sem] theorem WJ(w:ai)(g o:Nat):(fA 83 (.pointer (ae ⟨g,o,ah⟩))).run aj w=match row? w g o 2 with|some a=>.ok (.agg a) w|none=>(jo 83 ⟨g,o,ah⟩).run aj w:=fW w _ g o 2 _ underlying83 rfl J9
@[go_sem] theorem US(w:ai)(g o a b:Nat):(dk 83 (.pointer (ae ⟨g,o,ah⟩)) (.agg #[ptr a,ptr b])).run aj w=if fits w g o 2=ar then .ok () (dG w g o [ptr a,ptr b])else(ej 83 g o (.agg #[ptr a,ptr b])).run aj w:=by have h:=uK w 83 g o 2 [ptr a,ptr b] J9 (by simp[fX]);simp only[ay,aC,Nat.reduceAdd,and_true]at h;exact h
def iU:(Tryz.prog.info? 36).map (·.size)=ae 3:=by kernel_rfl
@[go_sem ↓] theorem VZ(v:ak):dN 36 v=fA 36 v:=rfl
@[go_sem ↓] theorem UX(p v:ak):dP 36 p v=dk 36 p v:=rfl
@[go_sem] theorem TV(w:ai)(g o:Nat):(fA 36 (.pointer (ae ⟨g,o,ah⟩))).run aj w=match row? w g o 3 with|some a=>.ok (.agg a) w|none=>(jo 36 ⟨g,o,ah⟩).run aj w:=fW w _ g o 3 _ underlying36 rfl iU
@[go_sem] theorem sD(w:ai)(g o:Nat)(a b c:Option Addr)(i j k d e f:Nat):(dk 36 (.pointer (ae ⟨g,o,ah⟩)) (.agg #[.slice a i d,.slice b j e,.slice c k f])).run aj w=if fits w g o 3=ar then .ok () (dG w g o [.slice a i d,.slice b j e,.slice c k f])else(ej 36 g o (.agg #[.slice a i d,.slice b j e,.slice c k f])).run aj w:=by have h:=uK w 36 g o 3 [.slice a i d,.slice b j e,.slice c k f] iU (by simp[fX]);simp only[ay,aC,Nat.reduceAdd,and_true]at h;exact h
structure acB(T:WT) (f:BF) (s g:Int) (K:Int) (i:Nat):Prop where
 mem:K∈T.ks
 at_:(T.rw K)[i]? =ae ⟨(s,g),cZ f s⟩
 place:eI T.ps s=ae (K,(i:Int))
 slot:0<=s/\s<60
 len:(T.rw K).length<=60
 ok:bT (cZ f s)=0/\(cZ f s).v.length=8
def mg.aa'{T:WT}{f:BF}{d:List (Int×Bool)}(h:mg T f)(l:nl d f){s g:Int}(m:eh d s g=ar):∃K i,acB T f s g K i:=by have b:=l.get m;obtain⟨e,j,k⟩:=h.ok s g _ b;obtain⟨K,a,i,c⟩:=h.all s g _ b;exact⟨K,i,a,c,(h.at_ K a i _ c).2,k,h.pq a,e,j⟩
def mj{w:ai}{b o:Nat}{v:ak}(a:Obj)(h:w.cell? ⟨b,o,ah⟩=ae v):(w.alloc a).cell? ⟨b,o,ah⟩=ae v:=(((Below.refl w.heap.size w).alloc (av _) a).cell (p:=⟨b,o,ah⟩) (lp _ _ h)).trans h
def uT{w w':ai}{b o:Nat}{v:ak}(a:Below w.heap.size w w')(h:w.cell? ⟨b,o,ah⟩=ae v):w'.cell? ⟨b,o,ah⟩=ae v:=(a.cell (p:=⟨b,o,ah⟩) (lp _ _ h)).trans h
def Fa{w:ai}{b o:Nat}{v:ak}(t:az)(c a:List Int)(h:w.cell? ⟨b,o,ah⟩=ae v):(putRow (w.alloc (.cells (ints c) t)) w.heap.size 0 a).cell? ⟨b,o,ah⟩=ae v:=uT (eU w t c a) h
section
variable{G:Nat->Prop} {Z w:ai} {l:List bU} {p:Nat} {z:ZS}
def GM(h:In G Z l w):Calls aj 35 #[] w λe w'=>∃p,e=.returned (ptr p)/\In G Z (cA p nN::l) w':=by have H:=af h;clear h;go_enter func35,ntmps35;go_wp2_with fail;refine(N3 H.out).mono ?_;rintro e i ⟨g,rfl,a⟩;have b:=af a;clear a H;go_wp2_with fail;refine(M3 b.out).mono ?_;rintro e f ⟨d,rfl,a⟩;have c:=af (a.alloc 83 #[ptr g,ptr d]);clear a b;go_wp2_with fail;go_ret;exact⟨f.heap.size,rfl,In.lK (z:=nN) (m:=[]) Dw (c.out.perm ((cy _ _ _).cons _))⟩
def nI(z:ZS)(a:List Hd):Bool:=a.all λh=>z.live h
def BL{L:ak}{a:List Hd}(h:In G Z (cA p z::jz L a::l) w)(hl:a.length<=1099511627776):Calls aj 68 #[ptr p,L] w λe w'=>e=.returned (.int .i64 (if nI z a=ar then 0 else 7))/\In G Z (cA p z::jz L a::l) w':=by
 obtain⟨A,c,rfl,W,X,_⟩:=pT h.swap.rowAt;have N:=af h;clear h;obtain⟨D,H⟩:∃D:Int,Hid (D=if nI z a=ar then 0 else 7):=⟨_,rfl⟩;rw[<-H.out];go_enter func68,ntmps68;go_wp2_with fail;go_loopw [9] (λi w'=>∃k:Nat,k<=a.length/\i=.int .i64 k/\nI z (a.take k)=ar/\In G Z (cA p z::jz (.slice A a.length c) a::l) w') (λi _=>a.length-(intOf i).toNat)
 case atStart=>exact⟨0,bF _,rfl,rfl,N.out⟩
 case round=>
  clear N;obtain⟨k,hk,rfl,d,v⟩:=hrel;by_cases r:k<a.length
  ·have K1:(k:Int)<a.length:=by omega
   obtain⟨A',c',R,_,Y,j⟩:=pT v.swap.rowAt;injection R with S T U;subst S;subst U;obtain⟨g,rfl,q1⟩:=j k r;have I:Hid (nI z (a.take (k+1))=z.live a[k]):=by unfold Hid nI at *;rw[aU r,List.all_append,d];simp
   have b:Hid (z.live a[k]=au->nI z a=au):=λJ=>by unfold nI;rw[List.all_eq_false];exact⟨_,aR r,by rw[J];simp⟩
   have P:(a.length:Int)<=c:=by omega
   have B:=af v;clear j T v d;generalize a[k]=x at *;obtain⟨s,t⟩:=x;go_upto_region 4 with(fail)
   refine b9 (In G Z (a8 wr.heap.size 43 (ints [s,t])::cA p z::jz (.slice (ae ⟨g,0,ah⟩) a.length c) a::l)) (B.out.struct 43 [0,0] [s,t] rfl) ?_;generalize wr.heap.size=Q;intro M f;have q2:∀n:After M,row? n.w Q 0 2=ae (ints [s,t]):=λn=>(f.blk.after n.below).bw rfl
   obtain⟨wp,fp,m,hm,J,V,q⟩:=f.swap.jC;have q3:∀n:After M,n.w.cell? ⟨p,0,ah⟩=ae (ptr wp):=λn=>(q.blk.after n.below).cell 0
   obtain⟨sp,F,q4,O⟩:=q.swap.slotsOf;have C:Hid (∀n:After M,Calls aj 72 #[.pointer (ae ⟨sp,0,ah⟩),.agg (ints [s,t])] n.w λe w'=>e=.returned (.bool (z.live (s,t)))/\Below n.w.heap.size n.w w'):=λn=>o4 sp z.ls F s t n.w (O n)
   have u:=af f;clear f q hm J V O B q1;cases y:z.live (s,t)with
   |false=>
    rw[y]at C I b;have E:Hid (nI z a=au):=b.out rfl;refine bV (by kernel_rfl) (by kernel_rfl) ?_;repeat(go_big_quiet_step ((go_at_call 72;exact fH (C.out _))))
    refine wpQuiet_nil ?_;rintro _ ⟨n,rfl⟩;have o:=af (u.out.below n.below);go_wp2_with fail;go_ret;have K:D=7:=by rw[H.out,E.out];rfl
    rw[K];exact⟨rfl,o.out.drop⟩
   |true=>
    rw[y]at C I b;clear b;refine bV (by kernel_rfl) (by kernel_rfl) ?_;repeat(go_big_quiet_step ((go_at_call 72;exact fH (C.out _))))
    refine wpQuiet_nil ?_;rintro _ ⟨n,rfl⟩;have o:=af (u.out.below n.below);go_wp2_with fail;go_roundw
    case rel=>exact⟨k+1,by omega,by go_num,I.out,o.out.drop⟩
    simp[intOf];omega
  have:k=a.length:=by omega
  subst this;have E:Hid (nI z a=ar):=by rw[cE]at d;exact d
  have B:=af v;clear v d;go_wp2_with fail;go_ret;have K:D=0:=by rw[H.out,E.out];rfl
  rw[K];exact⟨rfl,B.out⟩
end
def Kv:∀(m k:Nat),m<256->k<8->m.testBit k=ar->bits .andNot .i64 (m:Int) (wrap64 (2^k))=((m-2^k:Nat):Int):=by
 have h:∀(m:Fin 256)(k:Fin 8),m.val.testBit k.val=ar->bits .andNot .i64 (m.val:Int) (wrap64 (2^k.val))=((m.val-2^k.val:Nat):Int):=by decide+kernel
 exact λm k hm a=>h ⟨m,hm⟩ ⟨k,a⟩
def mg.WO{T:WT}{f:BF}{s g K:Int}{b u:aN}(h:mg T f)(D:K∈T.ks){i:Nat}(A:(T.rw K)[i]? =ae ⟨(s,g),b⟩)(E:bT u=0/\u.v.length=8):mg ⟨T.ks,T.pt,fV T.rw K ((T.rw K).set i ⟨(s,g),u⟩),T.ps⟩ (dL f s (ae (g,u))):=by
 have o:=(bz.1 A).1;obtain⟨v,q⟩:=h.at_ K D i _ A;simp only at v q;have d:∀c∈T.ks,∀(j:Nat) r,(T.rw c)[j]? =ae r->¬(c=K/\j=i)->dL f s (ae (g,u)) r.h.1=ae (r.h.2,r.b)/\eI T.ps r.h.1=ae (c,(j:Int)):=by
  intro c a j r l p;obtain⟨z,m⟩:=h.at_ c a j r l;have B:r.h.1≠s:=λe=>by rw[e,q]at m;injection m with m;injection m with m C;exact p ⟨m.symm,by omega⟩
  unfold dL;rw[if_neg B];exact⟨z,m⟩
 refine⟨h.nd,λc a=> ?_,λc a j r l=> ?_,λw y x k=> ?_,λw y x k=> ?_⟩;simp only[fV];split;intro F;have:=congrArg kY F;rw[eu]at this;simp at this;rw[this]at o;simp at o;exact h.ne c a;simp only at l a|-;by_cases e:c=K;subst e;rw[hV,ga]at l;by_cases t:i=j;subst t;rw[if_pos rfl,if_pos o]at l;injection l with l;subst l;unfold dL;rw[if_pos rfl];exact⟨rfl,q⟩;rw[if_neg t]at l;exact d c a j r l (λh=>t h.2.symm);rw[gF _ _ e]at l;exact d c a j r l (λh=>e h.1);unfold dL at k;split at k;rename_i e;injection k with k;injection k with z m;subst e;subst z;subst m;exact⟨K,D,i,by simp only[hV];rw[ga,if_pos rfl,if_pos o]⟩;rename_i p;obtain⟨c,a,j,n⟩:=h.all w y x k;refine⟨c,a,j,?_⟩;simp only;by_cases e:c=K;subst e;rw[hV,ga];by_cases t:i=j;subst t;rw[A]at n;injection n with n;injection n with n _;injection n with n _;exact absurd n.symm p;rw[if_neg t];exact n;rw[gF _ _ e];exact n;unfold dL at k;split at k;rename_i e;injection k with k;injection k with _ m;subst e;subst m;obtain⟨_,_,C⟩:=h.ok w g b v;exact⟨E.1,E.2,C⟩;exact h.ok w y x k
def EM(f:BF)(s:Int)(x y:Option (Int×aN)):dL (dL f s x) s y=dL f s y:=by funext k;unfold dL;split<;>rfl
def V3{K:Int}{k:Nat}(a:k<8)(b:K.toNat.testBit k=ar):k∈jh K:=cc.2 ⟨gm.2 a,b⟩
def Aj(k:Int)(h:0<=k/\k<8)(w:ai):Calls aj 133 #[.int .i64 k] w λe w'=>e=.returned (.bool ar)/\w=w':=by
 obtain⟨a,b⟩:=h;go_enter func133,ntmps133
 go_wp2
 go_ret;exact⟨rfl,rfl⟩
def D6(k:Int)(h:¬(0<=k/\k<8))(w:ai):Calls aj 133 #[.int .i64 k] w λe w'=>e=.returned (.bool au)/\w=w':=by
 by_cases b:0<=k
 ·have a:Hid (8<=k):=by unfold Hid;omega
  clear h;go_enter func133,ntmps133
  go_wp2
  go_ret;exact⟨dw (decide_eq_false (by have:=a.out;omega)),rfl⟩
 have a:k<0:=by omega
 clear h b;go_enter func133,ntmps133
 go_wp2
 go_ret;exact⟨rfl,rfl⟩
section
variable{G:Nat->Prop} {Z w:ai} {l:List bU} {p:Nat} {Y:List (Int×Bool)} {f:BF}
def LK(h:In G Z (dI p Y f::l) w)(hk:nl Y f)(s g b n:Int):Calls aj 66 #[.pointer (ae ⟨p,0,ah⟩),.agg #[.int .i64 s,.int .i64 g],.int .i64 b,.int .i64 n] w λe w'=>e=.returned (.int .i64 (rq Y f (s,g) b n).2)/\In G Z (dI p Y (rq Y f (s,g) b n).1::l) w':=by
 have GX:=af h;have HK:=af hk;clear h hk;go_enter func66,ntmps66;go_upto_region 1 with(fail)
 refine b9 (In G Z (dI p Y f::a8 w.heap.size 43 (ints [s,g])::l)) (GX.out.alloc 43 (ints [s,g])).swap ?_;generalize w.heap.size=j;intro w1 YL;obtain⟨sp,tb,pb,T,hT,hI⟩:=YL.kl;obtain⟨F1,hS⟩:=hI.swap.head;have c0:∀n:After w1,n.w.cell? ⟨p,0,ah⟩=ae (.pointer (ae ⟨sp,0,ah⟩)):=λn=>(hI.blk.after n.below).cell 0
 have c1:∀n:After w1,row? n.w j 0 2=ae (ints [s,g]):=λn=>(YL.swap.blk.after n.below).bw rfl
 have HL:Hid (∀n:After w1,Calls aj 72 #[.pointer (ae ⟨sp,0,ah⟩),.agg (ints [s,g])] n.w λe w'=>e=.returned (.bool (eh Y s g))/\Below n.w.heap.size n.w w'):=λn=>o4 sp Y F1 s g n.w (iL.after hS n.below)
 have HT:=af hT;have HI:=af hI;clear YL hI hS hT GX;cases A:eh Y s g with
 |false=>
  have N:Hid (rq Y f (s,g) b n=(f,7)):=by unfold Hid rq;rw[if_pos (by simp[A])]
  rw[A]at HL;clear A;refine bV (by kernel_rfl) (by kernel_rfl) ?_;repeat(go_big_quiet_step ((go_at_call 72;exact fH (HL.out _))))
  refine wpQuiet_nil ?_;rintro _ ⟨na,rfl⟩;have r:=af (In.fU (l:=a8 j 43 (ints [s,g])::l) HT.out (HI.out.below na.below));go_wp2_with fail;go_ret;rw[N.out];exact⟨rfl,r.out.swap.drop⟩
 |true=>
  have F:=af A;rw[A]at HL;clear A;refine bV (by kernel_rfl) (by kernel_rfl) ?_;repeat(go_big_quiet_step ((go_at_call 72;exact fH (HL.out _))))
  refine wpQuiet_nil ?_;rintro _ ⟨na,rfl⟩;have o:In G Z (a8 p 108 #[.pointer (ae ⟨sp,0,ah⟩),.map (ae tb),.map (ae pb)]::b8 sp Y::PtrMap tb (T.ks.map λK=>(K,T.pt K))::bB pb T.ps::a8 j 43 (ints [s,g])::(l++T.ks.map (dg T))) na.w:=HI.out.below na.below;have r:=af o;generalize na.w=C at *;clear c0 c1 HL HI o;by_cases u:0<=b/\b<8;rotate_left
  ·have N:Hid (rq Y f (s,g) b n=(f,1)):=by unfold Hid rq;rw[if_neg (by simp[F.out]),if_pos (bt u)]
   have y:=af (D6 b u C);clear u;have m:=af (In.fU (l:=a8 j 43 (ints [s,g])::l) HT.out r.out);go_wp2_with fail;refine y.out.mono ?_;rintro e x ⟨rfl,rfl⟩;go_wp2_with fail;go_ret;rw[N.out];exact⟨rfl,m.out.swap.drop⟩
  have y:=af (Aj b u C);by_cases hn: -1000000000<=n/\n<=1000000000;rotate_left
  ·have N:Hid (rq Y f (s,g) b n=(f,1)):=by unfold Hid rq;rw[if_neg (by simp[F.out]),if_pos (by omega)]
   have m:=af (In.fU (l:=a8 j 43 (ints [s,g])::l) HT.out r.out);by_cases C4:n< -1000000000
   ·have VF:decide (n< -1000000000)=ar:=decide_eq_true C4;clear hn u;go_wp2_with fail;refine y.out.mono ?_;rintro e x ⟨rfl,rfl⟩;go_wp2_with fail;go_ret;rw[N.out];exact⟨rfl,m.out.swap.drop⟩
   have VF:decide (n< -1000000000)=au:=decide_eq_false C4;have hd2:decide (1000000000<n)=ar:=decide_eq_true (by omega);have hn2:1000000000<n:=by omega
   clear hn u;go_wp2_with fail;refine y.out.mono ?_;rintro e x ⟨rfl,rfl⟩;go_wp2_with fail;go_ret;rw[N.out];exact⟨rfl,m.out.swap.drop⟩
  have VF:decide (n< -1000000000)=au:=decide_eq_false (by omega);have hd2:decide (1000000000<n)=au:=decide_eq_false (by omega);obtain⟨k,rfl⟩:∃k:Nat,b=k:=⟨b.toNat,by omega⟩;have q:k<8:=by omega
  have N:Hid (rq Y f (s,g) (k:Int) n=(dL f s (ae (g,sI (cZ f s) k n)),0)):=by unfold Hid rq;rw[if_neg (by simp[F.out]),if_neg (by omega),dT]
  obtain⟨K,i,Q⟩:=HT.out.aa' HK.out F.out;obtain⟨XA,hKb⟩:=wU (In.wB (X:=a8 p 108 #[.pointer (ae ⟨sp,0,ah⟩),.map (ae tb),.map (ae pb)]::b8 sp Y::PtrMap tb (T.ks.map λK=>(K,T.pt K))::bB pb T.ps::a8 j 43 (ints [s,g])::l) r.out Q.mem);have W:Hid ((cZ f s).k=K):=hKb _ (jw Q.at_);have a:=af Q;have z:=af XA;have HN:=af hn;have hkI:(k:Int)<8:=by omega
  go_wp2_with fail;refine y.out.mono ?_;rintro e x ⟨rfl,rfl⟩;go_upto_region 5 with(fail)
  clear VF hd2 Q XA hKb hn u y;have o:=r.out;have L:=o.fourth.gZ;have k0:C.cell? ⟨p,2,ah⟩=ae (.map (ae pb)):=o.blk.cell 2;have k1:C.cell? ⟨j,0,ah⟩=ae (.int .i64 s):=o.fifth.blk.cell 0;have k2:(C.alloc (.cells #[.int .i64 0,.int .i64 0] 132)).cell? ⟨p,2,ah⟩=ae (.map (ae pb)):=mj _ k0;have k3:(C.alloc (.cells #[.int .i64 0,.int .i64 0] 132)).cell? ⟨j,0,ah⟩=ae (.int .i64 s):=mj _ k1;have UH:=o8 L a.out.slot a.out.place (Below.refl _ _).drew;have hl2:=o8 L a.out.slot a.out.place (((Below.refl _ C).alloc (av _) (.cells #[.int .i64 0,.int .i64 0] 132)).drew);have H:Hid (∀x,x=(putRow (C.alloc (.cells (ints [0,0]) 132)) C.heap.size 0 [K,(i:Int)]).drew->In G Z (a8 C.heap.size 132 (ints [K,(i:Int)])::a8 p 108 #[.pointer (ae ⟨sp,0,ah⟩),.map (ae tb),.map (ae pb)]::b8 sp Y::PtrMap tb (T.ks.map λK=>(K,T.pt K))::bB pb T.ps::a8 j 43 (ints [s,g])::(l++T.ks.map (dg T))) x):=λx e=>by rw[e];exact(o.struct 132 [0,0] [K,(i:Int)] rfl).drew
  clear o L r
  go_region
  all_goals
   go_upto_region 6 with(fail)
   refine b9 (In G Z (a8 C.heap.size 132 (ints [K,(i:Int)])::a8 p 108 #[.pointer (ae ⟨sp,0,ah⟩),.map (ae tb),.map (ae pb)]::b8 sp Y::PtrMap tb (T.ks.map λK=>(K,T.pt K))::bB pb T.ps::a8 j 43 (ints [s,g])::(l++T.ks.map (dg T)))) (H.out _ rfl) ?_;clear k0 k1 k2 k3 UH hl2 H;generalize C.heap.size=S;intro x d;have s2:x.cell? ⟨S,0,ah⟩=ae (.int .i64 K):=d.blk.cell 0;have hK2:((K.toNat:Nat):Int)=K:=by have:=z.out;omega
   have c:=E3 K.toNat k (by have:=z.out;omega) q;rw[hK2]at c;have Uy:=af hK2;clear hK2;have m:=af d;clear d;cases B:K.toNat.testBit k with
   |true=>
    rw[B]at c;have h1:(bits BinOp.and IntKind.i64 (K / 2^k) 1==1)=ar:=by rw[c];rfl
    have HTB:=af B;clear c B;go_upto_region 7 with(fail)
    clear h1;have d:=m.out;have hl3:=wq d.fourth.gZ a.out.mem z.out (Below.refl _ _);have hl4:=wq d.fourth.gZ a.out.mem z.out (Below.refl _ _).drew;have s1:x.cell? ⟨p,1,ah⟩=ae (.map (ae tb)):=d.swap.blk.cell 1;have s3:x.cell? ⟨S,1,ah⟩=ae (.int .i64 (i:Int)):=d.blk.cell 1;have R:=(bz.1 a.out.at_).1;have I:=af (W9 (In.wB (X:=a8 S 132 (ints [K,(i:Int)])::a8 p 108 #[.pointer (ae ⟨sp,0,ah⟩),.map (ae tb),.map (ae pb)]::b8 sp Y::PtrMap tb (T.ks.map λK=>(K,T.pt K))::bB pb T.ps::a8 j 43 (ints [s,g])::l) d.drew a.out.mem) i R (by have:=a.out.len;omega) k (V3 q HTB.out) q n HN.out);have HSB:Hid (setB ((T.rw K)[i]'R) k n=⟨(s,g),sI (cZ f s) k n⟩):=by have h0:=a.out.at_;rw[aq R]at h0;injection h0 with h0;unfold Hid setB sI;rw[h0,W.out,Nt K.toNat k (by have:=z.out;omega) q HTB.out,Uy.out]
    rw[HSB.out]at I;have Yc:=af (HT.out.WO a.out.mem a.out.at_ (zg a.out.ok.1 a.out.ok.2 q HN.out));clear d HSB R
    go_still_tail 11,(by kernel_rfl)
    change wpList _ _ _ _ _ x.drew;clear hl3 hl4 s1 s2 s3 m;generalize x.drew=w4 at *;go_wp2_with fail;refine I.out.mono ?_;rintro e w5 ⟨rfl,J⟩;have t:In G Z (a8 S 132 (ints [K,(i:Int)])::a8 p 108 #[.pointer (ae ⟨sp,0,ah⟩),.map (ae tb),.map (ae pb)]::b8 sp Y::PtrMap tb (T.ks.map λK=>(K,T.pt K))::bB pb T.ps::a8 j 43 (ints [s,g])::(l++T.ks.map (dg ⟨T.ks,T.pt,fV T.rw K ((T.rw K).set i ⟨(s,g),sI (cZ f s) k n⟩),T.ps⟩))) w5:=In.MP (X:=a8 S 132 (ints [K,(i:Int)])::a8 p 108 #[.pointer (ae ⟨sp,0,ah⟩),.map (ae tb),.map (ae pb)]::b8 sp Y::PtrMap tb (T.ks.map λK=>(K,T.pt K))::bB pb T.ps::a8 j 43 (ints [s,g])::l) HT.out.nd a.out.mem J;have M:=af (In.fU (l:=a8 j 43 (ints [s,g])::l) Yc.out t.drop);clear J t I;go_wp2_with fail;go_ret;rw[N.out];exact⟨rfl,M.out.swap.drop⟩
   |false=>
    rw[B]at c;have h1:(bits BinOp.and IntKind.i64 (K / 2^k) 1==1)=au:=by rw[c];rfl
    have HTB:=af B;clear c B;go_upto_region 8 with(fail)
    clear h1 s2;have yK:=In.fU (l:=a8 S 132 (ints [K,(i:Int)])::a8 j 43 (ints [s,g])::l) HT.out (m.out.reorder 6 [1,2,3,4,0,5] rfl (by simp));have s4:row? x j 0 2=ae (ints [s,g]):=yK.third.blk.bw rfl;have E:=af (Fw yK s g (cZ f s) (HK.out.get F.out));have QN:(cZ f s).list.length=9:=by unfold aN.list;rw[ay,a.out.ok.2]
    clear yK m;go_wp2_with fail;refine E.out.mono ?_;rintro e w4 ⟨rfl,J⟩;have y3:=af J;clear J E;go_upto_region 9 with(fail)
    refine b9 (In G Z (a8 w4.heap.size 48 (ints (cZ f s).list)::dI p Y (dL f s ah)::a8 S 132 (ints [K,(i:Int)])::a8 j 43 (ints [s,g])::l)) (y3.out.struct 48 [0,0,0,0,0,0,0,0,0] _ QN) ?_;generalize w4.heap.size=bb;intro w5 t;have Sq:(cZ f s).list=K::(cZ f s).v:=by unfold aN.list;rw[W.out]
    have q1:w5.cell? ⟨bb,0,ah⟩=ae (.int .i64 K):=by rw[t.blk.cell 0,Sq];rfl
    have q2:w5.frozen? ⟨bb,0,ah⟩=au:=t.blk.frozen 0;have SA:=Zw K.toNat k (by have:=z.out;omega) q;rw[Uy.out]at SA;have O:=t.set 0 (.int .i64 ((K.toNat ||| 2^k:Nat):Int));rw[ints_set]at O;have V:(cZ f s).list.set 0 ((K.toNat ||| 2^k:Nat):Int)=((K.toNat ||| 2^k:Nat):Int)::(cZ f s).v:=by rw[Sq];rfl
    rw[V]at O;have M:=af O;have HBP:Hid ((sI (cZ f s) k n).list=((K.toNat ||| 2^k:Nat):Int)::(cZ f s).v.set k n):=by unfold Hid sI aN.list;rw[W.out]
    clear t O V Sq y3
    go_region
    go_upto_region 10 with(fail)
    refine b9 (In G Z (a8 bb 48 (ints (((K.toNat ||| 2^k:Nat):Int)::(cZ f s).v))::dI p Y (dL f s ah)::a8 S 132 (ints [K,(i:Int)])::a8 j 43 (ints [s,g])::l)) M.out.drew ?_;clear q1 q2 SA M s4;intro w6 P;have q3:w6.frozen? ⟨bb,1+k,ah⟩=au:=P.blk.frozen (1+k);have q4:w6.cell? ⟨bb,1+k,ah⟩=ae (.int .i64 ((cZ f s).v.getD k 0)):=by
     have hk9:1+k<(((K.toNat ||| 2^k:Nat):Int)::(cZ f s).v).length:=by rw[ay,a.out.ok.2];omega
     rw[P.blk.cell (1+k),ints_at hk9];simp[du 1 k,bq,a.out.ok.2,q]
    have hI9:=P.set (1+k) (.int .i64 n);rw[ints_set,du 1 k,List.set_cons_succ,<-HBP.out,du k 1]at hI9;have QO:(sI (cZ f s) k n).list.length=9:=by rw[HBP.out,ay,eu,a.out.ok.2]
    have y4:=af hI9;clear P hI9;have hk1:(0:Int)<=(k:Int):=by omega
    go_upto_region 11 with(fail)
    refine b9 (In G Z (a8 bb 48 (ints (sI (cZ f s) k n).list)::dI p Y (dL f s ah)::a8 S 132 (ints [K,(i:Int)])::a8 j 43 (ints [s,g])::l)) y4.out ?_;clear q3 q4 y4;intro w7 v;have q5:row? w7 bb 0 9=ae (ints (sI (cZ f s) k n).list):=v.blk.bw QO;have q6:row? w7 j 0 2=ae (ints [s,g]):=v.fourth.blk.bw rfl;have Y9:=zg a.out.ok.1 a.out.ok.2 q HN.out;have D:=af (Lg v.swap s g (sI (cZ f s) k n) (by unfold dL;rw[if_pos rfl]) ⟨Y9.1,Y9.2,a.out.slot⟩);rw[EM]at D;clear v Y9;go_wp2_with fail;refine D.out.mono ?_;rintro e w8 ⟨rfl,U⟩;have Q7:=af U;clear U D q5 q6;go_wp2_with fail;go_ret;rw[N.out];exact⟨rfl,Q7.out.swap.drop.swap.drop.swap.drop⟩
end
def Ni{k:Int}(h:0<=k/\k<=255):m8 k=k.toNat:=by unfold m8;omega
def LJ{z:ZS}(e:jT z){x:Hd}{a now:aN}(c:z.f x.1=ae (x.2,a))(f:bT now=0){k:Nat}(d:k<(kinds a.k.toNat).length):rq z.ls (dL z.f x.1 (ae (x.2,eY a now k))) x ((kinds a.k.toNat)[k]:Nat) (now.v.getD (kinds a.k.toNat)[k] 0)=(dL z.f x.1 (ae (x.2,eY a now (k+1))),0):=by
 have g:eh z.ls x.1 x.2=ar:=(e.w.lv _ _).2 ⟨a,c⟩;have hm:=(jg a.k.toNat _).1 (aR d);have h:=((mh now f).2 _ hm.1).2;unfold rq;rw[if_neg (by rw[g];simp),if_neg (by omega)];have b:cZ (dL z.f x.1 (ae (x.2,eY a now k))) x.1=eY a now k:=by unfold cZ dL;rw[if_pos rfl];rfl
 rw[b,dT,Ar (e.w.bo _ _ _ c).1 d,Mm]
def S0{z:ZS}(i:jT z){x:Hd}{a now:aN}(g:z.f x.1=ae (x.2,a))(f:bT now=0):∀k,k<=(kinds a.k.toNat).length->bT (eY a now k)=0/\(eY a now k).v.length=8:=by
 obtain⟨b,e⟩:=i.w.bo _ _ _ g;intro k
 induction k with|zero=>intro _;exact⟨b,e⟩|succ k j=>intro l;obtain⟨c,d⟩:=j (by omega);have hm:=(jg a.k.toNat _).1 (aR (show k<(kinds a.k.toNat).length by omega));have h:=((mh now f).2 _ hm.1).2;rw[<-Ar b (show k<(kinds a.k.toNat).length by omega)];exact zg c d hm.1 h
def Pq{z:ZS}(b:jT z){x:Hd}{a now:aN}(c:z.f x.1=ae (x.2,a))(d:bT now=0){k:Nat}(e:k<=(kinds a.k.toNat).length):nl z.ls (dL z.f x.1 (ae (x.2,eY a now k))):=b.w.upd ((b.w.lv _ _).2 ⟨a,c⟩) (S0 b c d k e)
section
variable{G:Nat->Prop} {Z w:ai} {l:List bU} {p:Nat} {z:ZS}
def NH(h:In G Z (cA p z::l) w)(N:jT z)(b c:Int)(a now:aN)(L:z.f b=ae (c,a))(hn:now.k=a.k)(u:bT now=0)(hv:now.v.length=8)(n:∀j,j∉kinds a.k.toNat->now.v.getD j 0=a.v.getD j 0):Calls aj 38 #[ptr p,.agg #[.int .i64 b,.int .i64 c],.agg (ints a.list),.agg (ints now.list)] w λe w'=>e=.returned (.tuple #[])/\In G Z (cA p ⟨z.ls,dL z.f b (ae (c,now)),z.B⟩::l) w':=by
 obtain⟨hwe,r⟩:=N.w.bo _ _ _ L;have hwk:=(mh a hwe).1;have U:Hid (eE (m8 now.k)=eE a.k.toNat):=by unfold Hid;rw[hn,Ni hwk]
 have O:=af (Lu r hn hv n);have V:Hid (∀k,(g:k<(kinds a.k.toNat).length)->rq z.ls (dL z.f b (ae (c,eY a now k))) (b,c) ((kinds a.k.toNat)[k]:Nat) (now.v.getD (kinds a.k.toNat)[k] 0)=(dL z.f b (ae (c,eY a now (k+1))),0)):=λk g=>LJ (x:=(b,c)) N L u g
 have H:Hid (∀k,(g:k<(kinds a.k.toNat).length)->now.v.getD (kinds a.k.toNat)[k] 0=a.v.getD (kinds a.k.toNat)[k] 0->eY a now (k+1)=eY a now k):=λk g K=>IU r g K
 have Y:Hid (∀k,k<=(kinds a.k.toNat).length->nl z.ls (dL z.f b (ae (c,eY a now k)))):=λk g=>Pq (x:=(b,c)) N L u g
 have P:Hid (In G Z (cA p ⟨z.ls,dL z.f b (ae (c,eY a now 0)),z.B⟩::l) w):=by have e:dL z.f b (ae (c,eY a now 0))=z.f:=Qp _ _ (by rw[L];rfl);rw[e];exact h
 have QN:a.list.length=9:=by simp[aN.list,r]
 have hnl:now.list.length=9:=by simp[aN.list,hv]
 have HV:=af hv;have X:=af r;clear h N L hn u hv n hwe r hwk;generalize hkn:now.k=nk at *;go_enter func38,ntmps38;go_upto_region 1 with(fail)
 refine b9 (In G Z (a8 (w.heap.size+1+1) 48 (ints now.list)::a8 (w.heap.size+1) 48 (ints a.list)::a8 w.heap.size 43 (ints [b,c])::cA p ⟨z.ls,dL z.f b (ae (c,eY a now 0)),z.B⟩::l)) (by have:=((P.out.alloc 43 (ints [b,c])).alloc 48 (ints a.list)).alloc 48 (ints now.list);simp only[cR]at this;exact this) ?_
 generalize w.heap.size+1+1=C;generalize w.heap.size+1=wb;generalize w.heap.size=u;intro w1 I;have c1:w1.cell? ⟨C,0,ah⟩=ae (.int .i64 nk):=by rw[<-hkn];exact I.blk.cell 0
 have Q:=af I;clear I P hkn;go_wp2_with fail;refine(tj nk w1).mono ?_;rintro e w2 ⟨v,rfl,ho,uE⟩;rw[U.out]at ho;have s:=af (In.uf Q.out ho uE);obtain⟨A2,c2,rfl,XN⟩:=s.out.ku;have f:(eE a.k.toNat).length=(kinds a.k.toNat).length:=by simp[eE]
 rw[f]at XN s|-;have d:=af (s.out.to5.perm (oI _));have XM:=oF a.k.toNat;clear ho uE XN s Q c1 f U;generalize a.k.toNat=M at *;have R:Hid (In G Z (cA p ⟨z.ls,dL z.f b (ae (c,eY a now 0)),z.B⟩::cI (.slice A2 (kinds M).length c2) (eE M)::a8 C 48 (ints now.list)::a8 wb 48 (ints a.list)::a8 u 43 (ints [b,c])::l) w2):=d.out.reorder 5 [3,4,0,1,2] rfl (by simp);clear d;go_wp2_with fail;go_loopw [14] (λi w'=>∃k:Nat,k<=(kinds M).length/\i=.int .i64 k/\In G Z (cA p ⟨z.ls,dL z.f b (ae (c,eY a now k)),z.B⟩::cI (.slice A2 (kinds M).length c2) (eE M)::a8 C 48 (ints now.list)::a8 wb 48 (ints a.list)::a8 u 43 (ints [b,c])::l) w') (λi _=>(kinds M).length-(intOf i).toNat)
 case atStart=>exact⟨0,bF _,rfl,R.out⟩
 case round=>
  clear R;obtain⟨k,N,rfl,D⟩:=hrel;by_cases B:k<(kinds M).length
  ·have K1:(k:Int)<(kinds M).length:=by omega
   obtain⟨A',c',e0,hr⟩:=D.swap.ku;have f:(eE M).length=(kinds M).length:=by simp[eE]
   rw[f]at e0 hr;injection e0 with e1 e2 e3;subst e1;subst e3;obtain⟨bl,o,q,rfl,hc,VH,XH,A,Zc⟩:=tf hr B;have hq:(kinds M)[k]=q:=by rw[VH.out];simp[bm,B]
   have HP:=af (V.out k B);have HS:=af (H.out k B);have HWK:=af (Y.out k N);rw[hq]at HP HS;have y:wr.cell? ⟨C,1+q,ah⟩=ae (.int .i64 (now.v.getD q 0)):=by rw[(D.third.blk).cell,kg,du];simp only[aN.list,eO];rw[aq (by rw[HV.out];exact A)];simp[bm,aq (show q<now.v.length by rw[HV.out];exact A)]
   have hcw:wr.cell? ⟨wb,1+q,ah⟩=ae (.int .i64 (a.v.getD q 0)):=by rw[(D.fourth.blk).cell,kg,du];simp only[aN.list,eO];rw[aq (by rw[X.out];exact A)];simp[bm,aq (show q<a.v.length by rw[X.out];exact A)]
   have hqi:(q:Int)<8:=by omega
   have F:=af D;clear D hr e2 VH XH Zc hq f;generalize hnv:now.v.getD q 0=nv at *;generalize hwv:a.v.getD q 0=wv at *;clear hnv hwv;have E:Hid (∀W,In G Z (cA p ⟨z.ls,dL z.f b (ae (c,eY a now k)),z.B⟩::cI (.slice (ae ⟨bl,o,ah⟩) (kinds M).length c2) (eE M)::a8 C 48 (ints now.list)::a8 wb 48 (ints a.list)::a8 u 43 (ints [b,c])::l) W->W.cell? ⟨C,1+q,ah⟩=ae (.int .i64 nv)):=λW hW=>by
    have h1:wr.cell? ⟨C,1+q,ah⟩=W.cell? ⟨C,1+q,ah⟩:=by rw[F.out.third.blk.cell,hW.third.blk.cell]
    rw[<-h1];exact y
   by_cases K:nv=wv
   ·have zd:(nv !=wv)=au:=by simp[K]
    have HE:=af (HS.out K);clear HS HP K E;rw[<-HE.out]at F;go_wp2_with fail
    go_quiet (fail)
    go_wp2_with fail;have d:=F.out.below (w':=wr.drewN nq) ⟨rfl,rfl,rfl,av _,λ_ _=>rfl⟩;go_roundw
    case rel=>exact⟨k+1,by omega,by go_num,d⟩
    simp[intOf];omega
   have zd:(nv !=wv)=ar:=by simp[K]
   clear HS K;go_wp2_with fail
   go_quiet (fail)
   have d:=af (F.out.below (w':=wr.drewN nq) ⟨rfl,rfl,rfl,av _,λ_ _=>rfl⟩);clear y hcw hc F;generalize wr.drewN nq=w4 at *;have y:=E.out _ d.out;obtain⟨wp,fp,m,hm,L,ha,t⟩:=d.out.jC;have c0:w4.cell? ⟨p,0,ah⟩=ae (ptr wp):=t.blk.cell 0;have qh:row? w4 u 0 2=ae (ints [b,c]):=(t.nth 6 (by simp)).blk.ei 0 2 (by simp);have HM:=af hm;have S:=af t.swap;clear hm L ha t d E;go_upto_region 5 with(fail)
   go_still_tail 10,(by kernel_rfl)
   change wpList _ _ _ _ _ w4.drew;have T:=af S.out.drew;clear S c0 qh y;generalize w4.drew=w5 at *;go_wp2_with fail;refine(LK T.out HWK.out b c q nv).mono ?_;rintro e w6 ⟨rfl,J⟩;rw[HP.out]at J|-;have y4:Hid (In G Z (cA p ⟨z.ls,dL z.f b (ae (c,eY a now (k+1))),z.B⟩::cI (.slice (ae ⟨bl,o,ah⟩) (kinds M).length c2) (eE M)::a8 C 48 (ints now.list)::a8 wb 48 (ints a.list)::a8 u 43 (ints [b,c])::l) w6):=In.lK (z:=⟨z.ls,dL z.f b (ae (c,eY a now (k+1))),z.B⟩) HM.out J.swap;clear J T HP;go_wp2_with fail;go_roundw
   case rel=>exact⟨k+1,by omega,by go_num,y4.out⟩
   simp[intOf];omega
  have:k=(kinds M).length:=by omega
  subst this;rw[O.out]at D;have F:=af (D.reorder 5 [1,2,3,4,0] rfl (by simp)).drop.drop.drop.drop;clear D;go_wp2_with fail
  go_end0
  exact⟨rfl,F.out⟩
end
section
variable{G:Nat->Prop} {Z w:ai} {l:List bU} {p:Nat} {Y:List (Int×Bool)} {f:BF}
def MX(h:In G Z (dI p Y f::l) w)(hk:nl Y f)(s g a:Int):Calls aj 67 #[.pointer (ae ⟨p,0,ah⟩),.agg #[.int .i64 s,.int .i64 g],.int .i64 a] w λe w'=>e=.returned (.int .i64 (oX Y f (s,g) a).2)/\In G Z (dI p Y (oX Y f (s,g) a).1::l) w':=by
 have GX:=af h;have HK:=af hk;clear h hk;go_enter func67,ntmps67;go_upto_region 1 with(fail)
 refine b9 (In G Z (dI p Y f::a8 w.heap.size 43 (ints [s,g])::l)) (GX.out.alloc 43 (ints [s,g])).swap ?_;generalize w.heap.size=o;intro w1 O;obtain⟨sp,tb,pb,T,hT,hI⟩:=O.kl;obtain⟨F1,hS⟩:=hI.swap.head;have c0:∀n:After w1,n.w.cell? ⟨p,0,ah⟩=ae (.pointer (ae ⟨sp,0,ah⟩)):=λn=>(hI.blk.after n.below).cell 0
 have c1:∀n:After w1,row? n.w o 0 2=ae (ints [s,g]):=λn=>(O.swap.blk.after n.below).bw rfl
 have HL:Hid (∀n:After w1,Calls aj 72 #[.pointer (ae ⟨sp,0,ah⟩),.agg (ints [s,g])] n.w λe w'=>e=.returned (.bool (eh Y s g))/\Below n.w.heap.size n.w w'):=λn=>o4 sp Y F1 s g n.w (iL.after hS n.below)
 have HT:=af hT;have HI:=af hI;clear O hI hS hT GX;cases r:eh Y s g with
 |false=>
  have A:Hid (oX Y f (s,g) a=(f,7)):=by unfold Hid oX;rw[if_pos (by simp[r])]
  rw[r]at HL;clear r;refine bV (by kernel_rfl) (by kernel_rfl) ?_;repeat(go_big_quiet_step ((go_at_call 72;exact fH (HL.out _))))
  refine wpQuiet_nil ?_;rintro _ ⟨na,rfl⟩;have c:=af (In.fU (l:=a8 o 43 (ints [s,g])::l) HT.out (HI.out.below na.below));go_wp2_with fail;go_ret;rw[A.out];exact⟨rfl,c.out.swap.drop⟩
 |true=>
  have z:=af r;rw[r]at HL;clear r;refine bV (by kernel_rfl) (by kernel_rfl) ?_;repeat(go_big_quiet_step ((go_at_call 72;exact fH (HL.out _))))
  refine wpQuiet_nil ?_;rintro _ ⟨na,rfl⟩;have j:In G Z (a8 p 108 #[.pointer (ae ⟨sp,0,ah⟩),.map (ae tb),.map (ae pb)]::b8 sp Y::PtrMap tb (T.ks.map λK=>(K,T.pt K))::bB pb T.ps::a8 o 43 (ints [s,g])::(l++T.ks.map (dg T))) na.w:=HI.out.below na.below;have c:=af j;generalize na.w=w2 at *;clear c0 c1 HL HI j;by_cases q:0<=a/\a<8;rotate_left
  ·have A:Hid (oX Y f (s,g) a=(f,1)):=by unfold Hid oX;rw[if_neg (by simp[z.out]),if_pos q]
   have y:=af (D6 a q w2);clear q;have L:=af (In.fU (l:=a8 o 43 (ints [s,g])::l) HT.out c.out);go_wp2_with fail;refine y.out.mono ?_;rintro e w3 ⟨rfl,rfl⟩;go_wp2_with fail;go_ret;rw[A.out];exact⟨rfl,L.out.swap.drop⟩
  have y:=af (Aj a q w2);obtain⟨k,rfl⟩:∃k:Nat,a=k:=⟨a.toNat,by omega⟩;have F:k<8:=by omega
  have A:Hid (oX Y f (s,g) (k:Int)=if(cZ f s).k.toNat.testBit k=au then(f,5)else(dL f s (ae (g,qN (cZ f s) k)),0)):=by unfold Hid oX;rw[if_neg (by simp[z.out]),if_neg (λh=>h q),dT]
  obtain⟨K,i,E⟩:=HT.out.aa' HK.out z.out;obtain⟨XA,hKb⟩:=wU (In.wB (X:=a8 p 108 #[.pointer (ae ⟨sp,0,ah⟩),.map (ae tb),.map (ae pb)]::b8 sp Y::PtrMap tb (T.ks.map λK=>(K,T.pt K))::bB pb T.ps::a8 o 43 (ints [s,g])::l) c.out E.mem);have x:Hid ((cZ f s).k=K):=hKb _ (jw E.at_);rw[x.out]at A;have d:=af E;have M:=af XA;have hkI:(k:Int)<8:=by omega
  go_wp2_with fail;refine y.out.mono ?_;rintro e w3 ⟨rfl,rfl⟩;go_upto_region 5 with(fail)
  clear E XA hKb q y;have j:=c.out;have I:=j.fourth.gZ;have c0:∀n:After w2,n.w.cell? ⟨p,2,ah⟩=ae (.map (ae pb)):=λn=>(j.blk.after n.below).cell 2
  have c1:∀n:After w2,n.w.cell? ⟨o,0,ah⟩=ae (.int .i64 s):=λn=>(j.fifth.blk.after n.below).cell 0
  have UH:∀n:After w2,(kE 106 (.map (ae pb)) (.int .i64 s) au).run aj n.w=.ok (.agg #[.int .i64 K,.int .i64 (i:Int)]) n.w:=λn=>o8 I d.out.slot d.out.place n.below
  have hfd:∀W,(Instr.field 132 (.agg #[.int .i64 K,.int .i64 (i:Int)]) 0).run aj W=.ok (.int .i64 K) W:=λW=>by kernel_rfl
  have R:((K.toNat:Nat):Int)=K:=by have:=M.out;omega
  have b:=E3 K.toNat k (by have:=M.out;omega) F;rw[R]at b;have Uy:=af R;clear R j I;cases v:K.toNat.testBit k with
  |false=>
   rw[v]at b A;have h1:(bits BinOp.and IntKind.i64 (K / 2^k) 1==0)=ar:=by rw[b];rfl
   clear b v;refine bV (by kernel_rfl) (by kernel_rfl) ?_;repeat(go_big_quiet_step (fail))
   refine wpQuiet_nil ?_;rintro _ ⟨nb,rfl⟩;have L:=af (In.fU (l:=a8 o 43 (ints [s,g])::l) HT.out (c.out.below nb.below));clear c0 c1 UH c;go_wp2_with fail;go_ret;rw[A.out];exact⟨rfl,L.out.swap.drop⟩
  |true=>
   rw[v]at b A;have h1:(bits BinOp.and IntKind.i64 (K / 2^k) 1==0)=au:=by rw[b];rfl
   have HTB:=af v;clear b v;refine bV (by kernel_rfl) (by kernel_rfl) ?_;repeat(go_big_quiet_step (fail))
   refine wpQuiet_nil ?_;rintro _ ⟨nb,rfl⟩;have P:=In.fU (l:=a8 o 43 (ints [s,g])::l) HT.out (c.out.below nb.below);generalize nb.w=w3 at *;clear c0 c1 UH c h1;have s4:row? w3 o 0 2=ae (ints [s,g]):=P.swap.blk.bw rfl;have u:=af (Fw P s g (cZ f s) (HK.out.get z.out));have QN:(cZ f s).list.length=9:=by unfold aN.list;rw[ay,d.out.ok.2]
   clear P;go_wp2_with fail;refine u.out.mono ?_;rintro e w4 ⟨rfl,Sm⟩;have y3:=af Sm;clear Sm u;go_upto_region 8 with(fail)
   refine b9 (In G Z (a8 w4.heap.size 48 (ints (cZ f s).list)::dI p Y (dL f s ah)::a8 o 43 (ints [s,g])::l)) (y3.out.struct 48 [0,0,0,0,0,0,0,0,0] _ QN) ?_;generalize w4.heap.size=N;intro w5 B;have S:(cZ f s).list=K::(cZ f s).v:=by unfold aN.list;rw[x.out]
   have q1:w5.cell? ⟨N,0,ah⟩=ae (.int .i64 K):=by rw[B.blk.cell 0,S];rfl
   have q2:w5.frozen? ⟨N,0,ah⟩=au:=B.blk.frozen 0;have SA:=Kv K.toNat k (by have:=M.out;omega) F HTB.out;rw[Uy.out]at SA;have C:=B.set 0 (.int .i64 ((K.toNat-2^k:Nat):Int));rw[ints_set]at C;have V:Hid ((qN (cZ f s) k).list=((K.toNat-2^k:Nat):Int)::(cZ f s).v.set k 0):=by unfold Hid qN aN.list;rw[x.out]
   generalize ((K.toNat-2^k:Nat):Int)=KN at *;have J:(cZ f s).list.set 0 KN=KN::(cZ f s).v:=by rw[S];rfl
   rw[J]at C;have EX:=af C;clear B C J S y3
   go_region
   go_upto_region 9 with(fail)
   refine b9 (In G Z (a8 N 48 (ints (KN::(cZ f s).v))::dI p Y (dL f s ah)::a8 o 43 (ints [s,g])::l)) EX.out.drew ?_;clear q1 q2 SA EX s4;intro w6 D;have q3:w6.frozen? ⟨N,1+k,ah⟩=au:=D.blk.frozen (1+k);have q4:w6.cell? ⟨N,1+k,ah⟩=ae (.int .i64 ((cZ f s).v.getD k 0)):=by
    have hk9:1+k<(KN::(cZ f s).v).length:=by rw[ay,d.out.ok.2];omega
    rw[D.blk.cell (1+k),ints_at hk9];simp[du 1 k,bq,d.out.ok.2,F]
   have Q:=D.set (1+k) (.int .i64 0);rw[ints_set,du 1 k,List.set_cons_succ,<-V.out,du k 1]at Q;have QO:(qN (cZ f s) k).list.length=9:=by rw[V.out,ay,eu,d.out.ok.2]
   have y4:=af Q;clear D Q;have hk1:(0:Int)<=(k:Int):=by omega
   go_upto_region 10 with(fail)
   refine b9 (In G Z (a8 N 48 (ints (qN (cZ f s) k).list)::dI p Y (dL f s ah)::a8 o 43 (ints [s,g])::l)) y4.out ?_;clear q3 q4 y4;intro w7 m;have q5:row? w7 N 0 9=ae (ints (qN (cZ f s) k).list):=m.blk.bw QO;have q6:row? w7 o 0 2=ae (ints [s,g]):=m.third.blk.bw rfl;have U:=Hz d.out.ok.1 d.out.ok.2 F (by rw[x.out];exact HTB.out);have t:=af (Lg m.swap s g (qN (cZ f s) k) (by unfold dL;rw[if_pos rfl]) ⟨U.1,U.2,d.out.slot⟩);rw[EM]at t;clear m U;go_wp2_with fail;refine t.out.mono ?_;rintro e w8 ⟨rfl,H⟩;have Q7:=af H;clear H t q5 q6;go_wp2_with fail;go_ret;rw[A.out];exact⟨rfl,Q7.out.swap.drop.swap.drop⟩
end
end
end Go.Proofs.YtknejlcijdngoaaGreat
