/- Several texts in one, made short by a program of mine. -/
import Derived.Test.YtknejlcijdngoaaGreatTQ5
import Derived.Sort.Grow
import Derived.Shelf.SlMaps.Clone
import Derived.Conc.TokenWalk
import Derived.Deep.AppendLies
set_option linter.defProp false
set_option linter.unusedVariables false
set_option linter.unusedSimpArgs false
set_option linter.unusedSectionVars false
set_option maxHeartbeats 16000000
set_option maxRecDepth 100000
open Array renaming getD_eq_getD_getElem?→bH,getElem?_eq_some_iff→aI,getElem?_modify→bq,getElem?_setIfInBounds_ne→aK,getElem?_setIfInBounds_self_of_lt→aU,replicate→eG,replicate_succ→dD,replicate_zero→dE
open Bool renaming and_eq_true→aG,eq_iff_iff→l8,not_eq_true'→iT,or_eq_true→gi,false→ay,true→aw
open Go renaming Frame→bp,FuncId→bK,Goroutine→au,Operand→cG,Program→aS,TypeId→aA,Value→ao,World→ah
open Go.Act renaming eval→bX
open Go.Deferred renaming ofValue→ic
open Go.Extern.MapsClone renaming clone→qJ
open Go.Frame renaming finish_at→nL
open Go.Instr renaming loadAt→eh,lookup→j9,storeAt→eZ
open Go.Lib renaming hid→af
open Go.MemAct renaming ofEvent→cX,touch?→sU
open Go.Proofs.Tryz renaming prog→aj
open Go.Region renaming wanted→bu
open Go.Result renaming andThen→dQ,andThen_ok→ij
open Go.Sem renaming run_bind→eH
open Go.Value renaming cells→iQ,int→aF,oneCell'→kT,ownBlock→fx
open Go.World renaming block_lt_of_cell?→rX,cell?→c8,cell?_of_block→da,ownsRow_nil→oh,setCell→dJ,setChan→qj,size_alloc→dw
open Int renaming toNat_natCast→fw
open List renaming any_eq_true→qc,append_assoc→cx,append_nil→ew,append_toArray→dT,cons_append→dF,drop_succ_cons→mZ,eq_nil_of_length_eq_zero→ft,ext_getElem?→mf,filter_cons→qg,find?_cons→oj,flatMap_append→dG,flatMap_cons→bN,foldl_append→j5,foldl_cons→l9,getD→bB,getD_eq_getElem?_getD→aY,getElem?_cons_succ→e8,getElem?_eq_getElem→aq,getElem?_eq_none→jz,getElem?_eq_some_iff→bz,getElem?_map→dN,getElem?_set→fh,getElem?_take→ie,getElem_mem→bg,length_append→aZ,length_cons→aD,length_filter_le→jA,length_map→aL,length_nil→aP,length_set→de,map_append→ey,map_congr_left→dx,map_cons→eN,mem_append→jh,mem_cons→cj,mem_cons_of_mem→mg,mem_filter→cm,mem_iff_getElem→dK,mem_map→aH,mem_of_getElem?→pM,mem_of_mem_take→pN,mem_range→ng,mem_singleton→eO,mem_toArray→qi,mergeSort_perm→gG,nil_append→cy,not_mem_nil→jH,pairwise_iff_getElem→lO,push_toArray→ez,range→bP,range'→gg,size_toArray→aV,take_length→dm,take_of_length_le→ck,take_succ_eq_append_getElem→bh
open List.Perm renaming append_left→dy,refl→qK,swap→cJ,trans→pK
open List.range renaming loop→cu
open Nat renaming add_comm→dA,add_zero→lC,le_refl→ax,le_trans→bM,lt_of_lt_of_le→cc,strongRecOn→mQ,zero_add→bS,zero_le→cE
open Option renaming getD_some→bT,map_eq_some_iff→aJ,map_some→fS,none→ai,some→ae
open Option.some renaming injEq→dS
open Or renaming inl→bm,inr→bO
namespace Go.Proofs.YtknejlcijdngoaaGreat
section
open Go.RowKit
def sH (x y:Int):Int:=if x<y then-1 else if y<x then 1 else 0
def Mx (a b:Hd):Int:=if sH a.1 b.1=0 then sH a.2 b.2 else sH a.1 b.1
def tj (x y:Int):sH x y<0↔x<y:=by
 unfold sH
 split
 ·simp_all
 ·split<;>simp_all
def Iq (x y:Int):sH x y=0↔x=y:=by
 unfold sH
 split
 ·simp;omega
 ·split
  ·simp;omega
  ·simp;omega
def vX (a b:Hd):decide (Mx a b<0)=Uh a b:=by
 unfold Mx Uh;rw[l8];simp only[decide_eq_true_eq,gi,aG]
 split
 ·rename_i h
  have:=(Iq _ _).1 h;rw[tj];omega
 ·rename_i h
  rw[tj];have:a.1≠b.1:=λe=>h ((Iq _ _).2 e)
  omega
def I4 (x:Int)(w:ah):Calls aj 151 #[.int .i64 x] w λe w'=>e=.returned (.bool ay)/\w=w':=by
 go_enter Tryz.func151,Tryz.ntmps151
 go_wp2_with fail
 go_ret;exact⟨eu (by simp),rfl⟩
def yt (x y:Int)(w:ah):Calls aj 99 #[.int .i64 x,.int .i64 y] w λe w'=>e=.returned (.int .i64 (sH x y))/\w=w':=by
 have HX:Hid (x<y->sH x y= -1):=λh=>by unfold sH;rw[if_pos h]
 have HY:Hid (¬x<y->y<x->sH x y=1):=λh h'=>by unfold sH;rw[if_neg h,if_pos h']
 have HZ:Hid (¬x<y-> ¬y<x->sH x y=0):=λh h'=>by unfold sH;rw[if_neg h,if_neg h']
 go_enter Tryz.func99,Tryz.ntmps99
 go_wp2_with fail
 refine(I4 x w).mono ?_;rintro e w' ⟨rfl,rfl⟩
 go_wp2_with fail
 refine(I4 y w).mono ?_;rintro e w' ⟨rfl,rfl⟩;by_cases h1:x<y
 ·go_wp2_with fail
  go_ret;exact⟨gd (HX.out h1).symm,rfl⟩
 ·by_cases h2:y<x
  ·go_wp2_with fail
   go_ret;exact⟨gd (HY.out h1 h2).symm,rfl⟩
  ·go_wp2_with fail
   go_ret;exact⟨gd (HZ.out h1 h2).symm,rfl⟩
def TU (b:Nat)(x y:Int)(w:ah)(h0:w.cell? ⟨b,0,ai⟩=ae (.int .i64 x))(h1:w.cell? ⟨b,1,ai⟩=ae (.int .i64 y)):Calls aj 143 #[.slice (ae ⟨b,0,ai⟩) 2 2] w λe w'=>e=.returned (.int .i64 (if x=0 then y else x))/\w=w':=by
 have HX:Hid (¬x=0->(if x=0 then y else x)=x):=λh=>by rw[if_neg h]
 have HY:Hid (x=0->(if x=0 then y else x)=y):=λh=>by rw[if_pos h]
 generalize (if x=0 then y else x)=r at *
 go_enter Tryz.func143,Tryz.ntmps143
 go_wp2_with fail
 go_loopw [8] (λi w'=> ∃k:Nat,k<=2/\i=.int .i64 k/\(0<k->x=0)/\(1<k->y=0)/\w=w') (λi _=>2-(intOf i).toNat)
 case atStart=>exact⟨0,by omega,rfl,λh=>by omega,λh=>by omega,rfl⟩
 case round=>
  obtain⟨k,hk,rfl,ha,hb,rfl⟩:=hrel;have HA:=af ha;have HB:=af hb;clear ha hb
  match k,hk with
  |0,_=>
   by_cases hx:x=0
   ·have HX0:=af hx;have hd:(x !=0)=ay:=by simp[hx]
    clear hx
    go_wp2_with fail
    go_roundw
    case rel=>exact⟨1,by omega,rfl,λ_=>HX0.out,λh=>by omega,trivial⟩
    case measure=>simp[intOf]
   ·have HX0:=af hx;have hd:(x !=0)=aw:=by simp[hx]
    clear hx
    go_wp2_with fail
    go_ret;exact⟨gd (HX.out HX0.out).symm,rfl⟩
  |1,_=>
   by_cases hx:y=0
   ·have HX0:=af hx;have hd:(y !=0)=ay:=by simp[hx]
    clear hx
    go_wp2_with fail
    go_roundw
    case rel=>exact⟨2,by omega,rfl,λ_=>HA.out (by omega),λ_=>HX0.out,trivial⟩
    case measure=>simp[intOf]
   ·have hd:(y !=0)=aw:=by simp[hx]
    clear hx
    go_wp2_with fail
    go_ret;exact⟨gd (HY.out (HA.out (by omega))).symm,rfl⟩
  |2,_=>
   go_wp2_with fail
   go_ret;exact⟨gd (by rw[HY.out (HA.out (by omega))];exact(HB.out (by omega)).symm),rfl⟩
def Cc (a b:Hd)(w:ah):Calls aj 80 #[lf a,lf b] w λe w'=>e=.returned (.int .i64 (Mx a b))/\ ∃q os,w'=Sort.grow (w.drewN q) os:=by
 obtain⟨a1,a2⟩:=a;obtain⟨b1,b2⟩:=b;have HR:Hid (Mx (a1,a2) (b1,b2)=if sH a1 b1=0 then sH a2 b2 else sH a1 b1):=rfl;rw[kX,kX]
 go_enter Tryz.func80,Tryz.ntmps80
 go_upto_region 1 with(fail)
 have c1:((w.alloc (.cells #[.int .i64 a1,.int .i64 a2] 43)).alloc (.cells #[.int .i64 b1,.int .i64 b2] 43)).cell? ⟨w.heap.size,0,ai⟩=ae (.int .i64 a1):=((dt.new w _ _).alloc _).cell 0;have c2:((w.alloc (.cells #[.int .i64 a1,.int .i64 a2] 43)).alloc (.cells #[.int .i64 b1,.int .i64 b2] 43)).cell? ⟨w.heap.size,1,ai⟩=ae (.int .i64 a2):=((dt.new w _ _).alloc _).cell 1;have c3:((w.alloc (.cells #[.int .i64 a1,.int .i64 a2] 43)).alloc (.cells #[.int .i64 b1,.int .i64 b2] 43)).cell? ⟨w.heap.size+1,0,ai⟩=ae (.int .i64 b1):=by have:=(dt.new (w.alloc (.cells #[.int .i64 a1,.int .i64 a2] 43)) 43 #[.int .i64 b1,.int .i64 b2]).cell 0;rwa[dw]at this
 have c4:((w.alloc (.cells #[.int .i64 a1,.int .i64 a2] 43)).alloc (.cells #[.int .i64 b1,.int .i64 b2] 43)).cell? ⟨w.heap.size+1,1,ai⟩=ae (.int .i64 b2):=by have:=(dt.new (w.alloc (.cells #[.int .i64 a1,.int .i64 a2] 43)) 43 #[.int .i64 b1,.int .i64 b2]).cell 1;rwa[dw]at this
 have HW:Hid (((w.alloc (.cells #[.int .i64 a1,.int .i64 a2] 43)).alloc (.cells #[.int .i64 b1,.int .i64 b2] 43))=Sort.grow w #[.cells #[.int .i64 a1,.int .i64 a2] 43,.cells #[.int .i64 b1,.int .i64 b2] 43]):=by unfold Hid;rw[Sort.alloc_eq_grow,Sort.alloc_eq_grow,Sort.grow_grow];rfl
 generalize ((w.alloc (.cells #[.int .i64 a1,.int .i64 a2] 43)).alloc (.cells #[.int .i64 b1,.int .i64 b2] 43))=w2 at *;generalize w.heap.size+1=bb at *;generalize w.heap.size=ab at *
 go_still_tail 10,(by kernel_rfl)
 still_call (OP (yt _ _ _))
 repeat still_step
 still_call (OP (yt _ _ _))
 repeat still_step
 refine wpStill_nil ?_;change wpList _ _ _ _ _ w2.drew;generalize sH a1 b1=r1 at *;generalize sH a2 b2=r2 at *;clear c1 c2 c3 c4
 go_wp2_with fail
 refine(TU _ r1 r2 _ (dt.new w2.drew 3 #[.int .i64 r1,.int .i64 r2]|>.cell 0) (dt.new w2.drew 3 #[.int .i64 r1,.int .i64 r2]|>.cell 1)).mono ?_;rintro e w' ⟨rfl,rfl⟩;generalize (if r1=0 then r2 else r1)=r at *
 go_wp2_with fail
 go_ret;exact⟨gd HR.out.symm,1,#[.cells #[.int .i64 a1,.int .i64 a2] 43,.cells #[.int .i64 b1,.int .i64 b2] 43,.cells #[.int .i64 r1,.int .i64 r2] 3],by rw[HW.out,Sort.alloc_eq_grow,Sort.grow_grow];rfl⟩
end
section
open Go.RowKit Go.ChangeShapes Go.WideShapes Go.ChangeAt Go.Deep
def Zm:Tryz.prog.bytesOf 74=128:=by kernel_rfl
def zR {H:Type}{enc:aA×ao->H}{W:ah}{r:Reach}{b0:Nat}{v:ao}{d:DataW H}{p:List MemPlace}{ts:List aA}{ds:List (DataW H)}(j:Nat)(kJ:(DataW.weightsEach aj ts ds).all (· <=reachBytes)=aw)(ht:ts[j]? =ae 22)(hd:ds[j]? =ae d)(hv:Value.okWide aj W r b0 22 v)(h:DataW.Trod enc aj W 0 (λ_=>aw) aw 22 v d p)(bJ: ∀x∈p,x.block<W.heap.size): ∃A c os,v=.slice A (List.length os) c/\os.length<=1099511627744/\vg W W.heap.size A os/\(∀o∈os,o.b.v.length=8/\ ∀x∈lD.list o,Fits x)/\os.length<=c/\c<=maxLen:=by
 obtain⟨A,n,c,rfl,hc,hn,hel,xs,hr,hf⟩:=ES 5 Tryz.underlying22 (by kernel_rfl) (by rw[NT];omega) hv h bJ;rw[NT]at hr;have hl:xs.length=n *16:=by have:=hr.1;simpa using this
 have h7:=qq hl;have hn1:n<=1099511627744:=by
  obtain⟨elems,sp,h|h⟩:=hel
  ·have:=sized_slice kJ ht (h.1▸hd) Tryz.underlying22;rw[Zm,h.2]at this;have sO:reachBytes<=140737488351232:=by decide
   generalize sp.length=q at *;omega
  ·omega
 have e:((lI 16 xs n).map acC).map lD.list=lI 16 xs n:=by
  rw[List.map_map]
  conv=>rhs;rw[<-List.map_id (lI 16 xs n)]
  exact dx λr hr=>(BK (h7 r hr)).1
 refine⟨A,c,(lI 16 xs n).map acC,by rw[aL,lS],by rw[aL,lS];omega,?_,?_,by rw[aL,lS];exact hn,hc⟩
 ·unfold vg;rw[e];exact Reads.chunks hr (by omega)
 ·intro s hs;obtain⟨r,hr,rfl⟩:=aH.1 hs;refine⟨(BK (h7 r hr)).2,λx hx=> ?_⟩;rw[(BK (h7 r hr)).1]at hx;exact hf x (Cd r hr x hx)
end
section
open Go.RowKit
def aaK (w:ah)(K:Int)(e:Ending)(w':ah):Prop:=Below w.heap.size w w'/\if 0<=K/\K<=255 then∃p,e=.returned (.tuple #[wJ p,.int .i64 0])/\(oo p K []).at_ w' (λk=>w.heap.size<=k)else e=.returned (.tuple #[.pointer ai,.int .i64 1])
def UR {α:Type}(M C I B:α)(L:List α):(M::C::I::B::L).Perm ([I,B,M]++(L++[C])):=by
 have h1:(C::I::B::L).Perm (I::B::(L++[C])):=(cJ _ _ _).trans (((cJ _ _ _).trans (((List.perm_append_singleton C L).symm).cons B)).cons I)
 have h2:(M::I::B::(L++[C])).Perm (I::B::M::(L++[C])):=(cJ _ _ _).trans ((cJ _ _ _).cons I);exact(h1.cons M).trans h2
def aah (K:Int)(w:ah):Calls aj 174 #[.int .i64 K] w (aaK w K):=by
 by_cases h0:0<=K
 rotate_left
 ·have hn:K<0:=by omega
  have hb:decide (K<0)=aw:=by simpa using hn
  have HE:Hid (¬(0<=K/\K<=255)):=by unfold Hid;omega
  clear h0
  go_enter Tryz.func174,Tryz.ntmps174
  go_wp2_with fail
  go_ret2
  exact⟨Below.refl _ _,by rw[if_neg HE.out];rfl⟩
 have hb:decide (K<0)=ay:=by simpa using h0
 by_cases h1:K<=255
 rotate_left
 ·have hn:255<K:=by omega
  have HE:Hid (¬(0<=K/\K<=255)):=by unfold Hid;omega
  clear h1
  go_enter Tryz.func174,Tryz.ntmps174
  go_wp2_with fail
  go_ret2
  exact⟨Below.refl _ _,by rw[if_neg HE.out];rfl⟩
 have gF:decide (255<K)=ay:=by simpa using h1
 have h1':=h1;have hm8:Hid (eQ (m8 K)=(jO K).map λk:Nat=>(k:Int)):=by
  unfold Hid eQ jO m8;have:(K % 256).toNat=K.toNat:=by rw[Int.emod_eq_of_lt h0 (by omega)]
  rw[this];rfl
 have hmm:= @run_makeMap aj;have hK8:Hid (∀k∈jO K,k<8):=λk hk=>by have:=(cm.1 hk).1;simpa using this
 go_enter Tryz.func174,Tryz.ntmps174
 go_upto_region 4 with(fail)
 refine bZ (In (λ_=>False) w [br (w.heap.size+1) 215 #[.int .i64 K,.slice ai 0 0,.map (ae w.heap.size)],PtrMap w.heap.size []])
  (by have h1:=(In.nil w (λ_=>False)).EO (aF .i64) wJ ot
      have h2:=h1.alloc 215 #[.int .i64 K,.slice ai 0 0,.map (ae w.heap.size)];simpa using h2) ?_
 generalize w.heap.size+1=p;generalize hmb:w.heap.size=mb;have HMB:=af hmb;clear hmb;intro w1 hI;have HI:=af hI;clear hI
 go_wp2_with fail
 refine(wD K w1).mono ?_;rintro e w2 ⟨v,rfl,ho,gF⟩;rw[hm8.out]at ho;have gu:=af (HI.out.xw ho gF);obtain⟨A,c,rfl,_⟩:=gu.out.oI;have hlen:Hid (((jO K).map λk:Nat=>(k:Int)).length=(jO K).length):=by unfold Hid;simp
 have hl8:(jO K).length<=8:=qF _;rw[hlen.out];have hl9:((jO K).length:Int)<=8:=by omega
 clear HI ho gF
 go_wp2_with fail
 go_loopw [20] (λi w'=> ∃j:Nat,j<=(jO K).length/\i=.int .i64 j/\ ∃cb:Nat->Nat,In (λ_=>False) w ([fM (.slice A ((jO K).map λk:Nat=>(k:Int)).length c) ((jO K).map λk:Nat=>(k:Int)),br p 215 #[.int .i64 K,.slice ai 0 0,.map (ae mb)],PtrMap mb (((jO K).take j).map λk:Nat=>((k:Int),cb k))]++((jO K).take j).map λk=>kY (cb k) []) w') (λi _=>(jO K).length-(intOf i).toNat)
 case atStart=>exact⟨0,by omega,rfl,λ_=>0,by simpa using gu.out⟩
 case round=>
  clear gu;obtain⟨j,hj,rfl,cb,hI⟩:=hrel;have HI:=af hI;obtain⟨A',c',hA,hr⟩:=hI.oI;injection hA with e1 e2 e3
  subst e1;subst e3;have HR:=af hr;clear hI hr e2;by_cases bJ:j<(jO K).length
  ·have Wp:(j:Int)<(jO K).length:=by omega
   obtain⟨b,o,rfl,zJ,hkl,hc⟩:=HR.out.at_ (k:=j) (by simpa using bJ);rw[List.getElem_map]at hc;have tD:=hK8.out _ (bg bJ);have c1:wr.cell? ⟨p,2,ai⟩=ae (.map (ae mb)):=(In.swap HI.out).blk.cell 2;have hN:Hid ((jO K).take (j+1)=(jO K).take j++[(jO K)[j]]):=bh bJ;have Ey:Hid ((jO K)[j]∉(jO K).take j):=by unfold Hid;have:=oM K;rw[<-List.take_append_drop (j+1) (jO K),hN.out,List.nodup_append,List.nodup_append]at this;intro hm;exact this.1.2.2 _ hm _ (by simp) rfl
   generalize hTS:(jO K).take (j+1)=ts' at *;have HTS:=af hTS;generalize (jO K).take j=ts at *;generalize (jO K)[j]=k at *;clear hTS;have Yv:ot (k:Int):=lk (by omega);have fW:Hid (In (λ_=>False) w (kY wr.heap.size []::([fM (.slice (ae ⟨b,o,ai⟩) ((jO K).map λk:Nat=>(k:Int)).length c) ((jO K).map λk:Nat=>(k:Int)),br p 215 #[.int .i64 K,.slice ai 0 0,.map (ae mb)],PtrMap mb (ts.map λk:Nat=>((k:Int),cb k))]++ts.map λk=>kY (cb k) [])) (wr.alloc (.cells #[.slice ai 0 0] 218))):=HI.out.new ((Below.refl _ _).alloc (ax _) _) ⟨_,dt.new _ _ _,oh _ _ _ _,by simp[fx],ax _,by simp[fx]⟩
   have pe:dW (aF .i64) wJ ot (wr.alloc (.cells #[.slice ai 0 0] 218)) mb (ts.map λk:Nat=>((k:Int),cb k)):=(In.fourth fW.out).fU;clear HR zJ;have hnm:hZ (ts.map λk:Nat=>((k:Int),cb k)) (k:Int) wr.heap.size=(ts.map λk:Nat=>((k:Int),cb k))++[((k:Int),wr.heap.size)]:=by
    unfold hZ;rw[if_neg];intro ha;obtain⟨x,hx,e⟩:=qc.1 ha;obtain⟨y,hy,rfl⟩:=aH.1 hx;have:y=k:=by have:=of_decide_eq_true e;simp only at this;omega
    exact Ey.out (this▸hy)
   have HNM:=af hnm;clear hnm
   go_wp2_with (at_mapUpdate;go_loud (refine iZ wz rfl _ _ _ 213 216 rfl Tryz.underlying213 mb _ rfl pe (k:Int) rfl Yv wr.heap.size rfl ?_))
   intro w5 hm5 ho5 _;rw[HNM.out]at hm5;have ni:=af ((In.fourth fW.out).oJ hm5 ho5);clear hm5 ho5 pe
   go_wp2_with fail
   go_roundw
   case rel=>
    refine⟨j+1,by omega,by go_num,λi=>if i=k then wr.heap.size else cb i,?_⟩;rw[HTS.out,hN.out];have e1:(ts++[k]).map (λi:Nat=>((i:Int),if i=k then wr.heap.size else cb i))=ts.map (λk:Nat=>((k:Int),cb k))++[((k:Int),wr.heap.size)]:=by
     rw[ey];congr 1
     ·apply dx;intro i hi;rw[if_neg (λe=>Ey.out (by rw[<-e];exact hi))]
     ·simp
    have e2:(ts++[k]).map (λi:Nat=>kY (if i=k then wr.heap.size else cb i) [])=ts.map (λk:Nat=>kY (cb k) [])++[kY wr.heap.size []]:=by
     rw[ey];congr 1
     ·apply dx;intro i hi;rw[if_neg (λe=>Ey.out (by rw[<-e];exact hi))]
     ·simp
    rw[e1,e2];refine ni.out.perm ?_;exact UR _ _ _ _ _
   case measure=>simp[intOf];omega
  ·have sa:j=(jO K).length:=by omega
   subst sa;rw[dm]at HI;clear bJ hj;have HT:Hid ((oo p K []).at_ wr (λk=>w.heap.size<=k)):=by have h1:=(In.drop HI.out).add0 (A:=eD 43 2 (.slice ai 0 0) 0 []) ⟨oh _ _ _ _,by simp[fx]⟩;refine⟨by intro r hr;simp at hr,⟨h0,h1'⟩,.slice ai 0 0,mb,cb,?_⟩;exact(h1.swap).sep.cut λk _ hk=>by rcases hk.1 with h|h;exact h.elim;exact h
   have HB:=af HI.out.jI
   go_wp2_with fail
   go_ret2
   exact⟨HB.out,by rw[if_pos ⟨h0,h1'⟩];exact⟨p,rfl,HT.out⟩⟩
def xK (K:Int)(rows:List cQ)(r:cQ):List cQ×Int×Int:=if bI r.b≠0 then(rows,0,bI r.b)else if r.b.k≠K then(rows,0,4)else(rows++[r],(rows.length:Nat),0)
def aac (p:Nat)(K:Int)(rows:List cQ)(r:cQ)(F:Nat->Prop)(w:ah)(h:(oo p K rows).at_ w F)(hr:r.b.v.length=8)(hl:rows.length<=10000):Calls aj 175 #[.pointer (ae ⟨p,0,ai⟩),.agg (ints (hL r.h)),.agg (ints r.b.list)] w λe w'=>e=.returned (.tuple #[.int .i64 (xK K rows r).2.1,.int .i64 (xK K rows r).2.2])/\(oo p K (xK K rows r).1).at_ w' (GL F w w')/\db F w w':=by
 obtain⟨hT,hK,hv,mb,cb,hs⟩:=h;have kZ:=af (In.start hs);have HT:=af hT;have HK:=af hK;clear hs hT hK;obtain⟨⟨r1,r2⟩,b⟩:=r;simp only at hr
 go_enter Tryz.func175,Tryz.ntmps175
 go_upto_region 1 with(fail)
 refine bZ (In F w (br (w.heap.size+1) 48 (ints b.list)::br w.heap.size 43 (ints (hL (r1,r2)))::l5 p K hv mb cb rows (cW rows))) (by have h2:=(kZ.out.alloc 43 (ints (hL (r1,r2)))).alloc 48 (ints b.list);simpa using h2) ?_
 generalize w.heap.size+1=bb;generalize w.heap.size=hb;intro w1 hI;have fg:=hI.blk.bt (n:=9) (by simp[aQ.list,hr]);have HI:=af hI;clear hI kZ
 go_wp2_with fail
 refine(qW b hr w1).mono ?_;rintro e w2 ⟨rfl,gF⟩;have gu:=af (HI.out.below gF);clear HI gF fg;by_cases he:bI b=0
 rotate_left
 ·have HR:Hid (xK K rows ⟨(r1,r2),b⟩=(rows,0,bI b)):=by unfold Hid xK;rw[if_pos he]
  have eb:(bI b !=0)=aw:=by simpa using he
  clear he
  go_wp2_with fail
  go_ret2
  rw[HR.out];obtain⟨g1,g2⟩:=gu.out.drop.drop.XJ;exact⟨rfl,⟨HT.out,HK.out,hv,mb,cb,g1⟩,g2⟩
 have eb:(bI b !=0)=ay:=by rw[he];rfl
 have HE:=af he;clear he;have c1:w2.cell? ⟨bb,0,ai⟩=ae (.int .i64 b.k):=gu.out.blk.cell 0;have c2:w2.cell? ⟨p,0,ai⟩=ae (.int .i64 K):=(In.third gu.out).blk.cell 0;rw[HE.out];by_cases hk:b.k=K
 rotate_left
 ·have HR:Hid (xK K rows ⟨(r1,r2),b⟩=(rows,0,4)):=by unfold Hid xK;rw[if_neg (by simpa using HE.out),if_pos hk]
  have agr:(b.k !=K)=aw:=by simpa using hk
  clear hk
  go_wp2_with fail
  go_quiet (fail)
  go_wp2_with fail
  go_ret2
  rw[HR.out];have fW:=gu.out.below (w':=w2.drewN nq) ⟨rfl,rfl,rfl,ax _,λ_ _=>rfl⟩;obtain⟨g1,g2⟩:=fW.drop.drop.XJ;exact⟨rfl,⟨HT.out,HK.out,hv,mb,cb,g1⟩,g2⟩
 have HR:Hid (xK K rows ⟨(r1,r2),b⟩=(rows++[⟨(r1,r2),b⟩],((rows.length:Nat):Int),0)):=by unfold Hid xK;rw[if_neg (by simpa using HE.out),if_neg (by simpa using hk)]
 have agr:(b.k !=K)=ay:=by simpa using hk
 have HKE:=af hk;clear hk
 go_wp2_with fail
 go_quiet (fail)
 go_wp2_with fail
 have fW:Hid (In F w (br bb 48 (ints b.list)::br hb 43 (ints (hL (r1,r2)))::l5 p K hv mb cb rows (cW rows)) (w2.drewN nq)):=gu.out.below ⟨rfl,rfl,rfl,ax _,λ_ _=>rfl⟩;clear gu c1 c2 agr;generalize w2.drewN nq=w3 at *;have fg:row? w3 hb 0 2=ae #[.int .i64 r1,.int .i64 r2]:=fW.out.swap.blk.bt (xs:=[r1,r2]) rfl
 go_still_tail 4,(by kernel_rfl)
 repeat still_step
 change wpList _ _ _ _ _ w3.drew;have iR:=af fW.out.drew;clear fW fg;generalize w3.drew=w4 at *;have ni:=af ((In.swap iR.out).drop.third.third);obtain⟨hB4,hO4,hN4⟩:=In.sliceAt ni.out
 go_wp2_with fail
 refine(Xk p 1 215 #[.int .i64 K,hv,.map (ae mb)] hv rows.length (rows.flatMap λr=>hC r.h) r1 r2 w4 hB4 rfl hO4 hN4 (by omega)).mono ?_;rintro e w5 ⟨rfl,hE⟩;obtain⟨Cj,j6⟩:=In.added ni.out hE;have kO:Hid (In F w ([PtrMap mb ((jO K).map λk:Nat=>((k:Int),cb k)),br p 215 #[.int .i64 K,Cj,.map (ae mb)],eD 43 2 Cj (rows.length+1) ((rows.flatMap λr=>hC r.h)++[.int .i64 r1,.int .i64 r2]),br bb 48 (ints b.list)]++(jO K).map λk=>kY (cb k) (cW rows k)) w5):=In.fourth j6;have c1:w5.cell? ⟨p,2,ai⟩=ae (.map (ae mb)):=(In.swap kO.out).blk.cell 2;clear hE j6 iR ni hB4 hO4 hN4
 go_wp2_with (at_range;go_loud (refine gX rfl _ 213 216 rfl Tryz.underlying213 mb _ rfl (In.fU kO.out) ?_))
 intro w6 hr6 Ku hs6;have kh:=af (In.Br kO.out hr6 Ku hs6);generalize w5.heap.size=ri at *;clear hr6 Ku hs6 c1
 go_wp2_with fail
 go_loopw [9] (λ_ w'=> ∃left,In F w ([gO (aF .i64) wJ ot mb ri ((jO K).map λk:Nat=>((k:Int),cb k)) left,br p 215 #[.int .i64 K,Cj,.map (ae mb)],eD 43 2 Cj (rows.length+1) ((rows.flatMap λr=>hC r.h)++[.int .i64 r1,.int .i64 r2]),br bb 48 (ints b.list)]++(jO K).map λk:Nat=>kY (cb k) (if(k:Int)∈aW left then cW rows k else cW rows k++[b.v.getD k 0])) w') (λ_ w'=>w'.rangeLeft mb ri)
 case atStart=>
  refine⟨(jO K).map λk:Nat=>((k:Int),cb k),?_⟩;have:(jO K).map (λk:Nat=>kY (cb k) (if(k:Int)∈aW ((jO K).map λk:Nat=>((k:Int),cb k))then cW rows k else cW rows k++[b.v.getD k 0]))=(jO K).map λk:Nat=>kY (cb k) (cW rows k):=by apply dx;intro k hk;rw[if_pos];simp only[aW,List.map_map];exact aH.2 ⟨k,hk,rfl⟩
  rw[this];exact kh.out
 case round=>
  clear kh kO;obtain⟨left,hI⟩:=hrel;have HI:=af hI;clear hI
  go_wp2_with (at_next;go_loud (refine j1 wz rfl _ rfl mb ri _ left rfl (In.rangeAt HI.out) ?_ ?_))
  ·intro Na;subst Na;have oQ:=af (In.third (In.third (In.drop (In.fourth (In.ud HI.out)))));obtain⟨hB,hO,hN⟩:=In.sliceAt oQ.out;obtain⟨A',c',rfl,_,_,_⟩:=cM hO;have c1:wr.cell? ⟨p,1,ai⟩=ae (.slice A' (rows.length+1) c'):=hB.cell 1;have Dn:((rows.length:Nat):Int)+1<=1000000:=by omega
   clear hB hO hN
   go_wp2_with fail
   go_ret2
   rw[HR.out];obtain⟨g1,g2⟩:=oQ.out.XJ;refine⟨by simp,⟨?_,HK.out,.slice A' (rows.length+1) c',mb,cb,?_⟩,g2⟩
   ·intro r Av;rcases jh.1 Av with Av|Av
    ·exact HT.out r Av
    ·rw[eO.1 Av];refine⟨HKE.out,hr,λk hk hkt=> ?_⟩;refine((mU b HE.out).2 k hk).1 ?_;rw[HKE.out];cases hb:K.toNat.testBit k
     ·rfl
     ·exact absurd (cm.2 ⟨by simpa using hk,hb⟩) hkt
   ·have e1:(jO K).map (λk:Nat=>kY (cb k) (cW (rows++[⟨(r1,r2),b⟩]) k))=(jO K).map (λk:Nat=>kY (cb k) (if(k:Int)∈aW ([]:List (Int×Nat))then cW rows k else cW rows k++[b.v.getD k 0])):=by apply dx;intro k _;rw[if_neg (by simp[aW])];unfold cW;rw[ey];rfl
    unfold l5;rw[e1,aZ,dG];exact g1
  ·intro x v w7 hx AY Au Ni o9 Uj;obtain⟨k,hk,hke⟩:=aH.1 ((In.rangeAt HI.out).sub _ hx);injection hke with e1 e2
   subst e1;subst e2;have tD:k<8:=by have:=(cm.1 hk).1;simpa using this
   have vI:(k:Int)<8:=by omega
   have kh:Hid (In F w ([gO (aF .i64) wJ ot mb ri ((jO K).map λk:Nat=>((k:Int),cb k)) (dZ left (k:Int)),br p 215 #[.int .i64 K,Cj,.map (ae mb)],eD 43 2 Cj (rows.length+1) ((rows.flatMap λr=>hC r.h)++[.int .i64 r1,.int .i64 r2]),br bb 48 (ints b.list)]++(jO K).map λk:Nat=>kY (cb k) (if(k:Int)∈aW left then cW rows k else cW rows k++[b.v.getD k 0])) w7):=In.nf HI.out AY Au;have HK2:=af hk;have HX:=af hx;have HLT:=af o9;have AX:b.v[k]? =ae (b.v.getD k 0):=by simp[bB,aq (show k<b.v.length by omega)]
   have c1:w7.cell? ⟨bb,1+k,ai⟩=ae (.int .i64 (b.v.getD k 0)):=by rw[(In.fourth kh.out).blk.cell (1+k),lg,aQ.list,dA,e8,AX];rfl
   clear AY Au Ni o9 hk hx AX;obtain⟨y,hy⟩: ∃y,b.v.getD k 0=y:=⟨_,rfl⟩;rw[hy]at c1;have HY:=af hy;clear hy
   go_wp2_with fail
   obtain⟨F1,hA,_,jQ⟩:=In.KS kh.out (oM K) HK2.out;have jB:(k:Int)∈aW left:=aH.2 ⟨_,HX.out,rfl⟩;rw[if_pos jB]at hA;obtain⟨v,hB,hO,hN,CW⟩:=kM.parts hA;have HB:=af jQ;have AA:=af CW;have hlc:(cW rows k).length<=100000:=by unfold cW;rw[aL];omega
   refine(Xl (cb k) 0 218 #[v] v (cW rows k).length ((cW rows k).flatMap A8) (y) w7 hB rfl hO hN hlc).mono ?_;rintro e w8 ⟨rfl,hE⟩;have hE2:oB w7 w8 (cb k) 218 #[v] 0 v 3 1 (cW rows k++[y]).length ((cW rows k++[y]).flatMap A8):=by rw[aZ,dG];exact hE
   obtain⟨hC2,Yk⟩:=AA.out _ _ hE2;have oQ:=af (HB.out _ (kY (cb k) (cW rows k++[y])) hC2 Yk);clear hA hB hO hN CW jQ HB AA hlc hE hE2 hC2 Yk kh jB
   go_wp2_with fail
   go_roundw
   case rel=>
    refine⟨dZ left (k:Int),?_⟩;rw[<-HY.out]at oQ;have:(jO K).map (λj:Nat=>kY (cb j) (if(j:Int)∈aW (dZ left (k:Int))then cW rows j else cW rows j++[b.v.getD j 0]))=
     (jO K).map (λj:Nat=>if j=k then kY (cb k) (cW rows k++[b.v.getD k 0])else kY (cb j) (if(j:Int)∈aW left then cW rows j else cW rows j++[b.v.getD j 0])):=by
     apply dx;intro j hj;by_cases yy:j=k
     ·subst yy;rw[if_neg,if_pos rfl];intro hm;obtain⟨q,hq,e⟩:=aH.1 hm;exact(fP.1 hq).2 e
     ·rw[if_neg yy];have:(j:Int)∈aW (dZ left (k:Int))↔(j:Int)∈aW left:=by
       constructor
       ·intro hm;obtain⟨q,hq,e⟩:=aH.1 hm;exact aH.2 ⟨q,(fP.1 hq).1,e⟩
       ·intro hm;obtain⟨q,hq,e⟩:=aH.1 hm;exact aH.2 ⟨q,fP.2 ⟨hq,by simp only[e];omega⟩,e⟩
      by_cases hm:(j:Int)∈aW left
      ·rw[if_pos hm,if_pos (this.2 hm)]
      ·rw[if_neg hm,if_neg (λh=>hm (this.1 h))]
    rw[this];exact oQ.out
   case measure=>rw[(In.rangeAt oQ.out).count,(In.rangeAt HI.out).count];exact HLT.out
section
variable {w0 w:ah} {l:List bU} {p:Nat} {K:Int} {rows:List cQ} {G:Nat->Prop}
def acB (K:Int)(hK:0<=K/\K<=255)(h:In G w0 l w):Calls aj 174 #[.int .i64 K] w λe w'=> ∃p,e=.returned (.tuple #[.pointer (ae ⟨p,0,ai⟩),.int .i64 0])/\In G w0 (oo p K []::l) w':=(aah K w).mono λe w' ⟨h1,h2⟩=>by rw[if_pos hK]at h2;obtain⟨p,h2,h3⟩:=h2;exact⟨p,h2,h.new h1 h3⟩
def Tk (h:In G w0 (oo p K rows::l) w)(r1 r2:Int)(b:aQ)(hr:b.v.length=8)(hl:rows.length<=10000):Calls aj 175 #[.pointer (ae ⟨p,0,ai⟩),.agg #[.int .i64 r1,.int .i64 r2],.agg (ints b.list)] w λe w'=>e=.returned (.tuple #[.int .i64 (xK K rows ⟨(r1,r2),b⟩).2.1,.int .i64 (xK K rows ⟨(r1,r2),b⟩).2.2])/\In G w0 (oo p K (xK K rows ⟨(r1,r2),b⟩).1::l) w':=by
 obtain⟨F1,hA,_,hb⟩:=h.open_;exact(aac p K rows ⟨(r1,r2),b⟩ F1 w hA hr hl).mono λe w' ⟨h1,h2,h3⟩=>⟨h1,hb h2 h3⟩
def Rv (h:In G w0 (oo p K rows::l) w)(row:Int)(hl:rows.length<=10000):Calls aj 181 #[.pointer (ae ⟨p,0,ai⟩),.int .i64 row] w λe w'=>e=.returned (.tuple #[.agg (ints (nc rows row).2.1.list),.int .i64 (nc rows row).2.2])/\In G w0 (oo p K (nc rows row).1::l) w':=by
 obtain⟨F1,hA,_,hb⟩:=h.open_;exact(OZ p K rows row F1 w hA hl).mono λe w' ⟨h1,h2,h3⟩=>⟨h1,hb h2 h3⟩
def acF (h:In G w0 (oo p K rows::l) w)(row:Int)(hl:rows.length<=10000):Calls aj 73 #[.pointer (ae ⟨p,0,ai⟩),.int .i64 row] w λe w'=>e=.returned (.tuple #[.agg (ints (wO rows row).1.list),.int .i64 (wO rows row).2])/\Below w.heap.size w w'/\In G w0 (oo p K rows::l) w':=by
 obtain⟨F1,hA⟩:=h.head;obtain⟨hv,mb,cb,hS⟩:=oo.see hA;exact(O0 row w hS (by omega)).mono λe w' ⟨h1,h2⟩=>⟨h1,h2,h.below h2⟩
def wV (h:In G w0 (oo p K rows::l) w)(hl:rows.length<=10000):Calls aj 96 #[.pointer (ae ⟨p,0,ai⟩)] w λe w'=> ∃v,e=.returned v/\w'.ownsRow w.heap.size 43 2 v rows.length (rows.flatMap λr=>hC r.h)/\Below w.heap.size w w'/\In G w0 (oo p K rows::l) w':=by obtain⟨F1,hA⟩:=h.head;obtain⟨hv,mb,cb,hS⟩:=oo.see hA;exact(Lr w hS (by omega)).mono λe w' ⟨v,h1,h2,h3⟩=>⟨v,h1,h2,h3,h.below h3⟩
end
end
def NM {α:Type}{l:List α}(h: ∀(i j:Nat) (x:α),i<j->l[i]? =ae x->l[j]? =ae x->False):l.Nodup:=by rw[List.Nodup,lO];intro i j hi hj M9 e;exact h i j l[i] M9 (aq hi) (by rw[e];exact aq hj)
structure WT where
 ks:List Int
 pt:Int->Nat
 rw:Int->List cQ
 ps:List (Int×(Int×Int))
abbrev BF:=Int->Option (Int×aQ)
def ei (f:BF)(s:Int)(x:Option (Int×aQ)):BF:=λk=>if k=s then x else f k
def jC {α:Type}(f:Int->α)(K:Int)(x:α):Int->α:=λk=>if k=K then x else f k
def iE {α:Type}(f:Int->α)(K:Int)(x:α):jC f K x K=x:=by unfold jC;rw[if_pos rfl]
def gW {α:Type}(f:Int->α){K K':Int}(x:α)(h:K'≠K):jC f K x K'=f K':=by unfold jC;rw[if_neg h]
structure nS (T:WT) (f:BF):Prop where
 nd:T.ks.Nodup
 ne: ∀K∈T.ks,T.rw K≠ []
 at_: ∀K∈T.ks,∀(i:Nat) (r:cQ),(T.rw K)[i]? =ae r->f r.h.1=ae (r.h.2,r.b)/\dY T.ps r.h.1=ae (K,(i:Int))
 all: ∀s g b,f s=ae (g,b)-> ∃K∈T.ks,∃i:Nat,(T.rw K)[i]? =ae ⟨(s,g),b⟩
 ok: ∀s g b,f s=ae (g,b)->bI b=0/\b.v.length=8/\0<=s/\s<60
def nS.nil:nS ⟨[],λ_=>0,λ_=>[],[]⟩ (λ_=>ai):=⟨List.nodup_nil,by simp,by simp,by simp,by simp⟩
section
variable {T:WT} {f:BF} {s g K:Int} {b:aQ}
def nS.abA (h:nS T f)(hf:f s=ai)(hb:bI b=0/\b.v.length=8/\0<=s/\s<60)(hK:K∈T.ks):nS ⟨T.ks,T.pt,jC T.rw K (T.rw K++[⟨(s,g),b⟩]),hZ T.ps s (K,((T.rw K).length:Int))⟩ (ei f s (ae (g,b))):=by
 refine⟨h.nd,λK' jX=> ?_,λK' jX i r hr=> ?_,λs' g' b' hs=> ?_,λs' g' b' hs=> ?_⟩
 ·simp only[jC];split
  ·simp
  ·exact h.ne K' jX
 ·simp only at hr jX|-;have old: ∀K'∈T.ks,(T.rw K')[i]? =ae r->ei f s (ae (g,b)) r.h.1=ae (r.h.2,r.b)/\dY (hZ T.ps s (K,((T.rw K).length:Int))) r.h.1=ae (K',(i:Int)):=by
   intro K' jX hr;obtain⟨h1,h2⟩:=h.at_ K' jX i r hr;have eb:r.h.1≠s:=λe=>by rw[e,hf]at h1;cases h1
   unfold ei;rw[if_neg eb,ko,if_neg eb];exact⟨h1,h2⟩
  by_cases e:K'=K
  ·subst e;rw[iE]at hr;by_cases hi:i<(T.rw K').length
   ·rw[List.getElem?_append_left hi]at hr;exact old K' jX hr
   ·rw[List.getElem?_append_right (by omega)]at hr;have qE:i=(T.rw K').length:=by have:=(bz.1 hr).1;simp at this;omega
    rw[qE,Nat.sub_self]at hr;simp at hr;subst hr;unfold ei;simp only[if_true];rw[ko,if_pos rfl,qE];exact⟨trivial,rfl⟩
  ·rw[gW _ _ e]at hr;exact old K' jX hr
 ·unfold ei at hs
  split at hs
  ·rename_i e
   cases hs;subst e;refine⟨K,hK,(T.rw K).length,?_⟩;simp only[iE];rw[List.getElem?_append_right (ax _),Nat.sub_self];rfl
  ·obtain⟨K',jX,i,hi⟩:=h.all s' g' b' hs;refine⟨K',jX,i,?_⟩;simp only;by_cases e:K'=K
   ·subst e;rw[iE,List.getElem?_append_left (bz.1 hi).1];exact hi
   ·rw[gW _ _ e];exact hi
 ·unfold ei at hs
  split at hs
  ·rename_i e;cases hs;subst e;exact hb
  ·exact h.ok s' g' b' hs
def nS.abz (h:nS T f)(hf:f s=ai)(hb:bI b=0/\b.v.length=8/\0<=s/\s<60)(hK:K∉T.ks)(p:Nat):nS ⟨T.ks++[K],jC T.pt K p,jC T.rw K [⟨(s,g),b⟩],hZ T.ps s (K,0)⟩ (ei f s (ae (g,b))):=by
 refine⟨?_,λK' jX=> ?_,λK' jX i r hr=> ?_,λs' g' b' hs=> ?_,λs' g' b' hs=> ?_⟩
 ·simp only;rw[List.nodup_append];exact⟨h.nd,by simp,λa ha b hb e=>hK (by rw[eO]at hb;rw[<-hb,<-e];exact ha)⟩
 ·simp only[jC]at jX|-;split
  ·simp
  ·rename_i e
   rw[jh,eO]at jX;rcases jX with jX|jX
   ·exact h.ne K' jX
   ·exact absurd jX e
 ·simp only at hr jX|-;by_cases e:K'=K
  ·subst e;rw[iE]at hr;cases i with
   |succ i=>simp at hr
   |zero=>simp at hr;subst hr;unfold ei;simp only[if_true];rw[ko,if_pos rfl];exact⟨trivial,rfl⟩
  ·rw[gW _ _ e]at hr;rw[jh,eO]at jX;rcases jX with jX|jX
   ·obtain⟨h1,h2⟩:=h.at_ K' jX i r hr;have eb:r.h.1≠s:=λe=>by rw[e,hf]at h1;cases h1
    unfold ei;rw[if_neg eb,ko,if_neg eb];exact⟨h1,h2⟩
   ·exact absurd jX e
 ·unfold ei at hs
  split at hs
  ·rename_i e
   cases hs;subst e;exact⟨K,by simp,0,by simp only[iE];rfl⟩
  ·obtain⟨K',jX,i,hi⟩:=h.all s' g' b' hs;refine⟨K',by simp[jX],i,?_⟩;simp only;rw[gW _ _ (λe=>hK (by rw[<-e];exact jX))];exact hi
 ·unfold ei at hs
  split at hs
  ·rename_i e;cases hs;subst e;exact hb
  ·exact h.ok s' g' b' hs
def zq {α:Type}(d:α)(l:List α)(i j:Nat)(hi:i<l.length)(hj:j<l.length-1):(cutAt d l i)[j]? =if j=i then l[l.length-1]? else l[j]?:=by
 unfold cutAt;rw[ie,if_pos hj,fh];by_cases e:i=j
 ·rw[if_pos e,if_pos (by omega),if_pos e.symm,aY,aq (show l.length-1<l.length by omega)];rfl
 ·rw[if_neg e,if_neg (λh=>e h.symm)]
def gT (ps:List (Int×(Int×Int)))(lK:List cQ)(K:Int)(i:Nat):List (Int×(Int×Int)):=if i<lK.length then hZ ps (lK.getD i aM).h.1 (K,(i:Int))else ps
def nS.Y4 (h:nS T f)(hK:K∈T.ks){i:Nat}(hi:(T.rw K)[i]? =ae ⟨(s,g),b⟩):nS ⟨if(cutAt aM (T.rw K) i).length=0 then T.ks.filter (λk=> !decide (k=K))else T.ks,T.pt,jC T.rw K (cutAt aM (T.rw K) i),dZ (gT T.ps (cutAt aM (T.rw K) i) K i) s⟩ (ei f s ai):=by
 have xr:=(bz.1 hi).1;have sM:=xi aM (T.rw K) i;obtain⟨hfs,hps⟩:=h.at_ K hK i _ hi;simp only at hfs hps;have jB: ∀K',K'∈(if(cutAt aM (T.rw K) i).length=0 then T.ks.filter (λk=> !decide (k=K))else T.ks)->K'∈T.ks/\(K'=K->0<(cutAt aM (T.rw K) i).length):=by
  intro K' jX
  split at jX
  ·rw[cm]at jX;exact⟨jX.1,λe=>by simp[e]at jX⟩
  ·rename_i eb
   exact⟨jX,λ_=>by omega⟩
 have ac3: ∀K',K'∈T.ks->(K'=K->0<(cutAt aM (T.rw K) i).length)->K'∈(if(cutAt aM (T.rw K) i).length=0 then T.ks.filter (λk=> !decide (k=K))else T.ks):=by
  intro K' jX h0
  split
  ·rename_i h00
   rw[cm];refine⟨jX,?_⟩;have:K'≠K:=λe=>by have:=h0 e;omega
   simpa using this
  ·exact jX
 have Qe: ∀K'∈T.ks,∀(j:Nat) r,(T.rw K')[j]? =ae r-> ¬(K'=K/\j=i)-> ∀(j':Int),(K'=K/\j=(T.rw K).length-1/\i<(T.rw K).length-1->j'=i)->(¬(K'=K/\j=(T.rw K).length-1/\i<(T.rw K).length-1)->j'=j)->
  ei f s ai r.h.1=ae (r.h.2,r.b)/\dY (dZ (gT T.ps (cutAt aM (T.rw K) i) K i) s) r.h.1=ae (K',j'):=by
  intro K' jX j r hr eb j' Ky hj2;obtain⟨h1,h2⟩:=h.at_ K' jX j r hr;have hns:r.h.1≠s:=λe=>by
   rw[e,hps]at h2;injection h2 with h2
   injection h2 with h2 h3
   exact eb ⟨h2.symm,by omega⟩
  unfold ei;rw[if_neg hns,oK,if_neg hns];refine⟨h1,?_⟩;unfold gT;rw[sM];by_cases SA:i<(T.rw K).length-1
  ·rw[if_pos SA,ko];have AX:(cutAt aM (T.rw K) i).getD i aM=(T.rw K)[(T.rw K).length-1]:=by rw[aY,zq _ _ _ _ xr SA,if_pos rfl,aq (by omega)];rfl
   rw[AX];obtain⟨_,h4⟩:=h.at_ K hK ((T.rw K).length-1) _ (aq (by omega));by_cases e:r.h.1=((T.rw K)[(T.rw K).length-1]'(by omega)).h.1
   ·rw[if_pos e];rw[<-e,h2]at h4;injection h4 with h4
    injection h4 with h4 h5
    rw[Ky ⟨h4,by omega,SA⟩,h4]
   ·rw[if_neg e,h2];have: ¬(K'=K/\j=(T.rw K).length-1/\i<(T.rw K).length-1):=by
     rintro⟨rfl,rfl,_⟩;rw[aq (by omega)]at hr;injection hr with hr
     exact e (by rw[hr])
    rw[hj2 this]
  ·rw[if_neg SA,h2,hj2 (λh=>SA h.2.2)]
 refine⟨?_,λK' jX=> ?_,λK' jX j r hr=> ?_,λs' g' b' hs=> ?_,λs' g' b' hs=> ?_⟩
 ·simp only
  split
  ·exact h.nd.sublist List.filter_sublist
  ·exact h.nd
 ·simp only at jX|-;obtain⟨h1,h2⟩:=jB K' jX;by_cases e:K'=K
  ·rw[e,iE];intro h0;have:=h2 e;rw[h0]at this;simp at this
  ·rw[gW _ _ e];exact h.ne K' h1
 ·simp only at jX hr|-;obtain⟨h1,_⟩:=jB K' jX;by_cases e:K'=K
  ·subst e;rw[iE]at hr;have sa:j<(T.rw K').length-1:=by have:=(bz.1 hr).1;omega
   rw[zq _ _ _ _ xr sa]at hr;by_cases ej:j=i
   ·rw[if_pos ej]at hr;exact Qe K' h1 _ r hr (by rintro⟨_,h⟩;omega) j (λ_=>by omega) (λh=>absurd ⟨rfl,rfl,by omega⟩ h)
   ·rw[if_neg ej]at hr;exact Qe K' h1 j r hr (λh=>ej h.2) j (λh=>by omega) (λ_=>rfl)
  ·rw[gW _ _ e]at hr;exact Qe K' h1 j r hr (λh=>e h.1) j (λh=>absurd h.1 e) (λ_=>rfl)
 ·unfold ei at hs
  split at hs
  ·cases hs
  ·rename_i eb
   obtain⟨K',jX,j,hj⟩:=h.all s' g' b' hs;by_cases e:K'=K
   ·subst e;have sa:=(bz.1 hj).1;have Wp:j≠i:=λe=>by
     rw[e,hi]at hj;injection hj with hj
     injection hj with hj _
     injection hj with hj _
     exact eb hj.symm
    have h0:0<(cutAt aM (T.rw K') i).length:=by omega
    refine⟨K',ac3 K' jX (λ_=>h0),if j=(T.rw K').length-1 then i else j,?_⟩;simp only[iE]
    split
    ·rename_i ej
     rw[zq _ _ _ _ xr (by omega),if_pos rfl,<-ej];exact hj
    ·rw[zq _ _ _ _ xr (by omega),if_neg Wp];exact hj
   ·refine⟨K',ac3 K' jX (λh=>absurd h e),j,?_⟩;simp only;rw[gW _ _ e];exact hj
 ·unfold ei at hs
  split at hs
  ·cases hs
  ·exact h.ok s' g' b' hs
end
section
open Go.RowKit
def NW {w:ah}{B:Nat}{e:aA}{size n c g i:Nat}{xs:List ao}(u:ao)(h:w.ownsRow B e size (.slice (ae ⟨g,0,ai⟩) n c) n xs)(hi:i<n *size):(w.setCell ⟨g,i,ai⟩ u).ownsRow B e size (.slice (ae ⟨g,0,ai⟩) n c) n (xs.set i u):=by
 obtain⟨h1,h2⟩:=h;refine⟨by rw[de];exact h1,?_⟩;rcases h2 with⟨e1,h0⟩|⟨g',cap,cur,e1,hb,hg,h3,h4,h5,h6⟩
 ·cases e1
 ·injection e1 with e1 e2 e3
  injection e1 with e1
  injection e1 with e1
  subst e1;subst e3;refine bO ⟨g,c,cur.setIfInBounds i u,rfl,hb,?_,h3,h4,?_,?_⟩
  ·simp[dJ,bq,hg]
  ·simp;exact h5
  ·rw[Array.toList_setIfInBounds,<-h6,List.take_set]
def Zp {w:ah}{B:Nat}{e:aA}{size n c g i:Nat}{xs:List ao}(h:w.ownsRow B e size (.slice (ae ⟨g,0,ai⟩) n c) n xs){u:ao}(hi:xs[i]? =ae u):w.cell? ⟨g,i,ai⟩=ae u/\w.frozen? ⟨g,i,ai⟩=ay:=by
 obtain⟨h1,h2⟩:=h;rcases h2 with⟨e1,h0⟩|⟨g',cap,cur,e1,hb,hg,h3,h4,h5,h6⟩
 ·cases e1
 ·injection e1 with e1 e2 e3
  injection e1 with e1
  injection e1 with e1
  subst e1;subst e3;refine⟨?_,by simp[World.frozen?,hg]⟩;rw[cell_of_row w g i cur e (0,0) hg,<-hi,<-h6,ie,if_pos]
  ·simp
  ·have:=(bz.1 hi).1;omega
def setB (r:cQ)(k:Nat)(n:Int):cQ:=⟨r.h,⟨r.b.k,r.b.v.set k n⟩⟩
def TV {K:Int}{rows:List cQ}(hT:BX K rows)(i:Nat)(hi:i<rows.length)(k:Nat)(hk:k<8)(n:Int)(j:Nat):cW (rows.set i (setB rows[i] k n)) j=if j=k then(cW rows j).set i n else cW rows j:=by
 unfold cW;rw[List.map_set];have hl:=(hT _ (bg hi)).2.1;have e:((setB rows[i] k n).b.v.getD j 0)=if j=k then n else rows[i].b.v.getD j 0:=by
  unfold setB;simp only;rw[aY,aY,fh];by_cases h:k=j
  ·rw[if_pos h,if_pos (by omega),if_pos h.symm];rfl
  ·rw[if_neg h,if_neg (λh'=>h h'.symm)]
 rw[e]
 split
 ·rfl
 ·apply mf;intro q;rw[fh]
  split
  ·rename_i hq
   subst hq;rw[if_pos (by simpa using hi),dN,aq hi];rfl
  ·rfl
def acG {G:Nat->Prop}{w0 w:ah}{l:List bU}{p:Nat}{K:Int}{rows:List cQ}(h:In G w0 (oo p K rows::l) w)(i:Nat)(hi:i<rows.length)(hl:rows.length<=10000)(k:Nat)(hk:k∈jO K)(tD:k<8)(n:Int)(hn: -1000000000<=n/\n<=1000000000):Calls aj 134 #[.pointer (ae ⟨p,0,ai⟩),.int .i64 (i:Int),.int .i64 (k:Int),.int .i64 n] w λe w'=>e=.returned (.int .i64 0)/\In G w0 (oo p K (rows.set i (setB rows[i] k n))::l) w':=by
 obtain⟨hT,hK,hv,mb,cb,hI⟩:=h.KT;obtain⟨F0,hA0⟩:=h.head;have HI:=af hI;have abj:uw w p K rows hv mb cb:=by
  have gm:=hI;exact⟨hT,hK,In.blk gm,(In.sliceAt gm).2.1,(In.third gm).fU,λk hk=>by
   have h1:In G w0 ((([br p 215 #[.int .i64 K,hv,.map (ae mb)],eD 43 2 hv rows.length (rows.flatMap λr=>hC r.h),PtrMap mb ((jO K).map λk:Nat=>((k:Int),cb k))]++l))++(jO K).map λk=>kY (cb k) (cW rows k)) w:=hI.perm (by unfold l5;rw[cx,cx];exact dy _ List.perm_append_comm)
   exact h1.ZI (oM K) hk⟩
 have HT2:Hid (BX K (rows.set i (setB rows[i] k n))):=λr hr=>by
  rcases List.mem_or_eq_of_mem_set hr with hr|rfl
  ·exact hT r hr
  ·obtain⟨g1,g2,g3⟩:=hT _ (bg hi);refine⟨g1,by unfold setB;simp[g2],λj hj hjt=> ?_⟩;have eb:k≠j:=λe=>hjt (by rw[<-e];exact hk)
   unfold setB;simp only;rw[aY,List.getElem?_set_ne eb,<-aY];exact g3 j hj hjt
 have HCS:=af (TV hT i hi k tD n);have GI:(rows.set i (setB rows[i] k n)).flatMap (λr=>hC r.h)=rows.flatMap λr=>hC r.h:=by
  have:(rows.set i (setB rows[i] k n)).map (λr=>r.h)=rows.map λr=>r.h:=by
   rw[List.map_set];apply mf;intro q;rw[fh]
   split
   ·rename_i hq
    subst hq;rw[if_pos (by simpa using hi),dN,aq hi];rfl
   ·rfl
  have h2:=congrArg (λl:List (Int×Int)=>l.flatMap hC) this;simp only[List.flatMap_map]at h2;exact h2
 have HFL:=af GI;have hlen:(rows.set i (setB rows[i] k n)).length=rows.length:=de;have um:=af hlen;have HK:=af hK;have hir:mM rows.length (i:Int)=aw:=by unfold mM;simp;omega
 have hof:ofR K (k:Int)=(ae k,0):=by unfold ofR;rw[if_pos (by omega),fw,if_pos hk]
 have afx:=af (I5 (i:Int) w abj (by omega));have HOF:=af (acD (k:Int) w abj);rw[hir]at afx;rw[hof]at HOF;obtain⟨F1,afT⟩:=abj.c k hk;obtain⟨A3,c3,f1,f2,f3,f4,f5,f6,f7,f8⟩:=afT.slice;have sM:(cW rows k).length=rows.length:=by unfold cW;rw[aL]
 have hA3: ∃g,A3=ae ⟨g,0,ai⟩:=by
  obtain⟨A,c,e,_,_,hA⟩:=cM f5;injection e with e
  subst e;exact hA (by omega)
 obtain⟨g,rfl⟩:=hA3;have hci:((cW rows k).flatMap A8)[i]? =ae (.int .i64 ((cW rows k)[i]'(by omega))):=by have:=rm (f:=A8) (size:=1) (λ_=>rfl) (cW rows k) i 0 (by omega) (by omega);rw[Nat.mul_one,lC]at this;rw[this];rfl
 obtain⟨q0,q2⟩:=Zp f5 hci;obtain⟨x0,q1⟩: ∃x:Int,w.cell? ⟨g,i,ai⟩=ae (.int .i64 x):=⟨_,q0⟩;have aaI:Hid (In G w0 (oo p K (rows.set i (setB rows[i] k n))::l) (w.setCell ⟨g,i,ai⟩ (.int .i64 n))):=by
  refine In.Tf (hv:=hv) (mb:=mb) (cb:=cb) HT2.out hK ?_;have h1:In G w0 ((([br p 215 #[.int .i64 K,hv,.map (ae mb)],eD 43 2 hv rows.length (rows.flatMap λr=>hC r.h),PtrMap mb ((jO K).map λk:Nat=>((k:Int),cb k))]++l))++(jO K).map λk=>kY (cb k) (cW rows k)) w:=hI.perm (by unfold l5;rw[cx,cx];exact dy _ List.perm_append_comm)
  obtain⟨F2,uL,_,jQ⟩:=h1.KS (oM K) hk;obtain⟨v,p1,p2,p3,p4⟩:=kM.parts uL;have hv3:v=.slice (ae ⟨g,0,ai⟩) (cW rows k).length c3:=by have:=p1.cell 0;rw[f1]at this;simpa using this.symm
  subst hv3;have hgp:g≠cb k:=λe=>p3 (by rw[e];rfl)
  have CW:oB w (w.setCell ⟨g,i,ai⟩ (.int .i64 n)) (cb k) 218 #[.slice (ae ⟨g,0,ai⟩) (cW rows k).length c3] 0 (.slice (ae ⟨g,0,ai⟩) (cW rows k).length c3) 3 1 ((cW rows k).set i n).length (((cW rows k).set i n).flatMap A8):=by
   refine⟨.slice (ae ⟨g,0,ai⟩) (cW rows k).length c3,?_,?_,p3,λq hq=>bm hq,?_⟩
   ·exact(p1.Hb (Ne.symm hgp) i _)
   ·have h2:=NW (.int .i64 n) p2 (i:=i) (by omega);have h3:((cW rows k).flatMap A8).set i (.int .i64 n)=((cW rows k).set i n).flatMap A8:=by have:=tw (f:=A8) (size:=1) (λ_=>rfl) (cW rows k) i 0 n (.int .i64 n) (by omega) (by omega) rfl;rwa[Nat.mul_one,lC]at this
    rw[h3]at h2;rw[de];exact h2
   ·exact(db.refl.setCell (bm (bO rfl)) i _)
  obtain⟨r1,r2⟩:=p4 _ _ CW;have h5:=jQ _ (kY (cb k) ((cW rows k).set i n)) r1 r2;have h6:((jO K).map λj=>if j=k then kY (cb k) ((cW rows k).set i n)else kY (cb j) (cW rows j))=(jO K).map λj=>kY (cb j) (cW (rows.set i (setB rows[i] k n)) j):=by
   apply dx;intro j _;rw[HCS.out];by_cases e:j=k
   ·rw[if_pos e,if_pos e,e]
   ·rw[if_neg e,if_neg e]
  rw[h6]at h5;unfold l5;rw[hlen,GI];refine h5.perm ?_;rw[cx,cx];exact dy _ List.perm_append_comm
 have Pg:decide (n< -1000000000)=ay:=decide_eq_false (by omega);have Sx:decide (1000000000<n)=ay:=decide_eq_false (by omega);have xr:(i:Int)<(cW rows k).length:=by omega
 clear h hI HI abj hA0 hT hK GI hlen hir hof q0 afT f2 f3 f4 f5 f6 f7 f8 HT2 HCS HFL um HK sM hci
 go_enter Tryz.func134,Tryz.ntmps134
 go_wp2_with fail
 refine afx.out.mono ?_;rintro e w1 ⟨rfl,rfl⟩
 go_wp2_with fail
 refine HOF.out.mono ?_;rintro e w1 ⟨rfl,rfl⟩;simp only[XE]
 go_wp2_with fail
 go_ret;exact⟨rfl,aaI.out⟩
end
def xf (b:aQ):bI b=0↔(0<=b.k/\b.k<=255)/\ ∀j,j<8->(b.k.toNat.testBit j=ay->b.v.getD j 0=0)/\ -1000000000<=b.v.getD j 0/\b.v.getD j 0<=1000000000:=by refine⟨mU b,λ⟨h1,h2⟩=>sG b (by unfold cY;simp[h1.1,h1.2]) λj hj=> ?_⟩;obtain⟨g1,g2,g3⟩:=h2 j hj;unfold lG;rw[if_neg (λh=>h.2 (g1 h.1)),if_neg (by omega)]
def vD (b:aQ)(k:Nat)(n:Int):aQ:=⟨((b.k.toNat ||| 2^k:Nat):Int),b.v.set k n⟩
def tk (b:aQ)(k:Nat):aQ:=⟨((b.k.toNat-2^k:Nat):Int),b.v.set k 0⟩
def SS: ∀(m k j:Nat),m<256->k<8->j<8->(m ||| 2^k).testBit j=(m.testBit j||decide (k=j))/\(m ||| 2^k)<256:=by
 have h: ∀(m:Fin 256) (k j:Fin 8),(m.val ||| 2^k.val).testBit j.val=(m.val.testBit j.val||decide (k.val=j.val))/\(m.val ||| 2^k.val)<256:=by decide+kernel
 exact λm k j hm hk hj=>h ⟨m,hm⟩ ⟨k,hk⟩ ⟨j,hj⟩
def Z9: ∀(m k j:Nat),m<256->k<8->j<8->m.testBit k=aw->(m-2^k).testBit j=(m.testBit j&& !decide (k=j)):=by
 have h: ∀(m:Fin 256) (k j:Fin 8),m.val.testBit k.val=aw->(m.val-2^k.val).testBit j.val=(m.val.testBit j.val&& !decide (k.val=j.val)):=by decide+kernel
 exact λm k j hm hk hj=>h ⟨m,hm⟩ ⟨k,hk⟩ ⟨j,hj⟩
def SU: ∀(m k:Nat),m<256->k<8->m.testBit k=aw->(m ||| 2^k)=m:=by
 have h: ∀(m:Fin 256) (k:Fin 8),m.val.testBit k.val=aw->(m.val ||| 2^k.val)=m.val:=by decide+kernel
 exact λm k hm hk=>h ⟨m,hm⟩ ⟨k,hk⟩
def IK {v:List Int}{k j:Nat}(hv:v.length=8)(hk:k<8)(n:Int):(v.set k n).getD j 0=if j=k then n else v.getD j 0:=by
 rw[aY,aY,fh];by_cases e:k=j
 ·rw[if_pos e,if_pos (by omega),if_pos e.symm];rfl
 ·rw[if_neg e,if_neg (λh=>e h.symm)]
def Dt {b:aQ}(hb:bI b=0)(hv:b.v.length=8){k:Nat}(hk:k<8){n:Int}(hn: -1000000000<=n/\n<=1000000000):bI (vD b k n)=0/\(vD b k n).v.length=8:=by
 obtain⟨h1,h2⟩:=(xf b).1 hb;refine⟨(xf _).2 ⟨?_,λj hj=> ?_⟩,by unfold vD;rw[de,hv]⟩
 ·have:=(SS b.k.toNat k 0 (by omega) hk (by omega)).2;unfold vD;simp only;omega
 ·unfold vD;simp only[fw];rw[(SS b.k.toNat k j (by omega) hk hj).1,IK hv hk];by_cases e:j=k
  ·rw[if_pos e];simp[e,hn]
  ·rw[if_neg e];have:decide (k=j)=ay:=by simpa using λh=>e h.symm
   rw[this,Bool.or_false];exact h2 j hj
def MI {b:aQ}(hb:bI b=0)(hv:b.v.length=8){k:Nat}(hk:k<8)(ht:b.k.toNat.testBit k=aw):bI (tk b k)=0/\(tk b k).v.length=8:=by
 obtain⟨h1,h2⟩:=(xf b).1 hb;refine⟨(xf _).2 ⟨?_,λj hj=> ?_⟩,by unfold tk;rw[de,hv]⟩
 ·unfold tk;simp only;have:=Nat.sub_le b.k.toNat (2^k);generalize b.k.toNat-2^k=q at *;omega
 ·unfold tk;simp only[fw];rw[Z9 b.k.toNat k j (by omega) hk hj ht,IK hv hk];by_cases e:j=k
  ·rw[if_pos e];simp
  ·rw[if_neg e];have:decide (k=j)=ay:=by simpa using λh=>e h.symm
   rw[this];simpa using h2 j hj
def NB {ls:List (Int×Bool)}{k:Nat}(hk:k<ls.length)(g:Int)(b:Bool)(s g':Int):eI (ls.set k (g,b)) s g'=if s=(k:Int)then(decide (g=g')&&b)else eI ls s g':=by
 unfold eI;rw[de];by_cases e:s=(k:Int)
 ·subst e;rw[if_pos rfl];simp[hk,aY]
 ·rw[if_neg e];by_cases h0:0<=s
  ·have eb:k≠s.toNat:=by omega
   rw[aY,List.getElem?_set_ne eb,<-aY]
  ·simp[h0]
def Y5 (ls:List (Int×Bool))(s g':Int):eI (ls++[(0,aw)]) s g'=if s=(ls.length:Int)then decide (0=g')else eI ls s g':=by
 unfold eI;rw[aZ,List.length_singleton];by_cases e:s=(ls.length:Int)
 ·subst e;rw[if_pos rfl];have h1:decide ((ls.length:Int)<((ls.length+1:Nat):Int))=aw:=decide_eq_true (by omega);rw[h1];simp[aY]
 ·rw[if_neg e];by_cases h0:0<=s
  ·by_cases h1:s<ls.length
   ·have h3:decide (s<((ls.length+1:Nat):Int))=aw:=decide_eq_true (by omega);rw[aY,List.getElem?_append_left (by omega),<-aY,h3,decide_eq_true h1]
   ·have h3:decide (s<((ls.length+1:Nat):Int))=ay:=decide_eq_false (by omega);rw[h3,decide_eq_false h1];simp
  ·simp[h0]
def BI {ls:List (Int×Bool)}(h60:ls.length<=60):jS ls=(ls,(0,0),2)\/ ∃(k:Nat) (g:Int) (QB:List (Int×Bool)),jS ls=(QB,((k:Int),g),0)/\k<60/\(∀g',eI ls k g'=ay)/\ ∀s g',eI QB s g'=if s=(k:Int)then decide (g=g')else eI ls s g':=by
 unfold jS;by_cases bJ:ls.findIdx lT<ls.length
 ·right;rw[if_pos bJ];refine⟨_,_,_,rfl,by omega,λg'=> ?_,λs g'=> ?_⟩
  ·have hf:=List.findIdx_getElem (w:=bJ);simp only[lT,aG,iT]at hf;rw[I9 bJ,sl,Dj bJ,hf.1,Bool.and_false]
  ·rw[NB bJ];simp
 ·rw[if_neg bJ];by_cases h:ls.length=60
  ·exact bm (by rw[if_pos h])
  ·right;rw[if_neg h];refine⟨_,_,_,rfl,by omega,λg'=> ?_,λs g'=>Y5 ls s g'⟩;unfold eI;simp
structure pX (ls:List (Int×Bool)) (f:BF):Prop where
 so:SOk ls
 lv: ∀s g,eI ls s g=aw↔ ∃b,f s=ae (g,b)
 bo: ∀s g b,f s=ae (g,b)->bI b=0/\b.v.length=8
def pX.nil:pX [] (λ_=>ai):=⟨SOk.nil,λs g=>by simp[eI],by simp⟩
def gB (ls:List (Int×Bool))(f:BF)(b:aQ):(List (Int×Bool)×BF)×(Int×Int)×Int:=
 if bI b≠0 then((ls,f),(0,0),bI b)
 else if(jS ls).2.2=0 then(((jS ls).1,ei f (jS ls).2.1.1 (ae ((jS ls).2.1.2,b))),(jS ls).2.1,0)
 else(((jS ls).1,f),(jS ls).2.1,(jS ls).2.2)
def ou (ls:List (Int×Bool))(f:BF)(h:Int×Int):(List (Int×Bool)×BF)×Int:=if eI ls h.1 h.2 then(((pY ls h.1 h.2).1,ei f h.1 ai),0)else((ls,f),7)
def cZ (f:BF)(s:Int):aQ:=((f s).getD (0,⟨0,[]⟩)).2
def tV (ls:List (Int×Bool))(f:BF)(h:Int×Int)(kind n:Int):BF×Int:=
 if !eI ls h.1 h.2 then(f,7)else if¬(0<=kind/\kind<8)\/n< -1000000000\/1000000000<n then(f,1)
 else(ei f h.1 (ae (h.2,vD (cZ f h.1) kind.toNat n)),0)
def q9 (ls:List (Int×Bool))(f:BF)(h:Int×Int)(kind:Int):BF×Int:=
 if !eI ls h.1 h.2 then(f,7)else if¬(0<=kind/\kind<8)then(f,1)
 else if(cZ f h.1).k.toNat.testBit kind.toNat=ay then(f,5)
 else(ei f h.1 (ae (h.2,tk (cZ f h.1) kind.toNat)),0)
section
variable {ls:List (Int×Bool)} {f:BF}
def pX.get (h:pX ls f){s g:Int}(hl:eI ls s g=aw):f s=ae (g,cZ f s):=by obtain⟨b,hb⟩:=(h.lv s g).1 hl;unfold cZ;rw[hb];rfl
def pX.upd (h:pX ls f){s g:Int}(hl:eI ls s g=aw){b:aQ}(hb:bI b=0/\b.v.length=8):pX ls (ei f s (ae (g,b))):=by
 refine⟨h.so,λs' g'=> ?_,λs' g' b' hs=> ?_⟩
 ·unfold ei;by_cases e:s'=s
  ·subst e;rw[if_pos rfl];constructor
   ·intro SC;have h1:=h.get hl;rw[h.get SC]at h1;injection h1 with h1
    injection h1 with h1 _
    exact⟨b,by rw[h1]⟩
   ·rintro⟨b',jP⟩;injection jP with jP
    injection jP with h1 _
    rw[<-h1];exact hl
  ·rw[if_neg e];exact h.lv s' g'
 ·unfold ei at hs
  split at hs
  ·injection hs with hs
   injection hs with _ hs
   rw[<-hs];exact hb
  ·exact h.bo s' g' b' hs
def pX.spawn (h:pX ls f){b:aQ}(hv:b.v.length=8):pX (gB ls f b).1.1 (gB ls f b).1.2:=by
 unfold gB;by_cases hb:bI b=0
 ·rw[if_neg (λh=>h hb)];rcases BI h.so.1 with ht|⟨k,g,QB,ht,hk,M5,ac2⟩
  ·rw[ht,if_neg (by simp)];exact h
  ·have h1:=acz h.so;rw[ht]at h1|-;rw[if_pos rfl];refine⟨h1,λs g'=> ?_,λs g' b' hs=> ?_⟩
   ·simp only;rw[ac2];unfold ei;by_cases e:s=(k:Int)
    ·rw[if_pos e,if_pos e];simp
    ·rw[if_neg e,if_neg e];exact h.lv s g'
   ·simp only[ei]at hs
    split at hs
    ·injection hs with hs
     injection hs with _ hs
     rw[<-hs];exact⟨hb,hv⟩
    ·exact h.bo s g' b' hs
 ·rw[if_pos hb];exact h
def pX.kill (h:pX ls f)(x:Int×Int):pX (ou ls f x).1.1 (ou ls f x).1.2:=by
 unfold ou
 split
 ·rename_i hl
  refine⟨abb h.so _ _,λs g=> ?_,λs g b hs=> ?_⟩
  ·obtain⟨k,Yv,hk2,Yw⟩:=tN hl;simp only;unfold pY;rw[if_pos hl];simp only[Yv,fw];rw[NB hk2];unfold ei;by_cases e:s=(k:Int)
   ·rw[if_pos e,if_pos e];simp
   ·rw[if_neg e,if_neg e];exact h.lv s g
  ·simp only[ei]at hs
   split at hs
   ·cases hs
   ·exact h.bo s g b hs
 ·exact h
def pX.put (h:pX ls f)(x:Int×Int)(kind n:Int):pX ls (tV ls f x kind n).1:=by
 unfold tV
 split
 ·exact h
 ·rename_i hl
  split
  ·exact h
  ·rename_i hc
   have hl:eI ls x.1 x.2=aw:=by simpa using hl
   obtain⟨h1,h2⟩:=h.bo _ _ _ (h.get hl);exact h.upd hl (Dt h1 h2 (by omega) (by omega))
def pX.drop (h:pX ls f)(x:Int×Int)(kind:Int):pX ls (q9 ls f x kind).1:=by
 unfold q9
 split
 ·exact h
 ·rename_i hl
  split
  ·exact h
  ·split
   ·exact h
   ·rename_i hk ht
    have hl:eI ls x.1 x.2=aw:=by simpa using hl
    obtain⟨h1,h2⟩:=h.bo _ _ _ (h.get hl);exact h.upd hl (MI h1 h2 (by omega) (by simpa using ht))
end
def Fj (f:BF)(h:Int×Int):Option cQ:=(f h.1).map λx=>⟨h,x.2⟩
def wP (ls:List (Int×Bool))(f:BF)(q:Query):List cQ:=((rF ls).filterMap (Fj f)).filter λr=>fO r.b.k q
def Z1 (a b:cQ):Prop:=a.h.1<b.h.1
def zM (ls:List (Int×Bool)): ∀k,(rG ls k).Pairwise (λa b=>a.1<b.1)/\ ∀x∈rG ls k,x.1<k
 |0=>⟨List.Pairwise.nil,by simp[rG]⟩
 |k+1=>by
  obtain⟨h1,h2⟩:=zM ls k;rw[rG];refine⟨List.pairwise_append.2 ⟨h1,by split<;>simp,λa ha b hb=> ?_⟩,λx hx=> ?_⟩
  ·have:=h2 a ha
   split at hb
   ·rw[eO.1 hb];exact this
   ·cases hb
  ·rcases jh.1 hx with hx|hx
   ·have:=h2 x hx;omega
   ·split at hx
    ·rw[eO.1 hx];show(k:Int)<_;omega
    ·cases hx
def uP {ls:List (Int×Bool)}{h:Int×Int}:h∈rF ls↔eI ls h.1 h.2=aw:=by
 rw[Y6];constructor
 ·rintro⟨j,hj,rfl,h2⟩;show eI ls (j:Int) (sl ls j).1=aw;rw[I9 hj,h2];simp
 ·intro hl;obtain⟨k,h1,h2,h3⟩:=tN hl;refine⟨k,h2,?_,?_⟩
  ·show h=((k:Int),(ls.getD k (0,ay)).1);rw[h3];exact Prod.ext h1 rfl
  ·show(ls.getD k (0,ay)).2=aw;rw[h3]
section
variable {ls:List (Int×Bool)} {f:BF}
def SL (h:pX ls f){r:cQ}:r∈(rF ls).filterMap (Fj f)↔f r.h.1=ae (r.h.2,r.b):=by
 rw[List.mem_filterMap];constructor
 ·rintro⟨x,hx,he⟩;have hl:=uP.1 hx;have hg:=h.get hl;unfold Fj at he;rw[hg]at he;simp only[fS,dS]at he;rw[<-he];exact hg
 ·intro hr;refine⟨r.h,uP.2 ((h.lv _ _).2 ⟨_,hr⟩),?_⟩;unfold Fj;rw[hr];rfl
def UD (h:pX ls f){q:Query}{r:cQ}:r∈wP ls f q↔f r.h.1=ae (r.h.2,r.b)/\fO r.b.k q=aw:=by unfold wP;rw[cm,SL h]
def uy (ls:List (Int×Bool))(f:BF):((rF ls).filterMap (Fj f)).Pairwise Z1:=by refine List.Pairwise.filterMap _ ?_ (zM ls ls.length).1;intro a b jM x hx y hy;unfold Fj at hx hy;obtain⟨_,_,rfl⟩:=aJ.1 hx;obtain⟨_,_,rfl⟩:=aJ.1 hy;exact jM
def Lg (ls:List (Int×Bool))(f:BF)(q:Query):(wP ls f q).Pairwise Z1:=(uy ls f).filter _
def Aj {l:List cQ}(h:l.Pairwise Z1):l.Nodup:=h.imp λ{a b} h e=>by unfold Z1 at h;rw[e]at h;omega
def acd {l l':List cQ}(h:l.Pairwise Z1)(h':l'.Pairwise Z1)(he: ∀r,r∈l↔r∈l'):l=l':=by
 refine List.Perm.eq_of_pairwise (le:=Z1) (λa b _ _ h1 h2=>by unfold Z1 at h1 h2;omega) h h' ?_
 classical
 exact(List.perm_ext_iff_of_nodup (Aj h) (Aj h')).2 he
def CM:Query:=⟨0,0,0⟩
def Vj (ls:List (Int×Bool))(f:BF)(q:Query):(wP ls f q).length<=ls.length:=by unfold wP;refine bM (jA _ _) (bM (List.length_filterMap_le _ _) ?_);unfold rF;exact I' ls _
def Rr {T:WT}{f:BF}(hT:nS T f)(hk: ∀K∈T.ks,∀r∈T.rw K,r.b.k=K)(q:Query){r:cQ}:(∃K∈T.ks,fO K q=aw/\r∈T.rw K)↔f r.h.1=ae (r.h.2,r.b)/\fO r.b.k q=aw:=by
 constructor
 ·rintro⟨K,hK,hm,hr⟩;obtain⟨i,hi,hir⟩:=dK.1 hr;obtain⟨h1,_⟩:=hT.at_ K hK i r (by rw[aq hi,hir]);rw[hk K hK r hr];exact⟨h1,hm⟩
 ·rintro⟨h1,h2⟩;obtain⟨K,hK,i,hi⟩:=hT.all _ _ _ h1;have hr:r∈T.rw K:=pM hi;exact⟨K,hK,by rw[<-hk K hK r hr];exact h2,hr⟩
def OT {T:WT}(hT:nS T f)(h:pX ls f)(hk: ∀K∈T.ks,∀r∈T.rw K,r.b.k=K)(q:Query){ks:List Int}(hp:ks.Perm T.ks){ys:List cQ}(hy:ys.Perm ((ks.filter λK=>fO K q).flatMap T.rw))(hs:ys.Pairwise λa b=> ¬b.h.1<a.h.1):ys=wP ls f q:=by
 have jB: ∀r,r∈ys↔f r.h.1=ae (r.h.2,r.b)/\fO r.b.k q=aw:=by
  intro r;rw[hy.mem_iff,List.mem_flatMap,<-Rr hT hk q];constructor
  ·rintro⟨K,hK,hr⟩;rw[cm]at hK;exact⟨K,hp.mem_iff.1 hK.1,hK.2,hr⟩
  ·rintro⟨K,hK,hm,hr⟩;exact⟨K,cm.2 ⟨hp.mem_iff.2 hK,hm⟩,hr⟩
 have Ey:(((ks.filter λK=>fO K q).flatMap T.rw).map λr=>r.h.1).Nodup:=by
  have Uo:(ks.filter λK=>fO K q).Nodup:=(hp.nodup_iff.2 hT.nd).sublist List.filter_sublist;have mW: ∀K∈(ks.filter λK=>fO K q),K∈T.ks:=λK hK=>hp.mem_iff.1 (cm.1 hK).1
  generalize (ks.filter λK=>fO K q)=zs at Uo mW
  induction zs with
  |nil=>simp
  |cons K zs ih=>
   obtain⟨g1,g2⟩:=List.nodup_cons.1 Uo;rw[bN,ey,List.nodup_append];have key: ∀K'∈T.ks,∀(i:Nat) r,(T.rw K')[i]? =ae r->dY T.ps r.h.1=ae (K',(i:Int)):=λK' jX i r hr=>(hT.at_ K' jX i r hr).2
   refine⟨?_,ih g2 (λK' jX=>mW K' (mg _ jX)),?_⟩
   ·refine NM λi j x M9 hi hj=> ?_
    rw[dN]at hi hj;obtain⟨r,hr,rfl⟩:=aJ.1 hi;obtain⟨r',Av,e⟩:=aJ.1 hj;have h1:=key K (mW K (by simp)) i r hr;have h2:=key K (mW K (by simp)) j r' Av;rw[<-e,h2]at h1;injection h1 with h1
    injection h1 with _ h1
    omega
   ·intro a ha b hb e;obtain⟨r,hr,rfl⟩:=aH.1 ha;obtain⟨r',Av,rfl⟩:=aH.1 hb;obtain⟨K',jX,Av⟩:=List.mem_flatMap.1 Av;obtain⟨i,hi,hir⟩:=dK.1 hr;obtain⟨j,hj,hjr⟩:=dK.1 Av;have h1:=key K (mW K (by simp)) i r (by rw[aq hi,hir]);have h2:=key K' (mW K' (mg _ jX)) j r' (by rw[aq hj,hjr]);rw[e,h2]at h1;injection h1 with h1
    injection h1 with h1 _
    exact g1 (by rw[<-h1];exact jX)
 have hyn:(ys.map λr=>r.h.1).Nodup:=(hy.map _).nodup_iff.2 Ey;refine acd ?_ (Lg ls f q) λr=>by rw[jB,UD h]
 rw[List.Nodup,List.pairwise_map]at hyn;exact(hs.and hyn).imp λ{a b} ⟨h1,h2⟩=>by unfold Z1;omega
end
section
variable {ls:List (Int×Bool)} {f:BF}
def DZ (ls:List (Int×Bool))(f:BF):List cQ:=(rF ls).filterMap (Fj f)
def nX (h:pX ls f){r:cQ}:r∈DZ ls f↔f r.h.1=ae (r.h.2,r.b):=SL h
def Fo (hz: ∀k,fO k CM=aw):wP ls f CM=DZ ls f:=by unfold wP DZ;exact List.filter_eq_self.2 λr _=>hz _
def Y7 (h:pX ls f){x y:Int×Int}(hx:eI ls x.1 x.2=aw)(hy:eI ls y.1 y.2=aw)(e:x.1=y.1):x=y:=by
 have h1:=h.get hx;have h2:=h.get hy;rw[e]at h1;rw[h1]at h2;injection h2 with h2
 injection h2 with h2 _
 exact Prod.ext e h2
end
def Alike (m m':kN):Prop:= ∀x,dY m x=dY m' x
section
variable {m m':kN} {c p h x y:Hd}
def yd (hn:(aW m).Nodup):m.Nodup:=List.Pairwise.of_map (·.1) (λa b eb e=>eb (by rw[e])) hn
def Alike.symm (ha:Alike m m'):Alike m' m:=λx=>(ha x).symm
def vQ (hn:(aW m).Nodup):Alike (dU m) m:=λx=>by have hp:(dU m).Perm m:=gG m _;have hn':(aW (dU m)).Nodup:=(hp.map _).nodup_iff.2 hn;apply Option.ext;intro v;rw[nY hn',nY hn,hp.mem_iff]
def B6 (hn:(aW m).Nodup):(aW (dU m)).Nodup:=((gG m _).map _).nodup_iff.2 hn
def vU (hn:(aW m).Nodup)(hn':(aW m').Nodup)(ha:Alike m m'):dU m=dU m':=by
 have hp:(dU m').Perm m:=by
  have h1:m'.Perm m:=(List.perm_ext_iff_of_nodup (yd hn') (yd hn)).2 λb=>by rw[<-nY hn',<-nY hn,ha]
  exact(gG m' _).trans h1
 exact(lh (·.1) (qV hn) hp (nW (·.1) m')).symm
def Mp (hn:(aW m).Nodup):dU (dU m)=dU m:=vU (B6 hn) hn (vQ hn)
def Alike.up (ha:Alike m m')(hu:Up m x y):Up m' x y:=hu.mono λc p e=>by rw[<-ha];exact e
def Alike.aeZ (ha:Alike m m'):Up m x y↔Up m' x y:=⟨ha.up,ha.symm.up⟩
def Alike.kids (hn:(aW m).Nodup)(hn':(aW m').Nodup)(ha:Alike m m')(h:Hd):kids m h=kids m' h:=by refine BG ((List.perm_ext_iff_of_nodup (yC hn h) (yC hn' h)).2 λx=> ?_) (nK _) (nK _);rw[lX hn,lX hn',ha]
def Alike.yq (ha:Alike m m')(h:pO m):pO m':=h.sub λc p e=>by rw[ha];exact e
def Alike.under (hm:kg m)(Ws:kg m')(ha:Alike m m')(h:Hd):under m h=under m' h:=by
 refine va hm.nodup hm.yq (λh=>Go.Proofs.YtknejlcijdngoaaGreat.under m h=Go.Proofs.YtknejlcijdngoaaGreat.under m' h) (λh ih=> ?_) h;rw[wW hm.nodup hm.yq,wW Ws.nodup Ws.yq,Alike.kids hm.nodup Ws.nodup ha];refine qu λc hc=> ?_
 rw[ih c (by rw[ha];exact(lX Ws.nodup).1 hc)]
def Alike.put (ha:Alike m m')(c p:Hd):Alike (hZ m c p) (hZ m' c p):=λx=>by rw[ko,ko,ha]
def Alike.del (ha:Alike m m')(c:Hd):Alike (dZ m c) (dZ m' c):=λx=>by rw[oK,oK,ha]
def Alike.zd (ha:Alike m m')(c p:Hd):Alike (ik m c p).1 (ik m' c p).1/\(ik m c p).2=(ik m' c p).2:=by
 unfold ik;have e:(c=p\/Up m p c)↔(c=p\/Up m' p c):=by rw[ha.aeZ]
 by_cases hc:c=p\/Up m p c
 ·rw[if_pos hc,if_pos (e.1 hc)];exact⟨ha,rfl⟩
 ·rw[if_neg hc,if_neg (λh=>hc (e.2 h))];exact⟨ha.put c p,rfl⟩
def Alike.loosen (ha:Alike m m')(c:Hd):Alike (fT m c).1 (fT m' c).1/\(fT m c).2=(fT m' c).2:=by
 unfold fT;rw[ha c]
 split
 ·exact⟨ha.del c,rfl⟩
 ·exact⟨ha,rfl⟩
end
def Il:dU []=[]:=by unfold dU;simp
structure ZS where
 ls:List (Int×Bool)
 f:BF
 B:kN
def ZS.live (z:ZS)(h:Hd):Bool:=eI z.ls h.1 h.2
structure kI (z:ZS):Prop where
 w:pX z.ls z.f
 yw:kg z.B
 Z5:dU z.B=z.B
 lv: ∀b∈z.B,z.live b.1=aw/\z.live b.2=aw
def vF:ZS:=⟨[],λ_=>ai,[]⟩
def kI.nil:kI vF:=⟨pX.nil,kg.nil,by unfold vF dU;simp,by simp[vF]⟩
def ZS.rows (z:ZS):List cQ:=DZ z.ls z.f
def Cl (z:ZS)(x:Hd):ZS:=⟨(ou z.ls z.f x).1.1,(ou z.ls z.f x).1.2,o5 z.B x⟩
def vn (z:ZS)(l:List Hd):ZS:=l.foldl Cl z
noncomputable def Cm (z:ZS)(x:Hd):List Hd:=(under z.B x).reverse++[x]
noncomputable def tK (z:ZS)(x:Hd):ZS×Int:=if z.live x=aw then(vn z (Cm z x),0)else(z,7)
noncomputable def sF (z:ZS)(c p:Hd):ZS×Int:=if z.live c=aw/\z.live p=aw then(⟨z.ls,z.f,dU (ik z.B c p).1⟩,(ik z.B c p).2)else(z,7)
def oW (z:ZS)(c:Hd):ZS×Int:=if z.live c=aw then(⟨z.ls,z.f,(fT z.B c).1⟩,(fT z.B c).2)else(z,7)
noncomputable def wa (z:ZS)(o:lD):ZS×Hd×Int:=
 if o.d=1 then(⟨(gB z.ls z.f o.b).1.1,(gB z.ls z.f o.b).1.2,z.B⟩,(gB z.ls z.f o.b).2.1,(gB z.ls z.f o.b).2.2)
 else if o.d=2 then((tK z o.a).1,(0,0),(tK z o.a).2)
 else if o.d=3 then(⟨z.ls,(tV z.ls z.f o.a o.k o.n).1,z.B⟩,(0,0),(tV z.ls z.f o.a o.k o.n).2)
 else if o.d=4 then(⟨z.ls,(q9 z.ls z.f o.a o.k).1,z.B⟩,(0,0),(q9 z.ls z.f o.a o.k).2)
 else if o.d=5 then((sF z o.a o.t).1,(0,0),(sF z o.a o.t).2)
 else if o.d=6 then((oW z o.a).1,(0,0),(oW z o.a).2)
 else(z,(0,0),1)
noncomputable def D9 (os:List lD):ZS:=os.foldl (λz o=>(wa z o).1) vF
noncomputable def qZ (os:List lD)(k:Nat):ZS:=D9 (os.take k)
def MG (os:List lD)(k:Nat)(h:k<os.length):qZ os (k+1)=(wa (qZ os k) os[k]).1:=by unfold qZ D9;rw[bh h,j5];rfl
section
variable {z:ZS} {x c p:Hd}
def I7 (h:pX z.ls z.f)(y:Hd):eI (ou z.ls z.f x).1.1 y.1 y.2=(eI z.ls y.1 y.2&& !decide (y=x)):=by
 have h1:=(h.kill x).lv y.1 y.2;have h2:=h.lv y.1 y.2;rw[l8,h1,aG,h2];unfold ou;by_cases hl:eI z.ls x.1 x.2=aw
 ·rw[if_pos hl];simp only[ei];by_cases e:y.1=x.1
  ·rw[if_pos e];constructor
   ·rintro⟨b,hb⟩;cases hb
   ·rintro⟨hb,eb⟩;exact absurd (Y7 h (h2.2 hb) hl e) (by simpa using eb)
  ·rw[if_neg e];have eb:y≠x:=λe'=>e (by rw[e'])
   simp[eb]
 ·rw[if_neg hl];constructor
  ·intro hb;refine⟨hb,?_⟩;have eb:y≠x:=λe=>hl (by rw[<-e];exact h2.2 hb)
   simpa using eb
  ·exact λhb=>hb.1
def kI.Cl (h:kI z)(x:Hd):kI (Cl z x):=by
 refine⟨h.w.kill x,h.yw.gone x,?_,λb hb=> ?_⟩
 ·change dU (o5 z.B x)=o5 z.B x;rw[D5 h.yw.nodup,h.Z5];rfl
 ·have jP:b∈z.B/\ ¬b.1=x/\ ¬b.2=x:=by have hb:b∈o5 z.B x:=hb;unfold o5 at hb;rw[cm]at hb;simpa using hb
  have h1:=h.lv b jP.1;change eI (ou z.ls z.f x).1.1 b.1.1 b.1.2=aw/\eI (ou z.ls z.f x).1.1 b.2.1 b.2.2=aw;rw[I7 h.w,I7 h.w];have h11:eI z.ls b.1.1 b.1.2=aw:=h1.1;have h12:eI z.ls b.2.1 b.2.2=aw:=h1.2;rw[h11,h12];simp[jP.2.1,jP.2.2]
def kI.vn (h:kI z)(l:List Hd):kI (vn z l):=by
 unfold Go.Proofs.YtknejlcijdngoaaGreat.vn
 induction l generalizing z with
 |nil=>exact h
 |cons a l ih=>exact ih (h.Cl a)
def kI.kill (h:kI z)(x:Hd):kI (tK z x).1:=by
 unfold tK
 split
 ·exact h.vn _
 ·exact h
def kI.zd (h:kI z)(c p:Hd):kI (sF z c p).1:=by
 unfold sF
 split
 ·rename_i hl
  have h1:=h.yw.zd c p;refine⟨h.w,⟨B6 h1.nodup,(vQ h1.nodup).symm.yq h1.yq⟩,Mp h1.nodup,λb hb=> ?_⟩;change b∈dU (ik z.B c p).1 at hb;rw[UC h1.nodup]at hb;have old:dY z.B b.1=ae b.2->z.live b.1=aw/\z.live b.2=aw:=λe=>h.lv b ((nY h.yw.nodup).1 e)
  unfold ik at hb
  split at hb
  ·exact old hb
  ·simp only at hb;rw[ko]at hb
   split at hb
   ·rename_i e
    injection hb with hb
    rw[e,<-hb];exact hl
   ·exact old hb
 ·exact h
def Hc (h:dU z.B=z.B)(P:Hd×Hd->Bool)(hn:(aW z.B).Nodup):dU (z.B.filter P)=z.B.filter P:=by have hs:=nW (λb:Hd×Hd=>b.1) z.B;change List.Pairwise _ (dU z.B)at hs;rw[h]at hs;exact(lh (λb:Hd×Hd=>b.1) (qV (m:=z.B.filter P) (hn.sublist (List.filter_sublist.map _))) (qK _) (hs.sublist List.filter_sublist)).symm
def kI.loosen (h:kI z)(c:Hd):kI (oW z c).1:=by
 unfold oW
 split
 ·refine⟨h.w,h.yw.loosen c,?_,λb hb=> ?_⟩
  ·unfold fT
   split
   ·exact Hc h.Z5 _ h.yw.nodup
   ·exact h.Z5
  ·change b∈(fT z.B c).1 at hb;unfold fT at hb
   split at hb
   ·exact h.lv b (fP.1 hb).1
   ·exact h.lv b hb
 ·exact h
def Jb {ls QB:List (Int×Bool)}{f f':BF}(h:pX ls f)(h':pX QB f')(hs: ∀s g b,f s=ae (g,b)-> ∃b',f' s=ae (g,b')){s g:Int}(hl:eI ls s g=aw):eI QB s g=aw:=by obtain⟨b,hb⟩:=(h.lv s g).1 hl;exact(h'.lv s g).2 (hs s g b hb)
def JC {ls:List (Int×Bool)}{f:BF}(h:pX ls f){b:aQ}(s g:Int)(b0:aQ)(e:f s=ae (g,b0)):(gB ls f b).1.2 s=ae (g,b0):=by
 unfold gB;by_cases hb:bI b=0
 ·rw[if_neg (λh=>h hb)];rcases BI h.so.1 with ht|⟨k,g',QB,ht,hk,M5,ac2⟩
  ·rw[ht,if_neg (by simp)];exact e
  ·rw[ht,if_pos rfl];simp only[ei];rw[if_neg]
   ·exact e
   ·intro e2;have:=(h.lv s g).2 ⟨_,e⟩;rw[e2,M5]at this;cases this
 ·rw[if_pos hb];exact e
def kI.do_ (h:kI z){o:lD}(hv:o.b.v.length=8):kI (wa z o).1:=by
 unfold wa
 split
 ·have h1:=h.w.spawn (b:=o.b) hv;refine⟨h1,h.yw,h.Z5,λb hb=> ?_⟩;have h2:=h.lv b hb;exact⟨Jb h.w h1 (λs g b e=>⟨b,JC h.w s g b e⟩) h2.1,Jb h.w h1 (λs g b e=>⟨b,JC h.w s g b e⟩) h2.2⟩
 ·split
  ·exact h.kill _
  ·split
   ·exact⟨h.w.put _ _ _,h.yw,h.Z5,h.lv⟩
   ·split
    ·exact⟨h.w.drop _ _,h.yw,h.Z5,h.lv⟩
    ·split
     ·exact h.zd _ _
     ·split
      ·exact h.loosen _
      ·exact h
def T1 (os:List lD)(hv: ∀o∈os,o.b.v.length=8)(h:kI z):kI (os.foldl (λz o=>(wa z o).1) z):=by
 induction os generalizing z with
 |nil=>exact h
 |cons o os ih=>exact ih (λo ho=>hv o (by simp[ho])) (h.do_ (hv o (by simp)))
def MH {os:List lD}(hv: ∀o∈os,o.b.v.length=8):kI (D9 os):=T1 os hv kI.nil
def T0 {os:List lD}(hv: ∀o∈os,o.b.v.length=8)(k:Nat):kI (qZ os k):=MH λo ho=>hv o (pN ho)
def kI.len (h:kI z):z.B.length<=60:=by
 have h1:=wG (l:=aW z.B) (l':=rF z.ls) h.yw.nodup λx hx=>by obtain⟨b,hb,rfl⟩:=aH.1 hx;exact uP.2 (h.lv b hb).1
 have h2:(rF z.ls).length<=z.ls.length:=by rw[QA];exact List.countP_le_length
 have h3:=h.w.so.1;have h4:(aW z.B).length=z.B.length:=by simp[aW]
 omega
end
def fy (was now:aQ)(k:Nat):aQ:=⟨was.k,rO (λi=>now.v.getD ((kinds was.k.toNat).getD i 0) 0) (kinds was.k.toNat) was.v k⟩
def QM (f:Nat->Int)(l:List Nat)(v:List Int)(hn:l.Nodup){k:Nat}(hk:k<l.length): ∀i,i<=k->(rO f l v i).getD (l.getD k 0) 0=v.getD (l.getD k 0) 0:=by
 intro i
 induction i with
 |zero=>intro _;rfl
 |succ i ih=>
  intro hi;unfold rO;rw[wj,if_neg]
  ·exact ih (by omega)
  ·rintro⟨e,_⟩;rw[oV (show i<l.length by omega),oV hk]at e;exact(lO.1 (List.nodup_iff_pairwise_ne.1 hn) i k (by omega) hk (by omega)) e
def Vt {v:List Int}{k:Nat}{x:Int}(h:v.getD k 0=x)(hk:k<v.length):v.set k x=v:=by
 apply List.ext_getElem (by simp);intro i h1 h2;rw[List.getElem_set]
 split
 ·rename_i e
  subst e;rw[<-h];simp[bB,hk]
 ·rfl
section
variable {was now:aQ}
def NJ {k:Nat}:(fy was now k).v.length=was.v.length:=zS _ _ _ _
def Cq {k:Nat}:fy was now (k+1)=⟨was.k,(fy was now k).v.set ((kinds was.k.toNat).getD k 0) (now.v.getD ((kinds was.k.toNat).getD k 0) 0)⟩:=rfl
def NI (hv:was.v.length=8){k:Nat}(hk:k<(kinds was.k.toNat).length)(he:now.v.getD (kinds was.k.toNat)[k] 0=was.v.getD (kinds was.k.toNat)[k] 0):fy was now (k+1)=fy was now k:=by
 have hm:=(jN was.k.toNat _).1 (bg hk);rw[Cq,oV hk];have h1:=QM (λi=>now.v.getD ((kinds was.k.toNat).getD i 0) 0) (kinds was.k.toNat) was.v (sk _) hk k (ax _);rw[oV hk]at h1;have h2:(fy was now k).v.getD (kinds was.k.toNat)[k] 0=now.v.getD (kinds was.k.toNat)[k] 0:=h1.trans he.symm;rw[Vt h2 (by rw[NJ,hv];exact hm.1)]
 rfl
def EL (rY:bI was=0){k:Nat}(hk:k<(kinds was.k.toNat).length):vD (fy was now k) (kinds was.k.toNat)[k] (now.v.getD (kinds was.k.toNat)[k] 0)=fy was now (k+1):=by have hm:=(jN was.k.toNat _).1 (bg hk);have hb:=(mU was rY).1;unfold vD;rw[Cq,oV hk];have hkk:(fy was now k).k=was.k:=rfl;rw[hkk,SU was.k.toNat _ (by omega) hm.1 hm.2];congr 1;omega
def QG (hv:was.v.length=8)(hn:now.k=was.k)(Cj:now.v.length=8)(SB: ∀j,j∉kinds was.k.toNat->now.v.getD j 0=was.v.getD j 0):fy was now (kinds was.k.toNat).length=now:=by
 have e:(fy was now (kinds was.k.toNat).length).v=now.v:=by
  apply List.ext_getElem (by rw[NJ,hv,Cj]);intro j h1 h2;have hj:j<8:=by omega
  have g1:(fy was now (kinds was.k.toNat).length).v.getD j 0=now.v.getD j 0:=by
   by_cases hm:j∈kinds was.k.toNat
   ·obtain⟨i,hi,rfl⟩:=dK.1 hm;have h3:=SV (λi=>now.v.getD ((kinds was.k.toNat).getD i 0) 0) (kinds was.k.toNat) was.v (sk _) _ (ax _) i hi (by rw[oV hi,hv];exact hj);rw[oV hi]at h3;exact h3
   ·rw[SB j hm];exact NV _ _ _ _ hm _ (ax _)
  simpa[bB,h1,h2]using g1
 have e2:(fy was now (kinds was.k.toNat).length)=⟨was.k,(fy was now (kinds was.k.toNat).length).v⟩:=rfl;rw[e2,e,<-hn]
end
def Rx (f:BF)(s:Int)(x y:Option (Int×aQ)):ei (ei f s x) s y=ei f s y:=by
 funext k;unfold ei
 split<;>rfl
def VC (f:BF)(s:Int){x:Option (Int×aQ)}(h:f s=x):ei f s x=f:=by
 funext k;unfold ei
 split
 ·rename_i e;rw[e,h]
 ·rfl
def wI (f:BF)(s:Sys):BF:=λk=>(f k).map λx=>(x.1,cD x.2 s)
def sr (f:BF)(s:Sys)(l:List cQ):BF:=l.foldl (λf r=>ei f r.h.1 (ae (r.h.2,cD r.b s))) f
def Ac (f:BF)(s:Sys)(l:List cQ)(r:cQ):sr f s (l++[r])=ei (sr f s l) r.h.1 (ae (r.h.2,cD r.b s)):=by unfold sr;rw[j5];rfl
def CI (f:BF)(s:Sys)(l:List cQ){k:Int}(h: ∀r∈l,r.h.1≠k):sr f s l k=f k:=by
 unfold sr
 induction l generalizing f with
 |nil=>rfl
 |cons r l ih=>rw[l9,ih _ λr hr=>h r (by simp[hr])];unfold ei;rw[if_neg (λe=>h r (by simp) e.symm)]
def Ox {ls:List (Int×Bool)}{f:BF}(hk:pX ls f)(s:Sys):sr f s (DZ ls f)=wI f s:=by
 have key: ∀(n:Nat) (l:List cQ),l.length=n->(∀r∈l,f r.h.1=ae (r.h.2,r.b))-> ∀k,(∃r∈l,r.h.1=k)->sr f s l k=wI f s k:=by
  intro n
  induction n with
  |zero=>rintro l h0 _ k ⟨r,hr,_⟩;rw[ft h0]at hr;cases hr
  |succ n ih=>
   intro l hn hl k hx;have eb:l≠ []:=by intro e;rw[e]at hn;cases hn
   have e0:=List.dropLast_concat_getLast eb;generalize l.getLast eb=r at e0;generalize hd:l.dropLast=l' at e0;have SC:l'.length=n:=by rw[<-hd,List.length_dropLast,hn];rfl
   clear hd;subst e0;rw[Ac];unfold ei;by_cases e:k=r.h.1
   ·rw[if_pos e];unfold wI;rw[e,hl r (by simp)];rfl
   ·rw[if_neg e];refine ih l' SC (λr hr=>hl r (by simp[hr])) k ?_;obtain⟨r',Av,he⟩:=hx;rcases jh.1 Av with h|h
    ·exact⟨r',h,he⟩
    ·rw[eO]at h;subst h;exact absurd he.symm e
 funext k;by_cases hx: ∃r∈DZ ls f,r.h.1=k
 ·exact key _ _ rfl (λr hr=>(nX hk).1 hr) k hx
 ·have C1:f k=ai:=by
   cases hf:f k with
   |none=>rfl
   |some x=>exact absurd ⟨⟨(k,x.1),x.2⟩,(nX hk).2 hf,rfl⟩ hx
  rw[CI f s _ (λr hr e=>hx ⟨r,hr,e⟩)];unfold wI;rw[C1];rfl
def pX.one {ls:List (Int×Bool)}{f:BF}(h:pX ls f)(s:Sys):pX ls (wI f s):=by
 refine⟨h.so,λk g=> ?_,λk g b hb=> ?_⟩
 ·rw[h.lv];unfold wI;constructor
  ·rintro⟨b,hb⟩;exact⟨cD b s,by rw[hb];rfl⟩
  ·rintro⟨b,hb⟩;obtain⟨x,hx,he⟩:=aJ.1 hb;injection he with h1 h2
   exact⟨x.2,by rw[hx,<-h1]⟩
 ·unfold wI at hb;obtain⟨x,hx,he⟩:=aJ.1 hb;injection he with h1 h2
  have h3:=h.bo k x.1 x.2 hx;rw[<-h2];exact⟨zt _ _ h3.2 h3.1,by rw[fX];exact h3.2⟩
def Rq (z:ZS)(s:Sys):ZS:=⟨z.ls,wI z.f s,z.B⟩
def lM (z:ZS)(ss:List Sys):ZS:=ss.foldl Rq z
def kI.sys {z:ZS}(h:kI z)(s:Sys):kI (Rq z s):=⟨h.w.one s,h.yw,h.Z5,h.lv⟩
def kI.run {z:ZS}(h:kI z)(ss:List Sys):kI (lM z ss):=by
 unfold lM
 induction ss generalizing z with
 |nil=>exact h
 |cons s ss ih=>exact ih (h.sys s)
def Vl (z:ZS)(ss:List Sys){k:Nat}(hk:k<ss.length):lM z (ss.take (k+1))=Rq (lM z (ss.take k)) ss[k]:=by unfold lM;rw[bh hk,j5];rfl
def Plain (o:lD):Prop:=0<=o.a.1/\0<=o.t.1
def jF (b:aQ)(ss:List Sys):aQ:=ss.foldl cD b
def Sb (ss:List Sys): ∀b,(jF b ss).k=b.k:=by
 induction ss with
 |nil=>intro b;rfl
 |cons s ss ih=>intro b;show(jF (cD b s) ss).k=_;rw[ih,oT]
def xj (ss:List Sys): ∀b,(jF b ss).v.length=b.v.length:=by
 induction ss with
 |nil=>intro b;rfl
 |cons s ss ih=>intro b;show(jF (cD b s) ss).v.length=_;rw[ih,fX]
def MF (ss:List Sys): ∀b,b.v.length=8->bI b=0->bI (jF b ss)=0:=by
 induction ss with
 |nil=>intro b _ h;exact h
 |cons s ss ih=>intro b hb h;exact ih _ (by rw[fX];exact hb) (zt b s hb h)
def PW (b:aQ)(ss:List Sys)(s:Sys):jF b (ss++[s])=cD (jF b ss) s:=by unfold jF;rw[j5];rfl
def sP (w:aQ)(l:List Nat)(v:List Int):List Int:=l.foldl (λv k=>v.set k (w.v.getD k 0)) v
def KM (b:aQ)(v:List Int)(s:Sys):List Int:=sP (cD b s) (kinds s.write.toNat) v
def iV (b:aQ)(ss:List Sys):aQ:=⟨b.k,ss.foldl (KM b) b.v⟩
def yF (w:aQ)(l:List Nat): ∀v,(sP w l v).length=v.length:=by
 induction l with
 |nil=>intro v;rfl
 |cons k l ih=>intro v;show(sP w l (v.set k _)).length=_;rw[ih,de]
def UE (w:aQ)(l:List Nat): ∀(v:List Int) (k:Nat),k<v.length->(sP w l v).getD k 0=if k∈l then w.v.getD k 0 else v.getD k 0:=by
 induction l with
 |nil=>intro v k _;simp[sP]
 |cons i l ih=>
  intro v k hk;show(sP w l (v.set i _)).getD k 0=_;rw[ih _ k (by rw[de];exact hk),wj];by_cases h1:k∈l
  ·simp[h1]
  ·by_cases h2:i=k
   ·subst h2;simp[h1,hk]
   ·have: ¬k=i:=λe=>h2 e.symm
    simp[h1,h2,this]
def qU (b:aQ)(ss:List Sys):(iV b ss).v.length=b.v.length:=by
 unfold iV;have key: ∀(ss:List Sys) (v:List Int),(ss.foldl (KM b) v).length=v.length:=by
  intro ss
  induction ss with
  |nil=>intro v;rfl
  |cons s ss ih=>intro v;rw[l9,ih];exact yF _ _ _
 exact key ss b.v
def Mh (b:aQ)(ss:List Sys)(s:Sys):iV b (ss++[s])=⟨b.k,KM b (iV b ss).v s⟩:=by unfold iV;rw[j5];rfl
def XH {b d:aQ}{s:Sys}(hk:d.k=b.k)(hb:b.v.length=8)(hd:d.v.length=8)(h: ∀k,k<8->s.write.toNat.testBit k=aw\/s.read.toNat.testBit k=aw->d.v.getD k 0=b.v.getD k 0){k:Nat}(tD:k<8)(hw:s.write.toNat.testBit k=aw):(cD d s).v.getD k 0=(cD b s).v.getD k 0:=by
 by_cases hq:fO b.k s.q=aw
 ·by_cases sW:k∈wl b s
  ·obtain⟨j,hj,yy⟩:=zP sW;have a:=qY b s hb hq j hj;have c:=qY d s hd (by rw[hk];exact hq) j (by rw[Ib hk];exact hj);rw[Ib hk,yy]at c;rw[yy]at a;rw[a,c];refine uT hk hj (λi hi=> ?_) λ_ i hi=> ?_
   ·have:=(nz _ _ _).1 hi;exact h i this.1 (.inl this.2.2)
   ·have:=(QF _ _ _).1 hi;exact h i this.1 (.inr this.2.2)
  ·rw[gS b s k sW,gS d s k (by rw[Ib hk];exact sW)];exact h k tD (.inl hw)
 ·have e: ∀b':aQ,b'.k=b.k->cD b' s=b':=λb' h=>by unfold cD;rw[h,if_neg hq]
  rw[e d hk,e b rfl];exact h k tD (.inl hw)
def XB {s t:Sys}(h1:cY s.read=aw)(h2:cY s.write=aw)(h3:cY t.read=aw)(h4:cY t.write=aw)(hc:gQ s t=ay){k:Nat}(hk:k<8): ¬((s.write.toNat.testBit k=aw/\(t.read.toNat.testBit k=aw\/t.write.toNat.testBit k=aw))\/(t.write.toNat.testBit k=aw/\s.read.toNat.testBit k=aw)):=by intro h;have:=(xh h1 h2 h3 h4).2 ⟨k,hk,h⟩;rw[hc]at this;exact absurd this (by simp)
def rT {s:Sys}(h:fa s=0):cY s.read=aw/\cY s.write=aw:=by obtain⟨_,_,_,h1,h2,_⟩:=JG h;exact⟨h1,h2⟩
def TY {k:Nat}(ss:List Sys): ∀b,(∀s∈ss,s.write.toNat.testBit k=ay)->(jF b ss).v.getD k 0=b.v.getD k 0:=by
 induction ss with
 |nil=>intro b _;rfl
 |cons s ss ih=>intro b h;show(jF (cD b s) ss).v.getD k 0=_;rw[ih _ λt ht=>h t (by simp[ht])];exact gS b s k λhm=>by have:=((nz _ _ _).1 hm).2.2;rw[h s (by simp)]at this;cases this
def yr (b:aQ)(hb:b.v.length=8): ∀(n:Nat) (ss:List Sys),ss.length=n->(∀s∈ss,fa s=0)->ss.Pairwise (λs t=>gQ s t=ay)->iV b ss=jF b ss:=by
 intro n
 induction n with
 |zero=>intro ss h _ _;rw[ft h];rfl
 |succ n ih=>
  intro ss hn rY hpw;have eb:ss≠ []:=by intro e;rw[e]at hn;cases hn
  have e0:=List.dropLast_concat_getLast eb;generalize ss.getLast eb=s at e0;generalize hd:ss.dropLast=tt at e0;have htt:tt.length=n:=by rw[<-hd,List.length_dropLast,hn];rfl
  clear hd;subst e0;have agt:=List.pairwise_append.1 hpw;have hi:=ih tt htt (λt ht=>rY t (by simp[ht])) agt.1;rw[Mh,PW];have hlen:(jF b tt).v.length=8:=by rw[xj,hb]
  refine Ii (by rw[oT,Sb]) (by show(sP _ _ _).length=8;rw[yF,qU,hb]) (by rw[fX,hlen]) λk hk=> ?_
  show(sP (cD b s) (kinds s.write.toNat) (iV b tt).v).getD k 0=_;rw[UE _ _ _ k (by rw[qU,hb];exact hk)];by_cases hw:s.write.toNat.testBit k=aw
  ·rw[if_pos ((jN _ _).2 ⟨hk,hw⟩)];refine(XH (Sb tt b) hb hlen (λi hi8 hx=>TY tt b λt ht=> ?_) hk hw).symm;have hc:=agt.2.2 t ht s (by simp);obtain⟨a1,a2⟩:=rT (rY t (by simp[ht]));obtain⟨c1,c2⟩:=rT (rY s (by simp));cases jP:t.write.toNat.testBit i with
   |false=>rfl
   |true=>exact absurd (.inl ⟨jP,hx.symm⟩) (XB a1 a2 c1 c2 hc hi8)
  ·rw[if_neg λhm=>hw ((jN _ _).1 hm).2,hi,gS _ s k λhm=>hw ((nz _ _ _).1 hm).2.2]
abbrev PS:=List (Sys×Int)
def iw (L:PS)(b:Int):List Sys:=(L.filter λx=>x.2=b).map (·.1)
def JZ (L:PS):List Sys:=L.map (·.1)
structure uq (L:PS):Prop where
 ok: ∀x∈L,fa x.1=0
 lt:L.Pairwise λx y=>gQ x.1 y.1=aw->x.2<y.2
def PX (x:aQ)(hx:x.v.length=8)(s:Sys)(hs:fa s=0): ∀(tt:List Sys),(∀t∈tt,fa t=0/\gQ s t=ay)->jF (cD x s) tt=cD (jF x tt) s:=by
 intro tt
 induction tt generalizing x with
 |nil=>intro _;rfl
 |cons t tt ih=>intro h;obtain⟨h1,h2⟩:=h t (by simp);obtain⟨a1,a2⟩:=rT hs;obtain⟨c1,c2⟩:=rT h1;show jF (cD (cD x s) t) tt=cD (jF (cD x t) tt) s;rw[apart x s t hx a1 a2 c1 c2 h2,ih (cD x t) (by rw[fX];exact hx) λt' ht'=>h t' (by simp[ht'])]
def pull (b:Int): ∀(L:PS) (x:aQ),x.v.length=8->uq L->(∀y∈L,b<=y.2)->jF x (JZ L)=jF (jF x (iw L b)) (JZ (L.filter λy=> ¬y.2=b)):=by
 intro L
 induction L with
 |nil=>intro x _ _ _;rfl
 |cons y L ih=>
  intro x hx hL wq;have hL':uq L:=⟨λz hz=>hL.ok z (by simp[hz]),(List.pairwise_cons.1 hL.lt).2⟩;have hi:=ih (cD x y.1) (by rw[fX];exact hx) hL' λz hz=>wq z (by simp[hz])
  show jF (cD x y.1) (JZ L)=_;rw[hi];by_cases e:y.2=b
  ·have h1:iw (y::L) b=y.1::iw L b:=by unfold iw;rw[List.filter_cons_of_pos (by simpa using e)];rfl
   have h2:(y::L).filter (λz=> ¬z.2=b)=L.filter (λz=> ¬z.2=b):=by rw[List.filter_cons_of_neg (by simpa using e)]
   rw[h1,h2];rfl
  ·have h1:iw (y::L) b=iw L b:=by unfold iw;rw[List.filter_cons_of_neg (by simpa using e)]
   have h2:(y::L).filter (λz=> ¬z.2=b)=y::L.filter (λz=> ¬z.2=b):=by rw[List.filter_cons_of_pos (by simpa using e)]
   rw[h1,h2];rw[PX x hx y.1 (hL.ok y (by simp)) (iw L b) λt ht=> ?_]
   ·rfl
   ·unfold iw at ht;obtain⟨z,hz,rfl⟩:=aH.1 ht;obtain⟨sX,tH⟩:=cm.1 hz;have hzb:z.2=b:=by simpa using tH
    refine⟨hL.ok z (by simp[sX]),?_⟩;cases hc:gQ y.1 z.1 with
    |false=>rfl
    |true=>have:=(List.pairwise_cons.1 hL.lt).1 z sX hc;have:=wq y (by simp);omega
def byB (x:aQ)(L:PS):Nat->aQ
 |0=>x
 |n+1=>jF (byB x L n) (iw L n)
def P1 (L:PS)(n:Nat)(b:Int)(hb:(n:Int)<=b):iw (L.filter λy=>(n:Int)<=y.2) b=iw L b:=by
 unfold iw;rw[List.filter_filter];congr 1;refine List.filter_congr λy _=> ?_
 by_cases e:y.2=b
 ·simp[e,hb]
 ·simp[e]
def MO (L:PS)(n:Nat):((L.filter λy=>(n:Int)<=y.2).filter λy=> ¬y.2=(n:Int))=L.filter λy=>((n+1:Nat):Int)<=y.2:=by
 rw[List.filter_filter];refine List.filter_congr λy _=> ?_
 by_cases h1:((n+1:Nat):Int)<=y.2
 ·have h2:(n:Int)<=y.2:=by omega
  have h3: ¬y.2=(n:Int):=by omega
  simp only[h2,h3,decide_true,not_false_eq_true,Bool.and_self,h1]
 ·by_cases h2:(n:Int)<=y.2
  ·have h3:y.2=(n:Int):=by omega
   simp only[h3,not_true_eq_false,decide_false,Bool.false_and];simp;omega
  ·simp only[h2,decide_false,Bool.and_false,h1]
def aaV (x:aQ)(hx:x.v.length=8)(L:PS)(hL:uq L)(h0: ∀y∈L,0<=y.2): ∀n:Nat,jF x (JZ L)=jF (byB x L n) (JZ (L.filter λy=>(n:Int)<=y.2)):=by
 intro n
 induction n with
 |zero=>
  have:(L.filter λy=>((0:Nat):Int)<=y.2)=L:=List.filter_eq_self.2 λy hy=>by simpa using h0 y hy
  rw[this];rfl
 |succ n ih=>
  have hl:(byB x L n).v.length=8:=by
   have: ∀n,(byB x L n).v.length=x.v.length:=by
    intro n
    induction n with
    |zero=>rfl
    |succ n ih=>show(jF _ _).v.length=_;rw[xj,ih]
   rw[this,hx]
  have hL':uq (L.filter λy=>(n:Int)<=y.2):=⟨λz hz=>hL.ok z (cm.1 hz).1,hL.lt.sublist List.filter_sublist⟩;rw[ih,pull n _ _ hl hL' λy hy=>by simpa using(cm.1 hy).2,P1 L n n (Int.le_refl _),MO]
  rfl
def aaW (x:aQ)(hx:x.v.length=8)(L:PS)(hL:uq L)(h0: ∀y∈L,0<=y.2)(n:Nat)(hn: ∀y∈L,y.2<n):byB x L n=jF x (JZ L):=by
 have h:=aaV x hx L hL h0 n;have:(L.filter λy=>(n:Int)<=y.2)=[]:=List.filter_eq_nil_iff.2 λy hy=>by have:=hn y hy;simp;omega
 rw[this]at h;exact h.symm
section
open Go.RowKit
def dW.adN {κ ν:Type}{ek:κ->ao}{ev:ν->ao}{good:κ->Prop}{w:ah}{b:Nat}{m:List (κ×ν)}(h:dW ek ev good w b m){es:Array MapEntry}{clock:Nat}(hb:w.heap[b]? =ae (.map es clock)):dW ek ev good (w.alloc (.map es clock)) w.heap.size m:=by
 obtain⟨lL,ahD,jP,hr⟩:=h;rw[hb]at jP;injection jP with jP
 injection jP with h1 h2
 subst h1;subst h2;exact⟨es,clock,(MapKept.heap_alloc w _).1,hr⟩
def QE {w:ah}{b:Nat}{m:List eE}(h:dW lf bV (λ_=>True) w b m):Calls aj 76 #[.map (ae b)] w λe w'=>e=.returned (.map (ae w.heap.size))/\dW lf bV (λ_=>True) w' w.heap.size m/\Below w.heap.size w w':=by
 have HM:=af h;obtain⟨es,clock,hb,_⟩:=h;have CO:Hid (dW lf bV (λ_=>True) (w.alloc (.map es clock)) w.heap.size m):=dW.adN HM.out hb;have hq:=λw=>run_eql_map_nil_sl (P:=aj) w 138 _ _ (ae b) Tryz.underlying138
 go_enter Tryz.func76,Tryz.ntmps76
 go_wp2_with fail
 rw[run_callFunc_extern Tryz.func139 (by kernel_rfl) (by kernel_rfl) (by kernel_rfl) (e:=qJ) (by kernel_rfl),run_maps_clone_sl w 138 hb];simp only[dQ];rw[Oper.upon_value]
 go_wp2_with fail
 rw[run_typeAssert_map_sl _ 138 20 _ _ _ Tryz.underlying138];simp only[dQ];rw[Oper.upon_value]
 go_wp2_with fail
 go_ret;exact⟨rfl,CO.out,(Below.refl _ _).alloc (ax _) _⟩
def YZ {m m0 y left:List eE}{x:Hd}{v:List Int}(hx:(x,v)∈left)(hn:(aW left).Nodup)(hs: ∀p∈left,p∈y)(h: ∀k,k∈aW m↔k∈aW m0\/k∈aW y/\k∉aW left): ∀k,k∈aW (hZ m x v)↔k∈aW m0\/k∈aW y/\k∉aW (dZ left x):=by
 intro k;have h1:k∈aW (hZ m x v)↔k∈aW m\/k=x:=by
  rw[uS]
  split
  ·rename_i hi
   constructor
   ·exact bm
   ·rintro(h|rfl);exact h;exact hi
  ·simp
 have h2:k∈aW (dZ left x)↔k∈aW left/\k≠x:=by
  rw[mem_keys,mem_keys,oK];by_cases e:k=x
  ·simp[e]
  ·simp[e]
 have rB:x∈aW y:=aH.2 ⟨_,hs _ hx,rfl⟩;have SE:x∈aW left:=aH.2 ⟨_,hx,rfl⟩;rw[h1,h2,h];constructor
 ·rintro((h|⟨h3,h4⟩)|rfl)
  ·exact bm h
  ·exact bO ⟨h3,λh=>h4 h.1⟩
  ·exact bO ⟨rB,λh=>h.2 rfl⟩
 ·rintro(h|⟨h3,h4⟩)
  ·exact bm (bm h)
  ·by_cases e:k=x
   ·exact bO e
   ·exact bm (bO ⟨h3,λh=>h4 ⟨h,e⟩⟩)
def Y9 {G:Nat->Prop}{w0 w:ah}{l:List bU}{d s:Nat}{m y:List eE}(hy:(aW y).Nodup)(hv: ∀r∈y,ki r)(h:In G w0 (jV s y::jV d m::l) w):Calls aj 77 #[.map (ae d),.map (ae s)] w λe w'=>e=.returned (.tuple #[])/\ ∃m',(∀k,k∈aW m'↔k∈aW m\/k∈aW y)/\In G w0 (jV s y::jV d m'::l) w':=by
 have kZ:=af h;have HY:=af hy;have HV:=af hv;clear h hy hv
 go_enter Tryz.func77,Tryz.ntmps77
 go_wp2_with (at_range;go_loud (refine gX rfl _ 138 48 rfl Tryz.underlying138 s _ rfl (In.fU kZ.out) ?_))
 intro w2 Aw gF tF;have gu:=af (In.Br kZ.out Aw gF tF);generalize w.heap.size=ri at *;clear Aw gF tF kZ
 go_wp2_with fail
 go_loopw [8] (λ_ w'=> ∃(left:List eE) (m1:List eE),(aW left).Nodup/\(∀p∈left,p∈y)/\(∀k,k∈aW m1↔k∈aW m\/k∈aW y/\k∉aW left)/\In G w0 (gO lf bV (λ_=>True) s ri y left::jV d m1::l) w') (λ_ w'=>w'.rangeLeft s ri)
 case atStart=>exact⟨y,m,HY.out,λ_ h=>h,λk=>⟨bm,λh=>by rcases h with h|h;exact h;exact absurd h.1 h.2⟩,gu.out⟩
 case round=>
  clear gu;obtain⟨left,m1,Ey,mW,sW,hI⟩:=hrel;have FO:=af Ey;have adx:=af mW;have Xb:=af sW;have HI:=af hI;clear Ey mW sW hI
  go_wp2_with (at_next;go_loud (refine j1 pf rfl _ rfl s ri _ left rfl (In.rangeAt HI.out) ?_ ?_))
  ·intro Na;subst Na
   go_wp2_with fail
   go_end0
   exact⟨rfl,m1,λk=>by have:=Xb.out k;simpa[aW]using this,HI.out.ud⟩
  ·intro x1 x2 bb w7 hx AY Au Ni o9 Uj;have kh:=af (In.nf HI.out AY Au);have um:=af o9;have HX:=af hx;have Kw:bb.length=9:=HV.out _ (adx.out _ hx);obtain⟨f1,f2⟩:=An w7 43 48 [0,0] kQ [x1,x2];clear AY Au Ni o9 hx
   go_upto_region 3 with(fail)
   refine bZ (In G w0 (br (w7.heap.size+1) 48 (ints bb)::br w7.heap.size 43 (ints [x1,x2])::gO lf bV (λ_=>True) s ri y (dZ left (x1,x2))::jV d m1::l)) (kh.out.Dz 43 48 [0,0] kQ [x1,x2] bb rfl Kw) ?_;clear f1 f2 Uj kh;generalize w7.heap.size+1=vb;generalize w7.heap.size=xb;intro w8 mR;have q1:row? w8 vb 0 9=ae (ints bb):=mR.blk.bt Kw;have q2:row? w8 xb 0 2=ae (ints [x1,x2]):=mR.swap.blk.bt rfl;have oQ:=af mR.drop.drop.swap;clear mR
   go_wp2_with (at_mapUpdate;go_loud (refine iZ pf rfl _ _ _ 138 48 rfl Tryz.underlying138 d _ rfl (In.fU oQ.out) (x1,x2) rfl trivial bb rfl ?_))
   intro w9 h1 h2 h3;have pw:=af (In.oJ oQ.out h1 h2).swap;clear h1 h2 h3 q1 q2
   go_wp2_with fail
   go_roundw
   case rel=>exact⟨dZ left (x1,x2),hZ m1 (x1,x2) bb,lW FO.out _,λp hp=>adx.out _ (fP.1 hp).1,YZ HX.out FO.out adx.out Xb.out,pw.out⟩
   case measure=>rw[(In.rangeAt pw.out).count,(In.rangeAt HI.out).count];exact um.out
end
section
open Go.RowKit Go.Sort
section
variable {G:Nat->Prop} {w0 w w':ah} {l:List bU}
def acy:SWO (ltOf Mx)where
 irrefl x:=by unfold ltOf;rw[vX];unfold Uh;simp
 trans x y z h1 h2:=by unfold ltOf at *;rw[vX]at *;unfold Uh at *;simp only[gi,aG,decide_eq_true_eq]at *;omega
 ntrans x y z h1 h2:=by unfold ltOf at *;rw[vX]at *;unfold Uh at *;simp only[Bool.or_eq_false_iff,Bool.and_eq_false_iff,decide_eq_false_iff_not]at *;omega
def Zr {α:Type}{key:α->Hd}{ys:List α}(h:ys.Pairwise λa b=>decide (Mx (key b) (key a)<0)=ay):ys.Pairwise λa b=>Wy key a b=aw:=h.imp λ{a b} h=>by unfold Wy yX;rw[<-vX,h];rfl
theorem OH {v:ao}{xs:List Hd}(h:In G w0 (iy v xs::l) w)(hl:xs.length<=1099511627776):Calls aj 141 #[v,.func (.func 80) #[] #[]] w λe w'=>e=.returned (.tuple #[])/\In G w0 (iy v (xs.mergeSort yX)::l) w':=by
 have CZ:=Ln (ρ:=wR) (enc:=hC) Fx Tryz.isAgg43 Tryz.sizeOf43 AV (λx u hu=>by simp[hC]at hu;rcases hu with rfl|rfl<;>rfl) Mx acy 80 (enters_of Tryz.func80 (by kernel_rfl) rfl) (λblk off size w m os dk _ x y=>Cc x y (sortWorldK hC 2 w blk off m dk os)) 43 h (by omega)
 change Calls aj 141 _ _ _ at CZ;refine CZ.mono ?_;rintro e w' ⟨rfl,ys,hp,hs,hI⟩;have e1:ys=xs.mergeSort yX:=wS hp (Zr (key:=id) hs);subst e1;exact⟨rfl,hI⟩
def bC (b:Hd×Hd):List ao:=[.int .i64 b.1.1,.int .i64 b.1.2,.int .i64 b.2.1,.int .i64 b.2.2]
def bL (b:Hd×Hd):List Int:=[b.1.1,b.1.2,b.2.1,b.2.2]
def adG (b:Hd×Hd):(bC b).length=4:=rfl
abbrev xI (v:ao)(bs:List (Hd×Hd)):bU:=eD 45 4 v bs.length (bs.flatMap bC)
def XC (a b:Hd×Hd):Int:=Mx a.1 b.1
def ais:SWO (ltOf XC)where
 irrefl x:=acy.irrefl x.1
 trans x y z:=acy.trans x.1 y.1 z.1
 ntrans x y z:=acy.ntrans x.1 y.1 z.1
def PN (x y:Hd×Hd)(w:ah):Calls aj 101 #[.agg (ints (bL x)),.agg (ints (bL y))] w λe w'=>e=.returned (.int .i64 (XC x y))/\ ∃q os,w'=Sort.grow (w.drewN q) os:=by
 obtain⟨⟨x1,x2⟩,⟨x3,x4⟩⟩:=x;obtain⟨⟨y1,y2⟩,⟨y3,y4⟩⟩:=y
 go_enter Tryz.func101,Tryz.ntmps101
 go_upto_region 1 with(fail)
 have k1:row? ((w.alloc (.cells (ints [x1,x2,x3,x4]) 45)).alloc (.cells (ints [y1,y2,y3,y4]) 45)) w.heap.size 0 2=ae (ints [x1,x2]):=((dt.new w 45 (ints [x1,x2,x3,x4])).alloc _).eJ 0 2 (by simp);have k2:row? ((w.alloc (.cells (ints [x1,x2,x3,x4]) 45)).alloc (.cells (ints [y1,y2,y3,y4]) 45)) (w.heap.size+1) 0 2=ae (ints [y1,y2]):=by have:=dt.new (w.alloc (.cells (ints [x1,x2,x3,x4]) 45)) 45 (ints [y1,y2,y3,y4]);rw[dw]at this;exact this.eJ 0 2 (by simp)
 have HW:Hid (((w.alloc (.cells (ints [x1,x2,x3,x4]) 45)).alloc (.cells (ints [y1,y2,y3,y4]) 45))=Sort.grow w #[.cells (ints [x1,x2,x3,x4]) 45,.cells (ints [y1,y2,y3,y4]) 45]):=by unfold Hid;rw[Sort.alloc_eq_grow,Sort.alloc_eq_grow,Sort.grow_grow];rfl
 change Code.wp _ _ _ _ ((w.alloc (.cells (ints [x1,x2,x3,x4]) 45)).alloc (.cells (ints [y1,y2,y3,y4]) 45));generalize ((w.alloc (.cells (ints [x1,x2,x3,x4]) 45)).alloc (.cells (ints [y1,y2,y3,y4]) 45))=w2 at *
 go_wp2_with fail
 refine(Cc (x1,x2) (y1,y2) w2).mono ?_;rintro e w3 ⟨rfl,q,os,rfl⟩
 go_wp2_with fail
 go_ret;refine⟨rfl,q,#[.cells (ints [x1,x2,x3,x4]) 45,.cells (ints [y1,y2,y3,y4]) 45]++os,?_⟩;rw[HW.out];exact Sort.grow_grow (w.drewN q) _ os
def Z2 {v:ao}{xs:List (Hd×Hd)}(hn: ∀a∈xs,∀b∈xs,a.1=b.1->a=b)(h:In G w0 (xI v xs::l) w)(hl:xs.length<=1099511627776):Calls aj 100 #[v,.func (.func 101) #[] #[]] w λe w'=>e=.returned (.tuple #[])/\In G w0 (xI v (xs.mergeSort (Wy (·.1)))::l) w':=by
 have h1: ∀x,∀u∈bC x,u.oneCell'=aw:=λx u hu=>by simp[bC]at hu;rcases hu with rfl|rfl|rfl|rfl<;>rfl
 have h2: ∀blk off size w,CmpLays aj 101 #[] bC 4 XC blk off size w:=λblk off size w m os dk _ x y=>PN x y (sortWorldK bC 4 w blk off m dk os)
 have h3: ∀args w,(callFunc 101 args).run aj w=.ok (.enter 101 args) w:=enters_of Tryz.func101 (by kernel_rfl) rfl;have CZ:=Ln (ρ:=Ai) (enc:=bC) Lm Tryz.isAgg45 Tryz.sizeOf45 adG h1 XC ais 101 h3 h2 45 h (by omega);change Calls aj 100 _ _ _ at CZ;refine CZ.mono ?_;rintro e w' ⟨rfl,ys,hp,hs,hI⟩;have tF:ys.Pairwise λa b=>Wy (λb:Hd×Hd=>b.1) a b=aw:=hs.imp λ{a b} h=>by unfold Wy yX;rw[<-vX];unfold XC at h;rw[h];rfl
 have e1:ys=xs.mergeSort (Wy (λb:Hd×Hd=>b.1)):=lh _ hn hp tF;rw[e1]at hI;exact⟨rfl,hI⟩
end
end
section
open Go.RowKit
def KD {m m':kN}(hp:m.Perm m')(h:Hd):(jy m h).Perm (jy m' h):=(hp.filter _).map _
def KC (x v h:Hd)(m:kN):jy ((x,v)::m) h=if v=h then x::jy m h else jy m h:=by unfold jy;rw[qg];by_cases e:v=h<;>simp[e]
def Ck (m:kN)(h:Hd):(jy m h).length<=m.length:=by unfold jy;rw[aL];exact jA _ _
def UA {m left coll:List (Hd×Hd)}{cs:List Hd}{x v h:Hd}(hn:(aW left).Nodup)(hx:(x,v)∈left)(hp:(cs++jy left h).Perm (jy m h)):((if v=h then cs++[x]else cs)++jy (dZ left x) h).Perm (jy m h):=by
 have h1:=KD (xv hn hx) h;rw[KC]at h1;refine pK ?_ hp
 split
 ·rename_i e
  rw[if_pos e]at h1;rw[cx];exact dy _ h1.symm
 ·rename_i e
  rw[if_neg e]at h1;exact dy _ h1.symm
def Kj {G:Nat->Prop}{w0 w:ah}{l:List bU}{p:Nat}{m:kN}(h:In G w0 (j3 p m::l) w)(a:Hd)(hl:m.length<=1099511627776):Calls aj 176 #[.pointer (ae ⟨p,0,ai⟩),lf a] w λe w'=> ∃v,e=.returned v/\In G w0 (iy v (kids m a)::j3 p m::l) w':=by
 obtain⟨hm,b,hI⟩:=h.xx;have HM:=af hm;have kZ:=af hI;clear h hm hI;obtain⟨a1,a2⟩:=a;rw[kX];obtain⟨i0,qE,uM,sX,tH⟩:=info_parts lu;have heq: ∀(x y:List Int) W,x.length=2->y.length=2->(binOp .eql 43 (.agg (ints x)) (.agg (ints y))).run aj W=.ok (.bool (decide (x=y))) W:=λx y W h1 h2=>yv x y h1 h2 W
 have HEQ:=af heq;clear heq
 go_enter Tryz.func176,Tryz.ntmps176
 go_upto_region 1 with(fail)
 refine bZ (In G w0 (br w.heap.size 43 (ints [a1,a2])::br p 175 #[.map (ae b)]::Az b m::l)) (kZ.out.alloc 43 (ints [a1,a2])) ?_;generalize w.heap.size=ab;intro w1 hI;have k0:w1.cell? ⟨p,0,ai⟩=ae (.map (ae b)):=hI.swap.blk.cell 0;have qB:=af hI.third;clear hI kZ
 go_wp2_with (at_range;go_loud (refine gX rfl _ 173 43 rfl Tryz.underlying173 b _ rfl (In.fU qB.out) ?_))
 intro w2 Aw gF tF;have gu:Hid (In G w0 (eD 43 2 (.slice ai 0 0) 0 []::gO lf lf (λ_=>True) b w1.heap.size m m::br ab 43 (ints [a1,a2])::br p 175 #[.map (ae b)]::l) w2):=In.mN (In.Br qB.out Aw gF tF) _ _;generalize w1.heap.size=ri at *;clear Aw gF tF qB k0
 go_wp2_with fail
 go_loopw [14,5] (λ_ out w'=> ∃(left:kN) (cs:List Hd),(aW left).Nodup/\(cs++jy left (a1,a2)).Perm (jy m (a1,a2))/\In G w0 (iy out cs::gO lf lf (λ_=>True) b ri m left::br ab 43 (ints [a1,a2])::br p 175 #[.map (ae b)]::l) w') (λ_ _ w'=>w'.rangeLeft b ri)
 case atStart=>exact⟨m,[],HM.out.nodup,by simp,gu.out⟩
 case round=>
  clear gu;obtain⟨left,cs,Ey,hp,hI⟩:=hrel;have FO:=af Ey;clear Ey;have HI:=af hI.swap;have HP:=af hp;clear hI hp
  go_wp2_with (at_next;go_loud (refine j1 pf rfl _ rfl b ri _ left rfl (In.rangeAt HI.out) ?_ ?_))
  ·intro Na;subst Na;have HPC:Hid (kids m (a1,a2)=cs.mergeSort yX):=by have:=HP.out;simp[jy]at this;exact(BE this).symm
   have sM:cs.length<=1099511627776:=by have h1:=HP.out.length_eq;have h2:=Ck m (a1,a2);simp at h1;omega
   have fW:=af HI.out.swap;clear HI
   go_wp2_with fail
   refine(OH fW.out sM).mono ?_;rintro e w3 ⟨rfl,gq⟩;have iR:=af gq;clear gq fW
   go_wp2_with fail
   go_ret;refine⟨_,rfl,?_⟩;rw[HPC.out];exact(In.qz HM.out (iR.out.swap.ud.third.drop.third)).swap
  ·intro x1 x2 v1 v2 w7 hx AY Au Ni o9 Uj;have kh:=af (In.nf HI.out AY Au);have um:=af o9;have HX:=af hx;obtain⟨f1,f2⟩:=An w7 43 43 [0,0] [0,0] [x1,x2];clear AY Au Ni o9 hx
   go_upto_region 5 with(fail)
   refine bZ (In G w0 (br (w7.heap.size+1) 43 (ints [v1,v2])::br w7.heap.size 43 (ints [x1,x2])::gO lf lf (λ_=>True) b ri m (dZ left (x1,x2))::iy u5 cs::br ab 43 (ints [a1,a2])::br p 175 #[.map (ae b)]::l)) (kh.out.Dz 43 43 [0,0] [0,0] [x1,x2] [v1,v2] rfl rfl) ?_;clear f1 f2 Uj kh;generalize w7.heap.size+1=vb;generalize w7.heap.size=xb;intro w8 mR;have q1:row? w8 vb 0 2=ae (ints [v1,v2]):=mR.blk.bt rfl;have q2:row? w8 xb 0 2=ae (ints [x1,x2]):=mR.swap.blk.bt rfl;have q3:row? w8 ab 0 2=ae (ints [a1,a2]):=(mR.drop.fourth).blk.bt rfl;have hn:=HEQ.out [v1,v2] [a1,a2];have oQ:Hid (In G w0 (iy u5 cs::gO lf lf (λ_=>True) b ri m (dZ left (x1,x2))::br ab 43 (ints [a1,a2])::br p 175 #[.map (ae b)]::l) w8):=mR.drop.drop.swap;have qN:=af (UA (coll:=[]) (left:=left) (cs:=cs) (x:=(x1,x2)) (v:=(v1,v2)) (h:=(a1,a2)) FO.out HX.out HP.out);have hn2: ∀W,(binOp .eql 43 (.agg (ints [v1,v2])) (.agg (ints [a1,a2]))).run aj W=.ok (.bool (decide ([v1,v2]=[a1,a2]))) W:=λW=>hn W rfl rfl
   clear mR hn;by_cases e:(v1,v2)=(a1,a2)
   ·have hd:decide ([v1,v2]=[a1,a2])=aw:=by rw[decide_eq_true_eq];injection e with e1 e2;rw[e1,e2]
    rw[hd]at hn2;rw[if_pos e]at qN;have sM:cs.length+1<=1099511627776:=by have h1:=qN.out.length_eq;have h2:=Ck m (a1,a2);simp at h1;omega
    have HO:=af oQ.out.rowAt;clear e hd
    go_wp2_with (at_builtin;go_loud (refine eX rfl _ _ 122 rfl 0 43 i0 _ 2 16 Tryz.underlying122 qE uM sX tH rfl (by decide) u5 cs.length (cs.flatMap hC) rfl HO.out [.int .i64 x1,.int .i64 x2] rfl rfl (by simp[kT]) ?_ ?_ (cE _) ?_))
    case refine_1=>unfold maxLen;omega
    case refine_2=>omega
    intro v' w9 ho hg wx;have pw:=af (In.J2 (x:=(x1,x2)) oQ.out ho hg wx);clear ho hg wx q1 q2 q3 hn2
    go_wp2_with fail
    go_roundw
    case rel=>exact⟨dZ left (x1,x2),cs++[(x1,x2)],lW FO.out _,qN.out,pw.out⟩
    case measure=>rw[(In.rangeAt pw.out.swap).count,(In.rangeAt HI.out).count];exact um.out
   ·have hd:decide ([v1,v2]=[a1,a2])=ay:=by
     rw[decide_eq_false_iff_not];intro e';injection e' with e1 e2
     injection e2 with e2 _
     exact e (by rw[e1,e2])
    rw[hd]at hn2;rw[if_neg e]at qN;clear e hd
    go_wp2_with fail
    go_roundw
    case rel=>exact⟨dZ left (x1,x2),cs,lW FO.out _,qN.out,oQ.out⟩
    case measure=>rw[(In.rangeAt oQ.out.swap).count,(In.rangeAt HI.out).count];exact um.out
def PL:(Tryz.prog.info? 45).map (λi=>(i.zero,i.size,i.bytes))=ae (ae (.agg #[.int .i64 0,.int .i64 0,.int .i64 0,.int .i64 0]),4,32):=by kernel_rfl
def In.aaQ {G:Nat->Prop}{w0 w w':ah}{l:List bU}{v v':ao}{bs:List (Hd×Hd)}{x:Hd×Hd}{o:Obj}(h:In G w0 (xI v bs::l) w)(jg:w'.ownsRow 0 45 4 v' (bs.length+1) (bs.flatMap bC++[.int .i64 x.1.1,.int .i64 x.1.2,.int .i64 x.2.1,.int .i64 x.2.2]))(hg:(w.alloc o).grownBy w' v.ownBlock)(wx:v'.ownBlock=v.ownBlock\/v'.ownBlock=ae (w.heap.size+1)):In G w0 (xI v' (bs++[x])::l) w':=by have:=h.xe jg hg wx;unfold xI;rw[aZ,dG];exact this
def G8 {m bs:kN}(hm:kg m)(hp:bs.Perm m):bs.mergeSort (Wy (λb:Hd×Hd=>b.1))=dU m:=lh (λb:Hd×Hd=>b.1) (qV hm.nodup) ((gG _ _).trans hp) (nW _ _)
def Iz {G:Nat->Prop}{w0 w:ah}{l:List bU}{p:Nat}{m:kN}(h:In G w0 (j3 p m::l) w)(hl:m.length<=1099511627776):Calls aj 44 #[.pointer (ae ⟨p,0,ai⟩)] w λe w'=> ∃v,e=.returned v/\In G w0 (xI v (dU m)::j3 p m::l) w':=by
 obtain⟨hm,b,hI⟩:=h.xx;have HM:=af hm;have kZ:=af hI.swap;have k0:w.cell? ⟨p,0,ai⟩=ae (.map (ae b)):=hI.blk.cell 0;clear h hm hI;obtain⟨i0,qE,uM,sX,tH⟩:=info_parts PL
 go_enter Tryz.func44,Tryz.ntmps44
 go_wp2_with (at_range;go_loud (refine gX rfl _ 173 43 rfl Tryz.underlying173 b _ rfl (In.fU kZ.out) ?_))
 intro w2 Aw gF tF;have gu:Hid (In G w0 (eD 45 4 (.slice ai 0 0) 0 []::gO lf lf (λ_=>True) b w.heap.size m m::br p 175 #[.map (ae b)]::l) w2):=In.mN (In.Br kZ.out Aw gF tF) _ _;generalize w.heap.size=ri at *;clear Aw gF tF kZ k0
 go_wp2_with fail
 go_loopw [12,3] (λ_ out w'=> ∃(left:kN) (bs:kN),(aW left).Nodup/\(bs++left).Perm m/\In G w0 (xI out bs::gO lf lf (λ_=>True) b ri m left::br p 175 #[.map (ae b)]::l) w') (λ_ _ w'=>w'.rangeLeft b ri)
 case atStart=>exact⟨m,[],HM.out.nodup,by simp,gu.out⟩
 case round=>
  clear gu;obtain⟨left,bs,Ey,hp,hI⟩:=hrel;have FO:=af Ey;have HI:=af hI.swap;have HP:=af hp;clear Ey hI hp
  go_wp2_with (at_next;go_loud (refine j1 pf rfl _ rfl b ri _ left rfl (In.rangeAt HI.out) ?_ ?_))
  ·intro Na;subst Na;have hpm:bs.Perm m:=by simpa using HP.out
   have sM:bs.length<=1099511627776:=by rw[hpm.length_eq];exact hl
   have hinj:=(qV (HM.out.nodup));have ahq:Hid (∀a∈bs,∀b∈bs,a.1=b.1->a=b):=λa ha b hb=>hinj a (hpm.subset ha) b (hpm.subset hb)
   have HB:=af (G8 HM.out hpm);have fW:=af HI.out.swap;clear HI hpm hinj
   go_wp2_with fail
   refine(Z2 ahq.out fW.out sM).mono ?_;rintro e w3 ⟨rfl,gq⟩;rw[HB.out]at gq;have iR:=af gq;clear gq fW
   go_wp2_with fail
   go_ret;exact⟨_,rfl,(In.qz HM.out (iR.out.swap.ud.third)).perm ((qK _))|>.swap⟩
  ·intro x1 x2 v1 v2 w7 hx AY Au Ni o9 Uj;have kh:=af (In.nf HI.out AY Au);have um:=af o9;have qN:Hid ((bs++[((x1,x2),(v1,v2))]++dZ left (x1,x2)).Perm m):=by refine pK ?_ HP.out;rw[cx];exact dy _ (xv FO.out hx).symm
   have sM:bs.length+1<=1099511627776:=by have h1:=qN.out.length_eq;simp at h1;omega
   obtain⟨f1,f2⟩:=An w7 43 43 [0,0] [0,0] [x1,x2];clear AY Au Ni o9 hx
   go_upto_region 5 with(fail)
   refine bZ (In G w0 (br (w7.heap.size+1) 43 (ints [v1,v2])::br w7.heap.size 43 (ints [x1,x2])::gO lf lf (λ_=>True) b ri m (dZ left (x1,x2))::xI u3 bs::br p 175 #[.map (ae b)]::l)) (kh.out.Dz 43 43 [0,0] [0,0] [x1,x2] [v1,v2] rfl rfl) ?_;clear f1 f2 Uj kh;generalize w7.heap.size+1=vb;generalize w7.heap.size=xb;intro w8 mR;have q1:row? w8 vb 0 2=ae #[.int .i64 v1,.int .i64 v2]:=mR.blk.bt (xs:=[v1,v2]) rfl;have q2:row? w8 xb 0 2=ae #[.int .i64 x1,.int .i64 x2]:=mR.swap.blk.bt (xs:=[x1,x2]) rfl;have oQ:Hid (In G w0 (xI u3 bs::gO lf lf (λ_=>True) b ri m (dZ left (x1,x2))::br p 175 #[.map (ae b)]::l) w8):=mR.drop.drop.swap;have HO:=af oQ.out.rowAt;clear mR
   go_wp2_with (at_builtin;go_loud (refine eX rfl _ _ 34 rfl 0 45 i0 _ 4 32 Tryz.underlying34 qE uM sX tH rfl (by decide) u3 bs.length (bs.flatMap bC) rfl HO.out [.int .i64 x1,.int .i64 x2,.int .i64 v1,.int .i64 v2] rfl rfl (by simp[kT]) ?_ ?_ (cE _) ?_))
   case refine_1=>unfold maxLen;omega
   case refine_2=>omega
   intro v' w9 ho hg wx;have pw:=af (In.aaQ (x:=((x1,x2),(v1,v2))) oQ.out ho hg wx);clear ho hg wx q1 q2
   go_wp2_with fail
   go_roundw
   case rel=>exact⟨dZ left (x1,x2),bs++[((x1,x2),(v1,v2))],lW FO.out _,qN.out,pw.out⟩
   case measure=>rw[(In.rangeAt pw.out.swap).count,(In.rangeAt HI.out).count];exact um.out
end
section
open Rel
open Go.Conc Go.ConcN
open Go.ConcR (Payload WgAt)
open Go.RowKit
structure EW (w0:ah) (fv:ao) (nj k:Nat) (closed:Bool) (w:ah):Prop where
 old: ∀b,b<w0.heap.size->w.heap[b]? =w0.heap[b]?
 size:w.heap.size=w0.heap.size+3
 cf:w.heap[w0.heap.size]? =ae (.cells #[fv] 113)
 ch: ∃s r tm,w.heap[w0.heap.size+1]? =ae (.chan nj ((gg 0 k).map (λ(p:Nat)=>aF .i64 p)).toArray closed s r tm)
 cn:w.heap[w0.heap.size+2]? =ae (.cells #[.chan (ae (w0.heap.size+1))] 179)
 os:w.os=w0.os
 output:w.output=w0.output
def T6 {N1 B c:Nat}(h1:N1<=c)(h2:c<B): ∀e∈closeEvents c,EvN N1 B e:=by
 intro e he;simp only[closeEvents,qi,cj,jH,or_false]at he;rcases he with rfl|rfl
 ·exact⟨by simp,λx hx=>by simp only[cX,sU,dS]at hx;subst hx;exact⟨c,rfl,h1,h2⟩⟩
 ·exact⟨by simp,λx hx=>by cases hx⟩
def Rf (w:ah)(a:Addr)(v:ao):(w.setCell a v).os=w.os:=by unfold dJ;split<;>rfl
def Fu (w:ah)(a:Addr)(v:ao):(w.setCell a v).output=w.output:=by unfold dJ;split<;>rfl
def OU (w:ah)(a:Addr)(v:ao)(tp:Tape)(d:Nat):(dH w tp d).setCell a v=dH (w.setCell a v) tp d:=by unfold dJ dH;simp only
noncomputable def k9:Code:=Tryz.f47.body.getD .skip
def Qo:(Tryz.prog.info? 3).map (λi=>(i.zero,i.size,i.bytes))=ae (ae (.int .i64 0),1,8):=by kernel_rfl
abbrev xS (n nj:Int)(fv:ao)(N:Nat)(t7 t8 t10 t11 t12 t13 t14 t15 t16 t17 t18 t19 t20 t21 t22 t23 t24 t25:ao):Array ao:= #[.int .i64 n,.int .i64 nj,fv,undef,undef,.pointer (ae ⟨N,0,ai⟩),.pointer (ae ⟨N+2,0,ai⟩),t7,t8,.int .i64 nj,t10,t11,t12,t13,t14,t15,t16,t17,t18,t19,t20,t21,t22,t23,t24,t25]
section
variable {c:gj} {Post:ao->ah->Prop} {vY cs:List bp} {w0 w:ah} {n nj:Nat} {fv:ao}
noncomputable def ra:Code:=match k9 with| .seq _ (.seq _ (.seq _ (.seq _ x)))=>x|_=>.skip
noncomputable def Ah:Code:=match k9 with| .seq _ (.seq _ (.seq (.seq _ (.block _ (.loop x))) _))=>x|_=>.skip
noncomputable def Ft:Code:=match k9 with| .seq _ (.seq _ (.seq _ x))=>x|_=>.skip
def XT (hnj:nj<9223372036854775807): ∀(m k:Nat) (w:ah) (t7 t8 t10 t13 t14 t15 t16 t17 t18 t19 t20 t21 t22 t23 t24 t25:ao),k+m=nj->EW w0 fv nj k ay w->(∀w (t7 t13 t14 t15 t16 t17:ao),EW w0 fv nj nj ay w->xa aj c Post w0.heap.size vY (G ((base 47).at ⟨xS n nj fv w0.heap.size t7 t8 t10 (.int .i64 nj) (.int .i64 nj) t13 t14 t15 t16 t17 t18 t19 t20 t21 t22 t23 t24 t25,[]⟩ [.code Ft]) cs) w)->xa aj c Post w0.heap.size vY (G ((base 47).at ⟨xS n nj fv w0.heap.size t7 t8 t10 (.int .i64 nj) (.int .i64 k) t13 t14 t15 t16 t17 t18 t19 t20 t21 t22 t23 t24 t25,[]⟩ [.code Ah,.inLoop Ah,.inBlock 0,.code Ft]) cs) w:=by
 intro m
 induction m with
 |zero=>
  intro k w t7 t8 t10 t13 t14 t15 t16 t17 t18 t19 t20 t21 t22 t23 t24 t25 hk h K;obtain rfl:k=nj:=by omega
  simp only[Ah,k9,Tryz.f47,bT];refine pR ?_;refine lr ?_;simp only[aV,aD,aP,Nat.reduceAdd,bS,bP,cu];refine oU (.bool ay) rfl rfl (by simp[base]) (λw=>by go_simp) (λw=>by simp[go_sem, *]) ?_;walk_nrm;refine uF ?_;refine pR ?_;refine XQ rfl ?_;refine aa4 rfl ?_;exact K _ _ _ _ _ _ _ h
 |succ m ih=>
  intro k w t7 t8 t10 t13 t14 t15 t16 t17 t18 t19 t20 t21 t22 t23 t24 t25 hk h K;have bJ:(k:Int)<nj:=by omega
  simp only[Ah,k9,Tryz.f47,bT];refine pR ?_;refine lr ?_;simp only[aV,aD,aP,Nat.reduceAdd,bS,bP,cu];refine oU (.bool aw) rfl rfl (by simp[base]) (λw=>by go_simp) (λw=>by simp[go_sem, *]) ?_;walk_nrm;refine uF ?_;refine pR ?_;refine XR rfl ?_;refine aa6 ?_;refine pR ?_;refine MN ?_;refine pR ?_;refine lr ?_;simp only[aV,aD,aP,Nat.reduceAdd,bS,bP,cu];refine oU (.int .i64 k) rfl rfl (by simp[base]) (λw=>by go_simp) (λw=>by simp[go_sem, *]) ?_;walk_nrm;refine oU (.int .i64 k) rfl rfl (by simp[base]) (λw=>by go_simp) (λw=>by simp[go_sem, *]) ?_;walk_nrm;refine uF ?_;refine lr ?_;simp only[aV,aD,aP,Nat.reduceAdd,bS,bP,cu];have hc: ∀tp d,(dH w tp d).cell? ⟨w0.heap.size+2,0,ai⟩=ae (.chan (ae (w0.heap.size+1))):=λtp d=>by show w.cell? _=_;unfold c8;simp only[h.cn];rfl
  have kJ:=h.size;refine Iy (.chan (ae (w0.heap.size+1))) rfl rfl (by simp[base]) (w':=w) (λ_ _=>rfl) (ax _) (λtp d=>by have hc:=hc tp d;go_simp) (λtp d e he=>by have hc:=hc tp d;simp[go_sem, *]at he;subst he;exact Eb (by simp) (by simp;omega)) ?_;walk_nrm;refine oU (.int .i64 k) rfl rfl (by simp[base]) (λw=>by go_simp) (λw=>by simp[go_sem, *]) ?_;walk_nrm;obtain⟨s,r,tm,vG⟩:=h.ch;refine EY.send (C:=w0.heap.size+1) (v:=.int .i64 k) (z:=.tuple #[]) (blocking:=true) (shape:=.send) rfl (λtp d=> ?_) (by omega) vG (by simp;omega) (ax _) ?_
  ·refine(stepG_comm rfl rfl (by simp[base]) (cases:= #[scase (w0.heap.size+1) (.int .i64 k) (.tuple #[])]) (blocking:=true) (shape:=.send) (w':=dH w tp d) ?_).trans ?_
   ·simp[execOp,bX,scase]
   ·congr 1
  rw[finishComm_send];have r9: ∀(b:bp) (a:Act) (k:List Item) (ops:Array Oper) (i:Nat) (rest:List Nat),Go.Conc.served (G (b.at a (.inRegion ops (i::rest)::k)) cs) undef=G (b.at (a.put ((ops[i]?).bind (·.dst)) undef) (.inRegion ops rest::k)) cs:=λb a k ops i rest=>by show({frame:=(b.at a (.inRegion ops (i::rest)::k)).finish undef,callers:=cs,status:=.running,dying:=ai}:au)=_;rw[nL];rfl
  rw[r9];have h':EW w0 fv nj (k+1) ay (w.setChan (w0.heap.size+1) nj (((gg 0 k).map (λ(p:Nat)=>aF .i64 p)).toArray.push (.int .i64 k)) ay (s+1) r tm):=by
   have blk: ∀b,b≠w0.heap.size+1->(w.setChan (w0.heap.size+1) nj (((gg 0 k).map (λ(p:Nat)=>aF .i64 p)).toArray.push (.int .i64 k)) ay (s+1) r tm).heap[b]? =w.heap[b]?:=λb hb=>by show(w.heap.setIfInBounds _ _)[b]? =_;rw[aK (Ne.symm hb)]
   refine⟨λb hb=>(blk b (by omega)).trans (h.old b hb),by simpa[qj]using h.size,(blk _ (by omega)).trans h.cf,⟨s+1,r,tm,?_⟩,(blk _ (by omega)).trans h.cn,h.os,h.output⟩;show(w.heap.setIfInBounds _ _)[w0.heap.size+1]? =_;rw[aU (by omega),List.range'_concat];simp
  have tG:=h'.size;generalize w.setChan (w0.heap.size+1) nj (((gg 0 k).map (λ(p:Nat)=>aF .i64 p)).toArray.push (.int .i64 k)) ay (s+1) r tm=w2 at *;rw[show w.heap.size=w2.heap.size by omega];walk_nrm;refine uF ?_;refine P0 ?_;refine lr ?_;simp only[aV,aD,aP,Nat.reduceAdd,bS,bP,cu];have YR:IntKind.i64.wrap ((k:Int)+1)=((k+1:Nat):Int):=by rw[IntKind.wrap_i64];omega
  refine oU (.int .i64 ((k+1:Nat):Int)) rfl rfl (by simp[base]) (λw=>by go_simp) (λw=>by simp[go_sem, *]) ?_;walk_nrm;refine oU (.int .i64 ((k+1:Nat):Int)) rfl rfl (by simp[base]) (λw=>by go_simp) (λw=>by simp[go_sem, *]) ?_;walk_nrm;refine uF ?_;refine T9 ?_;exact ih (k+1) w2 _ _ _ _ _ _ _ _ _ _ _ _ _ _ _ _ (by omega) h' K
def XU {jf:bK}{caps:Array ao}(hnj:nj<=1000)(hfv:fv=.func (.func jf) #[] caps)(K: ∀w (t7 t10 t13 t14 t15 t16 t17 t18:ao),EW w0 fv nj nj aw w->xa aj c Post w0.heap.size vY (G ((base 47).at ⟨xS n nj fv w0.heap.size t7 undef t10 (.int .i64 nj) (.int .i64 nj) t13 t14 t15 t16 t17 t18 undef undef undef undef undef undef undef,[]⟩ [.code ra]) cs) w):xa aj c Post w0.heap.size vY (G ((base 47).at ⟨#[.int .i64 n,.int .i64 nj,fv]++eG 23 undef,[]⟩ [.code k9]) cs) w0:=by
 obtain⟨i0,qE,_,_,tH⟩:=info_parts Qo;simp only[k9,Tryz.f47,bT,dD,dE,ez,dT,cy,dF];refine pR ?_;refine lr ?_;simp only[aV,aD,aP,Nat.reduceAdd,bS,bP,cu];refine Iy (.pointer (ae ⟨w0.heap.size,0,ai⟩)) (w':=w0.alloc (.cells #[fv] 113)) rfl rfl (by simp[base]) (λb hb=>Below.heap_alloc w0 _ b hb) (by simp) (λtp d=> ?_) (λtp d e he=> ?_) ?_
 ·go_simp;exact⟨rfl,rfl⟩
 ·simp[go_sem, *]at he
 walk_nrm;have b1: ∀b,b<w0.heap.size->(w0.alloc (.cells #[fv] 113)).heap[b]? =w0.heap[b]?:=λb hb=>Below.heap_alloc w0 _ b hb
 have s1:(w0.alloc (.cells #[fv] 113)).heap.size=w0.heap.size+1:=by simp
 have c1:(w0.alloc (.cells #[fv] 113)).heap[w0.heap.size]? =ae (.cells #[fv] 113):=heap_alloc_new w0 _;have o1:(w0.alloc (.cells #[fv] 113)).os=w0.os/\(w0.alloc (.cells #[fv] 113)).output=w0.output:=⟨rfl,rfl⟩;generalize w0.alloc (.cells #[fv] 113)=w1 at *;refine uF ?_;refine pR ?_;refine lr ?_;simp only[aV,aD,aP,Nat.reduceAdd,bS,bP,cu];refine oU (.int .i64 nj) rfl rfl (by simp[base]) (λw=>by go_simp) (λw=>by simp[go_sem, *]) ?_;walk_nrm;refine Iy (.chan (ae (w0.heap.size+1))) (w':=w1.alloc (.chan nj #[] ay 0 0 ay)) rfl rfl (by simp[base]) (λb hb=>Below.heap_alloc w1 _ b (by omega)) (by simp) (λtp d=> ?_) (λtp d e he=> ?_) ?_
 ·have hr:=λw=>run_makeChan (P:=aj) (w:=w) Tryz.underlying179 qE .i64 nj (by omega) (by rw[tH];omega)
  go_simp;exact⟨by show w1.heap.size=_;omega,rfl⟩
 ·have hr:=λw=>events_makeChan (P:=aj) (w:=w) Tryz.underlying179 qE .i64 nj (by omega) (by rw[tH];omega) #[]
  simp[go_sem, *]at he
 walk_nrm;have b2: ∀b,b<w0.heap.size+1->(w1.alloc (.chan nj #[] ay 0 0 ay)).heap[b]? =w1.heap[b]?:=λb hb=>Below.heap_alloc w1 _ b (by omega)
 have s2:(w1.alloc (.chan nj #[] ay 0 0 ay)).heap.size=w0.heap.size+2:=by simp[s1]
 have c2:(w1.alloc (.chan nj #[] ay 0 0 ay)).heap[w0.heap.size+1]? =ae (.chan nj #[] ay 0 0 ay):=by rw[<-s1];exact heap_alloc_new w1 _
 have o2:(w1.alloc (.chan nj #[] ay 0 0 ay)).os=w0.os/\(w1.alloc (.chan nj #[] ay 0 0 ay)).output=w0.output:=o1;generalize w1.alloc (.chan nj #[] ay 0 0 ay)=w2 at *;refine Iy (.pointer (ae ⟨w0.heap.size+2,0,ai⟩)) (w':=w2.alloc (.cells #[.chan ai] 179)) rfl rfl (by simp[base]) (λb hb=>Below.heap_alloc w2 _ b (by omega)) (by simp) (λtp d=> ?_) (λtp d e he=> ?_) ?_
 ·go_simp;exact⟨by show w2.heap.size=_;omega,rfl⟩
 ·simp[go_sem, *]at he
 walk_nrm;have b3: ∀b,b<w0.heap.size+2->(w2.alloc (.cells #[.chan ai] 179)).heap[b]? =w2.heap[b]?:=λb hb=>Below.heap_alloc w2 _ b (by omega)
 have s3:(w2.alloc (.cells #[.chan ai] 179)).heap.size=w0.heap.size+3:=by simp[s2]
 have c3:(w2.alloc (.cells #[.chan ai] 179)).heap[w0.heap.size+2]? =ae (.cells #[.chan ai] 179):=by rw[<-s2];exact heap_alloc_new w2 _
 have o3:(w2.alloc (.cells #[.chan ai] 179)).os=w0.os/\(w2.alloc (.cells #[.chan ai] 179)).output=w0.output:=o2;generalize w2.alloc (.cells #[.chan ai] 179)=w3 at *;have hc: ∀tp d,(dH w3 tp d).cell? ⟨w0.heap.size+2,0,ai⟩=ae (.chan ai):=λtp d=>by show w3.cell? _=_;unfold c8;simp only[c3];rfl
 have hz: ∀tp d,(dH w3 tp d).frozen? ⟨w0.heap.size+2,0,ai⟩=ay:=λtp d=>by show w3.frozen? _=_;unfold World.frozen?;simp only[c3];rfl
 refine adR (w':=w3.setCell ⟨w0.heap.size+2,0,ai⟩ (.chan (ae (w0.heap.size+1)))) rfl rfl (by simp[base]) (λb hb=>Below.heap_setCell w3 _ _ b (by simp;omega)) (by simp) (λtp d=> ?_) (λtp d e he=> ?_) ?_
 ·have hc:=hc tp d;have hz:=hz tp d;go_simp;exact OU _ _ _ _ _
 ·have hc:=hc tp d;have hz:=hz tp d;simp[go_sem, *]at he;subst he;exact Eb (by simp) (by simp;omega)
 walk_nrm;have h4:EW w0 fv nj 0 ay (w3.setCell ⟨w0.heap.size+2,0,ai⟩ (.chan (ae (w0.heap.size+1)))):=by
  have blk: ∀b,b≠w0.heap.size+2->(w3.setCell ⟨w0.heap.size+2,0,ai⟩ (.chan (ae (w0.heap.size+1)))).heap[b]? =w3.heap[b]?:=λb hb=>Below.heap_setCell w3 _ _ b (by simp;omega)
  refine⟨λb hb=> ?_,by simpa using s3,?_,⟨0,0,ay,?_⟩,?_,(Rf _ _ _).trans o3.1,(Fu _ _ _).trans o3.2⟩
  ·rw[blk _ (by omega),b3 _ (by omega),b2 _ (by omega),b1 _ hb]
  ·rw[blk _ (by omega),b3 _ (by omega),b2 _ (by omega),c1]
  ·rw[blk _ (by omega),b3 _ (by omega),c2];rfl
  ·rw[setCell_eq_setRow w3 (w0.heap.size+2) 0 #[.chan ai] 179 (0,0) _ c3,setRow_heap w3 (w0.heap.size+2) _ _ 179 _ c3];rfl
 generalize w3.setCell ⟨w0.heap.size+2,0,ai⟩ (.chan (ae (w0.heap.size+1)))=w4 at *;refine uF ?_;refine pR ?_;refine pR ?_;refine lr ?_;simp only[aV,aD,aP,Nat.reduceAdd,bS,bP,cu];refine oU (.int .i64 nj) rfl rfl (by simp[base]) (λw=>by go_simp) (λw=>by simp[go_sem, *]) ?_;walk_nrm;refine oU (.int .i64 0) rfl rfl (by simp[base]) (λw=>by go_simp) (λw=>by simp[go_sem, *]) ?_;walk_nrm;refine uF ?_;refine MN ?_;refine aa5 ?_;refine XT (by omega) nj 0 w4 _ _ _ _ _ _ _ _ _ _ _ _ _ _ _ _ (by omega) h4 ?_;intro w5 t7 t13 t14 t15 t16 t17 h5;simp only[Ft,k9,Tryz.f47,bT];refine pR ?_;refine lr ?_;simp only[aV,aD,aP,Nat.reduceAdd,bS,bP,cu];have hc5: ∀tp d,(dH w5 tp d).cell? ⟨w0.heap.size+2,0,ai⟩=ae (.chan (ae (w0.heap.size+1))):=λtp d=>by show w5.cell? _=_;unfold c8;simp only[h5.cn];rfl
 have s5:=h5.size;refine Iy (.chan (ae (w0.heap.size+1))) rfl rfl (by simp[base]) (w':=w5) (λ_ _=>rfl) (ax _) (λtp d=>by have hc:=hc5 tp d;go_simp) (λtp d e he=>by have hc:=hc5 tp d;simp[go_sem, *]at he;subst he;exact Eb (by simp) (by simp;omega)) ?_;walk_nrm;obtain⟨s,r,tm,vG⟩:=h5.ch;refine EY.step (w':=w5.setChan (w0.heap.size+1) nj ((gg 0 nj).map (λ(p:Nat)=>aF .i64 p)).toArray aw s r tm) rfl (λtp d=>⟨_,stepG_close rfl rfl (by simp[base]) rfl (cap:=nj) (s:=s) (r:=r) (tm:=tm) (buf:=((gg 0 nj).map (λ(p:Nat)=>aF .i64 p)).toArray) rfl (by exact vG) (by kernel_rfl),T6 (by omega) (by simp[qj];omega)⟩) ?_ ?_ (by simp[qj]) (ax _) ?_
 ·intro b hb;show(w5.heap.setIfInBounds _ _)[b]? =_;rw[aK (by omega)]
 ·simp[qj]
 have h6:EW w0 fv nj nj aw (w5.setChan (w0.heap.size+1) nj ((gg 0 nj).map (λ(p:Nat)=>aF .i64 p)).toArray aw s r tm):=by
  have blk: ∀b,b≠w0.heap.size+1->(w5.setChan (w0.heap.size+1) nj ((gg 0 nj).map (λ(p:Nat)=>aF .i64 p)).toArray aw s r tm).heap[b]? =w5.heap[b]?:=λb hb=>by show(w5.heap.setIfInBounds _ _)[b]? =_;rw[aK (Ne.symm hb)]
  refine⟨λb hb=>(blk b (by omega)).trans (h5.old b hb),by simpa[qj]using h5.size,(blk _ (by omega)).trans h5.cf,⟨s,r,tm,?_⟩,(blk _ (by omega)).trans h5.cn,h5.os,h5.output⟩;show(w5.heap.setIfInBounds _ _)[w0.heap.size+1]? =_;rw[aU (by omega)]
 generalize w5.setChan (w0.heap.size+1) nj ((gg 0 nj).map (λ(p:Nat)=>aF .i64 p)).toArray aw s r tm=w6 at *;walk_nrm;refine uF ?_;exact K w6 _ _ _ _ _ _ _ _ h6
end
end
section
open Rel
open Go.Conc Go.ConcN
open Go.Conc.Lib (doneFn)
open Go.ConcR (Payload WgAt)
open Go.ConcR.Gen (body_done)
instance ahm:Payload:=⟨1⟩
structure WK (φ:Ph) (w0:ah) (b1 C:Nat) (fv:ao) (γ:Gh) (w:ah):Prop where
 o1:γ.own b1
 oC:γ.own C
 c1:w.cell? ⟨b1,0,ai⟩=ae (.pointer (ae ⟨φ.Wg,0,ai⟩))
 cC:w.heap[C]? =ae (.cells #[fv] 1)
 rd: ∀b,φ.oS b->w.heap[b]? =w0.heap[b]?
 pay: ∀b,φ.CB b->fL w b=fL w0 b
 live:WgLive φ.ty φ.Wg w
 cb: ∀r,γ.own r-> ¬φ.CB r/\ ¬φ.oS r/\r≠φ.Wg/\r<w.heap.size
 size:w0.heap.size<=w.heap.size
 Ho: ∀i,γ.held i->φ.JP (λb=>γ.own b/\b≠C) i w
section
variable {φ:Ph} {w0 w az:ah} {b1 C:Nat} {fv:ao} {γ:Gh}
def WK.rely (O:φ.Ok)(h:WK φ w0 b1 C fv γ w)(r:φ.e9 γ w az):WK φ w0 b1 C fv γ az:=⟨h.o1,h.oC,(da (r.own b1 h.o1)).trans h.c1,(r.own C h.oC).trans h.cC,λb hb=>(r.rd b hb).trans (h.rd b hb),λb hb=>(r.pay b hb).trans (h.pay b hb),r.live h.live,λx hx=>let⟨a,b,d,c⟩:=h.cb x hx;⟨a,b,d,cc c r.size⟩,bM h.size r.size,λi hi=>O.jp _ w az i (λb hb=>r.own b hb.1) (λa ha=>r.cell i a hi ha) (h.Ho i hi)⟩
def WK.agU (h:WK φ w0 b1 C fv γ w):PayAt C 1 w:=⟨_,h.cC,rfl⟩
def WK.has (h:WK φ w0 b1 C fv γ w):Has C 0 fv w:=by unfold Has c8;rw[h.cC];rfl
def WK.close (h:WK φ w0 b1 C fv γ w):WK φ w0 b1 C fv γ.close w:=⟨h.o1,h.oC,h.c1,h.cC,h.rd,h.pay,h.live,h.cb,h.size,h.Ho⟩
noncomputable def SI (φ:Ph)(γ:Gh):Nat:=by classical exact(bP φ.nj).countP (λp=>decide (¬γ.held p))
def Qz {p:Nat}(hp:p<φ.nj)(hn: ¬γ.held p){γ':Gh}(h: ∀i,γ'.held i↔(γ.held i\/i=p)):SI φ γ'<SI φ γ:=by
 classical
 unfold SI;refine AO (λx _ hx=> ?_) ⟨p,ng.2 hp,?_,?_⟩
 ·simp only[decide_eq_true_eq]at hx|-;exact λhh=>hx ((h x).2 (.inl hh))
 ·simpa using hn
 ·simpa using(h p).2 (.inr rfl)
def DT (φ:Ph)(w0:ah)(jf:bK)(caps:Array ao):Prop:=
 ∀(b1 C:Nat) (fv:ao) (γ:Gh) (w:ah) (p:Nat),WK φ w0 b1 C fv γ w->p<φ.nj-> ¬γ.held p->φ.J0 p w->
  ∃F x,φ.P.funcs[jf]? =ae F/\(F.name== "runtime.NumGoroutine")=ay/\F.body=ae x/\
   ∀(b:bp) (a:Act) (k:List Item) (cs:List bp) (ops:Array Oper) (i:Nat) (rest:List Nat),b.kind=.normal->
    (∀γ' w',WK φ w0 b1 C fv γ' w'->(∀q,γ'.held q↔(γ.held q\/q=p))->γ'.over=γ.over->φ.WT γ' (G (b.at (a.put ((ops[i]?).bind (·.dst)) (.tuple #[])) (.inRegion ops rest::k)) cs) w')->
    φ.WT (γ.hold p) (G ((base jf).at {tmps:=(#[φ.jv p]++caps)++eG (F.ntmps-(#[φ.jv p]++caps).size) undef,defers:=[]} [.code x]) (b.at a (.inRegion ops (i::rest)::k)::cs)) w
end
noncomputable def KF:Code:=match Tryz.f105.body with|some (.seq _ (.block _ (.loop x)))=>x|_=>.skip
def RD {φ:Ph}(O:φ.Ok)(hP:φ.P=aj)(hz:φ.z=.int .i64 0)(Yu: ∀p,p<φ.nj-> ∃n,φ.jv p=.int .i64 n){w0:ah}{bn bf b1 C:Nat}{fv:ao}{jf:bK}{caps:Array ao}(rf:φ.oS bf)(cf:w0.cell? ⟨bf,0,ai⟩=ae (.func (.func jf) #[] caps))(hJ:DT φ w0 jf caps){b:bp}{a:Act}{k:List Item}{cs:List bp}{ops:Array Oper}{i:Nat}{rest:List Nat}(K: ∀γ' w',WK φ w0 b1 C fv γ' w'->γ'.over->φ.WT γ' (G (b.at (a.put ((ops[i]?).bind (·.dst)) (.tuple #[])) (.inRegion ops rest::k)) cs) w'): ∀(n:Nat) (γ:Gh) (w:ah) (x2 x4 x5 x6 x7 x8 x9:ao),SI φ γ=n->WK φ w0 b1 C fv γ w->φ.WT γ (G ((base 105).at ⟨#[.pointer (ae ⟨bn,0,ai⟩),.pointer (ae ⟨bf,0,ai⟩),x2,.chan (ae φ.Ch),x4,x5,x6,x7,x8,x9],[]⟩ [.code KF,.inLoop KF,.inBlock 0]) (b.at a (.inRegion ops (i::rest)::k)::cs)) w:=by
 intro n
 induction n using mQ with
 |_ n ih=>
  intro γ w x2 x4 x5 x6 x7 x8 x9 hn h;have Yo:φ.P.funcs[105]? =ae Tryz.f105:=by rw[hP];exact Tryz.func105
  simp only[KF,Tryz.f105];refine mP O ?_;refine iG O ?_;simp only[aV,aD,aP,Nat.reduceAdd,bS,bP,cu];refine acK rfl rfl (by simp[base]) rfl rfl (λw=> ?_) (λw=> ?_) (λaz p hr hp hnp P'=> ?_) (λaz hr=> ?_)
  ·rw[hP,hz];go_simp
   rfl
  ·rw[hP];simp[go_sem, *]
  ·have hk:=h.rely O hr;obtain⟨m,hm⟩:=Yu p hp;rw[hm];simp only[Act.put,List.setIfInBounds_toArray,List.set_cons_succ,List.set_cons_zero];refine l7 O (.bool aw) rfl rfl (by simp[base]) (λw _=>by go_simp) (λw _=>by simp[go_sem, *]) ?_;walk_nrm;refine nB O ?_;refine mP O ?_;refine O3 O rfl ?_;refine LA O ?_;refine Ao O ?_;refine mP O ?_;refine iG O ?_;simp only[aV,aD,aP,Nat.reduceAdd,bS,bP,cu];refine l7 O (.int .i64 m) rfl rfl (by simp[base]) (λw _=>by go_simp) (λw _=>by simp[go_sem, *]) ?_;walk_nrm;refine l7 O (.int .i64 m) rfl rfl (by simp[base]) (λw _=>by go_simp) (λw _=>by simp[go_sem, *]) ?_;walk_nrm;refine nB O ?_;refine iG O ?_;simp only[aV,aD,aP,Nat.reduceAdd,bS,bP,cu];have hc: ∀fu,φ.e9 (γ.hold p) az fu->fu.cell? ⟨bf,0,ai⟩=ae (.func (.func jf) #[] caps):=λfu h2=>(da ((h2.rd bf rf).trans (hk.rd bf rf))).trans cf
   refine sB O (.func (.func jf) #[] caps) (ad:=⟨bf,0,ai⟩) rfl rfl (by simp[base]) (.inr rf) (λfu h2=>by have hc:=hc fu h2;rw[hP];go_simp) (λfu h2 e he=>by have hc:=hc fu h2;rw[hP]at he;simp[go_sem, *]at he;exact he) ?_;clear hc;walk_nrm;refine l7 O (.int .i64 m) rfl rfl (by simp[base]) (λw _=>by go_simp) (λw _=>by simp[go_sem, *]) ?_;walk_nrm;obtain⟨F,x,hF,iC,hx,hgo⟩:=hJ b1 C fv γ az p hk hp hnp P';refine FJ O rfl rfl (by simp[base]) rfl rfl hF iC hx ?_;rw[hm]at hgo;walk_nrm;refine hgo _ _ _ _ _ _ _ rfl λγ' w' Cg hh hov=> ?_
   walk_nrm;refine nB O ?_;refine FL O ?_;refine JM O ?_;exact ih _ (by have:=Qz hp hnp hh;omega) γ' w' _ _ _ _ _ _ _ rfl Cg
  ·have hk:=(h.rely O hr).close;rw[hz];simp only[Act.put,List.setIfInBounds_toArray,List.set_cons_succ,List.set_cons_zero];refine l7 O (.bool ay) rfl rfl (by simp[base]) (λw _=>by go_simp) (λw _=>by simp[go_sem, *]) ?_;walk_nrm;refine nB O ?_;refine mP O ?_;refine FK O rfl ?_;refine Tv O rfl ?_;refine Ly O ?_;refine .leave0 O rfl rfl Yo rfl ?_;exact K _ _ hk trivial
def ae3 {φ:Ph}(O:φ.Ok)(hP:φ.P=aj)(hz:φ.z=.int .i64 0)(Yu: ∀p,p<φ.nj-> ∃n,φ.jv p=.int .i64 n){w0:ah}{bn bf b1 C:Nat}{fv:ao}{jf:bK}{caps:Array ao}(rn:φ.oS bn)(rf:φ.oS bf)(cn:w0.cell? ⟨bn,0,ai⟩=ae (.chan (ae φ.Ch)))(cf:w0.cell? ⟨bf,0,ai⟩=ae (.func (.func jf) #[] caps))(hJ:DT φ w0 jf caps){b:bp}{a:Act}{k:List Item}{cs:List bp}{ops:Array Oper}{i:Nat}{rest:List Nat}(γ:Gh)(w:ah)(h:WK φ w0 b1 C fv γ w)(K: ∀γ' w',WK φ w0 b1 C fv γ' w'->γ'.over->φ.WT γ' (G (b.at (a.put ((ops[i]?).bind (·.dst)) (.tuple #[])) (.inRegion ops rest::k)) cs) w'):φ.WT γ (G ((base 105).at ⟨#[.pointer (ae ⟨bn,0,ai⟩),.pointer (ae ⟨bf,0,ai⟩)]++eG 8 undef,[]⟩ [.code ((Tryz.f105).body.getD .skip)]) (b.at a (.inRegion ops (i::rest)::k)::cs)) w:=by
 simp only[Tryz.f105,bT,dD,dE,ez,dT,cy,dF];refine mP O ?_;refine iG O ?_;simp only[aV,aD,aP,Nat.reduceAdd,bS,bP,cu];have hc: ∀fu,φ.e9 γ w fu->fu.cell? ⟨bn,0,ai⟩=ae (.chan (ae φ.Ch)):=λfu h2=>(da ((h2.rd bn rn).trans (h.rd bn rn))).trans cn
 refine sB O (.chan (ae φ.Ch)) (ad:=⟨bn,0,ai⟩) rfl rfl (by simp[base]) (.inr rn) (λfu h2=>by have hc:=hc fu h2;rw[hP];go_simp) (λfu h2 e he=>by have hc:=hc fu h2;rw[hP]at he;simp[go_sem, *]at he;exact he) ?_;clear hc;walk_nrm;refine nB O ?_;refine Ao O ?_;refine Tw O ?_;exact RD O hP hz Yu rf cf hJ K _ γ w _ _ _ _ _ _ _ rfl h
def XN (d:Nat)(w:ah):Sem.events aj (Op.equalIn (d+1) 20 .nilIface .nilIface) w #[]= #[]:=by unfold Op.equalIn;simp[go_sem]
def Vn (d:Nat)(w:ah):Sem.run aj (Op.equalIn (d+1) 20 .nilIface .nilIface) w=.ok aw w:=by unfold Op.equalIn;simp[go_sem]
def T8 (w:ah):Sem.events aj (binOp BinOp.neq 20 Value.nilIface Value.nilIface) w #[]= #[]:=by have h:binOp BinOp.neq 20 Value.nilIface Value.nilIface=(do pure (.bool (!(<-Op.equal 20 .nilIface .nilIface)))):=rfl;rw[h];unfold Op.equal;have e:Op.maxDepth=9999+1:=rfl;rw[e];have h1:=XN 9999 w;have h2:=Vn 9999 w;generalize Op.equalIn (9999+1) 20 .nilIface .nilIface=s at h1 h2;simp[h1,h2]
def aap {φ:Ph}(O:φ.Ok)(hP:φ.P=aj)(Hk:φ.ty=189)(hz:φ.z=.int .i64 0)(Yu: ∀p,p<φ.nj-> ∃n,φ.jv p=.int .i64 n){w0:ah}{bn bf b1 C:Nat}{jf:bK}{caps:Array ao}(rn:φ.oS bn)(rf:φ.oS bf)(cn:w0.cell? ⟨bn,0,ai⟩=ae (.chan (ae φ.Ch)))(cf:w0.cell? ⟨bf,0,ai⟩=ae (.func (.func jf) #[] caps))(hJ:DT φ w0 jf caps){γ:Gh}{w:ah}(h:WK φ w0 b1 C (.func (.func 105) #[] #[.pointer (ae ⟨bn,0,ai⟩),.pointer (ae ⟨bf,0,ai⟩)]) γ w):φ.WT γ (born φ.P (p8 154 #[.pointer (ae ⟨b1,0,ai⟩),.pointer (ae ⟨C,0,ai⟩)] #[])) w:=by
 have hf1:φ.P.funcs[154]? =ae Tryz.f154:=by rw[hP];exact Tryz.func154
 have hf2:φ.P.funcs[155]? =ae Tryz.f155:=by rw[hP];exact Tryz.func155
 have hf3:φ.P.funcs[105]? =ae Tryz.f105:=by rw[hP];exact Tryz.func105
 have H:Go.Conc.Lib.WgLib φ.P lH:=hP▸aal;refine acI O hf1 rfl rfl ?_
 walk_nrmf Tryz.f154
 refine mP O ?_;refine iG O ?_;simp only[aV,aD,aP,Nat.reduceAdd,bS,bP,cu];refine l7 O (.func (.func 155) #[] #[.pointer (ae ⟨b1,0,ai⟩)]) rfl rfl (by simp[baseD]) (λw _=>by go_simp) (λw _=>by simp[go_sem, *]) ?_;walk_nrm;refine VD O rfl rfl (by simp[baseD]) rfl rfl rfl ?_;walk_nrm;refine nB O ?_;refine iG O ?_;simp only[aV,aD,aP,Nat.reduceAdd,bS,bP,cu];have hc: ∀fu,φ.e9 γ w fu->fu.cell? ⟨C,0,ai⟩=ae (.func (.func 105) #[] #[.pointer (ae ⟨bn,0,ai⟩),.pointer (ae ⟨bf,0,ai⟩)]):=λfu h2=>(h.rely O h2).has
 refine sB O (.func (.func 105) #[] #[.pointer (ae ⟨bn,0,ai⟩),.pointer (ae ⟨bf,0,ai⟩)]) (ad:=⟨C,0,ai⟩) rfl rfl (by simp[baseD]) (.inl h.oC) (λfu h2=>by have hc:=hc fu h2;rw[hP];go_simp) (λfu h2 e he=>by have hc:=hc fu h2;rw[hP]at he;simp[go_sem, *]at he;exact he) ?_;clear hc;walk_nrm;refine FJ O rfl rfl (by simp[baseD]) rfl rfl hf3 rfl rfl ?_;walk_nrm;refine ae3 O hP hz Yu rn rf cn cf hJ γ w h λγ' w' h' hov=> ?_
 walk_nrm;refine nB O ?_;refine Ly O ?_;refine RE O rfl hf2 rfl rfl ?_
 walk_nrmf Tryz.f155
 refine mP O ?_;refine mP O ?_;refine iG O ?_;simp only[aV,aD,aP,Nat.reduceAdd,bS,bP,cu];refine Lz O rfl rfl rfl rfl rfl rfl ?_;walk_nrm;refine l7 O .nilIface rfl rfl (by simp[baseD]) (λw _=>by go_simp) (λw _=>by simp[go_sem, *]) ?_;walk_nrm;refine nB O ?_;refine mP O ?_;refine iG O ?_;simp only[aV,aD,aP,Nat.reduceAdd,bS,bP,cu];refine l7 O .nilIface rfl rfl (by simp[baseD]) (λw _=>by go_simp) (λw _=>by simp[go_sem, *]) ?_;walk_nrm;refine l7 O (.bool ay) rfl rfl (by simp[baseD]) (λw _=>by rw[hP];go_simp) (λw _=>by rw[hP];simp[go_sem, *];exact T8 w) ?_;walk_nrm;refine nB O ?_;refine FK O rfl ?_;refine LA O ?_;refine iG O ?_;simp only[aV,aD,aP,Nat.reduceAdd,bS,bP,cu];have hc: ∀fu,φ.e9 γ' w' fu->fu.cell? ⟨b1,0,ai⟩=ae (.pointer (ae ⟨φ.Wg,0,ai⟩)):=λfu h2=>(h'.rely O h2).c1
 refine sB O (.pointer (ae ⟨φ.Wg,0,ai⟩)) (ad:=⟨b1,0,ai⟩) rfl rfl (by simp[baseD]) (.inl h'.o1) (λfu h2=>by have hc:=hc fu h2;rw[hP];go_simp) (λfu h2 e he=>by have hc:=hc fu h2;rw[hP]at he;simp[go_sem, *]at he;exact he) ?_;clear hc;walk_nrm;refine FJ O (caps:= #[]) rfl rfl (by simp[baseD]) rfl rfl H.f_done (Go.ConcR.Gen.nm_done lH) rfl ?_
 walk_nrmf doneFn
 refine acJ (L:=lH) H Hk hov h'.oC h'.agU h'.has h'.live h'.Ho (qt:=3+2) ?_;walk_nrm;refine QuitsD.ctl rfl (λ_=>stepG_region_end) ?_;refine QuitsD.ctl rfl (λ_=>stepG_end) ?_;refine QuitsD.leaveD rfl rfl hf2 rfl rfl ?_;exact K2 rfl rfl hf1 rfl
end
section
open Go.RowKit
def pL (x:Int×Int):List Int:=[x.1,x.2]
def pV (x:Int×Int):ao:=.agg (ints (pL x))
@[go_sem] theorem aiE (a b:Int):pV (a,b)=.agg #[.int .i64 a,.int .i64 b]:=rfl
abbrev bR (pb:Nat)(ps:List (Int×(Int×Int))):bU:=uo (aF .i64) pV ot pb ps
def RH (w:ah):(zeroValue 132).run aj w=.ok (pV (0,0)) w:=by kernel_rfl
def yS (p sp tb pb:Nat)(ls:List (Int×Bool))(T:WT):List bU:=[br p 108 #[.pointer (ae ⟨sp,0,ai⟩),.map (ae tb),.map (ae pb)],cI sp ls,PtrMap tb (T.ks.map λK=>(K,T.pt K)),bR pb T.ps]++T.ks.map λK=>oo (T.pt K) K (T.rw K)
def dR (p:Nat)(ls:List (Int×Bool))(f:BF):bU where
 at_ w F:= ∃sp tb pb T,nS T f/\Sep (yS p sp tb pb ls T) w F
 frame h ho hd:=by obtain⟨sp,tb,pb,T,h1,hs⟩:=h;exact⟨sp,tb,pb,T,h1,hs.frame ho hd⟩
 cut h hd:=by obtain⟨sp,tb,pb,T,h1,hs⟩:=h;exact⟨sp,tb,pb,T,h1,hs.cut hd⟩
section
variable {G:Nat->Prop} {w0 w w':ah} {l:List bU} {p sp tb pb:Nat} {ls:List (Int×Bool)} {f:BF} {T:WT}
def In.agS (h:In G w0 (dR p ls f::l) w): ∃sp tb pb T,nS T f/\In G w0 (yS p sp tb pb ls T++l) w:=by obtain⟨⟨F1,F2,⟨sp,tb,pb,T,hT,hs⟩,h2,h3,h4⟩,ho⟩:=h;exact⟨sp,tb,pb,T,hT,(Sep.join hs h2 h3).cut λk _ hk=>h4 k hk,ho⟩
def In.ag4 (hT:nS T f)(h:In G w0 (yS p sp tb pb ls T++l) w):In G w0 (dR p ls f::l) w:=by obtain⟨hs,ho⟩:=h;obtain⟨F1,F2,h1,h2,h3,h4⟩:=Sep.part hs;exact⟨⟨F1,F2,⟨sp,tb,pb,T,hT,h1⟩,h2,h3,h4⟩,ho⟩
end
def dI (T:WT)(K:Int):bU:=oo (T.pt K) K (T.rw K)
def sw (p sp tb pb:Nat)(ls:List (Int×Bool))(T:WT)(l:List bU):(yS p sp tb pb ls T++l).Perm (br p 108 #[.pointer (ae ⟨sp,0,ai⟩),.map (ae tb),.map (ae pb)]::cI sp ls::PtrMap tb (T.ks.map λK=>(K,T.pt K))::bR pb T.ps::(l++T.ks.map (dI T))):=by unfold yS;rw[cx];exact dy _ List.perm_append_comm
section
variable {G:Nat->Prop} {w0 w w':ah} {l:List bU} {p sp tb pb:Nat} {ls:List (Int×Bool)} {f:BF} {T:WT}
def In.lz (h:In G w0 (dR p ls f::l) w): ∃sp tb pb T,nS T f/\In G w0 (br p 108 #[.pointer (ae ⟨sp,0,ai⟩),.map (ae tb),.map (ae pb)]::cI sp ls::PtrMap tb (T.ks.map λK=>(K,T.pt K))::bR pb T.ps::(l++T.ks.map (dI T))) w:=by obtain⟨sp,tb,pb,T,h1,h2⟩:=h.agS;exact⟨sp,tb,pb,T,h1,h2.perm (sw p sp tb pb ls T l)⟩
def In.gC (hT:nS T f)(h:In G w0 (br p 108 #[.pointer (ae ⟨sp,0,ai⟩),.map (ae tb),.map (ae pb)]::cI sp ls::PtrMap tb (T.ks.map λK=>(K,T.pt K))::bR pb T.ps::(l++T.ks.map (dI T))) w):In G w0 (dR p ls f::l) w:=In.ag4 hT (h.perm (sw p sp tb pb ls T l).symm)
def NN {α:Type}: ∀(L:List α) (n:Nat) (hn:n<L.length),(L[n]::L.eraseIdx n).Perm L
 | [],_,hn=>by simp at hn
 |a::L,0,_=>qK _
 |a::L,n+1,hn=>(cJ _ _ _).trans ((NN L n (by simpa using hn)).cons a)
def In.nth {L:List bU}(h:In G w0 L w)(n:Nat)(hn:n<L.length):In G w0 (L[n]::L.eraseIdx n) w:=h.perm (NN L n hn).symm
def In.to4 {A B C P:bU}(h:In G w0 (P::A::B::C::l) w):In G w0 (A::B::C::P::l) w:=h.perm ((cJ A P _).trans (((cJ B P _).trans ((cJ C P _).cons B)).cons A))
def In.to3 {A B P:bU}(h:In G w0 (P::A::B::l) w):In G w0 (A::B::P::l) w:=h.perm ((cJ A P _).trans ((cJ B P _).cons A))
def In.to5 {A B C D P:bU}(h:In G w0 (P::A::B::C::D::l) w):In G w0 (A::B::C::D::P::l) w:=h.perm ((cJ A P _).trans (((cJ B P _).trans (((cJ C P _).trans ((cJ D P _).cons C)).cons B)).cons A))
def In.reorder {M:List bU}(h:In G w0 M w)(n:Nat)(σ:List Nat)(hσ:σ.isPerm (bP n)=aw)(hn:n<=M.length):In G w0 (σ.map (λi=>M.getD i (br 0 0 #[]))++M.drop n) w:=by
 refine h.perm ?_;have e:M=(bP n).map (λi=>M.getD i (br 0 0 #[]))++M.drop n:=by
  conv=>lhs;rw[<-List.take_append_drop n M]
  congr 1;apply mf;intro i;rw[ie,dN];by_cases hi:i<n
  ·rw[if_pos hi,List.getElem?_range hi,aq (by omega)];simp[aY,aq (show i<M.length by omega)]
  ·rw[if_neg hi,jz (by simp;omega)];rfl
 conv=>lhs;rw[e]
 exact List.Perm.append_right _ ((List.isPerm_iff.1 hσ).symm.map _)
def In.Cw {X:List bU}(h:In G w0 (X++T.ks.map (dI T)) w){K:Int}(hK:K∈T.ks):In G w0 (oo (T.pt K) K (T.rw K)::(X++(T.ks.erase K).map (dI T))) w:=h.perm ((dy X ((List.perm_cons_erase hK).map (dI T))).trans List.perm_middle)
def In.Xp {X:List bU}{K:Int}{rows:List cQ}{ks:List Int}{ps:List (Int×(Int×Int))}(hn:T.ks.Nodup)(hK:K∈T.ks)(h:In G w0 (oo (T.pt K) K rows::(X++(T.ks.erase K).map (dI T))) w):In G w0 (X++T.ks.map (dI ⟨ks,T.pt,jC T.rw K rows,ps⟩)) w:=by
 refine h.perm (List.Perm.symm ?_);refine(dy X ((List.perm_cons_erase hK).map _)).trans ?_;rw[eN];have e1:dI ⟨ks,T.pt,jC T.rw K rows,ps⟩ K=oo (T.pt K) K rows:=by unfold dI;simp only[iE]
 have e2:(T.ks.erase K).map (dI ⟨ks,T.pt,jC T.rw K rows,ps⟩)=(T.ks.erase K).map (dI T):=by
  apply dx;intro j hj;have:j≠K:=by rintro rfl;exact(List.Nodup.not_mem_erase hn) hj
  unfold dI;simp only[gW _ _ this]
 rw[e1,e2];exact List.perm_middle
def In.ain {X:List bU}{K:Int}{q:Nat}{rows:List cQ}{ps:List (Int×(Int×Int))}(hK:K∉T.ks)(h:In G w0 (oo q K rows::(X++T.ks.map (dI T))) w):In G w0 (X++(T.ks++[K]).map (dI ⟨T.ks++[K],jC T.pt K q,jC T.rw K rows,ps⟩)) w:=by
 refine h.perm ?_;rw[ey];have e1:[K].map (dI ⟨T.ks++[K],jC T.pt K q,jC T.rw K rows,ps⟩)=[oo q K rows]:=by unfold dI;simp only[eN,List.map_nil,iE]
 have e2:T.ks.map (dI ⟨T.ks++[K],jC T.pt K q,jC T.rw K rows,ps⟩)=T.ks.map (dI T):=by
  apply dx;intro j hj;have:j≠K:=λe=>hK (by rw[<-e];exact hj)
  unfold dI;simp only[gW _ _ this]
 rw[e1,e2,<-cx];exact(List.perm_append_singleton _ _).symm
def In.adQ {X:List bU}{K:Int}{q:Nat}{rows lK:List cQ}{ks:List Int}{ps:List (Int×(Int×Int))}(hn:T.ks.Nodup)(h:In G w0 (oo q K rows::(X++(T.ks.erase K).map (dI T))) w):In G w0 (X++(T.ks.filter λk=> !decide (k=K)).map (dI ⟨ks,T.pt,jC T.rw K lK,ps⟩)) w:=by
 have h1:=h.drop;have e:(T.ks.filter λk=> !decide (k=K))=T.ks.erase K:=by rw[hn.erase_eq_filter];apply List.filter_congr;intro x _;by_cases hx:x=K<;>simp[hx]
 have e2:(T.ks.erase K).map (dI ⟨ks,T.pt,jC T.rw K lK,ps⟩)=(T.ks.erase K).map (dI T):=by
  apply dx;intro j hj;have:j≠K:=by rintro rfl;exact(List.Nodup.not_mem_erase hn) hj
  unfold dI;simp only[gW _ _ this]
 rw[e,e2];exact h1
end
def nS.tZ {T:WT}{f:BF}(h:nS T f){K:Int}(hK:K∈T.ks):(T.rw K).length<=60:=by
 have Ey:((T.rw K).map λr=>r.h.1).Nodup:=by
  refine NM λi j x M9 hi hj=> ?_
  rw[dN]at hi hj;obtain⟨r,hr,rfl⟩:=aJ.1 hi;obtain⟨r',Av,e⟩:=aJ.1 hj;obtain⟨_,h1⟩:=h.at_ K hK i r hr;obtain⟨_,h2⟩:=h.at_ K hK j r' Av;rw[<-e,h2]at h1;injection h1 with h1
  injection h1 with _ h1
  omega
 have mW: ∀x∈(T.rw K).map (λr=>r.h.1),x∈(bP 60).map (λi:Nat=>(i:Int)):=by intro x hx;obtain⟨r,hr,rfl⟩:=aH.1 hx;obtain⟨i,hi,hir⟩:=dK.1 hr;obtain⟨h1,_⟩:=h.at_ K hK i r (by rw[aq hi,hir]);obtain⟨_,_,h2,h3⟩:=h.ok _ _ _ h1;exact aH.2 ⟨r.h.1.toNat,ng.2 (by omega),by omega⟩
 have:=wG Ey mW;simpa using this
section
variable {G:Nat->Prop} {w0 w:ah} {l:List bU} {p:Nat} {ls:List (Int×Bool)} {f:BF}
def In.slotsOf (h:In G w0 (dR p ls f::l) w): ∃sp F,(∀n:After w,n.w.cell? ⟨p,0,ai⟩=ae (.pointer (ae ⟨sp,0,ai⟩)))/\(∀n:After w,eM n.w sp ls F):=by obtain⟨sp,tb,pb,T,hT,hI⟩:=h.lz;obtain⟨F1,hS⟩:=hI.swap.head;exact⟨sp,F1,λn=>(hI.blk.after n.below).cell 0,λn=>kM.after hS n.below⟩
end
def kK {b:aQ}(h:bI b=0):0<=b.k/\b.k<=255:=(mU b h).1
def O9 (w:ah):(zeroValue 134).run aj w=.ok (.pointer ai) w:=by kernel_rfl
def abR (T:WT):aW (T.ks.map λK=>(K,T.pt K))=T.ks:=by
 unfold aW;rw[List.map_map]
 conv=>rhs;rw[<-List.map_id T.ks]
 exact dx λ_ _=>rfl
def Zw (T:WT)(K:Int):dY (T.ks.map λK=>(K,T.pt K)) K=if K∈T.ks then ae (T.pt K)else ai:=by
 split
 ·rename_i h
  unfold dY;have: ∀(l:List Int),K∈l->(l.map λK=>(K,T.pt K)).find? (λp=>decide (p.1=K))=ae (K,T.pt K):=by
   intro l
   induction l with
   |nil=>simp
   |cons a l ih=>
    intro hm;rw[eN,oj];by_cases e:a=K
    ·simp[e]
    ·rw[decide_eq_false e];exact ih (by rcases cj.1 hm with h|h;exact absurd h.symm e;exact h)
  rw[this _ h];rfl
 ·rename_i h
  rw[qG,abR];exact h
def aeE (T:WT)(K:Int)(p:Nat)(h:K∉T.ks):hZ (T.ks.map λK=>(K,T.pt K)) K p=(T.ks++[K]).map λk=>(k,jC T.pt K p k):=by
 unfold hZ;rw[if_neg]
 ·rw[ey];congr 1
  ·apply dx;intro k hk;rw[gW _ _ (λe=>h (by rw[<-e];exact hk))]
  ·simp[iE]
 ·intro ha;obtain⟨q,hq,e⟩:=qc.1 ha;obtain⟨k,hk,rfl⟩:=aH.1 hq;exact h (by simpa using(by simpa using e:k=K)▸hk)
def Qy {G:Nat->Prop}{w0 w:ah}{l:List bU}{p:Nat}{ls:List (Int×Bool)}{f:BF}(h:In G w0 (dR p ls f::l) w)(s g:Int)(b:aQ)(hf:f s=ai)(hb:bI b=0/\b.v.length=8/\0<=s/\s<60):Calls aj 128 #[.pointer (ae ⟨p,0,ai⟩),.agg #[.int .i64 s,.int .i64 g],.agg (ints b.list)] w λe w'=>e=.returned (.tuple #[])/\In G w0 (dR p ls (ei f s (ae (g,b)))::l) w':=by
 obtain⟨sp,tb,pb,T,hT,hI⟩:=h.lz;have hk:=kK hb.1;have HT:=af hT;have HF:=af hf;have HB:=af hb;have kZ:=af hI;have HK:=af hk;clear h hT hI hf hb hk;have zJ:b.list.length=9:=by unfold aQ.list;rw[aD,HB.out.2.1]
 go_enter Tryz.func128,Tryz.ntmps128
 go_upto_region 1 with(fail)
 refine bZ (In G w0 (br (w.heap.size+1) 48 (ints b.list)::br w.heap.size 43 (ints [s,g])::br p 108 #[.pointer (ae ⟨sp,0,ai⟩),.map (ae tb),.map (ae pb)]::cI sp ls::PtrMap tb (T.ks.map λK=>(K,T.pt K))::bR pb T.ps::(l++T.ks.map (dI T)))) (by have:=(kZ.out.alloc 43 (ints [s,g])).alloc 48 (ints b.list);rw[dw]at this;exact this) ?_
 generalize w.heap.size+1=bb;generalize w.heap.size=hb;intro w1 km;have c1: ∀n:After w1,n.w.cell? ⟨p,1,ai⟩=ae (.map (ae tb)):=λn=>(km.third.blk.after n.below).cell 1
 have c2: ∀n:After w1,n.w.cell? ⟨bb,0,ai⟩=ae (.int .i64 b.k):=λn=>(km.blk.after n.below).cell 0
 have pe:=(km.nth 4 (by simp)).fU;have IY: ∀n:After w1,(j9 105 (.map (ae tb)) (.int .i64 b.k) aw).run aj n.w=.ok (if b.k∈T.ks then .tuple #[.pointer (ae ⟨T.pt b.k,0,ai⟩),.bool aw]else .tuple #[.pointer ai,.bool ay]) n.w:=λn=>by
  rw[(pe.after n.below).look wz Tryz.underlying105 (O9 n.w) (x:=b.k) (lk (by have:=HK.out;omega)) aw,Zw];by_cases e:b.k∈T.ks
  ·rw[if_pos e,if_pos e];rfl
  ·rw[if_neg e,if_neg e];rfl
 have qB:=af km;clear km kZ pe;by_cases hK:b.k∈T.ks
 ·rw[if_pos hK]at IY;have Xb:=af hK;clear hK;refine bF (by kernel_rfl) (by kernel_rfl) ?_
  repeat(go_big_quiet_step (fail))
  refine wpQuiet_nil ?_;rintro _ ⟨n,rfl⟩;have gm:=qB.out.below n.below;generalize n.w=w2 at *;have k1:row? w2 bb 0 9=ae (ints b.list):=gm.blk.bt zJ;have k2:row? w2 hb 0 2=ae (ints [s,g]):=gm.swap.blk.bt rfl;have gu:=af gm;clear gm c1 c2 IY qB;have fj:In G w0 (oo (T.pt b.k) b.k (T.rw b.k)::(br bb 48 (ints b.list)::br hb 43 (ints [s,g])::br p 108 #[.pointer (ae ⟨sp,0,ai⟩),.map (ae tb),.map (ae pb)]::cI sp ls::PtrMap tb (T.ks.map λK=>(K,T.pt K))::bR pb T.ps::l++(T.ks.erase b.k).map (dI T))) w2:=In.Cw (X:=br bb 48 (ints b.list)::br hb 43 (ints [s,g])::br p 108 #[.pointer (ae ⟨sp,0,ai⟩),.map (ae tb),.map (ae pb)]::cI sp ls::PtrMap tb (T.ks.map λK=>(K,T.pt K))::bR pb T.ps::l) gu.out Xb.out
  have HAD:Hid (xK b.k (T.rw b.k) ⟨(s,g),b⟩=(T.rw b.k++[⟨(s,g),b⟩],(((T.rw b.k).length:Nat):Int),0)):=by unfold Hid xK;rw[if_neg (by simpa using HB.out.1),if_neg (by simp)]
  have YA:=HT.out.tZ Xb.out;have AA:=af (Tk fj s g b HB.out.2.1 (by omega));rw[HAD.out]at AA;clear fj
  go_wp2_with fail
  refine AA.out.mono ?_;rintro e w3 ⟨rfl,gq⟩;have gq:In G w0 (br bb 48 (ints b.list)::br hb 43 (ints [s,g])::br p 108 #[.pointer (ae ⟨sp,0,ai⟩),.map (ae tb),.map (ae pb)]::cI sp ls::PtrMap tb (T.ks.map λK=>(K,T.pt K))::bR pb T.ps::(l++T.ks.map (dI ⟨T.ks,T.pt,jC T.rw b.k (T.rw b.k++[⟨(s,g),b⟩]),hZ T.ps s (b.k,((T.rw b.k).length:Int))⟩))) w3:=In.Xp (X:=br bb 48 (ints b.list)::br hb 43 (ints [s,g])::br p 108 #[.pointer (ae ⟨sp,0,ai⟩),.map (ae tb),.map (ae pb)]::cI sp ls::PtrMap tb (T.ks.map λK=>(K,T.pt K))::bR pb T.ps::l) HT.out.nd Xb.out gq
  have Pt:=af (HT.out.abA (g:=g) HF.out HB.out Xb.out);have q1:w3.cell? ⟨p,2,ai⟩=ae (.map (ae pb)):=gq.third.blk.cell 2;have q2:w3.cell? ⟨hb,0,ai⟩=ae (.int .i64 s):=gq.swap.blk.cell 0;have q3:w3.cell? ⟨bb,0,ai⟩=ae (.int .i64 b.k):=gq.blk.cell 0;have iR:=af gq;clear gq gu AA HAD k1 k2
  go_upto_region 6 with(fail)
  go_still_tail 10,(by kernel_rfl)
  change wpList _ _ _ _ _ w3.drew;have ni:=af iR.out.drew;clear iR q1 q2 q3;generalize w3.drew=w4 at *;have HP:=af (ni.out.nth 5 (by simp)).fU
  go_wp2_with (at_mapUpdate;go_loud (refine iZ wz rfl _ _ _ 106 132 rfl Tryz.underlying106 pb _ rfl HP.out s rfl (lk (by have:=HB.out.2.2;omega)) (b.k,((T.rw b.k).length:Int)) rfl ?_))
  intro w5 h1 h2 h3;have j6:In G w0 (bR pb (hZ T.ps s (b.k,((T.rw b.k).length:Int)))::br bb 48 (ints b.list)::br hb 43 (ints [s,g])::br p 108 #[.pointer (ae ⟨sp,0,ai⟩),.map (ae tb),.map (ae pb)]::cI sp ls::PtrMap tb (T.ks.map λK=>(K,T.pt K))::(l++T.ks.map (dI ⟨T.ks,T.pt,jC T.rw b.k (T.rw b.k++[⟨(s,g),b⟩]),hZ T.ps s (b.k,((T.rw b.k).length:Int))⟩))) w5:=In.oJ (ni.out.nth 5 (by simp)) h1 h2;clear h1 h2 h3;have kO:=af j6.swap.drop.swap.drop.to4;clear j6 HP ni
  go_wp2_with fail
  go_end0
  exact⟨rfl,In.gC Pt.out kO.out⟩
 ·rw[if_neg hK]at IY;have Xb:=af hK;clear hK;refine bF (by kernel_rfl) (by kernel_rfl) ?_
  repeat(go_big_quiet_step (fail))
  refine wpQuiet_nil ?_;rintro _ ⟨n,rfl⟩;have gm:=qB.out.below n.below;generalize n.w=w2 at *;have k1:w2.cell? ⟨bb,0,ai⟩=ae (.int .i64 b.k):=gm.blk.cell 0;have gu:=af gm;clear gm c1 c2 IY qB
  go_wp2_with fail
  refine(acB b.k HK.out gu.out).mono ?_;rintro e w3 ⟨q,rfl,fj⟩;have q1:w3.cell? ⟨p,1,ai⟩=ae (.map (ae tb)):=fj.fourth.blk.cell 1;have q2:w3.cell? ⟨bb,0,ai⟩=ae (.int .i64 b.k):=fj.swap.blk.cell 0;have fW:=af fj;clear fj gu k1
  go_upto_region 4 with(fail)
  go_still_tail 7,(by kernel_rfl)
  change wpList _ _ _ _ _ w3.drew;have iR:=af fW.out.drew;clear fW q1 q2;generalize w3.drew=w4 at *;have HP:=af (iR.out.nth 5 (by simp)).fU
  go_wp2_with (at_mapUpdate;go_loud (refine iZ wz rfl _ _ _ 105 134 rfl Tryz.underlying105 tb _ rfl HP.out b.k rfl (lk (by have:=HK.out;omega)) q rfl ?_))
  intro w5 h1 h2 h3;have fD:In G w0 (PtrMap tb (hZ (T.ks.map λK=>(K,T.pt K)) b.k q)::oo q b.k []::br bb 48 (ints b.list)::br hb 43 (ints [s,g])::br p 108 #[.pointer (ae ⟨sp,0,ai⟩),.map (ae tb),.map (ae pb)]::cI sp ls::bR pb T.ps::(l++T.ks.map (dI T))) w5:=In.oJ (iR.out.nth 5 (by simp)) h1 h2;rw[aeE T b.k q Xb.out]at fD;have k1:row? w5 bb 0 9=ae (ints b.list):=fD.third.blk.bt zJ;have k2:row? w5 hb 0 2=ae (ints [s,g]):=fD.fourth.blk.bt rfl;have ni:=af fD.swap;clear fD h1 h2 h3 HP iR;have HAD:Hid (xK b.k [] ⟨(s,g),b⟩=([⟨(s,g),b⟩],0,0)):=by unfold Hid xK;rw[if_neg (by simpa using HB.out.1),if_neg (by simp)];rfl
  have AA:=af (Tk ni.out s g b HB.out.2.1 (by simp));rw[HAD.out]at AA
  go_wp2_with fail
  refine AA.out.mono ?_;rintro e w6 ⟨rfl,j6⟩;have xM:In G w0 (PtrMap tb ((T.ks++[b.k]).map λk=>(k,jC T.pt b.k q k))::br bb 48 (ints b.list)::br hb 43 (ints [s,g])::br p 108 #[.pointer (ae ⟨sp,0,ai⟩),.map (ae tb),.map (ae pb)]::cI sp ls::bR pb T.ps::(l++(T.ks++[b.k]).map (dI ⟨T.ks++[b.k],jC T.pt b.k q,jC T.rw b.k [⟨(s,g),b⟩],hZ T.ps s (b.k,0)⟩))) w6:=In.ain (X:=PtrMap tb ((T.ks++[b.k]).map λk=>(k,jC T.pt b.k q k))::br bb 48 (ints b.list)::br hb 43 (ints [s,g])::br p 108 #[.pointer (ae ⟨sp,0,ai⟩),.map (ae tb),.map (ae pb)]::cI sp ls::bR pb T.ps::l) Xb.out j6
  have Pt:=af (HT.out.abz (g:=g) HF.out HB.out Xb.out q);have q1:w6.cell? ⟨p,2,ai⟩=ae (.map (ae pb)):=xM.fourth.blk.cell 2;have q2:w6.cell? ⟨hb,0,ai⟩=ae (.int .i64 s):=xM.third.blk.cell 0;have q3:w6.cell? ⟨bb,0,ai⟩=ae (.int .i64 b.k):=xM.swap.blk.cell 0;have kh:=af xM;clear xM j6 ni AA HAD k1 k2
  go_upto_region 6 with(fail)
  go_still_tail 10,(by kernel_rfl)
  change wpList _ _ _ _ _ w6.drew;have oQ:=af kh.out.drew;clear kh q1 q2 q3;generalize w6.drew=w7 at *;have HP:=af (oQ.out.nth 5 (by simp)).fU
  go_wp2_with (at_mapUpdate;go_loud (refine iZ wz rfl _ _ _ 106 132 rfl Tryz.underlying106 pb _ rfl HP.out s rfl (lk (by have:=HB.out.2.2;omega)) (b.k,0) rfl ?_))
  intro w8 h1 h2 h3;have o6:In G w0 (bR pb (hZ T.ps s (b.k,0))::PtrMap tb ((T.ks++[b.k]).map λk=>(k,jC T.pt b.k q k))::br bb 48 (ints b.list)::br hb 43 (ints [s,g])::br p 108 #[.pointer (ae ⟨sp,0,ai⟩),.map (ae tb),.map (ae pb)]::cI sp ls::(l++(T.ks++[b.k]).map (dI ⟨T.ks++[b.k],jC T.pt b.k q,jC T.rw b.k [⟨(s,g),b⟩],hZ T.ps s (b.k,0)⟩))) w8:=In.oJ (oQ.out.nth 5 (by simp)) h1 h2;clear h1 h2 h3;have pw:Hid (In G w0 (br p 108 #[.pointer (ae ⟨sp,0,ai⟩),.map (ae tb),.map (ae pb)]::cI sp ls::PtrMap tb ((T.ks++[b.k]).map λk=>(k,jC T.pt b.k q k))::bR pb (hZ T.ps s (b.k,0))::(l++(T.ks++[b.k]).map (dI ⟨T.ks++[b.k],jC T.pt b.k q,jC T.rw b.k [⟨(s,g),b⟩],hZ T.ps s (b.k,0)⟩))) w8):=o6.swap.third.drop.third.drop.swap.to4.to3
  clear o6 HP oQ
  go_wp2_with fail
  go_end0
  exact⟨rfl,In.gC Pt.out pw.out⟩
def nT (p sp:Nat)(ls:List (Int×Bool))(f:BF):bU where
 at_ w F:= ∃tb pb T,nS T f/\Sep (yS p sp tb pb ls T) w F
 frame h ho hd:=by obtain⟨tb,pb,T,h1,hs⟩:=h;exact⟨tb,pb,T,h1,hs.frame ho hd⟩
 cut h hd:=by obtain⟨tb,pb,T,h1,hs⟩:=h;exact⟨tb,pb,T,h1,hs.cut hd⟩
section
variable {G:Nat->Prop} {w0 w w':ah} {l:List bU} {p sp tb pb:Nat} {ls:List (Int×Bool)} {f:BF} {T:WT}
def In.rM (h:In G w0 (nT p sp ls f::l) w): ∃tb pb T,nS T f/\In G w0 (br p 108 #[.pointer (ae ⟨sp,0,ai⟩),.map (ae tb),.map (ae pb)]::cI sp ls::PtrMap tb (T.ks.map λK=>(K,T.pt K))::bR pb T.ps::(l++T.ks.map (dI T))) w:=by obtain⟨⟨F1,F2,⟨tb,pb,T,hT,hs⟩,h2,h3,h4⟩,ho⟩:=h;have h5:In G w0 (yS p sp tb pb ls T++l) w:=⟨(Sep.join hs h2 h3).cut λk _ hk=>h4 k hk,ho⟩;exact⟨tb,pb,T,hT,h5.perm (sw p sp tb pb ls T l)⟩
def In.yP (hT:nS T f)(h:In G w0 (br p 108 #[.pointer (ae ⟨sp,0,ai⟩),.map (ae tb),.map (ae pb)]::cI sp ls::PtrMap tb (T.ks.map λK=>(K,T.pt K))::bR pb T.ps::(l++T.ks.map (dI T))) w):In G w0 (nT p sp ls f::l) w:=by have h:=h.perm (sw p sp tb pb ls T l).symm;obtain⟨hs,ho⟩:=h;obtain⟨F1,F2,h1,h2,h3,h4⟩:=Sep.part hs;exact⟨⟨F1,F2,⟨tb,pb,T,hT,h1⟩,h2,h3,h4⟩,ho⟩
def In.Lv (h:In G w0 (nT p sp ls f::l) w):In G w0 (dR p ls f::l) w:=by obtain⟨tb,pb,T,hT,hI⟩:=h.rM;exact In.gC hT hI
def In.aan (h:In G w0 (dR p ls f::l) w): ∃sp,In G w0 (nT p sp ls f::l) w:=by obtain⟨sp,tb,pb,T,hT,hI⟩:=h.lz;exact⟨sp,In.yP hT hI⟩
end
def xg {w:ah}{b o n:Nat}{x:Int}{xs:List Int}(h:row? w b o n=ae (ints (x::xs))):w.cell? ⟨b,o,ai⟩=ae (.int .i64 x):=by
 unfold row? at h
 split at h
 ·rename_i cs t fr hg
  split at h
  ·rename_i hle
   injection h with h
   have h2:(cs.extract o (o+n))[0]? =ae (.int .i64 x):=by rw[h];rfl
   rw[cell_of_row w b o cs t fr hg];rw[Array.getElem?_extract]at h2
   split at h2
   ·simpa using h2
   ·cases h2
  ·cases h
 ·cases h
def zO {w w':ah}{tb:Nat}{T:WT}(h:dW (aF .i64) wJ ot w tb (T.ks.map λK=>(K,T.pt K))){K:Int}(hK:K∈T.ks)(hk:0<=K/\K<=255)(hb:Below w.heap.size w w'):(j9 105 (.map (ae tb)) (.int .i64 K) ay).run aj w'=.ok (.pointer (ae ⟨T.pt K,0,ai⟩)) w':=by rw[(h.after hb).look wz Tryz.underlying105 (O9 w') (x:=K) (lk (by omega)) ay,Zw,if_pos hK];rfl
def rI {w w':ah}{pb:Nat}{ps:List (Int×(Int×Int))}(h:dW (aF .i64) pV ot w pb ps){s K i:Int}(hs:0<=s/\s<60)(hm:dY ps s=ae (K,i))(hb:Below w.heap.size w w'):(j9 106 (.map (ae pb)) (.int .i64 s) ay).run aj w'=.ok (.agg #[.int .i64 K,.int .i64 i]) w':=by rw[(h.after hb).look wz Tryz.underlying106 (RH w') (x:=s) (lk (by omega)) ay,hm];rfl
def Am {G:Nat->Prop}{w0 w:ah}{l:List bU}{p:Nat}{K:Int}{rows:List cQ}(h:In G w0 (oo p K rows::l) w):(0<=K/\K<=255)/\ ∀r∈rows,r.b.k=K:=by obtain⟨hT,hK,_⟩:=h.KT;exact⟨hK,λr hr=>(hT r hr).1⟩
def KE {G:Nat->Prop}{w0 w:ah}{l:List bU}{p:Nat}{ls:List (Int×Bool)}{f:BF}(h:In G w0 (dR p ls f::l) w)(s g:Int)(b:aQ)(hf:f s=ae (g,b)):Calls aj 135 #[.pointer (ae ⟨p,0,ai⟩),.agg #[.int .i64 s,.int .i64 g]] w λe w'=>e=.returned (.agg (ints b.list))/\In G w0 (dR p ls (ei f s ai)::l) w':=by
 obtain⟨sp,tb,pb,T,hT,hI⟩:=h.lz;obtain⟨lJ,gF,IV⟩:=hT.ok s g b hf;obtain⟨K,hK,i,hi⟩:=hT.all s g b hf;have IZ:dY T.ps s=ae (K,(i:Int)):=(hT.at_ K hK i _ hi).2;have xr:=(bz.1 hi).1;have hKk:=(Am (In.Cw (X:=br p 108 #[.pointer (ae ⟨sp,0,ai⟩),.map (ae tb),.map (ae pb)]::cI sp ls::PtrMap tb (T.ks.map λK=>(K,T.pt K))::bR pb T.ps::l) hI hK)).1;have HT:=af hT;have Pt:=af (hT.Y4 hK hi);have HK:=af hK;have TB:=af hKk;have HPL:=af IZ;have kZ:=af hI;have HS:=af IV;have YA:=hT.tZ hK;have zJ:b.list.length=9:=by unfold aQ.list;rw[aD,gF]
 have HRM:Hid (nc (T.rw K) (i:Int)=(cutAt aM (T.rw K) i,⟨(s,g),b⟩,0)):=by unfold Hid nc mM;have h1:decide (0<=(i:Int))=aw:=decide_eq_true (by omega);have h2:decide ((i:Int)<((T.rw K).length:Nat))=aw:=decide_eq_true (by omega);rw[h1,h2,fw,aY,hi];rfl
 have HCL:=af (xi aM (T.rw K) i);have HIL:=af xr;clear h hT hI hf lJ gF IV hK hi IZ xr hKk
 go_enter Tryz.func135,Tryz.ntmps135
 go_upto_region 1 with(fail)
 refine bZ (In G w0 (br (w.heap.size+1) 48 (ints [0,0,0,0,0,0,0,0,0])::br w.heap.size 43 (ints [s,g])::br p 108 #[.pointer (ae ⟨sp,0,ai⟩),.map (ae tb),.map (ae pb)]::cI sp ls::PtrMap tb (T.ks.map λK=>(K,T.pt K))::bR pb T.ps::(l++T.ks.map (dI T)))) (by have:=(kZ.out.alloc 43 (ints [s,g])).alloc 48 (ints [0,0,0,0,0,0,0,0,0]);rw[dw]at this;exact this) ?_
 generalize w.heap.size+1=rb;generalize w.heap.size=hb;intro w1 km;have Wi:=(Below.refl w1.heap.size w1).alloc (ax _) (.cells #[.int .i64 0,.int .i64 0] 132);have pe:=(km.nth 5 (by simp)).fU;have k0:w1.cell? ⟨p,2,ai⟩=ae (.map (ae pb)):=km.third.blk.cell 2;have k1:w1.cell? ⟨hb,0,ai⟩=ae (.int .i64 s):=km.swap.blk.cell 0;have k2:(w1.alloc (.cells #[.int .i64 0,.int .i64 0] 132)).cell? ⟨p,2,ai⟩=ae (.map (ae pb)):=(km.third.blk.after Wi).cell 2;have k3:(w1.alloc (.cells #[.int .i64 0,.int .i64 0] 132)).cell? ⟨hb,0,ai⟩=ae (.int .i64 s):=(km.swap.blk.after Wi).cell 0;have o8:=rI pe HS.out HPL.out (Below.refl _ _).drew;have Dm:=rI pe HS.out HPL.out (((Below.refl _ w1).alloc (ax _) (.cells #[.int .i64 0,.int .i64 0] 132)).drew);have BU:Hid (∀w2,w2=(putRow (w1.alloc (.cells (ints [0,0]) 132)) w1.heap.size 0 [K,(i:Int)]).drew->In G w0 (br w1.heap.size 132 (ints [K,(i:Int)])::br rb 48 (ints [0,0,0,0,0,0,0,0,0])::br hb 43 (ints [s,g])::br p 108 #[.pointer (ae ⟨sp,0,ai⟩),.map (ae tb),.map (ae pb)]::cI sp ls::PtrMap tb (T.ks.map λK=>(K,T.pt K))::bR pb T.ps::(l++T.ks.map (dI T))) w2):=λw2 e=>by rw[e];exact(km.struct 132 [0,0] [K,(i:Int)] rfl).drew
 clear km pe Wi kZ
 go_region
 all_goals
  go_upto_region 2 with(fail)
  refine bZ (In G w0 (br w1.heap.size 132 (ints [K,(i:Int)])::br rb 48 (ints [0,0,0,0,0,0,0,0,0])::br hb 43 (ints [s,g])::br p 108 #[.pointer (ae ⟨sp,0,ai⟩),.map (ae tb),.map (ae pb)]::cI sp ls::PtrMap tb (T.ks.map λK=>(K,T.pt K))::bR pb T.ps::(l++T.ks.map (dI T)))) (BU.out _ rfl) ?_;clear k0 k1 k2 k3 o8 Dm BU;generalize w1.heap.size=lb;intro w2 gm;have c1: ∀n:After w2,n.w.cell? ⟨p,1,ai⟩=ae (.map (ae tb)):=λn=>(gm.fourth.blk.after n.below).cell 1
  have c2: ∀n:After w2,n.w.cell? ⟨lb,0,ai⟩=ae (.int .i64 K):=λn=>(gm.blk.after n.below).cell 0
  have pe:=(gm.nth 5 (by simp)).fU;have IY: ∀n:After w2,(j9 105 (.map (ae tb)) (.int .i64 K) ay).run aj n.w=.ok (.pointer (ae ⟨T.pt K,0,ai⟩)) n.w:=λn=>zO pe HK.out TB.out n.below
  have gu:=af gm;clear gm pe;refine bF (by kernel_rfl) (by kernel_rfl) ?_
  repeat(go_big_quiet_step (fail))
  refine wpQuiet_nil ?_;rintro _ ⟨n,rfl⟩;have fj:=gu.out.below n.below;generalize n.w=w3 at *;have q1:w3.cell? ⟨lb,1,ai⟩=ae (.int .i64 (i:Int)):=fj.blk.cell 1;have fW:Hid (In G w0 (oo (T.pt K) K (T.rw K)::(br p 108 #[.pointer (ae ⟨sp,0,ai⟩),.map (ae tb),.map (ae pb)]::cI sp ls::PtrMap tb (T.ks.map λK=>(K,T.pt K))::bR pb T.ps::br lb 132 (ints [K,(i:Int)])::br rb 48 (ints [0,0,0,0,0,0,0,0,0])::br hb 43 (ints [s,g])::l++(T.ks.erase K).map (dI T))) w3):=In.Cw (X:=br p 108 #[.pointer (ae ⟨sp,0,ai⟩),.map (ae tb),.map (ae pb)]::cI sp ls::PtrMap tb (T.ks.map λK=>(K,T.pt K))::bR pb T.ps::br lb 132 (ints [K,(i:Int)])::br rb 48 (ints [0,0,0,0,0,0,0,0,0])::br hb 43 (ints [s,g])::l) (fj.reorder 7 [3,4,5,6,0,1,2] rfl (by simp)) HK.out
  clear fj c1 c2 IY gu;have HR:=af (Rv fW.out (i:Int) (by omega));rw[HRM.out,show cQ.list ⟨(s,g),b⟩=s::g::b.list from rfl]at HR;have Dn:(s::g::b.list).length=11:=by simp only[aD];omega
  go_wp2_with fail
  refine HR.out.mono ?_;rintro e w4 ⟨rfl,gq⟩;have iR:=af gq;clear gq HR fW q1
  go_upto_region 4 with(fail)
  refine bZ (In G w0 (br w4.heap.size 50 (ints (s::g::b.list))::oo (T.pt K) K (cutAt aM (T.rw K) i)::br p 108 #[.pointer (ae ⟨sp,0,ai⟩),.map (ae tb),.map (ae pb)]::cI sp ls::PtrMap tb (T.ks.map λK=>(K,T.pt K))::bR pb T.ps::br lb 132 (ints [K,(i:Int)])::br rb 48 (ints [0,0,0,0,0,0,0,0,0])::br hb 43 (ints [s,g])::l++(T.ks.erase K).map (dI T))) (iR.out.struct 50 [0,0,0,0,0,0,0,0,0,0,0] _ Dn) ?_;generalize w4.heap.size=Pp;intro w5 fD;have aiO:(cutAt aM (T.rw K) i).length<=60:=by have:=HCL.out;omega
  have HH:=af (wV fD.swap (by omega));have ni:=af fD.swap;clear fD iR
  go_wp2_with fail
  refine HH.out.mono ?_;rintro e w6 ⟨hv,rfl,ho,Ku,j6⟩;obtain⟨A6,c6,rfl,vA,uL,hA6⟩:=cM ho;have YM: ∀(bJ:i<(cutAt aM (T.rw K) i).length),∃g6,A6=ae ⟨g6,0,ai⟩/\w6.cell? ⟨g6,i *2,ai⟩=ae (.int .i64 ((cutAt aM (T.rw K) i)[i]).h.1):=by intro bJ;obtain⟨g6,rfl⟩:=hA6 (by omega);refine⟨g6,rfl,?_⟩;have hr:=mD ho (k:=i) (by omega);rw[mv (f:=λr:cQ=>hC r.h) (size:=2) (λ_=>rfl) _ i bJ]at hr;exact xg (xs:=[((cutAt aM (T.rw K) i)[i]).h.2]) hr
  have kO:=af j6;have q1:w6.cell? ⟨lb,1,ai⟩=ae (.int .i64 (i:Int)):=(j6.nth 6 (by simp)).blk.cell 1;have q2:w6.cell? ⟨p,2,ai⟩=ae (.map (ae pb)):=j6.third.blk.cell 2;have q3:row? w6 lb 0 2=ae (ints [K,(i:Int)]):=(j6.nth 6 (by simp)).blk.bt rfl;have aiD:(((cutAt aM (T.rw K) i).length:Nat):Int)<=60:=by omega
  clear ho Ku j6 HH ni vA uL hA6;have HMV:Hid (gT T.ps (cutAt aM (T.rw K) i) K i=if bJ:i<(cutAt aM (T.rw K) i).length then hZ T.ps ((cutAt aM (T.rw K) i)[i]).h.1 (K,(i:Int))else T.ps):=by
   unfold Hid gT;by_cases bJ:i<(cutAt aM (T.rw K) i).length
   ·rw[if_pos bJ,dif_pos bJ,aY,aq bJ];rfl
   ·rw[if_neg bJ,dif_neg bJ]
  by_cases bJ:i<(cutAt aM (T.rw K) i).length
  focus
   obtain⟨g6,rfl,q4⟩:=YM bJ;rw[dif_pos bJ]at HMV;have agf:(i:Int)<(cutAt aM (T.rw K) i).length:=by omega
   have RU:Hid (0<=((cutAt aM (T.rw K) i)[i]).h.1/\((cutAt aM (T.rw K) i)[i]).h.1<60):=by have h1:=zq aM (T.rw K) i i HIL.out (by have:=HCL.out;omega);rw[if_pos rfl,aq bJ]at h1;obtain⟨h2,_⟩:=HT.out.at_ K HK.out ((T.rw K).length-1) _ h1.symm;exact(HT.out.ok _ _ _ h2).2.2
   generalize ((cutAt aM (T.rw K) i)[i]).h.1=s2 at *
   go_upto_region 6 with(fail)
   go_still_tail 11,(by kernel_rfl)
   change wpList _ _ _ _ _ w6.drew;have kh:=af kO.out.drew;clear kO q1 q2 q3 q4 agf YM;generalize w6.drew=w7 at *;have HP:=af (kh.out.nth 5 (by simp)).fU
   go_wp2_with (at_mapUpdate;go_loud (refine iZ wz rfl _ _ _ 106 132 rfl Tryz.underlying106 pb _ rfl HP.out s2 rfl (lk (by have:=RU.out;omega)) (K,(i:Int)) rfl ?_))
   intro w8 h1 h2 h3;have mR:In G w0 (bR pb (hZ T.ps s2 (K,(i:Int)))::oo (T.pt K) K (cutAt aM (T.rw K) i)::br Pp 50 (ints (s::g::b.list))::br p 108 #[.pointer (ae ⟨sp,0,ai⟩),.map (ae tb),.map (ae pb)]::cI sp ls::PtrMap tb (T.ks.map λK=>(K,T.pt K))::br lb 132 (ints [K,(i:Int)])::br rb 48 (ints [0,0,0,0,0,0,0,0,0])::br hb 43 (ints [s,g])::l++(T.ks.erase K).map (dI T)) w8:=In.oJ (kh.out.nth 5 (by simp)) h1 h2;rw[<-HMV.out]at mR;have pw:Hid (In G w0 (oo (T.pt K) K (cutAt aM (T.rw K) i)::br p 108 #[.pointer (ae ⟨sp,0,ai⟩),.map (ae tb),.map (ae pb)]::cI sp ls::PtrMap tb (T.ks.map λK=>(K,T.pt K))::bR pb (gT T.ps (cutAt aM (T.rw K) i) K i)::br Pp 50 (ints (s::g::b.list))::br lb 132 (ints [K,(i:Int)])::br rb 48 (ints [0,0,0,0,0,0,0,0,0])::br hb 43 (ints [s,g])::l++(T.ks.erase K).map (dI T)) w8):=mR.reorder 6 [1,3,4,5,0,2] rfl (by simp);clear mR h1 h2 h3 HP kh HMV RU bJ
   go_upto_region 7 with(fail)
   generalize w8=w9 at *
  rotate_left
  focus
   rw[dif_neg bJ]at HMV;have agf:(((cutAt aM (T.rw K) i).length:Nat):Int)<=i:=by omega
   have mR:In G w0 (oo (T.pt K) K (cutAt aM (T.rw K) i)::br Pp 50 (ints (s::g::b.list))::br p 108 #[.pointer (ae ⟨sp,0,ai⟩),.map (ae tb),.map (ae pb)]::cI sp ls::PtrMap tb (T.ks.map λK=>(K,T.pt K))::bR pb T.ps::br lb 132 (ints [K,(i:Int)])::br rb 48 (ints [0,0,0,0,0,0,0,0,0])::br hb 43 (ints [s,g])::l++(T.ks.erase K).map (dI T)) w6:=kO.out;have pw:Hid (In G w0 (oo (T.pt K) K (cutAt aM (T.rw K) i)::br p 108 #[.pointer (ae ⟨sp,0,ai⟩),.map (ae tb),.map (ae pb)]::cI sp ls::PtrMap tb (T.ks.map λK=>(K,T.pt K))::bR pb (gT T.ps (cutAt aM (T.rw K) i) K i)::br Pp 50 (ints (s::g::b.list))::br lb 132 (ints [K,(i:Int)])::br rb 48 (ints [0,0,0,0,0,0,0,0,0])::br hb 43 (ints [s,g])::l++(T.ks.erase K).map (dI T)) w6):=by rw[HMV.out];exact mR.reorder 6 [0,2,3,4,5,1] rfl (by simp)
   go_upto_region 7 with(fail)
   clear q1 q2 q3 YM mR HMV kO;generalize w6=w9 at *
  all_goals
   have HH:=af (wV pw.out (by omega))
   go_wp2_with fail
   refine HH.out.mono ?_;rintro e Ax ⟨hv,rfl,ho,AW,iq⟩;obtain⟨A10,c10,rfl,_,_,_⟩:=cM ho;have vw:=af iq;clear ho AW iq HH pw;have TA:Hid (∀O2,In G w0 (br p 108 #[.pointer (ae ⟨sp,0,ai⟩),.map (ae tb),.map (ae pb)]::cI sp ls::PtrMap tb ((if(cutAt aM (T.rw K) i).length=0 then T.ks.filter (λk=> !decide (k=K))else T.ks).map λK=>(K,T.pt K))::bR pb (gT T.ps (cutAt aM (T.rw K) i) K i)::br Pp 50 (ints (s::g::b.list))::br lb 132 (ints [K,(i:Int)])::br rb 48 (ints [0,0,0,0,0,0,0,0,0])::br hb 43 (ints [s,g])::l++(if(cutAt aM (T.rw K) i).length=0 then T.ks.filter (λk=> !decide (k=K))else T.ks).map (dI ⟨(if(cutAt aM (T.rw K) i).length=0 then T.ks.filter (λk=> !decide (k=K))else T.ks),T.pt,jC T.rw K (cutAt aM (T.rw K) i),dZ (gT T.ps (cutAt aM (T.rw K) i) K i) s⟩)) O2->In G w0 (br p 108 #[.pointer (ae ⟨sp,0,ai⟩),.map (ae tb),.map (ae pb)]::cI sp ls::PtrMap tb ((if(cutAt aM (T.rw K) i).length=0 then T.ks.filter (λk=> !decide (k=K))else T.ks).map λK=>(K,T.pt K))::bR pb (gT T.ps (cutAt aM (T.rw K) i) K i)::br Pp 50 (ints (s::g::b.list))::br lb 132 (ints [K,(i:Int)])::br rb 48 (ints [0,0,0,0,0,0,0,0,0])::br hb 43 (ints [s,g])::(l++(if(cutAt aM (T.rw K) i).length=0 then T.ks.filter (λk=> !decide (k=K))else T.ks).map (dI ⟨(if(cutAt aM (T.rw K) i).length=0 then T.ks.filter (λk=> !decide (k=K))else T.ks),T.pt,jC T.rw K (cutAt aM (T.rw K) i),dZ (gT T.ps (cutAt aM (T.rw K) i) K i) s⟩))) O2):=λ_ h=>h
   by_cases h0:(cutAt aM (T.rw K) i).length=0
   focus
    have qw:In G w0 (br p 108 #[.pointer (ae ⟨sp,0,ai⟩),.map (ae tb),.map (ae pb)]::cI sp ls::PtrMap tb (T.ks.map λK=>(K,T.pt K))::bR pb (gT T.ps (cutAt aM (T.rw K) i) K i)::br Pp 50 (ints (s::g::b.list))::br lb 132 (ints [K,(i:Int)])::br rb 48 (ints [0,0,0,0,0,0,0,0,0])::br hb 43 (ints [s,g])::(l++(T.ks.filter λk=> !decide (k=K)).map (dI ⟨(if(cutAt aM (T.rw K) i).length=0 then T.ks.filter (λk=> !decide (k=K))else T.ks),T.pt,jC T.rw K (cutAt aM (T.rw K) i),dZ (gT T.ps (cutAt aM (T.rw K) i) K i) s⟩))) Ax:=In.adQ (X:=br p 108 #[.pointer (ae ⟨sp,0,ai⟩),.map (ae tb),.map (ae pb)]::cI sp ls::PtrMap tb (T.ks.map λK=>(K,T.pt K))::bR pb (gT T.ps (cutAt aM (T.rw K) i) K i)::br Pp 50 (ints (s::g::b.list))::br lb 132 (ints [K,(i:Int)])::br rb 48 (ints [0,0,0,0,0,0,0,0,0])::br hb 43 (ints [s,g])::l) HT.out.nd vw.out
    have h00:(((cutAt aM (T.rw K) i).length:Nat):Int)=0:=by omega
    have q1:Ax.cell? ⟨p,1,ai⟩=ae (.map (ae tb)):=qw.blk.cell 1;have q2:Ax.cell? ⟨lb,0,ai⟩=ae (.int .i64 K):=qw.fifth.drop.fifth.blk.cell 0;have vz:=af qw;clear qw vw
    go_upto_region 8 with(fail)
    go_still_tail 6,(by kernel_rfl)
    change wpList _ _ _ _ _ Ax.drew;have JV:=af vz.out.drew;clear vz q1 q2 h00;generalize Ax.drew=O2 at *;have HP:=af (JV.out.third).fU
    go_wp2_with (at_delete;go_loud (refine sx wz rfl _ _ 105 134 rfl Tryz.underlying105 tb _ rfl HP.out K rfl (lk (by have:=TB.out;omega)) ?_))
    intro w12 h1 h2 h3;have adZ:In G w0 (PtrMap tb (dZ (T.ks.map λK=>(K,T.pt K)) K)::br p 108 #[.pointer (ae ⟨sp,0,ai⟩),.map (ae tb),.map (ae pb)]::cI sp ls::bR pb (gT T.ps (cutAt aM (T.rw K) i) K i)::br Pp 50 (ints (s::g::b.list))::br lb 132 (ints [K,(i:Int)])::br rb 48 (ints [0,0,0,0,0,0,0,0,0])::br hb 43 (ints [s,g])::(l++(T.ks.filter λk=> !decide (k=K)).map (dI ⟨(if(cutAt aM (T.rw K) i).length=0 then T.ks.filter (λk=> !decide (k=K))else T.ks),T.pt,jC T.rw K (cutAt aM (T.rw K) i),dZ (gT T.ps (cutAt aM (T.rw K) i) K i) s⟩))) w12:=In.oJ JV.out.third h1 h2;have hmd:dZ (T.ks.map λK=>(K,T.pt K)) K=(T.ks.filter λk=> !decide (k=K)).map λK=>(K,T.pt K):=by unfold dZ;rw[List.filter_map];rfl
    have Xa:Hid (In G w0 (br p 108 #[.pointer (ae ⟨sp,0,ai⟩),.map (ae tb),.map (ae pb)]::cI sp ls::PtrMap tb ((if(cutAt aM (T.rw K) i).length=0 then T.ks.filter (λk=> !decide (k=K))else T.ks).map λK=>(K,T.pt K))::bR pb (gT T.ps (cutAt aM (T.rw K) i) K i)::br Pp 50 (ints (s::g::b.list))::br lb 132 (ints [K,(i:Int)])::br rb 48 (ints [0,0,0,0,0,0,0,0,0])::br hb 43 (ints [s,g])::(l++(if(cutAt aM (T.rw K) i).length=0 then T.ks.filter (λk=> !decide (k=K))else T.ks).map (dI ⟨(if(cutAt aM (T.rw K) i).length=0 then T.ks.filter (λk=> !decide (k=K))else T.ks),T.pt,jC T.rw K (cutAt aM (T.rw K) i),dZ (gT T.ps (cutAt aM (T.rw K) i) K i) s⟩))) w12):=by rw[if_pos h0];rw[if_pos h0,hmd]at adZ;exact adZ.to3
    clear adZ h1 h2 h3 HP JV hmd h0
    go_upto_region 9 with(fail)
    generalize w12=w13 at *
   rotate_left
   focus
    have qw:In G w0 (br p 108 #[.pointer (ae ⟨sp,0,ai⟩),.map (ae tb),.map (ae pb)]::cI sp ls::PtrMap tb (T.ks.map λK=>(K,T.pt K))::bR pb (gT T.ps (cutAt aM (T.rw K) i) K i)::br Pp 50 (ints (s::g::b.list))::br lb 132 (ints [K,(i:Int)])::br rb 48 (ints [0,0,0,0,0,0,0,0,0])::br hb 43 (ints [s,g])::(l++T.ks.map (dI ⟨(if(cutAt aM (T.rw K) i).length=0 then T.ks.filter (λk=> !decide (k=K))else T.ks),T.pt,jC T.rw K (cutAt aM (T.rw K) i),dZ (gT T.ps (cutAt aM (T.rw K) i) K i) s⟩))) Ax:=In.Xp (X:=br p 108 #[.pointer (ae ⟨sp,0,ai⟩),.map (ae tb),.map (ae pb)]::cI sp ls::PtrMap tb (T.ks.map λK=>(K,T.pt K))::bR pb (gT T.ps (cutAt aM (T.rw K) i) K i)::br Pp 50 (ints (s::g::b.list))::br lb 132 (ints [K,(i:Int)])::br rb 48 (ints [0,0,0,0,0,0,0,0,0])::br hb 43 (ints [s,g])::l) HT.out.nd HK.out vw.out
    have h00:((((cutAt aM (T.rw K) i).length:Nat):Int)==0)=ay:=beq_eq_false_iff_ne.2 (by omega);have Xa:Hid (In G w0 (br p 108 #[.pointer (ae ⟨sp,0,ai⟩),.map (ae tb),.map (ae pb)]::cI sp ls::PtrMap tb ((if(cutAt aM (T.rw K) i).length=0 then T.ks.filter (λk=> !decide (k=K))else T.ks).map λK=>(K,T.pt K))::bR pb (gT T.ps (cutAt aM (T.rw K) i) K i)::br Pp 50 (ints (s::g::b.list))::br lb 132 (ints [K,(i:Int)])::br rb 48 (ints [0,0,0,0,0,0,0,0,0])::br hb 43 (ints [s,g])::(l++(if(cutAt aM (T.rw K) i).length=0 then T.ks.filter (λk=> !decide (k=K))else T.ks).map (dI ⟨(if(cutAt aM (T.rw K) i).length=0 then T.ks.filter (λk=> !decide (k=K))else T.ks),T.pt,jC T.rw K (cutAt aM (T.rw K) i),dZ (gT T.ps (cutAt aM (T.rw K) i) K i) s⟩))) Ax):=by rw[if_neg h0];rw[if_neg h0]at qw;exact qw
    clear qw vw
    go_upto_region 9 with(fail)
    clear h00 h0;generalize Ax=w13 at *
   all_goals
    have q1:w13.cell? ⟨p,2,ai⟩=ae (.map (ae pb)):=Xa.out.blk.cell 2;have q2:w13.cell? ⟨hb,0,ai⟩=ae (.int .i64 s):=(Xa.out.nth 7 (by simp)).blk.cell 0
    go_still_tail 6,(by kernel_rfl)
    change wpList _ _ _ _ _ w13.drew;have adr:=af Xa.out.drew;clear Xa q1 q2;generalize w13.drew=w14 at *;have HP:=af (adr.out.fourth).fU
    go_wp2_with (at_delete;go_loud (refine sx wz rfl _ _ 106 132 rfl Tryz.underlying106 pb _ rfl HP.out s rfl (lk (by have:=HS.out;omega)) ?_))
    intro w15 h1 h2 h3;have afV:In G w0 (bR pb (dZ (gT T.ps (cutAt aM (T.rw K) i) K i) s)::br p 108 #[.pointer (ae ⟨sp,0,ai⟩),.map (ae tb),.map (ae pb)]::cI sp ls::PtrMap tb ((if(cutAt aM (T.rw K) i).length=0 then T.ks.filter (λk=> !decide (k=K))else T.ks).map λK=>(K,T.pt K))::br Pp 50 (ints (s::g::b.list))::br lb 132 (ints [K,(i:Int)])::br rb 48 (ints [0,0,0,0,0,0,0,0,0])::br hb 43 (ints [s,g])::(l++(if(cutAt aM (T.rw K) i).length=0 then T.ks.filter (λk=> !decide (k=K))else T.ks).map (dI ⟨(if(cutAt aM (T.rw K) i).length=0 then T.ks.filter (λk=> !decide (k=K))else T.ks),T.pt,jC T.rw K (cutAt aM (T.rw K) i),dZ (gT T.ps (cutAt aM (T.rw K) i) K i) s⟩))) w15:=In.oJ adr.out.fourth h1 h2;have abi:In G w0 (br Pp 50 (ints (s::g::b.list))::br lb 132 (ints [K,(i:Int)])::br rb 48 (ints [0,0,0,0,0,0,0,0,0])::br hb 43 (ints [s,g])::br p 108 #[.pointer (ae ⟨sp,0,ai⟩),.map (ae tb),.map (ae pb)]::cI sp ls::PtrMap tb ((if(cutAt aM (T.rw K) i).length=0 then T.ks.filter (λk=> !decide (k=K))else T.ks).map λK=>(K,T.pt K))::bR pb (dZ (gT T.ps (cutAt aM (T.rw K) i) K i) s)::(l++(if(cutAt aM (T.rw K) i).length=0 then T.ks.filter (λk=> !decide (k=K))else T.ks).map (dI ⟨(if(cutAt aM (T.rw K) i).length=0 then T.ks.filter (λk=> !decide (k=K))else T.ks),T.pt,jC T.rw K (cutAt aM (T.rw K) i),dZ (gT T.ps (cutAt aM (T.rw K) i) K i) s⟩))) w15:=afV.reorder 8 [4,5,6,7,1,2,3,0] rfl (by simp);have q3:row? w15 Pp 2 9=ae (ints b.list):=by rw[abi.blk.eJ 2 9 (by rw[Dn];omega)];simp only[mZ,List.drop_zero];rw[ck (by omega)]
    have q4:fits w15 rb 0 9=aw:=abi.third.blk.fits 0 9 (by rw[bD];simp);have afu:=af (abi.third.eU b.list (by rw[zJ];rfl));clear afV abi h1 h2 h3 HP adr
    go_wp2_with fail
    refine mj rfl rb 48 (ints b.list) _ rfl afu.out.blk Tryz.underlying48 rfl (by rw[bD,zJ];exact lR) rfl ?_;exact⟨rfl,In.gC Pt.out afu.out.drop.drop.drop.drop⟩
abbrev ptr (p:Nat):ao:=.pointer (ae ⟨p,0,ai⟩)
abbrev yU (p wp fp:Nat):bU:=br p 83 #[ptr wp,ptr fp]
def di (p:Nat)(z:ZS):bU where
 at_ w F:= ∃wp fp m,dU m=z.B/\Sep [yU p wp fp,dR wp z.ls z.f,j3 fp m] w F
 frame h ho hd:=by obtain⟨wp,fp,m,h1,hs⟩:=h;exact⟨wp,fp,m,h1,hs.frame ho hd⟩
 cut h hd:=by obtain⟨wp,fp,m,h1,hs⟩:=h;exact⟨wp,fp,m,h1,hs.cut hd⟩
section
variable {G:Nat->Prop} {w0 w:ah} {l:List bU} {p wp fp:Nat} {m:kN} {z:ZS}
def In.mC (h:In G w0 (di p z::l) w): ∃wp fp m,dU m=z.B/\kg m/\Alike m z.B/\In G w0 (yU p wp fp::dR wp z.ls z.f::j3 fp m::l) w:=by obtain⟨⟨F1,F2,⟨wp,fp,m,hm,hs⟩,h2,h3,h4⟩,ho⟩:=h;have h5:In G w0 (yU p wp fp::dR wp z.ls z.f::j3 fp m::l) w:=⟨(Sep.join hs h2 h3).cut λk _ hk=>h4 k hk,ho⟩;have hf:=(h5.nth 2 (by simp)).XV;exact⟨wp,fp,m,hm,hf,by rw[<-hm];exact(vQ hf.nodup).symm,h5⟩
def In.oc (hm:dU m=z.B)(h:In G w0 (yU p wp fp::dR wp z.ls z.f::j3 fp m::l) w):In G w0 (di p z::l) w:=by obtain⟨hs,ho⟩:=h;obtain⟨F1,F2,h1,h2,h3,h4⟩:=Sep.part (l1:=[yU p wp fp,dR wp z.ls z.f,j3 fp m]) (l2:=l) hs;exact⟨⟨F1,F2,⟨wp,fp,m,hm,h1⟩,h2,h3,h4⟩,ho⟩
end
section
variable {G:Nat->Prop} {w0 w:ah} {l:List bU} {p:Nat} {ls:List (Int×Bool)} {f:BF}
def aae (h:In G w0 (cI p ls::l) w)(hl:ls.length<=60):Calls aj 127 #[.pointer (ae ⟨p,0,ai⟩)] w λe w'=>e=.returned (.tuple #[.agg (ints [(jS ls).2.1.1,(jS ls).2.1.2]),.int .i64 (jS ls).2.2])/\In G w0 (cI p (jS ls).1::l) w':=by obtain⟨F1,hA,_,hb⟩:=h.open_;exact(aaf p ls F1 w hA hl).mono λe w' ⟨h1,h2,h3⟩=>⟨h1,hb (A':=cI p (jS ls).1) h2 h3⟩
def X1 (h:In G w0 (cI p ls::l) w)(hg:Pr ls)(a b:Int):Calls aj 177 #[.pointer (ae ⟨p,0,ai⟩),.agg #[.int .i64 a,.int .i64 b]] w λe w'=>e=.returned (.int .i64 (pY ls a b).2)/\In G w0 (cI p (pY ls a b).1::l) w':=by obtain⟨F1,hA,_,hb⟩:=h.open_;exact(X2 p ls F1 a b w hA hg).mono λe w' ⟨h1,h2,h3⟩=>⟨h1,hb (A':=cI p (pY ls a b).1) (h2.mono λ_ _ hk=>bm hk) h3⟩
def abM (h:In G w0 l w):Calls aj 144 #[] w λe w'=> ∃p,e=.returned (.pointer (ae ⟨p,0,ai⟩))/\In G w0 (cI p []::l) w':=(SP w).mono λe w' ⟨h1,h2,h3⟩=>⟨_,h1,h.new (A:=cI w.heap.size []) h3 (h2.mono λk _ hk=>by rcases hk with hk|hk;exact hk.elim;exact hk.1)⟩
def Ts (h:In G w0 l w):Calls aj 85 #[] w λe w'=> ∃p,e=.returned (.pointer (ae ⟨p,0,ai⟩))/\In G w0 (dR p [] (λ_=>ai)::l) w':=by
 have H:=af h;clear h;have hmm:= @run_makeMap aj
 go_enter Tryz.func85,Tryz.ntmps85
 go_wp2_with fail
 refine(abM H.out).mono ?_;rintro e w1 ⟨sp,rfl,hI⟩;have h1:=hI.EO (aF .i64) wJ ot;have h2:=h1.EO (aF .i64) pV ot;rw[dw]at h2;have h3:=h2.alloc 108 #[.pointer (ae ⟨sp,0,ai⟩),.map (ae w1.heap.size),.map (ae (w1.heap.size+1))];simp only[dw]at h3;have H3:=af h3;clear hI h1 h2 h3
 go_wp2_with fail
 go_ret;refine⟨w1.heap.size+1+1,rfl,In.gC (sp:=sp) (tb:=w1.heap.size) (pb:=w1.heap.size+1) (T:=⟨[],λ_=>0,λ_=>[],[]⟩) nS.nil ?_⟩;have h4:=H3.out.reorder 4 [0,3,2,1] rfl (by simp);simp only[List.map_nil,ew];exact h4
def Z4 (h:In G w0 (dR p ls f::l) w)(hk:pX ls f)(b:aQ)(hv:b.v.length=8):Calls aj 64 #[.pointer (ae ⟨p,0,ai⟩),.agg (ints b.list)] w λe w'=>e=.returned (.tuple #[.agg (ints [(gB ls f b).2.1.1,(gB ls f b).2.1.2]),.int .i64 (gB ls f b).2.2])/\In G w0 (dR p (gB ls f b).1.1 (gB ls f b).1.2::l) w':=by
 have kZ:=af h;have HK:=af hk;have zJ:b.list.length=9:=by unfold aQ.list;rw[aD,hv]
 have HV:=af hv;clear h hk hv
 go_enter Tryz.func64,Tryz.ntmps64
 go_upto_region 1 with(fail)
 refine bZ (In G w0 (br (w.heap.size+1) 43 (ints [0,0])::br w.heap.size 48 (ints b.list)::dR p ls f::l)) (by have:=(kZ.out.alloc 48 (ints b.list)).alloc 43 (ints [0,0]);rw[dw]at this;exact this) ?_
 generalize w.heap.size+1=rb;generalize w.heap.size=bb;intro w1 km;have k1:row? w1 bb 0 9=ae (ints b.list):=km.swap.blk.bt zJ;have qB:=af km;clear km kZ
 go_wp2_with fail
 refine(qW b HV.out w1).mono ?_;rintro e w2 ⟨rfl,gF⟩;have gm:=qB.out.below gF;have f1:fits w2 rb 0 2=aw:=gm.blk.fits 0 2 (by rw[bD];simp);have gu:=af gm;clear gm gF qB k1;by_cases he:bI b=0
 rotate_left
 ·have HR:Hid (gB ls f b=((ls,f),(0,0),bI b)):=by unfold Hid gB;rw[if_pos he]
  have LP:(bI b !=0)=aw:=by simpa using he
  generalize bI b=E at *;clear he;have fW:=af (gu.out.eU [0,0] rfl);clear gu
  go_wp2_with fail
  refine cN rfl rb 43 (ints [0,0]) (.int .i64 E) _ rfl rfl fW.out.blk Tryz.underlying43 rfl (by rw[bD];exact eB) rfl ?_;rw[HR.out];exact⟨rfl,fW.out.drop.drop⟩
 have HE:=af he;rw[he];clear he f1;obtain⟨sp,tb,pb,T,hT,hI⟩:=gu.out.third.lz;have q1:w2.cell? ⟨p,0,ai⟩=ae (.pointer (ae ⟨sp,0,ai⟩)):=hI.blk.cell 0;have HT:=af hT;have fW:=af hI.swap;clear hI hT gu
 go_wp2_with fail
 refine(aae fW.out HK.out.so.1).mono ?_;rintro e w3 ⟨rfl,gq⟩;have iR:Hid (In G w0 (dR p (jS ls).1 f::br rb 43 (ints [0,0])::br bb 48 (ints b.list)::l) w3):=In.gC (l:=br rb 43 (ints [0,0])::br bb 48 (ints b.list)::l) HT.out gq.swap;clear gq fW q1 HT;rcases BI HK.out.so.1 with ht|⟨k,gn,QB,ht,agj,M5,_⟩
 ·have HR:Hid (gB ls f b=((ls,f),(0,0),2)):=by unfold Hid gB;rw[if_neg (λh=>h HE.out),ht,if_neg (by simp)]
  rw[ht]at iR;rw[ht];simp only at iR|-;clear ht
  go_upto_region 5 with(fail)
  refine bZ (In G w0 (br w3.heap.size 43 (ints [0,0])::dR p ls f::br rb 43 (ints [0,0])::br bb 48 (ints b.list)::l)) (iR.out.struct 43 [0,0] [0,0] rfl) ?_;generalize w3.heap.size=hb;intro w4 fD;have q1:row? w4 hb 0 2=ae (ints [0,0]):=fD.blk.bt rfl;have f1:fits w4 rb 0 2=aw:=fD.third.blk.fits 0 2 (by rw[bD];simp);have ni:=af (fD.third.eU [0,0] rfl);clear fD iR
  go_wp2_with fail
  refine cN rfl rb 43 (ints [0,0]) (.int .i64 2) _ rfl rfl ni.out.blk Tryz.underlying43 rfl (by rw[bD];exact eB) rfl ?_;rw[HR.out];exact⟨rfl,ni.out.drop.drop.swap.drop⟩
 ·have HR:Hid (gB ls f b=((QB,ei f (k:Int) (ae (gn,b))),((k:Int),gn),0)):=by unfold Hid gB;rw[if_neg (λh=>h HE.out),ht,if_pos rfl]
  have HFN:Hid (f (k:Int)=ai):=by
   cases hf:f (k:Int)with
   |none=>rfl
   |some x=>have:=(HK.out.lv (k:Int) x.1).2 ⟨x.2,hf⟩;rw[M5]at this;cases this
  have HK6:=af agj;rw[ht]at iR;rw[ht];simp only at iR|-;clear ht M5 agj
  go_upto_region 5 with(fail)
  refine bZ (In G w0 (br w3.heap.size 43 (ints [(k:Int),gn])::dR p QB f::br rb 43 (ints [0,0])::br bb 48 (ints b.list)::l)) (iR.out.struct 43 [0,0] [(k:Int),gn] rfl) ?_;generalize w3.heap.size=hb;intro w4 fD;have q1:row? w4 hb 0 2=ae (ints [(k:Int),gn]):=fD.blk.bt rfl;have q2:row? w4 bb 0 9=ae (ints b.list):=fD.fourth.blk.bt zJ;have GJ:=af (Qy fD.swap (k:Int) gn b HFN.out ⟨HE.out,HV.out,by omega,by have:=HK6.out;omega⟩);clear fD iR
  go_wp2_with fail
  refine GJ.out.mono ?_;rintro e w5 ⟨rfl,j6⟩;have q1:row? w5 hb 0 2=ae (ints [(k:Int),gn]):=j6.swap.blk.bt rfl;have f1:fits w5 rb 0 2=aw:=j6.third.blk.fits 0 2 (by rw[bD];simp);have kO:=af (j6.third.eU [(k:Int),gn] rfl);clear j6 GJ q2
  go_wp2_with fail
  refine cN rfl rb 43 (ints [(k:Int),gn]) (.int .i64 0) _ rfl rfl kO.out.blk Tryz.underlying43 rfl (by rw[bD];exact eB) rfl ?_;rw[HR.out];exact⟨rfl,kO.out.drop.swap.drop.swap.drop⟩
def aby (h:In G w0 (dR p ls f::l) w)(hk:pX ls f)(s g:Int):Calls aj 131 #[.pointer (ae ⟨p,0,ai⟩),.agg #[.int .i64 s,.int .i64 g]] w λe w'=>e=.returned (.int .i64 (ou ls f (s,g)).2)/\In G w0 (dR p (ou ls f (s,g)).1.1 (ou ls f (s,g)).1.2::l) w':=by
 have kZ:=af h;have HK:=af hk;clear h hk
 go_enter Tryz.func131,Tryz.ntmps131
 go_upto_region 1 with(fail)
 refine bZ (In G w0 (dR p ls f::br w.heap.size 43 (ints [s,g])::l)) (kZ.out.alloc 43 (ints [s,g])).swap ?_;generalize w.heap.size=hb;intro w1 km;obtain⟨sp,tb,pb,T,hT,hI⟩:=km.lz;obtain⟨F1,hS⟩:=hI.swap.head;have c0: ∀n:After w1,n.w.cell? ⟨p,0,ai⟩=ae (.pointer (ae ⟨sp,0,ai⟩)):=λn=>(hI.blk.after n.below).cell 0
 have c1: ∀n:After w1,row? n.w hb 0 2=ae (ints [s,g]):=λn=>(km.swap.blk.after n.below).bt rfl
 have HL:Hid (∀n:After w1,Calls aj 72 #[.pointer (ae ⟨sp,0,ai⟩),.agg (ints [s,g])] n.w λe w'=>e=.returned (.bool (eI ls s g))/\Below n.w.heap.size n.w w'):=λn=>tM sp ls F1 s g n.w (kM.after hS n.below)
 have qB:=af km;clear km hI hS hT kZ;cases pd:eI ls s g with
 |false=>
  have HR:Hid (ou ls f (s,g)=((ls,f),7)):=by unfold Hid ou;rw[if_neg (by simp[pd])]
  rw[pd]at HL;clear pd;refine bF (by kernel_rfl) (by kernel_rfl) ?_
  repeat(go_big_quiet_step ((go_at_call 72;exact ep (HL.out _))))
  refine wpQuiet_nil ?_;rintro _ ⟨n,rfl⟩;have gu:=af (qB.out.below n.below)
  go_wp2_with fail
  go_ret;rw[HR.out];exact⟨rfl,gu.out.swap.drop⟩
 |true=>
  have V4:=af pd;have HR:Hid (ou ls f (s,g)=(((pY ls s g).1,ei f s ai),0)):=by unfold Hid ou;rw[if_pos pd]
  have HFR:Hid ((pY ls s g).2=0):=by unfold Hid pY;rw[if_pos pd]
  rw[pd]at HL;clear pd;refine bF (by kernel_rfl) (by kernel_rfl) ?_
  repeat(go_big_quiet_step ((go_at_call 72;exact ep (HL.out _))))
  refine wpQuiet_nil ?_;rintro _ ⟨n,rfl⟩;have gm:=qB.out.below n.below;have k1:row? n.w hb 0 2=ae (ints [s,g]):=gm.swap.blk.bt rfl;have BT:=af (KE gm s g (cZ f s) (HK.out.get V4.out));clear gm c0 c1 HL qB;generalize n.w=w2 at *
  go_wp2_with fail
  refine BT.out.mono ?_;rintro e w3 ⟨rfl,fj⟩;obtain⟨sp,tb,pb,T,hT,hI⟩:=fj.lz;have k1:row? w3 hb 0 2=ae (ints [s,g]):=fj.swap.blk.bt rfl;have k2:w3.cell? ⟨p,0,ai⟩=ae (.pointer (ae ⟨sp,0,ai⟩)):=hI.blk.cell 0;have HT:=af hT;have HI:=af hI;clear fj hI hT BT
  go_upto_region 4 with(fail)
  go_still_tail 5,(by kernel_rfl)
  change wpList _ _ _ _ _ w3.drew;have iR:=af HI.out.drew.swap;clear HI k1 k2;generalize w3.drew=w4 at *
  go_wp2_with fail
  refine(X1 iR.out HK.out.so.ahG s g).mono ?_;rintro e w5 ⟨rfl,fD⟩;have ni:Hid (In G w0 (dR p (pY ls s g).1 (ei f s ai)::br hb 43 (ints [s,g])::l) w5):=In.gC (l:=br hb 43 (ints [s,g])::l) HT.out fD.swap;rw[HFR.out];clear fD iR HT
  go_wp2_with fail
  go_ret;rw[HR.out];exact⟨rfl,ni.out.swap.drop⟩
end
def ia (w:ah)(g o:Nat)(vs:List ao):ah:=
 {w with heap:=w.heap.modify g λ
    | .cells cs e fr=>.cells (cs.toList.take o++vs++cs.toList.drop (o+vs.length)).toArray e fr
    |o=>o}
def ye (w:ah)(g o:Nat)(xs:List ao)(k:Nat)(h:k≠g):(ia w g o xs).heap[k]? =w.heap[k]?:=by simp[ia,bq,Ne.symm h]
def K1 (w:ah)(g o:Nat)(xs:List ao):(ia w g o xs).heap.size=w.heap.size:=by simp[ia]
def db.ia (w:ah)(g o:Nat)(xs:List ao):db (· =g) w (Go.Proofs.YtknejlcijdngoaaGreat.ia w g o xs):=⟨rfl,rfl,rfl,by rw[K1];exact ax _,λq _ hq=>ye w g o xs q hq⟩
def dt.UY {w:ah}{g:Nat}{t:aA}{ys:Array ao}(h:dt w g t ys)(xs:List ao)(hl:xs.length=ys.size):dt (ia w g 0 xs) g t xs.toArray:=by unfold dt at h|-;simp[ia,bq,h];omega
def In.UY {G:Nat->Prop}{w0 w:ah}{l:List bU}{g:Nat}{t:aA}{ys:Array ao}(h:In G w0 (br g t ys::l) w)(xs:List ao)(hl:xs.length=ys.size):In G w0 (br g t xs.toArray::l) (ia w g 0 xs):=by obtain⟨F1,⟨h1,h2⟩,hF,hb⟩:=h.open_;exact hb (A':=br g t _) ⟨h1.UY xs hl,bm h2⟩ ((db.ia w g 0 xs).mono λk _ e=>by rw[e];exact h2)
def yg {P:aS}(w:ah)(ty:aA)(g o n:Nat)(xs:List ao)(hi:(P.info? ty).map (·.size)=ae n)(h1: ∀v∈xs,v.oneCell'=aw):(dh ty (.pointer (ae ⟨g,o,ai⟩)) (.agg xs.toArray)).run P w=if fits w g o n=aw/\xs.length=n then .ok () (ia w g o xs)else(en ty g o (.agg xs.toArray)).run P w:=by
 split
 ·rename_i h
  obtain⟨hf,hl⟩:=h;unfold fits at hf
  split at hf
  ·rename_i cs e hg
   have hn:o+n<=cs.size:=by simpa using hf
   cases hq:P.info? ty with
   |none=>simp[hq]at hi
   |some i=>
    have hs:i.size=n:=by simpa[hq]using hi
    have gI:=run_storeCells_at P g o e xs 0 cs w hg (by omega) h1;have hlen:xs.toArray.size=i.size:=by simp;omega
    have Wr:xs.length=i.size:=by omega
    simp only[dh,eZ,Instr.sureAddr,storeVar,eH,sizeOf,typeInfo,run_program,ij,hq,Sem.run_pure,iQ,hlen,ne_eq,not_true_eq_false,if_false,List.toList_toArray,gI,aV,Wr];congr 1;unfold ia World.setRow;congr 1;apply Array.ext_getElem?;intro k;rw[bq,bq]
    split
    ·rename_i hk
     subst hk;rw[hg];simp[Wr]
    ·rfl
  ·cases hf
 ·rfl
def MS {w:ah}{g n:Nat}{vs:List ao}(h:fits w g 0 n=aw)(hl:vs.length=n):fits (ia w g 0 vs) g 0 n=aw:=by
 unfold fits at *
 split at h
 ·rename_i cs t hg
  simp only[decide_eq_true_eq]at h;simp[ia,bq,hg];omega
 ·cases h
def In.apart {G:Nat->Prop}{w0 w:ah}{l:List bU}{a b:Nat}{t t':aA}{x y:Array ao}(h:In G w0 (br a t x::br b t' y::l) w):a≠b:=by obtain⟨⟨F1,F2,h1,⟨F3,F4,h2,_,_,h5⟩,h3,_⟩,_⟩:=h;intro e;exact h3 a h1.2 (h5 a (bm (by rw[e];exact h2.2)))
def AK {w:ah}{g g' o o':Nat}{x:ao}{xs:List ao}(eb:g≠g')(h:w.cell? ⟨g,o,ai⟩=ae x):(ia w g' o' xs).cell? ⟨g,o,ai⟩=ae x:=by unfold c8 at *;simp only[ye w g' o' xs g eb];exact h
def Pe:(Tryz.prog.info? 83).map (·.size)=ae 2:=by kernel_rfl
@[go_sem ↓] theorem aeu (v:ao):eh 83 v=fA 83 v:=rfl
@[go_sem ↓] theorem adl (p v:ao):eZ 83 p v=dh 83 p v:=rfl
@[go_sem] theorem ach (w:ah)(g o:Nat):(fA 83 (.pointer (ae ⟨g,o,ai⟩))).run aj w=match row? w g o 2 with|some cs=>.ok (.agg cs) w|none=>(jw 83 ⟨g,o,ai⟩).run aj w:=ga w _ g o 2 _ Tryz.underlying83 rfl Pe
@[go_sem] theorem aaA (w:ah)(g o a b:Nat):(dh 83 (.pointer (ae ⟨g,o,ai⟩)) (.agg #[ptr a,ptr b])).run aj w=if fits w g o 2=aw then .ok () (ia w g o [ptr a,ptr b])else(en 83 g o (.agg #[ptr a,ptr b])).run aj w:=by have h:=yg w 83 g o 2 [ptr a,ptr b] Pe (by simp[kT]);simp only[aD,aP,Nat.reduceAdd,and_true]at h;exact h
def u6:(Tryz.prog.info? 36).map (·.size)=ae 3:=by kernel_rfl
@[go_sem ↓] theorem abE (v:ao):eh 36 v=fA 36 v:=rfl
@[go_sem ↓] theorem aaE (p v:ao):eZ 36 p v=dh 36 p v:=rfl
@[go_sem] theorem ZX (w:ah)(g o:Nat):(fA 36 (.pointer (ae ⟨g,o,ai⟩))).run aj w=match row? w g o 3 with|some cs=>.ok (.agg cs) w|none=>(jw 36 ⟨g,o,ai⟩).run aj w:=ga w _ g o 3 _ Tryz.underlying36 rfl u6
@[go_sem] theorem WC (w:ah)(g o:Nat)(a b c:Option Addr)(n1 n2 n3 c1 c2 c3:Nat):(dh 36 (.pointer (ae ⟨g,o,ai⟩)) (.agg #[.slice a n1 c1,.slice b n2 c2,.slice c n3 c3])).run aj w=if fits w g o 3=aw then .ok () (ia w g o [.slice a n1 c1,.slice b n2 c2,.slice c n3 c3])else(en 36 g o (.agg #[.slice a n1 c1,.slice b n2 c2,.slice c n3 c3])).run aj w:=by have h:=yg w 36 g o 3 [.slice a n1 c1,.slice b n2 c2,.slice c n3 c3] u6 (by simp[kT]);simp only[aD,aP,Nat.reduceAdd,and_true]at h;exact h
structure ahw (T:WT) (f:BF) (s g:Int) (K:Int) (i:Nat):Prop where
 mem:K∈T.ks
 at_:(T.rw K)[i]? =ae ⟨(s,g),cZ f s⟩
 place:dY T.ps s=ae (K,(i:Int))
 slot:0<=s/\s<60
 len:(T.rw K).length<=60
 ok:bI (cZ f s)=0/\(cZ f s).v.length=8
def nS.agK {T:WT}{f:BF}{ls:List (Int×Bool)}(h:nS T f)(hk:pX ls f){s g:Int}(hl:eI ls s g=aw): ∃K i,ahw T f s g K i:=by have hf:=hk.get hl;obtain⟨h1,h2,h3⟩:=h.ok s g _ hf;obtain⟨K,hK,i,hi⟩:=h.all s g _ hf;exact⟨K,i,hK,hi,(h.at_ K hK i _ hi).2,h3,h.tZ hK,h1,h2⟩
def vV {w:ah}{b o:Nat}{v:ao}(ob:Obj)(h:w.cell? ⟨b,o,ai⟩=ae v):(w.alloc ob).cell? ⟨b,o,ai⟩=ae v:=(((Below.refl w.heap.size w).alloc (ax _) ob).cell (p:=⟨b,o,ai⟩) (rX _ _ h)).trans h
section
variable {G:Nat->Prop} {w0 w:ah} {l:List bU} {p:Nat} {ls:List (Int×Bool)} {f:BF}
end
section
variable {G:Nat->Prop} {w0 w:ah} {l:List bU} {p:Nat} {z:ZS}
def Tx (h:In G w0 l w):Calls aj 35 #[] w λe w'=> ∃p,e=.returned (ptr p)/\In G w0 (di p vF::l) w':=by
 have H:=af h;clear h
 go_enter Tryz.func35,Tryz.ntmps35
 go_wp2_with fail
 refine(Ts H.out).mono ?_;rintro e w1 ⟨wp,rfl,hI⟩;have H1:=af hI;clear hI H
 go_wp2_with fail
 refine(Sg H1.out).mono ?_;rintro e w2 ⟨fp,rfl,hI⟩;have H2:=af (hI.alloc 83 #[ptr wp,ptr fp]);clear hI H1
 go_wp2_with fail
 go_ret;exact⟨w2.heap.size,rfl,In.oc (z:=vF) (m:=[]) Il (H2.out.perm ((cJ _ _ _).cons _))⟩
def rH (z:ZS)(hs:List Hd):Bool:=hs.all λh=>z.live h
def Pd {hv:ao}{hs:List Hd}(h:In G w0 (di p z::iy hv hs::l) w)(hl:hs.length<=1099511627776):Calls aj 68 #[ptr p,hv] w λe w'=>e=.returned (.int .i64 (if rH z hs=aw then 0 else 7))/\In G w0 (di p z::iy hv hs::l) w':=by
 obtain⟨A,c,rfl,vA,uL,_⟩:=o0 h.swap.rowAt;have H0:=af h;clear h;obtain⟨qe,HQ⟩: ∃qe:Int,Hid (qe=if rH z hs=aw then 0 else 7):=⟨_,rfl⟩;rw[<-HQ.out]
 go_enter Tryz.func68,Tryz.ntmps68
 go_wp2_with fail
 go_loopw [9] (λi w'=> ∃k:Nat,k<=hs.length/\i=.int .i64 k/\rH z (hs.take k)=aw/\In G w0 (di p z::iy (.slice A hs.length c) hs::l) w') (λi _=>hs.length-(intOf i).toNat)
 case atStart=>exact⟨0,cE _,rfl,rfl,H0.out⟩
 case round=>
  clear H0;obtain⟨k,hk,rfl,hlk,hI⟩:=hrel;by_cases bJ:k<hs.length
  ·have vI:(k:Int)<hs.length:=by omega
   obtain⟨A',c',e0,_,Un,fg⟩:=o0 hI.swap.rowAt;injection e0 with e1 e2 e3
   subst e1;subst e3;obtain⟨g,rfl,q1⟩:=fg k bJ;have HS:Hid (rH z (hs.take (k+1))=z.live hs[k]):=by unfold Hid rH at *;rw[bh bJ,List.all_append,hlk];simp
   have L4:Hid (z.live hs[k]=ay->rH z hs=ay):=λhf=>by unfold rH;rw[List.all_eq_false];exact⟨_,bg bJ,by rw[hf];simp⟩
   have agl:(hs.length:Int)<=c:=by omega
   have HI:=af hI;clear fg e2 hI hlk;generalize hs[k]=x at *;obtain⟨x1,x2⟩:=x
   go_upto_region 4 with(fail)
   refine bZ (In G w0 (br wr.heap.size 43 (ints [x1,x2])::di p z::iy (.slice (ae ⟨g,0,ai⟩) hs.length c) hs::l)) (HI.out.struct 43 [0,0] [x1,x2] rfl) ?_;generalize wr.heap.size=cb;intro w3 fj;have q2: ∀n:After w3,row? n.w cb 0 2=ae (ints [x1,x2]):=λn=>(fj.blk.after n.below).bt rfl
   obtain⟨wp,fp,m,hm,hf,ha,gq⟩:=fj.swap.mC;have q3: ∀n:After w3,n.w.cell? ⟨p,0,ai⟩=ae (ptr wp):=λn=>(gq.blk.after n.below).cell 0
   obtain⟨sp,F,q4,hS⟩:=gq.swap.slotsOf;have HL:Hid (∀n:After w3,Calls aj 72 #[.pointer (ae ⟨sp,0,ai⟩),.agg (ints [x1,x2])] n.w λe w'=>e=.returned (.bool (z.live (x1,x2)))/\Below n.w.heap.size n.w w'):=λn=>tM sp z.ls F x1 x2 n.w (hS n)
   have fW:=af fj;clear fj gq hm hf ha hS HI q1;cases pd:z.live (x1,x2)with
   |false=>
    rw[pd]at HL HS L4;have HA:Hid (rH z hs=ay):=L4.out rfl;refine bF (by kernel_rfl) (by kernel_rfl) ?_
    repeat(go_big_quiet_step ((go_at_call 72;exact ep (HL.out _))))
    refine wpQuiet_nil ?_;rintro _ ⟨n,rfl⟩;have ni:=af (fW.out.below n.below)
    go_wp2_with fail
    go_ret;have hq:qe=7:=by rw[HQ.out,HA.out];rfl
    rw[hq];exact⟨rfl,ni.out.drop⟩
   |true=>
    rw[pd]at HL HS L4;clear L4;refine bF (by kernel_rfl) (by kernel_rfl) ?_
    repeat(go_big_quiet_step ((go_at_call 72;exact ep (HL.out _))))
    refine wpQuiet_nil ?_;rintro _ ⟨n,rfl⟩;have ni:=af (fW.out.below n.below)
    go_wp2_with fail
    go_roundw
    case rel=>exact⟨k+1,by omega,by go_num,HS.out,ni.out.drop⟩
    case measure=>simp[intOf];omega
  ·have:k=hs.length:=by omega
   subst this;have HA:Hid (rH z hs=aw):=by rw[dm]at hlk;exact hlk
   have HI:=af hI;clear hI hlk
   go_wp2_with fail
   go_ret;have hq:qe=0:=by rw[HQ.out,HA.out];rfl
   rw[hq];exact⟨rfl,HI.out⟩
end
def Pz: ∀(m k:Nat),m<256->k<8->m.testBit k=aw->bits .andNot .i64 (m:Int) (wrap64 (2^k))=((m-2^k:Nat):Int):=by
 have h: ∀(m:Fin 256) (k:Fin 8),m.val.testBit k.val=aw->bits .andNot .i64 (m.val:Int) (wrap64 (2^k.val))=((m.val-2^k.val:Nat):Int):=by decide+kernel
 exact λm k hm hk=>h ⟨m,hm⟩ ⟨k,hk⟩
def nS.acn {T:WT}{f:BF}{s g K:Int}{b b':aQ}(h:nS T f)(hK:K∈T.ks){i:Nat}(hi:(T.rw K)[i]? =ae ⟨(s,g),b⟩)(hb:bI b'=0/\b'.v.length=8):nS ⟨T.ks,T.pt,jC T.rw K ((T.rw K).set i ⟨(s,g),b'⟩),T.ps⟩ (ei f s (ae (g,b'))):=by
 have xr:=(bz.1 hi).1;obtain⟨hfs,hps⟩:=h.at_ K hK i _ hi;simp only at hfs hps;have YI: ∀K'∈T.ks,∀(j:Nat) r,(T.rw K')[j]? =ae r-> ¬(K'=K/\j=i)->ei f s (ae (g,b')) r.h.1=ae (r.h.2,r.b)/\dY T.ps r.h.1=ae (K',(j:Int)):=by
  intro K' jX j r hr eb;obtain⟨h1,h2⟩:=h.at_ K' jX j r hr;have hns:r.h.1≠s:=λe=>by
   rw[e,hps]at h2;injection h2 with h2
   injection h2 with h2 h3
   exact eb ⟨h2.symm,by omega⟩
  unfold ei;rw[if_neg hns];exact⟨h1,h2⟩
 refine⟨h.nd,λK' jX=> ?_,λK' jX j r hr=> ?_,λs' g' b2 hs=> ?_,λs' g' b2 hs=> ?_⟩
 ·simp only[jC]
  split
  ·intro h0;have:=congrArg List.length h0;rw[de]at this;simp at this;rw[this]at xr;simp at xr
  ·exact h.ne K' jX
 ·simp only at hr jX|-;by_cases e:K'=K
  ·subst e;rw[iE,fh]at hr;by_cases ej:i=j
   ·subst ej;rw[if_pos rfl,if_pos xr]at hr;injection hr with hr
    subst hr;unfold ei;rw[if_pos rfl];exact⟨rfl,hps⟩
   ·rw[if_neg ej]at hr;exact YI K' jX j r hr (λh=>ej h.2.symm)
  ·rw[gW _ _ e]at hr;exact YI K' jX j r hr (λh=>e h.1)
 ·unfold ei at hs
  split at hs
  ·rename_i e
   injection hs with hs
   injection hs with h1 h2
   subst e;subst h1;subst h2;exact⟨K,hK,i,by simp only[iE];rw[fh,if_pos rfl,if_pos xr]⟩
  ·rename_i eb
   obtain⟨K',jX,j,hj⟩:=h.all s' g' b2 hs;refine⟨K',jX,j,?_⟩;simp only;by_cases e:K'=K
   ·subst e;rw[iE,fh];by_cases ej:i=j
    ·subst ej;rw[hi]at hj;injection hj with hj
     injection hj with hj _
     injection hj with hj _
     exact absurd hj.symm eb
    ·rw[if_neg ej];exact hj
   ·rw[gW _ _ e];exact hj
 ·unfold ei at hs
  split at hs
  ·rename_i e
   injection hs with hs
   injection hs with _ h2
   subst e;subst h2;obtain⟨_,_,h3⟩:=h.ok s' g b hfs;exact⟨hb.1,hb.2,h3⟩
  ·exact h.ok s' g' b2 hs
def JI (f:BF)(s:Int)(x y:Option (Int×aQ)):ei (ei f s x) s y=ei f s y:=by
 funext k;unfold ei
 split<;>rfl
def abG {K:Int}{k:Nat}(hk:k<8)(ht:K.toNat.testBit k=aw):k∈jO K:=cm.2 ⟨ng.2 hk,ht⟩
def EA (k:Int)(h:0<=k/\k<8)(w:ah):Calls aj 133 #[.int .i64 k] w λe w'=>e=.returned (.bool aw)/\w=w':=by
 obtain⟨h1,h2⟩:=h
 go_enter Tryz.func133,Tryz.ntmps133
 go_wp2
 go_ret;exact⟨rfl,rfl⟩
def I3 (k:Int)(h: ¬(0<=k/\k<8))(w:ah):Calls aj 133 #[.int .i64 k] w λe w'=>e=.returned (.bool ay)/\w=w':=by
 by_cases h1:0<=k
 ·have h2:Hid (8<=k):=by unfold Hid;omega
  clear h
  go_enter Tryz.func133,Tryz.ntmps133
  go_wp2
  go_ret;exact⟨eu (decide_eq_false (by have:=h2.out;omega)),rfl⟩
 ·have h2:k<0:=by omega
  clear h h1
  go_enter Tryz.func133,Tryz.ntmps133
  go_wp2
  go_ret;exact⟨rfl,rfl⟩
section
variable {G:Nat->Prop} {w0 w:ah} {l:List bU} {p:Nat} {ls:List (Int×Bool)} {f:BF}
def QS (h:In G w0 (dR p ls f::l) w)(hk:pX ls f)(s g kind n:Int):Calls aj 66 #[.pointer (ae ⟨p,0,ai⟩),.agg #[.int .i64 s,.int .i64 g],.int .i64 kind,.int .i64 n] w λe w'=>e=.returned (.int .i64 (tV ls f (s,g) kind n).2)/\In G w0 (dR p ls (tV ls f (s,g) kind n).1::l) w':=by
 have kZ:=af h;have HK:=af hk;clear h hk
 go_enter Tryz.func66,Tryz.ntmps66
 go_upto_region 1 with(fail)
 refine bZ (In G w0 (dR p ls f::br w.heap.size 43 (ints [s,g])::l)) (kZ.out.alloc 43 (ints [s,g])).swap ?_;generalize w.heap.size=hb;intro w1 km;obtain⟨sp,tb,pb,T,hT,hI⟩:=km.lz;obtain⟨F1,hS⟩:=hI.swap.head;have c0: ∀n:After w1,n.w.cell? ⟨p,0,ai⟩=ae (.pointer (ae ⟨sp,0,ai⟩)):=λn=>(hI.blk.after n.below).cell 0
 have c1: ∀n:After w1,row? n.w hb 0 2=ae (ints [s,g]):=λn=>(km.swap.blk.after n.below).bt rfl
 have HL:Hid (∀n:After w1,Calls aj 72 #[.pointer (ae ⟨sp,0,ai⟩),.agg (ints [s,g])] n.w λe w'=>e=.returned (.bool (eI ls s g))/\Below n.w.heap.size n.w w'):=λn=>tM sp ls F1 s g n.w (kM.after hS n.below)
 have HT:=af hT;have HI:=af hI;clear km hI hS hT kZ;cases pd:eI ls s g with
 |false=>
  have HR:Hid (tV ls f (s,g) kind n=(f,7)):=by unfold Hid tV;rw[if_pos (by simp[pd])]
  rw[pd]at HL;clear pd;refine bF (by kernel_rfl) (by kernel_rfl) ?_
  repeat(go_big_quiet_step ((go_at_call 72;exact ep (HL.out _))))
  refine wpQuiet_nil ?_;rintro _ ⟨na,rfl⟩;have gu:=af (In.gC (l:=br hb 43 (ints [s,g])::l) HT.out (HI.out.below na.below))
  go_wp2_with fail
  go_ret;rw[HR.out];exact⟨rfl,gu.out.swap.drop⟩
 |true=>
  have V4:=af pd;rw[pd]at HL;clear pd;refine bF (by kernel_rfl) (by kernel_rfl) ?_
  repeat(go_big_quiet_step ((go_at_call 72;exact ep (HL.out _))))
  refine wpQuiet_nil ?_;rintro _ ⟨na,rfl⟩;have gm:In G w0 (br p 108 #[.pointer (ae ⟨sp,0,ai⟩),.map (ae tb),.map (ae pb)]::cI sp ls::PtrMap tb (T.ks.map λK=>(K,T.pt K))::bR pb T.ps::br hb 43 (ints [s,g])::(l++T.ks.map (dI T))) na.w:=HI.out.below na.below;have gu:=af gm;generalize na.w=w2 at *;clear c0 c1 HL HI gm;by_cases vH:0<=kind/\kind<8
  rotate_left
  ·have HR:Hid (tV ls f (s,g) kind n=(f,1)):=by unfold Hid tV;rw[if_neg (by simp[V4.out]),if_pos (bm vH)]
   have RR:=af (I3 kind vH w2);clear vH;have fW:=af (In.gC (l:=br hb 43 (ints [s,g])::l) HT.out gu.out)
   go_wp2_with fail
   refine RR.out.mono ?_;rintro e w3 ⟨rfl,rfl⟩
   go_wp2_with fail
   go_ret;rw[HR.out];exact⟨rfl,fW.out.swap.drop⟩
  have RR:=af (EA kind vH w2);by_cases hn: -1000000000<=n/\n<=1000000000
  rotate_left
  ·have HR:Hid (tV ls f (s,g) kind n=(f,1)):=by unfold Hid tV;rw[if_neg (by simp[V4.out]),if_pos (by omega)]
   have fW:=af (In.gC (l:=br hb 43 (ints [s,g])::l) HT.out gu.out);by_cases hn1:n< -1000000000
   ·have Pg:decide (n< -1000000000)=aw:=decide_eq_true hn1;clear hn vH
    go_wp2_with fail
    refine RR.out.mono ?_;rintro e w3 ⟨rfl,rfl⟩
    go_wp2_with fail
    go_ret;rw[HR.out];exact⟨rfl,fW.out.swap.drop⟩
   ·have Pg:decide (n< -1000000000)=ay:=decide_eq_false hn1;have Sx:decide (1000000000<n)=aw:=decide_eq_true (by omega);have hn2:1000000000<n:=by omega
    clear hn vH
    go_wp2_with fail
    refine RR.out.mono ?_;rintro e w3 ⟨rfl,rfl⟩
    go_wp2_with fail
    go_ret;rw[HR.out];exact⟨rfl,fW.out.swap.drop⟩
  have Pg:decide (n< -1000000000)=ay:=decide_eq_false (by omega);have Sx:decide (1000000000<n)=ay:=decide_eq_false (by omega);obtain⟨k,rfl⟩: ∃k:Nat,kind=k:=⟨kind.toNat,by omega⟩;have tD:k<8:=by omega
  have HR:Hid (tV ls f (s,g) (k:Int) n=(ei f s (ae (g,vD (cZ f s) k n)),0)):=by unfold Hid tV;rw[if_neg (by simp[V4.out]),if_neg (by omega),fw]
  obtain⟨K,i,hLi⟩:=HT.out.agK HK.out V4.out;obtain⟨hKk,hKb⟩:=Am (In.Cw (X:=br p 108 #[.pointer (ae ⟨sp,0,ai⟩),.map (ae tb),.map (ae pb)]::cI sp ls::PtrMap tb (T.ks.map λK=>(K,T.pt K))::bR pb T.ps::br hb 43 (ints [s,g])::l) gu.out hLi.mem);have HKB:Hid ((cZ f s).k=K):=hKb _ (pM hLi.at_);have xQ:=af hLi;have TB:=af hKk;have HN:=af hn;have hkI:(k:Int)<8:=by omega
  go_wp2_with fail
  refine RR.out.mono ?_;rintro e w3 ⟨rfl,rfl⟩
  go_upto_region 5 with(fail)
  clear Pg Sx hLi hKk hKb hn vH RR;have gm:=gu.out;have pe:=gm.fourth.fU;have k0:w2.cell? ⟨p,2,ai⟩=ae (.map (ae pb)):=gm.blk.cell 2;have k1:w2.cell? ⟨hb,0,ai⟩=ae (.int .i64 s):=gm.fifth.blk.cell 0;have k2:(w2.alloc (.cells #[.int .i64 0,.int .i64 0] 132)).cell? ⟨p,2,ai⟩=ae (.map (ae pb)):=vV _ k0;have k3:(w2.alloc (.cells #[.int .i64 0,.int .i64 0] 132)).cell? ⟨hb,0,ai⟩=ae (.int .i64 s):=vV _ k1;have o8:=rI pe xQ.out.slot xQ.out.place (Below.refl _ _).drew;have Dm:=rI pe xQ.out.slot xQ.out.place (((Below.refl _ w2).alloc (ax _) (.cells #[.int .i64 0,.int .i64 0] 132)).drew);have BU:Hid (∀w3,w3=(putRow (w2.alloc (.cells (ints [0,0]) 132)) w2.heap.size 0 [K,(i:Int)]).drew->In G w0 (br w2.heap.size 132 (ints [K,(i:Int)])::br p 108 #[.pointer (ae ⟨sp,0,ai⟩),.map (ae tb),.map (ae pb)]::cI sp ls::PtrMap tb (T.ks.map λK=>(K,T.pt K))::bR pb T.ps::br hb 43 (ints [s,g])::(l++T.ks.map (dI T))) w3):=λw3 e=>by rw[e];exact(gm.struct 132 [0,0] [K,(i:Int)] rfl).drew
  clear gm pe gu
  go_region
  all_goals
   go_upto_region 6 with(fail)
   refine bZ (In G w0 (br w2.heap.size 132 (ints [K,(i:Int)])::br p 108 #[.pointer (ae ⟨sp,0,ai⟩),.map (ae tb),.map (ae pb)]::cI sp ls::PtrMap tb (T.ks.map λK=>(K,T.pt K))::bR pb T.ps::br hb 43 (ints [s,g])::(l++T.ks.map (dI T)))) (BU.out _ rfl) ?_;clear k0 k1 k2 k3 o8 Dm BU;generalize w2.heap.size=lb;intro w3 fj;have s2:w3.cell? ⟨lb,0,ai⟩=ae (.int .i64 K):=fj.blk.cell 0;have hK2:((K.toNat:Nat):Int)=K:=by have:=TB.out;omega
   have nm:=J1 K.toNat k (by have:=TB.out;omega) tD;rw[hK2]at nm;have HK2:=af hK2;clear hK2;have fW:=af fj;clear fj;cases SD:K.toNat.testBit k with
   |true=>
    rw[SD]at nm;have h1:(bits BinOp.and IntKind.i64 (K / 2^k) 1==1)=aw:=by rw[nm];rfl
    have HTB:=af SD;clear nm SD
    go_upto_region 7 with(fail)
    clear h1;have fj:=fW.out;have hl3:=zO fj.fourth.fU xQ.out.mem TB.out (Below.refl _ _);have hl4:=zO fj.fourth.fU xQ.out.mem TB.out (Below.refl _ _).drew;have s1:w3.cell? ⟨p,1,ai⟩=ae (.map (ae tb)):=fj.swap.blk.cell 1;have s3:w3.cell? ⟨lb,1,ai⟩=ae (.int .i64 (i:Int)):=fj.blk.cell 1;have xr:=(bz.1 xQ.out.at_).1;have L5:=af (acG (In.Cw (X:=br lb 132 (ints [K,(i:Int)])::br p 108 #[.pointer (ae ⟨sp,0,ai⟩),.map (ae tb),.map (ae pb)]::cI sp ls::PtrMap tb (T.ks.map λK=>(K,T.pt K))::bR pb T.ps::br hb 43 (ints [s,g])::l) fj.drew xQ.out.mem) i xr (by have:=xQ.out.len;omega) k (abG tD HTB.out) tD n HN.out);have HSB:Hid (setB ((T.rw K)[i]'xr) k n=⟨(s,g),vD (cZ f s) k n⟩):=by
     have h0:=xQ.out.at_;rw[aq xr]at h0;injection h0 with h0
     unfold Hid setB vD;rw[h0,HKB.out,SU K.toNat k (by have:=TB.out;omega) tD HTB.out,HK2.out]
    rw[HSB.out]at L5;have Pt:=af (HT.out.acn xQ.out.mem xQ.out.at_ (Dt xQ.out.ok.1 xQ.out.ok.2 tD HN.out));clear fj HSB xr
    go_still_tail 11,(by kernel_rfl)
    change wpList _ _ _ _ _ w3.drew;clear hl3 hl4 s1 s2 s3 fW;generalize w3.drew=w4 at *
    go_wp2_with fail
    refine L5.out.mono ?_;rintro e w5 ⟨rfl,fD⟩;have j6:In G w0 (br lb 132 (ints [K,(i:Int)])::br p 108 #[.pointer (ae ⟨sp,0,ai⟩),.map (ae tb),.map (ae pb)]::cI sp ls::PtrMap tb (T.ks.map λK=>(K,T.pt K))::bR pb T.ps::br hb 43 (ints [s,g])::(l++T.ks.map (dI ⟨T.ks,T.pt,jC T.rw K ((T.rw K).set i ⟨(s,g),vD (cZ f s) k n⟩),T.ps⟩))) w5:=In.Xp (X:=br lb 132 (ints [K,(i:Int)])::br p 108 #[.pointer (ae ⟨sp,0,ai⟩),.map (ae tb),.map (ae pb)]::cI sp ls::PtrMap tb (T.ks.map λK=>(K,T.pt K))::bR pb T.ps::br hb 43 (ints [s,g])::l) HT.out.nd xQ.out.mem fD;have kh:=af (In.gC (l:=br hb 43 (ints [s,g])::l) Pt.out j6.drop);clear fD j6 L5
    go_wp2_with fail
    go_ret;rw[HR.out];exact⟨rfl,kh.out.swap.drop⟩
   |false=>
    rw[SD]at nm;have h1:(bits BinOp.and IntKind.i64 (K / 2^k) 1==1)=ay:=by rw[nm];rfl
    have HTB:=af SD;clear nm SD
    go_upto_region 8 with(fail)
    clear h1 s2;have gq:=In.gC (l:=br lb 132 (ints [K,(i:Int)])::br hb 43 (ints [s,g])::l) HT.out (fW.out.reorder 6 [1,2,3,4,0,5] rfl (by simp));have s4:row? w3 hb 0 2=ae (ints [s,g]):=gq.third.blk.bt rfl;have BT:=af (KE gq s g (cZ f s) (HK.out.get V4.out));have zJ:(cZ f s).list.length=9:=by unfold aQ.list;rw[aD,xQ.out.ok.2]
    clear gq fW
    go_wp2_with fail
    refine BT.out.mono ?_;rintro e w4 ⟨rfl,fD⟩;have ni:=af fD;clear fD BT
    go_upto_region 9 with(fail)
    refine bZ (In G w0 (br w4.heap.size 48 (ints (cZ f s).list)::dR p ls (ei f s ai)::br lb 132 (ints [K,(i:Int)])::br hb 43 (ints [s,g])::l)) (ni.out.struct 48 [0,0,0,0,0,0,0,0,0] _ zJ) ?_;generalize w4.heap.size=bb;intro w5 j6;have CX:(cZ f s).list=K::(cZ f s).v:=by unfold aQ.list;rw[HKB.out]
    have q1:w5.cell? ⟨bb,0,ai⟩=ae (.int .i64 K):=by rw[j6.blk.cell 0,CX];rfl
    have q2:w5.frozen? ⟨bb,0,ai⟩=ay:=j6.blk.frozen 0;have wx:=aeC K.toNat k (by have:=TB.out;omega) tD;rw[HK2.out]at wx;have xM:=j6.set 0 (.int .i64 ((K.toNat ||| 2^k:Nat):Int));rw[ints_set]at xM;have yA:(cZ f s).list.set 0 ((K.toNat ||| 2^k:Nat):Int)=((K.toNat ||| 2^k:Nat):Int)::(cZ f s).v:=by rw[CX];rfl
    rw[yA]at xM;have kh:=af xM;have HBP:Hid ((vD (cZ f s) k n).list=((K.toNat ||| 2^k:Nat):Int)::(cZ f s).v.set k n):=by unfold Hid vD aQ.list;rw[HKB.out]
    clear j6 xM yA CX ni
    go_region
    go_upto_region 10 with(fail)
    refine bZ (In G w0 (br bb 48 (ints (((K.toNat ||| 2^k:Nat):Int)::(cZ f s).v))::dR p ls (ei f s ai)::br lb 132 (ints [K,(i:Int)])::br hb 43 (ints [s,g])::l)) kh.out.drew ?_;clear q1 q2 wx kh s4;intro w6 mR;have q3:w6.frozen? ⟨bb,1+k,ai⟩=ay:=mR.blk.frozen (1+k);have q4:w6.cell? ⟨bb,1+k,ai⟩=ae (.int .i64 ((cZ f s).v.getD k 0)):=by
     have hk9:1+k<(((K.toNat ||| 2^k:Nat):Int)::(cZ f s).v).length:=by rw[aD,xQ.out.ok.2];omega
     rw[mR.blk.cell (1+k),ints_at hk9];simp[dA 1 k,aY,xQ.out.ok.2,tD]
    have o6:=mR.set (1+k) (.int .i64 n);rw[ints_set,dA 1 k,List.set_cons_succ,<-HBP.out,dA k 1]at o6;have IZ:(vD (cZ f s) k n).list.length=9:=by rw[HBP.out,aD,de,xQ.out.ok.2]
    have pw:=af o6;clear mR o6;have Yv:(0:Int)<=(k:Int):=by omega
    go_upto_region 11 with(fail)
    refine bZ (In G w0 (br bb 48 (ints (vD (cZ f s) k n).list)::dR p ls (ei f s ai)::br lb 132 (ints [K,(i:Int)])::br hb 43 (ints [s,g])::l)) pw.out ?_;clear q3 q4 pw;intro w7 iq;have q5:row? w7 bb 0 9=ae (ints (vD (cZ f s) k n).list):=iq.blk.bt IZ;have q6:row? w7 hb 0 2=ae (ints [s,g]):=iq.fourth.blk.bt rfl;have LS:=Dt xQ.out.ok.1 xQ.out.ok.2 tD HN.out;have GJ:=af (Qy iq.swap s g (vD (cZ f s) k n) (by unfold ei;rw[if_pos rfl]) ⟨LS.1,LS.2,xQ.out.slot⟩);rw[JI]at GJ;clear iq LS
    go_wp2_with fail
    refine GJ.out.mono ?_;rintro e w8 ⟨rfl,qw⟩;have vz:=af qw;clear qw GJ q5 q6
    go_wp2_with fail
    go_ret;rw[HR.out];exact⟨rfl,vz.out.swap.drop.swap.drop.swap.drop⟩
end
def SJ {k:Int}(h:0<=k/\k<=255):m8 k=k.toNat:=by unfold m8;omega
def QR {z:ZS}(hz:kI z){x:Hd}{was now:aQ}(hf:z.f x.1=ae (x.2,was))(hb:bI now=0){k:Nat}(hk:k<(kinds was.k.toNat).length):tV z.ls (ei z.f x.1 (ae (x.2,fy was now k))) x ((kinds was.k.toNat)[k]:Nat) (now.v.getD (kinds was.k.toNat)[k] 0)=(ei z.f x.1 (ae (x.2,fy was now (k+1))),0):=by
 have hl:eI z.ls x.1 x.2=aw:=(hz.w.lv _ _).2 ⟨was,hf⟩;have hm:=(jN was.k.toNat _).1 (bg hk);have hr:=((mU now hb).2 _ hm.1).2;unfold tV;rw[if_neg (by rw[hl];simp),if_neg (by omega)];have hbo:cZ (ei z.f x.1 (ae (x.2,fy was now k))) x.1=fy was now k:=by unfold cZ ei;rw[if_pos rfl];rfl
 rw[hbo,fw,EL (hz.w.bo _ _ _ hf).1 hk,Rx]
def Za {z:ZS}(hz:kI z){x:Hd}{was now:aQ}(hf:z.f x.1=ae (x.2,was))(hb:bI now=0): ∀k,k<=(kinds was.k.toNat).length->bI (fy was now k)=0/\(fy was now k).v.length=8:=by
 obtain⟨h1,h2⟩:=hz.w.bo _ _ _ hf;intro k
 induction k with
 |zero=>intro _;exact⟨h1,h2⟩
 |succ k ih=>intro hk;obtain⟨g1,g2⟩:=ih (by omega);have hm:=(jN was.k.toNat _).1 (bg (show k<(kinds was.k.toNat).length by omega));have hr:=((mU now hb).2 _ hm.1).2;rw[<-EL h1 (show k<(kinds was.k.toNat).length by omega)];exact Dt g1 g2 hm.1 hr
def UF {z:ZS}(hz:kI z){x:Hd}{was now:aQ}(hf:z.f x.1=ae (x.2,was))(hb:bI now=0){k:Nat}(hk:k<=(kinds was.k.toNat).length):pX z.ls (ei z.f x.1 (ae (x.2,fy was now k))):=hz.w.upd ((hz.w.lv _ _).2 ⟨was,hf⟩) (Za hz hf hb k hk)
section
variable {G:Nat->Prop} {w0 w:ah} {l:List bU} {p:Nat} {z:ZS}
def S8 (h:In G w0 (di p z::l) w)(hk:kI z)(x1 x2:Int)(was now:aQ)(hf:z.f x1=ae (x2,was))(hn:now.k=was.k)(hb:bI now=0)(hv:now.v.length=8)(SB: ∀j,j∉kinds was.k.toNat->now.v.getD j 0=was.v.getD j 0):Calls aj 38 #[ptr p,.agg #[.int .i64 x1,.int .i64 x2],.agg (ints was.list),.agg (ints now.list)] w λe w'=>e=.returned (.tuple #[])/\In G w0 (di p ⟨z.ls,ei z.f x1 (ae (x2,now)),z.B⟩::l) w':=by
 obtain⟨hwe,hw8⟩:=hk.w.bo _ _ _ hf;have hwk:=(mU was hwe).1;have HM8:Hid (eQ (m8 now.k)=eQ was.k.toNat):=by unfold Hid;rw[hn,SJ hwk]
 have L4:=af (QG hw8 hn hv SB);have y8:Hid (∀k,(Cg:k<(kinds was.k.toNat).length)->tV z.ls (ei z.f x1 (ae (x2,fy was now k))) (x1,x2) ((kinds was.k.toNat)[k]:Nat) (now.v.getD (kinds was.k.toNat)[k] 0)=(ei z.f x1 (ae (x2,fy was now (k+1))),0)):=λk Cg=>QR (x:=(x1,x2)) hk hf hb Cg
 have afz:Hid (∀k,(Cg:k<(kinds was.k.toNat).length)->now.v.getD (kinds was.k.toNat)[k] 0=was.v.getD (kinds was.k.toNat)[k] 0->fy was now (k+1)=fy was now k):=λk Cg he=>NI hw8 Cg he
 have ahv:Hid (∀k,k<=(kinds was.k.toNat).length->pX z.ls (ei z.f x1 (ae (x2,fy was now k)))):=λk Cg=>UF (x:=(x1,x2)) hk hf hb Cg
 have kZ:Hid (In G w0 (di p ⟨z.ls,ei z.f x1 (ae (x2,fy was now 0)),z.B⟩::l) w):=by have e:ei z.f x1 (ae (x2,fy was now 0))=z.f:=VC _ _ (by rw[hf];rfl);rw[e];exact h
 have zJ:was.list.length=9:=by simp[aQ.list,hw8]
 have hnl:now.list.length=9:=by simp[aQ.list,hv]
 have HV:=af hv;have HW8:=af hw8;clear h hk hf hn hb hv SB hwe hw8 hwk;generalize Uo:now.k=nk at *
 go_enter Tryz.func38,Tryz.ntmps38
 go_upto_region 1 with(fail)
 refine bZ (In G w0 (br (w.heap.size+1+1) 48 (ints now.list)::br (w.heap.size+1) 48 (ints was.list)::br w.heap.size 43 (ints [x1,x2])::di p ⟨z.ls,ei z.f x1 (ae (x2,fy was now 0)),z.B⟩::l)) (by have:=((kZ.out.alloc 43 (ints [x1,x2])).alloc 48 (ints was.list)).alloc 48 (ints now.list);simp only[dw]at this;exact this) ?_
 generalize w.heap.size+1+1=nb;generalize w.heap.size+1=wb;generalize w.heap.size=hb;intro w1 km;have c1:w1.cell? ⟨nb,0,ai⟩=ae (.int .i64 nk):=by rw[<-Uo];exact km.blk.cell 0
 have qB:=af km;clear km kZ Uo
 go_wp2_with fail
 refine(wD nk w1).mono ?_;rintro e w2 ⟨v,rfl,ho,gF⟩;rw[HM8.out]at ho;have gu:=af (In.xw qB.out ho gF);obtain⟨A2,c2,rfl,Aw⟩:=gu.out.oI;have hlen:(eQ was.k.toNat).length=(kinds was.k.toNat).length:=by simp[eQ]
 rw[hlen]at Aw gu|-;have fW:=af (gu.out.to5.perm (qK _));have hn8:=qF was.k.toNat;clear ho gF Aw gu qB c1 hlen HM8;generalize was.k.toNat=M at *;have iR:Hid (In G w0 (di p ⟨z.ls,ei z.f x1 (ae (x2,fy was now 0)),z.B⟩::fM (.slice A2 (kinds M).length c2) (eQ M)::br nb 48 (ints now.list)::br wb 48 (ints was.list)::br hb 43 (ints [x1,x2])::l) w2):=fW.out.reorder 5 [3,4,0,1,2] rfl (by simp);clear fW
 go_wp2_with fail
 go_loopw [14] (λi w'=> ∃k:Nat,k<=(kinds M).length/\i=.int .i64 k/\In G w0 (di p ⟨z.ls,ei z.f x1 (ae (x2,fy was now k)),z.B⟩::fM (.slice A2 (kinds M).length c2) (eQ M)::br nb 48 (ints now.list)::br wb 48 (ints was.list)::br hb 43 (ints [x1,x2])::l) w') (λi _=>(kinds M).length-(intOf i).toNat)
 case atStart=>exact⟨0,cE _,rfl,iR.out⟩
 case round=>
  clear iR;obtain⟨k,hk,rfl,hI⟩:=hrel;by_cases bJ:k<(kinds M).length
  ·have vI:(k:Int)<(kinds M).length:=by omega
   obtain⟨A',c',e0,hr⟩:=hI.swap.oI;have hlen:(eQ M).length=(kinds M).length:=by simp[eQ]
   rw[hlen]at e0 hr;injection e0 with e1 e2 e3
   subst e1;subst e3;obtain⟨bl,o,q,rfl,hc,vH,Yy,tD,Qi⟩:=wA hr bJ;have hq:(kinds M)[k]=q:=by rw[vH.out];simp[bB,bJ]
   have HP:=af (y8.out k bJ);have HS:=af (afz.out k bJ);have HWK:=af (ahv.out k hk);rw[hq]at HP HS;have hcn:wr.cell? ⟨nb,1+q,ai⟩=ae (.int .i64 (now.v.getD q 0)):=by rw[(hI.third.blk).cell,lg,dA];simp only[aQ.list,e8];rw[aq (by rw[HV.out];exact tD)];simp[bB,aq (show q<now.v.length by rw[HV.out];exact tD)]
   have hcw:wr.cell? ⟨wb,1+q,ai⟩=ae (.int .i64 (was.v.getD q 0)):=by rw[(hI.fourth.blk).cell,lg,dA];simp only[aQ.list,e8];rw[aq (by rw[HW8.out];exact tD)];simp[bB,aq (show q<was.v.length by rw[HW8.out];exact tD)]
   have hqi:(q:Int)<8:=by omega
   have HI:=af hI;clear hI hr e2 vH Yy Qi hq hlen;generalize hnv:now.v.getD q 0=nv at *;generalize hwv:was.v.getD q 0=wv at *;clear hnv hwv;have HCN:Hid (∀W,In G w0 (di p ⟨z.ls,ei z.f x1 (ae (x2,fy was now k)),z.B⟩::fM (.slice (ae ⟨bl,o,ai⟩) (kinds M).length c2) (eQ M)::br nb 48 (ints now.list)::br wb 48 (ints was.list)::br hb 43 (ints [x1,x2])::l) W->W.cell? ⟨nb,1+q,ai⟩=ae (.int .i64 nv)):=λW hW=>by
    have h1:wr.cell? ⟨nb,1+q,ai⟩=W.cell? ⟨nb,1+q,ai⟩:=by rw[HI.out.third.blk.cell,hW.third.blk.cell]
    rw[<-h1];exact hcn
   by_cases he:nv=wv
   ·have eb:(nv !=wv)=ay:=by simp[he]
    have HE:=af (HS.out he);clear HS HP he HCN;rw[<-HE.out]at HI
    go_wp2_with fail
    go_quiet (fail)
    go_wp2_with fail
    have fW:=HI.out.below (w':=wr.drewN nq) ⟨rfl,rfl,rfl,ax _,λ_ _=>rfl⟩
    go_roundw
    case rel=>exact⟨k+1,by omega,by go_num,fW⟩
    case measure=>simp[intOf];omega
   ·have eb:(nv !=wv)=aw:=by simp[he]
    clear HS he
    go_wp2_with fail
    go_quiet (fail)
    have fW:=af (HI.out.below (w':=wr.drewN nq) ⟨rfl,rfl,rfl,ax _,λ_ _=>rfl⟩);clear hcn hcw hc HI;generalize wr.drewN nq=w4 at *;have hcn:=HCN.out _ fW.out;obtain⟨wp,fp,m,hm,hf,ha,xM⟩:=fW.out.mC;have c0:w4.cell? ⟨p,0,ai⟩=ae (ptr wp):=xM.blk.cell 0;have qh:row? w4 hb 0 2=ae (ints [x1,x2]):=(xM.nth 6 (by simp)).blk.eJ 0 2 (by simp);have HM:=af hm;have kh:=af xM.swap;clear hm hf ha xM fW HCN
    go_upto_region 5 with(fail)
    go_still_tail 10,(by kernel_rfl)
    change wpList _ _ _ _ _ w4.drew;have oQ:=af kh.out.drew;clear kh c0 qh hcn;generalize w4.drew=w5 at *
    go_wp2_with fail
    refine(QS oQ.out HWK.out x1 x2 q nv).mono ?_;rintro e w6 ⟨rfl,o6⟩;rw[HP.out]at o6|-;have pw:Hid (In G w0 (di p ⟨z.ls,ei z.f x1 (ae (x2,fy was now (k+1))),z.B⟩::fM (.slice (ae ⟨bl,o,ai⟩) (kinds M).length c2) (eQ M)::br nb 48 (ints now.list)::br wb 48 (ints was.list)::br hb 43 (ints [x1,x2])::l) w6):=In.oc (z:=⟨z.ls,ei z.f x1 (ae (x2,fy was now (k+1))),z.B⟩) HM.out o6.swap;clear o6 oQ HP
    go_wp2_with fail
    go_roundw
    case rel=>exact⟨k+1,by omega,by go_num,pw.out⟩
    case measure=>simp[intOf];omega
  ·have:k=(kinds M).length:=by omega
   subst this;rw[L4.out]at hI;have HI:=af (hI.reorder 5 [1,2,3,4,0] rfl (by simp)).drop.drop.drop.drop;clear hI
   go_wp2_with fail
   go_end0
   exact⟨rfl,HI.out⟩
end
section
variable {G:Nat->Prop} {w0 w:ah} {l:List bU} {p:Nat} {ls:List (Int×Bool)} {f:BF}
def Sc (h:In G w0 (dR p ls f::l) w)(hk:pX ls f)(s g kind:Int):Calls aj 67 #[.pointer (ae ⟨p,0,ai⟩),.agg #[.int .i64 s,.int .i64 g],.int .i64 kind] w λe w'=>e=.returned (.int .i64 (q9 ls f (s,g) kind).2)/\In G w0 (dR p ls (q9 ls f (s,g) kind).1::l) w':=by
 have kZ:=af h;have HK:=af hk;clear h hk
 go_enter Tryz.func67,Tryz.ntmps67
 go_upto_region 1 with(fail)
 refine bZ (In G w0 (dR p ls f::br w.heap.size 43 (ints [s,g])::l)) (kZ.out.alloc 43 (ints [s,g])).swap ?_;generalize w.heap.size=hb;intro w1 km;obtain⟨sp,tb,pb,T,hT,hI⟩:=km.lz;obtain⟨F1,hS⟩:=hI.swap.head;have c0: ∀n:After w1,n.w.cell? ⟨p,0,ai⟩=ae (.pointer (ae ⟨sp,0,ai⟩)):=λn=>(hI.blk.after n.below).cell 0
 have c1: ∀n:After w1,row? n.w hb 0 2=ae (ints [s,g]):=λn=>(km.swap.blk.after n.below).bt rfl
 have HL:Hid (∀n:After w1,Calls aj 72 #[.pointer (ae ⟨sp,0,ai⟩),.agg (ints [s,g])] n.w λe w'=>e=.returned (.bool (eI ls s g))/\Below n.w.heap.size n.w w'):=λn=>tM sp ls F1 s g n.w (kM.after hS n.below)
 have HT:=af hT;have HI:=af hI;clear km hI hS hT kZ;cases pd:eI ls s g with
 |false=>
  have HR:Hid (q9 ls f (s,g) kind=(f,7)):=by unfold Hid q9;rw[if_pos (by simp[pd])]
  rw[pd]at HL;clear pd;refine bF (by kernel_rfl) (by kernel_rfl) ?_
  repeat(go_big_quiet_step ((go_at_call 72;exact ep (HL.out _))))
  refine wpQuiet_nil ?_;rintro _ ⟨na,rfl⟩;have gu:=af (In.gC (l:=br hb 43 (ints [s,g])::l) HT.out (HI.out.below na.below))
  go_wp2_with fail
  go_ret;rw[HR.out];exact⟨rfl,gu.out.swap.drop⟩
 |true=>
  have V4:=af pd;rw[pd]at HL;clear pd;refine bF (by kernel_rfl) (by kernel_rfl) ?_
  repeat(go_big_quiet_step ((go_at_call 72;exact ep (HL.out _))))
  refine wpQuiet_nil ?_;rintro _ ⟨na,rfl⟩;have gm:In G w0 (br p 108 #[.pointer (ae ⟨sp,0,ai⟩),.map (ae tb),.map (ae pb)]::cI sp ls::PtrMap tb (T.ks.map λK=>(K,T.pt K))::bR pb T.ps::br hb 43 (ints [s,g])::(l++T.ks.map (dI T))) na.w:=HI.out.below na.below;have gu:=af gm;generalize na.w=w2 at *;clear c0 c1 HL HI gm;by_cases vH:0<=kind/\kind<8
  rotate_left
  ·have HR:Hid (q9 ls f (s,g) kind=(f,1)):=by unfold Hid q9;rw[if_neg (by simp[V4.out]),if_pos vH]
   have RR:=af (I3 kind vH w2);clear vH;have fW:=af (In.gC (l:=br hb 43 (ints [s,g])::l) HT.out gu.out)
   go_wp2_with fail
   refine RR.out.mono ?_;rintro e w3 ⟨rfl,rfl⟩
   go_wp2_with fail
   go_ret;rw[HR.out];exact⟨rfl,fW.out.swap.drop⟩
  have RR:=af (EA kind vH w2);obtain⟨k,rfl⟩: ∃k:Nat,kind=k:=⟨kind.toNat,by omega⟩;have tD:k<8:=by omega
  have HR:Hid (q9 ls f (s,g) (k:Int)=if(cZ f s).k.toNat.testBit k=ay then(f,5)else(ei f s (ae (g,tk (cZ f s) k)),0)):=by unfold Hid q9;rw[if_neg (by simp[V4.out]),if_neg (λh=>h vH),fw]
  obtain⟨K,i,hLi⟩:=HT.out.agK HK.out V4.out;obtain⟨hKk,hKb⟩:=Am (In.Cw (X:=br p 108 #[.pointer (ae ⟨sp,0,ai⟩),.map (ae tb),.map (ae pb)]::cI sp ls::PtrMap tb (T.ks.map λK=>(K,T.pt K))::bR pb T.ps::br hb 43 (ints [s,g])::l) gu.out hLi.mem);have HKB:Hid ((cZ f s).k=K):=hKb _ (pM hLi.at_);rw[HKB.out]at HR;have xQ:=af hLi;have TB:=af hKk;have hkI:(k:Int)<8:=by omega
  go_wp2_with fail
  refine RR.out.mono ?_;rintro e w3 ⟨rfl,rfl⟩
  go_upto_region 5 with(fail)
  clear hLi hKk hKb vH RR;have gm:=gu.out;have pe:=gm.fourth.fU;have c0: ∀n:After w2,n.w.cell? ⟨p,2,ai⟩=ae (.map (ae pb)):=λn=>(gm.blk.after n.below).cell 2
  have c1: ∀n:After w2,n.w.cell? ⟨hb,0,ai⟩=ae (.int .i64 s):=λn=>(gm.fifth.blk.after n.below).cell 0
  have o8: ∀n:After w2,(j9 106 (.map (ae pb)) (.int .i64 s) ay).run aj n.w=.ok (.agg #[.int .i64 K,.int .i64 (i:Int)]) n.w:=λn=>rI pe xQ.out.slot xQ.out.place n.below
  have hfd: ∀W,(Instr.field 132 (.agg #[.int .i64 K,.int .i64 (i:Int)]) 0).run aj W=.ok (.int .i64 K) W:=λW=>by kernel_rfl
  have hK2:((K.toNat:Nat):Int)=K:=by have:=TB.out;omega
  have nm:=J1 K.toNat k (by have:=TB.out;omega) tD;rw[hK2]at nm;have HK2:=af hK2;clear hK2 gm pe;cases SD:K.toNat.testBit k with
  |false=>
   rw[SD]at nm HR;have h1:(bits BinOp.and IntKind.i64 (K / 2^k) 1==0)=aw:=by rw[nm];rfl
   clear nm SD;refine bF (by kernel_rfl) (by kernel_rfl) ?_
   repeat(go_big_quiet_step (fail))
   refine wpQuiet_nil ?_;rintro _ ⟨nb,rfl⟩;have fW:=af (In.gC (l:=br hb 43 (ints [s,g])::l) HT.out (gu.out.below nb.below));clear c0 c1 o8 gu
   go_wp2_with fail
   go_ret;rw[HR.out];exact⟨rfl,fW.out.swap.drop⟩
  |true=>
   rw[SD]at nm HR;have h1:(bits BinOp.and IntKind.i64 (K / 2^k) 1==0)=ay:=by rw[nm];rfl
   have HTB:=af SD;clear nm SD;refine bF (by kernel_rfl) (by kernel_rfl) ?_
   repeat(go_big_quiet_step (fail))
   refine wpQuiet_nil ?_;rintro _ ⟨nb,rfl⟩;have gq:=In.gC (l:=br hb 43 (ints [s,g])::l) HT.out (gu.out.below nb.below);generalize nb.w=w3 at *;clear c0 c1 o8 gu h1;have s4:row? w3 hb 0 2=ae (ints [s,g]):=gq.swap.blk.bt rfl;have BT:=af (KE gq s g (cZ f s) (HK.out.get V4.out));have zJ:(cZ f s).list.length=9:=by unfold aQ.list;rw[aD,xQ.out.ok.2]
   clear gq
   go_wp2_with fail
   refine BT.out.mono ?_;rintro e w4 ⟨rfl,fD⟩;have ni:=af fD;clear fD BT
   go_upto_region 8 with(fail)
   refine bZ (In G w0 (br w4.heap.size 48 (ints (cZ f s).list)::dR p ls (ei f s ai)::br hb 43 (ints [s,g])::l)) (ni.out.struct 48 [0,0,0,0,0,0,0,0,0] _ zJ) ?_;generalize w4.heap.size=bb;intro w5 j6;have CX:(cZ f s).list=K::(cZ f s).v:=by unfold aQ.list;rw[HKB.out]
   have q1:w5.cell? ⟨bb,0,ai⟩=ae (.int .i64 K):=by rw[j6.blk.cell 0,CX];rfl
   have q2:w5.frozen? ⟨bb,0,ai⟩=ay:=j6.blk.frozen 0;have wx:=Pz K.toNat k (by have:=TB.out;omega) tD HTB.out;rw[HK2.out]at wx;have xM:=j6.set 0 (.int .i64 ((K.toNat-2^k:Nat):Int));rw[ints_set]at xM;have HBP:Hid ((tk (cZ f s) k).list=((K.toNat-2^k:Nat):Int)::(cZ f s).v.set k 0):=by unfold Hid tk aQ.list;rw[HKB.out]
   generalize ((K.toNat-2^k:Nat):Int)=KN at *;have yA:(cZ f s).list.set 0 KN=KN::(cZ f s).v:=by rw[CX];rfl
   rw[yA]at xM;have kh:=af xM;clear j6 xM yA CX ni
   go_region
   go_upto_region 9 with(fail)
   refine bZ (In G w0 (br bb 48 (ints (KN::(cZ f s).v))::dR p ls (ei f s ai)::br hb 43 (ints [s,g])::l)) kh.out.drew ?_;clear q1 q2 wx kh s4;intro w6 mR;have q3:w6.frozen? ⟨bb,1+k,ai⟩=ay:=mR.blk.frozen (1+k);have q4:w6.cell? ⟨bb,1+k,ai⟩=ae (.int .i64 ((cZ f s).v.getD k 0)):=by
    have hk9:1+k<(KN::(cZ f s).v).length:=by rw[aD,xQ.out.ok.2];omega
    rw[mR.blk.cell (1+k),ints_at hk9];simp[dA 1 k,aY,xQ.out.ok.2,tD]
   have o6:=mR.set (1+k) (.int .i64 0);rw[ints_set,dA 1 k,List.set_cons_succ,<-HBP.out,dA k 1]at o6;have IZ:(tk (cZ f s) k).list.length=9:=by rw[HBP.out,aD,de,xQ.out.ok.2]
   have pw:=af o6;clear mR o6;have Yv:(0:Int)<=(k:Int):=by omega
   go_upto_region 10 with(fail)
   refine bZ (In G w0 (br bb 48 (ints (tk (cZ f s) k).list)::dR p ls (ei f s ai)::br hb 43 (ints [s,g])::l)) pw.out ?_;clear q3 q4 pw;intro w7 iq;have q5:row? w7 bb 0 9=ae (ints (tk (cZ f s) k).list):=iq.blk.bt IZ;have q6:row? w7 hb 0 2=ae (ints [s,g]):=iq.third.blk.bt rfl;have LS:=MI xQ.out.ok.1 xQ.out.ok.2 tD (by rw[HKB.out];exact HTB.out);have GJ:=af (Qy iq.swap s g (tk (cZ f s) k) (by unfold ei;rw[if_pos rfl]) ⟨LS.1,LS.2,xQ.out.slot⟩);rw[JI]at GJ;clear iq LS
   go_wp2_with fail
   refine GJ.out.mono ?_;rintro e w8 ⟨rfl,qw⟩;have vz:=af qw;clear qw GJ q5 q6
   go_wp2_with fail
   go_ret;rw[HR.out];exact⟨rfl,vz.out.swap.drop.swap.drop⟩
end
noncomputable def mF (m:kN)(a:Hd)(k:Nat):List Hd:=((kids m a).take k).flatMap λc=>c::under m c
def Lt (m:kN)(a:Hd)(k:Nat)(h:k<(kids m a).length):mF m a (k+1)=(mF m a k++[(kids m a)[k]])++under m (kids m a)[k]:=by unfold mF;rw[bh h,dG];simp
def CK (m:kN)(hm:kg m)(a:Hd):mF m a (kids m a).length=under m a:=by unfold mF;rw[dm,wW hm.nodup hm.yq]
def FC (m:kN)(hm:kg m)(a:Hd)(k:Nat):(mF m a k).length<=m.length:=by
 refine bM ?_ (BL hm.nodup hm.yq a);rw[<-CK m hm];unfold mF;rw[dm]
 conv=>rhs;rw[<-List.take_append_drop k (kids m a),dG]
 rw[aZ];omega
def od {G:Nat->Prop}{w0 w:ah}{l:List bU}{v u:ao}{cs ds:List Hd}{ops:Array Oper}{o:Oper}{a:Act}{K:Act->ah->Prop}{Q:Exit->Act->ah->Prop}{X:Prop}(sN:o.guard=ai)(s x:cG)(ho:o.op=.call {callee:=.builtin .append,args:= #[s,x],argTypes:= #[122,122]})(hI:In G w0 (iy v cs::iy u ds::l) w)(hs:a.eval s=v)(hx:a.eval x=u)(hl:cs.length+ds.length<=1099511627776)(h: ∀v' w',In G w0 (iy v' (cs++ds)::iy u ds::l) w'->K (a.put o.dst v') w'):if bu o (yielded ops a.tmps)=aw then Oper.wp aj o a w K Q else X:=by
 obtain⟨i0,qE,uM,sX,tH⟩:=info_parts lu;refine Dc sN s x 122 ho 43 i0 _ 2 16 Tryz.underlying122 qE uM sX tH rfl (by decide) hs hx hI.rowAt hI.swap.rowAt ?_ (by unfold maxLen;omega) (by omega) ?_
 ·intro c hc;obtain⟨d,_,hd⟩:=List.mem_flatMap.1 hc;simp[hC]at hd;rcases hd with rfl|rfl<;>rfl
 ·intro v' w' h1 h2 h3;have:=hI.aaR h1 h2 h3;rw[<-dG,<-aZ]at this;exact h v' w' this
def P4 {p:Nat}{m:kN}(hm:kg m)(hl:m.length<=1099511627776)(rk:Hd->Nat)(R:Nat)(hr:AB m rk R): ∀(n:Nat) (a:Hd) {G:Nat->Prop} {w0 w:ah} {l:List bU},R-rk a<n->In G w0 (j3 p m::l) w->Calls aj 129 #[.pointer (ae ⟨p,0,ai⟩),lf a] w λe w'=> ∃v,e=.returned v/\In G w0 (iy v (under m a)::j3 p m::l) w':=by
 intro n
 induction n with
 |zero=>intro a G w0 w l h;omega
 |succ n ih=>
  intro a G w0 w l hn h;have kZ:=af h;have IH:=af @ih;have HN:=af hn;have HR:=af hr;have HM:=af hm;clear h ih hn hr hm;obtain⟨a1,a2⟩:=a;rw[kX];obtain⟨i0,qE,uM,sX,tH⟩:=info_parts lu
  go_enter Tryz.func129,Tryz.ntmps129
  go_upto_region 2 with(fail)
  refine bZ (In G w0 (j3 p m::br w.heap.size 43 (ints [a1,a2])::l)) ((kZ.out.alloc 43 (ints [a1,a2])).swap) ?_;generalize w.heap.size=ab;intro w1 hI;have k1:row? w1 ab 0 2=ae (ints [a1,a2]):=hI.swap.blk.bt rfl;have qB:=af hI;clear hI kZ
  go_wp2_with fail
  refine(Kj qB.out (a1,a2) hl).mono ?_;rintro e w2 ⟨kv,rfl,gm⟩;obtain⟨kA,kc,rfl,_,_,_⟩:=o0 gm.rowAt;have hkl:=Y0 m (a1,a2);have gu:Hid (In G w0 (eD 43 2 (.slice ai 0 0) 0 []::iy (.slice kA (kids m (a1,a2)).length kc) (kids m (a1,a2))::j3 p m::br ab 43 (ints [a1,a2])::l) w2):=In.mN gm _ _;have HU:=af (CK m HM.out (a1,a2));clear gm qB k1
  go_wp2_with fail
  go_loopw [12,5] (λi out w'=> ∃k:Nat,k<=(kids m (a1,a2)).length/\i=.int .i64 k/\In G w0 (iy out (mF m (a1,a2) k)::iy (.slice kA (kids m (a1,a2)).length kc) (kids m (a1,a2))::j3 p m::br ab 43 (ints [a1,a2])::l) w') (λi _ _=>(kids m (a1,a2)).length-(intOf i).toNat)
  case atStart=>exact⟨0,cE _,rfl,gu.out⟩
  case round=>
   clear gu;obtain⟨k,hk,rfl,hI⟩:=hrel;have HI:=af hI;clear hI;by_cases bJ:k<(kids m (a1,a2)).length
   ·have vI:(k:Int)<(kids m (a1,a2)).length:=by omega
    obtain⟨A',c',e0,_,Un,fg⟩:=o0 HI.out.swap.rowAt;injection e0 with e1 e2 e3
    subst e1;subst e3;obtain⟨g,rfl,q1⟩:=fg k bJ;have HS:=af (Lt m (a1,a2) k bJ);have aht:Hid (dY m (kids m (a1,a2))[k]=ae (a1,a2)):=(lX HM.out.nodup).1 (bg bJ);have hle:=FC m HM.out (a1,a2) k;have ad':=FC m HM.out (a1,a2) (k+1);rw[HS.out]at ad';have agl:((kids m (a1,a2)).length:Int)<=kc:=by omega
    clear fg e2;generalize (kids m (a1,a2))[k]=c at *;obtain⟨c1,c2⟩:=c;have YB:=BL HM.out.nodup HM.out.yq (c1,c2);simp only[aZ,aD,aP]at ad'
    go_upto_region 5 with(fail)
    refine bZ (In G w0 (br wr.heap.size 43 (ints [c1,c2])::iy u5 (mF m (a1,a2) k)::iy (.slice (ae ⟨g,0,ai⟩) (kids m (a1,a2)).length kc) (kids m (a1,a2))::j3 p m::br ab 43 (ints [a1,a2])::l)) (HI.out.struct 43 [0,0] [c1,c2] rfl) ?_;generalize wr.heap.size=cb;intro w3 fj;have q2:row? w3 cb 0 2=ae #[.int .i64 c1,.int .i64 c2]:=fj.blk.bt (xs:=[c1,c2]) rfl;have fW:Hid (In G w0 (j3 p m::iy u5 (mF m (a1,a2) k)::br cb 43 (ints [c1,c2])::iy (.slice (ae ⟨g,0,ai⟩) (kids m (a1,a2)).length kc) (kids m (a1,a2))::br ab 43 (ints [a1,a2])::l) w3):=(fj.fourth).perm (((cJ _ _ _)).cons _);clear fj q1;have hRk:R-rk (c1,c2)<n:=by have h1:=HR.out _ _ aht.out;have h2:=HN.out;omega
    have o8:(mF m (a1,a2) k).length+1<=1099511627776:=by omega
    have Dm:(mF m (a1,a2) k++[(c1,c2)]).length+(under m (c1,c2)).length<=1099511627776:=by rw[aZ];simp;omega
    have adt:Hid (∀(L:List bU) (W:ah),In G w0 L W->In G w0 (iy (.slice (ae ⟨W.heap.size,0,ai⟩) 1 1) [(c1,c2)]::L) (W.alloc (.cells #[.int .i64 c1,.int .i64 c2] 43))):=λL W h=>h.aex 43 [.int .i64 c1,.int .i64 c2]
    have sA:row? (w3.alloc (.cells #[.int .i64 c1,.int .i64 c2] 43)) cb 0 2=ae #[.int .i64 c1,.int .i64 c2]:=(fW.out.third.blk.after ((Below.refl _ _).alloc (ax _) _)).bt (xs:=[c1,c2]) rfl;have HSA:=af sA;have HL1:=af o8;have HL2:=af Dm;have HRK:=af hRk;clear sA o8 Dm hRk hle ad' YB;generalize tC:mF m (a1,a2) k=cs at *
    go_region_held3 (λW=>row? W cb 0 2=ae #[.int .i64 c1,.int .i64 c2]) (first|assumption|exact HSA.out|go_keep)
     (first
       |(go_at_call 129;refine(IH.out (c1,c2) HRK.out fW.out.drew).mono ?_;rintro e w4 ⟨uv,rfl,gq⟩;have s4:row? w4 cb 0 2=ae #[.int .i64 c1,.int .i64 c2]:=gq.fourth.blk.bt (xs:=[c1,c2]) rfl;have H4:=af gq;clear gq)
       |(go_at_call 129;refine(IH.out (c1,c2) HRK.out (adt.out _ _ fW.out.drew).swap).mono ?_;rintro e w4 ⟨uv,rfl,gq⟩;have s4:row? w4 cb 0 2=ae #[.int .i64 c1,.int .i64 c2]:=gq.fifth.blk.bt (xs:=[c1,c2]) rfl;have H4:=af gq;clear gq)
       |(go_at_call 129;refine(IH.out (c1,c2) HRK.out H5.out.third).mono ?_;rintro e w4 ⟨uv,rfl,gq⟩;have s4:row? w4 cb 0 2=ae #[.int .i64 c1,.int .i64 c2]:=gq.fifth.blk.bt (xs:=[c1,c2]) rfl;have H4:=af gq;clear gq)
       |(refine od (by rfl) (.tmp 16) (.tmp 18) (by rfl) (adt.out _ _ fW.out.drew).third (by rfl) (by rfl) HL1.out ?_;intro v1 w5 fD;have s5:row? w5 cb 0 2=ae #[.int .i64 c1,.int .i64 c2]:=fD.fourth.blk.bt (xs:=[c1,c2]) rfl;have H5:=af fD;clear fD)
       |(refine od (by rfl) (.tmp 16) (.tmp 18) (by rfl) (adt.out _ _ H4.out).fourth (by rfl) (by rfl) HL1.out ?_;intro v1 w5 fD;have s5:row? w5 cb 0 2=ae #[.int .i64 c1,.int .i64 c2]:=fD.fifth.blk.bt (xs:=[c1,c2]) rfl;have H5:=af fD;clear fD)
       |(refine od (by rfl) (.tmp 16) (.tmp 18) (by rfl) H4.out.fourth.fourth.swap (by rfl) (by rfl) HL1.out ?_;intro v1 w5 fD;have s5:row? w5 cb 0 2=ae #[.int .i64 c1,.int .i64 c2]:=fD.fifth.blk.bt (xs:=[c1,c2]) rfl;have H5:=af fD;clear fD)
       |(refine od (by rfl) (.tmp 19) (.tmp 22) (by rfl) H5.out.swap.drop (by rfl) (by rfl) HL2.out ?_;intro v2 w6 j6;have s6:row? w6 cb 0 2=ae #[.int .i64 c1,.int .i64 c2]:=j6.fourth.blk.bt (xs:=[c1,c2]) rfl;have H6:=af j6;clear j6)
       |(refine od (by rfl) (.tmp 19) (.tmp 22) (by rfl) H4.out.third.fourth.drop (by rfl) (by rfl) HL2.out ?_;intro v2 w6 j6;have s6:row? w6 cb 0 2=ae #[.int .i64 c1,.int .i64 c2]:=j6.fourth.blk.bt (xs:=[c1,c2]) rfl;have H6:=af j6;clear j6))
    all_goals
     have kh:Hid (In G w0 (iy v2 (cs++[(c1,c2)]++under m (c1,c2))::iy (.slice (ae ⟨g,0,ai⟩) (kids m (a1,a2)).length kc) (kids m (a1,a2))::j3 p m::br ab 43 (ints [a1,a2])::l) w6):=H6.out.swap.drop.third.drop.third.swap;rw[<-HS.out]at kh;clear H6
     go_wp2_with fail
     go_roundw
     case rel=>exact⟨k+1,by omega,by go_num,kh.out⟩
     case measure=>simp[intOf];omega
   ·have:k=(kids m (a1,a2)).length:=by omega
    subst this;rw[HU.out]at HI
    go_wp2_with fail
    go_ret;exact⟨_,rfl,(HI.out.swap.drop.third.drop)⟩
end
section
open Rel
open Go.Conc Go.ConcN
open Go.Conc.Lib (addFn waitFn)
open Go.ConcR (Payload WgAt stA)
open Go.ConcR.Gen (body_wait body_add nm_add nm_wait)
open Go.RowKit
section
variable {φ:Ph} {Fin:(Nat->Prop)->au->ah->Prop} {μ:Nat->Prop} {w:ah} {r:Nat}
def sS {AnchW:(Nat->Prop)->au->ah->Prop}{g g':au}(gI: ∀(Stop:au->ah->Prop) (m:Nat),φ.GP μ Stop m g' w->φ.GP μ Stop (m+1) g w)(h:φ.Spawns (φ.Fin AnchW) r μ g' w):φ.Spawns (φ.Fin AnchW) r μ g w:=by
 cases r with
 |zero=>obtain⟨m,h⟩:=h;exact⟨m+1,gI _ _ h⟩
 |succ r=>obtain⟨m,h⟩:=h;exact⟨m+1,gI _ _ h⟩
end
noncomputable def Em:Code:=match ra with| .seq _ (.seq (.seq _ (.block _ (.loop x))) _)=>x|_=>.skip
noncomputable def FF:Code:=match ra with| .seq _ (.seq _ x)=>x|_=>.skip
structure EF (φ:Ph) (wp:ah) (w:ah):Prop where
 Z6: ∀b,φ.Std b->w.heap[b]? =wp.heap[b]?
 pay: ∀b,φ.CB b->fL w b=fL wp b
 size:wp.heap.size<=w.heap.size
 os:w.os=wp.os
 output:w.output=wp.output
structure EH0 (φ:Ph) (wp:ah) (bn bf:Nat) (jf:bK) (caps:Array ao):Prop where
 O:φ.Ok
 hP:φ.P=aj
 Hk:φ.ty=189
 hz:φ.z=.int .i64 0
 Yu: ∀p,p<φ.nj-> ∃n,φ.jv p=.int .i64 n
 rn:φ.oS bn
 rf:φ.oS bf
 cn:wp.cell? ⟨bn,0,ai⟩=ae (.chan (ae φ.Ch))
 cf:wp.cell? ⟨bf,0,ai⟩=ae (.func (.func jf) #[] caps)
 hJ:DT φ wp jf caps
 rs: ∀b,φ.oS b->φ.Std b
 lt: ∀b,φ.Std b\/φ.CB b\/b=φ.Wg->b<wp.heap.size
section
variable {φ:Ph} {wp w az:ah} {bn bf:Nat} {jf:bK} {caps:Array ao} {μ:Nat->Prop} {cs:List bp} {r:Nat}
def EF.mr (h:EF φ wp w)(m:φ.MR μ w az):EF φ wp az:=⟨λb hb=>(m.Z6 b hb).trans (h.Z6 b hb),λb hb=>(m.pay b hb).trans (h.pay b hb),bM h.size m.size,m.os.trans h.os,m.output.trans h.output⟩
def EF.al (H:EH0 φ wp bn bf jf caps)(h:EF φ wp w)(m:Ph.Al w az):EF φ wp az:=by have hs:=h.size;refine⟨λb hb=>(m.rest b (by have:=H.lt b (.inl hb);omega)).trans (h.Z6 b hb),λb hb=> ?_,bM h.size m.size,m.os.trans h.os,m.output.trans h.output⟩;unfold fL;rw[m.rest b (by have:=H.lt b (.inr (.inl hb));omega)];exact h.pay b hb
def EF.wg (H:EH0 φ wp bn bf jf caps)(h:EF φ wp w)(a:Addr)(ha:a.block=φ.Wg)(v:ao):EF φ wp (w.setCell a v):=by
 have blk: ∀b,b≠φ.Wg->(w.setCell a v).heap[b]? =w.heap[b]?:=λb hb=>Below.heap_setCell w a v b (by rw[ha];exact hb)
 refine⟨λb hb=>(blk b λe=>H.O.ag7 (e▸hb)).trans (h.Z6 b hb),λb hb=> ?_,by simpa using h.size,(show(w.setCell a v).os=w.os by unfold dJ;split<;>rfl).trans h.os,(show(w.setCell a v).output=w.output by unfold dJ;split<;>rfl).trans h.output⟩;unfold fL;rw[blk b λe=>H.O.Wb (e▸hb)];exact h.pay b hb
end
noncomputable def BN (n nj:Int)(fv:ao)(N Wg:Nat)(t7 t10 t13 t14 t15 t16 t17 t18:ao):bp:=(base 47).at ⟨xS n nj fv N t7 (.pointer (ae ⟨Wg,0,ai⟩)) t10 (.int .i64 nj) (.int .i64 nj) t13 t14 t15 t16 t17 t18 (.int .i64 n) (.int .i64 n) (.bool ay) (.func (.func 105) #[] #[.pointer (ae ⟨N+2,0,ai⟩),.pointer (ae ⟨N,0,ai⟩)]) (.tuple #[]) (.int .i64 n) undef,[]⟩ [.inRegion (match FF with| .region _ ops _=>ops|_=> #[]) [0]]
section
variable {φ:Ph} {wp:ah} {N n nj:Nat} {fv:ao} {jf:bK} {caps:Array ao} {cs:List bp} {t7 t10 t13 t14 t15 t16 t17 t18:ao}
def Rk (H:EH0 φ wp (N+2) N jf caps)(hn0:1<=n)(hn:n<=8): ∀(r:Nat),r<=n-> ∀(μ:Nat->Prop) (w:ah) (t21 t22 t23 t24:ao),(r<n->t22=.func (.func 105) #[] #[.pointer (ae ⟨N+2,0,ai⟩),.pointer (ae ⟨N,0,ai⟩)]/\t23=.tuple #[]/\t24=.int .i64 ((n-r:Nat):Int))->EF φ wp w->WgLive φ.ty φ.Wg w->φ.Spawns (φ.Fin λ_=>Ic φ lH (EF φ wp) (BN n nj fv N φ.Wg t7 t10 t13 t14 t15 t16 t17 t18) cs) r μ (G ((base 47).at ⟨xS n nj fv N t7 (.pointer (ae ⟨φ.Wg,0,ai⟩)) t10 (.int .i64 nj) (.int .i64 nj) t13 t14 t15 t16 t17 t18 (.int .i64 n) (.int .i64 ((n-r:Nat):Int)) t21 t22 t23 t24 undef,[]⟩ [.code Em,.inLoop Em,.inBlock 2,.code FF]) cs) w:=by
 have L:Go.Conc.Lib.WgLib φ.P lH:=H.hP▸aal;have hP:=H.hP;intro r
 induction r with
 |zero=>
  intro _ μ w t21 t22 t23 t24 ht hF hl;obtain⟨rfl,rfl,rfl⟩:=ht (by omega);refine⟨100,?_⟩;simp only[Em,BN,FF,ra,k9,xS,Tryz.f47,bT,Nat.sub_zero];refine cH ?_;refine bw ?_;refine El (.bool ay) rfl rfl (by simp[base]) (λ_ _=>by go_simp) (λ_ _=>by simp[go_sem, *]) ?_;walk_nrm;refine dg ?_;refine cH ?_;refine jm rfl ?_;refine Sl rfl ?_;refine bw ?_;refine qv (c:=body_wait lH) rfl rfl (by simp[base]) rfl L.f_wait (nm_wait lH) rfl ?_;refine Goes.mono (n:=3) ?_ (by omega);have hW:=λb₀ a₀ ops₀ i₀ rest₀ k₀=>Rz (φ:=φ) (μ:=μ) (L:=lH) (F:=EF φ wp) (AnchW:=λ_=>Ic φ lH (EF φ wp) (Frame.at b₀ a₀ (.inRegion ops₀ (i₀::rest₀)::k₀)) cs) (b₀:=b₀) (a₀:=a₀) (ops₀:=ops₀) (i₀:=i₀) (rest₀:=rest₀) (k₀:=k₀) (cs:=cs) L (λ_ _ m h=>h.mr m) (λg w h=>h) w ⟨hF,hl⟩
  have yZ:(waitFn lH).ntmps=84:=rfl;simp only[yZ,bX,List.map_toArray,eN,List.map_nil,bH,List.getElem?_toArray,e8,List.getElem?_cons_zero,bT,aV,aD,aP,Nat.reduceAdd,Nat.reduceSub];exact hW _ _ _ _ _ _
 |succ r ih=>
  intro hr μ w t21 t22 t23 t24 ht hF hl;clear ht;have bJ:(((n-(r+1):Nat):Int))<n:=by omega
  have kJ:=hF.size;have abk:=H.lt φ.Wg (.inr (.inr rfl));refine⟨100,?_⟩;simp only[Em,ra,k9,xS,Tryz.f47,bT];refine cH ?_;refine bw ?_;refine El (.bool aw) rfl rfl (by simp[base]) (λ_ _=>by go_simp) (λ_ _=>by simp[go_sem, *]) ?_;walk_nrm;refine dg ?_;refine cH ?_;refine la rfl ?_;refine kW ?_;refine cH ?_;refine zF ?_;refine bw ?_;refine El (.func (.func 105) #[] #[.pointer (ae ⟨N+2,0,ai⟩),.pointer (ae ⟨N,0,ai⟩)]) rfl rfl (by simp[base]) (λ_ _=>by go_simp) (λ_ _=>by simp[go_sem, *]) ?_;walk_nrm;have hf1:φ.P.funcs[104]? =ae Tryz.f104:=by rw[hP];exact Tryz.func104
  refine qv rfl rfl (by simp[base]) rfl hf1 rfl rfl ?_;have yZ:Tryz.f104.ntmps=7:=rfl;simp only[yZ,bX,List.map_toArray,eN,List.map_nil,bH,List.getElem?_toArray,e8,List.getElem?_cons_zero,bT,aV,aD,aP,Nat.reduceAdd,Nat.reduceSub];simp only[dD,dE,ez,dT,cy,dF];refine cH ?_;refine bw ?_;refine Goes.stop (λaz dp=> ?_);have Wd:=hF.mr dp;have o8:=dp.live hl;have C2:=Wd.size;clear dp hF hl kJ;have LM:Ph.Al az (az.alloc (.cells #[.pointer (ae ⟨φ.Wg,0,ai⟩)] 232)):=⟨λb hb=>Below.heap_alloc az _ b hb,by simp,rfl,rfl,rfl⟩;refine⟨rfl,_,az.alloc (.cells #[.pointer (ae ⟨φ.Wg,0,ai⟩)] 232),_,stepG_value (v:=.pointer (ae ⟨az.heap.size,0,ai⟩)) rfl rfl (by simp[base]) (by rw[hP];go_simp),LM,λe he=>by have hm:=mem_listed he;rw[hP]at hm;simp[go_sem, *]at hm,100,?_⟩;have xW:=Wd.al H LM;have Dm:WgLive φ.ty φ.Wg (az.alloc (.cells #[.pointer (ae ⟨φ.Wg,0,ai⟩)] 232)):=let⟨st,sm,h⟩:=o8;⟨st,sm,(LM.rest φ.Wg (by omega)).trans h⟩;have c1:(az.alloc (.cells #[.pointer (ae ⟨φ.Wg,0,ai⟩)] 232)).heap[az.heap.size]? =ae (.cells #[.pointer (ae ⟨φ.Wg,0,ai⟩)] 232):=heap_alloc_new az _;have m1:vk μ az (az.alloc (.cells #[.pointer (ae ⟨φ.Wg,0,ai⟩)] 232)) az.heap.size:=.inr ⟨ax _,by simp⟩;have z1:wp.heap.size<=az.heap.size:=C2;generalize vk μ az (az.alloc (.cells #[.pointer (ae ⟨φ.Wg,0,ai⟩)] 232))=μ1 at *;generalize az.alloc (.cells #[.pointer (ae ⟨φ.Wg,0,ai⟩)] 232)=w2 at *;generalize lJ:az.heap.size=b1 at *;clear LM Wd o8 C2 lJ;clear az;walk_nrm;refine Goes.stop (λaz dp=> ?_);have Wd:=xW.mr dp;have o8:=dp.live Dm;have C2:=Wd.size;have c1':=(dp.own b1 m1).trans c1;clear dp xW Dm c1;have LM:Ph.Al az (az.alloc (.cells #[.func (.func 105) #[] #[.pointer (ae ⟨N+2,0,ai⟩),.pointer (ae ⟨N,0,ai⟩)]] 1)):=⟨λb hb=>Below.heap_alloc az _ b hb,by simp,rfl,rfl,rfl⟩;refine⟨rfl,_,az.alloc (.cells #[.func (.func 105) #[] #[.pointer (ae ⟨N+2,0,ai⟩),.pointer (ae ⟨N,0,ai⟩)]] 1),_,stepG_value (v:=.pointer (ae ⟨az.heap.size,0,ai⟩)) rfl rfl (by simp[base]) (by rw[hP];go_simp),LM,λe he=>by have hm:=mem_listed he;rw[hP]at hm;simp[go_sem, *]at hm,200,?_⟩;have xW:=Wd.al H LM;have Dm:WgLive φ.ty φ.Wg (az.alloc (.cells #[.func (.func 105) #[] #[.pointer (ae ⟨N+2,0,ai⟩),.pointer (ae ⟨N,0,ai⟩)]] 1)):=let⟨st,sm,h⟩:=o8;⟨st,sm,(LM.rest φ.Wg (by omega)).trans h⟩;have lt1:b1<az.heap.size:=(aI.1 c1').1;have c1:(az.alloc (.cells #[.func (.func 105) #[] #[.pointer (ae ⟨N+2,0,ai⟩),.pointer (ae ⟨N,0,ai⟩)]] 1)).heap[b1]? =ae (.cells #[.pointer (ae ⟨φ.Wg,0,ai⟩)] 232):=(LM.rest b1 lt1).trans c1';have c2:(az.alloc (.cells #[.func (.func 105) #[] #[.pointer (ae ⟨N+2,0,ai⟩),.pointer (ae ⟨N,0,ai⟩)]] 1)).heap[az.heap.size]? =ae (.cells #[.func (.func 105) #[] #[.pointer (ae ⟨N+2,0,ai⟩),.pointer (ae ⟨N,0,ai⟩)]] 1):=heap_alloc_new az _;have m1':vk μ1 az (az.alloc (.cells #[.func (.func 105) #[] #[.pointer (ae ⟨N+2,0,ai⟩),.pointer (ae ⟨N,0,ai⟩)]] 1)) b1:=.inl m1;have m2:vk μ1 az (az.alloc (.cells #[.func (.func 105) #[] #[.pointer (ae ⟨N+2,0,ai⟩),.pointer (ae ⟨N,0,ai⟩)]] 1)) az.heap.size:=.inr ⟨ax _,by simp⟩;clear m1;generalize vk μ1 az (az.alloc (.cells #[.func (.func 105) #[] #[.pointer (ae ⟨N+2,0,ai⟩),.pointer (ae ⟨N,0,ai⟩)]] 1))=μ2 at *;generalize az.alloc (.cells #[.func (.func 105) #[] #[.pointer (ae ⟨N+2,0,ai⟩),.pointer (ae ⟨N,0,ai⟩)]] 1)=w2 at *;have z2:wp.heap.size<=az.heap.size:=C2;generalize hC:az.heap.size=C at *;clear LM Wd o8 C2 hC c1';clear az;walk_nrm;refine dg ?_;refine cH ?_;refine bw ?_;refine abg (.pointer (ae ⟨φ.Wg,0,ai⟩)) rfl rfl (by simp[base]) (λaz dp=>by
   have hc:az.cell? ⟨b1,0,ai⟩=ae (.pointer (ae ⟨φ.Wg,0,ai⟩)):=by unfold c8;simp only[dp.own b1 m1',c1];rfl
   rw[hP];go_simp) (λaz dp e he=>by
   have hc:az.cell? ⟨b1,0,ai⟩=ae (.pointer (ae ⟨φ.Wg,0,ai⟩)):=by unfold c8;simp only[dp.own b1 m1',c1];rfl
   rw[hP]at he;simp[go_sem, *]at he;subst he;exact .inr (.inr ⟨rfl,b1,rfl,.inl m1'⟩)) ?_
  walk_nrm;refine qv (c:=body_add lH) rfl rfl (by simp[base]) rfl L.f_add (nm_add lH) rfl ?_;have yZ:(addFn lH).ntmps=117:=rfl;simp only[yZ,bX,List.map_toArray,eN,List.map_nil,bH,List.getElem?_toArray,e8,List.getElem?_cons_zero,bT,aV,aD,aP,Nat.reduceAdd,Nat.reduceSub];have hA:=λb₀ a₀ ops₀ i₀ rest₀ k₀ cs' hT=>aaP (φ:=φ) (μ:=μ2) (L:=lH) (F:=λw=>EF φ wp w/\w.heap[b1]? =ae (.cells #[.pointer (ae ⟨φ.Wg,0,ai⟩)] 232)/\w.heap[C]? =ae (.cells #[.func (.func 105) #[] #[.pointer (ae ⟨N+2,0,ai⟩),.pointer (ae ⟨N,0,ai⟩)]] 1))
   (Next:=φ.Spawns (φ.Fin λ_=>Ic φ lH (EF φ wp) (BN n nj fv N φ.Wg t7 t10 t13 t14 t15 t16 t17 t18) cs) r) (b₀:=b₀) (a₀:=a₀) (ops₀:=ops₀) (i₀:=i₀) (rest₀:=rest₀) (k₀:=k₀) (cs:=cs') (mT:=20) L H.Hk
   (λw w' m h=>⟨h.1.mr m,(m.own b1 m1').trans h.2.1,(m.own C m2).trans h.2.2⟩)
   (λw v h=>⟨h.1.wg H (stA φ.Wg) rfl v,(Below.heap_setCell w (stA φ.Wg) v b1 (by simp[stA];omega)).trans h.2.1,(Below.heap_setCell w (stA φ.Wg) v C (by simp[stA];omega)).trans h.2.2⟩) hT w2 ⟨⟨xW,c1,c2⟩,Dm⟩
  refine Goes.mono (n:=100) ?_ (by omega);refine hA _ _ _ _ _ _ _ ?_;clear hA;intro w ⟨hF,c1,c2⟩ hl;walk_nrm;refine dg ?_;refine bw ?_;refine El (.func (.func 154) #[] #[.pointer (ae ⟨b1,0,ai⟩),.pointer (ae ⟨C,0,ai⟩)]) rfl rfl (by simp[base]) (λ_ _=>by go_simp) (λ_ _=>by simp[go_sem, *]) ?_;walk_nrm;refine Goes.stop (λaz dp=> ?_);have Wd:=hF.mr dp;have o8:=dp.live hl;have d1:=(dp.own b1 m1').trans c1;have d2:=(dp.own C m2).trans c2;have e1:=(aI.1 d1).1;have e2:=(aI.1 d2).1;clear dp hF hl c1 c2;have hK:WK φ wp b1 C (.func (.func 105) #[] #[.pointer (ae ⟨N+2,0,ai⟩),.pointer (ae ⟨N,0,ai⟩)]) ⟨λb=>b=b1\/b=C,λ_=>False,False⟩ az:=by
   refine⟨.inl rfl,.inr rfl,by unfold c8;simp only[d1];rfl,d2,λb hb=>Wd.Z6 b (H.rs b hb),Wd.pay,o8,λx hx=> ?_,Wd.size,λi hi=>hi.elim⟩;have Pk:wp.heap.size<=x/\x<az.heap.size:=by rcases hx with rfl|rfl<;>omega
   exact⟨λhc=>by have:=H.lt x (.inr (.inl hc));omega,λhc=>by have:=H.lt x (.inl (H.rs x hc));omega,λe=>by have:=H.lt x (.inr (.inr e));omega,Pk.2⟩
  have Pj: ∀(ops:Array Oper) (i:Nat) (o:Oper) (a:Act) (rest:List Nat) (k:List Item) (cs:List bp),ops[i]? =ae o->bu o (yielded ops a.tmps)=aw->o.op=.go {callee:=.value (.tmp 6),args:= #[],argTypes:= #[]}->a.eval (.tmp 6)=.func (.func 154) #[] #[.pointer (ae ⟨b1,0,ai⟩),.pointer (ae ⟨C,0,ai⟩)]->
   stepG φ.P aw (G ((base 104).at a (.inRegion ops (i::rest)::k)) cs) az=.spawn (G ((base 104).at (a.put o.dst undef) (.inRegion ops rest::k)) cs) (born φ.P (p8 154 #[.pointer (ae ⟨b1,0,ai⟩),.pointer (ae ⟨C,0,ai⟩)] #[])) az #[]:=by
   intro ops i o a rest k cs ho hw hop hu;have hr:(execOp a.eval o).run φ.P az=.ok (.spawn (p8 154 #[.pointer (ae ⟨b1,0,ai⟩),.pointer (ae ⟨C,0,ai⟩)] #[])) az:=by unfold execOp;simp[hop,resolve,ic,hu,p8]
   have he:(execOp a.eval o).events φ.P az #[]= #[]:=by unfold execOp;simp[hop,resolve,ic,hu]
   rw[stepG_spawn ho hw (by simp[base]) hr rfl];congr 1;unfold listed;rw[he,seen_none]
  refine⟨rfl,_,_,λb=>b=b1\/b=C,Pj _ _ _ _ _ _ _ rfl rfl rfl rfl,(by rintro b (rfl|rfl)<;>assumption),aap H.O H.hP H.Hk H.hz H.Yu H.rn H.rf H.cn H.cf H.hJ hK,?_⟩;clear Pj hK;generalize (λb=>μ2 b/\ ¬(λb=>b=b1\/b=C) b)=μ3;walk_nrm;refine sS (λ_ _=>dg) ?_;refine sS (λ_ _=>abf) ?_;refine sS (λ_ _ h=>tz rfl rfl hf1 rfl h) ?_;walk_nrm;refine sS (λ_ _=>dg) ?_;refine sS (λ_ _=>Ek) ?_;refine sS (λ_ _=>AU rfl) ?_;simp only[aV,aD,aP,Nat.reduceAdd,bS,bP,cu];have YR:IntKind.i64.wrap (((n-(r+1):Nat):Int)+1)=((n-r:Nat):Int):=by rw[IntKind.wrap_i64];omega
  refine sS (λ_ _ h=>El (.int .i64 ((n-r:Nat):Int)) rfl rfl (by simp[base]) (λ_ _=>by go_simp) (λ_ _=>by simp[go_sem, *]) h) ?_;walk_nrm;refine sS (λ_ _ h=>El (.int .i64 ((n-r:Nat):Int)) rfl rfl (by simp[base]) (λ_ _=>by go_simp) (λ_ _=>by simp[go_sem, *]) h) ?_;walk_nrm;refine sS (λ_ _=>dg) ?_;refine sS (λ_ _=>IL) ?_;exact ih (by omega) μ3 az _ _ _ _ (λ_=>⟨rfl,rfl,rfl⟩) Wd o8
end
end
section
open Rel
open Go.Conc Go.ConcN
open Go.ConcR (Payload WgAt stA)
open Go.RowKit
noncomputable def zu (n nj:Int)(fv:ao)(N Wg:Nat)(t7 t10 t13 t14 t15 t16 t17 t18:ao):bp:=(base 47).at ⟨xS n nj fv N t7 (.pointer (ae ⟨Wg,0,ai⟩)) t10 (.int .i64 nj) (.int .i64 nj) t13 t14 t15 t16 t17 t18 (.int .i64 n) (.int .i64 n) (.bool ay) (.func (.func 105) #[] #[.pointer (ae ⟨N+2,0,ai⟩),.pointer (ae ⟨N,0,ai⟩)]) (.tuple #[]) (.int .i64 n) (.tuple #[]),[]⟩ [.inRegion (match FF with| .region _ ops _=>ops|_=> #[]) []]
structure Pv where
 CB:Nat->Prop
 jl:Nat->Addr->Prop
 J0:Nat->ah->Prop
 JP:(Nat->Prop)->Nat->ah->Prop
structure Pv.Ok (J:Pv):Prop where
 nw: ∀i a,J.jl i a->J.CB a.block
 EC: ∀i i' a,J.jl i a->J.jl i' a->i=i'
 jp: ∀(o:Nat->Prop) (w az:ah) (i:Nat),(∀b,o b->az.heap[b]? =w.heap[b]?)->(∀a,J.jl i a->az.cell? a=w.cell? a)->J.JP o i w->J.JP o i az
 j0: ∀(w az:ah) (i:Nat),(∀a,J.jl i a->az.cell? a=w.cell? a)->J.J0 i w->J.J0 i az
 Ba: ∀(o o':Nat->Prop) (w:ah) (i:Nat),(∀b,o b->o' b)->J.JP o i w->J.JP o' i w
noncomputable def KW (J:Pv)(N n nj lo:Nat)(Shun:Nat->Prop):Ph where
 P:=aj
 ty:=189
 Wg:=N+3
 Ch:=N+1
 n:=n
 nj:=nj
 lo:=lo
 jv:=λp=>.int .i64 p
 z:=.int .i64 0
 oS:=λb=>(b<N+4/\b≠N+1/\b≠N+3/\ ¬J.CB b)/\ ¬Shun b
 Std:=λb=>b<N+4/\b≠N+1/\b≠N+3/\ ¬J.CB b
 CB:=J.CB
 jl:=J.jl
 J0:=J.J0
 JP:=J.JP
def aeD {J:Pv}(K:J.Ok){N n nj lo:Nat}{Shun:Nat->Prop}(xq: ∀b,J.CB b->b<N)(LR:0<lo)(hn:n<=8):(KW J N n nj lo Shun).Ok:=by
 refine⟨by simp[KW],λh=>h.1.2.2.1 rfl,λh=>h.1.2.1 rfl,λh=> ?_,λh=> ?_,λb h hr=>hr.1.2.2.2 h,λh=>h.2.2.1 rfl,λh=>h.2.1 rfl,λb h hr=>hr.2.2.2 h,K.nw,K.EC,K.jp,K.j0,K.Ba,LR,by show n<_;omega⟩
 ·have:=xq _ h;simp[KW]at this;omega
 ·have:=xq _ h;simp[KW]at this;omega
structure JU (CB:Nat->Prop) (w w':ah):Prop where
 old: ∀b,b<w.heap.size-> ¬CB b->w'.heap[b]? =w.heap[b]?
 shape: ∀b,CB b->fL w' b=fL w b
 size:w.heap.size<=w'.heap.size
 os:w'.os=w.os
 output:w'.output=w.output
 tape:w'.tape=w.tape
section
variable {c:gj} {Post:ao->ah->Prop} {b:bp} {a:Act} {k:List Item} {cs:List bp} {ops:Array Oper} {i:Nat} {rest:List Nat} {o:Oper} {w:ah} {x0 x1 x2:cG} {uz:Array aA} {n nj:Nat} {jf:bK} {caps:Array ao} {J:Pv} {NR:Nat->Prop}
def aa0 (hold:c.old<=w.heap.size)(ho:ops[i]? =ae o)(hw:bu o (yielded ops a.tmps)=aw)(hb:b.kind=.normal)(hop:o.op=.call {callee:=.value (.func 47),args:= #[x0,x1,x2],argTypes:=uz})(h0:a.eval x0=.int .i64 n)(h1:a.eval x1=.int .i64 nj)(h2:a.eval x2=.func (.func jf) #[] caps)(hn0:1<=n)(hn:n<=8)(hnj:nj<=1000)(K:J.Ok)(xq: ∀b,J.CB b->b<w.heap.size)(aek: ∀π,Rel.Sub π->(∀l,π l l-> ∃o,w.heap[l]? =ae o/\kV c.sig π o o)->DR c π (b.at a (.inRegion ops (i::rest)::k))->(∀r,NR r->π r r)/\ ∀r,J.CB r->π r r)(hNR: ∀r,NR r-> ¬J.CB r)(P': ∀p,p<nj->J.J0 p w)(M': ∀(φ:Ph) (wp:ah),φ.Ok->φ.P=aj->φ.nj=nj->(∀p,φ.jv p=.int .i64 p)->φ.CB=J.CB->φ.jl=J.jl->φ.J0=J.J0->φ.JP=J.JP->(∀r,NR r->φ.oS r)->(∀r,r<w.heap.size->wp.heap[r]? =w.heap[r]?)->Tryz.prog.globals.size<=wp.heap.size->(∀r,φ.oS r\/φ.CB r\/r=φ.Wg->r<wp.heap.size)->DT φ wp jf caps)(si: ∀w',JU J.CB w w'->(∀p,p<nj-> ∃o:Nat->Prop,(∀r,o r->w.heap.size+4<=r/\r<w'.heap.size)/\J.JP o p w')-> ∃V:Nat->Prop,(∀r,V r->w.heap.size+4<=r/\r<w'.heap.size)/\(∀r,J.CB r\/V r-> ∃o,w'.heap[r]? =ae o/\kV c.sig (only V) o o)/\CY aj c Post (G (b.at (a.put o.dst (.tuple #[])) (.inRegion ops rest::k)) cs) w'):CY aj c Post (G (b.at a (.inRegion ops (i::rest)::k)) cs) w:=by
 refine aa1 hold ho hw hb hop Tryz.func47 rfl rfl ?_;rw[enter_at _ Tryz.func47 rfl];have pZ:(#[x0,x1,x2].map a.eval)= #[.int .i64 n,.int .i64 nj,.func (.func jf) #[] caps]:=by simp[h0,h1,h2]
 rw[pZ];have yZ:Tryz.f47.ntmps=26:=rfl;simp only[yZ,aV,aD,aP,Nat.reduceAdd,Nat.reduceSub];refine XU (w0:=w) (n:=n) (nj:=nj) (fv:=.func (.func jf) #[] caps) (by omega) rfl ?_;intro w6 t7 t10 t13 t14 t15 t16 t17 t18 h6;simp only[ra,k9,xS,Tryz.f47,bT];have s6:=h6.size;refine pR ?_;refine lr ?_;simp only[aV,aD,aP,Nat.reduceAdd,bS,bP,cu];have Nn: ∀tp d,(dH w6 tp d).heap.size=w.heap.size+3:=λ_ _=>s6
 refine EY.step (w':=w6.alloc (.cells #[.int .u64 0,.int .u32 0] 189)) (Bm':=w6.heap.size) rfl (λtp d=>⟨_,stepG_value (v:=.pointer (ae ⟨w.heap.size+3,0,ai⟩)) rfl rfl (by simp[base]) (by have hs:=Nn tp d;go_simp;rfl),λe he=>by have hm:=mem_listed he;simp[go_sem, *]at hm⟩) (λr hr=>Below.heap_alloc w6 _ r (by omega)) (by simp) (ax _) (by simp) ?_;walk_nrm;have hB:w6.heap.size<=(w6.alloc (.cells #[.int .u64 0,.int .u32 0] 189)).heap.size:=by simp
 have s7:(w6.alloc (.cells #[.int .u64 0,.int .u32 0] 189)).heap.size=w.heap.size+4:=by simp[s6]
 have b7: ∀r,r<w.heap.size+3->(w6.alloc (.cells #[.int .u64 0,.int .u32 0] 189)).heap[r]? =w6.heap[r]?:=λr hr=>Below.heap_alloc w6 _ r (by omega)
 have c7:(w6.alloc (.cells #[.int .u64 0,.int .u32 0] 189)).heap[w.heap.size+3]? =ae (.cells #[.int .u64 0,.int .u32 0] 189):=by rw[<-s6];exact heap_alloc_new w6 _
 have o7:(w6.alloc (.cells #[.int .u64 0,.int .u32 0] 189)).os=w6.os/\(w6.alloc (.cells #[.int .u64 0,.int .u32 0] 189)).output=w6.output:=⟨rfl,rfl⟩;generalize w6.alloc (.cells #[.int .u64 0,.int .u32 0] 189)=w7 at *;rw[s6]at hB;rw[s6];refine EY.ctl rfl (λ_=>stepG_region_end) hB ?_;refine EY.ctl rfl (λ_=>stepG_seq) hB ?_;refine EY.ctl rfl (λ_=>stepG_seq) hB ?_;refine EY.ctl rfl (λ_=>stepG_region) hB ?_;simp only[aV,aD,aP,Nat.reduceAdd,bS,bP,cu];refine EY.step (w':=w7) (Bm':=w.heap.size+3) rfl (λtp d=>⟨_,stepG_value (v:=.int .i64 n) rfl rfl (by simp[base]) (by go_simp),λe he=>by have hm:=mem_listed he;simp[go_sem, *]at hm⟩) (λ_ _=>rfl) (ax _) (ax _) hB ?_;walk_nrm;refine EY.step (w':=w7) (Bm':=w.heap.size+3) rfl (λtp d=>⟨_,stepG_value (v:=.int .i64 0) rfl rfl (by simp[base]) (by go_simp),λe he=>by have hm:=mem_listed he;simp[go_sem, *]at hm⟩) (λ_ _=>rfl) (ax _) (ax _) hB ?_;walk_nrm;refine EY.ctl rfl (λ_=>stepG_region_end) hB ?_;refine EY.ctl rfl (λ_=>stepG_block) hB ?_;refine EY.ctl rfl (λ_=>stepG_loop) hB ?_;intro tp d π gs sl q t Shun B hBB h;have hN4:(dH w7 tp d).heap.size=w.heap.size+4:=s7;have hold: ∀r,r<w.heap.size->w7.heap[r]? =w.heap[r]?:=λr hr=>(b7 r (by omega)).trans (h6.old r hr)
 obtain⟨xY,KA⟩:=aek π h.sub (λl hl=>by obtain⟨o,o',e1,e2,e3⟩:=h.hp.obj l l hl;have:=h.inn l hl;rw[e1]at e2;cases e2;exact⟨o,(hold l this).symm.trans e1,e3⟩) (h.fr _ (by simp))
 have O:=aeD (N:=w.heap.size) (n:=n) (nj:=nj) (lo:=gs.size) (Shun:=Shun) K xq h.co.pos hn;have ad3: ∀r,Shun r->r<w.heap.size:=h.sh;have bJ: ∀r,(KW J w.heap.size n nj gs.size Shun).Std r\/(KW J w.heap.size n nj gs.size Shun).CB r\/r=(KW J w.heap.size n nj gs.size Shun).Wg->r<(dH w7 tp d).heap.size:=by
  intro r hr;rw[hN4];rcases hr with hr|hr|hr
  ·exact hr.1
  ·have:=xq r hr;omega
  ·subst hr;simp[KW]
 have rd3: ∀r,r=w.heap.size\/r=w.heap.size+2->(KW J w.heap.size n nj gs.size Shun).oS r:=λr hr=>⟨⟨by omega,by omega,by omega,λhc=>by have:=xq r hc;omega⟩,λhs=>by have:=ad3 r hs;omega⟩
 have H:EH0 (KW J w.heap.size n nj gs.size Shun) (dH w7 tp d) (w.heap.size+2) w.heap.size jf caps:=by
  refine⟨O,rfl,rfl,rfl,λp _=>⟨_,rfl⟩,rd3 _ (.inr rfl),rd3 _ (.inl rfl),?_,?_,?_,λr hr=>hr.1,bJ⟩
  ·show w7.cell? _=_;unfold c8;simp only[b7 (w.heap.size+2) (by omega),h6.cn]
   rfl
  ·show w7.cell? _=_;unfold c8;simp only[b7 w.heap.size (by omega),h6.cf]
   rfl
  ·refine M' _ _ O rfl rfl (λ_=>rfl) rfl rfl rfl rfl (λr hr=> ?_) (λr hr=>hold r hr) h.hp.oE λr hr=> ?_
   ·have:=h.inn r (xY r hr);exact⟨⟨by omega,by omega,by omega,hNR r hr⟩,h.Tp r (xY r hr)⟩
   ·rcases hr with hr|hr
    ·exact bJ r (.inl hr.1)
    ·exact bJ r (.inr hr)
 have L:Go.Conc.Lib.WgLib (KW J w.heap.size n nj gs.size Shun).P lH:=aal;have hE0:EF (KW J w.heap.size n nj gs.size Shun) (dH w7 tp d) (dH w7 tp d):=⟨λ_ _=>rfl,λ_ _=>rfl,ax _,rfl,rfl⟩;have hW0:WgAt 189 (w.heap.size+3) (dH w7 tp d) 0 0:=c7;have Pj:=Rk (φ:=KW J w.heap.size n nj gs.size Shun) (wp:=dH w7 tp d) (N:=w.heap.size) (n:=n) (nj:=nj) (fv:=.func (.func jf) #[] caps) (cs:=b.at a (.inRegion ops (i::rest)::k)::cs) (t7:=t7) (t10:=t10) (t13:=t13) (t14:=t14) (t15:=t15) (t16:=t16) (t17:=t17) (t18:=t18) H hn0 hn n (ax _) (λ_=>False) (dH w7 tp d) undef undef undef undef (λhh=>absurd hh (Nat.lt_irrefl _)) hE0 ⟨0,0,hW0⟩
 rw[Nat.sub_self]at Pj;simp only[Em,FF,ra,k9,xS,Tryz.f47,bT]at Pj;refine QP (φ:=KW J w.heap.size n nj gs.size Shun) (Goal:=λg w'=>g=G (zu n nj (.func (.func jf) #[] caps) w.heap.size (w.heap.size+3) t7 t10 t13 t14 t15 t16 t17 t18) (b.at a (.inRegion ops (i::rest)::k)::cs)/\EF (KW J w.heap.size n nj gs.size Shun) (dH w7 tp d) w') O ?_ ?_ (by exact hBB) h.co rfl (λr hr=>⟨bJ r (.inl hr.1),hr.2⟩) (λr hr=>bJ r (.inl hr)) (λr hr=>⟨bJ r (.inr (.inl hr)),h.Tp r (KA r hr)⟩) (by rw[hN4];simp[KW]) (by rw[hN4];simp[KW]) hW0 ?_ (λp hp=> ?_) h.g0 hn0 Pj ?_
 ·rintro μ g w' ⟨T,rfl,_⟩;rfl
 ·intro μ g w' hA;refine Ry (μ:=μ) (L:=lH) (F:=EF (KW J w.heap.size n nj gs.size Shun) (dH w7 tp d)) (b₀:=base 47) (i₀:=0) (rest₀:=[]) (k₀:=[]) (mT:=0) L rfl (λ_ _ m hh=>hh.mr m) (λw a v ha hh=>hh.wg H a ha v) ?_ g w' hA;intro w2 xW _;refine Goes.stop λw3 h3=>⟨rfl,?_,xW.mr h3⟩
  rfl
 ·obtain⟨s,r,tm,vG⟩:=h6.ch;exact⟨cE _,nj,s,r,tm,(b7 _ (by simp[KW])).trans vG⟩
 ·exact K.j0 w (dH w7 tp d) p (λad uK=>by have:=xq _ (K.nw p ad uK);show w7.cell? ad=_;unfold c8;rw[hold _ this]) (P' p hp)
 ·rintro tA w' y6 q' t' a' yY Av ⟨rfl,zG⟩ ahX tG hjp;rw[hN4]at tG hjp;have ahR:JU J.CB w (dH w' w.tape w.drawn):=by refine⟨λr hr hc=>(zG.Z6 r ⟨by omega,by omega,by omega,hc⟩).trans (hold r hr),λr hr=>(zG.pay r hr).trans ?_,by show w.heap.size<=w'.heap.size;omega,zG.os.trans (o7.1.trans h6.os),zG.output.trans (o7.2.trans h6.output),rfl⟩;show fL w7 r=_;unfold fL;rw[hold r (xq r hr)]
  obtain⟨V,hV1,hV2,hcy⟩:=si (dH w' w.tape w.drawn) ahR λp hp=>by obtain⟨o,ho1,ho2⟩:=hjp p hp;exact⟨o,ho1,K.jp o w' (dH w' w.tape w.drawn) p (λ_ _=>rfl) (λ_ _=>rfl) ho2⟩
  have Qb:EH aj c w'.heap.size (b.at a (.inRegion ops (i::rest)::k)::cs) (grow π V) (λr=>Shun r\/r=w.heap.size+3) w'.heap.size tA q' t' (G (zu n nj (.func (.func jf) #[] caps) w.heap.size (w.heap.size+3) t7 t10 t13 t14 t15 t16 t17 t18) (b.at a (.inRegion ops (i::rest)::k)::cs)) (dH w' w.tape w.drawn):=by
   have SA: ∀r,grow π V r r->r<w'.heap.size/\ ¬(Shun r\/r=w.heap.size+3):=by
    rintro r ⟨_,hr⟩;rcases hr with hr|hr
    ·have:=h.inn r hr;exact⟨by omega,λhs=>hs.elim (h.Tp r hr) λe=>by omega⟩
    ·have:=hV1 r hr;exact⟨this.2,λhs=>hs.elim (λx=>by have:=ad3 r x;omega) λe=>by omega⟩
   refine⟨Yb _ _,cz.grown (P:=aj) (CB:=J.CB) h.sub ⟨h.hp.ok,h.hp.obj,h.hp.oE,h.hp.uB,h.hp.old⟩ (by show w7.heap.size<=w'.heap.size;omega) (λr hr hc=> ?_) hV2 (λad x hx=> ?_),λr hr=>(SA r hr).2,λr hr=>(SA r hr).1,λr hr=>hr.elim (λx=>by have:=ad3 r x;omega) λe=>by omega,ax _,ax _,ahX,yY,λr hr=>hr.elim (h.old r) λe=>by have:=h.QL;omega,by have:=h.QL;omega,λfr oi=>(h.fr fr oi).mono (MZ (P:=aj) h.sub)⟩
   rotate_left
   ·have h1:=c.KL ad x hx;have h2:=h.QL;exact⟨λhv=>by have:=hV1 _ hv;omega,zG.Z6 ad.block ⟨by omega,by omega,by omega,λhc=>(h.hp.old ad x hx).1 _ (KA _ hc)⟩⟩
   exact(zG.Z6 r ⟨by have:=h.inn r hr;omega,by have:=h.inn r hr;omega,by have:=h.inn r hr;omega,hc⟩)
  have hk:EY aj c Post w'.heap.size (b.at a (.inRegion ops (i::rest)::k)::cs) w'.heap.size (G (zu n nj (.func (.func jf) #[] caps) w.heap.size (w.heap.size+3) t7 t10 t13 t14 t15 t16 t17 t18) (b.at a (.inRegion ops (i::rest)::k)::cs)) (dH w' w.tape w.drawn):=by
   unfold zu;refine EY.ctl rfl (λ_=>stepG_region_end) (ax _) ?_;refine EY.ctl rfl (λ_=>stepG_end) (ax _) ?_;refine EY.ctl (g':=G (b.at (a.put o.dst (.tuple #[])) (.inRegion ops rest::k)) cs) rfl (λw=> ?_) (ax _) ?_
   ·rw[stepG_leave rfl rfl Tryz.func47 (results_none rfl _ _ w) (events_results_none rfl _ _),nL,ho]
    rfl
   ·refine adS (λbQ oi=> ?_) hcy;have abn:=λfr Ul=>oi fr Ul
    exact zD (x:=.inRegion ops (i::rest)::k) (λfr hx=>oi fr hx) o.dst (.inl (.tuple rfl (by simp)))
  exact hk w'.tape w'.drawn _ tA y6 q' t' _ w'.heap.size (ax _) Qb
end
end
end Go.Proofs.YtknejlcijdngoaaGreat
