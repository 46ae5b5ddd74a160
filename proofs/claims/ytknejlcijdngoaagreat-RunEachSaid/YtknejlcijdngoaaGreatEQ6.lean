/- Several texts in one, made short by a program of mine. -/
import Derived.Test.YtknejlcijdngoaaGreatEQ5
import Derived.Sort.Grow
import Derived.Conc.TokenWalk
set_option linter.unusedVariables false
set_option linter.unusedSimpArgs false
set_option linter.unusedSectionVars false
set_option maxHeartbeats 16000000
set_option maxRecDepth 100000
open Array renaming getElem?_modify→bw,getElem?_setIfInBounds_ne→aO,getElem?_setIfInBounds_self_of_lt→aW,replicate→eh,replicate_succ→dR,replicate_zero→dS
open Bool renaming and_eq_true→aM,eq_iff_iff→nJ,not_eq_true'→oa,or_eq_true→iU,false→aw,true→aA
open Go renaming Frame→bm,FuncId→bQ,Goroutine→ay,Program→aS,TypeId→aF,Value→aq,World→ah
open Go.Act renaming eval→bV
open Go.Frame renaming finish_at→mV
open Go.Instr renaming loadAt→dN,lookup→lj,storeAt→eM
open Go.Lib renaming hid→af
open Go.MemAct renaming ofEvent→cN,touch?→r6
open Go.Result renaming andThen_ok→gP
open Go.Sem renaming run_bind→eo
open Go.Value renaming cells→iy,int→aZ,oneCell'→jm,ownBlock→fK
open Go.World renaming block_lt_of_cell?→qV,cell?→c8,cell?_of_block→c9,setCell→dA,setChan→pB,size_alloc→cQ
open Int renaming toNat_natCast→dL
open List renaming any_eq_true→kB,append_assoc→dn,append_nil→eN,append_toArray→ec,cons_append→dJ,eq_nil_of_length_eq_zero→gg,ext_getElem?→lJ,find?_cons→nK,flatMap_append→eI,flatMap_cons→cM,foldl_append→oc,getD→bp,getD_eq_getElem?_getD→bq,getElem?_cons_succ→eO,getElem?_eq_getElem→ao,getElem?_eq_none→je,getElem?_eq_some_iff→bH,getElem?_map→dK,getElem?_set→gh,getElem?_take→gN,getElem_mem→aU,length_append→bM,length_cons→aj,length_nil→ax,length_set→ew,map_append→dX,map_congr_left→dy,map_cons→fA,mem_append→iV,mem_cons→cy,mem_cons_of_mem→lK,mem_filter→cu,mem_iff_getElem→dp,mem_map→aN,mem_of_getElem?→oX,mem_of_mem_take→oY,mem_range→mD,mem_singleton→eC,mem_toArray→pz,mergeSort_perm→iG,nil_append→cL,not_mem_nil→jo,pairwise_iff_getElem→jc,push_toArray→eX,range→aG,range'→fP,size_toArray→au,take_append_drop→nQ,take_length→cD,take_of_length_le→cI,take_succ_eq_append_getElem→aR
open List.Perm renaming append_left→dE,refl→pW,swap→cB
open List.range renaming loop→aB
open Nat renaming add_comm→dt,add_zero→kW,le_refl→az,le_trans→bP,lt_of_lt_of_le→bX,strongRecOn→l7,zero_add→aC,zero_le→bS
open Option renaming bind_eq_some_iff→cR,bind_some→rM,getD_some→bI,map_eq_some_iff→aK,map_some→eY,none→ai,some→ae
open Option.some renaming injEq→dz
open Or renaming inl→br,inr→bR
namespace Go.Proofs.YtknejlcijdngoaaGreat
section
open Go.RowKit
def rQ (x y:Int):Int:=if x<y then-1 else if y<x then 1 else 0
def K5 (a b:Hd):Int:=if rQ a.1 b.1=0 then rQ a.2 b.2 else rQ a.1 b.1
theorem sw (x y:Int):rQ x y<0↔x<y:=by
 unfold rQ
 split
 ·simp_all
 ·split<;>simp_all
theorem Gj (x y:Int):rQ x y=0↔x=y:=by
 unfold rQ
 split
 ·simp;omega
 ·split
  ·simp;omega
  ·simp;omega
theorem uU (a b:Hd):decide (K5 a b<0)=hLt a b:=by
 unfold K5 hLt;rw[nJ];simp only[decide_eq_true_eq,iU,aM]
 split
 ·rename_i h
  have:=(Gj _ _).1 h;rw[sw];omega
 ·rename_i h
  rw[sw];have:a.1≠b.1:=λe=>h ((Gj _ _).2 e)
  omega
theorem GV (x:Int)(w:ah):Calls Tryz.prog 151 #[.int .i64 x] w λe w'=>e=.returned (.bool aw)/\w=w':=by
 go_enter Tryz.func151,Tryz.ntmps151
 go_wp2_with fail
 go_ret;exact⟨dv (by simp),rfl⟩
theorem xD (x y:Int)(w:ah):Calls Tryz.prog 99 #[.int .i64 x,.int .i64 y] w λe w'=>e=.returned (.int .i64 (rQ x y))/\w=w':=by
 have HX:Hid (x<y->rQ x y= -1):=λh=>by unfold rQ;rw[if_pos h]
 have HY:Hid (¬x<y->y<x->rQ x y=1):=λh h'=>by unfold rQ;rw[if_neg h,if_pos h']
 have HZ:Hid (¬x<y-> ¬y<x->rQ x y=0):=λh h'=>by unfold rQ;rw[if_neg h,if_neg h']
 go_enter Tryz.func99,Tryz.ntmps99
 go_wp2_with fail
 refine(GV x w).mono ?_;rintro e w' ⟨rfl,rfl⟩
 go_wp2_with fail
 refine(GV y w).mono ?_;rintro e w' ⟨rfl,rfl⟩;by_cases h1:x<y
 ·go_wp2_with fail
  go_ret;exact⟨eF (HX.out h1).symm,rfl⟩
 ·by_cases h2:y<x
  ·go_wp2_with fail
   go_ret;exact⟨eF (HY.out h1 h2).symm,rfl⟩
  ·go_wp2_with fail
   go_ret;exact⟨eF (HZ.out h1 h2).symm,rfl⟩
theorem Sy (b:Nat)(x y:Int)(w:ah)(h0:w.cell? ⟨b,0,ai⟩=ae (.int .i64 x))(h1:w.cell? ⟨b,1,ai⟩=ae (.int .i64 y)):Calls Tryz.prog 143 #[.slice (ae ⟨b,0,ai⟩) 2 2] w λe w'=>e=.returned (.int .i64 (if x=0 then y else x))/\w=w':=by
 have HX:Hid (¬x=0->(if x=0 then y else x)=x):=λh=>by rw[if_neg h]
 have HY:Hid (x=0->(if x=0 then y else x)=y):=λh=>by rw[if_pos h]
 generalize (if x=0 then y else x)=r at *
 go_enter Tryz.func143,Tryz.ntmps143
 go_wp2_with fail
 go_loopw [8] (λi w'=> ∃k:Nat,k<=2/\i=.int .i64 k/\(0<k->x=0)/\(1<k->y=0)/\w=w') (λi _=>2-(intOf i).toNat)
 case atStart=>exact⟨0,by omega,rfl,λh=>by omega,λh=>by omega,rfl⟩
 case round=>
  obtain⟨k,hk,rfl,ha,hb,rfl⟩:=hrel;have HA:=af ha;have HB:=af hb;clear ha hb
  match k,hk with
  |0,_=>
   by_cases hx:x=0
   ·have HX0:=af hx;have hd:(x !=0)=aw:=by simp[hx]
    clear hx
    go_wp2_with fail
    go_roundw
    case rel=>exact⟨1,by omega,rfl,λ_=>HX0.out,λh=>by omega,trivial⟩
    case measure=>simp[intOf]
   ·have HX0:=af hx;have hd:(x !=0)=aA:=by simp[hx]
    clear hx
    go_wp2_with fail
    go_ret;exact⟨eF (HX.out HX0.out).symm,rfl⟩
  |1,_=>
   by_cases hx:y=0
   ·have HX0:=af hx;have hd:(y !=0)=aw:=by simp[hx]
    clear hx
    go_wp2_with fail
    go_roundw
    case rel=>exact⟨2,by omega,rfl,λ_=>HA.out (by omega),λ_=>HX0.out,trivial⟩
    case measure=>simp[intOf]
   ·have hd:(y !=0)=aA:=by simp[hx]
    clear hx
    go_wp2_with fail
    go_ret;exact⟨eF (HY.out (HA.out (by omega))).symm,rfl⟩
  |2,_=>
   go_wp2_with fail
   go_ret;exact⟨eF (by rw[HY.out (HA.out (by omega))];exact(HB.out (by omega)).symm),rfl⟩
theorem AY (a b:Hd)(w:ah):Calls Tryz.prog 80 #[nw a,nw b] w λe w'=>e=.returned (.int .i64 (K5 a b))/\ ∃q os,w'=Sort.grow (w.drewN q) os:=by
 obtain⟨a1,a2⟩:=a;obtain⟨b1,b2⟩:=b;have HR:Hid (K5 (a1,a2) (b1,b2)=if rQ a1 b1=0 then rQ a2 b2 else rQ a1 b1):=rfl;rw[jV,jV]
 go_enter Tryz.func80,Tryz.ntmps80
 go_upto_region 1 with(fail)
 have c1:((w.alloc (.cells #[.int .i64 a1,.int .i64 a2] 43)).alloc (.cells #[.int .i64 b1,.int .i64 b2] 43)).cell? ⟨w.heap.size,0,ai⟩=ae (.int .i64 a1):=((dq.new w _ _).alloc _).cell 0;have c2:((w.alloc (.cells #[.int .i64 a1,.int .i64 a2] 43)).alloc (.cells #[.int .i64 b1,.int .i64 b2] 43)).cell? ⟨w.heap.size,1,ai⟩=ae (.int .i64 a2):=((dq.new w _ _).alloc _).cell 1;have c3:((w.alloc (.cells #[.int .i64 a1,.int .i64 a2] 43)).alloc (.cells #[.int .i64 b1,.int .i64 b2] 43)).cell? ⟨w.heap.size+1,0,ai⟩=ae (.int .i64 b1):=by have:=(dq.new (w.alloc (.cells #[.int .i64 a1,.int .i64 a2] 43)) 43 #[.int .i64 b1,.int .i64 b2]).cell 0;rwa[cQ]at this
 have c4:((w.alloc (.cells #[.int .i64 a1,.int .i64 a2] 43)).alloc (.cells #[.int .i64 b1,.int .i64 b2] 43)).cell? ⟨w.heap.size+1,1,ai⟩=ae (.int .i64 b2):=by have:=(dq.new (w.alloc (.cells #[.int .i64 a1,.int .i64 a2] 43)) 43 #[.int .i64 b1,.int .i64 b2]).cell 1;rwa[cQ]at this
 have HW:Hid (((w.alloc (.cells #[.int .i64 a1,.int .i64 a2] 43)).alloc (.cells #[.int .i64 b1,.int .i64 b2] 43))=Sort.grow w #[.cells #[.int .i64 a1,.int .i64 a2] 43,.cells #[.int .i64 b1,.int .i64 b2] 43]):=by unfold Hid;rw[Sort.alloc_eq_grow,Sort.alloc_eq_grow,Sort.grow_grow];rfl
 generalize ((w.alloc (.cells #[.int .i64 a1,.int .i64 a2] 43)).alloc (.cells #[.int .i64 b1,.int .i64 b2] 43))=w2 at *;generalize w.heap.size+1=bb at *;generalize w.heap.size=ab at *
 go_still_tail 10,(by kernel_rfl)
 still_call (Nq (xD _ _ _))
 repeat still_step
 still_call (Nq (xD _ _ _))
 repeat still_step
 refine wpStill_nil ?_;change wpList _ _ _ _ _ w2.drew;generalize rQ a1 b1=r1 at *;generalize rQ a2 b2=r2 at *;clear c1 c2 c3 c4
 go_wp2_with fail
 refine(Sy _ r1 r2 _ (dq.new w2.drew 3 #[.int .i64 r1,.int .i64 r2]|>.cell 0) (dq.new w2.drew 3 #[.int .i64 r1,.int .i64 r2]|>.cell 1)).mono ?_;rintro e w' ⟨rfl,rfl⟩;generalize (if r1=0 then r2 else r1)=r at *
 go_wp2_with fail
 go_ret;exact⟨eF HR.out.symm,1,#[.cells #[.int .i64 a1,.int .i64 a2] 43,.cells #[.int .i64 b1,.int .i64 b2] 43,.cells #[.int .i64 r1,.int .i64 r2] 3],by rw[HW.out,Sort.alloc_eq_grow,Sort.grow_grow];rfl⟩
end
section
open Go.RowKit Go.ChangeShapes Go.WideShapes Go.ChangeAt Go.Deep
theorem Ye:Tryz.prog.bytesOf 74=128:=by kernel_rfl
theorem Jv {H:Type}{enc:aF×aq->H}{W:ah}{r:Reach}{b0:Nat}{v:aq}{d:DataW H}{p:List MemPlace}{ts:List aF}{ds:List (DataW H)}(j:Nat)(km:(DataW.weightsEach Tryz.prog ts ds).all (· <=reachBytes)=aA)(ht:ts[j]? =ae 22)(hd:ds[j]? =ae d)(hv:Value.okWide Tryz.prog W r b0 22 v)(h:DataW.Trod enc Tryz.prog W 0 (λ_=>aA) aA 22 v d p)(bE: ∀x∈p,x.block<W.heap.size): ∃A c os,v=.slice A (List.length os) c/\os.length<=1099511627744/\uP W W.heap.size A os/\(∀o∈os,o.b.v.length=8/\ ∀x∈ik.list o,Fits x)/\os.length<=c/\c<=maxLen:=by
 obtain⟨A,n,c,rfl,hc,hn,hel,xs,hr,hf⟩:=Dw 5 Tryz.underlying22 (by kernel_rfl) (by rw[MF];omega) hv h bE;rw[MF]at hr;have hl:xs.length=n *16:=by have:=hr.1;simpa using this
 have h7:=pE hl;have hn1:n<=1099511627744:=by
  obtain⟨elems,sp,h|h⟩:=hel
  ·have:=sized_slice km ht (h.1▸hd) Tryz.underlying22;rw[Ye,h.2]at this;have sN:reachBytes<=140737488351232:=by decide
   generalize sp.length=q at *;omega
  ·omega
 have e:((la 16 xs n).map ab2).map ik.list=la 16 xs n:=by
  rw[List.map_map]
  conv=>rhs;rw[<-List.map_id (la 16 xs n)]
  exact dy λr hr=>(Ax (h7 r hr)).1
 refine⟨A,c,(la 16 xs n).map ab2,by rw[List.length_map,lr],by rw[List.length_map,lr];omega,?_,?_,by rw[List.length_map,lr];exact hn,hc⟩
 ·unfold uP;rw[e];exact Reads.chunks hr (by omega)
 ·intro s hs;obtain⟨r,hr,rfl⟩:=aN.1 hs;refine⟨(Ax (h7 r hr)).2,λx hx=> ?_⟩;rw[(Ax (h7 r hr)).1]at hx;exact hf x (AZ r hr x hx)
end
section
open Go.RowKit
def aaf (w:ah)(K:Int)(e:Ending)(w':ah):Prop:=Below w.heap.size w w'/\if 0<=K/\K<=255 then∃p,e=.returned (.tuple #[vw p,.int .i64 0])/\(nI p K []).at_ w' (λk=>w.heap.size<=k)else e=.returned (.tuple #[.pointer ai,.int .i64 1])
theorem TD {α:Type}(M C I B:α)(L:List α):(M::C::I::B::L).Perm ([I,B,M]++(L++[C])):=by
 have h1:(C::I::B::L).Perm (I::B::(L++[C])):=(cB _ _ _).trans (((cB _ _ _).trans (((List.perm_append_singleton C L).symm).cons B)).cons I)
 have h2:(M::I::B::(L++[C])).Perm (I::B::M::(L++[C])):=(cB _ _ _).trans ((cB _ _ _).cons I);exact(h1.cons M).trans h2
theorem Za (K:Int)(w:ah):Calls Tryz.prog 174 #[.int .i64 K] w (aaf w K):=by
 by_cases h0:0<=K
 rotate_left
 ·have hn:K<0:=by omega
  have hb:decide (K<0)=aA:=by simpa using hn
  have HE:Hid (¬(0<=K/\K<=255)):=by unfold Hid;omega
  clear h0
  go_enter Tryz.func174,Tryz.ntmps174
  go_wp2_with fail
  go_ret2
  exact⟨Below.refl _ _,by rw[if_neg HE.out];rfl⟩
 have hb:decide (K<0)=aw:=by simpa using h0
 by_cases h1:K<=255
 rotate_left
 ·have hn:255<K:=by omega
  have HE:Hid (¬(0<=K/\K<=255)):=by unfold Hid;omega
  clear h1
  go_enter Tryz.func174,Tryz.ntmps174
  go_wp2_with fail
  go_ret2
  exact⟨Below.refl _ _,by rw[if_neg HE.out];rfl⟩
 have gV:decide (255<K)=aw:=by simpa using h1
 have h1':=h1;have hm8:Hid (eE (m8 K)=(jw K).map λk:Nat=>(k:Int)):=by
  unfold Hid eE jw m8;have:(K % 256).toNat=K.toNat:=by rw[Int.emod_eq_of_lt h0 (by omega)]
  rw[this];rfl
 have hmm:= @run_makeMap Tryz.prog;have hK8:Hid (∀k∈jw K,k<8):=λk hk=>by have:=(cu.1 hk).1;simpa using this
 go_enter Tryz.func174,Tryz.ntmps174
 go_upto_region 4 with(fail)
 refine cc (In (λ_=>False) w [bg (w.heap.size+1) 215 #[.int .i64 K,.slice ai 0 0,.map (ae w.heap.size)],PtrMap w.heap.size []])
  (by have h1:=(In.nil w (λ_=>False)).Jp (aZ .i64) vw nN
      have h2:=h1.alloc 215 #[.int .i64 K,.slice ai 0 0,.map (ae w.heap.size)];simpa using h2) ?_
 generalize w.heap.size+1=p;generalize hmb:w.heap.size=mb;have HMB:=af hmb;clear hmb;intro w1 hI;have HI:=af hI;clear hI
 go_wp2_with fail
 refine(vm K w1).mono ?_;rintro e w2 ⟨v,rfl,ho,gV⟩;rw[hm8.out]at ho;have gd:=af (HI.out.wo ho gV);obtain⟨A,c,rfl,_⟩:=gd.out.kX;have hlen:Hid (((jw K).map λk:Nat=>(k:Int)).length=(jw K).length):=by unfold Hid;simp
 have hl8:(jw K).length<=8:=pQ _;rw[hlen.out];have hl9:((jw K).length:Int)<=8:=by omega
 clear HI ho gV
 go_wp2_with fail
 go_loopw [20] (λi w'=> ∃j:Nat,j<=(jw K).length/\i=.int .i64 j/\ ∃cb:Nat->Nat,In (λ_=>False) w ([da (.slice A ((jw K).map λk:Nat=>(k:Int)).length c) ((jw K).map λk:Nat=>(k:Int)),bg p 215 #[.int .i64 K,.slice ai 0 0,.map (ae mb)],PtrMap mb (((jw K).take j).map λk:Nat=>((k:Int),cb k))]++((jw K).take j).map λk=>kD (cb k) []) w') (λi _=>(jw K).length-(intOf i).toNat)
 case atStart=>exact⟨0,by omega,rfl,λ_=>0,by simpa using gd.out⟩
 case round=>
  clear gd;obtain⟨j,hj,rfl,cb,hI⟩:=hrel;have HI:=af hI;obtain⟨A',c',hA,hr⟩:=hI.kX;injection hA with e1 e2 e3
  subst e1;subst e3;have HR:=af hr;clear hI hr e2;by_cases bE:j<(jw K).length
  ·have OG:(j:Int)<(jw K).length:=by omega
   obtain⟨b,o,rfl,zD,QY,hc⟩:=HR.out.at_ (k:=j) (by simpa using bE);rw[List.getElem_map]at hc;have sK:=hK8.out _ (aU bE);have c1:wr.cell? ⟨p,2,ai⟩=ae (.map (ae mb)):=(In.swap HI.out).blk.cell 2;have hN:Hid ((jw K).take (j+1)=(jw K).take j++[(jw K)[j]]):=aR bE;have LO:Hid ((jw K)[j]∉(jw K).take j):=by unfold Hid;have:=n4 K;rw[<-nQ (j+1) (jw K),hN.out,List.nodup_append,List.nodup_append]at this;intro hm;exact this.1.2.2 _ hm _ (by simp) rfl
   generalize hTS:(jw K).take (j+1)=ts' at *;have HTS:=af hTS;generalize (jw K).take j=ts at *;generalize (jw K)[j]=k at *;clear hTS;have Xj:nN (k:Int):=iw (by omega);have gm:Hid (In (λ_=>False) w (kD wr.heap.size []::([da (.slice (ae ⟨b,o,ai⟩) ((jw K).map λk:Nat=>(k:Int)).length c) ((jw K).map λk:Nat=>(k:Int)),bg p 215 #[.int .i64 K,.slice ai 0 0,.map (ae mb)],PtrMap mb (ts.map λk:Nat=>((k:Int),cb k))]++ts.map λk=>kD (cb k) [])) (wr.alloc (.cells #[.slice ai 0 0] 218))):=HI.out.new ((Below.refl _ _).alloc (az _) _) ⟨_,dq.new _ _ _,World.ownsRow_nil _ _ _ _,by simp[fK],az _,by simp[fK]⟩
   have ny:ey (aZ .i64) vw nN (wr.alloc (.cells #[.slice ai 0 0] 218)) mb (ts.map λk:Nat=>((k:Int),cb k)):=(In.fourth gm.out).hZ;clear HR zD;have ZK:iP (ts.map λk:Nat=>((k:Int),cb k)) (k:Int) wr.heap.size=(ts.map λk:Nat=>((k:Int),cb k))++[((k:Int),wr.heap.size)]:=by
    unfold iP;rw[if_neg];intro ha;obtain⟨x,hx,e⟩:=kB.1 ha;obtain⟨y,hy,rfl⟩:=aN.1 hx;have:y=k:=by have:=of_decide_eq_true e;simp only at this;omega
    exact LO.out (this▸hy)
   have HNM:=af ZK;clear ZK
   go_wp2_with (at_mapUpdate;go_loud (refine iE rV rfl _ _ _ 213 216 rfl Tryz.underlying213 mb _ rfl ny (k:Int) rfl Xj wr.heap.size rfl ?_))
   intro w5 hm5 ho5 _;rw[HNM.out]at hm5;have lV:=af ((In.fourth gm.out).o6 hm5 ho5);clear hm5 ho5 ny
   go_wp2_with fail
   go_roundw
   case rel=>
    refine⟨j+1,by omega,by go_num,λi=>if i=k then wr.heap.size else cb i,?_⟩;rw[HTS.out,hN.out];have e1:(ts++[k]).map (λi:Nat=>((i:Int),if i=k then wr.heap.size else cb i))=ts.map (λk:Nat=>((k:Int),cb k))++[((k:Int),wr.heap.size)]:=by
     rw[dX];congr 1
     ·apply dy;intro i hi;rw[if_neg (λe=>LO.out (by rw[<-e];exact hi))]
     ·simp
    have e2:(ts++[k]).map (λi:Nat=>kD (if i=k then wr.heap.size else cb i) [])=ts.map (λk:Nat=>kD (cb k) [])++[kD wr.heap.size []]:=by
     rw[dX];congr 1
     ·apply dy;intro i hi;rw[if_neg (λe=>LO.out (by rw[<-e];exact hi))]
     ·simp
    rw[e1,e2];refine lV.out.perm ?_;exact TD _ _ _ _ _
   case measure=>simp[intOf];omega
  ·have ry:j=(jw K).length:=by omega
   subst ry;rw[cD]at HI;clear bE hj;have HT:Hid ((nI p K []).at_ wr (λk=>w.heap.size<=k)):=by have h1:=(In.drop HI.out).add0 (A:=dP 43 2 (.slice ai 0 0) 0 []) ⟨World.ownsRow_nil _ _ _ _,by simp[fK]⟩;refine⟨by intro r hr;simp at hr,⟨h0,h1'⟩,.slice ai 0 0,mb,cb,?_⟩;exact(h1.swap).sep.cut λk _ hk=>by rcases hk.1 with h|h;exact h.elim;exact h
   have HB:=af HI.out.II
   go_wp2_with fail
   go_ret2
   exact⟨HB.out,by rw[if_pos ⟨h0,h1'⟩];exact⟨p,rfl,HT.out⟩⟩
end
section
open Go.RowKit
def sj (K:Int)(rows:List cz)(r:cz):List cz×Int×Int:=if bK r.b≠0 then(rows,0,bK r.b)else if r.b.k≠K then(rows,0,4)else(rows++[r],(rows.length:Nat),0)
theorem Y6 (p:Nat)(K:Int)(rows:List cz)(r:cz)(F:Nat->Prop)(w:ah)(h:(nI p K rows).at_ w F)(hr:r.b.v.length=8)(hl:rows.length<=10000):Calls Tryz.prog 175 #[.pointer (ae ⟨p,0,ai⟩),.agg (ints (hL r.h)),.agg (ints r.b.list)] w λe w'=>e=.returned (.tuple #[.int .i64 (sj K rows r).2.1,.int .i64 (sj K rows r).2.2])/\(nI p K (sj K rows r).1).at_ w' (IA F w w')/\cW F w w':=by
 obtain⟨hT,hK,hv,mb,cb,hs⟩:=h;have k9:=af (In.start hs);have HT:=af hT;have HK:=af hK;clear hs hT hK;obtain⟨⟨r1,r2⟩,b⟩:=r;simp only at hr
 go_enter Tryz.func175,Tryz.ntmps175
 go_upto_region 1 with(fail)
 refine cc (In F w (bg (w.heap.size+1) 48 (ints b.list)::bg w.heap.size 43 (ints (hL (r1,r2)))::lF p K hv mb cb rows (cJ rows))) (by have h2:=(k9.out.alloc 43 (ints (hL (r1,r2)))).alloc 48 (ints b.list);simpa using h2) ?_
 generalize w.heap.size+1=bb;generalize w.heap.size=hb;intro w1 hI;have fY:=hI.blk.bt (n:=9) (by simp[aQ.list,hr]);have HI:=af hI;clear hI k9
 go_wp2_with fail
 refine(qa b hr w1).mono ?_;rintro e w2 ⟨rfl,gV⟩;have gd:=af (HI.out.below gV);clear HI gV fY;by_cases he:bK b=0
 rotate_left
 ·have HR:Hid (sj K rows ⟨(r1,r2),b⟩=(rows,0,bK b)):=by unfold Hid sj;rw[if_pos he]
  have dQ:(bK b !=0)=aA:=by simpa using he
  clear he
  go_wp2_with fail
  go_ret2
  rw[HR.out];obtain⟨g1,g2⟩:=gd.out.drop.drop.Wr;exact⟨rfl,⟨HT.out,HK.out,hv,mb,cb,g1⟩,g2⟩
 have dQ:(bK b !=0)=aw:=by rw[he];rfl
 have HE:=af he;clear he;have c1:w2.cell? ⟨bb,0,ai⟩=ae (.int .i64 b.k):=gd.out.blk.cell 0;have c2:w2.cell? ⟨p,0,ai⟩=ae (.int .i64 K):=(In.third gd.out).blk.cell 0;rw[HE.out];by_cases hk:b.k=K
 rotate_left
 ·have HR:Hid (sj K rows ⟨(r1,r2),b⟩=(rows,0,4)):=by unfold Hid sj;rw[if_neg (by simpa using HE.out),if_pos hk]
  have afW:(b.k !=K)=aA:=by simpa using hk
  clear hk
  go_wp2_with fail
  go_quiet (fail)
  go_wp2_with fail
  go_ret2
  rw[HR.out];have gm:=gd.out.below (w':=w2.drewN nq) ⟨rfl,rfl,rfl,az _,λ_ _=>rfl⟩;obtain⟨g1,g2⟩:=gm.drop.drop.Wr;exact⟨rfl,⟨HT.out,HK.out,hv,mb,cb,g1⟩,g2⟩
 have HR:Hid (sj K rows ⟨(r1,r2),b⟩=(rows++[⟨(r1,r2),b⟩],((rows.length:Nat):Int),0)):=by unfold Hid sj;rw[if_neg (by simpa using HE.out),if_neg (by simpa using hk)]
 have afW:(b.k !=K)=aw:=by simpa using hk
 have HKE:=af hk;clear hk
 go_wp2_with fail
 go_quiet (fail)
 go_wp2_with fail
 have gm:Hid (In F w (bg bb 48 (ints b.list)::bg hb 43 (ints (hL (r1,r2)))::lF p K hv mb cb rows (cJ rows)) (w2.drewN nq)):=gd.out.below ⟨rfl,rfl,rfl,az _,λ_ _=>rfl⟩;clear gd c1 c2 afW;generalize w2.drewN nq=w3 at *;have fY:row? w3 hb 0 2=ae #[.int .i64 r1,.int .i64 r2]:=gm.out.swap.blk.bt (xs:=[r1,r2]) rfl
 go_still_tail 4,(by kernel_rfl)
 repeat still_step
 change wpList _ _ _ _ _ w3.drew;have iY:=af gm.out.drew;clear gm fY;generalize w3.drew=w4 at *;have lV:=af ((In.swap iY.out).drop.third.third);obtain⟨hB4,hO4,ZC⟩:=In.sliceAt lV.out
 go_wp2_with fail
 refine(VY p 1 215 #[.int .i64 K,hv,.map (ae mb)] hv rows.length (rows.flatMap λr=>hC r.h) r1 r2 w4 hB4 rfl hO4 ZC (by omega)).mono ?_;rintro e w5 ⟨rfl,hE⟩;obtain⟨Bb,iC⟩:=In.added lV.out hE;have kh:Hid (In F w ([PtrMap mb ((jw K).map λk:Nat=>((k:Int),cb k)),bg p 215 #[.int .i64 K,Bb,.map (ae mb)],dP 43 2 Bb (rows.length+1) ((rows.flatMap λr=>hC r.h)++[.int .i64 r1,.int .i64 r2]),bg bb 48 (ints b.list)]++(jw K).map λk=>kD (cb k) (cJ rows k)) w5):=In.fourth iC;have c1:w5.cell? ⟨p,2,ai⟩=ae (.map (ae mb)):=(In.swap kh.out).blk.cell 2;clear hE iC iY lV hB4 hO4 ZC
 go_wp2_with (at_range;go_loud (refine iT rfl _ 213 216 rfl Tryz.underlying213 mb _ rfl (In.hZ kh.out) ?_))
 intro w6 hr6 Kt ZM;have kE:=af (In.DX kh.out hr6 Kt ZM);generalize w5.heap.size=ri at *;clear hr6 Kt ZM c1
 go_wp2_with fail
 go_loopw [9] (λ_ w'=> ∃left,In F w ([ij (aZ .i64) vw nN mb ri ((jw K).map λk:Nat=>((k:Int),cb k)) left,bg p 215 #[.int .i64 K,Bb,.map (ae mb)],dP 43 2 Bb (rows.length+1) ((rows.flatMap λr=>hC r.h)++[.int .i64 r1,.int .i64 r2]),bg bb 48 (ints b.list)]++(jw K).map λk:Nat=>kD (cb k) (if(k:Int)∈bG left then cJ rows k else cJ rows k++[b.v.getD k 0])) w') (λ_ w'=>w'.rangeLeft mb ri)
 case atStart=>
  refine⟨(jw K).map λk:Nat=>((k:Int),cb k),?_⟩;have:(jw K).map (λk:Nat=>kD (cb k) (if(k:Int)∈bG ((jw K).map λk:Nat=>((k:Int),cb k))then cJ rows k else cJ rows k++[b.v.getD k 0]))=(jw K).map λk:Nat=>kD (cb k) (cJ rows k):=by apply dy;intro k hk;rw[if_pos];simp only[bG,List.map_map];exact aN.2 ⟨k,hk,rfl⟩
  rw[this];exact kE.out
 case round=>
  clear kE kh;obtain⟨left,hI⟩:=hrel;have HI:=af hI;clear hI
  go_wp2_with (at_next;go_loud (refine kU rV rfl _ rfl mb ri _ left rfl (In.rangeAt HI.out) ?_ ?_))
  ·intro S5;subst S5;have pO:=af (In.third (In.third (In.drop (In.fourth (In.vJ HI.out)))));obtain⟨hB,hO,hN⟩:=In.sliceAt pO.out;obtain⟨A',c',rfl,_,_,_⟩:=cH hO;have c1:wr.cell? ⟨p,1,ai⟩=ae (.slice A' (rows.length+1) c'):=hB.cell 1;have hrl:((rows.length:Nat):Int)+1<=1000000:=by omega
   clear hB hO hN
   go_wp2_with fail
   go_ret2
   rw[HR.out];obtain⟨g1,g2⟩:=pO.out.Wr;refine⟨by simp,⟨?_,HK.out,.slice A' (rows.length+1) c',mb,cb,?_⟩,g2⟩
   ·intro r we;rcases iV.1 we with we|we
    ·exact HT.out r we
    ·rw[eC.1 we];refine⟨HKE.out,hr,λk hk ZH=> ?_⟩;refine((ns b HE.out).2 k hk).1 ?_;rw[HKE.out];cases hb:K.toNat.testBit k
     ·rfl
     ·exact absurd (cu.2 ⟨by simpa using hk,hb⟩) ZH
   ·have e1:(jw K).map (λk:Nat=>kD (cb k) (cJ (rows++[⟨(r1,r2),b⟩]) k))=(jw K).map (λk:Nat=>kD (cb k) (if(k:Int)∈bG ([]:List (Int×Nat))then cJ rows k else cJ rows k++[b.v.getD k 0])):=by apply dy;intro k _;rw[if_neg (by simp[bG])];unfold cJ;rw[dX];rfl
    unfold lF;rw[e1,bM,eI];exact g1
  ·intro x v w7 hx GL Fh S9 sM ZF;obtain⟨k,hk,hke⟩:=aN.1 ((In.rangeAt HI.out).sub _ hx);injection hke with e1 e2
   subst e1;subst e2;have sK:k<8:=by have:=(cu.1 hk).1;simpa using this
   have xH:(k:Int)<8:=by omega
   have kE:Hid (In F w ([ij (aZ .i64) vw nN mb ri ((jw K).map λk:Nat=>((k:Int),cb k)) (ep left (k:Int)),bg p 215 #[.int .i64 K,Bb,.map (ae mb)],dP 43 2 Bb (rows.length+1) ((rows.flatMap λr=>hC r.h)++[.int .i64 r1,.int .i64 r2]),bg bb 48 (ints b.list)]++(jw K).map λk:Nat=>kD (cb k) (if(k:Int)∈bG left then cJ rows k else cJ rows k++[b.v.getD k 0])) w7):=In.nG HI.out GL Fh;have Zu:=af hk;have HX:=af hx;have HLT:=af sM;have Da:b.v[k]? =ae (b.v.getD k 0):=by simp[bp,ao (show k<b.v.length by omega)]
   have c1:w7.cell? ⟨bb,1+k,ai⟩=ae (.int .i64 (b.v.getD k 0)):=by rw[(In.fourth kE.out).blk.cell (1+k),kM,aQ.list,dt,eO,Da];rfl
   clear GL Fh S9 sM hk hx Da;obtain⟨y,hy⟩: ∃y,b.v.getD k 0=y:=⟨_,rfl⟩;rw[hy]at c1;have HY:=af hy;clear hy
   go_wp2_with fail
   obtain⟨F1,hA,_,jA⟩:=In.Jt kE.out (n4 K) Zu.out;have iM:(k:Int)∈bG left:=aN.2 ⟨_,HX.out,rfl⟩;rw[if_pos iM]at hA;obtain⟨v,hB,hO,hN,BL⟩:=iX.parts hA;have HB:=af jA;have rN:=af BL;have hlc:(cJ rows k).length<=100000:=by unfold cJ;rw[List.length_map];omega
   refine(VZ (cb k) 0 218 #[v] v (cJ rows k).length ((cJ rows k).flatMap zU) (y) w7 hB rfl hO hN hlc).mono ?_;rintro e w8 ⟨rfl,hE⟩;have hE2:nS w7 w8 (cb k) 218 #[v] 0 v 3 1 (cJ rows k++[y]).length ((cJ rows k++[y]).flatMap zU):=by rw[bM,eI];exact hE
   obtain⟨hC2,Xa⟩:=rN.out _ _ hE2;have pO:=af (HB.out _ (kD (cb k) (cJ rows k++[y])) hC2 Xa);clear hA hB hO hN BL jA HB rN hlc hE hE2 hC2 Xa kE iM
   go_wp2_with fail
   go_roundw
   case rel=>
    refine⟨ep left (k:Int),?_⟩;rw[<-HY.out]at pO;have:(jw K).map (λj:Nat=>kD (cb j) (if(j:Int)∈bG (ep left (k:Int))then cJ rows j else cJ rows j++[b.v.getD j 0]))=
     (jw K).map (λj:Nat=>if j=k then kD (cb k) (cJ rows k++[b.v.getD k 0])else kD (cb j) (if(j:Int)∈bG left then cJ rows j else cJ rows j++[b.v.getD j 0])):=by
     apply dy;intro j hj;by_cases tQ:j=k
     ·subst tQ;rw[if_neg,if_pos rfl];intro hm;obtain⟨q,hq,e⟩:=aN.1 hm;exact(fT.1 hq).2 e
     ·rw[if_neg tQ];have:(j:Int)∈bG (ep left (k:Int))↔(j:Int)∈bG left:=by
       constructor
       ·intro hm;obtain⟨q,hq,e⟩:=aN.1 hm;exact aN.2 ⟨q,(fT.1 hq).1,e⟩
       ·intro hm;obtain⟨q,hq,e⟩:=aN.1 hm;exact aN.2 ⟨q,fT.2 ⟨hq,by simp only[e];omega⟩,e⟩
      by_cases hm:(j:Int)∈bG left
      ·rw[if_pos hm,if_pos (this.2 hm)]
      ·rw[if_neg hm,if_neg (λh=>hm (this.1 h))]
    rw[this];exact pO.out
   case measure=>rw[(In.rangeAt pO.out).count,(In.rangeAt HI.out).count];exact HLT.out
end
section
open Go.RowKit
section
variable {w0 w:ah} {l:List bT} {p:Nat} {K:Int} {rows:List cz} {G:Nat->Prop}
theorem RU (K:Int)(hK:0<=K/\K<=255)(h:In G w0 l w):Calls Tryz.prog 174 #[.int .i64 K] w λe w'=> ∃p,e=.returned (.tuple #[.pointer (ae ⟨p,0,ai⟩),.int .i64 0])/\In G w0 (nI p K []::l) w':=(Za K w).mono λe w' ⟨h1,h2⟩=>by rw[if_pos hK]at h2;obtain⟨p,h2,h3⟩:=h2;exact⟨p,h2,h.new h1 h3⟩
theorem Cx (h:In G w0 (nI p K rows::l) w)(r1 r2:Int)(b:aQ)(hr:b.v.length=8)(hl:rows.length<=10000):Calls Tryz.prog 175 #[.pointer (ae ⟨p,0,ai⟩),.agg #[.int .i64 r1,.int .i64 r2],.agg (ints b.list)] w λe w'=>e=.returned (.tuple #[.int .i64 (sj K rows ⟨(r1,r2),b⟩).2.1,.int .i64 (sj K rows ⟨(r1,r2),b⟩).2.2])/\In G w0 (nI p K (sj K rows ⟨(r1,r2),b⟩).1::l) w':=by
 obtain⟨F1,hA,_,hb⟩:=h.open_;exact(Y6 p K rows ⟨(r1,r2),b⟩ F1 w hA hr hl).mono λe w' ⟨h1,h2,h3⟩=>⟨h1,hb h2 h3⟩
theorem P7 (h:In G w0 (nI p K rows::l) w)(row:Int)(hl:rows.length<=10000):Calls Tryz.prog 181 #[.pointer (ae ⟨p,0,ai⟩),.int .i64 row] w λe w'=>e=.returned (.tuple #[.agg (ints (mB rows row).2.1.list),.int .i64 (mB rows row).2.2])/\In G w0 (nI p K (mB rows row).1::l) w':=by
 obtain⟨F1,hA,_,hb⟩:=h.open_;exact(Ny p K rows row F1 w hA hl).mono λe w' ⟨h1,h2,h3⟩=>⟨h1,hb h2 h3⟩
theorem ab5 (h:In G w0 (nI p K rows::l) w)(row:Int)(hl:rows.length<=10000):Calls Tryz.prog 73 #[.pointer (ae ⟨p,0,ai⟩),.int .i64 row] w λe w'=>e=.returned (.tuple #[.agg (ints (vC rows row).1.list),.int .i64 (vC rows row).2])/\Below w.heap.size w w'/\In G w0 (nI p K rows::l) w':=by
 obtain⟨F1,hA⟩:=h.head;obtain⟨hv,mb,cb,hS⟩:=nI.see hA;exact(Nz row w hS (by omega)).mono λe w' ⟨h1,h2⟩=>⟨h1,h2,h.below h2⟩
theorem vH (h:In G w0 (nI p K rows::l) w)(hl:rows.length<=10000):Calls Tryz.prog 96 #[.pointer (ae ⟨p,0,ai⟩)] w λe w'=> ∃v,e=.returned v/\w'.ownsRow w.heap.size 43 2 v rows.length (rows.flatMap λr=>hC r.h)/\Below w.heap.size w w'/\In G w0 (nI p K rows::l) w':=by obtain⟨F1,hA⟩:=h.head;obtain⟨hv,mb,cb,hS⟩:=nI.see hA;exact(J8 w hS (by omega)).mono λe w' ⟨v,h1,h2,h3⟩=>⟨v,h1,h2,h3,h.below h3⟩
end
end
section
theorem Mz {α:Type}{l:List α}(h: ∀(i j:Nat) (x:α),i<j->l[i]? =ae x->l[j]? =ae x->False):l.Nodup:=by rw[List.Nodup,jc];intro i j hi hj LM e;exact h i j l[i] LM (ao hi) (by rw[e];exact ao hj)
structure WT where
 ks:List Int
 pt:Int->Nat
 rw:Int->List cz
 ps:List (Int×(Int×Int))
abbrev BF:=Int->Option (Int×aQ)
def dH (f:BF)(s:Int)(x:Option (Int×aQ)):BF:=λk=>if k=s then x else f k
def fZ {α:Type}(f:Int->α)(K:Int)(x:α):Int->α:=λk=>if k=K then x else f k
theorem ia {α:Type}(f:Int->α)(K:Int)(x:α):fZ f K x K=x:=by unfold fZ;rw[if_pos rfl]
theorem gG {α:Type}(f:Int->α){K K':Int}(x:α)(h:K'≠K):fZ f K x K'=f K':=by unfold fZ;rw[if_neg h]
structure nm (T:WT) (f:BF):Prop where
 nd:T.ks.Nodup
 ne: ∀K∈T.ks,T.rw K≠ []
 at_: ∀K∈T.ks,∀(i:Nat) (r:cz),(T.rw K)[i]? =ae r->f r.h.1=ae (r.h.2,r.b)/\eG T.ps r.h.1=ae (K,(i:Int))
 all: ∀s g b,f s=ae (g,b)-> ∃K∈T.ks,∃i:Nat,(T.rw K)[i]? =ae ⟨(s,g),b⟩
 ok: ∀s g b,f s=ae (g,b)->bK b=0/\b.v.length=8/\0<=s/\s<60
theorem nm.nil:nm ⟨[],λ_=>0,λ_=>[],[]⟩ (λ_=>ai):=⟨List.nodup_nil,by simp,by simp,by simp,by simp⟩
section
variable {T:WT} {f:BF} {s g K:Int} {b:aQ}
theorem nm.Rc (h:nm T f)(hf:f s=ai)(hb:bK b=0/\b.v.length=8/\0<=s/\s<60)(hK:K∈T.ks):nm ⟨T.ks,T.pt,fZ T.rw K (T.rw K++[⟨(s,g),b⟩]),iP T.ps s (K,((T.rw K).length:Int))⟩ (dH f s (ae (g,b))):=by
 refine⟨h.nd,λK' jH=> ?_,λK' jH i r hr=> ?_,λs' g' b' hs=> ?_,λs' g' b' hs=> ?_⟩
 ·simp only[fZ];split
  ·simp
  ·exact h.ne K' jH
 ·simp only at hr jH⊢;have old: ∀K'∈T.ks,(T.rw K')[i]? =ae r->dH f s (ae (g,b)) r.h.1=ae (r.h.2,r.b)/\eG (iP T.ps s (K,((T.rw K).length:Int))) r.h.1=ae (K',(i:Int)):=by
   intro K' jH hr;obtain⟨h1,h2⟩:=h.at_ K' jH i r hr;have dQ:r.h.1≠s:=λe=>by rw[e,hf]at h1;cases h1
   unfold dH;rw[if_neg dQ,lR,if_neg dQ];exact⟨h1,h2⟩
  by_cases e:K'=K
  ·subst e;rw[ia]at hr;by_cases hi:i<(T.rw K').length
   ·rw[List.getElem?_append_left hi]at hr;exact old K' jH hr
   ·rw[List.getElem?_append_right (by omega)]at hr;have qX:i=(T.rw K').length:=by have:=(bH.1 hr).1;simp at this;omega
    rw[qX,Nat.sub_self]at hr;simp at hr;subst hr;unfold dH;simp only[if_true];rw[lR,if_pos rfl,qX];exact⟨trivial,rfl⟩
  ·rw[gG _ _ e]at hr;exact old K' jH hr
 ·unfold dH at hs
  split at hs
  ·rename_i e
   cases hs;subst e;refine⟨K,hK,(T.rw K).length,?_⟩;simp only[ia];rw[List.getElem?_append_right (az _),Nat.sub_self];rfl
  ·obtain⟨K',jH,i,hi⟩:=h.all s' g' b' hs;refine⟨K',jH,i,?_⟩;simp only;by_cases e:K'=K
   ·subst e;rw[ia,List.getElem?_append_left (bH.1 hi).1];exact hi
   ·rw[gG _ _ e];exact hi
 ·unfold dH at hs
  split at hs
  ·rename_i e;cases hs;subst e;exact hb
  ·exact h.ok s' g' b' hs
theorem nm.Rb (h:nm T f)(hf:f s=ai)(hb:bK b=0/\b.v.length=8/\0<=s/\s<60)(hK:K∉T.ks)(p:Nat):nm ⟨T.ks++[K],fZ T.pt K p,fZ T.rw K [⟨(s,g),b⟩],iP T.ps s (K,0)⟩ (dH f s (ae (g,b))):=by
 refine⟨?_,λK' jH=> ?_,λK' jH i r hr=> ?_,λs' g' b' hs=> ?_,λs' g' b' hs=> ?_⟩
 ·simp only;rw[List.nodup_append];exact⟨h.nd,by simp,λa ha b hb e=>hK (by rw[eC]at hb;rw[<-hb,<-e];exact ha)⟩
 ·simp only[fZ]at jH⊢;split
  ·simp
  ·rename_i e
   rw[iV,eC]at jH;rcases jH with jH|jH
   ·exact h.ne K' jH
   ·exact absurd jH e
 ·simp only at hr jH⊢;by_cases e:K'=K
  ·subst e;rw[ia]at hr;cases i with
   |succ i=>simp at hr
   |zero=>simp at hr;subst hr;unfold dH;simp only[if_true];rw[lR,if_pos rfl];exact⟨trivial,rfl⟩
  ·rw[gG _ _ e]at hr;rw[iV,eC]at jH;rcases jH with jH|jH
   ·obtain⟨h1,h2⟩:=h.at_ K' jH i r hr;have dQ:r.h.1≠s:=λe=>by rw[e,hf]at h1;cases h1
    unfold dH;rw[if_neg dQ,lR,if_neg dQ];exact⟨h1,h2⟩
   ·exact absurd jH e
 ·unfold dH at hs
  split at hs
  ·rename_i e
   cases hs;subst e;exact⟨K,by simp,0,by simp only[ia];rfl⟩
  ·obtain⟨K',jH,i,hi⟩:=h.all s' g' b' hs;refine⟨K',by simp[jH],i,?_⟩;simp only;rw[gG _ _ (λe=>hK (by rw[<-e];exact jH))];exact hi
 ·unfold dH at hs
  split at hs
  ·rename_i e;cases hs;subst e;exact hb
  ·exact h.ok s' g' b' hs
theorem yv {α:Type}(d:α)(l:List α)(i j:Nat)(hi:i<l.length)(hj:j<l.length-1):(cutAt d l i)[j]? =if j=i then l[l.length-1]? else l[j]?:=by
 unfold cutAt;rw[gN,if_pos hj,gh];by_cases e:i=j
 ·rw[if_pos e,if_pos (by omega),if_pos e.symm,bq,ao (show l.length-1<l.length by omega)];rfl
 ·rw[if_neg e,if_neg (λh=>e h.symm)]
def gE (ps:List (Int×(Int×Int)))(lh:List cz)(K:Int)(i:Nat):List (Int×(Int×Int)):=if i<lh.length then iP ps (lh.getD i aP).h.1 (K,(i:Int))else ps
theorem nm.XR (h:nm T f)(hK:K∈T.ks){i:Nat}(hi:(T.rw K)[i]? =ae ⟨(s,g),b⟩):nm ⟨if(cutAt aP (T.rw K) i).length=0 then T.ks.filter (λk=> !decide (k=K))else T.ks,T.pt,fZ T.rw K (cutAt aP (T.rw K) i),ep (gE T.ps (cutAt aP (T.rw K) i) K i) s⟩ (dH f s ai):=by
 have wL:=(bH.1 hi).1;have rh:=vR aP (T.rw K) i;obtain⟨hfs,hps⟩:=h.at_ K hK i _ hi;simp only at hfs hps;have iM: ∀K',K'∈(if(cutAt aP (T.rw K) i).length=0 then T.ks.filter (λk=> !decide (k=K))else T.ks)->K'∈T.ks/\(K'=K->0<(cutAt aP (T.rw K) i).length):=by
  intro K' jH
  split at jH
  ·rw[cu]at jH;exact⟨jH.1,λe=>by simp[e]at jH⟩
  ·rename_i dQ
   exact⟨jH,λ_=>by omega⟩
 have acA: ∀K',K'∈T.ks->(K'=K->0<(cutAt aP (T.rw K) i).length)->K'∈(if(cutAt aP (T.rw K) i).length=0 then T.ks.filter (λk=> !decide (k=K))else T.ks):=by
  intro K' jH h0
  split
  ·rename_i h00
   rw[cu];refine⟨jH,?_⟩;have:K'≠K:=λe=>by have:=h0 e;omega
   simpa using this
  ·exact jH
 have OO: ∀K'∈T.ks,∀(j:Nat) r,(T.rw K')[j]? =ae r-> ¬(K'=K/\j=i)-> ∀(j':Int),(K'=K/\j=(T.rw K).length-1/\i<(T.rw K).length-1->j'=i)->(¬(K'=K/\j=(T.rw K).length-1/\i<(T.rw K).length-1)->j'=j)->
  dH f s ai r.h.1=ae (r.h.2,r.b)/\eG (ep (gE T.ps (cutAt aP (T.rw K) i) K i) s) r.h.1=ae (K',j'):=by
  intro K' jH j r hr dQ j' I9 hj2;obtain⟨h1,h2⟩:=h.at_ K' jH j r hr;have hns:r.h.1≠s:=λe=>by
   rw[e,hps]at h2;injection h2 with h2
   injection h2 with h2 h3
   exact dQ ⟨h2.symm,by omega⟩
  unfold dH;rw[if_neg hns,wj,if_neg hns];refine⟨h1,?_⟩;unfold gE;rw[rh];by_cases QV:i<(T.rw K).length-1
  ·rw[if_pos QV,lR];have Da:(cutAt aP (T.rw K) i).getD i aP=(T.rw K)[(T.rw K).length-1]:=by rw[bq,yv _ _ _ _ wL QV,if_pos rfl,ao (by omega)];rfl
   rw[Da];obtain⟨_,h4⟩:=h.at_ K hK ((T.rw K).length-1) _ (ao (by omega));by_cases e:r.h.1=((T.rw K)[(T.rw K).length-1]'(by omega)).h.1
   ·rw[if_pos e];rw[<-e,h2]at h4;injection h4 with h4
    injection h4 with h4 h5
    rw[I9 ⟨h4,by omega,QV⟩,h4]
   ·rw[if_neg e,h2];have: ¬(K'=K/\j=(T.rw K).length-1/\i<(T.rw K).length-1):=by
     rintro⟨rfl,rfl,_⟩;rw[ao (by omega)]at hr;injection hr with hr
     exact e (by rw[hr])
    rw[hj2 this]
  ·rw[if_neg QV,h2,hj2 (λh=>QV h.2.2)]
 refine⟨?_,λK' jH=> ?_,λK' jH j r hr=> ?_,λs' g' b' hs=> ?_,λs' g' b' hs=> ?_⟩
 ·simp only
  split
  ·exact h.nd.sublist List.filter_sublist
  ·exact h.nd
 ·simp only at jH⊢;obtain⟨h1,h2⟩:=iM K' jH;by_cases e:K'=K
  ·rw[e,ia];intro h0;have:=h2 e;rw[h0]at this;simp at this
  ·rw[gG _ _ e];exact h.ne K' h1
 ·simp only at jH hr⊢;obtain⟨h1,_⟩:=iM K' jH;by_cases e:K'=K
  ·subst e;rw[ia]at hr;have ry:j<(T.rw K').length-1:=by have:=(bH.1 hr).1;omega
   rw[yv _ _ _ _ wL ry]at hr;by_cases ej:j=i
   ·rw[if_pos ej]at hr;exact OO K' h1 _ r hr (by rintro⟨_,h⟩;omega) j (λ_=>by omega) (λh=>absurd ⟨rfl,rfl,by omega⟩ h)
   ·rw[if_neg ej]at hr;exact OO K' h1 j r hr (λh=>ej h.2) j (λh=>by omega) (λ_=>rfl)
  ·rw[gG _ _ e]at hr;exact OO K' h1 j r hr (λh=>e h.1) j (λh=>absurd h.1 e) (λ_=>rfl)
 ·unfold dH at hs
  split at hs
  ·cases hs
  ·rename_i dQ
   obtain⟨K',jH,j,hj⟩:=h.all s' g' b' hs;by_cases e:K'=K
   ·subst e;have ry:=(bH.1 hj).1;have OG:j≠i:=λe=>by
     rw[e,hi]at hj;injection hj with hj
     injection hj with hj _
     injection hj with hj _
     exact dQ hj.symm
    have h0:0<(cutAt aP (T.rw K') i).length:=by omega
    refine⟨K',acA K' jH (λ_=>h0),if j=(T.rw K').length-1 then i else j,?_⟩;simp only[ia]
    split
    ·rename_i ej
     rw[yv _ _ _ _ wL (by omega),if_pos rfl,<-ej];exact hj
    ·rw[yv _ _ _ _ wL (by omega),if_neg OG];exact hj
   ·refine⟨K',acA K' jH (λh=>absurd h e),j,?_⟩;simp only;rw[gG _ _ e];exact hj
 ·unfold dH at hs
  split at hs
  ·cases hs
  ·exact h.ok s' g' b' hs
end
end
section
open Go.RowKit
theorem MJ {w:ah}{B:Nat}{e:aF}{size n c g i:Nat}{xs:List aq}(u:aq)(h:w.ownsRow B e size (.slice (ae ⟨g,0,ai⟩) n c) n xs)(hi:i<n *size):(w.setCell ⟨g,i,ai⟩ u).ownsRow B e size (.slice (ae ⟨g,0,ai⟩) n c) n (xs.set i u):=by
 obtain⟨h1,h2⟩:=h;refine⟨by rw[ew];exact h1,?_⟩;rcases h2 with⟨e1,h0⟩|⟨g',cap,cur,e1,hb,hg,h3,h4,h5,h6⟩
 ·cases e1
 ·injection e1 with e1 e2 e3
  injection e1 with e1
  injection e1 with e1
  subst e1;subst e3;refine bR ⟨g,c,cur.setIfInBounds i u,rfl,hb,?_,h3,h4,?_,?_⟩
  ·simp[dA,bw,hg]
  ·simp;exact h5
  ·rw[Array.toList_setIfInBounds,<-h6,List.take_set]
theorem Yi {w:ah}{B:Nat}{e:aF}{size n c g i:Nat}{xs:List aq}(h:w.ownsRow B e size (.slice (ae ⟨g,0,ai⟩) n c) n xs){u:aq}(hi:xs[i]? =ae u):w.cell? ⟨g,i,ai⟩=ae u/\w.frozen? ⟨g,i,ai⟩=aw:=by
 obtain⟨h1,h2⟩:=h;rcases h2 with⟨e1,h0⟩|⟨g',cap,cur,e1,hb,hg,h3,h4,h5,h6⟩
 ·cases e1
 ·injection e1 with e1 e2 e3
  injection e1 with e1
  injection e1 with e1
  subst e1;subst e3;refine⟨?_,by simp[World.frozen?,hg]⟩;rw[cell_of_row w g i cur e (0,0) hg,<-hi,<-h6,gN,if_pos]
  ·simp
  ·have:=(bH.1 hi).1;omega
def setB (r:cz)(k:Nat)(n:Int):cz:=⟨r.h,⟨r.b.k,r.b.v.set k n⟩⟩
theorem SA {K:Int}{rows:List cz}(hT:AN K rows)(i:Nat)(hi:i<rows.length)(k:Nat)(hk:k<8)(n:Int)(j:Nat):cJ (rows.set i (setB rows[i] k n)) j=if j=k then(cJ rows j).set i n else cJ rows j:=by
 unfold cJ;rw[List.map_set];have hl:=(hT _ (aU hi)).2.1;have e:((setB rows[i] k n).b.v.getD j 0)=if j=k then n else rows[i].b.v.getD j 0:=by
  unfold setB;simp only;rw[bq,bq,gh];by_cases h:k=j
  ·rw[if_pos h,if_pos (by omega),if_pos h.symm];rfl
  ·rw[if_neg h,if_neg (λh'=>h h'.symm)]
 rw[e]
 split
 ·rfl
 ·apply lJ;intro q;rw[gh]
  split
  ·rename_i hq
   subst hq;rw[if_pos (by simpa using hi),dK,ao hi];rfl
  ·rfl
theorem ab6 {G:Nat->Prop}{w0 w:ah}{l:List bT}{p:Nat}{K:Int}{rows:List cz}(h:In G w0 (nI p K rows::l) w)(i:Nat)(hi:i<rows.length)(hl:rows.length<=10000)(k:Nat)(hk:k∈jw K)(sK:k<8)(n:Int)(hn: -1000000000<=n/\n<=1000000000):Calls Tryz.prog 134 #[.pointer (ae ⟨p,0,ai⟩),.int .i64 (i:Int),.int .i64 (k:Int),.int .i64 n] w λe w'=>e=.returned (.int .i64 0)/\In G w0 (nI p K (rows.set i (setB rows[i] k n))::l) w':=by
 obtain⟨hT,hK,hv,mb,cb,hI⟩:=h.Ju;obtain⟨F0,hA0⟩:=h.head;have HI:=af hI;have aaP:tB w p K rows hv mb cb:=by
  have gX:=hI;exact⟨hT,hK,In.blk gX,(In.sliceAt gX).2.1,(In.third gX).hZ,λk hk=>by
   have h1:In G w0 ((([bg p 215 #[.int .i64 K,hv,.map (ae mb)],dP 43 2 hv rows.length (rows.flatMap λr=>hC r.h),PtrMap mb ((jw K).map λk:Nat=>((k:Int),cb k))]++l))++(jw K).map λk=>kD (cb k) (cJ rows k)) w:=hI.perm (by unfold lF;rw[dn,dn];exact dE _ List.perm_append_comm)
   exact h1.YD (n4 K) hk⟩
 have HT2:Hid (AN K (rows.set i (setB rows[i] k n))):=λr hr=>by
  rcases List.mem_or_eq_of_mem_set hr with hr|rfl
  ·exact hT r hr
  ·obtain⟨g1,g2,g3⟩:=hT _ (aU hi);refine⟨g1,by unfold setB;simp[g2],λj hj U6=> ?_⟩;have dQ:k≠j:=λe=>U6 (by rw[<-e];exact hk)
   unfold setB;simp only;rw[bq,List.getElem?_set_ne dQ,<-bq];exact g3 j hj U6
 have HCS:=af (SA hT i hi k sK n);have Ck:(rows.set i (setB rows[i] k n)).flatMap (λr=>hC r.h)=rows.flatMap λr=>hC r.h:=by
  have:(rows.set i (setB rows[i] k n)).map (λr=>r.h)=rows.map λr=>r.h:=by
   rw[List.map_set];apply lJ;intro q;rw[gh]
   split
   ·rename_i hq
    subst hq;rw[if_pos (by simpa using hi),dK,ao hi];rfl
   ·rfl
  have h2:=congrArg (λl:List (Int×Int)=>l.flatMap hC) this;simp only[List.flatMap_map]at h2;exact h2
 have HFL:=af Ck;have hlen:(rows.set i (setB rows[i] k n)).length=rows.length:=ew;have xy:=af hlen;have HK:=af hK;have U2:l0 rows.length (i:Int)=aA:=by unfold l0;simp;omega
 have hof:ofR K (k:Int)=(ae k,0):=by unfold ofR;rw[if_pos (by omega),dL,if_pos hk]
 have ae3:=af (GX (i:Int) w aaP (by omega));have HOF:=af (ab3 (k:Int) w aaP);rw[U2]at ae3;rw[hof]at HOF;obtain⟨F1,afr⟩:=aaP.c k hk;obtain⟨A3,c3,f1,f2,f3,f4,f5,f6,f7,f8⟩:=afr.slice;have rh:(cJ rows k).length=rows.length:=by unfold cJ;rw[List.length_map]
 have hA3: ∃g,A3=ae ⟨g,0,ai⟩:=by
  obtain⟨A,c,e,_,_,hA⟩:=cH f5;injection e with e
  subst e;exact hA (by omega)
 obtain⟨g,rfl⟩:=hA3;have hci:((cJ rows k).flatMap zU)[i]? =ae (.int .i64 ((cJ rows k)[i]'(by omega))):=by have:=qm (f:=zU) (size:=1) (λ_=>rfl) (cJ rows k) i 0 (by omega) (by omega);rw[Nat.mul_one,kW]at this;rw[this];rfl
 obtain⟨q0,q2⟩:=Yi f5 hci;obtain⟨x0,q1⟩: ∃x:Int,w.cell? ⟨g,i,ai⟩=ae (.int .i64 x):=⟨_,q0⟩;have aad:Hid (In G w0 (nI p K (rows.set i (setB rows[i] k n))::l) (w.setCell ⟨g,i,ai⟩ (.int .i64 n))):=by
  refine In.RN (hv:=hv) (mb:=mb) (cb:=cb) HT2.out hK ?_;have h1:In G w0 ((([bg p 215 #[.int .i64 K,hv,.map (ae mb)],dP 43 2 hv rows.length (rows.flatMap λr=>hC r.h),PtrMap mb ((jw K).map λk:Nat=>((k:Int),cb k))]++l))++(jw K).map λk=>kD (cb k) (cJ rows k)) w:=hI.perm (by unfold lF;rw[dn,dn];exact dE _ List.perm_append_comm)
  obtain⟨F2,vZ,_,jA⟩:=h1.Jt (n4 K) hk;obtain⟨v,p1,p2,p3,p4⟩:=iX.parts vZ;have hv3:v=.slice (ae ⟨g,0,ai⟩) (cJ rows k).length c3:=by have:=p1.cell 0;rw[f1]at this;simpa using this.symm
  subst hv3;have hgp:g≠cb k:=λe=>p3 (by rw[e];rfl)
  have BL:nS w (w.setCell ⟨g,i,ai⟩ (.int .i64 n)) (cb k) 218 #[.slice (ae ⟨g,0,ai⟩) (cJ rows k).length c3] 0 (.slice (ae ⟨g,0,ai⟩) (cJ rows k).length c3) 3 1 ((cJ rows k).set i n).length (((cJ rows k).set i n).flatMap zU):=by
   refine⟨.slice (ae ⟨g,0,ai⟩) (cJ rows k).length c3,?_,?_,p3,λq hq=>br hq,?_⟩
   ·exact(p1.FD (Ne.symm hgp) i _)
   ·have h2:=MJ (.int .i64 n) p2 (i:=i) (by omega);have h3:((cJ rows k).flatMap zU).set i (.int .i64 n)=((cJ rows k).set i n).flatMap zU:=by have:=sD (f:=zU) (size:=1) (λ_=>rfl) (cJ rows k) i 0 n (.int .i64 n) (by omega) (by omega) rfl;rwa[Nat.mul_one,kW]at this
    rw[h3]at h2;rw[ew];exact h2
   ·exact(cW.refl.setCell (br (bR rfl)) i _)
  obtain⟨r1,r2⟩:=p4 _ _ BL;have h5:=jA _ (kD (cb k) ((cJ rows k).set i n)) r1 r2;have h6:((jw K).map λj=>if j=k then kD (cb k) ((cJ rows k).set i n)else kD (cb j) (cJ rows j))=(jw K).map λj=>kD (cb j) (cJ (rows.set i (setB rows[i] k n)) j):=by
   apply dy;intro j _;rw[HCS.out];by_cases e:j=k
   ·rw[if_pos e,if_pos e,e]
   ·rw[if_neg e,if_neg e]
  rw[h6]at h5;unfold lF;rw[hlen,Ck];refine h5.perm ?_;rw[dn,dn];exact dE _ List.perm_append_comm
 have Cj:decide (n< -1000000000)=aw:=decide_eq_false (by omega);have OE:decide (1000000000<n)=aw:=decide_eq_false (by omega);have wL:(i:Int)<(cJ rows k).length:=by omega
 clear h hI HI aaP hA0 hT hK Ck hlen U2 hof q0 afr f2 f3 f4 f5 f6 f7 f8 HT2 HCS HFL xy HK rh hci
 go_enter Tryz.func134,Tryz.ntmps134
 go_wp2_with fail
 refine ae3.out.mono ?_;rintro e w1 ⟨rfl,rfl⟩
 go_wp2_with fail
 refine HOF.out.mono ?_;rintro e w1 ⟨rfl,rfl⟩;simp only[Wm]
 go_wp2_with fail
 go_ret;exact⟨rfl,aad.out⟩
end
section
theorem vP (b:aQ):bK b=0↔(0<=b.k/\b.k<=255)/\ ∀j,j<8->(b.k.toNat.testBit j=aw->b.v.getD j 0=0)/\ -1000000000<=b.v.getD j 0/\b.v.getD j 0<=1000000000:=by refine⟨ns b,λ⟨h1,h2⟩=>rP b (by unfold cT;simp[h1.1,h1.2]) λj hj=> ?_⟩;obtain⟨g1,g2,g3⟩:=h2 j hj;unfold kZ;rw[if_neg (λh=>h.2 (g1 h.1)),if_neg (by omega)]
def uE (b:aQ)(k:Nat)(n:Int):aQ:=⟨((b.k.toNat ||| 2^k:Nat):Int),b.v.set k n⟩
def sx (b:aQ)(k:Nat):aQ:=⟨((b.k.toNat-2^k:Nat):Int),b.v.set k 0⟩
theorem Rq: ∀(m k j:Nat),m<256->k<8->j<8->(m ||| 2^k).testBit j=(m.testBit j||decide (k=j))/\(m ||| 2^k)<256:=by
 have h: ∀(m:Fin 256) (k j:Fin 8),(m.val ||| 2^k.val).testBit j.val=(m.val.testBit j.val||decide (k.val=j.val))/\(m.val ||| 2^k.val)<256:=by decide+kernel
 exact λm k j hm hk hj=>h ⟨m,hm⟩ ⟨k,hk⟩ ⟨j,hj⟩
theorem Y4: ∀(m k j:Nat),m<256->k<8->j<8->m.testBit k=aA->(m-2^k).testBit j=(m.testBit j&& !decide (k=j)):=by
 have h: ∀(m:Fin 256) (k j:Fin 8),m.val.testBit k.val=aA->(m.val-2^k.val).testBit j.val=(m.val.testBit j.val&& !decide (k.val=j.val)):=by decide+kernel
 exact λm k j hm hk hj=>h ⟨m,hm⟩ ⟨k,hk⟩ ⟨j,hj⟩
theorem Rr: ∀(m k:Nat),m<256->k<8->m.testBit k=aA->(m ||| 2^k)=m:=by
 have h: ∀(m:Fin 256) (k:Fin 8),m.val.testBit k.val=aA->(m.val ||| 2^k.val)=m.val:=by decide+kernel
 exact λm k hm hk=>h ⟨m,hm⟩ ⟨k,hk⟩
theorem GC {v:List Int}{k j:Nat}(hv:v.length=8)(hk:k<8)(n:Int):(v.set k n).getD j 0=if j=k then n else v.getD j 0:=by
 rw[bq,bq,gh];by_cases e:k=j
 ·rw[if_pos e,if_pos (by omega),if_pos e.symm];rfl
 ·rw[if_neg e,if_neg (λh=>e h.symm)]
theorem Cq {b:aQ}(hb:bK b=0)(hv:b.v.length=8){k:Nat}(hk:k<8){n:Int}(hn: -1000000000<=n/\n<=1000000000):bK (uE b k n)=0/\(uE b k n).v.length=8:=by
 obtain⟨h1,h2⟩:=(vP b).1 hb;refine⟨(vP _).2 ⟨?_,λj hj=> ?_⟩,by unfold uE;rw[ew,hv]⟩
 ·have:=(Rq b.k.toNat k 0 (by omega) hk (by omega)).2;unfold uE;simp only;omega
 ·unfold uE;simp only[dL];rw[(Rq b.k.toNat k j (by omega) hk hj).1,GC hv hk];by_cases e:j=k
  ·rw[if_pos e];simp[e,hn]
  ·rw[if_neg e];have:decide (k=j)=aw:=by simpa using λh=>e h.symm
   rw[this,Bool.or_false];exact h2 j hj
theorem Le {b:aQ}(hb:bK b=0)(hv:b.v.length=8){k:Nat}(hk:k<8)(ht:b.k.toNat.testBit k=aA):bK (sx b k)=0/\(sx b k).v.length=8:=by
 obtain⟨h1,h2⟩:=(vP b).1 hb;refine⟨(vP _).2 ⟨?_,λj hj=> ?_⟩,by unfold sx;rw[ew,hv]⟩
 ·unfold sx;simp only;have:=Nat.sub_le b.k.toNat (2^k);generalize b.k.toNat-2^k=q at *;omega
 ·unfold sx;simp only[dL];rw[Y4 b.k.toNat k j (by omega) hk hj ht,GC hv hk];by_cases e:j=k
  ·rw[if_pos e];simp
  ·rw[if_neg e];have:decide (k=j)=aw:=by simpa using λh=>e h.symm
   rw[this];simpa using h2 j hj
theorem Mp {ls:List (Int×Bool)}{k:Nat}(hk:k<ls.length)(g:Int)(b:Bool)(s g':Int):ez (ls.set k (g,b)) s g'=if s=(k:Int)then(decide (g=g')&&b)else ez ls s g':=by
 unfold ez;rw[ew];by_cases e:s=(k:Int)
 ·subst e;rw[if_pos rfl];simp[hk,bq]
 ·rw[if_neg e];by_cases h0:0<=s
  ·have dQ:k≠s.toNat:=by omega
   rw[bq,List.getElem?_set_ne dQ,<-bq]
  ·simp[h0]
theorem XT (ls:List (Int×Bool))(s g':Int):ez (ls++[(0,aA)]) s g'=if s=(ls.length:Int)then decide (0=g')else ez ls s g':=by
 unfold ez;rw[bM,List.length_singleton];by_cases e:s=(ls.length:Int)
 ·subst e;rw[if_pos rfl];have h1:decide ((ls.length:Int)<((ls.length+1:Nat):Int))=aA:=decide_eq_true (by omega);rw[h1];simp[bq]
 ·rw[if_neg e];by_cases h0:0<=s
  ·by_cases h1:s<ls.length
   ·have h3:decide (s<((ls.length+1:Nat):Int))=aA:=decide_eq_true (by omega);rw[bq,List.getElem?_append_left (by omega),<-bq,h3,decide_eq_true h1]
   ·have h3:decide (s<((ls.length+1:Nat):Int))=aw:=decide_eq_false (by omega);rw[h3,decide_eq_false h1];simp
  ·simp[h0]
theorem Av {ls:List (Int×Bool)}(ZB:ls.length<=60):jD ls=(ls,(0,0),2)\/ ∃(k:Nat) (g:Int) (Fj:List (Int×Bool)),jD ls=(Fj,((k:Int),g),0)/\k<60/\(∀g',ez ls k g'=aw)/\ ∀s g',ez Fj s g'=if s=(k:Int)then decide (g=g')else ez ls s g':=by
 unfold jD;by_cases bE:ls.findIdx lu<ls.length
 ·right;rw[if_pos bE];refine⟨_,_,_,rfl,by omega,λg'=> ?_,λs g'=> ?_⟩
  ·have hf:=List.findIdx_getElem (w:=bE);simp only[lu,aM,oa]at hf;rw[G6 bE,sl,yG bE,hf.1,Bool.and_false]
  ·rw[Mp bE];simp
 ·rw[if_neg bE];by_cases h:ls.length=60
  ·exact br (by rw[if_pos h])
  ·right;rw[if_neg h];refine⟨_,_,_,rfl,by omega,λg'=> ?_,λs g'=>XT ls s g'⟩;unfold ez;simp
structure oe (ls:List (Int×Bool)) (f:BF):Prop where
 so:VW ls
 lv: ∀s g,ez ls s g=aA↔ ∃b,f s=ae (g,b)
 bo: ∀s g b,f s=ae (g,b)->bK b=0/\b.v.length=8
theorem oe.nil:oe [] (λ_=>ai):=⟨VW.nil,λs g=>by simp[ez],by simp⟩
def fQ (ls:List (Int×Bool))(f:BF)(b:aQ):(List (Int×Bool)×BF)×(Int×Int)×Int:=
 if bK b≠0 then((ls,f),(0,0),bK b)
 else if(jD ls).2.2=0 then(((jD ls).1,dH f (jD ls).2.1.1 (ae ((jD ls).2.1.2,b))),(jD ls).2.1,0)
 else(((jD ls).1,f),(jD ls).2.1,(jD ls).2.2)
def nO (ls:List (Int×Bool))(f:BF)(h:Int×Int):(List (Int×Bool)×BF)×Int:=if ez ls h.1 h.2 then(((pg ls h.1 h.2).1,dH f h.1 ai),0)else((ls,f),7)
def cZ (f:BF)(s:Int):aQ:=((f s).getD (0,⟨0,[]⟩)).2
def aiQ (ls:List (Int×Bool))(f:BF)(h:Int×Int)(kind n:Int):BF×Int:=
 if !ez ls h.1 h.2 then(f,7)else if¬(0<=kind/\kind<8)\/n< -1000000000\/1000000000<n then(f,1)
 else(dH f h.1 (ae (h.2,uE (cZ f h.1) kind.toNat n)),0)
def qi (ls:List (Int×Bool))(f:BF)(h:Int×Int)(kind:Int):BF×Int:=
 if !ez ls h.1 h.2 then(f,7)else if¬(0<=kind/\kind<8)then(f,1)
 else if(cZ f h.1).k.toNat.testBit kind.toNat=aw then(f,5)
 else(dH f h.1 (ae (h.2,sx (cZ f h.1) kind.toNat)),0)
section
variable {ls:List (Int×Bool)} {f:BF}
theorem oe.get (h:oe ls f){s g:Int}(hl:ez ls s g=aA):f s=ae (g,cZ f s):=by obtain⟨b,hb⟩:=(h.lv s g).1 hl;unfold cZ;rw[hb];rfl
theorem oe.upd (h:oe ls f){s g:Int}(hl:ez ls s g=aA){b:aQ}(hb:bK b=0/\b.v.length=8):oe ls (dH f s (ae (g,b))):=by
 refine⟨h.so,λs' g'=> ?_,λs' g' b' hs=> ?_⟩
 ·unfold dH;by_cases e:s'=s
  ·subst e;rw[if_pos rfl];constructor
   ·intro OH;have h1:=h.get hl;rw[h.get OH]at h1;injection h1 with h1
    injection h1 with h1 _
    exact⟨b,by rw[h1]⟩
   ·rintro⟨b',jN⟩;injection jN with jN
    injection jN with h1 _
    rw[<-h1];exact hl
  ·rw[if_neg e];exact h.lv s' g'
 ·unfold dH at hs
  split at hs
  ·injection hs with hs
   injection hs with _ hs
   rw[<-hs];exact hb
  ·exact h.bo s' g' b' hs
theorem oe.spawn (h:oe ls f){b:aQ}(hv:b.v.length=8):oe (fQ ls f b).1.1 (fQ ls f b).1.2:=by
 unfold fQ;by_cases hb:bK b=0
 ·rw[if_neg (λh=>h hb)];rcases Av h.so.1 with ht|⟨k,g,Fj,ht,hk,LJ,acz⟩
  ·rw[ht,if_neg (by simp)];exact h
  ·have h1:=ab0 h.so;rw[ht]at h1⊢;rw[if_pos rfl];refine⟨h1,λs g'=> ?_,λs g' b' hs=> ?_⟩
   ·simp only;rw[acz];unfold dH;by_cases e:s=(k:Int)
    ·rw[if_pos e,if_pos e];simp
    ·rw[if_neg e,if_neg e];exact h.lv s g'
   ·simp only[dH]at hs
    split at hs
    ·injection hs with hs
     injection hs with _ hs
     rw[<-hs];exact⟨hb,hv⟩
    ·exact h.bo s g' b' hs
 ·rw[if_pos hb];exact h
theorem oe.kill (h:oe ls f)(x:Int×Int):oe (nO ls f x).1.1 (nO ls f x).1.2:=by
 unfold nO
 split
 ·rename_i hl
  refine⟨aaH h.so _ _,λs g=> ?_,λs g b hs=> ?_⟩
  ·obtain⟨k,Xj,hk2,hk3⟩:=sU hl;simp only;unfold pg;rw[if_pos hl];simp only[Xj,dL];rw[Mp hk2];unfold dH;by_cases e:s=(k:Int)
   ·rw[if_pos e,if_pos e];simp
   ·rw[if_neg e,if_neg e];exact h.lv s g
  ·simp only[dH]at hs
   split at hs
   ·cases hs
   ·exact h.bo s g b hs
 ·exact h
theorem oe.put (h:oe ls f)(x:Int×Int)(kind n:Int):oe ls (aiQ ls f x kind n).1:=by
 unfold aiQ
 split
 ·exact h
 ·rename_i hl
  split
  ·exact h
  ·rename_i hc
   have hl:ez ls x.1 x.2=aA:=by simpa using hl
   obtain⟨h1,h2⟩:=h.bo _ _ _ (h.get hl);exact h.upd hl (Cq h1 h2 (by omega) (by omega))
theorem oe.drop (h:oe ls f)(x:Int×Int)(kind:Int):oe ls (qi ls f x kind).1:=by
 unfold qi
 split
 ·exact h
 ·rename_i hl
  split
  ·exact h
  ·split
   ·exact h
   ·rename_i hk ht
    have hl:ez ls x.1 x.2=aA:=by simpa using hl
    obtain⟨h1,h2⟩:=h.bo _ _ _ (h.get hl);exact h.upd hl (Le h1 h2 (by omega) (by simpa using ht))
end
end
section
def zc (f:BF)(h:Int×Int):Option cz:=(f h.1).map λx=>⟨h,x.2⟩
def vD (ls:List (Int×Bool))(f:BF)(q:Query):List cz:=((ly ls).filterMap (zc f)).filter λr=>fD r.b.k q
def Vh (a b:cz):Prop:=a.h.1<b.h.1
theorem yP (ls:List (Int×Bool)): ∀k,(mj ls k).Pairwise (λa b=>a.1<b.1)/\ ∀x∈mj ls k,x.1<k
 |0=>⟨List.Pairwise.nil,by simp[mj]⟩
 |k+1=>by
  obtain⟨h1,h2⟩:=yP ls k;rw[mj];refine⟨List.pairwise_append.2 ⟨h1,by split<;>simp,λa ha b hb=> ?_⟩,λx hx=> ?_⟩
  ·have:=h2 a ha
   split at hb
   ·rw[eC.1 hb];exact this
   ·cases hb
  ·rcases iV.1 hx with hx|hx
   ·have:=h2 x hx;omega
   ·split at hx
    ·rw[eC.1 hx];show(k:Int)<_;omega
    ·cases hx
theorem pI {ls:List (Int×Bool)}{h:Int×Int}:h∈ly ls↔ez ls h.1 h.2=aA:=by
 rw[XU];constructor
 ·rintro⟨j,hj,rfl,h2⟩;show ez ls (j:Int) (sl ls j).1=aA;rw[G6 hj,h2];simp
 ·intro hl;obtain⟨k,h1,h2,h3⟩:=sU hl;refine⟨k,h2,?_,?_⟩
  ·show h=((k:Int),(ls.getD k (0,aw)).1);rw[h3];exact Prod.ext h1 rfl
  ·show(ls.getD k (0,aw)).2=aA;rw[h3]
section
variable {ls:List (Int×Bool)} {f:BF}
theorem Ri (h:oe ls f){r:cz}:r∈(ly ls).filterMap (zc f)↔f r.h.1=ae (r.h.2,r.b):=by
 rw[List.mem_filterMap];constructor
 ·rintro⟨x,hx,he⟩;have hl:=pI.1 hx;have hg:=h.get hl;unfold zc at he;rw[hg]at he;simp only[eY,dz]at he;rw[<-he];exact hg
 ·intro hr;refine⟨r.h,pI.2 ((h.lv _ _).2 ⟨_,hr⟩),?_⟩;unfold zc;rw[hr];rfl
theorem Tq (h:oe ls f){q:Query}{r:cz}:r∈vD ls f q↔f r.h.1=ae (r.h.2,r.b)/\fD r.b.k q=aA:=by unfold vD;rw[cu,Ri h]
theorem tD (ls:List (Int×Bool))(f:BF):((ly ls).filterMap (zc f)).Pairwise Vh:=by refine List.Pairwise.filterMap _ ?_ (yP ls ls.length).1;intro a b jz x hx y hy;unfold zc at hx hy;obtain⟨_,_,rfl⟩:=aK.1 hx;obtain⟨_,_,rfl⟩:=aK.1 hy;exact jz
theorem JU (ls:List (Int×Bool))(f:BF)(q:Query):(vD ls f q).Pairwise Vh:=(tD ls f).filter _
theorem zp {l:List cz}(h:l.Pairwise Vh):l.Nodup:=h.imp λ{a b} h e=>by unfold Vh at h;rw[e]at h;omega
theorem abG {l l':List cz}(h:l.Pairwise Vh)(h':l'.Pairwise Vh)(he: ∀r,r∈l↔r∈l'):l=l':=by
 refine List.Perm.eq_of_pairwise (le:=Vh) (λa b _ _ h1 h2=>by unfold Vh at h1 h2;omega) h h' ?_
 classical
 exact(List.perm_ext_iff_of_nodup (zp h) (zp h')).2 he
def BB:Query:=⟨0,0,0⟩
theorem T1 (ls:List (Int×Bool))(f:BF)(q:Query):(vD ls f q).length<=ls.length:=by unfold vD;refine bP (List.length_filter_le _ _) (bP (List.length_filterMap_le _ _) ?_);unfold ly;exact G7 ls _
theorem P6 {T:WT}{f:BF}(hT:nm T f)(hk: ∀K∈T.ks,∀r∈T.rw K,r.b.k=K)(q:Query){r:cz}:(∃K∈T.ks,fD K q=aA/\r∈T.rw K)↔f r.h.1=ae (r.h.2,r.b)/\fD r.b.k q=aA:=by
 constructor
 ·rintro⟨K,hK,hm,hr⟩;obtain⟨i,hi,U2⟩:=dp.1 hr;obtain⟨h1,_⟩:=hT.at_ K hK i r (by rw[ao hi,U2]);rw[hk K hK r hr];exact⟨h1,hm⟩
 ·rintro⟨h1,h2⟩;obtain⟨K,hK,i,hi⟩:=hT.all _ _ _ h1;have hr:r∈T.rw K:=oX hi;exact⟨K,hK,by rw[<-hk K hK r hr];exact h2,hr⟩
theorem Nt {T:WT}(hT:nm T f)(h:oe ls f)(hk: ∀K∈T.ks,∀r∈T.rw K,r.b.k=K)(q:Query){ks:List Int}(hp:ks.Perm T.ks){ys:List cz}(hy:ys.Perm ((ks.filter λK=>fD K q).flatMap T.rw))(hs:ys.Pairwise λa b=> ¬b.h.1<a.h.1):ys=vD ls f q:=by
 have iM: ∀r,r∈ys↔f r.h.1=ae (r.h.2,r.b)/\fD r.b.k q=aA:=by
  intro r;rw[hy.mem_iff,List.mem_flatMap,<-P6 hT hk q];constructor
  ·rintro⟨K,hK,hr⟩;rw[cu]at hK;exact⟨K,hp.mem_iff.1 hK.1,hK.2,hr⟩
  ·rintro⟨K,hK,hm,hr⟩;exact⟨K,cu.2 ⟨hp.mem_iff.2 hK,hm⟩,hr⟩
 have LO:(((ks.filter λK=>fD K q).flatMap T.rw).map λr=>r.h.1).Nodup:=by
  have Fg:(ks.filter λK=>fD K q).Nodup:=(hp.nodup_iff.2 hT.nd).sublist List.filter_sublist;have oB: ∀K∈(ks.filter λK=>fD K q),K∈T.ks:=λK hK=>hp.mem_iff.1 (cu.1 hK).1
  generalize (ks.filter λK=>fD K q)=zs at Fg oB
  induction zs with
  |nil=>simp
  |cons K zs ih=>
   obtain⟨g1,g2⟩:=List.nodup_cons.1 Fg;rw[cM,dX,List.nodup_append];have key: ∀K'∈T.ks,∀(i:Nat) r,(T.rw K')[i]? =ae r->eG T.ps r.h.1=ae (K',(i:Int)):=λK' jH i r hr=>(hT.at_ K' jH i r hr).2
   refine⟨?_,ih g2 (λK' jH=>oB K' (lK _ jH)),?_⟩
   ·refine Mz λi j x LM hi hj=> ?_
    rw[dK]at hi hj;obtain⟨r,hr,rfl⟩:=aK.1 hi;obtain⟨r',we,e⟩:=aK.1 hj;have h1:=key K (oB K (by simp)) i r hr;have h2:=key K (oB K (by simp)) j r' we;rw[<-e,h2]at h1;injection h1 with h1
    injection h1 with _ h1
    omega
   ·intro a ha b hb e;obtain⟨r,hr,rfl⟩:=aN.1 ha;obtain⟨r',we,rfl⟩:=aN.1 hb;obtain⟨K',jH,we⟩:=List.mem_flatMap.1 we;obtain⟨i,hi,U2⟩:=dp.1 hr;obtain⟨j,hj,hjr⟩:=dp.1 we;have h1:=key K (oB K (by simp)) i r (by rw[ao hi,U2]);have h2:=key K' (oB K' (lK _ jH)) j r' (by rw[ao hj,hjr]);rw[e,h2]at h1;injection h1 with h1
    injection h1 with h1 _
    exact g1 (by rw[<-h1];exact jH)
 have hyn:(ys.map λr=>r.h.1).Nodup:=(hy.map _).nodup_iff.2 LO;refine abG ?_ (JU ls f q) λr=>by rw[iM,Tq h]
 rw[List.Nodup,List.pairwise_map]at hyn;exact(hs.and hyn).imp λ{a b} ⟨h1,h2⟩=>by unfold Vh;omega
end
end
section
theorem Ls {α β:Type}{f g:α->Option β}: ∀{l:List α},(∀x∈l,f x=g x)->l.filterMap f=l.filterMap g
 | [],_=>rfl
 |a::l,h=>by rw[List.filterMap_cons,List.filterMap_cons,h a (by simp),Ls (l:=l) λx hx=>h x (by simp[hx])]
section
variable {ls:List (Int×Bool)} {f:BF}
def mf (ls:List (Int×Bool))(f:BF):List cz:=(ly ls).filterMap (zc f)
theorem mm (h:oe ls f){r:cz}:r∈mf ls f↔f r.h.1=ae (r.h.2,r.b):=Ri h
theorem D5 (hz: ∀k,fD k BB=aA):vD ls f BB=mf ls f:=by unfold vD mf;exact List.filter_eq_self.2 λr _=>hz _
theorem XV (h:oe ls f){x y:Int×Int}(hx:ez ls x.1 x.2=aA)(hy:ez ls y.1 y.2=aA)(e:x.1=y.1):x=y:=by
 have h1:=h.get hx;have h2:=h.get hy;rw[e]at h1;rw[h1]at h2;injection h2 with h2
 injection h2 with h2 _
 exact Prod.ext e h2
end
end
section
def Alike (m m':jS):Prop:= ∀x,eG m x=eG m' x
section
variable {m m':jS} {c p h x y:Hd}
theorem xe (hn:(bG m).Nodup):m.Nodup:=List.Pairwise.of_map (·.1) (λa b dQ e=>dQ (by rw[e])) hn
theorem Alike.symm (ha:Alike m m'):Alike m' m:=λx=>(ha x).symm
theorem uR (hn:(bG m).Nodup):Alike (dx m) m:=λx=>by have hp:(dx m).Perm m:=iG m _;have Q0:(bG (dx m)).Nodup:=(hp.map _).nodup_iff.2 hn;apply Option.ext;intro v;rw[nz Q0,nz hn,hp.mem_iff]
theorem AS (hn:(bG m).Nodup):(bG (dx m)).Nodup:=((iG m _).map _).nodup_iff.2 hn
theorem oz (hn:(bG m).Nodup)(Q0:(bG m').Nodup)(ha:Alike m m'):dx m=dx m':=by
 have hp:(dx m').Perm m:=by
  have h1:m'.Perm m:=(List.perm_ext_iff_of_nodup (xe Q0) (xe hn)).2 λb=>by rw[<-nz Q0,<-nz hn,ha]
  exact(iG m' _).trans h1
 exact(jr (·.1) (oy hn) hp (lQ (·.1) m')).symm
theorem K0 (hn:(bG m).Nodup):dx (dx m)=dx m:=oz (AS hn) hn (uR hn)
theorem Alike.up (ha:Alike m m')(hu:Up m x y):Up m' x y:=hu.mono λc p e=>by rw[<-ha];exact e
theorem Alike.aet (ha:Alike m m'):Up m x y↔Up m' x y:=⟨ha.up,ha.symm.up⟩
theorem Alike.kids (hn:(bG m).Nodup)(Q0:(bG m').Nodup)(ha:Alike m m')(h:Hd):kids m h=kids m' h:=by refine Ar ((List.perm_ext_iff_of_nodup (xM hn h) (xM Q0 h)).2 λx=> ?_) (oG _) (oG _);rw[lB hn,lB Q0,ha]
theorem Alike.uy (ha:Alike m m')(h:oZ m):oZ m':=h.sub λc p e=>by rw[ha];exact e
theorem Alike.under (hm:jK m)(U7:jK m')(ha:Alike m m')(h:Hd):under m h=under m' h:=by
 refine uc hm.nodup hm.uy (λh=>Go.Proofs.YtknejlcijdngoaaGreat.under m h=Go.Proofs.YtknejlcijdngoaaGreat.under m' h) (λh ih=> ?_) h;rw[vI hm.nodup hm.uy,vI U7.nodup U7.uy,Alike.kids hm.nodup U7.nodup ha];refine pF λc hc=> ?_
 rw[ih c (by rw[ha];exact(lB U7.nodup).1 hc)]
theorem Alike.put (ha:Alike m m')(c p:Hd):Alike (iP m c p) (iP m' c p):=λx=>by rw[lR,lR,ha]
theorem Alike.del (ha:Alike m m')(c:Hd):Alike (ep m c) (ep m' c):=λx=>by rw[wj,wj,ha]
theorem Alike.sk (ha:Alike m m')(c p:Hd):Alike (fx m c p).1 (fx m' c p).1/\(fx m c p).2=(fx m' c p).2:=by
 unfold fx;have e:(c=p\/Up m p c)↔(c=p\/Up m' p c):=by rw[ha.aet]
 by_cases hc:c=p\/Up m p c
 ·rw[if_pos hc,if_pos (e.1 hc)];exact⟨ha,rfl⟩
 ·rw[if_neg hc,if_neg (λh=>hc (e.2 h))];exact⟨ha.put c p,rfl⟩
theorem Alike.loosen (ha:Alike m m')(c:Hd):Alike (fG m c).1 (fG m' c).1/\(fG m c).2=(fG m' c).2:=by
 unfold fG;rw[ha c]
 split
 ·exact⟨ha.del c,rfl⟩
 ·exact⟨ha,rfl⟩
end
theorem Gi:dx []=[]:=by unfold dx;simp
structure ZS where
 ls:List (Int×Bool)
 f:BF
 B:jS
def ZS.live (z:ZS)(h:Hd):Bool:=ez z.ls h.1 h.2
structure j9 (z:ZS):Prop where
 w:oe z.ls z.f
 rS:jK z.B
 Ul:dx z.B=z.B
 lv: ∀b∈z.B,z.live b.1=aA/\z.live b.2=aA
def zB:ZS:=⟨[],λ_=>ai,[]⟩
theorem j9.nil:j9 zB:=⟨oe.nil,jK.nil,by unfold zB dx;simp,by simp[zB]⟩
def ZS.rows (z:ZS):List cz:=mf z.ls z.f
def Bd (z:ZS)(x:Hd):ZS:=⟨(nO z.ls z.f x).1.1,(nO z.ls z.f x).1.2,oA z.B x⟩
def uo (z:ZS)(l:List Hd):ZS:=l.foldl Bd z
noncomputable def Be (z:ZS)(x:Hd):List Hd:=(under z.B x).reverse++[x]
noncomputable def sT (z:ZS)(x:Hd):ZS×Int:=if z.live x=aA then(uo z (Be z x),0)else(z,7)
noncomputable def rO (z:ZS)(c p:Hd):ZS×Int:=if z.live c=aA/\z.live p=aA then(⟨z.ls,z.f,dx (fx z.B c p).1⟩,(fx z.B c p).2)else(z,7)
def om (z:ZS)(c:Hd):ZS×Int:=if z.live c=aA then(⟨z.ls,z.f,(fG z.B c).1⟩,(fG z.B c).2)else(z,7)
noncomputable def ti (z:ZS)(o:ik):ZS×Hd×Int:=
 if o.d=1 then(⟨(fQ z.ls z.f o.b).1.1,(fQ z.ls z.f o.b).1.2,z.B⟩,(fQ z.ls z.f o.b).2.1,(fQ z.ls z.f o.b).2.2)
 else if o.d=2 then((sT z o.a).1,(0,0),(sT z o.a).2)
 else if o.d=3 then(⟨z.ls,(aiQ z.ls z.f o.a o.k o.n).1,z.B⟩,(0,0),(aiQ z.ls z.f o.a o.k o.n).2)
 else if o.d=4 then(⟨z.ls,(qi z.ls z.f o.a o.k).1,z.B⟩,(0,0),(qi z.ls z.f o.a o.k).2)
 else if o.d=5 then((rO z o.a o.t).1,(0,0),(rO z o.a o.t).2)
 else if o.d=6 then((om z o.a).1,(0,0),(om z o.a).2)
 else(z,(0,0),1)
noncomputable def CW (os:List ik):ZS:=os.foldl (λz o=>(ti z o).1) zB
noncomputable def qg (os:List ik)(k:Nat):ZS:=CW (os.take k)
theorem Lc (os:List ik)(k:Nat)(h:k<os.length):qg os (k+1)=(ti (qg os k) os[k]).1:=by unfold qg CW;rw[aR h,oc];rfl
section
variable {z:ZS} {x c p:Hd}
theorem G0 (h:oe z.ls z.f)(y:Hd):ez (nO z.ls z.f x).1.1 y.1 y.2=(ez z.ls y.1 y.2&& !decide (y=x)):=by
 have h1:=(h.kill x).lv y.1 y.2;have h2:=h.lv y.1 y.2;rw[nJ,h1,aM,h2];unfold nO;by_cases hl:ez z.ls x.1 x.2=aA
 ·rw[if_pos hl];simp only[dH];by_cases e:y.1=x.1
  ·rw[if_pos e];constructor
   ·rintro⟨b,hb⟩;cases hb
   ·rintro⟨hb,dQ⟩;exact absurd (XV h (h2.2 hb) hl e) (by simpa using dQ)
  ·rw[if_neg e];have dQ:y≠x:=λe'=>e (by rw[e'])
   simp[dQ]
 ·rw[if_neg hl];constructor
  ·intro hb;refine⟨hb,?_⟩;have dQ:y≠x:=λe=>hl (by rw[<-e];exact h2.2 hb)
   simpa using dQ
  ·exact λhb=>hb.1
theorem j9.Bd (h:j9 z)(x:Hd):j9 (Bd z x):=by
 refine⟨h.w.kill x,h.rS.gone x,?_,λb hb=> ?_⟩
 ·change dx (oA z.B x)=oA z.B x;rw[CR h.rS.nodup,h.Ul];rfl
 ·have jN:b∈z.B/\ ¬b.1=x/\ ¬b.2=x:=by have hb:b∈oA z.B x:=hb;unfold oA at hb;rw[cu]at hb;simpa using hb
  have h1:=h.lv b jN.1;change ez (nO z.ls z.f x).1.1 b.1.1 b.1.2=aA/\ez (nO z.ls z.f x).1.1 b.2.1 b.2.2=aA;rw[G0 h.w,G0 h.w];have h11:ez z.ls b.1.1 b.1.2=aA:=h1.1;have h12:ez z.ls b.2.1 b.2.2=aA:=h1.2;rw[h11,h12];simp[jN.2.1,jN.2.2]
theorem j9.uo (h:j9 z)(l:List Hd):j9 (uo z l):=by
 unfold Go.Proofs.YtknejlcijdngoaaGreat.uo
 induction l generalizing z with
 |nil=>exact h
 |cons a l ih=>exact ih (h.Bd a)
theorem j9.kill (h:j9 z)(x:Hd):j9 (sT z x).1:=by
 unfold sT
 split
 ·exact h.uo _
 ·exact h
theorem j9.sk (h:j9 z)(c p:Hd):j9 (rO z c p).1:=by
 unfold rO
 split
 ·rename_i hl
  have h1:=h.rS.sk c p;refine⟨h.w,⟨AS h1.nodup,(uR h1.nodup).symm.uy h1.uy⟩,K0 h1.nodup,λb hb=> ?_⟩;change b∈dx (fx z.B c p).1 at hb;rw[Tp h1.nodup]at hb;have old:eG z.B b.1=ae b.2->z.live b.1=aA/\z.live b.2=aA:=λe=>h.lv b ((nz h.rS.nodup).1 e)
  unfold fx at hb
  split at hb
  ·exact old hb
  ·simp only at hb;rw[lR]at hb
   split at hb
   ·rename_i e
    injection hb with hb
    rw[e,<-hb];exact hl
   ·exact old hb
 ·exact h
theorem FE (h:dx z.B=z.B)(P:Hd×Hd->Bool)(hn:(bG z.B).Nodup):dx (z.B.filter P)=z.B.filter P:=by have hs:=lQ (λb:Hd×Hd=>b.1) z.B;change List.Pairwise _ (dx z.B)at hs;rw[h]at hs;exact(jr (λb:Hd×Hd=>b.1) (oy (m:=z.B.filter P) (hn.sublist (List.filter_sublist.map _))) (pW _) (hs.sublist List.filter_sublist)).symm
theorem j9.loosen (h:j9 z)(c:Hd):j9 (om z c).1:=by
 unfold om
 split
 ·refine⟨h.w,h.rS.loosen c,?_,λb hb=> ?_⟩
  ·unfold fG
   split
   ·exact FE h.Ul _ h.rS.nodup
   ·exact h.Ul
  ·change b∈(fG z.B c).1 at hb;unfold fG at hb
   split at hb
   ·exact h.lv b (fT.1 hb).1
   ·exact h.lv b hb
 ·exact h
theorem Ha {ls Fj:List (Int×Bool)}{f f':BF}(h:oe ls f)(h':oe Fj f')(hs: ∀s g b,f s=ae (g,b)-> ∃b',f' s=ae (g,b')){s g:Int}(hl:ez ls s g=aA):ez Fj s g=aA:=by obtain⟨b,hb⟩:=(h.lv s g).1 hl;exact(h'.lv s g).2 (hs s g b hb)
theorem Ig {ls:List (Int×Bool)}{f:BF}(h:oe ls f){b:aQ}(s g:Int)(b0:aQ)(e:f s=ae (g,b0)):(fQ ls f b).1.2 s=ae (g,b0):=by
 unfold fQ;by_cases hb:bK b=0
 ·rw[if_neg (λh=>h hb)];rcases Av h.so.1 with ht|⟨k,g',Fj,ht,hk,LJ,acz⟩
  ·rw[ht,if_neg (by simp)];exact e
  ·rw[ht,if_pos rfl];simp only[dH];rw[if_neg]
   ·exact e
   ·intro e2;have:=(h.lv s g).2 ⟨_,e⟩;rw[e2,LJ]at this;cases this
 ·rw[if_pos hb];exact e
theorem j9.do_ (h:j9 z){o:ik}(hv:o.b.v.length=8):j9 (ti z o).1:=by
 unfold ti
 split
 ·have h1:=h.w.spawn (b:=o.b) hv;refine⟨h1,h.rS,h.Ul,λb hb=> ?_⟩;have h2:=h.lv b hb;exact⟨Ha h.w h1 (λs g b e=>⟨b,Ig h.w s g b e⟩) h2.1,Ha h.w h1 (λs g b e=>⟨b,Ig h.w s g b e⟩) h2.2⟩
 ·split
  ·exact h.kill _
  ·split
   ·exact⟨h.w.put _ _ _,h.rS,h.Ul,h.lv⟩
   ·split
    ·exact⟨h.w.drop _ _,h.rS,h.Ul,h.lv⟩
    ·split
     ·exact h.sk _ _
     ·split
      ·exact h.loosen _
      ·exact h
theorem SE (os:List ik)(hv: ∀o∈os,o.b.v.length=8)(h:j9 z):j9 (os.foldl (λz o=>(ti z o).1) z):=by
 induction os generalizing z with
 |nil=>exact h
 |cons o os ih=>exact ih (λo ho=>hv o (by simp[ho])) (h.do_ (hv o (by simp)))
theorem Ld {os:List ik}(hv: ∀o∈os,o.b.v.length=8):j9 (CW os):=SE os hv j9.nil
theorem SD {os:List ik}(hv: ∀o∈os,o.b.v.length=8)(k:Nat):j9 (qg os k):=Ld λo ho=>hv o (oY ho)
theorem j9.len (h:j9 z):z.B.length<=60:=by
 have h1:=vq (l:=bG z.B) (l':=ly z.ls) h.rS.nodup λx hx=>by obtain⟨b,hb,rfl⟩:=aN.1 hx;exact pI.2 (h.lv b hb).1
 have h2:(ly z.ls).length<=z.ls.length:=by rw[Pa];exact List.countP_le_length
 have h3:=h.w.so.1;have h4:(bG z.B).length=z.B.length:=by simp[bG]
 omega
end
end
section
def fa (was now:aQ)(k:Nat):aQ:=⟨was.k,qG (λi=>now.v.getD ((kinds was.k.toNat).getD i 0) 0) (kinds was.k.toNat) was.v k⟩
theorem Pt (f:Nat->Int)(l:List Nat)(v:List Int)(hn:l.Nodup){k:Nat}(hk:k<l.length): ∀i,i<=k->(qG f l v i).getD (l.getD k 0) 0=v.getD (l.getD k 0) 0:=by
 intro i
 induction i with
 |zero=>intro _;rfl
 |succ i ih=>
  intro hi;unfold qG;rw[uZ,if_neg]
  ·exact ih (by omega)
  ·rintro⟨e,_⟩;rw[oj (show i<l.length by omega),oj hk]at e;exact(jc.1 (List.nodup_iff_pairwise_ne.1 hn) i k (by omega) hk (by omega)) e
theorem Ug {v:List Int}{k:Nat}{x:Int}(h:v.getD k 0=x)(hk:k<v.length):v.set k x=v:=by
 apply List.ext_getElem (by simp);intro i h1 h2;rw[List.getElem_set]
 split
 ·rename_i e
  subst e;rw[<-h];simp[bp,hk]
 ·rfl
section
variable {was now:aQ}
theorem Mw {k:Nat}:(fa was now k).v.length=was.v.length:=yU _ _ _ _
theorem Bg {k:Nat}:fa was now (k+1)=⟨was.k,(fa was now k).v.set ((kinds was.k.toNat).getD k 0) (now.v.getD ((kinds was.k.toNat).getD k 0) 0)⟩:=rfl
theorem Mv (hv:was.v.length=8){k:Nat}(hk:k<(kinds was.k.toNat).length)(he:now.v.getD (kinds was.k.toNat)[k] 0=was.v.getD (kinds was.k.toNat)[k] 0):fa was now (k+1)=fa was now k:=by
 have hm:=(ju was.k.toNat _).1 (aU hk);rw[Bg,oj hk];have h1:=Pt (λi=>now.v.getD ((kinds was.k.toNat).getD i 0) 0) (kinds was.k.toNat) was.v (rC _) hk k (az _);rw[oj hk]at h1;have h2:(fa was now k).v.getD (kinds was.k.toNat)[k] 0=now.v.getD (kinds was.k.toNat)[k] 0:=h1.trans he.symm;rw[Ug h2 (by rw[Mw,hv];exact hm.1)]
 rfl
theorem Dp (wa:bK was=0){k:Nat}(hk:k<(kinds was.k.toNat).length):uE (fa was now k) (kinds was.k.toNat)[k] (now.v.getD (kinds was.k.toNat)[k] 0)=fa was now (k+1):=by have hm:=(ju was.k.toNat _).1 (aU hk);have hb:=(ns was wa).1;unfold uE;rw[Bg,oj hk];have hkk:(fa was now k).k=was.k:=rfl;rw[hkk,Rr was.k.toNat _ (by omega) hm.1 hm.2];congr 1;omega
theorem Pn (hv:was.v.length=8)(hn:now.k=was.k)(Bb:now.v.length=8)(QX: ∀j,j∉kinds was.k.toNat->now.v.getD j 0=was.v.getD j 0):fa was now (kinds was.k.toNat).length=now:=by
 have e:(fa was now (kinds was.k.toNat).length).v=now.v:=by
  apply List.ext_getElem (by rw[Mw,hv,Bb]);intro j h1 h2;have hj:j<8:=by omega
  have g1:(fa was now (kinds was.k.toNat).length).v.getD j 0=now.v.getD j 0:=by
   by_cases hm:j∈kinds was.k.toNat
   ·obtain⟨i,hi,rfl⟩:=dp.1 hm;have h3:=Rs (λi=>now.v.getD ((kinds was.k.toNat).getD i 0) 0) (kinds was.k.toNat) was.v (rC _) _ (az _) i hi (by rw[oj hi,hv];exact hj);rw[oj hi]at h3;exact h3
   ·rw[QX j hm];exact MH _ _ _ _ hm _ (az _)
  simpa[bp,h1,h2]using g1
 have e2:(fa was now (kinds was.k.toNat).length)=⟨was.k,(fa was now (kinds was.k.toNat).length).v⟩:=rfl;rw[e2,e,<-hn]
end
theorem P9 (f:BF)(s:Int)(x y:Option (Int×aQ)):dH (dH f s x) s y=dH f s y:=by
 funext k;unfold dH
 split<;>rfl
theorem Ur (f:BF)(s:Int){x:Option (Int×aQ)}(h:f s=x):dH f s x=f:=by
 funext k;unfold dH
 split
 ·rename_i e;rw[e,h]
 ·rfl
def vu (f:BF)(s:Sys):BF:=λk=>(f k).map λx=>(x.1,cq x.2 s)
def rH (f:BF)(s:Sys)(l:List cz):BF:=l.foldl (λf r=>dH f r.h.1 (ae (r.h.2,cq r.b s))) f
theorem ze (f:BF)(s:Sys)(l:List cz)(r:cz):rH f s (l++[r])=dH (rH f s l) r.h.1 (ae (r.h.2,cq r.b s)):=by unfold rH;rw[oc];rfl
theorem Bu (f:BF)(s:Sys)(l:List cz){k:Int}(h: ∀r∈l,r.h.1≠k):rH f s l k=f k:=by
 unfold rH
 induction l generalizing f with
 |nil=>rfl
 |cons r l ih=>rw[List.foldl_cons,ih _ λr hr=>h r (by simp[hr])];unfold dH;rw[if_neg (λe=>h r (by simp) e.symm)]
theorem M' {ls:List (Int×Bool)}{f:BF}(hk:oe ls f)(s:Sys):rH f s (mf ls f)=vu f s:=by
 have key: ∀(n:Nat) (l:List cz),l.length=n->(∀r∈l,f r.h.1=ae (r.h.2,r.b))-> ∀k,(∃r∈l,r.h.1=k)->rH f s l k=vu f s k:=by
  intro n
  induction n with
  |zero=>rintro l h0 _ k ⟨r,hr,_⟩;rw[gg h0]at hr;cases hr
  |succ n ih=>
   intro l hn hl k hx;have dQ:l≠ []:=by intro e;rw[e]at hn;cases hn
   have e0:=List.dropLast_concat_getLast dQ;generalize l.getLast dQ=r at e0;generalize hd:l.dropLast=l' at e0;have OH:l'.length=n:=by rw[<-hd,List.length_dropLast,hn];rfl
   clear hd;subst e0;rw[ze];unfold dH;by_cases e:k=r.h.1
   ·rw[if_pos e];unfold vu;rw[e,hl r (by simp)];rfl
   ·rw[if_neg e];refine ih l' OH (λr hr=>hl r (by simp[hr])) k ?_;obtain⟨r',we,he⟩:=hx;rcases iV.1 we with h|h
    ·exact⟨r',h,he⟩
    ·rw[eC]at h;subst h;exact absurd he.symm e
 funext k;by_cases hx: ∃r∈mf ls f,r.h.1=k
 ·exact key _ _ rfl (λr hr=>(mm hk).1 hr) k hx
 ·have wM:f k=ai:=by
   cases hf:f k with
   |none=>rfl
   |some x=>exact absurd ⟨⟨(k,x.1),x.2⟩,(mm hk).2 hf,rfl⟩ hx
  rw[Bu f s _ (λr hr e=>hx ⟨r,hr,e⟩)];unfold vu;rw[wM];rfl
theorem oe.one {ls:List (Int×Bool)}{f:BF}(h:oe ls f)(s:Sys):oe ls (vu f s):=by
 refine⟨h.so,λk g=> ?_,λk g b hb=> ?_⟩
 ·rw[h.lv];unfold vu;constructor
  ·rintro⟨b,hb⟩;exact⟨cq b s,by rw[hb];rfl⟩
  ·rintro⟨b,hb⟩;obtain⟨x,hx,he⟩:=aK.1 hb;injection he with h1 h2
   exact⟨x.2,by rw[hx,<-h1]⟩
 ·unfold vu at hb;obtain⟨x,hx,he⟩:=aK.1 hb;injection he with h1 h2
  have h3:=h.bo k x.1 x.2 hx;rw[<-h2];exact⟨yx _ _ h3.2 h3.1,by rw[fM];exact h3.2⟩
def P5 (z:ZS)(s:Sys):ZS:=⟨z.ls,vu z.f s,z.B⟩
def jg (z:ZS)(ss:List Sys):ZS:=ss.foldl P5 z
theorem j9.sys {z:ZS}(h:j9 z)(s:Sys):j9 (P5 z s):=⟨h.w.one s,h.rS,h.Ul,h.lv⟩
theorem j9.run {z:ZS}(h:j9 z)(ss:List Sys):j9 (jg z ss):=by
 unfold jg
 induction ss generalizing z with
 |nil=>exact h
 |cons s ss ih=>exact ih (h.sys s)
theorem T7 (z:ZS)(ss:List Sys){k:Nat}(hk:k<ss.length):jg z (ss.take (k+1))=P5 (jg z (ss.take k)) ss[k]:=by unfold jg;rw[aR hk,oc];rfl
end
section
def gS (sp:List Hd)(h:Hd):Option Hd:=if 0<=h.1 then ae h else if h.1< -(sp.length:Int)then ai else ae (sp.getD (-h.1-1).toNat (0,0))
def mL (sp:List Hd)(o:ik):Option ik:=
 if o.d=2\/o.d=3\/o.d=4\/o.d=6 then(gS sp o.a).map λa=>{o with a:=a}
 else if o.d=5 then(gS sp o.a).bind λa=>(gS sp o.t).map λt=>{o with a:=a,t:=t}
 else ae o
abbrev ZL:=ZS×List Hd
noncomputable def Lg (s:ZL)(o:ik):Int:=((mL s.2 o).map λo=>(ti s.1 o).2.2).getD 5
noncomputable def Mx (s:ZL)(o:ik):ZL:=((ti s.1 ((mL s.2 o).getD o)).1,if o.d=1 then s.2++[(ti s.1 o).2.1]else s.2)
noncomputable def vG (s:ZL)(o:ik):Option ZL:=if Lg s o=0 then ae (Mx s o)else ai
noncomputable def pM:ZL->List ik->Option ZL
 |s,[]=>ae s
 |s,o::os=>(vG s o).bind λs=>pM s os
theorem Bv (s:ZL)(a b:List ik):pM s (a++b)=(pM s a).bind λs=>pM s b:=by
 induction a generalizing s with
 |nil=>rfl
 |cons o a ih=>
  rw[dJ,pM,pM];cases vG s o with
  |none=>rfl
  |some s=>exact ih s
theorem Hy {s s':ZL}{os:List ik}{k:Nat}(hk:k<os.length)(h:pM s (os.take k)=ae s'):pM s (os.take (k+1))=vG s' os[k]:=by rw[aR hk,Bv,h,rM,pM];cases vG s' os[k]<;>rfl
theorem T2 {s s':ZL}{os:List ik}{k:Nat}(hk:k<os.length)(h:pM s (os.take k)=ae s')(he:Lg s' os[k]≠0):pM s os=ai:=by
 conv=>lhs;rw[<-nQ (k+1) os]
 rw[Bv,Hy hk h];unfold vG;rw[if_neg he];rfl
theorem Pd {sp:List Hd}{o o':ik}(h:mL sp o=ae o'):o'.d=o.d/\o'.b=o.b/\o'.k=o.k/\o'.n=o.n:=by
 unfold mL at h
 split at h
 ·obtain⟨a,ha,rfl⟩:=aK.1 h;exact⟨rfl,rfl,rfl,rfl⟩
 ·split at h
  ·obtain⟨a,ha,h⟩:=cR.1 h;obtain⟨t,ht,rfl⟩:=aK.1 h;exact⟨rfl,rfl,rfl,rfl⟩
  ·injection h with h;rw[<-h];exact⟨rfl,rfl,rfl,rfl⟩
theorem Tl {sp:List Hd}{o:ik}(h:o.d=1):mL sp o=ae o:=by unfold mL;rw[if_neg (by omega),if_neg (by omega)]
theorem X9 {s:ZL}(h:j9 s.1){o:ik}(hv:o.b.v.length=8):j9 (Mx s o).1:=by
 unfold Mx;refine h.do_ ?_;cases e:mL s.2 o with
 |none=>exact hv
 |some o'=>rw[bI,(Pd e).2.1];exact hv
theorem RH {s s':ZL}{os:List ik}(h:j9 s.1)(hv: ∀o∈os,o.b.v.length=8)(hr:pM s os=ae s'):j9 s'.1:=by
 induction os generalizing s with
 |nil=>injection hr with hr;rw[<-hr];exact h
 |cons o os ih=>
  rw[pM]at hr;obtain⟨s1,h1,h2⟩:=cR.1 hr;unfold vG at h1
  split at h1
  ·injection h1 with h1
   rw[<-h1]at h2;exact ih (X9 h (hv o (by simp))) (λo ho=>hv o (by simp[ho])) h2
  ·cases h1
def rW (sp:List Hd)(h:Hd):Hd:=if h.1<0/\ -(sp.length:Int)<=h.1 then sp.getD (-h.1-1).toNat (0,0)else h
theorem Dn {sp:List Hd}{h h':Hd}(e:gS sp h=ae h'):rW sp h=h':=by
 unfold gS at e;unfold rW
 split at e
 ·rw[if_neg (by omega)];injection e
 ·split at e
  ·cases e
  ·rw[if_pos (by omega)];injection e
def Plain (o:ik):Prop:=0<=o.a.1/\0<=o.t.1
end
section
def jh (b:aQ)(ss:List Sys):aQ:=ss.foldl cq b
theorem QB (ss:List Sys): ∀b,(jh b ss).k=b.k:=by
 induction ss with
 |nil=>intro b;rfl
 |cons s ss ih=>intro b;show(jh (cq b s) ss).k=_;rw[ih,oh]
theorem vS (ss:List Sys): ∀b,(jh b ss).v.length=b.v.length:=by
 induction ss with
 |nil=>intro b;rfl
 |cons s ss ih=>intro b;show(jh (cq b s) ss).v.length=_;rw[ih,fM]
theorem Lb (ss:List Sys): ∀b,b.v.length=8->bK b=0->bK (jh b ss)=0:=by
 induction ss with
 |nil=>intro b _ h;exact h
 |cons s ss ih=>intro b hb h;exact ih _ (by rw[fM];exact hb) (yx b s hb h)
theorem Ol (b:aQ)(ss:List Sys)(s:Sys):jh b (ss++[s])=cq (jh b ss) s:=by unfold jh;rw[oc];rfl
def rX (w:aQ)(l:List Nat)(v:List Int):List Int:=l.foldl (λv k=>v.set k (w.v.getD k 0)) v
def Jm (b:aQ)(v:List Int)(s:Sys):List Int:=rX (cq b s) (kinds s.write.toNat) v
def iz (b:aQ)(ss:List Sys):aQ:=⟨b.k,ss.foldl (Jm b) b.v⟩
theorem xP (w:aQ)(l:List Nat): ∀v,(rX w l v).length=v.length:=by
 induction l with
 |nil=>intro v;rfl
 |cons k l ih=>intro v;show(rX w l (v.set k _)).length=_;rw[ih,ew]
theorem Tr (w:aQ)(l:List Nat): ∀(v:List Int) (k:Nat),k<v.length->(rX w l v).getD k 0=if k∈l then w.v.getD k 0 else v.getD k 0:=by
 induction l with
 |nil=>intro v k _;simp[rX]
 |cons i l ih=>
  intro v k hk;show(rX w l (v.set i _)).getD k 0=_;rw[ih _ k (by rw[ew];exact hk),uZ];by_cases h1:k∈l
  ·simp[h1]
  ·by_cases h2:i=k
   ·subst h2;simp[h1,hk]
   ·have: ¬k=i:=λe=>h2 e.symm
    simp[h1,h2,this]
theorem p8 (b:aQ)(ss:List Sys):(iz b ss).v.length=b.v.length:=by
 unfold iz;have key: ∀(ss:List Sys) (v:List Int),(ss.foldl (Jm b) v).length=v.length:=by
  intro ss
  induction ss with
  |nil=>intro v;rfl
  |cons s ss ih=>intro v;rw[List.foldl_cons,ih];exact xP _ _ _
 exact key ss b.v
theorem KV (b:aQ)(ss:List Sys)(s:Sys):iz b (ss++[s])=⟨b.k,Jm b (iz b ss).v s⟩:=by unfold iz;rw[oc];rfl
theorem Wp {b d:aQ}{s:Sys}(hk:d.k=b.k)(hb:b.v.length=8)(hd:d.v.length=8)(h: ∀k,k<8->s.write.toNat.testBit k=aA\/s.read.toNat.testBit k=aA->d.v.getD k 0=b.v.getD k 0){k:Nat}(sK:k<8)(hw:s.write.toNat.testBit k=aA):(cq d s).v.getD k 0=(cq b s).v.getD k 0:=by
 by_cases hq:fD b.k s.q=aA
 ·by_cases tS:k∈wl b s
  ·obtain⟨j,hj,tQ⟩:=yS tS;have a:=qd b s hb hq j hj;have c:=qd d s hd (by rw[hk];exact hq) j (by rw[Gb hk];exact hj);rw[Gb hk,tQ]at c;rw[tQ]at a;rw[a,c];refine tV hk hj (λi hi=> ?_) λ_ i hi=> ?_
   ·have:=(mM _ _ _).1 hi;exact h i this.1 (.inl this.2.2)
   ·have:=(Pm _ _ _).1 hi;exact h i this.1 (.inr this.2.2)
  ·rw[gC b s k tS,gC d s k (by rw[Gb hk];exact tS)];exact h k sK (.inl hw)
 ·have e: ∀b':aQ,b'.k=b.k->cq b' s=b':=λb' h=>by unfold cq;rw[h,if_neg hq]
  rw[e d hk,e b rfl];exact h k sK (.inl hw)
theorem Wj {s t:Sys}(h1:cT s.read=aA)(h2:cT s.write=aA)(h3:cT t.read=aA)(h4:cT t.write=aA)(hc:gB s t=aw){k:Nat}(hk:k<8): ¬((s.write.toNat.testBit k=aA/\(t.read.toNat.testBit k=aA\/t.write.toNat.testBit k=aA))\/(t.write.toNat.testBit k=aA/\s.read.toNat.testBit k=aA)):=by intro h;have:=(vQ h1 h2 h3 h4).2 ⟨k,hk,h⟩;rw[hc]at this;exact absurd this (by simp)
theorem qS {s:Sys}(h:eQ s=0):cT s.read=aA/\cT s.write=aA:=by obtain⟨_,_,_,h1,h2,_⟩:=Ij h;exact⟨h1,h2⟩
theorem SC {k:Nat}(ss:List Sys): ∀b,(∀s∈ss,s.write.toNat.testBit k=aw)->(jh b ss).v.getD k 0=b.v.getD k 0:=by
 induction ss with
 |nil=>intro b _;rfl
 |cons s ss ih=>intro b h;show(jh (cq b s) ss).v.getD k 0=_;rw[ih _ λt ht=>h t (by simp[ht])];exact gC b s k λhm=>by have:=((mM _ _ _).1 hm).2.2;rw[h s (by simp)]at this;cases this
theorem xB (b:aQ)(hb:b.v.length=8): ∀(n:Nat) (ss:List Sys),ss.length=n->(∀s∈ss,eQ s=0)->ss.Pairwise (λs t=>gB s t=aw)->iz b ss=jh b ss:=by
 intro n
 induction n with
 |zero=>intro ss h _ _;rw[gg h];rfl
 |succ n ih=>
  intro ss hn wa hpw;have dQ:ss≠ []:=by intro e;rw[e]at hn;cases hn
  have e0:=List.dropLast_concat_getLast dQ;generalize ss.getLast dQ=s at e0;generalize hd:ss.dropLast=tt at e0;have htt:tt.length=n:=by rw[<-hd,List.length_dropLast,hn];rfl
  clear hd;subst e0;have afZ:=List.pairwise_append.1 hpw;have hi:=ih tt htt (λt ht=>wa t (by simp[ht])) afZ.1;rw[KV,Ol];have hlen:(jh b tt).v.length=8:=by rw[vS,hb]
  refine Ge (by rw[oh,QB]) (by show(rX _ _ _).length=8;rw[xP,p8,hb]) (by rw[fM,hlen]) λk hk=> ?_
  show(rX (cq b s) (kinds s.write.toNat) (iz b tt).v).getD k 0=_;rw[Tr _ _ _ k (by rw[p8,hb];exact hk)];by_cases hw:s.write.toNat.testBit k=aA
  ·rw[if_pos ((ju _ _).2 ⟨hk,hw⟩)];refine(Wp (QB tt b) hb hlen (λi hi8 hx=>SC tt b λt ht=> ?_) hk hw).symm;have hc:=afZ.2.2 t ht s (by simp);obtain⟨a1,a2⟩:=qS (wa t (by simp[ht]));obtain⟨c1,c2⟩:=qS (wa s (by simp));cases jN:t.write.toNat.testBit i with
   |false=>rfl
   |true=>exact absurd (.inl ⟨jN,hx.symm⟩) (Wj a1 a2 c1 c2 hc hi8)
  ·rw[if_neg λhm=>hw ((ju _ _).1 hm).2,hi,gC _ s k λhm=>hw ((mM _ _ _).1 hm).2.2]
abbrev PS:=List (Sys×Int)
def gU (L:PS)(b:Int):List Sys:=(L.filter λx=>x.2=b).map (·.1)
def IC (L:PS):List Sys:=L.map (·.1)
structure tw (L:PS):Prop where
 ok: ∀x∈L,eQ x.1=0
 lt:L.Pairwise λx y=>gB x.1 y.1=aA->x.2<y.2
theorem Om (x:aQ)(hx:x.v.length=8)(s:Sys)(hs:eQ s=0): ∀(tt:List Sys),(∀t∈tt,eQ t=0/\gB s t=aw)->jh (cq x s) tt=cq (jh x tt) s:=by
 intro tt
 induction tt generalizing x with
 |nil=>intro _;rfl
 |cons t tt ih=>intro h;obtain⟨h1,h2⟩:=h t (by simp);obtain⟨a1,a2⟩:=qS hs;obtain⟨c1,c2⟩:=qS h1;show jh (cq (cq x s) t) tt=cq (jh (cq x t) tt) s;rw[apart x s t hx a1 a2 c1 c2 h2,ih (cq x t) (by rw[fM];exact hx) λt' ht'=>h t' (by simp[ht'])]
theorem pull (b:Int): ∀(L:PS) (x:aQ),x.v.length=8->tw L->(∀y∈L,b<=y.2)->jh x (IC L)=jh (jh x (gU L b)) (IC (L.filter λy=> ¬y.2=b)):=by
 intro L
 induction L with
 |nil=>intro x _ _ _;rfl
 |cons y L ih=>
  intro x hx hL va;have hL':tw L:=⟨λz hz=>hL.ok z (by simp[hz]),(List.pairwise_cons.1 hL.lt).2⟩;have hi:=ih (cq x y.1) (by rw[fM];exact hx) hL' λz hz=>va z (by simp[hz])
  show jh (cq x y.1) (IC L)=_;rw[hi];by_cases e:y.2=b
  ·have h1:gU (y::L) b=y.1::gU L b:=by unfold gU;rw[List.filter_cons_of_pos (by simpa using e)];rfl
   have h2:(y::L).filter (λz=> ¬z.2=b)=L.filter (λz=> ¬z.2=b):=by rw[List.filter_cons_of_neg (by simpa using e)]
   rw[h1,h2];rfl
  ·have h1:gU (y::L) b=gU L b:=by unfold gU;rw[List.filter_cons_of_neg (by simpa using e)]
   have h2:(y::L).filter (λz=> ¬z.2=b)=y::L.filter (λz=> ¬z.2=b):=by rw[List.filter_cons_of_pos (by simpa using e)]
   rw[h1,h2];rw[Om x hx y.1 (hL.ok y (by simp)) (gU L b) λt ht=> ?_]
   ·rfl
   ·unfold gU at ht;obtain⟨z,hz,rfl⟩:=aN.1 ht;obtain⟨vi,uC⟩:=cu.1 hz;have hzb:z.2=b:=by simpa using uC
    refine⟨hL.ok z (by simp[vi]),?_⟩;cases hc:gB y.1 z.1 with
    |false=>rfl
    |true=>have:=(List.pairwise_cons.1 hL.lt).1 z vi hc;have:=va y (by simp);omega
def byB (x:aQ)(L:PS):Nat->aQ
 |0=>x
 |n+1=>jh (byB x L n) (gU L n)
theorem Ov (L:PS)(n:Nat)(b:Int)(hb:(n:Int)<=b):gU (L.filter λy=>(n:Int)<=y.2) b=gU L b:=by
 unfold gU;rw[List.filter_filter];congr 1;refine List.filter_congr λy _=> ?_
 by_cases e:y.2=b
 ·simp[e,hb]
 ·simp[e]
theorem Lm (L:PS)(n:Nat):((L.filter λy=>(n:Int)<=y.2).filter λy=> ¬y.2=(n:Int))=L.filter λy=>((n+1:Nat):Int)<=y.2:=by
 rw[List.filter_filter];refine List.filter_congr λy _=> ?_
 by_cases h1:((n+1:Nat):Int)<=y.2
 ·have h2:(n:Int)<=y.2:=by omega
  have h3: ¬y.2=(n:Int):=by omega
  simp only[h2,h3,decide_true,not_false_eq_true,Bool.and_self,h1]
 ·by_cases h2:(n:Int)<=y.2
  ·have h3:y.2=(n:Int):=by omega
   simp only[h3,not_true_eq_false,decide_false,Bool.false_and];simp;omega
  ·simp only[h2,decide_false,Bool.and_false,h1]
theorem aaq (x:aQ)(hx:x.v.length=8)(L:PS)(hL:tw L)(h0: ∀y∈L,0<=y.2): ∀n:Nat,jh x (IC L)=jh (byB x L n) (IC (L.filter λy=>(n:Int)<=y.2)):=by
 intro n
 induction n with
 |zero=>
  have:(L.filter λy=>((0:Nat):Int)<=y.2)=L:=List.filter_eq_self.2 λy hy=>by simpa using h0 y hy
  rw[this];rfl
 |succ n ih=>
  have hl:(byB x L n).v.length=8:=by
   have: ∀n,(byB x L n).v.length=x.v.length:=by
    intro n
    induction n with
    |zero=>rfl
    |succ n ih=>show(jh _ _).v.length=_;rw[vS,ih]
   rw[this,hx]
  have hL':tw (L.filter λy=>(n:Int)<=y.2):=⟨λz hz=>hL.ok z (cu.1 hz).1,hL.lt.sublist List.filter_sublist⟩;rw[ih,pull n _ _ hl hL' λy hy=>by simpa using(cu.1 hy).2,Ov L n n (Int.le_refl _),Lm]
  rfl
theorem aar (x:aQ)(hx:x.v.length=8)(L:PS)(hL:tw L)(h0: ∀y∈L,0<=y.2)(n:Nat)(hn: ∀y∈L,y.2<n):byB x L n=jh x (IC L):=by
 have h:=aaq x hx L hL h0 n;have:(L.filter λy=>(n:Int)<=y.2)=[]:=List.filter_eq_nil_iff.2 λy hy=>by have:=hn y hy;simp;omega
 rw[this]at h;exact h.symm
end
section
open Go.RowKit Go.Sort
section
variable {G:Nat->Prop} {w0 w w':ah} {l:List bT}
theorem abZ:SWO (ltOf K5)where
 irrefl x:=by unfold ltOf;rw[uU];unfold hLt;simp
 trans x y z h1 h2:=by unfold ltOf at *;rw[uU]at *;unfold hLt at *;simp only[iU,aM,decide_eq_true_eq]at *;omega
 ntrans x y z h1 h2:=by unfold ltOf at *;rw[uU]at *;unfold hLt at *;simp only[Bool.or_eq_false_iff,Bool.and_eq_false_iff,decide_eq_false_iff_not]at *;omega
theorem Yk {α:Type}{key:α->Hd}{ys:List α}(h:ys.Pairwise λa b=>decide (K5 (key b) (key a)<0)=aw):ys.Pairwise λa b=>Vb key a b=aA:=h.imp λ{a b} h=>by unfold Vb Cg;rw[<-uU,h];rfl
theorem YZ {v:aq}{xs:List Hd}(h:In G w0 (jF v xs::l) w)(hl:xs.length<=1099511627776):Calls Tryz.prog 141 #[v,.func (.func 80) #[] #[]] w λe w'=>e=.returned (.tuple #[])/\In G w0 (jF v (xs.mergeSort Cg)::l) w':=by
 have BN:=J3 (ρ:=vF) (enc:=hC) Ee Tryz.isAgg43 Tryz.sizeOf43 zS (λx u hu=>by simp[hC]at hu;rcases hu with rfl|rfl<;>rfl) K5 abZ 80 (enters_of Tryz.func80 (by kernel_rfl) rfl) (λblk off size w m os dk _ x y=>AY x y (sortWorldK hC 2 w blk off m dk os)) 43 h (by omega)
 change Calls Tryz.prog 141 _ _ _ at BN;refine BN.mono ?_;rintro e w' ⟨rfl,ys,hp,hs,hI⟩;have e1:ys=xs.mergeSort Cg:=Ef hp (Yk (key:=id) hs);subst e1;exact⟨rfl,hI⟩
def bC (b:Hd×Hd):List aq:=[.int .i64 b.1.1,.int .i64 b.1.2,.int .i64 b.2.1,.int .i64 b.2.2]
def bL (b:Hd×Hd):List Int:=[b.1.1,b.1.2,b.2.1,b.2.2]
theorem ac7 (b:Hd×Hd):(bC b).length=4:=rfl
theorem V6 (b:Hd×Hd):(bL b).length=4:=rfl
abbrev kG (v:aq)(bs:List (Hd×Hd)):bT:=dP 45 4 v bs.length (bs.flatMap bC)
def Wk (a b:Hd×Hd):Int:=K5 a.1 b.1
theorem ahZ:SWO (ltOf Wk)where
 irrefl x:=abZ.irrefl x.1
 trans x y z:=abZ.trans x.1 y.1 z.1
 ntrans x y z:=abZ.ntrans x.1 y.1 z.1
theorem Oe (x y:Hd×Hd)(w:ah):Calls Tryz.prog 101 #[.agg (ints (bL x)),.agg (ints (bL y))] w λe w'=>e=.returned (.int .i64 (Wk x y))/\ ∃q os,w'=Sort.grow (w.drewN q) os:=by
 obtain⟨⟨x1,x2⟩,⟨x3,x4⟩⟩:=x;obtain⟨⟨y1,y2⟩,⟨y3,y4⟩⟩:=y
 go_enter Tryz.func101,Tryz.ntmps101
 go_upto_region 1 with(fail)
 have k1:row? ((w.alloc (.cells (ints [x1,x2,x3,x4]) 45)).alloc (.cells (ints [y1,y2,y3,y4]) 45)) w.heap.size 0 2=ae (ints [x1,x2]):=((dq.new w 45 (ints [x1,x2,x3,x4])).alloc _).eb 0 2 (by simp);have k2:row? ((w.alloc (.cells (ints [x1,x2,x3,x4]) 45)).alloc (.cells (ints [y1,y2,y3,y4]) 45)) (w.heap.size+1) 0 2=ae (ints [y1,y2]):=by have:=dq.new (w.alloc (.cells (ints [x1,x2,x3,x4]) 45)) 45 (ints [y1,y2,y3,y4]);rw[cQ]at this;exact this.eb 0 2 (by simp)
 have HW:Hid (((w.alloc (.cells (ints [x1,x2,x3,x4]) 45)).alloc (.cells (ints [y1,y2,y3,y4]) 45))=Sort.grow w #[.cells (ints [x1,x2,x3,x4]) 45,.cells (ints [y1,y2,y3,y4]) 45]):=by unfold Hid;rw[Sort.alloc_eq_grow,Sort.alloc_eq_grow,Sort.grow_grow];rfl
 change Code.wp _ _ _ _ ((w.alloc (.cells (ints [x1,x2,x3,x4]) 45)).alloc (.cells (ints [y1,y2,y3,y4]) 45));generalize ((w.alloc (.cells (ints [x1,x2,x3,x4]) 45)).alloc (.cells (ints [y1,y2,y3,y4]) 45))=w2 at *
 go_wp2_with fail
 refine(AY (x1,x2) (y1,y2) w2).mono ?_;rintro e w3 ⟨rfl,q,os,rfl⟩
 go_wp2_with fail
 go_ret;refine⟨rfl,q,#[.cells (ints [x1,x2,x3,x4]) 45,.cells (ints [y1,y2,y3,y4]) 45]++os,?_⟩;rw[HW.out];exact Sort.grow_grow (w.drewN q) _ os
theorem YY {v:aq}{xs:List (Hd×Hd)}(hn: ∀a∈xs,∀b∈xs,a.1=b.1->a=b)(h:In G w0 (kG v xs::l) w)(hl:xs.length<=1099511627776):Calls Tryz.prog 100 #[v,.func (.func 101) #[] #[]] w λe w'=>e=.returned (.tuple #[])/\In G w0 (kG v (xs.mergeSort (Vb (·.1)))::l) w':=by
 have h1: ∀x,∀u∈bC x,u.oneCell'=aA:=λx u hu=>by simp[bC]at hu;rcases hu with rfl|rfl|rfl|rfl<;>rfl
 have h2: ∀blk off size w,CmpLays Tryz.prog 101 #[] bC 4 Wk blk off size w:=λblk off size w m os dk _ x y=>Oe x y (sortWorldK bC 4 w blk off m dk os)
 have h3: ∀args w,(callFunc 101 args).run Tryz.prog w=.ok (.enter 101 args) w:=enters_of Tryz.func101 (by kernel_rfl) rfl;have BN:=J3 (ρ:=zm) (enc:=bC) J2 Tryz.isAgg45 Tryz.sizeOf45 ac7 h1 Wk ahZ 101 h3 h2 45 h (by omega);change Calls Tryz.prog 100 _ _ _ at BN;refine BN.mono ?_;rintro e w' ⟨rfl,ys,hp,hs,hI⟩;have xJ:ys.Pairwise λa b=>Vb (λb:Hd×Hd=>b.1) a b=aA:=hs.imp λ{a b} h=>by unfold Vb Cg;rw[<-uU];unfold Wk at h;rw[h];rfl
 have e1:ys=xs.mergeSort (Vb (λb:Hd×Hd=>b.1)):=jr _ hn hp xJ;rw[e1]at hI;exact⟨rfl,hI⟩
end
end
section
open Go.RowKit
theorem Je {m m':jS}(hp:m.Perm m')(h:Hd):(jd m h).Perm (jd m' h):=(hp.filter _).map _
theorem Jd (x v h:Hd)(m:jS):jd ((x,v)::m) h=if v=h then x::jd m h else jd m h:=by unfold jd;rw[List.filter_cons];by_cases e:v=h<;>simp[e]
theorem Bc (m:jS)(h:Hd):(jd m h).length<=m.length:=by unfold jd;rw[List.length_map];exact List.length_filter_le _ _
theorem Tg {m left coll:List (Hd×Hd)}{cs:List Hd}{x v h:Hd}(hn:(bG left).Nodup)(hx:(x,v)∈left)(hp:(cs++jd left h).Perm (jd m h)):((if v=h then cs++[x]else cs)++jd (ep left x) h).Perm (jd m h):=by
 have h1:=Je (zY hn hx) h;rw[Jd]at h1;refine List.Perm.trans ?_ hp
 split
 ·rename_i e
  rw[if_pos e]at h1;rw[dn];exact dE _ h1.symm
 ·rename_i e
  rw[if_neg e]at h1;exact dE _ h1.symm
theorem IZ {G:Nat->Prop}{w0 w:ah}{l:List bT}{p:Nat}{m:jS}(h:In G w0 (jE p m::l) w)(a:Hd)(hl:m.length<=1099511627776):Calls Tryz.prog 176 #[.pointer (ae ⟨p,0,ai⟩),nw a] w λe w'=> ∃v,e=.returned v/\In G w0 (jF v (kids m a)::jE p m::l) w':=by
 obtain⟨hm,b,hI⟩:=h.tX;have HM:=af hm;have k9:=af hI;clear h hm hI;obtain⟨a1,a2⟩:=a;rw[jV];obtain⟨i0,qX,uH,vi,uC⟩:=info_parts mg;have heq: ∀(x y:List Int) W,x.length=2->y.length=2->(binOp .eql 43 (.agg (ints x)) (.agg (ints y))).run Tryz.prog W=.ok (.bool (decide (x=y))) W:=λx y W h1 h2=>xF x y h1 h2 W
 have HEQ:=af heq;clear heq
 go_enter Tryz.func176,Tryz.ntmps176
 go_upto_region 1 with(fail)
 refine cc (In G w0 (bg w.heap.size 43 (ints [a1,a2])::bg p 175 #[.map (ae b)]::zH b m::l)) (k9.out.alloc 43 (ints [a1,a2])) ?_;generalize w.heap.size=ab;intro w1 hI;have k0:w1.cell? ⟨p,0,ai⟩=ae (.map (ae b)):=hI.swap.blk.cell 0;have pY:=af hI.third;clear hI k9
 go_wp2_with (at_range;go_loud (refine iT rfl _ 173 43 rfl Tryz.underlying173 b _ rfl (In.hZ pY.out) ?_))
 intro w2 Ja gV xJ;have gd:Hid (In G w0 (dP 43 2 (.slice ai 0 0) 0 []::ij nw nw (λ_=>True) b w1.heap.size m m::bg ab 43 (ints [a1,a2])::bg p 175 #[.map (ae b)]::l) w2):=In.tW (In.DX pY.out Ja gV xJ) _ _;generalize w1.heap.size=ri at *;clear Ja gV xJ pY k0
 go_wp2_with fail
 go_loopw [14,5] (λ_ out w'=> ∃(left:jS) (cs:List Hd),(bG left).Nodup/\(cs++jd left (a1,a2)).Perm (jd m (a1,a2))/\In G w0 (jF out cs::ij nw nw (λ_=>True) b ri m left::bg ab 43 (ints [a1,a2])::bg p 175 #[.map (ae b)]::l) w') (λ_ _ w'=>w'.rangeLeft b ri)
 case atStart=>exact⟨m,[],HM.out.nodup,by simp,gd.out⟩
 case round=>
  clear gd;obtain⟨left,cs,LO,hp,hI⟩:=hrel;have VJ:=af LO;clear LO;have HI:=af hI.swap;have HP:=af hp;clear hI hp
  go_wp2_with (at_next;go_loud (refine kU Dk rfl _ rfl b ri _ left rfl (In.rangeAt HI.out) ?_ ?_))
  ·intro S5;subst S5;have HPC:Hid (kids m (a1,a2)=cs.mergeSort Cg):=by have:=HP.out;simp[jd]at this;exact(Uk this).symm
   have rh:cs.length<=1099511627776:=by have h1:=HP.out.length_eq;have h2:=Bc m (a1,a2);simp at h1;omega
   have gm:=af HI.out.swap;clear HI
   go_wp2_with fail
   refine(YZ gm.out rh).mono ?_;rintro e w3 ⟨rfl,fX⟩;have iY:=af fX;clear fX gm
   go_wp2_with fail
   go_ret;refine⟨_,rfl,?_⟩;rw[HPC.out];exact(In.pN HM.out (iY.out.swap.vJ.third.drop.third)).swap
  ·intro x1 x2 v1 v2 w7 hx GL Fh S9 sM ZF;have kE:=af (In.nG HI.out GL Fh);have xy:=af sM;have HX:=af hx;obtain⟨f1,f2⟩:=Ej w7 43 43 [0,0] [0,0] [x1,x2];clear GL Fh S9 sM hx
   go_upto_region 5 with(fail)
   refine cc (In G w0 (bg (w7.heap.size+1) 43 (ints [v1,v2])::bg w7.heap.size 43 (ints [x1,x2])::ij nw nw (λ_=>True) b ri m (ep left (x1,x2))::jF u5 cs::bg ab 43 (ints [a1,a2])::bg p 175 #[.map (ae b)]::l)) (kE.out.J6 43 43 [0,0] [0,0] [x1,x2] [v1,v2] rfl rfl) ?_;clear f1 f2 ZF kE;generalize w7.heap.size+1=vb;generalize w7.heap.size=xb;intro w8 l9;have q1:row? w8 vb 0 2=ae (ints [v1,v2]):=l9.blk.bt rfl;have q2:row? w8 xb 0 2=ae (ints [x1,x2]):=l9.swap.blk.bt rfl;have q3:row? w8 ab 0 2=ae (ints [a1,a2]):=(l9.drop.fourth).blk.bt rfl;have hn:=HEQ.out [v1,v2] [a1,a2];have pO:Hid (In G w0 (jF u5 cs::ij nw nw (λ_=>True) b ri m (ep left (x1,x2))::bg ab 43 (ints [a1,a2])::bg p 175 #[.map (ae b)]::l) w8):=l9.drop.drop.swap;have Fo:=af (Tg (coll:=[]) (left:=left) (cs:=cs) (x:=(x1,x2)) (v:=(v1,v2)) (h:=(a1,a2)) VJ.out HX.out HP.out);have hn2: ∀W,(binOp .eql 43 (.agg (ints [v1,v2])) (.agg (ints [a1,a2]))).run Tryz.prog W=.ok (.bool (decide ([v1,v2]=[a1,a2]))) W:=λW=>hn W rfl rfl
   clear l9 hn;by_cases e:(v1,v2)=(a1,a2)
   ·have hd:decide ([v1,v2]=[a1,a2])=aA:=by rw[decide_eq_true_eq];injection e with e1 e2;rw[e1,e2]
    rw[hd]at hn2;rw[if_pos e]at Fo;have rh:cs.length+1<=1099511627776:=by have h1:=Fo.out.length_eq;have h2:=Bc m (a1,a2);simp at h1;omega
    have HO:=af pO.out.rowAt;clear e hd
    go_wp2_with (at_builtin;go_loud (refine eu rfl _ _ 122 rfl 0 43 i0 _ 2 16 Tryz.underlying122 qX uH vi uC rfl (by decide) u5 cs.length (cs.flatMap hC) rfl HO.out [.int .i64 x1,.int .i64 x2] rfl rfl (by simp[jm]) ?_ ?_ (bS _) ?_))
    case refine_1=>unfold maxLen;omega
    case refine_2=>omega
    intro v' w9 ho hg zT;have pZ:=af (In.IE (x:=(x1,x2)) pO.out ho hg zT);clear ho hg zT q1 q2 q3 hn2
    go_wp2_with fail
    go_roundw
    case rel=>exact⟨ep left (x1,x2),cs++[(x1,x2)],qD VJ.out _,Fo.out,pZ.out⟩
    case measure=>rw[(In.rangeAt pZ.out.swap).count,(In.rangeAt HI.out).count];exact xy.out
   ·have hd:decide ([v1,v2]=[a1,a2])=aw:=by
     rw[decide_eq_false_iff_not];intro e';injection e' with e1 e2
     injection e2 with e2 _
     exact e (by rw[e1,e2])
    rw[hd]at hn2;rw[if_neg e]at Fo;clear e hd
    go_wp2_with fail
    go_roundw
    case rel=>exact⟨ep left (x1,x2),cs,qD VJ.out _,Fo.out,pO.out⟩
    case measure=>rw[(In.rangeAt pO.out.swap).count,(In.rangeAt HI.out).count];exact xy.out
end
section
open Go.RowKit
theorem Od:(Tryz.prog.info? 45).map (λi=>(i.zero,i.size,i.bytes))=ae (ae (.agg #[.int .i64 0,.int .i64 0,.int .i64 0,.int .i64 0]),4,32):=by kernel_rfl
theorem In.aal {G:Nat->Prop}{w0 w w':ah}{l:List bT}{v v':aq}{bs:List (Hd×Hd)}{x:Hd×Hd}{o:Obj}(h:In G w0 (kG v bs::l) w)(gZ:w'.ownsRow 0 45 4 v' (bs.length+1) (bs.flatMap bC++[.int .i64 x.1.1,.int .i64 x.1.2,.int .i64 x.2.1,.int .i64 x.2.2]))(hg:(w.alloc o).grownBy w' v.ownBlock)(zT:v'.ownBlock=v.ownBlock\/v'.ownBlock=ae (w.heap.size+1)):In G w0 (kG v' (bs++[x])::l) w':=by have:=h.yo gZ hg zT;unfold kG;rw[bM,eI];exact this
theorem FA {m bs:jS}(hm:jK m)(hp:bs.Perm m):bs.mergeSort (Vb (λb:Hd×Hd=>b.1))=dx m:=jr (λb:Hd×Hd=>b.1) (oy hm.nodup) ((iG _ _).trans hp) (lQ _ _)
theorem Gs {G:Nat->Prop}{w0 w:ah}{l:List bT}{p:Nat}{m:jS}(h:In G w0 (jE p m::l) w)(hl:m.length<=1099511627776):Calls Tryz.prog 44 #[.pointer (ae ⟨p,0,ai⟩)] w λe w'=> ∃v,e=.returned v/\In G w0 (kG v (dx m)::jE p m::l) w':=by
 obtain⟨hm,b,hI⟩:=h.tX;have HM:=af hm;have k9:=af hI.swap;have k0:w.cell? ⟨p,0,ai⟩=ae (.map (ae b)):=hI.blk.cell 0;clear h hm hI;obtain⟨i0,qX,uH,vi,uC⟩:=info_parts Od
 go_enter Tryz.func44,Tryz.ntmps44
 go_wp2_with (at_range;go_loud (refine iT rfl _ 173 43 rfl Tryz.underlying173 b _ rfl (In.hZ k9.out) ?_))
 intro w2 Ja gV xJ;have gd:Hid (In G w0 (dP 45 4 (.slice ai 0 0) 0 []::ij nw nw (λ_=>True) b w.heap.size m m::bg p 175 #[.map (ae b)]::l) w2):=In.tW (In.DX k9.out Ja gV xJ) _ _;generalize w.heap.size=ri at *;clear Ja gV xJ k9 k0
 go_wp2_with fail
 go_loopw [12,3] (λ_ out w'=> ∃(left:jS) (bs:jS),(bG left).Nodup/\(bs++left).Perm m/\In G w0 (kG out bs::ij nw nw (λ_=>True) b ri m left::bg p 175 #[.map (ae b)]::l) w') (λ_ _ w'=>w'.rangeLeft b ri)
 case atStart=>exact⟨m,[],HM.out.nodup,by simp,gd.out⟩
 case round=>
  clear gd;obtain⟨left,bs,LO,hp,hI⟩:=hrel;have VJ:=af LO;have HI:=af hI.swap;have HP:=af hp;clear LO hI hp
  go_wp2_with (at_next;go_loud (refine kU Dk rfl _ rfl b ri _ left rfl (In.rangeAt HI.out) ?_ ?_))
  ·intro S5;subst S5;have hpm:bs.Perm m:=by simpa using HP.out
   have rh:bs.length<=1099511627776:=by rw[hpm.length_eq];exact hl
   have hinj:=(oy (HM.out.nodup));have agY:Hid (∀a∈bs,∀b∈bs,a.1=b.1->a=b):=λa ha b hb=>hinj a (hpm.subset ha) b (hpm.subset hb)
   have HB:=af (FA HM.out hpm);have gm:=af HI.out.swap;clear HI hpm hinj
   go_wp2_with fail
   refine(YY agY.out gm.out rh).mono ?_;rintro e w3 ⟨rfl,fX⟩;rw[HB.out]at fX;have iY:=af fX;clear fX gm
   go_wp2_with fail
   go_ret;exact⟨_,rfl,(In.pN HM.out (iY.out.swap.vJ.third)).perm ((pW _))|>.swap⟩
  ·intro x1 x2 v1 v2 w7 hx GL Fh S9 sM ZF;have kE:=af (In.nG HI.out GL Fh);have xy:=af sM;have Fo:Hid ((bs++[((x1,x2),(v1,v2))]++ep left (x1,x2)).Perm m):=by refine List.Perm.trans ?_ HP.out;rw[dn];exact dE _ (zY VJ.out hx).symm
   have rh:bs.length+1<=1099511627776:=by have h1:=Fo.out.length_eq;simp at h1;omega
   obtain⟨f1,f2⟩:=Ej w7 43 43 [0,0] [0,0] [x1,x2];clear GL Fh S9 sM hx
   go_upto_region 5 with(fail)
   refine cc (In G w0 (bg (w7.heap.size+1) 43 (ints [v1,v2])::bg w7.heap.size 43 (ints [x1,x2])::ij nw nw (λ_=>True) b ri m (ep left (x1,x2))::kG u3 bs::bg p 175 #[.map (ae b)]::l)) (kE.out.J6 43 43 [0,0] [0,0] [x1,x2] [v1,v2] rfl rfl) ?_;clear f1 f2 ZF kE;generalize w7.heap.size+1=vb;generalize w7.heap.size=xb;intro w8 l9;have q1:row? w8 vb 0 2=ae #[.int .i64 v1,.int .i64 v2]:=l9.blk.bt (xs:=[v1,v2]) rfl;have q2:row? w8 xb 0 2=ae #[.int .i64 x1,.int .i64 x2]:=l9.swap.blk.bt (xs:=[x1,x2]) rfl;have pO:Hid (In G w0 (kG u3 bs::ij nw nw (λ_=>True) b ri m (ep left (x1,x2))::bg p 175 #[.map (ae b)]::l) w8):=l9.drop.drop.swap;have HO:=af pO.out.rowAt;clear l9
   go_wp2_with (at_builtin;go_loud (refine eu rfl _ _ 34 rfl 0 45 i0 _ 4 32 Tryz.underlying34 qX uH vi uC rfl (by decide) u3 bs.length (bs.flatMap bC) rfl HO.out [.int .i64 x1,.int .i64 x2,.int .i64 v1,.int .i64 v2] rfl rfl (by simp[jm]) ?_ ?_ (bS _) ?_))
   case refine_1=>unfold maxLen;omega
   case refine_2=>omega
   intro v' w9 ho hg zT;have pZ:=af (In.aal (x:=((x1,x2),(v1,v2))) pO.out ho hg zT);clear ho hg zT q1 q2
   go_wp2_with fail
   go_roundw
   case rel=>exact⟨ep left (x1,x2),bs++[((x1,x2),(v1,v2))],qD VJ.out _,Fo.out,pZ.out⟩
   case measure=>rw[(In.rangeAt pZ.out.swap).count,(In.rangeAt HI.out).count];exact xy.out
end
section
open Rel
open Go.Conc Go.ConcN
open Go.ConcR (Payload WgAt)
open Go.RowKit
structure EW (w0:ah) (fv:aq) (nj k:Nat) (closed:Bool) (w:ah):Prop where
 old: ∀b,b<w0.heap.size->w.heap[b]? =w0.heap[b]?
 size:w.heap.size=w0.heap.size+3
 cf:w.heap[w0.heap.size]? =ae (.cells #[fv] 113)
 ch: ∃s r tm,w.heap[w0.heap.size+1]? =ae (.chan nj ((fP 0 k).map (λ(p:Nat)=>aZ .i64 p)).toArray closed s r tm)
 cn:w.heap[w0.heap.size+2]? =ae (.cells #[.chan (ae (w0.heap.size+1))] 179)
 os:w.os=w0.os
 output:w.output=w0.output
theorem SJ {N1 B c:Nat}(h1:N1<=c)(h2:c<B): ∀e∈closeEvents c,EvN N1 B e:=by
 intro e he;simp only[closeEvents,pz,cy,jo,or_false]at he;rcases he with rfl|rfl
 ·exact⟨by simp,λx hx=>by simp only[cN,r6,dz]at hx;subst hx;exact⟨c,rfl,h1,h2⟩⟩
 ·exact⟨by simp,λx hx=>by cases hx⟩
theorem PW (w:ah)(a:Addr)(v:aq):(w.setCell a v).os=w.os:=by unfold dA;split<;>rfl
theorem Ea (w:ah)(a:Addr)(v:aq):(w.setCell a v).output=w.output:=by unfold dA;split<;>rfl
theorem Nu (w:ah)(a:Addr)(v:aq)(tp:Tape)(d:Nat):(dB w tp d).setCell a v=dB (w.setCell a v) tp d:=by unfold dA dB;simp only
noncomputable def kI:Code:=Tryz.f47.body.getD .skip
theorem OZ:(Tryz.prog.info? 3).map (λi=>(i.zero,i.size,i.bytes))=ae (ae (.int .i64 0),1,8):=by kernel_rfl
abbrev wU (n nj:Int)(fv:aq)(N:Nat)(t7 t8 t10 t11 t12 t13 t14 t15 t16 t17 t18 t19 t20 t21 t22 t23 t24 t25:aq):Array aq:= #[.int .i64 n,.int .i64 nj,fv,undef,undef,.pointer (ae ⟨N,0,ai⟩),.pointer (ae ⟨N+2,0,ai⟩),t7,t8,.int .i64 nj,t10,t11,t12,t13,t14,t15,t16,t17,t18,t19,t20,t21,t22,t23,t24,t25]
section
variable {c:fR} {Post:aq->ah->Prop} {uV cs:List bm} {w0 w:ah} {n nj:Nat} {fv:aq}
noncomputable def qj:Code:=match kI with| .seq _ (.seq _ (.seq _ (.seq _ x)))=>x|_=>.skip
noncomputable def zi:Code:=match kI with| .seq _ (.seq _ (.seq (.seq _ (.block _ (.loop x))) _))=>x|_=>.skip
noncomputable def D':Code:=match kI with| .seq _ (.seq _ (.seq _ x))=>x|_=>.skip
theorem Wy (hnj:nj<9223372036854775807): ∀(m k:Nat) (w:ah) (t7 t8 t10 t13 t14 t15 t16 t17 t18 t19 t20 t21 t22 t23 t24 t25:aq),k+m=nj->EW w0 fv nj k aw w->(∀w (t7 t13 t14 t15 t16 t17:aq),EW w0 fv nj nj aw w->vN Tryz.prog c Post w0.heap.size uV (G ((base 47).at ⟨wU n nj fv w0.heap.size t7 t8 t10 (.int .i64 nj) (.int .i64 nj) t13 t14 t15 t16 t17 t18 t19 t20 t21 t22 t23 t24 t25,[]⟩ [.code D']) cs) w)->vN Tryz.prog c Post w0.heap.size uV (G ((base 47).at ⟨wU n nj fv w0.heap.size t7 t8 t10 (.int .i64 nj) (.int .i64 k) t13 t14 t15 t16 t17 t18 t19 t20 t21 t22 t23 t24 t25,[]⟩ [.code zi,.inLoop zi,.inBlock 0,.code D']) cs) w:=by
 intro m
 induction m with
 |zero=>
  intro k w t7 t8 t10 t13 t14 t15 t16 t17 t18 t19 t20 t21 t22 t23 t24 t25 hk h K;obtain rfl:k=nj:=by omega
  simp only[zi,kI,Tryz.f47,bI];refine aiP ?_;refine kP ?_;simp only[au,aj,ax,Nat.reduceAdd,aC,aG,aB];refine oi (.bool aw) rfl rfl (by simp[base]) (λw=>by go_simp) (λw=>by simp[go_sem, *]) ?_;walk_nrm;refine tJ ?_;refine aiP ?_;refine Ww rfl ?_;refine aaz rfl ?_;exact K _ _ _ _ _ _ _ h
 |succ m ih=>
  intro k w t7 t8 t10 t13 t14 t15 t16 t17 t18 t19 t20 t21 t22 t23 t24 t25 hk h K;have bE:(k:Int)<nj:=by omega
  simp only[zi,kI,Tryz.f47,bI];refine aiP ?_;refine kP ?_;simp only[au,aj,ax,Nat.reduceAdd,aC,aG,aB];refine oi (.bool aA) rfl rfl (by simp[base]) (λw=>by go_simp) (λw=>by simp[go_sem, *]) ?_;walk_nrm;refine tJ ?_;refine aiP ?_;refine Wx rfl ?_;refine aaB ?_;refine aiP ?_;refine Ll ?_;refine aiP ?_;refine kP ?_;simp only[au,aj,ax,Nat.reduceAdd,aC,aG,aB];refine oi (.int .i64 k) rfl rfl (by simp[base]) (λw=>by go_simp) (λw=>by simp[go_sem, *]) ?_;walk_nrm;refine oi (.int .i64 k) rfl rfl (by simp[base]) (λw=>by go_simp) (λw=>by simp[go_sem, *]) ?_;walk_nrm;refine tJ ?_;refine kP ?_;simp only[au,aj,ax,Nat.reduceAdd,aC,aG,aB];have hc: ∀tp d,(dB w tp d).cell? ⟨w0.heap.size+2,0,ai⟩=ae (.chan (ae (w0.heap.size+1))):=λtp d=>by show w.cell? _=_;unfold c8;simp only[h.cn];rfl
  have km:=h.size;refine Gq (.chan (ae (w0.heap.size+1))) rfl rfl (by simp[base]) (w':=w) (λ_ _=>rfl) (az _) (λtp d=>by have hc:=hc tp d;go_simp) (λtp d e he=>by have hc:=hc tp d;simp[go_sem, *]at he;subst he;exact CZ (by simp) (by simp;omega)) ?_;walk_nrm;refine oi (.int .i64 k) rfl rfl (by simp[base]) (λw=>by go_simp) (λw=>by simp[go_sem, *]) ?_;walk_nrm;obtain⟨s,r,tm,tk⟩:=h.ch;refine EY.send (C:=w0.heap.size+1) (v:=.int .i64 k) (z:=.tuple #[]) (blocking:=true) (shape:=.send) rfl (λtp d=> ?_) (by omega) tk (by simp;omega) (az _) ?_
  ·refine(stepG_comm rfl rfl (by simp[base]) (cases:= #[scase (w0.heap.size+1) (.int .i64 k) (.tuple #[])]) (blocking:=true) (shape:=.send) (w':=dB w tp d) ?_).trans ?_
   ·simp[execOp,bV,scase]
   ·congr 1
  rw[finishComm_send];have rj: ∀(b:bm) (a:Act) (k:List Item) (ops:Array Oper) (i:Nat) (rest:List Nat),Go.Conc.served (G (b.at a (.inRegion ops (i::rest)::k)) cs) undef=G (b.at (a.put ((ops[i]?).bind (·.dst)) undef) (.inRegion ops rest::k)) cs:=λb a k ops i rest=>by show({frame:=(b.at a (.inRegion ops (i::rest)::k)).finish undef,callers:=cs,status:=.running,dying:=ai}:ay)=_;rw[mV];rfl
  rw[rj];have h':EW w0 fv nj (k+1) aw (w.setChan (w0.heap.size+1) nj (((fP 0 k).map (λ(p:Nat)=>aZ .i64 p)).toArray.push (.int .i64 k)) aw (s+1) r tm):=by
   have blk: ∀b,b≠w0.heap.size+1->(w.setChan (w0.heap.size+1) nj (((fP 0 k).map (λ(p:Nat)=>aZ .i64 p)).toArray.push (.int .i64 k)) aw (s+1) r tm).heap[b]? =w.heap[b]?:=λb hb=>by show(w.heap.setIfInBounds _ _)[b]? =_;rw[aO (Ne.symm hb)]
   refine⟨λb hb=>(blk b (by omega)).trans (h.old b hb),by simpa[pB]using h.size,(blk _ (by omega)).trans h.cf,⟨s+1,r,tm,?_⟩,(blk _ (by omega)).trans h.cn,h.os,h.output⟩;show(w.heap.setIfInBounds _ _)[w0.heap.size+1]? =_;rw[aW (by omega),List.range'_concat];simp
  have sP:=h'.size;generalize w.setChan (w0.heap.size+1) nj (((fP 0 k).map (λ(p:Nat)=>aZ .i64 p)).toArray.push (.int .i64 k)) aw (s+1) r tm=w2 at *;rw[show w.heap.size=w2.heap.size by omega];walk_nrm;refine tJ ?_;refine Ou ?_;refine kP ?_;simp only[au,aj,ax,Nat.reduceAdd,aC,aG,aB];have XG:IntKind.i64.wrap ((k:Int)+1)=((k+1:Nat):Int):=by rw[IntKind.wrap_i64];omega
  refine oi (.int .i64 ((k+1:Nat):Int)) rfl rfl (by simp[base]) (λw=>by go_simp) (λw=>by simp[go_sem, *]) ?_;walk_nrm;refine oi (.int .i64 ((k+1:Nat):Int)) rfl rfl (by simp[base]) (λw=>by go_simp) (λw=>by simp[go_sem, *]) ?_;walk_nrm;refine tJ ?_;refine SM ?_;exact ih (k+1) w2 _ _ _ _ _ _ _ _ _ _ _ _ _ _ _ _ (by omega) h' K
theorem Wz {jf:bQ}{caps:Array aq}(hnj:nj<=1000)(hfv:fv=.func (.func jf) #[] caps)(K: ∀w (t7 t10 t13 t14 t15 t16 t17 t18:aq),EW w0 fv nj nj aA w->vN Tryz.prog c Post w0.heap.size uV (G ((base 47).at ⟨wU n nj fv w0.heap.size t7 undef t10 (.int .i64 nj) (.int .i64 nj) t13 t14 t15 t16 t17 t18 undef undef undef undef undef undef undef,[]⟩ [.code qj]) cs) w):vN Tryz.prog c Post w0.heap.size uV (G ((base 47).at ⟨#[.int .i64 n,.int .i64 nj,fv]++eh 23 undef,[]⟩ [.code kI]) cs) w0:=by
 obtain⟨i0,qX,_,_,uC⟩:=info_parts OZ;simp only[kI,Tryz.f47,bI,dR,dS,eX,ec,cL,dJ];refine aiP ?_;refine kP ?_;simp only[au,aj,ax,Nat.reduceAdd,aC,aG,aB];refine Gq (.pointer (ae ⟨w0.heap.size,0,ai⟩)) (w':=w0.alloc (.cells #[fv] 113)) rfl rfl (by simp[base]) (λb hb=>Below.heap_alloc w0 _ b hb) (by simp) (λtp d=> ?_) (λtp d e he=> ?_) ?_
 ·go_simp;exact⟨rfl,rfl⟩
 ·simp[go_sem, *]at he
 walk_nrm;have b1: ∀b,b<w0.heap.size->(w0.alloc (.cells #[fv] 113)).heap[b]? =w0.heap[b]?:=λb hb=>Below.heap_alloc w0 _ b hb
 have s1:(w0.alloc (.cells #[fv] 113)).heap.size=w0.heap.size+1:=by simp
 have c1:(w0.alloc (.cells #[fv] 113)).heap[w0.heap.size]? =ae (.cells #[fv] 113):=heap_alloc_new w0 _;have o1:(w0.alloc (.cells #[fv] 113)).os=w0.os/\(w0.alloc (.cells #[fv] 113)).output=w0.output:=⟨rfl,rfl⟩;generalize w0.alloc (.cells #[fv] 113)=w1 at *;refine tJ ?_;refine aiP ?_;refine kP ?_;simp only[au,aj,ax,Nat.reduceAdd,aC,aG,aB];refine oi (.int .i64 nj) rfl rfl (by simp[base]) (λw=>by go_simp) (λw=>by simp[go_sem, *]) ?_;walk_nrm;refine Gq (.chan (ae (w0.heap.size+1))) (w':=w1.alloc (.chan nj #[] aw 0 0 aw)) rfl rfl (by simp[base]) (λb hb=>Below.heap_alloc w1 _ b (by omega)) (by simp) (λtp d=> ?_) (λtp d e he=> ?_) ?_
 ·have hr:=λw=>run_makeChan (P:=Tryz.prog) (w:=w) Tryz.underlying179 qX .i64 nj (by omega) (by rw[uC];omega)
  go_simp;exact⟨by show w1.heap.size=_;omega,rfl⟩
 ·have hr:=λw=>events_makeChan (P:=Tryz.prog) (w:=w) Tryz.underlying179 qX .i64 nj (by omega) (by rw[uC];omega) #[]
  simp[go_sem, *]at he
 walk_nrm;have b2: ∀b,b<w0.heap.size+1->(w1.alloc (.chan nj #[] aw 0 0 aw)).heap[b]? =w1.heap[b]?:=λb hb=>Below.heap_alloc w1 _ b (by omega)
 have s2:(w1.alloc (.chan nj #[] aw 0 0 aw)).heap.size=w0.heap.size+2:=by simp[s1]
 have c2:(w1.alloc (.chan nj #[] aw 0 0 aw)).heap[w0.heap.size+1]? =ae (.chan nj #[] aw 0 0 aw):=by rw[<-s1];exact heap_alloc_new w1 _
 have o2:(w1.alloc (.chan nj #[] aw 0 0 aw)).os=w0.os/\(w1.alloc (.chan nj #[] aw 0 0 aw)).output=w0.output:=o1;generalize w1.alloc (.chan nj #[] aw 0 0 aw)=w2 at *;refine Gq (.pointer (ae ⟨w0.heap.size+2,0,ai⟩)) (w':=w2.alloc (.cells #[.chan ai] 179)) rfl rfl (by simp[base]) (λb hb=>Below.heap_alloc w2 _ b (by omega)) (by simp) (λtp d=> ?_) (λtp d e he=> ?_) ?_
 ·go_simp;exact⟨by show w2.heap.size=_;omega,rfl⟩
 ·simp[go_sem, *]at he
 walk_nrm;have b3: ∀b,b<w0.heap.size+2->(w2.alloc (.cells #[.chan ai] 179)).heap[b]? =w2.heap[b]?:=λb hb=>Below.heap_alloc w2 _ b (by omega)
 have s3:(w2.alloc (.cells #[.chan ai] 179)).heap.size=w0.heap.size+3:=by simp[s2]
 have c3:(w2.alloc (.cells #[.chan ai] 179)).heap[w0.heap.size+2]? =ae (.cells #[.chan ai] 179):=by rw[<-s2];exact heap_alloc_new w2 _
 have o3:(w2.alloc (.cells #[.chan ai] 179)).os=w0.os/\(w2.alloc (.cells #[.chan ai] 179)).output=w0.output:=o2;generalize w2.alloc (.cells #[.chan ai] 179)=w3 at *;have hc: ∀tp d,(dB w3 tp d).cell? ⟨w0.heap.size+2,0,ai⟩=ae (.chan ai):=λtp d=>by show w3.cell? _=_;unfold c8;simp only[c3];rfl
 have hz: ∀tp d,(dB w3 tp d).frozen? ⟨w0.heap.size+2,0,ai⟩=aw:=λtp d=>by show w3.frozen? _=_;unfold World.frozen?;simp only[c3];rfl
 refine adl (w':=w3.setCell ⟨w0.heap.size+2,0,ai⟩ (.chan (ae (w0.heap.size+1)))) rfl rfl (by simp[base]) (λb hb=>Below.heap_setCell w3 _ _ b (by simp;omega)) (by simp) (λtp d=> ?_) (λtp d e he=> ?_) ?_
 ·have hc:=hc tp d;have hz:=hz tp d;go_simp;exact Nu _ _ _ _ _
 ·have hc:=hc tp d;have hz:=hz tp d;simp[go_sem, *]at he;subst he;exact CZ (by simp) (by simp;omega)
 walk_nrm;have h4:EW w0 fv nj 0 aw (w3.setCell ⟨w0.heap.size+2,0,ai⟩ (.chan (ae (w0.heap.size+1)))):=by
  have blk: ∀b,b≠w0.heap.size+2->(w3.setCell ⟨w0.heap.size+2,0,ai⟩ (.chan (ae (w0.heap.size+1)))).heap[b]? =w3.heap[b]?:=λb hb=>Below.heap_setCell w3 _ _ b (by simp;omega)
  refine⟨λb hb=> ?_,by simpa using s3,?_,⟨0,0,aw,?_⟩,?_,(PW _ _ _).trans o3.1,(Ea _ _ _).trans o3.2⟩
  ·rw[blk _ (by omega),b3 _ (by omega),b2 _ (by omega),b1 _ hb]
  ·rw[blk _ (by omega),b3 _ (by omega),b2 _ (by omega),c1]
  ·rw[blk _ (by omega),b3 _ (by omega),c2];rfl
  ·rw[setCell_eq_setRow w3 (w0.heap.size+2) 0 #[.chan ai] 179 (0,0) _ c3,setRow_heap w3 (w0.heap.size+2) _ _ 179 _ c3];rfl
 generalize w3.setCell ⟨w0.heap.size+2,0,ai⟩ (.chan (ae (w0.heap.size+1)))=w4 at *;refine tJ ?_;refine aiP ?_;refine aiP ?_;refine kP ?_;simp only[au,aj,ax,Nat.reduceAdd,aC,aG,aB];refine oi (.int .i64 nj) rfl rfl (by simp[base]) (λw=>by go_simp) (λw=>by simp[go_sem, *]) ?_;walk_nrm;refine oi (.int .i64 0) rfl rfl (by simp[base]) (λw=>by go_simp) (λw=>by simp[go_sem, *]) ?_;walk_nrm;refine tJ ?_;refine Ll ?_;refine aaA ?_;refine Wy (by omega) nj 0 w4 _ _ _ _ _ _ _ _ _ _ _ _ _ _ _ _ (by omega) h4 ?_;intro w5 t7 t13 t14 t15 t16 t17 h5;simp only[D',kI,Tryz.f47,bI];refine aiP ?_;refine kP ?_;simp only[au,aj,ax,Nat.reduceAdd,aC,aG,aB];have hc5: ∀tp d,(dB w5 tp d).cell? ⟨w0.heap.size+2,0,ai⟩=ae (.chan (ae (w0.heap.size+1))):=λtp d=>by show w5.cell? _=_;unfold c8;simp only[h5.cn];rfl
 have s5:=h5.size;refine Gq (.chan (ae (w0.heap.size+1))) rfl rfl (by simp[base]) (w':=w5) (λ_ _=>rfl) (az _) (λtp d=>by have hc:=hc5 tp d;go_simp) (λtp d e he=>by have hc:=hc5 tp d;simp[go_sem, *]at he;subst he;exact CZ (by simp) (by simp;omega)) ?_;walk_nrm;obtain⟨s,r,tm,tk⟩:=h5.ch;refine EY.step (w':=w5.setChan (w0.heap.size+1) nj ((fP 0 nj).map (λ(p:Nat)=>aZ .i64 p)).toArray aA s r tm) rfl (λtp d=>⟨_,stepG_close rfl rfl (by simp[base]) rfl (cap:=nj) (s:=s) (r:=r) (tm:=tm) (buf:=((fP 0 nj).map (λ(p:Nat)=>aZ .i64 p)).toArray) rfl (by exact tk) (by kernel_rfl),SJ (by omega) (by simp[pB];omega)⟩) ?_ ?_ (by simp[pB]) (az _) ?_
 ·intro b hb;show(w5.heap.setIfInBounds _ _)[b]? =_;rw[aO (by omega)]
 ·simp[pB]
 have h6:EW w0 fv nj nj aA (w5.setChan (w0.heap.size+1) nj ((fP 0 nj).map (λ(p:Nat)=>aZ .i64 p)).toArray aA s r tm):=by
  have blk: ∀b,b≠w0.heap.size+1->(w5.setChan (w0.heap.size+1) nj ((fP 0 nj).map (λ(p:Nat)=>aZ .i64 p)).toArray aA s r tm).heap[b]? =w5.heap[b]?:=λb hb=>by show(w5.heap.setIfInBounds _ _)[b]? =_;rw[aO (Ne.symm hb)]
  refine⟨λb hb=>(blk b (by omega)).trans (h5.old b hb),by simpa[pB]using h5.size,(blk _ (by omega)).trans h5.cf,⟨s,r,tm,?_⟩,(blk _ (by omega)).trans h5.cn,h5.os,h5.output⟩;show(w5.heap.setIfInBounds _ _)[w0.heap.size+1]? =_;rw[aW (by omega)]
 generalize w5.setChan (w0.heap.size+1) nj ((fP 0 nj).map (λ(p:Nat)=>aZ .i64 p)).toArray aA s r tm=w6 at *;walk_nrm;refine tJ ?_;exact K w6 _ _ _ _ _ _ _ _ h6
end
end
section
open Rel
open Go.Conc Go.ConcN
open Go.Conc.Lib (doneFn)
open Go.ConcR (Payload WgAt)
open Go.ConcR.Gen (body_done)
instance agU:Payload:=⟨1⟩
structure WK (φ:Ph) (w0:ah) (b1 C:Nat) (fv:aq) (γ:Gh) (w:ah):Prop where
 o1:γ.own b1
 oC:γ.own C
 c1:w.cell? ⟨b1,0,ai⟩=ae (.pointer (ae ⟨φ.Wg,0,ai⟩))
 cC:w.heap[C]? =ae (.cells #[fv] 1)
 rd: ∀b,φ.od b->w.heap[b]? =w0.heap[b]?
 pay: ∀b,φ.CB b->fz w b=fz w0 b
 live:WgLive φ.ty φ.Wg w
 cb: ∀r,γ.own r-> ¬φ.CB r/\ ¬φ.od r/\r≠φ.Wg/\r<w.heap.size
 size:w0.heap.size<=w.heap.size
 FN: ∀i,γ.held i->φ.JP (λb=>γ.own b/\b≠C) i w
section
variable {φ:Ph} {w0 w aD:ah} {b1 C:Nat} {fv:aq} {γ:Gh}
theorem WK.rely (O:φ.Ok)(h:WK φ w0 b1 C fv γ w)(r:φ.eP γ w aD):WK φ w0 b1 C fv γ aD:=⟨h.o1,h.oC,(c9 (r.own b1 h.o1)).trans h.c1,(r.own C h.oC).trans h.cC,λb hb=>(r.rd b hb).trans (h.rd b hb),λb hb=>(r.pay b hb).trans (h.pay b hb),r.live h.live,λx hx=>let⟨a,b,d,c⟩:=h.cb x hx;⟨a,b,d,bX c r.size⟩,bP h.size r.size,λi hi=>O.jp _ w aD i (λb hb=>r.own b hb.1) (λa ha=>r.cell i a hi ha) (h.FN i hi)⟩
theorem WK.agv (h:WK φ w0 b1 C fv γ w):PayAt C 1 w:=⟨_,h.cC,rfl⟩
theorem WK.has (h:WK φ w0 b1 C fv γ w):Has C 0 fv w:=by unfold Has c8;rw[h.cC];rfl
theorem WK.close (h:WK φ w0 b1 C fv γ w):WK φ w0 b1 C fv γ.close w:=⟨h.o1,h.oC,h.c1,h.cC,h.rd,h.pay,h.live,h.cb,h.size,h.FN⟩
noncomputable def Re (φ:Ph)(γ:Gh):Nat:=by classical exact(aG φ.nj).countP (λp=>decide (¬γ.held p))
theorem O9 {p:Nat}(hp:p<φ.nj)(hn: ¬γ.held p){γ':Gh}(h: ∀i,γ'.held i↔(γ.held i\/i=p)):Re φ γ'<Re φ γ:=by
 classical
 unfold Re;refine zQ (λx _ hx=> ?_) ⟨p,mD.2 hp,?_,?_⟩
 ·simp only[decide_eq_true_eq]at hx⊢;exact λhh=>hx ((h x).2 (.inl hh))
 ·simpa using hn
 ·simpa using(h p).2 (.inr rfl)
def CI (φ:Ph)(w0:ah)(jf:bQ)(caps:Array aq):Prop:=
 ∀(b1 C:Nat) (fv:aq) (γ:Gh) (w:ah) (p:Nat),WK φ w0 b1 C fv γ w->p<φ.nj-> ¬γ.held p->φ.J0 p w->
  ∃F x,φ.P.funcs[jf]? =ae F/\(F.name== "runtime.NumGoroutine")=aw/\F.body=ae x/\
   ∀(b:bm) (a:Act) (k:List Item) (cs:List bm) (ops:Array Oper) (i:Nat) (rest:List Nat),b.kind=.normal->
    (∀γ' w',WK φ w0 b1 C fv γ' w'->(∀q,γ'.held q↔(γ.held q\/q=p))->γ'.over=γ.over->φ.WT γ' (G (b.at (a.put ((ops[i]?).bind (·.dst)) (.tuple #[])) (.inRegion ops rest::k)) cs) w')->
    φ.WT (γ.hold p) (G ((base jf).at {tmps:=(#[φ.jv p]++caps)++eh (F.ntmps-(#[φ.jv p]++caps).size) undef,defers:=[]} [.code x]) (b.at a (.inRegion ops (i::rest)::k)::cs)) w
end
noncomputable def Jg:Code:=match Tryz.f105.body with|some (.seq _ (.block _ (.loop x)))=>x|_=>.skip
theorem Qb {φ:Ph}(O:φ.Ok)(hP:φ.P=Tryz.prog)(hz:φ.z=.int .i64 0)(Xi: ∀p,p<φ.nj-> ∃n,φ.jv p=.int .i64 n){w0:ah}{bn bf b1 C:Nat}{fv:aq}{jf:bQ}{caps:Array aq}(rf:φ.od bf)(cf:w0.cell? ⟨bf,0,ai⟩=ae (.func (.func jf) #[] caps))(hJ:CI φ w0 jf caps){b:bm}{a:Act}{k:List Item}{cs:List bm}{ops:Array Oper}{i:Nat}{rest:List Nat}(K: ∀γ' w',WK φ w0 b1 C fv γ' w'->γ'.over->φ.WT γ' (G (b.at (a.put ((ops[i]?).bind (·.dst)) (.tuple #[])) (.inRegion ops rest::k)) cs) w'): ∀(n:Nat) (γ:Gh) (w:ah) (x2 x4 x5 x6 x7 x8 x9:aq),Re φ γ=n->WK φ w0 b1 C fv γ w->φ.WT γ (G ((base 105).at ⟨#[.pointer (ae ⟨bn,0,ai⟩),.pointer (ae ⟨bf,0,ai⟩),x2,.chan (ae φ.Ch),x4,x5,x6,x7,x8,x9],[]⟩ [.code Jg,.inLoop Jg,.inBlock 0]) (b.at a (.inRegion ops (i::rest)::k)::cs)) w:=by
 intro n
 induction n using l7 with
 |_ n ih=>
  intro γ w x2 x4 x5 x6 x7 x8 x9 hn h;have Xe:φ.P.funcs[105]? =ae Tryz.f105:=by rw[hP];exact Tryz.func105
  simp only[Jg,Tryz.f105];refine l6 O ?_;refine ib O ?_;simp only[au,aj,ax,Nat.reduceAdd,aC,aG,aB];refine ab9 rfl rfl (by simp[base]) rfl rfl (λw=> ?_) (λw=> ?_) (λaD p hr hp hnp QW=> ?_) (λaD hr=> ?_)
  ·rw[hP,hz];go_simp
   rfl
  ·rw[hP];simp[go_sem, *]
  ·have hk:=h.rely O hr;obtain⟨m,hm⟩:=Xi p hp;rw[hm];simp only[Act.put,List.setIfInBounds_toArray,List.set_cons_succ,List.set_cons_zero];refine lH O (.bool aA) rfl rfl (by simp[base]) (λw _=>by go_simp) (λw _=>by simp[go_sem, *]) ?_;walk_nrm;refine mO O ?_;refine l6 O ?_;refine NB O rfl ?_;refine Kg O ?_;refine zr O ?_;refine l6 O ?_;refine ib O ?_;simp only[au,aj,ax,Nat.reduceAdd,aC,aG,aB];refine lH O (.int .i64 m) rfl rfl (by simp[base]) (λw _=>by go_simp) (λw _=>by simp[go_sem, *]) ?_;walk_nrm;refine lH O (.int .i64 m) rfl rfl (by simp[base]) (λw _=>by go_simp) (λw _=>by simp[go_sem, *]) ?_;walk_nrm;refine mO O ?_;refine ib O ?_;simp only[au,aj,ax,Nat.reduceAdd,aC,aG,aB];have hc: ∀e8,φ.eP (γ.hold p) aD e8->e8.cell? ⟨bf,0,ai⟩=ae (.func (.func jf) #[] caps):=λe8 h2=>(c9 ((h2.rd bf rf).trans (hk.rd bf rf))).trans cf
   refine rJ O (.func (.func jf) #[] caps) (ad:=⟨bf,0,ai⟩) rfl rfl (by simp[base]) (.inr rf) (λe8 h2=>by have hc:=hc e8 h2;rw[hP];go_simp) (λe8 h2 e he=>by have hc:=hc e8 h2;rw[hP]at he;simp[go_sem, *]at he;exact he) ?_;clear hc;walk_nrm;refine lH O (.int .i64 m) rfl rfl (by simp[base]) (λw _=>by go_simp) (λw _=>by simp[go_sem, *]) ?_;walk_nrm;obtain⟨F,x,hF,hU,hx,hgo⟩:=hJ b1 C fv γ aD p hk hp hnp QW;refine Es O rfl rfl (by simp[base]) rfl rfl hF hU hx ?_;rw[hm]at hgo;walk_nrm;refine hgo _ _ _ _ _ _ _ rfl λγ' w' zF hh hov=> ?_
   walk_nrm;refine mO O ?_;refine Eu O ?_;refine Iq O ?_;exact ih _ (by have:=O9 hp hnp hh;omega) γ' w' _ _ _ _ _ _ _ rfl zF
  ·have hk:=(h.rely O hr).close;rw[hz];simp only[Act.put,List.setIfInBounds_toArray,List.set_cons_succ,List.set_cons_zero];refine lH O (.bool aw) rfl rfl (by simp[base]) (λw _=>by go_simp) (λw _=>by simp[go_sem, *]) ?_;walk_nrm;refine mO O ?_;refine l6 O ?_;refine Et O rfl ?_;refine R7 O rfl ?_;refine Ke O ?_;refine .leave0 O rfl rfl Xe rfl ?_;exact K _ _ hk trivial
theorem aev {φ:Ph}(O:φ.Ok)(hP:φ.P=Tryz.prog)(hz:φ.z=.int .i64 0)(Xi: ∀p,p<φ.nj-> ∃n,φ.jv p=.int .i64 n){w0:ah}{bn bf b1 C:Nat}{fv:aq}{jf:bQ}{caps:Array aq}(rn:φ.od bn)(rf:φ.od bf)(cn:w0.cell? ⟨bn,0,ai⟩=ae (.chan (ae φ.Ch)))(cf:w0.cell? ⟨bf,0,ai⟩=ae (.func (.func jf) #[] caps))(hJ:CI φ w0 jf caps){b:bm}{a:Act}{k:List Item}{cs:List bm}{ops:Array Oper}{i:Nat}{rest:List Nat}(γ:Gh)(w:ah)(h:WK φ w0 b1 C fv γ w)(K: ∀γ' w',WK φ w0 b1 C fv γ' w'->γ'.over->φ.WT γ' (G (b.at (a.put ((ops[i]?).bind (·.dst)) (.tuple #[])) (.inRegion ops rest::k)) cs) w'):φ.WT γ (G ((base 105).at ⟨#[.pointer (ae ⟨bn,0,ai⟩),.pointer (ae ⟨bf,0,ai⟩)]++eh 8 undef,[]⟩ [.code ((Tryz.f105).body.getD .skip)]) (b.at a (.inRegion ops (i::rest)::k)::cs)) w:=by
 simp only[Tryz.f105,bI,dR,dS,eX,ec,cL,dJ];refine l6 O ?_;refine ib O ?_;simp only[au,aj,ax,Nat.reduceAdd,aC,aG,aB];have hc: ∀e8,φ.eP γ w e8->e8.cell? ⟨bn,0,ai⟩=ae (.chan (ae φ.Ch)):=λe8 h2=>(c9 ((h2.rd bn rn).trans (h.rd bn rn))).trans cn
 refine rJ O (.chan (ae φ.Ch)) (ad:=⟨bn,0,ai⟩) rfl rfl (by simp[base]) (.inr rn) (λe8 h2=>by have hc:=hc e8 h2;rw[hP];go_simp) (λe8 h2 e he=>by have hc:=hc e8 h2;rw[hP]at he;simp[go_sem, *]at he;exact he) ?_;clear hc;walk_nrm;refine mO O ?_;refine zr O ?_;refine R8 O ?_;exact Qb O hP hz Xi rf cf hJ K _ γ w _ _ _ _ _ _ _ rfl h
theorem Wv (d:Nat)(w:ah):Sem.events Tryz.prog (Op.equalIn (d+1) 20 .nilIface .nilIface) w #[]= #[]:=by unfold Op.equalIn;simp[go_sem]
theorem T9 (d:Nat)(w:ah):Sem.run Tryz.prog (Op.equalIn (d+1) 20 .nilIface .nilIface) w=.ok aA w:=by unfold Op.equalIn;simp[go_sem]
theorem SL (w:ah):Sem.events Tryz.prog (binOp BinOp.neq 20 Value.nilIface Value.nilIface) w #[]= #[]:=by have h:binOp BinOp.neq 20 Value.nilIface Value.nilIface=(do pure (.bool (!(<-Op.equal 20 .nilIface .nilIface)))):=rfl;rw[h];unfold Op.equal;have e:Op.maxDepth=9999+1:=rfl;rw[e];have h1:=Wv 9999 w;have h2:=T9 9999 w;generalize Op.equalIn (9999+1) 20 .nilIface .nilIface=s at h1 h2;simp[h1,h2]
theorem Zj {φ:Ph}(O:φ.Ok)(hP:φ.P=Tryz.prog)(FK:φ.ty=189)(hz:φ.z=.int .i64 0)(Xi: ∀p,p<φ.nj-> ∃n,φ.jv p=.int .i64 n){w0:ah}{bn bf b1 C:Nat}{jf:bQ}{caps:Array aq}(rn:φ.od bn)(rf:φ.od bf)(cn:w0.cell? ⟨bn,0,ai⟩=ae (.chan (ae φ.Ch)))(cf:w0.cell? ⟨bf,0,ai⟩=ae (.func (.func jf) #[] caps))(hJ:CI φ w0 jf caps){γ:Gh}{w:ah}(h:WK φ w0 b1 C (.func (.func 105) #[] #[.pointer (ae ⟨bn,0,ai⟩),.pointer (ae ⟨bf,0,ai⟩)]) γ w):φ.WT γ (born φ.P (pw 154 #[.pointer (ae ⟨b1,0,ai⟩),.pointer (ae ⟨C,0,ai⟩)] #[])) w:=by
 have hf1:φ.P.funcs[154]? =ae Tryz.f154:=by rw[hP];exact Tryz.func154
 have hf2:φ.P.funcs[155]? =ae Tryz.f155:=by rw[hP];exact Tryz.func155
 have hf3:φ.P.funcs[105]? =ae Tryz.f105:=by rw[hP];exact Tryz.func105
 have H:Go.Conc.Lib.WgLib φ.P k7:=hP▸Ze;refine ab7 O hf1 rfl rfl ?_
 walk_nrmf Tryz.f154
 refine l6 O ?_;refine ib O ?_;simp only[au,aj,ax,Nat.reduceAdd,aC,aG,aB];refine lH O (.func (.func 155) #[] #[.pointer (ae ⟨b1,0,ai⟩)]) rfl rfl (by simp[baseD]) (λw _=>by go_simp) (λw _=>by simp[go_sem, *]) ?_;walk_nrm;refine Us O rfl rfl (by simp[baseD]) rfl rfl rfl ?_;walk_nrm;refine mO O ?_;refine ib O ?_;simp only[au,aj,ax,Nat.reduceAdd,aC,aG,aB];have hc: ∀e8,φ.eP γ w e8->e8.cell? ⟨C,0,ai⟩=ae (.func (.func 105) #[] #[.pointer (ae ⟨bn,0,ai⟩),.pointer (ae ⟨bf,0,ai⟩)]):=λe8 h2=>(h.rely O h2).has
 refine rJ O (.func (.func 105) #[] #[.pointer (ae ⟨bn,0,ai⟩),.pointer (ae ⟨bf,0,ai⟩)]) (ad:=⟨C,0,ai⟩) rfl rfl (by simp[baseD]) (.inl h.oC) (λe8 h2=>by have hc:=hc e8 h2;rw[hP];go_simp) (λe8 h2 e he=>by have hc:=hc e8 h2;rw[hP]at he;simp[go_sem, *]at he;exact he) ?_;clear hc;walk_nrm;refine Es O rfl rfl (by simp[baseD]) rfl rfl hf3 rfl rfl ?_;walk_nrm;refine aev O hP hz Xi rn rf cn cf hJ γ w h λγ' w' h' hov=> ?_
 walk_nrm;refine mO O ?_;refine Ke O ?_;refine Qc O rfl hf2 rfl rfl ?_
 walk_nrmf Tryz.f155
 refine l6 O ?_;refine l6 O ?_;refine ib O ?_;simp only[au,aj,ax,Nat.reduceAdd,aC,aG,aB];refine Kf O rfl rfl rfl rfl rfl rfl ?_;walk_nrm;refine lH O .nilIface rfl rfl (by simp[baseD]) (λw _=>by go_simp) (λw _=>by simp[go_sem, *]) ?_;walk_nrm;refine mO O ?_;refine l6 O ?_;refine ib O ?_;simp only[au,aj,ax,Nat.reduceAdd,aC,aG,aB];refine lH O .nilIface rfl rfl (by simp[baseD]) (λw _=>by go_simp) (λw _=>by simp[go_sem, *]) ?_;walk_nrm;refine lH O (.bool aw) rfl rfl (by simp[baseD]) (λw _=>by rw[hP];go_simp) (λw _=>by rw[hP];simp[go_sem, *];exact SL w) ?_;walk_nrm;refine mO O ?_;refine Et O rfl ?_;refine Kg O ?_;refine ib O ?_;simp only[au,aj,ax,Nat.reduceAdd,aC,aG,aB];have hc: ∀e8,φ.eP γ' w' e8->e8.cell? ⟨b1,0,ai⟩=ae (.pointer (ae ⟨φ.Wg,0,ai⟩)):=λe8 h2=>(h'.rely O h2).c1
 refine rJ O (.pointer (ae ⟨φ.Wg,0,ai⟩)) (ad:=⟨b1,0,ai⟩) rfl rfl (by simp[baseD]) (.inl h'.o1) (λe8 h2=>by have hc:=hc e8 h2;rw[hP];go_simp) (λe8 h2 e he=>by have hc:=hc e8 h2;rw[hP]at he;simp[go_sem, *]at he;exact he) ?_;clear hc;walk_nrm;refine Es O (caps:= #[]) rfl rfl (by simp[baseD]) rfl rfl H.f_done (Go.ConcR.Gen.nm_done k7) rfl ?_
 walk_nrmf doneFn
 refine ab8 (L:=k7) H FK hov h'.oC h'.agv h'.has h'.live h'.FN (qt:=3+2) ?_;walk_nrm;refine QuitsD.ctl rfl (λ_=>stepG_region_end) ?_;refine QuitsD.ctl rfl (λ_=>stepG_end) ?_;refine QuitsD.leaveD rfl rfl hf2 rfl rfl ?_;exact JE rfl rfl hf1 rfl
end
section
open Go.RowKit
def pL (x:Int×Int):List Int:=[x.1,x.2]
def pV (x:Int×Int):aq:=.agg (ints (pL x))
@[go_sem] theorem aia (a b:Int):pV (a,b)=.agg #[.int .i64 a,.int .i64 b]:=rfl
abbrev bz (pb:Nat)(ps:List (Int×(Int×Int))):bT:=ux (aZ .i64) pV nN pb ps
theorem Qe (w:ah):(zeroValue 132).run Tryz.prog w=.ok (pV (0,0)) w:=by kernel_rfl
def xZ (p sp tb pb:Nat)(ls:List (Int×Bool))(T:WT):List bT:=[bg p 108 #[.pointer (ae ⟨sp,0,ai⟩),.map (ae tb),.map (ae pb)],b9 sp ls,PtrMap tb (T.ks.map λK=>(K,T.pt K)),bz pb T.ps]++T.ks.map λK=>nI (T.pt K) K (T.rw K)
def dG (p:Nat)(ls:List (Int×Bool))(f:BF):bT where
 at_ w F:= ∃sp tb pb T,nm T f/\Sep (xZ p sp tb pb ls T) w F
 frame h ho hd:=by obtain⟨sp,tb,pb,T,h1,hs⟩:=h;exact⟨sp,tb,pb,T,h1,hs.frame ho hd⟩
 cut h hd:=by obtain⟨sp,tb,pb,T,h1,hs⟩:=h;exact⟨sp,tb,pb,T,h1,hs.cut hd⟩
section
variable {G:Nat->Prop} {w0 w w':ah} {l:List bT} {p sp tb pb:Nat} {ls:List (Int×Bool)} {f:BF} {T:WT}
theorem In.agt (h:In G w0 (dG p ls f::l) w): ∃sp tb pb T,nm T f/\In G w0 (xZ p sp tb pb ls T++l) w:=by obtain⟨⟨F1,F2,⟨sp,tb,pb,T,hT,hs⟩,h2,h3,h4⟩,ho⟩:=h;exact⟨sp,tb,pb,T,hT,(Sep.join hs h2 h3).cut λk _ hk=>h4 k hk,ho⟩
theorem In.agD (hT:nm T f)(h:In G w0 (xZ p sp tb pb ls T++l) w):In G w0 (dG p ls f::l) w:=by obtain⟨hs,ho⟩:=h;obtain⟨F1,F2,h1,h2,h3,h4⟩:=Sep.part hs;exact⟨⟨F1,F2,⟨sp,tb,pb,T,hT,h1⟩,h2,h3,h4⟩,ho⟩
end
def di (T:WT)(K:Int):bT:=nI (T.pt K) K (T.rw K)
theorem rI (p sp tb pb:Nat)(ls:List (Int×Bool))(T:WT)(l:List bT):(xZ p sp tb pb ls T++l).Perm (bg p 108 #[.pointer (ae ⟨sp,0,ai⟩),.map (ae tb),.map (ae pb)]::b9 sp ls::PtrMap tb (T.ks.map λK=>(K,T.pt K))::bz pb T.ps::(l++T.ks.map (di T))):=by unfold xZ;rw[dn];exact dE _ List.perm_append_comm
section
variable {G:Nat->Prop} {w0 w w':ah} {l:List bT} {p sp tb pb:Nat} {ls:List (Int×Bool)} {f:BF} {T:WT}
theorem In.kQ (h:In G w0 (dG p ls f::l) w): ∃sp tb pb T,nm T f/\In G w0 (bg p 108 #[.pointer (ae ⟨sp,0,ai⟩),.map (ae tb),.map (ae pb)]::b9 sp ls::PtrMap tb (T.ks.map λK=>(K,T.pt K))::bz pb T.ps::(l++T.ks.map (di T))) w:=by obtain⟨sp,tb,pb,T,h1,h2⟩:=h.agt;exact⟨sp,tb,pb,T,h1,h2.perm (rI p sp tb pb ls T l)⟩
theorem In.fW (hT:nm T f)(h:In G w0 (bg p 108 #[.pointer (ae ⟨sp,0,ai⟩),.map (ae tb),.map (ae pb)]::b9 sp ls::PtrMap tb (T.ks.map λK=>(K,T.pt K))::bz pb T.ps::(l++T.ks.map (di T))) w):In G w0 (dG p ls f::l) w:=In.agD hT (h.perm (rI p sp tb pb ls T l).symm)
theorem MA {α:Type}: ∀(L:List α) (n:Nat) (hn:n<L.length),(L[n]::L.eraseIdx n).Perm L
 | [],_,hn=>by simp at hn
 |a::L,0,_=>pW _
 |a::L,n+1,hn=>(cB _ _ _).trans ((MA L n (by simpa using hn)).cons a)
theorem In.nth {L:List bT}(h:In G w0 L w)(n:Nat)(hn:n<L.length):In G w0 (L[n]::L.eraseIdx n) w:=h.perm (MA L n hn).symm
theorem In.to4 {A B C P:bT}(h:In G w0 (P::A::B::C::l) w):In G w0 (A::B::C::P::l) w:=h.perm ((cB A P _).trans (((cB B P _).trans ((cB C P _).cons B)).cons A))
theorem In.to3 {A B P:bT}(h:In G w0 (P::A::B::l) w):In G w0 (A::B::P::l) w:=h.perm ((cB A P _).trans ((cB B P _).cons A))
theorem In.to5 {A B C D P:bT}(h:In G w0 (P::A::B::C::D::l) w):In G w0 (A::B::C::D::P::l) w:=h.perm ((cB A P _).trans (((cB B P _).trans (((cB C P _).trans ((cB D P _).cons C)).cons B)).cons A))
theorem In.reorder {M:List bT}(h:In G w0 M w)(n:Nat)(σ:List Nat)(hσ:σ.isPerm (aG n)=aA)(hn:n<=M.length):In G w0 (σ.map (λi=>M.getD i (bg 0 0 #[]))++M.drop n) w:=by
 refine h.perm ?_;have e:M=(aG n).map (λi=>M.getD i (bg 0 0 #[]))++M.drop n:=by
  conv=>lhs;rw[<-nQ n M]
  congr 1;apply lJ;intro i;rw[gN,dK];by_cases hi:i<n
  ·rw[if_pos hi,List.getElem?_range hi,ao (by omega)];simp[bq,ao (show i<M.length by omega)]
  ·rw[if_neg hi,je (by simp;omega)];rfl
 conv=>lhs;rw[e]
 exact List.Perm.append_right _ ((List.isPerm_iff.1 hσ).symm.map _)
theorem In.yW {X:List bT}(h:In G w0 (X++T.ks.map (di T)) w){K:Int}(hK:K∈T.ks):In G w0 (nI (T.pt K) K (T.rw K)::(X++(T.ks.erase K).map (di T))) w:=h.perm ((dE X ((List.perm_cons_erase hK).map (di T))).trans List.perm_middle)
theorem In.Qv {X:List bT}{K:Int}{rows:List cz}{ks:List Int}{ps:List (Int×(Int×Int))}(hn:T.ks.Nodup)(hK:K∈T.ks)(h:In G w0 (nI (T.pt K) K rows::(X++(T.ks.erase K).map (di T))) w):In G w0 (X++T.ks.map (di ⟨ks,T.pt,fZ T.rw K rows,ps⟩)) w:=by
 refine h.perm (List.Perm.symm ?_);refine(dE X ((List.perm_cons_erase hK).map _)).trans ?_;rw[fA];have e1:di ⟨ks,T.pt,fZ T.rw K rows,ps⟩ K=nI (T.pt K) K rows:=by unfold di;simp only[ia]
 have e2:(T.ks.erase K).map (di ⟨ks,T.pt,fZ T.rw K rows,ps⟩)=(T.ks.erase K).map (di T):=by
  apply dy;intro j hj;have:j≠K:=by rintro rfl;exact(List.Nodup.not_mem_erase hn) hj
  unfold di;simp only[gG _ _ this]
 rw[e1,e2];exact List.perm_middle
theorem In.agr {X:List bT}{K:Int}{q:Nat}{rows:List cz}{ps:List (Int×(Int×Int))}(hK:K∉T.ks)(h:In G w0 (nI q K rows::(X++T.ks.map (di T))) w):In G w0 (X++(T.ks++[K]).map (di ⟨T.ks++[K],fZ T.pt K q,fZ T.rw K rows,ps⟩)) w:=by
 refine h.perm ?_;rw[dX];have e1:[K].map (di ⟨T.ks++[K],fZ T.pt K q,fZ T.rw K rows,ps⟩)=[nI q K rows]:=by unfold di;simp only[fA,List.map_nil,ia]
 have e2:T.ks.map (di ⟨T.ks++[K],fZ T.pt K q,fZ T.rw K rows,ps⟩)=T.ks.map (di T):=by
  apply dy;intro j hj;have:j≠K:=λe=>hK (by rw[<-e];exact hj)
  unfold di;simp only[gG _ _ this]
 rw[e1,e2,<-dn];exact(List.perm_append_singleton _ _).symm
theorem In.adh {X:List bT}{K:Int}{q:Nat}{rows lh:List cz}{ks:List Int}{ps:List (Int×(Int×Int))}(hn:T.ks.Nodup)(h:In G w0 (nI q K rows::(X++(T.ks.erase K).map (di T))) w):In G w0 (X++(T.ks.filter λk=> !decide (k=K)).map (di ⟨ks,T.pt,fZ T.rw K lh,ps⟩)) w:=by
 have h1:=h.drop;have e:(T.ks.filter λk=> !decide (k=K))=T.ks.erase K:=by rw[hn.erase_eq_filter];apply List.filter_congr;intro x _;by_cases hx:x=K<;>simp[hx]
 have e2:(T.ks.erase K).map (di ⟨ks,T.pt,fZ T.rw K lh,ps⟩)=(T.ks.erase K).map (di T):=by
  apply dy;intro j hj;have:j≠K:=by rintro rfl;exact(List.Nodup.not_mem_erase hn) hj
  unfold di;simp only[gG _ _ this]
 rw[e,e2];exact h1
end
theorem nm.qM {T:WT}{f:BF}(h:nm T f){K:Int}(hK:K∈T.ks):(T.rw K).length<=60:=by
 have LO:((T.rw K).map λr=>r.h.1).Nodup:=by
  refine Mz λi j x LM hi hj=> ?_
  rw[dK]at hi hj;obtain⟨r,hr,rfl⟩:=aK.1 hi;obtain⟨r',we,e⟩:=aK.1 hj;obtain⟨_,h1⟩:=h.at_ K hK i r hr;obtain⟨_,h2⟩:=h.at_ K hK j r' we;rw[<-e,h2]at h1;injection h1 with h1
  injection h1 with _ h1
  omega
 have oB: ∀x∈(T.rw K).map (λr=>r.h.1),x∈(aG 60).map (λi:Nat=>(i:Int)):=by intro x hx;obtain⟨r,hr,rfl⟩:=aN.1 hx;obtain⟨i,hi,U2⟩:=dp.1 hr;obtain⟨h1,_⟩:=h.at_ K hK i r (by rw[ao hi,U2]);obtain⟨_,_,h2,h3⟩:=h.ok _ _ _ h1;exact aN.2 ⟨r.h.1.toNat,mD.2 (by omega),by omega⟩
 have:=vq LO oB;simpa using this
section
variable {G:Nat->Prop} {w0 w:ah} {l:List bT} {p:Nat} {ls:List (Int×Bool)} {f:BF}
theorem In.slotsOf (h:In G w0 (dG p ls f::l) w): ∃sp F,(∀n:After w,n.w.cell? ⟨p,0,ai⟩=ae (.pointer (ae ⟨sp,0,ai⟩)))/\(∀n:After w,dY n.w sp ls F):=by obtain⟨sp,tb,pb,T,hT,hI⟩:=h.kQ;obtain⟨F1,hS⟩:=hI.swap.head;exact⟨sp,F1,λn=>(hI.blk.after n.below).cell 0,λn=>iX.after hS n.below⟩
end
end
section
open Go.RowKit
theorem kK {b:aQ}(h:bK b=0):0<=b.k/\b.k<=255:=(ns b h).1
theorem Ew (w:ah):(zeroValue 134).run Tryz.prog w=.ok (.pointer ai) w:=by kernel_rfl
theorem abk (T:WT):bG (T.ks.map λK=>(K,T.pt K))=T.ks:=by
 unfold bG;rw[List.map_map]
 conv=>rhs;rw[<-List.map_id T.ks]
 exact dy λ_ _=>rfl
theorem Py (T:WT)(K:Int):eG (T.ks.map λK=>(K,T.pt K)) K=if K∈T.ks then ae (T.pt K)else ai:=by
 split
 ·rename_i h
  unfold eG;have: ∀(l:List Int),K∈l->(l.map λK=>(K,T.pt K)).find? (λp=>decide (p.1=K))=ae (K,T.pt K):=by
   intro l
   induction l with
   |nil=>simp
   |cons a l ih=>
    intro hm;rw[fA,nK];by_cases e:a=K
    ·simp[e]
    ·rw[decide_eq_false e];exact ih (by rcases cy.1 hm with h|h;exact absurd h.symm e;exact h)
  rw[this _ h];rfl
 ·rename_i h
  rw[sV,abk];exact h
theorem Yp (T:WT)(K:Int)(p:Nat)(h:K∉T.ks):iP (T.ks.map λK=>(K,T.pt K)) K p=(T.ks++[K]).map λk=>(k,fZ T.pt K p k):=by
 unfold iP;rw[if_neg]
 ·rw[dX];congr 1
  ·apply dy;intro k hk;rw[gG _ _ (λe=>h (by rw[<-e];exact hk))]
  ·simp[ia]
 ·intro ha;obtain⟨q,hq,e⟩:=kB.1 ha;obtain⟨k,hk,rfl⟩:=aN.1 hq;exact h (by simpa using(by simpa using e:k=K)▸hk)
theorem O7 {G:Nat->Prop}{w0 w:ah}{l:List bT}{p:Nat}{ls:List (Int×Bool)}{f:BF}(h:In G w0 (dG p ls f::l) w)(s g:Int)(b:aQ)(hf:f s=ai)(hb:bK b=0/\b.v.length=8/\0<=s/\s<60):Calls Tryz.prog 128 #[.pointer (ae ⟨p,0,ai⟩),.agg #[.int .i64 s,.int .i64 g],.agg (ints b.list)] w λe w'=>e=.returned (.tuple #[])/\In G w0 (dG p ls (dH f s (ae (g,b)))::l) w':=by
 obtain⟨sp,tb,pb,T,hT,hI⟩:=h.kQ;have hk:=kK hb.1;have HT:=af hT;have HF:=af hf;have HB:=af hb;have k9:=af hI;have HK:=af hk;clear h hT hI hf hb hk;have zD:b.list.length=9:=by unfold aQ.list;rw[aj,HB.out.2.1]
 go_enter Tryz.func128,Tryz.ntmps128
 go_upto_region 1 with(fail)
 refine cc (In G w0 (bg (w.heap.size+1) 48 (ints b.list)::bg w.heap.size 43 (ints [s,g])::bg p 108 #[.pointer (ae ⟨sp,0,ai⟩),.map (ae tb),.map (ae pb)]::b9 sp ls::PtrMap tb (T.ks.map λK=>(K,T.pt K))::bz pb T.ps::(l++T.ks.map (di T)))) (by have:=(k9.out.alloc 43 (ints [s,g])).alloc 48 (ints b.list);rw[cQ]at this;exact this) ?_
 generalize w.heap.size+1=bb;generalize w.heap.size=hb;intro w1 jU;have c1: ∀n:After w1,n.w.cell? ⟨p,1,ai⟩=ae (.map (ae tb)):=λn=>(jU.third.blk.after n.below).cell 1
 have c2: ∀n:After w1,n.w.cell? ⟨bb,0,ai⟩=ae (.int .i64 b.k):=λn=>(jU.blk.after n.below).cell 0
 have ny:=(jU.nth 4 (by simp)).hZ;have vd: ∀n:After w1,(lj 105 (.map (ae tb)) (.int .i64 b.k) aA).run Tryz.prog n.w=.ok (if b.k∈T.ks then .tuple #[.pointer (ae ⟨T.pt b.k,0,ai⟩),.bool aA]else .tuple #[.pointer ai,.bool aw]) n.w:=λn=>by
  rw[(ny.after n.below).look rV Tryz.underlying105 (Ew n.w) (x:=b.k) (iw (by have:=HK.out;omega)) aA,Py];by_cases e:b.k∈T.ks
  ·rw[if_pos e,if_pos e];rfl
  ·rw[if_neg e,if_neg e];rfl
 have pY:=af jU;clear jU k9 ny;by_cases hK:b.k∈T.ks
 ·rw[if_pos hK]at vd;have KI:=af hK;clear hK;refine bU (by kernel_rfl) (by kernel_rfl) ?_
  repeat(go_big_quiet_step (fail))
  refine wpQuiet_nil ?_;rintro _ ⟨n,rfl⟩;have gX:=pY.out.below n.below;generalize n.w=w2 at *;have k1:row? w2 bb 0 9=ae (ints b.list):=gX.blk.bt zD;have k2:row? w2 hb 0 2=ae (ints [s,g]):=gX.swap.blk.bt rfl;have gd:=af gX;clear gX c1 c2 vd pY;have fF:In G w0 (nI (T.pt b.k) b.k (T.rw b.k)::(bg bb 48 (ints b.list)::bg hb 43 (ints [s,g])::bg p 108 #[.pointer (ae ⟨sp,0,ai⟩),.map (ae tb),.map (ae pb)]::b9 sp ls::PtrMap tb (T.ks.map λK=>(K,T.pt K))::bz pb T.ps::l++(T.ks.erase b.k).map (di T))) w2:=In.yW (X:=bg bb 48 (ints b.list)::bg hb 43 (ints [s,g])::bg p 108 #[.pointer (ae ⟨sp,0,ai⟩),.map (ae tb),.map (ae pb)]::b9 sp ls::PtrMap tb (T.ks.map λK=>(K,T.pt K))::bz pb T.ps::l) gd.out KI.out
  have KG:Hid (sj b.k (T.rw b.k) ⟨(s,g),b⟩=(T.rw b.k++[⟨(s,g),b⟩],(((T.rw b.k).length:Nat):Int),0)):=by unfold Hid sj;rw[if_neg (by simpa using HB.out.1),if_neg (by simp)]
  have S6:=HT.out.qM KI.out;have rN:=af (Cx fF s g b HB.out.2.1 (by omega));rw[KG.out]at rN;clear fF
  go_wp2_with fail
  refine rN.out.mono ?_;rintro e w3 ⟨rfl,fX⟩;have fX:In G w0 (bg bb 48 (ints b.list)::bg hb 43 (ints [s,g])::bg p 108 #[.pointer (ae ⟨sp,0,ai⟩),.map (ae tb),.map (ae pb)]::b9 sp ls::PtrMap tb (T.ks.map λK=>(K,T.pt K))::bz pb T.ps::(l++T.ks.map (di ⟨T.ks,T.pt,fZ T.rw b.k (T.rw b.k++[⟨(s,g),b⟩]),iP T.ps s (b.k,((T.rw b.k).length:Int))⟩))) w3:=In.Qv (X:=bg bb 48 (ints b.list)::bg hb 43 (ints [s,g])::bg p 108 #[.pointer (ae ⟨sp,0,ai⟩),.map (ae tb),.map (ae pb)]::b9 sp ls::PtrMap tb (T.ks.map λK=>(K,T.pt K))::bz pb T.ps::l) HT.out.nd KI.out fX
  have CG:=af (HT.out.Rc (g:=g) HF.out HB.out KI.out);have q1:w3.cell? ⟨p,2,ai⟩=ae (.map (ae pb)):=fX.third.blk.cell 2;have q2:w3.cell? ⟨hb,0,ai⟩=ae (.int .i64 s):=fX.swap.blk.cell 0;have q3:w3.cell? ⟨bb,0,ai⟩=ae (.int .i64 b.k):=fX.blk.cell 0;have iY:=af fX;clear fX gd rN KG k1 k2
  go_upto_region 6 with(fail)
  go_still_tail 10,(by kernel_rfl)
  change wpList _ _ _ _ _ w3.drew;have lV:=af iY.out.drew;clear iY q1 q2 q3;generalize w3.drew=w4 at *;have HP:=af (lV.out.nth 5 (by simp)).hZ
  go_wp2_with (at_mapUpdate;go_loud (refine iE rV rfl _ _ _ 106 132 rfl Tryz.underlying106 pb _ rfl HP.out s rfl (iw (by have:=HB.out.2.2;omega)) (b.k,((T.rw b.k).length:Int)) rfl ?_))
  intro w5 h1 h2 h3;have iC:In G w0 (bz pb (iP T.ps s (b.k,((T.rw b.k).length:Int)))::bg bb 48 (ints b.list)::bg hb 43 (ints [s,g])::bg p 108 #[.pointer (ae ⟨sp,0,ai⟩),.map (ae tb),.map (ae pb)]::b9 sp ls::PtrMap tb (T.ks.map λK=>(K,T.pt K))::(l++T.ks.map (di ⟨T.ks,T.pt,fZ T.rw b.k (T.rw b.k++[⟨(s,g),b⟩]),iP T.ps s (b.k,((T.rw b.k).length:Int))⟩))) w5:=In.o6 (lV.out.nth 5 (by simp)) h1 h2;clear h1 h2 h3;have kh:=af iC.swap.drop.swap.drop.to4;clear iC HP lV
  go_wp2_with fail
  go_end0
  exact⟨rfl,In.fW CG.out kh.out⟩
 ·rw[if_neg hK]at vd;have KI:=af hK;clear hK;refine bU (by kernel_rfl) (by kernel_rfl) ?_
  repeat(go_big_quiet_step (fail))
  refine wpQuiet_nil ?_;rintro _ ⟨n,rfl⟩;have gX:=pY.out.below n.below;generalize n.w=w2 at *;have k1:w2.cell? ⟨bb,0,ai⟩=ae (.int .i64 b.k):=gX.blk.cell 0;have gd:=af gX;clear gX c1 c2 vd pY
  go_wp2_with fail
  refine(RU b.k HK.out gd.out).mono ?_;rintro e w3 ⟨q,rfl,fF⟩;have q1:w3.cell? ⟨p,1,ai⟩=ae (.map (ae tb)):=fF.fourth.blk.cell 1;have q2:w3.cell? ⟨bb,0,ai⟩=ae (.int .i64 b.k):=fF.swap.blk.cell 0;have gm:=af fF;clear fF gd k1
  go_upto_region 4 with(fail)
  go_still_tail 7,(by kernel_rfl)
  change wpList _ _ _ _ _ w3.drew;have iY:=af gm.out.drew;clear gm q1 q2;generalize w3.drew=w4 at *;have HP:=af (iY.out.nth 5 (by simp)).hZ
  go_wp2_with (at_mapUpdate;go_loud (refine iE rV rfl _ _ _ 105 134 rfl Tryz.underlying105 tb _ rfl HP.out b.k rfl (iw (by have:=HK.out;omega)) q rfl ?_))
  intro w5 h1 h2 h3;have eH:In G w0 (PtrMap tb (iP (T.ks.map λK=>(K,T.pt K)) b.k q)::nI q b.k []::bg bb 48 (ints b.list)::bg hb 43 (ints [s,g])::bg p 108 #[.pointer (ae ⟨sp,0,ai⟩),.map (ae tb),.map (ae pb)]::b9 sp ls::bz pb T.ps::(l++T.ks.map (di T))) w5:=In.o6 (iY.out.nth 5 (by simp)) h1 h2;rw[Yp T b.k q KI.out]at eH;have k1:row? w5 bb 0 9=ae (ints b.list):=eH.third.blk.bt zD;have k2:row? w5 hb 0 2=ae (ints [s,g]):=eH.fourth.blk.bt rfl;have lV:=af eH.swap;clear eH h1 h2 h3 HP iY;have KG:Hid (sj b.k [] ⟨(s,g),b⟩=([⟨(s,g),b⟩],0,0)):=by unfold Hid sj;rw[if_neg (by simpa using HB.out.1),if_neg (by simp)];rfl
  have rN:=af (Cx lV.out s g b HB.out.2.1 (by simp));rw[KG.out]at rN
  go_wp2_with fail
  refine rN.out.mono ?_;rintro e w6 ⟨rfl,iC⟩;have qW:In G w0 (PtrMap tb ((T.ks++[b.k]).map λk=>(k,fZ T.pt b.k q k))::bg bb 48 (ints b.list)::bg hb 43 (ints [s,g])::bg p 108 #[.pointer (ae ⟨sp,0,ai⟩),.map (ae tb),.map (ae pb)]::b9 sp ls::bz pb T.ps::(l++(T.ks++[b.k]).map (di ⟨T.ks++[b.k],fZ T.pt b.k q,fZ T.rw b.k [⟨(s,g),b⟩],iP T.ps s (b.k,0)⟩))) w6:=In.agr (X:=PtrMap tb ((T.ks++[b.k]).map λk=>(k,fZ T.pt b.k q k))::bg bb 48 (ints b.list)::bg hb 43 (ints [s,g])::bg p 108 #[.pointer (ae ⟨sp,0,ai⟩),.map (ae tb),.map (ae pb)]::b9 sp ls::bz pb T.ps::l) KI.out iC
  have CG:=af (HT.out.Rb (g:=g) HF.out HB.out KI.out q);have q1:w6.cell? ⟨p,2,ai⟩=ae (.map (ae pb)):=qW.fourth.blk.cell 2;have q2:w6.cell? ⟨hb,0,ai⟩=ae (.int .i64 s):=qW.third.blk.cell 0;have q3:w6.cell? ⟨bb,0,ai⟩=ae (.int .i64 b.k):=qW.swap.blk.cell 0;have kE:=af qW;clear qW iC lV rN KG k1 k2
  go_upto_region 6 with(fail)
  go_still_tail 10,(by kernel_rfl)
  change wpList _ _ _ _ _ w6.drew;have pO:=af kE.out.drew;clear kE q1 q2 q3;generalize w6.drew=w7 at *;have HP:=af (pO.out.nth 5 (by simp)).hZ
  go_wp2_with (at_mapUpdate;go_loud (refine iE rV rfl _ _ _ 106 132 rfl Tryz.underlying106 pb _ rfl HP.out s rfl (iw (by have:=HB.out.2.2;omega)) (b.k,0) rfl ?_))
  intro w8 h1 h2 h3;have pj:In G w0 (bz pb (iP T.ps s (b.k,0))::PtrMap tb ((T.ks++[b.k]).map λk=>(k,fZ T.pt b.k q k))::bg bb 48 (ints b.list)::bg hb 43 (ints [s,g])::bg p 108 #[.pointer (ae ⟨sp,0,ai⟩),.map (ae tb),.map (ae pb)]::b9 sp ls::(l++(T.ks++[b.k]).map (di ⟨T.ks++[b.k],fZ T.pt b.k q,fZ T.rw b.k [⟨(s,g),b⟩],iP T.ps s (b.k,0)⟩))) w8:=In.o6 (pO.out.nth 5 (by simp)) h1 h2;clear h1 h2 h3;have pZ:Hid (In G w0 (bg p 108 #[.pointer (ae ⟨sp,0,ai⟩),.map (ae tb),.map (ae pb)]::b9 sp ls::PtrMap tb ((T.ks++[b.k]).map λk=>(k,fZ T.pt b.k q k))::bz pb (iP T.ps s (b.k,0))::(l++(T.ks++[b.k]).map (di ⟨T.ks++[b.k],fZ T.pt b.k q,fZ T.rw b.k [⟨(s,g),b⟩],iP T.ps s (b.k,0)⟩))) w8):=pj.swap.third.drop.third.drop.swap.to4.to3
  clear pj HP pO
  go_wp2_with fail
  go_end0
  exact⟨rfl,In.fW CG.out pZ.out⟩
end
section
open Go.RowKit
def kx (p sp:Nat)(ls:List (Int×Bool))(f:BF):bT where
 at_ w F:= ∃tb pb T,nm T f/\Sep (xZ p sp tb pb ls T) w F
 frame h ho hd:=by obtain⟨tb,pb,T,h1,hs⟩:=h;exact⟨tb,pb,T,h1,hs.frame ho hd⟩
 cut h hd:=by obtain⟨tb,pb,T,h1,hs⟩:=h;exact⟨tb,pb,T,h1,hs.cut hd⟩
section
variable {G:Nat->Prop} {w0 w w':ah} {l:List bT} {p sp tb pb:Nat} {ls:List (Int×Bool)} {f:BF} {T:WT}
theorem In.mN (h:In G w0 (kx p sp ls f::l) w): ∃tb pb T,nm T f/\In G w0 (bg p 108 #[.pointer (ae ⟨sp,0,ai⟩),.map (ae tb),.map (ae pb)]::b9 sp ls::PtrMap tb (T.ks.map λK=>(K,T.pt K))::bz pb T.ps::(l++T.ks.map (di T))) w:=by obtain⟨⟨F1,F2,⟨tb,pb,T,hT,hs⟩,h2,h3,h4⟩,ho⟩:=h;have h5:In G w0 (xZ p sp tb pb ls T++l) w:=⟨(Sep.join hs h2 h3).cut λk _ hk=>h4 k hk,ho⟩;exact⟨tb,pb,T,hT,h5.perm (rI p sp tb pb ls T l)⟩
theorem In.qN (hT:nm T f)(h:In G w0 (bg p 108 #[.pointer (ae ⟨sp,0,ai⟩),.map (ae tb),.map (ae pb)]::b9 sp ls::PtrMap tb (T.ks.map λK=>(K,T.pt K))::bz pb T.ps::(l++T.ks.map (di T))) w):In G w0 (kx p sp ls f::l) w:=by have h:=h.perm (rI p sp tb pb ls T l).symm;obtain⟨hs,ho⟩:=h;obtain⟨F1,F2,h1,h2,h3,h4⟩:=Sep.part hs;exact⟨⟨F1,F2,⟨tb,pb,T,hT,h1⟩,h2,h3,h4⟩,ho⟩
theorem In.Kb (h:In G w0 (kx p sp ls f::l) w):In G w0 (dG p ls f::l) w:=by obtain⟨tb,pb,T,hT,hI⟩:=h.mN;exact In.fW hT hI
theorem In.Zh (h:In G w0 (dG p ls f::l) w): ∃sp,In G w0 (kx p sp ls f::l) w:=by obtain⟨sp,tb,pb,T,hT,hI⟩:=h.kQ;exact⟨sp,In.qN hT hI⟩
end
theorem aa0 {G:Nat->Prop}{w0 w:ah}{l:List bT}{p sp:Nat}{ls:List (Int×Bool)}{f:BF}(h:In G w0 (kx p sp ls f::l) w)(s g:Int)(b:aQ)(hf:f s=ai)(hb:bK b=0/\b.v.length=8/\0<=s/\s<60):Calls Tryz.prog 128 #[.pointer (ae ⟨p,0,ai⟩),.agg #[.int .i64 s,.int .i64 g],.agg (ints b.list)] w λe w'=>e=.returned (.tuple #[])/\In G w0 (kx p sp ls (dH f s (ae (g,b)))::l) w':=by
 obtain⟨tb,pb,T,hT,hI⟩:=h.mN;have hk:=kK hb.1;have HT:=af hT;have HF:=af hf;have HB:=af hb;have k9:=af hI;have HK:=af hk;clear h hT hI hf hb hk;have zD:b.list.length=9:=by unfold aQ.list;rw[aj,HB.out.2.1]
 go_enter Tryz.func128,Tryz.ntmps128
 go_upto_region 1 with(fail)
 refine cc (In G w0 (bg (w.heap.size+1) 48 (ints b.list)::bg w.heap.size 43 (ints [s,g])::bg p 108 #[.pointer (ae ⟨sp,0,ai⟩),.map (ae tb),.map (ae pb)]::b9 sp ls::PtrMap tb (T.ks.map λK=>(K,T.pt K))::bz pb T.ps::(l++T.ks.map (di T)))) (by have:=(k9.out.alloc 43 (ints [s,g])).alloc 48 (ints b.list);rw[cQ]at this;exact this) ?_
 generalize w.heap.size+1=bb;generalize w.heap.size=hb;intro w1 jU;have c1: ∀n:After w1,n.w.cell? ⟨p,1,ai⟩=ae (.map (ae tb)):=λn=>(jU.third.blk.after n.below).cell 1
 have c2: ∀n:After w1,n.w.cell? ⟨bb,0,ai⟩=ae (.int .i64 b.k):=λn=>(jU.blk.after n.below).cell 0
 have ny:=(jU.nth 4 (by simp)).hZ;have vd: ∀n:After w1,(lj 105 (.map (ae tb)) (.int .i64 b.k) aA).run Tryz.prog n.w=.ok (if b.k∈T.ks then .tuple #[.pointer (ae ⟨T.pt b.k,0,ai⟩),.bool aA]else .tuple #[.pointer ai,.bool aw]) n.w:=λn=>by
  rw[(ny.after n.below).look rV Tryz.underlying105 (Ew n.w) (x:=b.k) (iw (by have:=HK.out;omega)) aA,Py];by_cases e:b.k∈T.ks
  ·rw[if_pos e,if_pos e];rfl
  ·rw[if_neg e,if_neg e];rfl
 have pY:=af jU;clear jU k9 ny;by_cases hK:b.k∈T.ks
 ·rw[if_pos hK]at vd;have KI:=af hK;clear hK;refine bU (by kernel_rfl) (by kernel_rfl) ?_
  repeat(go_big_quiet_step (fail))
  refine wpQuiet_nil ?_;rintro _ ⟨n,rfl⟩;have gX:=pY.out.below n.below;generalize n.w=w2 at *;have k1:row? w2 bb 0 9=ae (ints b.list):=gX.blk.bt zD;have k2:row? w2 hb 0 2=ae (ints [s,g]):=gX.swap.blk.bt rfl;have gd:=af gX;clear gX c1 c2 vd pY;have fF:In G w0 (nI (T.pt b.k) b.k (T.rw b.k)::(bg bb 48 (ints b.list)::bg hb 43 (ints [s,g])::bg p 108 #[.pointer (ae ⟨sp,0,ai⟩),.map (ae tb),.map (ae pb)]::b9 sp ls::PtrMap tb (T.ks.map λK=>(K,T.pt K))::bz pb T.ps::l++(T.ks.erase b.k).map (di T))) w2:=In.yW (X:=bg bb 48 (ints b.list)::bg hb 43 (ints [s,g])::bg p 108 #[.pointer (ae ⟨sp,0,ai⟩),.map (ae tb),.map (ae pb)]::b9 sp ls::PtrMap tb (T.ks.map λK=>(K,T.pt K))::bz pb T.ps::l) gd.out KI.out
  have KG:Hid (sj b.k (T.rw b.k) ⟨(s,g),b⟩=(T.rw b.k++[⟨(s,g),b⟩],(((T.rw b.k).length:Nat):Int),0)):=by unfold Hid sj;rw[if_neg (by simpa using HB.out.1),if_neg (by simp)]
  have S6:=HT.out.qM KI.out;have rN:=af (Cx fF s g b HB.out.2.1 (by omega));rw[KG.out]at rN;clear fF
  go_wp2_with fail
  refine rN.out.mono ?_;rintro e w3 ⟨rfl,fX⟩;have fX:In G w0 (bg bb 48 (ints b.list)::bg hb 43 (ints [s,g])::bg p 108 #[.pointer (ae ⟨sp,0,ai⟩),.map (ae tb),.map (ae pb)]::b9 sp ls::PtrMap tb (T.ks.map λK=>(K,T.pt K))::bz pb T.ps::(l++T.ks.map (di ⟨T.ks,T.pt,fZ T.rw b.k (T.rw b.k++[⟨(s,g),b⟩]),iP T.ps s (b.k,((T.rw b.k).length:Int))⟩))) w3:=In.Qv (X:=bg bb 48 (ints b.list)::bg hb 43 (ints [s,g])::bg p 108 #[.pointer (ae ⟨sp,0,ai⟩),.map (ae tb),.map (ae pb)]::b9 sp ls::PtrMap tb (T.ks.map λK=>(K,T.pt K))::bz pb T.ps::l) HT.out.nd KI.out fX
  have CG:=af (HT.out.Rc (g:=g) HF.out HB.out KI.out);have q1:w3.cell? ⟨p,2,ai⟩=ae (.map (ae pb)):=fX.third.blk.cell 2;have q2:w3.cell? ⟨hb,0,ai⟩=ae (.int .i64 s):=fX.swap.blk.cell 0;have q3:w3.cell? ⟨bb,0,ai⟩=ae (.int .i64 b.k):=fX.blk.cell 0;have iY:=af fX;clear fX gd rN KG k1 k2
  go_upto_region 6 with(fail)
  go_still_tail 10,(by kernel_rfl)
  change wpList _ _ _ _ _ w3.drew;have lV:=af iY.out.drew;clear iY q1 q2 q3;generalize w3.drew=w4 at *;have HP:=af (lV.out.nth 5 (by simp)).hZ
  go_wp2_with (at_mapUpdate;go_loud (refine iE rV rfl _ _ _ 106 132 rfl Tryz.underlying106 pb _ rfl HP.out s rfl (iw (by have:=HB.out.2.2;omega)) (b.k,((T.rw b.k).length:Int)) rfl ?_))
  intro w5 h1 h2 h3;have iC:In G w0 (bz pb (iP T.ps s (b.k,((T.rw b.k).length:Int)))::bg bb 48 (ints b.list)::bg hb 43 (ints [s,g])::bg p 108 #[.pointer (ae ⟨sp,0,ai⟩),.map (ae tb),.map (ae pb)]::b9 sp ls::PtrMap tb (T.ks.map λK=>(K,T.pt K))::(l++T.ks.map (di ⟨T.ks,T.pt,fZ T.rw b.k (T.rw b.k++[⟨(s,g),b⟩]),iP T.ps s (b.k,((T.rw b.k).length:Int))⟩))) w5:=In.o6 (lV.out.nth 5 (by simp)) h1 h2;clear h1 h2 h3;have kh:=af iC.swap.drop.swap.drop.to4;clear iC HP lV
  go_wp2_with fail
  go_end0
  exact⟨rfl,In.qN CG.out kh.out⟩
 ·rw[if_neg hK]at vd;have KI:=af hK;clear hK;refine bU (by kernel_rfl) (by kernel_rfl) ?_
  repeat(go_big_quiet_step (fail))
  refine wpQuiet_nil ?_;rintro _ ⟨n,rfl⟩;have gX:=pY.out.below n.below;generalize n.w=w2 at *;have k1:w2.cell? ⟨bb,0,ai⟩=ae (.int .i64 b.k):=gX.blk.cell 0;have gd:=af gX;clear gX c1 c2 vd pY
  go_wp2_with fail
  refine(RU b.k HK.out gd.out).mono ?_;rintro e w3 ⟨q,rfl,fF⟩;have q1:w3.cell? ⟨p,1,ai⟩=ae (.map (ae tb)):=fF.fourth.blk.cell 1;have q2:w3.cell? ⟨bb,0,ai⟩=ae (.int .i64 b.k):=fF.swap.blk.cell 0;have gm:=af fF;clear fF gd k1
  go_upto_region 4 with(fail)
  go_still_tail 7,(by kernel_rfl)
  change wpList _ _ _ _ _ w3.drew;have iY:=af gm.out.drew;clear gm q1 q2;generalize w3.drew=w4 at *;have HP:=af (iY.out.nth 5 (by simp)).hZ
  go_wp2_with (at_mapUpdate;go_loud (refine iE rV rfl _ _ _ 105 134 rfl Tryz.underlying105 tb _ rfl HP.out b.k rfl (iw (by have:=HK.out;omega)) q rfl ?_))
  intro w5 h1 h2 h3;have eH:In G w0 (PtrMap tb (iP (T.ks.map λK=>(K,T.pt K)) b.k q)::nI q b.k []::bg bb 48 (ints b.list)::bg hb 43 (ints [s,g])::bg p 108 #[.pointer (ae ⟨sp,0,ai⟩),.map (ae tb),.map (ae pb)]::b9 sp ls::bz pb T.ps::(l++T.ks.map (di T))) w5:=In.o6 (iY.out.nth 5 (by simp)) h1 h2;rw[Yp T b.k q KI.out]at eH;have k1:row? w5 bb 0 9=ae (ints b.list):=eH.third.blk.bt zD;have k2:row? w5 hb 0 2=ae (ints [s,g]):=eH.fourth.blk.bt rfl;have lV:=af eH.swap;clear eH h1 h2 h3 HP iY;have KG:Hid (sj b.k [] ⟨(s,g),b⟩=([⟨(s,g),b⟩],0,0)):=by unfold Hid sj;rw[if_neg (by simpa using HB.out.1),if_neg (by simp)];rfl
  have rN:=af (Cx lV.out s g b HB.out.2.1 (by simp));rw[KG.out]at rN
  go_wp2_with fail
  refine rN.out.mono ?_;rintro e w6 ⟨rfl,iC⟩;have qW:In G w0 (PtrMap tb ((T.ks++[b.k]).map λk=>(k,fZ T.pt b.k q k))::bg bb 48 (ints b.list)::bg hb 43 (ints [s,g])::bg p 108 #[.pointer (ae ⟨sp,0,ai⟩),.map (ae tb),.map (ae pb)]::b9 sp ls::bz pb T.ps::(l++(T.ks++[b.k]).map (di ⟨T.ks++[b.k],fZ T.pt b.k q,fZ T.rw b.k [⟨(s,g),b⟩],iP T.ps s (b.k,0)⟩))) w6:=In.agr (X:=PtrMap tb ((T.ks++[b.k]).map λk=>(k,fZ T.pt b.k q k))::bg bb 48 (ints b.list)::bg hb 43 (ints [s,g])::bg p 108 #[.pointer (ae ⟨sp,0,ai⟩),.map (ae tb),.map (ae pb)]::b9 sp ls::bz pb T.ps::l) KI.out iC
  have CG:=af (HT.out.Rb (g:=g) HF.out HB.out KI.out q);have q1:w6.cell? ⟨p,2,ai⟩=ae (.map (ae pb)):=qW.fourth.blk.cell 2;have q2:w6.cell? ⟨hb,0,ai⟩=ae (.int .i64 s):=qW.third.blk.cell 0;have q3:w6.cell? ⟨bb,0,ai⟩=ae (.int .i64 b.k):=qW.swap.blk.cell 0;have kE:=af qW;clear qW iC lV rN KG k1 k2
  go_upto_region 6 with(fail)
  go_still_tail 10,(by kernel_rfl)
  change wpList _ _ _ _ _ w6.drew;have pO:=af kE.out.drew;clear kE q1 q2 q3;generalize w6.drew=w7 at *;have HP:=af (pO.out.nth 5 (by simp)).hZ
  go_wp2_with (at_mapUpdate;go_loud (refine iE rV rfl _ _ _ 106 132 rfl Tryz.underlying106 pb _ rfl HP.out s rfl (iw (by have:=HB.out.2.2;omega)) (b.k,0) rfl ?_))
  intro w8 h1 h2 h3;have pj:In G w0 (bz pb (iP T.ps s (b.k,0))::PtrMap tb ((T.ks++[b.k]).map λk=>(k,fZ T.pt b.k q k))::bg bb 48 (ints b.list)::bg hb 43 (ints [s,g])::bg p 108 #[.pointer (ae ⟨sp,0,ai⟩),.map (ae tb),.map (ae pb)]::b9 sp ls::(l++(T.ks++[b.k]).map (di ⟨T.ks++[b.k],fZ T.pt b.k q,fZ T.rw b.k [⟨(s,g),b⟩],iP T.ps s (b.k,0)⟩))) w8:=In.o6 (pO.out.nth 5 (by simp)) h1 h2;clear h1 h2 h3;have pZ:Hid (In G w0 (bg p 108 #[.pointer (ae ⟨sp,0,ai⟩),.map (ae tb),.map (ae pb)]::b9 sp ls::PtrMap tb ((T.ks++[b.k]).map λk=>(k,fZ T.pt b.k q k))::bz pb (iP T.ps s (b.k,0))::(l++(T.ks++[b.k]).map (di ⟨T.ks++[b.k],fZ T.pt b.k q,fZ T.rw b.k [⟨(s,g),b⟩],iP T.ps s (b.k,0)⟩))) w8):=pj.swap.third.drop.third.drop.swap.to4.to3
  clear pj HP pO
  go_wp2_with fail
  go_end0
  exact⟨rfl,In.qN CG.out pZ.out⟩
end
section
open Go.RowKit
theorem su {w:ah}{b o n:Nat}{x:Int}{xs:List Int}(h:row? w b o n=ae (ints (x::xs))):w.cell? ⟨b,o,ai⟩=ae (.int .i64 x):=by
 unfold row? at h
 split at h
 ·rename_i cs t fr hg
  split at h
  ·rename_i hle
   injection h with h
   have h2:(cs.extract o (o+n))[0]? =ae (.int .i64 x):=by rw[h];rfl
   rw[cell_of_row w b o cs t fr hg];rw[Array.getElem?_extract]at h2
   split at h2
   ·simpa using h2
   ·cases h2
  ·cases h
 ·cases h
theorem yR {w w':ah}{tb:Nat}{T:WT}(h:ey (aZ .i64) vw nN w tb (T.ks.map λK=>(K,T.pt K))){K:Int}(hK:K∈T.ks)(hk:0<=K/\K<=255)(hb:Below w.heap.size w w'):(lj 105 (.map (ae tb)) (.int .i64 K) aw).run Tryz.prog w'=.ok (.pointer (ae ⟨T.pt K,0,ai⟩)) w':=by rw[(h.after hb).look rV Tryz.underlying105 (Ew w') (x:=K) (iw (by omega)) aw,Py,if_pos hK];rfl
theorem qC {w w':ah}{pb:Nat}{ps:List (Int×(Int×Int))}(h:ey (aZ .i64) pV nN w pb ps){s K i:Int}(hs:0<=s/\s<60)(hm:eG ps s=ae (K,i))(hb:Below w.heap.size w w'):(lj 106 (.map (ae pb)) (.int .i64 s) aw).run Tryz.prog w'=.ok (.agg #[.int .i64 K,.int .i64 i]) w':=by rw[(h.after hb).look rV Tryz.underlying106 (Qe w') (x:=s) (iw (by omega)) aw,hm];rfl
theorem zq {G:Nat->Prop}{w0 w:ah}{l:List bT}{p:Nat}{K:Int}{rows:List cz}(h:In G w0 (nI p K rows::l) w):(0<=K/\K<=255)/\ ∀r∈rows,r.b.k=K:=by obtain⟨hT,hK,_⟩:=h.Ju;exact⟨hK,λr hr=>(hT r hr).1⟩
theorem Jf {G:Nat->Prop}{w0 w:ah}{l:List bT}{p:Nat}{ls:List (Int×Bool)}{f:BF}(h:In G w0 (dG p ls f::l) w)(s g:Int)(b:aQ)(hf:f s=ae (g,b)):Calls Tryz.prog 135 #[.pointer (ae ⟨p,0,ai⟩),.agg #[.int .i64 s,.int .i64 g]] w λe w'=>e=.returned (.agg (ints b.list))/\In G w0 (dG p ls (dH f s ai)::l) w':=by
 obtain⟨sp,tb,pb,T,hT,hI⟩:=h.kQ;obtain⟨lf,gV,SX⟩:=hT.ok s g b hf;obtain⟨K,hK,i,hi⟩:=hT.all s g b hf;have LS:eG T.ps s=ae (K,(i:Int)):=(hT.at_ K hK i _ hi).2;have wL:=(bH.1 hi).1;have hKk:=(zq (In.yW (X:=bg p 108 #[.pointer (ae ⟨sp,0,ai⟩),.map (ae tb),.map (ae pb)]::b9 sp ls::PtrMap tb (T.ks.map λK=>(K,T.pt K))::bz pb T.ps::l) hI hK)).1;have HT:=af hT;have CG:=af (hT.XR hK hi);have HK:=af hK;have Sc:=af hKk;have HPL:=af LS;have k9:=af hI;have HS:=af SX;have S6:=hT.qM hK;have zD:b.list.length=9:=by unfold aQ.list;rw[aj,gV]
 have HRM:Hid (mB (T.rw K) (i:Int)=(cutAt aP (T.rw K) i,⟨(s,g),b⟩,0)):=by unfold Hid mB l0;have h1:decide (0<=(i:Int))=aA:=decide_eq_true (by omega);have h2:decide ((i:Int)<((T.rw K).length:Nat))=aA:=decide_eq_true (by omega);rw[h1,h2,dL,bq,hi];rfl
 have HCL:=af (vR aP (T.rw K) i);have HIL:=af wL;clear h hT hI hf lf gV SX hK hi LS wL hKk
 go_enter Tryz.func135,Tryz.ntmps135
 go_upto_region 1 with(fail)
 refine cc (In G w0 (bg (w.heap.size+1) 48 (ints [0,0,0,0,0,0,0,0,0])::bg w.heap.size 43 (ints [s,g])::bg p 108 #[.pointer (ae ⟨sp,0,ai⟩),.map (ae tb),.map (ae pb)]::b9 sp ls::PtrMap tb (T.ks.map λK=>(K,T.pt K))::bz pb T.ps::(l++T.ks.map (di T)))) (by have:=(k9.out.alloc 43 (ints [s,g])).alloc 48 (ints [0,0,0,0,0,0,0,0,0]);rw[cQ]at this;exact this) ?_
 generalize w.heap.size+1=rb;generalize w.heap.size=hb;intro w1 jU;have NM:=(Below.refl w1.heap.size w1).alloc (az _) (.cells #[.int .i64 0,.int .i64 0] 132);have ny:=(jU.nth 5 (by simp)).hZ;have k0:w1.cell? ⟨p,2,ai⟩=ae (.map (ae pb)):=jU.third.blk.cell 2;have k1:w1.cell? ⟨hb,0,ai⟩=ae (.int .i64 s):=jU.swap.blk.cell 0;have k2:(w1.alloc (.cells #[.int .i64 0,.int .i64 0] 132)).cell? ⟨p,2,ai⟩=ae (.map (ae pb)):=(jU.third.blk.after NM).cell 2;have k3:(w1.alloc (.cells #[.int .i64 0,.int .i64 0] 132)).cell? ⟨hb,0,ai⟩=ae (.int .i64 s):=(jU.swap.blk.after NM).cell 0;have qw:=qC ny HS.out HPL.out (Below.refl _ _).drew;have BO:=qC ny HS.out HPL.out (((Below.refl _ w1).alloc (az _) (.cells #[.int .i64 0,.int .i64 0] 132)).drew);have AJ:Hid (∀w2,w2=(putRow (w1.alloc (.cells (ints [0,0]) 132)) w1.heap.size 0 [K,(i:Int)]).drew->In G w0 (bg w1.heap.size 132 (ints [K,(i:Int)])::bg rb 48 (ints [0,0,0,0,0,0,0,0,0])::bg hb 43 (ints [s,g])::bg p 108 #[.pointer (ae ⟨sp,0,ai⟩),.map (ae tb),.map (ae pb)]::b9 sp ls::PtrMap tb (T.ks.map λK=>(K,T.pt K))::bz pb T.ps::(l++T.ks.map (di T))) w2):=λw2 e=>by rw[e];exact(jU.struct 132 [0,0] [K,(i:Int)] rfl).drew
 clear jU ny NM k9
 go_region
 all_goals
  go_upto_region 2 with(fail)
  refine cc (In G w0 (bg w1.heap.size 132 (ints [K,(i:Int)])::bg rb 48 (ints [0,0,0,0,0,0,0,0,0])::bg hb 43 (ints [s,g])::bg p 108 #[.pointer (ae ⟨sp,0,ai⟩),.map (ae tb),.map (ae pb)]::b9 sp ls::PtrMap tb (T.ks.map λK=>(K,T.pt K))::bz pb T.ps::(l++T.ks.map (di T)))) (AJ.out _ rfl) ?_;clear k0 k1 k2 k3 qw BO AJ;generalize w1.heap.size=lb;intro w2 gX;have c1: ∀n:After w2,n.w.cell? ⟨p,1,ai⟩=ae (.map (ae tb)):=λn=>(gX.fourth.blk.after n.below).cell 1
  have c2: ∀n:After w2,n.w.cell? ⟨lb,0,ai⟩=ae (.int .i64 K):=λn=>(gX.blk.after n.below).cell 0
  have ny:=(gX.nth 5 (by simp)).hZ;have vd: ∀n:After w2,(lj 105 (.map (ae tb)) (.int .i64 K) aw).run Tryz.prog n.w=.ok (.pointer (ae ⟨T.pt K,0,ai⟩)) n.w:=λn=>yR ny HK.out Sc.out n.below
  have gd:=af gX;clear gX ny;refine bU (by kernel_rfl) (by kernel_rfl) ?_
  repeat(go_big_quiet_step (fail))
  refine wpQuiet_nil ?_;rintro _ ⟨n,rfl⟩;have fF:=gd.out.below n.below;generalize n.w=w3 at *;have q1:w3.cell? ⟨lb,1,ai⟩=ae (.int .i64 (i:Int)):=fF.blk.cell 1;have gm:Hid (In G w0 (nI (T.pt K) K (T.rw K)::(bg p 108 #[.pointer (ae ⟨sp,0,ai⟩),.map (ae tb),.map (ae pb)]::b9 sp ls::PtrMap tb (T.ks.map λK=>(K,T.pt K))::bz pb T.ps::bg lb 132 (ints [K,(i:Int)])::bg rb 48 (ints [0,0,0,0,0,0,0,0,0])::bg hb 43 (ints [s,g])::l++(T.ks.erase K).map (di T))) w3):=In.yW (X:=bg p 108 #[.pointer (ae ⟨sp,0,ai⟩),.map (ae tb),.map (ae pb)]::b9 sp ls::PtrMap tb (T.ks.map λK=>(K,T.pt K))::bz pb T.ps::bg lb 132 (ints [K,(i:Int)])::bg rb 48 (ints [0,0,0,0,0,0,0,0,0])::bg hb 43 (ints [s,g])::l) (fF.reorder 7 [3,4,5,6,0,1,2] rfl (by simp)) HK.out
  clear fF c1 c2 vd gd;have HR:=af (P7 gm.out (i:Int) (by omega));rw[HRM.out,show cz.list ⟨(s,g),b⟩=s::g::b.list from rfl]at HR;have hrl:(s::g::b.list).length=11:=by simp only[aj];omega
  go_wp2_with fail
  refine HR.out.mono ?_;rintro e w4 ⟨rfl,fX⟩;have iY:=af fX;clear fX HR gm q1
  go_upto_region 4 with(fail)
  refine cc (In G w0 (bg w4.heap.size 50 (ints (s::g::b.list))::nI (T.pt K) K (cutAt aP (T.rw K) i)::bg p 108 #[.pointer (ae ⟨sp,0,ai⟩),.map (ae tb),.map (ae pb)]::b9 sp ls::PtrMap tb (T.ks.map λK=>(K,T.pt K))::bz pb T.ps::bg lb 132 (ints [K,(i:Int)])::bg rb 48 (ints [0,0,0,0,0,0,0,0,0])::bg hb 43 (ints [s,g])::l++(T.ks.erase K).map (di T))) (iY.out.struct 50 [0,0,0,0,0,0,0,0,0,0,0] _ hrl) ?_;generalize w4.heap.size=NV;intro w5 eH;have ail:(cutAt aP (T.rw K) i).length<=60:=by have:=HCL.out;omega
  have HH:=af (vH eH.swap (by omega));have lV:=af eH.swap;clear eH iY
  go_wp2_with fail
  refine HH.out.mono ?_;rintro e w6 ⟨hv,rfl,ho,Kt,iC⟩;obtain⟨A6,c6,rfl,wK,vZ,hA6⟩:=cH ho;have Xz: ∀(bE:i<(cutAt aP (T.rw K) i).length),∃g6,A6=ae ⟨g6,0,ai⟩/\w6.cell? ⟨g6,i *2,ai⟩=ae (.int .i64 ((cutAt aP (T.rw K) i)[i]).h.1):=by intro bE;obtain⟨g6,rfl⟩:=hA6 (by omega);refine⟨g6,rfl,?_⟩;have hr:=lg ho (k:=i) (by omega);rw[lO (f:=λr:cz=>hC r.h) (size:=2) (λ_=>rfl) _ i bE]at hr;exact su (xs:=[((cutAt aP (T.rw K) i)[i]).h.2]) hr
  have kh:=af iC;have q1:w6.cell? ⟨lb,1,ai⟩=ae (.int .i64 (i:Int)):=(iC.nth 6 (by simp)).blk.cell 1;have q2:w6.cell? ⟨p,2,ai⟩=ae (.map (ae pb)):=iC.third.blk.cell 2;have q3:row? w6 lb 0 2=ae (ints [K,(i:Int)]):=(iC.nth 6 (by simp)).blk.bt rfl;have ah8:(((cutAt aP (T.rw K) i).length:Nat):Int)<=60:=by omega
  clear ho Kt iC HH lV wK vZ hA6;have HMV:Hid (gE T.ps (cutAt aP (T.rw K) i) K i=if bE:i<(cutAt aP (T.rw K) i).length then iP T.ps ((cutAt aP (T.rw K) i)[i]).h.1 (K,(i:Int))else T.ps):=by
   unfold Hid gE;by_cases bE:i<(cutAt aP (T.rw K) i).length
   ·rw[if_pos bE,dif_pos bE,bq,ao bE];rfl
   ·rw[if_neg bE,dif_neg bE]
  by_cases bE:i<(cutAt aP (T.rw K) i).length
  focus
   obtain⟨g6,rfl,q4⟩:=Xz bE;rw[dif_pos bE]at HMV;have afN:(i:Int)<(cutAt aP (T.rw K) i).length:=by omega
   have VL:Hid (0<=((cutAt aP (T.rw K) i)[i]).h.1/\((cutAt aP (T.rw K) i)[i]).h.1<60):=by have h1:=yv aP (T.rw K) i i HIL.out (by have:=HCL.out;omega);rw[if_pos rfl,ao bE]at h1;obtain⟨h2,_⟩:=HT.out.at_ K HK.out ((T.rw K).length-1) _ h1.symm;exact(HT.out.ok _ _ _ h2).2.2
   generalize ((cutAt aP (T.rw K) i)[i]).h.1=s2 at *
   go_upto_region 6 with(fail)
   go_still_tail 11,(by kernel_rfl)
   change wpList _ _ _ _ _ w6.drew;have kE:=af kh.out.drew;clear kh q1 q2 q3 q4 afN Xz;generalize w6.drew=w7 at *;have HP:=af (kE.out.nth 5 (by simp)).hZ
   go_wp2_with (at_mapUpdate;go_loud (refine iE rV rfl _ _ _ 106 132 rfl Tryz.underlying106 pb _ rfl HP.out s2 rfl (iw (by have:=VL.out;omega)) (K,(i:Int)) rfl ?_))
   intro w8 h1 h2 h3;have l9:In G w0 (bz pb (iP T.ps s2 (K,(i:Int)))::nI (T.pt K) K (cutAt aP (T.rw K) i)::bg NV 50 (ints (s::g::b.list))::bg p 108 #[.pointer (ae ⟨sp,0,ai⟩),.map (ae tb),.map (ae pb)]::b9 sp ls::PtrMap tb (T.ks.map λK=>(K,T.pt K))::bg lb 132 (ints [K,(i:Int)])::bg rb 48 (ints [0,0,0,0,0,0,0,0,0])::bg hb 43 (ints [s,g])::l++(T.ks.erase K).map (di T)) w8:=In.o6 (kE.out.nth 5 (by simp)) h1 h2;rw[<-HMV.out]at l9;have pZ:Hid (In G w0 (nI (T.pt K) K (cutAt aP (T.rw K) i)::bg p 108 #[.pointer (ae ⟨sp,0,ai⟩),.map (ae tb),.map (ae pb)]::b9 sp ls::PtrMap tb (T.ks.map λK=>(K,T.pt K))::bz pb (gE T.ps (cutAt aP (T.rw K) i) K i)::bg NV 50 (ints (s::g::b.list))::bg lb 132 (ints [K,(i:Int)])::bg rb 48 (ints [0,0,0,0,0,0,0,0,0])::bg hb 43 (ints [s,g])::l++(T.ks.erase K).map (di T)) w8):=l9.reorder 6 [1,3,4,5,0,2] rfl (by simp);clear l9 h1 h2 h3 HP kE HMV VL bE
   go_upto_region 7 with(fail)
   generalize w8=w9 at *
  rotate_left
  focus
   rw[dif_neg bE]at HMV;have afN:(((cutAt aP (T.rw K) i).length:Nat):Int)<=i:=by omega
   have l9:In G w0 (nI (T.pt K) K (cutAt aP (T.rw K) i)::bg NV 50 (ints (s::g::b.list))::bg p 108 #[.pointer (ae ⟨sp,0,ai⟩),.map (ae tb),.map (ae pb)]::b9 sp ls::PtrMap tb (T.ks.map λK=>(K,T.pt K))::bz pb T.ps::bg lb 132 (ints [K,(i:Int)])::bg rb 48 (ints [0,0,0,0,0,0,0,0,0])::bg hb 43 (ints [s,g])::l++(T.ks.erase K).map (di T)) w6:=kh.out;have pZ:Hid (In G w0 (nI (T.pt K) K (cutAt aP (T.rw K) i)::bg p 108 #[.pointer (ae ⟨sp,0,ai⟩),.map (ae tb),.map (ae pb)]::b9 sp ls::PtrMap tb (T.ks.map λK=>(K,T.pt K))::bz pb (gE T.ps (cutAt aP (T.rw K) i) K i)::bg NV 50 (ints (s::g::b.list))::bg lb 132 (ints [K,(i:Int)])::bg rb 48 (ints [0,0,0,0,0,0,0,0,0])::bg hb 43 (ints [s,g])::l++(T.ks.erase K).map (di T)) w6):=by rw[HMV.out];exact l9.reorder 6 [0,2,3,4,5,1] rfl (by simp)
   go_upto_region 7 with(fail)
   clear q1 q2 q3 Xz l9 HMV kh;generalize w6=w9 at *
  all_goals
   have HH:=af (vH pZ.out (by omega))
   go_wp2_with fail
   refine HH.out.mono ?_;rintro e xx ⟨hv,rfl,ho,yL,gD⟩;obtain⟨A10,c10,rfl,_,_,_⟩:=cH ho;have uu:=af gD;clear ho yL gD HH pZ;have Sb:Hid (∀w11,In G w0 (bg p 108 #[.pointer (ae ⟨sp,0,ai⟩),.map (ae tb),.map (ae pb)]::b9 sp ls::PtrMap tb ((if(cutAt aP (T.rw K) i).length=0 then T.ks.filter (λk=> !decide (k=K))else T.ks).map λK=>(K,T.pt K))::bz pb (gE T.ps (cutAt aP (T.rw K) i) K i)::bg NV 50 (ints (s::g::b.list))::bg lb 132 (ints [K,(i:Int)])::bg rb 48 (ints [0,0,0,0,0,0,0,0,0])::bg hb 43 (ints [s,g])::l++(if(cutAt aP (T.rw K) i).length=0 then T.ks.filter (λk=> !decide (k=K))else T.ks).map (di ⟨(if(cutAt aP (T.rw K) i).length=0 then T.ks.filter (λk=> !decide (k=K))else T.ks),T.pt,fZ T.rw K (cutAt aP (T.rw K) i),ep (gE T.ps (cutAt aP (T.rw K) i) K i) s⟩)) w11->In G w0 (bg p 108 #[.pointer (ae ⟨sp,0,ai⟩),.map (ae tb),.map (ae pb)]::b9 sp ls::PtrMap tb ((if(cutAt aP (T.rw K) i).length=0 then T.ks.filter (λk=> !decide (k=K))else T.ks).map λK=>(K,T.pt K))::bz pb (gE T.ps (cutAt aP (T.rw K) i) K i)::bg NV 50 (ints (s::g::b.list))::bg lb 132 (ints [K,(i:Int)])::bg rb 48 (ints [0,0,0,0,0,0,0,0,0])::bg hb 43 (ints [s,g])::(l++(if(cutAt aP (T.rw K) i).length=0 then T.ks.filter (λk=> !decide (k=K))else T.ks).map (di ⟨(if(cutAt aP (T.rw K) i).length=0 then T.ks.filter (λk=> !decide (k=K))else T.ks),T.pt,fZ T.rw K (cutAt aP (T.rw K) i),ep (gE T.ps (cutAt aP (T.rw K) i) K i) s⟩))) w11):=λ_ h=>h
   by_cases h0:(cutAt aP (T.rw K) i).length=0
   focus
    have nX:In G w0 (bg p 108 #[.pointer (ae ⟨sp,0,ai⟩),.map (ae tb),.map (ae pb)]::b9 sp ls::PtrMap tb (T.ks.map λK=>(K,T.pt K))::bz pb (gE T.ps (cutAt aP (T.rw K) i) K i)::bg NV 50 (ints (s::g::b.list))::bg lb 132 (ints [K,(i:Int)])::bg rb 48 (ints [0,0,0,0,0,0,0,0,0])::bg hb 43 (ints [s,g])::(l++(T.ks.filter λk=> !decide (k=K)).map (di ⟨(if(cutAt aP (T.rw K) i).length=0 then T.ks.filter (λk=> !decide (k=K))else T.ks),T.pt,fZ T.rw K (cutAt aP (T.rw K) i),ep (gE T.ps (cutAt aP (T.rw K) i) K i) s⟩))) xx:=In.adh (X:=bg p 108 #[.pointer (ae ⟨sp,0,ai⟩),.map (ae tb),.map (ae pb)]::b9 sp ls::PtrMap tb (T.ks.map λK=>(K,T.pt K))::bz pb (gE T.ps (cutAt aP (T.rw K) i) K i)::bg NV 50 (ints (s::g::b.list))::bg lb 132 (ints [K,(i:Int)])::bg rb 48 (ints [0,0,0,0,0,0,0,0,0])::bg hb 43 (ints [s,g])::l) HT.out.nd uu.out
    have h00:(((cutAt aP (T.rw K) i).length:Nat):Int)=0:=by omega
    have q1:xx.cell? ⟨p,1,ai⟩=ae (.map (ae tb)):=nX.blk.cell 1;have q2:xx.cell? ⟨lb,0,ai⟩=ae (.int .i64 K):=nX.fifth.drop.fifth.blk.cell 0;have uw:=af nX;clear nX uu
    go_upto_region 8 with(fail)
    go_still_tail 6,(by kernel_rfl)
    change wpList _ _ _ _ _ xx.drew;have NZ:=af uw.out.drew;clear uw q1 q2 h00;generalize xx.drew=w11 at *;have HP:=af (NZ.out.third).hZ
    go_wp2_with (at_delete;go_loud (refine vL rV rfl _ _ 105 134 rfl Tryz.underlying105 tb _ rfl HP.out K rfl (iw (by have:=Sc.out;omega)) ?_))
    intro w12 h1 h2 h3;have adu:In G w0 (PtrMap tb (ep (T.ks.map λK=>(K,T.pt K)) K)::bg p 108 #[.pointer (ae ⟨sp,0,ai⟩),.map (ae tb),.map (ae pb)]::b9 sp ls::bz pb (gE T.ps (cutAt aP (T.rw K) i) K i)::bg NV 50 (ints (s::g::b.list))::bg lb 132 (ints [K,(i:Int)])::bg rb 48 (ints [0,0,0,0,0,0,0,0,0])::bg hb 43 (ints [s,g])::(l++(T.ks.filter λk=> !decide (k=K)).map (di ⟨(if(cutAt aP (T.rw K) i).length=0 then T.ks.filter (λk=> !decide (k=K))else T.ks),T.pt,fZ T.rw K (cutAt aP (T.rw K) i),ep (gE T.ps (cutAt aP (T.rw K) i) K i) s⟩))) w12:=In.o6 NZ.out.third h1 h2;have hmd:ep (T.ks.map λK=>(K,T.pt K)) K=(T.ks.filter λk=> !decide (k=K)).map λK=>(K,T.pt K):=by unfold ep;rw[List.filter_map];rfl
    have VF:Hid (In G w0 (bg p 108 #[.pointer (ae ⟨sp,0,ai⟩),.map (ae tb),.map (ae pb)]::b9 sp ls::PtrMap tb ((if(cutAt aP (T.rw K) i).length=0 then T.ks.filter (λk=> !decide (k=K))else T.ks).map λK=>(K,T.pt K))::bz pb (gE T.ps (cutAt aP (T.rw K) i) K i)::bg NV 50 (ints (s::g::b.list))::bg lb 132 (ints [K,(i:Int)])::bg rb 48 (ints [0,0,0,0,0,0,0,0,0])::bg hb 43 (ints [s,g])::(l++(if(cutAt aP (T.rw K) i).length=0 then T.ks.filter (λk=> !decide (k=K))else T.ks).map (di ⟨(if(cutAt aP (T.rw K) i).length=0 then T.ks.filter (λk=> !decide (k=K))else T.ks),T.pt,fZ T.rw K (cutAt aP (T.rw K) i),ep (gE T.ps (cutAt aP (T.rw K) i) K i) s⟩))) w12):=by rw[if_pos h0];rw[if_pos h0,hmd]at adu;exact adu.to3
    clear adu h1 h2 h3 HP NZ hmd h0
    go_upto_region 9 with(fail)
    generalize w12=w13 at *
   rotate_left
   focus
    have nX:In G w0 (bg p 108 #[.pointer (ae ⟨sp,0,ai⟩),.map (ae tb),.map (ae pb)]::b9 sp ls::PtrMap tb (T.ks.map λK=>(K,T.pt K))::bz pb (gE T.ps (cutAt aP (T.rw K) i) K i)::bg NV 50 (ints (s::g::b.list))::bg lb 132 (ints [K,(i:Int)])::bg rb 48 (ints [0,0,0,0,0,0,0,0,0])::bg hb 43 (ints [s,g])::(l++T.ks.map (di ⟨(if(cutAt aP (T.rw K) i).length=0 then T.ks.filter (λk=> !decide (k=K))else T.ks),T.pt,fZ T.rw K (cutAt aP (T.rw K) i),ep (gE T.ps (cutAt aP (T.rw K) i) K i) s⟩))) xx:=In.Qv (X:=bg p 108 #[.pointer (ae ⟨sp,0,ai⟩),.map (ae tb),.map (ae pb)]::b9 sp ls::PtrMap tb (T.ks.map λK=>(K,T.pt K))::bz pb (gE T.ps (cutAt aP (T.rw K) i) K i)::bg NV 50 (ints (s::g::b.list))::bg lb 132 (ints [K,(i:Int)])::bg rb 48 (ints [0,0,0,0,0,0,0,0,0])::bg hb 43 (ints [s,g])::l) HT.out.nd HK.out uu.out
    have h00:((((cutAt aP (T.rw K) i).length:Nat):Int)==0)=aw:=beq_eq_false_iff_ne.2 (by omega);have VF:Hid (In G w0 (bg p 108 #[.pointer (ae ⟨sp,0,ai⟩),.map (ae tb),.map (ae pb)]::b9 sp ls::PtrMap tb ((if(cutAt aP (T.rw K) i).length=0 then T.ks.filter (λk=> !decide (k=K))else T.ks).map λK=>(K,T.pt K))::bz pb (gE T.ps (cutAt aP (T.rw K) i) K i)::bg NV 50 (ints (s::g::b.list))::bg lb 132 (ints [K,(i:Int)])::bg rb 48 (ints [0,0,0,0,0,0,0,0,0])::bg hb 43 (ints [s,g])::(l++(if(cutAt aP (T.rw K) i).length=0 then T.ks.filter (λk=> !decide (k=K))else T.ks).map (di ⟨(if(cutAt aP (T.rw K) i).length=0 then T.ks.filter (λk=> !decide (k=K))else T.ks),T.pt,fZ T.rw K (cutAt aP (T.rw K) i),ep (gE T.ps (cutAt aP (T.rw K) i) K i) s⟩))) xx):=by rw[if_neg h0];rw[if_neg h0]at nX;exact nX
    clear nX uu
    go_upto_region 9 with(fail)
    clear h00 h0;generalize xx=w13 at *
   all_goals
    have q1:w13.cell? ⟨p,2,ai⟩=ae (.map (ae pb)):=VF.out.blk.cell 2;have q2:w13.cell? ⟨hb,0,ai⟩=ae (.int .i64 s):=(VF.out.nth 7 (by simp)).blk.cell 0
    go_still_tail 6,(by kernel_rfl)
    change wpList _ _ _ _ _ w13.drew;have acV:=af VF.out.drew;clear VF q1 q2;generalize w13.drew=w14 at *;have HP:=af (acV.out.fourth).hZ
    go_wp2_with (at_delete;go_loud (refine vL rV rfl _ _ 106 132 rfl Tryz.underlying106 pb _ rfl HP.out s rfl (iw (by have:=HS.out;omega)) ?_))
    intro w15 h1 h2 h3;have afu:In G w0 (bz pb (ep (gE T.ps (cutAt aP (T.rw K) i) K i) s)::bg p 108 #[.pointer (ae ⟨sp,0,ai⟩),.map (ae tb),.map (ae pb)]::b9 sp ls::PtrMap tb ((if(cutAt aP (T.rw K) i).length=0 then T.ks.filter (λk=> !decide (k=K))else T.ks).map λK=>(K,T.pt K))::bg NV 50 (ints (s::g::b.list))::bg lb 132 (ints [K,(i:Int)])::bg rb 48 (ints [0,0,0,0,0,0,0,0,0])::bg hb 43 (ints [s,g])::(l++(if(cutAt aP (T.rw K) i).length=0 then T.ks.filter (λk=> !decide (k=K))else T.ks).map (di ⟨(if(cutAt aP (T.rw K) i).length=0 then T.ks.filter (λk=> !decide (k=K))else T.ks),T.pt,fZ T.rw K (cutAt aP (T.rw K) i),ep (gE T.ps (cutAt aP (T.rw K) i) K i) s⟩))) w15:=In.o6 acV.out.fourth h1 h2;have aaN:In G w0 (bg NV 50 (ints (s::g::b.list))::bg lb 132 (ints [K,(i:Int)])::bg rb 48 (ints [0,0,0,0,0,0,0,0,0])::bg hb 43 (ints [s,g])::bg p 108 #[.pointer (ae ⟨sp,0,ai⟩),.map (ae tb),.map (ae pb)]::b9 sp ls::PtrMap tb ((if(cutAt aP (T.rw K) i).length=0 then T.ks.filter (λk=> !decide (k=K))else T.ks).map λK=>(K,T.pt K))::bz pb (ep (gE T.ps (cutAt aP (T.rw K) i) K i) s)::(l++(if(cutAt aP (T.rw K) i).length=0 then T.ks.filter (λk=> !decide (k=K))else T.ks).map (di ⟨(if(cutAt aP (T.rw K) i).length=0 then T.ks.filter (λk=> !decide (k=K))else T.ks),T.pt,fZ T.rw K (cutAt aP (T.rw K) i),ep (gE T.ps (cutAt aP (T.rw K) i) K i) s⟩))) w15:=afu.reorder 8 [4,5,6,7,1,2,3,0] rfl (by simp);have q3:row? w15 NV 2 9=ae (ints b.list):=by rw[aaN.blk.eb 2 9 (by rw[hrl];omega)];simp only[List.drop_succ_cons,List.drop_zero];rw[cI (by omega)]
    have q4:fits w15 rb 0 9=aA:=aaN.third.blk.fits 0 9 (by rw[bJ];simp);have aeZ:=af (aaN.third.fc b.list (by rw[zD];rfl));clear afu aaN h1 h2 h3 HP acV
    go_wp2_with fail
    refine tF rfl rb 48 (ints b.list) _ rfl aeZ.out.blk Tryz.underlying48 rfl (by rw[bJ,zD];exact p9) rfl ?_;exact⟨rfl,In.fW CG.out aeZ.out.drop.drop.drop.drop⟩
end
section
open Go.RowKit
abbrev ptr (p:Nat):aq:=.pointer (ae ⟨p,0,ai⟩)
abbrev yc (p wp fp:Nat):bT:=bg p 83 #[ptr wp,ptr fp]
def cj (p:Nat)(z:ZS):bT where
 at_ w F:= ∃wp fp m,dx m=z.B/\Sep [yc p wp fp,dG wp z.ls z.f,jE fp m] w F
 frame h ho hd:=by obtain⟨wp,fp,m,h1,hs⟩:=h;exact⟨wp,fp,m,h1,hs.frame ho hd⟩
 cut h hd:=by obtain⟨wp,fp,m,h1,hs⟩:=h;exact⟨wp,fp,m,h1,hs.cut hd⟩
section
variable {G:Nat->Prop} {w0 w:ah} {l:List bT} {p wp fp:Nat} {m:jS} {z:ZS}
theorem In.jO (h:In G w0 (cj p z::l) w): ∃wp fp m,dx m=z.B/\jK m/\Alike m z.B/\In G w0 (yc p wp fp::dG wp z.ls z.f::jE fp m::l) w:=by obtain⟨⟨F1,F2,⟨wp,fp,m,hm,hs⟩,h2,h3,h4⟩,ho⟩:=h;have h5:In G w0 (yc p wp fp::dG wp z.ls z.f::jE fp m::l) w:=⟨(Sep.join hs h2 h3).cut λk _ hk=>h4 k hk,ho⟩;have hf:=(h5.nth 2 (by simp)).WE;exact⟨wp,fp,m,hm,hf,by rw[<-hm];exact(uR hf.nodup).symm,h5⟩
theorem In.mC (hm:dx m=z.B)(h:In G w0 (yc p wp fp::dG wp z.ls z.f::jE fp m::l) w):In G w0 (cj p z::l) w:=by obtain⟨hs,ho⟩:=h;obtain⟨F1,F2,h1,h2,h3,h4⟩:=Sep.part (l1:=[yc p wp fp,dG wp z.ls z.f,jE fp m]) (l2:=l) hs;exact⟨⟨F1,F2,⟨wp,fp,m,hm,h1⟩,h2,h3,h4⟩,ho⟩
end
end
section
open Go.RowKit
section
variable {G:Nat->Prop} {w0 w:ah} {l:List bT} {p:Nat} {ls:List (Int×Bool)} {f:BF}
theorem Y8 (h:In G w0 (b9 p ls::l) w)(hl:ls.length<=60):Calls Tryz.prog 127 #[.pointer (ae ⟨p,0,ai⟩)] w λe w'=>e=.returned (.tuple #[.agg (ints [(jD ls).2.1.1,(jD ls).2.1.2]),.int .i64 (jD ls).2.2])/\In G w0 (b9 p (jD ls).1::l) w':=by obtain⟨F1,hA,_,hb⟩:=h.open_;exact(Y9 p ls F1 w hA hl).mono λe w' ⟨h1,h2,h3⟩=>⟨h1,hb (A':=b9 p (jD ls).1) h2 h3⟩
theorem WL (h:In G w0 (b9 p ls::l) w)(hg:NY ls)(a b:Int):Calls Tryz.prog 177 #[.pointer (ae ⟨p,0,ai⟩),.agg #[.int .i64 a,.int .i64 b]] w λe w'=>e=.returned (.int .i64 (pg ls a b).2)/\In G w0 (b9 p (pg ls a b).1::l) w':=by obtain⟨F1,hA,_,hb⟩:=h.open_;exact(WM p ls F1 a b w hA hg).mono λe w' ⟨h1,h2,h3⟩=>⟨h1,hb (A':=b9 p (pg ls a b).1) (h2.mono λ_ _ hk=>br hk) h3⟩
theorem abd (h:In G w0 l w):Calls Tryz.prog 144 #[] w λe w'=> ∃p,e=.returned (.pointer (ae ⟨p,0,ai⟩))/\In G w0 (b9 p []::l) w':=(Rm w).mono λe w' ⟨h1,h2,h3⟩=>⟨_,h1,h.new (A:=b9 w.heap.size []) h3 (h2.mono λk _ hk=>by rcases hk with hk|hk;exact hk.elim;exact hk.1)⟩
theorem R5 (h:In G w0 l w):Calls Tryz.prog 85 #[] w λe w'=> ∃p,e=.returned (.pointer (ae ⟨p,0,ai⟩))/\In G w0 (dG p [] (λ_=>ai)::l) w':=by
 have H:=af h;clear h;have hmm:= @run_makeMap Tryz.prog
 go_enter Tryz.func85,Tryz.ntmps85
 go_wp2_with fail
 refine(abd H.out).mono ?_;rintro e w1 ⟨sp,rfl,hI⟩;have h1:=hI.Jp (aZ .i64) vw nN;have h2:=h1.Jp (aZ .i64) pV nN;rw[cQ]at h2;have h3:=h2.alloc 108 #[.pointer (ae ⟨sp,0,ai⟩),.map (ae w1.heap.size),.map (ae (w1.heap.size+1))];simp only[cQ]at h3;have H3:=af h3;clear hI h1 h2 h3
 go_wp2_with fail
 go_ret;refine⟨w1.heap.size+1+1,rfl,In.fW (sp:=sp) (tb:=w1.heap.size) (pb:=w1.heap.size+1) (T:=⟨[],λ_=>0,λ_=>[],[]⟩) nm.nil ?_⟩;have h4:=H3.out.reorder 4 [0,3,2,1] rfl (by simp);simp only[List.map_nil,eN];exact h4
theorem Y0 (h:In G w0 (dG p ls f::l) w)(hk:oe ls f)(b:aQ)(hv:b.v.length=8):Calls Tryz.prog 64 #[.pointer (ae ⟨p,0,ai⟩),.agg (ints b.list)] w λe w'=>e=.returned (.tuple #[.agg (ints [(fQ ls f b).2.1.1,(fQ ls f b).2.1.2]),.int .i64 (fQ ls f b).2.2])/\In G w0 (dG p (fQ ls f b).1.1 (fQ ls f b).1.2::l) w':=by
 have k9:=af h;have HK:=af hk;have zD:b.list.length=9:=by unfold aQ.list;rw[aj,hv]
 have HV:=af hv;clear h hk hv
 go_enter Tryz.func64,Tryz.ntmps64
 go_upto_region 1 with(fail)
 refine cc (In G w0 (bg (w.heap.size+1) 43 (ints [0,0])::bg w.heap.size 48 (ints b.list)::dG p ls f::l)) (by have:=(k9.out.alloc 48 (ints b.list)).alloc 43 (ints [0,0]);rw[cQ]at this;exact this) ?_
 generalize w.heap.size+1=rb;generalize w.heap.size=bb;intro w1 jU;have k1:row? w1 bb 0 9=ae (ints b.list):=jU.swap.blk.bt zD;have pY:=af jU;clear jU k9
 go_wp2_with fail
 refine(qa b HV.out w1).mono ?_;rintro e w2 ⟨rfl,gV⟩;have gX:=pY.out.below gV;have f1:fits w2 rb 0 2=aA:=gX.blk.fits 0 2 (by rw[bJ];simp);have gd:=af gX;clear gX gV pY k1;by_cases he:bK b=0
 rotate_left
 ·have HR:Hid (fQ ls f b=((ls,f),(0,0),bK b)):=by unfold Hid fQ;rw[if_pos he]
  have I7:(bK b !=0)=aA:=by simpa using he
  generalize bK b=E at *;clear he;have gm:=af (gd.out.fc [0,0] rfl);clear gd
  go_wp2_with fail
  refine cA rfl rb 43 (ints [0,0]) (.int .i64 E) _ rfl rfl gm.out.blk Tryz.underlying43 rfl (by rw[bJ];exact dV) rfl ?_;rw[HR.out];exact⟨rfl,gm.out.drop.drop⟩
 have HE:=af he;rw[he];clear he f1;obtain⟨sp,tb,pb,T,hT,hI⟩:=gd.out.third.kQ;have q1:w2.cell? ⟨p,0,ai⟩=ae (.pointer (ae ⟨sp,0,ai⟩)):=hI.blk.cell 0;have HT:=af hT;have gm:=af hI.swap;clear hI hT gd
 go_wp2_with fail
 refine(Y8 gm.out HK.out.so.1).mono ?_;rintro e w3 ⟨rfl,fX⟩;have iY:Hid (In G w0 (dG p (jD ls).1 f::bg rb 43 (ints [0,0])::bg bb 48 (ints b.list)::l) w3):=In.fW (l:=bg rb 43 (ints [0,0])::bg bb 48 (ints b.list)::l) HT.out fX.swap;clear fX gm q1 HT;rcases Av HK.out.so.1 with ht|⟨k,gn,Fj,ht,afQ,LJ,_⟩
 ·have HR:Hid (fQ ls f b=((ls,f),(0,0),2)):=by unfold Hid fQ;rw[if_neg (λh=>h HE.out),ht,if_neg (by simp)]
  rw[ht]at iY;rw[ht];simp only at iY⊢;clear ht
  go_upto_region 5 with(fail)
  refine cc (In G w0 (bg w3.heap.size 43 (ints [0,0])::dG p ls f::bg rb 43 (ints [0,0])::bg bb 48 (ints b.list)::l)) (iY.out.struct 43 [0,0] [0,0] rfl) ?_;generalize w3.heap.size=hb;intro w4 eH;have q1:row? w4 hb 0 2=ae (ints [0,0]):=eH.blk.bt rfl;have f1:fits w4 rb 0 2=aA:=eH.third.blk.fits 0 2 (by rw[bJ];simp);have lV:=af (eH.third.fc [0,0] rfl);clear eH iY
  go_wp2_with fail
  refine cA rfl rb 43 (ints [0,0]) (.int .i64 2) _ rfl rfl lV.out.blk Tryz.underlying43 rfl (by rw[bJ];exact dV) rfl ?_;rw[HR.out];exact⟨rfl,lV.out.drop.drop.swap.drop⟩
 ·have HR:Hid (fQ ls f b=((Fj,dH f (k:Int) (ae (gn,b))),((k:Int),gn),0)):=by unfold Hid fQ;rw[if_neg (λh=>h HE.out),ht,if_pos rfl]
  have HFN:Hid (f (k:Int)=ai):=by
   cases hf:f (k:Int)with
   |none=>rfl
   |some x=>have:=(HK.out.lv (k:Int) x.1).2 ⟨x.2,hf⟩;rw[LJ]at this;cases this
  have HK6:=af afQ;rw[ht]at iY;rw[ht];simp only at iY⊢;clear ht LJ afQ
  go_upto_region 5 with(fail)
  refine cc (In G w0 (bg w3.heap.size 43 (ints [(k:Int),gn])::dG p Fj f::bg rb 43 (ints [0,0])::bg bb 48 (ints b.list)::l)) (iY.out.struct 43 [0,0] [(k:Int),gn] rfl) ?_;generalize w3.heap.size=hb;intro w4 eH;have q1:row? w4 hb 0 2=ae (ints [(k:Int),gn]):=eH.blk.bt rfl;have q2:row? w4 bb 0 9=ae (ints b.list):=eH.fourth.blk.bt zD;have Fl:=af (O7 eH.swap (k:Int) gn b HFN.out ⟨HE.out,HV.out,by omega,by have:=HK6.out;omega⟩);clear eH iY
  go_wp2_with fail
  refine Fl.out.mono ?_;rintro e w5 ⟨rfl,iC⟩;have q1:row? w5 hb 0 2=ae (ints [(k:Int),gn]):=iC.swap.blk.bt rfl;have f1:fits w5 rb 0 2=aA:=iC.third.blk.fits 0 2 (by rw[bJ];simp);have kh:=af (iC.third.fc [(k:Int),gn] rfl);clear iC Fl q2
  go_wp2_with fail
  refine cA rfl rb 43 (ints [(k:Int),gn]) (.int .i64 0) _ rfl rfl kh.out.blk Tryz.underlying43 rfl (by rw[bJ];exact dV) rfl ?_;rw[HR.out];exact⟨rfl,kh.out.drop.swap.drop.swap.drop⟩
theorem aaZ (h:In G w0 (dG p ls f::l) w)(hk:oe ls f)(s g:Int):Calls Tryz.prog 131 #[.pointer (ae ⟨p,0,ai⟩),.agg #[.int .i64 s,.int .i64 g]] w λe w'=>e=.returned (.int .i64 (nO ls f (s,g)).2)/\In G w0 (dG p (nO ls f (s,g)).1.1 (nO ls f (s,g)).1.2::l) w':=by
 have k9:=af h;have HK:=af hk;clear h hk
 go_enter Tryz.func131,Tryz.ntmps131
 go_upto_region 1 with(fail)
 refine cc (In G w0 (dG p ls f::bg w.heap.size 43 (ints [s,g])::l)) (k9.out.alloc 43 (ints [s,g])).swap ?_;generalize w.heap.size=hb;intro w1 jU;obtain⟨sp,tb,pb,T,hT,hI⟩:=jU.kQ;obtain⟨F1,hS⟩:=hI.swap.head;have c0: ∀n:After w1,n.w.cell? ⟨p,0,ai⟩=ae (.pointer (ae ⟨sp,0,ai⟩)):=λn=>(hI.blk.after n.below).cell 0
 have c1: ∀n:After w1,row? n.w hb 0 2=ae (ints [s,g]):=λn=>(jU.swap.blk.after n.below).bt rfl
 have HL:Hid (∀n:After w1,Calls Tryz.prog 72 #[.pointer (ae ⟨sp,0,ai⟩),.agg (ints [s,g])] n.w λe w'=>e=.returned (.bool (ez ls s g))/\Below n.w.heap.size n.w w'):=λn=>qz sp ls F1 s g n.w (iX.after hS n.below)
 have pY:=af jU;clear jU hI hS hT k9;cases nc:ez ls s g with
 |false=>
  have HR:Hid (nO ls f (s,g)=((ls,f),7)):=by unfold Hid nO;rw[if_neg (by simp[nc])]
  rw[nc]at HL;clear nc;refine bU (by kernel_rfl) (by kernel_rfl) ?_
  repeat(go_big_quiet_step ((go_at_call 72;exact gT (HL.out _))))
  refine wpQuiet_nil ?_;rintro _ ⟨n,rfl⟩;have gd:=af (pY.out.below n.below)
  go_wp2_with fail
  go_ret;rw[HR.out];exact⟨rfl,gd.out.swap.drop⟩
 |true=>
  have Iy:=af nc;have HR:Hid (nO ls f (s,g)=(((pg ls s g).1,dH f s ai),0)):=by unfold Hid nO;rw[if_pos nc]
  have HFR:Hid ((pg ls s g).2=0):=by unfold Hid pg;rw[if_pos nc]
  rw[nc]at HL;clear nc;refine bU (by kernel_rfl) (by kernel_rfl) ?_
  repeat(go_big_quiet_step ((go_at_call 72;exact gT (HL.out _))))
  refine wpQuiet_nil ?_;rintro _ ⟨n,rfl⟩;have gX:=pY.out.below n.below;have k1:row? n.w hb 0 2=ae (ints [s,g]):=gX.swap.blk.bt rfl;have AI:=af (Jf gX s g (cZ f s) (HK.out.get Iy.out));clear gX c0 c1 HL pY;generalize n.w=w2 at *
  go_wp2_with fail
  refine AI.out.mono ?_;rintro e w3 ⟨rfl,fF⟩;obtain⟨sp,tb,pb,T,hT,hI⟩:=fF.kQ;have k1:row? w3 hb 0 2=ae (ints [s,g]):=fF.swap.blk.bt rfl;have k2:w3.cell? ⟨p,0,ai⟩=ae (.pointer (ae ⟨sp,0,ai⟩)):=hI.blk.cell 0;have HT:=af hT;have HI:=af hI;clear fF hI hT AI
  go_upto_region 4 with(fail)
  go_still_tail 5,(by kernel_rfl)
  change wpList _ _ _ _ _ w3.drew;have iY:=af HI.out.drew.swap;clear HI k1 k2;generalize w3.drew=w4 at *
  go_wp2_with fail
  refine(WL iY.out HK.out.so.gW s g).mono ?_;rintro e w5 ⟨rfl,eH⟩;have lV:Hid (In G w0 (dG p (pg ls s g).1 (dH f s ai)::bg hb 43 (ints [s,g])::l) w5):=In.fW (l:=bg hb 43 (ints [s,g])::l) HT.out eH.swap;rw[HFR.out];clear eH iY HT
  go_wp2_with fail
  go_ret;rw[HR.out];exact⟨rfl,lV.out.swap.drop⟩
end
end
section
open Go.RowKit
def fV (w:ah)(g o:Nat)(vs:List aq):ah:=
 {w with heap:=w.heap.modify g λ
    | .cells cs e fr=>.cells (cs.toList.take o++vs++cs.toList.drop (o+vs.length)).toArray e fr
    |o=>o}
theorem xg (w:ah)(g o:Nat)(xs:List aq)(k:Nat)(h:k≠g):(fV w g o xs).heap[k]? =w.heap[k]?:=by simp[fV,bw,Ne.symm h]
theorem JD (w:ah)(g o:Nat)(xs:List aq):(fV w g o xs).heap.size=w.heap.size:=by simp[fV]
theorem cW.fV (w:ah)(g o:Nat)(xs:List aq):cW (· =g) w (Go.Proofs.YtknejlcijdngoaaGreat.fV w g o xs):=⟨rfl,rfl,rfl,by rw[JD];exact az _,λq _ hq=>xg w g o xs q hq⟩
theorem dq.Pz {w:ah}{g:Nat}{t:aF}{ys:Array aq}(h:dq w g t ys)(xs:List aq)(hl:xs.length=ys.size):dq (fV w g 0 xs) g t xs.toArray:=by unfold dq at h⊢;simp[fV,bw,h];omega
theorem In.Pz {G:Nat->Prop}{w0 w:ah}{l:List bT}{g:Nat}{t:aF}{ys:Array aq}(h:In G w0 (bg g t ys::l) w)(xs:List aq)(hl:xs.length=ys.size):In G w0 (bg g t xs.toArray::l) (fV w g 0 xs):=by obtain⟨F1,⟨h1,h2⟩,hF,hb⟩:=h.open_;exact hb (A':=bg g t _) ⟨h1.Pz xs hl,br h2⟩ ((cW.fV w g 0 xs).mono λk _ e=>by rw[e];exact h2)
theorem xi {P:aS}(w:ah)(ty:aF)(g o n:Nat)(xs:List aq)(hi:(P.info? ty).map (·.size)=ae n)(h1: ∀v∈xs,v.oneCell'=aA):(de ty (.pointer (ae ⟨g,o,ai⟩)) (.agg xs.toArray)).run P w=if fits w g o n=aA/\xs.length=n then .ok () (fV w g o xs)else(dT ty g o (.agg xs.toArray)).run P w:=by
 split
 ·rename_i h
  obtain⟨hf,hl⟩:=h;unfold fits at hf
  split at hf
  ·rename_i cs e hg
   have hn:o+n<=cs.size:=by simpa using hf
   cases hq:P.info? ty with
   |none=>simp[hq]at hi
   |some i=>
    have hs:i.size=n:=by simpa[hq]using hi
    have gI:=run_storeCells_at P g o e xs 0 cs w hg (by omega) h1;have hlen:xs.toArray.size=i.size:=by simp;omega
    have Kv:xs.length=i.size:=by omega
    simp only[de,eM,Instr.sureAddr,storeVar,eo,sizeOf,typeInfo,run_program,gP,hq,Sem.run_pure,iy,hlen,ne_eq,not_true_eq_false,if_false,List.toList_toArray,gI,au,Kv];congr 1;unfold fV World.setRow;congr 1;apply Array.ext_getElem?;intro k;rw[bw,bw]
    split
    ·rename_i hk
     subst hk;rw[hg];simp[Kv]
    ·rfl
  ·cases hf
 ·rfl
theorem Lq {w:ah}{g n:Nat}{vs:List aq}(h:fits w g 0 n=aA)(hl:vs.length=n):fits (fV w g 0 vs) g 0 n=aA:=by
 unfold fits at *
 split at h
 ·rename_i cs t hg
  simp only[decide_eq_true_eq]at h;simp[fV,bw,hg];omega
 ·cases h
theorem In.apart {G:Nat->Prop}{w0 w:ah}{l:List bT}{a b:Nat}{t t':aF}{x y:Array aq}(h:In G w0 (bg a t x::bg b t' y::l) w):a≠b:=by obtain⟨⟨F1,F2,h1,⟨F3,F4,h2,_,_,h5⟩,h3,_⟩,_⟩:=h;intro e;exact h3 a h1.2 (h5 a (br (by rw[e];exact h2.2)))
theorem zO {w:ah}{g g' o o':Nat}{x:aq}{xs:List aq}(dQ:g≠g')(h:w.cell? ⟨g,o,ai⟩=ae x):(fV w g' o' xs).cell? ⟨g,o,ai⟩=ae x:=by unfold c8 at *;simp only[xg w g' o' xs g dQ];exact h
theorem NL:(Tryz.prog.info? 83).map (·.size)=ae 2:=by kernel_rfl
@[go_sem ↓] theorem ad3 (v:aq):dN 83 v=fe 83 v:=rfl
@[go_sem ↓] theorem acQ (p v:aq):eM 83 p v=de 83 p v:=rfl
@[go_sem] theorem abK (w:ah)(g o:Nat):(fe 83 (.pointer (ae ⟨g,o,ai⟩))).run Tryz.prog w=match row? w g o 2 with|some cs=>.ok (.agg cs) w|none=>(jb 83 ⟨g,o,ai⟩).run Tryz.prog w:=fO w _ g o 2 _ Tryz.underlying83 rfl NL
@[go_sem] theorem ZZ (w:ah)(g o a b:Nat):(de 83 (.pointer (ae ⟨g,o,ai⟩)) (.agg #[ptr a,ptr b])).run Tryz.prog w=if fits w g o 2=aA then .ok () (fV w g o [ptr a,ptr b])else(dT 83 g o (.agg #[ptr a,ptr b])).run Tryz.prog w:=by have h:=xi w 83 g o 2 [ptr a,ptr b] NL (by simp[jm]);simp only[aj,ax,Nat.reduceAdd,and_true]at h;exact h
theorem qQ:(Tryz.prog.info? 36).map (·.size)=ae 3:=by kernel_rfl
@[go_sem ↓] theorem aa4 (v:aq):dN 36 v=fe 36 v:=rfl
@[go_sem ↓] theorem Z4 (p v:aq):eM 36 p v=de 36 p v:=rfl
@[go_sem] theorem YS (w:ah)(g o:Nat):(fe 36 (.pointer (ae ⟨g,o,ai⟩))).run Tryz.prog w=match row? w g o 3 with|some cs=>.ok (.agg cs) w|none=>(jb 36 ⟨g,o,ai⟩).run Tryz.prog w:=fO w _ g o 3 _ Tryz.underlying36 rfl qQ
@[go_sem] theorem Vg (w:ah)(g o:Nat)(a b c:Option Addr)(n1 n2 n3 c1 c2 c3:Nat):(de 36 (.pointer (ae ⟨g,o,ai⟩)) (.agg #[.slice a n1 c1,.slice b n2 c2,.slice c n3 c3])).run Tryz.prog w=if fits w g o 3=aA then .ok () (fV w g o [.slice a n1 c1,.slice b n2 c2,.slice c n3 c3])else(dT 36 g o (.agg #[.slice a n1 c1,.slice b n2 c2,.slice c n3 c3])).run Tryz.prog w:=by have h:=xi w 36 g o 3 [.slice a n1 c1,.slice b n2 c2,.slice c n3 c3] qQ (by simp[jm]);simp only[aj,ax,Nat.reduceAdd,and_true]at h;exact h
end
section
open Go.RowKit
structure ag6 (T:WT) (f:BF) (s g:Int) (K:Int) (i:Nat):Prop where
 mem:K∈T.ks
 at_:(T.rw K)[i]? =ae ⟨(s,g),cZ f s⟩
 place:eG T.ps s=ae (K,(i:Int))
 slot:0<=s/\s<60
 len:(T.rw K).length<=60
 ok:bK (cZ f s)=0/\(cZ f s).v.length=8
theorem nm.agk {T:WT}{f:BF}{ls:List (Int×Bool)}(h:nm T f)(hk:oe ls f){s g:Int}(hl:ez ls s g=aA): ∃K i,ag6 T f s g K i:=by have hf:=hk.get hl;obtain⟨h1,h2,h3⟩:=h.ok s g _ hf;obtain⟨K,hK,i,hi⟩:=h.all s g _ hf;exact⟨K,i,hK,hi,(h.at_ K hK i _ hi).2,h3,h.qM hK,h1,h2⟩
theorem nu {w:ah}{b o:Nat}{v:aq}(ob:Obj)(h:w.cell? ⟨b,o,ai⟩=ae v):(w.alloc ob).cell? ⟨b,o,ai⟩=ae v:=(((Below.refl w.heap.size w).alloc (az _) ob).cell (p:=⟨b,o,ai⟩) (qV _ _ h)).trans h
theorem xC {w w':ah}{b o:Nat}{v:aq}(hb:Below w.heap.size w w')(h:w.cell? ⟨b,o,ai⟩=ae v):w'.cell? ⟨b,o,ai⟩=ae v:=(hb.cell (p:=⟨b,o,ai⟩) (qV _ _ h)).trans h
theorem IM {w:ah}{b o:Nat}{v:aq}(t:aF)(zs xs:List Int)(h:w.cell? ⟨b,o,ai⟩=ae v):(putRow (w.alloc (.cells (ints zs) t)) w.heap.size 0 xs).cell? ⟨b,o,ai⟩=ae v:=xC (eZ w t zs xs) h
section
variable {G:Nat->Prop} {w0 w:ah} {l:List bT} {p:Nat} {ls:List (Int×Bool)} {f:BF}
end
end
section
open Go.RowKit
section
variable {G:Nat->Prop} {w0 w:ah} {l:List bT} {p:Nat} {z:ZS}
theorem R9 (h:In G w0 l w):Calls Tryz.prog 35 #[] w λe w'=> ∃p,e=.returned (ptr p)/\In G w0 (cj p zB::l) w':=by
 have H:=af h;clear h
 go_enter Tryz.func35,Tryz.ntmps35
 go_wp2_with fail
 refine(R5 H.out).mono ?_;rintro e w1 ⟨wp,rfl,hI⟩;have H1:=af hI;clear hI H
 go_wp2_with fail
 refine(QG H1.out).mono ?_;rintro e w2 ⟨fp,rfl,hI⟩;have H2:=af (hI.alloc 83 #[ptr wp,ptr fp]);clear hI H1
 go_wp2_with fail
 go_ret;exact⟨w2.heap.size,rfl,In.mC (z:=zB) (m:=[]) Gi (H2.out.perm ((cB _ _ _).cons _))⟩
def oD (z:ZS)(hs:List Hd):Bool:=hs.all λh=>z.live h
theorem Ex {hv:aq}{hs:List Hd}(h:In G w0 (cj p z::jF hv hs::l) w)(hl:hs.length<=1099511627776):Calls Tryz.prog 68 #[ptr p,hv] w λe w'=>e=.returned (.int .i64 (if oD z hs=aA then 0 else 7))/\In G w0 (cj p z::jF hv hs::l) w':=by
 obtain⟨A,c,rfl,wK,vZ,_⟩:=rF h.swap.rowAt;have H0:=af h;clear h;obtain⟨qe,HQ⟩: ∃qe:Int,Hid (qe=if oD z hs=aA then 0 else 7):=⟨_,rfl⟩;rw[<-HQ.out]
 go_enter Tryz.func68,Tryz.ntmps68
 go_wp2_with fail
 go_loopw [9] (λi w'=> ∃k:Nat,k<=hs.length/\i=.int .i64 k/\oD z (hs.take k)=aA/\In G w0 (cj p z::jF (.slice A hs.length c) hs::l) w') (λi _=>hs.length-(intOf i).toNat)
 case atStart=>exact⟨0,bS _,rfl,rfl,H0.out⟩
 case round=>
  clear H0;obtain⟨k,hk,rfl,ZI,hI⟩:=hrel;by_cases bE:k<hs.length
  ·have xH:(k:Int)<hs.length:=by omega
   obtain⟨A',c',e0,_,Xk,fY⟩:=rF hI.swap.rowAt;injection e0 with e1 e2 e3
   subst e1;subst e3;obtain⟨g,rfl,q1⟩:=fY k bE;have HS:Hid (oD z (hs.take (k+1))=z.live hs[k]):=by unfold Hid oD at *;rw[aR bE,List.all_append,ZI];simp
   have KH:Hid (z.live hs[k]=aw->oD z hs=aw):=λhf=>by unfold oD;rw[List.all_eq_false];exact⟨_,aU bE,by rw[hf];simp⟩
   have adF:(hs.length:Int)<=c:=by omega
   have HI:=af hI;clear fY e2 hI ZI;generalize hs[k]=x at *;obtain⟨x1,x2⟩:=x
   go_upto_region 4 with(fail)
   refine cc (In G w0 (bg wr.heap.size 43 (ints [x1,x2])::cj p z::jF (.slice (ae ⟨g,0,ai⟩) hs.length c) hs::l)) (HI.out.struct 43 [0,0] [x1,x2] rfl) ?_;generalize wr.heap.size=cb;intro w3 fF;have q2: ∀n:After w3,row? n.w cb 0 2=ae (ints [x1,x2]):=λn=>(fF.blk.after n.below).bt rfl
   obtain⟨wp,fp,m,hm,hf,ha,fX⟩:=fF.swap.jO;have q3: ∀n:After w3,n.w.cell? ⟨p,0,ai⟩=ae (ptr wp):=λn=>(fX.blk.after n.below).cell 0
   obtain⟨sp,F,q4,hS⟩:=fX.swap.slotsOf;have HL:Hid (∀n:After w3,Calls Tryz.prog 72 #[.pointer (ae ⟨sp,0,ai⟩),.agg (ints [x1,x2])] n.w λe w'=>e=.returned (.bool (z.live (x1,x2)))/\Below n.w.heap.size n.w w'):=λn=>qz sp z.ls F x1 x2 n.w (hS n)
   have gm:=af fF;clear fF fX hm hf ha hS HI q1;cases nc:z.live (x1,x2)with
   |false=>
    rw[nc]at HL HS KH;have HA:Hid (oD z hs=aw):=KH.out rfl;refine bU (by kernel_rfl) (by kernel_rfl) ?_
    repeat(go_big_quiet_step ((go_at_call 72;exact gT (HL.out _))))
    refine wpQuiet_nil ?_;rintro _ ⟨n,rfl⟩;have lV:=af (gm.out.below n.below)
    go_wp2_with fail
    go_ret;have hq:qe=7:=by rw[HQ.out,HA.out];rfl
    rw[hq];exact⟨rfl,lV.out.drop⟩
   |true=>
    rw[nc]at HL HS KH;clear KH;refine bU (by kernel_rfl) (by kernel_rfl) ?_
    repeat(go_big_quiet_step ((go_at_call 72;exact gT (HL.out _))))
    refine wpQuiet_nil ?_;rintro _ ⟨n,rfl⟩;have lV:=af (gm.out.below n.below)
    go_wp2_with fail
    go_roundw
    case rel=>exact⟨k+1,by omega,by go_num,HS.out,lV.out.drop⟩
    case measure=>simp[intOf];omega
  ·have:k=hs.length:=by omega
   subst this;have HA:Hid (oD z hs=aA):=by rw[cD]at ZI;exact ZI
   have HI:=af hI;clear hI ZI
   go_wp2_with fail
   go_ret;have hq:qe=0:=by rw[HQ.out,HA.out];rfl
   rw[hq];exact⟨rfl,HI.out⟩
end
end
section
open Go.RowKit
theorem N6: ∀(m k:Nat),m<256->k<8->m.testBit k=aA->bits .andNot .i64 (m:Int) (wrap64 (2^k))=((m-2^k:Nat):Int):=by
 have h: ∀(m:Fin 256) (k:Fin 8),m.val.testBit k.val=aA->bits .andNot .i64 (m.val:Int) (wrap64 (2^k.val))=((m.val-2^k.val:Nat):Int):=by decide+kernel
 exact λm k hm hk=>h ⟨m,hm⟩ ⟨k,hk⟩
theorem nm.abP {T:WT}{f:BF}{s g K:Int}{b b':aQ}(h:nm T f)(hK:K∈T.ks){i:Nat}(hi:(T.rw K)[i]? =ae ⟨(s,g),b⟩)(hb:bK b'=0/\b'.v.length=8):nm ⟨T.ks,T.pt,fZ T.rw K ((T.rw K).set i ⟨(s,g),b'⟩),T.ps⟩ (dH f s (ae (g,b'))):=by
 have wL:=(bH.1 hi).1;obtain⟨hfs,hps⟩:=h.at_ K hK i _ hi;simp only at hfs hps;have Xv: ∀K'∈T.ks,∀(j:Nat) r,(T.rw K')[j]? =ae r-> ¬(K'=K/\j=i)->dH f s (ae (g,b')) r.h.1=ae (r.h.2,r.b)/\eG T.ps r.h.1=ae (K',(j:Int)):=by
  intro K' jH j r hr dQ;obtain⟨h1,h2⟩:=h.at_ K' jH j r hr;have hns:r.h.1≠s:=λe=>by
   rw[e,hps]at h2;injection h2 with h2
   injection h2 with h2 h3
   exact dQ ⟨h2.symm,by omega⟩
  unfold dH;rw[if_neg hns];exact⟨h1,h2⟩
 refine⟨h.nd,λK' jH=> ?_,λK' jH j r hr=> ?_,λs' g' b2 hs=> ?_,λs' g' b2 hs=> ?_⟩
 ·simp only[fZ]
  split
  ·intro h0;have:=congrArg List.length h0;rw[ew]at this;simp at this;rw[this]at wL;simp at wL
  ·exact h.ne K' jH
 ·simp only at hr jH⊢;by_cases e:K'=K
  ·subst e;rw[ia,gh]at hr;by_cases ej:i=j
   ·subst ej;rw[if_pos rfl,if_pos wL]at hr;injection hr with hr
    subst hr;unfold dH;rw[if_pos rfl];exact⟨rfl,hps⟩
   ·rw[if_neg ej]at hr;exact Xv K' jH j r hr (λh=>ej h.2.symm)
  ·rw[gG _ _ e]at hr;exact Xv K' jH j r hr (λh=>e h.1)
 ·unfold dH at hs
  split at hs
  ·rename_i e
   injection hs with hs
   injection hs with h1 h2
   subst e;subst h1;subst h2;exact⟨K,hK,i,by simp only[ia];rw[gh,if_pos rfl,if_pos wL]⟩
  ·rename_i dQ
   obtain⟨K',jH,j,hj⟩:=h.all s' g' b2 hs;refine⟨K',jH,j,?_⟩;simp only;by_cases e:K'=K
   ·subst e;rw[ia,gh];by_cases ej:i=j
    ·subst ej;rw[hi]at hj;injection hj with hj
     injection hj with hj _
     injection hj with hj _
     exact absurd hj.symm dQ
    ·rw[if_neg ej];exact hj
   ·rw[gG _ _ e];exact hj
 ·unfold dH at hs
  split at hs
  ·rename_i e
   injection hs with hs
   injection hs with _ h2
   subst e;subst h2;obtain⟨_,_,h3⟩:=h.ok s' g b hfs;exact⟨hb.1,hb.2,h3⟩
  ·exact h.ok s' g' b2 hs
theorem Il (f:BF)(s:Int)(x y:Option (Int×aQ)):dH (dH f s x) s y=dH f s y:=by
 funext k;unfold dH
 split<;>rfl
theorem aa6 {K:Int}{k:Nat}(hk:k<8)(ht:K.toNat.testBit k=aA):k∈jw K:=cu.2 ⟨mD.2 hk,ht⟩
theorem Dh (k:Int)(h:0<=k/\k<8)(w:ah):Calls Tryz.prog 133 #[.int .i64 k] w λe w'=>e=.returned (.bool aA)/\w=w':=by
 obtain⟨h1,h2⟩:=h
 go_enter Tryz.func133,Tryz.ntmps133
 go_wp2
 go_ret;exact⟨rfl,rfl⟩
theorem GU (k:Int)(h: ¬(0<=k/\k<8))(w:ah):Calls Tryz.prog 133 #[.int .i64 k] w λe w'=>e=.returned (.bool aw)/\w=w':=by
 by_cases h1:0<=k
 ·have h2:Hid (8<=k):=by unfold Hid;omega
  clear h
  go_enter Tryz.func133,Tryz.ntmps133
  go_wp2
  go_ret;exact⟨dv (decide_eq_false (by have:=h2.out;omega)),rfl⟩
 ·have h2:k<0:=by omega
  clear h h1
  go_enter Tryz.func133,Tryz.ntmps133
  go_wp2
  go_ret;exact⟨rfl,rfl⟩
section
variable {G:Nat->Prop} {w0 w:ah} {l:List bT} {p:Nat} {ls:List (Int×Bool)} {f:BF}
theorem PE (h:In G w0 (dG p ls f::l) w)(hk:oe ls f)(s g kind n:Int):Calls Tryz.prog 66 #[.pointer (ae ⟨p,0,ai⟩),.agg #[.int .i64 s,.int .i64 g],.int .i64 kind,.int .i64 n] w λe w'=>e=.returned (.int .i64 (aiQ ls f (s,g) kind n).2)/\In G w0 (dG p ls (aiQ ls f (s,g) kind n).1::l) w':=by
 have k9:=af h;have HK:=af hk;clear h hk
 go_enter Tryz.func66,Tryz.ntmps66
 go_upto_region 1 with(fail)
 refine cc (In G w0 (dG p ls f::bg w.heap.size 43 (ints [s,g])::l)) (k9.out.alloc 43 (ints [s,g])).swap ?_;generalize w.heap.size=hb;intro w1 jU;obtain⟨sp,tb,pb,T,hT,hI⟩:=jU.kQ;obtain⟨F1,hS⟩:=hI.swap.head;have c0: ∀n:After w1,n.w.cell? ⟨p,0,ai⟩=ae (.pointer (ae ⟨sp,0,ai⟩)):=λn=>(hI.blk.after n.below).cell 0
 have c1: ∀n:After w1,row? n.w hb 0 2=ae (ints [s,g]):=λn=>(jU.swap.blk.after n.below).bt rfl
 have HL:Hid (∀n:After w1,Calls Tryz.prog 72 #[.pointer (ae ⟨sp,0,ai⟩),.agg (ints [s,g])] n.w λe w'=>e=.returned (.bool (ez ls s g))/\Below n.w.heap.size n.w w'):=λn=>qz sp ls F1 s g n.w (iX.after hS n.below)
 have HT:=af hT;have HI:=af hI;clear jU hI hS hT k9;cases nc:ez ls s g with
 |false=>
  have HR:Hid (aiQ ls f (s,g) kind n=(f,7)):=by unfold Hid aiQ;rw[if_pos (by simp[nc])]
  rw[nc]at HL;clear nc;refine bU (by kernel_rfl) (by kernel_rfl) ?_
  repeat(go_big_quiet_step ((go_at_call 72;exact gT (HL.out _))))
  refine wpQuiet_nil ?_;rintro _ ⟨na,rfl⟩;have gd:=af (In.fW (l:=bg hb 43 (ints [s,g])::l) HT.out (HI.out.below na.below))
  go_wp2_with fail
  go_ret;rw[HR.out];exact⟨rfl,gd.out.swap.drop⟩
 |true=>
  have Iy:=af nc;rw[nc]at HL;clear nc;refine bU (by kernel_rfl) (by kernel_rfl) ?_
  repeat(go_big_quiet_step ((go_at_call 72;exact gT (HL.out _))))
  refine wpQuiet_nil ?_;rintro _ ⟨na,rfl⟩;have gX:In G w0 (bg p 108 #[.pointer (ae ⟨sp,0,ai⟩),.map (ae tb),.map (ae pb)]::b9 sp ls::PtrMap tb (T.ks.map λK=>(K,T.pt K))::bz pb T.ps::bg hb 43 (ints [s,g])::(l++T.ks.map (di T))) na.w:=HI.out.below na.below;have gd:=af gX;generalize na.w=w2 at *;clear c0 c1 HL HI gX;by_cases zG:0<=kind/\kind<8
  rotate_left
  ·have HR:Hid (aiQ ls f (s,g) kind n=(f,1)):=by unfold Hid aiQ;rw[if_neg (by simp[Iy.out]),if_pos (br zG)]
   have Qm:=af (GU kind zG w2);clear zG;have gm:=af (In.fW (l:=bg hb 43 (ints [s,g])::l) HT.out gd.out)
   go_wp2_with fail
   refine Qm.out.mono ?_;rintro e w3 ⟨rfl,rfl⟩
   go_wp2_with fail
   go_ret;rw[HR.out];exact⟨rfl,gm.out.swap.drop⟩
  have Qm:=af (Dh kind zG w2);by_cases hn: -1000000000<=n/\n<=1000000000
  rotate_left
  ·have HR:Hid (aiQ ls f (s,g) kind n=(f,1)):=by unfold Hid aiQ;rw[if_neg (by simp[Iy.out]),if_pos (by omega)]
   have gm:=af (In.fW (l:=bg hb 43 (ints [s,g])::l) HT.out gd.out);by_cases hn1:n< -1000000000
   ·have Cj:decide (n< -1000000000)=aA:=decide_eq_true hn1;clear hn zG
    go_wp2_with fail
    refine Qm.out.mono ?_;rintro e w3 ⟨rfl,rfl⟩
    go_wp2_with fail
    go_ret;rw[HR.out];exact⟨rfl,gm.out.swap.drop⟩
   ·have Cj:decide (n< -1000000000)=aw:=decide_eq_false hn1;have OE:decide (1000000000<n)=aA:=decide_eq_true (by omega);have hn2:1000000000<n:=by omega
    clear hn zG
    go_wp2_with fail
    refine Qm.out.mono ?_;rintro e w3 ⟨rfl,rfl⟩
    go_wp2_with fail
    go_ret;rw[HR.out];exact⟨rfl,gm.out.swap.drop⟩
  have Cj:decide (n< -1000000000)=aw:=decide_eq_false (by omega);have OE:decide (1000000000<n)=aw:=decide_eq_false (by omega);obtain⟨k,rfl⟩: ∃k:Nat,kind=k:=⟨kind.toNat,by omega⟩;have sK:k<8:=by omega
  have HR:Hid (aiQ ls f (s,g) (k:Int) n=(dH f s (ae (g,uE (cZ f s) k n)),0)):=by unfold Hid aiQ;rw[if_neg (by simp[Iy.out]),if_neg (by omega),dL]
  obtain⟨K,i,hLi⟩:=HT.out.agk HK.out Iy.out;obtain⟨hKk,hKb⟩:=zq (In.yW (X:=bg p 108 #[.pointer (ae ⟨sp,0,ai⟩),.map (ae tb),.map (ae pb)]::b9 sp ls::PtrMap tb (T.ks.map λK=>(K,T.pt K))::bz pb T.ps::bg hb 43 (ints [s,g])::l) gd.out hLi.mem);have HKB:Hid ((cZ f s).k=K):=hKb _ (oX hLi.at_);have wS:=af hLi;have Sc:=af hKk;have HN:=af hn;have hkI:(k:Int)<8:=by omega
  go_wp2_with fail
  refine Qm.out.mono ?_;rintro e w3 ⟨rfl,rfl⟩
  go_upto_region 5 with(fail)
  clear Cj OE hLi hKk hKb hn zG Qm;have gX:=gd.out;have ny:=gX.fourth.hZ;have k0:w2.cell? ⟨p,2,ai⟩=ae (.map (ae pb)):=gX.blk.cell 2;have k1:w2.cell? ⟨hb,0,ai⟩=ae (.int .i64 s):=gX.fifth.blk.cell 0;have k2:(w2.alloc (.cells #[.int .i64 0,.int .i64 0] 132)).cell? ⟨p,2,ai⟩=ae (.map (ae pb)):=nu _ k0;have k3:(w2.alloc (.cells #[.int .i64 0,.int .i64 0] 132)).cell? ⟨hb,0,ai⟩=ae (.int .i64 s):=nu _ k1;have qw:=qC ny wS.out.slot wS.out.place (Below.refl _ _).drew;have BO:=qC ny wS.out.slot wS.out.place (((Below.refl _ w2).alloc (az _) (.cells #[.int .i64 0,.int .i64 0] 132)).drew);have AJ:Hid (∀w3,w3=(putRow (w2.alloc (.cells (ints [0,0]) 132)) w2.heap.size 0 [K,(i:Int)]).drew->In G w0 (bg w2.heap.size 132 (ints [K,(i:Int)])::bg p 108 #[.pointer (ae ⟨sp,0,ai⟩),.map (ae tb),.map (ae pb)]::b9 sp ls::PtrMap tb (T.ks.map λK=>(K,T.pt K))::bz pb T.ps::bg hb 43 (ints [s,g])::(l++T.ks.map (di T))) w3):=λw3 e=>by rw[e];exact(gX.struct 132 [0,0] [K,(i:Int)] rfl).drew
  clear gX ny gd
  go_region
  all_goals
   go_upto_region 6 with(fail)
   refine cc (In G w0 (bg w2.heap.size 132 (ints [K,(i:Int)])::bg p 108 #[.pointer (ae ⟨sp,0,ai⟩),.map (ae tb),.map (ae pb)]::b9 sp ls::PtrMap tb (T.ks.map λK=>(K,T.pt K))::bz pb T.ps::bg hb 43 (ints [s,g])::(l++T.ks.map (di T)))) (AJ.out _ rfl) ?_;clear k0 k1 k2 k3 qw BO AJ;generalize w2.heap.size=lb;intro w3 fF;have s2:w3.cell? ⟨lb,0,ai⟩=ae (.int .i64 K):=fF.blk.cell 0;have hK2:((K.toNat:Nat):Int)=K:=by have:=Sc.out;omega
   have mI:=ID K.toNat k (by have:=Sc.out;omega) sK;rw[hK2]at mI;have Zu:=af hK2;clear hK2;have gm:=af fF;clear fF;cases Q6:K.toNat.testBit k with
   |true=>
    rw[Q6]at mI;have h1:(bits BinOp.and IntKind.i64 (K / 2^k) 1==1)=aA:=by rw[mI];rfl
    have HTB:=af Q6;clear mI Q6
    go_upto_region 7 with(fail)
    clear h1;have fF:=gm.out;have hl3:=yR fF.fourth.hZ wS.out.mem Sc.out (Below.refl _ _);have hl4:=yR fF.fourth.hZ wS.out.mem Sc.out (Below.refl _ _).drew;have s1:w3.cell? ⟨p,1,ai⟩=ae (.map (ae tb)):=fF.swap.blk.cell 1;have s3:w3.cell? ⟨lb,1,ai⟩=ae (.int .i64 (i:Int)):=fF.blk.cell 1;have wL:=(bH.1 wS.out.at_).1;have CH:=af (ab6 (In.yW (X:=bg lb 132 (ints [K,(i:Int)])::bg p 108 #[.pointer (ae ⟨sp,0,ai⟩),.map (ae tb),.map (ae pb)]::b9 sp ls::PtrMap tb (T.ks.map λK=>(K,T.pt K))::bz pb T.ps::bg hb 43 (ints [s,g])::l) fF.drew wS.out.mem) i wL (by have:=wS.out.len;omega) k (aa6 sK HTB.out) sK n HN.out);have HSB:Hid (setB ((T.rw K)[i]'wL) k n=⟨(s,g),uE (cZ f s) k n⟩):=by
     have h0:=wS.out.at_;rw[ao wL]at h0;injection h0 with h0
     unfold Hid setB uE;rw[h0,HKB.out,Rr K.toNat k (by have:=Sc.out;omega) sK HTB.out,Zu.out]
    rw[HSB.out]at CH;have CG:=af (HT.out.abP wS.out.mem wS.out.at_ (Cq wS.out.ok.1 wS.out.ok.2 sK HN.out));clear fF HSB wL
    go_still_tail 11,(by kernel_rfl)
    change wpList _ _ _ _ _ w3.drew;clear hl3 hl4 s1 s2 s3 gm;generalize w3.drew=w4 at *
    go_wp2_with fail
    refine CH.out.mono ?_;rintro e w5 ⟨rfl,eH⟩;have iC:In G w0 (bg lb 132 (ints [K,(i:Int)])::bg p 108 #[.pointer (ae ⟨sp,0,ai⟩),.map (ae tb),.map (ae pb)]::b9 sp ls::PtrMap tb (T.ks.map λK=>(K,T.pt K))::bz pb T.ps::bg hb 43 (ints [s,g])::(l++T.ks.map (di ⟨T.ks,T.pt,fZ T.rw K ((T.rw K).set i ⟨(s,g),uE (cZ f s) k n⟩),T.ps⟩))) w5:=In.Qv (X:=bg lb 132 (ints [K,(i:Int)])::bg p 108 #[.pointer (ae ⟨sp,0,ai⟩),.map (ae tb),.map (ae pb)]::b9 sp ls::PtrMap tb (T.ks.map λK=>(K,T.pt K))::bz pb T.ps::bg hb 43 (ints [s,g])::l) HT.out.nd wS.out.mem eH;have kE:=af (In.fW (l:=bg hb 43 (ints [s,g])::l) CG.out iC.drop);clear eH iC CH
    go_wp2_with fail
    go_ret;rw[HR.out];exact⟨rfl,kE.out.swap.drop⟩
   |false=>
    rw[Q6]at mI;have h1:(bits BinOp.and IntKind.i64 (K / 2^k) 1==1)=aw:=by rw[mI];rfl
    have HTB:=af Q6;clear mI Q6
    go_upto_region 8 with(fail)
    clear h1 s2;have fX:=In.fW (l:=bg lb 132 (ints [K,(i:Int)])::bg hb 43 (ints [s,g])::l) HT.out (gm.out.reorder 6 [1,2,3,4,0,5] rfl (by simp));have s4:row? w3 hb 0 2=ae (ints [s,g]):=fX.third.blk.bt rfl;have AI:=af (Jf fX s g (cZ f s) (HK.out.get Iy.out));have zD:(cZ f s).list.length=9:=by unfold aQ.list;rw[aj,wS.out.ok.2]
    clear fX gm
    go_wp2_with fail
    refine AI.out.mono ?_;rintro e w4 ⟨rfl,eH⟩;have lV:=af eH;clear eH AI
    go_upto_region 9 with(fail)
    refine cc (In G w0 (bg w4.heap.size 48 (ints (cZ f s).list)::dG p ls (dH f s ai)::bg lb 132 (ints [K,(i:Int)])::bg hb 43 (ints [s,g])::l)) (lV.out.struct 48 [0,0,0,0,0,0,0,0,0] _ zD) ?_;generalize w4.heap.size=bb;intro w5 iC;have BM:(cZ f s).list=K::(cZ f s).v:=by unfold aQ.list;rw[HKB.out]
    have q1:w5.cell? ⟨bb,0,ai⟩=ae (.int .i64 K):=by rw[iC.blk.cell 0,BM];rfl
    have q2:w5.frozen? ⟨bb,0,ai⟩=aw:=iC.blk.frozen 0;have zT:=ad' K.toNat k (by have:=Sc.out;omega) sK;rw[Zu.out]at zT;have qW:=iC.set 0 (.int .i64 ((K.toNat ||| 2^k:Nat):Int));rw[ints_set]at qW;have BP:(cZ f s).list.set 0 ((K.toNat ||| 2^k:Nat):Int)=((K.toNat ||| 2^k:Nat):Int)::(cZ f s).v:=by rw[BM];rfl
    rw[BP]at qW;have kE:=af qW;have HBP:Hid ((uE (cZ f s) k n).list=((K.toNat ||| 2^k:Nat):Int)::(cZ f s).v.set k n):=by unfold Hid uE aQ.list;rw[HKB.out]
    clear iC qW BP BM lV
    go_region
    go_upto_region 10 with(fail)
    refine cc (In G w0 (bg bb 48 (ints (((K.toNat ||| 2^k:Nat):Int)::(cZ f s).v))::dG p ls (dH f s ai)::bg lb 132 (ints [K,(i:Int)])::bg hb 43 (ints [s,g])::l)) kE.out.drew ?_;clear q1 q2 zT kE s4;intro w6 l9;have q3:w6.frozen? ⟨bb,1+k,ai⟩=aw:=l9.blk.frozen (1+k);have q4:w6.cell? ⟨bb,1+k,ai⟩=ae (.int .i64 ((cZ f s).v.getD k 0)):=by
     have hk9:1+k<(((K.toNat ||| 2^k:Nat):Int)::(cZ f s).v).length:=by rw[aj,wS.out.ok.2];omega
     rw[l9.blk.cell (1+k),ints_at hk9];simp[dt 1 k,bq,wS.out.ok.2,sK]
    have pj:=l9.set (1+k) (.int .i64 n);rw[ints_set,dt 1 k,List.set_cons_succ,<-HBP.out,dt k 1]at pj;have LS:(uE (cZ f s) k n).list.length=9:=by rw[HBP.out,aj,ew,wS.out.ok.2]
    have pZ:=af pj;clear l9 pj;have Xj:(0:Int)<=(k:Int):=by omega
    go_upto_region 11 with(fail)
    refine cc (In G w0 (bg bb 48 (ints (uE (cZ f s) k n).list)::dG p ls (dH f s ai)::bg lb 132 (ints [K,(i:Int)])::bg hb 43 (ints [s,g])::l)) pZ.out ?_;clear q3 q4 pZ;intro w7 gD;have q5:row? w7 bb 0 9=ae (ints (uE (cZ f s) k n).list):=gD.blk.bt LS;have q6:row? w7 hb 0 2=ae (ints [s,g]):=gD.fourth.blk.bt rfl;have Ky:=Cq wS.out.ok.1 wS.out.ok.2 sK HN.out;have Fl:=af (O7 gD.swap s g (uE (cZ f s) k n) (by unfold dH;rw[if_pos rfl]) ⟨Ky.1,Ky.2,wS.out.slot⟩);rw[Il]at Fl;clear gD Ky
    go_wp2_with fail
    refine Fl.out.mono ?_;rintro e w8 ⟨rfl,nX⟩;have uw:=af nX;clear nX Fl q5 q6
    go_wp2_with fail
    go_ret;rw[HR.out];exact⟨rfl,uw.out.swap.drop.swap.drop.swap.drop⟩
end
end
section
open Go.RowKit
theorem Rf {k:Int}(h:0<=k/\k<=255):m8 k=k.toNat:=by unfold m8;omega
theorem PD {z:ZS}(hz:j9 z){x:Hd}{was now:aQ}(hf:z.f x.1=ae (x.2,was))(hb:bK now=0){k:Nat}(hk:k<(kinds was.k.toNat).length):aiQ z.ls (dH z.f x.1 (ae (x.2,fa was now k))) x ((kinds was.k.toNat)[k]:Nat) (now.v.getD (kinds was.k.toNat)[k] 0)=(dH z.f x.1 (ae (x.2,fa was now (k+1))),0):=by
 have hl:ez z.ls x.1 x.2=aA:=(hz.w.lv _ _).2 ⟨was,hf⟩;have hm:=(ju was.k.toNat _).1 (aU hk);have hr:=((ns now hb).2 _ hm.1).2;unfold aiQ;rw[if_neg (by rw[hl];simp),if_neg (by omega)];have hbo:cZ (dH z.f x.1 (ae (x.2,fa was now k))) x.1=fa was now k:=by unfold cZ dH;rw[if_pos rfl];rfl
 rw[hbo,dL,Dp (hz.w.bo _ _ _ hf).1 hk,P9]
theorem X1 {z:ZS}(hz:j9 z){x:Hd}{was now:aQ}(hf:z.f x.1=ae (x.2,was))(hb:bK now=0): ∀k,k<=(kinds was.k.toNat).length->bK (fa was now k)=0/\(fa was now k).v.length=8:=by
 obtain⟨h1,h2⟩:=hz.w.bo _ _ _ hf;intro k
 induction k with
 |zero=>intro _;exact⟨h1,h2⟩
 |succ k ih=>intro hk;obtain⟨g1,g2⟩:=ih (by omega);have hm:=(ju was.k.toNat _).1 (aU (show k<(kinds was.k.toNat).length by omega));have hr:=((ns now hb).2 _ hm.1).2;rw[<-Dp h1 (show k<(kinds was.k.toNat).length by omega)];exact Cq g1 g2 hm.1 hr
theorem Ts {z:ZS}(hz:j9 z){x:Hd}{was now:aQ}(hf:z.f x.1=ae (x.2,was))(hb:bK now=0){k:Nat}(hk:k<=(kinds was.k.toNat).length):oe z.ls (dH z.f x.1 (ae (x.2,fa was now k))):=hz.w.upd ((hz.w.lv _ _).2 ⟨was,hf⟩) (X1 hz hf hb k hk)
section
variable {G:Nat->Prop} {w0 w:ah} {l:List bT} {p:Nat} {z:ZS}
theorem RG (h:In G w0 (cj p z::l) w)(hk:j9 z)(x1 x2:Int)(was now:aQ)(hf:z.f x1=ae (x2,was))(hn:now.k=was.k)(hb:bK now=0)(hv:now.v.length=8)(QX: ∀j,j∉kinds was.k.toNat->now.v.getD j 0=was.v.getD j 0):Calls Tryz.prog 38 #[ptr p,.agg #[.int .i64 x1,.int .i64 x2],.agg (ints was.list),.agg (ints now.list)] w λe w'=>e=.returned (.tuple #[])/\In G w0 (cj p ⟨z.ls,dH z.f x1 (ae (x2,now)),z.B⟩::l) w':=by
 obtain⟨hwe,hw8⟩:=hk.w.bo _ _ _ hf;have hwk:=(ns was hwe).1;have HM8:Hid (eE (m8 now.k)=eE was.k.toNat):=by unfold Hid;rw[hn,Rf hwk]
 have KH:=af (Pn hw8 hn hv QX);have yj:Hid (∀k,(zF:k<(kinds was.k.toNat).length)->aiQ z.ls (dH z.f x1 (ae (x2,fa was now k))) (x1,x2) ((kinds was.k.toNat)[k]:Nat) (now.v.getD (kinds was.k.toNat)[k] 0)=(dH z.f x1 (ae (x2,fa was now (k+1))),0)):=λk zF=>PD (x:=(x1,x2)) hk hf hb zF
 have ae5:Hid (∀k,(zF:k<(kinds was.k.toNat).length)->now.v.getD (kinds was.k.toNat)[k] 0=was.v.getD (kinds was.k.toNat)[k] 0->fa was now (k+1)=fa was now k):=λk zF he=>Mv hw8 zF he
 have ag5:Hid (∀k,k<=(kinds was.k.toNat).length->oe z.ls (dH z.f x1 (ae (x2,fa was now k)))):=λk zF=>Ts (x:=(x1,x2)) hk hf hb zF
 have k9:Hid (In G w0 (cj p ⟨z.ls,dH z.f x1 (ae (x2,fa was now 0)),z.B⟩::l) w):=by have e:dH z.f x1 (ae (x2,fa was now 0))=z.f:=Ur _ _ (by rw[hf];rfl);rw[e];exact h
 have zD:was.list.length=9:=by simp[aQ.list,hw8]
 have hnl:now.list.length=9:=by simp[aQ.list,hv]
 have HV:=af hv;have HW8:=af hw8;clear h hk hf hn hb hv QX hwe hw8 hwk;generalize Fg:now.k=nk at *
 go_enter Tryz.func38,Tryz.ntmps38
 go_upto_region 1 with(fail)
 refine cc (In G w0 (bg (w.heap.size+1+1) 48 (ints now.list)::bg (w.heap.size+1) 48 (ints was.list)::bg w.heap.size 43 (ints [x1,x2])::cj p ⟨z.ls,dH z.f x1 (ae (x2,fa was now 0)),z.B⟩::l)) (by have:=((k9.out.alloc 43 (ints [x1,x2])).alloc 48 (ints was.list)).alloc 48 (ints now.list);simp only[cQ]at this;exact this) ?_
 generalize w.heap.size+1+1=nb;generalize w.heap.size+1=wb;generalize w.heap.size=hb;intro w1 jU;have c1:w1.cell? ⟨nb,0,ai⟩=ae (.int .i64 nk):=by rw[<-Fg];exact jU.blk.cell 0
 have pY:=af jU;clear jU k9 Fg
 go_wp2_with fail
 refine(vm nk w1).mono ?_;rintro e w2 ⟨v,rfl,ho,gV⟩;rw[HM8.out]at ho;have gd:=af (In.wo pY.out ho gV);obtain⟨A2,c2,rfl,Ja⟩:=gd.out.kX;have hlen:(eE was.k.toNat).length=(kinds was.k.toNat).length:=by simp[eE]
 rw[hlen]at Ja gd⊢;have gm:=af (gd.out.to5.perm (pW _));have hn8:=pQ was.k.toNat;clear ho gV Ja gd pY c1 hlen HM8;generalize was.k.toNat=M at *;have iY:Hid (In G w0 (cj p ⟨z.ls,dH z.f x1 (ae (x2,fa was now 0)),z.B⟩::da (.slice A2 (kinds M).length c2) (eE M)::bg nb 48 (ints now.list)::bg wb 48 (ints was.list)::bg hb 43 (ints [x1,x2])::l) w2):=gm.out.reorder 5 [3,4,0,1,2] rfl (by simp);clear gm
 go_wp2_with fail
 go_loopw [14] (λi w'=> ∃k:Nat,k<=(kinds M).length/\i=.int .i64 k/\In G w0 (cj p ⟨z.ls,dH z.f x1 (ae (x2,fa was now k)),z.B⟩::da (.slice A2 (kinds M).length c2) (eE M)::bg nb 48 (ints now.list)::bg wb 48 (ints was.list)::bg hb 43 (ints [x1,x2])::l) w') (λi _=>(kinds M).length-(intOf i).toNat)
 case atStart=>exact⟨0,bS _,rfl,iY.out⟩
 case round=>
  clear iY;obtain⟨k,hk,rfl,hI⟩:=hrel;by_cases bE:k<(kinds M).length
  ·have xH:(k:Int)<(kinds M).length:=by omega
   obtain⟨A',c',e0,hr⟩:=hI.swap.kX;have hlen:(eE M).length=(kinds M).length:=by simp[eE]
   rw[hlen]at e0 hr;injection e0 with e1 e2 e3
   subst e1;subst e3;obtain⟨bl,o,q,rfl,hc,zG,Xm,sK,OT⟩:=vj hr bE;have hq:(kinds M)[k]=q:=by rw[zG.out];simp[bp,bE]
   have HP:=af (yj.out k bE);have HS:=af (ae5.out k bE);have HWK:=af (ag5.out k hk);rw[hq]at HP HS;have hcn:wr.cell? ⟨nb,1+q,ai⟩=ae (.int .i64 (now.v.getD q 0)):=by rw[(hI.third.blk).cell,kM,dt];simp only[aQ.list,eO];rw[ao (by rw[HV.out];exact sK)];simp[bp,ao (show q<now.v.length by rw[HV.out];exact sK)]
   have hcw:wr.cell? ⟨wb,1+q,ai⟩=ae (.int .i64 (was.v.getD q 0)):=by rw[(hI.fourth.blk).cell,kM,dt];simp only[aQ.list,eO];rw[ao (by rw[HW8.out];exact sK)];simp[bp,ao (show q<was.v.length by rw[HW8.out];exact sK)]
   have hqi:(q:Int)<8:=by omega
   have HI:=af hI;clear hI hr e2 zG Xm OT hq hlen;generalize hnv:now.v.getD q 0=nv at *;generalize hwv:was.v.getD q 0=wv at *;clear hnv hwv;have HCN:Hid (∀W,In G w0 (cj p ⟨z.ls,dH z.f x1 (ae (x2,fa was now k)),z.B⟩::da (.slice (ae ⟨bl,o,ai⟩) (kinds M).length c2) (eE M)::bg nb 48 (ints now.list)::bg wb 48 (ints was.list)::bg hb 43 (ints [x1,x2])::l) W->W.cell? ⟨nb,1+q,ai⟩=ae (.int .i64 nv)):=λW hW=>by
    have h1:wr.cell? ⟨nb,1+q,ai⟩=W.cell? ⟨nb,1+q,ai⟩:=by rw[HI.out.third.blk.cell,hW.third.blk.cell]
    rw[<-h1];exact hcn
   by_cases he:nv=wv
   ·have dQ:(nv !=wv)=aw:=by simp[he]
    have HE:=af (HS.out he);clear HS HP he HCN;rw[<-HE.out]at HI
    go_wp2_with fail
    go_quiet (fail)
    go_wp2_with fail
    have gm:=HI.out.below (w':=wr.drewN nq) ⟨rfl,rfl,rfl,az _,λ_ _=>rfl⟩
    go_roundw
    case rel=>exact⟨k+1,by omega,by go_num,gm⟩
    case measure=>simp[intOf];omega
   ·have dQ:(nv !=wv)=aA:=by simp[he]
    clear HS he
    go_wp2_with fail
    go_quiet (fail)
    have gm:=af (HI.out.below (w':=wr.drewN nq) ⟨rfl,rfl,rfl,az _,λ_ _=>rfl⟩);clear hcn hcw hc HI;generalize wr.drewN nq=w4 at *;have hcn:=HCN.out _ gm.out;obtain⟨wp,fp,m,hm,hf,ha,qW⟩:=gm.out.jO;have c0:w4.cell? ⟨p,0,ai⟩=ae (ptr wp):=qW.blk.cell 0;have qh:row? w4 hb 0 2=ae (ints [x1,x2]):=(qW.nth 6 (by simp)).blk.eb 0 2 (by simp);have HM:=af hm;have kE:=af qW.swap;clear hm hf ha qW gm HCN
    go_upto_region 5 with(fail)
    go_still_tail 10,(by kernel_rfl)
    change wpList _ _ _ _ _ w4.drew;have pO:=af kE.out.drew;clear kE c0 qh hcn;generalize w4.drew=w5 at *
    go_wp2_with fail
    refine(PE pO.out HWK.out x1 x2 q nv).mono ?_;rintro e w6 ⟨rfl,pj⟩;rw[HP.out]at pj⊢;have pZ:Hid (In G w0 (cj p ⟨z.ls,dH z.f x1 (ae (x2,fa was now (k+1))),z.B⟩::da (.slice (ae ⟨bl,o,ai⟩) (kinds M).length c2) (eE M)::bg nb 48 (ints now.list)::bg wb 48 (ints was.list)::bg hb 43 (ints [x1,x2])::l) w6):=In.mC (z:=⟨z.ls,dH z.f x1 (ae (x2,fa was now (k+1))),z.B⟩) HM.out pj.swap;clear pj pO HP
    go_wp2_with fail
    go_roundw
    case rel=>exact⟨k+1,by omega,by go_num,pZ.out⟩
    case measure=>simp[intOf];omega
  ·have:k=(kinds M).length:=by omega
   subst this;rw[KH.out]at hI;have HI:=af (hI.reorder 5 [1,2,3,4,0] rfl (by simp)).drop.drop.drop.drop;clear hI
   go_wp2_with fail
   go_end0
   exact⟨rfl,HI.out⟩
end
end
section
open Go.RowKit
section
variable {G:Nat->Prop} {w0 w:ah} {l:List bT} {p:Nat} {ls:List (Int×Bool)} {f:BF}
theorem QC (h:In G w0 (dG p ls f::l) w)(hk:oe ls f)(s g kind:Int):Calls Tryz.prog 67 #[.pointer (ae ⟨p,0,ai⟩),.agg #[.int .i64 s,.int .i64 g],.int .i64 kind] w λe w'=>e=.returned (.int .i64 (qi ls f (s,g) kind).2)/\In G w0 (dG p ls (qi ls f (s,g) kind).1::l) w':=by
 have k9:=af h;have HK:=af hk;clear h hk
 go_enter Tryz.func67,Tryz.ntmps67
 go_upto_region 1 with(fail)
 refine cc (In G w0 (dG p ls f::bg w.heap.size 43 (ints [s,g])::l)) (k9.out.alloc 43 (ints [s,g])).swap ?_;generalize w.heap.size=hb;intro w1 jU;obtain⟨sp,tb,pb,T,hT,hI⟩:=jU.kQ;obtain⟨F1,hS⟩:=hI.swap.head;have c0: ∀n:After w1,n.w.cell? ⟨p,0,ai⟩=ae (.pointer (ae ⟨sp,0,ai⟩)):=λn=>(hI.blk.after n.below).cell 0
 have c1: ∀n:After w1,row? n.w hb 0 2=ae (ints [s,g]):=λn=>(jU.swap.blk.after n.below).bt rfl
 have HL:Hid (∀n:After w1,Calls Tryz.prog 72 #[.pointer (ae ⟨sp,0,ai⟩),.agg (ints [s,g])] n.w λe w'=>e=.returned (.bool (ez ls s g))/\Below n.w.heap.size n.w w'):=λn=>qz sp ls F1 s g n.w (iX.after hS n.below)
 have HT:=af hT;have HI:=af hI;clear jU hI hS hT k9;cases nc:ez ls s g with
 |false=>
  have HR:Hid (qi ls f (s,g) kind=(f,7)):=by unfold Hid qi;rw[if_pos (by simp[nc])]
  rw[nc]at HL;clear nc;refine bU (by kernel_rfl) (by kernel_rfl) ?_
  repeat(go_big_quiet_step ((go_at_call 72;exact gT (HL.out _))))
  refine wpQuiet_nil ?_;rintro _ ⟨na,rfl⟩;have gd:=af (In.fW (l:=bg hb 43 (ints [s,g])::l) HT.out (HI.out.below na.below))
  go_wp2_with fail
  go_ret;rw[HR.out];exact⟨rfl,gd.out.swap.drop⟩
 |true=>
  have Iy:=af nc;rw[nc]at HL;clear nc;refine bU (by kernel_rfl) (by kernel_rfl) ?_
  repeat(go_big_quiet_step ((go_at_call 72;exact gT (HL.out _))))
  refine wpQuiet_nil ?_;rintro _ ⟨na,rfl⟩;have gX:In G w0 (bg p 108 #[.pointer (ae ⟨sp,0,ai⟩),.map (ae tb),.map (ae pb)]::b9 sp ls::PtrMap tb (T.ks.map λK=>(K,T.pt K))::bz pb T.ps::bg hb 43 (ints [s,g])::(l++T.ks.map (di T))) na.w:=HI.out.below na.below;have gd:=af gX;generalize na.w=w2 at *;clear c0 c1 HL HI gX;by_cases zG:0<=kind/\kind<8
  rotate_left
  ·have HR:Hid (qi ls f (s,g) kind=(f,1)):=by unfold Hid qi;rw[if_neg (by simp[Iy.out]),if_pos zG]
   have Qm:=af (GU kind zG w2);clear zG;have gm:=af (In.fW (l:=bg hb 43 (ints [s,g])::l) HT.out gd.out)
   go_wp2_with fail
   refine Qm.out.mono ?_;rintro e w3 ⟨rfl,rfl⟩
   go_wp2_with fail
   go_ret;rw[HR.out];exact⟨rfl,gm.out.swap.drop⟩
  have Qm:=af (Dh kind zG w2);obtain⟨k,rfl⟩: ∃k:Nat,kind=k:=⟨kind.toNat,by omega⟩;have sK:k<8:=by omega
  have HR:Hid (qi ls f (s,g) (k:Int)=if(cZ f s).k.toNat.testBit k=aw then(f,5)else(dH f s (ae (g,sx (cZ f s) k)),0)):=by unfold Hid qi;rw[if_neg (by simp[Iy.out]),if_neg (λh=>h zG),dL]
  obtain⟨K,i,hLi⟩:=HT.out.agk HK.out Iy.out;obtain⟨hKk,hKb⟩:=zq (In.yW (X:=bg p 108 #[.pointer (ae ⟨sp,0,ai⟩),.map (ae tb),.map (ae pb)]::b9 sp ls::PtrMap tb (T.ks.map λK=>(K,T.pt K))::bz pb T.ps::bg hb 43 (ints [s,g])::l) gd.out hLi.mem);have HKB:Hid ((cZ f s).k=K):=hKb _ (oX hLi.at_);rw[HKB.out]at HR;have wS:=af hLi;have Sc:=af hKk;have hkI:(k:Int)<8:=by omega
  go_wp2_with fail
  refine Qm.out.mono ?_;rintro e w3 ⟨rfl,rfl⟩
  go_upto_region 5 with(fail)
  clear hLi hKk hKb zG Qm;have gX:=gd.out;have ny:=gX.fourth.hZ;have c0: ∀n:After w2,n.w.cell? ⟨p,2,ai⟩=ae (.map (ae pb)):=λn=>(gX.blk.after n.below).cell 2
  have c1: ∀n:After w2,n.w.cell? ⟨hb,0,ai⟩=ae (.int .i64 s):=λn=>(gX.fifth.blk.after n.below).cell 0
  have qw: ∀n:After w2,(lj 106 (.map (ae pb)) (.int .i64 s) aw).run Tryz.prog n.w=.ok (.agg #[.int .i64 K,.int .i64 (i:Int)]) n.w:=λn=>qC ny wS.out.slot wS.out.place n.below
  have hfd: ∀W,(Instr.field 132 (.agg #[.int .i64 K,.int .i64 (i:Int)]) 0).run Tryz.prog W=.ok (.int .i64 K) W:=λW=>by kernel_rfl
  have hK2:((K.toNat:Nat):Int)=K:=by have:=Sc.out;omega
  have mI:=ID K.toNat k (by have:=Sc.out;omega) sK;rw[hK2]at mI;have Zu:=af hK2;clear hK2 gX ny;cases Q6:K.toNat.testBit k with
  |false=>
   rw[Q6]at mI HR;have h1:(bits BinOp.and IntKind.i64 (K / 2^k) 1==0)=aA:=by rw[mI];rfl
   clear mI Q6;refine bU (by kernel_rfl) (by kernel_rfl) ?_
   repeat(go_big_quiet_step (fail))
   refine wpQuiet_nil ?_;rintro _ ⟨nb,rfl⟩;have gm:=af (In.fW (l:=bg hb 43 (ints [s,g])::l) HT.out (gd.out.below nb.below));clear c0 c1 qw gd
   go_wp2_with fail
   go_ret;rw[HR.out];exact⟨rfl,gm.out.swap.drop⟩
  |true=>
   rw[Q6]at mI HR;have h1:(bits BinOp.and IntKind.i64 (K / 2^k) 1==0)=aw:=by rw[mI];rfl
   have HTB:=af Q6;clear mI Q6;refine bU (by kernel_rfl) (by kernel_rfl) ?_
   repeat(go_big_quiet_step (fail))
   refine wpQuiet_nil ?_;rintro _ ⟨nb,rfl⟩;have fX:=In.fW (l:=bg hb 43 (ints [s,g])::l) HT.out (gd.out.below nb.below);generalize nb.w=w3 at *;clear c0 c1 qw gd h1;have s4:row? w3 hb 0 2=ae (ints [s,g]):=fX.swap.blk.bt rfl;have AI:=af (Jf fX s g (cZ f s) (HK.out.get Iy.out));have zD:(cZ f s).list.length=9:=by unfold aQ.list;rw[aj,wS.out.ok.2]
   clear fX
   go_wp2_with fail
   refine AI.out.mono ?_;rintro e w4 ⟨rfl,eH⟩;have lV:=af eH;clear eH AI
   go_upto_region 8 with(fail)
   refine cc (In G w0 (bg w4.heap.size 48 (ints (cZ f s).list)::dG p ls (dH f s ai)::bg hb 43 (ints [s,g])::l)) (lV.out.struct 48 [0,0,0,0,0,0,0,0,0] _ zD) ?_;generalize w4.heap.size=bb;intro w5 iC;have BM:(cZ f s).list=K::(cZ f s).v:=by unfold aQ.list;rw[HKB.out]
   have q1:w5.cell? ⟨bb,0,ai⟩=ae (.int .i64 K):=by rw[iC.blk.cell 0,BM];rfl
   have q2:w5.frozen? ⟨bb,0,ai⟩=aw:=iC.blk.frozen 0;have zT:=N6 K.toNat k (by have:=Sc.out;omega) sK HTB.out;rw[Zu.out]at zT;have qW:=iC.set 0 (.int .i64 ((K.toNat-2^k:Nat):Int));rw[ints_set]at qW;have HBP:Hid ((sx (cZ f s) k).list=((K.toNat-2^k:Nat):Int)::(cZ f s).v.set k 0):=by unfold Hid sx aQ.list;rw[HKB.out]
   generalize ((K.toNat-2^k:Nat):Int)=KN at *;have BP:(cZ f s).list.set 0 KN=KN::(cZ f s).v:=by rw[BM];rfl
   rw[BP]at qW;have kE:=af qW;clear iC qW BP BM lV
   go_region
   go_upto_region 9 with(fail)
   refine cc (In G w0 (bg bb 48 (ints (KN::(cZ f s).v))::dG p ls (dH f s ai)::bg hb 43 (ints [s,g])::l)) kE.out.drew ?_;clear q1 q2 zT kE s4;intro w6 l9;have q3:w6.frozen? ⟨bb,1+k,ai⟩=aw:=l9.blk.frozen (1+k);have q4:w6.cell? ⟨bb,1+k,ai⟩=ae (.int .i64 ((cZ f s).v.getD k 0)):=by
    have hk9:1+k<(KN::(cZ f s).v).length:=by rw[aj,wS.out.ok.2];omega
    rw[l9.blk.cell (1+k),ints_at hk9];simp[dt 1 k,bq,wS.out.ok.2,sK]
   have pj:=l9.set (1+k) (.int .i64 0);rw[ints_set,dt 1 k,List.set_cons_succ,<-HBP.out,dt k 1]at pj;have LS:(sx (cZ f s) k).list.length=9:=by rw[HBP.out,aj,ew,wS.out.ok.2]
   have pZ:=af pj;clear l9 pj;have Xj:(0:Int)<=(k:Int):=by omega
   go_upto_region 10 with(fail)
   refine cc (In G w0 (bg bb 48 (ints (sx (cZ f s) k).list)::dG p ls (dH f s ai)::bg hb 43 (ints [s,g])::l)) pZ.out ?_;clear q3 q4 pZ;intro w7 gD;have q5:row? w7 bb 0 9=ae (ints (sx (cZ f s) k).list):=gD.blk.bt LS;have q6:row? w7 hb 0 2=ae (ints [s,g]):=gD.third.blk.bt rfl;have Ky:=Le wS.out.ok.1 wS.out.ok.2 sK (by rw[HKB.out];exact HTB.out);have Fl:=af (O7 gD.swap s g (sx (cZ f s) k) (by unfold dH;rw[if_pos rfl]) ⟨Ky.1,Ky.2,wS.out.slot⟩);rw[Il]at Fl;clear gD Ky
   go_wp2_with fail
   refine Fl.out.mono ?_;rintro e w8 ⟨rfl,nX⟩;have uw:=af nX;clear nX Fl q5 q6
   go_wp2_with fail
   go_ret;rw[HR.out];exact⟨rfl,uw.out.swap.drop.swap.drop⟩
end
end
end Go.Proofs.YtknejlcijdngoaaGreat
