/- Several texts in one, made short by a program of mine. -/
import Derived.Test.YtknejlcijdngoaaGreatEQ3
import Derived.ProofKit
import Derived.OpenShut
import Derived.SizedLaws
import Derived.Deep.Slices
import Derived.StillTailTactics
import Derived.BigQuiet
import Derived.Deep.DeepCutAuto
import Derived.Conc.LeavingOf
import Derived.Conc.WgGenN3
import Derived.Test.YtknejlcijdngoaaGreatRows
import Derived.Maps.AppendAt
import Derived.Laws.OwnMore
import Derived.WalkSmall
import Derived.Deep.RegionHeld3
import Derived.Deep.RegionWith
import Derived.Orders
import Derived.Conc.Holds
import Derived.Deep.RegionLawGrows
import Derived.Laws.AppendOwnNone
import Derived.Shelf.SlSortCmp.NoneTotal
import Derived.Maps.RangeWalk
set_option linter.unusedVariables false
set_option linter.unusedSimpArgs false
set_option linter.unusedSectionVars false
set_option maxHeartbeats 16000000
set_option maxRecDepth 100000
open Array renaming all_eq_true→eK,empty_append→kq,getD_eq_getD_getElem?→bF,getElem?_eq_getElem→aX,getElem?_eq_some_iff→aL,getElem?_modify→bw,getElem?_setIfInBounds_ne→aO,getElem?_setIfInBounds_self_of_lt→aW,mem_of_getElem?→th,replicate→eh,replicate_succ→dR,replicate_zero→dS
open Bool renaming and_eq_true→aM,eq_iff_iff→nJ,false_eq_true→e9,not_eq_true'→oa,or_eq_true→iU,false→aw,true→aA
open Go renaming Frame→bm,FuncId→bQ,Goroutine→ay,Operand→cw,Program→aS,TypeId→aF,Value→aq,World→ah
open Go.Act renaming eval→bV
open Go.Builtin renaming delete_→lI
open Go.Conc renaming mem_ofEvents→bh
open Go.ConcR renaming mk→ig
open Go.Frame renaming enter→fu,finish_at→mV
open Go.Instr renaming checkKey→fJ,findKey→j8,loadAt→dN,lookup→lj,storeAt→eM
open Go.Lib renaming hid→af
open Go.MapKept renaming run_getObj_map→lp
open Go.MemAct renaming ofEvent→cN,touch?→r6
open Go.MemOp renaming ofEvents→bW
open Go.Region renaming ready→gO,wanted→bu
open Go.Result renaming andThen→dU,andThen_ok→gP
open Go.Sem renaming runT→gi,run_bind→eo
open Go.Value renaming cells→iy,int→aZ,ownBlock→fK,slice→dZ
open Go.World renaming block_lt_of_cell?→qV,cell?→c8,setCell→dA,setChan→pB,size_alloc→cQ
open Go.World.ownsRow renaming lt→lq
open Go.stepG renaming exec→iW
open List renaming any_eq_true→kB,append_assoc→dn,append_nil→eN,append_toArray→ec,cons_append→dJ,eq_nil_of_length_eq_zero→gg,ext_getElem?→lJ,flatMap_append→eI,flatMap_cons→cM,getD→bp,getElem?_cons_succ→eO,getElem?_eq_getElem→ao,getElem?_eq_none→je,getElem?_eq_some_iff→bH,getElem?_map→dK,getElem?_set→gh,getElem?_take→gN,getElem_mem→aU,length_append→bM,length_cons→aj,length_nil→ax,length_set→ew,length_take→dW,map_append→dX,map_congr_left→dy,map_cons→fA,mem_cons→cy,mem_filter→cu,mem_iff_getElem→dp,mem_map→aN,mem_of_getElem?→oX,mem_of_mem_take→oY,mem_range→mD,mem_singleton→eC,mem_toArray→pz,nil_append→cL,not_mem_nil→jo,pairwise_iff_getElem→jc,push_toArray→eX,range→aG,replicate→bZ,set_append_right→nP,size_toArray→au,take_length→cD,take_succ_eq_append_getElem→aR
open List.Perm renaming append_left→dE,refl→pW,swap→cB
open List.range renaming loop→aB
open Nat renaming add_comm→dt,add_mul→k8,add_sub_cancel_left→ki,add_zero→kW,eq_zero_or_pos→nR,le_refl→az,le_trans→bP,lt_of_lt_of_le→bX,mul_le_mul_right→il,one_mul→jR,strongRecOn→l7,zero_add→aC,zero_le→bS
open Option renaming getD_some→bI,map_eq_some_iff→aK,map_some→eY,none→ai,some→ae
open Option.some renaming inj→aY,injEq→dz
open Or renaming inl→br,inr→bR
namespace Go.Proofs.YtknejlcijdngoaaGreat
section
open Go.RowKit Go.ChangeShapes Go.WideShapes Go.ChangeAt Go.Deep
def ga (P:aS):Nat->aF->Bool
 |0,_=>aw
 |n+1,t=>match P.underlying t with
  |some (.int .i64)=>P.cellsOf t==1
  |some (.struct fs)=>fs.toList.all (λf=>ga P n f.type)&&(aG (P.cellsOf t)).all λj=>fs.toList.any λf=>decide (f.offset<=j)&&decide (j<f.offset+P.cellsOf f.type)
  |some (.array m e)=>ga P n e&&decide (P.cellsOf t=m *P.cellsOf e)&&decide (0<P.cellsOf e)
  |_=>aw
def VO (cs:List aq):Prop:= ∀c∈cs,∃x:Int,c=.int .i64 x/\Fits x
theorem Ow {x:Int}(h:(Lit.int .i64 x).wf=aA):Fits x:=by simp only[Lit.wf,IntKind.min,IntKind.max,IntKind.signed,IntKind.bits,aM,decide_eq_true_eq,if_true]at h;unfold Fits;omega
section
variable {H:Type} {enc:aF×aq->H} {P:aS} {w:ah} {base:Nat} {spare:Nat->Bool} {held:Bool}
theorem zR: ∀(n fuel:Nat) (t:aF) (cs:List aq) (y:DataW H×List MemPlace),ga P n t=aA->DataW.trod enc P w base spare held fuel t cs=ae y->cs.length=P.cellsOf t/\VO cs
 |0,_,_,_,_,h,_=>by simp[ga]at h
 |n+1,fuel,t,cs,y,h,ht=>by
  unfold ga at h
  split at h
  ·rename_i hu
   obtain⟨x,rfl,_,hw⟩:=DataW.trod_int hu ht;refine⟨by simpa using(beq_iff_eq.1 h).symm,λc hc=> ?_⟩;rw[eC.1 hc];exact⟨x,rfl,Ow hw⟩
  ·rename_i fs hu
   obtain⟨xs,m,_,_,hl,XH,hf⟩:=DataW.trod_struct hu ht;simp only[aM,List.all_eq_true]at h;obtain⟨h1,h2⟩:=h;refine⟨hl,λc hc=> ?_⟩;obtain⟨j,hj,hjc⟩:=dp.1 hc;have h3:=h2 j (by simp;omega);simp only[kB,aM,decide_eq_true_eq]at h3;obtain⟨f,hfm,hf1,hf2⟩:=h3;obtain⟨i,hi,hfi⟩:=dp.1 hfm;have h4:=hf i f (by rw[<-hfi];simp at hi;simp[aX hi]);have wL:i<xs.length:=by rw[XH];simpa using hi
   rw[ao wL]at h4;obtain⟨_,h5⟩:=zR n m f.type _ _ (h1 f hfm) h4;refine h5 c ?_;rw[List.mem_iff_getElem?];refine⟨j-f.offset,?_⟩;rw[gN,if_pos (by omega),List.getElem?_drop,show f.offset+(j-f.offset)=j from by omega,ao hj,hjc]
  ·rename_i m e hu
   obtain⟨xs,k,_,_,hl,XH,hf⟩:=DataW.trod_array hu ht;simp only[aM,decide_eq_true_eq]at h;obtain⟨⟨h1,h2⟩,h3⟩:=h;refine⟨hl,λc hc=> ?_⟩;obtain⟨j,hj,hjc⟩:=dp.1 hc;have S4:j<m *P.cellsOf e:=by omega
   have hjd:j / P.cellsOf e<m:=(Nat.div_lt_iff_lt_mul h3).2 S4;have h4:=hf (j / P.cellsOf e) hjd;have wL:j / P.cellsOf e<xs.length:=by omega
   rw[ao wL]at h4;obtain⟨_,h5⟩:=zR n k e _ _ h1 h4;refine h5 c ?_;rw[List.mem_iff_getElem?];have h6:=Nat.div_add_mod j (P.cellsOf e);have h7:=Nat.mod_lt j h3;rw[Nat.mul_comm]at h6;refine⟨j % P.cellsOf e,?_⟩;rw[gN,if_pos h7,List.getElem?_drop,h6,ao hj,hjc]
  ·cases h
theorem MG {t e:aF}{v:aq}{d:DataW H}{p:List MemPlace}(n:Nat)(ht:P.underlying t=ae (.slice e))(hB:ga P n e=aA)(xI:0<P.cellsOf e)(hv: ∃A len cap,v=.slice A len cap)(h:DataW.Trod enc P w base spare held t v d p)(bE: ∀x∈p,x.block<w.heap.size): ∃A len cap,v=.slice A len cap/\cap<=maxLen/\len<=cap/\(∃elems sp,d=.slice elems sp/\elems.length=len\/len=0)/\ ∃xs:List Int,Reads w w.heap.size (P.cellsOf e) A len (xs.map (aZ .i64))/\ ∀x∈xs,Fits x:=by
 obtain⟨A,len,cap,rfl⟩:=hv;obtain⟨fuel,hf⟩:=h;rcases open_slice ht hf with⟨sJ,hx⟩|⟨a,aiE,afc,m,k,D,Pl,sJ,hb,hl,hm,hmm,hx,hi⟩
 ·simp only[iy,List.cons.injEq,Value.slice.injEq,and_true]at sJ;obtain⟨rfl,rfl,rfl⟩:=sJ;exact⟨ai,0,0,rfl,by decide,az _,⟨[],[],bR rfl⟩,[],⟨by simp,λh0=>absurd h0 (by omega)⟩,by simp⟩
 ·simp only[iy,List.cons.injEq,Value.slice.injEq,and_true]at sJ;obtain⟨rfl,rfl,rfl⟩:=sJ;have OI:len<=m:=by rw[hmm];split<;>omega
  simp only[Prod.mk.injEq]at hx;obtain⟨rfl,rfl⟩:=hx;refine⟨_,_,_,rfl,hm,hl,⟨_,_,br ⟨rfl,by simp⟩⟩,?_⟩;have ji: ∀j,j<len *P.cellsOf e-> ∃x:Int,w.cell? (a.add j)=ae (.int .i64 x)/\Fits x:=by intro j hj;have hjd:j / P.cellsOf e<len:=(Nat.div_lt_iff_lt_mul xI).2 hj;obtain⟨cs',hc,ht'⟩:=hi (j / P.cellsOf e) (by omega);obtain⟨_,h2⟩:=zR n _ e _ _ hB ht';obtain⟨_,rh,ru⟩:=World.cells?_some hc;have h7:=Nat.mod_lt j xI;have h8:=ru _ h7;rw[Go.Deep.add_add,Nat.mul_comm,Nat.div_add_mod]at h8;obtain⟨x,hx,hfx⟩:=h2 _ (aU (show j % P.cellsOf e<cs'.length by omega));exact⟨x,by rw[h8,ao (by omega),hx],hfx⟩
  have hex: ∃xs:List Int,xs.length=len *P.cellsOf e/\(∀j x,xs[j]? =ae x->w.cell? (a.add j)=ae (.int .i64 x))/\ ∀x∈xs,Fits x:=by
   generalize len *P.cellsOf e=q at ji
   induction q with
   |zero=>exact⟨[],rfl,by simp,by simp⟩
   |succ q ih=>
    obtain⟨xs,h1,h2,h3⟩:=ih λj hj=>ji j (by omega)
    obtain⟨x,hx,hfx⟩:=ji q (by omega);refine⟨xs++[x],by simp[h1],?_,by simpa using λy hy=>by rcases hy with hy|rfl;exact h3 y hy;exact hfx⟩;intro j z hz;rw[List.getElem?_append]at hz
    split at hz
    ·exact h2 j z hz
    ·have:j=q:=by have:=(bH.1 hz).1;simp at this;omega
     subst this;simp[h1]at hz;rw[<-hz];exact hx
  obtain⟨xs,h1,h2,h3⟩:=hex;refine⟨xs,⟨by simp[h1],λh0=> ?_⟩,h3⟩;obtain⟨x0,hx0,_⟩:=ji 0 (Nat.mul_pos h0 xI);obtain⟨b,o,s⟩:=a;have hs:s=ai:=by
   unfold c8 at hx0
   split at hx0
   ·cases s with
    |none=>rfl
    |some _=>simp[Addr.add]at hx0
   ·cases hx0
  subst hs;refine⟨b,o,rfl,?_,?_⟩
  ·exact qV w ⟨b,o,ai⟩ (by simpa[Addr.add]using hx0)
  ·intro j u hu;rw[dK]at hu;obtain⟨x,hx,rfl⟩:=aK.1 hu;have:=h2 j x hx;rwa[Addr.add_lit]at this
theorem Dw {r:Reach}{b0:Nat}{t e:aF}{v:aq}{d:DataW H}{p:List MemPlace}(n:Nat)(ht:P.underlying t=ae (.slice e))(hB:ga P n e=aA)(xI:0<P.cellsOf e)(hv:Value.okWide P w r b0 t v)(h:DataW.Trod enc P w base spare held t v d p)(bE: ∀x∈p,x.block<w.heap.size): ∃A len cap,v=.slice A len cap/\cap<=maxLen/\len<=cap/\(∃elems sp,d=.slice elems sp/\elems.length=len\/len=0)/\ ∃xs:List Int,Reads w w.heap.size (P.cellsOf e) A len (xs.map (aZ .i64))/\ ∀x∈xs,Fits x:=MG n ht hB xI (okWide_slice ht hv) h bE
theorem xl (hl:laidOutB P=aA): ∀{ts:List aF} {vs:List aq} {ds:List (DataW H)} {ps:List MemPlace} {W W':ah},(∀t∈ts,P.readableRec t=aA/\t<P.types.size)->DataW.TrodAll enc P W 0 (λ_=>aA) aA ts vs ds ps->Below W.heap.size W W'->(∀x∈ps,x.block<W.heap.size)->DataW.TrodAll enc P W' 0 (λb=>decide (b<W.heap.size)) aA ts vs ds ps
 | [],vs,ds,ps,W,W',_,h,_,_=>by obtain⟨rfl,rfl,rfl⟩:=trodAll_nil h;exact trodAll_mk0
 |t::ts,vs,ds,ps,W,W',ht,h,hb,bE=>by obtain⟨v,vs',d,UX,p,q,rfl,rfl,rfl,h1,h2⟩:=trodAll_cons h;exact trodAll_cons_mk (Below.trod hl (ht t (by simp)).1 (ht t (by simp)).2 h1 hb λx hx=>bE x (by simp[hx])) (xl hl (λu hu=>ht u (by simp[hu])) h2 hb λx hx=>bE x (by simp[hx]))
theorem XP {f:Func}{s:ChangeSpec}{W W':ah}{args:Array aq}{ds gs:List (DataW H)}{before:List MemPlace}{tb:aF}(hl:laidOutB P=aA)(hts: ∀t∈f.params.toList,P.readableRec t=aA/\t<P.types.size)(sO:f.resultTypes= #[tb])(Q6:P.underlying tb=ae .bool)(GQ:s.vars=[])(hs:s.fn H ds={results:=[.lit (.bool aA)],args:=ds})(hW:DataW.Whole enc P f.params.toList s.vars aw W args.toList ds gs before)(hb:Below W.heap.size W W'):s.post enc P f aw aA aw aw W args (.bool aA) W':=by
 have hW':=hW;obtain⟨p,q,hA,hV,rfl,hfz,LO⟩:=hW;rw[GQ]at hV;obtain⟨rfl,rfl⟩:=trodVars_none hV;have bE: ∀x∈p++[],x.block<W.heap.size:=λx hx=>hW'.lt x hx
 refine⟨ds,[],p++[],[],p,[],hW',?_,?_,?_,?_,by simp⟩
 ·rw[eN,hs,sO];exact trodAll_mk1 (shut_bool Q6 aA)
 ·rw[eN,hs];exact xl hl hts hA hb λx hx=>bE x (by simpa using hx)
 ·rw[eN,hs,GQ];exact rfl
 ·exact World.keptBut_mono (λx hx=>⟨hx,by simp at hx;exact bR (br hx)⟩) (hb.frame (· ∈p++[]))
end
end
section
open Go.RowKit
end
section
open Go.RowKit
theorem SH (A A':Option Addr)(c c':Nat)(xs ys:List (List Int))(w:ah)(h:gu w w.heap.size 11 A xs)(h':gu w w.heap.size 11 A' ys)(hx:xs.length<=maxLen)(hy:ys.length<=maxLen):Calls Tryz.prog 34 #[.slice A xs.length c,.slice A' ys.length c'] w λe w'=>e=.returned (.bool (iu xs ys))/\Below w.heap.size w w':=by
 have H:=af h;have H':=af h';have L4:(xs.length:Int)<=9223372036854775807:=by unfold maxLen at hx;omega
 have hy':(ys.length:Int)<=9223372036854775807:=by unfold maxLen at hy;omega
 have Q5:Hid (∀r∈xs,r.length=11):=h.1;have hsy:Hid (∀r∈ys,r.length=11):=h'.1;clear h h'
 go_enter Tryz.func34,Tryz.ntmps34
 by_cases hl:xs.length=ys.length
 rotate_left
 ·have h1:((xs.length:Int) !=(ys.length:Int))=aA:=by simp;omega
  have HD:Hid (iu xs ys=aw):=by simp only[Hid,iu,decide_eq_false_iff_not];rintro rfl;exact hl rfl
  go_wp2_with fail
  go_ret;exact⟨dv HD.out.symm,Below.refl _ _⟩
 have h1:((xs.length:Int) !=(ys.length:Int))=aw:=by simp;omega
 go_wp2_with fail
 go_loopw [14] (λi w'=> ∃k:Nat,k<=xs.length/\i=.int .i64 k/\(∀j,j<k->xs[j]? =ys[j]?)/\Below w.heap.size w w') (λi _=>xs.length-(intOf i).toNat)
 case atStart=>exact⟨0,by omega,rfl,λj hj=>by omega,Below.refl _ _⟩
 case round=>
  obtain⟨k,hk,rfl,qq,hb⟩:=hrel;have mW:=af qq;have tv:=af hb;clear qq hb;by_cases bE:k<xs.length
  ·have xH:(k:Int)<xs.length:=by omega
   have ahF:(k:Int)<ys.length:=by omega
   obtain⟨b,o,rfl,zD,fY⟩:=(H.out.below tv.out).at_ bE;obtain⟨b',o',rfl,afz,LW⟩:=(H'.out.below tv.out).at_ (k:=k) (by omega);have hex:Hid (xs[k]? =ys[k]?↔xs[k]=ys[k]'(by omega)):=by rw[ao bE,ao (show k<ys.length by omega)];exact⟨λh=>aY h,λh=>by rw[h]⟩
   have hrx:=Q5.out _ (aU bE);have hry:=hsy.out _ (aU (show k<ys.length by omega));generalize xs[k]=x at *;generalize ys[k]'(by omega)=y at *
   go_upto_region 6 with(fail)
   refine cc (λw'=>dq w' wr.heap.size 50 (ints x)/\Below wr.heap.size wr w') ⟨kl wr 50 [0,0,0,0,0,0,0,0,0,0,0] _ hrx,eZ wr 50 [0,0,0,0,0,0,0,0,0,0,0] _⟩ ?_;rintro w2 ⟨Jc,gV⟩;have wR:=af (tv.out.trans (gV.mono tv.out.size));have c1: ∀n:After w2,row? n.w wr.heap.size 0 11=ae (ints x):=λn=>(Jc.after n.below).bt hrx
   have c2: ∀n:After w2,row? n.w b' (o'+k *11) 11=ae (ints y):=λn=>(iR n.below (by have:=tv.out.size;have:=gV.size;omega) _ _).trans ((iR gV (by have:=tv.out.size;omega) _ _).trans LW)
   have hn: ∀W,(binOp .neq 50 (.agg (ints x)) (.agg (ints y))).run Tryz.prog W=.ok (.bool (!decide (x=y))) W:=abb x y hrx hry;clear Jc gV fY LW;by_cases he:x=y
   ·have hd:(decide (x=y))=aA:=by simpa using he
    rw[hd]at hn;have HE:Hid (xs[k]? =ys[k]?):=hex.out.2 he;clear he hex hd;refine bU (by kernel_rfl) (by kernel_rfl) ?_
    repeat(go_big_quiet_step (fail))
    refine wpQuiet_nil ?_;rintro _ ⟨n,rfl⟩
    go_wp2_with fail
    go_roundw
    case rel=>
     refine⟨k+1,by omega,by go_num,λj hj=> ?_,wR.out.trans (n.below.mono wR.out.size)⟩;by_cases tQ:j=k
     ·rw[tQ];exact HE.out
     ·exact mW.out j (by omega)
    case measure=>simp[intOf];omega
   ·have hd:(decide (x=y))=aw:=by simpa using he
    rw[hd]at hn;have HD:Hid (iu xs ys=aw):=by simp only[Hid,iu,decide_eq_false_iff_not];intro e;exact he (hex.out.1 (by rw[e]))
    clear he hex hd;refine bU (by kernel_rfl) (by kernel_rfl) ?_
    repeat(go_big_quiet_step (fail))
    refine wpQuiet_nil ?_;rintro _ ⟨n,rfl⟩
    go_wp2_with fail
    go_ret;exact⟨dv HD.out.symm,wR.out.trans (n.below.mono wR.out.size)⟩
  ·have HD:Hid (iu xs ys=aA):=by
    simp only[Hid,iu,decide_eq_true_eq];apply lJ;intro j;by_cases hj:j<k
    ·exact mW.out j hj
    ·rw[je (by omega),je (by omega)]
   go_wp2_with fail
   go_ret;exact⟨dv HD.out.symm,tv.out⟩
end
section
open Go.RowKit
theorem Oq (A A':Option Addr)(c c':Nat)(xs ys:List (List Int))(w:ah)(h:gu w w.heap.size 4 A xs)(h':gu w w.heap.size 4 A' ys)(hx:xs.length<=maxLen)(hy:ys.length<=maxLen):Calls Tryz.prog 18 #[.slice A xs.length c,.slice A' ys.length c'] w λe w'=>e=.returned (.bool (iu xs ys))/\Below w.heap.size w w':=by
 have H:=af h;have H':=af h';have L4:(xs.length:Int)<=9223372036854775807:=by unfold maxLen at hx;omega
 have hy':(ys.length:Int)<=9223372036854775807:=by unfold maxLen at hy;omega
 have Q5:Hid (∀r∈xs,r.length=4):=h.1;have hsy:Hid (∀r∈ys,r.length=4):=h'.1;clear h h'
 go_enter Tryz.func18,Tryz.ntmps18
 by_cases hl:xs.length=ys.length
 rotate_left
 ·have h1:((xs.length:Int) !=(ys.length:Int))=aA:=by simp;omega
  have HD:Hid (iu xs ys=aw):=by simp only[Hid,iu,decide_eq_false_iff_not];rintro rfl;exact hl rfl
  go_wp2_with fail
  go_ret;exact⟨dv HD.out.symm,Below.refl _ _⟩
 have h1:((xs.length:Int) !=(ys.length:Int))=aw:=by simp;omega
 go_wp2_with fail
 go_loopw [14] (λi w'=> ∃k:Nat,k<=xs.length/\i=.int .i64 k/\(∀j,j<k->xs[j]? =ys[j]?)/\Below w.heap.size w w') (λi _=>xs.length-(intOf i).toNat)
 case atStart=>exact⟨0,by omega,rfl,λj hj=>by omega,Below.refl _ _⟩
 case round=>
  obtain⟨k,hk,rfl,qq,hb⟩:=hrel;have mW:=af qq;have tv:=af hb;clear qq hb;by_cases bE:k<xs.length
  ·have xH:(k:Int)<xs.length:=by omega
   have ahF:(k:Int)<ys.length:=by omega
   obtain⟨b,o,rfl,zD,fY⟩:=(H.out.below tv.out).at_ bE;obtain⟨b',o',rfl,afz,LW⟩:=(H'.out.below tv.out).at_ (k:=k) (by omega);have hex:Hid (xs[k]? =ys[k]?↔xs[k]=ys[k]'(by omega)):=by rw[ao bE,ao (show k<ys.length by omega)];exact⟨λh=>aY h,λh=>by rw[h]⟩
   have hrx:=Q5.out _ (aU bE);have hry:=hsy.out _ (aU (show k<ys.length by omega));generalize xs[k]=x at *;generalize ys[k]'(by omega)=y at *
   go_upto_region 6 with(fail)
   refine cc (λw'=>dq w' wr.heap.size 45 (ints x)/\Below wr.heap.size wr w') ⟨kl wr 45 [0,0,0,0] _ hrx,eZ wr 45 [0,0,0,0] _⟩ ?_;rintro w2 ⟨Jc,gV⟩;have wR:=af (tv.out.trans (gV.mono tv.out.size));have c1: ∀n:After w2,row? n.w wr.heap.size 0 4=ae (ints x):=λn=>(Jc.after n.below).bt hrx
   have c2: ∀n:After w2,row? n.w b' (o'+k *4) 4=ae (ints y):=λn=>(iR n.below (by have:=tv.out.size;have:=gV.size;omega) _ _).trans ((iR gV (by have:=tv.out.size;omega) _ _).trans LW)
   have hn: ∀W,(binOp .neq 45 (.agg (ints x)) (.agg (ints y))).run Tryz.prog W=.ok (.bool (!decide (x=y))) W:=X8 x y hrx hry;clear Jc gV fY LW;by_cases he:x=y
   ·have hd:(decide (x=y))=aA:=by simpa using he
    rw[hd]at hn;have HE:Hid (xs[k]? =ys[k]?):=hex.out.2 he;clear he hex hd;refine bU (by kernel_rfl) (by kernel_rfl) ?_
    repeat(go_big_quiet_step (fail))
    refine wpQuiet_nil ?_;rintro _ ⟨n,rfl⟩
    go_wp2_with fail
    go_roundw
    case rel=>
     refine⟨k+1,by omega,by go_num,λj hj=> ?_,wR.out.trans (n.below.mono wR.out.size)⟩;by_cases tQ:j=k
     ·rw[tQ];exact HE.out
     ·exact mW.out j (by omega)
    case measure=>simp[intOf];omega
   ·have hd:(decide (x=y))=aw:=by simpa using he
    rw[hd]at hn;have HD:Hid (iu xs ys=aw):=by simp only[Hid,iu,decide_eq_false_iff_not];intro e;exact he (hex.out.1 (by rw[e]))
    clear he hex hd;refine bU (by kernel_rfl) (by kernel_rfl) ?_
    repeat(go_big_quiet_step (fail))
    refine wpQuiet_nil ?_;rintro _ ⟨n,rfl⟩
    go_wp2_with fail
    go_ret;exact⟨dv HD.out.symm,wR.out.trans (n.below.mono wR.out.size)⟩
  ·have HD:Hid (iu xs ys=aA):=by
    simp only[Hid,iu,decide_eq_true_eq];apply lJ;intro j;by_cases hj:j<k
    ·exact mW.out j hj
    ·rw[je (by omega),je (by omega)]
   go_wp2_with fail
   go_ret;exact⟨dv HD.out.symm,tv.out⟩
end
namespace Rel
open Go.Conc Go.ConcN
section
variable {P:aS} {c:fR} {Post:aq->ah->Prop} {w:ah}
theorem aat {fr:bm}{v:aq}{t':Tape}{d':Nat}(sO: ∀F,P.funcs[fr.fn]? =ae F->F.results.toList.all (rD (c.bd fr.fn))=aA)(hl:fr.leaving P (dB w t' d') (.returned v))(hi:P.inits.idxOf? fr.fn=ai)(LV: ∀tp d,Post v (dB w tp d)):CY P c Post (G fr []) w:=by
 obtain⟨hm,hd,hk,F,hF,hr⟩:=hl;intro tp d π gs sl q t Shun B h hf;have ht:=(hf fr (by simp[G])).1;refine lN h.g0 rfl h.co λsH q' t2 yg d2 hs h0 hC=>.inl ?_
 obtain⟨bO,ev,hR,e,s',jI,hn,hvv,jq⟩:=za (c:=c.at fr.fn) h.sub h.hp (sO F hF) ht hr tp d2;have gI:stepG P aA (jG fr []) (dB w tp d2)=.ended (.done v) (dB w tp d2) (seen P fr.fn ev++ #[]):=by
  rw[iD aA fr _ _ (by rw[hm];simp),n5 aA fr _ _ hd hm,hF];simp only[phase,hR];have:doReturn P aA fr [] ai v (dB w tp d2)=.ended (.done v) (dB w tp d2):=by unfold doReturn;simp only[hk,hi];rfl
  rw[this]
  rfl
 have hx: ∀x∈seen P fr.fn ev++ #[],EvX Shun w.heap.size x:=by intro x hx;rw[Array.append_empty]at hx;exact acr s' jI (λb hb=>h.RY b (hn b hb)) h.old (jq x (j5 _ _ x hx))
 have yO:=runT_many_ended (P:=P) (w:=dB w tp d2) (sl:=yg) (i:=0) h0 (show stepG P (0==0) (G fr []) (dB w tp d2)=_ from gI);refine⟨_,_,_,yO,λagI acN=> ?_⟩;have hC':=hC.Rt (a':=G fr []) h.le hx (G fr []).frame.fn (G fr []).frame.place id (λo _=>rfl);refine⟨v,rfl,LV _ _,hC'.past.clean,hC'.past.over,⟨λx hx=> ?_,rfl⟩,λj x hx hj=> ?_⟩
 ·obtain⟨j,hj⟩:=List.mem_iff_getElem?.1 hx;rw[List.getElem?_drop]at hj;exact⟨_,(hC.old (1+j) x (by omega) (by simpa[crowd]using hj)).leaves⟩
 ·have hq:=hC.old j x (by omega) hx;refine⟨q' j,?_⟩;have e:(t2++bW 0 (G fr []).frame.fn (G fr []).frame.place (seen P fr.fn ev++ #[])).deaf j (t2++bW 0 (G fr []).frame.fn (G fr []).frame.place (seen P fr.fn ev++ #[])).size=Deaf t2 j:=Deaf_other t2 (g:=j) (g':=0) (by omega) _ (λop hop=>by obtain⟨e,_,rfl⟩:=bh hop;rfl)
  rw[e];exact hq.hears _
theorem adg (P:aS)(g:ay):Co P (λ_=>False) 0 #[g] (λ_=>0) #[]:=by
 refine⟨λi x hi hx=> ?_,⟨λsaid=>by rintro⟨i,j,_,⟨a,b,ha,_⟩,_⟩;simp[Trace.act?]at ha,λi a ha=>by simp[touchAt,Trace.act?]at ha,λi g hg=>by simp[Trace.g?]at hg,rfl,by simp,λi op hi=>by simp at hi⟩,by simp,λb hb=>hb.elim⟩;have:i<1:=by simpa using(aL.1 hx).1
 omega
theorem XQ {f:bQ}{args:Array aq}{R:aq->ah->Prop}(hg:P.globals.size<=w.heap.size)(hi:P.inits.idxOf? f=ai)(po: ∀i v,args[i]? =ae v->(i∈c.bd f/\lU c (c.kd f i) v)\/AH c.sig v)(iM: ∀a x,c.mem a=ae x->w.cell? a=ae (.int .i64 x))(LV: ∀v w',R v w'-> ∀tp d,Post v (dB w' tp d))(h:uL P c Post f args w R): ∃M last o w' t',runNT P (M+1) (solo (G (fu P f args .normal) []) w) #[]=(.ended o w',t')/\runN P M (solo (G (fu P f args .normal) []) w)=.next last/\step P last=.ended o w'/\Go.Conc.Good P Post last o w' t':=by
 obtain⟨F,x,hF,hU,sO,hx,QQ⟩:=h;have hcy:CY P c Post (G (fu P f args .normal) []) w:=by
  rw[enter_at _ hF hx];have Db: ∀(a':Act) (w':ah) (todo:List Item),(∃v,(results F a'.tmps).run P w'=.ok v w'/\R v w')->CY P c Post (G {(base f).at a' todo with mode:=.returning} []) w':=by rintro a' w' todo ⟨v,hr,hR⟩;intro tp d π gs sl q t Shun B hh hfv;have hd:a'.defers=[]:=(hfv {(base f).at a' todo with mode:=.returning} (by simp[G])).2.2.1;exact aat (λF' yI=>by have:P.funcs[f]? =ae F':=yI;rw[hF]at this;cases this;exact sO) (t':=w'.tape) (d':=w'.drawn) ⟨rfl,hd,rfl,F,hF,hr⟩ hi (LV v w' hR) tp d π gs sl q t Shun B hh hfv
  refine QQ (base f) [] [] rfl rfl rfl λe a' w' q=> ?_
  cases e with
  |normal=>
   refine .ctl rfl (λ_=>stepG_end) (λπ _ hv fr mZ=> ?_) (Db a' w' [] q);rcases cy.1 mZ with rfl|h'
   ·exact hv ((base f).at a' []) (by simp[G])
   ·simp[G]at h'
  |ret=>exact λtodo=>Db a' w' todo q
  |exit id=>exact q.elim
  |goto l=>exact q.elim
  |panic ch=>exact q.elim
  |outgrown=>exact q.elim
 refine hcy w.tape w.drawn (λ_ _=>False) #[G (fu P f args .normal) []] ai (λ_=>0) #[] (λ_=>False) 0 ⟨λ_ _ h=>h.elim,⟨⟨λ_ _ _ h=>h.elim,λ_ _ _ h=>h.elim,λ_ _ h=>h.elim⟩,λ_ _ h=>h.elim,hg,hg,λa x hx=>⟨λ_ h=>h,λ_ h=>h,iM a x hx,iM a x hx⟩⟩,λ_ h=>h.elim,bS _,adg P _,rfl,λ_ h=>h.elim⟩ λfr mZ=> ?_
 have mZ:fr=fu P f args .normal:=by simpa[G]using mZ
 subst mZ;rw[enter_at _ hF hx];refine⟨⟨rfl,λi u v hu hv=> ?_⟩,rfl,rfl,rfl⟩;rw[hu]at hv;obtain rfl:=aY hv;have L0:(args++eh (F.ntmps-args.size) undef)[i]? =ae u:=hu;rw[Array.getElem?_append]at L0
 split at L0
 ·rcases po i u L0 with h1|h1
  ·exact .inr ⟨h1.1,rfl,h1.2⟩
  ·exact .inl (h1 _)
 ·rw[Array.getElem?_replicate]at L0
  split at L0
  ·cases L0;exact .inl (.tuple rfl (by simp))
  ·cases L0
end
end Rel
namespace Rel
open Go.Conc Go.ConcN
structure EH (P:aS) (c:fR) (N1:Nat) (cs:List bm) (π:Ren) (Shun:Nat->Prop) (B:Nat) (gs:Array ay) (q:Nat->Nat) (t:Trace) (g:ay) (w:ah):Prop where
 sub:Sub π
 hp:ck P c.sig π w w
 RY: ∀b,π b b-> ¬Shun b
 ZO: ∀b,π b b->b<N1
 sh: ∀b,Shun b->b<N1
 n1:N1<=w.heap.size
 le:B<=w.heap.size
 co:Co P Shun B gs q t
 g0:gs[0]? =ae g
 old: ∀b,Shun b->c.old<=b
 Ps:c.old<=N1
 fr: ∀fr∈cs,CF c π fr
def EY (P:aS)(c:fR)(Post:aq->ah->Prop)(N1:Nat)(cs:List bm)(Bm:Nat)(g:ay)(w:ah):Prop:= ∀(tp:Tape) (d:Nat) (π:Ren) (gs:Array ay) (sl:Option (Nat×Nat)) (q:Nat->Nat) (t:Trace) (Shun:Nat->Prop) (B:Nat),B<=Bm->EH P c N1 cs π Shun B gs q t g w->Ends P Post (crowd gs (dB w tp d) sl) t
def EvN (N1 B:Nat)(e:Event):Prop:=(e.loc≠ .mark .disable/\e.loc≠ .mark .enable)/\ ∀x,(cN e).touch? =ae x-> ∃b,vn x.loc=ae b/\N1<=b/\b<B
section
variable {P:aS} {c:fR} {Post:aq->ah->Prop} {N1 Bm:Nat} {cs:List bm} {w:ah}
theorem afm {Shun:Nat->Prop}{B:Nat}(sh: ∀b,Shun b->b<N1){e:Event}(h:EvN N1 B e):EvX Shun B e:=by
 refine⟨h.1,λx hx=> ?_⟩;obtain⟨b,hb,h1,h2⟩:=h.2 x hx;refine⟨λ⟨b',e1,e2⟩=> ?_,?_⟩
 ·rw[hb]at e1;cases e1;have:=sh b e2;omega
 ·cases hl:x.loc with
  |cell a=>rw[hl]at hb;cases hb;exact h2
  |obj r=>rw[hl]at hb;cases hb;exact h2
  |_=>trivial
theorem ck.keeps {S:jy}{π:Ren}{w w':ah}(s:Sub π)(h:ck P S π w w)(hs:w.heap.size<=w'.heap.size)(hk: ∀b,π b b->w'.heap[b]? =w.heap[b]?)(ho: ∀a x,S.mem a=ae x->w'.heap[a.block]? =w.heap[a.block]?):ck P S π w' w':=by refine⟨h.ok,λl r x=> ?_,bP h.ox hs,bP h.ox hs,λa x hx=>by obtain⟨g1,g2,g3,g4⟩:=h.old a x hx;exact⟨g1,g2,(og (ho a x hx)).trans g3,(og (ho a x hx)).trans g4⟩⟩;obtain rfl:=s _ _ x;obtain⟨o,o',h1,h2,h3⟩:=h.obj _ _ x;exact⟨o,o',(hk _ x).trans h1,(hk _ x).trans h2,h3⟩
theorem EH.next {π:Ren}{Shun:Nat->Prop}{B:Nat}{gs:Array ay}{q:Nat->Nat}{t:Trace}{g:ay}(h:EH P c N1 cs π Shun B gs q t g w){sH:Array ay}{g':ay}{w':ah}{t':Trace}{B':Nat}(hold: ∀b,b<N1->w'.heap[b]? =w.heap[b]?)(km:w.heap.size<=w'.heap.size)(hB:B'<=w'.heap.size)(hC:Co P Shun B' sH q t')(h0:sH[0]? =ae g'):EH P c N1 cs π Shun B' sH q t' g' w':=⟨h.sub,h.hp.keeps h.sub km (λb hb=>hold b (h.ZO b hb)) (λa x hx=>hold _ (bX (c.Jl a x hx) h.Ps)),h.RY,h.ZO,h.sh,bP h.n1 km,hB,hC,h0,h.old,h.Ps,h.fr⟩
theorem EY.step {g g':ay}{w':ah}{Zr:Nat}(hr:g.status=.running)(gI: ∀tp d,∃es,stepG P aA g (dB w tp d)=.go g' (dB w' tp d) es/\ ∀e∈es,EvN N1 Zr e)(hold: ∀b,b<N1->w'.heap[b]? =w.heap[b]?)(km:w.heap.size<=w'.heap.size)(hB:Bm<=Zr)(hB':Zr<=w'.heap.size)(k:EY P c Post N1 cs Zr g' w'):EY P c Post N1 cs Bm g w:=by
 intro tp d π gs sl q t Shun B hBB h;refine lN h.g0 hr h.co λsH q' t' yg d' hs h0 hC=>.inr ?_
 obtain⟨es,aaU,jq⟩:=gI tp d';have hgo:stepG P aA g ((dB w tp d).at d')=.go g' (dB w' tp d') es:=aaU;have hC':=hC.Rt (B':=Zr) (by omega) (λe he=>afm h.sh (jq e he)) (a':=g') g.frame.fn g.frame.place (woken P g g' (dB w' tp d')) (ud P g g' _);refine⟨_,_,runT_crowd_go (P:=P) (sl:=yg) (i:=0) h0 hgo,k tp d' π _ yg q' _ Shun Zr (az _) (EH.next (B':=Zr) ⟨h.sub,h.hp,h.RY,h.ZO,h.sh,h.n1,h.le,hC,h0,h.old,h.Ps,h.fr⟩ hold km hB' hC' ?_)⟩;rw[aW (by simpa using hC.pos)]
theorem EY.ctl {g g':ay}(hr:g.status=.running)(gI: ∀w,stepG P aA g w=.go g' w #[])(hB':Bm<=w.heap.size)(k:EY P c Post N1 cs Bm g' w):EY P c Post N1 cs Bm g w:=.step hr (λ_ _=>⟨#[],gI _,by simp⟩) (λ_ _=>rfl) (az _) (az _) hB' k
theorem EY.send {g:ay}{C:Nat}{v z:aq}{blocking:Bool}{shape:CommShape}{cap s r:Nat}{buf:Array aq}{tm:Bool}(hr:g.status=.running)(gI: ∀tp d,stepG P aA g (dB w tp d)=.comm g #[scase C v z] blocking shape (dB w tp d) #[])(hC:N1<=C)(hc:w.heap[C]? =ae (.chan cap buf aw s r tm))(af2:buf.size<cap)(hB':Bm<=w.heap.size)(k:EY P c Post N1 cs Bm (g.finishComm P #[scase C v z] shape 0 undef aw) (w.setChan C cap (buf.push v) aw (s+1) r tm)):EY P c Post N1 cs Bm g w:=by
 intro tp d π gs sl q t Shun B hBB h;refine lN h.g0 hr h.co λsH q' t' yg d' hs h0 hC0=>.inr ?_
 have hgo:stepG P (0==0) g ((dB w tp d).at d')=.comm g #[scase C v z] blocking shape (dB w tp d') #[]:=gI tp d';have bE:C<w.heap.size:=(aL.1 hc).1;have noP:partners (sH.setIfInBounds 0 Go.Conc.ph) C aw=[]:=partners_nil λy gy hgy=>by
  rcases getElem?_stand _ _ _ _ hgy with⟨_,rfl⟩|⟨dQ,hgy⟩
  ·exact offersAt_ph _ _
  ·exact offersAt_of_not_blocked (by rcases(hC0.old y gy (by omega) hgy).status with h|h<;>rw[h]<;>simp) _ _
 have cG:=crowd_send_room (P:=P) (sl:=yg) h0 hgo hc af2 noP;have IX: ∀fn pos,bW 0 fn pos #[]= #[]:=λfn pos=>by rw[ofEvents_eq];simp
 rw[IX,kq]at cG;have gY: ∀op∈(#[{g:=0,fn:=g.frame.fn,pos:=g.frame.place,act:=.send C s},{g:=0,fn:=g.frame.fn,pos:=g.frame.place,act:=.sendDone C s}]:Trace),op.g=0/\op.act.touch? =ai/\ ∀m,op.act≠ .mark m:=by intro op hop;simp only[pz,cy,jo,or_false]at hop;rcases hop with rfl|rfl<;>exact⟨rfl,rfl,by simp⟩
 have hC':=hC0.own (B':=B) (az _) (a':=g.finishComm P #[scase C v z] shape 0 undef aw) id (λ_ _=>rfl) (λop hop=>(gY op hop).1) (λop hop x hx=>by rw[(gY op hop).2.1]at hx;cases hx) (Deaf_still _ 0 _ λop hop=>⟨(gY op hop).2.2 _,(gY op hop).2.2 _⟩)
 rw[Array.map_id_fun,id]at hC';refine⟨_,_,cG,k tp d' π _ yg q' _ Shun B hBB (EH.next (B':=B) ⟨h.sub,h.hp,h.RY,h.ZO,h.sh,h.n1,h.le,hC0,h0,h.old,h.Ps,h.fr⟩ (λb hb=> ?_) (by simp[pB]) (by simp[pB];exact h.le) hC' ?_)⟩
 ·show(w.heap.setIfInBounds C _)[b]? =_;rw[aO (by omega)]
 ·rw[aW (by have:=hC0.pos;omega)]
theorem aav {b:bm}{k:List Item}{a:Act}{ops:Array Oper}{i:Nat}{rest:List Nat}{o:Oper}{f:bQ}{args:Array cw}{tE:Array aF}{F:Func}{x:Code}(hold:c.old<=w.heap.size)(ho:ops[i]? =ae o)(hw:bu o (yielded ops a.tmps)=aA)(hb:b.kind=.normal)(hop:o.op=.call {callee:=.value (.func f),args,argTypes:=tE})(hF:P.funcs[f]? =ae F)(hU:(F.name== "runtime.NumGoroutine")=aw)(hx:F.body=ae x)(h:EY P c Post w.heap.size (b.at a (.inRegion ops (i::rest)::k)::cs) w.heap.size (G (fu P f (args.map a.eval) .normal) (b.at a (.inRegion ops (i::rest)::k)::cs)) w):CY P c Post (G (b.at a (.inRegion ops (i::rest)::k)) cs) w:=by
 have jN:F.body.isNone=aw:=by rw[hx];rfl
 intro tp d π gs sl q t Shun B hh hf;refine lN hh.g0 rfl hh.co λsH q' t' yg d' hs h0 hC=>.inr ?_
 have hgo:stepG P aA (G (b.at a (.inRegion ops (i::rest)::k)) cs) ((dB w tp d).at d')=.go (G (fu P f (args.map a.eval) .normal) (b.at a (.inRegion ops (i::rest)::k)::cs)) (dB w tp d') #[]:=by rw[stepG_enter ho hw (by rw[hb];decide) (run_call_body hop hF hU jN)];congr 1;unfold listed;rw[events_call_body hop hF hU jN];exact seen_none P _
 have hC':=hC.Rt (B':=B) (az _) (es:= #[]) (by simp) (a':=G (fu P f (args.map a.eval) .normal) (b.at a (.inRegion ops (i::rest)::k)::cs)) (G (b.at a (.inRegion ops (i::rest)::k)) cs).frame.fn (G (b.at a (.inRegion ops (i::rest)::k)) cs).frame.place _ (ud P (G (b.at a (.inRegion ops (i::rest)::k)) cs) (G (fu P f (args.map a.eval) .normal) (b.at a (.inRegion ops (i::rest)::k)::cs)) (dB w tp d'));refine⟨_,_,runT_crowd_go (P:=P) (sl:=yg) (i:=0) h0 hgo,h tp d' π _ yg q' _ Shun B hh.le ⟨hh.sub,hh.hp,hh.RY,λb hb=>(hh.hp.lt hb).1,λb hb=>bX (hh.co.Uh b hb) hh.le,az _,hh.le,hC',?_,hh.old,hold,λfr mZ=>hf fr (by simpa[G]using mZ)⟩⟩;rw[aW (by simpa using hC.pos)]
end
end Rel
namespace Rel
open Go.Conc
section
variable {P:aS} {c:fR} {Post:aq->ah->Prop} {fn:bQ} {Q Q':Exit->Act->ah->Prop} {a:Act} {w:ah}
theorem wx (hc:c.Fits P){ops:Array Oper}{i:Nat}{rest:List Nat}{o:Oper}(ho:ops[i]? =ae o)(hw:bu o (yielded ops a.tmps)=aA)(wa:qF (c.at fn) o.op=aA){w':ah}(hr: ∀tp d,(execOp a.eval o).run P (dB w tp d)=.ok .skip (dB w' tp d))(h:sa P c Post fn ops rest Q (a.put o.dst undef) w'):sa P c Post fn ops (i::rest) Q a w:=by
 intro b k cs hb hk hp hq;refine .step rfl λtp d π s hw0 hv=> ?_
 have ht:=(hv (b.at a (.inRegion ops (i::rest)::k)) (by simp[G])).1;have LY:ck P c.sig π (dB w tp d) (dB w tp d):=hw0.agG tp d;rw[show(b.at a (.inRegion ops (i::rest)::k)).fn=fn from hb]at ht;have cG:=(DK (hc.at fn) hw0.ok (tI (c:=c.at fn) ht) (yB (c:=c.at fn) ht) o wa).run LY #[] #[];have Kz:(execOp a.eval o).runT P (dB w tp d) #[]=(.ok .skip (dB w' tp d),(execOp a.eval o).events P (dB w tp d) #[]):=by rw[Sem.runT_eq,hr]
 rw[Kz]at cG;obtain⟨_,_,h3⟩:=cG;obtain⟨bO,v',R',ev,e,hR,um,jI,hd,_,jq⟩:=h3 λ_ _ _=>rfl
 rw[Kz,kq]at hR;simp only[Prod.mk.injEq,Result.ok.injEq]at hR;obtain⟨⟨h1,h2⟩,h3⟩:=hR;subst h1;subst h2;have s':=s.Zy hd rfl;refine⟨_,_,_,bO,stepG_none ho hw (by rw[hk];decide) (hr tp d),e,s',jI,λb hb=>(hd.new b b hb).imp id λx=>x.1,hd.size,λx hx=>.inl (jq x ?_),yF (λfr mZ=>(hv fr mZ).mono e) _ (.inl (.tuple rfl (by simp))),(h b k cs hb hk hp hq).rt tp d⟩;rw[<-h3];exact j5 _ _ x hx
def yz (P:aS)(F:Func)(R:aq->ah->Prop):Exit->Act->ah->Prop:=λe a w=>(e=.normal\/e=.ret)/\a.defers=[]/\ ∃v,(∀tp d,(results F a.tmps).run P (dB w tp d)=.ok v (dB w tp d))/\ ∀tp d,R v (dB w tp d)
theorem Sz (hc:c.Fits P){x:Code}{F:Func}{R:aq->ah->Prop}(hx:dm (c.at fn) x=aA)(h: ∀tp d,x.wp P (yz P F R) a (dB w tp d)):eJ P c Post fn x (zM P F R) a w:=by
 refine xE (AX hc (Q:=yz P F R) hx (λe a w h=>⟨h.1,h.2.1⟩) (λe a w tp d h=>h) h) λe a w h=> ?_
 obtain⟨he,_,v,hr,hR⟩:=h;rcases he with rfl|rfl
 ·exact⟨v,hr w.tape w.drawn,hR w.tape w.drawn⟩
 ·exact⟨v,hr w.tape w.drawn,hR w.tape w.drawn⟩
def wm (S:Act->ah->Prop):Exit->Act->ah->Prop:=λe a w=>e=.normal/\a.defers=[]/\ ∀tp d,S a (dB w tp d)
theorem Gk (hc:c.Fits P){x:Code}{S:Act->ah->Prop}(hx:dm (c.at fn) x=aA)(h: ∀tp d,x.wp P (wm S) a (dB w tp d))(rz: ∀a w,S a w->Q .normal a w):eJ P c Post fn x Q a w:=by
 refine xE (AX hc (Q:=wm S) hx (λe a w h=>⟨.inl h.1,h.2.1⟩) (λe a w tp d h=>h) h) λe a w h=> ?_
 obtain⟨rfl,_,hS⟩:=h;exact rz a w (hS w.tape w.drawn)
end
end Rel
namespace Rel
open Go.Conc Go.ConcN
open Go.ConcR (KK WgAt rd wr Payload DC0 stA smA Bk)
section
variable [Payload] {φ:Ph} {Post:aq->ah->Prop} {Goal:ay->ah->Prop} {AnchW:(Nat->Prop)->ay->ah->Prop} {Shun:Nat->Prop} {gs:Array ay} {w:ah} {sl:Option (Nat×Nat)} {t:Trace} {q:Nat->Nat} {a:ay}
theorem Pw (O:φ.Ok)(yd: ∀μ g w,AnchW μ g w->g.status=.running)(hAn: ∀μ g w,AnchW μ g w-> ∃m,φ.GP μ (φ.AtW1 μ Goal (AnchW μ)) m g w){B:Nat}(hB:B<=φ.Wg)(h:Co φ.P Shun B gs q t)(Kw:φ.lo=gs.size)(OP: ∀b,φ.od b->b<w.heap.size/\ ¬Shun b)(adT: ∀b,φ.Std b->b<w.heap.size)(tj: ∀b,φ.CB b->b<w.heap.size/\ ¬Shun b)(hWg:φ.Wg<w.heap.size)(hCh:φ.Ch<w.heap.size)(jL:WgAt φ.ty φ.Wg w 0 0)(tk:φ.Qk 0 w)(QW: ∀p,p<φ.nj->φ.J0 p w)(ha:gs[0]? =ae a)(hn:0<φ.n)(NP:φ.Spawns (φ.Fin AnchW) φ.n (λ_=>False) a w)(K: ∀(sH:Array ay) (w':ah) (yg:Option (Nat×Nat)) (q':Nat->Nat) (t':Trace) (a':ay),sH[0]? =ae a'->a'.status=.running->Goal a' w'->Co φ.P (λb=>Shun b\/b=φ.Wg) w'.heap.size sH q' t'->w.heap.size<=w'.heap.size->(∀p,p<φ.nj-> ∃o:Nat->Prop,(∀b,o b->w.heap.size<=b/\b<w'.heap.size)/\φ.JP o p w')->Ends φ.P Post (crowd sH w' yg) t'):Ends φ.P Post (crowd gs w sl) t:=by obtain⟨m,hI⟩:=Co.enter (Goal:=Goal) (AnchW:=AnchW) (sl:=sl) O hB h Kw OP adT tj hWg hCh jL tk QW ha hn NP;obtain⟨N,mc,t',hr,hD⟩:=SF O (λi op hi=>by rw[Kw];exact h.past.gs i op hi) yd hAn hI;have h':Co φ.P Shun w.heap.size gs q t:=h.mono (by omega);obtain⟨sH,w',yg,q',a',rfl,h1,h2,h3,h4,h5,h6⟩:=hD.leave O hn h' Kw;exact .runs hr (K sH w' yg q' t' a' h1 h2 h3 h4 h5 h6)
end
end Rel
namespace Rel
open Go.Conc Go.ConcN
open Go.ConcR (KK WgAt rd wr Payload DC0 stA smA Bk)
theorem Gh.vW (γ:Gh)(w:ah):γ.grow w w=γ:=by obtain⟨o,h,v⟩:=γ;unfold Gh.grow;congr 1;funext b;exact propext ⟨λx=>x.elim id λy=>by omega,.inl⟩
theorem Gh.GG (γ:Gh){w w':ah}(h:w'.heap.size=w.heap.size):γ.grow w w'=γ:=by obtain⟨o,h',v⟩:=γ;unfold Gh.grow;congr 1;funext b;exact propext ⟨λx=>x.elim id λy=>by omega,.inl⟩
section
variable [Payload] {φ:Ph} {γ:Gh} {w:ah}
theorem Ph.WT.rely (O:φ.Ok){g:ay}{aD:ah}(h:φ.WT γ g w)(r:φ.eP γ w aD):φ.WT γ g aD:=by
 cases h with
 |tail h=>exact .tail (h.rely O r)
 |step g' w' es hr gI k=>exact .step g' w' es hr (λe8 tT=>gI e8 (r.trans tT)) λe8 tT=>k e8 (r.trans tT)
 |recv hr gI h1 h2=>exact .recv hr (λe8 tT=>gI e8 (r.trans tT)) (λe8 i tT=>h1 e8 i (r.trans tT)) λe8 tT=>h2 e8 (r.trans tT)
theorem SR (φ:Ph)(γ:Gh)(w:ah):φ.BD γ w w #[]:=⟨λ_ _ _ _=>rfl,λ_ _ _=>rfl,λ_ _=>rfl,az _,rfl,rfl,rfl,by simp⟩
theorem GH {es:Array Event}(h: ∀e∈es,φ.Acc γ e):φ.BD γ w w es:=⟨λ_ _ _ _=>rfl,λ_ _ _=>rfl,λ_ _=>rfl,az _,rfl,rfl,rfl,by rw[Gh.vW];exact h⟩
theorem Ph.WT.ctl (O:φ.Ok){g g':ay}(hr:g.status=.running)(gI: ∀w,stepG φ.P aw g w=.go g' w #[])(k:φ.WT γ g' w):φ.WT γ g w:=.step (λ_=>g') id (λ_=> #[]) hr (λaD _=>⟨gI aD,SR φ γ aD⟩) λaD h=>by show φ.WT (γ.grow aD aD) g' aD;rw[Gh.vW];exact k.rely O h
variable {b:bm} {a:Act} {k:List Item} {cs:List bm} {ops:Array Oper} {i:Nat} {rest:List Nat} {o:Oper}
theorem Ph.WT.op (v:ah->aq)(u:ah->ah)(ho:ops[i]? =ae o)(hw:bu o (yielded ops a.tmps)=aA)(hb:b.kind≠ .early)(cG: ∀aD,φ.eP γ w aD->(execOp a.eval o).run φ.P aD=.ok (.value (v aD)) (u aD))(hg: ∀aD,φ.eP γ w aD->φ.BD γ aD (u aD) ((execOp a.eval o).events φ.P aD #[]))(h: ∀aD,φ.eP γ w aD->φ.WT (γ.grow aD (u aD)) (G (b.at (a.put o.dst (v aD)) (.inRegion ops rest::k)) cs) (u aD)):φ.WT γ (G (b.at a (.inRegion ops (i::rest)::k)) cs) w:=.step _ u (λaD=>listed φ.P b.fn a o aD) rfl (λaD hr=>⟨stepG_value ho hw hb (cG aD hr),by have:=hg aD hr;exact⟨this.rest,this.cells,this.pay,this.size,this.tape,this.os,this.output,λe he=>this.ev e (j5 _ _ e he)⟩⟩) h
theorem Ph.WT.opN (u:ah->ah)(ho:ops[i]? =ae o)(hw:bu o (yielded ops a.tmps)=aA)(hb:b.kind≠ .early)(cG: ∀aD,φ.eP γ w aD->(execOp a.eval o).run φ.P aD=.ok .skip (u aD))(hg: ∀aD,φ.eP γ w aD->φ.BD γ aD (u aD) ((execOp a.eval o).events φ.P aD #[]))(h: ∀aD,φ.eP γ w aD->φ.WT (γ.grow aD (u aD)) (G (b.at (a.put o.dst undef) (.inRegion ops rest::k)) cs) (u aD)):φ.WT γ (G (b.at a (.inRegion ops (i::rest)::k)) cs) w:=.step _ u (λaD=>listed φ.P b.fn a o aD) rfl (λaD hr=>⟨stepG_none ho hw hb (cG aD hr),by have:=hg aD hr;exact⟨this.rest,this.cells,this.pay,this.size,this.tape,this.os,this.output,λe he=>this.ev e (j5 _ _ e he)⟩⟩) h
theorem Ph.WT.pure (O:φ.Ok)(v:aq)(ho:ops[i]? =ae o)(hw:bu o (yielded ops a.tmps)=aA)(hb:b.kind≠ .early)(cG: ∀aD,φ.eP γ w aD->(execOp a.eval o).run φ.P aD=.ok (.value v) aD)(hg: ∀aD,φ.eP γ w aD-> ∀e∈(execOp a.eval o).events φ.P aD #[],φ.Acc γ e)(h:φ.WT γ (G (b.at (a.put o.dst v) (.inRegion ops rest::k)) cs) w):φ.WT γ (G (b.at a (.inRegion ops (i::rest)::k)) cs) w:=.op (λ_=>v) id ho hw hb cG (λaD hr=>GH (hg aD hr)) λaD hr=>by show φ.WT (γ.grow aD aD) _ aD;rw[Gh.vW];exact h.rely O hr
theorem Ph.WT.enter (O:φ.Ok){f:bQ}{args:Array aq}(ho:ops[i]? =ae o)(hw:bu o (yielded ops a.tmps)=aA)(hb:b.kind≠ .early)(cG: ∀w,(execOp a.eval o).run φ.P w=.ok (.enter f args) w)(jq: ∀w,(execOp a.eval o).events φ.P w #[]= #[])(h:φ.WT γ (G (fu φ.P f args .normal) (b.at a (.inRegion ops (i::rest)::k)::cs)) w):φ.WT γ (G (b.at a (.inRegion ops (i::rest)::k)) cs) w:=.ctl O rfl (λw=>by rw[stepG_enter ho hw hb (cG w)];congr 1;unfold listed;rw[jq];exact seen_none _ _) h
theorem Ph.WT.leave0 (O:φ.Ok){F:Func}{todo:List Item}{b₀:bm}{a₀:Act}(hn:b.kind=.normal)(hd:a.defers=[])(hf:φ.P.funcs[b.fn]? =ae F)(hr:F.results= #[])(h:φ.WT γ (G (b₀.at (a₀.put ((ops[i]?).bind (·.dst)) (.tuple #[])) (.inRegion ops rest::k)) cs) w):φ.WT γ (G {b.at a todo with mode:=.returning} (b₀.at a₀ (.inRegion ops (i::rest)::k)::cs)) w:=.ctl O rfl (λw=>by rw[stepG_leave hn hd hf (results_none hr _ _ w) (events_results_none hr _ _),mV]) h
structure Kept (φ:Ph) (γ:Gh) (St:Nat->Prop) (w0 w:ah):Prop where
 st: ∀b,St b->w.heap[b]? =w0.heap[b]?
 rd: ∀b,φ.od b->w.heap[b]? =w0.heap[b]?
 cell: ∀i a,γ.held i->φ.jl i a->w.cell? a=w0.cell? a
 pay: ∀b,φ.CB b->fz w b=fz w0 b
 size:w0.heap.size<=w.heap.size
 live:WgLive φ.ty φ.Wg w0->WgLive φ.ty φ.Wg w
theorem Kept.refl (φ:Ph)(γ:Gh)(St:Nat->Prop)(w:ah):Kept φ γ St w w:=⟨λ_ _=>rfl,λ_ _=>rfl,λ_ _ _ _=>rfl,λ_ _=>rfl,az _,id⟩
theorem Ph.WT.tree (O:φ.Ok){c:fR}(hc:c.Fits φ.P){H:ay->ah->Prop}{bot:List bm}{St:Nat->Prop}{w0:ah}(hWg:φ.Wg<w0.heap.size/\ ¬γ.own φ.Wg)(iM: ∀a x,c.mem a=ae x->φ.od a.block)(K: ∀(gL:ay) (L:ah) (g:ay) (w:ah) (γ':Gh) (π:Ren),H gL L->GR c [] [] [fC] bot π gL g->ck φ.P c.sig π L w->(∀l r,π l r->γ'.own r)->(∀r,γ.own r->γ'.own r)->γ'.held=γ.held->γ'.over=γ.over->(∀r,γ'.own r->γ.own r\/(w0.heap.size<=r/\r<w.heap.size))->Kept φ γ St w0 w->φ.WT γ' g w): ∀{gL:ay} {L:ah},LT φ.P [] H gL L-> ∀(g:ay) (w:ah) (γ':Gh) (π:Ren),GR c [] [] [fC] bot π gL g->ck φ.P c.sig π L w->(∀l r,π l r->γ'.own r)->(∀r,γ.own r->γ'.own r)->γ'.held=γ.held->γ'.over=γ.over->(∀r,γ'.own r-> ¬φ.CB r)->(∀r,φ.CB r->r<w.heap.size)->(∀r,φ.od r->r<w.heap.size/\ ¬γ'.own r)->(∀r,St r->γ'.own r/\r<w.heap.size/\ ∀l,¬π l r)->(∀r,γ'.own r->γ.own r\/(w0.heap.size<=r/\r<w.heap.size))->Kept φ γ St w0 w->φ.WT γ' g w:=by
 intro gL L bE
 induction bE with
 |stop hH=>intro g w γ' π hg hw h1 h2 h3 h4 _ _ _ _ QN h9;exact K _ _ g w γ' π hH hg hw h1 h2 h3 h4 QN h9
 |step gsL R6 esL hs gI oB ih=>
  rename_i gL L
  intro g w γ' π hg hw h1 h2 h3 h4 h5 h6 h7 h8 QN h9;have af0: ∀aD,φ.eP γ' w aD->ck φ.P c.sig π L aD:=λaD r=>⟨hw.ok,λl x hx=>by obtain⟨o,o',e1,e2,e3⟩:=hw.obj l x hx;exact⟨o,o',e1,(r.own x (h1 l x hx)).trans e2,e3⟩,hw.ox,bP hw.uz r.size,λa x hx=>by obtain⟨g1,g2,g3,g4⟩:=hw.old a x hx;exact⟨g1,g2,g3,(og (r.rd _ (iM a x hx))).trans g4⟩⟩
  have key: ∀aD,φ.eP γ' w aD-> ∃gR R2 ev bO,stepG φ.P aw g aD=.go gR R2 ev/\Ext φ.P π bO/\GR c [] [] [fC] bot bO (gsL aD.tape aD.drawn) gR/\ck φ.P c.sig bO (R6 aD.tape aD.drawn) R2/\yh π bO L aD (R6 aD.tape aD.drawn) R2/\ ∀e∈ev,Ey c.sig bO e:=λaD r=>Ni hc hs gI (af0 aD r) hg aw
  have cG:g.status=.running:=by rw[hg.r]
  classical
  let gf:ah->ay:=λaD=>if r:φ.eP γ' w aD then(key aD r).choose else g
  let wf:ah->ah:=λaD=>if r:φ.eP γ' w aD then(key aD r).choose_spec.choose else w
  let ef:ah->Array Event:=λaD=>if r:φ.eP γ' w aD then(key aD r).choose_spec.choose_spec.choose else #[]
  have spec: ∀aD,φ.eP γ' w aD-> ∃bO,stepG φ.P aw g aD=.go (gf aD) (wf aD) (ef aD)/\Ext φ.P π bO/\GR c [] [] [fC] bot bO (gsL aD.tape aD.drawn) (gf aD)/\ck φ.P c.sig bO (R6 aD.tape aD.drawn) (wf aD)/\yh π bO L aD (R6 aD.tape aD.drawn) (wf aD)/\ ∀e∈ef aD,Ey c.sig bO e:=by intro aD r;have:=(key aD r).choose_spec.choose_spec.choose_spec;simp only[gf,wf,ef,dif_pos r];exact this
  have agu: ∀aD (r:φ.eP γ' w aD) bO,yh π bO L aD (R6 aD.tape aD.drawn) (wf aD)->ck φ.P c.sig bO (R6 aD.tape aD.drawn) (wf aD)-> ∀l x,bO l x->(γ'.grow aD (wf aD)).own x:=by
   intro aD r bO hd jI l x hx;rcases hd.new l x hx with h|⟨_,h,_⟩
   ·exact .inl (h1 l x h)
   ·exact .inr ⟨h,(jI.lt hx).2⟩
  refine .step gf wf ef cG (λaD r=> ?_) λaD r=> ?_
  ·obtain⟨bO,hgo,e,ll,jI,hd,jq⟩:=spec aD r;refine⟨hgo,λb hb hn tj=>hd.rest b hb λl hl=>hn (h1 l b hl),λad tj _=> ?_,λb tj=> ?_,hd.size,hd.tape,hd.os,hd.output,λe he=> ?_⟩
   ·unfold c8;rw[hd.rest ad.block (bX (h6 _ tj) r.size) λl hl=>h5 _ (h1 l _ hl) tj]
   ·unfold fz;rw[hd.rest b (bX (h6 _ tj) r.size) λl hl=>h5 _ (h1 l _ hl) tj]
   ·have ho:=agu aD r bO hd jI;cases jq e he with
    |cell wr hb=>exact .inr ⟨rfl,_,rfl,.inl (ho _ _ hb)⟩
    |obj wr hb=>exact .inr ⟨rfl,_,rfl,.inl (ho _ _ hb)⟩
    |room=>exact .inl rfl
    |old hm=>exact .inr ⟨rfl,_,rfl,.inr (.inr ⟨rfl,iM _ _ hm⟩)⟩
  ·obtain⟨bO,hgo,e,ll,jI,hd,jq⟩:=spec aD r;refine ih aD.tape aD.drawn (gf aD) (wf aD) (γ'.grow aD (wf aD)) bO ll jI (agu aD r bO hd jI) (λx hx=>.inl (h2 x hx)) h3 h4 (λx hx tj=> ?_) (λx hx=> ?_) (λx hx=>⟨bX (h7 x hx).1 (bP r.size hd.size),λho=> ?_⟩) (λx hx=>⟨.inl (h8 x hx).1,bX (h8 x hx).2.1 (bP r.size hd.size),λl hl=> ?_⟩) (λx hx=> ?_) ⟨λx hx=> ?_,λx hx=> ?_,λp ad hp tP=> ?_,λx hx=> ?_,bP h9.size (bP r.size hd.size),λhl=> ?_⟩
   ·rcases hx with hx|⟨hx,_⟩
    ·exact h5 x hx tj
    ·have:=h6 x tj;have:=r.size;omega
   ·exact bX (h6 x hx) (bP r.size hd.size)
   ·rcases ho with ho|⟨ho,_⟩
    ·exact(h7 x hx).2 ho
    ·have:=(h7 x hx).1;have:=r.size;omega
   ·rcases hd.new l x hl with h|⟨_,h,_⟩
    ·exact(h8 x hx).2.2 l h
    ·have:=(h8 x hx).2.1;have:=r.size;omega
   ·have hz:=h9.size;have hr:=r.size;have hs:=hd.size;rcases hx with hx|⟨h1',h2'⟩
    ·rcases QN x hx with h|⟨h1',h2'⟩
     ·exact .inl h
     ·exact .inr ⟨h1',by omega⟩
    ·exact .inr ⟨by omega,h2'⟩
   ·exact((hd.rest x (bX (h8 x hx).2.1 r.size) (h8 x hx).2.2).trans (r.own x (h8 x hx).1)).trans (h9.st x hx)
   ·exact((hd.rest x (bX (h7 x hx).1 r.size) λl hl=>(h7 x hx).2 (h1 l x hl)).trans (r.rd x hx)).trans (h9.rd x hx)
   ·have tj:=O.mK p ad tP;have e1:(wf aD).cell? ad=aD.cell? ad:=by unfold c8;rw[hd.rest ad.block (bX (h6 _ tj) r.size) λl hl=>h5 _ (h1 l _ hl) tj]
    exact(e1.trans (r.cell p ad (h3▸hp) tP)).trans (h9.cell p ad hp tP)
   ·have e1:fz (wf aD) x=fz aD x:=by unfold fz;rw[hd.rest x (bX (h6 _ hx) r.size) λl hl=>h5 _ (h1 l _ hl) hx]
    exact(e1.trans (r.pay x hx)).trans (h9.pay x hx)
   ·obtain⟨st,sm,OH⟩:=r.live (h9.live hl);refine⟨st,sm,(hd.rest φ.Wg (by have:=h9.size;have:=r.size;omega) λl hl=> ?_).trans OH⟩;rcases QN _ (h1 l _ hl)with h|⟨h,_⟩
    ·exact hWg.2 h
    ·omega
end
end Rel
namespace Rel
open Go.Conc Go.ConcN
abbrev vN (P:aS)(c:fR)(Post:aq->ah->Prop)(N1:Nat)(cs:List bm)(g:ay)(w:ah):Prop:=EY P c Post N1 cs w.heap.size g w
section
variable {P:aS} {c:fR} {Post:aq->ah->Prop} {N1:Nat} {uV cs:List bm} {w w':ah} {b:bm} {a:Act} {k:List Item} {ops:Array Oper} {i:Nat} {rest:List Nat} {o:Oper} {x y:Code} {cd:cw} {id:Nat}
theorem ql {g g':ay}(hr:g.status=.running)(gI: ∀w,stepG P aA g w=.go g' w #[])(h:vN P c Post N1 uV g' w):vN P c Post N1 uV g w:=EY.ctl hr gI (az _) h
theorem aiP (h:vN P c Post N1 uV (G (b.at a (.code x::.code y::k)) cs) w):vN P c Post N1 uV (G (b.at a (.code (.seq x y)::k)) cs) w:=ql rfl (λ_=>stepG_seq) h
theorem aaB (h:vN P c Post N1 uV (G (b.at a k) cs) w):vN P c Post N1 uV (G (b.at a (.code .skip::k)) cs) w:=ql rfl (λ_=>stepG_skip) h
theorem Ll (h:vN P c Post N1 uV (G (b.at a (.code x::.inBlock id::k)) cs) w):vN P c Post N1 uV (G (b.at a (.code (.block id x)::k)) cs) w:=ql rfl (λ_=>stepG_block) h
theorem Ou (h:vN P c Post N1 uV (G (b.at a k) cs) w):vN P c Post N1 uV (G (b.at a (.inBlock id::k)) cs) w:=ql rfl (λ_=>stepG_inBlock) h
theorem aaA (h:vN P c Post N1 uV (G (b.at a (.code x::.inLoop x::k)) cs) w):vN P c Post N1 uV (G (b.at a (.code (.loop x)::k)) cs) w:=ql rfl (λ_=>stepG_loop) h
theorem SM (h:vN P c Post N1 uV (G (b.at a (.code x::.inLoop x::k)) cs) w):vN P c Post N1 uV (G (b.at a (.inLoop x::k)) cs) w:=ql rfl (λ_=>stepG_inLoop) h
theorem kP (h:vN P c Post N1 uV (G (b.at a (.inRegion ops (aG ops.size)::k)) cs) w):vN P c Post N1 uV (G (b.at a (.code (.region id ops aw)::k)) cs) w:=ql rfl (λ_=>stepG_region) h
theorem tJ (h:vN P c Post N1 uV (G (b.at a k) cs) w):vN P c Post N1 uV (G (b.at a (.inRegion ops []::k)) cs) w:=ql rfl (λ_=>stepG_region_end) h
theorem Wx (hc:a.eval cd=.bool aA)(h:vN P c Post N1 uV (G (b.at a (.code x::k)) cs) w):vN P c Post N1 uV (G (b.at a (.code (.cond cd x y)::k)) cs) w:=ql rfl (λ_=>stepG_cond hc) h
theorem Ww (hc:a.eval cd=.bool aw)(h:vN P c Post N1 uV (G (b.at a (.code y::k)) cs) w):vN P c Post N1 uV (G (b.at a (.code (.cond cd x y)::k)) cs) w:=ql rfl (λ_=>stepG_cond hc) h
theorem aaz {k':List Item}(he:exitTo id k=ae k')(h:vN P c Post N1 uV (G (b.at a k') cs) w):vN P c Post N1 uV (G (b.at a (.code (.exit id)::k)) cs) w:=ql rfl (λ_=>stepG_exit he) h
theorem Gq (v:aq)(ho:ops[i]? =ae o)(hw:bu o (yielded ops a.tmps)=aA)(hb:b.kind≠ .early)(hold: ∀b,b<N1->w'.heap[b]? =w.heap[b]?)(km:w.heap.size<=w'.heap.size)(cG: ∀tp d,(execOp a.eval o).run P (dB w tp d)=.ok (.value v) (dB w' tp d))(jq: ∀tp d,∀e∈(execOp a.eval o).events P (dB w tp d) #[],EvN N1 w'.heap.size e)(h:vN P c Post N1 uV (G (b.at (a.put o.dst v) (.inRegion ops rest::k)) cs) w'):vN P c Post N1 uV (G (b.at a (.inRegion ops (i::rest)::k)) cs) w:=EY.step rfl (λtp d=>⟨_,stepG_value ho hw hb (cG tp d),λe he=>jq tp d e (j5 _ _ e he)⟩) hold km km (az _) h
theorem adl (ho:ops[i]? =ae o)(hw:bu o (yielded ops a.tmps)=aA)(hb:b.kind≠ .early)(hold: ∀b,b<N1->w'.heap[b]? =w.heap[b]?)(km:w.heap.size<=w'.heap.size)(cG: ∀tp d,(execOp a.eval o).run P (dB w tp d)=.ok .skip (dB w' tp d))(jq: ∀tp d,∀e∈(execOp a.eval o).events P (dB w tp d) #[],EvN N1 w'.heap.size e)(h:vN P c Post N1 uV (G (b.at (a.put o.dst undef) (.inRegion ops rest::k)) cs) w'):vN P c Post N1 uV (G (b.at a (.inRegion ops (i::rest)::k)) cs) w:=EY.step rfl (λtp d=>⟨_,stepG_none ho hw hb (cG tp d),λe he=>jq tp d e (j5 _ _ e he)⟩) hold km km (az _) h
theorem oi (v:aq)(ho:ops[i]? =ae o)(hw:bu o (yielded ops a.tmps)=aA)(hb:b.kind≠ .early)(cG: ∀w,(execOp a.eval o).run P w=.ok (.value v) w)(jq: ∀w,(execOp a.eval o).events P w #[]= #[])(h:vN P c Post N1 uV (G (b.at (a.put o.dst v) (.inRegion ops rest::k)) cs) w):vN P c Post N1 uV (G (b.at a (.inRegion ops (i::rest)::k)) cs) w:=Gq v ho hw hb (λ_ _=>rfl) (az _) (λ_ _=>cG _) (λtp d e he=>by rw[jq]at he;simp at he) h
theorem CZ {B:Nat}{ad:Addr}{wr:Bool}(h1:N1<=ad.block)(h2:ad.block<B):EvN N1 B ⟨.cell ad,wr,aw⟩:=⟨by simp,λx hx=>by rw[ofEvent_cell0]at hx;simp only[r6,dz]at hx;subst hx;exact⟨ad.block,rfl,h1,h2⟩⟩
end
end Rel
namespace Rel
open Go.Conc Go.ConcN
open Go.ConcR (KK WgAt rd wr Payload DC0 stA smA Bk)
def Plain (S:jy)(v:aq):Prop:=AH S v/\ ∀π v',bx S π v v'->v'=v
theorem Dz {S:jy}(xs:Array aq)(h: ∀x∈xs,∃k n,x=.int k n):Plain S (.agg xs):=by
 refine⟨λπ=>.agg rfl λi a b ha hb=> ?_,λπ v' hv=> ?_⟩
 ·rw[ha]at hb;obtain rfl:=aY hb;obtain⟨k,n,rfl⟩:=h a (th ha);exact .int k n
 ·cases hv with
  |agg s hh=>
   rename_i x'
   congr 1;refine uS s.symm λi a b ha hb=> ?_
   have:=hh i b a hb ha;obtain⟨k,n,rfl⟩:=h b (th hb);cases this
   rfl
section
variable [Payload] {φ:Ph} {γ:Gh} {w:ah} {b:bm} {a:Act} {k:List Item} {cs:List bm} {ops:Array Oper} {i:Nat} {rest:List Nat} {o:Oper}
end
end Rel
namespace Rel
open Go.Conc Go.ConcN
section
variable {P:aS} {c:fR} {Post:aq->ah->Prop} {N1 Bm:Nat} {cs:List bm} {w:ah}
theorem adn {g:ay}(mZ: ∀π,(∀fr∈cs,CF c π fr)-> ∀fr∈g.frame::g.callers,CF c π fr)(k:CY P c Post g w):EY P c Post N1 cs Bm g w:=by intro tp d π gs sl q t Shun B hB h;exact k tp d π gs sl q t Shun B ⟨h.sub,h.hp,h.RY,h.le,h.co,h.g0,h.old⟩ (mZ π h.fr)
def grow (π:Ren)(V:Nat->Prop):Ren:=λl r=>l=r/\(π l r\/V l)
def only (V:Nat->Prop):Ren:=λl r=>l=r/\V l
theorem WY (π:Ren)(V:Nat->Prop):Sub (grow π V):=λ_ _ h=>h.1
theorem I3 {π:Ren}{V:Nat->Prop}:Ren.Ok P (grow π V):=⟨λ_ _ _ h k=>h.1.symm.trans k.1,λ_ _ _ h k=>h.1.trans k.1.symm,λ_ _ h=>by rw[h.1]⟩
theorem Lz {π:Ren}{V:Nat->Prop}(s:Sub π):Ext P π (grow π V):=⟨λ_ _ h=>⟨s _ _ h,.inl h⟩,I3⟩
theorem Yd {π:Ren}{V:Nat->Prop}:Ext P (only V) (grow π V):=⟨λ_ _ h=>⟨h.1,.inr h.2⟩,I3⟩
theorem ck.grown {S:jy}{π:Ren}{V CB:Nat->Prop}{w w':ah}(s:Sub π)(h:ck P S π w w)(km:w.heap.size<=w'.heap.size)(hk: ∀b,π b b-> ¬CB b->w'.heap[b]? =w.heap[b]?)(hV: ∀b,CB b\/V b-> ∃o,w'.heap[b]? =ae o/\ku S (only V) o o)(ho: ∀a x,S.mem a=ae x-> ¬V a.block/\w'.heap[a.block]? =w.heap[a.block]?):ck P S (grow π V) w' w':=by
 refine⟨I3,λl r x=> ?_,bP h.ox km,bP h.ox km,λa x hx=> ?_⟩
 rotate_left
 ·obtain⟨g1,g2,g3,g4⟩:=h.old a x hx;obtain⟨v1,v2⟩:=ho a x hx;refine⟨λr hr=> ?_,λl hl=> ?_,(og v2).trans g3,(og v2).trans g4⟩
  ·obtain⟨rfl,hr⟩:=hr;exact hr.elim (g1 _) v1
  ·obtain⟨rfl,hr⟩:=hl;exact hr.elim (g1 _) v1
 obtain⟨rfl,hx⟩:=x;by_cases hc:CB l\/V l
 ·obtain⟨o,h1,h2⟩:=hV l hc;exact⟨o,o,h1,h1,h2.mono (P:=P) Yd⟩
 ·have hb:π l l:=hx.resolve_right λh=>hc (.inr h)
  obtain⟨o,o',h1,h2,h3⟩:=h.obj _ _ hb;have e:=hk l hb λh=>hc (.inl h)
  exact⟨o,o',e.trans h1,e.trans h2,h3.mono (Lz (P:=P) s)⟩
end
end Rel
namespace Rel
open Go.Conc
section
variable {c d:fR}
theorem Js (h1:c.fn=d.fn)(h2:c.int=d.int)(h3:c.bad=d.bad)(h4:c.kc=d.kc)(h5:c.bd=d.bd)(h6:c.kd=d.kd)(h7:c.elem=d.elem):kz c=kz d:=by
 have hd:eA c=eA d:=funext λo=>by cases o<;>simp[eA,h1,h3]
 have ha:uq c=uq d:=funext λf=>funext λj=>funext λx=>by unfold uq;rw[hd,h3,h4,h5,h6]
 have hs: ∀f l j,kY c f j l=kY d f j l:=λf l=>by
  induction l with
  |nil=>intro j;rfl
  |cons x l ih=>intro j;unfold kY;rw[ih,ha]
 have hk:o8 c=o8 d:=funext λk=>by unfold o8;rw[hd,h1];simp only[hs]
 have ho:qF c=qF d:=funext λo=>by unfold qF;rw[hd,hk,h1,h2]
 have ahy:CX c=CX d:=funext λo=>funext λk=>by unfold CX;rw[h3,h4]
 have hr:BU c=BU d:=funext λo=>by unfold BU;rw[hd,h3,h4,h7,ahy]
 exact funext λo=>by unfold kz;rw[ho,hr]
theorem Jr (h1:c.fn=d.fn)(h2:c.int=d.int)(h3:c.bad=d.bad)(h4:c.kc=d.kc)(h5:c.bd=d.bd)(h6:c.kd=d.kd)(h7:c.elem=d.elem): ∀x:Code,dm c x=dm d x:=by
 have hd:eA c=eA d:=funext λo=>by cases o<;>simp[eA,h1,h3]
 have ho:=Js h1 h2 h3 h4 h5 h6 h7;intro x
 induction x with
 |region id ops d=>simp only[dm,ho]
 |seq a b L8 L9=>simp only[dm,L8,L9]
 |cond o a b L8 L9=>simp only[dm,L8,L9,hd]
 |block i b ih=>simp only[dm,ih]
 |loop b ih=>simp only[dm,ih]
 |scope b ih=>simp only[dm,ih]
 |rangeFunc f p a b L8 L9=>simp only[dm,L8,L9,hd,h3]
 |_=>rfl
theorem MD (hc:c.bad=[])(hd:eA c=eA d)(hb:d.bad=[])(f:bQ): ∀(l:List cw) (j:Nat),kY c f j l=kY d f j l:=by
 intro l
 induction l with
 |nil=>intro j;rfl
 |cons x l ih=>intro j;unfold kY;rw[ih];congr 1;unfold uq;rw[hd];cases x<;>simp[hc,hb]
theorem Bl (hc:c.bad=[])(hb:d.bad=[])(h1:c.fn=d.fn)(h2:c.int=d.int): ∀x:Code,dm c x=dm d x:=by
 have hd:eA c=eA d:=funext λo=>by cases o<;>simp[eA,h1,hc,hb]
 have hs:=MD hc hd hb;have hk:o8 c=o8 d:=funext λk=>by unfold o8;rw[hd,h1];simp only[hs]
 have ho:kz c=kz d:=funext λo=>by unfold kz;rw[y9 hc,y9 hb];congr 1;unfold qF;rw[hd,hk,h1,h2]
 intro x
 induction x with
 |region id ops d=>simp only[dm,ho]
 |seq a b L8 L9=>simp only[dm,L8,L9]
 |cond o a b L8 L9=>simp only[dm,L8,L9,hd]
 |block i b ih=>simp only[dm,ih]
 |loop b ih=>simp only[dm,ih]
 |scope b ih=>simp only[dm,ih]
 |rangeFunc f p a b L8 L9=>simp only[dm,L8,L9,hd,hc,hb]
 |_=>rfl
end
section
variable {S S':jy} {π:Ren}
theorem UN.sig (h: ∀f,S.fn f->S'.fn f): ∀{a b:Fn},UN S π a b->UN S' π a b
 |_,_,.func s=>.func (h _ s)
 |_,_,.yield x=>.yield x
theorem bx.sig (h: ∀f,S.fn f->S'.fn f){v v':aq}(x:bx S π v v'):bx S' π v v':=by
 induction x with
 |bool=>exact .bool _
 |int=>exact .int _ _
 |string=>exact .string _
 |fE=>exact .fE
 |pointer x=>exact .pointer x
 |j6=>exact .j6 _ _
 |slice l c x=>exact .slice _ _ x
 |xN=>exact .xN
 |map x=>exact .map x
 |uT=>exact .uT
 |func f s1 _ s2 _ i1 i2=>exact .func (f.sig h) s1 i1 s2 i2
 |nilFunc=>exact .nilFunc
 |iface t _ i=>exact .iface _ i
 |nilIface=>exact .nilIface
 |agg s _ i=>exact .agg s i
 |tuple s _ i=>exact .tuple s i
theorem ku.sig (h: ∀f,S.fn f->S'.fn f)(hk: ∀x,S.code x->S'.code x): ∀{o o':Obj},ku S π o o'->ku S' π o o'
 |_,_,.loop x=>.loop ⟨x.state,x.pending,λc hc=>hk _ (x.okP c hc),x.fn,iL.mono x.tmps λ_ _ y=>bx.sig h y,x.params,x.assign,hk _ x.okA,x.body,hk _ x.okB,x.defers⟩
 |_,_,.number l x=>.number l x
 |_,_,.deferred b=>.deferred b
 |_,_,.cells t fr x=>.cells t fr (iL.mono x λ_ _ y=>bx.sig h y)
 |_,_,.map k x=>.map k ⟨x.size,λi a b ha hb=>⟨(x.at_ i a b ha hb).key.sig h,(x.at_ i a b ha hb).val.sig h,(x.at_ i a b ha hb).born⟩⟩
 |_,_,.stringIter s p=>.stringIter s p
 |_,_,.mapIter a b c x=>.mapIter a b c x
end
end Rel
namespace Rel
open Go.Conc Go.ConcN Go.RowKit Go.Conc.Lib
open Go.ConcR (KK WgAt rd wr mk Payload DC0 stA smA wgBlock Aside2)
section
variable [Payload] {φ:Ph} {μ:Nat->Prop} {Stop:ay->ah->Prop} {m:Nat} {w:ah}
theorem X6 {φ:Ph}{μ:Nat->Prop}: ∀x y z,φ.MR μ x y->φ.MR μ y z->φ.MR μ x z:=λ_ _ _ h k=>h.trans k
theorem yw {w:ah}{es:Array Event}(h: ∀e∈es,False):φ.DM μ w w es:=⟨rfl,λe he=>(h e he).elim⟩
theorem Wo (φ:Ph)(μ:Nat->Prop)(w:ah):φ.DM μ w w #[]:=yw (by simp)
theorem QA {w:ah}{m:Mark}(a:Addr)(h:a.block=φ.Wg)(hm:m=.read a\/m=.write a):φ.DM μ w w #[⟨.mark m,aw,aA⟩]:=⟨rfl,λe he=>by rw[Array.mem_singleton]at he;subst he;exact .inr (.inl ⟨a,h,hm.imp (by rintro rfl;rfl) (by rintro rfl;rfl)⟩)⟩
theorem gJ {F:ah->Prop}(wY: ∀w w',φ.MR μ w w'->F w->F w'){w aD:ah}(h:F w/\WgLive φ.ty φ.Wg w)(r:φ.MR μ w aD):F aD/\WgLive φ.ty φ.Wg aD:=⟨wY _ _ r h.1,r.live h.2⟩
theorem Cf {g:ay}(hr:g.status=.running){g':ay}(gI: ∀w,∀K:ay->ah->Array Event->Prop,K g' w #[]->(stepG φ.P aA g w).goes K)(k:φ.GP μ Stop m g' w):φ.GP μ Stop (m+1) g w:=Goes.step hr λaD dh=>gI aD _ ⟨Wo φ μ _,Goes.rely X6 k dh⟩
theorem lZ {g g':ay}(hr:g.status=.running)(gI: ∀w,stepG φ.P aA g w=.go g' w #[])(k:φ.GP μ Stop m g' w):φ.GP μ Stop (m+1) g w:=Cf hr (λw K hK=>by rw[gI w];exact hK) k
section
variable {b:bm} {a:Act} {k:List Item} {cs:List bm} {ops:Array Oper} {i:Nat} {rest:List Nat} {o:Oper}
theorem cx {x y:Code}(h:φ.GP μ Stop m (G (b.at a (.code x::.code y::k)) cs) w):φ.GP μ Stop (m+1) (G (b.at a (.code (.seq x y)::k)) cs) w:=lZ rfl (λ_=>stepG_seq) h
theorem ky (h:φ.GP μ Stop m (G (b.at a k) cs) w):φ.GP μ Stop (m+1) (G (b.at a (.code .skip::k)) cs) w:=lZ rfl (λ_=>stepG_skip) h
theorem yH {id:Nat}{c:Code}(h:φ.GP μ Stop m (G (b.at a (.code c::.inBlock id::k)) cs) w):φ.GP μ Stop (m+1) (G (b.at a (.code (.block id c)::k)) cs) w:=lZ rfl (λ_=>stepG_block) h
theorem C6 {id:Nat}(h:φ.GP μ Stop m (G (b.at a k) cs) w):φ.GP μ Stop (m+1) (G (b.at a (.inBlock id::k)) cs) w:=lZ rfl (λ_=>stepG_inBlock) h
theorem QL {c:Code}(h:φ.GP μ Stop m (G (b.at a (.code c::.inLoop c::k)) cs) w):φ.GP μ Stop (m+1) (G (b.at a (.code (.loop c)::k)) cs) w:=lZ rfl (λ_=>stepG_loop) h
theorem GD {c:Code}(h:φ.GP μ Stop m (G (b.at a (.code c::.inLoop c::k)) cs) w):φ.GP μ Stop (m+1) (G (b.at a (.inLoop c::k)) cs) w:=lZ rfl (λ_=>stepG_inLoop) h
theorem bD {id:Nat}{ops:Array Oper}{l:List Nat}(hl:aG ops.size=l)(h:φ.GP μ Stop m (G (b.at a (.inRegion ops l::k)) cs) w):φ.GP μ Stop (m+1) (G (b.at a (.code (.region id ops aw)::k)) cs) w:=by subst hl;exact lZ rfl (λ_=>stepG_region) h
theorem aiK {id:Nat}{ops:Array Oper}{l:List Nat}(h:φ.GP μ Stop m (G (b.at a (.inRegion ops l::k)) cs) w)(hl:aG ops.size=l:=by simp only[au,aj,ax,Nat.reduceAdd,aC,aG,aB];rfl):φ.GP μ Stop (m+1) (G (b.at a (.code (.region id ops aw)::k)) cs) w:=bD hl h
theorem db {ops:Array Oper}(h:φ.GP μ Stop m (G (b.at a k) cs) w):φ.GP μ Stop (m+1) (G (b.at a (.inRegion ops []::k)) cs) w:=lZ rfl (λ_=>stepG_region_end) h
theorem QJ {c:cw}{x y:Code}(t:Bool)(hc:a.eval c=.bool t)(h:φ.GP μ Stop m (G (b.at a (.code (if t then x else y)::k)) cs) w):φ.GP μ Stop (m+1) (G (b.at a (.code (.cond c x y)::k)) cs) w:=lZ rfl (λ_=>stepG_cond hc) h
theorem kJ {c:cw}{x y:Code}(hc:a.eval c=.bool aA)(h:φ.GP μ Stop m (G (b.at a (.code x::k)) cs) w):φ.GP μ Stop (m+1) (G (b.at a (.code (.cond c x y)::k)) cs) w:=QJ aA hc h
theorem iZ {c:cw}{x y:Code}(hc:a.eval c=.bool aw)(h:φ.GP μ Stop m (G (b.at a (.code y::k)) cs) w):φ.GP μ Stop (m+1) (G (b.at a (.code (.cond c x y)::k)) cs) w:=QJ aw hc h
theorem QK {id:Nat}{k':List Item}(he:exitTo id k=ae k')(h:φ.GP μ Stop m (G (b.at a k') cs) w):φ.GP μ Stop (m+1) (G (b.at a (.code (.exit id)::k)) cs) w:=lZ rfl (λ_=>stepG_exit he) h
theorem qo (h:φ.GP μ Stop m (G {b.at a (.code .ret::k)with mode:=.returning} cs) w):φ.GP μ Stop (m+1) (G (b.at a (.code .ret::k)) cs) w:=lZ rfl (λ_=>stepG_ret') h
theorem aaJ (h:φ.GP μ Stop m (G {b.at a []with mode:=.returning} cs) w):φ.GP μ Stop (m+1) (G (b.at a []) cs) w:=lZ rfl (λ_=>stepG_end) h
theorem iB (ho:ops[i]? =ae o)(hw:bu o (yielded ops a.tmps)=aw)(h:φ.GP μ Stop m (G (b.at (a.put o.dst undef) (.inRegion ops rest::k)) cs) w):φ.GP μ Stop (m+1) (G (b.at a (.inRegion ops (i::rest)::k)) cs) w:=lZ rfl (λ_=>stepG_unwanted ho hw) h
theorem be (v:aq)(ho:ops[i]? =ae o)(hw:bu o (yielded ops a.tmps)=aA)(hb:b.kind≠ .early)(cG: ∀aD,φ.MR μ w aD->(execOp a.eval o).run φ.P aD=.ok (.value v) aD)(jq: ∀aD,φ.MR μ w aD->(execOp a.eval o).events φ.P aD #[]= #[])(h:φ.GP μ Stop m (G (b.at (a.put o.dst v) (.inRegion ops rest::k)) cs) w):φ.GP μ Stop (m+1) (G (b.at a (.inRegion ops (i::rest)::k)) cs) w:=Goes.step rfl λaD dh=>by rw[stepG_value ho hw hb (cG aD dh)];refine⟨?_,Goes.rely X6 h dh⟩;unfold listed;rw[jq aD dh,seen_none];exact Wo φ μ _
theorem ahd (v:aq)(h:φ.GP μ Stop m (G (b.at (a.put o.dst v) (.inRegion ops rest::k)) cs) w)(ho:ops[i]? =ae o:=by rfl)(hw:bu o (yielded ops a.tmps)=aA:=by rfl)(hb:b.kind≠ .early:=by k_ne)(cG: ∀aD,φ.MR μ w aD->(execOp a.eval o).run φ.P aD=.ok (.value v) aD:=by intro _ _;go_simp<;>rfl)(jq: ∀aD,φ.MR μ w aD->(execOp a.eval o).events φ.P aD #[]= #[]:=by intro _ _;simp[go_sem, *]):φ.GP μ Stop (m+1) (G (b.at a (.inRegion ops (i::rest)::k)) cs) w:=be v ho hw hb cG jq h
theorem aaK (v:aq)(ho:ops[i]? =ae o)(hw:bu o (yielded ops a.tmps)=aA)(hb:b.kind≠ .early)(cG: ∀aD,φ.MR μ w aD->(execOp a.eval o).run φ.P aD=.ok (.value v) aD)(jq: ∀aD,φ.MR μ w aD-> ∀e∈(execOp a.eval o).events φ.P aD #[],φ.EvM μ e)(h:φ.GP μ Stop m (G (b.at (a.put o.dst v) (.inRegion ops rest::k)) cs) w):φ.GP μ Stop (m+1) (G (b.at a (.inRegion ops (i::rest)::k)) cs) w:=Goes.step rfl λaD dh=>by rw[stepG_value ho hw hb (cG aD dh)];exact⟨⟨rfl,λe he=>jq aD dh e (j5 _ _ e he)⟩,Goes.rely X6 h dh⟩
theorem WR {f:bQ}{aS0:Array cw}{tE:Array aF}(ho:ops[i]? =ae o)(hw:bu o (yielded ops a.tmps)=aA)(hk:b.kind≠ .early)(hop:o.op=.defer {callee:=.value (.func f),args:=aS0,argTypes:=tE})(h:φ.GP μ Stop m (G (b.at (Act.put ⟨a.tmps,dcall f (aS0.map a.eval)::a.defers⟩ o.dst undef) (.inRegion ops rest::k)) cs) w):φ.GP μ Stop (m+1) (G (b.at a (.inRegion ops (i::rest)::k)) cs) w:=lZ rfl (λ_=>stepG_defer ho hw hk hop) h
theorem pG {f:bQ}{fn:Func}{c:Code}{args:Array cw}{tE:Array aF}(ho:ops[i]? =ae o)(hw:bu o (yielded ops a.tmps)=aA)(hk:b.kind≠ .early)(hop:o.op=.call {callee:=.value (.func f),args,argTypes:=tE})(hf:φ.P.funcs[f]? =ae fn)(hU:(fn.name== "runtime.NumGoroutine")=aw)(hb:fn.body=ae c)(h:φ.GP μ Stop m (G ((base f).at {tmps:=args.map a.eval++eh (fn.ntmps-(args.map a.eval).size) undef,defers:=[]} [.code c]) (b.at a (.inRegion ops (i::rest)::k)::cs)) w):φ.GP μ Stop (m+1) (G (b.at a (.inRegion ops (i::rest)::k)) cs) w:=Cf rfl (λ_ _ hK=>goes_call ho hw hk hop hf hU hb hK) h
variable {fn:Func} {todo:List Item} {b₀:bm} {a₀:Act}
theorem sG (hn:b.kind=.normal)(hd:a.defers=[])(hf:φ.P.funcs[b.fn]? =ae fn)(hr:fn.results= #[])(h:φ.GP μ Stop m (G (b₀.at (a₀.put ((ops[i]?).bind (·.dst)) (.tuple #[])) (.inRegion ops rest::k)) cs) w):φ.GP μ Stop (m+1) (G {b.at a todo with mode:=.returning} (b₀.at a₀ (.inRegion ops (i::rest)::k)::cs)) w:=Cf rfl (λ_ _ hK=>goes_leave0 hn hd hf hr hK) h
theorem mR {t:Tmp}(hn:b.kind=.normal)(hd:a.defers=[])(hf:φ.P.funcs[b.fn]? =ae fn)(hr:fn.results= #[.tmp t])(h:φ.GP μ Stop m (G (b₀.at (a₀.put ((ops[i]?).bind (·.dst)) (a.tmps.getD t undef)) (.inRegion ops rest::k)) cs) w):φ.GP μ Stop (m+1) (G {b.at a todo with mode:=.returning} (b₀.at a₀ (.inRegion ops (i::rest)::k)::cs)) w:=Cf rfl (λ_ _ hK=>goes_leave1 hn hd hf hr hK) h
end
end
end Rel
namespace Rel
open Go.Conc Go.ConcN Go.RowKit Go.Conc.Lib Go.ConcR.Gen Go.ConcN.Gen
open Go.ConcR (KK WgAt rd wr mk Payload DC0 stA smA wgBlock Aside2)
section
variable [Payload] {φ:Ph} {L:WgLink} {μ:Nat->Prop}
theorem aak {F:ah->Prop}{Next:(Nat->Prop)->ay->ah->Prop}{b₀:bm}{a₀:Act}{ops₀:Array Oper}{i₀:Nat}{rest₀:List Nat}{k₀:List Item}{cs:List bm}{mT:Nat}(H:WgLib φ.P L)(FK:φ.ty=L.tWg)(wY: ∀w w',φ.MR μ w w'->F w->F w')(hF3: ∀w v,F w->F (w.setCell (stA φ.Wg) v))(hT: ∀w,F w->WgLive φ.ty φ.Wg w->φ.GP μ (φ.AtGoS Next μ) mT (G (b₀.at (a₀.put ((ops₀[i₀]?).bind (·.dst)) (.tuple #[])) (.inRegion ops₀ rest₀::k₀)) cs) w)(w:ah)(hF:F w/\WgLive φ.ty φ.Wg w):φ.GP μ (φ.AtKdS Next μ) 100 (G ((base L.add).at ⟨#[.pointer (ae ⟨φ.Wg,0,ai⟩),.int .i64 1]++eh 115 undef,[]⟩ [.code (body_add L)]) (b₀.at a₀ (.inRegion ops₀ (i₀::rest₀)::k₀)::cs)) w:=by
 lib_facts
 simp only[body_add,addFn,bI,dR,dS,eX,ec,cL,dJ];refine cx ?_;refine kJ (by first|rfl|(simp[bV];done)|(simp[bV];omega)) ?_;refine cx ?_;refine cx ?_;refine aiK ?_;refine ahd _ ?_;walk_nrm
 try w_num
 refine ahd _ ?_;walk_nrm
 try w_num
 refine db ?_;refine iZ (by first|rfl|(simp[bV];done)|(simp[bV];omega)) ?_;refine ky ?_;refine cx ?_;refine aiK ?_;refine Goes.stop (λaD dh=> ?_)
 replace hF:=gJ wY hF dh
 clear dh;refine⟨rfl,_,stepG_mark0 .disable (by simp) rfl rfl (by k_ne) rfl H.f_disable (x_disable_n L) (x_disable_b L) (x_disable_x L) (x_disable_f L),100,?_⟩;walk_nrm;refine db ?_;refine aiK ?_;refine WR rfl rfl (by k_ne) rfl ?_;walk_nrm;refine db ?_;refine cx ?_;refine aiK ?_;refine ahd _ ?_;walk_nrm
 try w_num
 refine db ?_;refine cx ?_;refine cx ?_;refine aiK ?_;refine lZ rfl (λ_=>stepG_entry_pure (.bool aw) rfl rfl (by k_ne) rfl H.f_inBubble (x_inBubble_n L) (x_inBubble_b L) (x_inBubble_x L) (x_inBubble_f L)) ?_;walk_nrm;refine db ?_;refine iZ (by first|rfl|(simp[bV];done)|(simp[bV];omega)) ?_;refine ky ?_;refine cx ?_;refine aiK ?_;refine ahd _ ?_;walk_nrm
 try w_num
 refine ahd _ ?_;walk_nrm
 try w_num
 refine ahd _ ?_;walk_nrm
 try w_num
 refine ahd _ ?_;walk_nrm
 try w_num
 refine ahd _ ?_;walk_nrm
 try w_num
 refine ahd _ ?_;walk_nrm
 try w_num
 refine pG rfl rfl (by k_ne) rfl H.f_uAdd (nm_uAdd L) rfl ?_
 walk_nrmf uAddFn
 refine cx ?_;refine aiK ?_;refine ahd _ ?_;walk_nrm
 try w_num
 refine db ?_;refine cx ?_;refine aiK ?_;refine ahd _ ?_;walk_nrm
 try w_num
 refine ahd _ ?_;walk_nrm
 try w_num
 refine ahd _ ?_;walk_nrm
 try w_num
 refine ahd _ ?_;walk_nrm
 try w_num
 refine Goes.stop (λe8 tT=> ?_)
 replace hF:=gJ wY hF tT
 clear tT;refine⟨rfl,λv hv hw=> ?_⟩;obtain⟨V,hV⟩: ∃V:Int,V=(v:Int)+1:=⟨_,rfl⟩;obtain⟨S,hS⟩: ∃S:Int,S=V *KK:=⟨_,rfl⟩;have eS:IntKind.u64.wrap ((v:Int) *KK+4294967296)=S:=by rw[IntKind.wrap_u64,hS,hV];simp only[KK];omega
 rw[<-hV,<-hS];rw[FK]at hw;refine⟨_,(stepG_add_atomic rfl rfl (by k_ne) rfl H.f_addU64 (x_addU64_n L) (x_addU64_b L) (x_addU64_x L) .u64 (x_addU64_f L) rfl rfl hw.cellSt (hw.thaw 0)).trans (by rw[eS];rfl),?_⟩
 replace hF:F (e8.setCell (stA φ.Wg) (.int .u64 S))/\WgLive φ.ty φ.Wg (e8.setCell (stA φ.Wg) (.int .u64 S)):=⟨hF3 _ _ hF.1,⟨_,_,by rw[FK];exact hw.setSt _⟩⟩
 rcases nR v with rfl|hvp
 ·
  have LC:S=4294967296:=by rw[hS,hV];simp[KK]
  subst LC;clear hw hS hV eS;refine⟨200,?_⟩;walk_nrm;refine ahd _ ?_;walk_nrm
  try w_num
  refine db ?_;refine qo ?_;refine mR rfl rfl H.f_uAdd rfl ?_;walk_nrm;refine ahd _ ?_;walk_nrm
  try w_num
  refine db ?_;refine cx ?_;refine cx ?_;refine aiK ?_;refine ahd _ ?_;walk_nrm
  try w_num
  refine ahd _ ?_;walk_nrm
  try w_num
  refine ahd _ ?_;walk_nrm
  try w_num
  refine ahd _ ?_;walk_nrm
  try w_num
  refine iB rfl rfl ?_;walk_nrm;refine iB rfl rfl ?_;walk_nrm;refine ahd _ ?_;walk_nrm
  try w_num
  refine db ?_;refine iZ (by first|rfl|(simp[bV];done)|(simp[bV];omega)) ?_;refine ky ?_;refine cx ?_;refine aiK ?_;refine ahd _ ?_;walk_nrm
  try w_num
  refine ahd _ ?_;walk_nrm
  try w_num
  refine ahd _ ?_;walk_nrm
  try w_num
  refine ahd _ ?_;walk_nrm
  try w_num
  refine db ?_;refine cx ?_;refine aiK ?_;refine ahd _ ?_;walk_nrm
  try w_num
  refine ahd _ ?_;walk_nrm
  try w_num
  refine ahd _ ?_;walk_nrm
  try w_num
  refine ahd _ ?_;walk_nrm
  try w_num
  refine db ?_;refine cx ?_;refine cx ?_;refine aiK ?_;refine ahd _ ?_;walk_nrm
  try w_num
  refine ahd _ ?_;walk_nrm
  try w_num
  refine ahd _ ?_;walk_nrm
  try w_num
  refine ahd _ ?_;walk_nrm
  try w_num
  refine ahd _ ?_;walk_nrm
  try w_num
  refine ahd _ ?_;walk_nrm
  try w_num
  refine ahd _ ?_;walk_nrm
  try w_num
  refine ahd _ ?_;walk_nrm
  try w_num
  refine ahd _ ?_;walk_nrm
  try w_num
  refine ahd _ ?_;walk_nrm
  try w_num
  refine db ?_;refine kJ (by first|rfl|(simp[bV];done)|(simp[bV];omega)) ?_;refine aiK ?_;refine ahd _ ?_;walk_nrm
  try w_num
  refine ahd _ ?_;walk_nrm
  try w_num
  refine ahd _ ?_;walk_nrm
  try w_num
  refine Goes.step rfl (λagJ L5=> ?_)
  replace hF:=gJ wY hF L5
  clear L5;have ji:=(WgLive.cell1 (ty:=L.tWg) (FK▸hF.2)).choose_spec;have cG:=run_convert_to_unsafe (P:=φ.P) H.underlying_tPU32 H.underlying_tUP H.room_tU32 ji;have C':=λes=>events_convert_to_unsafe (P:=φ.P) H.underlying_tPU32 H.underlying_tUP H.room_tU32 ji es
  refine goes_oper_k rfl rfl (by k_ne) (λKx W6=> ?_);go_simp;refine W6 _ _ ⟨yw λe he=>by have hm:=mem_listed he;simp[go_sem,C']at hm,?_⟩;clear W6 Kx cG C' ji;refine Goes.step rfl (λagK L6=> ?_)
  replace hF:=gJ wY hF L6
  clear L6;rw[stepG_markAt .read (by simp) rfl rfl (by k_ne) rfl H.f_raceRead (x_raceRead_n L) (x_raceRead_b L) (x_raceRead_x L) (x_raceRead_f L) (ad:=⟨φ.Wg,1,ai⟩) (by simp[bV])];simp only[goes_go];refine⟨QA _ rfl (.inl rfl),?_⟩;walk_nrm;refine db ?_;refine cx ?_;refine cx ?_;refine aiK ?_;refine ahd _ ?_;walk_nrm
  try w_num
  refine ahd _ ?_;walk_nrm
  try w_num
  refine db ?_;refine iZ (by first|rfl|(simp[bV];done)|(simp[bV];omega)) ?_;refine ky ?_;refine cx ?_;refine cx ?_;refine aiK ?_;refine ahd _ ?_;walk_nrm
  try w_num
  refine ahd _ ?_;walk_nrm
  try w_num
  refine ahd _ ?_;walk_nrm
  try w_num
  refine iB rfl rfl ?_;walk_nrm;refine iB rfl rfl ?_;walk_nrm;refine ahd _ ?_;walk_nrm
  try w_num
  refine ahd _ ?_;walk_nrm
  try w_num
  refine iB rfl rfl ?_;walk_nrm;refine iB rfl rfl ?_;walk_nrm;refine iB rfl rfl ?_;walk_nrm;refine iB rfl rfl ?_;walk_nrm;refine ahd _ ?_;walk_nrm
  try w_num
  refine db ?_;refine iZ (by first|rfl|(simp[bV];done)|(simp[bV];omega)) ?_;refine ky ?_;refine cx ?_;refine cx ?_;refine aiK ?_;refine ahd _ ?_;walk_nrm
  try w_num
  refine ahd _ ?_;walk_nrm
  try w_num
  refine ahd _ ?_;walk_nrm
  try w_num
  refine iB rfl rfl ?_;walk_nrm;refine iB rfl rfl ?_;walk_nrm;refine ahd _ ?_;walk_nrm
  try w_num
  refine db ?_;refine kJ (by first|rfl|(simp[bV];done)|(simp[bV];omega)) ?_;refine qo ?_;refine Goes.stop (λaew FL=> ?_)
  replace hF:=gJ wY hF FL
  clear FL;refine⟨rfl,_,stepG_unwind_entry (v:=.tuple #[]) (evs:= #[ig .enable]) rfl H.f_enable (x_enable_n L) (x_enable_b L) (x_enable_x L) (x_enable_f L) (by simp[Extern.Race.none_]) (by simp[ig]) (by simp[ig]),mT+1,?_⟩;refine sG rfl rfl H.f_add rfl ?_;exact hT _ hF.1 hF.2
 ·
  have a1:S / 4294967296=V:=by rw[hS];simp only[KK];omega
  have b1:bits .and .u64 S 2147483648=0:=by rw[hS,hV];have:=st_flag (v+1) 0 (by omega) (by omega);simpa[KK]using this
  have b2:bits .and .u64 S 2147483647=0:=by rw[hS,hV];have:=st_waiters (v+1) 0 (by omega) (by omega);simpa[KK]using this
  have c1:IntKind.i32.wrap V=V:=by rw[IntKind.wrap_i32];omega
  have hV1:1<V:=by omega
  have hV2:V<2147483648:=by omega
  have q1:(V==1)=aw:=by simp;omega
  have q2:decide (V=1)=aw:=decide_eq_false (by omega);have q3:decide (V<0)=aw:=decide_eq_false (by omega);have q4:decide (0<V)=aA:=decide_eq_true (by omega);have q5:(V==0)=aw:=by simp;omega
  have q6:decide (V=0)=aw:=decide_eq_false (by omega);clear hw hS hV eS;refine⟨200,?_⟩;walk_nrm;refine ahd _ ?_;walk_nrm
  try w_num
  refine db ?_;refine qo ?_;refine mR rfl rfl H.f_uAdd rfl ?_;walk_nrm;refine ahd _ ?_;walk_nrm
  try w_num
  refine db ?_;refine cx ?_;refine cx ?_;refine aiK ?_;refine ahd _ ?_;walk_nrm
  try w_num
  refine ahd _ ?_;walk_nrm
  try w_num
  refine ahd _ ?_;walk_nrm
  try w_num
  refine ahd _ ?_;walk_nrm
  try w_num
  refine iB rfl rfl ?_;walk_nrm;refine iB rfl rfl ?_;walk_nrm;refine ahd _ ?_;walk_nrm
  try w_num
  refine db ?_;refine iZ (by first|rfl|(simp[bV];done)|(simp[bV];omega)) ?_;refine ky ?_;refine cx ?_;refine aiK ?_;refine ahd _ ?_;walk_nrm
  try w_num
  refine ahd _ ?_;walk_nrm
  try w_num
  refine ahd _ ?_;walk_nrm
  try w_num
  refine ahd _ ?_;walk_nrm
  try w_num
  refine db ?_;refine cx ?_;refine aiK ?_;refine ahd _ ?_;walk_nrm
  try w_num
  refine ahd _ ?_;walk_nrm
  try w_num
  refine ahd _ ?_;walk_nrm
  try w_num
  refine ahd _ ?_;walk_nrm
  try w_num
  refine db ?_;refine cx ?_;refine cx ?_;refine aiK ?_;refine ahd _ ?_;walk_nrm
  try w_num
  refine ahd _ ?_;walk_nrm
  try w_num
  refine ahd _ ?_;walk_nrm
  try w_num
  refine ahd _ ?_;walk_nrm
  try w_num
  refine ahd _ ?_;walk_nrm
  try w_num
  refine ahd _ ?_;walk_nrm
  try w_num
  refine ahd _ ?_;walk_nrm
  try w_num
  refine ahd _ ?_;walk_nrm
  try w_num
  refine ahd _ ?_;walk_nrm
  try w_num
  refine ahd _ ?_;walk_nrm
  try w_num
  refine db ?_;refine iZ (by first|rfl|(simp[bV];done)|(simp[bV];omega)) ?_;refine ky ?_;refine cx ?_;refine cx ?_;refine aiK ?_;refine ahd _ ?_;walk_nrm
  try w_num
  refine ahd _ ?_;walk_nrm
  try w_num
  refine db ?_;refine iZ (by first|rfl|(simp[bV];done)|(simp[bV];omega)) ?_;refine ky ?_;refine cx ?_;refine cx ?_;refine aiK ?_;refine ahd _ ?_;walk_nrm
  try w_num
  refine ahd _ ?_;walk_nrm
  try w_num
  refine ahd _ ?_;walk_nrm
  try w_num
  refine iB rfl rfl ?_;walk_nrm;refine iB rfl rfl ?_;walk_nrm;refine ahd _ ?_;walk_nrm
  try w_num
  refine ahd _ ?_;walk_nrm
  try w_num
  refine iB rfl rfl ?_;walk_nrm;refine iB rfl rfl ?_;walk_nrm;refine iB rfl rfl ?_;walk_nrm;refine iB rfl rfl ?_;walk_nrm;refine ahd _ ?_;walk_nrm
  try w_num
  refine db ?_;refine iZ (by first|rfl|(simp[bV];done)|(simp[bV];omega)) ?_;refine ky ?_;refine cx ?_;refine cx ?_;refine aiK ?_;refine ahd _ ?_;walk_nrm
  try w_num
  refine ahd _ ?_;walk_nrm
  try w_num
  refine ahd _ ?_;walk_nrm
  try w_num
  refine iB rfl rfl ?_;walk_nrm;refine iB rfl rfl ?_;walk_nrm;refine ahd _ ?_;walk_nrm
  try w_num
  refine db ?_;refine kJ (by first|rfl|(simp[bV];done)|(simp[bV];omega)) ?_;refine qo ?_;refine Goes.stop (λaew FL=> ?_)
  replace hF:=gJ wY hF FL
  clear FL;refine⟨rfl,_,stepG_unwind_entry (v:=.tuple #[]) (evs:= #[ig .enable]) rfl H.f_enable (x_enable_n L) (x_enable_b L) (x_enable_x L) (x_enable_f L) (by simp[Extern.Race.none_]) (by simp[ig]) (by simp[ig]),mT+1,?_⟩;refine sG rfl rfl H.f_add rfl ?_;exact hT _ hF.1 hF.2
end
end Rel
namespace Rel
open Go.Conc Go.ConcN Go.RowKit Go.Conc.Lib Go.ConcR.Gen Go.ConcN.Gen
open Go.ConcR (KK WgAt rd wr mk Payload DC0 stA smA wgBlock Aside2)
section
variable [Payload] {φ:Ph} {L:WgLink} {μ:Nat->Prop}
def Gc (φ:Ph)(L:WgLink)(F:ah->Prop)(c:bm)(cs:List bm)(g:ay)(w:ah):Prop:= ∃T:Array aq,g=G ((base L.wait).at ⟨T,[]⟩ [.code (L7 L),.inLoop (L7 L),.inBlock 0]) (c::cs)/\T.size=84/\T[0]? =ae (.pointer (ae ⟨φ.Wg,0,ai⟩))/\F w/\WgLive φ.ty φ.Wg w
variable {F:ah->Prop} {Goal:ay->ah->Prop} {b₀:bm} {a₀:Act} {ops₀:Array Oper} {i₀:Nat} {rest₀:List Nat} {k₀:List Item} {cs:List bm} {mT:Nat}
theorem P' (H:WgLib φ.P L)(FK:φ.ty=L.tWg)(wY: ∀w w',φ.MR μ w w'->F w->F w')(hF3: ∀w a v,a.block=φ.Wg->F w->F (w.setCell a v))(hT: ∀w,F w->WgLive φ.ty φ.Wg w->φ.GP μ (Ph.AtRet Goal) mT (G (b₀.at (a₀.put ((ops₀[i₀]?).bind (·.dst)) (.tuple #[])) (.inRegion ops₀ rest₀::k₀)) cs) w)(g:ay)(w:ah)(h:Gc φ L F (b₀.at a₀ (.inRegion ops₀ (i₀::rest₀)::k₀)) cs g w): ∃m,φ.GP μ (φ.AtW1 μ Goal (Gc φ L F (b₀.at a₀ (.inRegion ops₀ (i₀::rest₀)::k₀)) cs)) m g w:=by
 lib_facts
 obtain⟨T,rfl,ahj,t0,hF⟩:=h;obtain⟨v0,v1,v2,v3,v4,v5,v6,v7,v8,v9,v10,v11,v12,v13,v14,v15,v16,v17,v18,v19,v20,v21,v22,v23,v24,v25,v26,v27,v28,v29,v30,v31,v32,v33,v34,v35,v36,v37,v38,v39,v40,v41,v42,v43,v44,v45,v46,v47,v48,v49,v50,v51,v52,v53,v54,v55,v56,v57,v58,v59,v60,v61,v62,v63,v64,v65,v66,v67,v68,v69,v70,v71,v72,v73,v74,v75,v76,v77,v78,v79,v80,v81,v82,v83,rfl⟩:=array84 T ahj;simp only[List.getElem?_toArray,List.getElem?_cons_zero,dz]at t0;subst t0;refine⟨30,?_⟩;simp only[L7,body_wait,waitFn,bI];refine yH ?_;refine cx ?_;refine aiK ?_;refine ahd _ ?_;walk_nrm
 try w_num
 refine ahd _ ?_;walk_nrm
 try w_num
 refine ahd _ ?_;walk_nrm
 try w_num
 refine pG rfl rfl (by k_ne) rfl H.f_uLoad (nm_uLoad L) rfl ?_
 walk_nrmf uLoadFn
 refine cx ?_;refine aiK ?_;refine ahd _ ?_;walk_nrm
 try w_num
 refine db ?_;refine cx ?_;refine aiK ?_;refine ahd _ ?_;walk_nrm
 try w_num
 refine ahd _ ?_;walk_nrm
 try w_num
 refine ahd _ ?_;walk_nrm
 try w_num
 refine Goes.stop (λaD dh=> ?_)
 replace hF:=gJ wY hF dh
 clear dh;refine⟨rfl,λv hv hw=> ?_⟩;rw[FK]at hw;rcases nR v with rfl|hvp
 ·
  replace hw:WgAt L.tWg φ.Wg aD 0 0:=by simpa using hw
  refine⟨_,stepG_load_atomic (v:=0) rfl rfl (by k_ne) rfl H.f_loadU64 (x_loadU64_n L) (x_loadU64_b L) (x_loadU64_x L) .u64 (x_loadU64_f L) rfl hw.cellSt,λ_=>⟨60,?_⟩,λh=>absurd rfl h⟩;clear hw;walk_nrm;refine ahd _ ?_;walk_nrm
  try w_num
  refine db ?_;refine qo ?_;refine mR rfl rfl H.f_uLoad rfl ?_;walk_nrm;refine ahd _ ?_;walk_nrm
  try w_num
  refine db ?_;refine cx ?_;refine aiK ?_;refine ahd _ ?_;walk_nrm
  try w_num
  refine ahd _ ?_;walk_nrm
  try w_num
  refine ahd _ ?_;walk_nrm
  try w_num
  refine ahd _ ?_;walk_nrm
  try w_num
  refine db ?_;refine cx ?_;refine aiK ?_;refine ahd _ ?_;walk_nrm
  try w_num
  refine ahd _ ?_;walk_nrm
  try w_num
  refine ahd _ ?_;walk_nrm
  try w_num
  refine ahd _ ?_;walk_nrm
  try w_num
  refine db ?_;refine cx ?_;refine cx ?_;refine aiK ?_;refine ahd _ ?_;walk_nrm
  try w_num
  refine ahd _ ?_;walk_nrm
  try w_num
  refine db ?_;refine kJ (by first|rfl|(simp[bV];done)|(simp[bV];omega)) ?_;refine cx ?_;refine kJ (by first|rfl|(simp[bV];done)|(simp[bV];omega)) ?_;refine cx ?_;refine aiK ?_;refine Goes.stop (λagJ L5=> ?_)
  replace hF:=gJ wY hF L5
  clear L5;refine⟨rfl,_,stepG_mark0 .enable (by simp) rfl rfl (by k_ne) rfl H.f_enable (x_enable_n L) (x_enable_b L) (x_enable_x L) (x_enable_f L),14,?_⟩;walk_nrm;refine db ?_;refine aiK ?_;refine ahd _ ?_;walk_nrm
  try w_num
  refine Goes.step rfl (λagK L6=> ?_)
  replace hF:=gJ wY hF L6
  clear L6;have ji:=(WgLive.cell0 (ty:=L.tWg) (FK▸hF.2)).choose_spec;have cG:=run_convert_to_unsafe (P:=φ.P) H.underlying_tWgP H.underlying_tUP H.room_tWg ji;have C':=λes=>events_convert_to_unsafe (P:=φ.P) H.underlying_tWgP H.underlying_tUP H.room_tWg ji es
  refine goes_oper_k rfl rfl (by k_ne) (λKx W6=> ?_);go_simp;refine W6 _ _ ⟨yw λe he=>by have hm:=mem_listed he;simp[go_sem,C']at hm,?_⟩;clear W6 Kx cG C' ji;refine Goes.stop (λah3 XI=> ?_)
  replace hF:=gJ wY hF XI
  clear XI;refine⟨rfl,_,stepG_markAt .acquire (by simp) rfl rfl (by k_ne) rfl H.f_acquire (x_acquire_n L) (x_acquire_b L) (x_acquire_x L) (x_acquire_f L) (by simp[bV,stA]),⟨mT+20,?_⟩⟩;walk_nrm;refine db ?_;refine cx ?_;refine cx ?_;refine aiK ?_;refine ahd _ ?_;walk_nrm
  try w_num
  refine ahd _ ?_;walk_nrm
  try w_num
  refine ahd _ ?_;walk_nrm
  try w_num
  refine ahd _ ?_;walk_nrm
  try w_num
  refine ahd _ ?_;walk_nrm
  try w_num
  refine ahd _ ?_;walk_nrm
  try w_num
  refine ahd _ ?_;walk_nrm
  try w_num
  refine ahd _ ?_;walk_nrm
  try w_num
  refine iB rfl rfl ?_;walk_nrm;refine iB rfl rfl ?_;walk_nrm;refine ahd _ ?_;walk_nrm
  try w_num
  refine db ?_;refine iZ (by first|rfl|(simp[bV];done)|(simp[bV];omega)) ?_;refine ky ?_;refine qo ?_;refine sG rfl rfl H.f_wait rfl ?_;exact Goes.mono (hT _ hF.1 hF.2) (by omega)
 ·
  obtain⟨S,hS⟩: ∃S:Int,(v:Int) *KK=S:=⟨_,rfl⟩;have a1:S / 4294967296=(v:Int):=by rw[<-hS];simp only[KK];omega
  have b1:bits .and .u64 S 2147483648=0:=by rw[<-hS];have:=st_flag v 0 (by omega) (by omega);simpa[KK]using this
  have b2:bits .and .u64 S 2147483647=0:=by rw[<-hS];have:=st_waiters v 0 (by omega) (by omega);simpa[KK]using this
  have c1:IntKind.i32.wrap (v:Int)=(v:Int):=by rw[IntKind.wrap_i32];omega
  have w1:IntKind.u64.wrap (S+1)=S+1:=by rw[IntKind.wrap_u64,<-hS];simp only[KK];omega
  have q3:decide ((v:Int)<0)=aw:=decide_eq_false (by omega);have q4:decide (0<(v:Int))=aA:=decide_eq_true (by omega);have q5:((v:Int)==0)=aw:=by simp;omega
  have q6:decide ((v:Int)=0)=aw:=decide_eq_false (by omega);have q7:decide (v=0)=aw:=decide_eq_false (by omega);have q8: ¬v=0:=by omega
  rw[hS]at hw;refine⟨_,stepG_load_atomic (v:=S) rfl rfl (by k_ne) rfl H.f_loadU64 (x_loadU64_n L) (x_loadU64_b L) (x_loadU64_x L) .u64 (x_loadU64_f L) rfl hw.cellSt,λh0=>absurd h0 (by omega),λ_=>⟨60,?_⟩⟩;clear hw;walk_nrm;refine ahd _ ?_;walk_nrm
  try w_num
  refine db ?_;refine qo ?_;refine mR rfl rfl H.f_uLoad rfl ?_;walk_nrm;refine ahd _ ?_;walk_nrm
  try w_num
  refine db ?_;refine cx ?_;refine aiK ?_;refine ahd _ ?_;walk_nrm
  try w_num
  refine ahd _ ?_;walk_nrm
  try w_num
  refine ahd _ ?_;walk_nrm
  try w_num
  refine ahd _ ?_;walk_nrm
  try w_num
  refine db ?_;refine cx ?_;refine aiK ?_;refine ahd _ ?_;walk_nrm
  try w_num
  refine ahd _ ?_;walk_nrm
  try w_num
  refine ahd _ ?_;walk_nrm
  try w_num
  refine ahd _ ?_;walk_nrm
  try w_num
  refine db ?_;refine cx ?_;refine cx ?_;refine aiK ?_;refine ahd _ ?_;walk_nrm
  try w_num
  refine ahd _ ?_;walk_nrm
  try w_num
  refine db ?_;refine iZ (by first|rfl|(simp[bV];done)|(simp[bV];omega)) ?_;refine ky ?_;refine cx ?_;refine aiK ?_;refine ahd _ ?_;walk_nrm
  try w_num
  refine ahd _ ?_;walk_nrm
  try w_num
  refine ahd _ ?_;walk_nrm
  try w_num
  refine ahd _ ?_;walk_nrm
  try w_num
  refine ahd _ ?_;walk_nrm
  try w_num
  refine ahd _ ?_;walk_nrm
  try w_num
  refine pG rfl rfl (by k_ne) rfl H.f_uCas (nm_uCas L) rfl ?_
  walk_nrmf uCasFn
  refine cx ?_;refine aiK ?_;refine ahd _ ?_;walk_nrm
  try w_num
  refine db ?_;refine cx ?_;refine aiK ?_;refine ahd _ ?_;walk_nrm
  try w_num
  refine ahd _ ?_;walk_nrm
  try w_num
  refine ahd _ ?_;walk_nrm
  try w_num
  refine ahd _ ?_;walk_nrm
  try w_num
  refine ahd _ ?_;walk_nrm
  try w_num
  refine Goes.stop (λe8 tT=> ?_)
  replace hF:=gJ wY hF tT
  clear tT;refine⟨rfl,λv' Bb hw=>⟨λe=> ?_,λe=> ?_⟩⟩
  ·
   subst e;rw[FK]at hw;rw[hS]at hw⊢;refine⟨_,(stepG_cas_hit (v:=S) (n:=S+1) rfl rfl (by k_ne) rfl H.f_casU64 (x_casU64_n L) (x_casU64_b L) (x_casU64_x L) .u64 (x_casU64_f L) rfl rfl rfl hw.cellSt (hw.thaw 0)).trans (by rfl),70,?_⟩
   replace hF:F (e8.setCell (stA φ.Wg) (.int .u64 (S+1)))/\WgLive φ.ty φ.Wg (e8.setCell (stA φ.Wg) (.int .u64 (S+1))):=⟨hF3 _ _ _ rfl hF.1,⟨_,_,by rw[FK];exact hw.setSt _⟩⟩
   clear hw;walk_nrm;refine ahd _ ?_;walk_nrm
   try w_num
   refine db ?_;refine qo ?_;refine mR rfl rfl H.f_uCas rfl ?_;walk_nrm;refine db ?_;refine kJ (by first|rfl|(simp[bV];done)|(simp[bV];omega)) ?_;refine cx ?_;refine cx ?_;refine aiK ?_;refine ahd _ ?_;walk_nrm
   try w_num
   refine ahd _ ?_;walk_nrm
   try w_num
   refine ahd _ ?_;walk_nrm
   try w_num
   refine ahd _ ?_;walk_nrm
   try w_num
   refine db ?_;refine kJ (by first|rfl|(simp[bV];done)|(simp[bV];omega)) ?_;refine aiK ?_;refine ahd _ ?_;walk_nrm
   try w_num
   refine ahd _ ?_;walk_nrm
   try w_num
   refine ahd _ ?_;walk_nrm
   try w_num
   refine Goes.step rfl (λaew FL=> ?_)
   replace hF:=gJ wY hF FL
   clear FL;have ji:=(WgLive.cell1 (ty:=L.tWg) (FK▸hF.2)).choose_spec;have cG:=run_convert_to_unsafe (P:=φ.P) H.underlying_tPU32 H.underlying_tUP H.room_tU32 ji;have C':=λes=>events_convert_to_unsafe (P:=φ.P) H.underlying_tPU32 H.underlying_tUP H.room_tU32 ji es
   refine goes_oper_k rfl rfl (by k_ne) (λKx W6=> ?_);go_simp;refine W6 _ _ ⟨yw λe he=>by have hm:=mem_listed he;simp[go_sem,C']at hm,?_⟩;clear W6 Kx cG C' ji;refine Goes.step rfl (λaiH aga=> ?_)
   replace hF:=gJ wY hF aga
   clear aga;rw[stepG_markAt .write (by simp) rfl rfl (by k_ne) rfl H.f_raceWrite (x_raceWrite_n L) (x_raceWrite_b L) (x_raceWrite_x L) (x_raceWrite_f L) (ad:=⟨φ.Wg,1,ai⟩) (by simp[bV])];simp only[goes_go];refine⟨QA _ rfl (.inr rfl),?_⟩;walk_nrm;refine db ?_;refine cx ?_;refine aiK ?_;refine ahd _ ?_;walk_nrm
   try w_num
   refine db ?_;refine cx ?_;refine cx ?_;refine aiK ?_;refine ahd _ ?_;walk_nrm
   try w_num
   refine ahd _ ?_;walk_nrm
   try w_num
   refine ahd _ ?_;walk_nrm
   try w_num
   refine ahd _ ?_;walk_nrm
   try w_num
   refine iB rfl rfl ?_;walk_nrm;refine ahd _ ?_;walk_nrm
   try w_num
   refine db ?_;refine iZ (by first|rfl|(simp[bV];done)|(simp[bV];omega)) ?_;refine ky ?_;refine cx ?_;refine aiK ?_;refine ahd _ ?_;walk_nrm
   try w_num
   refine ahd _ ?_;walk_nrm
   try w_num
   refine ahd _ ?_;walk_nrm
   try w_num
   refine ahd _ ?_;walk_nrm
   try w_num
   refine Goes.stop (λagL agb=> ?_)
   replace hF:=gJ wY hF agb
   clear agb;refine⟨rfl,rfl,λ⟨st,hw⟩=>stepG_semacquire_wait rfl rfl rfl H.f_semacquire (x_semacquire_n L) (x_semacquire_b L) (x_semacquire_x L) (x_semacquire_f L) (by simp[bV,smA]) hw.cellSm,λhf=> ?_⟩;rw[FK]at hf;refine⟨_,(stepG_semacquire (n:=1) rfl rfl (by k_ne) rfl H.f_semacquire (x_semacquire_n L) (x_semacquire_b L) (x_semacquire_x L) (x_semacquire_f L) (by simp[bV,smA]) hf.cellSm (by k_ne) (hf.thaw 1)).trans (by rfl),30,?_⟩
   replace hF:F (agL.setCell (smA φ.Wg) (.int .u32 0))/\WgLive φ.ty φ.Wg (agL.setCell (smA φ.Wg) (.int .u32 0)):=⟨hF3 _ _ _ rfl hF.1,⟨_,_,by rw[FK];exact hf.setSm 0⟩⟩
   clear hf;walk_nrm;refine db ?_;refine cx ?_;refine aiK ?_;refine ahd _ ?_;walk_nrm
   try w_num
   refine ahd _ ?_;walk_nrm
   try w_num
   refine ahd _ ?_;walk_nrm
   try w_num
   refine pG rfl rfl (by k_ne) rfl H.f_uLoad (nm_uLoad L) rfl ?_
   walk_nrmf uLoadFn
   refine cx ?_;refine aiK ?_;refine ahd _ ?_;walk_nrm
   try w_num
   refine db ?_;refine cx ?_;refine aiK ?_;refine ahd _ ?_;walk_nrm
   try w_num
   refine ahd _ ?_;walk_nrm
   try w_num
   refine ahd _ ?_;walk_nrm
   try w_num
   refine Goes.stop (λaiI agc=> ?_)
   replace hF:=gJ wY hF agc
   clear agc;refine⟨rfl,λhw=> ?_⟩;rw[FK]at hw;refine⟨_,stepG_load_atomic (v:=0) rfl rfl (by k_ne) rfl H.f_loadU64 (x_loadU64_n L) (x_loadU64_b L) (x_loadU64_x L) .u64 (x_loadU64_f L) rfl hw.cellSt,30,?_⟩;clear hw;walk_nrm;refine ahd _ ?_;walk_nrm
   try w_num
   refine db ?_;refine qo ?_;refine mR rfl rfl H.f_uLoad rfl ?_;walk_nrm;refine ahd _ ?_;walk_nrm
   try w_num
   refine ahd _ ?_;walk_nrm
   try w_num
   refine db ?_;refine cx ?_;refine kJ (by first|rfl|(simp[bV];done)|(simp[bV];omega)) ?_;refine cx ?_;refine aiK ?_;refine Goes.stop (λagJ L5=> ?_)
   replace hF:=gJ wY hF L5
   clear L5;refine⟨rfl,_,stepG_mark0 .enable (by simp) rfl rfl (by k_ne) rfl H.f_enable (x_enable_n L) (x_enable_b L) (x_enable_x L) (x_enable_f L),14,?_⟩;walk_nrm;refine db ?_;refine aiK ?_;refine ahd _ ?_;walk_nrm
   try w_num
   refine Goes.step rfl (λagK L6=> ?_)
   replace hF:=gJ wY hF L6
   clear L6;have ji:=(WgLive.cell0 (ty:=L.tWg) (FK▸hF.2)).choose_spec;have cG:=run_convert_to_unsafe (P:=φ.P) H.underlying_tWgP H.underlying_tUP H.room_tWg ji;have C':=λes=>events_convert_to_unsafe (P:=φ.P) H.underlying_tWgP H.underlying_tUP H.room_tWg ji es
   refine goes_oper_k rfl rfl (by k_ne) (λKx W6=> ?_);go_simp;refine W6 _ _ ⟨yw λe he=>by have hm:=mem_listed he;simp[go_sem,C']at hm,?_⟩;clear W6 Kx cG C' ji;refine Goes.stop (λah3 XI=> ?_)
   replace hF:=gJ wY hF XI
   clear XI;refine⟨rfl,_,stepG_markAt .acquire (by simp) rfl rfl (by k_ne) rfl H.f_acquire (x_acquire_n L) (x_acquire_b L) (x_acquire_x L) (x_acquire_f L) (by simp[bV,stA]),⟨mT+20,?_⟩⟩;walk_nrm;refine db ?_;refine cx ?_;refine cx ?_;refine aiK ?_;refine ahd _ ?_;walk_nrm
   try w_num
   refine db ?_;refine iZ (by first|rfl|(simp[bV];done)|(simp[bV];omega)) ?_;refine ky ?_;refine qo ?_;refine sG rfl rfl H.f_wait rfl ?_;exact Goes.mono (hT _ hF.1 hF.2) (by omega)
  ·
   rw[FK]at hw;refine⟨_,stepG_cas_miss (v:=(v':Int) *KK) (old:=S) (n:=S+1) rfl rfl (by k_ne) rfl H.f_casU64 (x_casU64_n L) (x_casU64_b L) (x_casU64_x L) .u64 (x_casU64_f L) rfl rfl rfl hw.cellSt (hw.thaw 0) (by rw[<-hS];simp only[KK];omega),20,?_⟩;clear hw;walk_nrm
   repeat(first
    |refine cx ?_
    |refine db ?_
    |(refine bD rfl ?_;simp only[au,aj,ax,Nat.reduceAdd,aC,aG,aB])
    |refine ky ?_
    |refine yH ?_
    |refine C6 ?_
    |refine QL ?_
    |refine qo ?_
    |refine QK rfl ?_
    |(refine pG rfl rfl (by k_ne) rfl H.f_uLoad (nm_uLoad L) rfl ?_;walk_nrmf uLoadFn)
    |(refine pG rfl rfl (by k_ne) rfl H.f_uCas (nm_uCas L) rfl ?_;walk_nrmf uCasFn)
    |(refine mR rfl rfl H.f_uLoad rfl ?_;walk_nrm)
    |(refine mR rfl rfl H.f_uCas rfl ?_;walk_nrm)
    |(refine lZ rfl (λ_=>stepG_entry_pure (.bool aw) rfl rfl (by k_ne) rfl H.f_inBubble (x_inBubble_n L) (x_inBubble_b L) (x_inBubble_x L) (x_inBubble_f L)) ?_;walk_nrm)
    |(refine iB rfl rfl ?_;walk_nrm)
    |(refine kJ (by first|rfl|(simp[bV];done)|(simp[bV];omega)) ?_)
    |(refine iZ (by first|rfl|(simp[bV];done)|(simp[bV];omega)) ?_)
    |(refine ahd _ ?_;walk_nrm;try w_num))
   refine GD ?_;refine Goes.stop (λaew FL=> ?_);exact⟨_,rfl,by simp,by simp,gJ wY hF FL⟩
end
end Rel
namespace Rel
open Go.Conc Go.ConcN Go.RowKit Go.Conc.Lib Go.ConcR.Gen Go.ConcN.Gen
open Go.ConcR (KK WgAt rd wr mk Payload DC0 stA smA wgBlock Aside2)
section
variable [Payload] {φ:Ph} {L:WgLink} {μ:Nat->Prop}
variable {F:ah->Prop} {AnchW:(Nat->Prop)->ay->ah->Prop} {b₀:bm} {a₀:Act} {ops₀:Array Oper} {i₀:Nat} {rest₀:List Nat} {k₀:List Item} {cs:List bm}
theorem Qa (H:WgLib φ.P L)(wY: ∀w w',φ.MR μ w w'->F w->F w')(hA: ∀g w,Gc φ L F (b₀.at a₀ (.inRegion ops₀ (i₀::rest₀)::k₀)) cs g w->AnchW μ g w)(w:ah)(hF:F w/\WgLive φ.ty φ.Wg w):φ.GP μ (φ.AtKd μ (AnchW μ)) 3 (G ((base L.wait).at ⟨#[.pointer (ae ⟨φ.Wg,0,ai⟩)]++eh 83 undef,[]⟩ [.code (body_wait L)]) (b₀.at a₀ (.inRegion ops₀ (i₀::rest₀)::k₀)::cs)) w:=by
 lib_facts
 simp only[body_wait,waitFn,bI,dR,dS,eX,ec,cL,dJ];refine cx ?_;refine kJ rfl ?_;refine aiK ?_;refine Goes.stop (λaD dh=> ?_)
 replace hF:=gJ wY hF dh
 clear dh;refine⟨rfl,_,stepG_mark0 .disable (by simp) rfl rfl (by k_ne) rfl H.f_disable (x_disable_n L) (x_disable_b L) (x_disable_x L) (x_disable_f L),3,?_⟩;walk_nrm;refine db ?_;refine yH ?_;refine QL ?_;exact Goes.stop (λe8 tT=>hA _ _ ⟨_,rfl,by simp,by simp,gJ wY hF tT⟩)
end
end Rel
section
open Go.RowKit Go.ChangeShapes Go.WideShapes Go.ChangeAt Go.Deep
theorem Yj:ownKnob Tryz.prog.godebug=ai:=by kernel_rfl
theorem XO:laidOutB Tryz.prog=aA:=by kernel_rfl
end
section
open Go.RowKit
structure cW (F:Nat->Prop) (w w':ah):Prop where
 os:w'.os=w.os
 tape:w'.tape=w.tape
 output:w'.output=w.output
 size:w.heap.size<=w'.heap.size
 block: ∀k,k<w.heap.size-> ¬F k->w'.heap[k]? =w.heap[k]?
namespace cW
variable {F G:Nat->Prop} {w w' w'':ah}
theorem refl:cW F w w:=⟨rfl,rfl,rfl,az _,λ_ _ _=>rfl⟩
theorem trans (h:cW F w w')(h':cW F w' w''):cW F w w'':=⟨h'.os.trans h.os,h'.tape.trans h.tape,h'.output.trans h.output,bP h.size h'.size,λk hk hF=>(h'.block k (bX hk h.size) hF).trans (h.block k hk hF)⟩
theorem trans' (h:cW F w w')(h':cW G w' w'')(hG: ∀k,k<w.heap.size->G k->F k):cW F w w'':=⟨h'.os.trans h.os,h'.tape.trans h.tape,h'.output.trans h.output,bP h.size h'.size,λk hk hF=>(h'.block k (bX hk h.size) λhg=>hF (hG k hk hg)).trans (h.block k hk hF)⟩
theorem mono (h:cW F w w')(hG: ∀k,k<w.heap.size->F k->G k):cW G w w':=⟨h.os,h.tape,h.output,h.size,λk hk hF=>h.block k hk λhf=>hF (hG k hk hf)⟩
theorem fU (h:Below w.heap.size w w'):cW F w w':=⟨h.os,h.tape,h.output,h.size,λk hk _=>h.block k hk⟩
theorem below (h:cW F w w'){B:Nat}(hB:B<=w.heap.size)(hF: ∀k,k<w.heap.size->F k->B<=k):Below B w w':=⟨h.os,h.tape,h.output,h.size,λk hk=>h.block k (by omega) λhf=>absurd (hF k (by omega) hf) (by omega)⟩
theorem grown {row:Option Nat}(h:w.grownBy w' row)(hF: ∀k,row=ae k->F k):cW F w w':=⟨h.os,h.tape,h.output,h.size,λk hk hf=>h.block k hk λe=>hf (hF k e.symm)⟩
theorem setCell (h:cW F w w'){g:Nat}(hg:F g\/w.heap.size<=g)(o:Nat)(v:aq):cW F w (w'.setCell ⟨g,o,ai⟩ v):=⟨h.os,h.tape,h.output,by simpa using h.size,λk hk hf=>(Below.heap_setCell w' ⟨g,o,ai⟩ v k (by rintro rfl;rcases hg with hg|hg;exact hf hg;exact absurd hk (by omega))).trans (h.block k hk hf)⟩
theorem drew (h:cW F w w'):cW F w w'.drew:=⟨h.os,h.tape,h.output,h.size,h.block⟩
theorem alloc (h:cW F w w')(o:Obj):cW F w (w'.alloc o):=⟨h.os,h.tape,h.output,by simp;have:=h.size;omega,λk hk hf=>(Below.heap_alloc w' o k (by have:=h.size;omega)).trans (h.block k hk hf)⟩
theorem blk (h:cW F w w'){g:Nat}{t:aF}{cs:Array aq}(hb:dq w g t cs)(hg: ¬F g):dq w' g t cs:=(h.block g hb.lt hg).trans hb
theorem own (h:cW F w w'){B:Nat}{e:aF}{size n:Nat}{v:aq}{xs:List aq}(ho:w.ownsRow B e size v n xs)(hg: ∀k,v.ownBlock=ae k-> ¬F k):w'.ownsRow B e size v n xs:=by
 refine⟨ho.1,?_⟩;rcases ho.2 with h0|⟨g,cap,cur,rfl,hb,ll,r⟩
 ·exact br h0
 ·exact bR ⟨g,cap,cur,rfl,hb,(h.block g (aL.1 ll).1 (hg g rfl)).trans ll,r⟩
end cW
theorem cH {w:ah}{B:Nat}{e:aF}{size n:Nat}{v:aq}{xs:List aq}(h:w.ownsRow B e size v n xs): ∃A c,v=.slice A n c/\n<=c/\c<=maxLen/\(0<n-> ∃g,A=ae ⟨g,0,ai⟩):=by
 rcases h.2 with⟨rfl,h0⟩|⟨g,cap,cur,rfl,_,_,h1,h2,_⟩
 ·exact⟨ai,0,by rw[h0],by omega,by decide,λh=>by omega⟩
 ·exact⟨_,cap,rfl,h1,h2,λ_=>⟨g,rfl⟩⟩
theorem lg {w:ah}{B:Nat}{e:aF}{size n c g:Nat}{xs:List aq}(h:w.ownsRow B e size (.slice (ae ⟨g,0,ai⟩) n c) n xs){k:Nat}(hk:k<n):row? w g (k *size) size=ae ((xs.drop (k *size)).take size).toArray:=by
 obtain⟨h1,h2|⟨g',cap,cur,e1,_,hg,h3,_,h5,h6⟩⟩:=h
 ·cases h2.1
 ·injection e1 with e1 e2 e3
  injection e1 with e1
  injection e1 with e1
  subst e1;unfold row?;rw[hg];simp only;have hle:(k+1) *size<=cap *size:=il _ (by omega);have aaV:(k+1) *size<=n *size:=il _ (by omega);rw[k8,jR]at hle aaV;rw[if_pos (by omega)];congr 1;apply Array.ext';rw[Array.toList_extract,List.extract_eq_take_drop,ki,<-h6];simp only[List.drop_take,List.take_take];congr 1;omega
theorem eu {P:aS}{w:ah}{ops:Array Oper}{rest:List Oper}{o:Oper}{a:Act}{Q:Exit->Act->ah->Prop}(qv:o.guard=ai)(s x:cw)(t:aF)(ho:o.op=.call {callee:=.builtin .append,args:= #[s,x],argTypes:= #[t,t]})(base:Nat)(e:aF)(i:TypeInfo)(z:aq)(size bytes:Nat)(ht:P.underlying t=ae (.slice e))(hi:P.info? e=ae i)(hz:i.zero=ae z)(vg:i.size=size)(LH:i.bytes=bytes)(Q8:z.cells.size=size)(km:0<size)(v:aq)(n:Nat)(xs:List aq)(hs:a.eval s=v)(gZ:w.ownsRow base e size v n xs)(news:List aq)(hx:a.eval x=.slice (ae ⟨w.heap.size,0,ai⟩) 1 1)(hl:news.length=size)(h1: ∀u∈news,u.oneCell'=aA)(W1:n+1<=maxLen)(qu:(n+1) *bytes<=140737488355328)(GK:base<=w.heap.size)(h: ∀v' w',w'.ownsRow base e size v' (n+1) (xs++news)->(w.alloc (.cells news.toArray e)).grownBy w' v.ownBlock->(v'.ownBlock=v.ownBlock\/v'.ownBlock=ae (w.heap.size+1))->wpList P ops Q rest (a.put o.dst v') w'):wpList P ops Q (o::rest) a (w.alloc (.cells news.toArray e)):=by
 refine wpList_append_own_at _ qv s x t ho base e i z size bytes ht hi hz vg LH Q8 km v n xs hs (gZ.alloc _) ⟨w.heap.size,0,ai⟩ 1 1 news hx (by rw[hl,jR]) ?_ h1 W1 qu (by simp;omega) ?_
 ·intro j u hu;rw[show(⟨w.heap.size,0,ai⟩:Addr).add j=⟨w.heap.size,j,ai⟩from by unfold Addr.add;split<;>simp_all];rw[cell_of_row _ w.heap.size j news.toArray e (0,0) (heap_alloc_new w _)];simpa using hu
 ·intro v' w' Ba hg _ ru;exact h v' w' Ba hg (by simpa using ru)
theorem uX {α:Type}{size:Nat}{f:α->List aq}(hf: ∀x,(f x).length=size)(l:List α):(l.flatMap f).length=l.length *size:=by
 induction l with
 |nil=>simp
 |cons a l ih=>rw[cM,bM,ih,hf,aj,k8];omega
theorem lO {α:Type}{size:Nat}{f:α->List aq}(hf: ∀x,(f x).length=size): ∀(l:List α) (k:Nat) (h:k<l.length),((l.flatMap f).drop (k *size)).take size=f l[k]
 |a::l,0,_=>by rw[cM,Nat.zero_mul,List.drop_zero];rw[List.take_append_of_le_length (by rw[hf];exact az _),<-hf a,cD];rfl
 |a::l,k+1,h=>by rw[cM,k8,jR,dt,<-hf a,List.drop_append,List.drop_of_length_le (by omega),cL,ki,hf a];exact lO hf l k (by simpa using h)
theorem qm {α:Type}{size:Nat}{f:α->List aq}(hf: ∀x,(f x).length=size)(l:List α)(k j:Nat)(h:k<l.length)(hj:j<size):(l.flatMap f)[k *size+j]? =(f l[k])[j]?:=by rw[<-lO hf l k h,gN,if_pos hj,List.getElem?_drop]
theorem sD {α:Type}{size:Nat}{f:α->List aq}(hf: ∀x,(f x).length=size): ∀(l:List α) (k j:Nat) (y:α) (u:aq) (h:k<l.length),j<size->f y=(f l[k]).set j u->(l.flatMap f).set (k *size+j) u=(l.set k y).flatMap f
 |a::l,0,j,y,u,_,hj,hy=>by simp only[List.getElem_cons_zero]at hy;rw[cM,Nat.zero_mul,aC,List.set_append_left _ _ (by rw[hf];exact hj),<-hy];rfl
 |a::l,k+1,j,y,u,h,hj,hy=>by
  rw[cM,nP _ _ (by rw[hf,k8];omega),hf];rw[show(k+1) *size+j-size=k *size+j from by rw[k8];omega];rw[sD hf l k j y u (by simpa using h) hj (by simpa using hy)]
  rfl
theorem nY {w w':ah}{B:Nat}{e:aF}{size n:Nat}{v:aq}{xs:List aq}(h:w.ownsRow B e size v n xs)(hb:Below w.heap.size w w'):w'.ownsRow B e size v n xs:=h.kept (row:=ai) ⟨hb.os,hb.tape,hb.output,hb.size,λk hk _=>hb.block k hk⟩ (by cases v.ownBlock<;>simp)
def hC (h:Int×Int):List aq:=[.int .i64 h.1,.int .i64 h.2]
theorem zS (h:Int×Int):(hC h).length=2:=rfl
def hL (h:Int×Int):List Int:=[h.1,h.2]
end
section
open Go.RowKit
def iX {α:Type}(T E:aF)(size:Nat)(enc:α->List aq)(w:ah)(p:Nat)(xs:List α)(F:Nat->Prop):Prop:= ∃v,dq w p T #[v]/\w.ownsRow 0 E size v xs.length (xs.flatMap enc)/\v.ownBlock≠ae p/\F p/\ ∀k,v.ownBlock=ae k->F k
section
variable {α:Type} {T E:aF} {size:Nat} {enc:α->List aq} {w w' w3:ah} {p:Nat} {xs:List α} {F G:Nat->Prop}
theorem iX.only (h:iX T E size enc w p xs F)(ho:cW G w w')(hd: ∀k,F k-> ¬G k):iX T E size enc w' p xs F:=by obtain⟨v,h1,h2,h3,h4,h5⟩:=h;exact⟨v,ho.blk h1 (hd p h4),ho.own h2 λk hk=>hd k (h5 k hk),h3,h4,h5⟩
theorem iX.mono (h:iX T E size enc w p xs F)(hd: ∀k,k<w.heap.size->F k->G k):iX T E size enc w p xs G:=by obtain⟨v,h1,h2,h3,h4,h5⟩:=h;exact⟨v,h1,h2,h3,hd p h1.lt h4,λk hk=>hd k (h2.lt k hk).2 (h5 k hk)⟩
theorem iX.lt (h:iX T E size enc w p xs F):p<w.heap.size:=by obtain⟨v,h1,_⟩:=h;exact h1.lt
theorem iX.after (h:iX T E size enc w p xs F)(hb:Below w.heap.size w w'):iX T E size enc w' p xs F:=by obtain⟨v,h1,h2,h3,h4,h5⟩:=h;exact⟨v,h1.after hb,h2.kept (row:=ai) ⟨hb.os,hb.tape,hb.output,hb.size,λk hk _=>hb.block k hk⟩ (by cases v.ownBlock<;>simp),h3,h4,h5⟩
theorem iX.slice (h:iX T E size enc w p xs F): ∃A c,w.cell? ⟨p,0,ai⟩=ae (.slice A xs.length c)/\w.frozen? ⟨p,0,ai⟩=aw/\xs.length<=c/\c<=maxLen/\w.ownsRow 0 E size (.slice A xs.length c) xs.length (xs.flatMap enc)/\(dZ A xs.length c).ownBlock≠ae p/\F p/\ ∀k,(dZ A xs.length c).ownBlock=ae k->F k:=by obtain⟨v,h1,h2,h3,h4,h5⟩:=h;obtain⟨A,c,rfl,wK,vZ,hA⟩:=cH h2;exact⟨A,c,h1.cell 0,h1.frozen 0,wK,vZ,h2,h3,h4,h5⟩
theorem iX.append (h:iX T E size enc w p xs F){v v':aq}{o:Obj}{x:α}(hv:w.cell? ⟨p,0,ai⟩=ae v)(mh:w3.ownsRow 0 E size v' (xs.length+1) (xs.flatMap enc++enc x))(A7:(w.alloc o).grownBy w3 v.ownBlock)(ru:v'.ownBlock=v.ownBlock\/v'.ownBlock=ae (w.heap.size+1)):w3.cell? ⟨p,0,ai⟩=ae v/\w3.frozen? ⟨p,0,ai⟩=aw/\iX T E size enc (w3.setCell ⟨p,0,ai⟩ v') p (xs++[x]) (λk=>F k\/w.heap.size<=k)/\cW F w (w3.setCell ⟨p,0,ai⟩ v'):=by
 obtain⟨u,h1,h2,h3,h4,h5⟩:=h;have hu:u=v:=by have:=h1.cell 0;rw[hv]at this;simpa using this.symm
 subst hu;have ZE:cW (λk=>u.ownBlock=ae k) w w3:=(cW.refl.alloc _).trans (cW.grown A7 λk hk=>hk);have zC:=ZE.blk h1 h3;have hN3:v'.ownBlock≠ae p:=by
  rcases ru with e|e
  ·rw[e];exact h3
  ·rw[e];intro h;injection h with h;have:=h1.lt;omega
 refine⟨zC.cell 0,zC.frozen 0,⟨_,zC.set 0 _,?_,hN3,br h4,λk hk=> ?_⟩,(ZE.mono λk _ hk=>h5 k hk).setCell (br h4) _ _⟩
 ·rw[bM,eI];have:=ownsRow_setCell_other (a:=⟨p,0,ai⟩) mh hN3 v';simpa using this
 ·rcases ru with e|e
  ·rw[e]at hk;exact br (h5 k hk)
  ·rw[e]at hk;injection hk with hk;exact bR (by omega)
end
end
section
open Go.RowKit
end
section
open Go.RowKit
theorem An:(Tryz.prog.info? 172).map (·.size)=ae 2:=by kernel_rfl
@[go_sem ↓] theorem acF (v:aq):dN 172 v=fe 172 v:=rfl
@[go_sem ↓] theorem abX (p v:aq):eM 172 p v=de 172 p v:=rfl
@[go_sem] theorem ZV (w:ah)(g o:Nat):(fe 172 (.pointer (ae ⟨g,o,ai⟩))).run Tryz.prog w=match row? w g o 2 with|some cs=>.ok (.agg cs) w|none=>(jb 172 ⟨g,o,ai⟩).run Tryz.prog w:=fO w _ g o 2 _ Tryz.underlying172 rfl An
def TI (w:ah)(g o:Nat)(a b:aq):ah:=
 {w with heap:=w.heap.modify g λ
    | .cells cs e fr=>.cells ((cs.setIfInBounds o a).setIfInBounds (o+1) b) e fr
    |x=>x}
theorem MN (w:ah)(g o:Nat)(a b:aq):TI w g o a b=(w.setCell ⟨g,o,ai⟩ a).setCell ⟨g,o+1,ai⟩ b:=by
 unfold TI dA;simp only;congr 1;apply Array.ext_getElem?;intro k;simp only[bw]
 split
 ·cases w.heap[k]? with
  |none=>rfl
  |some x=>cases x<;>rfl
 ·rfl
theorem abQ (cs:Array aq)(o:Nat)(a b:aq)(h:o+2<=cs.size):(List.take o cs.toList++a::b::List.drop (o+2) cs.toList).toArray=(cs.setIfInBounds o a).setIfInBounds (o+1) b:=by
 apply Array.ext';apply lJ;intro j;have hl:(List.take o cs.toList).length=o:=by rw[dW];simp;omega
 rw[Array.toList_setIfInBounds,Array.toList_setIfInBounds,gh,gh,ew];simp only[Array.length_toList];rcases Nat.lt_trichotomy j o with h1|h1|h1
 ·rw[List.getElem?_append_left (by omega),if_neg (by omega),if_neg (by omega),gN,if_pos h1]
 ·rw[List.getElem?_append_right (by omega),hl,h1,Nat.sub_self,if_neg (by omega),if_pos rfl,if_pos (by omega)];rfl
 ·rw[List.getElem?_append_right (by omega),hl];by_cases h2:j=o+1
  ·rw[h2,if_pos rfl,if_pos (by omega),show o+1-o=1 from by omega];rfl
  ·rw[if_neg (by omega),if_neg (by omega),show j-o=(j-o-2)+2 from by omega,eO,eO,List.getElem?_drop,show o+2+(j-o-2)=j from by omega]
@[go_sem] theorem YU (w:ah)(g o:Nat)(x:Int)(b:Bool):(de 172 (.pointer (ae ⟨g,o,ai⟩)) (.agg #[.int .i64 x,.bool b])).run Tryz.prog w=if fits w g o 2=aA then .ok () (TI w g o (.int .i64 x) (.bool b))else(dT 172 g o (.agg #[.int .i64 x,.bool b])).run Tryz.prog w:=by
  split
  ·rename_i hf
   unfold fits at hf
   split at hf
   ·rename_i cs e hg
    have hn:o+2<=cs.size:=by simpa using hf
    cases hq:Tryz.prog.info? 172 with
    |none=>have:=An;simp[hq]at this
    |some i=>
     have hs:i.size=2:=by have:=An;simpa[hq]using this
     have gI:=run_storeCells_at Tryz.prog g o e [.int .i64 x,.bool b] 0 cs w hg (by simp;omega) (by intro v hv;simp at hv;rcases hv with rfl|rfl<;>rfl);have hlen:(#[aZ .i64 x,.bool b]:Array aq).size=i.size:=by rw[hs];rfl
     simp only[de,eM,Instr.sureAddr,storeVar,eo,sizeOf,typeInfo,run_program,gP,hq,Sem.run_pure,iy,hlen,ne_eq,not_true_eq_false,if_false,gI];congr 1;unfold TI World.setRow;congr 1;apply Array.ext_getElem?;intro k;rw[bw,bw]
     split
     ·rename_i hk
      subst hk;rw[hg];simp;exact abQ cs o _ _ hn
     ·rfl
   ·cases hf
  ·rfl
theorem Lf (a c:Int)(b d:Bool)(w:ah):(binOp .eql 172 (.agg #[.int .i64 a,.bool b]) (.agg #[.int .i64 c,.bool d])).run Tryz.prog w=.ok (.bool (decide (a=c)&&decide (b=d))) w:=by
 have hS:Tryz.prog.underlying 172=ae (.struct (Tryz.prog.fieldsOf 172)):=by kernel_rfl
 have hp:Tryz.prog.stoodInHeld 172=aw:=by kernel_rfl
 have u3:=Tryz.underlying3;have u4:=Tryz.underlying4;have a3:=Tryz.isAgg3;have z3:=Tryz.sizeOf3;have a4:=Tryz.isAgg4;have z4:=Tryz.sizeOf4;rw[run_eql_struct,show(10000:Nat)=9999+1 from rfl,run_equalIn_agg w 9999 172 _ _ hS hp];simp only[Program.fieldsOf,Tryz.underlying172];go_simp;by_cases h1:a=c<;>by_cases h2:b=d<;>simp[h1,h2]
def tc (x:Int×Bool):List aq:=[.int .i64 x.1,.bool x.2]
theorem nZ (x:Int×Bool):(tc x).length=2:=rfl
def dY (w:ah)(p:Nat)(ls:List (Int×Bool))(F:Nat->Prop):Prop:= ∃v,dq w p 170 #[v]/\w.ownsRow 0 172 2 v ls.length (ls.flatMap tc)/\v.ownBlock≠ae p/\F p/\ ∀k,v.ownBlock=ae k->F k
theorem dY.only {w w':ah}{p:Nat}{ls:List (Int×Bool)}{F G:Nat->Prop}(h:dY w p ls F)(ho:cW G w w')(hd: ∀k,F k-> ¬G k):dY w' p ls F:=by obtain⟨v,h1,h2,h3,h4,h5⟩:=h;exact⟨v,ho.blk h1 (hd p h4),ho.own h2 λk hk=>hd k (h5 k hk),h3,h4,h5⟩
theorem dY.mono {w:ah}{p:Nat}{ls:List (Int×Bool)}{F G:Nat->Prop}(h:dY w p ls F)(hd: ∀k,k<w.heap.size->F k->G k):dY w p ls G:=by obtain⟨v,h1,h2,h3,h4,h5⟩:=h;exact⟨v,h1,h2,h3,hd p h1.lt h4,λk hk=>hd k (h2.lt k hk).2 (h5 k hk)⟩
theorem dY.lt {w:ah}{p:Nat}{ls:List (Int×Bool)}{F:Nat->Prop}(h:dY w p ls F):p<w.heap.size:=by obtain⟨v,h1,_⟩:=h;exact h1.lt
theorem dY.facts {w:ah}{p:Nat}{ls:List (Int×Bool)}{F:Nat->Prop}(h:dY w p ls F): ∃A c,w.cell? ⟨p,0,ai⟩=ae (.slice A ls.length c)/\w.frozen? ⟨p,0,ai⟩=aw/\ls.length<=c/\c<=maxLen/\w.ownsRow 0 172 2 (.slice A ls.length c) ls.length (ls.flatMap tc)/\(dZ A ls.length c).ownBlock≠ae p/\ ∀k,k<ls.length-> ∃g,A=ae ⟨g,0,ai⟩/\g≠p/\F g/\g<w.heap.size/\w.frozen? ⟨g,k *2,ai⟩=aw/\w.frozen? ⟨g,k *2+1,ai⟩=aw/\fits w g (k *2) 2=aA/\row? w g (k *2) 2=ae #[.int .i64 (ls.getD k (0,aw)).1,.bool (ls.getD k (0,aw)).2]/\w.cell? ⟨g,k *2,ai⟩=ae (.int .i64 (ls.getD k (0,aw)).1)/\w.cell? ⟨g,k *2+1,ai⟩=ae (.bool (ls.getD k (0,aw)).2):=by
 obtain⟨v,h1,h2,h3,h4,h5⟩:=h;obtain⟨A,c,rfl,wK,vZ,hA⟩:=cH h2;refine⟨A,c,h1.cell 0,h1.frozen 0,wK,vZ,h2,h3,λk hk=> ?_⟩;obtain⟨g,rfl⟩:=hA (by omega);have qv:ls.getD k (0,aw)=ls[k]:=by simp[bp,ao hk]
 rw[qv];have hr:=lg h2 hk;rw[lO nZ ls k hk]at hr;have hk2:k *2+2<=ls.length *2:=by omega
 have hf:fits w g (k *2) 2=aA:=by
  obtain⟨_,h0|⟨g',cap,cur,e1,_,hg,h3',_,h5',_⟩⟩:=h2
  ·cases h0.1
  ·injection e1 with e1 e2 e3
   injection e1 with e1
   injection e1 with e1
   subst e1;unfold fits;rw[hg];simp;omega
 refine⟨g,rfl,λe=>h3 (by rw[e];rfl),h5 g rfl,(h2.lt g rfl).2,h2.frozenAt _,h2.frozenAt _,hf,hr,?_,?_⟩
 ·rw[h2.cellAt (k *2) (by omega),<-kW (k *2),qm nZ ls k 0 hk (by omega)];rfl
 ·rw[h2.cellAt (k *2+1) (by omega),qm nZ ls k 1 hk (by omega)];rfl
theorem dY.put {w:ah}{p:Nat}{ls:List (Int×Bool)}{F:Nat->Prop}(h:dY w p ls F){g k c:Nat}(hk:k<ls.length)(hg:w.cell? ⟨p,0,ai⟩=ae (.slice (ae ⟨g,0,ai⟩) ls.length c))(x:Int)(b:Bool):dY (TI w g (k *2) (.int .i64 x) (.bool b)) p (ls.set k (x,b)) F/\cW F w (TI w g (k *2) (.int .i64 x) (.bool b)):=by
 obtain⟨v,h1,h2,h3,h4,h5⟩:=h;have hv:v=.slice (ae ⟨g,0,ai⟩) ls.length c:=by have:=h1.cell 0;rw[hg]at this;simpa using this.symm
 subst hv;rw[MN];have s1:=h2.stored (k *2) (.int .i64 x);have s2:=s1.1.stored (k *2+1) (.bool b);have dQ:p≠g:=λe=>h3 (by rw[<-e];rfl)
 refine⟨⟨_,(h1.FD dQ _ _).FD dQ _ _,?_,h3,h4,h5⟩,(cW.refl.setCell (br (h5 g rfl)) _ _).setCell (br (h5 g rfl)) _ _⟩;have:=s2.1;rw[<-kW (k *2),sD nZ ls k 0 (x,ls[k].2) (.int .i64 x) hk (by omega) rfl,sD nZ (ls.set k (x,ls[k].2)) k 1 (x,b) (.bool b) (by simpa using hk) (by omega) (by simp[tc])]at this;rw[List.set_set]at this;rw[ew];exact this
theorem dY.live {w:ah}{p:Nat}{ls:List (Int×Bool)}{F:Nat->Prop}(h:dY w p ls F){g k c:Nat}(hk:k<ls.length)(hg:w.cell? ⟨p,0,ai⟩=ae (.slice (ae ⟨g,0,ai⟩) ls.length c))(b:Bool):dY (w.setCell ⟨g,k *2+1,ai⟩ (.bool b)) p (ls.set k ((ls.getD k (0,aw)).1,b)) F/\cW F w (w.setCell ⟨g,k *2+1,ai⟩ (.bool b)):=by
 obtain⟨v,h1,h2,h3,h4,h5⟩:=h;have hv:v=.slice (ae ⟨g,0,ai⟩) ls.length c:=by have:=h1.cell 0;rw[hg]at this;simpa using this.symm
 subst hv;have s2:=h2.stored (k *2+1) (.bool b);have dQ:p≠g:=λe=>h3 (by rw[<-e];rfl)
 have qv:ls.getD k (0,aw)=ls[k]:=by simp[bp,ao hk]
 refine⟨⟨_,h1.FD dQ _ _,?_,h3,h4,h5⟩,cW.refl.setCell (br (h5 g rfl)) _ _⟩;have:=s2.1;rw[sD nZ ls k 1 (ls[k].1,b) (.bool b) hk (by omega) rfl]at this;rw[ew,qv];exact this
end
section
open Go.RowKit
def IA (F:Nat->Prop)(w w':ah):Nat->Prop:=λk=>F k\/w.heap.size<=k/\k<w'.heap.size
structure bT where
 at_:ah->(Nat->Prop)->Prop
 frame: ∀{w w':ah} {F G:Nat->Prop},at_ w F->cW G w w'->(∀k,F k-> ¬G k)->at_ w' F
 cut: ∀{w:ah} {F G:Nat->Prop},at_ w F->(∀k,k<w.heap.size->F k->G k)->at_ w G
def Sep:List bT->ah->(Nat->Prop)->Prop
 | [],_,_=>True
 |A::l,w,F=> ∃F1 F2,A.at_ w F1/\Sep l w F2/\(∀k,F1 k-> ¬F2 k)/\ ∀k,F1 k\/F2 k->F k
section
variable {A A' B C D:bT} {l l':List bT} {w w' w0:ah} {F G:Nat->Prop}
theorem Sep.frame: ∀{l:List bT} {F:Nat->Prop},Sep l w F->cW G w w'->(∀k,F k-> ¬G k)->Sep l w' F
 | [],_,_,_,_=>trivial
 |A::l,F,⟨F1,F2,h1,h2,h3,h4⟩,ho,hd=>⟨F1,F2,A.frame h1 ho λk hk=>hd k (h4 k (br hk)),Sep.frame h2 ho λk hk=>hd k (h4 k (bR hk)),h3,h4⟩
theorem Sep.cut: ∀{l:List bT} {F G:Nat->Prop},Sep l w F->(∀k,k<w.heap.size->F k->G k)->Sep l w G
 | [],_,_,_,_=>trivial
 |A::l,F,G,⟨F1,F2,h1,h2,h3,h4⟩,hd=>
  ⟨λk=>F1 k/\k<w.heap.size,λk=>F2 k/\k<w.heap.size,A.cut h1 λk hk h=>⟨h,hk⟩,Sep.cut h2 λk hk h=>⟨h,hk⟩,λk a b=>h3 k a.1 b.1,λk h=>by
    rcases h with h|h
    ·exact hd k h.2 (h4 k (br h.1))
    ·exact hd k h.2 (h4 k (bR h.1))⟩
theorem Sep.head (h:Sep (A::l) w F):A.at_ w F:=by obtain⟨F1,F2,h1,h2,h3,h4⟩:=h;exact A.cut h1 λk _ hk=>h4 k (br hk)
theorem Sep.tail (h:Sep (A::l) w F):Sep l w F:=by obtain⟨F1,F2,h1,h2,h3,h4⟩:=h;exact h2.cut λk _ hk=>h4 k (bR hk)
theorem Sep.swap (h:Sep (A::B::l) w F):Sep (B::A::l) w F:=by
 obtain⟨F1,F2,h1,⟨F3,F4,g1,g2,g3,g4⟩,h3,h4⟩:=h;refine⟨F3,λk=>F1 k\/F4 k,g1,⟨F1,F4,h1,g2,λk a b=>h3 k a (g4 k (bR b)),λk h=>h⟩,λk a b=> ?_,λk h=> ?_⟩
 ·rcases b with b|b
  ·exact h3 k b (g4 k (br a))
  ·exact g3 k a b
 ·rcases h with h|h|h
  ·exact h4 k (bR (g4 k (br h)))
  ·exact h4 k (br h)
  ·exact h4 k (bR (g4 k (bR h)))
theorem Sep.lE {l l':List bT}(hl: ∀F,Sep l w F->Sep l' w F)(h:Sep (A::l) w F):Sep (A::l') w F:=by obtain⟨F1,F2,h1,h2,h3,h4⟩:=h;exact⟨F1,F2,h1,hl _ h2,h3,h4⟩
theorem Sep.perm (hp:l.Perm l'): ∀{F:Nat->Prop},Sep l w F->Sep l' w F:=by
 induction hp with
 |nil=>exact λh=>h
 |cons a _ ih=>exact λh=>h.lE λ_=>ih
 |swap a b l=>exact λh=>h.swap
 |trans _ _ ih1 ih2=>exact λh=>ih2 (ih1 h)
structure In (F:Nat->Prop) (w0:ah) (l:List bT) (w:ah):Prop where
 sep:Sep l w (λk=>(F k\/w0.heap.size<=k)/\k<w.heap.size)
 only:cW F w0 w
theorem In.nil (w:ah)(F:Nat->Prop):In F w [] w:=⟨trivial,cW.refl⟩
theorem In.one (h:A.at_ w F):In F w [A] w:=⟨⟨λk=>F k/\k<w.heap.size,λ_=>False,A.cut h λk hk hf=>⟨hf,hk⟩,trivial,λ_ _ h=>h,λk h=>by rcases h with h|h;exact⟨br h.1,h.2⟩;exact h.elim⟩,cW.refl⟩
theorem In.start (h:Sep l w F):In F w l w:=⟨h.cut λk hk hf=>⟨br hf,hk⟩,cW.refl⟩
theorem In.perm (h:In F w0 l w)(hp:l.Perm l'):In F w0 l' w:=⟨h.sep.perm hp,h.only⟩
theorem In.swap (h:In F w0 (A::B::l) w):In F w0 (B::A::l) w:=⟨h.sep.swap,h.only⟩
theorem In.third (h:In F w0 (A::B::C::l) w):In F w0 (C::A::B::l) w:=⟨(h.sep.lE λ_=>Sep.swap).swap,h.only⟩
theorem In.fourth (h:In F w0 (A::B::C::D::l) w):In F w0 (D::A::B::C::l) w:=⟨((h.sep.lE λ_=>Sep.lE λ_=>Sep.swap).lE λ_=>Sep.swap).swap,h.only⟩
theorem In.drop (h:In F w0 (A::l) w):In F w0 l w:=⟨h.sep.tail,h.only⟩
theorem In.head (h:In F w0 (A::l) w): ∃F1,A.at_ w F1:=⟨_,h.sep.head⟩
theorem In.size (h:In F w0 l w):w0.heap.size<=w.heap.size:=h.only.size
theorem In.open_ (h:In F w0 (A::l) w): ∃F1,A.at_ w F1/\(∀k,F1 k->(F k\/w0.heap.size<=k)/\k<w.heap.size)/\ ∀{w':ah} {A':bT},A'.at_ w' (IA F1 w w')->cW F1 w w'->In F w0 (A'::l) w':=by
 obtain⟨⟨F1,F2,h1,h2,h3,h4⟩,ho⟩:=h;refine⟨F1,h1,λk hk=>h4 k (br hk),λ{w'} {A'} ha U9=> ?_⟩;refine⟨⟨_,F2,ha,h2.frame U9 λk a b=>h3 k b a,λk a b=> ?_,λk h=> ?_⟩,ho.trans' U9 λk hk hf=> ?_⟩
 ·rcases a with a|a
  ·exact h3 k a b
  ·have:=(h4 k (bR b)).2;omega
 ·have hs:=U9.size;have hs0:=ho.size;rcases h with(h|h)|h
  ·have:=h4 k (br h);exact⟨this.1,by omega⟩
  ·exact⟨bR (by omega),h.2⟩
  ·have:=h4 k (bR h);exact⟨this.1,by omega⟩
 ·have:=h4 k (br hf);rcases this.1 with h|h
  ·exact h
  ·omega
theorem In.new (h:In F w0 l w)(hb:Below w.heap.size w w')(ha:A.at_ w' (λk=>w.heap.size<=k)):In F w0 (A::l) w':=by
 obtain⟨hs,ho⟩:=h;have km:=hb.size;have ahQ:=ho.size;refine⟨⟨λk=>w.heap.size<=k/\k<w'.heap.size,_,A.cut ha λk hk hf=>⟨hf,hk⟩,hs.frame (G:=λk=>w.heap.size<=k) ?_ λk a b=>by omega,λk a b=>by omega,λk h=> ?_⟩,ho.trans (cW.fU hb)⟩
 ·exact cW.fU hb
 ·rcases h with h|h
  ·exact⟨bR (by omega),h.2⟩
  ·exact⟨h.1,by omega⟩
theorem In.below (h:In F w0 l w)(hb:Below w.heap.size w w'):In F w0 l w':=by have km:=hb.size;exact⟨(h.sep.frame (G:=λk=>w.heap.size<=k) (cW.fU hb) λk a b=>by omega).cut λk _ hf=>⟨hf.1,by omega⟩,h.only.trans (cW.fU hb)⟩
theorem In.drew (h:In F w0 l w):In F w0 l w.drew:=h.below (Below.refl _ _).drew
theorem In.done (h:In F w0 (A::l) w):A.at_ w (IA F w0 w)/\cW F w0 w:=⟨A.cut h.sep.head λk _ hk=>by rcases hk.1 with h|h;exact br h;exact bR ⟨h,hk.2⟩,h.only⟩
theorem In.II (h:In (λ_=>False) w0 l w):Below w0.heap.size w0 w:=h.only.below (az _) λ_ _ h=>h.elim
theorem In.ah2 (h:In F w0 l w)(ht: ∀F,Sep l w F->Sep l' w F):In F w0 l' w:=⟨ht _ h.sep,h.only⟩
theorem In.old (h:In F w0 l w){k:Nat}(hk:k<w0.heap.size)(hF: ¬F k):w.heap[k]? =w0.heap[k]?:=h.only.block k hk hF
end
def bg (g:Nat)(t:aF)(cs:Array aq):bT where
 at_ w F:=dq w g t cs/\F g
 frame h ho hd:=⟨ho.blk h.1 (hd _ h.2),h.2⟩
 cut h hd:=⟨h.1,hd _ h.1.lt h.2⟩
section
variable {l:List bT} {w w0:ah} {F:Nat->Prop} {g:Nat} {t:aF} {cs:Array aq}
theorem In.alloc (h:In F w0 l w)(t:aF)(cs:Array aq):In F w0 (bg w.heap.size t cs::l) (w.alloc (.cells cs t)):=h.new ((Below.refl _ _).alloc (az _) _) ⟨dq.new _ _ _,az _⟩
theorem In.blk (h:In F w0 (bg g t cs::l) w):dq w g t cs:=h.sep.head.1
theorem In.set (h:In F w0 (bg g t cs::l) w)(i:Nat)(v:aq):In F w0 (bg g t (cs.setIfInBounds i v)::l) (w.setCell ⟨g,i,ai⟩ v):=by obtain⟨F1,⟨h1,h2⟩,hF,hb⟩:=h.open_;exact hb (A':=bg g t (cs.setIfInBounds i v)) ⟨h1.set i v,br h2⟩ (cW.refl.setCell (br h2) _ _)
theorem cW.putRow (w:ah)(g o:Nat)(xs:List Int):cW (· =g) w (putRow w g o xs):=⟨rfl,rfl,rfl,by rw[kp];exact az _,λq _ hq=>fH w g o xs q hq⟩
theorem In.put {ys:List Int}(h:In F w0 (bg g t (ints ys)::l) w)(o:Nat)(xs:List Int):In F w0 (bg g t (ints (ys.take o++xs++ys.drop (o+xs.length)))::l) (putRow w g o xs):=by obtain⟨F1,⟨h1,h2⟩,hF,hb⟩:=h.open_;exact hb (A':=bg g t _) ⟨h1.put o xs,br h2⟩ ((cW.putRow w g o xs).mono λk _ e=>by rw[e];exact h2)
theorem In.fc {ys:List Int}(h:In F w0 (bg g t (ints ys)::l) w)(xs:List Int)(hl:xs.length=ys.length):In F w0 (bg g t (ints xs)::l) (putRow w g 0 xs):=by have:=h.put 0 xs;rwa[List.take_zero,cL,aC,hl,List.drop_length,eN]at this
theorem In.struct (h:In F w0 l w)(t:aF)(ys xs:List Int)(hl:xs.length=ys.length):In F w0 (bg w.heap.size t (ints xs)::l) (Go.Proofs.YtknejlcijdngoaaGreat.putRow (w.alloc (.cells (ints ys) t)) w.heap.size 0 xs):=(h.alloc t (ints ys)).fc xs hl
end
def dP (E:aF)(size:Nat)(v:aq)(n:Nat)(xs:List aq):bT where
 at_ w F:=w.ownsRow 0 E size v n xs/\ ∀k,v.ownBlock=ae k->F k
 frame h ho hd:=⟨ho.own h.1 λk hk=>hd k (h.2 k hk),h.2⟩
 cut h hd:=⟨h.1,λk hk=>hd k (h.1.lt k hk).2 (h.2 k hk)⟩
def Col {α:Type}(T E:aF)(size:Nat)(enc:α->List aq)(p:Nat)(xs:List α):bT where
 at_ w F:=iX T E size enc w p xs F
 frame h ho hd:=h.only ho hd
 cut h hd:=h.mono hd
end
section
open Go.RowKit
section
variable {κ:Type} [DecidableEq κ] {l:List bT} {ks:List κ} {f:κ->bT} {F:Nat->Prop} {w0 w:ah}
theorem SI {k:κ}{g:κ->bT}(hn:ks.Nodup)(A:bT):(ks.erase k).map (λj=>if j=k then A else g j)=(ks.erase k).map g:=by apply dy;intro j hj;rw[if_neg];rintro rfl;exact(List.Nodup.not_mem_erase hn) hj
theorem In.Jt (h:In F w0 (l++ks.map f) w)(hn:ks.Nodup){k:κ}(hk:k∈ks): ∃F1,(f k).at_ w F1/\(∀k,F1 k->(F k\/w0.heap.size<=k)/\k<w.heap.size)/\ ∀(w':ah) (A':bT),A'.at_ w' (IA F1 w w')->cW F1 w w'->In F w0 (l++ks.map (λj=>if j=k then A' else f j)) w':=by
 have hp:(l++ks.map f).Perm (f k::(l++(ks.erase k).map f)):=(dE l ((List.perm_cons_erase hk).map f)).trans List.perm_middle
 obtain⟨F1,h1,h2,h3⟩:=(h.perm hp).open_;refine⟨F1,h1,h2,λw' A' ha ho=>(h3 ha ho).perm ?_⟩;have LR:(l++ks.map (λj=>if j=k then A' else f j)).Perm ((if k=k then A' else f k)::(l++(ks.erase k).map (λj=>if j=k then A' else f j))):=(dE l ((List.perm_cons_erase hk).map (λj=>if j=k then A' else f j))).trans List.perm_middle
 rw[if_pos rfl,SI hn]at LR;exact LR.symm
theorem In.YD (h:In F w0 (l++ks.map f) w)(hn:ks.Nodup){k:κ}(hk:k∈ks): ∃F1,(f k).at_ w F1:=by obtain⟨F1,h1,_⟩:=h.Jt hn hk;exact⟨F1,h1⟩
end
theorem Sep.join {w:ah}: ∀{l1 l2:List bT} {F1 F2:Nat->Prop},Sep l1 w F1->Sep l2 w F2->(∀k,F1 k-> ¬F2 k)->Sep (l1++l2) w (λk=>F1 k\/F2 k)
 | [],_,_,_,_,h2,_=>h2.cut λ_ _ h=>bR h
 |A::l1,_,_,_,⟨G1,G2,g1,g2,g3,g4⟩,h2,hd=>⟨G1,_,g1,Sep.join g2 h2 (λk a b=>hd k (g4 k (bR a)) b),λk a b=>by rcases b with b|b;exact g3 k a b;exact hd k (g4 k (br a)) b,λk h=>by rcases h with h|h|h;exact br (g4 k (br h));exact br (g4 k (bR h));exact bR h⟩
theorem Sep.part {w:ah}: ∀{l1 l2:List bT} {F:Nat->Prop},Sep (l1++l2) w F-> ∃F1 F2,Sep l1 w F1/\Sep l2 w F2/\(∀k,F1 k-> ¬F2 k)/\ ∀k,F1 k\/F2 k->F k
 | [],_,F,h=>⟨λ_=>False,F,trivial,h,λ_ h=>h.elim,λk h=>by rcases h with h|h;exact h.elim;exact h⟩
 |A::l1,l2,F,⟨G1,G2,g1,g2,g3,g4⟩=>by
  obtain⟨H1,H2,k1,k2,k3,k4⟩:=Sep.part g2;refine⟨λk=>G1 k\/H1 k,H2,⟨G1,H1,g1,k1,λk a b=>g3 k a (k4 k (br b)),λk h=>h⟩,k2,λk a b=> ?_,λk h=> ?_⟩
  ·rcases a with a|a
   ·exact g3 k a (k4 k (bR b))
   ·exact k3 k a b
  ·rcases h with(h|h)|h
   ·exact g4 k (br h)
   ·exact g4 k (bR (k4 k (br h)))
   ·exact g4 k (bR (k4 k (bR h)))
theorem In.Wr {l:List bT}{F:Nat->Prop}{w0 w:ah}(h:In F w0 l w):Sep l w (IA F w0 w)/\cW F w0 w:=⟨h.sep.cut λk _ hk=>by rcases hk.1 with h|h;exact br h;exact bR ⟨h,hk.2⟩,h.only⟩
theorem Ej (w:ah)(t t':aF)(us zs xs:List Int):fits ((w.alloc (.cells (ints us) t)).alloc (.cells (ints zs) t')) w.heap.size 0 us.length=aA/\fits (putRow ((w.alloc (.cells (ints us) t)).alloc (.cells (ints zs) t')) w.heap.size 0 xs) (w.heap.size+1) 0 zs.length=aA:=by have h2:=dq.new (w.alloc (.cells (ints us) t)) t' (ints zs);rw[cQ]at h2;exact⟨((dq.new w t (ints us)).alloc _).fits 0 _ (by rw[bJ];omega),(h2.yZ (g':=w.heap.size) 0 xs (by omega)).fits 0 _ (by rw[bJ];omega)⟩
theorem In.J6 {F:Nat->Prop}{w0 w:ah}{l:List bT}(h:In F w0 l w)(t t':aF)(us zs xs ys:List Int)(h1:xs.length=us.length)(h2:ys.length=zs.length):In F w0 (bg (w.heap.size+1) t' (ints ys)::bg w.heap.size t (ints xs)::l) (Go.Proofs.YtknejlcijdngoaaGreat.putRow (Go.Proofs.YtknejlcijdngoaaGreat.putRow ((w.alloc (.cells (ints us) t)).alloc (.cells (ints zs) t')) w.heap.size 0 xs) (w.heap.size+1) 0 ys):=by have g:=(h.alloc t (ints us)).alloc t' (ints zs);rw[cQ]at g;exact((g.swap.fc xs h1).swap).fc ys h2
theorem In.fifth {F:Nat->Prop}{w0 w:ah}{A B C D E:bT}{l:List bT}(h:In F w0 (A::B::C::D::E::l) w):In F w0 (E::A::B::C::D::l) w:=⟨((h.sep.lE λ_=>Sep.lE λ_=>Sep.lE λ_=>Sep.swap).lE λ_=>Sep.lE λ_=>Sep.swap).lE (λ_=>Sep.swap)|>.swap,h.only⟩
end
section
open Go.RowKit
end
section
open Go.RowKit
theorem yq:(Tryz.prog.info? 43).map (λi=>(i.zero,i.size,i.bytes))=ae (ae (.agg #[.int .i64 0,.int .i64 0]),2,16):=by kernel_rfl
theorem BI (A:Option Addr)(n c:Nat)(xs:List aq)(w:ah)(B:Nat)(h:Reads w B 2 A n xs)(h1: ∀u∈xs,u.oneCell'=aA)(hA:(A=ai/\n=0/\c=0)\/ ∃b o,A=ae ⟨b,o,ai⟩)(hn:n<=1000000):Calls Tryz.prog 148 #[.slice A n c] w λe w'=> ∃v,e=.returned v/\w'.ownsRow w.heap.size 43 2 v n xs/\Below w.heap.size w w':=by
 have H:=af h;have H1:=af h1;clear h h1;have he:=λw E hE n c n' c' a=>Lib.run_eql_slice_nil (P:=Tryz.prog) w 122 E a n c n' c' hE
 have he2:=λw n c n' c' a=>he w _ Tryz.underlying122 n c n' c' a
 clear he;rcases hA with⟨rfl,rfl,rfl⟩|⟨b,o,rfl⟩
 ·have hx:Hid (xs=[]):=by have:=H.out.1;exact gg (by omega)
  clear hn
  go_enter Tryz.func148,Tryz.ntmps148
  go_wp2_with fail
  go_ret;exact⟨_,rfl,by rw[hx.out];exact World.ownsRow_nil _ _ _ _,Below.refl _ _⟩
 ·skip
  have OD:Hid (∀j u,xs[j]? =ae u->w.cell? ⟨b,o+j,ai⟩=ae u):=by
   unfold Hid;intro j u hu;have hj:=(bH.1 hu).1;have hl:=H.out.1;obtain⟨b',o',e,_,hc⟩:=H.out.2 (by rcases nR n with h|h;rw[h]at hl;omega;exact h);injection e with e
   injection e with e1 e2 e3
   subst e1;subst e2;exact hc j u hu
  obtain⟨i0,qX,uH,vi,uC⟩:=info_parts yq
  go_enter Tryz.func148,Tryz.ntmps148
  go_wp2_with (at_builtin;go_loud (refine wpList_append_own_at _ rfl _ _ _ rfl w.heap.size 43 i0 _ 2 16 Tryz.underlying122 qX uH vi uC rfl (by decide) _ 0 [] rfl ?_ ⟨b,o,ai⟩ n c xs rfl H.out.1 ?_ H1.out (by unfold maxLen;omega) (by omega) (by simp) ?_))
  case refine_1=>exact⟨rfl,bR ⟨w.heap.size,0,#[],rfl,az _,heap_alloc_new w _,az _,by decide,rfl,rfl⟩⟩
  case refine_2=>intro j u hu;have hj:=OD.out j u hu;rw[Addr.add_lit];exact(((Below.refl w.heap.size w).alloc (az _) _).cell (p:=⟨b,o+j,ai⟩) (qV _ _ hj)).trans hj
  intro v' w' gZ hg _ _;have HB:Hid (Below w.heap.size w w'):=((Below.refl w.heap.size w).alloc (az _) _).grown hg (by simp) (λk hk=>by simp[fK]at hk;omega);have HO:=af gZ;clear gZ hg
  go_wp2_with fail
  go_ret;exact⟨_,rfl,HO.out,HB.out⟩
end
section
open Go.RowKit
def lu (x:Int×Bool):Bool:= !x.2&&decide (x.1<1000000)
def tN (ls:List (Int×Bool)):Int:=if ls.findIdx lu<ls.length then(ls.findIdx lu:Nat)else-1
theorem J7 (x:Int)(b:Bool)(w:ah):Calls Tryz.prog 173 #[.agg #[.int .i64 x,.bool b]] w λe w'=>e=.returned (.bool (lu (x,b)))/\Below w.heap.size w w':=by
 have hd:Hid (lu (x,b)=(!b&&decide (x<1000000))):=rfl;cases b
 all_goals
  go_enter Tryz.func173,Tryz.ntmps173
  go_wp2_with fail
  go_ret;exact⟨dv (by rw[hd.out];simp),(Below.refl _ _).alloc (az _) _⟩
theorem Rm (w:ah):Calls Tryz.prog 144 #[] w λe w'=>e=.returned (.pointer (ae ⟨w.heap.size,0,ai⟩))/\dY w' w.heap.size [] (IA (λ_=>False) w w')/\Below w.heap.size w w':=by
 go_enter Tryz.func144,Tryz.ntmps144
 go_wp2_with fail
 go_ret;exact⟨rfl,⟨.slice ai 0 0,dq.new _ _ _,World.ownsRow_nil _ _ _ _,by simp[fK],bR ⟨az _,by simp⟩,λk hk=>by simp[fK]at hk⟩,(Below.refl _ _).alloc (az _) _⟩
theorem Ao {w:ah}{B:Nat}{A:Option Addr}{c:Nat}{ls:List (Int×Bool)}(h:w.ownsRow B 172 2 (.slice A ls.length c) ls.length (ls.flatMap tc)){k:Nat}(hk:k<ls.length): ∃g,A=ae ⟨g,0,ai⟩/\row? w g (k *2) 2=ae #[.int .i64 (ls.getD k (0,aw)).1,.bool (ls.getD k (0,aw)).2]:=by
 obtain⟨A',c',e,wK,vZ,hA⟩:=cH h;obtain⟨g,hg⟩:=hA (by omega);injection e with e1 e2 e3
 subst e1;subst hg;have qv:ls.getD k (0,aw)=ls[k]:=by simp[bp,ao hk]
 have hr:=lg h hk;rw[lO nZ ls k hk]at hr;exact⟨g,rfl,by rw[qv];exact hr⟩
theorem FM (A:Option Addr)(c:Nat)(ls:List (Int×Bool))(w:ah)(h:w.ownsRow 0 172 2 (.slice A ls.length c) ls.length (ls.flatMap tc))(hn:ls.length<=1000000):Calls Tryz.prog 172 #[.slice A ls.length c,.func (.func 173) #[] #[]] w λe w'=>e=.returned (.int .i64 (tN ls))/\Below w.heap.size w w':=by
 have H:=af h;clear h
 go_enter Tryz.func172,Tryz.ntmps172
 go_wp2_with fail
 go_loopw [8] (λi w'=> ∃k:Nat,k<=ls.length/\i=.int .i64 k/\(∀j,j<k->lu (ls.getD j (0,aw))=aw)/\Below w.heap.size w w') (λi _=>ls.length-(intOf i).toNat)
 case atStart=>exact⟨0,by omega,rfl,λj hj=>by omega,Below.refl _ _⟩
 case round=>
  obtain⟨k,hk,rfl,qq,hb⟩:=hrel;have mW:=af qq;have tv:=af hb;clear qq hb;by_cases bE:k<ls.length
  ·have xH:(k:Int)<ls.length:=by omega
   obtain⟨g,rfl,fY⟩:=Ao (nY H.out tv.out) bE;generalize hx:ls.getD k (0,aw)=x at *;obtain⟨x,b⟩:=x;have HX:=af hx;clear hx
   go_wp2_with fail
   refine(J7 x b _).mono ?_;rintro e w1 ⟨rfl,lf⟩;have tu:=af (tv.out.trans (lf.mono tv.out.size));clear lf;cases hF:lu (x,b)
   ·have HF:=af hF;clear hF
    go_wp2_with fail
    go_roundw
    case rel=>
     refine⟨k+1,by omega,by go_num,λj hj=> ?_,tu.out⟩;by_cases tQ:j=k
     ·rw[tQ,HX.out];exact HF.out
     ·exact mW.out j (by omega)
    case measure=>simp[intOf];omega
   ·have Ix:Hid (tN ls=(k:Int)):=by
     have:ls.findIdx lu=k:=by
      rw[List.findIdx_eq bE];have qv:ls.getD k (0,aw)=ls[k]:=by simp[bp,ao bE]
      refine⟨by rw[<-qv,HX.out];exact hF,λj hj=> ?_⟩;have:=mW.out j hj;simpa[bp,ao (show j<ls.length by omega)]using this
     unfold Hid tN;rw[this,if_pos bE]
    clear hF
    go_wp2_with fail
    go_ret;exact⟨eF Ix.out.symm,tu.out⟩
  ·have Ix:Hid (tN ls= -1):=by unfold Hid tN;rw[if_neg];intro yM;have h1:=List.findIdx_getElem (w:=yM);have h2:=mW.out (ls.findIdx lu) (by omega);simp only[bp,ao yM,bI]at h2;rw[h2]at h1;exact absurd h1 (by simp)
   go_wp2_with fail
   go_ret;exact⟨eF Ix.out.symm,tv.out⟩
end
section
open Go.RowKit
theorem wB {w w':ah}{g o n:Nat}{x:Array aq}(hb:Below w.heap.size w w')(h:row? w g o n=ae x):row? w' g o n=ae x:=by
 have bE:g<w.heap.size:=by
  unfold row? at h
  split at h
  ·rename_i hg;exact(aL.1 hg).1
  ·cases h
 rw[iR hb bE];exact h
theorem Hv {w:ah}{g o n:Nat}{x:Array aq}(ob:Obj)(h:row? w g o n=ae x):row? (w.alloc ob) g o n=ae x:=wB ((Below.refl _ _).alloc (az _) _) h
theorem In.Ds {G:Nat->Prop}{w0 w:ah}{l:List bT}(h:In G w0 l w)(E:aF)(size n:Nat)(xs:List aq)(hl:xs.length=n *size)(hn:n<=maxLen):In G w0 (dP E size (.slice (ae ⟨w.heap.size,0,ai⟩) n n) n xs::l) (w.alloc (.cells xs.toArray E)):=h.new (A:=dP E size (.slice (ae ⟨w.heap.size,0,ai⟩) n n) n xs) ((Below.refl _ _).alloc (az _) _) ⟨⟨hl,bR ⟨w.heap.size,n,xs.toArray,rfl,bS _,heap_alloc_new w _,az _,hn,by simpa using hl,by simp[<-hl]⟩⟩,λk hk=>by simp[fK]at hk;omega⟩
theorem xR {α:Type}{enc:α->List aq}{f:α->List Int}{size:Nat}{w:ah}{E:aF}{v:aq}{xs:List α}(he: ∀x,enc x=(f x).map (aZ .i64))(hf: ∀x,(f x).length=size)(h:w.ownsRow 0 E size v xs.length (xs.flatMap enc)): ∃A c,v=.slice A xs.length c/\xs.length<=c/\c<=maxLen/\gu w w.heap.size size A (xs.map f)/\(0<xs.length-> ∃g,A=ae ⟨g,0,ai⟩):=by obtain⟨A,c,rfl,wK,vZ,hA⟩:=cH h;refine⟨A,c,rfl,wK,vZ,⟨λr hr=>by obtain⟨x,_,rfl⟩:=aN.1 hr;exact hf x,λh0=> ?_⟩,hA⟩;rw[List.length_map]at h0;obtain⟨g,rfl⟩:=hA h0;refine⟨g,0,rfl,(h.lt g rfl).2,λk r hr=> ?_⟩;rw[dK]at hr;obtain⟨x,hx,rfl⟩:=aK.1 hr;obtain⟨hk,rfl⟩:=bH.1 hx;have:=lg h hk;rw[lO (λx=>by rw[he,List.length_map,hf]) xs k hk,he]at this;rw[aC];exact this
theorem Ms {α β:Type}{f:α->β}(hf: ∀a b,f a=f b->a=b): ∀{xs ys:List α},xs.map f=ys.map f->xs=ys
 | [],[],_=>rfl
 | [],_::_,h=>by simp at h
 |_::_,[],h=>by simp at h
 |x::xs,y::ys,h=>by
  rw[fA,fA]at h;injection h with h1 h2
  rw[hf _ _ h1,Ms hf h2]
end
section
open Go.RowKit
theorem Nq {P:aS}{f:bQ}{args:Array aq}{w:ah}{v:aq}(h:Calls P f args w λe w'=>e=.returned v/\w=w'):Calls P f args w λe w'=>e=.returned v/\w'=w:=h.mono λ_ _ ⟨h1,h2⟩=>⟨h1,h2.symm⟩
end
section
open Go.RowKit
theorem Qy (n:Int)(w:ah):Calls Tryz.prog 90 #[.int .i64 n] w λe w'=>e=.returned (.int .i64 (BJ n))/\w=w':=by
 have hd:Hid (BJ n=if n< -1000000000 then-1000000000 else if 1000000000<n then 1000000000 else n):=rfl
 go_enter Tryz.func90,Tryz.ntmps90
 go_wp2_with fail
 all_goals go_ret
 all_goals refine⟨eF ?_,rfl⟩
 all_goals rw[hd.out]
 all_goals (split<;>(try split)<;>omega)
theorem Wn (n:Int)(w:ah):Calls Tryz.prog 90 #[.int .i64 n] w λe w'=>e=.returned (.int .i64 (BJ n))/\w'=w:=(Qy n w).mono λ_ _ h=>⟨h.1,h.2.symm⟩
def Cz (w:ah)(g:Nat)(b:aQ)(s:Sys)(w1:ah):Prop:=dq w1 g 48 (ints b.list)/\dq w1 (g+1) 54 (ints s.list)/\dq w1 (g+1+1) 48 (ints [0,0,0,0,0,0,0,0,0])/\Below g w w1
theorem Cz.after {w w1 w2:ah}{g:Nat}{b:aQ}{s:Sys}(h:Cz w g b s w1)(hb:Below w1.heap.size w1 w2):Cz w g b s w2:=⟨h.1.after hb,h.2.1.after hb,h.2.2.1.after hb,h.2.2.2.trans (hb.mono (by have:=h.1.lt;omega))⟩
theorem Cz.facts {w w1:ah}{g:Nat}{b:aQ}{s:Sys}(h:Cz w g b s w1)(hb:b.v.length=8):w1.cell? ⟨g,0,ai⟩=ae (.int .i64 b.k)/\w1.cell? ⟨g+1,3,ai⟩=ae (.int .i64 s.read)/\w1.cell? ⟨g+1,4,ai⟩=ae (.int .i64 s.write)/\w1.cell? ⟨g+1,5,ai⟩=ae (.int .i64 s.act)/\w1.cell? ⟨g+1,6,ai⟩=ae (.int .i64 s.n)/\row? w1 (g+1) 0 3=ae (ints s.q.list)/\row? w1 g 0 9=ae (ints b.list)/\fits w1 (g+1+1) 0 9=aA:=⟨h.1.cell 0,h.2.1.cell 3,h.2.1.cell 4,h.2.1.cell 5,h.2.1.cell 6,h.2.1.eb 0 3 (by simp[Sys.list]),h.1.bt (by simp[aQ.list,hb]),h.2.2.1.fits 0 9 (by decide)⟩
theorem Ij {s:Sys}(h:eQ s=0):cT s.q.pK=aA/\cT s.q.nt=aA/\cT s.q.any=aA/\cT s.read=aA/\cT s.write=aA/\1<=s.act/\s.act<=3/\ -1000000<=s.n/\s.n<=1000000/\(s.act=3->s.n=0)/\(s.act≠2->s.read=0):=by
 unfold eQ at h
 split at h
 ·omega
 ·rename_i hq
  split at h
  ·omega
  ·split at h
   ·omega
   ·rename_i h1 h2
    have um:jZ s.q=0:=by omega
    unfold jZ at um
    split at um
    ·rename_i h3
     simp only[aM]at h3;simp only[iU,oa,decide_eq_true_eq,aM,not_or,not_and]at h1 h2;refine⟨h3.1.1,h3.1.2,h3.2,by simpa using h1.1.1.1.1.1,by simpa using h1.1.1.1.1.2,by omega,by omega,by omega,by omega,?_,?_⟩
     ·intro h;have:=h2.1 h;omega
     ·intro h;have:=h2.2 h;omega
    ·omega
theorem GY {m:Int}:cT m=aA↔0<=m/\m<=255:=by simp[cT]
theorem El (b:aQ)(he: ∀j,j<8->(b.k.toNat.testBit j=aw->b.v.getD j 0=0)/\ -1000000000<=b.v.getD j 0/\b.v.getD j 0<=1000000000)(s:Sys)(l:List Nat)(hl: ∀k∈l,k<8):s.n-1000000000 *l.length<=aiJ b s l/\aiJ b s l<=s.n+1000000000 *l.length:=by
 have h: ∀(l:List Nat) (a:Int),(∀k∈l,k<8)->a-1000000000 *l.length<=l.foldl (λa k=>a+b.v.getD k 0) a/\l.foldl (λa k=>a+b.v.getD k 0) a<=a+1000000000 *l.length:=by
  intro l
  induction l with
  |nil=>intro a _;simp
  |cons k l ih=>
   intro a hl;have h1:=ih (a+b.v.getD k 0) λq hq=>hl q (by simp[hq])
   have h2:=(he k (hl k (by simp))).2;rw[List.foldl_cons,aj];omega
 exact h l s.n hl
theorem P4 (b:aQ)(s:Sys)(l:List Nat)(k:Nat):aiJ b s (l++[k])=aiJ b s l+b.v.getD k 0:=by simp[aiJ]
def o4 (w:ah)(g g6:Nat)(b:aQ)(s:Sys)(A:Option Addr)(q:Nat)(l:List Int)(vals:List Int)(w1:ah):Prop:=Cz w g b s w1/\dq w1 g6 48 (ints (b.k::vals))/\g+2<g6/\gQ w1 g6 A q l
theorem o4.after {w w1 w2:ah}{g g6:Nat}{b:aQ}{s:Sys}{A:Option Addr}{q:Nat}{l vals:List Int}(h:o4 w g g6 b s A q l vals w1)(hb:Below w1.heap.size w1 w2):o4 w g g6 b s A q l vals w2:=⟨h.1.after hb,h.2.1.after hb,h.2.2.1,Reads.below h.2.2.2 (hb.mono (by have:=h.2.1.lt;omega))⟩
theorem o4.set {w w1:ah}{g g6:Nat}{b:aQ}{s:Sys}{A:Option Addr}{q:Nat}{l vals:List Int}(h:o4 w g g6 b s A q l vals w1)(k:Nat)(x:Int):o4 w g g6 b s A q l (vals.set k x) (w1.setCell ⟨g6,1+k,ai⟩ (.int .i64 x)):=by
 obtain⟨⟨h1,h2,h3,h4⟩,h5,h6,h7⟩:=h;refine⟨⟨h1.FD (by omega) _ _,h2.FD (by omega) _ _,h3.FD (by omega) _ _,h4.setCell (p:=⟨g6,1+k,ai⟩) (by show g<=g6;omega) _⟩,?_,h6,?_⟩
 ·have:=h5.set (1+k) (.int .i64 x);rwa[ints_set,dt 1 k,List.set_cons_succ,dt k 1]at this
 ·exact Reads.keep h7 λb' o jN=>World.cell?_setCell_other w1 ⟨g6,1+k,ai⟩ ⟨b',o,ai⟩ _ (λe=>by injection e;omega)
theorem o4.drew {w w1:ah}{g g6:Nat}{b:aQ}{s:Sys}{A:Option Addr}{q:Nat}{l vals:List Int}(h:o4 w g g6 b s A q l vals w1):o4 w g g6 b s A q l vals w1.drew:=h.after (Below.refl _ _).drew
theorem vj {w:ah}{B:Nat}{A:Option Addr}{M j:Nat}(h:gQ w B A (kinds M).length (eE M))(hj:j<(kinds M).length): ∃bl o k,A=ae ⟨bl,o,ai⟩/\w.cell? ⟨bl,o+j,ai⟩=ae (.int .i64 ((k:Nat):Int))/\Hid (k=(kinds M).getD j 0)/\k∈kinds M/\k<8/\Hid ((kinds M).take (j+1)=(kinds M).take j++[k]):=by
 obtain⟨bl,o,hA,_,hl,hc⟩:=h.at_ hj;have hk:(eE M)[j]=(((kinds M)[j]:Nat):Int):=by simp[eE]
 rw[hk]at hc;exact⟨bl,o,(kinds M)[j],hA,hc,by simp[Hid,bp,ao hj],aU hj,((ju M _).1 (aU hj)).1,aR hj⟩
theorem Wq (b:aQ)(s:Sys)(hb:b.v.length=8)(he:bK b=0)(hs:eQ s=0)(w:ah):Calls Tryz.prog 39 #[.agg (ints b.list),.agg (ints s.list)] w λe w'=>e=.returned (.agg (ints (cq b s).list))/\Below w.heap.size w w':=by
 obtain⟨hk,hv⟩:=ns b he;obtain⟨_,_,_,hr,XG,ah6,ah7,hn1,hn2,hsw,OP⟩:=Ij hs;obtain⟨Td,OU⟩:=Jh b.k s.write hk (GY.1 XG);obtain⟨hr1,Ja⟩:=Jh b.k s.read hk (GY.1 hr);have HW:=af Td;have HR:=af hr1;have HB:=af hb;have HV:=af hv;clear hb he hs hr XG Td hr1 hsw OP hv;have zD:b.list.length=9:=by simp[aQ.list,HB.out]
 go_enter Tryz.func39,Tryz.ntmps39
 go_upto_region 1 with(fail)
 refine cc (Cz w w.heap.size b s) ?_ ?_
 ·obtain⟨h1,h2,h3⟩:=aha w 48 54 48 (ints b.list) (ints s.list) (ints [0,0,0,0,0,0,0,0,0]);exact⟨h1,h2,h3,(((Below.refl _ _).alloc (az _) _).alloc (by simp) _).alloc (by simp;omega) _⟩
 intro w1 hM;obtain⟨f0,f3,f4,f5,f6,fq,fb,ff⟩:=hM.facts HB.out;have HM:=af hM;clear hM
 go_wp2_with fail
 refine(Dm _ _ _).mono ?_;rintro e w2 ⟨rfl,gV⟩;have BE:=af (HM.out.after gV);clear f0 f3 f4 f5 f6 fq fb ff gV HM;obtain⟨f0,f3,f4,f5,f6,fq,fb,ff⟩:=BE.out.facts HB.out;by_cases hq:fD b.k s.q=aA
 ·have hd:Hid (cq b s=⟨b.k,qG (ja b s (wl b s)) (wl b s) b.v (wl b s).length⟩):=by unfold Hid cq;rw[if_pos hq]
  rw[hq];clear hq;have ahi:Hid (m8 (bits .and .i64 b.k s.write)=b.k.toNat &&& s.write.toNat):=by unfold Hid;rw[HW.out];unfold m8;omega
  have ahh:Hid (m8 (bits .and .i64 b.k s.read)=b.k.toNat &&& s.read.toNat):=by unfold Hid;rw[HR.out];unfold m8;omega
  have hwl:Hid (wl b s=kinds (b.k.toNat &&& s.write.toNat)):=rfl;have hrl:Hid (rl b s=kinds (b.k.toNat &&& s.read.toNat)):=rfl;generalize b.k.toNat &&& s.write.toNat=M at *;generalize b.k.toNat &&& s.read.toNat=N at *
  go_wp2_with fail
  refine(vm _ _).mono ?_;rintro e w3 ⟨v,rfl,ho,SX⟩;rw[ahi.out]at ho;obtain⟨A,c,rfl,hr⟩:=ho.form;have hlen:(eE M).length=(kinds M).length:=by simp[eE]
  rw[hlen]at hr⊢;clear hlen;have Qn:=af (BE.out.after SX);clear f0 f3 f4 f5 f6 fq fb ff;obtain⟨f0,f3,f4,f5,f6,fq,fb,ff⟩:=Qn.out.facts HB.out;have hfz:fits (w3.alloc (.cells (ints [0,0,0,0,0,0,0,0,0]) 48)) w3.heap.size 0 9=aA:=(dq.new w3 48 (ints [0,0,0,0,0,0,0,0,0])).fits 0 9 (by decide);have HO:=af ho;have HR3:=af hr;clear ho hr BE SX
  go_upto_region 5 with(fail)
  have OF:w.heap.size+2<w3.heap.size:=by have:=Qn.out.2.2.1.lt;omega
  refine cc (o4 w w.heap.size w3.heap.size b s A (kinds M).length (eE M) b.v) ?_ ?_
  ·have afA:Below w3.heap.size w3 (putRow (w3.alloc (.cells (ints [0,0,0,0,0,0,0,0,0]) 48)) w3.heap.size 0 b.list):=lM ((Below.refl _ _).alloc (az _) _) (az _) _ _
   exact⟨Qn.out.after afA,(dq.new w3 48 (ints [0,0,0,0,0,0,0,0,0])).fc b.list zD,OF,Reads.below HR3.out afA⟩
  clear hfz HR3 HO;intro w4 hM4;have HM4:=af hM4;clear hM4 Qn f0 f3 f4 f5 f6 fq fb ff;generalize w3.heap.size=g6 at *;obtain⟨f0,f3,f4,f5,f6,fq,fb,ff⟩:=HM4.out.1.facts HB.out
  go_wp2_with fail
  refine(vm _ _).mono ?_;rintro e w5 ⟨v,rfl,ho,hb5⟩;rw[ahh.out]at ho;obtain⟨A5,c5,rfl,hr5⟩:=ho.form;have hlen:(eE N).length=(kinds N).length:=by simp[eE]
  rw[hlen]at hr5⊢;clear hlen;have HM5:=af (HM4.out.after hb5);have HR5:=af hr5;clear f0 f3 f4 f5 f6 fq fb ff ho hr5 HM4;obtain⟨f0,f3,f4,f5,f6,fq,fb,ff⟩:=HM5.out.1.facts HB.out;clear hb5;have hn8:=pQ N
  go_wp2_with fail
  go_loop [7,35] (λsm i=> ∃j:Nat,j<=(kinds N).length/\i=.int .i64 j/\sm=.int .i64 (aiJ b s ((kinds N).take j))) (λ_ i=>(kinds N).length-(intOf i).toNat)
  case atStart=>exact⟨0,bS _,rfl,rfl⟩
  case round=>
   obtain⟨j,hj,rfl,rfl⟩:=hrel;by_cases bE:j<(kinds N).length
   ·obtain⟨bl,o,k,rfl,hc,_,Xm,sK,OT⟩:=vj HR5.out bE;have hcv:w5.cell? ⟨w.heap.size,1+k,ai⟩=ae (.int .i64 (b.v.getD k 0)):=by rw[HM5.out.1.1.cell,kM,dt];simp only[aQ.list,eO];rw[ao (by rw[HB.out];exact sK)];simp[bp,ao (show k<b.v.length by rw[HB.out];exact sK)]
    obtain⟨BQ,ZN⟩:=(HV.out k sK).2;obtain⟨Fi,xJ⟩:=El b HV.out s ((kinds N).take j) (λq hq=>((ju N q).1 (oY hq)).1);have ry:((kinds N).take j).length<=8:=by rw[dW];omega
    have hsn:Hid (aiJ b s ((kinds N).take (j+1))=aiJ b s ((kinds N).take j)+b.v.getD k 0):=by unfold Hid;rw[OT.out,P4]
    clear OT;generalize b.v.getD k 0=x at *;generalize aiJ b s ((kinds N).take j)=S at *;generalize ((kinds N).take j).length=L at *
    go_wp2
    go_round
    case rel=>exact⟨j+1,by omega,by go_num,by rw[hsn.out]⟩
    case measure=>simp[intOf];omega
   ·have hjq:j=(kinds N).length:=by omega
    subst hjq;have HS:Hid (aiJ b s ((kinds N).take (kinds N).length)=aiJ b s (rl b s)):=by unfold Hid;rw[cD,hrl.out]
    obtain⟨Fi,xJ⟩:=El b HV.out s ((kinds N).take (kinds N).length) (λq hq=>((ju N q).1 (oY hq)).1);rw[dW,Nat.min_self]at Fi xJ;generalize aiJ b s ((kinds N).take (kinds N).length)=S at *;clear bE hj HR5;have hm8:=pQ M;have hM5:=HM5.out
    go_wp2_with fail
    go_loopw [48] (λi wr=> ∃j:Nat,j<=(kinds M).length/\i=.int .i64 j/\o4 w w.heap.size g6 b s A (kinds M).length (eE M) (qG (ja b s (wl b s)) (wl b s) b.v j) wr) (λi _=>(kinds M).length-(intOf i).toNat)
    case atStart=>exact⟨0,bS _,rfl,hM5⟩
    case round=>
     clear f0 f3 f4 f5 f6 fq fb ff hM5 HM5;obtain⟨j,hj,rfl,hMr⟩:=hrel;have VI:=af hMr;clear hMr;obtain⟨f0,f3,f4,f5,f6,fq,fb,ff⟩:=VI.out.1.facts HB.out;have U':Hid ((qG (ja b s (wl b s)) (wl b s) b.v j).length=8):=by unfold Hid;rw[yU,HB.out]
     by_cases bE:j<(kinds M).length
     ·obtain⟨bl,o,k,rfl,hc,zG,Xm,sK,OT⟩:=vj VI.out.2.2.2 bE;have hcv:wr.cell? ⟨w.heap.size,1+k,ai⟩=ae (.int .i64 (b.v.getD k 0)):=by rw[VI.out.1.1.cell,kM,dt];simp only[aQ.list,eO];rw[ao (by rw[HB.out];exact sK)];simp[bp,ao (show k<b.v.length by rw[HB.out];exact sK)]
      have hco:wr.cell? ⟨g6,1+k,ai⟩=ae (.int .i64 ((qG (ja b s (wl b s)) (wl b s) b.v j).getD k 0)):=by rw[VI.out.2.1.cell,kM,dt,eO];rw[ao (by rw[U'.out];exact sK)];simp[bp,ao (show k<(qG (ja b s (wl b s)) (wl b s) b.v j).length by rw[U'.out];exact sK)]
      have hfo:wr.frozen? ⟨g6,1+k,ai⟩=aw:=VI.out.2.1.frozen _;obtain⟨BQ,ZN⟩:=(HV.out k sK).2;have eD:Hid (∀x,x=ja b s (wl b s) j->o4 w w.heap.size g6 b s (ae ⟨bl,o,ai⟩) (kinds M).length (eE M) (qG (ja b s (wl b s)) (wl b s) b.v (j+1)) (wr.setCell ⟨g6,1+k,ai⟩ (.int .i64 x))):=by intro x hx;have:=VI.out.set k x;rw[hx,zG.out]at this;unfold qG;rw[hwl.out]at this⊢;rw[hx,hwl.out,zG.out];exact this
      have hnv:Hid (ja b s (wl b s) j=if s.act=1 then BJ (b.v.getD k 0+s.n)else if s.act=2 then BJ S else b.v.getD ((kinds M).getD ((j+1) % (kinds M).length) 0) 0):=by unfold Hid ja;rw[hwl.out,<-zG.out,HS.out]
      generalize (qG (ja b s (wl b s)) (wl b s) b.v j).getD k 0=y at *;generalize hx:b.v.getD k 0=x at *;have HX:=af hx;clear hx;by_cases QP:s.act=1
      ·have afw:(s.act==1)=aA:=by simpa using QP
       have S8:Hid (BJ (x+s.n)=ja b s (wl b s) j):=by unfold Hid;rw[hnv.out,if_pos QP]
       clear QP;have aix:(k:Int)<8:=by omega
       have LZ:IntKind.i64.wrap (x+s.n)=x+s.n:=IntWalk.i64_in _ (by omega)
       go_upto_region 16 with(fail)
       go_still_tail 11,(by kernel_rfl)
       still_call (Wn _ _)
       repeat still_step
       refine wpStill_nil ?_;change wpList _ _ _ _ _ wr.drew;rw[S8.out]
       go_wp2_with fail
       go_roundw
       case rel=>exact⟨j+1,by omega,by go_num,(eD.out _ rfl).drew⟩
       case measure=>simp[intOf];omega
      ·by_cases Xb:s.act=2
       ·have afw:(s.act==1)=aw:=by simpa using QP
        have ahl:(s.act==2)=aA:=by simpa using Xb
        have S8:Hid (BJ S=ja b s (wl b s) j):=by unfold Hid;rw[hnv.out,if_neg QP,if_pos Xb]
        clear QP Xb
        go_wp2_with fail
        refine(Qy _ _).mono ?_;rintro e w' ⟨rfl,rfl⟩;rw[S8.out]
        go_wp2_with fail
        go_roundw
        case rel=>exact⟨j+1,by omega,by go_num,eD.out _ rfl⟩
        case measure=>simp[intOf];omega
       ·have afw:(s.act==1)=aw:=by simpa using QP
        have ahl:(s.act==2)=aw:=by simpa using Xb
        have aij:(s.act==3)=aA:=by simp;omega
        have ahN:(j+1) % (kinds M).length<(kinds M).length:=Nat.mod_lt _ (by omega);obtain⟨_,_,k',I7,OC,afS,ahI,afR,ahS⟩:=vj VI.out.2.2.2 ahN;simp only[dz,Addr.mk.injEq,and_true]at I7;obtain⟨rfl,rfl⟩:=I7;have S8:Hid (b.v.getD k' 0=ja b s (wl b s) j):=by unfold Hid;rw[hnv.out,if_neg QP,if_neg Xb,afS.out]
        have ahw:wr.cell? ⟨w.heap.size,1+k',ai⟩=ae (.int .i64 (b.v.getD k' 0)):=by rw[VI.out.1.1.cell,kM,dt];simp only[aQ.list,eO];rw[ao (by rw[HB.out];exact afR)];simp[bp,ao (show k'<b.v.length by rw[HB.out];exact afR)]
        rw[S8.out]at ahw;have hme:((j:Int)+1) % ((kinds M).length:Int)=(((j+1) % (kinds M).length:Nat):Int):=by push_cast;rfl
        clear QP Xb afS ahI ahS S8;generalize (j+1) % (kinds M).length=i' at *;have h8i:(k':Int)<8:=by omega
        go_wp2_with fail
        go_roundw
        case rel=>exact⟨j+1,by omega,by go_num,eD.out _ rfl⟩
        case measure=>simp[intOf];omega
     ·have hjq:j=(kinds M).length:=by omega
      subst hjq;have hd':Hid (cq b s=⟨b.k,qG (ja b s (wl b s)) (wl b s) b.v (kinds M).length⟩):=by unfold Hid;rw[hd.out];rw[hwl.out]
      have Kv:(b.k::qG (ja b s (wl b s)) (wl b s) b.v (kinds M).length).length=9:=by rw[aj,U'.out]
      have afn:row? wr g6 0 9=ae (ints (b.k::qG (ja b s (wl b s)) (wl b s) b.v (kinds M).length)):=VI.out.2.1.bt Kv;generalize qG (ja b s (wl b s)) (wl b s) b.v (kinds M).length=V at *
      go_wp2_with fail
      refine bodyPost_ret (v:=.agg (ints (b.k::V))) (results_cell_row rfl _ _ (w.heap.size+1+1) 48 (ints (b.k::V)) (0,0) _ rfl (VI.out.1.2.2.1.fc _ Kv) Tryz.underlying48 rfl (by rw[bJ,Kv];exact p9)) rfl ?_;exact⟨by rw[hd'.out];rfl,lM VI.out.1.2.2.2 (by omega) _ _⟩
 ·have hd:Hid (cq b s=b):=by unfold Hid cq;rw[if_neg hq]
  have um:fD b.k s.q=aw:=by simpa using hq
  rw[um];clear hq um
  go_wp2_with fail
  refine bodyPost_ret (v:=.agg (ints b.list)) (results_cell_row rfl _ _ (w.heap.size+1+1) 48 (ints b.list) (0,0) _ rfl (BE.out.2.2.1.fc _ zD) Tryz.underlying48 rfl (by rw[bJ,zD];exact p9)) rfl ?_;exact⟨by rw[hd.out],lM BE.out.2.2.2 (by omega) _ _⟩
end
section
open Go.RowKit
theorem Sx (s t:Sys)(w:ah):Calls Tryz.prog 87 #[.agg (ints s.list),.agg (ints t.list)] w λe w'=>e=.returned (.bool (gB s t))/\Below w.heap.size w w':=by
 have hd:Hid (gB s t=(bits .or .i64 (bits .and .i64 s.write (bits .or .i64 t.read t.write)) (bits .and .i64 t.write s.read) !=0)):=rfl
 go_enter Tryz.func87,Tryz.ntmps87
 go_upto_region 1 with(fail)
 obtain⟨h1,h2⟩:=ag' w 54 54 (ints s.list) (ints t.list);refine cc (λw'=>dq w' w.heap.size 54 (ints s.list)/\dq w' (w.heap.size+1) 54 (ints t.list)/\Below w.heap.size w w') ⟨h1,h2,((Below.refl _ _).alloc (az _) _).alloc (by simp) _⟩ ?_;rintro w1 ⟨h1,h2,h3⟩;have H3:=af h3;have c1:w1.cell? ⟨w.heap.size,3,ai⟩=ae (.int .i64 s.read):=h1.cell 3;have c2:w1.cell? ⟨w.heap.size,4,ai⟩=ae (.int .i64 s.write):=h1.cell 4;have c3:w1.cell? ⟨w.heap.size+1,3,ai⟩=ae (.int .i64 t.read):=h2.cell 3;have c4:w1.cell? ⟨w.heap.size+1,4,ai⟩=ae (.int .i64 t.write):=h2.cell 4;clear h1 h2 h3
 go_wp2_with fail
 go_ret;exact⟨dv hd.out.symm,H3.out⟩
theorem After.row {W:ah}{g n:Nat}{t:aF}{xs:List Int}(h:dq W g t (ints xs))(hn:xs.length=n)(a:After W):row? a.w g 0 n=ae (ints xs):=(h.after a.below).bt hn
end
section
open Go.RowKit
theorem ajK {x:aQ×Int}{b:aQ}{n:Int}(h:x=(b,n)):Ending.returned (.tuple #[.agg (ints b.list),.int .i64 n])=.returned (.tuple #[.agg (ints x.1.list),.int .i64 x.2]):=by rw[h]
theorem ajT (b:aQ)(s:Sys)(hb:b.v.length=8)(w:ah):Calls Tryz.prog 19 #[.agg (ints b.list),.agg (ints s.list)] w λe w'=>e=.returned (.tuple #[.agg (ints (aiO b s).1.list),.int .i64 (aiO b s).2])/\Below w.heap.size w w':=by
 have HB:=af hb;have zD:b.list.length=9:=by simp[aQ.list,hb]
 clear hb
 go_enter Tryz.func19,Tryz.ntmps19
 go_upto_region 1 with(fail)
 refine cc (Cz w w.heap.size b s) ?_ ?_
 ·obtain⟨h1,h2,h3⟩:=aha w 48 54 48 (ints b.list) (ints s.list) (ints [0,0,0,0,0,0,0,0,0]);exact⟨h1,h2,h3,(((Below.refl _ _).alloc (az _) _).alloc (by simp) _).alloc (by simp;omega) _⟩
 intro w1 hM;have frs:row? w1 (w.heap.size+1) 0 7=ae (ints s.list):=hM.2.1.bt rfl;have HM:=af hM;clear hM
 go_wp2_with fail
 refine(Sv s _).mono ?_;rintro e w2 ⟨rfl,gV⟩;have BE:=af (HM.out.after gV);clear gV HM frs;have frs:row? w2 (w.heap.size+1) 0 7=ae (ints s.list):=BE.out.2.1.bt rfl;have frb:row? w2 w.heap.size 0 9=ae (ints b.list):=BE.out.1.bt zD;have ff:fits w2 (w.heap.size+1+1) 0 9=aA:=BE.out.2.2.1.fits 0 9 (by decide);by_cases hs:eQ s=0
 ·have HS:=af hs;rw[hs];clear hs
  go_wp2_with fail
  refine(qa b HB.out _).mono ?_;rintro e w3 ⟨rfl,SX⟩;have Qn:=af (BE.out.after SX);clear SX BE frs frb ff;have frs:row? w3 (w.heap.size+1) 0 7=ae (ints s.list):=Qn.out.2.1.bt rfl;have frb:row? w3 w.heap.size 0 9=ae (ints b.list):=Qn.out.1.bt zD;have ff:fits w3 (w.heap.size+1+1) 0 9=aA:=Qn.out.2.2.1.fits 0 9 (by decide);by_cases he:bK b=0
  ·have HE:=af he;have HR:Hid (aiO b s=(cq b s,0)):=by unfold Hid aiO;rw[if_pos HS.out,if_pos he]
   rw[he];clear he
   go_wp2_with fail
   refine(Wq b s HB.out HE.out HS.out _).mono ?_;rintro e w4 ⟨rfl,UZ⟩;have HM4:=af (Qn.out.after UZ);clear UZ Qn frs frb ff;have ff:fits w4 (w.heap.size+1+1) 0 9=aA:=HM4.out.2.2.1.fits 0 9 (by decide);have hdl:(cq b s).list.length=9:=by
    unfold cq
    split
    ·simp[aQ.list,yU,HB.out]
    ·exact zD
   go_wp2_with fail
   refine cA rfl (w.heap.size+1+1) 48 (ints (cq b s).list) (.int .i64 0) _ rfl rfl (HM4.out.2.2.1.fc _ hdl) Tryz.underlying48 rfl (by rw[bJ,hdl];exact p9) rfl ?_;exact⟨ajK HR.out,lM HM4.out.2.2.2 (by omega) _ _⟩
  ·have HR:Hid (aiO b s=(n9,bK b)):=by unfold Hid aiO;rw[if_pos HS.out,if_neg he]
   have I7:(bK b !=0)=aA:=by simpa using he
   clear he;generalize bK b=E at *
   go_wp2_with fail
   refine cA rfl (w.heap.size+1+1) 48 (ints n9.list) (.int .i64 E) _ rfl rfl (Qn.out.2.2.1.fc _ rfl) Tryz.underlying48 rfl p9 rfl ?_;exact⟨ajK HR.out,lM Qn.out.2.2.2 (by omega) _ _⟩
 ·have HR:Hid (aiO b s=(n9,eQ s)):=by unfold Hid aiO;rw[if_neg hs]
  have GN:(eQ s !=0)=aA:=by simpa using hs
  clear hs;generalize eQ s=E at *
  go_wp2_with fail
  refine cA rfl (w.heap.size+1+1) 48 (ints n9.list) (.int .i64 E) _ rfl rfl (BE.out.2.2.1.fc _ rfl) Tryz.underlying48 rfl p9 rfl ?_;exact⟨ajK HR.out,lM BE.out.2.2.2 (by omega) _ _⟩
end
section
open Go.RowKit
end
section
open Go.RowKit
theorem ajP (b:aQ)(s:Sys)(hb:b.v.length=8)(hs:eQ s=0)(he:bK b=0)(w:ah):Calls Tryz.prog 19 #[.agg (ints b.list),.agg (ints s.list)] w λe w'=>e=.returned (.tuple #[.agg (ints (cq b s).list),.int .i64 0])/\Below w.heap.size w w':=by
 have h:aiO b s=(cq b s,0):=by unfold aiO;rw[if_pos hs,if_pos he]
 have:=ajT b s hb w;rw[h]at this;exact this
end
namespace Rel
open Go.Conc Go.ConcN
open Go.ConcR (KK WgAt rd wr Payload DC0 stA smA Bk)
theorem zQ {α:Type}{p q:α->Bool}: ∀{l:List α},(∀x∈l,p x=aA->q x=aA)->(∃y∈l,q y=aA/\p y=aw)->l.countP p<l.countP q
 | [],_,h=>by obtain⟨y,hy,_⟩:=h;cases hy
 |x::l,h,⟨y,hy,h1,h2⟩=>by
  have hle:l.countP p<=l.countP q:=List.countP_mono_left λz hz=>h z (by simp[hz])
  rcases cy.1 hy with rfl|hy
  ·simp only[List.countP_cons,h1,h2,if_true,e9,if_false];omega
  ·have:=zQ (l:=l) (λz hz=>h z (by simp[hz])) ⟨y,hy,h1,h2⟩;simp only[List.countP_cons];have hx:=h x (by simp);cases hp:p x with
   |false=>cases hq:q x<;>simp<;>omega
   |true=>rw[hx hp];simp;omega
def Mq (ops:Array Oper):Bool:=(aG ops.size).all λi=>((ops[i]?).map λo=>o.after.all λe=>decide (e.on<i)).getD aw
theorem FT {ops:Array Oper}(h:Mq ops=aA){listed:Array Bool}(hs:listed.size=ops.size)(hr:gO .any ops listed=[]): ∀i,i<ops.size->listed.getD i aA=aA:=by
 intro i
 induction i using l7 with
 |_ i ih=>
  intro hi;cases hl:listed.getD i aA with
  |true=>rfl
  |false=>
   exfalso;have hm:i∈gO .any ops listed:=by
    unfold gO;refine cu.2 ⟨mD.2 hi,?_⟩;have ha:=List.all_eq_true.1 h i (mD.2 hi);rw[hl];cases ho:ops[i]? with
    |none=>rw[ho]at ha;cases ha
    |some o=>
     rw[ho]at ha;simp only[eY,bI,Bool.not_false,Bool.true_and]at ha⊢;refine eK.2 λj hj=> ?_
     have:=of_decide_eq_true (eK.1 ha j hj);have h2:=ih _ this (by omega);have bE:o.after[j].on<listed.size:=by omega
     rw[bF,aX bE]at h2⊢;simp only[bI]at h2⊢;rw[h2];simp
   rw[hr]at hm;cases hm
section
variable [Payload] {φ:Ph} {b:bm} {k:List Item} {cs:List bm} {ops:Array Oper}
theorem Ph.WT.V1 (I:Array Bool->Act->ah->Gh->Prop)(aaS: ∀listed a w γ,I listed a w γ->gO .any ops listed=[]->φ.WT γ (G (b.at a (.inRegion ops []::k)) cs) w)(eD: ∀listed a w γ,listed.size=ops.size->I listed a w γ-> ∀i∈gO .any ops listed,∀rest,(∀a' w' γ',I (listed.setIfInBounds i aA) a' w' γ'->φ.WT γ' (G (b.at a' (.inRegion ops rest::k)) cs) w')->φ.WT γ (G (b.at a (.inRegion ops (i::rest)::k)) cs) w): ∀(fuel t:Nat) (listed:Array Bool) (a:Act) (w:ah) (γ:Gh),listed.size=ops.size->(aG ops.size).countP (λi=> !listed.getD i aA)<=fuel->I listed a w γ->φ.WT γ (G (b.at a (.inRegion ops (Region.linearise.go .any ops fuel t listed [])::k)) cs) w:=by
 intro fuel
 induction fuel with
 |zero=>
  intro t listed a w γ hs hc hI;refine aaS listed a w γ hI ?_;have h0:(aG ops.size).countP (λi=> !listed.getD i aA)=0:=by omega
  rw[List.countP_eq_zero]at h0;unfold gO;refine List.filter_eq_nil_iff.2 λi hi=> ?_
  have:=h0 i hi;simp only[oa]at this;simp only[aM,oa,not_and];intro h;rw[h]at this;exact absurd rfl this
 |succ fuel ih=>
  intro t listed a w γ hs hc hI;simp only[Region.linearise.go];change φ.WT γ (G (b.at a (.inRegion ops (match (gO .any ops listed)[t % (gO .any ops listed).length]? with
   |some i=>Region.linearise.go .any ops fuel (t / (gO .any ops listed).length) (listed.setIfInBounds i aA) [i]
   |none=>[].reverse)::k)) cs) w
  cases hi:(gO .any ops listed)[t % (gO .any ops listed).length]? with
  |none=>
   have S7:gO .any ops listed=[]:=by
    cases hr:gO .any ops listed with
    |nil=>rfl
    |cons x xs=>rw[hr]at hi;have bE:t % (x::xs).length<(x::xs).length:=Nat.mod_lt _ (by simp);simp at hi;simp at bE;omega
   exact aaS listed a w γ hI S7
  |some i=>
   simp only[];rw[linearise_go_acc,List.reverse_singleton,List.singleton_append];have hm:=oX hi;refine eD listed a w γ hs hI i hm _ λa' w' γ' hI'=>ih _ _ a' w' γ' (by simpa using hs) ?_ hI'
   have U7:=hm;unfold gO at U7;obtain⟨hr,hp⟩:=cu.1 U7;have hl:listed.getD i aA=aw:=by simp only[aM,oa]at hp;exact hp.1
   have bE:i<listed.size:=by have:=mD.1 hr;omega
   have:(aG ops.size).countP (λj=> !(listed.setIfInBounds i aA).getD j aA)<(aG ops.size).countP (λj=> !listed.getD j aA):=by
    refine zQ (λj _ hj=> ?_) ⟨i,hr,by rw[hl];rfl,?_⟩
    ·by_cases e:i=j
     ·subst e;rw[hl];rfl
     ·rw[bF,aO e,<-bF]at hj;exact hj
    ·rw[bF,aW bE]
     rfl
   omega
theorem Ph.WT.drawn (O:φ.Ok){γ:Gh}{w:ah}{a:Act}(hm:φ.P.follows .mixedOrders=aA){id:Nat}(h: ∀n,φ.WT γ (G (b.at a (.inRegion ops (Region.linearise .any ops n)::k)) cs) w):φ.WT γ (G (b.at a (.code (.region id ops aA)::k)) cs) w:=by
 refine .step (λaD=>G (b.at a (.inRegion ops (Region.linearise .any ops (aD.tape aD.drawn (.order b.fn id)))::k)) cs) (λaD=>{aD with drawn:=aD.drawn+1}) (λ_=> #[]) rfl (λaD _=>⟨?_,λ_ _ _ _=>rfl,λ_ _ _=>rfl,λ_ _=>rfl,az _,rfl,rfl,rfl,by simp⟩) λaD hr=> ?_
 ·simp[G,stepG,iW,Frame.at,choose,Sem.run,gi,Question.forced,Question.cut,Region.schedule,hm]
 ·rw[Gh.GG γ (w:=aD) (w':={aD with drawn:=aD.drawn+1}) rfl];exact(h _).rely O (hr.trans ⟨λ_ _=>rfl,λ_ _=>rfl,λ_ _ _ _=>rfl,λ_ _=>rfl,λh=>h,az _,rfl,rfl,rfl⟩)
end
end Rel
section
open Go.RowKit
end
section
open Go.RowKit
theorem J5 {P:aS}{ops:Array Oper}{o:Oper}{a:Act}{w:ah}{K:Act->ah->Prop}{Q:Exit->Act->ah->Prop}{X:Prop}(qv:o.guard=ai)(s x:cw)(t:aF)(ho:o.op=.call {callee:=.builtin .append,args:= #[s,x],argTypes:= #[t,t]})(base:Nat)(e:aF)(i:TypeInfo)(z:aq)(size bytes:Nat)(ht:P.underlying t=ae (.slice e))(hi:P.info? e=ae i)(hz:i.zero=ae z)(vg:i.size=size)(LH:i.bytes=bytes)(Q8:z.cells.size=size)(km:0<size)(v:aq)(n:Nat)(xs:List aq)(hs:a.eval s=v)(gZ:w.ownsRow base e size v n xs)(news:List aq)(hx:a.eval x=.slice (ae ⟨w.heap.size,0,ai⟩) 1 1)(hl:news.length=size)(h1: ∀u∈news,u.oneCell'=aA)(W1:n+1<=maxLen)(qu:(n+1) *bytes<=140737488355328)(GK:base<=w.heap.size)(h: ∀v' w',w'.ownsRow base e size v' (n+1) (xs++news)->(w.alloc (.cells news.toArray e)).grownBy w' v.ownBlock->(v'.ownBlock=v.ownBlock\/v'.ownBlock=ae (w.heap.size+1))->K (a.put o.dst v') w'):if bu o (yielded ops a.tmps)=aA then Oper.wp P o a (w.alloc (.cells news.toArray e)) K Q else X:=by
 have hw:bu o (yielded ops a.tmps)=aA:=by simp[bu,qv]
 rw[if_pos hw];have OD: ∀j u,news[j]? =ae u->(w.alloc (.cells news.toArray e)).cell? ((⟨w.heap.size,0,ai⟩:Addr).add j)=ae u:=by intro j u hu;rw[show(⟨w.heap.size,0,ai⟩:Addr).add j=⟨w.heap.size,j,ai⟩from by unfold Addr.add;split<;>simp_all];rw[cell_of_row _ w.heap.size j news.toArray e (0,0) (heap_alloc_new w _)];simpa using hu
 obtain⟨v',w',hr,h2,h3,h4,h5⟩:=run_append_own_at (P:=P) (w.alloc (.cells news.toArray e)) base t o.type e i z size bytes ht hi hz vg LH Q8 km v n xs (gZ.alloc _) ⟨w.heap.size,0,ai⟩ 1 1 news (by rw[hl,jR]) OD h1 W1 qu (by simp;omega);unfold Oper.wp;simp[execOp,ho,resolve,invoke,builtin,hs,hx,hr,dU];exact h v' w' h2 h3 (by simpa using h5)
end
section
open Go.RowKit
theorem I4 (w:ah)(row:Option Nat):w.grownBy w row:=⟨rfl,rfl,rfl,az _,λ_ _ _=>rfl⟩
section
variable {P:aS} {w:ah}
theorem vE (t ty E:aF)(i:TypeInfo)(z:aq)(size bytes:Nat)(ht:P.underlying t=ae (.slice E))(hi:P.info? E=ae i)(hz:i.zero=ae z)(vg:i.size=size)(LH:i.bytes=bytes)(Q8:z.cells.size=size)(km:0<size){v u:aq}{n m:Nat}{xs news:List aq}(gZ:w.ownsRow 0 E size v n xs)(adS:w.ownsRow 0 E size u m news)(h1: ∀x∈news,x.oneCell'=aA)(W1:n+m<=maxLen)(qu:(n+m) *bytes<=140737488355328): ∃v' w',(Builtin.append_ #[t,t] ty #[v,u]).run P w=.ok v' w'/\w'.ownsRow 0 E size v' (n+m) (xs++news)/\w.grownBy w' v.ownBlock/\(v'.ownBlock=v.ownBlock\/v'.ownBlock=ae w.heap.size):=by
 obtain⟨hl,h|⟨g,cap,cur,rfl,_,hg,wK,vZ,hc3,hc4⟩⟩:=adS
 ·obtain⟨rfl,rfl⟩:=h;have hn:news=[]:=gg (by omega);subst hn;refine⟨v,w,run_append_owned_none (P:=P) (w:=w) 0 t ty E i size ht hi v n xs gZ,by simpa using gZ,I4 _ _,br rfl⟩
 ·obtain⟨v',w',hr,h2,h3,_,h5⟩:=run_append_own_at (P:=P) w 0 t ty E i z size bytes ht hi hz vg LH Q8 km v n xs gZ ⟨g,0,ai⟩ m cap news hl (λj x hx=>by
   rw[show(⟨g,0,ai⟩:Addr).add j=⟨g,j,ai⟩from by unfold Addr.add;split<;>simp_all];rw[cell_of_row w g j cur E (0,0) hg,<-hx,<-hc4,gN,if_pos]
   ·simp
   ·have:=(bH.1 hx).1;omega) h1 W1 qu (bS _)
  exact⟨v',w',hr,h2,h3,h5⟩
theorem B8 {ops:Array Oper}{o:Oper}{a:Act}{K:Act->ah->Prop}{Q:Exit->Act->ah->Prop}{X:Prop}(qv:o.guard=ai)(s x:cw)(t:aF)(ho:o.op=.call {callee:=.builtin .append,args:= #[s,x],argTypes:= #[t,t]})(E:aF)(i:TypeInfo)(z:aq)(size bytes:Nat)(ht:P.underlying t=ae (.slice E))(hi:P.info? E=ae i)(hz:i.zero=ae z)(vg:i.size=size)(LH:i.bytes=bytes)(Q8:z.cells.size=size)(km:0<size){v u:aq}{n m:Nat}{xs news:List aq}(hs:a.eval s=v)(hx:a.eval x=u)(gZ:w.ownsRow 0 E size v n xs)(adS:w.ownsRow 0 E size u m news)(h1: ∀x∈news,x.oneCell'=aA)(W1:n+m<=maxLen)(qu:(n+m) *bytes<=140737488355328)(h: ∀v' w',w'.ownsRow 0 E size v' (n+m) (xs++news)->w.grownBy w' v.ownBlock->(v'.ownBlock=v.ownBlock\/v'.ownBlock=ae w.heap.size)->K (a.put o.dst v') w'):if bu o (yielded ops a.tmps)=aA then Oper.wp P o a w K Q else X:=by
 have hw:bu o (yielded ops a.tmps)=aA:=by simp[bu,qv]
 rw[if_pos hw];obtain⟨v',w',hr,h2,h3,h4⟩:=vE (P:=P) (w:=w) t o.type E i z size bytes ht hi hz vg LH Q8 km gZ adS h1 W1 qu;unfold Oper.wp;simp[execOp,ho,resolve,invoke,builtin,hs,hx,hr,dU];exact h v' w' h2 h3 h4
end
section
variable {G:Nat->Prop} {w0 w w':ah} {l:List bT} {E:aF} {size n m:Nat} {v v':aq} {xs news:List aq}
theorem In.aam (h:In G w0 (dP E size v n xs::l) w)(gZ:w'.ownsRow 0 E size v' (n+m) (xs++news))(hg:w.grownBy w' v.ownBlock)(zT:v'.ownBlock=v.ownBlock\/v'.ownBlock=ae w.heap.size):In G w0 (dP E size v' (n+m) (xs++news)::l) w':=by
 obtain⟨F1,⟨h1,h2⟩,_,jA⟩:=h.open_;refine jA (A':=dP E size v' (n+m) (xs++news)) ⟨gZ,λk hk=> ?_⟩ (cW.grown (F:=F1) hg λk hk=>h2 k hk);rcases zT with e|e
 ·exact br (h2 k (by rw[<-e];exact hk))
 ·rw[hk]at e;injection e with e
  exact bR ⟨by omega,(lq gZ k hk).2⟩
theorem In.ad4 (h:In G w0 l w)(E:aF)(cs:List aq):In G w0 (dP E cs.length (.slice (ae ⟨w.heap.size,0,ai⟩) 1 1) 1 cs::l) (w.alloc (.cells cs.toArray E)):=h.new (A:=dP E cs.length (.slice (ae ⟨w.heap.size,0,ai⟩) 1 1) 1 cs) ((Below.refl _ _).alloc (az _) _) ⟨⟨by simp,bR ⟨w.heap.size,1,cs.toArray,rfl,bS _,heap_alloc_new w _,az _,by unfold maxLen;omega,by simp,by simp⟩⟩,λk hk=>by simp[fK]at hk;omega⟩
end
end
section
open Go.RowKit Go.Shelf Go.Sort
section
variable {α:Type} [Inhabited α] {enc:α->List aq} {k:Nat}
theorem yE (hk: ∀x,(enc x).length=k)(d:Array α):(flatK enc k d).toList=d.toList.flatMap enc:=by
 apply lJ;intro t;have hl:=uX hk d.toList;by_cases ht:t<d.size *k
 ·have hk0:0<k:=by rcases nR k with h|h;subst h;simp at ht;exact h
  have hd:t / k<d.size:=(Nat.div_lt_iff_lt_mul hk0).2 ht;have hm:=Nat.mod_lt t hk0;have h1:=get_flatK enc k d t ht;have e1:(flatK enc k d).toList[t]? =ae ((enc d[t / k]!)[t % k]!):=by rw[Array.getElem?_toList,aX (by simpa using ht),<-h1];rw[getElem!_pos (flatK enc k d) t (by simpa using ht)]
  have e2:=qm hk d.toList (t / k) (t % k) (by simpa using hd) hm;rw[Nat.mul_comm,Nat.div_add_mod]at e2;rw[e1,e2];have e3:d[t / k]! =d.toList[t / k]'(by simpa using hd):=by rw[getElem!_pos d (t / k) hd];simp
  rw[e3];have e4:t % k<(enc (d.toList[t / k]'(by simpa using hd))).length:=by rw[hk];exact hm
  rw[ao e4,getElem!_pos (enc (d.toList[t / k]'(by simpa using hd))) _ e4]
 ·rw[je (by simp;omega),je (by rw[hl];simp;omega)]
theorem yN (hk: ∀x,(enc x).length=k){w:ah}{E:aF}{g c:Nat}{xs:List α}(h:w.ownsRow 0 E k (.slice (ae ⟨g,0,ai⟩) xs.length c) xs.length (xs.flatMap enc)):HoldsK enc k w g 0 xs.toArray:=by
 intro j hj;rw[size_flatK]at hj;have S4:j<xs.length *k:=by simpa using hj
 have hl:=uX hk xs;have e1:(flatK enc k xs.toArray)[j]! =(xs.flatMap enc)[j]'(by omega):=by rw[getElem!_pos (flatK enc k xs.toArray) j (by simpa using hj),<-Array.getElem_toList];simp only[yE hk]
 refine⟨?_,by rw[aC];exact h.frozenAt _⟩;rw[aC,World.ownsRow.cellAt h j S4,e1,ao (by omega)]
 rfl
theorem Bn (w:ah)(g m:Nat)(d:Array α)(os:Array Obj):cW (· =g) w (sortWorldK enc k w g 0 m d os):=by
 refine⟨rfl,rfl,rfl,?_,λq hq dQ=> ?_⟩
 ·show w.heap.size<=((w.heap.modify g _)++os).size;simp
 ·show((w.heap.modify g _)++os)[q]? =_;rw[Array.getElem?_append_left (by simpa using hq),bw,if_neg (λe=>dQ e.symm)]
theorem Dx (hk: ∀x,(enc x).length=k){w:ah}{E:aF}{g c:Nat}{xs:List α}(h:w.ownsRow 0 E k (.slice (ae ⟨g,0,ai⟩) xs.length c) xs.length (xs.flatMap enc))(m:Nat)(d:Array α)(hd:d.size=xs.length)(os:Array Obj):(sortWorldK enc k w g 0 m d os).ownsRow 0 E k (.slice (ae ⟨g,0,ai⟩) d.toList.length c) d.toList.length (d.toList.flatMap enc):=by
 have bE:=(h.lt g rfl).2;obtain⟨hl,h0|⟨g',cap,cur,e,_,hg,h1,h2,h3,h4⟩⟩:=h
 ·cases h0.1
 ·injection e with e1 e2 e3
  injection e1 with e1
  injection e1 with e1
  subst e1;subst e3;have hdl:d.toList.length=xs.length:=by simpa using hd
  refine⟨uX hk _,bR ⟨g,c,putCells id 0 (flatK enc k d) cur,rfl,bS _,?_,by omega,h2,by simpa[putCells]using h3,?_⟩⟩
  ·show((w.heap.modify g _)++os)[g]? =_;rw[Array.getElem?_append_left (by simpa using bE),bw,if_pos rfl,hg]
   rfl
  ·rw[hdl];have km:xs.length *k<=cur.size:=by rw[h3];exact il k h1
   apply lJ;intro t;have Ck:=uX hk d.toList;rw[hdl]at Ck;by_cases ht:t<xs.length *k
   ·rw[gN,if_pos ht,Array.getElem?_toList];unfold putCells;rw[Array.getElem?_mapIdx,aX (by omega)];simp only[eY];have hts:t<(flatK enc k d).size:=by rw[size_flatK,hd];exact ht
    rw[if_pos ⟨bS _,by omega⟩,Nat.sub_zero,getElem!_pos (flatK enc k d) t hts,<-Array.getElem_toList];simp only[yE hk,id];rw[ao]
   ·rw[gN,if_neg ht,je (by omega)]
end
section
variable {α:Type} [Inhabited α] {enc:α->List aq} {k:Nat} {ρ:Ren} {G:Nat->Prop} {w0 w:ah} {l:List bT} {v:aq} {xs:List α}
theorem J3 (L:SlLaysF0.n6 Tryz.prog ρ)(aE: ∀w,(isAgg (ρ.t 24)).run Tryz.prog w=.ok aA w)(zE: ∀w,(Go.sizeOf (ρ.t 24)).run Tryz.prog w=.ok k w)(hk: ∀x,(enc x).length=k)(h1: ∀x,∀u∈enc x,u.oneCell'=aA)(cf:α->α->Int)(hO:SWO (ltOf cf))(g:Nat)(eg: ∀args w,(callFunc g args).run Tryz.prog w=.ok (.enter g args) w)(ahu: ∀blk off size w,CmpLays Tryz.prog g #[] enc k cf blk off size w)(E:aF)(h:In G w0 (dP E k v xs.length (xs.flatMap enc)::l) w)(hl:xs.length<=1099511627776):Calls Tryz.prog (ρ.f 6) #[v,.func (.func g) #[] #[]] w λe w'=>e=.returned (.tuple #[])/\ ∃ys:List α,ys.Perm xs/\ys.Pairwise (λa b=>decide (cf b a<0)=aw)/\In G w0 (dP E k v ys.length (ys.flatMap enc)::l) w':=by
 obtain⟨F1,⟨hA,hF⟩,_,jA⟩:=h.open_;obtain⟨A,c,rfl,wK,vZ,hg⟩:=cH hA;by_cases h0:xs.length=0
 ·have hx:xs=[]:=gg h0;subst hx;exact(AnyF.slices_SortFunc_none L A c (.func (.func g) #[] #[]) w).mono λe w' ⟨he,hw⟩=>⟨he,[],pW _,List.Pairwise.nil,by rw[hw];exact h⟩
 ·obtain⟨b,rfl⟩:=hg (by omega);have bE:=(hA.lt b rfl).2;have BN:=AnyQ.slices_SortFunc L k aE zE enc hk h1 cf hO g #[] b 0 c xs.toArray w eg (ahu b 0 _ w) (yN hk hA) bE (by simp;omega);refine BN.mono ?_;rintro e w' ⟨he,d',n,os,⟨hs,_,hp⟩,aaW,rfl⟩;have GN:d'.size=xs.length:=by simpa using hs
  refine⟨he,d'.toList,?_,?_,?_⟩
  ·have e1:d'.extract 0 xs.toArray.size=d':=by rw[<-hs];exact Array.extract_size
   have e2:xs.toArray.extract 0 xs.toArray.size=xs.toArray:=Array.extract_size;rw[e1,e2]at hp;exact hp
  ·rw[jc];intro i j hi hj LM;have:=aaW i j (bS _) LM (by rw[<-hs];simpa using hj);rw[getElem!_pos d' j (by simpa using hj),getElem!_pos d' i (by simpa using hi)]at this;exact this
  ·have hv:d'.toList.length=xs.length:=by simpa using GN
   refine jA (A':=dP E k (.slice (ae ⟨b,0,ai⟩) xs.length c) d'.toList.length (d'.toList.flatMap enc)) ⟨?_,λq hq=>br (hF q hq)⟩ ((Bn w b n d' os).mono λq _ e=>by subst e;exact hF _ rfl);have:=Dx hk hA n d' GN os;rw[hv]at this⊢;exact this
end
end
section
open Go.RowKit Go.Shelf
def vF:Ren:=⟨λ|6=>141|14=>184|15=>150|28=>193|29=>194|20=>219|21=>220|22=>221|23=>222|24=>223|25=>224|26=>225|27=>226|46=>242|47=>228|48=>229|49=>243|50=>244|57=>249|n=>n,λ|22=>122|24=>43|25=>146|3=>3|39=>230|0=>0|53=>187|55=>184|4=>4|46=>257|45=>256|50=>261|5=>5|9=>9|66=>289|70=>292|76=>303|77=>304|n=>n,λn=>n⟩
theorem Ee:SlLaysF0.n6 Tryz.prog vF:={mixed:=by kernel_rfl,
                                      f6:=⟨Tryz.f141.name,by decide,Tryz.func141.trans (congrArg ae (by kernel_rfl))⟩,
                                      f14:=⟨Tryz.f184.name,by decide,Tryz.func184.trans (congrArg ae (by kernel_rfl))⟩,
                                      f15:=Tryz.func150.trans (congrArg ae (by kernel_rfl)),
                                      f20:=⟨Tryz.f219.name,by decide,Tryz.func219.trans (congrArg ae (by kernel_rfl))⟩,
                                      f21:=⟨Tryz.f220.name,by decide,Tryz.func220.trans (congrArg ae (by kernel_rfl))⟩,
                                      f22:=⟨Tryz.f221.name,by decide,Tryz.func221.trans (congrArg ae (by kernel_rfl))⟩,
                                      f23:=⟨Tryz.f222.name,by decide,Tryz.func222.trans (congrArg ae (by kernel_rfl))⟩,
                                      f24:=⟨Tryz.f223.name,by decide,Tryz.func223.trans (congrArg ae (by kernel_rfl))⟩,
                                      f25:=⟨Tryz.f224.name,by decide,Tryz.func224.trans (congrArg ae (by kernel_rfl))⟩,
                                      f26:=⟨Tryz.f225.name,by decide,Tryz.func225.trans (congrArg ae (by kernel_rfl))⟩,
                                      f27:=⟨Tryz.f226.name,by decide,Tryz.func226.trans (congrArg ae (by kernel_rfl))⟩,
                                      f28:=Tryz.func193.trans (congrArg ae (by kernel_rfl)),
                                      f29:=Tryz.func194.trans (congrArg ae (by kernel_rfl)),
                                      f46:=⟨Tryz.f242.name,by decide,Tryz.func242.trans (congrArg ae (by kernel_rfl))⟩,
                                      f47:=Tryz.func228.trans (congrArg ae (by kernel_rfl)),
                                      f48:=Tryz.func229.trans (congrArg ae (by kernel_rfl)),
                                      f49:=⟨Tryz.f243.name,by decide,Tryz.func243.trans (congrArg ae (by kernel_rfl))⟩,
                                      f50:=⟨Tryz.f244.name,by decide,Tryz.func244.trans (congrArg ae (by kernel_rfl))⟩,
                                      f57:=⟨Tryz.f249.name,by decide,Tryz.func249.trans (congrArg ae (by kernel_rfl))⟩,
                                      t0:=Tryz.underlying0,
                                      a0:=Tryz.isAgg0,
                                      z0:=Tryz.sizeOf0,
                                      v0:=Tryz.zeroValue0,
                                      t3:=Tryz.underlying3,
                                      a3:=Tryz.isAgg3,
                                      z3:=Tryz.sizeOf3,
                                      v3:=Tryz.zeroValue3,
                                      t4:=Tryz.underlying4,
                                      a4:=Tryz.isAgg4,
                                      z4:=Tryz.sizeOf4,
                                      v4:=Tryz.zeroValue4,
                                      t5:=Tryz.underlying5,
                                      a5:=Tryz.isAgg5,
                                      z5:=Tryz.sizeOf5,
                                      v5:=Tryz.zeroValue5,
                                      t9:=Tryz.underlying9,
                                      a9:=Tryz.isAgg9,
                                      z9:=Tryz.sizeOf9,
                                      v9:=Tryz.zeroValue9,
                                      t22:=Tryz.underlying122,
                                      a22:=Tryz.isAgg122,
                                      z22:=Tryz.sizeOf122,
                                      v22:=Tryz.zeroValue122,
                                      t25:=Tryz.underlying146,
                                      a25:=Tryz.isAgg146,
                                      z25:=Tryz.sizeOf146,
                                      v25:=Tryz.zeroValue146,
                                      t39:=Tryz.underlying230,
                                      a39:=Tryz.isAgg230,
                                      z39:=Tryz.sizeOf230,
                                      v39:=Tryz.zeroValue230,
                                      t45:=Tryz.underlying256,
                                      a45:=Tryz.isAgg256,
                                      z45:=Tryz.sizeOf256,
                                      v45:=Tryz.zeroValue256,
                                      t46:=Tryz.underlying257,
                                      a46:=Tryz.isAgg257,
                                      z46:=Tryz.sizeOf257,
                                      v46:=Tryz.zeroValue257,
                                      t50:=Tryz.underlying261,
                                      a50:=Tryz.isAgg261,
                                      z50:=Tryz.sizeOf261,
                                      v50:=Tryz.zeroValue261,
                                      t53:=Tryz.underlying187,
                                      a53:=Tryz.isAgg187,
                                      z53:=Tryz.sizeOf187,
                                      v53:=Tryz.zeroValue187,
                                      t55:=Tryz.underlying184,
                                      a55:=Tryz.isAgg184,
                                      z55:=Tryz.sizeOf184,
                                      v55:=Tryz.zeroValue184,
                                      t66:=Tryz.underlying289,
                                      a66:=Tryz.isAgg289,
                                      z66:=Tryz.sizeOf289,
                                      v66:=Tryz.zeroValue289,
                                      t70:=Tryz.underlying292,
                                      a70:=Tryz.isAgg292,
                                      z70:=Tryz.sizeOf292,
                                      v70:=Tryz.zeroValue292,
                                      t76:=Tryz.underlying303,
                                      a76:=Tryz.isAgg303,
                                      z76:=Tryz.sizeOf303,
                                      v76:=Tryz.zeroValue303,
                                      t77:=Tryz.underlying304,
                                      a77:=Tryz.isAgg304,
                                      z77:=Tryz.sizeOf304,
                                      v77:=Tryz.zeroValue304}
end
section
open Go.RowKit Go.Shelf
def zm:Ren:=⟨λ|6=>100|14=>152|15=>150|28=>193|29=>194|20=>195|21=>196|22=>197|23=>198|24=>199|25=>200|26=>201|27=>202|46=>232|47=>228|48=>229|49=>233|50=>234|57=>246|n=>n,λ|22=>34|24=>45|25=>177|3=>3|39=>230|0=>0|53=>187|55=>184|4=>4|46=>257|45=>256|50=>261|5=>5|9=>9|66=>289|70=>292|76=>303|77=>304|n=>n,λn=>n⟩
theorem J2:SlLaysF0.n6 Tryz.prog zm:={mixed:=by kernel_rfl,
                                      f6:=⟨Tryz.f100.name,by decide,Tryz.func100.trans (congrArg ae (by kernel_rfl))⟩,
                                      f14:=⟨Tryz.f152.name,by decide,Tryz.func152.trans (congrArg ae (by kernel_rfl))⟩,
                                      f15:=Tryz.func150.trans (congrArg ae (by kernel_rfl)),
                                      f20:=⟨Tryz.f195.name,by decide,Tryz.func195.trans (congrArg ae (by kernel_rfl))⟩,
                                      f21:=⟨Tryz.f196.name,by decide,Tryz.func196.trans (congrArg ae (by kernel_rfl))⟩,
                                      f22:=⟨Tryz.f197.name,by decide,Tryz.func197.trans (congrArg ae (by kernel_rfl))⟩,
                                      f23:=⟨Tryz.f198.name,by decide,Tryz.func198.trans (congrArg ae (by kernel_rfl))⟩,
                                      f24:=⟨Tryz.f199.name,by decide,Tryz.func199.trans (congrArg ae (by kernel_rfl))⟩,
                                      f25:=⟨Tryz.f200.name,by decide,Tryz.func200.trans (congrArg ae (by kernel_rfl))⟩,
                                      f26:=⟨Tryz.f201.name,by decide,Tryz.func201.trans (congrArg ae (by kernel_rfl))⟩,
                                      f27:=⟨Tryz.f202.name,by decide,Tryz.func202.trans (congrArg ae (by kernel_rfl))⟩,
                                      f28:=Tryz.func193.trans (congrArg ae (by kernel_rfl)),
                                      f29:=Tryz.func194.trans (congrArg ae (by kernel_rfl)),
                                      f46:=⟨Tryz.f232.name,by decide,Tryz.func232.trans (congrArg ae (by kernel_rfl))⟩,
                                      f47:=Tryz.func228.trans (congrArg ae (by kernel_rfl)),
                                      f48:=Tryz.func229.trans (congrArg ae (by kernel_rfl)),
                                      f49:=⟨Tryz.f233.name,by decide,Tryz.func233.trans (congrArg ae (by kernel_rfl))⟩,
                                      f50:=⟨Tryz.f234.name,by decide,Tryz.func234.trans (congrArg ae (by kernel_rfl))⟩,
                                      f57:=⟨Tryz.f246.name,by decide,Tryz.func246.trans (congrArg ae (by kernel_rfl))⟩,
                                      t0:=Tryz.underlying0,
                                      a0:=Tryz.isAgg0,
                                      z0:=Tryz.sizeOf0,
                                      v0:=Tryz.zeroValue0,
                                      t3:=Tryz.underlying3,
                                      a3:=Tryz.isAgg3,
                                      z3:=Tryz.sizeOf3,
                                      v3:=Tryz.zeroValue3,
                                      t4:=Tryz.underlying4,
                                      a4:=Tryz.isAgg4,
                                      z4:=Tryz.sizeOf4,
                                      v4:=Tryz.zeroValue4,
                                      t5:=Tryz.underlying5,
                                      a5:=Tryz.isAgg5,
                                      z5:=Tryz.sizeOf5,
                                      v5:=Tryz.zeroValue5,
                                      t9:=Tryz.underlying9,
                                      a9:=Tryz.isAgg9,
                                      z9:=Tryz.sizeOf9,
                                      v9:=Tryz.zeroValue9,
                                      t22:=Tryz.underlying34,
                                      a22:=Tryz.isAgg34,
                                      z22:=Tryz.sizeOf34,
                                      v22:=Tryz.zeroValue34,
                                      t25:=Tryz.underlying177,
                                      a25:=Tryz.isAgg177,
                                      z25:=Tryz.sizeOf177,
                                      v25:=Tryz.zeroValue177,
                                      t39:=Tryz.underlying230,
                                      a39:=Tryz.isAgg230,
                                      z39:=Tryz.sizeOf230,
                                      v39:=Tryz.zeroValue230,
                                      t45:=Tryz.underlying256,
                                      a45:=Tryz.isAgg256,
                                      z45:=Tryz.sizeOf256,
                                      v45:=Tryz.zeroValue256,
                                      t46:=Tryz.underlying257,
                                      a46:=Tryz.isAgg257,
                                      z46:=Tryz.sizeOf257,
                                      v46:=Tryz.zeroValue257,
                                      t50:=Tryz.underlying261,
                                      a50:=Tryz.isAgg261,
                                      z50:=Tryz.sizeOf261,
                                      v50:=Tryz.zeroValue261,
                                      t53:=Tryz.underlying187,
                                      a53:=Tryz.isAgg187,
                                      z53:=Tryz.sizeOf187,
                                      v53:=Tryz.zeroValue187,
                                      t55:=Tryz.underlying184,
                                      a55:=Tryz.isAgg184,
                                      z55:=Tryz.sizeOf184,
                                      v55:=Tryz.zeroValue184,
                                      t66:=Tryz.underlying289,
                                      a66:=Tryz.isAgg289,
                                      z66:=Tryz.sizeOf289,
                                      v66:=Tryz.zeroValue289,
                                      t70:=Tryz.underlying292,
                                      a70:=Tryz.isAgg292,
                                      z70:=Tryz.sizeOf292,
                                      v70:=Tryz.zeroValue292,
                                      t76:=Tryz.underlying303,
                                      a76:=Tryz.isAgg303,
                                      z76:=Tryz.sizeOf303,
                                      v76:=Tryz.zeroValue303,
                                      t77:=Tryz.underlying304,
                                      a77:=Tryz.isAgg304,
                                      z77:=Tryz.sizeOf304,
                                      v77:=Tryz.zeroValue304}
end
section
open Go.RowKit Go.Shelf
def Bw:Ren:=⟨λ|6=>97|14=>149|15=>150|28=>193|29=>194|20=>185|21=>186|22=>187|23=>188|24=>189|25=>190|26=>191|27=>192|46=>227|47=>228|48=>229|49=>230|50=>231|57=>245|n=>n,λ|22=>33|24=>50|25=>167|3=>3|39=>230|0=>0|53=>187|55=>184|4=>4|46=>257|45=>256|50=>261|5=>5|9=>9|66=>289|70=>292|76=>303|77=>304|n=>n,λn=>n⟩
theorem Nk:SlLaysF0.n6 Tryz.prog Bw:={mixed:=by kernel_rfl,
                                      f6:=⟨Tryz.f97.name,by decide,Tryz.func97.trans (congrArg ae (by kernel_rfl))⟩,
                                      f14:=⟨Tryz.f149.name,by decide,Tryz.func149.trans (congrArg ae (by kernel_rfl))⟩,
                                      f15:=Tryz.func150.trans (congrArg ae (by kernel_rfl)),
                                      f20:=⟨Tryz.f185.name,by decide,Tryz.func185.trans (congrArg ae (by kernel_rfl))⟩,
                                      f21:=⟨Tryz.f186.name,by decide,Tryz.func186.trans (congrArg ae (by kernel_rfl))⟩,
                                      f22:=⟨Tryz.f187.name,by decide,Tryz.func187.trans (congrArg ae (by kernel_rfl))⟩,
                                      f23:=⟨Tryz.f188.name,by decide,Tryz.func188.trans (congrArg ae (by kernel_rfl))⟩,
                                      f24:=⟨Tryz.f189.name,by decide,Tryz.func189.trans (congrArg ae (by kernel_rfl))⟩,
                                      f25:=⟨Tryz.f190.name,by decide,Tryz.func190.trans (congrArg ae (by kernel_rfl))⟩,
                                      f26:=⟨Tryz.f191.name,by decide,Tryz.func191.trans (congrArg ae (by kernel_rfl))⟩,
                                      f27:=⟨Tryz.f192.name,by decide,Tryz.func192.trans (congrArg ae (by kernel_rfl))⟩,
                                      f28:=Tryz.func193.trans (congrArg ae (by kernel_rfl)),
                                      f29:=Tryz.func194.trans (congrArg ae (by kernel_rfl)),
                                      f46:=⟨Tryz.f227.name,by decide,Tryz.func227.trans (congrArg ae (by kernel_rfl))⟩,
                                      f47:=Tryz.func228.trans (congrArg ae (by kernel_rfl)),
                                      f48:=Tryz.func229.trans (congrArg ae (by kernel_rfl)),
                                      f49:=⟨Tryz.f230.name,by decide,Tryz.func230.trans (congrArg ae (by kernel_rfl))⟩,
                                      f50:=⟨Tryz.f231.name,by decide,Tryz.func231.trans (congrArg ae (by kernel_rfl))⟩,
                                      f57:=⟨Tryz.f245.name,by decide,Tryz.func245.trans (congrArg ae (by kernel_rfl))⟩,
                                      t0:=Tryz.underlying0,
                                      a0:=Tryz.isAgg0,
                                      z0:=Tryz.sizeOf0,
                                      v0:=Tryz.zeroValue0,
                                      t3:=Tryz.underlying3,
                                      a3:=Tryz.isAgg3,
                                      z3:=Tryz.sizeOf3,
                                      v3:=Tryz.zeroValue3,
                                      t4:=Tryz.underlying4,
                                      a4:=Tryz.isAgg4,
                                      z4:=Tryz.sizeOf4,
                                      v4:=Tryz.zeroValue4,
                                      t5:=Tryz.underlying5,
                                      a5:=Tryz.isAgg5,
                                      z5:=Tryz.sizeOf5,
                                      v5:=Tryz.zeroValue5,
                                      t9:=Tryz.underlying9,
                                      a9:=Tryz.isAgg9,
                                      z9:=Tryz.sizeOf9,
                                      v9:=Tryz.zeroValue9,
                                      t22:=Tryz.underlying33,
                                      a22:=Tryz.isAgg33,
                                      z22:=Tryz.sizeOf33,
                                      v22:=Tryz.zeroValue33,
                                      t25:=Tryz.underlying167,
                                      a25:=Tryz.isAgg167,
                                      z25:=Tryz.sizeOf167,
                                      v25:=Tryz.zeroValue167,
                                      t39:=Tryz.underlying230,
                                      a39:=Tryz.isAgg230,
                                      z39:=Tryz.sizeOf230,
                                      v39:=Tryz.zeroValue230,
                                      t45:=Tryz.underlying256,
                                      a45:=Tryz.isAgg256,
                                      z45:=Tryz.sizeOf256,
                                      v45:=Tryz.zeroValue256,
                                      t46:=Tryz.underlying257,
                                      a46:=Tryz.isAgg257,
                                      z46:=Tryz.sizeOf257,
                                      v46:=Tryz.zeroValue257,
                                      t50:=Tryz.underlying261,
                                      a50:=Tryz.isAgg261,
                                      z50:=Tryz.sizeOf261,
                                      v50:=Tryz.zeroValue261,
                                      t53:=Tryz.underlying187,
                                      a53:=Tryz.isAgg187,
                                      z53:=Tryz.sizeOf187,
                                      v53:=Tryz.zeroValue187,
                                      t55:=Tryz.underlying184,
                                      a55:=Tryz.isAgg184,
                                      z55:=Tryz.sizeOf184,
                                      v55:=Tryz.zeroValue184,
                                      t66:=Tryz.underlying289,
                                      a66:=Tryz.isAgg289,
                                      z66:=Tryz.sizeOf289,
                                      v66:=Tryz.zeroValue289,
                                      t70:=Tryz.underlying292,
                                      a70:=Tryz.isAgg292,
                                      z70:=Tryz.sizeOf292,
                                      v70:=Tryz.zeroValue292,
                                      t76:=Tryz.underlying303,
                                      a76:=Tryz.isAgg303,
                                      z76:=Tryz.sizeOf303,
                                      v76:=Tryz.zeroValue303,
                                      t77:=Tryz.underlying304,
                                      a77:=Tryz.isAgg304,
                                      z77:=Tryz.sizeOf304,
                                      v77:=Tryz.zeroValue304}
end
section
open Go.RowKit Go.MapKept Go.ChangeMaps
structure ni (P:aS) (k:aF) {κ:Type} (ek:κ->aq) (good:κ->Prop):Prop where
 inj: ∀{a b:κ},ek a=ek b->a=b
 check: ∀(w:ah) (em:Bool) (x:κ),good x->(fJ em 10000 k (ek x)).run P w=.ok () w
 find: ∀(w:ah) (x:κ),good x-> ∀es:List MapEntry,(∀e∈es,∃y,good y/\e.key=ek y)->((j8 k (ek x) es).run P w=.ok ai w/\ ∀e∈es,e.key≠ek x)\/ ∃j e,(j8 k (ek x) es).run P w=.ok (ae (j,e.val)) w/\es[j]? =ae e/\e.key=ek x
 stays: ∀(w:ah) (x:κ),(Instr.keyThatStays (ek x) (ek x)).run P w=.ok (ek x) w
def ey {κ ν:Type}(ek:κ->aq)(ev:ν->aq)(good:κ->Prop)(w:ah)(b:Nat)(m:List (κ×ν)):Prop:= ∃es clock,w.heap[b]? =ae (.map es clock)/\Stamped es clock/\es.toList.map (λe=>(e.key,e.val))=m.map (λp=>(ek p.1,ev p.2))/\ ∀p∈m,good p.1
section
variable {κ ν:Type} {P:aS} {k:aF} {ek:κ->aq} {ev:ν->aq} {good:κ->Prop} {w w':ah} {b:Nat} {m:List (κ×ν)}
theorem ey.lt (h:ey ek ev good w b m):b<w.heap.size:=by obtain⟨es,clock,hb,_⟩:=h;exact(aL.1 hb).1
theorem ey.block (h:ey ek ev good w b m)(hb:w'.heap[b]? =w.heap[b]?):ey ek ev good w' b m:=by obtain⟨es,clock,h1,h2⟩:=h;exact⟨es,clock,hb.trans h1,h2⟩
theorem ey.only {F:Nat->Prop}(h:ey ek ev good w b m)(ho:cW F w w')(hF: ¬F b):ey ek ev good w' b m:=h.block (ho.block b h.lt hF)
theorem ey.below {B:Nat}(h:ey ek ev good w b m)(hb:Below B w w')(hB:b<B):ey ek ev good w' b m:=h.block (hb.block b hB)
theorem ey.after (h:ey ek ev good w b m)(hb:Below w.heap.size w w'):ey ek ev good w' b m:=h.below hb h.lt
theorem ey.new (w:ah)(ek:κ->aq)(ev:ν->aq)(good:κ->Prop):ey ek ev good (w.alloc (.map #[] 0)) w.heap.size []:=⟨#[],0,(MapKept.heap_alloc w _).1,stamped_empty 0,rfl,by simp⟩
theorem Cm {es:List MapEntry}(h:es.map (λe=>(e.key,e.val))=m.map (λp=>(ek p.1,ev p.2)))(hg: ∀p∈m,good p.1): ∀e∈es,∃y,good y/\e.key=ek y:=by
 intro e he;have:(e.key,e.val)∈m.map (λp=>(ek p.1,ev p.2)):=by rw[<-h];exact aN.2 ⟨e,he,rfl⟩
 obtain⟨p,hp,Ky⟩:=aN.1 this;injection Ky with h1 h2
 exact⟨p.1,hg p hp,h1.symm⟩
theorem ey.nodup (K:ni P k ek good)(h:ey ek ev good w b m):(bG m).Nodup:=by
 obtain⟨es,clock,_,hs,he,_⟩:=h;have h1:es.toList.map (·.key)=(bG m).map ek:=by have:=congrArg (List.map Prod.fst) he;simpa[bG,Function.comp_def]using this
 have h2:=hs.2.2;rw[h1]at h2;exact(List.Pairwise.of_map ek (λa b dQ e=>dQ (by rw[e])) h2)
theorem find_spec (K:ni P k ek good){es:List MapEntry}(he:es.map (λe=>(e.key,e.val))=m.map (λp=>(ek p.1,ev p.2))){x:κ}:(∀e∈es,e.key≠ek x)↔x∉bG m:=by
 have h1:es.map (·.key)=(bG m).map ek:=by have:=congrArg (List.map Prod.fst) he;simpa[bG,Function.comp_def]using this
 constructor
 ·intro h hx;have:ek x∈es.map (·.key):=by rw[h1];exact aN.2 ⟨x,hx,rfl⟩
  obtain⟨e,hee,h2⟩:=aN.1 this;exact h e hee h2
 ·intro h e hee hk;have:e.key∈es.map (·.key):=aN.2 ⟨e,hee,rfl⟩;rw[h1]at this;obtain⟨y,hy,h2⟩:=aN.1 this;exact h (by rw[<-K.inj (h2.trans hk)];exact hy)
theorem Ce (K:ni P k ek good){es:List MapEntry}(he:es.map (λe=>(e.key,e.val))=m.map (λp=>(ek p.1,ev p.2))){x:κ}{j:Nat}{e:MapEntry}(hj:es[j]? =ae e)(hk:e.key=ek x): ∃v,m[j]? =ae (x,v)/\e.val=ev v:=by
 have:=congrArg (·[j]?) he;simp only[dK,hj,eY]at this;obtain⟨p,hp,Ky⟩:=aK.1 this.symm;injection Ky with h1 h2
 have:p.1=x:=K.inj (h1.trans hk);refine⟨p.2,?_,h2.symm⟩;rw[hp,<-this]
theorem iJ (w:ah)(b:Nat)(o:Obj):cW (· =b) w (setBlock w b o):=⟨rfl,rfl,rfl,by simp[setBlock],λi _ hi=>by simp[setBlock,Array.getElem?_setIfInBounds,Ne.symm hi]⟩
def dw {κ ν:Type}(ek:κ->aq)(ev:ν->aq)(good:κ->Prop)(w:ah)(b r:Nat)(m left:List (κ×ν)):Prop:=
 ∃es clock since seen c0,w.heap[b]? =ae (.map es clock)/\Stamped es clock/\es.toList.map (λe=>(e.key,e.val))=m.map (λp=>(ek p.1,ev p.2))/\(∀p∈m,good p.1)/\
  w.heap[r]? =ae (.mapIter (ae b) since seen c0)/\(∀x∈es.toList,x.born<since)/\since<=c0/\since<=clock/\
  (es.toList.filter λe=> !seen.contains e.born).map (λe=>(e.key,e.val))=left.map (λp=>(ek p.1,ev p.2))/\ ∀p∈left,p∈m
theorem dw.map {r:Nat}{left:List (κ×ν)}(h:dw ek ev good w b r m left):ey ek ev good w b m:=by obtain⟨es,clock,since,seen,c0,h1,h2,h3,h4,_⟩:=h;exact⟨es,clock,h1,h2,h3,h4⟩
theorem dw.lt {r:Nat}{left:List (κ×ν)}(h:dw ek ev good w b r m left):r<w.heap.size:=by obtain⟨es,clock,since,seen,c0,h1,h2,h3,h4,h5,_⟩:=h;exact(aL.1 h5).1
theorem dw.ne {r:Nat}{left:List (κ×ν)}(h:dw ek ev good w b r m left):r≠b:=by obtain⟨es,clock,since,seen,c0,h1,h2,h3,h4,h5,_⟩:=h;intro e;rw[e,h1]at h5;cases h5
theorem dw.block {r:Nat}{left:List (κ×ν)}(h:dw ek ev good w b r m left)(hb:w'.heap[b]? =w.heap[b]?)(hr:w'.heap[r]? =w.heap[r]?):dw ek ev good w' b r m left:=by obtain⟨es,clock,since,seen,c0,h1,h2,h3,h4,h5,h6⟩:=h;exact⟨es,clock,since,seen,c0,hb.trans h1,h2,h3,h4,hr.trans h5,h6⟩
theorem dw.only {F:Nat->Prop}{r:Nat}{left:List (κ×ν)}(h:dw ek ev good w b r m left)(ho:cW F w w')(hF: ¬F b)(hR: ¬F r):dw ek ev good w' b r m left:=h.block (ho.block b h.map.lt hF) (ho.block r h.lt hR)
theorem dw.count {r:Nat}{left:List (κ×ν)}(h:dw ek ev good w b r m left):w.rangeLeft b r=left.length:=by obtain⟨es,clock,since,seen,c0,h1,h2,h3,h4,h5,h6,h7,h8,h9,_⟩:=h;unfold World.rangeLeft;rw[h1,h5];have:=congrArg List.length h9;simp only[List.length_map]at this;rw[<-this];simp only[leftOf];rw[<-Array.length_toList,Array.toList_filter]
theorem ey.range (h:ey ek ev good w b m){t e:aF}(ht:P.underlying t=ae (.map k e)): ∃w',(Instr.range t (.map (ae b))).run P w=.ok (.pointer (ae ⟨w.heap.size,0,ai⟩)) w'/\dw ek ev good w' b w.heap.size m m/\Below w.heap.size w w'/\w'.heap.size=w.heap.size+1:=by
 have bE:=h.lt;obtain⟨es,clock,hb,hs,he,hg⟩:=h;refine⟨_,run_range_map w t k e b es clock ht hb,⟨es,clock,clock,#[],clock,((MapKept.heap_alloc w _).2 b bE).trans hb,hs,he,hg,(MapKept.heap_alloc w _).1,hs.1,az _,az _,?_,λp hp=>hp⟩,(Below.refl _ _).alloc (az _) _,by simp⟩;have:(es.toList.filter λe=> !(#[]:Array Nat).contains e.born)=es.toList:=List.filter_eq_self.2 λe _=>by simp
 rw[this];exact he
section
variable [DecidableEq κ]
theorem ey.look (K:ni P k ek good)(h:ey ek ev good w b m){t e:aF}(ht:P.underlying t=ae (.map k e)){z:aq}(hz:(zeroValue e).run P w=.ok z w){x:κ}(hx:good x)(c:Bool):(lj t (.map (ae b)) (ek x) c).run P w=.ok (if c then .tuple #[(eG m x).elim z ev,.bool (eG m x).isSome]else(eG m x).elim z ev) w:=by
 have hn:=h.nodup K;obtain⟨es,clock,hb,hs,he,hg⟩:=h;rcases K.find w x hx es.toList (Cm he hg)with⟨h1,h2⟩|⟨j,e0,h1,h2,h3⟩
 ·have h4:eG m x=ai:=sV.2 ((find_spec K he).1 h2);simp[lj,run_underlying ht,lp hb,K.check w _ x hx,h1,hz,dU,h4]
 ·obtain⟨v,hv,jq⟩:=Ce K he h2 h3;have h4:eG m x=ae v:=ko hn (oX hv);simp[lj,run_underlying ht,lp hb,K.check w _ x hx,h1,dU,h4,jq]
theorem Pf {es:List MapEntry}{x:κ}{v u:ν}{j:Nat}(hn:(bG m).Nodup)(hj:m[j]? =ae (x,u)):m.map (λp=>if p.1=x then(x,v)else p)=m.set j (x,v):=by
 apply lJ;intro i;rw[dK,gh];by_cases hi:j=i
 ·subst hi;have hl:=(bH.1 hj).1;rw[if_pos rfl,if_pos hl,hj];simp
 ·rw[if_neg hi];cases hmi:m[i]? with
  |none=>rfl
  |some p=>
   have:p.1≠x:=by
    intro e;have h1:(bG m)[i]? =ae x:=by simp[bG,hmi,e]
    have h2:(bG m)[j]? =ae x:=by simp[bG,hj]
    have hl:=(bH.1 h2).1;exact hi ((List.getElem?_inj hl hn).1 (h2.trans h1.symm))
   simp[this]
theorem ey.store (K:ni P k ek good)(h:ey ek ev good w b m){t e:aF}(ht:P.underlying t=ae (.map k e)){x:κ}(hx:good x)(v:ν): ∃w',(Instr.mapUpdate t (.map (ae b)) (ek x) (ev v)).run P w=.ok () w'/\ey ek ev good w' b (iP m x v)/\cW (· =b) w w'/\w'.heap.size=w.heap.size:=by
 have hn:=h.nodup K;have bE:=h.lt;obtain⟨es,clock,hb,hs,he,hg⟩:=h;have A8: ∀p∈iP m x v,good p.1:=λp hp=>by
  rcases X0 hp with rfl|⟨hp,_⟩
  ·exact hx
  ·exact hg p hp
 have wZ: ∀o,(setBlock w b o).heap[b]? =ae o:=λo=>by simp[setBlock,bE]
 rcases K.find w x hx es.toList (Cm he hg)with⟨h1,h2⟩|⟨j,e0,h1,h2,h3⟩
 ·have hnk:=(find_spec K he).1 h2;refine⟨setBlock w b (.map (es.push ⟨ek x,ev v,clock⟩) (clock+1)),?_,⟨_,_,wZ _,stamped_push hs h2,?_,A8⟩,iJ _ _ _,by simp[setBlock]⟩
  ·simp[Instr.mapUpdate,run_underlying ht,lp hb,K.check w aw x hx,h1,MapKept.run_setObj_map _ hb,dU,setBlock]
  ·unfold iP;rw[if_neg,Array.toList_push,dX,he,dX]
   ·rfl
   ·intro ha;obtain⟨p,hp,e1⟩:=kB.1 ha;exact hnk (aN.2 ⟨p,hp,by simpa using e1⟩)
 ·obtain⟨u,hu,heu⟩:=Ce K he h2 h3;have hj:es[j]? =ae e0:=by simpa using h2
  refine⟨setBlock w b (.map (es.modify j (λe'=>{e' with key:=ek x,val:=ev v})) clock),?_,⟨_,_,wZ _,stamped_modify hs _ _ (λ_ _=>rfl) (λe' _ I7=>by rw[hj]at I7;cases I7;exact h3.symm),?_,A8⟩,iJ _ _ _,by simp[setBlock]⟩
  ·simp[Instr.mapUpdate,run_underlying ht,lp hb,K.check w aw x hx,h1,hj,h3,K.stays w x,MapKept.run_setObj_map _ hb,dU,setBlock]
  ·unfold iP;rw[if_pos (kB.2 ⟨(x,u),oX hu,by simp⟩),Pf (es:=es.toList) hn hu,Array.toList_modify,modify_eq_set _ _ _ _ h2,List.map_set,he,List.map_set]
theorem xO {x:κ}{u:ν}{j:Nat}(hn:(bG m).Nodup)(hj:m[j]? =ae (x,u)):ep m x=m.eraseIdx j:=by have hp:m.Pairwise (λp q=>p.1≠q.1):=List.pairwise_map.1 hn;exact filter_eq_eraseIdx (λp:κ×ν=>decide (p.1=x)) m j (x,u) hj (by simp) (hp.imp λdQ ⟨h1,h2⟩=>dQ (by rw[of_decide_eq_true h1,of_decide_eq_true h2]))
theorem Rg {x:κ}(h:x∉bG m):ep m x=m:=by
 unfold ep;rw[List.filter_eq_self];intro p hp;have:p.1≠x:=λe=>h (by rw[<-e];exact aN.2 ⟨p,hp,rfl⟩)
 simp[this]
theorem ey.drop (K:ni P k ek good)(h:ey ek ev good w b m){t e:aF}(ht:P.underlying t=ae (.map k e)){x:κ}(hx:good x)(ty:aF): ∃w',(lI #[t,k] ty #[.map (ae b),ek x]).run P w=.ok (.tuple #[]) w'/\ey ek ev good w' b (ep m x)/\cW (· =b) w w'/\w'.heap.size=w.heap.size:=by
 have hn:=h.nodup K;have bE:=h.lt;obtain⟨es,clock,hb,hs,he,hg⟩:=h;have A8: ∀p∈ep m x,good p.1:=λp hp=>hg p (fT.1 hp).1
 have wZ: ∀o,(setBlock w b o).heap[b]? =ae o:=λo=>by simp[setBlock,bE]
 rcases K.find w x hx es.toList (Cm he hg)with⟨h1,h2⟩|⟨j,e0,h1,h2,h3⟩
 ·have hnk:=(find_spec K he).1 h2;refine⟨setBlock w b (.map es clock),?_,⟨_,_,wZ _,hs,?_,A8⟩,iJ _ _ _,by simp[setBlock]⟩
  ·simp[lI,run_underlying ht,lp hb,K.check w _ x hx,h1,MapKept.run_setObj_map _ hb,dU,setBlock]
  ·rw[Rg hnk];exact he
 ·obtain⟨u,hu,heu⟩:=Ce K he h2 h3;have ry:j<es.toList.length:=(bH.1 h2).1;have U5:j<es.size:=by simpa using ry
  have oB:(es.eraseIdxIfInBounds j).toList=es.toList.eraseIdx j:=by unfold Array.eraseIdxIfInBounds;rw[dif_pos U5];simp
  refine⟨setBlock w b (.map (es.eraseIdxIfInBounds j) clock),?_,⟨_,_,wZ _,stamped_erase hs j,?_,A8⟩,iJ _ _ _,by simp[setBlock]⟩
  ·simp[lI,run_underlying ht,lp hb,K.check w _ x hx,h1,MapKept.run_setObj_map _ hb,dU,setBlock]
  ·rw[oB,xO hn hu,map_eraseIdx,map_eraseIdx,he]
theorem dw.step (K:ni P k ek good){r:Nat}{left:List (κ×ν)}(h:dw ek ev good w b r m left)(ty:aF):(left=[]/\(Instr.next (.pointer (ae ⟨r,0,ai⟩)) aw ty).run P w=.ok (.tuple #[.bool aw]) w)\/ ∃x v w',(x,v)∈left/\(Instr.next (.pointer (ae ⟨r,0,ai⟩)) aw ty).run P w=.ok (.tuple #[.bool aA,ek x,ev v]) w'/\dw ek ev good w' b r m (ep left x)/\cW (· =r) w w'/\w'.heap.size=w.heap.size/\(ep left x).length<left.length/\(Instr.entry (.pointer (ae ⟨r,0,ai⟩))).run P w'=.ok (.tuple #[ek x,ev v]) w':=by
 classical
 have dQ:=h.ne;have ahL:=h.map.lt;have ahM:=h.lt;obtain⟨es,clock,since,seen,c0,h1,h2,h3,h4,h5,h6,h7,h8,h9,QN⟩:=h;rcases run_next_at (P:=P) w ty r b since c0 seen es clock h5 h1 h6 h7 with⟨h0,cG⟩|⟨e,he,w1,Td,cG⟩
 ·refine br ⟨?_,cG⟩;have:=congrArg List.length h9;simp only[List.length_map]at this;unfold leftOf at h0;rw[<-Array.length_toList,Array.toList_filter]at h0;rw[h0]at this;exact gg this.symm
 ·right;unfold leftOf at he;rw[Array.toList_filter]at he;obtain⟨hee,hse⟩:=cu.1 he;have iM:(e.key,e.val)∈left.map (λp=>(ek p.1,ev p.2)):=by rw[<-h9];exact aN.2 ⟨e,he,rfl⟩
  obtain⟨⟨x,v⟩,hp,Ky⟩:=aN.1 iM;injection Ky with Xj hk2
  simp only at Xj hk2;have lf:w1.heap=w.heap:=by rcases Td with rfl|rfl<;>rfl
  have ZD:cW (· =r) w (setBlock w1 r (.mapIter (ae b) since (seen.push e.born) clock)):=by
   have:=iJ w1 r (.mapIter (ae b) since (seen.push e.born) clock);rcases Td with rfl|rfl
   ·exact this
   ·exact⟨this.os,this.tape,this.output,this.size,this.block⟩
  have we:(setBlock w1 r (.mapIter (ae b) since (seen.push e.born) clock)).heap[r]? =ae (.mapIter (ae b) since (seen.push e.born) clock):=by simp[setBlock,lf,ahM]
  have jN:(setBlock w1 r (.mapIter (ae b) since (seen.push e.born) clock)).heap[b]? =ae (.map es clock):=(ZD.block b ahL (λe'=>dQ e'.symm)).trans h1;have ahx:(es.toList.filter λe'=> !(seen.push e.born).contains e'.born).map (λe=>(e.key,e.val))=(ep left x).map (λp=>(ek p.1,ev p.2)):=by
   have hff:(es.toList.filter λe'=> !(seen.push e.born).contains e'.born)=(es.toList.filter λe'=> !seen.contains e'.born).filter λe'=> !decide (e'.key=ek x):=by
    rw[List.filter_filter];apply List.filter_congr;intro e' I7;have adE:(e'.born=e.born)↔(e'.key=ek x):=by
     constructor
     ·intro hbb;have:e'=e:=by have f1:=find_born e' _ h2.2.1 I7;have f2:=find_born e _ h2.2.1 hee;rw[hbb]at f1;exact aY (f1.symm.trans f2)
      rw[this,Xj]
     ·intro hkk;have:=entry_eq_of_key ((stamped_iff es clock).1 h2).2.2 I7 hee (hkk.trans Xj);rw[this]
    have:(seen.push e.born).contains e'.born=(seen.contains e'.born||decide (e'.key=ek x)):=by rw[nJ];simp only[Array.contains_iff_mem,Array.mem_push,iU,decide_eq_true_eq];rw[adE]
    rw[this,Bool.not_or,Bool.and_comm]
   rw[hff];unfold ep;have gen: ∀(es:List MapEntry) (l:List (κ×ν)),es.map (λe=>(e.key,e.val))=l.map (λp=>(ek p.1,ev p.2))->
    (es.filter λe'=> !decide (e'.key=ek x)).map (λe=>(e.key,e.val))=(l.filter λp=> !decide (p.1=x)).map (λp=>(ek p.1,ev p.2)):=by
    intro es
    induction es with
    |nil=>intro l hl;cases l with
     |nil=>rfl
     |cons a l=>simp at hl
    |cons a es ih=>intro l hl;cases l with
     |nil=>simp at hl
     |cons p l=>
      simp only[fA,List.cons.injEq]at hl;have hap:(a.key=ek x)↔(p.1=x):=by have:=congrArg Prod.fst hl.1;simp only at this;rw[this];exact⟨λe=>K.inj e,λe=>by rw[e]⟩
      rw[List.filter_cons,List.filter_cons];by_cases hx:p.1=x
      ·rw[decide_eq_true (hap.2 hx),decide_eq_true hx];simpa using ih l hl.2
      ·rw[decide_eq_false (λe=>hx (hap.1 e)),decide_eq_false hx];simp only[Bool.not_false,if_true,fA];rw[hl.1,ih l hl.2]
   exact gen _ _ h9
  refine⟨x,v,_,hp,by rw[Xj,hk2];exact cG,⟨es,clock,since,_,clock,jN,h2,h3,h4,we,h6,h8,h8,ahx,λp hp=>QN p (fT.1 hp).1⟩,ZD,by simp[setBlock,lf],?_,?_⟩
  ·unfold ep;exact List.length_filter_lt_length_iff_exists.2 ⟨(x,v),hp,by simp⟩
  ·rw[Xj,hk2];exact run_entry_at _ r b since seen es clock e we jN hee h2.2.1
theorem zY {left:List (κ×ν)}(hn:(bG left).Nodup){x:κ}{v:ν}(h:(x,v)∈left):left.Perm ((x,v)::ep left x):=by
 obtain⟨j,hj⟩:=List.mem_iff_getElem?.1 h;rw[xO hn hj];clear h hn
 induction left generalizing j with
 |nil=>simp at hj
 |cons a l ih=>
  cases j with
  |zero=>simp at hj;subst hj;exact pW _
  |succ j=>rw[List.eraseIdx_cons_succ];exact((ih j (by simpa using hj)).cons a).trans (cB _ _ _)
theorem dw.drop (K:ni P k ek good){r:Nat}{left:List (κ×ν)}(h:dw ek ev good w b r m left){t e:aF}(ht:P.underlying t=ae (.map k e)){x:κ}(hx:good x)(XH:x∉bG left)(ty:aF): ∃w',(lI #[t,k] ty #[.map (ae b),ek x]).run P w=.ok (.tuple #[]) w'/\dw ek ev good w' b r (ep m x) left/\cW (· =b) w w'/\w'.heap.size=w.heap.size:=by
 have hn:=h.map.nodup K;have bE:=h.map.lt;have sN:=h.ne;obtain⟨es,clock,since,seen,c0,hb,hs,he,hg,h5,h6,h7,h8,h9,QN⟩:=h;have A8: ∀p∈ep m x,good p.1:=λp hp=>hg p (fT.1 hp).1
 have wZ: ∀o,(setBlock w b o).heap[b]? =ae o:=λo=>by simp[setBlock,bE]
 have we: ∀o,(setBlock w b o).heap[r]? =ae (.mapIter (ae b) since seen c0):=λo=>((iJ w b o).block r (aL.1 h5).1 sN).trans h5
 have OH: ∀p∈left,p∈ep m x:=λp hp=>fT.2 ⟨QN p hp,λe=>XH (by rw[<-e];exact aN.2 ⟨p,hp,rfl⟩)⟩
 rcases K.find w x hx es.toList (Cm he hg)with⟨h1,h2⟩|⟨j,e0,h1,h2,h3⟩
 ·have hnk:=(find_spec K he).1 h2;refine⟨setBlock w b (.map es clock),?_,⟨es,clock,since,seen,c0,wZ _,hs,?_,A8,we _,h6,h7,h8,h9,OH⟩,iJ _ _ _,by simp[setBlock]⟩
  ·simp[lI,run_underlying ht,lp hb,K.check w _ x hx,h1,MapKept.run_setObj_map _ hb,dU,setBlock]
  ·rw[Rg hnk];exact he
 ·obtain⟨u,hu,heu⟩:=Ce K he h2 h3;have ry:j<es.toList.length:=(bH.1 h2).1;have U5:j<es.size:=by simpa using ry
  have oB:(es.eraseIdxIfInBounds j).toList=es.toList.eraseIdx j:=by unfold Array.eraseIdxIfInBounds;rw[dif_pos U5];simp
  refine⟨setBlock w b (.map (es.eraseIdxIfInBounds j) clock),?_,⟨_,clock,since,seen,c0,wZ _,stamped_erase hs j,?_,A8,we _,?_,h7,h8,?_,OH⟩,iJ _ _ _,by simp[setBlock]⟩
  ·simp[lI,run_underlying ht,lp hb,K.check w _ x hx,h1,MapKept.run_setObj_map _ hb,dU,setBlock]
  ·rw[oB,xO hn hu,map_eraseIdx,map_eraseIdx,he]
  ·intro y hy;rw[oB]at hy;exact h6 y ((List.eraseIdx_sublist _ _).subset hy)
  ·rw[<-h9,oB];congr 1;have LX:seen.contains e0.born=aA:=by
    cases hc:seen.contains e0.born
    ·exfalso;have iM:e0∈es.toList.filter λe=> !seen.contains e.born:=cu.2 ⟨oX h2,by rw[hc];rfl⟩
     have:(e0.key,e0.val)∈left.map (λp=>(ek p.1,ev p.2)):=by rw[<-h9];exact aN.2 ⟨e0,iM,rfl⟩
     obtain⟨p,hp,Ky⟩:=aN.1 this;injection Ky with q1 q2
     have:p.1=x:=K.inj (q1.trans h3);exact XH (by rw[<-this];exact aN.2 ⟨p,hp,rfl⟩)
    ·rfl
   have gen: ∀(l:List MapEntry) (j:Nat),l[j]? =ae e0->(l.eraseIdx j).filter (λe=> !seen.contains e.born)=l.filter (λe=> !seen.contains e.born):=by
    intro l
    induction l with
    |nil=>intro j hj;simp at hj
    |cons a l ih=>
     intro j hj;cases j with
     |zero=>simp at hj;subst hj;simp only[List.eraseIdx_cons_zero];rw[List.filter_cons,LX];simp
     |succ j=>simp only[List.eraseIdx_cons_succ,List.filter_cons];rw[ih j (by simpa using hj)]
   exact gen _ _ h2
theorem BA (K:ni P k ek good){ops:Array Oper}{rest:List Oper}{o:Oper}{a:Act}{Q:Exit->Act->ah->Prop}(qv:o.guard=ai)(mo xo:cw)(t e:aF)(c:Bool)(hop:o.op=Op.lookup t mo xo c)(ht:P.underlying t=ae (.map k e))(z:aq)(hz:(zeroValue e).run P w=.ok z w)(b:Nat)(m:List (κ×ν))(hm:a.eval mo=.map (ae b))(h:ey ek ev good w b m)(x:κ)(hx:a.eval xo=ek x)(U1:good x)(val:aq)(L3:(if c then .tuple #[(eG m x).elim z ev,.bool (eG m x).isSome]else(eG m x).elim z ev)=val)(hK:wpList P ops Q rest (a.put o.dst val) w):wpList P ops Q (o::rest) a w:=by
 refine wpList_plain qv λK' jH=> ?_
 have cG:=h.look K ht hz U1 c;rw[L3]at cG;unfold Oper.wp;simp[execOp,hop,hm,hx,cG,dU];exact jH _ _ hK
theorem iE (K:ni P k ek good){ops:Array Oper}{rest:List Oper}{o:Oper}{a:Act}{Q:Exit->Act->ah->Prop}(qv:o.guard=ai)(mo xo vo:cw)(t e:aF)(hop:o.op=Op.mapUpdate t mo xo vo)(ht:P.underlying t=ae (.map k e))(b:Nat)(m:List (κ×ν))(hm:a.eval mo=.map (ae b))(h:ey ek ev good w b m)(x:κ)(hx:a.eval xo=ek x)(U1:good x)(v:ν)(hv:a.eval vo=ev v)(hK: ∀w',ey ek ev good w' b (iP m x v)->cW (· =b) w w'->w'.heap.size=w.heap.size->wpList P ops Q rest (a.put o.dst undef) w'):wpList P ops Q (o::rest) a w:=by
 refine wpList_plain qv λK' jH=> ?_
 obtain⟨w',cG,h1,h2,h3⟩:=h.store K ht U1 v;unfold Oper.wp;simp[execOp,hop,hm,hx,hv,cG,dU];exact jH _ _ (hK w' h1 h2 h3)
theorem vL (K:ni P k ek good){ops:Array Oper}{rest:List Oper}{o:Oper}{a:Act}{Q:Exit->Act->ah->Prop}(qv:o.guard=ai)(mo xo:cw)(t e:aF)(hop:o.op=Op.call {callee:=Callee.builtin Builtin.delete,args:= #[mo,xo],argTypes:= #[t,k]})(ht:P.underlying t=ae (.map k e))(b:Nat)(m:List (κ×ν))(hm:a.eval mo=.map (ae b))(h:ey ek ev good w b m)(x:κ)(hx:a.eval xo=ek x)(U1:good x)(hK: ∀w',ey ek ev good w' b (ep m x)->cW (· =b) w w'->w'.heap.size=w.heap.size->wpList P ops Q rest (a.put o.dst (.tuple #[])) w'):wpList P ops Q (o::rest) a w:=by
 refine wpList_plain qv λK' jH=> ?_
 obtain⟨w',cG,h1,h2,h3⟩:=h.drop K ht U1 o.type;unfold Oper.wp;simp[execOp,hop,resolve,invoke,builtin,hm,hx,cG,dU];exact jH _ _ (hK w' h1 h2 h3)
theorem kU (K:ni P k ek good){ops:Array Oper}{rest:List Oper}{o:Oper}{a:Act}{Q:Exit->Act->ah->Prop}(qv:o.guard=ai)(it:cw)(hop:o.op=Op.next it aw)(b r:Nat)(m left:List (κ×ν))(hit:a.eval it=.pointer (ae ⟨r,0,ai⟩))(h:dw ek ev good w b r m left)(W5:left=[]->wpList P ops Q rest (a.put o.dst (.tuple #[.bool aw])) w)(W8: ∀x v w',(x,v)∈left->dw ek ev good w' b r m (ep left x)->cW (· =r) w w'->w'.heap.size=w.heap.size->(ep left x).length<left.length->(Instr.entry (.pointer (ae ⟨r,0,ai⟩))).run P w'=.ok (.tuple #[ek x,ev v]) w'->wpList P ops Q rest (a.put o.dst (.tuple #[.bool aA,ek x,ev v])) w'):wpList P ops Q (o::rest) a w:=by
 refine wpList_plain qv λK' jH=> ?_
 unfold Oper.wp;rcases h.step K o.type with⟨h0,cG⟩|⟨x,v,w',hx,cG,h1,h2,h3,h4,h5⟩
 ·simp[execOp,hop,hit,cG,dU];exact jH _ _ (W5 h0)
 ·simp[execOp,hop,hit,cG,dU];exact jH _ _ (W8 x v w' hx h1 h2 h3 h4 h5)
end
theorem iT {ops:Array Oper}{rest:List Oper}{o:Oper}{a:Act}{Q:Exit->Act->ah->Prop}(qv:o.guard=ai)(mo:cw)(t e:aF)(hop:o.op=Op.range t mo)(ht:P.underlying t=ae (.map k e))(b:Nat)(m:List (κ×ν))(hm:a.eval mo=.map (ae b))(h:ey ek ev good w b m)(hK: ∀w',dw ek ev good w' b w.heap.size m m->Below w.heap.size w w'->w'.heap.size=w.heap.size+1->wpList P ops Q rest (a.put o.dst (.pointer (ae ⟨w.heap.size,0,ai⟩))) w'):wpList P ops Q (o::rest) a w:=by
 refine wpList_plain qv λK' jH=> ?_
 obtain⟨w',cG,h1,h2,h3⟩:=h.range ht;unfold Oper.wp;simp[execOp,hop,hm,cG,dU];exact jH _ _ (hK w' h1 h2 h3)
end
theorem adW {P:aS}{k:aF}(hk:P.underlying k=ae (.int .i64)):ni P k (aZ .i64) (λx=>(Lit.int .i64 x).wf=aA)where
 inj h:=by injection h
 check w em x hx:=(Maps.int_keyed hk).check w em (Maps.keyOf_int_mk hk hx)
 find w x hx es tn:=(Maps.int_keyed hk).find w (Maps.keyOf_int_mk hk hx) es λe he=>by obtain⟨y,hy,e1⟩:=tn e he;rw[e1];exact⟨_,Maps.keyOf_int_mk hk hy⟩
 stays w x:=by simp[Instr.keyThatStays,Instr.sameBits]
theorem aaF {P:aS}{k:aF}{fs:Array Field}{n:Nat}(d:Nat)(hd:d<=9999)(hk:P.underlying k=ae (.struct fs))(hB:sC P d k=aA)(hc:P.cellsOf k=n)(hck: ∀(w:ah) (em:Bool) (xs:List Int),xs.length=n->(fJ em 10000 k (.agg (ints xs))).run P w=.ok () w):ni P k (λxs:List Int=>.agg (ints xs)) (λxs=>xs.length=n)where
 inj h:=by injection h with h;exact Mb h
 check:=hck
 find w x hx es tn:=by
  have afX: ∀(es:List MapEntry) (i:Nat),es≠ []->(∀e∈es,∃y:List Int,y.length=n/\e.key=.agg (ints y))->Instr.findNow (.struct fs) (.agg (ints x)) es i=ai:=by
   intro es i dQ tn;cases es with
   |nil=>exact absurd rfl dQ
   |cons e es=>obtain⟨y,_,e1⟩:=tn e (by simp);simp[Instr.findNow,e1,Instr.sameNow]
  have ahm: ∀(es:List MapEntry) (i:Nat),(∀e∈es,∃y:List Int,y.length=n/\e.key=.agg (ints y))->
   ((Instr.findAsking k (.agg (ints x)) es i).run P w=.ok ai w/\ ∀e∈es,e.key≠ .agg (ints x))\/ ∃j e,(Instr.findAsking k (.agg (ints x)) es i).run P w=.ok (ae (i+j,e.val)) w/\es[j]? =ae e/\e.key=.agg (ints x):=by
   intro es
   induction es with
   |nil=>intro i _;exact br ⟨by simp[Instr.findAsking],by simp⟩
   |cons e es ih=>
    intro i tn;obtain⟨y,hy,e1⟩:=tn e (by simp);have heq:(Op.equal k (.agg (ints x)) e.key).run P w=.ok (decide (x=y)) w:=by
     rw[e1];have:=vT (P:=P) d (10000-d) k x y w hB (by rw[hc];exact hx) (by rw[hc];exact hy);rw[show 10000-d+d=10000 from by omega]at this;have hv: ∀zs:List Int,valOf P k zs=.agg (ints zs):=λzs=>by simp[valOf,hk]
     rw[hv,hv]at this;exact this
    by_cases rm:x=y
    ·right;refine⟨0,e,?_,rfl,by rw[e1,rm]⟩;rw[decide_eq_true rm]at heq;simp[Instr.findAsking,heq]
    ·rw[decide_eq_false rm]at heq;rcases ih (i+1) (λe he=>tn e (by simp[he]))with⟨h1,h2⟩|⟨j,e',h1,h2,h3⟩
     ·left;refine⟨by simp[Instr.findAsking,heq,h1],λe' I7=> ?_⟩;rcases cy.1 I7 with rfl|I7
      ·rw[e1];intro h;injection h with h;exact rm (Mb h).symm
      ·exact h2 e' I7
     ·right;exact⟨j+1,e',by simp[Instr.findAsking,heq,h1];omega,by simpa using h2,h3⟩
  cases es with
  |nil=>left;simp[j8,run_underlying hk,Instr.findNow]
  |cons e0 es=>
   have h0:=afX (e0::es) 0 (by simp) tn;rcases ahm (e0::es) 0 tn with⟨h1,h2⟩|⟨j,e,h1,h2,h3⟩
   ·left;exact⟨by simp only[j8,eo,run_underlying hk,gP,h0];exact h1,h2⟩
   ·right;exact⟨j,e,by simp only[j8,eo,run_underlying hk,gP,h0];simpa using h1,h2,h3⟩
 stays w x:=by
  have:Instr.sameBits 10000 (.agg (ints x)) (.agg (ints x))=aA:=by
   show((ints x).size==(ints x).size&&((ints x).toList.zip (ints x).toList).all λ(a,b)=>Instr.sameBits 9999 a b)=aA;simp only[beq_self_eq_true,Bool.true_and,List.all_eq_true];rintro⟨a,b⟩ jz;rw[iH]at jz;have:a=b/\ ∃q,a=.int .i64 q:=by
    generalize x=l at jz
    induction l with
    |nil=>simp at jz
    |cons q l ih=>simp at jz;rcases jz with⟨rfl,rfl⟩|h;exact⟨rfl,q,rfl⟩;exact ih (by simpa using h)
   obtain⟨rfl,q,rfl⟩:=this;simp[Instr.sameBits]
  simp[Instr.keyThatStays,this]
end
section
open Go.RowKit
def ux {κ ν:Type}(ek:κ->aq)(ev:ν->aq)(good:κ->Prop)(b:Nat)(m:List (κ×ν)):bT where
 at_ w F:=ey ek ev good w b m/\F b
 frame h ho hd:=⟨h.1.only ho (hd _ h.2),h.2⟩
 cut h hd:=⟨h.1,hd _ h.1.lt h.2⟩
def ij {κ ν:Type}(ek:κ->aq)(ev:ν->aq)(good:κ->Prop)(b r:Nat)(m left:List (κ×ν)):bT where
 at_ w F:=dw ek ev good w b r m left/\F b/\F r
 frame h ho hd:=⟨h.1.only ho (hd _ h.2.1) (hd _ h.2.2),h.2⟩
 cut h hd:=⟨h.1,hd _ h.1.map.lt h.2.1,hd _ h.1.lt h.2.2⟩
section
variable {κ ν:Type} {ek:κ->aq} {ev:ν->aq} {good:κ->Prop} {b r:Nat} {m m' left G5:List (κ×ν)} {F:Nat->Prop} {w0 w w':ah} {l:List bT}
theorem In.hZ (h:In F w0 (ux ek ev good b m::l) w):ey ek ev good w b m:=h.sep.head.1
theorem In.o6 (h:In F w0 (ux ek ev good b m::l) w)(h1:ey ek ev good w' b m')(h2:cW (· =b) w w'):In F w0 (ux ek ev good b m'::l) w':=by obtain⟨F1,hA,hF,jA⟩:=h.open_;exact jA (A':=ux ek ev good b m') ⟨h1,br hA.2⟩ (h2.mono λk _ e=>by rw[e];exact hA.2)
theorem In.Jp (h:In F w0 l w)(ek:κ->aq)(ev:ν->aq)(good:κ->Prop):In F w0 (ux ek ev good w.heap.size []::l) (w.alloc (.map #[] 0)):=h.new (A:=ux ek ev good w.heap.size []) ((Below.refl _ _).alloc (az _) _) ⟨ey.new _ _ _ _,az _⟩
theorem In.rangeAt (h:In F w0 (ij ek ev good b r m left::l) w):dw ek ev good w b r m left:=h.sep.head.1
theorem In.DX (h:In F w0 (ux ek ev good b m::l) w)(hr:dw ek ev good w' b w.heap.size m left)(hb:Below w.heap.size w w')(hs:w'.heap.size=w.heap.size+1):In F w0 (ij ek ev good b w.heap.size m left::l) w':=by obtain⟨F1,hA,hF,jA⟩:=h.open_;exact jA (A':=ij ek ev good b w.heap.size m left) ⟨hr,br hA.2,bR ⟨az _,by omega⟩⟩ (cW.fU hb)
theorem In.nG (h:In F w0 (ij ek ev good b r m left::l) w)(hr:dw ek ev good w' b r m G5)(ho:cW (· =r) w w'):In F w0 (ij ek ev good b r m G5::l) w':=by obtain⟨F1,hA,hF,jA⟩:=h.open_;exact jA (A':=ij ek ev good b r m G5) ⟨hr,br hA.2.1,br hA.2.2⟩ (ho.mono λk _ e=>by rw[e];exact hA.2.2)
theorem In.JO (h:In F w0 (ij ek ev good b r m left::l) w)(hr:dw ek ev good w' b r m' G5)(ho:cW (· =b) w w'):In F w0 (ij ek ev good b r m' G5::l) w':=by obtain⟨F1,hA,hF,jA⟩:=h.open_;exact jA (A':=ij ek ev good b r m' G5) ⟨hr,br hA.2.1,br hA.2.2⟩ (ho.mono λk _ e=>by rw[e];exact hA.2.1)
theorem In.vJ (h:In F w0 (ij ek ev good b r m left::l) w):In F w0 (ux ek ev good b m::l) w:=by obtain⟨F1,hA,hF,jA⟩:=h.open_;exact jA (A':=ux ek ev good b m) ⟨hA.1.map,br hA.2.1⟩ cW.refl
theorem dw.sub (h:dw ek ev good w b r m left): ∀p∈left,p∈m:=by obtain⟨es,clock,since,seen,c0,_,_,_,_,_,_,_,_,_,QN⟩:=h;exact QN
end
theorem In.add0 {A:bT}{F:Nat->Prop}{w0 w:ah}{l:List bT}(h:In F w0 l w)(ha:A.at_ w (λ_=>False)):In F w0 (A::l) w:=⟨⟨λ_=>False,_,ha,h.sep,λ_ h=>h.elim,λk h=>by rcases h with h|h;exact h.elim;exact h⟩,h.only⟩
abbrev da (v:aq)(zs:List Int):bT:=dP 3 1 v zs.length (zs.map (aZ .i64))
theorem In.kX {F:Nat->Prop}{w0 w:ah}{l:List bT}{v:aq}{zs:List Int}(h:In F w0 (da v zs::l) w): ∃A c,v=.slice A zs.length c/\gQ w w.heap.size A zs.length zs:=by have:pC w 0 v zs:=h.sep.head.1;exact this.form
theorem Yh {w:ah}{B:Nat}{e:aF}{size n:Nat}{v:aq}{xs:List aq}(h:w.ownsRow B e size v n xs):w.ownsRow 0 e size v n xs:=⟨h.1,by rcases h.2 with h|⟨g,cap,cur,e,_,r⟩;exact br h;exact bR ⟨g,cap,cur,e,bS _,r⟩⟩
theorem In.wo {F:Nat->Prop}{w0 w w':ah}{l:List bT}{v:aq}{zs:List Int}(h:In F w0 l w)(ho:pC w' w.heap.size v zs)(hb:Below w.heap.size w w'):In F w0 (da v zs::l) w':=h.new hb ⟨Yh ho,λk hk=>(lq ho k hk).1⟩
theorem iw {x:Int}(h: -1000000000000<=x/\x<=1000000000000):(Lit.int .i64 x).wf=aA:=WalkArith.wf_i64 (by omega)
theorem rV:ni Tryz.prog 3 (aZ .i64) (λx=>(Lit.int .i64 x).wf=aA):=adW Tryz.underlying3
abbrev nN (x:Int):Prop:=(Lit.int .i64 x).wf=aA
section
variable {κ ν:Type} [DecidableEq κ] {m:List (κ×ν)}
end
end
section
open Go.RowKit
theorem Sw (n:Nat)(em:Bool)(v:aq)(w:ah):(fJ em (n+1) 3 v).run Tryz.prog w=.ok () w:=by
 unfold fJ;rw[eo,run_underlying Tryz.underlying3]
 rfl
theorem IP (w:ah)(em:Bool)(xs:List Int)(h:xs.length=2):(fJ em 10000 43 (.agg (ints xs))).run Tryz.prog w=.ok () w:=by
 have p0:(part 3 (ints xs) 0).run Tryz.prog w=.ok (.int .i64 (xs.getD 0 0)) w:=by have:=pS (P:=Tryz.prog) w 1 3 xs 0 (by kernel_rfl) (by rw[show Tryz.prog.cellsOf 3=1 from by kernel_rfl];omega);rw[this,show Tryz.prog.cellsOf 3=1 from by kernel_rfl];simp[valOf,Tryz.underlying3,rp,bp]
 have p1:(part 3 (ints xs) 1).run Tryz.prog w=.ok (.int .i64 (xs.getD 1 0)) w:=by have:=pS (P:=Tryz.prog) w 1 3 xs 1 (by kernel_rfl) (by rw[show Tryz.prog.cellsOf 3=1 from by kernel_rfl];omega);rw[this,show Tryz.prog.cellsOf 3=1 from by kernel_rfl];simp[valOf,Tryz.underlying3,rp,bp]
 have c0:=λv=>Sw 9998 em v w
 rw[show(10000:Nat)=(9998+1)+1 from rfl];unfold fJ;rw[eo,run_underlying Tryz.underlying43];simp[p0,p1,c0]
theorem aaY:ni Tryz.prog 43 (λxs:List Int=>.agg (ints xs)) (λxs=>xs.length=2):=aaF 3 (by omega) Tryz.underlying43 (by kernel_rfl) (by kernel_rfl) IP
end
section
open Go.RowKit
def nw (h:Hd):aq:=.agg (ints (hL h))
@[go_sem] theorem jV (a b:Int):nw (a,b)=.agg #[.int .i64 a,.int .i64 b]:=rfl
theorem W7 {a b:Hd}(h:hL a=hL b):a=b:=by
 unfold hL at h;injection h with h1 h2
 injection h2 with h2 _
 exact Prod.ext h1 h2
theorem Dk:ni Tryz.prog 43 nw (λ_=>True)where
 inj h:=W7 (aaY.inj h)
 check w em x _:=aaY.check w em (hL x) rfl
 find w x _ es he:=aaY.find w (hL x) rfl es (λe h=>by obtain⟨y,_,hy⟩:=he e h;exact⟨hL y,rfl,hy⟩)
 stays w x:=aaY.stays w (hL x)
theorem NI (w:ah):(zeroValue 43).run Tryz.prog w=.ok (nw (0,0)) w:=by kernel_rfl
abbrev zH (b:Nat)(m:jS):bT:=ux nw nw (λ_=>True) b m
abbrev jF (v:aq)(hs:List Hd):bT:=dP 43 2 v hs.length (hs.flatMap hC)
theorem rF {w:ah}{v:aq}{hs:List Hd}(h:w.ownsRow 0 43 2 v hs.length (hs.flatMap hC)): ∃A c,v=.slice A hs.length c/\hs.length<=c/\c<=maxLen/\ ∀k,(hk:k<hs.length)-> ∃g,A=ae ⟨g,0,ai⟩/\row? w g (k *2) 2=ae (ints [hs[k].1,hs[k].2]):=by obtain⟨A,c,rfl,wK,vZ,hA⟩:=cH h;refine⟨A,c,rfl,wK,vZ,λk hk=> ?_⟩;obtain⟨g,rfl⟩:=hA (by omega);have hr:=lg h hk;rw[lO zS hs k hk]at hr;exact⟨g,rfl,hr⟩
section
variable {G:Nat->Prop} {w0 w w':ah} {l:List bT}
theorem In.yo {E:aF}{size n:Nat}{v v':aq}{xs news:List aq}{o:Obj}(h:In G w0 (dP E size v n xs::l) w)(gZ:w'.ownsRow 0 E size v' (n+1) (xs++news))(hg:(w.alloc o).grownBy w' v.ownBlock)(zT:v'.ownBlock=v.ownBlock\/v'.ownBlock=ae (w.heap.size+1)):In G w0 (dP E size v' (n+1) (xs++news)::l) w':=by
 obtain⟨F1,⟨h1,h2⟩,_,jA⟩:=h.open_;refine jA (A':=dP E size v' (n+1) (xs++news)) ⟨gZ,λk hk=> ?_⟩ ((cW.refl.alloc o).trans' (cW.grown (F:=F1) hg λk hk=>h2 k hk) λk _ hk=>hk);rcases zT with e|e
 ·exact br (h2 k (by rw[<-e];exact hk))
 ·rw[hk]at e;injection e with e
  exact bR ⟨by omega,(lq gZ k hk).2⟩
theorem In.IE {v v':aq}{cs:List Hd}{x:Hd}{o:Obj}(h:In G w0 (jF v cs::l) w)(gZ:w'.ownsRow 0 43 2 v' (cs.length+1) (cs.flatMap hC++[.int .i64 x.1,.int .i64 x.2]))(hg:(w.alloc o).grownBy w' v.ownBlock)(zT:v'.ownBlock=v.ownBlock\/v'.ownBlock=ae (w.heap.size+1)):In G w0 (jF v' (cs++[x])::l) w':=by have:=h.yo gZ hg zT;unfold jF;rw[bM,eI];exact this
theorem In.rowAt {E:aF}{size n:Nat}{v:aq}{xs:List aq}(h:In G w0 (dP E size v n xs::l) w):w.ownsRow 0 E size v n xs:=h.sep.head.1
theorem In.tW (h:In G w0 l w)(E:aF)(size:Nat):In G w0 (dP E size (.slice ai 0 0) 0 []::l) w:=h.add0 ⟨World.ownsRow_nil _ _ _ _,λk hk=>by simp[fK]at hk⟩
end
theorem mg:(Tryz.prog.info? 43).map (λi=>(i.zero,i.size,i.bytes))=ae (ae (.agg #[.int .i64 0,.int .i64 0]),2,16):=by kernel_rfl
def jE (p:Nat)(m:jS):bT where
 at_ w F:=jK m/\ ∃b,Sep [bg p 175 #[.map (ae b)],zH b m] w F
 frame h ho hd:=by obtain⟨h1,b,hs⟩:=h;exact⟨h1,b,hs.frame ho hd⟩
 cut h hd:=by obtain⟨h1,b,hs⟩:=h;exact⟨h1,b,hs.cut hd⟩
section
variable {G:Nat->Prop} {w0 w:ah} {l:List bT} {p b:Nat} {m:jS}
theorem In.tX (h:In G w0 (jE p m::l) w):jK m/\ ∃b,In G w0 (bg p 175 #[.map (ae b)]::zH b m::l) w:=by obtain⟨⟨F1,F2,⟨hm,b,hs⟩,h2,h3,h4⟩,ho⟩:=h;exact⟨hm,b,(Sep.join hs h2 h3).cut λk _ hk=>h4 k hk,ho⟩
theorem In.pN (hm:jK m)(h:In G w0 (bg p 175 #[.map (ae b)]::zH b m::l) w):In G w0 (jE p m::l) w:=by obtain⟨hs,ho⟩:=h;obtain⟨F1,F2,h1,h2,h3,h4⟩:=Sep.part (l1:=[bg p 175 #[.map (ae b)],zH b m]) (l2:=l) hs;exact⟨⟨F1,F2,⟨hm,b,h1⟩,h2,h3,h4⟩,ho⟩
theorem In.WE (h:In G w0 (jE p m::l) w):jK m:=h.tX.1
end
end
section
open Go.RowKit
def rq (ss:List Sys)(n i:Nat)(x:Int):List Int:=cm ss i++x::bZ (n-i-1) 0
theorem Oz (ss:List Sys)(n i:Nat)(h:i<n):cm ss i++bZ (n-i) 0=rq ss n i 0:=by unfold rq;rw[show n-i=(n-i-1)+1 from by omega,List.replicate_succ];simp
theorem WU (ss:List Sys)(n i:Nat):rq ss n i (gF ss (cm ss i) (ss.getD i du) i)=cm ss (i+1)++bZ (n-(i+1)) 0:=by unfold rq;rw[cm,dn,show n-(i+1)=n-i-1 from by omega];rfl
theorem WW (ss:List Sys)(n i:Nat)(x y:Int):(rq ss n i x).set i y=rq ss n i y:=by unfold rq;rw[nP _ _ (by rw[eT];omega),eT,Nat.sub_self];rfl
theorem aaL (ss:List Sys)(n i:Nat)(x:Int):(ints (rq ss n i x))[i]? =ae (.int .i64 x):=by rw[kM];simp[rq,List.getElem?_append,eT]
theorem WV (ss:List Sys)(n i k:Nat)(x:Int)(hk:k<i):(ints (rq ss n i x))[k]? =ae (.int .i64 ((cm ss i).getD k 0)):=by
 rw[kM];have:k<(cm ss i).length:=by rw[eT];exact hk
 simp[rq,List.getElem?_append,eT,hk,bp,ao this]
theorem DZ {v:aq}{n m:Int}(h:n=m):Ending.returned (.tuple #[v,.int .i64 n])=.returned (.tuple #[v,.int .i64 m]):=by rw[h]
theorem MK (A:Option Addr)(c:Nat)(ss:List Sys)(w:ah)(h:ui w w.heap.size A ss)(hn:ss.length<=maxLen):Calls Tryz.prog 36 #[.slice A ss.length c] w λe w'=> ∃v,e=.returned (.tuple #[v,.int .i64 (dF ss).2])/\pC w' w.heap.size v (dF ss).1/\Below w.heap.size w w':=by
 have H:=af h;have ZK:(ss.length:Int)<=9223372036854775807:=by unfold maxLen at hn;omega
 clear h
 go_enter Tryz.func36,Tryz.ntmps36
 by_cases h20:20<ss.length
 ·have hd:(decide (20<(ss.length:Int)))=aA:=by simp;omega
  have HR:Hid (dF ss=([],2)):=by unfold Hid dF;rw[if_pos h20]
  go_wp2_with fail
  go_ret2
  exact⟨_,DZ (by rw[HR.out]),by rw[HR.out];exact pC.nil _ _,Below.refl _ _⟩
 have hd:(decide (20<(ss.length:Int)))=aw:=by simp;omega
 go_wp2_with fail
 go_loopw [16] (λi w'=> ∃k:Nat,k<=ss.length/\i=.int .i64 k/\(∀j,j<k->eQ (ss.getD j du)=0)/\Below w.heap.size w w') (λi _=>ss.length-(intOf i).toNat)
 case atStart=>exact⟨0,by omega,rfl,λj hj=>by omega,Below.refl _ _⟩
 case round=>
  obtain⟨k,hk,rfl,qq,hb⟩:=hrel;have mW:=af qq;have tv:=af hb;clear qq hb;by_cases bE:k<ss.length
  ·have xH:(k:Int)<ss.length:=by omega
   obtain⟨b,o,rfl,zD,fY⟩:=(H.out.below tv.out).at_ bE;generalize hS:ss.getD k du=s at *;have HS:=af hS;clear hS
   go_upto_region 6 with(fail)
   refine cc (λw'=>dq w' wr.heap.size 54 (ints s.list)/\Below wr.heap.size wr w') ⟨kl wr 54 [0,0,0,0,0,0,0] _ rfl,eZ wr 54 [0,0,0,0,0,0,0] _⟩ ?_;rintro w1 ⟨Fi,lf⟩;have fs:row? w1 wr.heap.size 0 7=ae (ints s.list):=Fi.bt rfl;have tu:=af (tv.out.trans (lf.mono tv.out.size));clear Fi lf
   go_wp2_with fail
   refine(Sv s _).mono ?_;rintro e w2 ⟨rfl,gV⟩;have wR:=af (tu.out.trans (gV.mono tu.out.size));clear gV fs;by_cases he:eQ s=0
   ·have HE:=af he;rw[he];clear he
    go_wp2_with fail
    go_roundw
    case rel=>
     refine⟨k+1,by omega,by go_num,λj hj=> ?_,wR.out⟩;by_cases tQ:j=k
     ·rw[tQ,HS.out];exact HE.out
     ·exact mW.out j (by omega)
    case measure=>simp[intOf];omega
   ·have HR:Hid (dF ss=([],eQ s)):=by
     have h1:iq (ss.map eQ)=eQ s:=by rw[<-HS.out];exact Lp bE mW.out (by rw[HS.out];exact he)
     unfold Hid dF;rw[if_neg h20,h1,if_neg he]
    have I7:(eQ s !=0)=aA:=by simpa using he
    clear he;generalize eQ s=E at *
    go_wp2_with fail
    go_ret2
    exact⟨_,DZ (by rw[HR.out]),by rw[HR.out];exact pC.nil _ _,wR.out⟩
  ·have Fg:k=ss.length:=by omega
   subst Fg;have HR:Hid (dF ss=(cm ss ss.length,0)):=by unfold Hid dF;rw[if_neg h20,if_pos (FF mW.out)]
   have U8: ∀W,(Instr.makeSlice 32 (.int .i64 (ss.length:Int)) (.int .i64 (ss.length:Int))).run Tryz.prog W=.ok (.slice (ae ⟨W.heap.size,0,ai⟩) ss.length ss.length) (W.alloc (.cells (ints (bZ ss.length 0)) 3)):=FV ss.length (by omega)
   go_upto_region 11 with(fail)
   refine cc (λw'=>dq w' wr.heap.size 3 (ints (cm ss 0++bZ (ss.length-0) 0))/\Below w.heap.size w w') ⟨dq.new _ _ _,tv.out.alloc tv.out.size _⟩ ?_;rintro w1 ⟨ho1,lf⟩;have FJ:w.heap.size<=wr.heap.size:=tv.out.size;have yi:=af ho1;have tu:=af lf;clear ho1 lf tv mW;generalize wr.heap.size=g7 at *
   go_wp2_with fail
   go_loopw [31] (λi w'=> ∃k:Nat,k<=ss.length/\i=.int .i64 k/\dq w' g7 3 (ints (cm ss k++bZ (ss.length-k) 0))/\Below w.heap.size w w') (λi _=>ss.length-(intOf i).toNat)
   case atStart=>exact⟨0,by omega,rfl,yi.out,tu.out⟩
   case round=>
    clear yi tu;obtain⟨i,hi,rfl,ho,hb⟩:=hrel;have tv:=af hb;by_cases bE:i<ss.length
    ·rw[Oz ss _ i bE]at ho;have HO:=af ho;clear ho hb;have xH:(i:Int)<ss.length:=by omega
     obtain⟨b,o,rfl,zD,fY⟩:=(H.out.below tv.out).at_ bE;generalize hS:ss.getD i du=s at *;have HS:=af hS;clear hS
     go_upto_region 14 with(fail)
     refine cc (λw'=>dq w' wr.heap.size 54 (ints s.list)/\dq w' g7 3 (ints (rq ss ss.length i 0))/\Below w.heap.size w w') ?_ ?_
     ·have hb:=eZ wr 54 [0,0,0,0,0,0,0] s.list;exact⟨kl wr 54 [0,0,0,0,0,0,0] _ rfl,HO.out.after hb,tv.out.trans (hb.mono tv.out.size)⟩
     rintro w2 ⟨xJ,ho2,gV⟩;have S3:g7<wr.heap.size:=HO.out.lt;have VL:=af xJ;have UP:=af ho2;have wR:=af gV;clear xJ ho2 gV HO tv fY;generalize wr.heap.size=g9 at *
     go_wp2_with fail
     go_loopw [37] (λj w'=> ∃k:Nat,k<=i/\j=.int .i64 k/\dq w' g9 54 (ints s.list)/\dq w' g7 3 (ints (rq ss ss.length i (gF ss (cm ss i) s k)))/\Below w.heap.size w w') (λj _=>i-(intOf j).toNat)
     case atStart=>exact⟨0,by omega,rfl,VL.out,UP.out,wR.out⟩
     case round=>
      clear VL UP wR;obtain⟨k,hk,rfl,hs3,ho3,SX⟩:=hrel;have HS3:=af hs3;have HO3:=af ho3;have Zs:=af SX;clear hs3 ho3 SX;by_cases xH:k<i
      ·have hkI:(k:Int)<i:=by omega
       have Fg:(k:Int)<ss.length:=by omega
       obtain⟨b',o',he,afz,fY⟩:=(H.out.below Zs.out).at_ (show k<ss.length by omega);cases he;have hP:Hid (gF ss (cm ss i) s (k+1)=if gB s (ss.getD k du)then max (gF ss (cm ss i) s k) ((cm ss i).getD k 0+1)else gF ss (cm ss i) s k):=rfl;generalize ss.getD k du=s2 at *;have c1:=λn:After wr=>n.row (n:=7) HS3.out rfl
       have c2: ∀n:After wr,row? n.w b (o+k *7) 7=ae (ints s2.list):=λn=>(iR n.below (by have:=HO3.out.lt;omega) _ _).trans fY
       go_upto_region 17 with(fail)
       refine bU (by kernel_rfl) (by kernel_rfl) ?_
       repeat(go_big_quiet_step (first|(go_at_call 87;with_reducible exact gT (Sx _ _ _))))
       refine wpQuiet_nil ?_;rintro _ ⟨n,rfl⟩;have hbn:Hid (Below w.heap.size w n.w):=Zs.out.trans (n.below.mono Zs.out.size);have HSn:=af (HS3.out.after n.below);have HOn:=af (HO3.out.after n.below);clear c1 c2 fY HS3 HO3 Zs;have bnd:=Cp ss i k xH;cases hC:gB s s2
       ·have hP':gF ss (cm ss i) s (k+1)=gF ss (cm ss i) s k:=by rw[hP.out,hC];rfl
        rw[<-hP']at HOn;clear hP hP' hC
        go_wp2_with fail
        go_roundw
        case rel=>exact⟨k+1,by omega,by go_num,HSn.out,HOn.out,hbn.out⟩
        case measure=>simp[intOf];omega
       ·have hP':gF ss (cm ss i) s (k+1)=max (gF ss (cm ss i) s k) ((cm ss i).getD k 0+1):=by rw[hP.out,hC];rfl
        have k1:n.w.cell? ⟨g7,i,ai⟩=ae (.int .i64 (gF ss (cm ss i) s k)):=by rw[HOn.out.cell];exact aaL _ _ _ _
        have k2:n.w.cell? ⟨g7,k,ai⟩=ae (.int .i64 ((cm ss i).getD k 0)):=by rw[HOn.out.cell];exact WV _ _ _ _ _ xH
        have k3:n.w.frozen? ⟨g7,i,ai⟩=aw:=HOn.out.frozen i;have HOs:Hid (∀y,dq (n.w.setCell ⟨g7,i,ai⟩ (.int .i64 y)) g7 3 (ints (rq ss ss.length i y))):=λy=>by have:=HOn.out.set i (.int .i64 y);rwa[ints_set,WW]at this
        have HP:=af hP';clear hP hP' hC HOn;generalize hpk:(cm ss i).getD k 0=pk at *;generalize hac:gF ss (cm ss i) s k=ac at *;have LZ:IntKind.i64.wrap (pk+1)=pk+1:=IntWalk.i64_in _ (by omega)
        go_upto_region 18 with(fail)
        go_still_tail 13,(by kernel_rfl)
        repeat still_step
        change wpList _ _ _ _ _ n.w.drew
        go_wp2_with fail
        go_roundw
        case rel=>exact⟨k+1,by omega,by go_num,(HSn.out.FD (by omega) _ _),by rw[HP.out];exact HOs.out _,(hbn.out.setCell (p:=⟨g7,i,ai⟩) FJ _).drew⟩
        case measure=>simp[intOf];omega
      ·have:k=i:=by omega
       subst this
       go_wp2_with fail
       go_roundw
       case rel=>refine⟨k+1,by omega,by go_num,?_,Zs.out⟩;have:=HO3.out;rwa[<-HS.out,WU]at this
       case measure=>simp[intOf];omega
    ·have:i=ss.length:=by omega
     subst this;rw[Nat.sub_self,List.replicate_zero,eN]at ho;have HO:=af ho;clear ho hb
     go_wp2_with fail
     go_ret2
     refine⟨_,DZ (by rw[HR.out]),?_,tv.out⟩;rw[HR.out];have:=pC.Du HO.out FJ (by rw[eT];exact hn);rwa[eT]at this
end
end Go.Proofs.YtknejlcijdngoaaGreat
