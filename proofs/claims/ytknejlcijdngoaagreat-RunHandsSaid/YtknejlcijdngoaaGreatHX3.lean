/- Several texts in one, made short by a program of mine. -/
import Derived.Test.YtknejlcijdngoaaGreatHX2
import Derived.Conc.WgGenN3
import Derived.Test.YtknejlcijdngoaaGreatRows
import Derived.Maps.AppendAt
import Derived.Laws.OwnMore
import Derived.WalkSmall
import Derived.Deep.DeepCutAuto
import Derived.Deep.RegionHeld3
import Derived.Deep.RegionWith
import Derived.StillTailTactics
import Derived.BigQuiet
import Derived.Orders
import Derived.Conc.Holds
import Derived.Deep.RegionLawGrows
import Derived.Laws.AppendOwnNone
import Derived.Shelf.SlSortCmp.NoneTotal
import Derived.Maps.RangeWalk
import Derived.Conc.WgGenN2
import Derived.Shelf.SlicesQ.Reverse
import Derived.Conc.AppendEvents
import Derived.Laws.ResultCell
set_option linter.defProp false
set_option linter.unusedVariables false
set_option linter.unusedSimpArgs false
set_option linter.unusedSectionVars false
set_option maxHeartbeats 16000000
set_option maxRecDepth 100000
open Array renaming all_eq_true->eK,empty_append->iK,getD_eq_getD_getElem?->aV,getElem?_eq_getElem->aH,getElem?_eq_some_iff->aE,getElem?_modify->br,getElem?_setIfInBounds_ne->aJ,getElem?_setIfInBounds_self_of_lt->aK,getElem?_toList->j3,replicate->dF,replicate_succ->cG,replicate_zero->cH
open Bool renaming and_eq_true->aG,false_eq_true->cK,not_eq_true'->fY,or_eq_true->gJ,false->au,true->ar
open Go renaming Frame->aY,FuncId->bG,Goroutine->aw,Operand->ca,Program->aO,TypeId->az,Value->ak,World->ai
open Go.Act renaming eval->bJ
open Go.Builtin renaming delete_->kX
open Go.ConcR renaming mk->ia
open Go.Deferred renaming ofValue->gS
open Go.Frame renaming finish_at->jr
open Go.Instr renaming checkKey->fB,findKey->jR,loadAt->dN,lookup->kE,storeAt->dP
open Go.Lib renaming hid->af
open Go.MapKept renaming run_getObj_map->kF
open Go.Proofs.Tryz renaming prog->aj
open Go.Region renaming linearise->mH,ready->dB,wanted->bj
open Go.Region.linearise renaming go->l5
open Go.Result renaming andThen->dW,andThen_ok->gT
open Go.Sem renaming runT->fD,run_bind->eD
open Go.Value renaming cells->fc,int->aS,oneCell'->fX,ownBlock->fC,slice->di
open Go.World renaming block_lt_of_cell?->lp,cell?->b3,size_alloc->cR
open Go.World.ownsRow renaming lt->kI
open Int renaming toNat_natCast->dT
open List renaming all_eq_true->lM,any_eq_true->j4,append_nil->eM,append_toArray->c9,cons_append->cW,eq_nil_of_length_eq_zero->fZ,ext_getElem?->iw,flatMap_append->eJ,flatMap_cons->cN,getD->bm,getElem?_append_right->kp,getElem?_cons_succ->eO,getElem?_drop->p6,getElem?_eq_getElem->aq,getElem?_eq_none->gi,getElem?_eq_some_iff->bz,getElem?_map->dx,getElem?_set->ga,getElem?_take->dS,getElem_mem->aR,length->kY,length_append->bK,length_cons->ay,length_map->bu,length_nil->aC,length_set->eu,length_take->dH,map_append->dZ,map_cons->fq,mem_append->gK,mem_cons->b6,mem_filter->cc,mem_map->aI,mem_of_getElem?->jw,mem_range->gm,mem_singleton->eC,nil_append->cg,push_toArray->dy,range->a6,replicate->bD,set_append_right->mM,size_toArray->aD,take_length->cE,take_succ_eq_append_getElem->aU
open List.Perm renaming append_left->dD,refl->oI,swap->cy
open List.range renaming loop->a7
open Nat renaming add_comm->du,add_mul->kC,add_sub_cancel_left->ij,add_zero->kq,eq_zero_or_pos->mO,le_refl->av,le_trans->be,lt_of_lt_of_le->aW,mul_le_mul_right->ik,one_mul->jF,sub_self->pI,zero_add->aZ,zero_le->bF
open Option renaming bind_some->kH,getD_some->bI,map_eq_some_iff->aF,map_some->eT,none->ah,some->ae
open Option.some renaming inj->aX,injEq->dm
open Or renaming inl->bt,inr->bW
namespace Go.Proofs.YtknejlcijdngoaaGreat
open Go.Proofs.Tryz
namespace Rel
open Go.Conc Go.ConcN Go.RowKit Go.Conc.Lib
open Go.ConcR (KK WgAt rd wr mk Payload DC0 stA smA wgBlock Aside2)
section
variable [Payload] {Z:Ph} {Y:Nat->Prop} {X:aw->ai->Prop} {m:Nat} {w:ai}
def S6{Z:Ph}{Y:Nat->Prop}:∀x y z,Z.MR Y x y->Z.MR Y y z->Z.MR Y x z:=λ_ _ _ h k=>h.trans k
def vO{w:ai}{a:Array Event}(h:∀e∈a,False):Z.DM Y w w a:=⟨rfl,λe b=>(h e b).elim⟩
def RD(Z:Ph)(Y:Nat->Prop)(w:ai):Z.DM Y w w #[]:=vO (by simp)
def MV{w:ai}{m:Mark}(a:Addr)(h:a.block=Z.Wg)(hm:m=.read a\/m=.write a):Z.DM Y w w #[⟨.mark m,au,ar⟩]:=⟨rfl,λe b=>by rw[Array.mem_singleton]at b;subst b;exact .inr (.inl ⟨a,h,hm.imp (by rintro rfl;rfl) (by rintro rfl;rfl)⟩)⟩
def gN{F:ai->Prop}(b:∀w c,Z.MR Y w c->F w->F c){w a:ai}(h:F w/\WgLive Z.ty Z.Wg w)(r:Z.MR Y w a):F a/\WgLive Z.ty Z.Wg a:=⟨b _ _ r h.1,r.live h.2⟩
def y9{g:aw}(e:g.status=.running){d:aw}(c:∀w,∀K:aw->ai->Array Event->Prop,K d w #[]->(stepG Z.P ar g w).goes K)(k:Z.GP Y X m d w):Z.GP Y X (m+1) g w:=Goes.step e λb a=>c b _ ⟨RD Z Y _,Goes.rely S6 k a⟩
def lr{g b:aw}(d:g.status=.running)(a:∀w,stepG Z.P ar g w=.go b w #[])(k:Z.GP Y X m b w):Z.GP Y X (m+1) g w:=y9 d (λw K c=>by rw[a w];exact c) k
section
variable{b:aY} {a:Act} {k:List Item} {W:List aY} {V:Array Oper} {i:Nat} {U:List Nat} {o:Oper}
def cw{x y:Code}(h:Z.GP Y X m (G (b.at a (.code x::.code y::k)) W) w):Z.GP Y X (m+1) (G (b.at a (.code (.seq x y)::k)) W) w:=lr rfl (λ_=>stepG_seq) h
def j2(h:Z.GP Y X m (G (b.at a k) W) w):Z.GP Y X (m+1) (G (b.at a (.code .skip::k)) W) w:=lr rfl (λ_=>stepG_skip) h
def wh{d:Nat}{c:Code}(h:Z.GP Y X m (G (b.at a (.code c::.inBlock d::k)) W) w):Z.GP Y X (m+1) (G (b.at a (.code (.block d c)::k)) W) w:=lr rfl (λ_=>stepG_block) h
def z7{c:Nat}(h:Z.GP Y X m (G (b.at a k) W) w):Z.GP Y X (m+1) (G (b.at a (.inBlock c::k)) W) w:=lr rfl (λ_=>stepG_inBlock) h
def M8{c:Code}(h:Z.GP Y X m (G (b.at a (.code c::.inLoop c::k)) W) w):Z.GP Y X (m+1) (G (b.at a (.code (.loop c)::k)) W) w:=lr rfl (λ_=>stepG_loop) h
def DX{c:Code}(h:Z.GP Y X m (G (b.at a (.code c::.inLoop c::k)) W) w):Z.GP Y X (m+1) (G (b.at a (.inLoop c::k)) W) w:=lr rfl (λ_=>stepG_inLoop) h
def xm{d:Nat}{V:Array Oper}{l:List Nat}(c:a6 V.size=l)(h:Z.GP Y X m (G (b.at a (.inRegion V l::k)) W) w):Z.GP Y X (m+1) (G (b.at a (.code (.region d V au)::k)) W) w:=by subst c;exact lr rfl (λ_=>stepG_region) h
def bx{d:Nat}{V:Array Oper}{l:List Nat}(h:Z.GP Y X m (G (b.at a (.inRegion V l::k)) W) w)(c:a6 V.size=l:=by simp only[aD,ay,aC,Nat.reduceAdd,aZ,a6,List.range.loop];rfl):Z.GP Y X (m+1) (G (b.at a (.code (.region d V au)::k)) W) w:=xm c h
def da{V:Array Oper}(h:Z.GP Y X m (G (b.at a k) W) w):Z.GP Y X (m+1) (G (b.at a (.inRegion V []::k)) W) w:=lr rfl (λ_=>stepG_region_end) h
def M6{c:ca}{x y:Code}(t:Bool)(d:a.eval c=.bool t)(h:Z.GP Y X m (G (b.at a (.code (if t then x else y)::k)) W) w):Z.GP Y X (m+1) (G (b.at a (.code (.cond c x y)::k)) W) w:=lr rfl (λ_=>stepG_cond d) h
def j9{c:ca}{x y:Code}(d:a.eval c=.bool ar)(h:Z.GP Y X m (G (b.at a (.code x::k)) W) w):Z.GP Y X (m+1) (G (b.at a (.code (.cond c x y)::k)) W) w:=M6 ar d h
def iM{c:ca}{x y:Code}(d:a.eval c=.bool au)(h:Z.GP Y X m (G (b.at a (.code y::k)) W) w):Z.GP Y X (m+1) (G (b.at a (.code (.cond c x y)::k)) W) w:=M6 au d h
def M7{c:Nat}{d:List Item}(e:exitTo c k=ae d)(h:Z.GP Y X m (G (b.at a d) W) w):Z.GP Y X (m+1) (G (b.at a (.code (.exit c)::k)) W) w:=lr rfl (λ_=>stepG_exit e) h
def o0(h:Z.GP Y X m (G {b.at a (.code .ret::k)with mode:=.returning} W) w):Z.GP Y X (m+1) (G (b.at a (.code .ret::k)) W) w:=lr rfl (λ_=>stepG_ret') h
def Vy(h:Z.GP Y X m (G {b.at a []with mode:=.returning} W) w):Z.GP Y X (m+1) (G (b.at a []) W) w:=lr rfl (λ_=>stepG_end) h
def iy(c:V[i]? =ae o)(d:bj o (yielded V a.tmps)=au)(h:Z.GP Y X m (G (b.at (a.put o.dst undef) (.inRegion V U::k)) W) w):Z.GP Y X (m+1) (G (b.at a (.inRegion V (i::U)::k)) W) w:=lr rfl (λ_=>stepG_unwanted c d) h
def z8(v:ak)(j:V[i]? =ae o)(l:bj o (yielded V a.tmps)=ar)(g:b.kind≠.early)(e:∀c,Z.MR Y w c->(execOp a.eval o).run Z.P c=.ok (.value v) c)(f:∀c,Z.MR Y w c->(execOp a.eval o).events Z.P c #[]=#[])(h:Z.GP Y X m (G (b.at (a.put o.dst v) (.inRegion V U::k)) W) w):Z.GP Y X (m+1) (G (b.at a (.inRegion V (i::U)::k)) W) w:=Goes.step rfl λc d=>by rw[stepG_value j l g (e c d)];refine⟨?_,Goes.rely S6 h d⟩;unfold listed;rw[f c d,seen_none];exact RD Z Y _
def aM(v:ak)(h:Z.GP Y X m (G (b.at (a.put o.dst v) (.inRegion V U::k)) W) w)(g:V[i]? =ae o:=by rfl)(j:bj o (yielded V a.tmps)=ar:=by rfl)(f:b.kind≠.early:=by k_ne)(d:∀c,Z.MR Y w c->(execOp a.eval o).run Z.P c=.ok (.value v) c:=by intro _ _;go_simp<;>rfl)(e:∀c,Z.MR Y w c->(execOp a.eval o).events Z.P c #[]=#[]:=by intro _ _;simp[go_sem, *]):Z.GP Y X (m+1) (G (b.at a (.inRegion V (i::U)::k)) W) w:=z8 v g j f d e h
def Vz(v:ak)(n:V[i]? =ae o)(p:bj o (yielded V a.tmps)=ar)(j:b.kind≠.early)(f:∀c,Z.MR Y w c->(execOp a.eval o).run Z.P c=.ok (.value v) c)(g:∀c,Z.MR Y w c->∀e∈(execOp a.eval o).events Z.P c #[],Z.EvM Y e)(h:Z.GP Y X m (G (b.at (a.put o.dst v) (.inRegion V U::k)) W) w):Z.GP Y X (m+1) (G (b.at a (.inRegion V (i::U)::k)) W) w:=Goes.step rfl λc d=>by rw[stepG_value n p j (f c d)];exact⟨⟨rfl,λe l=>g c d e (iT _ _ e l)⟩,Goes.rely S6 h d⟩
def Sf{f:bG}{e:Array ca}{c:Array az}(j:V[i]? =ae o)(l:bj o (yielded V a.tmps)=ar)(g:b.kind≠.early)(d:o.op=.defer {callee:=.value (.func f),args:=e,argTypes:=c})(h:Z.GP Y X m (G (b.at (Act.put ⟨a.tmps,dcall f (e.map a.eval)::a.defers⟩ o.dst undef) (.inRegion V U::k)) W) w):Z.GP Y X (m+1) (G (b.at a (.inRegion V (i::U)::k)) W) w:=lr rfl (λ_=>stepG_defer j l g d) h
def ot{f:bG}{e:Func}{c:Code}{args:Array ca}{g:Array az}(r:V[i]? =ae o)(s:bj o (yielded V a.tmps)=ar)(q:b.kind≠.early)(j:o.op=.call {callee:=.value (.func f),args,argTypes:=g})(p:Z.P.funcs[f]? =ae e)(d:(e.name== "runtime.NumGoroutine")=au)(n:e.body=ae c)(h:Z.GP Y X m (G ((base f).at {tmps:=args.map a.eval++dF (e.ntmps-(args.map a.eval).size) undef,defers:=[]} [.code c]) (b.at a (.inRegion V (i::U)::k)::W)) w):Z.GP Y X (m+1) (G (b.at a (.inRegion V (i::U)::k)) W) w:=y9 rfl (λ_ _ l=>goes_call r s q j p d n l) h
variable{T:Func} {S:List Item} {R:aY} {Q:Act}
def qV(f:b.kind=.normal)(d:a.defers=[])(e:Z.P.funcs[b.fn]? =ae T)(g:T.results=#[])(h:Z.GP Y X m (G (R.at (Q.put ((V[i]?).bind (·.dst)) (.tuple #[])) (.inRegion V U::k)) W) w):Z.GP Y X (m+1) (G {b.at a S with mode:=.returning} (R.at Q (.inRegion V (i::U)::k)::W)) w:=y9 rfl (λ_ _ c=>goes_leave0 f d e g c) h
def lZ{t:Tmp}(f:b.kind=.normal)(d:a.defers=[])(e:Z.P.funcs[b.fn]? =ae T)(g:T.results=#[.tmp t])(h:Z.GP Y X m (G (R.at (Q.put ((V[i]?).bind (·.dst)) (a.tmps.getD t undef)) (.inRegion V U::k)) W) w):Z.GP Y X (m+1) (G {b.at a S with mode:=.returning} (R.at Q (.inRegion V (i::U)::k)::W)) w:=y9 rfl (λ_ _ c=>goes_leave1 f d e g c) h
end
end
end Rel
namespace Rel
open Go.Conc Go.ConcN Go.RowKit Go.Conc.Lib Go.ConcR.Gen Go.ConcN.Gen
open Go.ConcR (KK WgAt rd wr mk Payload DC0 stA smA wgBlock Aside2)
section
variable [Payload] {φ:Ph} {L:WgLink} {μ:Nat->Prop}
def U'{F:ai->Prop}{Next:(Nat->Prop)->aw->ai->Prop}{b₀:aY}{a₀:Act}{ops₀:Array Oper}{i₀:Nat}{rest₀:List Nat}{k₀:List Item}{cs:List aY}{mT:Nat}(H:WgLib φ.P L)(n:φ.ty=L.tWg)(d:∀w y,φ.MR μ w y->F w->F y)(t:∀w v,F w->F (w.setCell (stA φ.Wg) v))(x:∀w,F w->WgLive φ.ty φ.Wg w->φ.GP μ (φ.AtGoS Next μ) mT (G (b₀.at (a₀.put ((ops₀[i₀]?).bind (·.dst)) (.tuple #[])) (.inRegion ops₀ rest₀::k₀)) cs) w)(w:ai)(a:F w/\WgLive φ.ty φ.Wg w):φ.GP μ (φ.AtKdS Next μ) 100 (G ((base L.add).at ⟨#[.pointer (ae ⟨φ.Wg,0,ah⟩),.int .i64 1]++dF 115 undef,[]⟩ [.code (body_add L)]) (b₀.at a₀ (.inRegion ops₀ (i₀::rest₀)::k₀)::cs)) w:=by
 lib_facts
 simp only[body_add,addFn,bI,cG,cH,dy,c9,cg,cW];refine cw ?_;refine j9 (by first|rfl|(simp[bJ];done)|(simp[bJ];omega)) ?_;refine cw ?_;refine cw ?_;refine bx ?_;refine aM _ ?_;walk_nrm;try w_num
 refine aM _ ?_;walk_nrm;try w_num
 refine da ?_;refine iM (by first|rfl|(simp[bJ];done)|(simp[bJ];omega)) ?_;refine j2 ?_;refine cw ?_;refine bx ?_;refine Goes.stop (λz h=> ?_)
 replace a:=gN d a h
 clear h;refine⟨rfl,_,stepG_mark0 .disable (by simp) rfl rfl (by k_ne) rfl H.f_disable (x_disable_n L) (x_disable_b L) (x_disable_x L) (x_disable_f L),100,?_⟩;walk_nrm;refine da ?_;refine bx ?_;refine Sf rfl rfl (by k_ne) rfl ?_;walk_nrm;refine da ?_;refine cw ?_;refine bx ?_;refine aM _ ?_;walk_nrm;try w_num
 refine da ?_;refine cw ?_;refine cw ?_;refine bx ?_;refine lr rfl (λ_=>stepG_entry_pure (.bool au) rfl rfl (by k_ne) rfl H.f_inBubble (x_inBubble_n L) (x_inBubble_b L) (x_inBubble_x L) (x_inBubble_f L)) ?_;walk_nrm;refine da ?_;refine iM (by first|rfl|(simp[bJ];done)|(simp[bJ];omega)) ?_;refine j2 ?_;refine cw ?_;refine bx ?_;refine aM _ ?_;walk_nrm;try w_num
 refine aM _ ?_;walk_nrm;try w_num
 refine aM _ ?_;walk_nrm;try w_num
 refine aM _ ?_;walk_nrm;try w_num
 refine aM _ ?_;walk_nrm;try w_num
 refine aM _ ?_;walk_nrm;try w_num
 refine ot rfl rfl (by k_ne) rfl H.f_uAdd (nm_uAdd L) rfl ?_;walk_nrmf uAddFn;refine cw ?_;refine bx ?_;refine aM _ ?_;walk_nrm;try w_num
 refine da ?_;refine cw ?_;refine bx ?_;refine aM _ ?_;walk_nrm;try w_num
 refine aM _ ?_;walk_nrm;try w_num
 refine aM _ ?_;walk_nrm;try w_num
 refine aM _ ?_;walk_nrm;try w_num
 refine Goes.stop (λl i=> ?_)
 replace a:=gN d a i
 clear i;refine⟨rfl,λv R o=> ?_⟩;obtain⟨V,m⟩:∃V:Int,V=(v:Int)+1:=⟨_,rfl⟩;obtain⟨S,f⟩:∃S:Int,S=V *KK:=⟨_,rfl⟩;have s:IntKind.u64.wrap ((v:Int) *KK+4294967296)=S:=by rw[IntKind.wrap_u64,f,m];simp only[KK];omega
 rw[<-m,<-f];rw[n]at o;refine⟨_,(stepG_add_atomic rfl rfl (by k_ne) rfl H.f_addU64 (x_addU64_n L) (x_addU64_b L) (x_addU64_x L) .u64 (x_addU64_f L) rfl rfl o.cellSt (o.thaw 0)).trans (by rw[s];rfl),?_⟩
 replace a:F (l.setCell (stA φ.Wg) (.int .u64 S))/\WgLive φ.ty φ.Wg (l.setCell (stA φ.Wg) (.int .u64 S)):=⟨t _ _ a.1,⟨_,_,by rw[n];exact o.setSt _⟩⟩
 rcases mO v with rfl|K
 ·
  have u:S=4294967296:=by rw[f,m];simp[KK]
  subst u;clear o f m s;refine⟨200,?_⟩;walk_nrm;refine aM _ ?_;walk_nrm;try w_num
  refine da ?_;refine o0 ?_;refine lZ rfl rfl H.f_uAdd rfl ?_;walk_nrm;refine aM _ ?_;walk_nrm;try w_num
  refine da ?_;refine cw ?_;refine cw ?_;refine bx ?_;refine aM _ ?_;walk_nrm;try w_num
  refine aM _ ?_;walk_nrm;try w_num
  refine aM _ ?_;walk_nrm;try w_num
  refine aM _ ?_;walk_nrm;try w_num
  refine iy rfl rfl ?_;walk_nrm;refine iy rfl rfl ?_;walk_nrm;refine aM _ ?_;walk_nrm;try w_num
  refine da ?_;refine iM (by first|rfl|(simp[bJ];done)|(simp[bJ];omega)) ?_;refine j2 ?_;refine cw ?_;refine bx ?_;refine aM _ ?_;walk_nrm;try w_num
  refine aM _ ?_;walk_nrm;try w_num
  refine aM _ ?_;walk_nrm;try w_num
  refine aM _ ?_;walk_nrm;try w_num
  refine da ?_;refine cw ?_;refine bx ?_;refine aM _ ?_;walk_nrm;try w_num
  refine aM _ ?_;walk_nrm;try w_num
  refine aM _ ?_;walk_nrm;try w_num
  refine aM _ ?_;walk_nrm;try w_num
  refine da ?_;refine cw ?_;refine cw ?_;refine bx ?_;refine aM _ ?_;walk_nrm;try w_num
  refine aM _ ?_;walk_nrm;try w_num
  refine aM _ ?_;walk_nrm;try w_num
  refine aM _ ?_;walk_nrm;try w_num
  refine aM _ ?_;walk_nrm;try w_num
  refine aM _ ?_;walk_nrm;try w_num
  refine aM _ ?_;walk_nrm;try w_num
  refine aM _ ?_;walk_nrm;try w_num
  refine aM _ ?_;walk_nrm;try w_num
  refine aM _ ?_;walk_nrm;try w_num
  refine da ?_;refine j9 (by first|rfl|(simp[bJ];done)|(simp[bJ];omega)) ?_;refine bx ?_;refine aM _ ?_;walk_nrm;try w_num
  refine aM _ ?_;walk_nrm;try w_num
  refine aM _ ?_;walk_nrm;try w_num
  refine Goes.step rfl (λA j=> ?_)
  replace a:=gN d a j
  clear j;have c:=(WgLive.cell1 (ty:=L.tWg) (n▸a.2)).choose_spec;have q:=run_convert_to_unsafe (P:=φ.P) H.underlying_tPU32 H.underlying_tUP H.room_tU32 c;have g:=λD=>events_convert_to_unsafe (P:=φ.P) H.underlying_tPU32 H.underlying_tUP H.room_tU32 c D
  refine goes_oper_k rfl rfl (by k_ne) (λC p=> ?_);go_simp;refine p _ _ ⟨vO λe J=>by have hm:=mem_listed J;simp[go_sem,g]at hm,?_⟩;clear p C q g c;refine Goes.step rfl (λB k=> ?_)
  replace a:=gN d a k
  clear k;rw[stepG_markAt .read (by simp) rfl rfl (by k_ne) rfl H.f_raceRead (x_raceRead_n L) (x_raceRead_b L) (x_raceRead_x L) (x_raceRead_f L) (ad:=⟨φ.Wg,1,ah⟩) (by simp[bJ])];simp only[goes_go];refine⟨MV _ rfl (.inl rfl),?_⟩;walk_nrm;refine da ?_;refine cw ?_;refine cw ?_;refine bx ?_;refine aM _ ?_;walk_nrm;try w_num
  refine aM _ ?_;walk_nrm;try w_num
  refine da ?_;refine iM (by first|rfl|(simp[bJ];done)|(simp[bJ];omega)) ?_;refine j2 ?_;refine cw ?_;refine cw ?_;refine bx ?_;refine aM _ ?_;walk_nrm;try w_num
  refine aM _ ?_;walk_nrm;try w_num
  refine aM _ ?_;walk_nrm;try w_num
  refine iy rfl rfl ?_;walk_nrm;refine iy rfl rfl ?_;walk_nrm;refine aM _ ?_;walk_nrm;try w_num
  refine aM _ ?_;walk_nrm;try w_num
  refine iy rfl rfl ?_;walk_nrm;refine iy rfl rfl ?_;walk_nrm;refine iy rfl rfl ?_;walk_nrm;refine iy rfl rfl ?_;walk_nrm;refine aM _ ?_;walk_nrm;try w_num
  refine da ?_;refine iM (by first|rfl|(simp[bJ];done)|(simp[bJ];omega)) ?_;refine j2 ?_;refine cw ?_;refine cw ?_;refine bx ?_;refine aM _ ?_;walk_nrm;try w_num
  refine aM _ ?_;walk_nrm;try w_num
  refine aM _ ?_;walk_nrm;try w_num
  refine iy rfl rfl ?_;walk_nrm;refine iy rfl rfl ?_;walk_nrm;refine aM _ ?_;walk_nrm;try w_num
  refine da ?_;refine j9 (by first|rfl|(simp[bJ];done)|(simp[bJ];omega)) ?_;refine o0 ?_;refine Goes.stop (λr b=> ?_)
  replace a:=gN d a b
  clear b;refine⟨rfl,_,stepG_unwind_entry (v:=.tuple #[]) (evs:=#[ia .enable]) rfl H.f_enable (x_enable_n L) (x_enable_b L) (x_enable_x L) (x_enable_f L) (by simp[Extern.Race.none_]) (by simp[ia]) (by simp[ia]),mT+1,?_⟩;refine qV rfl rfl H.f_add rfl ?_;exact x _ a.1 a.2
 ·
  have M:S / 4294967296=V:=by rw[f];simp only[KK];omega
  have N:bits .and .u64 S 2147483648=0:=by rw[f,m];have:=st_flag (v+1) 0 (by omega) (by omega);simpa[KK]using this
  have O:bits .and .u64 S 2147483647=0:=by rw[f,m];have:=st_waiters (v+1) 0 (by omega) (by omega);simpa[KK]using this
  have Q:IntKind.i32.wrap V=V:=by rw[IntKind.wrap_i32];omega
  have E:1<V:=by omega
  have I:V<2147483648:=by omega
  have T:(V==1)=au:=by simp;omega
  have U:decide (V=1)=au:=decide_eq_false (by omega);have W:decide (V<0)=au:=decide_eq_false (by omega);have X:decide (0<V)=ar:=decide_eq_true (by omega);have Y:(V==0)=au:=by simp;omega
  have Z:decide (V=0)=au:=decide_eq_false (by omega);clear o f m s;refine⟨200,?_⟩;walk_nrm;refine aM _ ?_;walk_nrm;try w_num
  refine da ?_;refine o0 ?_;refine lZ rfl rfl H.f_uAdd rfl ?_;walk_nrm;refine aM _ ?_;walk_nrm;try w_num
  refine da ?_;refine cw ?_;refine cw ?_;refine bx ?_;refine aM _ ?_;walk_nrm;try w_num
  refine aM _ ?_;walk_nrm;try w_num
  refine aM _ ?_;walk_nrm;try w_num
  refine aM _ ?_;walk_nrm;try w_num
  refine iy rfl rfl ?_;walk_nrm;refine iy rfl rfl ?_;walk_nrm;refine aM _ ?_;walk_nrm;try w_num
  refine da ?_;refine iM (by first|rfl|(simp[bJ];done)|(simp[bJ];omega)) ?_;refine j2 ?_;refine cw ?_;refine bx ?_;refine aM _ ?_;walk_nrm;try w_num
  refine aM _ ?_;walk_nrm;try w_num
  refine aM _ ?_;walk_nrm;try w_num
  refine aM _ ?_;walk_nrm;try w_num
  refine da ?_;refine cw ?_;refine bx ?_;refine aM _ ?_;walk_nrm;try w_num
  refine aM _ ?_;walk_nrm;try w_num
  refine aM _ ?_;walk_nrm;try w_num
  refine aM _ ?_;walk_nrm;try w_num
  refine da ?_;refine cw ?_;refine cw ?_;refine bx ?_;refine aM _ ?_;walk_nrm;try w_num
  refine aM _ ?_;walk_nrm;try w_num
  refine aM _ ?_;walk_nrm;try w_num
  refine aM _ ?_;walk_nrm;try w_num
  refine aM _ ?_;walk_nrm;try w_num
  refine aM _ ?_;walk_nrm;try w_num
  refine aM _ ?_;walk_nrm;try w_num
  refine aM _ ?_;walk_nrm;try w_num
  refine aM _ ?_;walk_nrm;try w_num
  refine aM _ ?_;walk_nrm;try w_num
  refine da ?_;refine iM (by first|rfl|(simp[bJ];done)|(simp[bJ];omega)) ?_;refine j2 ?_;refine cw ?_;refine cw ?_;refine bx ?_;refine aM _ ?_;walk_nrm;try w_num
  refine aM _ ?_;walk_nrm;try w_num
  refine da ?_;refine iM (by first|rfl|(simp[bJ];done)|(simp[bJ];omega)) ?_;refine j2 ?_;refine cw ?_;refine cw ?_;refine bx ?_;refine aM _ ?_;walk_nrm;try w_num
  refine aM _ ?_;walk_nrm;try w_num
  refine aM _ ?_;walk_nrm;try w_num
  refine iy rfl rfl ?_;walk_nrm;refine iy rfl rfl ?_;walk_nrm;refine aM _ ?_;walk_nrm;try w_num
  refine aM _ ?_;walk_nrm;try w_num
  refine iy rfl rfl ?_;walk_nrm;refine iy rfl rfl ?_;walk_nrm;refine iy rfl rfl ?_;walk_nrm;refine iy rfl rfl ?_;walk_nrm;refine aM _ ?_;walk_nrm;try w_num
  refine da ?_;refine iM (by first|rfl|(simp[bJ];done)|(simp[bJ];omega)) ?_;refine j2 ?_;refine cw ?_;refine cw ?_;refine bx ?_;refine aM _ ?_;walk_nrm;try w_num
  refine aM _ ?_;walk_nrm;try w_num
  refine aM _ ?_;walk_nrm;try w_num
  refine iy rfl rfl ?_;walk_nrm;refine iy rfl rfl ?_;walk_nrm;refine aM _ ?_;walk_nrm;try w_num
  refine da ?_;refine j9 (by first|rfl|(simp[bJ];done)|(simp[bJ];omega)) ?_;refine o0 ?_;refine Goes.stop (λr b=> ?_)
  replace a:=gN d a b
  clear b;refine⟨rfl,_,stepG_unwind_entry (v:=.tuple #[]) (evs:=#[ia .enable]) rfl H.f_enable (x_enable_n L) (x_enable_b L) (x_enable_x L) (x_enable_f L) (by simp[Extern.Race.none_]) (by simp[ia]) (by simp[ia]),mT+1,?_⟩;refine qV rfl rfl H.f_add rfl ?_;exact x _ a.1 a.2
end
section
variable [Payload] {Z:Ph} {L:WgLink} {μ:Nat->Prop}
def Dr(Z:Ph)(L:WgLink)(F:ai->Prop)(c:aY)(cs:List aY)(g:aw)(w:ai):Prop:=∃T:Array ak,g=G ((base L.wait).at ⟨T,[]⟩ [.code (L7 L),.inLoop (L7 L),.inBlock 0]) (c::cs)/\T.size=84/\T[0]? =ae (.pointer (ae ⟨Z.Wg,0,ah⟩))/\F w/\WgLive Z.ty Z.Wg w
variable{F:ai->Prop} {Y:aw->ai->Prop} {b₀:aY} {X:Act} {W:Array Oper} {i₀:Nat} {rest₀:List Nat} {k₀:List Item} {V:List aY} {mT:Nat}
def Mp(H:WgLib Z.P L)(j:Z.ty=L.tWg)(d:∀w w',Z.MR μ w w'->F w->F w')(E:∀w a v,a.block=Z.Wg->F w->F (w.setCell a v))(U:∀w,F w->WgLive Z.ty Z.Wg w->Z.GP μ (Ph.AtRet Y) mT (G (b₀.at (X.put ((W[i₀]?).bind (·.dst)) (.tuple #[])) (.inRegion W rest₀::k₀)) V) w)(g:aw)(w:ai)(h:Dr Z L F (b₀.at X (.inRegion W (i₀::rest₀)::k₀)) V g w):∃m,Z.GP μ (Z.AtW1 μ Y (Dr Z L F (b₀.at X (.inRegion W (i₀::rest₀)::k₀)) V)) m g w:=by
 lib_facts
 obtain⟨T,rfl,I,t0,c⟩:=h;obtain⟨v0,v1,v2,v3,v4,v5,v6,v7,v8,v9,v10,v11,v12,v13,v14,v15,v16,v17,v18,v19,v20,v21,v22,v23,v24,v25,v26,v27,v28,v29,v30,v31,v32,v33,v34,v35,v36,v37,v38,v39,v40,v41,v42,v43,v44,v45,v46,v47,v48,v49,v50,v51,v52,v53,v54,v55,v56,v57,v58,v59,v60,v61,v62,v63,v64,v65,v66,v67,v68,v69,v70,v71,v72,v73,v74,v75,v76,v77,v78,v79,v80,v81,v82,v83,rfl⟩:=array84 T I;simp only[List.getElem?_toArray,List.getElem?_cons_zero,dm]at t0;subst t0;refine⟨30,?_⟩;simp only[L7,body_wait,waitFn,bI];refine wh ?_;refine cw ?_;refine bx ?_;refine aM _ ?_;walk_nrm;try w_num
 refine aM _ ?_;walk_nrm;try w_num
 refine aM _ ?_;walk_nrm;try w_num
 refine ot rfl rfl (by k_ne) rfl H.f_uLoad (nm_uLoad L) rfl ?_;walk_nrmf uLoadFn;refine cw ?_;refine bx ?_;refine aM _ ?_;walk_nrm;try w_num
 refine da ?_;refine cw ?_;refine bx ?_;refine aM _ ?_;walk_nrm;try w_num
 refine aM _ ?_;walk_nrm;try w_num
 refine aM _ ?_;walk_nrm;try w_num
 refine Goes.stop (λM s=> ?_)
 replace c:=gN d c s
 clear s;refine⟨rfl,λv hv i=> ?_⟩;rw[j]at i;rcases mO v with rfl|hvp
 ·
  replace i:WgAt L.tWg Z.Wg M 0 0:=by simpa using i
  refine⟨_,stepG_load_atomic (v:=0) rfl rfl (by k_ne) rfl H.f_loadU64 (x_loadU64_n L) (x_loadU64_b L) (x_loadU64_x L) .u64 (x_loadU64_f L) rfl i.cellSt,λ_=>⟨60,?_⟩,λh=>absurd rfl h⟩;clear i;walk_nrm;refine aM _ ?_;walk_nrm;try w_num
  refine da ?_;refine o0 ?_;refine lZ rfl rfl H.f_uLoad rfl ?_;walk_nrm;refine aM _ ?_;walk_nrm;try w_num
  refine da ?_;refine cw ?_;refine bx ?_;refine aM _ ?_;walk_nrm;try w_num
  refine aM _ ?_;walk_nrm;try w_num
  refine aM _ ?_;walk_nrm;try w_num
  refine aM _ ?_;walk_nrm;try w_num
  refine da ?_;refine cw ?_;refine bx ?_;refine aM _ ?_;walk_nrm;try w_num
  refine aM _ ?_;walk_nrm;try w_num
  refine aM _ ?_;walk_nrm;try w_num
  refine aM _ ?_;walk_nrm;try w_num
  refine da ?_;refine cw ?_;refine cw ?_;refine bx ?_;refine aM _ ?_;walk_nrm;try w_num
  refine aM _ ?_;walk_nrm;try w_num
  refine da ?_;refine j9 (by first|rfl|(simp[bJ];done)|(simp[bJ];omega)) ?_;refine cw ?_;refine j9 (by first|rfl|(simp[bJ];done)|(simp[bJ];omega)) ?_;refine cw ?_;refine bx ?_;refine Goes.stop (λO o=> ?_)
  replace c:=gN d c o
  clear o;refine⟨rfl,_,stepG_mark0 .enable (by simp) rfl rfl (by k_ne) rfl H.f_enable (x_enable_n L) (x_enable_b L) (x_enable_x L) (x_enable_f L),14,?_⟩;walk_nrm;refine da ?_;refine bx ?_;refine aM _ ?_;walk_nrm;try w_num
  refine Goes.step rfl (λQ p=> ?_)
  replace c:=gN d c p
  clear p;have b:=(WgLive.cell0 (ty:=L.tWg) (j▸c.2)).choose_spec;have l:=run_convert_to_unsafe (P:=Z.P) H.underlying_tWgP H.underlying_tUP H.room_tWg b;have f:=λD=>events_convert_to_unsafe (P:=Z.P) H.underlying_tWgP H.underlying_tUP H.room_tWg b D
  refine goes_oper_k rfl rfl (by k_ne) (λC k=> ?_);go_simp;refine k _ _ ⟨vO λe J=>by have hm:=mem_listed J;simp[go_sem,f]at hm,?_⟩;clear k C l f b;refine Goes.stop (λR q=> ?_)
  replace c:=gN d c q
  clear q;refine⟨rfl,_,stepG_markAt .acquire (by simp) rfl rfl (by k_ne) rfl H.f_acquire (x_acquire_n L) (x_acquire_b L) (x_acquire_x L) (x_acquire_f L) (by simp[bJ,stA]),⟨mT+20,?_⟩⟩;walk_nrm;refine da ?_;refine cw ?_;refine cw ?_;refine bx ?_;refine aM _ ?_;walk_nrm;try w_num
  refine aM _ ?_;walk_nrm;try w_num
  refine aM _ ?_;walk_nrm;try w_num
  refine aM _ ?_;walk_nrm;try w_num
  refine aM _ ?_;walk_nrm;try w_num
  refine aM _ ?_;walk_nrm;try w_num
  refine aM _ ?_;walk_nrm;try w_num
  refine aM _ ?_;walk_nrm;try w_num
  refine iy rfl rfl ?_;walk_nrm;refine iy rfl rfl ?_;walk_nrm;refine aM _ ?_;walk_nrm;try w_num
  refine da ?_;refine iM (by first|rfl|(simp[bJ];done)|(simp[bJ];omega)) ?_;refine j2 ?_;refine o0 ?_;refine qV rfl rfl H.f_wait rfl ?_;exact Goes.mono (U _ c.1 c.2) (by omega)
 ·
  obtain⟨S,B⟩:∃S:Int,(v:Int) *KK=S:=⟨_,rfl⟩;have a1:S / 4294967296=(v:Int):=by rw[<-B];simp only[KK];omega
  have b1:bits .and .u64 S 2147483648=0:=by rw[<-B];have:=st_flag v 0 (by omega) (by omega);simpa[KK]using this
  have b2:bits .and .u64 S 2147483647=0:=by rw[<-B];have:=st_waiters v 0 (by omega) (by omega);simpa[KK]using this
  have c1:IntKind.i32.wrap (v:Int)=(v:Int):=by rw[IntKind.wrap_i32];omega
  have w1:IntKind.u64.wrap (S+1)=S+1:=by rw[IntKind.wrap_u64,<-B];simp only[KK];omega
  have q3:decide ((v:Int)<0)=au:=decide_eq_false (by omega);have q4:decide (0<(v:Int))=ar:=decide_eq_true (by omega);have q5:((v:Int)==0)=au:=by simp;omega
  have q6:decide ((v:Int)=0)=au:=decide_eq_false (by omega);have q7:decide (v=0)=au:=decide_eq_false (by omega);have q8:¬v=0:=by omega
  rw[B]at i;refine⟨_,stepG_load_atomic (v:=S) rfl rfl (by k_ne) rfl H.f_loadU64 (x_loadU64_n L) (x_loadU64_b L) (x_loadU64_x L) .u64 (x_loadU64_f L) rfl i.cellSt,λh0=>absurd h0 (by omega),λ_=>⟨60,?_⟩⟩;clear i;walk_nrm;refine aM _ ?_;walk_nrm;try w_num
  refine da ?_;refine o0 ?_;refine lZ rfl rfl H.f_uLoad rfl ?_;walk_nrm;refine aM _ ?_;walk_nrm;try w_num
  refine da ?_;refine cw ?_;refine bx ?_;refine aM _ ?_;walk_nrm;try w_num
  refine aM _ ?_;walk_nrm;try w_num
  refine aM _ ?_;walk_nrm;try w_num
  refine aM _ ?_;walk_nrm;try w_num
  refine da ?_;refine cw ?_;refine bx ?_;refine aM _ ?_;walk_nrm;try w_num
  refine aM _ ?_;walk_nrm;try w_num
  refine aM _ ?_;walk_nrm;try w_num
  refine aM _ ?_;walk_nrm;try w_num
  refine da ?_;refine cw ?_;refine cw ?_;refine bx ?_;refine aM _ ?_;walk_nrm;try w_num
  refine aM _ ?_;walk_nrm;try w_num
  refine da ?_;refine iM (by first|rfl|(simp[bJ];done)|(simp[bJ];omega)) ?_;refine j2 ?_;refine cw ?_;refine bx ?_;refine aM _ ?_;walk_nrm;try w_num
  refine aM _ ?_;walk_nrm;try w_num
  refine aM _ ?_;walk_nrm;try w_num
  refine aM _ ?_;walk_nrm;try w_num
  refine aM _ ?_;walk_nrm;try w_num
  refine aM _ ?_;walk_nrm;try w_num
  refine ot rfl rfl (by k_ne) rfl H.f_uCas (nm_uCas L) rfl ?_;walk_nrmf uCasFn;refine cw ?_;refine bx ?_;refine aM _ ?_;walk_nrm;try w_num
  refine da ?_;refine cw ?_;refine bx ?_;refine aM _ ?_;walk_nrm;try w_num
  refine aM _ ?_;walk_nrm;try w_num
  refine aM _ ?_;walk_nrm;try w_num
  refine aM _ ?_;walk_nrm;try w_num
  refine aM _ ?_;walk_nrm;try w_num
  refine Goes.stop (λz t=> ?_)
  replace c:=gN d c t
  clear t;refine⟨rfl,λv' hv' i=>⟨λe=> ?_,λe=> ?_⟩⟩
  ·
   subst e;rw[j]at i;rw[B]at i|-;refine⟨_,(stepG_cas_hit (v:=S) (n:=S+1) rfl rfl (by k_ne) rfl H.f_casU64 (x_casU64_n L) (x_casU64_b L) (x_casU64_x L) .u64 (x_casU64_f L) rfl rfl rfl i.cellSt (i.thaw 0)).trans (by rfl),70,?_⟩
   replace c:F (z.setCell (stA Z.Wg) (.int .u64 (S+1)))/\WgLive Z.ty Z.Wg (z.setCell (stA Z.Wg) (.int .u64 (S+1))):=⟨E _ _ _ rfl c.1,⟨_,_,by rw[j];exact i.setSt _⟩⟩
   clear i;walk_nrm;refine aM _ ?_;walk_nrm;try w_num
   refine da ?_;refine o0 ?_;refine lZ rfl rfl H.f_uCas rfl ?_;walk_nrm;refine da ?_;refine j9 (by first|rfl|(simp[bJ];done)|(simp[bJ];omega)) ?_;refine cw ?_;refine cw ?_;refine bx ?_;refine aM _ ?_;walk_nrm;try w_num
   refine aM _ ?_;walk_nrm;try w_num
   refine aM _ ?_;walk_nrm;try w_num
   refine aM _ ?_;walk_nrm;try w_num
   refine da ?_;refine j9 (by first|rfl|(simp[bJ];done)|(simp[bJ];omega)) ?_;refine bx ?_;refine aM _ ?_;walk_nrm;try w_num
   refine aM _ ?_;walk_nrm;try w_num
   refine aM _ ?_;walk_nrm;try w_num
   refine Goes.step rfl (λN r=> ?_)
   replace c:=gN d c r
   clear r;have b:=(WgLive.cell1 (ty:=L.tWg) (j▸c.2)).choose_spec;have l:=run_convert_to_unsafe (P:=Z.P) H.underlying_tPU32 H.underlying_tUP H.room_tU32 b;have f:=λD=>events_convert_to_unsafe (P:=Z.P) H.underlying_tPU32 H.underlying_tUP H.room_tU32 b D
   refine goes_oper_k rfl rfl (by k_ne) (λC k=> ?_);go_simp;refine k _ _ ⟨vO λe J=>by have hm:=mem_listed J;simp[go_sem,f]at hm,?_⟩;clear k C l f b;refine Goes.step rfl (λaej u=> ?_)
   replace c:=gN d c u
   clear u;rw[stepG_markAt .write (by simp) rfl rfl (by k_ne) rfl H.f_raceWrite (x_raceWrite_n L) (x_raceWrite_b L) (x_raceWrite_x L) (x_raceWrite_f L) (ad:=⟨Z.Wg,1,ah⟩) (by simp[bJ])];simp only[goes_go];refine⟨MV _ rfl (.inr rfl),?_⟩;walk_nrm;refine da ?_;refine cw ?_;refine bx ?_;refine aM _ ?_;walk_nrm;try w_num
   refine da ?_;refine cw ?_;refine cw ?_;refine bx ?_;refine aM _ ?_;walk_nrm;try w_num
   refine aM _ ?_;walk_nrm;try w_num
   refine aM _ ?_;walk_nrm;try w_num
   refine aM _ ?_;walk_nrm;try w_num
   refine iy rfl rfl ?_;walk_nrm;refine aM _ ?_;walk_nrm;try w_num
   refine da ?_;refine iM (by first|rfl|(simp[bJ];done)|(simp[bJ];omega)) ?_;refine j2 ?_;refine cw ?_;refine bx ?_;refine aM _ ?_;walk_nrm;try w_num
   refine aM _ ?_;walk_nrm;try w_num
   refine aM _ ?_;walk_nrm;try w_num
   refine aM _ ?_;walk_nrm;try w_num
   refine Goes.stop (λA x=> ?_)
   replace c:=gN d c x
   clear x;refine⟨rfl,rfl,λ⟨st,i⟩=>stepG_semacquire_wait rfl rfl rfl H.f_semacquire (x_semacquire_n L) (x_semacquire_b L) (x_semacquire_x L) (x_semacquire_f L) (by simp[bJ,smA]) i.cellSm,λK=> ?_⟩;rw[j]at K;refine⟨_,(stepG_semacquire (n:=1) rfl rfl (by k_ne) rfl H.f_semacquire (x_semacquire_n L) (x_semacquire_b L) (x_semacquire_x L) (x_semacquire_f L) (by simp[bJ,smA]) K.cellSm (by k_ne) (K.thaw 1)).trans (by rfl),30,?_⟩
   replace c:F (A.setCell (smA Z.Wg) (.int .u32 0))/\WgLive Z.ty Z.Wg (A.setCell (smA Z.Wg) (.int .u32 0)):=⟨E _ _ _ rfl c.1,⟨_,_,by rw[j];exact K.setSm 0⟩⟩
   clear K;walk_nrm;refine da ?_;refine cw ?_;refine bx ?_;refine aM _ ?_;walk_nrm;try w_num
   refine aM _ ?_;walk_nrm;try w_num
   refine aM _ ?_;walk_nrm;try w_num
   refine ot rfl rfl (by k_ne) rfl H.f_uLoad (nm_uLoad L) rfl ?_;walk_nrmf uLoadFn;refine cw ?_;refine bx ?_;refine aM _ ?_;walk_nrm;try w_num
   refine da ?_;refine cw ?_;refine bx ?_;refine aM _ ?_;walk_nrm;try w_num
   refine aM _ ?_;walk_nrm;try w_num
   refine aM _ ?_;walk_nrm;try w_num
   refine Goes.stop (λaek y=> ?_)
   replace c:=gN d c y
   clear y;refine⟨rfl,λi=> ?_⟩;rw[j]at i;refine⟨_,stepG_load_atomic (v:=0) rfl rfl (by k_ne) rfl H.f_loadU64 (x_loadU64_n L) (x_loadU64_b L) (x_loadU64_x L) .u64 (x_loadU64_f L) rfl i.cellSt,30,?_⟩;clear i;walk_nrm;refine aM _ ?_;walk_nrm;try w_num
   refine da ?_;refine o0 ?_;refine lZ rfl rfl H.f_uLoad rfl ?_;walk_nrm;refine aM _ ?_;walk_nrm;try w_num
   refine aM _ ?_;walk_nrm;try w_num
   refine da ?_;refine cw ?_;refine j9 (by first|rfl|(simp[bJ];done)|(simp[bJ];omega)) ?_;refine cw ?_;refine bx ?_;refine Goes.stop (λO o=> ?_)
   replace c:=gN d c o
   clear o;refine⟨rfl,_,stepG_mark0 .enable (by simp) rfl rfl (by k_ne) rfl H.f_enable (x_enable_n L) (x_enable_b L) (x_enable_x L) (x_enable_f L),14,?_⟩;walk_nrm;refine da ?_;refine bx ?_;refine aM _ ?_;walk_nrm;try w_num
   refine Goes.step rfl (λQ p=> ?_)
   replace c:=gN d c p
   clear p;have b:=(WgLive.cell0 (ty:=L.tWg) (j▸c.2)).choose_spec;have l:=run_convert_to_unsafe (P:=Z.P) H.underlying_tWgP H.underlying_tUP H.room_tWg b;have f:=λD=>events_convert_to_unsafe (P:=Z.P) H.underlying_tWgP H.underlying_tUP H.room_tWg b D
   refine goes_oper_k rfl rfl (by k_ne) (λC k=> ?_);go_simp;refine k _ _ ⟨vO λe J=>by have hm:=mem_listed J;simp[go_sem,f]at hm,?_⟩;clear k C l f b;refine Goes.stop (λR q=> ?_)
   replace c:=gN d c q
   clear q;refine⟨rfl,_,stepG_markAt .acquire (by simp) rfl rfl (by k_ne) rfl H.f_acquire (x_acquire_n L) (x_acquire_b L) (x_acquire_x L) (x_acquire_f L) (by simp[bJ,stA]),⟨mT+20,?_⟩⟩;walk_nrm;refine da ?_;refine cw ?_;refine cw ?_;refine bx ?_;refine aM _ ?_;walk_nrm;try w_num
   refine da ?_;refine iM (by first|rfl|(simp[bJ];done)|(simp[bJ];omega)) ?_;refine j2 ?_;refine o0 ?_;refine qV rfl rfl H.f_wait rfl ?_;exact Goes.mono (U _ c.1 c.2) (by omega)
  ·
   rw[j]at i;refine⟨_,stepG_cas_miss (v:=(v':Int) *KK) (old:=S) (n:=S+1) rfl rfl (by k_ne) rfl H.f_casU64 (x_casU64_n L) (x_casU64_b L) (x_casU64_x L) .u64 (x_casU64_f L) rfl rfl rfl i.cellSt (i.thaw 0) (by rw[<-B];simp only[KK];omega),20,?_⟩;clear i;walk_nrm;repeat(first
    |refine cw ?_
    |refine da ?_
    |(refine xm rfl ?_;simp only[aD,ay,aC,Nat.reduceAdd,aZ,a6,List.range.loop])
    |refine j2 ?_
    |refine wh ?_
    |refine z7 ?_
    |refine M8 ?_
    |refine o0 ?_
    |refine M7 rfl ?_
    |(refine ot rfl rfl (by k_ne) rfl H.f_uLoad (nm_uLoad L) rfl ?_;walk_nrmf uLoadFn)
    |(refine ot rfl rfl (by k_ne) rfl H.f_uCas (nm_uCas L) rfl ?_;walk_nrmf uCasFn)
    |(refine lZ rfl rfl H.f_uLoad rfl ?_;walk_nrm)
    |(refine lZ rfl rfl H.f_uCas rfl ?_;walk_nrm)
    |(refine lr rfl (λ_=>stepG_entry_pure (.bool au) rfl rfl (by k_ne) rfl H.f_inBubble (x_inBubble_n L) (x_inBubble_b L) (x_inBubble_x L) (x_inBubble_f L)) ?_;walk_nrm)
    |(refine iy rfl rfl ?_;walk_nrm)
    |(refine j9 (by first|rfl|(simp[bJ];done)|(simp[bJ];omega)) ?_)
    |(refine iM (by first|rfl|(simp[bJ];done)|(simp[bJ];omega)) ?_)
    |(refine aM _ ?_;walk_nrm;try w_num))
   refine DX ?_;refine Goes.stop (λN r=> ?_);exact⟨_,rfl,by simp,by simp,gN d c r⟩
end
section
variable [Payload] {φ:Ph} {L:WgLink} {μ:Nat->Prop}
variable{F:ai->Prop} {AnchW:(Nat->Prop)->aw->ai->Prop} {b₀:aY} {a₀:Act} {ops₀:Array Oper} {i₀:Nat} {rest₀:List Nat} {k₀:List Item} {cs:List aY}
def Mq(H:WgLib φ.P L)(b:∀w e,φ.MR μ w e->F w->F e)(i:∀g w,Dr φ L F (b₀.at a₀ (.inRegion ops₀ (i₀::rest₀)::k₀)) cs g w->AnchW μ g w)(w:ai)(d:F w/\WgLive φ.ty φ.Wg w):φ.GP μ (φ.AtKd μ (AnchW μ)) 3 (G ((base L.wait).at ⟨#[.pointer (ae ⟨φ.Wg,0,ah⟩)]++dF 83 undef,[]⟩ [.code (body_wait L)]) (b₀.at a₀ (.inRegion ops₀ (i₀::rest₀)::k₀)::cs)) w:=by
 lib_facts
 simp only[body_wait,waitFn,bI,cG,cH,dy,c9,cg,cW];refine cw ?_;refine j9 rfl ?_;refine bx ?_;refine Goes.stop (λf a=> ?_)
 replace d:=gN b d a
 clear a;refine⟨rfl,_,stepG_mark0 .disable (by simp) rfl rfl (by k_ne) rfl H.f_disable (x_disable_n L) (x_disable_b L) (x_disable_x L) (x_disable_f L),3,?_⟩;walk_nrm;refine da ?_;refine wh ?_;refine M8 ?_;exact Goes.stop (λh c=>i _ _ ⟨_,rfl,by simp,by simp,gN b d c⟩)
end
end Rel
section
open Go.RowKit Go.ChangeShapes Go.WideShapes Go.ChangeAt Go.Deep
def Tl:ownKnob Tryz.prog.godebug=ah:=by kernel_rfl
def SL:laidOutB aj=ar:=by kernel_rfl
end
section
open Go.RowKit
structure cY(F:Nat->Prop) (w w':ai):Prop where
 os:w'.os=w.os
 tape:w'.tape=w.tape
 output:w'.output=w.output
 size:w.heap.size<=w'.heap.size
 block:∀k,k<w.heap.size->¬F k->w'.heap[k]? =w.heap[k]?
namespace cY
variable{F G:Nat->Prop} {w w' Z:ai}
def refl:cY F w w:=⟨rfl,rfl,rfl,av _,λ_ _ _=>rfl⟩
def trans(h:cY F w w')(a:cY F w' Z):cY F w Z:=⟨a.os.trans h.os,a.tape.trans h.tape,a.output.trans h.output,be h.size a.size,λk c b=>(a.block k (aW c h.size) b).trans (h.block k c b)⟩
def trans'(h:cY F w w')(a:cY G w' Z)(d:∀k,k<w.heap.size->G k->F k):cY F w Z:=⟨a.os.trans h.os,a.tape.trans h.tape,a.output.trans h.output,be h.size a.size,λk b c=>(a.block k (aW b h.size) λe=>c (d k b e)).trans (h.block k b c)⟩
def mono(h:cY F w w')(c:∀k,k<w.heap.size->F k->G k):cY G w w':=⟨h.os,h.tape,h.output,h.size,λk a b=>h.block k a λd=>b (c k a d)⟩
def fR(h:Below w.heap.size w w'):cY F w w':=⟨h.os,h.tape,h.output,h.size,λk a _=>h.block k a⟩
def below(h:cY F w w'){B:Nat}(c:B<=w.heap.size)(a:∀k,k<w.heap.size->F k->B<=k):Below B w w':=⟨h.os,h.tape,h.output,h.size,λk d=>h.block k (by omega) λb=>absurd (a k (by omega) b) (by omega)⟩
def grown{row:Option Nat}(h:w.grownBy w' row)(a:∀k,row=ae k->F k):cY F w w':=⟨h.os,h.tape,h.output,h.size,λk c b=>h.block k c λe=>b (a k e.symm)⟩
def setCell(h:cY F w w'){g:Nat}(a:F g\/w.heap.size<=g)(o:Nat)(v:ak):cY F w (w'.setCell ⟨g,o,ah⟩ v):=⟨h.os,h.tape,h.output,by simpa using h.size,λk c b=>(Below.heap_setCell w' ⟨g,o,ah⟩ v k (by rintro rfl;rcases a with a|a;exact b a;exact absurd c (by omega))).trans (h.block k c b)⟩
def drew(h:cY F w w'):cY F w w'.drew:=⟨h.os,h.tape,h.output,h.size,h.block⟩
def alloc(h:cY F w w')(o:Obj):cY F w (w'.alloc o):=⟨h.os,h.tape,h.output,by simp;have:=h.size;omega,λk b a=>(Below.heap_alloc w' o k (by have:=h.size;omega)).trans (h.block k b a)⟩
def blk(h:cY F w w'){g:Nat}{t:az}{a:Array ak}(b:cD w g t a)(c:¬F g):cD w' g t a:=(h.block g b.lt c).trans b
def own(h:cY F w w'){B:Nat}{e:az}{size n:Nat}{v:ak}{f:List ak}(d:w.ownsRow B e size v n f)(l:∀k,v.ownBlock=ae k->¬F k):w'.ownsRow B e size v n f:=by refine⟨d.1,?_⟩;rcases d.2 with i|⟨g,b,c,rfl,j,a,r⟩;exact bt i;exact bW ⟨g,b,c,rfl,j,(h.block g (aE.1 a).1 (l g rfl)).trans a,r⟩
end cY
def cu{w:ai}{B:Nat}{e:az}{size n:Nat}{v:ak}{j:List ak}(h:w.ownsRow B e size v n j):∃A c,v=.slice A n c/\n<=c/\c<=maxLen/\(0<n->∃g,A=ae ⟨g,0,ah⟩):=by rcases h.2 with⟨rfl,d⟩|⟨g,a,b,rfl,_,_,f,i,_⟩;exact⟨ah,0,by rw[d],by omega,by decide,λh=>by omega⟩;exact⟨_,a,rfl,f,i,λ_=>⟨g,rfl⟩⟩
def kD{w:ai}{B:Nat}{e:az}{size n c g:Nat}{i:List ak}(h:w.ownsRow B e size (.slice (ae ⟨g,0,ah⟩) n c) n i){k:Nat}(v:k<n):row? w g (k *size) size=ae ((i.drop (k *size)).take size).toArray:=by obtain⟨s,l|⟨r,d,j,a,_,o,t,_,u,m⟩⟩:=h;cases l.1;injection a with a p q;injection a with a;injection a with a;subst a;unfold row?;rw[o];simp only;have f:(k+1) *size<=d *size:=ik _ (by omega);have b:(k+1) *size<=n *size:=ik _ (by omega);rw[kC,jF]at f b;rw[if_pos (by omega)];congr 1;apply Array.ext';rw[Array.toList_extract,List.extract_eq_take_drop,ij,<-m];simp only[List.drop_take,List.take_take];congr 1;omega
def ep{P:aO}{w:ai}{q:Array Oper}{g:List Oper}{o:Oper}{a:Act}{Q:Exit->Act->ai->Prop}(C:o.guard=ah)(s x:ca)(t:az)(K:o.op=.call {callee:=.builtin .append,args:=#[s,x],argTypes:=#[t,t]})(d:Nat)(e:az)(i:TypeInfo)(z:ak)(size c:Nat)(M:P.underlying t=ae (.slice e))(I:P.info? e=ae i)(R:i.zero=ae z)(l:i.size=size)(B:i.bytes=c)(E:z.cells.size=size)(D:0<size)(v:ak)(n:Nat)(F:List ak)(L:a.eval s=v)(p:w.ownsRow d e size v n F)(b:List ak)(O:a.eval x=.slice (ae ⟨w.heap.size,0,ah⟩) 1 1)(J:b.length=size)(G:∀u∈b,u.oneCell'=ar)(r:n+1<=maxLen)(f:(n+1) *c<=140737488355328)(A:d<=w.heap.size)(h:∀m w',w'.ownsRow d e size m (n+1) (F++b)->(w.alloc (.cells b.toArray e)).grownBy w' v.ownBlock->(m.ownBlock=v.ownBlock\/m.ownBlock=ae (w.heap.size+1))->wpList P q Q g (a.put o.dst m) w'):wpList P q Q (o::g) a (w.alloc (.cells b.toArray e)):=by refine wpList_append_own_at _ C s x t K d e i z size c M I R l B E D v n F L (p.alloc _) ⟨w.heap.size,0,ah⟩ 1 1 b O (by rw[J,jF]) ?_ G r f (by simp;omega) ?_;intro j u N;rw[show(⟨w.heap.size,0,ah⟩:Addr).add j=⟨w.heap.size,j,ah⟩from by unfold Addr.add;split<;>simp_all];rw[cell_of_row _ w.heap.size j b.toArray e (0,0) (heap_alloc_new w _)];simpa using N;intro m w' k H _ y;exact h m w' k H (by simpa using y)
def s0{b:Type}{size:Nat}{f:b->List ak}(c:∀x,(f x).length=size)(l:List b):(l.flatMap f).length=l.length *size:=by
 induction l with|nil=>simp|cons a l d=>rw[cN,bK,d,c,ay,kC];omega
def k8{c:Type}{size:Nat}{f:c->List ak}(b:∀x,(f x).length=size):∀(l:List c)(k:Nat)(h:k<l.length),((l.flatMap f).drop (k *size)).take size=f l[k]|a::l,0,_=>by rw[cN,Nat.zero_mul,List.drop_zero];rw[List.take_append_of_le_length (by rw[b];exact av _),<-b a,cE];rfl|a::l,k+1,h=>by rw[cN,kC,jF,du,<-b a,List.drop_append,List.drop_of_length_le (by omega),cg,ij,b a];exact k8 b l k (by simpa using h)
def oZ{a:Type}{size:Nat}{f:a->List ak}(b:∀x,(f x).length=size)(l:List a)(k j:Nat)(h:k<l.length)(c:j<size):(l.flatMap f)[k *size+j]? =(f l[k])[j]?:=by rw[<-k8 b l k h,dS,if_pos c,p6]
def qS{c:Type}{size:Nat}{f:c->List ak}(b:∀x,(f x).length=size):∀(l:List c)(k j:Nat)(y:c)(u:ak)(h:k<l.length),j<size->f y=(f l[k]).set j u->(l.flatMap f).set (k *size+j) u=(l.set k y).flatMap f|a::l,0,j,y,u,_,hj,hy=>by simp only[List.getElem_cons_zero]at hy;rw[cN,Nat.zero_mul,aZ,List.set_append_left _ _ (by rw[b];exact hj),<-hy];rfl|a::l,k+1,j,y,u,h,hj,hy=>by rw[cN,mM _ _ (by rw[b,kC];omega),b];rw[show(k+1) *size+j-size=k *size+j from by rw[kC];omega];rw[qS b l k j y u (by simpa using h) hj (by simpa using hy)];rfl
def mW{w w':ai}{B:Nat}{e:az}{size n:Nat}{v:ak}{b:List ak}(h:w.ownsRow B e size v n b)(a:Below w.heap.size w w'):w'.ownsRow B e size v n b:=h.kept (row:=ah) ⟨a.os,a.tape,a.output,a.size,λk c _=>a.block k c⟩ (by cases v.ownBlock<;>simp)
def hC(h:Int×Int):List ak:=[.int .i64 h.1,.int .i64 h.2]
def xn(h:Int×Int):(hC h).length=2:=rfl
def hL(h:Int×Int):List Int:=[h.1,h.2]
def iL{c:Type}(T E:az)(size:Nat)(a:c->List ak)(w:ai)(p:Nat)(b:List c)(F:Nat->Prop):Prop:=∃v,cD w p T #[v]/\w.ownsRow 0 E size v b.length (b.flatMap a)/\v.ownBlock≠ae p/\F p/\∀k,v.ownBlock=ae k->F k
section
variable{Z:Type} {T E:az} {size:Nat} {Y:Z->List ak} {w w' X:ai} {p:Nat} {W:List Z} {F G:Nat->Prop}
def iL.only(h:iL T E size Y w p W F)(d:cY G w w')(c:∀k,F k->¬G k):iL T E size Y w' p W F:=by obtain⟨v,e,f,g,a,b⟩:=h;exact⟨v,d.blk e (c p a),d.own f λk i=>c k (b k i),g,a,b⟩
def iL.mono(h:iL T E size Y w p W F)(c:∀k,k<w.heap.size->F k->G k):iL T E size Y w p W G:=by obtain⟨v,a,b,e,f,g⟩:=h;exact⟨v,a,b,e,c p a.lt f,λk d=>c k (b.lt k d).2 (g k d)⟩
def iL.lt(h:iL T E size Y w p W F):p<w.heap.size:=by obtain⟨v,a,_⟩:=h;exact a.lt
def iL.after(h:iL T E size Y w p W F)(a:Below w.heap.size w w'):iL T E size Y w' p W F:=by obtain⟨v,b,c,d,e,f⟩:=h;exact⟨v,b.after a,c.kept (row:=ah) ⟨a.os,a.tape,a.output,a.size,λk g _=>a.block k g⟩ (by cases v.ownBlock<;>simp),d,e,f⟩
def iL.slice(h:iL T E size Y w p W F):∃A c,w.cell? ⟨p,0,ah⟩=ae (.slice A W.length c)/\w.frozen? ⟨p,0,ah⟩=au/\W.length<=c/\c<=maxLen/\w.ownsRow 0 E size (.slice A W.length c) W.length (W.flatMap Y)/\(di A W.length c).ownBlock≠ae p/\F p/\∀k,(di A W.length c).ownBlock=ae k->F k:=by obtain⟨v,d,e,f,g,i⟩:=h;obtain⟨A,c,rfl,a,b,j⟩:=cu e;exact⟨A,c,d.cell 0,d.frozen 0,a,b,e,f,g,i⟩
def iL.append(h:iL T E size Y w p W F){v f:ak}{o:Obj}{x:Z}(t:w.cell? ⟨p,0,ah⟩=ae v)(d:X.ownsRow 0 E size f (W.length+1) (W.flatMap Y++Y x))(m:(w.alloc o).grownBy X v.ownBlock)(j:f.ownBlock=v.ownBlock\/f.ownBlock=ae (w.heap.size+1)):X.cell? ⟨p,0,ah⟩=ae v/\X.frozen? ⟨p,0,ah⟩=au/\iL T E size Y (X.setCell ⟨p,0,ah⟩ f) p (W++[x]) (λk=>F k\/w.heap.size<=k)/\cY F w (X.setCell ⟨p,0,ah⟩ f):=by
 obtain⟨u,l,y,n,q,r⟩:=h;have s:u=v:=by have:=l.cell 0;rw[t]at this;simpa using this.symm
 subst s;have i:cY (λk=>u.ownBlock=ae k) w X:=(cY.refl.alloc _).trans (cY.grown m λk b=>b);have c:=i.blk l n;have g:f.ownBlock≠ae p:=by rcases j with e|e;rw[e];exact n;rw[e];intro h;injection h with h;have:=l.lt;omega
 refine⟨c.cell 0,c.frozen 0,⟨_,c.set 0 _,?_,g,bt q,λk b=> ?_⟩,(i.mono λk _ b=>r k b).setCell (bt q) _ _⟩;rw[bK,eJ];have:=ownsRow_setCell_other (a:=⟨p,0,ah⟩) d g f;simpa using this;rcases j with e|e;rw[e]at b;exact bt (r k b);rw[e]at b;injection b with b;exact bW (by omega)
end
def xK:(Tryz.prog.info? 172).map (·.size)=ae 2:=by kernel_rfl
@[go_sem ↓] theorem XT(v:ak):dN 172 v=fA 172 v:=rfl
@[go_sem ↓] theorem WW(p v:ak):dP 172 p v=dk 172 p v:=rfl
@[go_sem] theorem UO(w:ai)(g o:Nat):(fA 172 (.pointer (ae ⟨g,o,ah⟩))).run aj w=match row? w g o 2 with|some a=>.ok (.agg a) w|none=>(jo 172 ⟨g,o,ah⟩).run aj w:=fW w _ g o 2 _ underlying172 rfl xK
def PI(w:ai)(g o:Nat)(a b:ak):ai:=
 {w with heap:=w.heap.modify g λ
    |.cells c e d=>.cells ((c.setIfInBounds o a).setIfInBounds (o+1) b) e d|x=>x}
def Jc(w:ai)(g o:Nat)(a b:ak):PI w g o a b=(w.setCell ⟨g,o,ah⟩ a).setCell ⟨g,o+1,ah⟩ b:=by
 unfold PI World.setCell;simp only;congr 1;apply Array.ext_getElem?;intro k;simp only[br];split;cases w.heap[k]? with|none=>rfl|some x=>cases x<;>rfl
 rfl
def WQ(c:Array ak)(o:Nat)(a b:ak)(h:o+2<=c.size):(List.take o c.toList++a::b::List.drop (o+2) c.toList).toArray=(c.setIfInBounds o a).setIfInBounds (o+1) b:=by
 apply Array.ext';apply iw;intro j;have e:(List.take o c.toList).length=o:=by rw[dH];simp;omega
 rw[Array.toList_setIfInBounds,Array.toList_setIfInBounds,ga,ga,eu];simp only[Array.length_toList];rcases Nat.lt_trichotomy j o with d|d|d;rw[List.getElem?_append_left (by omega),if_neg (by omega),if_neg (by omega),dS,if_pos d];rw[kp (by omega),e,d,pI,if_neg (by omega),if_pos rfl,if_pos (by omega)];rfl;rw[kp (by omega),e];by_cases f:j=o+1;rw[f,if_pos rfl,if_pos (by omega),show o+1-o=1 from by omega];rfl;rw[if_neg (by omega),if_neg (by omega),show j-o=(j-o-2)+2 from by omega,eO,eO,p6,show o+2+(j-o-2)=j from by omega]
@[go_sem] theorem TX(w:ai)(g o:Nat)(x:Int)(b:Bool):(dk 172 (.pointer (ae ⟨g,o,ah⟩)) (.agg #[.int .i64 x,.bool b])).run aj w=if fits w g o 2=ar then .ok () (PI w g o (.int .i64 x) (.bool b))else(ej 172 g o (.agg #[.int .i64 x,.bool b])).run aj w:=by
 split;rename_i c;unfold fits at c;split at c;rename_i d e j;have n:o+2<=d.size:=by simpa using c
 cases f:Tryz.prog.info? 172 with
 |none=>have:=xK;simp[f]at this|some i=>
  have p:i.size=2:=by have:=xK;simpa[f]using this
  have h:=run_storeCells_at aj g o e [.int .i64 x,.bool b] 0 d w j (by simp;omega) (by intro v l;simp at l;rcases l with rfl|rfl<;>rfl);have a:(#[aS .i64 x,.bool b]:Array ak).size=i.size:=by rw[p];rfl
  simp only[dk,dP,Instr.sureAddr,storeVar,eD,sizeOf,typeInfo,run_program,gT,f,Sem.run_pure,fc,a,ne_eq,not_true_eq_false,if_false,h];congr 1;unfold PI World.setRow;congr 1;apply Array.ext_getElem?;intro k;rw[br,br];split;rename_i m;subst m;rw[j];simp;exact WQ d o _ _ n;rfl
 cases c;rfl
def HZ(a c:Int)(b d:Bool)(w:ai):(binOp .eql 172 (.agg #[.int .i64 a,.bool b]) (.agg #[.int .i64 c,.bool d])).run aj w=.ok (.bool (decide (a=c)&&decide (b=d))) w:=by
 have g:Tryz.prog.underlying 172=ae (.struct (Tryz.prog.fieldsOf 172)):=by kernel_rfl
 have hp:Tryz.prog.stoodInHeld 172=au:=by kernel_rfl
 have u3:=underlying3;have u4:=underlying4;have h:=Tryz.isAgg3;have j:=Tryz.sizeOf3;have i:=Tryz.isAgg4;have k:=Tryz.sizeOf4;rw[run_eql_struct,show(10000:Nat)=9999+1 from rfl,run_equalIn_agg w 9999 172 _ _ g hp];simp only[Program.fieldsOf,underlying172];go_simp;by_cases e:a=c<;>by_cases f:b=d<;>simp[e,f]
def rB(x:Int×Bool):List ak:=[.int .i64 x.1,.bool x.2]
def nf(x:Int×Bool):(rB x).length=2:=rfl
def ea(w:ai)(p:Nat)(a:List (Int×Bool))(F:Nat->Prop):Prop:=∃v,cD w p 170 #[v]/\w.ownsRow 0 172 2 v a.length (a.flatMap rB)/\v.ownBlock≠ae p/\F p/\∀k,v.ownBlock=ae k->F k
def ea.only{w w':ai}{p:Nat}{e:List (Int×Bool)}{F G:Nat->Prop}(h:ea w p e F)(d:cY G w w')(c:∀k,F k->¬G k):ea w' p e F:=by obtain⟨v,f,g,i,a,b⟩:=h;exact⟨v,d.blk f (c p a),d.own g λk j=>c k (b k j),i,a,b⟩
def ea.mono{w:ai}{p:Nat}{e:List (Int×Bool)}{F G:Nat->Prop}(h:ea w p e F)(c:∀k,k<w.heap.size->F k->G k):ea w p e G:=by obtain⟨v,a,b,f,g,i⟩:=h;exact⟨v,a,b,f,c p a.lt g,λk d=>c k (b.lt k d).2 (i k d)⟩
def ea.lt{w:ai}{p:Nat}{b:List (Int×Bool)}{F:Nat->Prop}(h:ea w p b F):p<w.heap.size:=by obtain⟨v,a,_⟩:=h;exact a.lt
def ea.facts{w:ai}{p:Nat}{a:List (Int×Bool)}{F:Nat->Prop}(h:ea w p a F):∃A c,w.cell? ⟨p,0,ah⟩=ae (.slice A a.length c)/\w.frozen? ⟨p,0,ah⟩=au/\a.length<=c/\c<=maxLen/\w.ownsRow 0 172 2 (.slice A a.length c) a.length (a.flatMap rB)/\(di A a.length c).ownBlock≠ae p/\∀k,k<a.length->∃g,A=ae ⟨g,0,ah⟩/\g≠p/\F g/\g<w.heap.size/\w.frozen? ⟨g,k *2,ah⟩=au/\w.frozen? ⟨g,k *2+1,ah⟩=au/\fits w g (k *2) 2=ar/\row? w g (k *2) 2=ae #[.int .i64 (a.getD k (0,au)).1,.bool (a.getD k (0,au)).2]/\w.cell? ⟨g,k *2,ah⟩=ae (.int .i64 (a.getD k (0,au)).1)/\w.cell? ⟨g,k *2+1,ah⟩=ae (.bool (a.getD k (0,au)).2):=by
 obtain⟨v,m,b,n,H,u⟩:=h;obtain⟨A,c,rfl,i,j,y⟩:=cu b;refine⟨A,c,m.cell 0,m.frozen 0,i,j,b,n,λk f=> ?_⟩;obtain⟨g,rfl⟩:=y (by omega);have l:a.getD k (0,au)=a[k]:=by simp[bm,aq f]
 rw[l];have o:=kD b f;rw[k8 nf a k f]at o;have C:k *2+2<=a.length *2:=by omega
 have z:fits w g (k *2) 2=ar:=by obtain⟨_,s|⟨G,q,r,d,_,B,t,_,x,_⟩⟩:=b;cases s.1;injection d with d D E;injection d with d;injection d with d;subst d;unfold fits;rw[B];simp;omega
 refine⟨g,rfl,λe=>n (by rw[e];rfl),u g rfl,(b.lt g rfl).2,b.frozenAt _,b.frozenAt _,z,o,?_,?_⟩;rw[b.cellAt (k *2) (by omega),<-kq (k *2),oZ nf a k 0 f (by omega)];rfl;rw[b.cellAt (k *2+1) (by omega),oZ nf a k 1 f (by omega)];rfl
def ea.put{w:ai}{p:Nat}{a:List (Int×Bool)}{F:Nat->Prop}(h:ea w p a F){g k c:Nat}(l:k<a.length)(o:w.cell? ⟨p,0,ah⟩=ae (.slice (ae ⟨g,0,ah⟩) a.length c))(x:Int)(b:Bool):ea (PI w g (k *2) (.int .i64 x) (.bool b)) p (a.set k (x,b)) F/\cY F w (PI w g (k *2) (.int .i64 x) (.bool b)):=by
 obtain⟨v,i,m,j,n,f⟩:=h;have q:v=.slice (ae ⟨g,0,ah⟩) a.length c:=by have:=i.cell 0;rw[o]at this;simpa using this.symm
 subst q;rw[Jc];have r:=m.stored (k *2) (.int .i64 x);have s:=r.1.stored (k *2+1) (.bool b);have d:p≠g:=λe=>j (by rw[<-e];rfl)
 refine⟨⟨_,(i.uW d _ _).uW d _ _,?_,j,n,f⟩,(cY.refl.setCell (bt (f g rfl)) _ _).setCell (bt (f g rfl)) _ _⟩;have:=s.1;rw[<-kq (k *2),qS nf a k 0 (x,a[k].2) (.int .i64 x) l (by omega) rfl,qS nf (a.set k (x,a[k].2)) k 1 (x,b) (.bool b) (by simpa using l) (by omega) (by simp[rB])]at this;rw[List.set_set]at this;rw[eu];exact this
def ea.live{w:ai}{p:Nat}{a:List (Int×Bool)}{F:Nat->Prop}(h:ea w p a F){g k c:Nat}(m:k<a.length)(q:w.cell? ⟨p,0,ah⟩=ae (.slice (ae ⟨g,0,ah⟩) a.length c))(b:Bool):ea (w.setCell ⟨g,k *2+1,ah⟩ (.bool b)) p (a.set k ((a.getD k (0,au)).1,b)) F/\cY F w (w.setCell ⟨g,k *2+1,ah⟩ (.bool b)):=by
 obtain⟨v,i,n,j,o,l⟩:=h;have r:v=.slice (ae ⟨g,0,ah⟩) a.length c:=by have:=i.cell 0;rw[q]at this;simpa using this.symm
 subst r;have s:=n.stored (k *2+1) (.bool b);have f:p≠g:=λe=>j (by rw[<-e];rfl)
 have d:a.getD k (0,au)=a[k]:=by simp[bm,aq m]
 refine⟨⟨_,i.uW f _ _,?_,j,o,l⟩,cY.refl.setCell (bt (l g rfl)) _ _⟩;have:=s.1;rw[qS nf a k 1 (a[k].1,b) (.bool b) m (by omega) rfl]at this;rw[eu,d];exact this
def E0(F:Nat->Prop)(w w':ai):Nat->Prop:=λk=>F k\/w.heap.size<=k/\k<w'.heap.size
structure bU where
 at_:ai->(Nat->Prop)->Prop
 frame:∀{w w':ai}{F G:Nat->Prop},at_ w F->cY G w w'->(∀k,F k->¬G k)->at_ w' F
 cut:∀{w:ai}{F G:Nat->Prop},at_ w F->(∀k,k<w.heap.size->F k->G k)->at_ w G
def Sep:List bU->ai->(Nat->Prop)->Prop
 |[],_,_=>True|A::l,w,F=>∃a b,A.at_ w a/\Sep l w b/\(∀k,a k->¬b k)/\∀k,a k\/b k->F k
section
variable{A A' B C D:bU} {l Z:List bU} {w w' w0:ai} {F G:Nat->Prop}
def Sep.frame:∀{l:List bU}{F:Nat->Prop},Sep l w F->cY G w w'->(∀k,F k->¬G k)->Sep l w' F|[],_,_,_,_=>trivial|A::l,F,⟨F1,F2,h1,h2,h3,h4⟩,ho,hd=>⟨F1,F2,A.frame h1 ho λk a=>hd k (h4 k (bt a)),Sep.frame h2 ho λk a=>hd k (h4 k (bW a)),h3,h4⟩
def Sep.cut:∀{l:List bU}{F G:Nat->Prop},Sep l w F->(∀k,k<w.heap.size->F k->G k)->Sep l w G|[],_,_,_,_=>trivial|A::l,F,G,⟨F1,F2,h1,h2,h3,h4⟩,hd=>⟨λk=>F1 k/\k<w.heap.size,λk=>F2 k/\k<w.heap.size,A.cut h1 λk c h=>⟨h,c⟩,Sep.cut h2 λk c h=>⟨h,c⟩,λk a b=>h3 k a.1 b.1,λk h=>by rcases h with h|h;exact hd k h.2 (h4 k (bt h.1));exact hd k h.2 (h4 k (bW h.1))⟩
def Sep.head(h:Sep (A::l) w F):A.at_ w F:=by obtain⟨d,e,a,f,g,b⟩:=h;exact A.cut a λk _ c=>b k (bt c)
def Sep.tail(h:Sep (A::l) w F):Sep l w F:=by obtain⟨d,e,f,a,g,b⟩:=h;exact a.cut λk _ c=>b k (bW c)
def Sep.swap(h:Sep (A::B::l) w F):Sep (B::A::l) w F:=by obtain⟨e,p,o,⟨i,f,j,m,n,c⟩,g,d⟩:=h;refine⟨i,λk=>e k\/f k,j,⟨e,f,o,m,λk a b=>g k a (c k (bW b)),λk h=>h⟩,λk a b=> ?_,λk h=> ?_⟩;rcases b with b|b;exact g k b (c k (bt a));exact n k a b;rcases h with h|h|h;exact d k (bW (c k (bt h)));exact d k (bt h);exact d k (bW (c k (bW h)))
def Sep.kT{l Z:List bU}(g:∀F,Sep l w F->Sep Z w F)(h:Sep (A::l) w F):Sep (A::Z) w F:=by obtain⟨a,b,c,d,e,f⟩:=h;exact⟨a,b,c,g _ d,e,f⟩
def Sep.perm(hp:l.Perm Z):∀{F:Nat->Prop},Sep l w F->Sep Z w F:=by
 induction hp with|nil=>exact λh=>h|cons a _ e=>exact λh=>h.kT λ_=>e|swap a b l=>exact λh=>h.swap|trans _ _ c d=>exact λh=>d (c h)
structure In(F:Nat->Prop) (w0:ai) (l:List bU) (w:ai):Prop where
 sep:Sep l w (λk=>(F k\/w0.heap.size<=k)/\k<w.heap.size)
 only:cY F w0 w
def In.nil(w:ai)(F:Nat->Prop):In F w [] w:=⟨trivial,cY.refl⟩
def In.one(h:A.at_ w F):In F w [A] w:=⟨⟨λk=>F k/\k<w.heap.size,λ_=>False,A.cut h λk b a=>⟨a,b⟩,trivial,λ_ _ h=>h,λk h=>by rcases h with h|h;exact⟨bt h.1,h.2⟩;exact h.elim⟩,cY.refl⟩
def In.start(h:Sep l w F):In F w l w:=⟨h.cut λk b a=>⟨bt a,b⟩,cY.refl⟩
def In.perm(h:In F w0 l w)(hp:l.Perm Z):In F w0 Z w:=⟨h.sep.perm hp,h.only⟩
def In.swap(h:In F w0 (A::B::l) w):In F w0 (B::A::l) w:=⟨h.sep.swap,h.only⟩
def In.third(h:In F w0 (A::B::C::l) w):In F w0 (C::A::B::l) w:=⟨(h.sep.kT λ_=>Sep.swap).swap,h.only⟩
def In.fourth(h:In F w0 (A::B::C::D::l) w):In F w0 (D::A::B::C::l) w:=⟨((h.sep.kT λ_=>Sep.kT λ_=>Sep.swap).kT λ_=>Sep.swap).swap,h.only⟩
def In.drop(h:In F w0 (A::l) w):In F w0 l w:=⟨h.sep.tail,h.only⟩
def In.head(h:In F w0 (A::l) w):∃a,A.at_ w a:=⟨_,h.sep.head⟩
def In.size(h:In F w0 l w):w0.heap.size<=w.heap.size:=h.only.size
def In.open_(h:In F w0 (A::l) w):∃d,A.at_ w d/\(∀k,d k->(F k\/w0.heap.size<=k)/\k<w.heap.size)/\∀{w':ai}{A':bU},A'.at_ w' (E0 d w w')->cY d w w'->In F w0 (A'::l) w':=by obtain⟨⟨d,j,m,n,f,e⟩,i⟩:=h;refine⟨d,m,λk g=>e k (bt g),λ{w'}{A'} o c=> ?_⟩;refine⟨⟨_,j,o,n.frame c λk a b=>f k b a,λk a b=> ?_,λk h=> ?_⟩,i.trans' c λk g p=> ?_⟩;rcases a with a|a;exact f k a b;have:=(e k (bW b)).2;omega;have r:=c.size;have q:=i.size;rcases h with(h|h)|h;have:=e k (bt h);exact⟨this.1,by omega⟩;exact⟨bW (by omega),h.2⟩;have:=e k (bW h);exact⟨this.1,by omega⟩;have:=e k (bt p);rcases this.1 with h|h;exact h;omega
def In.new(h:In F w0 l w)(c:Below w.heap.size w w')(f:A.at_ w' (λk=>w.heap.size<=k)):In F w0 (A::l) w':=by obtain⟨j,d⟩:=h;have m:=c.size;have e:=d.size;refine⟨⟨λk=>w.heap.size<=k/\k<w'.heap.size,_,A.cut f λk i g=>⟨g,i⟩,j.frame (G:=λk=>w.heap.size<=k) ?_ λk a b=>by omega,λk a b=>by omega,λk h=> ?_⟩,d.trans (cY.fR c)⟩;exact cY.fR c;rcases h with h|h;exact⟨bW (by omega),h.2⟩;exact⟨h.1,by omega⟩
def In.below(h:In F w0 l w)(c:Below w.heap.size w w'):In F w0 l w':=by have e:=c.size;exact⟨(h.sep.frame (G:=λk=>w.heap.size<=k) (cY.fR c) λk a b=>by omega).cut λk _ d=>⟨d.1,by omega⟩,h.only.trans (cY.fR c)⟩
def In.drew(h:In F w0 l w):In F w0 l w.drew:=h.below (Below.refl _ _).drew
def In.done(h:In F w0 (A::l) w):A.at_ w (E0 F w0 w)/\cY F w0 w:=⟨A.cut h.sep.head λk _ a=>by rcases a.1 with h|h;exact bt h;exact bW ⟨h,a.2⟩,h.only⟩
def In.E7(h:In (λ_=>False) w0 l w):Below w0.heap.size w0 w:=h.only.below (av _) λ_ _ h=>h.elim
def In.Gy(h:In F w0 l w)(a:∀F,Sep l w F->Sep Z w F):In F w0 Z w:=⟨a _ h.sep,h.only⟩
def In.old(h:In F w0 l w){k:Nat}(b:k<w0.heap.size)(a:¬F k):w.heap[k]? =w0.heap[k]?:=h.only.block k b a
end
def a8(g:Nat)(t:az)(a:Array ak):bU where
 at_ w F:=cD w g t a/\F g
 frame h ho hd:=⟨ho.blk h.1 (hd _ h.2),h.2⟩
 cut h hd:=⟨h.1,hd _ h.1.lt h.2⟩
section
variable{l:List bU} {w Z:ai} {F:Nat->Prop} {g:Nat} {t:az} {Y:Array ak}
def In.alloc(h:In F Z l w)(t:az)(Y:Array ak):In F Z (a8 w.heap.size t Y::l) (w.alloc (.cells Y t)):=h.new ((Below.refl _ _).alloc (av _) _) ⟨cD.new _ _ _,av _⟩
def In.blk(h:In F Z (a8 g t Y::l) w):cD w g t Y:=h.sep.head.1
def In.set(h:In F Z (a8 g t Y::l) w)(i:Nat)(v:ak):In F Z (a8 g t (Y.setIfInBounds i v)::l) (w.setCell ⟨g,i,ah⟩ v):=by obtain⟨d,⟨b,a⟩,e,c⟩:=h.open_;exact c (A':=a8 g t (Y.setIfInBounds i v)) ⟨b.set i v,bt a⟩ (cY.refl.setCell (bt a) _ _)
def cY.putRow(w:ai)(g o:Nat)(a:List Int):cY (· =g) w (putRow w g o a):=⟨rfl,rfl,rfl,by rw[jW];exact av _,λq _ b=>fz w g o a q b⟩
def In.put{b:List Int}(h:In F Z (a8 g t (ints b)::l) w)(o:Nat)(a:List Int):In F Z (a8 g t (ints (b.take o++a++b.drop (o+a.length)))::l) (putRow w g o a):=by obtain⟨i,⟨d,c⟩,j,f⟩:=h.open_;exact f (A':=a8 g t _) ⟨d.put o a,bt c⟩ ((cY.putRow w g o a).mono λk _ e=>by rw[e];exact c)
def In.eZ{b:List Int}(h:In F Z (a8 g t (ints b)::l) w)(a:List Int)(c:a.length=b.length):In F Z (a8 g t (ints a)::l) (putRow w g 0 a):=by have:=h.put 0 a;rwa[List.take_zero,cg,aZ,c,List.drop_length,eM]at this
def In.struct(h:In F Z l w)(t:az)(b a:List Int)(c:a.length=b.length):In F Z (a8 w.heap.size t (ints a)::l) (Go.Proofs.YtknejlcijdngoaaGreat.putRow (w.alloc (.cells (ints b) t)) w.heap.size 0 a):=(h.alloc t (ints b)).eZ a c
end
def dR(E:az)(size:Nat)(v:ak)(n:Nat)(b:List ak):bU where
 at_ w F:=w.ownsRow 0 E size v n b/\∀k,v.ownBlock=ae k->F k
 frame h ho hd:=⟨ho.own h.1 λk a=>hd k (h.2 k a),h.2⟩
 cut h hd:=⟨h.1,λk a=>hd k (h.1.lt k a).2 (h.2 k a)⟩
def Z8{b:Type}(T E:az)(size:Nat)(a:b->List ak)(p:Nat)(c:List b):bU where
 at_ w F:=iL T E size a w p c F
 frame h ho hd:=h.only ho hd
 cut h hd:=h.mono hd
section
variable{Z:Type} [DecidableEq Z] {l:List bU} {Y:List Z} {f:Z->bU} {F:Nat->Prop} {X w:ai}
def OL{k:Z}{g:Z->bU}(b:Y.Nodup)(A:bU):(Y.erase k).map (λj=>if j=k then A else g j)=(Y.erase k).map g:=by apply List.map_congr_left;intro j a;rw[if_neg];rintro rfl;exact(List.Nodup.not_mem_erase b) a
def In.FM(h:In F X (l++Y.map f) w)(m:Y.Nodup){k:Z}(c:k∈Y):∃a,(f k).at_ w a/\(∀k,a k->(F k\/X.heap.size<=k)/\k<w.heap.size)/\∀(w':ai)(A':bU),A'.at_ w' (E0 a w w')->cY a w w'->In F X (l++Y.map (λj=>if j=k then A' else f j)) w':=by
 have hp:(l++Y.map f).Perm (f k::(l++(Y.erase k).map f)):=(dD l ((List.perm_cons_erase c).map f)).trans List.perm_middle
 obtain⟨a,d,e,g⟩:=(h.perm hp).open_;refine⟨a,d,e,λw' A' i n=>(g i n).perm ?_⟩;have b:(l++Y.map (λj=>if j=k then A' else f j)).Perm ((if k=k then A' else f k)::(l++(Y.erase k).map (λj=>if j=k then A' else f j))):=(dD l ((List.perm_cons_erase c).map (λj=>if j=k then A' else f j))).trans List.perm_middle
 rw[if_pos rfl,OL m]at b;exact b.symm
def In.TH(h:In F X (l++Y.map f) w)(d:Y.Nodup){k:Z}(c:k∈Y):∃a,(f k).at_ w a:=by obtain⟨a,b,_⟩:=h.FM d c;exact⟨a,b⟩
end
def Sep.join{w:ai}:∀{e f:List bU}{c d:Nat->Prop},Sep e w c->Sep f w d->(∀k,c k->¬d k)->Sep (e++f) w (λk=>c k\/d k)|[],_,_,_,_,h2,_=>h2.cut λ_ _ h=>bW h|A::e,_,_,_,⟨G1,G2,g1,g2,g3,g4⟩,h2,hd=>⟨G1,_,g1,Sep.join g2 h2 (λk a b=>hd k (g4 k (bW a)) b),λk a b=>by rcases b with b|b;exact g3 k a b;exact hd k (g4 k (bt a)) b,λk h=>by rcases h with h|h|h;exact bt (g4 k (bt h));exact bt (g4 k (bW h));exact bW h⟩
def Sep.part{w:ai}:∀{l1 l2:List bU}{F:Nat->Prop},Sep (l1++l2) w F->∃d e,Sep l1 w d/\Sep l2 w e/\(∀k,d k->¬e k)/\∀k,d k\/e k->F k
 |[],_,F,h=>⟨λ_=>False,F,trivial,h,λ_ h=>h.elim,λk h=>by rcases h with h|h;exact h.elim;exact h⟩|A::l1,l2,F,⟨G1,G2,g1,g2,g3,g4⟩=>by obtain⟨f,g,i,j,l,c⟩:=Sep.part g2;refine⟨λk=>G1 k\/f k,g,⟨G1,f,g1,i,λk a b=>g3 k a (c k (bt b)),λk h=>h⟩,j,λk a b=> ?_,λk h=> ?_⟩;rcases a with a|a;exact g3 k a (c k (bW b));exact l k a b;rcases h with(h|h)|h;exact g4 k (bt h);exact g4 k (bW (c k (bt h)));exact g4 k (bW (c k (bW h)))
def In.RG{l:List bU}{F:Nat->Prop}{w0 w:ai}(h:In F w0 l w):Sep l w (E0 F w0 w)/\cY F w0 w:=⟨h.sep.cut λk _ a=>by rcases a.1 with h|h;exact bt h;exact bW ⟨h,a.2⟩,h.only⟩
def Bt(w:ai)(t c:az)(a b e:List Int):fits ((w.alloc (.cells (ints a) t)).alloc (.cells (ints b) c)) w.heap.size 0 a.length=ar/\fits (putRow ((w.alloc (.cells (ints a) t)).alloc (.cells (ints b) c)) w.heap.size 0 e) (w.heap.size+1) 0 b.length=ar:=by have d:=cD.new (w.alloc (.cells (ints a) t)) c (ints b);rw[cR]at d;exact⟨((cD.new w t (ints a)).alloc _).fits 0 _ (by rw[bN];omega),(d.wE (g':=w.heap.size) 0 e (by omega)).fits 0 _ (by rw[bN];omega)⟩
def In.Gu{F:Nat->Prop}{w0 w:ai}{l:List bU}(h:In F w0 l w)(t c:az)(d e a b:List Int)(f:a.length=d.length)(i:b.length=e.length):In F w0 (a8 (w.heap.size+1) c (ints b)::a8 w.heap.size t (ints a)::l) (Go.Proofs.YtknejlcijdngoaaGreat.putRow (Go.Proofs.YtknejlcijdngoaaGreat.putRow ((w.alloc (.cells (ints d) t)).alloc (.cells (ints e) c)) w.heap.size 0 a) (w.heap.size+1) 0 b):=by have g:=(h.alloc t (ints d)).alloc c (ints e);rw[cR]at g;exact((g.swap.eZ a f).swap).eZ b i
def In.fifth{F:Nat->Prop}{w0 w:ai}{A B C D E:bU}{l:List bU}(h:In F w0 (A::B::C::D::E::l) w):In F w0 (E::A::B::C::D::l) w:=⟨((h.sep.kT λ_=>Sep.kT λ_=>Sep.kT λ_=>Sep.swap).kT λ_=>Sep.kT λ_=>Sep.swap).kT (λ_=>Sep.swap)|>.swap,h.only⟩
def vI:(Tryz.prog.info? 43).map (λi=>(i.zero,i.size,i.bytes))=ae (ae (.agg #[.int .i64 0,.int .i64 0]),2,16):=by kernel_rfl
def yH(A:Option Addr)(n c:Nat)(g:List ak)(w:ai)(B:Nat)(h:Reads w B 2 A n g)(y:∀u∈g,u.oneCell'=ar)(K:(A=ah/\n=0/\c=0)\/∃b o,A=ae ⟨b,o,ah⟩)(R:n<=1000000):Calls aj 148 #[.slice A n c] w λe w'=>∃v,e=.returned v/\w'.ownsRow w.heap.size 43 2 v n g/\Below w.heap.size w w':=by
 have H:=af h;have D:=af y;clear h y;have z:=λw E L n c x l a=>Lib.run_eql_slice_nil (P:=aj) w 122 E a n c x l L
 have N:=λw n c x l a=>z w _ underlying122 n c x l a
 clear z;rcases K with⟨rfl,rfl,rfl⟩|⟨b,o,rfl⟩
 ·have S:Hid (g=[]):=by have:=H.out.1;exact fZ (by omega)
  clear R;go_enter func148,ntmps148;go_wp2_with fail;go_ret;exact⟨_,rfl,by rw[S.out];exact World.ownsRow_nil _ _ _ _,Below.refl _ _⟩
 ·skip
  have d:Hid (∀j u,g[j]? =ae u->w.cell? ⟨b,o+j,ah⟩=ae u):=by unfold Hid;intro j u i;have q:=(bz.1 i).1;have Q:=H.out.1;obtain⟨U,W,e,_,M⟩:=H.out.2 (by rcases mO n with h|h;rw[h]at Q;omega;exact h);injection e with e;injection e with I J V;subst I;subst J;exact M j u i
  obtain⟨T,m,r,s,t⟩:=info_parts vI;go_enter func148,ntmps148;go_wp2_with (at_builtin;go_loud (refine wpList_append_own_at _ rfl _ _ _ rfl w.heap.size 43 T _ 2 16 underlying122 m r s t rfl (by decide) _ 0 [] rfl ?_ ⟨b,o,ah⟩ n c g rfl H.out.1 ?_ D.out (by unfold maxLen;omega) (by omega) (by simp) ?_))
  case refine_1=>exact⟨rfl,bW ⟨w.heap.size,0,#[],rfl,av _,heap_alloc_new w _,av _,by decide,rfl,rfl⟩⟩
  case refine_2=>intro j u i;have q:=d.out j u i;rw[Addr.add_lit];exact(((Below.refl w.heap.size w).alloc (av _) _).cell (p:=⟨b,o+j,ah⟩) (lp _ _ q)).trans q
  intro X w' f C _ _;have F:Hid (Below w.heap.size w w'):=((Below.refl w.heap.size w).alloc (av _) _).grown C (by simp) (λk O=>by simp[fC]at O;omega);have G:=af f;clear f C;go_wp2_with fail;go_ret;exact⟨_,rfl,G.out,F.out⟩
def kJ(x:Int×Bool):Bool:= !x.2&&decide (x.1<1000000)
def rX(a:List (Int×Bool)):Int:=if a.findIdx kJ<a.length then(a.findIdx kJ:Nat)else-1
def Gv(x:Int)(b:Bool)(w:ai):Calls aj 173 #[.agg #[.int .i64 x,.bool b]] w λe w'=>e=.returned (.bool (kJ (x,b)))/\Below w.heap.size w w':=by have a:Hid (kJ (x,b)=(!b&&decide (x<1000000))):=rfl;cases b;all_goals go_enter func173,ntmps173;go_wp2_with fail;go_ret;exact⟨dw (by rw[a.out];simp),(Below.refl _ _).alloc (av _) _⟩
def Np(w:ai):Calls aj 144 #[] w λe w'=>e=.returned (.pointer (ae ⟨w.heap.size,0,ah⟩))/\ea w' w.heap.size [] (E0 (λ_=>False) w w')/\Below w.heap.size w w':=by go_enter func144,ntmps144;go_wp2_with fail;go_ret;exact⟨rfl,⟨.slice ah 0 0,cD.new _ _ _,World.ownsRow_nil _ _ _ _,by simp[fC],bW ⟨av _,by simp⟩,λk a=>by simp[fC]at a⟩,(Below.refl _ _).alloc (av _) _⟩
def xL{w:ai}{B:Nat}{A:Option Addr}{c:Nat}{a:List (Int×Bool)}(h:w.ownsRow B 172 2 (.slice A a.length c) a.length (a.flatMap rB)){k:Nat}(d:k<a.length):∃g,A=ae ⟨g,0,ah⟩/\row? w g (k *2) 2=ae #[.int .i64 (a.getD k (0,au)).1,.bool (a.getD k (0,au)).2]:=by
 obtain⟨A',o,e,l,m,j⟩:=cu h;obtain⟨g,n⟩:=j (by omega);injection e with i p q;subst i;subst n;have b:a.getD k (0,au)=a[k]:=by simp[bm,aq d]
 have f:=kD h d;rw[k8 nf a k d]at f;exact⟨g,rfl,by rw[b];exact f⟩
def C6(A:Option Addr)(c:Nat)(a:List (Int×Bool))(w:ai)(h:w.ownsRow 0 172 2 (.slice A a.length c) a.length (a.flatMap rB))(I:a.length<=1000000):Calls aj 172 #[.slice A a.length c,.func (.func 173) #[] #[]] w λe w'=>e=.returned (.int .i64 (rX a))/\Below w.heap.size w w':=by
 have H:=af h;clear h;go_enter func172,ntmps172;go_wp2_with fail;go_loopw [8] (λi w'=>∃k:Nat,k<=a.length/\i=.int .i64 k/\(∀j,j<k->kJ (a.getD j (0,au))=au)/\Below w.heap.size w w') (λi _=>a.length-(intOf i).toNat)
 case atStart=>exact⟨0,by omega,rfl,λj t=>by omega,Below.refl _ _⟩
 case round=>
  obtain⟨k,G,rfl,m,B⟩:=hrel;have d:=af m;have f:=af B;clear m B;by_cases l:k<a.length
  ·have F:(k:Int)<a.length:=by omega
   obtain⟨g,rfl,C⟩:=xL (mW H.out f.out) l;generalize D:a.getD k (0,au)=x at *;obtain⟨x,b⟩:=x;have v:=af D;clear D;go_wp2_with fail;refine(Gv x b _).mono ?_;rintro e J ⟨rfl,q⟩;have p:=af (f.out.trans (q.mono f.out.size));clear q;cases r:kJ (x,b)
   ·have E:=af r;clear r;go_wp2_with fail;go_roundw
    case rel=>refine⟨k+1,by omega,by go_num,λj t=> ?_,p.out⟩;by_cases u:j=k;rw[u,v.out];exact E.out;exact d.out j (by omega)
    simp[intOf];omega
   have o:Hid (rX a=(k:Int)):=by
    have:a.findIdx kJ=k:=by
     rw[List.findIdx_eq l];have s:a.getD k (0,au)=a[k]:=by simp[bm,aq l]
     refine⟨by rw[<-s,v.out];exact r,λj t=> ?_⟩;have:=d.out j t;simpa[bm,aq (show j<a.length by omega)]using this
    unfold Hid rX;rw[this,if_pos l]
   clear r;go_wp2_with fail;go_ret;exact⟨eH o.out.symm,p.out⟩
  have o:Hid (rX a= -1):=by unfold Hid rX;rw[if_neg];intro n;have y:=List.findIdx_getElem (w:=n);have z:=d.out (a.findIdx kJ) (by omega);simp only[bm,aq n,bI]at z;rw[z]at y;exact absurd y (by simp)
  go_wp2_with fail;go_ret;exact⟨eH o.out.symm,f.out⟩
def um{w w':ai}{g o n:Nat}{x:Array ak}(b:Below w.heap.size w w')(h:row? w g o n=ae x):row? w' g o n=ae x:=by
 have a:g<w.heap.size:=by unfold row? at h;split at h;rename_i c;exact(aE.1 c).1;cases h
 rw[fT b a];exact h
def EB{w:ai}{g o n:Nat}{x:Array ak}(a:Obj)(h:row? w g o n=ae x):row? (w.alloc a) g o n=ae x:=um ((Below.refl _ _).alloc (av _) _) h
def In.Av{G:Nat->Prop}{w0 w:ai}{l:List bU}(h:In G w0 l w)(E:az)(size n:Nat)(a:List ak)(b:a.length=n *size)(d:n<=maxLen):In G w0 (dR E size (.slice (ae ⟨w.heap.size,0,ah⟩) n n) n a::l) (w.alloc (.cells a.toArray E)):=h.new (A:=dR E size (.slice (ae ⟨w.heap.size,0,ah⟩) n n) n a) ((Below.refl _ _).alloc (av _) _) ⟨⟨b,bW ⟨w.heap.size,n,a.toArray,rfl,bF _,heap_alloc_new w _,av _,d,by simpa using b,by simp[<-b]⟩⟩,λk c=>by simp[fC]at c;omega⟩
def vg{j:Type}{b:j->List ak}{f:j->List Int}{size:Nat}{w:ai}{E:az}{v:ak}{a:List j}(n:∀x,b x=(f x).map (aS .i64))(o:∀x,(f x).length=size)(h:w.ownsRow 0 E size v a.length (a.flatMap b)):∃A c,v=.slice A a.length c/\a.length<=c/\c<=maxLen/\gn w w.heap.size size A (a.map f)/\(0<a.length->∃g,A=ae ⟨g,0,ah⟩):=by obtain⟨A,c,rfl,e,i,m⟩:=cu h;refine⟨A,c,rfl,e,i,⟨λr d=>by obtain⟨x,_,rfl⟩:=aI.1 d;exact o x,λl=> ?_⟩,m⟩;rw[bu]at l;obtain⟨g,rfl⟩:=m l;refine⟨g,0,rfl,(h.lt g rfl).2,λk r d=> ?_⟩;rw[dx]at d;obtain⟨x,q,rfl⟩:=aF.1 d;obtain⟨p,rfl⟩:=bz.1 q;have:=kD h p;rw[k8 (λx=>by rw[n,bu,o]) a k p,n]at this;rw[aZ];exact this
def IP{g k:Type}{f:g->k}(e:∀a b,f a=f b->a=b):∀{c d:List g},c.map f=d.map f->c=d
 |[],[],_=>rfl|[],_::_,h=>by simp at h|_::_,[],h=>by simp at h|x::c,y::d,h=>by rw[fq,fq]at h;injection h with i j;rw[e _ _ i,IP e j]
def JQ{P:aO}{f:bG}{args:Array ak}{w:ai}{v:ak}(h:Calls P f args w λe a=>e=.returned v/\w=a):Calls P f args w λe a=>e=.returned v/\a=w:=h.mono λ_ _ ⟨b,c⟩=>⟨b,c.symm⟩
def MT(n:Int)(w:ai):Calls aj 90 #[.int .i64 n] w λe b=>e=.returned (.int .i64 (yI n))/\w=b:=by
 have a:Hid (yI n=if n< -1000000000 then-1000000000 else if 1000000000<n then 1000000000 else n):=rfl;go_enter func90,ntmps90;go_wp2_with fail;all_goals go_ret
 all_goals refine⟨eH ?_,rfl⟩
 all_goals rw[a.out]
 all_goals (split<;>(try split)<;>omega)
def RB(n:Int)(w:ai):Calls aj 90 #[.int .i64 n] w λe a=>e=.returned (.int .i64 (yI n))/\a=w:=(MT n w).mono λ_ _ h=>⟨h.1,h.2.symm⟩
def zw(w:ai)(g:Nat)(b:aN)(s:Sys)(a:ai):Prop:=cD a g 48 (ints b.list)/\cD a (g+1) 54 (ints s.list)/\cD a (g+1+1) 48 (ints [0,0,0,0,0,0,0,0,0])/\Below g w a
def zw.after{w c d:ai}{g:Nat}{b:aN}{s:Sys}(h:zw w g b s c)(a:Below c.heap.size c d):zw w g b s d:=⟨h.1.after a,h.2.1.after a,h.2.2.1.after a,h.2.2.2.trans (a.mono (by have:=h.1.lt;omega))⟩
def zw.facts{w a:ai}{g:Nat}{b:aN}{s:Sys}(h:zw w g b s a)(c:b.v.length=8):a.cell? ⟨g,0,ah⟩=ae (.int .i64 b.k)/\a.cell? ⟨g+1,3,ah⟩=ae (.int .i64 s.read)/\a.cell? ⟨g+1,4,ah⟩=ae (.int .i64 s.write)/\a.cell? ⟨g+1,5,ah⟩=ae (.int .i64 s.act)/\a.cell? ⟨g+1,6,ah⟩=ae (.int .i64 s.n)/\row? a (g+1) 0 3=ae (ints s.q.list)/\row? a g 0 9=ae (ints b.list)/\fits a (g+1+1) 0 9=ar:=⟨h.1.cell 0,h.2.1.cell 3,h.2.1.cell 4,h.2.1.cell 5,h.2.1.cell 6,h.2.1.ei 0 3 (by simp[Sys.list]),h.1.bw (by simp[aN.list,c]),h.2.2.1.fits 0 9 (by decide)⟩
def EL{s:Sys}(h:eP s=0):cX s.q.FG=ar/\cX s.q.nt=ar/\cX s.q.any=ar/\cX s.read=ar/\cX s.write=ar/\1<=s.act/\s.act<=3/\ -1000000<=s.n/\s.n<=1000000/\(s.act=3->s.n=0)/\(s.act≠2->s.read=0):=by
 unfold eP at h;split at h;omega;rename_i e;split at h;omega;split at h;omega;rename_i c d;have a:jN s.q=0:=by omega
 unfold jN at a;split at a;rename_i b;simp only[aG]at b;simp only[gJ,fY,decide_eq_true_eq,aG,not_or,not_and]at c d;refine⟨b.1.1,b.1.2,b.2,by simpa using c.1.1.1.1.1,by simpa using c.1.1.1.1.2,by omega,by omega,by omega,by omega,?_,?_⟩;intro h;have:=d.1 h;omega;intro h;have:=d.2 h;omega;omega
def D9{m:Int}:cX m=ar↔0<=m/\m<=255:=by simp[cX]
def Bv(b:aN)(d:∀j,j<8->(b.k.toNat.testBit j=au->b.v.getD j 0=0)/\ -1000000000<=b.v.getD j 0/\b.v.getD j 0<=1000000000)(s:Sys)(l:List Nat)(c:∀k∈l,k<8):s.n-1000000000 *l.length<=mD b s l/\mD b s l<=s.n+1000000000 *l.length:=by
 have h:∀(l:List Nat)(a:Int),(∀k∈l,k<8)->a-1000000000 *l.length<=l.foldl (λa k=>a+b.v.getD k 0) a/\l.foldl (λa k=>a+b.v.getD k 0) a<=a+1000000000 *l.length:=by
  intro l
  induction l with
  |nil=>intro a _;simp|cons k l f=>
   intro a c;have g:=f (a+b.v.getD k 0) λq e=>c q (by simp[e])
   have i:=(d k (c k (by simp))).2;rw[List.foldl_cons,ay];omega
 exact h l s.n c
def Mg(b:aN)(s:Sys)(l:List Nat)(k:Nat):mD b s (l++[k])=mD b s l+b.v.getD k 0:=by simp[mD]
def nT(w:ai)(g c:Nat)(b:aN)(s:Sys)(A:Option Addr)(q:Nat)(l:List Int)(a:List Int)(d:ai):Prop:=zw w g b s d/\cD d c 48 (ints (b.k::a))/\g+2<c/\fP d c A q l
def nT.after{w d f:ai}{g e:Nat}{b:aN}{s:Sys}{A:Option Addr}{q:Nat}{l a:List Int}(h:nT w g e b s A q l a d)(c:Below d.heap.size d f):nT w g e b s A q l a f:=⟨h.1.after c,h.2.1.after c,h.2.2.1,Reads.below h.2.2.2 (c.mono (by have:=h.2.1.lt;omega))⟩
def nT.set{w d:ai}{g c:Nat}{b:aN}{s:Sys}{A:Option Addr}{q:Nat}{l a:List Int}(h:nT w g c b s A q l a d)(k:Nat)(x:Int):nT w g c b s A q l (a.set k x) (d.setCell ⟨c,1+k,ah⟩ (.int .i64 x)):=by obtain⟨⟨i,j,m,n⟩,r,t,u⟩:=h;refine⟨⟨i.uW (by omega) _ _,j.uW (by omega) _ _,m.uW (by omega) _ _,n.setCell (p:=⟨c,1+k,ah⟩) (by show g<=c;omega) _⟩,?_,t,?_⟩;have:=r.set (1+k) (.int .i64 x);rwa[ints_set,du 1 k,List.set_cons_succ,du k 1]at this;exact Reads.keep u λf o v=>World.cell?_setCell_other d ⟨c,1+k,ah⟩ ⟨f,o,ah⟩ _ (λe=>by injection e;omega)
def nT.drew{w d:ai}{g c:Nat}{b:aN}{s:Sys}{A:Option Addr}{q:Nat}{l a:List Int}(h:nT w g c b s A q l a d):nT w g c b s A q l a d.drew:=h.after (Below.refl _ _).drew
def tf{w:ai}{B:Nat}{A:Option Addr}{M j:Nat}(h:fP w B A (kinds M).length (eE M))(a:j<(kinds M).length):∃b o k,A=ae ⟨b,o,ah⟩/\w.cell? ⟨b,o+j,ah⟩=ae (.int .i64 ((k:Nat):Int))/\Hid (k=(kinds M).getD j 0)/\k∈kinds M/\k<8/\Hid ((kinds M).take (j+1)=(kinds M).take j++[k]):=by
 obtain⟨b,o,d,_,f,c⟩:=h.at_ a;have e:(eE M)[j]=(((kinds M)[j]:Nat):Int):=by simp[eE]
 rw[e]at c;exact⟨b,o,(kinds M)[j],d,c,by simp[Hid,bm,aq a],aR a,((jg M _).1 (aR a)).1,aU a⟩
def RF(b:aN)(s:Sys)(hb:b.v.length=8)(he:bT b=0)(hs:eP s=0)(w:ai):Calls aj 39 #[.agg (ints b.list),.agg (ints s.list)] w λe w'=>e=.returned (.agg (ints (cq b s).list))/\Below w.heap.size w w':=by
 obtain⟨hk,hv⟩:=mh b he;obtain⟨_,_,_,hr,hwr,adx,ady,C4,hn2,hsw,hrd⟩:=EL hs;obtain⟨VN,VR⟩:=Fy b.k s.write hk (D9.1 hwr);obtain⟨hr1,XN⟩:=Fy b.k s.read hk (D9.1 hr);have HW:=af VN;have HR:=af hr1;have m:=af hb;have HV:=af hv;clear hb he hs hr hwr VN hr1 hsw hrd hv;have W:b.list.length=9:=by simp[aN.list,m.out]
 go_enter func39,ntmps39;go_upto_region 1 with(fail)
 refine b9 (zw w w.heap.size b s) ?_ ?_;obtain⟨h1,h2,h3⟩:=acG w 48 54 48 (ints b.list) (ints s.list) (ints [0,0,0,0,0,0,0,0,0]);exact⟨h1,h2,h3,(((Below.refl _ _).alloc (av _) _).alloc (by simp) _).alloc (by simp;omega) _⟩;intro w1 hM;obtain⟨t,u,z,B,C,F,D,E⟩:=hM.facts m.out;have HM:=af hM;clear hM;go_wp2_with fail;refine(Ao _ _ _).mono ?_;rintro e w2 ⟨rfl,uE⟩;have p:=af (HM.out.after uE);clear t u z B C F D E uE HM;obtain⟨t,u,z,B,C,F,D,E⟩:=p.out.facts m.out;by_cases G:fu b.k s.q=ar
 ·have hd:Hid (cq b s=⟨b.k,pd (iQ b s (wl b s)) (wl b s) b.v (wl b s).length⟩):=by unfold Hid cq;rw[if_pos G]
  rw[G];clear G;have acM:Hid (m8 (bits .and .i64 b.k s.write)=b.k.toNat &&& s.write.toNat):=by unfold Hid;rw[HW.out];unfold m8;omega
  have acL:Hid (m8 (bits .and .i64 b.k s.read)=b.k.toNat &&& s.read.toNat):=by unfold Hid;rw[HR.out];unfold m8;omega
  have K:Hid (wl b s=kinds (b.k.toNat &&& s.write.toNat)):=rfl;have VJ:Hid (rl b s=kinds (b.k.toNat &&& s.read.toNat)):=rfl;generalize b.k.toNat &&& s.write.toNat=M at *;generalize b.k.toNat &&& s.read.toNat=N at *;go_wp2_with fail;refine(tj _ _).mono ?_;rintro e r ⟨v,rfl,T,QM⟩;rw[acM.out]at T;obtain⟨A,c,rfl,hr⟩:=T.form;have h:(eE M).length=(kinds M).length:=by simp[eE]
  rw[h]at hr|-;clear h;have H:=af (p.out.after QM);clear t u z B C F D E;obtain⟨t,u,z,B,C,F,D,E⟩:=H.out.facts m.out;have Sw:fits (r.alloc (.cells (ints [0,0,0,0,0,0,0,0,0]) 48)) r.heap.size 0 9=ar:=(cD.new r 48 (ints [0,0,0,0,0,0,0,0,0])).fits 0 9 (by decide);have HO:=af T;have HR3:=af hr;clear T hr p QM;go_upto_region 5 with(fail)
  have hg6:w.heap.size+2<r.heap.size:=by have:=H.out.2.2.1.lt;omega
  refine b9 (nT w w.heap.size r.heap.size b s A (kinds M).length (eE M) b.v) ?_ ?_;have P:Below r.heap.size r (putRow (r.alloc (.cells (ints [0,0,0,0,0,0,0,0,0]) 48)) r.heap.size 0 b.list):=k7 ((Below.refl _ _).alloc (av _) _) (av _) _ _
  exact⟨H.out.after P,(cD.new r 48 (ints [0,0,0,0,0,0,0,0,0])).eZ b.list W,hg6,Reads.below HR3.out P⟩;clear Sw HR3 HO;intro w4 YP;have U:=af YP;clear YP H t u z B C F D E;generalize r.heap.size=g6 at *;obtain⟨t,u,z,B,C,F,D,E⟩:=U.out.1.facts m.out;go_wp2_with fail;refine(tj _ _).mono ?_;rintro e w5 ⟨v,rfl,T,hb5⟩;rw[acL.out]at T;obtain⟨A5,c5,rfl,hr5⟩:=T.form;have h:(eE N).length=(kinds N).length:=by simp[eE]
  rw[h]at hr5|-;clear h;have I:=af (U.out.after hb5);have HR5:=af hr5;clear t u z B C F D E T hr5 U;obtain⟨t,u,z,B,C,F,D,E⟩:=I.out.1.facts m.out;clear hb5;have XM:=oF N;go_wp2_with fail
  go_loop [7,35] (λsm i=>∃j:Nat,j<=(kinds N).length/\i=.int .i64 j/\sm=.int .i64 (mD b s ((kinds N).take j))) (λ_ i=>(kinds N).length-(intOf i).toNat)
  case atStart=>exact⟨0,bF _,rfl,rfl⟩
  obtain⟨j,hj,rfl,rfl⟩:=hrel;by_cases J:j<(kinds N).length
  ·obtain⟨bl,o,k,rfl,hc,_,XH,g,Zc⟩:=tf HR5.out J;have hcv:w5.cell? ⟨w.heap.size,1+k,ah⟩=ae (.int .i64 (b.v.getD k 0)):=by rw[I.out.1.1.cell,kg,du];simp only[aN.list,eO];rw[aq (by rw[m.out];exact g)];simp[bm,aq (show k<b.v.length by rw[m.out];exact g)]
   obtain⟨hv1,XP⟩:=(HV.out k g).2;obtain⟨UI,UJ⟩:=Bv b HV.out s ((kinds N).take j) (λq G=>((jg N q).1 (List.mem_of_mem_take G)).1);have Af:((kinds N).take j).length<=8:=by rw[dH];omega
   have hsn:Hid (mD b s ((kinds N).take (j+1))=mD b s ((kinds N).take j)+b.v.getD k 0):=by unfold Hid;rw[Zc.out,Mg]
   clear Zc;generalize b.v.getD k 0=x at *;generalize mD b s ((kinds N).take j)=S at *;generalize ((kinds N).take j).length=L at *
   go_wp2
   go_round
   case rel=>exact⟨j+1,by omega,by go_num,by rw[hsn.out]⟩
   simp[intOf];omega
  have X:j=(kinds N).length:=by omega
  subst X;have HS:Hid (mD b s ((kinds N).take (kinds N).length)=mD b s (rl b s)):=by unfold Hid;rw[cE,VJ.out]
  obtain⟨UI,UJ⟩:=Bv b HV.out s ((kinds N).take (kinds N).length) (λq G=>((jg N q).1 (List.mem_of_mem_take G)).1);rw[dH,Nat.min_self]at UI UJ;generalize mD b s ((kinds N).take (kinds N).length)=S at *;clear J hj HR5;have hm8:=oF M;have hM5:=I.out;go_wp2_with fail;go_loopw [48] (λi wr=>∃j:Nat,j<=(kinds M).length/\i=.int .i64 j/\nT w w.heap.size g6 b s A (kinds M).length (eE M) (pd (iQ b s (wl b s)) (wl b s) b.v j) wr) (λi _=>(kinds M).length-(intOf i).toNat)
  case atStart=>exact⟨0,bF _,rfl,hM5⟩
  clear t u z B C F D E hM5 I;obtain⟨j,hj,rfl,hMr⟩:=hrel;have a:=af hMr;clear hMr;obtain⟨t,u,z,B,C,F,D,E⟩:=a.out.1.facts m.out;have hvl:Hid ((pd (iQ b s (wl b s)) (wl b s) b.v j).length=8):=by unfold Hid;rw[wz,m.out]
  by_cases J:j<(kinds M).length
  ·obtain⟨bl,o,k,rfl,hc,Y,XH,g,Zc⟩:=tf a.out.2.2.2 J;have hcv:wr.cell? ⟨w.heap.size,1+k,ah⟩=ae (.int .i64 (b.v.getD k 0)):=by rw[a.out.1.1.cell,kg,du];simp only[aN.list,eO];rw[aq (by rw[m.out];exact g)];simp[bm,aq (show k<b.v.length by rw[m.out];exact g)]
   have hco:wr.cell? ⟨g6,1+k,ah⟩=ae (.int .i64 ((pd (iQ b s (wl b s)) (wl b s) b.v j).getD k 0)):=by rw[a.out.2.1.cell,kg,du,eO];rw[aq (by rw[hvl.out];exact g)];simp[bm,aq (show k<(pd (iQ b s (wl b s)) (wl b s) b.v j).length by rw[hvl.out];exact g)]
   have XF:wr.frozen? ⟨g6,1+k,ah⟩=au:=a.out.2.1.frozen _;obtain⟨hv1,XP⟩:=(HV.out k g).2;have l:Hid (∀x,x=iQ b s (wl b s) j->nT w w.heap.size g6 b s (ae ⟨bl,o,ah⟩) (kinds M).length (eE M) (pd (iQ b s (wl b s)) (wl b s) b.v (j+1)) (wr.setCell ⟨g6,1+k,ah⟩ (.int .i64 x))):=by intro x hx;have:=a.out.set k x;rw[hx,Y.out]at this;unfold pd;rw[K.out]at this|-;rw[hx,K.out,Y.out];exact this
   have hnv:Hid (iQ b s (wl b s) j=if s.act=1 then yI (b.v.getD k 0+s.n)else if s.act=2 then yI S else b.v.getD ((kinds M).getD ((j+1) % (kinds M).length) 0) 0):=by unfold Hid iQ;rw[K.out,<-Y.out,HS.out]
   generalize (pd (iQ b s (wl b s)) (wl b s) b.v j).getD k 0=y at *;generalize hx:b.v.getD k 0=x at *;have HX:=af hx;clear hx;by_cases f:s.act=1
   ·have O:(s.act==1)=ar:=by simpa using f
    have d:Hid (yI (x+s.n)=iQ b s (wl b s) j):=by unfold Hid;rw[hnv.out,if_pos f]
    clear f;have ad6:(k:Int)<8:=by omega
    have Zb:IntKind.i64.wrap (x+s.n)=x+s.n:=IntWalk.i64_in _ (by omega);go_upto_region 16 with(fail)
    go_still_tail 11,(by kernel_rfl)
    still_call (RB _ _)
    repeat still_step
    refine wpStill_nil ?_;change wpList _ _ _ _ _ wr.drew;rw[d.out];go_wp2_with fail;go_roundw
    case rel=>exact⟨j+1,by omega,by go_num,(l.out _ rfl).drew⟩
    simp[intOf];omega
   by_cases n:s.act=2
   ·have O:(s.act==1)=au:=by simpa using f
    have acO:(s.act==2)=ar:=by simpa using n
    have d:Hid (yI S=iQ b s (wl b s) j):=by unfold Hid;rw[hnv.out,if_neg f,if_pos n]
    clear f n;go_wp2_with fail;refine(MT _ _).mono ?_;rintro e w' ⟨rfl,rfl⟩;rw[d.out];go_wp2_with fail;go_roundw
    case rel=>exact⟨j+1,by omega,by go_num,l.out _ rfl⟩
    simp[intOf];omega
   have O:(s.act==1)=au:=by simpa using f
   have acO:(s.act==2)=au:=by simpa using n
   have adS:(s.act==3)=ar:=by simp;omega
   have ac6:(j+1) % (kinds M).length<(kinds M).length:=Nat.mod_lt _ (by omega);obtain⟨_,_,k',O6,hc',R,ac2,Q,adi⟩:=tf a.out.2.2.2 ac6;simp only[dm,Addr.mk.injEq,and_true]at O6;obtain⟨rfl,rfl⟩:=O6;have d:Hid (b.v.getD k' 0=iQ b s (wl b s) j):=by unfold Hid;rw[hnv.out,if_neg f,if_neg n,R.out]
   have acV:wr.cell? ⟨w.heap.size,1+k',ah⟩=ae (.int .i64 (b.v.getD k' 0)):=by rw[a.out.1.1.cell,kg,du];simp only[aN.list,eO];rw[aq (by rw[m.out];exact Q)];simp[bm,aq (show k'<b.v.length by rw[m.out];exact Q)]
   rw[d.out]at acV;have hme:((j:Int)+1) % ((kinds M).length:Int)=(((j+1) % (kinds M).length:Nat):Int):=by push_cast;rfl
   clear f n R ac2 adi d;generalize (j+1) % (kinds M).length=i' at *;have h8i:(k':Int)<8:=by omega
   go_wp2_with fail;go_roundw
   case rel=>exact⟨j+1,by omega,by go_num,l.out _ rfl⟩
   simp[intOf];omega
  have X:j=(kinds M).length:=by omega
  subst X;have hd':Hid (cq b s=⟨b.k,pd (iQ b s (wl b s)) (wl b s) b.v (kinds M).length⟩):=by unfold Hid;rw[hd.out];rw[K.out]
  have Z:(b.k::pd (iQ b s (wl b s)) (wl b s) b.v (kinds M).length).length=9:=by rw[ay,hvl.out]
  have adL:row? wr g6 0 9=ae (ints (b.k::pd (iQ b s (wl b s)) (wl b s) b.v (kinds M).length)):=a.out.2.1.bw Z;generalize pd (iQ b s (wl b s)) (wl b s) b.v (kinds M).length=V at *;go_wp2_with fail;refine bodyPost_ret (v:=.agg (ints (b.k::V))) (results_cell_row rfl _ _ (w.heap.size+1+1) 48 (ints (b.k::V)) (0,0) _ rfl (a.out.1.2.2.1.eZ _ Z) underlying48 rfl (by rw[bN,Z];exact oS)) rfl ?_;exact⟨by rw[hd'.out];rfl,k7 a.out.1.2.2.2 (by omega) _ _⟩
 ·have hd:Hid (cq b s=b):=by unfold Hid cq;rw[if_neg G]
  have hq':fu b.k s.q=au:=by simpa using G
  rw[hq'];clear G hq';go_wp2_with fail;refine bodyPost_ret (v:=.agg (ints b.list)) (results_cell_row rfl _ _ (w.heap.size+1+1) 48 (ints b.list) (0,0) _ rfl (p.out.2.2.1.eZ _ W) underlying48 rfl (by rw[bN,W];exact oS)) rfl ?_;exact⟨by rw[hd.out],k7 p.out.2.2.2 (by omega) _ _⟩
def OC(s t:Sys)(w:ai):Calls aj 87 #[.agg (ints s.list),.agg (ints t.list)] w λe c=>e=.returned (.bool (gu s t))/\Below w.heap.size w c:=by
 have h:Hid (gu s t=(bits .or .i64 (bits .and .i64 s.write (bits .or .i64 t.read t.write)) (bits .and .i64 t.write s.read) !=0)):=rfl;go_enter func87,ntmps87;go_upto_region 1 with(fail)
 obtain⟨a,b⟩:=acF w 54 54 (ints s.list) (ints t.list);refine b9 (λc=>cD c w.heap.size 54 (ints s.list)/\cD c (w.heap.size+1) 54 (ints t.list)/\Below w.heap.size w c) ⟨a,b,((Below.refl _ _).alloc (av _) _).alloc (by simp) _⟩ ?_;rintro d ⟨a,b,f⟩;have g:=af f;have i:d.cell? ⟨w.heap.size,3,ah⟩=ae (.int .i64 s.read):=a.cell 3;have j:d.cell? ⟨w.heap.size,4,ah⟩=ae (.int .i64 s.write):=a.cell 4;have k:d.cell? ⟨w.heap.size+1,3,ah⟩=ae (.int .i64 t.read):=b.cell 3;have l:d.cell? ⟨w.heap.size+1,4,ah⟩=ae (.int .i64 t.write):=b.cell 4;clear a b f;go_wp2_with fail;go_ret;exact⟨dw h.out.symm,g.out⟩
def After.row{W:ai}{g n:Nat}{t:az}{b:List Int}(h:cD W g t (ints b))(c:b.length=n)(a:After W):row? a.w g 0 n=ae (ints b):=(h.after a.below).bw c
end
namespace Rel
open Go.Conc Go.ConcN
open Go.ConcR (KK WgAt rd wr Payload DC0 stA smA Bk)
def tT{c:Type}{p q:c->Bool}:∀{l:List c},(∀x∈l,p x=ar->q x=ar)->(∃y∈l,q y=ar/\p y=au)->l.countP p<l.countP q
 |[],_,h=>by obtain⟨y,a,_⟩:=h;cases a|x::l,h,⟨y,a,h1,h2⟩=>by
  have d:l.countP p<=l.countP q:=List.countP_mono_left λz b=>h z (by simp[b])
  rcases b6.1 a with rfl|a;simp only[List.countP_cons,h1,h2,if_true,cK,if_false];omega;have:=tT (l:=l) (λz b=>h z (by simp[b])) ⟨y,a,h1,h2⟩;simp only[List.countP_cons];have e:=h x (by simp);cases hp:p x with|false=>cases f:q x<;>simp<;>omega|true=>rw[e hp];simp;omega
def wu(a:Array Oper):Bool:=(a6 a.size).all λi=>((a[i]?).map λo=>o.after.all λe=> !Region.binds .any e||decide (e.on<i)).getD au
def qv{ops:Array Oper}(h:wu ops=ar){a:Array Bool}(q:a.size=ops.size)(n:dB .any ops a=[]):∀i,i<ops.size->a.getD i ar=ar:=by
 intro i
 induction i using Nat.strongRecOn with
 |_ i p=>
  intro g;cases m:a.getD i ar with
  |true=>rfl|false=>
   exfalso;have hm:i∈dB .any ops a:=by
    unfold dB;refine cc.2 ⟨gm.2 g,?_⟩;have b:=lM.1 h i (gm.2 g);rw[m];cases k:ops[i]? with
    |none=>rw[k]at b;cases b|some o=>
     rw[k]at b;simp only[eT,bI,Bool.not_false,Bool.true_and]at b|-;refine eK.2 λj l=> ?_
     have f:=eK.1 b j l;cases d:Region.binds .any o.after[j]with|false=>rfl|true=>
     rw[d,Bool.not_true,Bool.false_or]at f;have:=of_decide_eq_true f;have c:=p _ this (by omega);have e:o.after[j].on<a.size:=by omega
     rw[aV,aH e]at c|-;simp only[bI]at c|-;rw[c];simp
   rw[n]at hm;cases hm
section
variable [Payload] {φ:Ph} {b:aY} {k:List Item} {cs:List aY} {Z:Array Oper}
def Ph.WT.Hb(I:Array Bool->Act->ai->Gh->Prop)(l:∀c a w f,I c a w f->dB .any Z c=[]->φ.WT f (G (b.at a (.inRegion Z []::k)) cs) w)(o:∀c a w f,c.size=Z.size->I c a w f->∀i∈dB .any Z c,∀m,(∀s y g,I (c.setIfInBounds i ar) s y g->φ.WT g (G (b.at s (.inRegion Z m::k)) cs) y)->φ.WT f (G (b.at a (.inRegion Z (i::m)::k)) cs) w):∀(d t:Nat)(c:Array Bool)(a:Act)(w:ai)(f:Gh),c.size=Z.size->(a6 Z.size).countP (λi=> !c.getD i ar)<=d->I c a w f->φ.WT f (G (b.at a (.inRegion Z (l5 .any Z d t c [])::k)) cs) w:=by
 intro d
 induction d with
 |zero=>
  intro t c a w f A F u;refine l c a w f u ?_;have B:(a6 Z.size).countP (λi=> !c.getD i ar)=0:=by omega
  rw[List.countP_eq_zero]at B;unfold dB;refine List.filter_eq_nil_iff.2 λi p=> ?_
  have:=B i p;simp only[fY]at this;simp only[aG,fY,not_and];intro h;rw[h]at this;exact absurd rfl this
 |succ d H=>
  intro t c a w f A F u;simp only[l5];change φ.WT f (G (b.at a (.inRegion Z (match (dB .any Z c)[t % (dB .any Z c).length]? with
   |some i=>l5 .any Z d (t / (dB .any Z c).length) (c.setIfInBounds i ar) [i]|none=>[].reverse)::k)) cs) w
  cases p:(dB .any Z c)[t % (dB .any Z c).length]? with
  |none=>
   have r:dB .any Z c=[]:=by
    cases v:dB .any Z c with|nil=>rfl|cons x E=>rw[v]at p;have n:t % (x::E).length<(x::E).length:=Nat.mod_lt _ (by simp);simp at p;simp at n;omega
   exact l c a w f u r
  |some i=>
   simp only[];rw[linearise_go_acc,List.reverse_singleton,List.singleton_append];have hm:=jw p;refine o c a w f A u i hm _ λs y g z=>H _ _ s y g (by simpa using A) ?_ z
   have q:=hm;unfold dB at q;obtain⟨v,hp⟩:=cc.1 q;have D:c.getD i ar=au:=by simp only[aG,fY]at hp;exact hp.1
   have n:i<c.size:=by have:=gm.1 v;omega
   have:(a6 Z.size).countP (λj=> !(c.setIfInBounds i ar).getD j ar)<(a6 Z.size).countP (λj=> !c.getD j ar):=by refine tT (λj _ C=> ?_) ⟨i,v,by rw[D];rfl,?_⟩;by_cases e:i=j;subst e;rw[D];rfl;rw[aV,aJ e,<-aV]at C;exact C;rw[aV,aK n];rfl
   omega
def Ph.WT.drawn(O:φ.Ok){d:Gh}{w:ai}{a:Act}(hm:φ.P.follows .mixedOrders=ar){e:Nat}(h:∀n,φ.WT d (G (b.at a (.inRegion Z (mH .any Z n)::k)) cs) w):φ.WT d (G (b.at a (.code (.region e Z ar)::k)) cs) w:=by
 refine .step (λc=>G (b.at a (.inRegion Z (mH .any Z (c.tape c.drawn (.order b.fn e)))::k)) cs) (λc=>{c with drawn:=c.drawn+1}) (λ_=>#[]) rfl (λc _=>⟨?_,λ_ _ _ _=>rfl,λ_ _ _=>rfl,λ_ _=>rfl,av _,rfl,rfl,rfl,by simp⟩) λc f=> ?_
 simp[G,stepG,stepG.exec,Frame.at,choose,Sem.run,fD,Question.forced,Question.cut,Region.schedule,hm];rw[Gh.oE d (w:=c) (w':={c with drawn:=c.drawn+1}) rfl];exact(h _).rely O (f.trans ⟨λ_ _=>rfl,λ_ _=>rfl,λ_ _ _ _=>rfl,λ_ _=>rfl,λh=>h,av _,rfl,rfl,rfl⟩)
end
end Rel
namespace Rel
open Go.Conc Go.ConcN
def E4{σ:Type}{ops:Array Oper}(n:List Nat->σ->Prop)(I:Array Bool->σ->Prop)(c:∀a s,I a s->dB .any ops a=[]->n [] s)(g:∀a s,a.size=ops.size->I a s->∀i∈dB .any ops a,∀d,(∀q,I (a.setIfInBounds i ar) q->n d q)->n (i::d) s):∀(b t:Nat)(a:Array Bool)(s:σ),a.size=ops.size->(a6 ops.size).countP (λi=> !a.getD i ar)<=b->I a s->n (l5 .any ops b t a []) s:=by
 intro b
 induction b with
 |zero=>
  intro t a s u A o;refine c a s o ?_;have v:(a6 ops.size).countP (λi=> !a.getD i ar)=0:=by omega
  rw[List.countP_eq_zero]at v;unfold dB;refine List.filter_eq_nil_iff.2 λi k=> ?_
  have:=v i k;simp only[fY]at this;simp only[aG,fY,not_and];intro h;rw[h]at this;exact absurd rfl this
 |succ b B=>
  intro t a s u A o;simp only[l5];change n (match (dB .any ops a)[t % (dB .any ops a).length]? with
   |some i=>l5 .any ops b (t / (dB .any ops a).length) (a.setIfInBounds i ar) [i]|none=>[].reverse) s
  cases k:(dB .any ops a)[t % (dB .any ops a).length]? with
  |none=>
   have m:dB .any ops a=[]:=by
    cases p:dB .any ops a with|nil=>rfl|cons x z=>rw[p]at k;have f:t % (x::z).length<(x::z).length:=Nat.mod_lt _ (by simp);simp at k;simp at f;omega
   exact c a s o m
  |some i=>
   simp only[];rw[linearise_go_acc,List.reverse_singleton,List.singleton_append];have hm:=jw k;refine g a s u o i hm _ λq r=>B _ _ q (by simpa using u) ?_ r
   have l:=hm;unfold dB at l;obtain⟨p,hp⟩:=cc.1 l;have y:a.getD i ar=au:=by simp only[aG,fY]at hp;exact hp.1
   have f:i<a.size:=by have:=gm.1 p;omega
   have:(a6 ops.size).countP (λj=> !(a.setIfInBounds i ar).getD j ar)<(a6 ops.size).countP (λj=> !a.getD j ar):=by refine tT (λj _ w=> ?_) ⟨i,p,by rw[y];rfl,?_⟩;by_cases e:i=j;subst e;rw[y];rfl;rw[aV,aJ e,<-aV]at w;exact w;rw[aV,aK f];rfl
   omega
section
variable{P:aO} {c:fg} {Z:ak->ai->Prop} {Y:Nat} {X W:List aY} {w:ai} {b:aY} {a:Act} {k:List Item} {V:Array Oper}
def RR(hm:P.follows .mixedOrders=ar){e:Nat}(u:∀n,p9 P c Z Y X (G (b.at a (.inRegion V (mH .any V n)::k)) W) w):p9 P c Z Y X (G (b.at a (.code (.region e V ar)::k)) W) w:=by
 intro g d x y sl q t j B m h;refine jZ h.g0 rfl h.co λs v A l f z r hC=>.inr ?_
 have p:stepG P ar (G (b.at a (.code (.region e V ar)::k)) W) ((cL w g d).at f)=.go (G (b.at a (.inRegion V (mH .any V (g f (.order b.fn e)))::k)) W) (cL w g (f+1)) #[]:=by simp[G,stepG,stepG.exec,Frame.at,choose,Sem.run,fD,Question.forced,Question.cut,Region.schedule,hm,cL,World.at]
 have o:=hC.I6 (B':=B) (av _) (es:=#[]) (by simp) (a':=G (b.at a (.inRegion V (mH .any V (g f (.order b.fn e)))::k)) W) (G (b.at a (.code (.region e V ar)::k)) W).frame.fn (G (b.at a (.code (.region e V ar)::k)) W).frame.place _ (pB P (G (b.at a (.code (.region e V ar)::k)) W) (G (b.at a (.inRegion V (mH .any V (g f (.order b.fn e)))::k)) W) (cL w g (f+1)));refine⟨_,_,runT_crowd_go (P:=P) (sl:=l) (i:=0) r p,u (g f (.order b.fn e)) g (f+1) x _ l v _ j B m (EH.next (B':=B) ⟨h.sub,h.hp,h.Mn,h.SE,h.sh,h.n1,h.le,hC,r,h.old,h.I1,h.fr⟩ (λ_ _=>rfl) (av _) h.le o ?_)⟩;rw[aK (by simpa using hC.pos)]
end
end Rel
section
open Go.RowKit
def Gt{P:aO}{p:Array Oper}{o:Oper}{a:Act}{w:ai}{K:Act->ai->Prop}{Q:Exit->Act->ai->Prop}{X:Prop}(B:o.guard=ah)(s x:ca)(t:az)(M:o.op=.call {callee:=.builtin .append,args:=#[s,x],argTypes:=#[t,t]})(d:Nat)(e:az)(i:TypeInfo)(z:ak)(size c:Nat)(R:P.underlying t=ae (.slice e))(J:P.info? e=ae i)(V:i.zero=ae z)(k:i.size=size)(A:i.bytes=c)(D:z.cells.size=size)(C:0<size)(v:ak)(n:Nat)(E:List ak)(O:a.eval s=v)(m:w.ownsRow d e size v n E)(b:List ak)(U:a.eval x=.slice (ae ⟨w.heap.size,0,ah⟩) 1 1)(L:b.length=size)(F:∀u∈b,u.oneCell'=ar)(r:n+1<=maxLen)(f:(n+1) *c<=140737488355328)(y:d<=w.heap.size)(h:∀l q,q.ownsRow d e size l (n+1) (E++b)->(w.alloc (.cells b.toArray e)).grownBy q v.ownBlock->(l.ownBlock=v.ownBlock\/l.ownBlock=ae (w.heap.size+1))->K (a.put o.dst l) q):if bj o (yielded p a.tmps)=ar then Oper.wp P o a (w.alloc (.cells b.toArray e)) K Q else X:=by
 have T:bj o (yielded p a.tmps)=ar:=by simp[bj,B]
 rw[if_pos T];have g:∀j u,b[j]? =ae u->(w.alloc (.cells b.toArray e)).cell? ((⟨w.heap.size,0,ah⟩:Addr).add j)=ae u:=by intro j u S;rw[show(⟨w.heap.size,0,ah⟩:Addr).add j=⟨w.heap.size,j,ah⟩from by unfold Addr.add;split<;>simp_all];rw[cell_of_row _ w.heap.size j b.toArray e (0,0) (heap_alloc_new w _)];simpa using S
 obtain⟨l,q,N,G,H,W,I⟩:=run_append_own_at (P:=P) (w.alloc (.cells b.toArray e)) d t o.type e i z size c R J V k A D C v n E (m.alloc _) ⟨w.heap.size,0,ah⟩ 1 1 b (by rw[L,jF]) g F r f (by simp;omega);unfold Oper.wp;simp[execOp,M,resolve,invoke,builtin,O,U,N,dW];exact h l q G H (by simpa using I)
def Ft(w:ai)(row:Option Nat):w.grownBy w row:=⟨rfl,rfl,rfl,av _,λ_ _ _=>rfl⟩
section
variable{P:aO} {w:ai}
def tE(t C E:az)(i:TypeInfo)(z:ak)(size b:Nat)(F:P.underlying t=ae (.slice E))(D:P.info? E=ae i)(T:i.zero=ae z)(e:i.size=size)(s:i.bytes=b)(B:z.cells.size=size)(A:0<size){v u:ak}{n m:Nat}{o a:List ak}(c:w.ownsRow 0 E size v n o)(k:w.ownsRow 0 E size u m a)(H:∀x∈a,x.oneCell'=ar)(r:n+m<=maxLen)(d:(n+m) *b<=140737488355328):∃f l,(Builtin.append_ #[t,t] C #[v,u]).run P w=.ok f l/\l.ownsRow 0 E size f (n+m) (o++a)/\w.grownBy l v.ownBlock/\(f.ownBlock=v.ownBlock\/f.ownBlock=ae w.heap.size):=by
 obtain⟨Q,h|⟨g,p,q,rfl,_,O,L,M,N,y⟩⟩:=k;obtain⟨rfl,rfl⟩:=h;have R:a=[]:=fZ (by omega);subst R;refine⟨v,w,run_append_owned_none (P:=P) (w:=w) 0 t C E i size F D v n o c,by simpa using c,Ft _ _,bt rfl⟩;obtain⟨f,l,S,I,J,_,K⟩:=run_append_own_at (P:=P) w 0 t C E i z size b F D T e s B A v n o c ⟨g,0,ah⟩ m p a Q (λj x G=>by rw[show(⟨g,0,ah⟩:Addr).add j=⟨g,j,ah⟩from by unfold Addr.add;split<;>simp_all];rw[cell_of_row w g j q E (0,0) O,<-G,<-y,dS,if_pos];simp;have:=(bz.1 G).1;omega) H r d (bF _)
 exact⟨f,l,S,I,J,K⟩
def yY{k:Array Oper}{o:Oper}{a:Act}{K:Act->ai->Prop}{Q:Exit->Act->ai->Prop}{X:Prop}(r:o.guard=ah)(s x:ca)(t:az)(I:o.op=.call {callee:=.builtin .append,args:=#[s,x],argTypes:=#[t,t]})(E:az)(i:TypeInfo)(z:ak)(size b:Nat)(M:P.underlying t=ae (.slice E))(H:P.info? E=ae i)(R:i.zero=ae z)(e:i.size=size)(q:i.bytes=b)(A:z.cells.size=size)(y:0<size){v u:ak}{n m:Nat}{B c:List ak}(L:a.eval s=v)(O:a.eval x=u)(g:w.ownsRow 0 E size v n B)(j:w.ownsRow 0 E size u m c)(C:∀x∈c,x.oneCell'=ar)(p:n+m<=maxLen)(d:(n+m) *b<=140737488355328)(h:∀f l,l.ownsRow 0 E size f (n+m) (B++c)->w.grownBy l v.ownBlock->(f.ownBlock=v.ownBlock\/f.ownBlock=ae w.heap.size)->K (a.put o.dst f) l):if bj o (yielded k a.tmps)=ar then Oper.wp P o a w K Q else X:=by
 have N:bj o (yielded k a.tmps)=ar:=by simp[bj,r]
 rw[if_pos N];obtain⟨f,l,J,D,F,G⟩:=tE (P:=P) (w:=w) t o.type E i z size b M H R e q A y g j C p d;unfold Oper.wp;simp[execOp,I,resolve,invoke,builtin,L,O,J,dW];exact h f l D F G
end
section
variable{G:Nat->Prop} {Z w Y:ai} {l:List bU} {E:az} {size n m:Nat} {v X:ak} {W V:List ak}
def In.Vb(h:In G Z (dR E size v n W::l) w)(a:Y.ownsRow 0 E size X (n+m) (W++V))(i:w.grownBy Y v.ownBlock)(d:X.ownBlock=v.ownBlock\/X.ownBlock=ae w.heap.size):In G Z (dR E size X (n+m) (W++V)::l) Y:=by obtain⟨g,⟨j,f⟩,_,b⟩:=h.open_;refine b (A':=dR E size X (n+m) (W++V)) ⟨a,λk c=> ?_⟩ (cY.grown (F:=g) i λk c=>f k c);rcases d with e|e;exact bt (f k (by rw[<-e];exact c));rw[c]at e;injection e with e;exact bW ⟨by omega,(kI a k c).2⟩
def In.Zq(h:In G Z l w)(E:az)(a:List ak):In G Z (dR E a.length (.slice (ae ⟨w.heap.size,0,ah⟩) 1 1) 1 a::l) (w.alloc (.cells a.toArray E)):=h.new (A:=dR E a.length (.slice (ae ⟨w.heap.size,0,ah⟩) 1 1) 1 a) ((Below.refl _ _).alloc (av _) _) ⟨⟨by simp,bW ⟨w.heap.size,1,a.toArray,rfl,bF _,heap_alloc_new w _,av _,by unfold maxLen;omega,by simp,by simp⟩⟩,λk b=>by simp[fC]at b;omega⟩
end
end
section
open Go.RowKit Go.Shelf Go.Sort
section
variable{Z:Type} [Inhabited Z] {Y:Z->List ak} {k:Nat}
def vY(e:∀x,(Y x).length=k)(d:Array Z):(flatK Y k d).toList=d.toList.flatMap Y:=by
 apply iw;intro t;have m:=s0 e d.toList;by_cases c:t<d.size *k;have b:0<k:=by rcases mO k with h|h;subst h;simp at c;exact h
 have a:t / k<d.size:=(Nat.div_lt_iff_lt_mul b).2 c;have hm:=Nat.mod_lt t b;have l:=get_flatK Y k d t c;have i:(flatK Y k d).toList[t]? =ae ((Y d[t / k]!)[t % k]!):=by rw[j3,aH (by simpa using c),<-l];rw[getElem!_pos (flatK Y k d) t (by simpa using c)]
 have f:=oZ e d.toList (t / k) (t % k) (by simpa using a) hm;rw[Nat.mul_comm,Nat.div_add_mod]at f;rw[i,f];have j:d[t / k]! =d.toList[t / k]'(by simpa using a):=by rw[getElem!_pos d (t / k) a];simp
 rw[j];have g:t % k<(Y (d.toList[t / k]'(by simpa using a))).length:=by rw[e];exact hm
 rw[aq g,getElem!_pos (Y (d.toList[t / k]'(by simpa using a))) _ g];rw[gi (by simp;omega),gi (by rw[m];simp;omega)]
def wm(e:∀x,(Y x).length=k){w:ai}{E:az}{g c:Nat}{a:List Z}(h:w.ownsRow 0 E k (.slice (ae ⟨g,0,ah⟩) a.length c) a.length (a.flatMap Y)):HoldsK Y k w g 0 a.toArray:=by
 intro j b;rw[size_flatK]at b;have d:j<a.length *k:=by simpa using b
 have i:=s0 e a;have f:(flatK Y k a.toArray)[j]! =(a.flatMap Y)[j]'(by omega):=by rw[getElem!_pos (flatK Y k a.toArray) j (by simpa using b),<-Array.getElem_toList];simp only[vY e]
 refine⟨?_,by rw[aZ];exact h.frozenAt _⟩;rw[aZ,World.ownsRow.cellAt h j d,f,aq (by omega)];rfl
def yt(w:ai)(g m:Nat)(d:Array Z)(b:Array Obj):cY (· =g) w (sortWorldK Y k w g 0 m d b):=by refine⟨rfl,rfl,rfl,?_,λq c a=> ?_⟩;show w.heap.size<=((w.heap.modify g _)++b).size;simp;show((w.heap.modify g _)++b)[q]? =_;rw[Array.getElem?_append_left (by simpa using c),br,if_neg (λe=>a e.symm)]
def AA(l:∀x,(Y x).length=k){w:ai}{E:az}{g c:Nat}{a:List Z}(h:w.ownsRow 0 E k (.slice (ae ⟨g,0,ah⟩) a.length c) a.length (a.flatMap Y))(m:Nat)(d:Array Z)(r:d.size=a.length)(s:Array Obj):(sortWorldK Y k w g 0 m d s).ownsRow 0 E k (.slice (ae ⟨g,0,ah⟩) d.toList.length c) d.toList.length (d.toList.flatMap Y):=by
 have n:=(h.lt g rfl).2;obtain⟨H,y|⟨F,u,b,e,_,B,z,A,q,G⟩⟩:=h;cases y.1;injection e with f D v;injection f with f;injection f with f;subst f;subst v;have i:d.toList.length=a.length:=by simpa using r
 refine⟨s0 l _,bW ⟨g,c,putCells id 0 (flatK Y k d) b,rfl,bF _,?_,by omega,A,by simpa[putCells]using q,?_⟩⟩;show((w.heap.modify g _)++s)[g]? =_;rw[Array.getElem?_append_left (by simpa using n),br,if_pos rfl,B];rfl;rw[i];have C:a.length *k<=b.size:=by rw[q];exact ik k z
 apply iw;intro t;have j:=s0 l d.toList;rw[i]at j;by_cases o:t<a.length *k;rw[dS,if_pos o,j3];unfold putCells;rw[Array.getElem?_mapIdx,aH (by omega)];simp only[eT];have p:t<(flatK Y k d).size:=by rw[size_flatK,r];exact o
 rw[if_pos ⟨bF _,by omega⟩,Nat.sub_zero,getElem!_pos (flatK Y k d) t p,<-Array.getElem_toList];simp only[vY l,id];rw[aq];rw[dS,if_neg o,gi (by omega)]
end
section
variable{Z:Type} [Inhabited Z] {enc:Z->List ak} {k:Nat} {ρ:Ren} {G:Nat->Prop} {Y w:ai} {l:List bU} {v:ak} {X:List Z}
def Gq(L:SlLaysF0.n6 aj ρ)(N:∀w,(isAgg (ρ.t 24)).run aj w=.ok ar w)(zE:∀w,(Go.sizeOf (ρ.t 24)).run aj w=.ok k w)(C:∀x,(enc x).length=k)(S:∀x,∀u∈enc x,u.oneCell'=ar)(s:Z->Z->Int)(T:SWO (ltOf s))(g:Nat)(Q:∀args w,(callFunc g args).run aj w=.ok (.enter g args) w)(o:∀blk H size w,CmpLays aj g #[] enc k s blk H size w)(E:az)(h:In G Y (dR E k v X.length (X.flatMap enc)::l) w)(hl:X.length<=1099511627776):Calls aj (ρ.f 6) #[v,.func (.func g) #[] #[]] w λe I=>e=.returned (.tuple #[])/\∃y:List Z,y.Perm X/\y.Pairwise (λa b=>decide (s b a<0)=au)/\In G Y (dR E k v y.length (y.flatMap enc)::l) I:=by
 obtain⟨F1,⟨t,J⟩,_,m⟩:=h.open_;obtain⟨A,c,rfl,U,V,W⟩:=cu t;by_cases R:X.length=0;have hx:X=[]:=fZ R;subst hx;exact(AnyF.slices_SortFunc_none L A c (.func (.func g) #[] #[]) w).mono λe I ⟨z,hw⟩=>⟨z,[],oI _,List.Pairwise.nil,by rw[hw];exact h⟩
 obtain⟨b,rfl⟩:=W (by omega);have D:=(t.lt b rfl).2;have p:=AnyQ.slices_SortFunc L k N zE enc C S s T g #[] b 0 c X.toArray w Q (o b 0 _ w) (wm C t) D (by simp;omega);refine p.mono ?_;rintro e I ⟨z,d,n,M,⟨F,_,hp⟩,f,rfl⟩;have r:d.size=X.length:=by simpa using F
 refine⟨z,d.toList,?_,?_,?_⟩;have O:d.extract 0 X.toArray.size=d:=by rw[<-F];exact Array.extract_size
 have P:X.toArray.extract 0 X.toArray.size=X.toArray:=Array.extract_size;rw[O,P]at hp;exact hp;rw[List.pairwise_iff_getElem];intro i j hi K B;have:=f i j (bF _) B (by rw[<-F];simpa using K);rw[getElem!_pos d j (by simpa using K),getElem!_pos d i (by simpa using hi)]at this;exact this;have hv:d.toList.length=X.length:=by simpa using r
 refine m (A':=dR E k (.slice (ae ⟨b,0,ah⟩) X.length c) d.toList.length (d.toList.flatMap enc)) ⟨?_,λq hq=>bt (J q hq)⟩ ((yt w b n d M).mono λq _ e=>by subst e;exact J _ rfl);have:=AA C t n d r M;rw[hv]at this|-;exact this
end
end
section
open Go.RowKit Go.Shelf
def tG:Ren:=⟨λ|6=>141|14=>184|15=>150|28=>193|29=>194|20=>219|21=>220|22=>221|23=>222|24=>223|25=>224|26=>225|27=>226|46=>242|47=>228|48=>229|49=>243|50=>244|57=>249|n=>n,λ|22=>122|24=>43|25=>146|3=>3|39=>230|0=>0|53=>187|55=>184|4=>4|46=>257|45=>256|50=>261|5=>5|9=>9|66=>289|70=>292|76=>303|77=>304|n=>n,λn=>n⟩
def Bp:SlLaysF0.n6 aj tG:={mixed:=by kernel_rfl,f6:=⟨f141.name,by decide,func141.trans (congrArg ae (by kernel_rfl))⟩,f14:=⟨f184.name,by decide,func184.trans (congrArg ae (by kernel_rfl))⟩,f15:=func150.trans (congrArg ae (by kernel_rfl)),f20:=⟨f219.name,by decide,func219.trans (congrArg ae (by kernel_rfl))⟩,f21:=⟨f220.name,by decide,func220.trans (congrArg ae (by kernel_rfl))⟩,f22:=⟨f221.name,by decide,func221.trans (congrArg ae (by kernel_rfl))⟩,f23:=⟨f222.name,by decide,func222.trans (congrArg ae (by kernel_rfl))⟩,f24:=⟨f223.name,by decide,func223.trans (congrArg ae (by kernel_rfl))⟩,f25:=⟨f224.name,by decide,func224.trans (congrArg ae (by kernel_rfl))⟩,f26:=⟨f225.name,by decide,func225.trans (congrArg ae (by kernel_rfl))⟩,f27:=⟨f226.name,by decide,func226.trans (congrArg ae (by kernel_rfl))⟩,f28:=func193.trans (congrArg ae (by kernel_rfl)),f29:=func194.trans (congrArg ae (by kernel_rfl)),f46:=⟨f242.name,by decide,func242.trans (congrArg ae (by kernel_rfl))⟩,f47:=func228.trans (congrArg ae (by kernel_rfl)),f48:=func229.trans (congrArg ae (by kernel_rfl)),f49:=⟨f243.name,by decide,func243.trans (congrArg ae (by kernel_rfl))⟩,f50:=⟨f244.name,by decide,func244.trans (congrArg ae (by kernel_rfl))⟩,f57:=⟨f249.name,by decide,func249.trans (congrArg ae (by kernel_rfl))⟩,t0:=underlying0,a0:=Tryz.isAgg0,z0:=Tryz.sizeOf0,v0:=Tryz.zeroValue0,t3:=underlying3,a3:=Tryz.isAgg3,z3:=Tryz.sizeOf3,v3:=Tryz.zeroValue3,t4:=underlying4,a4:=Tryz.isAgg4,z4:=Tryz.sizeOf4,v4:=Tryz.zeroValue4,t5:=underlying5,a5:=Tryz.isAgg5,z5:=Tryz.sizeOf5,v5:=Tryz.zeroValue5,t9:=underlying9,a9:=Tryz.isAgg9,z9:=Tryz.sizeOf9,v9:=Tryz.zeroValue9,t22:=underlying122,a22:=Tryz.isAgg122,z22:=Tryz.sizeOf122,v22:=Tryz.zeroValue122,t25:=underlying146,a25:=Tryz.isAgg146,z25:=Tryz.sizeOf146,v25:=Tryz.zeroValue146,t39:=underlying230,a39:=Tryz.isAgg230,z39:=Tryz.sizeOf230,v39:=Tryz.zeroValue230,t45:=underlying256,a45:=Tryz.isAgg256,z45:=Tryz.sizeOf256,v45:=Tryz.zeroValue256,t46:=underlying257,a46:=Tryz.isAgg257,z46:=Tryz.sizeOf257,v46:=Tryz.zeroValue257,t50:=underlying261,a50:=Tryz.isAgg261,z50:=Tryz.sizeOf261,v50:=Tryz.zeroValue261,t53:=underlying187,a53:=Tryz.isAgg187,z53:=Tryz.sizeOf187,v53:=Tryz.zeroValue187,t55:=underlying184,a55:=Tryz.isAgg184,z55:=Tryz.sizeOf184,v55:=Tryz.zeroValue184,t66:=underlying289,a66:=Tryz.isAgg289,z66:=Tryz.sizeOf289,v66:=Tryz.zeroValue289,t70:=underlying292,a70:=Tryz.isAgg292,z70:=Tryz.sizeOf292,v70:=Tryz.zeroValue292,t76:=underlying303,a76:=Tryz.isAgg303,z76:=Tryz.sizeOf303,v76:=Tryz.zeroValue303,t77:=underlying304,a77:=Tryz.isAgg304,z77:=Tryz.sizeOf304,v77:=Tryz.zeroValue304}
def wS:Ren:=⟨λ|6=>100|14=>152|15=>150|28=>193|29=>194|20=>195|21=>196|22=>197|23=>198|24=>199|25=>200|26=>201|27=>202|46=>232|47=>228|48=>229|49=>233|50=>234|57=>246|n=>n,λ|22=>34|24=>45|25=>177|3=>3|39=>230|0=>0|53=>187|55=>184|4=>4|46=>257|45=>256|50=>261|5=>5|9=>9|66=>289|70=>292|76=>303|77=>304|n=>n,λn=>n⟩
def Gp:SlLaysF0.n6 aj wS:={mixed:=by kernel_rfl,f6:=⟨f100.name,by decide,func100.trans (congrArg ae (by kernel_rfl))⟩,f14:=⟨f152.name,by decide,func152.trans (congrArg ae (by kernel_rfl))⟩,f15:=func150.trans (congrArg ae (by kernel_rfl)),f20:=⟨f195.name,by decide,func195.trans (congrArg ae (by kernel_rfl))⟩,f21:=⟨f196.name,by decide,func196.trans (congrArg ae (by kernel_rfl))⟩,f22:=⟨f197.name,by decide,func197.trans (congrArg ae (by kernel_rfl))⟩,f23:=⟨f198.name,by decide,func198.trans (congrArg ae (by kernel_rfl))⟩,f24:=⟨f199.name,by decide,func199.trans (congrArg ae (by kernel_rfl))⟩,f25:=⟨f200.name,by decide,func200.trans (congrArg ae (by kernel_rfl))⟩,f26:=⟨f201.name,by decide,func201.trans (congrArg ae (by kernel_rfl))⟩,f27:=⟨f202.name,by decide,func202.trans (congrArg ae (by kernel_rfl))⟩,f28:=func193.trans (congrArg ae (by kernel_rfl)),f29:=func194.trans (congrArg ae (by kernel_rfl)),f46:=⟨f232.name,by decide,func232.trans (congrArg ae (by kernel_rfl))⟩,f47:=func228.trans (congrArg ae (by kernel_rfl)),f48:=func229.trans (congrArg ae (by kernel_rfl)),f49:=⟨f233.name,by decide,func233.trans (congrArg ae (by kernel_rfl))⟩,f50:=⟨f234.name,by decide,func234.trans (congrArg ae (by kernel_rfl))⟩,f57:=⟨f246.name,by decide,func246.trans (congrArg ae (by kernel_rfl))⟩,t0:=underlying0,a0:=Tryz.isAgg0,z0:=Tryz.sizeOf0,v0:=Tryz.zeroValue0,t3:=underlying3,a3:=Tryz.isAgg3,z3:=Tryz.sizeOf3,v3:=Tryz.zeroValue3,t4:=underlying4,a4:=Tryz.isAgg4,z4:=Tryz.sizeOf4,v4:=Tryz.zeroValue4,t5:=underlying5,a5:=Tryz.isAgg5,z5:=Tryz.sizeOf5,v5:=Tryz.zeroValue5,t9:=underlying9,a9:=Tryz.isAgg9,z9:=Tryz.sizeOf9,v9:=Tryz.zeroValue9,t22:=underlying34,a22:=Tryz.isAgg34,z22:=Tryz.sizeOf34,v22:=Tryz.zeroValue34,t25:=underlying177,a25:=Tryz.isAgg177,z25:=Tryz.sizeOf177,v25:=Tryz.zeroValue177,t39:=underlying230,a39:=Tryz.isAgg230,z39:=Tryz.sizeOf230,v39:=Tryz.zeroValue230,t45:=underlying256,a45:=Tryz.isAgg256,z45:=Tryz.sizeOf256,v45:=Tryz.zeroValue256,t46:=underlying257,a46:=Tryz.isAgg257,z46:=Tryz.sizeOf257,v46:=Tryz.zeroValue257,t50:=underlying261,a50:=Tryz.isAgg261,z50:=Tryz.sizeOf261,v50:=Tryz.zeroValue261,t53:=underlying187,a53:=Tryz.isAgg187,z53:=Tryz.sizeOf187,v53:=Tryz.zeroValue187,t55:=underlying184,a55:=Tryz.isAgg184,z55:=Tryz.sizeOf184,v55:=Tryz.zeroValue184,t66:=underlying289,a66:=Tryz.isAgg289,z66:=Tryz.sizeOf289,v66:=Tryz.zeroValue289,t70:=underlying292,a70:=Tryz.isAgg292,z70:=Tryz.sizeOf292,v70:=Tryz.zeroValue292,t76:=underlying303,a76:=Tryz.isAgg303,z76:=Tryz.sizeOf303,v76:=Tryz.zeroValue303,t77:=underlying304,a77:=Tryz.isAgg304,z77:=Tryz.sizeOf304,v77:=Tryz.zeroValue304}
def yC:Ren:=⟨λ|6=>97|14=>149|15=>150|28=>193|29=>194|20=>185|21=>186|22=>187|23=>188|24=>189|25=>190|26=>191|27=>192|46=>227|47=>228|48=>229|49=>230|50=>231|57=>245|n=>n,λ|22=>33|24=>50|25=>167|3=>3|39=>230|0=>0|53=>187|55=>184|4=>4|46=>257|45=>256|50=>261|5=>5|9=>9|66=>289|70=>292|76=>303|77=>304|n=>n,λn=>n⟩
def JJ:SlLaysF0.n6 aj yC:={mixed:=by kernel_rfl,f6:=⟨f97.name,by decide,func97.trans (congrArg ae (by kernel_rfl))⟩,f14:=⟨f149.name,by decide,func149.trans (congrArg ae (by kernel_rfl))⟩,f15:=func150.trans (congrArg ae (by kernel_rfl)),f20:=⟨f185.name,by decide,func185.trans (congrArg ae (by kernel_rfl))⟩,f21:=⟨f186.name,by decide,func186.trans (congrArg ae (by kernel_rfl))⟩,f22:=⟨f187.name,by decide,func187.trans (congrArg ae (by kernel_rfl))⟩,f23:=⟨f188.name,by decide,func188.trans (congrArg ae (by kernel_rfl))⟩,f24:=⟨f189.name,by decide,func189.trans (congrArg ae (by kernel_rfl))⟩,f25:=⟨f190.name,by decide,func190.trans (congrArg ae (by kernel_rfl))⟩,f26:=⟨f191.name,by decide,func191.trans (congrArg ae (by kernel_rfl))⟩,f27:=⟨f192.name,by decide,func192.trans (congrArg ae (by kernel_rfl))⟩,f28:=func193.trans (congrArg ae (by kernel_rfl)),f29:=func194.trans (congrArg ae (by kernel_rfl)),f46:=⟨f227.name,by decide,func227.trans (congrArg ae (by kernel_rfl))⟩,f47:=func228.trans (congrArg ae (by kernel_rfl)),f48:=func229.trans (congrArg ae (by kernel_rfl)),f49:=⟨f230.name,by decide,func230.trans (congrArg ae (by kernel_rfl))⟩,f50:=⟨f231.name,by decide,func231.trans (congrArg ae (by kernel_rfl))⟩,f57:=⟨f245.name,by decide,func245.trans (congrArg ae (by kernel_rfl))⟩,t0:=underlying0,a0:=Tryz.isAgg0,z0:=Tryz.sizeOf0,v0:=Tryz.zeroValue0,t3:=underlying3,a3:=Tryz.isAgg3,z3:=Tryz.sizeOf3,v3:=Tryz.zeroValue3,t4:=underlying4,a4:=Tryz.isAgg4,z4:=Tryz.sizeOf4,v4:=Tryz.zeroValue4,t5:=underlying5,a5:=Tryz.isAgg5,z5:=Tryz.sizeOf5,v5:=Tryz.zeroValue5,t9:=underlying9,a9:=Tryz.isAgg9,z9:=Tryz.sizeOf9,v9:=Tryz.zeroValue9,t22:=underlying33,a22:=Tryz.isAgg33,z22:=Tryz.sizeOf33,v22:=Tryz.zeroValue33,t25:=underlying167,a25:=Tryz.isAgg167,z25:=Tryz.sizeOf167,v25:=Tryz.zeroValue167,t39:=underlying230,a39:=Tryz.isAgg230,z39:=Tryz.sizeOf230,v39:=Tryz.zeroValue230,t45:=underlying256,a45:=Tryz.isAgg256,z45:=Tryz.sizeOf256,v45:=Tryz.zeroValue256,t46:=underlying257,a46:=Tryz.isAgg257,z46:=Tryz.sizeOf257,v46:=Tryz.zeroValue257,t50:=underlying261,a50:=Tryz.isAgg261,z50:=Tryz.sizeOf261,v50:=Tryz.zeroValue261,t53:=underlying187,a53:=Tryz.isAgg187,z53:=Tryz.sizeOf187,v53:=Tryz.zeroValue187,t55:=underlying184,a55:=Tryz.isAgg184,z55:=Tryz.sizeOf184,v55:=Tryz.zeroValue184,t66:=underlying289,a66:=Tryz.isAgg289,z66:=Tryz.sizeOf289,v66:=Tryz.zeroValue289,t70:=underlying292,a70:=Tryz.isAgg292,z70:=Tryz.sizeOf292,v70:=Tryz.zeroValue292,t76:=underlying303,a76:=Tryz.isAgg303,z76:=Tryz.sizeOf303,v76:=Tryz.zeroValue303,t77:=underlying304,a77:=Tryz.isAgg304,z77:=Tryz.sizeOf304,v77:=Tryz.zeroValue304}
end
section
open Go.RowKit Go.MapKept Go.ChangeMaps
structure me(P:aO) (k:az) {κ:Type} (ek:κ->ak) (good:κ->Prop):Prop where
 inj:∀{a b:κ},ek a=ek b->a=b
 check:∀(w:ai)(em:Bool)(x:κ),good x->(fB em 10000 k (ek x)).run P w=.ok () w
 find:∀(w:ai)(x:κ),good x->∀es:List MapEntry,(∀e∈es,∃y,good y/\e.key=ek y)->((jR k (ek x) es).run P w=.ok ah w/\∀e∈es,e.key≠ek x)\/∃j e,(jR k (ek x) es).run P w=.ok (ae (j,e.val)) w/\es[j]? =ae e/\e.key=ek x
 stays:∀(w:ai)(x:κ),(Instr.keyThatStays (ek x) (ek x)).run P w=.ok (ek x) w
def ew{f g:Type}(h:f->ak)(i:g->ak)(c:f->Prop)(w:ai)(b:Nat)(m:List (f×g)):Prop:=∃d a,w.heap[b]? =ae (.map d a)/\Stamped d a/\d.toList.map (λe=>(e.key,e.val))=m.map (λp=>(h p.1,i p.2))/\∀p∈m,c p.1
section
variable{Z Y:Type} {P:aO} {k:az} {X:Z->ak} {W:Y->ak} {V:Z->Prop} {w w':ai} {b:Nat} {m:List (Z×Y)}
def ew.lt(h:ew X W V w b m):b<w.heap.size:=by obtain⟨d,a,c,_⟩:=h;exact(aE.1 c).1
def ew.block(h:ew X W V w b m)(f:w'.heap[b]? =w.heap[b]?):ew X W V w' b m:=by obtain⟨c,a,d,e⟩:=h;exact⟨c,a,f.trans d,e⟩
def ew.only{F:Nat->Prop}(h:ew X W V w b m)(c:cY F w w')(a:¬F b):ew X W V w' b m:=h.block (c.block b h.lt a)
def ew.below{B:Nat}(h:ew X W V w b m)(c:Below B w w')(a:b<B):ew X W V w' b m:=h.block (c.block b a)
def ew.after(h:ew X W V w b m)(a:Below w.heap.size w w'):ew X W V w' b m:=h.below a h.lt
def ew.new(w:ai)(X:Z->ak)(W:Y->ak)(V:Z->Prop):ew X W V (w.alloc (.map #[] 0)) w.heap.size []:=⟨#[],0,(MapKept.heap_alloc w _).1,stamped_empty 0,rfl,by simp⟩
def ze{b:List MapEntry}(h:b.map (λe=>(e.key,e.val))=m.map (λp=>(X p.1,W p.2)))(f:∀p∈m,V p.1):∀e∈b,∃y,V y/\e.key=X y:=by
 intro e d;have:(e.key,e.val)∈m.map (λp=>(X p.1,W p.2)):=by rw[<-h];exact aI.2 ⟨e,d,rfl⟩
 obtain⟨p,hp,a⟩:=aI.1 this;injection a with c g;exact⟨p.1,f p hp,c.symm⟩
def ew.nodup(K:me P k X V)(h:ew X W V w b m):(bM m).Nodup:=by
 obtain⟨g,c,_,l,j,_⟩:=h;have i:g.toList.map (·.key)=(bM m).map X:=by have:=congrArg (List.map Prod.fst) j;simpa[bM,Function.comp_def]using this
 have f:=l.2.2;rw[i]at f;exact(List.Pairwise.of_map X (λa b d e=>d (by rw[e])) f)
def find_spec(K:me P k X V){b:List MapEntry}(f:b.map (λe=>(e.key,e.val))=m.map (λp=>(X p.1,W p.2))){x:Z}:(∀e∈b,e.key≠X x)↔x∉bM m:=by
 have d:b.map (·.key)=(bM m).map X:=by have:=congrArg (List.map Prod.fst) f;simpa[bM,Function.comp_def]using this
 constructor;intro h i;have:X x∈b.map (·.key):=by rw[d];exact aI.2 ⟨x,i,rfl⟩
 obtain⟨e,a,c⟩:=aI.1 this;exact h e a c;intro h e a g;have:e.key∈b.map (·.key):=aI.2 ⟨e,a,rfl⟩;rw[d]at this;obtain⟨y,j,c⟩:=aI.1 this;exact h (by rw[<-K.inj (c.trans g)];exact j)
def y7(K:me P k X V){b:List MapEntry}(f:b.map (λe=>(e.key,e.val))=m.map (λp=>(X p.1,W p.2))){x:Z}{j:Nat}{e:MapEntry}(g:b[j]? =ae e)(h:e.key=X x):∃v,m[j]? =ae (x,v)/\e.val=W v:=by have:=congrArg (·[j]?) f;simp only[dx,g,eT]at this;obtain⟨p,hp,a⟩:=aF.1 this.symm;injection a with c d;have:p.1=x:=K.inj (c.trans h);refine⟨p.2,?_,d.symm⟩;rw[hp,<-this]
def iG(w:ai)(b:Nat)(o:Obj):cY (· =b) w (setBlock w b o):=⟨rfl,rfl,rfl,by simp[setBlock],λi _ a=>by simp[setBlock,Array.getElem?_setIfInBounds,Ne.symm a]⟩
def dz{Z Y:Type}(X:Z->ak)(W:Y->ak)(V:Z->Prop)(w:ai)(b r:Nat)(m left:List (Z×Y)):Prop:=
 ∃f c a d g,w.heap[b]? =ae (.map f c)/\Stamped f c/\f.toList.map (λe=>(e.key,e.val))=m.map (λp=>(X p.1,W p.2))/\(∀p∈m,V p.1)/\
  w.heap[r]? =ae (.mapIter (ae b) a d g)/\(∀x∈f.toList,x.born<a)/\a<=g/\a<=c/\
  (f.toList.filter λe=> !d.contains e.born).map (λe=>(e.key,e.val))=left.map (λp=>(X p.1,W p.2))/\∀p∈left,p∈m
def dz.map{r:Nat}{left:List (Z×Y)}(h:dz X W V w b r m left):ew X W V w b m:=by obtain⟨e,a,c,d,k,f,g,i,j,_⟩:=h;exact⟨e,a,f,g,i,j⟩
def dz.lt{r:Nat}{left:List (Z×Y)}(h:dz X W V w b r m left):r<w.heap.size:=by obtain⟨g,a,c,d,f,i,j,k,l,e,_⟩:=h;exact(aE.1 e).1
def dz.ne{r:Nat}{left:List (Z×Y)}(h:dz X W V w b r m left):r≠b:=by obtain⟨j,a,c,f,i,g,k,l,n,d,_⟩:=h;intro e;rw[e,g]at d;cases d
def dz.block{r:Nat}{left:List (Z×Y)}(h:dz X W V w b r m left)(o:w'.heap[b]? =w.heap[b]?)(p:w'.heap[r]? =w.heap[r]?):dz X W V w' b r m left:=by obtain⟨f,a,c,d,e,g,i,j,k,l,n⟩:=h;exact⟨f,a,c,d,e,o.trans g,i,j,k,p.trans l,n⟩
def dz.only{F:Nat->Prop}{r:Nat}{left:List (Z×Y)}(h:dz X W V w b r m left)(a:cY F w w')(c:¬F b)(d:¬F r):dz X W V w' b r m left:=h.block (a.block b h.map.lt c) (a.block r h.lt d)
def dz.count{r:Nat}{left:List (Z×Y)}(h:dz X W V w b r m left):w.rangeLeft b r=left.length:=by obtain⟨j,a,c,d,i,e,k,l,n,f,o,p,q,g,_⟩:=h;unfold World.rangeLeft;rw[e,f];have:=congrArg kY g;simp only[bu]at this;rw[<-this];simp only[leftOf];rw[<-Array.length_toList,Array.toList_filter]
def ew.range(h:ew X W V w b m){t e:az}(l:P.underlying t=ae (.map k e)):∃w',(Instr.range t (.map (ae b))).run P w=.ok (.pointer (ae ⟨w.heap.size,0,ah⟩)) w'/\dz X W V w' b w.heap.size m m/\Below w.heap.size w w'/\w'.heap.size=w.heap.size+1:=by
 have d:=h.lt;obtain⟨c,a,f,i,g,j⟩:=h;refine⟨_,run_range_map w t k e b c a l f,⟨c,a,a,#[],a,((MapKept.heap_alloc w _).2 b d).trans f,i,g,j,(MapKept.heap_alloc w _).1,i.1,av _,av _,?_,λp hp=>hp⟩,(Below.refl _ _).alloc (av _) _,by simp⟩;have:(c.toList.filter λe=> !(#[]:Array Nat).contains e.born)=c.toList:=List.filter_eq_self.2 λe _=>by simp
 rw[this];exact g
section
variable [DecidableEq Z]
def ew.look(K:me P k X V)(h:ew X W V w b m){t e:az}(p:P.underlying t=ae (.map k e)){z:ak}(A:(zeroValue e).run P w=.ok z w){x:Z}(n:V x)(c:Bool):(kE t (.map (ae b)) (X x) c).run P w=.ok (if c then .tuple #[(eI m x).elim z W,.bool (eI m x).isSome]else(eI m x).elim z W) w:=by have u:=h.nodup K;obtain⟨q,a,o,C,i,s⟩:=h;rcases K.find w x n q.toList (ze i s)with⟨d,f⟩|⟨j,B,d,f,r⟩;have g:eI m x=ah:=ra.2 ((find_spec K i).1 f);simp[kE,run_underlying p,kF o,K.check w _ x n,d,A,dW,g];obtain⟨v,y,l⟩:=y7 K i f r;have g:eI m x=ae v:=jV u (jw y);simp[kE,run_underlying p,kF o,K.check w _ x n,d,dW,g,l]
def Ln{es:List MapEntry}{x:Z}{v u:Y}{j:Nat}(h:(bM m).Nodup)(b:m[j]? =ae (x,u)):m.map (λp=>if p.1=x then(x,v)else p)=m.set j (x,v):=by
 apply iw;intro i;rw[dx,ga];by_cases a:j=i;subst a;have c:=(bz.1 b).1;rw[if_pos rfl,if_pos c,b];simp;rw[if_neg a];cases d:m[i]? with
 |none=>rfl|some p=>
  have:p.1≠x:=by
   intro e;have g:(bM m)[i]? =ae x:=by simp[bM,d,e]
   have f:(bM m)[j]? =ae x:=by simp[bM,b]
   have c:=(bz.1 f).1;exact a ((List.getElem?_inj c h).1 (f.trans g.symm))
  simp[this]
def ew.store(K:me P k X V)(h:ew X W V w b m){t e:az}(D:P.underlying t=ae (.map k e)){x:Z}(n:V x)(v:Y):∃w',(Instr.mapUpdate t (.map (ae b)) (X x) (W v)).run P w=.ok () w'/\ew X W V w' b (iI m x v)/\cY (· =b) w w'/\w'.heap.size=w.heap.size:=by
 have J:=h.nodup K;have s:=h.lt;obtain⟨es,a,l,C,g,A⟩:=h;have c:∀p∈iI m x v,V p.1:=λp hp=>by rcases SZ hp with rfl|⟨hp,_⟩;exact n;exact A p hp
 have d:∀o,(setBlock w b o).heap[b]? =ae o:=λo=>by simp[setBlock,s]
 rcases K.find w x n es.toList (ze g A)with⟨q,f⟩|⟨j,F,q,f,r⟩;have y:=(find_spec K g).1 f;refine⟨setBlock w b (.map (es.push ⟨X x,W v,a⟩) (a+1)),?_,⟨_,_,d _,stamped_push C f,?_,c⟩,iG _ _ _,by simp[setBlock]⟩;simp[Instr.mapUpdate,run_underlying D,kF l,K.check w au x n,q,MapKept.run_setObj_map _ l,dW,setBlock];unfold iI;rw[if_neg,Array.toList_push,dZ,g,dZ];rfl;intro H;obtain⟨p,hp,G⟩:=j4.1 H;exact y (aI.2 ⟨p,hp,by simpa using G⟩);obtain⟨u,E,I⟩:=y7 K g f r;have B:es[j]? =ae F:=by simpa using f
 refine⟨setBlock w b (.map (es.modify j (λz=>{z with key:=X x,val:=W v})) a),?_,⟨_,_,d _,stamped_modify C _ _ (λ_ _=>rfl) (λz _ i=>by rw[B]at i;cases i;exact r.symm),?_,c⟩,iG _ _ _,by simp[setBlock]⟩;simp[Instr.mapUpdate,run_underlying D,kF l,K.check w au x n,q,B,r,K.stays w x,MapKept.run_setObj_map _ l,dW,setBlock];unfold iI;rw[if_pos (j4.2 ⟨(x,u),jw E,by simp⟩),Ln (es:=es.toList) J E,Array.toList_modify,modify_eq_set _ _ _ _ f,List.map_set,g,List.map_set]
def va{x:Z}{u:Y}{j:Nat}(e:(bM m).Nodup)(d:m[j]? =ae (x,u)):eo m x=m.eraseIdx j:=by have hp:m.Pairwise (λp q=>p.1≠q.1):=List.pairwise_map.1 e;exact filter_eq_eraseIdx (λp:Z×Y=>decide (p.1=x)) m j (x,u) d (by simp) (hp.imp λa ⟨b,c⟩=>a (by rw[of_decide_eq_true b,of_decide_eq_true c]))
def Nj{x:Z}(h:x∉bM m):eo m x=m:=by
 unfold eo;rw[List.filter_eq_self];intro p hp;have:p.1≠x:=λe=>h (by rw[<-e];exact aI.2 ⟨p,hp,rfl⟩)
 simp[this]
def ew.drop(K:me P k X V)(h:ew X W V w b m){t e:az}(C:P.underlying t=ae (.map k e)){x:Z}(z:V x)(H:az):∃w',(kX #[t,k] H #[.map (ae b),X x]).run P w=.ok (.tuple #[]) w'/\ew X W V w' b (eo m x)/\cY (· =b) w w'/\w'.heap.size=w.heap.size:=by
 have F:=h.nodup K;have v:=h.lt;obtain⟨f,a,n,B,g,A⟩:=h;have c:∀p∈eo m x,V p.1:=λp hp=>A p (fQ.1 hp).1
 have d:∀o,(setBlock w b o).heap[b]? =ae o:=λo=>by simp[setBlock,v]
 rcases K.find w x z f.toList (ze g A)with⟨q,l⟩|⟨j,I,q,l,D⟩;have y:=(find_spec K g).1 l;refine⟨setBlock w b (.map f a),?_,⟨_,_,d _,B,?_,c⟩,iG _ _ _,by simp[setBlock]⟩;simp[kX,run_underlying C,kF n,K.check w _ x z,q,MapKept.run_setObj_map _ n,dW,setBlock];rw[Nj y];exact g;obtain⟨u,G,E⟩:=y7 K g l D;have r:j<f.toList.length:=(bz.1 l).1;have s:j<f.size:=by simpa using r
 have i:(f.eraseIdxIfInBounds j).toList=f.toList.eraseIdx j:=by unfold Array.eraseIdxIfInBounds;rw[dif_pos s];simp
 refine⟨setBlock w b (.map (f.eraseIdxIfInBounds j) a),?_,⟨_,_,d _,stamped_erase B j,?_,c⟩,iG _ _ _,by simp[setBlock]⟩;simp[kX,run_underlying C,kF n,K.check w _ x z,q,MapKept.run_setObj_map _ n,dW,setBlock];rw[i,va F G,map_eraseIdx,map_eraseIdx,g]
def dz.step(K:me P k X V){r:Nat}{left:List (Z×Y)}(h:dz X W V w b r m left)(ty:az):(left=[]/\(Instr.next (.pointer (ae ⟨r,0,ah⟩)) au ty).run P w=.ok (.tuple #[.bool au]) w)\/∃x v w',(x,v)∈left/\(Instr.next (.pointer (ae ⟨r,0,ah⟩)) au ty).run P w=.ok (.tuple #[.bool ar,X x,W v]) w'/\dz X W V w' b r m (eo left x)/\cY (· =r) w w'/\w'.heap.size=w.heap.size/\(eo left x).length<left.length/\(Instr.entry (.pointer (ae ⟨r,0,ah⟩))).run P w'=.ok (.tuple #[X x,W v]) w':=by
 classical
 have U:=h.ne;have E:=h.map.lt;have F:=h.lt;obtain⟨i,c,f,d,c0,h1,t,h3,h4,h5,h6,h7,h8,Q,O⟩:=h;rcases run_next_at (P:=P) w ty r b f c0 d i c h5 h1 h6 h7 with⟨N,n⟩|⟨e,L,J,I,n⟩;refine bt ⟨?_,n⟩;have:=congrArg kY Q;simp only[bu]at this;unfold leftOf at N;rw[<-Array.length_toList,Array.toList_filter]at N;rw[N]at this;exact fZ this.symm;right;unfold leftOf at L;rw[Array.toList_filter]at L;obtain⟨q,hse⟩:=cc.1 L;have G:(e.key,e.val)∈left.map (λp=>(X p.1,W p.2)):=by rw[<-Q];exact aI.2 ⟨e,L,rfl⟩
 obtain⟨⟨x,v⟩,hp,Y9⟩:=aI.1 G;injection Y9 with j s;simp only at j s;have A:J.heap=w.heap:=by rcases I with rfl|rfl<;>rfl
 have u:cY (· =r) w (setBlock J r (.mapIter (ae b) f (d.push e.born) c)):=by have:=iG J r (.mapIter (ae b) f (d.push e.born) c);rcases I with rfl|rfl;exact this;exact⟨this.os,this.tape,this.output,this.size,this.block⟩
 have H:(setBlock J r (.mapIter (ae b) f (d.push e.born) c)).heap[r]? =ae (.mapIter (ae b) f (d.push e.born) c):=by simp[setBlock,A,F]
 have z:(setBlock J r (.mapIter (ae b) f (d.push e.born) c)).heap[b]? =ae (.map i c):=(u.block b E (λg=>U g.symm)).trans h1;have B:(i.toList.filter λg=> !(d.push e.born).contains g.born).map (λe=>(e.key,e.val))=(eo left x).map (λp=>(X p.1,W p.2)):=by
  have S:(i.toList.filter λg=> !(d.push e.born).contains g.born)=(i.toList.filter λg=> !d.contains g.born).filter λg=> !decide (g.key=X x):=by
   rw[List.filter_filter];apply List.filter_congr;intro g C;have D:(g.born=e.born)↔(g.key=X x):=by
    constructor;intro R;have:g=e:=by have f1:=find_born g _ t.2.1 C;have f2:=find_born e _ t.2.1 q;rw[R]at f1;exact aX (f1.symm.trans f2)
    rw[this,j];intro T;have:=entry_eq_of_key ((stamped_iff i c).1 t).2.2 C q (T.trans j);rw[this]
   have:(d.push e.born).contains g.born=(d.contains g.born||decide (g.key=X x)):=by rw[Bool.eq_iff_iff];simp only[Array.contains_iff_mem,Array.mem_push,gJ,decide_eq_true_eq];rw[D]
   rw[this,Bool.not_or,Bool.and_comm]
  rw[S];unfold eo;have gen:∀(i:List MapEntry)(l:List (Z×Y)),i.map (λe=>(e.key,e.val))=l.map (λp=>(X p.1,W p.2))->
   (i.filter λg=> !decide (g.key=X x)).map (λe=>(e.key,e.val))=(l.filter λp=> !decide (p.1=x)).map (λp=>(X p.1,W p.2)):=by
   intro i
   induction i with
   |nil=>intro l o;cases l with|nil=>rfl|cons a l=>simp at o
   |cons a i ih=>intro l o;cases l with
    |nil=>simp at o|cons p l=>
     simp only[fq,List.cons.injEq]at o;have y:(a.key=X x)↔(p.1=x):=by have:=congrArg Prod.fst o.1;simp only at this;rw[this];exact⟨λe=>K.inj e,λe=>by rw[e]⟩
     rw[List.filter_cons,List.filter_cons];by_cases M:p.1=x;rw[decide_eq_true (y.2 M),decide_eq_true M];simpa using ih l o.2;rw[decide_eq_false (λe=>M (y.1 e)),decide_eq_false M];simp only[Bool.not_false,if_true,fq];rw[o.1,ih l o.2]
  exact gen _ _ Q
 refine⟨x,v,_,hp,by rw[j,s];exact n,⟨i,c,f,_,c,z,t,h3,h4,H,h6,h8,h8,B,λp hp=>O p (fQ.1 hp).1⟩,u,by simp[setBlock,A],?_,?_⟩;unfold eo;exact List.length_filter_lt_length_iff_exists.2 ⟨(x,v),hp,by simp⟩;rw[j,s];exact run_entry_at _ r b f d i c e H z q t.2.1
def xr{left:List (Z×Y)}(c:(bM left).Nodup){x:Z}{v:Y}(h:(x,v)∈left):left.Perm ((x,v)::eo left x):=by
 obtain⟨j,b⟩:=List.mem_iff_getElem?.1 h;rw[va c b];clear h c
 induction left generalizing j with
 |nil=>simp at b|cons a l d=>
  cases j with|zero=>simp at b;subst b;exact oI _|succ j=>rw[List.eraseIdx_cons_succ];exact((d j (by simpa using b)).cons a).trans (cy _ _ _)
def dz.drop(K:me P k X V){r:Nat}{left:List (Z×Y)}(h:dz X W V w b r m left){t e:az}(ht:P.underlying t=ae (.map k e)){x:Z}(T:V x)(F:x∉bM left)(ty:az):∃w',(kX #[t,k] ty #[.map (ae b),X x]).run P w=.ok (.tuple #[]) w'/\dz X W V w' b r (eo m x) left/\cY (· =b) w w'/\w'.heap.size=w.heap.size:=by
 have hn:=h.map.nodup K;have O:=h.map.lt;have S:=h.ne;obtain⟨q,d,f,c,H,G,hs,A,hg,h5,h6,h7,h8,L,J⟩:=h;have g:∀p∈eo m x,V p.1:=λp hp=>hg p (fQ.1 hp).1
 have i:∀o,(setBlock w b o).heap[b]? =ae o:=λo=>by simp[setBlock,O]
 have E:∀o,(setBlock w b o).heap[r]? =ae (.mapIter (ae b) f c H):=λo=>((iG w b o).block r (aE.1 h5).1 S).trans h5
 have C:∀p∈left,p∈eo m x:=λp hp=>fQ.2 ⟨J p hp,λe=>F (by rw[<-e];exact aI.2 ⟨p,hp,rfl⟩)⟩
 rcases K.find w x T q.toList (ze A hg)with⟨I,z⟩|⟨j,s,I,z,U⟩;have Q:=(find_spec K A).1 z;refine⟨setBlock w b (.map q d),?_,⟨q,d,f,c,H,i _,hs,?_,g,E _,h6,h7,h8,L,C⟩,iG _ _ _,by simp[setBlock]⟩;simp[kX,run_underlying ht,kF G,K.check w _ x T,I,MapKept.run_setObj_map _ G,dW,setBlock];rw[Nj Q];exact A;obtain⟨u,hu,heu⟩:=y7 K A z U;have M:j<q.toList.length:=(bz.1 z).1;have N:j<q.size:=by simpa using M
 have n:(q.eraseIdxIfInBounds j).toList=q.toList.eraseIdx j:=by unfold Array.eraseIdxIfInBounds;rw[dif_pos N];simp
 refine⟨setBlock w b (.map (q.eraseIdxIfInBounds j) d),?_,⟨_,d,f,c,H,i _,stamped_erase hs j,?_,g,E _,?_,h7,h8,?_,C⟩,iG _ _ _,by simp[setBlock]⟩;simp[kX,run_underlying ht,kF G,K.check w _ x T,I,MapKept.run_setObj_map _ G,dW,setBlock];rw[n,va hn hu,map_eraseIdx,map_eraseIdx,A];intro y hy;rw[n]at hy;exact h6 y ((List.eraseIdx_sublist _ _).subset hy);rw[<-L,n];congr 1;have v:c.contains s.born=ar:=by
  cases hc:c.contains s.born;exfalso;have D:s∈q.toList.filter λe=> !c.contains e.born:=cc.2 ⟨jw z,by rw[hc];rfl⟩
  have:(s.key,s.val)∈left.map (λp=>(X p.1,W p.2)):=by rw[<-L];exact aI.2 ⟨s,D,rfl⟩
  obtain⟨p,hp,R⟩:=aI.1 this;injection R with q1 q2;have:p.1=x:=K.inj (q1.trans U);exact F (by rw[<-this];exact aI.2 ⟨p,hp,rfl⟩);rfl
 have gen:∀(l:List MapEntry)(j:Nat),l[j]? =ae s->(l.eraseIdx j).filter (λe=> !c.contains e.born)=l.filter (λe=> !c.contains e.born):=by
  intro l
  induction l with
  |nil=>intro j B;simp at B|cons a l ih=>
   intro j B;cases j with|zero=>simp at B;subst B;simp only[List.eraseIdx_cons_zero];rw[List.filter_cons,v];simp|succ j=>simp only[List.eraseIdx_cons_succ,List.filter_cons];rw[ih j (by simpa using B)]
 exact gen _ _ z
def yE(K:me P k X V){i:Array Oper}{f:List Oper}{o:Oper}{a:Act}{Q:Exit->Act->ai->Prop}(l:o.guard=ah)(q r:ca)(t e:az)(c:Bool)(p:o.op=Op.lookup t q r c)(u:P.underlying t=ae (.map k e))(z:ak)(y:(zeroValue e).run P w=.ok z w)(b:Nat)(m:List (Z×Y))(hm:a.eval q=.map (ae b))(h:ew X W V w b m)(x:Z)(v:a.eval r=X x)(n:V x)(val:ak)(g:(if c then .tuple #[(eI m x).elim z W,.bool (eI m x).isSome]else(eI m x).elim z W)=val)(s:wpList P i Q f (a.put o.dst val) w):wpList P i Q (o::f) a w:=by
 refine wpList_plain l λA j=> ?_
 have d:=h.look K u y n c;rw[g]at d;unfold Oper.wp;simp[execOp,p,hm,v,d,dW];exact j _ _ s
def iB(K:me P k X V){f:Array Oper}{c:List Oper}{o:Oper}{a:Act}{Q:Exit->Act->ai->Prop}(i:o.guard=ah)(n q p:ca)(t e:az)(l:o.op=Op.mapUpdate t n q p)(z:P.underlying t=ae (.map k e))(b:Nat)(m:List (Z×Y))(hm:a.eval n=.map (ae b))(h:ew X W V w b m)(x:Z)(B:a.eval q=X x)(j:V x)(v:Y)(A:a.eval p=W v)(y:∀w',ew X W V w' b (iI m x v)->cY (· =b) w w'->w'.heap.size=w.heap.size->wpList P f Q c (a.put o.dst undef) w'):wpList P f Q (o::c) a w:=by
 refine wpList_plain i λC g=> ?_
 obtain⟨w',d,r,s,u⟩:=h.store K z j v;unfold Oper.wp;simp[execOp,l,hm,B,A,d,dW];exact g _ _ (y w' r s u)
def tN(K:me P k X V){f:Array Oper}{c:List Oper}{o:Oper}{a:Act}{Q:Exit->Act->ai->Prop}(i:o.guard=ah)(n p:ca)(t e:az)(l:o.op=Op.call {callee:=Callee.builtin Builtin.delete,args:=#[n,p],argTypes:=#[t,k]})(v:P.underlying t=ae (.map k e))(b:Nat)(m:List (Z×Y))(hm:a.eval n=.map (ae b))(h:ew X W V w b m)(x:Z)(y:a.eval p=X x)(j:V x)(u:∀w',ew X W V w' b (eo m x)->cY (· =b) w w'->w'.heap.size=w.heap.size->wpList P f Q c (a.put o.dst (.tuple #[])) w'):wpList P f Q (o::c) a w:=by
 refine wpList_plain i λz g=> ?_
 obtain⟨w',d,q,r,s⟩:=h.drop K v j o.type;unfold Oper.wp;simp[execOp,l,resolve,invoke,builtin,hm,y,d,dW];exact g _ _ (u w' q r s)
def ko(K:me P k X V){g:Array Oper}{d:List Oper}{o:Oper}{a:Act}{Q:Exit->Act->ai->Prop}(n:o.guard=ah)(p:ca)(l:o.op=Op.next p au)(b r:Nat)(m left:List (Z×Y))(j:a.eval p=.pointer (ae ⟨r,0,ah⟩))(h:dz X W V w b r m left)(e:left=[]->wpList P g Q d (a.put o.dst (.tuple #[.bool au])) w)(f:∀x v w',(x,v)∈left->dz X W V w' b r m (eo left x)->cY (· =r) w w'->w'.heap.size=w.heap.size->(eo left x).length<left.length->(Instr.entry (.pointer (ae ⟨r,0,ah⟩))).run P w'=.ok (.tuple #[X x,W v]) w'->wpList P g Q d (a.put o.dst (.tuple #[.bool ar,X x,W v])) w'):wpList P g Q (o::d) a w:=by
 refine wpList_plain n λB i=> ?_
 unfold Oper.wp;rcases h.step K o.type with⟨q,c⟩|⟨x,v,w',A,c,s,t,u,y,z⟩;simp[execOp,l,j,c,dW];exact i _ _ (e q);simp[execOp,l,j,c,dW];exact i _ _ (f x v w' A s t u y z)
end
def iJ{f:Array Oper}{c:List Oper}{o:Oper}{a:Act}{Q:Exit->Act->ai->Prop}(i:o.guard=ah)(l:ca)(t e:az)(j:o.op=Op.range t l)(s:P.underlying t=ae (.map k e))(b:Nat)(m:List (Z×Y))(hm:a.eval l=.map (ae b))(h:ew X W V w b m)(r:∀w',dz X W V w' b w.heap.size m m->Below w.heap.size w w'->w'.heap.size=w.heap.size+1->wpList P f Q c (a.put o.dst (.pointer (ae ⟨w.heap.size,0,ah⟩))) w'):wpList P f Q (o::c) a w:=by
 refine wpList_plain i λu g=> ?_
 obtain⟨w',d,n,p,q⟩:=h.range s;unfold Oper.wp;simp[execOp,j,hm,d,dW];exact g _ _ (r w' n p q)
end
def Zh{P:aO}{k:az}(a:P.underlying k=ae (.int .i64)):me P k (aS .i64) (λx=>(Lit.int .i64 x).wf=ar)where
 inj h:=by injection h
 check w em x hx:=(Maps.int_keyed a).check w em (Maps.keyOf_int_mk a hx)
 find w x hx es hes:=(Maps.int_keyed a).find w (Maps.keyOf_int_mk a hx) es λe c=>by obtain⟨y,d,b⟩:=hes e c;rw[b];exact⟨_,Maps.keyOf_int_mk a d⟩
 stays w x:=by simp[Instr.keyThatStays,Instr.sameBits]
def Vv{P:aO}{k:az}{I:Array Field}{n:Nat}(d:Nat)(R:d<=9999)(A:P.underlying k=ae (.struct I))(N:qQ P d k=ar)(K:P.cellsOf k=n)(D:∀(w:ai)(M:Bool)(u:List Int),u.length=n->(fB M 10000 k (.agg (ints u))).run P w=.ok () w):me P k (λu:List Int=>.agg (ints u)) (λu=>u.length=n)where
 inj h:=by injection h with h;exact IB h
 check:=D
 find w x hx c f:=by
  have t:∀(c:List MapEntry)(i:Nat),c≠ []->(∀e∈c,∃y:List Int,y.length=n/\e.key=.agg (ints y))->Instr.findNow (.struct I) (.agg (ints x)) c i=ah:=by
   intro c i E f;cases c with|nil=>exact absurd rfl E|cons e c=>obtain⟨y,_,v⟩:=f e (by simp);simp[Instr.findNow,v,Instr.sameNow]
  have z:∀(c:List MapEntry)(i:Nat),(∀e∈c,∃y:List Int,y.length=n/\e.key=.agg (ints y))->
   ((Instr.findAsking k (.agg (ints x)) c i).run P w=.ok ah w/\∀e∈c,e.key≠.agg (ints x))\/∃j e,(Instr.findAsking k (.agg (ints x)) c i).run P w=.ok (ae (i+j,e.val)) w/\c[j]? =ae e/\e.key=.agg (ints x):=by
   intro c
   induction c with
   |nil=>intro i _;exact bt ⟨by simp[Instr.findAsking],by simp⟩|cons e c F=>
    intro i f;obtain⟨y,Q,v⟩:=f e (by simp);have m:(Op.equal k (.agg (ints x)) e.key).run P w=.ok (decide (x=y)) w:=by
     rw[v];have:=tW (P:=P) d (10000-d) k x y w N (by rw[K];exact hx) (by rw[K];exact Q);rw[show 10000-d+d=10000 from by omega]at this;have L:∀G:List Int,valOf P k G=.agg (ints G):=λG=>by simp[valOf,A]
     rw[L,L]at this;exact this
    by_cases o:x=y;right;refine⟨0,e,?_,rfl,by rw[v,o]⟩;rw[decide_eq_true o]at m;simp[Instr.findAsking,m];rw[decide_eq_false o]at m;rcases F (i+1) (λe O=>f e (by simp[O]))with⟨p,r⟩|⟨j,B,p,r,C⟩;left;refine⟨by simp[Instr.findAsking,m,p],λB s=> ?_⟩;rcases b6.1 s with rfl|s;rw[v];intro h;injection h with h;exact o (IB h).symm;exact r B s;right;exact⟨j+1,B,by simp[Instr.findAsking,m,p];omega,by simpa using r,C⟩
  cases c with
  |nil=>left;simp[jR,run_underlying A,Instr.findNow]|cons H c=>have J:=t (H::c) 0 (by simp) f;rcases z (H::c) 0 f with⟨p,r⟩|⟨j,e,p,r,C⟩;left;exact⟨by simp only[jR,eD,run_underlying A,gT,J];exact p,r⟩;right;exact⟨j,e,by simp only[jR,eD,run_underlying A,gT,J];simpa using p,r,C⟩
 stays w x:=by
  have:Instr.sameBits 10000 (.agg (ints x)) (.agg (ints x))=ar:=by
   show((ints x).size==(ints x).size&&((ints x).toList.zip (ints x).toList).all λ(a,b)=>Instr.sameBits 9999 a b)=ar;simp only[beq_self_eq_true,Bool.true_and,lM];rintro⟨a,b⟩ g;rw[iE]at g;have:a=b/\∃q,a=.int .i64 q:=by
    generalize x=l at g
    induction l with
    |nil=>simp at g|cons q l F=>simp at g;rcases g with⟨rfl,rfl⟩|h;exact⟨rfl,q,rfl⟩;exact F (by simpa using h)
   obtain⟨rfl,q,rfl⟩:=this;simp[Instr.sameBits]
  simp[Instr.keyThatStays,this]
end
section
open Go.RowKit
def sF{c d:Type}(e:c->ak)(f:d->ak)(a:c->Prop)(b:Nat)(m:List (c×d)):bU where
 at_ w F:=ew e f a w b m/\F b
 frame h ho hd:=⟨h.1.only ho (hd _ h.2),h.2⟩
 cut h hd:=⟨h.1,hd _ h.1.lt h.2⟩
def ie{c d:Type}(e:c->ak)(f:d->ak)(a:c->Prop)(b r:Nat)(m left:List (c×d)):bU where
 at_ w F:=dz e f a w b r m left/\F b/\F r
 frame h ho hd:=⟨h.1.only ho (hd _ h.2.1) (hd _ h.2.2),h.2⟩
 cut h hd:=⟨h.1,hd _ h.1.map.lt h.2.1,hd _ h.1.lt h.2.2⟩
section
variable{Z Y:Type} {X:Z->ak} {W:Y->ak} {V:Z->Prop} {b r:Nat} {m U left T:List (Z×Y)} {F:Nat->Prop} {S w R:ai} {l:List bU}
def In.gZ(h:In F S (sF X W V b m::l) w):ew X W V w b m:=h.sep.head.1
def In.nV(h:In F S (sF X W V b m::l) w)(d:ew X W V R b U)(f:cY (· =b) w R):In F S (sF X W V b U::l) R:=by obtain⟨g,c,i,a⟩:=h.open_;exact a (A':=sF X W V b U) ⟨d,bt c.2⟩ (f.mono λk _ e=>by rw[e];exact c.2)
def In.FH(h:In F S l w)(X:Z->ak)(W:Y->ak)(V:Z->Prop):In F S (sF X W V w.heap.size []::l) (w.alloc (.map #[] 0)):=h.new (A:=sF X W V w.heap.size []) ((Below.refl _ _).alloc (av _) _) ⟨ew.new _ _ _ _,av _⟩
def In.rangeAt(h:In F S (ie X W V b r m left::l) w):dz X W V w b r m left:=h.sep.head.1
def In.AX(h:In F S (sF X W V b m::l) w)(e:dz X W V R b w.heap.size m left)(d:Below w.heap.size w R)(i:R.heap.size=w.heap.size+1):In F S (ie X W V b w.heap.size m left::l) R:=by obtain⟨f,c,g,a⟩:=h.open_;exact a (A':=ie X W V b w.heap.size m left) ⟨e,bt c.2,bW ⟨av _,by omega⟩⟩ (cY.fR d)
def In.mC(h:In F S (ie X W V b r m left::l) w)(f:dz X W V R b r m T)(d:cY (· =r) w R):In F S (ie X W V b r m T::l) R:=by obtain⟨g,c,i,a⟩:=h.open_;exact a (A':=ie X W V b r m T) ⟨f,bt c.2.1,bt c.2.2⟩ (d.mono λk _ e=>by rw[e];exact c.2.2)
def In.Gb(h:In F S (ie X W V b r m left::l) w)(f:dz X W V R b r U T)(d:cY (· =b) w R):In F S (ie X W V b r U T::l) R:=by obtain⟨g,c,i,a⟩:=h.open_;exact a (A':=ie X W V b r U T) ⟨f,bt c.2.1,bt c.2.2⟩ (d.mono λk _ e=>by rw[e];exact c.2.1)
def In.tK(h:In F S (ie X W V b r m left::l) w):In F S (sF X W V b m::l) w:=by obtain⟨d,c,e,a⟩:=h.open_;exact a (A':=sF X W V b m) ⟨c.1.map,bt c.2.1⟩ cY.refl
def dz.sub(h:dz X W V w b r m left):∀p∈left,p∈m:=by obtain⟨g,a,d,e,f,_,_,_,_,_,_,_,_,_,c⟩:=h;exact c
end
def In.add0{A:bU}{F:Nat->Prop}{a w:ai}{l:List bU}(h:In F a l w)(b:A.at_ w (λ_=>False)):In F a (A::l) w:=⟨⟨λ_=>False,_,b,h.sep,λ_ h=>h.elim,λk h=>by rcases h with h|h;exact h.elim;exact h⟩,h.only⟩
abbrev cI(v:ak)(a:List Int):bU:=dR 3 1 v a.length (a.map (aS .i64))
def In.ku{F:Nat->Prop}{b w:ai}{l:List bU}{v:ak}{a:List Int}(h:In F b (cI v a::l) w):∃A c,v=.slice A a.length c/\fP w w.heap.size A a.length a:=by have:om w 0 v a:=h.sep.head.1;exact this.form
def Tj{w:ai}{B:Nat}{e:az}{size n:Nat}{v:ak}{c:List ak}(h:w.ownsRow B e size v n c):w.ownsRow 0 e size v n c:=⟨h.1,by rcases h.2 with h|⟨g,a,b,e,_,r⟩;exact bt h;exact bW ⟨g,a,b,e,bF _,r⟩⟩
def In.uf{F:Nat->Prop}{b w w':ai}{l:List bU}{v:ak}{c:List Int}(h:In F b l w)(a:om w' w.heap.size v c)(d:Below w.heap.size w w'):In F b (cI v c::l) w':=h.new d ⟨Tj a,λk e=>(kI a k e).1⟩
def iu{x:Int}(h: -1000000000000<=x/\x<=1000000000000):(Lit.int .i64 x).wf=ar:=WalkArith.wf_i64 (by omega)
def qo:me aj 3 (aS .i64) (λx=>(Lit.int .i64 x).wf=ar):=Zh underlying3
abbrev mK(x:Int):Prop:=(Lit.int .i64 x).wf=ar
def OB(n:Nat)(a:Bool)(v:ak)(w:ai):(fB a (n+1) 3 v).run aj w=.ok () w:=by unfold fB;rw[eD,run_underlying underlying3];rfl
def Fb(w:ai)(b:Bool)(a:List Int)(h:a.length=2):(fB b 10000 43 (.agg (ints a))).run aj w=.ok () w:=by
 have d:(part 3 (ints a) 0).run aj w=.ok (.int .i64 (a.getD 0 0)) w:=by have:=oG (P:=aj) w 1 3 a 0 (by kernel_rfl) (by rw[show Tryz.prog.cellsOf 3=1 from by kernel_rfl];omega);rw[this,show Tryz.prog.cellsOf 3=1 from by kernel_rfl];simp[valOf,underlying3,pK,bm]
 have e:(part 3 (ints a) 1).run aj w=.ok (.int .i64 (a.getD 1 0)) w:=by have:=oG (P:=aj) w 1 3 a 1 (by kernel_rfl) (by rw[show Tryz.prog.cellsOf 3=1 from by kernel_rfl];omega);rw[this,show Tryz.prog.cellsOf 3=1 from by kernel_rfl];simp[valOf,underlying3,pK,bm]
 have c:=λv=>OB 9998 b v w
 rw[show(10000:Nat)=(9998+1)+1 from rfl];unfold fB;rw[eD,run_underlying underlying43];simp[d,e,c]
def VT:me aj 43 (λa:List Int=>.agg (ints a)) (λa=>a.length=2):=Vv 3 (by omega) underlying43 (by kernel_rfl) (by kernel_rfl) Fb
def mv(h:Hd):ak:=.agg (ints (hL h))
@[go_sem] theorem jI(a b:Int):mv (a,b)=.agg #[.int .i64 a,.int .i64 b]:=rfl
def Sn{a b:Hd}(h:hL a=hL b):a=b:=by unfold hL at h;injection h with d c;injection c with c _;exact Prod.ext d c
def Am:me aj 43 mv (λ_=>True)where
 inj h:=Sn (VT.inj h)
 check w em x _:=VT.check w em (hL x) rfl
 find w x _ es he:=VT.find w (hL x) rfl es (λe h=>by obtain⟨y,_,a⟩:=he e h;exact⟨hL y,rfl,a⟩)
 stays w x:=VT.stays w (hL x)
def J6(w:ai):(zeroValue 43).run aj w=.ok (mv (0,0)) w:=by kernel_rfl
abbrev wZ(b:Nat)(m:ja):bU:=sF mv mv (λ_=>True) b m
abbrev jz(v:ak)(a:List Hd):bU:=dR 43 2 v a.length (a.flatMap hC)
def pT{w:ai}{v:ak}{a:List Hd}(h:w.ownsRow 0 43 2 v a.length (a.flatMap hC)):∃A c,v=.slice A a.length c/\a.length<=c/\c<=maxLen/\∀k,(e:k<a.length)->∃g,A=ae ⟨g,0,ah⟩/\row? w g (k *2) 2=ae (ints [a[k].1,a[k].2]):=by obtain⟨A,c,rfl,b,d,i⟩:=cu h;refine⟨A,c,rfl,b,d,λk e=> ?_⟩;obtain⟨g,rfl⟩:=i (by omega);have f:=kD h e;rw[k8 xn a k e]at f;exact⟨g,rfl,f⟩
section
variable{G:Nat->Prop} {Z w Y:ai} {l:List bU}
def In.vD{E:az}{size n:Nat}{v f:ak}{g a:List ak}{o:Obj}(h:In G Z (dR E size v n g::l) w)(b:Y.ownsRow 0 E size f (n+1) (g++a))(p:(w.alloc o).grownBy Y v.ownBlock)(i:f.ownBlock=v.ownBlock\/f.ownBlock=ae (w.heap.size+1)):In G Z (dR E size f (n+1) (g++a)::l) Y:=by obtain⟨m,⟨q,j⟩,_,c⟩:=h.open_;refine c (A':=dR E size f (n+1) (g++a)) ⟨b,λk d=> ?_⟩ ((cY.refl.alloc o).trans' (cY.grown (F:=m) p λk d=>j k d) λk _ d=>d);rcases i with e|e;exact bt (j k (by rw[<-e];exact d));rw[d]at e;injection e with e;exact bW ⟨by omega,(kI b k d).2⟩
def In.E5{v c:ak}{b:List Hd}{x:Hd}{o:Obj}(h:In G Z (jz v b::l) w)(a:Y.ownsRow 0 43 2 c (b.length+1) (b.flatMap hC++[.int .i64 x.1,.int .i64 x.2]))(e:(w.alloc o).grownBy Y v.ownBlock)(d:c.ownBlock=v.ownBlock\/c.ownBlock=ae (w.heap.size+1)):In G Z (jz c (b++[x])::l) Y:=by have:=h.vD a e d;unfold jz;rw[bK,eJ];exact this
def In.rowAt{E:az}{size n:Nat}{v:ak}{a:List ak}(h:In G Z (dR E size v n a::l) w):w.ownsRow 0 E size v n a:=h.sep.head.1
def In.sc(h:In G Z l w)(E:az)(size:Nat):In G Z (dR E size (.slice ah 0 0) 0 []::l) w:=h.add0 ⟨World.ownsRow_nil _ _ _ _,λk a=>by simp[fC]at a⟩
end
def lC:(Tryz.prog.info? 43).map (λi=>(i.zero,i.size,i.bytes))=ae (ae (.agg #[.int .i64 0,.int .i64 0]),2,16):=by kernel_rfl
def jy(p:Nat)(m:ja):bU where
 at_ w F:=jA m/\∃b,Sep [a8 p 175 #[.map (ae b)],wZ b m] w F
 frame h ho hd:=by obtain⟨a,b,c⟩:=h;exact⟨a,b,c.frame ho hd⟩
 cut h hd:=by obtain⟨a,b,c⟩:=h;exact⟨a,b,c.cut hd⟩
section
variable{G:Nat->Prop} {Z w:ai} {l:List bU} {p b:Nat} {m:ja}
def In.sd(h:In G Z (jy p m::l) w):jA m/\∃b,In G Z (a8 p 175 #[.map (ae b)]::wZ b m::l) w:=by obtain⟨⟨i,j,⟨hm,b,g⟩,a,c,d⟩,f⟩:=h;exact⟨hm,b,(Sep.join g a c).cut λk _ e=>d k e,f⟩
def In.oA(hm:jA m)(h:In G Z (a8 p 175 #[.map (ae b)]::wZ b m::l) w):In G Z (jy p m::l) w:=by obtain⟨j,i⟩:=h;obtain⟨a,c,d,e,f,g⟩:=Sep.part (l1:=[a8 p 175 #[.map (ae b)],wZ b m]) (l2:=l) j;exact⟨⟨a,c,⟨hm,b,d⟩,e,f,g⟩,i⟩
def In.R5(h:In G Z (jy p m::l) w):jA m:=h.sd.1
end
def pN(a:List Sys)(n i:Nat)(x:Int):List Int:=cj a i++x::bD (n-i-1) 0
def KU(a:List Sys)(n i:Nat)(h:i<n):cj a i++bD (n-i) 0=pN a n i 0:=by unfold pN;rw[show n-i=(n-i-1)+1 from by omega,List.replicate_succ];simp
def Sh(a:List Sys)(n i:Nat):pN a n i (gC a (cj a i) (a.getD i dv) i)=cj a (i+1)++bD (n-(i+1)) 0:=by unfold pN;rw[cj,List.append_assoc,show n-(i+1)=n-i-1 from by omega];rfl
def Sk(a:List Sys)(n i:Nat)(x y:Int):(pN a n i x).set i y=pN a n i y:=by unfold pN;rw[mM _ _ (by rw[eQ];omega),eQ,pI];rfl
def VA(a:List Sys)(n i:Nat)(x:Int):(ints (pN a n i x))[i]? =ae (.int .i64 x):=by rw[kg];simp[pN,List.getElem?_append,eQ]
def Sj(a:List Sys)(n i k:Nat)(x:Int)(b:k<i):(ints (pN a n i x))[k]? =ae (.int .i64 ((cj a i).getD k 0)):=by
 rw[kg];have:k<(cj a i).length:=by rw[eQ];exact b
 simp[pN,List.getElem?_append,eQ,b,bm,aq this]
def AZ{v:ak}{n m:Int}(h:n=m):Ending.returned (.tuple #[v,.int .i64 n])=.returned (.tuple #[v,.int .i64 m]):=by rw[h]
def I'(A:Option Addr)(c:Nat)(a:List Sys)(w:ai)(h:xY w w.heap.size A a)(hn:a.length<=maxLen):Calls aj 36 #[.slice A a.length c] w λe w'=>∃v,e=.returned (.tuple #[v,.int .i64 (ec a).2])/\om w' w.heap.size v (ec a).1/\Below w.heap.size w w':=by
 have H:=af h;have hnm:(a.length:Int)<=9223372036854775807:=by unfold maxLen at hn;omega
 clear h;go_enter func36,ntmps36;by_cases L:20<a.length
 ·have hd:(decide (20<(a.length:Int)))=ar:=by simp;omega
  have I:Hid (ec a=([],2)):=by unfold Hid ec;rw[if_pos L]
  go_wp2_with fail
  go_ret2
  exact⟨_,AZ (by rw[I.out]),by rw[I.out];exact om.nil _ _,Below.refl _ _⟩
 have hd:(decide (20<(a.length:Int)))=au:=by simp;omega
 go_wp2_with fail;go_loopw [16] (λi w'=>∃k:Nat,k<=a.length/\i=.int .i64 k/\(∀j,j<k->eP (a.getD j dv)=0)/\Below w.heap.size w w') (λi _=>a.length-(intOf i).toNat)
 case atStart=>exact⟨0,by omega,rfl,λj hj=>by omega,Below.refl _ _⟩
 case round=>
  obtain⟨k,hk,rfl,J,D⟩:=hrel;have l:=af J;have d:=af D;clear J D;by_cases z:k<a.length
  ·have G:(k:Int)<a.length:=by omega
   obtain⟨b,o,rfl,QN,f⟩:=(H.out.below d.out).at_ z;generalize T:a.getD k dv=s at *;have Q:=af T;clear T;go_upto_region 6 with(fail)
   refine b9 (λw'=>cD w' wr.heap.size 54 (ints s.list)/\Below wr.heap.size wr w') ⟨jU wr 54 [0,0,0,0,0,0,0] _ rfl,eU wr 54 [0,0,0,0,0,0,0] _⟩ ?_;rintro w1 ⟨UI,u⟩;have fs:row? w1 wr.heap.size 0 7=ae (ints s.list):=UI.bw rfl;have m:=af (d.out.trans (u.mono d.out.size));clear UI u;go_wp2_with fail;refine(OA s _).mono ?_;rintro e w2 ⟨rfl,x⟩;have q:=af (m.out.trans (x.mono m.out.size));clear x fs;by_cases F:eP s=0
   ·have HE:=af F;rw[F];clear F;go_wp2_with fail;go_roundw
    case rel=>refine⟨k+1,by omega,by go_num,λj hj=> ?_,q.out⟩;by_cases UG:j=k;rw[UG,Q.out];exact HE.out;exact l.out j (by omega)
    simp[intOf];omega
   have I:Hid (ec a=([],eP s)):=by
    have h1:il (a.map eP)=eP s:=by rw[<-Q.out];exact Ig z l.out (by rw[Q.out];exact F)
    unfold Hid ec;rw[if_neg L,h1,if_neg F]
   have O6:(eP s !=0)=ar:=by simpa using F
   clear F;generalize eP s=E at *;go_wp2_with fail
   go_ret2
   exact⟨_,AZ (by rw[I.out]),by rw[I.out];exact om.nil _ _,q.out⟩
  have Y:k=a.length:=by omega
  subst Y;have I:Hid (ec a=(cj a a.length,0)):=by unfold Hid ec;rw[if_neg L,if_pos (C1 l.out)]
  have hmk:∀W,(Instr.makeSlice 32 (.int .i64 (a.length:Int)) (.int .i64 (a.length:Int))).run aj W=.ok (.slice (ae ⟨W.heap.size,0,ah⟩) a.length a.length) (W.alloc (.cells (ints (bD a.length 0)) 3)):=Db a.length (by omega);go_upto_region 11 with(fail)
  refine b9 (λw'=>cD w' wr.heap.size 3 (ints (cj a 0++bD (a.length-0) 0))/\Below w.heap.size w w') ⟨cD.new _ _ _,d.out.alloc d.out.size _⟩ ?_;rintro w1 ⟨Z,u⟩;have X:w.heap.size<=wr.heap.size:=d.out.size;have O:=af Z;have m:=af u;clear Z u d l;generalize wr.heap.size=B at *;go_wp2_with fail;go_loopw [31] (λi w'=>∃k:Nat,k<=a.length/\i=.int .i64 k/\cD w' B 3 (ints (cj a k++bD (a.length-k) 0))/\Below w.heap.size w w') (λi _=>a.length-(intOf i).toNat)
  case atStart=>exact⟨0,by omega,rfl,O.out,m.out⟩
  clear O m;obtain⟨i,hi,rfl,M,D⟩:=hrel;have d:=af D;by_cases z:i<a.length
  ·rw[KU a _ i z]at M;have N:=af M;clear M D;have G:(i:Int)<a.length:=by omega
   obtain⟨b,o,rfl,QN,f⟩:=(H.out.below d.out).at_ z;generalize T:a.getD i dv=s at *;have Q:=af T;clear T;go_upto_region 14 with(fail)
   refine b9 (λw'=>cD w' wr.heap.size 54 (ints s.list)/\cD w' B 3 (ints (pN a a.length i 0))/\Below w.heap.size w w') ?_ ?_;have D:=eU wr 54 [0,0,0,0,0,0,0] s.list;exact⟨jU wr 54 [0,0,0,0,0,0,0] _ rfl,N.out.after D,d.out.trans (D.mono d.out.size)⟩;rintro w2 ⟨UJ,ho2,x⟩;have hg9:B<wr.heap.size:=N.out.lt;have R:=af UJ;have P:=af ho2;have q:=af x;clear UJ ho2 x N d f;generalize wr.heap.size=g9 at *;go_wp2_with fail;go_loopw [37] (λj w'=>∃k:Nat,k<=i/\j=.int .i64 k/\cD w' g9 54 (ints s.list)/\cD w' B 3 (ints (pN a a.length i (gC a (cj a i) s k)))/\Below w.heap.size w w') (λj _=>i-(intOf j).toNat)
   case atStart=>exact⟨0,by omega,rfl,R.out,P.out,q.out⟩
   clear R P q;obtain⟨k,hk,rfl,hs3,ho3,U⟩:=hrel;have K:=af hs3;have C:=af ho3;have r:=af U;clear hs3 ho3 U;by_cases G:k<i
   ·have hkI:(k:Int)<i:=by omega
    have Y:(k:Int)<a.length:=by omega
    obtain⟨b',o',F,adT,f⟩:=(H.out.below r.out).at_ (show k<a.length by omega);cases F;have hP:Hid (gC a (cj a i) s (k+1)=if gu s (a.getD k dv)then max (gC a (cj a i) s k) ((cj a i).getD k 0+1)else gC a (cj a i) s k):=rfl;generalize a.getD k dv=s2 at *;have c1:=λn:After wr=>n.row (n:=7) K.out rfl
    have c2:∀n:After wr,row? n.w b (o+k *7) 7=ae (ints s2.list):=λn=>(fT n.below (by have:=C.out.lt;omega) _ _).trans f
    go_upto_region 17 with(fail)
    refine bV (by kernel_rfl) (by kernel_rfl) ?_;repeat(go_big_quiet_step (first|(go_at_call 87;with_reducible exact fH (OC _ _ _))))
    refine wpQuiet_nil ?_;rintro _ ⟨n,rfl⟩;have V:Hid (Below w.heap.size w n.w):=r.out.trans (n.below.mono r.out.size);have S:=af (K.out.after n.below);have g:=af (C.out.after n.below);clear c1 c2 f K C r;have bnd:=zf a i k G;cases hC:gu s s2
    ·have t:gC a (cj a i) s (k+1)=gC a (cj a i) s k:=by rw[hP.out,hC];rfl
     rw[<-t]at g;clear hP t hC;go_wp2_with fail;go_roundw
     case rel=>exact⟨k+1,by omega,by go_num,S.out,g.out,V.out⟩
     simp[intOf];omega
    have t:gC a (cj a i) s (k+1)=max (gC a (cj a i) s k) ((cj a i).getD k 0+1):=by rw[hP.out,hC];rfl
    have k1:n.w.cell? ⟨B,i,ah⟩=ae (.int .i64 (gC a (cj a i) s k)):=by rw[g.out.cell];exact VA _ _ _ _
    have k2:n.w.cell? ⟨B,k,ah⟩=ae (.int .i64 ((cj a i).getD k 0)):=by rw[g.out.cell];exact Sj _ _ _ _ _ G
    have k3:n.w.frozen? ⟨B,i,ah⟩=au:=g.out.frozen i;have HOs:Hid (∀y,cD (n.w.setCell ⟨B,i,ah⟩ (.int .i64 y)) B 3 (ints (pN a a.length i y))):=λy=>by have:=g.out.set i (.int .i64 y);rwa[ints_set,Sk]at this
    have HP:=af t;clear hP t hC g;generalize hpk:(cj a i).getD k 0=pk at *;generalize YS:gC a (cj a i) s k=ac at *;have Zb:IntKind.i64.wrap (pk+1)=pk+1:=IntWalk.i64_in _ (by omega);go_upto_region 18 with(fail)
    go_still_tail 13,(by kernel_rfl)
    repeat still_step
    change wpList _ _ _ _ _ n.w.drew;go_wp2_with fail;go_roundw
    case rel=>exact⟨k+1,by omega,by go_num,(S.out.uW (by omega) _ _),by rw[HP.out];exact HOs.out _,(V.out.setCell (p:=⟨B,i,ah⟩) X _).drew⟩
    simp[intOf];omega
   have:k=i:=by omega
   subst this;go_wp2_with fail;go_roundw
   case rel=>refine⟨k+1,by omega,by go_num,?_,r.out⟩;have:=C.out;rwa[<-Q.out,Sh]at this
   simp[intOf];omega
  have:i=a.length:=by omega
  subst this;rw[pI,List.replicate_zero,eM]at M;have N:=af M;clear M D;go_wp2_with fail
  go_ret2
  refine⟨_,AZ (by rw[I.out]),?_,d.out⟩;rw[I.out];have:=om.Aw N.out X (by rw[eQ];exact hn);rwa[eQ]at this
end
namespace Rel
open Go.Conc Go.ConcN
open Go.ConcR (KK WgAt rd wr Payload DC0 stA smA Bk)
section
variable{P:aO} {main:Bool} {b:aY} {a:Act} {k:List Item} {Z:List aY} {Y:Array Oper} {i:Nat} {X:List Nat} {o:Oper} {f:bG} {fn:Func} {c:Code} {w:ai}
def og(f:bG)(a args:Array ak):Deferred:={target:=.fn (.func f) a,args:=args}
def Gi{u:ca}{args:Array ca}{d:Array az}{b:Array ak}(e:o.op=.call {callee:=.value u,args,argTypes:=d})(j:a.eval u=.func (.func f) #[] b)(i:P.funcs[f]? =ae fn)(c:(fn.name== "runtime.NumGoroutine")=au)(k:fn.body.isNone=au)(w:ai):(execOp a.eval o).run P w=.ok (.enter f (args.map a.eval++b)) w:=by
 have g:¬fn.name= "runtime.NumGoroutine" :=by simpa using c
 have h:¬fn.body=ah:=by cases l:fn.body<;>simp_all
 unfold execOp;simp[e,resolve,gS,invoke,callFunc,i,g,h,j]
def yJ{u:ca}{args:Array ca}{d:Array az}{c:Array ak}(e:o.op=.call {callee:=.value u,args,argTypes:=d})(j:a.eval u=.func (.func f) #[] c)(i:P.funcs[f]? =ae fn)(b:(fn.name== "runtime.NumGoroutine")=au)(k:fn.body.isNone=au)(w:ai):(execOp a.eval o).events P w #[]=#[]:=by
 have g:¬fn.name= "runtime.NumGoroutine" :=by simpa using b
 have h:¬fn.body=ah:=by cases l:fn.body<;>simp_all
 unfold execOp;simp[e,resolve,gS,invoke,callFunc,i,g,h,j]
def JM{u:ca}{args:Array ca}{j:Array az}{d:Array ak}(q:Y[i]? =ae o)(r:bj o (yielded Y a.tmps)=ar)(p:b.kind≠.early)(h:o.op=.call {callee:=.value u,args,argTypes:=j})(n:a.eval u=.func (.func f) #[] d)(l:P.funcs[f]? =ae fn)(e:(fn.name== "runtime.NumGoroutine")=au)(m:fn.body=ae c):stepG P main (G (b.at a (.inRegion Y (i::X)::k)) Z) w=.go (G ((base f).at {tmps:=(args.map a.eval++d)++dF (fn.ntmps-(args.map a.eval++d).size) undef,defers:=[]} [.code c]) (b.at a (.inRegion Y (i::X)::k)::Z)) w #[]:=by
 have g:fn.body.isNone=au:=by rw[m];rfl
 rw[stepG_enter q r p (Gi h n l e g w),enter_at _ l m];unfold listed;rw[yJ h n l e g w,seen_none]
def Gr{u:ca}{args:Array ca}{h:Array az}{c:Array ak}(l:Y[i]? =ae o)(q:bj o (yielded Y a.tmps)=ar)(p:b.kind≠.early)(e:o.op=.defer {callee:=.value u,args,argTypes:=h})(m:a.eval u=.func (.func f) #[] c)(r:b.roundOf=ah):stepG P main (G (b.at a (.inRegion Y (i::X)::k)) Z) w=.go (G (b.at (Act.put ⟨a.tmps,og f c (args.map a.eval)::a.defers⟩ o.dst undef) (.inRegion Y X::k)) Z) w #[]:=by
 have g:(execOp a.eval o).run P w=.ok (.defer (og f c (args.map a.eval))) w:=by unfold execOp;simp[e,resolve,gS,m,og]
 have n:(execOp a.eval o).events P w #[]=#[]:=by unfold execOp;simp[e,resolve,gS,m]
 have d:(b.at ⟨a.tmps,og f c (args.map a.eval)::a.defers⟩ (.inRegion Y (i::X)::k)).finish undef=b.at (Act.put ⟨a.tmps,og f c (args.map a.eval)::a.defers⟩ o.dst undef) (.inRegion Y X::k):=by rw[jr,l];rfl
 have j:(b.kind==CallKind.early)=au:=by simpa using p
 rw[stepG_oper l q,<-d];simp[stepG.apply,g,n,G,Frame.at,j,GStep.after,seen_none]
def Dg{e:List Item}{h:List Deferred}{d args:Array ak}(l:a.defers=og f d args::h)(j:P.funcs[f]? =ae fn)(g:(fn.name== "runtime.NumGoroutine")=au)(i:fn.body=ae c):stepG P main (G {b.at a e with mode:=.returning} Z) w=.go (G ((baseD f).at {tmps:=(args++d)++dF (fn.ntmps-(args++d).size) undef,defers:=[]} [.code c]) ({b.at ⟨a.tmps,h⟩ e with mode:=.returning}::Z)) w #[]:=by
 have k:¬fn.name= "runtime.NumGoroutine" :=by simpa using g
 rw[<-enter_atD (args++d) j i];simp[G,stepG,unwind,callDeferred,Frame.at,l,og,invoke,callFunc,j,k,i,GStep.after,seen_none]
def Hm(P:aO):aY:={(default:aY)with fn:=P.funcs.size,defers:=[],mode:=.panicking [goexitEntry]}
def Me{a args:Array ak}(e:P.funcs[f]? =ae fn)(b:(fn.name== "runtime.NumGoroutine")=au)(d:fn.body=ae c):stepG P main (born P (og f a args)) w=.go (G ((baseD f).at {tmps:=(args++a)++dF (fn.ntmps-(args++a).size) undef,defers:=[]} [.code c]) [Hm P]) w #[]:=by
 have g:¬fn.name= "runtime.NumGoroutine" :=by simpa using b
 rw[<-enter_atD (args++a) e d];simp[G,born,stepG,unwind,callDeferred,og,invoke,callFunc,e,g,d,GStep.after,seen_none,Hm,goexitEntry]
def yX{f:Array az}{g:aY}(j:Y[i]? =ae o)(q:bj o (yielded Y a.tmps)=ar)(h:b.kind=.deferred)(d:o.op=.call {callee:=.builtin .recover,args:=#[],argTypes:=f})(l:g.mode=.returning)(p:b.roundOf=ah):stepG P main (G (b.at a (.inRegion Y (i::X)::k)) (g::Z)) w=.go (G (b.at (a.put o.dst .nilIface) (.inRegion Y X::k)) (g::Z)) w #[]:=by
 have e:(execOp a.eval o).run P w=.ok .recover w:=by unfold execOp;simp[d,resolve,invoke,builtin]
 have m:(execOp a.eval o).events P w #[]=#[]:=by unfold execOp;simp[d,resolve,invoke,builtin]
 have c:(b.at a (.inRegion Y (i::X)::k)).finish .nilIface=b.at (a.put o.dst .nilIface) (.inRegion Y X::k):=by rw[jr,j];rfl
 have n:(b.kind==CallKind.early)=au:=by rw[h];rfl
 rw[stepG_oper j q,<-c];simp[stepG.apply,e,m,G,Frame.at,h,p,GStep.after,seen_none,tryRecover,l]
end
section
variable{P:aO} {b:aY} {a:Act} {Z:List Item} {F:Func}
def FW(e:b.kind=.deferred)(d:a.defers=[])(c:P.funcs[b.fn]? =ae F)(f:F.results=#[]):QuitsD P 2 0 (G {b.at a Z with mode:=.returning} [Hm P]):=by refine QuitsD.ctl (g':=G (Hm P) []) rfl (λw=> ?_) ?_;simp[G,stepG,unwind,doReturn,results,Frame.at,e,d,Hm,c,f,seen,GStep.after,goexitEntry];refine QuitsD.ctl (g':={G (Hm P) []with status:=.finished}) rfl (λw=> ?_) ⟨rfl,rfl⟩;simp[G,stepG,unwind,Hm,goexitEntry,Frame.catches];rfl
end
section
variable [Payload] {Z:Ph} {Y:Gh} {w:ai} {b:aY} {a:Act} {k:List Item} {X:List aY} {W:Array Oper} {i:Nat} {V:List Nat} {o:Oper} {x y:Code} {c:ca} {U:Nat}
def fM(O:Z.Ok)(h:Z.WT Y (G (b.at a (.code x::.code y::k)) X) w):Z.WT Y (G (b.at a (.code (.seq x y)::k)) X) w:=.ctl O rfl (λ_=>stepG_seq) h
def wW(O:Z.Ok)(h:Z.WT Y (G (b.at a k) X) w):Z.WT Y (G (b.at a (.code .skip::k)) X) w:=.ctl O rfl (λ_=>stepG_skip) h
def wV(O:Z.Ok)(h:Z.WT Y (G (b.at a (.code x::.inBlock U::k)) X) w):Z.WT Y (G (b.at a (.code (.block U x)::k)) X) w:=.ctl O rfl (λ_=>stepG_block) h
def BH(O:Z.Ok)(h:Z.WT Y (G (b.at a k) X) w):Z.WT Y (G (b.at a (.inBlock U::k)) X) w:=.ctl O rfl (λ_=>stepG_inBlock) h
def N5(O:Z.Ok)(h:Z.WT Y (G (b.at a (.code x::.inLoop x::k)) X) w):Z.WT Y (G (b.at a (.code (.loop x)::k)) X) w:=.ctl O rfl (λ_=>stepG_loop) h
def EP(O:Z.Ok)(h:Z.WT Y (G (b.at a (.code x::.inLoop x::k)) X) w):Z.WT Y (G (b.at a (.inLoop x::k)) X) w:=.ctl O rfl (λ_=>stepG_inLoop) h
def dV(O:Z.Ok)(h:Z.WT Y (G (b.at a (.inRegion W (a6 W.size)::k)) X) w):Z.WT Y (G (b.at a (.code (.region U W au)::k)) X) w:=.ctl O rfl (λ_=>stepG_region) h
def gG(O:Z.Ok)(h:Z.WT Y (G (b.at a k) X) w):Z.WT Y (G (b.at a (.inRegion W []::k)) X) w:=.ctl O rfl (λ_=>stepG_region_end) h
def tP(O:Z.Ok)(d:a.eval c=.bool ar)(h:Z.WT Y (G (b.at a (.code x::k)) X) w):Z.WT Y (G (b.at a (.code (.cond c x y)::k)) X) w:=.ctl O rfl (λ_=>stepG_cond d) h
def tO(O:Z.Ok)(d:a.eval c=.bool au)(h:Z.WT Y (G (b.at a (.code y::k)) X) w):Z.WT Y (G (b.at a (.code (.cond c x y)::k)) X) w:=.ctl O rfl (λ_=>stepG_cond d) h
def N4(O:Z.Ok){c:List Item}(d:exitTo U k=ae c)(h:Z.WT Y (G (b.at a c) X) w):Z.WT Y (G (b.at a (.code (.exit U)::k)) X) w:=.ctl O rfl (λ_=>stepG_exit d) h
def Ut(O:Z.Ok)(h:Z.WT Y (G {b.at a (.code .ret::k)with mode:=.returning} X) w):Z.WT Y (G (b.at a (.code .ret::k)) X) w:=.ctl O rfl (λ_=>stepG_ret') h
def zt(O:Z.Ok)(h:Z.WT Y (G {b.at a []with mode:=.returning} X) w):Z.WT Y (G (b.at a []) X) w:=.ctl O rfl (λ_=>stepG_end) h
def dY(O:Z.Ok)(v:ak)(m:W[i]? =ae o)(n:bj o (yielded W a.tmps)=ar)(l:b.kind≠.early)(d:∀c,Z.dQ Y w c->(execOp a.eval o).run Z.P c=.ok (.value v) c)(g:∀c,Z.dQ Y w c->(execOp a.eval o).events Z.P c #[]=#[])(h:Z.WT Y (G (b.at (a.put o.dst v) (.inRegion W V::k)) X) w):Z.WT Y (G (b.at a (.inRegion W (i::V)::k)) X) w:=.pure O v m n l d (λc f e j=>by rw[g c f]at j;simp at j) h
def lL(O:Z.Ok)(v:ak){ad:Addr}(n:W[i]? =ae o)(p:bj o (yielded W a.tmps)=ar)(j:b.kind≠.early)(m:Y.own ad.block\/Z.jB ad.block)(d:∀c,Z.dQ Y w c->(execOp a.eval o).run Z.P c=.ok (.value v) c)(g:∀c,Z.dQ Y w c->∀e∈(execOp a.eval o).events Z.P c #[],e=⟨.cell ad,au,au⟩)(h:Z.WT Y (G (b.at (a.put o.dst v) (.inRegion W V::k)) X) w):Z.WT Y (G (b.at a (.inRegion W (i::V)::k)) X) w:=.pure O v n p j d (λc f e l=>by rw[g c f e l];exact .inr ⟨rfl,ad.block,rfl,m.imp id λx=>.inr ⟨rfl,x⟩⟩) h
variable{f:bG} {T:Func} {z:Code}
def BG(O:Z.Ok){u:ca}{args:Array ca}{d:Array az}{caps:Array ak}(m:W[i]? =ae o)(p:bj o (yielded W a.tmps)=ar)(l:b.kind≠.early)(e:o.op=.call {callee:=.value u,args,argTypes:=d})(n:a.eval u=.func (.func f) #[] caps)(j:Z.P.funcs[f]? =ae T)(c:(T.name== "runtime.NumGoroutine")=au)(g:T.body=ae z)(h:Z.WT Y (G ((base f).at {tmps:=(args.map a.eval++caps)++dF (T.ntmps-(args.map a.eval++caps).size) undef,defers:=[]} [.code z]) (b.at a (.inRegion W (i::V)::k)::X)) w):Z.WT Y (G (b.at a (.inRegion W (i::V)::k)) X) w:=.ctl O rfl (λ_=>JM m p l e n j c g) h
def Qs(O:Z.Ok){u:ca}{args:Array ca}{d:Array az}{c:Array ak}(j:W[i]? =ae o)(n:bj o (yielded W a.tmps)=ar)(g:b.kind≠.early)(e:o.op=.defer {callee:=.value u,args,argTypes:=d})(m:a.eval u=.func (.func f) #[] c)(l:b.roundOf=ah)(h:Z.WT Y (G (b.at (Act.put ⟨a.tmps,og f c (args.map a.eval)::a.defers⟩ o.dst undef) (.inRegion W V::k)) X) w):Z.WT Y (G (b.at a (.inRegion W (i::V)::k)) X) w:=.ctl O rfl (λ_=>Gr j n g e m l) h
def Ms(O:Z.Ok){d:List Item}{g:List Deferred}{c args:Array ak}(j:a.defers=og f c args::g)(k:Z.P.funcs[f]? =ae T)(e:(T.name== "runtime.NumGoroutine")=au)(i:T.body=ae z)(h:Z.WT Y (G ((baseD f).at {tmps:=(args++c)++dF (T.ntmps-(args++c).size) undef,defers:=[]} [.code z]) ({b.at ⟨a.tmps,g⟩ d with mode:=.returning}::X)) w):Z.WT Y (G {b.at a d with mode:=.returning} X) w:=.ctl O rfl (λ_=>Dg j k e i) h
def Xb(O:Z.Ok){a args:Array ak}(d:Z.P.funcs[f]? =ae T)(b:(T.name== "runtime.NumGoroutine")=au)(c:T.body=ae z)(h:Z.WT Y (G ((baseD f).at {tmps:=(args++a)++dF (T.ntmps-(args++a).size) undef,defers:=[]} [.code z]) [Hm Z.P]) w):Z.WT Y (born Z.P (og f a args)) w:=.ctl O rfl (λ_=>Me d b c) h
def GG(O:Z.Ok){c:Array az}{d:aY}(j:W[i]? =ae o)(m:bj o (yielded W a.tmps)=ar)(g:b.kind=.deferred)(e:o.op=.call {callee:=.builtin .recover,args:=#[],argTypes:=c})(f:d.mode=.returning)(l:b.roundOf=ah)(h:Z.WT Y (G (b.at (a.put o.dst .nilIface) (.inRegion W V::k)) (d::X)) w):Z.WT Y (G (b.at a (.inRegion W (i::V)::k)) (d::X)) w:=.ctl O rfl (λ_=>yX j m g e f l) h
def Xd{t:az}{u:ca}(h:W[i]? =ae o)(s:bj o (yielded W a.tmps)=ar)(n:b.kind≠.early)(r:o.op=.recv t u ar)(y:a.eval u=.chan (ae Z.Ch))(x:∀w,(execOp a.eval o).run Z.P w=.ok (.comm #[rcase Z.Ch Z.z] ar (.recv ar)) w)(q:∀w,(execOp a.eval o).events Z.P w #[]=#[])(f:∀c p,Z.dQ Y w c->p<Z.nj->¬Y.held p->Z.J0 p c->Z.WT (Y.hold p) (G (b.at (a.put o.dst (.tuple #[Z.jv p,.bool ar])) (.inRegion W V::k)) X) c)(e:∀c,Z.dQ Y w c->Z.WT Y.close (G (b.at (a.put o.dst (.tuple #[Z.z,.bool au])) (.inRegion W V::k)) X) c):Z.WT Y (G (b.at a (.inRegion W (i::V)::k)) X) w:=by
 have d:∀v,Go.Conc.served (G (b.at a (.inRegion W (i::V)::k)) X) v=G (b.at (a.put o.dst v) (.inRegion W V::k)) X:=λv=>by unfold Go.Conc.served;show({frame:=(b.at a (.inRegion W (i::V)::k)).finish v,callers:=X,status:=.running,dying:=ah}:aw)=_;rw[jr,h];rfl
 refine .recv rfl (λc _=> ?_) (λc p g j l m=> ?_) λc g=> ?_
 rw[stepG_comm h s n (x c)];unfold listed;rw[q c,seen_none];unfold Ph.got;rw[d];exact f c p g j l m;unfold Ph.got;rw[d];exact e c g
end
end Rel
namespace Rel
open Go.Conc Go.ConcN Go.RowKit Go.Conc.Lib Go.ConcR.Gen Go.ConcN.Gen
open Go.ConcR (KK WgAt rd wr mk Payload DC0 stA smA wgBlock Aside2)
section
variable [Payload] {Z:Ph} {L:WgLink} {Y:Gh} {w:ai}
def aaK{P:aO}(H:WgLib P L){i l:Nat->Loc->Prop}{h C n g k:Nat}{val:ak}{d:aY}{c:Act}{a:Array Oper}{e:Nat}{b:List Nat}{f:List Item}{m:List aY}{qt:Nat}(p:QuitsD P qt 0 (G (d.at (c.put ((a[e]?).bind (·.dst)) (.tuple #[])) (.inRegion a b::f)) m))(w:ai)(j:WgLive L.tWg h w/\Has C (k-1) val w):Goes P au (RW L.tWg h C n g (k-1)) (DWs h i l C n k) (AtR0 P L.tWg h C n g k val) 23 (G ((base L.done).at ⟨#[.pointer (ae ⟨h,0,ah⟩),undef,undef,undef],[]⟩ [.code (body_done L)]) (d.at c (.inRegion a (e::b)::f)::m)) w:=by
 lib_facts
 have o:= @addNegN _ L P H i l h C n g k val;simp only[body_done,body_add,doneFn,addFn,bI]at o|-
 u_reg kn_rely j
 u_op kn_rely j
 u_in kn_rely j
 refine goes_call rfl rfl (by k_ne) rfl H.f_add (nm_add L) rfl ⟨by u_nil,?_⟩;walk_nrmf addFn;refine o (qt:=qt+3) ?_ _ j;refine QuitsD.ctl rfl (λ_=>stepG_region_end) ?_;refine QuitsD.ctl rfl (λ_=>stepG_end) ?_;exact QuitsD.leave0 rfl rfl H.f_done rfl p
def Xc(H:WgLib Z.P L)(j:Z.ty=L.tWg){C:Nat}{v:ak}{e:aY}{d:Act}{a:Array Oper}{f:Nat}{c:List Nat}{g:List Item}{l:List aY}{qt:Nat}(h:Y.over)(hC:Y.own C)(o:PayAt C 1 w)(q:Has C 0 v w)(m:WgLive Z.ty Z.Wg w)(n:∀i,Y.held i->Z.JP (λb=>Y.own b/\b≠C) i w)(p:QuitsD Z.P qt 0 (G (e.at (d.put ((a[f]?).bind (·.dst)) (.tuple #[])) (.inRegion a c::g)) l)):Z.WT Y (G ((base L.done).at ⟨#[.pointer (ae ⟨Z.Wg,0,ah⟩),undef,undef,undef],[]⟩ [.code (body_done L)]) (e.at d (.inRegion a (f::c)::g)::l)) w:=by refine .tail ⟨C,v,23,h,hC,n,o,?_⟩;rw[j]at m|-;exact aaK (k:=1) H p w ⟨m,q⟩
end
end Rel
namespace Rel
open Go.Conc Go.ConcN
open Go.ConcR (KK WgAt rd wr Payload DC0 stA smA Bk)
section
variable{P:aO}
def Az(V:Nat->Prop):Sub (only V):=λ_ _ h=>h.1
def ug{V:Nat->Prop}:Ren.Ok P (only V):=⟨λ_ _ _ h k=>h.1.symm.trans k.1,λ_ _ _ h k=>h.1.trans k.1.symm,λ_ _ h=>by rw[h.1]⟩
def bS.rj{S:gM}{V:Nat->Prop}{w c:ai}(h:bS P S (only V) w w)(g:w.heap.size<=c.heap.size)(e:∀b,V b->c.heap[b]? =w.heap[b]?)(f:∀a x,S.mem a=ae x->c.heap[a.block]? =w.heap[a.block]?):bS P S (only V) c c:=h.keeps (Az V) g (λb d=>e b d.2) f
def sub_eq{a:Ren}(s:Sub a):a=only (λr=>a r r):=by funext l r;exact propext ⟨λh=>⟨s _ _ h,(s _ _ h)▸h⟩,λh=>h.1▸h.2⟩
def wA{c:fg}(D:c.Fits P){V:Nat->Prop}{w:ai}(C:bS P c.sig (only V) w w){a:Act}{o:Oper}(u:∀t,c.kc t=.any)(v:oz c o.op=ar)(s:l9 c (only V) a.eval a.eval){x:Next}{b:ai}(g:(execOp a.eval o).run P w=.ok x b):∃k:Nat->Prop,(∀r,V r->k r)/\(∀r,k r->V r\/(w.heap.size<=r/\r<b.heap.size))/\bS P c.sig (only k) b b/\NQ c (only k) x x/\(∀r,r<w.heap.size->¬V r->b.heap[r]? =w.heap[r]?)/\w.heap.size<=b.heap.size/\b.tape=w.tape/\b.os=w.os/\b.output=w.output/\∀e∈(execOp a.eval o).events P w #[],wX c.sig (only k) e:=by
 have i:=(AL D ug s ⟨λ_=>⟨rfl,rfl⟩,λt _=>.inr ⟨rfl,by rw[u t];trivial⟩⟩ o v).run C #[] #[];have n:(execOp a.eval o).runT P w #[]=(.ok x b,(execOp a.eval o).events P w #[]):=by rw[Sem.runT_eq,g]
 rw[n]at i;obtain⟨_,_,p⟩:=i;obtain⟨y,J,H,I,e,q,m,j,d,_,f⟩:=p λ_ _ _=>rfl
 rw[n,iK]at q;simp only[Prod.mk.injEq,Result.ok.injEq]at q;obtain⟨⟨A,B⟩,p⟩:=q;subst A;subst B;have G:=(Az V).UA d rfl;rw[sub_eq G]at m j f;refine⟨λr=>y r r,λr g=>d.le _ _ ⟨rfl,g⟩,λr g=> ?_,j,m,λr g F=>d.rest r g λl z=>F (z.1▸z.2),d.size,d.tape,d.os,d.output,λe E=>f e (by rw[<-p];exact E)⟩;rcases d.new r r g with h|⟨h,_⟩;exact .inl h.2;exact .inr ⟨h,(j.lt (l:=r) (r:=r) ⟨rfl,g⟩).1⟩
end
section
variable [Payload] {Z:Ph} {Y:Gh} {w:ai} {b:aY} {a:Act} {k:List Item} {X:List aY} {W:Array Oper} {i:Nat} {U:List Nat} {o:Oper}
def Ir{c:fg}(k:∀a x,c.mem a=ae x->Z.jB a.block){V l:Nat->Prop}{w d:ai}{t:Array Event}(m:∀r,V r->Y.own r)(i:∀r,Y.own r->¬Z.CB r)(o:∀r,Z.CB r->r<w.heap.size)(n:∀r,l r->V r\/(w.heap.size<=r/\r<d.heap.size))(b:∀r,r<w.heap.size->¬V r->d.heap[r]? =w.heap[r]?)(q:w.heap.size<=d.heap.size)(v:d.tape=w.tape)(y:d.os=w.os)(z:d.output=w.output)(p:∀e∈t,wX c.sig (only l) e):Z.uP Y w d t:=by
 have f:∀r,Z.CB r->d.heap[r]? =w.heap[r]?:=λr g=>b r (o r g) λs=>i r (m r s) g
 refine⟨λr g B _=>b r g λs=>B (m r s),λC i _=> ?_,λr g=> ?_,q,v,y,z,λe A=> ?_⟩;unfold b3;rw[f _ i];unfold dp;rw[f _ g];have u:∀r,l r->(Y.grow w d).own r:=λr g=>(n r g).elim (λh=>.inl (m r h)) .inr
 cases p e A with|cell wr j=>exact .inr ⟨rfl,_,rfl,.inl (u _ (j.1▸j.2))⟩|obj wr j=>exact .inr ⟨rfl,_,rfl,.inl (u _ (j.1▸j.2))⟩|room=>exact .inl ⟨_,rfl,.inl rfl⟩|ext _=>exact .inl ⟨_,rfl,.inr ⟨_,rfl⟩⟩|old hm=>exact .inr ⟨rfl,_,rfl,.inr (.inr ⟨rfl,k _ _ hm⟩)⟩
def Mt{c:fg}(I:c.Fits Z.P){V:Nat->Prop}(H:∀r,V r->Y.own r)(E:∀r,Y.own r->¬Z.CB r)(F:∀r,Z.CB r->r<w.heap.size)(P:bS Z.P c.sig (only V) w w)(S:W[i]? =ae o)(T:bj o (yielded W a.tmps)=ar)(R:b.kind≠.early)(q:oz c o.op=ar)(n:l9 c (only V) a.eval a.eval)(Q:ai->ak->ai->Prop)(f:∀d,Z.dQ Y w d->∃v g,(execOp a.eval o).run Z.P d=.ok (.value v) g/\Q d v g)(K:∀d v g(m:Nat->Prop),Z.dQ Y w d->Q d v g->(∀r,V r->m r)->(∀r,m r->V r\/(d.heap.size<=r/\r<g.heap.size))->bS Z.P c.sig (only m) g g->bh c.sig (only m) v v->(∀r,r<d.heap.size->¬V r->g.heap[r]? =d.heap[r]?)->d.heap.size<=g.heap.size->Z.WT (Y.grow d g) (G (b.at (a.put o.dst v) (.inRegion W U::k)) X) g)(p:∀t,c.kc t=.any:=by intro t;rfl)(l:∀a x,c.mem a=ae x->Z.jB a.block:=by intro a x h;cases(show(ah:Option Int)=ae x from h)):Z.WT Y (G (b.at a (.inRegion W (i::U)::k)) X) w:=by
 classical
 let y:ai->ak:=λd=>if r:Z.dQ Y w d then(f d r).choose else undef
 let u:ai->ai:=λd=>if r:Z.dQ Y w d then(f d r).choose_spec.choose else d
 have e:∀d,Z.dQ Y w d->(execOp a.eval o).run Z.P d=.ok (.value (y d)) (u d)/\Q d (y d) (u d):=λd r=>by have:=(f d r).choose_spec.choose_spec;simp only[y,u,dif_pos r];exact this
 have j:∀d,Z.dQ Y w d->bS Z.P c.sig (only V) d d:=λd r=>P.rj r.size (λx s=>r.own x (H x s)) λa x s=>r.rd _ (l a x s)
 refine .op y u S T R (λd r=>(e d r).1) (λd r=> ?_) λd r=> ?_
 obtain⟨m,_,A,_,_,C,D,M,N,O,z⟩:=wA I (j d r) p q n (e d r).1;exact Ir l H E (λx s=>aW (F x s) r.size) A C D M N O z;obtain⟨m,J,A,L,B,C,D,_⟩:=wA I (j d r) p q n (e d r).1;cases B with|value B=>exact K d _ _ m r (e d r).2 J A L B C D
def Xe{c:fg}(C:c.Fits Z.P){V:Nat->Prop}(B:∀r,V r->Y.own r)(z:∀r,Y.own r->¬Z.CB r)(A:∀r,Z.CB r->r<w.heap.size)(J:bS Z.P c.sig (only V) w w)(M:W[i]? =ae o)(N:bj o (yielded W a.tmps)=ar)(L:b.kind≠.early)(n:oz c o.op=ar)(l:l9 c (only V) a.eval a.eval)(u:ai->ai)(e:∀d,Z.dQ Y w d->(execOp a.eval o).run Z.P d=.ok .skip (u d))(K:∀d(j:Nat->Prop),Z.dQ Y w d->(∀r,V r->j r)->(∀r,j r->V r\/(d.heap.size<=r/\r<(u d).heap.size))->bS Z.P c.sig (only j) (u d) (u d)->(∀r,r<d.heap.size->¬V r->(u d).heap[r]? =d.heap[r]?)->d.heap.size<=(u d).heap.size->Z.WT (Y.grow d (u d)) (G (b.at (a.put o.dst undef) (.inRegion W U::k)) X) (u d))(m:∀t,c.kc t=.any:=by intro t;rfl)(g:∀a x,c.mem a=ae x->Z.jB a.block:=by intro a x h;cases(show(ah:Option Int)=ae x from h)):Z.WT Y (G (b.at a (.inRegion W (i::U)::k)) X) w:=by
 have f:∀d,Z.dQ Y w d->bS Z.P c.sig (only V) d d:=λd r=>J.rj r.size (λx p=>r.own x (B x p)) λa x p=>r.rd _ (g a x p)
 refine .opN u M N L e (λd r=> ?_) λd r=> ?_
 obtain⟨j,_,s,_,_,v,y,F,H,I,q⟩:=wA C (f d r) m n l (e d r);exact Ir g B z (λx p=>aW (A x p) r.size) s v y F H I q;obtain⟨j,D,s,E,_,v,y,_⟩:=wA C (f d r) m n l (e d r);exact K d j r D s E v y
def SV(U:List Tmp):List Tmp:=(a6 128).filter λt=> !U.contains t
def Fi{c:fg}{d:Ren}{U:List Tmp}{a:Act}(m:c.bad=SV U)(i:a.tmps.size<=128)(h:∀t∈U,bh c.sig d (a.tmps.getD t undef) (a.tmps.getD t undef)):l9 c d a.eval a.eval:=by
 intro o b;cases o with
 |tmp t=>
  have k:t∉c.bad:=by simpa[ed]using b
  rw[m]at k;show bh c.sig d (a.tmps.getD t undef) (a.tmps.getD t undef);by_cases j:t<128;by_cases l:t∈U;exact h t l;exact absurd (cc.2 ⟨gm.2 j,by simpa using l⟩) k;have e:128<=t:=Nat.le_of_not_lt j;have:a.tmps.getD t undef=undef:=by rw[aV,Array.getElem?_eq_none (be i e)];rfl
  rw[this];exact .tuple rfl (by simp)
 |const v=>exact tX 4 v b d|global g=>cases b|func f=>exact .func (.func b) rfl (by simp) rfl (by simp)
end
end Rel
namespace Rel
open Go.Conc
variable{P:aO}
def qO(a:Addr):∀(n i:Nat)(acc:Array ak)(w:ai)(c:Array Event),(∀j,j<n->(w.cell? (a.add (i+j))).isSome)->∀b∈(loadCellsFrom a i n acc).events P w c,b∈c\/∃e:Addr,b=⟨.cell e,au,au⟩/\e.block=a.block
 |0,_,_,_,_,_=>λb h=>.inl (by simpa[loadCellsFrom]using h)|n+1,i,acc,w,c,hc=>λb h=>by
  simp only[loadCellsFrom,Sem.events_bind]at h;obtain⟨u,d⟩:=Option.isSome_iff_exists.1 (hc 0 (by omega));simp only[kq]at d;have f:(load (a.add i)).run P w=.ok u w:=by simp[d]
  rw[f]at h;rcases qO a n (i+1) (acc.push u) w _ (λj g=>by have:=hc (j+1) (by omega);rwa[show i+(j+1)=i+1+j by omega]at this) b h with h|h;rw[events_load,d]at h;rcases Array.mem_push.1 h with h|rfl;exact .inl h;exact .inr ⟨a.add i,rfl,by unfold Addr.add;split<;>rfl⟩;exact .inr h
def OO{t:az}{g o n:Nat}{w:ai}(c:∀w,(isAgg t).run P w=.ok ar w)(b:∀w a,(isAgg t).events P w a=a)(f:∀w,(sizeOf t).run P w=.ok n w)(d:∀w a,(sizeOf t).events P w a=a)(l:∀j,j<n->(w.cell? ⟨g,o+j,ah⟩).isSome):∀e∈(dN t (.pointer (ae ⟨g,o,ah⟩))).events P w #[],∃i:Addr,e=⟨.cell i,au,au⟩/\i.block=g:=by
 intro e k;have h:(dN t (.pointer (ae ⟨g,o,ah⟩))).events P w #[]=(loadCells ⟨g,o,ah⟩ n).events P w #[]:=by simp[dN,Instr.sureAddr,loadVar,c,b,f,d]
 rw[h]at k;rcases qO ⟨g,o,ah⟩ n 0 #[] w #[] (λj m=>by have:=l j m;rw[aZ,show(⟨g,o,ah⟩:Addr).add j=⟨g,o+j,ah⟩from by unfold Addr.add;split<;>simp_all];exact this) e k with h|h;simp at h;exact h
def mo{t:az}{g o n:Nat}{w:ai}{f:Array Field}(c:P.underlying t=ae (.struct f))(l:(P.info? t).map (·.size)=ae n)(k:∀j,j<n->(w.cell? ⟨g,o+j,ah⟩).isSome):∀e∈(dN t (.pointer (ae ⟨g,o,ah⟩))).events P w #[],∃a:Addr,e=⟨.cell a,au,au⟩/\a.block=g:=by obtain⟨i,b,h⟩:=aF.1 l;refine OO (n:=n) (λw=> ?_) (λw d=> ?_) (λw=> ?_) (λw d=> ?_) k;simp[isAgg,Go.underlying,c];simp[isAgg,Go.underlying,c];simp[sizeOf,typeInfo,b,h];simp[sizeOf,typeInfo,b]
end Rel
namespace Rel
open Go.Conc Go.ConcN
open Go.ConcR (KK WgAt rd wr Payload DC0 stA smA Bk)
def Ro{a:Type}:Sem a->Prop
 |.pure _=>True|.load _ _ k=>∀v,Ro (k v)
 |.program k=>∀p,Ro (k p)
 |.halt _=>True|_=>False
def Ro.bind{c e:Type}{s:Sem c}(h:Ro s){f:c->Sem e}(d:∀a,Ro (f a)):Ro (s.bind f):=by
 induction s with|pure a=>exact d a|load m a k b=>exact λv=>b v (h v)|program k b=>exact λp=>b p (h p)|halt=>exact trivial|_=>exact h.elim
def Ro.bind'{b d:Type}{s:Sem b}(h:Ro s){f:b->Sem d}(c:∀a,Ro (f a)):Ro (s >>= f):=h.bind c
def Ro.run{P:aO}{e:Type}{s:Sem e}(h:Ro s){w d:ai}{v:e}(b:s.run P w=.ok v d):d=w:=by
 induction s with|pure a=>cases b;rfl|load m a k c=>simp only[Sem.run]at b;split at b;exact c _ (h _) b;split at b;exact c _ (h _) b;cases b|program k c=>exact c _ (h _) b|halt=>cases b|_=>exact h.elim
def zi{b:Type}(a:b):Ro (pure a:Sem b):=trivial
def Jv(t:az):Ro (typeInfo t):=by unfold typeInfo;intro p;show Ro ((match p.info? t with|some i=>Sem.pure i|none=>stuck "no such type" :Sem TypeInfo));split<;>exact trivial
def Da(t:az):Ro (underlying t):=by unfold underlying;intro p;show Ro ((match p.underlying t with|some d=>Sem.pure d|none=>stuck "no such type" :Sem TypeDesc));split<;>exact trivial
def TL(a:Addr):∀(n i:Nat)(acc:Array ak),Ro (loadCellsFrom a i n acc):=by
 intro n
 induction n with|zero=>intro i acc;exact trivial|succ n b=>intro i acc v;exact b _ _
def LW(t:az)(a:Addr):Ro (loadVar t a):=by
 unfold loadVar isAgg;refine Ro.bind' (Ro.bind' (Da t) λd=> ?_) λb=> ?_
 split<;>exact trivial;split;exact Ro.bind' (Ro.bind' (Jv t) λ_=>zi _) λn=>Ro.bind' (TL a _ _ _) λ_=>zi _
 exact λv=>trivial
def P1(v:ak):Ro (asAddr v):=by
 unfold asAddr;split;exact trivial;exact λp=>trivial
 exact trivial
def A8(F:Func)(t:Array ak):Ro (results F t):=by
 unfold results;refine Ro.bind' ?_ λvs=> ?_
 rw[Array.mapM_eq_mapM_toList];generalize F.results.toList=l;refine Ro.bind' ?_ λ_=>zi _
 induction l with
 |nil=>exact trivial|cons a l d=>
  rw[List.mapM_cons];refine Ro.bind' ?_ λb=>Ro.bind' d λc=>zi _
  cases a with|tmp t=>exact trivial|cell a t=>exact Ro.bind' (P1 _) λ_=>LW _ _
 split<;>exact trivial
def Jt{P:aO}{c:fg}{n:Ren}{L R:ai}(f:bS P c.sig n L R){F:Func}{p s:Array ak}(j:c.bad=[])(H:qc c n p s){v:ak}{g:Tape}{d:Nat}(G:(results F p).run P (cL L g d)=.ok v (cL L g d)):∃a m o,(results F s).runT P R #[]=(.ok m R,o)/\bh c.sig a v m/\∀e∈o,wX c.sig n e:=by
 have z:bS P c.sig n (cL L g d) R:=⟨f.ok,f.obj,f.kr,f.mR,f.old⟩;have b:=(si f.ok F (xv j F) H).run z #[] #[];have y:(results F p).runT P (cL L g d) #[]=(.ok v (cL L g d),(results F p).events P (cL L g d) #[]):=by rw[Sem.runT_eq,G]
 rw[y]at b;obtain⟨_,_,C⟩:=b;obtain⟨a,m,B,o,e,t,I,A,D,E,w⟩:=C λi q K=>by omega
 rw[iK]at t;have u:(results F s).run P R=.ok m B:=by have:=t;rw[Sem.runT_eq]at this;exact(Prod.mk.inj this).1
 obtain rfl:=(A8 F s).run u;have k:∀l r,a l r->n l r:=λl r h=>(D.new l r h).elim id λx=>by have:=(A.lt h).2;omega
 refine⟨a,m,o,t,I,λx J=> ?_⟩;cases w x J with|cell wr j=>exact .cell wr (k _ _ j)|obj wr j=>exact .obj wr (k _ _ j)|room=>exact .room|ext h=>exact .ext h|old h=>exact .old h
section
variable [Payload] {Z:Ph} {γ:Gh} {w:ai} {b:aY} {a:Act} {k:List Item} {Y:List aY} {X:Array Oper} {i:Nat} {W:List Nat} {o:Oper}
def Ph.WT.abb(O:Z.Ok){c:fg}(hc:c.Fits Z.P){f:bG}{args:Array ca}{ats:Array az}{R:Ending->ai->Prop}{St:Nat->Prop}{F:Func}{x:Code}(ho:X[i]? =ae o)(hw:bj o (yielded X a.tmps)=ar)(N:b.kind≠.early)(hop:o.op=.call {callee:=.value (.func f),args,argTypes:=ats})(hf:c.fn f=ar)(hbd:c.bd f=[])(hF:Z.P.funcs[f]? =ae F)(t:(F.name== "runtime.NumGoroutine")=au)(q:F.body=ae x)(C:∀v∈args.map a.eval,sQ c.sig v)(hg:Z.P.globals.size<=w.heap.size)(D:∀tp d,Calls Z.P f (args.map a.eval) (cL w tp d) R)(hR:∀e L,R e L->∃v,e=.returned v/\Plain c.sig v)(hcb:∀r,γ.own r->¬Z.CB r)(Ss:∀r,Z.CB r->r<w.heap.size)(hrd:∀r,Z.jB r->r<w.heap.size/\¬γ.own r)(Cx:∀r,St r->γ.own r/\r<w.heap.size)(YR:Z.Wg<w.heap.size/\¬γ.own Z.Wg)(K:∀v L(n:Gh) H,R (.returned v) L->(∀r,γ.own r->n.own r)->n.held=γ.held->n.over=γ.over->(∀r,n.own r->γ.own r\/(w.heap.size<=r/\r<H.heap.size))->Kept Z γ St w H->Z.WT n (G (b.at (a.put o.dst v) (.inRegion X W::k)) Y) H)(p:∀a x,c.mem a=ae x->Z.jB a.block/\w.cell? a=ae (.int .i64 x):=by intro a x h;cases(show(ah:Option Int)=ae x from h)):Z.WT γ (G (b.at a (.inRegion X (i::W)::k)) Y) w:=by
 have P:F.body.isNone=au:=by rw[q];rfl
 refine .enter O ho hw N (λ_=>run_call_body hop hF t P) (λw=>events_call_body hop hF t P _) ?_;have ha:∀I,cz c.sig I (args.map a.eval) (args.map a.eval):=λI=>⟨rfl,λj u v hu hv=>by rw[hu]at hv;obtain rfl:=aX hv;exact C u (Array.mem_of_getElem? hu) I⟩
 have h0:bS Z.P c.sig (λ_ _=>False) w w:=⟨⟨λ_ _ _ h=>h.elim,λ_ _ _ h=>h.elim,λ_ _ h=>h.elim⟩,λ_ _ h=>h.elim,hg,hg,λa x q=>⟨λ_ h=>h,λ_ h=>h,(p a x q).2,(p a x q).2⟩⟩;have hT:=qx hc hf (R:=R) (λ_ _ h=>h.elim) h0 (.of (ha _)) (λe L h=>let⟨v,e,_⟩:=hR e L h;⟨v,e⟩) D;refine Ph.WT.tree O (hc.at f) (St:=St) (w0:=w) (γ:=γ) (bot:=b.at a (.inRegion X (i::W)::k)::Y) YR (λa x q=>(p a x q).1) ?_ hT _ w γ _ ⟨rfl,rfl,.one (qa.enter hc hf (.of (ha (λ_ _=>False)))) rfl⟩ h0 (λ_ _ h=>h.elim) (λ_ h=>h) rfl rfl hcb Ss hrd (λr hr=>⟨(Cx r hr).1,(Cx r hr).2,λ_ h=>h⟩) (λ_ h=>.inl h) (.refl _ _ _ _);intro gL L g H n I hH Sx z h1 h2 h3 h4 h6 h5;obtain⟨Q,V,v,t',d',hr,hm,hd,hk,F',M,rZ⟩:=hH;obtain⟨e1,e2,B⟩:=Sx;rw[Q]at B;obtain⟨hFr,S,hro⟩:=vp B;obtain⟨f1,f2,f3,f4,f5,f6,f7,f8,f9,_,_⟩:=hFr;rw[V,hF]at M;obtain rfl:=aX M;obtain⟨v2,ev2,QO⟩:=hR _ _ hr;obtain rfl:v=v2:=by injection ev2
 have adb:∀m,Z.dQ n H m->∃J,(results F g.frame.tmps).runT Z.P m #[]=(.ok v m,J)/\∀e∈J,wX c.sig I e:=λm r=>by
  have VR:bS Z.P c.sig I L m:=⟨z.ok,λl x q=>by obtain⟨o,o',e1,e2,e3⟩:=z.obj l x q;exact⟨o,o',e1,(r.own x (h1 l x q)).trans e2,e3⟩,z.kr,be z.mR r.size,λa x q=>by obtain⟨g1,g2,g3,g4⟩:=z.old a x q;exact⟨g1,g2,g3,(iW (r.rd _ (p a x q).1)).trans g4⟩⟩
  obtain⟨Kl,v',J,A,hv,E⟩:=Jt (c:=c.at f) VR hbd f2 rZ;obtain rfl:=QO.2 Kl _ hv;exact⟨J,A,E⟩
 have s:g.frame.mode=.returning:=f5.trans hm;have T:g.frame.defers=[]:=by rw[hd]at f4;generalize g.frame.defers=y at f4;cases f4;rfl
 have U:(b.at a (.inRegion X (i::W)::k)).finish v=b.at (a.put o.dst v) (.inRegion X W::k):=by rw[jr,ho];rfl
 have hgf:g.frame.fn=f:=f1.trans V;refine .step (λ_=>G (b.at (a.put o.dst v) (.inRegion X W::k)) Y) id (λm=>seen Z.P g.frame.fn ((results F g.frame.tmps).runT Z.P m #[]).2++#[]) (by rw[e2]) (λm r=> ?_) λm r=> ?_
 obtain⟨J,A,E⟩:=adb m r;refine⟨?_,tZ λe he=> ?_⟩;rw[e2,S,fS au g.frame _ _ (by rw[s];simp),kW au g.frame _ _ T s,hgf,hF];simp only[phase,A];have:doReturn Z.P au g.frame (b.at a (.inRegion X (i::W)::k)::Y) ah v m=.go (jd ((b.at a (.inRegion X (i::W)::k)).finish v) Y) m #[]:=by unfold doReturn;simp only[f8]
 rw[this,U];rfl;rw[A,Array.append_empty]at he;cases E e (iT _ _ e he)with|cell wr N=>exact .inr ⟨rfl,_,rfl,.inl (h1 _ _ N)⟩|obj wr N=>exact .inr ⟨rfl,_,rfl,.inl (h1 _ _ N)⟩|room=>exact .inl ⟨_,rfl,.inl rfl⟩|ext _=>exact .inl ⟨_,rfl,.inr ⟨_,rfl⟩⟩|old hm=>exact .inr ⟨rfl,_,rfl,.inr (.inr ⟨rfl,(p _ _ hm).1⟩)⟩
 show Z.WT (n.grow m m) _ m;rw[Gh.oD];exact(K v _ n H hr h2 h3 h4 h6 h5).rely O r
end
end Rel
namespace Rel
open Go.Conc Go.ConcN
section
variable{P:aO} {S:gM} {Z:Ren}
def CZ(Z:Ren):Nat->Prop:=λl=>∃r,Z l r
def zO{l r:Nat}(h:Z l r):only (CZ Z) l l:=⟨rfl,r,h⟩
def dt.left{a b:Addr}(h:dt Z a b):dt (only (CZ Z)) a a:=⟨zO h.block,rfl,rfl⟩
def GN.left:∀{a b:Fn},GN S Z a b->GN S (only (CZ Z)) a a|_,_,.func s=>.func s|_,_,.yield x=>.yield (zO x)
def vE{d:ak->ak->Prop}{x y:Array ak}(g:x.size=y.size)(h:∀(i:Nat) a b,x[i]? =ae a->y[i]? =ae b->d a a):∀(i:Nat) a b,x[i]? =ae a->x[i]? =ae b->d a b:=λi a b c e=>by
 rw[c]at e;cases e;have f:i<y.size:=by rw[<-g];exact(aE.1 c).1
 exact h i a _ c (aH f)
def bh.left{v g:ak}(x:bh S Z v g):bh S (only (CZ Z)) v v:=by
 induction x with|bool=>exact .bool _|int=>exact .int _ _|string=>exact .string _|eF=>exact .eF|pointer x=>exact .pointer x.left|fl=>exact .fl _ _|slice l c x=>exact .slice _ _ x.left|r8=>exact .r8|map x=>exact .map (zO x)|oT=>exact .oT|func f d _ e _ a b=>exact .func f.left rfl (vE d a) rfl (vE e b)|nilFunc=>exact .nilFunc|iface t _ i=>exact .iface _ i|nilIface=>exact .nilIface|agg s _ i=>exact .agg rfl (vE s i)|tuple s _ i=>exact .tuple rfl (vE s i)
def fO.left{d:Type}{R e:d->d->Prop}{x y:Array d}(h:fO R x y)(k:∀a b,R a b->e a a):fO e x x:=⟨rfl,λi a b f g=>by rw[f]at g;cases g;obtain⟨c,_,j⟩:=h.get f;exact k _ _ j⟩
def cz.left{x y:Array ak}(h:cz S Z x y):cz S (only (CZ Z)) x x:=fO.left h λ_ _ k=>k.left
def ic.left:∀{o e:Obj},ic S Z o e->ic S (only (CZ Z)) o o|_,_,.loop x=>.loop ⟨rfl,rfl,x.okP,rfl,cz.left x.tmps,rfl,rfl,x.Zt,rfl,x.okB,zO x.defers⟩|_,_,.number l x=>.number l x.left|_,_,.deferred b=>.deferred b|_,_,.cells t d x=>.cells t d (cz.left x)|_,_,.map k x=>.map k (fO.left x λ_ _ y=>⟨y.key.left,y.val.left,rfl⟩)|_,_,.stringIter s p=>.stringIter s p|_,_,.mapIter a b c x=>.mapIter a b c (by cases x with|none=>exact .none|some h=>exact .some (zO h))
def bS.left{L w:ai}(h:bS P S Z L w):bS P S (only (CZ Z)) L L:=by refine⟨ug,λl r c=> ?_,h.kr,h.kr,λa x k=> ?_⟩;obtain⟨rfl,r,b⟩:=c;obtain⟨o,p,d,_,i⟩:=h.obj l r b;exact⟨o,o,d,d,i.left⟩;obtain⟨f,m,g,n⟩:=h.old a x k;exact⟨λr b=>f _ b.2.choose_spec,λl j=>by obtain⟨e,r,b⟩:=j;rw[e]at b;exact f _ b,g,g⟩
end
section
variable{P:aO} {S:gM} {Z:Ren}
def Gy(Z:Ren):Ren:=λa b=>Z b a
def dt.symm{a b:Addr}(h:dt Z a b):dt (Gy Z) b a:=⟨h.block,h.off.symm,h.spot.symm⟩
def GN.symm:∀{a b:Fn},GN S Z a b->GN S (Gy Z) b a|_,_,.func s=>.func s|_,_,.yield x=>.yield x
def bh.symm{v g:ak}(x:bh S Z v g):bh S (Gy Z) g v:=by
 induction x with|bool=>exact .bool _|int=>exact .int _ _|string=>exact .string _|eF=>exact .eF|pointer x=>exact .pointer x.symm|fl=>exact .fl _ _|slice l c x=>exact .slice _ _ x.symm|r8=>exact .r8|map x=>exact .map x|oT=>exact .oT|func f m _ n _ h k=>exact .func f.symm m.symm (λi a b d e=>h i b a e d) n.symm λi a b d e=>k i b a e d|nilFunc=>exact .nilFunc|iface t _ i=>exact .iface _ i|nilIface=>exact .nilIface|agg s _ i=>exact .agg s.symm λj a b d e=>i j b a e d|tuple s _ i=>exact .tuple s.symm λj a b d e=>i j b a e d
def fO.symm{c d:Type}{R:c->d->Prop}{e:d->c->Prop}{x:Array c}{y:Array d}(h:fO R x y)(k:∀a b,R a b->e b a):fO e y x:=⟨h.size.symm,λi a b f g=>k _ _ (h.at_ i b a g f)⟩
def ic.symm:∀{o d:Obj},ic S Z o d->ic S (Gy Z) d o|_,_,.loop x=>.loop ⟨x.state.symm,x.pending.symm,λc h=>x.okP c (x.pending▸h),x.fn.symm,fO.symm x.tmps λ_ _ h=>h.symm,x.params.symm,x.assign.symm,x.assign▸x.Zt,x.body.symm,x.body▸x.okB,x.defers⟩|_,_,.number l x=>.number l x.symm|_,_,.deferred b=>.deferred b|_,_,.cells t e x=>.cells t e (fO.symm x λ_ _ h=>h.symm)|_,_,.map k x=>.map k (fO.symm x λ_ _ y=>⟨y.key.symm,y.val.symm,y.born.symm⟩)|_,_,.stringIter s p=>.stringIter s p|_,_,.mapIter a b c x=>.mapIter a b c (by cases x with|none=>exact .none|some h=>exact .some h)
def bS.symm{L w:ai}(h:bS P S Z L w):bS P S (Gy Z) w L:=⟨⟨λa b c x y=>h.ok.inj b c a x y,λa b c x y=>h.ok.fn c a b x y,λa b x=>(h.ok.OV b a x).symm⟩,λl r x=>by obtain⟨o,n,d,e,f⟩:=h.obj r l x;exact⟨n,o,e,d,f.symm⟩,h.mR,h.kr,λa x m=>by obtain⟨g,i,j,k⟩:=h.old a x m;exact⟨i,g,k,j⟩⟩
abbrev Yw(Z:Ren):Nat->Prop:=CZ (Gy Z)
def bS.right{L w:ai}(h:bS P S Z L w):bS P S (only (Yw Z)) w w:=h.symm.left
def bh.right{v a:ak}(x:bh S Z v a):bh S (only (Yw Z)) a a:=x.symm.left
end
end Rel
namespace Rel
open Go.Conc Go.ConcN
open Go.ConcR (KK WgAt rd wr Payload DC0 stA smA Bk)
def Gd{P:aO}{c:fg}{j:Ren}{L R:ai}(d:bS P c.sig j L R){F:Func}{n o:Array ak}(D:F.results.toList.all (oc c.bad)=ar)(I:qc c j n o){v:ak}{g:Tape}{f:Nat}(H:(results F n).run P (cL L g f)=.ok v (cL L g f)):∃k m,(results F o).runT P R #[]=(.ok k R,m)/\bh c.sig j v k/\∀e∈m,wX c.sig j e:=by
 have y:bS P c.sig j (cL L g f) R:=⟨d.ok,d.obj,d.kr,d.mR,d.old⟩;have a:=(si d.ok F D I).run y #[] #[];have w:(results F n).runT P (cL L g f) #[]=(.ok v (cL L g f),(results F n).events P (cL L g f) #[]):=by rw[Sem.runT_eq,H]
 rw[w]at a;obtain⟨_,_,C⟩:=a;obtain⟨A,k,B,m,e,p,J,z,E,G,u⟩:=C λi q M=>by omega
 rw[iK]at p;have s:(results F o).run P R=.ok k B:=by have:=p;rw[Sem.runT_eq]at this;exact(Prod.mk.inj this).1
 obtain rfl:=(A8 F o).run s;have b:∀l r,A l r->j l r:=λl r h=>(E.new l r h).elim id λx=>by have:=(z.lt h).2;omega
 refine⟨k,m,p,J.mono (P:=P) ⟨b,d.ok⟩,λx K=> ?_⟩;cases u x K with|cell wr t=>exact .cell wr (b _ _ t)|obj wr t=>exact .obj wr (b _ _ t)|room=>exact .room|ext h=>exact .ext h|old h=>exact .old h
section
variable [Payload] {Z:Ph} {γ:Gh} {w:ai} {b:aY} {a:Act} {k:List Item} {Y:List aY} {X:Array Oper} {i:Nat} {W:List Nat} {o:Oper}
def Ph.WT.abz(O:Z.Ok){π0:Ren}{c:fg}(hc:c.Fits Z.P){H:aw->ai->Prop}{bot:List aY}{St:Nat->Prop}{w0:ai}(YR:Z.Wg<w0.heap.size/\¬γ.own Z.Wg)(D:∀a x,c.mem a=ae x->Z.jB a.block)(K:∀(G:aw)(L:ai)(g:aw)(w:ai)(f:Gh)(n:Ren),H G L->GR c [] [] [eX] bot n G g->bS Z.P c.sig n L w->(∀l r,n l r->f.own r)->(∀r,γ.own r->f.own r)->f.held=γ.held->f.over=γ.over->(∀r,f.own r->γ.own r\/(w0.heap.size<=r/\r<w.heap.size))->Kept Z γ St w0 w->(∀l r,π0 l r->n l r)->(∀r,St r->∀l,¬n l r)->Z.WT f g w):∀{G:aw}{L:ai},LT Z.P [] H G L->∀(g:aw)(w:ai)(f:Gh)(n:Ren),GR c [] [] [eX] bot n G g->bS Z.P c.sig n L w->(∀l r,n l r->f.own r)->(∀r,γ.own r->f.own r)->f.held=γ.held->f.over=γ.over->(∀r,f.own r->¬Z.CB r)->(∀r,Z.CB r->r<w.heap.size)->(∀r,Z.jB r->r<w.heap.size/\¬f.own r)->(∀r,St r->f.own r/\r<w.heap.size/\∀l,¬n l r)->(∀r,f.own r->γ.own r\/(w0.heap.size<=r/\r<w.heap.size))->Kept Z γ St w0 w->(∀l r,π0 l r->n l r)->Z.WT f g w:=by
 intro G L l6
 induction l6 with
 |stop hH=>intro g w f n hg P v h2 h3 h4 _ _ _ A z y I;exact K _ _ g w f n hH hg P v h2 h3 h4 z y I λr hr=>(A r hr).2.2|step T t esL hs Cx VL ih=>
  rename_i G L;intro g w f n hg P v h2 h3 h4 W Q X A z y I;have N:∀d,Z.dQ f w d->bS Z.P c.sig n L d:=λd r=>⟨P.ok,λl x i=>by obtain⟨o,o',R,e2,e3⟩:=P.obj l x i;exact⟨o,o',R,(r.own x (v l x i)).trans e2,e3⟩,P.kr,be P.mR r.size,λa x i=>by obtain⟨g1,g2,g3,g4⟩:=P.old a x i;exact⟨g1,g2,g3,(iW (r.rd _ (D a x i))).trans g4⟩⟩
  have B:∀d,Z.dQ f w d->∃gR R2 ev j,stepG Z.P au g d=.go gR R2 ev/\Ext Z.P n j/\GR c [] [] [eX] bot j (T d.tape d.drawn) gR/\bS Z.P c.sig j (t d.tape d.drawn) R2/\uz n j L d (t d.tape d.drawn) R2/\∀e∈ev,wX c.sig j e:=λd r=>Bl hc hs Cx (N d r) hg au
  have rZ:g.status=.running:=by rw[hg.r]
  classical
  let S:ai->aw:=λd=>if r:Z.dQ f w d then(B d r).choose else g
  let u:ai->ai:=λd=>if r:Z.dQ f w d then(B d r).choose_spec.choose else w
  let ef:ai->Array Event:=λd=>if r:Z.dQ f w d then(B d r).choose_spec.choose_spec.choose else #[]
  have F:∀d,Z.dQ f w d->∃j,stepG Z.P au g d=.go (S d) (u d) (ef d)/\Ext Z.P n j/\GR c [] [] [eX] bot j (T d.tape d.drawn) (S d)/\bS Z.P c.sig j (t d.tape d.drawn) (u d)/\uz n j L d (t d.tape d.drawn) (u d)/\∀e∈ef d,wX c.sig j e:=by intro d r;have:=(B d r).choose_spec.choose_spec.choose_spec;simp only[S,u,ef,dif_pos r];exact this
  have E:∀d(r:Z.dQ f w d) j,uz n j L d (t d.tape d.drawn) (u d)->bS Z.P c.sig j (t d.tape d.drawn) (u d)->∀l x,j l x->(f.grow d (u d)).own x:=by intro d r j m s l x i;rcases m.new l x i with h|⟨_,h,_⟩;exact .inl (v l x h);exact .inr ⟨h,(s.lt i).2⟩
  refine .step S u ef rZ (λd r=> ?_) λd r=> ?_
  obtain⟨j,hgo,e,Sx,s,m,Cw⟩:=F d r;refine⟨hgo,λb Y hn k=>m.rest b Y λl q=>hn (v l b q),λC k _=> ?_,λb k=> ?_,m.size,m.tape,m.os,m.output,λe he=> ?_⟩;unfold b3;rw[m.rest C.block (aW (Q _ k) r.size) λl q=>W _ (v l _ q) k];unfold dp;rw[m.rest b (aW (Q _ k) r.size) λl q=>W _ (v l _ q) k];have M:=E d r j m s;cases Cw e he with|cell wr Y=>exact .inr ⟨rfl,_,rfl,.inl (M _ _ Y)⟩|obj wr Y=>exact .inr ⟨rfl,_,rfl,.inl (M _ _ Y)⟩|room=>exact .inl ⟨_,rfl,.inl rfl⟩|ext _=>exact .inl ⟨_,rfl,.inr ⟨_,rfl⟩⟩|old hm=>exact .inr ⟨rfl,_,rfl,.inr (.inr ⟨rfl,D _ _ hm⟩)⟩
  obtain⟨j,hgo,e,Sx,s,m,Cw⟩:=F d r;refine ih d.tape d.drawn (S d) (u d) (f.grow d (u d)) j Sx s (E d r j m s) (λx i=>.inl (h2 x i)) h3 h4 (λx i k=> ?_) (λx i=> ?_) (λx i=>⟨aW (X x i).1 (be r.size m.size),λM=> ?_⟩) (λx i=>⟨.inl (A x i).1,aW (A x i).2.1 (be r.size m.size),λl q=> ?_⟩) (λx i=> ?_) ⟨λx i=> ?_,λx i=> ?_,λp C hp J=> ?_,λx i=> ?_,be y.size (be r.size m.size),λq=> ?_⟩ (λl x i=>e.le _ _ (I l x i));rcases i with i|⟨i,_⟩;exact W x i k;have:=Q x k;have:=r.size;omega;exact aW (Q x i) (be r.size m.size);rcases M with M|⟨M,_⟩;exact(X x i).2 M;have:=(X x i).1;have:=r.size;omega;rcases m.new l x q with h|⟨_,h,_⟩;exact(A x i).2.2 l h;have:=(A x i).2.1;have:=r.size;omega;have hz:=y.size;have hr:=r.size;have hs:=m.size;rcases i with i|⟨U,V⟩;rcases z x i with h|⟨U,V⟩;exact .inl h;exact .inr ⟨U,by omega⟩;exact .inr ⟨by omega,V⟩;exact((m.rest x (aW (A x i).2.1 r.size) (A x i).2.2).trans (r.own x (A x i).1)).trans (y.st x i);exact((m.rest x (aW (X x i).1 r.size) λl q=>(X x i).2 (v l x q)).trans (r.rd x i)).trans (y.rd x i);have k:=O.la p C J;have R:(u d).cell? C=d.cell? C:=by unfold b3;rw[m.rest C.block (aW (Q _ k) r.size) λl q=>W _ (v l _ q) k]
  exact(R.trans (r.cell p C (h3▸hp) J)).trans (y.cell p C hp J);have R:dp (u d) x=dp d x:=by unfold dp;rw[m.rest x (aW (Q _ i) r.size) λl q=>W _ (v l _ q) i]
  exact(R.trans (r.pay x i)).trans (y.pay x i);obtain⟨st,sm,hl'⟩:=r.live (y.live q);refine⟨st,sm,(m.rest Z.Wg (by have:=y.size;have:=r.size;omega) λl q=> ?_).trans hl'⟩;rcases z _ (v l _ q)with h|⟨h,_⟩;exact YR.2 h;omega
def Ph.WT.pair(O:Z.Ok){c:fg}(hc:c.Fits Z.P){f:bG}{args:Array ca}{ats:Array az}{R:Ending->ai->Prop}{St:Nat->Prop}{F:Func}{x:Code}{π:Ren}{L:ai}{qZ:Array ak}(ho:X[i]? =ae o)(hw:bj o (yielded X a.tmps)=ar)(Q:b.kind≠.early)(hop:o.op=.call {callee:=.value (.func f),args,argTypes:=ats})(hf:c.fn f=ar)(M:Z.P.funcs[f]? =ae F)(t:(F.name== "runtime.NumGoroutine")=au)(E:F.body=ae x)(hH:bS Z.P c.sig π L w)(hπ:∀l r,π l r->γ.own r)(C:nA c f π qZ (args.map a.eval))(z:nA c f (only (CZ π)) qZ qZ)(D:∀tp d,Calls Z.P f qZ (cL L tp d) R)(hR:∀e L,R e L->∃v,e=.returned v)(hcb:∀r,γ.own r->¬Z.CB r)(Ss:∀r,Z.CB r->r<w.heap.size)(hrd:∀r,Z.jB r->r<w.heap.size/\¬γ.own r)(Cx:∀r,St r->γ.own r/\r<w.heap.size/\∀l,¬π l r)(YR:Z.Wg<w.heap.size/\¬γ.own Z.Wg)(q:∀a x,c.mem a=ae x->Z.jB a.block)(K:∀vL vR J(m:Gh) u n,R (.returned vL) J->bh c.sig n vL vR->bS Z.P c.sig n J u->(∀l r,n l r->m.own r)->Ext Z.P π n->(∀r,γ.own r->m.own r)->m.held=γ.held->m.over=γ.over->(∀r,m.own r->γ.own r\/(w.heap.size<=r/\r<u.heap.size))->Kept Z γ St w u->(∀r,St r->∀l,¬n l r)->Z.WT m (G (b.at (a.put o.dst vR) (.inRegion X W::k)) Y) u):Z.WT γ (G (b.at a (.inRegion X (i::W)::k)) Y) w:=by
 have S:F.body.isNone=au:=by rw[E];rfl
 refine .enter O ho hw Q (λ_=>run_call_body hop M t S) (λw=>events_call_body hop M t S _) ?_;have hT:=qx hc hf (R:=R) (Az _) hH.left z (λe L h=>hR e L h) D;refine Ph.WT.abz O (hc.at f) (St:=St) (w0:=w) (γ:=γ) (π0:=π) (bot:=b.at a (.inRegion X (i::W)::k)::Y) YR q ?_ hT _ w γ _ ⟨rfl,rfl,.one (qa.enter hc hf C) rfl⟩ hH hπ (λ_ h=>h) rfl rfl hcb Ss hrd Cx (λ_ h=>.inl h) (.refl _ _ _ _) (λ_ _ h=>h);intro gL J g u m n hG Sx p h1 h2 h3 h4 h6 h5 h11 h12;obtain⟨T,hfn,v,t',d',hr,hm,hd,hk,F',N,rZ⟩:=hG;obtain⟨e1,e2,B⟩:=Sx;rw[T]at B;obtain⟨hFr,U,hro⟩:=vp B;obtain⟨f1,f2,f3,f4,f5,f6,f7,f8,f9,_,_⟩:=hFr;rw[hfn,M]at N;obtain rfl:=aX N;have ac8:F.results.toList.all (oc (c.at f).bad)=ar:=by obtain⟨F2,b2,k1,_,_,_,k5⟩:=hc.fn f hf;rw[M]at k1;cases k1;exact k5
 have hrel:∀j,Z.dQ m u j->bS Z.P c.sig n J j:=λj r=>⟨p.ok,λl x E=>by obtain⟨o,o',e1,e2,e3⟩:=p.obj l x E;exact⟨o,o',e1,(r.own x (h1 l x E)).trans e2,e3⟩,p.kr,be p.mR r.size,λa x E=>by obtain⟨g1,g2,g3,g4⟩:=p.old a x E;exact⟨g1,g2,g3,(iW (r.rd _ (q a x E))).trans g4⟩⟩
 have A:∀j,Z.dQ m u j->∃v' I,(results F g.frame.tmps).runT Z.P j #[]=(.ok v' j,I)/\bh c.sig n v v'/\∀e∈I,wX c.sig n e:=λj r=>Gd (c:=c.at f) (hrel j r) ac8 f2 rZ
 have s:g.frame.mode=.returning:=f5.trans hm;have V:g.frame.defers=[]:=by rw[hd]at f4;generalize g.frame.defers=y at f4;cases f4;rfl
 have acX:∀v,(b.at a (.inRegion X (i::W)::k)).finish v=b.at (a.put o.dst v) (.inRegion X W::k):=λv=>by rw[jr,ho];rfl
 have hgf:g.frame.fn=f:=f1.trans hfn
 classical
 let H:ai->ak:=λj=>if r:Z.dQ m u j then(A j r).choose else undef
 have hvf:∀j,Z.dQ m u j->∃I,(results F g.frame.tmps).runT Z.P j #[]=(.ok (H j) j,I)/\bh c.sig n v (H j)/\∀e∈I,wX c.sig n e:=λj r=>by have:=(A j r).choose_spec;simp only[H,dif_pos r];exact this
 refine .step (λj=>G (b.at (a.put o.dst (H j)) (.inRegion X W::k)) Y) id (λj=>seen Z.P g.frame.fn ((results F g.frame.tmps).runT Z.P j #[]).2++#[]) (by rw[e2]) (λj r=> ?_) λj r=> ?_
 obtain⟨I,P,_,Cw⟩:=hvf j r;refine⟨?_,tZ λe he=> ?_⟩;rw[e2,U,fS au g.frame _ _ (by rw[s];simp),kW au g.frame _ _ V s,hgf,M];simp only[phase,P];have:doReturn Z.P au g.frame (b.at a (.inRegion X (i::W)::k)::Y) ah (H j) j=.go (jd ((b.at a (.inRegion X (i::W)::k)).finish (H j)) Y) j #[]:=by unfold doReturn;simp only[f8]
 rw[this,acX];rfl;rw[P,Array.append_empty]at he;cases Cw e (iT _ _ e he)with|cell wr Q=>exact .inr ⟨rfl,_,rfl,.inl (h1 _ _ Q)⟩|obj wr Q=>exact .inr ⟨rfl,_,rfl,.inl (h1 _ _ Q)⟩|room=>exact .inl ⟨_,rfl,.inl rfl⟩|ext _=>exact .inl ⟨_,rfl,.inr ⟨_,rfl⟩⟩|old hm=>exact .inr ⟨rfl,_,rfl,.inr (.inr ⟨rfl,q _ _ hm⟩)⟩
 show Z.WT (m.grow j j) _ j;rw[Gh.oD];obtain⟨_,_,hv,_⟩:=hvf j r;exact(K v (H j) (cL J t' d') m u n hr hv ⟨p.ok,p.obj,p.kr,p.mR,p.old⟩ h1 ⟨h11,p.ok⟩ h2 h3 h4 h6 h5 h12).rely O r
end
end Rel
section
open Go.RowKit Go.ChangeShapes Go.WideShapes Go.ChangeAt Go.Deep
end
section
open Go.RowKit
def eh(c:List (Int×Bool))(a b:Int):Bool:=decide (0<=a)&&decide (a<c.length)&&(decide ((c.getD a.toNat (0,au)).1=b)&&(c.getD a.toNat (0,au)).2)
def o4(p:Nat)(d:List (Int×Bool))(F:Nat->Prop)(a b:Int)(w:ai)(h:ea w p d F):Calls aj 72 #[.pointer (ae ⟨p,0,ah⟩),.agg #[.int .i64 a,.int .i64 b]] w λe t=>e=.returned (.bool (eh d a b))/\Below w.heap.size w t:=by
 obtain⟨A,c,I,N,X,Y,O,P,J⟩:=h.facts;have hp:=h.lt;have s:Hid (eh d a b=(decide (0<=a)&&decide (a<d.length)&&(decide ((d.getD a.toNat (0,au)).1=b)&&(d.getD a.toNat (0,au)).2))):=rfl;have K:=af I;have L:=af J;clear I N O P J h;go_enter func72,ntmps72;go_upto_region 1 with(fail)
 have o:cD (w.alloc (.cells #[.int .i64 a,.int .i64 b] 43)) w.heap.size 43 #[.int .i64 a,.int .i64 b]:=cD.new _ _ _;refine b9 (λt=>cD t w.heap.size 43 #[.int .i64 a,.int .i64 b]/\Below w.heap.size w t) ⟨o,(Below.refl _ _).alloc (av _) _⟩ ?_;rintro u ⟨i,l⟩;have f:=af l;have T:∀n:After u,n.w.cell? ⟨w.heap.size,0,ah⟩=ae (.int .i64 a):=λn=>n.cell (i.cell 0)
 have U:∀n:After u,n.w.cell? ⟨w.heap.size,1,ah⟩=ae (.int .i64 b):=λn=>n.cell (i.cell 1)
 have V:∀n:After u,n.w.cell? ⟨p,0,ah⟩=ae (.slice A d.length c):=λn=>n.cell ((l.cell (p:=⟨p,0,ah⟩) hp).trans K.out)
 clear o i l;by_cases j:0<=a;rotate_left
 ·have v:decide (0<=a)=au:=by simpa using j
  have m:Hid (eh d a b=au):=by unfold Hid;rw[s.out,v];rfl
  refine bV (by kernel_rfl) (by kernel_rfl) ?_;repeat(go_big_quiet_step (fail))
  refine wpQuiet_nil ?_;rintro _ ⟨n,rfl⟩;go_wp2_with fail;go_ret;exact⟨dw m.out.symm,f.out.trans (n.below.mono f.out.size)⟩
 by_cases q:a<d.length;rotate_left
 ·have v:decide (0<=a)=ar:=by simpa using j
  have z:decide (a<d.length)=au:=by simpa using q
  have m:Hid (eh d a b=au):=by unfold Hid;rw[s.out,v,z];rfl
  refine bV (by kernel_rfl) (by kernel_rfl) ?_;repeat(go_big_quiet_step (fail))
  refine wpQuiet_nil ?_;rintro _ ⟨n,rfl⟩;go_wp2_with fail;go_ret;exact⟨dw m.out.symm,f.out.trans (n.below.mono f.out.size)⟩
 obtain⟨k,rfl⟩:∃k:Nat,a=k:=⟨a.toNat,by omega⟩;obtain⟨g,rfl,R,S,B,C,D,E,r,G,H⟩:=L.out k (by omega);have M:∀n:After u,row? n.w g (k *2) 2=ae #[.int .i64 (d.getD k (0,au)).1,.bool (d.getD k (0,au)).2]:=λn=>(fT n.below (by have:=f.out.size;omega) _ _).trans ((fT f.out B _ _).trans r)
 rw[dT]at s;clear C D E r G H;have z:decide ((k:Int)<d.length)=ar:=by simpa using q
 have Q:∀W x y,(binOp .eql 172 (.agg #[.int .i64 x,.bool y]) (.agg #[.int .i64 b,.bool ar])).run aj W=.ok (.bool (decide (x=b)&&y)) W:=λW x y=>by rw[HZ];simp
 have m:Hid (eh d k b=(decide ((d.getD k (0,au)).1=b)&&(d.getD k (0,au)).2)):=by unfold Hid;rw[s.out,z,decide_eq_true j];rfl
 generalize d.getD k (0,au)=x at *;obtain⟨x,y⟩:=x;simp only at m M;refine bV (by kernel_rfl) (by kernel_rfl) ?_;repeat(go_big_quiet_step (fail))
 refine wpQuiet_nil ?_;rintro _ ⟨n,rfl⟩;go_wp2_with fail;go_ret;exact⟨dw m.out.symm,f.out.trans (n.below.mono f.out.size)⟩
def oa(c:List (Int×Bool))(a b:Int):List (Int×Bool)×Int:=if eh c a b then(c.set a.toNat (b+1,au),0)else(c,7)
def Kn(a:List (Int×Bool)):Prop:=∀x∈a,0<=x.1/\x.1<=1000000
def q9{c:List (Int×Bool)}{a b:Int}(h:eh c a b=ar):∃k:Nat,a=k/\k<c.length/\c.getD k (0,au)=(b,ar):=by simp only[eh,aG,decide_eq_true_eq]at h;obtain⟨⟨f,g⟩,d,e⟩:=h;refine⟨a.toNat,by omega,by omega,Prod.ext d e⟩
def Sc(p:Nat)(d:List (Int×Bool))(F:Nat->Prop)(a b:Int)(w:ai)(h:ea w p d F)(W:Kn d):Calls aj 177 #[.pointer (ae ⟨p,0,ah⟩),.agg #[.int .i64 a,.int .i64 b]] w λe x=>e=.returned (.int .i64 (oa d a b).2)/\ea x p (oa d a b).1 F/\cY F w x:=by
 have H:=af h;have D:Hid (oa d a b=if eh d a b then(d.set a.toNat (b+1,au),0)else(d,7)):=rfl;clear h;go_enter func177,ntmps177;go_upto_region 1 with(fail)
 have u:cD (w.alloc (.cells #[.int .i64 a,.int .i64 b] 43)) w.heap.size 43 (ints [a,b]):=cD.new _ _ _;refine b9 (λx=>cD x w.heap.size 43 (ints [a,b])/\Below w.heap.size w x) ⟨u,(Below.refl _ _).alloc (av _) _⟩ ?_;rintro z ⟨m,n⟩;have j:Hid (ea z p d (λk=>F k/\k<w.heap.size)):=(H.out.mono (G:=λk=>F k/\k<w.heap.size) λk o V=>⟨V,o⟩).only (G:=λk=>w.heap.size<=k) (cY.fR n) (λk o=>by omega);have q:=af m;have f:Hid (Below w.heap.size w z):=n;have t:row? z w.heap.size 0 2=ae (ints [a,b]):=m.bw rfl;clear u m n;go_wp2_with fail;refine(o4 p d _ a b _ j.out).mono ?_;rintro e y ⟨rfl,i⟩;have l:Hid (ea y p d (λk=>F k/\k<w.heap.size)):=j.out.only (G:=λk=>z.heap.size<=k) (cY.fR i) (λk o=>by have:=f.out.size;omega);have r:=af (q.out.after i);have s:Hid (Below w.heap.size w y):=f.out.trans (i.mono f.out.size);clear i j q f t;cases hL:eh d a b
 ·have B:Hid (oa d a b=(d,7)):=by unfold Hid;rw[D.out,hL];rfl
  clear hL;go_wp2_with fail;go_ret;rw[B.out];exact⟨rfl,l.out.mono λk _ h=>h.1,(cY.fR s.out)⟩
 ·obtain⟨k,rfl,o,v⟩:=q9 hL;have B:Hid (oa d k b=(d.set k (b+1,au),0)):=by unfold Hid;rw[D.out,hL];rfl
  have C:=W (b,ar) (by rw[<-v];simp[bm,aq o]);simp only at C;have O:IntKind.i64.wrap (b+1)=b+1:=IntWalk.i64_in _ (by omega);have K1:(k:Int)<d.length:=by omega
  obtain⟨A,c,P,Q,R,S,T,U,N⟩:=l.out.facts;obtain⟨g,rfl,X,Y,Z,E,I,hg6,J,K,L⟩:=N k o;have c1:y.cell? ⟨w.heap.size,0,ah⟩=ae (.int .i64 k):=r.out.cell 0;have c2:y.cell? ⟨w.heap.size,1,ah⟩=ae (.int .i64 b):=r.out.cell 1;have M:=af (l.out.put o P (b+1) au);clear hL Q R S T U N E I J K L v D;go_upto_region 3 with(fail)
  go_still_tail 11,(by kernel_rfl)
  repeat still_step
  change wpList _ _ _ _ _ y.drew;go_wp2_with fail;go_ret;rw[B.out];refine⟨rfl,?_,?_⟩;exact(M.out.1.mono λk _ h=>h.1);exact((cY.fR s.out).trans (M.out.2.mono λk _ h=>h.1)).drew
def lD(a:List (Int×Bool)):Nat->List (Int×Int)|0=>[]|k+1=>lD a k++if(a.getD k (0,au)).2 then [((k:Int),(a.getD k (0,au)).1)]else []
def kN(a:List (Int×Bool)):List (Int×Int):=lD a a.length
def Ed(a:List (Int×Bool)):∀k,(lD a k).length<=k|0=>by simp[lD]|k+1=>by have:=Ed a k;unfold lD;rw[bK];split<;>simp<;>omega
def s8(a:List (Int×Bool)):Nat->List Int|0=>[]|k+1=>s8 a k++[(a.getD k (0,au)).1]
def z6(a:List (Int×Bool)):∀k,k<=a.length->s8 a k=(a.take k).map (·.1)|0,_=>by simp[s8]|k+1,h=>by rw[s8,z6 a k (by omega),List.take_add_one,aq (by omega),dZ];simp only[bm,aq (show k<a.length by omega),Option.toList,fq,List.map_nil,bI]
def db(a:List (Int×Bool)):List Int:=s8 a a.length
def qU(a:List (Int×Bool)):db a=a.map (·.1):=by rw[db,z6 a _ (av _),cE]
def DV(a:List (Int×Bool)):∀k,(s8 a k).length=k|0=>rfl|k+1=>by simp[s8,DV a k]
def Se(p:Nat)(a:List (Int×Bool))(F:Nat->Prop)(w:ai)(h:ea w p a F)(Q:a.length<=60):Calls aj 43 #[.pointer (ae ⟨p,0,ah⟩)] w (Ra w (db a)):=by
 obtain⟨A,c,D,E,N,O,v,G,H⟩:=h.facts;have C:=af v;clear E v G H h;go_enter func43,ntmps43;go_wp2_with fail;go_loopw [11,3] (λi u o=>∃k:Nat,k<=a.length/\i=.int .i64 k/\om o w.heap.size u (s8 a k)/\Below w.heap.size w o) (λi _ _=>a.length-(intOf i).toNat)
 case atStart=>exact⟨0,by omega,rfl,om.nil _ _,Below.refl _ _⟩
 case round=>
  clear D;obtain⟨k,P,rfl,d,y⟩:=hrel;have r:=af d;have q:=af y;clear d y;by_cases t:k<a.length
  ·have L:(k:Int)<a.length:=by omega
   obtain⟨g,rfl,e⟩:=xL (mW C.out q.out) t;have K:Hid (s8 a (k+1)=s8 a k++[(a.getD k (0,au)).1]):=rfl;have z:=DV a k;generalize a.getD k (0,au)=x at *;obtain⟨x,b⟩:=x;simp only at e;go_upto_region 5 with(fail)
   refine b9 (λo=>cD o wr.heap.size 172 #[.int .i64 x,.bool b]/\Below wr.heap.size wr o) ?_ ?_;rw[Jc];have I:cD (wr.alloc (.cells #[.int .i64 0,.bool au] 172)) wr.heap.size 172 #[.int .i64 0,.bool au]:=cD.new _ _ _;have J:=(I.set 0 (.int .i64 x)).set 1 (.bool b);exact⟨J,(((Below.refl _ _).alloc (av _) _).setCell (p:=⟨wr.heap.size,0,ah⟩) (av _) _).setCell (p:=⟨wr.heap.size,0+1,ah⟩) (av _) _⟩;rintro B ⟨n,f⟩;have M:B.cell? ⟨wr.heap.size,0,ah⟩=ae (.int .i64 x):=n.cell 0;have j:om B w.heap.size _ _:=r.out.kept f;have m:=af (q.out.trans (f.mono q.out.size));clear n f r e;go_wp2_with (at_builtin;refine sE rfl _ _ rfl w.heap.size _ (s8 a k) rfl j x rfl ?_ ?_ ?_)
   case refine_1=>omega
   case refine_2=>exact m.out.size
   intro R S l _ s;go_wp2_with fail;go_roundw
   case rel=>exact⟨k+1,by omega,by go_num,K.out.symm▸l,m.out.trans s⟩
   simp[intOf];omega
  have:k=a.length:=by omega
  subst this;go_wp2_with fail;go_ret;exact⟨_,rfl,r.out,q.out⟩
def jq(a:List (Int×Bool)):List (Int×Bool)×(Int×Int)×Int:=
 if a.findIdx kJ<a.length then(a.set (a.findIdx kJ) ((a.getD (a.findIdx kJ) (0,au)).1,ar),((a.findIdx kJ:Nat),(a.getD (a.findIdx kJ) (0,au)).1),0)
 else if a.length=60 then(a,(0,0),2)else(a++[(0,ar)],((a.length:Nat),0),0)
def Bn:(Tryz.prog.info? 172).map (λi=>(i.zero,i.size,i.bytes))=ae (ae (.agg #[.int .i64 0,.bool au]),2,16):=by kernel_rfl
def A7{a b n:Int}{x:List (Int×Bool)×(Int×Int)×Int}{c:List (Int×Bool)}(h:x=(c,(a,b),n)):Ending.returned (.tuple #[.agg (ints [a,b]),.int .i64 n])=.returned (.tuple #[.agg (ints [x.2.1.1,x.2.1.2]),.int .i64 x.2.2]):=by rw[h]
def rL(w:ai)(p:Nat)(c:List (Int×Bool))(F:Nat->Prop)(b:List Int)(a:ai):Prop:=cD a w.heap.size 43 (ints b)/\ea a p c (λk=>F k/\k<w.heap.size)/\cY F w a
def qA(w:ai)(p:Nat)(c:List (Int×Bool))(F:Nat->Prop)(b:List Int)(a:ai):Prop:=cD a w.heap.size 43 (ints b)/\ea a p c (λk=>(F k/\k<w.heap.size)\/w.heap.size<k)/\cY F w a
def rL.two{w c:ai}{p:Nat}{b:List (Int×Bool)}{F:Nat->Prop}{a:List Int}(h:rL w p b F a c):qA w p b F a c:=⟨h.1,h.2.1.mono λ_ _ h=>bt h,h.2.2⟩
def rL.after{w c a:ai}{p:Nat}{e:List (Int×Bool)}{F:Nat->Prop}{d:List Int}(h:rL w p e F d c)(b:Below c.heap.size c a):rL w p e F d a:=⟨h.1.after b,h.2.1.only (G:=λk=>w.heap.size<=k) ((cY.fR b)) (λk f=>by omega),h.2.2.trans (cY.fR b)⟩
def Uf(p:Nat)(a:List (Int×Bool))(F:Nat->Prop)(w:ai)(h:ea w p a F)(hl:a.length<=60):Calls aj 127 #[.pointer (ae ⟨p,0,ah⟩)] w λe w'=>e=.returned (.tuple #[.agg (ints [(jq a).2.1.1,(jq a).2.1.2]),.int .i64 (jq a).2.2])/\ea w' p (jq a).1 (E0 F w w')/\cY F w w':=by
 have hp:=h.lt;have H:=af h;clear h;go_enter func127,ntmps127;go_upto_region 1 with(fail)
 refine b9 (rL w p a F [0,0]) ⟨cD.new _ _ _,(H.out.mono λk O u=>⟨u,O⟩).only (G:=λk=>k=w.heap.size) (cY.fR ((Below.refl _ _).alloc (av _) _)) (λk O=>by omega),cY.fR ((Below.refl _ _).alloc (av _) _)⟩ ?_;intro w1 hM;have HM:=af hM;clear hM;obtain⟨A,c,R,E,I,J,B,K,l⟩:=HM.out.2.1.facts;have i:=B;clear E B K l;go_wp2_with fail;refine(C6 A c a w1 i (by omega)).mono ?_;rintro e Q ⟨rfl,uE⟩;have f:=af (HM.out.after uE);clear uE HM R I J i;obtain⟨A,c,R,E,I,J,B,K,l⟩:=f.out.2.1.facts;by_cases i:a.findIdx kJ<a.length
 ·have hI:rX a=(a.findIdx kJ:Nat):=by unfold rX;rw[if_pos i]
  have U:Hid (jq a=(a.set (a.findIdx kJ) ((a.getD (a.findIdx kJ) (0,au)).1,ar),(((a.findIdx kJ:Nat):Int),(a.getD (a.findIdx kJ) (0,au)).1),0)):=by unfold Hid jq;rw[if_pos i]
  rw[hI];clear hI;generalize a.findIdx kJ=k at *;have K1:(k:Int)<a.length:=by omega
  obtain⟨g,rfl,hg1,y,z,m,M,n,o,r,N⟩:=l k i;have s:=f.out.2.1.live i R ar;have h5:Hid (rL w p (a.set k ((a.getD k (0,au)).1,ar)) F [0,0] (Q.setCell ⟨g,k *2+1,ah⟩ (.bool ar))):=⟨f.out.1.uW (by omega) _ _,s.1,f.out.2.2.trans' s.2 λq d h=>h.1⟩
  generalize a.getD k (0,au)=x at *;obtain⟨x,b⟩:=x;simp only at h5 U r;clear E I J B K l m n o s;have f1':Q.cell? ⟨p,0,ah⟩=ae (.slice (ae ⟨g,0,ah⟩) a.length c):=R;go_upto_region 8 with(fail)
  refine b9 (qA w p (a.set k (x,ar)) F [0,0]) h5.out.two ?_;intro S hM3;have C:=af hM3;clear hM3;obtain⟨A3,c3,R,E,I,J,B,K,l⟩:=C.out.2.1.facts;obtain⟨g3,rfl,hg1,y,z,m,M,n,o,r,N⟩:=l k (by simpa using i);have j:((a.set k (x,ar)).getD k (0,au)).1=x:=by simp[bm,ga,i]
  rw[j]at r;have ac1:((k:Nat):Int)<((a.set k (x,ar)).length:Nat):=by rw[eu];omega
  have ff:fits S w.heap.size 0 2=ar:=C.out.1.fits 0 2 (by decide);clear E I J B K l m M n o N j;go_wp2_with fail;refine cx rfl w.heap.size 43 (ints [((k:Nat):Int),x]) (.int .i64 0) _ rfl rfl (C.out.1.eZ _ rfl) underlying43 rfl (by rw[bN];exact dX) rfl ?_;have hO:cY F w (putRow S w.heap.size 0 [((k:Nat):Int),x]):=C.out.2.2.trans' (G:=λq=>q=w.heap.size) ⟨rfl,rfl,rfl,by rw[jW];exact av _,λq _ d=>fz S _ 0 _ q d⟩ (λq d he=>absurd d (by omega));refine⟨A7 U.out,?_,hO⟩;rw[U.out];have hs:=C.out.2.1.only (w':=putRow S w.heap.size 0 [((k:Nat):Int),x]) (G:=λq=>q=w.heap.size) ⟨rfl,rfl,rfl,by rw[jW];exact av _,λq _ d=>fz S _ 0 _ q d⟩ (λq d he=>by rcases d with⟨_,d⟩|d<;>omega);refine hs.mono λq d u=> ?_
  rcases u with⟨u,_⟩|u;exact bt u;exact bW ⟨by omega,d⟩
 ·have hI:rX a= -1:=by unfold rX;rw[if_neg i]
  rw[hI];clear hI;by_cases Y:a.length=60
  ·have U:Hid (jq a=(a,(0,0),2)):=by unfold Hid jq;rw[if_neg i,if_pos Y]
   have ff:fits Q w.heap.size 0 2=ar:=f.out.1.fits 0 2 (by decide);rw[Y]at R;clear E I J B K l;go_wp2_with fail;refine cx rfl w.heap.size 43 (ints [0,0]) (.int .i64 2) _ rfl rfl (f.out.1.eZ _ rfl) underlying43 rfl (by rw[bN];exact dX) rfl ?_;have hO:cY F w (putRow Q w.heap.size 0 [0,0]):=f.out.2.2.trans' (G:=λq=>q=w.heap.size) ⟨rfl,rfl,rfl,by rw[jW];exact av _,λq _ d=>fz Q _ 0 _ q d⟩ (λq d he=>absurd d (by omega));refine⟨A7 U.out,?_,hO⟩;rw[U.out];have hs:=f.out.2.1.only (w':=putRow Q w.heap.size 0 [0,0]) (G:=λq=>q=w.heap.size) ⟨rfl,rfl,rfl,by rw[jW];exact av _,λq _ d=>fz Q _ 0 _ q d⟩ (λq d he=>by omega);exact hs.mono λq d u=>bt u.1
  have U:Hid (jq a=(a++[(0,ar)],(((a.length:Nat):Int),0),0)):=by unfold Hid jq;rw[if_neg i,if_neg Y]
  have adM:((a.length:Int)==60)=au:=by simp;omega
  obtain⟨v,hB,X,zd,hF,hFk⟩:=f.out.2.1;have hv:v=.slice A a.length c:=by have:=hB.cell 0;rw[R]at this;simpa using this.symm
  subst hv;have HB:=af hB;have HN:=af zd;have hpF:Hid (F p):=hF.1;have T:=af hFk;have h1:Hid (cD Q w.heap.size 43 (ints [0,0])):=f.out.1;have h2:Hid (cY F w Q):=f.out.2.2;have P:Hid (Q.ownsRow 0 172 2 (.slice A a.length c) a.length (a.flatMap rB)):=X;obtain⟨i0,D2,D4,D5,Cy⟩:=info_parts Bn;clear E I J B K l hB X zd hF hFk f;go_wp2_with (at_builtin;refine ep rfl _ _ _ rfl 0 172 i0 _ 2 16 underlying168 D2 D4 D5 Cy rfl (by decide) (.slice A a.length c) a.length (a.flatMap rB) rfl P.out [.int .i64 0,.bool au] rfl rfl (by simp[fX]) (by unfold maxLen;omega) (by omega) (bF _) ?_);intro v' S t z VB;obtain⟨A',c',rfl,_,_,_⟩:=cu t;have W:cY (λk=>(di A a.length c).ownBlock=ae k) Q S:=(cY.refl.alloc _).trans (cY.grown z λk O=>O);have V:=W.blk HB.out (λe=>HN.out e);have hH3:=W.blk h1.out (λe=>by have:=(T.out _ e).2;omega);have Z:(di A' (a.length+1) c').ownBlock≠ae p:=by rcases VB with e|e;rw[e];exact HN.out;rw[e];intro h;injection h with h;have:=h1.out.lt;omega
  have c1:S.cell? ⟨p,0,ah⟩=ae (.slice A a.length c):=V.cell 0;have c2:S.frozen? ⟨p,0,ah⟩=au:=V.frozen 0;have YP:Hid (qA w p (a++[(0,au)]) F [0,0] (S.setCell ⟨p,0,ah⟩ (.slice A' (a.length+1) c'))):=by refine⟨hH3.uW (by omega) _ _,⟨_,V.set 0 _,?_,Z,bt ⟨hpF.out,hp⟩,λk O=> ?_⟩,?_⟩;rw[bK,eJ];exact ownsRow_setCell_other t Z _;rcases VB with e|e;rw[e]at O;exact bt (T.out k O);rw[e]at O;injection O with O;have:=h1.out.lt;exact bW (by omega);exact(h2.out.trans' W λk O e=>(T.out k e).1).setCell (bt hpF.out) _ _
  clear t z VB W V hH3 Z h1 h2 T P;go_upto_region 7 with(fail)
  refine b9 (qA w p (a++[(0,au)]) F [0,0]) YP.out ?_;clear YP c1 c2;intro w5 L;obtain⟨A5,c5,R,E,I,J,B,K,l⟩:=L.2.1.facts;obtain⟨g5,rfl,hg1,y,z,m,M,n,o,r,N⟩:=l a.length (by simp);have s:=L.2.1.live (k:=a.length) (by simp) R ar;have K1:((a.length:Nat):Int)<((a++[((0:Int),au)]).length:Nat):=by rw[bK];simp;omega
  have h5:Hid (qA w p (a++[(0,ar)]) F [0,0] (w5.setCell ⟨g5,a.length *2+1,ah⟩ (.bool ar))):=by
   have e:(a++[((0:Int),au)]).set a.length (((a++[((0:Int),au)]).getD a.length (0,au)).1,ar)=a++[(0,ar)]:=by simp[bm,mM]
   have h:=s.1;rw[e]at h;refine⟨L.1.uW (by rcases y with y|y<;>omega) _ _,h,L.2.2.trans' s.2 λq d h=> ?_⟩;rcases h with h|h;exact h.1;exact absurd d (by omega)
  clear E I J B K l m n o r s L;go_upto_region 8 with(fail)
  refine b9 (qA w p (a++[(0,ar)]) F [0,0]) h5.out ?_;intro w6 hM6;have D:=af hM6;clear hM6;obtain⟨A3,c3,R,E,I,J,B,K,l⟩:=D.out.2.1.facts;obtain⟨g3,rfl,hg1,y,z,m,M,n,o,r,N⟩:=l a.length (by simp);have j:((a++[(0,ar)]).getD a.length (0,au)).1=0:=by simp[bm]
  rw[j]at r;have ac1:((a.length:Nat):Int)<((a++[(0,ar)]).length:Nat):=by rw[bK];simp;omega
  have ff:fits w6 w.heap.size 0 2=ar:=D.out.1.fits 0 2 (by decide);clear E I J B K l m M n o N j;go_wp2_with fail;refine cx rfl w.heap.size 43 (ints [((a.length:Nat):Int),0]) (.int .i64 0) _ rfl rfl (D.out.1.eZ _ rfl) underlying43 rfl (by rw[bN];exact dX) rfl ?_;have hO:cY F w (putRow w6 w.heap.size 0 [((a.length:Nat):Int),0]):=D.out.2.2.trans' (G:=λq=>q=w.heap.size) ⟨rfl,rfl,rfl,by rw[jW];exact av _,λq _ d=>fz w6 _ 0 _ q d⟩ (λq d he=>absurd d (by omega));refine⟨A7 U.out,?_,hO⟩;rw[U.out];have hs:=D.out.2.1.only (w':=putRow w6 w.heap.size 0 [((a.length:Nat):Int),0]) (G:=λq=>q=w.heap.size) ⟨rfl,rfl,rfl,by rw[jW];exact av _,λq _ d=>fz w6 _ 0 _ q d⟩ (λq d he=>by rcases d with⟨_,d⟩|d<;>omega);refine hs.mono λq d u=> ?_
  rcases u with⟨u,_⟩|u;exact bt u;exact bW ⟨by omega,d⟩
def ux(p:Int->Bool)(a:List Int):Int:=if a.findIdx p<a.length then(a.findIdx p:Nat)else-1
def nZ(p:Int->Bool)(a:List Int):Bool:=a.any p
def Nd{p:Int->Bool}{a:List Int}{k:Nat}(b:k<a.length)(h:p a[k]=ar)(c:∀j,j<k->p (a.getD j 0)=au):ux p a=k:=by
 have:a.findIdx p=k:=by rw[List.findIdx_eq b];refine⟨h,λj d=> ?_⟩;have:=c j d;simpa[bm,aq (show j<a.length by omega)]using this
 unfold ux;rw[this,if_pos b]
def D'{p:Int->Bool}{b:List Int}(e:∀j,j<b.length->p (b.getD j 0)=au):ux p b= -1:=by unfold ux;rw[if_neg];intro a;have c:=List.findIdx_getElem (w:=a);have d:=e _ a;simp only[bm,aq a,bI]at d;rw[d]at c;exact absurd c (by simp)
def IC(p:Int->Bool)(a:List Int):decide (0<=ux p a)=nZ p a:=by
 unfold ux nZ;by_cases h:a.findIdx p<a.length;rw[if_pos h];have:=List.findIdx_getElem (w:=h);have b:a.any p=ar:=j4.2 ⟨_,aR h,this⟩;rw[b];simp;rw[if_neg h];have b:a.any p=au:=by rw[List.any_eq_false];intro x c hp;exact h (List.findIdx_lt_length_of_exists ⟨x,c,hp⟩)
 rw[b];simp
def jH(x:Int):Bool:=decide (x<0)||decide (1000000<x)
def lk(n:Nat)(x:Int):Bool:=decide (x<0)||decide ((n:Int)<=x)
def Kw(x:Int)(w:ai):Calls aj 239 #[.int .i64 x] w λe c=>e=.returned (.bool (jH x))/\w=c:=by
 by_cases h:x<0
 ·have a:Hid (jH x=ar):=by simp[Hid,jH,h]
  have b:decide (x<0)=ar:=by simpa using h
  go_enter func239,ntmps239;go_wp2_with fail;go_ret;exact⟨dw a.out.symm,rfl⟩
 have a:Hid (jH x=decide (1000000<x)):=by simp[Hid,jH,h]
 have b:decide (x<0)=au:=by simpa using h
 go_enter func239,ntmps239;go_wp2_with fail;go_ret;exact⟨dw a.out.symm,rfl⟩
def Ot(b:Nat)(A:Option Addr)(n c:Nat)(x:Int)(w:ai)(g:w.cell? ⟨b,0,ah⟩=ae (.slice A n c))(i:n<=60):Calls aj 240 #[.int .i64 x,.pointer (ae ⟨b,0,ah⟩)] w λe f=>e=.returned (.bool (lk n x))/\w=f:=by
 by_cases h:x<0
 ·have a:Hid (lk n x=ar):=by simp[Hid,lk,h]
  have d:decide (x<0)=ar:=by simpa using h
  go_enter func240,ntmps240;go_wp2_with fail;go_ret;exact⟨dw a.out.symm,rfl⟩
 ·have a:Hid (lk n x=decide ((n:Int)<=x)):=by simp[Hid,lk,h]
  have d:decide (x<0)=au:=by simpa using h
  go_enter func240,ntmps240;go_wp2_with fail;go_ret;exact⟨dw a.out.symm,rfl⟩
def Ah(A:Option Addr)(c:Nat)(a:List Int)(w:ai)(h:fP w w.heap.size A a.length a)(B:a.length<=maxLen):Calls aj 247 #[.slice A a.length c,.func (.func 239) #[] #[]] w λe n=>e=.returned (.int .i64 (ux jH a))/\w=n:=by
 have H:=af h;have C:(a.length:Int)<=9223372036854775807:=by unfold maxLen at B;omega
 clear h;go_enter func247,ntmps247;go_wp2_with fail;go_loopw [8] (λi n=>∃k:Nat,k<=a.length/\i=.int .i64 k/\(∀j,j<k->jH (a.getD j 0)=au)/\w=n) (λi _=>a.length-(intOf i).toNat)
 case atStart=>exact⟨0,by omega,rfl,λj y=>by omega,rfl⟩
 case round=>
  obtain⟨k,D,rfl,d,rfl⟩:=hrel;have b:=af d;clear d;by_cases m:k<a.length
  ·have z:(k:Int)<a.length:=by omega
   obtain⟨g,o,rfl,v,s,u⟩:=H.out.at_ m;have p:Hid (a.getD k 0=a[k]):=by simp[Hid,bm,aq m]
   have l:Hid (jH a[k]=ar->ux jH a=k):=λh=>Nd m h b.out
   generalize a[k]=x at *;go_wp2_with fail;refine(Kw _ _).mono ?_;rintro e n ⟨rfl,rfl⟩;cases hp:jH x
   ·have t:=af hp;clear hp l;go_wp2_with fail;go_roundw
    case rel=>refine⟨k+1,by omega,by go_num,λj y=> ?_,trivial⟩;by_cases q:j=k;rw[q,p.out];exact t.out;exact b.out j (by omega)
    simp[intOf];omega
   have f:Hid (ux jH a=k):=l.out hp;clear hp l;go_wp2_with fail;go_ret;exact⟨eH f.out.symm,rfl⟩
  have r:k=a.length:=by omega
  subst r;have f:Hid (ux jH a= -1):=D' b.out;go_wp2_with fail;go_ret;exact⟨eH f.out.symm,rfl⟩
def vJ(A:Option Addr)(c:Nat)(a:List Int)(w:ai)(h:fP w w.heap.size A a.length a)(f:a.length<=maxLen):Calls aj 238 #[.slice A a.length c,.func (.func 239) #[] #[]] w λe b=>e=.returned (.bool (nZ jH a))/\w=b:=by have H:=af h;have d:Hid (decide (0<=ux jH a)=nZ jH a):=IC jH a;clear h;go_enter func238,ntmps238;go_wp2_with fail;refine(Ah A c a w H.out f).mono ?_;rintro e b ⟨rfl,rfl⟩;go_wp2_with fail;go_ret;exact⟨dw d.out,rfl⟩
def Ai(b m:Nat)(v:Option Addr)(y:Nat)(A:Option Addr)(c:Nat)(a:List Int)(w:ai)(p:w.cell? ⟨b,0,ah⟩=ae (.slice v m y))(hm:m<=60)(h:fP w w.heap.size A a.length a)(G:a.length<=maxLen):Calls aj 247 #[.slice A a.length c,.func (.func 240) #[] #[.pointer (ae ⟨b,0,ah⟩)]] w λe r=>e=.returned (.int .i64 (ux (lk m) a))/\w=r:=by
 have H:=af h;have I:(a.length:Int)<=9223372036854775807:=by unfold maxLen at G;omega
 clear h;go_enter func247,ntmps247;go_wp2_with fail;go_loopw [8] (λi r=>∃k:Nat,k<=a.length/\i=.int .i64 k/\(∀j,j<k->(lk m) (a.getD j 0)=au)/\w=r) (λi _=>a.length-(intOf i).toNat)
 case atStart=>exact⟨0,by omega,rfl,λj E=>by omega,rfl⟩
 case round=>
  obtain⟨k,J,rfl,f,rfl⟩:=hrel;have d:=af f;clear f;by_cases q:k<a.length
  ·have F:(k:Int)<a.length:=by omega
   obtain⟨g,o,rfl,D,z,C⟩:=H.out.at_ q;have s:Hid (a.getD k 0=a[k]):=by simp[Hid,bm,aq q]
   have n:Hid ((lk m) a[k]=ar->ux (lk m) a=k):=λh=>Nd q h d.out
   generalize a[k]=x at *;go_wp2_with fail;refine(Ot b v m y _ _ p hm).mono ?_;rintro e r ⟨rfl,rfl⟩;cases hp:(lk m) x
   ·have B:=af hp;clear hp n;go_wp2_with fail;go_roundw
    case rel=>refine⟨k+1,by omega,by go_num,λj E=> ?_,trivial⟩;by_cases t:j=k;rw[t,s.out];exact B.out;exact d.out j (by omega)
    simp[intOf];omega
   have l:Hid (ux (lk m) a=k):=n.out hp;clear hp n;go_wp2_with fail;go_ret;exact⟨eH l.out.symm,rfl⟩
  have u:k=a.length:=by omega
  subst u;have l:Hid (ux (lk m) a= -1):=D' d.out;go_wp2_with fail;go_ret;exact⟨eH l.out.symm,rfl⟩
def vK(b m:Nat)(f:Option Addr)(g:Nat)(A:Option Addr)(c:Nat)(a:List Int)(w:ai)(d:w.cell? ⟨b,0,ah⟩=ae (.slice f m g))(hm:m<=60)(h:fP w w.heap.size A a.length a)(k:a.length<=maxLen):Calls aj 238 #[.slice A a.length c,.func (.func 240) #[] #[.pointer (ae ⟨b,0,ah⟩)]] w λe i=>e=.returned (.bool (nZ (lk m) a))/\w=i:=by have H:=af h;have j:Hid (decide (0<=ux (lk m) a)=nZ (lk m) a):=IC (lk m) a;clear h;go_enter func238,ntmps238;go_wp2_with fail;refine(Ai b m f g A c a w d hm H.out k).mono ?_;rintro e i ⟨rfl,rfl⟩;go_wp2_with fail;go_ret;exact⟨dw j.out,rfl⟩
def kM(a:Int)(b:Bool)(x:Int×Bool):Bool:=decide (a=x.1)&&decide (b=x.2)
def px(a:Int)(b:Bool)(c:List (Int×Bool)):Int:=if c.findIdx (kM a b)<c.length then(c.findIdx (kM a b):Nat)else-1
def ou(a:Int)(b:Bool)(c:List (Int×Bool)):Bool:=c.any (kM a b)
def Qi{a:Int}{b:Bool}{c:List (Int×Bool)}{k:Nat}(d:k<c.length)(h:kM a b (c.getD k (0,au))=ar)(e:∀j,j<k->kM a b (c.getD j (0,au))=au):px a b c=k:=by
 have:c.findIdx (kM a b)=k:=by rw[List.findIdx_eq d];refine⟨by simpa[bm,aq d]using h,λj f=> ?_⟩;have:=e j f;simpa[bm,aq (show j<c.length by omega)]using this
 unfold px;rw[this,if_pos d]
def JI{a:Int}{b:Bool}{d:List (Int×Bool)}(g:∀j,j<d.length->kM a b (d.getD j (0,au))=au):px a b d= -1:=by unfold px;rw[if_neg];intro c;have e:=List.findIdx_getElem (w:=c);have f:=g _ c;simp only[bm,aq c,bI]at f;rw[f]at e;exact absurd e (by simp)
def Mb(a:Int)(b:Bool)(c:List (Int×Bool)):decide (0<=px a b c)=ou a b c:=by
 unfold px ou;by_cases h:c.findIdx (kM a b)<c.length;rw[if_pos h];have:=List.findIdx_getElem (w:=h);have d:c.any (kM a b)=ar:=j4.2 ⟨_,aR h,this⟩;rw[d];simp;rw[if_neg h];have d:c.any (kM a b)=au:=by rw[List.any_eq_false];intro x e hp;exact h (List.findIdx_lt_length_of_exists ⟨x,e,hp⟩)
 rw[d];simp
def Df(A:Option Addr)(c:Nat)(d:List (Int×Bool))(a:Int)(b:Bool)(w:ai)(h:w.ownsRow 0 172 2 (.slice A d.length c) d.length (d.flatMap rB))(U:d.length<=1000000):Calls aj 248 #[.slice A d.length c,.agg #[.int .i64 a,.bool b]] w λe s=>e=.returned (.int .i64 (px a b d))/\Below w.heap.size w s:=by
 have H:=af h;clear h;go_enter func248,ntmps248;go_upto_region 1 with(fail)
 refine b9 (λs=>cD s w.heap.size 172 #[.int .i64 a,.bool b]/\Below w.heap.size w s) ⟨cD.new _ _ _,(Below.refl _ _).alloc (av _) _⟩ ?_;rintro C ⟨u,v⟩;have D:=af u;have t:=af v;clear u v;go_wp2_with fail;go_loopw [8] (λi s=>∃k:Nat,k<=d.length/\i=.int .i64 k/\(∀j,j<k->kM a b (d.getD j (0,au))=au)/\Below C.heap.size C s) (λi _=>d.length-(intOf i).toNat)
 case atStart=>exact⟨0,by omega,rfl,λj P=>by omega,Below.refl _ _⟩
 case round=>
  obtain⟨k,T,rfl,p,B⟩:=hrel;have f:=af p;have m:Hid (Below w.heap.size w wr):=t.out.trans (B.mono t.out.size);have o:Hid (Below C.heap.size C wr):=B;have E:=af (D.out.after B);clear p B;by_cases z:k<d.length
  ·have Q:(k:Int)<d.length:=by omega
   have l:=mW H.out m.out;obtain⟨g,rfl,q⟩:=xL l z;have J:=(l.lt g rfl).2;have G:Hid (kM a b (d.getD k (0,au))=ar->px a b d=k):=λh=>Qi z h f.out
   have O:Hid (kM a b (d.getD k (0,au))=kM a b (d.getD k (0,au))):=rfl;generalize N:d.getD k (0,au)=x at *;obtain⟨x,y⟩:=x;have F:=af N;clear N O l;have R:∀n:After wr,row? n.w g (k *2) 2=ae #[.int .i64 x,.bool y]:=λn=>(fT n.below J _ _).trans q
   have S:∀n:After wr,row? n.w w.heap.size 0 2=ae #[.int .i64 a,.bool b]:=λn=>(E.out.after n.below).row 0 2 (av 2)
   have I:∀W,(binOp .eql 172 (.agg #[.int .i64 a,.bool b]) (.agg #[.int .i64 x,.bool y])).run aj W=.ok (.bool (kM a b (x,y))) W:=λW=>HZ a x b y W
   clear q;cases hp:kM a b (x,y);all_goals
    have M:=af hp;rw[hp]at I;clear hp;go_upto_region 4 with(fail)
    refine bV (by kernel_rfl) (by kernel_rfl) ?_;repeat(go_big_quiet_step (fail))
    refine wpQuiet_nil ?_;rintro _ ⟨n,rfl⟩;go_wp2_with fail
   ·go_roundw
    case rel=>refine⟨k+1,by omega,by go_num,λj P=> ?_,o.out.trans (n.below.mono o.out.size)⟩;by_cases K:j=k;rw[K,F.out];exact M.out;exact f.out j (by omega)
    simp[intOf];omega
   have r:Hid (px a b d=k):=G.out M.out;go_ret;exact⟨eH r.out.symm,m.out.trans (n.below.mono m.out.size)⟩
  have L:k=d.length:=by omega
  subst L;have r:Hid (px a b d= -1):=JI f.out;go_wp2_with fail;go_ret;exact⟨eH r.out.symm,m.out⟩
def Iv(A:Option Addr)(c:Nat)(d:List (Int×Bool))(a:Int)(b:Bool)(w:ai)(h:w.ownsRow 0 172 2 (.slice A d.length c) d.length (d.flatMap rB))(o:d.length<=1000000):Calls aj 241 #[.slice A d.length c,.agg #[.int .i64 a,.bool b]] w λe j=>e=.returned (.bool (ou a b d))/\Below w.heap.size w j:=by
 have H:=af h;have n:Hid (decide (0<=px a b d)=ou a b d):=Mb a b d;clear h;go_enter func241,ntmps241;go_upto_region 1 with(fail)
 refine b9 (λj=>cD j w.heap.size 172 #[.int .i64 a,.bool b]/\Below w.heap.size w j) ⟨cD.new _ _ _,(Below.refl _ _).alloc (av _) _⟩ ?_;rintro m ⟨g,i⟩;have q:row? m w.heap.size 0 2=ae #[.int .i64 a,.bool b]:=g.row 0 2 (av 2);have f:=af i;clear g i;go_wp2_with fail;refine(Df A c d a b m (mW H.out f.out) o).mono ?_;rintro e p ⟨rfl,l⟩;have k:Hid (Below w.heap.size w p):=f.out.trans (l.mono f.out.size);go_wp2_with fail;go_ret;exact⟨dw n.out,k.out⟩
def jJ:List (Int×Bool)->List Int->Option (List (Int×Bool))|ls,[]=>ae ls|ls,k::r=>if(ls.getD k.toNat (0,au)).2 then ah else jJ (ls.set k.toNat ((ls.getD k.toNat (0,au)).1,ar)) r
def o5(gY live:List Int):Option (List (Int×Bool))×Int:=
 if 60<gY.length then(ah,2)else if nZ jH gY then(ah,1)else if nZ (lk gY.length) live then(ah,5)
 else match jJ (gY.map λg=>(g,au)) live with|none=>(ah,6)|some a=>if ou 1000000 ar a then(ah,1)else(ae a,0)
def Ei:∀(live:List Int)(b a:List (Int×Bool)),jJ b live=ae a->a.length=b.length|[],b,a,h=>by simp[jJ]at h;rw[h]|k::r,b,a,h=>by unfold jJ at h;split at h;cases h;rw[Ei r _ _ h];simp
def U4(w:ai)(x:Option (List (Int×Bool))×Int)(e:Ending)(a:ai):Prop:=
 Below w.heap.size w a/\match x with
  |(ah,n)=>e=.returned (.tuple #[.pointer ah,.int .i64 n])|(ae b,n)=>∃p,e=.returned (.tuple #[.pointer (ae ⟨p,0,ah⟩),.int .i64 n])/\ea a p b (λk=>w.heap.size<=k)
def oy:∀(a b:List Int)(c:List (Int×Bool)),jJ c (a++b)=(jJ c a).bind λl=>jJ l b|[],b,c=>rfl|k::a,b,c=>by rw[cW,jJ,jJ];split;rfl;exact oy a b _
def Lp{a b:List (Int×Bool)}{l:List Int}{k:Nat}(c:k<l.length)(h:jJ a (l.take k)=ae b)(d:(b.getD l[k].toNat (0,au)).2=ar):jJ a l=ah:=by rw[<-List.take_append_drop k l,oy,h,List.drop_eq_getElem_cons c,kH,jJ,if_pos d]
def Lq{a b:List (Int×Bool)}{l:List Int}{k:Nat}(c:k<l.length)(h:jJ a (l.take k)=ae b)(d:(b.getD l[k].toNat (0,au)).2=au):jJ a (l.take (k+1))=ae (b.set l[k].toNat ((b.getD l[k].toNat (0,au)).1,ar)):=by rw[aU c,oy,h,kH,jJ,if_neg (by rw[d];simp),jJ]
def Rp{n:Nat}{l:List Int}(h:nZ (lk n) l=au){x:Int}(a:x∈l):0<=x/\x<n:=by unfold nZ at h;rw[List.any_eq_false]at h;have:=h x a;simp[lk]at this;omega
def SU(A A':Option Addr)(c c':Nat)(gY live:List Int)(w:ai)(h:fP w w.heap.size A gY.length gY)(h':fP w w.heap.size A' live.length live)(hn:gY.length<=maxLen)(P:live.length<=maxLen):Calls aj 213 #[.slice A gY.length c,.slice A' live.length c'] w (U4 w (o5 gY live)):=by
 have H:=af h;have H':=af h';have HN:=af hn;have HN':=af P;have hm1:(gY.length:Int)<=9223372036854775807:=by unfold maxLen at hn;omega
 have XJ:(live.length:Int)<=9223372036854775807:=by unfold maxLen at P;omega
 clear h h' hn P;by_cases D:60<gY.length
 ·have s:Hid (o5 gY live=(ah,2)):=by unfold Hid o5;rw[if_pos D]
  have V:(60:Int)<gY.length:=by omega
  go_enter func213,ntmps213;go_wp2_with fail
  go_ret2
  rw[s.out];exact⟨(Below.refl _ _).alloc (av _) _,rfl⟩
 have V:(gY.length:Int)<=60:=by omega
 have W:gY.length<=60:=by omega
 go_enter func213,ntmps213;go_upto_region 1 with(fail)
 refine b9 (λy=>cD y w.heap.size 32 #[.slice A gY.length c]/\Below w.heap.size w y) ⟨cD.new _ _ _,(Below.refl _ _).alloc (av _) _⟩ ?_;rintro l ⟨J,n⟩;have HB1:=af J;have b:=af n;have c1:l.cell? ⟨w.heap.size,0,ah⟩=ae (.slice A gY.length c):=J.cell 0;have r1:fP l l.heap.size A gY.length gY:=(H.out.below n).more n.size;have r2:fP l l.heap.size A' live.length live:=(H'.out.below n).more n.size;have R1:=af r1;have R2:=af r2;clear J n r1 r2;go_wp2_with fail;refine(vJ A c gY l R1.out HN.out).mono ?_;rintro e y ⟨rfl,rfl⟩;cases hG:nZ jH gY;rotate_left
 ·have s:Hid (o5 gY live=(ah,1)):=by unfold Hid o5;rw[if_neg D,if_pos hG]
  clear hG;go_wp2_with fail
  go_ret2
  rw[s.out];exact⟨b.out,rfl⟩
 have HG:=af hG;clear hG;go_wp2_with fail;refine(vK w.heap.size gY.length A c A' c' live l c1 W R2.out HN'.out).mono ?_;rintro e y ⟨rfl,rfl⟩;cases hI:nZ (lk gY.length) live;rotate_left
 ·have s:Hid (o5 gY live=(ah,5)):=by unfold Hid o5;rw[if_neg D,if_neg (by rw[HG.out];simp),if_pos hI]
  clear hI;go_wp2_with fail
  go_ret2
  rw[s.out];exact⟨b.out,rfl⟩
 have HI:=af hI;clear hI;go_wp2_with fail;refine(Np l).mono ?_;rintro e w2 ⟨rfl,UJ,uE⟩;have HS2:Hid (ea w2 l.heap.size [] (λq=>l.heap.size<=q)):=UJ.mono λk _ j=>by rcases j with j|j;exact absurd j (by simp);exact j.1
 have R:=af uE;clear UJ uE;have c2:w2.cell? ⟨w.heap.size,0,ah⟩=ae (.slice A gY.length c):=(R.out.cell (p:=⟨w.heap.size,0,ah⟩) (lp _ _ c1)).trans c1;generalize hp:l.heap.size=p at *;have HP:=af hp;clear hp c1;go_wp2_with fail;go_loopw [25] (λi y=>∃k:Nat,k<=gY.length/\i=.int .i64 k/\ea y p ((gY.take k).map λg=>(g,au)) (λq=>p<=q)/\Below p l y) (λi _=>gY.length-(intOf i).toNat)
 case atStart=>exact⟨0,by omega,rfl,HS2.out,R.out⟩
 case round=>
  clear c2;obtain⟨k,j,rfl,hs,Z⟩:=hrel;have E:=af hs;have z:=af Z;clear hs Z;by_cases v:k<gY.length
  ·have K1:(k:Int)<gY.length:=by omega
   obtain⟨g,o,rfl,L,u,hc⟩:=R1.out.at_ v;have hc':wr.cell? ⟨g,o+k,ah⟩=ae (.int .i64 gY[k]):=(z.out.cell (p:=⟨g,o+k,ah⟩) L).trans hc;have hN:Hid ((gY.take (k+1)).map (λg=>(g,au))=(gY.take k).map (λg=>(g,au))++[(gY[k],au)]):=by unfold Hid;rw[aU u,dZ];rfl
   have hlen:Hid (((gY.take k).map λg=>(g,au)).length=k):=by unfold Hid;simp;omega
   clear hc;generalize X:(gY.take (k+1)).map (λg=>(g,au))=ls' at *;have HL':=af X;clear X;generalize (gY.take k).map (λg=>(g,au))=a at *;generalize gY[k]=x at *;have t:iL 170 172 2 rB wr p a (λq=>p<=q):=E.out;obtain⟨A2,c3,f1,f2,f3,f4,I,U,Q,f8⟩:=t.slice;have HC:=af t;have F5:=af I;have N:a.length<=60:=by rw[hlen.out];omega
   obtain⟨i0,D2,D4,D5,Cy⟩:=info_parts Bn;clear t I U Q f8 f2 f3 f4;go_wp2_with (at_builtin;refine ep rfl _ _ _ rfl 0 172 i0 _ 2 16 underlying168 D2 D4 D5 Cy rfl (by decide) (.slice A2 a.length c3) a.length (a.flatMap rB) rfl F5.out [.int .i64 x,.bool au] rfl rfl (by simp[fX]) (by unfold maxLen;omega) (by omega) (bF _) ?_);intro v' w3 d K Y;obtain⟨A4,c4,rfl,_,_,_⟩:=cu d;obtain⟨g1,g2,g3,g4⟩:=HC.out.append (x:=(x,au)) f1 d K Y;have G3:Hid (ea (w3.setCell ⟨p,0,ah⟩ (.slice A4 (a.length+1) c4)) p ls' (λq=>p<=q)):=by unfold Hid;rw[hN.out];exact g3.mono λk _ j=>by rcases j with j|j;exact j;have:=HC.out.lt;omega
   have G4:Hid (Below p l (w3.setCell ⟨p,0,ah⟩ (.slice A4 (a.length+1) c4))):=z.out.trans (g4.below (by have:=HC.out.lt;omega) λk _ h=>h);clear g3 g4 d K Y f1;go_wp2_with fail;go_roundw
   case rel=>exact⟨k+1,by omega,by go_num,by rw[HL'.out];exact G3.out,G4.out⟩
   simp[intOf];omega
  have M:k=gY.length:=by omega
  subst M;rw[cE]at E;clear v j;go_wp2_with fail;have HN2:Hid (((gY.map λg=>(g,au)):List (Int×Bool)).length=gY.length):=by unfold Hid;rw[bu]
  have F:Hid (o5 gY live=match jJ (gY.map λg=>(g,au)) live with|none=>(ah,6)|some a=>if ou 1000000 ar a then(ah,1)else(ae a,0)):=by unfold Hid o5;rw[if_neg D,if_neg (by rw[HG.out];simp),if_neg (by rw[HI.out];simp)]
  generalize (gY.map λg=>(g,au))=f at *;go_loopw [43] (λi y=>∃k:Nat,k<=live.length/\i=.int .i64 k/\∃a,jJ f (live.take k)=ae a/\ea y p a (λq=>p<=q)/\Below p l y) (λi _=>live.length-(intOf i).toNat)
  case atStart=>exact⟨0,by omega,rfl,f,rfl,E.out,z.out⟩
  obtain⟨k,j,rfl,a,O,hs,Z⟩:=hrel;have E:=af hs;have z:=af Z;have HM:=af O;have N:Hid (a.length=gY.length):=(Ei _ _ _ O).trans HN2.out;clear hs Z O;obtain⟨A2,c3,f1,f2,f3,f4,I,U,Q⟩:=E.out.facts;have F5:=af I;by_cases v:k<live.length
  ·have K1:(k:Int)<live.length:=by omega
   obtain⟨g,o,rfl,L,u,hc⟩:=R2.out.at_ v;have hc':wr.cell? ⟨g,o+k,ah⟩=ae (.int .i64 live[k]):=(z.out.cell (p:=⟨g,o+k,ah⟩) L).trans hc;obtain⟨hx0,hx1⟩:=Rp HI.out (aR u);have B:Hid ((a.getD live[k].toNat (0,au)).2=ar->jJ f live=ah):=λh=>Lp u HM.out h
   have C:Hid ((a.getD live[k].toNat (0,au)).2=au->jJ f (live.take (k+1))=ae (a.set live[k].toNat ((a.getD live[k].toNat (0,au)).1,ar))):=λh=>Lq u HM.out h
   clear hc;generalize live[k]=x at *;obtain⟨m,rfl⟩:∃m:Nat,x=m:=⟨x.toNat,by omega⟩;rw[dT]at B C;have XK:m<a.length:=by rw[N.out];omega
   have hmi:(m:Int)<a.length:=by omega
   obtain⟨q,rfl,hg1,hg2,K,hg4,hg5,hg6,hg7,hg8,hg9⟩:=Q m XK;have T:=af (E.out.live XK f1 ar);cases r:(a.getD m (0,au)).2
   ·have HT:=af (C.out r);rw[r]at hg9;clear r hg7 hg8 I U Q B C hg4 hg6 f3 f4;go_wp2_with fail;go_roundw
    case rel=>exact⟨k+1,by omega,by go_num,_,HT.out,T.out.1,z.out.trans (T.out.2.below (by have:=E.out.lt;omega) λk _ h=>h)⟩
    simp[intOf];omega
   have HT:=af (B.out r);have s:Hid (o5 gY live=(ah,6)):=by unfold Hid;rw[F.out,HT.out]
   rw[r]at hg9;clear r hg7 hg8 I U Q B C hg4 hg6 f3 f4;go_wp2_with fail
   go_ret2
   rw[s.out];exact⟨b.out.trans (z.out.mono (by rw[<-HP.out];exact b.out.size)),rfl⟩
  have M:k=live.length:=by omega
  subst M;rw[cE]at HM;clear v j I U Q;go_wp2_with fail;refine(Iv A2 c3 a 1000000 ar wr F5.out (by rw[N.out];omega)).mono ?_;rintro e w4 ⟨rfl,hb4⟩;have HSL:Hid (ea w4 p a (λq=>p<=q)):=E.out.only (G:=λ_=>False) (cY.fR hb4) (λ_ _ h=>h);have S:Hid (Below w.heap.size w w4):=b.out.trans ((z.out.mono (by rw[<-HP.out];exact b.out.size)).trans (hb4.mono (by have:=z.out.size;have:=b.out.size;omega)));have HPw:Hid (w.heap.size<=p):=by unfold Hid;rw[<-HP.out];exact b.out.size
  cases hH:ou 1000000 ar a
  ·have s:Hid (o5 gY live=(ae a,0)):=by unfold Hid;rw[F.out,HM.out];simp only[hH];rfl
   clear hH;go_wp2_with fail
   go_ret2
   rw[s.out];exact⟨S.out,p,rfl,HSL.out.mono λk _ h=>by have:=HPw.out;omega⟩
  have s:Hid (o5 gY live=(ah,1)):=by unfold Hid;rw[F.out,HM.out];simp only[hH];rfl
  clear hH;go_wp2_with fail
  go_ret2
  rw[s.out];exact⟨S.out,rfl⟩
end
def Ri(a:List (Int×Bool)):Prop:=a.length<=60/\∀x∈a,0<=x.1/\x.1<=1000000/\(x.2=ar->x.1<1000000)
def Ri.gY{b:List (Int×Bool)}(h:Ri b):Kn b:=λx a=>⟨(h.2 x a).1,(h.2 x a).2.1⟩
def Ri.nil:Ri []:=⟨by simp,by simp⟩
def we{a:List (Int×Bool)}{k:Nat}(h:k<a.length):a.getD k (0,au)=a[k]:=by simp[bm,aq h]
def W1{d:List (Int×Bool)}(h:Ri d):Ri (jq d).1:=by unfold jq;split;rename_i b;refine⟨by simpa using h.1,λx a=> ?_⟩;rcases List.mem_or_eq_of_mem_set a with a|rfl;exact h.2 x a;have c:=List.findIdx_getElem (w:=b);rw[we b];have:=h.2 _ (aR b);simp only[kJ,aG,decide_eq_true_eq]at c;exact⟨this.1,this.2.1,λ_=>c.2⟩;split;exact h;rename_i f;have e:=h.1;refine⟨by simp;omega,λx a=> ?_⟩;rcases gK.1 a with a|a;exact h.2 x a;rw[eC.1 a];exact⟨by decide,by decide,λ_=>by decide⟩
def Vx{f:List (Int×Bool)}(h:Ri f)(a b:Int):Ri (oa f a b).1:=by unfold oa;split;rename_i i;obtain⟨k,rfl,e,c⟩:=q9 i;refine⟨by simpa using h.1,λx d=> ?_⟩;rcases List.mem_or_eq_of_mem_set d with d|rfl;exact h.2 x d;rw[we e]at c;have:=h.2 _ (aR e);rw[c]at this;have g:=this.2.2 rfl;exact⟨by have:=this.1;simp only at this|-;omega,by simp only at g|-;omega,λh=>by cases h⟩;exact h
def Ee(a:List (Int×Bool)):∀k,k<=a.length->jJ ((db a).map λg=>(g,au)) ((lD a k).map (·.1))=ae (a.take k++(a.drop k).map λx=>(x.1,au))
 |0,_=>by simp[lD,jJ,qU]|k+1,h=>by
  rw[lD,dZ,oy,Ee a k (by omega),kH,we (by omega)];have d:a.drop k=a[k]::a.drop (k+1):=List.drop_eq_getElem_cons (by omega);have c:(a.take k).length=k:=by rw[dH];omega
  rw[aU (by omega),d,fq];generalize a[k]=x;obtain⟨g,b⟩:=x;cases b;simp[jJ];simp only[if_true,fq,List.map_nil];unfold jJ;have e:(a.take k++(g,au)::(a.drop (k+1)).map λx=>(x.1,au)).getD (Int.toNat (k:Int)) (0,au)=(g,au):=by rw[dT];simp only[bm];rw[kp (by omega),c,pI];rfl
  rw[e];simp only[cK,if_false,jJ,dm,dT];rw[mM _ _ (by omega),c,pI];simp
def Pe{b:List (Int×Bool)}(h:Ri b):o5 (db b) ((kN b).map (·.1))=(ae b,0):=by
 unfold o5;have c:(db b).length=b.length:=by rw[qU];simp
 have n:=h.1;have i:nZ jH (db b)=au:=by unfold nZ;rw[List.any_eq_false];intro x a;rw[qU]at a;obtain⟨y,e,rfl⟩:=aI.1 a;have:=h.2 y e;simp[jH];omega
 have d:∀k,∀x∈lD b k,0<=x.1/\x.1<k:=by
  intro k
  induction k with
  |zero=>simp[lD]|succ k o=>intro x a;rw[lD]at a;rcases gK.1 a with a|a;have:=o x a;omega;split at a;rw[eC.1 a];simp only;omega;cases a
 have j:nZ (lk (db b).length) ((kN b).map (·.1))=au:=by unfold nZ;rw[List.any_eq_false];intro x a;obtain⟨y,e,rfl⟩:=aI.1 a;have:=d _ y e;simp[lk,c];omega
 rw[if_neg (by rw[c];omega),i,j];have l:jJ ((db b).map λg=>(g,au)) ((kN b).map (·.1))=ae b:=by unfold kN;rw[Ee b _ (av _)];simp
 rw[l];have m:ou 1000000 ar b=au:=by unfold ou;rw[List.any_eq_false];intro x a;have:=h.2 x a;simp only[kM,aG,decide_eq_true_eq,not_and];intro p f;have:=this.2.2 f.symm;omega
 simp[m]
def pick(a:List (Int×Int))(n:Int):Int×Int:=a.getD (n % a.length).toNat (0,0)
section
open Go.RowKit Go.ChangeShapes Go.WideShapes Go.ChangeAt Go.Deep
end
section
open Go.RowKit Go.Shelf Go.Sort
section
variable{Z:Type} [Inhabited Z] {Y:Z->List ak} {k:Nat} {X:Ren} {G:Nat->Prop} {W w:ai} {l:List bU} {v:ak} {V:List Z}
def JK(Y:Z->List ak)(k:Nat)(w:ai)(g m:Nat)(d:Array Z):putRowK Y k (Sort.ahead w m) g 0 d=sortWorldK Y k w g 0 m d #[]:=by unfold sortWorldK;exact(grow_empty _).symm
def LV(L:SlLaysE0.n35 aj X)(o:∀w,(isAgg (X.t 23)).run aj w=.ok ar w)(I:∀w,(Go.sizeOf (X.t 23)).run aj w=.ok k w)(i:∀x,(Y x).length=k)(s:∀x,∀u∈Y x,u.oneCell'=ar)(E:az)(h:In G W (dR E k v V.length (V.flatMap Y)::l) w)(K:V.length<=1099511627776):Calls aj (X.f 35) #[v] w λe j=>e=.returned (.tuple #[])/\In G W (dR E k v V.reverse.length (V.reverse.flatMap Y)::l) j:=by
 obtain⟨J,⟨f,m⟩,_,a⟩:=h.open_;obtain⟨A,c,rfl,t,y,B⟩:=cu f;by_cases r:V.length=0;have H:V=[]:=fZ r;subst H;exact(AnyQ.slices_Reverse_empty L A c w).mono λe j ⟨g,F⟩=>⟨g,by rw[F];exact h⟩
 obtain⟨b,rfl⟩:=B (by omega);have d:=AnyQ.slices_Reverse L k o I Y i s b 0 c V.toArray w (wm i f) (by simp;omega);refine d.mono ?_;rintro e j ⟨g,n,rfl⟩;have z:V.toArray.reverse.size=V.length:=by simp
 have D:V.toArray.reverse.toList=V.reverse:=by simp
 refine⟨g,?_⟩;rw[JK];refine a (A':=dR E k (.slice (ae ⟨b,0,ah⟩) V.length c) V.reverse.length (V.reverse.flatMap Y)) ⟨?_,λq C=>bt (m q C)⟩ ((yt w b n _ #[]).mono λq _ e=>by subst e;exact m _ rfl);have:=AA i f n V.toArray.reverse z #[];rw[D]at this;have p:V.reverse.length=V.length:=List.length_reverse;rw[p]at this|-;exact this
end
def TK:Ren:=⟨λ|35=>130|n=>n,λ|0=>0|3=>3|4=>4|22=>122|23=>43|n=>n,λn=>n⟩
def TJ:SlLaysE0.n35 aj TK:={mixed:=by kernel_rfl,f35:=⟨f130.name,by decide,func130.trans (congrArg ae (by kernel_rfl))⟩,t0:=underlying0,a0:=Tryz.isAgg0,z0:=Tryz.sizeOf0,v0:=Tryz.zeroValue0,t3:=underlying3,a3:=Tryz.isAgg3,z3:=Tryz.sizeOf3,v3:=Tryz.zeroValue3,t4:=underlying4,a4:=Tryz.isAgg4,z4:=Tryz.sizeOf4,v4:=Tryz.zeroValue4,t22:=underlying122,a22:=Tryz.isAgg122,z22:=Tryz.sizeOf122,v22:=Tryz.zeroValue122}
def Ju{G:Nat->Prop}{c w:ai}{l:List bU}{v:ak}{a:List Hd}(h:In G c (jz v a::l) w)(d:a.length<=1099511627776):Calls aj 130 #[v] w λe f=>e=.returned (.tuple #[])/\In G c (jz v a.reverse::l) f:=LV TJ Tryz.isAgg43 Tryz.sizeOf43 xn (λx u b=>by simp[hC]at b;rcases b with rfl|rfl<;>rfl) 43 h d
end
namespace Rel
open Go.Conc Go.ConcN
open Go.ConcR (KK WgAt rd wr Payload DC0 stA smA Bk)
section
variable{P:aO}
def sY(g o:Nat)(t:az):∀(vs:List ak)(i:Nat)(a:Array ak)(w:ai)(e:Array Event),w.heap[g]? =ae (.cells a t (0,0))->o+i+vs.length<=a.size->(∀v∈vs,v.oneCell'=ar)->∀f∈(storeCells ⟨g,o,ah⟩ vs i).events P w e,f∈e\/∃j,j<i+vs.length/\f=⟨.cell ⟨g,o+j,ah⟩,ar,au⟩
 |[],_,_,_,_,_,_,_=>λf h=>.inl (by simpa[storeCells]using h)|v::k,i,a,w,e,hg,hl,h1=>λf h=>by
  have n:o+i<a.size:=by simp at hl;omega
  have c:(⟨g,o,ah⟩:Addr).add i=⟨g,o+i,ah⟩:=by unfold Addr.add;split<;>simp_all
  have b:w.cell? ⟨g,o+i,ah⟩=ae a[o+i]:=by simp[b3,hg,n]
  have d:w.frozen? ⟨g,o+i,ah⟩=au:=by simp[World.frozen?,hg]
  have m:(store ((⟨g,o,ah⟩:Addr).add i) v).run P w=.ok () (w.setRow g (a.setIfInBounds (o+i) v)):=by rw[c,run_store P w _ v _ (h1 v (by simp)),b];simp[d,setCell_eq_setRow w g (o+i) a t (0,0) v hg]
  have l:(store ((⟨g,o,ah⟩:Addr).add i) v).events P w e=e.push ⟨.cell ⟨g,o+i,ah⟩,ar,au⟩:=by rw[c,events_store P w e _ v _ (h1 v (by simp)),b];simp only[d,cK,if_false];rfl
  simp only[storeCells,Sem.events_bind,m,Result.evThen_ok,l]at h;rcases sY g o t k (i+1) (a.setIfInBounds (o+i) v) (w.setRow g (a.setIfInBounds (o+i) v)) _ (setRow_heap w g a _ t _ hg) (by simp at hl|-;omega) (λx p=>h1 x (by simp[p])) f h with h|⟨j,hj,h⟩;rcases Array.mem_push.1 h with h|rfl;exact .inl h;exact .inr ⟨i,by simp,rfl⟩;exact .inr ⟨j,by simp;omega,h⟩
def sw{t c:az}{g o n:Nat}{w:ai}{vs:List ak}{a:Array ak}(k:(P.info? t).map (·.size)=ae n)(l:vs.length=n)(f:w.heap[g]? =ae (.cells a c (0,0)))(q:o+n<=a.size)(d:∀v∈vs,v.oneCell'=ar):∀e∈(dP t (.pointer (ae ⟨g,o,ah⟩)) (.agg vs.toArray)).events P w #[],∃j,j<n/\e=⟨.cell ⟨g,o+j,ah⟩,ar,au⟩:=by
 intro e b;obtain⟨i,m,p⟩:=aF.1 k;have h:(dP t (.pointer (ae ⟨g,o,ah⟩)) (.agg vs.toArray)).events P w #[]=(storeCells ⟨g,o,ah⟩ vs).events P w #[]:=by simp[dP,Instr.sureAddr,storeVar,sizeOf,typeInfo,m,p,fc,l]
 rw[h]at b;rcases sY g o c vs 0 a w #[] f (by omega) d e b with h|⟨j,r,h⟩;simp at h;exact⟨j,by omega,h⟩
def zQ{fn:Func}{p u:Tmp}{b:az}{k:Array Field}(h:fn.results=#[.cell p b,.tmp u])(a:Array ak)(w:ai){g n:Nat}(hp:a.getD p undef=.pointer (ae ⟨g,0,ah⟩))(q:P.underlying b=ae (.struct k))(m:(P.info? b).map (·.size)=ae n)(l:∀j,j<n->(w.cell? ⟨g,0+j,ah⟩).isSome){v:ak}(o:(loadVar b ⟨g,0,ah⟩).run P w=.ok v w):∀e∈(results fn a).events P w #[],∃d:Addr,e=⟨.cell d,au,au⟩/\d.block=g:=by
 have f:(results fn a).events P w #[]=(loadVar b ⟨g,0,ah⟩).events P w #[]:=by
  have c:a[p]?.getD undef=.pointer (ae ⟨g,0,ah⟩):=by rw[<-aV];exact hp
  simp only[results,h];simp[c,asAddr,o]
 have i:(dN b (.pointer (ae ⟨g,0,ah⟩))).events P w #[]=(loadVar b ⟨g,0,ah⟩).events P w #[]:=by simp[dN,Instr.sureAddr]
 rw[f,<-i];exact mo q m l
end
def Gs{P:aO}{main:Bool}{fr x:aY}{a:List aY}{w:ai}{F:Func}{v:ak}{b:Array Event}(hm:fr.mode=.returning)(e:fr.defers=[])(f:fr.kind=.normal)(c:P.funcs[fr.fn]? =ae F)(d:(results F fr.tmps).runT P w #[]=(.ok v w,b)):stepG P main (G fr (x::a)) w=.go (G (x.finish v) a) w (seen P fr.fn b++#[]):=by
 show stepG P main (jd fr (x::a)) w=_;rw[fS main fr _ _ (by rw[hm];simp),kW main fr _ _ e hm,c];simp only[phase,d];have:doReturn P main fr (x::a) ah v w=.go (jd (x.finish v) a) w #[]:=by unfold doReturn;simp only[f]
 rw[this];rfl
section
variable [Payload] {Z:Ph} {Y:Gh} {w:ai} {b:aY} {a:Act} {k:List Item} {X:List aY} {W:Array Oper} {i:Nat} {V:List Nat}
def Ph.WT.SO(O:Z.Ok){F:Func}{j:List Item}{g:aY}{f:Act}(v:ak)(t:b.kind=.normal)(q:a.defers=[])(s:Z.P.funcs[b.fn]? =ae F)(l:∀d,Z.dQ Y w d->(results F a.tmps).run Z.P d=.ok v d/\∀e∈(results F a.tmps).events Z.P d #[],Z.Acc Y e)(h:Z.WT Y (G (g.at (f.put ((W[i]?).bind (·.dst)) v) (.inRegion W V::k)) X) w):Z.WT Y (G {b.at a j with mode:=.returning} (g.at f (.inRegion W (i::V)::k)::X)) w:=by
 refine .step (λ_=>G (g.at (f.put ((W[i]?).bind (·.dst)) v) (.inRegion W V::k)) X) id (λc=>seen Z.P b.fn ((results F a.tmps).events Z.P c #[])++#[]) rfl (λc r=> ?_) λc r=> ?_
 obtain⟨p,n⟩:=l c r;have m:(results F a.tmps).runT Z.P c #[]=(.ok v c,(results F a.tmps).events Z.P c #[]):=by rw[Sem.runT_eq,p]
 refine⟨?_,tZ λe o=>n e ?_⟩;rw[Gs (fr:={b.at a j with mode:=.returning}) rfl q t s m,jr];rfl;rw[Array.append_empty]at o;exact iT _ _ e o;show Z.WT (Y.grow c c) _ c;rw[Gh.oD];exact h.rely O r
end
end Rel
abbrev sl(a:List (Int×Bool))(k:Nat):Int×Bool:=a.getD k (0,au)
def Ef(b:List (Int×Bool))(h:Int×Int):∀k,h∈lD b k↔∃j,j<k/\h=((j:Int),(sl b j).1)/\(sl b j).2=ar
 |0=>by simp[lD]|k+1=>by rw[lD,gK,Ef b h k];constructor;rintro(⟨j,e,a⟩|c);exact⟨j,by omega,a⟩;split at c;rename_i g;exact⟨k,by omega,eC.1 c,g⟩;cases c;rintro⟨j,e,a,d⟩;by_cases f:j=k;right;subst f;rw[if_pos d,a];simp;exact bt ⟨j,by omega,a,d⟩
def SR{a:List (Int×Bool)}{h:Int×Int}:h∈kN a↔∃j,j<a.length/\h=((j:Int),(sl a j).1)/\(sl a j).2=ar:=Ef a h _
def ym(a:List (Int×Bool)):∀k,k<=a.length->(lD a k).length=(a.take k).countP (·.2)|0,_=>by simp[lD]|k+1,h=>by rw[lD,bK,ym a k (by omega),aU (by omega),List.countP_append,we (by omega)];cases b:a[k].2<;>simp[b]
def Lj(a:List (Int×Bool)):(kN a).length=a.countP (·.2):=by unfold kN;rw[ym a _ (av _),cE]
def Ec{a:List (Int×Bool)}{k:Nat}(e:k<a.length)(b:Int):eh a k b=(decide ((sl a k).1=b)&&(sl a k).2):=by
 unfold eh;rw[dT];have c:decide ((0:Int)<=(k:Int))=ar:=by simp
 have d:decide ((k:Int)<(a.length:Nat))=ar:=by simpa using e
 rw[c,d];rfl
end Go.Proofs.YtknejlcijdngoaaGreat
