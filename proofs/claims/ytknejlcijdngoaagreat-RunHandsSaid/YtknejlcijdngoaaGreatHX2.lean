/- Several texts in one, made short by a program of mine. -/
import Derived.Test.YtknejlcijdngoaaGreatHX1
import Derived.Conc.CrowdComm
import Derived.Conc.CrowdStepC2
import Derived.Conc.Company
import Derived.Conc.CrowdRun
import Derived.Test.YtknejlcijdngoaaGreatProg
import Derived.WalkKit
import Derived.WalkSpells
import Derived.WalkLawsBesides
import Derived.Lib.Hide
import Derived.BigQuiet
import Derived.Shelf.Small.Bits
import Derived.Laws.StructEq
import Derived.Laws.ResultCell
import Derived.Laws.MakeOwn
import Derived.Deep.DeepCutAuto
import Derived.ProofKit
import Derived.OpenShut
import Derived.SizedLaws
import Derived.Deep.Slices
import Derived.StillTailTactics
import Derived.Conc.LeavingOf
set_option linter.defProp false
set_option linter.unusedVariables false
set_option linter.unusedSimpArgs false
set_option linter.unusedSectionVars false
set_option maxHeartbeats 16000000
set_option maxRecDepth 100000
open Array renaming empty_append->iK,getElem?_eq_getElem->aH,getElem?_eq_some_iff->aE,getElem?_map->gj,getElem?_modify->br,getElem?_setIfInBounds_ne->aJ,getElem?_setIfInBounds_self_of_lt->aK,mem_append->nz,mem_of_getElem?->rG,range->pH,replicate->dF
open Bool renaming and_eq_true->aG,false->au,true->ar
open Go renaming Frame->aY,FuncId->bG,Goroutine->aw,Operand->ca,Program->aO,TypeId->az,Value->ak,World->ai
open Go.Conc renaming mem_ofEvents->bk
open Go.ConcN renaming Mode->fa
open Go.ConcN.Mode renaming retag->oh
open Go.ConcR renaming mk->ia
open Go.Frame renaming enter->eG,finish_at->jr
open Go.Instr renaming buildSlice->fK,fill->fN,loadAt->dN,storeAt->dP
open Go.Lib renaming hid->af
open Go.MemAct renaming ofEvent->cQ,touch?->qy
open Go.MemOp renaming ofEvents->bZ
open Go.Proofs.Tryz renaming prog->aj
open Go.Region renaming wanted->bj
open Go.Result renaming andThen_ok->gT
open Go.Sem renaming run_bind->eD
open Go.Value renaming cells->fc,int->aS
open Go.World renaming block_lt_of_cell?->lp,cell?->b3,setChan->oj
open List renaming append_assoc->cM,append_nil->eM,ext_getElem?->iw,getD->bm,getElem?_drop->p6,getElem?_eq_getElem->aq,getElem?_eq_none->gi,getElem?_eq_some_iff->bz,getElem?_map->dx,getElem?_take->dS,getElem_mem->aR,length_append->bK,length_cons->ay,length_nil->aC,length_take->dH,map_cons->fq,mem_cons->b6,mem_iff_getElem->dn,mem_map->aI,mem_toArray->oi,nil_append->cg,not_mem_nil->gX,range->a6,range'->fJ,replicate->bD,size_toArray->aD,take_of_length_le->cB,take_succ_eq_append_getElem->aU
open List.range renaming loop->a7
open Nat renaming add_sub_cancel_left->ij,eq_zero_or_pos->mO,le_refl->av,le_trans->be,lt_of_lt_of_le->aW,lt_or_ge->dU,mul_le_mul_right->ik,one_mul->jF,strongRecOn->ly,zero_add->aZ,zero_le->bF
open Ne renaming symm->kG
open Option renaming map_eq_some_iff->aF,map_some->eT,none->ah,some->ae
open Option.some renaming inj->aX,injEq->dm
open Or renaming inl->bt,inr->bW
namespace Go.Proofs.YtknejlcijdngoaaGreat
open Go.Proofs.Tryz
namespace Rel
open Go.Conc Go.ConcN
open Go.ConcR (KK WgAt rd wr mk Payload DC0 stA smA)
variable [Payload]
def dp(w:ai)(r:Nat):Option (az×Nat×Nat×Nat):=match w.heap[r]? with|some (.cells c a f)=>ae (a,c.size,f)|_=>ah
structure Ph where
 P:aO
 ty:az
 Wg:Nat
 Ch:Nat
 n:Nat
 nj:Nat
 lo:Nat
 jv:Nat->ak
 z:ak
 jB:Nat->Prop
 Std:Nat->Prop
 CB:Nat->Prop
 jl:Nat->Addr->Prop
 J0:Nat->ai->Prop
 JP:(Nat->Prop)->Nat->ai->Prop
structure Gh where
 own:Nat->Prop
 held:Nat->Prop
 over:Prop
def Gh.grow(a:Gh)(w w':ai):Gh:={a with own:=λb=>a.own b\/(w.heap.size<=b/\b<w'.heap.size)}
def Gh.hold(a:Gh)(i:Nat):Gh:={a with held:=λk=>a.held k\/k=i}
def Gh.close(a:Gh):Gh:={a with over:=True}
def tk:Loc->Option Nat|.cell a=>ae a.block|.obj r=>ae r|_=>ah
variable(φ:Ph)
structure Ph.dQ(γ:Gh) (w fx:ai):Prop where
 own:∀b,γ.own b->fx.heap[b]? =w.heap[b]?
 rd:∀b,φ.jB b->fx.heap[b]? =w.heap[b]?
 cell:∀i a,γ.held i->φ.jl i a->fx.cell? a=w.cell? a
 pay:∀b,φ.CB b->dp fx b=dp w b
 live:WgLive φ.ty φ.Wg w->WgLive φ.ty φ.Wg fx
 size:w.heap.size<=fx.heap.size
 tape:fx.tape=w.tape
 os:fx.os=w.os
 output:fx.output=w.output
def Ph.Acc(c:Gh)(e:Event):Prop:=(∃m,e=⟨.mark m,au,ar⟩/\(m=.noRoom\/∃f,m=.extern f))\/(e.sync=au/\∃b,tk e.loc=ae b/\(c.own b\/(∃i a,c.held i/\φ.jl i a/\e.loc=.cell a)\/(e.write=au/\φ.jB b)))
structure Ph.uP(γ:Gh) (w w':ai) (es:Array Event):Prop where
 rest:∀b,b<w.heap.size->¬γ.own b->¬φ.CB b->w'.heap[b]? =w.heap[b]?
 cells:∀a,φ.CB a.block->(∀i,γ.held i->¬φ.jl i a)->w'.cell? a=w.cell? a
 pay:∀b,φ.CB b->dp w' b=dp w b
 size:w.heap.size<=w'.heap.size
 tape:w'.tape=w.tape
 os:w'.os=w.os
 output:w'.output=w.output
 ev:∀e∈es,φ.Acc (γ.grow w w') e
def Ph.got(g:aw)(v:ak)(open_:Bool):aw:=Go.Conc.served g (.tuple #[v,.bool open_])
def Ph.Oj(a:Gh)(g:aw)(w:ai):Prop:=
 ∃C v m,a.over/\a.own C/\(∀i,a.held i->φ.JP (λb=>a.own b/\b≠C) i w)/\PayAt C 1 w/\
  Goes φ.P au (RW φ.ty φ.Wg C 1 0 0) (DWs φ.Wg (λ_ _=>False) (λ_ _=>False) C 1 1) (AtR0 φ.P φ.ty φ.Wg C 1 0 1 v) m g w
inductive Ph.WT:Gh->aw->ai->Prop
 |tail {γ:Gh} {g:aw} {w:ai}:φ.Oj γ g w->Ph.WT γ g w
 |step {γ:Gh} {g:aw} {w:ai} (g':ai->aw) (w':ai->ai) (es:ai->Array Event):g.status=.running->
   (∀fx,φ.dQ γ w fx->stepG φ.P au g fx=.go (g' fx) (w' fx) (es fx)/\φ.uP γ fx (w' fx) (es fx))->
   (∀fx,φ.dQ γ w fx->Ph.WT (γ.grow fx (w' fx)) (g' fx) (w' fx))->Ph.WT γ g w
 |recv {γ:Gh} {g:aw} {w:ai}:g.status=.running->
   (∀fx,φ.dQ γ w fx->stepG φ.P au g fx=.comm g #[rcase φ.Ch φ.z] ar (.recv ar) fx #[])->
   (∀fx i,φ.dQ γ w fx->i<φ.nj->¬γ.held i->φ.J0 i fx->Ph.WT (γ.hold i) (Ph.got g (φ.jv i) ar) fx)->
   (∀fx,φ.dQ γ w fx->Ph.WT γ.close (Ph.got g φ.z au) fx)->Ph.WT γ g w
structure Ph.Ok:Prop where
 hCW:φ.Ch≠φ.Wg
 rdW:¬φ.jB φ.Wg
 rdC:¬φ.jB φ.Ch
 Oz:¬φ.CB φ.Wg
 cbC:¬φ.CB φ.Ch
 Oy:∀b,φ.CB b->¬φ.jB b
 abx:¬φ.Std φ.Wg
 adr:¬φ.Std φ.Ch
 aaD:∀b,φ.CB b->¬φ.Std b
 la:∀i a,φ.jl i a->φ.CB a.block
 yi:∀i i' a,φ.jl i a->φ.jl i' a->i=i'
 jp:∀(o:Nat->Prop)(w fx:ai)(i:Nat),(∀b,o b->fx.heap[b]? =w.heap[b]?)->(∀a,φ.jl i a->fx.cell? a=w.cell? a)->φ.JP o i w->φ.JP o i fx
 j0:∀(w fx:ai)(i:Nat),(∀a,φ.jl i a->fx.cell? a=w.cell? a)->φ.J0 i w->φ.J0 i fx
 qm:∀(o o':Nat->Prop)(w:ai)(i:Nat),(∀b,o b->o' b)->φ.JP o i w->φ.JP o' i w
 wY:0<φ.lo
 n31:φ.n<2147483648
variable{φ}
def Ph.dQ.refl(a:Gh)(w:ai):φ.dQ a w w:=⟨λ_ _=>rfl,λ_ _=>rfl,λ_ _ _ _=>rfl,λ_ _=>rfl,id,av _,rfl,rfl,rfl⟩
def Ph.dQ.trans{d:Gh}{a b c:ai}(h:φ.dQ d a b)(k:φ.dQ d b c):φ.dQ d a c:=⟨λx y=>(k.own x y).trans (h.own x y),λx y=>(k.rd x y).trans (h.rd x y),λi x y z=>(k.cell i x y z).trans (h.cell i x y z),λx y=>(k.pay x y).trans (h.pay x y),k.live∘h.live,be h.size k.size,k.tape.trans h.tape,k.os.trans h.os,k.output.trans h.output⟩
def Ph.dQ.rw'{c:Gh}{C:Nat}(hC:c.own C){a b:ai}(h:φ.dQ c a b):RW φ.ty φ.Wg C 1 0 0 a b:=⟨λx g _ _=>absurd g (Nat.not_lt_zero _),h.live,λ⟨d,e,f⟩=>⟨d,(h.own C hC).trans e,f⟩,cell_of_block (h.own C hC) 0⟩
def Ph.Oj.rely(O:φ.Ok){f:Gh}{g:aw}{w c:ai}(h:φ.Oj f g w)(r:φ.dQ f w c):φ.Oj f g c:=by obtain⟨C,v,m,o,hC,n,⟨k,d,e⟩,l⟩:=h;exact⟨C,v,m,o,hC,λi j=>O.jp _ w c i (λb q=>r.own b q.1) (λa p=>r.cell i a j p) (n i j),⟨k,(r.own C hC).trans d,e⟩,Goes.rely (λ_ _ _ d e=>d.trans e) l (r.rw' hC)⟩
def Ph.WT.status{b:Gh}{g:aw}{w:ai}(h:φ.WT b g w):g.status=.running:=by
 cases h with|tail h=>obtain⟨C,v,m,_,_,_,_,a⟩:=h;exact Goes.running (λ_ _ x=>x.1) w (RW.refl w) a|step _ _ _ h _ _=>exact h|recv h _ _ _=>exact h
abbrev WX:=Gh×aw×ai
def Ph.Sub(φ:Ph)(y x:WX):Prop:=
 ¬φ.Oj x.1 x.2.1 x.2.2/\∃a,φ.dQ x.1 x.2.2 a/\
  ((∃es,stepG φ.P au x.2.1 a=.go y.2.1 y.2.2 es/\y.1=x.1.grow a y.2.2)\/
   (∃g b c es,stepG φ.P au x.2.1 a=.comm g b ar c a es/\y.2.2=a/\
     ((∃i,i<φ.nj/\¬x.1.held i/\φ.J0 i a/\y.1=x.1.hold i/\y.2.1=Ph.got x.2.1 (φ.jv i) ar)\/(y.1=x.1.close/\y.2.1=Ph.got x.2.1 φ.z au))))
def Ph.WT.acc{l:Gh}{g:aw}{w:ai}(h:φ.WT l g w):_root_.Acc φ.Sub (l,g,w):=by
 induction h with
 |tail h=>exact⟨_,λy j=>absurd h j.1⟩| @step l g w D w' es A c s B=>refine⟨_,?_⟩;rintro⟨q,t,C⟩ ⟨_,a,hrel,j⟩;obtain⟨k,_⟩:=c a hrel;rcases j with⟨m,b,d⟩|⟨_,_,_,_,b,_⟩;simp only at b d hrel;rw[k]at b;cases b;subst d;exact B a hrel;simp only at b;rw[k]at b;cases b
 | @recv l g w A c r v o p=>refine⟨_,?_⟩;rintro⟨q,t,C⟩ ⟨_,a,hrel,j⟩;have k:=c a hrel;rcases j with⟨m,b,d⟩|⟨_,_,_,_,b,d,u⟩;simp only at b;rw[k]at b;cases b;simp only at d;subst d;rcases u with⟨i,x,z,n,e,f⟩|⟨e,f⟩;simp only at e f;subst e;subst f;exact o _ i hrel x z n;simp only at e f;subst e;subst f;exact p _ hrel
end Rel
namespace Rel
open Go.Conc Go.ConcN
open Go.ConcR (KK WgAt rd wr mk Payload DC0 stA smA)
variable [Payload] (φ:Ph)
structure Ph.MR(μ:Nat->Prop) (w fx:ai):Prop where
 T8:∀b,φ.Std b->fx.heap[b]? =w.heap[b]?
 own:∀b,μ b->fx.heap[b]? =w.heap[b]?
 rd:∀b,φ.jB b->fx.heap[b]? =w.heap[b]?
 pay:∀b,φ.CB b->dp fx b=dp w b
 live:WgLive φ.ty φ.Wg w->WgLive φ.ty φ.Wg fx
 size:w.heap.size<=fx.heap.size
 tape:fx.tape=w.tape
 os:fx.os=w.os
 output:fx.output=w.output
def Ph.EvM(c:Nat->Prop)(e:Event):Prop:=
 e=⟨.mark .noRoom,au,ar⟩\/(∃a,a.block=φ.Wg/\(e=⟨.mark (.read a),au,ar⟩\/e=⟨.mark (.write a),au,ar⟩))\/
  (e.sync=au/\∃b,tk e.loc=ae b/\(c b\/(e.write=au/\φ.jB b)))
def Ph.DM(a:Nat->Prop)(w w':ai)(es:Array Event):Prop:=w'=w/\∀e∈es,φ.EvM a e
structure Ph.Al(w w':ai):Prop where
 rest:∀b,b<w.heap.size->w'.heap[b]? =w.heap[b]?
 size:w.heap.size<=w'.heap.size
 tape:w'.tape=w.tape
 os:w'.os=w.os
 output:w'.output=w.output
def sy(a:Nat->Prop)(w w':ai):Nat->Prop:=λb=>a b\/(w.heap.size<=b/\b<w'.heap.size)
abbrev Ph.GP(b:Nat->Prop)(a:aw->ai->Prop)(m:Nat)(g:aw)(w:ai):Prop:=Goes φ.P ar (φ.MR b) (φ.DM b) a m g w
section
variable(Z:Nat->Prop) (Y:aw->ai->Prop) (X:aw->ai->Prop)
def Ph.AtRet(g:aw)(w:ai):Prop:=g.status=.running/\Y g w
def Ph.AtAcq(g:aw)(w:ai):Prop:=g.status=.running/\∃a,stepG φ.P ar g w=.go a w #[ia (.acquire (stA φ.Wg))]/\∃m,φ.GP Z (Ph.AtRet Y) m a w
def Ph.AtKe(g:aw)(w:ai):Prop:=g.status=.running/\∃a,stepG φ.P ar g w=.go a w #[ia .enable]/\∃m,φ.GP Z (φ.AtAcq Z Y) m a w
def Ph.AtW4(g:aw)(w:ai):Prop:=g.status=.running/\(WgAt φ.ty φ.Wg w 0 0->∃a,stepG φ.P ar g w=.go a w #[rd (stA φ.Wg)]/\∃m,φ.GP Z (φ.AtKe Z Y) m a w)
def Ph.AtW3(g:aw)(w:ai):Prop:=
 g.status=.running/\g.offers=ah/\
  ((∃b,WgAt φ.ty φ.Wg w b 0)->stepG φ.P ar g w=.go {g with status:=.blocked} w #[])/\
  (WgAt φ.ty φ.Wg w 0 1->∃a,stepG φ.P ar g w=.go a (w.setCell (smA φ.Wg) (.int .u32 0)) (semEvents (smA φ.Wg))/\∃m,φ.GP Z (φ.AtW4 Z Y) m a (w.setCell (smA φ.Wg) (.int .u32 0)))
def Ph.AtW2(vs:Nat)(g:aw)(w:ai):Prop:=
 g.status=.running/\∀v:Nat,v<2147483648->WgAt φ.ty φ.Wg w (v*KK) 0->
  (v=vs->∃a,stepG φ.P ar g w=.go a (w.setCell (stA φ.Wg) (.int .u64 (v*KK+1))) #[rd (stA φ.Wg),wr (stA φ.Wg)]/\∃m,φ.GP Z (φ.AtW3 Z Y) m a (w.setCell (stA φ.Wg) (.int .u64 (v*KK+1))))/\
  (v≠vs->∃a,stepG φ.P ar g w=.go a w #[rd (stA φ.Wg)]/\∃m,φ.GP Z X m a w)
def Ph.AtW1(g:aw)(w:ai):Prop:=g.status=.running/\∀v:Nat,v<2147483648->WgAt φ.ty φ.Wg w (v*KK) 0->∃a,stepG φ.P ar g w=.go a w #[rd (stA φ.Wg)]/\(v=0->∃m,φ.GP Z (φ.AtKe Z Y) m a w)/\(v≠0->∃m,φ.GP Z (φ.AtW2 Z Y X v) m a w)
def Ph.AtKd(g:aw)(w:ai):Prop:=g.status=.running/\∃a,stepG φ.P ar g w=.go a w #[ia .disable]/\∃m,φ.GP Z X m a w
end
section
variable(Z:(Nat->Prop)->aw->ai->Prop) (Y:Nat->Prop)
def Ph.AtGoS(g:aw)(w:ai):Prop:=g.status=.running/\∃d a c,stepG φ.P ar g w=.spawn d a w #[]/\(∀b,c b->Y b)/\φ.WT ⟨c,λ_=>False,False⟩ a w/\Z (λb=>Y b/\¬c b) d w
def Ph.AtKeS(g:aw)(w:ai):Prop:=g.status=.running/\∃a,stepG φ.P ar g w=.go a w #[ia .enable]/\∃m,φ.GP Y (φ.AtGoS Z Y) m a w
def Ph.AtA1(g:aw)(w:ai):Prop:=
 g.status=.running/\∀v:Nat,v<2147483647->WgAt φ.ty φ.Wg w (v*KK) 0->
  ∃a,stepG φ.P ar g w=.go a (w.setCell (stA φ.Wg) (.int .u64 ((v+1)*KK))) #[rd (stA φ.Wg),wr (stA φ.Wg)]/\
   ∃m,φ.GP Y (φ.AtKeS Z Y) m a (w.setCell (stA φ.Wg) (.int .u64 ((v+1)*KK)))
def Ph.AtKdS(g:aw)(w:ai):Prop:=g.status=.running/\∃a,stepG φ.P ar g w=.go a w #[ia .disable]/\∃m,φ.GP Y (φ.AtA1 Z Y) m a w
def Ph.Q0(b:(Nat->Prop)->aw->ai->Prop)(g:aw)(w:ai):Prop:=g.status=.running/\∃a w' es,stepG φ.P ar g w=.go a w' es/\Ph.Al w w'/\(∀e∈es,φ.EvM (sy Y w w') e)/\∃m,φ.GP (sy Y w w') (b (sy Y w w')) m a w'
end
def Ph.Spawns(Fin:(Nat->Prop)->aw->ai->Prop):Nat->(Nat->Prop)->aw->ai->Prop
 |0,a,g,w=>Fin a g w|r+1,a,g,w=>∃m,φ.GP a (φ.Q0 a λa=>φ.Q0 a λa=>φ.AtKdS (Ph.Spawns Fin r) a) m g w
variable(Goal:aw->ai->Prop) (AnchW:(Nat->Prop)->aw->ai->Prop)
def Ph.Fin(a:Nat->Prop)(g:aw)(w:ai):Prop:=∃m,φ.GP a (φ.AtKd a (AnchW a)) m g w
inductive Ph.j6:CTag->Nat->Nat->(Nat->Prop)->aw->ai->Prop
 |Yk {r m:Nat} {μ:Nat->Prop} {g:aw} {w:ai}:r<φ.n->φ.GP μ (φ.Q0 μ λμ=>φ.Q0 μ λμ=>φ.AtKdS (φ.Spawns (φ.Fin AnchW) r) μ) m g w->Ph.j6 (.sp r 7) m 0 μ g w
 |al2 {r m:Nat} {μ:Nat->Prop} {g:aw} {w:ai}:r<φ.n->φ.GP μ (φ.Q0 μ λμ=>φ.AtKdS (φ.Spawns (φ.Fin AnchW) r) μ) m g w->Ph.j6 (.sp r 6) m 0 μ g w
 |skd {r m:Nat} {μ:Nat->Prop} {g:aw} {w:ai}:r<φ.n->φ.GP μ (φ.AtKdS (φ.Spawns (φ.Fin AnchW) r) μ) m g w->Ph.j6 (.sp r 5) m 0 μ g w
 |sa1 {r m:Nat} {μ:Nat->Prop} {g:aw} {w:ai}:r<φ.n->φ.GP μ (φ.AtA1 (φ.Spawns (φ.Fin AnchW) r) μ) m g w->Ph.j6 (.sp r 4) m 1 μ g w
 |ske {r m:Nat} {μ:Nat->Prop} {g:aw} {w:ai}:r<φ.n->φ.GP μ (φ.AtKeS (φ.Spawns (φ.Fin AnchW) r) μ) m g w->Ph.j6 (.sp r 3) m 1 μ g w
 |sgo {r m:Nat} {μ:Nat->Prop} {g:aw} {w:ai}:r<φ.n->φ.GP μ (φ.AtGoS (φ.Spawns (φ.Fin AnchW) r) μ) m g w->Ph.j6 (.sp r 2) m 0 μ g w
 |kd {m:Nat} {μ:Nat->Prop} {g:aw} {w:ai}:φ.GP μ (φ.AtKd μ (AnchW μ)) m g w->Ph.j6 .kd m 0 μ g w
 |anch {m:Nat} {μ:Nat->Prop} {g:aw} {w:ai}:φ.GP μ (AnchW μ) m g w->Ph.j6 .anch m 1 μ g w
 |w1 {m:Nat} {μ:Nat->Prop} {g:aw} {w:ai}:φ.GP μ (φ.AtW1 μ Goal (AnchW μ)) m g w->Ph.j6 .w1 m 1 μ g w
 |w2 {vs m:Nat} {μ:Nat->Prop} {g:aw} {w:ai}:φ.GP μ (φ.AtW2 μ Goal (AnchW μ) vs) m g w->Ph.j6 (.w2 vs) m 1 μ g w
 |w3 {m:Nat} {μ:Nat->Prop} {g:aw} {w:ai}:φ.GP μ (φ.AtW3 μ Goal) m g w->Ph.j6 .w3 (m+1) 1 μ g w
 |blk {μ:Nat->Prop} {g:aw} {w:ai}:(∀fx,φ.MR μ w fx->φ.AtW3 μ Goal g fx)->Ph.j6 .blk 0 1 μ {g with status:=.blocked} w
 |w4 {m:Nat} {μ:Nat->Prop} {g:aw} {w:ai}:φ.GP μ (φ.AtW4 μ Goal) m g w->Ph.j6 .w4 m 1 μ g w
 |ke {m:Nat} {μ:Nat->Prop} {g:aw} {w:ai}:φ.GP μ (φ.AtKe μ Goal) m g w->Ph.j6 .ke m 1 μ g w
 |acq {m:Nat} {μ:Nat->Prop} {g:aw} {w:ai}:φ.GP μ (φ.AtAcq μ Goal) m g w->Ph.j6 .acq m 0 μ g w
 |ret {m:Nat} {μ:Nat->Prop} {g:aw} {w:ai}:φ.GP μ (Ph.AtRet Goal) m g w->Ph.j6 .ret m 0 μ g w
section
variable{φ} {Z:aw->ai->Prop} {Y:(Nat->Prop)->aw->ai->Prop}
def Ph.MR.refl(a:Nat->Prop)(w:ai):φ.MR a w w:=⟨λ_ _=>rfl,λ_ _=>rfl,λ_ _=>rfl,λ_ _=>rfl,id,av _,rfl,rfl,rfl⟩
def Ph.MR.trans{d:Nat->Prop}{a b c:ai}(h:φ.MR d a b)(k:φ.MR d b c):φ.MR d a c:=⟨λx y=>(k.T8 x y).trans (h.T8 x y),λx y=>(k.own x y).trans (h.own x y),λx y=>(k.rd x y).trans (h.rd x y),λx y=>(k.pay x y).trans (h.pay x y),k.live∘h.live,be h.size k.size,k.tape.trans h.tape,k.os.trans h.os,k.output.trans h.output⟩
def Ph.j6.rely{tag:CTag}{f d:Nat}{g:Nat->Prop}{a:aw}{w w':ai}(h:φ.j6 Z Y tag f d g a w)(b:φ.MR g w w'):φ.j6 Z Y tag f d g a w':=by
 have c:∀x y z,φ.MR g x y->φ.MR g y z->φ.MR g x z:=λ_ _ _ k l=>k.trans l
 cases h with|Yk e h=>exact .Yk e (Goes.rely c h b)|al2 e h=>exact .al2 e (Goes.rely c h b)|skd e h=>exact .skd e (Goes.rely c h b)|sa1 e h=>exact .sa1 e (Goes.rely c h b)|ske e h=>exact .ske e (Goes.rely c h b)|sgo e h=>exact .sgo e (Goes.rely c h b)|kd h=>exact .kd (Goes.rely c h b)|anch h=>exact .anch (Goes.rely c h b)|w1 h=>exact .w1 (Goes.rely c h b)|w2 h=>exact .w2 (Goes.rely c h b)|w3 h=>exact .w3 (Goes.rely c h b)|blk h=>exact .blk (λj i=>h j (b.trans i))|w4 h=>exact .w4 (Goes.rely c h b)|ke h=>exact .ke (Goes.rely c h b)|acq h=>exact .acq (Goes.rely c h b)|ret h=>exact .ret (Goes.rely c h b)
def Ph.j6.status{tag:CTag}{f d:Nat}{e:Nat->Prop}{a:aw}{w:ai}(i:∀e g w,Y e g w->g.status=.running)(h:φ.j6 Z Y tag f d e a w):(a.status=.running/\tag≠.blk)\/(a.status=.blocked/\tag=.blk):=by
 have b:∀{c:aw->ai->Prop}{m:Nat},(∀g w,c g w->g.status=.running)->φ.GP e c m a w->a.status=.running:=λj h=>Goes.running j w (.refl e w) h
 cases h with|Yk _ h=>exact .inl ⟨b (λ_ _ x=>x.1) h,by simp⟩|al2 _ h=>exact .inl ⟨b (λ_ _ x=>x.1) h,by simp⟩|skd _ h=>exact .inl ⟨b (λ_ _ x=>x.1) h,by simp⟩|sa1 _ h=>exact .inl ⟨b (λ_ _ x=>x.1) h,by simp⟩|ske _ h=>exact .inl ⟨b (λ_ _ x=>x.1) h,by simp⟩|sgo _ h=>exact .inl ⟨b (λ_ _ x=>x.1) h,by simp⟩|kd h=>exact .inl ⟨b (λ_ _ x=>x.1) h,by simp⟩|anch h=>exact .inl ⟨b (i e) h,by simp⟩|w1 h=>exact .inl ⟨b (λ_ _ x=>x.1) h,by simp⟩|w2 h=>exact .inl ⟨b (λ_ _ x=>x.1) h,by simp⟩|w3 h=>exact .inl ⟨b (λ_ _ x=>x.1) h,by simp⟩|blk h=>exact .inr ⟨rfl,rfl⟩|w4 h=>exact .inl ⟨b (λ_ _ x=>x.1) h,by simp⟩|ke h=>exact .inl ⟨b (λ_ _ x=>x.1) h,by simp⟩|acq h=>exact .inl ⟨b (λ_ _ x=>x.1) h,by simp⟩|ret h=>exact .inl ⟨b (λ_ _ x=>x.1) h,by simp⟩
def Ph.j6.wokenBy{tag:CTag}{f d:Nat}{b:Nat->Prop}{a:aw}{w w':ai}(e:∀b g w,Y b g w->g.status=.running)(h:φ.j6 Z Y tag f d b a w)(p:φ.MR b w w')(g j:aw):∃tag' f',φ.j6 Z Y tag' f' d b (woken φ.P g j w' a) w'/\(tag'=tag\/(tag=.blk/\tag'=.w3))/\(mayWake φ.P g=ar->j.status=.running->tag'≠.blk):=by
 have c:=h.rely p;unfold Go.Conc.woken;split;rcases c.status e with⟨q,i⟩|⟨_,rfl⟩;exact⟨tag,f,by rw[again_running _ (.inl q)];exact c,.inl rfl,λ_ _=>i⟩;cases c with|blk l=>have k:=l w' (.refl b w');exact⟨.w3,0+1,by rw[Go.ConcR.again_blocked k.1 k.2.1];exact .w3 (Goes.stop l),.inr ⟨rfl,rfl⟩,λ_ _=>by simp⟩
 rename_i o;exact⟨tag,f,c,.inl rfl,λm n=>absurd (by simp[m,n]) o⟩
end
end Rel
namespace Rel
open Go.Conc Go.ConcN
open Go.ConcR (KK WgAt rd wr Payload DC0 stA smA)
inductive rN where
 |kV
 |tree (x:WX)
 |tail (d:WD)
def rN.wd:rN->WD|.kV=>⟨1,0,0⟩|.tree _=>⟨7,0,0⟩|.tail d=>d
section
variable [Payload] (Z:Ph)
def Ph.GV:rN->rN->Prop|.tail a,.tail b=>a.stage<b.stage\/(a.stage=b.stage/\a.fuel<b.fuel)|.tail _,.tree _=>True|.tail _,.kV=>True|.tree y,.tree x=>Z.Sub y x|.tree y,.kV=>_root_.Acc Z.Sub y|_,_=>False
variable{Z}
def G9(s m d:Nat):_root_.Acc Z.GV (.tail ⟨s,m,d⟩):=by
 have c:∀s m d,_root_.Acc Z.GV (.tail ⟨s,m,d⟩):=by
  intro s
  induction s using ly with
  |ind s k=>
   intro m
   induction m using ly with
   |ind m b=>
    intro d;refine⟨_,λy a=> ?_⟩;cases y with
    |kV=>exact a.elim|tree x=>exact a.elim|tail e=>obtain⟨l,j,f⟩:=e;rcases a with h|⟨g,i⟩;exact k l h j f;simp only at g i;subst g;exact b j i f
 exact c s m d
def G'{x:WX}(h:_root_.Acc Z.Sub x):_root_.Acc Z.GV (.tree x):=by
 induction h with
 |intro x _ b=>
  refine⟨_,λy a=> ?_⟩;cases y with|kV=>exact a.elim|tree y=>exact b y a|tail e=>obtain⟨s,m,d⟩:=e;exact G9 s m d
def Ks:_root_.Acc Z.GV .kV:=by
 refine⟨_,λy a=> ?_⟩;cases y with|kV=>exact a.elim|tree y=>exact G' a|tail e=>obtain⟨s,m,d⟩:=e;exact G9 s m d
def vlt(r:rN->rN->Prop)(n:Nat)(a S:Nat->rN):Prop:=∃i,i<n/\r (a i) (S i)/\∀k,k≠i->a k=S k
def U9{r:rN->rN->Prop}:∀(n:Nat)(S:Nat->rN),(∀i,i<n->_root_.Acc r (S i))->_root_.Acc (vlt r n) S:=by
 intro n
 induction n with
 |zero=>intro S _;exact⟨_,λc ⟨i,h,_⟩=>absurd h (Nat.not_lt_zero _)⟩|succ n t=>
  intro S b;have q:∀x,_root_.Acc r x->∀S,S n=x->_root_.Acc (vlt r n) S->(∀i,i<n->_root_.Acc r (S i))->_root_.Acc (vlt r (n+1)) S:=by
   intro x s
   induction s with
   |intro x s p=>
    intro S f a
    induction a with
    |intro S a o=>
     intro b;refine⟨_,?_⟩;rintro c ⟨i,h,l,g⟩;rcases dU i n with m|u;refine o c ⟨i,m,l,g⟩ ((g n (by omega)).trans f) λk j=> ?_
     by_cases e:k=i;subst e;exact(b k j).inv l;rw[g k e];exact b k j;obtain rfl:i=n:=by omega
     have d:∀k,k<i->_root_.Acc r (c k):=λk j=>by rw[g k (by omega)];exact b k j
     exact p (c i) (f▸l) c rfl (t c d) d
  exact q (S n) (b n (by omega)) S rfl (t S λi h=>b i (by omega)) λi h=>b i (by omega)
abbrev Mu:=(Nat->rN)×(Nat×(Nat×Nat))
variable(Z)in
def Ph.Ps:Mu->Mu->Prop:=Prod.Lex (vlt Z.GV Z.n) (Prod.Lex (· < ·) (Prod.Lex (· < ·) (· < ·)))
def U8(S:Nat->rN)(h:∀i,i<Z.n->_root_.Acc Z.GV (S i))(p:Nat×(Nat×Nat)):_root_.Acc Z.Ps (S,p):=by have a:WellFounded (Prod.Lex (· < ·) (Prod.Lex (· < ·) (· < ·)):Nat×(Nat×Nat)->Nat×(Nat×Nat)->Prop):=(Prod.lex Nat.lt_wfRel (Prod.lex Nat.lt_wfRel Nat.lt_wfRel)).wf;exact Prod.lexAccessible (U9 Z.n S h) (λb=>a.apply b) p
def WG{P:aO}{f:Type}{r:f->f->Prop}(Inv:f->Machine->Trace->Prop)(Q:Machine->Trace->Prop)(h:∀c m t,Inv c m t->Q m t\/∃d a b,stepT P m=(.next d,a)/\r b c/\Inv b d (t++a)):∀c,_root_.Acc r c->∀m t,Inv c m t->∃N d g,runNT P N m t=(.next d,g)/\Q d g:=by
 intro c l
 induction l with
 |intro c _ q=>intro m t k;rcases h c m t k with n|⟨d,a,b,p,o,e⟩;exact⟨0,m,t,rfl,n⟩;obtain⟨N,s,u,i,j⟩:=q b o d (t++a) e;exact⟨N+1,s,u,by rw[runNT_succ_next p];exact i,j⟩
end
section
variable [Payload] (φ:Ph)
def Ph.aav(c:Gh)(l:Loc):Prop:=(∃b,tk l=ae b/\c.own b)\/∃i a,c.held i/\φ.jl i a/\l=.cell a
def Ph.qk(c:Nat->Gh)(j:Nat)(d:Nat->Prop):ja where
 own:=λk l=>∃i,i<j/\k=φ.lo+i/\φ.aav (c i) l
 fr:=λl=>∃q a,(∀i,i<j->¬(c i).held q)/\φ.jl q a/\l=.cell a
 rd:=λl=>∃b,tk l=ae b/\φ.jB b
 mine:=λl=>∃b,tk l=ae b/\d b
 sh:=ShN φ.Wg
structure Ph.QG(B0:Nat) (γ:Nat->Gh) (j:Nat) (μ:Nat->Prop) (sz:Nat):Prop where
 Hx:∀i i' b,i<j->i'<j->(γ i).own b->(γ i').own b->i=i'
 mine:∀i b,i<j->(γ i).own b->¬μ b
 zh:∀i b,i<j->(γ i).own b->B0<=b/\b<sz
 ve:∀b,μ b->B0<=b/\b<sz
 Ae:∀i i' q,i<j->i'<j->(γ i).held q->(γ i').held q->i=i'
 l6:∀i q,i<j->(γ i).held q->q<φ.nj
 sz:B0<=sz
 B:φ.Wg<B0/\φ.Ch<B0/\(∀b,φ.jB b->b<B0)/\∀b,φ.CB b->b<B0
 st:∀b,φ.Std b->b<B0
def Ph.zB(a:Gh):rN->aw->ai->Prop
 |.kV,_,_=>False|.tree x,g,w=>x.1=a/\x.2.1=g/\φ.WT a g x.2.2/\φ.dQ a x.2.2 w|.tail d,g,w=>∃C v,a.over/\a.own C/\PayAt C 1 w/\(∀i,a.held i->φ.JP (λb=>a.own b/\b≠C) i w)/\1<=d.stage/\d.stage<=7/\WSit φ.P φ.ty φ.Wg C 1 (λ_ _=>False) (λ_ _=>False) 0 1 v d.stage d.fuel d.deaf g w
def Ph.MH(k:Nat)(w:ai):Prop:=k<=φ.nj/\∃a s r b,w.heap[φ.Ch]? =ae (.chan a ((fJ k (φ.nj-k)).map φ.jv).toArray ar s r b)
structure Ph.Com(B0:Nat) (t0:Trace) (gs:Array aw) (w:ai) (t:Trace) (j:Nat) (γ:Nat->Gh) (S:Nat->rN) (μ:Nat->Prop) (q:Nat->Nat) (k:Nat):Prop where
 size:gs.size=φ.lo+j
 jn:j<=φ.n
 old:∀i g,0<i->i<φ.lo->gs[i]? =ae g->QuitsD φ.P (q i) (Deaf t i) g
 wk:∀i,i<j->∃g,gs[φ.lo+i]? =ae g/\φ.zB (γ i) (S i) g w
 un:∀i,j<=i->S i=.kV
 deaf:∀i,i<j->Deaf t (φ.lo+i)=(S i).wd.deaf
 et:ET (φ.qk γ j μ) φ.lo (φ.lo+j) t
 iP:φ.QG B0 γ j μ w.heap.size
 norel:∀i,t0.size<=i->t.act? i≠ae (.mark (.release (stA φ.Wg)))
 rel:∀i,i<j->(S i).wd.stage<=6->∃r,RelBy (stA φ.Wg) t (φ.lo+i) r
 pre:∃u,t=t0++u
 Ym:∀(i:Nat)(op:MemOp)(x:Touch),t0.size<=i->t[i]? =ae op->op.g≠0->op.act.touch? =ae x->x.kind≠.plain->ShN φ.Wg x.loc
 mute:∀(i:Nat)(op:MemOp),t0.size<=i->t[i]? =ae op->op.g≠0->op.g<φ.lo->op.act.touch? =ah
 seen:∀op∈t,∀x,op.act.touch? =ae x->x.loc.low w.heap.size
 chan:φ.MH k w
 done:∀p,p<k->∃i,i<j/\(γ i).held p
 todo:∀p i,k<=p->i<j->¬(γ i).held p
 over:∀i,i<j->(γ i).over->k=φ.nj
 free:∀p,k<=p->p<φ.nj->φ.J0 p w
variable{φ}
def Ph.QG.apart(O:φ.Ok){G:Nat}{y:Nat->Gh}{j:Nat}{F:Nat->Prop}{I:Nat}(h:φ.QG G y j F I):(φ.qk y j F).Apart:=by
 obtain⟨J,hC,D,o⟩:=h.B;have cell:∀{a:Addr},tk (.cell a)=ae a.block:=rfl;have E:∀{i:Nat}{l:Loc},i<j->φ.aav (y i) l->∃b,tk l=ae b/\((y i).own b\/∃q a,(y i).held q/\φ.jl q a/\l=.cell a/\a.block=b):=by rintro i l m (⟨b,d,n⟩|⟨q,a,t,f,rfl⟩);exact⟨b,d,.inl n⟩;exact⟨a.block,rfl,.inr ⟨q,a,t,f,rfl,rfl⟩⟩
 have s:∀{l:Loc},ShN φ.Wg l->tk l=ae φ.Wg:=by rintro l ⟨a,rfl,f⟩;rw[cell,f]
 refine⟨?_,?_,?_,?_,?_,?_,?_,?_,?_,?_,?_⟩;rintro k k' l ⟨i,m,rfl,r⟩ ⟨B,u,rfl,H⟩;rcases r with⟨b,d,n⟩|⟨q,a,t,f,rfl⟩<;>rcases H with⟨w,c,x⟩|⟨C,a',A,p,e⟩
 rw[d]at c;cases c;rw[h.Hx i B b m u n x];subst e;rw[cell]at d;cases d;have:=(h.zh i _ m n).1;have:=o _ (O.la _ _ p);omega;rw[cell]at c;cases c;have:=(h.zh B _ u x).1;have:=o _ (O.la _ _ f);omega;cases e;obtain rfl:=O.yi q C a f p;rw[h.Ae i B q m u t A];rintro k l ⟨i,m,rfl,r⟩ ⟨C,a',z,p,rfl⟩;rcases r with⟨b,d,n⟩|⟨q,a,t,f,e⟩;rw[cell]at d;cases d;have:=(h.zh i _ m n).1;have:=o _ (O.la _ _ p);omega;cases e;obtain rfl:=O.yi q C _ f p;exact z i m t;rintro k l ⟨i,m,rfl,r⟩ ⟨w,c,g⟩;rcases r with⟨b,d,n⟩|⟨q,a,t,f,rfl⟩;rw[d]at c;cases c;have:=(h.zh i _ m n).1;have:=D _ g;omega;rw[cell]at c;cases c;exact O.Oy _ (O.la _ _ f) g;rintro k l ⟨i,m,rfl,r⟩ ⟨w,c,hm⟩;rcases r with⟨b,d,n⟩|⟨q,a,t,f,rfl⟩;rw[d]at c;cases c;exact h.mine i _ m n hm;rw[cell]at c;cases c;have:=(h.ve _ hm).1;have:=o _ (O.la _ _ f);omega;rintro k l ⟨i,m,rfl,r⟩ v;have c:=s v;rcases r with⟨b,d,n⟩|⟨q,a,t,f,rfl⟩;rw[d]at c;cases c;have:=(h.zh i _ m n).1;omega;rw[cell]at c;have e:a.block=φ.Wg:=aX c;exact O.Oz (e▸O.la _ _ f);rintro l ⟨q,a,z,f,rfl⟩ ⟨w,c,g⟩;rw[cell]at c;cases c;exact O.Oy _ (O.la _ _ f) g;rintro l ⟨q,a,z,f,rfl⟩ ⟨w,c,hm⟩;rw[cell]at c;cases c;have:=(h.ve _ hm).1;have:=o _ (O.la _ _ f);omega;rintro l ⟨q,a,z,f,rfl⟩ v;have e:a.block=φ.Wg:=aX (s v);exact O.Oz (e▸O.la _ _ f);rintro l ⟨b,d,g⟩ ⟨w,c,hm⟩;rw[d]at c;cases c;have:=(h.ve _ hm).1;have:=D _ g;omega;rintro l ⟨b,d,g⟩ v;rw[s v]at d;cases d;exact O.rdW g;rintro l ⟨b,d,hm⟩ v;rw[s v]at d;cases d;have:=(h.ve _ hm).1;omega
def Ph.zB.status{b:Gh}{s:rN}{g:aw}{w:ai}(h:φ.zB b s g w):g.status=.running\/g.status=.finished:=by
 cases s with|kV=>exact h.elim|tree x=>obtain⟨_,c,a,_⟩:=h;exact .inl a.status|tail d=>obtain⟨C,v,_,_,_,_,_,_,h⟩:=h;exact h.status
def Ph.zB.rely(O:φ.Ok){j:Gh}{s:rN}{g:aw}{w c:ai}(h:φ.zB j s g w)(r:φ.dQ j w c):φ.zB j s g c:=by
 cases s with|kV=>exact h.elim|tree x=>obtain⟨m,e,f,n⟩:=h;exact⟨m,e,f,n.trans r⟩|tail d=>obtain⟨C,v,p,hC,⟨l,e,f⟩,o,u,y,h⟩:=h;exact⟨C,v,p,hC,⟨l,(r.own C hC).trans e,f⟩,λi k=>O.jp _ w c i (λb t=>r.own b t.1) (λa q=>r.cell i a k q) (o i k),u,y,h.rely (by simpa using r.rw' hC)⟩
end
section
variable [Payload] {Z:Ph} {Y:Nat} {X:Trace} {W:Array aw} {w w':ai} {t:Trace} {j:Nat} {V:Nat->Gh} {S:Nat->rN} {U:Nat->Prop} {q:Nat->Nat} {k k':Nat}
def Ph.Com.BB(O:Z.Ok)(h:Z.Com Y X W w t j V S U q k){i:Nat}(hi:i<j){g':aw}{c:Trace}{Uv:Gh}{Si:rN}(f:aw->aw)(R:∀o,o.status=.running\/o.status=.finished->f o=o)(m:∀op∈c,op.g=Z.lo+i)(hrel:∀a,a<j->a≠i->Z.dQ (V a) w w')(hs:Z.zB Uv Si g' w')(z:Deaf (t++c) (Z.lo+i)=Si.wd.deaf)(K:ET (Z.qk (upd V i Uv) j U) Z.lo (Z.lo+j) (t++c))(H:Z.QG Y (upd V i Uv) j U w'.heap.size)(M:∀op∈c,op.act≠.mark (.release (stA Z.Wg)))(N:Si.wd.stage<=6->∃r,RelBy (stA Z.Wg) (t++c) (Z.lo+i) r)(G:∀op∈c,∀x,op.act.touch? =ae x->x.kind≠.plain->ShN Z.Wg x.loc)(D:∀op∈c,∀x,op.act.touch? =ae x->x.loc.low w'.heap.size)(P:w.heap.size<=w'.heap.size)(v:Z.MH k' w')(A:∀p,p<k'->∃a,a<j/\(upd V i Uv a).held p)(E:∀p a,k'<=p->a<j->¬(upd V i Uv a).held p)(C:∀a,a<j->(upd V i Uv a).over->k'=Z.nj)(B:∀p,k'<=p->p<Z.nj->Z.J0 p w'):Z.Com Y X ((W.map f).setIfInBounds (Z.lo+i) g') w' (t++c) j (upd V i Uv) (upd S i Si) U q k':=by have wY:=O.wY;refine⟨by simp[h.size],h.jn,λa x h0 hl n=> ?_,λa d=> ?_,λa d=> ?_,λa d=> ?_,K,H,λp hp F=> ?_,λa d s=> ?_,?_,λp op x hp b L n T=> ?_,λp op hp b L I=> ?_,λop b=> ?_,v,A,E,C,B⟩;rw[get_map_set _ _ _ _ (by omega)]at n;obtain⟨y,hy,rfl⟩:=aF.1 n;have hq:=h.old a y h0 hl hy;rw[R y hq.status,Deaf_other t (g':=Z.lo+i) (by omega) _ m];exact hq;by_cases e:a=i;subst e;exact⟨g',get_map_set_same _ _ _ (by rw[h.size];omega),by rw[upd_same,upd_same];exact hs⟩;obtain⟨x,n,J⟩:=h.wk a d;refine⟨x,by rw[get_map_set _ _ _ _ (by omega),n,eT,R x J.status],?_⟩;rw[upd_ne _ _ e,upd_ne _ _ e];exact J.rely O (hrel a d e);rw[upd_ne _ _ (by omega)];exact h.un a d;by_cases e:a=i;subst e;rw[upd_same];exact z;rw[Deaf_other t (g':=Z.lo+i) (by omega) _ m,h.deaf a d,upd_ne _ _ e];obtain⟨op,b,Q⟩:=aF.1 F;rcases getElem?_append_cases b with⟨_,g⟩|⟨_,l⟩;exact h.norel p hp (by rw[act?_of g,Q]);exact M op l Q;by_cases e:a=i;subst e;rw[upd_same]at s;exact N s;rw[upd_ne _ _ e]at s;obtain⟨r,N⟩:=h.rel a d s;exact⟨r,N.appNot λop b=>by rw[m op b];omega⟩;obtain⟨u,rfl⟩:=h.pre;exact⟨u++c,by rw[Array.append_assoc]⟩;rcases getElem?_append_cases b with⟨_,g⟩|⟨_,l⟩;exact h.Ym p op x hp g L n T;exact G op l x n T;rcases getElem?_append_cases b with⟨_,g⟩|⟨_,l⟩;exact h.mute p op hp g L I;rw[m op l]at I;omega;intro x n;rcases nz.1 b with y|y;exact Loc.low_mono P (h.seen op y x n);exact D op y x n
omit [Payload]in
def tr{e:Event}{b:Nat}(c:tk e.loc=ae b)(f:e.sync=au):cQ e=.access e/\(cQ e).touch? =ae ⟨e.loc,e.write,.plain⟩:=by
 obtain⟨d,wr,g⟩:=e;simp only at f;subst f;cases d with|mark m=>cases c|output=>cases c|goroutines=>cases c|cell a=>cases wr<;>exact⟨rfl,rfl⟩|obj r=>cases wr<;>exact⟨rfl,rfl⟩
omit [Payload]in
def An{B:Nat}{l:Loc}(h:∀b,tk l=ae b->b<B):l.low B:=by
 cases l with|cell a=>exact h _ rfl|obj r=>exact h _ rfl|_=>exact trivial
omit [Payload]in
def uO{B:Nat}(h:∀op∈t,∀x,op.act.touch? =ae x->x.loc.low B){l:Loc}{b:Nat}(c:tk l=ae b)(k:B<=b):qB t l:=by
 rintro i a g rfl;obtain⟨x,j,e⟩:=touch_of g;have d:=h x (rG j) a e;revert c d;cases a.loc with|cell f=>intro c d;cases c;exact absurd d (by show¬(f.block<B);omega)|obj r=>intro c d;cases c;exact absurd d (by show¬(b<B);omega)|_=>intro c;cases c
def qD{V:Gh}{e:Event}(h:Z.Acc V e):(∃m,cQ e=.mark m/\e.loc=.mark m/\(m=.noRoom\/∃f,m=.extern f))\/(cQ e=.access e/\(cQ e).touch? =ae ⟨e.loc,e.write,.plain⟩/\∃b,tk e.loc=ae b/\(V.own b\/(∃i a,V.held i/\Z.jl i a/\e.loc=.cell a)\/(e.write=au/\Z.jB b))):=by rcases h with⟨m,rfl,hm⟩|⟨d,b,c,h⟩;rcases hm with rfl|⟨f,rfl⟩;exact .inl ⟨_,rfl,rfl,.inl rfl⟩;exact .inl ⟨_,rfl,rfl,.inr ⟨_,rfl⟩⟩;exact .inr ⟨(tr c d).1,(tr c d).2,b,c,h⟩
def Ph.QG.grow(h:Z.QG Y V j U w.heap.size){i:Nat}(n:i<j)(m:w.heap.size<=w'.heap.size):Z.QG Y (upd V i ((V i).grow w w')) j U w'.heap.size:=by
 have own:∀{a b:Nat},(upd V i ((V i).grow w w') a).own b->(V a).own b\/(a=i/\w.heap.size<=b/\b<w'.heap.size):=by
  intro a b k;by_cases e:a=i;subst e;rw[upd_same]at k;exact k.imp id λx=>⟨rfl,x⟩
  rw[upd_ne _ _ e]at k;exact .inl k
 have c:∀{a p:Nat},(upd V i ((V i).grow w w') a).held p->(V a).held p:=by intro a p hp;by_cases e:a=i;subst e;rwa[upd_same]at hp;rwa[upd_ne _ _ e]at hp
 have o:=h.sz;refine⟨λa a' b d g f l=> ?_,λa b d f hm=> ?_,λa b d f=> ?_,λb k=> ?_,λa a' p d g f l=>h.Ae a a' p d g (c f) (c l),λa p d f=>h.l6 a p d (c f),by omega,h.B,h.st⟩;rcases own f with x|⟨rfl,x⟩<;>rcases own l with y|⟨rfl,y⟩
 exact h.Hx a a' b d g x y;have:=(h.zh a b d x).2;omega;have:=(h.zh a' b g y).2;omega;rfl;rcases own f with x|⟨rfl,x⟩;exact h.mine a b d x hm;have:=(h.ve b hm).2;omega;rcases own f with x|⟨rfl,x⟩;have:=h.zh a b d x;omega;omega;have:=h.ve b k;omega
def Ph.uP.rely(O:Z.Ok)(h:Z.QG Y V j U w.heap.size){i:Nat}(n:i<j){es:Array Event}(d:Z.uP (V i) w w' es){g:Nat}(f:g<j)(k:g≠i):Z.dQ (V g) w w':=by
 obtain⟨t,hC,r,l⟩:=h.B;have B:=h.sz;have c:∀b,b<Y->¬(V i).own b:=λb e o=>by have:=(h.zh i b n o).1;omega
 refine⟨λb e=> ?_,λb e=>d.rest b (by have:=r b e;omega) (c b (r b e)) λx=>O.Oy b x e,λp a hp s=>d.cells a (O.la p a s) λy q m=> ?_,d.pay,λ⟨A,z,u⟩=>⟨A,z,?_⟩,d.size,d.tape,d.os,d.output⟩;have v:=h.zh g b f e;exact d.rest b v.2 (λo=>k (h.Hx g i b f n e o)) λx=>by have:=l b x;omega
 obtain rfl:=O.yi p y a s m;exact k (h.Ae g i p f n hp q);exact(d.rest Z.Wg (by omega) (c _ t) O.Oz).trans u
def Ph.uP.mr(O:Z.Ok)(h:Z.QG Y V j U w.heap.size){i:Nat}(k:i<j){es:Array Event}(d:Z.uP (V i) w w' es):Z.MR U w w':=by
 obtain⟨l,hC,g,e⟩:=h.B;have q:=h.sz;have a:∀b,b<Y->¬(V i).own b:=λb c f=>by have:=(h.zh i b k f).1;omega
 refine⟨λb c=>d.rest b (by have:=h.st b c;omega) (a b (h.st b c)) λx=>O.aaD b x c,λb c=> ?_,λb c=>d.rest b (by have:=g b c;omega) (a b (g b c)) λx=>O.Oy b x c,d.pay,λ⟨p,o,m⟩=>⟨p,o,?_⟩,d.size,d.tape,d.os,d.output⟩;have n:=h.ve b c;exact d.rest b n.2 (λf=>h.mine i b k f c) λx=>by have:=e b x;omega
 exact(d.rest Z.Wg (by omega) (a _ l) O.Oz).trans m
omit [Payload]in
def deaf_quiet{g:Nat}{a:bG}{pos:String}{es:Array Event}(h:∀e∈es,e.loc≠.mark .disable/\e.loc≠.mark .enable):Deaf (t++bZ g a pos es) g=Deaf t g:=by rw[Deaf_own];exact deafBehind_idle h _
def Om{V:Gh}{es:Array Event}(h:∀e∈es,Z.Acc V e):∀e∈es,e.loc≠.mark .disable/\e.loc≠.mark .enable:=by intro e c;rcases qD (h e c)with⟨m,_,d,hm⟩|⟨_,_,b,a,_⟩;rw[d];rcases hm with rfl|⟨f,rfl⟩<;>simp;exact⟨λx=>(by rw[x]at a;cases a),λx=>by rw[x]at a;cases a⟩
def Ph.Com.Ui(O:Z.Ok)(h:Z.Com Y X W w t j V S U q k){i:Nat}(E:i<j){g R:aw}{w0:ai}(hS:S i=.tree (V i,g,w0)){es:Array Event}(C:Z.uP (V i) w w' es)(UD:Z.WT ((V i).grow w w') R w')(fn:bG)(pos:String)(f:aw->aw)(hf:∀o,o.status=.running\/o.status=.finished->f o=o):Z.Com Y X ((W.map f).setIfInBounds (Z.lo+i) R) w' (t++bZ (Z.lo+i) fn pos es) j (upd V i ((V i).grow w w')) (upd S i (.tree ((V i).grow w w',R,w'))) U q k:=by
 have I:∀op∈bZ (Z.lo+i) fn pos es,op.g=Z.lo+i:=λop c=>by obtain⟨e,_,rfl⟩:=bk c;rfl
 have z:=h.iP.grow E C.size;have A:=z.apart O;have YU:(S i).wd.deaf=0:=by rw[hS];rfl
 have B:∀a,(upd V i ((V i).grow w w') a).held=(V a).held:=λa=>by by_cases e:a=i;subst e;rw[upd_same];rfl;rw[upd_ne _ _ e]
 have N:∀a,(upd V i ((V i).grow w w') a).over=(V a).over:=λa=>by by_cases e:a=i;subst e;rw[upd_same];rfl;rw[upd_ne _ _ e]
 refine h.BB O E f hf I (λG v e=>C.rely O h.iP E v e) ⟨rfl,rfl,UD,.refl _ _⟩ ?_ ?_ z ?_ (λx=>by simp[rN.wd]at x) ?_ ?_ C.size ?_ (λp hp=> ?_) (λp G hp v=> ?_) (λG v d=> ?_) (λp hp hpn=> ?_);rw[deaf_quiet (Om C.ev),h.deaf i E,YU];rfl;refine ET.Yl A (k:=Z.lo+i) (h.et.qk rfl (λkk _ _ l n=> ?_) (λl n=> ?_) (λl n=>n) λl n=>.inl n) (Nat.le_add_right _ _) (by omega) λop c=>⟨I op c,λx d=> ?_⟩
 obtain⟨a,H,rfl,n⟩:=n;by_cases e:a=i;subst e;rw[upd_same]at n;rcases n with⟨b,D,F⟩|⟨p,K,hp,u,rfl⟩;rcases F with F|⟨y,_⟩;exact .inl ⟨a,H,rfl,.inl ⟨b,D,F⟩⟩;exact .inr (.inr (uO h.seen D y));exact .inl ⟨a,H,rfl,.inr ⟨p,K,hp,u,rfl⟩⟩;rw[upd_ne _ _ e]at n;exact .inl ⟨a,H,rfl,n⟩;obtain⟨p,K,hn,u,rfl⟩:=n;exact⟨p,K,λa H=>by have:=hn a H;rwa[B a]at this,u,rfl⟩;obtain⟨e,J,rfl⟩:=bk c;simp only at d;rcases qD (C.ev e J)with⟨m,y,_,hm⟩|⟨_,T,b,D,h3⟩;rcases hm with rfl|⟨Q,rfl⟩<;>rw[y]at d<;>cases d;rw[T]at d;cases d;rcases h3 with F|⟨p,K,hp,u,n⟩|⟨hw,hr⟩;exact .inr (.inl ⟨i,E,rfl,by rw[upd_same];exact .inl ⟨b,D,F⟩⟩);exact .inr (.inl ⟨i,E,rfl,by rw[upd_same];exact .inr ⟨p,K,hp,u,n⟩⟩);exact .inr (.inr ⟨⟨b,D,hr⟩,hw⟩);intro op c;obtain⟨e,J,rfl⟩:=bk c;rcases qD (C.ev e J)with⟨m,y,_,hm⟩|⟨y,_⟩;rcases hm with rfl|⟨Q,rfl⟩<;>simp only[y]<;>simp;simp only[y];simp;intro op c x d hk;obtain⟨e,J,rfl⟩:=bk c;rcases qD (C.ev e J)with⟨m,y,_,hm⟩|⟨_,T,_⟩;rcases hm with rfl|⟨Q,rfl⟩<;>simp only[y]at d<;>cases d;simp only[T]at d;cases d;exact absurd rfl hk;intro op c x d;obtain⟨e,J,rfl⟩:=bk c;have hs:=h.iP.sz;have hz:=C.size;obtain⟨hW,hC,hR,L⟩:=h.iP.B;rcases qD (C.ev e J)with⟨m,y,_,hm⟩|⟨_,y,b,D,h3⟩;rcases hm with rfl|⟨Q,rfl⟩<;>simp only[y]at d<;>cases d;simp only[y]at d;cases d;refine An (l:=e.loc) λb' M=> ?_
 rw[D]at M;cases M;rcases h3 with F|⟨p,K,hp,u,n⟩|⟨hw,hr⟩;exact(z.zh i b E (by rw[upd_same];exact F)).2;rw[n]at D;cases D;have:=L _ (O.la _ _ u);omega;have:=hR b hr;omega;obtain⟨hk,P,s,r,tm,hc⟩:=h.chan;obtain⟨hW,hC,hR,L⟩:=h.iP.B;have hs:=h.iP.sz;exact⟨hk,P,s,r,tm,(C.rest Z.Ch (by omega) (λF=>by have:=(h.iP.zh i _ E F).1;omega) O.cbC).trans hc⟩;obtain⟨G,v,hh⟩:=h.done p hp;exact⟨G,v,by rw[B G];exact hh⟩;rw[B G];exact h.todo p G hp v;rw[N G]at d;exact h.over G v d;refine O.j0 w w' p (λa H=>C.cells a (O.la p a H) λp' Y8 ha'=> ?_) (h.free p hp hpn);obtain rfl:=O.yi p p' a H ha';exact h.todo p i hp E Y8
end
section
variable [Payload] {Z:Ph} {Y:Nat} {X:Trace} {W:Array aw} {w w':ai} {t:Trace} {j:Nat} {V:Nat->Gh} {S:Nat->rN} {U:Nat->Prop} {q:Nat->Nat} {k k':Nat}
def IW{i c:Nat}(h:∀(x:Nat)(g:aw),x≠i->W[x]? =ae g->g.status≠.blocked\/g.offers=ah)(b:Bool):partners (W.setIfInBounds i Go.Conc.ph) c b=[]:=by
 refine partners_nil λx g j=> ?_
 rcases getElem?_stand W i x g j with⟨_,rfl⟩|⟨a,d⟩;rfl;rcases h x g a d with f|e;exact offersAt_of_not_blocked f _ _;unfold offersAt;rw[e];cases g.status<;>rfl
def EA(O:Z.Ok){γ':Gh}(hC:¬γ'.own Z.Ch)(d:Nat)(c:Array ak)(cl:Bool)(s r:Nat)(g:Bool)(j:∃d c cl s r g,w.heap[Z.Ch]? =ae (.chan d c cl s r g)):Z.dQ γ' w (w.setChan Z.Ch d c cl s r g):=by
 have blk:∀b,b≠Z.Ch->(w.setChan Z.Ch d c cl s r g).heap[b]? =w.heap[b]?:=λb f=>by show(w.heap.setIfInBounds Z.Ch _)[b]? =_;rw[aJ (kG f)]
 refine⟨λb f=>blk b λe=>hC (e▸f),λb f=>blk b λe=>O.rdC (e▸f),λp a _ i=> ?_,λb f=> ?_,λ⟨m,l,k⟩=>⟨m,l,(blk Z.Wg (kG O.hCW)).trans k⟩,by simp[oj],rfl,rfl,rfl⟩;have h:a.block≠Z.Ch:=λe=>O.cbC (e▸O.la p a i)
 unfold b3;rw[blk _ h];unfold dp;rw[blk _ λe=>O.cbC (e▸f)]
def V7(O:Z.Ok)(hC:¬U Z.Ch)(d:Nat)(c:Array ak)(cl:Bool)(s r:Nat)(f:Bool):Z.MR U w (w.setChan Z.Ch d c cl s r f):=by
 have blk:∀b,b≠Z.Ch->(w.setChan Z.Ch d c cl s r f).heap[b]? =w.heap[b]?:=λb a=>by show(w.heap.setIfInBounds Z.Ch _)[b]? =_;rw[aJ (kG a)]
 exact⟨λb a=>blk b λe=>O.adr (e▸a),λb a=>blk b λe=>hC (e▸a),λb a=>blk b λe=>O.rdC (e▸a),λb a=>by unfold dp;rw[blk _ λe=>O.cbC (e▸a)],λ⟨i,h,g⟩=>⟨i,h,(blk Z.Wg (kG O.hCW)).trans g⟩,by simp[oj],rfl,rfl,rfl⟩
def Ph.Com.Xr(h:Z.Com Y X W w t j V S U q k){i:Nat}(a:i<j):¬(V i).own Z.Ch:=λb=>by have:=(h.iP.zh i _ a b).1;have:=h.iP.B.2.1;omega
def Ph.Com.Yu(h:Z.Com Y X W w t j V S U q k):¬U Z.Ch:=λa=>by have:=(h.iP.ve _ a).1;have:=h.iP.B.2.1;omega
def Eh(W:Array aw):W.map id=W:=by simp
def Ph.Com.Wx(O:Z.Ok)(h:Z.Com Y X W w t j V S U q k){i:Nat}(J:i<j){g:aw}{x:WX}(R:S i=.tree x)(N:k<Z.nj){n s r:Nat}{E:Bool}(C:w.heap[Z.Ch]? =ae (.chan n ((fJ k (Z.nj-k)).map Z.jv).toArray ar s r E))(L:Z.WT ((V i).hold k) (Ph.got g (Z.jv k) ar) w)(fn:bG)(pos:String):Z.Com Y X (W.setIfInBounds (Z.lo+i) (Ph.got g (Z.jv k) ar)) (w.setChan Z.Ch n ((fJ (k+1) (Z.nj-(k+1))).map Z.jv).toArray ar s (r+1) E) (t++#[{g:=Z.lo+i,fn,pos,act:=.recv Z.Ch r n},{g:=Z.lo+i,fn,pos,act:=.recvDone Z.Ch r}]) j (upd V i ((V i).hold k)) (upd S i (.tree ((V i).hold k,Ph.got g (Z.jv k) ar,w))) U q (k+1):=by
 have hm:∀op∈(#[{g:=Z.lo+i,fn,pos,act:=.recv Z.Ch r n},{g:=Z.lo+i,fn,pos,act:=.recvDone Z.Ch r}]:Trace),op.g=Z.lo+i/\op.act.touch? =ah/\(∀m,op.act≠.mark m)/\op.act.low w.heap.size:=by
  intro op c;have u:Z.Ch<w.heap.size:=by have:=h.iP.B.2.1;have:=h.iP.sz;omega
  simp only[oi,b6,gX,or_false]at c;rcases c with rfl|rfl<;>exact⟨rfl,rfl,by simp,u⟩
 have G:(w.setChan Z.Ch n ((fJ (k+1) (Z.nj-(k+1))).map Z.jv).toArray ar s (r+1) E).heap.size=w.heap.size:=by simp[oj]
 have own:∀{a b:Nat},(upd V i ((V i).hold k) a).own b↔(V a).own b:=by intro a b;by_cases e:a=i;subst e;rw[upd_same];rfl;rw[upd_ne _ _ e]
 have H:∀{a:Nat},(upd V i ((V i).hold k) a).over↔(V a).over:=by intro a;by_cases e:a=i;subst e;rw[upd_same];rfl;rw[upd_ne _ _ e]
 have d:∀{a p:Nat},(upd V i ((V i).hold k) a).held p↔((V a).held p\/(a=i/\p=k)):=by intro a p;by_cases e:a=i;subst e;rw[upd_same];simp[Gh.hold];rw[upd_ne _ _ e];simp[e]
 have e:=h.BB (w':=w.setChan Z.Ch n ((fJ (k+1) (Z.nj-(k+1))).map Z.jv).toArray ar s (r+1) E) (k':=k+1) (g':=Ph.got g (Z.jv k) ar) (Uv:=(V i).hold k) (Si:=.tree ((V i).hold k,Ph.got g (Z.jv k) ar,w)) O J id (λ_ _=>rfl)
  (λop c=>(hm op c).1) (λB f _=>EA O (h.Xr f) _ _ _ _ _ _ ⟨_,_,_,_,_,_,C⟩)
  ⟨rfl,rfl,L,EA O (γ':=(V i).hold k) (h.Xr J) _ _ _ _ _ _ ⟨_,_,_,_,_,_,C⟩⟩ ?_ ?_ ?_ (λop c=>(hm op c).2.2.1 _) (λx=>by simp[rN.wd]at x) (λop c x D=>by rw[(hm op c).2.1]at D;cases D)
  (λop c x D=>by rw[(hm op c).2.1]at D;cases D) (by rw[G];exact av _) ?_ (λp hp=> ?_) (λp B hp f=> ?_) (λB f D=> ?_) (λp hp Q=>O.j0 _ _ p (λa o=> ?_) (h.free p (by omega) Q))
 rw[Eh]at e;exact e;rw[Deaf_still t _ _ λop c=>⟨(hm op c).2.2.1 _,(hm op c).2.2.1 _⟩,h.deaf i J,R];rfl;refine ET.mute (g:=Z.lo+i) (h.et.qk rfl (λkk _ _ l u=> ?_) (λl u=> ?_) (λl u=>u) λl u=>.inl u) (by omega) (λop c=>(hm op c).1) λop c=>(hm op c).2.1
 obtain⟨a,o,rfl,u⟩:=u;rcases u with⟨b,T,ho⟩|⟨p,I,hp,A,rfl⟩;exact .inl ⟨a,o,rfl,.inl ⟨b,T,own.1 ho⟩⟩;rcases d.1 hp with hp|⟨rfl,rfl⟩;exact .inl ⟨a,o,rfl,.inr ⟨p,I,hp,A,rfl⟩⟩;exact .inr (.inl ⟨p,I,λB f=>h.todo p B (av _) f,A,rfl⟩);obtain⟨p,I,hn,A,rfl⟩:=u;exact⟨p,I,λa o hp=>hn a o (d.2 (.inl hp)),A,rfl⟩;rw[G];refine⟨λa a' b o z v K=>h.iP.Hx a a' b o z (own.1 v) (own.1 K),λa b o v=>h.iP.mine a b o (own.1 v),λa b o v=>h.iP.zh a b o (own.1 v),h.iP.ve,λa a' p o z v K=> ?_,λa p o v=> ?_,h.iP.sz,h.iP.B,h.iP.st⟩;rcases d.1 v with x|⟨rfl,rfl⟩<;>rcases d.1 K with y|⟨rfl,y⟩
 exact h.iP.Ae a a' p o z x y;subst y;exact absurd x (h.todo _ a (av _) o);exact absurd y (h.todo _ a' (av _) z);rfl;rcases d.1 v with x|⟨rfl,rfl⟩;exact h.iP.l6 a p o x;exact N;refine⟨by omega,n,s,r+1,E,?_⟩;show(w.heap.setIfInBounds Z.Ch _)[Z.Ch]? =_;rw[aK (aE.1 C).1];rcases dU p k with F|F;obtain⟨B,f,M⟩:=h.done p F;exact⟨B,f,d.2 (.inl M)⟩;exact⟨i,J,d.2 (.inr ⟨rfl,by omega⟩)⟩;intro M;rcases d.1 M with x|⟨_,rfl⟩;exact h.todo p B (by omega) f x;omega;have:=h.over B f (H.1 D);omega;have P:a.block≠Z.Ch:=λe=>O.cbC (e▸O.la p a o)
 have blk:(w.setChan Z.Ch n ((fJ (k+1) (Z.nj-(k+1))).map Z.jv).toArray ar s (r+1) E).heap[a.block]? =w.heap[a.block]?:=by show(w.heap.setIfInBounds Z.Ch _)[a.block]? =_;rw[aJ (kG P)]
 unfold b3;rw[blk]
def Ph.Com.TI(O:Z.Ok)(h:Z.Com Y X W w t j V S U q k){i:Nat}(D:i<j){g:aw}{x:WX}(E:S i=.tree x)(G:k=Z.nj)(B:Z.WT (V i).close (Ph.got g Z.z au) w)(fn:bG)(pos:String):Z.Com Y X (W.setIfInBounds (Z.lo+i) (Ph.got g Z.z au)) w (t++#[{g:=Z.lo+i,fn,pos,act:=.recvClosed Z.Ch}]) j (upd V i (V i).close) (upd S i (.tree ((V i).close,Ph.got g Z.z au,w))) U q k:=by
 have hm:∀op∈(#[{g:=Z.lo+i,fn,pos,act:=.recvClosed Z.Ch}]:Trace),op.g=Z.lo+i/\op.act.touch? =ah/\(∀m,op.act≠.mark m)/\op.act.low w.heap.size:=by
  intro op c;have o:Z.Ch<w.heap.size:=by have:=h.iP.B.2.1;have:=h.iP.sz;omega
  simp only[oi,b6,gX,or_false]at c;rcases c with rfl;exact⟨rfl,rfl,by simp,o⟩
 have own:∀{a b:Nat},(upd V i (V i).close a).own b↔(V a).own b:=by intro a b;by_cases e:a=i;subst e;rw[upd_same];rfl;rw[upd_ne _ _ e]
 have d:∀{a p:Nat},(upd V i (V i).close a).held p↔(V a).held p:=by intro a p;by_cases e:a=i;subst e;rw[upd_same];rfl;rw[upd_ne _ _ e]
 have e:=h.BB (w':=w) (k':=k) (g':=Ph.got g Z.z au) (Uv:=(V i).close) (Si:=.tree ((V i).close,Ph.got g Z.z au,w)) O D id (λ_ _=>rfl)
  (λop c=>(hm op c).1) (λy n _=>.refl _ _) ⟨rfl,rfl,B,.refl _ _⟩ ?_ ?_ ?_ (λop c=>(hm op c).2.2.1 _) (λx=>by simp[rN.wd]at x) (λop c x v=>by rw[(hm op c).2.1]at v;cases v)
  (λop c x v=>by rw[(hm op c).2.1]at v;cases v) (av _) h.chan (λp hp=> ?_) (λp y hp n=> ?_) (λy n v=>G) h.free
 rw[Eh]at e;exact e;rw[Deaf_still t _ _ λop c=>⟨(hm op c).2.2.1 _,(hm op c).2.2.1 _⟩,h.deaf i D,E];rfl;refine ET.mute (g:=Z.lo+i) (h.et.qk rfl (λJ _ _ l o=>.inl ?_) (λl o=> ?_) (λl o=>o) λl o=>.inl o) (by omega) (λop c=>(hm op c).1) λop c=>(hm op c).2.1
 obtain⟨a,f,rfl,o⟩:=o;rcases o with⟨b,F,I⟩|⟨p,z,hp,u,rfl⟩;exact⟨a,f,rfl,.inl ⟨b,F,own.1 I⟩⟩;exact⟨a,f,rfl,.inr ⟨p,z,d.1 hp,u,rfl⟩⟩;obtain⟨p,z,H,u,rfl⟩:=o;exact⟨p,z,λa f hp=>H a f (d.2 hp),u,rfl⟩;exact⟨λa a' b f s r A=>h.iP.Hx a a' b f s (own.1 r) (own.1 A),λa b f r=>h.iP.mine a b f (own.1 r),λa b f r=>h.iP.zh a b f (own.1 r),h.iP.ve,λa a' p f s r A=>h.iP.Ae a a' p f s (d.1 r) (d.1 A),λa p f r=>h.iP.l6 a p f (d.1 r),h.iP.sz,h.iP.B,h.iP.st⟩;obtain⟨y,n,C⟩:=h.done p hp;exact⟨y,n,d.2 C⟩;intro C;exact h.todo p y hp n (d.1 C)
end
end Rel
namespace Rel
open Go.Conc Go.ConcN
open Go.ConcR (KK WgAt rd wr Payload DC0 stA smA Bk ofEvent_loc_mark ofEvent_cell bk_of_mute)
section
variable [Payload] {Z:Ph} {Y:Nat} {X:Trace} {W:Array aw} {w w':ai} {t:Trace} {j:Nat} {V:Nat->Gh} {S:Nat->rN} {U:Nat->Prop} {q:Nat->Nat} {k k':Nat}
def ND(O:Z.Ok){d:Gh}(hC:¬d.own Z.Wg)(h:Go.Conc.Aside Z.Wg w w')(i:WgLive Z.ty Z.Wg w'):Z.dQ d w w':=by
 refine⟨λb c=>h.block b λe=>hC (e▸c),λb c=>h.block b λe=>O.rdW (e▸c),λp a _ g=> ?_,λb c=> ?_,λ_=>i,by rw[h.size];exact av _,h.tape,h.os,h.output⟩;have f:a.block≠Z.Wg:=λe=>O.Oz (e▸O.la p a g)
 unfold b3;rw[h.block _ f];unfold dp;rw[h.block _ λe=>O.Oz (e▸c)]
def abg(O:Z.Ok)(hC:¬U Z.Wg)(h:Go.Conc.Aside Z.Wg w w')(c:WgLive Z.ty Z.Wg w'):Z.MR U w w':=⟨λb a=>h.block b λe=>O.abx (e▸a),λb a=>h.block b λe=>hC (e▸a),λb a=>h.block b λe=>O.rdW (e▸a),λb a=>by unfold dp;rw[h.block _ λe=>O.Oz (e▸a)],λ_=>c,by rw[h.size];exact av _,h.tape,h.os,h.output⟩
def Ph.Com.N0(h:Z.Com Y X W w t j V S U q k){i:Nat}(a:i<j):¬(V i).own Z.Wg:=λb=>by have:=(h.iP.zh i _ a b).1;have:=h.iP.B.1;omega
def Ph.Com.ZV(h:Z.Com Y X W w t j V S U q k):¬U Z.Wg:=λa=>by have:=(h.iP.ve _ a).1;have:=h.iP.B.1;omega
def jQ{b:Type}(f:Nat->b)(i:Nat):upd f i (f i)=f:=by funext a;by_cases e:a=i;subst e;rw[upd_same];rw[upd_ne _ _ e]
def zG{e:Event}(h:Bk Z.Wg e):(∀x,(cQ e).touch? =ae x->x.kind=.atomic/\ShN Z.Wg x.loc)/\cQ e≠.mark (.release (stA Z.Wg))/\∀B,Z.Wg<B->(cQ e).low B:=by rcases h with c|c|⟨a,wr,rfl,d⟩;rw[ofEvent_loc_mark c];exact⟨λx b=>by(cases b),by simp,λ_ _=>trivial⟩;rw[ofEvent_loc_mark c];exact⟨λx b=>by(cases b),by simp,λ_ _=>trivial⟩;rw[ofEvent_cell];refine⟨λx b=> ?_,by simp,λB f=>by show a.block<B;rw[d];exact f⟩;simp only[qy,dm]at b;subst b;exact⟨rfl,a,rfl,d⟩
def Ph.Com.Ud(O:Z.Ok)(h:Z.Com Y X W w t j V S U q k){i:Nat}(z:i<j){d m:WD}(M:S i=.tail d){g':aw}{es:Array Event}{C:Nat}{v:ak}(T:(V i).over)(hC:(V i).own C)(hP:PayAt C 1 w)(R:∀p,(V i).held p->Z.JP (λb=>(V i).own b/\b≠C) p w)(g:Go.Conc.Aside Z.Wg w w')(hl:WgLive Z.ty Z.Wg w')(l:∀e∈es,Bk Z.Wg e)(K:WSit Z.P Z.ty Z.Wg C 1 (λ_ _=>False) (λ_ _=>False) 0 1 v m.stage m.fuel m.deaf g' w')(s1:1<=m.stage)(s7:m.stage<=6)(Q:d.stage<=6)(hd:∀x e,es[x]? =ae e->(cQ e).touch? =ah\/0<deafBehind d.deaf (es.extract 0 x))(I:deafBehind d.deaf es=m.deaf)(L:bG)(pos:String)(f:aw->aw)(hf:∀o,o.status=.running\/o.status=.finished->f o=o):Z.Com Y X ((W.map f).setIfInBounds (Z.lo+i) g') w' (t++bZ (Z.lo+i) L pos es) j V (upd S i (.tail m)) U q k:=by
 have n:∀op∈bZ (Z.lo+i) L pos es,op.g=Z.lo+i:=λop c=>by obtain⟨e,_,rfl⟩:=bk c;rfl
 have A:Z.Wg<w'.heap.size:=by have:=h.iP.B.1;have:=h.iP.sz;rw[g.size];omega
 have B:Deaf t (Z.lo+i)=d.deaf:=by rw[h.deaf i z,M];rfl
 have rel:=λ{N:Nat}(y:N<j)=>ND O (h.N0 y) g hl
 obtain⟨P,p1,p2⟩:=hP;have e:=h.BB (w':=w') (k':=k) (g':=g') (Uv:=V i) (Si:=.tail m) O z f hf n (λN y _=>rel y) ⟨C,v,T,hC,⟨P,((rel z).own C hC).trans p1,p2⟩,λp hp=>O.jp _ w w' p (λb hb=>(rel z).own b hb.1) (λa H=>(rel z).cell p a hp H) (R p hp),s1,by omega,K⟩ (by rw[Deaf_own,B,I];rfl) ?_ ?_ ?_ (λ_=> ?_) ?_ ?_ (by rw[g.size];exact av _) ?_ ?_ ?_ ?_ ?_
 rw[jQ]at e;exact e;rw[jQ];refine ET.Yl (h.iP.apart O) (k:=Z.lo+i) h.et (Nat.le_add_right _ _) (by omega) λop c=>⟨n op c,λx D=> ?_⟩
 obtain⟨e,u,rfl⟩:=bk c;obtain⟨E,G⟩:=(zG (l e u)).1 x D;exact .inl ⟨G,by rw[E];simp,by rw[E];simp⟩;rw[jQ,g.size];exact h.iP;intro op c;obtain⟨e,u,rfl⟩:=bk c;exact(zG (l e u)).2.1;obtain⟨r,hr⟩:=h.rel i z (by rw[M];exact Q);exact⟨r,hr.book B _ _ l hd⟩;intro op c x D _;obtain⟨e,u,rfl⟩:=bk c;exact((zG (l e u)).1 x D).2;intro op c x D;obtain⟨e,u,rfl⟩:=bk c;obtain⟨a,E,G⟩:=((zG (l e u)).1 x D).2;rw[E];exact(by rw[G];exact A:a.block<w'.heap.size);obtain⟨hk,F,s,r,tm,hc⟩:=h.chan;exact⟨hk,F,s,r,tm,(g.block Z.Ch O.hCW).trans hc⟩;rw[jQ];exact h.done;rw[jQ];exact h.todo;rw[jQ];exact h.over;intro p hp J;refine O.j0 _ _ p (λa H=> ?_) (h.free p hp J);unfold b3;rw[g.block _ λe=>O.Oz (e▸O.la p a H)]
def Ph.Com.NU(O:Z.Ok)(h:Z.Com Y X W w t j V S U q k){i:Nat}(D:i<j){d d':WD}(hS:S i=.tail d){g':aw}{es:Array Event}{C:Nat}{v:ak}(hO:(V i).over)(hC:(V i).own C)(hP:PayAt C 1 w)(hJ:∀p,(V i).held p->Z.JP (λb=>(V i).own b/\b≠C) p w')(c:AsideCell C 1 0 w w')(N:WSit Z.P Z.ty Z.Wg C 1 (λ_ _=>False) (λ_ _=>False) 0 1 v d'.stage d'.fuel d'.deaf g' w')(s1:1<=d'.stage)(s7:d'.stage<=7)(J:deafBehind d.deaf es=d'.deaf)(G:bG)(pos:String)(n:∀e∈es,(∀x,(cQ e).touch? =ae x->ShN Z.Wg x.loc/\x.kind≠.plain/\x.kind≠.said)/\cQ e≠.mark (.release (stA Z.Wg)))(hr:d'.stage<=6->∃r,RelBy (stA Z.Wg) (t++bZ (Z.lo+i) G pos es) (Z.lo+i) r)(f:aw->aw)(hf:∀o,o.status=.running\/o.status=.finished->f o=o):Z.Com Y X ((W.map f).setIfInBounds (Z.lo+i) g') w' (t++bZ (Z.lo+i) G pos es) j V (upd S i (.tail d')) U q k/\Z.MR U w w':=by
 have u:∀op∈bZ (Z.lo+i) G pos es,op.g=Z.lo+i:=λop g=>by obtain⟨e,_,rfl⟩:=bk g;rfl
 have K:Deaf t (Z.lo+i)=d.deaf:=by rw[h.deaf i D,hS];rfl
 obtain⟨hW,H,T,m⟩:=h.iP.B;have R:=h.iP.zh i C D hC;have ne:∀b,b<Y->b≠C:=λb l e=>by omega
 have rel:∀{B:Nat},B<j->B≠i->Z.dQ (V B) w w':=λ{B} z A=>by refine⟨λb l=>c.block b λe=>A (h.iP.Hx B i b z D l (e▸hC)),λb l=>c.block b (ne b (T b l)),λp a _ I=> ?_,λb l=> ?_,λ⟨Q,P,L⟩=>⟨Q,P,(c.block Z.Wg (ne _ hW)).trans L⟩,by rw[c.size];exact av _,c.tape,c.os,c.output⟩;unfold b3;rw[c.block _ (ne _ (m _ (O.la p a I)))];unfold dp;rw[c.block _ (ne _ (m _ l))]
 refine⟨?_,⟨λb l=>c.block b (ne b (h.iP.st b l)),λb l=>c.block b λe=>h.iP.mine i C D hC (e▸l),λb l=>c.block b (ne b (T b l)),λb l=>by unfold dp;rw[c.block _ (ne _ (m _ l))],λ⟨Q,P,L⟩=>⟨Q,P,(c.block Z.Wg (ne _ hW)).trans L⟩,by rw[c.size];exact av _,c.tape,c.os,c.output⟩⟩;have e:=h.BB (w':=w') (k':=k) (g':=g') (Uv:=V i) (Si:=.tail d') O D f hf u (λB z A=>rel z A) ⟨C,v,hO,hC,c.pay hP,hJ,s1,s7,N⟩ (by rw[Deaf_own,K,J];rfl) ?_ ?_ ?_ hr ?_ ?_ (by rw[c.size];exact av _) ?_ ?_ ?_ ?_ ?_
 rw[jQ]at e;exact e;rw[jQ];refine ET.Yl (h.iP.apart O) (k:=Z.lo+i) h.et (Nat.le_add_right _ _) (by omega) λop g=>⟨u op g,λx E=> ?_⟩
 obtain⟨e,y,rfl⟩:=bk g;exact .inl ((n e y).1 x E);rw[jQ,c.size];exact h.iP;intro op g;obtain⟨e,y,rfl⟩:=bk g;exact(n e y).2;intro op g x E hk;obtain⟨e,y,rfl⟩:=bk g;exact((n e y).1 x E).1;intro op g x E;obtain⟨e,y,rfl⟩:=bk g;obtain⟨⟨a,h1,h2⟩,_⟩:=(n e y).1 x E;have hs:=h.iP.sz;rw[h1,c.size];exact(by rw[h2];omega:a.block<w.heap.size);obtain⟨hk,F,s,r,tm,hc⟩:=h.chan;exact⟨hk,F,s,r,tm,(c.block Z.Ch (ne _ H)).trans hc⟩;rw[jQ];exact h.done;rw[jQ];exact h.todo;rw[jQ];exact h.over;intro p hp M;refine O.j0 _ _ p (λa I=> ?_) (h.free p hp M);unfold b3;rw[c.block _ (ne _ (m _ (O.la p a I)))]
end
def zA(n j:Nat):CTag->Prop|.sp r _=>j+(r+1)=n|_=>j=n
def iZ(v:Nat):CTag->Nat|.sp r s=>20+16*r+s|.kd=>12|.anch=>7|.w1=>6|.w2 vs=>if v=vs then 5 else 10|.w3=>4|.blk=>4|.w4=>3|.ke=>2|.acq=>1|.ret=>0
section
variable [Payload] (Z:Ph) (Y:aw->ai->Prop) (X:(Nat->Prop)->aw->ai->Prop) (W:Nat) (V:Trace)
def Ph.rI(j:Nat)(t:Trace):Prop:=∃p,V.size<=p/\t.act? p=ae (.mark (.acquire (stA Z.Wg)))/\t.g? p=ae 0/\t.heard p/\∀i,i<j->∃r,RelBy (stA Z.Wg) t (Z.lo+i) r/\r<p/\V.size<=r
abbrev jE(S:Nat->rN):Nat->WD:=λi=>(S i).wd
def Ph.mu(S:Nat->rN)(q:Nat->Nat)(j:Nat)(tag:CTag)(a:Nat):Mu:=(S,(sumTo Z.lo q,(iZ (Vc j (jE S)) tag,a)))
def Ph.Inv(m:Mu)(h:Machine)(t:Trace):Prop:=
 ∃(b:Array aw)(w:ai)(sl:Option (Nat×Nat))(j:Nat)(l:Nat->Gh)(S:Nat->rN)(g:Nat->Prop)(q:Nat->Nat)(k:Nat)(tag:CTag)(d c:Nat)(a:aw)(f e:Int),
  h=crowd b w sl/\b[0]? =ae a/\Z.j6 Y X tag d c g a w/\Deaf t 0=c/\Z.Com W V b w t j l S g q k/\WgAt Z.ty Z.Wg w f e/\fa j (jE S) tag f e/\zA Z.n j tag/\
  (tag=.ret->Z.rI V j t)/\(∀i,i<Z.n->_root_.Acc Z.GV (S i))/\m=Z.mu S q j tag d
end
section
variable [Payload] {Z:Ph} {Y:aw->ai->Prop} {X:(Nat->Prop)->aw->ai->Prop} {W:Nat} {V:Trace} {U T:Array aw} {w R:ai} {sl:Option (Nat×Nat)} {t:Trace} {j:Nat} {Q P:Nat->Gh} {S:Nat->rN} {N:Nat->Prop} {q:Nat->Nat} {k O:Nat} {tag:CTag} {M K:Nat} {a:aw} {J I H G:Int}
def ur(S:Nat->rN)(i:Nat)(s:rN):jE (upd S i s)=upd (jE S) i s.wd:=by funext x;by_cases e:x=i;subst e;show(upd S x s x).wd=_;rw[upd_same,upd_same];show(upd S i s x).wd=_;rw[upd_ne _ _ e,upd_ne _ _ e]
def uZ(b:∀i,i<Z.n->_root_.Acc Z.GV (S i))(A:j<=Z.n)(u:Deaf t 0=K)(v:zA Z.n j tag){i:Nat}(C:i<j)(B:0<Z.lo){h:rN}{a:Trace}{a':aw}{tag':CTag}{f':Nat}(f:Z.Com W V T R (t++a) j P (upd S i h) N q O)(s:T[0]? =ae a')(l:Z.j6 Y X tag' f' K N a' R)(c:tag'=tag\/(tag=.blk/\tag'=.w3))(n:∀op∈a,op.g=Z.lo+i)(o:runT Z.P (crowd U w sl) (Z.lo+i)=(.next (crowd T R sl),a))(y:WgAt Z.ty Z.Wg R H G)(g:fa j (jE (upd S i h)) tag' H G)(k:tag=.ret->Z.rI V j (t++a))(m:Z.GV h (S i)):∃z d p,runT Z.P (crowd U w sl) (Z.lo+i)=(.next z,d)/\Z.Ps p (Z.mu S q j tag M)/\Z.Inv Y X W V p z (t++d):=by refine⟨_,_,Z.mu (upd S i h) q j tag' f',o,Prod.Lex.left _ _ ⟨i,by omega,by rw[upd_same];exact m,λx r=>upd_ne _ _ r⟩,T,R,sl,j,P,upd S i h,N,q,O,tag',f',K,a',H,G,rfl,s,l,?_,f,y,g,?_,?_,λx r=> ?_,rfl⟩;rw[Deaf_other t (g':=Z.lo+i) (by omega) _ n,u];rcases c with rfl|⟨rfl,rfl⟩<;>exact v;intro e;rcases c with rfl|⟨_,rfl⟩;exact k e;cases e;by_cases e:x=i;subst e;rw[upd_same];exact(b x r).inv m;rw[upd_ne _ _ e];exact b x r
def r6(s:∀N g w,X N g w->g.status=.running)(l:∀i,i<Z.n->_root_.Acc Z.GV (S i))(z:j<=Z.n)(x:Deaf t 0=K)(E:zA Z.n j tag){i:Nat}(T:i<j)(A:0<Z.lo)(L:U[0]? =ae a)(v:Z.j6 Y X tag M K N a w){g k:aw}{es:Array Event}(Q:U[Z.lo+i]? =ae g)(y:stepG Z.P au g w=.go k R es){r:rN}(u:Z.MR N w R)(d:∀f:aw->aw,(∀o,o.status=.running\/o.status=.finished->f o=o)->Z.Com W V ((U.map f).setIfInBounds (Z.lo+i) k) R (t++bZ (Z.lo+i) g.frame.fn g.frame.place es) j P (upd S i r) N q O)(F:WgAt Z.ty Z.Wg R H G)(h:∀tag',(tag'=tag\/(tag=.blk/\tag'=.w3))->(mayWake Z.P g=ar->k.status=.running->tag'≠.blk)->fa j (jE (upd S i r)) tag' H G)(m:tag=.ret->Z.rI V j (t++bZ (Z.lo+i) g.frame.fn g.frame.place es))(B:Z.GV r (S i)):∃J c p,runT Z.P (crowd U w sl) (Z.lo+i)=(.next J,c)/\Z.Ps p (Z.mu S q j tag M)/\Z.Inv Y X W V p J (t++c):=by
 obtain⟨tag',f',n,b,I⟩:=v.wokenBy s u g k;have C:(Z.lo+i==0)=au:=by simp;omega
 refine uZ l z x E T A (d (woken Z.P g k R) λo ho=> ?_) ?_ n b (λop D=>by obtain⟨e,_,rfl⟩:=bk D;rfl) (runT_crowd_go Q (by rw[C];exact y)) F (h tag' b I) m B;unfold Go.Conc.woken;split;exact again_running _ ho;rfl;rw[get_map_set _ _ _ _ (by omega),L];rfl
def rI.app{u:Trace}(h:Z.rI V j t)(m:∀i r,i<j->RelBy (stA Z.Wg) t (Z.lo+i) r->RelBy (stA Z.Wg) (t++u) (Z.lo+i) r):Z.rI V j (t++u):=by obtain⟨p,e,c,f,g,k⟩:=h;have hp:=lt_of_act? c;exact⟨p,e,by rw[act?_old hp];exact c,by rw[g?_old hp];exact f,(heard_old hp).2 g,λi d=>let⟨r,l,b,a⟩:=k i d;⟨r,m i r d l,b,a⟩⟩
def EK(O:Z.Ok)(YI:∀N g w,X N g w->g.status=.running)(ha:U[0]? =ae a)(Ss:Z.j6 Y X tag M K N a w)(UF:Deaf t 0=K)(A:Z.Com W V U w t j Q S N q k)(u:WgAt Z.ty Z.Wg w J I)(z:fa j (jE S) tag J I)(SD:zA Z.n j tag)(O1:tag=.ret->Z.rI V j t){i:Nat}(T:i<j){g:aw}(hg:U[Z.lo+i]? =ae g)(rZ:g.status=.running){d:WD}(hS:S i=.tail d):∃g' R es d' H G,stepG Z.P au g w=.go g' R es/\Z.MR N w R/\WgAt Z.ty Z.Wg R H G/\(d'.stage<d.stage\/(d'.stage=d.stage/\d'.fuel<d.fuel))/\(∀tag',(tag'=tag\/(tag=.blk/\tag'=.w3))->(mayWake Z.P g=ar->g'.status=.running->tag'≠.blk)->fa j (upd (jE S) i d') tag' H G)/\(tag=.ret->Z.rI V j (t++bZ (Z.lo+i) g.frame.fn g.frame.place es))/\∀f:aw->aw,(∀o,o.status=.running\/o.status=.finished->f o=o)->Z.Com W V ((U.map f).setIfInBounds (Z.lo+i) g') R (t++bZ (Z.lo+i) g.frame.fn g.frame.place es) j Q (upd S i (.tail d')) N q k:=by
 obtain⟨YG,Ix,K3⟩:=A.wk i T;obtain rfl:g=YG:=by rw[hg]at Ix;exact aX Ix
 rw[hS]at K3;obtain⟨C,v,hO,hC,hP,hJ,s1,s7,hs⟩:=K3;have hdk:Deaf t (Z.lo+i)=d.deaf:=by rw[A.deaf i T,hS];rfl
 have Ze:jE S i=d:=by show(S i).wd=d;rw[hS];rfl
 have hCW:C≠Z.Wg:=λe=>A.N0 T (e▸hC)
 have hVj:Vc j (jE S)<=j:=Vc_le j (jE S);have hjn:=A.jn;have hn:=O.n31;obtain⟨ds,df,dd⟩:=d;simp only at hs s1 s7 hdk|-;have B:(jE S i).stage=ds:=by rw[Ze]
 have E:∀{g':aw}{R:ai}{es:Array Event}{s' m' Vl:Nat}{H G:Int},stepG Z.P au g w=.go g' R es->Go.Conc.Aside Z.Wg w R->WgAt Z.ty Z.Wg R H G->(∀e∈es,Bk Z.Wg e)->
  (∀jx e,es[jx]? =ae e->(cQ e).touch? =ah\/0<deafBehind dd (es.extract 0 jx))->WSit Z.P Z.ty Z.Wg C 1 (λ_ _=>False) (λ_ _=>False) 0 1 v s' m' Vl g' R->deafBehind dd es=Vl->1<=s'->s'<=6->ds<=6->
  (∀tag',(tag'=tag\/(tag=.blk/\tag'=.w3))->(mayWake Z.P g=ar->g'.status=.running->tag'≠.blk)->fa j (upd (jE S) i ⟨s',m',Vl⟩) tag' H G)->(tag=.ret->Z.rI V j (t++bZ (Z.lo+i) g.frame.fn g.frame.place es))->(s'<ds\/(s'=ds/\m'<df))->_:=
  λ{g' R es s' m' Vl H G} c hAs Zf Sq hd hs' hdd UI VK h6 Y4 aaQ l6=>
   (⟨g',R,es,⟨s',m',Vl⟩,H,G,c,abg O A.ZV hAs ⟨_,_,Zf⟩,Zf,l6,Y4,aaQ,λf hf=>A.Ud O T hS hO hC hP hJ hAs ⟨_,_,Zf⟩ Sq hs' UI VK h6 hd hdd _ _ f hf⟩:∃g' R es d' H G,stepG Z.P au g w=.go g' R es/\Z.MR N w R/\WgAt Z.ty Z.Wg R H G/\(d'.stage<ds\/(d'.stage=ds/\d'.fuel<df))/\
   (∀tag',(tag'=tag\/(tag=.blk/\tag'=.w3))->(mayWake Z.P g=ar->g'.status=.running->tag'≠.blk)->fa j (upd (jE S) i d') tag' H G)/\
   (tag=.ret->Z.rI V j (t++bZ (Z.lo+i) g.frame.fn g.frame.place es))/\
   ∀f:aw->aw,(∀o,o.status=.running\/o.status=.finished->f o=o)->Z.Com W V ((U.map f).setIfInBounds (Z.lo+i) g') R (t++bZ (Z.lo+i) g.frame.fn g.frame.place es) j Q (upd S i (.tail d')) N q k)
 have same:∀m' Vl tag',(tag'=tag\/(tag=.blk/\tag'=.w3))->fa j (upd (jE S) i ⟨ds,m',Vl⟩) tag' J I:=λm' Vl tag' ht=>oh (by have:=z.same (i:=i) m' Vl;rwa[B]at this) ht
 have nr:ds≠1->tag≠.ret:=λh=>z.not_ret T (by rw[B];exact h)
 have idle:∀{g':aw}{m':Nat},stepG Z.P au g w=.go g' w #[]->WSit Z.P Z.ty Z.Wg C 1 (λ_ _=>False) (λ_ _=>False) 0 1 v ds m' dd g' w->m'<df->ds<=6->ds≠1->_:=λ{g' m'} c hs' hm h6 h1=>E c (.refl Z.Wg w) u (by simp) (by simp) hs' rfl s1 h6 h6 (λtag' ht _=>same m' dd tag' ht) (λe=>absurd e (nr h1)) (.inr ⟨rfl,hm⟩)
 cases hs with
 |r0 h=>
  rcases Goes.cases h with n|⟨m',rfl,l⟩;obtain⟨_,ad5,g',c,F,hk⟩:=n w (RW.refl w);have own:=λf hf=>A.NU (v:=v) O T hS (g':=g') (d':=⟨6,F,0⟩) (es:=#[ia (.releaseMerge (stA Z.Wg))]) hO hC hP hJ ⟨rfl,rfl,rfl,rfl,λ_ _=>rfl,id,λ_ _=>rfl⟩ (.k1 hk) (by simp) (by simp) rfl g.frame.fn g.frame.place (λe m=>by simp at m;subst m;exact⟨(λx hx=>by cases hx),by simp[Go.ConcR.ofEvent_mk]⟩) (λ_=>⟨t.size,RelBy.new hdk _ _⟩) f hf
  exact⟨g',w,_,⟨6,F,0⟩,J,I,c,.refl N w,u,.inl (by simp),λtag' ht _=>(z.counted T (by rw[B];decide) (.inl rfl) _ _).retag ht,λe=>absurd e (nr (by decide)),λf hf=>(own f hf).1⟩;obtain⟨g',R,es,c,⟨YS,Cw⟩,P⟩:=l w (RW.refl w);have YS:AsideCell C 1 0 w R:=YS;have hJ':∀p,(Q i).held p->Z.JP (λb=>(Q i).own b/\b≠C) p R:=λp hp=>by
   refine O.jp _ w R p (λb hb=>YS.block b hb.2) (λad O2=> ?_) (hJ p hp);have zd:ad.block≠C:=λe=>by have h1:=A.iP.B.2.2.2 _ (O.la p ad O2);have h2:=(A.iP.zh i C T hC).1;omega
   unfold b3;rw[YS.block _ zd]
  have own:=λf hf=>A.NU O T hS (g':=g') (d':=⟨7,m',0⟩) (es:=es) hO hC hP hJ' YS (.r0 P) (by simp) (by simp) (deafBehind_idle (λe m=>⟨(Cw e m).2.1,(Cw e m).2.2.1⟩) 0) g.frame.fn g.frame.place (λe m=>⟨λx hx=>(((Cw e m).1 0 "").2 x hx).elim id λh=>h.elim False.elim λh=>h.1.elim,?_⟩) (λx=>by simp at x) f hf
  exact⟨g',R,es,⟨7,m',0⟩,J,I,c,(own id (λ_ _=>rfl)).2,u.of_block (YS.block Z.Wg (kG hCW)),.inr ⟨rfl,by simp⟩,λtag' ht _=>same m' 0 tag' ht,λe=>absurd e (nr (by decide)),λf hf=>(own f hf).1⟩;intro x;exact(Cw e m).2.2.2 (Go.ConcR.loc_of_ofEvent x)
 |k1 h=>
  rcases Goes.cases h with n|⟨m',rfl,l⟩;obtain⟨_,g',c,F,hk⟩:=n w (RW.refl w);exact E c (.refl Z.Wg w) u (by intro e m;simp at m;subst m;exact .inl rfl) (by intro jx e m;exact .inl (by have:=rG m;simp at this;subst this;rfl)) (.d1 hk) rfl (by decide) (by decide) (by decide) (λtag' ht _=>(z.counted T (by rw[B];decide) (.inr rfl) _ _).retag ht) (λe=>absurd e (nr (by decide))) (.inl (by decide))
  obtain⟨g',R,es,c,⟨rfl,rfl⟩,P⟩:=l w (RW.refl w);exact idle c (.k1 P) (by omega) (by decide) (by decide)
 |d1 h=>
  rcases Goes.cases h with n|⟨m',rfl,l⟩;obtain⟨_,uY⟩:=n w (RW.refl w);have hc1:cnt (jE S i)=1:=by simp[cnt,B]
  have hV1:1<=Vc j (jE S):=by have:=le_sumTo (f:=λx=>cnt (jE S x)) T;simp only[Vc];omega
  have bk2:∀e∈ #[rd (stA Z.Wg),wr (stA Z.Wg)],Bk Z.Wg e:=by intro e m;simp at m;rcases m with rfl|rfl<;>exact bk_cell _ _ rfl
  have df2:∀jx e,(#[rd (stA Z.Wg),wr (stA Z.Wg)]:Array Event)[jx]? =ae e->(cQ e).touch? =ah\/0<deafBehind 1 ((#[rd (stA Z.Wg),wr (stA Z.Wg)]:Array Event).extract 0 jx):=by
   intro jx e m
   match jx,m with|0,_=>exact .inr (by simp[deafBehind])|1,_=>exact .inr (by simp[deafBehind,rd])|jx+2,m=>simp at m
  have hq0:∀x,cnt (⟨1,x,1⟩:WD)=0:=λ_=>rfl
  have opq:∀x,OpenSt j (jE S)->OpenSt j (upd (jE S) i ⟨1,x,1⟩):=λx h y hy=>by by_cases e:y=i;subst e;rw[upd_same];simp;rw[upd_ne _ _ e];exact h y hy
  cases z with
  |opn h1 h2 h3=>
   obtain⟨vv,hv⟩:∃vv,Vc j (jE S)+pend tag=vv+1:=⟨Vc j (jE S)+pend tag-1,by omega⟩;have hvn:vv<2147483647:=by
    have hp:pend tag<=1:=by cases tag<;>simp only[pend]<;>(try split)<;>omega
    have:Vc j (jE S)+pend tag<=Z.n:=by
     cases tag with|sp r s=>have:j+(r+1)=Z.n:=SD;omega|_=>simp only[pend]at hp|-;omega
    omega
   rw[hv]at u;have VN:WgAt Z.ty Z.Wg w (((vv:Nat)+1)*KK+((0:Nat):Int)) 0:=by simpa using u
   obtain⟨g',c,_,hq⟩:=uY vv 0 (by omega) hvn VN;obtain⟨x,hq⟩:=hq (by omega);have hv':Vc j (upd (jE S) i ⟨1,x,1⟩)+pend tag=vv:=by have:=Vc_upd (jE S) (⟨1,x,1⟩:WD) T;have:=hq0 x;omega
   refine E c (aside_setCell w (stA Z.Wg) _) (u.setSt _) bk2 df2 (.quit hq) rfl (by decide) (by decide) (by decide) (λtag' ht _=>oh ?_ ht) (λe=>absurd e (nr (by decide))) (.inl (by decide));have e:((vv:Nat):Int)*KK+((0:Nat):Int)=((Vc j (upd (jE S) i ⟨1,x,1⟩)+pend tag:Nat):Int)*KK:=by rw[hv'];simp
   rw[e];exact .opn h1 (opq x h2) (λvs ev=>by have:=h3 vs ev;omega)
  |reg h1 h2 h3=>
   obtain⟨vv,hv⟩:∃vv,Vc j (jE S)=vv+1:=⟨Vc j (jE S)-1,by omega⟩;rw[hv]at u;have VN:WgAt Z.ty Z.Wg w (((vv:Nat)+1)*KK+((1:Nat):Int)) 0:=by simpa using u
   obtain⟨g',c,hl,hq⟩:=uY vv 1 (by omega) (by omega) VN;by_cases hv0:vv=0;subst hv0;obtain⟨F,hk⟩:=hl ⟨rfl,rfl⟩;refine E c (aside_setCell w (stA Z.Wg) _) (u.setSt _) bk2 df2 (.d2 hk) rfl (by decide) (by decide) (by decide) (λtag' ht _=>oh ?_ ht) (λe=>absurd e (nr (by decide))) (.inl (by decide));have K2:∀y,y<j->y≠i->(jE S y).stage=1:=λy hy e=>by have c0:=others_uncounted T hv hc1 y hy e;have:=h2 y hy;simp only[cnt]at c0;split at c0<;>omega
   have:=Go.ConcN.Mode.last (j:=j) (D:=upd (jE S) i ⟨4,F,1⟩) (tag:=tag) i h1 T (by rw[upd_same];simp) (λy hy e=>by rw[upd_ne _ _ e];exact K2 y hy e);rw[upd_same]at this;simpa using this;obtain⟨x,hq⟩:=hq (by omega);have hv':Vc j (upd (jE S) i ⟨1,x,1⟩)=vv:=by have:=Vc_upd (jE S) (⟨1,x,1⟩:WD) T;have:=hq0 x;omega
   refine E c (aside_setCell w (stA Z.Wg) _) (u.setSt _) bk2 df2 (.quit hq) rfl (by decide) (by decide) (by decide) (λtag' ht _=>oh ?_ ht) (λe=>absurd e (nr (by decide))) (.inl (by decide));have e:((vv:Nat):Int)*KK+((1:Nat):Int)=((Vc j (upd (jE S) i ⟨1,x,1⟩):Nat):Int)*KK+1:=by rw[hv'];simp
   rw[e];exact .reg h1 (opq x h2) (by omega)
  |last L _ h2 h3 h4=>by_cases e:i=L;subst e;rw[B]at h3;omega;have:=h4 i T e;rw[B]at this;omega|sema h2=>have:=h2 i T;rw[B]at this;omega|fin _ h2=>have:=h2 i T;rw[B]at this;omega
  obtain⟨g',R,es,c,⟨rfl,rfl⟩,P⟩:=l w (RW.refl w);exact idle c (.d1 P) (by omega) (by decide) (by decide)
 |d2 h=>rcases Goes.cases h with n|⟨m',rfl,l⟩;obtain⟨_,hx⟩:=n w (RW.refl w);obtain⟨hW3,K2,rfl,rfl⟩:=z.isLast T (by rw[B];decide);simp only[B]at u;obtain⟨g',c,F,hk⟩:=hx (by simpa using u);refine E c (.refl Z.Wg w) u (by intro e m;simp at m;subst m;exact bk_cell _ _ rfl) (by intro jx e m;match jx,m with|0,_=>exact .inr (by simp[deafBehind])|jx+1,m=>simp at m) (.d3 hk) rfl (by decide) (by decide) (by decide) (λtag' ht _=>oh ?_ ht) (λe=>absurd e (nr (by decide))) (.inl (by decide));have:=Go.ConcN.Mode.last (j:=j) (D:=upd (jE S) i ⟨3,F,1⟩) (tag:=tag) i hW3 T (by rw[upd_same];simp) (λy hy e=>by rw[upd_ne _ _ e];exact K2 y hy e);rw[upd_same]at this;simpa using this;obtain⟨g',R,es,c,⟨rfl,rfl⟩,P⟩:=l w (RW.refl w);exact idle c (.d2 P) (by omega) (by decide) (by decide)
 |d3 h=>rcases Goes.cases h with n|⟨m',rfl,l⟩;obtain⟨_,hx⟩:=n w (RW.refl w);obtain⟨hW3,K2,rfl,rfl⟩:=z.isLast T (by rw[B];decide);simp only[B]at u;obtain⟨g',c,F,hk⟩:=hx (by simpa using u);refine E c (aside_setCell w (stA Z.Wg) _) (u.setSt 0) (by intro e m;simp at m;subst m;exact bk_cell _ _ rfl) (by intro jx e m;match jx,m with|0,_=>exact .inr (by simp[deafBehind])|jx+1,m=>simp at m) (.d4 hk) rfl (by decide) (by decide) (by decide) (λtag' ht _=>oh ?_ ht) (λe=>absurd e (nr (by decide))) (.inl (by decide));have:=Go.ConcN.Mode.last (j:=j) (D:=upd (jE S) i ⟨2,F,1⟩) (tag:=tag) i hW3 T (by rw[upd_same];simp) (λy hy e=>by rw[upd_ne _ _ e];exact K2 y hy e);rw[upd_same]at this;simpa using this;obtain⟨g',R,es,c,⟨rfl,rfl⟩,P⟩:=l w (RW.refl w);exact idle c (.d3 P) (by omega) (by decide) (by decide)
 |d4 h=>
  rcases Goes.cases h with n|⟨m',rfl,l⟩;obtain⟨_,hmw,hx⟩:=n w (RW.refl w);obtain⟨hW3,K2,rfl,rfl⟩:=z.isLast T (by rw[B];decide);simp only[B]at u;obtain⟨g',c,x,hq⟩:=hx (by simpa using u);have D3:g'.status=.running:=by
   cases x with|zero=>exact absurd hq.2 (by decide)|succ x=>exact hq.elim (λx=>absurd x.2 (by decide)) (λx=>x.1)
  refine E c (aside_setCell w (smA Z.Wg) _) (u.setSm 1) (es:=semEvents (smA Z.Wg)) ?_ ?_ (.quit hq) (by simp[deafBehind,semEvents]) (by decide) (by decide) (by decide) ?_ (λe=>absurd e (nr (by decide))) (.inl (by decide));intro e m;simp[semEvents]at m;rcases m with rfl|rfl|rfl|rfl;exact .inl rfl;exact bk_cell _ _ rfl;exact bk_cell _ _ rfl;exact .inr (.inl rfl);intro jx e m
  match jx,m with|0,m=>simp[semEvents]at m;subst m;exact .inl rfl|1,_=>exact .inr (by simp[deafBehind,semEvents])|2,_=>exact .inr (by simp[deafBehind,semEvents])|3,m=>simp[semEvents]at m;subst m;exact .inl rfl|jx+4,m=>simp[semEvents]at m
  intro tag' ht hw;have hnb:=hw hmw D3;have e3:tag'=.w3:=by
   rcases ht with rfl|⟨_,rfl⟩;cases tag'<;>first|rfl|exact hW3.elim|exact absurd rfl hnb
   rfl
  subst e3;simp only[if_true];exact .sema λy hy=>by by_cases e:y=i;subst e;rw[upd_same];rw[upd_ne _ _ e];exact K2 y hy e
  obtain⟨g',R,es,c,⟨rfl,rfl⟩,P⟩:=l w (RW.refl w);exact idle c (.d4 P) (by omega) (by decide) (by decide)
 |quit h=>
  cases df with
  |zero=>rw[h.1]at rZ;cases rZ|succ x=>
   rcases h with⟨hf,_⟩|⟨_,g',es,XL,l,hq⟩;rw[hf]at rZ;cases rZ;have Sq:∀e∈es,Bk Z.Wg e:=λe m=>bk_of_mute (XL e m)
   have hno:∀jx e,es[jx]? =ae e->(cQ e).touch? =ah\/0<deafBehind dd (es.extract 0 jx):=λjx e m=>.inl (touch_mute (XL e (rG m)))
   refine E (l w) (.refl Z.Wg w) u Sq hno (.quit hq) rfl (by decide) (by decide) (by decide) (λtag' ht _=>same x (deafBehind dd es) tag' ht) (λe=>rI.app (O1 e) λi' r hi' hr=> ?_) (.inr ⟨rfl,by omega⟩);by_cases e':i'=i;subst e';exact hr.book hdk _ _ Sq hno;exact hr.appNot λop hop=>by obtain⟨e,_,rfl⟩:=bk hop;simp;omega
end
end Rel
namespace Rel
open Go.Conc Go.ConcN
open Go.ConcR (KK WgAt rd wr Payload DC0 stA smA Bk)
section
variable [Payload] {Z:Ph} {Y:aw->ai->Prop} {X:(Nat->Prop)->aw->ai->Prop} {W:Nat} {V:Trace} {U T:Array aw} {w R:ai} {sl:Option (Nat×Nat)} {t:Trace} {j:Nat} {Q P:Nat->Gh} {S:Nat->rN} {N:Nat->Prop} {q:Nat->Nat} {k O:Nat} {M:CTag} {L K:Nat} {a:aw} {J I H G:Int}
def NY{b:Type}(f:Nat->b)(i:Nat)(x y:b):upd (upd f i x) i y=upd f i y:=by funext a;by_cases e:a=i;subst e;rw[upd_same,upd_same];rw[upd_ne _ _ e,upd_ne _ _ e,upd_ne _ _ e]
def Ph.j6.offers{a:aw}(b:∀N g w,X N g w->g.status=.running)(h:Z.j6 Y X M L K N a w):a.status≠.blocked\/a.offers=ah:=by
 rcases h.status b with⟨c,_⟩|⟨c,rfl⟩;left;rw[c];simp;cases h with|blk d=>exact .inr (d w (.refl N w)).2.1
def JO(O:Z.Ok)(YI:∀N g w,X N g w->g.status=.running)(ha:U[0]? =ae a)(B:Z.j6 Y X M L K N a w)(UF:Deaf t 0=K)(c:Z.Com W V U w t j Q S N q k)(XQ:WgAt Z.ty Z.Wg w J I)(o:fa j (jE S) M J I)(SD:zA Z.n j M)(O1:M=.ret->Z.rI V j t)(A:∀i,i<Z.n->_root_.Acc Z.GV (S i)){i:Nat}(hi:i<j){g:aw}(hg:U[Z.lo+i]? =ae g)(rZ:g.status=.running):∃m' I4 μ',runT Z.P (crowd U w sl) (Z.lo+i)=(.next m',I4)/\Z.Ps μ' (Z.mu S q j M L)/\Z.Inv Y X W V μ' m' (t++I4):=by
 obtain⟨YG,Ix,K3⟩:=c.wk i hi;obtain rfl:g=YG:=by rw[hg]at Ix;exact aX Ix
 have wY:=O.wY;cases hS:S i with
 |kV=>rw[hS]at K3;exact K3.elim|tail d=>obtain⟨g',R,es,d',H,G,hgo,hMR,E,p,u,T,l⟩:=EK O YI ha B UF c XQ o SD O1 hi hg rZ hS;exact r6 YI A c.jn UF SD hi wY ha B hg hgo hMR l E (λtag' h1 h2=>by rw[ur];exact u tag' h1 h2) T (by rw[hS];exact p)|tree x=>
  obtain⟨γx,gx,w0⟩:=x;rw[hS]at K3;obtain⟨h1,h2,UD,hrel⟩:=K3;simp only at h1 h2 UD hrel;subst h1;subst h2;have Ze:jE S i=⟨7,0,0⟩:=by show(S i).wd=_;rw[hS];rfl
  have nr:M≠.ret:=o.not_ret hi (by rw[Ze];decide);have keep:∀y,jE (upd S i (.tree y))=jE S:=λy=>by rw[ur];show upd (jE S) i ⟨7,0,0⟩=_;rw[<-Ze,jQ]
  by_cases hT:Z.Oj (Q i) gx w0;obtain⟨C,v,m,hO,hC,hJ,hP,hG⟩:=hT.rely O hrel;have aaT:Z.Com W V U w t j Q (upd S i (.tail ⟨7,m,0⟩)) N q k:=by refine⟨c.size,c.jn,c.old,λF D=> ?_,λF D=> ?_,λF D=> ?_,c.et,c.iP,c.norel,λF D hs=> ?_,c.pre,c.Ym,c.mute,c.seen,c.chan,c.done,c.todo,c.over,c.free⟩;by_cases e:F=i;subst e;exact⟨gx,hg,by rw[upd_same];exact⟨C,v,hO,hC,hP,hJ,by simp,by simp,.r0 hG⟩⟩;rw[upd_ne _ _ e];exact c.wk F D;rw[upd_ne _ _ (by omega)];exact c.un F D;by_cases e:F=i;subst e;rw[upd_same,c.deaf F D,hS];rfl;rw[upd_ne _ _ e];exact c.deaf F D;by_cases e:F=i;subst e;rw[upd_same]at hs;simp[rN.wd]at hs;rw[upd_ne _ _ e]at hs;exact c.rel F D hs
  have Y5:fa j (jE (upd S i (.tail ⟨7,m,0⟩))) M J I:=by
   refine o.congr λy hy=> ?_
   rw[ur];by_cases e:y=i;subst e;rw[upd_same,Ze];rfl;rw[upd_ne _ _ e]
  obtain⟨g',R,es,d',H,G,hgo,hMR,E,p,u,T,l⟩:=EK O YI ha B UF aaT XQ Y5 SD O1 hi hg rZ (upd_same _ _ _);rw[ur,NY]at u;exact r6 YI A c.jn UF SD hi wY ha B hg hgo hMR (λf hf=>by have:=l f hf;rwa[NY]at this) E (λtag' h1 h2=>by rw[ur];exact u tag' h1 h2) T (by rw[hS];trivial);cases UD with
  |tail h=>exact absurd h hT|step g' R es hr Cx VL=>
   obtain⟨hgo,hgu⟩:=Cx w hrel;have acN:=VL w hrel;have E:WgAt Z.ty Z.Wg (R w) J I:=by have hs:=c.iP.sz;have hW:=c.iP.B.1;exact(hgu.rest Z.Wg (by omega) (c.N0 hi) O.Oz).trans XQ
   exact r6 YI A c.jn UF SD hi wY ha B hg hgo (hgu.mr O c.iP hi) (λf hf=>c.Ui O hi hS hgu acN _ _ f hf) E (λtag' h1 _=>by rw[keep];exact o.retag h1) (λe=>absurd e nr) (by rw[hS];exact⟨hT,w,hrel,.inl ⟨_,hgo,rfl⟩⟩)
  |recv hr Cx YZ Sr=>
   have hcm:=Cx w hrel;obtain⟨hk,cap,s,r,tm,hch⟩:=c.chan;have zd:(Z.lo+i==0)=au:=by simp;omega
   have noP:∀b,partners (U.setIfInBounds (Z.lo+i) Go.Conc.ph) Z.Ch b=[]:=λb=>IW (λy gy hy hgy=>by
    rcases mO y with rfl|ada;rw[ha]at hgy;cases hgy;exact B.offers YI;rcases dU y Z.lo with p|hge;left;rcases(c.old y gy ada p hgy).status with h|h<;>rw[h]<;>simp;obtain⟨F,rfl⟩:∃F,y=Z.lo+F:=⟨y-Z.lo,by omega⟩;have p:F<j:=by have:=(aE.1 hgy).1;rw[c.size]at this;omega
    obtain⟨g2,hg2,UJ⟩:=c.wk F p;rw[hgy]at hg2;cases hg2;left;rcases UJ.status with h|h<;>rw[h]<;>simp) b
   have H4:∀fn pos,bZ (Z.lo+i) fn pos #[]=#[]:=λfn pos=>by rw[ofEvents_eq];simp
   rcases dU k Z.nj with p|hge;obtain⟨n,hn⟩:∃n,Z.nj-k=n+1:=⟨Z.nj-k-1,by omega⟩;have z:=crowd_recv_buf (P:=Z.P) (sl:=sl) hg (by rw[zd];exact hcm) hch (by simp;omega) (noP ar);have e1:((fJ k (Z.nj-k)).map Z.jv).toArray.getD 0 undef=Z.jv k:=by rw[hn];simp[List.range'_succ]
   have e2:((fJ k (Z.nj-k)).map Z.jv).toArray.extract 1 ((fJ k (Z.nj-k)).map Z.jv).toArray.size=((fJ (k+1) (Z.nj-(k+1))).map Z.jv).toArray:=by rw[hn,show Z.nj-(k+1)=n by omega];simp[List.range'_succ];exact cB (by simp)
   rw[e1,e2,H4,iK,finishComm_recv]at z;have hnh:¬(Q i).held k:=c.todo k i (av _) hi;have l:=c.Wx O hi (g:=gx) hS p hch (YZ w k hrel p hnh (c.free k (av _) p)) gx.frame.fn gx.frame.place;refine uZ A c.jn UF SD hi wY l (a':=a) (tag':=M) (f':=L) (by rw[aJ (by omega)];exact ha) (B.rely (V7 O c.Yu _ _ _ _ _ _)) (.inl rfl) (λop hop=>by simp only[oi,b6,gX,or_false]at hop;rcases hop with rfl|rfl<;>rfl) z ?_ (by rw[keep];exact o) (λe=>absurd e nr) (by rw[hS];exact⟨hT,w,hrel,.inr ⟨_,_,_,_,hcm,rfl,.inl ⟨k,p,hnh,c.free k (av _) p,rfl,rfl⟩⟩⟩)
   exact XQ.of_block (by show(w.heap.setIfInBounds Z.Ch _)[Z.Wg]? =_;rw[aJ O.hCW]);have hkn:k=Z.nj:=by omega
   rw[show Z.nj-k=0 by omega]at hch;have z:=crowd_recv_closed (P:=Z.P) (sl:=sl) hg (by rw[zd];exact hcm) hch (noP ar);rw[H4,iK,finishComm_recv]at z;have l:=c.TI O hi (g:=gx) hS hkn (Sr w hrel) gx.frame.fn gx.frame.place;exact uZ A c.jn UF SD hi wY l (a':=a) (tag':=M) (f':=L) (by rw[aJ (by omega)];exact ha) B (.inl rfl) (λop hop=>by simp only[oi,b6,gX,or_false]at hop;rcases hop with rfl;rfl) z XQ (by rw[keep];exact o) (λe=>absurd e nr) (by rw[hS];exact⟨hT,w,hrel,.inr ⟨_,_,_,_,hcm,rfl,.inr ⟨rfl,rfl⟩⟩⟩)
end
section
variable [Payload] {Z:Ph} {Y:aw->ai->Prop} {X:(Nat->Prop)->aw->ai->Prop} {W:Nat} {V:Trace} {U T:Array aw} {w R:ai} {sl:Option (Nat×Nat)} {t:Trace} {j:Nat} {Q P:Nat->Gh} {S:Nat->rN} {N M:Nat->Prop} {q:Nat->Nat} {k O:Nat} {L tag':CTag} {K f' J:Nat} {a a':aw} {I H G F:Int} {es:Array Event}
def Ph.Com.main(O:Z.Ok)(h:Z.Com W V U w t j Q S N q k){l:Trace}(f:aw->aw)(X:∀o,o.status=.running\/o.status=.finished->f o=o)(d:∀op∈l,op.g=0)(hrel:∀i,i<j->Z.dQ (Q i) w R)(G:ET (Z.qk Q j M) Z.lo (Z.lo+j) (t++l))(B:Z.QG W Q j M R.heap.size)(K:∀op∈l,op.act≠.mark (.release (stA Z.Wg)))(v:∀op∈l,∀x,op.act.touch? =ae x->x.loc.low R.heap.size)(T:w.heap.size<=R.heap.size)(F:R.heap[Z.Ch]? =w.heap[Z.Ch]?)(H:∀p a,Z.jl p a->R.heap[a.block]? =w.heap[a.block]?):Z.Com W V ((U.map f).setIfInBounds 0 a') R (t++l) j Q S M q k:=by have wY:=O.wY;refine⟨by simp[h.size],h.jn,λn x h0 hl m=> ?_,λn g=> ?_,h.un,λn g=> ?_,G,B,λp hp z=> ?_,λn g P=> ?_,?_,λp op x hp b A m I=> ?_,λp op hp b A J=> ?_,λop b x m=> ?_,?_,h.done,h.todo,h.over,λp hp L=>O.j0 _ _ p (λa D=>by unfold b3;rw[H p a D]) (h.free p hp L)⟩;rw[get_map_set _ _ _ _ (by omega)]at m;obtain⟨y,hy,rfl⟩:=aF.1 m;have Y:=h.old n y h0 hl hy;rw[X y Y.status,Deaf_other t (g':=0) (by omega) _ d];exact Y;obtain⟨x,m,C⟩:=h.wk n g;exact⟨x,by rw[get_map_set _ _ _ _ (by omega),m,eT,X x C.status],C.rely O (hrel n g)⟩;rw[Deaf_other t (g':=0) (by omega) _ d];exact h.deaf n g;obtain⟨op,b,D⟩:=aF.1 z;rcases getElem?_append_cases b with⟨_,c⟩|⟨_,e⟩;exact h.norel p hp (by rw[act?_of c,D]);exact K op e D;obtain⟨r,hr⟩:=h.rel n g P;exact⟨r,hr.appNot λop b=>by rw[d op b];omega⟩;obtain⟨u,rfl⟩:=h.pre;exact⟨u++l,by rw[Array.append_assoc]⟩;rcases getElem?_append_cases b with⟨_,c⟩|⟨_,e⟩;exact h.Ym p op x hp c A m I;exact absurd (d op e) A;rcases getElem?_append_cases b with⟨_,c⟩|⟨_,e⟩;exact h.mute p op hp c A J;exact absurd (d op e) A;rcases nz.1 b with y|y;exact Loc.low_mono T (h.seen op y x m);exact v op y x m;obtain⟨I,E,s,r,tm,hc⟩:=h.chan;exact⟨I,E,s,r,tm,F.trans hc⟩
def qW(e:∀i,i<Z.n->_root_.Acc Z.GV (S i))(n:Deaf t 0=J)(s:zA Z.n j tag')(z:U[0]? =ae a)(p:stepG Z.P ar a w=.go a' R es)(A:0<Z.lo)(l:Z.Com W V U w t j Q S N q k)(c:∀f:aw->aw,(∀o,o.status=.running\/o.status=.finished->f o=o)->Z.Com W V ((U.map f).setIfInBounds 0 a') R (t++bZ 0 a.frame.fn a.frame.place es) j Q S M q k)(m:Z.j6 Y X tag' f' (deafBehind J es) M a' R)(u:WgAt Z.ty Z.Wg R G F)(d:fa j (jE S) tag' G F)(g:tag'=.ret->Z.rI V j (t++bZ 0 a.frame.fn a.frame.place es))(r:iZ (Vc j (jE S)) tag'<iZ (Vc j (jE S)) L\/(iZ (Vc j (jE S)) tag'=iZ (Vc j (jE S)) L/\f'<K)):∃v b M,runT Z.P (crowd U w sl) 0=(.next v,b)/\Z.Ps M (Z.mu S q j L K)/\Z.Inv Y X W V M v (t++b):=by refine⟨_,_,Z.mu S q j tag' f',runT_crowd_go (P:=Z.P) (sl:=sl) (i:=0) z (by simpa using p),?_,_,R,sl,j,Q,S,M,q,k,tag',f',deafBehind J es,a',G,F,rfl,get_map_set_same _ _ _ (by rw[l.size];omega),m,by rw[Deaf_own,n],c _ λo B=> ?_,u,d,s,g,e,rfl⟩;refine Prod.Lex.right _ (Prod.Lex.right _ ?_);rcases r with h|⟨x,y⟩;exact Prod.Lex.left _ _ h;rw[x];exact Prod.Lex.right _ y;unfold Go.Conc.woken;split;exact again_running _ B;rfl
def mS{e:Event}(h:Z.EvM N e):(e.loc≠.mark .disable/\e.loc≠.mark .enable)/\cQ e≠.mark (.release (stA Z.Wg))/\∀x,(cQ e).touch? =ae x->(ShN Z.Wg x.loc/\x.kind≠.plain)\/(∃b,tk x.loc=ae b/\N b)\/(x.write=au/\∃b,tk x.loc=ae b/\Z.jB b):=by rcases h with rfl|⟨a,f,rfl|rfl⟩|⟨k,b,d,h⟩;exact⟨⟨by simp,by simp⟩,by simp[cQ],λx c=>by cases c⟩;refine⟨⟨by simp,by simp⟩,by simp[cQ],λx c=>.inl ?_⟩;simp only[cQ,qy,dm]at c;subst c;exact⟨⟨a,rfl,f⟩,by simp⟩;refine⟨⟨by simp,by simp⟩,by simp[cQ],λx c=>.inl ?_⟩;simp only[cQ,qy,dm]at c;subst c;exact⟨⟨a,rfl,f⟩,by simp⟩;obtain⟨g,i⟩:=tr d k;refine⟨⟨λx=>(by rw[x]at d;cases d),λx=>by rw[x]at d;cases d⟩,by rw[g];simp,λx c=> ?_⟩;rw[i]at c;cases c;rcases h with h|⟨l,j⟩;exact .inr (.inl ⟨b,d,h⟩);exact .inr (.inr ⟨l,b,d,j⟩)
def Wy(O:Z.Ok)(e:Z.QG W Q j N w.heap.size)(h:Ph.Al w R){i:Nat}(k:i<j):Z.dQ (Q i) w R:=by obtain⟨m,hC,g,a⟩:=e.B;have n:=e.sz;refine⟨λb c=>h.rest b (e.zh i b k c).2,λb c=>h.rest b (by have:=g b c;omega),λp f _ d=> ?_,λb c=> ?_,λ⟨I,H,l⟩=>⟨I,H,(h.rest Z.Wg (by omega)).trans l⟩,h.size,h.tape,h.os,h.output⟩;unfold b3;rw[h.rest _ (by have:=a _ (O.la p f d);omega)];unfold dp;rw[h.rest _ (by have:=a b c;omega)]
omit [Payload]in
def MN(w:ai):Ph.Al w w:=⟨λ_ _=>rfl,av _,rfl,rfl,rfl⟩
def Ph.Com.Fz(O:Z.Ok)(h:Z.Com W V U w t j Q S N q k)(n:Ph.Al w R)(u:∀e∈es,Z.EvM (sy N w R) e)(D:bG)(pos:String)(f:aw->aw)(K:∀o,o.status=.running\/o.status=.finished->f o=o):Z.Com W V ((U.map f).setIfInBounds 0 a') R (t++bZ 0 D pos es) j Q S (sy N w R) q k:=by
 obtain⟨M,hC,I,A⟩:=h.iP.B;have P:=h.iP.sz;have L:=n.size;have g:Z.QG W Q j (sy N w R) R.heap.size:=by refine⟨h.iP.Hx,λi b y c hm=> ?_,λi b y c=> ?_,λb c=> ?_,h.iP.Ae,h.iP.l6,by omega,h.iP.B,h.iP.st⟩;rcases hm with hm|⟨s,_⟩;exact h.iP.mine i b y c hm;have:=(h.iP.zh i b y c).2;omega;have:=h.iP.zh i b y c;omega;rcases c with c|⟨s,E⟩;have:=h.iP.ve b c;omega;omega
 have r:∀op∈bZ 0 D pos es,op.g=0:=λop d=>by obtain⟨e,_,rfl⟩:=bk d;rfl
 refine h.main O f K r (λi y=>Wy O h.iP n y) ?_ g (λop d=> ?_) (λop d x C=> ?_) L (n.rest Z.Ch (by omega)) (λp a J=>n.rest _ (by have:=A _ (O.la p a J);omega));refine ET.aaB (g.apart O) O.wY (Nat.le_add_right _ _) (h.et.qk rfl (λT _ _ l v=>.inl v) (λl v=>v) (λl v=>v) λl v=> ?_) λop d=>⟨r op d,λx C=> ?_⟩
 obtain⟨b,c,hm|⟨s,_⟩⟩:=v;exact .inl ⟨b,c,hm⟩;exact .inr (uO h.seen c s);obtain⟨e,z,rfl⟩:=bk d;rcases(mS (u e z)).2.2 x C with s|⟨b,c,hm⟩|⟨F,b,c,B⟩;exact .inl s;exact .inr (.inl ⟨b,c,hm⟩);exact .inr (.inr ⟨⟨b,c,B⟩,F⟩);obtain⟨e,z,rfl⟩:=bk d;exact(mS (u e z)).2.1;obtain⟨e,z,rfl⟩:=bk d;rcases(mS (u e z)).2.2 x C with⟨⟨G,s,E⟩,_⟩|⟨b,c,hm⟩|⟨F,b,c,B⟩;rw[s];exact(by rw[E];omega:G.block<R.heap.size);refine An λH m=> ?_
 rw[c]at m;cases m;exact(g.ve b hm).2;refine An λH m=> ?_
 rw[c]at m;cases m;have:=I b B;omega
omit [Payload]in
def rY(N:Nat->Prop)(w:ai):sy N w w=N:=by funext b;apply propext;exact⟨λh=>h.elim id λ⟨c,a⟩=>absurd a (by omega),.inl⟩
def pO(O:Z.Ok)(g:∀i,i<Z.n->_root_.Acc Z.GV (S i))(n:Deaf t 0=J)(v:zA Z.n j L)(A:U[0]? =ae a)(b:Z.Com W V U w t j Q S N q k)(x:WgAt Z.ty Z.Wg w I H)(d:fa j (jE S) L I H)(h:L=.ret->Z.rI V j t)(p:stepG Z.P ar a w=.go a' R es)(z:Z.DM N w R es)(l:Z.j6 Y X L f' J N a' R)(s:f'<K):∃y c M,runT Z.P (crowd U w sl) 0=(.next y,c)/\Z.Ps M (Z.mu S q j L K)/\Z.Inv Y X W V M y (t++c):=by obtain⟨rfl,m⟩:=z;have o:deafBehind J es=J:=deafBehind_idle (λe B=>(mS (m e B)).1) J;refine qW g n v A p O.wY b (λf C=> ?_) (by rw[o];exact l) x d (λe=>rI.app (h e) λi r _ D=>D.appNot λop u=>by obtain⟨e,_,rfl⟩:=bk u;have:=O.wY;simp;omega) (.inr ⟨rfl,s⟩);have:=b.Fz (a':=a') O (MN R) (es:=es) (by rw[rY];exact m) a.frame.fn a.frame.place f C;rwa[rY]at this
def qJ(O:Z.Ok)(r:∀i,i<Z.n->_root_.Acc Z.GV (S i))(A:Deaf t 0=J)(E:zA Z.n j tag')(z:U[0]? =ae a)(b:Z.Com W V U w t j Q S N q k)(B:stepG Z.P ar a w=.go a' R es)(d:Go.Conc.Aside Z.Wg w R)(l:WgAt Z.ty Z.Wg R G F)(n:∀e∈es,Bk Z.Wg e)(s:Z.j6 Y X tag' f' (deafBehind J es) N a' R)(g:fa j (jE S) tag' G F)(D:tag'≠.ret)(C:iZ (Vc j (jE S)) tag'<iZ (Vc j (jE S)) L\/(iZ (Vc j (jE S)) tag'=iZ (Vc j (jE S)) L/\f'<K)):∃I m M,runT Z.P (crowd U w sl) 0=(.next I,m)/\Z.Ps M (Z.mu S q j L K)/\Z.Inv Y X W V M I (t++m):=by
 have h:∀op∈bZ 0 a.frame.fn a.frame.place es,op.g=0:=λop c=>by obtain⟨e,_,rfl⟩:=bk c;rfl
 have o:Z.Wg<R.heap.size:=by have:=b.iP.B.1;have:=b.iP.sz;rw[d.size];omega
 refine qW r A E z B O.wY b (λf T=>b.main O f T h (λi hi=>ND O (b.N0 hi) d ⟨_,_,l⟩) ?_ (by rw[d.size];exact b.iP) (λop c=> ?_) (λop c x H=> ?_) (by rw[d.size];exact av _) (d.block Z.Ch O.hCW) λp a z=>d.block _ λe=>O.Oz (e▸O.la p a z)) s l g (λe=>absurd e D) C;refine ET.aaB (b.iP.apart O) O.wY (Nat.le_add_right _ _) b.et λop c=>⟨h op c,λx H=> ?_⟩
 obtain⟨e,u,rfl⟩:=bk c;obtain⟨v,y⟩:=(zG (n e u)).1 x H;exact .inl ⟨y,by rw[v];simp⟩;obtain⟨e,u,rfl⟩:=bk c;exact(zG (n e u)).2.1;obtain⟨e,u,rfl⟩:=bk c;obtain⟨P,v,y⟩:=((zG (n e u)).1 x H).2;rw[v];exact(by rw[y];exact o:P.block<R.heap.size)
end
section
variable [Payload] {Z:Ph} {Y:aw->ai->Prop} {X:(Nat->Prop)->aw->ai->Prop} {W:Nat} {V:Trace} {U T:Array aw} {w R:ai} {sl:Option (Nat×Nat)} {t:Trace} {j:Nat} {Q P:Nat->Gh} {S:Nat->rN} {N M:Nat->Prop} {q:Nat->Nat} {k O:Nat} {K tag':CTag} {J f' I:Nat} {a a':aw} {H G L F:Int} {es:Array Event}
def Ph.Com.spawn(O:Z.Ok)(h:Z.Com W V U w t j Q S N q k)(hj:j<Z.n)(hd:Deaf t 0=0){o:aw}{G:Nat->Prop}(I:∀b,G b->N b)(UD:Z.WT ⟨G,λ_=>False,False⟩ o w){x y:MemOp}(hx:x.g=0/\x.act=.go (Z.lo+j))(hy:y.g=Z.lo+j/\y.act=.start):Z.Com W V ((U.setIfInBounds 0 a').push o) w (t++#[x,y]) (j+1) (upd Q j ⟨G,λ_=>False,False⟩) (upd S j (.tree (⟨G,λ_=>False,False⟩,o,w))) (λb=>N b/\¬G b) q k:=by
 have wY:=O.wY;have hm:∀op∈(#[x,y]:Trace),(op=x\/op=y):=by intro op a;simpa using a
 have K:∀op∈(#[x,y]:Trace),∀m,op.act≠.mark m:=by intro op a m;rcases hm op a with rfl|rfl;rw[hx.2];simp;rw[hy.2];simp
 have L:∀op∈(#[x,y]:Trace),op.act.touch? =ah:=by intro op a;rcases hm op a with rfl|rfl;rw[hx.2];rfl;rw[hy.2];rfl
 have hgk:∀op∈(#[x,y]:Trace),op.g=0\/op.g=Z.lo+j:=by intro op a;rcases hm op a with rfl|rfl;exact .inl hx.1;exact .inr hy.1
 have Cx:∀g,Deaf (t++#[x,y]) g=Deaf t g:=λg=>Deaf_still t g _ λop a=>⟨K op a _,K op a _⟩
 have own:∀{i b:Nat},i<j+1->(upd Q j ⟨G,λ_=>False,False⟩ i).own b->(i<j/\(Q i).own b)\/(i=j/\G b):=by intro i b d n;by_cases e:i=j;subst e;rw[upd_same]at n;exact .inr ⟨rfl,n⟩;rw[upd_ne _ _ e]at n;exact .inl ⟨by omega,n⟩
 have c:∀{i p:Nat},i<j+1->(upd Q j ⟨G,λ_=>False,False⟩ i).held p->i<j/\(Q i).held p:=by intro i p d n;by_cases e:i=j;subst e;rw[upd_same]at n;exact n.elim;rw[upd_ne _ _ e]at n;exact⟨by omega,n⟩
 refine⟨by simp[h.size];omega,hj,λi z h0 A C=> ?_,λi d=> ?_,λi d=> ?_,λi d=> ?_,?_,?_,λp hp R=> ?_,λi d hs=> ?_,?_,λp op z hp a T C hk=> ?_,λp op hp a T f=> ?_,λop a z C=> ?_,h.chan,λp hp=> ?_,λp i hp d Y=> ?_,λi d n=> ?_,h.free⟩;rw[Cx];refine h.old i z h0 A ?_;rw[Array.getElem?_push_lt (by simp[h.size];omega),<-aH,aJ (by omega)]at C;exact C;rcases dU i j with f|X;obtain⟨g,T,hsg⟩:=h.wk i f;refine⟨g,?_,by rw[upd_ne _ _ (by omega),upd_ne _ _ (by omega)];exact hsg⟩;rw[Array.getElem?_push_lt (by simp[h.size];omega),<-aH,aJ (by omega)];exact T;obtain rfl:i=j:=by omega
 refine⟨o,?_,by rw[upd_same,upd_same];exact⟨rfl,rfl,UD,.refl _ _⟩⟩;rw[show Z.lo+i=(U.setIfInBounds 0 a').size by simp[h.size],Array.getElem?_push_size];rw[upd_ne _ _ (by omega)];exact h.un i (by omega);rw[Cx];rcases dU i j with f|X;rw[upd_ne _ _ (by omega)];exact h.deaf i f;obtain rfl:i=j:=by omega
 rw[upd_same];exact Deaf_absent λz op C e=>by have:=h.et.gs z op C;omega
 have e:Z.lo+(j+1)=Z.lo+j+1:=by omega
 rw[e];refine ET.fork (F:=Z.qk Q j N) (F':=Z.qk (upd Q j ⟨G,λ_=>False,False⟩) (j+1) (λb=>N b/\¬G b)) (Nat.le_add_right _ _) h.et rfl (λkk B P l A=> ?_) (λl A=> ?_) (λl A=> ?_) (λl A=>A) (λl A=> ?_) (by omega) hx hy hd;obtain⟨i,d,rfl,A⟩:=A;rcases A with⟨b,E,n⟩|⟨p,ad,hp,H,rfl⟩;rcases own d n with⟨f,n⟩|⟨rfl,_⟩;exact⟨i,f,rfl,.inl ⟨b,E,n⟩⟩;omega;obtain⟨f,hp⟩:=c d hp;exact⟨i,f,rfl,.inr ⟨p,ad,hp,H,rfl⟩⟩;obtain⟨i,d,e,A⟩:=A;obtain rfl:i=j:=by omega
 rcases A with⟨b,E,n⟩|⟨p,ad,hp,H,rfl⟩;rw[upd_same]at n;exact⟨b,E,I b n⟩;exact absurd (c d hp).1 (by omega);obtain⟨p,ad,hn,H,rfl⟩:=A;exact⟨p,ad,λi d hp=>hn i (by omega) (by rw[upd_ne _ _ (by omega)];exact hp),H,rfl⟩;obtain⟨b,E,hm⟩:=A;exact⟨b,E,hm.1⟩;refine⟨λi i' b d J B P=> ?_,λi b d B hm=> ?_,λi b d B=> ?_,λb hm=>h.iP.ve b hm.1,λi i' p d J B P=> ?_,λi p d B=>h.iP.l6 i p (c d B).1 (c d B).2,h.iP.sz,h.iP.B,h.iP.st⟩;rcases own d B with⟨M,D⟩|⟨rfl,D⟩<;>rcases own J P with⟨l2,o2⟩|⟨e,o2⟩
 exact h.iP.Hx i i' b M l2 D o2;exact absurd (I b o2) (h.iP.mine i b M D);exact absurd (I b D) (h.iP.mine i' b l2 o2);exact e.symm;rcases own d B with⟨M,D⟩|⟨rfl,D⟩;exact h.iP.mine i b M D hm.1;exact hm.2 D;rcases own d B with⟨M,D⟩|⟨rfl,D⟩;exact h.iP.zh i b M D;exact h.iP.ve b (I b D);exact h.iP.Ae i i' p (c d B).1 (c J P).1 (c d B).2 (c J P).2;obtain⟨op,a,ha⟩:=aF.1 R;rcases getElem?_append_cases a with⟨_,s⟩|⟨_,v⟩;exact h.norel p hp (by rw[act?_of s,ha]);exact K op v _ ha;rcases dU i j with f|X;rw[upd_ne _ _ (by omega)]at hs;obtain⟨r,hr⟩:=h.rel i f hs;refine⟨r,hr.appNot λop a=> ?_⟩;rcases hgk op a with e|e<;>omega;obtain rfl:i=j:=by omega
 rw[upd_same]at hs;simp[rN.wd]at hs;obtain⟨u,rfl⟩:=h.pre;exact⟨u++#[x,y],by rw[Array.append_assoc]⟩;rcases getElem?_append_cases a with⟨_,s⟩|⟨_,v⟩;exact h.Ym p op z hp s T C hk;rw[L op v]at C;cases C;rcases getElem?_append_cases a with⟨_,s⟩|⟨_,v⟩;exact h.mute p op hp s T f;exact L op v;rcases nz.1 a with z'|z';exact h.seen op z' z C;rw[L op z']at C;cases C;obtain⟨i,d,Y⟩:=h.done p hp;exact⟨i,by omega,by rw[upd_ne _ _ (by omega)];exact Y⟩;obtain⟨f,Y⟩:=c d Y;exact h.todo p i hp f Y;by_cases e:i=j;subst e;rw[upd_same]at n;exact n.elim;rw[upd_ne _ _ e]at n;exact h.over i (by omega) n
def MQ:∀e∈ #[ia .disable],Bk Z.Wg e:=by intro e a;simp at a;subst a;exact .inl rfl
def Rs:∀e∈ #[ia .enable],Bk Z.Wg e:=by intro e a;simp at a;subst a;exact .inr (.inl rfl)
def E8:∀e∈ #[rd (stA Z.Wg)],Bk Z.Wg e:=by intro e a;simp at a;subst a;exact bk_cell _ _ rfl
def Rt:∀e∈ #[rd (stA Z.Wg),wr (stA Z.Wg)],Bk Z.Wg e:=by intro e a;simp at a;rcases a with rfl|rfl<;>exact bk_cell _ _ rfl
def Ve:∀e∈semEvents (smA Z.Wg),Bk Z.Wg e:=by intro e a;simp[semEvents]at a;rcases a with rfl|rfl|rfl|rfl;exact .inl rfl;exact bk_cell _ _ rfl;exact bk_cell _ _ rfl;exact .inr (.inl rfl)
def Ph.Q5(Z:Ph)(Y:aw->ai->Prop)(W:Nat)(V:Trace)(b:Machine)(t:Trace):Prop:=
 ∃(U:Array aw)(w:ai)(sl:Option (Nat×Nat))(Q:Nat->Gh)(S:Nat->rN)(N:Nat->Prop)(q:Nat->Nat)(k:Nat)(a:aw),
  b=crowd U w sl/\U[0]? =ae a/\a.status=.running/\Y a w/\Deaf t 0=0/\Z.Com W V U w t Z.n Q S N q k/\WgAt Z.ty Z.Wg w 0 0/\AllQuit Z.n (jE S)/\Z.rI V Z.n t
def Ql(O:Z.Ok)(hT0:∀(i:Nat)(op:MemOp),V[i]? =ae op->op.g<Z.lo)(hAn:∀N g w,X N g w->∃m,Z.GP N (Z.AtW1 N Y (X N)) m g w)(F:U[0]? =ae a)(Ss:Z.j6 Y X K J I N a w)(z:Deaf t 0=I)(b:Z.Com W V U w t j Q S N q k)(s:WgAt Z.ty Z.Wg w H G)(c:fa j (jE S) K H G)(v:zA Z.n j K)(O1:K=.ret->Z.rI V j t)(o:∀i,i<Z.n->_root_.Acc Z.GV (S i))(rZ:a.status=.running):(K=.ret/\∀fx,Z.MR N w fx->Ph.AtRet Y a fx)\/∃m' I4 M,runT Z.P (crowd U w sl) 0=(.next m',I4)/\Z.Ps M (Z.mu S q j K J)/\Z.Inv Y X W V M m' (t++I4):=by
 have hVj:=Vc_le j (jE S);have hjn:=b.jn;have hn:=O.n31;have w1:∀{K:CTag}{J f1:Nat},zA Z.n j .w1->fa j (jE S) .w1 H G->Z.GP N (Z.AtW1 N Y (X N)) f1 a w->Deaf t 0=1->(iZ (Vc j (jE S)) .w1<iZ (Vc j (jE S)) K\/(K=.w1/\f1=J))->
  ∃m' I4 M,runT Z.P (crowd U w sl) 0=(.next m',I4)/\Z.Ps M (Z.mu S q j K J)/\Z.Inv Y X W V M m' (t++I4):=by
  intro K J f1 v c h VF l6;rcases Goes.cases h with d|⟨m',rfl,l⟩;obtain⟨_,uY⟩:=d w (.refl N w);obtain⟨ho,rfl,rfl,_⟩:=c.open_inv trivial;obtain⟨a',n,h0,zd⟩:=uY (Vc j (jE S)) (by omega) (by simpa[pend]using s);have hrk:∀{tg:CTag},iZ (Vc j (jE S)) tg<iZ (Vc j (jE S)) .w1->iZ (Vc j (jE S)) tg<iZ (Vc j (jE S)) K:=λh=>by rcases l6 with h'|⟨rfl,_⟩<;>omega
  by_cases hv:Vc j (jE S)=0;obtain⟨B,E⟩:=h0 hv;refine qJ O o VF (tag':=.ke) v F b n (.refl Z.Wg w) s E8 (.ke E) ?_ (by simp) (.inl (hrk (by simp[iZ])));have e:((Vc j (jE S)+pend .w1:Nat):Int)*KK=0:=by rw[hv];simp[pend]
  rw[e];exact .fin trivial (allQuit_of ho hv);obtain⟨B,E⟩:=zd hv;exact qJ O o VF (tag':=.w2 (Vc j (jE S))) v F b n (.refl Z.Wg w) s E8 (.w2 E) (c.reopen trivial trivial rfl (λvs e=>by cases e;omega)) (by simp) (.inl (hrk (by simp[iZ])));obtain⟨a',R,es,n,T,A⟩:=l w (.refl N w);obtain⟨rfl,Cw⟩:=T;have YU:deafBehind 1 es=1:=deafBehind_idle (λe he=>(mS (Cw e he)).1) 1;refine qW o VF (tag':=.w1) (f':=m') v F n O.wY b (λf hf=> ?_) (by rw[YU];exact .w1 A) s c (by simp) ?_;have:=b.Fz (a':=a') O (MN R) (es:=es) (by rw[rY];exact Cw) a.frame.fn a.frame.place f hf;rwa[rY]at this;rcases l6 with h'|⟨rfl,rfl⟩;exact .inl h';exact .inr ⟨rfl,by omega⟩
 cases Ss with
 |Yk hr h=>refine .inr ?_;rcases Goes.cases h with d|⟨m',rfl,l⟩;obtain⟨_,a',R,es,n,hal,Cw,B,E⟩:=d w (.refl N w);have YU:deafBehind 0 es=0:=deafBehind_idle (λe he=>(mS (Cw e he)).1) 0;exact qW o z (tag':=.sp _ 6) v F n O.wY b (λf hf=>b.Fz O hal Cw _ _ f hf) (by rw[YU];exact .al2 hr E) (s.of_block (hal.rest Z.Wg (by have:=b.iP.B.1;have:=b.iP.sz;omega))) (c.reopen trivial trivial rfl (by simp)) (by simp) (.inl (by simp[iZ]));obtain⟨a',R,es,n,T,A⟩:=l w (.refl N w);exact pO O o z v F b s c (by simp) n T (.Yk hr A) (by omega)
 |al2 hr h=>refine .inr ?_;rcases Goes.cases h with d|⟨m',rfl,l⟩;obtain⟨_,a',R,es,n,hal,Cw,B,E⟩:=d w (.refl N w);have YU:deafBehind 0 es=0:=deafBehind_idle (λe he=>(mS (Cw e he)).1) 0;exact qW o z (tag':=.sp _ 5) v F n O.wY b (λf hf=>b.Fz O hal Cw _ _ f hf) (by rw[YU];exact .skd hr E) (s.of_block (hal.rest Z.Wg (by have:=b.iP.B.1;have:=b.iP.sz;omega))) (c.reopen trivial trivial rfl (by simp)) (by simp) (.inl (by simp[iZ]));obtain⟨a',R,es,n,T,A⟩:=l w (.refl N w);exact pO O o z v F b s c (by simp) n T (.al2 hr A) (by omega)
 |skd hr h=>refine .inr ?_;rcases Goes.cases h with d|⟨m',rfl,l⟩;obtain⟨_,a',n,B,E⟩:=d w (.refl N w);exact qJ O o z (tag':=.sp _ 4) v F b n (.refl Z.Wg w) s MQ (.sa1 hr E) (c.reopen trivial trivial rfl (by simp)) (by simp) (.inl (by simp[iZ]));obtain⟨a',R,es,n,T,A⟩:=l w (.refl N w);exact pO O o z v F b s c (by simp) n T (.skd hr A) (by omega)
 |sa1 hr h=>
  rename_i r;refine .inr ?_;rcases Goes.cases h with d|⟨m',rfl,l⟩;obtain⟨_,uY⟩:=d w (.refl N w);obtain⟨ho,rfl,rfl,_⟩:=c.open_inv trivial;have adh:j+(r+1)=Z.n:=v;obtain⟨a',n,B,E⟩:=uY (Vc j (jE S)) (by omega) (by simpa[pend]using s);refine qJ O o z (tag':=.sp r 3) v F b n (aside_setCell w (stA Z.Wg) _) (s.setSt _) Rt (.ske hr E) ?_ (by simp) (.inl (by simp[iZ]));have e:(((Vc j (jE S):Nat):Int)+1)*KK=((Vc j (jE S)+pend (.sp r 3):Nat):Int)*KK:=by simp[pend]
  rw[e];exact .opn trivial ho (by simp);obtain⟨a',R,es,n,T,A⟩:=l w (.refl N w);exact pO O o z v F b s c (by simp) n T (.sa1 hr A) (by omega)
 |ske hr h=>refine .inr ?_;rcases Goes.cases h with d|⟨m',rfl,l⟩;obtain⟨_,a',n,B,E⟩:=d w (.refl N w);exact qJ O o z (tag':=.sp _ 2) v F b n (.refl Z.Wg w) s Rs (.sgo hr E) (c.reopen trivial trivial rfl (by simp)) (by simp) (.inl (by simp[iZ]));obtain⟨a',R,es,n,T,A⟩:=l w (.refl N w);exact pO O o z v F b s c (by simp) n T (.ske hr A) (by omega)
 |sgo hr h=>
  rename_i r;refine .inr ?_;rcases Goes.cases h with d|⟨m',rfl,l⟩;obtain⟨_,a',D,hb,hsp,hhb,UD,Nb⟩:=d w (.refl N w);obtain⟨ho,rfl,rfl,_⟩:=c.open_inv trivial;have adh:j+(r+1)=Z.n:=v;have D3:=runT_crowd_spawn (P:=Z.P) (sl:=sl) (i:=0) F (by simpa using hsp);rw[b.size]at D3;have XD:=b.spawn O (a':=a') (by omega) z hhb UD (x:={g:=0,fn:=a.frame.fn,pos:=a.frame.place,act:=.go (Z.lo+j)}) (y:={g:=Z.lo+j,fn:=D.frame.fn,pos:=a.frame.place,act:=.start}) ⟨rfl,rfl⟩ ⟨rfl,rfl⟩;have ha':((U.setIfInBounds 0 a').push D)[0]? =ae a':=by have:=O.wY;rw[Array.getElem?_push_lt (by simp[b.size];omega),<-aH];exact aK (by simp[b.size];omega)
  have eW:jE (upd S j (.tree (⟨hb,λ_=>False,False⟩,D,w)))=upd (jE S) j ⟨7,0,0⟩:=ur _ _ _;have eV:Vc (j+1) (upd (jE S) j ⟨7,0,0⟩)=Vc j (jE S)+1:=by simp only[Vc,sumTo,upd_same];rw[sumTo_upd_out _ _ cnt (av _)];rfl
  have ho':OpenSt (j+1) (upd (jE S) j ⟨7,0,0⟩):=λi hi=>by by_cases e:i=j;subst e;rw[upd_same];simp;rw[upd_ne _ _ e];exact ho i (by omega)
  have est:∀tag',pend tag'=0->((Vc j (jE S)+pend (.sp r 2):Nat):Int)*KK=((Vc (j+1) (upd (jE S) j ⟨7,0,0⟩)+pend tag':Nat):Int)*KK:=λtag' hp=>by rw[eV,hp];simp[pend]
  have XC:∀i,i<Z.n->_root_.Acc Z.GV (upd S j (.tree (⟨hb,λ_=>False,False⟩,D,w)) i):=λi hi=>by by_cases e:i=j;subst e;rw[upd_same];exact G' UD.acc;rw[upd_ne _ _ e];exact o i hi
  have aaU:∀p,Z.Ps (upd S j (.tree (⟨hb,λ_=>False,False⟩,D,w)),p) (Z.mu S q j (.sp r 2) J):=λp=>Prod.Lex.left _ _ ⟨j,by omega,by rw[upd_same,b.un j (av _)];exact UD.acc,λx hx=>upd_ne _ _ hx⟩
  have XE:Deaf (t++#[{g:=0,fn:=a.frame.fn,pos:=a.frame.place,act:=.go (Z.lo+j)},{g:=Z.lo+j,fn:=D.frame.fn,pos:=a.frame.place,act:=.start}]) 0=0:=by rw[Deaf_still t 0 _ λop C=> ?_,z];simp only[oi,b6,gX,or_false]at C;rcases C with rfl|rfl<;>simp
  have C5:(((bZ 0 a.frame.fn a.frame.place #[]).push {g:=0,fn:=a.frame.fn,pos:=a.frame.place,act:=.go (Z.lo+j)}).push {g:=Z.lo+j,fn:=D.frame.fn,pos:=a.frame.place,act:=.start}:Trace)=#[{g:=0,fn:=a.frame.fn,pos:=a.frame.place,act:=.go (Z.lo+j)},{g:=Z.lo+j,fn:=D.frame.fn,pos:=a.frame.place,act:=.start}]:=by rw[ofEvents_eq];simp
  rw[C5]at D3;cases r with|zero=>obtain⟨S7,E⟩:=Nb;refine⟨_,_,Z.mu _ q (j+1) .kd S7,D3,aaU _,_,w,sl,j+1,_,_,_,q,k,.kd,S7,0,a',_,_,rfl,ha',.kd E,XE,XD,s,?_,by show j+1=Z.n;omega,by simp,XC,rfl⟩;rw[eW,est .kd rfl];exact .opn trivial ho' (by simp)|succ r'=>obtain⟨S7,E⟩:=Nb;refine⟨_,_,Z.mu _ q (j+1) (.sp r' 7) S7,D3,aaU _,_,w,sl,j+1,_,_,_,q,k,.sp r' 7,S7,0,a',_,_,rfl,ha',.Yk (by omega) E,XE,XD,s,?_,by show j+1+(r'+1)=Z.n;omega,by simp,XC,rfl⟩;rw[eW,est (.sp r' 7) rfl];exact .opn trivial ho' (by simp)
  obtain⟨a',R,es,n,T,A⟩:=l w (.refl N w);exact pO O o z v F b s c (by simp) n T (.sgo hr A) (by omega)
 |kd h=>refine .inr ?_;rcases Goes.cases h with d|⟨m',rfl,l⟩;obtain⟨_,a',n,B,E⟩:=d w (.refl N w);exact qJ O o z (tag':=.anch) v F b n (.refl Z.Wg w) s MQ (.anch E) (c.reopen trivial trivial rfl (by simp)) (by simp) (.inl (by simp[iZ]));obtain⟨a',R,es,n,T,A⟩:=l w (.refl N w);exact pO O o z v F b s c (by simp) n T (.kd A) (by omega)
 |anch h=>refine .inr ?_;rcases Goes.cases h with d|⟨m',rfl,l⟩;obtain⟨B,E⟩:=hAn N a w (d w (.refl N w));exact w1 v (c.reopen trivial trivial rfl (by simp)) E z (.inl (by simp[iZ]));obtain⟨a',R,es,n,T,A⟩:=l w (.refl N w);exact pO O o z v F b s c (by simp) n T (.anch A) (by omega)
 |w1 h=>exact .inr (w1 v c h z (.inr ⟨rfl,rfl⟩))|w2 h=>rename_i vs;refine .inr ?_;rcases Goes.cases h with d|⟨m',rfl,l⟩;obtain⟨_,uY⟩:=d w (.refl N w);obtain⟨ho,rfl,rfl,VR⟩:=c.open_inv trivial;obtain⟨hle,h1⟩:=VR vs rfl;obtain⟨acZ,aa1⟩:=uY (Vc j (jE S)) (by omega) (by simpa[pend]using s);by_cases e:Vc j (jE S)=vs;obtain⟨a',n,B,E⟩:=acZ e;exact qJ O o z (tag':=.w3) v F b n (aside_setCell w (stA Z.Wg) _) (s.setSt _) Rt (.w3 E) (.reg trivial ho (by omega)) (by simp) (.inl (by simp[iZ,e]));obtain⟨a',n,B,E⟩:=aa1 e;exact qJ O o z (tag':=.anch) v F b n (.refl Z.Wg w) s E8 (.anch E) (c.reopen trivial trivial rfl (by simp)) (by simp) (.inl (by simp[iZ,e]));obtain⟨a',R,es,n,T,A⟩:=l w (.refl N w);exact pO O o z v F b s c (by simp) n T (.w2 A) (by omega)
 |w3 h=>
  refine .inr ?_;rcases Goes.cases h with d|⟨m',rfl,l⟩;obtain⟨_,aec,hblk,aa7⟩:=d w (.refl N w);cases c with|opn h1 _ _=>exact h1.elim|reg h1 h2 h3=>exact qJ O o z (tag':=.blk) v F b (hblk ⟨_,s⟩) (.refl Z.Wg w) s (by simp) (.blk d) (.reg trivial h2 h3) (by simp) (.inr ⟨rfl,by omega⟩)|last L h1 h2 h3 h4=>exact qJ O o z (tag':=.blk) v F b (hblk ⟨_,s⟩) (.refl Z.Wg w) s (by simp) (.blk d) (.last L trivial h2 h3 h4) (by simp) (.inr ⟨rfl,by omega⟩)|sema h2=>obtain⟨a',n,B,E⟩:=aa7 s;exact qJ O o z (tag':=.w4) v F b n (aside_setCell w (smA Z.Wg) _) (s.setSm 0) Ve (.w4 E) (.fin trivial h2) (by simp) (.inl (by simp[iZ]))|fin h1 _=>exact h1.elim
  obtain⟨a',R,es,n,T,A⟩:=l w (.refl N w);exact pO O o z v F b s c (by simp) n T (.w3 A) (by omega)
 |blk h=>simp at rZ|w4 h=>refine .inr ?_;rcases Goes.cases h with d|⟨m',rfl,l⟩;obtain⟨_,hx⟩:=d w (.refl N w);obtain⟨hq,rfl,rfl⟩:=c.fin_inv trivial;obtain⟨a',n,B,E⟩:=hx s;exact qJ O o z (tag':=.ke) v F b n (.refl Z.Wg w) s E8 (.ke E) (.fin trivial hq) (by simp) (.inl (by simp[iZ]));obtain⟨a',R,es,n,T,A⟩:=l w (.refl N w);exact pO O o z v F b s c (by simp) n T (.w4 A) (by omega)
 |ke h=>refine .inr ?_;rcases Goes.cases h with d|⟨m',rfl,l⟩;obtain⟨_,a',n,B,E⟩:=d w (.refl N w);obtain⟨hq,rfl,rfl⟩:=c.fin_inv trivial;exact qJ O o z (tag':=.acq) v F b n (.refl Z.Wg w) s Rs (.acq E) (.fin trivial hq) (by simp) (.inl (by simp[iZ]));obtain⟨a',R,es,n,T,A⟩:=l w (.refl N w);exact pO O o z v F b s c (by simp) n T (.ke A) (by omega)
 |acq h=>
  refine .inr ?_;rcases Goes.cases h with d|⟨m',rfl,l⟩;obtain⟨_,a',n,B,E⟩:=d w (.refl N w);obtain⟨hq,rfl,rfl⟩:=c.fin_inv trivial;have C5:∀op∈bZ 0 a.frame.fn a.frame.place #[ia (.acquire (stA Z.Wg))],op.g=0/\op.act=.mark (.acquire (stA Z.Wg)):=λop C=>by obtain⟨e,he,rfl⟩:=bk C;simp at he;subst he;exact⟨rfl,Go.ConcR.ofEvent_mk _⟩
  refine qW o z (tag':=.ret) (f':=B) v F n O.wY b (λf hf=>b.main O f hf (λop C=>(C5 op C).1) (λi hi=>.refl _ _) ?_ b.iP (λop C=>by rw[(C5 op C).2];simp) (λop C x hx=>by rw[(C5 op C).2]at hx;cases hx) (av _) rfl λ_ _ _=>rfl) (.ret E) s (.fin trivial hq) (λ_=> ?_) (.inl (by simp[iZ]));exact b.et.mute (g:=0) (by have:=O.wY;omega) (λop C=>(C5 op C).1) λop C=>by rw[(C5 op C).2];rfl
  have e1:bZ 0 a.frame.fn a.frame.place #[ia (.acquire (stA Z.Wg))]=#[{g:=0,fn:=a.frame.fn,pos:=a.frame.place,act:=.mark (.acquire (stA Z.Wg))}]:=by rw[ofEvents_eq];simp[Go.ConcR.ofEvent_mk]
  have hy:(t++#[({g:=0,fn:=a.frame.fn,pos:=a.frame.place,act:=.mark (.acquire (stA Z.Wg))}:MemOp)])[t.size]? =ae {g:=0,fn:=a.frame.fn,pos:=a.frame.place,act:=.mark (.acquire (stA Z.Wg))}:=by simp
  have hts:V.size<=t.size:=by obtain⟨u,hu⟩:=b.pre;rw[hu];simp
  refine⟨t.size,hts,by rw[e1,act?_of hy],by rw[e1];simp[Trace.g?],by rw[e1];exact⟨0,by simp[Trace.g?],by rw[deaf_old (av _)];exact z⟩,λi hi=> ?_⟩;obtain⟨r,hr⟩:=b.rel i hi (by have:(jE S i).stage=1:=hq i hi;show(jE S i).stage<=6;omega);refine⟨r,hr.appNot λop C=>by rw[(C5 op C).1];have:=O.wY;omega,lt_of_act? hr.act,Nat.le_of_not_lt λl6=> ?_⟩;obtain⟨u,hu⟩:=b.pre;obtain⟨op,C,hg⟩:=aF.1 hr.g;rw[hu,getElem?_append_old l6]at C;have:=hT0 r op C;omega;obtain⟨a',R,es,n,T,A⟩:=l w (.refl N w);exact pO O o z v F b s c (by simp) n T (.acq A) (by omega)
 |ret h=>rcases Goes.cases h with d|⟨m',rfl,l⟩;exact .inl ⟨rfl,d⟩;obtain⟨a',R,es,n,T,A⟩:=l w (.refl N w);exact .inr (pO O o z v F b s c O1 n T (.ret A) (by omega))
end
end Rel
namespace Rel
section
variable{P:aO} {c:fg}
def II{a:List Item}(h:nJ a=ar):KOk [sent] a:=⟨rfl,h,λ_=>rfl,λe=>by cases e⟩
def Re(Q:Exit->Act->ai->Prop)(b:aY)(g:aw)(w:ai):Prop:=g.callers=[eX]/\∃(a:Act)(t:Tape)(d:Nat),(g.frame=b.at a [sent]/\Q .normal a (cL w t d))\/(∃c,g.frame={b.at a c with mode:=.returning}/\Q .ret a (cL w t d))
def PE(Q:Exit->Act->ai->Prop)(b:aY):HOk (Re Q b):=by refine⟨λg w t d h=> ?_,λg w h=> ?_⟩;obtain⟨e,a,i,f,c⟩:=h;exact⟨e,a,i,f,c⟩;obtain⟨e,a,i,f,⟨c,_⟩|⟨j,c,_⟩⟩:=h;exact⟨e,.inl (by rw[c];rfl)⟩;exact⟨e,.inr (by rw[c])⟩
def zY{e f:List Item}{d:Ren}{b:aY}(g:b.kind=.normal){a:Act}(k:qc c d a.tmps a.tmps)(i:a.defers=[]){x y:List Item}(j:G6 c e f d x y)(l:KOk e f):qa c e f d (b.at a x) (b.at a y):=⟨rfl,k,j,by show dh (lR d) a.defers a.defers;rw[i];exact .nil,rfl,.inl rfl,g,g,.none,l,λh=>absurd rfl h⟩
def Dh(n:c.Fits P){its:List Item}{b:aY}(m:b.kind=.normal){a:Act}{Q:Exit->Act->ai->Prop}{w:ai}{i:Ren}(s:Sub i)(r:bS P c.sig i w w)(q:qc c i a.tmps a.tmps)(o:a.defers=[])(p:G6 c [sent] [sent] i (its++[sent]) (its++[sent]))(k:∀e a w,Q e a w->e=.normal\/e=.ret)(l:∀t,∃e h f,Q e h f/\Arrives P (lone (b.at a (its++[sent])) [eX] (cL w t 0)) b [sent] [eX] e h f):LT P [sent] (Re Q b) (jd (b.at a (its++[sent])) [eX]) w:=by
 refine uL n (.inr rfl) s r ⟨rfl,rfl,.one (zY m q o p (II rfl)) rfl⟩ (PE Q b) λt=> ?_
 obtain⟨e,h,f,j,d⟩:=l t;rcases k _ _ _ j with rfl|rfl;exact⟨jd (b.at h [sent]) [eX],f,d,rfl,rfl,h,f.tape,f.drawn,.inl ⟨rfl,j⟩⟩;obtain⟨g,d⟩:=d;exact⟨jd {b.at h g with mode:=.returning} [eX],f,d,rfl,rfl,h,f.tape,f.drawn,.inr ⟨g,rfl,j⟩⟩
def Xk(P:aO)(f:bG)(R:Ending->ai->Prop)(g:aw)(w:ai):Prop:=g.callers=[eX]/\g.frame.fn=f/\∃(v:ak)(t:Tape)(d:Nat),R (.returned v) (cL w t d)/\g.frame.leaving P (cL w t d) (.returned v)
def Rv(P:aO)(f:bG)(R:Ending->ai->Prop):HOk (Xk P f R):=⟨λ_ _ _ _ ⟨a,d,v,e,c,b⟩=>⟨a,d,v,e,c,b⟩,λ_ _ ⟨a,_,_,_,_,_,b⟩=>⟨a,.inr b.1⟩⟩
def qx(h:c.Fits P){f:bG}(n:c.fn f=ar){args:Array ak}{R:Ending->ai->Prop}{w:ai}{g:Ren}(s:Sub g)(q:bS P c.sig g w w)(m:nA c f g args args)(k:∀e w,R e w->∃v,e=.returned v)(l:∀t d,Calls P f args (cL w t d) R):LT P [] (Xk P f R) (jd (eG P f args .normal) [eX]) w:=by
 refine uL (h.at f) (.inl rfl) s q ⟨rfl,rfl,.one (qa.enter h n m) rfl⟩ (Rv P f R) λt=> ?_
 obtain⟨e,a,j,i,p,b,o⟩:=l t 0 [eX];obtain⟨v,rfl⟩:=k e a i;exact⟨jd j [eX],a,p,rfl,rfl,b,v,a.tape,a.drawn,i,o⟩
def Bl(J:c.Fits P){k E:List Item}{h:List aY}{g D:aw}{L R:ai}{u:Tape->Nat->aw}{C:Tape->Nat->ai}{F:Tape->Nat->Array Event}(N:¬sM k [eX] g)(z:∀t d,stepG P ar g (cL L t d)=.go (u t d) (C t d) (F t d)/\((u t d).frame.mode=.run\/(u t d).frame.mode=.returning)){q:Ren}(p:bS P c.sig q L R)(K:GR c k E [eX] h q g D)(m:Bool):∃s l r b,stepG P m D R=.go s l r/\Ext P q b/\GR c k E [eX] h b (u R.tape R.drawn) s/\bS P c.sig b (C R.tape R.drawn) l/\uz q b L R (C R.tape R.drawn) l/\∀e∈r,wX c.sig b e:=by
 have A:bS P c.sig q (cL L R.tape R.drawn) R:=⟨p.ok,p.obj,p.kr,p.mR,p.old⟩;obtain⟨j,o⟩:=z R.tape R.drawn;rcases Br J A K N ar m with⟨_,_,_,n⟩|⟨_,_,_,n,H⟩|⟨U,Q,G,i,_,_,I⟩;rw[j]at n;cases n;rw[j]at n;cases n;obtain⟨a,cl,S,O,l,T,y,hm,_⟩:=H;rw[y]at o;rcases o with x|x<;>rw[hm]at x<;>cases x;rw[j]at i;cases i;obtain⟨b,s,l,r,e,M,w,B,f,_,v⟩:=I λ_ _ _=>rfl
 exact⟨s,l,r,b,M,e,w,B,⟨f.tape,f.os,f.output,f.osL,f.uj,f.size,f.Bm,f.sizes,f.rest,f.Jr,f.new,f.all,f.le⟩,v⟩
end
end Rel
namespace Rel
open Go.Conc Go.ConcN
open Go.ConcR (KK WgAt rd wr Payload DC0 stA smA Bk)
section
variable [Payload] {Z:Ph} {Y:aw->ai->Prop} {X:(Nat->Prop)->aw->ai->Prop} {W:Nat} {V:Trace} {U T:Array aw} {w R:ai} {sl:Option (Nat×Nat)} {t:Trace} {j:Nat} {Q P:Nat->Gh} {S:Nat->rN} {M N:Nat->Prop} {q:Nat->Nat} {k O:Nat} {K L:CTag} {J I H:Nat} {a G:aw} {F E D C:Int} {B:Array Event}
def FF{e:Event}(h:e.mute=ar)(a:Addr):cQ e≠.mark (.release a):=by obtain⟨b,wr,c⟩:=e;cases b<;>simp_all[Event.mute];rename_i m;cases m<;>simp_all[cQ]
def Ph.Com.Zm(O:Z.Ok)(h:Z.Com W V U w t j Q S M q k){i:Nat}(L:0<i)(Y:i<Z.lo){g':aw}{fn:bG}{pos:String}(hm:∀e∈B,Event.mute e=ar){J:Nat}(D:QuitsD Z.P J (deafBehind (Deaf t i) B) g')(f:aw->aw)(H:∀o,o.status=.running\/o.status=.finished->f o=o):Z.Com W V ((U.map f).setIfInBounds i g') w (t++bZ i fn pos B) j Q S M (upd q i J) k:=by
 have X:=O.wY;have b:∀op∈bZ i fn pos B,op.g=i/\op.act.touch? =ah/\op.act≠.mark (.release (stA Z.Wg)):=by intro op a;obtain⟨e,G,rfl⟩:=bk a;exact⟨rfl,touch_mute (hm e G),FF (hm e G) _⟩
 have A:∀op∈bZ i fn pos B,op.g=i:=λop a=>(b op a).1
 refine⟨by simp[h.size],h.jn,λn x K P l=> ?_,λn m=> ?_,h.un,λn m=> ?_,?_,h.iP,λp hp v=> ?_,λn m E=> ?_,?_,λp op x hp a s l N=> ?_,λp op hp a s C=> ?_,λop a x l=> ?_,h.chan,h.done,h.todo,h.over,h.free⟩;by_cases e:i=n;subst e;rw[aK (by simp[h.size];omega)]at l;obtain rfl:=aX l;rw[upd_same,Deaf_own];exact D;rw[aJ e,gj]at l;obtain⟨y,T,rfl⟩:=aF.1 l;have I:=h.old n y K P T;rw[H y I.status,Deaf_other t (g':=i) (by omega) _ A,upd_ne _ _ (by omega)];exact I;obtain⟨x,l,z⟩:=h.wk n m;exact⟨x,by rw[aJ (by omega),gj,l,eT,H x z.status],z⟩;rw[Deaf_other t (g':=i) (by omega) _ A];exact h.deaf n m;exact h.et.mute (g:=i) (by omega) A λop a=>(b op a).2.1
 obtain⟨op,a,F⟩:=aF.1 v;rcases getElem?_append_cases a with⟨_,c⟩|⟨_,d⟩;exact h.norel p hp (by rw[act?_of c,F]);exact(b op d).2.2 F;obtain⟨r,R⟩:=h.rel n m E;exact⟨r,R.appNot λop a=>by rw[A op a];omega⟩;obtain⟨u,rfl⟩:=h.pre;exact⟨u++_,by rw[Array.append_assoc]⟩;rcases getElem?_append_cases a with⟨_,c⟩|⟨_,d⟩;exact h.Ym p op x hp c s l N;rw[(b op d).2.1]at l;cases l;rcases getElem?_append_cases a with⟨_,c⟩|⟨_,d⟩;exact h.mute p op hp c s C;exact(b op d).2.1;rcases nz.1 a with y|y;exact h.seen op y x l;rw[(b op y).2.1]at l;cases l
def Wz(Z:Ph)(Q:Gh)(w:ai)(d:Nat):Z.dQ Q w (w.at d):=⟨λ_ _=>rfl,λ_ _=>rfl,λ_ _ _ _=>rfl,λ_ _=>rfl,id,av _,rfl,rfl,rfl⟩
def abf(Z:Ph)(M:Nat->Prop)(w:ai)(d:Nat):Z.MR M w (w.at d):=⟨λ_ _=>rfl,λ_ _=>rfl,λ_ _=>rfl,λ_ _=>rfl,id,av _,rfl,rfl,rfl⟩
def Ph.Com.at(O:Z.Ok)(h:Z.Com W V U w t j Q S M q k)(d:Nat):Z.Com W V U (w.at d) t j Q S M q k:=⟨h.size,h.jn,h.old,λi c=>let⟨g,b,e⟩:=h.wk i c;⟨g,b,e.rely O (Wz Z _ w d)⟩,h.un,h.deaf,h.et,h.iP,h.norel,h.rel,h.pre,h.Ym,h.mute,h.seen,h.chan,h.done,h.todo,h.over,λp hp a=>O.j0 w (w.at d) p (λ_ _=>rfl) (h.free p hp a)⟩
def JN(O:Z.Ok)(C:∀M g w,X M g w->g.status=.running)(ha:U[0]? =ae a)(D:Z.j6 Y X K J H M a w)(G:Deaf t 0=H)(d:Z.Com W V U w t j Q S M q k)(XQ:WgAt Z.ty Z.Wg w F E)(l:fa j (jE S) K F E)(SD:zA Z.n j K)(u:K=.ret->Z.rI V j t)(s:∀i,i<Z.n->_root_.Acc Z.GV (S i)){i:Nat}(y:0<i)(R:i<Z.lo){g:aw}(hg:U[i]? =ae g)(b:g.status=.running):∃m' f N,runT Z.P (crowd U w sl) i=(.next m',f)/\Z.Ps N (Z.mu S q j K J)/\Z.Inv Y X W V N m' (t++f):=by
 have A:=d.old i g y R hg;cases n:q i with
 |zero=>rw[n]at A;rw[A.1]at b;cases b|succ p=>
  rw[n]at A;rcases A with⟨hf,_⟩|⟨_,g',B,hm,Cx,hq'⟩;rw[hf]at b;cases b;have T:(i==0)=au:=by simp;omega
  have P:=Cx w;obtain⟨L,I,v,c,hwk⟩:=D.wokenBy C (.refl M w) g g';have x:∀op∈bZ i g.frame.fn g.frame.place B,op.g=i:=λop m=>by obtain⟨e,_,rfl⟩:=bk m;rfl
  have h:=d.Zm O y R (fn:=g.frame.fn) (pos:=g.frame.place) hm hq' (woken Z.P g g' w) λo ho=>by unfold Go.Conc.woken;split;exact again_running _ ho;rfl
  have z:sumTo Z.lo (upd q i p)<sumTo Z.lo q:=by have:=sumTo_upd q p id R;simp only[id,n]at this;change sumTo Z.lo (upd q i p)+(p+1)=sumTo Z.lo q+p at this;omega
  refine⟨_,_,Z.mu S (upd q i p) j L I,runT_crowd_go hg (by rw[T];exact P),Prod.Lex.right _ (Prod.Lex.left _ _ z),_,w,sl,j,Q,S,M,upd q i p,k,L,I,H,_,F,E,rfl,?_,v,?_,h,XQ,l.retag c,?_,?_,s,rfl⟩;rw[aJ (by omega),gj,ha];rfl;rw[Deaf_other t (g':=i) (by omega) _ x,G];rcases c with rfl|⟨rfl,rfl⟩<;>exact SD;intro e;rcases c with rfl|⟨_,rfl⟩;exact rI.app (u e) λi' r hi' hr=>hr.appNot λop m=>by rw[x op m];omega
  cases e
def Fg(n:∀M g w,X M g w->g.status=.running)(y:U[0]? =ae a)(p:Z.j6 Y X K J H M a w)(f:Z.Com W V U w t j Q S M q k)(e:fa j (jE S) K F E):∃(i:Nat)(g:aw),U[i]? =ae g/\g.status=.running:=by
 have run:∀i,i<j->(jE S i).stage≠1->∃g,U[Z.lo+i]? =ae g/\g.status=.running:=by
  intro i r c;obtain⟨g,l,b⟩:=f.wk i r;refine⟨g,l,?_⟩;change (S i).wd.stage≠1 at c;cases o:S i with|kV=>rw[o]at b;exact b.elim|tree x=>rw[o]at b;obtain⟨s,m,u,_⟩:=b;exact u.status|tail d=>rw[o]at b c;obtain⟨C,v,_,_,_,_,_,_,h⟩:=b;exact h.running_of c
 rcases p.status n with⟨b,_⟩|⟨_,rfl⟩;exact⟨0,a,y,b⟩;cases e with|opn c _ _=>exact c.elim|reg _ _ m=>obtain⟨i,r,z⟩:=exists_counted m;obtain⟨g,l⟩:=run i r (by omega);exact⟨_,g,l⟩|last L _ s m _=>obtain⟨g,l⟩:=run L s (by omega);exact⟨_,g,l⟩|fin c _=>exact c.elim
def KJ(n:∀M g w,X M g w->g.status=.running)(p:U[0]? =ae a)(o:Z.j6 Y X K J H M a w)(b:Z.Com W V U w t j Q S M q k):∀g∈U,awake g:=by
 intro g r v;obtain⟨i,e⟩:=Array.mem_iff_getElem?.1 r;rcases mO i with rfl|f;rw[p]at e;cases e;rcases o.status n with⟨l,_⟩|⟨l,_⟩<;>rw[l]<;>simp;rcases dU i Z.lo with c|s;rcases(b.old i g f c e).status with h|h<;>rw[h]<;>simp;obtain⟨m,rfl⟩:∃m,i=Z.lo+m:=⟨i-Z.lo,by omega⟩;have c:m<j:=by have:=(aE.1 e).1;rw[b.size]at this;omega
 obtain⟨u,d,l⟩:=b.wk m c;rw[e]at d;cases d;rcases l.status with h|h<;>rw[h]<;>simp
def OI(O:Z.Ok)(hT0:∀(i:Nat)(op:MemOp),V[i]? =ae op->op.g<Z.lo)(u:∀M g w,X M g w->g.status=.running)(hAn:∀M g w,X M g w->∃m,Z.GP M (Z.AtW1 M Y (X M)) m g w):∀m T t,Z.Inv Y X W V m T t->Z.Q5 Y W V T t\/∃m' A N,stepT Z.P T=(.next m',A)/\Z.Ps N m/\Z.Inv Y X W V N m' (t++A):=by
 rintro m T t ⟨U,w,sl,j,Q,S,M,q,k,K,J,H,a,F,E,rfl,B,v,x,e,R,c,y,n,p,rfl⟩;by_cases z:K=.ret/\∀o,Z.MR M w o->Ph.AtRet Y a o;obtain⟨rfl,G⟩:=z;obtain⟨f,C⟩:=G w (.refl M w);obtain⟨hq,rfl,rfl⟩:=c.fin_inv trivial;obtain rfl:j=Z.n:=y;have hd:H=0:=by cases v;rfl
 exact .inl ⟨U,w,sl,Q,S,M,q,k,a,rfl,B,f,C,x.trans hd,e,R,hq,n rfl⟩;refine .inr ?_;obtain⟨i,g,d,sl',I,f,D⟩:=crowd_pick (P:=Z.P) (w:=w) (sl:=sl) (KJ u B v e) (Fg u B v e c);rw[D];have r:=v.rely (abf Z M w d);have l:=e.at O d;have s:WgAt Z.ty Z.Wg (w.at d) F E:=R;rcases mO i with rfl|L;obtain rfl:a=g:=by rw[B]at I;exact aX I
 rcases Ql (sl:=sl') O hT0 hAn B r x l s c y n p f with⟨h1,h2⟩|h;exact absurd ⟨h1,λo h=>h2 o (Ph.MR.trans (b:=w) ⟨λ_ _=>rfl,λ_ _=>rfl,λ_ _=>rfl,λ_ _=>rfl,id,av _,rfl,rfl,rfl⟩ h)⟩ z;exact h;rcases dU i Z.lo with l6|hge;exact JN O u B r x l s c y n p L l6 I f;obtain⟨i',rfl⟩:∃i',i=Z.lo+i':=⟨i-Z.lo,by omega⟩;have hi':i'<j:=by have:=(aE.1 I).1;rw[e.size]at this;omega
 exact JO O u B r x l s c y n p hi' I f
def OH(O:Z.Ok)(f:∀(i:Nat)(op:MemOp),V[i]? =ae op->op.g<Z.lo)(e:∀M g w,X M g w->g.status=.running)(d:∀M g w,X M g w->∃m,Z.GP M (Z.AtW1 M Y (X M)) m g w){m:Mu}{l:Machine}{t:Trace}(h:Z.Inv Y X W V m l t):∃N c n,runNT Z.P N l t=(.next c,n)/\Z.Q5 Y W V c n:=by refine WG (r:=Z.Ps) (Z.Inv Y X W V) (Z.Q5 Y W V) (OI O f e d) m ?_ l t h;obtain⟨U,w,sl,j,Q,S,M,q,k,K,J,H,a,F,E,_,_,_,_,_,_,_,_,_,b,rfl⟩:=h;exact U8 S b _
end
def ShL(a:Nat->Prop)(l:Loc):Prop:=∃b,tk l=ae b/\a b
structure uA(Shun:Nat->Prop) (B lo:Nat) (t:Trace):Prop where
 clean:∀said,¬Race said t
 known:∀i a,touchAt t i=ae a->a.loc.isMemory=ar->Knows t 0 i\/(ShL Shun a.loc/\a.kind=.atomic)
 over:t.HandedOver
 hears:Deaf t 0=0
 seen:∀op∈t,∀x,op.act.touch? =ae x->x.loc.low B
 gs:∀(i:Nat)(op:MemOp),t[i]? =ae op->op.g<lo
structure Co(P:aO) (Shun:Nat->Prop) (B:Nat) (gs:Array aw) (q:Nat->Nat) (t:Trace):Prop where
 old:∀i g,0<i->gs[i]? =ae g->QuitsD P (q i) (Deaf t i) g
 past:uA Shun B gs.size t
 pos:0<gs.size
 L6:∀b,Shun b->b<B
section
variable [Payload] {Z:Ph} {Goal:aw->ai->Prop} {AnchW:(Nat->Prop)->aw->ai->Prop} {Y:Nat} {X:Trace} {W:Nat->Prop} {V U:Array aw} {w T:ai} {sl:Option (Nat×Nat)} {t:Trace} {q R:Nat->Nat} {a:aw}
def Co.enter(O:Z.Ok){B:Nat}(hB:B<=Z.Wg)(h:Co Z.P W B V q t)(M:Z.lo=V.size)(A:∀b,Z.jB b->b<w.heap.size/\¬W b)(E:∀b,Z.Std b->b<w.heap.size)(v:∀b,Z.CB b->b<w.heap.size/\¬W b)(I:Z.Wg<w.heap.size)(H:Z.Ch<w.heap.size)(R:WgAt Z.ty Z.Wg w 0 0)(K:Z.MH 0 w)(L:∀p,p<Z.nj->Z.J0 p w)(ha:V[0]? =ae a)(hn:0<Z.n)(C:Z.Spawns (Z.Fin AnchW) Z.n (λ_=>False) a w):∃m,Z.Inv Goal AnchW w.heap.size t m (crowd V w sl) t:=by
 obtain⟨r,z⟩:∃r,Z.n=r+1:=⟨Z.n-1,by omega⟩;rw[z]at C;obtain⟨m,hk⟩:=C;have U:∀{l:Loc}{b:Nat},tk l=ae b->¬W b->Perm t 0 l:=by
  intro l b d P i x F e;have hm:x.loc.isMemory=ar:=by rw[e];cases l<;>first|rfl|cases d
  rcases h.past.known i x F hm with Y|⟨⟨b',u,Q⟩,_⟩;exact Y;rw[e,d]at u;cases u;exact absurd Q P
 have y:Z.Com w.heap.size t V w t 0 (λ_=>⟨λ_=>False,λ_=>False,False⟩) (λ_=>.kV) (λ_=>False) q 0:=by refine⟨by rw[M];rfl,bF _,λi g X _ hg=>h.old i g X hg,λi c=>by omega,λ_ _=>rfl,λi c=>by omega,?_,?_,λi c s=> ?_,λi c=>by omega,⟨#[],by simp⟩,λi op x c f=> ?_,λi op c f=> ?_,λop f x F=>Loc.low_mono (by omega) (h.past.seen op f x F),K,λp hp=>by omega,λp i _ c=>by omega,λi c=>by omega,λp _ N=>L p N⟩;refine⟨h.past.clean,λi op x c F P=> ?_,λk S T=>by omega,λl o=> ?_,λk S T=>by omega,λl o=> ?_,λk S T=>by omega,λl o=> ?_,λi op c=>by have:=h.past.gs i op c;omega⟩;obtain⟨G,o,Sq⟩:=P;have n:=h.past.seen op (rG c) x F;rw[o]at n;change G.block<B at n;omega;obtain⟨p,G,_,J,rfl⟩:=o;exact U (b:=G.block) rfl (v _ (O.la p G J)).2;obtain⟨b,d,z⟩:=o;exact PermW.of (U d (A b z).2);obtain⟨b,d,z⟩:=o;exact z.elim;exact⟨λi i' b c=>by omega,λi b c=>by omega,λi b c=>by omega,λb d=>d.elim,λi i' q c=>by omega,λi q c=>by omega,av _,⟨I,H,λb d=>(A b d).1,λb d=>(v b d).1⟩,E⟩;have:=lt_of_act? s;omega;have:=lt_size_of_getElem? f;omega;have:=lt_size_of_getElem? f;omega
 refine⟨Z.mu (λ_=>.kV) q 0 (.sp r 7) m,V,w,sl,0,_,_,_,q,0,.sp r 7,m,0,a,0,0,rfl,ha,.Yk (by omega) hk,h.past.hears,y,R,?_,by show 0+(r+1)=Z.n;omega,by simp,λi _=>Ks,rfl⟩;have:=Mode.opn (j:=0) (D:=jE (λ_=>.kV)) (tag:=.sp r 7) trivial (λi c=>by omega) (by simp);simpa[Vc,sumTo,pend]using this
def Ph.Q5.leave(O:Z.Ok)(hn:0<Z.n)(h0:Co Z.P W Y U R X)(hlo:Z.lo=U.size){mc:Machine}(h:Z.Q5 Goal Y X mc t):∃(V:Array aw)(w:ai)(sl:Option (Nat×Nat))(q:Nat->Nat)(a:aw),mc=crowd V w sl/\V[0]? =ae a/\a.status=.running/\Goal a w/\Co Z.P (λb=>W b\/b=Z.Wg) w.heap.size V q t/\Y<=w.heap.size/\∀p,p<Z.nj->∃o:Nat->Prop,(∀b,o b->Y<=b/\b<w.heap.size)/\Z.JP o p w:=by
 obtain⟨V,w,sl,γ,S,μ,q,k,a,rfl,ha,rZ,H,UF,c,XQ,hq,p,hp0,hpa,hpg,hph,hrel⟩:=h;have wY:=O.wY;obtain⟨u,P⟩:=c.pre;have B:∀i,i<Z.n->∃g d,V[Z.lo+i]? =ae g/\S i=.tail d/\QuitsD Z.P d.fuel d.deaf g/\(γ i).over/\∃C,(γ i).own C/\∀p,(γ i).held p->Z.JP (λb=>(γ i).own b/\b≠C) p w:=by
  intro i l;obtain⟨g,L,N⟩:=c.wk i l;have K:(S i).wd.stage=1:=hq i l;cases T:S i with|kV=>rw[T]at N;exact N.elim|tree x=>rw[T]at K;simp[rN.wd]at K|tail d=>rw[T]at N K;obtain⟨C,v,hO,hC,_,hJ,_,_,hW⟩:=N;exact⟨g,d,L,rfl,hW.quits K,hO,C,hC,hJ⟩
 have hk:k=Z.nj:=by obtain⟨g,d,_,_,_,hO,_⟩:=B 0 hn;exact c.over 0 hn hO
 have new:∀i op,t[i]? =ae op->Z.lo<=op.g->(t.counts i->∃j,t.g? j=ae 0/\HappensBefore t i j):=by
  intro i op l L G;have e:=c.et.gs i op l;obtain⟨r,hr,hrp,hr0⟩:=hrel (op.g-Z.lo) (by omega);rw[show Z.lo+(op.g-Z.lo)=op.g by omega]at hr;have y:t.g? i=ae op.g:=by simp[Trace.g?,l]
  have F:HappensBefore t r p:=.single (.inr ⟨.marked hrp (.inr hr.act) hpa (λk hk _=>c.norel k (by omega)),hr.heard,hph⟩);have hle:i<=r:=Nat.le_of_not_lt λe=>hr.after i e y G
  rcases dU i r with e|n;exact⟨p,hpg,.trans (.single (.inl ⟨e,op.g,y,hr.g⟩)) F⟩;obtain rfl:i=r:=by omega
  exact⟨p,hpg,F⟩
 refine⟨V,w,sl,λi=>if i<Z.lo then q i else(S (i-Z.lo)).wd.fuel,a,rfl,ha,rZ,H,⟨λi g l L=> ?_,⟨c.et.nr,λi x Q hm=> ?_,λi g y D G=> ?_,UF,c.seen,λi op l=>by rw[c.size];exact c.et.gs i op l⟩,by rw[c.size];omega,λb m=> ?_⟩,c.iP.sz,λx Q=> ?_⟩;show QuitsD Z.P (if i<Z.lo then q i else(S (i-Z.lo)).wd.fuel) _ g;split;rename_i e;exact c.old i g l e L;obtain⟨J,rfl⟩:∃J,i=Z.lo+J:=⟨i-Z.lo,by omega⟩;have e:J<Z.n:=by have:=(aE.1 L).1;rw[c.size]at this;omega
 obtain⟨g',d,Sx,T,hQ,_⟩:=B J e;rw[L]at Sx;cases Sx;rw[c.deaf J e,show Z.lo+J-Z.lo=J by omega,T];exact hQ;obtain⟨op,f,E⟩:=touch_of Q;by_cases I:op.g=0;left;have:=knows_own f;rwa[I]at this;rcases dU i X.size with e|n;have A:X[i]? =ae op:=by rw[P,getElem?_append_old e]at f;exact f
 rcases h0.past.known i x (by rw[touchAt_of A];exact E) hm with K|⟨⟨b,m,N⟩,hk⟩;left;rw[P];exact K.app u;exact .inr ⟨⟨b,m,.inl N⟩,hk⟩;rcases dU op.g Z.lo with e|s;rw[c.mute i op n f I e]at E;cases E;by_cases G:t.counts i;obtain⟨j,M,m⟩:=new i op f s G;left;unfold Trace.g? at M;obtain⟨z,I,hzg⟩:=aF.1 M;exact⟨j,z,I,hzg,.inr m⟩;right;have VB:x.kind=.atomic:=Classical.byContradiction λD=>G ⟨x,by simpa[touchAt]using Q,hm,.inl D⟩
 obtain⟨ad,hl,Sq⟩:=c.Ym i op x n f I E (by rw[VB];decide);exact⟨⟨ad.block,by rw[hl];rfl,.inr Sq⟩,VB⟩;unfold Trace.g? at y;obtain⟨op,f,rfl⟩:=aF.1 y;rcases dU op.g Z.lo with e|s;rcases dU i X.size with hl|n;have A:X[i]? =ae op:=by rw[P,getElem?_append_old hl]at f;exact f
 obtain⟨j,M,m⟩:=h0.past.over i op.g (by simp[Trace.g?,A]) D ((counts_old (u:=u) hl).1 (by rw[<-P];exact G));have Af:j<X.size:=by unfold Trace.g? at M;obtain⟨z,I,_⟩:=aF.1 M;exact lt_size_of_getElem? I
 exact⟨j,by rw[P];simpa[Trace.g?,getElem?_append_old Af]using M,by rw[P];exact hb_app u m⟩;obtain⟨x,Q,_⟩:=G;have hx':op.act.touch? =ae x:=by simpa[Trace.act?,f]using Q
 rw[c.mute i op n f D e]at hx';cases hx';exact new i op f s G;rcases m with m|rfl;have:=h0.L6 b m;have:=c.iP.sz;omega;have:=c.iP.B.1;have:=c.iP.sz;omega;subst hk;obtain⟨i,l,hh⟩:=c.done x Q;obtain⟨g,d,_,_,_,_,C,_,hJ⟩:=B i l;exact⟨_,λb m=>c.iP.zh i b l m.1,hJ x hh⟩
end
end Rel
section
open Go.RowKit
def eH{k:IntKind}{a b:Int}(h:a=b):Ending.returned (.int k a)=.returned (.int k b):=by rw[h]
def dw{a b:Bool}(h:a=b):Ending.returned (.bool a)=.returned (.bool b):=by rw[h]
def cD(w:ai)(g:Nat)(t:az)(a:Array ak):Prop:=w.heap[g]? =ae (.cells a t (0,0))
section
variable{w w':ai} {g:Nat} {t:az} {Z:Array ak}
def cD.lt(h:cD w g t Z):g<w.heap.size:=(aE.1 h).1
def cD.cell(h:cD w g t Z)(i:Nat):w.cell? ⟨g,i,ah⟩=Z[i]?:=cell_of_row w g i Z t (0,0) h
def cD.frozen(h:cD w g t Z)(i:Nat):w.frozen? ⟨g,i,ah⟩=au:=by unfold cD at h;simp[World.frozen?,h]
def cD.new(w:ai)(t:az)(Z:Array ak):cD (w.alloc (.cells Z t)) w.heap.size t Z:=heap_alloc_new w _
def cD.drew(h:cD w g t Z):cD w.drew g t Z:=h
def cD.alloc(h:cD w g t Z)(o:Obj):cD (w.alloc o) g t Z:=(Below.heap_alloc w o g h.lt).trans h
def cD.below{B:Nat}(h:cD w g t Z)(a:Below B w w')(b:g<B):cD w' g t Z:=(a.block g b).trans h
def cD.after(h:cD w g t Z)(a:Below w.heap.size w w'):cD w' g t Z:=h.below a h.lt
def acG(w:ai)(b e f:az)(a c d:Array ak):cD (((w.alloc (.cells a b)).alloc (.cells c e)).alloc (.cells d f)) w.heap.size b a/\cD (((w.alloc (.cells a b)).alloc (.cells c e)).alloc (.cells d f)) (w.heap.size+1) e c/\cD (((w.alloc (.cells a b)).alloc (.cells c e)).alloc (.cells d f)) (w.heap.size+1+1) f d:=⟨((cD.new w b a).alloc _).alloc _,by have:=(cD.new (w.alloc (.cells a b)) e c).alloc (.cells d f);simpa using this,by have:=cD.new ((w.alloc (.cells a b)).alloc (.cells c e)) f d;simpa using this⟩
def acF(w:ai)(b d:az)(a c:Array ak):cD ((w.alloc (.cells a b)).alloc (.cells c d)) w.heap.size b a/\cD ((w.alloc (.cells a b)).alloc (.cells c d)) (w.heap.size+1) d c:=⟨(cD.new w b a).alloc _,by have:=cD.new (w.alloc (.cells a b)) d c;simpa using this⟩
end
def BD{P:aO}{w:ai}{r:Array Oper}{l:List Oper}{o:Oper}{a:Act}{Q:Exit->Act->ai->Prop}(C:o.guard=ah)(s x:ca)(t:az)(L:o.op=.call {callee:=.builtin .append,args:=#[s,x],argTypes:=#[t,t]})(c:Nat)(e:az)(i:TypeInfo)(z:ak)(size d:Nat)(N:P.underlying t=ae (.slice e))(I:P.info? e=ae i)(S:i.zero=ae z)(q:i.size=size)(B:i.bytes=d)(E:z.cells.size=size)(D:0<size)(v:ak)(n:Nat)(F:List ak)(M:a.eval s=v)(g:w.ownsRow c e size v n F)(b:List ak)(R:a.eval x=.slice (ae ⟨w.heap.size,0,ah⟩) 1 1)(K:b.length=size)(H:∀u∈b,u.oneCell'=ar)(A:n+1<=maxLen)(f:(n+1)*d<=140737488355328)(m:c<=w.heap.size)(h:∀y w',w'.ownsRow c e size y (n+1) (F++b)->(w.alloc (.cells b.toArray e)).grownBy w' v.ownBlock->Below c w w'->wpList P r Q l (a.put o.dst y) w'):wpList P r Q (o::l) a (w.alloc (.cells b.toArray e)):=by refine wpList_append_own _ C s x t L c e i z size d N I S q B E D v n F M (g.alloc _) ⟨w.heap.size,0,ah⟩ 1 1 b R (by rw[K,jF]) ?_ H A f (by simp;omega) ?_;intro j u O;rw[show(⟨w.heap.size,0,ah⟩:Addr).add j=⟨w.heap.size,j,ah⟩from by unfold Addr.add;split<;>simp_all];rw[cell_of_row _ w.heap.size j b.toArray e (0,0) (heap_alloc_new w _)];simpa using O;intro y w' p G _;refine h y w' p G (((Below.refl c w).alloc m _).grown G (by simp;omega) ?_);intro k J;exact(g.lt k J).1
def Reads(w:ai)(B size:Nat)(A:Option Addr)(n:Nat)(a:List ak):Prop:=a.length=n*size/\(0<n->∃b o,A=ae ⟨b,o,ah⟩/\b<B/\∀j u,a[j]? =ae u->w.cell? ⟨b,o+j,ah⟩=ae u)
section
variable{w w':ai} {B Z size n:Nat} {A:Option Addr} {Y:List ak}
def Reads.keep(h:Reads w B size A n Y)(d:∀b o,b<B->w'.cell? ⟨b,o,ah⟩=w.cell? ⟨b,o,ah⟩):Reads w' B size A n Y:=⟨h.1,λf=>by obtain⟨b,o,e,a,c⟩:=h.2 f;exact⟨b,o,e,a,λj u g=>(d _ _ a).trans (c j u g)⟩⟩
def Reads.below(h:Reads w B size A n Y)(a:Below B w w'):Reads w' B size A n Y:=h.keep λb o hp=>a.cell (p:=⟨b,o,ah⟩) hp
def Reads.more(h:Reads w B size A n Y)(d:B<=Z):Reads w Z size A n Y:=⟨h.1,λc=>by obtain⟨b,o,e,f,a⟩:=h.2 c;exact⟨b,o,e,by omega,a⟩⟩
def Reads.Lx{a:Nat}{e:az}{c:Nat}(h:w.ownsRow a e size (.slice A n c) n Y):Reads w w.heap.size size A n Y:=by
 refine⟨h.1,λq=> ?_⟩;rcases h.2 with⟨_,p⟩|⟨g,f,i,o,k,l,_⟩;omega;have b:=(aE.1 l).1;have d:A=ae ⟨g,0,ah⟩:=by injection o
 refine⟨g,0,d,b,λj u m=> ?_⟩;have:=h.cells (g:=g) (by rw[d];rfl) j u m;rwa[Addr.add_lit]at this
def Reads.at1{k:Nat}(h:Reads w B 1 A n Y)(f:k<n):∃b o u,A=ae ⟨b,o,ah⟩/\b<B/\Y[k]? =ae u/\w.cell? ⟨b,o+k,ah⟩=ae u:=by
 obtain⟨b,o,e,c,d⟩:=h.2 (by omega);have a:k<Y.length:=by have:=h.1;omega
 exact⟨b,o,Y[k],e,c,aq a,d k _ (aq a)⟩
end
def fP(w:ai)(B:Nat)(A:Option Addr)(n:Nat)(a:List Int):Prop:=Reads w B 1 A n (a.map (aS .i64))
def fP.len{w:ai}{B:Nat}{A:Option Addr}{n:Nat}{a:List Int}(h:fP w B A n a):a.length=n:=by have:=h.1;simpa using this
def fP.at_{w:ai}{B:Nat}{A:Option Addr}{n k:Nat}{c:List Int}(h:fP w B A n c)(g:k<n):∃b o,A=ae ⟨b,o,ah⟩/\b<B/\∃h:k<c.length,w.cell? ⟨b,o+k,ah⟩=ae (.int .i64 c[k]):=by obtain⟨b,o,u,e,d,a,f⟩:=Reads.at1 h g;have i:=h.len;refine⟨b,o,e,d,by omega,?_⟩;rw[dx,aq (by omega)]at a;simp at a;rw[f,a]
def fP.below{w w':ai}{B:Nat}{A:Option Addr}{n:Nat}{a:List Int}(h:fP w B A n a)(b:Below B w w'):fP w' B A n a:=Reads.below h b
def fP.more{w:ai}{B a:Nat}{A:Option Addr}{n:Nat}{b:List Int}(h:fP w B A n b)(c:B<=a):fP w a A n b:=Reads.more h c
def om(w:ai)(B:Nat)(v:ak)(a:List Int):Prop:=w.ownsRow B 3 1 v a.length (a.map (aS .i64))
def om.nil(w:ai)(B:Nat):om w B (.slice ah 0 0) []:=World.ownsRow_nil _ _ _ _
def om.form{w:ai}{B:Nat}{v:ak}{a:List Int}(h:om w B v a):∃A c,v=.slice A a.length c/\fP w w.heap.size A a.length a:=by rcases h.2 with⟨rfl,e⟩|⟨g,b,d,rfl,r⟩;have:a=[]:=List.eq_nil_of_length_eq_zero e;subst this;exact⟨ah,0,rfl,by simp,by simp⟩;exact⟨_,_,rfl,Reads.Lx (c:=b) h⟩
def om.kept{w w':ai}{B:Nat}{v:ak}{b:List Int}(h:om w B v b)(a:Below w.heap.size w w'):om w' B v b:=World.ownsRow.kept (row:=ah) h ⟨a.os,a.tape,a.output,a.size,λk c _=>a.block k c⟩ (by cases v.ownBlock<;>simp)
def Ra(w:ai)(a:List Int)(e:Ending)(w':ai):Prop:=∃v,e=.returned v/\om w' w.heap.size v a/\Below w.heap.size w w'
def IA:(Tryz.prog.info? 3).map (λi=>(i.zero,i.size,i.bytes))=ae (ae (.int .i64 0),1,8):=by kernel_rfl
def sE{w:ai}{f:Array Oper}{c:List Oper}{o:Oper}{a:Act}{Q:Exit->Act->ai->Prop}(j:o.guard=ah)(s x:ca)(u:o.op=.call {callee:=.builtin .append,args:=#[s,x],argTypes:=#[32,32]})(b:Nat)(v:ak)(i:List Int)(z:a.eval s=v)(e:om w b v i)(y:Int)(A:a.eval x=.slice (ae ⟨w.heap.size,0,ah⟩) 1 1)(p:i.length+1<=17592186044416)(d:b<=w.heap.size)(h:∀g w',om w' b g (i++[y])->(w.alloc (.cells #[.int .i64 y] 3)).grownBy w' v.ownBlock->Below b w w'->wpList aj f Q c (a.put o.dst g) w'):wpList aj f Q (o::c) a (w.alloc (.cells #[.int .i64 y] 3)):=by obtain⟨B,k,l,m,n⟩:=info_parts IA;refine BD j s x 32 u b 3 B (.int .i64 0) 1 8 underlying32 k l m n rfl (by decide) v i.length _ z e [.int .i64 y] A rfl (by simp[Value.oneCell']) (by unfold maxLen;omega) (by omega) d ?_;intro g w' q r t;exact h g w' (by unfold om;rw[bK,List.map_append];exact q) r t
structure After(W:ai)where
 w:ai
 below:Below W.heap.size W w
instance (W:ai):Nonempty (After W):=⟨⟨W,Below.refl _ _⟩⟩
def After.cell{W:ai}{b o:Nat}{v:ak}(h:W.cell? ⟨b,o,ah⟩=ae v)(n:After W):n.w.cell? ⟨b,o,ah⟩=ae v:=(n.below.cell (p:=⟨b,o,ah⟩) (lp W _ h)).trans h
def fH{P:aO}{f:bG}{args:Array ak}{W:ai}{n:After W}{v:ak}(h:Calls P f args n.w λe a=>e=.returned v/\Below n.w.heap.size n.w a):Calls P f args n.w λe b=>e=.returned v/\∃m:After W,b=m.w:=h.mono λ_ a ⟨d,c⟩=>⟨d,⟨a,n.below.trans (c.mono n.below.size)⟩,rfl⟩
def bV{P:aO}{e:Nat}{Q:Exit->Act->ai->Prop}{a:Act}{w:ai}{l:List Oper}(hm:P.follows .mixedOrders=ar)(d:Region.lexB .any l.toArray=ar)(h:wpQuiet P l.toArray (λb=>∃n:After w,b=n.w) (λc=>∀b,(∃n:After w,b=n.w)->Q .normal c b) l a):(Code.region e l.toArray ar).wp P Q a w:=wp_region_quiet (C:=λb=>∃n:After w,b=n.w) hm d ⟨⟨_,(Below.refl _ _).drew⟩,rfl⟩ (by simpa using h)
def tmod_neg(n m:Int)(e:0<m)(h:n.tmod m<0):n.tmod m+m=n % m:=by have c:=Int.tmod_eq_emod (a:=n) (b:=m);have f:=Int.emod_nonneg n (b:=m) (by omega);rw[c]at h|-;split at h;omega;rename_i d;rw[if_neg d];omega
def Ug(n m:Int)(c:0<m)(h:0<=n.tmod m):n.tmod m=n % m:=by have d:=Int.tmod_eq_emod (a:=n) (b:=m);have f:=Int.emod_lt_of_pos n c;rw[d]at h|-;split at h;rename_i e;rw[if_pos e];omega;omega
def Js(n m:Int)(w:ai)(a:0<m)(hm:m<=1000000000000):Calls aj 14 #[.int .i64 n,.int .i64 m] w λe d=>e=.returned (.int .i64 (n % m))/\w=d:=by
 have f:n.tmod m<m:=by have:=Int.tmod_lt_of_pos n a;omega
 have g: -m<n.tmod m:=by have:=Int.lt_tmod_of_pos n a;omega
 have b:Hid (n.tmod m<0->n.tmod m+m=n % m):=tmod_neg n m a;have c:Hid (0<=n.tmod m->n.tmod m=n % m):=Ug n m a;go_enter func14,ntmps14
 go_wp2
 go_ret;exact⟨eH (b.out (by assumption)),rfl⟩;go_ret;exact⟨eH (c.out (by assumption)),rfl⟩
def IT(m a b c:Int)(w:ai):Calls aj 89 #[.int .i64 m,.agg #[.int .i64 a,.int .i64 b,.int .i64 c]] w λe i=>e=.returned (.bool (kO m a b c))/\Below w.heap.size w i:=by
 by_cases f:bits .and .i64 m a=a
 ·by_cases g:bits .and .i64 m b=0
  ·by_cases h:c=0
   ·have d:Hid (kO m a b c=ar):=by simp[Hid,kO,f,g,h]
    subst h;go_enter func89,ntmps89
    go_wp2
    all_goals go_ret
    all_goals exact⟨dw d.out.symm,(Below.refl _ _).alloc (av _) _⟩
   have d:Hid (kO m a b c=(c==0||bits .and .i64 m c !=0)):=by simp[Hid,kO,f,g]
   go_enter func89,ntmps89
   go_wp2
   all_goals go_ret
   all_goals exact⟨dw d.out.symm,(Below.refl _ _).alloc (av _) _⟩
  have d:Hid (kO m a b c=au):=by simp[Hid,kO,f,g]
  go_enter func89,ntmps89
  go_wp2
  all_goals go_ret
  all_goals exact⟨dw d.out.symm,(Below.refl _ _).alloc (av _) _⟩
 ·have d:Hid (kO m a b c=au):=by simp[Hid,kO,f]
  go_enter func89,ntmps89
  go_wp2
  all_goals go_ret
  all_goals exact⟨dw d.out.symm,(Below.refl _ _).alloc (av _) _⟩
def IZ:Lib.ntz8tab.size=256:=by decide+kernel
def Wa:∀b:Fin 256,(Lib.ntz8tab[b.val]'(by rw[IZ];exact b.isLt)).toNat=X6 b.val:=by decide+kernel
def ZQ:∀b:Fin 256,X6 b.val<=8:=by decide+kernel
def ZR(b:Nat)(w:ai)(a:b<256):Calls aj 145 #[.int .u8 b] w λe c=>e=.returned (.int .i64 (X6 b))/\w=c:=by
 have d:b<Lib.ntz8tab.size:=by rw[IZ];exact a
 have h:Hid (Lib.ntz8tab[b].toNat=X6 b/\X6 b<=8):=⟨Wa ⟨b,a⟩,ZQ ⟨b,a⟩⟩;clear a;go_enter func145,ntmps145
 go_wp2
 go_ret;refine⟨eH ?_,rfl⟩;rw[h.out.1];have:=h.out.2;unfold wrap64;omega
def m8(m:Int):Nat:=(m % 256).toNat
def abd(m:Int):m8 m<256:=by unfold m8;omega
def V1(m:Int):((m8 m:Nat):Int)=m % 256:=by unfold m8;omega
def ZT:∀n:Fin 256,n.val≠0->bits .and .u8 (n.val:Int) ((n.val:Int)-1)=((low n.val:Nat):Int):=by decide+kernel
def eE(m:Nat):List Int:=(kinds m).map Int.ofNat
def Ld(m:Nat):(eE m).length<=8:=by unfold eE;rw[List.length_map];exact oF m
def tj(m:Int)(w:ai):Calls aj 88 #[.int .i64 m] w (Ra w (eE (m8 m))):=by
 have hm:Hid (((m8 m:Nat):Int)=m % 256):=V1 m;have j:=abd m;go_enter func88,ntmps88;go_wp2_with fail;go_loopw [3,4] (λl b wr=>∃(n:Nat)(f:List Int),n<256/\b=.int .u8 n/\f++eE n=eE (m8 m)/\om wr w.heap.size l f/\Below w.heap.size w wr) (λ_ b _=>(intOf b).toNat)
 case atStart=>exact⟨m8 m,[],j,by rw[hm.out],rfl,om.nil _ _,Below.refl _ _⟩
 obtain⟨n,f,k,rfl,a,c,h⟩:=hrel;have t:f.length+(eE n).length<=8:=by have:=congrArg List.length a;have u:=Ld (m8 m);simp at this;omega
 have o:=af a;clear a;by_cases g:n=0
 ·subst g;go_wp2_with fail;go_ret;have a:=o.out;rw[show eE 0=[]from by rw[eE,Lf];rfl,eM]at a;subst a;exact⟨_,rfl,c,h⟩
 have s:((n:Int)==0)=au:=by simp;omega
 have q:=af (ZT ⟨n,k⟩ g);obtain⟨p,v⟩:=Le n k g;have r:=af p;clear p;go_wp2_with fail;refine(ZR n _ k).mono ?_;rintro e y ⟨rfl,rfl⟩;go_wp2_with (at_builtin;refine sE rfl _ _ rfl w.heap.size _ f rfl c _ rfl ?_ ?_ ?_)
 case refine_1=>omega
 case refine_2=>exact h.size
 intro x z d _ i;go_wp2_with fail;go_roundw
 case rel=>refine⟨low n,f++[Int.ofNat (X6 n)],by omega,?_,?_,d,h.trans i⟩;rw[q.out];rw[<-o.out];show _=f++(kinds n).map Int.ofNat;rw[r.out];simp[eE]
 rw[q.out];simp[intOf];omega
def Vo(A y:Option Addr)(n r c G:Nat)(d a:List Int)(w:ai)(B E:Nat)(h:fP w B A n d)(s:fP w E y r a)(J:n<=maxLen)(v:r<=maxLen):Calls aj 17 #[.slice A n c,.slice y r G] w λe L=>e=.returned (.bool (decide (d=a)))/\w=L:=by
 unfold maxLen at J v;have D:=af h.len;have l:=af s.len;have H:=af h;have F:=af s;clear h s;by_cases p:n=r
 ·subst p;go_enter func17,ntmps17;go_wp2_with fail
  go_loop [14] (λi=>∃k:Nat,k<=n/\i=.int .i64 k/\d.take k=a.take k) (λi=>n-(intOf i).toNat)
  case atStart=>exact⟨0,bF _,rfl,by simp⟩
  obtain⟨k,O,rfl,q⟩:=hrel;have z:=af q;clear q;by_cases m:k<n
  ·obtain⟨b,o,rfl,_,u,N⟩:=H.out.at_ m;obtain⟨M,P,rfl,_,j,I⟩:=F.out.at_ m;by_cases g:d[k]=a[k]
   ·have x:(d[k] !=a[k])=au:=by simpa using g
    have f:Hid (d.take (k+1)=a.take (k+1)):=by unfold Hid;rw[aU u,aU j,z.out,g]
    clear g
    go_wp2
    go_round
    case rel=>exact⟨k+1,by omega,by go_num,f.out⟩
    simp[intOf];omega
   have x:(d[k] !=a[k])=ar:=by simpa using g
   have f:Hid (decide (d=a)=au):=by unfold Hid;rw[decide_eq_false_iff_not];rintro rfl;exact g rfl
   clear g
   go_wp2
   go_ret;exact⟨dw f.out.symm,rfl⟩
  have t:k=n:=by omega
  subst t;have f:Hid (decide (d=a)=ar):=by have C:=z.out;rw[cB (by rw[D.out];omega),cB (by rw[l.out];omega)]at C;unfold Hid;rw[C];simp
  go_wp2
  go_ret;exact⟨dw f.out.symm,rfl⟩
 ·have K:((n:Int) !=r)=ar:=by simp;omega
  have f:Hid (decide (d=a)=au):=by unfold Hid;rw[decide_eq_false_iff_not];rintro rfl;exact p (D.out.symm.trans l.out)
  go_enter func17,ntmps17
  go_wp2
  go_ret;exact⟨dw f.out.symm,rfl⟩
def SH(x:Int)(a:List Int):Int:=if x∈a then(a.idxOf x:Int)else-1
def Zi{x:Int}{a:List Int}{k:Nat}(g:k<a.length)(h:∀j,j<k->a.getD j 0≠x)(e:a.getD k 0=x):SH x a=k:=by
 have hm:x∈a:=by rw[<-e];simp[bm,g]
 unfold SH;rw[if_pos hm];congr 1;have f:a.idxOf x<a.length:=List.idxOf_lt_length_of_mem hm;have m:a[a.idxOf x]=x:=List.getElem_idxOf f;have l:a[k]=x:=by rw[<-e];simp[bm,g]
 rcases Nat.lt_trichotomy (a.idxOf x) k with d|b|c;exact absurd (by rw[show a.getD (a.idxOf x) 0=a[a.idxOf x]by simp[bm,f]];exact m) (h _ d);exact b;exfalso;have:=List.not_of_lt_findIdx (p:=(· ==x)) (xs:=a) (i:=k) c;simp[l]at this
def SI{x:Int}{a:List Int}(h:∀j,j<a.length->a.getD j 0≠x):SH x a= -1:=by unfold SH;rw[if_neg];intro hm;obtain⟨i,b,e⟩:=dn.1 hm;exact h i b (by simp[bm,b,e])
def K4(A:Option Addr)(c:Nat)(a:List Int)(x:Int)(w:ai)(h:fP w w.heap.size A a.length a)(E:a.length<=maxLen):Calls aj 91 #[.slice A a.length c,.int .i64 x] w λe t=>e=.returned (.int .i64 (SH x a))/\w=t:=by
 have H:=af h;have F:(a.length:Int)<=9223372036854775807:=by unfold maxLen at E;omega
 clear h;go_enter func91,ntmps91;go_wp2_with fail;go_loopw [8] (λi t=>∃k:Nat,k<=a.length/\i=.int .i64 k/\(∀j,j<k->a.getD j 0≠x)/\w=t) (λi _=>a.length-(intOf i).toNat)
 case atStart=>exact⟨0,by omega,rfl,λj C=>by omega,rfl⟩
 case round=>
  obtain⟨k,G,rfl,d,rfl⟩:=hrel;have b:=af d;clear d;by_cases m:k<a.length
  ·have D:(k:Int)<a.length:=by omega
   obtain⟨g,o,rfl,B,u,z⟩:=H.out.at_ m;have p:Hid (a.getD k 0=a[k]):=by simp[Hid,bm,aq m]
   have l:Hid (a[k]=x->SH x a=k):=λh=>Zi m b.out (p.out.trans h)
   generalize a[k]=y at*;by_cases n:x=y
   ·have f:Hid (SH x a=k):=l.out n.symm;have s:(x==y)=ar:=by simpa using n
    clear n l;go_wp2_with fail;go_ret;exact⟨eH f.out.symm,rfl⟩
   have s:(x==y)=au:=by simpa using n
   have v:Hid (y≠x):=λe=>n e.symm
   clear n l;go_wp2_with fail;go_roundw
   case rel=>refine⟨k+1,by omega,by go_num,λj C=> ?_,trivial⟩;by_cases q:j=k;rw[q,p.out];exact v.out;exact b.out j (by omega)
   simp[intOf];omega
  have r:k=a.length:=by omega
  subst r;have f:Hid (SH x a= -1):=SI b.out;go_wp2_with fail;go_ret;exact⟨eH f.out.symm,rfl⟩
def CW(A:Option Addr)(c:Nat)(a:List Int)(x:Int)(w:ai)(h:fP w w.heap.size A a.length a)(g:a.length<=maxLen):Calls aj 40 #[.slice A a.length c,.int .i64 x] w λe b=>e=.returned (.bool (decide (x∈a)))/\w=b:=by
 have d:=af (K4 A c a x w h g);have f:Hid (decide (0<=SH x a)=decide (x∈a)):=by unfold Hid SH;split<;>rename_i hm<;>simp[hm]
 clear h;generalize SH x a=y at*;go_enter func40,ntmps40;go_wp2_with fail;refine d.out.mono ?_;rintro e b ⟨rfl,rfl⟩;go_wp2_with fail;go_ret;exact⟨dw f.out,rfl⟩
def ints(a:List Int):Array ak:=(a.map (aS .i64)).toArray
def bN(a:List Int):(ints a).size=a.length:=by simp[ints]
def kg(a:List Int)(i:Nat):(ints a)[i]? =a[i]?.map (aS .i64):=by simp[ints]
def ints_at{a:List Int}{i:Nat}(h:i<a.length):(ints a)[i]? =ae (.int .i64 a[i]):=by rw[kg,aq h];rfl
def ints_set(a:List Int)(i:Nat)(x:Int):(ints a).setIfInBounds i (.int .i64 x)=ints (a.set i x):=by unfold ints;rw[List.setIfInBounds_toArray,List.map_set]
def IB{c d:List Int}(h:ints c=ints d):c=d:=by have g:=List.map_inj_right (f:=aS .i64) (l:=c) (l':=d) (λa b e=>by injection e);exact g.1 (by simpa[ints]using h)
def iE(a:List Int):(ints a).toList=a.map (aS .i64):=by simp[ints]
def row?(w:ai)(g o n:Nat):Option (Array ak):=
 match w.heap[g]? with|some (.cells a _ _)=>if o+n<=a.size then ae (a.extract o (o+n))else ah|_=>ah
def cD.row{w:ai}{g:Nat}{t:az}{a:Array ak}(h:cD w g t a)(o n:Nat)(b:o+n<=a.size):row? w g o n=ae (a.extract o (o+n)):=by unfold cD at h;simp[row?,h,b]
def cD.bw{w:ai}{g:Nat}{t:az}{xs:List Int}(h:cD w g t (ints xs)){n:Nat}(a:xs.length=n):row? w g 0 n=ae (ints xs):=by rw[cD.row h 0 n (by rw[bN];omega),aZ,<-a,<-bN,Array.extract_size]
def cD.ei{w:ai}{g:Nat}{t:az}{a:List Int}(h:cD w g t (ints a))(o n:Nat)(b:o+n<=a.length):row? w g o n=ae (ints ((a.drop o).take n)):=by rw[cD.row h o n (by rw[bN];omega)];congr 1;apply Array.ext';rw[Array.toList_extract,iE,iE,List.extract_eq_take_drop,ij,List.map_take,List.map_drop]
def cD.set{w:ai}{g:Nat}{t:az}{a:Array ak}(h:cD w g t a)(i:Nat)(v:ak):cD (w.setCell ⟨g,i,ah⟩ v) g t (a.setIfInBounds i v):=by unfold cD at h|-;simp[World.setCell,br,h]
def cD.uW{w:ai}{g g':Nat}{t:az}{b:Array ak}(h:cD w g t b)(a:g≠g')(i:Nat)(v:ak):cD (w.setCell ⟨g',i,ah⟩ v) g t b:=(Below.heap_setCell w ⟨g',i,ah⟩ v g a).trans h
def jo(t:az)(a:Addr):Sem ak:=loadVar t a
section
variable{P:aO}
def xG(w:ai)(g o:Nat)(a:Array ak)(t:az)(c:Nat×Nat)(d:w.heap[g]? =ae (.cells a t c))(n:Nat)(f:o+n<=a.size):(loadCells ⟨g,o,ah⟩ n).run P w=.ok (a.extract o (o+n)) w:=by
 have h:=run_loadCells_list (P:=P) w ⟨g,o,ah⟩ (a.extract o (o+n)).toList (λj v b=>by rw[Addr.add_lit,cell_of_row w g (o+j) a t c d];rw[Array.getElem?_toList]at b;rw[Array.getElem?_extract]at b;split at b;exact b;cases b)
 have e:(a.extract o (o+n)).toList.length=n:=by simp;omega
 rw[e,Array.toArray_toList]at h;exact h
def yQ(w:ai)(b:az)(g o n:Nat)(d:TypeDesc)(r:P.underlying b=ae d)(s:(match d with|.struct _|.array _ _=>ar|_=>au)=ar)(j:(P.info? b).map (·.size)=ae n):(loadVar b ⟨g,o,ah⟩).run P w=match row? w g o n with|some h=>.ok (.agg h) w|none=>(jo b ⟨g,o,ah⟩).run P w:=by
 split;rename_i h a;unfold row? at a;split at a;rename_i e t k l;split at a;rename_i p;have m:=xG (P:=P) w g o e t k l n p;cases f:P.info? b with
 |none=>simp[f]at j|some i=>
  have q:i.size=n:=by simpa[f]using j
  have c:(isAgg b).run P w=.ok ar w:=by unfold isAgg;rw[eD,run_underlying r w];cases d<;>simp_all
  simp only[dm]at a;simp[loadVar,eD,c,sizeOf,typeInfo,f,q,m,a]
 cases a;cases a;rfl
end
def fA(t:az)(v:ak):Sem ak:=dN t v
def fits(w:ai)(g o n:Nat):Bool:=
 match w.heap[g]? with|some (.cells a _ (0,0))=>decide (o+n<=a.size)|_=>au
def putRow(w:ai)(g o:Nat)(b:List Int):ai:=
 {w with heap:=w.heap.modify g λ
    |.cells a e c=>.cells (a.toList.take o++b.map (aS .i64)++a.toList.drop (o+b.length)).toArray e c|o=>o}
def dk(t:az)(p v:ak):Sem Unit:=dP t p v
def ej(t:az)(g o:Nat)(v:ak):Sem Unit:=storeVar t ⟨g,o,ah⟩ v
def cD.fits{w:ai}{g:Nat}{t:az}{a:Array ak}(h:cD w g t a)(o n:Nat)(b:o+n<=a.size):fits w g o n=ar:=by unfold cD at h;unfold Go.Proofs.YtknejlcijdngoaaGreat.fits;rw[h];simpa using b
def cD.put{w:ai}{g:Nat}{t:az}{b:List Int}(h:cD w g t (ints b))(o:Nat)(a:List Int):cD (putRow w g o a) g t (ints (b.take o++a++b.drop (o+a.length))):=by unfold cD at h|-;simp[putRow,br,h,iE];simp[ints]
def cD.eZ{w:ai}{g:Nat}{t:az}{b:List Int}(h:cD w g t (ints b))(a:List Int)(c:a.length=b.length):cD (putRow w g 0 a) g t (ints a):=by have:=h.put 0 a;rwa[List.take_zero,cg,aZ,c,List.drop_length,eM]at this
@[go_sem] theorem R7(w:ai)(a:Array ak)(t:az)(o n:Nat):Go.Proofs.YtknejlcijdngoaaGreat.fits (w.alloc (.cells a t)) w.heap.size o n=decide (o+n<=a.size):=by have h:(w.alloc (.cells a t)).heap[w.heap.size]? =ae (.cells a t (0,0)):=heap_alloc_new w _;unfold Go.Proofs.YtknejlcijdngoaaGreat.fits;rw[h];rfl
attribute [go_sem] bN
@[go_sem] theorem abt(w:ai)(g o n:Nat):row? w.drew g o n=row? w g o n:=rfl
@[go_sem] theorem aal(w:ai)(g o n:Nat):Go.Proofs.YtknejlcijdngoaaGreat.fits w.drew g o n=Go.Proofs.YtknejlcijdngoaaGreat.fits w g o n:=rfl
@[go_sem] theorem putRow_drew(w:ai)(g o:Nat)(a:List Int):putRow w.drew g o a=(putRow w g o a).drew:=rfl
def fz(w:ai)(g o:Nat)(a:List Int)(k:Nat)(h:k≠g):(putRow w g o a).heap[k]? =w.heap[k]?:=by simp[putRow,br,kG h]
def cD.wE{w:ai}{g g':Nat}{t:az}{b:Array ak}(h:cD w g t b)(o:Nat)(c:List Int)(a:g≠g'):cD (putRow w g' o c) g t b:=(fz w g' o c g a).trans h
def jW(w:ai)(g o:Nat)(a:List Int):(putRow w g o a).heap.size=w.heap.size:=by simp[putRow]
def k7{B:Nat}{a w:ai}(h:Below B a w){g:Nat}(c:B<=g)(o:Nat)(b:List Int):Below B a (putRow w g o b):=h.trans ⟨rfl,rfl,rfl,by rw[jW];exact av _,λk d=>fz w g o b k (by omega)⟩
section
variable{P:aO}
def fW(w:ai)(a:az)(g o n:Nat)(d:TypeDesc)(f:P.underlying a=ae d)(c:(match d with|.struct _|.array _ _=>ar|_=>au)=ar)(e:(P.info? a).map (·.size)=ae n):(fA a (.pointer (ae ⟨g,o,ah⟩))).run P w=match row? w g o n with|some b=>.ok (.agg b) w|none=>(jo a ⟨g,o,ah⟩).run P w:=yQ w a g o n d f c e
def iA(w:ai)(d:az)(g o n:Nat)(a:List Int)(p:(P.info? d).map (·.size)=ae n):(dk d (.pointer (ae ⟨g,o,ah⟩)) (.agg (ints a))).run P w=if fits w g o n=ar/\a.length=n then .ok () (putRow w g o a)else(ej d g o (.agg (ints a))).run P w:=by
 split;rename_i h;obtain⟨c,s⟩:=h;unfold fits at c;split at c;rename_i l e m;have t:o+n<=l.size:=by simpa using c
 cases f:P.info? d with
 |none=>simp[f]at p|some i=>
  have u:i.size=n:=by simpa[f]using p
  have j:=run_storeCells_at P g o e (a.map (aS .i64)) 0 l w m (by simp;omega) (by intro v r;obtain⟨x,_,rfl⟩:=aI.1 r;rfl);have b:(ints a).size=i.size:=by rw[bN];omega
  simp only[dk,dP,Instr.sureAddr,storeVar,eD,sizeOf,typeInfo,run_program,gT,f,Sem.run_pure,fc,b,ne_eq,not_true_eq_false,if_false,iE,j];congr 1;unfold putRow World.setRow;congr 1;apply Array.ext_getElem?;intro k;rw[br,br];split;rename_i q;subst q;rw[m];simp;rfl
 cases c;rfl
end
def jU(w:ai)(t:az)(b a:List Int)(c:a.length=b.length):cD (putRow (w.alloc (.cells (ints b) t)) w.heap.size 0 a) w.heap.size t (ints a):=(cD.new w t (ints b)).eZ a c
def eU(w:ai)(t:az)(b a:List Int):Below w.heap.size w (putRow (w.alloc (.cells (ints b) t)) w.heap.size 0 a):=k7 ((Below.refl _ _).alloc (av _) _) (av _) _ _
def ki{P:aO}{fn:Func}{p u:Tmp}{c:az}(h:fn.results=#[.cell p c,.tmp u])(a:Array ak)(w:ai)(g:Nat)(t:az)(b:Array ak)(e:Nat×Nat)(d:TypeDesc)(hp:a.getD p undef=.pointer (ae ⟨g,0,ah⟩))(i:w.heap[g]? =ae (.cells b t e))(k:P.underlying c=ae d)(f:(match d with|.struct _|.array _ _=>ar|_=>au)=ar)(j:(P.info? c).map (·.size)=ae b.size):(results fn a).run P w=.ok (.tuple #[.agg b,a.getD u undef]) w:=by rw[results_cell_tmp h,hp];simp[asAddr,run_loadVar_row w g t c b e d i k f j]
def cx{P:aO}{f:Func}{R:Ending->ai->Prop}{a:Act}{w:ai}{p u:Tmp}{e:az}(h:f.results=#[.cell p e,.tmp u])(g:Nat)(t:az)(b:Array ak)(x:ak)(d:TypeDesc)(hp:a.tmps.getD p undef=.pointer (ae ⟨g,0,ah⟩))(n:a.tmps.getD u undef=x)(k:cD w g t b)(m:P.underlying e=ae d)(j:(match d with|.struct _|.array _ _=>ar|_=>au)=ar)(l:(P.info? e).map (·.size)=ae b.size)(c:a.defers=[])(i:R (.returned (.tuple #[.agg b,x])) w):bodyPost P f R .ret a w:=bodyPost_ret (by rw[ki h a.tmps w g t b (0,0) d hp k m j l,n]) c i
def rP{P:aO}{f:Func}{R:Ending->ai->Prop}{a:Act}{w:ai}{p:Tmp}{e:az}(h:f.results=#[.cell p e])(g:Nat)(t:az)(b:Array ak)(d:TypeDesc)(hp:a.tmps.getD p undef=.pointer (ae ⟨g,0,ah⟩))(k:cD w g t b)(m:P.underlying e=ae d)(j:(match d with|.struct _|.array _ _=>ar|_=>au)=ar)(l:(P.info? e).map (·.size)=ae b.size)(c:a.defers=[])(i:R (.returned (.agg b)) w):bodyPost P f R .ret a w:=bodyPost_ret (results_cell_row h a.tmps w g t b (0,0) d hp k m j l) c i
def b9{P:aO}{c:Code}{Q:Exit->Act->ai->Prop}{a:Act}{w:ai}(R:ai->Prop)(d:R w)(h:∀b,R b->c.wp P Q a b):c.wp P Q a w:=h w d
def vW(P:aO)(a:az->Bool):List Field->Nat->Option Nat|[],acc=>ae acc|f::b,acc=>if(f.name != "_" &&decide (f.offset=acc)&&a f.type)=ar then vW P a b (acc+P.cellsOf f.type)else ah
def qQ(P:aO):Nat->az->Bool
 |0,_=>au|n+1,t=>match P.underlying t with|some (.int .i64)=>decide (P.cellsOf t=1)|some (.struct a)=> !P.stoodInHeld t&&(P.info? t).isSome&&decide (vW P (qQ P n) a.toList 0=ae (P.cellsOf t))|some (.array m e)=>(P.info? e).isSome&&(P.info? t).isSome&&qQ P n e&&decide (P.cellsOf t=m*P.cellsOf e)|_=>au
def valOf(P:aO)(t:az)(a:List Int):ak:=match P.underlying t with|some (.int _)=>.int .i64 (a.getD 0 0)|_=>.agg (ints a)
def pK(b:List Int)(a n:Nat):List Int:=(b.drop a).take n
def uq{b:List Int}{a n:Nat}(h:a+n<=b.length):(pK b a n).length=n:=by simp[pK];omega
def NM(b:List Int)(a n m:Nat):pK b a (n+m)=pK b a n++pK b (a+n) m:=by unfold pK;rw[List.take_add,List.drop_drop]
def Bh{xs ys:List Int}{a n m:Nat}(d:a+n<=xs.length)(e:a+n<=ys.length):pK xs a (n+m)=pK ys a (n+m)↔pK xs a n=pK ys a n/\pK xs (a+n) m=pK ys (a+n) m:=by rw[NM,NM];constructor;intro h;exact List.append_inj h (by rw[uq d,uq e]);rintro⟨b,c⟩;rw[b,c]
def zm(a:List Int):pK a 0 a.length=a:=by simp[pK]
section
variable{P:aO}
def oG(w:ai)(n:Nat)(t:az)(f:List Int)(o:Nat)(c:qQ P n t=ar)(l:o+P.cellsOf t<=f.length):(part t (ints f) o).run P w=.ok (valOf P t (pK f o (P.cellsOf t))) w:=by
 cases n with
 |zero=>simp[qQ]at c|succ n=>
  have g:∀d,P.underlying t=ae d->(match d with|.struct _|.array _ _=>ar|_=>au)=ar->(P.info? t).isSome=ar->(part t (ints f) o).run P w=.ok (.agg (ints (pK f o (P.cellsOf t)))) w:=by
   intro d b s k;have a:(isAgg t).run P w=.ok ar w:=by unfold isAgg;rw[eD,run_underlying b w];cases d<;>simp_all
   obtain⟨i,j⟩:=Option.isSome_iff_exists.1 k;have h:P.cellsOf t=i.size:=by simp[Program.cellsOf,j]
   simp[part,eD,a,sizeOf,typeInfo,j,h];apply Array.ext';rw[Array.toList_extract,iE,iE,List.extract_eq_take_drop,ij,pK,List.map_take,List.map_drop]
  unfold qQ at c;split at c;rename_i b;have h:P.cellsOf t=1:=by simpa using c
  rw[h]at l|-;have a:(isAgg t).run P w=.ok au w:=by unfold isAgg;rw[eD,run_underlying b w];rfl
  have p:(ints f)[o]? =ae (.int .i64 (f[o]'(by omega))):=ints_at (by omega);have q:(pK f o 1).getD 0 0=f[o]'(by omega):=by simp only[pK,bm,dS,Nat.zero_lt_one,if_true,p6,Nat.add_zero];rw[aq (by omega)];rfl
  simp[part,eD,a,p,valOf,b];simpa using q.symm;rename_i r b;simp only[aG]at c;rw[g _ b rfl c.1.2];simp[valOf,b];rename_i m e b;simp only[aG]at c;rw[g _ b rfl c.1.1.2];simp[valOf,b];cases c
def decide_and{p q:Prop}[Decidable p][Decidable q]:decide (p/\q)=(decide p&&decide q):=by by_cases hp:p<;>by_cases a:q<;>simp[hp,a]
def uC(n d:Nat)(a b:List Int)(k:∀(t:az)(a b:List Int)(w:ai),qQ P n t=ar->a.length=P.cellsOf t->b.length=P.cellsOf t->(Op.equalIn (d+n) t (valOf P t a) (valOf P t b)).run P w=.ok (decide (a=b)) w):∀(c:List Field)(acc e:Nat)(w:ai),vW P (qQ P n) c acc=ae e->e<=a.length->e<=b.length->acc<=e/\(Op.eqFields (d+n) (ints a) (ints b) c).run P w=.ok (decide (pK a acc (e-acc)=pK b acc (e-acc))) w
 |[],acc,e,w,h,_,_=>by simp only[vW,dm]at h;subst h;exact⟨av _,by simp[Op.eqFields,pK]⟩|f::c,acc,e,w,h,hx,hy=>by
  unfold vW at h;split at h;rename_i j;simp only[aG,bne_iff_ne,ne_eq,decide_eq_true_eq]at j;obtain⟨⟨r,s⟩,g⟩:=j;obtain⟨q,u⟩:=uC n d a b k c _ e w h hx hy;have i:e-acc=P.cellsOf f.type+(e-(acc+P.cellsOf f.type)):=by omega
  refine⟨by omega,?_⟩;have l:=oG (P:=P) w n f.type a acc g (by omega);have m:=oG (P:=P) w n f.type b acc g (by omega);have o:=k f.type (pK a acc (P.cellsOf f.type)) (pK b acc (P.cellsOf f.type)) w g (uq (by omega)) (uq (by omega));have p:decide (pK a acc (e-acc)=pK b acc (e-acc))=(decide (pK a acc (P.cellsOf f.type)=pK b acc (P.cellsOf f.type))&&decide (pK a (acc+P.cellsOf f.type) (e-(acc+P.cellsOf f.type))=pK b (acc+P.cellsOf f.type) (e-(acc+P.cellsOf f.type)))):=by rw[<-decide_and,i];exact decide_eq_decide.2 (Bh (by omega) (by omega))
  rw[p];simp only[Op.eqFields,s,ne_eq,r,not_false_eq_true,if_true,eD,l,m,o,gT];cases decide (pK a acc (P.cellsOf f.type)=pK b acc (P.cellsOf f.type));simp;simpa using u;cases h
def tW:∀(n d:Nat)(t:az)(xs ys:List Int)(w:ai),qQ P n t=ar->xs.length=P.cellsOf t->ys.length=P.cellsOf t->(Op.equalIn (d+n) t (valOf P t xs) (valOf P t ys)).run P w=.ok (decide (xs=ys)) w
 |0,_,_,_,_,_,h,_,_=>by simp[qQ]at h|n+1,d,t,xs,ys,w,l,hx,hy=>by
  have S:=tW n d;unfold qQ at l;split at l;rename_i q;have o:P.cellsOf t=1:=by simpa using l
  rw[o]at hx hy
  match xs,hx,ys,hy with
  |[x],_,[y],_=>
   have r:∀z,valOf P t [z]=.int .i64 z:=λz=>by simp[valOf,q]
   rw[r,r,<-Nat.add_assoc,run_equalIn_int w _ t .i64 .i64 x y q];congr 1;rw[Bool.eq_iff_iff];simp
  rename_i M q;simp only[aG,Bool.not_eq_true',decide_eq_true_eq]at l;obtain⟨⟨C,_⟩,D⟩:=l;have Q:P.fieldsOf t=M:=by simp[Program.fieldsOf,q]
  have r:∀z,valOf P t z=.agg (ints z):=λz=>by simp[valOf,q]
  rw[r,r,<-Nat.add_assoc,run_equalIn_struct w (d+n) t (ints xs) (ints ys) (by rw[Q];exact q) C,Q];obtain⟨_,s⟩:=uC n d xs ys (λV K L W=>S V K L W) M.toList 0 _ w D (by omega) (by omega);rw[s,Nat.sub_zero];congr 1;rw[<-hx,zm,hx,<-hy,zm];rename_i m e q;simp only[aG,decide_eq_true_eq]at l;obtain⟨⟨⟨U,_⟩,l⟩,o⟩:=l;obtain⟨i,R⟩:=Option.isSome_iff_exists.1 U;have f:P.cellsOf e=i.size:=by simp[Program.cellsOf,R]
  have r:∀z,valOf P t z=.agg (ints z):=λz=>by simp[valOf,q]
  rw[r,r,<-Nat.add_assoc];simp only[Op.equalIn,eD,run_underlying q,gT,sizeOf,typeInfo,run_program,R,Sem.run_pure];simp only[Std.Legacy.Range.forIn_eq_forIn_range',Std.Legacy.Range.size,Nat.sub_zero,Nat.add_one_sub_one,Nat.div_one];have J:∀(k a:Nat),a+k<=m->(Sem.run P (forIn (fJ a k 1) ((ah,()):Option Bool×Unit) λB T=>do
   let b<-part e (ints xs) (B*i.size)
   let c<-part e (ints ys) (B*i.size)
   let b<-Op.equalIn (d+n) e b c
   if(!b)=ar then pure (ForInStep.done (ae au,()))else pure (ForInStep.yield (ah,()))) w)=
   .ok (if pK xs (a*i.size) (k*i.size)=pK ys (a*i.size) (k*i.size)then(ah,())else(ae au,())) w:=by
   intro k
   induction k with
   |zero=>intro a _;simp[pK]|succ k I=>
    intro a X;have j:a*i.size+i.size<=m*i.size:=by rw[<-Nat.succ_mul];exact ik _ (by omega)
    have C:=oG (P:=P) w n e xs (a*i.size) l (by rw[hx,o,f];exact j);have D:=oG (P:=P) w n e ys (a*i.size) l (by rw[hy,o,f];exact j);have N:=S e (pK xs (a*i.size) (P.cellsOf e)) (pK ys (a*i.size) (P.cellsOf e)) w l (uq (by rw[hx,o,f];exact j)) (uq (by rw[hy,o,f];exact j));have g:=Bh (xs:=xs) (ys:=ys) (a:=a*i.size) (n:=i.size) (m:=k*i.size) (by rw[hx,o,f];exact j) (by rw[hy,o,f];exact j);rw[f]at C D N;have A:(k+1)*i.size=i.size+k*i.size:=by rw[Nat.succ_mul,Nat.add_comm]
    have u:(a+1)*i.size=a*i.size+i.size:=Nat.succ_mul _ _;rw[List.range'_succ,List.forIn_cons,A];simp only[eD,C,D,N,gT];by_cases p:pK xs (a*i.size) i.size=pK ys (a*i.size) i.size;have v:=I (a+1) (by omega);rw[u]at v;simp only[p,decide_true,Bool.not_true,Bool.false_eq_true,if_false,Sem.run_pure,gT,v];congr 1;by_cases s:pK xs (a*i.size+i.size) (k*i.size)=pK ys (a*i.size+i.size) (k*i.size);rw[if_pos s,if_pos (g.2 ⟨p,s⟩)];rw[if_neg s,if_neg (λh=>s (g.1 h).2)];rw[if_neg (λh=>p (g.1 h).1)];simp[p]
  rw[J m 0 (by omega),Nat.zero_mul];have G:m*i.size=xs.length:=by rw[hx,o,f]
  have H:m*i.size=ys.length:=by rw[hy,o,f]
  have E:pK xs 0 (m*i.size)=xs:=by rw[G,zm]
  have F:pK ys 0 (m*i.size)=ys:=by rw[H,zm]
  rw[E,F];by_cases O:xs=ys;simp[O];simp[O];cases l
def Gj(n:Nat)(t:az)(a b:List Int)(w:ai)(i:n<=10000)(e:qQ P n t=ar)(c:valOf P t []=.agg (ints []))(f:a.length=P.cellsOf t)(g:b.length=P.cellsOf t):(binOp .eql t (.agg (ints a)) (.agg (ints b))).run P w=.ok (.bool (decide (a=b))) w:=by
 have d:∀z,valOf P t z=.agg (ints z):=by intro z;unfold valOf at c|-;split at c;cases c;rfl
 have h:=tW (P:=P) n (10000-n) t a b w e f g;rw[d,d,show 10000-n+n=10000 from by omega]at h;rw[run_eql_struct,h];rfl
def wP(n:Nat)(t:az)(a b:List Int)(w:ai)(i:n<=10000)(e:qQ P n t=ar)(c:valOf P t []=.agg (ints []))(f:a.length=P.cellsOf t)(g:b.length=P.cellsOf t):(binOp .neq t (.agg (ints a)) (.agg (ints b))).run P w=.ok (.bool (!decide (a=b))) w:=by
 have d:∀z,valOf P t z=.agg (ints z):=by intro z;unfold valOf at c|-;split at c;cases c;rfl
 have h:=tW (P:=P) n (10000-n) t a b w e f g;rw[d,d,show 10000-n+n=10000 from by omega]at h;rw[run_neq_struct,h];rfl
end
def EN:(Tryz.prog.info? 46).map (·.size)=ae 8:=by kernel_rfl
@[go_sem ↓] theorem XU(v:ak):dN 46 v=fA 46 v:=rfl
@[go_sem ↓] theorem WY(p v:ak):dP 46 p v=dk 46 p v:=rfl
@[go_sem] theorem UP(w:ai)(g o:Nat):(fA 46 (.pointer (ae ⟨g,o,ah⟩))).run aj w=match row? w g o 8 with|some a=>.ok (.agg a) w|none=>(jo 46 ⟨g,o,ah⟩).run aj w:=fW w _ g o 8 _ underlying46 rfl EN
@[go_sem] theorem Bg(w:ai)(g o:Nat)(a:List Int):(dk 46 (.pointer (ae ⟨g,o,ah⟩)) (.agg (ints a))).run aj w=if fits w g o 8=ar/\a.length=8 then .ok () (putRow w g o a)else(ej 46 g o (.agg (ints a))).run aj w:=iA w _ g o 8 a EN
@[go_sem] theorem LY(w:ai)(g o:Nat)(a b c d e f i j:Int):(dk 46 (.pointer (ae ⟨g,o,ah⟩)) (.agg #[.int .i64 a,.int .i64 b,.int .i64 c,.int .i64 d,.int .i64 e,.int .i64 f,.int .i64 i,.int .i64 j])).run aj w=if fits w g o 8=ar then .ok () (putRow w g o [a,b,c,d,e,f,i,j])else(ej 46 g o (.agg (ints [a,b,c,d,e,f,i,j]))).run aj w:=by have h:=Bg w g o [a,b,c,d,e,f,i,j];simp only[ay,aC,Nat.reduceAdd,and_true]at h;exact h
def oS:(Tryz.prog.info? 48).map (·.size)=ae 9:=by kernel_rfl
@[go_sem ↓] theorem VW(v:ak):dN 48 v=fA 48 v:=rfl
@[go_sem ↓] theorem UT(p v:ak):dP 48 p v=dk 48 p v:=rfl
@[go_sem] theorem TS(w:ai)(g o:Nat):(fA 48 (.pointer (ae ⟨g,o,ah⟩))).run aj w=match row? w g o 9 with|some a=>.ok (.agg a) w|none=>(jo 48 ⟨g,o,ah⟩).run aj w:=fW w _ g o 9 _ underlying48 rfl oS
@[go_sem] theorem yR(w:ai)(g o:Nat)(a:List Int):(dk 48 (.pointer (ae ⟨g,o,ah⟩)) (.agg (ints a))).run aj w=if fits w g o 9=ar/\a.length=9 then .ok () (putRow w g o a)else(ej 48 g o (.agg (ints a))).run aj w:=iA w _ g o 9 a oS
@[go_sem] theorem J'(w:ai)(g o:Nat)(a b c d e f i j k:Int):(dk 48 (.pointer (ae ⟨g,o,ah⟩)) (.agg #[.int .i64 a,.int .i64 b,.int .i64 c,.int .i64 d,.int .i64 e,.int .i64 f,.int .i64 i,.int .i64 j,.int .i64 k])).run aj w=if fits w g o 9=ar then .ok () (putRow w g o [a,b,c,d,e,f,i,j,k])else(ej 48 g o (.agg (ints [a,b,c,d,e,f,i,j,k]))).run aj w:=by have h:=yR w g o [a,b,c,d,e,f,i,j,k];simp only[ay,aC,Nat.reduceAdd,and_true]at h;exact h
def AG:(Tryz.prog.info? 52).map (·.size)=ae 3:=by kernel_rfl
@[go_sem ↓] theorem VY(v:ak):dN 52 v=fA 52 v:=rfl
@[go_sem ↓] theorem UW(p v:ak):dP 52 p v=dk 52 p v:=rfl
@[go_sem] theorem TU(w:ai)(g o:Nat):(fA 52 (.pointer (ae ⟨g,o,ah⟩))).run aj w=match row? w g o 3 with|some a=>.ok (.agg a) w|none=>(jo 52 ⟨g,o,ah⟩).run aj w:=fW w _ g o 3 _ underlying52 rfl AG
@[go_sem] theorem yT(w:ai)(g o:Nat)(a:List Int):(dk 52 (.pointer (ae ⟨g,o,ah⟩)) (.agg (ints a))).run aj w=if fits w g o 3=ar/\a.length=3 then .ok () (putRow w g o a)else(ej 52 g o (.agg (ints a))).run aj w:=iA w _ g o 3 a AG
@[go_sem] theorem Kb(w:ai)(g o:Nat)(a b c:Int):(dk 52 (.pointer (ae ⟨g,o,ah⟩)) (.agg #[.int .i64 a,.int .i64 b,.int .i64 c])).run aj w=if fits w g o 3=ar then .ok () (putRow w g o [a,b,c])else(ej 52 g o (.agg (ints [a,b,c]))).run aj w:=by have h:=yT w g o [a,b,c];simp only[ay,aC,Nat.reduceAdd,and_true]at h;exact h
def JU:(Tryz.prog.info? 54).map (·.size)=ae 7:=by kernel_rfl
@[go_sem ↓] theorem Zo(v:ak):dN 54 v=fA 54 v:=rfl
@[go_sem ↓] theorem X4(p v:ak):dP 54 p v=dk 54 p v:=rfl
@[go_sem] theorem WI(w:ai)(g o:Nat):(fA 54 (.pointer (ae ⟨g,o,ah⟩))).run aj w=match row? w g o 7 with|some a=>.ok (.agg a) w|none=>(jo 54 ⟨g,o,ah⟩).run aj w:=fW w _ g o 7 _ underlying54 rfl JU
@[go_sem] theorem Dd(w:ai)(g o:Nat)(a:List Int):(dk 54 (.pointer (ae ⟨g,o,ah⟩)) (.agg (ints a))).run aj w=if fits w g o 7=ar/\a.length=7 then .ok () (putRow w g o a)else(ej 54 g o (.agg (ints a))).run aj w:=iA w _ g o 7 a JU
@[go_sem] theorem NJ(w:ai)(g o:Nat)(a b c d e f i:Int):(dk 54 (.pointer (ae ⟨g,o,ah⟩)) (.agg #[.int .i64 a,.int .i64 b,.int .i64 c,.int .i64 d,.int .i64 e,.int .i64 f,.int .i64 i])).run aj w=if fits w g o 7=ar then .ok () (putRow w g o [a,b,c,d,e,f,i])else(ej 54 g o (.agg (ints [a,b,c,d,e,f,i]))).run aj w:=by have h:=Dd w g o [a,b,c,d,e,f,i];simp only[ay,aC,Nat.reduceAdd,and_true]at h;exact h
def dX:(Tryz.prog.info? 43).map (·.size)=ae 2:=by kernel_rfl
def wj:Tryz.prog.cellsOf 43=2:=by kernel_rfl
@[go_sem ↓] theorem UK(v:ak):dN 43 v=fA 43 v:=rfl
@[go_sem ↓] theorem T9(p v:ak):dP 43 p v=dk 43 p v:=rfl
@[go_sem] theorem QR(w:ai)(g o:Nat):(fA 43 (.pointer (ae ⟨g,o,ah⟩))).run aj w=match row? w g o 2 with|some a=>.ok (.agg a) w|none=>(jo 43 ⟨g,o,ah⟩).run aj w:=fW w _ g o 2 _ underlying43 rfl dX
@[go_sem] theorem xI(w:ai)(g o:Nat)(a:List Int):(dk 43 (.pointer (ae ⟨g,o,ah⟩)) (.agg (ints a))).run aj w=if fits w g o 2=ar/\a.length=2 then .ok () (putRow w g o a)else(ej 43 g o (.agg (ints a))).run aj w:=iA w _ g o 2 a dX
@[go_sem] theorem JD(w:ai)(g o:Nat)(a b:Int):(dk 43 (.pointer (ae ⟨g,o,ah⟩)) (.agg #[.int .i64 a,.int .i64 b])).run aj w=if fits w g o 2=ar then .ok () (putRow w g o [a,b])else(ej 43 g o (.agg (ints [a,b]))).run aj w:=by have h:=xI w g o [a,b];simp only[ay,aC,Nat.reduceAdd,and_true]at h;exact h
def uV(a b:List Int)(c:a.length=2)(d:b.length=2)(w:ai):(binOp .eql 43 (.agg (ints a)) (.agg (ints b))).run aj w=.ok (.bool (decide (a=b))) w:=Gj 5 _ a b w (by decide) (by kernel_rfl) (by kernel_rfl) (by rw[wj];exact c) (by rw[wj];exact d)
def rz:(Tryz.prog.info? 50).map (·.size)=ae 11:=by kernel_rfl
def EC:Tryz.prog.cellsOf 50=11:=by kernel_rfl
@[go_sem ↓] theorem Zn(v:ak):dN 50 v=fA 50 v:=rfl
@[go_sem ↓] theorem X3(p v:ak):dP 50 p v=dk 50 p v:=rfl
@[go_sem] theorem WH(w:ai)(g o:Nat):(fA 50 (.pointer (ae ⟨g,o,ah⟩))).run aj w=match row? w g o 11 with|some a=>.ok (.agg a) w|none=>(jo 50 ⟨g,o,ah⟩).run aj w:=fW w _ g o 11 _ underlying50 rfl rz
@[go_sem] theorem Dc(w:ai)(g o:Nat)(a:List Int):(dk 50 (.pointer (ae ⟨g,o,ah⟩)) (.agg (ints a))).run aj w=if fits w g o 11=ar/\a.length=11 then .ok () (putRow w g o a)else(ej 50 g o (.agg (ints a))).run aj w:=iA w _ g o 11 a rz
@[go_sem] theorem NI(w:ai)(g o:Nat)(b c d e f i j k l m a:Int):(dk 50 (.pointer (ae ⟨g,o,ah⟩)) (.agg #[.int .i64 b,.int .i64 c,.int .i64 d,.int .i64 e,.int .i64 f,.int .i64 i,.int .i64 j,.int .i64 k,.int .i64 l,.int .i64 m,.int .i64 a])).run aj w=if fits w g o 11=ar then .ok () (putRow w g o [b,c,d,e,f,i,j,k,l,m,a])else(ej 50 g o (.agg (ints [b,c,d,e,f,i,j,k,l,m,a]))).run aj w:=by have h:=Dc w g o [b,c,d,e,f,i,j,k,l,m,a];simp only[ay,aC,Nat.reduceAdd,and_true]at h;exact h
def V8(a b:List Int)(c:a.length=11)(d:b.length=11)(w:ai):(binOp .neq 50 (.agg (ints a)) (.agg (ints b))).run aj w=.ok (.bool (!decide (a=b))) w:=wP 5 _ a b w (by decide) (by kernel_rfl) (by kernel_rfl) (by rw[EC];exact c) (by rw[EC];exact d)
def Du:(Tryz.prog.info? 45).map (·.size)=ae 4:=by kernel_rfl
def zH:Tryz.prog.cellsOf 45=4:=by kernel_rfl
@[go_sem ↓] theorem XS(v:ak):dN 45 v=fA 45 v:=rfl
@[go_sem ↓] theorem WV(p v:ak):dP 45 p v=dk 45 p v:=rfl
@[go_sem] theorem UN(w:ai)(g o:Nat):(fA 45 (.pointer (ae ⟨g,o,ah⟩))).run aj w=match row? w g o 4 with|some a=>.ok (.agg a) w|none=>(jo 45 ⟨g,o,ah⟩).run aj w:=fW w _ g o 4 _ underlying45 rfl Du
@[go_sem] theorem Bf(w:ai)(g o:Nat)(a:List Int):(dk 45 (.pointer (ae ⟨g,o,ah⟩)) (.agg (ints a))).run aj w=if fits w g o 4=ar/\a.length=4 then .ok () (putRow w g o a)else(ej 45 g o (.agg (ints a))).run aj w:=iA w _ g o 4 a Du
@[go_sem] theorem LX(w:ai)(g o:Nat)(a b c d:Int):(dk 45 (.pointer (ae ⟨g,o,ah⟩)) (.agg #[.int .i64 a,.int .i64 b,.int .i64 c,.int .i64 d])).run aj w=if fits w g o 4=ar then .ok () (putRow w g o [a,b,c,d])else(ej 45 g o (.agg (ints [a,b,c,d]))).run aj w:=by have h:=Bf w g o [a,b,c,d];simp only[ay,aC,Nat.reduceAdd,and_true]at h;exact h
def S8(a b:List Int)(c:a.length=4)(d:b.length=4)(w:ai):(binOp .neq 45 (.agg (ints a)) (.agg (ints b))).run aj w=.ok (.bool (!decide (a=b))) w:=wP 5 _ a b w (by decide) (by kernel_rfl) (by kernel_rfl) (by rw[zH];exact c) (by rw[zH];exact d)
def Nr:(Tryz.prog.info? 74).map (·.size)=ae 16:=by kernel_rfl
def I2:Tryz.prog.cellsOf 74=16:=by kernel_rfl
@[go_sem ↓] theorem aam(v:ak):dN 74 v=fA 74 v:=rfl
@[go_sem ↓] theorem ZM(p v:ak):dP 74 p v=dk 74 p v:=rfl
@[go_sem] theorem X1(w:ai)(g o:Nat):(fA 74 (.pointer (ae ⟨g,o,ah⟩))).run aj w=match row? w g o 16 with|some a=>.ok (.agg a) w|none=>(jo 74 ⟨g,o,ah⟩).run aj w:=fW w _ g o 16 _ underlying74 rfl Nr
@[go_sem] theorem Gk(w:ai)(g o:Nat)(a:List Int):(dk 74 (.pointer (ae ⟨g,o,ah⟩)) (.agg (ints a))).run aj w=if fits w g o 16=ar/\a.length=16 then .ok () (putRow w g o a)else(ej 74 g o (.agg (ints a))).run aj w:=iA w _ g o 16 a Nr
@[go_sem] theorem Qb(w:ai)(g o:Nat)(i j k l m n p q r s a b c d e f:Int):(dk 74 (.pointer (ae ⟨g,o,ah⟩)) (.agg #[.int .i64 i,.int .i64 j,.int .i64 k,.int .i64 l,.int .i64 m,.int .i64 n,.int .i64 p,.int .i64 q,.int .i64 r,.int .i64 s,.int .i64 a,.int .i64 b,.int .i64 c,.int .i64 d,.int .i64 e,.int .i64 f])).run aj w=if fits w g o 16=ar then .ok () (putRow w g o [i,j,k,l,m,n,p,q,r,s,a,b,c,d,e,f])else(ej 74 g o (.agg (ints [i,j,k,l,m,n,p,q,r,s,a,b,c,d,e,f]))).run aj w:=by have h:=Gk w g o [i,j,k,l,m,n,p,q,r,s,a,b,c,d,e,f];simp only[ay,aC,Nat.reduceAdd,and_true]at h;exact h
def AB:(Tryz.prog.info? 132).map (·.size)=ae 2:=by kernel_rfl
@[go_sem ↓] theorem VX(v:ak):dN 132 v=fA 132 v:=rfl
@[go_sem ↓] theorem UU(p v:ak):dP 132 p v=dk 132 p v:=rfl
@[go_sem] theorem TT(w:ai)(g o:Nat):(fA 132 (.pointer (ae ⟨g,o,ah⟩))).run aj w=match row? w g o 2 with|some a=>.ok (.agg a) w|none=>(jo 132 ⟨g,o,ah⟩).run aj w:=fW w _ g o 2 _ underlying132 rfl AB
@[go_sem] theorem yS(w:ai)(g o:Nat)(a:List Int):(dk 132 (.pointer (ae ⟨g,o,ah⟩)) (.agg (ints a))).run aj w=if fits w g o 2=ar/\a.length=2 then .ok () (putRow w g o a)else(ej 132 g o (.agg (ints a))).run aj w:=iA w _ g o 2 a AB
@[go_sem] theorem Ka(w:ai)(g o:Nat)(a b:Int):(dk 132 (.pointer (ae ⟨g,o,ah⟩)) (.agg #[.int .i64 a,.int .i64 b])).run aj w=if fits w g o 2=ar then .ok () (putRow w g o [a,b])else(ej 132 g o (.agg (ints [a,b]))).run aj w:=by have h:=yS w g o [a,b];simp only[ay,aC,Nat.reduceAdd,and_true]at h;exact h
def K5(a:List Int)(k:Nat)(d:k<8)(e:a.length=8)(w:ai):(Instr.index 46 (.agg (ints a)) (.int .i64 (k:Int))).run aj w=.ok (.int .i64 (a.getD k 0)) w:=by
 have h:(ints a)[k]? =ae (.int .i64 (a.getD k 0)):=by rw[ints_at (by omega)];simp[bm,aq (show k<a.length by omega)]
 have c:(sizeOf 3).run aj w=.ok 1 w:=by kernel_rfl
 have hp:(part 3 (ints a) k).run aj w=.ok (.int .i64 (a.getD k 0)) w:=by
  have b:(isAgg 3).run aj w=.ok au w:=by kernel_rfl
  simp[part,eD,b,h]
 unfold Instr.index;simp only[asIntOf,eD,Sem.run_pure,gT,run_underlying underlying46];rw[if_pos (by omega)];simp only[eD,c,gT,Int.toNat_natCast,Nat.mul_one,hp]
def M4:∀(d:List ak)(b j:Nat)(a:Array ak),b+j+d.length<=a.size->((d.zipIdx j).foldl (λ(acc:Array ak)(x:ak×Nat)=>acc.setIfInBounds (b+x.2) x.1) a).toList=a.toList.take (b+j)++d++a.toList.drop (b+j+d.length)
 |[],b,j,a,_=>by simp|c::d,b,j,a,h=>by
  rw[List.zipIdx_cons,List.foldl_cons];rw[ay]at h;rw[M4 d b (j+1) _ (by simp;omega)];simp only[Array.toList_setIfInBounds];have e:(a.toList.take (b+j)).length=b+j:=by rw[dH];simp;omega
  have k:a.toList=a.toList.take (b+j)++a.toList[b+j]'(by simp;omega)::a.toList.drop (b+j+1):=by rw[<-List.drop_eq_getElem_cons,List.take_append_drop]
  have f:(a.toList.set (b+j) c)=a.toList.take (b+j)++c::a.toList.drop (b+j+1):=by
   conv=>lhs;rw[k]
   rw[List.set_append_right _ _ (by omega),e,Nat.sub_self,List.set_cons_zero]
  rw[f];have g:(a.toList.take (b+j)++c::a.toList.drop (b+j+1)).take (b+(j+1))=a.toList.take (b+j)++[c]:=by rw[List.take_append,e,cB (by omega),show b+(j+1)-(b+j)=1 from by omega];rfl
  have i:(a.toList.take (b+j)++c::a.toList.drop (b+j+1)).drop (b+(j+1)+d.length)=a.toList.drop (b+j+(d.length+1)):=by rw[List.drop_append,e,List.drop_of_length_le (by omega),cg,show b+(j+1)+d.length-(b+j)=d.length+1 from by omega,List.drop_succ_cons,List.drop_drop];congr 1;omega
  rw[g,i,ay,cM,cM,cM];rfl
def y8(d a:Array ak)(b:Nat)(h:b+d.size<=a.size):(d.zipIdx.foldl (λacc(c,j)=>acc.setIfInBounds (b+j) c) a)=(a.toList.take b++d.toList++a.toList.drop (b+d.size)).toArray:=by apply Array.ext';rw[<-Array.foldl_toList,Array.toList_zipIdx];have:=M4 d.toList b 0 a (by simpa using h);simpa using this
def xj(b:Nat->Option (Nat×Nat))(z a:Array ak)(i d m:Nat)(e:List (Nat×ak))(hp:b i=ae (d,m))(g:a.size=m)(h:d+m<=z.size):fN b z ((i,.agg a)::e)=fN b (a.zipIdx.foldl (λacc(c,j)=>acc.setIfInBounds (d+j) c) z) e:=by
 rw[fN,hp];have f:(decide ((Value.agg a).cells.size≠m)||decide (d+(Value.agg a).cells.size>z.size))=au:=by show(decide (a.size≠m)||decide (d+a.size>z.size))=au;simp;omega
 simp only[f];rfl
def kS(t:az)(parts:Array (Nat×ak)):Sem ak:=fK t 1 parts
def rC(t:az)(a:Array ak):Sem ak:=fK t 1 #[(0,.agg a)]
def mA{P:aO}(w:ai)(t e:az)(n:Nat)(z a:Array ak)(k:P.underlying t=ae (.slice e))(j:(sizeOf e).run P w=.ok n w)(l:(zeroValue e).run P w=.ok (.agg z) w)(m:z.size=n)(o:0<n)(hn2:n<=1000):(kS t #[(0,.agg a)]).run P w=if a.size=n then .ok (.slice (ae ⟨w.heap.size,0,ah⟩) 1 1) (w.alloc (.cells a e))else(rC t a).run P w:=by
 split;rename_i d;have c:((pH (1*n)).map (z[· % z.size]!)).size=n:=by simp
 have h:fN (λi=>ae (i*n,n)) ((pH (1*n)).map (z[· % z.size]!)) [(0,Value.agg a)]=ae a:=by rw[xj (λi=>ae (i*n,n)) _ a 0 (0*n) n [] rfl d (by rw[c];omega),fN,Nat.zero_mul,y8 a _ 0 (by rw[c];omega)];congr 1;apply Array.ext';simp[d]
 unfold kS fK;have f:¬(1*n>2^24):=by omega
 have g:¬(1*n=0):=by omega
 simp only[eD,run_underlying k,gT,j,if_neg f,if_neg g,l,Sem.run_pure,fc,List.getElem_toArray];have b:fN (λi=>ae (i*n,n)) ((pH (1*n)).map (z[· % z.size]!)) #[(0,Value.agg a)].toList=ae a:=h;simp only[b,eD,newRow];rfl;rfl
@[go_sem ↓] theorem aao(parts:Array (Nat×ak)):fK 33 1 parts=kS 33 parts:=rfl
@[go_sem] theorem UQ(w:ai)(a:Array ak):(kS 33 #[(0,.agg a)]).run aj w=if a.size=11 then .ok (.slice (ae ⟨w.heap.size,0,ah⟩) 1 1) (w.alloc (.cells a 50))else(rC 33 a).run aj w:=mA w _ _ 11 (bD 11 (aS .i64 0)).toArray a underlying33 (by kernel_rfl) (by kernel_rfl) rfl (by decide) (by decide)
@[go_sem ↓] theorem ZK(parts:Array (Nat×ak)):fK 34 1 parts=kS 34 parts:=rfl
@[go_sem] theorem TW(w:ai)(a:Array ak):(kS 34 #[(0,.agg a)]).run aj w=if a.size=4 then .ok (.slice (ae ⟨w.heap.size,0,ah⟩) 1 1) (w.alloc (.cells a 45))else(rC 34 a).run aj w:=mA w _ _ 4 (bD 4 (aS .i64 0)).toArray a underlying34 (by kernel_rfl) (by kernel_rfl) rfl (by decide) (by decide)
@[go_sem ↓] theorem WR(parts:Array (Nat×ak)):fK 122 1 parts=kS 122 parts:=rfl
@[go_sem] theorem Qa(w:ai)(a:Array ak):(kS 122 #[(0,.agg a)]).run aj w=if a.size=2 then .ok (.slice (ae ⟨w.heap.size,0,ah⟩) 1 1) (w.alloc (.cells a 43))else(rC 122 a).run aj w:=mA w _ _ 2 (bD 2 (aS .i64 0)).toArray a underlying122 (by kernel_rfl) (by kernel_rfl) rfl (by decide) (by decide)
@[go_sem] theorem XR(a b:List Int):ints a++ints b=ints (a++b):=by unfold ints;simp
def aa8(z a c:Array ak)(m n:Nat)(l:z.size=m+n)(f:a.size=m)(k:c.size=n)(b:Nat->Option (Nat×Nat))(h:b 0=ae (0,m))(i:b 1=ae (m,n)):fN b z [(0,.agg a),(1,.agg c)]=ae (a++c):=by
 rw[xj b z a 0 0 m _ h f (by omega)];have g:(a.zipIdx.foldl (λacc(c,j)=>acc.setIfInBounds (0+j) c) z).size=m+n:=by rw[y8 a z 0 (by omega)];simp;omega
 rw[xj b _ c 1 m n _ i k (by rw[g];omega),fN,y8 c _ m (by rw[g];omega),y8 a z 0 (by omega)];congr 1;apply Array.ext';simp only[List.take_zero,cg,aZ,Array.toList_append];have d:a.toList.length=m:=by simpa using f
 have e:(z.toList.drop a.size).length=n:=by rw[List.length_drop];simp;omega
 rw[List.take_left' d,List.drop_of_length_le (by rw[bK,d,e];omega),eM]
def nL(t:az)(parts:Array (Nat×ak)):Sem ak:=Instr.build t parts
def xM(t:az)(parts:Array (Nat×ak)):Sem ak:=Instr.build t parts
def uJ{P:aO}(w:ai)(t:az)(m n:Nat)(z a c:Array ak)(b d:Field)(j:P.underlying t=ae (.struct #[b,d]))(f:(sizeOf b.type).run P w=.ok m w)(g:(sizeOf d.type).run P w=.ok n w)(l:b.offset=0)(o:d.offset=m)(k:(zeroValue t).run P w=.ok (.agg z) w)(e:z.size=m+n):(nL t #[(0,.agg a),(1,.agg c)]).run P w=if a.size=m/\c.size=n then .ok (.agg (a++c)) w else(xM t #[(0,.agg a),(1,.agg c)]).run P w:=by split;rename_i h;unfold nL Instr.build;simp[eD,k,run_underlying j,f,g,fc,l,o];have:=aa8 z a c m n e h.1 h.2 (λi=>[(0,m),(m,n)][i]?) rfl rfl;rw[this];rfl;rfl
@[go_sem ↓] theorem aak(parts:Array (Nat×ak)):Instr.build 50 parts=nL 50 parts:=rfl
@[go_sem] theorem TQ(w:ai):(nL 50 #[]).run aj w=.ok (.agg (ints [0,0,0,0,0,0,0,0,0,0,0])) w:=by kernel_rfl
@[go_sem] theorem UM(w:ai)(a c:Array ak):(nL 50 #[(0,.agg a),(1,.agg c)]).run aj w=if a.size=2/\c.size=9 then .ok (.agg (a++c)) w else(xM 50 #[(0,.agg a),(1,.agg c)]).run aj w:=uJ w _ 2 9 (bD 11 (aS .i64 0)).toArray a c _ _ underlying50 (by kernel_rfl) (by kernel_rfl) rfl rfl (by kernel_rfl) rfl
@[go_sem ↓] theorem Ys(parts:Array (Nat×ak)):Instr.build 45 parts=nL 45 parts:=rfl
@[go_sem] theorem QQ(w:ai):(nL 45 #[]).run aj w=.ok (.agg (ints [0,0,0,0])) w:=by kernel_rfl
@[go_sem] theorem TR(w:ai)(a c:Array ak):(nL 45 #[(0,.agg a),(1,.agg c)]).run aj w=if a.size=2/\c.size=2 then .ok (.agg (a++c)) w else(xM 45 #[(0,.agg a),(1,.agg c)]).run aj w:=uJ w _ 2 2 (bD 4 (aS .i64 0)).toArray a c _ _ underlying45 (by kernel_rfl) (by kernel_rfl) rfl rfl (by kernel_rfl) rfl
@[go_sem] theorem aan(w:ai)(k g o n:Nat):row? (w.drewN k) g o n=row? w g o n:=rfl
@[go_sem] theorem YB(w:ai)(k g o n:Nat):Go.Proofs.YtknejlcijdngoaaGreat.fits (w.drewN k) g o n=Go.Proofs.YtknejlcijdngoaaGreat.fits w g o n:=rfl
@[go_sem] theorem XY(a b:Int)(c:List Int):(#[aS .i64 a,.int .i64 b]:Array ak)++ints c=ints (a::b::c):=by unfold ints;apply Array.ext';simp
def gn(w:ai)(B size:Nat)(A:Option Addr)(a:List (List Int)):Prop:=(∀r∈a,r.length=size)/\(0<a.length->∃b o,A=ae ⟨b,o,ah⟩/\b<B/\∀k r,a[k]? =ae r->row? w b (o+k*size) size=ae (ints r))
def fT{w a:ai}{B g:Nat}(b:Below B w a)(c:g<B)(o n:Nat):row? a g o n=row? w g o n:=by unfold row?;rw[b.block g c]
def gn.below{w w':ai}{B size:Nat}{A:Option Addr}{c:List (List Int)}(h:gn w B size A c)(f:Below B w w'):gn w' B size A c:=⟨h.1,λd=>by obtain⟨b,o,e,a,g⟩:=h.2 d;exact⟨b,o,e,a,λk r i=>(fT f a _ _).trans (g k r i)⟩⟩
def gn.more{w:ai}{B a size:Nat}{A:Option Addr}{c:List (List Int)}(h:gn w B size A c)(i:B<=a):gn w a size A c:=⟨h.1,λd=>by obtain⟨b,o,e,g,f⟩:=h.2 d;exact⟨b,o,e,by omega,f⟩⟩
def gn.at_{w:ai}{B size:Nat}{A:Option Addr}{c:List (List Int)}(h:gn w B size A c){k:Nat}(f:k<c.length):∃b o,A=ae ⟨b,o,ah⟩/\b<B/\row? w b (o+k*size) size=ae (ints c[k]):=by obtain⟨b,o,e,a,d⟩:=h.2 (by omega);exact⟨b,o,e,a,d k _ (aq f)⟩
def nm(size:Nat)(a:List Int)(n:Nat):List (List Int):=(a6 n).map λk=>(a.drop (k*size)).take size
def nG(size:Nat)(a:List Int)(n:Nat):(nm size a n).length=n:=by simp[nm]
def rT{size:Nat}{b:List Int}{n:Nat}(h:b.length=n*size):∀r∈nm size b n,r.length=size:=by intro r d;obtain⟨k,c,rfl⟩:=aI.1 d;have a:k+1<=n:=List.mem_range.1 c;have:=ik size a;rw[Nat.add_mul,jF]at this;rw[dH,List.length_drop];omega
def Ht{size:Nat}{a:List Int}{n:Nat}:∀r∈nm size a n,∀x∈r,x∈a:=by intro r b x c;obtain⟨k,_,rfl⟩:=aI.1 b;exact List.mem_of_mem_drop (List.mem_of_mem_take c)
def Ge{w:ai}{b o n:Nat}{r:List Int}(q:r.length=n)(p:0<n)(h:∀j x,r[j]? =ae x->w.cell? ⟨b,o+j,ah⟩=ae (.int .i64 x)):row? w b o n=ae (ints r):=by have a:=h (n-1) _ (aq (by omega));unfold b3 at a;unfold row?;split at a;rename_i e t f c;simp only at c;rw[c];simp only at a|-;have k:=(aE.1 a).1;rw[if_pos (by omega)];congr 1;apply Array.ext;simp[bN];omega;intro i l d;rw[bN]at d;have:=h i _ (aq d);rw[cell_of_row w b (o+i) e t f c]at this;obtain⟨m,g⟩:=aE.1 this;simp[ints,g];cases a
def Reads.chunks{w:ai}{B size:Nat}{A:Option Addr}{n:Nat}{d:List Int}(h:Reads w B size A n (d.map (aS .i64)))(s:0<size):gn w B size A (nm size d n):=by
 have l:d.length=n*size:=by have:=h.1;simpa using this
 refine⟨rT l,λi=> ?_⟩;rw[nG]at i;obtain⟨b,o,e,m,p⟩:=h.2 i;refine⟨b,o,e,m,λk r f=> ?_⟩;have q:k<n:=by have:=(bz.1 f).1;rwa[nG]at this
 have a:=rT l r (List.mem_of_getElem? f);refine Ge a s λj x c=> ?_
 have g:(d.drop (k*size)).take size=r:=by simpa[nm,q]using f
 rw[<-g,dS]at c;split at c;rw[p6]at c;have:=p (k*size+j) (.int .i64 x) (by rw[dx,c];rfl);rwa[Nat.add_assoc];cases c
def iq(a b:List (List Int)):Bool:=decide (a=b)
def Db(n:Nat)(e:n<=1000000)(w:ai):(Instr.makeSlice 32 (.int .i64 (n:Int)) (.int .i64 (n:Int))).run aj w=.ok (.slice (ae ⟨w.heap.size,0,ah⟩) n n) (w.alloc (.cells (ints (bD n 0)) 3)):=by
 obtain⟨i,b,d,c,a⟩:∃i,Tryz.prog.info? 3=ae i/\i.zero=ae (.int .i64 0)/\i.size=1/\i.bytes=8:=by
  have:=IA;cases h:Tryz.prog.info? 3 with|none=>rw[h]at this;cases this|some i=>rw[h]at this;simp at this;exact⟨i,rfl,this⟩
 rw[run_make w _ _ i _ underlying32 b d .i64 .i64 n n (by omega) (by omega) (by rw[a];omega) (by omega)];congr 2;have:=toList_madeCells_one (.int .i64 0) ((n:Int).toNat*i.size);congr 1;apply Array.ext';rw[iE,show(aS .i64 0).cells=#[.int .i64 0]from rfl,this,c];simp
def om.Aw{w:ai}{B g:Nat}{a:List Int}(h:cD w g 3 (ints a))(b:B<=g)(c:a.length<=maxLen):om w B (.slice (ae ⟨g,0,ah⟩) a.length a.length) a:=⟨by simp,bW ⟨g,a.length,ints a,rfl,b,h,av _,c,by simp[bN],by rw[iE];exact cB (by simp)⟩⟩
def dv:Sys:=⟨⟨0,0,0⟩,0,0,0,0⟩
def xY(w:ai)(B:Nat)(A:Option Addr)(a:List Sys):Prop:=gn w B 7 A (a.map Sys.list)
def xY.at_{w:ai}{B:Nat}{A:Option Addr}{c:List Sys}(h:xY w B A c){k:Nat}(d:k<c.length):∃b o,A=ae ⟨b,o,ah⟩/\b<B/\row? w b (o+k*7) 7=ae (ints (c.getD k dv).list):=by obtain⟨b,o,e,a,f⟩:=gn.at_ h (k:=k) (by simpa using d);refine⟨b,o,e,a,?_⟩;rw[f,List.getElem_map];simp[bm,aq d]
def xY.below{w w':ai}{B:Nat}{A:Option Addr}{a:List Sys}(h:xY w B A a)(b:Below B w w'):xY w' B A a:=gn.below h b
def gC(a:List Sys)(p:List Int)(s:Sys):Nat->Int|0=>0|k+1=>if gu s (a.getD k dv)then max (gC a p s k) (p.getD k 0+1)else gC a p s k
def cj(a:List Sys):Nat->List Int|0=>[]|i+1=>cj a i++[gC a (cj a i) (a.getD i dv) i]
def ec(a:List Sys):List Int×Int:=if 20<a.length then([],2)else if il (a.map eP)=0 then(cj a a.length,0)else([],il (a.map eP))
def eQ(a:List Sys):∀i,(cj a i).length=i|0=>rfl|i+1=>by simp[cj,eQ a i]
def wC{a:List Sys}{p q:List Int}{s:Sys}:∀i,(∀k,k<i->p.getD k 0=q.getD k 0)->gC a p s i=gC a q s i|0,_=>rfl|i+1,h=>by unfold gC;rw[wC i λk b=>h k (by omega),h i (by omega)]
def xB(a:List Sys):∀n i,i<=n->∀k,k<i->(cj a n).getD k 0=(cj a i).getD k 0|0,i,h,k,hk=>by omega|n+1,i,h,k,hk=>by by_cases b:i=n+1;rw[b];rw[<-xB a n i (by omega) k hk];simp only[cj,bm,List.getElem?_append];rw[if_pos (by rw[eQ];omega)]
def wD(ss:List Sys)(n i:Nat)(h:i<n):(cj ss n).getD i 0=gC ss (cj ss n) (ss.getD i dv) i:=by
 rw[xB ss n (i+1) (by omega) i (by omega)];have:(cj ss (i+1)).getD i 0=gC ss (cj ss i) (ss.getD i dv) i:=by simp[cj,bm,List.getElem?_append,eQ]
 rw[this];exact wC i λk a=>(xB ss n i (by omega) k a).symm
def xA{ss:List Sys}{p:List Int}{s:Sys}:∀i,0<=gC ss p s i/\∀k,k<i->gu s (ss.getD k dv)=ar->p.getD k 0+1<=gC ss p s i|0=>⟨by simp[gC],λk d=>by omega⟩|i+1=>by obtain⟨e,c⟩:=xA (ss:=ss) (p:=p) (s:=s) i;unfold gC;split;refine⟨by omega,λk d a=> ?_⟩;by_cases b:k=i;subst b;omega;have:=c k (by omega) a;omega;rename_i f;refine⟨e,λk d a=> ?_⟩;by_cases b:k=i;subst b;exact absurd a f;exact c k (by omega) a
def uk{ss:List Sys}{p:List Int}{s:Sys}:∀i,gC ss p s i=0\/∃k,k<i/\gu s (ss.getD k dv)=ar/\gC ss p s i=p.getD k 0+1
 |0=>bt rfl|i+1=>by have c:=uk (ss:=ss) (p:=p) (s:=s) i;unfold gC;split;rename_i d;by_cases hm:gC ss p s i<=p.getD i 0+1;exact bW ⟨i,by omega,d,by omega⟩;rcases c with h|⟨k,e,a,b⟩;rw[h]at hm|-;exact bt (by omega);exact bW ⟨k,by omega,a,by omega⟩;rcases c with h|⟨k,e,a,b⟩;exact bt h;exact bW ⟨k,by omega,a,b⟩
def zf(ss:List Sys)(n:Nat):∀i,i<n->0<=(cj ss n).getD i 0/\(cj ss n).getD i 0<=i:=by
 intro i
 induction i using ly with
 |ind i c=>intro a;rw[wD ss n i a];refine⟨(xA i).1,?_⟩;rcases uk (ss:=ss) (p:=cj ss n) (s:=ss.getD i dv) i with h|⟨k,b,_,h⟩;omega;have:=(c k b (by omega)).2;omega
def Au(a:List Sys)(p:List Int)(i:Nat):Nat->Bool|0=>p.getD i 0==0|k+1=>Au a p i k||(gu (a.getD k dv) (a.getD i dv)&&p.getD k 0==p.getD i 0-1)
def xu{b:List Sys}{p:List Int}{i:Nat}:∀k,(p.getD i 0=0\/∃j,j<k/\gu (b.getD j dv) (b.getD i dv)=ar/\p.getD j 0=p.getD i 0-1)->Au b p i k=ar
 |0,h=>by rcases h with h|⟨j,e,_⟩;simp only[Au,h];rfl;omega
 |k+1,h=>by unfold Au;rcases h with h|⟨j,e,c,d⟩;rw[xu k (bt h),Bool.true_or];by_cases a:j=k;subst a;rw[c,d];simp;rw[xu k (bW ⟨j,by omega,c,d⟩),Bool.true_or]
def Ja(ss:List Sys)(n:∀s∈ss,eP s=0)(f:∀s:Sys,eP s=0->cX s.read=ar/\cX s.write=ar)(i:Nat)(c:i<ss.length):(∀k,k<i->gu (ss.getD k dv) (ss.getD i dv)=ar->(cj ss ss.length).getD k 0<(cj ss ss.length).getD i 0)/\Au ss (cj ss ss.length) i i=ar/\(∀k,k<ss.length->k≠i->(cj ss ss.length).getD k 0=(cj ss ss.length).getD i 0->gu (ss.getD k dv) (ss.getD i dv)=au):=by
 have d:∀k,k<ss.length->ss.getD k dv∈ss:=λk b=>by simp[bm,aq b]
 have a:∀j k,j<ss.length->k<ss.length->gu (ss.getD j dv) (ss.getD k dv)=gu (ss.getD k dv) (ss.getD j dv):=by intro j k w b;obtain⟨o,q⟩:=f _ (n _ (d j w));obtain⟨r,t⟩:=f _ (n _ (d k b));exact KF r t o q
 have g:∀i,i<ss.length->∀k,k<i->gu (ss.getD k dv) (ss.getD i dv)=ar->(cj ss ss.length).getD k 0<(cj ss ss.length).getD i 0:=by intro i c k b l;rw[wD ss ss.length i c];have:=(xA (ss:=ss) (p:=cj ss ss.length) (s:=ss.getD i dv) i).2 k b (by rw[a i k c (by omega)];exact l);omega
 refine⟨g i c,xu i ?_,?_⟩;have e:=wD ss ss.length i c;rcases uk (ss:=ss) (p:=cj ss ss.length) (s:=ss.getD i dv) i with h|⟨k,b,u,v⟩;exact bt (e.trans h);refine bW ⟨k,b,by rw[a k i (by omega) c];exact u,?_⟩;rw[e,v];omega;intro k b m x;cases l:gu (ss.getD k dv) (ss.getD i dv)with
 |false=>rfl|true=>exfalso;rcases Nat.lt_or_gt_of_ne m with h|h;have:=g i c k h l;omega;have:=g k b i h (by rw[a i k c b];exact l);omega
def Ig{b:List Sys}{i:Nat}(e:i<b.length)(h:∀k,k<i->eP (b.getD k dv)=0)(c:eP (b.getD i dv)≠0):il (b.map eP)=eP (b.getD i dv):=by
 induction b generalizing i with
 |nil=>simp at e|cons a l f=>
  cases i with|zero=>simp only[List.getD_cons_zero]at c|-;rw[fq,il,if_neg c]|succ i=>have d:=h 0 (by omega);simp only[List.getD_cons_zero]at d;simp only[List.getD_cons_succ]at c|-;rw[fq,il,if_pos d];exact f (by simpa using e) (λk g=>by simpa using h (k+1) (by omega)) c
def C1{b:List Sys}(h:∀k,k<b.length->eP (b.getD k dv)=0):il (b.map eP)=0:=by
 induction b with|nil=>rfl|cons a l e=>have c:=h 0 (by simp);simp only[List.getD_cons_zero]at c;rw[fq,il,if_pos c];exact e λk d=>by simpa using h (k+1) (by simpa using d)
def qX(m:Int)(w:ai):Calls aj 103 #[.int .i64 m] w λe b=>e=.returned (.bool (cX m))/\w=b:=by
 by_cases h:0<=m
 ·have a:Hid (cX m=decide (m<=255)):=by simp[Hid,cX,h]
  go_enter func103,ntmps103
  go_wp2
  go_ret;exact⟨dw a.out.symm,rfl⟩
 have a:Hid (cX m=au):=by simp[Hid,cX,h]
 have c:m<0:=by omega
 clear h;go_enter func103,ntmps103
 go_wp2
 go_ret;exact⟨dw a.out.symm,rfl⟩
def oU(b:aN)(r:b.v.length=8)(w:ai):Calls aj 46 #[.agg (ints b.list)] w λe z=>e=.returned (.int .i64 (bT b))/\Below w.heap.size w z:=by
 have M:(ints b.list)[0]? =ae (.int .i64 b.k):=rfl;have C:row? (w.alloc (.cells (ints b.list) 48)) w.heap.size 1 8=ae (ints b.v):=by rw[(cD.new w 48 (ints b.list)).ei 1 8 (by simp[aN.list,r])];simp[aN.list,<-r]
 have D:=af r;clear r;by_cases h:cX b.k=ar
 ·have L:0<=b.k/\b.k<=255:=by simpa[cX]using h
  have G:Hid (((b.k.toNat:Nat):Int)=b.k):=by unfold Hid;omega
  have u:b.k.toNat<256:=by omega
  have t:=af (qg b h);have s:=af (λj v=>ya b j v h);go_enter func46,ntmps46;go_wp2_with fail;refine(qX b.k _).mono ?_;rintro e z ⟨rfl,rfl⟩;rw[h];clear h;go_wp2_with fail
  go_loop [11] (λi=>∃k:Nat,k<=8/\i=.int .i64 k/\∀j,j<k->ky b j=0) (λi=>8-(intOf i).toNat)
  case atStart=>exact⟨0,by omega,rfl,by omega⟩
  obtain⟨k,I,rfl,A⟩:=hrel;have q:=af A;clear A;by_cases n:k<8
  ·have B:=K5 b.v k n D.out;have d:ky b k=if b.k.toNat.testBit k=au/\b.v.getD k 0≠0 then 4 else if b.v.getD k 0< -1000000000\/1000000000<b.v.getD k 0 then 1 else 0:=rfl
   have a:=E3 b.k.toNat k u n;rw[G.out]at a;generalize b.v.getD k 0=x at*;have g:=λH=>s.out k n q.out H
   cases l:b.k.toNat.testBit k with
   |false=>
    rw[l]at d a;have E:(bits BinOp.and IntKind.i64 (b.k / 2^k) 1==0)=ar:=by rw[a];rfl
    by_cases f:x=0
    ·have F:(x !=0)=au:=by simp[f]
     have J:¬x< -1000000000:=by omega
     have K:¬1000000000<x:=by omega
     have c:Hid (∀j,j<k+1->ky b j=0):=by intro j v;by_cases m:j=k;subst m;rw[d];simp[f];exact q.out j (by omega)
     clear f d a l g
     go_wp2
     go_round
     case rel=>exact⟨k+1,by omega,by go_num,c.out⟩
     simp[intOf];omega
    have F:(x !=0)=ar:=by simpa using f
    have c:Hid (bT b=4):=by
     unfold Hid;have:ky b k=4:=by rw[d];simp[f]
     rw[g (by omega),this]
    clear f d a l g
    go_wp2
    go_ret;exact⟨eH c.out.symm,(Below.refl _ _).alloc (av _) _⟩
   |true=>
    rw[l]at d a;have E:(bits BinOp.and IntKind.i64 (b.k / 2^k) 1==0)=au:=by rw[a];rfl
    by_cases f:x< -1000000000
    ·have c:Hid (bT b=1):=by
      unfold Hid;have:ky b k=1:=by rw[d];simp[f]
      rw[g (by omega),this]
     clear d a l g
     go_wp2
     go_ret;exact⟨eH c.out.symm,(Below.refl _ _).alloc (av _) _⟩
    by_cases p:1000000000<x
    ·have c:Hid (bT b=1):=by
      unfold Hid;have:ky b k=1:=by rw[d];simp[p]
      rw[g (by omega),this]
     clear d a l g
     go_wp2
     go_ret;exact⟨eH c.out.symm,(Below.refl _ _).alloc (av _) _⟩
    have c:Hid (∀j,j<k+1->ky b j=0):=by intro j v;by_cases m:j=k;subst m;rw[d];simp[f,p];exact q.out j (by omega)
    clear d a l g
    go_wp2
    go_round
    case rel=>exact⟨k+1,by omega,by go_num,c.out⟩
    simp[intOf];omega
  have y:k=8:=by omega
  subst y;have c:=af (t.out q.out)
  go_wp2
  go_ret;exact⟨eH c.out.symm,(Below.refl _ _).alloc (av _) _⟩
 ·have o:cX b.k=au:=by simpa using h
  have c:Hid (bT b=1):=by unfold Hid bT;rw[if_neg h]
  go_enter func46,ntmps46;go_wp2_with fail;refine(qX b.k _).mono ?_;rintro e z ⟨rfl,rfl⟩;rw[o];clear h o;go_wp2_with fail;go_ret;exact⟨eH c.out.symm,(Below.refl _ _).alloc (av _) _⟩
def Ao(m:Int)(q:Query)(w:ai):Calls aj 89 #[.int .i64 m,.agg (ints q.list)] w λe a=>e=.returned (.bool (fu m q))/\Below w.heap.size w a:=IT m q.FG q.nt q.any w
def oV(q:Query)(w:ai):Calls aj 93 #[.agg (ints q.list)] w λe b=>e=.returned (.int .i64 (jN q))/\Below w.heap.size w b:=by
 have h:(ints q.list)[0]? =ae (.int .i64 q.FG):=rfl;have i:(ints q.list)[1]? =ae (.int .i64 q.nt):=rfl;have j:(ints q.list)[2]? =ae (.int .i64 q.any):=rfl;have a:Hid (jN q=if cX q.FG&&cX q.nt&&cX q.any then 0 else 1):=rfl;cases d:cX q.FG<;>cases f:cX q.nt<;>cases g:cX q.any;all_goals
  have c:=af a.out;rw[d,f,g]at c;go_enter func93,ntmps93;go_wp2_with fail;refine(qX _ _).mono ?_;rintro e b ⟨rfl,rfl⟩;rw[d];go_wp2_with fail;try(refine(qX _ _).mono ?_;rintro e b ⟨rfl,rfl⟩;rw[f];go_wp2_with fail)
  try(refine(qX _ _).mono ?_;rintro e b ⟨rfl,rfl⟩;rw[g];go_wp2_with fail)
  go_ret;exact⟨eH c.out.symm,(Below.refl _ _).alloc (av _) _⟩
def Ak(m:Int)(w:ai):Calls aj 102 #[.int .i64 m] w λe b=>e=.returned (.bool (cX m))/\w=b:=by
 by_cases h:0<=m
 ·have a:Hid (cX m=decide (m<=255)):=by simp[Hid,cX,h]
  go_enter func102,ntmps102
  go_wp2
  go_ret;exact⟨dw a.out.symm,rfl⟩
 have a:Hid (cX m=au):=by simp[Hid,cX,h]
 have c:m<0:=by omega
 clear h;go_enter func102,ntmps102
 go_wp2
 go_ret;exact⟨dw a.out.symm,rfl⟩
def OA(s:Sys)(w:ai):Calls aj 45 #[.agg (ints s.list)] w λe j=>e=.returned (.int .i64 (eP s))/\Below w.heap.size w j:=by
 have f:Hid (cD (w.alloc (.cells (ints s.list) 54)) w.heap.size 54 (ints s.list)):=cD.new _ _ _;have g:row? (w.alloc (.cells (ints s.list) 54)) w.heap.size 0 3=ae (ints s.q.list):=f.out.ei 0 3 (by simp[Sys.list]);have m:(ints s.list)[3]? =ae (.int .i64 s.read):=rfl;have n:(ints s.list)[4]? =ae (.int .i64 s.write):=rfl;have o:(ints s.list)[5]? =ae (.int .i64 s.act):=rfl;have p:(ints s.list)[6]? =ae (.int .i64 s.n):=rfl;by_cases c:jN s.q=0
 ·have h:Hid (eP s=if !(cX s.read)|| !(cX s.write)||decide (s.act<1)||decide (3<s.act)||decide (s.n< -1000000)||decide (1000000<s.n)then 1
   else if(decide (s.act=3)&&decide (s.n≠0))||(decide (s.act≠2)&&decide (s.read≠0))then 4 else 0):=by
   unfold Hid eP;rw[if_neg (by simp[c])]
  cases k:cX s.read<;>cases l:cX s.write;all_goals
   go_enter func45,ntmps45;go_wp2_with fail;refine(oV _ _).mono ?_;rintro e d ⟨rfl,a⟩;rw[c];have b:cD d w.heap.size 54 (ints s.list):=f.out.after a;have r:d.cell? ⟨w.heap.size,3,ah⟩=ae (.int .i64 s.read):=b.cell 3;have t:d.cell? ⟨w.heap.size,4,ah⟩=ae (.int .i64 s.write):=b.cell 4;have u:d.cell? ⟨w.heap.size,5,ah⟩=ae (.int .i64 s.act):=b.cell 5;have v:d.cell? ⟨w.heap.size,6,ah⟩=ae (.int .i64 s.n):=b.cell 6;have a:=af (((Below.refl w.heap.size w).alloc (av _) (.cells (ints s.list) 54)).trans (a.mono (by simp)));rename_i i;clear i b m n o p g;rw[k,l]at h;clear c;go_wp2_with fail;refine(Ak _ _).mono ?_;rintro e j ⟨rfl,rfl⟩;rw[k];go_wp2_with fail;try(refine(Ak _ _).mono ?_;rintro e j ⟨rfl,rfl⟩;rw[l];go_wp2_with fail)
   all_goals go_ret
   all_goals
    refine⟨eH ?_,a.out⟩;rw[h.out];first
     |rfl
     |(simp only[Bool.not_true,Bool.not_false,Bool.false_or,Bool.true_or,Bool.or_eq_true,aG,decide_eq_true_eq,bne_iff_ne,ne_eq,bne_eq_false_iff_eq]at*
       repeat' split
       all_goals first|rfl|omega)
 ·have h:Hid (eP s=jN s.q):=by unfold Hid eP;rw[if_pos c]
  have q:(jN s.q !=0)=ar:=by simpa using c
  clear c;go_enter func45,ntmps45;go_wp2_with fail;refine(oV _ _).mono ?_;rintro e d ⟨rfl,a⟩;have a:=af (((Below.refl w.heap.size w).alloc (av _) (.cells (ints s.list) 54)).trans (a.mono (by simp)));go_wp2_with fail;go_ret;exact⟨eH h.out.symm,a.out⟩
structure ft where
 d:Int
 b:aN
 a:Hd
 t:Hd
 k:Int
 n:Int
def ft.list(o:ft):List Int:=[o.d]++o.b.list++[o.a.1,o.a.2,o.t.1,o.t.2,o.k,o.n]
def W5(r:List Int):ft:=⟨r.getD 0 0,⟨r.getD 1 0,(r.drop 2).take 8⟩,(r.getD 10 0,r.getD 11 0),(r.getD 12 0,r.getD 13 0),r.getD 14 0,r.getD 15 0⟩
def xQ{r:List Int}(h:r.length=16):(W5 r).list=r/\(W5 r).b.v.length=8:=by
 match r,h with|[_,_,_,_,_,_,_,_,_,_,_,_,_,_,_,_],_=>exact⟨rfl,rfl⟩
def oO(w:ai)(B:Nat)(A:Option Addr)(a:List ft):Prop:=gn w B 16 A (a.map ft.list)
def oO.below{w w':ai}{B:Nat}{A:Option Addr}{a:List ft}(h:oO w B A a)(b:Below B w w'):oO w' B A a:=gn.below h b
def oO.at_{w:ai}{B:Nat}{A:Option Addr}{a:List ft}(h:oO w B A a){k:Nat}(d:k<a.length):∃b o,A=ae ⟨b,o,ah⟩/\b<B/\row? w b (o+k*16) 16=ae (ints (ft.list a[k])):=by obtain⟨b,o,e,c,f⟩:=gn.at_ h (k:=k) (by simpa using d);exact⟨b,o,e,c,by simpa using f⟩
def ft.len{o:ft}(h:o.b.v.length=8):o.list.length=16:=by simp[ft.list,aN.list,h]
end
namespace Rel
open Go.Conc Go.ConcN
def Ends(P:aO)(b:ak->ai->Prop)(m:Machine)(t:Trace):Prop:=∃N a o c d,runNT P (N+1) m t=(.ended o c,d)/\runN P N m=.next a/\step P a=.ended o c/\Go.Conc.Good P b a o c d
section
variable{P:aO} {Z:ak->ai->Prop} {Y:Nat->Prop} {B:Nat} {gs:Array aw} {q:Nat->Nat} {t u:Trace} {w:ai} {sl:Option (Nat×Nat)} {a:aw}
def Ends.step{m c:Machine}{b:Trace}(h:stepT P m=(.next c,b))(k:Ends P Z c (t++b)):Ends P Z m t:=by obtain⟨N,a,o,w',i,d,e,f,g⟩:=k;exact⟨N+1,a,o,w',i,by rw[runNT_succ_next h];exact d,by rw[runN_succ_next h];exact e,f,g⟩
def Ends.now{m:Machine}{o:Outcome}{b:ai}{a:Trace}(h:stepT P m=(.ended o b,a))(k:Go.Conc.Good P Z m o b (t++a)):Ends P Z m t:=⟨0,m,o,b,t++a,by simp[runNT,h],rfl,by simp[Go.step,h],k⟩
def Ends.runs{N:Nat}{m c:Machine}{d:Trace}(h:runNT P N m t=(.next c,d))(k:Ends P Z c d):Ends P Z m t:=by obtain⟨e,a,o,l,b,f,g,i,j⟩:=k;refine⟨N+e,a,o,l,b,?_,?_,i,j⟩;rw[Nat.add_assoc,runNT_add,h];exact f;rw[runN_add,<-runNT_fst P _ _ t,h];exact g
def uA.mono{c b:Nat}(h:uA Y B c t)(d:B<=b):uA Y b c t:=⟨h.clean,h.known,h.over,h.hears,λop a x e=>Loc.low_mono d (h.seen op a x e),h.gs⟩
def uA.app0{q:Nat}(h:uA Y B q t)(l:0<q)(f:∀op∈u,op.g=0)(D:∀op∈u,∀x,op.act.touch? =ae x->¬ShL Y x.loc)(v:Deaf (t++u) 0=Deaf t 0)(C:∀op∈u,∀x,op.act.touch? =ae x->x.loc.low B):uA Y B q (t++u):=by refine⟨λe=>noRace_append (h.clean e) f λi a g op c b s r=> ?_,λi a g hm=> ?_,handedOver_app h.over λop c=>.inl (f op c),v.trans h.hears,λop c x d=>(nz.1 c).elim (λy=>h.seen op y x d) λy=>C op y x d,λi op w=> ?_⟩;rcases h.known i a g r.2.1 with z|⟨m,A⟩;exact z;exact absurd (r.1▸m) (D op c b s);obtain⟨x,d,o⟩:=touch_of g;rcases getElem?_append_cases d with⟨_,n⟩|⟨_,p⟩;exact(h.known i a (by rw[touchAt_of n];exact o) hm).imp (·.app u) id;have:=knows_own d;rw[f x p]at this;exact .inl this;rcases getElem?_append_cases w with⟨_,j⟩|⟨_,k⟩;exact h.gs i op j;rw[f op k];exact l
def uA.mute{q g:Nat}(h:uA Y B q t)(v:g≠0)(m:g<q)(n:∀op∈u,op.g=g)(j:∀op∈u,op.act.touch? =ah):uA Y B q (t++u):=by refine⟨λf=>noRace_append (h.clean f) n λi a _ op c b r _=>(by rw[j op c]at r;cases r),λi a s hm=> ?_,handedOver_app h.over λop c=>.inr (j op c),(Deaf_other t v u n).trans h.hears,λop c x e=>(nz.1 c).elim (λy=>h.seen op y x e) λy=>(by rw[j op y]at e;cases e),λi op w=> ?_⟩;obtain⟨x,e,d⟩:=touch_of s;rcases getElem?_append_cases e with⟨_,o⟩|⟨_,p⟩;exact(h.known i a (by rw[touchAt_of o];exact d) hm).imp (·.app u) id;rw[j x p]at d;cases d;rcases getElem?_append_cases w with⟨_,k⟩|⟨_,l⟩;exact h.gs i op k;rw[n op l];exact m
def Co.mono{a:Nat}(h:Co P Y B gs q t)(c:B<=a):Co P Y a gs q t:=⟨h.old,h.past.mono c,h.pos,λb d=>aW (h.L6 b d) c⟩
def Co.own(h:Co P Y B gs q t){B':Nat}(d:B<=B'){a':aw}(f:aw->aw)(m:∀o,o.status=.running\/o.status=.finished->f o=o)(j:∀op∈u,op.g=0)(g:∀op∈u,∀x,op.act.touch? =ae x->¬ShL Y x.loc/\x.loc.low B')(l:Deaf (t++u) 0=Deaf t 0):Co P Y B' ((gs.map f).setIfInBounds 0 a') q (t++u):=by refine⟨λi x n c=> ?_,?_,by simp[h.pos],λb k=>aW (h.L6 b k) d⟩;rw[aJ (by omega),gj]at c;obtain⟨y,p,rfl⟩:=aF.1 c;have e:=h.old i y n p;rw[m y e.status,Deaf_other t (g':=0) (by omega) _ j];exact e;have:=(h.past.mono d).app0 h.pos j (λop a x c=>(g op a x c).1) l (λop a x c=>(g op a x c).2);simpa using this
def EvX(Y:Nat->Prop)(B:Nat)(e:Event):Prop:=(e.loc≠.mark .disable/\e.loc≠.mark .enable)/\∀x,(cQ e).touch? =ae x->¬ShL Y x.loc/\x.loc.low B
def Co.I6(h:Co P Y B gs q t){B':Nat}(g:B<=B'){a':aw}{es:Array Event}(b:∀e∈es,EvX Y B' e)(d:bG)(pos:String)(f:aw->aw)(i:∀o,o.status=.running\/o.status=.finished->f o=o):Co P Y B' ((gs.map f).setIfInBounds 0 a') q (t++bZ 0 d pos es):=by refine h.own g f i (λop a=>by obtain⟨e,_,rfl⟩:=bk a;rfl) (λop a x j=>by obtain⟨e,c,rfl⟩:=bk a;exact(b e c).2 x j) ?_;rw[Deaf_own];exact deafBehind_still (λe c=>(b e c).1) _
def jZ(R:gs[0]? =ae a)(n:a.status=.running)(h:Co P Y B gs q t)(K:∀(b:Array aw)(q':Nat->Nat)(O:Trace)(p:Option (Nat×Nat))(d:Nat),b.size=gs.size->b[0]? =ae a->Co P Y B b q' O->(∃o r f,runT P (crowd b (w.at d) p) 0=(.ended o r,f)/\∀Q D,Go.Conc.Good P Z (crowd b Q D) o r (O++f))\/∃m' f,runT P (crowd b (w.at d) p) 0=(.next m',f)/\Ends P Z m' (O++f)):Ends P Z (crowd gs w sl) t:=by
 obtain⟨M,hM⟩:∃M,sumTo gs.size q=M:=⟨_,rfl⟩
 induction M using ly generalizing gs q t w sl with
 |_ M ih=>
  have W:∀g∈gs,awake g:=by
   intro g E;obtain⟨i,F,rfl⟩:=Array.mem_iff_getElem.1 E;rcases mO i with rfl|m;have:gs[0]=a:=by simpa[aH F]using R
   rw[this];exact awake_of (.inl n);exact awake_of ((h.old i _ m (aH F)).status.elim .inl λx=>.inr (.inr x))
  obtain⟨i,g,d,p,F,E,C⟩:=crowd_pick (P:=P) (w:=w) (sl:=sl) W ⟨0,a,R,n⟩;rcases mO i with rfl|m;rcases K gs q t p d rfl R h with⟨o,r,f,U,V⟩|⟨m',f,U,V⟩;exact .now (C.trans U) (V _ _);exact .step (C.trans U) V;have S:=h.old i g m F;have X:(i==0)=au:=by simp;omega
  have v:i<gs.size:=(aE.1 F).1;cases z:q i with
  |zero=>rw[z]at S;rw[S.1]at E;cases E|succ k=>
   rw[z]at S;rcases S with⟨hf,_⟩|⟨_,G,es,hm,I,hq'⟩;rw[hf]at E;cases E;have A:=runT_crowd_go (P:=P) (sl:=p) (i:=i) F (by rw[X];exact I (w.at d));have J:sumTo gs.size (upd q i k)<sumTo gs.size q:=by have:=sumTo_upd q k id v;simp only[id,z]at this;change sumTo gs.size (upd q i k)+(k+1)=sumTo gs.size q+k at this;omega
   have l:∀op∈bZ i g.frame.fn g.frame.place es,op.g=i/\op.act.touch? =ah:=λop c=>by obtain⟨e,he,rfl⟩:=bk c;exact⟨rfl,touch_mute (hm e he)⟩
   have L:∀o:aw,o.status=.running\/o.status=.finished->woken P g G (w.at d) o=o:=λo ho=>by unfold Go.Conc.woken;split;exact again_running _ ho;rfl
   have u:((gs.map (woken P g G (w.at d))).setIfInBounds i G).size=gs.size:=by simp
   refine .step (C.trans A) (ih _ (by rw[<-hM];exact J) (gs:=(gs.map (woken P g G (w.at d))).setIfInBounds i G) (q:=upd q i k) ?_ ?_ ?_ (by rw[u]));rw[aJ (by omega),gj,R,eT,L a (.inl n)];refine⟨λj x hj T=> ?_,?_,by rw[u];exact h.pos,h.L6⟩;by_cases s:i=j;subst s;rw[aK (by simpa using v)]at T;obtain rfl:=aX T;rw[upd_same,Deaf_own];exact hq';rw[aJ s,gj]at T;obtain⟨y,hy,rfl⟩:=aF.1 T;have H:=h.old j y hj hy;rw[L y H.status,upd_ne q k (kG s),Deaf_other t s _ (λop c=>(l op c).1)];exact H;rw[u];exact h.past.mute (by omega) v (λop c=>(l op c).1) λop c=>(l op c).2
   intro b q' O N d' hs h0 hC;exact K b q' O N d' (hs.trans u) h0 hC
end
def xV(c:fg)(b:Ren)(a:aY):Prop:=qc (c.at a.fn) b a.tmps a.tmps/\a.kind=.normal/\a.defers=[]/\a.roundOf=ah
def xV.mono{P:aO}{c:fg}{d a:Ren}(e:Ext P d a){b:aY}(h:xV c d b):xV c a b:=⟨h.1.mono e,h.2⟩
structure Kp(P:aO) (c:fg) (π:Ren) (Shun:Nat->Prop) (B:Nat) (gs:Array aw) (q:Nat->Nat) (t:Trace) (g:aw) (w:ai):Prop where
 sub:Sub π
 hp:bS P c.sig π w w
 Mn:∀b,π b b->¬Shun b
 le:B<=w.heap.size
 co:Co P Shun B gs q t
 g0:gs[0]? =ae g
 old:∀b,Shun b->c.old<=b
def CY(P:aO)(c:fg)(a:ak->ai->Prop)(g:aw)(w:ai):Prop:=∀(h:Tape)(d:Nat)(e:Ren)(gs:Array aw)(sl:Option (Nat×Nat))(q:Nat->Nat)(t:Trace)(b:Nat->Prop)(B:Nat),Kp P c e b B gs q t g w->(∀f∈g.frame::g.callers,xV c e f)->Ends P a (crowd gs (cL w h d) sl) t
section
variable{P:aO} {c:fg} {Z:ak->ai->Prop}
def bS.rt{S:gM}{a:Ren}{L R:ai}(h:bS P S a L R)(t c:Tape)(d b:Nat):bS P S a (cL L t d) (cL R c b):=⟨h.ok,h.obj,h.kr,h.mR,h.old⟩
def bS.aby{S:gM}{a:Ren}{L:ai}(h:bS P S a L L)(t:Tape)(d:Nat):bS P S a (cL L t d) (cL L t d):=⟨h.ok,h.obj,h.kr,h.mR,h.old⟩
def CY.rt{g:aw}{w:ai}(h:CY P c Z g w)(j:Tape)(d:Nat):CY P c Z g (cL w j d):=by intro e f k gs sl q t b B a i;exact h e f k gs sl q t b B ⟨a.sub,⟨a.hp.ok,a.hp.obj,a.hp.kr,a.hp.mR,a.hp.old⟩,a.Mn,a.le,a.co,a.g0,a.old⟩ i
def Xw{j:Ren}{d:Nat->Prop}{w:ai}(s:Sub j)(k:bS P c.sig j w w)(l:∀b,j b b->¬d b)(n:∀b,d b->c.old<=b){e:Event}(h:wX c.sig j e):EvX d w.heap.size e:=by
 cases h with|cell wr f=>obtain rfl:=s _ _ f;refine⟨by simp,λx a=> ?_⟩;rw[ofEvent_cell0]at a;simp only[qy,dm]at a;subst a;exact⟨λ⟨b,g,i⟩=>by cases g;exact l _ f i,(k.lt f).2⟩|obj wr f=>obtain rfl:=s _ _ f;refine⟨by simp,λx a=> ?_⟩;simp only[cQ,qy,dm]at a;subst a;exact⟨λ⟨b,g,i⟩=>by cases g;exact l _ f i,(k.lt f).2⟩|room=>exact⟨by simp,λx a=>by cases a⟩|ext _=>exact⟨by simp,λx a=>by cases a⟩|old hm=>obtain⟨_,_,m,_⟩:=k.old _ _ hm;refine⟨by simp,λx a=> ?_⟩;rw[ofEvent_cell0]at a;simp only[qy,dm]at a;subst a;refine⟨λ⟨b,g,i⟩=> ?_,vG m⟩;cases g;have:=n _ i;have:=c.FC _ _ hm;omega
def MK(c:fg)(n:Nat)(e:Event):Prop:=∃a:Addr,e=⟨.cell a,au,au⟩/\a.block<c.old/\a.block<n
def Wb{a:Nat->Prop}{w:ai}{n:Nat}(k:∀b,a b->c.old<=b)(l:n<=w.heap.size){e:Event}(h:MK c n e):EvX a w.heap.size e:=by obtain⟨m,rfl,i,j⟩:=h;refine⟨by simp,λx d=> ?_⟩;rw[ofEvent_cell0]at d;simp only[qy,dm]at d;subst d;refine⟨λ⟨b,f,g⟩=> ?_,aW j l⟩;cases f;have:=k _ g;omega
def Kp.step{l:Ren}{d:Nat->Prop}{B:Nat}{gs:Array aw}{q:Nat->Nat}{t:Trace}{g:aw}{w:ai}(h:Kp P c l d B gs q t g w)(A:g.status=.running){g':aw}{w':ai}{m:Array Event}{a:Ren}(e:Ext P l a)(u:Sub a)(j:bS P c.sig a w' w')(z:∀b,a b b->l b b\/w.heap.size<=b)(i:w.heap.size<=w'.heap.size)(k:∀e∈m,wX c.sig a e\/MK c w.heap.size e)(n:bG)(pos:String)(f:aw->aw)(y:∀o,o.status=.running\/o.status=.finished->f o=o):Kp P c a d w'.heap.size ((gs.map f).setIfInBounds 0 g') q (t++bZ 0 n pos m) g' w':=by
 have s:∀b,a b b->¬d b:=λb v r=>by rcases z b v with p|p;exact h.Mn b p r;have:=h.co.L6 b r;have:=h.le;omega
 exact⟨u,j,s,av _,h.co.I6 (be h.le i) (λe x=>(k e x).elim (Xw u j s h.old) (Wb h.old i)) n pos f y,by rw[aK (by simpa using h.co.pos)],h.old⟩
def pB(P:aO)(g a:aw)(w:ai)(o:aw)(b:o.status=.running\/o.status=.finished):woken P g a w o=o:=by unfold Go.Conc.woken;split;exact again_running _ b;rfl
def CY.step{g:aw}{w:ai}(z:g.status=.running)(s:∀(x:Tape)(d:Nat)(j:Ren),Sub j->bS P c.sig j w w->(∀m∈g.frame::g.callers,xV c j m)->∃g' w' l a,stepG P ar g (cL w x d)=.go g' w' l/\Ext P j a/\Sub a/\bS P c.sig a w' w'/\(∀b,a b b->j b b\/w.heap.size<=b)/\w.heap.size<=w'.heap.size/\(∀e∈l,wX c.sig a e\/MK c w.heap.size e)/\(∀m∈g'.frame::g'.callers,xV c a m)/\CY P c Z g' w'):CY P c Z g w:=by
 intro x d j gs sl q t f B h D;refine jZ h.g0 z h.co λn A I k C J y hC=>.inr ?_
 obtain⟨g',w',l,a,r,e,H,v,G,u,o,p,F⟩:=s x C j h.sub h.hp D;have E:Kp P c j f B n A I g w:=⟨h.sub,h.hp,h.Mn,h.le,hC,y,h.old⟩;exact⟨_,_,runT_crowd_go (P:=P) (sl:=k) (i:=0) y r,F w'.tape w'.drawn a _ k A _ f _ (E.step z e H v G u o _ _ _ (pB P g g' w')) p⟩
def CY.ctl{g g':aw}{w:ai}(l:g.status=.running)(e:∀w,stepG P ar g w=.go g' w #[])(j:∀a,bS P c.sig a w w->(∀b∈g.frame::g.callers,xV c a b)->∀b∈g'.frame::g'.callers,xV c a b)(k:CY P c Z g' w):CY P c Z g w:=.step l λi d a s f m=>⟨g',cL w i d,#[],a,e _,Ext.refl f.ok,s,f.rt _ _ _ _,λ_ h=>.inl h,av _,by simp,j a f m,k.rt i d⟩
def MU{dc:fg}(hc:dc.Fits P)(u:dc.sig=c.sig){k kR:List Item}{H:aw->ai->Prop}{cs:List aY}(K:∀(D g':aw)(w':ai)(j:Ren),H D w'->GR dc k kR [eX] cs j D g'->Sub j->bS P c.sig j w' w'->(∀C∈cs,xV c j C)->CY P c Z g' w'/\∀C∈g'.frame::g'.callers,xV c j C):∀{D:aw}{w:ai},LT P k H D w->∀(g:aw)(n:Tape)(d:Nat)(y:Ren)(gs:Array aw)(sl:Option (Nat×Nat))(q:Nat->Nat)(t:Trace)(f:Nat->Prop)(B:Nat),Kp P c y f B gs q t g w->GR dc k kR [eX] cs y D g->(∀C∈cs,xV c y C)->Ends P Z (crowd gs (cL w n d) sl) t:=by
 intro D w W
 induction W with
 |stop hH=>intro g n d y gs sl q t f B h J Y;obtain⟨h1,O⟩:=K _ _ _ _ hH J h.sub h.hp Y;exact h1 n d y gs sl q t f B h O|step gsL o esL hs X VL ih=>
  rename_i D w;intro g n d y gs sl q t f B h J Y;have A:g.status=.running:=by rw[J.r]
  refine jZ h.g0 A h.co λN q' t' I p yh h0 hC=>.inr ?_
  have G:bS P c.sig y w ((cL w n d).at p):=h.hp.rt w.tape n w.drawn p;rw[<-u]at G;obtain⟨M,v,ev,j,U,e,T,m,z,Q⟩:=Bl hc hs X G J ar;rw[u]at m;have s':=h.sub.UA z rfl;have s:=xJ h.sub (L:=w) (R:=(cL w n d).at p) rfl m z;have E:v=cL (o n p) v.tape v.drawn:=by have O:=z.os;have h3:=z.output;have h4:=z.osL;have h5:=z.uj;have e4:(o n p).os=w.os:=h4;have e5:(o n p).output=w.output:=h5;have e2:v.os=w.os:=O;have e3:v.output=w.output:=h3;have e1:v.heap=(o n p).heap:=s;obtain⟨hp,tp1,dr,os,out⟩:=v;simp only[cL];simp only at e1 e2 e3;rw[e1,e2,e3,<-e4,<-e5]
  have VR:bS P c.sig j (o n p) (o n p):=⟨m.ok,λl r x=>by have:=m.obj l r x;rw[s]at this;exact this,m.kr,m.kr,λa x hx=>by obtain⟨g1,g2,g3,_⟩:=m.old a x hx;exact⟨g1,g2,g3,g3⟩⟩;have hh:Kp P c y f B N q' t' g w:=⟨h.sub,h.hp,h.Mn,h.le,hC,h0,h.old⟩;refine⟨_,_,runT_crowd_go (P:=P) (sl:=I) (i:=0) h0 U,?_⟩;have F:∀b,j b b->y b b\/w.heap.size<=b:=λb hb=>(z.new b b hb).imp id λx=>x.1
  have V:=hh.step (g':=M) (w':=o n p) A e s' VR F z.Bm (λe he=>.inl (by rw[<-u];exact Q e he)) g.frame.fn g.frame.place _ (pB P g M v);rw[E];exact ih n p M v.tape v.drawn j _ I q' _ f _ (by rw[<-E];exact V) T λC S=>(Y C S).mono e
end
end Rel
namespace Rel
open Go.Conc
def zu(P:aO)(c:fg)(d:ak->ai->Prop)(b:aY)(k:List Item)(f:List aY):Exit->Act->ai->Prop
 |.normal,a,w=>CY P c d (G (b.at a k) f) w|.exit h,a,w=>∃g,exitTo h k=ae g/\CY P c d (G (b.at a g) f) w
 |.ret,a,w=>∀e,CY P c d (G {b.at a e with mode:=.returning} f) w
 |_,_,_=>False
section
variable{P:aO} {c:fg} {Z:ak->ai->Prop}
def zu.push{b:aY}{x:Item}{k:List Item}{d:List aY}{e:Exit}{a:Act}{w:ai}(n:x.plain=ar)(f:e≠.normal)(h:zu P c Z b k d e a w):zu P c Z b (x::k) d e a w:=by
 cases e with|normal=>exact absurd rfl f|exit o=>obtain⟨i,m,g⟩:=h;exact⟨i,by cases x<;>simp_all[exitTo,Item.plain],g⟩|ret=>exact h|goto l=>exact h|panic j=>exact h|outgrown=>exact h
end
def dK(P:aO)(c:fg)(d:ak->ai->Prop)(i:bG)(x:Code)(Q:Exit->Act->ai->Prop)(a:Act)(w:ai):Prop:=∀(b:aY)(k:List Item)(g:List aY),b.fn=i->b.kind=.normal->nJ k=ar->(∀e f h,Q e f h->zu P c d b k g e f h)->CY P c d (G (b.at a (.code x::k)) g) w
def oP(P:aO)(c:fg)(d:ak->ai->Prop)(j:bG)(f:Array Oper)(l:List Nat)(Q:Exit->Act->ai->Prop)(a:Act)(w:ai):Prop:=∀(b:aY)(k:List Item)(h:List aY),b.fn=j->b.kind=.normal->nJ k=ar->(∀e g i,Q e g i->zu P c d b k h e g i)->CY P c d (G (b.at a (.inRegion f l::k)) h) w
section
variable{P:aO} {c:fg} {Z:ak->ai->Prop} {Y:bG} {Q X:Exit->Act->ai->Prop} {a:Act} {w:ai}
def Sd{g:Ren}{b:aY}{x y:List Item}{f:List aY}(h:∀d∈(b.at a x)::f,xV c g d):∀d∈(b.at a y)::f,xV c g d:=by intro d e;rcases b6.1 e with rfl|i;exact h (b.at a x) (by simp);exact h d (by simp[i])
def CY.move{b:aY}{x y:List Item}{d:List aY}(e:∀w,stepG P ar (G (b.at a x) d) w=.go (G (b.at a y) d) w #[])(k:CY P c Z (G (b.at a y) d) w):CY P c Z (G (b.at a x) d) w:=.ctl rfl e (λ_ _ h=>Sd h) k
def rR{x:Code}(h:dK P c Z Y x Q a w)(m:∀e a w,Q e a w->X e a w):dK P c Z Y x X a w:=λb k g i l hp j=>h b k g i l hp λe d f q=>j e d f (m e d f q)
def ig(h:Q .normal a w):dK P c Z Y .skip Q a w:=λ_ _ _ _ _ _ b=>.move (λ_=>stepG_skip) (b _ _ _ h)
def jc(h:Q .ret a w):dK P c Z Y .ret Q a w:=λb k j _ _ _ i=>.ctl rfl (λ_=>stepG_ret') (λ_ _ f g d=>by rcases b6.1 d with rfl|e;exact f (b.at a (.code .ret::k)) (by simp[G]);exact f g (by simp[G]at e|-;exact .inr e)) (i _ _ _ h _)
def zL{e:Nat}(h:Q (.exit e) a w):dK P c Z Y (.exit e) Q a w:=λb k i _ _ _ f=>by obtain⟨j,d,g⟩:=f _ _ _ h;exact .move (λ_=>stepG_exit d) g
def bg{x y:Code}(h:dK P c Z Y x (Exit.then (λf m=>dK P c Z Y y Q f m) Q) a w):dK P c Z Y (.seq x y) Q a w:=by
 intro b k g i j hp d;refine .move (λ_=>stepG_seq) (h b (.code y::k) g i j rfl λe f m q=> ?_);cases e with|normal=>exact q b k g i j hp d|exit o=>exact(d _ _ _ q).push rfl (by simp)|ret=>exact(d _ _ _ q).push (x:=.code y) rfl (by simp)|goto l=>exact d _ _ _ q|panic n=>exact d _ _ _ q|outgrown=>exact d _ _ _ q
def dE{o:ca}{x y:Code}{t:Bool}(f:a.eval o=.bool t)(h:dK P c Z Y (if t then x else y) Q a w):dK P c Z Y (.cond o x y) Q a w:=λb k d e g hp i=>.move (λ_=>stepG_cond f) (h b k d e g hp i)
def nF{g:Nat}{x:Code}(h:dK P c Z Y x (Exit.inBlock g Q) a w):dK P c Z Y (.block g x) Q a w:=by
 intro b k n o r hp f;refine .move (λ_=>stepG_block) (h b (.inBlock g::k) n o r rfl λe t v q=> ?_);cases e with
 |normal=>exact .move (λ_=>stepG_inBlock) (f _ _ _ q)|exit i=>
  by_cases d:i=g;simp only[Exit.inBlock,d,if_true]at q;exact⟨k,by simp[exitTo,d],f _ _ _ q⟩;simp only[Exit.inBlock,d,if_false]at q;obtain⟨s,m,p⟩:=f _ _ _ q;have:(g==i)=au:=by simp;exact λh=>d h.symm
  exact⟨s,by simp[exitTo,this,m],p⟩
 |ret=>exact λj=>f _ _ _ q j|goto l=>exact f _ _ _ q|panic u=>exact f _ _ _ q|outgrown=>exact f _ _ _ q
def zM{x:Code}(I:Nat->Act->ai->Prop)(n:Nat)(p:I n a w)(round:∀n a w,I n a w->dK P c Z Y x (Exit.then (λg m=>∃f,f<n/\I f g m) Q) a w):dK P c Z Y (.loop x) Q a w:=by
 intro b k o s t hp d;have j:∀n a w,I n a w->CY P c Z (G (b.at a (.code x::.inLoop x::k)) o) w:=by
  intro n
  induction n using ly with
  |_ n u=>
   intro a w r;refine round n a w r b (.inLoop x::k) o s t rfl λe g m q=> ?_
   cases e with|normal=>obtain⟨f,i,h⟩:=q;exact .move (λ_=>stepG_inLoop) (u f i g m h)|exit y=>exact(d _ _ _ q).push rfl (by simp)|ret=>exact(d _ _ _ q).push (x:=.inLoop x) rfl (by simp)|goto l=>exact d _ _ _ q|panic v=>exact d _ _ _ q|outgrown=>exact d _ _ _ q
 exact .move (λ_=>stepG_loop) (j n a w p)
def rS{j:Nat}{d:Array Oper}(h:oP P c Z Y d (a6 d.size) Q a w):dK P c Z Y (.region j d au) Q a w:=λb k e f i hp g=>.move (λ_=>stepG_region) (h b k e f i hp g)
def aP{P:aO}{c:fg}{Z:ak->ai->Prop}{Y:bG}{Q:Exit->Act->ai->Prop}{a:Act}{w:ai}{e:Nat}{b:Array Oper}{l:List Nat}(h:oP P c Z Y b l Q a w)(d:a6 b.size=l:=by simp only[List.size_toArray,ay,aC,Nat.reduceAdd,aZ,a6,List.range.loop];rfl):dK P c Z Y (.region e b au) Q a w:=by subst d;exact rS h
def bR{b:Array Oper}(h:Q .normal a w):oP P c Z Y b [] Q a w:=λ_ _ _ _ _ _ d=>.move (λ_=>stepG_region_end) (d _ _ _ h)
def Uk{c:fg}{f:Ren}(h:qc c f a.tmps a.tmps){v:ak}(d:Option Tmp)(b:bh c.sig f v v\/∃t,d=ae t/\t∈c.bad/\jG c (c.kc t) v):qc c f (a.put d v).tmps (a.put d v).tmps:=by
 unfold Act.put;cases d with
 |none=>exact h|some d=>rcases b with b|⟨t,e,i,g⟩;exact h.set b;cases e;exact h.put (.inr ⟨i,rfl,g⟩)
def put_defers(a:Act)(d:Option Tmp)(v:ak):(a.put d v).defers=a.defers:=by unfold Act.put;cases d<;>rfl
def wa{i:Ren}{b:aY}{x y:List Item}{j:List aY}(h:∀e∈(b.at a x)::j,xV c i e){v:ak}(d:Option Tmp)(l:bh c.sig i v v\/∃t,d=ae t/\t∈c.bd b.fn/\jG c (c.kd b.fn t) v):∀e∈(b.at (a.put d v) y)::j,xV c i e:=by intro e g;rcases b6.1 g with rfl|k;have f:=h (b.at a x) (by simp);exact⟨Uk f.1 d l,f.2.1,by show(a.put d v).defers=[];rw[put_defers];exact f.2.2.1,rfl⟩;exact h e (by simp[k])
def Eo{d:Array Oper}{i:Nat}{e:List Nat}{o:Oper}(m:d[i]? =ae o)(p:bj o (yielded d a.tmps)=au)(h:oP P c Z Y d e Q (a.put o.dst undef) w):oP P c Z Y d (i::e) Q a w:=λb k f g l hp j=>.ctl rfl (λ_=>stepG_unwanted m p) (λq _ n=>wa n _ (.inl (.tuple rfl (by simp)))) (h b k f g l hp j)
def vV{b:Ren}(h:qc c b a.tmps a.tmps):EvB c b a.eval a.eval:=⟨λ_=>⟨rfl,rfl⟩,λt _=>h.aaM t⟩
def rV{d:Ren}(h:qc c d a.tmps a.tmps):l9 c d a.eval a.eval:=by
 intro o b;cases o with
 |tmp t=>
  have b:c.bad.contains t=au:=by simpa[ed]using b
  exact h.getD (by simpa using b)
 |const v=>exact tX 4 v b d|global g=>cases b|func f=>exact .func (.func b) rfl (by simp) rfl (by simp)
def fG(W:c.Fits P){g:Array Oper}{i:Nat}{f:List Nat}{o:Oper}(X:g[i]? =ae o)(hw:bj o (yielded g a.tmps)=ar)(E:jL (c.at Y) o=ar){v:ak}{w':ai}(htp:w'.tape=w.tape/\w'.drawn=w.drawn)(J:∀j d,(execOp a.eval o).run P (cL w j d)=.ok (.value v) (cL w' j d))(h:oP P c Z Y g f Q (a.put o.dst v) w'):oP P c Z Y g (i::f) Q a w:=by
 intro b k L q I hp hq;refine .step rfl λj d π s u K=> ?_
 have F:=(K (b.at a (.inRegion g (i::f)::k)) (by simp[G])).1;have n:bS P c.sig π (cL w j d) (cL w j d):=u.aby j d;rw[show(b.at a (.inRegion g (i::f)::k)).fn=Y from q]at F;have l:=(TC (W.at Y) u.ok (rV (c:=c.at Y) F) (vV (c:=c.at Y) F) o E).run n #[] #[];have r:(execOp a.eval o).runT P (cL w j d) #[]=(.ok (.value v) (cL w' j d),(execOp a.eval o).events P (cL w j d) #[]):=by rw[Sem.runT_eq,J]
 rw[r]at l;obtain⟨_,_,z⟩:=l;obtain⟨y,v',R',ev,e,A,m,H,B,_,C⟩:=z λ_ _ _=>rfl
 rw[r,iK]at A;simp only[Prod.mk.injEq,Result.ok.injEq]at A;obtain⟨⟨U,V⟩,z⟩:=A;subst U;subst V;have s':=s.UA B rfl;have p:bh c.sig y v v\/∃t,o.dst=ae t/\t∈c.bd b.fn/\jG c (c.kd b.fn t) v:=by
  rcases m with m|⟨v2,M,N,_,O,R,S⟩;cases m with|value p=>exact .inl p
  cases N;exact .inr ⟨M,O,by rw[q];exact R,by rw[q];exact S⟩
 refine⟨_,_,_,y,stepG_value X hw (by rw[I];decide) (J j d),e,s',H,λb q=>(B.new b b q).imp id λx=>x.1,B.size,λx hx=>.inl (C x ?_),wa (λT D=>(K T D).mono e) _ p,(h b k L q I hp hq).rt j d⟩;rw[<-z];exact iT _ _ x hx
def gh{g:Array Oper}{i:Nat}{f:List Nat}{o:Oper}(z:g[i]? =ae o)(D:bj o (yielded g a.tmps)=ar){v:ak}(B:∀j d,(execOp a.eval o).run P (cL w j d)=.ok (.value v) (cL w j d))(p:∀j d,∀e∈(execOp a.eval o).events P (cL w j d) #[],MK c w.heap.size e)(C:(∀m,qc (c.at Y) m a.tmps a.tmps->bh c.sig m v v)\/∃t,o.dst=ae t/\t∈c.bd Y/\jG c (c.kd Y t) v)(h:oP P c Z Y g f Q (a.put o.dst v) w):oP P c Z Y g (i::f) Q a w:=by
 intro b k x n r hp A;refine .step rfl λj d m s l q=>⟨_,_,_,m,stepG_value z D (by rw[r];decide) (B j d),Ext.refl l.ok,s,l.rt _ _ _ _,λ_ h=>.inl h,av _,λe y=>.inr (p j d e (iT _ _ e y)),?_,(h b k x n r hp A).rt j d⟩
 have u:=(q (b.at a (.inRegion g (i::f)::k)) (by simp[G])).1;rw[show(b.at a (.inRegion g (i::f)::k)).fn=Y from n]at u;exact wa q _ (C.imp (λh=>h m u) λh=>by rw[n];exact h)
def Im{x y:aY}(a:x.fn=y.fn)(b:x.tmps=y.tmps)(c:x.todo=y.todo)(d:x.defers=y.defers)(e:x.mode=y.mode)(f:x.kind=y.kind)(g:x.roundOf=y.roundOf):x=y:=by obtain⟨_,_,_,_,_,_,_⟩:=x;obtain⟨_,_,_,_,_,_,_⟩:=y;simp only at a b c d e f g;subst a;subst b;subst c;subst d;subst e;subst f;subst g;rfl
def ye(hc:c.Fits P){x:Code}(R:dj (c.at Y) x=ar)(hQ:∀e a w,Q e a w->(e=.normal\/e=.ret)/\a.defers=[])(L:∀e a w M d,Q e a (cL w M d)->Q e a w)(h:∀M d,x.wp P Q a (cL w M d)):dK P c Z Y x Q a w:=by
 intro b k cs hb E hp hq M d π gs sl q t F B hh hf;have g:=hf (b.at a (.code x::k)) (by simp[G]);have s:=g.1;rw[show(b.at a (.code x::k)).fn=Y from hb]at s;have hT:=Dh (c:=c.at Y) (its:=[.code x]) (Q:=Q) (hc.at Y) E hh.sub hh.hp s g.2.2.1 (.cons (.code R) .nil) (λe a w h=>(hQ e a w h).1) λt=>h t 0 b [sent] [eX]
 refine MU (c:=c) (dc:=c.at Y) (k:=[sent]) (kR:=k) (cs:=cs) (hc.at Y) rfl ?_ hT _ M d π gs sl q t F B hh ⟨rfl,rfl,.one (zY E s g.2.2.1 (.cons (.code R) .nil) (II hp)) rfl⟩ λH g=>hf H (by simp[G];exact .inr g)
 intro X f w' j hH hg S Zd hv;obtain⟨h1,u,t',d',C⟩:=hH;obtain⟨e1,e2,z⟩:=hg;have p:qa (c.at Y) [sent] k j X.frame f.frame/\f.callers=cs:=by
  have J:X.callers=[eX]:=h1;rw[J]at z;generalize hL:X.frame::[eX]=l at z;generalize hR:f.frame::f.callers=m at z;cases z with|one p _=>cases hL;cases hR;exact⟨p,rfl⟩|cons _ p hr=>cases hL;have:=hr.lt;simp at this
 obtain⟨hF,K⟩:=p;have hF':=hF;obtain⟨N,n,W,r,O,f6,f7,f8,v,_,_⟩:=hF';rcases C with⟨D,i⟩|⟨todo,D,i⟩;have i:=L _ _ _ _ _ i;have o:=(hQ _ _ _ i).2;rw[D]at N n W r O f7 v;have et:f.frame.todo=k:=by
  have:G6 (c.at Y) [sent] k j [sent] f.frame.todo:=W;generalize f.frame.todo=y at this;generalize R:[sent]=x at this;cases this with|nil=>rfl|cons hi hr=>cases R;cases hi;rename_i I;cases I
 have U:f=G (b.at u k) cs:=by
  rw[e2,K];show jd f.frame cs=_;congr 1;have T:f.frame.defers=[]:=by have r:dh (lR j) u.defers f.frame.defers:=r;rw[o]at r;generalize f.frame.defers=y at r;cases r;rfl
  have V:f.frame.roundOf=ah:=by have v:gq j ah f.frame.roundOf:=v;generalize f.frame.roundOf=y at v;cases v;rfl
  have A:u.tmps=f.frame.tmps:=qc.eq S n;exact Im N A.symm et (T.trans o.symm) O (f8.trans E.symm) V
 rw[U];refine⟨hq _ _ _ i,λH g=> ?_⟩;rcases b6.1 g with rfl|h';exact⟨by have A:u.tmps=f.frame.tmps:=qc.eq S n;have n:qc (c.at Y) j u.tmps f.frame.tmps:=n;rw[<-A]at n;rw[<-hb]at n;exact n,E,o,rfl⟩;exact hv H h';have i:=L _ _ _ _ _ i;have o:=(hQ _ _ _ i).2;rw[D]at N n W r O f7 v;have U:f=G {b.at u f.frame.todo with mode:=.returning} cs:=by
  rw[e2,K];show jd f.frame cs=_;congr 1;have T:f.frame.defers=[]:=by have r:dh (lR j) u.defers f.frame.defers:=r;rw[o]at r;generalize f.frame.defers=y at r;cases r;rfl
  have V:f.frame.roundOf=ah:=by have v:gq j ah f.frame.roundOf:=v;generalize f.frame.roundOf=y at v;cases v;rfl
  have A:u.tmps=f.frame.tmps:=qc.eq S n;exact Im N A.symm rfl (T.trans o.symm) O (f8.trans E.symm) V
 rw[U];refine⟨hq _ _ _ i _,λH g=> ?_⟩;rcases b6.1 g with rfl|h';exact⟨by have A:u.tmps=f.frame.tmps:=qc.eq S n;have n:qc (c.at Y) j u.tmps f.frame.tmps:=n;rw[<-A]at n;rw[<-hb]at n;exact n,E,o,rfl⟩;exact hv H h'
end
section
variable{P:aO} {c:fg} {Z:ak->ai->Prop} {Y:bG} {Q:Exit->Act->ai->Prop} {a:Act} {w:ai}
def wK{p:Ren}(s:Sub p){w:ai}(M:bS P c.sig p w w){F:Func}(O:F.results.toList.all (oc c.bad)=ar){a:Array ak}(S:qc c p a a){v:ak}{l:Tape}{h:Nat}(J:(results F a).run P (cL w l h)=.ok v (cL w l h))(n:Tape)(d:Nat):∃g r,(results F a).runT P (cL w n d) #[]=(.ok v (cL w n d),r)/\Ext P p g/\Sub g/\bS P c.sig g w w/\(∀b,g b b->p b b)/\bh c.sig g v v/\∀e∈r,wX c.sig g e:=by
 have k:=(si M.ok F O S).run (M.rt l n h d) #[] #[];have o:(results F a).runT P (cL w l h) #[]=(.ok v (cL w l h),(results F a).events P (cL w l h) #[]):=by rw[Sem.runT_eq,J]
 rw[o]at k;obtain⟨_,_,D⟩:=k;obtain⟨g,V,j,r,e,y,K,f,m,A,B⟩:=D λi q X=>by omega
 have N:=s.UA m rfl;have C:v=V:=K.eq N;subst C;have I:j.heap=w.heap:=xJ s (L:=cL w l h) (R:=cL w n d) (L':=cL w l h) rfl f m;have z:j=cL w n d:=by
  have t:j.tape=n:=m.tape;have u:j.os=w.os:=m.os;have E:j.output=w.output:=m.output;have G:j.drawn=d:=by change j.drawn+h=d+h at A;omega
  clear m f y D o J;obtain⟨hp,U,W,Y,T⟩:=j;simp only at I t u E G;subst I;subst t;subst u;subst E;subst G;rfl
 subst z;rw[iK]at y;exact⟨g,r,y,e,N,⟨f.ok,f.obj,f.kr,f.mR,f.old⟩,λb H=>(m.new b b H).elim id λx=>by have Q:=(f.lt H).1;have t:w.heap.size<=b:=x.1;have u:b<w.heap.size:=Q;omega,K,B⟩
def Hv{a x:aY}{g:List aY}{v:ak}{t':Tape}{d':Nat}(j:∀F,P.funcs[a.fn]? =ae F->F.results.toList.all (oc (c.bd a.fn))=ar)(E:a.leaving P (cL w t' d') (.returned v))(i:∀m,xV c m x->bh c.sig m v v->xV c m (x.finish v))(k:CY P c Z (G (x.finish v) g) w):CY P c Z (G a (x::g)) w:=by
 obtain⟨hm,B,D,F,r,I⟩:=E;refine .step rfl λh d m s L o=> ?_
 have K:=(o a (by simp[G])).1;obtain⟨l,u,z,e,M,q,H,p,n⟩:=wK (c:=c.at a.fn) s L (j F r) K I h d;have J:stepG P ar (jd a (x::g)) (cL w h d)=.go (jd (x.finish v) g) (cL w h d) (seen P a.fn u++#[]):=by
  rw[fS ar a _ _ (by rw[hm];simp),kW ar a _ _ B hm,r];simp only[phase,z];have:doReturn P ar a (x::g) ah v (cL w h d)=.go (jd (x.finish v) g) (cL w h d):=by unfold doReturn;simp only[D]
  rw[this];rfl
 refine⟨_,_,_,l,J,e,M,q.rt _ _ _ _,λb A=>.inl (H b A),av _,λx t=>.inl (n x ?_),?_,k.rt h d⟩;rw[Array.append_empty]at t;exact iT _ _ x t;intro f C;rcases b6.1 C with rfl|y;exact i l ((o x (by simp[G])).mono e) p;exact(o f (by simp[G];exact .inr (.inr y))).mono e
def zV{b:aY}{e:Array Oper}{i:Nat}{d:List Nat}{k:List Item}{v:ak}(f:Ren)(h:xV c f (b.at a (.inRegion e (i::d)::k)))(g:bh c.sig f v v):xV c f ((b.at a (.inRegion e (i::d)::k)).finish v):=by rw[jr];exact⟨Uk h.1 _ (.inl g),h.2.1,by show(a.put _ v).defers=[];rw[put_defers];exact h.2.2.1,rfl⟩
def Hu{b:aY}{k:List Item}{y:List aY}{g:Array Oper}{i:Nat}{e:List Nat}{o:Oper}{f:bG}{args:Array ca}{t:Array az}{F:Func}{x:Code}(J:g[i]? =ae o)(L:bj o (yielded g a.tmps)=ar)(I:b.kind=.normal)(p:o.op=.call {callee:=.value (.func f),args,argTypes:=t})(z:P.funcs[f]? =ae F)(l:(F.name== "runtime.NumGoroutine")=au)(D:F.body=ae x)(m:∀j u,args[j]? =ae u->sC (c.at b.fn) f j u=ar\/(j∈c.bd f/\jG c (c.kd f j) (a.eval u)))(h:CY P c Z (G (eG P f (args.map a.eval) .normal) (b.at a (.inRegion g (i::e)::k)::y)) w):CY P c Z (G (b.at a (.inRegion g (i::e)::k)) y) w:=by
 have n:F.body.isNone=au:=by rw[D];rfl
 refine .ctl rfl (λw=> ?_) (λO M s E A=> ?_) h;rw[stepG_enter J L (by rw[I];decide) (run_call_body p z l n)];congr 1;unfold listed;rw[events_call_body p z l n];exact seen_none P _;have C:=(s (b.at a (.inRegion g (i::e)::k)) (by simp[G])).1;rcases b6.1 A with rfl|H;refine⟨?_,rfl,rfl,rfl⟩;rw[show(G (eG P f (args.map a.eval) .normal) (b.at a (.inRegion g (i::e)::k)::y)).frame=eG P f (args.map a.eval) .normal from rfl,enter_at _ z D];refine⟨rfl,λj u v K s=> ?_⟩;have d:(args.map a.eval++dF (F.ntmps-(args.map a.eval).size) undef)[j]? =ae u:=K;have q:(args.map a.eval++dF (F.ntmps-(args.map a.eval).size) undef)[j]? =ae v:=s;rw[d]at q;obtain rfl:=aX q;rw[Array.getElem?_append]at d;split at d;rw[gj]at d;obtain⟨N,B,rfl⟩:=aF.1 d;rcases m j N B with r|r;exact EvB.arg (rV (c:=c.at b.fn) C) (vV (c:=c.at b.fn) C) r;exact .inr ⟨r.1,rfl,r.2⟩;rw[Array.getElem?_replicate]at d;split at d;cases d;exact .inl (.tuple rfl (by simp));cases d;exact s E H
def vp{f g:List Item}{i:Ren}{x y:aY}{b a m:List aY}(h:rK c f g b a i (x::b) (y::m)):qa c f g i x y/\m=a/\x.roundOf=ah:=by
 generalize hL:x::b=l at h;generalize j:y::m=r at h;cases h with|one d e=>cases hL;cases j;exact⟨d,rfl,e⟩|cons _ d k=>cases hL;have:=k.lt;simp at this
def ui(O:c.Fits P){m:Array Oper}{i:Nat}{g:List Nat}{o:Oper}{f:bG}{args:Array ca}{T:Array az}{R:Ending->ai->Prop}(ho:m[i]? =ae o)(hw:bj o (yielded m a.tmps)=ar)(hop:o.op=.call {callee:=.value (.func f),args,argTypes:=T})(hf:c.fn f=ar)(p:kx (c.at Y) f 0 args.toList=ar)(y:∀N d,Calls P f (args.map a.eval) (cL w N d) R)(hR:∀e w,R e w->∃v,e=.returned v)(hrt:∀v w N d,R (.returned v) (cL w N d)->R (.returned v) w)(D:∀v S,R (.returned v) S->oP P c Z Y m g Q (a.put o.dst v) S):oP P c Z Y m (i::g) Q a w:=by
 intro b k cs V hk hp hq;obtain⟨F,x,hF,hx,_,C,L⟩:=O.fn f hf;have r:∀(l:List ca)(E:Nat),kx (c.at Y) f E l=ar->∀(j:Nat) u,l[j]? =ae u->sC (c.at Y) f (E+j) u=ar:=by
  intro l
  induction l with
  |nil=>intro _ _ j u A;simp at A|cons x l ih=>
   intro E h j u A;simp only[kx,aG]at h;cases j with|zero=>simp only[List.getElem?_cons_zero,dm]at A;subst A;exact h.1|succ j=>have:=ih (E+1) h.2 j u (by simpa using A);rwa[show E+1+j=E+(j+1)by omega]at this
 refine Hu ho hw hk hop hF (by simpa using C) hx (λj u A=>.inl (by rw[V];have:=r args.toList 0 p j u (by simpa using A);rwa[aZ]at this)) ?_
 intro N d π gs sl q t H B hh K;have ht:=(K (b.at a (.inRegion m (i::g)::k)) (by simp[G])).1;rw[show(b.at a (.inRegion m (i::g)::k)).fn=Y from V]at ht;have I:=EvB.Xo (rV (c:=c.at Y) ht) (vV (c:=c.at Y) ht) p;have ha:nA c f π (args.map a.eval) (args.map a.eval):=⟨I.size,I.at_⟩;refine MU (c:=c) (dc:=c.at f) (k:=[]) (kR:=[]) (cs:=b.at a (.inRegion m (i::g)::k)::cs) (O.at f) rfl ?_ (qx (c:=c) O hf hh.sub hh.hp ha hR y) _ N d π gs sl q t H B hh ⟨rfl,rfl,.one (qa.enter O hf ha) rfl⟩ λU s=>K U (by simp[G]at s|-;exact .inr s)
 intro gL g' S Kl hH hg s' Zd hv;obtain⟨h1,z,v,t',d',hr,hl⟩:=hH;obtain⟨e1,e2,M⟩:=hg;rw[h1]at M;obtain⟨n,W,hro⟩:=vp M;have X:=n.eq s';rw[<-X]at n e2;rw[e2,W];have J:(b.at a (.inRegion m (i::g)::k)).finish v=b.at (a.put o.dst v) (.inRegion m g::k):=by rw[jr,ho];rfl
 refine⟨Hv (λF' n=>by rw[z,hF]at n;cases n;rw[z];exact L) hl zV (by rw[J];exact D v S (hrt _ _ _ _ hr) b k cs V hk hp hq),λU s=> ?_⟩;rcases b6.1 s with rfl|h';exact⟨by rw[z];exact n.tmps,n.kind,hl.2.1,hro⟩;exact hv U h'
def qI(P:aO)(F:Func)(R:ak->ai->Prop):Exit->Act->ai->Prop
 |.normal,a,w|.ret,a,w=>∃v,(results F a.tmps).run P w=.ok v w/\R v w
 |_,_,_=>False
def oJ(P:aO)(c:fg)(Z:ak->ai->Prop)(f:bG)(args:Array ak)(w:ai)(R:ak->ai->Prop):Prop:=∃F x,P.funcs[f]? =ae F/\(F.name== "runtime.NumGoroutine")=au/\F.results.toList.all (oc (c.bd f))=ar/\F.body=ae x/\dK P c Z f x (qI P F R) {tmps:=args++dF (F.ntmps-args.size) undef,defers:=[]} w
def l0{m:Array Oper}{i:Nat}{g:List Nat}{o:Oper}{f:bG}{args:Array ca}{K:Array az}{R:ak->ai->Prop}(V:m[i]? =ae o)(hw:bj o (yielded m a.tmps)=ar)(N:o.op=.call {callee:=.value (.func f),args,argTypes:=K})(s:∀j u,args[j]? =ae u->sC (c.at Y) f j u=ar\/(j∈c.bd f/\jG c (c.kd f j) (a.eval u)))(z:oJ P c Z f (args.map a.eval) w R)(C:∀v p,R v p->oP P c Z Y m g Q (a.put o.dst v) p):oP P c Z Y m (i::g) Q a w:=by
 intro b k O T U hp hq;obtain⟨F,x,J,A,I,X,y⟩:=z;refine Hu V hw U N J A X (by rw[T];exact s) ?_;rw[enter_at _ J X];have E:∀v,(b.at a (.inRegion m (i::g)::k)).finish v=b.at (a.put o.dst v) (.inRegion m g::k):=λv=>by rw[jr,V];rfl
 have n:∀(r:Act)(p:ai)(h:List Item),(∃v,(results F r.tmps).run P p=.ok v p/\R v p)->CY P c Z (G {(base f).at r h with mode:=.returning} (b.at a (.inRegion m (i::g)::k)::O)) p:=by rintro r p h ⟨v,hr,hR⟩;intro tp d π gs sl q t D B hh H;have hd:r.defers=[]:=(H {(base f).at r h with mode:=.returning} (by simp[G])).2.2.1;exact Hv (λF' L=>by have:P.funcs[f]? =ae F':=L;rw[J]at this;cases this;exact I) (t':=p.tape) (d':=p.drawn) ⟨rfl,hd,rfl,F,J,hr⟩ zV (by rw[E];exact C v p hR b k O T U hp hq) tp d π gs sl q t D B hh H
 refine y (base f) [] _ rfl rfl rfl λe r p q=> ?_
 cases e with
 |normal=>refine .ctl rfl (λ_=>stepG_end) (λπ _ W fr M=> ?_) (n r p [] q);rcases b6.1 M with rfl|S;exact W ((base f).at r []) (by simp[G]);exact W fr (by simp[G]at S|-;exact .inr S)
 |ret=>exact λh=>n r p h q|exit id=>exact q.elim|goto l=>exact q.elim|panic ch=>exact q.elim|outgrown=>exact q.elim
end
end Rel
section
open Go.RowKit Go.ChangeShapes Go.WideShapes Go.ChangeAt Go.Deep
def gd(P:aO):Nat->az->Bool
 |0,_=>au|n+1,t=>match P.underlying t with|some (.int .i64)=>P.cellsOf t==1|some (.struct a)=>a.toList.all (λf=>gd P n f.type)&&(a6 (P.cellsOf t)).all λj=>a.toList.any λf=>decide (f.offset<=j)&&decide (j<f.offset+P.cellsOf f.type)|some (.array m e)=>gd P n e&&decide (P.cellsOf t=m*P.cellsOf e)&&decide (0<P.cellsOf e)|_=>au
def Q9(a:List ak):Prop:=∀c∈a,∃x:Int,c=.int .i64 x/\Fits x
def KR{x:Int}(h:(Lit.int .i64 x).wf=ar):Fits x:=by simp only[Lit.wf,IntKind.min,IntKind.max,IntKind.signed,IntKind.bits,aG,decide_eq_true_eq,if_true]at h;unfold Fits;omega
section
variable{H:Type} {Z:az×ak->H} {P:aO} {w:ai} {Y:Nat} {X:Nat->Bool} {W:Bool}
def xk:∀(n a:Nat)(t:az)(s:List ak)(y:DataW H×List MemPlace),gd P n t=ar->DataW.trod Z P w Y X W a t s=ae y->s.length=P.cellsOf t/\Q9 s
 |0,_,_,_,_,h,_=>by simp[gd]at h|n+1,a,t,s,y,h,ht=>by
  unfold gd at h;split at h;rename_i q;obtain⟨x,rfl,_,N⟩:=DataW.trod_int q ht;refine⟨by simpa using(beq_iff_eq.1 h).symm,λc o=> ?_⟩;rw[List.mem_singleton.1 o];exact⟨x,rfl,KR N⟩;rename_i O q;obtain⟨G,m,_,_,F,r,z⟩:=DataW.trod_struct q ht;simp only[aG,List.all_eq_true]at h;obtain⟨u,I⟩:=h;refine⟨F,λc o=> ?_⟩;obtain⟨j,C,d⟩:=dn.1 o;have g:=I j (by simp;omega);simp only[List.any_eq_true,aG,decide_eq_true_eq]at g;obtain⟨f,p,L,M⟩:=g;obtain⟨i,B,A⟩:=dn.1 p;have l:=z i f (by rw[<-A];simp at B;simp[aH B]);have b:i<G.length:=by rw[r];simpa using B
  rw[aq b]at l;obtain⟨_,v⟩:=xk n m f.type _ _ (u f p) l;refine v c ?_;rw[List.mem_iff_getElem?];refine⟨j-f.offset,?_⟩;rw[dS,if_pos (by omega),p6,show f.offset+(j-f.offset)=j from by omega,aq C,d];rename_i m e q;obtain⟨G,k,_,_,F,r,z⟩:=DataW.trod_array q ht;simp only[aG,decide_eq_true_eq]at h;obtain⟨⟨u,I⟩,g⟩:=h;refine⟨F,λc o=> ?_⟩;obtain⟨j,C,d⟩:=dn.1 o;have D:j<m*P.cellsOf e:=by omega
  have E:j / P.cellsOf e<m:=(Nat.div_lt_iff_lt_mul g).2 D;have l:=z (j / P.cellsOf e) E;have b:j / P.cellsOf e<G.length:=by omega
  rw[aq b]at l;obtain⟨_,v⟩:=xk n k e _ _ u l;refine v c ?_;rw[List.mem_iff_getElem?];have J:=Nat.div_add_mod j (P.cellsOf e);have K:=Nat.mod_lt j g;rw[Nat.mul_comm]at J;refine⟨j % P.cellsOf e,?_⟩;rw[dS,if_pos K,p6,J,aq C,d];cases h
def I3{t e:az}{v:ak}{d:DataW H}{p:List MemPlace}(n:Nat)(ht:P.underlying t=ae (.slice e))(hB:gd P n e=ar)(l:0<P.cellsOf e)(hv:∃A len f,v=.slice A len f)(h:DataW.Trod Z P w Y X W t v d p)(l6:∀x∈p,x.block<w.heap.size):∃A len f,v=.slice A len f/\f<=maxLen/\len<=f/\(∃g sp,d=.slice g sp/\g.length=len\/len=0)/\∃B:List Int,Reads w w.heap.size (P.cellsOf e) A len (B.map (aS .i64))/\∀x∈B,Fits x:=by
 obtain⟨A,len,f,rfl⟩:=hv;obtain⟨T,hf⟩:=h;rcases open_slice ht hf with⟨i,C⟩|⟨a,adl,S,m,k,D,Pl,i,hb,hl,hm,O,C,hi⟩;simp only[fc,List.cons.injEq,Value.slice.injEq,and_true]at i;obtain⟨rfl,rfl,rfl⟩:=i;exact⟨ah,0,0,rfl,by decide,av _,⟨[],[],bW rfl⟩,[],⟨by simp,λK=>absurd K (by omega)⟩,by simp⟩;simp only[fc,List.cons.injEq,Value.slice.injEq,and_true]at i;obtain⟨rfl,rfl,rfl⟩:=i;have hlm:len<=m:=by rw[O];split<;>omega
 simp only[Prod.mk.injEq]at C;obtain⟨rfl,rfl⟩:=C;refine⟨_,_,_,rfl,hm,hl,⟨_,_,bt ⟨rfl,by simp⟩⟩,?_⟩;have c:∀j,j<len*P.cellsOf e->∃x:Int,w.cell? (a.add j)=ae (.int .i64 x)/\Fits x:=by intro j V;have hjd:j / P.cellsOf e<len:=(Nat.div_lt_iff_lt_mul l).2 V;obtain⟨J,hc,Q⟩:=hi (j / P.cellsOf e) (by omega);obtain⟨_,G⟩:=xk n _ e _ _ hB Q;obtain⟨_,Sr,M⟩:=World.cells?_some hc;have h7:=Nat.mod_lt j l;have U:=M _ h7;rw[Go.Deep.add_add,Nat.mul_comm,Nat.div_add_mod]at U;obtain⟨x,C,E⟩:=G _ (aR (show j % P.cellsOf e<J.length by omega));exact⟨x,by rw[U,aq (by omega),C],E⟩
 have N:∃B:List Int,B.length=len*P.cellsOf e/\(∀j x,B[j]? =ae x->w.cell? (a.add j)=ae (.int .i64 x))/\∀x∈B,Fits x:=by
  generalize len*P.cellsOf e=q at c
  induction q with
  |zero=>exact⟨[],rfl,by simp,by simp⟩|succ q ih=>
   obtain⟨B,I,G,L⟩:=ih λj V=>c j (by omega)
   obtain⟨x,C,E⟩:=c q (by omega);refine⟨B++[x],by simp[I],?_,by simpa using λy R=>by rcases R with R|rfl;exact L y R;exact E⟩;intro j z F;rw[List.getElem?_append]at F;split at F;exact G j z F;have:j=q:=by have:=(bz.1 F).1;simp at this;omega
   subst this;simp[I]at F;rw[<-F];exact C
 obtain⟨B,I,G,L⟩:=N;refine⟨B,⟨by simp[I],λK=> ?_⟩,L⟩;obtain⟨x0,r,_⟩:=c 0 (Nat.mul_pos K l);obtain⟨b,o,s⟩:=a;have hs:s=ah:=by
  unfold b3 at r;split at r;cases s with|none=>rfl|some _=>simp[Addr.add]at r
  cases r
 subst hs;refine⟨b,o,rfl,?_,?_⟩;exact lp w ⟨b,o,ah⟩ (by simpa[Addr.add]using r);intro j u hu;rw[dx]at hu;obtain⟨x,C,rfl⟩:=aF.1 hu;have:=G j x C;rwa[Addr.add_lit]at this
def uM(i:laidOutB P=ar):∀{f:List az}{vs:List ak}{e:List (DataW H)}{a:List MemPlace}{W c:ai},(∀t∈f,P.readableRec t=ar/\t<P.types.size)->DataW.TrodAll Z P W 0 (λ_=>ar) ar f vs e a->Below W.heap.size W c->(∀x∈a,x.block<W.heap.size)->DataW.TrodAll Z P c 0 (λb=>decide (b<W.heap.size)) ar f vs e a|[],vs,e,a,W,c,_,h,_,_=>by obtain⟨rfl,rfl,rfl⟩:=trodAll_nil h;exact trodAll_mk0|t::f,vs,e,a,W,c,ht,h,hb,l6=>by obtain⟨v,n,d,j,p,q,rfl,rfl,rfl,k,l⟩:=trodAll_cons h;exact trodAll_cons_mk (Below.trod i (ht t (by simp)).1 (ht t (by simp)).2 k hb λx g=>l6 x (by simp[g])) (uM i (λu m=>ht u (by simp[m])) l hb λx g=>l6 x (by simp[g]))
def SM{f:Func}{s:ChangeSpec}{W l:ai}{args:Array ak}{g u:List (DataW H)}{b:List MemPlace}{r:az}(y:laidOutB P=ar)(k:∀t∈f.params.toList,P.readableRec t=ar/\t<P.types.size)(e:f.resultTypes=#[r])(j:P.underlying r=ae .bool)(a:s.vars=[])(i:s.fn H g={results:=[.lit (.bool ar)],args:=g})(n:DataW.Whole Z P f.params.toList s.vars au W args.toList g u b)(o:Below W.heap.size W l):s.post Z P f au ar au au W args (.bool ar) l:=by
 have d:=n;obtain⟨p,q,v,m,rfl,w,z⟩:=n;rw[a]at m;obtain⟨rfl,rfl⟩:=trodVars_none m;have h:∀x∈p++[],x.block<W.heap.size:=λx c=>d.lt x c
 refine⟨g,[],p++[],[],p,[],d,?_,?_,?_,?_,by simp⟩;rw[eM,i,e];exact trodAll_mk1 (shut_bool j ar);rw[eM,i];exact uM y k v o λx c=>h x (by simpa using c)
 rw[eM,i,a];exact rfl;exact World.keptBut_mono (λx c=>⟨c,by simp at c;exact bW (bt c)⟩) (o.frame (· ∈p++[]))
end
end
section
open Go.RowKit
def OJ(A M:Option Addr)(c V:Nat)(a d:List (List Int))(w:ai)(h:gn w w.heap.size 11 A a)(F:gn w w.heap.size 11 M d)(hx:a.length<=maxLen)(hy:d.length<=maxLen):Calls aj 34 #[.slice A a.length c,.slice M d.length V] w λe z=>e=.returned (.bool (iq a d))/\Below w.heap.size w z:=by
 have H:=af h;have S:=af F;have hx':(a.length:Int)<=9223372036854775807:=by unfold maxLen at hx;omega
 have hy':(d.length:Int)<=9223372036854775807:=by unfold maxLen at hy;omega
 have K:Hid (∀r∈a,r.length=11):=h.1;have L:Hid (∀r∈d,r.length=11):=F.1;clear h F;go_enter func34,ntmps34;by_cases hl:a.length=d.length;rotate_left
 ·have X:((a.length:Int) !=(d.length:Int))=ar:=by simp;omega
  have B:Hid (iq a d=au):=by simp only[Hid,iq,decide_eq_false_iff_not];rintro rfl;exact hl rfl
  go_wp2_with fail;go_ret;exact⟨dw B.out.symm,Below.refl _ _⟩
 have X:((a.length:Int) !=(d.length:Int))=au:=by simp;omega
 go_wp2_with fail;go_loopw [14] (λi z=>∃k:Nat,k<=a.length/\i=.int .i64 k/\(∀j,j<k->a[j]? =d[j]?)/\Below w.heap.size w z) (λi _=>a.length-(intOf i).toNat)
 case atStart=>exact⟨0,by omega,rfl,λj G=>by omega,Below.refl _ _⟩
 case round=>
  obtain⟨k,hk,rfl,s,N⟩:=hrel;have q:=af s;have f:=af N;clear s N;by_cases t:k<a.length
  ·have Z:(k:Int)<a.length:=by omega
   have P:(k:Int)<d.length:=by omega
   obtain⟨b,o,rfl,Y,D⟩:=(H.out.below f.out).at_ t;obtain⟨U,o',rfl,O,g⟩:=(S.out.below f.out).at_ (k:=k) (by omega);have p:Hid (a[k]? =d[k]?↔a[k]=d[k]'(by omega)):=by rw[aq t,aq (show k<d.length by omega)];exact⟨λh=>aX h,λh=>by rw[h]⟩
   have u:=K.out _ (aR t);have J:=L.out _ (aR (show k<d.length by omega));generalize a[k]=x at*;generalize d[k]'(by omega)=y at*;go_upto_region 6 with(fail)
   refine b9 (λz=>cD z wr.heap.size 50 (ints x)/\Below wr.heap.size wr z) ⟨jU wr 50 [0,0,0,0,0,0,0,0,0,0,0] _ u,eU wr 50 [0,0,0,0,0,0,0,0,0,0,0] _⟩ ?_;rintro R ⟨E,m⟩;have l:=af (f.out.trans (m.mono f.out.size));have c1:∀n:After R,row? n.w wr.heap.size 0 11=ae (ints x):=λn=>(E.after n.below).bw u
   have c2:∀n:After R,row? n.w U (o'+k*11) 11=ae (ints y):=λn=>(fT n.below (by have:=f.out.size;have:=m.size;omega) _ _).trans ((fT m (by have:=f.out.size;omega) _ _).trans g)
   have Q:∀W,(binOp .neq 50 (.agg (ints x)) (.agg (ints y))).run aj W=.ok (.bool (!decide (x=y))) W:=V8 x y u J;clear E m D g;by_cases v:x=y
   ·have C:(decide (x=y))=ar:=by simpa using v
    rw[C]at Q;have T:Hid (a[k]? =d[k]?):=p.out.2 v;clear v p C;refine bV (by kernel_rfl) (by kernel_rfl) ?_;repeat(go_big_quiet_step (fail))
    refine wpQuiet_nil ?_;rintro _ ⟨n,rfl⟩;go_wp2_with fail;go_roundw
    case rel=>refine⟨k+1,by omega,by go_num,λj G=> ?_,l.out.trans (n.below.mono l.out.size)⟩;by_cases I:j=k;rw[I];exact T.out;exact q.out j (by omega)
    simp[intOf];omega
   have C:(decide (x=y))=au:=by simpa using v
   rw[C]at Q;have B:Hid (iq a d=au):=by simp only[Hid,iq,decide_eq_false_iff_not];intro e;exact v (p.out.1 (by rw[e]))
   clear v p C;refine bV (by kernel_rfl) (by kernel_rfl) ?_;repeat(go_big_quiet_step (fail))
   refine wpQuiet_nil ?_;rintro _ ⟨n,rfl⟩;go_wp2_with fail;go_ret;exact⟨dw B.out.symm,l.out.trans (n.below.mono l.out.size)⟩
  have B:Hid (iq a d=ar):=by simp only[Hid,iq,decide_eq_true_eq];apply iw;intro j;by_cases G:j<k;exact q.out j G;rw[gi (by omega),gi (by omega)]
  go_wp2_with fail;go_ret;exact⟨dw B.out.symm,f.out⟩
def KL(A M:Option Addr)(c V:Nat)(a d:List (List Int))(w:ai)(h:gn w w.heap.size 4 A a)(F:gn w w.heap.size 4 M d)(hx:a.length<=maxLen)(hy:d.length<=maxLen):Calls aj 18 #[.slice A a.length c,.slice M d.length V] w λe z=>e=.returned (.bool (iq a d))/\Below w.heap.size w z:=by
 have H:=af h;have S:=af F;have hx':(a.length:Int)<=9223372036854775807:=by unfold maxLen at hx;omega
 have hy':(d.length:Int)<=9223372036854775807:=by unfold maxLen at hy;omega
 have K:Hid (∀r∈a,r.length=4):=h.1;have L:Hid (∀r∈d,r.length=4):=F.1;clear h F;go_enter func18,ntmps18;by_cases hl:a.length=d.length;rotate_left
 ·have X:((a.length:Int) !=(d.length:Int))=ar:=by simp;omega
  have B:Hid (iq a d=au):=by simp only[Hid,iq,decide_eq_false_iff_not];rintro rfl;exact hl rfl
  go_wp2_with fail;go_ret;exact⟨dw B.out.symm,Below.refl _ _⟩
 have X:((a.length:Int) !=(d.length:Int))=au:=by simp;omega
 go_wp2_with fail;go_loopw [14] (λi z=>∃k:Nat,k<=a.length/\i=.int .i64 k/\(∀j,j<k->a[j]? =d[j]?)/\Below w.heap.size w z) (λi _=>a.length-(intOf i).toNat)
 case atStart=>exact⟨0,by omega,rfl,λj G=>by omega,Below.refl _ _⟩
 case round=>
  obtain⟨k,hk,rfl,s,N⟩:=hrel;have q:=af s;have f:=af N;clear s N;by_cases t:k<a.length
  ·have Z:(k:Int)<a.length:=by omega
   have P:(k:Int)<d.length:=by omega
   obtain⟨b,o,rfl,Y,D⟩:=(H.out.below f.out).at_ t;obtain⟨U,o',rfl,O,g⟩:=(S.out.below f.out).at_ (k:=k) (by omega);have p:Hid (a[k]? =d[k]?↔a[k]=d[k]'(by omega)):=by rw[aq t,aq (show k<d.length by omega)];exact⟨λh=>aX h,λh=>by rw[h]⟩
   have u:=K.out _ (aR t);have J:=L.out _ (aR (show k<d.length by omega));generalize a[k]=x at*;generalize d[k]'(by omega)=y at*;go_upto_region 6 with(fail)
   refine b9 (λz=>cD z wr.heap.size 45 (ints x)/\Below wr.heap.size wr z) ⟨jU wr 45 [0,0,0,0] _ u,eU wr 45 [0,0,0,0] _⟩ ?_;rintro R ⟨E,m⟩;have l:=af (f.out.trans (m.mono f.out.size));have c1:∀n:After R,row? n.w wr.heap.size 0 4=ae (ints x):=λn=>(E.after n.below).bw u
   have c2:∀n:After R,row? n.w U (o'+k*4) 4=ae (ints y):=λn=>(fT n.below (by have:=f.out.size;have:=m.size;omega) _ _).trans ((fT m (by have:=f.out.size;omega) _ _).trans g)
   have Q:∀W,(binOp .neq 45 (.agg (ints x)) (.agg (ints y))).run aj W=.ok (.bool (!decide (x=y))) W:=S8 x y u J;clear E m D g;by_cases v:x=y
   ·have C:(decide (x=y))=ar:=by simpa using v
    rw[C]at Q;have T:Hid (a[k]? =d[k]?):=p.out.2 v;clear v p C;refine bV (by kernel_rfl) (by kernel_rfl) ?_;repeat(go_big_quiet_step (fail))
    refine wpQuiet_nil ?_;rintro _ ⟨n,rfl⟩;go_wp2_with fail;go_roundw
    case rel=>refine⟨k+1,by omega,by go_num,λj G=> ?_,l.out.trans (n.below.mono l.out.size)⟩;by_cases I:j=k;rw[I];exact T.out;exact q.out j (by omega)
    simp[intOf];omega
   have C:(decide (x=y))=au:=by simpa using v
   rw[C]at Q;have B:Hid (iq a d=au):=by simp only[Hid,iq,decide_eq_false_iff_not];intro e;exact v (p.out.1 (by rw[e]))
   clear v p C;refine bV (by kernel_rfl) (by kernel_rfl) ?_;repeat(go_big_quiet_step (fail))
   refine wpQuiet_nil ?_;rintro _ ⟨n,rfl⟩;go_wp2_with fail;go_ret;exact⟨dw B.out.symm,l.out.trans (n.below.mono l.out.size)⟩
  have B:Hid (iq a d=ar):=by simp only[Hid,iq,decide_eq_true_eq];apply iw;intro j;by_cases G:j<k;exact q.out j G;rw[gi (by omega),gi (by omega)]
  go_wp2_with fail;go_ret;exact⟨dw B.out.symm,f.out⟩
end
namespace Rel
open Go.Conc Go.ConcN
section
variable{P:aO} {c:fg} {Z:ak->ai->Prop} {w:ai}
def Vi{a:aY}{v:ak}{t':Tape}{d':Nat}(s:∀F,P.funcs[a.fn]? =ae F->F.results.toList.all (oc (c.bd a.fn))=ar)(U:a.leaving P (cL w t' d') (.returned v))(S:P.inits.idxOf? a.fn=ah)(m:∀f d,Z v (cL w f d)):CY P c Z (G a []) w:=by
 obtain⟨hm,Q,T,F,J,X⟩:=U;intro f d π gs sl q t p B h R;have Y:=(R a (by simp[G])).1;refine jZ h.g0 rfl h.co λL q' y H l hs M hC=>.inl ?_
 obtain⟨Kl,u,N,e,s',E,V,hvv,z⟩:=wK (c:=c.at a.fn) h.sub h.hp (s F J) Y X f l;have D:stepG P ar (jd a []) (cL w f l)=.ended (.done v) (cL w f l) (seen P a.fn u++#[]):=by
  rw[fS ar a _ _ (by rw[hm];simp),kW ar a _ _ Q hm,J];simp only[phase,N];have:doReturn P ar a [] ah v (cL w f l)=.ended (.done v) (cL w f l):=by unfold doReturn;simp only[T,S];rfl
  rw[this];rfl
 have k:∀x∈seen P a.fn u++#[],EvX p w.heap.size x:=by intro x k;rw[Array.append_empty]at k;exact Xw s' E (λb O=>h.Mn b (V b O)) h.old (z x (iT _ _ x k))
 have n:=runT_many_ended (P:=P) (w:=cL w f l) (sl:=H) (i:=0) M (show stepG P (0==0) (G a []) (cL w f l)=_ from D);refine⟨_,_,_,n,λK I=> ?_⟩;have r:=hC.I6 (a':=G a []) h.le k (G a []).frame.fn (G a []).frame.place id (λo _=>rfl);refine⟨v,rfl,m _ _,r.past.clean,r.past.over,⟨λx k=> ?_,rfl⟩,λj x k A=> ?_⟩;obtain⟨j,A⟩:=List.mem_iff_getElem?.1 k;rw[p6]at A;exact⟨_,(hC.old (1+j) x (by omega) (by simpa[crowd]using A)).leaves⟩;have W:=hC.old j x (by omega) k;refine⟨q' j,?_⟩;have e:(y++bZ 0 (G a []).frame.fn (G a []).frame.place (seen P a.fn u++#[])).deaf j (y++bZ 0 (G a []).frame.fn (G a []).frame.place (seen P a.fn u++#[])).size=Deaf y j:=Deaf_other y (g:=j) (g':=0) (by omega) _ (λop C=>by obtain⟨e,_,rfl⟩:=bk C;rfl)
 rw[e];exact W.hears _
def Yv(P:aO)(g:aw):Co P (λ_=>False) 0 #[g] (λ_=>0) #[]:=by
 refine⟨λi x d k=> ?_,⟨λe=>by rintro⟨i,j,_,⟨a,b,c,_⟩,_⟩;simp[Trace.act?]at c,λi a c=>by simp[touchAt,Trace.act?]at c,λi g h=>by simp[Trace.g?]at h,rfl,by simp,λi op d=>by simp at d⟩,by simp,λb f=>f.elim⟩;have:i<1:=by simpa using(aE.1 k).1
 omega
def SN{f:bG}{args:Array ak}{R:ak->ai->Prop}(Q:P.globals.size<=w.heap.size)(hi:P.inits.idxOf? f=ah)(r:∀i v,args[i]? =ae v->(i∈c.bd f/\jG c (c.kd f i) v)\/sQ c.sig v)(p:∀a x,c.mem a=ae x->w.cell? a=ae (.int .i64 x))(y:∀v w',R v w'->∀N d,Z v (cL w' N d))(h:oJ P c Z f args w R):∃M m o w' t',runNT P (M+1) (solo (G (eG P f args .normal) []) w) #[]=(.ended o w',t')/\runN P M (solo (G (eG P f args .normal) []) w)=.next m/\step P m=.ended o w'/\Go.Conc.Good P Z m o w' t':=by
 obtain⟨F,x,H,L,C,D,s⟩:=h;have K:CY P c Z (G (eG P f args .normal) []) w:=by
  rw[enter_at _ H D];have j:∀(n:Act)(w':ai)(b:List Item),(∃v,(results F n.tmps).run P w'=.ok v w'/\R v w')->CY P c Z (G {(base f).at n b with mode:=.returning} []) w':=by rintro n w' b ⟨v,hr,X⟩;intro N d T V sl q t z B hh A;have Y:n.defers=[]:=(A {(base f).at n b with mode:=.returning} (by simp[G])).2.2.1;exact Vi (λU J=>by have:P.funcs[f]? =ae U:=J;rw[H]at this;cases this;exact C) (t':=w'.tape) (d':=w'.drawn) ⟨rfl,Y,rfl,F,H,hr⟩ hi (y v w' X) N d T V sl q t z B hh A
  refine s (base f) [] [] rfl rfl rfl λe n w' q=> ?_
  cases e with
  |normal=>refine .ctl rfl (λ_=>stepG_end) (λT _ I O k=> ?_) (j n w' [] q);rcases b6.1 k with rfl|W;exact I ((base f).at n []) (by simp[G]);simp[G]at W
  |ret=>exact λb=>j n w' b q|exit id=>exact q.elim|goto l=>exact q.elim|panic ch=>exact q.elim|outgrown=>exact q.elim
 refine K w.tape w.drawn (λ_ _=>False) #[G (eG P f args .normal) []] ah (λ_=>0) #[] (λ_=>False) 0 ⟨λ_ _ h=>h.elim,⟨⟨λ_ _ _ h=>h.elim,λ_ _ _ h=>h.elim,λ_ _ h=>h.elim⟩,λ_ _ h=>h.elim,Q,Q,λa x D=>⟨λ_ h=>h,λ_ h=>h,p a x D,p a x D⟩⟩,λ_ h=>h.elim,bF _,Yv P _,rfl,λ_ h=>h.elim⟩ λO k=> ?_
 have k:O=eG P f args .normal:=by simpa[G]using k
 subst k;rw[enter_at _ H D];refine⟨⟨rfl,λi u v S I=> ?_⟩,rfl,rfl,rfl⟩;rw[S]at I;obtain rfl:=aX I;have g:(args++dF (F.ntmps-args.size) undef)[i]? =ae u:=S;rw[Array.getElem?_append]at g;split at g;rcases r i u g with E|E;exact .inr ⟨E.1,rfl,E.2⟩;exact .inl (E _);rw[Array.getElem?_replicate]at g;split at g;cases g;exact .inl (.tuple rfl (by simp));cases g
end
structure EH(P:aO) (c:fg) (N1:Nat) (cs:List aY) (π:Ren) (Shun:Nat->Prop) (B:Nat) (gs:Array aw) (q:Nat->Nat) (t:Trace) (g:aw) (w:ai):Prop where
 sub:Sub π
 hp:bS P c.sig π w w
 Mn:∀b,π b b->¬Shun b
 SE:∀b,π b b->b<N1
 sh:∀b,Shun b->b<N1
 n1:N1<=w.heap.size
 le:B<=w.heap.size
 co:Co P Shun B gs q t
 g0:gs[0]? =ae g
 old:∀b,Shun b->c.old<=b
 I1:c.old<=N1
 fr:∀fr∈cs,xV c π fr
def EY(P:aO)(c:fg)(a:ak->ai->Prop)(h:Nat)(i:List aY)(f:Nat)(g:aw)(w:ai):Prop:=∀(j:Tape)(d:Nat)(k:Ren)(e:Array aw)(sl:Option (Nat×Nat))(q:Nat->Nat)(t:Trace)(b:Nat->Prop)(B:Nat),B<=f->EH P c h i k b B e q t g w->Ends P a (crowd e (cL w j d) sl) t
def Z'(a B:Nat)(e:Event):Prop:=(e.loc≠.mark .disable/\e.loc≠.mark .enable)/\∀x,(cQ e).touch? =ae x->∃b,tk x.loc=ae b/\a<=b/\b<B
section
variable{P:aO} {c:fg} {Z:ak->ai->Prop} {Y X:Nat} {W:List aY} {w:ai}
def aaL{c:Nat->Prop}{B:Nat}(l:∀b,c b->b<Y){e:Event}(h:Z' Y B e):EvX c B e:=by
 refine⟨h.1,λx k=> ?_⟩;obtain⟨b,d,n,g⟩:=h.2 x k;refine⟨λ⟨m,f,j⟩=> ?_,?_⟩;rw[d]at f;cases f;have:=l b j;omega;cases i:x.loc with|cell a=>rw[i]at d;cases d;exact g|obj r=>rw[i]at d;cases d;exact g|_=>trivial
def bS.keeps{S:gM}{c:Ren}{w w':ai}(s:Sub c)(h:bS P S c w w)(g:w.heap.size<=w'.heap.size)(e:∀b,c b b->w'.heap[b]? =w.heap[b]?)(f:∀a x,S.mem a=ae x->w'.heap[a.block]? =w.heap[a.block]?):bS P S c w' w':=by refine⟨h.ok,λl r x=> ?_,be h.kr g,be h.kr g,λa x d=>by obtain⟨i,j,k,m⟩:=h.old a x d;exact⟨i,j,(iW (f a x d)).trans k,(iW (f a x d)).trans m⟩⟩;obtain rfl:=s _ _ x;obtain⟨o,t,n,p,q⟩:=h.obj _ _ x;exact⟨o,t,(e _ x).trans n,(e _ x).trans p,q⟩
def EH.next{k:Ren}{d:Nat->Prop}{B:Nat}{l:Array aw}{q:Nat->Nat}{t:Trace}{g:aw}(h:EH P c Y W k d B l q t g w){e:Array aw}{i:aw}{w':ai}{j:Trace}{B':Nat}(hold:∀b,b<Y->w'.heap[b]? =w.heap[b]?)(f:w.heap.size<=w'.heap.size)(n:B'<=w'.heap.size)(hC:Co P d B' e q j)(m:e[0]? =ae i):EH P c Y W k d B' e q j i w':=⟨h.sub,h.hp.keeps h.sub f (λb o=>hold b (h.SE b o)) (λa x p=>hold _ (aW (c.FC a x p) h.I1)),h.Mn,h.SE,h.sh,be h.n1 f,n,hC,m,h.old,h.I1,h.fr⟩
def EY.step{g g':aw}{w':ai}{Ux:Nat}(C:g.status=.running)(u:∀a d,∃n,stepG P ar g (cL w a d)=.go g' (cL w' a d) n/\∀e∈n,Z' Y Ux e)(hold:∀b,b<Y->w'.heap[b]? =w.heap[b]?)(v:w.heap.size<=w'.heap.size)(G:X<=Ux)(o:Ux<=w'.heap.size)(k:EY P c Z Y W Ux g' w'):EY P c Z Y W X g w:=by
 intro a d E F sl q t f B z h;refine jZ h.g0 C h.co λy D I m j H x hC=>.inr ?_
 obtain⟨n,l,r⟩:=u a j;have s:stepG P ar g ((cL w a d).at j)=.go g' (cL w' a j) n:=l;have p:=hC.I6 (B':=Ux) (by omega) (λe A=>aaL h.sh (r e A)) (a':=g') g.frame.fn g.frame.place (woken P g g' (cL w' a j)) (pB P g g' _);refine⟨_,_,runT_crowd_go (P:=P) (sl:=m) (i:=0) x s,k a j E _ m D _ f Ux (av _) (EH.next (B':=Ux) ⟨h.sub,h.hp,h.Mn,h.SE,h.sh,h.n1,h.le,hC,x,h.old,h.I1,h.fr⟩ hold v o p ?_)⟩;rw[aK (by simpa using hC.pos)]
def EY.ctl{g g':aw}(d:g.status=.running)(b:∀w,stepG P ar g w=.go g' w #[])(a:X<=w.heap.size)(k:EY P c Z Y W X g' w):EY P c Z Y W X g w:=.step d (λ_ _=>⟨#[],b _,by simp⟩) (λ_ _=>rfl) (av _) (av _) a k
def EY.send{g:aw}{C:Nat}{v z:ak}{blocking:Bool}{shape:CommShape}{l s r:Nat}{j:Array ak}{O:Bool}(U:g.status=.running)(J:∀p d,stepG P ar g (cL w p d)=.comm g #[scase C v z] blocking shape (cL w p d) #[])(hC:Y<=C)(M:w.heap[C]? =ae (.chan l j au s r O))(o:j.size<l)(R:X<=w.heap.size)(k:EY P c Z Y W X (g.finishComm P #[scase C v z] shape 0 undef au) (w.setChan C l (j.push v) au (s+1) r O)):EY P c Z Y W X g w:=by
 intro p d π gs sl q t u B H h;refine jZ h.g0 U h.co λG V t' D E hs L f=>.inr ?_
 have I:stepG P (0==0) g ((cL w p d).at E)=.comm g #[scase C v z] blocking shape (cL w p E) #[]:=J p E;have S:C<w.heap.size:=(aE.1 M).1;have K:partners (G.setIfInBounds 0 Go.Conc.ph) C au=[]:=partners_nil λy Q n=>by rcases getElem?_stand _ _ _ _ n with⟨_,rfl⟩|⟨T,n⟩;exact offersAt_ph _ _;exact offersAt_of_not_blocked (by rcases(f.old y Q (by omega) n).status with h|h<;>rw[h]<;>simp) _ _
 have i:=crowd_send_room (P:=P) (sl:=D) L I M o K;have F:∀fn pos,bZ 0 fn pos #[]=#[]:=λfn pos=>by rw[ofEvents_eq];simp
 rw[F,iK]at i;have e:∀op∈(#[{g:=0,fn:=g.frame.fn,pos:=g.frame.place,act:=.send C s},{g:=0,fn:=g.frame.fn,pos:=g.frame.place,act:=.sendDone C s}]:Trace),op.g=0/\op.act.touch? =ah/\∀m,op.act≠.mark m:=by intro op a;simp only[oi,b6,gX,or_false]at a;rcases a with rfl|rfl<;>exact⟨rfl,rfl,by simp⟩
 have A:=f.own (B':=B) (av _) (a':=g.finishComm P #[scase C v z] shape 0 undef au) id (λ_ _=>rfl) (λop a=>(e op a).1) (λop a x N=>by rw[(e op a).2.1]at N;cases N) (Deaf_still _ 0 _ λop a=>⟨(e op a).2.2 _,(e op a).2.2 _⟩)
 rw[Array.map_id_fun,id]at A;refine⟨_,_,i,k p E π _ D V _ u B H (EH.next (B':=B) ⟨h.sub,h.hp,h.Mn,h.SE,h.sh,h.n1,h.le,f,L,h.old,h.I1,h.fr⟩ (λb hb=> ?_) (by simp[oj]) (by simp[oj];exact h.le) A ?_)⟩;show(w.heap.setIfInBounds C _)[b]? =_;rw[aJ (by omega)];rw[aK (by have:=f.pos;omega)]
def Vk{b:aY}{k:List Item}{a:Act}{g:Array Oper}{i:Nat}{e:List Nat}{o:Oper}{f:bG}{args:Array ca}{y:Array az}{F:Func}{x:Code}(hold:c.old<=w.heap.size)(K:g[i]? =ae o)(L:bj o (yielded g a.tmps)=ar)(n:b.kind=.normal)(r:o.op=.call {callee:=.value (.func f),args,argTypes:=y})(D:P.funcs[f]? =ae F)(l:(F.name== "runtime.NumGoroutine")=au)(M:F.body=ae x)(h:EY P c Z w.heap.size (b.at a (.inRegion g (i::e)::k)::W) w.heap.size (G (eG P f (args.map a.eval) .normal) (b.at a (.inRegion g (i::e)::k)::W)) w):CY P c Z (G (b.at a (.inRegion g (i::e)::k)) W) w:=by
 have p:F.body.isNone=au:=by rw[M];rfl
 intro v d O Q sl q t m B j J;refine jZ j.g0 rfl j.co λH N S s u R I hC=>.inr ?_
 have C:stepG P ar (G (b.at a (.inRegion g (i::e)::k)) W) ((cL w v d).at u)=.go (G (eG P f (args.map a.eval) .normal) (b.at a (.inRegion g (i::e)::k)::W)) (cL w v u) #[]:=by rw[stepG_enter K L (by rw[n];decide) (run_call_body r D l p)];congr 1;unfold listed;rw[events_call_body r D l p];exact seen_none P _
 have z:=hC.I6 (B':=B) (av _) (es:=#[]) (by simp) (a':=G (eG P f (args.map a.eval) .normal) (b.at a (.inRegion g (i::e)::k)::W)) (G (b.at a (.inRegion g (i::e)::k)) W).frame.fn (G (b.at a (.inRegion g (i::e)::k)) W).frame.place _ (pB P (G (b.at a (.inRegion g (i::e)::k)) W) (G (eG P f (args.map a.eval) .normal) (b.at a (.inRegion g (i::e)::k)::W)) (cL w v u));refine⟨_,_,runT_crowd_go (P:=P) (sl:=s) (i:=0) I C,h v u O _ s N _ m B j.le ⟨j.sub,j.hp,j.Mn,λb n=>(j.hp.lt n).1,λb n=>aW (j.co.L6 b n) j.le,av _,j.le,z,?_,j.old,hold,λE A=>J E (by simpa[G]using A)⟩⟩;rw[aK (by simpa using hC.pos)]
end
end Rel
namespace Rel
open Go.Conc
section
variable{P:aO} {c:fg} {Z:ak->ai->Prop} {Y:bG} {Q X:Exit->Act->ai->Prop} {a:Act} {w:ai}
def mV(L:c.Fits P){g:Array Oper}{i:Nat}{f:List Nat}{o:Oper}(M:g[i]? =ae o)(R:bj o (yielded g a.tmps)=ar)(z:oz (c.at Y) o.op=ar){w':ai}(E:∀j d,(execOp a.eval o).run P (cL w j d)=.ok .skip (cL w' j d))(h:oP P c Z Y g f Q (a.put o.dst undef) w'):oP P c Z Y g (i::f) Q a w:=by
 intro b k H q D hp N;refine .step rfl λj d U s p F=> ?_
 have A:=(F (b.at a (.inRegion g (i::f)::k)) (by simp[G])).1;have m:bS P c.sig U (cL w j d) (cL w j d):=p.aby j d;rw[show(b.at a (.inRegion g (i::f)::k)).fn=Y from q]at A;have l:=(AL (L.at Y) p.ok (rV (c:=c.at Y) A) (vV (c:=c.at Y) A) o z).run m #[] #[];have n:(execOp a.eval o).runT P (cL w j d) #[]=(.ok .skip (cL w' j d),(execOp a.eval o).events P (cL w j d) #[]):=by rw[Sem.runT_eq,E]
 rw[n]at l;obtain⟨_,_,r⟩:=l;obtain⟨C,X,V,W,e,t,O,B,u,_,v⟩:=r λ_ _ _=>rfl
 rw[n,iK]at t;simp only[Prod.mk.injEq,Result.ok.injEq]at t;obtain⟨⟨J,K⟩,r⟩:=t;subst J;subst K;have T:=s.UA u rfl;refine⟨_,_,_,C,stepG_none M R (by rw[D];decide) (E j d),e,T,B,λb q=>(u.new b b q).imp id λx=>x.1,u.size,λx S=>.inl (v x ?_),wa (λI y=>(F I y).mono e) _ (.inl (.tuple rfl (by simp))),(h b k H q D hp N).rt j d⟩;rw[<-r];exact iT _ _ x S
def vS(P:aO)(F:Func)(R:ak->ai->Prop):Exit->Act->ai->Prop:=λe a w=>(e=.normal\/e=.ret)/\a.defers=[]/\∃v,(∀b d,(results F a.tmps).run P (cL w b d)=.ok v (cL w b d))/\∀b d,R v (cL w b d)
def Dy(i:c.Fits P){x:Code}{F:Func}{R:ak->ai->Prop}(k:dj (c.at Y) x=ar)(h:∀g d,x.wp P (vS P F R) a (cL w g d)):dK P c Z Y x (qI P F R) a w:=by
 refine rR (ye i (Q:=vS P F R) k (λe a w h=>⟨h.1,h.2.1⟩) (λe a w g d h=>h) h) λe a w h=> ?_
 obtain⟨j,_,v,f,b⟩:=h;rcases j with rfl|rfl;exact⟨v,f w.tape w.drawn,b w.tape w.drawn⟩;exact⟨v,f w.tape w.drawn,b w.tape w.drawn⟩
def r9(S:Act->ai->Prop):Exit->Act->ai->Prop:=λe a w=>e=.normal/\a.defers=[]/\∀b d,S a (cL w b d)
def xi(i:c.Fits P){x:Code}{S:Act->ai->Prop}(j:dj (c.at Y) x=ar)(h:∀f d,x.wp P (r9 S) a (cL w f d))(b:∀a w,S a w->Q .normal a w):dK P c Z Y x Q a w:=by
 refine rR (ye i (Q:=r9 S) j (λe a w h=>⟨.inl h.1,h.2.1⟩) (λe a w f d h=>h) h) λe a w h=> ?_
 obtain⟨rfl,_,g⟩:=h;exact b a w (g w.tape w.drawn)
end
end Rel
namespace Rel
open Go.Conc Go.ConcN
open Go.ConcR (KK WgAt rd wr Payload DC0 stA smA Bk)
section
variable [Payload] {φ:Ph} {Z:ak->ai->Prop} {Goal:aw->ai->Prop} {AnchW:(Nat->Prop)->aw->ai->Prop} {Y:Nat->Prop} {X:Array aw} {w:ai} {sl:Option (Nat×Nat)} {t:Trace} {q:Nat->Nat} {a:aw}
def LG(O:φ.Ok)(r:∀f g w,AnchW f g w->g.status=.running)(n:∀f g w,AnchW f g w->∃m,φ.GP f (φ.AtW1 f Goal (AnchW f)) m g w){B:Nat}(P:B<=φ.Wg)(h:Co φ.P Y B X q t)(d:φ.lo=X.size)(z:∀b,φ.jB b->b<w.heap.size/\¬Y b)(k:∀b,φ.Std b->b<w.heap.size)(v:∀b,φ.CB b->b<w.heap.size/\¬Y b)(u:φ.Wg<w.heap.size)(s:φ.Ch<w.heap.size)(C:WgAt φ.ty φ.Wg w 0 0)(x:φ.MH 0 w)(y:∀p,p<φ.nj->φ.J0 p w)(S:X[0]? =ae a)(E:0<φ.n)(A:φ.Spawns (φ.Fin AnchW) φ.n (λ_=>False) a w)(K:∀(c:Array aw)(w':ai)(e:Option (Nat×Nat))(D:Nat->Nat)(l:Trace)(j:aw),c[0]? =ae j->j.status=.running->Goal j w'->Co φ.P (λb=>Y b\/b=φ.Wg) w'.heap.size c D l->w.heap.size<=w'.heap.size->(∀p,p<φ.nj->∃o:Nat->Prop,(∀b,o b->w.heap.size<=b/\b<w'.heap.size)/\φ.JP o p w')->Ends φ.P Z (crowd c w' e) l):Ends φ.P Z (crowd X w sl) t:=by obtain⟨m,R⟩:=Co.enter (Goal:=Goal) (AnchW:=AnchW) (sl:=sl) O P h d z k v u s C x y S E A;obtain⟨N,V,l,U,Q⟩:=OH O (λi op T=>by rw[d];exact h.past.gs i op T) r n R;have F:Co φ.P Y w.heap.size X q t:=h.mono (by omega);obtain⟨c,w',e,D,j,rfl,G,H,I,J,L,M⟩:=Q.leave O E F d;exact .runs U (K c w' e D l j G H I J L M)
end
def Gh.oD(γ:Gh)(w:ai):γ.grow w w=γ:=by obtain⟨o,h,v⟩:=γ;unfold Gh.grow;congr 1;funext b;exact propext ⟨λx=>x.elim id λy=>by omega,.inl⟩
def Gh.oE(γ:Gh){w w':ai}(h:w'.heap.size=w.heap.size):γ.grow w w'=γ:=by obtain⟨o,a,v⟩:=γ;unfold Gh.grow;congr 1;funext b;exact propext ⟨λx=>x.elim id λy=>by omega,.inl⟩
section
variable [Payload] {φ:Ph} {γ:Gh} {w:ai}
def Ph.WT.rely(O:φ.Ok){g:aw}{c:ai}(h:φ.WT γ g w)(r:φ.dQ γ w c):φ.WT γ g c:=by
 cases h with|tail h=>exact .tail (h.rely O r)|step j w' f e d k=>exact .step j w' f e (λb a=>d b (r.trans a)) λb a=>k b (r.trans a)|recv e d l m=>exact .recv e (λb a=>d b (r.trans a)) (λb i a=>l b i (r.trans a)) λb a=>m b (r.trans a)
def OY(φ:Ph)(γ:Gh)(w:ai):φ.uP γ w w #[]:=⟨λ_ _ _ _=>rfl,λ_ _ _=>rfl,λ_ _=>rfl,av _,rfl,rfl,rfl,by simp⟩
def tZ{a:Array Event}(h:∀e∈a,φ.Acc γ e):φ.uP γ w w a:=⟨λ_ _ _ _=>rfl,λ_ _ _=>rfl,λ_ _=>rfl,av _,rfl,rfl,rfl,by rw[Gh.oD];exact h⟩
def Ph.WT.ctl(O:φ.Ok){g g':aw}(c:g.status=.running)(b:∀w,stepG φ.P au g w=.go g' w #[])(k:φ.WT γ g' w):φ.WT γ g w:=.step (λ_=>g') id (λ_=>#[]) c (λa _=>⟨b a,OY φ γ a⟩) λa h=>by show φ.WT (γ.grow a a) g' a;rw[Gh.oD];exact k.rely O h
variable{b:aY} {a:Act} {k:List Item} {Z:List aY} {Y:Array Oper} {i:Nat} {X:List Nat} {o:Oper}
def Ph.WT.op(v:ai->ak)(u:ai->ai)(m:Y[i]? =ae o)(n:bj o (yielded Y a.tmps)=ar)(g:b.kind≠.early)(d:∀c,φ.dQ γ w c->(execOp a.eval o).run φ.P c=.ok (.value (v c)) (u c))(l:∀c,φ.dQ γ w c->φ.uP γ c (u c) ((execOp a.eval o).events φ.P c #[]))(h:∀c,φ.dQ γ w c->φ.WT (γ.grow c (u c)) (G (b.at (a.put o.dst (v c)) (.inRegion Y X::k)) Z) (u c)):φ.WT γ (G (b.at a (.inRegion Y (i::X)::k)) Z) w:=.step _ u (λc=>listed φ.P b.fn a o c) rfl (λc f=>⟨stepG_value m n g (d c f),by have:=l c f;exact⟨this.rest,this.cells,this.pay,this.size,this.tape,this.os,this.output,λe j=>this.ev e (iT _ _ e j)⟩⟩) h
def Ph.WT.opN(u:ai->ai)(m:Y[i]? =ae o)(n:bj o (yielded Y a.tmps)=ar)(g:b.kind≠.early)(d:∀c,φ.dQ γ w c->(execOp a.eval o).run φ.P c=.ok .skip (u c))(l:∀c,φ.dQ γ w c->φ.uP γ c (u c) ((execOp a.eval o).events φ.P c #[]))(h:∀c,φ.dQ γ w c->φ.WT (γ.grow c (u c)) (G (b.at (a.put o.dst undef) (.inRegion Y X::k)) Z) (u c)):φ.WT γ (G (b.at a (.inRegion Y (i::X)::k)) Z) w:=.step _ u (λc=>listed φ.P b.fn a o c) rfl (λc f=>⟨stepG_none m n g (d c f),by have:=l c f;exact⟨this.rest,this.cells,this.pay,this.size,this.tape,this.os,this.output,λe j=>this.ev e (iT _ _ e j)⟩⟩) h
def Ph.WT.pure(O:φ.Ok)(v:ak)(l:Y[i]? =ae o)(m:bj o (yielded Y a.tmps)=ar)(g:b.kind≠.early)(d:∀c,φ.dQ γ w c->(execOp a.eval o).run φ.P c=.ok (.value v) c)(j:∀c,φ.dQ γ w c->∀e∈(execOp a.eval o).events φ.P c #[],φ.Acc γ e)(h:φ.WT γ (G (b.at (a.put o.dst v) (.inRegion Y X::k)) Z) w):φ.WT γ (G (b.at a (.inRegion Y (i::X)::k)) Z) w:=.op (λ_=>v) id l m g d (λc f=>tZ (j c f)) λc f=>by show φ.WT (γ.grow c c) _ c;rw[Gh.oD];exact h.rely O f
def Ph.WT.enter(O:φ.Ok){f:bG}{args:Array ak}(g:Y[i]? =ae o)(j:bj o (yielded Y a.tmps)=ar)(e:b.kind≠.early)(c:∀w,(execOp a.eval o).run φ.P w=.ok (.enter f args) w)(d:∀w,(execOp a.eval o).events φ.P w #[]=#[])(h:φ.WT γ (G (eG φ.P f args .normal) (b.at a (.inRegion Y (i::X)::k)::Z)) w):φ.WT γ (G (b.at a (.inRegion Y (i::X)::k)) Z) w:=.ctl O rfl (λw=>by rw[stepG_enter g j e (c w)];congr 1;unfold listed;rw[d];exact seen_none _ _) h
def Ph.WT.leave0(O:φ.Ok){F:Func}{e:List Item}{d:aY}{c:Act}(l:b.kind=.normal)(g:a.defers=[])(j:φ.P.funcs[b.fn]? =ae F)(f:F.results=#[])(h:φ.WT γ (G (d.at (c.put ((Y[i]?).bind (·.dst)) (.tuple #[])) (.inRegion Y X::k)) Z) w):φ.WT γ (G {b.at a e with mode:=.returning} (d.at c (.inRegion Y (i::X)::k)::Z)) w:=.ctl O rfl (λw=>by rw[stepG_leave l g j (results_none f _ _ w) (events_results_none f _ _),jr]) h
structure Kept(φ:Ph) (γ:Gh) (St:Nat->Prop) (w0 w:ai):Prop where
 st:∀b,St b->w.heap[b]? =w0.heap[b]?
 rd:∀b,φ.jB b->w.heap[b]? =w0.heap[b]?
 cell:∀i a,γ.held i->φ.jl i a->w.cell? a=w0.cell? a
 pay:∀b,φ.CB b->dp w b=dp w0 b
 size:w0.heap.size<=w.heap.size
 live:WgLive φ.ty φ.Wg w0->WgLive φ.ty φ.Wg w
def Kept.refl(φ:Ph)(γ:Gh)(a:Nat->Prop)(w:ai):Kept φ γ a w w:=⟨λ_ _=>rfl,λ_ _=>rfl,λ_ _ _ _=>rfl,λ_ _=>rfl,av _,id⟩
def Ph.WT.tree(O:φ.Ok){c:fg}(hc:c.Fits φ.P){H:aw->ai->Prop}{bot:List aY}{St:Nat->Prop}{w0:ai}(YR:φ.Wg<w0.heap.size/\¬γ.own φ.Wg)(C:∀a x,c.mem a=ae x->φ.jB a.block)(K:∀(F:aw)(L:ai)(g:aw)(w:ai)(f:Gh)(q:Ren),H F L->GR c [] [] [eX] bot q F g->bS φ.P c.sig q L w->(∀l r,q l r->f.own r)->(∀r,γ.own r->f.own r)->f.held=γ.held->f.over=γ.over->(∀r,f.own r->γ.own r\/(w0.heap.size<=r/\r<w.heap.size))->Kept φ γ St w0 w->φ.WT f g w):∀{F:aw}{L:ai},LT φ.P [] H F L->∀(g:aw)(w:ai)(f:Gh)(q:Ren),GR c [] [] [eX] bot q F g->bS φ.P c.sig q L w->(∀l r,q l r->f.own r)->(∀r,γ.own r->f.own r)->f.held=γ.held->f.over=γ.over->(∀r,f.own r->¬φ.CB r)->(∀r,φ.CB r->r<w.heap.size)->(∀r,φ.jB r->r<w.heap.size/\¬f.own r)->(∀r,St r->f.own r/\r<w.heap.size/\∀l,¬q l r)->(∀r,f.own r->γ.own r\/(w0.heap.size<=r/\r<w.heap.size))->Kept φ γ St w0 w->φ.WT f g w:=by
 intro F L l6
 induction l6 with
 |stop hH=>intro g w f q hg N v h2 h3 h4 _ _ _ _ z y;exact K _ _ g w f q hH hg N v h2 h3 h4 z y|step S t esL hs Cx VL ih=>
  rename_i F L;intro g w f q hg N v h2 h3 h4 V P W G z y;have M:∀d,φ.dQ f w d->bS φ.P c.sig q L d:=λd r=>⟨N.ok,λl x i=>by obtain⟨o,o',Q,e2,e3⟩:=N.obj l x i;exact⟨o,o',Q,(r.own x (v l x i)).trans e2,e3⟩,N.kr,be N.mR r.size,λa x i=>by obtain⟨g1,g2,g3,g4⟩:=N.old a x i;exact⟨g1,g2,g3,(iW (r.rd _ (C a x i))).trans g4⟩⟩
  have A:∀d,φ.dQ f w d->∃gR R2 ev j,stepG φ.P au g d=.go gR R2 ev/\Ext φ.P q j/\GR c [] [] [eX] bot j (S d.tape d.drawn) gR/\bS φ.P c.sig j (t d.tape d.drawn) R2/\uz q j L d (t d.tape d.drawn) R2/\∀e∈ev,wX c.sig j e:=λd r=>Bl hc hs Cx (M d r) hg au
  have rZ:g.status=.running:=by rw[hg.r]
  classical
  let R:ai->aw:=λd=>if r:φ.dQ f w d then(A d r).choose else g
  let u:ai->ai:=λd=>if r:φ.dQ f w d then(A d r).choose_spec.choose else w
  let ef:ai->Array Event:=λd=>if r:φ.dQ f w d then(A d r).choose_spec.choose_spec.choose else #[]
  have E:∀d,φ.dQ f w d->∃j,stepG φ.P au g d=.go (R d) (u d) (ef d)/\Ext φ.P q j/\GR c [] [] [eX] bot j (S d.tape d.drawn) (R d)/\bS φ.P c.sig j (t d.tape d.drawn) (u d)/\uz q j L d (t d.tape d.drawn) (u d)/\∀e∈ef d,wX c.sig j e:=by intro d r;have:=(A d r).choose_spec.choose_spec.choose_spec;simp only[R,u,ef,dif_pos r];exact this
  have D:∀d(r:φ.dQ f w d) j,uz q j L d (t d.tape d.drawn) (u d)->bS φ.P c.sig j (t d.tape d.drawn) (u d)->∀l x,j l x->(f.grow d (u d)).own x:=by intro d r j m s l x i;rcases m.new l x i with h|⟨_,h,_⟩;exact .inl (v l x h);exact .inr ⟨h,(s.lt i).2⟩
  refine .step R u ef rZ (λd r=> ?_) λd r=> ?_
  obtain⟨j,hgo,e,Z,s,m,Y⟩:=E d r;refine⟨hgo,λb X hn k=>m.rest b X λl n=>hn (v l b n),λB k _=> ?_,λb k=> ?_,m.size,m.tape,m.os,m.output,λe he=> ?_⟩;unfold b3;rw[m.rest B.block (aW (P _ k) r.size) λl n=>V _ (v l _ n) k];unfold dp;rw[m.rest b (aW (P _ k) r.size) λl n=>V _ (v l _ n) k];have J:=D d r j m s;cases Y e he with|cell wr X=>exact .inr ⟨rfl,_,rfl,.inl (J _ _ X)⟩|obj wr X=>exact .inr ⟨rfl,_,rfl,.inl (J _ _ X)⟩|room=>exact .inl ⟨_,rfl,.inl rfl⟩|ext _=>exact .inl ⟨_,rfl,.inr ⟨_,rfl⟩⟩|old hm=>exact .inr ⟨rfl,_,rfl,.inr (.inr ⟨rfl,C _ _ hm⟩)⟩
  obtain⟨j,hgo,e,Z,s,m,Y⟩:=E d r;refine ih d.tape d.drawn (R d) (u d) (f.grow d (u d)) j Z s (D d r j m s) (λx i=>.inl (h2 x i)) h3 h4 (λx i k=> ?_) (λx i=> ?_) (λx i=>⟨aW (W x i).1 (be r.size m.size),λJ=> ?_⟩) (λx i=>⟨.inl (G x i).1,aW (G x i).2.1 (be r.size m.size),λl n=> ?_⟩) (λx i=> ?_) ⟨λx i=> ?_,λx i=> ?_,λp B hp I=> ?_,λx i=> ?_,be y.size (be r.size m.size),λn=> ?_⟩;rcases i with i|⟨i,_⟩;exact V x i k;have:=P x k;have:=r.size;omega;exact aW (P x i) (be r.size m.size);rcases J with J|⟨J,_⟩;exact(W x i).2 J;have:=(W x i).1;have:=r.size;omega;rcases m.new l x n with h|⟨_,h,_⟩;exact(G x i).2.2 l h;have:=(G x i).2.1;have:=r.size;omega;have hz:=y.size;have hr:=r.size;have hs:=m.size;rcases i with i|⟨T,U⟩;rcases z x i with h|⟨T,U⟩;exact .inl h;exact .inr ⟨T,by omega⟩;exact .inr ⟨by omega,U⟩;exact((m.rest x (aW (G x i).2.1 r.size) (G x i).2.2).trans (r.own x (G x i).1)).trans (y.st x i);exact((m.rest x (aW (W x i).1 r.size) λl n=>(W x i).2 (v l x n)).trans (r.rd x i)).trans (y.rd x i);have k:=O.la p B I;have Q:(u d).cell? B=d.cell? B:=by unfold b3;rw[m.rest B.block (aW (P _ k) r.size) λl n=>V _ (v l _ n) k]
  exact(Q.trans (r.cell p B (h3▸hp) I)).trans (y.cell p B hp I);have Q:dp (u d) x=dp d x:=by unfold dp;rw[m.rest x (aW (P _ i) r.size) λl n=>V _ (v l _ n) i]
  exact(Q.trans (r.pay x i)).trans (y.pay x i);obtain⟨st,sm,hl'⟩:=r.live (y.live n);refine⟨st,sm,(m.rest φ.Wg (by have:=y.size;have:=r.size;omega) λl n=> ?_).trans hl'⟩;rcases z _ (v l _ n)with h|⟨h,_⟩;exact YR.2 h;omega
end
end Rel
namespace Rel
open Go.Conc Go.ConcN
abbrev p9(P:aO)(c:fg)(a:ak->ai->Prop)(b:Nat)(d:List aY)(g:aw)(w:ai):Prop:=EY P c a b d w.heap.size g w
section
variable{P:aO} {c:fg} {Z:ak->ai->Prop} {Y:Nat} {X W:List aY} {w w':ai} {b:aY} {a:Act} {k:List Item} {V:Array Oper} {i:Nat} {U:List Nat} {o:Oper} {x y:Code} {T:ca} {S:Nat}
def nU{g b:aw}(d:g.status=.running)(a:∀w,stepG P ar g w=.go b w #[])(h:p9 P c Z Y X b w):p9 P c Z Y X g w:=EY.ctl d a (av _) h
def j1(h:p9 P c Z Y X (G (b.at a (.code x::.code y::k)) W) w):p9 P c Z Y X (G (b.at a (.code (.seq x y)::k)) W) w:=nU rfl (λ_=>stepG_seq) h
def M0(h:p9 P c Z Y X (G (b.at a k) W) w):p9 P c Z Y X (G (b.at a (.code .skip::k)) W) w:=nU rfl (λ_=>stepG_skip) h
def zR(h:p9 P c Z Y X (G (b.at a (.code x::.inBlock S::k)) W) w):p9 P c Z Y X (G (b.at a (.code (.block S x)::k)) W) w:=nU rfl (λ_=>stepG_block) h
def zT(h:p9 P c Z Y X (G (b.at a k) W) w):p9 P c Z Y X (G (b.at a (.inBlock S::k)) W) w:=nU rfl (λ_=>stepG_inBlock) h
def Vr(h:p9 P c Z Y X (G (b.at a (.code x::.inLoop x::k)) W) w):p9 P c Z Y X (G (b.at a (.code (.loop x)::k)) W) w:=nU rfl (λ_=>stepG_loop) h
def OS(h:p9 P c Z Y X (G (b.at a (.code x::.inLoop x::k)) W) w):p9 P c Z Y X (G (b.at a (.inLoop x::k)) W) w:=nU rfl (λ_=>stepG_inLoop) h
def gA(h:p9 P c Z Y X (G (b.at a (.inRegion V (a6 V.size)::k)) W) w):p9 P c Z Y X (G (b.at a (.code (.region S V au)::k)) W) w:=nU rfl (λ_=>stepG_region) h
def mq(h:p9 P c Z Y X (G (b.at a k) W) w):p9 P c Z Y X (G (b.at a (.inRegion V []::k)) W) w:=nU rfl (λ_=>stepG_region_end) h
def RQ(d:a.eval T=.bool ar)(h:p9 P c Z Y X (G (b.at a (.code x::k)) W) w):p9 P c Z Y X (G (b.at a (.code (.cond T x y)::k)) W) w:=nU rfl (λ_=>stepG_cond d) h
def zS(d:a.eval T=.bool au)(h:p9 P c Z Y X (G (b.at a (.code y::k)) W) w):p9 P c Z Y X (G (b.at a (.code (.cond T x y)::k)) W) w:=nU rfl (λ_=>stepG_cond d) h
def Vq{d:List Item}(e:exitTo S k=ae d)(h:p9 P c Z Y X (G (b.at a d) W) w):p9 P c Z Y X (G (b.at a (.code (.exit S)::k)) W) w:=nU rfl (λ_=>stepG_exit e) h
def n9(v:ak)(p:V[i]? =ae o)(q:bj o (yielded V a.tmps)=ar)(m:b.kind≠.early)(hold:∀b,b<Y->w'.heap[b]? =w.heap[b]?)(j:w.heap.size<=w'.heap.size)(g:∀f d,(execOp a.eval o).run P (cL w f d)=.ok (.value v) (cL w' f d))(l:∀f d,∀e∈(execOp a.eval o).events P (cL w f d) #[],Z' Y w'.heap.size e)(h:p9 P c Z Y X (G (b.at (a.put o.dst v) (.inRegion V U::k)) W) w'):p9 P c Z Y X (G (b.at a (.inRegion V (i::U)::k)) W) w:=EY.step rfl (λf d=>⟨_,stepG_value p q m (g f d),λe n=>l f d e (iT _ _ e n)⟩) hold j j (av _) h
def KP(p:V[i]? =ae o)(q:bj o (yielded V a.tmps)=ar)(m:b.kind≠.early)(hold:∀b,b<Y->w'.heap[b]? =w.heap[b]?)(j:w.heap.size<=w'.heap.size)(g:∀f d,(execOp a.eval o).run P (cL w f d)=.ok .skip (cL w' f d))(l:∀f d,∀e∈(execOp a.eval o).events P (cL w f d) #[],Z' Y w'.heap.size e)(h:p9 P c Z Y X (G (b.at (a.put o.dst undef) (.inRegion V U::k)) W) w'):p9 P c Z Y X (G (b.at a (.inRegion V (i::U)::k)) W) w:=EY.step rfl (λf d=>⟨_,stepG_none p q m (g f d),λe n=>l f d e (iT _ _ e n)⟩) hold j j (av _) h
def eA(v:ak)(m:V[i]? =ae o)(n:bj o (yielded V a.tmps)=ar)(l:b.kind≠.early)(f:∀w,(execOp a.eval o).run P w=.ok (.value v) w)(g:∀w,(execOp a.eval o).events P w #[]=#[])(h:p9 P c Z Y X (G (b.at (a.put o.dst v) (.inRegion V U::k)) W) w):p9 P c Z Y X (G (b.at a (.inRegion V (i::U)::k)) W) w:=n9 v m n l (λ_ _=>rfl) (av _) (λ_ _=>f _) (λp d e j=>by rw[g]at j;simp at j) h
def mm{B:Nat}{a:Addr}{wr:Bool}(c:Y<=a.block)(d:a.block<B):Z' Y B ⟨.cell a,wr,au⟩:=⟨by simp,λx b=>by rw[ofEvent_cell0]at b;simp only[qy,dm]at b;subst b;exact⟨a.block,rfl,c,d⟩⟩
end
end Rel
namespace Rel
open Go.Conc Go.ConcN
open Go.ConcR (KK WgAt rd wr Payload DC0 stA smA Bk)
def Plain(S:gM)(v:ak):Prop:=sQ S v/\∀b a,bh S b v a->a=v
def AE{S:gM}(e:Array ak)(h:∀x∈e,∃k n,x=.int k n):Plain S (.agg e):=by
 refine⟨λj=>.agg rfl λi a b d c=> ?_,λj l g=> ?_⟩;rw[d]at c;obtain rfl:=aX c;obtain⟨k,n,rfl⟩:=h a (rG d);exact .int k n;cases g with
 |agg s f=>
  rename_i m;congr 1;refine sU s.symm λi a b d c=> ?_
  have:=f i b a c d;obtain⟨k,n,rfl⟩:=h b (rG c);cases this;rfl
end Rel
namespace Rel
open Go.Conc Go.ConcN
section
variable{P:aO} {c:fg} {Z:ak->ai->Prop} {Y X:Nat} {W:List aY} {w:ai}
def RU{g:aw}(f:∀b,(∀e∈W,xV c b e)->∀e∈g.frame::g.callers,xV c b e)(k:CY P c Z g w):EY P c Z Y W X g w:=by intro j d b i sl q t a B l h;exact k j d b i sl q t a B ⟨h.sub,h.hp,h.Mn,h.le,h.co,h.g0,h.old⟩ (f b h.fr)
def grow(a:Ren)(V:Nat->Prop):Ren:=λl r=>l=r/\(a l r\/V l)
def only(V:Nat->Prop):Ren:=λl r=>l=r/\V l
def Sl(a:Ren)(V:Nat->Prop):Sub (grow a V):=λ_ _ h=>h.1
def Fs{a:Ren}{V:Nat->Prop}:Ren.Ok P (grow a V):=⟨λ_ _ _ h k=>h.1.symm.trans k.1,λ_ _ _ h k=>h.1.trans k.1.symm,λ_ _ h=>by rw[h.1]⟩
def Ac{a:Ren}{V:Nat->Prop}(s:Sub a):Ext P a (grow a V):=⟨λ_ _ h=>⟨s _ _ h,.inl h⟩,Fs⟩
def Tf{a:Ren}{V:Nat->Prop}:Ext P (only V) (grow a V):=⟨λ_ _ h=>⟨h.1,.inr h.2⟩,Fs⟩
def bS.grown{S:gM}{f:Ren}{V CB:Nat->Prop}{w w':ai}(s:Sub f)(h:bS P S f w w)(d:w.heap.size<=w'.heap.size)(z:∀b,f b b->¬CB b->w'.heap[b]? =w.heap[b]?)(y:∀b,CB b\/V b->∃o,w'.heap[b]? =ae o/\ic S (only V) o o)(B:∀a x,S.mem a=ae x->¬V a.block/\w'.heap[a.block]? =w.heap[a.block]?):bS P S (grow f V) w' w':=by
 refine⟨Fs,λl r x=> ?_,be h.kr d,be h.kr d,λa x i=> ?_⟩;rotate_left;obtain⟨m,D,t,u⟩:=h.old a x i;obtain⟨p,q⟩:=B a x i;refine⟨λr c=> ?_,λl A=> ?_,(iW q).trans t,(iW q).trans u⟩;obtain⟨rfl,c⟩:=c;exact c.elim (m _) p;obtain⟨rfl,c⟩:=A;exact c.elim (m _) p;obtain⟨rfl,i⟩:=x;by_cases k:CB l\/V l;obtain⟨o,g,j⟩:=y l k;exact⟨o,o,g,g,j.mono (P:=P) Tf⟩;have n:f l l:=i.resolve_right λh=>k (.inr h)
 obtain⟨o,C,g,j,v⟩:=h.obj _ _ n;have e:=z l n λh=>k (.inl h)
 exact⟨o,C,e.trans g,e.trans j,v.mono (Ac (P:=P) s)⟩
end
end Rel
namespace Rel
open Go.Conc
section
variable{c d:fg}
def FL(g:c.fn=d.fn)(i:c.int=d.int)(b:c.bad=d.bad)(h:c.kc=d.kc)(m:c.bd=d.bd)(n:c.kd=d.kd)(p:c.elem=d.elem)(q:c.ext=d.ext):jL c=jL d:=by
 have e:ed c=ed d:=funext λo=>by cases o<;>simp[ed,g,b]
 have r:sC c=sC d:=funext λf=>funext λj=>funext λx=>by unfold sC;rw[e,b,h,m,n]
 have v:∀f l j,kx c f j l=kx d f j l:=λf l=>by
  induction l with|nil=>intro j;rfl|cons x l w=>intro j;unfold kx;rw[w,r]
 have s:nW c=nW d:=funext λk=>by unfold nW;rw[e,g,q];simp only[v]
 have t:oz c=oz d:=funext λo=>by unfold oz;rw[e,s,g,i]
 have a:zP c=zP d:=funext λo=>funext λk=>by unfold zP;rw[b,h]
 have u:yP c=yP d:=funext λo=>by unfold yP;rw[e,b,h,p,a]
 exact funext λo=>by unfold jL;rw[t,u]
def FK(k:c.fn=d.fn)(m:c.int=d.int)(j:c.bad=d.bad)(n:c.kc=d.kc)(q:c.bd=d.bd)(r:c.kd=d.kd)(s:c.elem=d.elem)(t:c.ext=d.ext):∀x:Code,dj c x=dj d x:=by
 have l:ed c=ed d:=funext λo=>by cases o<;>simp[ed,k,j]
 have u:=FL k m j n q r s t;intro x
 induction x with|region w v d=>simp only[dj,u]|seq a b e g=>simp only[dj,e,g]|cond o a b e g=>simp only[dj,e,g,l]|block i b h=>simp only[dj,h]|loop b h=>simp only[dj,h]|scope b h=>simp only[dj,h]|rangeFunc f p a b e g=>simp only[dj,e,g,l,j]|_=>rfl
def I0(b:c.bad=[])(e:ed c=ed d)(a:d.bad=[])(f:bG):∀(l:List ca)(j:Nat),kx c f j l=kx d f j l:=by
 intro l
 induction l with|nil=>intro j;rfl|cons x l g=>intro j;unfold kx;rw[g];congr 1;unfold sC;rw[e];cases x<;>simp[b,a]
def yr(m:c.bad=[])(l:d.bad=[])(n:c.fn=d.fn)(q:c.int=d.int)(r:c.ext=d.ext):∀x:Code,dj c x=dj d x:=by
 have h:ed c=ed d:=funext λo=>by cases o<;>simp[ed,n,m,l]
 have u:=I0 m h l;have s:nW c=nW d:=funext λk=>by unfold nW;rw[h,n,r];simp only[u]
 have t:jL c=jL d:=funext λo=>by unfold jL;rw[wJ m,wJ l];congr 1;unfold oz;rw[h,s,n,q]
 intro x
 induction x with|region w v d=>simp only[dj,t]|seq a b e g=>simp only[dj,e,g]|cond o a b e g=>simp only[dj,e,g,h]|block i b j=>simp only[dj,j]|loop b j=>simp only[dj,j]|scope b j=>simp only[dj,j]|rangeFunc f p a b e g=>simp only[dj,e,g,h,m,l]|_=>rfl
end
section
variable{S S':gM} {Z:Ren}
def GN.sig(h:∀f,S.fn f->S'.fn f):∀{a b:Fn},GN S Z a b->GN S' Z a b|_,_,.func s=>.func (h _ s)|_,_,.yield x=>.yield x
def bh.sig(h:∀f,S.fn f->S'.fn f){v a:ak}(x:bh S Z v a):bh S' Z v a:=by
 induction x with|bool=>exact .bool _|int=>exact .int _ _|string=>exact .string _|eF=>exact .eF|pointer x=>exact .pointer x|fl=>exact .fl _ _|slice l c x=>exact .slice _ _ x|r8=>exact .r8|map x=>exact .map x|oT=>exact .oT|func f e _ g _ b d=>exact .func (f.sig h) e b g d|nilFunc=>exact .nilFunc|iface t _ i=>exact .iface _ i|nilIface=>exact .nilIface|agg s _ i=>exact .agg s i|tuple s _ i=>exact .tuple s i
def ic.sig(h:∀f,S.fn f->S'.fn f)(g:∀x,S.code x->S'.code x):∀{o j:Obj},ic S Z o j->ic S' Z o j|_,_,.loop x=>.loop ⟨x.state,x.pending,λc n=>g _ (x.okP c n),x.fn,fO.mono x.tmps λ_ _ y=>bh.sig h y,x.params,x.assign,g _ x.Zt,x.body,g _ x.okB,x.defers⟩|_,_,.number l x=>.number l x|_,_,.deferred b=>.deferred b|_,_,.cells t m x=>.cells t m (fO.mono x λ_ _ y=>bh.sig h y)|_,_,.map k x=>.map k ⟨x.size,λi a b d e=>⟨(x.at_ i a b d e).key.sig h,(x.at_ i a b d e).val.sig h,(x.at_ i a b d e).born⟩⟩|_,_,.stringIter s p=>.stringIter s p|_,_,.mapIter a b c x=>.mapIter a b c x
end
end Rel
end Go.Proofs.YtknejlcijdngoaaGreat
